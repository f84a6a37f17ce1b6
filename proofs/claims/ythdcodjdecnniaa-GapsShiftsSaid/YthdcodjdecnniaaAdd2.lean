/-
  Add on a tracker in memory: a number that is new.
-/
import Derived.Test.YthdcodjdecnniaaAdd
namespace Go.Proofs.Ythdcodjdecnniaa
open Go.RowKit

theorem step_copy_kept {P : Program} {ops : Array Oper} {o : Oper} {a : Act} {w : World} {K : Act → World → Prop} {Q : Exit → Act → World → Prop} {E : Prop} (hgd : o.guard = none) (d s : Operand) (dT sT : TypeId)
    (ho : o.op = .call { callee := .builtin .copy, args := #[d, s], argTypes := #[dT, sT] }) (elem : TypeId) (hu : P.underlying dT = some (.slice elem)) (hsz : (P.info? elem).map (·.size) = some 1)
    (dLen dCap sLen sCap : Nat) (g off : Nat) (ad : Addr) (hd : a.eval d = .slice (some ⟨g, off, none⟩) dLen dCap) (hs : a.eval s = .slice (some ad) sLen sCap)
    (cur : List Value) (t : TypeId) (hg : w.heap[g]? = some (.cells cur.toArray t (0, 0))) (cs : List Value) (hn : cs.length = Nat.min sLen dLen)
    (hsrc : ∀ j v, cs[j]? = some v → w.cell? (ad.add j) = some v) (hfit : off + cs.length ≤ cur.length) (h1 : ∀ v ∈ cs, v.oneCell' = true)
    (h : ∀ w', Hid (w'.heap[g]? = some (.cells (splice cur off cs).toArray t (0, 0))) → Hid (Kept [g] w w') → K (a.put o.dst (goInt cs.length)) w') :
    if Region.wanted o (yielded ops a.tmps) = true then Oper.wp P o a w K Q else E := by
  have hw : Region.wanted o (yielded ops a.tmps) = true := by simp [Region.wanted, hgd]
  rw [if_pos hw]
  have hrun := run_copy_row (P := P) w dT sT o.type elem g off dLen dCap ad sLen sCap cur.toArray t cs hu hsz hg hn hsrc (by simpa using hfit) h1
  unfold Oper.wp
  simp [execOp, ho, resolve, invoke, builtin, hd, hs, hrun, Result.andThen]
  refine h _ (show _ = _ by simpa [splice] using setRow_heap w g _ _ t _ hg) ⟨rfl, rfl, rfl, by simp [World.setRow], fun k hk hne => setRow_other w g k _ (by simpa using hne)⟩

/-- What is handed to copy. -/
def later (L : List Value) : List Value := (L.drop 2).take 257

theorem Cells.later_one {c : Int} {l : List Int} {L : List Value} {dv : Value} (h : Cells c l L dv) : ∀ v ∈ later L, v.oneCell' = true := by
  intro v hv
  obtain ⟨i, hi, rfl⟩ := List.mem_iff_getElem.1 hv
  have hl : (later L).length = 257 := by simp [later, h.len]
  have e : (later L)[i]? = L[2 + i]? := by
    simp only [later]
    rw [List.getElem?_take_of_lt (by omega), List.getElem?_drop]
  have := h.held (i + 1) (by omega) (by omega)
  rw [show 1 + (i + 1) = 2 + i by omega, ← e, List.getElem?_eq_getElem hi] at this
  rw [Option.some.inj this]
  rfl

theorem Cells.shifted {c c' : Int} {l : List Int} {L : List Value} {dv : Value} (h : Cells c (1 :: l) L dv) (hr : Rising 1 (1 :: l)) : Cells c' (l.map (· - 1)) ((splice L 1 (later L)).set 0 (.int .u32 c')) dv := by
  have hl : (later L).length = 257 := by simp [later, h.len]
  have e : ∀ i, 1 ≤ i → i ≤ 257 → (splice L 1 (later L))[i]? = L[1 + i]? := by
    intro i h1 h2
    simp only [splice]
    rw [List.getElem?_append_right (by simp; omega), List.getElem?_append_left (by simp [h.len, hl]; omega)]
    have : (later L)[i - 1]? = L[2 + (i - 1)]? := by
      simp only [later]
      rw [List.getElem?_take_of_lt (by omega), List.getElem?_drop]
    simp [h.len, this, show 2 + (i - 1) = 1 + i by omega]
  have e2 : ∀ i, 258 ≤ i → i ≤ 259 → (splice L 1 (later L))[i]? = L[i]? := by
    intro i h1 h2
    simp only [splice]
    rw [List.getElem?_append_right (by simp; omega), List.getElem?_append_right (by simp [h.len, hl]; omega), List.getElem?_drop]
    have hi : 1 + (later L).length + (i - (L.take 1).length - (later L).length) = i := by rw [hl, List.length_take, h.len]; omega
    rw [hi]
  obtain ⟨r1, r2, _⟩ := rising_cons hr
  refine ⟨by rw [List.length_set, length_splice _ _ _ (by rw [hl, h.len]; omega)]; exact h.len, ?_, fun i h1 h2 => ?_, ?_, ?_⟩
  · rw [List.getElem?_set_self (by rw [length_splice _ _ _ (by rw [hl, h.len]; omega), h.len]; omega)]
  · rw [List.getElem?_set_ne (by omega)]
    by_cases hi : i = 257
    · subst hi
      rw [e2 _ (by omega) (by omega)]
      have := h.held 257 (by omega) (by omega)
      rw [this]
      have f1 : ¬ ((257 : Nat) : Int) ∈ (1 :: l) := fun hm => by have := hr.2 _ hm; omega
      have f2 : ¬ ((257 : Nat) : Int) ∈ l.map (· - 1) := fun hm => by
        obtain ⟨y, hy, hy2⟩ := List.mem_map.1 hm
        have := r2.2 y hy
        omega
      simp only [f1, f2]
    · rw [e _ (by omega) (by omega)]
      have := h.held (i + 1) (by omega) (by omega)
      rw [show 1 + (1 + i) = 1 + (i + 1) by omega, this]
      congr 2
      have : ((i + 1 : Nat) : Int) ∈ 1 :: l ↔ (i : Int) ∈ l.map (· - 1) := by
        rw [List.mem_cons, List.mem_map]
        constructor
        · rintro (h | h)
          · omega
          · exact ⟨_, h, by omega⟩
        · rintro ⟨y, hy, hy2⟩
          have : y = ((i + 1 : Nat) : Int) := by omega
          rw [← this]
          exact .inr hy
      simp only [this]
  · have := h.held 1 (by omega) (by omega)
    exact ⟨_, by rw [List.getElem?_set_ne (by omega), e 1 (by omega) (by omega)]; exact this⟩
  · rw [List.getElem?_set_ne (by omega), e2 _ (by omega) (by omega)]
    exact h.dups

theorem Cells.kept0 {c : Int} {l : List Int} {L : List Value} {dv : Value} (h : Cells c l L dv) : (splice L 1 (later L))[0]? = some (.int .u32 c) := by
  have := h.cum
  simp only [splice]
  rw [List.getElem?_append_left (by simp [h.len]), List.getElem?_take_of_lt (by omega)]
  exact this

theorem Cells.taken {c : Int} {l : List Int} {L : List Value} {dv : Value} (h : Cells c l L dv) {n : Int} (h1 : 1 ≤ n) (h2 : n ≤ 256) : Cells c (ins n l) (L.set (1 + n.toNat) (.bool true)) dv := by
  refine ⟨by simp [h.len], by rw [List.getElem?_set_ne (by omega)]; exact h.cum, fun i h3 h4 => ?_, ?_, by rw [List.getElem?_set_ne (by omega)]; exact h.dups⟩
  · by_cases hi : i = n.toNat
    · subst hi
      rw [List.getElem?_set_self (by rw [h.len]; omega)]
      have : ((n.toNat : Nat) : Int) = n := by omega
      rw [this]
      simp [mem_ins]
    · rw [List.getElem?_set_ne (by omega), h.held i h3 h4]
      have : ((i : Int) ∈ ins n l) ↔ (i : Int) ∈ l := by
        rw [mem_ins]
        constructor
        · rintro (h | h)
          · omega
          · exact h
        · exact .inr
      simp only [this]
  · obtain ⟨b, hb⟩ := h.zero
    exact ⟨b, by rw [List.getElem?_set_ne (by omega)]; exact hb⟩

theorem rising_one {l : List Int} (h : Rising 1 l) (h1 : (1 : Int) ∈ l) : ∃ m, l = 1 :: m := by
  cases l with
  | nil => cases h1
  | cons x m =>
    obtain ⟨h2, _, h3, _⟩ := rising_cons h
    rcases List.mem_cons.1 h1 with e | e
    · exact ⟨m, by rw [e]⟩
    · have := h2 1 e; omega
theorem settle_stays {c : Int} {l : List Int} (h : (1 : Int) ∉ l) : settle c l = (c, l) := by
  cases l with
  | nil => exact settle_nil c
  | cons x m => exact settle_off (fun e => h (by simp [e]))

def cumOf (w : World) (x : Nat) : Int := match w.cell? ⟨x, 0, none⟩ with | some (.int _ n) => n | _ => 0
theorem cumOf_eq {w : World} {x : Nat} {c : Int} {k : IntKind} (h : w.cell? ⟨x, 0, none⟩ = some (.int k c)) : cumOf w x = c := by simp [cumOf, h]

def Going (w2 : World) (x : Nat) (E : Int × List Int) (dv : Value) (wr : World) : Prop :=
  ∃ c l L, wr.heap[x]? = some (.cells L.toArray 60 (0, 0)) ∧ Cells c l L dv ∧ Rising 1 l ∧ settle c l = E ∧ Kept [x] w2 wr

set_option maxHeartbeats 1000000 in
theorem Add_far {w : World} {x : Nat} {o : Option Nat} {t : T} (h : Track w x o t) {n : Int} (hn : 0 ≤ n ∧ n < 4294967296) (hh : ¬ t.has n = true) (hf : 256 < aheadBy 32 t.cum n) :
    Calls Try.prog 14 #[.pointer (some ⟨x, 0, none⟩), .int .u32 n] w (Added w x o t n) := by
  have HA := hid (ahead_any h hn)
  have HT := hid h
  have HN := hid hn
  have b0 : t.has n = false := by simpa using hh
  have HH := hid hh
  have HX := hid (show t.add n = t ∧ t.addE n = 10 from by simp [T.add, T.addE, hh, hf])
  clear h hn hh
  go_enter Try.func14, Try.ntmps14
  go_wp2_with fail
  refine HA.out.mono ?_
  rintro e w1 ⟨rfl, hk1⟩
  have HT1 := hid (HT.out.kept hk1 (by simp) (by simp))
  have HK1 := hid hk1
  clear hk1
  go_wp2_with fail
  refine (Has_any HT1.out HN.out).mono ?_
  rintro e w2 ⟨rfl, hk2⟩
  have HF := hid (show Added w x o t n (.returned (.int .i64 10)) w2 from
      ⟨by rw [HX.out.2], o, by rw [HX.out.1]; exact HT1.out.kept hk2 (by simp) (by simp), (HK1.out.tr hk2).mono (by simp), .inl rfl⟩)
  clear hk2 HK1 HT1
  go_wp2
  go_ret
  exact HF.out

set_option maxHeartbeats 1000000 in
theorem Add_new {w : World} {x : Nat} {o : Option Nat} {t : T} (h : Track w x o t) {n : Int} (hn : 0 ≤ n ∧ n < 4294967296) (hh : ¬ t.has n = true) (hf : ¬ 256 < aheadBy 32 t.cum n) :
    Calls Try.prog 14 #[.pointer (some ⟨x, 0, none⟩), .int .u32 n] w (Added w x o t n) := by
  have HA := hid (ahead_any h hn)
  have HT := hid h
  have HN := hid hn
  have b0 : t.has n = false := by simpa using hh
  have HX := hid (show (t.add n) = { t with cum := (settle t.cum (ins (aheadBy 32 t.cum n) t.far)).1, far := (settle t.cum (ins (aheadBy 32 t.cum n) t.far)).2 } ∧ t.addE n = 0 from by simp [T.add, T.addE, hh, hf])
  obtain ⟨hd0, hnot⟩ := T.has_no hh
  have HR := hid (rising_ins h.ok.far hnot (by omega) (by omega))
  have HOK := hid (T.add_ok h.ok hn)
  clear h hn hh hnot
  generalize hd : aheadBy 32 t.cum n = d at *
  have HD := hid hd
  clear hd
  go_enter Try.func14, Try.ntmps14
  go_wp2_with fail
  refine HA.out.mono ?_
  rintro e w1 ⟨rfl, hk1⟩
  have HT1 := hid (HT.out.kept hk1 (by simp) (by simp))
  have HK1 := hid hk1
  clear hk1
  go_wp2_with fail
  refine (Has_any HT1.out HN.out).mono ?_
  rintro e w2 ⟨rfl, hk2⟩
  have HT2 := hid (HT1.out.kept hk2 (by simp) (by simp))
  have HK := hid (HK1.out.tr hk2)
  clear hk2 HK1 HT1
  obtain ⟨L, dv, g1, g2, g3, g4⟩ := HT2.out.blk
  have ch := g2.cellh g1 (n := d) (by omega) (by omega)
  have fh := blk_free g1 
  have hxl := lt_of_block g1
  have HS := hid (show Going w2 x (settle t.cum (ins d t.far)) dv (w2.setCell ⟨x, 1 + d.toNat, none⟩ (.bool true)) from
    ⟨_, _, _, list_set g1 _ _, g2.taken (by omega) (by omega), HR.out, rfl, (Kept.refl _ _).setCell (.inl (by simp)) _⟩)
  have HG3 := hid g3
  have HG4 := hid g4
  clear g1 g2 g3 g4
  go_wp2_with fail
  go_loopw [43] (fun _ wr => Going w2 x (settle t.cum (ins d t.far)) dv wr) (fun _ wr => (((settle t.cum (ins d t.far)).1 - cumOf wr x) % 4294967296).toNat)
  case atStart => exact HS.out
  case round =>
    obtain ⟨c, l, L1, r1, r2, r3, r4, r5⟩ := hrel
    have hcum := cumOf_eq (r2.cell0 r1)
    have HR5 := hid r5
    have hsz := lt_of_block r1
    by_cases h1 : (1 : Int) ∈ l
    · obtain ⟨m, rfl⟩ := rising_one r3 h1
      have c2 : wr.cell? ⟨x, 2, none⟩ = some (.bool true) := by have := r2.cellh r1 (n := 1) (by omega) (by omega); simpa using this
      have HR1 := hid r1
      have HR2 := hid r2
      have HR3 := hid r3
      have HR4 := hid r4
      have hlen : (later L1).length = 257 := by simp [later, r2.len]
      have HC := hid (fun j v (hv : (later L1)[j]? = some v) => show wr.cell? (Addr.add ⟨x, 2, none⟩ j) = some v from by
        have hadd : (⟨x, 2, none⟩ : Addr).add j = ⟨x, 2 + j, none⟩ := by unfold Addr.add; split <;> simp_all
        have hj : j < 257 := by have := (List.getElem?_eq_some_iff.1 hv).1; omega
        rw [hadd, list_cell r1, ← hv]
        simp only [later]
        rw [List.getElem?_take_of_lt hj, List.getElem?_drop])
      clear r1 r2 r3 r4 r5 h1
      go_wp2_with fail
      go_region_law (refine step_copy_kept rfl (.tmp 47) (.tmp 51) 62 62 rfl 4 Try.underlying62 (by kernel_rfl) 258 258 257 257 x 1 ⟨x, 2, none⟩ (by simp [Act.eval, Act.put]) (by simp [Act.eval, Act.put]) L1 60 HR1.out (later L1) (by rw [hlen]; rfl) HC.out (by rw [hlen, HR2.out.len]; omega) HR2.out.later_one ?_; intro w4 hg4 hk4; have c4 := (list_cell hg4.out 0).trans HR2.out.kept0; have f4 := blk_free hg4.out)
      have HK4 := hid (show Kept [x] wr w4 from ⟨hk4.out.os, hk4.out.tape, hk4.out.output, hk4.out.size, hk4.out.block⟩)
      clear hk4
      go_wp2_with fail
      go_roundw
      case rel => exact ⟨_, _, _, list_set hg4.out 0 _, HR2.out.shifted HR3.out, rising_down HR3.out, by rw [← HR4.out, settle_one], (HR5.out.tr HK4.out).setCell (.inl (by simp)) _⟩
      case measure =>
        have e : cumOf (w4.setCell ⟨x, 0, none⟩ (.int .u32 ((c + 1) % 4294967296))) x = (c + 1) % 4294967296 :=
          cumOf_eq (k := .u32) (World.cell?_setCell_same _ _ _ c4)
        rw [hcum, e, ← HR4.out]
        have hl := rising_short HR3.out (by omega)
        exact settle_down HR3.out (by simp at hl; omega)
    · have c2 : wr.cell? ⟨x, 2, none⟩ = some (.bool false) := by have := r2.cellh r1 (n := 1) (by omega) (by omega); simpa [h1] using this
      have HF := hid (show Added w x o t n (.returned (.int .i64 0)) wr from by
        rw [settle_stays h1] at r4
        have hk3 : Kept (x :: o.toList) w wr := (HK.out.mono (T := x :: o.toList) (by simp)).tr (r5.mono (T := x :: o.toList) (by simp))
        refine ⟨by rw [HX.out.2], o, ⟨HOK.out, ⟨L1, dv, r1, ?_, ?_, HG4.out⟩, HT2.out.apart⟩, hk3, .inl rfl⟩
        · rw [HX.out.1, ← r4]; exact r2
        · rw [HX.out.1]
          exact ownsRow_kept HG3.out r5 (fun k e => by
            have : x ≠ k := fun he => HT2.out.apart (by rw [← HG4.out, e, he])
            simp [Ne.symm this]))
      clear r1 r2 r3 r4 r5 h1
      go_wp2
      go_ret
      exact HF.out

theorem Add_any {w : World} {x : Nat} {o : Option Nat} {t : T} (h : Track w x o t) {n : Int} (hn : 0 ≤ n ∧ n < 4294967296) :
    Calls Try.prog 14 #[.pointer (some ⟨x, 0, none⟩), .int .u32 n] w (Added w x o t n) := by
  by_cases hh : t.has n = true
  · exact Add_known h hn hh
  · by_cases hf : 256 < aheadBy 32 t.cum n
    · exact Add_far h hn hh hf
    · exact Add_new h hn hh hf

end Go.Proofs.Ythdcodjdecnniaa
