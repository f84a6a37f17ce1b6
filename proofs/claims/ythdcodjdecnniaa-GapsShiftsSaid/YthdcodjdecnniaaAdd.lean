/-
  Add on a tracker in memory.
-/
import Derived.Test.YthdcodjdecnniaaHas
namespace Go.Proofs.Ythdcodjdecnniaa
open Go.RowKit

theorem info22 : (Try.prog.info? 22).map (fun i => (i.zero, i.size, i.bytes)) = some (some (.int .u32 0), 1, 4) := by kernel_rfl

def Added (w : World) (x : Nat) (o : Option Nat) (t : T) (n : Int) (e : Ending) (w' : World) : Prop :=
  e = .returned (.int .i64 (t.addE n)) ∧ ∃ o', Track w' x o' (t.add n) ∧ Kept (x :: o.toList) w w' ∧ (o' = o ∨ ∀ k, o' = some k → w.heap.size ≤ k)

theorem add_known {w w1 w3 : World} {x : Nat} {o : Option Nat} {t : T} {n : Int} {L : List Value} {dv v' : Value} (h : Track w x o t) (hn : 0 ≤ n ∧ n < 4294967296) (hh : t.has n = true) (hlt : t.dups.length < 16) (hk : Kept [] w w1)
    (h1 : w1.heap[x]? = some (.cells L.toArray 60 (0, 0))) (h2 : Cells t.cum t.far L dv) (hob : dv.ownBlock = o)
    (hown : w3.ownsRow 0 22 1 v' (t.dups.length + 1) (u32s t.dups ++ [.int .u32 n])) (hgrow : (w1.alloc (.cells #[.int .u32 n] 22)).grownBy w3 dv.ownBlock)
    (hvv : v'.ownBlock = dv.ownBlock ∨ ∀ k, v'.ownBlock = some k → w1.heap.size + 1 ≤ k) :
    Added w x o t n (.returned (.int .i64 17)) (w3.setCell ⟨x, 259, none⟩ v') := by
  have hx := h.lt
  have k3 : Kept o.toList w w3 := ((hk.mono (T := o.toList) (by simp)).alloc _).grown hgrow (fun k e => by rw [hob] at e; subst e; simp)
  have k4 : Kept (x :: o.toList) w (w3.setCell ⟨x, 259, none⟩ v') := (k3.mono (T := x :: o.toList) (fun y hy => .inl (by simp [hy]))).setCell (.inl (by simp)) _
  have hzz := hk.size
  have hap : v'.ownBlock ≠ some x := by
    rcases hvv with e | e
    · rw [e, hob]; exact h.apart
    · intro he; have := e x he; omega
  have k13 : Kept o.toList w1 w3 := ((Kept.refl _ _).alloc _).grown hgrow (fun k e => by rw [hob] at e; subst e; simp)
  have hb3 : w3.heap[x]? = some (.cells L.toArray 60 (0, 0)) := k13.blk h1 (fun hm => h.apart (by simpa using hm))
  · refine ⟨by simp [T.addE, hh], v'.ownBlock, ⟨T.add_ok h.ok hn, ⟨_, v', list_set hb3 259 _, ?_, ?_, rfl⟩, hap⟩, k4, ?_⟩
    · have e : (t.add n).cum = t.cum ∧ (t.add n).far = t.far := by simp [T.add, hh]
      rw [e.1, e.2]; exact cells_dups h2 _
    · have e : (t.add n).dups = t.dups ++ [n] := by simp [T.add, hh, hlt]
      rw [e]
      have hk' : Kept [x] w3 (w3.setCell ⟨x, 259, none⟩ v') := (Kept.refl _ _).setCell (.inl (by simp)) _
      have := ownsRow_kept hown hk' (fun k e => by
        have : x ≠ k := fun he => hap (by rw [e, he])
        simp [Ne.symm this])
      simpa [u32s] using this
    · rcases hvv with e | e
      · exact .inl (by rw [e, hob])
      · exact .inr fun k hk => by have := e k hk; omega


set_option maxHeartbeats 1000000 in
theorem Add_known {w : World} {x : Nat} {o : Option Nat} {t : T} (h : Track w x o t) {n : Int} (hn : 0 ≤ n ∧ n < 4294967296) (hh : t.has n = true) :
    Calls Try.prog 14 #[.pointer (some ⟨x, 0, none⟩), .int .u32 n] w (Added w x o t n) := by
  have HA := hid (ahead_any h hn)
  have HT := hid h
  have HN := hid hn
  obtain ⟨i0, hi, hz0, hz1, hz2⟩ := info_parts info22
  have hap := hid h.apart
  have hfew := h.ok.few
  clear h hn
  go_enter Try.func14, Try.ntmps14
  go_wp2_with fail
  refine HA.out.mono ?_
  rintro e w1 ⟨rfl, hk1⟩
  have HT1 := hid (HT.out.kept hk1 (by simp) (by simp))
  have HK1 := hid hk1
  clear hk1
  go_wp2_with fail
  refine (Has_any HT1.out HN.out).mono ?_
  rintro e w2 ⟨rfl, hk2⟩
  have HT2 := hid (HT1.out.kept hk2 (by simp) (by simp))
  have HK := hid (HK1.out.tr hk2)
  clear hk2 HK1 HT1
  obtain ⟨L, dv, g1, g2, g3, g4⟩ := HT2.out.blk
  have c0 := g2.cell259 g1
  have hxl := lt_of_block g1
  obtain ⟨ao, cap, rfl⟩ := (SliceIn.owned g3).form
  have HG1 := hid g1
  have HG2 := hid g2
  have HG3 := hid g3
  have HG4 := hid g4
  have HH := hid hh
  clear g1 g2 g3 g4
  by_cases hl : t.dups.length < 16
  · go_wp2_with (at_builtin; refine wpList_append_fresh _ rfl (.tmp 30) (.tmp 32) 49 rfl 0 22 i0 (.int .u32 0) 1 4 Try.underlying49 hi hz0 hz1 hz2 rfl (by decide) _ _ _ rfl (HG3.out.alloc _) (fun _ => True) _ 1 (u32s [n]) rfl ((one_in w2 n 22).mono (fun _ _ _ => trivial)) (u32s_one _) (by unfold maxLen; omega) (by omega) (by simp) ?_)
    intro v' w3 hown hgrow hvv
    have HF := hid (add_known HT.out HN.out HH.out hl HK.out HG1.out HG2.out HG4.out hown hgrow hvv)
    have k13 : Kept o.toList w2 w3 := ((Kept.refl _ _).alloc _).grown hgrow (fun k e => by rw [HG4.out] at e; subst e; simp)
    have hb3 := k13.blk HG1.out (fun hm => hap.out (by simpa using hm))
    have c3 := HG2.out.cell259 hb3
    have f3 := blk_free hb3
    obtain ⟨g', cap', rfl⟩ := (SliceIn.owned hown).form
    clear hown hgrow hvv k13 hb3
    go_wp2
    go_ret
    exact HF.out
  · have HF := hid (show Added w x o t n (.returned (.int .i64 17)) w2 from
      ⟨by simp [T.addE, HH.out], o, by
        have e : t.add n = t := by simp [T.add, HH.out, hl]
        rw [e]; exact HT2.out, HK.out.mono (by simp), .inl rfl⟩)
    go_wp2
    go_ret
    exact HF.out

end Go.Proofs.Ythdcodjdecnniaa
