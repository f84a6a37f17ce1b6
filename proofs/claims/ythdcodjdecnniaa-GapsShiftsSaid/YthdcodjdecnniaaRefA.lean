/-
  The reference's tracker in memory ('Ref'); New, Cum, Dups, Has, Top.
-/
import Derived.Test.YthdcodjdecnniaaBlk
namespace Go.Proofs.Ythdcodjdecnniaa
open Go.RowKit

def i64s (xs : List Int) : List Value := xs.map (Value.int .i64)
theorem i64s_one (xs : List Int) : ∀ u ∈ i64s xs, u.oneCell' = true := by
  intro u hu
  obtain ⟨_, _, rfl⟩ := List.mem_map.1 hu
  rfl
theorem i64s_get {xs : List Int} {k : Nat} (h : k < xs.length) : (i64s xs)[k]? = some (.int .i64 (xs.getD k 0)) := by simp [i64s, List.getD, h]

structure Ref (B : Nat → Prop) (w : World) (y : Nat) (t : T) : Prop where
  ok : t.ok
  apart : ¬ B y
  low : ∀ b, B b → b < w.heap.size
  blk : ∃ vf vd, w.heap[y]? = some (.cells #[.int .u32 t.cum, vf, vd] 71 (0, 0)) ∧ SliceIn B w 1 vf t.far.length (i64s t.far) ∧ SliceIn B w 1 vd t.dups.length (u32s t.dups)

section
variable {B : Nat → Prop} {w w' : World} {y : Nat} {t : T} {S : List Nat}
theorem Ref.lt (h : Ref B w y t) : y < w.heap.size := by
  obtain ⟨vf, vd, h1, _⟩ := h.blk
  exact lt_of_block h1
theorem Ref.kept (h : Ref B w y t) (hk : Kept S w w') (hy : y ∉ S) (hS : ∀ b, B b → b ∉ S) : Ref B w' y t := by
  obtain ⟨vf, vd, h1, h2, h3⟩ := h.blk
  exact ⟨h.ok, h.apart, fun b hb => Nat.lt_of_lt_of_le (h.low b hb) hk.size, vf, vd, hk.blk h1 hy, h2.kept hk (fun b _ hb => hS b hb), h3.kept hk (fun b _ hb => hS b hb)⟩
theorem Ref.kept0 (h : Ref B w y t) (hk : Kept [] w w') : Ref B w' y t := h.kept hk (by simp) (fun _ _ => by simp)
end

/-- What an operation on the reference's tracker leaves. -/
def RefTo (B : Nat → Prop) (w : World) (y : Nat) (t : T) (w' : World) : Prop := ∃ B', Ref B' w' y t ∧ (∀ b, B' b → B b ∨ w.heap.size ≤ b) ∧ Kept [y] w w'

def RefNew (f : Int) (w : World) (e : Ending) (w' : World) : Prop := e = .returned (.pointer (some ⟨w.heap.size, 0, none⟩)) ∧ Ref (fun _ => False) w' w.heap.size (T.new f) ∧ Kept [] w w'

set_option maxHeartbeats 400000 in
theorem RefNew_any (f : Int) (w : World) : Calls Try.prog 28 #[.int .u32 f] w (RefNew f w) := by
  have HF := hid (show RefNew f w (.returned (.pointer (some ⟨w.heap.size, 0, none⟩))) (w.alloc (.cells #[.int .u32 ((f - 1) % 4294967296), .slice none 0 0, .slice none 0 0] 71 (0, 0))) from
    ⟨rfl, ⟨T.new_ok f, id, fun _ h => h.elim, _, _, blk_new _ _, SliceIn.nil _ _, SliceIn.nil _ _⟩, (Kept.refl _ _).alloc _⟩)
  go_enter Try.func28, Try.ntmps28
  go_wp2
  go_ret
  exact HF.out

theorem RefCum_any {B : Nat → Prop} {w : World} {y : Nat} {t : T} (h : Ref B w y t) : Calls Try.prog 36 #[.pointer (some ⟨y, 0, none⟩)] w fun e w' => e = .returned (.int .u32 t.cum) ∧ w = w' := by
  obtain ⟨vf, vd, h1, _⟩ := h.blk
  have c0 := blk_cell h1 0
  simp at c0
  clear h h1
  go_enter Try.func36, Try.ntmps36
  go_wp2
  go_ret
  exact ⟨rfl, rfl⟩

def RefTold (B : Nat → Prop) (w : World) (y : Nat) (t : T) (e : Ending) (w' : World) : Prop :=
  ∃ dv, e = .returned dv ∧ SliceIn B w' 1 dv t.dups.length (u32s t.dups) ∧ Ref B w' y t.told ∧ Kept [y] w w'

theorem RefDups_any {B : Nat → Prop} {w : World} {y : Nat} {t : T} (h : Ref B w y t) : Calls Try.prog 22 #[.pointer (some ⟨y, 0, none⟩)] w (RefTold B w y t) := by
  obtain ⟨vf, vd, h1, h2, h3⟩ := h.blk
  have hk : Kept [y] w (w.setCell ⟨y, 2, none⟩ (.slice none 0 0)) := (Kept.refl _ w).setCell (.inl (by simp)) _
  have hS : ∀ b, B b → b ∉ [y] := fun b hb hm => by simp at hm; subst hm; exact h.apart hb
  have HF := hid (show RefTold B w y t (.returned vd) (w.setCell ⟨y, 2, none⟩ (.slice none 0 0)) from
    ⟨vd, rfl, h3.kept hk (fun b _ hb => hS b hb), ⟨T.told_ok h.ok, h.apart, fun b hb => Nat.lt_of_lt_of_le (h.low b hb) hk.size, vf, _, blk_set h1 2 _, h2.kept hk (fun b _ hb => hS b hb), SliceIn.nil _ _⟩, hk⟩)
  have c2 := blk_cell h1 2
  have f2 := blk_free h1
  simp at c2
  clear h h1 h2 h3 hk hS
  go_enter Try.func22, Try.ntmps22
  go_wp2
  go_ret
  exact HF.out

theorem far_get {t : T} (h : t.ok) {k : Nat} (hk : k < t.far.length) : 2 ≤ t.far.getD k 0 ∧ t.far.getD k 0 ≤ 256 := h.far.2 _ (getD_mem hk)

set_option maxHeartbeats 1000000 in
theorem RefHas_any {B : Nat → Prop} {w : World} {y : Nat} {t : T} (h : Ref B w y t) {n : Int} (hn : 0 ≤ n ∧ n < 4294967296) :
    Calls Try.prog 38 #[.pointer (some ⟨y, 0, none⟩), .int .u32 n] w fun e w' => e = .returned (.bool (t.has n)) ∧ Kept [] w w' := by
  have HA := hid (RefAhead_any 32 t.cum n w ⟨h.ok.cum0, h.ok.cum1⟩ hn)
  have hr := @ahead_range 32 t.cum n rfl
  have HG := hid (show t.has n = (decide (aheadBy 32 t.cum n ≤ 0) || decide (aheadBy 32 t.cum n ∈ t.far)) from rfl)
  obtain ⟨vf, vd, h1, h2, h3⟩ := h.blk
  have HV := hid h2
  have HB := hid h1
  have hlen := rising_short h.ok.far (by omega)
  have hyl := lt_of_block h1
  have c0 := blk_cell h1 0
  simp at c0
  obtain ⟨ao, cap, rfl⟩ := h2.form
  have hw := wrong32 [t.cum, n]
  clear h h1 h2 h3 hn
  generalize aheadBy 32 t.cum n = d at *
  go_enter Try.func38, Try.ntmps38
  go_wp2_with fail
  refine HA.out.mono ?_
  rintro e w1 ⟨rfl, hk⟩
  have HK := hid hk
  have HV := hid (HV.out.kept hk (fun _ _ _ => by simp))
  have c1 := blk_cell (hk.blk HB.out (by simp)) 1
  simp at c1
  clear hk c0
  go_wp2_with fail
  go_loop [7, 8] (fun a i => ∃ k : Nat, k ≤ t.far.length ∧ i = .int .i64 k ∧ a = .bool (decide (d ≤ 0) || decide (d ∈ t.far.take k))) (fun a i => t.far.length - (intOf i).toNat)
  case atStart => exact ⟨0, Nat.zero_le _, rfl, by simp⟩
  case round =>
    obtain ⟨k, hk, rfl, rfl⟩ := hrel
    by_cases hlt : k < t.far.length
    · obtain ⟨b, off, hao, _, _, _, hc⟩ := HV.out.rows (by omega)
      subst hao
      have ck := hc k _ (i64s_get hlt)
      clear hc
      have HM := hid (show decide (d ∈ t.far.take (k + 1)) = (decide (d ∈ t.far.take k) || (t.far.getD k 0 == d)) from by
        rw [List.take_succ_eq_append_getElem hlt]
        have e : t.far.getD k 0 = t.far[k] := by simp [List.getD, hlt]
        rw [e, Bool.eq_iff_iff, Bool.or_eq_true, decide_eq_true_eq, decide_eq_true_eq, beq_iff_eq, List.mem_append, List.mem_singleton]
        exact ⟨fun h => h.imp id Eq.symm, fun h => h.imp id Eq.symm⟩)
      generalize t.far.getD k 0 = z at *
      cases hb : (decide (d ≤ 0) || decide (d ∈ t.far.take k)) with
      | true =>
        have HBB := hid hb
        clear hb
        go_wp2
        go_round
        case rel => exact ⟨k + 1, by omega, by go_num, by rw [HM.out, ← Bool.or_assoc, HBB.out]; rfl⟩
        case measure => simp [intOf]; omega
      | false =>
        have HBB := hid hb
        clear hb
        go_wp2
        go_round
        case rel => exact ⟨k + 1, by omega, by go_num, by rw [HM.out, ← Bool.or_assoc, HBB.out]; simp⟩
        case measure => simp [intOf]; omega
    · obtain rfl : k = t.far.length := by omega
      go_wp2
      go_ret
      exact ⟨by rw [HG.out]; rfl, HK.out⟩

theorem topOf_get (l : List Int) : topOf l = l.getD (l.length - 1) 0 := by
  rw [topOf, List.getLastD_eq_getLast?, List.getLast?_eq_getElem?, List.getD_eq_getElem?_getD]
theorem topOf_nil {l : List Int} (h : l.length = 0) : topOf l = 0 := by
  rw [List.eq_nil_of_length_eq_zero h]; rfl

set_option maxHeartbeats 1000000 in
theorem RefTop_any {B : Nat → Prop} {w : World} {y : Nat} {t : T} (h : Ref B w y t) : Calls Try.prog 37 #[.pointer (some ⟨y, 0, none⟩)] w fun e w' => e = .returned (.int .u32 t.top) ∧ Kept [] w w' := by
  obtain ⟨vf, vd, h1, h2, h3⟩ := h.blk
  have c0 := blk_cell h1 0
  have c1 := blk_cell h1 1
  simp at c0 c1
  have htop := top_range h.ok.far
  have hT := hid (show t.top = (t.cum + topOf t.far) % 4294967296 from rfl)
  have HK := hid (Kept.refl [] w)
  have hlen := rising_short h.ok.far (by omega)
  have hc0 := h.ok.cum0
  have hc1 := h.ok.cum1
  obtain ⟨ao, cap, rfl⟩ := h2.form
  by_cases hl : t.far.length = 0
  · have HF := hid (show t.top = t.cum from by rw [hT.out, topOf_nil hl]; omega)
    have b0 : ((t.far.length : Int) == 0) = true := by simp [hl]
    clear h h1 h2 h3 hl htop
    go_enter Try.func37, Try.ntmps37
    go_wp2
    go_ret
    exact ⟨by rw [HF.out]; rfl, HK.out⟩
  · have b0 : ((t.far.length : Int) == 0) = false := beq_eq_false_iff_ne.2 (by omega)
    obtain ⟨b, off, hao, _, _, _, hc⟩ := h2.rows (by omega)
    subst hao
    have ck := hc (t.far.length - 1) _ (i64s_get (by omega))
    rw [← topOf_get t.far] at ck
    have hidx : ((t.far.length : Int) - 1).toNat = t.far.length - 1 := by omega
    have hw : IntKind.u32.wrap (topOf t.far) = topOf t.far := IntWalk.u32_in _ (by omega)
    have hpos : 0 < t.far.length := by omega
    clear h h1 h2 h3 hl hc
    go_enter Try.func37, Try.ntmps37
    go_wp2
    go_quiet (fail)
    go_wp2
    go_ret
    exact ⟨by rw [hT.out]; rfl, HK.out.drewN _⟩

end Go.Proofs.Ythdcodjdecnniaa
