/-
  Blocks on a tracker in memory.
-/
import Derived.Test.YthdcodjdecnniaaTop
namespace Go.Proofs.Ythdcodjdecnniaa
open Go.RowKit Go.Shelf
attribute [local go_sem] Oper.semAt_some

theorem info40 : (Try.prog.info? 40).map (fun i => (i.zero, i.size, i.bytes)) = some (some (.agg #[.int .u16 0, .int .u16 0]), 2, 4) := by kernel_rfl

def u16p (r : Int × Int) : List Value := [.int .u16 (r.1 % 65536), .int .u16 (r.2 % 65536)]
def u16s (l : List (Int × Int)) : List Value := l.flatMap u16p
theorem u16s_snoc (l : List (Int × Int)) (r : Int × Int) : u16s (l ++ [r]) = u16s l ++ u16p r := by simp [u16s]
def blocksOf (l : List Int) : List (Int × Int) := (runsOf l).take 16

theorem cell_two_new (w : World) (x y : Value) (t : TypeId) : ∀ j u, [x, y][j]? = some u → (w.alloc (.cells #[x, y] t)).cell? ((⟨w.heap.size, 0, none⟩ : Addr).add j) = some u := by
  intro j u hj
  have hadd : (⟨w.heap.size, 0, none⟩ : Addr).add j = ⟨w.heap.size, 0 + j, none⟩ := by unfold Addr.add; split <;> simp_all
  rw [hadd, Nat.zero_add, blk_cell (blk_new w _)]
  simpa using hj

/-- What the loop holds. -/
def Holds (n₀ : Nat) (pre : List (Int × Int)) (W : World) : Prop :=
  ∃ v, Boxed W n₀ 36 v ∧ W.ownsRow n₀ 40 2 v pre.length (u16s pre) ∧ pre.length ≤ 16

theorem holds_own (n₀ : Nat) : Own (fun pre W => Holds n₀ pre W) := by
  intro s A B row hs hg hrow
  obtain ⟨v, h1, h2, h3⟩ := hs
  obtain ⟨v', h1', h2', h3'⟩ := holdsRow_own n₀ n₀ 36 40 2 (fun pre : List (Int × Int) => pre.length) (fun pre => u16s pre) (fun pre _ => pre.length ≤ 16) s A B row ⟨v, h1, h2, h3⟩ hg hrow
  exact ⟨v', h1', h2', h3'⟩

set_option maxRecDepth 100000 in
set_option maxHeartbeats 2000000 in
theorem Blocks_in (n : Nat) (hn : 3 ≤ n) {w : World} {x : Nat} {o : Option Nat} {t : T} (h : Track w x o t) :
    CallsIn Fence.wide n Try.prog 18 #[.pointer (some ⟨x, 0, none⟩)] w fun e W' => ∃ v, e = .returned v ∧ W'.ownsRow w.heap.size 40 2 v (blocksOf t.far).length (u16s (blocksOf t.far)) ∧ Below w.heap.size w W' := by
  have h1 : 1 ≤ n := by omega
  obtain ⟨i0, hi, hz0, hz1, hz2⟩ := info_parts info40
  obtain ⟨L, dv, g1, g2, _⟩ := h.blk
  have hxl := lt_of_block g1
  have hr := h.ok.far
  refine callsIn_of_wp_marks Try.func18 rfl trivial ?_ rfl
  simp only [Try.ntmps18, List.size_toArray, List.length_cons, List.length_nil, Nat.reduceAdd, Nat.reduceSub, Array.replicate_succ, Array.replicate_zero, List.push_toArray, List.append_toArray, List.nil_append, List.cons_append]
  gi_wp2_with (refine ⟨trivial, ?_⟩; gi_at_call 30; refine (runs_in Fence.wide (n - 1) trivial rfl _ _).mono ?_; rintro e w' ⟨rfl, rfl⟩)
  have bO := Boxed.new w 36 (.slice none 0 0)
  have bN := Boxed.new (w.alloc (.cells #[.slice none 0 0] 36)) 24 (.pointer (some ⟨x, 0, none⟩))
  rw [World.size_alloc] at bN
  have hB0 : Below w.heap.size w ((w.alloc (.cells #[.slice none 0 0] 36)).alloc (.cells #[.pointer (some ⟨x, 0, none⟩)] 24)) := ((Below.refl _ w).alloc (Nat.le_refl _) _).alloc (by simp) _
  refine wpIn_rangeFunc_ownF (F := Fence.wide) rfl h1 (gf := 41) (lb := #[.pointer (some ⟨w.heap.size + 1, 0, none⟩)]) rfl trivial (enters_of Try.func41 (by kernel_rfl) rfl)
    (runs_stops Fence.wide (n - 1) trivial rfl (by omega) g2 hr (w.heap.size + 1) x _ bN.cell (blk_alloc _ (blk_alloc _ g1))) (fun _ _ => trivial) (fun _ _ _ _ _ _ _ _ => trivial) (Below.refl _ _) (fun _ => rfl)
    (fun pre W => Holds w.heap.size pre W ∧ Below w.heap.size w W)
    (fun c pre W => (c = .exit 0 ∧ ∃ p0 r, pre = p0 ++ [r] ∧ p0.length = 16 ∧ Holds w.heap.size p0 W) ∧ Below w.heap.size w W)
    (OwnFrom.and (Own.from (holds_own _) _) (ownFrom_below (Nat.le_refl _) (by simp; omega)))
    (fun c => OwnFrom.and (Own.from (fun s A B row hs hg hrow => by
      obtain ⟨e, p0, r, e2, e3, hh⟩ := hs
      exact ⟨e, p0, r, e2, e3, holds_own _ p0 A B row hh hg hrow⟩) _) (ownFrom_below (Nat.le_refl _) (by simp; omega)))
    ⟨⟨_, bO.alloc _, World.ownsRow_nil _ _ _ _, by simp⟩, hB0⟩
    (fun r => { tmps := #[.pointer (some ⟨x, 0, none⟩), undef, .slice none 0 0, .pointer (some ⟨w.heap.size, 0, none⟩), .int .i64 r.1, .int .i64 r.2, .pointer (some ⟨x, 0, none⟩), .bool false, undef, .pointer (some ⟨x, 0, none⟩), .func (.func 41) #[] #[.pointer (some ⟨w.heap.size + 1, 0, none⟩)], .int .i64 r.1, .int .i64 r.2, undef, undef, undef, undef, undef, undef, undef, undef, undef, undef, undef, undef], defers := [] }) ?assign ?body ?done ?stop
  case assign =>
    intro l x W K hK
    gi_wp2
    exact hK
  case body =>
    rintro l pre r W ⟨⟨v, hb, hrow, hle⟩, hB⟩ hlt
    have hc := hb.cell
    have hf := hb.frozen
    obtain ⟨ao, cap, rfl⟩ := (SliceIn.owned hrow).form
    by_cases h16 : pre.length = 16
    · have b16 : ((pre.length : Int) == 16) = true := by simp [h16]
      have HH := hid (show Holds w.heap.size pre W from ⟨_, hb, hrow, hle⟩)
      have HB := hid hB
      have H16 := hid h16
      clear hrow hb h16 hle hlt
      gi_wp2
      exact ⟨KeepsOthers.refl _, ⟨rfl, pre, r, rfl, H16.out, HH.out⟩, HB.out⟩
    · have b16 : ((pre.length : Int) == 16) = false := beq_eq_false_iff_ne.2 (by omega)
      have hle' : pre.length ≤ 15 := by omega
      have HR := hid hrow
      have HBX := hid hb
      have HB := hid hB
      have hs := hB.size
      clear hrow hb h16 hlt hB
      gi_wp2_with (gi_at_builtin; refine wpListIn_append_own _ rfl _ _ 36 rfl w.heap.size 40 i0 (.agg #[.int .u16 0, .int .u16 0]) 2 4 Try.underlying36 hi hz0 hz1 hz2 rfl (by decide) _ _ _ rfl (HR.out.alloc _) ⟨W.heap.size, 0, none⟩ 1 1 (u16p r) rfl rfl (cell_two_new _ _ _ _) (by simp [u16p, Value.oneCell']) (by unfold maxLen; omega) (by omega) (by simp; omega) ?_; intro v' w1 hown' hgrow _; obtain ⟨g', cap', rfl⟩ := ownsRow_succ hown'; obtain ⟨hv1, hv2, hr2, hk2, hb2⟩ := HBX.out.appended (by decide) HR.out hs (Nat.le_refl _) hown' hgrow; have hc1 := hv1.cell; have hf1 := hv1.frozen)
      exact ⟨hk2, trivial, ⟨_, hv2, by rw [u16s_snoc]; simpa using hr2, by simp; omega⟩, HB.out.trans hb2⟩
  case done =>
    rintro D ys W hD rfl ⟨⟨v, hb, hrow, hle⟩, hB⟩ hK
    have hc := hb.cell
    gi_wp2
    refine ⟨by simp, .inl ⟨_, _, rfl, run_takeDeferred hK, ?_⟩⟩
    have e : blocksOf t.far = runsOf t.far := List.take_of_length_le hle
    rw [e]
    exact ⟨_, results_tmp rfl _ _ _, v, rfl, ownsRow_putObj hrow _ hK rfl, hB.trans (belowK_b (w := w) (Nat.le_refl _) W D _ _ (by simp at hD; omega) hK rfl rfl)⟩
  case stop =>
    rintro D c pre W hD hpre ⟨⟨rfl, p0, r, rfl, hl, v, hb, hrow, hle⟩, hB⟩ hK
    have hc := hb.cell
    have e : blocksOf t.far = p0 := by
      obtain ⟨q, hq⟩ := hpre
      rw [blocksOf, ← hq, List.append_assoc, List.take_append_of_le_length (by omega), List.take_of_length_le (by omega)]
    gi_wp2
    refine ⟨by simp, .inl ⟨_, _, rfl, run_takeDeferred hK, ?_⟩⟩
    rw [e]
    exact ⟨_, results_tmp rfl _ _ _, v, rfl, ownsRow_putObj hrow _ hK rfl, hB.trans (belowK_b (w := w) (Nat.le_refl _) W D _ _ (by simp at hD; omega) hK rfl rfl)⟩

def Blocked (w : World) (l : List Int) (e : Ending) (w' : World) : Prop := ∃ v, e = .returned v ∧ w'.ownsRow w.heap.size 40 2 v (blocksOf l).length (u16s (blocksOf l)) ∧ Kept [] w w'

theorem Blocks_any {w : World} {x : Nat} {o : Option Nat} {t : T} (h : Track w x o t) : Calls Try.prog 18 #[.pointer (some ⟨x, 0, none⟩)] w (Blocked w t.far) :=
  (callsIn_wide.1 (Blocks_in 3 (Nat.le_refl _) h)).mono fun _ _ ⟨v, h1, h2, h3⟩ => ⟨v, h1, h2, Kept.ofBelow h3⟩

end Go.Proofs.Ythdcodjdecnniaa
