/-
  (*Ring).step: the descriptor at a place goes from one owner to another, and the place goes on round the ring; or nothing is done.
-/
import Derived.Test.YtnbbbhemlmkeiaaClone
namespace Go.Proofs.Ytnbbbhemlmkeiaa
open Go.RowKit

def next (n i : Nat) : Nat := if i + 1 = n then 0 else i + 1

def Stepped (w : World) (x s k i n : Nat) (cx cs : Array Value) (to : Int) (e : Ending) (w' : World) : Prop :=
  e = .returned (.pointer (some ⟨s, i * 2, none⟩)) ∧ w'.heap[x]? = some (.cells (cx.setIfInBounds k (.int .i64 (next n i))) 55 (0, 0)) ∧
    w'.heap[s]? = some (.cells (cs.setIfInBounds (i * 2) (.int .i64 to)) 61 (0, 0)) ∧ Kept [x, s] w w' ∧ w'.heap.size = w.heap.size

theorem stepped_on {w w' : World} {x s k i n : Nat} {cx cs : Array Value} {to : Int} (hx : w.heap[x]? = some (.cells cx 55 (0, 0))) (hs : w.heap[s]? = some (.cells cs 61 (0, 0))) (hne : s ≠ x) (hlt : i + 1 ≠ n) (a b : Nat)
    (hw : w' = (((w.drewN a).setCell ⟨s, i * 2, none⟩ (.int .i64 to)).setCell ⟨x, k, none⟩ (.int .i64 ((i : Int) + 1))).drewN b) :
    Stepped w x s k i n cx cs to (.returned (.pointer (some ⟨s, i * 2, none⟩))) w' := by
  subst hw
  have h1 : (w.drewN a).heap[x]? = some (.cells cx 55 (0, 0)) := hx
  have h2 : (w.drewN a).heap[s]? = some (.cells cs 61 (0, 0)) := hs
  have hn : ((next n i : Nat) : Int) = (i : Int) + 1 := by unfold next; rw [if_neg hlt]; omega
  refine ⟨rfl, ?_, ?_, ?_, ?_⟩
  · rw [hn]; exact blk_set (blk_other _ (Ne.symm hne) h1) _ _
  · exact blk_other _ (by exact hne) (blk_set h2 _ _)
  · exact ((((Kept.refl _ w).drewN a).setCell (.inl (by simp)) _).setCell (.inl (by simp)) _).drewN b
  · simp [World.setCell, World.drewN]

theorem stepped_round {w w' : World} {x s k i n : Nat} {cx cs : Array Value} {to : Int} (hx : w.heap[x]? = some (.cells cx 55 (0, 0))) (hs : w.heap[s]? = some (.cells cs 61 (0, 0))) (hne : s ≠ x) (hlt : i + 1 = n) (a b : Nat)
    (hw : w' = ((((w.drewN a).setCell ⟨s, i * 2, none⟩ (.int .i64 to)).setCell ⟨x, k, none⟩ (.int .i64 ((i : Int) + 1))).drewN b).setCell ⟨x, k, none⟩ (.int .i64 0)) :
    Stepped w x s k i n cx cs to (.returned (.pointer (some ⟨s, i * 2, none⟩))) w' := by
  subst hw
  have h1 : (w.drewN a).heap[x]? = some (.cells cx 55 (0, 0)) := hx
  have h2 : (w.drewN a).heap[s]? = some (.cells cs 61 (0, 0)) := hs
  have hn : ((next n i : Nat) : Int) = 0 := by unfold next; rw [if_pos hlt]; rfl
  have h3 := blk_set (blk_other (p := ⟨s, i * 2, none⟩) (.int .i64 to) (Ne.symm hne) h1) k (.int .i64 ((i : Int) + 1))
  have h4 := blk_set (blk_drewN b h3) k (.int .i64 0)
  refine ⟨rfl, ?_, ?_, ?_, ?_⟩
  · rw [hn]; rw [Array.setIfInBounds_setIfInBounds] at h4; exact h4
  · exact blk_other _ (by exact hne) (blk_drewN b (blk_other _ (by exact hne) (blk_set h2 _ _)))
  · exact (((((Kept.refl _ w).drewN a).setCell (.inl (by simp)) _).setCell (.inl (by simp)) _).drewN b).setCell (.inl (by simp)) _
  · simp [World.setCell, World.drewN]

set_option maxHeartbeats 400000 in
theorem step_ok (x s k n i cap : Nat) (cx cs : Array Value) (fr to : Int) (w : World) (hx : w.heap[x]? = some (.cells cx 55 (0, 0))) (hs : w.heap[s]? = some (.cells cs 61 (0, 0))) (hne : s ≠ x)
    (hx0 : cx[0]? = some (.slice (some ⟨s, 0, none⟩) n cap)) (hxk : cx[k]? = some (.int .i64 i)) (hk0 : k ≠ 0) (hi : i < n) (hn : n ≤ 64) (hsi : cs[i * 2]? = some (.int .i64 fr)) :
    Calls Try.prog 21 #[.pointer (some ⟨x, 0, none⟩), .pointer (some ⟨x, k, none⟩), .int .i64 fr, .int .i64 to] w (Stepped w x s k i n cx cs to) := by
  have c0 := (blk_cell hx 0).trans hx0
  have ck := (blk_cell hx k).trans hxk
  have ci := (blk_cell hs (i * 2)).trans hsi
  have fx := blk_free hx
  have fs := blk_free hs
  by_cases hlt : i + 1 < n
  · have hfin := fun w' => @stepped_on w w' x s k i n cx cs to hx hs hne (by omega)
    have HF := hid hfin
    clear hx hs hx0 hxk hsi hfin
    go_enter Try.func21, Try.ntmps21
    go_wp2
    go_quiet (fail)
    go_wp2
    go_quiet (fail)
    go_wp2
    go_ret
    exact HF.out _ _ _ rfl
  · have he : i + 1 = n := by omega
    have hfin := fun w' => @stepped_round w w' x s k i n cx cs to hx hs hne he
    have HF := hid hfin
    have hb : ((i : Int) + 1 == n) = true := by simp; omega
    clear hx hs hx0 hxk hsi hfin he
    go_enter Try.func21, Try.ntmps21
    go_wp2
    go_quiet (fail)
    go_wp2
    go_quiet (fail)
    go_wp2
    go_ret
    exact HF.out _ _ _ rfl

set_option maxHeartbeats 400000 in
theorem step_no (x s k n i cap : Nat) (cx cs : Array Value) (o fr to : Int) (w : World) (hx : w.heap[x]? = some (.cells cx 55 (0, 0))) (hs : w.heap[s]? = some (.cells cs 61 (0, 0)))
    (hx0 : cx[0]? = some (.slice (some ⟨s, 0, none⟩) n cap)) (hxk : cx[k]? = some (.int .i64 i)) (hi : i < n) (hsi : cs[i * 2]? = some (.int .i64 o)) (ho : o ≠ fr) :
    Calls Try.prog 21 #[.pointer (some ⟨x, 0, none⟩), .pointer (some ⟨x, k, none⟩), .int .i64 fr, .int .i64 to] w fun e w' => e = .returned (.pointer none) ∧ ∃ m, w' = w.drewN m := by
  have c0 := (blk_cell hx 0).trans hx0
  have ck := (blk_cell hx k).trans hxk
  have ci := (blk_cell hs (i * 2)).trans hsi
  have hb : (o != fr) = true := by simpa using ho
  clear hx hs hx0 hxk hsi ho
  go_enter Try.func21, Try.ntmps21
  go_wp2
  go_quiet (fail)
  go_wp2
  go_ret
  exact ⟨rfl, _, rfl⟩

end Go.Proofs.Ytnbbbhemlmkeiaa
