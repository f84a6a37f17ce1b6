/-
  live: what must be whatever is asked.
-/
import Derived.Test.YtomdbdliniiffaaSort
namespace Go.Proofs.Ytomdbdliniiffaa
open Go.RowKit

theorem Try.underlying42 : Try.prog.underlying 42 = some (.array 2 22) := by kernel_rfl
theorem eq42 (a b c d : Int) (w : World) : (Op.equalIn 10000 42 (.agg #[.int .u32 a, .int .u32 b]) (.agg #[.int .u32 c, .int .u32 d])).run Try.prog w = .ok ([a, b] == [c, d]) w :=
  run_equalIn_ints w 9998 42 22 .u32 2 Try.underlying42 Try.underlying22k (by intro w; kernel_rfl) [a, b] [c, d] rfl rfl

theorem row_in {w : World} {b n : Nat} {cs : Array Value} {t : TypeId} {fr : Nat × Nat} (h : w.heap[b]? = some (.cells cs t fr)) (hs : cs.size = n) : SliceIn Any w 1 (.slice (some ⟨b, 0, none⟩) n n) n cs.toList := by
  refine ⟨by simpa using hs, .inr ⟨b, 0, n, rfl, Nat.le_refl _, trivial, lt_of_block h, fun j u hu => ?_⟩⟩
  rw [Nat.zero_add, blk_cell h, ← Array.getElem?_toList]
  exact hu

theorem liveLess (w : World) : Calls Try.prog 14 #[.int .i64 16, .int .u32 65535, .int .u32 0] w fun e w' => e = .returned (.tuple #[.bool true, .int .i64 0]) ∧ Kept [] w w' := by
  have h := Less_any 16 65535 0 w (by omega) (by omega)
  unfold Lessed at h
  have e1 : wrong 16 [65535, 0] = 0 := by decide
  have e2 : lessB 16 65535 0 = true := by decide
  rw [e1, e2, if_pos rfl] at h
  exact h
theorem liveAhead (w : World) : Calls Try.prog 12 #[.int .i64 32, .int .u32 0, .int .u32 2147483648] w fun e w' => e = .returned (.tuple #[.int .i64 (-2147483648), .int .i64 0]) ∧ Kept [] w w' := by
  have h := Ahead_any 32 0 2147483648 w (by omega) (by omega)
  unfold Two at h
  have e1 : wrong 32 [0, 2147483648] = 0 := by decide
  have e2 : aheadBy 32 0 2147483648 = -2147483648 := by decide
  rw [e1, e2, if_pos rfl] at h
  exact h
theorem liveMet {o : List Int} (h : Met (mOf 16) 5 [3, 9, 3, 7] o) : o = [7, 9, 3] :=
  h.unique ⟨by decide, fun y => by simp only [List.mem_cons, List.not_mem_nil, or_false]; omega⟩
theorem liveSort {w : World} {v : Value} (hv : SliceIn Any w 1 v 4 (u32s [3, 9, 3, 7])) : Calls Try.prog 17 #[.int .i64 16, .int .u32 5, v] w fun e w' =>
    ∃ u, e = .returned (.tuple #[u, .int .i64 0]) ∧ w'.ownsRow w.heap.size 22 1 u 3 (u32s [7, 9, 3]) ∧ Kept [] w w' := by
  have h := Sort_any Any 16 5 [3, 9, 3, 7] v w hv (by omega) (by decide) (by decide)
  refine h.mono ?_
  rintro e w' ⟨u, o, rfl, hm, ho, hk⟩
  have e1 : wrong 16 [5, 3, 9, 3, 7] = 0 := by decide
  rw [e1] at hm ⊢
  rw [if_pos rfl] at hm
  rw [liveMet hm] at ho
  exact ⟨u, rfl, ho, hk⟩
theorem liveSpan {w : World} {v : Value} (hv : SliceIn Any w 1 v 3 (u32s [4, 5, 7])) : Calls Try.prog 21 #[.int .i64 32, v] w fun e w' =>
    ∃ u, e = .returned (.tuple #[u, .int .i64 0]) ∧ w'.ownsRow w.heap.size 42 2 u 2 (pairsV [(4, 5), (7, 7)]) ∧ Kept [] w w' := by
  have h := Span_any Any 32 [4, 5, 7] v w hv (by decide) (by decide)
  refine h.mono ?_
  rintro e w' ⟨u, rfl, ho, hk⟩
  have e1 : spanE 32 [4, 5, 7] = 0 := by decide
  have e2 : spanO 32 [4, 5, 7] = [(4, 5), (7, 7)] := by decide
  rw [e2] at ho
  rw [e1]
  exact ⟨u, rfl, ho, hk⟩

set_option maxRecDepth 100000 in
set_option maxHeartbeats 4000000 in
theorem live_any (w : World) : Calls Try.prog 16 #[] w fun e w' => e = .returned (.bool true) ∧ Kept [] w w' := by
  go_enter Try.func16, Try.ntmps16
  go_wp2_with fail
  refine (liveLess _).mono ?_
  rintro e w1 ⟨rfl, hk1⟩
  have HK1 := hid hk1
  clear hk1
  go_wp2_with fail
  refine (liveAhead _).mono ?_
  rintro e w2 ⟨rfl, hk2⟩
  have HK2 := hid (HK1.out.tr hk2)
  clear hk2
  have HA := hid (row_in (n := 4) (blk_new w2 (.cells #[.int .u32 3, .int .u32 9, .int .u32 3, .int .u32 7] 22)) rfl)
  have HKA := hid ((Kept.refl [] w2).alloc (.cells #[.int .u32 3, .int .u32 9, .int .u32 3, .int .u32 7] 22))
  go_wp2_with fail
  refine (liveSort HA.out).mono ?_
  rintro e w3 ⟨u, rfl, hu, hk3⟩
  obtain ⟨g, uc, rfl⟩ := own_form hu (by decide)
  have HU := hid hu
  have HK3 := hid (HK2.out.tr (HKA.out.tr hk3))
  have HB := hid (row_in (n := 3) (blk_new w3 (.cells #[.int .u32 4, .int .u32 5, .int .u32 7] 22)) rfl)
  have HKB := hid ((Kept.refl [] w3).alloc (.cells #[.int .u32 4, .int .u32 5, .int .u32 7] 22))
  clear hu hk3
  go_wp2_with fail
  refine (liveSpan HB.out).mono ?_
  rintro e w4 ⟨s, rfl, hs, hk4⟩
  obtain ⟨q, sc, rfl⟩ := own_form hs (by decide)
  have HK4 := hid (HK3.out.tr (HKB.out.tr hk4))
  have HUS := hid (ownsRow_kept HU.out (HKB.out.tr hk4) (by simp))
  have hKC := (Kept.refl [] w4).alloc (.cells #[.int .u32 7, .int .u32 9, .int .u32 3] 22)
  have HKC := hid hKC
  have HC := hid (row_in (n := 3) (blk_new w4 (.cells #[.int .u32 7, .int .u32 9, .int .u32 3] 22)) rfl)
  have HUC := hid (SliceIn.owned (ownsRow_kept HUS.out hKC (by simp)))
  have HS := hid hs
  clear hs hk4 hKC
  have heq : ∀ W, (Op.equalIn 10000 42 (.agg #[.int .u32 4, .int .u32 5]) (.agg #[.int .u32 4, .int .u32 5])).run Try.prog W = .ok true W := fun W => eq42 4 5 4 5 W
  have HSM := hid (Same_any (xs := [7, 9, 3]) (ys := [7, 9, 3]) HUC.out HC.out (by decide))
  go_wp2_with (go_at_call 19; refine HSM.out.mono ?_; rintro e w5 ⟨rfl, hk5⟩; have HK5 := hid (HKC.out.tr hk5); have c0 := hk5.cell (HKC.out.cell (own_set HS.out (pairsV_get [(4, 5), (7, 7)] 0 (by decide)).1).1 (by simp)) (by simp); have c1 := hk5.cell (HKC.out.cell (own_set HS.out (pairsV_get [(4, 5), (7, 7)] 0 (by decide)).2).1 (by simp)) (by simp); simp only [Nat.zero_mul, Nat.zero_add, List.getElem_cons_zero] at c0 c1; clear hk5)
  go_ret
  exact ⟨rfl, HK4.out.tr HK5.out⟩

end Go.Proofs.Ytomdbdliniiffaa
