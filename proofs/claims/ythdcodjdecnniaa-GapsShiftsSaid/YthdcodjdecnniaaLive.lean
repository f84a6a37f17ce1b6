/-
  live.
-/
import Derived.Test.YthdcodjdecnniaaBoth
namespace Go.Proofs.Ythdcodjdecnniaa
open Go.RowKit

theorem live1 : (T.new 10).add 10 = ⟨10, [], []⟩ ∧ (T.new 10).addE 10 = 0 := by
  simp [T.add, T.addE, T.has, T.new, aheadBy, mOf, ins, settle]
theorem live2 : (⟨10, [], []⟩ : T).add 12 = ⟨10, [2], []⟩ ∧ (⟨10, [], []⟩ : T).addE 12 = 0 := by
  simp [T.add, T.addE, T.has, aheadBy, mOf, ins, settle]
theorem live3 : (⟨10, [2], []⟩ : T).add 12 = ⟨10, [2], [12]⟩ ∧ (⟨10, [2], []⟩ : T).addE 12 = 17 := by
  simp [T.add, T.addE, T.has, aheadBy, mOf]

theorem pair_in (w : World) (a b : Int) (t : TypeId) : SliceIn (w.heap.size ≤ ·) (w.alloc (.cells #[.int .u16 a, .int .u16 b] t)) 2 (.slice (some ⟨w.heap.size, 0, none⟩) 1 1) 1 [.int .u16 a, .int .u16 b] :=
  ⟨rfl, .inr ⟨w.heap.size, 0, 1, rfl, Nat.le_refl _, Nat.le_refl _, by simp, fun j u hu => by
    rw [Nat.zero_add, blk_cell (blk_new w _)]
    simpa using hu⟩⟩

theorem kept_own {w w' w0 : World} {x : Nat} {o : Option Nat} (h : Kept [] w0 w) (hx : w0.heap.size ≤ x) (ho : ∀ k, o = some k → w0.heap.size ≤ k) (hk : Kept (x :: o.toList) w w') : Kept [] w0 w' :=
  h.trans hk (fun z hz => by
    simp at hz
    rcases hz with rfl | hz
    · exact .inr hx
    · exact .inr (ho z hz))

set_option maxHeartbeats 1000000 in
theorem live_any (w : World) : Calls Try.prog 12 #[] w fun e w' => e = .returned (.bool true) ∧ Kept [] w w' := by
  go_enter Try.func12, Try.ntmps12
  go_wp2_with fail
  refine (New_any 10 _).mono ?_
  rintro e w1 ⟨rfl, ht, hk⟩
  have HT := hid ht
  have HK := hid hk
  generalize hx : w.heap.size = x at *
  have HX := hid hx
  clear ht hk hx
  go_wp2_with fail
  refine (Add_any HT.out (by omega)).mono ?_
  rintro e w2 ⟨rfl, o2, ht, hk, ho⟩
  rw [live1.1] at ht
  have HK := hid (kept_own HK.out (by rw [HX.out]; exact Nat.le_refl _) (fun _ h => by cases h) hk)
  have ho2 : ∀ k, o2 = some k → w.heap.size ≤ k := by
    rcases ho with rfl | ho
    · intro k h; cases h
    · intro k h; exact Nat.le_trans (by have := HT.out.lt; rw [HX.out]; omega) (ho k h)
  have HO := hid ho2
  have HT := hid ht
  have e1 := live1.2
  clear ht hk ho ho2
  go_wp2_with fail
  refine (Add_any HT.out (by omega)).mono ?_
  rintro e w3 ⟨rfl, o3, ht, hk, ho⟩
  rw [live2.1] at ht
  have hs := HK.out.size
  have HK := hid (kept_own HK.out (by rw [HX.out]; exact Nat.le_refl _) HO.out hk)
  have ho2 : ∀ k, o3 = some k → w.heap.size ≤ k := by
    rcases ho with rfl | ho
    · exact HO.out
    · intro k h; exact Nat.le_trans hs (ho k h)
  have HO := hid ho2
  have HT := hid ht
  have e2 := live2.2
  clear ht hk ho ho2 hs
  go_wp2_with fail
  refine (Add_any HT.out (by omega)).mono ?_
  rintro e w4 ⟨rfl, o4, ht, hk, ho⟩
  rw [live3.1] at ht
  have hs := HK.out.size
  have HK := hid (kept_own HK.out (by rw [HX.out]; exact Nat.le_refl _) HO.out hk)
  have ho2 : ∀ k, o4 = some k → w.heap.size ≤ k := by
    rcases ho with rfl | ho
    · exact HO.out
    · intro k h; exact Nat.le_trans hs (ho k h)
  have HO := hid ho2
  have HT := hid ht
  have e3 := live3.2
  clear ht hk ho ho2 hs
  go_wp2_with fail
  refine (Cum_any HT.out).mono ?_
  rintro e w5 ⟨rfl, rfl⟩
  go_wp2_with fail
  refine (Top_any HT.out).mono ?_
  rintro e w5 ⟨rfl, hk⟩
  have ht2 : (⟨10, [2], [12]⟩ : T).top = 12 := rfl
  have HT := hid (HT.out.kept hk (by simp) (by simp))
  have HK := hid (HK.out.tr hk)
  clear hk
  go_wp2_with fail
  refine (Blocks_any HT.out).mono ?_
  rintro e w6 ⟨bv, rfl, hbv, hk⟩
  have HT := hid (HT.out.kept hk (by simp) (by simp))
  have HK := hid (HK.out.tr hk)
  have HBV := hid (SliceIn.owned hbv)
  clear hk hbv
  go_wp2_with fail
  refine (SameB_any (l := [(2, 2)]) (HBV.out.kept ((Kept.refl [] w6).alloc _) (fun _ _ _ => by simp)) (pair_in w6 2 2 40) (by simp)).mono ?_
  rintro e w7 ⟨rfl, hk⟩
  have hk := ((Kept.refl [] w6).alloc (.cells #[.int .u16 2, .int .u16 2] 40)).tr hk
  have HT := hid (HT.out.kept hk (by simp) (by simp))
  have HK := hid (HK.out.tr hk)
  clear hk
  go_wp2_with fail
  refine (Dups_any HT.out).mono ?_
  rintro e w8 ⟨dv, rfl, r1, _, _, hk⟩
  have HK := hid (HK.out.trans hk (fun z hz => by simp at hz; subst hz; exact .inr (by rw [HX.out]; exact Nat.le_refl _)))
  have HD := hid (SliceIn.owned r1)
  clear hk r1
  go_wp2_with fail
  refine (Same_any (xs := [12]) (ys := [12]) (HD.out.kept ((Kept.refl [] w8).alloc _) (fun _ _ _ => by simp)) (one_in w8 12 22) (by simp)).mono ?_
  rintro e w9 ⟨rfl, hk⟩
  have HK := hid (HK.out.tr (((Kept.refl [] w8).alloc (.cells #[.int .u32 12] 22)).tr hk))
  clear hk
  go_wp2
  go_ret
  exact ⟨rfl, HK.out⟩

end Go.Proofs.Ythdcodjdecnniaa
