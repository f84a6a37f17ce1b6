/-
  The law JudgeOwes: what it returns.
-/
import Derived.Test.YtepadejkeokbcaaGood2
namespace Go.Proofs.Ytepadejkeokbcaa
open Go.RowKit Go.Maps

theorem pick_length : ∀ (S : List Msg) (U : List Bool), U.length = S.length → (pick S U).length = unused U
  | [], [], _ => rfl
  | s :: S, u :: U, h => by
    have ih := pick_length S U (by simpa using h)
    rw [pick_cons]
    cases u with
    | true => simpa [unused] using ih
    | false => simpa [unused] using ih

theorem owes_eq {L : List Mark} (h : (judgeOf L).2 = 0) (k : Key) : (leftR L k ⟨wrap64 (1 - k.host), k.peer, k.own⟩).length = unused (courtOf L k).used := by
  have g := good_of h
  by_cases hh : 0 ≤ k.host ∧ k.host ≤ 1
  · have e : (⟨wrap64 (1 - k.host), k.peer, k.own⟩ : Key) = k.other := by
      rw [IntWalk.wrap64_in _ (by omega)]; rfl
    rw [e, g.left, pick_length _ _ (g.len k)]
  · have hs : sentR L k = [] := by
      unfold sentR
      rw [List.map_eq_nil_iff, List.filter_eq_nil_iff]
      intro x hx hp
      simp only [isSent, Bool.and_eq_true, of_key, decide_eq_true_eq] at hp
      have := g.host x hx
      have e : x.host = k.host := by rw [← hp.2]; rfl
      omega
    have hu : (courtOf L k).used = [] := by
      have h1 := g.len k
      rw [g.sent, hs] at h1
      exact List.eq_nil_of_length_eq_zero h1
    have hl : leftR L k ⟨wrap64 (1 - k.host), k.peer, k.own⟩ = [] := by
      have := left_sub ⟨wrap64 (1 - k.host), k.peer, k.own⟩ L (sentR L k)
      unfold leftR
      rw [hs] at this ⊢
      exact List.eq_nil_of_sublist_nil this
    rw [hl, hu]; rfl

set_option maxRecDepth 100000 in
set_option maxHeartbeats 2000000 in
theorem owes_any {w : World} {lv : Value} {L0 : List Mark} {k : Key} (hl : MarksRaw w lv L0) (hk : k.ok) : Calls Try.prog 4 #[lv, .int .i64 k.host, .agg #[.int .u32 k.own, .int .u32 k.peer]] w fun e w' => e = .returned (.bool true) ∧ Kept [] w w' := by
  obtain ⟨ao0, cap0, rfl⟩ := hl.row.form
  have HKO := hid hk
  generalize hB : Obj.cells #[.int .u32 k.own, .int .u32 k.peer] 30 = B
  have HB := hid ((blk_new w B).trans (congrArg some hB.symm))
  have HKB := hid ((Kept.refl [] w).alloc B)
  have HL0 := hid (hl.kept HKB.out)
  subst hB
  clear hl hk
  go_enter Try.func4, Try.ntmps4
  go_wp2_with fail
  refine (short_any HL0.out).mono ?_
  rintro e w1 ⟨v1, rfl, hin, rfl⟩
  generalize short L0 = L at *
  obtain ⟨ao, cap, rfl⟩ := hin.row.form
  have HL := hid hin
  clear hin
  go_wp2_with fail
  refine (Owed_any (k := k) HL.out HKO.out).mono ?_
  rintro e w2 ⟨rfl, hk2⟩
  have HK2 := hid hk2
  have hb2 := hk2.blk HB.out (by simp)
  have HB2 := hid hb2
  clear hk2 hb2
  go_wp2_with fail
  refine (RefJudge_any (HL.out.kept HK2.out)).mono ?_
  rintro e w3 ⟨rfl, hk3⟩
  have HK3 := hid (HK2.out.tr hk3)
  have hb3 := hk3.blk HB2.out (by simp)
  have t0 := blk_cell hb3 0
  have t1 := blk_cell hb3 1
  have hbl := lt_of_block hb3
  simp only [List.getElem?_toArray, List.getElem?_cons_zero, List.getElem?_cons_succ] at t0 t1
  rw [ref_eq]
  clear hk3 hb3
  by_cases he : (judgeOf L).2 = 0
  · have HOE := hid (owes_eq he k)
    have hoo : owedOf L k = (unused (courtOf L k).used, true) := if_pos he
    rw [hoo]
    generalize judgeOf L = J at *
    obtain ⟨n, er⟩ := J
    dsimp only at he
    subst he
    go_wp2_with fail
    refine (live_any _).mono ?_
    rintro e w4 ⟨rfl, hk4⟩
    have HK4 := hid (HK3.out.tr hk4)
    have s0 := hk4.cell t0 (by simp)
    have s1 := hk4.cell t1 (by simp)
    clear hk4 t0 t1
    go_wp2_with fail
    refine (Left_any (k := k) (HL.out.kept HK4.out) rfl).mono ?_
    rintro e w5 ⟨v5, rfl, ho5, hk5⟩
    obtain ⟨lo, lc, rfl⟩ := (SliceIn.owned ho5).form
    have HK5 := hid (HKB.out.tr (HK4.out.tr hk5))
    rw [HOE.out]
    clear ho5 hk5
    go_wp2
    go_ret
    exact ⟨rfl, HK5.out⟩
  · have hoo : owedOf L k = (0, false) := if_neg he
    rw [hoo]
    have be : ((judgeOf L).2 != 0) = true := by simpa using he
    generalize judgeOf L = J at *
    obtain ⟨n, er⟩ := J
    dsimp only at be
    clear he
    go_wp2_with fail
    refine (live_any _).mono ?_
    rintro e w4 ⟨rfl, hk4⟩
    have HK4 := hid (HKB.out.tr (HK3.out.tr hk4))
    clear hk4
    go_wp2
    go_ret
    exact ⟨rfl, HK4.out⟩

end Go.Proofs.Ytepadejkeokbcaa
