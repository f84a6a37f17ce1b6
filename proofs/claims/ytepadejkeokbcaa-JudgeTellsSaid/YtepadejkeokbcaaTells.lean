/-
  The law JudgeTells: what it returns.
-/
import Derived.Test.YtepadejkeokbcaaGood2
namespace Go.Proofs.Ytepadejkeokbcaa
open Go.RowKit Go.Maps

set_option maxRecDepth 100000 in
set_option maxHeartbeats 2000000 in
theorem tells_any {w : World} {lv : Value} {L0 : List Mark} (hl : MarksRaw w lv L0) : Calls Try.prog 3 #[lv] w fun e w' => e = .returned (.bool true) ∧ Kept [] w w' := by
  obtain ⟨ao0, cap0, rfl⟩ := hl.row.form
  have HL0 := hid hl
  clear hl
  go_enter Try.func3, Try.ntmps3
  go_wp2_with fail
  refine (short_any HL0.out).mono ?_
  rintro e w1 ⟨v1, rfl, hin, rfl⟩
  generalize short L0 = L at *
  obtain ⟨ao, cap, rfl⟩ := hin.row.form
  have HL := hid hin
  clear hin
  go_wp2_with fail
  refine (Judge_any HL.out).mono ?_
  rintro e w2 ⟨rfl, hk2⟩
  have HK2 := hid hk2
  clear hk2
  go_wp2_with fail
  refine (RefJudge_any (HL.out.kept HK2.out)).mono ?_
  rintro e w3 ⟨rfl, hk3⟩
  have HK3 := hid (HK2.out.tr hk3)
  rw [ref_eq]
  clear hk3
  generalize judgeOf L = J at *
  obtain ⟨n, er⟩ := J
  go_wp2_with fail
  refine (live_any _).mono ?_
  rintro e w4 ⟨rfl, hk4⟩
  have HK4 := hid (HK3.out.tr hk4)
  clear hk4
  go_wp2
  go_ret
  exact ⟨rfl, HK4.out⟩

end Go.Proofs.Ytepadejkeokbcaa
