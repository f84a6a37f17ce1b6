/-
  The law JudgeBegins: what it returns.
-/
import Derived.Test.YtepadejkeokbcaaLive
namespace Go.Proofs.Ytepadejkeokbcaa
open Go.RowKit Go.Maps

theorem judgeG_ge : ∀ (L : List Mark) (c : Key → Sd) (i : Nat), i ≤ (judgeG c L i).1
  | [], _, i => Nat.le_refl _
  | m :: L, c, i => by
    rw [judgeG]
    split
    · exact Nat.le_refl _
    · have := judgeG_ge L (markR c m).2 (i + 1); omega
theorem judgeG_le : ∀ (L : List Mark) (c : Key → Sd) (i : Nat), (judgeG c L i).1 ≤ i + L.length
  | [], _, _ => Nat.le_refl _
  | m :: L, c, i => by
    rw [judgeG, List.length_cons]
    split
    · dsimp only; omega
    · have := judgeG_le L (markR c m).2 (i + 1); omega
theorem judgeG_take : ∀ (L : List Mark) (c : Key → Sd) (i a : Nat), a ≤ L.length → judgeG c (L.take a) i = if i + a ≤ (judgeG c L i).1 then (i + a, 0) else judgeG c L i
  | [], c, i, a, h => by
    have : a = 0 := by simpa using h
    subst this
    simp [judgeG]
  | m :: L, c, i, 0, _ => by
    have := judgeG_ge (m :: L) c i
    rw [if_pos (by omega)]
    rfl
  | m :: L, c, i, a + 1, h => by
    rw [List.take_succ_cons, judgeG, judgeG]
    split
    · rename_i he
      rw [if_neg (by dsimp only; omega)]
    · rw [judgeG_take L _ (i + 1) a (by simpa using h), show i + 1 + a = i + (a + 1) by omega]
theorem judgeOf_take (L : List Mark) (a : Nat) (h : a ≤ L.length) : judgeOf (L.take a) = if a ≤ (judgeOf L).1 then (a, 0) else judgeOf L := by
  unfold judgeOf
  rw [judgeG_take L court0 0 a h]
  by_cases hc : a ≤ (judgeG court0 L 0).1
  · rw [if_pos hc, if_pos (by omega), Nat.zero_add]
  · rw [if_neg hc, if_neg (by omega)]
theorem judgeOf_le (L : List Mark) : (judgeOf L).1 ≤ L.length := by
  have := judgeG_le L court0 0
  simpa [judgeOf] using this

set_option maxRecDepth 100000 in
set_option maxHeartbeats 2000000 in
theorem begins_any {w : World} {lv : Value} {L0 : List Mark} {k : Int} (hl : MarksRaw w lv L0) (hk : 0 ≤ k ∧ k ≤ 255) : Calls Try.prog 5 #[lv, .int .u8 k] w fun e w' => e = .returned (.bool true) ∧ Kept [] w w' := by
  obtain ⟨ao0, cap0, rfl⟩ := hl.row.form
  have HL0 := hid hl
  clear hl
  go_enter Try.func5, Try.ntmps5
  go_wp2_with fail
  refine (short_any HL0.out).mono ?_
  rintro e w1 ⟨v1, rfl, hin, rfl⟩
  generalize hLL : short L0 = L at *
  have hlen : L.length ≤ 60 := by rw [← hLL]; exact short_few L0
  clear hLL
  obtain ⟨ao, cap, rfl⟩ := hin.row.form
  have HL := hid hin
  clear hin
  obtain ⟨a, ha, hal⟩ : ∃ a : Nat, (a : Int) = k % ((L.length : Int) + 1) ∧ a ≤ L.length := by
    have h1 := Int.emod_nonneg k (show ((L.length : Int) + 1) ≠ 0 by omega)
    have h2 := Int.emod_lt_of_pos k (show (0 : Int) < (L.length : Int) + 1 by omega)
    exact ⟨(k % ((L.length : Int) + 1)).toNat, by omega, by omega⟩
  have hsl := slice_to HL.out.raw hal
  have HA := hid hsl.2
  have hs0 := hsl.1
  have hq : k.tmod ((L.length : Int) + 1) = (a : Int) := by rw [Int.tmod_eq_emod_of_nonneg (by omega), ha]
  have hw1 : IntKind.i64.wrap ((L.length : Int) + 1) = (L.length : Int) + 1 := IntWalk.i64_in _ (by omega)
  have hw2 : IntKind.i64.wrap (a : Int) = (a : Int) := IntWalk.i64_in _ (by omega)
  have hz : ((L.length : Int) + 1 == 0) = false := by rw [beq_eq_false_iff_ne]; omega
  have hz' : ¬ ((L.length : Int) + 1 = 0) := by omega
  have HT := hid (judgeOf_take L a hal)
  have hle := judgeOf_le L
  have HLEN := hid (show (L.take a).length ≤ 1000 from by rw [List.length_take]; omega)
  clear hsl ha
  go_wp2_with fail
  refine (Judge_any HL.out).mono ?_
  rintro e w2 ⟨rfl, hk2⟩
  have HK2 := hid hk2
  clear hk2
  go_wp2_with fail
  refine (Judge_any ((HA.out.kept HK2.out).few HLEN.out)).mono ?_
  rintro e w3 ⟨rfl, hk3⟩
  have HK3 := hid (HK2.out.tr hk3)
  rw [HT.out]
  clear hk3
  generalize hn : judgeOf L = J at *
  obtain ⟨n, er⟩ := J
  dsimp only at hle
  by_cases hc : a ≤ n
  · rw [if_pos hc]
    have hc' : (a : Int) ≤ (n : Int) := by omega
    clear hc
    go_wp2_with fail
    refine (live_any _).mono ?_
    rintro e w4 ⟨rfl, hk4⟩
    have HK4 := hid (HK3.out.tr hk4)
    clear hk4
    go_wp2
    go_ret
    exact ⟨rfl, HK4.out⟩
  · rw [if_neg hc]
    have hc' : ¬ (a : Int) ≤ (n : Int) := by omega
    clear hc
    go_wp2_with fail
    refine (live_any _).mono ?_
    rintro e w4 ⟨rfl, hk4⟩
    have HK4 := hid (HK3.out.tr hk4)
    clear hk4
    go_wp2
    go_ret
    exact ⟨rfl, HK4.out⟩

end Go.Proofs.Ytepadejkeokbcaa
