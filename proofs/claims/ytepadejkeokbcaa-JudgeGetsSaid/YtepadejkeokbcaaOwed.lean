/-
  judge.Judge, judge.Owed.
-/
import Derived.Test.YtepadejkeokbcaaAll
namespace Go.Proofs.Ytepadejkeokbcaa
open Go.RowKit Go.Maps

def Judged (w : World) (L : List Mark) (e : Ending) (w' : World) : Prop :=
  e = .returned (.tuple #[.int .i64 (judgeOf L).1, .int .i64 (judgeOf L).2]) ∧ Kept [] w w'

set_option maxHeartbeats 1000000 in
theorem Judge_any {w : World} {lv : Value} {L : List Mark} (hl : MarksIn w lv L) : Calls Try.prog 10 #[lv] w (Judged w L) := by
  have HL := hid hl
  clear hl
  have HP := hid (show ∀ n er w', judgeOf L = (n, er) → Kept [] w w' → Judged w L (.returned (.tuple #[.int .i64 (n : Nat), .int .i64 er])) w' from fun n er w' h hk => ⟨by rw [h], hk⟩)
  generalize Judged w L = Post at *
  go_enter Try.func10, Try.ntmps10
  go_wp2_with fail
  refine (all_any HL.out).mono ?_
  rintro e w1 (⟨mb, O, F, rfl, hj, hc⟩ | ⟨n, er, rfl, hj, her, hk⟩)
  · have HZ := hid (HP.out _ _ _ hj hc.kept)
    clear hj hc
    go_wp2
    exact HZ.out
  · have HZ := hid (HP.out _ _ _ hj hk)
    clear hj hk her
    go_wp2
    exact HZ.out

def unused (u : List Bool) : Nat := u.count false
theorem unused_step {u : List Bool} {j : Nat} (h : j < u.length) : unused (u.take (j + 1)) = unused (u.take j) + (if u[j] = false then 1 else 0) := by
  unfold unused
  rw [List.take_succ_eq_append_getElem h, List.count_append, List.count_singleton]
  cases u[j] <;> rfl
theorem unused_le (u : List Bool) : unused u ≤ u.length := List.count_le_length

def owedOf (L : List Mark) (k : Key) : Nat × Bool := if (judgeOf L).2 = 0 then (unused (courtOf L k).used, true) else (0, false)
def Owes (w : World) (L : List Mark) (k : Key) (e : Ending) (w' : World) : Prop :=
  e = .returned (.tuple #[.int .i64 (owedOf L k).1, .bool (owedOf L k).2]) ∧ Kept [] w w'

set_option maxHeartbeats 1000000 in
theorem Owed_any {w : World} {lv : Value} {L : List Mark} {k : Key} (hl : MarksIn w lv L) (hk : k.ok) : Calls Try.prog 13 #[lv, .int .i64 k.host, .int .u32 k.own, .int .u32 k.peer] w (Owes w L k) := by
  have HL := hid hl
  have HK := hid hk
  have hfew := hl.few
  clear hl hk
  have HP := hid (show ∀ (n : Nat) b w', owedOf L k = (n, b) → Kept [] w w' → Owes w L k (.returned (.tuple #[.int .i64 n, .bool b])) w' from fun n b w' h hk => ⟨by rw [h], hk⟩)
  generalize Owes w L k = Post at *
  go_enter Try.func13, Try.ntmps13
  go_wp2_with fail
  refine (all_any HL.out).mono ?_
  rintro e w1 (⟨mb, O, F, rfl, hj, hc⟩ | ⟨n, er, rfl, hj, her, hkp⟩)
  · have HC := hid hc
    have HJ := hid hj
    clear hc hj
    go_wp2_with fail
    refine (side_any (k := k) HC.out HK.out).mono ?_
    rintro e w2 ⟨s, O2, F2, rfl, hc2, hf2, _, hk2⟩
    unfold ptr
    have HC2 := hid hc2
    have HS2 := hid (hc2.side _ _ hf2)
    obtain ⟨so, sc, uo, uc, nb, hop⟩ := HS2.out.opened
    have HOP := hid hop
    have c1 := blk_cell hop.blk 1
    simp only [sideCells, List.getElem?_toArray, List.getElem?_cons_zero, List.getElem?_cons_succ] at c1
    have hlen := (small_of L).1 k
    rw [← hop.same] at hlen
    have HLEN := hid hlen
    have HN := hid (show owedOf L k = (unused (courtOf L k).used, true) from by unfold owedOf; rw [HJ.out, if_pos rfl])
    clear hc2 hf2 hk2 hop
    generalize hu : (courtOf L k).used = u at *
    have HU := hid hu
    clear hu
    go_wp2_with fail
    go_loopw [13, 34] (fun n i wr => ∃ j : Nat, j ≤ u.length ∧ i = .int .i64 j ∧ n = .int .i64 (unused (u.take j)) ∧ Kept [] w2 wr) (fun _ i _ => u.length - (intOf i).toNat)
    case atStart => exact ⟨0, Nat.zero_le _, rfl, rfl, Kept.refl [] _⟩
    case round =>
      obtain ⟨j, hj, rfl, rfl, hkr⟩ := hrel
      have HKR := hid hkr
      have HOr := hid (HOP.out.kept HS2.out hkr)
      clear hkr
      by_cases hlt : j < u.length
      · obtain ⟨g, hg, hc, _⟩ := HOr.out.used j (by rw [HU.out]; exact hlt)
        subst hg
        simp only [HU.out] at hc
        have HST := hid (unused_step hlt)
        have hun := unused_le (u.take j)
        rw [List.length_take] at hun
        have hwn : IntKind.i64.wrap ((unused (u.take j) : Int) + 1) = (unused (u.take j) : Int) + 1 := IntWalk.i64_in _ (by omega)
        have hwj : IntKind.i64.wrap ((j : Int) + 1) = (j : Int) + 1 := IntWalk.i64_in _ (by omega)
        cases hb : u[j] with
        | true =>
          rw [hb] at hc
          have hst := HST.out
          rw [hb] at hst
          have HE := hid (show unused (u.take (j + 1)) = unused (u.take j) from hst)
          clear hst hb
          go_wp2
          go_roundw
          case rel => exact ⟨j + 1, by omega, by go_num, by rw [HE.out], HKR.out⟩
          case measure => simp [intOf]; omega
        | false =>
          rw [hb] at hc
          have hst := HST.out
          rw [hb] at hst
          have HE := hid (show unused (u.take (j + 1)) = unused (u.take j) + 1 from hst)
          clear hst hb
          go_wp2
          go_roundw
          case rel => exact ⟨j + 1, by omega, by go_num, by rw [HE.out]; go_num, HKR.out⟩
          case measure => simp [intOf]; omega
      · obtain rfl : j = u.length := by omega
        have e : u.take u.length = u := List.take_length
        have HZ := hid (show Post (.returned (.tuple #[.int .i64 (unused (u.take u.length)), .bool true])) wr from by rw [e]; exact HP.out _ _ _ HN.out (HC2.out.kept.tr HKR.out))
        clear e
        go_wp2
        exact HZ.out
  · have HZ := hid (HP.out 0 false w1 (by unfold owedOf; rw [hj, if_neg her]) hkp)
    have be : (er != 0) = true := by simpa using her
    clear hj hkp her
    go_wp2
    exact HZ.out

end Go.Proofs.Ytepadejkeokbcaa
