/-
  (*side).told: a notice.
-/
import Derived.Test.YtepadejkeokbcaaSide
namespace Go.Proofs.Ytepadejkeokbcaa
open Go.RowKit Go.Maps

def Sd.told (a : Sd) (n : Int) : Int × Sd :=
  if n < 1 ∨ 5 < n then (2, a) else if a.ended = true ∨ (n = 1 ∧ a.came = true) then (17, a)
  else if n = 1 then (0, { a with came := true }) else if n = 2 ∧ a.came = false then (9, a) else (0, { a with ended := true })

def sideCells (sv uv nv : Value) (a : Sd) : Array Value := #[sv, uv, nv, .bool a.came, .bool a.ended, .bool a.shut]

def Told (w : World) (s : Nat) (sv uv nv : Value) (a : Sd) (n : Int) (e : Ending) (w' : World) : Prop :=
  e = .returned (.int .i64 (a.told n).1) ∧ w'.heap[s]? = some (.cells (sideCells sv uv nv (a.told n).2) 55 (0, 0)) ∧ Kept [s] w w'

set_option maxHeartbeats 1000000 in
theorem told_any {w : World} {s : Nat} {sv uv nv : Value} {a : Sd} (h : w.heap[s]? = some (.cells (sideCells sv uv nv a) 55 (0, 0))) (n : Int) :
    Calls Try.prog 24 #[.pointer (some ⟨s, 0, none⟩), .int .i64 n] w (Told w s sv uv nv a n) := by
  have c3 := blk_cell h 3
  have c4 := blk_cell h 4
  simp only [sideCells, List.getElem?_toArray, List.getElem?_cons_zero, List.getElem?_cons_succ] at c3 c4
  have f3 := blk_free h 3
  have f4 := blk_free h 4
  have HP := hid (show ∀ r, (a.told n) = (r, a) → Told w s sv uv nv a n (.returned (.int .i64 r)) w from fun r e => ⟨by rw [e], by rw [e]; exact h, Kept.refl _ _⟩)
  have HP3 := hid (show (a.told n) = (0, { a with came := true }) → Told w s sv uv nv a n (.returned (.int .i64 0)) (w.setCell ⟨s, 3, none⟩ (.bool true)) from fun e => ⟨by rw [e], by rw [e]; exact blk_set h 3 _, (Kept.refl _ _).setCell (.inl (by simp)) _⟩)
  have HP4 := hid (show (a.told n) = (0, { a with ended := true }) → Told w s sv uv nv a n (.returned (.int .i64 0)) (w.setCell ⟨s, 4, none⟩ (.bool true)) from fun e => ⟨by rw [e], by rw [e]; exact blk_set h 4 _, (Kept.refl _ _).setCell (.inl (by simp)) _⟩)
  generalize Told w s sv uv nv a n = Post at *
  clear h
  by_cases h1 : n < 1
  · have HN := hid (show a.told n = (2, a) from by unfold Sd.told; rw [if_pos (.inl h1)])
    go_enter Try.func24, Try.ntmps24
    go_wp2_with fail
    exact HP.out _ HN.out
  · by_cases h2 : 5 < n
    · have HN := hid (show a.told n = (2, a) from by unfold Sd.told; rw [if_pos (.inr h2)])
      go_enter Try.func24, Try.ntmps24
      go_wp2_with fail
      exact HP.out _ HN.out
    · have hr : ¬ (n < 1 ∨ 5 < n) := by omega
      by_cases h3 : a.ended = true
      · have HN := hid (show a.told n = (17, a) from by unfold Sd.told; rw [if_neg hr, if_pos (.inl h3)])
        clear hr
        go_enter Try.func24, Try.ntmps24
        go_wp2_with fail
        exact HP.out _ HN.out
      · have h3' : a.ended = false := by simpa using h3
        by_cases h4 : n = 1
        · by_cases h5 : a.came = true
          · have HN := hid (show a.told n = (17, a) from by unfold Sd.told; rw [if_neg hr, if_pos (.inr ⟨h4, h5⟩)])
            clear hr h3
            subst h4
            go_enter Try.func24, Try.ntmps24
            go_wp2_with fail
            exact HP.out _ HN.out
          · have HN := hid (show a.told n = (0, { a with came := true }) from by unfold Sd.told; rw [if_neg hr, if_neg (by simp [h3, h5]), if_pos h4])
            have h5' : a.came = false := by simpa using h5
            clear hr h3 h5
            subst h4
            go_enter Try.func24, Try.ntmps24
            go_wp2_with fail
            exact HP3.out HN.out
        · have b4 : (n == 1) = false := by simpa using h4
          by_cases h6 : n = 2
          · have b6 : (n == 2) = true := by simpa using h6
            by_cases h5 : a.came = true
            · have HN := hid (show a.told n = (0, { a with ended := true }) from by unfold Sd.told; rw [if_neg hr, if_neg (by simp [h3, h4]), if_neg h4, if_neg (by simp [h5])])
              clear hr h3
              subst h6
              go_enter Try.func24, Try.ntmps24
              go_wp2_with fail
              exact HP4.out HN.out
            · have h5' : a.came = false := by simpa using h5
              have HN := hid (show a.told n = (9, a) from by unfold Sd.told; rw [if_neg hr, if_neg (by simp [h3, h4]), if_neg h4, if_pos ⟨h6, h5'⟩])
              clear hr h3 h5
              subst h6
              go_enter Try.func24, Try.ntmps24
              go_wp2_with fail
              exact HP.out _ HN.out
          · have b6 : (n == 2) = false := by simpa using h6
            have HN := hid (show a.told n = (0, { a with ended := true }) from by unfold Sd.told; rw [if_neg hr, if_neg (by simp [h3, h4]), if_neg h4, if_neg (by simp [h6])])
            clear hr h3 h4 h6
            go_enter Try.func24, Try.ntmps24
            go_wp2_with fail
            exact HP4.out HN.out

end Go.Proofs.Ytepadejkeokbcaa
