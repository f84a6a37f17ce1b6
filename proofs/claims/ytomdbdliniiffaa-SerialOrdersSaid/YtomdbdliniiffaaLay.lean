/-
  slices.SortFunc at this program, under the closure of serial.Sort.
-/
import Derived.Test.YtomdbdliniiffaaSortR
import Derived.Test.YtomdbdliniiffaaOwnK
import Derived.Shelf.SlSortCmp.NoneTotal
import Derived.Shelf.Lay
import Derived.Ground.SlsfProg
namespace Go.Proofs.Ytomdbdliniiffaa
open Go.Shelf Go.RowKit Go.Sort

shelf_lay_g SlLaysF.n6 Slsf 6 at Try 29 as Try.sortL

theorem isNaN_any (x : Int) (w : World) : Calls Try.prog 35 #[.int .u32 x] w fun e w' => e = .returned (.bool false) ∧ w = w' := by
  have hx : (x != x) = false := by simp
  go_enter Try.func35, Try.ntmps35
  go_wp2
  go_ret
  exact ⟨rfl, rfl⟩

theorem Compare_any (x y : Int) (w : World) : Calls Try.prog 31 #[.int .u32 x, .int .u32 y] w fun e w' => e = .returned (.int .i64 (Lib.compareInt x y)) ∧ w = w' := by
  have h1 := isNaN_any x w
  have h2 := isNaN_any y w
  by_cases hl : x < y
  · have HF := hid (show Lib.compareInt x y = -1 from by simp [Lib.compareInt, hl])
    go_enter Try.func31, Try.ntmps31
    go_wp2_with fail
    refine h1.mono ?_
    rintro e w1 ⟨rfl, rfl⟩
    go_wp2_with fail
    refine h2.mono ?_
    rintro e w1 ⟨rfl, rfl⟩
    go_wp2
    go_ret
    exact ⟨by rw [HF.out]; rfl, rfl⟩
  · by_cases hg : y < x
    · have HF := hid (show Lib.compareInt x y = 1 from by simp [Lib.compareInt, hl, hg])
      go_enter Try.func31, Try.ntmps31
      go_wp2_with fail
      refine h1.mono ?_
      rintro e w1 ⟨rfl, rfl⟩
      go_wp2_with fail
      refine h2.mono ?_
      rintro e w1 ⟨rfl, rfl⟩
      go_wp2
      go_ret
      exact ⟨by rw [HF.out]; rfl, rfl⟩
    · have HF := hid (show Lib.compareInt x y = 0 from by simp [Lib.compareInt, hl, hg])
      go_enter Try.func31, Try.ntmps31
      go_wp2_with fail
      refine h1.mono ?_
      rintro e w1 ⟨rfl, rfl⟩
      go_wp2_with fail
      refine h2.mono ?_
      rintro e w1 ⟨rfl, rfl⟩
      go_wp2
      go_ret
      exact ⟨by rw [HF.out]; rfl, rfl⟩

theorem far_cut (bits f x : Int) : (x - f) % 4294967296 % mOf bits = far (mOf bits) f x := by
  unfold far
  rcases mOf_cases bits with ⟨_, e⟩ | ⟨_, e⟩ <;> rw [e] <;> omega

set_option maxHeartbeats 2000000 in
theorem closure_any (bits f x y : Int) (pb pf : Nat) (w : World) (hb : w.cell? ⟨pb, 0, none⟩ = some (.int .i64 bits)) (hf : w.cell? ⟨pf, 0, none⟩ = some (.int .u32 f)) :
    Calls Try.prog 30 #[.int .u32 x, .int .u32 y, .pointer (some ⟨pb, 0, none⟩), .pointer (some ⟨pf, 0, none⟩)] w fun e w' => e = .returned (.int .i64 (cfar (mOf bits) f x y)) ∧ ∃ q, w' = w.drewN q := by
  have C1 := hid (fun W => cut_any bits ((x - f) % 4294967296) W ⟨Int.emod_nonneg _ (by decide), Int.emod_lt_of_pos _ (by decide)⟩)
  have C2 := hid (fun W => cut_any bits ((y - f) % 4294967296) W ⟨Int.emod_nonneg _ (by decide), Int.emod_lt_of_pos _ (by decide)⟩)
  rw [far_cut] at C1 C2
  have C3 := hid (fun W => Compare_any (far (mOf bits) f x) (far (mOf bits) f y) W)
  have HF := hid (show cfar (mOf bits) f x y = Lib.compareInt (far (mOf bits) f x) (far (mOf bits) f y) from rfl)
  generalize Lib.compareInt (far (mOf bits) f x) (far (mOf bits) f y) = r at *
  generalize far (mOf bits) f x = fx at *
  generalize far (mOf bits) f y = fy at *
  generalize cfar (mOf bits) f x y = q at *
  go_enter Try.func30, Try.ntmps30
  go_wp2_with fail
  go_quiet (first | (go_at_call 32; exact quiet_same (C1.out _)) | (go_at_call 32; exact quiet_same (C2.out _)) | (go_at_call 31; exact quiet_same (C3.out _)))
  go_wp2
  go_ret
  exact ⟨by rw [HF.out]; rfl, _, rfl⟩

end Go.Proofs.Ytomdbdliniiffaa
