/-
  slices.SortFunc at this program, under the closure of serial.Sort.
-/
import Derived.Test.YtomdbdliniiffaaSortR
import Derived.Test.YtomdbdliniiffaaOwnK
import Derived.Shelf.SlSortCmp.NoneTotal
namespace Go.Proofs.Ytomdbdliniiffaa
open Go.Shelf Go.RowKit Go.Sort

def Try.sortL_ren : Go.Shelf.Ren := ⟨fun | 6 => 29 | 15 => 34 | 14 => 33 | 28 => 44 | 29 => 45 | 20 => 36 | 21 => 37 | 22 => 38 | 23 => 39 | 24 => 40 | 25 => 41 | 26 => 42 | 27 => 43 | 46 => 46 | 47 => 47 | 48 => 48 | 49 => 49 | 50 => 50 | 57 => 51 | n => n, fun | 22 => 30 | 24 => 22 | 25 => 61 | 3 => 3 | 39 => 63 | 0 => 0 | 53 => 22 | 55 => 37 | 4 => 4 | 46 => 69 | 45 => 68 | 50 => 73 | 5 => 5 | 9 => 9 | 66 => 77 | 70 => 81 | 76 => 83 | 77 => 84 | n => n, fun | n => n⟩
theorem Try.sortL : Go.Proofs.SlLaysF.n6 Try.prog Try.sortL_ren := {
  mixed := by kernel_rfl
  f6 := ⟨Try.f29.name, by decide, Try.func29.trans (congrArg some (by kernel_rfl))⟩
  f14 := ⟨Try.f33.name, by decide, Try.func33.trans (congrArg some (by kernel_rfl))⟩
  f15 := Try.func34.trans (congrArg some (by kernel_rfl))
  f20 := ⟨Try.f36.name, by decide, Try.func36.trans (congrArg some (by kernel_rfl))⟩
  f21 := ⟨Try.f37.name, by decide, Try.func37.trans (congrArg some (by kernel_rfl))⟩
  f22 := ⟨Try.f38.name, by decide, Try.func38.trans (congrArg some (by kernel_rfl))⟩
  f23 := ⟨Try.f39.name, by decide, Try.func39.trans (congrArg some (by kernel_rfl))⟩
  f24 := ⟨Try.f40.name, by decide, Try.func40.trans (congrArg some (by kernel_rfl))⟩
  f25 := ⟨Try.f41.name, by decide, Try.func41.trans (congrArg some (by kernel_rfl))⟩
  f26 := ⟨Try.f42.name, by decide, Try.func42.trans (congrArg some (by kernel_rfl))⟩
  f27 := ⟨Try.f43.name, by decide, Try.func43.trans (congrArg some (by kernel_rfl))⟩
  f28 := Try.func44.trans (congrArg some (by kernel_rfl))
  f29 := Try.func45.trans (congrArg some (by kernel_rfl))
  f46 := ⟨Try.f46.name, by decide, Try.func46.trans (congrArg some (by kernel_rfl))⟩
  f47 := Try.func47.trans (congrArg some (by kernel_rfl))
  f48 := Try.func48.trans (congrArg some (by kernel_rfl))
  f49 := ⟨Try.f49.name, by decide, Try.func49.trans (congrArg some (by kernel_rfl))⟩
  f50 := ⟨Try.f50.name, by decide, Try.func50.trans (congrArg some (by kernel_rfl))⟩
  f57 := ⟨Try.f51.name, by decide, Try.func51.trans (congrArg some (by kernel_rfl))⟩
  t0 := Try.underlying0
  a0 := Try.isAgg0
  z0 := Try.sizeOf0
  v0 := Try.zeroValue0
  t3 := Try.underlying3
  a3 := Try.isAgg3
  z3 := Try.sizeOf3
  v3 := Try.zeroValue3
  t4 := Try.underlying4
  a4 := Try.isAgg4
  z4 := Try.sizeOf4
  v4 := Try.zeroValue4
  t5 := Try.underlying5
  a5 := Try.isAgg5
  z5 := Try.sizeOf5
  v5 := Try.zeroValue5
  t9 := Try.underlying9
  a9 := Try.isAgg9
  z9 := Try.sizeOf9
  v9 := Try.zeroValue9
  t22 := Try.underlying30
  a22 := Try.isAgg30
  z22 := Try.sizeOf30
  v22 := Try.zeroValue30
  a24 := Try.isAgg22
  z24 := Try.sizeOf22
  t25 := Try.underlying61
  a25 := Try.isAgg61
  z25 := Try.sizeOf61
  v25 := Try.zeroValue61
  t39 := Try.underlying63
  a39 := Try.isAgg63
  z39 := Try.sizeOf63
  v39 := Try.zeroValue63
  t45 := Try.underlying68
  a45 := Try.isAgg68
  z45 := Try.sizeOf68
  v45 := Try.zeroValue68
  t46 := Try.underlying69
  a46 := Try.isAgg69
  z46 := Try.sizeOf69
  v46 := Try.zeroValue69
  t50 := Try.underlying73
  a50 := Try.isAgg73
  z50 := Try.sizeOf73
  v50 := Try.zeroValue73
  t53 := Try.underlying22
  a53 := Try.isAgg22
  z53 := Try.sizeOf22
  v53 := Try.zeroValue22
  t55 := Try.underlying37
  a55 := Try.isAgg37
  z55 := Try.sizeOf37
  v55 := Try.zeroValue37
  t66 := Try.underlying77
  a66 := Try.isAgg77
  z66 := Try.sizeOf77
  v66 := Try.zeroValue77
  t70 := Try.underlying81
  a70 := Try.isAgg81
  z70 := Try.sizeOf81
  v70 := Try.zeroValue81
  t76 := Try.underlying83
  a76 := Try.isAgg83
  z76 := Try.sizeOf83
  v76 := Try.zeroValue83
  t77 := Try.underlying84
  a77 := Try.isAgg84
  z77 := Try.sizeOf84
  v77 := Try.zeroValue84 }

theorem isNaN_any (x : Int) (w : World) : Calls Try.prog 35 #[.int .u32 x] w fun e w' => e = .returned (.bool false) ∧ w = w' := by
  have hx : (x != x) = false := by simp
  go_enter Try.func35, Try.ntmps35
  go_wp2
  go_ret
  exact ⟨rfl, rfl⟩

theorem Compare_any (x y : Int) (w : World) : Calls Try.prog 31 #[.int .u32 x, .int .u32 y] w fun e w' => e = .returned (.int .i64 (Lib.compareInt x y)) ∧ w = w' := by
  have h1 := isNaN_any x w
  have h2 := isNaN_any y w
  by_cases hl : x < y
  · have HF := hid (show Lib.compareInt x y = -1 from by simp [Lib.compareInt, hl])
    go_enter Try.func31, Try.ntmps31
    go_wp2_with fail
    refine h1.mono ?_
    rintro e w1 ⟨rfl, rfl⟩
    go_wp2_with fail
    refine h2.mono ?_
    rintro e w1 ⟨rfl, rfl⟩
    go_wp2
    go_ret
    exact ⟨by rw [HF.out]; rfl, rfl⟩
  · by_cases hg : y < x
    · have HF := hid (show Lib.compareInt x y = 1 from by simp [Lib.compareInt, hl, hg])
      go_enter Try.func31, Try.ntmps31
      go_wp2_with fail
      refine h1.mono ?_
      rintro e w1 ⟨rfl, rfl⟩
      go_wp2_with fail
      refine h2.mono ?_
      rintro e w1 ⟨rfl, rfl⟩
      go_wp2
      go_ret
      exact ⟨by rw [HF.out]; rfl, rfl⟩
    · have HF := hid (show Lib.compareInt x y = 0 from by simp [Lib.compareInt, hl, hg])
      go_enter Try.func31, Try.ntmps31
      go_wp2_with fail
      refine h1.mono ?_
      rintro e w1 ⟨rfl, rfl⟩
      go_wp2_with fail
      refine h2.mono ?_
      rintro e w1 ⟨rfl, rfl⟩
      go_wp2
      go_ret
      exact ⟨by rw [HF.out]; rfl, rfl⟩

theorem far_cut (bits f x : Int) : (x - f) % 4294967296 % mOf bits = far (mOf bits) f x := by
  unfold far
  rcases mOf_cases bits with ⟨_, e⟩ | ⟨_, e⟩ <;> rw [e] <;> omega

set_option maxHeartbeats 2000000 in
theorem closure_any (bits f x y : Int) (pb pf : Nat) (w : World) (hb : w.cell? ⟨pb, 0, none⟩ = some (.int .i64 bits)) (hf : w.cell? ⟨pf, 0, none⟩ = some (.int .u32 f)) :
    Calls Try.prog 30 #[.int .u32 x, .int .u32 y, .pointer (some ⟨pb, 0, none⟩), .pointer (some ⟨pf, 0, none⟩)] w fun e w' => e = .returned (.int .i64 (cfar (mOf bits) f x y)) ∧ ∃ q, w' = w.drewN q := by
  have C1 := hid (fun W => cut_any bits ((x - f) % 4294967296) W ⟨Int.emod_nonneg _ (by decide), Int.emod_lt_of_pos _ (by decide)⟩)
  have C2 := hid (fun W => cut_any bits ((y - f) % 4294967296) W ⟨Int.emod_nonneg _ (by decide), Int.emod_lt_of_pos _ (by decide)⟩)
  rw [far_cut] at C1 C2
  have C3 := hid (fun W => Compare_any (far (mOf bits) f x) (far (mOf bits) f y) W)
  have HF := hid (show cfar (mOf bits) f x y = Lib.compareInt (far (mOf bits) f x) (far (mOf bits) f y) from rfl)
  generalize Lib.compareInt (far (mOf bits) f x) (far (mOf bits) f y) = r at *
  generalize far (mOf bits) f x = fx at *
  generalize far (mOf bits) f y = fy at *
  generalize cfar (mOf bits) f x y = q at *
  go_enter Try.func30, Try.ntmps30
  go_wp2_with fail
  go_quiet (first | (go_at_call 32; exact quiet_same (C1.out _)) | (go_at_call 32; exact quiet_same (C2.out _)) | (go_at_call 31; exact quiet_same (C3.out _)))
  go_wp2
  go_ret
  exact ⟨by rw [HF.out]; rfl, _, rfl⟩

end Go.Proofs.Ytomdbdliniiffaa
