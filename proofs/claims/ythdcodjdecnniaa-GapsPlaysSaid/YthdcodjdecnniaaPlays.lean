/-
  The law GapsPlays: what it returns.
-/
import Derived.Test.YthdcodjdecnniaaPlay
import Derived.Test.YthdcodjdecnniaaLive
namespace Go.Proofs.Ythdcodjdecnniaa
open Go.RowKit

theorem plays_any {C : Nat → Prop} {w : World} {first : Int} {lv : Value} {ds : List (Int × Bool)} (hl : SliceIn C w 2 lv ds.length (deedsV ds)) (hf : 0 ≤ first ∧ first < 4294967296) :
    Calls Try.prog 3 #[.int .u32 first, lv] w fun e w' => e = .returned (.bool true) ∧ Kept [] w w' := by
  have HP := hid (play_any hl hf)
  clear hl
  go_enter Try.func3, Try.ntmps3
  go_wp2_with fail
  refine HP.out.mono ?_
  rintro e w1 ⟨x, y, rfl, o, B, _, _, _, _, _, hk⟩
  have HK := hid hk
  clear hk
  go_wp2_with fail
  refine (live_any _).mono ?_
  rintro e w2 ⟨rfl, hk⟩
  have HK2 := hid (HK.out.tr hk)
  clear hk
  go_wp2
  go_ret
  exact ⟨rfl, HK2.out⟩

end Go.Proofs.Ythdcodjdecnniaa
