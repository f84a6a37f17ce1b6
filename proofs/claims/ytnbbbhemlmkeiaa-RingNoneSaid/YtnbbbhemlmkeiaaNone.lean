/-
  The law RingNone, walked: a nil ring answers as the document says: true, whatever the bytes and the number.
-/
import Derived.Test.YtnbbbhemlmkeiaaLive
namespace Go.Proofs.Ytnbbbhemlmkeiaa
open Go.RowKit

set_option maxHeartbeats 1000000 in
theorem none_any (v : Value) (i : Int) (w : World) : Calls Try.prog 8 #[v, .int .i64 i] w fun e w' => e = .returned (.bool true) ∧ Kept [] w w' := by
  go_enter Try.func8, Try.ntmps8
  go_wp2_with (first
    | (go_at_call 11; refine (take_nil _).mono ?_; rintro e w' ⟨rfl, rfl⟩)
    | (go_at_call 16; refine (owner_nil _ _).mono ?_; rintro e w' ⟨rfl, rfl⟩)
    | (go_at_call 14; refine (count_nil _).mono ?_; rintro e w' ⟨rfl, rfl⟩)
    | (go_at_call 13; refine (live_any _).mono ?_; rintro e w' ⟨rfl, hk⟩)
    | (go_at_call 10; refine (fill_nil _ _).mono ?_; rintro e w' ⟨rfl, rfl⟩)
    | (go_at_call 12; refine (give_nil _).mono ?_; rintro e w' ⟨rfl, rfl⟩)
    | (go_at_call 17; refine (fork_nil _).mono ?_; rintro e w' ⟨rfl, rfl⟩))
  go_ret
  exact ⟨rfl, hk⟩

end Go.Proofs.Ytnbbbhemlmkeiaa
