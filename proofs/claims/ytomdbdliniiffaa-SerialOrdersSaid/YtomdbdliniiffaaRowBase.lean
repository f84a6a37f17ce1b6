/-
  Two closed facts on the program that every row of this seat asks.
-/
import Derived.Test.YtomdbdliniiffaaRows
import Derived.ProofKit
namespace Go.Proofs.Ytomdbdliniiffaa
theorem Try.own : ownKnob Try.prog.godebug = none := by kernel_rfl
theorem Try.laidOut : laidOutB Try.prog = true := by kernel_rfl
end Go.Proofs.Ytomdbdliniiffaa
