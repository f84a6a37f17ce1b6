/-
  No cell of these rows narrows 'for every input' (looked for: loops, veiled, ifaces, maps, wideKeys, modest, calm, conditions, laid).
  DERIVED. THE GIVEN ROWS OF THIS SEAT. 9 by the template 'for every input the law returns true; each argument reads behind the call as it read before'; 0 by the template 'total and deterministic' (their statements: YtomdbdliniiffaaTotals.lean).
  GIVEN WITH THE SEED: the statements are not yours to turn. If you find one false, say at which input.
  Laid BY PROGRAM, IN A SANDBOX (cutbox-rows.mjs): the forced cells as the released guide's own fill.sh prints them over the translation c2fb1c74d03b4c84… (all of the seat's roots in one cut). By AI agents, Wed Nov 11 2026. No macro, syntax, notation, axiom, sorry.
-/
import Derived.Test.YtomdbdliniiffaaChecked
import GoSem.Claim
import GoSem.ClaimJoined
import GoSem.ClaimMapViews
import Derived.JoinedTies
import Derived.KernelRfl
namespace Go.Proofs.Ytomdbdliniiffaa
/- THE CELL 'sum', in the pinned program and in every row, IS THE sha256 OF THE DUMP (.gsa) THAT YtomdbdliniiffaaProg.lean LOADS. Nothing in Lean hashes anything: it is a label: what it is worth is what the hold of that sum in a sandbox is worth. -/
noncomputable def Try.pinned : Pinned := { name := "ytomdbdliniiffaa", sum := "c2fb1c74d03b4c84e1bb34ed72713b84b6c97d4bcb5b5878ebdfb62353fead8b", checked := Try.checked }
namespace Rows
def none {H : Type} : Left H := { results := [], args := [] }

/-- 'trunklinelaw03.SerialLess': WHATEVER THE INPUT: true; the input reads as it did. -/
def serialLessSpec : ChangeSpec := { name := "serialLess", fn := fun _ => fun
  | [d1, d2, d3] => { results := [.lit (.bool true)], args := [d1, d2, d3] }
  | _ => none }
def serialLessRow : OpenClaim := { program := "ytomdbdliniiffaa", sum := "c2fb1c74d03b4c84e1bb34ed72713b84b6c97d4bcb5b5878ebdfb62353fead8b", func := "trunkline/trunklinelaw03.SerialLess", spec := "serialLess", unfollowed := true, recurses := true, apart := false }
def SerialLessSaid : Prop := serialLessRow.holds Try.pinned (OpenSpec.ofChange serialLessSpec)

/-- ITS FALSE NEIGHBOUR: 'it returns false'. Refute it at one input. -/
def serialLessWrong : ChangeSpec := { name := "serialLess", fn := fun _ => fun
  | [d1, d2, d3] => { results := [.lit (.bool false)], args := [d1, d2, d3] }
  | _ => none }
def SerialLessWrongFalsely : Prop := serialLessRow.holds Try.pinned (OpenSpec.ofChange serialLessWrong)

/-- 'trunklinelaw03.SerialSorts': WHATEVER THE INPUT: true; the input reads as it did. -/
def serialSortsSpec : ChangeSpec := { name := "serialSorts", fn := fun _ => fun
  | [d1, d2, d3] => { results := [.lit (.bool true)], args := [d1, d2, d3] }
  | _ => none }
def serialSortsRow : OpenClaim := { program := "ytomdbdliniiffaa", sum := "c2fb1c74d03b4c84e1bb34ed72713b84b6c97d4bcb5b5878ebdfb62353fead8b", func := "trunkline/trunklinelaw03.SerialSorts", spec := "serialSorts", unfollowed := true, recurses := true, apart := false }
def SerialSortsSaid : Prop := serialSortsRow.holds Try.pinned (OpenSpec.ofChange serialSortsSpec)

/-- ITS FALSE NEIGHBOUR: 'it returns false'. Refute it at one input. -/
def serialSortsWrong : ChangeSpec := { name := "serialSorts", fn := fun _ => fun
  | [d1, d2, d3] => { results := [.lit (.bool false)], args := [d1, d2, d3] }
  | _ => none }
def SerialSortsWrongFalsely : Prop := serialSortsRow.holds Try.pinned (OpenSpec.ofChange serialSortsWrong)

/-- 'trunklinelaw03.SerialOrders': WHATEVER THE INPUT: true; the input reads as it did. -/
def serialOrdersSpec : ChangeSpec := { name := "serialOrders", fn := fun _ => fun
  | [d1, d2, d3] => { results := [.lit (.bool true)], args := [d1, d2, d3] }
  | _ => none }
def serialOrdersRow : OpenClaim := { program := "ytomdbdliniiffaa", sum := "c2fb1c74d03b4c84e1bb34ed72713b84b6c97d4bcb5b5878ebdfb62353fead8b", func := "trunkline/trunklinelaw03.SerialOrders", spec := "serialOrders", unfollowed := true, recurses := true, apart := false }
def SerialOrdersSaid : Prop := serialOrdersRow.holds Try.pinned (OpenSpec.ofChange serialOrdersSpec)

/-- ITS FALSE NEIGHBOUR: 'it returns false'. Refute it at one input. -/
def serialOrdersWrong : ChangeSpec := { name := "serialOrders", fn := fun _ => fun
  | [d1, d2, d3] => { results := [.lit (.bool false)], args := [d1, d2, d3] }
  | _ => none }
def SerialOrdersWrongFalsely : Prop := serialOrdersRow.holds Try.pinned (OpenSpec.ofChange serialOrdersWrong)

/-- 'trunklinelaw03.SerialSpans': WHATEVER THE INPUT: true; the input reads as it did. -/
def serialSpansSpec : ChangeSpec := { name := "serialSpans", fn := fun _ => fun
  | [d1, d2] => { results := [.lit (.bool true)], args := [d1, d2] }
  | _ => none }
def serialSpansRow : OpenClaim := { program := "ytomdbdliniiffaa", sum := "c2fb1c74d03b4c84e1bb34ed72713b84b6c97d4bcb5b5878ebdfb62353fead8b", func := "trunkline/trunklinelaw03.SerialSpans", spec := "serialSpans", unfollowed := true, recurses := true, apart := false }
def SerialSpansSaid : Prop := serialSpansRow.holds Try.pinned (OpenSpec.ofChange serialSpansSpec)

/-- ITS FALSE NEIGHBOUR: 'it returns false'. Refute it at one input. -/
def serialSpansWrong : ChangeSpec := { name := "serialSpans", fn := fun _ => fun
  | [d1, d2] => { results := [.lit (.bool false)], args := [d1, d2] }
  | _ => none }
def SerialSpansWrongFalsely : Prop := serialSpansRow.holds Try.pinned (OpenSpec.ofChange serialSpansWrong)

/-- 'trunklinelaw03.SerialRuns': WHATEVER THE INPUT: true; the input reads as it did. -/
def serialRunsSpec : ChangeSpec := { name := "serialRuns", fn := fun _ => fun
  | [d] => { results := [.lit (.bool true)], args := [d] }
  | _ => none }
def serialRunsRow : OpenClaim := { program := "ytomdbdliniiffaa", sum := "c2fb1c74d03b4c84e1bb34ed72713b84b6c97d4bcb5b5878ebdfb62353fead8b", func := "trunkline/trunklinelaw03.SerialRuns", spec := "serialRuns", unfollowed := true, recurses := true, apart := false }
def SerialRunsSaid : Prop := serialRunsRow.holds Try.pinned (OpenSpec.ofChange serialRunsSpec)

/-- ITS FALSE NEIGHBOUR: 'it returns false'. Refute it at one input. -/
def serialRunsWrong : ChangeSpec := { name := "serialRuns", fn := fun _ => fun
  | [d] => { results := [.lit (.bool false)], args := [d] }
  | _ => none }
def SerialRunsWrongFalsely : Prop := serialRunsRow.holds Try.pinned (OpenSpec.ofChange serialRunsWrong)

/-- 'trunklinelaw03.SerialAdds': WHATEVER THE INPUT: true; the input reads as it did. -/
def serialAddsSpec : ChangeSpec := { name := "serialAdds", fn := fun _ => fun
  | [d1, d2, d3] => { results := [.lit (.bool true)], args := [d1, d2, d3] }
  | _ => none }
def serialAddsRow : OpenClaim := { program := "ytomdbdliniiffaa", sum := "c2fb1c74d03b4c84e1bb34ed72713b84b6c97d4bcb5b5878ebdfb62353fead8b", func := "trunkline/trunklinelaw03.SerialAdds", spec := "serialAdds", unfollowed := true, recurses := true, apart := false }
def SerialAddsSaid : Prop := serialAddsRow.holds Try.pinned (OpenSpec.ofChange serialAddsSpec)

/-- ITS FALSE NEIGHBOUR: 'it returns false'. Refute it at one input. -/
def serialAddsWrong : ChangeSpec := { name := "serialAdds", fn := fun _ => fun
  | [d1, d2, d3] => { results := [.lit (.bool false)], args := [d1, d2, d3] }
  | _ => none }
def SerialAddsWrongFalsely : Prop := serialAddsRow.holds Try.pinned (OpenSpec.ofChange serialAddsWrong)

/-- 'trunklinelaw03.SerialSteps': WHATEVER THE INPUT: true; the input reads as it did. -/
def serialStepsSpec : ChangeSpec := { name := "serialSteps", fn := fun _ => fun
  | [d1, d2, d3] => { results := [.lit (.bool true)], args := [d1, d2, d3] }
  | _ => none }
def serialStepsRow : OpenClaim := { program := "ytomdbdliniiffaa", sum := "c2fb1c74d03b4c84e1bb34ed72713b84b6c97d4bcb5b5878ebdfb62353fead8b", func := "trunkline/trunklinelaw03.SerialSteps", spec := "serialSteps", unfollowed := true, recurses := true, apart := false }
def SerialStepsSaid : Prop := serialStepsRow.holds Try.pinned (OpenSpec.ofChange serialStepsSpec)

/-- ITS FALSE NEIGHBOUR: 'it returns false'. Refute it at one input. -/
def serialStepsWrong : ChangeSpec := { name := "serialSteps", fn := fun _ => fun
  | [d1, d2, d3] => { results := [.lit (.bool false)], args := [d1, d2, d3] }
  | _ => none }
def SerialStepsWrongFalsely : Prop := serialStepsRow.holds Try.pinned (OpenSpec.ofChange serialStepsWrong)

/-- 'trunklinelaw03.SerialOne': WHATEVER THE INPUT: true; the input reads as it did. -/
def serialOneSpec : ChangeSpec := { name := "serialOne", fn := fun _ => fun
  | [d1, d2, d3] => { results := [.lit (.bool true)], args := [d1, d2, d3] }
  | _ => none }
def serialOneRow : OpenClaim := { program := "ytomdbdliniiffaa", sum := "c2fb1c74d03b4c84e1bb34ed72713b84b6c97d4bcb5b5878ebdfb62353fead8b", func := "trunkline/trunklinelaw03.SerialOne", spec := "serialOne", unfollowed := true, recurses := true, apart := false }
def SerialOneSaid : Prop := serialOneRow.holds Try.pinned (OpenSpec.ofChange serialOneSpec)

/-- ITS FALSE NEIGHBOUR: 'it returns false'. Refute it at one input. -/
def serialOneWrong : ChangeSpec := { name := "serialOne", fn := fun _ => fun
  | [d1, d2, d3] => { results := [.lit (.bool false)], args := [d1, d2, d3] }
  | _ => none }
def SerialOneWrongFalsely : Prop := serialOneRow.holds Try.pinned (OpenSpec.ofChange serialOneWrong)

/-- 'trunklinelaw03.SerialShifts': WHATEVER THE INPUT: true; the input reads as it did. -/
def serialShiftsSpec : ChangeSpec := { name := "serialShifts", fn := fun _ => fun
  | [d1, d2, d3] => { results := [.lit (.bool true)], args := [d1, d2, d3] }
  | _ => none }
def serialShiftsRow : OpenClaim := { program := "ytomdbdliniiffaa", sum := "c2fb1c74d03b4c84e1bb34ed72713b84b6c97d4bcb5b5878ebdfb62353fead8b", func := "trunkline/trunklinelaw03.SerialShifts", spec := "serialShifts", unfollowed := true, recurses := true, apart := false }
def SerialShiftsSaid : Prop := serialShiftsRow.holds Try.pinned (OpenSpec.ofChange serialShiftsSpec)

/-- ITS FALSE NEIGHBOUR: 'it returns false'. Refute it at one input. -/
def serialShiftsWrong : ChangeSpec := { name := "serialShifts", fn := fun _ => fun
  | [d1, d2, d3] => { results := [.lit (.bool false)], args := [d1, d2, d3] }
  | _ => none }
def SerialShiftsWrongFalsely : Prop := serialShiftsRow.holds Try.pinned (OpenSpec.ofChange serialShiftsWrong)

/- THE SECOND FORM. 'bulk': how many values and letters a reading holds, each counted each time it is reached (what is shared counts as often as it is met; a slice's spare places count too). A statement '..UptoSaid' is the law's where the arguments, and the package variables that the reading takes, are together of bulk at most 1048576: NARROWER than '..Said'. Prove '..Said' where nothing that the law and all that it calls make is longer than what came in: it says more and counts as full. Else prove '..UptoSaid'. A law counts once. -/
mutual
def uptoBulk {H : Type} : DataW H → Nat
  | .lit (.string bytes) => bytes.length + 1
  | .lit _ => 1
  | .nil => 1
  | .ptr d => uptoBulk d + 1
  | .slice elems spare => uptoBulkAll elems + uptoBulkAll spare + 1
  | .agg parts => uptoBulkAll parts + 1
  | .iface _ d => uptoBulk d + 1
  | .map entries => uptoBulkEntries entries + 1
  | .held _ => 1
def uptoBulkAll {H : Type} : List (DataW H) → Nat
  | [] => 0
  | d :: r => uptoBulk d + uptoBulkAll r
def uptoBulkEntries {H : Type} : List (Lit × DataW H) → Nat
  | [] => 0
  | x :: r => uptoBulkEntry x + uptoBulkEntries r
def uptoBulkEntry {H : Type} : Lit × DataW H → Nat
  | (.string bytes, d) => bytes.length + uptoBulk d + 1
  | (_, d) => uptoBulk d + 1
 end
def uptoSmall : (H : Type) → List (DataW H) → Bool := fun _ ds => decide (uptoBulkAll ds ≤ 1048576)
def OpenSpec.upto (s : _root_.Go.ChangeSpec) : _root_.Go.OpenSpec := { _root_.Go.OpenSpec.ofChange s with cond := some uptoSmall }

/-- 'trunklinelaw03.SerialLess', WHERE WHAT IT READS IS OF BULK AT MOST 1048576: true; the input reads as it did. -/
def serialLessUptoRow : OpenClaim := { program := "ytomdbdliniiffaa", sum := "c2fb1c74d03b4c84e1bb34ed72713b84b6c97d4bcb5b5878ebdfb62353fead8b", func := "trunkline/trunklinelaw03.SerialLess", spec := "serialLess", unfollowed := true, recurses := true, apart := false, narrowed := true }
def SerialLessUptoSaid : Prop := serialLessUptoRow.holds Try.pinned (OpenSpec.upto serialLessSpec)

/-- 'trunklinelaw03.SerialSorts', WHERE WHAT IT READS IS OF BULK AT MOST 1048576: true; the input reads as it did. -/
def serialSortsUptoRow : OpenClaim := { program := "ytomdbdliniiffaa", sum := "c2fb1c74d03b4c84e1bb34ed72713b84b6c97d4bcb5b5878ebdfb62353fead8b", func := "trunkline/trunklinelaw03.SerialSorts", spec := "serialSorts", unfollowed := true, recurses := true, apart := false, narrowed := true }
def SerialSortsUptoSaid : Prop := serialSortsUptoRow.holds Try.pinned (OpenSpec.upto serialSortsSpec)

/-- 'trunklinelaw03.SerialOrders', WHERE WHAT IT READS IS OF BULK AT MOST 1048576: true; the input reads as it did. -/
def serialOrdersUptoRow : OpenClaim := { program := "ytomdbdliniiffaa", sum := "c2fb1c74d03b4c84e1bb34ed72713b84b6c97d4bcb5b5878ebdfb62353fead8b", func := "trunkline/trunklinelaw03.SerialOrders", spec := "serialOrders", unfollowed := true, recurses := true, apart := false, narrowed := true }
def SerialOrdersUptoSaid : Prop := serialOrdersUptoRow.holds Try.pinned (OpenSpec.upto serialOrdersSpec)

/-- 'trunklinelaw03.SerialSpans', WHERE WHAT IT READS IS OF BULK AT MOST 1048576: true; the input reads as it did. -/
def serialSpansUptoRow : OpenClaim := { program := "ytomdbdliniiffaa", sum := "c2fb1c74d03b4c84e1bb34ed72713b84b6c97d4bcb5b5878ebdfb62353fead8b", func := "trunkline/trunklinelaw03.SerialSpans", spec := "serialSpans", unfollowed := true, recurses := true, apart := false, narrowed := true }
def SerialSpansUptoSaid : Prop := serialSpansUptoRow.holds Try.pinned (OpenSpec.upto serialSpansSpec)

/-- 'trunklinelaw03.SerialRuns', WHERE WHAT IT READS IS OF BULK AT MOST 1048576: true; the input reads as it did. -/
def serialRunsUptoRow : OpenClaim := { program := "ytomdbdliniiffaa", sum := "c2fb1c74d03b4c84e1bb34ed72713b84b6c97d4bcb5b5878ebdfb62353fead8b", func := "trunkline/trunklinelaw03.SerialRuns", spec := "serialRuns", unfollowed := true, recurses := true, apart := false, narrowed := true }
def SerialRunsUptoSaid : Prop := serialRunsUptoRow.holds Try.pinned (OpenSpec.upto serialRunsSpec)

/-- 'trunklinelaw03.SerialAdds', WHERE WHAT IT READS IS OF BULK AT MOST 1048576: true; the input reads as it did. -/
def serialAddsUptoRow : OpenClaim := { program := "ytomdbdliniiffaa", sum := "c2fb1c74d03b4c84e1bb34ed72713b84b6c97d4bcb5b5878ebdfb62353fead8b", func := "trunkline/trunklinelaw03.SerialAdds", spec := "serialAdds", unfollowed := true, recurses := true, apart := false, narrowed := true }
def SerialAddsUptoSaid : Prop := serialAddsUptoRow.holds Try.pinned (OpenSpec.upto serialAddsSpec)

/-- 'trunklinelaw03.SerialSteps', WHERE WHAT IT READS IS OF BULK AT MOST 1048576: true; the input reads as it did. -/
def serialStepsUptoRow : OpenClaim := { program := "ytomdbdliniiffaa", sum := "c2fb1c74d03b4c84e1bb34ed72713b84b6c97d4bcb5b5878ebdfb62353fead8b", func := "trunkline/trunklinelaw03.SerialSteps", spec := "serialSteps", unfollowed := true, recurses := true, apart := false, narrowed := true }
def SerialStepsUptoSaid : Prop := serialStepsUptoRow.holds Try.pinned (OpenSpec.upto serialStepsSpec)

/-- 'trunklinelaw03.SerialOne', WHERE WHAT IT READS IS OF BULK AT MOST 1048576: true; the input reads as it did. -/
def serialOneUptoRow : OpenClaim := { program := "ytomdbdliniiffaa", sum := "c2fb1c74d03b4c84e1bb34ed72713b84b6c97d4bcb5b5878ebdfb62353fead8b", func := "trunkline/trunklinelaw03.SerialOne", spec := "serialOne", unfollowed := true, recurses := true, apart := false, narrowed := true }
def SerialOneUptoSaid : Prop := serialOneUptoRow.holds Try.pinned (OpenSpec.upto serialOneSpec)

/-- 'trunklinelaw03.SerialShifts', WHERE WHAT IT READS IS OF BULK AT MOST 1048576: true; the input reads as it did. -/
def serialShiftsUptoRow : OpenClaim := { program := "ytomdbdliniiffaa", sum := "c2fb1c74d03b4c84e1bb34ed72713b84b6c97d4bcb5b5878ebdfb62353fead8b", func := "trunkline/trunklinelaw03.SerialShifts", spec := "serialShifts", unfollowed := true, recurses := true, apart := false, narrowed := true }
def SerialShiftsUptoSaid : Prop := serialShiftsUptoRow.holds Try.pinned (OpenSpec.upto serialShiftsSpec)

end Rows
end Go.Proofs.Ytomdbdliniiffaa
