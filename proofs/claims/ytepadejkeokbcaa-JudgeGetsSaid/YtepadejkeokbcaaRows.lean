/-
  No cell of these rows narrows 'for every input' (looked for: loops, veiled, ifaces, maps, wideKeys, modest, calm, conditions, laid).
  DERIVED. THE GIVEN ROWS OF THIS SEAT. 6 by the template 'for every input the law returns true; each argument reads behind the call as it read before'; 0 by the template 'total and deterministic' (their statements: YtepadejkeokbcaaTotals.lean).
  GIVEN WITH THE SEED: the statements are not yours to turn. If you find one false, say at which input.
  Laid BY PROGRAM, IN A SANDBOX (cutbox-rows.mjs): the forced cells as the released guide's own fill.sh prints them over the translation d52c082e335021ce… (all of the seat's roots in one cut). By AI agents, Wed Nov 11 2026. No macro, syntax, notation, axiom, sorry.
-/
import Derived.Test.YtepadejkeokbcaaChecked
import GoSem.Claim
import GoSem.ClaimJoined
import GoSem.ClaimMapViews
import Derived.JoinedTies
import Derived.KernelRfl
namespace Go.Proofs.Ytepadejkeokbcaa
/- THE CELL 'sum', in the pinned program and in every row, IS THE sha256 OF THE DUMP (.gsa) THAT YtepadejkeokbcaaProg.lean LOADS. Nothing in Lean hashes anything: it is a label: what it is worth is what the hold of that sum in a sandbox is worth. -/
noncomputable def Try.pinned : Pinned := { name := "ytepadejkeokbcaa", sum := "d52c082e335021ce231d4752d4dc98d89938bc9b24c93c6d8568e822a6a4b9ba", checked := Try.checked }
namespace Rows
def none {H : Type} : Left H := { results := [], args := [] }

/-- 'trunklinelaw19.JudgeTells': WHATEVER THE INPUT: true; the input reads as it did. -/
def judgeTellsSpec : ChangeSpec := { name := "judgeTells", fn := fun _ => fun
  | [d] => { results := [.lit (.bool true)], args := [d] }
  | _ => none }
def judgeTellsRow : OpenClaim := { program := "ytepadejkeokbcaa", sum := "d52c082e335021ce231d4752d4dc98d89938bc9b24c93c6d8568e822a6a4b9ba", func := "trunkline/trunklinelaw19.JudgeTells", spec := "judgeTells", plainKeys := false, apart := false }
def JudgeTellsSaid : Prop := judgeTellsRow.holds Try.pinned (OpenSpec.ofChange judgeTellsSpec)

/-- ITS FALSE NEIGHBOUR: 'it returns false'. Refute it at one input. -/
def judgeTellsWrong : ChangeSpec := { name := "judgeTells", fn := fun _ => fun
  | [d] => { results := [.lit (.bool false)], args := [d] }
  | _ => none }
def JudgeTellsWrongFalsely : Prop := judgeTellsRow.holds Try.pinned (OpenSpec.ofChange judgeTellsWrong)

/-- 'trunklinelaw19.JudgeOwes': WHATEVER THE INPUT: true; the input reads as it did. -/
def judgeOwesSpec : ChangeSpec := { name := "judgeOwes", fn := fun _ => fun
  | [d1, d2, d3] => { results := [.lit (.bool true)], args := [d1, d2, d3] }
  | _ => none }
def judgeOwesRow : OpenClaim := { program := "ytepadejkeokbcaa", sum := "d52c082e335021ce231d4752d4dc98d89938bc9b24c93c6d8568e822a6a4b9ba", func := "trunkline/trunklinelaw19.JudgeOwes", spec := "judgeOwes", plainKeys := false, apart := false }
def JudgeOwesSaid : Prop := judgeOwesRow.holds Try.pinned (OpenSpec.ofChange judgeOwesSpec)

/-- ITS FALSE NEIGHBOUR: 'it returns false'. Refute it at one input. -/
def judgeOwesWrong : ChangeSpec := { name := "judgeOwes", fn := fun _ => fun
  | [d1, d2, d3] => { results := [.lit (.bool false)], args := [d1, d2, d3] }
  | _ => none }
def JudgeOwesWrongFalsely : Prop := judgeOwesRow.holds Try.pinned (OpenSpec.ofChange judgeOwesWrong)

/-- 'trunklinelaw19.JudgeBegins': WHATEVER THE INPUT: true; the input reads as it did. -/
def judgeBeginsSpec : ChangeSpec := { name := "judgeBegins", fn := fun _ => fun
  | [d1, d2] => { results := [.lit (.bool true)], args := [d1, d2] }
  | _ => none }
def judgeBeginsRow : OpenClaim := { program := "ytepadejkeokbcaa", sum := "d52c082e335021ce231d4752d4dc98d89938bc9b24c93c6d8568e822a6a4b9ba", func := "trunkline/trunklinelaw19.JudgeBegins", spec := "judgeBegins", plainKeys := false, apart := false }
def JudgeBeginsSaid : Prop := judgeBeginsRow.holds Try.pinned (OpenSpec.ofChange judgeBeginsSpec)

/-- ITS FALSE NEIGHBOUR: 'it returns false'. Refute it at one input. -/
def judgeBeginsWrong : ChangeSpec := { name := "judgeBegins", fn := fun _ => fun
  | [d1, d2] => { results := [.lit (.bool false)], args := [d1, d2] }
  | _ => none }
def JudgeBeginsWrongFalsely : Prop := judgeBeginsRow.holds Try.pinned (OpenSpec.ofChange judgeBeginsWrong)

/-- 'trunklinelaw19.JudgeGets': WHATEVER THE INPUT: true; the input reads as it did. -/
def judgeGetsSpec : ChangeSpec := { name := "judgeGets", fn := fun _ => fun
  | [d] => { results := [.lit (.bool true)], args := [d] }
  | _ => none }
def judgeGetsRow : OpenClaim := { program := "ytepadejkeokbcaa", sum := "d52c082e335021ce231d4752d4dc98d89938bc9b24c93c6d8568e822a6a4b9ba", func := "trunkline/trunklinelaw19.JudgeGets", spec := "judgeGets", plainKeys := false, apart := false }
def JudgeGetsSaid : Prop := judgeGetsRow.holds Try.pinned (OpenSpec.ofChange judgeGetsSpec)

/-- ITS FALSE NEIGHBOUR: 'it returns false'. Refute it at one input. -/
def judgeGetsWrong : ChangeSpec := { name := "judgeGets", fn := fun _ => fun
  | [d] => { results := [.lit (.bool false)], args := [d] }
  | _ => none }
def JudgeGetsWrongFalsely : Prop := judgeGetsRow.holds Try.pinned (OpenSpec.ofChange judgeGetsWrong)

/-- 'trunklinelaw19.JudgeEnds': WHATEVER THE INPUT: true; the input reads as it did. -/
def judgeEndsSpec : ChangeSpec := { name := "judgeEnds", fn := fun _ => fun
  | [d] => { results := [.lit (.bool true)], args := [d] }
  | _ => none }
def judgeEndsRow : OpenClaim := { program := "ytepadejkeokbcaa", sum := "d52c082e335021ce231d4752d4dc98d89938bc9b24c93c6d8568e822a6a4b9ba", func := "trunkline/trunklinelaw19.JudgeEnds", spec := "judgeEnds", plainKeys := false, apart := false }
def JudgeEndsSaid : Prop := judgeEndsRow.holds Try.pinned (OpenSpec.ofChange judgeEndsSpec)

/-- ITS FALSE NEIGHBOUR: 'it returns false'. Refute it at one input. -/
def judgeEndsWrong : ChangeSpec := { name := "judgeEnds", fn := fun _ => fun
  | [d] => { results := [.lit (.bool false)], args := [d] }
  | _ => none }
def JudgeEndsWrongFalsely : Prop := judgeEndsRow.holds Try.pinned (OpenSpec.ofChange judgeEndsWrong)

/-- 'trunklinelaw19.JudgeOwn': WHATEVER THE INPUT: true; the input reads as it did. -/
def judgeOwnSpec : ChangeSpec := { name := "judgeOwn", fn := fun _ => fun
  | [d] => { results := [.lit (.bool true)], args := [d] }
  | _ => none }
def judgeOwnRow : OpenClaim := { program := "ytepadejkeokbcaa", sum := "d52c082e335021ce231d4752d4dc98d89938bc9b24c93c6d8568e822a6a4b9ba", func := "trunkline/trunklinelaw19.JudgeOwn", spec := "judgeOwn", plainKeys := false, apart := false }
def JudgeOwnSaid : Prop := judgeOwnRow.holds Try.pinned (OpenSpec.ofChange judgeOwnSpec)

/-- ITS FALSE NEIGHBOUR: 'it returns false'. Refute it at one input. -/
def judgeOwnWrong : ChangeSpec := { name := "judgeOwn", fn := fun _ => fun
  | [d] => { results := [.lit (.bool false)], args := [d] }
  | _ => none }
def JudgeOwnWrongFalsely : Prop := judgeOwnRow.holds Try.pinned (OpenSpec.ofChange judgeOwnWrong)

/- THE SECOND FORM. 'bulk': how many values and letters a reading holds, each counted each time it is reached (what is shared counts as often as it is met; a slice's spare places count too). A statement '..UptoSaid' is the law's where the arguments, and the package variables that the reading takes, are together of bulk at most 1048576: NARROWER than '..Said'. Prove '..Said' where nothing that the law and all that it calls make is longer than what came in: it says more and counts as full. Else prove '..UptoSaid'. A law counts once. -/
mutual
def uptoBulk {H : Type} : DataW H → Nat
  | .lit (.string bytes) => bytes.length + 1
  | .lit _ => 1
  | .nil => 1
  | .ptr d => uptoBulk d + 1
  | .slice elems spare => uptoBulkAll elems + uptoBulkAll spare + 1
  | .agg parts => uptoBulkAll parts + 1
  | .iface _ d => uptoBulk d + 1
  | .map entries => uptoBulkEntries entries + 1
  | .held _ => 1
def uptoBulkAll {H : Type} : List (DataW H) → Nat
  | [] => 0
  | d :: r => uptoBulk d + uptoBulkAll r
def uptoBulkEntries {H : Type} : List (Lit × DataW H) → Nat
  | [] => 0
  | x :: r => uptoBulkEntry x + uptoBulkEntries r
def uptoBulkEntry {H : Type} : Lit × DataW H → Nat
  | (.string bytes, d) => bytes.length + uptoBulk d + 1
  | (_, d) => uptoBulk d + 1
 end
def uptoSmall : (H : Type) → List (DataW H) → Bool := fun _ ds => decide (uptoBulkAll ds ≤ 1048576)
def OpenSpec.upto (s : _root_.Go.ChangeSpec) : _root_.Go.OpenSpec := { _root_.Go.OpenSpec.ofChange s with cond := some uptoSmall }

/-- 'trunklinelaw19.JudgeTells', WHERE WHAT IT READS IS OF BULK AT MOST 1048576: true; the input reads as it did. -/
def judgeTellsUptoRow : OpenClaim := { program := "ytepadejkeokbcaa", sum := "d52c082e335021ce231d4752d4dc98d89938bc9b24c93c6d8568e822a6a4b9ba", func := "trunkline/trunklinelaw19.JudgeTells", spec := "judgeTells", plainKeys := false, apart := false, narrowed := true }
def JudgeTellsUptoSaid : Prop := judgeTellsUptoRow.holds Try.pinned (OpenSpec.upto judgeTellsSpec)

/-- 'trunklinelaw19.JudgeOwes', WHERE WHAT IT READS IS OF BULK AT MOST 1048576: true; the input reads as it did. -/
def judgeOwesUptoRow : OpenClaim := { program := "ytepadejkeokbcaa", sum := "d52c082e335021ce231d4752d4dc98d89938bc9b24c93c6d8568e822a6a4b9ba", func := "trunkline/trunklinelaw19.JudgeOwes", spec := "judgeOwes", plainKeys := false, apart := false, narrowed := true }
def JudgeOwesUptoSaid : Prop := judgeOwesUptoRow.holds Try.pinned (OpenSpec.upto judgeOwesSpec)

/-- 'trunklinelaw19.JudgeBegins', WHERE WHAT IT READS IS OF BULK AT MOST 1048576: true; the input reads as it did. -/
def judgeBeginsUptoRow : OpenClaim := { program := "ytepadejkeokbcaa", sum := "d52c082e335021ce231d4752d4dc98d89938bc9b24c93c6d8568e822a6a4b9ba", func := "trunkline/trunklinelaw19.JudgeBegins", spec := "judgeBegins", plainKeys := false, apart := false, narrowed := true }
def JudgeBeginsUptoSaid : Prop := judgeBeginsUptoRow.holds Try.pinned (OpenSpec.upto judgeBeginsSpec)

/-- 'trunklinelaw19.JudgeGets', WHERE WHAT IT READS IS OF BULK AT MOST 1048576: true; the input reads as it did. -/
def judgeGetsUptoRow : OpenClaim := { program := "ytepadejkeokbcaa", sum := "d52c082e335021ce231d4752d4dc98d89938bc9b24c93c6d8568e822a6a4b9ba", func := "trunkline/trunklinelaw19.JudgeGets", spec := "judgeGets", plainKeys := false, apart := false, narrowed := true }
def JudgeGetsUptoSaid : Prop := judgeGetsUptoRow.holds Try.pinned (OpenSpec.upto judgeGetsSpec)

/-- 'trunklinelaw19.JudgeEnds', WHERE WHAT IT READS IS OF BULK AT MOST 1048576: true; the input reads as it did. -/
def judgeEndsUptoRow : OpenClaim := { program := "ytepadejkeokbcaa", sum := "d52c082e335021ce231d4752d4dc98d89938bc9b24c93c6d8568e822a6a4b9ba", func := "trunkline/trunklinelaw19.JudgeEnds", spec := "judgeEnds", plainKeys := false, apart := false, narrowed := true }
def JudgeEndsUptoSaid : Prop := judgeEndsUptoRow.holds Try.pinned (OpenSpec.upto judgeEndsSpec)

/-- 'trunklinelaw19.JudgeOwn', WHERE WHAT IT READS IS OF BULK AT MOST 1048576: true; the input reads as it did. -/
def judgeOwnUptoRow : OpenClaim := { program := "ytepadejkeokbcaa", sum := "d52c082e335021ce231d4752d4dc98d89938bc9b24c93c6d8568e822a6a4b9ba", func := "trunkline/trunklinelaw19.JudgeOwn", spec := "judgeOwn", plainKeys := false, apart := false, narrowed := true }
def JudgeOwnUptoSaid : Prop := judgeOwnUptoRow.holds Try.pinned (OpenSpec.upto judgeOwnSpec)

end Rows
end Go.Proofs.Ytepadejkeokbcaa
