/-
  No cell of these rows narrows 'for every input' (looked for: loops, veiled, ifaces, maps, wideKeys, modest, calm, conditions, laid).
  DERIVED. THE GIVEN ROWS OF THIS SEAT. 8 by the template 'for every input the law returns true; each argument reads behind the call as it read before'; 0 by the template 'total and deterministic' (their statements: YthdcodjdecnniaaTotals.lean).
  GIVEN WITH THE SEED: the statements are not yours to turn. If you find one false, say at which input.
  Laid BY PROGRAM, IN A SANDBOX (cutbox-rows.mjs): the forced cells as the released guide's own fill.sh prints them over the translation 6d258f106089446f… (all of the seat's roots in one cut). By AI agents, Wed Nov 11 2026. No macro, syntax, notation, axiom, sorry.
-/
import Derived.Test.YthdcodjdecnniaaChecked
import GoSem.Claim
import GoSem.ClaimJoined
import GoSem.ClaimMapViews
import Derived.JoinedTies
import Derived.KernelRfl
namespace Go.Proofs.Ythdcodjdecnniaa
/- THE CELL 'sum', in the pinned program and in every row, IS THE sha256 OF THE DUMP (.gsa) THAT YthdcodjdecnniaaProg.lean LOADS. Nothing in Lean hashes anything: it is a label: what it is worth is what the hold of that sum in a sandbox is worth. -/
noncomputable def Try.pinned : Pinned := { name := "ythdcodjdecnniaa", sum := "6d258f106089446f9c4dc5b08f3921788c384a84540c8b4616606df130f31da1", checked := Try.checked }
namespace Rows
def none {H : Type} : Left H := { results := [], args := [] }

/-- 'trunklinelaw04.GapsPlays': WHATEVER THE INPUT: true; the input reads as it did. -/
def gapsPlaysSpec : ChangeSpec := { name := "gapsPlays", fn := fun _ => fun
  | [d1, d2] => { results := [.lit (.bool true)], args := [d1, d2] }
  | _ => none }
def gapsPlaysRow : OpenClaim := { program := "ythdcodjdecnniaa", sum := "6d258f106089446f9c4dc5b08f3921788c384a84540c8b4616606df130f31da1", func := "trunkline/trunklinelaw04.GapsPlays", spec := "gapsPlays", unfollowed := true, recurses := true, apart := false }
def GapsPlaysSaid : Prop := gapsPlaysRow.holds Try.pinned (OpenSpec.ofChange gapsPlaysSpec)

/-- ITS FALSE NEIGHBOUR: 'it returns false'. Refute it at one input. -/
def gapsPlaysWrong : ChangeSpec := { name := "gapsPlays", fn := fun _ => fun
  | [d1, d2] => { results := [.lit (.bool false)], args := [d1, d2] }
  | _ => none }
def GapsPlaysWrongFalsely : Prop := gapsPlaysRow.holds Try.pinned (OpenSpec.ofChange gapsPlaysWrong)

/-- 'trunklinelaw04.GapsAnyOrder': WHATEVER THE INPUT: true; the input reads as it did. -/
def gapsAnyOrderSpec : ChangeSpec := { name := "gapsAnyOrder", fn := fun _ => fun
  | [d1, d2, d3] => { results := [.lit (.bool true)], args := [d1, d2, d3] }
  | _ => none }
def gapsAnyOrderRow : OpenClaim := { program := "ythdcodjdecnniaa", sum := "6d258f106089446f9c4dc5b08f3921788c384a84540c8b4616606df130f31da1", func := "trunkline/trunklinelaw04.GapsAnyOrder", spec := "gapsAnyOrder", unfollowed := true, recurses := true, apart := false }
def GapsAnyOrderSaid : Prop := gapsAnyOrderRow.holds Try.pinned (OpenSpec.ofChange gapsAnyOrderSpec)

/-- ITS FALSE NEIGHBOUR: 'it returns false'. Refute it at one input. -/
def gapsAnyOrderWrong : ChangeSpec := { name := "gapsAnyOrder", fn := fun _ => fun
  | [d1, d2, d3] => { results := [.lit (.bool false)], args := [d1, d2, d3] }
  | _ => none }
def GapsAnyOrderWrongFalsely : Prop := gapsAnyOrderRow.holds Try.pinned (OpenSpec.ofChange gapsAnyOrderWrong)

/-- 'trunklinelaw04.GapsBlocks': WHATEVER THE INPUT: true; the input reads as it did. -/
def gapsBlocksSpec : ChangeSpec := { name := "gapsBlocks", fn := fun _ => fun
  | [d1, d2] => { results := [.lit (.bool true)], args := [d1, d2] }
  | _ => none }
def gapsBlocksRow : OpenClaim := { program := "ythdcodjdecnniaa", sum := "6d258f106089446f9c4dc5b08f3921788c384a84540c8b4616606df130f31da1", func := "trunkline/trunklinelaw04.GapsBlocks", spec := "gapsBlocks", unfollowed := true, recurses := true, apart := false }
def GapsBlocksSaid : Prop := gapsBlocksRow.holds Try.pinned (OpenSpec.ofChange gapsBlocksSpec)

/-- ITS FALSE NEIGHBOUR: 'it returns false'. Refute it at one input. -/
def gapsBlocksWrong : ChangeSpec := { name := "gapsBlocks", fn := fun _ => fun
  | [d1, d2] => { results := [.lit (.bool false)], args := [d1, d2] }
  | _ => none }
def GapsBlocksWrongFalsely : Prop := gapsBlocksRow.holds Try.pinned (OpenSpec.ofChange gapsBlocksWrong)

/-- 'trunklinelaw04.GapsShifts': WHATEVER THE INPUT: true; the input reads as it did. -/
def gapsShiftsSpec : ChangeSpec := { name := "gapsShifts", fn := fun _ => fun
  | [d1, d2, d3] => { results := [.lit (.bool true)], args := [d1, d2, d3] }
  | _ => none }
def gapsShiftsRow : OpenClaim := { program := "ythdcodjdecnniaa", sum := "6d258f106089446f9c4dc5b08f3921788c384a84540c8b4616606df130f31da1", func := "trunkline/trunklinelaw04.GapsShifts", spec := "gapsShifts", unfollowed := true, recurses := true, apart := false }
def GapsShiftsSaid : Prop := gapsShiftsRow.holds Try.pinned (OpenSpec.ofChange gapsShiftsSpec)

/-- ITS FALSE NEIGHBOUR: 'it returns false'. Refute it at one input. -/
def gapsShiftsWrong : ChangeSpec := { name := "gapsShifts", fn := fun _ => fun
  | [d1, d2, d3] => { results := [.lit (.bool false)], args := [d1, d2, d3] }
  | _ => none }
def GapsShiftsWrongFalsely : Prop := gapsShiftsRow.holds Try.pinned (OpenSpec.ofChange gapsShiftsWrong)

/-- 'trunklinelaw04.GapsOnce': WHATEVER THE INPUT: true; the input reads as it did. -/
def gapsOnceSpec : ChangeSpec := { name := "gapsOnce", fn := fun _ => fun
  | [d1, d2] => { results := [.lit (.bool true)], args := [d1, d2] }
  | _ => none }
def gapsOnceRow : OpenClaim := { program := "ythdcodjdecnniaa", sum := "6d258f106089446f9c4dc5b08f3921788c384a84540c8b4616606df130f31da1", func := "trunkline/trunklinelaw04.GapsOnce", spec := "gapsOnce", unfollowed := true, recurses := true, apart := false }
def GapsOnceSaid : Prop := gapsOnceRow.holds Try.pinned (OpenSpec.ofChange gapsOnceSpec)

/-- ITS FALSE NEIGHBOUR: 'it returns false'. Refute it at one input. -/
def gapsOnceWrong : ChangeSpec := { name := "gapsOnce", fn := fun _ => fun
  | [d1, d2] => { results := [.lit (.bool false)], args := [d1, d2] }
  | _ => none }
def GapsOnceWrongFalsely : Prop := gapsOnceRow.holds Try.pinned (OpenSpec.ofChange gapsOnceWrong)

/-- 'trunklinelaw04.GapsDups': WHATEVER THE INPUT: true; the input reads as it did. -/
def gapsDupsSpec : ChangeSpec := { name := "gapsDups", fn := fun _ => fun
  | [d1, d2] => { results := [.lit (.bool true)], args := [d1, d2] }
  | _ => none }
def gapsDupsRow : OpenClaim := { program := "ythdcodjdecnniaa", sum := "6d258f106089446f9c4dc5b08f3921788c384a84540c8b4616606df130f31da1", func := "trunkline/trunklinelaw04.GapsDups", spec := "gapsDups", unfollowed := true, recurses := true, apart := false }
def GapsDupsSaid : Prop := gapsDupsRow.holds Try.pinned (OpenSpec.ofChange gapsDupsSpec)

/-- ITS FALSE NEIGHBOUR: 'it returns false'. Refute it at one input. -/
def gapsDupsWrong : ChangeSpec := { name := "gapsDups", fn := fun _ => fun
  | [d1, d2] => { results := [.lit (.bool false)], args := [d1, d2] }
  | _ => none }
def GapsDupsWrongFalsely : Prop := gapsDupsRow.holds Try.pinned (OpenSpec.ofChange gapsDupsWrong)

/-- 'trunklinelaw04.GapsForks': WHATEVER THE INPUT: true; the input reads as it did. -/
def gapsForksSpec : ChangeSpec := { name := "gapsForks", fn := fun _ => fun
  | [d1, d2, d3] => { results := [.lit (.bool true)], args := [d1, d2, d3] }
  | _ => none }
def gapsForksRow : OpenClaim := { program := "ythdcodjdecnniaa", sum := "6d258f106089446f9c4dc5b08f3921788c384a84540c8b4616606df130f31da1", func := "trunkline/trunklinelaw04.GapsForks", spec := "gapsForks", unfollowed := true, recurses := true, apart := false }
def GapsForksSaid : Prop := gapsForksRow.holds Try.pinned (OpenSpec.ofChange gapsForksSpec)

/-- ITS FALSE NEIGHBOUR: 'it returns false'. Refute it at one input. -/
def gapsForksWrong : ChangeSpec := { name := "gapsForks", fn := fun _ => fun
  | [d1, d2, d3] => { results := [.lit (.bool false)], args := [d1, d2, d3] }
  | _ => none }
def GapsForksWrongFalsely : Prop := gapsForksRow.holds Try.pinned (OpenSpec.ofChange gapsForksWrong)

/-- 'trunklinelaw04.GapsNone': WHATEVER THE INPUT: true; the input reads as it did. -/
def gapsNoneSpec : ChangeSpec := { name := "gapsNone", fn := fun _ => fun
  | [d] => { results := [.lit (.bool true)], args := [d] }
  | _ => none }
def gapsNoneRow : OpenClaim := { program := "ythdcodjdecnniaa", sum := "6d258f106089446f9c4dc5b08f3921788c384a84540c8b4616606df130f31da1", func := "trunkline/trunklinelaw04.GapsNone", spec := "gapsNone", unfollowed := true, recurses := true, apart := false }
def GapsNoneSaid : Prop := gapsNoneRow.holds Try.pinned (OpenSpec.ofChange gapsNoneSpec)

/-- ITS FALSE NEIGHBOUR: 'it returns false'. Refute it at one input. -/
def gapsNoneWrong : ChangeSpec := { name := "gapsNone", fn := fun _ => fun
  | [d] => { results := [.lit (.bool false)], args := [d] }
  | _ => none }
def GapsNoneWrongFalsely : Prop := gapsNoneRow.holds Try.pinned (OpenSpec.ofChange gapsNoneWrong)

/- THE SECOND FORM. 'bulk': how many values and letters a reading holds, each counted each time it is reached (what is shared counts as often as it is met; a slice's spare places count too). A statement '..UptoSaid' is the law's where the arguments, and the package variables that the reading takes, are together of bulk at most 1048576: NARROWER than '..Said'. Prove '..Said' where nothing that the law and all that it calls make is longer than what came in: it says more and counts as full. Else prove '..UptoSaid'. A law counts once. -/
mutual
def uptoBulk {H : Type} : DataW H → Nat
  | .lit (.string bytes) => bytes.length + 1
  | .lit _ => 1
  | .nil => 1
  | .ptr d => uptoBulk d + 1
  | .slice elems spare => uptoBulkAll elems + uptoBulkAll spare + 1
  | .agg parts => uptoBulkAll parts + 1
  | .iface _ d => uptoBulk d + 1
  | .map entries => uptoBulkEntries entries + 1
  | .held _ => 1
def uptoBulkAll {H : Type} : List (DataW H) → Nat
  | [] => 0
  | d :: r => uptoBulk d + uptoBulkAll r
def uptoBulkEntries {H : Type} : List (Lit × DataW H) → Nat
  | [] => 0
  | x :: r => uptoBulkEntry x + uptoBulkEntries r
def uptoBulkEntry {H : Type} : Lit × DataW H → Nat
  | (.string bytes, d) => bytes.length + uptoBulk d + 1
  | (_, d) => uptoBulk d + 1
 end
def uptoSmall : (H : Type) → List (DataW H) → Bool := fun _ ds => decide (uptoBulkAll ds ≤ 1048576)
def OpenSpec.upto (s : _root_.Go.ChangeSpec) : _root_.Go.OpenSpec := { _root_.Go.OpenSpec.ofChange s with cond := some uptoSmall }

/-- 'trunklinelaw04.GapsPlays', WHERE WHAT IT READS IS OF BULK AT MOST 1048576: true; the input reads as it did. -/
def gapsPlaysUptoRow : OpenClaim := { program := "ythdcodjdecnniaa", sum := "6d258f106089446f9c4dc5b08f3921788c384a84540c8b4616606df130f31da1", func := "trunkline/trunklinelaw04.GapsPlays", spec := "gapsPlays", unfollowed := true, recurses := true, apart := false, narrowed := true }
def GapsPlaysUptoSaid : Prop := gapsPlaysUptoRow.holds Try.pinned (OpenSpec.upto gapsPlaysSpec)

/-- 'trunklinelaw04.GapsAnyOrder', WHERE WHAT IT READS IS OF BULK AT MOST 1048576: true; the input reads as it did. -/
def gapsAnyOrderUptoRow : OpenClaim := { program := "ythdcodjdecnniaa", sum := "6d258f106089446f9c4dc5b08f3921788c384a84540c8b4616606df130f31da1", func := "trunkline/trunklinelaw04.GapsAnyOrder", spec := "gapsAnyOrder", unfollowed := true, recurses := true, apart := false, narrowed := true }
def GapsAnyOrderUptoSaid : Prop := gapsAnyOrderUptoRow.holds Try.pinned (OpenSpec.upto gapsAnyOrderSpec)

/-- 'trunklinelaw04.GapsBlocks', WHERE WHAT IT READS IS OF BULK AT MOST 1048576: true; the input reads as it did. -/
def gapsBlocksUptoRow : OpenClaim := { program := "ythdcodjdecnniaa", sum := "6d258f106089446f9c4dc5b08f3921788c384a84540c8b4616606df130f31da1", func := "trunkline/trunklinelaw04.GapsBlocks", spec := "gapsBlocks", unfollowed := true, recurses := true, apart := false, narrowed := true }
def GapsBlocksUptoSaid : Prop := gapsBlocksUptoRow.holds Try.pinned (OpenSpec.upto gapsBlocksSpec)

/-- 'trunklinelaw04.GapsShifts', WHERE WHAT IT READS IS OF BULK AT MOST 1048576: true; the input reads as it did. -/
def gapsShiftsUptoRow : OpenClaim := { program := "ythdcodjdecnniaa", sum := "6d258f106089446f9c4dc5b08f3921788c384a84540c8b4616606df130f31da1", func := "trunkline/trunklinelaw04.GapsShifts", spec := "gapsShifts", unfollowed := true, recurses := true, apart := false, narrowed := true }
def GapsShiftsUptoSaid : Prop := gapsShiftsUptoRow.holds Try.pinned (OpenSpec.upto gapsShiftsSpec)

/-- 'trunklinelaw04.GapsOnce', WHERE WHAT IT READS IS OF BULK AT MOST 1048576: true; the input reads as it did. -/
def gapsOnceUptoRow : OpenClaim := { program := "ythdcodjdecnniaa", sum := "6d258f106089446f9c4dc5b08f3921788c384a84540c8b4616606df130f31da1", func := "trunkline/trunklinelaw04.GapsOnce", spec := "gapsOnce", unfollowed := true, recurses := true, apart := false, narrowed := true }
def GapsOnceUptoSaid : Prop := gapsOnceUptoRow.holds Try.pinned (OpenSpec.upto gapsOnceSpec)

/-- 'trunklinelaw04.GapsDups', WHERE WHAT IT READS IS OF BULK AT MOST 1048576: true; the input reads as it did. -/
def gapsDupsUptoRow : OpenClaim := { program := "ythdcodjdecnniaa", sum := "6d258f106089446f9c4dc5b08f3921788c384a84540c8b4616606df130f31da1", func := "trunkline/trunklinelaw04.GapsDups", spec := "gapsDups", unfollowed := true, recurses := true, apart := false, narrowed := true }
def GapsDupsUptoSaid : Prop := gapsDupsUptoRow.holds Try.pinned (OpenSpec.upto gapsDupsSpec)

/-- 'trunklinelaw04.GapsForks', WHERE WHAT IT READS IS OF BULK AT MOST 1048576: true; the input reads as it did. -/
def gapsForksUptoRow : OpenClaim := { program := "ythdcodjdecnniaa", sum := "6d258f106089446f9c4dc5b08f3921788c384a84540c8b4616606df130f31da1", func := "trunkline/trunklinelaw04.GapsForks", spec := "gapsForks", unfollowed := true, recurses := true, apart := false, narrowed := true }
def GapsForksUptoSaid : Prop := gapsForksUptoRow.holds Try.pinned (OpenSpec.upto gapsForksSpec)

/-- 'trunklinelaw04.GapsNone', WHERE WHAT IT READS IS OF BULK AT MOST 1048576: true; the input reads as it did. -/
def gapsNoneUptoRow : OpenClaim := { program := "ythdcodjdecnniaa", sum := "6d258f106089446f9c4dc5b08f3921788c384a84540c8b4616606df130f31da1", func := "trunkline/trunklinelaw04.GapsNone", spec := "gapsNone", unfollowed := true, recurses := true, apart := false, narrowed := true }
def GapsNoneUptoSaid : Prop := gapsNoneUptoRow.holds Try.pinned (OpenSpec.upto gapsNoneSpec)

end Rows
end Go.Proofs.Ythdcodjdecnniaa
