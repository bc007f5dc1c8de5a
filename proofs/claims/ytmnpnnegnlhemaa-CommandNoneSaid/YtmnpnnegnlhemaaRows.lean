/-
  No cell of these rows narrows 'for every input' (looked for: loops, veiled, ifaces, maps, wideKeys, modest, calm, conditions, laid).
  DERIVED. THE GIVEN ROWS OF THIS SEAT. 8 by the template 'for every input the law returns true; each argument reads behind the call as it read before'; 0 by the template 'total and deterministic' (their statements: YtmnpnnegnlhemaaTotals.lean).
  GIVEN WITH THE SEED: the statements are not yours to turn. If you find one false, say at which input.
  Laid BY PROGRAM, IN A SANDBOX (cutbox-rows.mjs): the forced cells as the released guide's own fill.sh prints them over the translation 13d754911b4091f2… (all of the seat's roots in one cut). By AI agents, Wed Nov 11 2026. No macro, syntax, notation, axiom, sorry.
-/
import Derived.Test.YtmnpnnegnlhemaaChecked
import GoSem.Claim
import GoSem.ClaimJoined
import GoSem.ClaimMapViews
import Derived.JoinedTies
import Derived.KernelRfl
namespace Go.Proofs.Ytmnpnnegnlhemaa
/- THE CELL 'sum', in the pinned program and in every row, IS THE sha256 OF THE DUMP (.gsa) THAT YtmnpnnegnlhemaaProg.lean LOADS. Nothing in Lean hashes anything: it is a label: what it is worth is what the hold of that sum in a sandbox is worth. -/
noncomputable def Try.pinned : Pinned := { name := "ytmnpnnegnlhemaa", sum := "13d754911b4091f28971ea0b9979094c54e255e97f021e06479d68cc39480dde", checked := Try.checked }
namespace Rows
def none {H : Type} : Left H := { results := [], args := [] }

/-- 'cressetlaw10.CommandRules': WHATEVER THE INPUT: true; the input reads as it did. -/
def commandRulesSpec : ChangeSpec := { name := "commandRules", fn := fun _ => fun
  | [d1, d2] => { results := [.lit (.bool true)], args := [d1, d2] }
  | _ => none }
def commandRulesRow : OpenClaim := { program := "ytmnpnnegnlhemaa", sum := "13d754911b4091f28971ea0b9979094c54e255e97f021e06479d68cc39480dde", func := "cresset/cressetlaw10.CommandRules", spec := "commandRules", unfollowed := true, recurses := true, apart := false }
def CommandRulesSaid : Prop := commandRulesRow.holds Try.pinned (OpenSpec.ofChange commandRulesSpec)

/-- ITS FALSE NEIGHBOUR: 'it returns false'. Refute it at one input. -/
def commandRulesWrong : ChangeSpec := { name := "commandRules", fn := fun _ => fun
  | [d1, d2] => { results := [.lit (.bool false)], args := [d1, d2] }
  | _ => none }
def CommandRulesWrongFalsely : Prop := commandRulesRow.holds Try.pinned (OpenSpec.ofChange commandRulesWrong)

/-- 'cressetlaw10.CommandNodes': WHATEVER THE INPUT: true; the input reads as it did. -/
def commandNodesSpec : ChangeSpec := { name := "commandNodes", fn := fun _ => fun
  | [d1, d2, d3] => { results := [.lit (.bool true)], args := [d1, d2, d3] }
  | _ => none }
def commandNodesRow : OpenClaim := { program := "ytmnpnnegnlhemaa", sum := "13d754911b4091f28971ea0b9979094c54e255e97f021e06479d68cc39480dde", func := "cresset/cressetlaw10.CommandNodes", spec := "commandNodes", unfollowed := true, recurses := true, apart := false }
def CommandNodesSaid : Prop := commandNodesRow.holds Try.pinned (OpenSpec.ofChange commandNodesSpec)

/-- ITS FALSE NEIGHBOUR: 'it returns false'. Refute it at one input. -/
def commandNodesWrong : ChangeSpec := { name := "commandNodes", fn := fun _ => fun
  | [d1, d2, d3] => { results := [.lit (.bool false)], args := [d1, d2, d3] }
  | _ => none }
def CommandNodesWrongFalsely : Prop := commandNodesRow.holds Try.pinned (OpenSpec.ofChange commandNodesWrong)

/-- 'cressetlaw10.CommandCentres': WHATEVER THE INPUT: true; the input reads as it did. -/
def commandCentresSpec : ChangeSpec := { name := "commandCentres", fn := fun _ => fun
  | [d1, d2] => { results := [.lit (.bool true)], args := [d1, d2] }
  | _ => none }
def commandCentresRow : OpenClaim := { program := "ytmnpnnegnlhemaa", sum := "13d754911b4091f28971ea0b9979094c54e255e97f021e06479d68cc39480dde", func := "cresset/cressetlaw10.CommandCentres", spec := "commandCentres", unfollowed := true, recurses := true, apart := false }
def CommandCentresSaid : Prop := commandCentresRow.holds Try.pinned (OpenSpec.ofChange commandCentresSpec)

/-- ITS FALSE NEIGHBOUR: 'it returns false'. Refute it at one input. -/
def commandCentresWrong : ChangeSpec := { name := "commandCentres", fn := fun _ => fun
  | [d1, d2] => { results := [.lit (.bool false)], args := [d1, d2] }
  | _ => none }
def CommandCentresWrongFalsely : Prop := commandCentresRow.holds Try.pinned (OpenSpec.ofChange commandCentresWrong)

/-- 'cressetlaw10.CommandOne': WHATEVER THE INPUT: true; the input reads as it did. -/
def commandOneSpec : ChangeSpec := { name := "commandOne", fn := fun _ => fun
  | [d1, d2] => { results := [.lit (.bool true)], args := [d1, d2] }
  | _ => none }
def commandOneRow : OpenClaim := { program := "ytmnpnnegnlhemaa", sum := "13d754911b4091f28971ea0b9979094c54e255e97f021e06479d68cc39480dde", func := "cresset/cressetlaw10.CommandOne", spec := "commandOne", unfollowed := true, recurses := true, apart := false }
def CommandOneSaid : Prop := commandOneRow.holds Try.pinned (OpenSpec.ofChange commandOneSpec)

/-- ITS FALSE NEIGHBOUR: 'it returns false'. Refute it at one input. -/
def commandOneWrong : ChangeSpec := { name := "commandOne", fn := fun _ => fun
  | [d1, d2] => { results := [.lit (.bool false)], args := [d1, d2] }
  | _ => none }
def CommandOneWrongFalsely : Prop := commandOneRow.holds Try.pinned (OpenSpec.ofChange commandOneWrong)

/-- 'cressetlaw10.CommandBack': WHATEVER THE INPUT: true; the input reads as it did. -/
def commandBackSpec : ChangeSpec := { name := "commandBack", fn := fun _ => fun
  | [d1, d2] => { results := [.lit (.bool true)], args := [d1, d2] }
  | _ => none }
def commandBackRow : OpenClaim := { program := "ytmnpnnegnlhemaa", sum := "13d754911b4091f28971ea0b9979094c54e255e97f021e06479d68cc39480dde", func := "cresset/cressetlaw10.CommandBack", spec := "commandBack", unfollowed := true, recurses := true, apart := false }
def CommandBackSaid : Prop := commandBackRow.holds Try.pinned (OpenSpec.ofChange commandBackSpec)

/-- ITS FALSE NEIGHBOUR: 'it returns false'. Refute it at one input. -/
def commandBackWrong : ChangeSpec := { name := "commandBack", fn := fun _ => fun
  | [d1, d2] => { results := [.lit (.bool false)], args := [d1, d2] }
  | _ => none }
def CommandBackWrongFalsely : Prop := commandBackRow.holds Try.pinned (OpenSpec.ofChange commandBackWrong)

/-- 'cressetlaw10.CommandArrives': WHATEVER THE INPUT: true; the input reads as it did. -/
def commandArrivesSpec : ChangeSpec := { name := "commandArrives", fn := fun _ => fun
  | [d1, d2, d3] => { results := [.lit (.bool true)], args := [d1, d2, d3] }
  | _ => none }
def commandArrivesRow : OpenClaim := { program := "ytmnpnnegnlhemaa", sum := "13d754911b4091f28971ea0b9979094c54e255e97f021e06479d68cc39480dde", func := "cresset/cressetlaw10.CommandArrives", spec := "commandArrives", unfollowed := true, recurses := true, apart := false }
def CommandArrivesSaid : Prop := commandArrivesRow.holds Try.pinned (OpenSpec.ofChange commandArrivesSpec)

/-- ITS FALSE NEIGHBOUR: 'it returns false'. Refute it at one input. -/
def commandArrivesWrong : ChangeSpec := { name := "commandArrives", fn := fun _ => fun
  | [d1, d2, d3] => { results := [.lit (.bool false)], args := [d1, d2, d3] }
  | _ => none }
def CommandArrivesWrongFalsely : Prop := commandArrivesRow.holds Try.pinned (OpenSpec.ofChange commandArrivesWrong)

/-- 'cressetlaw10.CommandTwice': WHATEVER THE INPUT: true; the input reads as it did. -/
def commandTwiceSpec : ChangeSpec := { name := "commandTwice", fn := fun _ => fun
  | [d1, d2, d3] => { results := [.lit (.bool true)], args := [d1, d2, d3] }
  | _ => none }
def commandTwiceRow : OpenClaim := { program := "ytmnpnnegnlhemaa", sum := "13d754911b4091f28971ea0b9979094c54e255e97f021e06479d68cc39480dde", func := "cresset/cressetlaw10.CommandTwice", spec := "commandTwice", unfollowed := true, recurses := true, apart := false }
def CommandTwiceSaid : Prop := commandTwiceRow.holds Try.pinned (OpenSpec.ofChange commandTwiceSpec)

/-- ITS FALSE NEIGHBOUR: 'it returns false'. Refute it at one input. -/
def commandTwiceWrong : ChangeSpec := { name := "commandTwice", fn := fun _ => fun
  | [d1, d2, d3] => { results := [.lit (.bool false)], args := [d1, d2, d3] }
  | _ => none }
def CommandTwiceWrongFalsely : Prop := commandTwiceRow.holds Try.pinned (OpenSpec.ofChange commandTwiceWrong)

/-- 'cressetlaw10.CommandNone': WHATEVER THE INPUT: true; the input reads as it did. -/
def commandNoneSpec : ChangeSpec := { name := "commandNone", fn := fun _ => fun
  | [d1, d2] => { results := [.lit (.bool true)], args := [d1, d2] }
  | _ => none }
def commandNoneRow : OpenClaim := { program := "ytmnpnnegnlhemaa", sum := "13d754911b4091f28971ea0b9979094c54e255e97f021e06479d68cc39480dde", func := "cresset/cressetlaw10.CommandNone", spec := "commandNone", unfollowed := true, recurses := true, apart := false }
def CommandNoneSaid : Prop := commandNoneRow.holds Try.pinned (OpenSpec.ofChange commandNoneSpec)

/-- ITS FALSE NEIGHBOUR: 'it returns false'. Refute it at one input. -/
def commandNoneWrong : ChangeSpec := { name := "commandNone", fn := fun _ => fun
  | [d1, d2] => { results := [.lit (.bool false)], args := [d1, d2] }
  | _ => none }
def CommandNoneWrongFalsely : Prop := commandNoneRow.holds Try.pinned (OpenSpec.ofChange commandNoneWrong)

/- THE SECOND FORM. 'bulk': how many values and letters a reading holds, each counted each time it is reached (what is shared counts as often as it is met; a slice's spare places count too). A statement '..UptoSaid' is the law's where the arguments, and the package variables that the reading takes, are together of bulk at most 1048576: NARROWER than '..Said'. Prove '..Said' where nothing that the law and all that it calls make is longer than what came in: it says more and counts as full. Else prove '..UptoSaid'. A law counts once. -/
mutual
def uptoBulk {H : Type} : DataW H → Nat
  | .lit (.string bytes) => bytes.length + 1
  | .lit _ => 1
  | .nil => 1
  | .ptr d => uptoBulk d + 1
  | .slice elems spare => uptoBulkAll elems + uptoBulkAll spare + 1
  | .agg parts => uptoBulkAll parts + 1
  | .iface _ d => uptoBulk d + 1
  | .map entries => uptoBulkEntries entries + 1
  | .held _ => 1
def uptoBulkAll {H : Type} : List (DataW H) → Nat
  | [] => 0
  | d :: r => uptoBulk d + uptoBulkAll r
def uptoBulkEntries {H : Type} : List (Lit × DataW H) → Nat
  | [] => 0
  | x :: r => uptoBulkEntry x + uptoBulkEntries r
def uptoBulkEntry {H : Type} : Lit × DataW H → Nat
  | (.string bytes, d) => bytes.length + uptoBulk d + 1
  | (_, d) => uptoBulk d + 1
 end
def uptoSmall : (H : Type) → List (DataW H) → Bool := fun _ ds => decide (uptoBulkAll ds ≤ 1048576)
def OpenSpec.upto (s : _root_.Go.ChangeSpec) : _root_.Go.OpenSpec := { _root_.Go.OpenSpec.ofChange s with cond := some uptoSmall }

/-- 'cressetlaw10.CommandRules', WHERE WHAT IT READS IS OF BULK AT MOST 1048576: true; the input reads as it did. -/
def commandRulesUptoRow : OpenClaim := { program := "ytmnpnnegnlhemaa", sum := "13d754911b4091f28971ea0b9979094c54e255e97f021e06479d68cc39480dde", func := "cresset/cressetlaw10.CommandRules", spec := "commandRules", unfollowed := true, recurses := true, apart := false, narrowed := true }
def CommandRulesUptoSaid : Prop := commandRulesUptoRow.holds Try.pinned (OpenSpec.upto commandRulesSpec)

/-- 'cressetlaw10.CommandNodes', WHERE WHAT IT READS IS OF BULK AT MOST 1048576: true; the input reads as it did. -/
def commandNodesUptoRow : OpenClaim := { program := "ytmnpnnegnlhemaa", sum := "13d754911b4091f28971ea0b9979094c54e255e97f021e06479d68cc39480dde", func := "cresset/cressetlaw10.CommandNodes", spec := "commandNodes", unfollowed := true, recurses := true, apart := false, narrowed := true }
def CommandNodesUptoSaid : Prop := commandNodesUptoRow.holds Try.pinned (OpenSpec.upto commandNodesSpec)

/-- 'cressetlaw10.CommandCentres', WHERE WHAT IT READS IS OF BULK AT MOST 1048576: true; the input reads as it did. -/
def commandCentresUptoRow : OpenClaim := { program := "ytmnpnnegnlhemaa", sum := "13d754911b4091f28971ea0b9979094c54e255e97f021e06479d68cc39480dde", func := "cresset/cressetlaw10.CommandCentres", spec := "commandCentres", unfollowed := true, recurses := true, apart := false, narrowed := true }
def CommandCentresUptoSaid : Prop := commandCentresUptoRow.holds Try.pinned (OpenSpec.upto commandCentresSpec)

/-- 'cressetlaw10.CommandOne', WHERE WHAT IT READS IS OF BULK AT MOST 1048576: true; the input reads as it did. -/
def commandOneUptoRow : OpenClaim := { program := "ytmnpnnegnlhemaa", sum := "13d754911b4091f28971ea0b9979094c54e255e97f021e06479d68cc39480dde", func := "cresset/cressetlaw10.CommandOne", spec := "commandOne", unfollowed := true, recurses := true, apart := false, narrowed := true }
def CommandOneUptoSaid : Prop := commandOneUptoRow.holds Try.pinned (OpenSpec.upto commandOneSpec)

/-- 'cressetlaw10.CommandBack', WHERE WHAT IT READS IS OF BULK AT MOST 1048576: true; the input reads as it did. -/
def commandBackUptoRow : OpenClaim := { program := "ytmnpnnegnlhemaa", sum := "13d754911b4091f28971ea0b9979094c54e255e97f021e06479d68cc39480dde", func := "cresset/cressetlaw10.CommandBack", spec := "commandBack", unfollowed := true, recurses := true, apart := false, narrowed := true }
def CommandBackUptoSaid : Prop := commandBackUptoRow.holds Try.pinned (OpenSpec.upto commandBackSpec)

/-- 'cressetlaw10.CommandArrives', WHERE WHAT IT READS IS OF BULK AT MOST 1048576: true; the input reads as it did. -/
def commandArrivesUptoRow : OpenClaim := { program := "ytmnpnnegnlhemaa", sum := "13d754911b4091f28971ea0b9979094c54e255e97f021e06479d68cc39480dde", func := "cresset/cressetlaw10.CommandArrives", spec := "commandArrives", unfollowed := true, recurses := true, apart := false, narrowed := true }
def CommandArrivesUptoSaid : Prop := commandArrivesUptoRow.holds Try.pinned (OpenSpec.upto commandArrivesSpec)

/-- 'cressetlaw10.CommandTwice', WHERE WHAT IT READS IS OF BULK AT MOST 1048576: true; the input reads as it did. -/
def commandTwiceUptoRow : OpenClaim := { program := "ytmnpnnegnlhemaa", sum := "13d754911b4091f28971ea0b9979094c54e255e97f021e06479d68cc39480dde", func := "cresset/cressetlaw10.CommandTwice", spec := "commandTwice", unfollowed := true, recurses := true, apart := false, narrowed := true }
def CommandTwiceUptoSaid : Prop := commandTwiceUptoRow.holds Try.pinned (OpenSpec.upto commandTwiceSpec)

/-- 'cressetlaw10.CommandNone', WHERE WHAT IT READS IS OF BULK AT MOST 1048576: true; the input reads as it did. -/
def commandNoneUptoRow : OpenClaim := { program := "ytmnpnnegnlhemaa", sum := "13d754911b4091f28971ea0b9979094c54e255e97f021e06479d68cc39480dde", func := "cresset/cressetlaw10.CommandNone", spec := "commandNone", unfollowed := true, recurses := true, apart := false, narrowed := true }
def CommandNoneUptoSaid : Prop := commandNoneUptoRow.holds Try.pinned (OpenSpec.upto commandNoneSpec)

end Rows
end Go.Proofs.Ytmnpnnegnlhemaa
