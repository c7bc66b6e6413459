/-
  No cell of these rows narrows 'for every input' (looked for: loops, veiled, ifaces, maps, wideKeys, modest, calm, conditions, laid).
  DERIVED. THE GIVEN ROWS OF THIS SEAT. 8 by the template 'for every input the law returns true; each argument reads behind the call as it read before'; 0 by the template 'total and deterministic' (their statements: YtgpnfgjmdehfdaaTotals.lean).
  GIVEN WITH THE SEED: the statements are not yours to turn. If you find one false, say at which input.
  Laid BY PROGRAM, IN A SANDBOX (cutbox-rows.mjs): the forced cells as the released guide's own fill.sh prints them over the translation 671ffbcc431c1162… (all of the seat's roots in one cut). By AI agents, Wed Nov 11 2026. No macro, syntax, notation, axiom, sorry.
-/
import Derived.Test.YtgpnfgjmdehfdaaChecked
import GoSem.Claim
import GoSem.ClaimJoined
import GoSem.ClaimMapViews
import Derived.JoinedTies
import Derived.KernelRfl
namespace Go.Proofs.Ytgpnfgjmdehfdaa
/- THE CELL 'sum', in the pinned program and in every row, IS THE sha256 OF THE DUMP (.gsa) THAT YtgpnfgjmdehfdaaProg.lean LOADS. Nothing in Lean hashes anything: it is a label: what it is worth is what the hold of that sum in a sandbox is worth. -/
noncomputable def Try.pinned : Pinned := { name := "ytgpnfgjmdehfdaa", sum := "671ffbcc431c11627af465bc68c4b6a626b08d13e9d84497ab200dbd22a0f215", checked := Try.checked }
namespace Rows
def none {H : Type} : Left H := { results := [], args := [] }

/-- 'watershedlaw10.LogNil': WHATEVER THE INPUT: true; the input reads as it did. -/
def logNilSpec : ChangeSpec := { name := "logNil", fn := fun _ => fun
  | [d] => { results := [.lit (.bool true)], args := [d] }
  | _ => none }
def logNilRow : OpenClaim := { program := "ytgpnfgjmdehfdaa", sum := "671ffbcc431c11627af465bc68c4b6a626b08d13e9d84497ab200dbd22a0f215", func := "watershed/watershedlaw10.LogNil", spec := "logNil", apart := false }
def LogNilSaid : Prop := logNilRow.holds Try.pinned (OpenSpec.ofChange logNilSpec)

/-- ITS FALSE NEIGHBOUR: 'it returns false'. Refute it at one input. -/
def logNilWrong : ChangeSpec := { name := "logNil", fn := fun _ => fun
  | [d] => { results := [.lit (.bool false)], args := [d] }
  | _ => none }
def LogNilWrongFalsely : Prop := logNilRow.holds Try.pinned (OpenSpec.ofChange logNilWrong)

/-- 'watershedlaw13.FerryTells': WHATEVER THE INPUT: true; the input reads as it did. -/
def ferryTellsSpec : ChangeSpec := { name := "ferryTells", fn := fun _ => fun
  | [d1, d2] => { results := [.lit (.bool true)], args := [d1, d2] }
  | _ => none }
def ferryTellsRow : OpenClaim := { program := "ytgpnfgjmdehfdaa", sum := "671ffbcc431c11627af465bc68c4b6a626b08d13e9d84497ab200dbd22a0f215", func := "watershed/watershedlaw13.FerryTells", spec := "ferryTells", apart := false }
def FerryTellsSaid : Prop := ferryTellsRow.holds Try.pinned (OpenSpec.ofChange ferryTellsSpec)

/-- ITS FALSE NEIGHBOUR: 'it returns false'. Refute it at one input. -/
def ferryTellsWrong : ChangeSpec := { name := "ferryTells", fn := fun _ => fun
  | [d1, d2] => { results := [.lit (.bool false)], args := [d1, d2] }
  | _ => none }
def FerryTellsWrongFalsely : Prop := ferryTellsRow.holds Try.pinned (OpenSpec.ofChange ferryTellsWrong)

/-- 'watershedlaw10.LogEnds': WHATEVER THE INPUT: true; the input reads as it did. -/
def logEndsSpec : ChangeSpec := { name := "logEnds", fn := fun _ => fun
  | [] => { results := [.lit (.bool true)], args := [] }
  | _ => none }
def logEndsRow : OpenClaim := { program := "ytgpnfgjmdehfdaa", sum := "671ffbcc431c11627af465bc68c4b6a626b08d13e9d84497ab200dbd22a0f215", func := "watershed/watershedlaw10.LogEnds", spec := "logEnds", apart := false }
def LogEndsSaid : Prop := logEndsRow.holds Try.pinned (OpenSpec.ofChange logEndsSpec)

/-- ITS FALSE NEIGHBOUR: 'it returns false'. Refute it at one input. -/
def logEndsWrong : ChangeSpec := { name := "logEnds", fn := fun _ => fun
  | [] => { results := [.lit (.bool false)], args := [] }
  | _ => none }
def LogEndsWrongFalsely : Prop := logEndsRow.holds Try.pinned (OpenSpec.ofChange logEndsWrong)

/-- 'watershedlaw13.FerryTakes': WHATEVER THE INPUT: true; the input reads as it did. -/
def ferryTakesSpec : ChangeSpec := { name := "ferryTakes", fn := fun _ => fun
  | [d1, d2] => { results := [.lit (.bool true)], args := [d1, d2] }
  | _ => none }
def ferryTakesRow : OpenClaim := { program := "ytgpnfgjmdehfdaa", sum := "671ffbcc431c11627af465bc68c4b6a626b08d13e9d84497ab200dbd22a0f215", func := "watershed/watershedlaw13.FerryTakes", spec := "ferryTakes", apart := false }
def FerryTakesSaid : Prop := ferryTakesRow.holds Try.pinned (OpenSpec.ofChange ferryTakesSpec)

/-- ITS FALSE NEIGHBOUR: 'it returns false'. Refute it at one input. -/
def ferryTakesWrong : ChangeSpec := { name := "ferryTakes", fn := fun _ => fun
  | [d1, d2] => { results := [.lit (.bool false)], args := [d1, d2] }
  | _ => none }
def FerryTakesWrongFalsely : Prop := ferryTakesRow.holds Try.pinned (OpenSpec.ofChange ferryTakesWrong)

/-- 'watershedlaw13.FerryEnds': WHATEVER THE INPUT: true; the input reads as it did. -/
def ferryEndsSpec : ChangeSpec := { name := "ferryEnds", fn := fun _ => fun
  | [] => { results := [.lit (.bool true)], args := [] }
  | _ => none }
def ferryEndsRow : OpenClaim := { program := "ytgpnfgjmdehfdaa", sum := "671ffbcc431c11627af465bc68c4b6a626b08d13e9d84497ab200dbd22a0f215", func := "watershed/watershedlaw13.FerryEnds", spec := "ferryEnds", apart := false }
def FerryEndsSaid : Prop := ferryEndsRow.holds Try.pinned (OpenSpec.ofChange ferryEndsSpec)

/-- ITS FALSE NEIGHBOUR: 'it returns false'. Refute it at one input. -/
def ferryEndsWrong : ChangeSpec := { name := "ferryEnds", fn := fun _ => fun
  | [] => { results := [.lit (.bool false)], args := [] }
  | _ => none }
def FerryEndsWrongFalsely : Prop := ferryEndsRow.holds Try.pinned (OpenSpec.ofChange ferryEndsWrong)

/-- 'watershedlaw13.FerryCrosses': WHATEVER THE INPUT: true; the input reads as it did. -/
def ferryCrossesSpec : ChangeSpec := { name := "ferryCrosses", fn := fun _ => fun
  | [d1, d2, d3] => { results := [.lit (.bool true)], args := [d1, d2, d3] }
  | _ => none }
def ferryCrossesRow : OpenClaim := { program := "ytgpnfgjmdehfdaa", sum := "671ffbcc431c11627af465bc68c4b6a626b08d13e9d84497ab200dbd22a0f215", func := "watershed/watershedlaw13.FerryCrosses", spec := "ferryCrosses", apart := false }
def FerryCrossesSaid : Prop := ferryCrossesRow.holds Try.pinned (OpenSpec.ofChange ferryCrossesSpec)

/-- ITS FALSE NEIGHBOUR: 'it returns false'. Refute it at one input. -/
def ferryCrossesWrong : ChangeSpec := { name := "ferryCrosses", fn := fun _ => fun
  | [d1, d2, d3] => { results := [.lit (.bool false)], args := [d1, d2, d3] }
  | _ => none }
def FerryCrossesWrongFalsely : Prop := ferryCrossesRow.holds Try.pinned (OpenSpec.ofChange ferryCrossesWrong)

/-- 'watershedlaw10.LogTake': WHATEVER THE INPUT: true; the input reads as it did. -/
def logTakeSpec : ChangeSpec := { name := "logTake", fn := fun _ => fun
  | [d1, d2, d3, d4] => { results := [.lit (.bool true)], args := [d1, d2, d3, d4] }
  | _ => none }
def logTakeRow : OpenClaim := { program := "ytgpnfgjmdehfdaa", sum := "671ffbcc431c11627af465bc68c4b6a626b08d13e9d84497ab200dbd22a0f215", func := "watershed/watershedlaw10.LogTake", spec := "logTake", apart := false }
def LogTakeSaid : Prop := logTakeRow.holds Try.pinned (OpenSpec.ofChange logTakeSpec)

/-- ITS FALSE NEIGHBOUR: 'it returns false'. Refute it at one input. -/
def logTakeWrong : ChangeSpec := { name := "logTake", fn := fun _ => fun
  | [d1, d2, d3, d4] => { results := [.lit (.bool false)], args := [d1, d2, d3, d4] }
  | _ => none }
def LogTakeWrongFalsely : Prop := logTakeRow.holds Try.pinned (OpenSpec.ofChange logTakeWrong)

/-- 'watershedlaw10.LogCompact': WHATEVER THE INPUT: true; the input reads as it did. -/
def logCompactSpec : ChangeSpec := { name := "logCompact", fn := fun _ => fun
  | [d1, d2, d3, d4] => { results := [.lit (.bool true)], args := [d1, d2, d3, d4] }
  | _ => none }
def logCompactRow : OpenClaim := { program := "ytgpnfgjmdehfdaa", sum := "671ffbcc431c11627af465bc68c4b6a626b08d13e9d84497ab200dbd22a0f215", func := "watershed/watershedlaw10.LogCompact", spec := "logCompact", apart := false }
def LogCompactSaid : Prop := logCompactRow.holds Try.pinned (OpenSpec.ofChange logCompactSpec)

/-- ITS FALSE NEIGHBOUR: 'it returns false'. Refute it at one input. -/
def logCompactWrong : ChangeSpec := { name := "logCompact", fn := fun _ => fun
  | [d1, d2, d3, d4] => { results := [.lit (.bool false)], args := [d1, d2, d3, d4] }
  | _ => none }
def LogCompactWrongFalsely : Prop := logCompactRow.holds Try.pinned (OpenSpec.ofChange logCompactWrong)

/- THE SECOND FORM. 'bulk': how many values and letters a reading holds, each counted each time it is reached (what is shared counts as often as it is met; a slice's spare places count too). A statement '..UptoSaid' is the law's where the arguments, and the package variables that the reading takes, are together of bulk at most 1048576: NARROWER than '..Said'. Prove '..Said' where nothing that the law and all that it calls make is longer than what came in: it says more and counts as full. Else prove '..UptoSaid'. A law counts once. -/
mutual
def uptoBulk {H : Type} : DataW H → Nat
  | .lit (.string bytes) => bytes.length + 1
  | .lit _ => 1
  | .nil => 1
  | .ptr d => uptoBulk d + 1
  | .slice elems spare => uptoBulkAll elems + uptoBulkAll spare + 1
  | .agg parts => uptoBulkAll parts + 1
  | .iface _ d => uptoBulk d + 1
  | .map entries => uptoBulkEntries entries + 1
  | .held _ => 1
def uptoBulkAll {H : Type} : List (DataW H) → Nat
  | [] => 0
  | d :: r => uptoBulk d + uptoBulkAll r
def uptoBulkEntries {H : Type} : List (Lit × DataW H) → Nat
  | [] => 0
  | x :: r => uptoBulkEntry x + uptoBulkEntries r
def uptoBulkEntry {H : Type} : Lit × DataW H → Nat
  | (.string bytes, d) => bytes.length + uptoBulk d + 1
  | (_, d) => uptoBulk d + 1
 end
def uptoSmall : (H : Type) → List (DataW H) → Bool := fun _ ds => decide (uptoBulkAll ds ≤ 1048576)
def OpenSpec.upto (s : _root_.Go.ChangeSpec) : _root_.Go.OpenSpec := { _root_.Go.OpenSpec.ofChange s with cond := some uptoSmall }

/-- 'watershedlaw10.LogNil', WHERE WHAT IT READS IS OF BULK AT MOST 1048576: true; the input reads as it did. -/
def logNilUptoRow : OpenClaim := { program := "ytgpnfgjmdehfdaa", sum := "671ffbcc431c11627af465bc68c4b6a626b08d13e9d84497ab200dbd22a0f215", func := "watershed/watershedlaw10.LogNil", spec := "logNil", apart := false, narrowed := true }
def LogNilUptoSaid : Prop := logNilUptoRow.holds Try.pinned (OpenSpec.upto logNilSpec)

/-- 'watershedlaw13.FerryTells', WHERE WHAT IT READS IS OF BULK AT MOST 1048576: true; the input reads as it did. -/
def ferryTellsUptoRow : OpenClaim := { program := "ytgpnfgjmdehfdaa", sum := "671ffbcc431c11627af465bc68c4b6a626b08d13e9d84497ab200dbd22a0f215", func := "watershed/watershedlaw13.FerryTells", spec := "ferryTells", apart := false, narrowed := true }
def FerryTellsUptoSaid : Prop := ferryTellsUptoRow.holds Try.pinned (OpenSpec.upto ferryTellsSpec)

/-- 'watershedlaw10.LogEnds', WHERE WHAT IT READS IS OF BULK AT MOST 1048576: true; the input reads as it did. -/
def logEndsUptoRow : OpenClaim := { program := "ytgpnfgjmdehfdaa", sum := "671ffbcc431c11627af465bc68c4b6a626b08d13e9d84497ab200dbd22a0f215", func := "watershed/watershedlaw10.LogEnds", spec := "logEnds", apart := false, narrowed := true }
def LogEndsUptoSaid : Prop := logEndsUptoRow.holds Try.pinned (OpenSpec.upto logEndsSpec)

/-- 'watershedlaw13.FerryTakes', WHERE WHAT IT READS IS OF BULK AT MOST 1048576: true; the input reads as it did. -/
def ferryTakesUptoRow : OpenClaim := { program := "ytgpnfgjmdehfdaa", sum := "671ffbcc431c11627af465bc68c4b6a626b08d13e9d84497ab200dbd22a0f215", func := "watershed/watershedlaw13.FerryTakes", spec := "ferryTakes", apart := false, narrowed := true }
def FerryTakesUptoSaid : Prop := ferryTakesUptoRow.holds Try.pinned (OpenSpec.upto ferryTakesSpec)

/-- 'watershedlaw13.FerryEnds', WHERE WHAT IT READS IS OF BULK AT MOST 1048576: true; the input reads as it did. -/
def ferryEndsUptoRow : OpenClaim := { program := "ytgpnfgjmdehfdaa", sum := "671ffbcc431c11627af465bc68c4b6a626b08d13e9d84497ab200dbd22a0f215", func := "watershed/watershedlaw13.FerryEnds", spec := "ferryEnds", apart := false, narrowed := true }
def FerryEndsUptoSaid : Prop := ferryEndsUptoRow.holds Try.pinned (OpenSpec.upto ferryEndsSpec)

/-- 'watershedlaw13.FerryCrosses', WHERE WHAT IT READS IS OF BULK AT MOST 1048576: true; the input reads as it did. -/
def ferryCrossesUptoRow : OpenClaim := { program := "ytgpnfgjmdehfdaa", sum := "671ffbcc431c11627af465bc68c4b6a626b08d13e9d84497ab200dbd22a0f215", func := "watershed/watershedlaw13.FerryCrosses", spec := "ferryCrosses", apart := false, narrowed := true }
def FerryCrossesUptoSaid : Prop := ferryCrossesUptoRow.holds Try.pinned (OpenSpec.upto ferryCrossesSpec)

/-- 'watershedlaw10.LogTake', WHERE WHAT IT READS IS OF BULK AT MOST 1048576: true; the input reads as it did. -/
def logTakeUptoRow : OpenClaim := { program := "ytgpnfgjmdehfdaa", sum := "671ffbcc431c11627af465bc68c4b6a626b08d13e9d84497ab200dbd22a0f215", func := "watershed/watershedlaw10.LogTake", spec := "logTake", apart := false, narrowed := true }
def LogTakeUptoSaid : Prop := logTakeUptoRow.holds Try.pinned (OpenSpec.upto logTakeSpec)

/-- 'watershedlaw10.LogCompact', WHERE WHAT IT READS IS OF BULK AT MOST 1048576: true; the input reads as it did. -/
def logCompactUptoRow : OpenClaim := { program := "ytgpnfgjmdehfdaa", sum := "671ffbcc431c11627af465bc68c4b6a626b08d13e9d84497ab200dbd22a0f215", func := "watershed/watershedlaw10.LogCompact", spec := "logCompact", apart := false, narrowed := true }
def LogCompactUptoSaid : Prop := logCompactUptoRow.holds Try.pinned (OpenSpec.upto logCompactSpec)

end Rows
end Go.Proofs.Ytgpnfgjmdehfdaa
