/-
  No cell of these rows narrows 'for every input' (looked for: loops, veiled, ifaces, maps, wideKeys, modest, calm, conditions, laid).
  DERIVED. THE GIVEN ROWS OF THIS SEAT. 8 by the template 'for every input the law returns true; each argument reads behind the call as it read before'; 0 by the template 'total and deterministic' (their statements: YtllpfpdanonhkaaTotals.lean).
  GIVEN WITH THE SEED: the statements are not yours to turn. If you find one false, say at which input.
  Laid BY PROGRAM, IN A SANDBOX (cutbox-rows.mjs): the forced cells as the released guide's own fill.sh prints them over the translation ea7aa8a988d1b671… (all of the seat's roots in one cut). By AI agents, Wed Nov 11 2026. No macro, syntax, notation, axiom, sorry.
-/
import Derived.Test.YtllpfpdanonhkaaChecked
import GoSem.Claim
import GoSem.ClaimJoined
import GoSem.ClaimMapViews
import Derived.JoinedTies
import Derived.KernelRfl
namespace Go.Proofs.Ytllpfpdanonhkaa
/- THE CELL 'sum', in the pinned program and in every row, IS THE sha256 OF THE DUMP (.gsa) THAT YtllpfpdanonhkaaProg.lean LOADS. Nothing in Lean hashes anything: it is a label: what it is worth is what the hold of that sum in a sandbox is worth. -/
noncomputable def Try.pinned : Pinned := { name := "ytllpfpdanonhkaa", sum := "ea7aa8a988d1b6719e829dd4fc9a12fc0de634a03b960ada426058c4bf138486", checked := Try.checked }
namespace Rows
def none {H : Type} : Left H := { results := [], args := [] }

/-- 'spindlelaw25.BackupMakes': WHATEVER THE INPUT: true; the input reads as it did. -/
def backupMakesSpec : ChangeSpec := { name := "backupMakes", fn := fun _ => fun
  | [d1, d2, d3, d4] => { results := [.lit (.bool true)], args := [d1, d2, d3, d4] }
  | _ => none }
def backupMakesRow : OpenClaim := { program := "ytllpfpdanonhkaa", sum := "ea7aa8a988d1b6719e829dd4fc9a12fc0de634a03b960ada426058c4bf138486", func := "spindle/spindlelaw25.BackupMakes", spec := "backupMakes", unfollowed := true, recurses := true, apart := false }
def BackupMakesSaid : Prop := backupMakesRow.holds Try.pinned (OpenSpec.ofChange backupMakesSpec)

/-- ITS FALSE NEIGHBOUR: 'it returns false'. Refute it at one input. -/
def backupMakesWrong : ChangeSpec := { name := "backupMakes", fn := fun _ => fun
  | [d1, d2, d3, d4] => { results := [.lit (.bool false)], args := [d1, d2, d3, d4] }
  | _ => none }
def BackupMakesWrongFalsely : Prop := backupMakesRow.holds Try.pinned (OpenSpec.ofChange backupMakesWrong)

/-- 'spindlelaw25.BackupWrites': WHATEVER THE INPUT: true; the input reads as it did. -/
def backupWritesSpec : ChangeSpec := { name := "backupWrites", fn := fun _ => fun
  | [d] => { results := [.lit (.bool true)], args := [d] }
  | _ => none }
def backupWritesRow : OpenClaim := { program := "ytllpfpdanonhkaa", sum := "ea7aa8a988d1b6719e829dd4fc9a12fc0de634a03b960ada426058c4bf138486", func := "spindle/spindlelaw25.BackupWrites", spec := "backupWrites", unfollowed := true, recurses := true, apart := false }
def BackupWritesSaid : Prop := backupWritesRow.holds Try.pinned (OpenSpec.ofChange backupWritesSpec)

/-- ITS FALSE NEIGHBOUR: 'it returns false'. Refute it at one input. -/
def backupWritesWrong : ChangeSpec := { name := "backupWrites", fn := fun _ => fun
  | [d] => { results := [.lit (.bool false)], args := [d] }
  | _ => none }
def BackupWritesWrongFalsely : Prop := backupWritesRow.holds Try.pinned (OpenSpec.ofChange backupWritesWrong)

/-- 'spindlelaw25.BackupReads': WHATEVER THE INPUT: true; the input reads as it did. -/
def backupReadsSpec : ChangeSpec := { name := "backupReads", fn := fun _ => fun
  | [d] => { results := [.lit (.bool true)], args := [d] }
  | _ => none }
def backupReadsRow : OpenClaim := { program := "ytllpfpdanonhkaa", sum := "ea7aa8a988d1b6719e829dd4fc9a12fc0de634a03b960ada426058c4bf138486", func := "spindle/spindlelaw25.BackupReads", spec := "backupReads", unfollowed := true, recurses := true, apart := false }
def BackupReadsSaid : Prop := backupReadsRow.holds Try.pinned (OpenSpec.ofChange backupReadsSpec)

/-- ITS FALSE NEIGHBOUR: 'it returns false'. Refute it at one input. -/
def backupReadsWrong : ChangeSpec := { name := "backupReads", fn := fun _ => fun
  | [d] => { results := [.lit (.bool false)], args := [d] }
  | _ => none }
def BackupReadsWrongFalsely : Prop := backupReadsRow.holds Try.pinned (OpenSpec.ofChange backupReadsWrong)

/-- 'spindlelaw25.BackupFlip': WHATEVER THE INPUT: true; the input reads as it did. -/
def backupFlipSpec : ChangeSpec := { name := "backupFlip", fn := fun _ => fun
  | [d1, d2, d3] => { results := [.lit (.bool true)], args := [d1, d2, d3] }
  | _ => none }
def backupFlipRow : OpenClaim := { program := "ytllpfpdanonhkaa", sum := "ea7aa8a988d1b6719e829dd4fc9a12fc0de634a03b960ada426058c4bf138486", func := "spindle/spindlelaw25.BackupFlip", spec := "backupFlip", unfollowed := true, recurses := true, apart := false }
def BackupFlipSaid : Prop := backupFlipRow.holds Try.pinned (OpenSpec.ofChange backupFlipSpec)

/-- ITS FALSE NEIGHBOUR: 'it returns false'. Refute it at one input. -/
def backupFlipWrong : ChangeSpec := { name := "backupFlip", fn := fun _ => fun
  | [d1, d2, d3] => { results := [.lit (.bool false)], args := [d1, d2, d3] }
  | _ => none }
def BackupFlipWrongFalsely : Prop := backupFlipRow.holds Try.pinned (OpenSpec.ofChange backupFlipWrong)

/-- 'spindlelaw25.BackupRestores': WHATEVER THE INPUT: true; the input reads as it did. -/
def backupRestoresSpec : ChangeSpec := { name := "backupRestores", fn := fun _ => fun
  | [d] => { results := [.lit (.bool true)], args := [d] }
  | _ => none }
def backupRestoresRow : OpenClaim := { program := "ytllpfpdanonhkaa", sum := "ea7aa8a988d1b6719e829dd4fc9a12fc0de634a03b960ada426058c4bf138486", func := "spindle/spindlelaw25.BackupRestores", spec := "backupRestores", unfollowed := true, recurses := true, apart := false }
def BackupRestoresSaid : Prop := backupRestoresRow.holds Try.pinned (OpenSpec.ofChange backupRestoresSpec)

/-- ITS FALSE NEIGHBOUR: 'it returns false'. Refute it at one input. -/
def backupRestoresWrong : ChangeSpec := { name := "backupRestores", fn := fun _ => fun
  | [d] => { results := [.lit (.bool false)], args := [d] }
  | _ => none }
def BackupRestoresWrongFalsely : Prop := backupRestoresRow.holds Try.pinned (OpenSpec.ofChange backupRestoresWrong)

/-- 'spindlelaw25.BackupJoins': WHATEVER THE INPUT: true; the input reads as it did. -/
def backupJoinsSpec : ChangeSpec := { name := "backupJoins", fn := fun _ => fun
  | [d1, d2] => { results := [.lit (.bool true)], args := [d1, d2] }
  | _ => none }
def backupJoinsRow : OpenClaim := { program := "ytllpfpdanonhkaa", sum := "ea7aa8a988d1b6719e829dd4fc9a12fc0de634a03b960ada426058c4bf138486", func := "spindle/spindlelaw25.BackupJoins", spec := "backupJoins", unfollowed := true, recurses := true, apart := false }
def BackupJoinsSaid : Prop := backupJoinsRow.holds Try.pinned (OpenSpec.ofChange backupJoinsSpec)

/-- ITS FALSE NEIGHBOUR: 'it returns false'. Refute it at one input. -/
def backupJoinsWrong : ChangeSpec := { name := "backupJoins", fn := fun _ => fun
  | [d1, d2] => { results := [.lit (.bool false)], args := [d1, d2] }
  | _ => none }
def BackupJoinsWrongFalsely : Prop := backupJoinsRow.holds Try.pinned (OpenSpec.ofChange backupJoinsWrong)

/-- 'spindlelaw25.BackupChain': WHATEVER THE INPUT: true; the input reads as it did. -/
def backupChainSpec : ChangeSpec := { name := "backupChain", fn := fun _ => fun
  | [d1, d2] => { results := [.lit (.bool true)], args := [d1, d2] }
  | _ => none }
def backupChainRow : OpenClaim := { program := "ytllpfpdanonhkaa", sum := "ea7aa8a988d1b6719e829dd4fc9a12fc0de634a03b960ada426058c4bf138486", func := "spindle/spindlelaw25.BackupChain", spec := "backupChain", unfollowed := true, recurses := true, apart := false }
def BackupChainSaid : Prop := backupChainRow.holds Try.pinned (OpenSpec.ofChange backupChainSpec)

/-- ITS FALSE NEIGHBOUR: 'it returns false'. Refute it at one input. -/
def backupChainWrong : ChangeSpec := { name := "backupChain", fn := fun _ => fun
  | [d1, d2] => { results := [.lit (.bool false)], args := [d1, d2] }
  | _ => none }
def BackupChainWrongFalsely : Prop := backupChainRow.holds Try.pinned (OpenSpec.ofChange backupChainWrong)

/-- 'spindlelaw25.BackupChecks': WHATEVER THE INPUT: true; the input reads as it did. -/
def backupChecksSpec : ChangeSpec := { name := "backupChecks", fn := fun _ => fun
  | [d] => { results := [.lit (.bool true)], args := [d] }
  | _ => none }
def backupChecksRow : OpenClaim := { program := "ytllpfpdanonhkaa", sum := "ea7aa8a988d1b6719e829dd4fc9a12fc0de634a03b960ada426058c4bf138486", func := "spindle/spindlelaw25.BackupChecks", spec := "backupChecks", inPlace := ["internal/reflectlite.ValueOf", "internal/reflectlite.Swapper", "(internal/reflectlite.Value).Len"], unfollowed := true, recurses := true, apart := false }
def BackupChecksSaid : Prop := backupChecksRow.holds Try.pinned (OpenSpec.ofChange backupChecksSpec)

/-- ITS FALSE NEIGHBOUR: 'it returns false'. Refute it at one input. -/
def backupChecksWrong : ChangeSpec := { name := "backupChecks", fn := fun _ => fun
  | [d] => { results := [.lit (.bool false)], args := [d] }
  | _ => none }
def BackupChecksWrongFalsely : Prop := backupChecksRow.holds Try.pinned (OpenSpec.ofChange backupChecksWrong)

/- THE SECOND FORM. 'bulk': how many values and letters a reading holds, each counted each time it is reached (what is shared counts as often as it is met; a slice's spare places count too). A statement '..UptoSaid' is the law's where the arguments, and the package variables that the reading takes, are together of bulk at most 1048576: NARROWER than '..Said'. Prove '..Said' where nothing that the law and all that it calls make is longer than what came in: it says more and counts as full. Else prove '..UptoSaid'. A law counts once. -/
mutual
def uptoBulk {H : Type} : DataW H → Nat
  | .lit (.string bytes) => bytes.length + 1
  | .lit _ => 1
  | .nil => 1
  | .ptr d => uptoBulk d + 1
  | .slice elems spare => uptoBulkAll elems + uptoBulkAll spare + 1
  | .agg parts => uptoBulkAll parts + 1
  | .iface _ d => uptoBulk d + 1
  | .map entries => uptoBulkEntries entries + 1
  | .held _ => 1
def uptoBulkAll {H : Type} : List (DataW H) → Nat
  | [] => 0
  | d :: r => uptoBulk d + uptoBulkAll r
def uptoBulkEntries {H : Type} : List (Lit × DataW H) → Nat
  | [] => 0
  | x :: r => uptoBulkEntry x + uptoBulkEntries r
def uptoBulkEntry {H : Type} : Lit × DataW H → Nat
  | (.string bytes, d) => bytes.length + uptoBulk d + 1
  | (_, d) => uptoBulk d + 1
 end
def uptoSmall : (H : Type) → List (DataW H) → Bool := fun _ ds => decide (uptoBulkAll ds ≤ 1048576)
def OpenSpec.upto (s : _root_.Go.ChangeSpec) : _root_.Go.OpenSpec := { _root_.Go.OpenSpec.ofChange s with cond := some uptoSmall }

/-- 'spindlelaw25.BackupMakes', WHERE WHAT IT READS IS OF BULK AT MOST 1048576: true; the input reads as it did. -/
def backupMakesUptoRow : OpenClaim := { program := "ytllpfpdanonhkaa", sum := "ea7aa8a988d1b6719e829dd4fc9a12fc0de634a03b960ada426058c4bf138486", func := "spindle/spindlelaw25.BackupMakes", spec := "backupMakes", unfollowed := true, recurses := true, apart := false, narrowed := true }
def BackupMakesUptoSaid : Prop := backupMakesUptoRow.holds Try.pinned (OpenSpec.upto backupMakesSpec)

/-- 'spindlelaw25.BackupWrites', WHERE WHAT IT READS IS OF BULK AT MOST 1048576: true; the input reads as it did. -/
def backupWritesUptoRow : OpenClaim := { program := "ytllpfpdanonhkaa", sum := "ea7aa8a988d1b6719e829dd4fc9a12fc0de634a03b960ada426058c4bf138486", func := "spindle/spindlelaw25.BackupWrites", spec := "backupWrites", unfollowed := true, recurses := true, apart := false, narrowed := true }
def BackupWritesUptoSaid : Prop := backupWritesUptoRow.holds Try.pinned (OpenSpec.upto backupWritesSpec)

/-- 'spindlelaw25.BackupReads', WHERE WHAT IT READS IS OF BULK AT MOST 1048576: true; the input reads as it did. -/
def backupReadsUptoRow : OpenClaim := { program := "ytllpfpdanonhkaa", sum := "ea7aa8a988d1b6719e829dd4fc9a12fc0de634a03b960ada426058c4bf138486", func := "spindle/spindlelaw25.BackupReads", spec := "backupReads", unfollowed := true, recurses := true, apart := false, narrowed := true }
def BackupReadsUptoSaid : Prop := backupReadsUptoRow.holds Try.pinned (OpenSpec.upto backupReadsSpec)

/-- 'spindlelaw25.BackupFlip', WHERE WHAT IT READS IS OF BULK AT MOST 1048576: true; the input reads as it did. -/
def backupFlipUptoRow : OpenClaim := { program := "ytllpfpdanonhkaa", sum := "ea7aa8a988d1b6719e829dd4fc9a12fc0de634a03b960ada426058c4bf138486", func := "spindle/spindlelaw25.BackupFlip", spec := "backupFlip", unfollowed := true, recurses := true, apart := false, narrowed := true }
def BackupFlipUptoSaid : Prop := backupFlipUptoRow.holds Try.pinned (OpenSpec.upto backupFlipSpec)

/-- 'spindlelaw25.BackupRestores', WHERE WHAT IT READS IS OF BULK AT MOST 1048576: true; the input reads as it did. -/
def backupRestoresUptoRow : OpenClaim := { program := "ytllpfpdanonhkaa", sum := "ea7aa8a988d1b6719e829dd4fc9a12fc0de634a03b960ada426058c4bf138486", func := "spindle/spindlelaw25.BackupRestores", spec := "backupRestores", unfollowed := true, recurses := true, apart := false, narrowed := true }
def BackupRestoresUptoSaid : Prop := backupRestoresUptoRow.holds Try.pinned (OpenSpec.upto backupRestoresSpec)

/-- 'spindlelaw25.BackupJoins', WHERE WHAT IT READS IS OF BULK AT MOST 1048576: true; the input reads as it did. -/
def backupJoinsUptoRow : OpenClaim := { program := "ytllpfpdanonhkaa", sum := "ea7aa8a988d1b6719e829dd4fc9a12fc0de634a03b960ada426058c4bf138486", func := "spindle/spindlelaw25.BackupJoins", spec := "backupJoins", unfollowed := true, recurses := true, apart := false, narrowed := true }
def BackupJoinsUptoSaid : Prop := backupJoinsUptoRow.holds Try.pinned (OpenSpec.upto backupJoinsSpec)

/-- 'spindlelaw25.BackupChain', WHERE WHAT IT READS IS OF BULK AT MOST 1048576: true; the input reads as it did. -/
def backupChainUptoRow : OpenClaim := { program := "ytllpfpdanonhkaa", sum := "ea7aa8a988d1b6719e829dd4fc9a12fc0de634a03b960ada426058c4bf138486", func := "spindle/spindlelaw25.BackupChain", spec := "backupChain", unfollowed := true, recurses := true, apart := false, narrowed := true }
def BackupChainUptoSaid : Prop := backupChainUptoRow.holds Try.pinned (OpenSpec.upto backupChainSpec)

/-- 'spindlelaw25.BackupChecks', WHERE WHAT IT READS IS OF BULK AT MOST 1048576: true; the input reads as it did. -/
def backupChecksUptoRow : OpenClaim := { program := "ytllpfpdanonhkaa", sum := "ea7aa8a988d1b6719e829dd4fc9a12fc0de634a03b960ada426058c4bf138486", func := "spindle/spindlelaw25.BackupChecks", spec := "backupChecks", inPlace := ["internal/reflectlite.ValueOf", "internal/reflectlite.Swapper", "(internal/reflectlite.Value).Len"], unfollowed := true, recurses := true, apart := false, narrowed := true }
def BackupChecksUptoSaid : Prop := backupChecksUptoRow.holds Try.pinned (OpenSpec.upto backupChecksSpec)

end Rows
end Go.Proofs.Ytllpfpdanonhkaa
