/-
  No cell of these rows narrows 'for every input' (looked for: loops, veiled, ifaces, maps, wideKeys, modest, calm, conditions, laid).
  DERIVED. THE GIVEN ROWS OF THIS SEAT. 12 by the template 'for every input the law returns true; each argument reads behind the call as it read before'; 0 by the template 'total and deterministic' (their statements: YtehkignjdbkeiaaTotals.lean).
  GIVEN WITH THE SEED: the statements are not yours to turn. If you find one false, say at which input.
  Laid BY PROGRAM, IN A SANDBOX (cutbox-rows.mjs): the forced cells as the released guide's own fill.sh prints them over the translation cab54708f7fcadb4… (all of the seat's roots in one cut). By AI agents, Wed Nov 11 2026. No macro, syntax, notation, axiom, sorry.
-/
import Derived.Test.YtehkignjdbkeiaaChecked
import GoSem.Claim
import GoSem.ClaimJoined
import GoSem.ClaimMapViews
import Derived.JoinedTies
import Derived.KernelRfl
namespace Go.Proofs.Ytehkignjdbkeiaa
/- THE CELL 'sum', in the pinned program and in every row, IS THE sha256 OF THE DUMP (.gsa) THAT YtehkignjdbkeiaaProg.lean LOADS. Nothing in Lean hashes anything: it is a label: what it is worth is what the hold of that sum in a sandbox is worth. -/
noncomputable def Try.pinned : Pinned := { name := "ytehkignjdbkeiaa", sum := "cab54708f7fcadb4532449d29131503a822947d4395b5666c909036b6bb52d62", checked := Try.checked }
namespace Rows
def none {H : Type} : Left H := { results := [], args := [] }

/-- 'laws.FnRow': WHATEVER THE INPUT: true; the input reads as it did. -/
def fnRowSpec : ChangeSpec := { name := "fnRow", fn := fun _ => fun
  | [d] => { results := [.lit (.bool true)], args := [d] }
  | _ => none }
def fnRowRow : OpenClaim := { program := "ytehkignjdbkeiaa", sum := "cab54708f7fcadb4532449d29131503a822947d4395b5666c909036b6bb52d62", func := "loop.example/g00241/laws.FnRow", spec := "fnRow", apart := false }
def FnRowSaid : Prop := fnRowRow.holds Try.pinned (OpenSpec.ofChange fnRowSpec)

/-- ITS FALSE NEIGHBOUR: 'it returns false'. Refute it at one input. -/
def fnRowWrong : ChangeSpec := { name := "fnRow", fn := fun _ => fun
  | [d] => { results := [.lit (.bool false)], args := [d] }
  | _ => none }
def FnRowWrongFalsely : Prop := fnRowRow.holds Try.pinned (OpenSpec.ofChange fnRowWrong)

/-- 'laws.FnMerged': WHATEVER THE INPUT: true; the input reads as it did. -/
def fnMergedSpec : ChangeSpec := { name := "fnMerged", fn := fun _ => fun
  | [d] => { results := [.lit (.bool true)], args := [d] }
  | _ => none }
def fnMergedRow : OpenClaim := { program := "ytehkignjdbkeiaa", sum := "cab54708f7fcadb4532449d29131503a822947d4395b5666c909036b6bb52d62", func := "loop.example/g00241/laws.FnMerged", spec := "fnMerged", apart := false }
def FnMergedSaid : Prop := fnMergedRow.holds Try.pinned (OpenSpec.ofChange fnMergedSpec)

/-- ITS FALSE NEIGHBOUR: 'it returns false'. Refute it at one input. -/
def fnMergedWrong : ChangeSpec := { name := "fnMerged", fn := fun _ => fun
  | [d] => { results := [.lit (.bool false)], args := [d] }
  | _ => none }
def FnMergedWrongFalsely : Prop := fnMergedRow.holds Try.pinned (OpenSpec.ofChange fnMergedWrong)

/-- 'laws.FnExactWriteName': WHATEVER THE INPUT: true; the input reads as it did. -/
def fnExactWriteNameSpec : ChangeSpec := { name := "fnExactWriteName", fn := fun _ => fun
  | [d1, d2, d3] => { results := [.lit (.bool true)], args := [d1, d2, d3] }
  | _ => none }
def fnExactWriteNameRow : OpenClaim := { program := "ytehkignjdbkeiaa", sum := "cab54708f7fcadb4532449d29131503a822947d4395b5666c909036b6bb52d62", func := "loop.example/g00241/laws.FnExactWriteName", spec := "fnExactWriteName", apart := false }
def FnExactWriteNameSaid : Prop := fnExactWriteNameRow.holds Try.pinned (OpenSpec.ofChange fnExactWriteNameSpec)

/-- ITS FALSE NEIGHBOUR: 'it returns false'. Refute it at one input. -/
def fnExactWriteNameWrong : ChangeSpec := { name := "fnExactWriteName", fn := fun _ => fun
  | [d1, d2, d3] => { results := [.lit (.bool false)], args := [d1, d2, d3] }
  | _ => none }
def FnExactWriteNameWrongFalsely : Prop := fnExactWriteNameRow.holds Try.pinned (OpenSpec.ofChange fnExactWriteNameWrong)

/-- 'laws.FnExactSyncName': WHATEVER THE INPUT: true; the input reads as it did. -/
def fnExactSyncNameSpec : ChangeSpec := { name := "fnExactSyncName", fn := fun _ => fun
  | [d1, d2] => { results := [.lit (.bool true)], args := [d1, d2] }
  | _ => none }
def fnExactSyncNameRow : OpenClaim := { program := "ytehkignjdbkeiaa", sum := "cab54708f7fcadb4532449d29131503a822947d4395b5666c909036b6bb52d62", func := "loop.example/g00241/laws.FnExactSyncName", spec := "fnExactSyncName", apart := false }
def FnExactSyncNameSaid : Prop := fnExactSyncNameRow.holds Try.pinned (OpenSpec.ofChange fnExactSyncNameSpec)

/-- ITS FALSE NEIGHBOUR: 'it returns false'. Refute it at one input. -/
def fnExactSyncNameWrong : ChangeSpec := { name := "fnExactSyncName", fn := fun _ => fun
  | [d1, d2] => { results := [.lit (.bool false)], args := [d1, d2] }
  | _ => none }
def FnExactSyncNameWrongFalsely : Prop := fnExactSyncNameRow.holds Try.pinned (OpenSpec.ofChange fnExactSyncNameWrong)

/-- 'laws.FnRemoved': WHATEVER THE INPUT: true; the input reads as it did. -/
def fnRemovedSpec : ChangeSpec := { name := "fnRemoved", fn := fun _ => fun
  | [d] => { results := [.lit (.bool true)], args := [d] }
  | _ => none }
def fnRemovedRow : OpenClaim := { program := "ytehkignjdbkeiaa", sum := "cab54708f7fcadb4532449d29131503a822947d4395b5666c909036b6bb52d62", func := "loop.example/g00241/laws.FnRemoved", spec := "fnRemoved", apart := false }
def FnRemovedSaid : Prop := fnRemovedRow.holds Try.pinned (OpenSpec.ofChange fnRemovedSpec)

/-- ITS FALSE NEIGHBOUR: 'it returns false'. Refute it at one input. -/
def fnRemovedWrong : ChangeSpec := { name := "fnRemoved", fn := fun _ => fun
  | [d] => { results := [.lit (.bool false)], args := [d] }
  | _ => none }
def FnRemovedWrongFalsely : Prop := fnRemovedRow.holds Try.pinned (OpenSpec.ofChange fnRemovedWrong)

/-- 'laws.FnSynced': WHATEVER THE INPUT: true; the input reads as it did. -/
def fnSyncedSpec : ChangeSpec := { name := "fnSynced", fn := fun _ => fun
  | [d] => { results := [.lit (.bool true)], args := [d] }
  | _ => none }
def fnSyncedRow : OpenClaim := { program := "ytehkignjdbkeiaa", sum := "cab54708f7fcadb4532449d29131503a822947d4395b5666c909036b6bb52d62", func := "loop.example/g00241/laws.FnSynced", spec := "fnSynced", apart := false }
def FnSyncedSaid : Prop := fnSyncedRow.holds Try.pinned (OpenSpec.ofChange fnSyncedSpec)

/-- ITS FALSE NEIGHBOUR: 'it returns false'. Refute it at one input. -/
def fnSyncedWrong : ChangeSpec := { name := "fnSynced", fn := fun _ => fun
  | [d] => { results := [.lit (.bool false)], args := [d] }
  | _ => none }
def FnSyncedWrongFalsely : Prop := fnSyncedRow.holds Try.pinned (OpenSpec.ofChange fnSyncedWrong)

/-- 'laws.FnRowBytes': WHATEVER THE INPUT: true; the input reads as it did. -/
def fnRowBytesSpec : ChangeSpec := { name := "fnRowBytes", fn := fun _ => fun
  | [d] => { results := [.lit (.bool true)], args := [d] }
  | _ => none }
def fnRowBytesRow : OpenClaim := { program := "ytehkignjdbkeiaa", sum := "cab54708f7fcadb4532449d29131503a822947d4395b5666c909036b6bb52d62", func := "loop.example/g00241/laws.FnRowBytes", spec := "fnRowBytes", apart := false }
def FnRowBytesSaid : Prop := fnRowBytesRow.holds Try.pinned (OpenSpec.ofChange fnRowBytesSpec)

/-- ITS FALSE NEIGHBOUR: 'it returns false'. Refute it at one input. -/
def fnRowBytesWrong : ChangeSpec := { name := "fnRowBytes", fn := fun _ => fun
  | [d] => { results := [.lit (.bool false)], args := [d] }
  | _ => none }
def FnRowBytesWrongFalsely : Prop := fnRowBytesRow.holds Try.pinned (OpenSpec.ofChange fnRowBytesWrong)

/-- 'laws.FnWrites': WHATEVER THE INPUT: true; the input reads as it did. -/
def fnWritesSpec : ChangeSpec := { name := "fnWrites", fn := fun _ => fun
  | [d] => { results := [.lit (.bool true)], args := [d] }
  | _ => none }
def fnWritesRow : OpenClaim := { program := "ytehkignjdbkeiaa", sum := "cab54708f7fcadb4532449d29131503a822947d4395b5666c909036b6bb52d62", func := "loop.example/g00241/laws.FnWrites", spec := "fnWrites", apart := false }
def FnWritesSaid : Prop := fnWritesRow.holds Try.pinned (OpenSpec.ofChange fnWritesSpec)

/-- ITS FALSE NEIGHBOUR: 'it returns false'. Refute it at one input. -/
def fnWritesWrong : ChangeSpec := { name := "fnWrites", fn := fun _ => fun
  | [d] => { results := [.lit (.bool false)], args := [d] }
  | _ => none }
def FnWritesWrongFalsely : Prop := fnWritesRow.holds Try.pinned (OpenSpec.ofChange fnWritesWrong)

/-- 'laws.FnTakes': WHATEVER THE INPUT: true; the input reads as it did. -/
def fnTakesSpec : ChangeSpec := { name := "fnTakes", fn := fun _ => fun
  | [d] => { results := [.lit (.bool true)], args := [d] }
  | _ => none }
def fnTakesRow : OpenClaim := { program := "ytehkignjdbkeiaa", sum := "cab54708f7fcadb4532449d29131503a822947d4395b5666c909036b6bb52d62", func := "loop.example/g00241/laws.FnTakes", spec := "fnTakes", apart := false }
def FnTakesSaid : Prop := fnTakesRow.holds Try.pinned (OpenSpec.ofChange fnTakesSpec)

/-- ITS FALSE NEIGHBOUR: 'it returns false'. Refute it at one input. -/
def fnTakesWrong : ChangeSpec := { name := "fnTakes", fn := fun _ => fun
  | [d] => { results := [.lit (.bool false)], args := [d] }
  | _ => none }
def FnTakesWrongFalsely : Prop := fnTakesRow.holds Try.pinned (OpenSpec.ofChange fnTakesWrong)

/-- 'laws.FnKeep': WHATEVER THE INPUT: true; the input reads as it did. -/
def fnKeepSpec : ChangeSpec := { name := "fnKeep", fn := fun _ => fun
  | [d] => { results := [.lit (.bool true)], args := [d] }
  | _ => none }
def fnKeepRow : OpenClaim := { program := "ytehkignjdbkeiaa", sum := "cab54708f7fcadb4532449d29131503a822947d4395b5666c909036b6bb52d62", func := "loop.example/g00241/laws.FnKeep", spec := "fnKeep", apart := false }
def FnKeepSaid : Prop := fnKeepRow.holds Try.pinned (OpenSpec.ofChange fnKeepSpec)

/-- ITS FALSE NEIGHBOUR: 'it returns false'. Refute it at one input. -/
def fnKeepWrong : ChangeSpec := { name := "fnKeep", fn := fun _ => fun
  | [d] => { results := [.lit (.bool false)], args := [d] }
  | _ => none }
def FnKeepWrongFalsely : Prop := fnKeepRow.holds Try.pinned (OpenSpec.ofChange fnKeepWrong)

/-- 'laws.FnSure': WHATEVER THE INPUT: true; the input reads as it did. -/
def fnSureSpec : ChangeSpec := { name := "fnSure", fn := fun _ => fun
  | [d] => { results := [.lit (.bool true)], args := [d] }
  | _ => none }
def fnSureRow : OpenClaim := { program := "ytehkignjdbkeiaa", sum := "cab54708f7fcadb4532449d29131503a822947d4395b5666c909036b6bb52d62", func := "loop.example/g00241/laws.FnSure", spec := "fnSure", apart := false }
def FnSureSaid : Prop := fnSureRow.holds Try.pinned (OpenSpec.ofChange fnSureSpec)

/-- ITS FALSE NEIGHBOUR: 'it returns false'. Refute it at one input. -/
def fnSureWrong : ChangeSpec := { name := "fnSure", fn := fun _ => fun
  | [d] => { results := [.lit (.bool false)], args := [d] }
  | _ => none }
def FnSureWrongFalsely : Prop := fnSureRow.holds Try.pinned (OpenSpec.ofChange fnSureWrong)

/-- 'laws.FnExactKeep': WHATEVER THE INPUT: true; the input reads as it did. -/
def fnExactKeepSpec : ChangeSpec := { name := "fnExactKeep", fn := fun _ => fun
  | [d1, d2, d3, d4] => { results := [.lit (.bool true)], args := [d1, d2, d3, d4] }
  | _ => none }
def fnExactKeepRow : OpenClaim := { program := "ytehkignjdbkeiaa", sum := "cab54708f7fcadb4532449d29131503a822947d4395b5666c909036b6bb52d62", func := "loop.example/g00241/laws.FnExactKeep", spec := "fnExactKeep", apart := false }
def FnExactKeepSaid : Prop := fnExactKeepRow.holds Try.pinned (OpenSpec.ofChange fnExactKeepSpec)

/-- ITS FALSE NEIGHBOUR: 'it returns false'. Refute it at one input. -/
def fnExactKeepWrong : ChangeSpec := { name := "fnExactKeep", fn := fun _ => fun
  | [d1, d2, d3, d4] => { results := [.lit (.bool false)], args := [d1, d2, d3, d4] }
  | _ => none }
def FnExactKeepWrongFalsely : Prop := fnExactKeepRow.holds Try.pinned (OpenSpec.ofChange fnExactKeepWrong)

/- THE SECOND FORM. 'bulk': how many values and letters a reading holds, each counted each time it is reached (what is shared counts as often as it is met; a slice's spare places count too). A statement '..UptoSaid' is the law's where the arguments, and the package variables that the reading takes, are together of bulk at most 1048576: NARROWER than '..Said'. Prove '..Said' where nothing that the law and all that it calls make is longer than what came in: it says more and counts as full. Else prove '..UptoSaid'. A law counts once. -/
mutual
def uptoBulk {H : Type} : DataW H → Nat
  | .lit (.string bytes) => bytes.length + 1
  | .lit _ => 1
  | .nil => 1
  | .ptr d => uptoBulk d + 1
  | .slice elems spare => uptoBulkAll elems + uptoBulkAll spare + 1
  | .agg parts => uptoBulkAll parts + 1
  | .iface _ d => uptoBulk d + 1
  | .map entries => uptoBulkEntries entries + 1
  | .held _ => 1
def uptoBulkAll {H : Type} : List (DataW H) → Nat
  | [] => 0
  | d :: r => uptoBulk d + uptoBulkAll r
def uptoBulkEntries {H : Type} : List (Lit × DataW H) → Nat
  | [] => 0
  | x :: r => uptoBulkEntry x + uptoBulkEntries r
def uptoBulkEntry {H : Type} : Lit × DataW H → Nat
  | (.string bytes, d) => bytes.length + uptoBulk d + 1
  | (_, d) => uptoBulk d + 1
 end
def uptoSmall : (H : Type) → List (DataW H) → Bool := fun _ ds => decide (uptoBulkAll ds ≤ 1048576)
def OpenSpec.upto (s : _root_.Go.ChangeSpec) : _root_.Go.OpenSpec := { _root_.Go.OpenSpec.ofChange s with cond := some uptoSmall }

/-- 'laws.FnRow', WHERE WHAT IT READS IS OF BULK AT MOST 1048576: true; the input reads as it did. -/
def fnRowUptoRow : OpenClaim := { program := "ytehkignjdbkeiaa", sum := "cab54708f7fcadb4532449d29131503a822947d4395b5666c909036b6bb52d62", func := "loop.example/g00241/laws.FnRow", spec := "fnRow", apart := false, narrowed := true }
def FnRowUptoSaid : Prop := fnRowUptoRow.holds Try.pinned (OpenSpec.upto fnRowSpec)

/-- 'laws.FnMerged', WHERE WHAT IT READS IS OF BULK AT MOST 1048576: true; the input reads as it did. -/
def fnMergedUptoRow : OpenClaim := { program := "ytehkignjdbkeiaa", sum := "cab54708f7fcadb4532449d29131503a822947d4395b5666c909036b6bb52d62", func := "loop.example/g00241/laws.FnMerged", spec := "fnMerged", apart := false, narrowed := true }
def FnMergedUptoSaid : Prop := fnMergedUptoRow.holds Try.pinned (OpenSpec.upto fnMergedSpec)

/-- 'laws.FnExactWriteName', WHERE WHAT IT READS IS OF BULK AT MOST 1048576: true; the input reads as it did. -/
def fnExactWriteNameUptoRow : OpenClaim := { program := "ytehkignjdbkeiaa", sum := "cab54708f7fcadb4532449d29131503a822947d4395b5666c909036b6bb52d62", func := "loop.example/g00241/laws.FnExactWriteName", spec := "fnExactWriteName", apart := false, narrowed := true }
def FnExactWriteNameUptoSaid : Prop := fnExactWriteNameUptoRow.holds Try.pinned (OpenSpec.upto fnExactWriteNameSpec)

/-- 'laws.FnExactSyncName', WHERE WHAT IT READS IS OF BULK AT MOST 1048576: true; the input reads as it did. -/
def fnExactSyncNameUptoRow : OpenClaim := { program := "ytehkignjdbkeiaa", sum := "cab54708f7fcadb4532449d29131503a822947d4395b5666c909036b6bb52d62", func := "loop.example/g00241/laws.FnExactSyncName", spec := "fnExactSyncName", apart := false, narrowed := true }
def FnExactSyncNameUptoSaid : Prop := fnExactSyncNameUptoRow.holds Try.pinned (OpenSpec.upto fnExactSyncNameSpec)

/-- 'laws.FnRemoved', WHERE WHAT IT READS IS OF BULK AT MOST 1048576: true; the input reads as it did. -/
def fnRemovedUptoRow : OpenClaim := { program := "ytehkignjdbkeiaa", sum := "cab54708f7fcadb4532449d29131503a822947d4395b5666c909036b6bb52d62", func := "loop.example/g00241/laws.FnRemoved", spec := "fnRemoved", apart := false, narrowed := true }
def FnRemovedUptoSaid : Prop := fnRemovedUptoRow.holds Try.pinned (OpenSpec.upto fnRemovedSpec)

/-- 'laws.FnSynced', WHERE WHAT IT READS IS OF BULK AT MOST 1048576: true; the input reads as it did. -/
def fnSyncedUptoRow : OpenClaim := { program := "ytehkignjdbkeiaa", sum := "cab54708f7fcadb4532449d29131503a822947d4395b5666c909036b6bb52d62", func := "loop.example/g00241/laws.FnSynced", spec := "fnSynced", apart := false, narrowed := true }
def FnSyncedUptoSaid : Prop := fnSyncedUptoRow.holds Try.pinned (OpenSpec.upto fnSyncedSpec)

/-- 'laws.FnRowBytes', WHERE WHAT IT READS IS OF BULK AT MOST 1048576: true; the input reads as it did. -/
def fnRowBytesUptoRow : OpenClaim := { program := "ytehkignjdbkeiaa", sum := "cab54708f7fcadb4532449d29131503a822947d4395b5666c909036b6bb52d62", func := "loop.example/g00241/laws.FnRowBytes", spec := "fnRowBytes", apart := false, narrowed := true }
def FnRowBytesUptoSaid : Prop := fnRowBytesUptoRow.holds Try.pinned (OpenSpec.upto fnRowBytesSpec)

/-- 'laws.FnWrites', WHERE WHAT IT READS IS OF BULK AT MOST 1048576: true; the input reads as it did. -/
def fnWritesUptoRow : OpenClaim := { program := "ytehkignjdbkeiaa", sum := "cab54708f7fcadb4532449d29131503a822947d4395b5666c909036b6bb52d62", func := "loop.example/g00241/laws.FnWrites", spec := "fnWrites", apart := false, narrowed := true }
def FnWritesUptoSaid : Prop := fnWritesUptoRow.holds Try.pinned (OpenSpec.upto fnWritesSpec)

/-- 'laws.FnTakes', WHERE WHAT IT READS IS OF BULK AT MOST 1048576: true; the input reads as it did. -/
def fnTakesUptoRow : OpenClaim := { program := "ytehkignjdbkeiaa", sum := "cab54708f7fcadb4532449d29131503a822947d4395b5666c909036b6bb52d62", func := "loop.example/g00241/laws.FnTakes", spec := "fnTakes", apart := false, narrowed := true }
def FnTakesUptoSaid : Prop := fnTakesUptoRow.holds Try.pinned (OpenSpec.upto fnTakesSpec)

/-- 'laws.FnKeep', WHERE WHAT IT READS IS OF BULK AT MOST 1048576: true; the input reads as it did. -/
def fnKeepUptoRow : OpenClaim := { program := "ytehkignjdbkeiaa", sum := "cab54708f7fcadb4532449d29131503a822947d4395b5666c909036b6bb52d62", func := "loop.example/g00241/laws.FnKeep", spec := "fnKeep", apart := false, narrowed := true }
def FnKeepUptoSaid : Prop := fnKeepUptoRow.holds Try.pinned (OpenSpec.upto fnKeepSpec)

/-- 'laws.FnSure', WHERE WHAT IT READS IS OF BULK AT MOST 1048576: true; the input reads as it did. -/
def fnSureUptoRow : OpenClaim := { program := "ytehkignjdbkeiaa", sum := "cab54708f7fcadb4532449d29131503a822947d4395b5666c909036b6bb52d62", func := "loop.example/g00241/laws.FnSure", spec := "fnSure", apart := false, narrowed := true }
def FnSureUptoSaid : Prop := fnSureUptoRow.holds Try.pinned (OpenSpec.upto fnSureSpec)

/-- 'laws.FnExactKeep', WHERE WHAT IT READS IS OF BULK AT MOST 1048576: true; the input reads as it did. -/
def fnExactKeepUptoRow : OpenClaim := { program := "ytehkignjdbkeiaa", sum := "cab54708f7fcadb4532449d29131503a822947d4395b5666c909036b6bb52d62", func := "loop.example/g00241/laws.FnExactKeep", spec := "fnExactKeep", apart := false, narrowed := true }
def FnExactKeepUptoSaid : Prop := fnExactKeepUptoRow.holds Try.pinned (OpenSpec.upto fnExactKeepSpec)

end Rows
end Go.Proofs.Ytehkignjdbkeiaa
