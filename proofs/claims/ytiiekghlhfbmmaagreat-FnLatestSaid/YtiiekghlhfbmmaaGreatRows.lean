/-
  No cell of these rows narrows 'for every input' (looked for: loops, veiled, ifaces, maps, wideKeys, modest, calm, conditions, laid).
  DERIVED. THE GIVEN ROWS OF THIS SEAT. 5 by the template 'for every input the law returns true; each argument reads behind the call as it read before'; 0 by the template 'total and deterministic' (their statements: YtiiekghlhfbmmaaGreatTotals.lean).
  GIVEN WITH THE SEED: the statements are not yours to turn. If you find one false, say at which input.
  Laid BY PROGRAM, IN A SANDBOX (cutbox-rows.mjs): the forced cells as the released guide's own fill.sh prints them over the translation 3c48759c5bc45380… (all of the seat's roots in one cut). By AI agents, Wed Nov 11 2026. No macro, syntax, notation, axiom, sorry.
-/
import Derived.Test.YtiiekghlhfbmmaaGreatChecked
import GoSem.Claim
import GoSem.ClaimJoined
import GoSem.ClaimMapViews
import Derived.JoinedTies
import Derived.KernelRfl
namespace Go.Proofs.YtiiekghlhfbmmaaGreat
/- THE CELL 'sum', in the pinned program and in every row, IS THE sha256 OF THE DUMP (.gsa) THAT YtiiekghlhfbmmaaGreatProg.lean LOADS. Nothing in Lean hashes anything: it is a label: what it is worth is what the hold of that sum in a sandbox is worth. -/
noncomputable def Tryz.pinned : Pinned := { name := "ytiiekghlhfbmmaagreat", sum := "3c48759c5bc4538010ee1864622678a096f0e7444b4e6652a594f09695bdb214", checked := Tryz.checked }
namespace Rows
def none {H : Type} : Left H := { results := [], args := [] }

/-- 'laws.FnLasting': WHATEVER THE INPUT: true; the input reads as it did. -/
def fnLastingSpec : ChangeSpec := { name := "fnLasting", fn := fun _ => fun
  | [d] => { results := [.lit (.bool true)], args := [d] }
  | _ => none }
def fnLastingRow : OpenClaim := { program := "ytiiekghlhfbmmaagreat", sum := "3c48759c5bc4538010ee1864622678a096f0e7444b4e6652a594f09695bdb214", func := "loop.example/g00241/laws.FnLasting", spec := "fnLasting", apart := false }
def FnLastingSaid : Prop := fnLastingRow.holds Tryz.pinned (OpenSpec.ofChange fnLastingSpec)

/-- ITS FALSE NEIGHBOUR: 'it returns false'. Refute it at one input. -/
def fnLastingWrong : ChangeSpec := { name := "fnLasting", fn := fun _ => fun
  | [d] => { results := [.lit (.bool false)], args := [d] }
  | _ => none }
def FnLastingWrongFalsely : Prop := fnLastingRow.holds Tryz.pinned (OpenSpec.ofChange fnLastingWrong)

/-- 'laws.FnWeights': WHATEVER THE INPUT: true; the input reads as it did. -/
def fnWeightsSpec : ChangeSpec := { name := "fnWeights", fn := fun _ => fun
  | [d] => { results := [.lit (.bool true)], args := [d] }
  | _ => none }
def fnWeightsRow : OpenClaim := { program := "ytiiekghlhfbmmaagreat", sum := "3c48759c5bc4538010ee1864622678a096f0e7444b4e6652a594f09695bdb214", func := "loop.example/g00241/laws.FnWeights", spec := "fnWeights", unfollowed := true, recurses := true, apart := false }
def FnWeightsSaid : Prop := fnWeightsRow.holds Tryz.pinned (OpenSpec.ofChange fnWeightsSpec)

/-- ITS FALSE NEIGHBOUR: 'it returns false'. Refute it at one input. -/
def fnWeightsWrong : ChangeSpec := { name := "fnWeights", fn := fun _ => fun
  | [d] => { results := [.lit (.bool false)], args := [d] }
  | _ => none }
def FnWeightsWrongFalsely : Prop := fnWeightsRow.holds Tryz.pinned (OpenSpec.ofChange fnWeightsWrong)

/-- 'laws.FnLatest': WHATEVER THE INPUT: true; the input reads as it did. -/
def fnLatestSpec : ChangeSpec := { name := "fnLatest", fn := fun _ => fun
  | [d] => { results := [.lit (.bool true)], args := [d] }
  | _ => none }
def fnLatestRow : OpenClaim := { program := "ytiiekghlhfbmmaagreat", sum := "3c48759c5bc4538010ee1864622678a096f0e7444b4e6652a594f09695bdb214", func := "loop.example/g00241/laws.FnLatest", spec := "fnLatest", apart := false }
def FnLatestSaid : Prop := fnLatestRow.holds Tryz.pinned (OpenSpec.ofChange fnLatestSpec)

/-- ITS FALSE NEIGHBOUR: 'it returns false'. Refute it at one input. -/
def fnLatestWrong : ChangeSpec := { name := "fnLatest", fn := fun _ => fun
  | [d] => { results := [.lit (.bool false)], args := [d] }
  | _ => none }
def FnLatestWrongFalsely : Prop := fnLatestRow.holds Tryz.pinned (OpenSpec.ofChange fnLatestWrong)

/-- 'laws.FnPushed': WHATEVER THE INPUT: true; the input reads as it did. -/
def fnPushedSpec : ChangeSpec := { name := "fnPushed", fn := fun _ => fun
  | [d] => { results := [.lit (.bool true)], args := [d] }
  | _ => none }
def fnPushedRow : OpenClaim := { program := "ytiiekghlhfbmmaagreat", sum := "3c48759c5bc4538010ee1864622678a096f0e7444b4e6652a594f09695bdb214", func := "loop.example/g00241/laws.FnPushed", spec := "fnPushed", apart := false }
def FnPushedSaid : Prop := fnPushedRow.holds Tryz.pinned (OpenSpec.ofChange fnPushedSpec)

/-- ITS FALSE NEIGHBOUR: 'it returns false'. Refute it at one input. -/
def fnPushedWrong : ChangeSpec := { name := "fnPushed", fn := fun _ => fun
  | [d] => { results := [.lit (.bool false)], args := [d] }
  | _ => none }
def FnPushedWrongFalsely : Prop := fnPushedRow.holds Tryz.pinned (OpenSpec.ofChange fnPushedWrong)

/-- 'laws.FnToldRows': WHATEVER THE INPUT: true; the input reads as it did. -/
def fnToldRowsSpec : ChangeSpec := { name := "fnToldRows", fn := fun _ => fun
  | [d] => { results := [.lit (.bool true)], args := [d] }
  | _ => none }
def fnToldRowsRow : OpenClaim := { program := "ytiiekghlhfbmmaagreat", sum := "3c48759c5bc4538010ee1864622678a096f0e7444b4e6652a594f09695bdb214", func := "loop.example/g00241/laws.FnToldRows", spec := "fnToldRows", apart := false }
def FnToldRowsSaid : Prop := fnToldRowsRow.holds Tryz.pinned (OpenSpec.ofChange fnToldRowsSpec)

/-- ITS FALSE NEIGHBOUR: 'it returns false'. Refute it at one input. -/
def fnToldRowsWrong : ChangeSpec := { name := "fnToldRows", fn := fun _ => fun
  | [d] => { results := [.lit (.bool false)], args := [d] }
  | _ => none }
def FnToldRowsWrongFalsely : Prop := fnToldRowsRow.holds Tryz.pinned (OpenSpec.ofChange fnToldRowsWrong)

/- THE SECOND FORM. 'bulk': how many values and letters a reading holds, each counted each time it is reached (what is shared counts as often as it is met; a slice's spare places count too). A statement '..UptoSaid' is the law's where the arguments, and the package variables that the reading takes, are together of bulk at most 1048576: NARROWER than '..Said'. Prove '..Said' where nothing that the law and all that it calls make is longer than what came in: it says more and counts as full. Else prove '..UptoSaid'. A law counts once. -/
mutual
def uptoBulk {H : Type} : DataW H → Nat
  | .lit (.string bytes) => bytes.length + 1
  | .lit _ => 1
  | .nil => 1
  | .ptr d => uptoBulk d + 1
  | .slice elems spare => uptoBulkAll elems + uptoBulkAll spare + 1
  | .agg parts => uptoBulkAll parts + 1
  | .iface _ d => uptoBulk d + 1
  | .map entries => uptoBulkEntries entries + 1
  | .held _ => 1
def uptoBulkAll {H : Type} : List (DataW H) → Nat
  | [] => 0
  | d :: r => uptoBulk d + uptoBulkAll r
def uptoBulkEntries {H : Type} : List (Lit × DataW H) → Nat
  | [] => 0
  | x :: r => uptoBulkEntry x + uptoBulkEntries r
def uptoBulkEntry {H : Type} : Lit × DataW H → Nat
  | (.string bytes, d) => bytes.length + uptoBulk d + 1
  | (_, d) => uptoBulk d + 1
 end
def uptoSmall : (H : Type) → List (DataW H) → Bool := fun _ ds => decide (uptoBulkAll ds ≤ 1048576)
def OpenSpec.upto (s : _root_.Go.ChangeSpec) : _root_.Go.OpenSpec := { _root_.Go.OpenSpec.ofChange s with cond := some uptoSmall }

/-- 'laws.FnLasting', WHERE WHAT IT READS IS OF BULK AT MOST 1048576: true; the input reads as it did. -/
def fnLastingUptoRow : OpenClaim := { program := "ytiiekghlhfbmmaagreat", sum := "3c48759c5bc4538010ee1864622678a096f0e7444b4e6652a594f09695bdb214", func := "loop.example/g00241/laws.FnLasting", spec := "fnLasting", apart := false, narrowed := true }
def FnLastingUptoSaid : Prop := fnLastingUptoRow.holds Tryz.pinned (OpenSpec.upto fnLastingSpec)

/-- 'laws.FnWeights', WHERE WHAT IT READS IS OF BULK AT MOST 1048576: true; the input reads as it did. -/
def fnWeightsUptoRow : OpenClaim := { program := "ytiiekghlhfbmmaagreat", sum := "3c48759c5bc4538010ee1864622678a096f0e7444b4e6652a594f09695bdb214", func := "loop.example/g00241/laws.FnWeights", spec := "fnWeights", unfollowed := true, recurses := true, apart := false, narrowed := true }
def FnWeightsUptoSaid : Prop := fnWeightsUptoRow.holds Tryz.pinned (OpenSpec.upto fnWeightsSpec)

/-- 'laws.FnLatest', WHERE WHAT IT READS IS OF BULK AT MOST 1048576: true; the input reads as it did. -/
def fnLatestUptoRow : OpenClaim := { program := "ytiiekghlhfbmmaagreat", sum := "3c48759c5bc4538010ee1864622678a096f0e7444b4e6652a594f09695bdb214", func := "loop.example/g00241/laws.FnLatest", spec := "fnLatest", apart := false, narrowed := true }
def FnLatestUptoSaid : Prop := fnLatestUptoRow.holds Tryz.pinned (OpenSpec.upto fnLatestSpec)

/-- 'laws.FnPushed', WHERE WHAT IT READS IS OF BULK AT MOST 1048576: true; the input reads as it did. -/
def fnPushedUptoRow : OpenClaim := { program := "ytiiekghlhfbmmaagreat", sum := "3c48759c5bc4538010ee1864622678a096f0e7444b4e6652a594f09695bdb214", func := "loop.example/g00241/laws.FnPushed", spec := "fnPushed", apart := false, narrowed := true }
def FnPushedUptoSaid : Prop := fnPushedUptoRow.holds Tryz.pinned (OpenSpec.upto fnPushedSpec)

/-- 'laws.FnToldRows', WHERE WHAT IT READS IS OF BULK AT MOST 1048576: true; the input reads as it did. -/
def fnToldRowsUptoRow : OpenClaim := { program := "ytiiekghlhfbmmaagreat", sum := "3c48759c5bc4538010ee1864622678a096f0e7444b4e6652a594f09695bdb214", func := "loop.example/g00241/laws.FnToldRows", spec := "fnToldRows", apart := false, narrowed := true }
def FnToldRowsUptoSaid : Prop := fnToldRowsUptoRow.holds Tryz.pinned (OpenSpec.upto fnToldRowsSpec)

end Rows
end Go.Proofs.YtiiekghlhfbmmaaGreat
