/-
  No cell of these rows narrows 'for every input' (looked for: loops, veiled, ifaces, maps, wideKeys, modest, calm, conditions, laid).
  DERIVED. THE GIVEN ROWS OF THIS SEAT. 4 by the template 'for every input the law returns true; each argument reads behind the call as it read before'; 0 by the template 'total and deterministic' (their statements: YtcpligincipmhaaGreatTotals.lean).
  GIVEN WITH THE SEED: the statements are not yours to turn. If you find one false, say at which input.
  Laid BY PROGRAM, IN A SANDBOX (cutbox-rows.mjs): the forced cells as the released guide's own fill.sh prints them over the translation f87dece33a4e46cc… (all of the seat's roots in one cut). By AI agents, Wed Nov 11 2026. No macro, syntax, notation, axiom, sorry.
-/
import Derived.Test.YtcpligincipmhaaGreatChecked
import GoSem.Claim
import GoSem.ClaimJoined
import GoSem.ClaimMapViews
import Derived.JoinedTies
import Derived.KernelRfl
namespace Go.Proofs.YtcpligincipmhaaGreat
/- THE CELL 'sum', in the pinned program and in every row, IS THE sha256 OF THE DUMP (.gsa) THAT YtcpligincipmhaaGreatProg.lean LOADS. Nothing in Lean hashes anything: it is a label: what it is worth is what the hold of that sum in a sandbox is worth. -/
noncomputable def Tryz.pinned : Pinned := { name := "ytcpligincipmhaagreat", sum := "f87dece33a4e46cc8c68eb32b2eb9097013fb5b08d8f0a5b086fdd80e9f15ee3", checked := Tryz.checked }
namespace Rows
def none {H : Type} : Left H := { results := [], args := [] }

/-- 'laws.FnDropped': WHATEVER THE INPUT: true; the input reads as it did. -/
def fnDroppedSpec : ChangeSpec := { name := "fnDropped", fn := fun _ => fun
  | [d] => { results := [.lit (.bool true)], args := [d] }
  | _ => none }
def fnDroppedRow : OpenClaim := { program := "ytcpligincipmhaagreat", sum := "f87dece33a4e46cc8c68eb32b2eb9097013fb5b08d8f0a5b086fdd80e9f15ee3", func := "loop.example/g00241/laws.FnDropped", spec := "fnDropped", unfollowed := true, recurses := true, apart := false }
def FnDroppedSaid : Prop := fnDroppedRow.holds Tryz.pinned (OpenSpec.ofChange fnDroppedSpec)

/-- ITS FALSE NEIGHBOUR: 'it returns false'. Refute it at one input. -/
def fnDroppedWrong : ChangeSpec := { name := "fnDropped", fn := fun _ => fun
  | [d] => { results := [.lit (.bool false)], args := [d] }
  | _ => none }
def FnDroppedWrongFalsely : Prop := fnDroppedRow.holds Tryz.pinned (OpenSpec.ofChange fnDroppedWrong)

/-- 'laws.FnAllReached': WHATEVER THE INPUT: true; the input reads as it did. -/
def fnAllReachedSpec : ChangeSpec := { name := "fnAllReached", fn := fun _ => fun
  | [d] => { results := [.lit (.bool true)], args := [d] }
  | _ => none }
def fnAllReachedRow : OpenClaim := { program := "ytcpligincipmhaagreat", sum := "f87dece33a4e46cc8c68eb32b2eb9097013fb5b08d8f0a5b086fdd80e9f15ee3", func := "loop.example/g00241/laws.FnAllReached", spec := "fnAllReached", unfollowed := true, recurses := true, apart := false }
def FnAllReachedSaid : Prop := fnAllReachedRow.holds Tryz.pinned (OpenSpec.ofChange fnAllReachedSpec)

/-- ITS FALSE NEIGHBOUR: 'it returns false'. Refute it at one input. -/
def fnAllReachedWrong : ChangeSpec := { name := "fnAllReached", fn := fun _ => fun
  | [d] => { results := [.lit (.bool false)], args := [d] }
  | _ => none }
def FnAllReachedWrongFalsely : Prop := fnAllReachedRow.holds Tryz.pinned (OpenSpec.ofChange fnAllReachedWrong)

/-- 'laws.FnHealed': WHATEVER THE INPUT: true; the input reads as it did. -/
def fnHealedSpec : ChangeSpec := { name := "fnHealed", fn := fun _ => fun
  | [d] => { results := [.lit (.bool true)], args := [d] }
  | _ => none }
def fnHealedRow : OpenClaim := { program := "ytcpligincipmhaagreat", sum := "f87dece33a4e46cc8c68eb32b2eb9097013fb5b08d8f0a5b086fdd80e9f15ee3", func := "loop.example/g00241/laws.FnHealed", spec := "fnHealed", unfollowed := true, recurses := true, apart := false }
def FnHealedSaid : Prop := fnHealedRow.holds Tryz.pinned (OpenSpec.ofChange fnHealedSpec)

/-- ITS FALSE NEIGHBOUR: 'it returns false'. Refute it at one input. -/
def fnHealedWrong : ChangeSpec := { name := "fnHealed", fn := fun _ => fun
  | [d] => { results := [.lit (.bool false)], args := [d] }
  | _ => none }
def FnHealedWrongFalsely : Prop := fnHealedRow.holds Tryz.pinned (OpenSpec.ofChange fnHealedWrong)

/-- 'laws.FnTorn': WHATEVER THE INPUT: true; the input reads as it did. -/
def fnTornSpec : ChangeSpec := { name := "fnTorn", fn := fun _ => fun
  | [d] => { results := [.lit (.bool true)], args := [d] }
  | _ => none }
def fnTornRow : OpenClaim := { program := "ytcpligincipmhaagreat", sum := "f87dece33a4e46cc8c68eb32b2eb9097013fb5b08d8f0a5b086fdd80e9f15ee3", func := "loop.example/g00241/laws.FnTorn", spec := "fnTorn", unfollowed := true, recurses := true, apart := false }
def FnTornSaid : Prop := fnTornRow.holds Tryz.pinned (OpenSpec.ofChange fnTornSpec)

/-- ITS FALSE NEIGHBOUR: 'it returns false'. Refute it at one input. -/
def fnTornWrong : ChangeSpec := { name := "fnTorn", fn := fun _ => fun
  | [d] => { results := [.lit (.bool false)], args := [d] }
  | _ => none }
def FnTornWrongFalsely : Prop := fnTornRow.holds Tryz.pinned (OpenSpec.ofChange fnTornWrong)

/- THE SECOND FORM. 'bulk': how many values and letters a reading holds, each counted each time it is reached (what is shared counts as often as it is met; a slice's spare places count too). A statement '..UptoSaid' is the law's where the arguments, and the package variables that the reading takes, are together of bulk at most 1048576: NARROWER than '..Said'. Prove '..Said' where nothing that the law and all that it calls make is longer than what came in: it says more and counts as full. Else prove '..UptoSaid'. A law counts once. -/
mutual
def uptoBulk {H : Type} : DataW H → Nat
  | .lit (.string bytes) => bytes.length + 1
  | .lit _ => 1
  | .nil => 1
  | .ptr d => uptoBulk d + 1
  | .slice elems spare => uptoBulkAll elems + uptoBulkAll spare + 1
  | .agg parts => uptoBulkAll parts + 1
  | .iface _ d => uptoBulk d + 1
  | .map entries => uptoBulkEntries entries + 1
  | .held _ => 1
def uptoBulkAll {H : Type} : List (DataW H) → Nat
  | [] => 0
  | d :: r => uptoBulk d + uptoBulkAll r
def uptoBulkEntries {H : Type} : List (Lit × DataW H) → Nat
  | [] => 0
  | x :: r => uptoBulkEntry x + uptoBulkEntries r
def uptoBulkEntry {H : Type} : Lit × DataW H → Nat
  | (.string bytes, d) => bytes.length + uptoBulk d + 1
  | (_, d) => uptoBulk d + 1
 end
def uptoSmall : (H : Type) → List (DataW H) → Bool := fun _ ds => decide (uptoBulkAll ds ≤ 1048576)
def OpenSpec.upto (s : _root_.Go.ChangeSpec) : _root_.Go.OpenSpec := { _root_.Go.OpenSpec.ofChange s with cond := some uptoSmall }

/-- 'laws.FnDropped', WHERE WHAT IT READS IS OF BULK AT MOST 1048576: true; the input reads as it did. -/
def fnDroppedUptoRow : OpenClaim := { program := "ytcpligincipmhaagreat", sum := "f87dece33a4e46cc8c68eb32b2eb9097013fb5b08d8f0a5b086fdd80e9f15ee3", func := "loop.example/g00241/laws.FnDropped", spec := "fnDropped", unfollowed := true, recurses := true, apart := false, narrowed := true }
def FnDroppedUptoSaid : Prop := fnDroppedUptoRow.holds Tryz.pinned (OpenSpec.upto fnDroppedSpec)

/-- 'laws.FnAllReached', WHERE WHAT IT READS IS OF BULK AT MOST 1048576: true; the input reads as it did. -/
def fnAllReachedUptoRow : OpenClaim := { program := "ytcpligincipmhaagreat", sum := "f87dece33a4e46cc8c68eb32b2eb9097013fb5b08d8f0a5b086fdd80e9f15ee3", func := "loop.example/g00241/laws.FnAllReached", spec := "fnAllReached", unfollowed := true, recurses := true, apart := false, narrowed := true }
def FnAllReachedUptoSaid : Prop := fnAllReachedUptoRow.holds Tryz.pinned (OpenSpec.upto fnAllReachedSpec)

/-- 'laws.FnHealed', WHERE WHAT IT READS IS OF BULK AT MOST 1048576: true; the input reads as it did. -/
def fnHealedUptoRow : OpenClaim := { program := "ytcpligincipmhaagreat", sum := "f87dece33a4e46cc8c68eb32b2eb9097013fb5b08d8f0a5b086fdd80e9f15ee3", func := "loop.example/g00241/laws.FnHealed", spec := "fnHealed", unfollowed := true, recurses := true, apart := false, narrowed := true }
def FnHealedUptoSaid : Prop := fnHealedUptoRow.holds Tryz.pinned (OpenSpec.upto fnHealedSpec)

/-- 'laws.FnTorn', WHERE WHAT IT READS IS OF BULK AT MOST 1048576: true; the input reads as it did. -/
def fnTornUptoRow : OpenClaim := { program := "ytcpligincipmhaagreat", sum := "f87dece33a4e46cc8c68eb32b2eb9097013fb5b08d8f0a5b086fdd80e9f15ee3", func := "loop.example/g00241/laws.FnTorn", spec := "fnTorn", unfollowed := true, recurses := true, apart := false, narrowed := true }
def FnTornUptoSaid : Prop := fnTornUptoRow.holds Tryz.pinned (OpenSpec.upto fnTornSpec)

end Rows
end Go.Proofs.YtcpligincipmhaaGreat
