import Derived.Test.YtehkignjdbkeiaaVs
import Derived.Test.YtehkignjdbkeiaaProg
import Derived.KernelRfl
namespace Go.Proofs.Ytehkignjdbkeiaa.Vf
open Go Go.Proofs
set_option linter.unusedVariables false
def ti : TypeId → Option TI
 | 2 => some ⟨(.i .i64), false, 8, []⟩
 | 3 => some ⟨(.i .i64), false, 8, []⟩
 | 4 => some ⟨.b, false, 1, []⟩
 | 5 => some ⟨(.i .u8), false, 1, []⟩
 | 6 => some ⟨(.i .u8), false, 1, []⟩
 | 7 => some ⟨(.pr (.i .i64) (.pr (.i .i64) (.pr .b (.i .u8)))), true, 24, [(0, 1, false), (1, 1, false), (2, 1, false), (3, 1, false)]⟩
 | 8 => some ⟨(.pr (.i .i64) (.pr (.i .i64) (.pr .b (.i .u8)))), true, 24, [(0, 1, false), (1, 1, false), (2, 1, false), (3, 1, false)]⟩
 | 9 => some ⟨.s, false, 16, []⟩
 | 10 => some ⟨.s, false, 16, []⟩
 | 11 => some ⟨.s, false, 16, []⟩
 | 12 => some ⟨(.i .u64), false, 8, []⟩
 | 13 => some ⟨(.pr .s (.i .u64)), true, 24, [(0, 1, false), (1, 1, false)]⟩
 | 14 => some ⟨(.pr .s (.i .u64)), true, 24, [(0, 1, false), (1, 1, false)]⟩
 | 21 => some ⟨(.i .i32), false, 4, []⟩
 | 22 => some ⟨(.sl 5 (.i .u8)), false, 24, []⟩
 | 24 => some ⟨(.sl 28 (.pr .s (.pr (.pr (.i .i64) (.pr (.i .i64) (.i .i64))) (.pr .b (.i .i64))))), false, 24, []⟩
 | 25 => some ⟨(.pr (.i .i64) (.pr (.i .i64) (.i .i64))), true, 24, [(0, 1, false), (1, 1, false), (2, 1, false)]⟩
 | 26 => some ⟨(.pr (.i .i64) (.pr (.i .i64) (.i .i64))), true, 24, [(0, 1, false), (1, 1, false), (2, 1, false)]⟩
 | 27 => some ⟨(.pr .s (.pr (.pr (.i .i64) (.pr (.i .i64) (.i .i64))) (.pr .b (.i .i64)))), true, 56, [(0, 1, false), (1, 3, true), (4, 1, false), (5, 1, false)]⟩
 | 28 => some ⟨(.pr .s (.pr (.pr (.i .i64) (.pr (.i .i64) (.i .i64))) (.pr .b (.i .i64)))), true, 56, [(0, 1, false), (1, 3, true), (4, 1, false), (5, 1, false)]⟩
 | 38 => some ⟨(.sl 158 (.pr .s (.sl 5 (.i .u8)))), false, 24, []⟩
 | 39 => some ⟨(.pr (.sl 158 (.pr .s (.sl 5 (.i .u8)))) (.sl 158 (.pr .s (.sl 5 (.i .u8))))), true, 48, [(0, 1, false), (1, 1, false)]⟩
 | 40 => some ⟨(.pr (.sl 158 (.pr .s (.sl 5 (.i .u8)))) (.sl 158 (.pr .s (.sl 5 (.i .u8))))), true, 48, [(0, 1, false), (1, 1, false)]⟩
 | 42 => some ⟨(.sl 73 (.pr .s (.sl 5 (.i .u8)))), false, 24, []⟩
 | 43 => some ⟨(.pr (.sl 73 (.pr .s (.sl 5 (.i .u8)))) (.sl 73 (.pr .s (.sl 5 (.i .u8))))), true, 48, [(0, 1, false), (1, 1, false)]⟩
 | 44 => some ⟨(.pr (.sl 73 (.pr .s (.sl 5 (.i .u8)))) (.sl 73 (.pr .s (.sl 5 (.i .u8))))), true, 48, [(0, 1, false), (1, 1, false)]⟩
 | 62 => some ⟨(.sl 4 .b), false, 24, []⟩
 | 72 => some ⟨(.pr .s (.sl 5 (.i .u8))), true, 40, [(0, 1, false), (1, 1, false)]⟩
 | 73 => some ⟨(.pr .s (.sl 5 (.i .u8))), true, 40, [(0, 1, false), (1, 1, false)]⟩
 | 74 => some ⟨(.pr (.i .i64) (.pr (.pr (.sl 73 (.pr .s (.sl 5 (.i .u8)))) (.sl 73 (.pr .s (.sl 5 (.i .u8))))) (.pr (.sl 28 (.pr .s (.pr (.pr (.i .i64) (.pr (.i .i64) (.i .i64))) (.pr .b (.i .i64))))) (.sl 28 (.pr .s (.pr (.pr (.i .i64) (.pr (.i .i64) (.i .i64))) (.pr .b (.i .i64)))))))), true, 104, [(0, 1, false), (1, 2, true), (3, 1, false), (4, 1, false)]⟩
 | 75 => some ⟨(.pr (.i .i64) (.pr (.pr (.sl 73 (.pr .s (.sl 5 (.i .u8)))) (.sl 73 (.pr .s (.sl 5 (.i .u8))))) (.pr (.sl 28 (.pr .s (.pr (.pr (.i .i64) (.pr (.i .i64) (.i .i64))) (.pr .b (.i .i64))))) (.sl 28 (.pr .s (.pr (.pr (.i .i64) (.pr (.i .i64) (.i .i64))) (.pr .b (.i .i64)))))))), true, 104, [(0, 1, false), (1, 2, true), (3, 1, false), (4, 1, false)]⟩
 | 81 => some ⟨(.pr (.pr (.i .i64) (.pr (.i .i64) (.i .i64))) (.pr .b (.sl 5 (.i .u8)))), true, 56, [(0, 3, true), (3, 1, false), (4, 1, false)]⟩
 | 82 => some ⟨(.pr (.pr (.i .i64) (.pr (.i .i64) (.i .i64))) (.pr .b (.sl 5 (.i .u8)))), true, 56, [(0, 3, true), (3, 1, false), (4, 1, false)]⟩
 | 90 => some ⟨(.pr (.i .i64) (.pr (.i .i64) (.i .i64))), true, 24, [(0, 1, false), (1, 1, false), (2, 1, false)]⟩
 | 91 => some ⟨(.pr (.pr (.i .i64) (.pr (.i .i64) (.i .i64))) (.pr .b (.sl 5 (.i .u8)))), true, 56, [(0, 3, true), (3, 1, false), (4, 1, false)]⟩
 | 92 => some ⟨(.pr (.pr (.i .i64) (.pr (.i .i64) (.i .i64))) (.pr .b (.sl 5 (.i .u8)))), true, 56, [(0, 3, true), (3, 1, false), (4, 1, false)]⟩
 | 114 => some ⟨(.sl 9 .s), false, 24, []⟩
 | 126 => some ⟨(.sl 3 (.i .i64)), false, 24, []⟩
 | 128 => some ⟨(.pr (.sl 5 (.i .u8)) (.pr (.i .i64) .b)), true, 40, [(0, 1, false), (1, 1, false), (2, 1, false)]⟩
 | 129 => some ⟨(.pr (.sl 5 (.i .u8)) (.pr (.i .i64) .b)), true, 40, [(0, 1, false), (1, 1, false), (2, 1, false)]⟩
 | 153 => some ⟨(.pr (.sl 5 (.i .u8)) (.pr (.i .i64) (.i .i64))), true, 40, [(0, 1, false), (1, 1, false), (2, 1, false)]⟩
 | 154 => some ⟨(.pr (.sl 5 (.i .u8)) (.pr (.i .i64) (.i .i64))), true, 40, [(0, 1, false), (1, 1, false), (2, 1, false)]⟩
 | 158 => some ⟨(.pr .s (.sl 5 (.i .u8))), true, 40, [(0, 1, false), (1, 1, false)]⟩
 | 166 => some ⟨(.i .u64), false, 8, []⟩
 | 175 => some ⟨(.i .u32), false, 4, []⟩
 | 182 => some ⟨(.i .u8), false, 1, []⟩
 | 183 => some ⟨(.i .u8), false, 1, []⟩
 | 186 => some ⟨(.i .i32), false, 4, []⟩
 | 187 => some ⟨(.i .i32), false, 4, []⟩
 | _ => none
def eqsL : List Nat := [25, 26, 27, 28, 90]
def eqs : TypeId → Bool := fun T => eqsL.contains T
@[reducible] def laws_big.e (k : Nat) : Ent := ⟨1, [(.val false (.sl 5 (.i .u8)))], [(.one, .b)], fun x => laws_big x⟩
def laws_big.c (k : Nat) : FuncId → Option Ent
 | _ => none
def laws_big.l (k : Nat) : Nat → Option Lp
 | _ => none
def laws_big.n (k : Nat) : En := ⟨6, ti, eqs, fun t => [0, 1].contains t, fun t => [2].contains t, laws_big.c k, laws_big.l k, 1, fun _ => none, fun t => [].contains t, fun _ => [], fun t => [].contains t, fun _ => false⟩
theorem laws_big.ok (k : Nat) (x : Den ((laws_big.e 0).ps.map Par.ty)) : evBody (laws_big.n k) (Try.f15.body.getD .skip) Try.f15.results.toList (laws_big.e k) x = (laws_big.e k).run x := by kernel_rfl
@[reducible] def spec_l1New.e (k : Nat) : Ent := ⟨1, [(.val false (.sl 5 (.i .u8)))], [(.ptr, (.pr (.sl 5 (.i .u8)) (.pr (.i .i64) (.i .i64))))], fun x => spec_l1New k x⟩
def spec_l1New.c (k : Nat) : FuncId → Option Ent
 | _ => none
@[reducible] def spec_l1New_l3.p (k : Nat) : Lp := ⟨⟨[], [(0, (.sl 5 (.i .u8))), (3, (.i .i64)), (4, (.i .i64))]⟩, [((.exit 0), ⟨[], [(0, (.sl 5 (.i .u8))), (3, (.i .i64))]⟩)], fun x => spec_l1New_l3 k x.1 x.2.1 x.2.2⟩
def spec_l1New.l (k : Nat) : Nat → Option Lp
 | 3 => some (spec_l1New_l3.p k)
 | _ => none
def spec_l1New.n (k : Nat) : En := ⟨32, ti, eqs, fun t => [0, 1, 3, 4].contains t, fun t => [2].contains t, spec_l1New.c k, spec_l1New.l k, 1, fun _ => none, fun t => [].contains t, fun _ => [], fun t => [].contains t, fun _ => false⟩
theorem spec_l1New_l3.ok (k : Nat) (x : (spec_l1New_l3.p 0).ins.den) : evLoop (spec_l1New.n k) (spec_l1New_l3.p k) (loopAt 3 (Try.f68.body.getD .skip)) x = (spec_l1New_l3.p (k + 1)).run x := by kernel_rfl
theorem spec_l1New.ok (k : Nat) (x : Den ((spec_l1New.e 0).ps.map Par.ty)) : evBody (spec_l1New.n k) (Try.f68.body.getD .skip) Try.f68.results.toList (spec_l1New.e k) x = (spec_l1New.e k).run x := by kernel_rfl
@[reducible] def spec_RowOf.e (k : Nat) : Ent := ⟨2, [(.val false .s), (.val true (.pr (.pr (.i .i64) (.pr (.i .i64) (.i .i64))) (.pr .b (.sl 5 (.i .u8)))))], [(.agg, (.pr .s (.pr (.pr (.i .i64) (.pr (.i .i64) (.i .i64))) (.pr .b (.i .i64)))))], fun x => spec_RowOf x.1 x.2⟩
def spec_RowOf.c (k : Nat) : FuncId → Option Ent
 | _ => none
def spec_RowOf.l (k : Nat) : Nat → Option Lp
 | _ => none
def spec_RowOf.n (k : Nat) : En := ⟨14, ti, eqs, fun t => [0, 1, 2, 3].contains t, fun t => [].contains t, spec_RowOf.c k, spec_RowOf.l k, 2, fun _ => none, fun t => [].contains t, fun _ => [], fun t => [].contains t, fun _ => false⟩
theorem spec_RowOf.ok (k : Nat) (x : Den ((spec_RowOf.e 0).ps.map Par.ty)) : evBody (spec_RowOf.n k) (Try.f135.body.getD .skip) Try.f135.results.toList (spec_RowOf.e k) x = (spec_RowOf.e k).run x := by kernel_rfl
@[reducible] def spec_l1Byte.e (k : Nat) : Ent := ⟨1, [(.ptr (.pr (.sl 5 (.i .u8)) (.pr (.i .i64) (.i .i64))) (.pr (.sl 5 (.i .u8)) (.pr (.i .i64) (.i .i64))))], [(.one, (.i .i64))], fun x => spec_l1Byte x⟩
def spec_l1Byte.c (k : Nat) : FuncId → Option Ent
 | _ => none
def spec_l1Byte.l (k : Nat) : Nat → Option Lp
 | _ => none
def spec_l1Byte.n (k : Nat) : En := ⟨58, ti, eqs, fun t => [0, 1, 3].contains t, fun t => [2].contains t, spec_l1Byte.c k, spec_l1Byte.l k, 1, fun _ => none, fun t => [].contains t, fun _ => [], fun t => [].contains t, fun _ => false⟩
theorem spec_l1Byte.ok (k : Nat) (x : Den ((spec_l1Byte.e 0).ps.map Par.ty)) : evBody (spec_l1Byte.n k) (Try.f155.body.getD .skip) Try.f155.results.toList (spec_l1Byte.e k) x = (spec_l1Byte.e k).run x := by kernel_rfl
@[reducible] def spec_l1Below.e (k : Nat) : Ent := ⟨2, [(.ptr (.pr (.sl 5 (.i .u8)) (.pr (.i .i64) (.i .i64))) (.pr (.sl 5 (.i .u8)) (.pr (.i .i64) (.i .i64)))), (.val false (.i .i64))], [(.one, (.i .i64))], fun x => spec_l1Below x.1 x.2⟩
def spec_l1Below.c (k : Nat) : FuncId → Option Ent
 | 155 => some (spec_l1Byte.e k)
 | _ => none
def spec_l1Below.l (k : Nat) : Nat → Option Lp
 | _ => none
def spec_l1Below.n (k : Nat) : En := ⟨31, ti, eqs, fun t => [0, 1, 2, 3, 5, 6, 7].contains t, fun t => [4].contains t, spec_l1Below.c k, spec_l1Below.l k, 2, fun _ => none, fun t => [].contains t, fun _ => [], fun t => [].contains t, fun _ => false⟩
theorem spec_l1Below.ok (k : Nat) (x : Den ((spec_l1Below.e 0).ps.map Par.ty)) : evBody (spec_l1Below.n k) (Try.f105.body.getD .skip) Try.f105.results.toList (spec_l1Below.e k) x = (spec_l1Below.e k).run x := by kernel_rfl
@[reducible] def spec_l1Str.e (k : Nat) : Ent := ⟨2, [(.ptr (.pr (.sl 5 (.i .u8)) (.pr (.i .i64) (.i .i64))) (.pr (.sl 5 (.i .u8)) (.pr (.i .i64) (.i .i64)))), (.val false (.sl 9 .s))], [(.one, .s)], fun x => spec_l1Str x.1 x.2⟩
def spec_l1Str.c (k : Nat) : FuncId → Option Ent
 | 105 => some (spec_l1Below.e k)
 | _ => none
def spec_l1Str.l (k : Nat) : Nat → Option Lp
 | _ => none
def spec_l1Str.n (k : Nat) : En := ⟨12, ti, eqs, fun t => [0, 1, 2, 3].contains t, fun t => [4].contains t, spec_l1Str.c k, spec_l1Str.l k, 2, fun _ => none, fun t => [].contains t, fun _ => [], fun t => [].contains t, fun _ => false⟩
theorem spec_l1Str.ok (k : Nat) (x : Den ((spec_l1Str.e 0).ps.map Par.ty)) : evBody (spec_l1Str.n k) (Try.f149.body.getD .skip) Try.f149.results.toList (spec_l1Str.e k) x = (spec_l1Str.e k).run x := by kernel_rfl
@[reducible] def spec_l3Name.e (k : Nat) : Ent := ⟨1, [(.ptr (.pr (.sl 5 (.i .u8)) (.pr (.i .i64) (.i .i64))) (.pr (.sl 5 (.i .u8)) (.pr (.i .i64) (.i .i64))))], [(.one, .s)], fun x => spec_l3Name x⟩
def spec_l3Name.c (k : Nat) : FuncId → Option Ent
 | 149 => some (spec_l1Str.e k)
 | _ => none
def spec_l3Name.l (k : Nat) : Nat → Option Lp
 | _ => none
def spec_l3Name.n (k : Nat) : En := ⟨6, ti, eqs, fun t => [0, 1].contains t, fun t => [2].contains t, spec_l3Name.c k, spec_l3Name.l k, 1, fun _ => none, fun t => [].contains t, fun _ => [], fun t => [].contains t, fun _ => false⟩
theorem spec_l3Name.ok (k : Nat) (x : Den ((spec_l3Name.e 0).ps.map Par.ty)) : evBody (spec_l3Name.n k) (Try.f136.body.getD .skip) Try.f136.results.toList (spec_l3Name.e k) x = (spec_l3Name.e k).run x := by kernel_rfl
@[reducible] def spec_l1Int.e (k : Nat) : Ent := ⟨2, [(.ptr (.pr (.sl 5 (.i .u8)) (.pr (.i .i64) (.i .i64))) (.pr (.sl 5 (.i .u8)) (.pr (.i .i64) (.i .i64)))), (.val false (.sl 3 (.i .i64)))], [(.one, (.i .i64))], fun x => spec_l1Int x.1 x.2⟩
def spec_l1Int.c (k : Nat) : FuncId → Option Ent
 | 105 => some (spec_l1Below.e k)
 | _ => none
def spec_l1Int.l (k : Nat) : Nat → Option Lp
 | _ => none
def spec_l1Int.n (k : Nat) : En := ⟨12, ti, eqs, fun t => [0, 1, 2, 3].contains t, fun t => [4].contains t, spec_l1Int.c k, spec_l1Int.l k, 2, fun _ => none, fun t => [].contains t, fun _ => [], fun t => [].contains t, fun _ => false⟩
theorem spec_l1Int.ok (k : Nat) (x : Den ((spec_l1Int.e 0).ps.map Par.ty)) : evBody (spec_l1Int.n k) (Try.f106.body.getD .skip) Try.f106.results.toList (spec_l1Int.e k) x = (spec_l1Int.e k).run x := by kernel_rfl
@[reducible] def spec_l1Bytes.e (k : Nat) : Ent := ⟨2, [(.ptr (.pr (.sl 5 (.i .u8)) (.pr (.i .i64) (.i .i64))) (.pr (.sl 5 (.i .u8)) (.pr (.i .i64) (.i .i64)))), (.val false (.i .i64))], [(.one, (.ow 5 (.i .u8)))], fun x => spec_l1Bytes k x.1 x.2⟩
def spec_l1Bytes.c (k : Nat) : FuncId → Option Ent
 | 155 => some (spec_l1Byte.e k)
 | _ => none
@[reducible] def spec_l1Bytes_l3.p (k : Nat) : Lp := ⟨⟨[(0, (.bp 0 0 0)), (1999, (.hd 3))], [(1, (.i .i64)), (5, (.ow 5 (.i .u8))), (6, (.i .i64)), (1000, (.sl 5 (.i .u8))), (1001, (.i .i64)), (1002, (.i .i64))]⟩, [((.exit 0), ⟨[(1999, (.hd 3))], [(5, (.ow 5 (.i .u8))), (1000, (.sl 5 (.i .u8))), (1001, (.i .i64)), (1002, (.i .i64))]⟩)], fun x => spec_l1Bytes_l3 k x.1 x.2.1 x.2.2.1 x.2.2.2.1 x.2.2.2.2.1 x.2.2.2.2.2⟩
def spec_l1Bytes.l (k : Nat) : Nat → Option Lp
 | 3 => some (spec_l1Bytes_l3.p k)
 | _ => none
def spec_l1Bytes.n (k : Nat) : En := ⟨20, ti, eqs, fun t => [0, 1, 2, 3, 5, 6].contains t, fun t => [4].contains t, spec_l1Bytes.c k, spec_l1Bytes.l k, 2, fun _ => none, fun t => [].contains t, fun _ => [], fun t => [].contains t, fun _ => false⟩
theorem spec_l1Bytes_l3.ok (k : Nat) (x : (spec_l1Bytes_l3.p 0).ins.den) : evLoop (spec_l1Bytes.n k) (spec_l1Bytes_l3.p k) (loopAt 3 (Try.f158.body.getD .skip)) x = (spec_l1Bytes_l3.p (k + 1)).run x := by kernel_rfl
theorem spec_l1Bytes.ok (k : Nat) (x : Den ((spec_l1Bytes.e 0).ps.map Par.ty)) : evBody (spec_l1Bytes.n k) (Try.f158.body.getD .skip) Try.f158.results.toList (spec_l1Bytes.e k) x = (spec_l1Bytes.e k).run x := by kernel_rfl
@[reducible] def spec_l1Some.e (k : Nat) : Ent := ⟨1, [(.ptr (.pr (.sl 5 (.i .u8)) (.pr (.i .i64) (.i .i64))) (.pr (.sl 5 (.i .u8)) (.pr (.i .i64) (.i .i64))))], [(.one, (.ow 5 (.i .u8)))], fun x => spec_l1Some k x⟩
def spec_l1Some.c (k : Nat) : FuncId → Option Ent
 | 106 => some (spec_l1Int.e k)
 | 158 => some (spec_l1Bytes.e k)
 | _ => none
def spec_l1Some.l (k : Nat) : Nat → Option Lp
 | _ => none
def spec_l1Some.n (k : Nat) : En := ⟨8, ti, eqs, fun t => [0, 1].contains t, fun t => [2].contains t, spec_l1Some.c k, spec_l1Some.l k, 1, fun _ => none, fun t => [].contains t, fun _ => [], fun t => [].contains t, fun _ => false⟩
theorem spec_l1Some.ok (k : Nat) (x : Den ((spec_l1Some.e 0).ps.map Par.ty)) : evBody (spec_l1Some.n k) (Try.f113.body.getD .skip) Try.f113.results.toList (spec_l1Some.e k) x = (spec_l1Some.e k).run x := by kernel_rfl
@[reducible] def spec_l1Once.e (k : Nat) : Ent := ⟨2, [(.ptr (.pr (.sl 5 (.i .u8)) (.pr (.i .i64) (.i .i64))) (.pr (.sl 5 (.i .u8)) (.pr (.i .i64) (.i .i64)))), (.val false (.i .i64))], [(.one, .b)], fun x => spec_l1Once x.1 x.2⟩
def spec_l1Once.c (k : Nat) : FuncId → Option Ent
 | 105 => some (spec_l1Below.e k)
 | _ => none
def spec_l1Once.l (k : Nat) : Nat → Option Lp
 | _ => none
def spec_l1Once.n (k : Nat) : En := ⟨9, ti, eqs, fun t => [0, 1, 2, 3].contains t, fun t => [4].contains t, spec_l1Once.c k, spec_l1Once.l k, 2, fun _ => none, fun t => [].contains t, fun _ => [], fun t => [].contains t, fun _ => false⟩
theorem spec_l1Once.ok (k : Nat) (x : Den ((spec_l1Once.e 0).ps.map Par.ty)) : evBody (spec_l1Once.n k) (Try.f114.body.getD .skip) Try.f114.results.toList (spec_l1Once.e k) x = (spec_l1Once.e k).run x := by kernel_rfl
@[reducible] def spec_l2Draw.e (k : Nat) : Ent := ⟨1, [(.ptr (.pr (.sl 5 (.i .u8)) (.pr (.i .i64) (.i .i64))) (.pr (.sl 5 (.i .u8)) (.pr (.i .i64) (.i .i64))))], [(.agg, (.pr (.i .i64) (.pr (.i .i64) (.i .i64))))], fun x => spec_l2Draw x⟩
def spec_l2Draw.c (k : Nat) : FuncId → Option Ent
 | 105 => some (spec_l1Below.e k)
 | 106 => some (spec_l1Int.e k)
 | _ => none
def spec_l2Draw.l (k : Nat) : Nat → Option Lp
 | _ => none
def spec_l2Draw.n (k : Nat) : En := ⟨11, ti, eqs, fun t => [0, 1].contains t, fun t => [].contains t, spec_l2Draw.c k, spec_l2Draw.l k, 1, fun _ => none, fun t => [].contains t, fun _ => [], fun t => [].contains t, fun _ => false⟩
theorem spec_l2Draw.ok (k : Nat) (x : Den ((spec_l2Draw.e 0).ps.map Par.ty)) : evBody (spec_l2Draw.n k) (Try.f167.body.getD .skip) Try.f167.results.toList (spec_l2Draw.e k) x = (spec_l2Draw.e k).run x := by kernel_rfl
@[reducible] def spec_l8Draw.e (k : Nat) : Ent := ⟨1, [(.ptr (.pr (.sl 5 (.i .u8)) (.pr (.i .i64) (.i .i64))) (.pr (.sl 5 (.i .u8)) (.pr (.i .i64) (.i .i64))))], [(.agg, (.pr (.pr (.i .i64) (.pr (.i .i64) (.i .i64))) (.pr .b (.ow 5 (.i .u8)))))], fun x => spec_l8Draw k x⟩
def spec_l8Draw.c (k : Nat) : FuncId → Option Ent
 | 113 => some (spec_l1Some.e k)
 | 114 => some (spec_l1Once.e k)
 | 167 => some (spec_l2Draw.e k)
 | _ => none
def spec_l8Draw.l (k : Nat) : Nat → Option Lp
 | _ => none
def spec_l8Draw.n (k : Nat) : En := ⟨16, ti, eqs, fun t => [0, 1, 3].contains t, fun t => [].contains t, spec_l8Draw.c k, spec_l8Draw.l k, 1, fun _ => none, fun t => [15].contains t, fun _ => [], fun t => [].contains t, fun _ => false⟩
theorem spec_l8Draw.ok (k : Nat) (x : Den ((spec_l8Draw.e 0).ps.map Par.ty)) : evBody (spec_l8Draw.n k) (Try.f137.body.getD .skip) Try.f137.results.toList (spec_l8Draw.e k) x = (spec_l8Draw.e k).run x := by kernel_rfl
@[reducible] def spec_l11One.e (k : Nat) : Ent := ⟨1, [(.ptr (.pr (.sl 5 (.i .u8)) (.pr (.i .i64) (.i .i64))) (.pr (.sl 5 (.i .u8)) (.pr (.i .i64) (.i .i64))))], [(.agg, (.pr .s (.pr (.pr (.i .i64) (.pr (.i .i64) (.i .i64))) (.pr .b (.i .i64)))))], fun x => spec_l11One k x⟩
def spec_l11One.c (k : Nat) : FuncId → Option Ent
 | 135 => some (spec_RowOf.e k)
 | 136 => some (spec_l3Name.e k)
 | 137 => some (spec_l8Draw.e k)
 | _ => none
def spec_l11One.l (k : Nat) : Nat → Option Lp
 | _ => none
def spec_l11One.n (k : Nat) : En := ⟨8, ti, eqs, fun t => [0, 1].contains t, fun t => [].contains t, spec_l11One.c k, spec_l11One.l k, 1, fun _ => none, fun t => [].contains t, fun _ => [], fun t => [].contains t, fun _ => false⟩
theorem spec_l11One.ok (k : Nat) (x : Den ((spec_l11One.e 0).ps.map Par.ty)) : evBody (spec_l11One.n k) (Try.f70.body.getD .skip) Try.f70.results.toList (spec_l11One.e k) x = (spec_l11One.e k).run x := by kernel_rfl
@[reducible] def spec_LessStamp.e (k : Nat) : Ent := ⟨2, [(.val true (.pr (.i .i64) (.pr (.i .i64) (.i .i64)))), (.val true (.pr (.i .i64) (.pr (.i .i64) (.i .i64))))], [(.one, .b)], fun x => spec_LessStamp x.1 x.2⟩
def spec_LessStamp.c (k : Nat) : FuncId → Option Ent
 | _ => none
def spec_LessStamp.l (k : Nat) : Nat → Option Lp
 | _ => none
def spec_LessStamp.n (k : Nat) : En := ⟨32, ti, eqs, fun t => [0, 1, 2, 3].contains t, fun t => [4].contains t, spec_LessStamp.c k, spec_LessStamp.l k, 2, fun _ => none, fun t => [].contains t, fun _ => [], fun t => [].contains t, fun _ => false⟩
theorem spec_LessStamp.ok (k : Nat) (x : Den ((spec_LessStamp.e 0).ps.map Par.ty)) : evBody (spec_LessStamp.n k) (Try.f138.body.getD .skip) Try.f138.results.toList (spec_LessStamp.e k) x = (spec_LessStamp.e k).run x := by kernel_rfl
@[reducible] def spec_l11Less.e (k : Nat) : Ent := ⟨2, [(.val true (.pr .s (.pr (.pr (.i .i64) (.pr (.i .i64) (.i .i64))) (.pr .b (.i .i64))))), (.val true (.pr .s (.pr (.pr (.i .i64) (.pr (.i .i64) (.i .i64))) (.pr .b (.i .i64)))))], [(.one, .b)], fun x => spec_l11Less x.1 x.2⟩
def spec_l11Less.c (k : Nat) : FuncId → Option Ent
 | 138 => some (spec_LessStamp.e k)
 | _ => none
def spec_l11Less.l (k : Nat) : Nat → Option Lp
 | _ => none
def spec_l11Less.n (k : Nat) : En := ⟨29, ti, eqs, fun t => [0, 1, 2, 3].contains t, fun t => [4].contains t, spec_l11Less.c k, spec_l11Less.l k, 2, fun _ => none, fun t => [].contains t, fun _ => [], fun t => [].contains t, fun _ => false⟩
theorem spec_l11Less.ok (k : Nat) (x : Den ((spec_l11Less.e 0).ps.map Par.ty)) : evBody (spec_l11Less.n k) (Try.f73.body.getD .skip) Try.f73.results.toList (spec_l11Less.e k) x = (spec_l11Less.e k).run x := by kernel_rfl
@[reducible] def spec_MergeRow.e (k : Nat) : Ent := ⟨2, [(.val false (.sl 28 (.pr .s (.pr (.pr (.i .i64) (.pr (.i .i64) (.i .i64))) (.pr .b (.i .i64)))))), (.val true (.pr .s (.pr (.pr (.i .i64) (.pr (.i .i64) (.i .i64))) (.pr .b (.i .i64)))))], [(.one, (.ow 28 (.pr .s (.pr (.pr (.i .i64) (.pr (.i .i64) (.i .i64))) (.pr .b (.i .i64))))))], fun x => spec_MergeRow k x.1 x.2⟩
def spec_MergeRow.c (k : Nat) : FuncId → Option Ent
 | 73 => some (spec_l11Less.e k)
 | _ => none
@[reducible] def spec_MergeRow_l11.p (k : Nat) : Lp := ⟨⟨[(3, (.bp 3 0 0)), (4999, (.hd 6))], [(5, (.ow 28 (.pr .s (.pr (.pr (.i .i64) (.pr (.i .i64) (.i .i64))) (.pr .b (.i .i64)))))), (7, (.i .i64)), (4000, .s), (4001, (.i .i64)), (4002, (.i .i64)), (4003, (.i .i64)), (4004, .b), (4005, (.i .i64))]⟩, [((.exit 2), ⟨[(3, (.bp 3 0 0)), (4999, (.hd 6))], [(5, (.ow 28 (.pr .s (.pr (.pr (.i .i64) (.pr (.i .i64) (.i .i64))) (.pr .b (.i .i64)))))), (7, (.i .i64)), (4000, .s), (4001, (.i .i64)), (4002, (.i .i64)), (4003, (.i .i64)), (4004, .b), (4005, (.i .i64))]⟩)], fun x => spec_MergeRow_l11 k x.1 x.2.1 x.2.2.1 x.2.2.2.1 x.2.2.2.2.1 x.2.2.2.2.2.1 x.2.2.2.2.2.2.1 x.2.2.2.2.2.2.2⟩
@[reducible] def spec_MergeRow_l3.p (k : Nat) : Lp := ⟨⟨[(3, (.bp 3 0 0)), (4999, (.hd 6))], [(5, (.ow 28 (.pr .s (.pr (.pr (.i .i64) (.pr (.i .i64) (.i .i64))) (.pr .b (.i .i64)))))), (6, (.i .i64)), (4000, .s), (4001, (.i .i64)), (4002, (.i .i64)), (4003, (.i .i64)), (4004, .b), (4005, (.i .i64))]⟩, [(.ret, ⟨[], [(4, (.ow 28 (.pr .s (.pr (.pr (.i .i64) (.pr (.i .i64) (.i .i64))) (.pr .b (.i .i64))))))]⟩), ((.exit 0), ⟨[(3, (.bp 3 0 0)), (4999, (.hd 6))], [(5, (.ow 28 (.pr .s (.pr (.pr (.i .i64) (.pr (.i .i64) (.i .i64))) (.pr .b (.i .i64)))))), (4000, .s), (4001, (.i .i64)), (4002, (.i .i64)), (4003, (.i .i64)), (4004, .b), (4005, (.i .i64))]⟩)], fun x => spec_MergeRow_l3 k x.1 x.2.1 x.2.2.1 x.2.2.2.1 x.2.2.2.2.1 x.2.2.2.2.2.1 x.2.2.2.2.2.2.1 x.2.2.2.2.2.2.2⟩
def spec_MergeRow.l (k : Nat) : Nat → Option Lp
 | 11 => some (spec_MergeRow_l11.p k)
 | 3 => some (spec_MergeRow_l3.p k)
 | _ => none
def spec_MergeRow.n (k : Nat) : En := ⟨70, ti, eqs, fun t => [0, 1, 2, 3, 5, 6, 7].contains t, fun t => [4].contains t, spec_MergeRow.c k, spec_MergeRow.l k, 2, fun _ => none, fun t => [].contains t, fun _ => [], fun t => [].contains t, fun _ => false⟩
theorem spec_MergeRow_l11.ok (k : Nat) (x : (spec_MergeRow_l11.p 0).ins.den) : evLoop (spec_MergeRow.n k) (spec_MergeRow_l11.p k) (loopAt 11 (Try.f19.body.getD .skip)) x = (spec_MergeRow_l11.p (k + 1)).run x := by kernel_rfl
theorem spec_MergeRow_l3.ok (k : Nat) (x : (spec_MergeRow_l3.p 0).ins.den) : evLoop (spec_MergeRow.n k) (spec_MergeRow_l3.p k) (loopAt 3 (Try.f19.body.getD .skip)) x = (spec_MergeRow_l3.p (k + 1)).run x := by kernel_rfl
theorem spec_MergeRow.ok (k : Nat) (x : Den ((spec_MergeRow.e 0).ps.map Par.ty)) : evBody (spec_MergeRow.n k) (Try.f19.body.getD .skip) Try.f19.results.toList (spec_MergeRow.e k) x = (spec_MergeRow.e k).run x := by kernel_rfl
@[reducible] def spec_l11Draw.e (k : Nat) : Ent := ⟨1, [(.ptr (.pr (.sl 5 (.i .u8)) (.pr (.i .i64) (.i .i64))) (.pr (.sl 5 (.i .u8)) (.pr (.i .i64) (.i .i64))))], [(.one, (.ow 28 (.pr .s (.pr (.pr (.i .i64) (.pr (.i .i64) (.i .i64))) (.pr .b (.i .i64))))))], fun x => spec_l11Draw k x⟩
def spec_l11Draw.c (k : Nat) : FuncId → Option Ent
 | 19 => some (spec_MergeRow.e k)
 | 70 => some (spec_l11One.e k)
 | 105 => some (spec_l1Below.e k)
 | _ => none
@[reducible] def spec_l11Draw_l3.p (k : Nat) : Lp := ⟨⟨[(0, (.bp 0 0 0)), (1999, (.hd 3))], [(3, (.ow 28 (.pr .s (.pr (.pr (.i .i64) (.pr (.i .i64) (.i .i64))) (.pr .b (.i .i64)))))), (4, (.i .i64)), (1000, (.sl 5 (.i .u8))), (1001, (.i .i64)), (1002, (.i .i64))]⟩, [((.exit 0), ⟨[(1999, (.hd 3))], [(3, (.ow 28 (.pr .s (.pr (.pr (.i .i64) (.pr (.i .i64) (.i .i64))) (.pr .b (.i .i64)))))), (1000, (.sl 5 (.i .u8))), (1001, (.i .i64)), (1002, (.i .i64))]⟩)], fun x => spec_l11Draw_l3 k x.1 x.2.1 x.2.2.1 x.2.2.2.1 x.2.2.2.2⟩
def spec_l11Draw.l (k : Nat) : Nat → Option Lp
 | 3 => some (spec_l11Draw_l3.p k)
 | _ => none
def spec_l11Draw.n (k : Nat) : En := ⟨17, ti, eqs, fun t => [0, 1, 3, 4].contains t, fun t => [2].contains t, spec_l11Draw.c k, spec_l11Draw.l k, 1, fun _ => none, fun t => [].contains t, fun _ => [], fun t => [].contains t, fun _ => false⟩
theorem spec_l11Draw_l3.ok (k : Nat) (x : (spec_l11Draw_l3.p 0).ins.den) : evLoop (spec_l11Draw.n k) (spec_l11Draw_l3.p k) (loopAt 3 (Try.f74.body.getD .skip)) x = (spec_l11Draw_l3.p (k + 1)).run x := by kernel_rfl
theorem spec_l11Draw.ok (k : Nat) (x : Den ((spec_l11Draw.e 0).ps.map Par.ty)) : evBody (spec_l11Draw.n k) (Try.f74.body.getD .skip) Try.f74.results.toList (spec_l11Draw.e k) x = (spec_l11Draw.e k).run x := by kernel_rfl
@[reducible] def spec_l11Any.e (k : Nat) : Ent := ⟨1, [(.ptr (.pr (.sl 5 (.i .u8)) (.pr (.i .i64) (.i .i64))) (.pr (.sl 5 (.i .u8)) (.pr (.i .i64) (.i .i64))))], [(.one, (.ow 28 (.pr .s (.pr (.pr (.i .i64) (.pr (.i .i64) (.i .i64))) (.pr .b (.i .i64))))))], fun x => spec_l11Any k x⟩
def spec_l11Any.c (k : Nat) : FuncId → Option Ent
 | 70 => some (spec_l11One.e k)
 | 74 => some (spec_l11Draw.e k)
 | 105 => some (spec_l1Below.e k)
 | 106 => some (spec_l1Int.e k)
 | _ => none
def spec_l11Any.l (k : Nat) : Nat → Option Lp
 | _ => none
def spec_l11Any.n (k : Nat) : En := ⟨27, ti, eqs, fun t => [0, 1, 3].contains t, fun t => [2].contains t, spec_l11Any.c k, spec_l11Any.l k, 1, fun _ => none, fun t => [].contains t, fun _ => [], fun t => [].contains t, fun _ => false⟩
theorem spec_l11Any.ok (k : Nat) (x : Den ((spec_l11Any.e 0).ps.map Par.ty)) : evBody (spec_l11Any.n k) (Try.f69.body.getD .skip) Try.f69.results.toList (spec_l11Any.e k) x = (spec_l11Any.e k).run x := by kernel_rfl
@[reducible] def spec_DrawMergeRow.e (k : Nat) : Ent := ⟨1, [(.val false (.sl 5 (.i .u8)))], [(.one, (.ow 28 (.pr .s (.pr (.pr (.i .i64) (.pr (.i .i64) (.i .i64))) (.pr .b (.i .i64)))))), (.agg, (.pr .s (.pr (.pr (.i .i64) (.pr (.i .i64) (.i .i64))) (.pr .b (.i .i64)))))], fun x => spec_DrawMergeRow k x⟩
def spec_DrawMergeRow.c (k : Nat) : FuncId → Option Ent
 | 68 => some (spec_l1New.e k)
 | 69 => some (spec_l11Any.e k)
 | 70 => some (spec_l11One.e k)
 | _ => none
def spec_DrawMergeRow.l (k : Nat) : Nat → Option Lp
 | _ => none
def spec_DrawMergeRow.n (k : Nat) : En := ⟨11, ti, eqs, fun t => [0, 1, 4].contains t, fun t => [2].contains t, spec_DrawMergeRow.c k, spec_DrawMergeRow.l k, 1, fun _ => none, fun t => [].contains t, fun _ => [], fun t => [].contains t, fun _ => false⟩
theorem spec_DrawMergeRow.ok (k : Nat) (x : Den ((spec_DrawMergeRow.e 0).ps.map Par.ty)) : evBody (spec_DrawMergeRow.n k) (Try.f16.body.getD .skip) Try.f16.results.toList (spec_DrawMergeRow.e k) x = (spec_DrawMergeRow.e k).run x := by kernel_rfl
@[reducible] def impl_copyRows.e (k : Nat) : Ent := ⟨1, [(.val false (.sl 28 (.pr .s (.pr (.pr (.i .i64) (.pr (.i .i64) (.i .i64))) (.pr .b (.i .i64))))))], [(.one, (.ow 28 (.pr .s (.pr (.pr (.i .i64) (.pr (.i .i64) (.i .i64))) (.pr .b (.i .i64))))))], fun x => impl_copyRows x⟩
def impl_copyRows.c (k : Nat) : FuncId → Option Ent
 | _ => none
def impl_copyRows.l (k : Nat) : Nat → Option Lp
 | _ => none
def impl_copyRows.n (k : Nat) : En := ⟨5, ti, eqs, fun t => [0, 1].contains t, fun t => [2].contains t, impl_copyRows.c k, impl_copyRows.l k, 1, fun _ => none, fun t => [].contains t, fun _ => [], fun t => [].contains t, fun _ => false⟩
theorem impl_copyRows.ok (k : Nat) (x : Den ((impl_copyRows.e 0).ps.map Par.ty)) : evBody (impl_copyRows.n k) (Try.f71.body.getD .skip) Try.f71.results.toList (impl_copyRows.e k) x = (impl_copyRows.e k).run x := by kernel_rfl
@[reducible] def impl_LessStamp.e (k : Nat) : Ent := ⟨2, [(.val true (.pr (.i .i64) (.pr (.i .i64) (.i .i64)))), (.val true (.pr (.i .i64) (.pr (.i .i64) (.i .i64))))], [(.one, .b)], fun x => impl_LessStamp x.1 x.2⟩
def impl_LessStamp.c (k : Nat) : FuncId → Option Ent
 | _ => none
def impl_LessStamp.l (k : Nat) : Nat → Option Lp
 | _ => none
def impl_LessStamp.n (k : Nat) : En := ⟨32, ti, eqs, fun t => [0, 1, 2, 3].contains t, fun t => [4].contains t, impl_LessStamp.c k, impl_LessStamp.l k, 2, fun _ => none, fun t => [].contains t, fun _ => [], fun t => [].contains t, fun _ => false⟩
theorem impl_LessStamp.ok (k : Nat) (x : Den ((impl_LessStamp.e 0).ps.map Par.ty)) : evBody (impl_LessStamp.n k) (Try.f20.body.getD .skip) Try.f20.results.toList (impl_LessStamp.e k) x = (impl_LessStamp.e k).run x := by kernel_rfl
@[reducible] def impl_laterRow.e (k : Nat) : Ent := ⟨2, [(.val true (.pr .s (.pr (.pr (.i .i64) (.pr (.i .i64) (.i .i64))) (.pr .b (.i .i64))))), (.val true (.pr .s (.pr (.pr (.i .i64) (.pr (.i .i64) (.i .i64))) (.pr .b (.i .i64)))))], [(.one, .b)], fun x => impl_laterRow x.1 x.2⟩
def impl_laterRow.c (k : Nat) : FuncId → Option Ent
 | 20 => some (impl_LessStamp.e k)
 | _ => none
def impl_laterRow.l (k : Nat) : Nat → Option Lp
 | _ => none
def impl_laterRow.n (k : Nat) : En := ⟨29, ti, eqs, fun t => [0, 1, 2, 3].contains t, fun t => [4].contains t, impl_laterRow.c k, impl_laterRow.l k, 2, fun _ => none, fun t => [].contains t, fun _ => [], fun t => [].contains t, fun _ => false⟩
theorem impl_laterRow.ok (k : Nat) (x : Den ((impl_laterRow.e 0).ps.map Par.ty)) : evBody (impl_laterRow.n k) (Try.f72.body.getD .skip) Try.f72.results.toList (impl_laterRow.e k) x = (impl_laterRow.e k).run x := by kernel_rfl
@[reducible] def impl_MergeRow.e (k : Nat) : Ent := ⟨2, [(.val false (.sl 28 (.pr .s (.pr (.pr (.i .i64) (.pr (.i .i64) (.i .i64))) (.pr .b (.i .i64)))))), (.val true (.pr .s (.pr (.pr (.i .i64) (.pr (.i .i64) (.i .i64))) (.pr .b (.i .i64)))))], [(.one, (.ow 28 (.pr .s (.pr (.pr (.i .i64) (.pr (.i .i64) (.i .i64))) (.pr .b (.i .i64))))))], fun x => impl_MergeRow k x.1 x.2⟩
def impl_MergeRow.c (k : Nat) : FuncId → Option Ent
 | 71 => some (impl_copyRows.e k)
 | 72 => some (impl_laterRow.e k)
 | _ => none
@[reducible] def impl_MergeRow_l11.p (k : Nat) : Lp := ⟨⟨[(3, (.bp 3 0 0)), (4999, (.hd 6))], [(0, (.sl 28 (.pr .s (.pr (.pr (.i .i64) (.pr (.i .i64) (.i .i64))) (.pr .b (.i .i64)))))), (8, (.i .i64)), (4000, .s), (4001, (.i .i64)), (4002, (.i .i64)), (4003, (.i .i64)), (4004, .b), (4005, (.i .i64))]⟩, [((.exit 2), ⟨[(3, (.bp 3 0 0)), (4999, (.hd 6))], [(0, (.sl 28 (.pr .s (.pr (.pr (.i .i64) (.pr (.i .i64) (.i .i64))) (.pr .b (.i .i64)))))), (8, (.i .i64)), (4000, .s), (4001, (.i .i64)), (4002, (.i .i64)), (4003, (.i .i64)), (4004, .b), (4005, (.i .i64))]⟩)], fun x => impl_MergeRow_l11 k x.1 x.2.1 x.2.2.1 x.2.2.2.1 x.2.2.2.2.1 x.2.2.2.2.2.1 x.2.2.2.2.2.2.1 x.2.2.2.2.2.2.2⟩
@[reducible] def impl_MergeRow_l3.p (k : Nat) : Lp := ⟨⟨[(3, (.bp 3 0 0)), (4999, (.hd 6))], [(0, (.sl 28 (.pr .s (.pr (.pr (.i .i64) (.pr (.i .i64) (.i .i64))) (.pr .b (.i .i64)))))), (5, (.ow 28 (.pr .s (.pr (.pr (.i .i64) (.pr (.i .i64) (.i .i64))) (.pr .b (.i .i64)))))), (11, (.sl 28 (.pr .s (.pr (.pr (.i .i64) (.pr (.i .i64) (.i .i64))) (.pr .b (.i .i64)))))), (12, (.i .i64)), (13, (.i .i64)), (4000, .s), (4001, (.i .i64)), (4002, (.i .i64)), (4003, (.i .i64)), (4004, .b), (4005, (.i .i64))]⟩, [(.ret, ⟨[], [(4, (.ow 28 (.pr .s (.pr (.pr (.i .i64) (.pr (.i .i64) (.i .i64))) (.pr .b (.i .i64))))))]⟩), ((.exit 0), ⟨[(3, (.bp 3 0 0)), (4999, (.hd 6))], [(0, (.sl 28 (.pr .s (.pr (.pr (.i .i64) (.pr (.i .i64) (.i .i64))) (.pr .b (.i .i64)))))), (4000, .s), (4001, (.i .i64)), (4002, (.i .i64)), (4003, (.i .i64)), (4004, .b), (4005, (.i .i64))]⟩)], fun x => impl_MergeRow_l3 k x.1 x.2.1 x.2.2.1 x.2.2.2.1 x.2.2.2.2.1 x.2.2.2.2.2.1 x.2.2.2.2.2.2.1 x.2.2.2.2.2.2.2.1 x.2.2.2.2.2.2.2.2.1 x.2.2.2.2.2.2.2.2.2.1 x.2.2.2.2.2.2.2.2.2.2⟩
def impl_MergeRow.l (k : Nat) : Nat → Option Lp
 | 11 => some (impl_MergeRow_l11.p k)
 | 3 => some (impl_MergeRow_l3.p k)
 | _ => none
def impl_MergeRow.n (k : Nat) : En := ⟨60, ti, eqs, fun t => [0, 1, 2, 3, 5, 6, 7, 8].contains t, fun t => [4].contains t, impl_MergeRow.c k, impl_MergeRow.l k, 2, fun _ => none, fun t => [].contains t, fun _ => [], fun t => [].contains t, fun _ => false⟩
theorem impl_MergeRow_l11.ok (k : Nat) (x : (impl_MergeRow_l11.p 0).ins.den) : evLoop (impl_MergeRow.n k) (impl_MergeRow_l11.p k) (loopAt 11 (Try.f17.body.getD .skip)) x = (impl_MergeRow_l11.p (k + 1)).run x := by kernel_rfl
theorem impl_MergeRow_l3.ok (k : Nat) (x : (impl_MergeRow_l3.p 0).ins.den) : evLoop (impl_MergeRow.n k) (impl_MergeRow_l3.p k) (loopAt 3 (Try.f17.body.getD .skip)) x = (impl_MergeRow_l3.p (k + 1)).run x := by kernel_rfl
theorem impl_MergeRow.ok (k : Nat) (x : Den ((impl_MergeRow.e 0).ps.map Par.ty)) : evBody (impl_MergeRow.n k) (Try.f17.body.getD .skip) Try.f17.results.toList (impl_MergeRow.e k) x = (impl_MergeRow.e k).run x := by kernel_rfl
@[reducible] def laws_sameRows.e (k : Nat) : Ent := ⟨2, [(.val false (.sl 28 (.pr .s (.pr (.pr (.i .i64) (.pr (.i .i64) (.i .i64))) (.pr .b (.i .i64)))))), (.val false (.sl 28 (.pr .s (.pr (.pr (.i .i64) (.pr (.i .i64) (.i .i64))) (.pr .b (.i .i64))))))], [(.one, .b)], fun x => laws_sameRows k x.1 x.2⟩
def laws_sameRows.c (k : Nat) : FuncId → Option Ent
 | _ => none
@[reducible] def laws_sameRows_l4.p (k : Nat) : Lp := ⟨⟨[], [(0, (.sl 28 (.pr .s (.pr (.pr (.i .i64) (.pr (.i .i64) (.i .i64))) (.pr .b (.i .i64)))))), (1, (.sl 28 (.pr .s (.pr (.pr (.i .i64) (.pr (.i .i64) (.i .i64))) (.pr .b (.i .i64)))))), (5, (.i .i64))]⟩, [(.ret, ⟨[], [(4, .b)]⟩), ((.exit 0), ⟨[], []⟩)], fun x => laws_sameRows_l4 k x.1 x.2.1 x.2.2⟩
def laws_sameRows.l (k : Nat) : Nat → Option Lp
 | 4 => some (laws_sameRows_l4.p k)
 | _ => none
def laws_sameRows.n (k : Nat) : En := ⟨26, ti, eqs, fun t => [0, 1, 2, 3, 5].contains t, fun t => [4].contains t, laws_sameRows.c k, laws_sameRows.l k, 2, fun _ => none, fun t => [].contains t, fun _ => [], fun t => [].contains t, fun _ => false⟩
theorem laws_sameRows_l4.ok (k : Nat) (x : (laws_sameRows_l4.p 0).ins.den) : evLoop (laws_sameRows.n k) (laws_sameRows_l4.p k) (loopAt 4 (Try.f18.body.getD .skip)) x = (laws_sameRows_l4.p (k + 1)).run x := by kernel_rfl
theorem laws_sameRows.ok (k : Nat) (x : Den ((laws_sameRows.e 0).ps.map Par.ty)) : evBody (laws_sameRows.n k) (Try.f18.body.getD .skip) Try.f18.results.toList (laws_sameRows.e k) x = (laws_sameRows.e k).run x := by kernel_rfl
@[reducible] def laws_FnRow.e (k : Nat) : Ent := ⟨1, [(.val false (.sl 5 (.i .u8)))], [(.one, .b)], fun x => laws_FnRow k x⟩
def laws_FnRow.c (k : Nat) : FuncId → Option Ent
 | 15 => some (laws_big.e k)
 | 16 => some (spec_DrawMergeRow.e k)
 | 17 => some (impl_MergeRow.e k)
 | 18 => some (laws_sameRows.e k)
 | 19 => some (spec_MergeRow.e k)
 | 20 => some (impl_LessStamp.e k)
 | _ => none
@[reducible] def laws_FnRow_l9.p (k : Nat) : Lp := ⟨⟨[(4, (.bp 4 0 0)), (5999, (.hd 6))], [(3, (.sl 28 (.pr .s (.pr (.pr (.i .i64) (.pr (.i .i64) (.i .i64))) (.pr .b (.i .i64)))))), (5, (.sl 28 (.pr .s (.pr (.pr (.i .i64) (.pr (.i .i64) (.i .i64))) (.pr .b (.i .i64)))))), (6, .b), (7, (.i .i64)), (5000, .s), (5001, (.i .i64)), (5002, (.i .i64)), (5003, (.i .i64)), (5004, .b), (5005, (.i .i64))]⟩, [((.exit 0), ⟨[], [(3, (.sl 28 (.pr .s (.pr (.pr (.i .i64) (.pr (.i .i64) (.i .i64))) (.pr .b (.i .i64)))))), (5, (.sl 28 (.pr .s (.pr (.pr (.i .i64) (.pr (.i .i64) (.i .i64))) (.pr .b (.i .i64)))))), (6, .b)]⟩)], fun x => laws_FnRow_l9 k x.1 x.2.1 x.2.2.1 x.2.2.2.1 x.2.2.2.2.1 x.2.2.2.2.2.1 x.2.2.2.2.2.2.1 x.2.2.2.2.2.2.2.1 x.2.2.2.2.2.2.2.2.1 x.2.2.2.2.2.2.2.2.2⟩
def laws_FnRow.l (k : Nat) : Nat → Option Lp
 | 9 => some (laws_FnRow_l9.p k)
 | _ => none
def laws_FnRow.n (k : Nat) : En := ⟨68, ti, eqs, fun t => [0, 1, 3, 4, 5, 6, 7].contains t, fun t => [2].contains t, laws_FnRow.c k, laws_FnRow.l k, 1, fun _ => none, fun t => [].contains t, fun _ => [], fun t => [].contains t, fun _ => true⟩
theorem laws_FnRow_l9.ok (k : Nat) (x : (laws_FnRow_l9.p 0).ins.den) : evLoop (laws_FnRow.n k) (laws_FnRow_l9.p k) (loopAt 9 (Try.f3.body.getD .skip)) x = (laws_FnRow_l9.p (k + 1)).run x := by kernel_rfl
theorem laws_FnRow.ok (k : Nat) (x : Den ((laws_FnRow.e 0).ps.map Par.ty)) : evBody (laws_FnRow.n k) (Try.f3.body.getD .skip) Try.f3.results.toList (laws_FnRow.e k) x = (laws_FnRow.e k).run x := by kernel_rfl
@[reducible] def spec_DrawRows.e (k : Nat) : Ent := ⟨1, [(.val false (.sl 5 (.i .u8)))], [(.one, (.ow 28 (.pr .s (.pr (.pr (.i .i64) (.pr (.i .i64) (.i .i64))) (.pr .b (.i .i64)))))), (.one, (.ow 28 (.pr .s (.pr (.pr (.i .i64) (.pr (.i .i64) (.i .i64))) (.pr .b (.i .i64))))))], fun x => spec_DrawRows k x⟩
def spec_DrawRows.c (k : Nat) : FuncId → Option Ent
 | 68 => some (spec_l1New.e k)
 | 74 => some (spec_l11Draw.e k)
 | _ => none
def spec_DrawRows.l (k : Nat) : Nat → Option Lp
 | _ => none
def spec_DrawRows.n (k : Nat) : En := ⟨11, ti, eqs, fun t => [0, 1, 4].contains t, fun t => [2, 3].contains t, spec_DrawRows.c k, spec_DrawRows.l k, 1, fun _ => none, fun t => [].contains t, fun _ => [], fun t => [].contains t, fun _ => false⟩
theorem spec_DrawRows.ok (k : Nat) (x : Den ((spec_DrawRows.e 0).ps.map Par.ty)) : evBody (spec_DrawRows.n k) (Try.f21.body.getD .skip) Try.f21.results.toList (spec_DrawRows.e k) x = (spec_DrawRows.e k).run x := by kernel_rfl
@[reducible] def spec_DrawMergeRows.e (k : Nat) : Ent := ⟨1, [(.val false (.sl 5 (.i .u8)))], [(.one, (.ow 28 (.pr .s (.pr (.pr (.i .i64) (.pr (.i .i64) (.i .i64))) (.pr .b (.i .i64)))))), (.one, (.ow 28 (.pr .s (.pr (.pr (.i .i64) (.pr (.i .i64) (.i .i64))) (.pr .b (.i .i64))))))], fun x => spec_DrawMergeRows k x⟩
def spec_DrawMergeRows.c (k : Nat) : FuncId → Option Ent
 | 68 => some (spec_l1New.e k)
 | 69 => some (spec_l11Any.e k)
 | _ => none
def spec_DrawMergeRows.l (k : Nat) : Nat → Option Lp
 | _ => none
def spec_DrawMergeRows.n (k : Nat) : En := ⟨11, ti, eqs, fun t => [0, 1, 4].contains t, fun t => [2, 3].contains t, spec_DrawMergeRows.c k, spec_DrawMergeRows.l k, 1, fun _ => none, fun t => [].contains t, fun _ => [], fun t => [].contains t, fun _ => false⟩
theorem spec_DrawMergeRows.ok (k : Nat) (x : Den ((spec_DrawMergeRows.e 0).ps.map Par.ty)) : evBody (spec_DrawMergeRows.n k) (Try.f22.body.getD .skip) Try.f22.results.toList (spec_DrawMergeRows.e k) x = (spec_DrawMergeRows.e k).run x := by kernel_rfl
@[reducible] def impl_MergeRows.e (k : Nat) : Ent := ⟨2, [(.val false (.sl 28 (.pr .s (.pr (.pr (.i .i64) (.pr (.i .i64) (.i .i64))) (.pr .b (.i .i64)))))), (.val false (.sl 28 (.pr .s (.pr (.pr (.i .i64) (.pr (.i .i64) (.i .i64))) (.pr .b (.i .i64))))))], [(.one, (.ow 28 (.pr .s (.pr (.pr (.i .i64) (.pr (.i .i64) (.i .i64))) (.pr .b (.i .i64))))))], fun x => impl_MergeRows k x.1 x.2⟩
def impl_MergeRows.c (k : Nat) : FuncId → Option Ent
 | 17 => some (impl_MergeRow.e k)
 | 71 => some (impl_copyRows.e k)
 | _ => none
@[reducible] def impl_MergeRows_l3.p (k : Nat) : Lp := ⟨⟨[], [(5, (.ow 28 (.pr .s (.pr (.pr (.i .i64) (.pr (.i .i64) (.i .i64))) (.pr .b (.i .i64)))))), (10, (.sl 28 (.pr .s (.pr (.pr (.i .i64) (.pr (.i .i64) (.i .i64))) (.pr .b (.i .i64)))))), (11, (.i .i64)), (12, (.i .i64))]⟩, [((.exit 0), ⟨[], [(5, (.ow 28 (.pr .s (.pr (.pr (.i .i64) (.pr (.i .i64) (.i .i64))) (.pr .b (.i .i64))))))]⟩)], fun x => impl_MergeRows_l3 k x.1 x.2.1 x.2.2.1 x.2.2.2⟩
def impl_MergeRows.l (k : Nat) : Nat → Option Lp
 | 3 => some (impl_MergeRows_l3.p k)
 | _ => none
def impl_MergeRows.n (k : Nat) : En := ⟨21, ti, eqs, fun t => [0, 1, 2, 3, 5, 6, 7].contains t, fun t => [4].contains t, impl_MergeRows.c k, impl_MergeRows.l k, 2, fun _ => none, fun t => [].contains t, fun _ => [], fun t => [].contains t, fun _ => false⟩
theorem impl_MergeRows_l3.ok (k : Nat) (x : (impl_MergeRows_l3.p 0).ins.den) : evLoop (impl_MergeRows.n k) (impl_MergeRows_l3.p k) (loopAt 3 (Try.f23.body.getD .skip)) x = (impl_MergeRows_l3.p (k + 1)).run x := by kernel_rfl
theorem impl_MergeRows.ok (k : Nat) (x : Den ((impl_MergeRows.e 0).ps.map Par.ty)) : evBody (impl_MergeRows.n k) (Try.f23.body.getD .skip) Try.f23.results.toList (impl_MergeRows.e k) x = (impl_MergeRows.e k).run x := by kernel_rfl
@[reducible] def impl_in.e (k : Nat) : Ent := ⟨3, [(.val false (.i .i64)), (.val false (.i .i64)), (.val false (.i .i64))], [(.one, .b)], fun x => impl_in x.1 x.2.1 x.2.2⟩
def impl_in.c (k : Nat) : FuncId → Option Ent
 | _ => none
def impl_in.l (k : Nat) : Nat → Option Lp
 | _ => none
def impl_in.n (k : Nat) : En := ⟨15, ti, eqs, fun t => [0, 1, 2, 3, 4, 5].contains t, fun t => [6].contains t, impl_in.c k, impl_in.l k, 3, fun _ => none, fun t => [].contains t, fun _ => [], fun t => [].contains t, fun _ => false⟩
theorem impl_in.ok (k : Nat) (x : Den ((impl_in.e 0).ps.map Par.ty)) : evBody (impl_in.n k) (Try.f120.body.getD .skip) Try.f120.results.toList (impl_in.e k) x = (impl_in.e k).run x := by kernel_rfl
@[reducible] def impl_NameOk.e (k : Nat) : Ent := ⟨1, [(.val false .s)], [(.one, .b)], fun x => impl_NameOk k x⟩
def impl_NameOk.c (k : Nat) : FuncId → Option Ent
 | 120 => some (impl_in.e k)
 | _ => none
@[reducible] def impl_NameOk_l2.p (k : Nat) : Lp := ⟨⟨[], [(0, .s), (3, (.i .i64))]⟩, [(.ret, ⟨[], [(2, .b)]⟩), ((.exit 0), ⟨[], [(0, .s)]⟩)], fun x => impl_NameOk_l2 k x.1 x.2⟩
def impl_NameOk.l (k : Nat) : Nat → Option Lp
 | 2 => some (impl_NameOk_l2.p k)
 | _ => none
def impl_NameOk.n (k : Nat) : En := ⟨45, ti, eqs, fun t => [0, 1, 3, 4].contains t, fun t => [2].contains t, impl_NameOk.c k, impl_NameOk.l k, 1, fun _ => none, fun t => [].contains t, fun _ => [], fun t => [].contains t, fun _ => false⟩
theorem impl_NameOk_l2.ok (k : Nat) (x : (impl_NameOk_l2.p 0).ins.den) : evLoop (impl_NameOk.n k) (impl_NameOk_l2.p k) (loopAt 2 (Try.f83.body.getD .skip)) x = (impl_NameOk_l2.p (k + 1)).run x := by kernel_rfl
theorem impl_NameOk.ok (k : Nat) (x : Den ((impl_NameOk.e 0).ps.map Par.ty)) : evBody (impl_NameOk.n k) (Try.f83.body.getD .skip) Try.f83.results.toList (impl_NameOk.e k) x = (impl_NameOk.e k).run x := by kernel_rfl
@[reducible] def impl_StampOk.e (k : Nat) : Ent := ⟨1, [(.val true (.pr (.i .i64) (.pr (.i .i64) (.i .i64))))], [(.one, .b)], fun x => impl_StampOk x⟩
def impl_StampOk.c (k : Nat) : FuncId → Option Ent
 | 120 => some (impl_in.e k)
 | _ => none
def impl_StampOk.l (k : Nat) : Nat → Option Lp
 | _ => none
def impl_StampOk.n (k : Nat) : En := ⟨16, ti, eqs, fun t => [0, 1].contains t, fun t => [2].contains t, impl_StampOk.c k, impl_StampOk.l k, 1, fun _ => none, fun t => [].contains t, fun _ => [], fun t => [].contains t, fun _ => false⟩
theorem impl_StampOk.ok (k : Nat) (x : Den ((impl_StampOk.e 0).ps.map Par.ty)) : evBody (impl_StampOk.n k) (Try.f139.body.getD .skip) Try.f139.results.toList (impl_StampOk.e k) x = (impl_StampOk.e k).run x := by kernel_rfl
@[reducible] def impl_rowOk.e (k : Nat) : Ent := ⟨1, [(.val true (.pr .s (.pr (.pr (.i .i64) (.pr (.i .i64) (.i .i64))) (.pr .b (.i .i64)))))], [(.one, .b)], fun x => impl_rowOk k x⟩
def impl_rowOk.c (k : Nat) : FuncId → Option Ent
 | 83 => some (impl_NameOk.e k)
 | 120 => some (impl_in.e k)
 | 139 => some (impl_StampOk.e k)
 | _ => none
def impl_rowOk.l (k : Nat) : Nat → Option Lp
 | _ => none
def impl_rowOk.n (k : Nat) : En := ⟨26, ti, eqs, fun t => [0, 1].contains t, fun t => [2].contains t, impl_rowOk.c k, impl_rowOk.l k, 1, fun _ => none, fun t => [].contains t, fun _ => [], fun t => [].contains t, fun _ => false⟩
theorem impl_rowOk.ok (k : Nat) (x : Den ((impl_rowOk.e 0).ps.map Par.ty)) : evBody (impl_rowOk.n k) (Try.f75.body.getD .skip) Try.f75.results.toList (impl_rowOk.e k) x = (impl_rowOk.e k).run x := by kernel_rfl
@[reducible] def impl_RowsOk.e (k : Nat) : Ent := ⟨1, [(.val false (.sl 28 (.pr .s (.pr (.pr (.i .i64) (.pr (.i .i64) (.i .i64))) (.pr .b (.i .i64))))))], [(.one, .b)], fun x => impl_RowsOk k x⟩
def impl_RowsOk.c (k : Nat) : FuncId → Option Ent
 | 75 => some (impl_rowOk.e k)
 | _ => none
@[reducible] def impl_RowsOk_l2.p (k : Nat) : Lp := ⟨⟨[], [(0, (.sl 28 (.pr .s (.pr (.pr (.i .i64) (.pr (.i .i64) (.i .i64))) (.pr .b (.i .i64)))))), (5, (.sl 28 (.pr .s (.pr (.pr (.i .i64) (.pr (.i .i64) (.i .i64))) (.pr .b (.i .i64)))))), (6, (.i .i64)), (7, (.i .i64))]⟩, [(.ret, ⟨[], [(2, .b)]⟩), ((.exit 0), ⟨[], [(0, (.sl 28 (.pr .s (.pr (.pr (.i .i64) (.pr (.i .i64) (.i .i64))) (.pr .b (.i .i64))))))]⟩)], fun x => impl_RowsOk_l2 k x.1 x.2.1 x.2.2.1 x.2.2.2⟩
def impl_RowsOk.l (k : Nat) : Nat → Option Lp
 | 2 => some (impl_RowsOk_l2.p k)
 | _ => none
def impl_RowsOk.n (k : Nat) : En := ⟨34, ti, eqs, fun t => [0, 1, 3, 4].contains t, fun t => [2].contains t, impl_RowsOk.c k, impl_RowsOk.l k, 1, fun _ => none, fun t => [].contains t, fun _ => [], fun t => [].contains t, fun _ => false⟩
theorem impl_RowsOk_l2.ok (k : Nat) (x : (impl_RowsOk_l2.p 0).ins.den) : evLoop (impl_RowsOk.n k) (impl_RowsOk_l2.p k) (loopAt 2 (Try.f24.body.getD .skip)) x = (impl_RowsOk_l2.p (k + 1)).run x := by kernel_rfl
theorem impl_RowsOk.ok (k : Nat) (x : Den ((impl_RowsOk.e 0).ps.map Par.ty)) : evBody (impl_RowsOk.n k) (Try.f24.body.getD .skip) Try.f24.results.toList (impl_RowsOk.e k) x = (impl_RowsOk.e k).run x := by kernel_rfl
@[reducible] def spec_l1In.e (k : Nat) : Ent := ⟨3, [(.val false (.i .i64)), (.val false (.i .i64)), (.val false (.i .i64))], [(.one, .b)], fun x => spec_l1In x.1 x.2.1 x.2.2⟩
def spec_l1In.c (k : Nat) : FuncId → Option Ent
 | _ => none
def spec_l1In.l (k : Nat) : Nat → Option Lp
 | _ => none
def spec_l1In.n (k : Nat) : En := ⟨15, ti, eqs, fun t => [0, 1, 2, 3, 4, 5].contains t, fun t => [6].contains t, spec_l1In.c k, spec_l1In.l k, 3, fun _ => none, fun t => [].contains t, fun _ => [], fun t => [].contains t, fun _ => false⟩
theorem spec_l1In.ok (k : Nat) (x : Den ((spec_l1In.e 0).ps.map Par.ty)) : evBody (spec_l1In.n k) (Try.f141.body.getD .skip) Try.f141.results.toList (spec_l1In.e k) x = (spec_l1In.e k).run x := by kernel_rfl
@[reducible] def spec_NameOk.e (k : Nat) : Ent := ⟨1, [(.val false .s)], [(.one, .b)], fun x => spec_NameOk k x⟩
def spec_NameOk.c (k : Nat) : FuncId → Option Ent
 | 141 => some (spec_l1In.e k)
 | _ => none
@[reducible] def spec_NameOk_l2.p (k : Nat) : Lp := ⟨⟨[], [(0, .s), (3, (.i .i64))]⟩, [(.ret, ⟨[], [(2, .b)]⟩), ((.exit 0), ⟨[], [(0, .s)]⟩)], fun x => spec_NameOk_l2 k x.1 x.2⟩
def spec_NameOk.l (k : Nat) : Nat → Option Lp
 | 2 => some (spec_NameOk_l2.p k)
 | _ => none
def spec_NameOk.n (k : Nat) : En := ⟨38, ti, eqs, fun t => [0, 1, 3, 4].contains t, fun t => [2].contains t, spec_NameOk.c k, spec_NameOk.l k, 1, fun _ => none, fun t => [].contains t, fun _ => [], fun t => [].contains t, fun _ => false⟩
theorem spec_NameOk_l2.ok (k : Nat) (x : (spec_NameOk_l2.p 0).ins.den) : evLoop (spec_NameOk.n k) (spec_NameOk_l2.p k) (loopAt 2 (Try.f128.body.getD .skip)) x = (spec_NameOk_l2.p (k + 1)).run x := by kernel_rfl
theorem spec_NameOk.ok (k : Nat) (x : Den ((spec_NameOk.e 0).ps.map Par.ty)) : evBody (spec_NameOk.n k) (Try.f128.body.getD .skip) Try.f128.results.toList (spec_NameOk.e k) x = (spec_NameOk.e k).run x := by kernel_rfl
@[reducible] def spec_StampOk.e (k : Nat) : Ent := ⟨1, [(.val true (.pr (.i .i64) (.pr (.i .i64) (.i .i64))))], [(.one, .b)], fun x => spec_StampOk x⟩
def spec_StampOk.c (k : Nat) : FuncId → Option Ent
 | 141 => some (spec_l1In.e k)
 | _ => none
def spec_StampOk.l (k : Nat) : Nat → Option Lp
 | _ => none
def spec_StampOk.n (k : Nat) : En := ⟨16, ti, eqs, fun t => [0, 1].contains t, fun t => [2].contains t, spec_StampOk.c k, spec_StampOk.l k, 1, fun _ => none, fun t => [].contains t, fun _ => [], fun t => [].contains t, fun _ => false⟩
theorem spec_StampOk.ok (k : Nat) (x : Den ((spec_StampOk.e 0).ps.map Par.ty)) : evBody (spec_StampOk.n k) (Try.f140.body.getD .skip) Try.f140.results.toList (spec_StampOk.e k) x = (spec_StampOk.e k).run x := by kernel_rfl
@[reducible] def spec_l11Row.e (k : Nat) : Ent := ⟨1, [(.val true (.pr .s (.pr (.pr (.i .i64) (.pr (.i .i64) (.i .i64))) (.pr .b (.i .i64)))))], [(.one, .b)], fun x => spec_l11Row k x⟩
def spec_l11Row.c (k : Nat) : FuncId → Option Ent
 | 128 => some (spec_NameOk.e k)
 | 140 => some (spec_StampOk.e k)
 | 141 => some (spec_l1In.e k)
 | _ => none
def spec_l11Row.l (k : Nat) : Nat → Option Lp
 | _ => none
def spec_l11Row.n (k : Nat) : En := ⟨26, ti, eqs, fun t => [0, 1].contains t, fun t => [2].contains t, spec_l11Row.c k, spec_l11Row.l k, 1, fun _ => none, fun t => [].contains t, fun _ => [], fun t => [].contains t, fun _ => false⟩
theorem spec_l11Row.ok (k : Nat) (x : Den ((spec_l11Row.e 0).ps.map Par.ty)) : evBody (spec_l11Row.n k) (Try.f76.body.getD .skip) Try.f76.results.toList (spec_l11Row.e k) x = (spec_l11Row.e k).run x := by kernel_rfl
@[reducible] def spec_RowsOk.e (k : Nat) : Ent := ⟨1, [(.val false (.sl 28 (.pr .s (.pr (.pr (.i .i64) (.pr (.i .i64) (.i .i64))) (.pr .b (.i .i64))))))], [(.one, .b)], fun x => spec_RowsOk k x⟩
def spec_RowsOk.c (k : Nat) : FuncId → Option Ent
 | 76 => some (spec_l11Row.e k)
 | _ => none
@[reducible] def spec_RowsOk_l2.p (k : Nat) : Lp := ⟨⟨[], [(0, (.sl 28 (.pr .s (.pr (.pr (.i .i64) (.pr (.i .i64) (.i .i64))) (.pr .b (.i .i64)))))), (3, (.i .i64))]⟩, [(.ret, ⟨[], [(2, .b)]⟩), ((.exit 0), ⟨[], [(0, (.sl 28 (.pr .s (.pr (.pr (.i .i64) (.pr (.i .i64) (.i .i64))) (.pr .b (.i .i64))))))]⟩)], fun x => spec_RowsOk_l2 k x.1 x.2⟩
def spec_RowsOk.l (k : Nat) : Nat → Option Lp
 | 2 => some (spec_RowsOk_l2.p k)
 | _ => none
def spec_RowsOk.n (k : Nat) : En := ⟨37, ti, eqs, fun t => [0, 1, 3].contains t, fun t => [2].contains t, spec_RowsOk.c k, spec_RowsOk.l k, 1, fun _ => none, fun t => [].contains t, fun _ => [], fun t => [].contains t, fun _ => false⟩
theorem spec_RowsOk_l2.ok (k : Nat) (x : (spec_RowsOk_l2.p 0).ins.den) : evLoop (spec_RowsOk.n k) (spec_RowsOk_l2.p k) (loopAt 2 (Try.f25.body.getD .skip)) x = (spec_RowsOk_l2.p (k + 1)).run x := by kernel_rfl
theorem spec_RowsOk.ok (k : Nat) (x : Den ((spec_RowsOk.e 0).ps.map Par.ty)) : evBody (spec_RowsOk.n k) (Try.f25.body.getD .skip) Try.f25.results.toList (spec_RowsOk.e k) x = (spec_RowsOk.e k).run x := by kernel_rfl
@[reducible] def laws_FnMerged.e (k : Nat) : Ent := ⟨1, [(.val false (.sl 5 (.i .u8)))], [(.one, .b)], fun x => laws_FnMerged k x⟩
def laws_FnMerged.c (k : Nat) : FuncId → Option Ent
 | 15 => some (laws_big.e k)
 | 18 => some (laws_sameRows.e k)
 | 21 => some (spec_DrawRows.e k)
 | 22 => some (spec_DrawMergeRows.e k)
 | 23 => some (impl_MergeRows.e k)
 | 24 => some (impl_RowsOk.e k)
 | 25 => some (spec_RowsOk.e k)
 | _ => none
def laws_FnMerged.l (k : Nat) : Nat → Option Lp
 | _ => none
def laws_FnMerged.n (k : Nat) : En := ⟨74, ti, eqs, fun t => [0, 1, 3, 4, 5, 6, 7].contains t, fun t => [2].contains t, laws_FnMerged.c k, laws_FnMerged.l k, 1, fun _ => none, fun t => [].contains t, fun _ => [], fun t => [].contains t, fun _ => true⟩
theorem laws_FnMerged.ok (k : Nat) (x : Den ((laws_FnMerged.e 0).ps.map Par.ty)) : evBody (laws_FnMerged.n k) (Try.f4.body.getD .skip) Try.f4.results.toList (laws_FnMerged.e k) x = (laws_FnMerged.e k).run x := by kernel_rfl
@[reducible] def laws_sameBytes.e (k : Nat) : Ent := ⟨2, [(.val false (.sl 5 (.i .u8))), (.val false (.sl 5 (.i .u8)))], [(.one, .b)], fun x => laws_sameBytes k x.1 x.2⟩
def laws_sameBytes.c (k : Nat) : FuncId → Option Ent
 | _ => none
@[reducible] def laws_sameBytes_l4.p (k : Nat) : Lp := ⟨⟨[], [(0, (.sl 5 (.i .u8))), (1, (.sl 5 (.i .u8))), (5, (.i .i64))]⟩, [(.ret, ⟨[], [(4, .b)]⟩), ((.exit 0), ⟨[], []⟩)], fun x => laws_sameBytes_l4 k x.1 x.2.1 x.2.2⟩
def laws_sameBytes.l (k : Nat) : Nat → Option Lp
 | 4 => some (laws_sameBytes_l4.p k)
 | _ => none
def laws_sameBytes.n (k : Nat) : En := ⟨26, ti, eqs, fun t => [0, 1, 2, 3, 5].contains t, fun t => [4].contains t, laws_sameBytes.c k, laws_sameBytes.l k, 2, fun _ => none, fun t => [].contains t, fun _ => [], fun t => [].contains t, fun _ => false⟩
theorem laws_sameBytes_l4.ok (k : Nat) (x : (laws_sameBytes_l4.p 0).ins.den) : evLoop (laws_sameBytes.n k) (laws_sameBytes_l4.p k) (loopAt 4 (Try.f47.body.getD .skip)) x = (laws_sameBytes_l4.p (k + 1)).run x := by kernel_rfl
theorem laws_sameBytes.ok (k : Nat) (x : Den ((laws_sameBytes.e 0).ps.map Par.ty)) : evBody (laws_sameBytes.n k) (Try.f47.body.getD .skip) Try.f47.results.toList (laws_sameBytes.e k) x = (laws_sameBytes.e k).run x := by kernel_rfl
@[reducible] def spec_DrawPutRows.e (k : Nat) : Ent := ⟨1, [(.val false (.sl 5 (.i .u8)))], [(.one, (.ow 28 (.pr .s (.pr (.pr (.i .i64) (.pr (.i .i64) (.i .i64))) (.pr .b (.i .i64))))))], fun x => spec_DrawPutRows k x⟩
def spec_DrawPutRows.c (k : Nat) : FuncId → Option Ent
 | 68 => some (spec_l1New.e k)
 | 69 => some (spec_l11Any.e k)
 | _ => none
def spec_DrawPutRows.l (k : Nat) : Nat → Option Lp
 | _ => none
def spec_DrawPutRows.n (k : Nat) : En := ⟨8, ti, eqs, fun t => [0, 1, 3].contains t, fun t => [2].contains t, spec_DrawPutRows.c k, spec_DrawPutRows.l k, 1, fun _ => none, fun t => [].contains t, fun _ => [], fun t => [].contains t, fun _ => false⟩
theorem spec_DrawPutRows.ok (k : Nat) (x : Den ((spec_DrawPutRows.e 0).ps.map Par.ty)) : evBody (spec_DrawPutRows.n k) (Try.f48.body.getD .skip) Try.f48.results.toList (spec_DrawPutRows.e k) x = (spec_DrawPutRows.e k).run x := by kernel_rfl
@[reducible] def impl_addNum.e (k : Nat) : Ent := ⟨2, [(.val false (.ow 5 (.i .u8))), (.val false (.i .i64))], [(.one, (.ow 5 (.i .u8)))], fun x => impl_addNum k x.1 x.2⟩
def impl_addNum.c (k : Nat) : FuncId → Option Ent
 | _ => none
@[reducible] def impl_addNum_l2.p (k : Nat) : Lp := ⟨⟨[], [(0, (.ow 5 (.i .u8))), (1, (.i .i64))]⟩, [((.exit 0), ⟨[], [(0, (.ow 5 (.i .u8))), (1, (.i .i64))]⟩)], fun x => impl_addNum_l2 k x.1 x.2⟩
def impl_addNum.l (k : Nat) : Nat → Option Lp
 | 2 => some (impl_addNum_l2.p k)
 | _ => none
def impl_addNum.n (k : Nat) : En := ⟨24, ti, eqs, fun t => [0, 1, 2, 3].contains t, fun t => [4].contains t, impl_addNum.c k, impl_addNum.l k, 2, fun _ => none, fun t => [].contains t, fun _ => [], fun t => [].contains t, fun _ => false⟩
theorem impl_addNum_l2.ok (k : Nat) (x : (impl_addNum_l2.p 0).ins.den) : evLoop (impl_addNum.n k) (impl_addNum_l2.p k) (loopAt 2 (Try.f101.body.getD .skip)) x = (impl_addNum_l2.p (k + 1)).run x := by kernel_rfl
theorem impl_addNum.ok (k : Nat) (x : Den ((impl_addNum.e 0).ps.map Par.ty)) : evBody (impl_addNum.n k) (Try.f101.body.getD .skip) Try.f101.results.toList (impl_addNum.e k) x = (impl_addNum.e k).run x := by kernel_rfl
@[reducible] def impl_bit.e (k : Nat) : Ent := ⟨1, [(.val false .b)], [(.one, (.i .i64))], fun x => impl_bit x⟩
def impl_bit.c (k : Nat) : FuncId → Option Ent
 | _ => none
def impl_bit.l (k : Nat) : Nat → Option Lp
 | _ => none
def impl_bit.n (k : Nat) : En := ⟨4, ti, eqs, fun t => [0, 1].contains t, fun t => [2].contains t, impl_bit.c k, impl_bit.l k, 1, fun _ => none, fun t => [].contains t, fun _ => [], fun t => [].contains t, fun _ => false⟩
theorem impl_bit.ok (k : Nat) (x : Den ((impl_bit.e 0).ps.map Par.ty)) : evBody (impl_bit.n k) (Try.f150.body.getD .skip) Try.f150.results.toList (impl_bit.e k) x = (impl_bit.e k).run x := by kernel_rfl
@[reducible] def impl_addStamp.e (k : Nat) : Ent := ⟨3, [(.val false (.ow 5 (.i .u8))), (.val true (.pr (.i .i64) (.pr (.i .i64) (.i .i64)))), (.val false .b)], [(.one, (.ow 5 (.i .u8)))], fun x => impl_addStamp k x.1 x.2.1 x.2.2⟩
def impl_addStamp.c (k : Nat) : FuncId → Option Ent
 | 101 => some (impl_addNum.e k)
 | 150 => some (impl_bit.e k)
 | _ => none
def impl_addStamp.l (k : Nat) : Nat → Option Lp
 | _ => none
def impl_addStamp.n (k : Nat) : En := ⟨20, ti, eqs, fun t => [0, 1, 2, 3, 4, 5].contains t, fun t => [6].contains t, impl_addStamp.c k, impl_addStamp.l k, 3, fun _ => none, fun t => [].contains t, fun _ => [], fun t => [].contains t, fun _ => false⟩
theorem impl_addStamp.ok (k : Nat) (x : Den ((impl_addStamp.e 0).ps.map Par.ty)) : evBody (impl_addStamp.n k) (Try.f102.body.getD .skip) Try.f102.results.toList (impl_addStamp.e k) x = (impl_addStamp.e k).run x := by kernel_rfl
@[reducible] def impl_addText.e (k : Nat) : Ent := ⟨2, [(.val false (.ow 5 (.i .u8))), (.val false .s)], [(.one, (.ow 5 (.i .u8)))], fun x => impl_addText k x.1 x.2⟩
def impl_addText.c (k : Nat) : FuncId → Option Ent
 | 101 => some (impl_addNum.e k)
 | _ => none
def impl_addText.l (k : Nat) : Nat → Option Lp
 | _ => none
def impl_addText.n (k : Nat) : En := ⟨11, ti, eqs, fun t => [0, 1, 2, 3].contains t, fun t => [4].contains t, impl_addText.c k, impl_addText.l k, 2, fun _ => none, fun t => [].contains t, fun _ => [], fun t => [].contains t, fun _ => false⟩
theorem impl_addText.ok (k : Nat) (x : Den ((impl_addText.e 0).ps.map Par.ty)) : evBody (impl_addText.n k) (Try.f103.body.getD .skip) Try.f103.results.toList (impl_addText.e k) x = (impl_addText.e k).run x := by kernel_rfl
@[reducible] def impl_PutRows.e (k : Nat) : Ent := ⟨1, [(.val false (.sl 28 (.pr .s (.pr (.pr (.i .i64) (.pr (.i .i64) (.i .i64))) (.pr .b (.i .i64))))))], [(.one, (.ow 5 (.i .u8)))], fun x => impl_PutRows k x⟩
def impl_PutRows.c (k : Nat) : FuncId → Option Ent
 | 24 => some (impl_RowsOk.e k)
 | 101 => some (impl_addNum.e k)
 | 102 => some (impl_addStamp.e k)
 | 103 => some (impl_addText.e k)
 | _ => none
@[reducible] def impl_PutRows_l5.p (k : Nat) : Lp := ⟨⟨[], [(3, (.ow 5 (.i .u8))), (12, (.sl 28 (.pr .s (.pr (.pr (.i .i64) (.pr (.i .i64) (.i .i64))) (.pr .b (.i .i64)))))), (13, (.i .i64)), (14, (.i .i64))]⟩, [((.exit 0), ⟨[], [(3, (.ow 5 (.i .u8)))]⟩)], fun x => impl_PutRows_l5 k x.1 x.2.1 x.2.2.1 x.2.2.2⟩
def impl_PutRows.l (k : Nat) : Nat → Option Lp
 | 5 => some (impl_PutRows_l5.p k)
 | _ => none
def impl_PutRows.n (k : Nat) : En := ⟨32, ti, eqs, fun t => [0, 1, 3, 4, 5].contains t, fun t => [2].contains t, impl_PutRows.c k, impl_PutRows.l k, 1, fun _ => none, fun t => [].contains t, fun _ => [], fun t => [].contains t, fun _ => false⟩
theorem impl_PutRows_l5.ok (k : Nat) (x : (impl_PutRows_l5.p 0).ins.den) : evLoop (impl_PutRows.n k) (impl_PutRows_l5.p k) (loopAt 5 (Try.f49.body.getD .skip)) x = (impl_PutRows_l5.p (k + 1)).run x := by kernel_rfl
theorem impl_PutRows.ok (k : Nat) (x : Den ((impl_PutRows.e 0).ps.map Par.ty)) : evBody (impl_PutRows.n k) (Try.f49.body.getD .skip) Try.f49.results.toList (impl_PutRows.e k) x = (impl_PutRows.e k).run x := by kernel_rfl
@[reducible] def spec_PutNum.e (k : Nat) : Ent := ⟨2, [(.val false (.sl 5 (.i .u8))), (.val false (.i .i64))], [(.one, (.ow 5 (.i .u8)))], fun x => spec_PutNum k x.1 x.2⟩
def spec_PutNum.c (k : Nat) : FuncId → Option Ent
 | _ => none
@[reducible] def spec_PutNum_l6.p (k : Nat) : Lp := ⟨⟨[], [(1, (.i .i64)), (5, (.ow 5 (.i .u8)))]⟩, [((.exit 0), ⟨[], [(1, (.i .i64)), (5, (.ow 5 (.i .u8)))]⟩)], fun x => spec_PutNum_l6 k x.1 x.2⟩
def spec_PutNum.l (k : Nat) : Nat → Option Lp
 | 6 => some (spec_PutNum_l6.p k)
 | _ => none
def spec_PutNum.n (k : Nat) : En := ⟨29, ti, eqs, fun t => [0, 1, 2, 3, 5].contains t, fun t => [4].contains t, spec_PutNum.c k, spec_PutNum.l k, 2, fun _ => none, fun t => [].contains t, fun _ => [], fun t => [].contains t, fun _ => false⟩
theorem spec_PutNum_l6.ok (k : Nat) (x : (spec_PutNum_l6.p 0).ins.den) : evLoop (spec_PutNum.n k) (spec_PutNum_l6.p k) (loopAt 6 (Try.f151.body.getD .skip)) x = (spec_PutNum_l6.p (k + 1)).run x := by kernel_rfl
theorem spec_PutNum.ok (k : Nat) (x : Den ((spec_PutNum.e 0).ps.map Par.ty)) : evBody (spec_PutNum.n k) (Try.f151.body.getD .skip) Try.f151.results.toList (spec_PutNum.e k) x = (spec_PutNum.e k).run x := by kernel_rfl
@[reducible] def spec_l8Stamp.e (k : Nat) : Ent := ⟨2, [(.val false (.sl 5 (.i .u8))), (.val true (.pr (.i .i64) (.pr (.i .i64) (.i .i64))))], [(.one, (.ow 5 (.i .u8)))], fun x => spec_l8Stamp k x.1 x.2⟩
def spec_l8Stamp.c (k : Nat) : FuncId → Option Ent
 | 151 => some (spec_PutNum.e k)
 | _ => none
def spec_l8Stamp.l (k : Nat) : Nat → Option Lp
 | _ => none
def spec_l8Stamp.n (k : Nat) : En := ⟨15, ti, eqs, fun t => [0, 1, 2, 3].contains t, fun t => [4].contains t, spec_l8Stamp.c k, spec_l8Stamp.l k, 2, fun _ => none, fun t => [].contains t, fun _ => [], fun t => [].contains t, fun _ => false⟩
theorem spec_l8Stamp.ok (k : Nat) (x : Den ((spec_l8Stamp.e 0).ps.map Par.ty)) : evBody (spec_l8Stamp.n k) (Try.f152.body.getD .skip) Try.f152.results.toList (spec_l8Stamp.e k) x = (spec_l8Stamp.e k).run x := by kernel_rfl
@[reducible] def spec_PutText.e (k : Nat) : Ent := ⟨2, [(.val false (.sl 5 (.i .u8))), (.val false .s)], [(.one, (.ow 5 (.i .u8)))], fun x => spec_PutText k x.1 x.2⟩
def spec_PutText.c (k : Nat) : FuncId → Option Ent
 | 151 => some (spec_PutNum.e k)
 | _ => none
def spec_PutText.l (k : Nat) : Nat → Option Lp
 | _ => none
def spec_PutText.n (k : Nat) : En := ⟨11, ti, eqs, fun t => [0, 1, 2, 3].contains t, fun t => [4].contains t, spec_PutText.c k, spec_PutText.l k, 2, fun _ => none, fun t => [].contains t, fun _ => [], fun t => [].contains t, fun _ => false⟩
theorem spec_PutText.ok (k : Nat) (x : Den ((spec_PutText.e 0).ps.map Par.ty)) : evBody (spec_PutText.n k) (Try.f153.body.getD .skip) Try.f153.results.toList (spec_PutText.e k) x = (spec_PutText.e k).run x := by kernel_rfl
@[reducible] def spec_l8Bool.e (k : Nat) : Ent := ⟨1, [(.val false .b)], [(.one, (.i .i64))], fun x => spec_l8Bool x⟩
def spec_l8Bool.c (k : Nat) : FuncId → Option Ent
 | _ => none
def spec_l8Bool.l (k : Nat) : Nat → Option Lp
 | _ => none
def spec_l8Bool.n (k : Nat) : En := ⟨4, ti, eqs, fun t => [0, 1].contains t, fun t => [2].contains t, spec_l8Bool.c k, spec_l8Bool.l k, 1, fun _ => none, fun t => [].contains t, fun _ => [], fun t => [].contains t, fun _ => false⟩
theorem spec_l8Bool.ok (k : Nat) (x : Den ((spec_l8Bool.e 0).ps.map Par.ty)) : evBody (spec_l8Bool.n k) (Try.f154.body.getD .skip) Try.f154.results.toList (spec_l8Bool.e k) x = (spec_l8Bool.e k).run x := by kernel_rfl
@[reducible] def spec_PutRows.e (k : Nat) : Ent := ⟨1, [(.val false (.sl 28 (.pr .s (.pr (.pr (.i .i64) (.pr (.i .i64) (.i .i64))) (.pr .b (.i .i64))))))], [(.one, (.ow 5 (.i .u8)))], fun x => spec_PutRows k x⟩
def spec_PutRows.c (k : Nat) : FuncId → Option Ent
 | 25 => some (spec_RowsOk.e k)
 | 151 => some (spec_PutNum.e k)
 | 152 => some (spec_l8Stamp.e k)
 | 153 => some (spec_PutText.e k)
 | 154 => some (spec_l8Bool.e k)
 | _ => none
@[reducible] def spec_PutRows_l5.p (k : Nat) : Lp := ⟨⟨[], [(0, (.sl 28 (.pr .s (.pr (.pr (.i .i64) (.pr (.i .i64) (.i .i64))) (.pr .b (.i .i64)))))), (3, (.ow 5 (.i .u8))), (4, (.i .i64))]⟩, [((.exit 0), ⟨[], [(3, (.ow 5 (.i .u8)))]⟩)], fun x => spec_PutRows_l5 k x.1 x.2.1 x.2.2⟩
def spec_PutRows.l (k : Nat) : Nat → Option Lp
 | 5 => some (spec_PutRows_l5.p k)
 | _ => none
def spec_PutRows.n (k : Nat) : En := ⟨47, ti, eqs, fun t => [0, 1, 3, 4].contains t, fun t => [2].contains t, spec_PutRows.c k, spec_PutRows.l k, 1, fun _ => none, fun t => [].contains t, fun _ => [], fun t => [].contains t, fun _ => false⟩
theorem spec_PutRows_l5.ok (k : Nat) (x : (spec_PutRows_l5.p 0).ins.den) : evLoop (spec_PutRows.n k) (spec_PutRows_l5.p k) (loopAt 5 (Try.f104.body.getD .skip)) x = (spec_PutRows_l5.p (k + 1)).run x := by kernel_rfl
theorem spec_PutRows.ok (k : Nat) (x : Den ((spec_PutRows.e 0).ps.map Par.ty)) : evBody (spec_PutRows.n k) (Try.f104.body.getD .skip) Try.f104.results.toList (spec_PutRows.e k) x = (spec_PutRows.e k).run x := by kernel_rfl
@[reducible] def spec_DrawGetRows.e (k : Nat) : Ent := ⟨1, [(.val false (.sl 5 (.i .u8)))], [(.one, (.sl 5 (.i .u8)))], fun x => spec_DrawGetRows k x⟩
def spec_DrawGetRows.c (k : Nat) : FuncId → Option Ent
 | 68 => some (spec_l1New.e k)
 | 74 => some (spec_l11Draw.e k)
 | 104 => some (spec_PutRows.e k)
 | 105 => some (spec_l1Below.e k)
 | 106 => some (spec_l1Int.e k)
 | _ => none
def spec_DrawGetRows.l (k : Nat) : Nat → Option Lp
 | _ => none
def spec_DrawGetRows.n (k : Nat) : En := ⟨33, ti, eqs, fun t => [0, 1, 3, 4].contains t, fun t => [2].contains t, spec_DrawGetRows.c k, spec_DrawGetRows.l k, 1, fun _ => none, fun t => [].contains t, fun _ => [], fun t => [].contains t, fun _ => false⟩
theorem spec_DrawGetRows.ok (k : Nat) (x : Den ((spec_DrawGetRows.e 0).ps.map Par.ty)) : evBody (spec_DrawGetRows.n k) (Try.f50.body.getD .skip) Try.f50.results.toList (spec_DrawGetRows.e k) x = (spec_DrawGetRows.e k).run x := by kernel_rfl
@[reducible] def impl_GetNum.e (k : Nat) : Ent := ⟨2, [(.val false (.sl 5 (.i .u8))), (.val false (.i .i64))], [(.one, (.i .i64)), (.one, (.i .i64)), (.one, .b)], fun x => impl_GetNum k x.1 x.2⟩
def impl_GetNum.c (k : Nat) : FuncId → Option Ent
 | _ => none
@[reducible] def impl_GetNum_l3.p (k : Nat) : Lp := ⟨⟨[], [(0, (.sl 5 (.i .u8))), (1, (.i .i64)), (7, (.i .i64)), (8, (.i .i64))]⟩, [(.ret, ⟨[], [(4, (.i .i64)), (5, (.i .i64)), (6, .b)]⟩), ((.exit 0), ⟨[], []⟩)], fun x => impl_GetNum_l3 k x.1 x.2.1 x.2.2.1 x.2.2.2⟩
def impl_GetNum.l (k : Nat) : Nat → Option Lp
 | 3 => some (impl_GetNum_l3.p k)
 | _ => none
def impl_GetNum.n (k : Nat) : En := ⟨57, ti, eqs, fun t => [0, 1, 2, 3, 7, 8, 9].contains t, fun t => [4, 5, 6].contains t, impl_GetNum.c k, impl_GetNum.l k, 2, fun _ => none, fun t => [].contains t, fun _ => [], fun t => [].contains t, fun _ => false⟩
theorem impl_GetNum_l3.ok (k : Nat) (x : (impl_GetNum_l3.p 0).ins.den) : evLoop (impl_GetNum.n k) (impl_GetNum_l3.p k) (loopAt 3 (Try.f156.body.getD .skip)) x = (impl_GetNum_l3.p (k + 1)).run x := by kernel_rfl
theorem impl_GetNum.ok (k : Nat) (x : Den ((impl_GetNum.e 0).ps.map Par.ty)) : evBody (impl_GetNum.n k) (Try.f156.body.getD .skip) Try.f156.results.toList (impl_GetNum.e k) x = (impl_GetNum.e k).run x := by kernel_rfl
@[reducible] def impl_reader_num.e (k : Nat) : Ent := ⟨1, [(.ptr (.pr (.sl 5 (.i .u8)) (.pr (.i .i64) .b)) (.pr (.sl 5 (.i .u8)) (.pr (.i .i64) .b)))], [(.one, (.i .i64))], fun x => impl_reader_num k x⟩
def impl_reader_num.c (k : Nat) : FuncId → Option Ent
 | 156 => some (impl_GetNum.e k)
 | _ => none
def impl_reader_num.l (k : Nat) : Nat → Option Lp
 | _ => none
def impl_reader_num.n (k : Nat) : En := ⟨35, ti, eqs, fun t => [0, 1, 3, 4, 5].contains t, fun t => [2].contains t, impl_reader_num.c k, impl_reader_num.l k, 1, fun _ => none, fun t => [].contains t, fun _ => [], fun t => [].contains t, fun _ => false⟩
theorem impl_reader_num.ok (k : Nat) (x : Den ((impl_reader_num.e 0).ps.map Par.ty)) : evBody (impl_reader_num.n k) (Try.f107.body.getD .skip) Try.f107.results.toList (impl_reader_num.e k) x = (impl_reader_num.e k).run x := by kernel_rfl
@[reducible] def impl_GetText.e (k : Nat) : Ent := ⟨2, [(.val false (.sl 5 (.i .u8))), (.val false (.i .i64))], [(.one, .s), (.one, (.i .i64)), (.one, .b)], fun x => impl_GetText k x.1 x.2⟩
def impl_GetText.c (k : Nat) : FuncId → Option Ent
 | 156 => some (impl_GetNum.e k)
 | _ => none
def impl_GetText.l (k : Nat) : Nat → Option Lp
 | _ => none
def impl_GetText.n (k : Nat) : En := ⟨37, ti, eqs, fun t => [0, 1, 2, 3, 7, 8, 9].contains t, fun t => [4, 5, 6].contains t, impl_GetText.c k, impl_GetText.l k, 2, fun _ => none, fun t => [].contains t, fun _ => [], fun t => [].contains t, fun _ => false⟩
theorem impl_GetText.ok (k : Nat) (x : Den ((impl_GetText.e 0).ps.map Par.ty)) : evBody (impl_GetText.n k) (Try.f157.body.getD .skip) Try.f157.results.toList (impl_GetText.e k) x = (impl_GetText.e k).run x := by kernel_rfl
@[reducible] def impl_reader_text.e (k : Nat) : Ent := ⟨1, [(.ptr (.pr (.sl 5 (.i .u8)) (.pr (.i .i64) .b)) (.pr (.sl 5 (.i .u8)) (.pr (.i .i64) .b)))], [(.one, .s)], fun x => impl_reader_text k x⟩
def impl_reader_text.c (k : Nat) : FuncId → Option Ent
 | 157 => some (impl_GetText.e k)
 | _ => none
def impl_reader_text.l (k : Nat) : Nat → Option Lp
 | _ => none
def impl_reader_text.n (k : Nat) : En := ⟨35, ti, eqs, fun t => [0, 1, 3, 4, 5].contains t, fun t => [2].contains t, impl_reader_text.c k, impl_reader_text.l k, 1, fun _ => none, fun t => [].contains t, fun _ => [], fun t => [].contains t, fun _ => false⟩
theorem impl_reader_text.ok (k : Nat) (x : Den ((impl_reader_text.e 0).ps.map Par.ty)) : evBody (impl_reader_text.n k) (Try.f108.body.getD .skip) Try.f108.results.toList (impl_reader_text.e k) x = (impl_reader_text.e k).run x := by kernel_rfl
@[reducible] def impl_reader_stamp.e (k : Nat) : Ent := ⟨1, [(.ptr (.pr (.sl 5 (.i .u8)) (.pr (.i .i64) .b)) (.pr (.sl 5 (.i .u8)) (.pr (.i .i64) .b)))], [(.agg, (.pr (.i .i64) (.pr (.i .i64) (.i .i64)))), (.one, .b)], fun x => impl_reader_stamp k x⟩
def impl_reader_stamp.c (k : Nat) : FuncId → Option Ent
 | 107 => some (impl_reader_num.e k)
 | _ => none
def impl_reader_stamp.l (k : Nat) : Nat → Option Lp
 | _ => none
def impl_reader_stamp.n (k : Nat) : En := ⟨31, ti, eqs, fun t => [0, 1, 4, 5].contains t, fun t => [3].contains t, impl_reader_stamp.c k, impl_reader_stamp.l k, 1, fun _ => none, fun t => [].contains t, fun _ => [], fun t => [].contains t, fun _ => false⟩
theorem impl_reader_stamp.ok (k : Nat) (x : Den ((impl_reader_stamp.e 0).ps.map Par.ty)) : evBody (impl_reader_stamp.n k) (Try.f109.body.getD .skip) Try.f109.results.toList (impl_reader_stamp.e k) x = (impl_reader_stamp.e k).run x := by kernel_rfl
@[reducible] def impl_GetRows.e (k : Nat) : Ent := ⟨1, [(.val false (.sl 5 (.i .u8)))], [(.one, (.ow 28 (.pr .s (.pr (.pr (.i .i64) (.pr (.i .i64) (.i .i64))) (.pr .b (.i .i64)))))), (.one, .b)], fun x => impl_GetRows k x⟩
def impl_GetRows.c (k : Nat) : FuncId → Option Ent
 | 24 => some (impl_RowsOk.e k)
 | 107 => some (impl_reader_num.e k)
 | 108 => some (impl_reader_text.e k)
 | 109 => some (impl_reader_stamp.e k)
 | _ => none
@[reducible] def impl_GetRows_l5.p (k : Nat) : Lp := ⟨⟨[(4, (.bp 11 0 0)), (12999, (.hd 3))], [(0, (.sl 5 (.i .u8))), (5, (.i .i64)), (6, (.ow 28 (.pr .s (.pr (.pr (.i .i64) (.pr (.i .i64) (.i .i64))) (.pr .b (.i .i64)))))), (7, (.i .i64)), (12000, (.sl 5 (.i .u8))), (12001, (.i .i64)), (12002, .b)]⟩, [((.exit 0), ⟨[(4, (.bp 11 0 0)), (12999, (.hd 3))], [(0, (.sl 5 (.i .u8))), (6, (.ow 28 (.pr .s (.pr (.pr (.i .i64) (.pr (.i .i64) (.i .i64))) (.pr .b (.i .i64)))))), (12000, (.sl 5 (.i .u8))), (12001, (.i .i64)), (12002, .b)]⟩)], fun x => impl_GetRows_l5 k x.1 x.2.1 x.2.2.1 x.2.2.2.1 x.2.2.2.2.1 x.2.2.2.2.2.1 x.2.2.2.2.2.2⟩
def impl_GetRows.l (k : Nat) : Nat → Option Lp
 | 5 => some (impl_GetRows_l5.p k)
 | _ => none
def impl_GetRows.n (k : Nat) : En := ⟨62, ti, eqs, fun t => [0, 1, 4, 5, 6, 7, 8].contains t, fun t => [2, 3].contains t, impl_GetRows.c k, impl_GetRows.l k, 1, fun _ => none, fun t => [].contains t, fun _ => [], fun t => [].contains t, fun _ => false⟩
theorem impl_GetRows_l5.ok (k : Nat) (x : (impl_GetRows_l5.p 0).ins.den) : evLoop (impl_GetRows.n k) (impl_GetRows_l5.p k) (loopAt 5 (Try.f51.body.getD .skip)) x = (impl_GetRows_l5.p (k + 1)).run x := by kernel_rfl
theorem impl_GetRows.ok (k : Nat) (x : Den ((impl_GetRows.e 0).ps.map Par.ty)) : evBody (impl_GetRows.n k) (Try.f51.body.getD .skip) Try.f51.results.toList (impl_GetRows.e k) x = (impl_GetRows.e k).run x := by kernel_rfl
@[reducible] def spec_GetNum.e (k : Nat) : Ent := ⟨2, [(.val false (.sl 5 (.i .u8))), (.val false (.i .i64))], [(.one, (.i .i64)), (.one, (.i .i64)), (.one, .b)], fun x => spec_GetNum k x.1 x.2⟩
def spec_GetNum.c (k : Nat) : FuncId → Option Ent
 | _ => none
@[reducible] def spec_GetNum_l3.p (k : Nat) : Lp := ⟨⟨[], [(0, (.sl 5 (.i .u8))), (1, (.i .i64)), (7, (.i .i64)), (8, (.i .i64))]⟩, [(.ret, ⟨[], [(4, (.i .i64)), (5, (.i .i64)), (6, .b)]⟩), ((.exit 0), ⟨[], []⟩)], fun x => spec_GetNum_l3 k x.1 x.2.1 x.2.2.1 x.2.2.2⟩
def spec_GetNum.l (k : Nat) : Nat → Option Lp
 | 3 => some (spec_GetNum_l3.p k)
 | _ => none
def spec_GetNum.n (k : Nat) : En := ⟨64, ti, eqs, fun t => [0, 1, 2, 3, 7, 8, 9].contains t, fun t => [4, 5, 6].contains t, spec_GetNum.c k, spec_GetNum.l k, 2, fun _ => none, fun t => [].contains t, fun _ => [], fun t => [].contains t, fun _ => false⟩
theorem spec_GetNum_l3.ok (k : Nat) (x : (spec_GetNum_l3.p 0).ins.den) : evLoop (spec_GetNum.n k) (spec_GetNum_l3.p k) (loopAt 3 (Try.f110.body.getD .skip)) x = (spec_GetNum_l3.p (k + 1)).run x := by kernel_rfl
theorem spec_GetNum.ok (k : Nat) (x : Den ((spec_GetNum.e 0).ps.map Par.ty)) : evBody (spec_GetNum.n k) (Try.f110.body.getD .skip) Try.f110.results.toList (spec_GetNum.e k) x = (spec_GetNum.e k).run x := by kernel_rfl
@[reducible] def spec_GetText.e (k : Nat) : Ent := ⟨2, [(.val false (.sl 5 (.i .u8))), (.val false (.i .i64))], [(.one, .s), (.one, (.i .i64)), (.one, .b)], fun x => spec_GetText k x.1 x.2⟩
def spec_GetText.c (k : Nat) : FuncId → Option Ent
 | 110 => some (spec_GetNum.e k)
 | _ => none
def spec_GetText.l (k : Nat) : Nat → Option Lp
 | _ => none
def spec_GetText.n (k : Nat) : En := ⟨37, ti, eqs, fun t => [0, 1, 2, 3, 7, 8, 9].contains t, fun t => [4, 5, 6].contains t, spec_GetText.c k, spec_GetText.l k, 2, fun _ => none, fun t => [].contains t, fun _ => [], fun t => [].contains t, fun _ => false⟩
theorem spec_GetText.ok (k : Nat) (x : Den ((spec_GetText.e 0).ps.map Par.ty)) : evBody (spec_GetText.n k) (Try.f111.body.getD .skip) Try.f111.results.toList (spec_GetText.e k) x = (spec_GetText.e k).run x := by kernel_rfl
@[reducible] def spec_l8GetStamp.e (k : Nat) : Ent := ⟨2, [(.val false (.sl 5 (.i .u8))), (.val false (.i .i64))], [(.agg, (.pr (.i .i64) (.pr (.i .i64) (.i .i64)))), (.one, (.i .i64)), (.one, .b)], fun x => spec_l8GetStamp k x.1 x.2⟩
def spec_l8GetStamp.c (k : Nat) : FuncId → Option Ent
 | 110 => some (spec_GetNum.e k)
 | _ => none
def spec_l8GetStamp.l (k : Nat) : Nat → Option Lp
 | _ => none
def spec_l8GetStamp.n (k : Nat) : En := ⟨49, ti, eqs, fun t => [0, 1, 2, 3, 7, 8, 9, 10, 11, 12, 13, 14, 15].contains t, fun t => [5, 6].contains t, spec_l8GetStamp.c k, spec_l8GetStamp.l k, 2, fun _ => none, fun t => [].contains t, fun _ => [], fun t => [].contains t, fun _ => false⟩
theorem spec_l8GetStamp.ok (k : Nat) (x : Den ((spec_l8GetStamp.e 0).ps.map Par.ty)) : evBody (spec_l8GetStamp.n k) (Try.f112.body.getD .skip) Try.f112.results.toList (spec_l8GetStamp.e k) x = (spec_l8GetStamp.e k).run x := by kernel_rfl
@[reducible] def spec_GetRows.e (k : Nat) : Ent := ⟨1, [(.val false (.sl 5 (.i .u8)))], [(.one, (.ow 28 (.pr .s (.pr (.pr (.i .i64) (.pr (.i .i64) (.i .i64))) (.pr .b (.i .i64)))))), (.one, .b)], fun x => spec_GetRows k x⟩
def spec_GetRows.c (k : Nat) : FuncId → Option Ent
 | 25 => some (spec_RowsOk.e k)
 | 110 => some (spec_GetNum.e k)
 | 111 => some (spec_GetText.e k)
 | 112 => some (spec_l8GetStamp.e k)
 | _ => none
@[reducible] def spec_GetRows_l7.p (k : Nat) : Lp := ⟨⟨[], [(0, (.sl 5 (.i .u8))), (4, (.ow 28 (.pr .s (.pr (.pr (.i .i64) (.pr (.i .i64) (.i .i64))) (.pr .b (.i .i64)))))), (5, (.i .i64)), (6, (.i .i64)), (8, (.ow 28 (.pr .s (.pr (.pr (.i .i64) (.pr (.i .i64) (.i .i64))) (.pr .b (.i .i64)))))), (9, (.i .i64))]⟩, [(.ret, ⟨[], [(2, (.ow 28 (.pr .s (.pr (.pr (.i .i64) (.pr (.i .i64) (.i .i64))) (.pr .b (.i .i64)))))), (3, .b)]⟩), ((.exit 0), ⟨[], [(0, (.sl 5 (.i .u8))), (4, (.ow 28 (.pr .s (.pr (.pr (.i .i64) (.pr (.i .i64) (.i .i64))) (.pr .b (.i .i64)))))), (6, (.i .i64)), (8, (.ow 28 (.pr .s (.pr (.pr (.i .i64) (.pr (.i .i64) (.i .i64))) (.pr .b (.i .i64))))))]⟩)], fun x => spec_GetRows_l7 k x.1 x.2.1 x.2.2.1 x.2.2.2.1 x.2.2.2.2.1 x.2.2.2.2.2⟩
def spec_GetRows.l (k : Nat) : Nat → Option Lp
 | 7 => some (spec_GetRows_l7.p k)
 | _ => none
def spec_GetRows.n (k : Nat) : En := ⟨110, ti, eqs, fun t => [0, 1, 4, 5, 6, 7, 8, 9, 10, 11, 12, 13, 14, 15, 16, 17, 18, 19, 20, 21].contains t, fun t => [2, 3].contains t, spec_GetRows.c k, spec_GetRows.l k, 1, fun _ => none, fun t => [].contains t, fun _ => [], fun t => [].contains t, fun _ => false⟩
theorem spec_GetRows_l7.ok (k : Nat) (x : (spec_GetRows_l7.p 0).ins.den) : evLoop (spec_GetRows.n k) (spec_GetRows_l7.p k) (loopAt 7 (Try.f52.body.getD .skip)) x = (spec_GetRows_l7.p (k + 1)).run x := by kernel_rfl
theorem spec_GetRows.ok (k : Nat) (x : Den ((spec_GetRows.e 0).ps.map Par.ty)) : evBody (spec_GetRows.n k) (Try.f52.body.getD .skip) Try.f52.results.toList (spec_GetRows.e k) x = (spec_GetRows.e k).run x := by kernel_rfl
@[reducible] def laws_FnRowBytes.e (k : Nat) : Ent := ⟨1, [(.val false (.sl 5 (.i .u8)))], [(.one, .b)], fun x => laws_FnRowBytes k x⟩
def laws_FnRowBytes.c (k : Nat) : FuncId → Option Ent
 | 15 => some (laws_big.e k)
 | 18 => some (laws_sameRows.e k)
 | 25 => some (spec_RowsOk.e k)
 | 47 => some (laws_sameBytes.e k)
 | 48 => some (spec_DrawPutRows.e k)
 | 49 => some (impl_PutRows.e k)
 | 50 => some (spec_DrawGetRows.e k)
 | 51 => some (impl_GetRows.e k)
 | 52 => some (spec_GetRows.e k)
 | _ => none
def laws_FnRowBytes.l (k : Nat) : Nat → Option Lp
 | _ => none
def laws_FnRowBytes.n (k : Nat) : En := ⟨60, ti, eqs, fun t => [0, 1, 3, 4, 5, 6, 7, 8, 9, 10, 11].contains t, fun t => [2].contains t, laws_FnRowBytes.c k, laws_FnRowBytes.l k, 1, fun _ => none, fun t => [].contains t, fun _ => [], fun t => [].contains t, fun _ => true⟩
theorem laws_FnRowBytes.ok (k : Nat) (x : Den ((laws_FnRowBytes.e 0).ps.map Par.ty)) : evBody (laws_FnRowBytes.n k) (Try.f9.body.getD .skip) Try.f9.results.toList (laws_FnRowBytes.e k) x = (laws_FnRowBytes.e k).run x := by kernel_rfl
@[reducible] def impl_namedOk.e (k : Nat) : Ent := ⟨1, [(.val false (.sl 73 (.pr .s (.sl 5 (.i .u8)))))], [(.one, .b)], fun x => impl_namedOk k x⟩
def impl_namedOk.c (k : Nat) : FuncId → Option Ent
 | 83 => some (impl_NameOk.e k)
 | _ => none
@[reducible] def impl_namedOk_l2.p (k : Nat) : Lp := ⟨⟨[], [(0, (.sl 73 (.pr .s (.sl 5 (.i .u8))))), (5, (.sl 73 (.pr .s (.sl 5 (.i .u8))))), (6, (.i .i64)), (7, (.i .i64))]⟩, [(.ret, ⟨[], [(2, .b)]⟩), ((.exit 0), ⟨[], [(0, (.sl 73 (.pr .s (.sl 5 (.i .u8)))))]⟩)], fun x => impl_namedOk_l2 k x.1 x.2.1 x.2.2.1 x.2.2.2⟩
def impl_namedOk.l (k : Nat) : Nat → Option Lp
 | 2 => some (impl_namedOk_l2.p k)
 | _ => none
def impl_namedOk.n (k : Nat) : En := ⟨41, ti, eqs, fun t => [0, 1, 3, 4].contains t, fun t => [2].contains t, impl_namedOk.c k, impl_namedOk.l k, 1, fun _ => none, fun t => [].contains t, fun _ => [], fun t => [].contains t, fun _ => false⟩
theorem impl_namedOk_l2.ok (k : Nat) (x : (impl_namedOk_l2.p 0).ins.den) : evLoop (impl_namedOk.n k) (impl_namedOk_l2.p k) (loopAt 2 (Try.f97.body.getD .skip)) x = (impl_namedOk_l2.p (k + 1)).run x := by kernel_rfl
theorem impl_namedOk.ok (k : Nat) (x : Den ((impl_namedOk.e 0).ps.map Par.ty)) : evBody (impl_namedOk.n k) (Try.f97.body.getD .skip) Try.f97.results.toList (impl_namedOk.e k) x = (impl_namedOk.e k).run x := by kernel_rfl
@[reducible] def impl_DiskOk.e (k : Nat) : Ent := ⟨1, [(.val true (.pr (.sl 73 (.pr .s (.sl 5 (.i .u8)))) (.sl 73 (.pr .s (.sl 5 (.i .u8))))))], [(.one, .b)], fun x => impl_DiskOk k x⟩
def impl_DiskOk.c (k : Nat) : FuncId → Option Ent
 | 97 => some (impl_namedOk.e k)
 | _ => none
def impl_DiskOk.l (k : Nat) : Nat → Option Lp
 | _ => none
def impl_DiskOk.n (k : Nat) : En := ⟨11, ti, eqs, fun t => [0, 1].contains t, fun t => [2].contains t, impl_DiskOk.c k, impl_DiskOk.l k, 1, fun _ => none, fun t => [].contains t, fun _ => [], fun t => [].contains t, fun _ => false⟩
theorem impl_DiskOk.ok (k : Nat) (x : Den ((impl_DiskOk.e 0).ps.map Par.ty)) : evBody (impl_DiskOk.n k) (Try.f44.body.getD .skip) Try.f44.results.toList (impl_DiskOk.e k) x = (impl_DiskOk.e k).run x := by kernel_rfl
@[reducible] def impl_copyBytes.e (k : Nat) : Ent := ⟨1, [(.val false (.sl 5 (.i .u8)))], [(.one, (.ow 5 (.i .u8)))], fun x => impl_copyBytes x⟩
def impl_copyBytes.c (k : Nat) : FuncId → Option Ent
 | _ => none
def impl_copyBytes.l (k : Nat) : Nat → Option Lp
 | _ => none
def impl_copyBytes.n (k : Nat) : En := ⟨5, ti, eqs, fun t => [0, 1].contains t, fun t => [2].contains t, impl_copyBytes.c k, impl_copyBytes.l k, 1, fun _ => none, fun t => [].contains t, fun _ => [], fun t => [].contains t, fun _ => false⟩
theorem impl_copyBytes.ok (k : Nat) (x : Den ((impl_copyBytes.e 0).ps.map Par.ty)) : evBody (impl_copyBytes.n k) (Try.f86.body.getD .skip) Try.f86.results.toList (impl_copyBytes.e k) x = (impl_copyBytes.e k).run x := by kernel_rfl
@[reducible] def impl_copyNamed.e (k : Nat) : Ent := ⟨1, [(.val false (.sl 73 (.pr .s (.sl 5 (.i .u8)))))], [(.one, (.ow 73 (.pr .s (.sl 5 (.i .u8)))))], fun x => impl_copyNamed k x⟩
def impl_copyNamed.c (k : Nat) : FuncId → Option Ent
 | 86 => some (impl_copyBytes.e k)
 | _ => none
@[reducible] def impl_copyNamed_l3.p (k : Nat) : Lp := ⟨⟨[], [(3, (.ow 73 (.pr .s (.sl 5 (.i .u8))))), (6, (.sl 73 (.pr .s (.sl 5 (.i .u8))))), (7, (.i .i64)), (8, (.i .i64))]⟩, [((.exit 0), ⟨[], [(3, (.ow 73 (.pr .s (.sl 5 (.i .u8)))))]⟩)], fun x => impl_copyNamed_l3 k x.1 x.2.1 x.2.2.1 x.2.2.2⟩
def impl_copyNamed.l (k : Nat) : Nat → Option Lp
 | 3 => some (impl_copyNamed_l3.p k)
 | _ => none
def impl_copyNamed.n (k : Nat) : En := ⟨23, ti, eqs, fun t => [0, 1, 3, 4, 5].contains t, fun t => [2].contains t, impl_copyNamed.c k, impl_copyNamed.l k, 1, fun _ => none, fun t => [].contains t, fun _ => [], fun t => [].contains t, fun _ => false⟩
theorem impl_copyNamed_l3.ok (k : Nat) (x : (impl_copyNamed_l3.p 0).ins.den) : evLoop (impl_copyNamed.n k) (impl_copyNamed_l3.p k) (loopAt 3 (Try.f96.body.getD .skip)) x = (impl_copyNamed_l3.p (k + 1)).run x := by kernel_rfl
theorem impl_copyNamed.ok (k : Nat) (x : Den ((impl_copyNamed.e 0).ps.map Par.ty)) : evBody (impl_copyNamed.n k) (Try.f96.body.getD .skip) Try.f96.results.toList (impl_copyNamed.e k) x = (impl_copyNamed.e k).run x := by kernel_rfl
@[reducible] def impl_copyDisk.e (k : Nat) : Ent := ⟨1, [(.val true (.pr (.sl 73 (.pr .s (.sl 5 (.i .u8)))) (.sl 73 (.pr .s (.sl 5 (.i .u8))))))], [(.agg, (.pr (.ow 73 (.pr .s (.sl 5 (.i .u8)))) (.ow 73 (.pr .s (.sl 5 (.i .u8))))))], fun x => impl_copyDisk k x⟩
def impl_copyDisk.c (k : Nat) : FuncId → Option Ent
 | 96 => some (impl_copyNamed.e k)
 | _ => none
def impl_copyDisk.l (k : Nat) : Nat → Option Lp
 | _ => none
def impl_copyDisk.n (k : Nat) : En := ⟨10, ti, eqs, fun t => [0, 1].contains t, fun t => [].contains t, impl_copyDisk.c k, impl_copyDisk.l k, 1, fun _ => none, fun t => [].contains t, fun _ => [], fun t => [].contains t, fun _ => false⟩
theorem impl_copyDisk.ok (k : Nat) (x : Den ((impl_copyDisk.e 0).ps.map Par.ty)) : evBody (impl_copyDisk.n k) (Try.f82.body.getD .skip) Try.f82.results.toList (impl_copyDisk.e k) x = (impl_copyDisk.e k).run x := by kernel_rfl
@[reducible] def impl_put.e (k : Nat) : Ent := ⟨2, [(.val false (.sl 73 (.pr .s (.sl 5 (.i .u8))))), (.val true (.pr .s (.sl 5 (.i .u8))))], [(.one, (.ow 73 (.pr .s (.sl 5 (.i .u8)))))], fun x => impl_put k x.1 x.2⟩
def impl_put.c (k : Nat) : FuncId → Option Ent
 | _ => none
@[reducible] def impl_put_l2.p (k : Nat) : Lp := ⟨⟨[(3, (.bp 3 0 0)), (4999, (.hd 2))], [(0, (.sl 73 (.pr .s (.sl 5 (.i .u8))))), (5, (.i .i64)), (4000, .s), (4001, (.sl 5 (.i .u8)))]⟩, [((.exit 0), ⟨[(3, (.bp 3 0 0)), (4999, (.hd 2))], [(0, (.sl 73 (.pr .s (.sl 5 (.i .u8))))), (5, (.i .i64)), (4000, .s), (4001, (.sl 5 (.i .u8)))]⟩)], fun x => impl_put_l2 k x.1 x.2.1 x.2.2.1 x.2.2.2⟩
def impl_put.l (k : Nat) : Nat → Option Lp
 | 2 => some (impl_put_l2.p k)
 | _ => none
def impl_put.n (k : Nat) : En := ⟨33, ti, eqs, fun t => [0, 1, 2, 3, 5].contains t, fun t => [4].contains t, impl_put.c k, impl_put.l k, 2, fun _ => none, fun t => [].contains t, fun _ => [], fun t => [].contains t, fun _ => false⟩
theorem impl_put_l2.ok (k : Nat) (x : (impl_put_l2.p 0).ins.den) : evLoop (impl_put.n k) (impl_put_l2.p k) (loopAt 2 (Try.f84.body.getD .skip)) x = (impl_put_l2.p (k + 1)).run x := by kernel_rfl
theorem impl_put.ok (k : Nat) (x : Den ((impl_put.e 0).ps.map Par.ty)) : evBody (impl_put.n k) (Try.f84.body.getD .skip) Try.f84.results.toList (impl_put.e k) x = (impl_put.e k).run x := by kernel_rfl
@[reducible] def impl_at.e (k : Nat) : Ent := ⟨2, [(.val false (.sl 73 (.pr .s (.sl 5 (.i .u8))))), (.val false .s)], [(.one, (.i .i64))], fun x => impl_at k x.1 x.2⟩
def impl_at.c (k : Nat) : FuncId → Option Ent
 | _ => none
@[reducible] def impl_at_l2.p (k : Nat) : Lp := ⟨⟨[], [(1, .s), (7, (.sl 73 (.pr .s (.sl 5 (.i .u8))))), (8, (.i .i64)), (9, (.i .i64))]⟩, [(.ret, ⟨[], [(4, (.i .i64))]⟩), ((.exit 0), ⟨[], []⟩)], fun x => impl_at_l2 k x.1 x.2.1 x.2.2.1 x.2.2.2⟩
def impl_at.l (k : Nat) : Nat → Option Lp
 | 2 => some (impl_at_l2.p k)
 | _ => none
def impl_at.n (k : Nat) : En := ⟨20, ti, eqs, fun t => [0, 1, 2, 3, 5, 6].contains t, fun t => [4].contains t, impl_at.c k, impl_at.l k, 2, fun _ => none, fun t => [].contains t, fun _ => [], fun t => [].contains t, fun _ => false⟩
theorem impl_at_l2.ok (k : Nat) (x : (impl_at_l2.p 0).ins.den) : evLoop (impl_at.n k) (impl_at_l2.p k) (loopAt 2 (Try.f92.body.getD .skip)) x = (impl_at_l2.p (k + 1)).run x := by kernel_rfl
theorem impl_at.ok (k : Nat) (x : Den ((impl_at.e 0).ps.map Par.ty)) : evBody (impl_at.n k) (Try.f92.body.getD .skip) Try.f92.results.toList (impl_at.e k) x = (impl_at.e k).run x := by kernel_rfl
@[reducible] def impl_drop.e (k : Nat) : Ent := ⟨2, [(.val false (.sl 73 (.pr .s (.sl 5 (.i .u8))))), (.val false .s)], [(.one, (.sl 73 (.pr .s (.sl 5 (.i .u8)))))], fun x => impl_drop k x.1 x.2⟩
def impl_drop.c (k : Nat) : FuncId → Option Ent
 | 92 => some (impl_at.e k)
 | _ => none
def impl_drop.l (k : Nat) : Nat → Option Lp
 | _ => none
def impl_drop.n (k : Nat) : En := ⟨21, ti, eqs, fun t => [0, 1, 2, 3, 5].contains t, fun t => [4].contains t, impl_drop.c k, impl_drop.l k, 2, fun _ => none, fun t => [].contains t, fun _ => [], fun t => [].contains t, fun _ => false⟩
theorem impl_drop.ok (k : Nat) (x : Den ((impl_drop.e 0).ps.map Par.ty)) : evBody (impl_drop.n k) (Try.f85.body.getD .skip) Try.f85.results.toList (impl_drop.e k) x = (impl_drop.e k).run x := by kernel_rfl
@[reducible] def impl_SyncName.e (k : Nat) : Ent := ⟨2, [(.val true (.pr (.sl 73 (.pr .s (.sl 5 (.i .u8)))) (.sl 73 (.pr .s (.sl 5 (.i .u8)))))), (.val false .s)], [(.agg, (.pr (.ow 73 (.pr .s (.sl 5 (.i .u8)))) (.sl 73 (.pr .s (.sl 5 (.i .u8)))))), (.one, .b)], fun x => impl_SyncName k x.1 x.2⟩
def impl_SyncName.c (k : Nat) : FuncId → Option Ent
 | 44 => some (impl_DiskOk.e k)
 | 82 => some (impl_copyDisk.e k)
 | 83 => some (impl_NameOk.e k)
 | 84 => some (impl_put.e k)
 | 85 => some (impl_drop.e k)
 | 86 => some (impl_copyBytes.e k)
 | 92 => some (impl_at.e k)
 | _ => none
def impl_SyncName.l (k : Nat) : Nat → Option Lp
 | _ => none
def impl_SyncName.n (k : Nat) : En := ⟨50, ti, eqs, fun t => [0, 1, 2, 3, 6, 7].contains t, fun t => [5].contains t, impl_SyncName.c k, impl_SyncName.l k, 2, fun _ => none, fun t => [18, 49].contains t, fun _ => [], fun t => [].contains t, fun _ => false⟩
theorem impl_SyncName.ok (k : Nat) (x : Den ((impl_SyncName.e 0).ps.map Par.ty)) : evBody (impl_SyncName.n k) (Try.f37.body.getD .skip) Try.f37.results.toList (impl_SyncName.e k) x = (impl_SyncName.e k).run x := by kernel_rfl
@[reducible] def spec_l3Any.e (k : Nat) : Ent := ⟨1, [(.ptr (.pr (.sl 5 (.i .u8)) (.pr (.i .i64) (.i .i64))) (.pr (.sl 5 (.i .u8)) (.pr (.i .i64) (.i .i64))))], [(.one, .s)], fun x => spec_l3Any x⟩
def spec_l3Any.c (k : Nat) : FuncId → Option Ent
 | 114 => some (spec_l1Once.e k)
 | 136 => some (spec_l3Name.e k)
 | 149 => some (spec_l1Str.e k)
 | _ => none
def spec_l3Any.l (k : Nat) : Nat → Option Lp
 | _ => none
def spec_l3Any.n (k : Nat) : En := ⟨10, ti, eqs, fun t => [0, 1].contains t, fun t => [2].contains t, spec_l3Any.c k, spec_l3Any.l k, 1, fun _ => none, fun t => [].contains t, fun _ => [], fun t => [].contains t, fun _ => false⟩
theorem spec_l3Any.ok (k : Nat) (x : Den ((spec_l3Any.e 0).ps.map Par.ty)) : evBody (spec_l3Any.n k) (Try.f99.body.getD .skip) Try.f99.results.toList (spec_l3Any.e k) x = (spec_l3Any.e k).run x := by kernel_rfl
@[reducible] def spec_l9CopyList.e (k : Nat) : Ent := ⟨1, [(.val false (.sl 73 (.pr .s (.sl 5 (.i .u8)))))], [(.one, (.ow 73 (.pr .s (.sl 5 (.i .u8)))))], fun x => spec_l9CopyList k x⟩
def spec_l9CopyList.c (k : Nat) : FuncId → Option Ent
 | _ => none
@[reducible] def spec_l9CopyList_l3.p (k : Nat) : Lp := ⟨⟨[], [(0, (.sl 73 (.pr .s (.sl 5 (.i .u8))))), (3, (.ow 73 (.pr .s (.sl 5 (.i .u8))))), (4, (.i .i64))]⟩, [((.exit 0), ⟨[], [(3, (.ow 73 (.pr .s (.sl 5 (.i .u8)))))]⟩)], fun x => spec_l9CopyList_l3 k x.1 x.2.1 x.2.2⟩
def spec_l9CopyList.l (k : Nat) : Nat → Option Lp
 | 3 => some (spec_l9CopyList_l3.p k)
 | _ => none
def spec_l9CopyList.n (k : Nat) : En := ⟨29, ti, eqs, fun t => [0, 1, 3, 4].contains t, fun t => [2].contains t, spec_l9CopyList.c k, spec_l9CopyList.l k, 1, fun _ => none, fun t => [].contains t, fun _ => [], fun t => [].contains t, fun _ => false⟩
theorem spec_l9CopyList_l3.ok (k : Nat) (x : (spec_l9CopyList_l3.p 0).ins.den) : evLoop (spec_l9CopyList.n k) (spec_l9CopyList_l3.p k) (loopAt 3 (Try.f143.body.getD .skip)) x = (spec_l9CopyList_l3.p (k + 1)).run x := by kernel_rfl
theorem spec_l9CopyList.ok (k : Nat) (x : Den ((spec_l9CopyList.e 0).ps.map Par.ty)) : evBody (spec_l9CopyList.n k) (Try.f143.body.getD .skip) Try.f143.results.toList (spec_l9CopyList.e k) x = (spec_l9CopyList.e k).run x := by kernel_rfl
@[reducible] def spec_l9Copy.e (k : Nat) : Ent := ⟨1, [(.val true (.pr (.sl 73 (.pr .s (.sl 5 (.i .u8)))) (.sl 73 (.pr .s (.sl 5 (.i .u8))))))], [(.agg, (.pr (.ow 73 (.pr .s (.sl 5 (.i .u8)))) (.ow 73 (.pr .s (.sl 5 (.i .u8))))))], fun x => spec_l9Copy k x⟩
def spec_l9Copy.c (k : Nat) : FuncId → Option Ent
 | 143 => some (spec_l9CopyList.e k)
 | _ => none
def spec_l9Copy.l (k : Nat) : Nat → Option Lp
 | _ => none
def spec_l9Copy.n (k : Nat) : En := ⟨10, ti, eqs, fun t => [0, 1].contains t, fun t => [].contains t, spec_l9Copy.c k, spec_l9Copy.l k, 1, fun _ => none, fun t => [].contains t, fun _ => [], fun t => [].contains t, fun _ => false⟩
theorem spec_l9Copy.ok (k : Nat) (x : Den ((spec_l9Copy.e 0).ps.map Par.ty)) : evBody (spec_l9Copy.n k) (Try.f78.body.getD .skip) Try.f78.results.toList (spec_l9Copy.e k) x = (spec_l9Copy.e k).run x := by kernel_rfl
@[reducible] def spec_l9Put.e (k : Nat) : Ent := ⟨3, [(.val false (.sl 73 (.pr .s (.sl 5 (.i .u8))))), (.val false .s), (.val false (.sl 5 (.i .u8)))], [(.one, (.ow 73 (.pr .s (.sl 5 (.i .u8)))))], fun x => spec_l9Put k x.1 x.2.1 x.2.2⟩
def spec_l9Put.c (k : Nat) : FuncId → Option Ent
 | _ => none
@[reducible] def spec_l9Put_l5.p (k : Nat) : Lp := ⟨⟨[(9, (.bp 9 0 0)), (10999, (.hd 2))], [(0, (.sl 73 (.pr .s (.sl 5 (.i .u8))))), (1, .s), (7, (.ow 73 (.pr .s (.sl 5 (.i .u8))))), (8, .b), (10, (.i .i64)), (10000, .s), (10001, (.sl 5 (.i .u8)))]⟩, [((.exit 0), ⟨[(9, (.bp 9 0 0)), (10999, (.hd 2))], [(7, (.ow 73 (.pr .s (.sl 5 (.i .u8))))), (8, .b), (10000, .s), (10001, (.sl 5 (.i .u8)))]⟩)], fun x => spec_l9Put_l5 k x.1 x.2.1 x.2.2.1 x.2.2.2.1 x.2.2.2.2.1 x.2.2.2.2.2.1 x.2.2.2.2.2.2⟩
def spec_l9Put.l (k : Nat) : Nat → Option Lp
 | 5 => some (spec_l9Put_l5.p k)
 | _ => none
def spec_l9Put.n (k : Nat) : En := ⟨59, ti, eqs, fun t => [0, 1, 2, 3, 4, 5, 7, 8, 9, 10].contains t, fun t => [6].contains t, spec_l9Put.c k, spec_l9Put.l k, 3, fun _ => none, fun t => [].contains t, fun _ => [], fun t => [].contains t, fun _ => false⟩
theorem spec_l9Put_l5.ok (k : Nat) (x : (spec_l9Put_l5.p 0).ins.den) : evLoop (spec_l9Put.n k) (spec_l9Put_l5.p k) (loopAt 5 (Try.f79.body.getD .skip)) x = (spec_l9Put_l5.p (k + 1)).run x := by kernel_rfl
theorem spec_l9Put.ok (k : Nat) (x : Den ((spec_l9Put.e 0).ps.map Par.ty)) : evBody (spec_l9Put.n k) (Try.f79.body.getD .skip) Try.f79.results.toList (spec_l9Put.e k) x = (spec_l9Put.e k).run x := by kernel_rfl
@[reducible] def spec_l9List.e (k : Nat) : Ent := ⟨1, [(.val false (.sl 73 (.pr .s (.sl 5 (.i .u8)))))], [(.one, .b)], fun x => spec_l9List k x⟩
def spec_l9List.c (k : Nat) : FuncId → Option Ent
 | 128 => some (spec_NameOk.e k)
 | _ => none
@[reducible] def spec_l9List_l2.p (k : Nat) : Lp := ⟨⟨[], [(0, (.sl 73 (.pr .s (.sl 5 (.i .u8))))), (3, (.i .i64))]⟩, [(.ret, ⟨[], [(2, .b)]⟩), ((.exit 0), ⟨[], [(0, (.sl 73 (.pr .s (.sl 5 (.i .u8)))))]⟩)], fun x => spec_l9List_l2 k x.1 x.2⟩
def spec_l9List.l (k : Nat) : Nat → Option Lp
 | 2 => some (spec_l9List_l2.p k)
 | _ => none
def spec_l9List.n (k : Nat) : En := ⟨47, ti, eqs, fun t => [0, 1, 3].contains t, fun t => [2].contains t, spec_l9List.c k, spec_l9List.l k, 1, fun _ => none, fun t => [].contains t, fun _ => [], fun t => [].contains t, fun _ => false⟩
theorem spec_l9List_l2.ok (k : Nat) (x : (spec_l9List_l2.p 0).ins.den) : evLoop (spec_l9List.n k) (spec_l9List_l2.p k) (loopAt 2 (Try.f165.body.getD .skip)) x = (spec_l9List_l2.p (k + 1)).run x := by kernel_rfl
theorem spec_l9List.ok (k : Nat) (x : Den ((spec_l9List.e 0).ps.map Par.ty)) : evBody (spec_l9List.n k) (Try.f165.body.getD .skip) Try.f165.results.toList (spec_l9List.e k) x = (spec_l9List.e k).run x := by kernel_rfl
@[reducible] def spec_DiskOk.e (k : Nat) : Ent := ⟨1, [(.val true (.pr (.sl 73 (.pr .s (.sl 5 (.i .u8)))) (.sl 73 (.pr .s (.sl 5 (.i .u8))))))], [(.one, .b)], fun x => spec_DiskOk k x⟩
def spec_DiskOk.c (k : Nat) : FuncId → Option Ent
 | 165 => some (spec_l9List.e k)
 | _ => none
def spec_DiskOk.l (k : Nat) : Nat → Option Lp
 | _ => none
def spec_DiskOk.n (k : Nat) : En := ⟨11, ti, eqs, fun t => [0, 1].contains t, fun t => [2].contains t, spec_DiskOk.c k, spec_DiskOk.l k, 1, fun _ => none, fun t => [].contains t, fun _ => [], fun t => [].contains t, fun _ => false⟩
theorem spec_DiskOk.ok (k : Nat) (x : Den ((spec_DiskOk.e 0).ps.map Par.ty)) : evBody (spec_DiskOk.n k) (Try.f127.body.getD .skip) Try.f127.results.toList (spec_DiskOk.e k) x = (spec_DiskOk.e k).run x := by kernel_rfl
@[reducible] def spec_l9Ends.e (k : Nat) : Ent := ⟨3, [(.val true (.pr (.sl 73 (.pr .s (.sl 5 (.i .u8)))) (.sl 73 (.pr .s (.sl 5 (.i .u8)))))), (.val true (.pr (.ow 73 (.pr .s (.sl 5 (.i .u8)))) (.ow 73 (.pr .s (.sl 5 (.i .u8)))))), (.val false .s)], [(.agg, (.pr (.ow 73 (.pr .s (.sl 5 (.i .u8)))) (.ow 73 (.pr .s (.sl 5 (.i .u8)))))), (.one, .b)], fun x => spec_l9Ends k x.1 x.2.1 x.2.2⟩
def spec_l9Ends.c (k : Nat) : FuncId → Option Ent
 | 78 => some (spec_l9Copy.e k)
 | 127 => some (spec_DiskOk.e k)
 | 128 => some (spec_NameOk.e k)
 | _ => none
def spec_l9Ends.l (k : Nat) : Nat → Option Lp
 | _ => none
def spec_l9Ends.n (k : Nat) : En := ⟨24, ti, eqs, fun t => [0, 1, 2, 3, 4, 5].contains t, fun t => [7].contains t, spec_l9Ends.c k, spec_l9Ends.l k, 3, fun _ => none, fun t => [23].contains t, fun _ => [], fun t => [].contains t, fun _ => false⟩
theorem spec_l9Ends.ok (k : Nat) (x : Den ((spec_l9Ends.e 0).ps.map Par.ty)) : evBody (spec_l9Ends.n k) (Try.f80.body.getD .skip) Try.f80.results.toList (spec_l9Ends.e k) x = (spec_l9Ends.e k).run x := by kernel_rfl
@[reducible] def spec_WriteName.e (k : Nat) : Ent := ⟨3, [(.val true (.pr (.sl 73 (.pr .s (.sl 5 (.i .u8)))) (.sl 73 (.pr .s (.sl 5 (.i .u8)))))), (.val false .s), (.val false (.sl 5 (.i .u8)))], [(.agg, (.pr (.ow 73 (.pr .s (.sl 5 (.i .u8)))) (.ow 73 (.pr .s (.sl 5 (.i .u8)))))), (.one, .b)], fun x => spec_WriteName k x.1 x.2.1 x.2.2⟩
def spec_WriteName.c (k : Nat) : FuncId → Option Ent
 | 78 => some (spec_l9Copy.e k)
 | 79 => some (spec_l9Put.e k)
 | 80 => some (spec_l9Ends.e k)
 | _ => none
def spec_WriteName.l (k : Nat) : Nat → Option Lp
 | _ => none
def spec_WriteName.n (k : Nat) : En := ⟨23, ti, eqs, fun t => [0, 1, 2, 3, 4, 5, 8].contains t, fun t => [7].contains t, spec_WriteName.c k, spec_WriteName.l k, 3, fun _ => none, fun t => [].contains t, fun _ => [], fun t => [].contains t, fun _ => false⟩
theorem spec_WriteName.ok (k : Nat) (x : Den ((spec_WriteName.e 0).ps.map Par.ty)) : evBody (spec_WriteName.n k) (Try.f27.body.getD .skip) Try.f27.results.toList (spec_WriteName.e k) x = (spec_WriteName.e k).run x := by kernel_rfl
@[reducible] def spec_l9At.e (k : Nat) : Ent := ⟨2, [(.val false (.sl 73 (.pr .s (.sl 5 (.i .u8))))), (.val false .s)], [(.one, (.i .i64))], fun x => spec_l9At k x.1 x.2⟩
def spec_l9At.c (k : Nat) : FuncId → Option Ent
 | _ => none
@[reducible] def spec_l9At_l2.p (k : Nat) : Lp := ⟨⟨[], [(0, (.sl 73 (.pr .s (.sl 5 (.i .u8))))), (1, .s), (5, (.i .i64))]⟩, [(.ret, ⟨[], [(4, (.i .i64))]⟩), ((.exit 0), ⟨[], []⟩)], fun x => spec_l9At_l2 k x.1 x.2.1 x.2.2⟩
def spec_l9At.l (k : Nat) : Nat → Option Lp
 | 2 => some (spec_l9At_l2.p k)
 | _ => none
def spec_l9At.n (k : Nat) : En := ⟨20, ti, eqs, fun t => [0, 1, 2, 3, 5].contains t, fun t => [4].contains t, spec_l9At.c k, spec_l9At.l k, 2, fun _ => none, fun t => [].contains t, fun _ => [], fun t => [].contains t, fun _ => false⟩
theorem spec_l9At_l2.ok (k : Nat) (x : (spec_l9At_l2.p 0).ins.den) : evLoop (spec_l9At.n k) (spec_l9At_l2.p k) (loopAt 2 (Try.f94.body.getD .skip)) x = (spec_l9At_l2.p (k + 1)).run x := by kernel_rfl
theorem spec_l9At.ok (k : Nat) (x : Den ((spec_l9At.e 0).ps.map Par.ty)) : evBody (spec_l9At.n k) (Try.f94.body.getD .skip) Try.f94.results.toList (spec_l9At.e k) x = (spec_l9At.e k).run x := by kernel_rfl
@[reducible] def spec_ReadName.e (k : Nat) : Ent := ⟨2, [(.val true (.pr (.sl 73 (.pr .s (.sl 5 (.i .u8)))) (.sl 73 (.pr .s (.sl 5 (.i .u8)))))), (.val false .s)], [(.one, (.ow 5 (.i .u8))), (.one, .b)], fun x => spec_ReadName k x.1 x.2⟩
def spec_ReadName.c (k : Nat) : FuncId → Option Ent
 | 94 => some (spec_l9At.e k)
 | _ => none
def spec_ReadName.l (k : Nat) : Nat → Option Lp
 | _ => none
def spec_ReadName.n (k : Nat) : En := ⟨22, ti, eqs, fun t => [0, 1, 2, 3, 6].contains t, fun t => [4, 5].contains t, spec_ReadName.c k, spec_ReadName.l k, 2, fun _ => none, fun t => [].contains t, fun _ => [], fun t => [].contains t, fun _ => false⟩
theorem spec_ReadName.ok (k : Nat) (x : Den ((spec_ReadName.e 0).ps.map Par.ty)) : evBody (spec_ReadName.n k) (Try.f90.body.getD .skip) Try.f90.results.toList (spec_ReadName.e k) x = (spec_ReadName.e k).run x := by kernel_rfl
@[reducible] def spec_l9Cut.e (k : Nat) : Ent := ⟨2, [(.val false (.sl 73 (.pr .s (.sl 5 (.i .u8))))), (.val false .s)], [(.one, (.ow 73 (.pr .s (.sl 5 (.i .u8)))))], fun x => spec_l9Cut k x.1 x.2⟩
def spec_l9Cut.c (k : Nat) : FuncId → Option Ent
 | _ => none
@[reducible] def spec_l9Cut_l3.p (k : Nat) : Lp := ⟨⟨[], [(0, (.sl 73 (.pr .s (.sl 5 (.i .u8))))), (1, .s), (5, (.ow 73 (.pr .s (.sl 5 (.i .u8))))), (6, (.i .i64))]⟩, [((.exit 0), ⟨[], [(5, (.ow 73 (.pr .s (.sl 5 (.i .u8)))))]⟩)], fun x => spec_l9Cut_l3 k x.1 x.2.1 x.2.2.1 x.2.2.2⟩
def spec_l9Cut.l (k : Nat) : Nat → Option Lp
 | 3 => some (spec_l9Cut_l3.p k)
 | _ => none
def spec_l9Cut.n (k : Nat) : En := ⟨29, ti, eqs, fun t => [0, 1, 2, 3, 5, 6].contains t, fun t => [4].contains t, spec_l9Cut.c k, spec_l9Cut.l k, 2, fun _ => none, fun t => [].contains t, fun _ => [], fun t => [].contains t, fun _ => false⟩
theorem spec_l9Cut_l3.ok (k : Nat) (x : (spec_l9Cut_l3.p 0).ins.den) : evLoop (spec_l9Cut.n k) (spec_l9Cut_l3.p k) (loopAt 3 (Try.f91.body.getD .skip)) x = (spec_l9Cut_l3.p (k + 1)).run x := by kernel_rfl
theorem spec_l9Cut.ok (k : Nat) (x : Den ((spec_l9Cut.e 0).ps.map Par.ty)) : evBody (spec_l9Cut.n k) (Try.f91.body.getD .skip) Try.f91.results.toList (spec_l9Cut.e k) x = (spec_l9Cut.e k).run x := by kernel_rfl
@[reducible] def spec_SyncName.e (k : Nat) : Ent := ⟨2, [(.val true (.pr (.sl 73 (.pr .s (.sl 5 (.i .u8)))) (.sl 73 (.pr .s (.sl 5 (.i .u8)))))), (.val false .s)], [(.agg, (.pr (.ow 73 (.pr .s (.sl 5 (.i .u8)))) (.ow 73 (.pr .s (.sl 5 (.i .u8)))))), (.one, .b)], fun x => spec_SyncName k x.1 x.2⟩
def spec_SyncName.c (k : Nat) : FuncId → Option Ent
 | 78 => some (spec_l9Copy.e k)
 | 79 => some (spec_l9Put.e k)
 | 80 => some (spec_l9Ends.e k)
 | 90 => some (spec_ReadName.e k)
 | 91 => some (spec_l9Cut.e k)
 | _ => none
def spec_SyncName.l (k : Nat) : Nat → Option Lp
 | _ => none
def spec_SyncName.n (k : Nat) : En := ⟨35, ti, eqs, fun t => [0, 1, 2, 3, 6, 7, 8].contains t, fun t => [5].contains t, spec_SyncName.c k, spec_SyncName.l k, 2, fun _ => none, fun t => [].contains t, fun _ => [], fun t => [].contains t, fun _ => false⟩
theorem spec_SyncName.ok (k : Nat) (x : Den ((spec_SyncName.e 0).ps.map Par.ty)) : evBody (spec_SyncName.n k) (Try.f36.body.getD .skip) Try.f36.results.toList (spec_SyncName.e k) x = (spec_SyncName.e k).run x := by kernel_rfl
@[reducible] def spec_RemoveName.e (k : Nat) : Ent := ⟨2, [(.val true (.pr (.sl 73 (.pr .s (.sl 5 (.i .u8)))) (.sl 73 (.pr .s (.sl 5 (.i .u8)))))), (.val false .s)], [(.agg, (.pr (.ow 73 (.pr .s (.sl 5 (.i .u8)))) (.ow 73 (.pr .s (.sl 5 (.i .u8)))))), (.one, .b)], fun x => spec_RemoveName k x.1 x.2⟩
def spec_RemoveName.c (k : Nat) : FuncId → Option Ent
 | 78 => some (spec_l9Copy.e k)
 | 80 => some (spec_l9Ends.e k)
 | 91 => some (spec_l9Cut.e k)
 | 94 => some (spec_l9At.e k)
 | _ => none
def spec_RemoveName.l (k : Nat) : Nat → Option Lp
 | _ => none
def spec_RemoveName.n (k : Nat) : En := ⟨26, ti, eqs, fun t => [0, 1, 2, 3, 6].contains t, fun t => [5].contains t, spec_RemoveName.c k, spec_RemoveName.l k, 2, fun _ => none, fun t => [14].contains t, fun _ => [], fun t => [].contains t, fun _ => false⟩
theorem spec_RemoveName.ok (k : Nat) (x : Den ((spec_RemoveName.e 0).ps.map Par.ty)) : evBody (spec_RemoveName.n k) (Try.f40.body.getD .skip) Try.f40.results.toList (spec_RemoveName.e k) x = (spec_RemoveName.e k).run x := by kernel_rfl
@[reducible] def spec_FileOk.e (k : Nat) : Ent := ⟨1, [(.val true (.pr (.pr (.i .i64) (.pr (.i .i64) (.i .i64))) (.pr .b (.sl 5 (.i .u8)))))], [(.one, .b)], fun x => spec_FileOk x⟩
def spec_FileOk.c (k : Nat) : FuncId → Option Ent
 | 140 => some (spec_StampOk.e k)
 | _ => none
def spec_FileOk.l (k : Nat) : Nat → Option Lp
 | _ => none
def spec_FileOk.n (k : Nat) : En := ⟨23, ti, eqs, fun t => [0, 1].contains t, fun t => [2].contains t, spec_FileOk.c k, spec_FileOk.l k, 1, fun _ => none, fun t => [].contains t, fun _ => [], fun t => [].contains t, fun _ => false⟩
theorem spec_FileOk.ok (k : Nat) (x : Den ((spec_FileOk.e 0).ps.map Par.ty)) : evBody (spec_FileOk.n k) (Try.f129.body.getD .skip) Try.f129.results.toList (spec_FileOk.e k) x = (spec_FileOk.e k).run x := by kernel_rfl
@[reducible] def spec_Crc.e (k : Nat) : Ent := ⟨1, [(.val false (.sl 5 (.i .u8)))], [(.one, (.i .i64))], fun x => spec_Crc k x⟩
def spec_Crc.c (k : Nat) : FuncId → Option Ent
 | _ => none
@[reducible] def spec_Crc_l7.p (k : Nat) : Lp := ⟨⟨[], [(0, (.sl 5 (.i .u8))), (3, (.i .i64)), (4, (.i .i64)), (5, (.i .i64))]⟩, [((.exit 2), ⟨[], [(0, (.sl 5 (.i .u8))), (3, (.i .i64)), (4, (.i .i64))]⟩)], fun x => spec_Crc_l7 k x.1 x.2.1 x.2.2.1 x.2.2.2⟩
@[reducible] def spec_Crc_l3.p (k : Nat) : Lp := ⟨⟨[], [(0, (.sl 5 (.i .u8))), (3, (.i .i64)), (4, (.i .i64))]⟩, [((.exit 0), ⟨[], [(3, (.i .i64))]⟩)], fun x => spec_Crc_l3 k x.1 x.2.1 x.2.2⟩
def spec_Crc.l (k : Nat) : Nat → Option Lp
 | 7 => some (spec_Crc_l7.p k)
 | 3 => some (spec_Crc_l3.p k)
 | _ => none
def spec_Crc.n (k : Nat) : En := ⟨34, ti, eqs, fun t => [0, 1, 3, 4, 5, 6].contains t, fun t => [2].contains t, spec_Crc.c k, spec_Crc.l k, 1, fun _ => none, fun t => [].contains t, fun _ => [], fun t => [].contains t, fun _ => false⟩
theorem spec_Crc_l7.ok (k : Nat) (x : (spec_Crc_l7.p 0).ins.den) : evLoop (spec_Crc.n k) (spec_Crc_l7.p k) (loopAt 7 (Try.f166.body.getD .skip)) x = (spec_Crc_l7.p (k + 1)).run x := by kernel_rfl
theorem spec_Crc_l3.ok (k : Nat) (x : (spec_Crc_l3.p 0).ins.den) : evLoop (spec_Crc.n k) (spec_Crc_l3.p k) (loopAt 3 (Try.f166.body.getD .skip)) x = (spec_Crc_l3.p (k + 1)).run x := by kernel_rfl
theorem spec_Crc.ok (k : Nat) (x : Den ((spec_Crc.e 0).ps.map Par.ty)) : evBody (spec_Crc.n k) (Try.f166.body.getD .skip) Try.f166.results.toList (spec_Crc.e k) x = (spec_Crc.e k).run x := by kernel_rfl
@[reducible] def spec_PutFile.e (k : Nat) : Ent := ⟨1, [(.val true (.pr (.pr (.i .i64) (.pr (.i .i64) (.i .i64))) (.pr .b (.sl 5 (.i .u8)))))], [(.one, (.ow 5 (.i .u8)))], fun x => spec_PutFile k x⟩
def spec_PutFile.c (k : Nat) : FuncId → Option Ent
 | 129 => some (spec_FileOk.e k)
 | 151 => some (spec_PutNum.e k)
 | 152 => some (spec_l8Stamp.e k)
 | 153 => some (spec_PutText.e k)
 | 154 => some (spec_l8Bool.e k)
 | 166 => some (spec_Crc.e k)
 | _ => none
def spec_PutFile.l (k : Nat) : Nat → Option Lp
 | _ => none
def spec_PutFile.n (k : Nat) : En := ⟨37, ti, eqs, fun t => [0, 1, 3, 4].contains t, fun t => [2].contains t, spec_PutFile.c k, spec_PutFile.l k, 1, fun _ => none, fun t => [].contains t, fun _ => [], fun t => [].contains t, fun _ => false⟩
theorem spec_PutFile.ok (k : Nat) (x : Den ((spec_PutFile.e 0).ps.map Par.ty)) : evBody (spec_PutFile.n k) (Try.f131.body.getD .skip) Try.f131.results.toList (spec_PutFile.e k) x = (spec_PutFile.e k).run x := by kernel_rfl
@[reducible] def spec_l9Draw.e (k : Nat) : Ent := ⟨1, [(.ptr (.pr (.sl 5 (.i .u8)) (.pr (.i .i64) (.i .i64))) (.pr (.sl 5 (.i .u8)) (.pr (.i .i64) (.i .i64))))], [(.agg, (.pr (.ow 73 (.pr .s (.sl 5 (.i .u8)))) (.ow 73 (.pr .s (.sl 5 (.i .u8))))))], fun x => spec_l9Draw k x⟩
def spec_l9Draw.c (k : Nat) : FuncId → Option Ent
 | 27 => some (spec_WriteName.e k)
 | 36 => some (spec_SyncName.e k)
 | 40 => some (spec_RemoveName.e k)
 | 105 => some (spec_l1Below.e k)
 | 131 => some (spec_PutFile.e k)
 | 136 => some (spec_l3Name.e k)
 | 137 => some (spec_l8Draw.e k)
 | _ => none
@[reducible] def spec_l9Draw_l3.p (k : Nat) : Lp := ⟨⟨[(0, (.bp 0 0 0)), (2, (.bp 2 0 0)), (3, (.bp 3 0 0)), (1999, (.hd 3)), (3999, (.hd 2)), (4999, (.hd 2))], [(4, (.i .i64)), (1000, (.sl 5 (.i .u8))), (1001, (.i .i64)), (1002, (.i .i64)), (3000, (.ow 73 (.pr .s (.sl 5 (.i .u8))))), (3001, (.ow 73 (.pr .s (.sl 5 (.i .u8))))), (4000, (.ow 73 (.pr .s (.sl 5 (.i .u8))))), (4001, (.ow 73 (.pr .s (.sl 5 (.i .u8)))))]⟩, [((.exit 0), ⟨[(2, (.bp 2 0 0)), (3, (.bp 3 0 0)), (3999, (.hd 2)), (4999, (.hd 2)), (1999, (.hd 3))], [(3000, (.ow 73 (.pr .s (.sl 5 (.i .u8))))), (3001, (.ow 73 (.pr .s (.sl 5 (.i .u8))))), (4000, (.ow 73 (.pr .s (.sl 5 (.i .u8))))), (4001, (.ow 73 (.pr .s (.sl 5 (.i .u8))))), (1000, (.sl 5 (.i .u8))), (1001, (.i .i64)), (1002, (.i .i64))]⟩)], fun x => spec_l9Draw_l3 k x.1 x.2.1 x.2.2.1 x.2.2.2.1 x.2.2.2.2.1 x.2.2.2.2.2.1 x.2.2.2.2.2.2.1 x.2.2.2.2.2.2.2⟩
def spec_l9Draw.l (k : Nat) : Nat → Option Lp
 | 3 => some (spec_l9Draw_l3.p k)
 | _ => none
def spec_l9Draw.n (k : Nat) : En := ⟨44, ti, eqs, fun t => [0, 1, 3, 4, 5].contains t, fun t => [].contains t, spec_l9Draw.c k, spec_l9Draw.l k, 1, fun _ => none, fun t => [43].contains t, fun _ => [], fun t => [].contains t, fun _ => false⟩
theorem spec_l9Draw_l3.ok (k : Nat) (x : (spec_l9Draw_l3.p 0).ins.den) : evLoop (spec_l9Draw.n k) (spec_l9Draw_l3.p k) (loopAt 3 (Try.f148.body.getD .skip)) x = (spec_l9Draw_l3.p (k + 1)).run x := by kernel_rfl
theorem spec_l9Draw.ok (k : Nat) (x : Den ((spec_l9Draw.e 0).ps.map Par.ty)) : evBody (spec_l9Draw.n k) (Try.f148.body.getD .skip) Try.f148.results.toList (spec_l9Draw.e k) x = (spec_l9Draw.e k).run x := by kernel_rfl
@[reducible] def spec_l9Any.e (k : Nat) : Ent := ⟨1, [(.ptr (.pr (.sl 5 (.i .u8)) (.pr (.i .i64) (.i .i64))) (.pr (.sl 5 (.i .u8)) (.pr (.i .i64) (.i .i64))))], [(.agg, (.pr (.ow 73 (.pr .s (.sl 5 (.i .u8)))) (.ow 73 (.pr .s (.sl 5 (.i .u8))))))], fun x => spec_l9Any k x⟩
def spec_l9Any.c (k : Nat) : FuncId → Option Ent
 | 99 => some (spec_l3Any.e k)
 | 105 => some (spec_l1Below.e k)
 | 148 => some (spec_l9Draw.e k)
 | _ => none
def spec_l9Any.l (k : Nat) : Nat → Option Lp
 | _ => none
def spec_l9Any.n (k : Nat) : En := ⟨33, ti, eqs, fun t => [0, 1, 3].contains t, fun t => [].contains t, spec_l9Any.c k, spec_l9Any.l k, 1, fun _ => none, fun t => [32].contains t, fun _ => [], fun t => [].contains t, fun _ => false⟩
theorem spec_l9Any.ok (k : Nat) (x : Den ((spec_l9Any.e 0).ps.map Par.ty)) : evBody (spec_l9Any.n k) (Try.f98.body.getD .skip) Try.f98.results.toList (spec_l9Any.e k) x = (spec_l9Any.e k).run x := by kernel_rfl
@[reducible] def spec_DrawReadName.e (k : Nat) : Ent := ⟨1, [(.val false (.sl 5 (.i .u8)))], [(.agg, (.pr (.ow 73 (.pr .s (.sl 5 (.i .u8)))) (.ow 73 (.pr .s (.sl 5 (.i .u8)))))), (.one, .s)], fun x => spec_DrawReadName k x⟩
def spec_DrawReadName.c (k : Nat) : FuncId → Option Ent
 | 68 => some (spec_l1New.e k)
 | 98 => some (spec_l9Any.e k)
 | 136 => some (spec_l3Name.e k)
 | _ => none
def spec_DrawReadName.l (k : Nat) : Nat → Option Lp
 | _ => none
def spec_DrawReadName.n (k : Nat) : En := ⟨11, ti, eqs, fun t => [0, 1, 4].contains t, fun t => [3].contains t, spec_DrawReadName.c k, spec_DrawReadName.l k, 1, fun _ => none, fun t => [].contains t, fun _ => [], fun t => [].contains t, fun _ => false⟩
theorem spec_DrawReadName.ok (k : Nat) (x : Den ((spec_DrawReadName.e 0).ps.map Par.ty)) : evBody (spec_DrawReadName.n k) (Try.f93.body.getD .skip) Try.f93.results.toList (spec_DrawReadName.e k) x = (spec_DrawReadName.e k).run x := by kernel_rfl
@[reducible] def spec_DrawRemoveName.e (k : Nat) : Ent := ⟨1, [(.val false (.sl 5 (.i .u8)))], [(.agg, (.pr (.ow 73 (.pr .s (.sl 5 (.i .u8)))) (.ow 73 (.pr .s (.sl 5 (.i .u8)))))), (.one, .s)], fun x => spec_DrawRemoveName k x⟩
def spec_DrawRemoveName.c (k : Nat) : FuncId → Option Ent
 | 93 => some (spec_DrawReadName.e k)
 | _ => none
def spec_DrawRemoveName.l (k : Nat) : Nat → Option Lp
 | _ => none
def spec_DrawRemoveName.n (k : Nat) : En := ⟨8, ti, eqs, fun t => [0, 1].contains t, fun t => [3].contains t, spec_DrawRemoveName.c k, spec_DrawRemoveName.l k, 1, fun _ => none, fun t => [].contains t, fun _ => [], fun t => [].contains t, fun _ => false⟩
theorem spec_DrawRemoveName.ok (k : Nat) (x : Den ((spec_DrawRemoveName.e 0).ps.map Par.ty)) : evBody (spec_DrawRemoveName.n k) (Try.f38.body.getD .skip) Try.f38.results.toList (spec_DrawRemoveName.e k) x = (spec_DrawRemoveName.e k).run x := by kernel_rfl
@[reducible] def impl_RemoveName.e (k : Nat) : Ent := ⟨2, [(.val true (.pr (.sl 73 (.pr .s (.sl 5 (.i .u8)))) (.sl 73 (.pr .s (.sl 5 (.i .u8)))))), (.val false .s)], [(.agg, (.pr (.sl 73 (.pr .s (.sl 5 (.i .u8)))) (.ow 73 (.pr .s (.sl 5 (.i .u8)))))), (.one, .b)], fun x => impl_RemoveName k x.1 x.2⟩
def impl_RemoveName.c (k : Nat) : FuncId → Option Ent
 | 44 => some (impl_DiskOk.e k)
 | 82 => some (impl_copyDisk.e k)
 | 85 => some (impl_drop.e k)
 | 92 => some (impl_at.e k)
 | _ => none
def impl_RemoveName.l (k : Nat) : Nat → Option Lp
 | _ => none
def impl_RemoveName.n (k : Nat) : En := ⟨26, ti, eqs, fun t => [0, 1, 2, 3, 6].contains t, fun t => [5].contains t, impl_RemoveName.c k, impl_RemoveName.l k, 2, fun _ => none, fun t => [19, 25].contains t, fun _ => [], fun t => [].contains t, fun _ => false⟩
theorem impl_RemoveName.ok (k : Nat) (x : Den ((impl_RemoveName.e 0).ps.map Par.ty)) : evBody (impl_RemoveName.n k) (Try.f39.body.getD .skip) Try.f39.results.toList (impl_RemoveName.e k) x = (impl_RemoveName.e k).run x := by kernel_rfl
@[reducible] def laws_sameNamed.e (k : Nat) : Ent := ⟨2, [(.val false (.sl 73 (.pr .s (.sl 5 (.i .u8))))), (.val false (.sl 73 (.pr .s (.sl 5 (.i .u8)))))], [(.one, .b)], fun x => laws_sameNamed k x.1 x.2⟩
def laws_sameNamed.c (k : Nat) : FuncId → Option Ent
 | 47 => some (laws_sameBytes.e k)
 | _ => none
@[reducible] def laws_sameNamed_l4.p (k : Nat) : Lp := ⟨⟨[], [(0, (.sl 73 (.pr .s (.sl 5 (.i .u8))))), (1, (.sl 73 (.pr .s (.sl 5 (.i .u8))))), (5, (.i .i64))]⟩, [(.ret, ⟨[], [(4, .b)]⟩), ((.exit 0), ⟨[], []⟩)], fun x => laws_sameNamed_l4 k x.1 x.2.1 x.2.2⟩
def laws_sameNamed.l (k : Nat) : Nat → Option Lp
 | 4 => some (laws_sameNamed_l4.p k)
 | _ => none
def laws_sameNamed.n (k : Nat) : En := ⟨42, ti, eqs, fun t => [0, 1, 2, 3, 5].contains t, fun t => [4].contains t, laws_sameNamed.c k, laws_sameNamed.l k, 2, fun _ => none, fun t => [].contains t, fun _ => [], fun t => [].contains t, fun _ => false⟩
theorem laws_sameNamed_l4.ok (k : Nat) (x : (laws_sameNamed_l4.p 0).ins.den) : evLoop (laws_sameNamed.n k) (laws_sameNamed_l4.p k) (loopAt 4 (Try.f41.body.getD .skip)) x = (laws_sameNamed_l4.p (k + 1)).run x := by kernel_rfl
theorem laws_sameNamed.ok (k : Nat) (x : Den ((laws_sameNamed.e 0).ps.map Par.ty)) : evBody (laws_sameNamed.n k) (Try.f41.body.getD .skip) Try.f41.results.toList (laws_sameNamed.e k) x = (laws_sameNamed.e k).run x := by kernel_rfl
@[reducible] def impl_ReadName.e (k : Nat) : Ent := ⟨2, [(.val true (.pr (.sl 73 (.pr .s (.sl 5 (.i .u8)))) (.sl 73 (.pr .s (.sl 5 (.i .u8)))))), (.val false .s)], [(.one, (.ow 5 (.i .u8))), (.one, .b)], fun x => impl_ReadName k x.1 x.2⟩
def impl_ReadName.c (k : Nat) : FuncId → Option Ent
 | 86 => some (impl_copyBytes.e k)
 | 92 => some (impl_at.e k)
 | _ => none
def impl_ReadName.l (k : Nat) : Nat → Option Lp
 | _ => none
def impl_ReadName.n (k : Nat) : En := ⟨20, ti, eqs, fun t => [0, 1, 2, 3, 6].contains t, fun t => [4, 5].contains t, impl_ReadName.c k, impl_ReadName.l k, 2, fun _ => none, fun t => [].contains t, fun _ => [], fun t => [].contains t, fun _ => false⟩
theorem impl_ReadName.ok (k : Nat) (x : Den ((impl_ReadName.e 0).ps.map Par.ty)) : evBody (impl_ReadName.n k) (Try.f42.body.getD .skip) Try.f42.results.toList (impl_ReadName.e k) x = (impl_ReadName.e k).run x := by kernel_rfl
@[reducible] def impl_withText.e (k : Nat) : Ent := ⟨2, [(.val false (.sl 9 .s)), (.val false .s)], [(.one, (.sl 9 .s))], fun x => impl_withText k x.1 x.2⟩
def impl_withText.c (k : Nat) : FuncId → Option Ent
 | _ => none
@[reducible] def impl_withText_l2.p (k : Nat) : Lp := ⟨⟨[], [(0, (.sl 9 .s)), (1, .s), (5, (.i .i64))]⟩, [((.exit 0), ⟨[], [(0, (.sl 9 .s)), (1, .s), (5, (.i .i64))]⟩)], fun x => impl_withText_l2 k x.1 x.2.1 x.2.2⟩
def impl_withText.l (k : Nat) : Nat → Option Lp
 | 2 => some (impl_withText_l2.p k)
 | _ => none
def impl_withText.n (k : Nat) : En := ⟨44, ti, eqs, fun t => [0, 1, 2, 3, 5].contains t, fun t => [4].contains t, impl_withText.c k, impl_withText.l k, 2, fun _ => none, fun t => [].contains t, fun _ => [], fun t => [].contains t, fun _ => false⟩
theorem impl_withText_l2.ok (k : Nat) (x : (impl_withText_l2.p 0).ins.den) : evLoop (impl_withText.n k) (impl_withText_l2.p k) (loopAt 2 (Try.f95.body.getD .skip)) x = (impl_withText_l2.p (k + 1)).run x := by kernel_rfl
theorem impl_withText.ok (k : Nat) (x : Den ((impl_withText.e 0).ps.map Par.ty)) : evBody (impl_withText.n k) (Try.f95.body.getD .skip) Try.f95.results.toList (impl_withText.e k) x = (impl_withText.e k).run x := by kernel_rfl
@[reducible] def impl_FallDisk.e (k : Nat) : Ent := ⟨2, [(.val true (.pr (.sl 73 (.pr .s (.sl 5 (.i .u8)))) (.sl 73 (.pr .s (.sl 5 (.i .u8)))))), (.val false (.sl 4 .b))], [(.agg, (.pr (.ow 73 (.pr .s (.sl 5 (.i .u8)))) (.ow 73 (.pr .s (.sl 5 (.i .u8))))))], fun x => impl_FallDisk k x.1 x.2⟩
def impl_FallDisk.c (k : Nat) : FuncId → Option Ent
 | 44 => some (impl_DiskOk.e k)
 | 82 => some (impl_copyDisk.e k)
 | 92 => some (impl_at.e k)
 | 95 => some (impl_withText.e k)
 | 96 => some (impl_copyNamed.e k)
 | _ => none
@[reducible] def impl_FallDisk_l11.p (k : Nat) : Lp := ⟨⟨[(2, (.bp 2 0 0)), (4, (.bp 4 0 0)), (3999, (.hd 2)), (5999, (.hd 2))], [(1, (.sl 4 .b)), (8, (.ow 73 (.pr .s (.sl 5 (.i .u8))))), (34, (.sl 9 .s)), (35, (.i .i64)), (36, (.i .i64)), (3000, (.sl 73 (.pr .s (.sl 5 (.i .u8))))), (3001, (.sl 73 (.pr .s (.sl 5 (.i .u8))))), (5000, (.ow 73 (.pr .s (.sl 5 (.i .u8))))), (5001, (.ow 73 (.pr .s (.sl 5 (.i .u8)))))]⟩, [((.exit 2), ⟨[(2, (.bp 2 0 0)), (4, (.bp 4 0 0)), (3999, (.hd 2)), (5999, (.hd 2))], [(8, (.ow 73 (.pr .s (.sl 5 (.i .u8))))), (3000, (.sl 73 (.pr .s (.sl 5 (.i .u8))))), (3001, (.sl 73 (.pr .s (.sl 5 (.i .u8))))), (5000, (.ow 73 (.pr .s (.sl 5 (.i .u8))))), (5001, (.ow 73 (.pr .s (.sl 5 (.i .u8)))))]⟩)], fun x => impl_FallDisk_l11 k x.1 x.2.1 x.2.2.1 x.2.2.2.1 x.2.2.2.2.1 x.2.2.2.2.2.1 x.2.2.2.2.2.2.1 x.2.2.2.2.2.2.2.1 x.2.2.2.2.2.2.2.2⟩
@[reducible] def impl_FallDisk_l5.p (k : Nat) : Lp := ⟨⟨[(2, (.bp 2 0 0)), (4, (.bp 4 0 0)), (3999, (.hd 2)), (5999, (.hd 2))], [(1, (.sl 4 .b)), (5, (.sl 9 .s)), (23, (.ow 73 (.pr .s (.sl 5 (.i .u8))))), (24, (.i .i64)), (25, (.i .i64)), (3000, (.sl 73 (.pr .s (.sl 5 (.i .u8))))), (3001, (.sl 73 (.pr .s (.sl 5 (.i .u8))))), (5000, (.ow 73 (.pr .s (.sl 5 (.i .u8))))), (5001, (.ow 73 (.pr .s (.sl 5 (.i .u8)))))]⟩, [((.exit 0), ⟨[(2, (.bp 2 0 0)), (4, (.bp 4 0 0)), (3999, (.hd 2)), (5999, (.hd 2))], [(1, (.sl 4 .b)), (5, (.sl 9 .s)), (3000, (.sl 73 (.pr .s (.sl 5 (.i .u8))))), (3001, (.sl 73 (.pr .s (.sl 5 (.i .u8))))), (5000, (.ow 73 (.pr .s (.sl 5 (.i .u8))))), (5001, (.ow 73 (.pr .s (.sl 5 (.i .u8)))))]⟩)], fun x => impl_FallDisk_l5 k x.1 x.2.1 x.2.2.1 x.2.2.2.1 x.2.2.2.2.1 x.2.2.2.2.2.1 x.2.2.2.2.2.2.1 x.2.2.2.2.2.2.2.1 x.2.2.2.2.2.2.2.2⟩
def impl_FallDisk.l (k : Nat) : Nat → Option Lp
 | 11 => some (impl_FallDisk_l11.p k)
 | 5 => some (impl_FallDisk_l5.p k)
 | _ => none
def impl_FallDisk.n (k : Nat) : En := ⟨78, ti, eqs, fun t => [0, 1, 2, 3, 5, 6, 7, 8, 9, 10, 11, 12].contains t, fun t => [].contains t, impl_FallDisk.c k, impl_FallDisk.l k, 2, fun _ => none, fun t => [].contains t, fun _ => [], fun t => [].contains t, fun _ => false⟩
theorem impl_FallDisk_l11.ok (k : Nat) (x : (impl_FallDisk_l11.p 0).ins.den) : evLoop (impl_FallDisk.n k) (impl_FallDisk_l11.p k) (loopAt 11 (Try.f43.body.getD .skip)) x = (impl_FallDisk_l11.p (k + 1)).run x := by kernel_rfl
theorem impl_FallDisk_l5.ok (k : Nat) (x : (impl_FallDisk_l5.p 0).ins.den) : evLoop (impl_FallDisk.n k) (impl_FallDisk_l5.p k) (loopAt 5 (Try.f43.body.getD .skip)) x = (impl_FallDisk_l5.p (k + 1)).run x := by kernel_rfl
theorem impl_FallDisk.ok (k : Nat) (x : Den ((impl_FallDisk.e 0).ps.map Par.ty)) : evBody (impl_FallDisk.n k) (Try.f43.body.getD .skip) Try.f43.results.toList (impl_FallDisk.e k) x = (impl_FallDisk.e k).run x := by kernel_rfl
@[reducible] def laws_FnRemoved.e (k : Nat) : Ent := ⟨1, [(.val false (.sl 5 (.i .u8)))], [(.one, .b)], fun x => laws_FnRemoved k x⟩
def laws_FnRemoved.c (k : Nat) : FuncId → Option Ent
 | 15 => some (laws_big.e k)
 | 37 => some (impl_SyncName.e k)
 | 38 => some (spec_DrawRemoveName.e k)
 | 39 => some (impl_RemoveName.e k)
 | 40 => some (spec_RemoveName.e k)
 | 41 => some (laws_sameNamed.e k)
 | 42 => some (impl_ReadName.e k)
 | 43 => some (impl_FallDisk.e k)
 | 44 => some (impl_DiskOk.e k)
 | _ => none
def laws_FnRemoved.l (k : Nat) : Nat → Option Lp
 | _ => none
def laws_FnRemoved.n (k : Nat) : En := ⟨94, ti, eqs, fun t => [0, 1, 3, 4, 5, 6, 7, 8, 9, 10, 11, 12, 13, 14].contains t, fun t => [2].contains t, laws_FnRemoved.c k, laws_FnRemoved.l k, 1, fun _ => none, fun t => [].contains t, fun _ => [], fun t => [].contains t, fun _ => true⟩
theorem laws_FnRemoved.ok (k : Nat) (x : Den ((laws_FnRemoved.e 0).ps.map Par.ty)) : evBody (laws_FnRemoved.n k) (Try.f7.body.getD .skip) Try.f7.results.toList (laws_FnRemoved.e k) x = (laws_FnRemoved.e k).run x := by kernel_rfl
@[reducible] def spec_DrawSyncName.e (k : Nat) : Ent := ⟨1, [(.val false (.sl 5 (.i .u8)))], [(.agg, (.pr (.ow 73 (.pr .s (.sl 5 (.i .u8)))) (.ow 73 (.pr .s (.sl 5 (.i .u8)))))), (.one, .s)], fun x => spec_DrawSyncName k x⟩
def spec_DrawSyncName.c (k : Nat) : FuncId → Option Ent
 | 68 => some (spec_l1New.e k)
 | 98 => some (spec_l9Any.e k)
 | 99 => some (spec_l3Any.e k)
 | _ => none
def spec_DrawSyncName.l (k : Nat) : Nat → Option Lp
 | _ => none
def spec_DrawSyncName.n (k : Nat) : En := ⟨11, ti, eqs, fun t => [0, 1, 4].contains t, fun t => [3].contains t, spec_DrawSyncName.c k, spec_DrawSyncName.l k, 1, fun _ => none, fun t => [].contains t, fun _ => [], fun t => [].contains t, fun _ => false⟩
theorem spec_DrawSyncName.ok (k : Nat) (x : Den ((spec_DrawSyncName.e 0).ps.map Par.ty)) : evBody (spec_DrawSyncName.n k) (Try.f45.body.getD .skip) Try.f45.results.toList (spec_DrawSyncName.e k) x = (spec_DrawSyncName.e k).run x := by kernel_rfl
@[reducible] def spec_l9Keep.e (k : Nat) : Ent := ⟨1, [(.ptr (.pr (.sl 5 (.i .u8)) (.pr (.i .i64) (.i .i64))) (.pr (.sl 5 (.i .u8)) (.pr (.i .i64) (.i .i64))))], [(.one, (.ow 4 .b))], fun x => spec_l9Keep k x⟩
def spec_l9Keep.c (k : Nat) : FuncId → Option Ent
 | 105 => some (spec_l1Below.e k)
 | 114 => some (spec_l1Once.e k)
 | _ => none
@[reducible] def spec_l9Keep_l3.p (k : Nat) : Lp := ⟨⟨[(0, (.bp 0 0 0)), (1999, (.hd 3))], [(3, (.ow 4 .b)), (4, (.i .i64)), (1000, (.sl 5 (.i .u8))), (1001, (.i .i64)), (1002, (.i .i64))]⟩, [((.exit 0), ⟨[(1999, (.hd 3))], [(3, (.ow 4 .b)), (1000, (.sl 5 (.i .u8))), (1001, (.i .i64)), (1002, (.i .i64))]⟩)], fun x => spec_l9Keep_l3 k x.1 x.2.1 x.2.2.1 x.2.2.2.1 x.2.2.2.2⟩
def spec_l9Keep.l (k : Nat) : Nat → Option Lp
 | 3 => some (spec_l9Keep_l3.p k)
 | _ => none
def spec_l9Keep.n (k : Nat) : En := ⟨18, ti, eqs, fun t => [0, 1, 3, 4].contains t, fun t => [2].contains t, spec_l9Keep.c k, spec_l9Keep.l k, 1, fun _ => none, fun t => [].contains t, fun _ => [], fun t => [].contains t, fun _ => false⟩
theorem spec_l9Keep_l3.ok (k : Nat) (x : (spec_l9Keep_l3.p 0).ins.den) : evLoop (spec_l9Keep.n k) (spec_l9Keep_l3.p k) (loopAt 3 (Try.f100.body.getD .skip)) x = (spec_l9Keep_l3.p (k + 1)).run x := by kernel_rfl
theorem spec_l9Keep.ok (k : Nat) (x : Den ((spec_l9Keep.e 0).ps.map Par.ty)) : evBody (spec_l9Keep.n k) (Try.f100.body.getD .skip) Try.f100.results.toList (spec_l9Keep.e k) x = (spec_l9Keep.e k).run x := by kernel_rfl
@[reducible] def spec_DrawFallDisk.e (k : Nat) : Ent := ⟨1, [(.val false (.sl 5 (.i .u8)))], [(.agg, (.pr (.ow 73 (.pr .s (.sl 5 (.i .u8)))) (.ow 73 (.pr .s (.sl 5 (.i .u8)))))), (.one, (.ow 4 .b))], fun x => spec_DrawFallDisk k x⟩
def spec_DrawFallDisk.c (k : Nat) : FuncId → Option Ent
 | 68 => some (spec_l1New.e k)
 | 98 => some (spec_l9Any.e k)
 | 100 => some (spec_l9Keep.e k)
 | _ => none
def spec_DrawFallDisk.l (k : Nat) : Nat → Option Lp
 | _ => none
def spec_DrawFallDisk.n (k : Nat) : En := ⟨11, ti, eqs, fun t => [0, 1, 4].contains t, fun t => [3].contains t, spec_DrawFallDisk.c k, spec_DrawFallDisk.l k, 1, fun _ => none, fun t => [].contains t, fun _ => [], fun t => [].contains t, fun _ => false⟩
theorem spec_DrawFallDisk.ok (k : Nat) (x : Den ((spec_DrawFallDisk.e 0).ps.map Par.ty)) : evBody (spec_DrawFallDisk.n k) (Try.f46.body.getD .skip) Try.f46.results.toList (spec_DrawFallDisk.e k) x = (spec_DrawFallDisk.e k).run x := by kernel_rfl
@[reducible] def laws_FnSynced.e (k : Nat) : Ent := ⟨1, [(.val false (.sl 5 (.i .u8)))], [(.one, .b)], fun x => laws_FnSynced k x⟩
def laws_FnSynced.c (k : Nat) : FuncId → Option Ent
 | 15 => some (laws_big.e k)
 | 36 => some (spec_SyncName.e k)
 | 37 => some (impl_SyncName.e k)
 | 41 => some (laws_sameNamed.e k)
 | 42 => some (impl_ReadName.e k)
 | 43 => some (impl_FallDisk.e k)
 | 44 => some (impl_DiskOk.e k)
 | 45 => some (spec_DrawSyncName.e k)
 | 46 => some (spec_DrawFallDisk.e k)
 | 47 => some (laws_sameBytes.e k)
 | _ => none
def laws_FnSynced.l (k : Nat) : Nat → Option Lp
 | _ => none
def laws_FnSynced.n (k : Nat) : En := ⟨89, ti, eqs, fun t => [0, 1, 3, 4, 5, 6, 7, 8, 9, 10, 11, 12, 13, 14].contains t, fun t => [2].contains t, laws_FnSynced.c k, laws_FnSynced.l k, 1, fun _ => none, fun t => [].contains t, fun _ => [], fun t => [].contains t, fun _ => true⟩
theorem laws_FnSynced.ok (k : Nat) (x : Den ((laws_FnSynced.e 0).ps.map Par.ty)) : evBody (laws_FnSynced.n k) (Try.f8.body.getD .skip) Try.f8.results.toList (laws_FnSynced.e k) x = (laws_FnSynced.e k).run x := by kernel_rfl
end Go.Proofs.Ytehkignjdbkeiaa.Vf
