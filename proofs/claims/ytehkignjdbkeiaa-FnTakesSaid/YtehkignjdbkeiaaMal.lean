import Derived.Test.YtehkignjdbkeiaaMab
import Derived.Test.YtehkignjdbkeiaaMak
import Derived.Test.YtehkignjdbkeiaaProg
import Derived.KernelRfl
namespace Go.Proofs.Ytehkignjdbkeiaa.Vf
open Go Go.Proofs
set_option linter.unusedVariables false
@[reducible] def t0 : Ty := .sl 4 .b
@[reducible] def t1 : Ty := .sl 9 .s
@[reducible] def t2 : Ty := .ow 4 .b
@[reducible] def t3 : Ty := .sl 5 (.i .u8)
@[reducible] def t4 : Ty := .ow 5 (.i .u8)
@[reducible] def t5 : Ty := .sl 3 (.i .i64)
@[reducible] def t6 : Ty := .pr .s (.i .u64)
@[reducible] def t7 : Ty := .pr (.i .i64) (.i .i64)
@[reducible] def t8 : Ty := .pr .s t3
@[reducible] def t9 : Ty := .pr .s t4
@[reducible] def t10 : Ty := .sl 73 t8
@[reducible] def t11 : Ty := .ow 73 t8
@[reducible] def t12 : Ty := .ow 73 t9
@[reducible] def t13 : Ty := .sl 158 t8
@[reducible] def t14 : Ty := .pr (.i .i64) t7
@[reducible] def t15 : Ty := .pr t3 (.pr (.i .i64) .b)
@[reducible] def t16 : Ty := .pr t3 t7
@[reducible] def t17 : Ty := .pr (.i .i64) (.pr (.i .i64) (.pr .b (.i .u8)))
@[reducible] def t18 : Ty := .pr t14 (.pr .b t3)
@[reducible] def t19 : Ty := .pr t14 (.pr .b t4)
@[reducible] def t20 : Ty := .pr .s (.pr t14 (.pr .b (.i .i64)))
@[reducible] def t21 : Ty := .pr t10 t10
@[reducible] def t22 : Ty := .pr t11 t11
@[reducible] def t23 : Ty := .pr t12 t12
@[reducible] def t24 : Ty := .pr t13 t13
@[reducible] def t25 : Ty := .sl 28 t20
@[reducible] def t26 : Ty := .ow 28 t20
@[reducible] def t27 : Ty := .pr t26 t26
@[reducible] def t28 : Ty := .pr t25 t26
@[reducible] def t29 : Ty := .pr (.i .i64) (.pr t21 (.pr t25 t25))
@[reducible] def t30 : Ty := .pr (.i .i64) (.pr t22 t27)
@[reducible] def t31 : Ty := .pr (.i .i64) (.pr t22 t28)
@[reducible] def t32 : Ty := .pr (.i .i64) (.pr t21 t27)
@[reducible] def t33 : Ty := .pr (.i .i64) (.pr t21 t28)
def tiL : List (Nat × TI) := [(2, ⟨(.i .i64), false, 8, []⟩),
 (3, ⟨(.i .i64), false, 8, []⟩),
 (4, ⟨.b, false, 1, []⟩),
 (5, ⟨(.i .u8), false, 1, []⟩),
 (6, ⟨(.i .u8), false, 1, []⟩),
 (7, ⟨t17, true, 24, [(0, 1, false), (1, 1, false), (2, 1, false), (3, 1, false)]⟩),
 (8, ⟨t17, true, 24, [(0, 1, false), (1, 1, false), (2, 1, false), (3, 1, false)]⟩),
 (9, ⟨.s, false, 16, []⟩),
 (10, ⟨.s, false, 16, []⟩),
 (11, ⟨.s, false, 16, []⟩),
 (12, ⟨(.i .u64), false, 8, []⟩),
 (13, ⟨t6, true, 24, [(0, 1, false), (1, 1, false)]⟩),
 (14, ⟨t6, true, 24, [(0, 1, false), (1, 1, false)]⟩),
 (21, ⟨(.i .i32), false, 4, []⟩),
 (22, ⟨t3, false, 24, []⟩),
 (24, ⟨t25, false, 24, []⟩),
 (25, ⟨t14, true, 24, [(0, 1, false), (1, 1, false), (2, 1, false)]⟩),
 (26, ⟨t14, true, 24, [(0, 1, false), (1, 1, false), (2, 1, false)]⟩),
 (27, ⟨t20, true, 56, [(0, 1, false), (1, 3, true), (4, 1, false), (5, 1, false)]⟩),
 (28, ⟨t20, true, 56, [(0, 1, false), (1, 3, true), (4, 1, false), (5, 1, false)]⟩),
 (38, ⟨t13, false, 24, []⟩),
 (39, ⟨t24, true, 48, [(0, 1, false), (1, 1, false)]⟩),
 (40, ⟨t24, true, 48, [(0, 1, false), (1, 1, false)]⟩),
 (42, ⟨t10, false, 24, []⟩),
 (43, ⟨t21, true, 48, [(0, 1, false), (1, 1, false)]⟩),
 (44, ⟨t21, true, 48, [(0, 1, false), (1, 1, false)]⟩),
 (62, ⟨t0, false, 24, []⟩),
 (72, ⟨t8, true, 40, [(0, 1, false), (1, 1, false)]⟩),
 (73, ⟨t8, true, 40, [(0, 1, false), (1, 1, false)]⟩),
 (74, ⟨t29, true, 104, [(0, 1, false), (1, 2, true), (3, 1, false), (4, 1, false)]⟩),
 (75, ⟨t29, true, 104, [(0, 1, false), (1, 2, true), (3, 1, false), (4, 1, false)]⟩),
 (81, ⟨t18, true, 56, [(0, 3, true), (3, 1, false), (4, 1, false)]⟩),
 (82, ⟨t18, true, 56, [(0, 3, true), (3, 1, false), (4, 1, false)]⟩),
 (90, ⟨t14, true, 24, [(0, 1, false), (1, 1, false), (2, 1, false)]⟩),
 (91, ⟨t18, true, 56, [(0, 3, true), (3, 1, false), (4, 1, false)]⟩),
 (92, ⟨t18, true, 56, [(0, 3, true), (3, 1, false), (4, 1, false)]⟩),
 (114, ⟨t1, false, 24, []⟩),
 (126, ⟨t5, false, 24, []⟩),
 (128, ⟨t15, true, 40, [(0, 1, false), (1, 1, false), (2, 1, false)]⟩),
 (129, ⟨t15, true, 40, [(0, 1, false), (1, 1, false), (2, 1, false)]⟩),
 (153, ⟨t16, true, 40, [(0, 1, false), (1, 1, false), (2, 1, false)]⟩),
 (154, ⟨t16, true, 40, [(0, 1, false), (1, 1, false), (2, 1, false)]⟩),
 (158, ⟨t8, true, 40, [(0, 1, false), (1, 1, false)]⟩),
 (166, ⟨(.i .u64), false, 8, []⟩),
 (175, ⟨(.i .u32), false, 4, []⟩),
 (182, ⟨(.i .u8), false, 1, []⟩),
 (183, ⟨(.i .u8), false, 1, []⟩),
 (186, ⟨(.i .i32), false, 4, []⟩),
 (187, ⟨(.i .i32), false, 4, []⟩)]
def ti : TypeId → Option TI := lk tiL
def eqsL : List Nat := [25, 26, 27, 28, 90]
def eqs : TypeId → Bool := fun T => eqsL.contains T
theorem sK : SeatOk Try.prog ti eqs ∧ ∀ T, closeB Try.prog ti T = true := seatK (P := Try.prog) (ti := ti) (eqs := eqs) (keys := tiL.map Prod.fst) (eqsL := eqsL) lk_mem (by kernel_rfl) (by kernel_rfl) rfl (by kernel_rfl)
theorem sO : SeatOk Try.prog ti eqs := sK.1
theorem tiOk : ∀ T t, ti T = some t → TOk Try.prog T t := sO.tok
theorem tiCl : ∀ T, closeB Try.prog ti T = true := sK.2
def laws_big.e (k : Nat) : Ent := ⟨1, [(.val false t3)], [(.one, .b)], fun x => laws_big x⟩
def laws_big.d : Fd := { nt := 6, nv := 1, nm := [0, 1], res := [2] }
theorem laws_big.s (k : Nat) : CallOk Try.prog 15 (laws_big.e k) := mkS (D := laws_big.d) (k := k) sO [] Try.func15 trivial trivial (by kernel_rfl) (by kernel_rfl) (fun x => by kernel_rfl)
def spec_l1New.e (k : Nat) : Ent := ⟨1, [(.val false t3)], [(.ptr, t16)], fun x => spec_l1New k x⟩
def spec_l1New_l3.p : LF := ⟨⟨[], [(0, t3), (3, (.i .i64)), (4, (.i .i64))]⟩, [((.exit 0), ⟨[], [(0, t3), (3, (.i .i64))]⟩)], fun k x => spec_l1New_l3 k x.1 x.2.1 x.2.2⟩
def spec_l1New.d : Fd := { nt := 32, nv := 1, nm := [0, 1, 3, 4], res := [2], ls := [(3, spec_l1New_l3.p)] }
theorem spec_l1New_l3.s : LK Try.prog Try.f68 spec_l1New.d 3 spec_l1New_l3.p := mkL sO [] (by kernel_rfl) (fun _ => trivial) trivial (by kernel_rfl) (fun _ => rfl) (fun k x => by kernel_rfl)
theorem spec_l1New.s (k : Nat) : CallOk Try.prog 68 (spec_l1New.e k) := mkS (D := spec_l1New.d) (k := k) sO [3] Try.func68 trivial ⟨spec_l1New_l3.s, trivial⟩ (by kernel_rfl) (by kernel_rfl) (fun x => by kernel_rfl)
def spec_RowOf.e (k : Nat) : Ent := ⟨2, [(.val false .s), (.val true t18)], [(.agg, t20)], fun x => spec_RowOf x.1 x.2⟩
def spec_RowOf.d : Fd := { nt := 14, nv := 2, nm := [0, 1, 2, 3], res := [] }
theorem spec_RowOf.s (k : Nat) : CallOk Try.prog 135 (spec_RowOf.e k) := mkS (D := spec_RowOf.d) (k := k) sO [] Try.func135 trivial trivial (by kernel_rfl) (by kernel_rfl) (fun x => by kernel_rfl)
def spec_l1Byte.e (k : Nat) : Ent := ⟨1, [(.ptr t16 t16)], [(.one, (.i .i64))], fun x => spec_l1Byte x⟩
def spec_l1Byte.d : Fd := { nt := 58, nv := 1, nm := [0, 1, 3], res := [2] }
theorem spec_l1Byte.s (k : Nat) : CallOk Try.prog 155 (spec_l1Byte.e k) := mkS (D := spec_l1Byte.d) (k := k) sO [] Try.func155 trivial trivial (by kernel_rfl) (by kernel_rfl) (fun x => by kernel_rfl)
def spec_l1Below.e (k : Nat) : Ent := ⟨2, [(.ptr t16 t16), (.val false (.i .i64))], [(.one, (.i .i64))], fun x => spec_l1Below x.1 x.2⟩
def spec_l1Below.d : Fd := { nt := 31, nv := 2, nm := [0, 1, 2, 3, 5, 6, 7], res := [4], cs := fun k => [(155, spec_l1Byte.e k)] }
theorem spec_l1Below.s (k : Nat) : CallOk Try.prog 105 (spec_l1Below.e k) := mkS (D := spec_l1Below.d) (k := k) sO [] Try.func105 ⟨spec_l1Byte.s k, trivial⟩ trivial (by kernel_rfl) (by kernel_rfl) (fun x => by kernel_rfl)
def spec_l1Str.e (k : Nat) : Ent := ⟨2, [(.ptr t16 t16), (.val false t1)], [(.one, .s)], fun x => spec_l1Str x.1 x.2⟩
def spec_l1Str.d : Fd := { nt := 12, nv := 2, nm := [0, 1, 2, 3], res := [4], cs := fun k => [(105, spec_l1Below.e k)] }
theorem spec_l1Str.s (k : Nat) : CallOk Try.prog 149 (spec_l1Str.e k) := mkS (D := spec_l1Str.d) (k := k) sO [] Try.func149 ⟨spec_l1Below.s k, trivial⟩ trivial (by kernel_rfl) (by kernel_rfl) (fun x => by kernel_rfl)
def spec_l3Name.e (k : Nat) : Ent := ⟨1, [(.ptr t16 t16)], [(.one, .s)], fun x => spec_l3Name x⟩
def spec_l3Name.d : Fd := { nt := 6, nv := 1, nm := [0, 1], res := [2], cs := fun k => [(149, spec_l1Str.e k)] }
theorem spec_l3Name.s (k : Nat) : CallOk Try.prog 136 (spec_l3Name.e k) := mkS (D := spec_l3Name.d) (k := k) sO [] Try.func136 ⟨spec_l1Str.s k, trivial⟩ trivial (by kernel_rfl) (by kernel_rfl) (fun x => by kernel_rfl)
def spec_l1Int.e (k : Nat) : Ent := ⟨2, [(.ptr t16 t16), (.val false t5)], [(.one, (.i .i64))], fun x => spec_l1Int x.1 x.2⟩
def spec_l1Int.d : Fd := { nt := 12, nv := 2, nm := [0, 1, 2, 3], res := [4], cs := fun k => [(105, spec_l1Below.e k)] }
theorem spec_l1Int.s (k : Nat) : CallOk Try.prog 106 (spec_l1Int.e k) := mkS (D := spec_l1Int.d) (k := k) sO [] Try.func106 ⟨spec_l1Below.s k, trivial⟩ trivial (by kernel_rfl) (by kernel_rfl) (fun x => by kernel_rfl)
def spec_l1Bytes.e (k : Nat) : Ent := ⟨2, [(.ptr t16 t16), (.val false (.i .i64))], [(.one, t4)], fun x => spec_l1Bytes k x.1 x.2⟩
def spec_l1Bytes_l3.p : LF := ⟨⟨[(0, (.bp 0 0 0)), (1999, (.hd 3))], [(1, (.i .i64)), (5, t4), (6, (.i .i64)), (1000, t3), (1001, (.i .i64)), (1002, (.i .i64))]⟩, [((.exit 0), ⟨[(1999, (.hd 3))], [(5, t4), (1000, t3), (1001, (.i .i64)), (1002, (.i .i64))]⟩)], fun k x => spec_l1Bytes_l3 k x.1 x.2.1 x.2.2.1 x.2.2.2.1 x.2.2.2.2.1 x.2.2.2.2.2⟩
def spec_l1Bytes.d : Fd := { nt := 20, nv := 2, nm := [0, 1, 2, 3, 5, 6], res := [4], cs := fun k => [(155, spec_l1Byte.e k)], ls := [(3, spec_l1Bytes_l3.p)] }
theorem spec_l1Bytes.a (k : Nat) : AllC Try.prog (spec_l1Bytes.d.cs k) := ⟨spec_l1Byte.s k, trivial⟩
theorem spec_l1Bytes_l3.s : LK Try.prog Try.f158 spec_l1Bytes.d 3 spec_l1Bytes_l3.p := mkL sO [] (by kernel_rfl) spec_l1Bytes.a trivial (by kernel_rfl) (fun _ => rfl) (fun k x => by kernel_rfl)
theorem spec_l1Bytes.s (k : Nat) : CallOk Try.prog 158 (spec_l1Bytes.e k) := mkS (D := spec_l1Bytes.d) (k := k) sO [3] Try.func158 (spec_l1Bytes.a k) ⟨spec_l1Bytes_l3.s, trivial⟩ (by kernel_rfl) (by kernel_rfl) (fun x => by kernel_rfl)
def spec_l1Some.e (k : Nat) : Ent := ⟨1, [(.ptr t16 t16)], [(.one, t4)], fun x => spec_l1Some k x⟩
def spec_l1Some.d : Fd := { nt := 8, nv := 1, nm := [0, 1], res := [2], cs := fun k => [(106, spec_l1Int.e k), (158, spec_l1Bytes.e k)] }
theorem spec_l1Some.s (k : Nat) : CallOk Try.prog 113 (spec_l1Some.e k) := mkS (D := spec_l1Some.d) (k := k) sO [] Try.func113 ⟨spec_l1Int.s k, spec_l1Bytes.s k, trivial⟩ trivial (by kernel_rfl) (by kernel_rfl) (fun x => by kernel_rfl)
def spec_l1Once.e (k : Nat) : Ent := ⟨2, [(.ptr t16 t16), (.val false (.i .i64))], [(.one, .b)], fun x => spec_l1Once x.1 x.2⟩
def spec_l1Once.d : Fd := { nt := 9, nv := 2, nm := [0, 1, 2, 3], res := [4], cs := fun k => [(105, spec_l1Below.e k)] }
theorem spec_l1Once.s (k : Nat) : CallOk Try.prog 114 (spec_l1Once.e k) := mkS (D := spec_l1Once.d) (k := k) sO [] Try.func114 ⟨spec_l1Below.s k, trivial⟩ trivial (by kernel_rfl) (by kernel_rfl) (fun x => by kernel_rfl)
def spec_l2Draw.e (k : Nat) : Ent := ⟨1, [(.ptr t16 t16)], [(.agg, t14)], fun x => spec_l2Draw x⟩
def spec_l2Draw.d : Fd := { nt := 11, nv := 1, nm := [0, 1], res := [], cs := fun k => [(105, spec_l1Below.e k), (106, spec_l1Int.e k)] }
theorem spec_l2Draw.s (k : Nat) : CallOk Try.prog 167 (spec_l2Draw.e k) := mkS (D := spec_l2Draw.d) (k := k) sO [] Try.func167 ⟨spec_l1Below.s k, spec_l1Int.s k, trivial⟩ trivial (by kernel_rfl) (by kernel_rfl) (fun x => by kernel_rfl)
def spec_l8Draw.e (k : Nat) : Ent := ⟨1, [(.ptr t16 t16)], [(.agg, t19)], fun x => spec_l8Draw k x⟩
def spec_l8Draw.d : Fd := { nt := 16, nv := 1, nm := [0, 1, 3], res := [], cs := fun k => [(113, spec_l1Some.e k), (114, spec_l1Once.e k), (167, spec_l2Draw.e k)], mv := [15] }
theorem spec_l8Draw.s (k : Nat) : CallOk Try.prog 137 (spec_l8Draw.e k) := mkS (D := spec_l8Draw.d) (k := k) sO [] Try.func137 ⟨spec_l1Some.s k, spec_l1Once.s k, spec_l2Draw.s k, trivial⟩ trivial (by kernel_rfl) (by kernel_rfl) (fun x => by kernel_rfl)
def spec_l11One.e (k : Nat) : Ent := ⟨1, [(.ptr t16 t16)], [(.agg, t20)], fun x => spec_l11One k x⟩
def spec_l11One.d : Fd := { nt := 8, nv := 1, nm := [0, 1], res := [], cs := fun k => [(135, spec_RowOf.e k), (136, spec_l3Name.e k), (137, spec_l8Draw.e k)] }
theorem spec_l11One.s (k : Nat) : CallOk Try.prog 70 (spec_l11One.e k) := mkS (D := spec_l11One.d) (k := k) sO [] Try.func70 ⟨spec_RowOf.s k, spec_l3Name.s k, spec_l8Draw.s k, trivial⟩ trivial (by kernel_rfl) (by kernel_rfl) (fun x => by kernel_rfl)
def spec_LessStamp.e (k : Nat) : Ent := ⟨2, [(.val true t14), (.val true t14)], [(.one, .b)], fun x => spec_LessStamp x.1 x.2⟩
def spec_LessStamp.d : Fd := { nt := 32, nv := 2, nm := [0, 1, 2, 3], res := [4] }
theorem spec_LessStamp.s (k : Nat) : CallOk Try.prog 138 (spec_LessStamp.e k) := mkS (D := spec_LessStamp.d) (k := k) sO [] Try.func138 trivial trivial (by kernel_rfl) (by kernel_rfl) (fun x => by kernel_rfl)
def spec_l11Less.e (k : Nat) : Ent := ⟨2, [(.val true t20), (.val true t20)], [(.one, .b)], fun x => spec_l11Less x.1 x.2⟩
def spec_l11Less.d : Fd := { nt := 29, nv := 2, nm := [0, 1, 2, 3], res := [4], cs := fun k => [(138, spec_LessStamp.e k)] }
theorem spec_l11Less.s (k : Nat) : CallOk Try.prog 73 (spec_l11Less.e k) := mkS (D := spec_l11Less.d) (k := k) sO [] Try.func73 ⟨spec_LessStamp.s k, trivial⟩ trivial (by kernel_rfl) (by kernel_rfl) (fun x => by kernel_rfl)
def spec_MergeRow.e (k : Nat) : Ent := ⟨2, [(.val false t25), (.val true t20)], [(.one, t26)], fun x => spec_MergeRow k x.1 x.2⟩
def spec_MergeRow_l11.p : LF := ⟨⟨[(3, (.bp 3 0 0)), (4999, (.hd 6))], [(5, t26), (7, (.i .i64)), (4000, .s), (4001, (.i .i64)), (4002, (.i .i64)), (4003, (.i .i64)), (4004, .b), (4005, (.i .i64))]⟩, [((.exit 2), ⟨[(3, (.bp 3 0 0)), (4999, (.hd 6))], [(5, t26), (7, (.i .i64)), (4000, .s), (4001, (.i .i64)), (4002, (.i .i64)), (4003, (.i .i64)), (4004, .b), (4005, (.i .i64))]⟩)], fun k x => spec_MergeRow_l11 k x.1 x.2.1 x.2.2.1 x.2.2.2.1 x.2.2.2.2.1 x.2.2.2.2.2.1 x.2.2.2.2.2.2.1 x.2.2.2.2.2.2.2⟩
def spec_MergeRow_l3.p : LF := ⟨⟨[(3, (.bp 3 0 0)), (4999, (.hd 6))], [(5, t26), (6, (.i .i64)), (4000, .s), (4001, (.i .i64)), (4002, (.i .i64)), (4003, (.i .i64)), (4004, .b), (4005, (.i .i64))]⟩, [(.ret, ⟨[], [(4, t26)]⟩), ((.exit 0), ⟨[(3, (.bp 3 0 0)), (4999, (.hd 6))], [(5, t26), (4000, .s), (4001, (.i .i64)), (4002, (.i .i64)), (4003, (.i .i64)), (4004, .b), (4005, (.i .i64))]⟩)], fun k x => spec_MergeRow_l3 k x.1 x.2.1 x.2.2.1 x.2.2.2.1 x.2.2.2.2.1 x.2.2.2.2.2.1 x.2.2.2.2.2.2.1 x.2.2.2.2.2.2.2⟩
def spec_MergeRow.d : Fd := { nt := 70, nv := 2, nm := [0, 1, 2, 3, 5, 6, 7], res := [4], cs := fun k => [(73, spec_l11Less.e k)], ls := [(11, spec_MergeRow_l11.p), (3, spec_MergeRow_l3.p)] }
theorem spec_MergeRow.a (k : Nat) : AllC Try.prog (spec_MergeRow.d.cs k) := ⟨spec_l11Less.s k, trivial⟩
theorem spec_MergeRow_l11.s : LK Try.prog Try.f19 spec_MergeRow.d 11 spec_MergeRow_l11.p := mkL sO [] (by kernel_rfl) spec_MergeRow.a trivial (by kernel_rfl) (fun _ => rfl) (fun k x => by kernel_rfl)
theorem spec_MergeRow_l3.s : LK Try.prog Try.f19 spec_MergeRow.d 3 spec_MergeRow_l3.p := mkL sO [] (by kernel_rfl) spec_MergeRow.a trivial (by kernel_rfl) (fun _ => rfl) (fun k x => by kernel_rfl)
theorem spec_MergeRow.s (k : Nat) : CallOk Try.prog 19 (spec_MergeRow.e k) := mkS (D := spec_MergeRow.d) (k := k) sO [3, 11] Try.func19 (spec_MergeRow.a k) ⟨spec_MergeRow_l3.s, spec_MergeRow_l11.s, trivial⟩ (by kernel_rfl) (by kernel_rfl) (fun x => by kernel_rfl)
def spec_l11Draw.e (k : Nat) : Ent := ⟨1, [(.ptr t16 t16)], [(.one, t26)], fun x => spec_l11Draw k x⟩
def spec_l11Draw_l3.p : LF := ⟨⟨[(0, (.bp 0 0 0)), (1999, (.hd 3))], [(3, t26), (4, (.i .i64)), (1000, t3), (1001, (.i .i64)), (1002, (.i .i64))]⟩, [((.exit 0), ⟨[(1999, (.hd 3))], [(3, t26), (1000, t3), (1001, (.i .i64)), (1002, (.i .i64))]⟩)], fun k x => spec_l11Draw_l3 k x.1 x.2.1 x.2.2.1 x.2.2.2.1 x.2.2.2.2⟩
def spec_l11Draw.d : Fd := { nt := 17, nv := 1, nm := [0, 1, 3, 4], res := [2], cs := fun k => [(19, spec_MergeRow.e k), (70, spec_l11One.e k), (105, spec_l1Below.e k)], ls := [(3, spec_l11Draw_l3.p)] }
theorem spec_l11Draw.a (k : Nat) : AllC Try.prog (spec_l11Draw.d.cs k) := ⟨spec_MergeRow.s k, spec_l11One.s k, spec_l1Below.s k, trivial⟩
theorem spec_l11Draw_l3.s : LK Try.prog Try.f74 spec_l11Draw.d 3 spec_l11Draw_l3.p := mkL sO [] (by kernel_rfl) spec_l11Draw.a trivial (by kernel_rfl) (fun _ => rfl) (fun k x => by kernel_rfl)
theorem spec_l11Draw.s (k : Nat) : CallOk Try.prog 74 (spec_l11Draw.e k) := mkS (D := spec_l11Draw.d) (k := k) sO [3] Try.func74 (spec_l11Draw.a k) ⟨spec_l11Draw_l3.s, trivial⟩ (by kernel_rfl) (by kernel_rfl) (fun x => by kernel_rfl)
def spec_l11Any.e (k : Nat) : Ent := ⟨1, [(.ptr t16 t16)], [(.one, t26)], fun x => spec_l11Any k x⟩
def spec_l11Any.d : Fd := { nt := 27, nv := 1, nm := [0, 1, 3], res := [2], cs := fun k => [(70, spec_l11One.e k), (74, spec_l11Draw.e k), (105, spec_l1Below.e k), (106, spec_l1Int.e k)] }
theorem spec_l11Any.s (k : Nat) : CallOk Try.prog 69 (spec_l11Any.e k) := mkS (D := spec_l11Any.d) (k := k) sO [] Try.func69 ⟨spec_l11One.s k, spec_l11Draw.s k, spec_l1Below.s k, spec_l1Int.s k, trivial⟩ trivial (by kernel_rfl) (by kernel_rfl) (fun x => by kernel_rfl)
def spec_DrawMergeRow.e (k : Nat) : Ent := ⟨1, [(.val false t3)], [(.one, t26), (.agg, t20)], fun x => spec_DrawMergeRow k x⟩
def spec_DrawMergeRow.d : Fd := { nt := 11, nv := 1, nm := [0, 1, 4], res := [2], cs := fun k => [(68, spec_l1New.e k), (69, spec_l11Any.e k), (70, spec_l11One.e k)] }
theorem spec_DrawMergeRow.s (k : Nat) : CallOk Try.prog 16 (spec_DrawMergeRow.e k) := mkS (D := spec_DrawMergeRow.d) (k := k) sO [] Try.func16 ⟨spec_l1New.s k, spec_l11Any.s k, spec_l11One.s k, trivial⟩ trivial (by kernel_rfl) (by kernel_rfl) (fun x => by kernel_rfl)
def impl_copyRows.e (k : Nat) : Ent := ⟨1, [(.val false t25)], [(.one, t26)], fun x => impl_copyRows x⟩
def impl_copyRows.d : Fd := { nt := 5, nv := 1, nm := [0, 1], res := [2] }
theorem impl_copyRows.s (k : Nat) : CallOk Try.prog 71 (impl_copyRows.e k) := mkS (D := impl_copyRows.d) (k := k) sO [] Try.func71 trivial trivial (by kernel_rfl) (by kernel_rfl) (fun x => by kernel_rfl)
def impl_LessStamp.e (k : Nat) : Ent := ⟨2, [(.val true t14), (.val true t14)], [(.one, .b)], fun x => impl_LessStamp x.1 x.2⟩
def impl_LessStamp.d : Fd := { nt := 32, nv := 2, nm := [0, 1, 2, 3], res := [4] }
theorem impl_LessStamp.s (k : Nat) : CallOk Try.prog 20 (impl_LessStamp.e k) := mkS (D := impl_LessStamp.d) (k := k) sO [] Try.func20 trivial trivial (by kernel_rfl) (by kernel_rfl) (fun x => by kernel_rfl)
def impl_laterRow.e (k : Nat) : Ent := ⟨2, [(.val true t20), (.val true t20)], [(.one, .b)], fun x => impl_laterRow x.1 x.2⟩
def impl_laterRow.d : Fd := { nt := 29, nv := 2, nm := [0, 1, 2, 3], res := [4], cs := fun k => [(20, impl_LessStamp.e k)] }
theorem impl_laterRow.s (k : Nat) : CallOk Try.prog 72 (impl_laterRow.e k) := mkS (D := impl_laterRow.d) (k := k) sO [] Try.func72 ⟨impl_LessStamp.s k, trivial⟩ trivial (by kernel_rfl) (by kernel_rfl) (fun x => by kernel_rfl)
def impl_MergeRow.e (k : Nat) : Ent := ⟨2, [(.val false t25), (.val true t20)], [(.one, t26)], fun x => impl_MergeRow k x.1 x.2⟩
def impl_MergeRow_l11.p : LF := ⟨⟨[(3, (.bp 3 0 0)), (4999, (.hd 6))], [(0, t25), (8, (.i .i64)), (4000, .s), (4001, (.i .i64)), (4002, (.i .i64)), (4003, (.i .i64)), (4004, .b), (4005, (.i .i64))]⟩, [((.exit 2), ⟨[(3, (.bp 3 0 0)), (4999, (.hd 6))], [(0, t25), (8, (.i .i64)), (4000, .s), (4001, (.i .i64)), (4002, (.i .i64)), (4003, (.i .i64)), (4004, .b), (4005, (.i .i64))]⟩)], fun k x => impl_MergeRow_l11 k x.1 x.2.1 x.2.2.1 x.2.2.2.1 x.2.2.2.2.1 x.2.2.2.2.2.1 x.2.2.2.2.2.2.1 x.2.2.2.2.2.2.2⟩
def impl_MergeRow_l3.p : LF := ⟨⟨[(3, (.bp 3 0 0)), (4999, (.hd 6))], [(0, t25), (5, t26), (11, t25), (12, (.i .i64)), (13, (.i .i64)), (4000, .s), (4001, (.i .i64)), (4002, (.i .i64)), (4003, (.i .i64)), (4004, .b), (4005, (.i .i64))]⟩, [(.ret, ⟨[], [(4, t26)]⟩), ((.exit 0), ⟨[(3, (.bp 3 0 0)), (4999, (.hd 6))], [(0, t25), (4000, .s), (4001, (.i .i64)), (4002, (.i .i64)), (4003, (.i .i64)), (4004, .b), (4005, (.i .i64))]⟩)], fun k x => impl_MergeRow_l3 k x.1 x.2.1 x.2.2.1 x.2.2.2.1 x.2.2.2.2.1 x.2.2.2.2.2.1 x.2.2.2.2.2.2.1 x.2.2.2.2.2.2.2.1 x.2.2.2.2.2.2.2.2.1 x.2.2.2.2.2.2.2.2.2.1 x.2.2.2.2.2.2.2.2.2.2⟩
def impl_MergeRow.d : Fd := { nt := 60, nv := 2, nm := [0, 1, 2, 3, 5, 6, 7, 8], res := [4], cs := fun k => [(71, impl_copyRows.e k), (72, impl_laterRow.e k)], ls := [(11, impl_MergeRow_l11.p), (3, impl_MergeRow_l3.p)] }
theorem impl_MergeRow.a (k : Nat) : AllC Try.prog (impl_MergeRow.d.cs k) := ⟨impl_copyRows.s k, impl_laterRow.s k, trivial⟩
theorem impl_MergeRow_l11.s : LK Try.prog Try.f17 impl_MergeRow.d 11 impl_MergeRow_l11.p := mkL sO [] (by kernel_rfl) impl_MergeRow.a trivial (by kernel_rfl) (fun _ => rfl) (fun k x => by kernel_rfl)
theorem impl_MergeRow_l3.s : LK Try.prog Try.f17 impl_MergeRow.d 3 impl_MergeRow_l3.p := mkL sO [] (by kernel_rfl) impl_MergeRow.a trivial (by kernel_rfl) (fun _ => rfl) (fun k x => by kernel_rfl)
theorem impl_MergeRow.s (k : Nat) : CallOk Try.prog 17 (impl_MergeRow.e k) := mkS (D := impl_MergeRow.d) (k := k) sO [3, 11] Try.func17 (impl_MergeRow.a k) ⟨impl_MergeRow_l3.s, impl_MergeRow_l11.s, trivial⟩ (by kernel_rfl) (by kernel_rfl) (fun x => by kernel_rfl)
def laws_sameRows.e (k : Nat) : Ent := ⟨2, [(.val false t25), (.val false t25)], [(.one, .b)], fun x => laws_sameRows k x.1 x.2⟩
def laws_sameRows_l4.p : LF := ⟨⟨[], [(0, t25), (1, t25), (5, (.i .i64))]⟩, [(.ret, ⟨[], [(4, .b)]⟩), ((.exit 0), ⟨[], []⟩)], fun k x => laws_sameRows_l4 k x.1 x.2.1 x.2.2⟩
def laws_sameRows.d : Fd := { nt := 26, nv := 2, nm := [0, 1, 2, 3, 5], res := [4], ls := [(4, laws_sameRows_l4.p)] }
theorem laws_sameRows_l4.s : LK Try.prog Try.f18 laws_sameRows.d 4 laws_sameRows_l4.p := mkL sO [] (by kernel_rfl) (fun _ => trivial) trivial (by kernel_rfl) (fun _ => rfl) (fun k x => by kernel_rfl)
theorem laws_sameRows.s (k : Nat) : CallOk Try.prog 18 (laws_sameRows.e k) := mkS (D := laws_sameRows.d) (k := k) sO [4] Try.func18 trivial ⟨laws_sameRows_l4.s, trivial⟩ (by kernel_rfl) (by kernel_rfl) (fun x => by kernel_rfl)
def laws_FnRow.e (k : Nat) : Ent := ⟨1, [(.val false t3)], [(.one, .b)], fun x => laws_FnRow k x⟩
def laws_FnRow_l9.p : LF := ⟨⟨[(4, (.bp 4 0 0)), (5999, (.hd 6))], [(3, t25), (5, t25), (6, .b), (7, (.i .i64)), (5000, .s), (5001, (.i .i64)), (5002, (.i .i64)), (5003, (.i .i64)), (5004, .b), (5005, (.i .i64))]⟩, [((.exit 0), ⟨[], [(3, t25), (5, t25), (6, .b)]⟩)], fun k x => laws_FnRow_l9 k x.1 x.2.1 x.2.2.1 x.2.2.2.1 x.2.2.2.2.1 x.2.2.2.2.2.1 x.2.2.2.2.2.2.1 x.2.2.2.2.2.2.2.1 x.2.2.2.2.2.2.2.2.1 x.2.2.2.2.2.2.2.2.2⟩
def laws_FnRow.d : Fd := { nt := 68, nv := 1, nm := [0, 1, 3, 4, 5, 6, 7], res := [2], cs := fun k => [(15, laws_big.e k), (16, spec_DrawMergeRow.e k), (17, impl_MergeRow.e k), (18, laws_sameRows.e k), (19, spec_MergeRow.e k), (20, impl_LessStamp.e k)], ls := [(9, laws_FnRow_l9.p)], sh := true }
theorem laws_FnRow.a (k : Nat) : AllC Try.prog (laws_FnRow.d.cs k) := ⟨laws_big.s k, spec_DrawMergeRow.s k, impl_MergeRow.s k, laws_sameRows.s k, spec_MergeRow.s k, impl_LessStamp.s k, trivial⟩
theorem laws_FnRow_l9.s : LK Try.prog Try.f3 laws_FnRow.d 9 laws_FnRow_l9.p := mkL sO [] (by kernel_rfl) laws_FnRow.a trivial (by kernel_rfl) (fun _ => rfl) (fun k x => by kernel_rfl)
theorem laws_FnRow.s (k : Nat) : CallOk Try.prog 3 (laws_FnRow.e k) := mkS (D := laws_FnRow.d) (k := k) sO [9] Try.func3 (laws_FnRow.a k) ⟨laws_FnRow_l9.s, trivial⟩ (by kernel_rfl) (by kernel_rfl) (fun x => by kernel_rfl)
def spec_DrawRows.e (k : Nat) : Ent := ⟨1, [(.val false t3)], [(.one, t26), (.one, t26)], fun x => spec_DrawRows k x⟩
def spec_DrawRows.d : Fd := { nt := 11, nv := 1, nm := [0, 1, 4], res := [2, 3], cs := fun k => [(68, spec_l1New.e k), (74, spec_l11Draw.e k)] }
theorem spec_DrawRows.s (k : Nat) : CallOk Try.prog 21 (spec_DrawRows.e k) := mkS (D := spec_DrawRows.d) (k := k) sO [] Try.func21 ⟨spec_l1New.s k, spec_l11Draw.s k, trivial⟩ trivial (by kernel_rfl) (by kernel_rfl) (fun x => by kernel_rfl)
def spec_DrawMergeRows.e (k : Nat) : Ent := ⟨1, [(.val false t3)], [(.one, t26), (.one, t26)], fun x => spec_DrawMergeRows k x⟩
def spec_DrawMergeRows.d : Fd := { nt := 11, nv := 1, nm := [0, 1, 4], res := [2, 3], cs := fun k => [(68, spec_l1New.e k), (69, spec_l11Any.e k)] }
theorem spec_DrawMergeRows.s (k : Nat) : CallOk Try.prog 22 (spec_DrawMergeRows.e k) := mkS (D := spec_DrawMergeRows.d) (k := k) sO [] Try.func22 ⟨spec_l1New.s k, spec_l11Any.s k, trivial⟩ trivial (by kernel_rfl) (by kernel_rfl) (fun x => by kernel_rfl)
def impl_MergeRows.e (k : Nat) : Ent := ⟨2, [(.val false t25), (.val false t25)], [(.one, t26)], fun x => impl_MergeRows k x.1 x.2⟩
def impl_MergeRows_l3.p : LF := ⟨⟨[], [(5, t26), (10, t25), (11, (.i .i64)), (12, (.i .i64))]⟩, [((.exit 0), ⟨[], [(5, t26)]⟩)], fun k x => impl_MergeRows_l3 k x.1 x.2.1 x.2.2.1 x.2.2.2⟩
def impl_MergeRows.d : Fd := { nt := 21, nv := 2, nm := [0, 1, 2, 3, 5, 6, 7], res := [4], cs := fun k => [(17, impl_MergeRow.e k), (71, impl_copyRows.e k)], ls := [(3, impl_MergeRows_l3.p)] }
theorem impl_MergeRows.a (k : Nat) : AllC Try.prog (impl_MergeRows.d.cs k) := ⟨impl_MergeRow.s k, impl_copyRows.s k, trivial⟩
theorem impl_MergeRows_l3.s : LK Try.prog Try.f23 impl_MergeRows.d 3 impl_MergeRows_l3.p := mkL sO [] (by kernel_rfl) impl_MergeRows.a trivial (by kernel_rfl) (fun _ => rfl) (fun k x => by kernel_rfl)
theorem impl_MergeRows.s (k : Nat) : CallOk Try.prog 23 (impl_MergeRows.e k) := mkS (D := impl_MergeRows.d) (k := k) sO [3] Try.func23 (impl_MergeRows.a k) ⟨impl_MergeRows_l3.s, trivial⟩ (by kernel_rfl) (by kernel_rfl) (fun x => by kernel_rfl)
def impl_in.e (k : Nat) : Ent := ⟨3, [(.val false (.i .i64)), (.val false (.i .i64)), (.val false (.i .i64))], [(.one, .b)], fun x => impl_in x.1 x.2.1 x.2.2⟩
def impl_in.d : Fd := { nt := 15, nv := 3, nm := [0, 1, 2, 3, 4, 5], res := [6] }
theorem impl_in.s (k : Nat) : CallOk Try.prog 120 (impl_in.e k) := mkS (D := impl_in.d) (k := k) sO [] Try.func120 trivial trivial (by kernel_rfl) (by kernel_rfl) (fun x => by kernel_rfl)
def impl_NameOk.e (k : Nat) : Ent := ⟨1, [(.val false .s)], [(.one, .b)], fun x => impl_NameOk k x⟩
def impl_NameOk_l2.p : LF := ⟨⟨[], [(0, .s), (3, (.i .i64))]⟩, [(.ret, ⟨[], [(2, .b)]⟩), ((.exit 0), ⟨[], [(0, .s)]⟩)], fun k x => impl_NameOk_l2 k x.1 x.2⟩
def impl_NameOk.d : Fd := { nt := 45, nv := 1, nm := [0, 1, 3, 4], res := [2], cs := fun k => [(120, impl_in.e k)], ls := [(2, impl_NameOk_l2.p)] }
theorem impl_NameOk.a (k : Nat) : AllC Try.prog (impl_NameOk.d.cs k) := ⟨impl_in.s k, trivial⟩
theorem impl_NameOk_l2.s : LK Try.prog Try.f83 impl_NameOk.d 2 impl_NameOk_l2.p := mkL sO [] (by kernel_rfl) impl_NameOk.a trivial (by kernel_rfl) (fun _ => rfl) (fun k x => by kernel_rfl)
theorem impl_NameOk.s (k : Nat) : CallOk Try.prog 83 (impl_NameOk.e k) := mkS (D := impl_NameOk.d) (k := k) sO [2] Try.func83 (impl_NameOk.a k) ⟨impl_NameOk_l2.s, trivial⟩ (by kernel_rfl) (by kernel_rfl) (fun x => by kernel_rfl)
def impl_StampOk.e (k : Nat) : Ent := ⟨1, [(.val true t14)], [(.one, .b)], fun x => impl_StampOk x⟩
def impl_StampOk.d : Fd := { nt := 16, nv := 1, nm := [0, 1], res := [2], cs := fun k => [(120, impl_in.e k)] }
theorem impl_StampOk.s (k : Nat) : CallOk Try.prog 139 (impl_StampOk.e k) := mkS (D := impl_StampOk.d) (k := k) sO [] Try.func139 ⟨impl_in.s k, trivial⟩ trivial (by kernel_rfl) (by kernel_rfl) (fun x => by kernel_rfl)
def impl_rowOk.e (k : Nat) : Ent := ⟨1, [(.val true t20)], [(.one, .b)], fun x => impl_rowOk k x⟩
def impl_rowOk.d : Fd := { nt := 26, nv := 1, nm := [0, 1], res := [2], cs := fun k => [(83, impl_NameOk.e k), (120, impl_in.e k), (139, impl_StampOk.e k)] }
theorem impl_rowOk.s (k : Nat) : CallOk Try.prog 75 (impl_rowOk.e k) := mkS (D := impl_rowOk.d) (k := k) sO [] Try.func75 ⟨impl_NameOk.s k, impl_in.s k, impl_StampOk.s k, trivial⟩ trivial (by kernel_rfl) (by kernel_rfl) (fun x => by kernel_rfl)
def impl_RowsOk.e (k : Nat) : Ent := ⟨1, [(.val false t25)], [(.one, .b)], fun x => impl_RowsOk k x⟩
def impl_RowsOk_l2.p : LF := ⟨⟨[], [(0, t25), (5, t25), (6, (.i .i64)), (7, (.i .i64))]⟩, [(.ret, ⟨[], [(2, .b)]⟩), ((.exit 0), ⟨[], [(0, t25)]⟩)], fun k x => impl_RowsOk_l2 k x.1 x.2.1 x.2.2.1 x.2.2.2⟩
def impl_RowsOk.d : Fd := { nt := 34, nv := 1, nm := [0, 1, 3, 4], res := [2], cs := fun k => [(75, impl_rowOk.e k)], ls := [(2, impl_RowsOk_l2.p)] }
theorem impl_RowsOk.a (k : Nat) : AllC Try.prog (impl_RowsOk.d.cs k) := ⟨impl_rowOk.s k, trivial⟩
theorem impl_RowsOk_l2.s : LK Try.prog Try.f24 impl_RowsOk.d 2 impl_RowsOk_l2.p := mkL sO [] (by kernel_rfl) impl_RowsOk.a trivial (by kernel_rfl) (fun _ => rfl) (fun k x => by kernel_rfl)
theorem impl_RowsOk.s (k : Nat) : CallOk Try.prog 24 (impl_RowsOk.e k) := mkS (D := impl_RowsOk.d) (k := k) sO [2] Try.func24 (impl_RowsOk.a k) ⟨impl_RowsOk_l2.s, trivial⟩ (by kernel_rfl) (by kernel_rfl) (fun x => by kernel_rfl)
def spec_l1In.e (k : Nat) : Ent := ⟨3, [(.val false (.i .i64)), (.val false (.i .i64)), (.val false (.i .i64))], [(.one, .b)], fun x => spec_l1In x.1 x.2.1 x.2.2⟩
def spec_l1In.d : Fd := { nt := 15, nv := 3, nm := [0, 1, 2, 3, 4, 5], res := [6] }
theorem spec_l1In.s (k : Nat) : CallOk Try.prog 141 (spec_l1In.e k) := mkS (D := spec_l1In.d) (k := k) sO [] Try.func141 trivial trivial (by kernel_rfl) (by kernel_rfl) (fun x => by kernel_rfl)
def spec_NameOk.e (k : Nat) : Ent := ⟨1, [(.val false .s)], [(.one, .b)], fun x => spec_NameOk k x⟩
def spec_NameOk_l2.p : LF := ⟨⟨[], [(0, .s), (3, (.i .i64))]⟩, [(.ret, ⟨[], [(2, .b)]⟩), ((.exit 0), ⟨[], [(0, .s)]⟩)], fun k x => spec_NameOk_l2 k x.1 x.2⟩
def spec_NameOk.d : Fd := { nt := 38, nv := 1, nm := [0, 1, 3, 4], res := [2], cs := fun k => [(141, spec_l1In.e k)], ls := [(2, spec_NameOk_l2.p)] }
theorem spec_NameOk.a (k : Nat) : AllC Try.prog (spec_NameOk.d.cs k) := ⟨spec_l1In.s k, trivial⟩
theorem spec_NameOk_l2.s : LK Try.prog Try.f128 spec_NameOk.d 2 spec_NameOk_l2.p := mkL sO [] (by kernel_rfl) spec_NameOk.a trivial (by kernel_rfl) (fun _ => rfl) (fun k x => by kernel_rfl)
theorem spec_NameOk.s (k : Nat) : CallOk Try.prog 128 (spec_NameOk.e k) := mkS (D := spec_NameOk.d) (k := k) sO [2] Try.func128 (spec_NameOk.a k) ⟨spec_NameOk_l2.s, trivial⟩ (by kernel_rfl) (by kernel_rfl) (fun x => by kernel_rfl)
def spec_StampOk.e (k : Nat) : Ent := ⟨1, [(.val true t14)], [(.one, .b)], fun x => spec_StampOk x⟩
def spec_StampOk.d : Fd := { nt := 16, nv := 1, nm := [0, 1], res := [2], cs := fun k => [(141, spec_l1In.e k)] }
theorem spec_StampOk.s (k : Nat) : CallOk Try.prog 140 (spec_StampOk.e k) := mkS (D := spec_StampOk.d) (k := k) sO [] Try.func140 ⟨spec_l1In.s k, trivial⟩ trivial (by kernel_rfl) (by kernel_rfl) (fun x => by kernel_rfl)
def spec_l11Row.e (k : Nat) : Ent := ⟨1, [(.val true t20)], [(.one, .b)], fun x => spec_l11Row k x⟩
def spec_l11Row.d : Fd := { nt := 26, nv := 1, nm := [0, 1], res := [2], cs := fun k => [(128, spec_NameOk.e k), (140, spec_StampOk.e k), (141, spec_l1In.e k)] }
theorem spec_l11Row.s (k : Nat) : CallOk Try.prog 76 (spec_l11Row.e k) := mkS (D := spec_l11Row.d) (k := k) sO [] Try.func76 ⟨spec_NameOk.s k, spec_StampOk.s k, spec_l1In.s k, trivial⟩ trivial (by kernel_rfl) (by kernel_rfl) (fun x => by kernel_rfl)
def spec_RowsOk.e (k : Nat) : Ent := ⟨1, [(.val false t25)], [(.one, .b)], fun x => spec_RowsOk k x⟩
def spec_RowsOk_l2.p : LF := ⟨⟨[], [(0, t25), (3, (.i .i64))]⟩, [(.ret, ⟨[], [(2, .b)]⟩), ((.exit 0), ⟨[], [(0, t25)]⟩)], fun k x => spec_RowsOk_l2 k x.1 x.2⟩
def spec_RowsOk.d : Fd := { nt := 37, nv := 1, nm := [0, 1, 3], res := [2], cs := fun k => [(76, spec_l11Row.e k)], ls := [(2, spec_RowsOk_l2.p)] }
theorem spec_RowsOk.a (k : Nat) : AllC Try.prog (spec_RowsOk.d.cs k) := ⟨spec_l11Row.s k, trivial⟩
theorem spec_RowsOk_l2.s : LK Try.prog Try.f25 spec_RowsOk.d 2 spec_RowsOk_l2.p := mkL sO [] (by kernel_rfl) spec_RowsOk.a trivial (by kernel_rfl) (fun _ => rfl) (fun k x => by kernel_rfl)
theorem spec_RowsOk.s (k : Nat) : CallOk Try.prog 25 (spec_RowsOk.e k) := mkS (D := spec_RowsOk.d) (k := k) sO [2] Try.func25 (spec_RowsOk.a k) ⟨spec_RowsOk_l2.s, trivial⟩ (by kernel_rfl) (by kernel_rfl) (fun x => by kernel_rfl)
def laws_FnMerged.e (k : Nat) : Ent := ⟨1, [(.val false t3)], [(.one, .b)], fun x => laws_FnMerged k x⟩
def laws_FnMerged.d : Fd := { nt := 74, nv := 1, nm := [0, 1, 3, 4, 5, 6, 7], res := [2], cs := fun k => [(15, laws_big.e k), (18, laws_sameRows.e k), (21, spec_DrawRows.e k), (22, spec_DrawMergeRows.e k), (23, impl_MergeRows.e k), (24, impl_RowsOk.e k), (25, spec_RowsOk.e k)], sh := true }
theorem laws_FnMerged.s (k : Nat) : CallOk Try.prog 4 (laws_FnMerged.e k) := mkS (D := laws_FnMerged.d) (k := k) sO [] Try.func4 ⟨laws_big.s k, laws_sameRows.s k, spec_DrawRows.s k, spec_DrawMergeRows.s k, impl_MergeRows.s k, impl_RowsOk.s k, spec_RowsOk.s k, trivial⟩ trivial (by kernel_rfl) (by kernel_rfl) (fun x => by kernel_rfl)
def laws_sameBytes.e (k : Nat) : Ent := ⟨2, [(.val false t3), (.val false t3)], [(.one, .b)], fun x => laws_sameBytes k x.1 x.2⟩
def laws_sameBytes_l4.p : LF := ⟨⟨[], [(0, t3), (1, t3), (5, (.i .i64))]⟩, [(.ret, ⟨[], [(4, .b)]⟩), ((.exit 0), ⟨[], []⟩)], fun k x => laws_sameBytes_l4 k x.1 x.2.1 x.2.2⟩
def laws_sameBytes.d : Fd := { nt := 26, nv := 2, nm := [0, 1, 2, 3, 5], res := [4], ls := [(4, laws_sameBytes_l4.p)] }
theorem laws_sameBytes_l4.s : LK Try.prog Try.f47 laws_sameBytes.d 4 laws_sameBytes_l4.p := mkL sO [] (by kernel_rfl) (fun _ => trivial) trivial (by kernel_rfl) (fun _ => rfl) (fun k x => by kernel_rfl)
theorem laws_sameBytes.s (k : Nat) : CallOk Try.prog 47 (laws_sameBytes.e k) := mkS (D := laws_sameBytes.d) (k := k) sO [4] Try.func47 trivial ⟨laws_sameBytes_l4.s, trivial⟩ (by kernel_rfl) (by kernel_rfl) (fun x => by kernel_rfl)
def spec_DrawPutRows.e (k : Nat) : Ent := ⟨1, [(.val false t3)], [(.one, t26)], fun x => spec_DrawPutRows k x⟩
def spec_DrawPutRows.d : Fd := { nt := 8, nv := 1, nm := [0, 1, 3], res := [2], cs := fun k => [(68, spec_l1New.e k), (69, spec_l11Any.e k)] }
theorem spec_DrawPutRows.s (k : Nat) : CallOk Try.prog 48 (spec_DrawPutRows.e k) := mkS (D := spec_DrawPutRows.d) (k := k) sO [] Try.func48 ⟨spec_l1New.s k, spec_l11Any.s k, trivial⟩ trivial (by kernel_rfl) (by kernel_rfl) (fun x => by kernel_rfl)
def impl_addNum.e (k : Nat) : Ent := ⟨2, [(.val false t4), (.val false (.i .i64))], [(.one, t4)], fun x => impl_addNum k x.1 x.2⟩
def impl_addNum_l2.p : LF := ⟨⟨[], [(0, t4), (1, (.i .i64))]⟩, [((.exit 0), ⟨[], [(0, t4), (1, (.i .i64))]⟩)], fun k x => impl_addNum_l2 k x.1 x.2⟩
def impl_addNum.d : Fd := { nt := 24, nv := 2, nm := [0, 1, 2, 3], res := [4], ls := [(2, impl_addNum_l2.p)] }
theorem impl_addNum_l2.s : LK Try.prog Try.f101 impl_addNum.d 2 impl_addNum_l2.p := mkL sO [] (by kernel_rfl) (fun _ => trivial) trivial (by kernel_rfl) (fun _ => rfl) (fun k x => by kernel_rfl)
theorem impl_addNum.s (k : Nat) : CallOk Try.prog 101 (impl_addNum.e k) := mkS (D := impl_addNum.d) (k := k) sO [2] Try.func101 trivial ⟨impl_addNum_l2.s, trivial⟩ (by kernel_rfl) (by kernel_rfl) (fun x => by kernel_rfl)
def impl_bit.e (k : Nat) : Ent := ⟨1, [(.val false .b)], [(.one, (.i .i64))], fun x => impl_bit x⟩
def impl_bit.d : Fd := { nt := 4, nv := 1, nm := [0, 1], res := [2] }
theorem impl_bit.s (k : Nat) : CallOk Try.prog 150 (impl_bit.e k) := mkS (D := impl_bit.d) (k := k) sO [] Try.func150 trivial trivial (by kernel_rfl) (by kernel_rfl) (fun x => by kernel_rfl)
def impl_addStamp.e (k : Nat) : Ent := ⟨3, [(.val false t4), (.val true t14), (.val false .b)], [(.one, t4)], fun x => impl_addStamp k x.1 x.2.1 x.2.2⟩
def impl_addStamp.d : Fd := { nt := 20, nv := 3, nm := [0, 1, 2, 3, 4, 5], res := [6], cs := fun k => [(101, impl_addNum.e k), (150, impl_bit.e k)] }
theorem impl_addStamp.s (k : Nat) : CallOk Try.prog 102 (impl_addStamp.e k) := mkS (D := impl_addStamp.d) (k := k) sO [] Try.func102 ⟨impl_addNum.s k, impl_bit.s k, trivial⟩ trivial (by kernel_rfl) (by kernel_rfl) (fun x => by kernel_rfl)
def impl_addText.e (k : Nat) : Ent := ⟨2, [(.val false t4), (.val false .s)], [(.one, t4)], fun x => impl_addText k x.1 x.2⟩
def impl_addText.d : Fd := { nt := 11, nv := 2, nm := [0, 1, 2, 3], res := [4], cs := fun k => [(101, impl_addNum.e k)] }
theorem impl_addText.s (k : Nat) : CallOk Try.prog 103 (impl_addText.e k) := mkS (D := impl_addText.d) (k := k) sO [] Try.func103 ⟨impl_addNum.s k, trivial⟩ trivial (by kernel_rfl) (by kernel_rfl) (fun x => by kernel_rfl)
def impl_PutRows.e (k : Nat) : Ent := ⟨1, [(.val false t25)], [(.one, t4)], fun x => impl_PutRows k x⟩
def impl_PutRows_l5.p : LF := ⟨⟨[], [(3, t4), (12, t25), (13, (.i .i64)), (14, (.i .i64))]⟩, [((.exit 0), ⟨[], [(3, t4)]⟩)], fun k x => impl_PutRows_l5 k x.1 x.2.1 x.2.2.1 x.2.2.2⟩
def impl_PutRows.d : Fd := { nt := 32, nv := 1, nm := [0, 1, 3, 4, 5], res := [2], cs := fun k => [(24, impl_RowsOk.e k), (101, impl_addNum.e k), (102, impl_addStamp.e k), (103, impl_addText.e k)], ls := [(5, impl_PutRows_l5.p)] }
theorem impl_PutRows.a (k : Nat) : AllC Try.prog (impl_PutRows.d.cs k) := ⟨impl_RowsOk.s k, impl_addNum.s k, impl_addStamp.s k, impl_addText.s k, trivial⟩
theorem impl_PutRows_l5.s : LK Try.prog Try.f49 impl_PutRows.d 5 impl_PutRows_l5.p := mkL sO [] (by kernel_rfl) impl_PutRows.a trivial (by kernel_rfl) (fun _ => rfl) (fun k x => by kernel_rfl)
theorem impl_PutRows.s (k : Nat) : CallOk Try.prog 49 (impl_PutRows.e k) := mkS (D := impl_PutRows.d) (k := k) sO [5] Try.func49 (impl_PutRows.a k) ⟨impl_PutRows_l5.s, trivial⟩ (by kernel_rfl) (by kernel_rfl) (fun x => by kernel_rfl)
def spec_PutNum.e (k : Nat) : Ent := ⟨2, [(.val false t3), (.val false (.i .i64))], [(.one, t4)], fun x => spec_PutNum k x.1 x.2⟩
def spec_PutNum_l6.p : LF := ⟨⟨[], [(1, (.i .i64)), (5, t4)]⟩, [((.exit 0), ⟨[], [(1, (.i .i64)), (5, t4)]⟩)], fun k x => spec_PutNum_l6 k x.1 x.2⟩
def spec_PutNum.d : Fd := { nt := 29, nv := 2, nm := [0, 1, 2, 3, 5], res := [4], ls := [(6, spec_PutNum_l6.p)] }
theorem spec_PutNum_l6.s : LK Try.prog Try.f151 spec_PutNum.d 6 spec_PutNum_l6.p := mkL sO [] (by kernel_rfl) (fun _ => trivial) trivial (by kernel_rfl) (fun _ => rfl) (fun k x => by kernel_rfl)
theorem spec_PutNum.s (k : Nat) : CallOk Try.prog 151 (spec_PutNum.e k) := mkS (D := spec_PutNum.d) (k := k) sO [6] Try.func151 trivial ⟨spec_PutNum_l6.s, trivial⟩ (by kernel_rfl) (by kernel_rfl) (fun x => by kernel_rfl)
def spec_l8Stamp.e (k : Nat) : Ent := ⟨2, [(.val false t3), (.val true t14)], [(.one, t4)], fun x => spec_l8Stamp k x.1 x.2⟩
def spec_l8Stamp.d : Fd := { nt := 15, nv := 2, nm := [0, 1, 2, 3], res := [4], cs := fun k => [(151, spec_PutNum.e k)] }
theorem spec_l8Stamp.s (k : Nat) : CallOk Try.prog 152 (spec_l8Stamp.e k) := mkS (D := spec_l8Stamp.d) (k := k) sO [] Try.func152 ⟨spec_PutNum.s k, trivial⟩ trivial (by kernel_rfl) (by kernel_rfl) (fun x => by kernel_rfl)
def spec_PutText.e (k : Nat) : Ent := ⟨2, [(.val false t3), (.val false .s)], [(.one, t4)], fun x => spec_PutText k x.1 x.2⟩
def spec_PutText.d : Fd := { nt := 11, nv := 2, nm := [0, 1, 2, 3], res := [4], cs := fun k => [(151, spec_PutNum.e k)] }
theorem spec_PutText.s (k : Nat) : CallOk Try.prog 153 (spec_PutText.e k) := mkS (D := spec_PutText.d) (k := k) sO [] Try.func153 ⟨spec_PutNum.s k, trivial⟩ trivial (by kernel_rfl) (by kernel_rfl) (fun x => by kernel_rfl)
def spec_l8Bool.e (k : Nat) : Ent := ⟨1, [(.val false .b)], [(.one, (.i .i64))], fun x => spec_l8Bool x⟩
def spec_l8Bool.d : Fd := { nt := 4, nv := 1, nm := [0, 1], res := [2] }
theorem spec_l8Bool.s (k : Nat) : CallOk Try.prog 154 (spec_l8Bool.e k) := mkS (D := spec_l8Bool.d) (k := k) sO [] Try.func154 trivial trivial (by kernel_rfl) (by kernel_rfl) (fun x => by kernel_rfl)
def spec_PutRows.e (k : Nat) : Ent := ⟨1, [(.val false t25)], [(.one, t4)], fun x => spec_PutRows k x⟩
def spec_PutRows_l5.p : LF := ⟨⟨[], [(0, t25), (3, t4), (4, (.i .i64))]⟩, [((.exit 0), ⟨[], [(3, t4)]⟩)], fun k x => spec_PutRows_l5 k x.1 x.2.1 x.2.2⟩
def spec_PutRows.d : Fd := { nt := 47, nv := 1, nm := [0, 1, 3, 4], res := [2], cs := fun k => [(25, spec_RowsOk.e k), (151, spec_PutNum.e k), (152, spec_l8Stamp.e k), (153, spec_PutText.e k), (154, spec_l8Bool.e k)], ls := [(5, spec_PutRows_l5.p)] }
theorem spec_PutRows.a (k : Nat) : AllC Try.prog (spec_PutRows.d.cs k) := ⟨spec_RowsOk.s k, spec_PutNum.s k, spec_l8Stamp.s k, spec_PutText.s k, spec_l8Bool.s k, trivial⟩
theorem spec_PutRows_l5.s : LK Try.prog Try.f104 spec_PutRows.d 5 spec_PutRows_l5.p := mkL sO [] (by kernel_rfl) spec_PutRows.a trivial (by kernel_rfl) (fun _ => rfl) (fun k x => by kernel_rfl)
theorem spec_PutRows.s (k : Nat) : CallOk Try.prog 104 (spec_PutRows.e k) := mkS (D := spec_PutRows.d) (k := k) sO [5] Try.func104 (spec_PutRows.a k) ⟨spec_PutRows_l5.s, trivial⟩ (by kernel_rfl) (by kernel_rfl) (fun x => by kernel_rfl)
def spec_DrawGetRows.e (k : Nat) : Ent := ⟨1, [(.val false t3)], [(.one, t3)], fun x => spec_DrawGetRows k x⟩
def spec_DrawGetRows.d : Fd := { nt := 33, nv := 1, nm := [0, 1, 3, 4], res := [2], cs := fun k => [(68, spec_l1New.e k), (74, spec_l11Draw.e k), (104, spec_PutRows.e k), (105, spec_l1Below.e k), (106, spec_l1Int.e k)] }
theorem spec_DrawGetRows.s (k : Nat) : CallOk Try.prog 50 (spec_DrawGetRows.e k) := mkS (D := spec_DrawGetRows.d) (k := k) sO [] Try.func50 ⟨spec_l1New.s k, spec_l11Draw.s k, spec_PutRows.s k, spec_l1Below.s k, spec_l1Int.s k, trivial⟩ trivial (by kernel_rfl) (by kernel_rfl) (fun x => by kernel_rfl)
def impl_GetNum.e (k : Nat) : Ent := ⟨2, [(.val false t3), (.val false (.i .i64))], [(.one, (.i .i64)), (.one, (.i .i64)), (.one, .b)], fun x => impl_GetNum k x.1 x.2⟩
def impl_GetNum_l3.p : LF := ⟨⟨[], [(0, t3), (1, (.i .i64)), (7, (.i .i64)), (8, (.i .i64))]⟩, [(.ret, ⟨[], [(4, (.i .i64)), (5, (.i .i64)), (6, .b)]⟩), ((.exit 0), ⟨[], []⟩)], fun k x => impl_GetNum_l3 k x.1 x.2.1 x.2.2.1 x.2.2.2⟩
def impl_GetNum.d : Fd := { nt := 57, nv := 2, nm := [0, 1, 2, 3, 7, 8, 9], res := [4, 5, 6], ls := [(3, impl_GetNum_l3.p)] }
theorem impl_GetNum_l3.s : LK Try.prog Try.f156 impl_GetNum.d 3 impl_GetNum_l3.p := mkL sO [] (by kernel_rfl) (fun _ => trivial) trivial (by kernel_rfl) (fun _ => rfl) (fun k x => by kernel_rfl)
theorem impl_GetNum.s (k : Nat) : CallOk Try.prog 156 (impl_GetNum.e k) := mkS (D := impl_GetNum.d) (k := k) sO [3] Try.func156 trivial ⟨impl_GetNum_l3.s, trivial⟩ (by kernel_rfl) (by kernel_rfl) (fun x => by kernel_rfl)
def impl_reader_num.e (k : Nat) : Ent := ⟨1, [(.ptr t15 t15)], [(.one, (.i .i64))], fun x => impl_reader_num k x⟩
def impl_reader_num.d : Fd := { nt := 35, nv := 1, nm := [0, 1, 3, 4, 5], res := [2], cs := fun k => [(156, impl_GetNum.e k)] }
theorem impl_reader_num.s (k : Nat) : CallOk Try.prog 107 (impl_reader_num.e k) := mkS (D := impl_reader_num.d) (k := k) sO [] Try.func107 ⟨impl_GetNum.s k, trivial⟩ trivial (by kernel_rfl) (by kernel_rfl) (fun x => by kernel_rfl)
def impl_GetText.e (k : Nat) : Ent := ⟨2, [(.val false t3), (.val false (.i .i64))], [(.one, .s), (.one, (.i .i64)), (.one, .b)], fun x => impl_GetText k x.1 x.2⟩
def impl_GetText.d : Fd := { nt := 37, nv := 2, nm := [0, 1, 2, 3, 7, 8, 9], res := [4, 5, 6], cs := fun k => [(156, impl_GetNum.e k)] }
theorem impl_GetText.s (k : Nat) : CallOk Try.prog 157 (impl_GetText.e k) := mkS (D := impl_GetText.d) (k := k) sO [] Try.func157 ⟨impl_GetNum.s k, trivial⟩ trivial (by kernel_rfl) (by kernel_rfl) (fun x => by kernel_rfl)
def impl_reader_text.e (k : Nat) : Ent := ⟨1, [(.ptr t15 t15)], [(.one, .s)], fun x => impl_reader_text k x⟩
def impl_reader_text.d : Fd := { nt := 35, nv := 1, nm := [0, 1, 3, 4, 5], res := [2], cs := fun k => [(157, impl_GetText.e k)] }
theorem impl_reader_text.s (k : Nat) : CallOk Try.prog 108 (impl_reader_text.e k) := mkS (D := impl_reader_text.d) (k := k) sO [] Try.func108 ⟨impl_GetText.s k, trivial⟩ trivial (by kernel_rfl) (by kernel_rfl) (fun x => by kernel_rfl)
def impl_reader_stamp.e (k : Nat) : Ent := ⟨1, [(.ptr t15 t15)], [(.agg, t14), (.one, .b)], fun x => impl_reader_stamp k x⟩
def impl_reader_stamp.d : Fd := { nt := 31, nv := 1, nm := [0, 1, 4, 5], res := [3], cs := fun k => [(107, impl_reader_num.e k)] }
theorem impl_reader_stamp.s (k : Nat) : CallOk Try.prog 109 (impl_reader_stamp.e k) := mkS (D := impl_reader_stamp.d) (k := k) sO [] Try.func109 ⟨impl_reader_num.s k, trivial⟩ trivial (by kernel_rfl) (by kernel_rfl) (fun x => by kernel_rfl)
def impl_GetRows.e (k : Nat) : Ent := ⟨1, [(.val false t3)], [(.one, t26), (.one, .b)], fun x => impl_GetRows k x⟩
def impl_GetRows_l5.p : LF := ⟨⟨[(4, (.bp 11 0 0)), (12999, (.hd 3))], [(0, t3), (5, (.i .i64)), (6, t26), (7, (.i .i64)), (12000, t3), (12001, (.i .i64)), (12002, .b)]⟩, [((.exit 0), ⟨[(4, (.bp 11 0 0)), (12999, (.hd 3))], [(0, t3), (6, t26), (12000, t3), (12001, (.i .i64)), (12002, .b)]⟩)], fun k x => impl_GetRows_l5 k x.1 x.2.1 x.2.2.1 x.2.2.2.1 x.2.2.2.2.1 x.2.2.2.2.2.1 x.2.2.2.2.2.2⟩
def impl_GetRows.d : Fd := { nt := 62, nv := 1, nm := [0, 1, 4, 5, 6, 7, 8], res := [2, 3], cs := fun k => [(24, impl_RowsOk.e k), (107, impl_reader_num.e k), (108, impl_reader_text.e k), (109, impl_reader_stamp.e k)], ls := [(5, impl_GetRows_l5.p)] }
theorem impl_GetRows.a (k : Nat) : AllC Try.prog (impl_GetRows.d.cs k) := ⟨impl_RowsOk.s k, impl_reader_num.s k, impl_reader_text.s k, impl_reader_stamp.s k, trivial⟩
theorem impl_GetRows_l5.s : LK Try.prog Try.f51 impl_GetRows.d 5 impl_GetRows_l5.p := mkL sO [] (by kernel_rfl) impl_GetRows.a trivial (by kernel_rfl) (fun _ => rfl) (fun k x => by kernel_rfl)
theorem impl_GetRows.s (k : Nat) : CallOk Try.prog 51 (impl_GetRows.e k) := mkS (D := impl_GetRows.d) (k := k) sO [5] Try.func51 (impl_GetRows.a k) ⟨impl_GetRows_l5.s, trivial⟩ (by kernel_rfl) (by kernel_rfl) (fun x => by kernel_rfl)
def spec_GetNum.e (k : Nat) : Ent := ⟨2, [(.val false t3), (.val false (.i .i64))], [(.one, (.i .i64)), (.one, (.i .i64)), (.one, .b)], fun x => spec_GetNum k x.1 x.2⟩
def spec_GetNum_l3.p : LF := ⟨⟨[], [(0, t3), (1, (.i .i64)), (7, (.i .i64)), (8, (.i .i64))]⟩, [(.ret, ⟨[], [(4, (.i .i64)), (5, (.i .i64)), (6, .b)]⟩), ((.exit 0), ⟨[], []⟩)], fun k x => spec_GetNum_l3 k x.1 x.2.1 x.2.2.1 x.2.2.2⟩
def spec_GetNum.d : Fd := { nt := 64, nv := 2, nm := [0, 1, 2, 3, 7, 8, 9], res := [4, 5, 6], ls := [(3, spec_GetNum_l3.p)] }
theorem spec_GetNum_l3.s : LK Try.prog Try.f110 spec_GetNum.d 3 spec_GetNum_l3.p := mkL sO [] (by kernel_rfl) (fun _ => trivial) trivial (by kernel_rfl) (fun _ => rfl) (fun k x => by kernel_rfl)
theorem spec_GetNum.s (k : Nat) : CallOk Try.prog 110 (spec_GetNum.e k) := mkS (D := spec_GetNum.d) (k := k) sO [3] Try.func110 trivial ⟨spec_GetNum_l3.s, trivial⟩ (by kernel_rfl) (by kernel_rfl) (fun x => by kernel_rfl)
def spec_GetText.e (k : Nat) : Ent := ⟨2, [(.val false t3), (.val false (.i .i64))], [(.one, .s), (.one, (.i .i64)), (.one, .b)], fun x => spec_GetText k x.1 x.2⟩
def spec_GetText.d : Fd := { nt := 37, nv := 2, nm := [0, 1, 2, 3, 7, 8, 9], res := [4, 5, 6], cs := fun k => [(110, spec_GetNum.e k)] }
theorem spec_GetText.s (k : Nat) : CallOk Try.prog 111 (spec_GetText.e k) := mkS (D := spec_GetText.d) (k := k) sO [] Try.func111 ⟨spec_GetNum.s k, trivial⟩ trivial (by kernel_rfl) (by kernel_rfl) (fun x => by kernel_rfl)
def spec_l8GetStamp.e (k : Nat) : Ent := ⟨2, [(.val false t3), (.val false (.i .i64))], [(.agg, t14), (.one, (.i .i64)), (.one, .b)], fun x => spec_l8GetStamp k x.1 x.2⟩
def spec_l8GetStamp.d : Fd := { nt := 49, nv := 2, nm := [0, 1, 2, 3, 7, 8, 9, 10, 11, 12, 13, 14, 15], res := [5, 6], cs := fun k => [(110, spec_GetNum.e k)] }
theorem spec_l8GetStamp.s (k : Nat) : CallOk Try.prog 112 (spec_l8GetStamp.e k) := mkS (D := spec_l8GetStamp.d) (k := k) sO [] Try.func112 ⟨spec_GetNum.s k, trivial⟩ trivial (by kernel_rfl) (by kernel_rfl) (fun x => by kernel_rfl)
def spec_GetRows.e (k : Nat) : Ent := ⟨1, [(.val false t3)], [(.one, t26), (.one, .b)], fun x => spec_GetRows k x⟩
def spec_GetRows_l7.p : LF := ⟨⟨[], [(0, t3), (4, t26), (5, (.i .i64)), (6, (.i .i64)), (8, t26), (9, (.i .i64))]⟩, [(.ret, ⟨[], [(2, t26), (3, .b)]⟩), ((.exit 0), ⟨[], [(0, t3), (4, t26), (6, (.i .i64)), (8, t26)]⟩)], fun k x => spec_GetRows_l7 k x.1 x.2.1 x.2.2.1 x.2.2.2.1 x.2.2.2.2.1 x.2.2.2.2.2⟩
def spec_GetRows.d : Fd := { nt := 110, nv := 1, nm := [0, 1, 4, 5, 6, 7, 8, 9, 10, 11, 12, 13, 14, 15, 16, 17, 18, 19, 20, 21], res := [2, 3], cs := fun k => [(25, spec_RowsOk.e k), (110, spec_GetNum.e k), (111, spec_GetText.e k), (112, spec_l8GetStamp.e k)], ls := [(7, spec_GetRows_l7.p)] }
theorem spec_GetRows.a (k : Nat) : AllC Try.prog (spec_GetRows.d.cs k) := ⟨spec_RowsOk.s k, spec_GetNum.s k, spec_GetText.s k, spec_l8GetStamp.s k, trivial⟩
theorem spec_GetRows_l7.s : LK Try.prog Try.f52 spec_GetRows.d 7 spec_GetRows_l7.p := mkL sO [] (by kernel_rfl) spec_GetRows.a trivial (by kernel_rfl) (fun _ => rfl) (fun k x => by kernel_rfl)
theorem spec_GetRows.s (k : Nat) : CallOk Try.prog 52 (spec_GetRows.e k) := mkS (D := spec_GetRows.d) (k := k) sO [7] Try.func52 (spec_GetRows.a k) ⟨spec_GetRows_l7.s, trivial⟩ (by kernel_rfl) (by kernel_rfl) (fun x => by kernel_rfl)
def laws_FnRowBytes.e (k : Nat) : Ent := ⟨1, [(.val false t3)], [(.one, .b)], fun x => laws_FnRowBytes k x⟩
def laws_FnRowBytes.d : Fd := { nt := 60, nv := 1, nm := [0, 1, 3, 4, 5, 6, 7, 8, 9, 10, 11], res := [2], cs := fun k => [(15, laws_big.e k), (18, laws_sameRows.e k), (25, spec_RowsOk.e k), (47, laws_sameBytes.e k), (48, spec_DrawPutRows.e k), (49, impl_PutRows.e k), (50, spec_DrawGetRows.e k), (51, impl_GetRows.e k), (52, spec_GetRows.e k)], sh := true }
theorem laws_FnRowBytes.s (k : Nat) : CallOk Try.prog 9 (laws_FnRowBytes.e k) := mkS (D := laws_FnRowBytes.d) (k := k) sO [] Try.func9 ⟨laws_big.s k, laws_sameRows.s k, spec_RowsOk.s k, laws_sameBytes.s k, spec_DrawPutRows.s k, impl_PutRows.s k, spec_DrawGetRows.s k, impl_GetRows.s k, spec_GetRows.s k, trivial⟩ trivial (by kernel_rfl) (by kernel_rfl) (fun x => by kernel_rfl)
def impl_namedOk.e (k : Nat) : Ent := ⟨1, [(.val false t10)], [(.one, .b)], fun x => impl_namedOk k x⟩
def impl_namedOk_l2.p : LF := ⟨⟨[], [(0, t10), (5, t10), (6, (.i .i64)), (7, (.i .i64))]⟩, [(.ret, ⟨[], [(2, .b)]⟩), ((.exit 0), ⟨[], [(0, t10)]⟩)], fun k x => impl_namedOk_l2 k x.1 x.2.1 x.2.2.1 x.2.2.2⟩
def impl_namedOk.d : Fd := { nt := 41, nv := 1, nm := [0, 1, 3, 4], res := [2], cs := fun k => [(83, impl_NameOk.e k)], ls := [(2, impl_namedOk_l2.p)] }
theorem impl_namedOk.a (k : Nat) : AllC Try.prog (impl_namedOk.d.cs k) := ⟨impl_NameOk.s k, trivial⟩
theorem impl_namedOk_l2.s : LK Try.prog Try.f97 impl_namedOk.d 2 impl_namedOk_l2.p := mkL sO [] (by kernel_rfl) impl_namedOk.a trivial (by kernel_rfl) (fun _ => rfl) (fun k x => by kernel_rfl)
theorem impl_namedOk.s (k : Nat) : CallOk Try.prog 97 (impl_namedOk.e k) := mkS (D := impl_namedOk.d) (k := k) sO [2] Try.func97 (impl_namedOk.a k) ⟨impl_namedOk_l2.s, trivial⟩ (by kernel_rfl) (by kernel_rfl) (fun x => by kernel_rfl)
def impl_DiskOk.e (k : Nat) : Ent := ⟨1, [(.val true t21)], [(.one, .b)], fun x => impl_DiskOk k x⟩
def impl_DiskOk.d : Fd := { nt := 11, nv := 1, nm := [0, 1], res := [2], cs := fun k => [(97, impl_namedOk.e k)] }
theorem impl_DiskOk.s (k : Nat) : CallOk Try.prog 44 (impl_DiskOk.e k) := mkS (D := impl_DiskOk.d) (k := k) sO [] Try.func44 ⟨impl_namedOk.s k, trivial⟩ trivial (by kernel_rfl) (by kernel_rfl) (fun x => by kernel_rfl)
def impl_copyBytes.e (k : Nat) : Ent := ⟨1, [(.val false t3)], [(.one, t4)], fun x => impl_copyBytes x⟩
def impl_copyBytes.d : Fd := { nt := 5, nv := 1, nm := [0, 1], res := [2] }
theorem impl_copyBytes.s (k : Nat) : CallOk Try.prog 86 (impl_copyBytes.e k) := mkS (D := impl_copyBytes.d) (k := k) sO [] Try.func86 trivial trivial (by kernel_rfl) (by kernel_rfl) (fun x => by kernel_rfl)
def impl_copyNamed.e (k : Nat) : Ent := ⟨1, [(.val false t10)], [(.one, t11)], fun x => impl_copyNamed k x⟩
def impl_copyNamed_l3.p : LF := ⟨⟨[], [(3, t11), (6, t10), (7, (.i .i64)), (8, (.i .i64))]⟩, [((.exit 0), ⟨[], [(3, t11)]⟩)], fun k x => impl_copyNamed_l3 k x.1 x.2.1 x.2.2.1 x.2.2.2⟩
def impl_copyNamed.d : Fd := { nt := 23, nv := 1, nm := [0, 1, 3, 4, 5], res := [2], cs := fun k => [(86, impl_copyBytes.e k)], ls := [(3, impl_copyNamed_l3.p)] }
theorem impl_copyNamed.a (k : Nat) : AllC Try.prog (impl_copyNamed.d.cs k) := ⟨impl_copyBytes.s k, trivial⟩
theorem impl_copyNamed_l3.s : LK Try.prog Try.f96 impl_copyNamed.d 3 impl_copyNamed_l3.p := mkL sO [] (by kernel_rfl) impl_copyNamed.a trivial (by kernel_rfl) (fun _ => rfl) (fun k x => by kernel_rfl)
theorem impl_copyNamed.s (k : Nat) : CallOk Try.prog 96 (impl_copyNamed.e k) := mkS (D := impl_copyNamed.d) (k := k) sO [3] Try.func96 (impl_copyNamed.a k) ⟨impl_copyNamed_l3.s, trivial⟩ (by kernel_rfl) (by kernel_rfl) (fun x => by kernel_rfl)
def impl_copyDisk.e (k : Nat) : Ent := ⟨1, [(.val true t21)], [(.agg, t22)], fun x => impl_copyDisk k x⟩
def impl_copyDisk.d : Fd := { nt := 10, nv := 1, nm := [0, 1], res := [], cs := fun k => [(96, impl_copyNamed.e k)] }
theorem impl_copyDisk.s (k : Nat) : CallOk Try.prog 82 (impl_copyDisk.e k) := mkS (D := impl_copyDisk.d) (k := k) sO [] Try.func82 ⟨impl_copyNamed.s k, trivial⟩ trivial (by kernel_rfl) (by kernel_rfl) (fun x => by kernel_rfl)
def impl_put.e (k : Nat) : Ent := ⟨2, [(.val false t10), (.val true t8)], [(.one, t11)], fun x => impl_put k x.1 x.2⟩
def impl_put_l2.p : LF := ⟨⟨[(3, (.bp 3 0 0)), (4999, (.hd 2))], [(0, t10), (5, (.i .i64)), (4000, .s), (4001, t3)]⟩, [((.exit 0), ⟨[(3, (.bp 3 0 0)), (4999, (.hd 2))], [(0, t10), (5, (.i .i64)), (4000, .s), (4001, t3)]⟩)], fun k x => impl_put_l2 k x.1 x.2.1 x.2.2.1 x.2.2.2⟩
def impl_put.d : Fd := { nt := 33, nv := 2, nm := [0, 1, 2, 3, 5], res := [4], ls := [(2, impl_put_l2.p)] }
theorem impl_put_l2.s : LK Try.prog Try.f84 impl_put.d 2 impl_put_l2.p := mkL sO [] (by kernel_rfl) (fun _ => trivial) trivial (by kernel_rfl) (fun _ => rfl) (fun k x => by kernel_rfl)
theorem impl_put.s (k : Nat) : CallOk Try.prog 84 (impl_put.e k) := mkS (D := impl_put.d) (k := k) sO [2] Try.func84 trivial ⟨impl_put_l2.s, trivial⟩ (by kernel_rfl) (by kernel_rfl) (fun x => by kernel_rfl)
def impl_at.e (k : Nat) : Ent := ⟨2, [(.val false t10), (.val false .s)], [(.one, (.i .i64))], fun x => impl_at k x.1 x.2⟩
def impl_at_l2.p : LF := ⟨⟨[], [(1, .s), (7, t10), (8, (.i .i64)), (9, (.i .i64))]⟩, [(.ret, ⟨[], [(4, (.i .i64))]⟩), ((.exit 0), ⟨[], []⟩)], fun k x => impl_at_l2 k x.1 x.2.1 x.2.2.1 x.2.2.2⟩
def impl_at.d : Fd := { nt := 20, nv := 2, nm := [0, 1, 2, 3, 5, 6], res := [4], ls := [(2, impl_at_l2.p)] }
theorem impl_at_l2.s : LK Try.prog Try.f92 impl_at.d 2 impl_at_l2.p := mkL sO [] (by kernel_rfl) (fun _ => trivial) trivial (by kernel_rfl) (fun _ => rfl) (fun k x => by kernel_rfl)
theorem impl_at.s (k : Nat) : CallOk Try.prog 92 (impl_at.e k) := mkS (D := impl_at.d) (k := k) sO [2] Try.func92 trivial ⟨impl_at_l2.s, trivial⟩ (by kernel_rfl) (by kernel_rfl) (fun x => by kernel_rfl)
def impl_drop.e (k : Nat) : Ent := ⟨2, [(.val false t10), (.val false .s)], [(.one, t10)], fun x => impl_drop k x.1 x.2⟩
def impl_drop.d : Fd := { nt := 21, nv := 2, nm := [0, 1, 2, 3, 5], res := [4], cs := fun k => [(92, impl_at.e k)] }
theorem impl_drop.s (k : Nat) : CallOk Try.prog 85 (impl_drop.e k) := mkS (D := impl_drop.d) (k := k) sO [] Try.func85 ⟨impl_at.s k, trivial⟩ trivial (by kernel_rfl) (by kernel_rfl) (fun x => by kernel_rfl)
def impl_SyncName.e (k : Nat) : Ent := ⟨2, [(.val true t21), (.val false .s)], [(.agg, (.pr t11 t10)), (.one, .b)], fun x => impl_SyncName k x.1 x.2⟩
def impl_SyncName.d : Fd := { nt := 50, nv := 2, nm := [0, 1, 2, 3, 6, 7], res := [5], cs := fun k => [(44, impl_DiskOk.e k), (82, impl_copyDisk.e k), (83, impl_NameOk.e k), (84, impl_put.e k), (85, impl_drop.e k), (86, impl_copyBytes.e k), (92, impl_at.e k)], mv := [18, 49] }
theorem impl_SyncName.s (k : Nat) : CallOk Try.prog 37 (impl_SyncName.e k) := mkS (D := impl_SyncName.d) (k := k) sO [] Try.func37 ⟨impl_DiskOk.s k, impl_copyDisk.s k, impl_NameOk.s k, impl_put.s k, impl_drop.s k, impl_copyBytes.s k, impl_at.s k, trivial⟩ trivial (by kernel_rfl) (by kernel_rfl) (fun x => by kernel_rfl)
def spec_l3Any.e (k : Nat) : Ent := ⟨1, [(.ptr t16 t16)], [(.one, .s)], fun x => spec_l3Any x⟩
def spec_l3Any.d : Fd := { nt := 10, nv := 1, nm := [0, 1], res := [2], cs := fun k => [(114, spec_l1Once.e k), (136, spec_l3Name.e k), (149, spec_l1Str.e k)] }
theorem spec_l3Any.s (k : Nat) : CallOk Try.prog 99 (spec_l3Any.e k) := mkS (D := spec_l3Any.d) (k := k) sO [] Try.func99 ⟨spec_l1Once.s k, spec_l3Name.s k, spec_l1Str.s k, trivial⟩ trivial (by kernel_rfl) (by kernel_rfl) (fun x => by kernel_rfl)
def spec_l9CopyList.e (k : Nat) : Ent := ⟨1, [(.val false t10)], [(.one, t11)], fun x => spec_l9CopyList k x⟩
def spec_l9CopyList_l3.p : LF := ⟨⟨[], [(0, t10), (3, t11), (4, (.i .i64))]⟩, [((.exit 0), ⟨[], [(3, t11)]⟩)], fun k x => spec_l9CopyList_l3 k x.1 x.2.1 x.2.2⟩
def spec_l9CopyList.d : Fd := { nt := 29, nv := 1, nm := [0, 1, 3, 4], res := [2], ls := [(3, spec_l9CopyList_l3.p)] }
theorem spec_l9CopyList_l3.s : LK Try.prog Try.f143 spec_l9CopyList.d 3 spec_l9CopyList_l3.p := mkL sO [] (by kernel_rfl) (fun _ => trivial) trivial (by kernel_rfl) (fun _ => rfl) (fun k x => by kernel_rfl)
theorem spec_l9CopyList.s (k : Nat) : CallOk Try.prog 143 (spec_l9CopyList.e k) := mkS (D := spec_l9CopyList.d) (k := k) sO [3] Try.func143 trivial ⟨spec_l9CopyList_l3.s, trivial⟩ (by kernel_rfl) (by kernel_rfl) (fun x => by kernel_rfl)
def spec_l9CopyList_d.e (k : Nat) : Ent := ⟨1, [(.val false t10)], [(.one, t12)], fun x => spec_l9CopyList_d k x⟩
def spec_l9CopyList_d_l3.p : LF := ⟨⟨[], [(0, t10), (3, t12), (4, (.i .i64))]⟩, [((.exit 0), ⟨[], [(3, t12)]⟩)], fun k x => spec_l9CopyList_d_l3 k x.1 x.2.1 x.2.2⟩
def spec_l9CopyList_d.d : Fd := { nt := 29, nv := 1, nm := [0, 1, 3, 4], res := [2], ls := [(3, spec_l9CopyList_d_l3.p)], hint := [(5, t9), (26, t9), (27, t9)] }
theorem spec_l9CopyList_d_l3.s : LK Try.prog Try.f143 spec_l9CopyList_d.d 3 spec_l9CopyList_d_l3.p := mkL sO [] (by kernel_rfl) (fun _ => trivial) trivial (by kernel_rfl) (fun _ => rfl) (fun k x => by kernel_rfl)
theorem spec_l9CopyList_d.s (k : Nat) : CallOk Try.prog 143 (spec_l9CopyList_d.e k) := mkS (D := spec_l9CopyList_d.d) (k := k) sO [3] Try.func143 trivial ⟨spec_l9CopyList_d_l3.s, trivial⟩ (by kernel_rfl) (by kernel_rfl) (fun x => by kernel_rfl)
def spec_l9Copy.e (k : Nat) : Ent := ⟨1, [(.val true t21)], [(.agg, t22)], fun x => spec_l9Copy k x⟩
def spec_l9Copy.d : Fd := { nt := 10, nv := 1, nm := [0, 1], res := [], cs := fun k => [(143, spec_l9CopyList.e k)] }
theorem spec_l9Copy.s (k : Nat) : CallOk Try.prog 78 (spec_l9Copy.e k) := mkS (D := spec_l9Copy.d) (k := k) sO [] Try.func78 ⟨spec_l9CopyList.s k, trivial⟩ trivial (by kernel_rfl) (by kernel_rfl) (fun x => by kernel_rfl)
def spec_l9Copy_d.e (k : Nat) : Ent := ⟨1, [(.val true t21)], [(.agg, t23)], fun x => spec_l9Copy_d k x⟩
def spec_l9Copy_d.d : Fd := { nt := 10, nv := 1, nm := [0, 1], res := [], cs := fun k => [(143, spec_l9CopyList_d.e k)] }
theorem spec_l9Copy_d.s (k : Nat) : CallOk Try.prog 78 (spec_l9Copy_d.e k) := mkS (D := spec_l9Copy_d.d) (k := k) sO [] Try.func78 ⟨spec_l9CopyList_d.s k, trivial⟩ trivial (by kernel_rfl) (by kernel_rfl) (fun x => by kernel_rfl)
def spec_l9Put.e (k : Nat) : Ent := ⟨3, [(.val false t10), (.val false .s), (.val false t3)], [(.one, t11)], fun x => spec_l9Put k x.1 x.2.1 x.2.2⟩
def spec_l9Put_l5.p : LF := ⟨⟨[(9, (.bp 9 0 0)), (10999, (.hd 2))], [(0, t10), (1, .s), (7, t11), (8, .b), (10, (.i .i64)), (10000, .s), (10001, t3)]⟩, [((.exit 0), ⟨[(9, (.bp 9 0 0)), (10999, (.hd 2))], [(7, t11), (8, .b), (10000, .s), (10001, t3)]⟩)], fun k x => spec_l9Put_l5 k x.1 x.2.1 x.2.2.1 x.2.2.2.1 x.2.2.2.2.1 x.2.2.2.2.2.1 x.2.2.2.2.2.2⟩
def spec_l9Put.d : Fd := { nt := 59, nv := 3, nm := [0, 1, 2, 3, 4, 5, 7, 8, 9, 10], res := [6], ls := [(5, spec_l9Put_l5.p)] }
theorem spec_l9Put_l5.s : LK Try.prog Try.f79 spec_l9Put.d 5 spec_l9Put_l5.p := mkL sO [] (by kernel_rfl) (fun _ => trivial) trivial (by kernel_rfl) (fun _ => rfl) (fun k x => by kernel_rfl)
theorem spec_l9Put.s (k : Nat) : CallOk Try.prog 79 (spec_l9Put.e k) := mkS (D := spec_l9Put.d) (k := k) sO [5] Try.func79 trivial ⟨spec_l9Put_l5.s, trivial⟩ (by kernel_rfl) (by kernel_rfl) (fun x => by kernel_rfl)
def spec_l9List.e (k : Nat) : Ent := ⟨1, [(.val false t10)], [(.one, .b)], fun x => spec_l9List k x⟩
def spec_l9List_l2.p : LF := ⟨⟨[], [(0, t10), (3, (.i .i64))]⟩, [(.ret, ⟨[], [(2, .b)]⟩), ((.exit 0), ⟨[], [(0, t10)]⟩)], fun k x => spec_l9List_l2 k x.1 x.2⟩
def spec_l9List.d : Fd := { nt := 47, nv := 1, nm := [0, 1, 3], res := [2], cs := fun k => [(128, spec_NameOk.e k)], ls := [(2, spec_l9List_l2.p)] }
theorem spec_l9List.a (k : Nat) : AllC Try.prog (spec_l9List.d.cs k) := ⟨spec_NameOk.s k, trivial⟩
theorem spec_l9List_l2.s : LK Try.prog Try.f165 spec_l9List.d 2 spec_l9List_l2.p := mkL sO [] (by kernel_rfl) spec_l9List.a trivial (by kernel_rfl) (fun _ => rfl) (fun k x => by kernel_rfl)
theorem spec_l9List.s (k : Nat) : CallOk Try.prog 165 (spec_l9List.e k) := mkS (D := spec_l9List.d) (k := k) sO [2] Try.func165 (spec_l9List.a k) ⟨spec_l9List_l2.s, trivial⟩ (by kernel_rfl) (by kernel_rfl) (fun x => by kernel_rfl)
def spec_DiskOk.e (k : Nat) : Ent := ⟨1, [(.val true t21)], [(.one, .b)], fun x => spec_DiskOk k x⟩
def spec_DiskOk.d : Fd := { nt := 11, nv := 1, nm := [0, 1], res := [2], cs := fun k => [(165, spec_l9List.e k)] }
theorem spec_DiskOk.s (k : Nat) : CallOk Try.prog 127 (spec_DiskOk.e k) := mkS (D := spec_DiskOk.d) (k := k) sO [] Try.func127 ⟨spec_l9List.s k, trivial⟩ trivial (by kernel_rfl) (by kernel_rfl) (fun x => by kernel_rfl)
def spec_l9Ends.e (k : Nat) : Ent := ⟨3, [(.val true t21), (.val true t22), (.val false .s)], [(.agg, t22), (.one, .b)], fun x => spec_l9Ends k x.1 x.2.1 x.2.2⟩
def spec_l9Ends.d : Fd := { nt := 24, nv := 3, nm := [0, 1, 2, 3, 4, 5], res := [7], cs := fun k => [(78, spec_l9Copy.e k), (127, spec_DiskOk.e k), (128, spec_NameOk.e k)], mv := [23] }
theorem spec_l9Ends.s (k : Nat) : CallOk Try.prog 80 (spec_l9Ends.e k) := mkS (D := spec_l9Ends.d) (k := k) sO [] Try.func80 ⟨spec_l9Copy.s k, spec_DiskOk.s k, spec_NameOk.s k, trivial⟩ trivial (by kernel_rfl) (by kernel_rfl) (fun x => by kernel_rfl)
def spec_WriteName.e (k : Nat) : Ent := ⟨3, [(.val true t21), (.val false .s), (.val false t3)], [(.agg, t22), (.one, .b)], fun x => spec_WriteName k x.1 x.2.1 x.2.2⟩
def spec_WriteName.d : Fd := { nt := 23, nv := 3, nm := [0, 1, 2, 3, 4, 5, 8], res := [7], cs := fun k => [(78, spec_l9Copy.e k), (79, spec_l9Put.e k), (80, spec_l9Ends.e k)] }
theorem spec_WriteName.s (k : Nat) : CallOk Try.prog 27 (spec_WriteName.e k) := mkS (D := spec_WriteName.d) (k := k) sO [] Try.func27 ⟨spec_l9Copy.s k, spec_l9Put.s k, spec_l9Ends.s k, trivial⟩ trivial (by kernel_rfl) (by kernel_rfl) (fun x => by kernel_rfl)
def spec_l9At.e (k : Nat) : Ent := ⟨2, [(.val false t10), (.val false .s)], [(.one, (.i .i64))], fun x => spec_l9At k x.1 x.2⟩
def spec_l9At_l2.p : LF := ⟨⟨[], [(0, t10), (1, .s), (5, (.i .i64))]⟩, [(.ret, ⟨[], [(4, (.i .i64))]⟩), ((.exit 0), ⟨[], []⟩)], fun k x => spec_l9At_l2 k x.1 x.2.1 x.2.2⟩
def spec_l9At.d : Fd := { nt := 20, nv := 2, nm := [0, 1, 2, 3, 5], res := [4], ls := [(2, spec_l9At_l2.p)] }
theorem spec_l9At_l2.s : LK Try.prog Try.f94 spec_l9At.d 2 spec_l9At_l2.p := mkL sO [] (by kernel_rfl) (fun _ => trivial) trivial (by kernel_rfl) (fun _ => rfl) (fun k x => by kernel_rfl)
theorem spec_l9At.s (k : Nat) : CallOk Try.prog 94 (spec_l9At.e k) := mkS (D := spec_l9At.d) (k := k) sO [2] Try.func94 trivial ⟨spec_l9At_l2.s, trivial⟩ (by kernel_rfl) (by kernel_rfl) (fun x => by kernel_rfl)
def spec_ReadName.e (k : Nat) : Ent := ⟨2, [(.val true t21), (.val false .s)], [(.one, t4), (.one, .b)], fun x => spec_ReadName k x.1 x.2⟩
def spec_ReadName.d : Fd := { nt := 22, nv := 2, nm := [0, 1, 2, 3, 6], res := [4, 5], cs := fun k => [(94, spec_l9At.e k)] }
theorem spec_ReadName.s (k : Nat) : CallOk Try.prog 90 (spec_ReadName.e k) := mkS (D := spec_ReadName.d) (k := k) sO [] Try.func90 ⟨spec_l9At.s k, trivial⟩ trivial (by kernel_rfl) (by kernel_rfl) (fun x => by kernel_rfl)
def spec_l9Cut.e (k : Nat) : Ent := ⟨2, [(.val false t10), (.val false .s)], [(.one, t11)], fun x => spec_l9Cut k x.1 x.2⟩
def spec_l9Cut_l3.p : LF := ⟨⟨[], [(0, t10), (1, .s), (5, t11), (6, (.i .i64))]⟩, [((.exit 0), ⟨[], [(5, t11)]⟩)], fun k x => spec_l9Cut_l3 k x.1 x.2.1 x.2.2.1 x.2.2.2⟩
def spec_l9Cut.d : Fd := { nt := 29, nv := 2, nm := [0, 1, 2, 3, 5, 6], res := [4], ls := [(3, spec_l9Cut_l3.p)] }
theorem spec_l9Cut_l3.s : LK Try.prog Try.f91 spec_l9Cut.d 3 spec_l9Cut_l3.p := mkL sO [] (by kernel_rfl) (fun _ => trivial) trivial (by kernel_rfl) (fun _ => rfl) (fun k x => by kernel_rfl)
theorem spec_l9Cut.s (k : Nat) : CallOk Try.prog 91 (spec_l9Cut.e k) := mkS (D := spec_l9Cut.d) (k := k) sO [3] Try.func91 trivial ⟨spec_l9Cut_l3.s, trivial⟩ (by kernel_rfl) (by kernel_rfl) (fun x => by kernel_rfl)
def spec_SyncName.e (k : Nat) : Ent := ⟨2, [(.val true t21), (.val false .s)], [(.agg, t22), (.one, .b)], fun x => spec_SyncName k x.1 x.2⟩
def spec_SyncName.d : Fd := { nt := 35, nv := 2, nm := [0, 1, 2, 3, 6, 7, 8], res := [5], cs := fun k => [(78, spec_l9Copy.e k), (79, spec_l9Put.e k), (80, spec_l9Ends.e k), (90, spec_ReadName.e k), (91, spec_l9Cut.e k)] }
theorem spec_SyncName.s (k : Nat) : CallOk Try.prog 36 (spec_SyncName.e k) := mkS (D := spec_SyncName.d) (k := k) sO [] Try.func36 ⟨spec_l9Copy.s k, spec_l9Put.s k, spec_l9Ends.s k, spec_ReadName.s k, spec_l9Cut.s k, trivial⟩ trivial (by kernel_rfl) (by kernel_rfl) (fun x => by kernel_rfl)
def spec_RemoveName.e (k : Nat) : Ent := ⟨2, [(.val true t21), (.val false .s)], [(.agg, t22), (.one, .b)], fun x => spec_RemoveName k x.1 x.2⟩
def spec_RemoveName.d : Fd := { nt := 26, nv := 2, nm := [0, 1, 2, 3, 6], res := [5], cs := fun k => [(78, spec_l9Copy.e k), (80, spec_l9Ends.e k), (91, spec_l9Cut.e k), (94, spec_l9At.e k)], mv := [14] }
theorem spec_RemoveName.s (k : Nat) : CallOk Try.prog 40 (spec_RemoveName.e k) := mkS (D := spec_RemoveName.d) (k := k) sO [] Try.func40 ⟨spec_l9Copy.s k, spec_l9Ends.s k, spec_l9Cut.s k, spec_l9At.s k, trivial⟩ trivial (by kernel_rfl) (by kernel_rfl) (fun x => by kernel_rfl)
def spec_FileOk.e (k : Nat) : Ent := ⟨1, [(.val true t18)], [(.one, .b)], fun x => spec_FileOk x⟩
def spec_FileOk.d : Fd := { nt := 23, nv := 1, nm := [0, 1], res := [2], cs := fun k => [(140, spec_StampOk.e k)] }
theorem spec_FileOk.s (k : Nat) : CallOk Try.prog 129 (spec_FileOk.e k) := mkS (D := spec_FileOk.d) (k := k) sO [] Try.func129 ⟨spec_StampOk.s k, trivial⟩ trivial (by kernel_rfl) (by kernel_rfl) (fun x => by kernel_rfl)
def spec_Crc.e (k : Nat) : Ent := ⟨1, [(.val false t3)], [(.one, (.i .i64))], fun x => spec_Crc k x⟩
def spec_Crc_l7.p : LF := ⟨⟨[], [(0, t3), (3, (.i .i64)), (4, (.i .i64)), (5, (.i .i64))]⟩, [((.exit 2), ⟨[], [(0, t3), (3, (.i .i64)), (4, (.i .i64))]⟩)], fun k x => spec_Crc_l7 k x.1 x.2.1 x.2.2.1 x.2.2.2⟩
def spec_Crc_l3.p : LF := ⟨⟨[], [(0, t3), (3, (.i .i64)), (4, (.i .i64))]⟩, [((.exit 0), ⟨[], [(3, (.i .i64))]⟩)], fun k x => spec_Crc_l3 k x.1 x.2.1 x.2.2⟩
def spec_Crc.d : Fd := { nt := 34, nv := 1, nm := [0, 1, 3, 4, 5, 6], res := [2], ls := [(7, spec_Crc_l7.p), (3, spec_Crc_l3.p)] }
theorem spec_Crc_l7.s : LK Try.prog Try.f166 spec_Crc.d 7 spec_Crc_l7.p := mkL sO [] (by kernel_rfl) (fun _ => trivial) trivial (by kernel_rfl) (fun _ => rfl) (fun k x => by kernel_rfl)
theorem spec_Crc_l3.s : LK Try.prog Try.f166 spec_Crc.d 3 spec_Crc_l3.p := mkL sO [7] (by kernel_rfl) (fun _ => trivial) ⟨spec_Crc_l7.s, trivial⟩ (by kernel_rfl) (fun _ => rfl) (fun k x => by kernel_rfl)
theorem spec_Crc.s (k : Nat) : CallOk Try.prog 166 (spec_Crc.e k) := mkS (D := spec_Crc.d) (k := k) sO [3] Try.func166 trivial ⟨spec_Crc_l3.s, trivial⟩ (by kernel_rfl) (by kernel_rfl) (fun x => by kernel_rfl)
def spec_PutFile.e (k : Nat) : Ent := ⟨1, [(.val true t18)], [(.one, t4)], fun x => spec_PutFile k x⟩
def spec_PutFile.d : Fd := { nt := 37, nv := 1, nm := [0, 1, 3, 4], res := [2], cs := fun k => [(129, spec_FileOk.e k), (151, spec_PutNum.e k), (152, spec_l8Stamp.e k), (153, spec_PutText.e k), (154, spec_l8Bool.e k), (166, spec_Crc.e k)] }
theorem spec_PutFile.s (k : Nat) : CallOk Try.prog 131 (spec_PutFile.e k) := mkS (D := spec_PutFile.d) (k := k) sO [] Try.func131 ⟨spec_FileOk.s k, spec_PutNum.s k, spec_l8Stamp.s k, spec_PutText.s k, spec_l8Bool.s k, spec_Crc.s k, trivial⟩ trivial (by kernel_rfl) (by kernel_rfl) (fun x => by kernel_rfl)
def spec_l9Draw.e (k : Nat) : Ent := ⟨1, [(.ptr t16 t16)], [(.agg, t22)], fun x => spec_l9Draw k x⟩
def spec_l9Draw_l3.p : LF := ⟨⟨[(0, (.bp 0 0 0)), (2, (.bp 2 0 0)), (3, (.bp 3 0 0)), (1999, (.hd 3)), (3999, (.hd 2)), (4999, (.hd 2))], [(4, (.i .i64)), (1000, t3), (1001, (.i .i64)), (1002, (.i .i64)), (3000, t11), (3001, t11), (4000, t11), (4001, t11)]⟩, [((.exit 0), ⟨[(2, (.bp 2 0 0)), (3, (.bp 3 0 0)), (3999, (.hd 2)), (4999, (.hd 2)), (1999, (.hd 3))], [(3000, t11), (3001, t11), (4000, t11), (4001, t11), (1000, t3), (1001, (.i .i64)), (1002, (.i .i64))]⟩)], fun k x => spec_l9Draw_l3 k x.1 x.2.1 x.2.2.1 x.2.2.2.1 x.2.2.2.2.1 x.2.2.2.2.2.1 x.2.2.2.2.2.2.1 x.2.2.2.2.2.2.2⟩
def spec_l9Draw.d : Fd := { nt := 44, nv := 1, nm := [0, 1, 3, 4, 5], res := [], cs := fun k => [(27, spec_WriteName.e k), (36, spec_SyncName.e k), (40, spec_RemoveName.e k), (105, spec_l1Below.e k), (131, spec_PutFile.e k), (136, spec_l3Name.e k), (137, spec_l8Draw.e k)], ls := [(3, spec_l9Draw_l3.p)], mv := [43] }
theorem spec_l9Draw.a (k : Nat) : AllC Try.prog (spec_l9Draw.d.cs k) := ⟨spec_WriteName.s k, spec_SyncName.s k, spec_RemoveName.s k, spec_l1Below.s k, spec_PutFile.s k, spec_l3Name.s k, spec_l8Draw.s k, trivial⟩
theorem spec_l9Draw_l3.s : LK Try.prog Try.f148 spec_l9Draw.d 3 spec_l9Draw_l3.p := mkL sO [] (by kernel_rfl) spec_l9Draw.a trivial (by kernel_rfl) (fun _ => rfl) (fun k x => by kernel_rfl)
theorem spec_l9Draw.s (k : Nat) : CallOk Try.prog 148 (spec_l9Draw.e k) := mkS (D := spec_l9Draw.d) (k := k) sO [3] Try.func148 (spec_l9Draw.a k) ⟨spec_l9Draw_l3.s, trivial⟩ (by kernel_rfl) (by kernel_rfl) (fun x => by kernel_rfl)
def spec_l9Any.e (k : Nat) : Ent := ⟨1, [(.ptr t16 t16)], [(.agg, t22)], fun x => spec_l9Any k x⟩
def spec_l9Any.d : Fd := { nt := 33, nv := 1, nm := [0, 1, 3], res := [], cs := fun k => [(99, spec_l3Any.e k), (105, spec_l1Below.e k), (148, spec_l9Draw.e k)], mv := [32] }
theorem spec_l9Any.s (k : Nat) : CallOk Try.prog 98 (spec_l9Any.e k) := mkS (D := spec_l9Any.d) (k := k) sO [] Try.func98 ⟨spec_l3Any.s k, spec_l1Below.s k, spec_l9Draw.s k, trivial⟩ trivial (by kernel_rfl) (by kernel_rfl) (fun x => by kernel_rfl)
def spec_DrawReadName.e (k : Nat) : Ent := ⟨1, [(.val false t3)], [(.agg, t22), (.one, .s)], fun x => spec_DrawReadName k x⟩
def spec_DrawReadName.d : Fd := { nt := 11, nv := 1, nm := [0, 1, 4], res := [3], cs := fun k => [(68, spec_l1New.e k), (98, spec_l9Any.e k), (136, spec_l3Name.e k)] }
theorem spec_DrawReadName.s (k : Nat) : CallOk Try.prog 93 (spec_DrawReadName.e k) := mkS (D := spec_DrawReadName.d) (k := k) sO [] Try.func93 ⟨spec_l1New.s k, spec_l9Any.s k, spec_l3Name.s k, trivial⟩ trivial (by kernel_rfl) (by kernel_rfl) (fun x => by kernel_rfl)
def spec_DrawRemoveName.e (k : Nat) : Ent := ⟨1, [(.val false t3)], [(.agg, t22), (.one, .s)], fun x => spec_DrawRemoveName k x⟩
def spec_DrawRemoveName.d : Fd := { nt := 8, nv := 1, nm := [0, 1], res := [3], cs := fun k => [(93, spec_DrawReadName.e k)] }
theorem spec_DrawRemoveName.s (k : Nat) : CallOk Try.prog 38 (spec_DrawRemoveName.e k) := mkS (D := spec_DrawRemoveName.d) (k := k) sO [] Try.func38 ⟨spec_DrawReadName.s k, trivial⟩ trivial (by kernel_rfl) (by kernel_rfl) (fun x => by kernel_rfl)
def impl_RemoveName.e (k : Nat) : Ent := ⟨2, [(.val true t21), (.val false .s)], [(.agg, (.pr t10 t11)), (.one, .b)], fun x => impl_RemoveName k x.1 x.2⟩
def impl_RemoveName.d : Fd := { nt := 26, nv := 2, nm := [0, 1, 2, 3, 6], res := [5], cs := fun k => [(44, impl_DiskOk.e k), (82, impl_copyDisk.e k), (85, impl_drop.e k), (92, impl_at.e k)], mv := [19, 25] }
theorem impl_RemoveName.s (k : Nat) : CallOk Try.prog 39 (impl_RemoveName.e k) := mkS (D := impl_RemoveName.d) (k := k) sO [] Try.func39 ⟨impl_DiskOk.s k, impl_copyDisk.s k, impl_drop.s k, impl_at.s k, trivial⟩ trivial (by kernel_rfl) (by kernel_rfl) (fun x => by kernel_rfl)
def laws_sameNamed.e (k : Nat) : Ent := ⟨2, [(.val false t10), (.val false t10)], [(.one, .b)], fun x => laws_sameNamed k x.1 x.2⟩
def laws_sameNamed_l4.p : LF := ⟨⟨[], [(0, t10), (1, t10), (5, (.i .i64))]⟩, [(.ret, ⟨[], [(4, .b)]⟩), ((.exit 0), ⟨[], []⟩)], fun k x => laws_sameNamed_l4 k x.1 x.2.1 x.2.2⟩
def laws_sameNamed.d : Fd := { nt := 42, nv := 2, nm := [0, 1, 2, 3, 5], res := [4], cs := fun k => [(47, laws_sameBytes.e k)], ls := [(4, laws_sameNamed_l4.p)] }
theorem laws_sameNamed.a (k : Nat) : AllC Try.prog (laws_sameNamed.d.cs k) := ⟨laws_sameBytes.s k, trivial⟩
theorem laws_sameNamed_l4.s : LK Try.prog Try.f41 laws_sameNamed.d 4 laws_sameNamed_l4.p := mkL sO [] (by kernel_rfl) laws_sameNamed.a trivial (by kernel_rfl) (fun _ => rfl) (fun k x => by kernel_rfl)
theorem laws_sameNamed.s (k : Nat) : CallOk Try.prog 41 (laws_sameNamed.e k) := mkS (D := laws_sameNamed.d) (k := k) sO [4] Try.func41 (laws_sameNamed.a k) ⟨laws_sameNamed_l4.s, trivial⟩ (by kernel_rfl) (by kernel_rfl) (fun x => by kernel_rfl)
def impl_ReadName.e (k : Nat) : Ent := ⟨2, [(.val true t21), (.val false .s)], [(.one, t4), (.one, .b)], fun x => impl_ReadName k x.1 x.2⟩
def impl_ReadName.d : Fd := { nt := 20, nv := 2, nm := [0, 1, 2, 3, 6], res := [4, 5], cs := fun k => [(86, impl_copyBytes.e k), (92, impl_at.e k)] }
theorem impl_ReadName.s (k : Nat) : CallOk Try.prog 42 (impl_ReadName.e k) := mkS (D := impl_ReadName.d) (k := k) sO [] Try.func42 ⟨impl_copyBytes.s k, impl_at.s k, trivial⟩ trivial (by kernel_rfl) (by kernel_rfl) (fun x => by kernel_rfl)
def impl_withText.e (k : Nat) : Ent := ⟨2, [(.val false t1), (.val false .s)], [(.one, t1)], fun x => impl_withText k x.1 x.2⟩
def impl_withText_l2.p : LF := ⟨⟨[], [(0, t1), (1, .s), (5, (.i .i64))]⟩, [((.exit 0), ⟨[], [(0, t1), (1, .s), (5, (.i .i64))]⟩)], fun k x => impl_withText_l2 k x.1 x.2.1 x.2.2⟩
def impl_withText.d : Fd := { nt := 44, nv := 2, nm := [0, 1, 2, 3, 5], res := [4], ls := [(2, impl_withText_l2.p)] }
theorem impl_withText_l2.s : LK Try.prog Try.f95 impl_withText.d 2 impl_withText_l2.p := mkL sO [] (by kernel_rfl) (fun _ => trivial) trivial (by kernel_rfl) (fun _ => rfl) (fun k x => by kernel_rfl)
theorem impl_withText.s (k : Nat) : CallOk Try.prog 95 (impl_withText.e k) := mkS (D := impl_withText.d) (k := k) sO [2] Try.func95 trivial ⟨impl_withText_l2.s, trivial⟩ (by kernel_rfl) (by kernel_rfl) (fun x => by kernel_rfl)
def impl_FallDisk.e (k : Nat) : Ent := ⟨2, [(.val true t21), (.val false t0)], [(.agg, t22)], fun x => impl_FallDisk k x.1 x.2⟩
def impl_FallDisk_l11.p : LF := ⟨⟨[(2, (.bp 2 0 0)), (4, (.bp 4 0 0)), (3999, (.hd 2)), (5999, (.hd 2))], [(1, t0), (8, t11), (34, t1), (35, (.i .i64)), (36, (.i .i64)), (3000, t10), (3001, t10), (5000, t11), (5001, t11)]⟩, [((.exit 2), ⟨[(2, (.bp 2 0 0)), (4, (.bp 4 0 0)), (3999, (.hd 2)), (5999, (.hd 2))], [(8, t11), (3000, t10), (3001, t10), (5000, t11), (5001, t11)]⟩)], fun k x => impl_FallDisk_l11 k x.1 x.2.1 x.2.2.1 x.2.2.2.1 x.2.2.2.2.1 x.2.2.2.2.2.1 x.2.2.2.2.2.2.1 x.2.2.2.2.2.2.2.1 x.2.2.2.2.2.2.2.2⟩
def impl_FallDisk_l5.p : LF := ⟨⟨[(2, (.bp 2 0 0)), (4, (.bp 4 0 0)), (3999, (.hd 2)), (5999, (.hd 2))], [(1, t0), (5, t1), (23, t11), (24, (.i .i64)), (25, (.i .i64)), (3000, t10), (3001, t10), (5000, t11), (5001, t11)]⟩, [((.exit 0), ⟨[(2, (.bp 2 0 0)), (4, (.bp 4 0 0)), (3999, (.hd 2)), (5999, (.hd 2))], [(1, t0), (5, t1), (3000, t10), (3001, t10), (5000, t11), (5001, t11)]⟩)], fun k x => impl_FallDisk_l5 k x.1 x.2.1 x.2.2.1 x.2.2.2.1 x.2.2.2.2.1 x.2.2.2.2.2.1 x.2.2.2.2.2.2.1 x.2.2.2.2.2.2.2.1 x.2.2.2.2.2.2.2.2⟩
def impl_FallDisk.d : Fd := { nt := 78, nv := 2, nm := [0, 1, 2, 3, 5, 6, 7, 8, 9, 10, 11, 12], res := [], cs := fun k => [(44, impl_DiskOk.e k), (82, impl_copyDisk.e k), (92, impl_at.e k), (95, impl_withText.e k), (96, impl_copyNamed.e k)], ls := [(11, impl_FallDisk_l11.p), (5, impl_FallDisk_l5.p)] }
theorem impl_FallDisk.a (k : Nat) : AllC Try.prog (impl_FallDisk.d.cs k) := ⟨impl_DiskOk.s k, impl_copyDisk.s k, impl_at.s k, impl_withText.s k, impl_copyNamed.s k, trivial⟩
theorem impl_FallDisk_l11.s : LK Try.prog Try.f43 impl_FallDisk.d 11 impl_FallDisk_l11.p := mkL sO [] (by kernel_rfl) impl_FallDisk.a trivial (by kernel_rfl) (fun _ => rfl) (fun k x => by kernel_rfl)
theorem impl_FallDisk_l5.s : LK Try.prog Try.f43 impl_FallDisk.d 5 impl_FallDisk_l5.p := mkL sO [] (by kernel_rfl) impl_FallDisk.a trivial (by kernel_rfl) (fun _ => rfl) (fun k x => by kernel_rfl)
theorem impl_FallDisk.s (k : Nat) : CallOk Try.prog 43 (impl_FallDisk.e k) := mkS (D := impl_FallDisk.d) (k := k) sO [5, 11] Try.func43 (impl_FallDisk.a k) ⟨impl_FallDisk_l5.s, impl_FallDisk_l11.s, trivial⟩ (by kernel_rfl) (by kernel_rfl) (fun x => by kernel_rfl)
def laws_FnRemoved.e (k : Nat) : Ent := ⟨1, [(.val false t3)], [(.one, .b)], fun x => laws_FnRemoved k x⟩
def laws_FnRemoved.d : Fd := { nt := 94, nv := 1, nm := [0, 1, 3, 4, 5, 6, 7, 8, 9, 10, 11, 12, 13, 14], res := [2], cs := fun k => [(15, laws_big.e k), (37, impl_SyncName.e k), (38, spec_DrawRemoveName.e k), (39, impl_RemoveName.e k), (40, spec_RemoveName.e k), (41, laws_sameNamed.e k), (42, impl_ReadName.e k), (43, impl_FallDisk.e k), (44, impl_DiskOk.e k)], sh := true }
theorem laws_FnRemoved.s (k : Nat) : CallOk Try.prog 7 (laws_FnRemoved.e k) := mkS (D := laws_FnRemoved.d) (k := k) sO [] Try.func7 ⟨laws_big.s k, impl_SyncName.s k, spec_DrawRemoveName.s k, impl_RemoveName.s k, spec_RemoveName.s k, laws_sameNamed.s k, impl_ReadName.s k, impl_FallDisk.s k, impl_DiskOk.s k, trivial⟩ trivial (by kernel_rfl) (by kernel_rfl) (fun x => by kernel_rfl)
def spec_DrawSyncName.e (k : Nat) : Ent := ⟨1, [(.val false t3)], [(.agg, t22), (.one, .s)], fun x => spec_DrawSyncName k x⟩
def spec_DrawSyncName.d : Fd := { nt := 11, nv := 1, nm := [0, 1, 4], res := [3], cs := fun k => [(68, spec_l1New.e k), (98, spec_l9Any.e k), (99, spec_l3Any.e k)] }
theorem spec_DrawSyncName.s (k : Nat) : CallOk Try.prog 45 (spec_DrawSyncName.e k) := mkS (D := spec_DrawSyncName.d) (k := k) sO [] Try.func45 ⟨spec_l1New.s k, spec_l9Any.s k, spec_l3Any.s k, trivial⟩ trivial (by kernel_rfl) (by kernel_rfl) (fun x => by kernel_rfl)
def spec_l9Keep.e (k : Nat) : Ent := ⟨1, [(.ptr t16 t16)], [(.one, t2)], fun x => spec_l9Keep k x⟩
def spec_l9Keep_l3.p : LF := ⟨⟨[(0, (.bp 0 0 0)), (1999, (.hd 3))], [(3, t2), (4, (.i .i64)), (1000, t3), (1001, (.i .i64)), (1002, (.i .i64))]⟩, [((.exit 0), ⟨[(1999, (.hd 3))], [(3, t2), (1000, t3), (1001, (.i .i64)), (1002, (.i .i64))]⟩)], fun k x => spec_l9Keep_l3 k x.1 x.2.1 x.2.2.1 x.2.2.2.1 x.2.2.2.2⟩
def spec_l9Keep.d : Fd := { nt := 18, nv := 1, nm := [0, 1, 3, 4], res := [2], cs := fun k => [(105, spec_l1Below.e k), (114, spec_l1Once.e k)], ls := [(3, spec_l9Keep_l3.p)] }
theorem spec_l9Keep.a (k : Nat) : AllC Try.prog (spec_l9Keep.d.cs k) := ⟨spec_l1Below.s k, spec_l1Once.s k, trivial⟩
theorem spec_l9Keep_l3.s : LK Try.prog Try.f100 spec_l9Keep.d 3 spec_l9Keep_l3.p := mkL sO [] (by kernel_rfl) spec_l9Keep.a trivial (by kernel_rfl) (fun _ => rfl) (fun k x => by kernel_rfl)
theorem spec_l9Keep.s (k : Nat) : CallOk Try.prog 100 (spec_l9Keep.e k) := mkS (D := spec_l9Keep.d) (k := k) sO [3] Try.func100 (spec_l9Keep.a k) ⟨spec_l9Keep_l3.s, trivial⟩ (by kernel_rfl) (by kernel_rfl) (fun x => by kernel_rfl)
def spec_DrawFallDisk.e (k : Nat) : Ent := ⟨1, [(.val false t3)], [(.agg, t22), (.one, t2)], fun x => spec_DrawFallDisk k x⟩
def spec_DrawFallDisk.d : Fd := { nt := 11, nv := 1, nm := [0, 1, 4], res := [3], cs := fun k => [(68, spec_l1New.e k), (98, spec_l9Any.e k), (100, spec_l9Keep.e k)] }
theorem spec_DrawFallDisk.s (k : Nat) : CallOk Try.prog 46 (spec_DrawFallDisk.e k) := mkS (D := spec_DrawFallDisk.d) (k := k) sO [] Try.func46 ⟨spec_l1New.s k, spec_l9Any.s k, spec_l9Keep.s k, trivial⟩ trivial (by kernel_rfl) (by kernel_rfl) (fun x => by kernel_rfl)
def laws_FnSynced.e (k : Nat) : Ent := ⟨1, [(.val false t3)], [(.one, .b)], fun x => laws_FnSynced k x⟩
def laws_FnSynced.d : Fd := { nt := 89, nv := 1, nm := [0, 1, 3, 4, 5, 6, 7, 8, 9, 10, 11, 12, 13, 14], res := [2], cs := fun k => [(15, laws_big.e k), (36, spec_SyncName.e k), (37, impl_SyncName.e k), (41, laws_sameNamed.e k), (42, impl_ReadName.e k), (43, impl_FallDisk.e k), (44, impl_DiskOk.e k), (45, spec_DrawSyncName.e k), (46, spec_DrawFallDisk.e k), (47, laws_sameBytes.e k)], sh := true }
theorem laws_FnSynced.s (k : Nat) : CallOk Try.prog 8 (laws_FnSynced.e k) := mkS (D := laws_FnSynced.d) (k := k) sO [] Try.func8 ⟨laws_big.s k, spec_SyncName.s k, impl_SyncName.s k, laws_sameNamed.s k, impl_ReadName.s k, impl_FallDisk.s k, impl_DiskOk.s k, spec_DrawSyncName.s k, spec_DrawFallDisk.s k, laws_sameBytes.s k, trivial⟩ trivial (by kernel_rfl) (by kernel_rfl) (fun x => by kernel_rfl)
def impl_WriteName.e (k : Nat) : Ent := ⟨3, [(.val true t21), (.val false .s), (.val false t3)], [(.agg, t22), (.one, .b)], fun x => impl_WriteName k x.1 x.2.1 x.2.2⟩
def impl_WriteName.d : Fd := { nt := 42, nv := 3, nm := [0, 1, 2, 3, 4, 5, 8], res := [7], cs := fun k => [(44, impl_DiskOk.e k), (82, impl_copyDisk.e k), (83, impl_NameOk.e k), (84, impl_put.e k), (85, impl_drop.e k), (86, impl_copyBytes.e k)], mv := [24, 41] }
theorem impl_WriteName.s (k : Nat) : CallOk Try.prog 30 (impl_WriteName.e k) := mkS (D := impl_WriteName.d) (k := k) sO [] Try.func30 ⟨impl_DiskOk.s k, impl_copyDisk.s k, impl_NameOk.s k, impl_put.s k, impl_drop.s k, impl_copyBytes.s k, trivial⟩ trivial (by kernel_rfl) (by kernel_rfl) (fun x => by kernel_rfl)
def spec_DrawWriteName.e (k : Nat) : Ent := ⟨1, [(.val false t3)], [(.agg, t22), (.one, .s), (.one, t4)], fun x => spec_DrawWriteName k x⟩
def spec_DrawWriteName.d : Fd := { nt := 22, nv := 1, nm := [0, 1, 5, 6], res := [3, 4], cs := fun k => [(68, spec_l1New.e k), (98, spec_l9Any.e k), (99, spec_l3Any.e k), (105, spec_l1Below.e k), (113, spec_l1Some.e k), (114, spec_l1Once.e k)] }
theorem spec_DrawWriteName.s (k : Nat) : CallOk Try.prog 53 (spec_DrawWriteName.e k) := mkS (D := spec_DrawWriteName.d) (k := k) sO [] Try.func53 ⟨spec_l1New.s k, spec_l9Any.s k, spec_l3Any.s k, spec_l1Below.s k, spec_l1Some.s k, spec_l1Once.s k, trivial⟩ trivial (by kernel_rfl) (by kernel_rfl) (fun x => by kernel_rfl)
def laws_FnWrites.e (k : Nat) : Ent := ⟨1, [(.val false t3)], [(.one, .b)], fun x => laws_FnWrites k x⟩
def laws_FnWrites_l12.p : LF := ⟨⟨[(3, (.bp 3 0 0)), (6, (.bp 6 0 0)), (4999, (.hd 2)), (7999, (.hd 2))], [(4, .s), (5, t3), (12, (.i .i64)), (4000, t10), (4001, t10), (7000, t10), (7001, t10)]⟩, [(.ret, ⟨[], [(2, .b)]⟩), ((.exit 0), ⟨[(3, (.bp 3 0 0)), (6, (.bp 6 0 0)), (4999, (.hd 2)), (7999, (.hd 2))], [(4, .s), (5, t3), (4000, t10), (4001, t10), (7000, t10), (7001, t10)]⟩)], fun k x => laws_FnWrites_l12 k x.1 x.2.1 x.2.2.1 x.2.2.2.1 x.2.2.2.2.1 x.2.2.2.2.2.1 x.2.2.2.2.2.2⟩
def laws_FnWrites.d : Fd := { nt := 168, nv := 1, nm := [0, 1, 3, 4, 5, 6, 7, 8, 9, 10, 11, 12, 13, 14, 15, 16, 17, 18, 19], res := [2], cs := fun k => [(15, laws_big.e k), (27, spec_WriteName.e k), (30, impl_WriteName.e k), (37, impl_SyncName.e k), (41, laws_sameNamed.e k), (42, impl_ReadName.e k), (43, impl_FallDisk.e k), (44, impl_DiskOk.e k), (47, laws_sameBytes.e k), (53, spec_DrawWriteName.e k)], ls := [(12, laws_FnWrites_l12.p)], sh := true }
theorem laws_FnWrites.a (k : Nat) : AllC Try.prog (laws_FnWrites.d.cs k) := ⟨laws_big.s k, spec_WriteName.s k, impl_WriteName.s k, impl_SyncName.s k, laws_sameNamed.s k, impl_ReadName.s k, impl_FallDisk.s k, impl_DiskOk.s k, laws_sameBytes.s k, spec_DrawWriteName.s k, trivial⟩
theorem laws_FnWrites_l12.s : LK Try.prog Try.f10 laws_FnWrites.d 12 laws_FnWrites_l12.p := mkL sO [] (by kernel_rfl) laws_FnWrites.a trivial (by kernel_rfl) (fun _ => rfl) (fun k x => by kernel_rfl)
theorem laws_FnWrites.s (k : Nat) : CallOk Try.prog 10 (laws_FnWrites.e k) := mkS (D := laws_FnWrites.d) (k := k) sO [12] Try.func10 (laws_FnWrites.a k) ⟨laws_FnWrites_l12.s, trivial⟩ (by kernel_rfl) (by kernel_rfl) (fun x => by kernel_rfl)
def spec_l12Copy.e (k : Nat) : Ent := ⟨1, [(.val true t29)], [(.agg, t30)], fun x => spec_l12Copy k x⟩
def spec_l12Copy.d : Fd := { nt := 17, nv := 1, nm := [0, 1], res := [], cs := fun k => [(78, spec_l9Copy.e k)] }
theorem spec_l12Copy.s (k : Nat) : CallOk Try.prog 117 (spec_l12Copy.e k) := mkS (D := spec_l12Copy.d) (k := k) sO [] Try.func117 ⟨spec_l9Copy.s k, trivial⟩ trivial (by kernel_rfl) (by kernel_rfl) (fun x => by kernel_rfl)
def spec_NodeOk.e (k : Nat) : Ent := ⟨1, [(.val true t29)], [(.one, .b)], fun x => spec_NodeOk k x⟩
def spec_NodeOk_l2.p : LF := ⟨⟨[(1, (.bp 1 0 0)), (2999, (.hd 5))], [(3, (.i .i64)), (2000, (.i .i64)), (2001, t10), (2002, t10), (2003, t25), (2004, t25)]⟩, [(.ret, ⟨[], [(2, .b)]⟩), ((.exit 0), ⟨[(1, (.bp 1 0 0)), (2999, (.hd 5))], [(2000, (.i .i64)), (2001, t10), (2002, t10), (2003, t25), (2004, t25)]⟩)], fun k x => spec_NodeOk_l2 k x.1 x.2.1 x.2.2.1 x.2.2.2.1 x.2.2.2.2.1 x.2.2.2.2.2⟩
def spec_NodeOk.d : Fd := { nt := 37, nv := 1, nm := [0, 1, 3], res := [2], cs := fun k => [(25, spec_RowsOk.e k), (76, spec_l11Row.e k), (127, spec_DiskOk.e k), (141, spec_l1In.e k)], ls := [(2, spec_NodeOk_l2.p)] }
theorem spec_NodeOk.a (k : Nat) : AllC Try.prog (spec_NodeOk.d.cs k) := ⟨spec_RowsOk.s k, spec_l11Row.s k, spec_DiskOk.s k, spec_l1In.s k, trivial⟩
theorem spec_NodeOk_l2.s : LK Try.prog Try.f118 spec_NodeOk.d 2 spec_NodeOk_l2.p := mkL sO [] (by kernel_rfl) spec_NodeOk.a trivial (by kernel_rfl) (fun _ => rfl) (fun k x => by kernel_rfl)
theorem spec_NodeOk.s (k : Nat) : CallOk Try.prog 118 (spec_NodeOk.e k) := mkS (D := spec_NodeOk.d) (k := k) sO [2] Try.func118 (spec_NodeOk.a k) ⟨spec_NodeOk_l2.s, trivial⟩ (by kernel_rfl) (by kernel_rfl) (fun x => by kernel_rfl)
def spec_MergeRows.e (k : Nat) : Ent := ⟨2, [(.val false t25), (.val false t25)], [(.one, t26)], fun x => spec_MergeRows k x.1 x.2⟩
def spec_MergeRows_l3.p : LF := ⟨⟨[], [(1, t25), (5, t26), (6, (.i .i64))]⟩, [((.exit 0), ⟨[], [(5, t26)]⟩)], fun k x => spec_MergeRows_l3 k x.1 x.2.1 x.2.2⟩
def spec_MergeRows.d : Fd := { nt := 23, nv := 2, nm := [0, 1, 2, 3, 5, 6], res := [4], cs := fun k => [(19, spec_MergeRow.e k)], ls := [(3, spec_MergeRows_l3.p)] }
theorem spec_MergeRows.a (k : Nat) : AllC Try.prog (spec_MergeRows.d.cs k) := ⟨spec_MergeRow.s k, trivial⟩
theorem spec_MergeRows_l3.s : LK Try.prog Try.f160 spec_MergeRows.d 3 spec_MergeRows_l3.p := mkL sO [] (by kernel_rfl) spec_MergeRows.a trivial (by kernel_rfl) (fun _ => rfl) (fun k x => by kernel_rfl)
theorem spec_MergeRows.s (k : Nat) : CallOk Try.prog 160 (spec_MergeRows.e k) := mkS (D := spec_MergeRows.d) (k := k) sO [3] Try.func160 (spec_MergeRows.a k) ⟨spec_MergeRows_l3.s, trivial⟩ (by kernel_rfl) (by kernel_rfl) (fun x => by kernel_rfl)
def spec_l12Take_o.e (k : Nat) : Ent := ⟨2, [(.ptr t30 t31), (.val false t25)], [(.one, .b)], fun x => spec_l12Take_o k x.1 x.2⟩
def spec_l12Take_o.d : Fd := { nt := 19, nv := 2, nm := [0, 1, 2, 3, 5], res := [4], cs := fun k => [(160, spec_MergeRows.e k)] }
theorem spec_l12Take_o.s (k : Nat) : CallOk Try.prog 119 (spec_l12Take_o.e k) := mkS (D := spec_l12Take_o.d) (k := k) sO [] Try.func119 ⟨spec_MergeRows.s k, trivial⟩ trivial (by kernel_rfl) (by kernel_rfl) (fun x => by kernel_rfl)
def spec_NodeTake.e (k : Nat) : Ent := ⟨2, [(.val true t29), (.val false t25)], [(.agg, t31), (.one, .b)], fun x => spec_NodeTake k x.1 x.2⟩
def spec_NodeTake.d : Fd := { nt := 25, nv := 2, nm := [0, 1, 2, 3, 6], res := [5], cs := fun k => [(25, spec_RowsOk.e k), (117, spec_l12Copy.e k), (118, spec_NodeOk.e k), (119, spec_l12Take_o.e k)], mv := [24] }
theorem spec_NodeTake.s (k : Nat) : CallOk Try.prog 56 (spec_NodeTake.e k) := mkS (D := spec_NodeTake.d) (k := k) sO [] Try.func56 ⟨spec_RowsOk.s k, spec_l12Copy.s k, spec_NodeOk.s k, spec_l12Take_o.s k, trivial⟩ trivial (by kernel_rfl) (by kernel_rfl) (fun x => by kernel_rfl)
def spec_NodeNew.e (k : Nat) : Ent := ⟨1, [(.val false (.i .i64))], [(.agg, t30)], fun x => spec_NodeNew x⟩
def spec_NodeNew.d : Fd := { nt := 9, nv := 1, nm := [0, 1], res := [], cs := fun k => [(141, spec_l1In.e k)] }
theorem spec_NodeNew.s (k : Nat) : CallOk Try.prog 168 (spec_NodeNew.e k) := mkS (D := spec_NodeNew.d) (k := k) sO [] Try.func168 ⟨spec_l1In.s k, trivial⟩ trivial (by kernel_rfl) (by kernel_rfl) (fun x => by kernel_rfl)
def spec_GetFile.e (k : Nat) : Ent := ⟨1, [(.val false t3)], [(.agg, t19), (.one, .b)], fun x => spec_GetFile k x⟩
def spec_GetFile.d : Fd := { nt := 76, nv := 1, nm := [0, 1, 4, 5, 6, 7, 8, 9, 10, 11, 12, 13], res := [3], cs := fun k => [(110, spec_GetNum.e k), (111, spec_GetText.e k), (112, spec_l8GetStamp.e k), (129, spec_FileOk.e k), (131, spec_PutFile.e k)], mv := [75] }
theorem spec_GetFile.s (k : Nat) : CallOk Try.prog 163 (spec_GetFile.e k) := mkS (D := spec_GetFile.d) (k := k) sO [] Try.func163 ⟨spec_GetNum.s k, spec_GetText.s k, spec_l8GetStamp.s k, spec_FileOk.s k, spec_PutFile.s k, trivial⟩ trivial (by kernel_rfl) (by kernel_rfl) (fun x => by kernel_rfl)
def spec_Look.e (k : Nat) : Ent := ⟨2, [(.val true t21), (.val false .s)], [(.agg, t19), (.one, (.i .i64))], fun x => spec_Look k x.1 x.2⟩
def spec_Look.d : Fd := { nt := 28, nv := 2, nm := [0, 1, 2, 3, 6, 7, 8, 9], res := [5], cs := fun k => [(90, spec_ReadName.e k), (163, spec_GetFile.e k)], mv := [27] }
theorem spec_Look.s (k : Nat) : CallOk Try.prog 123 (spec_Look.e k) := mkS (D := spec_Look.d) (k := k) sO [] Try.func123 ⟨spec_ReadName.s k, spec_GetFile.s k, trivial⟩ trivial (by kernel_rfl) (by kernel_rfl) (fun x => by kernel_rfl)
def spec_Newer.e (k : Nat) : Ent := ⟨2, [(.val true t18), (.val true t18)], [(.one, .b)], fun x => spec_Newer x.1 x.2⟩
def spec_Newer.d : Fd := { nt := 10, nv := 2, nm := [0, 1, 2, 3], res := [4], cs := fun k => [(138, spec_LessStamp.e k)] }
theorem spec_Newer.s (k : Nat) : CallOk Try.prog 130 (spec_Newer.e k) := mkS (D := spec_Newer.d) (k := k) sO [] Try.func130 ⟨spec_LessStamp.s k, trivial⟩ trivial (by kernel_rfl) (by kernel_rfl) (fun x => by kernel_rfl)
def spec_Keep.e (k : Nat) : Ent := ⟨4, [(.val true t21), (.val false .s), (.val true t18), (.val false .b)], [(.agg, t22), (.one, (.i .i64))], fun x => spec_Keep k x.1 x.2.1 x.2.2.1 x.2.2.2⟩
def spec_Keep.d : Fd := { nt := 82, nv := 4, nm := [0, 1, 2, 3, 4, 5, 6, 7, 10, 11, 12, 13, 14, 15], res := [9], cs := fun k => [(27, spec_WriteName.e k), (36, spec_SyncName.e k), (78, spec_l9Copy.e k), (123, spec_Look.e k), (127, spec_DiskOk.e k), (128, spec_NameOk.e k), (129, spec_FileOk.e k), (130, spec_Newer.e k), (131, spec_PutFile.e k)], mv := [58, 81] }
theorem spec_Keep.s (k : Nat) : CallOk Try.prog 60 (spec_Keep.e k) := mkS (D := spec_Keep.d) (k := k) sO [] Try.func60 ⟨spec_WriteName.s k, spec_SyncName.s k, spec_l9Copy.s k, spec_Look.s k, spec_DiskOk.s k, spec_NameOk.s k, spec_FileOk.s k, spec_Newer.s k, spec_PutFile.s k, trivial⟩ trivial (by kernel_rfl) (by kernel_rfl) (fun x => by kernel_rfl)
def spec_l12Put_o.e (k : Nat) : Ent := ⟨4, [(.ptr t30 t32), (.val false .s), (.val true t18), (.val false .b)], [(.one, (.i .i64))], fun x => spec_l12Put_o k x.1 x.2.1 x.2.2.1 x.2.2.2⟩
def spec_l12Put_o.d : Fd := { nt := 52, nv := 4, nm := [0, 1, 2, 3, 4, 5, 6, 7, 9, 10], res := [8], cs := fun k => [(60, spec_Keep.e k), (135, spec_RowOf.e k)] }
theorem spec_l12Put_o.s (k : Nat) : CallOk Try.prog 172 (spec_l12Put_o.e k) := mkS (D := spec_l12Put_o.d) (k := k) sO [] Try.func172 ⟨spec_Keep.s k, spec_RowOf.s k, trivial⟩ trivial (by kernel_rfl) (by kernel_rfl) (fun x => by kernel_rfl)
def spec_NodePut.e (k : Nat) : Ent := ⟨4, [(.val true t29), (.val false .s), (.val true t18), (.val false .b)], [(.agg, t32), (.one, (.i .i64))], fun x => spec_NodePut k x.1 x.2.1 x.2.2.1 x.2.2.2⟩
def spec_NodePut.d : Fd := { nt := 34, nv := 4, nm := [0, 1, 2, 3, 4, 5, 6, 7, 10, 11], res := [9], cs := fun k => [(117, spec_l12Copy.e k), (118, spec_NodeOk.e k), (128, spec_NameOk.e k), (129, spec_FileOk.e k), (172, spec_l12Put_o.e k)], mv := [27, 32] }
theorem spec_NodePut.s (k : Nat) : CallOk Try.prog 169 (spec_NodePut.e k) := mkS (D := spec_NodePut.d) (k := k) sO [] Try.func169 ⟨spec_l12Copy.s k, spec_NodeOk.s k, spec_NameOk.s k, spec_FileOk.s k, spec_l12Put_o.s k, trivial⟩ trivial (by kernel_rfl) (by kernel_rfl) (fun x => by kernel_rfl)
def spec_RotBit.e (k : Nat) : Ent := ⟨3, [(.val true t21), (.val false .s), (.val false (.i .i64))], [(.agg, t23), (.one, .b)], fun x => spec_RotBit k x.1 x.2.1 x.2.2⟩
def spec_RotBit.d : Fd := { nt := 97, nv := 3, nm := [0, 1, 2, 3, 4, 5, 8, 9, 10, 11], res := [7], cs := fun k => [(78, spec_l9Copy_d.e k), (94, spec_l9At.e k), (127, spec_DiskOk.e k), (141, spec_l1In.e k)], mv := [39, 96] }
theorem spec_RotBit.s (k : Nat) : CallOk Try.prog 171 (spec_RotBit.e k) := mkS (D := spec_RotBit.d) (k := k) sO [] Try.func171 ⟨spec_l9Copy_d.s k, spec_l9At.s k, spec_DiskOk.s k, spec_l1In.s k, trivial⟩ trivial (by kernel_rfl) (by kernel_rfl) (fun x => by kernel_rfl)
def spec_NodeRot.e (k : Nat) : Ent := ⟨3, [(.val true t29), (.val false .s), (.val false (.i .i64))], [(.agg, t32), (.one, .b)], fun x => spec_NodeRot k x.1 x.2.1 x.2.2⟩
def spec_NodeRot.d : Fd := { nt := 44, nv := 3, nm := [0, 1, 2, 3, 4, 5, 8, 9, 10, 11, 12], res := [7], cs := fun k => [(117, spec_l12Copy.e k), (118, spec_NodeOk.e k), (123, spec_Look.e k), (171, spec_RotBit.e k)], mv := [29, 40, 43] }
theorem spec_NodeRot.s (k : Nat) : CallOk Try.prog 170 (spec_NodeRot.e k) := mkS (D := spec_NodeRot.d) (k := k) sO [] Try.func170 ⟨spec_l12Copy.s k, spec_NodeOk.s k, spec_Look.s k, spec_RotBit.s k, trivial⟩ trivial (by kernel_rfl) (by kernel_rfl) (fun x => by kernel_rfl)
def spec_l12Draw.e (k : Nat) : Ent := ⟨1, [(.ptr t16 t16)], [(.agg, t33)], fun x => spec_l12Draw k x⟩
def spec_l12Draw_l3.p : LF := ⟨⟨[(0, (.bp 0 0 0)), (2, (.bp 2 0 0)), (3, (.bp 3 0 0)), (1999, (.hd 3)), (3999, (.hd 5)), (4999, (.hd 5))], [(4, (.i .i64)), (1000, t3), (1001, (.i .i64)), (1002, (.i .i64)), (3000, (.i .i64)), (3001, t11), (3002, t11), (3003, t26), (3004, t26), (4000, (.i .i64)), (4001, t10), (4002, t10), (4003, t26), (4004, t26)]⟩, [((.exit 0), ⟨[(0, (.bp 0 0 0)), (2, (.bp 2 0 0)), (3, (.bp 3 0 0)), (1999, (.hd 3)), (3999, (.hd 5)), (4999, (.hd 5))], [(1000, t3), (1001, (.i .i64)), (1002, (.i .i64)), (3000, (.i .i64)), (3001, t11), (3002, t11), (3003, t26), (3004, t26), (4000, (.i .i64)), (4001, t10), (4002, t10), (4003, t26), (4004, t26)]⟩)], fun k x => spec_l12Draw_l3 k x.1 x.2.1 x.2.2.1 x.2.2.2.1 x.2.2.2.2.1 x.2.2.2.2.2.1 x.2.2.2.2.2.2.1 x.2.2.2.2.2.2.2.1 x.2.2.2.2.2.2.2.2.1 x.2.2.2.2.2.2.2.2.2.1 x.2.2.2.2.2.2.2.2.2.2.1 x.2.2.2.2.2.2.2.2.2.2.2.1 x.2.2.2.2.2.2.2.2.2.2.2.2.1 x.2.2.2.2.2.2.2.2.2.2.2.2.2⟩
def spec_l12Draw.d : Fd := { nt := 47, nv := 1, nm := [0, 1, 3, 4], res := [], cs := fun k => [(56, spec_NodeTake.e k), (74, spec_l11Draw.e k), (105, spec_l1Below.e k), (114, spec_l1Once.e k), (136, spec_l3Name.e k), (137, spec_l8Draw.e k), (168, spec_NodeNew.e k), (169, spec_NodePut.e k), (170, spec_NodeRot.e k)], ls := [(3, spec_l12Draw_l3.p)], mv := [46] }
theorem spec_l12Draw.a (k : Nat) : AllC Try.prog (spec_l12Draw.d.cs k) := ⟨spec_NodeTake.s k, spec_l11Draw.s k, spec_l1Below.s k, spec_l1Once.s k, spec_l3Name.s k, spec_l8Draw.s k, spec_NodeNew.s k, spec_NodePut.s k, spec_NodeRot.s k, trivial⟩
theorem spec_l12Draw_l3.s : LK Try.prog Try.f159 spec_l12Draw.d 3 spec_l12Draw_l3.p := mkL sO [] (by kernel_rfl) spec_l12Draw.a trivial (by kernel_rfl) (fun _ => rfl) (fun k x => by kernel_rfl)
theorem spec_l12Draw.s (k : Nat) : CallOk Try.prog 159 (spec_l12Draw.e k) := mkS (D := spec_l12Draw.d) (k := k) sO [3] Try.func159 (spec_l12Draw.a k) ⟨spec_l12Draw_l3.s, trivial⟩ (by kernel_rfl) (by kernel_rfl) (fun x => by kernel_rfl)
def spec_l12Any.e (k : Nat) : Ent := ⟨1, [(.ptr t16 t16)], [(.agg, t33)], fun x => spec_l12Any k x⟩
def spec_l12Any_l12.p : LF := ⟨⟨[(0, (.bp 0 0 0)), (2, (.bp 2 0 0)), (3, (.bp 3 0 0)), (1999, (.hd 3)), (3999, (.hd 5)), (4999, (.hd 5))], [(1000, t3), (1001, (.i .i64)), (1002, (.i .i64)), (3000, (.i .i64)), (3001, t11), (3002, t11), (3003, t26), (3004, t26), (4000, (.i .i64)), (4001, t10), (4002, t10), (4003, t25), (4004, t26)]⟩, [((.exit 1), ⟨[(2, (.bp 2 0 0)), (3, (.bp 3 0 0)), (3999, (.hd 5)), (4999, (.hd 5)), (1999, (.hd 3))], [(3000, (.i .i64)), (3001, t11), (3002, t11), (3003, t26), (3004, t26), (4000, (.i .i64)), (4001, t10), (4002, t10), (4003, t25), (4004, t26), (1000, t3), (1001, (.i .i64)), (1002, (.i .i64))]⟩)], fun k x => spec_l12Any_l12 k x.1 x.2.1 x.2.2.1 x.2.2.2.1 x.2.2.2.2.1 x.2.2.2.2.2.1 x.2.2.2.2.2.2.1 x.2.2.2.2.2.2.2.1 x.2.2.2.2.2.2.2.2.1 x.2.2.2.2.2.2.2.2.2.1 x.2.2.2.2.2.2.2.2.2.2.1 x.2.2.2.2.2.2.2.2.2.2.2.1 x.2.2.2.2.2.2.2.2.2.2.2.2⟩
def spec_l12Any.d : Fd := { nt := 50, nv := 1, nm := [0, 1, 3], res := [], cs := fun k => [(69, spec_l11Any.e k), (98, spec_l9Any.e k), (99, spec_l3Any.e k), (105, spec_l1Below.e k), (106, spec_l1Int.e k), (159, spec_l12Draw.e k)], ls := [(12, spec_l12Any_l12.p)], mv := [49] }
theorem spec_l12Any.a (k : Nat) : AllC Try.prog (spec_l12Any.d.cs k) := ⟨spec_l11Any.s k, spec_l9Any.s k, spec_l3Any.s k, spec_l1Below.s k, spec_l1Int.s k, spec_l12Draw.s k, trivial⟩
theorem spec_l12Any_l12.s : LK Try.prog Try.f115 spec_l12Any.d 12 spec_l12Any_l12.p := mkL sO [] (by kernel_rfl) spec_l12Any.a trivial (by kernel_rfl) (fun _ => rfl) (fun k x => by kernel_rfl)
theorem spec_l12Any.s (k : Nat) : CallOk Try.prog 115 (spec_l12Any.e k) := mkS (D := spec_l12Any.d) (k := k) sO [12] Try.func115 (spec_l12Any.a k) ⟨spec_l12Any_l12.s, trivial⟩ (by kernel_rfl) (by kernel_rfl) (fun x => by kernel_rfl)
def spec_DrawNodeTake.e (k : Nat) : Ent := ⟨1, [(.val false t3)], [(.agg, t33), (.one, t26)], fun x => spec_DrawNodeTake k x⟩
def spec_DrawNodeTake.d : Fd := { nt := 11, nv := 1, nm := [0, 1, 4], res := [3], cs := fun k => [(68, spec_l1New.e k), (69, spec_l11Any.e k), (115, spec_l12Any.e k)] }
theorem spec_DrawNodeTake.s (k : Nat) : CallOk Try.prog 54 (spec_DrawNodeTake.e k) := mkS (D := spec_DrawNodeTake.d) (k := k) sO [] Try.func54 ⟨spec_l1New.s k, spec_l11Any.s k, spec_l12Any.s k, trivial⟩ trivial (by kernel_rfl) (by kernel_rfl) (fun x => by kernel_rfl)
def impl_NodeOk.e (k : Nat) : Ent := ⟨1, [(.val true t29)], [(.one, .b)], fun x => impl_NodeOk k x⟩
def impl_NodeOk_l2.p : LF := ⟨⟨[(1, (.bp 1 0 0)), (2999, (.hd 5))], [(6, t25), (7, (.i .i64)), (8, (.i .i64)), (2000, (.i .i64)), (2001, t10), (2002, t10), (2003, t25), (2004, t25)]⟩, [(.ret, ⟨[], [(2, .b)]⟩), ((.exit 0), ⟨[(1, (.bp 1 0 0)), (2999, (.hd 5))], [(2000, (.i .i64)), (2001, t10), (2002, t10), (2003, t25), (2004, t25)]⟩)], fun k x => impl_NodeOk_l2 k x.1 x.2.1 x.2.2.1 x.2.2.2.1 x.2.2.2.2.1 x.2.2.2.2.2.1 x.2.2.2.2.2.2.1 x.2.2.2.2.2.2.2⟩
def impl_NodeOk.d : Fd := { nt := 35, nv := 1, nm := [0, 1, 3, 4], res := [2], cs := fun k => [(24, impl_RowsOk.e k), (44, impl_DiskOk.e k), (75, impl_rowOk.e k), (120, impl_in.e k)], ls := [(2, impl_NodeOk_l2.p)] }
theorem impl_NodeOk.a (k : Nat) : AllC Try.prog (impl_NodeOk.d.cs k) := ⟨impl_RowsOk.s k, impl_DiskOk.s k, impl_rowOk.s k, impl_in.s k, trivial⟩
theorem impl_NodeOk_l2.s : LK Try.prog Try.f57 impl_NodeOk.d 2 impl_NodeOk_l2.p := mkL sO [] (by kernel_rfl) impl_NodeOk.a trivial (by kernel_rfl) (fun _ => rfl) (fun k x => by kernel_rfl)
theorem impl_NodeOk.s (k : Nat) : CallOk Try.prog 57 (impl_NodeOk.e k) := mkS (D := impl_NodeOk.d) (k := k) sO [2] Try.func57 (impl_NodeOk.a k) ⟨impl_NodeOk_l2.s, trivial⟩ (by kernel_rfl) (by kernel_rfl) (fun x => by kernel_rfl)
def impl_copyNode.e (k : Nat) : Ent := ⟨1, [(.val true t29)], [(.agg, t30)], fun x => impl_copyNode k x⟩
def impl_copyNode.d : Fd := { nt := 15, nv := 1, nm := [0, 1], res := [], cs := fun k => [(71, impl_copyRows.e k), (82, impl_copyDisk.e k)] }
theorem impl_copyNode.s (k : Nat) : CallOk Try.prog 116 (impl_copyNode.e k) := mkS (D := impl_copyNode.d) (k := k) sO [] Try.func116 ⟨impl_copyRows.s k, impl_copyDisk.s k, trivial⟩ trivial (by kernel_rfl) (by kernel_rfl) (fun x => by kernel_rfl)
def impl_NodeTake.e (k : Nat) : Ent := ⟨2, [(.val true t29), (.val false t25)], [(.agg, t30), (.one, .b)], fun x => impl_NodeTake k x.1 x.2⟩
def impl_NodeTake.d : Fd := { nt := 30, nv := 2, nm := [0, 1, 2, 3, 6], res := [5], cs := fun k => [(23, impl_MergeRows.e k), (24, impl_RowsOk.e k), (57, impl_NodeOk.e k), (116, impl_copyNode.e k)], mv := [17, 29] }
theorem impl_NodeTake.s (k : Nat) : CallOk Try.prog 55 (impl_NodeTake.e k) := mkS (D := impl_NodeTake.d) (k := k) sO [] Try.func55 ⟨impl_MergeRows.s k, impl_RowsOk.s k, impl_NodeOk.s k, impl_copyNode.s k, trivial⟩ trivial (by kernel_rfl) (by kernel_rfl) (fun x => by kernel_rfl)
def laws_FnTakes.e (k : Nat) : Ent := ⟨1, [(.val false t3)], [(.one, .b)], fun x => laws_FnTakes k x⟩
def laws_FnTakes.d : Fd := { nt := 63, nv := 1, nm := [0, 1, 3, 4, 5, 6, 7, 8], res := [2], cs := fun k => [(15, laws_big.e k), (18, laws_sameRows.e k), (23, impl_MergeRows.e k), (54, spec_DrawNodeTake.e k), (55, impl_NodeTake.e k), (56, spec_NodeTake.e k), (57, impl_NodeOk.e k)], sh := true }
theorem laws_FnTakes.s (k : Nat) : CallOk Try.prog 11 (laws_FnTakes.e k) := mkS (D := laws_FnTakes.d) (k := k) sO [] Try.func11 ⟨laws_big.s k, laws_sameRows.s k, impl_MergeRows.s k, spec_DrawNodeTake.s k, impl_NodeTake.s k, spec_NodeTake.s k, impl_NodeOk.s k, trivial⟩ trivial (by kernel_rfl) (by kernel_rfl) (fun x => by kernel_rfl)
def spec_l10Draw.e (k : Nat) : Ent := ⟨1, [(.ptr t16 t16)], [(.agg, t21)], fun x => spec_l10Draw k x⟩
def spec_l10Draw_l7.p : LF := ⟨⟨[(0, (.bp 0 0 0)), (2, (.bp 2 0 0)), (3, (.bp 3 0 0)), (1999, (.hd 3)), (3999, (.hd 2)), (4999, (.hd 2))], [(5, (.i .i64)), (1000, t3), (1001, (.i .i64)), (1002, (.i .i64)), (3000, t11), (3001, t11), (4000, t10), (4001, t10)]⟩, [((.exit 2), ⟨[(2, (.bp 2 0 0)), (3, (.bp 3 0 0)), (3999, (.hd 2)), (4999, (.hd 2)), (1999, (.hd 3))], [(3000, t11), (3001, t11), (4000, t10), (4001, t10), (1000, t3), (1001, (.i .i64)), (1002, (.i .i64))]⟩)], fun k x => spec_l10Draw_l7 k x.1 x.2.1 x.2.2.1 x.2.2.2.1 x.2.2.2.2.1 x.2.2.2.2.2.1 x.2.2.2.2.2.2.1 x.2.2.2.2.2.2.2⟩
def spec_l10Draw_l3.p : LF := ⟨⟨[(0, (.bp 0 0 0)), (2, (.bp 2 0 0)), (3, (.bp 3 0 0)), (1999, (.hd 3)), (3999, (.hd 2)), (4999, (.hd 2))], [(4, (.i .i64)), (1000, t3), (1001, (.i .i64)), (1002, (.i .i64)), (3000, t11), (3001, t11), (4000, t11), (4001, t11)]⟩, [((.exit 0), ⟨[(0, (.bp 0 0 0)), (2, (.bp 2 0 0)), (3, (.bp 3 0 0)), (1999, (.hd 3)), (3999, (.hd 2)), (4999, (.hd 2))], [(1000, t3), (1001, (.i .i64)), (1002, (.i .i64)), (3000, t11), (3001, t11), (4000, t11), (4001, t11)]⟩)], fun k x => spec_l10Draw_l3 k x.1 x.2.1 x.2.2.1 x.2.2.2.1 x.2.2.2.2.1 x.2.2.2.2.2.1 x.2.2.2.2.2.2.1 x.2.2.2.2.2.2.2⟩
def spec_l10Draw.d : Fd := { nt := 41, nv := 1, nm := [0, 1, 3, 4, 5], res := [], cs := fun k => [(60, spec_Keep.e k), (105, spec_l1Below.e k), (114, spec_l1Once.e k), (136, spec_l3Name.e k), (137, spec_l8Draw.e k), (171, spec_RotBit.e k)], ls := [(7, spec_l10Draw_l7.p), (3, spec_l10Draw_l3.p)] }
theorem spec_l10Draw.a (k : Nat) : AllC Try.prog (spec_l10Draw.d.cs k) := ⟨spec_Keep.s k, spec_l1Below.s k, spec_l1Once.s k, spec_l3Name.s k, spec_l8Draw.s k, spec_RotBit.s k, trivial⟩
theorem spec_l10Draw_l7.s : LK Try.prog Try.f161 spec_l10Draw.d 7 spec_l10Draw_l7.p := mkL sO [] (by kernel_rfl) spec_l10Draw.a trivial (by kernel_rfl) (fun _ => rfl) (fun k x => by kernel_rfl)
theorem spec_l10Draw_l3.s : LK Try.prog Try.f161 spec_l10Draw.d 3 spec_l10Draw_l3.p := mkL sO [] (by kernel_rfl) spec_l10Draw.a trivial (by kernel_rfl) (fun _ => rfl) (fun k x => by kernel_rfl)
theorem spec_l10Draw.s (k : Nat) : CallOk Try.prog 161 (spec_l10Draw.e k) := mkS (D := spec_l10Draw.d) (k := k) sO [3, 7] Try.func161 (spec_l10Draw.a k) ⟨spec_l10Draw_l3.s, spec_l10Draw_l7.s, trivial⟩ (by kernel_rfl) (by kernel_rfl) (fun x => by kernel_rfl)
def spec_l10Any.e (k : Nat) : Ent := ⟨1, [(.ptr t16 t16)], [(.agg, t21)], fun x => spec_l10Any k x⟩
def spec_l10Any.d : Fd := { nt := 9, nv := 1, nm := [0, 1], res := [], cs := fun k => [(98, spec_l9Any.e k), (114, spec_l1Once.e k), (161, spec_l10Draw.e k)] }
theorem spec_l10Any.s (k : Nat) : CallOk Try.prog 121 (spec_l10Any.e k) := mkS (D := spec_l10Any.d) (k := k) sO [] Try.func121 ⟨spec_l9Any.s k, spec_l1Once.s k, spec_l10Draw.s k, trivial⟩ trivial (by kernel_rfl) (by kernel_rfl) (fun x => by kernel_rfl)
def spec_l2Any.e (k : Nat) : Ent := ⟨1, [(.ptr t16 t16)], [(.agg, t14)], fun x => spec_l2Any x⟩
def spec_l2Any.d : Fd := { nt := 27, nv := 1, nm := [0, 1, 3], res := [], cs := fun k => [(105, spec_l1Below.e k), (106, spec_l1Int.e k), (167, spec_l2Draw.e k)] }
theorem spec_l2Any.s (k : Nat) : CallOk Try.prog 162 (spec_l2Any.e k) := mkS (D := spec_l2Any.d) (k := k) sO [] Try.func162 ⟨spec_l1Below.s k, spec_l1Int.s k, spec_l2Draw.s k, trivial⟩ trivial (by kernel_rfl) (by kernel_rfl) (fun x => by kernel_rfl)
def spec_l8Any.e (k : Nat) : Ent := ⟨1, [(.ptr t16 t16)], [(.agg, t19)], fun x => spec_l8Any k x⟩
def spec_l8Any.d : Fd := { nt := 27, nv := 1, nm := [0, 1, 3], res := [], cs := fun k => [(105, spec_l1Below.e k), (137, spec_l8Draw.e k), (162, spec_l2Any.e k)], mv := [26] }
theorem spec_l8Any.s (k : Nat) : CallOk Try.prog 122 (spec_l8Any.e k) := mkS (D := spec_l8Any.d) (k := k) sO [] Try.func122 ⟨spec_l1Below.s k, spec_l8Draw.s k, spec_l2Any.s k, trivial⟩ trivial (by kernel_rfl) (by kernel_rfl) (fun x => by kernel_rfl)
def spec_DrawKeep.e (k : Nat) : Ent := ⟨1, [(.val false t3)], [(.agg, t21), (.one, .s), (.agg, t18), (.one, .b)], fun x => spec_DrawKeep k x⟩
def spec_DrawKeep.d : Fd := { nt := 36, nv := 1, nm := [0, 1, 6, 7, 8, 9, 10, 11], res := [3, 5], cs := fun k => [(68, spec_l1New.e k), (99, spec_l3Any.e k), (114, spec_l1Once.e k), (121, spec_l10Any.e k), (122, spec_l8Any.e k), (123, spec_Look.e k)], mv := [33] }
theorem spec_DrawKeep.s (k : Nat) : CallOk Try.prog 58 (spec_DrawKeep.e k) := mkS (D := spec_DrawKeep.d) (k := k) sO [] Try.func58 ⟨spec_l1New.s k, spec_l3Any.s k, spec_l1Once.s k, spec_l10Any.s k, spec_l8Any.s k, spec_Look.s k, trivial⟩ trivial (by kernel_rfl) (by kernel_rfl) (fun x => by kernel_rfl)
def impl_Newer.e (k : Nat) : Ent := ⟨2, [(.val true t18), (.val true t18)], [(.one, .b)], fun x => impl_Newer x.1 x.2⟩
def impl_Newer.d : Fd := { nt := 10, nv := 2, nm := [0, 1, 2, 3], res := [4], cs := fun k => [(20, impl_LessStamp.e k)] }
theorem impl_Newer.s (k : Nat) : CallOk Try.prog 63 (impl_Newer.e k) := mkS (D := impl_Newer.d) (k := k) sO [] Try.func63 ⟨impl_LessStamp.s k, trivial⟩ trivial (by kernel_rfl) (by kernel_rfl) (fun x => by kernel_rfl)
def impl_FileOk.e (k : Nat) : Ent := ⟨1, [(.val true t18)], [(.one, .b)], fun x => impl_FileOk x⟩
def impl_FileOk.d : Fd := { nt := 23, nv := 1, nm := [0, 1], res := [2], cs := fun k => [(139, impl_StampOk.e k)] }
theorem impl_FileOk.s (k : Nat) : CallOk Try.prog 124 (impl_FileOk.e k) := mkS (D := impl_FileOk.d) (k := k) sO [] Try.func124 ⟨impl_StampOk.s k, trivial⟩ trivial (by kernel_rfl) (by kernel_rfl) (fun x => by kernel_rfl)
def impl_Crc.e (k : Nat) : Ent := ⟨1, [(.val false t3)], [(.one, (.i .i64))], fun x => impl_Crc k x⟩
def impl_Crc_l7.p : LF := ⟨⟨[], [(3, (.i .u32)), (7, t3), (8, (.i .i64)), (9, (.i .i64)), (17, (.i .i64))]⟩, [((.exit 2), ⟨[], [(3, (.i .u32)), (7, t3), (8, (.i .i64)), (9, (.i .i64))]⟩)], fun k x => impl_Crc_l7 k x.1 x.2.1 x.2.2.1 x.2.2.2.1 x.2.2.2.2⟩
def impl_Crc_l3.p : LF := ⟨⟨[], [(3, (.i .u32)), (7, t3), (8, (.i .i64)), (9, (.i .i64))]⟩, [((.exit 0), ⟨[], [(3, (.i .u32))]⟩)], fun k x => impl_Crc_l3 k x.1 x.2.1 x.2.2.1 x.2.2.2⟩
def impl_Crc.d : Fd := { nt := 32, nv := 1, nm := [0, 1, 3, 4, 5, 6], res := [2], ls := [(7, impl_Crc_l7.p), (3, impl_Crc_l3.p)] }
theorem impl_Crc_l7.s : LK Try.prog Try.f164 impl_Crc.d 7 impl_Crc_l7.p := mkL sO [] (by kernel_rfl) (fun _ => trivial) trivial (by kernel_rfl) (fun _ => rfl) (fun k x => by kernel_rfl)
theorem impl_Crc_l3.s : LK Try.prog Try.f164 impl_Crc.d 3 impl_Crc_l3.p := mkL sO [7] (by kernel_rfl) (fun _ => trivial) ⟨impl_Crc_l7.s, trivial⟩ (by kernel_rfl) (fun _ => rfl) (fun k x => by kernel_rfl)
theorem impl_Crc.s (k : Nat) : CallOk Try.prog 164 (impl_Crc.e k) := mkS (D := impl_Crc.d) (k := k) sO [3] Try.func164 trivial ⟨impl_Crc_l3.s, trivial⟩ (by kernel_rfl) (by kernel_rfl) (fun x => by kernel_rfl)
def impl_PutFile.e (k : Nat) : Ent := ⟨1, [(.val true t18)], [(.one, t4)], fun x => impl_PutFile k x⟩
def impl_PutFile.d : Fd := { nt := 33, nv := 1, nm := [0, 1, 3, 4], res := [2], cs := fun k => [(102, impl_addStamp.e k), (103, impl_addText.e k), (124, impl_FileOk.e k), (164, impl_Crc.e k)] }
theorem impl_PutFile.s (k : Nat) : CallOk Try.prog 126 (impl_PutFile.e k) := mkS (D := impl_PutFile.d) (k := k) sO [] Try.func126 ⟨impl_addStamp.s k, impl_addText.s k, impl_FileOk.s k, impl_Crc.s k, trivial⟩ trivial (by kernel_rfl) (by kernel_rfl) (fun x => by kernel_rfl)
def impl_GetFile.e (k : Nat) : Ent := ⟨1, [(.val false t3)], [(.agg, t18), (.one, .b)], fun x => impl_GetFile k x⟩
def impl_GetFile.d : Fd := { nt := 41, nv := 1, nm := [0, 1, 4, 5, 6], res := [3], cs := fun k => [(108, impl_reader_text.e k), (109, impl_reader_stamp.e k), (126, impl_PutFile.e k)] }
theorem impl_GetFile.s (k : Nat) : CallOk Try.prog 125 (impl_GetFile.e k) := mkS (D := impl_GetFile.d) (k := k) sO [] Try.func125 ⟨impl_reader_text.s k, impl_reader_stamp.s k, impl_PutFile.s k, trivial⟩ trivial (by kernel_rfl) (by kernel_rfl) (fun x => by kernel_rfl)
def impl_Keep.e (k : Nat) : Ent := ⟨4, [(.val true t21), (.val false .s), (.val true t18), (.val false .b)], [(.agg, t21), (.one, (.i .i64))], fun x => impl_Keep k x.1 x.2.1 x.2.2.1 x.2.2.2⟩
def impl_Keep.d : Fd := { nt := 82, nv := 4, nm := [0, 1, 2, 3, 4, 5, 6, 7, 10, 11, 12, 13, 14, 15, 16, 17, 18, 19], res := [9], cs := fun k => [(30, impl_WriteName.e k), (37, impl_SyncName.e k), (42, impl_ReadName.e k), (44, impl_DiskOk.e k), (63, impl_Newer.e k), (82, impl_copyDisk.e k), (83, impl_NameOk.e k), (124, impl_FileOk.e k), (125, impl_GetFile.e k), (126, impl_PutFile.e k)], mv := [80] }
theorem impl_Keep.s (k : Nat) : CallOk Try.prog 59 (impl_Keep.e k) := mkS (D := impl_Keep.d) (k := k) sO [] Try.func59 ⟨impl_WriteName.s k, impl_SyncName.s k, impl_ReadName.s k, impl_DiskOk.s k, impl_Newer.s k, impl_copyDisk.s k, impl_NameOk.s k, impl_FileOk.s k, impl_GetFile.s k, impl_PutFile.s k, trivial⟩ trivial (by kernel_rfl) (by kernel_rfl) (fun x => by kernel_rfl)
def impl_Look.e (k : Nat) : Ent := ⟨2, [(.val true t21), (.val false .s)], [(.agg, t18), (.one, (.i .i64))], fun x => impl_Look k x.1 x.2⟩
def impl_Look.d : Fd := { nt := 28, nv := 2, nm := [0, 1, 2, 3, 6, 7, 8, 9], res := [5], cs := fun k => [(42, impl_ReadName.e k), (125, impl_GetFile.e k)] }
theorem impl_Look.s (k : Nat) : CallOk Try.prog 61 (impl_Look.e k) := mkS (D := impl_Look.d) (k := k) sO [] Try.func61 ⟨impl_ReadName.s k, impl_GetFile.s k, trivial⟩ trivial (by kernel_rfl) (by kernel_rfl) (fun x => by kernel_rfl)
def laws_sameFile.e (k : Nat) : Ent := ⟨2, [(.val true t18), (.val true t18)], [(.one, .b)], fun x => laws_sameFile k x.1 x.2⟩
def laws_sameFile.d : Fd := { nt := 24, nv := 2, nm := [0, 1, 2, 3], res := [4], cs := fun k => [(47, laws_sameBytes.e k)] }
theorem laws_sameFile.s (k : Nat) : CallOk Try.prog 62 (laws_sameFile.e k) := mkS (D := laws_sameFile.d) (k := k) sO [] Try.func62 ⟨laws_sameBytes.s k, trivial⟩ trivial (by kernel_rfl) (by kernel_rfl) (fun x => by kernel_rfl)
def laws_FnKeep.e (k : Nat) : Ent := ⟨1, [(.val false t3)], [(.one, .b)], fun x => laws_FnKeep k x⟩
def laws_FnKeep.d : Fd := { nt := 119, nv := 1, nm := [0, 1, 3, 4, 5, 6, 7, 8, 9, 10, 11, 12, 13, 14, 15, 16], res := [2], cs := fun k => [(15, laws_big.e k), (44, impl_DiskOk.e k), (58, spec_DrawKeep.e k), (59, impl_Keep.e k), (60, spec_Keep.e k), (61, impl_Look.e k), (62, laws_sameFile.e k), (63, impl_Newer.e k)], sh := true }
theorem laws_FnKeep.s (k : Nat) : CallOk Try.prog 12 (laws_FnKeep.e k) := mkS (D := laws_FnKeep.d) (k := k) sO [] Try.func12 ⟨laws_big.s k, impl_DiskOk.s k, spec_DrawKeep.s k, impl_Keep.s k, spec_Keep.s k, impl_Look.s k, laws_sameFile.s k, impl_Newer.s k, trivial⟩ trivial (by kernel_rfl) (by kernel_rfl) (fun x => by kernel_rfl)
def laws_FnSure.e (k : Nat) : Ent := ⟨1, [(.val false t3)], [(.one, .b)], fun x => laws_FnSure k x⟩
def laws_FnSure.d : Fd := { nt := 73, nv := 1, nm := [0, 1, 3, 4, 5, 6, 7, 8, 9, 10, 11, 12, 13, 14], res := [2], cs := fun k => [(15, laws_big.e k), (43, impl_FallDisk.e k), (46, spec_DrawFallDisk.e k), (58, spec_DrawKeep.e k), (59, impl_Keep.e k), (60, spec_Keep.e k), (61, impl_Look.e k), (63, impl_Newer.e k)], sh := true }
theorem laws_FnSure.s (k : Nat) : CallOk Try.prog 13 (laws_FnSure.e k) := mkS (D := laws_FnSure.d) (k := k) sO [] Try.func13 ⟨laws_big.s k, impl_FallDisk.s k, spec_DrawFallDisk.s k, spec_DrawKeep.s k, impl_Keep.s k, spec_Keep.s k, impl_Look.s k, impl_Newer.s k, trivial⟩ trivial (by kernel_rfl) (by kernel_rfl) (fun x => by kernel_rfl)
end Go.Proofs.Ytehkignjdbkeiaa.Vf
