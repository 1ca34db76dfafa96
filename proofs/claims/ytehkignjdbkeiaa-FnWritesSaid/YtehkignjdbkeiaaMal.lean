import Derived.Test.YtehkignjdbkeiaaVs
import Derived.Test.YtehkignjdbkeiaaMak
import Derived.Test.YtehkignjdbkeiaaProg
import Derived.KernelRfl
import Derived.IntWalk
section
namespace Go.Proofs.Ytehkignjdbkeiaa.Vf
open Go Go.Proofs
set_option linter.unusedVariables false
@[reducible] def t0 : Ty := .sl 4 .b
@[reducible] def t1 : Ty := .sl 9 .s
@[reducible] def t2 : Ty := .ow 4 .b
@[reducible] def t3 : Ty := .sl 5 (.i .u8)
@[reducible] def t4 : Ty := .ow 5 (.i .u8)
@[reducible] def t5 : Ty := .sl 3 (.i .i64)
@[reducible] def t6 : Ty := .pr .s (.i .u64)
@[reducible] def t7 : Ty := .pr (.i .i64) (.i .i64)
@[reducible] def t8 : Ty := .pr .s t3
@[reducible] def t9 : Ty := .sl 73 t8
@[reducible] def t10 : Ty := .ow 73 t8
@[reducible] def t11 : Ty := .sl 158 t8
@[reducible] def t12 : Ty := .pr (.i .i64) t7
@[reducible] def t13 : Ty := .pr t3 (.pr (.i .i64) .b)
@[reducible] def t14 : Ty := .pr t3 t7
@[reducible] def t15 : Ty := .pr (.i .i64) (.pr (.i .i64) (.pr .b (.i .u8)))
@[reducible] def t16 : Ty := .pr t12 (.pr .b t3)
@[reducible] def t17 : Ty := .pr .s (.pr t12 (.pr .b (.i .i64)))
@[reducible] def t18 : Ty := .pr t9 t9
@[reducible] def t19 : Ty := .pr t10 t10
@[reducible] def t20 : Ty := .pr t11 t11
@[reducible] def t21 : Ty := .sl 28 t17
@[reducible] def t22 : Ty := .ow 28 t17
@[reducible] def t23 : Ty := .pr (.i .i64) (.pr t18 (.pr t21 t21))
def tiL : List (Nat × TI) := [(2, ⟨(.i .i64), false, 8, []⟩),
 (3, ⟨(.i .i64), false, 8, []⟩),
 (4, ⟨.b, false, 1, []⟩),
 (5, ⟨(.i .u8), false, 1, []⟩),
 (6, ⟨(.i .u8), false, 1, []⟩),
 (7, ⟨t15, true, 24, [(0, 1, false), (1, 1, false), (2, 1, false), (3, 1, false)]⟩),
 (8, ⟨t15, true, 24, [(0, 1, false), (1, 1, false), (2, 1, false), (3, 1, false)]⟩),
 (9, ⟨.s, false, 16, []⟩),
 (10, ⟨.s, false, 16, []⟩),
 (11, ⟨.s, false, 16, []⟩),
 (12, ⟨(.i .u64), false, 8, []⟩),
 (13, ⟨t6, true, 24, [(0, 1, false), (1, 1, false)]⟩),
 (14, ⟨t6, true, 24, [(0, 1, false), (1, 1, false)]⟩),
 (21, ⟨(.i .i32), false, 4, []⟩),
 (22, ⟨t3, false, 24, []⟩),
 (24, ⟨t21, false, 24, []⟩),
 (25, ⟨t12, true, 24, [(0, 1, false), (1, 1, false), (2, 1, false)]⟩),
 (26, ⟨t12, true, 24, [(0, 1, false), (1, 1, false), (2, 1, false)]⟩),
 (27, ⟨t17, true, 56, [(0, 1, false), (1, 3, true), (4, 1, false), (5, 1, false)]⟩),
 (28, ⟨t17, true, 56, [(0, 1, false), (1, 3, true), (4, 1, false), (5, 1, false)]⟩),
 (38, ⟨t11, false, 24, []⟩),
 (39, ⟨t20, true, 48, [(0, 1, false), (1, 1, false)]⟩),
 (40, ⟨t20, true, 48, [(0, 1, false), (1, 1, false)]⟩),
 (42, ⟨t9, false, 24, []⟩),
 (43, ⟨t18, true, 48, [(0, 1, false), (1, 1, false)]⟩),
 (44, ⟨t18, true, 48, [(0, 1, false), (1, 1, false)]⟩),
 (62, ⟨t0, false, 24, []⟩),
 (72, ⟨t8, true, 40, [(0, 1, false), (1, 1, false)]⟩),
 (73, ⟨t8, true, 40, [(0, 1, false), (1, 1, false)]⟩),
 (74, ⟨t23, true, 104, [(0, 1, false), (1, 2, true), (3, 1, false), (4, 1, false)]⟩),
 (75, ⟨t23, true, 104, [(0, 1, false), (1, 2, true), (3, 1, false), (4, 1, false)]⟩),
 (81, ⟨t16, true, 56, [(0, 3, true), (3, 1, false), (4, 1, false)]⟩),
 (82, ⟨t16, true, 56, [(0, 3, true), (3, 1, false), (4, 1, false)]⟩),
 (90, ⟨t12, true, 24, [(0, 1, false), (1, 1, false), (2, 1, false)]⟩),
 (91, ⟨t16, true, 56, [(0, 3, true), (3, 1, false), (4, 1, false)]⟩),
 (92, ⟨t16, true, 56, [(0, 3, true), (3, 1, false), (4, 1, false)]⟩),
 (114, ⟨t1, false, 24, []⟩),
 (126, ⟨t5, false, 24, []⟩),
 (128, ⟨t13, true, 40, [(0, 1, false), (1, 1, false), (2, 1, false)]⟩),
 (129, ⟨t13, true, 40, [(0, 1, false), (1, 1, false), (2, 1, false)]⟩),
 (153, ⟨t14, true, 40, [(0, 1, false), (1, 1, false), (2, 1, false)]⟩),
 (154, ⟨t14, true, 40, [(0, 1, false), (1, 1, false), (2, 1, false)]⟩),
 (158, ⟨t8, true, 40, [(0, 1, false), (1, 1, false)]⟩),
 (166, ⟨(.i .u64), false, 8, []⟩),
 (175, ⟨(.i .u32), false, 4, []⟩),
 (182, ⟨(.i .u8), false, 1, []⟩),
 (183, ⟨(.i .u8), false, 1, []⟩),
 (186, ⟨(.i .i32), false, 4, []⟩),
 (187, ⟨(.i .i32), false, 4, []⟩)]
def ti : TypeId → Option TI := lk tiL
def eqsL : List Nat := [25, 26, 27, 28, 90]
def eqs : TypeId → Bool := fun T => eqsL.contains T
theorem sK : SeatOk Try.prog ti eqs ∧ ∀ T, closeB Try.prog ti T = true := seatK (P := Try.prog) (ti := ti) (eqs := eqs) (keys := tiL.map Prod.fst) (eqsL := eqsL) lk_mem (by kernel_rfl) (by kernel_rfl) rfl (by kernel_rfl)
theorem sO : SeatOk Try.prog ti eqs := sK.1
theorem tiOk : ∀ T t, ti T = some t → TOk Try.prog T t := sO.tok
theorem tiCl : ∀ T, closeB Try.prog ti T = true := sK.2
def laws_big.e (k : Nat) : Ent := ⟨1, [(.val false t3)], [(.one, .b)], fun x => laws_big x⟩
def laws_big.d : Fd := { nt := 6, nv := 1, nm := [0, 1], res := [2] }
theorem laws_big.s (k : Nat) : CallOk Try.prog 15 (laws_big.e k) := mkS (D := laws_big.d) (k := k) sO [] Try.func15 trivial trivial (by kernel_rfl) (by kernel_rfl) (fun x => by kernel_rfl)
def spec_l1New.e (k : Nat) : Ent := ⟨1, [(.val false t3)], [(.ptr, t14)], fun x => spec_l1New k x⟩
def spec_l1New_l3.p : LF := ⟨⟨[], [(0, t3), (3, (.i .i64)), (4, (.i .i64))]⟩, [((.exit 0), ⟨[], [(0, t3), (3, (.i .i64))]⟩)], fun k x => spec_l1New_l3 k x.1 x.2.1 x.2.2⟩
def spec_l1New.d : Fd := { nt := 32, nv := 1, nm := [0, 1, 3, 4], res := [2], ls := [(3, spec_l1New_l3.p)] }
theorem spec_l1New_l3.s : LK Try.prog Try.f68 spec_l1New.d 3 spec_l1New_l3.p := mkL sO [] (by kernel_rfl) (fun _ => trivial) trivial (by kernel_rfl) (fun _ => rfl) (fun k x => by kernel_rfl)
theorem spec_l1New.s (k : Nat) : CallOk Try.prog 68 (spec_l1New.e k) := mkS (D := spec_l1New.d) (k := k) sO [3] Try.func68 trivial ⟨spec_l1New_l3.s, trivial⟩ (by kernel_rfl) (by kernel_rfl) (fun x => by kernel_rfl)
def spec_RowOf.e (k : Nat) : Ent := ⟨2, [(.val false .s), (.val true t16)], [(.agg, t17)], fun x => spec_RowOf x.1 x.2⟩
def spec_RowOf.d : Fd := { nt := 14, nv := 2, nm := [0, 1, 2, 3], res := [] }
theorem spec_RowOf.s (k : Nat) : CallOk Try.prog 135 (spec_RowOf.e k) := mkS (D := spec_RowOf.d) (k := k) sO [] Try.func135 trivial trivial (by kernel_rfl) (by kernel_rfl) (fun x => by kernel_rfl)
def spec_l1Byte.e (k : Nat) : Ent := ⟨1, [(.ptr t14 t14)], [(.one, (.i .i64))], fun x => spec_l1Byte x⟩
def spec_l1Byte.d : Fd := { nt := 58, nv := 1, nm := [0, 1, 3], res := [2] }
theorem spec_l1Byte.s (k : Nat) : CallOk Try.prog 155 (spec_l1Byte.e k) := mkS (D := spec_l1Byte.d) (k := k) sO [] Try.func155 trivial trivial (by kernel_rfl) (by kernel_rfl) (fun x => by kernel_rfl)
def spec_l1Below.e (k : Nat) : Ent := ⟨2, [(.ptr t14 t14), (.val false (.i .i64))], [(.one, (.i .i64))], fun x => spec_l1Below x.1 x.2⟩
def spec_l1Below.d : Fd := { nt := 31, nv := 2, nm := [0, 1, 2, 3, 5, 6, 7], res := [4], cs := fun k => [(155, spec_l1Byte.e k)] }
theorem spec_l1Below.s (k : Nat) : CallOk Try.prog 105 (spec_l1Below.e k) := mkS (D := spec_l1Below.d) (k := k) sO [] Try.func105 ⟨spec_l1Byte.s k, trivial⟩ trivial (by kernel_rfl) (by kernel_rfl) (fun x => by kernel_rfl)
def spec_l1Str.e (k : Nat) : Ent := ⟨2, [(.ptr t14 t14), (.val false t1)], [(.one, .s)], fun x => spec_l1Str x.1 x.2⟩
def spec_l1Str.d : Fd := { nt := 12, nv := 2, nm := [0, 1, 2, 3], res := [4], cs := fun k => [(105, spec_l1Below.e k)] }
theorem spec_l1Str.s (k : Nat) : CallOk Try.prog 149 (spec_l1Str.e k) := mkS (D := spec_l1Str.d) (k := k) sO [] Try.func149 ⟨spec_l1Below.s k, trivial⟩ trivial (by kernel_rfl) (by kernel_rfl) (fun x => by kernel_rfl)
def spec_l3Name.e (k : Nat) : Ent := ⟨1, [(.ptr t14 t14)], [(.one, .s)], fun x => spec_l3Name x⟩
def spec_l3Name.d : Fd := { nt := 6, nv := 1, nm := [0, 1], res := [2], cs := fun k => [(149, spec_l1Str.e k)] }
theorem spec_l3Name.s (k : Nat) : CallOk Try.prog 136 (spec_l3Name.e k) := mkS (D := spec_l3Name.d) (k := k) sO [] Try.func136 ⟨spec_l1Str.s k, trivial⟩ trivial (by kernel_rfl) (by kernel_rfl) (fun x => by kernel_rfl)
def spec_l1Int.e (k : Nat) : Ent := ⟨2, [(.ptr t14 t14), (.val false t5)], [(.one, (.i .i64))], fun x => spec_l1Int x.1 x.2⟩
def spec_l1Int.d : Fd := { nt := 12, nv := 2, nm := [0, 1, 2, 3], res := [4], cs := fun k => [(105, spec_l1Below.e k)] }
theorem spec_l1Int.s (k : Nat) : CallOk Try.prog 106 (spec_l1Int.e k) := mkS (D := spec_l1Int.d) (k := k) sO [] Try.func106 ⟨spec_l1Below.s k, trivial⟩ trivial (by kernel_rfl) (by kernel_rfl) (fun x => by kernel_rfl)
def spec_l1Bytes.e (k : Nat) : Ent := ⟨2, [(.ptr t14 t14), (.val false (.i .i64))], [(.one, t4)], fun x => spec_l1Bytes k x.1 x.2⟩
def spec_l1Bytes_l3.p : LF := ⟨⟨[(0, (.bp 0 0 0)), (1999, (.hd 3))], [(1, (.i .i64)), (5, t4), (6, (.i .i64)), (1000, t3), (1001, (.i .i64)), (1002, (.i .i64))]⟩, [((.exit 0), ⟨[(1999, (.hd 3))], [(5, t4), (1000, t3), (1001, (.i .i64)), (1002, (.i .i64))]⟩)], fun k x => spec_l1Bytes_l3 k x.1 x.2.1 x.2.2.1 x.2.2.2.1 x.2.2.2.2.1 x.2.2.2.2.2⟩
def spec_l1Bytes.d : Fd := { nt := 20, nv := 2, nm := [0, 1, 2, 3, 5, 6], res := [4], cs := fun k => [(155, spec_l1Byte.e k)], ls := [(3, spec_l1Bytes_l3.p)] }
theorem spec_l1Bytes.a (k : Nat) : AllC Try.prog (spec_l1Bytes.d.cs k) := ⟨spec_l1Byte.s k, trivial⟩
theorem spec_l1Bytes_l3.s : LK Try.prog Try.f158 spec_l1Bytes.d 3 spec_l1Bytes_l3.p := mkL sO [] (by kernel_rfl) spec_l1Bytes.a trivial (by kernel_rfl) (fun _ => rfl) (fun k x => by kernel_rfl)
theorem spec_l1Bytes.s (k : Nat) : CallOk Try.prog 158 (spec_l1Bytes.e k) := mkS (D := spec_l1Bytes.d) (k := k) sO [3] Try.func158 (spec_l1Bytes.a k) ⟨spec_l1Bytes_l3.s, trivial⟩ (by kernel_rfl) (by kernel_rfl) (fun x => by kernel_rfl)
def spec_l1Some.e (k : Nat) : Ent := ⟨1, [(.ptr t14 t14)], [(.one, t4)], fun x => spec_l1Some k x⟩
def spec_l1Some.d : Fd := { nt := 8, nv := 1, nm := [0, 1], res := [2], cs := fun k => [(106, spec_l1Int.e k), (158, spec_l1Bytes.e k)] }
theorem spec_l1Some.s (k : Nat) : CallOk Try.prog 113 (spec_l1Some.e k) := mkS (D := spec_l1Some.d) (k := k) sO [] Try.func113 ⟨spec_l1Int.s k, spec_l1Bytes.s k, trivial⟩ trivial (by kernel_rfl) (by kernel_rfl) (fun x => by kernel_rfl)
def spec_l1Once.e (k : Nat) : Ent := ⟨2, [(.ptr t14 t14), (.val false (.i .i64))], [(.one, .b)], fun x => spec_l1Once x.1 x.2⟩
def spec_l1Once.d : Fd := { nt := 9, nv := 2, nm := [0, 1, 2, 3], res := [4], cs := fun k => [(105, spec_l1Below.e k)] }
theorem spec_l1Once.s (k : Nat) : CallOk Try.prog 114 (spec_l1Once.e k) := mkS (D := spec_l1Once.d) (k := k) sO [] Try.func114 ⟨spec_l1Below.s k, trivial⟩ trivial (by kernel_rfl) (by kernel_rfl) (fun x => by kernel_rfl)
def spec_l2Draw.e (k : Nat) : Ent := ⟨1, [(.ptr t14 t14)], [(.agg, t12)], fun x => spec_l2Draw x⟩
def spec_l2Draw.d : Fd := { nt := 11, nv := 1, nm := [0, 1], res := [], cs := fun k => [(105, spec_l1Below.e k), (106, spec_l1Int.e k)] }
theorem spec_l2Draw.s (k : Nat) : CallOk Try.prog 167 (spec_l2Draw.e k) := mkS (D := spec_l2Draw.d) (k := k) sO [] Try.func167 ⟨spec_l1Below.s k, spec_l1Int.s k, trivial⟩ trivial (by kernel_rfl) (by kernel_rfl) (fun x => by kernel_rfl)
def spec_l8Draw.e (k : Nat) : Ent := ⟨1, [(.ptr t14 t14)], [(.agg, (.pr t12 (.pr .b t4)))], fun x => spec_l8Draw k x⟩
def spec_l8Draw.d : Fd := { nt := 16, nv := 1, nm := [0, 1, 3], res := [], cs := fun k => [(113, spec_l1Some.e k), (114, spec_l1Once.e k), (167, spec_l2Draw.e k)], mv := [15] }
theorem spec_l8Draw.s (k : Nat) : CallOk Try.prog 137 (spec_l8Draw.e k) := mkS (D := spec_l8Draw.d) (k := k) sO [] Try.func137 ⟨spec_l1Some.s k, spec_l1Once.s k, spec_l2Draw.s k, trivial⟩ trivial (by kernel_rfl) (by kernel_rfl) (fun x => by kernel_rfl)
def spec_l11One.e (k : Nat) : Ent := ⟨1, [(.ptr t14 t14)], [(.agg, t17)], fun x => spec_l11One k x⟩
def spec_l11One.d : Fd := { nt := 8, nv := 1, nm := [0, 1], res := [], cs := fun k => [(135, spec_RowOf.e k), (136, spec_l3Name.e k), (137, spec_l8Draw.e k)] }
theorem spec_l11One.s (k : Nat) : CallOk Try.prog 70 (spec_l11One.e k) := mkS (D := spec_l11One.d) (k := k) sO [] Try.func70 ⟨spec_RowOf.s k, spec_l3Name.s k, spec_l8Draw.s k, trivial⟩ trivial (by kernel_rfl) (by kernel_rfl) (fun x => by kernel_rfl)
def spec_LessStamp.e (k : Nat) : Ent := ⟨2, [(.val true t12), (.val true t12)], [(.one, .b)], fun x => spec_LessStamp x.1 x.2⟩
def spec_LessStamp.d : Fd := { nt := 32, nv := 2, nm := [0, 1, 2, 3], res := [4] }
theorem spec_LessStamp.s (k : Nat) : CallOk Try.prog 138 (spec_LessStamp.e k) := mkS (D := spec_LessStamp.d) (k := k) sO [] Try.func138 trivial trivial (by kernel_rfl) (by kernel_rfl) (fun x => by kernel_rfl)
def spec_l11Less.e (k : Nat) : Ent := ⟨2, [(.val true t17), (.val true t17)], [(.one, .b)], fun x => spec_l11Less x.1 x.2⟩
def spec_l11Less.d : Fd := { nt := 29, nv := 2, nm := [0, 1, 2, 3], res := [4], cs := fun k => [(138, spec_LessStamp.e k)] }
theorem spec_l11Less.s (k : Nat) : CallOk Try.prog 73 (spec_l11Less.e k) := mkS (D := spec_l11Less.d) (k := k) sO [] Try.func73 ⟨spec_LessStamp.s k, trivial⟩ trivial (by kernel_rfl) (by kernel_rfl) (fun x => by kernel_rfl)
def spec_MergeRow.e (k : Nat) : Ent := ⟨2, [(.val false t21), (.val true t17)], [(.one, t22)], fun x => spec_MergeRow k x.1 x.2⟩
def spec_MergeRow_l11.p : LF := ⟨⟨[(3, (.bp 3 0 0)), (4999, (.hd 6))], [(5, t22), (7, (.i .i64)), (4000, .s), (4001, (.i .i64)), (4002, (.i .i64)), (4003, (.i .i64)), (4004, .b), (4005, (.i .i64))]⟩, [((.exit 2), ⟨[(3, (.bp 3 0 0)), (4999, (.hd 6))], [(5, t22), (7, (.i .i64)), (4000, .s), (4001, (.i .i64)), (4002, (.i .i64)), (4003, (.i .i64)), (4004, .b), (4005, (.i .i64))]⟩)], fun k x => spec_MergeRow_l11 k x.1 x.2.1 x.2.2.1 x.2.2.2.1 x.2.2.2.2.1 x.2.2.2.2.2.1 x.2.2.2.2.2.2.1 x.2.2.2.2.2.2.2⟩
def spec_MergeRow_l3.p : LF := ⟨⟨[(3, (.bp 3 0 0)), (4999, (.hd 6))], [(5, t22), (6, (.i .i64)), (4000, .s), (4001, (.i .i64)), (4002, (.i .i64)), (4003, (.i .i64)), (4004, .b), (4005, (.i .i64))]⟩, [(.ret, ⟨[], [(4, t22)]⟩), ((.exit 0), ⟨[(3, (.bp 3 0 0)), (4999, (.hd 6))], [(5, t22), (4000, .s), (4001, (.i .i64)), (4002, (.i .i64)), (4003, (.i .i64)), (4004, .b), (4005, (.i .i64))]⟩)], fun k x => spec_MergeRow_l3 k x.1 x.2.1 x.2.2.1 x.2.2.2.1 x.2.2.2.2.1 x.2.2.2.2.2.1 x.2.2.2.2.2.2.1 x.2.2.2.2.2.2.2⟩
def spec_MergeRow.d : Fd := { nt := 70, nv := 2, nm := [0, 1, 2, 3, 5, 6, 7], res := [4], cs := fun k => [(73, spec_l11Less.e k)], ls := [(11, spec_MergeRow_l11.p), (3, spec_MergeRow_l3.p)] }
theorem spec_MergeRow.a (k : Nat) : AllC Try.prog (spec_MergeRow.d.cs k) := ⟨spec_l11Less.s k, trivial⟩
theorem spec_MergeRow_l11.s : LK Try.prog Try.f19 spec_MergeRow.d 11 spec_MergeRow_l11.p := mkL sO [] (by kernel_rfl) spec_MergeRow.a trivial (by kernel_rfl) (fun _ => rfl) (fun k x => by kernel_rfl)
theorem spec_MergeRow_l3.s : LK Try.prog Try.f19 spec_MergeRow.d 3 spec_MergeRow_l3.p := mkL sO [] (by kernel_rfl) spec_MergeRow.a trivial (by kernel_rfl) (fun _ => rfl) (fun k x => by kernel_rfl)
theorem spec_MergeRow.s (k : Nat) : CallOk Try.prog 19 (spec_MergeRow.e k) := mkS (D := spec_MergeRow.d) (k := k) sO [3, 11] Try.func19 (spec_MergeRow.a k) ⟨spec_MergeRow_l3.s, spec_MergeRow_l11.s, trivial⟩ (by kernel_rfl) (by kernel_rfl) (fun x => by kernel_rfl)
def spec_l11Draw.e (k : Nat) : Ent := ⟨1, [(.ptr t14 t14)], [(.one, t22)], fun x => spec_l11Draw k x⟩
def spec_l11Draw_l3.p : LF := ⟨⟨[(0, (.bp 0 0 0)), (1999, (.hd 3))], [(3, t22), (4, (.i .i64)), (1000, t3), (1001, (.i .i64)), (1002, (.i .i64))]⟩, [((.exit 0), ⟨[(1999, (.hd 3))], [(3, t22), (1000, t3), (1001, (.i .i64)), (1002, (.i .i64))]⟩)], fun k x => spec_l11Draw_l3 k x.1 x.2.1 x.2.2.1 x.2.2.2.1 x.2.2.2.2⟩
def spec_l11Draw.d : Fd := { nt := 17, nv := 1, nm := [0, 1, 3, 4], res := [2], cs := fun k => [(19, spec_MergeRow.e k), (70, spec_l11One.e k), (105, spec_l1Below.e k)], ls := [(3, spec_l11Draw_l3.p)] }
theorem spec_l11Draw.a (k : Nat) : AllC Try.prog (spec_l11Draw.d.cs k) := ⟨spec_MergeRow.s k, spec_l11One.s k, spec_l1Below.s k, trivial⟩
theorem spec_l11Draw_l3.s : LK Try.prog Try.f74 spec_l11Draw.d 3 spec_l11Draw_l3.p := mkL sO [] (by kernel_rfl) spec_l11Draw.a trivial (by kernel_rfl) (fun _ => rfl) (fun k x => by kernel_rfl)
theorem spec_l11Draw.s (k : Nat) : CallOk Try.prog 74 (spec_l11Draw.e k) := mkS (D := spec_l11Draw.d) (k := k) sO [3] Try.func74 (spec_l11Draw.a k) ⟨spec_l11Draw_l3.s, trivial⟩ (by kernel_rfl) (by kernel_rfl) (fun x => by kernel_rfl)
def spec_l11Any.e (k : Nat) : Ent := ⟨1, [(.ptr t14 t14)], [(.one, t22)], fun x => spec_l11Any k x⟩
def spec_l11Any.d : Fd := { nt := 27, nv := 1, nm := [0, 1, 3], res := [2], cs := fun k => [(70, spec_l11One.e k), (74, spec_l11Draw.e k), (105, spec_l1Below.e k), (106, spec_l1Int.e k)] }
theorem spec_l11Any.s (k : Nat) : CallOk Try.prog 69 (spec_l11Any.e k) := mkS (D := spec_l11Any.d) (k := k) sO [] Try.func69 ⟨spec_l11One.s k, spec_l11Draw.s k, spec_l1Below.s k, spec_l1Int.s k, trivial⟩ trivial (by kernel_rfl) (by kernel_rfl) (fun x => by kernel_rfl)
def spec_DrawMergeRow.e (k : Nat) : Ent := ⟨1, [(.val false t3)], [(.one, t22), (.agg, t17)], fun x => spec_DrawMergeRow k x⟩
def spec_DrawMergeRow.d : Fd := { nt := 11, nv := 1, nm := [0, 1, 4], res := [2], cs := fun k => [(68, spec_l1New.e k), (69, spec_l11Any.e k), (70, spec_l11One.e k)] }
theorem spec_DrawMergeRow.s (k : Nat) : CallOk Try.prog 16 (spec_DrawMergeRow.e k) := mkS (D := spec_DrawMergeRow.d) (k := k) sO [] Try.func16 ⟨spec_l1New.s k, spec_l11Any.s k, spec_l11One.s k, trivial⟩ trivial (by kernel_rfl) (by kernel_rfl) (fun x => by kernel_rfl)
def impl_copyRows.e (k : Nat) : Ent := ⟨1, [(.val false t21)], [(.one, t22)], fun x => impl_copyRows x⟩
def impl_copyRows.d : Fd := { nt := 5, nv := 1, nm := [0, 1], res := [2] }
theorem impl_copyRows.s (k : Nat) : CallOk Try.prog 71 (impl_copyRows.e k) := mkS (D := impl_copyRows.d) (k := k) sO [] Try.func71 trivial trivial (by kernel_rfl) (by kernel_rfl) (fun x => by kernel_rfl)
def impl_LessStamp.e (k : Nat) : Ent := ⟨2, [(.val true t12), (.val true t12)], [(.one, .b)], fun x => impl_LessStamp x.1 x.2⟩
def impl_LessStamp.d : Fd := { nt := 32, nv := 2, nm := [0, 1, 2, 3], res := [4] }
theorem impl_LessStamp.s (k : Nat) : CallOk Try.prog 20 (impl_LessStamp.e k) := mkS (D := impl_LessStamp.d) (k := k) sO [] Try.func20 trivial trivial (by kernel_rfl) (by kernel_rfl) (fun x => by kernel_rfl)
def impl_laterRow.e (k : Nat) : Ent := ⟨2, [(.val true t17), (.val true t17)], [(.one, .b)], fun x => impl_laterRow x.1 x.2⟩
def impl_laterRow.d : Fd := { nt := 29, nv := 2, nm := [0, 1, 2, 3], res := [4], cs := fun k => [(20, impl_LessStamp.e k)] }
theorem impl_laterRow.s (k : Nat) : CallOk Try.prog 72 (impl_laterRow.e k) := mkS (D := impl_laterRow.d) (k := k) sO [] Try.func72 ⟨impl_LessStamp.s k, trivial⟩ trivial (by kernel_rfl) (by kernel_rfl) (fun x => by kernel_rfl)
def impl_MergeRow.e (k : Nat) : Ent := ⟨2, [(.val false t21), (.val true t17)], [(.one, t22)], fun x => impl_MergeRow k x.1 x.2⟩
def impl_MergeRow_l11.p : LF := ⟨⟨[(3, (.bp 3 0 0)), (4999, (.hd 6))], [(0, t21), (8, (.i .i64)), (4000, .s), (4001, (.i .i64)), (4002, (.i .i64)), (4003, (.i .i64)), (4004, .b), (4005, (.i .i64))]⟩, [((.exit 2), ⟨[(3, (.bp 3 0 0)), (4999, (.hd 6))], [(0, t21), (8, (.i .i64)), (4000, .s), (4001, (.i .i64)), (4002, (.i .i64)), (4003, (.i .i64)), (4004, .b), (4005, (.i .i64))]⟩)], fun k x => impl_MergeRow_l11 k x.1 x.2.1 x.2.2.1 x.2.2.2.1 x.2.2.2.2.1 x.2.2.2.2.2.1 x.2.2.2.2.2.2.1 x.2.2.2.2.2.2.2⟩
def impl_MergeRow_l3.p : LF := ⟨⟨[(3, (.bp 3 0 0)), (4999, (.hd 6))], [(0, t21), (5, t22), (11, t21), (12, (.i .i64)), (13, (.i .i64)), (4000, .s), (4001, (.i .i64)), (4002, (.i .i64)), (4003, (.i .i64)), (4004, .b), (4005, (.i .i64))]⟩, [(.ret, ⟨[], [(4, t22)]⟩), ((.exit 0), ⟨[(3, (.bp 3 0 0)), (4999, (.hd 6))], [(0, t21), (4000, .s), (4001, (.i .i64)), (4002, (.i .i64)), (4003, (.i .i64)), (4004, .b), (4005, (.i .i64))]⟩)], fun k x => impl_MergeRow_l3 k x.1 x.2.1 x.2.2.1 x.2.2.2.1 x.2.2.2.2.1 x.2.2.2.2.2.1 x.2.2.2.2.2.2.1 x.2.2.2.2.2.2.2.1 x.2.2.2.2.2.2.2.2.1 x.2.2.2.2.2.2.2.2.2.1 x.2.2.2.2.2.2.2.2.2.2⟩
def impl_MergeRow.d : Fd := { nt := 60, nv := 2, nm := [0, 1, 2, 3, 5, 6, 7, 8], res := [4], cs := fun k => [(71, impl_copyRows.e k), (72, impl_laterRow.e k)], ls := [(11, impl_MergeRow_l11.p), (3, impl_MergeRow_l3.p)] }
theorem impl_MergeRow.a (k : Nat) : AllC Try.prog (impl_MergeRow.d.cs k) := ⟨impl_copyRows.s k, impl_laterRow.s k, trivial⟩
theorem impl_MergeRow_l11.s : LK Try.prog Try.f17 impl_MergeRow.d 11 impl_MergeRow_l11.p := mkL sO [] (by kernel_rfl) impl_MergeRow.a trivial (by kernel_rfl) (fun _ => rfl) (fun k x => by kernel_rfl)
theorem impl_MergeRow_l3.s : LK Try.prog Try.f17 impl_MergeRow.d 3 impl_MergeRow_l3.p := mkL sO [] (by kernel_rfl) impl_MergeRow.a trivial (by kernel_rfl) (fun _ => rfl) (fun k x => by kernel_rfl)
theorem impl_MergeRow.s (k : Nat) : CallOk Try.prog 17 (impl_MergeRow.e k) := mkS (D := impl_MergeRow.d) (k := k) sO [3, 11] Try.func17 (impl_MergeRow.a k) ⟨impl_MergeRow_l3.s, impl_MergeRow_l11.s, trivial⟩ (by kernel_rfl) (by kernel_rfl) (fun x => by kernel_rfl)
def laws_sameRows.e (k : Nat) : Ent := ⟨2, [(.val false t21), (.val false t21)], [(.one, .b)], fun x => laws_sameRows k x.1 x.2⟩
def laws_sameRows_l4.p : LF := ⟨⟨[], [(0, t21), (1, t21), (5, (.i .i64))]⟩, [(.ret, ⟨[], [(4, .b)]⟩), ((.exit 0), ⟨[], []⟩)], fun k x => laws_sameRows_l4 k x.1 x.2.1 x.2.2⟩
def laws_sameRows.d : Fd := { nt := 26, nv := 2, nm := [0, 1, 2, 3, 5], res := [4], ls := [(4, laws_sameRows_l4.p)] }
theorem laws_sameRows_l4.s : LK Try.prog Try.f18 laws_sameRows.d 4 laws_sameRows_l4.p := mkL sO [] (by kernel_rfl) (fun _ => trivial) trivial (by kernel_rfl) (fun _ => rfl) (fun k x => by kernel_rfl)
theorem laws_sameRows.s (k : Nat) : CallOk Try.prog 18 (laws_sameRows.e k) := mkS (D := laws_sameRows.d) (k := k) sO [4] Try.func18 trivial ⟨laws_sameRows_l4.s, trivial⟩ (by kernel_rfl) (by kernel_rfl) (fun x => by kernel_rfl)
def laws_FnRow.e (k : Nat) : Ent := ⟨1, [(.val false t3)], [(.one, .b)], fun x => laws_FnRow k x⟩
def laws_FnRow_l9.p : LF := ⟨⟨[(4, (.bp 4 0 0)), (5999, (.hd 6))], [(3, t21), (5, t21), (6, .b), (7, (.i .i64)), (5000, .s), (5001, (.i .i64)), (5002, (.i .i64)), (5003, (.i .i64)), (5004, .b), (5005, (.i .i64))]⟩, [((.exit 0), ⟨[], [(3, t21), (5, t21), (6, .b)]⟩)], fun k x => laws_FnRow_l9 k x.1 x.2.1 x.2.2.1 x.2.2.2.1 x.2.2.2.2.1 x.2.2.2.2.2.1 x.2.2.2.2.2.2.1 x.2.2.2.2.2.2.2.1 x.2.2.2.2.2.2.2.2.1 x.2.2.2.2.2.2.2.2.2⟩
def laws_FnRow.d : Fd := { nt := 68, nv := 1, nm := [0, 1, 3, 4, 5, 6, 7], res := [2], cs := fun k => [(15, laws_big.e k), (16, spec_DrawMergeRow.e k), (17, impl_MergeRow.e k), (18, laws_sameRows.e k), (19, spec_MergeRow.e k), (20, impl_LessStamp.e k)], ls := [(9, laws_FnRow_l9.p)], sh := true }
theorem laws_FnRow.a (k : Nat) : AllC Try.prog (laws_FnRow.d.cs k) := ⟨laws_big.s k, spec_DrawMergeRow.s k, impl_MergeRow.s k, laws_sameRows.s k, spec_MergeRow.s k, impl_LessStamp.s k, trivial⟩
theorem laws_FnRow_l9.s : LK Try.prog Try.f3 laws_FnRow.d 9 laws_FnRow_l9.p := mkL sO [] (by kernel_rfl) laws_FnRow.a trivial (by kernel_rfl) (fun _ => rfl) (fun k x => by kernel_rfl)
theorem laws_FnRow.s (k : Nat) : CallOk Try.prog 3 (laws_FnRow.e k) := mkS (D := laws_FnRow.d) (k := k) sO [9] Try.func3 (laws_FnRow.a k) ⟨laws_FnRow_l9.s, trivial⟩ (by kernel_rfl) (by kernel_rfl) (fun x => by kernel_rfl)
def spec_DrawRows.e (k : Nat) : Ent := ⟨1, [(.val false t3)], [(.one, t22), (.one, t22)], fun x => spec_DrawRows k x⟩
def spec_DrawRows.d : Fd := { nt := 11, nv := 1, nm := [0, 1, 4], res := [2, 3], cs := fun k => [(68, spec_l1New.e k), (74, spec_l11Draw.e k)] }
theorem spec_DrawRows.s (k : Nat) : CallOk Try.prog 21 (spec_DrawRows.e k) := mkS (D := spec_DrawRows.d) (k := k) sO [] Try.func21 ⟨spec_l1New.s k, spec_l11Draw.s k, trivial⟩ trivial (by kernel_rfl) (by kernel_rfl) (fun x => by kernel_rfl)
def spec_DrawMergeRows.e (k : Nat) : Ent := ⟨1, [(.val false t3)], [(.one, t22), (.one, t22)], fun x => spec_DrawMergeRows k x⟩
def spec_DrawMergeRows.d : Fd := { nt := 11, nv := 1, nm := [0, 1, 4], res := [2, 3], cs := fun k => [(68, spec_l1New.e k), (69, spec_l11Any.e k)] }
theorem spec_DrawMergeRows.s (k : Nat) : CallOk Try.prog 22 (spec_DrawMergeRows.e k) := mkS (D := spec_DrawMergeRows.d) (k := k) sO [] Try.func22 ⟨spec_l1New.s k, spec_l11Any.s k, trivial⟩ trivial (by kernel_rfl) (by kernel_rfl) (fun x => by kernel_rfl)
def impl_MergeRows.e (k : Nat) : Ent := ⟨2, [(.val false t21), (.val false t21)], [(.one, t22)], fun x => impl_MergeRows k x.1 x.2⟩
def impl_MergeRows_l3.p : LF := ⟨⟨[], [(5, t22), (10, t21), (11, (.i .i64)), (12, (.i .i64))]⟩, [((.exit 0), ⟨[], [(5, t22)]⟩)], fun k x => impl_MergeRows_l3 k x.1 x.2.1 x.2.2.1 x.2.2.2⟩
def impl_MergeRows.d : Fd := { nt := 21, nv := 2, nm := [0, 1, 2, 3, 5, 6, 7], res := [4], cs := fun k => [(17, impl_MergeRow.e k), (71, impl_copyRows.e k)], ls := [(3, impl_MergeRows_l3.p)] }
theorem impl_MergeRows.a (k : Nat) : AllC Try.prog (impl_MergeRows.d.cs k) := ⟨impl_MergeRow.s k, impl_copyRows.s k, trivial⟩
theorem impl_MergeRows_l3.s : LK Try.prog Try.f23 impl_MergeRows.d 3 impl_MergeRows_l3.p := mkL sO [] (by kernel_rfl) impl_MergeRows.a trivial (by kernel_rfl) (fun _ => rfl) (fun k x => by kernel_rfl)
theorem impl_MergeRows.s (k : Nat) : CallOk Try.prog 23 (impl_MergeRows.e k) := mkS (D := impl_MergeRows.d) (k := k) sO [3] Try.func23 (impl_MergeRows.a k) ⟨impl_MergeRows_l3.s, trivial⟩ (by kernel_rfl) (by kernel_rfl) (fun x => by kernel_rfl)
def impl_in.e (k : Nat) : Ent := ⟨3, [(.val false (.i .i64)), (.val false (.i .i64)), (.val false (.i .i64))], [(.one, .b)], fun x => impl_in x.1 x.2.1 x.2.2⟩
def impl_in.d : Fd := { nt := 15, nv := 3, nm := [0, 1, 2, 3, 4, 5], res := [6] }
theorem impl_in.s (k : Nat) : CallOk Try.prog 120 (impl_in.e k) := mkS (D := impl_in.d) (k := k) sO [] Try.func120 trivial trivial (by kernel_rfl) (by kernel_rfl) (fun x => by kernel_rfl)
def impl_NameOk.e (k : Nat) : Ent := ⟨1, [(.val false .s)], [(.one, .b)], fun x => impl_NameOk k x⟩
def impl_NameOk_l2.p : LF := ⟨⟨[], [(0, .s), (3, (.i .i64))]⟩, [(.ret, ⟨[], [(2, .b)]⟩), ((.exit 0), ⟨[], [(0, .s)]⟩)], fun k x => impl_NameOk_l2 k x.1 x.2⟩
def impl_NameOk.d : Fd := { nt := 45, nv := 1, nm := [0, 1, 3, 4], res := [2], cs := fun k => [(120, impl_in.e k)], ls := [(2, impl_NameOk_l2.p)] }
theorem impl_NameOk.a (k : Nat) : AllC Try.prog (impl_NameOk.d.cs k) := ⟨impl_in.s k, trivial⟩
theorem impl_NameOk_l2.s : LK Try.prog Try.f83 impl_NameOk.d 2 impl_NameOk_l2.p := mkL sO [] (by kernel_rfl) impl_NameOk.a trivial (by kernel_rfl) (fun _ => rfl) (fun k x => by kernel_rfl)
theorem impl_NameOk.s (k : Nat) : CallOk Try.prog 83 (impl_NameOk.e k) := mkS (D := impl_NameOk.d) (k := k) sO [2] Try.func83 (impl_NameOk.a k) ⟨impl_NameOk_l2.s, trivial⟩ (by kernel_rfl) (by kernel_rfl) (fun x => by kernel_rfl)
def impl_StampOk.e (k : Nat) : Ent := ⟨1, [(.val true t12)], [(.one, .b)], fun x => impl_StampOk x⟩
def impl_StampOk.d : Fd := { nt := 16, nv := 1, nm := [0, 1], res := [2], cs := fun k => [(120, impl_in.e k)] }
theorem impl_StampOk.s (k : Nat) : CallOk Try.prog 139 (impl_StampOk.e k) := mkS (D := impl_StampOk.d) (k := k) sO [] Try.func139 ⟨impl_in.s k, trivial⟩ trivial (by kernel_rfl) (by kernel_rfl) (fun x => by kernel_rfl)
def impl_rowOk.e (k : Nat) : Ent := ⟨1, [(.val true t17)], [(.one, .b)], fun x => impl_rowOk k x⟩
def impl_rowOk.d : Fd := { nt := 26, nv := 1, nm := [0, 1], res := [2], cs := fun k => [(83, impl_NameOk.e k), (120, impl_in.e k), (139, impl_StampOk.e k)] }
theorem impl_rowOk.s (k : Nat) : CallOk Try.prog 75 (impl_rowOk.e k) := mkS (D := impl_rowOk.d) (k := k) sO [] Try.func75 ⟨impl_NameOk.s k, impl_in.s k, impl_StampOk.s k, trivial⟩ trivial (by kernel_rfl) (by kernel_rfl) (fun x => by kernel_rfl)
def impl_RowsOk.e (k : Nat) : Ent := ⟨1, [(.val false t21)], [(.one, .b)], fun x => impl_RowsOk k x⟩
def impl_RowsOk_l2.p : LF := ⟨⟨[], [(0, t21), (5, t21), (6, (.i .i64)), (7, (.i .i64))]⟩, [(.ret, ⟨[], [(2, .b)]⟩), ((.exit 0), ⟨[], [(0, t21)]⟩)], fun k x => impl_RowsOk_l2 k x.1 x.2.1 x.2.2.1 x.2.2.2⟩
def impl_RowsOk.d : Fd := { nt := 34, nv := 1, nm := [0, 1, 3, 4], res := [2], cs := fun k => [(75, impl_rowOk.e k)], ls := [(2, impl_RowsOk_l2.p)] }
theorem impl_RowsOk.a (k : Nat) : AllC Try.prog (impl_RowsOk.d.cs k) := ⟨impl_rowOk.s k, trivial⟩
theorem impl_RowsOk_l2.s : LK Try.prog Try.f24 impl_RowsOk.d 2 impl_RowsOk_l2.p := mkL sO [] (by kernel_rfl) impl_RowsOk.a trivial (by kernel_rfl) (fun _ => rfl) (fun k x => by kernel_rfl)
theorem impl_RowsOk.s (k : Nat) : CallOk Try.prog 24 (impl_RowsOk.e k) := mkS (D := impl_RowsOk.d) (k := k) sO [2] Try.func24 (impl_RowsOk.a k) ⟨impl_RowsOk_l2.s, trivial⟩ (by kernel_rfl) (by kernel_rfl) (fun x => by kernel_rfl)
def spec_l1In.e (k : Nat) : Ent := ⟨3, [(.val false (.i .i64)), (.val false (.i .i64)), (.val false (.i .i64))], [(.one, .b)], fun x => spec_l1In x.1 x.2.1 x.2.2⟩
def spec_l1In.d : Fd := { nt := 15, nv := 3, nm := [0, 1, 2, 3, 4, 5], res := [6] }
theorem spec_l1In.s (k : Nat) : CallOk Try.prog 141 (spec_l1In.e k) := mkS (D := spec_l1In.d) (k := k) sO [] Try.func141 trivial trivial (by kernel_rfl) (by kernel_rfl) (fun x => by kernel_rfl)
def spec_NameOk.e (k : Nat) : Ent := ⟨1, [(.val false .s)], [(.one, .b)], fun x => spec_NameOk k x⟩
def spec_NameOk_l2.p : LF := ⟨⟨[], [(0, .s), (3, (.i .i64))]⟩, [(.ret, ⟨[], [(2, .b)]⟩), ((.exit 0), ⟨[], [(0, .s)]⟩)], fun k x => spec_NameOk_l2 k x.1 x.2⟩
def spec_NameOk.d : Fd := { nt := 38, nv := 1, nm := [0, 1, 3, 4], res := [2], cs := fun k => [(141, spec_l1In.e k)], ls := [(2, spec_NameOk_l2.p)] }
theorem spec_NameOk.a (k : Nat) : AllC Try.prog (spec_NameOk.d.cs k) := ⟨spec_l1In.s k, trivial⟩
theorem spec_NameOk_l2.s : LK Try.prog Try.f128 spec_NameOk.d 2 spec_NameOk_l2.p := mkL sO [] (by kernel_rfl) spec_NameOk.a trivial (by kernel_rfl) (fun _ => rfl) (fun k x => by kernel_rfl)
theorem spec_NameOk.s (k : Nat) : CallOk Try.prog 128 (spec_NameOk.e k) := mkS (D := spec_NameOk.d) (k := k) sO [2] Try.func128 (spec_NameOk.a k) ⟨spec_NameOk_l2.s, trivial⟩ (by kernel_rfl) (by kernel_rfl) (fun x => by kernel_rfl)
def spec_StampOk.e (k : Nat) : Ent := ⟨1, [(.val true t12)], [(.one, .b)], fun x => spec_StampOk x⟩
def spec_StampOk.d : Fd := { nt := 16, nv := 1, nm := [0, 1], res := [2], cs := fun k => [(141, spec_l1In.e k)] }
theorem spec_StampOk.s (k : Nat) : CallOk Try.prog 140 (spec_StampOk.e k) := mkS (D := spec_StampOk.d) (k := k) sO [] Try.func140 ⟨spec_l1In.s k, trivial⟩ trivial (by kernel_rfl) (by kernel_rfl) (fun x => by kernel_rfl)
def spec_l11Row.e (k : Nat) : Ent := ⟨1, [(.val true t17)], [(.one, .b)], fun x => spec_l11Row k x⟩
def spec_l11Row.d : Fd := { nt := 26, nv := 1, nm := [0, 1], res := [2], cs := fun k => [(128, spec_NameOk.e k), (140, spec_StampOk.e k), (141, spec_l1In.e k)] }
theorem spec_l11Row.s (k : Nat) : CallOk Try.prog 76 (spec_l11Row.e k) := mkS (D := spec_l11Row.d) (k := k) sO [] Try.func76 ⟨spec_NameOk.s k, spec_StampOk.s k, spec_l1In.s k, trivial⟩ trivial (by kernel_rfl) (by kernel_rfl) (fun x => by kernel_rfl)
def spec_RowsOk.e (k : Nat) : Ent := ⟨1, [(.val false t21)], [(.one, .b)], fun x => spec_RowsOk k x⟩
def spec_RowsOk_l2.p : LF := ⟨⟨[], [(0, t21), (3, (.i .i64))]⟩, [(.ret, ⟨[], [(2, .b)]⟩), ((.exit 0), ⟨[], [(0, t21)]⟩)], fun k x => spec_RowsOk_l2 k x.1 x.2⟩
def spec_RowsOk.d : Fd := { nt := 37, nv := 1, nm := [0, 1, 3], res := [2], cs := fun k => [(76, spec_l11Row.e k)], ls := [(2, spec_RowsOk_l2.p)] }
theorem spec_RowsOk.a (k : Nat) : AllC Try.prog (spec_RowsOk.d.cs k) := ⟨spec_l11Row.s k, trivial⟩
theorem spec_RowsOk_l2.s : LK Try.prog Try.f25 spec_RowsOk.d 2 spec_RowsOk_l2.p := mkL sO [] (by kernel_rfl) spec_RowsOk.a trivial (by kernel_rfl) (fun _ => rfl) (fun k x => by kernel_rfl)
theorem spec_RowsOk.s (k : Nat) : CallOk Try.prog 25 (spec_RowsOk.e k) := mkS (D := spec_RowsOk.d) (k := k) sO [2] Try.func25 (spec_RowsOk.a k) ⟨spec_RowsOk_l2.s, trivial⟩ (by kernel_rfl) (by kernel_rfl) (fun x => by kernel_rfl)
def laws_FnMerged.e (k : Nat) : Ent := ⟨1, [(.val false t3)], [(.one, .b)], fun x => laws_FnMerged k x⟩
def laws_FnMerged.d : Fd := { nt := 74, nv := 1, nm := [0, 1, 3, 4, 5, 6, 7], res := [2], cs := fun k => [(15, laws_big.e k), (18, laws_sameRows.e k), (21, spec_DrawRows.e k), (22, spec_DrawMergeRows.e k), (23, impl_MergeRows.e k), (24, impl_RowsOk.e k), (25, spec_RowsOk.e k)], sh := true }
theorem laws_FnMerged.s (k : Nat) : CallOk Try.prog 4 (laws_FnMerged.e k) := mkS (D := laws_FnMerged.d) (k := k) sO [] Try.func4 ⟨laws_big.s k, laws_sameRows.s k, spec_DrawRows.s k, spec_DrawMergeRows.s k, impl_MergeRows.s k, impl_RowsOk.s k, spec_RowsOk.s k, trivial⟩ trivial (by kernel_rfl) (by kernel_rfl) (fun x => by kernel_rfl)
def laws_sameBytes.e (k : Nat) : Ent := ⟨2, [(.val false t3), (.val false t3)], [(.one, .b)], fun x => laws_sameBytes k x.1 x.2⟩
def laws_sameBytes_l4.p : LF := ⟨⟨[], [(0, t3), (1, t3), (5, (.i .i64))]⟩, [(.ret, ⟨[], [(4, .b)]⟩), ((.exit 0), ⟨[], []⟩)], fun k x => laws_sameBytes_l4 k x.1 x.2.1 x.2.2⟩
def laws_sameBytes.d : Fd := { nt := 26, nv := 2, nm := [0, 1, 2, 3, 5], res := [4], ls := [(4, laws_sameBytes_l4.p)] }
theorem laws_sameBytes_l4.s : LK Try.prog Try.f47 laws_sameBytes.d 4 laws_sameBytes_l4.p := mkL sO [] (by kernel_rfl) (fun _ => trivial) trivial (by kernel_rfl) (fun _ => rfl) (fun k x => by kernel_rfl)
theorem laws_sameBytes.s (k : Nat) : CallOk Try.prog 47 (laws_sameBytes.e k) := mkS (D := laws_sameBytes.d) (k := k) sO [4] Try.func47 trivial ⟨laws_sameBytes_l4.s, trivial⟩ (by kernel_rfl) (by kernel_rfl) (fun x => by kernel_rfl)
def spec_DrawPutRows.e (k : Nat) : Ent := ⟨1, [(.val false t3)], [(.one, t22)], fun x => spec_DrawPutRows k x⟩
def spec_DrawPutRows.d : Fd := { nt := 8, nv := 1, nm := [0, 1, 3], res := [2], cs := fun k => [(68, spec_l1New.e k), (69, spec_l11Any.e k)] }
theorem spec_DrawPutRows.s (k : Nat) : CallOk Try.prog 48 (spec_DrawPutRows.e k) := mkS (D := spec_DrawPutRows.d) (k := k) sO [] Try.func48 ⟨spec_l1New.s k, spec_l11Any.s k, trivial⟩ trivial (by kernel_rfl) (by kernel_rfl) (fun x => by kernel_rfl)
def impl_addNum.e (k : Nat) : Ent := ⟨2, [(.val false t4), (.val false (.i .i64))], [(.one, t4)], fun x => impl_addNum k x.1 x.2⟩
def impl_addNum_l2.p : LF := ⟨⟨[], [(0, t4), (1, (.i .i64))]⟩, [((.exit 0), ⟨[], [(0, t4), (1, (.i .i64))]⟩)], fun k x => impl_addNum_l2 k x.1 x.2⟩
def impl_addNum.d : Fd := { nt := 24, nv := 2, nm := [0, 1, 2, 3], res := [4], ls := [(2, impl_addNum_l2.p)] }
theorem impl_addNum_l2.s : LK Try.prog Try.f101 impl_addNum.d 2 impl_addNum_l2.p := mkL sO [] (by kernel_rfl) (fun _ => trivial) trivial (by kernel_rfl) (fun _ => rfl) (fun k x => by kernel_rfl)
theorem impl_addNum.s (k : Nat) : CallOk Try.prog 101 (impl_addNum.e k) := mkS (D := impl_addNum.d) (k := k) sO [2] Try.func101 trivial ⟨impl_addNum_l2.s, trivial⟩ (by kernel_rfl) (by kernel_rfl) (fun x => by kernel_rfl)
def impl_bit.e (k : Nat) : Ent := ⟨1, [(.val false .b)], [(.one, (.i .i64))], fun x => impl_bit x⟩
def impl_bit.d : Fd := { nt := 4, nv := 1, nm := [0, 1], res := [2] }
theorem impl_bit.s (k : Nat) : CallOk Try.prog 150 (impl_bit.e k) := mkS (D := impl_bit.d) (k := k) sO [] Try.func150 trivial trivial (by kernel_rfl) (by kernel_rfl) (fun x => by kernel_rfl)
def impl_addStamp.e (k : Nat) : Ent := ⟨3, [(.val false t4), (.val true t12), (.val false .b)], [(.one, t4)], fun x => impl_addStamp k x.1 x.2.1 x.2.2⟩
def impl_addStamp.d : Fd := { nt := 20, nv := 3, nm := [0, 1, 2, 3, 4, 5], res := [6], cs := fun k => [(101, impl_addNum.e k), (150, impl_bit.e k)] }
theorem impl_addStamp.s (k : Nat) : CallOk Try.prog 102 (impl_addStamp.e k) := mkS (D := impl_addStamp.d) (k := k) sO [] Try.func102 ⟨impl_addNum.s k, impl_bit.s k, trivial⟩ trivial (by kernel_rfl) (by kernel_rfl) (fun x => by kernel_rfl)
def impl_addText.e (k : Nat) : Ent := ⟨2, [(.val false t4), (.val false .s)], [(.one, t4)], fun x => impl_addText k x.1 x.2⟩
def impl_addText.d : Fd := { nt := 11, nv := 2, nm := [0, 1, 2, 3], res := [4], cs := fun k => [(101, impl_addNum.e k)] }
theorem impl_addText.s (k : Nat) : CallOk Try.prog 103 (impl_addText.e k) := mkS (D := impl_addText.d) (k := k) sO [] Try.func103 ⟨impl_addNum.s k, trivial⟩ trivial (by kernel_rfl) (by kernel_rfl) (fun x => by kernel_rfl)
def impl_PutRows.e (k : Nat) : Ent := ⟨1, [(.val false t21)], [(.one, t4)], fun x => impl_PutRows k x⟩
def impl_PutRows_l5.p : LF := ⟨⟨[], [(3, t4), (12, t21), (13, (.i .i64)), (14, (.i .i64))]⟩, [((.exit 0), ⟨[], [(3, t4)]⟩)], fun k x => impl_PutRows_l5 k x.1 x.2.1 x.2.2.1 x.2.2.2⟩
def impl_PutRows.d : Fd := { nt := 32, nv := 1, nm := [0, 1, 3, 4, 5], res := [2], cs := fun k => [(24, impl_RowsOk.e k), (101, impl_addNum.e k), (102, impl_addStamp.e k), (103, impl_addText.e k)], ls := [(5, impl_PutRows_l5.p)] }
theorem impl_PutRows.a (k : Nat) : AllC Try.prog (impl_PutRows.d.cs k) := ⟨impl_RowsOk.s k, impl_addNum.s k, impl_addStamp.s k, impl_addText.s k, trivial⟩
theorem impl_PutRows_l5.s : LK Try.prog Try.f49 impl_PutRows.d 5 impl_PutRows_l5.p := mkL sO [] (by kernel_rfl) impl_PutRows.a trivial (by kernel_rfl) (fun _ => rfl) (fun k x => by kernel_rfl)
theorem impl_PutRows.s (k : Nat) : CallOk Try.prog 49 (impl_PutRows.e k) := mkS (D := impl_PutRows.d) (k := k) sO [5] Try.func49 (impl_PutRows.a k) ⟨impl_PutRows_l5.s, trivial⟩ (by kernel_rfl) (by kernel_rfl) (fun x => by kernel_rfl)
def spec_PutNum.e (k : Nat) : Ent := ⟨2, [(.val false t3), (.val false (.i .i64))], [(.one, t4)], fun x => spec_PutNum k x.1 x.2⟩
def spec_PutNum_l6.p : LF := ⟨⟨[], [(1, (.i .i64)), (5, t4)]⟩, [((.exit 0), ⟨[], [(1, (.i .i64)), (5, t4)]⟩)], fun k x => spec_PutNum_l6 k x.1 x.2⟩
def spec_PutNum.d : Fd := { nt := 29, nv := 2, nm := [0, 1, 2, 3, 5], res := [4], ls := [(6, spec_PutNum_l6.p)] }
theorem spec_PutNum_l6.s : LK Try.prog Try.f151 spec_PutNum.d 6 spec_PutNum_l6.p := mkL sO [] (by kernel_rfl) (fun _ => trivial) trivial (by kernel_rfl) (fun _ => rfl) (fun k x => by kernel_rfl)
theorem spec_PutNum.s (k : Nat) : CallOk Try.prog 151 (spec_PutNum.e k) := mkS (D := spec_PutNum.d) (k := k) sO [6] Try.func151 trivial ⟨spec_PutNum_l6.s, trivial⟩ (by kernel_rfl) (by kernel_rfl) (fun x => by kernel_rfl)
def spec_l8Stamp.e (k : Nat) : Ent := ⟨2, [(.val false t3), (.val true t12)], [(.one, t4)], fun x => spec_l8Stamp k x.1 x.2⟩
def spec_l8Stamp.d : Fd := { nt := 15, nv := 2, nm := [0, 1, 2, 3], res := [4], cs := fun k => [(151, spec_PutNum.e k)] }
theorem spec_l8Stamp.s (k : Nat) : CallOk Try.prog 152 (spec_l8Stamp.e k) := mkS (D := spec_l8Stamp.d) (k := k) sO [] Try.func152 ⟨spec_PutNum.s k, trivial⟩ trivial (by kernel_rfl) (by kernel_rfl) (fun x => by kernel_rfl)
def spec_PutText.e (k : Nat) : Ent := ⟨2, [(.val false t3), (.val false .s)], [(.one, t4)], fun x => spec_PutText k x.1 x.2⟩
def spec_PutText.d : Fd := { nt := 11, nv := 2, nm := [0, 1, 2, 3], res := [4], cs := fun k => [(151, spec_PutNum.e k)] }
theorem spec_PutText.s (k : Nat) : CallOk Try.prog 153 (spec_PutText.e k) := mkS (D := spec_PutText.d) (k := k) sO [] Try.func153 ⟨spec_PutNum.s k, trivial⟩ trivial (by kernel_rfl) (by kernel_rfl) (fun x => by kernel_rfl)
def spec_l8Bool.e (k : Nat) : Ent := ⟨1, [(.val false .b)], [(.one, (.i .i64))], fun x => spec_l8Bool x⟩
def spec_l8Bool.d : Fd := { nt := 4, nv := 1, nm := [0, 1], res := [2] }
theorem spec_l8Bool.s (k : Nat) : CallOk Try.prog 154 (spec_l8Bool.e k) := mkS (D := spec_l8Bool.d) (k := k) sO [] Try.func154 trivial trivial (by kernel_rfl) (by kernel_rfl) (fun x => by kernel_rfl)
def spec_PutRows.e (k : Nat) : Ent := ⟨1, [(.val false t21)], [(.one, t4)], fun x => spec_PutRows k x⟩
def spec_PutRows_l5.p : LF := ⟨⟨[], [(0, t21), (3, t4), (4, (.i .i64))]⟩, [((.exit 0), ⟨[], [(3, t4)]⟩)], fun k x => spec_PutRows_l5 k x.1 x.2.1 x.2.2⟩
def spec_PutRows.d : Fd := { nt := 47, nv := 1, nm := [0, 1, 3, 4], res := [2], cs := fun k => [(25, spec_RowsOk.e k), (151, spec_PutNum.e k), (152, spec_l8Stamp.e k), (153, spec_PutText.e k), (154, spec_l8Bool.e k)], ls := [(5, spec_PutRows_l5.p)] }
theorem spec_PutRows.a (k : Nat) : AllC Try.prog (spec_PutRows.d.cs k) := ⟨spec_RowsOk.s k, spec_PutNum.s k, spec_l8Stamp.s k, spec_PutText.s k, spec_l8Bool.s k, trivial⟩
theorem spec_PutRows_l5.s : LK Try.prog Try.f104 spec_PutRows.d 5 spec_PutRows_l5.p := mkL sO [] (by kernel_rfl) spec_PutRows.a trivial (by kernel_rfl) (fun _ => rfl) (fun k x => by kernel_rfl)
theorem spec_PutRows.s (k : Nat) : CallOk Try.prog 104 (spec_PutRows.e k) := mkS (D := spec_PutRows.d) (k := k) sO [5] Try.func104 (spec_PutRows.a k) ⟨spec_PutRows_l5.s, trivial⟩ (by kernel_rfl) (by kernel_rfl) (fun x => by kernel_rfl)
def spec_DrawGetRows.e (k : Nat) : Ent := ⟨1, [(.val false t3)], [(.one, t3)], fun x => spec_DrawGetRows k x⟩
def spec_DrawGetRows.d : Fd := { nt := 33, nv := 1, nm := [0, 1, 3, 4], res := [2], cs := fun k => [(68, spec_l1New.e k), (74, spec_l11Draw.e k), (104, spec_PutRows.e k), (105, spec_l1Below.e k), (106, spec_l1Int.e k)] }
theorem spec_DrawGetRows.s (k : Nat) : CallOk Try.prog 50 (spec_DrawGetRows.e k) := mkS (D := spec_DrawGetRows.d) (k := k) sO [] Try.func50 ⟨spec_l1New.s k, spec_l11Draw.s k, spec_PutRows.s k, spec_l1Below.s k, spec_l1Int.s k, trivial⟩ trivial (by kernel_rfl) (by kernel_rfl) (fun x => by kernel_rfl)
def impl_GetNum.e (k : Nat) : Ent := ⟨2, [(.val false t3), (.val false (.i .i64))], [(.one, (.i .i64)), (.one, (.i .i64)), (.one, .b)], fun x => impl_GetNum k x.1 x.2⟩
def impl_GetNum_l3.p : LF := ⟨⟨[], [(0, t3), (1, (.i .i64)), (7, (.i .i64)), (8, (.i .i64))]⟩, [(.ret, ⟨[], [(4, (.i .i64)), (5, (.i .i64)), (6, .b)]⟩), ((.exit 0), ⟨[], []⟩)], fun k x => impl_GetNum_l3 k x.1 x.2.1 x.2.2.1 x.2.2.2⟩
def impl_GetNum.d : Fd := { nt := 57, nv := 2, nm := [0, 1, 2, 3, 7, 8, 9], res := [4, 5, 6], ls := [(3, impl_GetNum_l3.p)] }
theorem impl_GetNum_l3.s : LK Try.prog Try.f156 impl_GetNum.d 3 impl_GetNum_l3.p := mkL sO [] (by kernel_rfl) (fun _ => trivial) trivial (by kernel_rfl) (fun _ => rfl) (fun k x => by kernel_rfl)
theorem impl_GetNum.s (k : Nat) : CallOk Try.prog 156 (impl_GetNum.e k) := mkS (D := impl_GetNum.d) (k := k) sO [3] Try.func156 trivial ⟨impl_GetNum_l3.s, trivial⟩ (by kernel_rfl) (by kernel_rfl) (fun x => by kernel_rfl)
def impl_reader_num.e (k : Nat) : Ent := ⟨1, [(.ptr t13 t13)], [(.one, (.i .i64))], fun x => impl_reader_num k x⟩
def impl_reader_num.d : Fd := { nt := 35, nv := 1, nm := [0, 1, 3, 4, 5], res := [2], cs := fun k => [(156, impl_GetNum.e k)] }
theorem impl_reader_num.s (k : Nat) : CallOk Try.prog 107 (impl_reader_num.e k) := mkS (D := impl_reader_num.d) (k := k) sO [] Try.func107 ⟨impl_GetNum.s k, trivial⟩ trivial (by kernel_rfl) (by kernel_rfl) (fun x => by kernel_rfl)
def impl_GetText.e (k : Nat) : Ent := ⟨2, [(.val false t3), (.val false (.i .i64))], [(.one, .s), (.one, (.i .i64)), (.one, .b)], fun x => impl_GetText k x.1 x.2⟩
def impl_GetText.d : Fd := { nt := 37, nv := 2, nm := [0, 1, 2, 3, 7, 8, 9], res := [4, 5, 6], cs := fun k => [(156, impl_GetNum.e k)] }
theorem impl_GetText.s (k : Nat) : CallOk Try.prog 157 (impl_GetText.e k) := mkS (D := impl_GetText.d) (k := k) sO [] Try.func157 ⟨impl_GetNum.s k, trivial⟩ trivial (by kernel_rfl) (by kernel_rfl) (fun x => by kernel_rfl)
def impl_reader_text.e (k : Nat) : Ent := ⟨1, [(.ptr t13 t13)], [(.one, .s)], fun x => impl_reader_text k x⟩
def impl_reader_text.d : Fd := { nt := 35, nv := 1, nm := [0, 1, 3, 4, 5], res := [2], cs := fun k => [(157, impl_GetText.e k)] }
theorem impl_reader_text.s (k : Nat) : CallOk Try.prog 108 (impl_reader_text.e k) := mkS (D := impl_reader_text.d) (k := k) sO [] Try.func108 ⟨impl_GetText.s k, trivial⟩ trivial (by kernel_rfl) (by kernel_rfl) (fun x => by kernel_rfl)
def impl_reader_stamp.e (k : Nat) : Ent := ⟨1, [(.ptr t13 t13)], [(.agg, t12), (.one, .b)], fun x => impl_reader_stamp k x⟩
def impl_reader_stamp.d : Fd := { nt := 31, nv := 1, nm := [0, 1, 4, 5], res := [3], cs := fun k => [(107, impl_reader_num.e k)] }
theorem impl_reader_stamp.s (k : Nat) : CallOk Try.prog 109 (impl_reader_stamp.e k) := mkS (D := impl_reader_stamp.d) (k := k) sO [] Try.func109 ⟨impl_reader_num.s k, trivial⟩ trivial (by kernel_rfl) (by kernel_rfl) (fun x => by kernel_rfl)
def impl_GetRows.e (k : Nat) : Ent := ⟨1, [(.val false t3)], [(.one, t22), (.one, .b)], fun x => impl_GetRows k x⟩
def impl_GetRows_l5.p : LF := ⟨⟨[(4, (.bp 11 0 0)), (12999, (.hd 3))], [(0, t3), (5, (.i .i64)), (6, t22), (7, (.i .i64)), (12000, t3), (12001, (.i .i64)), (12002, .b)]⟩, [((.exit 0), ⟨[(4, (.bp 11 0 0)), (12999, (.hd 3))], [(0, t3), (6, t22), (12000, t3), (12001, (.i .i64)), (12002, .b)]⟩)], fun k x => impl_GetRows_l5 k x.1 x.2.1 x.2.2.1 x.2.2.2.1 x.2.2.2.2.1 x.2.2.2.2.2.1 x.2.2.2.2.2.2⟩
def impl_GetRows.d : Fd := { nt := 62, nv := 1, nm := [0, 1, 4, 5, 6, 7, 8], res := [2, 3], cs := fun k => [(24, impl_RowsOk.e k), (107, impl_reader_num.e k), (108, impl_reader_text.e k), (109, impl_reader_stamp.e k)], ls := [(5, impl_GetRows_l5.p)] }
theorem impl_GetRows.a (k : Nat) : AllC Try.prog (impl_GetRows.d.cs k) := ⟨impl_RowsOk.s k, impl_reader_num.s k, impl_reader_text.s k, impl_reader_stamp.s k, trivial⟩
theorem impl_GetRows_l5.s : LK Try.prog Try.f51 impl_GetRows.d 5 impl_GetRows_l5.p := mkL sO [] (by kernel_rfl) impl_GetRows.a trivial (by kernel_rfl) (fun _ => rfl) (fun k x => by kernel_rfl)
theorem impl_GetRows.s (k : Nat) : CallOk Try.prog 51 (impl_GetRows.e k) := mkS (D := impl_GetRows.d) (k := k) sO [5] Try.func51 (impl_GetRows.a k) ⟨impl_GetRows_l5.s, trivial⟩ (by kernel_rfl) (by kernel_rfl) (fun x => by kernel_rfl)
def spec_GetNum.e (k : Nat) : Ent := ⟨2, [(.val false t3), (.val false (.i .i64))], [(.one, (.i .i64)), (.one, (.i .i64)), (.one, .b)], fun x => spec_GetNum k x.1 x.2⟩
def spec_GetNum_l3.p : LF := ⟨⟨[], [(0, t3), (1, (.i .i64)), (7, (.i .i64)), (8, (.i .i64))]⟩, [(.ret, ⟨[], [(4, (.i .i64)), (5, (.i .i64)), (6, .b)]⟩), ((.exit 0), ⟨[], []⟩)], fun k x => spec_GetNum_l3 k x.1 x.2.1 x.2.2.1 x.2.2.2⟩
def spec_GetNum.d : Fd := { nt := 64, nv := 2, nm := [0, 1, 2, 3, 7, 8, 9], res := [4, 5, 6], ls := [(3, spec_GetNum_l3.p)] }
theorem spec_GetNum_l3.s : LK Try.prog Try.f110 spec_GetNum.d 3 spec_GetNum_l3.p := mkL sO [] (by kernel_rfl) (fun _ => trivial) trivial (by kernel_rfl) (fun _ => rfl) (fun k x => by kernel_rfl)
theorem spec_GetNum.s (k : Nat) : CallOk Try.prog 110 (spec_GetNum.e k) := mkS (D := spec_GetNum.d) (k := k) sO [3] Try.func110 trivial ⟨spec_GetNum_l3.s, trivial⟩ (by kernel_rfl) (by kernel_rfl) (fun x => by kernel_rfl)
def spec_GetText.e (k : Nat) : Ent := ⟨2, [(.val false t3), (.val false (.i .i64))], [(.one, .s), (.one, (.i .i64)), (.one, .b)], fun x => spec_GetText k x.1 x.2⟩
def spec_GetText.d : Fd := { nt := 37, nv := 2, nm := [0, 1, 2, 3, 7, 8, 9], res := [4, 5, 6], cs := fun k => [(110, spec_GetNum.e k)] }
theorem spec_GetText.s (k : Nat) : CallOk Try.prog 111 (spec_GetText.e k) := mkS (D := spec_GetText.d) (k := k) sO [] Try.func111 ⟨spec_GetNum.s k, trivial⟩ trivial (by kernel_rfl) (by kernel_rfl) (fun x => by kernel_rfl)
def spec_l8GetStamp.e (k : Nat) : Ent := ⟨2, [(.val false t3), (.val false (.i .i64))], [(.agg, t12), (.one, (.i .i64)), (.one, .b)], fun x => spec_l8GetStamp k x.1 x.2⟩
def spec_l8GetStamp.d : Fd := { nt := 49, nv := 2, nm := [0, 1, 2, 3, 7, 8, 9, 10, 11, 12, 13, 14, 15], res := [5, 6], cs := fun k => [(110, spec_GetNum.e k)] }
theorem spec_l8GetStamp.s (k : Nat) : CallOk Try.prog 112 (spec_l8GetStamp.e k) := mkS (D := spec_l8GetStamp.d) (k := k) sO [] Try.func112 ⟨spec_GetNum.s k, trivial⟩ trivial (by kernel_rfl) (by kernel_rfl) (fun x => by kernel_rfl)
def spec_GetRows.e (k : Nat) : Ent := ⟨1, [(.val false t3)], [(.one, t22), (.one, .b)], fun x => spec_GetRows k x⟩
def spec_GetRows_l7.p : LF := ⟨⟨[], [(0, t3), (4, t22), (5, (.i .i64)), (6, (.i .i64)), (8, t22), (9, (.i .i64))]⟩, [(.ret, ⟨[], [(2, t22), (3, .b)]⟩), ((.exit 0), ⟨[], [(0, t3), (4, t22), (6, (.i .i64)), (8, t22)]⟩)], fun k x => spec_GetRows_l7 k x.1 x.2.1 x.2.2.1 x.2.2.2.1 x.2.2.2.2.1 x.2.2.2.2.2⟩
def spec_GetRows.d : Fd := { nt := 110, nv := 1, nm := [0, 1, 4, 5, 6, 7, 8, 9, 10, 11, 12, 13, 14, 15, 16, 17, 18, 19, 20, 21], res := [2, 3], cs := fun k => [(25, spec_RowsOk.e k), (110, spec_GetNum.e k), (111, spec_GetText.e k), (112, spec_l8GetStamp.e k)], ls := [(7, spec_GetRows_l7.p)] }
theorem spec_GetRows.a (k : Nat) : AllC Try.prog (spec_GetRows.d.cs k) := ⟨spec_RowsOk.s k, spec_GetNum.s k, spec_GetText.s k, spec_l8GetStamp.s k, trivial⟩
theorem spec_GetRows_l7.s : LK Try.prog Try.f52 spec_GetRows.d 7 spec_GetRows_l7.p := mkL sO [] (by kernel_rfl) spec_GetRows.a trivial (by kernel_rfl) (fun _ => rfl) (fun k x => by kernel_rfl)
theorem spec_GetRows.s (k : Nat) : CallOk Try.prog 52 (spec_GetRows.e k) := mkS (D := spec_GetRows.d) (k := k) sO [7] Try.func52 (spec_GetRows.a k) ⟨spec_GetRows_l7.s, trivial⟩ (by kernel_rfl) (by kernel_rfl) (fun x => by kernel_rfl)
def laws_FnRowBytes.e (k : Nat) : Ent := ⟨1, [(.val false t3)], [(.one, .b)], fun x => laws_FnRowBytes k x⟩
def laws_FnRowBytes.d : Fd := { nt := 60, nv := 1, nm := [0, 1, 3, 4, 5, 6, 7, 8, 9, 10, 11], res := [2], cs := fun k => [(15, laws_big.e k), (18, laws_sameRows.e k), (25, spec_RowsOk.e k), (47, laws_sameBytes.e k), (48, spec_DrawPutRows.e k), (49, impl_PutRows.e k), (50, spec_DrawGetRows.e k), (51, impl_GetRows.e k), (52, spec_GetRows.e k)], sh := true }
theorem laws_FnRowBytes.s (k : Nat) : CallOk Try.prog 9 (laws_FnRowBytes.e k) := mkS (D := laws_FnRowBytes.d) (k := k) sO [] Try.func9 ⟨laws_big.s k, laws_sameRows.s k, spec_RowsOk.s k, laws_sameBytes.s k, spec_DrawPutRows.s k, impl_PutRows.s k, spec_DrawGetRows.s k, impl_GetRows.s k, spec_GetRows.s k, trivial⟩ trivial (by kernel_rfl) (by kernel_rfl) (fun x => by kernel_rfl)
def impl_namedOk.e (k : Nat) : Ent := ⟨1, [(.val false t9)], [(.one, .b)], fun x => impl_namedOk k x⟩
def impl_namedOk_l2.p : LF := ⟨⟨[], [(0, t9), (5, t9), (6, (.i .i64)), (7, (.i .i64))]⟩, [(.ret, ⟨[], [(2, .b)]⟩), ((.exit 0), ⟨[], [(0, t9)]⟩)], fun k x => impl_namedOk_l2 k x.1 x.2.1 x.2.2.1 x.2.2.2⟩
def impl_namedOk.d : Fd := { nt := 41, nv := 1, nm := [0, 1, 3, 4], res := [2], cs := fun k => [(83, impl_NameOk.e k)], ls := [(2, impl_namedOk_l2.p)] }
theorem impl_namedOk.a (k : Nat) : AllC Try.prog (impl_namedOk.d.cs k) := ⟨impl_NameOk.s k, trivial⟩
theorem impl_namedOk_l2.s : LK Try.prog Try.f97 impl_namedOk.d 2 impl_namedOk_l2.p := mkL sO [] (by kernel_rfl) impl_namedOk.a trivial (by kernel_rfl) (fun _ => rfl) (fun k x => by kernel_rfl)
theorem impl_namedOk.s (k : Nat) : CallOk Try.prog 97 (impl_namedOk.e k) := mkS (D := impl_namedOk.d) (k := k) sO [2] Try.func97 (impl_namedOk.a k) ⟨impl_namedOk_l2.s, trivial⟩ (by kernel_rfl) (by kernel_rfl) (fun x => by kernel_rfl)
def impl_DiskOk.e (k : Nat) : Ent := ⟨1, [(.val true t18)], [(.one, .b)], fun x => impl_DiskOk k x⟩
def impl_DiskOk.d : Fd := { nt := 11, nv := 1, nm := [0, 1], res := [2], cs := fun k => [(97, impl_namedOk.e k)] }
theorem impl_DiskOk.s (k : Nat) : CallOk Try.prog 44 (impl_DiskOk.e k) := mkS (D := impl_DiskOk.d) (k := k) sO [] Try.func44 ⟨impl_namedOk.s k, trivial⟩ trivial (by kernel_rfl) (by kernel_rfl) (fun x => by kernel_rfl)
def impl_copyBytes.e (k : Nat) : Ent := ⟨1, [(.val false t3)], [(.one, t4)], fun x => impl_copyBytes x⟩
def impl_copyBytes.d : Fd := { nt := 5, nv := 1, nm := [0, 1], res := [2] }
theorem impl_copyBytes.s (k : Nat) : CallOk Try.prog 86 (impl_copyBytes.e k) := mkS (D := impl_copyBytes.d) (k := k) sO [] Try.func86 trivial trivial (by kernel_rfl) (by kernel_rfl) (fun x => by kernel_rfl)
def impl_copyNamed.e (k : Nat) : Ent := ⟨1, [(.val false t9)], [(.one, t10)], fun x => impl_copyNamed k x⟩
def impl_copyNamed_l3.p : LF := ⟨⟨[], [(3, t10), (6, t9), (7, (.i .i64)), (8, (.i .i64))]⟩, [((.exit 0), ⟨[], [(3, t10)]⟩)], fun k x => impl_copyNamed_l3 k x.1 x.2.1 x.2.2.1 x.2.2.2⟩
def impl_copyNamed.d : Fd := { nt := 23, nv := 1, nm := [0, 1, 3, 4, 5], res := [2], cs := fun k => [(86, impl_copyBytes.e k)], ls := [(3, impl_copyNamed_l3.p)] }
theorem impl_copyNamed.a (k : Nat) : AllC Try.prog (impl_copyNamed.d.cs k) := ⟨impl_copyBytes.s k, trivial⟩
theorem impl_copyNamed_l3.s : LK Try.prog Try.f96 impl_copyNamed.d 3 impl_copyNamed_l3.p := mkL sO [] (by kernel_rfl) impl_copyNamed.a trivial (by kernel_rfl) (fun _ => rfl) (fun k x => by kernel_rfl)
theorem impl_copyNamed.s (k : Nat) : CallOk Try.prog 96 (impl_copyNamed.e k) := mkS (D := impl_copyNamed.d) (k := k) sO [3] Try.func96 (impl_copyNamed.a k) ⟨impl_copyNamed_l3.s, trivial⟩ (by kernel_rfl) (by kernel_rfl) (fun x => by kernel_rfl)
def impl_copyDisk.e (k : Nat) : Ent := ⟨1, [(.val true t18)], [(.agg, t19)], fun x => impl_copyDisk k x⟩
def impl_copyDisk.d : Fd := { nt := 10, nv := 1, nm := [0, 1], res := [], cs := fun k => [(96, impl_copyNamed.e k)] }
theorem impl_copyDisk.s (k : Nat) : CallOk Try.prog 82 (impl_copyDisk.e k) := mkS (D := impl_copyDisk.d) (k := k) sO [] Try.func82 ⟨impl_copyNamed.s k, trivial⟩ trivial (by kernel_rfl) (by kernel_rfl) (fun x => by kernel_rfl)
def impl_put.e (k : Nat) : Ent := ⟨2, [(.val false t9), (.val true t8)], [(.one, t10)], fun x => impl_put k x.1 x.2⟩
def impl_put_l2.p : LF := ⟨⟨[(3, (.bp 3 0 0)), (4999, (.hd 2))], [(0, t9), (5, (.i .i64)), (4000, .s), (4001, t3)]⟩, [((.exit 0), ⟨[(3, (.bp 3 0 0)), (4999, (.hd 2))], [(0, t9), (5, (.i .i64)), (4000, .s), (4001, t3)]⟩)], fun k x => impl_put_l2 k x.1 x.2.1 x.2.2.1 x.2.2.2⟩
def impl_put.d : Fd := { nt := 33, nv := 2, nm := [0, 1, 2, 3, 5], res := [4], ls := [(2, impl_put_l2.p)] }
theorem impl_put_l2.s : LK Try.prog Try.f84 impl_put.d 2 impl_put_l2.p := mkL sO [] (by kernel_rfl) (fun _ => trivial) trivial (by kernel_rfl) (fun _ => rfl) (fun k x => by kernel_rfl)
theorem impl_put.s (k : Nat) : CallOk Try.prog 84 (impl_put.e k) := mkS (D := impl_put.d) (k := k) sO [2] Try.func84 trivial ⟨impl_put_l2.s, trivial⟩ (by kernel_rfl) (by kernel_rfl) (fun x => by kernel_rfl)
def impl_at.e (k : Nat) : Ent := ⟨2, [(.val false t9), (.val false .s)], [(.one, (.i .i64))], fun x => impl_at k x.1 x.2⟩
def impl_at_l2.p : LF := ⟨⟨[], [(1, .s), (7, t9), (8, (.i .i64)), (9, (.i .i64))]⟩, [(.ret, ⟨[], [(4, (.i .i64))]⟩), ((.exit 0), ⟨[], []⟩)], fun k x => impl_at_l2 k x.1 x.2.1 x.2.2.1 x.2.2.2⟩
def impl_at.d : Fd := { nt := 20, nv := 2, nm := [0, 1, 2, 3, 5, 6], res := [4], ls := [(2, impl_at_l2.p)] }
theorem impl_at_l2.s : LK Try.prog Try.f92 impl_at.d 2 impl_at_l2.p := mkL sO [] (by kernel_rfl) (fun _ => trivial) trivial (by kernel_rfl) (fun _ => rfl) (fun k x => by kernel_rfl)
theorem impl_at.s (k : Nat) : CallOk Try.prog 92 (impl_at.e k) := mkS (D := impl_at.d) (k := k) sO [2] Try.func92 trivial ⟨impl_at_l2.s, trivial⟩ (by kernel_rfl) (by kernel_rfl) (fun x => by kernel_rfl)
def impl_drop.e (k : Nat) : Ent := ⟨2, [(.val false t9), (.val false .s)], [(.one, t9)], fun x => impl_drop k x.1 x.2⟩
def impl_drop.d : Fd := { nt := 21, nv := 2, nm := [0, 1, 2, 3, 5], res := [4], cs := fun k => [(92, impl_at.e k)] }
theorem impl_drop.s (k : Nat) : CallOk Try.prog 85 (impl_drop.e k) := mkS (D := impl_drop.d) (k := k) sO [] Try.func85 ⟨impl_at.s k, trivial⟩ trivial (by kernel_rfl) (by kernel_rfl) (fun x => by kernel_rfl)
def impl_SyncName.e (k : Nat) : Ent := ⟨2, [(.val true t18), (.val false .s)], [(.agg, (.pr t10 t9)), (.one, .b)], fun x => impl_SyncName k x.1 x.2⟩
def impl_SyncName.d : Fd := { nt := 50, nv := 2, nm := [0, 1, 2, 3, 6, 7], res := [5], cs := fun k => [(44, impl_DiskOk.e k), (82, impl_copyDisk.e k), (83, impl_NameOk.e k), (84, impl_put.e k), (85, impl_drop.e k), (86, impl_copyBytes.e k), (92, impl_at.e k)], mv := [18, 49] }
theorem impl_SyncName.s (k : Nat) : CallOk Try.prog 37 (impl_SyncName.e k) := mkS (D := impl_SyncName.d) (k := k) sO [] Try.func37 ⟨impl_DiskOk.s k, impl_copyDisk.s k, impl_NameOk.s k, impl_put.s k, impl_drop.s k, impl_copyBytes.s k, impl_at.s k, trivial⟩ trivial (by kernel_rfl) (by kernel_rfl) (fun x => by kernel_rfl)
def spec_l3Any.e (k : Nat) : Ent := ⟨1, [(.ptr t14 t14)], [(.one, .s)], fun x => spec_l3Any x⟩
def spec_l3Any.d : Fd := { nt := 10, nv := 1, nm := [0, 1], res := [2], cs := fun k => [(114, spec_l1Once.e k), (136, spec_l3Name.e k), (149, spec_l1Str.e k)] }
theorem spec_l3Any.s (k : Nat) : CallOk Try.prog 99 (spec_l3Any.e k) := mkS (D := spec_l3Any.d) (k := k) sO [] Try.func99 ⟨spec_l1Once.s k, spec_l3Name.s k, spec_l1Str.s k, trivial⟩ trivial (by kernel_rfl) (by kernel_rfl) (fun x => by kernel_rfl)
def spec_l9CopyList.e (k : Nat) : Ent := ⟨1, [(.val false t9)], [(.one, t10)], fun x => spec_l9CopyList k x⟩
def spec_l9CopyList_l3.p : LF := ⟨⟨[], [(0, t9), (3, t10), (4, (.i .i64))]⟩, [((.exit 0), ⟨[], [(3, t10)]⟩)], fun k x => spec_l9CopyList_l3 k x.1 x.2.1 x.2.2⟩
def spec_l9CopyList.d : Fd := { nt := 29, nv := 1, nm := [0, 1, 3, 4], res := [2], ls := [(3, spec_l9CopyList_l3.p)] }
theorem spec_l9CopyList_l3.s : LK Try.prog Try.f143 spec_l9CopyList.d 3 spec_l9CopyList_l3.p := mkL sO [] (by kernel_rfl) (fun _ => trivial) trivial (by kernel_rfl) (fun _ => rfl) (fun k x => by kernel_rfl)
theorem spec_l9CopyList.s (k : Nat) : CallOk Try.prog 143 (spec_l9CopyList.e k) := mkS (D := spec_l9CopyList.d) (k := k) sO [3] Try.func143 trivial ⟨spec_l9CopyList_l3.s, trivial⟩ (by kernel_rfl) (by kernel_rfl) (fun x => by kernel_rfl)
def spec_l9Copy.e (k : Nat) : Ent := ⟨1, [(.val true t18)], [(.agg, t19)], fun x => spec_l9Copy k x⟩
def spec_l9Copy.d : Fd := { nt := 10, nv := 1, nm := [0, 1], res := [], cs := fun k => [(143, spec_l9CopyList.e k)] }
theorem spec_l9Copy.s (k : Nat) : CallOk Try.prog 78 (spec_l9Copy.e k) := mkS (D := spec_l9Copy.d) (k := k) sO [] Try.func78 ⟨spec_l9CopyList.s k, trivial⟩ trivial (by kernel_rfl) (by kernel_rfl) (fun x => by kernel_rfl)
def spec_l9Put.e (k : Nat) : Ent := ⟨3, [(.val false t9), (.val false .s), (.val false t3)], [(.one, t10)], fun x => spec_l9Put k x.1 x.2.1 x.2.2⟩
def spec_l9Put_l5.p : LF := ⟨⟨[(9, (.bp 9 0 0)), (10999, (.hd 2))], [(0, t9), (1, .s), (7, t10), (8, .b), (10, (.i .i64)), (10000, .s), (10001, t3)]⟩, [((.exit 0), ⟨[(9, (.bp 9 0 0)), (10999, (.hd 2))], [(7, t10), (8, .b), (10000, .s), (10001, t3)]⟩)], fun k x => spec_l9Put_l5 k x.1 x.2.1 x.2.2.1 x.2.2.2.1 x.2.2.2.2.1 x.2.2.2.2.2.1 x.2.2.2.2.2.2⟩
def spec_l9Put.d : Fd := { nt := 59, nv := 3, nm := [0, 1, 2, 3, 4, 5, 7, 8, 9, 10], res := [6], ls := [(5, spec_l9Put_l5.p)] }
theorem spec_l9Put_l5.s : LK Try.prog Try.f79 spec_l9Put.d 5 spec_l9Put_l5.p := mkL sO [] (by kernel_rfl) (fun _ => trivial) trivial (by kernel_rfl) (fun _ => rfl) (fun k x => by kernel_rfl)
theorem spec_l9Put.s (k : Nat) : CallOk Try.prog 79 (spec_l9Put.e k) := mkS (D := spec_l9Put.d) (k := k) sO [5] Try.func79 trivial ⟨spec_l9Put_l5.s, trivial⟩ (by kernel_rfl) (by kernel_rfl) (fun x => by kernel_rfl)
def spec_l9List.e (k : Nat) : Ent := ⟨1, [(.val false t9)], [(.one, .b)], fun x => spec_l9List k x⟩
def spec_l9List_l2.p : LF := ⟨⟨[], [(0, t9), (3, (.i .i64))]⟩, [(.ret, ⟨[], [(2, .b)]⟩), ((.exit 0), ⟨[], [(0, t9)]⟩)], fun k x => spec_l9List_l2 k x.1 x.2⟩
def spec_l9List.d : Fd := { nt := 47, nv := 1, nm := [0, 1, 3], res := [2], cs := fun k => [(128, spec_NameOk.e k)], ls := [(2, spec_l9List_l2.p)] }
theorem spec_l9List.a (k : Nat) : AllC Try.prog (spec_l9List.d.cs k) := ⟨spec_NameOk.s k, trivial⟩
theorem spec_l9List_l2.s : LK Try.prog Try.f165 spec_l9List.d 2 spec_l9List_l2.p := mkL sO [] (by kernel_rfl) spec_l9List.a trivial (by kernel_rfl) (fun _ => rfl) (fun k x => by kernel_rfl)
theorem spec_l9List.s (k : Nat) : CallOk Try.prog 165 (spec_l9List.e k) := mkS (D := spec_l9List.d) (k := k) sO [2] Try.func165 (spec_l9List.a k) ⟨spec_l9List_l2.s, trivial⟩ (by kernel_rfl) (by kernel_rfl) (fun x => by kernel_rfl)
def spec_DiskOk.e (k : Nat) : Ent := ⟨1, [(.val true t18)], [(.one, .b)], fun x => spec_DiskOk k x⟩
def spec_DiskOk.d : Fd := { nt := 11, nv := 1, nm := [0, 1], res := [2], cs := fun k => [(165, spec_l9List.e k)] }
theorem spec_DiskOk.s (k : Nat) : CallOk Try.prog 127 (spec_DiskOk.e k) := mkS (D := spec_DiskOk.d) (k := k) sO [] Try.func127 ⟨spec_l9List.s k, trivial⟩ trivial (by kernel_rfl) (by kernel_rfl) (fun x => by kernel_rfl)
def spec_l9Ends.e (k : Nat) : Ent := ⟨3, [(.val true t18), (.val true t19), (.val false .s)], [(.agg, t19), (.one, .b)], fun x => spec_l9Ends k x.1 x.2.1 x.2.2⟩
def spec_l9Ends.d : Fd := { nt := 24, nv := 3, nm := [0, 1, 2, 3, 4, 5], res := [7], cs := fun k => [(78, spec_l9Copy.e k), (127, spec_DiskOk.e k), (128, spec_NameOk.e k)], mv := [23] }
theorem spec_l9Ends.s (k : Nat) : CallOk Try.prog 80 (spec_l9Ends.e k) := mkS (D := spec_l9Ends.d) (k := k) sO [] Try.func80 ⟨spec_l9Copy.s k, spec_DiskOk.s k, spec_NameOk.s k, trivial⟩ trivial (by kernel_rfl) (by kernel_rfl) (fun x => by kernel_rfl)
def spec_WriteName.e (k : Nat) : Ent := ⟨3, [(.val true t18), (.val false .s), (.val false t3)], [(.agg, t19), (.one, .b)], fun x => spec_WriteName k x.1 x.2.1 x.2.2⟩
def spec_WriteName.d : Fd := { nt := 23, nv := 3, nm := [0, 1, 2, 3, 4, 5, 8], res := [7], cs := fun k => [(78, spec_l9Copy.e k), (79, spec_l9Put.e k), (80, spec_l9Ends.e k)] }
theorem spec_WriteName.s (k : Nat) : CallOk Try.prog 27 (spec_WriteName.e k) := mkS (D := spec_WriteName.d) (k := k) sO [] Try.func27 ⟨spec_l9Copy.s k, spec_l9Put.s k, spec_l9Ends.s k, trivial⟩ trivial (by kernel_rfl) (by kernel_rfl) (fun x => by kernel_rfl)
def spec_l9At.e (k : Nat) : Ent := ⟨2, [(.val false t9), (.val false .s)], [(.one, (.i .i64))], fun x => spec_l9At k x.1 x.2⟩
def spec_l9At_l2.p : LF := ⟨⟨[], [(0, t9), (1, .s), (5, (.i .i64))]⟩, [(.ret, ⟨[], [(4, (.i .i64))]⟩), ((.exit 0), ⟨[], []⟩)], fun k x => spec_l9At_l2 k x.1 x.2.1 x.2.2⟩
def spec_l9At.d : Fd := { nt := 20, nv := 2, nm := [0, 1, 2, 3, 5], res := [4], ls := [(2, spec_l9At_l2.p)] }
theorem spec_l9At_l2.s : LK Try.prog Try.f94 spec_l9At.d 2 spec_l9At_l2.p := mkL sO [] (by kernel_rfl) (fun _ => trivial) trivial (by kernel_rfl) (fun _ => rfl) (fun k x => by kernel_rfl)
theorem spec_l9At.s (k : Nat) : CallOk Try.prog 94 (spec_l9At.e k) := mkS (D := spec_l9At.d) (k := k) sO [2] Try.func94 trivial ⟨spec_l9At_l2.s, trivial⟩ (by kernel_rfl) (by kernel_rfl) (fun x => by kernel_rfl)
def spec_ReadName.e (k : Nat) : Ent := ⟨2, [(.val true t18), (.val false .s)], [(.one, t4), (.one, .b)], fun x => spec_ReadName k x.1 x.2⟩
def spec_ReadName.d : Fd := { nt := 22, nv := 2, nm := [0, 1, 2, 3, 6], res := [4, 5], cs := fun k => [(94, spec_l9At.e k)] }
theorem spec_ReadName.s (k : Nat) : CallOk Try.prog 90 (spec_ReadName.e k) := mkS (D := spec_ReadName.d) (k := k) sO [] Try.func90 ⟨spec_l9At.s k, trivial⟩ trivial (by kernel_rfl) (by kernel_rfl) (fun x => by kernel_rfl)
def spec_l9Cut.e (k : Nat) : Ent := ⟨2, [(.val false t9), (.val false .s)], [(.one, t10)], fun x => spec_l9Cut k x.1 x.2⟩
def spec_l9Cut_l3.p : LF := ⟨⟨[], [(0, t9), (1, .s), (5, t10), (6, (.i .i64))]⟩, [((.exit 0), ⟨[], [(5, t10)]⟩)], fun k x => spec_l9Cut_l3 k x.1 x.2.1 x.2.2.1 x.2.2.2⟩
def spec_l9Cut.d : Fd := { nt := 29, nv := 2, nm := [0, 1, 2, 3, 5, 6], res := [4], ls := [(3, spec_l9Cut_l3.p)] }
theorem spec_l9Cut_l3.s : LK Try.prog Try.f91 spec_l9Cut.d 3 spec_l9Cut_l3.p := mkL sO [] (by kernel_rfl) (fun _ => trivial) trivial (by kernel_rfl) (fun _ => rfl) (fun k x => by kernel_rfl)
theorem spec_l9Cut.s (k : Nat) : CallOk Try.prog 91 (spec_l9Cut.e k) := mkS (D := spec_l9Cut.d) (k := k) sO [3] Try.func91 trivial ⟨spec_l9Cut_l3.s, trivial⟩ (by kernel_rfl) (by kernel_rfl) (fun x => by kernel_rfl)
def spec_SyncName.e (k : Nat) : Ent := ⟨2, [(.val true t18), (.val false .s)], [(.agg, t19), (.one, .b)], fun x => spec_SyncName k x.1 x.2⟩
def spec_SyncName.d : Fd := { nt := 35, nv := 2, nm := [0, 1, 2, 3, 6, 7, 8], res := [5], cs := fun k => [(78, spec_l9Copy.e k), (79, spec_l9Put.e k), (80, spec_l9Ends.e k), (90, spec_ReadName.e k), (91, spec_l9Cut.e k)] }
theorem spec_SyncName.s (k : Nat) : CallOk Try.prog 36 (spec_SyncName.e k) := mkS (D := spec_SyncName.d) (k := k) sO [] Try.func36 ⟨spec_l9Copy.s k, spec_l9Put.s k, spec_l9Ends.s k, spec_ReadName.s k, spec_l9Cut.s k, trivial⟩ trivial (by kernel_rfl) (by kernel_rfl) (fun x => by kernel_rfl)
def spec_RemoveName.e (k : Nat) : Ent := ⟨2, [(.val true t18), (.val false .s)], [(.agg, t19), (.one, .b)], fun x => spec_RemoveName k x.1 x.2⟩
def spec_RemoveName.d : Fd := { nt := 26, nv := 2, nm := [0, 1, 2, 3, 6], res := [5], cs := fun k => [(78, spec_l9Copy.e k), (80, spec_l9Ends.e k), (91, spec_l9Cut.e k), (94, spec_l9At.e k)], mv := [14] }
theorem spec_RemoveName.s (k : Nat) : CallOk Try.prog 40 (spec_RemoveName.e k) := mkS (D := spec_RemoveName.d) (k := k) sO [] Try.func40 ⟨spec_l9Copy.s k, spec_l9Ends.s k, spec_l9Cut.s k, spec_l9At.s k, trivial⟩ trivial (by kernel_rfl) (by kernel_rfl) (fun x => by kernel_rfl)
def spec_FileOk.e (k : Nat) : Ent := ⟨1, [(.val true t16)], [(.one, .b)], fun x => spec_FileOk x⟩
def spec_FileOk.d : Fd := { nt := 23, nv := 1, nm := [0, 1], res := [2], cs := fun k => [(140, spec_StampOk.e k)] }
theorem spec_FileOk.s (k : Nat) : CallOk Try.prog 129 (spec_FileOk.e k) := mkS (D := spec_FileOk.d) (k := k) sO [] Try.func129 ⟨spec_StampOk.s k, trivial⟩ trivial (by kernel_rfl) (by kernel_rfl) (fun x => by kernel_rfl)
def spec_Crc.e (k : Nat) : Ent := ⟨1, [(.val false t3)], [(.one, (.i .i64))], fun x => spec_Crc k x⟩
def spec_Crc_l7.p : LF := ⟨⟨[], [(0, t3), (3, (.i .i64)), (4, (.i .i64)), (5, (.i .i64))]⟩, [((.exit 2), ⟨[], [(0, t3), (3, (.i .i64)), (4, (.i .i64))]⟩)], fun k x => spec_Crc_l7 k x.1 x.2.1 x.2.2.1 x.2.2.2⟩
def spec_Crc_l3.p : LF := ⟨⟨[], [(0, t3), (3, (.i .i64)), (4, (.i .i64))]⟩, [((.exit 0), ⟨[], [(3, (.i .i64))]⟩)], fun k x => spec_Crc_l3 k x.1 x.2.1 x.2.2⟩
def spec_Crc.d : Fd := { nt := 34, nv := 1, nm := [0, 1, 3, 4, 5, 6], res := [2], ls := [(7, spec_Crc_l7.p), (3, spec_Crc_l3.p)] }
theorem spec_Crc_l7.s : LK Try.prog Try.f166 spec_Crc.d 7 spec_Crc_l7.p := mkL sO [] (by kernel_rfl) (fun _ => trivial) trivial (by kernel_rfl) (fun _ => rfl) (fun k x => by kernel_rfl)
theorem spec_Crc_l3.s : LK Try.prog Try.f166 spec_Crc.d 3 spec_Crc_l3.p := mkL sO [7] (by kernel_rfl) (fun _ => trivial) ⟨spec_Crc_l7.s, trivial⟩ (by kernel_rfl) (fun _ => rfl) (fun k x => by kernel_rfl)
theorem spec_Crc.s (k : Nat) : CallOk Try.prog 166 (spec_Crc.e k) := mkS (D := spec_Crc.d) (k := k) sO [3] Try.func166 trivial ⟨spec_Crc_l3.s, trivial⟩ (by kernel_rfl) (by kernel_rfl) (fun x => by kernel_rfl)
def spec_PutFile.e (k : Nat) : Ent := ⟨1, [(.val true t16)], [(.one, t4)], fun x => spec_PutFile k x⟩
def spec_PutFile.d : Fd := { nt := 37, nv := 1, nm := [0, 1, 3, 4], res := [2], cs := fun k => [(129, spec_FileOk.e k), (151, spec_PutNum.e k), (152, spec_l8Stamp.e k), (153, spec_PutText.e k), (154, spec_l8Bool.e k), (166, spec_Crc.e k)] }
theorem spec_PutFile.s (k : Nat) : CallOk Try.prog 131 (spec_PutFile.e k) := mkS (D := spec_PutFile.d) (k := k) sO [] Try.func131 ⟨spec_FileOk.s k, spec_PutNum.s k, spec_l8Stamp.s k, spec_PutText.s k, spec_l8Bool.s k, spec_Crc.s k, trivial⟩ trivial (by kernel_rfl) (by kernel_rfl) (fun x => by kernel_rfl)
def spec_l9Draw.e (k : Nat) : Ent := ⟨1, [(.ptr t14 t14)], [(.agg, t19)], fun x => spec_l9Draw k x⟩
def spec_l9Draw_l3.p : LF := ⟨⟨[(0, (.bp 0 0 0)), (2, (.bp 2 0 0)), (3, (.bp 3 0 0)), (1999, (.hd 3)), (3999, (.hd 2)), (4999, (.hd 2))], [(4, (.i .i64)), (1000, t3), (1001, (.i .i64)), (1002, (.i .i64)), (3000, t10), (3001, t10), (4000, t10), (4001, t10)]⟩, [((.exit 0), ⟨[(2, (.bp 2 0 0)), (3, (.bp 3 0 0)), (3999, (.hd 2)), (4999, (.hd 2)), (1999, (.hd 3))], [(3000, t10), (3001, t10), (4000, t10), (4001, t10), (1000, t3), (1001, (.i .i64)), (1002, (.i .i64))]⟩)], fun k x => spec_l9Draw_l3 k x.1 x.2.1 x.2.2.1 x.2.2.2.1 x.2.2.2.2.1 x.2.2.2.2.2.1 x.2.2.2.2.2.2.1 x.2.2.2.2.2.2.2⟩
def spec_l9Draw.d : Fd := { nt := 44, nv := 1, nm := [0, 1, 3, 4, 5], res := [], cs := fun k => [(27, spec_WriteName.e k), (36, spec_SyncName.e k), (40, spec_RemoveName.e k), (105, spec_l1Below.e k), (131, spec_PutFile.e k), (136, spec_l3Name.e k), (137, spec_l8Draw.e k)], ls := [(3, spec_l9Draw_l3.p)], mv := [43] }
theorem spec_l9Draw.a (k : Nat) : AllC Try.prog (spec_l9Draw.d.cs k) := ⟨spec_WriteName.s k, spec_SyncName.s k, spec_RemoveName.s k, spec_l1Below.s k, spec_PutFile.s k, spec_l3Name.s k, spec_l8Draw.s k, trivial⟩
theorem spec_l9Draw_l3.s : LK Try.prog Try.f148 spec_l9Draw.d 3 spec_l9Draw_l3.p := mkL sO [] (by kernel_rfl) spec_l9Draw.a trivial (by kernel_rfl) (fun _ => rfl) (fun k x => by kernel_rfl)
theorem spec_l9Draw.s (k : Nat) : CallOk Try.prog 148 (spec_l9Draw.e k) := mkS (D := spec_l9Draw.d) (k := k) sO [3] Try.func148 (spec_l9Draw.a k) ⟨spec_l9Draw_l3.s, trivial⟩ (by kernel_rfl) (by kernel_rfl) (fun x => by kernel_rfl)
def spec_l9Any.e (k : Nat) : Ent := ⟨1, [(.ptr t14 t14)], [(.agg, t19)], fun x => spec_l9Any k x⟩
def spec_l9Any.d : Fd := { nt := 33, nv := 1, nm := [0, 1, 3], res := [], cs := fun k => [(99, spec_l3Any.e k), (105, spec_l1Below.e k), (148, spec_l9Draw.e k)], mv := [32] }
theorem spec_l9Any.s (k : Nat) : CallOk Try.prog 98 (spec_l9Any.e k) := mkS (D := spec_l9Any.d) (k := k) sO [] Try.func98 ⟨spec_l3Any.s k, spec_l1Below.s k, spec_l9Draw.s k, trivial⟩ trivial (by kernel_rfl) (by kernel_rfl) (fun x => by kernel_rfl)
def spec_DrawReadName.e (k : Nat) : Ent := ⟨1, [(.val false t3)], [(.agg, t19), (.one, .s)], fun x => spec_DrawReadName k x⟩
def spec_DrawReadName.d : Fd := { nt := 11, nv := 1, nm := [0, 1, 4], res := [3], cs := fun k => [(68, spec_l1New.e k), (98, spec_l9Any.e k), (136, spec_l3Name.e k)] }
theorem spec_DrawReadName.s (k : Nat) : CallOk Try.prog 93 (spec_DrawReadName.e k) := mkS (D := spec_DrawReadName.d) (k := k) sO [] Try.func93 ⟨spec_l1New.s k, spec_l9Any.s k, spec_l3Name.s k, trivial⟩ trivial (by kernel_rfl) (by kernel_rfl) (fun x => by kernel_rfl)
def spec_DrawRemoveName.e (k : Nat) : Ent := ⟨1, [(.val false t3)], [(.agg, t19), (.one, .s)], fun x => spec_DrawRemoveName k x⟩
def spec_DrawRemoveName.d : Fd := { nt := 8, nv := 1, nm := [0, 1], res := [3], cs := fun k => [(93, spec_DrawReadName.e k)] }
theorem spec_DrawRemoveName.s (k : Nat) : CallOk Try.prog 38 (spec_DrawRemoveName.e k) := mkS (D := spec_DrawRemoveName.d) (k := k) sO [] Try.func38 ⟨spec_DrawReadName.s k, trivial⟩ trivial (by kernel_rfl) (by kernel_rfl) (fun x => by kernel_rfl)
def impl_RemoveName.e (k : Nat) : Ent := ⟨2, [(.val true t18), (.val false .s)], [(.agg, (.pr t9 t10)), (.one, .b)], fun x => impl_RemoveName k x.1 x.2⟩
def impl_RemoveName.d : Fd := { nt := 26, nv := 2, nm := [0, 1, 2, 3, 6], res := [5], cs := fun k => [(44, impl_DiskOk.e k), (82, impl_copyDisk.e k), (85, impl_drop.e k), (92, impl_at.e k)], mv := [19, 25] }
theorem impl_RemoveName.s (k : Nat) : CallOk Try.prog 39 (impl_RemoveName.e k) := mkS (D := impl_RemoveName.d) (k := k) sO [] Try.func39 ⟨impl_DiskOk.s k, impl_copyDisk.s k, impl_drop.s k, impl_at.s k, trivial⟩ trivial (by kernel_rfl) (by kernel_rfl) (fun x => by kernel_rfl)
def laws_sameNamed.e (k : Nat) : Ent := ⟨2, [(.val false t9), (.val false t9)], [(.one, .b)], fun x => laws_sameNamed k x.1 x.2⟩
def laws_sameNamed_l4.p : LF := ⟨⟨[], [(0, t9), (1, t9), (5, (.i .i64))]⟩, [(.ret, ⟨[], [(4, .b)]⟩), ((.exit 0), ⟨[], []⟩)], fun k x => laws_sameNamed_l4 k x.1 x.2.1 x.2.2⟩
def laws_sameNamed.d : Fd := { nt := 42, nv := 2, nm := [0, 1, 2, 3, 5], res := [4], cs := fun k => [(47, laws_sameBytes.e k)], ls := [(4, laws_sameNamed_l4.p)] }
theorem laws_sameNamed.a (k : Nat) : AllC Try.prog (laws_sameNamed.d.cs k) := ⟨laws_sameBytes.s k, trivial⟩
theorem laws_sameNamed_l4.s : LK Try.prog Try.f41 laws_sameNamed.d 4 laws_sameNamed_l4.p := mkL sO [] (by kernel_rfl) laws_sameNamed.a trivial (by kernel_rfl) (fun _ => rfl) (fun k x => by kernel_rfl)
theorem laws_sameNamed.s (k : Nat) : CallOk Try.prog 41 (laws_sameNamed.e k) := mkS (D := laws_sameNamed.d) (k := k) sO [4] Try.func41 (laws_sameNamed.a k) ⟨laws_sameNamed_l4.s, trivial⟩ (by kernel_rfl) (by kernel_rfl) (fun x => by kernel_rfl)
def impl_ReadName.e (k : Nat) : Ent := ⟨2, [(.val true t18), (.val false .s)], [(.one, t4), (.one, .b)], fun x => impl_ReadName k x.1 x.2⟩
def impl_ReadName.d : Fd := { nt := 20, nv := 2, nm := [0, 1, 2, 3, 6], res := [4, 5], cs := fun k => [(86, impl_copyBytes.e k), (92, impl_at.e k)] }
theorem impl_ReadName.s (k : Nat) : CallOk Try.prog 42 (impl_ReadName.e k) := mkS (D := impl_ReadName.d) (k := k) sO [] Try.func42 ⟨impl_copyBytes.s k, impl_at.s k, trivial⟩ trivial (by kernel_rfl) (by kernel_rfl) (fun x => by kernel_rfl)
def impl_withText.e (k : Nat) : Ent := ⟨2, [(.val false t1), (.val false .s)], [(.one, t1)], fun x => impl_withText k x.1 x.2⟩
def impl_withText_l2.p : LF := ⟨⟨[], [(0, t1), (1, .s), (5, (.i .i64))]⟩, [((.exit 0), ⟨[], [(0, t1), (1, .s), (5, (.i .i64))]⟩)], fun k x => impl_withText_l2 k x.1 x.2.1 x.2.2⟩
def impl_withText.d : Fd := { nt := 44, nv := 2, nm := [0, 1, 2, 3, 5], res := [4], ls := [(2, impl_withText_l2.p)] }
theorem impl_withText_l2.s : LK Try.prog Try.f95 impl_withText.d 2 impl_withText_l2.p := mkL sO [] (by kernel_rfl) (fun _ => trivial) trivial (by kernel_rfl) (fun _ => rfl) (fun k x => by kernel_rfl)
theorem impl_withText.s (k : Nat) : CallOk Try.prog 95 (impl_withText.e k) := mkS (D := impl_withText.d) (k := k) sO [2] Try.func95 trivial ⟨impl_withText_l2.s, trivial⟩ (by kernel_rfl) (by kernel_rfl) (fun x => by kernel_rfl)
def impl_FallDisk.e (k : Nat) : Ent := ⟨2, [(.val true t18), (.val false t0)], [(.agg, t19)], fun x => impl_FallDisk k x.1 x.2⟩
def impl_FallDisk_l11.p : LF := ⟨⟨[(2, (.bp 2 0 0)), (4, (.bp 4 0 0)), (3999, (.hd 2)), (5999, (.hd 2))], [(1, t0), (8, t10), (34, t1), (35, (.i .i64)), (36, (.i .i64)), (3000, t9), (3001, t9), (5000, t10), (5001, t10)]⟩, [((.exit 2), ⟨[(2, (.bp 2 0 0)), (4, (.bp 4 0 0)), (3999, (.hd 2)), (5999, (.hd 2))], [(8, t10), (3000, t9), (3001, t9), (5000, t10), (5001, t10)]⟩)], fun k x => impl_FallDisk_l11 k x.1 x.2.1 x.2.2.1 x.2.2.2.1 x.2.2.2.2.1 x.2.2.2.2.2.1 x.2.2.2.2.2.2.1 x.2.2.2.2.2.2.2.1 x.2.2.2.2.2.2.2.2⟩
def impl_FallDisk_l5.p : LF := ⟨⟨[(2, (.bp 2 0 0)), (4, (.bp 4 0 0)), (3999, (.hd 2)), (5999, (.hd 2))], [(1, t0), (5, t1), (23, t10), (24, (.i .i64)), (25, (.i .i64)), (3000, t9), (3001, t9), (5000, t10), (5001, t10)]⟩, [((.exit 0), ⟨[(2, (.bp 2 0 0)), (4, (.bp 4 0 0)), (3999, (.hd 2)), (5999, (.hd 2))], [(1, t0), (5, t1), (3000, t9), (3001, t9), (5000, t10), (5001, t10)]⟩)], fun k x => impl_FallDisk_l5 k x.1 x.2.1 x.2.2.1 x.2.2.2.1 x.2.2.2.2.1 x.2.2.2.2.2.1 x.2.2.2.2.2.2.1 x.2.2.2.2.2.2.2.1 x.2.2.2.2.2.2.2.2⟩
def impl_FallDisk.d : Fd := { nt := 78, nv := 2, nm := [0, 1, 2, 3, 5, 6, 7, 8, 9, 10, 11, 12], res := [], cs := fun k => [(44, impl_DiskOk.e k), (82, impl_copyDisk.e k), (92, impl_at.e k), (95, impl_withText.e k), (96, impl_copyNamed.e k)], ls := [(11, impl_FallDisk_l11.p), (5, impl_FallDisk_l5.p)] }
theorem impl_FallDisk.a (k : Nat) : AllC Try.prog (impl_FallDisk.d.cs k) := ⟨impl_DiskOk.s k, impl_copyDisk.s k, impl_at.s k, impl_withText.s k, impl_copyNamed.s k, trivial⟩
theorem impl_FallDisk_l11.s : LK Try.prog Try.f43 impl_FallDisk.d 11 impl_FallDisk_l11.p := mkL sO [] (by kernel_rfl) impl_FallDisk.a trivial (by kernel_rfl) (fun _ => rfl) (fun k x => by kernel_rfl)
theorem impl_FallDisk_l5.s : LK Try.prog Try.f43 impl_FallDisk.d 5 impl_FallDisk_l5.p := mkL sO [] (by kernel_rfl) impl_FallDisk.a trivial (by kernel_rfl) (fun _ => rfl) (fun k x => by kernel_rfl)
theorem impl_FallDisk.s (k : Nat) : CallOk Try.prog 43 (impl_FallDisk.e k) := mkS (D := impl_FallDisk.d) (k := k) sO [5, 11] Try.func43 (impl_FallDisk.a k) ⟨impl_FallDisk_l5.s, impl_FallDisk_l11.s, trivial⟩ (by kernel_rfl) (by kernel_rfl) (fun x => by kernel_rfl)
def laws_FnRemoved.e (k : Nat) : Ent := ⟨1, [(.val false t3)], [(.one, .b)], fun x => laws_FnRemoved k x⟩
def laws_FnRemoved.d : Fd := { nt := 94, nv := 1, nm := [0, 1, 3, 4, 5, 6, 7, 8, 9, 10, 11, 12, 13, 14], res := [2], cs := fun k => [(15, laws_big.e k), (37, impl_SyncName.e k), (38, spec_DrawRemoveName.e k), (39, impl_RemoveName.e k), (40, spec_RemoveName.e k), (41, laws_sameNamed.e k), (42, impl_ReadName.e k), (43, impl_FallDisk.e k), (44, impl_DiskOk.e k)], sh := true }
theorem laws_FnRemoved.s (k : Nat) : CallOk Try.prog 7 (laws_FnRemoved.e k) := mkS (D := laws_FnRemoved.d) (k := k) sO [] Try.func7 ⟨laws_big.s k, impl_SyncName.s k, spec_DrawRemoveName.s k, impl_RemoveName.s k, spec_RemoveName.s k, laws_sameNamed.s k, impl_ReadName.s k, impl_FallDisk.s k, impl_DiskOk.s k, trivial⟩ trivial (by kernel_rfl) (by kernel_rfl) (fun x => by kernel_rfl)
def spec_DrawSyncName.e (k : Nat) : Ent := ⟨1, [(.val false t3)], [(.agg, t19), (.one, .s)], fun x => spec_DrawSyncName k x⟩
def spec_DrawSyncName.d : Fd := { nt := 11, nv := 1, nm := [0, 1, 4], res := [3], cs := fun k => [(68, spec_l1New.e k), (98, spec_l9Any.e k), (99, spec_l3Any.e k)] }
theorem spec_DrawSyncName.s (k : Nat) : CallOk Try.prog 45 (spec_DrawSyncName.e k) := mkS (D := spec_DrawSyncName.d) (k := k) sO [] Try.func45 ⟨spec_l1New.s k, spec_l9Any.s k, spec_l3Any.s k, trivial⟩ trivial (by kernel_rfl) (by kernel_rfl) (fun x => by kernel_rfl)
def spec_l9Keep.e (k : Nat) : Ent := ⟨1, [(.ptr t14 t14)], [(.one, t2)], fun x => spec_l9Keep k x⟩
def spec_l9Keep_l3.p : LF := ⟨⟨[(0, (.bp 0 0 0)), (1999, (.hd 3))], [(3, t2), (4, (.i .i64)), (1000, t3), (1001, (.i .i64)), (1002, (.i .i64))]⟩, [((.exit 0), ⟨[(1999, (.hd 3))], [(3, t2), (1000, t3), (1001, (.i .i64)), (1002, (.i .i64))]⟩)], fun k x => spec_l9Keep_l3 k x.1 x.2.1 x.2.2.1 x.2.2.2.1 x.2.2.2.2⟩
def spec_l9Keep.d : Fd := { nt := 18, nv := 1, nm := [0, 1, 3, 4], res := [2], cs := fun k => [(105, spec_l1Below.e k), (114, spec_l1Once.e k)], ls := [(3, spec_l9Keep_l3.p)] }
theorem spec_l9Keep.a (k : Nat) : AllC Try.prog (spec_l9Keep.d.cs k) := ⟨spec_l1Below.s k, spec_l1Once.s k, trivial⟩
theorem spec_l9Keep_l3.s : LK Try.prog Try.f100 spec_l9Keep.d 3 spec_l9Keep_l3.p := mkL sO [] (by kernel_rfl) spec_l9Keep.a trivial (by kernel_rfl) (fun _ => rfl) (fun k x => by kernel_rfl)
theorem spec_l9Keep.s (k : Nat) : CallOk Try.prog 100 (spec_l9Keep.e k) := mkS (D := spec_l9Keep.d) (k := k) sO [3] Try.func100 (spec_l9Keep.a k) ⟨spec_l9Keep_l3.s, trivial⟩ (by kernel_rfl) (by kernel_rfl) (fun x => by kernel_rfl)
def spec_DrawFallDisk.e (k : Nat) : Ent := ⟨1, [(.val false t3)], [(.agg, t19), (.one, t2)], fun x => spec_DrawFallDisk k x⟩
def spec_DrawFallDisk.d : Fd := { nt := 11, nv := 1, nm := [0, 1, 4], res := [3], cs := fun k => [(68, spec_l1New.e k), (98, spec_l9Any.e k), (100, spec_l9Keep.e k)] }
theorem spec_DrawFallDisk.s (k : Nat) : CallOk Try.prog 46 (spec_DrawFallDisk.e k) := mkS (D := spec_DrawFallDisk.d) (k := k) sO [] Try.func46 ⟨spec_l1New.s k, spec_l9Any.s k, spec_l9Keep.s k, trivial⟩ trivial (by kernel_rfl) (by kernel_rfl) (fun x => by kernel_rfl)
def laws_FnSynced.e (k : Nat) : Ent := ⟨1, [(.val false t3)], [(.one, .b)], fun x => laws_FnSynced k x⟩
def laws_FnSynced.d : Fd := { nt := 89, nv := 1, nm := [0, 1, 3, 4, 5, 6, 7, 8, 9, 10, 11, 12, 13, 14], res := [2], cs := fun k => [(15, laws_big.e k), (36, spec_SyncName.e k), (37, impl_SyncName.e k), (41, laws_sameNamed.e k), (42, impl_ReadName.e k), (43, impl_FallDisk.e k), (44, impl_DiskOk.e k), (45, spec_DrawSyncName.e k), (46, spec_DrawFallDisk.e k), (47, laws_sameBytes.e k)], sh := true }
theorem laws_FnSynced.s (k : Nat) : CallOk Try.prog 8 (laws_FnSynced.e k) := mkS (D := laws_FnSynced.d) (k := k) sO [] Try.func8 ⟨laws_big.s k, spec_SyncName.s k, impl_SyncName.s k, laws_sameNamed.s k, impl_ReadName.s k, impl_FallDisk.s k, impl_DiskOk.s k, spec_DrawSyncName.s k, spec_DrawFallDisk.s k, laws_sameBytes.s k, trivial⟩ trivial (by kernel_rfl) (by kernel_rfl) (fun x => by kernel_rfl)
def impl_WriteName.e (k : Nat) : Ent := ⟨3, [(.val true t18), (.val false .s), (.val false t3)], [(.agg, t19), (.one, .b)], fun x => impl_WriteName k x.1 x.2.1 x.2.2⟩
def impl_WriteName.d : Fd := { nt := 42, nv := 3, nm := [0, 1, 2, 3, 4, 5, 8], res := [7], cs := fun k => [(44, impl_DiskOk.e k), (82, impl_copyDisk.e k), (83, impl_NameOk.e k), (84, impl_put.e k), (85, impl_drop.e k), (86, impl_copyBytes.e k)], mv := [24, 41] }
theorem impl_WriteName.s (k : Nat) : CallOk Try.prog 30 (impl_WriteName.e k) := mkS (D := impl_WriteName.d) (k := k) sO [] Try.func30 ⟨impl_DiskOk.s k, impl_copyDisk.s k, impl_NameOk.s k, impl_put.s k, impl_drop.s k, impl_copyBytes.s k, trivial⟩ trivial (by kernel_rfl) (by kernel_rfl) (fun x => by kernel_rfl)
def spec_DrawWriteName.e (k : Nat) : Ent := ⟨1, [(.val false t3)], [(.agg, t19), (.one, .s), (.one, t4)], fun x => spec_DrawWriteName k x⟩
def spec_DrawWriteName.d : Fd := { nt := 22, nv := 1, nm := [0, 1, 5, 6], res := [3, 4], cs := fun k => [(68, spec_l1New.e k), (98, spec_l9Any.e k), (99, spec_l3Any.e k), (105, spec_l1Below.e k), (113, spec_l1Some.e k), (114, spec_l1Once.e k)] }
theorem spec_DrawWriteName.s (k : Nat) : CallOk Try.prog 53 (spec_DrawWriteName.e k) := mkS (D := spec_DrawWriteName.d) (k := k) sO [] Try.func53 ⟨spec_l1New.s k, spec_l9Any.s k, spec_l3Any.s k, spec_l1Below.s k, spec_l1Some.s k, spec_l1Once.s k, trivial⟩ trivial (by kernel_rfl) (by kernel_rfl) (fun x => by kernel_rfl)
def laws_FnWrites.e (k : Nat) : Ent := ⟨1, [(.val false t3)], [(.one, .b)], fun x => laws_FnWrites k x⟩
def laws_FnWrites_l12.p : LF := ⟨⟨[(3, (.bp 3 0 0)), (6, (.bp 6 0 0)), (4999, (.hd 2)), (7999, (.hd 2))], [(4, .s), (5, t3), (12, (.i .i64)), (4000, t9), (4001, t9), (7000, t9), (7001, t9)]⟩, [(.ret, ⟨[], [(2, .b)]⟩), ((.exit 0), ⟨[(3, (.bp 3 0 0)), (6, (.bp 6 0 0)), (4999, (.hd 2)), (7999, (.hd 2))], [(4, .s), (5, t3), (4000, t9), (4001, t9), (7000, t9), (7001, t9)]⟩)], fun k x => laws_FnWrites_l12 k x.1 x.2.1 x.2.2.1 x.2.2.2.1 x.2.2.2.2.1 x.2.2.2.2.2.1 x.2.2.2.2.2.2⟩
def laws_FnWrites.d : Fd := { nt := 168, nv := 1, nm := [0, 1, 3, 4, 5, 6, 7, 8, 9, 10, 11, 12, 13, 14, 15, 16, 17, 18, 19], res := [2], cs := fun k => [(15, laws_big.e k), (27, spec_WriteName.e k), (30, impl_WriteName.e k), (37, impl_SyncName.e k), (41, laws_sameNamed.e k), (42, impl_ReadName.e k), (43, impl_FallDisk.e k), (44, impl_DiskOk.e k), (47, laws_sameBytes.e k), (53, spec_DrawWriteName.e k)], ls := [(12, laws_FnWrites_l12.p)], sh := true }
theorem laws_FnWrites.a (k : Nat) : AllC Try.prog (laws_FnWrites.d.cs k) := ⟨laws_big.s k, spec_WriteName.s k, impl_WriteName.s k, impl_SyncName.s k, laws_sameNamed.s k, impl_ReadName.s k, impl_FallDisk.s k, impl_DiskOk.s k, laws_sameBytes.s k, spec_DrawWriteName.s k, trivial⟩
theorem laws_FnWrites_l12.s : LK Try.prog Try.f10 laws_FnWrites.d 12 laws_FnWrites_l12.p := mkL sO [] (by kernel_rfl) laws_FnWrites.a trivial (by kernel_rfl) (fun _ => rfl) (fun k x => by kernel_rfl)
theorem laws_FnWrites.s (k : Nat) : CallOk Try.prog 10 (laws_FnWrites.e k) := mkS (D := laws_FnWrites.d) (k := k) sO [12] Try.func10 (laws_FnWrites.a k) ⟨laws_FnWrites_l12.s, trivial⟩ (by kernel_rfl) (by kernel_rfl) (fun x => by kernel_rfl)
end Go.Proofs.Ytehkignjdbkeiaa.Vf
end

section
set_option linter.unusedVariables false
set_option linter.unusedSimpArgs false
namespace Go.Proofs.Ytehkignjdbkeiaa.Vf
open Go
def Tot {α : Type} (f : Nat → Option α) (Q : α → Prop) : Prop := ∃ r K, (∀ k, K ≤ k → f k = some r) ∧ Q r
section
variable {α β : Type} {f g : Nat → Option α} {Q Q' : α → Prop}
theorem Tot.mono (h : Tot f Q) (hq : ∀ a, Q a → Q' a) : Tot f Q' := by
 obtain ⟨r, K, h1, h2⟩ := h
 exact ⟨r, K, h1, hq r h2⟩
theorem Tot.pure {a : α} (h : Q a) : Tot (fun _ => some a) Q := ⟨a, 0, fun _ _ => rfl, h⟩
theorem Tot.of {o : Option α} {a : α} (e : o = some a) (h : Q a) : Tot (fun _ => o) Q := ⟨a, 0, fun _ _ => e, h⟩
theorem Tot.bind {h : Nat → α → Option β} {R : β → Prop} (hf : Tot f Q) (hh : ∀ a, Q a → Tot (fun k => h k a) R) : Tot (fun k => (f k).bind (h k)) R := by
 obtain ⟨a, K, h1, h2⟩ := hf
 obtain ⟨b, L, h3, h4⟩ := hh a h2
 exact ⟨b, max K L, fun k hk => by show (f k).bind (h k) = _; rw [h1 k (by omega)]; exact h3 k (by omega), h4⟩
theorem Tot.yes {c : Bool} (hc : c = true) (h : Tot f Q) : Tot (fun k => cond c (f k) (g k)) Q := by subst hc; exact h
theorem Tot.no {c : Bool} (hc : c = false) (h : Tot g Q) : Tot (fun k => cond c (f k) (g k)) Q := by subst hc; exact h
theorem Tot.ite {c : Bool} (h1 : c = true → Tot f Q) (h2 : c = false → Tot g Q) : Tot (fun k => cond c (f k) (g k)) Q := by
 cases hc : c with
 | true => exact h1 hc
 | false => exact h2 hc
theorem Tot.dec {p : Prop} [Decidable p] (hp : p) (h : Tot f Q) : Tot (fun k => cond (decide p) (f k) (g k)) Q := Tot.yes (decide_eq_true hp) h
theorem Tot.ndec {p : Prop} [Decidable p] (hp : ¬ p) (h : Tot g Q) : Tot (fun k => cond (decide p) (f k) (g k)) Q := Tot.no (decide_eq_false hp) h
theorem Tot.dite {p : Prop} [Decidable p] (h1 : p → Tot f Q) (h2 : ¬ p → Tot g Q) : Tot (fun k => cond (decide p) (f k) (g k)) Q :=
 Tot.ite (fun h => h1 (of_decide_eq_true h)) (fun h => h2 (of_decide_eq_false h))
theorem Tot.ble {m n : Nat} (hp : m ≤ n) (h : Tot f Q) : Tot (fun k => cond (Nat.ble m n) (f k) (g k)) Q := Tot.yes (Nat.ble_eq_true_of_le hp) h
theorem Tot.succ (h : Tot (fun k => f (k + 1)) Q) : Tot f Q := by
 obtain ⟨r, K, h1, h2⟩ := h
 exact ⟨r, K + 1, fun k hk => by obtain ⟨m, rfl⟩ : ∃ m, k = m + 1 := ⟨k - 1, by omega⟩; exact h1 m (by omega), h2⟩
theorem Tot.and (h : Tot f Q) (h' : Tot f Q') : Tot f (fun a => Q a ∧ Q' a) := by
 obtain ⟨r, K, h1, h2⟩ := h
 obtain ⟨r', K', h1', h2'⟩ := h'
 have e : r = r' := by
  have a1 := h1 (max K K') (by omega)
  have a2 := h1' (max K K') (by omega)
  rw [a1] at a2
  exact Option.some.inj a2
 subst e
 exact ⟨r, K, h1, h2, h2'⟩
theorem Tot.law {f : Nat → Option Bool} (h : Tot f (fun b => b = true)) : ∃ k, f k = some true := by
 obtain ⟨r, K, h1, h2⟩ := h
 subst h2
 exact ⟨K, h1 K (Nat.le_refl _)⟩
end
theorem w64 {n : Int} (h1 : -9223372036854775808 ≤ n) (h2 : n ≤ 9223372036854775807) : IntKind.wrap .i64 n = n := Go.IntWalk.i64_in n ⟨h1, h2⟩
theorem w8_bounds (n : Int) : 0 ≤ IntKind.wrap .u8 n ∧ IntKind.wrap .u8 n ≤ 255 := by
 simp only [IntKind.wrap, IntKind.signed, IntKind.bits]
 simp
 omega
theorem and_mask (x m : Int) (h0 : 0 ≤ m) (h1 : m < 9223372036854775808) : 0 ≤ IntKind.wrap .i64 ((BitVec.ofInt (IntKind.bits .i64) x &&& BitVec.ofInt (IntKind.bits .i64) m).toNat) ∧ IntKind.wrap .i64 ((BitVec.ofInt (IntKind.bits .i64) x &&& BitVec.ofInt (IntKind.bits .i64) m).toNat) ≤ m := by
 have hm : (BitVec.ofInt (IntKind.bits .i64) m).toNat = m.toNat := by
  rw [BitVec.toNat_ofInt]
  show (m % ((2 ^ 64 : Nat) : Int)).toNat = m.toNat
  rw [Int.emod_eq_of_lt h0 (by omega)]
 have hle : (BitVec.ofInt (IntKind.bits .i64) x &&& BitVec.ofInt (IntKind.bits .i64) m).toNat ≤ m.toNat := by
  rw [BitVec.toNat_and, hm]
  exact Nat.and_le_right
 rw [w64 (by omega) (by omega)]
 omega
theorem tmod_lt {x n : Int} (hx : 0 ≤ x) (hn : 0 < n) : 0 ≤ Int.tmod x n ∧ Int.tmod x n < n := by
 rw [Int.tmod_eq_emod_of_nonneg hx]
 exact ⟨Int.emod_nonneg _ (by omega), Int.emod_lt_of_pos _ hn⟩
end Go.Proofs.Ytehkignjdbkeiaa.Vf
end

section
set_option linter.unusedVariables false
set_option linter.unusedSimpArgs false
namespace Go.Proofs.Ytehkignjdbkeiaa.Vf
open Go
abbrev Cur := List Int × Int × Int
def CurOk (c : Cur) : Prop := (c.1.length : Int) ≤ 1048576 ∧ 0 ≤ c.2.1 ∧ c.2.1 ≤ 1048576
theorem l1New_loop (b : List Int) (hb : (b.length : Int) ≤ 1048576) : ∀ (n : Nat) (h i : Int), 0 ≤ i → i + n = 4001 → Tot (fun k => spec_l1New_l3 k b h i) (fun r => r.1 = b) := by
 intro n
 induction n with
 | zero =>
  intro h i h0 hi
  refine Tot.succ ?_
  simp only [spec_l1New_l3]
  refine Tot.dite (fun h1 => ?_) (fun h1 => Tot.pure rfl)
  exact Tot.ndec (by omega) (Tot.pure rfl)
 | succ n ih =>
  intro h i h0 hi
  refine Tot.succ ?_
  simp only [spec_l1New_l3]
  refine Tot.dite (fun h1 => ?_) (fun h1 => Tot.pure rfl)
  refine Tot.dite (fun h2 => ?_) (fun h2 => Tot.pure rfl)
  refine Tot.dec h0 (Tot.dec h1 ?_)
  rw [w64 (n := i + 1) (by omega) (by omega)]
  exact ih _ _ (by omega) (by omega)
theorem l1New_tot (b : List Int) (hb : (b.length : Int) ≤ 1048576) : Tot (fun k => spec_l1New k b) CurOk := by
 unfold spec_l1New
 refine Tot.bind (l1New_loop b hb 4001 _ 0 (by omega) (by omega)) (fun r hr => ?_)
 exact Tot.pure ⟨by rw [hr]; exact hb, Int.le_refl 0, by show (0 : Int) ≤ 1048576; omega⟩
theorem l1Byte_ok (c : Cur) (hc : CurOk c) : ∃ x c', spec_l1Byte c = some (x, c') ∧ 0 ≤ x ∧ x ≤ 255 ∧ CurOk c' := by
 obtain ⟨h1, h2, h3⟩ := hc
 unfold spec_l1Byte
 by_cases hlt : c.2.1 < (c.1.length : Int)
 ·simp only [hlt, h2, decide_true, cond_true]
  obtain ⟨a1, a2⟩ := and_mask (IntKind.wrap .i64 ((IntKind.wrap .i64 ((BitVec.ofInt (IntKind.bits .i64) (IntKind.wrap .i64 ((BitVec.ofInt (IntKind.bits .i64) (Int.fdiv (IntKind.wrap .i64 ((IntKind.wrap .i64 (c.2.2 * 6364136223846793005)) + 1442695040888963407)) (2 ^ (min (Int.toNat 33) (IntKind.bits .i64)))) ^^^ BitVec.ofInt (IntKind.bits .i64) (Int.fdiv (IntKind.wrap .i64 ((IntKind.wrap .i64 (c.2.2 * 6364136223846793005)) + 1442695040888963407)) (2 ^ (min (Int.toNat 47) (IntKind.bits .i64))))).toNat)) &&& BitVec.ofInt (IntKind.bits .i64) 255).toNat)) + (IntKind.wrap .i64 (List.getD c.1 (Int.toNat c.2.1) (0 : Int))))) 255 (by omega) (by omega)
  refine ⟨_, _, rfl, a1, a2, h1, ?_, ?_⟩
  ·show 0 ≤ IntKind.wrap .i64 (c.2.1 + 1)
   rw [w64 (by omega) (by omega)]
   omega
  ·show IntKind.wrap .i64 (c.2.1 + 1) ≤ 1048576
   rw [w64 (by omega) (by omega)]
   omega
 ·simp only [hlt, decide_false, cond_false]
  obtain ⟨a1, a2⟩ := and_mask (IntKind.wrap .i64 ((BitVec.ofInt (IntKind.bits .i64) (Int.fdiv (IntKind.wrap .i64 ((IntKind.wrap .i64 (c.2.2 * 6364136223846793005)) + 1442695040888963407)) (2 ^ (min (Int.toNat 33) (IntKind.bits .i64)))) ^^^ BitVec.ofInt (IntKind.bits .i64) (Int.fdiv (IntKind.wrap .i64 ((IntKind.wrap .i64 (c.2.2 * 6364136223846793005)) + 1442695040888963407)) (2 ^ (min (Int.toNat 47) (IntKind.bits .i64))))).toNat)) 255 (by omega) (by omega)
  exact ⟨_, _, rfl, a1, a2, h1, h2, h3⟩
theorem l1Below_ok (c : Cur) (hc : CurOk c) (n : Int) (hn : n ≤ 1000000000) : ∃ x c', spec_l1Below c n = some (x, c') ∧ 0 ≤ x ∧ (0 < n → x < n) ∧ (n ≤ 0 → x = 0) ∧ CurOk c' := by
 unfold spec_l1Below
 by_cases h0 : n ≤ 0
 ·exact ⟨0, c, by simp only [h0, decide_true, cond_true], by omega, by omega, fun _ => rfl, hc⟩
 ·by_cases h1 : n ≤ 256
  ·obtain ⟨x, c', e, b0, b1, k⟩ := l1Byte_ok c hc
   have hz : ¬ n = 0 := by omega
   have := tmod_lt b0 (show 0 < n by omega)
   exact ⟨Int.tmod x n, c', by simp only [h0, h1, hz, decide_true, decide_false, cond_true, cond_false, e, Option.bind_some], this.1, fun _ => this.2, fun h => by omega, k⟩
  ·obtain ⟨x, c1, e1, b0, b1, k1⟩ := l1Byte_ok c hc
   obtain ⟨y, c2, e2, b2, b3, k2⟩ := l1Byte_ok c1 k1
   obtain ⟨z, c3, e3, b4, b5, k3⟩ := l1Byte_ok c2 k2
   have hz : ¬ n = 0 := by omega
   have := tmod_lt (show 0 ≤ x * 65536 + y * 256 + z by omega) (show 0 < n by omega)
   refine ⟨Int.tmod (x * 65536 + y * 256 + z) n, c3, ?_, this.1, fun _ => this.2, fun h => by omega, k3⟩
   simp only [h0, h1, hz, decide_false, cond_false, e1, e2, e3, Option.bind_some]
   rw [w64 (n := x * 65536) (by omega) (by omega), w64 (n := y * 256) (by omega) (by omega), w64 (n := x * 65536 + y * 256) (by omega) (by omega), w64 (n := x * 65536 + y * 256 + z) (by omega) (by omega)]
theorem getD_mem {α : Type} {l : List α} {i : Int} {d : α} (h0 : 0 ≤ i) (h1 : i < (l.length : Int)) : l.getD i.toNat d ∈ l := by
 have h : i.toNat < l.length := by omega
 rw [List.getD_eq_getElem?_getD, List.getElem?_eq_getElem h]
 exact List.getElem_mem h
theorem l1Int_ok (c : Cur) (hc : CurOk c) (l : List Int) (hl : 0 < l.length) (hm : l.length ≤ 1000) : ∃ x c', spec_l1Int c l = some (x, c') ∧ x ∈ l ∧ CurOk c' := by
 obtain ⟨i, c', e, b0, b1, _, k⟩ := l1Below_ok c hc (l.length : Int) (by omega)
 have b1 := b1 (by omega)
 refine ⟨l.getD i.toNat 0, c', ?_, getD_mem b0 b1, k⟩
 unfold spec_l1Int
 simp only [e, Option.bind_some, b0, b1, decide_true, cond_true]
theorem l1Str_ok (c : Cur) (hc : CurOk c) (l : List ByteArray) (hl : 0 < l.length) (hm : l.length ≤ 1000) : ∃ x c', spec_l1Str c l = some (x, c') ∧ x ∈ l ∧ CurOk c' := by
 obtain ⟨i, c', e, b0, b1, _, k⟩ := l1Below_ok c hc (l.length : Int) (by omega)
 have b1 := b1 (by omega)
 refine ⟨l.getD i.toNat (⟨#[]⟩ : ByteArray), c', ?_, getD_mem b0 b1, k⟩
 unfold spec_l1Str
 simp only [e, Option.bind_some, b0, b1, decide_true, cond_true]
def BytesOk (l : List Int) : Prop := ∀ x ∈ l, 0 ≤ x ∧ x ≤ 255
theorem l1Bytes_loop (m : Int) (hm : m ≤ 1000) : ∀ (n : Nat) (l : List Int) (i : Int) (c : Cur), CurOk c → 0 ≤ i → i ≤ max m 0 → (max m 0) - i = n → (l.length : Int) = i → BytesOk l →
  Tot (fun k => spec_l1Bytes_l3 k m l i c.1 c.2.1 c.2.2) (fun r => CurOk r.2 ∧ BytesOk r.1 ∧ (r.1.length : Int) = max m 0) := by
 intro n
 induction n with
 | zero =>
  intro l i c hc h0 h1 hn hl hb
  refine Tot.succ ?_
  simp only [spec_l1Bytes_l3]
  refine Tot.ndec (by omega) (Tot.pure ⟨hc, hb, by show (l.length : Int) = _; omega⟩)
 | succ n ih =>
  intro l i c hc h0 h1 hn hl hb
  refine Tot.succ ?_
  simp only [spec_l1Bytes_l3]
  refine Tot.dec (by omega) ?_
  obtain ⟨x, c', e, b0, b1, k⟩ := l1Byte_ok c hc
  refine Tot.bind (Tot.of (Q := fun r => r = (x, c')) e rfl) ?_
  rintro r rfl
  refine Tot.ble (by simp only [List.length_cons, List.length_nil]; omega) ?_
  rw [w64 (n := i + 1) (by omega) (by omega)]
  refine ih _ _ c' k (by omega) (by omega) (by omega) (by simp only [List.length_append, List.length_cons, List.length_nil]; omega) ?_
  intro y hy
  rcases List.mem_append.1 hy with hy | hy
  ·exact hb y hy
  ·simp only [List.mem_singleton] at hy
   subst hy
   exact w8_bounds _
theorem l1Some_tot (c : Cur) (hc : CurOk c) : Tot (fun k => spec_l1Some k c) (fun r => CurOk r.2 ∧ BytesOk r.1 ∧ (r.1.length : Int) ≤ 9) := by
 unfold spec_l1Some
 obtain ⟨x, c', e, hx, k⟩ := l1Int_ok c hc [0, 1, 2, 5, 9] (by decide) (by decide)
 have hx' : 0 ≤ x ∧ x ≤ 9 := by
  simp only [List.mem_cons, List.not_mem_nil, or_false] at hx
  omega
 refine Tot.bind (Tot.of (Q := fun r => r = (x, c')) e rfl) ?_
 rintro r rfl
 refine Tot.bind (Q := fun r => CurOk r.2 ∧ BytesOk r.1 ∧ (r.1.length : Int) ≤ 9) ?_ (fun r hr => Tot.pure hr)
 unfold spec_l1Bytes
 refine Tot.bind (l1Bytes_loop x (by omega) (max x 0 - 0).toNat [] 0 c' k (by omega) (by omega) (by omega) rfl (by intro y hy; simp at hy)) (fun r hr => Tot.pure ?_)
 exact ⟨hr.1, hr.2.1, by show (r.1.length : Int) ≤ 9; rw [hr.2.2]; omega⟩
theorem l1Once_ok (c : Cur) (hc : CurOk c) (n : Int) (hn : n ≤ 1000000000) : ∃ x c', spec_l1Once c n = some (x, c') ∧ CurOk c' := by
 obtain ⟨x, c', e, _, _, _, k⟩ := l1Below_ok c hc n hn
 exact ⟨x == 0, c', by unfold spec_l1Once; simp only [e, Option.bind_some], k⟩
abbrev Stp := Int × Int × Int
abbrev Row := ByteArray × Stp × Bool × Int
abbrev Fil := Stp × Bool × List Int
def StampIn (s : Stp) : Prop := 0 ≤ s.1 ∧ s.1 ≤ 1000000000 ∧ 0 ≤ s.2.1 ∧ s.2.1 ≤ 1000000 ∧ 0 ≤ s.2.2 ∧ s.2.2 ≤ 20
def drawnNames : List ByteArray := [(⟨#[97]⟩ : ByteArray), (⟨#[98]⟩ : ByteArray), (⟨#[99, 97, 116, 47, 49]⟩ : ByteArray), (⟨#[99, 97, 116, 47, 50]⟩ : ByteArray), (⟨#[100, 111, 103]⟩ : ByteArray), (⟨#[120, 45, 49]⟩ : ByteArray)]
theorem l3Name_ok (c : Cur) (hc : CurOk c) : ∃ x c', spec_l3Name c = some (x, c') ∧ x ∈ drawnNames ∧ CurOk c' := by
 obtain ⟨x, c', e, hx, k⟩ := l1Str_ok c hc drawnNames (by decide) (by decide)
 exact ⟨x, c', by unfold spec_l3Name; unfold drawnNames at e; simp only [e, Option.bind_some], hx, k⟩
theorem l2Draw_ok (c : Cur) (hc : CurOk c) : ∃ x c', spec_l2Draw c = some (x, c') ∧ StampIn x ∧ CurOk c' := by
 obtain ⟨x, c1, e1, hx, k1⟩ := l1Int_ok c hc [0, 1, 2, 3, 1000000000] (by decide) (by decide)
 obtain ⟨y, c2, e2, y0, y1, _, k2⟩ := l1Below_ok c1 k1 3 (by decide)
 obtain ⟨z, c3, e3, z0, z1, _, k3⟩ := l1Below_ok c2 k2 3 (by decide)
 have y1 := y1 (by decide)
 have z1 := z1 (by decide)
 simp only [List.mem_cons, List.not_mem_nil, or_false] at hx
 exact ⟨(x, y, z), c3, by unfold spec_l2Draw; simp only [e1, e2, e3, Option.bind_some], ⟨by show 0 ≤ x; omega, by show x ≤ _; omega, y0, by show y ≤ _; omega, z0, by show z ≤ _; omega⟩, k3⟩
def FileIn (f : Fil) : Prop := StampIn f.1 ∧ BytesOk f.2.2 ∧ (f.2.2.length : Int) ≤ 9 ∧ (f.2.1 = true → f.2.2 = [])
theorem l8Draw_tot (c : Cur) (hc : CurOk c) : Tot (fun k => spec_l8Draw k c) (fun r => FileIn r.1 ∧ CurOk r.2) := by
 unfold spec_l8Draw
 obtain ⟨s, c1, e1, hs, k1⟩ := l2Draw_ok c hc
 obtain ⟨b, c2, e2, k2⟩ := l1Once_ok c1 k1 4 (by decide)
 refine Tot.bind (Tot.of (Q := fun r => r = (s, c1)) e1 rfl) ?_
 rintro r rfl
 refine Tot.bind (Tot.of (Q := fun r => r = (b, c2)) e2 rfl) ?_
 rintro r rfl
 refine Tot.ite (fun hb => ?_) (fun hb => Tot.pure ⟨⟨hs, by intro y hy; simp at hy, by show ((([] : List Int).length : Nat) : Int) ≤ 9; decide, fun _ => rfl⟩, k2⟩)
 refine Tot.bind (l1Some_tot c2 k2) (fun r hr => Tot.pure ⟨⟨hs, hr.2.1, hr.2.2, fun h => ?_⟩, hr.1⟩)
 simp only [Bool.not_eq_true'] at hb
 have h' : b = true := h
 rw [hb] at h'
 cases h'
end Go.Proofs.Ytehkignjdbkeiaa.Vf
end
