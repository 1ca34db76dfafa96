import Derived.Test.YtgocagaijgcnmaaGreatMab
import Derived.Test.YtgocagaijgcnmaaGreatMak
import Derived.Test.YtgocagaijgcnmaaGreatProg
import Derived.KernelRfl
namespace Go.Proofs.YtgocagaijgcnmaaGreat.Vf
open Go Go.Proofs
set_option linter.unusedVariables false
@[reducible] def t0 : Ty := .sl 9 .s
@[reducible] def t1 : Ty := .sl 4 .b
@[reducible] def t2 : Ty := .ow 4 .b
@[reducible] def t3 : Ty := .ow 9 .s
@[reducible] def t4 : Ty := .sl 5 (.i .u8)
@[reducible] def t5 : Ty := .ow 5 (.i .u8)
@[reducible] def t6 : Ty := .sl 3 (.i .i64)
@[reducible] def t7 : Ty := .pr .s (.i .u64)
@[reducible] def t8 : Ty := .pr (.i .i64) (.i .i64)
@[reducible] def t9 : Ty := .pr .s t4
@[reducible] def t10 : Ty := .pr .s t5
@[reducible] def t11 : Ty := .sl 73 t9
@[reducible] def t12 : Ty := .ow 73 t9
@[reducible] def t13 : Ty := .ow 73 t10
@[reducible] def t14 : Ty := .pr (.i .i64) t8
@[reducible] def t15 : Ty := .pr t4 (.pr (.i .i64) .b)
@[reducible] def t16 : Ty := .pr t4 t8
@[reducible] def t17 : Ty := .pr (.i .i64) (.pr (.i .i64) (.pr .b (.i .u8)))
@[reducible] def t18 : Ty := .pr t14 (.pr .b t4)
@[reducible] def t19 : Ty := .pr t14 (.pr .b t5)
@[reducible] def t20 : Ty := .pr t11 t11
@[reducible] def t21 : Ty := .pr .s (.pr t14 (.pr .b (.i .i64)))
@[reducible] def t22 : Ty := .pr t12 t12
@[reducible] def t23 : Ty := .pr t13 t13
@[reducible] def t24 : Ty := .sl 46 t21
@[reducible] def t25 : Ty := .ow 46 t21
@[reducible] def t26 : Ty := .pr t25 t25
@[reducible] def t27 : Ty := .pr t24 t25
@[reducible] def t28 : Ty := .pr (.i .i64) (.pr t20 (.pr t24 t24))
@[reducible] def t29 : Ty := .pr (.i .i64) (.pr t22 t26)
@[reducible] def t30 : Ty := .pr (.i .i64) (.pr t20 t26)
@[reducible] def t31 : Ty := .pr (.i .i64) (.pr t22 t27)
@[reducible] def t32 : Ty := .pr (.i .i64) (.pr t20 t27)
def tiL : List (Nat × TI) := [(2, ⟨(.i .i64), false, 8, []⟩),
 (3, ⟨(.i .i64), false, 8, []⟩),
 (4, ⟨.b, false, 1, []⟩),
 (5, ⟨(.i .u8), false, 1, []⟩),
 (6, ⟨(.i .u8), false, 1, []⟩),
 (7, ⟨t17, true, 24, [(0, 1, false), (1, 1, false), (2, 1, false), (3, 1, false)]⟩),
 (8, ⟨t17, true, 24, [(0, 1, false), (1, 1, false), (2, 1, false), (3, 1, false)]⟩),
 (9, ⟨.s, false, 16, []⟩),
 (10, ⟨.s, false, 16, []⟩),
 (11, ⟨.s, false, 16, []⟩),
 (12, ⟨(.i .u64), false, 8, []⟩),
 (13, ⟨t7, true, 24, [(0, 1, false), (1, 1, false)]⟩),
 (14, ⟨t7, true, 24, [(0, 1, false), (1, 1, false)]⟩),
 (21, ⟨(.i .i32), false, 4, []⟩),
 (22, ⟨t4, false, 24, []⟩),
 (24, ⟨t11, false, 24, []⟩),
 (25, ⟨t20, true, 48, [(0, 1, false), (1, 1, false)]⟩),
 (26, ⟨t20, true, 48, [(0, 1, false), (1, 1, false)]⟩),
 (27, ⟨t24, false, 24, []⟩),
 (28, ⟨t28, true, 104, [(0, 1, false), (1, 2, true), (3, 1, false), (4, 1, false)]⟩),
 (29, ⟨t28, true, 104, [(0, 1, false), (1, 2, true), (3, 1, false), (4, 1, false)]⟩),
 (30, ⟨t14, true, 24, [(0, 1, false), (1, 1, false), (2, 1, false)]⟩),
 (31, ⟨t14, true, 24, [(0, 1, false), (1, 1, false), (2, 1, false)]⟩),
 (32, ⟨t18, true, 56, [(0, 3, true), (3, 1, false), (4, 1, false)]⟩),
 (33, ⟨t18, true, 56, [(0, 3, true), (3, 1, false), (4, 1, false)]⟩),
 (39, ⟨t0, false, 24, []⟩),
 (45, ⟨t21, true, 56, [(0, 1, false), (1, 3, true), (4, 1, false), (5, 1, false)]⟩),
 (46, ⟨t21, true, 56, [(0, 1, false), (1, 3, true), (4, 1, false), (5, 1, false)]⟩),
 (48, ⟨t1, false, 24, []⟩),
 (72, ⟨t9, true, 40, [(0, 1, false), (1, 1, false)]⟩),
 (73, ⟨t9, true, 40, [(0, 1, false), (1, 1, false)]⟩),
 (88, ⟨t6, false, 24, []⟩),
 (92, ⟨t16, true, 40, [(0, 1, false), (1, 1, false), (2, 1, false)]⟩),
 (93, ⟨t16, true, 40, [(0, 1, false), (1, 1, false), (2, 1, false)]⟩),
 (107, ⟨t15, true, 40, [(0, 1, false), (1, 1, false), (2, 1, false)]⟩),
 (108, ⟨t15, true, 40, [(0, 1, false), (1, 1, false), (2, 1, false)]⟩),
 (115, ⟨(.i .u64), false, 8, []⟩),
 (138, ⟨(.i .u32), false, 4, []⟩),
 (149, ⟨(.i .u8), false, 1, []⟩),
 (150, ⟨(.i .u8), false, 1, []⟩),
 (153, ⟨(.i .i32), false, 4, []⟩),
 (154, ⟨(.i .i32), false, 4, []⟩)]
def ti : TypeId → Option TI := lk tiL
def eqsL : List Nat := [30, 31, 45, 46]
def eqs : TypeId → Bool := fun T => eqsL.contains T
theorem sK : SeatOk Tryz.prog ti eqs ∧ ∀ T, closeB Tryz.prog ti T = true := seatK (P := Tryz.prog) (ti := ti) (eqs := eqs) (keys := tiL.map Prod.fst) (eqsL := eqsL) lk_mem (by kernel_rfl) (by kernel_rfl) rfl (by kernel_rfl)
theorem sO : SeatOk Tryz.prog ti eqs := sK.1
theorem tiOk : ∀ T t, ti T = some t → TOk Tryz.prog T t := sO.tok
theorem tiCl : ∀ T, closeB Tryz.prog ti T = true := sK.2
def laws_big.e (k : Nat) : Ent := ⟨1, [(.val false t4)], [(.one, .b)], fun x => laws_big x⟩
def laws_big.d : Fd := { nt := 6, nv := 1, nm := [0, 1], res := [2] }
theorem laws_big.s (k : Nat) : CallOk Tryz.prog 5 (laws_big.e k) := mkS (D := laws_big.d) (k := k) sO [] Tryz.func5 trivial trivial (by kernel_rfl) (by kernel_rfl) (fun x => by kernel_rfl)
def spec_l1New.e (k : Nat) : Ent := ⟨1, [(.val false t4)], [(.ptr, t16)], fun x => spec_l1New k x⟩
def spec_l1New_l3.p : LF := ⟨⟨[], [(0, t4), (3, (.i .i64)), (4, (.i .i64))]⟩, [((.exit 0), ⟨[], [(0, t4), (3, (.i .i64))]⟩)], fun k x => spec_l1New_l3 k x.1 x.2.1 x.2.2⟩
def spec_l1New.d : Fd := { nt := 32, nv := 1, nm := [0, 1, 3, 4], res := [2], ls := [(3, spec_l1New_l3.p)] }
theorem spec_l1New_l3.s : LK Tryz.prog Tryz.f24 spec_l1New.d 3 spec_l1New_l3.p := mkL sO [] (by kernel_rfl) (fun _ => trivial) trivial (by kernel_rfl) (fun _ => rfl) (fun k x => by kernel_rfl)
theorem spec_l1New.s (k : Nat) : CallOk Tryz.prog 24 (spec_l1New.e k) := mkS (D := spec_l1New.d) (k := k) sO [3] Tryz.func24 trivial ⟨spec_l1New_l3.s, trivial⟩ (by kernel_rfl) (by kernel_rfl) (fun x => by kernel_rfl)
def spec_l1Byte.e (k : Nat) : Ent := ⟨1, [(.ptr t16 t16)], [(.one, (.i .i64))], fun x => spec_l1Byte x⟩
def spec_l1Byte.d : Fd := { nt := 58, nv := 1, nm := [0, 1, 3], res := [2] }
theorem spec_l1Byte.s (k : Nat) : CallOk Tryz.prog 85 (spec_l1Byte.e k) := mkS (D := spec_l1Byte.d) (k := k) sO [] Tryz.func85 trivial trivial (by kernel_rfl) (by kernel_rfl) (fun x => by kernel_rfl)
def spec_l1Below.e (k : Nat) : Ent := ⟨2, [(.ptr t16 t16), (.val false (.i .i64))], [(.one, (.i .i64))], fun x => spec_l1Below x.1 x.2⟩
def spec_l1Below.d : Fd := { nt := 31, nv := 2, nm := [0, 1, 2, 3, 5, 6, 7], res := [4], cs := fun k => [(85, spec_l1Byte.e k)] }
theorem spec_l1Below.s (k : Nat) : CallOk Tryz.prog 49 (spec_l1Below.e k) := mkS (D := spec_l1Below.d) (k := k) sO [] Tryz.func49 ⟨spec_l1Byte.s k, trivial⟩ trivial (by kernel_rfl) (by kernel_rfl) (fun x => by kernel_rfl)
def spec_l1Once.e (k : Nat) : Ent := ⟨2, [(.ptr t16 t16), (.val false (.i .i64))], [(.one, .b)], fun x => spec_l1Once x.1 x.2⟩
def spec_l1Once.d : Fd := { nt := 9, nv := 2, nm := [0, 1, 2, 3], res := [4], cs := fun k => [(49, spec_l1Below.e k)] }
theorem spec_l1Once.s (k : Nat) : CallOk Tryz.prog 28 (spec_l1Once.e k) := mkS (D := spec_l1Once.d) (k := k) sO [] Tryz.func28 ⟨spec_l1Below.s k, trivial⟩ trivial (by kernel_rfl) (by kernel_rfl) (fun x => by kernel_rfl)
def spec_l1Str.e (k : Nat) : Ent := ⟨2, [(.ptr t16 t16), (.val false t0)], [(.one, .s)], fun x => spec_l1Str x.1 x.2⟩
def spec_l1Str.d : Fd := { nt := 12, nv := 2, nm := [0, 1, 2, 3], res := [4], cs := fun k => [(49, spec_l1Below.e k)] }
theorem spec_l1Str.s (k : Nat) : CallOk Tryz.prog 62 (spec_l1Str.e k) := mkS (D := spec_l1Str.d) (k := k) sO [] Tryz.func62 ⟨spec_l1Below.s k, trivial⟩ trivial (by kernel_rfl) (by kernel_rfl) (fun x => by kernel_rfl)
def spec_l3Name.e (k : Nat) : Ent := ⟨1, [(.ptr t16 t16)], [(.one, .s)], fun x => spec_l3Name x⟩
def spec_l3Name.d : Fd := { nt := 6, nv := 1, nm := [0, 1], res := [2], cs := fun k => [(62, spec_l1Str.e k)] }
theorem spec_l3Name.s (k : Nat) : CallOk Tryz.prog 47 (spec_l3Name.e k) := mkS (D := spec_l3Name.d) (k := k) sO [] Tryz.func47 ⟨spec_l1Str.s k, trivial⟩ trivial (by kernel_rfl) (by kernel_rfl) (fun x => by kernel_rfl)
def spec_l3Any.e (k : Nat) : Ent := ⟨1, [(.ptr t16 t16)], [(.one, .s)], fun x => spec_l3Any x⟩
def spec_l3Any.d : Fd := { nt := 10, nv := 1, nm := [0, 1], res := [2], cs := fun k => [(28, spec_l1Once.e k), (47, spec_l3Name.e k), (62, spec_l1Str.e k)] }
theorem spec_l3Any.s (k : Nat) : CallOk Tryz.prog 26 (spec_l3Any.e k) := mkS (D := spec_l3Any.d) (k := k) sO [] Tryz.func26 ⟨spec_l1Once.s k, spec_l3Name.s k, spec_l1Str.s k, trivial⟩ trivial (by kernel_rfl) (by kernel_rfl) (fun x => by kernel_rfl)
def spec_l1Int.e (k : Nat) : Ent := ⟨2, [(.ptr t16 t16), (.val false t6)], [(.one, (.i .i64))], fun x => spec_l1Int x.1 x.2⟩
def spec_l1Int.d : Fd := { nt := 12, nv := 2, nm := [0, 1, 2, 3], res := [4], cs := fun k => [(49, spec_l1Below.e k)] }
theorem spec_l1Int.s (k : Nat) : CallOk Tryz.prog 50 (spec_l1Int.e k) := mkS (D := spec_l1Int.d) (k := k) sO [] Tryz.func50 ⟨spec_l1Below.s k, trivial⟩ trivial (by kernel_rfl) (by kernel_rfl) (fun x => by kernel_rfl)
def spec_l1In.e (k : Nat) : Ent := ⟨3, [(.val false (.i .i64)), (.val false (.i .i64)), (.val false (.i .i64))], [(.one, .b)], fun x => spec_l1In x.1 x.2.1 x.2.2⟩
def spec_l1In.d : Fd := { nt := 15, nv := 3, nm := [0, 1, 2, 3, 4, 5], res := [6] }
theorem spec_l1In.s (k : Nat) : CallOk Tryz.prog 55 (spec_l1In.e k) := mkS (D := spec_l1In.d) (k := k) sO [] Tryz.func55 trivial trivial (by kernel_rfl) (by kernel_rfl) (fun x => by kernel_rfl)
def spec_NameOk.e (k : Nat) : Ent := ⟨1, [(.val false .s)], [(.one, .b)], fun x => spec_NameOk k x⟩
def spec_NameOk_l2.p : LF := ⟨⟨[], [(0, .s), (3, (.i .i64))]⟩, [(.ret, ⟨[], [(2, .b)]⟩), ((.exit 0), ⟨[], [(0, .s)]⟩)], fun k x => spec_NameOk_l2 k x.1 x.2⟩
def spec_NameOk.d : Fd := { nt := 38, nv := 1, nm := [0, 1, 3, 4], res := [2], cs := fun k => [(55, spec_l1In.e k)], ls := [(2, spec_NameOk_l2.p)] }
theorem spec_NameOk.a (k : Nat) : AllC Tryz.prog (spec_NameOk.d.cs k) := ⟨spec_l1In.s k, trivial⟩
theorem spec_NameOk_l2.s : LK Tryz.prog Tryz.f34 spec_NameOk.d 2 spec_NameOk_l2.p := mkL sO [] (by kernel_rfl) spec_NameOk.a trivial (by kernel_rfl) (fun _ => rfl) (fun k x => by kernel_rfl)
theorem spec_NameOk.s (k : Nat) : CallOk Tryz.prog 34 (spec_NameOk.e k) := mkS (D := spec_NameOk.d) (k := k) sO [2] Tryz.func34 (spec_NameOk.a k) ⟨spec_NameOk_l2.s, trivial⟩ (by kernel_rfl) (by kernel_rfl) (fun x => by kernel_rfl)
def spec_StampOk.e (k : Nat) : Ent := ⟨1, [(.val true t14)], [(.one, .b)], fun x => spec_StampOk x⟩
def spec_StampOk.d : Fd := { nt := 16, nv := 1, nm := [0, 1], res := [2], cs := fun k => [(55, spec_l1In.e k)] }
theorem spec_StampOk.s (k : Nat) : CallOk Tryz.prog 73 (spec_StampOk.e k) := mkS (D := spec_StampOk.d) (k := k) sO [] Tryz.func73 ⟨spec_l1In.s k, trivial⟩ trivial (by kernel_rfl) (by kernel_rfl) (fun x => by kernel_rfl)
def spec_l11Row.e (k : Nat) : Ent := ⟨1, [(.val true t21)], [(.one, .b)], fun x => spec_l11Row k x⟩
def spec_l11Row.d : Fd := { nt := 26, nv := 1, nm := [0, 1], res := [2], cs := fun k => [(34, spec_NameOk.e k), (55, spec_l1In.e k), (73, spec_StampOk.e k)] }
theorem spec_l11Row.s (k : Nat) : CallOk Tryz.prog 54 (spec_l11Row.e k) := mkS (D := spec_l11Row.d) (k := k) sO [] Tryz.func54 ⟨spec_NameOk.s k, spec_l1In.s k, spec_StampOk.s k, trivial⟩ trivial (by kernel_rfl) (by kernel_rfl) (fun x => by kernel_rfl)
def spec_l9List.e (k : Nat) : Ent := ⟨1, [(.val false t11)], [(.one, .b)], fun x => spec_l9List k x⟩
def spec_l9List_l2.p : LF := ⟨⟨[], [(0, t11), (3, (.i .i64))]⟩, [(.ret, ⟨[], [(2, .b)]⟩), ((.exit 0), ⟨[], [(0, t11)]⟩)], fun k x => spec_l9List_l2 k x.1 x.2⟩
def spec_l9List.d : Fd := { nt := 47, nv := 1, nm := [0, 1, 3], res := [2], cs := fun k => [(34, spec_NameOk.e k)], ls := [(2, spec_l9List_l2.p)] }
theorem spec_l9List.a (k : Nat) : AllC Tryz.prog (spec_l9List.d.cs k) := ⟨spec_NameOk.s k, trivial⟩
theorem spec_l9List_l2.s : LK Tryz.prog Tryz.f87 spec_l9List.d 2 spec_l9List_l2.p := mkL sO [] (by kernel_rfl) spec_l9List.a trivial (by kernel_rfl) (fun _ => rfl) (fun k x => by kernel_rfl)
theorem spec_l9List.s (k : Nat) : CallOk Tryz.prog 87 (spec_l9List.e k) := mkS (D := spec_l9List.d) (k := k) sO [2] Tryz.func87 (spec_l9List.a k) ⟨spec_l9List_l2.s, trivial⟩ (by kernel_rfl) (by kernel_rfl) (fun x => by kernel_rfl)
def spec_DiskOk.e (k : Nat) : Ent := ⟨1, [(.val true t20)], [(.one, .b)], fun x => spec_DiskOk k x⟩
def spec_DiskOk.d : Fd := { nt := 11, nv := 1, nm := [0, 1], res := [2], cs := fun k => [(87, spec_l9List.e k)] }
theorem spec_DiskOk.s (k : Nat) : CallOk Tryz.prog 56 (spec_DiskOk.e k) := mkS (D := spec_DiskOk.d) (k := k) sO [] Tryz.func56 ⟨spec_l9List.s k, trivial⟩ trivial (by kernel_rfl) (by kernel_rfl) (fun x => by kernel_rfl)
def spec_RowsOk.e (k : Nat) : Ent := ⟨1, [(.val false t24)], [(.one, .b)], fun x => spec_RowsOk k x⟩
def spec_RowsOk_l2.p : LF := ⟨⟨[], [(0, t24), (3, (.i .i64))]⟩, [(.ret, ⟨[], [(2, .b)]⟩), ((.exit 0), ⟨[], [(0, t24)]⟩)], fun k x => spec_RowsOk_l2 k x.1 x.2⟩
def spec_RowsOk.d : Fd := { nt := 37, nv := 1, nm := [0, 1, 3], res := [2], cs := fun k => [(54, spec_l11Row.e k)], ls := [(2, spec_RowsOk_l2.p)] }
theorem spec_RowsOk.a (k : Nat) : AllC Tryz.prog (spec_RowsOk.d.cs k) := ⟨spec_l11Row.s k, trivial⟩
theorem spec_RowsOk_l2.s : LK Tryz.prog Tryz.f57 spec_RowsOk.d 2 spec_RowsOk_l2.p := mkL sO [] (by kernel_rfl) spec_RowsOk.a trivial (by kernel_rfl) (fun _ => rfl) (fun k x => by kernel_rfl)
theorem spec_RowsOk.s (k : Nat) : CallOk Tryz.prog 57 (spec_RowsOk.e k) := mkS (D := spec_RowsOk.d) (k := k) sO [2] Tryz.func57 (spec_RowsOk.a k) ⟨spec_RowsOk_l2.s, trivial⟩ (by kernel_rfl) (by kernel_rfl) (fun x => by kernel_rfl)
def spec_NodeOk.e (k : Nat) : Ent := ⟨1, [(.val true t28)], [(.one, .b)], fun x => spec_NodeOk k x⟩
def spec_NodeOk_l2.p : LF := ⟨⟨[(1, (.bp 1 0 0)), (2999, (.hd 5))], [(3, (.i .i64)), (2000, (.i .i64)), (2001, t11), (2002, t11), (2003, t24), (2004, t24)]⟩, [(.ret, ⟨[], [(2, .b)]⟩), ((.exit 0), ⟨[(1, (.bp 1 0 0)), (2999, (.hd 5))], [(2000, (.i .i64)), (2001, t11), (2002, t11), (2003, t24), (2004, t24)]⟩)], fun k x => spec_NodeOk_l2 k x.1 x.2.1 x.2.2.1 x.2.2.2.1 x.2.2.2.2.1 x.2.2.2.2.2⟩
def spec_NodeOk.d : Fd := { nt := 37, nv := 1, nm := [0, 1, 3], res := [2], cs := fun k => [(54, spec_l11Row.e k), (55, spec_l1In.e k), (56, spec_DiskOk.e k), (57, spec_RowsOk.e k)], ls := [(2, spec_NodeOk_l2.p)] }
theorem spec_NodeOk.a (k : Nat) : AllC Tryz.prog (spec_NodeOk.d.cs k) := ⟨spec_l11Row.s k, spec_l1In.s k, spec_DiskOk.s k, spec_RowsOk.s k, trivial⟩
theorem spec_NodeOk_l2.s : LK Tryz.prog Tryz.f20 spec_NodeOk.d 2 spec_NodeOk_l2.p := mkL sO [] (by kernel_rfl) spec_NodeOk.a trivial (by kernel_rfl) (fun _ => rfl) (fun k x => by kernel_rfl)
theorem spec_NodeOk.s (k : Nat) : CallOk Tryz.prog 20 (spec_NodeOk.e k) := mkS (D := spec_NodeOk.d) (k := k) sO [2] Tryz.func20 (spec_NodeOk.a k) ⟨spec_NodeOk_l2.s, trivial⟩ (by kernel_rfl) (by kernel_rfl) (fun x => by kernel_rfl)
def spec_l9CopyList.e (k : Nat) : Ent := ⟨1, [(.val false t11)], [(.one, t12)], fun x => spec_l9CopyList k x⟩
def spec_l9CopyList_l3.p : LF := ⟨⟨[], [(0, t11), (3, t12), (4, (.i .i64))]⟩, [((.exit 0), ⟨[], [(3, t12)]⟩)], fun k x => spec_l9CopyList_l3 k x.1 x.2.1 x.2.2⟩
def spec_l9CopyList.d : Fd := { nt := 29, nv := 1, nm := [0, 1, 3, 4], res := [2], ls := [(3, spec_l9CopyList_l3.p)] }
theorem spec_l9CopyList_l3.s : LK Tryz.prog Tryz.f101 spec_l9CopyList.d 3 spec_l9CopyList_l3.p := mkL sO [] (by kernel_rfl) (fun _ => trivial) trivial (by kernel_rfl) (fun _ => rfl) (fun k x => by kernel_rfl)
theorem spec_l9CopyList.s (k : Nat) : CallOk Tryz.prog 101 (spec_l9CopyList.e k) := mkS (D := spec_l9CopyList.d) (k := k) sO [3] Tryz.func101 trivial ⟨spec_l9CopyList_l3.s, trivial⟩ (by kernel_rfl) (by kernel_rfl) (fun x => by kernel_rfl)
def spec_l9CopyList_d.e (k : Nat) : Ent := ⟨1, [(.val false t11)], [(.one, t13)], fun x => spec_l9CopyList_d k x⟩
def spec_l9CopyList_d_l3.p : LF := ⟨⟨[], [(0, t11), (3, t13), (4, (.i .i64))]⟩, [((.exit 0), ⟨[], [(3, t13)]⟩)], fun k x => spec_l9CopyList_d_l3 k x.1 x.2.1 x.2.2⟩
def spec_l9CopyList_d.d : Fd := { nt := 29, nv := 1, nm := [0, 1, 3, 4], res := [2], ls := [(3, spec_l9CopyList_d_l3.p)], hint := [(5, t10), (26, t10), (27, t10)] }
theorem spec_l9CopyList_d_l3.s : LK Tryz.prog Tryz.f101 spec_l9CopyList_d.d 3 spec_l9CopyList_d_l3.p := mkL sO [] (by kernel_rfl) (fun _ => trivial) trivial (by kernel_rfl) (fun _ => rfl) (fun k x => by kernel_rfl)
theorem spec_l9CopyList_d.s (k : Nat) : CallOk Tryz.prog 101 (spec_l9CopyList_d.e k) := mkS (D := spec_l9CopyList_d.d) (k := k) sO [3] Tryz.func101 trivial ⟨spec_l9CopyList_d_l3.s, trivial⟩ (by kernel_rfl) (by kernel_rfl) (fun x => by kernel_rfl)
def spec_l9Copy.e (k : Nat) : Ent := ⟨1, [(.val true t20)], [(.agg, t22)], fun x => spec_l9Copy k x⟩
def spec_l9Copy.d : Fd := { nt := 10, nv := 1, nm := [0, 1], res := [], cs := fun k => [(101, spec_l9CopyList.e k)] }
theorem spec_l9Copy.s (k : Nat) : CallOk Tryz.prog 72 (spec_l9Copy.e k) := mkS (D := spec_l9Copy.d) (k := k) sO [] Tryz.func72 ⟨spec_l9CopyList.s k, trivial⟩ trivial (by kernel_rfl) (by kernel_rfl) (fun x => by kernel_rfl)
def spec_l9Copy_d.e (k : Nat) : Ent := ⟨1, [(.val true t20)], [(.agg, t23)], fun x => spec_l9Copy_d k x⟩
def spec_l9Copy_d.d : Fd := { nt := 10, nv := 1, nm := [0, 1], res := [], cs := fun k => [(101, spec_l9CopyList_d.e k)] }
theorem spec_l9Copy_d.s (k : Nat) : CallOk Tryz.prog 72 (spec_l9Copy_d.e k) := mkS (D := spec_l9Copy_d.d) (k := k) sO [] Tryz.func72 ⟨spec_l9CopyList_d.s k, trivial⟩ trivial (by kernel_rfl) (by kernel_rfl) (fun x => by kernel_rfl)
def spec_l12Copy.e (k : Nat) : Ent := ⟨1, [(.val true t28)], [(.agg, t29)], fun x => spec_l12Copy k x⟩
def spec_l12Copy.d : Fd := { nt := 17, nv := 1, nm := [0, 1], res := [], cs := fun k => [(72, spec_l9Copy.e k)] }
theorem spec_l12Copy.s (k : Nat) : CallOk Tryz.prog 33 (spec_l12Copy.e k) := mkS (D := spec_l12Copy.d) (k := k) sO [] Tryz.func33 ⟨spec_l9Copy.s k, trivial⟩ trivial (by kernel_rfl) (by kernel_rfl) (fun x => by kernel_rfl)
def spec_FileOk.e (k : Nat) : Ent := ⟨1, [(.val true t18)], [(.one, .b)], fun x => spec_FileOk x⟩
def spec_FileOk.d : Fd := { nt := 23, nv := 1, nm := [0, 1], res := [2], cs := fun k => [(73, spec_StampOk.e k)] }
theorem spec_FileOk.s (k : Nat) : CallOk Tryz.prog 35 (spec_FileOk.e k) := mkS (D := spec_FileOk.d) (k := k) sO [] Tryz.func35 ⟨spec_StampOk.s k, trivial⟩ trivial (by kernel_rfl) (by kernel_rfl) (fun x => by kernel_rfl)
def spec_PutNum.e (k : Nat) : Ent := ⟨2, [(.val false t4), (.val false (.i .i64))], [(.one, t5)], fun x => spec_PutNum k x.1 x.2⟩
def spec_PutNum_l6.p : LF := ⟨⟨[], [(1, (.i .i64)), (5, t5)]⟩, [((.exit 0), ⟨[], [(1, (.i .i64)), (5, t5)]⟩)], fun k x => spec_PutNum_l6 k x.1 x.2⟩
def spec_PutNum.d : Fd := { nt := 29, nv := 2, nm := [0, 1, 2, 3, 5], res := [4], ls := [(6, spec_PutNum_l6.p)] }
theorem spec_PutNum_l6.s : LK Tryz.prog Tryz.f122 spec_PutNum.d 6 spec_PutNum_l6.p := mkL sO [] (by kernel_rfl) (fun _ => trivial) trivial (by kernel_rfl) (fun _ => rfl) (fun k x => by kernel_rfl)
theorem spec_PutNum.s (k : Nat) : CallOk Tryz.prog 122 (spec_PutNum.e k) := mkS (D := spec_PutNum.d) (k := k) sO [6] Tryz.func122 trivial ⟨spec_PutNum_l6.s, trivial⟩ (by kernel_rfl) (by kernel_rfl) (fun x => by kernel_rfl)
def spec_PutText.e (k : Nat) : Ent := ⟨2, [(.val false t4), (.val false .s)], [(.one, t5)], fun x => spec_PutText k x.1 x.2⟩
def spec_PutText.d : Fd := { nt := 11, nv := 2, nm := [0, 1, 2, 3], res := [4], cs := fun k => [(122, spec_PutNum.e k)] }
theorem spec_PutText.s (k : Nat) : CallOk Tryz.prog 121 (spec_PutText.e k) := mkS (D := spec_PutText.d) (k := k) sO [] Tryz.func121 ⟨spec_PutNum.s k, trivial⟩ trivial (by kernel_rfl) (by kernel_rfl) (fun x => by kernel_rfl)
def spec_l8Stamp.e (k : Nat) : Ent := ⟨2, [(.val false t4), (.val true t14)], [(.one, t5)], fun x => spec_l8Stamp k x.1 x.2⟩
def spec_l8Stamp.d : Fd := { nt := 15, nv := 2, nm := [0, 1, 2, 3], res := [4], cs := fun k => [(122, spec_PutNum.e k)] }
theorem spec_l8Stamp.s (k : Nat) : CallOk Tryz.prog 123 (spec_l8Stamp.e k) := mkS (D := spec_l8Stamp.d) (k := k) sO [] Tryz.func123 ⟨spec_PutNum.s k, trivial⟩ trivial (by kernel_rfl) (by kernel_rfl) (fun x => by kernel_rfl)
def spec_l8Bool.e (k : Nat) : Ent := ⟨1, [(.val false .b)], [(.one, (.i .i64))], fun x => spec_l8Bool x⟩
def spec_l8Bool.d : Fd := { nt := 4, nv := 1, nm := [0, 1], res := [2] }
theorem spec_l8Bool.s (k : Nat) : CallOk Tryz.prog 124 (spec_l8Bool.e k) := mkS (D := spec_l8Bool.d) (k := k) sO [] Tryz.func124 trivial trivial (by kernel_rfl) (by kernel_rfl) (fun x => by kernel_rfl)
def spec_Crc.e (k : Nat) : Ent := ⟨1, [(.val false t4)], [(.one, (.i .i64))], fun x => spec_Crc k x⟩
def spec_Crc_l7.p : LF := ⟨⟨[], [(0, t4), (3, (.i .i64)), (4, (.i .i64)), (5, (.i .i64))]⟩, [((.exit 2), ⟨[], [(0, t4), (3, (.i .i64)), (4, (.i .i64))]⟩)], fun k x => spec_Crc_l7 k x.1 x.2.1 x.2.2.1 x.2.2.2⟩
def spec_Crc_l3.p : LF := ⟨⟨[], [(0, t4), (3, (.i .i64)), (4, (.i .i64))]⟩, [((.exit 0), ⟨[], [(3, (.i .i64))]⟩)], fun k x => spec_Crc_l3 k x.1 x.2.1 x.2.2⟩
def spec_Crc.d : Fd := { nt := 34, nv := 1, nm := [0, 1, 3, 4, 5, 6], res := [2], ls := [(7, spec_Crc_l7.p), (3, spec_Crc_l3.p)] }
theorem spec_Crc_l7.s : LK Tryz.prog Tryz.f125 spec_Crc.d 7 spec_Crc_l7.p := mkL sO [] (by kernel_rfl) (fun _ => trivial) trivial (by kernel_rfl) (fun _ => rfl) (fun k x => by kernel_rfl)
theorem spec_Crc_l3.s : LK Tryz.prog Tryz.f125 spec_Crc.d 3 spec_Crc_l3.p := mkL sO [7] (by kernel_rfl) (fun _ => trivial) ⟨spec_Crc_l7.s, trivial⟩ (by kernel_rfl) (fun _ => rfl) (fun k x => by kernel_rfl)
theorem spec_Crc.s (k : Nat) : CallOk Tryz.prog 125 (spec_Crc.e k) := mkS (D := spec_Crc.d) (k := k) sO [3] Tryz.func125 trivial ⟨spec_Crc_l3.s, trivial⟩ (by kernel_rfl) (by kernel_rfl) (fun x => by kernel_rfl)
def spec_PutFile.e (k : Nat) : Ent := ⟨1, [(.val true t18)], [(.one, t5)], fun x => spec_PutFile k x⟩
def spec_PutFile.d : Fd := { nt := 37, nv := 1, nm := [0, 1, 3, 4], res := [2], cs := fun k => [(35, spec_FileOk.e k), (121, spec_PutText.e k), (122, spec_PutNum.e k), (123, spec_l8Stamp.e k), (124, spec_l8Bool.e k), (125, spec_Crc.e k)] }
theorem spec_PutFile.s (k : Nat) : CallOk Tryz.prog 105 (spec_PutFile.e k) := mkS (D := spec_PutFile.d) (k := k) sO [] Tryz.func105 ⟨spec_FileOk.s k, spec_PutText.s k, spec_PutNum.s k, spec_l8Stamp.s k, spec_l8Bool.s k, spec_Crc.s k, trivial⟩ trivial (by kernel_rfl) (by kernel_rfl) (fun x => by kernel_rfl)
def spec_GetNum.e (k : Nat) : Ent := ⟨2, [(.val false t4), (.val false (.i .i64))], [(.one, (.i .i64)), (.one, (.i .i64)), (.one, .b)], fun x => spec_GetNum k x.1 x.2⟩
def spec_GetNum_l3.p : LF := ⟨⟨[], [(0, t4), (1, (.i .i64)), (7, (.i .i64)), (8, (.i .i64))]⟩, [(.ret, ⟨[], [(4, (.i .i64)), (5, (.i .i64)), (6, .b)]⟩), ((.exit 0), ⟨[], []⟩)], fun k x => spec_GetNum_l3 k x.1 x.2.1 x.2.2.1 x.2.2.2⟩
def spec_GetNum.d : Fd := { nt := 64, nv := 2, nm := [0, 1, 2, 3, 7, 8, 9], res := [4, 5, 6], ls := [(3, spec_GetNum_l3.p)] }
theorem spec_GetNum_l3.s : LK Tryz.prog Tryz.f109 spec_GetNum.d 3 spec_GetNum_l3.p := mkL sO [] (by kernel_rfl) (fun _ => trivial) trivial (by kernel_rfl) (fun _ => rfl) (fun k x => by kernel_rfl)
theorem spec_GetNum.s (k : Nat) : CallOk Tryz.prog 109 (spec_GetNum.e k) := mkS (D := spec_GetNum.d) (k := k) sO [3] Tryz.func109 trivial ⟨spec_GetNum_l3.s, trivial⟩ (by kernel_rfl) (by kernel_rfl) (fun x => by kernel_rfl)
def spec_l8GetStamp.e (k : Nat) : Ent := ⟨2, [(.val false t4), (.val false (.i .i64))], [(.agg, t14), (.one, (.i .i64)), (.one, .b)], fun x => spec_l8GetStamp k x.1 x.2⟩
def spec_l8GetStamp.d : Fd := { nt := 49, nv := 2, nm := [0, 1, 2, 3, 7, 8, 9, 10, 11, 12, 13, 14, 15], res := [5, 6], cs := fun k => [(109, spec_GetNum.e k)] }
theorem spec_l8GetStamp.s (k : Nat) : CallOk Tryz.prog 108 (spec_l8GetStamp.e k) := mkS (D := spec_l8GetStamp.d) (k := k) sO [] Tryz.func108 ⟨spec_GetNum.s k, trivial⟩ trivial (by kernel_rfl) (by kernel_rfl) (fun x => by kernel_rfl)
def spec_GetText.e (k : Nat) : Ent := ⟨2, [(.val false t4), (.val false (.i .i64))], [(.one, .s), (.one, (.i .i64)), (.one, .b)], fun x => spec_GetText k x.1 x.2⟩
def spec_GetText.d : Fd := { nt := 37, nv := 2, nm := [0, 1, 2, 3, 7, 8, 9], res := [4, 5, 6], cs := fun k => [(109, spec_GetNum.e k)] }
theorem spec_GetText.s (k : Nat) : CallOk Tryz.prog 110 (spec_GetText.e k) := mkS (D := spec_GetText.d) (k := k) sO [] Tryz.func110 ⟨spec_GetNum.s k, trivial⟩ trivial (by kernel_rfl) (by kernel_rfl) (fun x => by kernel_rfl)
def spec_GetFile.e (k : Nat) : Ent := ⟨1, [(.val false t4)], [(.agg, t19), (.one, .b)], fun x => spec_GetFile k x⟩
def spec_GetFile.d : Fd := { nt := 76, nv := 1, nm := [0, 1, 4, 5, 6, 7, 8, 9, 10, 11, 12, 13], res := [3], cs := fun k => [(35, spec_FileOk.e k), (105, spec_PutFile.e k), (108, spec_l8GetStamp.e k), (109, spec_GetNum.e k), (110, spec_GetText.e k)], mv := [75] }
theorem spec_GetFile.s (k : Nat) : CallOk Tryz.prog 82 (spec_GetFile.e k) := mkS (D := spec_GetFile.d) (k := k) sO [] Tryz.func82 ⟨spec_FileOk.s k, spec_PutFile.s k, spec_l8GetStamp.s k, spec_GetNum.s k, spec_GetText.s k, trivial⟩ trivial (by kernel_rfl) (by kernel_rfl) (fun x => by kernel_rfl)
def spec_l9At.e (k : Nat) : Ent := ⟨2, [(.val false t11), (.val false .s)], [(.one, (.i .i64))], fun x => spec_l9At k x.1 x.2⟩
def spec_l9At_l2.p : LF := ⟨⟨[], [(0, t11), (1, .s), (5, (.i .i64))]⟩, [(.ret, ⟨[], [(4, (.i .i64))]⟩), ((.exit 0), ⟨[], []⟩)], fun k x => spec_l9At_l2 k x.1 x.2.1 x.2.2⟩
def spec_l9At.d : Fd := { nt := 20, nv := 2, nm := [0, 1, 2, 3, 5], res := [4], ls := [(2, spec_l9At_l2.p)] }
theorem spec_l9At_l2.s : LK Tryz.prog Tryz.f84 spec_l9At.d 2 spec_l9At_l2.p := mkL sO [] (by kernel_rfl) (fun _ => trivial) trivial (by kernel_rfl) (fun _ => rfl) (fun k x => by kernel_rfl)
theorem spec_l9At.s (k : Nat) : CallOk Tryz.prog 84 (spec_l9At.e k) := mkS (D := spec_l9At.d) (k := k) sO [2] Tryz.func84 trivial ⟨spec_l9At_l2.s, trivial⟩ (by kernel_rfl) (by kernel_rfl) (fun x => by kernel_rfl)
def spec_ReadName.e (k : Nat) : Ent := ⟨2, [(.val true t20), (.val false .s)], [(.one, t5), (.one, .b)], fun x => spec_ReadName k x.1 x.2⟩
def spec_ReadName.d : Fd := { nt := 22, nv := 2, nm := [0, 1, 2, 3, 6], res := [4, 5], cs := fun k => [(84, spec_l9At.e k)] }
theorem spec_ReadName.s (k : Nat) : CallOk Tryz.prog 86 (spec_ReadName.e k) := mkS (D := spec_ReadName.d) (k := k) sO [] Tryz.func86 ⟨spec_l9At.s k, trivial⟩ trivial (by kernel_rfl) (by kernel_rfl) (fun x => by kernel_rfl)
def spec_Look.e (k : Nat) : Ent := ⟨2, [(.val true t20), (.val false .s)], [(.agg, t19), (.one, (.i .i64))], fun x => spec_Look k x.1 x.2⟩
def spec_Look.d : Fd := { nt := 28, nv := 2, nm := [0, 1, 2, 3, 6, 7, 8, 9], res := [5], cs := fun k => [(82, spec_GetFile.e k), (86, spec_ReadName.e k)], mv := [27] }
theorem spec_Look.s (k : Nat) : CallOk Tryz.prog 52 (spec_Look.e k) := mkS (D := spec_Look.d) (k := k) sO [] Tryz.func52 ⟨spec_GetFile.s k, spec_ReadName.s k, trivial⟩ trivial (by kernel_rfl) (by kernel_rfl) (fun x => by kernel_rfl)
def spec_LessStamp.e (k : Nat) : Ent := ⟨2, [(.val true t14), (.val true t14)], [(.one, .b)], fun x => spec_LessStamp x.1 x.2⟩
def spec_LessStamp.d : Fd := { nt := 32, nv := 2, nm := [0, 1, 2, 3], res := [4] }
theorem spec_LessStamp.s (k : Nat) : CallOk Tryz.prog 117 (spec_LessStamp.e k) := mkS (D := spec_LessStamp.d) (k := k) sO [] Tryz.func117 trivial trivial (by kernel_rfl) (by kernel_rfl) (fun x => by kernel_rfl)
def spec_Newer.e (k : Nat) : Ent := ⟨2, [(.val true t18), (.val true t18)], [(.one, .b)], fun x => spec_Newer x.1 x.2⟩
def spec_Newer.d : Fd := { nt := 10, nv := 2, nm := [0, 1, 2, 3], res := [4], cs := fun k => [(117, spec_LessStamp.e k)] }
theorem spec_Newer.s (k : Nat) : CallOk Tryz.prog 102 (spec_Newer.e k) := mkS (D := spec_Newer.d) (k := k) sO [] Tryz.func102 ⟨spec_LessStamp.s k, trivial⟩ trivial (by kernel_rfl) (by kernel_rfl) (fun x => by kernel_rfl)
def spec_l9Cut.e (k : Nat) : Ent := ⟨2, [(.val false t11), (.val false .s)], [(.one, t12)], fun x => spec_l9Cut k x.1 x.2⟩
def spec_l9Cut_l3.p : LF := ⟨⟨[], [(0, t11), (1, .s), (5, t12), (6, (.i .i64))]⟩, [((.exit 0), ⟨[], [(5, t12)]⟩)], fun k x => spec_l9Cut_l3 k x.1 x.2.1 x.2.2.1 x.2.2.2⟩
def spec_l9Cut.d : Fd := { nt := 29, nv := 2, nm := [0, 1, 2, 3, 5, 6], res := [4], ls := [(3, spec_l9Cut_l3.p)] }
theorem spec_l9Cut_l3.s : LK Tryz.prog Tryz.f118 spec_l9Cut.d 3 spec_l9Cut_l3.p := mkL sO [] (by kernel_rfl) (fun _ => trivial) trivial (by kernel_rfl) (fun _ => rfl) (fun k x => by kernel_rfl)
theorem spec_l9Cut.s (k : Nat) : CallOk Tryz.prog 118 (spec_l9Cut.e k) := mkS (D := spec_l9Cut.d) (k := k) sO [3] Tryz.func118 trivial ⟨spec_l9Cut_l3.s, trivial⟩ (by kernel_rfl) (by kernel_rfl) (fun x => by kernel_rfl)
def spec_l9Put.e (k : Nat) : Ent := ⟨3, [(.val false t11), (.val false .s), (.val false t4)], [(.one, t12)], fun x => spec_l9Put k x.1 x.2.1 x.2.2⟩
def spec_l9Put_l5.p : LF := ⟨⟨[(9, (.bp 9 0 0)), (10999, (.hd 2))], [(0, t11), (1, .s), (7, t12), (8, .b), (10, (.i .i64)), (10000, .s), (10001, t4)]⟩, [((.exit 0), ⟨[(9, (.bp 9 0 0)), (10999, (.hd 2))], [(7, t12), (8, .b), (10000, .s), (10001, t4)]⟩)], fun k x => spec_l9Put_l5 k x.1 x.2.1 x.2.2.1 x.2.2.2.1 x.2.2.2.2.1 x.2.2.2.2.2.1 x.2.2.2.2.2.2⟩
def spec_l9Put.d : Fd := { nt := 59, nv := 3, nm := [0, 1, 2, 3, 4, 5, 7, 8, 9, 10], res := [6], ls := [(5, spec_l9Put_l5.p)] }
theorem spec_l9Put_l5.s : LK Tryz.prog Tryz.f119 spec_l9Put.d 5 spec_l9Put_l5.p := mkL sO [] (by kernel_rfl) (fun _ => trivial) trivial (by kernel_rfl) (fun _ => rfl) (fun k x => by kernel_rfl)
theorem spec_l9Put.s (k : Nat) : CallOk Tryz.prog 119 (spec_l9Put.e k) := mkS (D := spec_l9Put.d) (k := k) sO [5] Tryz.func119 trivial ⟨spec_l9Put_l5.s, trivial⟩ (by kernel_rfl) (by kernel_rfl) (fun x => by kernel_rfl)
def spec_l9Ends.e (k : Nat) : Ent := ⟨3, [(.val true t20), (.val true t22), (.val false .s)], [(.agg, t22), (.one, .b)], fun x => spec_l9Ends k x.1 x.2.1 x.2.2⟩
def spec_l9Ends.d : Fd := { nt := 24, nv := 3, nm := [0, 1, 2, 3, 4, 5], res := [7], cs := fun k => [(34, spec_NameOk.e k), (56, spec_DiskOk.e k), (72, spec_l9Copy.e k)], mv := [23] }
theorem spec_l9Ends.s (k : Nat) : CallOk Tryz.prog 120 (spec_l9Ends.e k) := mkS (D := spec_l9Ends.d) (k := k) sO [] Tryz.func120 ⟨spec_NameOk.s k, spec_DiskOk.s k, spec_l9Copy.s k, trivial⟩ trivial (by kernel_rfl) (by kernel_rfl) (fun x => by kernel_rfl)
def spec_SyncName.e (k : Nat) : Ent := ⟨2, [(.val true t20), (.val false .s)], [(.agg, t22), (.one, .b)], fun x => spec_SyncName k x.1 x.2⟩
def spec_SyncName.d : Fd := { nt := 35, nv := 2, nm := [0, 1, 2, 3, 6, 7, 8], res := [5], cs := fun k => [(72, spec_l9Copy.e k), (86, spec_ReadName.e k), (118, spec_l9Cut.e k), (119, spec_l9Put.e k), (120, spec_l9Ends.e k)] }
theorem spec_SyncName.s (k : Nat) : CallOk Tryz.prog 103 (spec_SyncName.e k) := mkS (D := spec_SyncName.d) (k := k) sO [] Tryz.func103 ⟨spec_l9Copy.s k, spec_ReadName.s k, spec_l9Cut.s k, spec_l9Put.s k, spec_l9Ends.s k, trivial⟩ trivial (by kernel_rfl) (by kernel_rfl) (fun x => by kernel_rfl)
def spec_WriteName.e (k : Nat) : Ent := ⟨3, [(.val true t20), (.val false .s), (.val false t4)], [(.agg, t22), (.one, .b)], fun x => spec_WriteName k x.1 x.2.1 x.2.2⟩
def spec_WriteName.d : Fd := { nt := 23, nv := 3, nm := [0, 1, 2, 3, 4, 5, 8], res := [7], cs := fun k => [(72, spec_l9Copy.e k), (119, spec_l9Put.e k), (120, spec_l9Ends.e k)] }
theorem spec_WriteName.s (k : Nat) : CallOk Tryz.prog 104 (spec_WriteName.e k) := mkS (D := spec_WriteName.d) (k := k) sO [] Tryz.func104 ⟨spec_l9Copy.s k, spec_l9Put.s k, spec_l9Ends.s k, trivial⟩ trivial (by kernel_rfl) (by kernel_rfl) (fun x => by kernel_rfl)
def spec_Keep.e (k : Nat) : Ent := ⟨4, [(.val true t20), (.val false .s), (.val true t18), (.val false .b)], [(.agg, t22), (.one, (.i .i64))], fun x => spec_Keep k x.1 x.2.1 x.2.2.1 x.2.2.2⟩
def spec_Keep.d : Fd := { nt := 82, nv := 4, nm := [0, 1, 2, 3, 4, 5, 6, 7, 10, 11, 12, 13, 14, 15], res := [9], cs := fun k => [(34, spec_NameOk.e k), (35, spec_FileOk.e k), (52, spec_Look.e k), (56, spec_DiskOk.e k), (72, spec_l9Copy.e k), (102, spec_Newer.e k), (103, spec_SyncName.e k), (104, spec_WriteName.e k), (105, spec_PutFile.e k)], mv := [58, 81] }
theorem spec_Keep.s (k : Nat) : CallOk Tryz.prog 74 (spec_Keep.e k) := mkS (D := spec_Keep.d) (k := k) sO [] Tryz.func74 ⟨spec_NameOk.s k, spec_FileOk.s k, spec_Look.s k, spec_DiskOk.s k, spec_l9Copy.s k, spec_Newer.s k, spec_SyncName.s k, spec_WriteName.s k, spec_PutFile.s k, trivial⟩ trivial (by kernel_rfl) (by kernel_rfl) (fun x => by kernel_rfl)
def spec_RowOf.e (k : Nat) : Ent := ⟨2, [(.val false .s), (.val true t18)], [(.agg, t21)], fun x => spec_RowOf x.1 x.2⟩
def spec_RowOf.d : Fd := { nt := 14, nv := 2, nm := [0, 1, 2, 3], res := [] }
theorem spec_RowOf.s (k : Nat) : CallOk Tryz.prog 75 (spec_RowOf.e k) := mkS (D := spec_RowOf.d) (k := k) sO [] Tryz.func75 trivial trivial (by kernel_rfl) (by kernel_rfl) (fun x => by kernel_rfl)
def spec_l12Put_o.e (k : Nat) : Ent := ⟨4, [(.ptr t29 t30), (.val false .s), (.val true t18), (.val false .b)], [(.one, (.i .i64))], fun x => spec_l12Put_o k x.1 x.2.1 x.2.2.1 x.2.2.2⟩
def spec_l12Put_o.d : Fd := { nt := 52, nv := 4, nm := [0, 1, 2, 3, 4, 5, 6, 7, 9, 10], res := [8], cs := fun k => [(74, spec_Keep.e k), (75, spec_RowOf.e k)] }
theorem spec_l12Put_o.s (k : Nat) : CallOk Tryz.prog 36 (spec_l12Put_o.e k) := mkS (D := spec_l12Put_o.d) (k := k) sO [] Tryz.func36 ⟨spec_Keep.s k, spec_RowOf.s k, trivial⟩ trivial (by kernel_rfl) (by kernel_rfl) (fun x => by kernel_rfl)
def spec_NodePut.e (k : Nat) : Ent := ⟨4, [(.val true t28), (.val false .s), (.val true t18), (.val false .b)], [(.agg, t30), (.one, (.i .i64))], fun x => spec_NodePut k x.1 x.2.1 x.2.2.1 x.2.2.2⟩
def spec_NodePut.d : Fd := { nt := 34, nv := 4, nm := [0, 1, 2, 3, 4, 5, 6, 7, 10, 11], res := [9], cs := fun k => [(20, spec_NodeOk.e k), (33, spec_l12Copy.e k), (34, spec_NameOk.e k), (35, spec_FileOk.e k), (36, spec_l12Put_o.e k)], mv := [27, 32] }
theorem spec_NodePut.s (k : Nat) : CallOk Tryz.prog 8 (spec_NodePut.e k) := mkS (D := spec_NodePut.d) (k := k) sO [] Tryz.func8 ⟨spec_NodeOk.s k, spec_l12Copy.s k, spec_NameOk.s k, spec_FileOk.s k, spec_l12Put_o.s k, trivial⟩ trivial (by kernel_rfl) (by kernel_rfl) (fun x => by kernel_rfl)
def spec_RotBit.e (k : Nat) : Ent := ⟨3, [(.val true t20), (.val false .s), (.val false (.i .i64))], [(.agg, t23), (.one, .b)], fun x => spec_RotBit k x.1 x.2.1 x.2.2⟩
def spec_RotBit.d : Fd := { nt := 97, nv := 3, nm := [0, 1, 2, 3, 4, 5, 8, 9, 10, 11], res := [7], cs := fun k => [(55, spec_l1In.e k), (56, spec_DiskOk.e k), (72, spec_l9Copy_d.e k), (84, spec_l9At.e k)], mv := [39, 96] }
theorem spec_RotBit.s (k : Nat) : CallOk Tryz.prog 53 (spec_RotBit.e k) := mkS (D := spec_RotBit.d) (k := k) sO [] Tryz.func53 ⟨spec_l1In.s k, spec_DiskOk.s k, spec_l9Copy_d.s k, spec_l9At.s k, trivial⟩ trivial (by kernel_rfl) (by kernel_rfl) (fun x => by kernel_rfl)
def spec_NodeRot.e (k : Nat) : Ent := ⟨3, [(.val true t28), (.val false .s), (.val false (.i .i64))], [(.agg, t30), (.one, .b)], fun x => spec_NodeRot k x.1 x.2.1 x.2.2⟩
def spec_NodeRot.d : Fd := { nt := 44, nv := 3, nm := [0, 1, 2, 3, 4, 5, 8, 9, 10, 11, 12], res := [7], cs := fun k => [(20, spec_NodeOk.e k), (33, spec_l12Copy.e k), (52, spec_Look.e k), (53, spec_RotBit.e k)], mv := [29, 40, 43] }
theorem spec_NodeRot.s (k : Nat) : CallOk Tryz.prog 19 (spec_NodeRot.e k) := mkS (D := spec_NodeRot.d) (k := k) sO [] Tryz.func19 ⟨spec_NodeOk.s k, spec_l12Copy.s k, spec_Look.s k, spec_RotBit.s k, trivial⟩ trivial (by kernel_rfl) (by kernel_rfl) (fun x => by kernel_rfl)
def spec_l2Draw.e (k : Nat) : Ent := ⟨1, [(.ptr t16 t16)], [(.agg, t14)], fun x => spec_l2Draw x⟩
def spec_l2Draw.d : Fd := { nt := 11, nv := 1, nm := [0, 1], res := [], cs := fun k => [(49, spec_l1Below.e k), (50, spec_l1Int.e k)] }
theorem spec_l2Draw.s (k : Nat) : CallOk Tryz.prog 94 (spec_l2Draw.e k) := mkS (D := spec_l2Draw.d) (k := k) sO [] Tryz.func94 ⟨spec_l1Below.s k, spec_l1Int.s k, trivial⟩ trivial (by kernel_rfl) (by kernel_rfl) (fun x => by kernel_rfl)
def spec_l1Bytes.e (k : Nat) : Ent := ⟨2, [(.ptr t16 t16), (.val false (.i .i64))], [(.one, t5)], fun x => spec_l1Bytes k x.1 x.2⟩
def spec_l1Bytes_l3.p : LF := ⟨⟨[(0, (.bp 0 0 0)), (1999, (.hd 3))], [(1, (.i .i64)), (5, t5), (6, (.i .i64)), (1000, t4), (1001, (.i .i64)), (1002, (.i .i64))]⟩, [((.exit 0), ⟨[(1999, (.hd 3))], [(5, t5), (1000, t4), (1001, (.i .i64)), (1002, (.i .i64))]⟩)], fun k x => spec_l1Bytes_l3 k x.1 x.2.1 x.2.2.1 x.2.2.2.1 x.2.2.2.2.1 x.2.2.2.2.2⟩
def spec_l1Bytes.d : Fd := { nt := 20, nv := 2, nm := [0, 1, 2, 3, 5, 6], res := [4], cs := fun k => [(85, spec_l1Byte.e k)], ls := [(3, spec_l1Bytes_l3.p)] }
theorem spec_l1Bytes.a (k : Nat) : AllC Tryz.prog (spec_l1Bytes.d.cs k) := ⟨spec_l1Byte.s k, trivial⟩
theorem spec_l1Bytes_l3.s : LK Tryz.prog Tryz.f114 spec_l1Bytes.d 3 spec_l1Bytes_l3.p := mkL sO [] (by kernel_rfl) spec_l1Bytes.a trivial (by kernel_rfl) (fun _ => rfl) (fun k x => by kernel_rfl)
theorem spec_l1Bytes.s (k : Nat) : CallOk Tryz.prog 114 (spec_l1Bytes.e k) := mkS (D := spec_l1Bytes.d) (k := k) sO [3] Tryz.func114 (spec_l1Bytes.a k) ⟨spec_l1Bytes_l3.s, trivial⟩ (by kernel_rfl) (by kernel_rfl) (fun x => by kernel_rfl)
def spec_l1Some.e (k : Nat) : Ent := ⟨1, [(.ptr t16 t16)], [(.one, t5)], fun x => spec_l1Some k x⟩
def spec_l1Some.d : Fd := { nt := 8, nv := 1, nm := [0, 1], res := [2], cs := fun k => [(50, spec_l1Int.e k), (114, spec_l1Bytes.e k)] }
theorem spec_l1Some.s (k : Nat) : CallOk Tryz.prog 95 (spec_l1Some.e k) := mkS (D := spec_l1Some.d) (k := k) sO [] Tryz.func95 ⟨spec_l1Int.s k, spec_l1Bytes.s k, trivial⟩ trivial (by kernel_rfl) (by kernel_rfl) (fun x => by kernel_rfl)
def spec_l8Draw.e (k : Nat) : Ent := ⟨1, [(.ptr t16 t16)], [(.agg, t19)], fun x => spec_l8Draw k x⟩
def spec_l8Draw.d : Fd := { nt := 16, nv := 1, nm := [0, 1, 3], res := [], cs := fun k => [(28, spec_l1Once.e k), (94, spec_l2Draw.e k), (95, spec_l1Some.e k)], mv := [15] }
theorem spec_l8Draw.s (k : Nat) : CallOk Tryz.prog 63 (spec_l8Draw.e k) := mkS (D := spec_l8Draw.d) (k := k) sO [] Tryz.func63 ⟨spec_l1Once.s k, spec_l2Draw.s k, spec_l1Some.s k, trivial⟩ trivial (by kernel_rfl) (by kernel_rfl) (fun x => by kernel_rfl)
def spec_NodeNew.e (k : Nat) : Ent := ⟨1, [(.val false (.i .i64))], [(.agg, t29)], fun x => spec_NodeNew x⟩
def spec_NodeNew.d : Fd := { nt := 9, nv := 1, nm := [0, 1], res := [], cs := fun k => [(55, spec_l1In.e k)] }
theorem spec_NodeNew.s (k : Nat) : CallOk Tryz.prog 89 (spec_NodeNew.e k) := mkS (D := spec_NodeNew.d) (k := k) sO [] Tryz.func89 ⟨spec_l1In.s k, trivial⟩ trivial (by kernel_rfl) (by kernel_rfl) (fun x => by kernel_rfl)
def spec_l11Less.e (k : Nat) : Ent := ⟨2, [(.val true t21), (.val true t21)], [(.one, .b)], fun x => spec_l11Less x.1 x.2⟩
def spec_l11Less.d : Fd := { nt := 29, nv := 2, nm := [0, 1, 2, 3], res := [4], cs := fun k => [(117, spec_LessStamp.e k)] }
theorem spec_l11Less.s (k : Nat) : CallOk Tryz.prog 128 (spec_l11Less.e k) := mkS (D := spec_l11Less.d) (k := k) sO [] Tryz.func128 ⟨spec_LessStamp.s k, trivial⟩ trivial (by kernel_rfl) (by kernel_rfl) (fun x => by kernel_rfl)
def spec_MergeRow.e (k : Nat) : Ent := ⟨2, [(.val false t24), (.val true t21)], [(.one, t25)], fun x => spec_MergeRow k x.1 x.2⟩
def spec_MergeRow_l11.p : LF := ⟨⟨[(3, (.bp 3 0 0)), (4999, (.hd 6))], [(5, t25), (7, (.i .i64)), (4000, .s), (4001, (.i .i64)), (4002, (.i .i64)), (4003, (.i .i64)), (4004, .b), (4005, (.i .i64))]⟩, [((.exit 2), ⟨[(3, (.bp 3 0 0)), (4999, (.hd 6))], [(5, t25), (7, (.i .i64)), (4000, .s), (4001, (.i .i64)), (4002, (.i .i64)), (4003, (.i .i64)), (4004, .b), (4005, (.i .i64))]⟩)], fun k x => spec_MergeRow_l11 k x.1 x.2.1 x.2.2.1 x.2.2.2.1 x.2.2.2.2.1 x.2.2.2.2.2.1 x.2.2.2.2.2.2.1 x.2.2.2.2.2.2.2⟩
def spec_MergeRow_l3.p : LF := ⟨⟨[(3, (.bp 3 0 0)), (4999, (.hd 6))], [(5, t25), (6, (.i .i64)), (4000, .s), (4001, (.i .i64)), (4002, (.i .i64)), (4003, (.i .i64)), (4004, .b), (4005, (.i .i64))]⟩, [(.ret, ⟨[], [(4, t25)]⟩), ((.exit 0), ⟨[(3, (.bp 3 0 0)), (4999, (.hd 6))], [(5, t25), (4000, .s), (4001, (.i .i64)), (4002, (.i .i64)), (4003, (.i .i64)), (4004, .b), (4005, (.i .i64))]⟩)], fun k x => spec_MergeRow_l3 k x.1 x.2.1 x.2.2.1 x.2.2.2.1 x.2.2.2.2.1 x.2.2.2.2.2.1 x.2.2.2.2.2.2.1 x.2.2.2.2.2.2.2⟩
def spec_MergeRow.d : Fd := { nt := 70, nv := 2, nm := [0, 1, 2, 3, 5, 6, 7], res := [4], cs := fun k => [(128, spec_l11Less.e k)], ls := [(11, spec_MergeRow_l11.p), (3, spec_MergeRow_l3.p)] }
theorem spec_MergeRow.a (k : Nat) : AllC Tryz.prog (spec_MergeRow.d.cs k) := ⟨spec_l11Less.s k, trivial⟩
theorem spec_MergeRow_l11.s : LK Tryz.prog Tryz.f112 spec_MergeRow.d 11 spec_MergeRow_l11.p := mkL sO [] (by kernel_rfl) spec_MergeRow.a trivial (by kernel_rfl) (fun _ => rfl) (fun k x => by kernel_rfl)
theorem spec_MergeRow_l3.s : LK Tryz.prog Tryz.f112 spec_MergeRow.d 3 spec_MergeRow_l3.p := mkL sO [] (by kernel_rfl) spec_MergeRow.a trivial (by kernel_rfl) (fun _ => rfl) (fun k x => by kernel_rfl)
theorem spec_MergeRow.s (k : Nat) : CallOk Tryz.prog 112 (spec_MergeRow.e k) := mkS (D := spec_MergeRow.d) (k := k) sO [3, 11] Tryz.func112 (spec_MergeRow.a k) ⟨spec_MergeRow_l3.s, spec_MergeRow_l11.s, trivial⟩ (by kernel_rfl) (by kernel_rfl) (fun x => by kernel_rfl)
def spec_MergeRows.e (k : Nat) : Ent := ⟨2, [(.val false t24), (.val false t24)], [(.one, t25)], fun x => spec_MergeRows k x.1 x.2⟩
def spec_MergeRows_l3.p : LF := ⟨⟨[], [(1, t24), (5, t25), (6, (.i .i64))]⟩, [((.exit 0), ⟨[], [(5, t25)]⟩)], fun k x => spec_MergeRows_l3 k x.1 x.2.1 x.2.2⟩
def spec_MergeRows.d : Fd := { nt := 23, nv := 2, nm := [0, 1, 2, 3, 5, 6], res := [4], cs := fun k => [(112, spec_MergeRow.e k)], ls := [(3, spec_MergeRows_l3.p)] }
theorem spec_MergeRows.a (k : Nat) : AllC Tryz.prog (spec_MergeRows.d.cs k) := ⟨spec_MergeRow.s k, trivial⟩
theorem spec_MergeRows_l3.s : LK Tryz.prog Tryz.f127 spec_MergeRows.d 3 spec_MergeRows_l3.p := mkL sO [] (by kernel_rfl) spec_MergeRows.a trivial (by kernel_rfl) (fun _ => rfl) (fun k x => by kernel_rfl)
theorem spec_MergeRows.s (k : Nat) : CallOk Tryz.prog 127 (spec_MergeRows.e k) := mkS (D := spec_MergeRows.d) (k := k) sO [3] Tryz.func127 (spec_MergeRows.a k) ⟨spec_MergeRows_l3.s, trivial⟩ (by kernel_rfl) (by kernel_rfl) (fun x => by kernel_rfl)
def spec_l12Take_o.e (k : Nat) : Ent := ⟨2, [(.ptr t29 t31), (.val false t24)], [(.one, .b)], fun x => spec_l12Take_o k x.1 x.2⟩
def spec_l12Take_o.d : Fd := { nt := 19, nv := 2, nm := [0, 1, 2, 3, 5], res := [4], cs := fun k => [(127, spec_MergeRows.e k)] }
theorem spec_l12Take_o.s (k : Nat) : CallOk Tryz.prog 111 (spec_l12Take_o.e k) := mkS (D := spec_l12Take_o.d) (k := k) sO [] Tryz.func111 ⟨spec_MergeRows.s k, trivial⟩ trivial (by kernel_rfl) (by kernel_rfl) (fun x => by kernel_rfl)
def spec_NodeTake.e (k : Nat) : Ent := ⟨2, [(.val true t28), (.val false t24)], [(.agg, t31), (.one, .b)], fun x => spec_NodeTake k x.1 x.2⟩
def spec_NodeTake.d : Fd := { nt := 25, nv := 2, nm := [0, 1, 2, 3, 6], res := [5], cs := fun k => [(20, spec_NodeOk.e k), (33, spec_l12Copy.e k), (57, spec_RowsOk.e k), (111, spec_l12Take_o.e k)], mv := [24] }
theorem spec_NodeTake.s (k : Nat) : CallOk Tryz.prog 90 (spec_NodeTake.e k) := mkS (D := spec_NodeTake.d) (k := k) sO [] Tryz.func90 ⟨spec_NodeOk.s k, spec_l12Copy.s k, spec_RowsOk.s k, spec_l12Take_o.s k, trivial⟩ trivial (by kernel_rfl) (by kernel_rfl) (fun x => by kernel_rfl)
def spec_l11One.e (k : Nat) : Ent := ⟨1, [(.ptr t16 t16)], [(.agg, t21)], fun x => spec_l11One k x⟩
def spec_l11One.d : Fd := { nt := 8, nv := 1, nm := [0, 1], res := [], cs := fun k => [(47, spec_l3Name.e k), (63, spec_l8Draw.e k), (75, spec_RowOf.e k)] }
theorem spec_l11One.s (k : Nat) : CallOk Tryz.prog 93 (spec_l11One.e k) := mkS (D := spec_l11One.d) (k := k) sO [] Tryz.func93 ⟨spec_l3Name.s k, spec_l8Draw.s k, spec_RowOf.s k, trivial⟩ trivial (by kernel_rfl) (by kernel_rfl) (fun x => by kernel_rfl)
def spec_l11Draw.e (k : Nat) : Ent := ⟨1, [(.ptr t16 t16)], [(.one, t25)], fun x => spec_l11Draw k x⟩
def spec_l11Draw_l3.p : LF := ⟨⟨[(0, (.bp 0 0 0)), (1999, (.hd 3))], [(3, t25), (4, (.i .i64)), (1000, t4), (1001, (.i .i64)), (1002, (.i .i64))]⟩, [((.exit 0), ⟨[(1999, (.hd 3))], [(3, t25), (1000, t4), (1001, (.i .i64)), (1002, (.i .i64))]⟩)], fun k x => spec_l11Draw_l3 k x.1 x.2.1 x.2.2.1 x.2.2.2.1 x.2.2.2.2⟩
def spec_l11Draw.d : Fd := { nt := 17, nv := 1, nm := [0, 1, 3, 4], res := [2], cs := fun k => [(49, spec_l1Below.e k), (93, spec_l11One.e k), (112, spec_MergeRow.e k)], ls := [(3, spec_l11Draw_l3.p)] }
theorem spec_l11Draw.a (k : Nat) : AllC Tryz.prog (spec_l11Draw.d.cs k) := ⟨spec_l1Below.s k, spec_l11One.s k, spec_MergeRow.s k, trivial⟩
theorem spec_l11Draw_l3.s : LK Tryz.prog Tryz.f91 spec_l11Draw.d 3 spec_l11Draw_l3.p := mkL sO [] (by kernel_rfl) spec_l11Draw.a trivial (by kernel_rfl) (fun _ => rfl) (fun k x => by kernel_rfl)
theorem spec_l11Draw.s (k : Nat) : CallOk Tryz.prog 91 (spec_l11Draw.e k) := mkS (D := spec_l11Draw.d) (k := k) sO [3] Tryz.func91 (spec_l11Draw.a k) ⟨spec_l11Draw_l3.s, trivial⟩ (by kernel_rfl) (by kernel_rfl) (fun x => by kernel_rfl)
def spec_l12Draw.e (k : Nat) : Ent := ⟨1, [(.ptr t16 t16)], [(.agg, t32)], fun x => spec_l12Draw k x⟩
def spec_l12Draw_l3.p : LF := ⟨⟨[(0, (.bp 0 0 0)), (2, (.bp 2 0 0)), (3, (.bp 3 0 0)), (1999, (.hd 3)), (3999, (.hd 5)), (4999, (.hd 5))], [(4, (.i .i64)), (1000, t4), (1001, (.i .i64)), (1002, (.i .i64)), (3000, (.i .i64)), (3001, t12), (3002, t12), (3003, t25), (3004, t25), (4000, (.i .i64)), (4001, t11), (4002, t11), (4003, t25), (4004, t25)]⟩, [((.exit 0), ⟨[(0, (.bp 0 0 0)), (2, (.bp 2 0 0)), (3, (.bp 3 0 0)), (1999, (.hd 3)), (3999, (.hd 5)), (4999, (.hd 5))], [(1000, t4), (1001, (.i .i64)), (1002, (.i .i64)), (3000, (.i .i64)), (3001, t12), (3002, t12), (3003, t25), (3004, t25), (4000, (.i .i64)), (4001, t11), (4002, t11), (4003, t25), (4004, t25)]⟩)], fun k x => spec_l12Draw_l3 k x.1 x.2.1 x.2.2.1 x.2.2.2.1 x.2.2.2.2.1 x.2.2.2.2.2.1 x.2.2.2.2.2.2.1 x.2.2.2.2.2.2.2.1 x.2.2.2.2.2.2.2.2.1 x.2.2.2.2.2.2.2.2.2.1 x.2.2.2.2.2.2.2.2.2.2.1 x.2.2.2.2.2.2.2.2.2.2.2.1 x.2.2.2.2.2.2.2.2.2.2.2.2.1 x.2.2.2.2.2.2.2.2.2.2.2.2.2⟩
def spec_l12Draw.d : Fd := { nt := 47, nv := 1, nm := [0, 1, 3, 4], res := [], cs := fun k => [(8, spec_NodePut.e k), (19, spec_NodeRot.e k), (28, spec_l1Once.e k), (47, spec_l3Name.e k), (49, spec_l1Below.e k), (63, spec_l8Draw.e k), (89, spec_NodeNew.e k), (90, spec_NodeTake.e k), (91, spec_l11Draw.e k)], ls := [(3, spec_l12Draw_l3.p)], mv := [46] }
theorem spec_l12Draw.a (k : Nat) : AllC Tryz.prog (spec_l12Draw.d.cs k) := ⟨spec_NodePut.s k, spec_NodeRot.s k, spec_l1Once.s k, spec_l3Name.s k, spec_l1Below.s k, spec_l8Draw.s k, spec_NodeNew.s k, spec_NodeTake.s k, spec_l11Draw.s k, trivial⟩
theorem spec_l12Draw_l3.s : LK Tryz.prog Tryz.f59 spec_l12Draw.d 3 spec_l12Draw_l3.p := mkL sO [] (by kernel_rfl) spec_l12Draw.a trivial (by kernel_rfl) (fun _ => rfl) (fun k x => by kernel_rfl)
theorem spec_l12Draw.s (k : Nat) : CallOk Tryz.prog 59 (spec_l12Draw.e k) := mkS (D := spec_l12Draw.d) (k := k) sO [3] Tryz.func59 (spec_l12Draw.a k) ⟨spec_l12Draw_l3.s, trivial⟩ (by kernel_rfl) (by kernel_rfl) (fun x => by kernel_rfl)
def spec_RemoveName.e (k : Nat) : Ent := ⟨2, [(.val true t20), (.val false .s)], [(.agg, t22), (.one, .b)], fun x => spec_RemoveName k x.1 x.2⟩
def spec_RemoveName.d : Fd := { nt := 26, nv := 2, nm := [0, 1, 2, 3, 6], res := [5], cs := fun k => [(72, spec_l9Copy.e k), (84, spec_l9At.e k), (118, spec_l9Cut.e k), (120, spec_l9Ends.e k)], mv := [14] }
theorem spec_RemoveName.s (k : Nat) : CallOk Tryz.prog 113 (spec_RemoveName.e k) := mkS (D := spec_RemoveName.d) (k := k) sO [] Tryz.func113 ⟨spec_l9Copy.s k, spec_l9At.s k, spec_l9Cut.s k, spec_l9Ends.s k, trivial⟩ trivial (by kernel_rfl) (by kernel_rfl) (fun x => by kernel_rfl)
def spec_l9Draw.e (k : Nat) : Ent := ⟨1, [(.ptr t16 t16)], [(.agg, t22)], fun x => spec_l9Draw k x⟩
def spec_l9Draw_l3.p : LF := ⟨⟨[(0, (.bp 0 0 0)), (2, (.bp 2 0 0)), (3, (.bp 3 0 0)), (1999, (.hd 3)), (3999, (.hd 2)), (4999, (.hd 2))], [(4, (.i .i64)), (1000, t4), (1001, (.i .i64)), (1002, (.i .i64)), (3000, t12), (3001, t12), (4000, t12), (4001, t12)]⟩, [((.exit 0), ⟨[(2, (.bp 2 0 0)), (3, (.bp 3 0 0)), (3999, (.hd 2)), (4999, (.hd 2)), (1999, (.hd 3))], [(3000, t12), (3001, t12), (4000, t12), (4001, t12), (1000, t4), (1001, (.i .i64)), (1002, (.i .i64))]⟩)], fun k x => spec_l9Draw_l3 k x.1 x.2.1 x.2.2.1 x.2.2.2.1 x.2.2.2.2.1 x.2.2.2.2.2.1 x.2.2.2.2.2.2.1 x.2.2.2.2.2.2.2⟩
def spec_l9Draw.d : Fd := { nt := 44, nv := 1, nm := [0, 1, 3, 4, 5], res := [], cs := fun k => [(47, spec_l3Name.e k), (49, spec_l1Below.e k), (63, spec_l8Draw.e k), (103, spec_SyncName.e k), (104, spec_WriteName.e k), (105, spec_PutFile.e k), (113, spec_RemoveName.e k)], ls := [(3, spec_l9Draw_l3.p)], mv := [43] }
theorem spec_l9Draw.a (k : Nat) : AllC Tryz.prog (spec_l9Draw.d.cs k) := ⟨spec_l3Name.s k, spec_l1Below.s k, spec_l8Draw.s k, spec_SyncName.s k, spec_WriteName.s k, spec_PutFile.s k, spec_RemoveName.s k, trivial⟩
theorem spec_l9Draw_l3.s : LK Tryz.prog Tryz.f92 spec_l9Draw.d 3 spec_l9Draw_l3.p := mkL sO [] (by kernel_rfl) spec_l9Draw.a trivial (by kernel_rfl) (fun _ => rfl) (fun k x => by kernel_rfl)
theorem spec_l9Draw.s (k : Nat) : CallOk Tryz.prog 92 (spec_l9Draw.e k) := mkS (D := spec_l9Draw.d) (k := k) sO [3] Tryz.func92 (spec_l9Draw.a k) ⟨spec_l9Draw_l3.s, trivial⟩ (by kernel_rfl) (by kernel_rfl) (fun x => by kernel_rfl)
def spec_l9Any.e (k : Nat) : Ent := ⟨1, [(.ptr t16 t16)], [(.agg, t22)], fun x => spec_l9Any k x⟩
def spec_l9Any.d : Fd := { nt := 33, nv := 1, nm := [0, 1, 3], res := [], cs := fun k => [(26, spec_l3Any.e k), (49, spec_l1Below.e k), (92, spec_l9Draw.e k)], mv := [32] }
theorem spec_l9Any.s (k : Nat) : CallOk Tryz.prog 60 (spec_l9Any.e k) := mkS (D := spec_l9Any.d) (k := k) sO [] Tryz.func60 ⟨spec_l3Any.s k, spec_l1Below.s k, spec_l9Draw.s k, trivial⟩ trivial (by kernel_rfl) (by kernel_rfl) (fun x => by kernel_rfl)
def spec_l11Any.e (k : Nat) : Ent := ⟨1, [(.ptr t16 t16)], [(.one, t25)], fun x => spec_l11Any k x⟩
def spec_l11Any.d : Fd := { nt := 27, nv := 1, nm := [0, 1, 3], res := [2], cs := fun k => [(49, spec_l1Below.e k), (50, spec_l1Int.e k), (91, spec_l11Draw.e k), (93, spec_l11One.e k)] }
theorem spec_l11Any.s (k : Nat) : CallOk Tryz.prog 61 (spec_l11Any.e k) := mkS (D := spec_l11Any.d) (k := k) sO [] Tryz.func61 ⟨spec_l1Below.s k, spec_l1Int.s k, spec_l11Draw.s k, spec_l11One.s k, trivial⟩ trivial (by kernel_rfl) (by kernel_rfl) (fun x => by kernel_rfl)
def spec_l12Any.e (k : Nat) : Ent := ⟨1, [(.ptr t16 t16)], [(.agg, t32)], fun x => spec_l12Any k x⟩
def spec_l12Any_l12.p : LF := ⟨⟨[(0, (.bp 0 0 0)), (2, (.bp 2 0 0)), (3, (.bp 3 0 0)), (1999, (.hd 3)), (3999, (.hd 5)), (4999, (.hd 5))], [(1000, t4), (1001, (.i .i64)), (1002, (.i .i64)), (3000, (.i .i64)), (3001, t12), (3002, t12), (3003, t25), (3004, t25), (4000, (.i .i64)), (4001, t11), (4002, t11), (4003, t24), (4004, t25)]⟩, [((.exit 1), ⟨[(2, (.bp 2 0 0)), (3, (.bp 3 0 0)), (3999, (.hd 5)), (4999, (.hd 5)), (1999, (.hd 3))], [(3000, (.i .i64)), (3001, t12), (3002, t12), (3003, t25), (3004, t25), (4000, (.i .i64)), (4001, t11), (4002, t11), (4003, t24), (4004, t25), (1000, t4), (1001, (.i .i64)), (1002, (.i .i64))]⟩)], fun k x => spec_l12Any_l12 k x.1 x.2.1 x.2.2.1 x.2.2.2.1 x.2.2.2.2.1 x.2.2.2.2.2.1 x.2.2.2.2.2.2.1 x.2.2.2.2.2.2.2.1 x.2.2.2.2.2.2.2.2.1 x.2.2.2.2.2.2.2.2.2.1 x.2.2.2.2.2.2.2.2.2.2.1 x.2.2.2.2.2.2.2.2.2.2.2.1 x.2.2.2.2.2.2.2.2.2.2.2.2⟩
def spec_l12Any.d : Fd := { nt := 50, nv := 1, nm := [0, 1, 3], res := [], cs := fun k => [(26, spec_l3Any.e k), (49, spec_l1Below.e k), (50, spec_l1Int.e k), (59, spec_l12Draw.e k), (60, spec_l9Any.e k), (61, spec_l11Any.e k)], ls := [(12, spec_l12Any_l12.p)], mv := [49] }
theorem spec_l12Any.a (k : Nat) : AllC Tryz.prog (spec_l12Any.d.cs k) := ⟨spec_l3Any.s k, spec_l1Below.s k, spec_l1Int.s k, spec_l12Draw.s k, spec_l9Any.s k, spec_l11Any.s k, trivial⟩
theorem spec_l12Any_l12.s : LK Tryz.prog Tryz.f25 spec_l12Any.d 12 spec_l12Any_l12.p := mkL sO [] (by kernel_rfl) spec_l12Any.a trivial (by kernel_rfl) (fun _ => rfl) (fun k x => by kernel_rfl)
theorem spec_l12Any.s (k : Nat) : CallOk Tryz.prog 25 (spec_l12Any.e k) := mkS (D := spec_l12Any.d) (k := k) sO [12] Tryz.func25 (spec_l12Any.a k) ⟨spec_l12Any_l12.s, trivial⟩ (by kernel_rfl) (by kernel_rfl) (fun x => by kernel_rfl)
def spec_l2Any.e (k : Nat) : Ent := ⟨1, [(.ptr t16 t16)], [(.agg, t14)], fun x => spec_l2Any x⟩
def spec_l2Any.d : Fd := { nt := 27, nv := 1, nm := [0, 1, 3], res := [], cs := fun k => [(49, spec_l1Below.e k), (50, spec_l1Int.e k), (94, spec_l2Draw.e k)] }
theorem spec_l2Any.s (k : Nat) : CallOk Tryz.prog 64 (spec_l2Any.e k) := mkS (D := spec_l2Any.d) (k := k) sO [] Tryz.func64 ⟨spec_l1Below.s k, spec_l1Int.s k, spec_l2Draw.s k, trivial⟩ trivial (by kernel_rfl) (by kernel_rfl) (fun x => by kernel_rfl)
def spec_l8Any.e (k : Nat) : Ent := ⟨1, [(.ptr t16 t16)], [(.agg, t19)], fun x => spec_l8Any k x⟩
def spec_l8Any.d : Fd := { nt := 27, nv := 1, nm := [0, 1, 3], res := [], cs := fun k => [(49, spec_l1Below.e k), (63, spec_l8Draw.e k), (64, spec_l2Any.e k)], mv := [26] }
theorem spec_l8Any.s (k : Nat) : CallOk Tryz.prog 27 (spec_l8Any.e k) := mkS (D := spec_l8Any.d) (k := k) sO [] Tryz.func27 ⟨spec_l1Below.s k, spec_l8Draw.s k, spec_l2Any.s k, trivial⟩ trivial (by kernel_rfl) (by kernel_rfl) (fun x => by kernel_rfl)
def spec_DrawNodePut.e (k : Nat) : Ent := ⟨1, [(.val false t4)], [(.agg, t32), (.one, .s), (.agg, t19), (.one, .b)], fun x => spec_DrawNodePut k x⟩
def spec_DrawNodePut.d : Fd := { nt := 17, nv := 1, nm := [0, 1, 6], res := [3, 5], cs := fun k => [(24, spec_l1New.e k), (25, spec_l12Any.e k), (26, spec_l3Any.e k), (27, spec_l8Any.e k), (28, spec_l1Once.e k)], rf := true }
theorem spec_DrawNodePut.s (k : Nat) : CallOk Tryz.prog 6 (spec_DrawNodePut.e k) := mkS (D := spec_DrawNodePut.d) (k := k) sO [] Tryz.func6 ⟨spec_l1New.s k, spec_l12Any.s k, spec_l3Any.s k, spec_l8Any.s k, spec_l1Once.s k, trivial⟩ trivial (by kernel_rfl) (by kernel_rfl) (fun x => by kernel_rfl)
def impl_in.e (k : Nat) : Ent := ⟨3, [(.val false (.i .i64)), (.val false (.i .i64)), (.val false (.i .i64))], [(.one, .b)], fun x => impl_in x.1 x.2.1 x.2.2⟩
def impl_in.d : Fd := { nt := 15, nv := 3, nm := [0, 1, 2, 3, 4, 5], res := [6] }
theorem impl_in.s (k : Nat) : CallOk Tryz.prog 42 (impl_in.e k) := mkS (D := impl_in.d) (k := k) sO [] Tryz.func42 trivial trivial (by kernel_rfl) (by kernel_rfl) (fun x => by kernel_rfl)
def impl_NameOk.e (k : Nat) : Ent := ⟨1, [(.val false .s)], [(.one, .b)], fun x => impl_NameOk k x⟩
def impl_NameOk_l2.p : LF := ⟨⟨[], [(0, .s), (3, (.i .i64))]⟩, [(.ret, ⟨[], [(2, .b)]⟩), ((.exit 0), ⟨[], [(0, .s)]⟩)], fun k x => impl_NameOk_l2 k x.1 x.2⟩
def impl_NameOk.d : Fd := { nt := 45, nv := 1, nm := [0, 1, 3, 4], res := [2], cs := fun k => [(42, impl_in.e k)], ls := [(2, impl_NameOk_l2.p)] }
theorem impl_NameOk.a (k : Nat) : AllC Tryz.prog (impl_NameOk.d.cs k) := ⟨impl_in.s k, trivial⟩
theorem impl_NameOk_l2.s : LK Tryz.prog Tryz.f30 impl_NameOk.d 2 impl_NameOk_l2.p := mkL sO [] (by kernel_rfl) impl_NameOk.a trivial (by kernel_rfl) (fun _ => rfl) (fun k x => by kernel_rfl)
theorem impl_NameOk.s (k : Nat) : CallOk Tryz.prog 30 (impl_NameOk.e k) := mkS (D := impl_NameOk.d) (k := k) sO [2] Tryz.func30 (impl_NameOk.a k) ⟨impl_NameOk_l2.s, trivial⟩ (by kernel_rfl) (by kernel_rfl) (fun x => by kernel_rfl)
def impl_StampOk.e (k : Nat) : Ent := ⟨1, [(.val true t14)], [(.one, .b)], fun x => impl_StampOk x⟩
def impl_StampOk.d : Fd := { nt := 16, nv := 1, nm := [0, 1], res := [2], cs := fun k => [(42, impl_in.e k)] }
theorem impl_StampOk.s (k : Nat) : CallOk Tryz.prog 67 (impl_StampOk.e k) := mkS (D := impl_StampOk.d) (k := k) sO [] Tryz.func67 ⟨impl_in.s k, trivial⟩ trivial (by kernel_rfl) (by kernel_rfl) (fun x => by kernel_rfl)
def impl_rowOk.e (k : Nat) : Ent := ⟨1, [(.val true t21)], [(.one, .b)], fun x => impl_rowOk k x⟩
def impl_rowOk.d : Fd := { nt := 26, nv := 1, nm := [0, 1], res := [2], cs := fun k => [(30, impl_NameOk.e k), (42, impl_in.e k), (67, impl_StampOk.e k)] }
theorem impl_rowOk.s (k : Nat) : CallOk Tryz.prog 41 (impl_rowOk.e k) := mkS (D := impl_rowOk.d) (k := k) sO [] Tryz.func41 ⟨impl_NameOk.s k, impl_in.s k, impl_StampOk.s k, trivial⟩ trivial (by kernel_rfl) (by kernel_rfl) (fun x => by kernel_rfl)
def impl_namedOk.e (k : Nat) : Ent := ⟨1, [(.val false t11)], [(.one, .b)], fun x => impl_namedOk k x⟩
def impl_namedOk_l2.p : LF := ⟨⟨[], [(0, t11), (5, t11), (6, (.i .i64)), (7, (.i .i64))]⟩, [(.ret, ⟨[], [(2, .b)]⟩), ((.exit 0), ⟨[], [(0, t11)]⟩)], fun k x => impl_namedOk_l2 k x.1 x.2.1 x.2.2.1 x.2.2.2⟩
def impl_namedOk.d : Fd := { nt := 41, nv := 1, nm := [0, 1, 3, 4], res := [2], cs := fun k => [(30, impl_NameOk.e k)], ls := [(2, impl_namedOk_l2.p)] }
theorem impl_namedOk.a (k : Nat) : AllC Tryz.prog (impl_namedOk.d.cs k) := ⟨impl_NameOk.s k, trivial⟩
theorem impl_namedOk_l2.s : LK Tryz.prog Tryz.f80 impl_namedOk.d 2 impl_namedOk_l2.p := mkL sO [] (by kernel_rfl) impl_namedOk.a trivial (by kernel_rfl) (fun _ => rfl) (fun k x => by kernel_rfl)
theorem impl_namedOk.s (k : Nat) : CallOk Tryz.prog 80 (impl_namedOk.e k) := mkS (D := impl_namedOk.d) (k := k) sO [2] Tryz.func80 (impl_namedOk.a k) ⟨impl_namedOk_l2.s, trivial⟩ (by kernel_rfl) (by kernel_rfl) (fun x => by kernel_rfl)
def impl_DiskOk.e (k : Nat) : Ent := ⟨1, [(.val true t20)], [(.one, .b)], fun x => impl_DiskOk k x⟩
def impl_DiskOk.d : Fd := { nt := 11, nv := 1, nm := [0, 1], res := [2], cs := fun k => [(80, impl_namedOk.e k)] }
theorem impl_DiskOk.s (k : Nat) : CallOk Tryz.prog 43 (impl_DiskOk.e k) := mkS (D := impl_DiskOk.d) (k := k) sO [] Tryz.func43 ⟨impl_namedOk.s k, trivial⟩ trivial (by kernel_rfl) (by kernel_rfl) (fun x => by kernel_rfl)
def impl_RowsOk.e (k : Nat) : Ent := ⟨1, [(.val false t24)], [(.one, .b)], fun x => impl_RowsOk k x⟩
def impl_RowsOk_l2.p : LF := ⟨⟨[], [(0, t24), (5, t24), (6, (.i .i64)), (7, (.i .i64))]⟩, [(.ret, ⟨[], [(2, .b)]⟩), ((.exit 0), ⟨[], [(0, t24)]⟩)], fun k x => impl_RowsOk_l2 k x.1 x.2.1 x.2.2.1 x.2.2.2⟩
def impl_RowsOk.d : Fd := { nt := 34, nv := 1, nm := [0, 1, 3, 4], res := [2], cs := fun k => [(41, impl_rowOk.e k)], ls := [(2, impl_RowsOk_l2.p)] }
theorem impl_RowsOk.a (k : Nat) : AllC Tryz.prog (impl_RowsOk.d.cs k) := ⟨impl_rowOk.s k, trivial⟩
theorem impl_RowsOk_l2.s : LK Tryz.prog Tryz.f44 impl_RowsOk.d 2 impl_RowsOk_l2.p := mkL sO [] (by kernel_rfl) impl_RowsOk.a trivial (by kernel_rfl) (fun _ => rfl) (fun k x => by kernel_rfl)
theorem impl_RowsOk.s (k : Nat) : CallOk Tryz.prog 44 (impl_RowsOk.e k) := mkS (D := impl_RowsOk.d) (k := k) sO [2] Tryz.func44 (impl_RowsOk.a k) ⟨impl_RowsOk_l2.s, trivial⟩ (by kernel_rfl) (by kernel_rfl) (fun x => by kernel_rfl)
def impl_NodeOk.e (k : Nat) : Ent := ⟨1, [(.val true t28)], [(.one, .b)], fun x => impl_NodeOk k x⟩
def impl_NodeOk_l2.p : LF := ⟨⟨[(1, (.bp 1 0 0)), (2999, (.hd 5))], [(6, t24), (7, (.i .i64)), (8, (.i .i64)), (2000, (.i .i64)), (2001, t11), (2002, t11), (2003, t24), (2004, t24)]⟩, [(.ret, ⟨[], [(2, .b)]⟩), ((.exit 0), ⟨[(1, (.bp 1 0 0)), (2999, (.hd 5))], [(2000, (.i .i64)), (2001, t11), (2002, t11), (2003, t24), (2004, t24)]⟩)], fun k x => impl_NodeOk_l2 k x.1 x.2.1 x.2.2.1 x.2.2.2.1 x.2.2.2.2.1 x.2.2.2.2.2.1 x.2.2.2.2.2.2.1 x.2.2.2.2.2.2.2⟩
def impl_NodeOk.d : Fd := { nt := 35, nv := 1, nm := [0, 1, 3, 4], res := [2], cs := fun k => [(41, impl_rowOk.e k), (42, impl_in.e k), (43, impl_DiskOk.e k), (44, impl_RowsOk.e k)], ls := [(2, impl_NodeOk_l2.p)] }
theorem impl_NodeOk.a (k : Nat) : AllC Tryz.prog (impl_NodeOk.d.cs k) := ⟨impl_rowOk.s k, impl_in.s k, impl_DiskOk.s k, impl_RowsOk.s k, trivial⟩
theorem impl_NodeOk_l2.s : LK Tryz.prog Tryz.f13 impl_NodeOk.d 2 impl_NodeOk_l2.p := mkL sO [] (by kernel_rfl) impl_NodeOk.a trivial (by kernel_rfl) (fun _ => rfl) (fun k x => by kernel_rfl)
theorem impl_NodeOk.s (k : Nat) : CallOk Tryz.prog 13 (impl_NodeOk.e k) := mkS (D := impl_NodeOk.d) (k := k) sO [2] Tryz.func13 (impl_NodeOk.a k) ⟨impl_NodeOk_l2.s, trivial⟩ (by kernel_rfl) (by kernel_rfl) (fun x => by kernel_rfl)
def impl_RowOf.e (k : Nat) : Ent := ⟨2, [(.val false .s), (.val true t18)], [(.agg, t21)], fun x => impl_RowOf x.1 x.2⟩
def impl_RowOf.d : Fd := { nt := 14, nv := 2, nm := [0, 1, 2, 3], res := [], rf := true }
theorem impl_RowOf.s (k : Nat) : CallOk Tryz.prog 14 (impl_RowOf.e k) := mkS (D := impl_RowOf.d) (k := k) sO [] Tryz.func14 trivial trivial (by kernel_rfl) (by kernel_rfl) (fun x => by kernel_rfl)
def impl_copyBytes.e (k : Nat) : Ent := ⟨1, [(.val false t4)], [(.one, t5)], fun x => impl_copyBytes x⟩
def impl_copyBytes.d : Fd := { nt := 5, nv := 1, nm := [0, 1], res := [2] }
theorem impl_copyBytes.s (k : Nat) : CallOk Tryz.prog 77 (impl_copyBytes.e k) := mkS (D := impl_copyBytes.d) (k := k) sO [] Tryz.func77 trivial trivial (by kernel_rfl) (by kernel_rfl) (fun x => by kernel_rfl)
def impl_copyNamed.e (k : Nat) : Ent := ⟨1, [(.val false t11)], [(.one, t12)], fun x => impl_copyNamed k x⟩
def impl_copyNamed_l3.p : LF := ⟨⟨[], [(3, t12), (6, t11), (7, (.i .i64)), (8, (.i .i64))]⟩, [((.exit 0), ⟨[], [(3, t12)]⟩)], fun k x => impl_copyNamed_l3 k x.1 x.2.1 x.2.2.1 x.2.2.2⟩
def impl_copyNamed.d : Fd := { nt := 23, nv := 1, nm := [0, 1, 3, 4, 5], res := [2], cs := fun k => [(77, impl_copyBytes.e k)], ls := [(3, impl_copyNamed_l3.p)] }
theorem impl_copyNamed.a (k : Nat) : AllC Tryz.prog (impl_copyNamed.d.cs k) := ⟨impl_copyBytes.s k, trivial⟩
theorem impl_copyNamed_l3.s : LK Tryz.prog Tryz.f81 impl_copyNamed.d 3 impl_copyNamed_l3.p := mkL sO [] (by kernel_rfl) impl_copyNamed.a trivial (by kernel_rfl) (fun _ => rfl) (fun k x => by kernel_rfl)
theorem impl_copyNamed.s (k : Nat) : CallOk Tryz.prog 81 (impl_copyNamed.e k) := mkS (D := impl_copyNamed.d) (k := k) sO [3] Tryz.func81 (impl_copyNamed.a k) ⟨impl_copyNamed_l3.s, trivial⟩ (by kernel_rfl) (by kernel_rfl) (fun x => by kernel_rfl)
def impl_copyNamed_d.e (k : Nat) : Ent := ⟨1, [(.val false t11)], [(.one, t13)], fun x => impl_copyNamed_d k x⟩
def impl_copyNamed_d_l3.p : LF := ⟨⟨[], [(3, t13), (6, t11), (7, (.i .i64)), (8, (.i .i64))]⟩, [((.exit 0), ⟨[], [(3, t13)]⟩)], fun k x => impl_copyNamed_d_l3 k x.1 x.2.1 x.2.2.1 x.2.2.2⟩
def impl_copyNamed_d.d : Fd := { nt := 23, nv := 1, nm := [0, 1, 3, 4, 5], res := [2], cs := fun k => [(77, impl_copyBytes.e k)], ls := [(3, impl_copyNamed_d_l3.p)], hint := [(19, t10), (20, t10)] }
theorem impl_copyNamed_d.a (k : Nat) : AllC Tryz.prog (impl_copyNamed_d.d.cs k) := ⟨impl_copyBytes.s k, trivial⟩
theorem impl_copyNamed_d_l3.s : LK Tryz.prog Tryz.f81 impl_copyNamed_d.d 3 impl_copyNamed_d_l3.p := mkL sO [] (by kernel_rfl) impl_copyNamed_d.a trivial (by kernel_rfl) (fun _ => rfl) (fun k x => by kernel_rfl)
theorem impl_copyNamed_d.s (k : Nat) : CallOk Tryz.prog 81 (impl_copyNamed_d.e k) := mkS (D := impl_copyNamed_d.d) (k := k) sO [3] Tryz.func81 (impl_copyNamed_d.a k) ⟨impl_copyNamed_d_l3.s, trivial⟩ (by kernel_rfl) (by kernel_rfl) (fun x => by kernel_rfl)
def impl_copyDisk.e (k : Nat) : Ent := ⟨1, [(.val true t20)], [(.agg, t22)], fun x => impl_copyDisk k x⟩
def impl_copyDisk.d : Fd := { nt := 10, nv := 1, nm := [0, 1], res := [], cs := fun k => [(81, impl_copyNamed.e k)] }
theorem impl_copyDisk.s (k : Nat) : CallOk Tryz.prog 65 (impl_copyDisk.e k) := mkS (D := impl_copyDisk.d) (k := k) sO [] Tryz.func65 ⟨impl_copyNamed.s k, trivial⟩ trivial (by kernel_rfl) (by kernel_rfl) (fun x => by kernel_rfl)
def impl_copyDisk_d.e (k : Nat) : Ent := ⟨1, [(.val true t20)], [(.agg, t23)], fun x => impl_copyDisk_d k x⟩
def impl_copyDisk_d.d : Fd := { nt := 10, nv := 1, nm := [0, 1], res := [], cs := fun k => [(81, impl_copyNamed_d.e k)] }
theorem impl_copyDisk_d.s (k : Nat) : CallOk Tryz.prog 65 (impl_copyDisk_d.e k) := mkS (D := impl_copyDisk_d.d) (k := k) sO [] Tryz.func65 ⟨impl_copyNamed_d.s k, trivial⟩ trivial (by kernel_rfl) (by kernel_rfl) (fun x => by kernel_rfl)
def impl_copyRows.e (k : Nat) : Ent := ⟨1, [(.val false t24)], [(.one, t25)], fun x => impl_copyRows x⟩
def impl_copyRows.d : Fd := { nt := 5, nv := 1, nm := [0, 1], res := [2] }
theorem impl_copyRows.s (k : Nat) : CallOk Tryz.prog 66 (impl_copyRows.e k) := mkS (D := impl_copyRows.d) (k := k) sO [] Tryz.func66 trivial trivial (by kernel_rfl) (by kernel_rfl) (fun x => by kernel_rfl)
def impl_copyNode.e (k : Nat) : Ent := ⟨1, [(.val true t28)], [(.agg, t29)], fun x => impl_copyNode k x⟩
def impl_copyNode.d : Fd := { nt := 15, nv := 1, nm := [0, 1], res := [], cs := fun k => [(65, impl_copyDisk.e k), (66, impl_copyRows.e k)] }
theorem impl_copyNode.s (k : Nat) : CallOk Tryz.prog 29 (impl_copyNode.e k) := mkS (D := impl_copyNode.d) (k := k) sO [] Tryz.func29 ⟨impl_copyDisk.s k, impl_copyRows.s k, trivial⟩ trivial (by kernel_rfl) (by kernel_rfl) (fun x => by kernel_rfl)
def impl_FileOk.e (k : Nat) : Ent := ⟨1, [(.val true t18)], [(.one, .b)], fun x => impl_FileOk x⟩
def impl_FileOk.d : Fd := { nt := 23, nv := 1, nm := [0, 1], res := [2], cs := fun k => [(67, impl_StampOk.e k)] }
theorem impl_FileOk.s (k : Nat) : CallOk Tryz.prog 31 (impl_FileOk.e k) := mkS (D := impl_FileOk.d) (k := k) sO [] Tryz.func31 ⟨impl_StampOk.s k, trivial⟩ trivial (by kernel_rfl) (by kernel_rfl) (fun x => by kernel_rfl)
def impl_at.e (k : Nat) : Ent := ⟨2, [(.val false t11), (.val false .s)], [(.one, (.i .i64))], fun x => impl_at k x.1 x.2⟩
def impl_at_l2.p : LF := ⟨⟨[], [(1, .s), (7, t11), (8, (.i .i64)), (9, (.i .i64))]⟩, [(.ret, ⟨[], [(4, (.i .i64))]⟩), ((.exit 0), ⟨[], []⟩)], fun k x => impl_at_l2 k x.1 x.2.1 x.2.2.1 x.2.2.2⟩
def impl_at.d : Fd := { nt := 20, nv := 2, nm := [0, 1, 2, 3, 5, 6], res := [4], ls := [(2, impl_at_l2.p)] }
theorem impl_at_l2.s : LK Tryz.prog Tryz.f76 impl_at.d 2 impl_at_l2.p := mkL sO [] (by kernel_rfl) (fun _ => trivial) trivial (by kernel_rfl) (fun _ => rfl) (fun k x => by kernel_rfl)
theorem impl_at.s (k : Nat) : CallOk Tryz.prog 76 (impl_at.e k) := mkS (D := impl_at.d) (k := k) sO [2] Tryz.func76 trivial ⟨impl_at_l2.s, trivial⟩ (by kernel_rfl) (by kernel_rfl) (fun x => by kernel_rfl)
def impl_ReadName.e (k : Nat) : Ent := ⟨2, [(.val true t20), (.val false .s)], [(.one, t5), (.one, .b)], fun x => impl_ReadName k x.1 x.2⟩
def impl_ReadName.d : Fd := { nt := 20, nv := 2, nm := [0, 1, 2, 3, 6], res := [4, 5], cs := fun k => [(76, impl_at.e k), (77, impl_copyBytes.e k)] }
theorem impl_ReadName.s (k : Nat) : CallOk Tryz.prog 38 (impl_ReadName.e k) := mkS (D := impl_ReadName.d) (k := k) sO [] Tryz.func38 ⟨impl_at.s k, impl_copyBytes.s k, trivial⟩ trivial (by kernel_rfl) (by kernel_rfl) (fun x => by kernel_rfl)
def impl_addNum.e (k : Nat) : Ent := ⟨2, [(.val false t5), (.val false (.i .i64))], [(.one, t5)], fun x => impl_addNum k x.1 x.2⟩
def impl_addNum_l2.p : LF := ⟨⟨[], [(0, t5), (1, (.i .i64))]⟩, [((.exit 0), ⟨[], [(0, t5), (1, (.i .i64))]⟩)], fun k x => impl_addNum_l2 k x.1 x.2⟩
def impl_addNum.d : Fd := { nt := 24, nv := 2, nm := [0, 1, 2, 3], res := [4], ls := [(2, impl_addNum_l2.p)] }
theorem impl_addNum_l2.s : LK Tryz.prog Tryz.f115 impl_addNum.d 2 impl_addNum_l2.p := mkL sO [] (by kernel_rfl) (fun _ => trivial) trivial (by kernel_rfl) (fun _ => rfl) (fun k x => by kernel_rfl)
theorem impl_addNum.s (k : Nat) : CallOk Tryz.prog 115 (impl_addNum.e k) := mkS (D := impl_addNum.d) (k := k) sO [2] Tryz.func115 trivial ⟨impl_addNum_l2.s, trivial⟩ (by kernel_rfl) (by kernel_rfl) (fun x => by kernel_rfl)
def impl_addText.e (k : Nat) : Ent := ⟨2, [(.val false t5), (.val false .s)], [(.one, t5)], fun x => impl_addText k x.1 x.2⟩
def impl_addText.d : Fd := { nt := 11, nv := 2, nm := [0, 1, 2, 3], res := [4], cs := fun k => [(115, impl_addNum.e k)] }
theorem impl_addText.s (k : Nat) : CallOk Tryz.prog 98 (impl_addText.e k) := mkS (D := impl_addText.d) (k := k) sO [] Tryz.func98 ⟨impl_addNum.s k, trivial⟩ trivial (by kernel_rfl) (by kernel_rfl) (fun x => by kernel_rfl)
def impl_bit.e (k : Nat) : Ent := ⟨1, [(.val false .b)], [(.one, (.i .i64))], fun x => impl_bit x⟩
def impl_bit.d : Fd := { nt := 4, nv := 1, nm := [0, 1], res := [2] }
theorem impl_bit.s (k : Nat) : CallOk Tryz.prog 116 (impl_bit.e k) := mkS (D := impl_bit.d) (k := k) sO [] Tryz.func116 trivial trivial (by kernel_rfl) (by kernel_rfl) (fun x => by kernel_rfl)
def impl_addStamp.e (k : Nat) : Ent := ⟨3, [(.val false t5), (.val true t14), (.val false .b)], [(.one, t5)], fun x => impl_addStamp k x.1 x.2.1 x.2.2⟩
def impl_addStamp.d : Fd := { nt := 20, nv := 3, nm := [0, 1, 2, 3, 4, 5], res := [6], cs := fun k => [(115, impl_addNum.e k), (116, impl_bit.e k)] }
theorem impl_addStamp.s (k : Nat) : CallOk Tryz.prog 99 (impl_addStamp.e k) := mkS (D := impl_addStamp.d) (k := k) sO [] Tryz.func99 ⟨impl_addNum.s k, impl_bit.s k, trivial⟩ trivial (by kernel_rfl) (by kernel_rfl) (fun x => by kernel_rfl)
def impl_Crc.e (k : Nat) : Ent := ⟨1, [(.val false t4)], [(.one, (.i .i64))], fun x => impl_Crc k x⟩
def impl_Crc_l7.p : LF := ⟨⟨[], [(3, (.i .u32)), (7, t4), (8, (.i .i64)), (9, (.i .i64)), (17, (.i .i64))]⟩, [((.exit 2), ⟨[], [(3, (.i .u32)), (7, t4), (8, (.i .i64)), (9, (.i .i64))]⟩)], fun k x => impl_Crc_l7 k x.1 x.2.1 x.2.2.1 x.2.2.2.1 x.2.2.2.2⟩
def impl_Crc_l3.p : LF := ⟨⟨[], [(3, (.i .u32)), (7, t4), (8, (.i .i64)), (9, (.i .i64))]⟩, [((.exit 0), ⟨[], [(3, (.i .u32))]⟩)], fun k x => impl_Crc_l3 k x.1 x.2.1 x.2.2.1 x.2.2.2⟩
def impl_Crc.d : Fd := { nt := 32, nv := 1, nm := [0, 1, 3, 4, 5, 6], res := [2], ls := [(7, impl_Crc_l7.p), (3, impl_Crc_l3.p)] }
theorem impl_Crc_l7.s : LK Tryz.prog Tryz.f100 impl_Crc.d 7 impl_Crc_l7.p := mkL sO [] (by kernel_rfl) (fun _ => trivial) trivial (by kernel_rfl) (fun _ => rfl) (fun k x => by kernel_rfl)
theorem impl_Crc_l3.s : LK Tryz.prog Tryz.f100 impl_Crc.d 3 impl_Crc_l3.p := mkL sO [7] (by kernel_rfl) (fun _ => trivial) ⟨impl_Crc_l7.s, trivial⟩ (by kernel_rfl) (fun _ => rfl) (fun k x => by kernel_rfl)
theorem impl_Crc.s (k : Nat) : CallOk Tryz.prog 100 (impl_Crc.e k) := mkS (D := impl_Crc.d) (k := k) sO [3] Tryz.func100 trivial ⟨impl_Crc_l3.s, trivial⟩ (by kernel_rfl) (by kernel_rfl) (fun x => by kernel_rfl)
def impl_PutFile.e (k : Nat) : Ent := ⟨1, [(.val true t18)], [(.one, t5)], fun x => impl_PutFile k x⟩
def impl_PutFile.d : Fd := { nt := 33, nv := 1, nm := [0, 1, 3, 4], res := [2], cs := fun k => [(31, impl_FileOk.e k), (98, impl_addText.e k), (99, impl_addStamp.e k), (100, impl_Crc.e k)] }
theorem impl_PutFile.s (k : Nat) : CallOk Tryz.prog 70 (impl_PutFile.e k) := mkS (D := impl_PutFile.d) (k := k) sO [] Tryz.func70 ⟨impl_FileOk.s k, impl_addText.s k, impl_addStamp.s k, impl_Crc.s k, trivial⟩ trivial (by kernel_rfl) (by kernel_rfl) (fun x => by kernel_rfl)
def impl_GetNum.e (k : Nat) : Ent := ⟨2, [(.val false t4), (.val false (.i .i64))], [(.one, (.i .i64)), (.one, (.i .i64)), (.one, .b)], fun x => impl_GetNum k x.1 x.2⟩
def impl_GetNum_l3.p : LF := ⟨⟨[], [(0, t4), (1, (.i .i64)), (7, (.i .i64)), (8, (.i .i64))]⟩, [(.ret, ⟨[], [(4, (.i .i64)), (5, (.i .i64)), (6, .b)]⟩), ((.exit 0), ⟨[], []⟩)], fun k x => impl_GetNum_l3 k x.1 x.2.1 x.2.2.1 x.2.2.2⟩
def impl_GetNum.d : Fd := { nt := 57, nv := 2, nm := [0, 1, 2, 3, 7, 8, 9], res := [4, 5, 6], ls := [(3, impl_GetNum_l3.p)] }
theorem impl_GetNum_l3.s : LK Tryz.prog Tryz.f126 impl_GetNum.d 3 impl_GetNum_l3.p := mkL sO [] (by kernel_rfl) (fun _ => trivial) trivial (by kernel_rfl) (fun _ => rfl) (fun k x => by kernel_rfl)
theorem impl_GetNum.s (k : Nat) : CallOk Tryz.prog 126 (impl_GetNum.e k) := mkS (D := impl_GetNum.d) (k := k) sO [3] Tryz.func126 trivial ⟨impl_GetNum_l3.s, trivial⟩ (by kernel_rfl) (by kernel_rfl) (fun x => by kernel_rfl)
def impl_reader_num.e (k : Nat) : Ent := ⟨1, [(.ptr t15 t15)], [(.one, (.i .i64))], fun x => impl_reader_num k x⟩
def impl_reader_num.d : Fd := { nt := 35, nv := 1, nm := [0, 1, 3, 4, 5], res := [2], cs := fun k => [(126, impl_GetNum.e k)] }
theorem impl_reader_num.s (k : Nat) : CallOk Tryz.prog 106 (impl_reader_num.e k) := mkS (D := impl_reader_num.d) (k := k) sO [] Tryz.func106 ⟨impl_GetNum.s k, trivial⟩ trivial (by kernel_rfl) (by kernel_rfl) (fun x => by kernel_rfl)
def impl_reader_stamp.e (k : Nat) : Ent := ⟨1, [(.ptr t15 t15)], [(.agg, t14), (.one, .b)], fun x => impl_reader_stamp k x⟩
def impl_reader_stamp.d : Fd := { nt := 31, nv := 1, nm := [0, 1, 4, 5], res := [3], cs := fun k => [(106, impl_reader_num.e k)] }
theorem impl_reader_stamp.s (k : Nat) : CallOk Tryz.prog 78 (impl_reader_stamp.e k) := mkS (D := impl_reader_stamp.d) (k := k) sO [] Tryz.func78 ⟨impl_reader_num.s k, trivial⟩ trivial (by kernel_rfl) (by kernel_rfl) (fun x => by kernel_rfl)
def impl_GetText.e (k : Nat) : Ent := ⟨2, [(.val false t4), (.val false (.i .i64))], [(.one, .s), (.one, (.i .i64)), (.one, .b)], fun x => impl_GetText k x.1 x.2⟩
def impl_GetText.d : Fd := { nt := 37, nv := 2, nm := [0, 1, 2, 3, 7, 8, 9], res := [4, 5, 6], cs := fun k => [(126, impl_GetNum.e k)] }
theorem impl_GetText.s (k : Nat) : CallOk Tryz.prog 107 (impl_GetText.e k) := mkS (D := impl_GetText.d) (k := k) sO [] Tryz.func107 ⟨impl_GetNum.s k, trivial⟩ trivial (by kernel_rfl) (by kernel_rfl) (fun x => by kernel_rfl)
def impl_reader_text.e (k : Nat) : Ent := ⟨1, [(.ptr t15 t15)], [(.one, .s)], fun x => impl_reader_text k x⟩
def impl_reader_text.d : Fd := { nt := 35, nv := 1, nm := [0, 1, 3, 4, 5], res := [2], cs := fun k => [(107, impl_GetText.e k)] }
theorem impl_reader_text.s (k : Nat) : CallOk Tryz.prog 79 (impl_reader_text.e k) := mkS (D := impl_reader_text.d) (k := k) sO [] Tryz.func79 ⟨impl_GetText.s k, trivial⟩ trivial (by kernel_rfl) (by kernel_rfl) (fun x => by kernel_rfl)
def impl_GetFile.e (k : Nat) : Ent := ⟨1, [(.val false t4)], [(.agg, t18), (.one, .b)], fun x => impl_GetFile k x⟩
def impl_GetFile.d : Fd := { nt := 41, nv := 1, nm := [0, 1, 4, 5, 6], res := [3], cs := fun k => [(70, impl_PutFile.e k), (78, impl_reader_stamp.e k), (79, impl_reader_text.e k)] }
theorem impl_GetFile.s (k : Nat) : CallOk Tryz.prog 39 (impl_GetFile.e k) := mkS (D := impl_GetFile.d) (k := k) sO [] Tryz.func39 ⟨impl_PutFile.s k, impl_reader_stamp.s k, impl_reader_text.s k, trivial⟩ trivial (by kernel_rfl) (by kernel_rfl) (fun x => by kernel_rfl)
def impl_LessStamp.e (k : Nat) : Ent := ⟨2, [(.val true t14), (.val true t14)], [(.one, .b)], fun x => impl_LessStamp x.1 x.2⟩
def impl_LessStamp.d : Fd := { nt := 32, nv := 2, nm := [0, 1, 2, 3], res := [4] }
theorem impl_LessStamp.s (k : Nat) : CallOk Tryz.prog 96 (impl_LessStamp.e k) := mkS (D := impl_LessStamp.d) (k := k) sO [] Tryz.func96 trivial trivial (by kernel_rfl) (by kernel_rfl) (fun x => by kernel_rfl)
def impl_Newer.e (k : Nat) : Ent := ⟨2, [(.val true t18), (.val true t18)], [(.one, .b)], fun x => impl_Newer x.1 x.2⟩
def impl_Newer.d : Fd := { nt := 10, nv := 2, nm := [0, 1, 2, 3], res := [4], cs := fun k => [(96, impl_LessStamp.e k)] }
theorem impl_Newer.s (k : Nat) : CallOk Tryz.prog 68 (impl_Newer.e k) := mkS (D := impl_Newer.d) (k := k) sO [] Tryz.func68 ⟨impl_LessStamp.s k, trivial⟩ trivial (by kernel_rfl) (by kernel_rfl) (fun x => by kernel_rfl)
def impl_drop.e (k : Nat) : Ent := ⟨2, [(.val false t11), (.val false .s)], [(.one, t11)], fun x => impl_drop k x.1 x.2⟩
def impl_drop.d : Fd := { nt := 21, nv := 2, nm := [0, 1, 2, 3, 5], res := [4], cs := fun k => [(76, impl_at.e k)] }
theorem impl_drop.s (k : Nat) : CallOk Tryz.prog 88 (impl_drop.e k) := mkS (D := impl_drop.d) (k := k) sO [] Tryz.func88 ⟨impl_at.s k, trivial⟩ trivial (by kernel_rfl) (by kernel_rfl) (fun x => by kernel_rfl)
def impl_put.e (k : Nat) : Ent := ⟨2, [(.val false t11), (.val true t9)], [(.one, t12)], fun x => impl_put k x.1 x.2⟩
def impl_put_l2.p : LF := ⟨⟨[(3, (.bp 3 0 0)), (4999, (.hd 2))], [(0, t11), (5, (.i .i64)), (4000, .s), (4001, t4)]⟩, [((.exit 0), ⟨[(3, (.bp 3 0 0)), (4999, (.hd 2))], [(0, t11), (5, (.i .i64)), (4000, .s), (4001, t4)]⟩)], fun k x => impl_put_l2 k x.1 x.2.1 x.2.2.1 x.2.2.2⟩
def impl_put.d : Fd := { nt := 33, nv := 2, nm := [0, 1, 2, 3, 5], res := [4], ls := [(2, impl_put_l2.p)] }
theorem impl_put_l2.s : LK Tryz.prog Tryz.f97 impl_put.d 2 impl_put_l2.p := mkL sO [] (by kernel_rfl) (fun _ => trivial) trivial (by kernel_rfl) (fun _ => rfl) (fun k x => by kernel_rfl)
theorem impl_put.s (k : Nat) : CallOk Tryz.prog 97 (impl_put.e k) := mkS (D := impl_put.d) (k := k) sO [2] Tryz.func97 trivial ⟨impl_put_l2.s, trivial⟩ (by kernel_rfl) (by kernel_rfl) (fun x => by kernel_rfl)
def impl_WriteName.e (k : Nat) : Ent := ⟨3, [(.val true t20), (.val false .s), (.val false t4)], [(.agg, t22), (.one, .b)], fun x => impl_WriteName k x.1 x.2.1 x.2.2⟩
def impl_WriteName.d : Fd := { nt := 42, nv := 3, nm := [0, 1, 2, 3, 4, 5, 8], res := [7], cs := fun k => [(30, impl_NameOk.e k), (43, impl_DiskOk.e k), (65, impl_copyDisk.e k), (77, impl_copyBytes.e k), (88, impl_drop.e k), (97, impl_put.e k)], mv := [24, 41] }
theorem impl_WriteName.s (k : Nat) : CallOk Tryz.prog 69 (impl_WriteName.e k) := mkS (D := impl_WriteName.d) (k := k) sO [] Tryz.func69 ⟨impl_NameOk.s k, impl_DiskOk.s k, impl_copyDisk.s k, impl_copyBytes.s k, impl_drop.s k, impl_put.s k, trivial⟩ trivial (by kernel_rfl) (by kernel_rfl) (fun x => by kernel_rfl)
def impl_SyncName.e (k : Nat) : Ent := ⟨2, [(.val true t20), (.val false .s)], [(.agg, (.pr t12 t11)), (.one, .b)], fun x => impl_SyncName k x.1 x.2⟩
def impl_SyncName.d : Fd := { nt := 50, nv := 2, nm := [0, 1, 2, 3, 6, 7], res := [5], cs := fun k => [(30, impl_NameOk.e k), (43, impl_DiskOk.e k), (65, impl_copyDisk.e k), (76, impl_at.e k), (77, impl_copyBytes.e k), (88, impl_drop.e k), (97, impl_put.e k)], mv := [18, 49] }
theorem impl_SyncName.s (k : Nat) : CallOk Tryz.prog 71 (impl_SyncName.e k) := mkS (D := impl_SyncName.d) (k := k) sO [] Tryz.func71 ⟨impl_NameOk.s k, impl_DiskOk.s k, impl_copyDisk.s k, impl_at.s k, impl_copyBytes.s k, impl_drop.s k, impl_put.s k, trivial⟩ trivial (by kernel_rfl) (by kernel_rfl) (fun x => by kernel_rfl)
def impl_Keep.e (k : Nat) : Ent := ⟨4, [(.val true t20), (.val false .s), (.val true t18), (.val false .b)], [(.agg, t20), (.one, (.i .i64))], fun x => impl_Keep k x.1 x.2.1 x.2.2.1 x.2.2.2⟩
def impl_Keep.d : Fd := { nt := 82, nv := 4, nm := [0, 1, 2, 3, 4, 5, 6, 7, 10, 11, 12, 13, 14, 15, 16, 17, 18, 19], res := [9], cs := fun k => [(30, impl_NameOk.e k), (31, impl_FileOk.e k), (38, impl_ReadName.e k), (39, impl_GetFile.e k), (43, impl_DiskOk.e k), (65, impl_copyDisk.e k), (68, impl_Newer.e k), (69, impl_WriteName.e k), (70, impl_PutFile.e k), (71, impl_SyncName.e k)], mv := [80] }
theorem impl_Keep.s (k : Nat) : CallOk Tryz.prog 32 (impl_Keep.e k) := mkS (D := impl_Keep.d) (k := k) sO [] Tryz.func32 ⟨impl_NameOk.s k, impl_FileOk.s k, impl_ReadName.s k, impl_GetFile.s k, impl_DiskOk.s k, impl_copyDisk.s k, impl_Newer.s k, impl_WriteName.s k, impl_PutFile.s k, impl_SyncName.s k, trivial⟩ trivial (by kernel_rfl) (by kernel_rfl) (fun x => by kernel_rfl)
def impl_NodePut.e (k : Nat) : Ent := ⟨4, [(.val true t28), (.val false .s), (.val true t18), (.val false .b)], [(.agg, t30), (.one, (.i .i64))], fun x => impl_NodePut k x.1 x.2.1 x.2.2.1 x.2.2.2⟩
def impl_NodePut.d : Fd := { nt := 62, nv := 4, nm := [0, 1, 2, 3, 4, 5, 6, 7, 10, 11, 12], res := [9], cs := fun k => [(13, impl_NodeOk.e k), (14, impl_RowOf.e k), (29, impl_copyNode.e k), (30, impl_NameOk.e k), (31, impl_FileOk.e k), (32, impl_Keep.e k)], mv := [29, 35, 60], rf := true }
theorem impl_NodePut.s (k : Nat) : CallOk Tryz.prog 7 (impl_NodePut.e k) := mkS (D := impl_NodePut.d) (k := k) sO [] Tryz.func7 ⟨impl_NodeOk.s k, impl_RowOf.s k, impl_copyNode.s k, impl_NameOk.s k, impl_FileOk.s k, impl_Keep.s k, trivial⟩ trivial (by kernel_rfl) (by kernel_rfl) (fun x => by kernel_rfl)
def laws_sameTexts.e (k : Nat) : Ent := ⟨2, [(.val false t0), (.val false t0)], [(.one, .b)], fun x => laws_sameTexts k x.1 x.2⟩
def laws_sameTexts_l4.p : LF := ⟨⟨[], [(0, t0), (1, t0), (5, (.i .i64))]⟩, [(.ret, ⟨[], [(4, .b)]⟩), ((.exit 0), ⟨[], []⟩)], fun k x => laws_sameTexts_l4 k x.1 x.2.1 x.2.2⟩
def laws_sameTexts.d : Fd := { nt := 26, nv := 2, nm := [0, 1, 2, 3, 5], res := [4], ls := [(4, laws_sameTexts_l4.p)], rf := true }
theorem laws_sameTexts_l4.s : LK Tryz.prog Tryz.f9 laws_sameTexts.d 4 laws_sameTexts_l4.p := mkL sO [] (by kernel_rfl) (fun _ => trivial) trivial (by kernel_rfl) (fun _ => rfl) (fun k x => by kernel_rfl)
theorem laws_sameTexts.s (k : Nat) : CallOk Tryz.prog 9 (laws_sameTexts.e k) := mkS (D := laws_sameTexts.d) (k := k) sO [4] Tryz.func9 trivial ⟨laws_sameTexts_l4.s, trivial⟩ (by kernel_rfl) (by kernel_rfl) (fun x => by kernel_rfl)
def impl_Look.e (k : Nat) : Ent := ⟨2, [(.val true t20), (.val false .s)], [(.agg, t18), (.one, (.i .i64))], fun x => impl_Look k x.1 x.2⟩
def impl_Look.d : Fd := { nt := 28, nv := 2, nm := [0, 1, 2, 3, 6, 7, 8, 9], res := [5], cs := fun k => [(38, impl_ReadName.e k), (39, impl_GetFile.e k)] }
theorem impl_Look.s (k : Nat) : CallOk Tryz.prog 11 (impl_Look.e k) := mkS (D := impl_Look.d) (k := k) sO [] Tryz.func11 ⟨impl_ReadName.s k, impl_GetFile.s k, trivial⟩ trivial (by kernel_rfl) (by kernel_rfl) (fun x => by kernel_rfl)
def impl_withText.e (k : Nat) : Ent := ⟨2, [(.val false t0), (.val false .s)], [(.one, t0)], fun x => impl_withText k x.1 x.2⟩
def impl_withText_l2.p : LF := ⟨⟨[], [(0, t0), (1, .s), (5, (.i .i64))]⟩, [((.exit 0), ⟨[], [(0, t0), (1, .s), (5, (.i .i64))]⟩)], fun k x => impl_withText_l2 k x.1 x.2.1 x.2.2⟩
def impl_withText.d : Fd := { nt := 44, nv := 2, nm := [0, 1, 2, 3, 5], res := [4], ls := [(2, impl_withText_l2.p)] }
theorem impl_withText_l2.s : LK Tryz.prog Tryz.f37 impl_withText.d 2 impl_withText_l2.p := mkL sO [] (by kernel_rfl) (fun _ => trivial) trivial (by kernel_rfl) (fun _ => rfl) (fun k x => by kernel_rfl)
theorem impl_withText.s (k : Nat) : CallOk Tryz.prog 37 (impl_withText.e k) := mkS (D := impl_withText.d) (k := k) sO [2] Tryz.func37 trivial ⟨impl_withText_l2.s, trivial⟩ (by kernel_rfl) (by kernel_rfl) (fun x => by kernel_rfl)
def impl_Held.e (k : Nat) : Ent := ⟨1, [(.val true t20)], [(.one, t0)], fun x => impl_Held k x⟩
def impl_Held_l3.p : LF := ⟨⟨[(1, (.bp 1 0 0)), (2999, (.hd 2))], [(3, t0), (9, t11), (10, (.i .i64)), (11, (.i .i64)), (2000, t11), (2001, t11)]⟩, [((.exit 0), ⟨[], [(3, t0)]⟩)], fun k x => impl_Held_l3 k x.1 x.2.1 x.2.2.1 x.2.2.2.1 x.2.2.2.2.1 x.2.2.2.2.2⟩
def impl_Held.d : Fd := { nt := 30, nv := 1, nm := [0, 1, 3, 4, 5, 6, 7], res := [2], cs := fun k => [(11, impl_Look.e k), (37, impl_withText.e k)], ls := [(3, impl_Held_l3.p)], rf := true }
theorem impl_Held.a (k : Nat) : AllC Tryz.prog (impl_Held.d.cs k) := ⟨impl_Look.s k, impl_withText.s k, trivial⟩
theorem impl_Held_l3.s : LK Tryz.prog Tryz.f10 impl_Held.d 3 impl_Held_l3.p := mkL sO [] (by kernel_rfl) impl_Held.a trivial (by kernel_rfl) (fun _ => rfl) (fun k x => by kernel_rfl)
theorem impl_Held.s (k : Nat) : CallOk Tryz.prog 10 (impl_Held.e k) := mkS (D := impl_Held.d) (k := k) sO [3] Tryz.func10 (impl_Held.a k) ⟨impl_Held_l3.s, trivial⟩ (by kernel_rfl) (by kernel_rfl) (fun x => by kernel_rfl)
def laws_sameBytes.e (k : Nat) : Ent := ⟨2, [(.val false t4), (.val false t4)], [(.one, .b)], fun x => laws_sameBytes k x.1 x.2⟩
def laws_sameBytes_l4.p : LF := ⟨⟨[], [(0, t4), (1, t4), (5, (.i .i64))]⟩, [(.ret, ⟨[], [(4, .b)]⟩), ((.exit 0), ⟨[], []⟩)], fun k x => laws_sameBytes_l4 k x.1 x.2.1 x.2.2⟩
def laws_sameBytes.d : Fd := { nt := 26, nv := 2, nm := [0, 1, 2, 3, 5], res := [4], ls := [(4, laws_sameBytes_l4.p)] }
theorem laws_sameBytes_l4.s : LK Tryz.prog Tryz.f40 laws_sameBytes.d 4 laws_sameBytes_l4.p := mkL sO [] (by kernel_rfl) (fun _ => trivial) trivial (by kernel_rfl) (fun _ => rfl) (fun k x => by kernel_rfl)
theorem laws_sameBytes.s (k : Nat) : CallOk Tryz.prog 40 (laws_sameBytes.e k) := mkS (D := laws_sameBytes.d) (k := k) sO [4] Tryz.func40 trivial ⟨laws_sameBytes_l4.s, trivial⟩ (by kernel_rfl) (by kernel_rfl) (fun x => by kernel_rfl)
def laws_sameFile.e (k : Nat) : Ent := ⟨2, [(.val true t18), (.val true t18)], [(.one, .b)], fun x => laws_sameFile k x.1 x.2⟩
def laws_sameFile.d : Fd := { nt := 24, nv := 2, nm := [0, 1, 2, 3], res := [4], cs := fun k => [(40, laws_sameBytes.e k)] }
theorem laws_sameFile.s (k : Nat) : CallOk Tryz.prog 12 (laws_sameFile.e k) := mkS (D := laws_sameFile.d) (k := k) sO [] Tryz.func12 ⟨laws_sameBytes.s k, trivial⟩ trivial (by kernel_rfl) (by kernel_rfl) (fun x => by kernel_rfl)
def laws_FnNodes.e (k : Nat) : Ent := ⟨1, [(.val false t4)], [(.one, .b)], fun x => laws_FnNodes k x⟩
def laws_FnNodes.d : Fd := { nt := 114, nv := 1, nm := [0, 1, 3, 4, 5, 6, 7, 8, 9, 10, 11, 12, 13], res := [2], cs := fun k => [(5, laws_big.e k), (6, spec_DrawNodePut.e k), (7, impl_NodePut.e k), (8, spec_NodePut.e k), (9, laws_sameTexts.e k), (10, impl_Held.e k), (11, impl_Look.e k), (12, laws_sameFile.e k), (13, impl_NodeOk.e k), (14, impl_RowOf.e k)], sh := true, rf := true }
theorem laws_FnNodes.s (k : Nat) : CallOk Tryz.prog 3 (laws_FnNodes.e k) := mkS (D := laws_FnNodes.d) (k := k) sO [] Tryz.func3 ⟨laws_big.s k, spec_DrawNodePut.s k, impl_NodePut.s k, spec_NodePut.s k, laws_sameTexts.s k, impl_Held.s k, impl_Look.s k, laws_sameFile.s k, impl_NodeOk.s k, impl_RowOf.s k, trivial⟩ trivial (by kernel_rfl) (by kernel_rfl) (fun x => by kernel_rfl)
def spec_l9Keep.e (k : Nat) : Ent := ⟨1, [(.ptr t16 t16)], [(.one, t2)], fun x => spec_l9Keep k x⟩
def spec_l9Keep_l3.p : LF := ⟨⟨[(0, (.bp 0 0 0)), (1999, (.hd 3))], [(3, t2), (4, (.i .i64)), (1000, t4), (1001, (.i .i64)), (1002, (.i .i64))]⟩, [((.exit 0), ⟨[(1999, (.hd 3))], [(3, t2), (1000, t4), (1001, (.i .i64)), (1002, (.i .i64))]⟩)], fun k x => spec_l9Keep_l3 k x.1 x.2.1 x.2.2.1 x.2.2.2.1 x.2.2.2.2⟩
def spec_l9Keep.d : Fd := { nt := 18, nv := 1, nm := [0, 1, 3, 4], res := [2], cs := fun k => [(28, spec_l1Once.e k), (49, spec_l1Below.e k)], ls := [(3, spec_l9Keep_l3.p)] }
theorem spec_l9Keep.a (k : Nat) : AllC Tryz.prog (spec_l9Keep.d.cs k) := ⟨spec_l1Once.s k, spec_l1Below.s k, trivial⟩
theorem spec_l9Keep_l3.s : LK Tryz.prog Tryz.f45 spec_l9Keep.d 3 spec_l9Keep_l3.p := mkL sO [] (by kernel_rfl) spec_l9Keep.a trivial (by kernel_rfl) (fun _ => rfl) (fun k x => by kernel_rfl)
theorem spec_l9Keep.s (k : Nat) : CallOk Tryz.prog 45 (spec_l9Keep.e k) := mkS (D := spec_l9Keep.d) (k := k) sO [3] Tryz.func45 (spec_l9Keep.a k) ⟨spec_l9Keep_l3.s, trivial⟩ (by kernel_rfl) (by kernel_rfl) (fun x => by kernel_rfl)
def spec_DrawNodeCrash.e (k : Nat) : Ent := ⟨1, [(.val false t4)], [(.agg, t32), (.one, t2)], fun x => spec_DrawNodeCrash k x⟩
def spec_DrawNodeCrash.d : Fd := { nt := 11, nv := 1, nm := [0, 1, 4], res := [3], cs := fun k => [(24, spec_l1New.e k), (25, spec_l12Any.e k), (45, spec_l9Keep.e k)], rf := true }
theorem spec_DrawNodeCrash.s (k : Nat) : CallOk Tryz.prog 15 (spec_DrawNodeCrash.e k) := mkS (D := spec_DrawNodeCrash.d) (k := k) sO [] Tryz.func15 ⟨spec_l1New.s k, spec_l12Any.s k, spec_l9Keep.s k, trivial⟩ trivial (by kernel_rfl) (by kernel_rfl) (fun x => by kernel_rfl)
def impl_FallDisk.e (k : Nat) : Ent := ⟨2, [(.val true t20), (.val false t1)], [(.agg, t22)], fun x => impl_FallDisk k x.1 x.2⟩
def impl_FallDisk_l11.p : LF := ⟨⟨[(2, (.bp 2 0 0)), (4, (.bp 4 0 0)), (3999, (.hd 2)), (5999, (.hd 2))], [(1, t1), (8, t12), (34, t0), (35, (.i .i64)), (36, (.i .i64)), (3000, t11), (3001, t11), (5000, t12), (5001, t12)]⟩, [((.exit 2), ⟨[(2, (.bp 2 0 0)), (4, (.bp 4 0 0)), (3999, (.hd 2)), (5999, (.hd 2))], [(8, t12), (3000, t11), (3001, t11), (5000, t12), (5001, t12)]⟩)], fun k x => impl_FallDisk_l11 k x.1 x.2.1 x.2.2.1 x.2.2.2.1 x.2.2.2.2.1 x.2.2.2.2.2.1 x.2.2.2.2.2.2.1 x.2.2.2.2.2.2.2.1 x.2.2.2.2.2.2.2.2⟩
def impl_FallDisk_l5.p : LF := ⟨⟨[(2, (.bp 2 0 0)), (4, (.bp 4 0 0)), (3999, (.hd 2)), (5999, (.hd 2))], [(1, t1), (5, t0), (23, t12), (24, (.i .i64)), (25, (.i .i64)), (3000, t11), (3001, t11), (5000, t12), (5001, t12)]⟩, [((.exit 0), ⟨[(2, (.bp 2 0 0)), (4, (.bp 4 0 0)), (3999, (.hd 2)), (5999, (.hd 2))], [(1, t1), (5, t0), (3000, t11), (3001, t11), (5000, t12), (5001, t12)]⟩)], fun k x => impl_FallDisk_l5 k x.1 x.2.1 x.2.2.1 x.2.2.2.1 x.2.2.2.2.1 x.2.2.2.2.2.1 x.2.2.2.2.2.2.1 x.2.2.2.2.2.2.2.1 x.2.2.2.2.2.2.2.2⟩
def impl_FallDisk.d : Fd := { nt := 78, nv := 2, nm := [0, 1, 2, 3, 5, 6, 7, 8, 9, 10, 11, 12], res := [], cs := fun k => [(37, impl_withText.e k), (43, impl_DiskOk.e k), (65, impl_copyDisk.e k), (76, impl_at.e k), (81, impl_copyNamed.e k)], ls := [(11, impl_FallDisk_l11.p), (5, impl_FallDisk_l5.p)] }
theorem impl_FallDisk.a (k : Nat) : AllC Tryz.prog (impl_FallDisk.d.cs k) := ⟨impl_withText.s k, impl_DiskOk.s k, impl_copyDisk.s k, impl_at.s k, impl_copyNamed.s k, trivial⟩
theorem impl_FallDisk_l11.s : LK Tryz.prog Tryz.f46 impl_FallDisk.d 11 impl_FallDisk_l11.p := mkL sO [] (by kernel_rfl) impl_FallDisk.a trivial (by kernel_rfl) (fun _ => rfl) (fun k x => by kernel_rfl)
theorem impl_FallDisk_l5.s : LK Tryz.prog Tryz.f46 impl_FallDisk.d 5 impl_FallDisk_l5.p := mkL sO [] (by kernel_rfl) impl_FallDisk.a trivial (by kernel_rfl) (fun _ => rfl) (fun k x => by kernel_rfl)
theorem impl_FallDisk.s (k : Nat) : CallOk Tryz.prog 46 (impl_FallDisk.e k) := mkS (D := impl_FallDisk.d) (k := k) sO [5, 11] Tryz.func46 (impl_FallDisk.a k) ⟨impl_FallDisk_l5.s, impl_FallDisk_l11.s, trivial⟩ (by kernel_rfl) (by kernel_rfl) (fun x => by kernel_rfl)
def impl_NodeCrash.e (k : Nat) : Ent := ⟨2, [(.val true t28), (.val false t1)], [(.agg, t29)], fun x => impl_NodeCrash k x.1 x.2⟩
def impl_NodeCrash.d : Fd := { nt := 16, nv := 2, nm := [0, 1, 2, 3, 5], res := [], cs := fun k => [(13, impl_NodeOk.e k), (29, impl_copyNode.e k), (46, impl_FallDisk.e k)], mv := [15], rf := true }
theorem impl_NodeCrash.s (k : Nat) : CallOk Tryz.prog 16 (impl_NodeCrash.e k) := mkS (D := impl_NodeCrash.d) (k := k) sO [] Tryz.func16 ⟨impl_NodeOk.s k, impl_copyNode.s k, impl_FallDisk.s k, trivial⟩ trivial (by kernel_rfl) (by kernel_rfl) (fun x => by kernel_rfl)
def spec_l10Has.e (k : Nat) : Ent := ⟨2, [(.val false t0), (.val false .s)], [(.one, .b)], fun x => spec_l10Has k x.1 x.2⟩
def spec_l10Has_l2.p : LF := ⟨⟨[], [(0, t0), (1, .s), (5, (.i .i64))]⟩, [(.ret, ⟨[], [(4, .b)]⟩), ((.exit 0), ⟨[], []⟩)], fun k x => spec_l10Has_l2 k x.1 x.2.1 x.2.2⟩
def spec_l10Has.d : Fd := { nt := 18, nv := 2, nm := [0, 1, 2, 3, 5], res := [4], ls := [(2, spec_l10Has_l2.p)], rf := true }
theorem spec_l10Has_l2.s : LK Tryz.prog Tryz.f83 spec_l10Has.d 2 spec_l10Has_l2.p := mkL sO [] (by kernel_rfl) (fun _ => trivial) trivial (by kernel_rfl) (fun _ => rfl) (fun k x => by kernel_rfl)
theorem spec_l10Has.s (k : Nat) : CallOk Tryz.prog 83 (spec_l10Has.e k) := mkS (D := spec_l10Has.d) (k := k) sO [2] Tryz.func83 trivial ⟨spec_l10Has_l2.s, trivial⟩ (by kernel_rfl) (by kernel_rfl) (fun x => by kernel_rfl)
def spec_Held.e (k : Nat) : Ent := ⟨1, [(.val true t20)], [(.one, t3)], fun x => spec_Held k x⟩
def spec_Held_l9.p : LF := ⟨⟨[(1, (.bp 1 0 0)), (2999, (.hd 2))], [(3, t3), (4, (.i .i64)), (7, (.i .i64)), (2000, t11), (2001, t11)]⟩, [((.exit 2), ⟨[(1, (.bp 1 0 0)), (2999, (.hd 2))], [(3, t3), (4, (.i .i64)), (7, (.i .i64)), (2000, t11), (2001, t11)]⟩)], fun k x => spec_Held_l9 k x.1 x.2.1 x.2.2.1 x.2.2.2.1 x.2.2.2.2⟩
def spec_Held_l3.p : LF := ⟨⟨[(1, (.bp 1 0 0)), (2999, (.hd 2))], [(3, t3), (4, (.i .i64)), (2000, t11), (2001, t11)]⟩, [((.exit 0), ⟨[], [(3, t3)]⟩)], fun k x => spec_Held_l3 k x.1 x.2.1 x.2.2.1 x.2.2.2⟩
def spec_Held.d : Fd := { nt := 98, nv := 1, nm := [0, 1, 3, 4, 5, 6, 7], res := [2], cs := fun k => [(82, spec_GetFile.e k), (83, spec_l10Has.e k), (84, spec_l9At.e k)], ls := [(9, spec_Held_l9.p), (3, spec_Held_l3.p)], rf := true }
theorem spec_Held.a (k : Nat) : AllC Tryz.prog (spec_Held.d.cs k) := ⟨spec_GetFile.s k, spec_l10Has.s k, spec_l9At.s k, trivial⟩
theorem spec_Held_l9.s : LK Tryz.prog Tryz.f48 spec_Held.d 9 spec_Held_l9.p := mkL sO [] (by kernel_rfl) spec_Held.a trivial (by kernel_rfl) (fun _ => rfl) (fun k x => by kernel_rfl)
theorem spec_Held_l3.s : LK Tryz.prog Tryz.f48 spec_Held.d 3 spec_Held_l3.p := mkL sO [9] (by kernel_rfl) spec_Held.a ⟨spec_Held_l9.s, trivial⟩ (by kernel_rfl) (fun _ => rfl) (fun k x => by kernel_rfl)
theorem spec_Held.s (k : Nat) : CallOk Tryz.prog 48 (spec_Held.e k) := mkS (D := spec_Held.d) (k := k) sO [3] Tryz.func48 (spec_Held.a k) ⟨spec_Held_l3.s, trivial⟩ (by kernel_rfl) (by kernel_rfl) (fun x => by kernel_rfl)
def spec_DrawNodeRot.e (k : Nat) : Ent := ⟨1, [(.val false t4)], [(.agg, t32), (.one, .s), (.one, (.i .i64))], fun x => spec_DrawNodeRot k x⟩
def spec_DrawNodeRot.d : Fd := { nt := 38, nv := 1, nm := [0, 1, 5, 6, 7, 8], res := [3, 4], cs := fun k => [(24, spec_l1New.e k), (25, spec_l12Any.e k), (28, spec_l1Once.e k), (47, spec_l3Name.e k), (48, spec_Held.e k), (49, spec_l1Below.e k), (50, spec_l1Int.e k)], mv := [33], rf := true }
theorem spec_DrawNodeRot.s (k : Nat) : CallOk Tryz.prog 17 (spec_DrawNodeRot.e k) := mkS (D := spec_DrawNodeRot.d) (k := k) sO [] Tryz.func17 ⟨spec_l1New.s k, spec_l12Any.s k, spec_l1Once.s k, spec_l3Name.s k, spec_Held.s k, spec_l1Below.s k, spec_l1Int.s k, trivial⟩ trivial (by kernel_rfl) (by kernel_rfl) (fun x => by kernel_rfl)
def impl_RotBit.e (k : Nat) : Ent := ⟨3, [(.val true t20), (.val false .s), (.val false (.i .i64))], [(.agg, t23), (.one, .b)], fun x => impl_RotBit k x.1 x.2.1 x.2.2⟩
def impl_RotBit.d : Fd := { nt := 95, nv := 3, nm := [0, 1, 2, 3, 4, 5, 8, 9, 10, 11], res := [7], cs := fun k => [(43, impl_DiskOk.e k), (65, impl_copyDisk_d.e k), (76, impl_at.e k)], mv := [45, 94], rf := true }
theorem impl_RotBit.s (k : Nat) : CallOk Tryz.prog 51 (impl_RotBit.e k) := mkS (D := impl_RotBit.d) (k := k) sO [] Tryz.func51 ⟨impl_DiskOk.s k, impl_copyDisk_d.s k, impl_at.s k, trivial⟩ trivial (by kernel_rfl) (by kernel_rfl) (fun x => by kernel_rfl)
def impl_NodeRot.e (k : Nat) : Ent := ⟨3, [(.val true t28), (.val false .s), (.val false (.i .i64))], [(.agg, t30), (.one, .b)], fun x => impl_NodeRot k x.1 x.2.1 x.2.2⟩
def impl_NodeRot.d : Fd := { nt := 42, nv := 3, nm := [0, 1, 2, 3, 4, 5, 8, 9, 10, 11, 12], res := [7], cs := fun k => [(11, impl_Look.e k), (13, impl_NodeOk.e k), (29, impl_copyNode.e k), (51, impl_RotBit.e k)], mv := [29, 40], rf := true }
theorem impl_NodeRot.s (k : Nat) : CallOk Tryz.prog 18 (impl_NodeRot.e k) := mkS (D := impl_NodeRot.d) (k := k) sO [] Tryz.func18 ⟨impl_Look.s k, impl_NodeOk.s k, impl_copyNode.s k, impl_RotBit.s k, trivial⟩ trivial (by kernel_rfl) (by kernel_rfl) (fun x => by kernel_rfl)
def laws_sameRows.e (k : Nat) : Ent := ⟨2, [(.val false t24), (.val false t24)], [(.one, .b)], fun x => laws_sameRows k x.1 x.2⟩
def laws_sameRows_l4.p : LF := ⟨⟨[], [(0, t24), (1, t24), (5, (.i .i64))]⟩, [(.ret, ⟨[], [(4, .b)]⟩), ((.exit 0), ⟨[], []⟩)], fun k x => laws_sameRows_l4 k x.1 x.2.1 x.2.2⟩
def laws_sameRows.d : Fd := { nt := 26, nv := 2, nm := [0, 1, 2, 3, 5], res := [4], ls := [(4, laws_sameRows_l4.p)] }
theorem laws_sameRows_l4.s : LK Tryz.prog Tryz.f21 laws_sameRows.d 4 laws_sameRows_l4.p := mkL sO [] (by kernel_rfl) (fun _ => trivial) trivial (by kernel_rfl) (fun _ => rfl) (fun k x => by kernel_rfl)
theorem laws_sameRows.s (k : Nat) : CallOk Tryz.prog 21 (laws_sameRows.e k) := mkS (D := laws_sameRows.d) (k := k) sO [4] Tryz.func21 trivial ⟨laws_sameRows_l4.s, trivial⟩ (by kernel_rfl) (by kernel_rfl) (fun x => by kernel_rfl)
def impl_Clean.e (k : Nat) : Ent := ⟨1, [(.val true t20)], [(.agg, t20), (.one, (.i .i64))], fun x => impl_Clean k x⟩
def impl_Clean_l6.p : LF := ⟨⟨[(2, (.bp 2 0 0)), (4, (.bp 4 0 0)), (3999, (.hd 2)), (5999, (.hd 2))], [(5, (.i .i64)), (17, t11), (18, (.i .i64)), (19, (.i .i64)), (3000, t12), (3001, t12), (5000, t11), (5001, t11)]⟩, [((.exit 0), ⟨[(2, (.bp 2 0 0)), (4, (.bp 4 0 0)), (3999, (.hd 2)), (5999, (.hd 2))], [(5, (.i .i64)), (3000, t12), (3001, t12), (5000, t11), (5001, t11)]⟩)], fun k x => impl_Clean_l6 k x.1 x.2.1 x.2.2.1 x.2.2.2.1 x.2.2.2.2.1 x.2.2.2.2.2.1 x.2.2.2.2.2.2.1 x.2.2.2.2.2.2.2⟩
def impl_Clean.d : Fd := { nt := 48, nv := 1, nm := [0, 1, 4, 5, 6, 7, 8, 9], res := [3], cs := fun k => [(39, impl_GetFile.e k), (43, impl_DiskOk.e k), (65, impl_copyDisk.e k), (88, impl_drop.e k)], ls := [(6, impl_Clean_l6.p)], mv := [15], rf := true }
theorem impl_Clean.a (k : Nat) : AllC Tryz.prog (impl_Clean.d.cs k) := ⟨impl_GetFile.s k, impl_DiskOk.s k, impl_copyDisk.s k, impl_drop.s k, trivial⟩
theorem impl_Clean_l6.s : LK Tryz.prog Tryz.f58 impl_Clean.d 6 impl_Clean_l6.p := mkL sO [] (by kernel_rfl) impl_Clean.a trivial (by kernel_rfl) (fun _ => rfl) (fun k x => by kernel_rfl)
theorem impl_Clean.s (k : Nat) : CallOk Tryz.prog 58 (impl_Clean.e k) := mkS (D := impl_Clean.d) (k := k) sO [6] Tryz.func58 (impl_Clean.a k) ⟨impl_Clean_l6.s, trivial⟩ (by kernel_rfl) (by kernel_rfl) (fun x => by kernel_rfl)
def impl_NodeAudit.e (k : Nat) : Ent := ⟨1, [(.val true t28)], [(.agg, t30), (.one, (.i .i64))], fun x => impl_NodeAudit k x⟩
def impl_NodeAudit.d : Fd := { nt := 19, nv := 1, nm := [0, 1, 4, 5, 6], res := [3], cs := fun k => [(29, impl_copyNode.e k), (58, impl_Clean.e k)], mv := [17], rf := true }
theorem impl_NodeAudit.s (k : Nat) : CallOk Tryz.prog 22 (impl_NodeAudit.e k) := mkS (D := impl_NodeAudit.d) (k := k) sO [] Tryz.func22 ⟨impl_copyNode.s k, impl_Clean.s k, trivial⟩ trivial (by kernel_rfl) (by kernel_rfl) (fun x => by kernel_rfl)
def laws_hasText.e (k : Nat) : Ent := ⟨2, [(.val false t0), (.val false .s)], [(.one, .b)], fun x => laws_hasText k x.1 x.2⟩
def laws_hasText_l2.p : LF := ⟨⟨[], [(0, t0), (1, .s), (5, (.i .i64))]⟩, [(.ret, ⟨[], [(4, .b)]⟩), ((.exit 0), ⟨[], []⟩)], fun k x => laws_hasText_l2 k x.1 x.2.1 x.2.2⟩
def laws_hasText.d : Fd := { nt := 18, nv := 2, nm := [0, 1, 2, 3, 5], res := [4], ls := [(2, laws_hasText_l2.p)], rf := true }
theorem laws_hasText_l2.s : LK Tryz.prog Tryz.f23 laws_hasText.d 2 laws_hasText_l2.p := mkL sO [] (by kernel_rfl) (fun _ => trivial) trivial (by kernel_rfl) (fun _ => rfl) (fun k x => by kernel_rfl)
theorem laws_hasText.s (k : Nat) : CallOk Tryz.prog 23 (laws_hasText.e k) := mkS (D := laws_hasText.d) (k := k) sO [2] Tryz.func23 trivial ⟨laws_hasText_l2.s, trivial⟩ (by kernel_rfl) (by kernel_rfl) (fun x => by kernel_rfl)
def laws_FnNodesFall.e (k : Nat) : Ent := ⟨1, [(.val false t4)], [(.one, .b)], fun x => laws_FnNodesFall k x⟩
def laws_FnNodesFall.d : Fd := { nt := 119, nv := 1, nm := [0, 1, 3, 4, 5, 6, 7, 8, 9, 10, 11, 12, 13, 14, 15, 16], res := [2], cs := fun k => [(5, laws_big.e k), (9, laws_sameTexts.e k), (10, impl_Held.e k), (11, impl_Look.e k), (13, impl_NodeOk.e k), (15, spec_DrawNodeCrash.e k), (16, impl_NodeCrash.e k), (17, spec_DrawNodeRot.e k), (18, impl_NodeRot.e k), (19, spec_NodeRot.e k), (20, spec_NodeOk.e k), (21, laws_sameRows.e k), (22, impl_NodeAudit.e k), (23, laws_hasText.e k)], sh := true, rf := true }
theorem laws_FnNodesFall.s (k : Nat) : CallOk Tryz.prog 4 (laws_FnNodesFall.e k) := mkS (D := laws_FnNodesFall.d) (k := k) sO [] Tryz.func4 ⟨laws_big.s k, laws_sameTexts.s k, impl_Held.s k, impl_Look.s k, impl_NodeOk.s k, spec_DrawNodeCrash.s k, impl_NodeCrash.s k, spec_DrawNodeRot.s k, impl_NodeRot.s k, spec_NodeRot.s k, spec_NodeOk.s k, laws_sameRows.s k, impl_NodeAudit.s k, laws_hasText.s k, trivial⟩ trivial (by kernel_rfl) (by kernel_rfl) (fun x => by kernel_rfl)
end Go.Proofs.YtgocagaijgcnmaaGreat.Vf
