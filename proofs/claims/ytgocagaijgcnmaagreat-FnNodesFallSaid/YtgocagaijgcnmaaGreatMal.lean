import Derived.Test.YtgocagaijgcnmaaGreatMab
import Derived.Test.YtgocagaijgcnmaaGreatMak
import Derived.Test.YtgocagaijgcnmaaGreatProg
import Derived.KernelRfl
import Derived.IntWalk
section
namespace Go.Proofs.YtgocagaijgcnmaaGreat.Vf
open Go Go.Proofs
set_option linter.unusedVariables false
@[reducible] def t0 : Ty := .sl 9 .s
@[reducible] def t1 : Ty := .sl 4 .b
@[reducible] def t2 : Ty := .ow 4 .b
@[reducible] def t3 : Ty := .ow 9 .s
@[reducible] def t4 : Ty := .sl 5 (.i .u8)
@[reducible] def t5 : Ty := .ow 5 (.i .u8)
@[reducible] def t6 : Ty := .sl 3 (.i .i64)
@[reducible] def t7 : Ty := .pr .s (.i .u64)
@[reducible] def t8 : Ty := .pr (.i .i64) (.i .i64)
@[reducible] def t9 : Ty := .pr .s t4
@[reducible] def t10 : Ty := .pr .s t5
@[reducible] def t11 : Ty := .sl 73 t9
@[reducible] def t12 : Ty := .ow 73 t9
@[reducible] def t13 : Ty := .ow 73 t10
@[reducible] def t14 : Ty := .pr (.i .i64) t8
@[reducible] def t15 : Ty := .pr t4 (.pr (.i .i64) .b)
@[reducible] def t16 : Ty := .pr t4 t8
@[reducible] def t17 : Ty := .pr (.i .i64) (.pr (.i .i64) (.pr .b (.i .u8)))
@[reducible] def t18 : Ty := .pr t14 (.pr .b t4)
@[reducible] def t19 : Ty := .pr t14 (.pr .b t5)
@[reducible] def t20 : Ty := .pr t11 t11
@[reducible] def t21 : Ty := .pr .s (.pr t14 (.pr .b (.i .i64)))
@[reducible] def t22 : Ty := .pr t12 t12
@[reducible] def t23 : Ty := .pr t13 t13
@[reducible] def t24 : Ty := .sl 46 t21
@[reducible] def t25 : Ty := .ow 46 t21
@[reducible] def t26 : Ty := .pr t25 t25
@[reducible] def t27 : Ty := .pr t24 t25
@[reducible] def t28 : Ty := .pr (.i .i64) (.pr t20 (.pr t24 t24))
@[reducible] def t29 : Ty := .pr (.i .i64) (.pr t22 t26)
@[reducible] def t30 : Ty := .pr (.i .i64) (.pr t20 t26)
@[reducible] def t31 : Ty := .pr (.i .i64) (.pr t22 t27)
@[reducible] def t32 : Ty := .pr (.i .i64) (.pr t20 t27)
def tiL : List (Nat × TI) := [(2, ⟨(.i .i64), false, 8, []⟩),
 (3, ⟨(.i .i64), false, 8, []⟩),
 (4, ⟨.b, false, 1, []⟩),
 (5, ⟨(.i .u8), false, 1, []⟩),
 (6, ⟨(.i .u8), false, 1, []⟩),
 (7, ⟨t17, true, 24, [(0, 1, false), (1, 1, false), (2, 1, false), (3, 1, false)]⟩),
 (8, ⟨t17, true, 24, [(0, 1, false), (1, 1, false), (2, 1, false), (3, 1, false)]⟩),
 (9, ⟨.s, false, 16, []⟩),
 (10, ⟨.s, false, 16, []⟩),
 (11, ⟨.s, false, 16, []⟩),
 (12, ⟨(.i .u64), false, 8, []⟩),
 (13, ⟨t7, true, 24, [(0, 1, false), (1, 1, false)]⟩),
 (14, ⟨t7, true, 24, [(0, 1, false), (1, 1, false)]⟩),
 (21, ⟨(.i .i32), false, 4, []⟩),
 (22, ⟨t4, false, 24, []⟩),
 (24, ⟨t11, false, 24, []⟩),
 (25, ⟨t20, true, 48, [(0, 1, false), (1, 1, false)]⟩),
 (26, ⟨t20, true, 48, [(0, 1, false), (1, 1, false)]⟩),
 (27, ⟨t24, false, 24, []⟩),
 (28, ⟨t28, true, 104, [(0, 1, false), (1, 2, true), (3, 1, false), (4, 1, false)]⟩),
 (29, ⟨t28, true, 104, [(0, 1, false), (1, 2, true), (3, 1, false), (4, 1, false)]⟩),
 (30, ⟨t14, true, 24, [(0, 1, false), (1, 1, false), (2, 1, false)]⟩),
 (31, ⟨t14, true, 24, [(0, 1, false), (1, 1, false), (2, 1, false)]⟩),
 (32, ⟨t18, true, 56, [(0, 3, true), (3, 1, false), (4, 1, false)]⟩),
 (33, ⟨t18, true, 56, [(0, 3, true), (3, 1, false), (4, 1, false)]⟩),
 (39, ⟨t0, false, 24, []⟩),
 (45, ⟨t21, true, 56, [(0, 1, false), (1, 3, true), (4, 1, false), (5, 1, false)]⟩),
 (46, ⟨t21, true, 56, [(0, 1, false), (1, 3, true), (4, 1, false), (5, 1, false)]⟩),
 (48, ⟨t1, false, 24, []⟩),
 (72, ⟨t9, true, 40, [(0, 1, false), (1, 1, false)]⟩),
 (73, ⟨t9, true, 40, [(0, 1, false), (1, 1, false)]⟩),
 (88, ⟨t6, false, 24, []⟩),
 (92, ⟨t16, true, 40, [(0, 1, false), (1, 1, false), (2, 1, false)]⟩),
 (93, ⟨t16, true, 40, [(0, 1, false), (1, 1, false), (2, 1, false)]⟩),
 (107, ⟨t15, true, 40, [(0, 1, false), (1, 1, false), (2, 1, false)]⟩),
 (108, ⟨t15, true, 40, [(0, 1, false), (1, 1, false), (2, 1, false)]⟩),
 (115, ⟨(.i .u64), false, 8, []⟩),
 (138, ⟨(.i .u32), false, 4, []⟩),
 (149, ⟨(.i .u8), false, 1, []⟩),
 (150, ⟨(.i .u8), false, 1, []⟩),
 (153, ⟨(.i .i32), false, 4, []⟩),
 (154, ⟨(.i .i32), false, 4, []⟩)]
def ti : TypeId → Option TI := lk tiL
def Pha : List Nat := [30, 31, 45, 46]
def eqs : TypeId → Bool := fun T => Pha.contains T
theorem sK : Rk Tryz.prog ti eqs ∧ ∀ T, Ob Tryz.prog ti T = true := Rra (P := Tryz.prog) (ti := ti) (eqs := eqs) (keys := tiL.map Prod.fst) (Pha := Pha) Msa (by kernel_rfl) (by kernel_rfl) rfl (by kernel_rfl)
theorem sO : Rk Tryz.prog ti eqs := sK.1
theorem Sea : ∀ T t, ti T = some t → TOk Tryz.prog T t := sO.tok
theorem Sfa : ∀ T, Ob Tryz.prog ti T = true := sK.2
def Hr.e (k : Nat) : Ent := ⟨1, [(.val false t4)], [(.one, .b)], fun x => Hr x⟩
def Hr.d : Fd := { nt := 6, nv := 1, nm := [0, 1], res := [2] }
theorem Hr.s (k : Nat) : A5 Tryz.prog 5 (Hr.e k) := mkS (D := Hr.d) (k := k) sO [] Tryz.func5 trivial trivial (by kernel_rfl) (by kernel_rfl) (fun x => by kernel_rfl)
def Dv.e (k : Nat) : Ent := ⟨1, [(.val false t4)], [(.ptr, t16)], fun x => Dv k x⟩
def Et.p : LF := ⟨⟨[], [(0, t4), (3, (.i .i64)), (4, (.i .i64))]⟩, [((.exit 0), ⟨[], [(0, t4), (3, (.i .i64))]⟩)], fun k x => Et k x.1 x.2.1 x.2.2⟩
def Dv.d : Fd := { nt := 32, nv := 1, nm := [0, 1, 3, 4], res := [2], ls := [(3, Et.p)] }
theorem Et.s : LK Tryz.prog Tryz.f24 Dv.d 3 Et.p := mkL sO [] (by kernel_rfl) (fun _ => trivial) trivial (by kernel_rfl) (fun _ => rfl) (fun k x => by kernel_rfl)
theorem Dv.s (k : Nat) : A5 Tryz.prog 24 (Dv.e k) := mkS (D := Dv.d) (k := k) sO [3] Tryz.func24 trivial ⟨Et.s, trivial⟩ (by kernel_rfl) (by kernel_rfl) (fun x => by kernel_rfl)
def Cu.e (k : Nat) : Ent := ⟨1, [(.ptr t16 t16)], [(.one, (.i .i64))], fun x => Cu x⟩
def Cu.d : Fd := { nt := 58, nv := 1, nm := [0, 1, 3], res := [2] }
theorem Cu.s (k : Nat) : A5 Tryz.prog 85 (Cu.e k) := mkS (D := Cu.d) (k := k) sO [] Tryz.func85 trivial trivial (by kernel_rfl) (by kernel_rfl) (fun x => by kernel_rfl)
def A3.e (k : Nat) : Ent := ⟨2, [(.ptr t16 t16), (.val false (.i .i64))], [(.one, (.i .i64))], fun x => A3 x.1 x.2⟩
def A3.d : Fd := { nt := 31, nv := 2, nm := [0, 1, 2, 3, 5, 6, 7], res := [4], cs := fun k => [(85, Cu.e k)] }
theorem A3.s (k : Nat) : A5 Tryz.prog 49 (A3.e k) := mkS (D := A3.d) (k := k) sO [] Tryz.func49 ⟨Cu.s k, trivial⟩ trivial (by kernel_rfl) (by kernel_rfl) (fun x => by kernel_rfl)
def As.e (k : Nat) : Ent := ⟨2, [(.ptr t16 t16), (.val false (.i .i64))], [(.one, .b)], fun x => As x.1 x.2⟩
def As.d : Fd := { nt := 9, nv := 2, nm := [0, 1, 2, 3], res := [4], cs := fun k => [(49, A3.e k)] }
theorem As.s (k : Nat) : A5 Tryz.prog 28 (As.e k) := mkS (D := As.d) (k := k) sO [] Tryz.func28 ⟨A3.s k, trivial⟩ trivial (by kernel_rfl) (by kernel_rfl) (fun x => by kernel_rfl)
def G4.e (k : Nat) : Ent := ⟨2, [(.ptr t16 t16), (.val false t0)], [(.one, .s)], fun x => G4 x.1 x.2⟩
def G4.d : Fd := { nt := 12, nv := 2, nm := [0, 1, 2, 3], res := [4], cs := fun k => [(49, A3.e k)] }
theorem G4.s (k : Nat) : A5 Tryz.prog 62 (G4.e k) := mkS (D := G4.d) (k := k) sO [] Tryz.func62 ⟨A3.s k, trivial⟩ trivial (by kernel_rfl) (by kernel_rfl) (fun x => by kernel_rfl)
def B7.e (k : Nat) : Ent := ⟨1, [(.ptr t16 t16)], [(.one, .s)], fun x => B7 x⟩
def B7.d : Fd := { nt := 6, nv := 1, nm := [0, 1], res := [2], cs := fun k => [(62, G4.e k)] }
theorem B7.s (k : Nat) : A5 Tryz.prog 47 (B7.e k) := mkS (D := B7.d) (k := k) sO [] Tryz.func47 ⟨G4.s k, trivial⟩ trivial (by kernel_rfl) (by kernel_rfl) (fun x => by kernel_rfl)
def Dw.e (k : Nat) : Ent := ⟨1, [(.ptr t16 t16)], [(.one, .s)], fun x => Dw x⟩
def Dw.d : Fd := { nt := 10, nv := 1, nm := [0, 1], res := [2], cs := fun k => [(28, As.e k), (47, B7.e k), (62, G4.e k)] }
theorem Dw.s (k : Nat) : A5 Tryz.prog 26 (Dw.e k) := mkS (D := Dw.d) (k := k) sO [] Tryz.func26 ⟨As.s k, B7.s k, G4.s k, trivial⟩ trivial (by kernel_rfl) (by kernel_rfl) (fun x => by kernel_rfl)
def B3.e (k : Nat) : Ent := ⟨2, [(.ptr t16 t16), (.val false t6)], [(.one, (.i .i64))], fun x => B3 x.1 x.2⟩
def B3.d : Fd := { nt := 12, nv := 2, nm := [0, 1, 2, 3], res := [4], cs := fun k => [(49, A3.e k)] }
theorem B3.s (k : Nat) : A5 Tryz.prog 50 (B3.e k) := mkS (D := B3.d) (k := k) sO [] Tryz.func50 ⟨A3.s k, trivial⟩ trivial (by kernel_rfl) (by kernel_rfl) (fun x => by kernel_rfl)
def Bg.e (k : Nat) : Ent := ⟨3, [(.val false (.i .i64)), (.val false (.i .i64)), (.val false (.i .i64))], [(.one, .b)], fun x => Bg x.1 x.2.1 x.2.2⟩
def Bg.d : Fd := { nt := 15, nv := 3, nm := [0, 1, 2, 3, 4, 5], res := [6] }
theorem Bg.s (k : Nat) : A5 Tryz.prog 55 (Bg.e k) := mkS (D := Bg.d) (k := k) sO [] Tryz.func55 trivial trivial (by kernel_rfl) (by kernel_rfl) (fun x => by kernel_rfl)
def Ay.e (k : Nat) : Ent := ⟨1, [(.val false .s)], [(.one, .b)], fun x => Ay k x⟩
def Bs.p : LF := ⟨⟨[], [(0, .s), (3, (.i .i64))]⟩, [(.ret, ⟨[], [(2, .b)]⟩), ((.exit 0), ⟨[], [(0, .s)]⟩)], fun k x => Bs k x.1 x.2⟩
def Ay.d : Fd := { nt := 38, nv := 1, nm := [0, 1, 3, 4], res := [2], cs := fun k => [(55, Bg.e k)], ls := [(2, Bs.p)] }
theorem Ay.a (k : Nat) : Oq Tryz.prog (Ay.d.cs k) := ⟨Bg.s k, trivial⟩
theorem Bs.s : LK Tryz.prog Tryz.f34 Ay.d 2 Bs.p := mkL sO [] (by kernel_rfl) Ay.a trivial (by kernel_rfl) (fun _ => rfl) (fun k x => by kernel_rfl)
theorem Ay.s (k : Nat) : A5 Tryz.prog 34 (Ay.e k) := mkS (D := Ay.d) (k := k) sO [2] Tryz.func34 (Ay.a k) ⟨Bs.s, trivial⟩ (by kernel_rfl) (by kernel_rfl) (fun x => by kernel_rfl)
def Dp.e (k : Nat) : Ent := ⟨1, [(.val true t14)], [(.one, .b)], fun x => Dp x⟩
def Dp.d : Fd := { nt := 16, nv := 1, nm := [0, 1], res := [2], cs := fun k => [(55, Bg.e k)] }
theorem Dp.s (k : Nat) : A5 Tryz.prog 73 (Dp.e k) := mkS (D := Dp.d) (k := k) sO [] Tryz.func73 ⟨Bg.s k, trivial⟩ trivial (by kernel_rfl) (by kernel_rfl) (fun x => by kernel_rfl)
def Eu.e (k : Nat) : Ent := ⟨1, [(.val true t21)], [(.one, .b)], fun x => Eu k x⟩
def Eu.d : Fd := { nt := 26, nv := 1, nm := [0, 1], res := [2], cs := fun k => [(34, Ay.e k), (55, Bg.e k), (73, Dp.e k)] }
theorem Eu.s (k : Nat) : A5 Tryz.prog 54 (Eu.e k) := mkS (D := Eu.d) (k := k) sO [] Tryz.func54 ⟨Ay.s k, Bg.s k, Dp.s k, trivial⟩ trivial (by kernel_rfl) (by kernel_rfl) (fun x => by kernel_rfl)
def Cv.e (k : Nat) : Ent := ⟨1, [(.val false t11)], [(.one, .b)], fun x => Cv k x⟩
def Dc.p : LF := ⟨⟨[], [(0, t11), (3, (.i .i64))]⟩, [(.ret, ⟨[], [(2, .b)]⟩), ((.exit 0), ⟨[], [(0, t11)]⟩)], fun k x => Dc k x.1 x.2⟩
def Cv.d : Fd := { nt := 47, nv := 1, nm := [0, 1, 3], res := [2], cs := fun k => [(34, Ay.e k)], ls := [(2, Dc.p)] }
theorem Cv.a (k : Nat) : Oq Tryz.prog (Cv.d.cs k) := ⟨Ay.s k, trivial⟩
theorem Dc.s : LK Tryz.prog Tryz.f87 Cv.d 2 Dc.p := mkL sO [] (by kernel_rfl) Cv.a trivial (by kernel_rfl) (fun _ => rfl) (fun k x => by kernel_rfl)
theorem Cv.s (k : Nat) : A5 Tryz.prog 87 (Cv.e k) := mkS (D := Cv.d) (k := k) sO [2] Tryz.func87 (Cv.a k) ⟨Dc.s, trivial⟩ (by kernel_rfl) (by kernel_rfl) (fun x => by kernel_rfl)
def Bt.e (k : Nat) : Ent := ⟨1, [(.val true t20)], [(.one, .b)], fun x => Bt k x⟩
def Bt.d : Fd := { nt := 11, nv := 1, nm := [0, 1], res := [2], cs := fun k => [(87, Cv.e k)] }
theorem Bt.s (k : Nat) : A5 Tryz.prog 56 (Bt.e k) := mkS (D := Bt.d) (k := k) sO [] Tryz.func56 ⟨Cv.s k, trivial⟩ trivial (by kernel_rfl) (by kernel_rfl) (fun x => by kernel_rfl)
def C8.e (k : Nat) : Ent := ⟨1, [(.val false t24)], [(.one, .b)], fun x => C8 k x⟩
def Dd.p : LF := ⟨⟨[], [(0, t24), (3, (.i .i64))]⟩, [(.ret, ⟨[], [(2, .b)]⟩), ((.exit 0), ⟨[], [(0, t24)]⟩)], fun k x => Dd k x.1 x.2⟩
def C8.d : Fd := { nt := 37, nv := 1, nm := [0, 1, 3], res := [2], cs := fun k => [(54, Eu.e k)], ls := [(2, Dd.p)] }
theorem C8.a (k : Nat) : Oq Tryz.prog (C8.d.cs k) := ⟨Eu.s k, trivial⟩
theorem Dd.s : LK Tryz.prog Tryz.f57 C8.d 2 Dd.p := mkL sO [] (by kernel_rfl) C8.a trivial (by kernel_rfl) (fun _ => rfl) (fun k x => by kernel_rfl)
theorem C8.s (k : Nat) : A5 Tryz.prog 57 (C8.e k) := mkS (D := C8.d) (k := k) sO [2] Tryz.func57 (C8.a k) ⟨Dd.s, trivial⟩ (by kernel_rfl) (by kernel_rfl) (fun x => by kernel_rfl)
def B9.e (k : Nat) : Ent := ⟨1, [(.val true t28)], [(.one, .b)], fun x => B9 k x⟩
def Dx.p : LF := ⟨⟨[(1, (.bp 1 0 0)), (2999, (.hd 5))], [(3, (.i .i64)), (2000, (.i .i64)), (2001, t11), (2002, t11), (2003, t24), (2004, t24)]⟩, [(.ret, ⟨[], [(2, .b)]⟩), ((.exit 0), ⟨[(1, (.bp 1 0 0)), (2999, (.hd 5))], [(2000, (.i .i64)), (2001, t11), (2002, t11), (2003, t24), (2004, t24)]⟩)], fun k x => Dx k x.1 x.2.1 x.2.2.1 x.2.2.2.1 x.2.2.2.2.1 x.2.2.2.2.2⟩
def B9.d : Fd := { nt := 37, nv := 1, nm := [0, 1, 3], res := [2], cs := fun k => [(54, Eu.e k), (55, Bg.e k), (56, Bt.e k), (57, C8.e k)], ls := [(2, Dx.p)] }
theorem B9.a (k : Nat) : Oq Tryz.prog (B9.d.cs k) := ⟨Eu.s k, Bg.s k, Bt.s k, C8.s k, trivial⟩
theorem Dx.s : LK Tryz.prog Tryz.f20 B9.d 2 Dx.p := mkL sO [] (by kernel_rfl) B9.a trivial (by kernel_rfl) (fun _ => rfl) (fun k x => by kernel_rfl)
theorem B9.s (k : Nat) : A5 Tryz.prog 20 (B9.e k) := mkS (D := B9.d) (k := k) sO [2] Tryz.func20 (B9.a k) ⟨Dx.s, trivial⟩ (by kernel_rfl) (by kernel_rfl) (fun x => by kernel_rfl)
def Bo.e (k : Nat) : Ent := ⟨1, [(.val false t11)], [(.one, t12)], fun x => Bo k x⟩
def Bb.p : LF := ⟨⟨[], [(0, t11), (3, t12), (4, (.i .i64))]⟩, [((.exit 0), ⟨[], [(3, t12)]⟩)], fun k x => Bb k x.1 x.2.1 x.2.2⟩
def Bo.d : Fd := { nt := 29, nv := 1, nm := [0, 1, 3, 4], res := [2], ls := [(3, Bb.p)] }
theorem Bb.s : LK Tryz.prog Tryz.f101 Bo.d 3 Bb.p := mkL sO [] (by kernel_rfl) (fun _ => trivial) trivial (by kernel_rfl) (fun _ => rfl) (fun k x => by kernel_rfl)
theorem Bo.s (k : Nat) : A5 Tryz.prog 101 (Bo.e k) := mkS (D := Bo.d) (k := k) sO [3] Tryz.func101 trivial ⟨Bb.s, trivial⟩ (by kernel_rfl) (by kernel_rfl) (fun x => by kernel_rfl)
def Dh.e (k : Nat) : Ent := ⟨1, [(.val false t11)], [(.one, t13)], fun x => Dh k x⟩
def F9.p : LF := ⟨⟨[], [(0, t11), (3, t13), (4, (.i .i64))]⟩, [((.exit 0), ⟨[], [(3, t13)]⟩)], fun k x => F9 k x.1 x.2.1 x.2.2⟩
def Dh.d : Fd := { nt := 29, nv := 1, nm := [0, 1, 3, 4], res := [2], ls := [(3, F9.p)], hint := [(5, t10), (26, t10), (27, t10)] }
theorem F9.s : LK Tryz.prog Tryz.f101 Dh.d 3 F9.p := mkL sO [] (by kernel_rfl) (fun _ => trivial) trivial (by kernel_rfl) (fun _ => rfl) (fun k x => by kernel_rfl)
theorem Dh.s (k : Nat) : A5 Tryz.prog 101 (Dh.e k) := mkS (D := Dh.d) (k := k) sO [3] Tryz.func101 trivial ⟨F9.s, trivial⟩ (by kernel_rfl) (by kernel_rfl) (fun x => by kernel_rfl)
def A9.e (k : Nat) : Ent := ⟨1, [(.val true t20)], [(.agg, t22)], fun x => A9 k x⟩
def A9.d : Fd := { nt := 10, nv := 1, nm := [0, 1], res := [], cs := fun k => [(101, Bo.e k)] }
theorem A9.s (k : Nat) : A5 Tryz.prog 72 (A9.e k) := mkS (D := A9.d) (k := k) sO [] Tryz.func72 ⟨Bo.s k, trivial⟩ trivial (by kernel_rfl) (by kernel_rfl) (fun x => by kernel_rfl)
def Ga.e (k : Nat) : Ent := ⟨1, [(.val true t20)], [(.agg, t23)], fun x => Ga k x⟩
def Ga.d : Fd := { nt := 10, nv := 1, nm := [0, 1], res := [], cs := fun k => [(101, Dh.e k)] }
theorem Ga.s (k : Nat) : A5 Tryz.prog 72 (Ga.e k) := mkS (D := Ga.d) (k := k) sO [] Tryz.func72 ⟨Dh.s k, trivial⟩ trivial (by kernel_rfl) (by kernel_rfl) (fun x => by kernel_rfl)
def Ba.e (k : Nat) : Ent := ⟨1, [(.val true t28)], [(.agg, t29)], fun x => Ba k x⟩
def Ba.d : Fd := { nt := 17, nv := 1, nm := [0, 1], res := [], cs := fun k => [(72, A9.e k)] }
theorem Ba.s (k : Nat) : A5 Tryz.prog 33 (Ba.e k) := mkS (D := Ba.d) (k := k) sO [] Tryz.func33 ⟨A9.s k, trivial⟩ trivial (by kernel_rfl) (by kernel_rfl) (fun x => by kernel_rfl)
def Bi.e (k : Nat) : Ent := ⟨1, [(.val true t18)], [(.one, .b)], fun x => Bi x⟩
def Bi.d : Fd := { nt := 23, nv := 1, nm := [0, 1], res := [2], cs := fun k => [(73, Dp.e k)] }
theorem Bi.s (k : Nat) : A5 Tryz.prog 35 (Bi.e k) := mkS (D := Bi.d) (k := k) sO [] Tryz.func35 ⟨Dp.s k, trivial⟩ trivial (by kernel_rfl) (by kernel_rfl) (fun x => by kernel_rfl)
def Bw.e (k : Nat) : Ent := ⟨2, [(.val false t4), (.val false (.i .i64))], [(.one, t5)], fun x => Bw k x.1 x.2⟩
def Bu.p : LF := ⟨⟨[], [(1, (.i .i64)), (5, t5)]⟩, [((.exit 0), ⟨[], [(1, (.i .i64)), (5, t5)]⟩)], fun k x => Bu k x.1 x.2⟩
def Bw.d : Fd := { nt := 29, nv := 2, nm := [0, 1, 2, 3, 5], res := [4], ls := [(6, Bu.p)] }
theorem Bu.s : LK Tryz.prog Tryz.f122 Bw.d 6 Bu.p := mkL sO [] (by kernel_rfl) (fun _ => trivial) trivial (by kernel_rfl) (fun _ => rfl) (fun k x => by kernel_rfl)
theorem Bw.s (k : Nat) : A5 Tryz.prog 122 (Bw.e k) := mkS (D := Bw.d) (k := k) sO [6] Tryz.func122 trivial ⟨Bu.s, trivial⟩ (by kernel_rfl) (by kernel_rfl) (fun x => by kernel_rfl)
def Fs.e (k : Nat) : Ent := ⟨2, [(.val false t4), (.val false .s)], [(.one, t5)], fun x => Fs k x.1 x.2⟩
def Fs.d : Fd := { nt := 11, nv := 2, nm := [0, 1, 2, 3], res := [4], cs := fun k => [(122, Bw.e k)] }
theorem Fs.s (k : Nat) : A5 Tryz.prog 121 (Fs.e k) := mkS (D := Fs.d) (k := k) sO [] Tryz.func121 ⟨Bw.s k, trivial⟩ trivial (by kernel_rfl) (by kernel_rfl) (fun x => by kernel_rfl)
def Ft.e (k : Nat) : Ent := ⟨2, [(.val false t4), (.val true t14)], [(.one, t5)], fun x => Ft k x.1 x.2⟩
def Ft.d : Fd := { nt := 15, nv := 2, nm := [0, 1, 2, 3], res := [4], cs := fun k => [(122, Bw.e k)] }
theorem Ft.s (k : Nat) : A5 Tryz.prog 123 (Ft.e k) := mkS (D := Ft.d) (k := k) sO [] Tryz.func123 ⟨Bw.s k, trivial⟩ trivial (by kernel_rfl) (by kernel_rfl) (fun x => by kernel_rfl)
def Gw.e (k : Nat) : Ent := ⟨1, [(.val false .b)], [(.one, (.i .i64))], fun x => Gw x⟩
def Gw.d : Fd := { nt := 4, nv := 1, nm := [0, 1], res := [2] }
theorem Gw.s (k : Nat) : A5 Tryz.prog 124 (Gw.e k) := mkS (D := Gw.d) (k := k) sO [] Tryz.func124 trivial trivial (by kernel_rfl) (by kernel_rfl) (fun x => by kernel_rfl)
def H8.e (k : Nat) : Ent := ⟨1, [(.val false t4)], [(.one, (.i .i64))], fun x => H8 k x⟩
def Ei.p : LF := ⟨⟨[], [(0, t4), (3, (.i .i64)), (4, (.i .i64)), (5, (.i .i64))]⟩, [((.exit 2), ⟨[], [(0, t4), (3, (.i .i64)), (4, (.i .i64))]⟩)], fun k x => Ei k x.1 x.2.1 x.2.2.1 x.2.2.2⟩
def Ev.p : LF := ⟨⟨[], [(0, t4), (3, (.i .i64)), (4, (.i .i64))]⟩, [((.exit 0), ⟨[], [(3, (.i .i64))]⟩)], fun k x => Ev k x.1 x.2.1 x.2.2⟩
def H8.d : Fd := { nt := 34, nv := 1, nm := [0, 1, 3, 4, 5, 6], res := [2], ls := [(7, Ei.p), (3, Ev.p)] }
theorem Ei.s : LK Tryz.prog Tryz.f125 H8.d 7 Ei.p := mkL sO [] (by kernel_rfl) (fun _ => trivial) trivial (by kernel_rfl) (fun _ => rfl) (fun k x => by kernel_rfl)
theorem Ev.s : LK Tryz.prog Tryz.f125 H8.d 3 Ev.p := mkL sO [7] (by kernel_rfl) (fun _ => trivial) ⟨Ei.s, trivial⟩ (by kernel_rfl) (fun _ => rfl) (fun k x => by kernel_rfl)
theorem H8.s (k : Nat) : A5 Tryz.prog 125 (H8.e k) := mkS (D := H8.d) (k := k) sO [3] Tryz.func125 trivial ⟨Ev.s, trivial⟩ (by kernel_rfl) (by kernel_rfl) (fun x => by kernel_rfl)
def B2.e (k : Nat) : Ent := ⟨1, [(.val true t18)], [(.one, t5)], fun x => B2 k x⟩
def B2.d : Fd := { nt := 37, nv := 1, nm := [0, 1, 3, 4], res := [2], cs := fun k => [(35, Bi.e k), (121, Fs.e k), (122, Bw.e k), (123, Ft.e k), (124, Gw.e k), (125, H8.e k)] }
theorem B2.s (k : Nat) : A5 Tryz.prog 105 (B2.e k) := mkS (D := B2.d) (k := k) sO [] Tryz.func105 ⟨Bi.s k, Fs.s k, Bw.s k, Ft.s k, Gw.s k, H8.s k, trivial⟩ trivial (by kernel_rfl) (by kernel_rfl) (fun x => by kernel_rfl)
def Bx.e (k : Nat) : Ent := ⟨2, [(.val false t4), (.val false (.i .i64))], [(.one, (.i .i64)), (.one, (.i .i64)), (.one, .b)], fun x => Bx k x.1 x.2⟩
def Cj.p : LF := ⟨⟨[], [(0, t4), (1, (.i .i64)), (7, (.i .i64)), (8, (.i .i64))]⟩, [(.ret, ⟨[], [(4, (.i .i64)), (5, (.i .i64)), (6, .b)]⟩), ((.exit 0), ⟨[], []⟩)], fun k x => Cj k x.1 x.2.1 x.2.2.1 x.2.2.2⟩
def Bx.d : Fd := { nt := 64, nv := 2, nm := [0, 1, 2, 3, 7, 8, 9], res := [4, 5, 6], ls := [(3, Cj.p)] }
theorem Cj.s : LK Tryz.prog Tryz.f109 Bx.d 3 Cj.p := mkL sO [] (by kernel_rfl) (fun _ => trivial) trivial (by kernel_rfl) (fun _ => rfl) (fun k x => by kernel_rfl)
theorem Bx.s (k : Nat) : A5 Tryz.prog 109 (Bx.e k) := mkS (D := Bx.d) (k := k) sO [3] Tryz.func109 trivial ⟨Cj.s, trivial⟩ (by kernel_rfl) (by kernel_rfl) (fun x => by kernel_rfl)
def Cw.e (k : Nat) : Ent := ⟨2, [(.val false t4), (.val false (.i .i64))], [(.agg, t14), (.one, (.i .i64)), (.one, .b)], fun x => Cw k x.1 x.2⟩
def Cw.d : Fd := { nt := 49, nv := 2, nm := [0, 1, 2, 3, 7, 8, 9, 10, 11, 12, 13, 14, 15], res := [5, 6], cs := fun k => [(109, Bx.e k)] }
theorem Cw.s (k : Nat) : A5 Tryz.prog 108 (Cw.e k) := mkS (D := Cw.d) (k := k) sO [] Tryz.func108 ⟨Bx.s k, trivial⟩ trivial (by kernel_rfl) (by kernel_rfl) (fun x => by kernel_rfl)
def Fu.e (k : Nat) : Ent := ⟨2, [(.val false t4), (.val false (.i .i64))], [(.one, .s), (.one, (.i .i64)), (.one, .b)], fun x => Fu k x.1 x.2⟩
def Fu.d : Fd := { nt := 37, nv := 2, nm := [0, 1, 2, 3, 7, 8, 9], res := [4, 5, 6], cs := fun k => [(109, Bx.e k)] }
theorem Fu.s (k : Nat) : A5 Tryz.prog 110 (Fu.e k) := mkS (D := Fu.d) (k := k) sO [] Tryz.func110 ⟨Bx.s k, trivial⟩ trivial (by kernel_rfl) (by kernel_rfl) (fun x => by kernel_rfl)
def Dq.e (k : Nat) : Ent := ⟨1, [(.val false t4)], [(.agg, t19), (.one, .b)], fun x => Dq k x⟩
def Dq.d : Fd := { nt := 76, nv := 1, nm := [0, 1, 4, 5, 6, 7, 8, 9, 10, 11, 12, 13], res := [3], cs := fun k => [(35, Bi.e k), (105, B2.e k), (108, Cw.e k), (109, Bx.e k), (110, Fu.e k)], mv := [75] }
theorem Dq.s (k : Nat) : A5 Tryz.prog 82 (Dq.e k) := mkS (D := Dq.d) (k := k) sO [] Tryz.func82 ⟨Bi.s k, B2.s k, Cw.s k, Bx.s k, Fu.s k, trivial⟩ trivial (by kernel_rfl) (by kernel_rfl) (fun x => by kernel_rfl)
def Dj.e (k : Nat) : Ent := ⟨2, [(.val false t11), (.val false .s)], [(.one, (.i .i64))], fun x => Dj k x.1 x.2⟩
def Fv.p : LF := ⟨⟨[], [(0, t11), (1, .s), (5, (.i .i64))]⟩, [(.ret, ⟨[], [(4, (.i .i64))]⟩), ((.exit 0), ⟨[], []⟩)], fun k x => Fv k x.1 x.2.1 x.2.2⟩
def Dj.d : Fd := { nt := 20, nv := 2, nm := [0, 1, 2, 3, 5], res := [4], ls := [(2, Fv.p)] }
theorem Fv.s : LK Tryz.prog Tryz.f84 Dj.d 2 Fv.p := mkL sO [] (by kernel_rfl) (fun _ => trivial) trivial (by kernel_rfl) (fun _ => rfl) (fun k x => by kernel_rfl)
theorem Dj.s (k : Nat) : A5 Tryz.prog 84 (Dj.e k) := mkS (D := Dj.d) (k := k) sO [2] Tryz.func84 trivial ⟨Fv.s, trivial⟩ (by kernel_rfl) (by kernel_rfl) (fun x => by kernel_rfl)
def Co.e (k : Nat) : Ent := ⟨2, [(.val true t20), (.val false .s)], [(.one, t5), (.one, .b)], fun x => Co k x.1 x.2⟩
def Co.d : Fd := { nt := 22, nv := 2, nm := [0, 1, 2, 3, 6], res := [4, 5], cs := fun k => [(84, Dj.e k)] }
theorem Co.s (k : Nat) : A5 Tryz.prog 86 (Co.e k) := mkS (D := Co.d) (k := k) sO [] Tryz.func86 ⟨Dj.s k, trivial⟩ trivial (by kernel_rfl) (by kernel_rfl) (fun x => by kernel_rfl)
def Gt.e (k : Nat) : Ent := ⟨2, [(.val true t20), (.val false .s)], [(.agg, t19), (.one, (.i .i64))], fun x => Gt k x.1 x.2⟩
def Gt.d : Fd := { nt := 28, nv := 2, nm := [0, 1, 2, 3, 6, 7, 8, 9], res := [5], cs := fun k => [(82, Dq.e k), (86, Co.e k)], mv := [27] }
theorem Gt.s (k : Nat) : A5 Tryz.prog 52 (Gt.e k) := mkS (D := Gt.d) (k := k) sO [] Tryz.func52 ⟨Dq.s k, Co.s k, trivial⟩ trivial (by kernel_rfl) (by kernel_rfl) (fun x => by kernel_rfl)
def C5.e (k : Nat) : Ent := ⟨2, [(.val true t14), (.val true t14)], [(.one, .b)], fun x => C5 x.1 x.2⟩
def C5.d : Fd := { nt := 32, nv := 2, nm := [0, 1, 2, 3], res := [4] }
theorem C5.s (k : Nat) : A5 Tryz.prog 117 (C5.e k) := mkS (D := C5.d) (k := k) sO [] Tryz.func117 trivial trivial (by kernel_rfl) (by kernel_rfl) (fun x => by kernel_rfl)
def H0.e (k : Nat) : Ent := ⟨2, [(.val true t18), (.val true t18)], [(.one, .b)], fun x => H0 x.1 x.2⟩
def H0.d : Fd := { nt := 10, nv := 2, nm := [0, 1, 2, 3], res := [4], cs := fun k => [(117, C5.e k)] }
theorem H0.s (k : Nat) : A5 Tryz.prog 102 (H0.e k) := mkS (D := H0.d) (k := k) sO [] Tryz.func102 ⟨C5.s k, trivial⟩ trivial (by kernel_rfl) (by kernel_rfl) (fun x => by kernel_rfl)
def Fj.e (k : Nat) : Ent := ⟨2, [(.val false t11), (.val false .s)], [(.one, t12)], fun x => Fj k x.1 x.2⟩
def Eb.p : LF := ⟨⟨[], [(0, t11), (1, .s), (5, t12), (6, (.i .i64))]⟩, [((.exit 0), ⟨[], [(5, t12)]⟩)], fun k x => Eb k x.1 x.2.1 x.2.2.1 x.2.2.2⟩
def Fj.d : Fd := { nt := 29, nv := 2, nm := [0, 1, 2, 3, 5, 6], res := [4], ls := [(3, Eb.p)] }
theorem Eb.s : LK Tryz.prog Tryz.f118 Fj.d 3 Eb.p := mkL sO [] (by kernel_rfl) (fun _ => trivial) trivial (by kernel_rfl) (fun _ => rfl) (fun k x => by kernel_rfl)
theorem Fj.s (k : Nat) : A5 Tryz.prog 118 (Fj.e k) := mkS (D := Fj.d) (k := k) sO [3] Tryz.func118 trivial ⟨Eb.s, trivial⟩ (by kernel_rfl) (by kernel_rfl) (fun x => by kernel_rfl)
def Fk.e (k : Nat) : Ent := ⟨3, [(.val false t11), (.val false .s), (.val false t4)], [(.one, t12)], fun x => Fk k x.1 x.2.1 x.2.2⟩
def Bd.p : LF := ⟨⟨[(9, (.bp 9 0 0)), (10999, (.hd 2))], [(0, t11), (1, .s), (7, t12), (8, .b), (10, (.i .i64)), (10000, .s), (10001, t4)]⟩, [((.exit 0), ⟨[(9, (.bp 9 0 0)), (10999, (.hd 2))], [(7, t12), (8, .b), (10000, .s), (10001, t4)]⟩)], fun k x => Bd k x.1 x.2.1 x.2.2.1 x.2.2.2.1 x.2.2.2.2.1 x.2.2.2.2.2.1 x.2.2.2.2.2.2⟩
def Fk.d : Fd := { nt := 59, nv := 3, nm := [0, 1, 2, 3, 4, 5, 7, 8, 9, 10], res := [6], ls := [(5, Bd.p)] }
theorem Bd.s : LK Tryz.prog Tryz.f119 Fk.d 5 Bd.p := mkL sO [] (by kernel_rfl) (fun _ => trivial) trivial (by kernel_rfl) (fun _ => rfl) (fun k x => by kernel_rfl)
theorem Fk.s (k : Nat) : A5 Tryz.prog 119 (Fk.e k) := mkS (D := Fk.d) (k := k) sO [5] Tryz.func119 trivial ⟨Bd.s, trivial⟩ (by kernel_rfl) (by kernel_rfl) (fun x => by kernel_rfl)
def C9.e (k : Nat) : Ent := ⟨3, [(.val true t20), (.val true t22), (.val false .s)], [(.agg, t22), (.one, .b)], fun x => C9 k x.1 x.2.1 x.2.2⟩
def C9.d : Fd := { nt := 24, nv := 3, nm := [0, 1, 2, 3, 4, 5], res := [7], cs := fun k => [(34, Ay.e k), (56, Bt.e k), (72, A9.e k)], mv := [23] }
theorem C9.s (k : Nat) : A5 Tryz.prog 120 (C9.e k) := mkS (D := C9.d) (k := k) sO [] Tryz.func120 ⟨Ay.s k, Bt.s k, A9.s k, trivial⟩ trivial (by kernel_rfl) (by kernel_rfl) (fun x => by kernel_rfl)
def B0.e (k : Nat) : Ent := ⟨2, [(.val true t20), (.val false .s)], [(.agg, t22), (.one, .b)], fun x => B0 k x.1 x.2⟩
def B0.d : Fd := { nt := 35, nv := 2, nm := [0, 1, 2, 3, 6, 7, 8], res := [5], cs := fun k => [(72, A9.e k), (86, Co.e k), (118, Fj.e k), (119, Fk.e k), (120, C9.e k)] }
theorem B0.s (k : Nat) : A5 Tryz.prog 103 (B0.e k) := mkS (D := B0.d) (k := k) sO [] Tryz.func103 ⟨A9.s k, Co.s k, Fj.s k, Fk.s k, C9.s k, trivial⟩ trivial (by kernel_rfl) (by kernel_rfl) (fun x => by kernel_rfl)
def Az.e (k : Nat) : Ent := ⟨3, [(.val true t20), (.val false .s), (.val false t4)], [(.agg, t22), (.one, .b)], fun x => Az k x.1 x.2.1 x.2.2⟩
def Az.d : Fd := { nt := 23, nv := 3, nm := [0, 1, 2, 3, 4, 5, 8], res := [7], cs := fun k => [(72, A9.e k), (119, Fk.e k), (120, C9.e k)] }
theorem Az.s (k : Nat) : A5 Tryz.prog 104 (Az.e k) := mkS (D := Az.d) (k := k) sO [] Tryz.func104 ⟨A9.s k, Fk.s k, C9.s k, trivial⟩ trivial (by kernel_rfl) (by kernel_rfl) (fun x => by kernel_rfl)
def Hk.e (k : Nat) : Ent := ⟨4, [(.val true t20), (.val false .s), (.val true t18), (.val false .b)], [(.agg, t22), (.one, (.i .i64))], fun x => Hk k x.1 x.2.1 x.2.2.1 x.2.2.2⟩
def Hk.d : Fd := { nt := 82, nv := 4, nm := [0, 1, 2, 3, 4, 5, 6, 7, 10, 11, 12, 13, 14, 15], res := [9], cs := fun k => [(34, Ay.e k), (35, Bi.e k), (52, Gt.e k), (56, Bt.e k), (72, A9.e k), (102, H0.e k), (103, B0.e k), (104, Az.e k), (105, B2.e k)], mv := [58, 81] }
theorem Hk.s (k : Nat) : A5 Tryz.prog 74 (Hk.e k) := mkS (D := Hk.d) (k := k) sO [] Tryz.func74 ⟨Ay.s k, Bi.s k, Gt.s k, Bt.s k, A9.s k, H0.s k, B0.s k, Az.s k, B2.s k, trivial⟩ trivial (by kernel_rfl) (by kernel_rfl) (fun x => by kernel_rfl)
def G5.e (k : Nat) : Ent := ⟨2, [(.val false .s), (.val true t18)], [(.agg, t21)], fun x => G5 x.1 x.2⟩
def G5.d : Fd := { nt := 14, nv := 2, nm := [0, 1, 2, 3], res := [] }
theorem G5.s (k : Nat) : A5 Tryz.prog 75 (G5.e k) := mkS (D := G5.d) (k := k) sO [] Tryz.func75 trivial trivial (by kernel_rfl) (by kernel_rfl) (fun x => by kernel_rfl)
def Ew.e (k : Nat) : Ent := ⟨4, [(.ptr t29 t30), (.val false .s), (.val true t18), (.val false .b)], [(.one, (.i .i64))], fun x => Ew k x.1 x.2.1 x.2.2.1 x.2.2.2⟩
def Ew.d : Fd := { nt := 52, nv := 4, nm := [0, 1, 2, 3, 4, 5, 6, 7, 9, 10], res := [8], cs := fun k => [(74, Hk.e k), (75, G5.e k)] }
theorem Ew.s (k : Nat) : A5 Tryz.prog 36 (Ew.e k) := mkS (D := Ew.d) (k := k) sO [] Tryz.func36 ⟨Hk.s k, G5.s k, trivial⟩ trivial (by kernel_rfl) (by kernel_rfl) (fun x => by kernel_rfl)
def Dr.e (k : Nat) : Ent := ⟨4, [(.val true t28), (.val false .s), (.val true t18), (.val false .b)], [(.agg, t30), (.one, (.i .i64))], fun x => Dr k x.1 x.2.1 x.2.2.1 x.2.2.2⟩
def Dr.d : Fd := { nt := 34, nv := 4, nm := [0, 1, 2, 3, 4, 5, 6, 7, 10, 11], res := [9], cs := fun k => [(20, B9.e k), (33, Ba.e k), (34, Ay.e k), (35, Bi.e k), (36, Ew.e k)], mv := [27, 32] }
theorem Dr.s (k : Nat) : A5 Tryz.prog 8 (Dr.e k) := mkS (D := Dr.d) (k := k) sO [] Tryz.func8 ⟨B9.s k, Ba.s k, Ay.s k, Bi.s k, Ew.s k, trivial⟩ trivial (by kernel_rfl) (by kernel_rfl) (fun x => by kernel_rfl)
def Ge.e (k : Nat) : Ent := ⟨3, [(.val true t20), (.val false .s), (.val false (.i .i64))], [(.agg, t23), (.one, .b)], fun x => Ge k x.1 x.2.1 x.2.2⟩
def Ge.d : Fd := { nt := 97, nv := 3, nm := [0, 1, 2, 3, 4, 5, 8, 9, 10, 11], res := [7], cs := fun k => [(55, Bg.e k), (56, Bt.e k), (72, Ga.e k), (84, Dj.e k)], mv := [39, 96] }
theorem Ge.s (k : Nat) : A5 Tryz.prog 53 (Ge.e k) := mkS (D := Ge.d) (k := k) sO [] Tryz.func53 ⟨Bg.s k, Bt.s k, Ga.s k, Dj.s k, trivial⟩ trivial (by kernel_rfl) (by kernel_rfl) (fun x => by kernel_rfl)
def Ck.e (k : Nat) : Ent := ⟨3, [(.val true t28), (.val false .s), (.val false (.i .i64))], [(.agg, t30), (.one, .b)], fun x => Ck k x.1 x.2.1 x.2.2⟩
def Ck.d : Fd := { nt := 44, nv := 3, nm := [0, 1, 2, 3, 4, 5, 8, 9, 10, 11, 12], res := [7], cs := fun k => [(20, B9.e k), (33, Ba.e k), (52, Gt.e k), (53, Ge.e k)], mv := [29, 40, 43] }
theorem Ck.s (k : Nat) : A5 Tryz.prog 19 (Ck.e k) := mkS (D := Ck.d) (k := k) sO [] Tryz.func19 ⟨B9.s k, Ba.s k, Gt.s k, Ge.s k, trivial⟩ trivial (by kernel_rfl) (by kernel_rfl) (fun x => by kernel_rfl)
def Ey.e (k : Nat) : Ent := ⟨1, [(.ptr t16 t16)], [(.agg, t14)], fun x => Ey x⟩
def Ey.d : Fd := { nt := 11, nv := 1, nm := [0, 1], res := [], cs := fun k => [(49, A3.e k), (50, B3.e k)] }
theorem Ey.s (k : Nat) : A5 Tryz.prog 94 (Ey.e k) := mkS (D := Ey.d) (k := k) sO [] Tryz.func94 ⟨A3.s k, B3.s k, trivial⟩ trivial (by kernel_rfl) (by kernel_rfl) (fun x => by kernel_rfl)
def Cz.e (k : Nat) : Ent := ⟨2, [(.ptr t16 t16), (.val false (.i .i64))], [(.one, t5)], fun x => Cz k x.1 x.2⟩
def Cy.p : LF := ⟨⟨[(0, (.bp 0 0 0)), (1999, (.hd 3))], [(1, (.i .i64)), (5, t5), (6, (.i .i64)), (1000, t4), (1001, (.i .i64)), (1002, (.i .i64))]⟩, [((.exit 0), ⟨[(1999, (.hd 3))], [(5, t5), (1000, t4), (1001, (.i .i64)), (1002, (.i .i64))]⟩)], fun k x => Cy k x.1 x.2.1 x.2.2.1 x.2.2.2.1 x.2.2.2.2.1 x.2.2.2.2.2⟩
def Cz.d : Fd := { nt := 20, nv := 2, nm := [0, 1, 2, 3, 5, 6], res := [4], cs := fun k => [(85, Cu.e k)], ls := [(3, Cy.p)] }
theorem Cz.a (k : Nat) : Oq Tryz.prog (Cz.d.cs k) := ⟨Cu.s k, trivial⟩
theorem Cy.s : LK Tryz.prog Tryz.f114 Cz.d 3 Cy.p := mkL sO [] (by kernel_rfl) Cz.a trivial (by kernel_rfl) (fun _ => rfl) (fun k x => by kernel_rfl)
theorem Cz.s (k : Nat) : A5 Tryz.prog 114 (Cz.e k) := mkS (D := Cz.d) (k := k) sO [3] Tryz.func114 (Cz.a k) ⟨Cy.s, trivial⟩ (by kernel_rfl) (by kernel_rfl) (fun x => by kernel_rfl)
def Gf.e (k : Nat) : Ent := ⟨1, [(.ptr t16 t16)], [(.one, t5)], fun x => Gf k x⟩
def Gf.d : Fd := { nt := 8, nv := 1, nm := [0, 1], res := [2], cs := fun k => [(50, B3.e k), (114, Cz.e k)] }
theorem Gf.s (k : Nat) : A5 Tryz.prog 95 (Gf.e k) := mkS (D := Gf.d) (k := k) sO [] Tryz.func95 ⟨B3.s k, Cz.s k, trivial⟩ trivial (by kernel_rfl) (by kernel_rfl) (fun x => by kernel_rfl)
def Bc.e (k : Nat) : Ent := ⟨1, [(.ptr t16 t16)], [(.agg, t19)], fun x => Bc k x⟩
def Bc.d : Fd := { nt := 16, nv := 1, nm := [0, 1, 3], res := [], cs := fun k => [(28, As.e k), (94, Ey.e k), (95, Gf.e k)], mv := [15] }
theorem Bc.s (k : Nat) : A5 Tryz.prog 63 (Bc.e k) := mkS (D := Bc.d) (k := k) sO [] Tryz.func63 ⟨As.s k, Ey.s k, Gf.s k, trivial⟩ trivial (by kernel_rfl) (by kernel_rfl) (fun x => by kernel_rfl)
def Fw.e (k : Nat) : Ent := ⟨1, [(.val false (.i .i64))], [(.agg, t29)], fun x => Fw x⟩
def Fw.d : Fd := { nt := 9, nv := 1, nm := [0, 1], res := [], cs := fun k => [(55, Bg.e k)] }
theorem Fw.s (k : Nat) : A5 Tryz.prog 89 (Fw.e k) := mkS (D := Fw.d) (k := k) sO [] Tryz.func89 ⟨Bg.s k, trivial⟩ trivial (by kernel_rfl) (by kernel_rfl) (fun x => by kernel_rfl)
def Fx.e (k : Nat) : Ent := ⟨2, [(.val true t21), (.val true t21)], [(.one, .b)], fun x => Fx x.1 x.2⟩
def Fx.d : Fd := { nt := 29, nv := 2, nm := [0, 1, 2, 3], res := [4], cs := fun k => [(117, C5.e k)] }
theorem Fx.s (k : Nat) : A5 Tryz.prog 128 (Fx.e k) := mkS (D := Fx.d) (k := k) sO [] Tryz.func128 ⟨C5.s k, trivial⟩ trivial (by kernel_rfl) (by kernel_rfl) (fun x => by kernel_rfl)
def B5.e (k : Nat) : Ent := ⟨2, [(.val false t24), (.val true t21)], [(.one, t25)], fun x => B5 k x.1 x.2⟩
def Bz.p : LF := ⟨⟨[(3, (.bp 3 0 0)), (4999, (.hd 6))], [(5, t25), (7, (.i .i64)), (4000, .s), (4001, (.i .i64)), (4002, (.i .i64)), (4003, (.i .i64)), (4004, .b), (4005, (.i .i64))]⟩, [((.exit 2), ⟨[(3, (.bp 3 0 0)), (4999, (.hd 6))], [(5, t25), (7, (.i .i64)), (4000, .s), (4001, (.i .i64)), (4002, (.i .i64)), (4003, (.i .i64)), (4004, .b), (4005, (.i .i64))]⟩)], fun k x => Bz k x.1 x.2.1 x.2.2.1 x.2.2.2.1 x.2.2.2.2.1 x.2.2.2.2.2.1 x.2.2.2.2.2.2.1 x.2.2.2.2.2.2.2⟩
def Cc.p : LF := ⟨⟨[(3, (.bp 3 0 0)), (4999, (.hd 6))], [(5, t25), (6, (.i .i64)), (4000, .s), (4001, (.i .i64)), (4002, (.i .i64)), (4003, (.i .i64)), (4004, .b), (4005, (.i .i64))]⟩, [(.ret, ⟨[], [(4, t25)]⟩), ((.exit 0), ⟨[(3, (.bp 3 0 0)), (4999, (.hd 6))], [(5, t25), (4000, .s), (4001, (.i .i64)), (4002, (.i .i64)), (4003, (.i .i64)), (4004, .b), (4005, (.i .i64))]⟩)], fun k x => Cc k x.1 x.2.1 x.2.2.1 x.2.2.2.1 x.2.2.2.2.1 x.2.2.2.2.2.1 x.2.2.2.2.2.2.1 x.2.2.2.2.2.2.2⟩
def B5.d : Fd := { nt := 70, nv := 2, nm := [0, 1, 2, 3, 5, 6, 7], res := [4], cs := fun k => [(128, Fx.e k)], ls := [(11, Bz.p), (3, Cc.p)] }
theorem B5.a (k : Nat) : Oq Tryz.prog (B5.d.cs k) := ⟨Fx.s k, trivial⟩
theorem Bz.s : LK Tryz.prog Tryz.f112 B5.d 11 Bz.p := mkL sO [] (by kernel_rfl) B5.a trivial (by kernel_rfl) (fun _ => rfl) (fun k x => by kernel_rfl)
theorem Cc.s : LK Tryz.prog Tryz.f112 B5.d 3 Cc.p := mkL sO [] (by kernel_rfl) B5.a trivial (by kernel_rfl) (fun _ => rfl) (fun k x => by kernel_rfl)
theorem B5.s (k : Nat) : A5 Tryz.prog 112 (B5.e k) := mkS (D := B5.d) (k := k) sO [3, 11] Tryz.func112 (B5.a k) ⟨Cc.s, Bz.s, trivial⟩ (by kernel_rfl) (by kernel_rfl) (fun x => by kernel_rfl)
def Bf.e (k : Nat) : Ent := ⟨2, [(.val false t24), (.val false t24)], [(.one, t25)], fun x => Bf k x.1 x.2⟩
def C0.p : LF := ⟨⟨[], [(1, t24), (5, t25), (6, (.i .i64))]⟩, [((.exit 0), ⟨[], [(5, t25)]⟩)], fun k x => C0 k x.1 x.2.1 x.2.2⟩
def Bf.d : Fd := { nt := 23, nv := 2, nm := [0, 1, 2, 3, 5, 6], res := [4], cs := fun k => [(112, B5.e k)], ls := [(3, C0.p)] }
theorem Bf.a (k : Nat) : Oq Tryz.prog (Bf.d.cs k) := ⟨B5.s k, trivial⟩
theorem C0.s : LK Tryz.prog Tryz.f127 Bf.d 3 C0.p := mkL sO [] (by kernel_rfl) Bf.a trivial (by kernel_rfl) (fun _ => rfl) (fun k x => by kernel_rfl)
theorem Bf.s (k : Nat) : A5 Tryz.prog 127 (Bf.e k) := mkS (D := Bf.d) (k := k) sO [3] Tryz.func127 (Bf.a k) ⟨C0.s, trivial⟩ (by kernel_rfl) (by kernel_rfl) (fun x => by kernel_rfl)
def Dy.e (k : Nat) : Ent := ⟨2, [(.ptr t29 t31), (.val false t24)], [(.one, .b)], fun x => Dy k x.1 x.2⟩
def Dy.d : Fd := { nt := 19, nv := 2, nm := [0, 1, 2, 3, 5], res := [4], cs := fun k => [(127, Bf.e k)] }
theorem Dy.s (k : Nat) : A5 Tryz.prog 111 (Dy.e k) := mkS (D := Dy.d) (k := k) sO [] Tryz.func111 ⟨Bf.s k, trivial⟩ trivial (by kernel_rfl) (by kernel_rfl) (fun x => by kernel_rfl)
def Ez.e (k : Nat) : Ent := ⟨2, [(.val true t28), (.val false t24)], [(.agg, t31), (.one, .b)], fun x => Ez k x.1 x.2⟩
def Ez.d : Fd := { nt := 25, nv := 2, nm := [0, 1, 2, 3, 6], res := [5], cs := fun k => [(20, B9.e k), (33, Ba.e k), (57, C8.e k), (111, Dy.e k)], mv := [24] }
theorem Ez.s (k : Nat) : A5 Tryz.prog 90 (Ez.e k) := mkS (D := Ez.d) (k := k) sO [] Tryz.func90 ⟨B9.s k, Ba.s k, C8.s k, Dy.s k, trivial⟩ trivial (by kernel_rfl) (by kernel_rfl) (fun x => by kernel_rfl)
def F3.e (k : Nat) : Ent := ⟨1, [(.ptr t16 t16)], [(.agg, t21)], fun x => F3 k x⟩
def F3.d : Fd := { nt := 8, nv := 1, nm := [0, 1], res := [], cs := fun k => [(47, B7.e k), (63, Bc.e k), (75, G5.e k)] }
theorem F3.s (k : Nat) : A5 Tryz.prog 93 (F3.e k) := mkS (D := F3.d) (k := k) sO [] Tryz.func93 ⟨B7.s k, Bc.s k, G5.s k, trivial⟩ trivial (by kernel_rfl) (by kernel_rfl) (fun x => by kernel_rfl)
def Bp.e (k : Nat) : Ent := ⟨1, [(.ptr t16 t16)], [(.one, t25)], fun x => Bp k x⟩
def D0.p : LF := ⟨⟨[(0, (.bp 0 0 0)), (1999, (.hd 3))], [(3, t25), (4, (.i .i64)), (1000, t4), (1001, (.i .i64)), (1002, (.i .i64))]⟩, [((.exit 0), ⟨[(1999, (.hd 3))], [(3, t25), (1000, t4), (1001, (.i .i64)), (1002, (.i .i64))]⟩)], fun k x => D0 k x.1 x.2.1 x.2.2.1 x.2.2.2.1 x.2.2.2.2⟩
def Bp.d : Fd := { nt := 17, nv := 1, nm := [0, 1, 3, 4], res := [2], cs := fun k => [(49, A3.e k), (93, F3.e k), (112, B5.e k)], ls := [(3, D0.p)] }
theorem Bp.a (k : Nat) : Oq Tryz.prog (Bp.d.cs k) := ⟨A3.s k, F3.s k, B5.s k, trivial⟩
theorem D0.s : LK Tryz.prog Tryz.f91 Bp.d 3 D0.p := mkL sO [] (by kernel_rfl) Bp.a trivial (by kernel_rfl) (fun _ => rfl) (fun k x => by kernel_rfl)
theorem Bp.s (k : Nat) : A5 Tryz.prog 91 (Bp.e k) := mkS (D := Bp.d) (k := k) sO [3] Tryz.func91 (Bp.a k) ⟨D0.s, trivial⟩ (by kernel_rfl) (by kernel_rfl) (fun x => by kernel_rfl)
def Cl.e (k : Nat) : Ent := ⟨1, [(.ptr t16 t16)], [(.agg, t32)], fun x => Cl k x⟩
def D5.p : LF := ⟨⟨[(0, (.bp 0 0 0)), (2, (.bp 2 0 0)), (3, (.bp 3 0 0)), (1999, (.hd 3)), (3999, (.hd 5)), (4999, (.hd 5))], [(4, (.i .i64)), (1000, t4), (1001, (.i .i64)), (1002, (.i .i64)), (3000, (.i .i64)), (3001, t12), (3002, t12), (3003, t25), (3004, t25), (4000, (.i .i64)), (4001, t11), (4002, t11), (4003, t25), (4004, t25)]⟩, [((.exit 0), ⟨[(0, (.bp 0 0 0)), (2, (.bp 2 0 0)), (3, (.bp 3 0 0)), (1999, (.hd 3)), (3999, (.hd 5)), (4999, (.hd 5))], [(1000, t4), (1001, (.i .i64)), (1002, (.i .i64)), (3000, (.i .i64)), (3001, t12), (3002, t12), (3003, t25), (3004, t25), (4000, (.i .i64)), (4001, t11), (4002, t11), (4003, t25), (4004, t25)]⟩)], fun k x => D5 k x.1 x.2.1 x.2.2.1 x.2.2.2.1 x.2.2.2.2.1 x.2.2.2.2.2.1 x.2.2.2.2.2.2.1 x.2.2.2.2.2.2.2.1 x.2.2.2.2.2.2.2.2.1 x.2.2.2.2.2.2.2.2.2.1 x.2.2.2.2.2.2.2.2.2.2.1 x.2.2.2.2.2.2.2.2.2.2.2.1 x.2.2.2.2.2.2.2.2.2.2.2.2.1 x.2.2.2.2.2.2.2.2.2.2.2.2.2⟩
def Cl.d : Fd := { nt := 47, nv := 1, nm := [0, 1, 3, 4], res := [], cs := fun k => [(8, Dr.e k), (19, Ck.e k), (28, As.e k), (47, B7.e k), (49, A3.e k), (63, Bc.e k), (89, Fw.e k), (90, Ez.e k), (91, Bp.e k)], ls := [(3, D5.p)], mv := [46] }
theorem Cl.a (k : Nat) : Oq Tryz.prog (Cl.d.cs k) := ⟨Dr.s k, Ck.s k, As.s k, B7.s k, A3.s k, Bc.s k, Fw.s k, Ez.s k, Bp.s k, trivial⟩
theorem D5.s : LK Tryz.prog Tryz.f59 Cl.d 3 D5.p := mkL sO [] (by kernel_rfl) Cl.a trivial (by kernel_rfl) (fun _ => rfl) (fun k x => by kernel_rfl)
theorem Cl.s (k : Nat) : A5 Tryz.prog 59 (Cl.e k) := mkS (D := Cl.d) (k := k) sO [3] Tryz.func59 (Cl.a k) ⟨D5.s, trivial⟩ (by kernel_rfl) (by kernel_rfl) (fun x => by kernel_rfl)
def Cd.e (k : Nat) : Ent := ⟨2, [(.val true t20), (.val false .s)], [(.agg, t22), (.one, .b)], fun x => Cd k x.1 x.2⟩
def Cd.d : Fd := { nt := 26, nv := 2, nm := [0, 1, 2, 3, 6], res := [5], cs := fun k => [(72, A9.e k), (84, Dj.e k), (118, Fj.e k), (120, C9.e k)], mv := [14] }
theorem Cd.s (k : Nat) : A5 Tryz.prog 113 (Cd.e k) := mkS (D := Cd.d) (k := k) sO [] Tryz.func113 ⟨A9.s k, Dj.s k, Fj.s k, C9.s k, trivial⟩ trivial (by kernel_rfl) (by kernel_rfl) (fun x => by kernel_rfl)
def Cm.e (k : Nat) : Ent := ⟨1, [(.ptr t16 t16)], [(.agg, t22)], fun x => Cm k x⟩
def Am.p : LF := ⟨⟨[(0, (.bp 0 0 0)), (2, (.bp 2 0 0)), (3, (.bp 3 0 0)), (1999, (.hd 3)), (3999, (.hd 2)), (4999, (.hd 2))], [(4, (.i .i64)), (1000, t4), (1001, (.i .i64)), (1002, (.i .i64)), (3000, t12), (3001, t12), (4000, t12), (4001, t12)]⟩, [((.exit 0), ⟨[(2, (.bp 2 0 0)), (3, (.bp 3 0 0)), (3999, (.hd 2)), (4999, (.hd 2)), (1999, (.hd 3))], [(3000, t12), (3001, t12), (4000, t12), (4001, t12), (1000, t4), (1001, (.i .i64)), (1002, (.i .i64))]⟩)], fun k x => Am k x.1 x.2.1 x.2.2.1 x.2.2.2.1 x.2.2.2.2.1 x.2.2.2.2.2.1 x.2.2.2.2.2.2.1 x.2.2.2.2.2.2.2⟩
def Cm.d : Fd := { nt := 44, nv := 1, nm := [0, 1, 3, 4, 5], res := [], cs := fun k => [(47, B7.e k), (49, A3.e k), (63, Bc.e k), (103, B0.e k), (104, Az.e k), (105, B2.e k), (113, Cd.e k)], ls := [(3, Am.p)], mv := [43] }
theorem Cm.a (k : Nat) : Oq Tryz.prog (Cm.d.cs k) := ⟨B7.s k, A3.s k, Bc.s k, B0.s k, Az.s k, B2.s k, Cd.s k, trivial⟩
theorem Am.s : LK Tryz.prog Tryz.f92 Cm.d 3 Am.p := mkL sO [] (by kernel_rfl) Cm.a trivial (by kernel_rfl) (fun _ => rfl) (fun k x => by kernel_rfl)
theorem Cm.s (k : Nat) : A5 Tryz.prog 92 (Cm.e k) := mkS (D := Cm.d) (k := k) sO [3] Tryz.func92 (Cm.a k) ⟨Am.s, trivial⟩ (by kernel_rfl) (by kernel_rfl) (fun x => by kernel_rfl)
def G6.e (k : Nat) : Ent := ⟨1, [(.ptr t16 t16)], [(.agg, t22)], fun x => G6 k x⟩
def G6.d : Fd := { nt := 33, nv := 1, nm := [0, 1, 3], res := [], cs := fun k => [(26, Dw.e k), (49, A3.e k), (92, Cm.e k)], mv := [32] }
theorem G6.s (k : Nat) : A5 Tryz.prog 60 (G6.e k) := mkS (D := G6.d) (k := k) sO [] Tryz.func60 ⟨Dw.s k, A3.s k, Cm.s k, trivial⟩ trivial (by kernel_rfl) (by kernel_rfl) (fun x => by kernel_rfl)
def Gg.e (k : Nat) : Ent := ⟨1, [(.ptr t16 t16)], [(.one, t25)], fun x => Gg k x⟩
def Gg.d : Fd := { nt := 27, nv := 1, nm := [0, 1, 3], res := [2], cs := fun k => [(49, A3.e k), (50, B3.e k), (91, Bp.e k), (93, F3.e k)] }
theorem Gg.s (k : Nat) : A5 Tryz.prog 61 (Gg.e k) := mkS (D := Gg.d) (k := k) sO [] Tryz.func61 ⟨A3.s k, B3.s k, Bp.s k, F3.s k, trivial⟩ trivial (by kernel_rfl) (by kernel_rfl) (fun x => by kernel_rfl)
def Bj.e (k : Nat) : Ent := ⟨1, [(.ptr t16 t16)], [(.agg, t32)], fun x => Bj k x⟩
def D6.p : LF := ⟨⟨[(0, (.bp 0 0 0)), (2, (.bp 2 0 0)), (3, (.bp 3 0 0)), (1999, (.hd 3)), (3999, (.hd 5)), (4999, (.hd 5))], [(1000, t4), (1001, (.i .i64)), (1002, (.i .i64)), (3000, (.i .i64)), (3001, t12), (3002, t12), (3003, t25), (3004, t25), (4000, (.i .i64)), (4001, t11), (4002, t11), (4003, t24), (4004, t25)]⟩, [((.exit 1), ⟨[(2, (.bp 2 0 0)), (3, (.bp 3 0 0)), (3999, (.hd 5)), (4999, (.hd 5)), (1999, (.hd 3))], [(3000, (.i .i64)), (3001, t12), (3002, t12), (3003, t25), (3004, t25), (4000, (.i .i64)), (4001, t11), (4002, t11), (4003, t24), (4004, t25), (1000, t4), (1001, (.i .i64)), (1002, (.i .i64))]⟩)], fun k x => D6 k x.1 x.2.1 x.2.2.1 x.2.2.2.1 x.2.2.2.2.1 x.2.2.2.2.2.1 x.2.2.2.2.2.2.1 x.2.2.2.2.2.2.2.1 x.2.2.2.2.2.2.2.2.1 x.2.2.2.2.2.2.2.2.2.1 x.2.2.2.2.2.2.2.2.2.2.1 x.2.2.2.2.2.2.2.2.2.2.2.1 x.2.2.2.2.2.2.2.2.2.2.2.2⟩
def Bj.d : Fd := { nt := 50, nv := 1, nm := [0, 1, 3], res := [], cs := fun k => [(26, Dw.e k), (49, A3.e k), (50, B3.e k), (59, Cl.e k), (60, G6.e k), (61, Gg.e k)], ls := [(12, D6.p)], mv := [49] }
theorem Bj.a (k : Nat) : Oq Tryz.prog (Bj.d.cs k) := ⟨Dw.s k, A3.s k, B3.s k, Cl.s k, G6.s k, Gg.s k, trivial⟩
theorem D6.s : LK Tryz.prog Tryz.f25 Bj.d 12 D6.p := mkL sO [] (by kernel_rfl) Bj.a trivial (by kernel_rfl) (fun _ => rfl) (fun k x => by kernel_rfl)
theorem Bj.s (k : Nat) : A5 Tryz.prog 25 (Bj.e k) := mkS (D := Bj.d) (k := k) sO [12] Tryz.func25 (Bj.a k) ⟨D6.s, trivial⟩ (by kernel_rfl) (by kernel_rfl) (fun x => by kernel_rfl)
def Hs.e (k : Nat) : Ent := ⟨1, [(.ptr t16 t16)], [(.agg, t14)], fun x => Hs x⟩
def Hs.d : Fd := { nt := 27, nv := 1, nm := [0, 1, 3], res := [], cs := fun k => [(49, A3.e k), (50, B3.e k), (94, Ey.e k)] }
theorem Hs.s (k : Nat) : A5 Tryz.prog 64 (Hs.e k) := mkS (D := Hs.d) (k := k) sO [] Tryz.func64 ⟨A3.s k, B3.s k, Ey.s k, trivial⟩ trivial (by kernel_rfl) (by kernel_rfl) (fun x => by kernel_rfl)
def Ht.e (k : Nat) : Ent := ⟨1, [(.ptr t16 t16)], [(.agg, t19)], fun x => Ht k x⟩
def Ht.d : Fd := { nt := 27, nv := 1, nm := [0, 1, 3], res := [], cs := fun k => [(49, A3.e k), (63, Bc.e k), (64, Hs.e k)], mv := [26] }
theorem Ht.s (k : Nat) : A5 Tryz.prog 27 (Ht.e k) := mkS (D := Ht.d) (k := k) sO [] Tryz.func27 ⟨A3.s k, Bc.s k, Hs.s k, trivial⟩ trivial (by kernel_rfl) (by kernel_rfl) (fun x => by kernel_rfl)
def Ec.e (k : Nat) : Ent := ⟨1, [(.val false t4)], [(.agg, t32), (.one, .s), (.agg, t19), (.one, .b)], fun x => Ec k x⟩
def Ec.d : Fd := { nt := 17, nv := 1, nm := [0, 1, 6], res := [3, 5], cs := fun k => [(24, Dv.e k), (25, Bj.e k), (26, Dw.e k), (27, Ht.e k), (28, As.e k)], rf := true }
theorem Ec.s (k : Nat) : A5 Tryz.prog 6 (Ec.e k) := mkS (D := Ec.d) (k := k) sO [] Tryz.func6 ⟨Dv.s k, Bj.s k, Dw.s k, Ht.s k, As.s k, trivial⟩ trivial (by kernel_rfl) (by kernel_rfl) (fun x => by kernel_rfl)
def Gl.e (k : Nat) : Ent := ⟨3, [(.val false (.i .i64)), (.val false (.i .i64)), (.val false (.i .i64))], [(.one, .b)], fun x => Gl x.1 x.2.1 x.2.2⟩
def Gl.d : Fd := { nt := 15, nv := 3, nm := [0, 1, 2, 3, 4, 5], res := [6] }
theorem Gl.s (k : Nat) : A5 Tryz.prog 42 (Gl.e k) := mkS (D := Gl.d) (k := k) sO [] Tryz.func42 trivial trivial (by kernel_rfl) (by kernel_rfl) (fun x => by kernel_rfl)
def Aj.e (k : Nat) : Ent := ⟨1, [(.val false .s)], [(.one, .b)], fun x => Aj k x⟩
def Ac.p : LF := ⟨⟨[], [(0, .s), (3, (.i .i64))]⟩, [(.ret, ⟨[], [(2, .b)]⟩), ((.exit 0), ⟨[], [(0, .s)]⟩)], fun k x => Ac k x.1 x.2⟩
def Aj.d : Fd := { nt := 45, nv := 1, nm := [0, 1, 3, 4], res := [2], cs := fun k => [(42, Gl.e k)], ls := [(2, Ac.p)] }
theorem Aj.a (k : Nat) : Oq Tryz.prog (Aj.d.cs k) := ⟨Gl.s k, trivial⟩
theorem Ac.s : LK Tryz.prog Tryz.f30 Aj.d 2 Ac.p := mkL sO [] (by kernel_rfl) Aj.a trivial (by kernel_rfl) (fun _ => rfl) (fun k x => by kernel_rfl)
theorem Aj.s (k : Nat) : A5 Tryz.prog 30 (Aj.e k) := mkS (D := Aj.d) (k := k) sO [2] Tryz.func30 (Aj.a k) ⟨Ac.s, trivial⟩ (by kernel_rfl) (by kernel_rfl) (fun x => by kernel_rfl)
def Ds.e (k : Nat) : Ent := ⟨1, [(.val true t14)], [(.one, .b)], fun x => Ds x⟩
def Ds.d : Fd := { nt := 16, nv := 1, nm := [0, 1], res := [2], cs := fun k => [(42, Gl.e k)] }
theorem Ds.s (k : Nat) : A5 Tryz.prog 67 (Ds.e k) := mkS (D := Ds.d) (k := k) sO [] Tryz.func67 ⟨Gl.s k, trivial⟩ trivial (by kernel_rfl) (by kernel_rfl) (fun x => by kernel_rfl)
def G7.e (k : Nat) : Ent := ⟨1, [(.val true t21)], [(.one, .b)], fun x => G7 k x⟩
def G7.d : Fd := { nt := 26, nv := 1, nm := [0, 1], res := [2], cs := fun k => [(30, Aj.e k), (42, Gl.e k), (67, Ds.e k)] }
theorem G7.s (k : Nat) : A5 Tryz.prog 41 (G7.e k) := mkS (D := G7.d) (k := k) sO [] Tryz.func41 ⟨Aj.s k, Gl.s k, Ds.s k, trivial⟩ trivial (by kernel_rfl) (by kernel_rfl) (fun x => by kernel_rfl)
def C6.e (k : Nat) : Ent := ⟨1, [(.val false t11)], [(.one, .b)], fun x => C6 k x⟩
def Ce.p : LF := ⟨⟨[], [(0, t11), (5, t11), (6, (.i .i64)), (7, (.i .i64))]⟩, [(.ret, ⟨[], [(2, .b)]⟩), ((.exit 0), ⟨[], [(0, t11)]⟩)], fun k x => Ce k x.1 x.2.1 x.2.2.1 x.2.2.2⟩
def C6.d : Fd := { nt := 41, nv := 1, nm := [0, 1, 3, 4], res := [2], cs := fun k => [(30, Aj.e k)], ls := [(2, Ce.p)] }
theorem C6.a (k : Nat) : Oq Tryz.prog (C6.d.cs k) := ⟨Aj.s k, trivial⟩
theorem Ce.s : LK Tryz.prog Tryz.f80 C6.d 2 Ce.p := mkL sO [] (by kernel_rfl) C6.a trivial (by kernel_rfl) (fun _ => rfl) (fun k x => by kernel_rfl)
theorem C6.s (k : Nat) : A5 Tryz.prog 80 (C6.e k) := mkS (D := C6.d) (k := k) sO [2] Tryz.func80 (C6.a k) ⟨Ce.s, trivial⟩ (by kernel_rfl) (by kernel_rfl) (fun x => by kernel_rfl)
def Au.e (k : Nat) : Ent := ⟨1, [(.val true t20)], [(.one, .b)], fun x => Au k x⟩
def Au.d : Fd := { nt := 11, nv := 1, nm := [0, 1], res := [2], cs := fun k => [(80, C6.e k)] }
theorem Au.s (k : Nat) : A5 Tryz.prog 43 (Au.e k) := mkS (D := Au.d) (k := k) sO [] Tryz.func43 ⟨C6.s k, trivial⟩ trivial (by kernel_rfl) (by kernel_rfl) (fun x => by kernel_rfl)
def Dl.e (k : Nat) : Ent := ⟨1, [(.val false t24)], [(.one, .b)], fun x => Dl k x⟩
def De.p : LF := ⟨⟨[], [(0, t24), (5, t24), (6, (.i .i64)), (7, (.i .i64))]⟩, [(.ret, ⟨[], [(2, .b)]⟩), ((.exit 0), ⟨[], [(0, t24)]⟩)], fun k x => De k x.1 x.2.1 x.2.2.1 x.2.2.2⟩
def Dl.d : Fd := { nt := 34, nv := 1, nm := [0, 1, 3, 4], res := [2], cs := fun k => [(41, G7.e k)], ls := [(2, De.p)] }
theorem Dl.a (k : Nat) : Oq Tryz.prog (Dl.d.cs k) := ⟨G7.s k, trivial⟩
theorem De.s : LK Tryz.prog Tryz.f44 Dl.d 2 De.p := mkL sO [] (by kernel_rfl) Dl.a trivial (by kernel_rfl) (fun _ => rfl) (fun k x => by kernel_rfl)
theorem Dl.s (k : Nat) : A5 Tryz.prog 44 (Dl.e k) := mkS (D := Dl.d) (k := k) sO [2] Tryz.func44 (Dl.a k) ⟨De.s, trivial⟩ (by kernel_rfl) (by kernel_rfl) (fun x => by kernel_rfl)
def Al.e (k : Nat) : Ent := ⟨1, [(.val true t28)], [(.one, .b)], fun x => Al k x⟩
def Dz.p : LF := ⟨⟨[(1, (.bp 1 0 0)), (2999, (.hd 5))], [(6, t24), (7, (.i .i64)), (8, (.i .i64)), (2000, (.i .i64)), (2001, t11), (2002, t11), (2003, t24), (2004, t24)]⟩, [(.ret, ⟨[], [(2, .b)]⟩), ((.exit 0), ⟨[(1, (.bp 1 0 0)), (2999, (.hd 5))], [(2000, (.i .i64)), (2001, t11), (2002, t11), (2003, t24), (2004, t24)]⟩)], fun k x => Dz k x.1 x.2.1 x.2.2.1 x.2.2.2.1 x.2.2.2.2.1 x.2.2.2.2.2.1 x.2.2.2.2.2.2.1 x.2.2.2.2.2.2.2⟩
def Al.d : Fd := { nt := 35, nv := 1, nm := [0, 1, 3, 4], res := [2], cs := fun k => [(41, G7.e k), (42, Gl.e k), (43, Au.e k), (44, Dl.e k)], ls := [(2, Dz.p)] }
theorem Al.a (k : Nat) : Oq Tryz.prog (Al.d.cs k) := ⟨G7.s k, Gl.s k, Au.s k, Dl.s k, trivial⟩
theorem Dz.s : LK Tryz.prog Tryz.f13 Al.d 2 Dz.p := mkL sO [] (by kernel_rfl) Al.a trivial (by kernel_rfl) (fun _ => rfl) (fun k x => by kernel_rfl)
theorem Al.s (k : Nat) : A5 Tryz.prog 13 (Al.e k) := mkS (D := Al.d) (k := k) sO [2] Tryz.func13 (Al.a k) ⟨Dz.s, trivial⟩ (by kernel_rfl) (by kernel_rfl) (fun x => by kernel_rfl)
def Gq.e (k : Nat) : Ent := ⟨2, [(.val false .s), (.val true t18)], [(.agg, t21)], fun x => Gq x.1 x.2⟩
def Gq.d : Fd := { nt := 14, nv := 2, nm := [0, 1, 2, 3], res := [], rf := true }
theorem Gq.s (k : Nat) : A5 Tryz.prog 14 (Gq.e k) := mkS (D := Gq.d) (k := k) sO [] Tryz.func14 trivial trivial (by kernel_rfl) (by kernel_rfl) (fun x => by kernel_rfl)
def An.e (k : Nat) : Ent := ⟨1, [(.val false t4)], [(.one, t5)], fun x => An x⟩
def An.d : Fd := { nt := 5, nv := 1, nm := [0, 1], res := [2] }
theorem An.s (k : Nat) : A5 Tryz.prog 77 (An.e k) := mkS (D := An.d) (k := k) sO [] Tryz.func77 trivial trivial (by kernel_rfl) (by kernel_rfl) (fun x => by kernel_rfl)
def Ao.e (k : Nat) : Ent := ⟨1, [(.val false t11)], [(.one, t12)], fun x => Ao k x⟩
def Bl.p : LF := ⟨⟨[], [(3, t12), (6, t11), (7, (.i .i64)), (8, (.i .i64))]⟩, [((.exit 0), ⟨[], [(3, t12)]⟩)], fun k x => Bl k x.1 x.2.1 x.2.2.1 x.2.2.2⟩
def Ao.d : Fd := { nt := 23, nv := 1, nm := [0, 1, 3, 4, 5], res := [2], cs := fun k => [(77, An.e k)], ls := [(3, Bl.p)] }
theorem Ao.a (k : Nat) : Oq Tryz.prog (Ao.d.cs k) := ⟨An.s k, trivial⟩
theorem Bl.s : LK Tryz.prog Tryz.f81 Ao.d 3 Bl.p := mkL sO [] (by kernel_rfl) Ao.a trivial (by kernel_rfl) (fun _ => rfl) (fun k x => by kernel_rfl)
theorem Ao.s (k : Nat) : A5 Tryz.prog 81 (Ao.e k) := mkS (D := Ao.d) (k := k) sO [3] Tryz.func81 (Ao.a k) ⟨Bl.s, trivial⟩ (by kernel_rfl) (by kernel_rfl) (fun x => by kernel_rfl)
def Bm.e (k : Nat) : Ent := ⟨1, [(.val false t11)], [(.one, t13)], fun x => Bm k x⟩
def Fl.p : LF := ⟨⟨[], [(3, t13), (6, t11), (7, (.i .i64)), (8, (.i .i64))]⟩, [((.exit 0), ⟨[], [(3, t13)]⟩)], fun k x => Fl k x.1 x.2.1 x.2.2.1 x.2.2.2⟩
def Bm.d : Fd := { nt := 23, nv := 1, nm := [0, 1, 3, 4, 5], res := [2], cs := fun k => [(77, An.e k)], ls := [(3, Fl.p)], hint := [(19, t10), (20, t10)] }
theorem Bm.a (k : Nat) : Oq Tryz.prog (Bm.d.cs k) := ⟨An.s k, trivial⟩
theorem Fl.s : LK Tryz.prog Tryz.f81 Bm.d 3 Fl.p := mkL sO [] (by kernel_rfl) Bm.a trivial (by kernel_rfl) (fun _ => rfl) (fun k x => by kernel_rfl)
theorem Bm.s (k : Nat) : A5 Tryz.prog 81 (Bm.e k) := mkS (D := Bm.d) (k := k) sO [3] Tryz.func81 (Bm.a k) ⟨Fl.s, trivial⟩ (by kernel_rfl) (by kernel_rfl) (fun x => by kernel_rfl)
def A7.e (k : Nat) : Ent := ⟨1, [(.val true t20)], [(.agg, t22)], fun x => A7 k x⟩
def A7.d : Fd := { nt := 10, nv := 1, nm := [0, 1], res := [], cs := fun k => [(81, Ao.e k)] }
theorem A7.s (k : Nat) : A5 Tryz.prog 65 (A7.e k) := mkS (D := A7.d) (k := k) sO [] Tryz.func65 ⟨Ao.s k, trivial⟩ trivial (by kernel_rfl) (by kernel_rfl) (fun x => by kernel_rfl)
def F4.e (k : Nat) : Ent := ⟨1, [(.val true t20)], [(.agg, t23)], fun x => F4 k x⟩
def F4.d : Fd := { nt := 10, nv := 1, nm := [0, 1], res := [], cs := fun k => [(81, Bm.e k)] }
theorem F4.s (k : Nat) : A5 Tryz.prog 65 (F4.e k) := mkS (D := F4.d) (k := k) sO [] Tryz.func65 ⟨Bm.s k, trivial⟩ trivial (by kernel_rfl) (by kernel_rfl) (fun x => by kernel_rfl)
def Ed.e (k : Nat) : Ent := ⟨1, [(.val false t24)], [(.one, t25)], fun x => Ed x⟩
def Ed.d : Fd := { nt := 5, nv := 1, nm := [0, 1], res := [2] }
theorem Ed.s (k : Nat) : A5 Tryz.prog 66 (Ed.e k) := mkS (D := Ed.d) (k := k) sO [] Tryz.func66 trivial trivial (by kernel_rfl) (by kernel_rfl) (fun x => by kernel_rfl)
def B8.e (k : Nat) : Ent := ⟨1, [(.val true t28)], [(.agg, t29)], fun x => B8 k x⟩
def B8.d : Fd := { nt := 15, nv := 1, nm := [0, 1], res := [], cs := fun k => [(65, A7.e k), (66, Ed.e k)] }
theorem B8.s (k : Nat) : A5 Tryz.prog 29 (B8.e k) := mkS (D := B8.d) (k := k) sO [] Tryz.func29 ⟨A7.s k, Ed.s k, trivial⟩ trivial (by kernel_rfl) (by kernel_rfl) (fun x => by kernel_rfl)
def D7.e (k : Nat) : Ent := ⟨1, [(.val true t18)], [(.one, .b)], fun x => D7 x⟩
def D7.d : Fd := { nt := 23, nv := 1, nm := [0, 1], res := [2], cs := fun k => [(67, Ds.e k)] }
theorem D7.s (k : Nat) : A5 Tryz.prog 31 (D7.e k) := mkS (D := D7.d) (k := k) sO [] Tryz.func31 ⟨Ds.s k, trivial⟩ trivial (by kernel_rfl) (by kernel_rfl) (fun x => by kernel_rfl)
def Fe.e (k : Nat) : Ent := ⟨2, [(.val false t11), (.val false .s)], [(.one, (.i .i64))], fun x => Fe k x.1 x.2⟩
def H1.p : LF := ⟨⟨[], [(1, .s), (7, t11), (8, (.i .i64)), (9, (.i .i64))]⟩, [(.ret, ⟨[], [(4, (.i .i64))]⟩), ((.exit 0), ⟨[], []⟩)], fun k x => H1 k x.1 x.2.1 x.2.2.1 x.2.2.2⟩
def Fe.d : Fd := { nt := 20, nv := 2, nm := [0, 1, 2, 3, 5, 6], res := [4], ls := [(2, H1.p)] }
theorem H1.s : LK Tryz.prog Tryz.f76 Fe.d 2 H1.p := mkL sO [] (by kernel_rfl) (fun _ => trivial) trivial (by kernel_rfl) (fun _ => rfl) (fun k x => by kernel_rfl)
theorem Fe.s (k : Nat) : A5 Tryz.prog 76 (Fe.e k) := mkS (D := Fe.d) (k := k) sO [2] Tryz.func76 trivial ⟨H1.s, trivial⟩ (by kernel_rfl) (by kernel_rfl) (fun x => by kernel_rfl)
def Cp.e (k : Nat) : Ent := ⟨2, [(.val true t20), (.val false .s)], [(.one, t5), (.one, .b)], fun x => Cp k x.1 x.2⟩
def Cp.d : Fd := { nt := 20, nv := 2, nm := [0, 1, 2, 3, 6], res := [4, 5], cs := fun k => [(76, Fe.e k), (77, An.e k)] }
theorem Cp.s (k : Nat) : A5 Tryz.prog 38 (Cp.e k) := mkS (D := Cp.d) (k := k) sO [] Tryz.func38 ⟨Fe.s k, An.s k, trivial⟩ trivial (by kernel_rfl) (by kernel_rfl) (fun x => by kernel_rfl)
def Cn.e (k : Nat) : Ent := ⟨2, [(.val false t5), (.val false (.i .i64))], [(.one, t5)], fun x => Cn k x.1 x.2⟩
def E3.p : LF := ⟨⟨[], [(0, t5), (1, (.i .i64))]⟩, [((.exit 0), ⟨[], [(0, t5), (1, (.i .i64))]⟩)], fun k x => E3 k x.1 x.2⟩
def Cn.d : Fd := { nt := 24, nv := 2, nm := [0, 1, 2, 3], res := [4], ls := [(2, E3.p)] }
theorem E3.s : LK Tryz.prog Tryz.f115 Cn.d 2 E3.p := mkL sO [] (by kernel_rfl) (fun _ => trivial) trivial (by kernel_rfl) (fun _ => rfl) (fun k x => by kernel_rfl)
theorem Cn.s (k : Nat) : A5 Tryz.prog 115 (Cn.e k) := mkS (D := Cn.d) (k := k) sO [2] Tryz.func115 trivial ⟨E3.s, trivial⟩ (by kernel_rfl) (by kernel_rfl) (fun x => by kernel_rfl)
def Fy.e (k : Nat) : Ent := ⟨2, [(.val false t5), (.val false .s)], [(.one, t5)], fun x => Fy k x.1 x.2⟩
def Fy.d : Fd := { nt := 11, nv := 2, nm := [0, 1, 2, 3], res := [4], cs := fun k => [(115, Cn.e k)] }
theorem Fy.s (k : Nat) : A5 Tryz.prog 98 (Fy.e k) := mkS (D := Fy.d) (k := k) sO [] Tryz.func98 ⟨Cn.s k, trivial⟩ trivial (by kernel_rfl) (by kernel_rfl) (fun x => by kernel_rfl)
def Ix.e (k : Nat) : Ent := ⟨1, [(.val false .b)], [(.one, (.i .i64))], fun x => Ix x⟩
def Ix.d : Fd := { nt := 4, nv := 1, nm := [0, 1], res := [2] }
theorem Ix.s (k : Nat) : A5 Tryz.prog 116 (Ix.e k) := mkS (D := Ix.d) (k := k) sO [] Tryz.func116 trivial trivial (by kernel_rfl) (by kernel_rfl) (fun x => by kernel_rfl)
def F5.e (k : Nat) : Ent := ⟨3, [(.val false t5), (.val true t14), (.val false .b)], [(.one, t5)], fun x => F5 k x.1 x.2.1 x.2.2⟩
def F5.d : Fd := { nt := 20, nv := 3, nm := [0, 1, 2, 3, 4, 5], res := [6], cs := fun k => [(115, Cn.e k), (116, Ix.e k)] }
theorem F5.s (k : Nat) : A5 Tryz.prog 99 (F5.e k) := mkS (D := F5.d) (k := k) sO [] Tryz.func99 ⟨Cn.s k, Ix.s k, trivial⟩ trivial (by kernel_rfl) (by kernel_rfl) (fun x => by kernel_rfl)
def Hu.e (k : Nat) : Ent := ⟨1, [(.val false t4)], [(.one, (.i .i64))], fun x => Hu k x⟩
def G8.p : LF := ⟨⟨[], [(3, (.i .u32)), (7, t4), (8, (.i .i64)), (9, (.i .i64)), (17, (.i .i64))]⟩, [((.exit 2), ⟨[], [(3, (.i .u32)), (7, t4), (8, (.i .i64)), (9, (.i .i64))]⟩)], fun k x => G8 k x.1 x.2.1 x.2.2.1 x.2.2.2.1 x.2.2.2.2⟩
def Gi.p : LF := ⟨⟨[], [(3, (.i .u32)), (7, t4), (8, (.i .i64)), (9, (.i .i64))]⟩, [((.exit 0), ⟨[], [(3, (.i .u32))]⟩)], fun k x => Gi k x.1 x.2.1 x.2.2.1 x.2.2.2⟩
def Hu.d : Fd := { nt := 32, nv := 1, nm := [0, 1, 3, 4, 5, 6], res := [2], ls := [(7, G8.p), (3, Gi.p)] }
theorem G8.s : LK Tryz.prog Tryz.f100 Hu.d 7 G8.p := mkL sO [] (by kernel_rfl) (fun _ => trivial) trivial (by kernel_rfl) (fun _ => rfl) (fun k x => by kernel_rfl)
theorem Gi.s : LK Tryz.prog Tryz.f100 Hu.d 3 Gi.p := mkL sO [7] (by kernel_rfl) (fun _ => trivial) ⟨G8.s, trivial⟩ (by kernel_rfl) (fun _ => rfl) (fun k x => by kernel_rfl)
theorem Hu.s (k : Nat) : A5 Tryz.prog 100 (Hu.e k) := mkS (D := Hu.d) (k := k) sO [3] Tryz.func100 trivial ⟨Gi.s, trivial⟩ (by kernel_rfl) (by kernel_rfl) (fun x => by kernel_rfl)
def D8.e (k : Nat) : Ent := ⟨1, [(.val true t18)], [(.one, t5)], fun x => D8 k x⟩
def D8.d : Fd := { nt := 33, nv := 1, nm := [0, 1, 3, 4], res := [2], cs := fun k => [(31, D7.e k), (98, Fy.e k), (99, F5.e k), (100, Hu.e k)] }
theorem D8.s (k : Nat) : A5 Tryz.prog 70 (D8.e k) := mkS (D := D8.d) (k := k) sO [] Tryz.func70 ⟨D7.s k, Fy.s k, F5.s k, Hu.s k, trivial⟩ trivial (by kernel_rfl) (by kernel_rfl) (fun x => by kernel_rfl)
def Ej.e (k : Nat) : Ent := ⟨2, [(.val false t4), (.val false (.i .i64))], [(.one, (.i .i64)), (.one, (.i .i64)), (.one, .b)], fun x => Ej k x.1 x.2⟩
def Df.p : LF := ⟨⟨[], [(0, t4), (1, (.i .i64)), (7, (.i .i64)), (8, (.i .i64))]⟩, [(.ret, ⟨[], [(4, (.i .i64)), (5, (.i .i64)), (6, .b)]⟩), ((.exit 0), ⟨[], []⟩)], fun k x => Df k x.1 x.2.1 x.2.2.1 x.2.2.2⟩
def Ej.d : Fd := { nt := 57, nv := 2, nm := [0, 1, 2, 3, 7, 8, 9], res := [4, 5, 6], ls := [(3, Df.p)] }
theorem Df.s : LK Tryz.prog Tryz.f126 Ej.d 3 Df.p := mkL sO [] (by kernel_rfl) (fun _ => trivial) trivial (by kernel_rfl) (fun _ => rfl) (fun k x => by kernel_rfl)
theorem Ej.s (k : Nat) : A5 Tryz.prog 126 (Ej.e k) := mkS (D := Ej.d) (k := k) sO [3] Tryz.func126 trivial ⟨Df.s, trivial⟩ (by kernel_rfl) (by kernel_rfl) (fun x => by kernel_rfl)
def Bq.e (k : Nat) : Ent := ⟨1, [(.ptr t15 t15)], [(.one, (.i .i64))], fun x => Bq k x⟩
def Bq.d : Fd := { nt := 35, nv := 1, nm := [0, 1, 3, 4, 5], res := [2], cs := fun k => [(126, Ej.e k)] }
theorem Bq.s (k : Nat) : A5 Tryz.prog 106 (Bq.e k) := mkS (D := Bq.d) (k := k) sO [] Tryz.func106 ⟨Ej.s k, trivial⟩ trivial (by kernel_rfl) (by kernel_rfl) (fun x => by kernel_rfl)
def C1.e (k : Nat) : Ent := ⟨1, [(.ptr t15 t15)], [(.agg, t14), (.one, .b)], fun x => C1 k x⟩
def C1.d : Fd := { nt := 31, nv := 1, nm := [0, 1, 4, 5], res := [3], cs := fun k => [(106, Bq.e k)] }
theorem C1.s (k : Nat) : A5 Tryz.prog 78 (C1.e k) := mkS (D := C1.d) (k := k) sO [] Tryz.func78 ⟨Bq.s k, trivial⟩ trivial (by kernel_rfl) (by kernel_rfl) (fun x => by kernel_rfl)
def Fz.e (k : Nat) : Ent := ⟨2, [(.val false t4), (.val false (.i .i64))], [(.one, .s), (.one, (.i .i64)), (.one, .b)], fun x => Fz k x.1 x.2⟩
def Fz.d : Fd := { nt := 37, nv := 2, nm := [0, 1, 2, 3, 7, 8, 9], res := [4, 5, 6], cs := fun k => [(126, Ej.e k)] }
theorem Fz.s (k : Nat) : A5 Tryz.prog 107 (Fz.e k) := mkS (D := Fz.d) (k := k) sO [] Tryz.func107 ⟨Ej.s k, trivial⟩ trivial (by kernel_rfl) (by kernel_rfl) (fun x => by kernel_rfl)
def Bn.e (k : Nat) : Ent := ⟨1, [(.ptr t15 t15)], [(.one, .s)], fun x => Bn k x⟩
def Bn.d : Fd := { nt := 35, nv := 1, nm := [0, 1, 3, 4, 5], res := [2], cs := fun k => [(107, Fz.e k)] }
theorem Bn.s (k : Nat) : A5 Tryz.prog 79 (Bn.e k) := mkS (D := Bn.d) (k := k) sO [] Tryz.func79 ⟨Fz.s k, trivial⟩ trivial (by kernel_rfl) (by kernel_rfl) (fun x => by kernel_rfl)
def C7.e (k : Nat) : Ent := ⟨1, [(.val false t4)], [(.agg, t18), (.one, .b)], fun x => C7 k x⟩
def C7.d : Fd := { nt := 41, nv := 1, nm := [0, 1, 4, 5, 6], res := [3], cs := fun k => [(70, D8.e k), (78, C1.e k), (79, Bn.e k)] }
theorem C7.s (k : Nat) : A5 Tryz.prog 39 (C7.e k) := mkS (D := C7.d) (k := k) sO [] Tryz.func39 ⟨D8.s k, C1.s k, Bn.s k, trivial⟩ trivial (by kernel_rfl) (by kernel_rfl) (fun x => by kernel_rfl)
def Fo.e (k : Nat) : Ent := ⟨2, [(.val true t14), (.val true t14)], [(.one, .b)], fun x => Fo x.1 x.2⟩
def Fo.d : Fd := { nt := 32, nv := 2, nm := [0, 1, 2, 3], res := [4] }
theorem Fo.s (k : Nat) : A5 Tryz.prog 96 (Fo.e k) := mkS (D := Fo.d) (k := k) sO [] Tryz.func96 trivial trivial (by kernel_rfl) (by kernel_rfl) (fun x => by kernel_rfl)
def Hv.e (k : Nat) : Ent := ⟨2, [(.val true t18), (.val true t18)], [(.one, .b)], fun x => Hv x.1 x.2⟩
def Hv.d : Fd := { nt := 10, nv := 2, nm := [0, 1, 2, 3], res := [4], cs := fun k => [(96, Fo.e k)] }
theorem Hv.s (k : Nat) : A5 Tryz.prog 68 (Hv.e k) := mkS (D := Hv.d) (k := k) sO [] Tryz.func68 ⟨Fo.s k, trivial⟩ trivial (by kernel_rfl) (by kernel_rfl) (fun x => by kernel_rfl)
def Fg.e (k : Nat) : Ent := ⟨2, [(.val false t11), (.val false .s)], [(.one, t11)], fun x => Fg k x.1 x.2⟩
def Fg.d : Fd := { nt := 21, nv := 2, nm := [0, 1, 2, 3, 5], res := [4], cs := fun k => [(76, Fe.e k)] }
theorem Fg.s (k : Nat) : A5 Tryz.prog 88 (Fg.e k) := mkS (D := Fg.d) (k := k) sO [] Tryz.func88 ⟨Fe.s k, trivial⟩ trivial (by kernel_rfl) (by kernel_rfl) (fun x => by kernel_rfl)
def Hw.e (k : Nat) : Ent := ⟨2, [(.val false t11), (.val true t9)], [(.one, t12)], fun x => Hw k x.1 x.2⟩
def Hl.p : LF := ⟨⟨[(3, (.bp 3 0 0)), (4999, (.hd 2))], [(0, t11), (5, (.i .i64)), (4000, .s), (4001, t4)]⟩, [((.exit 0), ⟨[(3, (.bp 3 0 0)), (4999, (.hd 2))], [(0, t11), (5, (.i .i64)), (4000, .s), (4001, t4)]⟩)], fun k x => Hl k x.1 x.2.1 x.2.2.1 x.2.2.2⟩
def Hw.d : Fd := { nt := 33, nv := 2, nm := [0, 1, 2, 3, 5], res := [4], ls := [(2, Hl.p)] }
theorem Hl.s : LK Tryz.prog Tryz.f97 Hw.d 2 Hl.p := mkL sO [] (by kernel_rfl) (fun _ => trivial) trivial (by kernel_rfl) (fun _ => rfl) (fun k x => by kernel_rfl)
theorem Hw.s (k : Nat) : A5 Tryz.prog 97 (Hw.e k) := mkS (D := Hw.d) (k := k) sO [2] Tryz.func97 trivial ⟨Hl.s, trivial⟩ (by kernel_rfl) (by kernel_rfl) (fun x => by kernel_rfl)
def Er.e (k : Nat) : Ent := ⟨3, [(.val true t20), (.val false .s), (.val false t4)], [(.agg, t22), (.one, .b)], fun x => Er k x.1 x.2.1 x.2.2⟩
def Er.d : Fd := { nt := 42, nv := 3, nm := [0, 1, 2, 3, 4, 5, 8], res := [7], cs := fun k => [(30, Aj.e k), (43, Au.e k), (65, A7.e k), (77, An.e k), (88, Fg.e k), (97, Hw.e k)], mv := [24, 41] }
theorem Er.s (k : Nat) : A5 Tryz.prog 69 (Er.e k) := mkS (D := Er.d) (k := k) sO [] Tryz.func69 ⟨Aj.s k, Au.s k, A7.s k, An.s k, Fg.s k, Hw.s k, trivial⟩ trivial (by kernel_rfl) (by kernel_rfl) (fun x => by kernel_rfl)
def F6.e (k : Nat) : Ent := ⟨2, [(.val true t20), (.val false .s)], [(.agg, (.pr t12 t11)), (.one, .b)], fun x => F6 k x.1 x.2⟩
def F6.d : Fd := { nt := 50, nv := 2, nm := [0, 1, 2, 3, 6, 7], res := [5], cs := fun k => [(30, Aj.e k), (43, Au.e k), (65, A7.e k), (76, Fe.e k), (77, An.e k), (88, Fg.e k), (97, Hw.e k)], mv := [18, 49] }
theorem F6.s (k : Nat) : A5 Tryz.prog 71 (F6.e k) := mkS (D := F6.d) (k := k) sO [] Tryz.func71 ⟨Aj.s k, Au.s k, A7.s k, Fe.s k, An.s k, Fg.s k, Hw.s k, trivial⟩ trivial (by kernel_rfl) (by kernel_rfl) (fun x => by kernel_rfl)
def Il.e (k : Nat) : Ent := ⟨4, [(.val true t20), (.val false .s), (.val true t18), (.val false .b)], [(.agg, t20), (.one, (.i .i64))], fun x => Il k x.1 x.2.1 x.2.2.1 x.2.2.2⟩
def Il.d : Fd := { nt := 82, nv := 4, nm := [0, 1, 2, 3, 4, 5, 6, 7, 10, 11, 12, 13, 14, 15, 16, 17, 18, 19], res := [9], cs := fun k => [(30, Aj.e k), (31, D7.e k), (38, Cp.e k), (39, C7.e k), (43, Au.e k), (65, A7.e k), (68, Hv.e k), (69, Er.e k), (70, D8.e k), (71, F6.e k)], mv := [80] }
theorem Il.s (k : Nat) : A5 Tryz.prog 32 (Il.e k) := mkS (D := Il.d) (k := k) sO [] Tryz.func32 ⟨Aj.s k, D7.s k, Cp.s k, C7.s k, Au.s k, A7.s k, Hv.s k, Er.s k, D8.s k, F6.s k, trivial⟩ trivial (by kernel_rfl) (by kernel_rfl) (fun x => by kernel_rfl)
def Gu.e (k : Nat) : Ent := ⟨4, [(.val true t28), (.val false .s), (.val true t18), (.val false .b)], [(.agg, t30), (.one, (.i .i64))], fun x => Gu k x.1 x.2.1 x.2.2.1 x.2.2.2⟩
def Gu.d : Fd := { nt := 62, nv := 4, nm := [0, 1, 2, 3, 4, 5, 6, 7, 10, 11, 12], res := [9], cs := fun k => [(13, Al.e k), (14, Gq.e k), (29, B8.e k), (30, Aj.e k), (31, D7.e k), (32, Il.e k)], mv := [29, 35, 60], rf := true }
theorem Gu.s (k : Nat) : A5 Tryz.prog 7 (Gu.e k) := mkS (D := Gu.d) (k := k) sO [] Tryz.func7 ⟨Al.s k, Gq.s k, B8.s k, Aj.s k, D7.s k, Il.s k, trivial⟩ trivial (by kernel_rfl) (by kernel_rfl) (fun x => by kernel_rfl)
def Bv.e (k : Nat) : Ent := ⟨2, [(.val false t0), (.val false t0)], [(.one, .b)], fun x => Bv k x.1 x.2⟩
def C2.p : LF := ⟨⟨[], [(0, t0), (1, t0), (5, (.i .i64))]⟩, [(.ret, ⟨[], [(4, .b)]⟩), ((.exit 0), ⟨[], []⟩)], fun k x => C2 k x.1 x.2.1 x.2.2⟩
def Bv.d : Fd := { nt := 26, nv := 2, nm := [0, 1, 2, 3, 5], res := [4], ls := [(4, C2.p)], rf := true }
theorem C2.s : LK Tryz.prog Tryz.f9 Bv.d 4 C2.p := mkL sO [] (by kernel_rfl) (fun _ => trivial) trivial (by kernel_rfl) (fun _ => rfl) (fun k x => by kernel_rfl)
theorem Bv.s (k : Nat) : A5 Tryz.prog 9 (Bv.e k) := mkS (D := Bv.d) (k := k) sO [4] Tryz.func9 trivial ⟨C2.s, trivial⟩ (by kernel_rfl) (by kernel_rfl) (fun x => by kernel_rfl)
def El.e (k : Nat) : Ent := ⟨2, [(.val true t20), (.val false .s)], [(.agg, t18), (.one, (.i .i64))], fun x => El k x.1 x.2⟩
def El.d : Fd := { nt := 28, nv := 2, nm := [0, 1, 2, 3, 6, 7, 8, 9], res := [5], cs := fun k => [(38, Cp.e k), (39, C7.e k)] }
theorem El.s (k : Nat) : A5 Tryz.prog 11 (El.e k) := mkS (D := El.d) (k := k) sO [] Tryz.func11 ⟨Cp.s k, C7.s k, trivial⟩ trivial (by kernel_rfl) (by kernel_rfl) (fun x => by kernel_rfl)
def Ca.e (k : Nat) : Ent := ⟨2, [(.val false t0), (.val false .s)], [(.one, t0)], fun x => Ca k x.1 x.2⟩
def Cf.p : LF := ⟨⟨[], [(0, t0), (1, .s), (5, (.i .i64))]⟩, [((.exit 0), ⟨[], [(0, t0), (1, .s), (5, (.i .i64))]⟩)], fun k x => Cf k x.1 x.2.1 x.2.2⟩
def Ca.d : Fd := { nt := 44, nv := 2, nm := [0, 1, 2, 3, 5], res := [4], ls := [(2, Cf.p)] }
theorem Cf.s : LK Tryz.prog Tryz.f37 Ca.d 2 Cf.p := mkL sO [] (by kernel_rfl) (fun _ => trivial) trivial (by kernel_rfl) (fun _ => rfl) (fun k x => by kernel_rfl)
theorem Ca.s (k : Nat) : A5 Tryz.prog 37 (Ca.e k) := mkS (D := Ca.d) (k := k) sO [2] Tryz.func37 trivial ⟨Cf.s, trivial⟩ (by kernel_rfl) (by kernel_rfl) (fun x => by kernel_rfl)
def Dk.e (k : Nat) : Ent := ⟨1, [(.val true t20)], [(.one, t0)], fun x => Dk k x⟩
def Fb.p : LF := ⟨⟨[(1, (.bp 1 0 0)), (2999, (.hd 2))], [(3, t0), (9, t11), (10, (.i .i64)), (11, (.i .i64)), (2000, t11), (2001, t11)]⟩, [((.exit 0), ⟨[], [(3, t0)]⟩)], fun k x => Fb k x.1 x.2.1 x.2.2.1 x.2.2.2.1 x.2.2.2.2.1 x.2.2.2.2.2⟩
def Dk.d : Fd := { nt := 30, nv := 1, nm := [0, 1, 3, 4, 5, 6, 7], res := [2], cs := fun k => [(11, El.e k), (37, Ca.e k)], ls := [(3, Fb.p)], rf := true }
theorem Dk.a (k : Nat) : Oq Tryz.prog (Dk.d.cs k) := ⟨El.s k, Ca.s k, trivial⟩
theorem Fb.s : LK Tryz.prog Tryz.f10 Dk.d 3 Fb.p := mkL sO [] (by kernel_rfl) Dk.a trivial (by kernel_rfl) (fun _ => rfl) (fun k x => by kernel_rfl)
theorem Dk.s (k : Nat) : A5 Tryz.prog 10 (Dk.e k) := mkS (D := Dk.d) (k := k) sO [3] Tryz.func10 (Dk.a k) ⟨Fb.s, trivial⟩ (by kernel_rfl) (by kernel_rfl) (fun x => by kernel_rfl)
def Es.e (k : Nat) : Ent := ⟨2, [(.val false t4), (.val false t4)], [(.one, .b)], fun x => Es k x.1 x.2⟩
def Em.p : LF := ⟨⟨[], [(0, t4), (1, t4), (5, (.i .i64))]⟩, [(.ret, ⟨[], [(4, .b)]⟩), ((.exit 0), ⟨[], []⟩)], fun k x => Em k x.1 x.2.1 x.2.2⟩
def Es.d : Fd := { nt := 26, nv := 2, nm := [0, 1, 2, 3, 5], res := [4], ls := [(4, Em.p)] }
theorem Em.s : LK Tryz.prog Tryz.f40 Es.d 4 Em.p := mkL sO [] (by kernel_rfl) (fun _ => trivial) trivial (by kernel_rfl) (fun _ => rfl) (fun k x => by kernel_rfl)
theorem Es.s (k : Nat) : A5 Tryz.prog 40 (Es.e k) := mkS (D := Es.d) (k := k) sO [4] Tryz.func40 trivial ⟨Em.s, trivial⟩ (by kernel_rfl) (by kernel_rfl) (fun x => by kernel_rfl)
def Gb.e (k : Nat) : Ent := ⟨2, [(.val true t18), (.val true t18)], [(.one, .b)], fun x => Gb k x.1 x.2⟩
def Gb.d : Fd := { nt := 24, nv := 2, nm := [0, 1, 2, 3], res := [4], cs := fun k => [(40, Es.e k)] }
theorem Gb.s (k : Nat) : A5 Tryz.prog 12 (Gb.e k) := mkS (D := Gb.d) (k := k) sO [] Tryz.func12 ⟨Es.s k, trivial⟩ trivial (by kernel_rfl) (by kernel_rfl) (fun x => by kernel_rfl)
def Ie.e (k : Nat) : Ent := ⟨1, [(.val false t4)], [(.one, .b)], fun x => Ie k x⟩
def Ie.d : Fd := { nt := 114, nv := 1, nm := [0, 1, 3, 4, 5, 6, 7, 8, 9, 10, 11, 12, 13], res := [2], cs := fun k => [(5, Hr.e k), (6, Ec.e k), (7, Gu.e k), (8, Dr.e k), (9, Bv.e k), (10, Dk.e k), (11, El.e k), (12, Gb.e k), (13, Al.e k), (14, Gq.e k)], sh := true, rf := true }
theorem Ie.s (k : Nat) : A5 Tryz.prog 3 (Ie.e k) := mkS (D := Ie.d) (k := k) sO [] Tryz.func3 ⟨Hr.s k, Ec.s k, Gu.s k, Dr.s k, Bv.s k, Dk.s k, El.s k, Gb.s k, Al.s k, Gq.s k, trivial⟩ trivial (by kernel_rfl) (by kernel_rfl) (fun x => by kernel_rfl)
def Dm.e (k : Nat) : Ent := ⟨1, [(.ptr t16 t16)], [(.one, t2)], fun x => Dm k x⟩
def E4.p : LF := ⟨⟨[(0, (.bp 0 0 0)), (1999, (.hd 3))], [(3, t2), (4, (.i .i64)), (1000, t4), (1001, (.i .i64)), (1002, (.i .i64))]⟩, [((.exit 0), ⟨[(1999, (.hd 3))], [(3, t2), (1000, t4), (1001, (.i .i64)), (1002, (.i .i64))]⟩)], fun k x => E4 k x.1 x.2.1 x.2.2.1 x.2.2.2.1 x.2.2.2.2⟩
def Dm.d : Fd := { nt := 18, nv := 1, nm := [0, 1, 3, 4], res := [2], cs := fun k => [(28, As.e k), (49, A3.e k)], ls := [(3, E4.p)] }
theorem Dm.a (k : Nat) : Oq Tryz.prog (Dm.d.cs k) := ⟨As.s k, A3.s k, trivial⟩
theorem E4.s : LK Tryz.prog Tryz.f45 Dm.d 3 E4.p := mkL sO [] (by kernel_rfl) Dm.a trivial (by kernel_rfl) (fun _ => rfl) (fun k x => by kernel_rfl)
theorem Dm.s (k : Nat) : A5 Tryz.prog 45 (Dm.e k) := mkS (D := Dm.d) (k := k) sO [3] Tryz.func45 (Dm.a k) ⟨E4.s, trivial⟩ (by kernel_rfl) (by kernel_rfl) (fun x => by kernel_rfl)
def Br.e (k : Nat) : Ent := ⟨1, [(.val false t4)], [(.agg, t32), (.one, t2)], fun x => Br k x⟩
def Br.d : Fd := { nt := 11, nv := 1, nm := [0, 1, 4], res := [3], cs := fun k => [(24, Dv.e k), (25, Bj.e k), (45, Dm.e k)], rf := true }
theorem Br.s (k : Nat) : A5 Tryz.prog 15 (Br.e k) := mkS (D := Br.d) (k := k) sO [] Tryz.func15 ⟨Dv.s k, Bj.s k, Dm.s k, trivial⟩ trivial (by kernel_rfl) (by kernel_rfl) (fun x => by kernel_rfl)
def Be.e (k : Nat) : Ent := ⟨2, [(.val true t20), (.val false t1)], [(.agg, t22)], fun x => Be k x.1 x.2⟩
def Ad.p : LF := ⟨⟨[(2, (.bp 2 0 0)), (4, (.bp 4 0 0)), (3999, (.hd 2)), (5999, (.hd 2))], [(1, t1), (8, t12), (34, t0), (35, (.i .i64)), (36, (.i .i64)), (3000, t11), (3001, t11), (5000, t12), (5001, t12)]⟩, [((.exit 2), ⟨[(2, (.bp 2 0 0)), (4, (.bp 4 0 0)), (3999, (.hd 2)), (5999, (.hd 2))], [(8, t12), (3000, t11), (3001, t11), (5000, t12), (5001, t12)]⟩)], fun k x => Ad k x.1 x.2.1 x.2.2.1 x.2.2.2.1 x.2.2.2.2.1 x.2.2.2.2.2.1 x.2.2.2.2.2.2.1 x.2.2.2.2.2.2.2.1 x.2.2.2.2.2.2.2.2⟩
def Cg.p : LF := ⟨⟨[(2, (.bp 2 0 0)), (4, (.bp 4 0 0)), (3999, (.hd 2)), (5999, (.hd 2))], [(1, t1), (5, t0), (23, t12), (24, (.i .i64)), (25, (.i .i64)), (3000, t11), (3001, t11), (5000, t12), (5001, t12)]⟩, [((.exit 0), ⟨[(2, (.bp 2 0 0)), (4, (.bp 4 0 0)), (3999, (.hd 2)), (5999, (.hd 2))], [(1, t1), (5, t0), (3000, t11), (3001, t11), (5000, t12), (5001, t12)]⟩)], fun k x => Cg k x.1 x.2.1 x.2.2.1 x.2.2.2.1 x.2.2.2.2.1 x.2.2.2.2.2.1 x.2.2.2.2.2.2.1 x.2.2.2.2.2.2.2.1 x.2.2.2.2.2.2.2.2⟩
def Be.d : Fd := { nt := 78, nv := 2, nm := [0, 1, 2, 3, 5, 6, 7, 8, 9, 10, 11, 12], res := [], cs := fun k => [(37, Ca.e k), (43, Au.e k), (65, A7.e k), (76, Fe.e k), (81, Ao.e k)], ls := [(11, Ad.p), (5, Cg.p)] }
theorem Be.a (k : Nat) : Oq Tryz.prog (Be.d.cs k) := ⟨Ca.s k, Au.s k, A7.s k, Fe.s k, Ao.s k, trivial⟩
theorem Ad.s : LK Tryz.prog Tryz.f46 Be.d 11 Ad.p := mkL sO [] (by kernel_rfl) Be.a trivial (by kernel_rfl) (fun _ => rfl) (fun k x => by kernel_rfl)
theorem Cg.s : LK Tryz.prog Tryz.f46 Be.d 5 Cg.p := mkL sO [] (by kernel_rfl) Be.a trivial (by kernel_rfl) (fun _ => rfl) (fun k x => by kernel_rfl)
theorem Be.s (k : Nat) : A5 Tryz.prog 46 (Be.e k) := mkS (D := Be.d) (k := k) sO [5, 11] Tryz.func46 (Be.a k) ⟨Cg.s, Ad.s, trivial⟩ (by kernel_rfl) (by kernel_rfl) (fun x => by kernel_rfl)
def E5.e (k : Nat) : Ent := ⟨2, [(.val true t28), (.val false t1)], [(.agg, t29)], fun x => E5 k x.1 x.2⟩
def E5.d : Fd := { nt := 16, nv := 2, nm := [0, 1, 2, 3, 5], res := [], cs := fun k => [(13, Al.e k), (29, B8.e k), (46, Be.e k)], mv := [15], rf := true }
theorem E5.s (k : Nat) : A5 Tryz.prog 16 (E5.e k) := mkS (D := E5.d) (k := k) sO [] Tryz.func16 ⟨Al.s k, B8.s k, Be.s k, trivial⟩ trivial (by kernel_rfl) (by kernel_rfl) (fun x => by kernel_rfl)
def G9.e (k : Nat) : Ent := ⟨2, [(.val false t0), (.val false .s)], [(.one, .b)], fun x => G9 k x.1 x.2⟩
def E6.p : LF := ⟨⟨[], [(0, t0), (1, .s), (5, (.i .i64))]⟩, [(.ret, ⟨[], [(4, .b)]⟩), ((.exit 0), ⟨[], []⟩)], fun k x => E6 k x.1 x.2.1 x.2.2⟩
def G9.d : Fd := { nt := 18, nv := 2, nm := [0, 1, 2, 3, 5], res := [4], ls := [(2, E6.p)], rf := true }
theorem E6.s : LK Tryz.prog Tryz.f83 G9.d 2 E6.p := mkL sO [] (by kernel_rfl) (fun _ => trivial) trivial (by kernel_rfl) (fun _ => rfl) (fun k x => by kernel_rfl)
theorem G9.s (k : Nat) : A5 Tryz.prog 83 (G9.e k) := mkS (D := G9.d) (k := k) sO [2] Tryz.func83 trivial ⟨E6.s, trivial⟩ (by kernel_rfl) (by kernel_rfl) (fun x => by kernel_rfl)
def Fh.e (k : Nat) : Ent := ⟨1, [(.val true t20)], [(.one, t3)], fun x => Fh k x⟩
def G0.p : LF := ⟨⟨[(1, (.bp 1 0 0)), (2999, (.hd 2))], [(3, t3), (4, (.i .i64)), (7, (.i .i64)), (2000, t11), (2001, t11)]⟩, [((.exit 2), ⟨[(1, (.bp 1 0 0)), (2999, (.hd 2))], [(3, t3), (4, (.i .i64)), (7, (.i .i64)), (2000, t11), (2001, t11)]⟩)], fun k x => G0 k x.1 x.2.1 x.2.2.1 x.2.2.2.1 x.2.2.2.2⟩
def Dt.p : LF := ⟨⟨[(1, (.bp 1 0 0)), (2999, (.hd 2))], [(3, t3), (4, (.i .i64)), (2000, t11), (2001, t11)]⟩, [((.exit 0), ⟨[], [(3, t3)]⟩)], fun k x => Dt k x.1 x.2.1 x.2.2.1 x.2.2.2⟩
def Fh.d : Fd := { nt := 98, nv := 1, nm := [0, 1, 3, 4, 5, 6, 7], res := [2], cs := fun k => [(82, Dq.e k), (83, G9.e k), (84, Dj.e k)], ls := [(9, G0.p), (3, Dt.p)], rf := true }
theorem Fh.a (k : Nat) : Oq Tryz.prog (Fh.d.cs k) := ⟨Dq.s k, G9.s k, Dj.s k, trivial⟩
theorem G0.s : LK Tryz.prog Tryz.f48 Fh.d 9 G0.p := mkL sO [] (by kernel_rfl) Fh.a trivial (by kernel_rfl) (fun _ => rfl) (fun k x => by kernel_rfl)
theorem Dt.s : LK Tryz.prog Tryz.f48 Fh.d 3 Dt.p := mkL sO [9] (by kernel_rfl) Fh.a ⟨G0.s, trivial⟩ (by kernel_rfl) (fun _ => rfl) (fun k x => by kernel_rfl)
theorem Fh.s (k : Nat) : A5 Tryz.prog 48 (Fh.e k) := mkS (D := Fh.d) (k := k) sO [3] Tryz.func48 (Fh.a k) ⟨Dt.s, trivial⟩ (by kernel_rfl) (by kernel_rfl) (fun x => by kernel_rfl)
def Ch.e (k : Nat) : Ent := ⟨1, [(.val false t4)], [(.agg, t32), (.one, .s), (.one, (.i .i64))], fun x => Ch k x⟩
def Ch.d : Fd := { nt := 38, nv := 1, nm := [0, 1, 5, 6, 7, 8], res := [3, 4], cs := fun k => [(24, Dv.e k), (25, Bj.e k), (28, As.e k), (47, B7.e k), (48, Fh.e k), (49, A3.e k), (50, B3.e k)], mv := [33], rf := true }
theorem Ch.s (k : Nat) : A5 Tryz.prog 17 (Ch.e k) := mkS (D := Ch.d) (k := k) sO [] Tryz.func17 ⟨Dv.s k, Bj.s k, As.s k, B7.s k, Fh.s k, A3.s k, B3.s k, trivial⟩ trivial (by kernel_rfl) (by kernel_rfl) (fun x => by kernel_rfl)
def Gj.e (k : Nat) : Ent := ⟨3, [(.val true t20), (.val false .s), (.val false (.i .i64))], [(.agg, t23), (.one, .b)], fun x => Gj k x.1 x.2.1 x.2.2⟩
def Gj.d : Fd := { nt := 95, nv := 3, nm := [0, 1, 2, 3, 4, 5, 8, 9, 10, 11], res := [7], cs := fun k => [(43, Au.e k), (65, F4.e k), (76, Fe.e k)], mv := [45, 94], rf := true }
theorem Gj.s (k : Nat) : A5 Tryz.prog 51 (Gj.e k) := mkS (D := Gj.d) (k := k) sO [] Tryz.func51 ⟨Au.s k, F4.s k, Fe.s k, trivial⟩ trivial (by kernel_rfl) (by kernel_rfl) (fun x => by kernel_rfl)
def G3.e (k : Nat) : Ent := ⟨3, [(.val true t28), (.val false .s), (.val false (.i .i64))], [(.agg, t30), (.one, .b)], fun x => G3 k x.1 x.2.1 x.2.2⟩
def G3.d : Fd := { nt := 42, nv := 3, nm := [0, 1, 2, 3, 4, 5, 8, 9, 10, 11, 12], res := [7], cs := fun k => [(11, El.e k), (13, Al.e k), (29, B8.e k), (51, Gj.e k)], mv := [29, 40], rf := true }
theorem G3.s (k : Nat) : A5 Tryz.prog 18 (G3.e k) := mkS (D := G3.d) (k := k) sO [] Tryz.func18 ⟨El.s k, Al.s k, B8.s k, Gj.s k, trivial⟩ trivial (by kernel_rfl) (by kernel_rfl) (fun x => by kernel_rfl)
def Di.e (k : Nat) : Ent := ⟨2, [(.val false t24), (.val false t24)], [(.one, .b)], fun x => Di k x.1 x.2⟩
def Ci.p : LF := ⟨⟨[], [(0, t24), (1, t24), (5, (.i .i64))]⟩, [(.ret, ⟨[], [(4, .b)]⟩), ((.exit 0), ⟨[], []⟩)], fun k x => Ci k x.1 x.2.1 x.2.2⟩
def Di.d : Fd := { nt := 26, nv := 2, nm := [0, 1, 2, 3, 5], res := [4], ls := [(4, Ci.p)] }
theorem Ci.s : LK Tryz.prog Tryz.f21 Di.d 4 Ci.p := mkL sO [] (by kernel_rfl) (fun _ => trivial) trivial (by kernel_rfl) (fun _ => rfl) (fun k x => by kernel_rfl)
theorem Di.s (k : Nat) : A5 Tryz.prog 21 (Di.e k) := mkS (D := Di.d) (k := k) sO [4] Tryz.func21 trivial ⟨Ci.s, trivial⟩ (by kernel_rfl) (by kernel_rfl) (fun x => by kernel_rfl)
def Fa.e (k : Nat) : Ent := ⟨1, [(.val true t20)], [(.agg, t20), (.one, (.i .i64))], fun x => Fa k x⟩
def Ee.p : LF := ⟨⟨[(2, (.bp 2 0 0)), (4, (.bp 4 0 0)), (3999, (.hd 2)), (5999, (.hd 2))], [(5, (.i .i64)), (17, t11), (18, (.i .i64)), (19, (.i .i64)), (3000, t12), (3001, t12), (5000, t11), (5001, t11)]⟩, [((.exit 0), ⟨[(2, (.bp 2 0 0)), (4, (.bp 4 0 0)), (3999, (.hd 2)), (5999, (.hd 2))], [(5, (.i .i64)), (3000, t12), (3001, t12), (5000, t11), (5001, t11)]⟩)], fun k x => Ee k x.1 x.2.1 x.2.2.1 x.2.2.2.1 x.2.2.2.2.1 x.2.2.2.2.2.1 x.2.2.2.2.2.2.1 x.2.2.2.2.2.2.2⟩
def Fa.d : Fd := { nt := 48, nv := 1, nm := [0, 1, 4, 5, 6, 7, 8, 9], res := [3], cs := fun k => [(39, C7.e k), (43, Au.e k), (65, A7.e k), (88, Fg.e k)], ls := [(6, Ee.p)], mv := [15], rf := true }
theorem Fa.a (k : Nat) : Oq Tryz.prog (Fa.d.cs k) := ⟨C7.s k, Au.s k, A7.s k, Fg.s k, trivial⟩
theorem Ee.s : LK Tryz.prog Tryz.f58 Fa.d 6 Ee.p := mkL sO [] (by kernel_rfl) Fa.a trivial (by kernel_rfl) (fun _ => rfl) (fun k x => by kernel_rfl)
theorem Fa.s (k : Nat) : A5 Tryz.prog 58 (Fa.e k) := mkS (D := Fa.d) (k := k) sO [6] Tryz.func58 (Fa.a k) ⟨Ee.s, trivial⟩ (by kernel_rfl) (by kernel_rfl) (fun x => by kernel_rfl)
def E7.e (k : Nat) : Ent := ⟨1, [(.val true t28)], [(.agg, t30), (.one, (.i .i64))], fun x => E7 k x⟩
def E7.d : Fd := { nt := 19, nv := 1, nm := [0, 1, 4, 5, 6], res := [3], cs := fun k => [(29, B8.e k), (58, Fa.e k)], mv := [17], rf := true }
theorem E7.s (k : Nat) : A5 Tryz.prog 22 (E7.e k) := mkS (D := E7.d) (k := k) sO [] Tryz.func22 ⟨B8.s k, Fa.s k, trivial⟩ trivial (by kernel_rfl) (by kernel_rfl) (fun x => by kernel_rfl)
def Fc.e (k : Nat) : Ent := ⟨2, [(.val false t0), (.val false .s)], [(.one, .b)], fun x => Fc k x.1 x.2⟩
def D9.p : LF := ⟨⟨[], [(0, t0), (1, .s), (5, (.i .i64))]⟩, [(.ret, ⟨[], [(4, .b)]⟩), ((.exit 0), ⟨[], []⟩)], fun k x => D9 k x.1 x.2.1 x.2.2⟩
def Fc.d : Fd := { nt := 18, nv := 2, nm := [0, 1, 2, 3, 5], res := [4], ls := [(2, D9.p)], rf := true }
theorem D9.s : LK Tryz.prog Tryz.f23 Fc.d 2 D9.p := mkL sO [] (by kernel_rfl) (fun _ => trivial) trivial (by kernel_rfl) (fun _ => rfl) (fun k x => by kernel_rfl)
theorem Fc.s (k : Nat) : A5 Tryz.prog 23 (Fc.e k) := mkS (D := Fc.d) (k := k) sO [2] Tryz.func23 trivial ⟨D9.s, trivial⟩ (by kernel_rfl) (by kernel_rfl) (fun x => by kernel_rfl)
def Dg.e (k : Nat) : Ent := ⟨1, [(.val false t4)], [(.one, .b)], fun x => Dg k x⟩
def Dg.d : Fd := { nt := 119, nv := 1, nm := [0, 1, 3, 4, 5, 6, 7, 8, 9, 10, 11, 12, 13, 14, 15, 16], res := [2], cs := fun k => [(5, Hr.e k), (9, Bv.e k), (10, Dk.e k), (11, El.e k), (13, Al.e k), (15, Br.e k), (16, E5.e k), (17, Ch.e k), (18, G3.e k), (19, Ck.e k), (20, B9.e k), (21, Di.e k), (22, E7.e k), (23, Fc.e k)], sh := true, rf := true }
theorem Dg.s (k : Nat) : A5 Tryz.prog 4 (Dg.e k) := mkS (D := Dg.d) (k := k) sO [] Tryz.func4 ⟨Hr.s k, Bv.s k, Dk.s k, El.s k, Al.s k, Br.s k, E5.s k, Ch.s k, G3.s k, Ck.s k, B9.s k, Di.s k, E7.s k, Fc.s k, trivial⟩ trivial (by kernel_rfl) (by kernel_rfl) (fun x => by kernel_rfl)
end Go.Proofs.YtgocagaijgcnmaaGreat.Vf
end

section
set_option linter.unusedVariables false
set_option linter.unusedSimpArgs false
namespace Go.Proofs.YtgocagaijgcnmaaGreat.Vf
open Go
def Tot {α : Type} (f : Nat → Option α) (Q : α → Prop) : Prop := ∃ r K, (∀ k, K ≤ k → f k = some r) ∧ Q r
section
variable {α β : Type} {f g : Nat → Option α} {Q Q' : α → Prop}
theorem Tot.mono (h : Tot f Q) (hq : ∀ a, Q a → Q' a) : Tot f Q' := by
 obtain ⟨r, K, h1, h2⟩ := h
 exact ⟨r, K, h1, hq r h2⟩
theorem Tot.pure {a : α} (h : Q a) : Tot (fun _ => some a) Q := ⟨a, 0, fun _ _ => rfl, h⟩
theorem Tot.of {o : Option α} {a : α} (e : o = some a) (h : Q a) : Tot (fun _ => o) Q := ⟨a, 0, fun _ _ => e, h⟩
theorem Tot.bind {h : Nat → α → Option β} {R : β → Prop} (hf : Tot f Q) (hh : ∀ a, Q a → Tot (fun k => h k a) R) : Tot (fun k => (f k).bind (h k)) R := by
 obtain ⟨a, K, h1, h2⟩ := hf
 obtain ⟨b, L, h3, h4⟩ := hh a h2
 exact ⟨b, max K L, fun k hk => by show (f k).bind (h k) = _; rw [h1 k (by omega)]; exact h3 k (by omega), h4⟩
theorem Tot.yes {c : Bool} (hc : c = true) (h : Tot f Q) : Tot (fun k => cond c (f k) (g k)) Q := by subst hc; exact h
theorem Tot.no {c : Bool} (hc : c = false) (h : Tot g Q) : Tot (fun k => cond c (f k) (g k)) Q := by subst hc; exact h
theorem Tot.ite {c : Bool} (h1 : c = true → Tot f Q) (h2 : c = false → Tot g Q) : Tot (fun k => cond c (f k) (g k)) Q := by
 cases hc : c with
 | true => exact h1 hc
 | false => exact h2 hc
theorem Tot.dec {p : Prop} [Decidable p] (hp : p) (h : Tot f Q) : Tot (fun k => cond (decide p) (f k) (g k)) Q := Tot.yes (decide_eq_true hp) h
theorem Tot.ndec {p : Prop} [Decidable p] (hp : ¬ p) (h : Tot g Q) : Tot (fun k => cond (decide p) (f k) (g k)) Q := Tot.no (decide_eq_false hp) h
theorem Tot.dite {p : Prop} [Decidable p] (h1 : p → Tot f Q) (h2 : ¬ p → Tot g Q) : Tot (fun k => cond (decide p) (f k) (g k)) Q :=
 Tot.ite (fun h => h1 (of_decide_eq_true h)) (fun h => h2 (of_decide_eq_false h))
theorem Tot.ble {m n : Nat} (hp : m ≤ n) (h : Tot f Q) : Tot (fun k => cond (Nat.ble m n) (f k) (g k)) Q := Tot.yes (Nat.ble_eq_true_of_le hp) h
theorem Tot.succ (h : Tot (fun k => f (k + 1)) Q) : Tot f Q := by
 obtain ⟨r, K, h1, h2⟩ := h
 exact ⟨r, K + 1, fun k hk => by obtain ⟨m, rfl⟩ : ∃ m, k = m + 1 := ⟨k - 1, by omega⟩; exact h1 m (by omega), h2⟩
theorem Tot.and (h : Tot f Q) (h' : Tot f Q') : Tot f (fun a => Q a ∧ Q' a) := by
 obtain ⟨r, K, h1, h2⟩ := h
 obtain ⟨r', K', h1', h2'⟩ := h'
 have e : r = r' := by
  have a1 := h1 (max K K') (by omega)
  have a2 := h1' (max K K') (by omega)
  rw [a1] at a2
  exact Option.some.inj a2
 subst e
 exact ⟨r, K, h1, h2, h2'⟩
theorem Tot.law {f : Nat → Option Bool} (h : Tot f (fun b => b = true)) : ∃ k, f k = some true := by
 obtain ⟨r, K, h1, h2⟩ := h
 subst h2
 exact ⟨K, h1 K (Nat.le_refl _)⟩
end
theorem w64 {n : Int} (h1 : -9223372036854775808 ≤ n) (h2 : n ≤ 9223372036854775807) : IntKind.wrap .i64 n = n := Go.IntWalk.i64_in n ⟨h1, h2⟩
theorem Xv (n : Int) : 0 ≤ IntKind.wrap .u8 n ∧ IntKind.wrap .u8 n ≤ 255 := by
 simp only [IntKind.wrap, IntKind.signed, IntKind.bits]
 simp
 omega
theorem Dba (x m : Int) (h0 : 0 ≤ m) (h1 : m < 9223372036854775808) : 0 ≤ IntKind.wrap .i64 ((BitVec.ofInt (IntKind.bits .i64) x &&& BitVec.ofInt (IntKind.bits .i64) m).toNat) ∧ IntKind.wrap .i64 ((BitVec.ofInt (IntKind.bits .i64) x &&& BitVec.ofInt (IntKind.bits .i64) m).toNat) ≤ m := by
 have hm : (BitVec.ofInt (IntKind.bits .i64) m).toNat = m.toNat := by
  rw [BitVec.toNat_ofInt]
  show (m % ((2 ^ 64 : Nat) : Int)).toNat = m.toNat
  rw [Int.emod_eq_of_lt h0 (by omega)]
 have hle : (BitVec.ofInt (IntKind.bits .i64) x &&& BitVec.ofInt (IntKind.bits .i64) m).toNat ≤ m.toNat := by
  rw [BitVec.toNat_and, hm]
  exact Nat.and_le_right
 rw [w64 (by omega) (by omega)]
 omega
theorem Iba {x n : Int} (hx : 0 ≤ x) (hn : 0 < n) : 0 ≤ Int.tmod x n ∧ Int.tmod x n < n := by
 rw [Int.tmod_eq_emod_of_nonneg hx]
 exact ⟨Int.emod_nonneg _ (by omega), Int.emod_lt_of_pos _ hn⟩
end Go.Proofs.YtgocagaijgcnmaaGreat.Vf
end

section
set_option linter.unusedVariables false
set_option linter.unusedSimpArgs false
namespace Go.Proofs.YtgocagaijgcnmaaGreat.Vf
open Go
abbrev Cur := List Int × Int × Int
def Ek (c : Cur) : Prop := (c.1.length : Int) ≤ 1048576 ∧ 0 ≤ c.2.1 ∧ c.2.1 ≤ 1048576
theorem F0a (b : List Int) (hb : (b.length : Int) ≤ 1048576) : ∀ (n : Nat) (h i : Int), 0 ≤ i → i + n = 4001 → Tot (fun k => Et k b h i) (fun r => r.1 = b) := by
 intro n
 induction n with
 | zero =>
  intro h i h0 hi
  refine Tot.succ ?_
  simp only [Et]
  refine Tot.dite (fun h1 => ?_) (fun h1 => Tot.pure rfl)
  exact Tot.ndec (by omega) (Tot.pure rfl)
 | succ n ih =>
  intro h i h0 hi
  refine Tot.succ ?_
  simp only [Et]
  refine Tot.dite (fun h1 => ?_) (fun h1 => Tot.pure rfl)
  refine Tot.dite (fun h2 => ?_) (fun h2 => Tot.pure rfl)
  refine Tot.dec h0 (Tot.dec h1 ?_)
  rw [w64 (n := i + 1) (by omega) (by omega)]
  exact ih _ _ (by omega) (by omega)
theorem Xw (b : List Int) (hb : (b.length : Int) ≤ 1048576) : Tot (fun k => Dv k b) Ek := by
 unfold Dv
 refine Tot.bind (F0a b hb 4001 _ 0 (by omega) (by omega)) (fun r hr => ?_)
 exact Tot.pure ⟨by rw [hr]; exact hb, Int.le_refl 0, by show (0 : Int) ≤ 1048576; omega⟩
theorem M9 (c : Cur) (hc : Ek c) : ∃ x c', Cu c = some (x, c') ∧ 0 ≤ x ∧ x ≤ 255 ∧ Ek c' := by
 obtain ⟨h1, h2, h3⟩ := hc
 unfold Cu
 by_cases hlt : c.2.1 < (c.1.length : Int)
 ·simp only [hlt, h2, decide_true, cond_true]
  obtain ⟨a1, a2⟩ := Dba (IntKind.wrap .i64 ((IntKind.wrap .i64 ((BitVec.ofInt (IntKind.bits .i64) (IntKind.wrap .i64 ((BitVec.ofInt (IntKind.bits .i64) (Int.fdiv (IntKind.wrap .i64 ((IntKind.wrap .i64 (c.2.2 * 6364136223846793005)) + 1442695040888963407)) (2 ^ (min (Int.toNat 33) (IntKind.bits .i64)))) ^^^ BitVec.ofInt (IntKind.bits .i64) (Int.fdiv (IntKind.wrap .i64 ((IntKind.wrap .i64 (c.2.2 * 6364136223846793005)) + 1442695040888963407)) (2 ^ (min (Int.toNat 47) (IntKind.bits .i64))))).toNat)) &&& BitVec.ofInt (IntKind.bits .i64) 255).toNat)) + (IntKind.wrap .i64 (List.getD c.1 (Int.toNat c.2.1) (0 : Int))))) 255 (by omega) (by omega)
  refine ⟨_, _, rfl, a1, a2, h1, ?_, ?_⟩
  ·show 0 ≤ IntKind.wrap .i64 (c.2.1 + 1)
   rw [w64 (by omega) (by omega)]
   omega
  ·show IntKind.wrap .i64 (c.2.1 + 1) ≤ 1048576
   rw [w64 (by omega) (by omega)]
   omega
 ·simp only [hlt, decide_false, cond_false]
  obtain ⟨a1, a2⟩ := Dba (IntKind.wrap .i64 ((BitVec.ofInt (IntKind.bits .i64) (Int.fdiv (IntKind.wrap .i64 ((IntKind.wrap .i64 (c.2.2 * 6364136223846793005)) + 1442695040888963407)) (2 ^ (min (Int.toNat 33) (IntKind.bits .i64)))) ^^^ BitVec.ofInt (IntKind.bits .i64) (Int.fdiv (IntKind.wrap .i64 ((IntKind.wrap .i64 (c.2.2 * 6364136223846793005)) + 1442695040888963407)) (2 ^ (min (Int.toNat 47) (IntKind.bits .i64))))).toNat)) 255 (by omega) (by omega)
  exact ⟨_, _, rfl, a1, a2, h1, h2, h3⟩
theorem C3 (c : Cur) (hc : Ek c) (n : Int) (hn : n ≤ 1000000000) : ∃ x c', A3 c n = some (x, c') ∧ 0 ≤ x ∧ (0 < n → x < n) ∧ (n ≤ 0 → x = 0) ∧ Ek c' := by
 unfold A3
 by_cases h0 : n ≤ 0
 ·exact ⟨0, c, by simp only [h0, decide_true, cond_true], by omega, by omega, fun _ => rfl, hc⟩
 ·by_cases h1 : n ≤ 256
  ·obtain ⟨x, c', e, b0, b1, k⟩ := M9 c hc
   have hz : ¬ n = 0 := by omega
   have := Iba b0 (show 0 < n by omega)
   exact ⟨Int.tmod x n, c', by simp only [h0, h1, hz, decide_true, decide_false, cond_true, cond_false, e, Option.bind_some], this.1, fun _ => this.2, fun h => by omega, k⟩
  ·obtain ⟨x, c1, e1, b0, b1, k1⟩ := M9 c hc
   obtain ⟨y, c2, e2, b2, b3, k2⟩ := M9 c1 k1
   obtain ⟨z, c3, e3, b4, b5, k3⟩ := M9 c2 k2
   have hz : ¬ n = 0 := by omega
   have := Iba (show 0 ≤ x * 65536 + y * 256 + z by omega) (show 0 < n by omega)
   refine ⟨Int.tmod (x * 65536 + y * 256 + z) n, c3, ?_, this.1, fun _ => this.2, fun h => by omega, k3⟩
   simp only [h0, h1, hz, decide_false, cond_false, e1, e2, e3, Option.bind_some]
   rw [w64 (n := x * 65536) (by omega) (by omega), w64 (n := y * 256) (by omega) (by omega), w64 (n := x * 65536 + y * 256) (by omega) (by omega), w64 (n := x * 65536 + y * 256 + z) (by omega) (by omega)]
theorem Dca {α : Type} {l : List α} {i : Int} {d : α} (h0 : 0 ≤ i) (h1 : i < (l.length : Int)) : l.getD i.toNat d ∈ l := by
 have h : i.toNat < l.length := by omega
 rw [List.getD_eq_getElem?_getD, List.getElem?_eq_getElem h]
 exact List.getElem_mem h
theorem Od (c : Cur) (hc : Ek c) (l : List Int) (hl : 0 < l.length) (hm : l.length ≤ 1000) : ∃ x c', B3 c l = some (x, c') ∧ x ∈ l ∧ Ek c' := by
 obtain ⟨i, c', e, b0, b1, _, k⟩ := C3 c hc (l.length : Int) (by omega)
 have b1 := b1 (by omega)
 refine ⟨l.getD i.toNat 0, c', ?_, Dca b0 b1, k⟩
 unfold B3
 simp only [e, Option.bind_some, b0, b1, decide_true, cond_true]
theorem Dda (c : Cur) (hc : Ek c) (l : List ByteArray) (hl : 0 < l.length) (hm : l.length ≤ 1000) : ∃ x c', G4 c l = some (x, c') ∧ x ∈ l ∧ Ek c' := by
 obtain ⟨i, c', e, b0, b1, _, k⟩ := C3 c hc (l.length : Int) (by omega)
 have b1 := b1 (by omega)
 refine ⟨l.getD i.toNat (⟨#[]⟩ : ByteArray), c', ?_, Dca b0 b1, k⟩
 unfold G4
 simp only [e, Option.bind_some, b0, b1, decide_true, cond_true]
def B4 (l : List Int) : Prop := ∀ x ∈ l, 0 ≤ x ∧ x ≤ 255
theorem Xx (m : Int) (hm : m ≤ 1000) : ∀ (n : Nat) (l : List Int) (i : Int) (c : Cur), Ek c → 0 ≤ i → i ≤ max m 0 → (max m 0) - i = n → (l.length : Int) = i → B4 l →
  Tot (fun k => Cy k m l i c.1 c.2.1 c.2.2) (fun r => Ek r.2 ∧ B4 r.1 ∧ (r.1.length : Int) = max m 0) := by
 intro n
 induction n with
 | zero =>
  intro l i c hc h0 h1 hn hl hb
  refine Tot.succ ?_
  simp only [Cy]
  refine Tot.ndec (by omega) (Tot.pure ⟨hc, hb, by show (l.length : Int) = _; omega⟩)
 | succ n ih =>
  intro l i c hc h0 h1 hn hl hb
  refine Tot.succ ?_
  simp only [Cy]
  refine Tot.dec (by omega) ?_
  obtain ⟨x, c', e, b0, b1, k⟩ := M9 c hc
  refine Tot.bind (Tot.of (Q := fun r => r = (x, c')) e rfl) ?_
  rintro r rfl
  refine Tot.ble (by simp only [List.length_cons, List.length_nil]; omega) ?_
  rw [w64 (n := i + 1) (by omega) (by omega)]
  refine ih _ _ c' k (by omega) (by omega) (by omega) (by simp only [List.length_append, List.length_cons, List.length_nil]; omega) ?_
  intro y hy
  rcases List.mem_append.1 hy with hy | hy
  ·exact hb y hy
  ·simp only [List.mem_singleton] at hy
   subst hy
   exact Xv _
theorem F1a (c : Cur) (hc : Ek c) : Tot (fun k => Gf k c) (fun r => Ek r.2 ∧ B4 r.1 ∧ (r.1.length : Int) ≤ 9) := by
 unfold Gf
 obtain ⟨x, c', e, hx, k⟩ := Od c hc [0, 1, 2, 5, 9] (by decide) (by decide)
 have hx' : 0 ≤ x ∧ x ≤ 9 := by
  simp only [List.mem_cons, List.not_mem_nil, or_false] at hx
  omega
 refine Tot.bind (Tot.of (Q := fun r => r = (x, c')) e rfl) ?_
 rintro r rfl
 refine Tot.bind (Q := fun r => Ek r.2 ∧ B4 r.1 ∧ (r.1.length : Int) ≤ 9) ?_ (fun r hr => Tot.pure hr)
 unfold Cz
 refine Tot.bind (Xx x (by omega) (max x 0 - 0).toNat [] 0 c' k (by omega) (by omega) (by omega) rfl (by intro y hy; simp at hy)) (fun r hr => Tot.pure ?_)
 exact ⟨hr.1, hr.2.1, by show (r.1.length : Int) ≤ 9; rw [hr.2.2]; omega⟩
theorem J2 (c : Cur) (hc : Ek c) (n : Int) (hn : n ≤ 1000000000) : ∃ x c', As c n = some (x, c') ∧ Ek c' := by
 obtain ⟨x, c', e, _, _, _, k⟩ := C3 c hc n hn
 exact ⟨x == 0, c', by unfold As; simp only [e, Option.bind_some], k⟩
abbrev Stp := Int × Int × Int
abbrev Row := ByteArray × Stp × Bool × Int
abbrev Fil := Stp × Bool × List Int
def B6a (s : Stp) : Prop := 0 ≤ s.1 ∧ s.1 ≤ 1000000000 ∧ 0 ≤ s.2.1 ∧ s.2.1 ≤ 1000000 ∧ 0 ≤ s.2.2 ∧ s.2.2 ≤ 20
def Je : List ByteArray := [(⟨#[97]⟩ : ByteArray), (⟨#[98]⟩ : ByteArray), (⟨#[99, 97, 116, 47, 49]⟩ : ByteArray), (⟨#[99, 97, 116, 47, 50]⟩ : ByteArray), (⟨#[100, 111, 103]⟩ : ByteArray), (⟨#[120, 45, 49]⟩ : ByteArray)]
theorem Jm (c : Cur) (hc : Ek c) : ∃ x c', B7 c = some (x, c') ∧ x ∈ Je ∧ Ek c' := by
 obtain ⟨x, c', e, hx, k⟩ := Dda c hc Je (by decide) (by decide)
 exact ⟨x, c', by unfold B7; unfold Je at e; simp only [e, Option.bind_some], hx, k⟩
theorem Ica (c : Cur) (hc : Ek c) : ∃ x c', Ey c = some (x, c') ∧ B6a x ∧ Ek c' := by
 obtain ⟨x, c1, e1, hx, k1⟩ := Od c hc [0, 1, 2, 3, 1000000000] (by decide) (by decide)
 obtain ⟨y, c2, e2, y0, y1, _, k2⟩ := C3 c1 k1 3 (by decide)
 obtain ⟨z, c3, e3, z0, z1, _, k3⟩ := C3 c2 k2 3 (by decide)
 have y1 := y1 (by decide)
 have z1 := z1 (by decide)
 simp only [List.mem_cons, List.not_mem_nil, or_false] at hx
 exact ⟨(x, y, z), c3, by unfold Ey; simp only [e1, e2, e3, Option.bind_some], ⟨by show 0 ≤ x; omega, by show x ≤ _; omega, y0, by show y ≤ _; omega, z0, by show z ≤ _; omega⟩, k3⟩
def Mua (f : Fil) : Prop := B6a f.1 ∧ B4 f.2.2 ∧ (f.2.2.length : Int) ≤ 9 ∧ (f.2.1 = true → f.2.2 = [])
theorem Mv (c : Cur) (hc : Ek c) : Tot (fun k => Bc k c) (fun r => Mua r.1 ∧ Ek r.2) := by
 unfold Bc
 obtain ⟨s, c1, e1, hs, k1⟩ := Ica c hc
 obtain ⟨b, c2, e2, k2⟩ := J2 c1 k1 4 (by decide)
 refine Tot.bind (Tot.of (Q := fun r => r = (s, c1)) e1 rfl) ?_
 rintro r rfl
 refine Tot.bind (Tot.of (Q := fun r => r = (b, c2)) e2 rfl) ?_
 rintro r rfl
 refine Tot.ite (fun hb => ?_) (fun hb => Tot.pure ⟨⟨hs, by intro y hy; simp at hy, by show ((([] : List Int).length : Nat) : Int) ≤ 9; decide, fun _ => rfl⟩, k2⟩)
 refine Tot.bind (F1a c2 k2) (fun r hr => Tot.pure ⟨⟨hs, hr.2.1, hr.2.2, fun h => ?_⟩, hr.1⟩)
 simp only [Bool.not_eq_true'] at hb
 have h' : b = true := h
 rw [hb] at h'
 cases h'
def Oma (x : Row) : Prop := x.1 ∈ Je ∧ B6a x.2.1 ∧ 0 ≤ x.2.2.2 ∧ x.2.2.2 ≤ 9 ∧ (x.2.2.1 = true → x.2.2.2 = 0)
theorem Tc (c : Cur) (hc : Ek c) : Tot (fun k => F3 k c) (fun r => Oma r.1 ∧ Ek r.2) := by
 unfold F3
 obtain ⟨s, c1, e1, hs, k1⟩ := Jm c hc
 refine Tot.bind (Tot.of (Q := fun r => r = (s, c1)) e1 rfl) ?_
 rintro r rfl
 refine Tot.bind (Mv c1 k1) (fun r hr => ?_)
 obtain ⟨⟨h1, h2, h3, h4⟩, k2⟩ := hr
 unfold G5
 refine Tot.bind (Tot.pure (Q := fun y => y = (s, r.1.1, r.1.2.1, (r.1.2.2.length : Int))) rfl) ?_
 rintro y rfl
 refine Tot.pure ⟨⟨hs, h1, by show (0 : Int) ≤ (r.1.2.2.length : Int); omega, h3, fun h => ?_⟩, k2⟩
 show (r.1.2.2.length : Int) = 0
 rw [h4 h]
 rfl
end Go.Proofs.YtgocagaijgcnmaaGreat.Vf
end
