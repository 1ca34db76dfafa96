import Derived.Test.YtflokceoeiplcaaGreatMab
import Derived.Test.YtflokceoeiplcaaGreatMak
import Derived.Test.YtflokceoeiplcaaGreatProg
import Derived.KernelRfl
namespace Go.Proofs.YtflokceoeiplcaaGreat.Vf
open Go Go.Proofs
set_option linter.unusedVariables false
@[reducible] def t0:Ty := .sl 9 .s
@[reducible] def t1:Ty := .sl 4 .b
@[reducible] def t2:Ty := .ow 9 .s
@[reducible] def t3:Ty := .ow 4 .b
@[reducible] def t4:Ty := .sl 5 (.i .u8)
@[reducible] def t5:Ty := .ow 5 (.i .u8)
@[reducible] def t6:Ty := .sl 3 (.i .i64)
@[reducible] def t7:Ty := .ow 3 (.i .i64)
@[reducible] def t8:Ty := .pr .s (.i .u64)
@[reducible] def t9:Ty := .pr (.i .i64) (.i .i64)
@[reducible] def t10:Ty := .sl 96 t6
@[reducible] def t11:Ty := .pr .s t4
@[reducible] def t12:Ty := .pr .s t5
@[reducible] def t13:Ty := .sl 49 t11
@[reducible] def t14:Ty := .ow 49 t11
@[reducible] def t15:Ty := .ow 49 t12
@[reducible] def t16:Ty := .pr (.i .i64) t9
@[reducible] def t17:Ty := .pr (.i .i64) t10
@[reducible] def t18:Ty := .pr (.i .i64) (.ow 96 t7)
@[reducible] def t19:Ty := .pr (.i .i64) (.ow 96 t6)
@[reducible] def t20:Ty := .pr t4 (.pr (.i .i64) .b)
@[reducible] def t21:Ty := .pr t4 t9
@[reducible] def t22:Ty := .sl 67 t16
@[reducible] def t23:Ty := .ow 67 t16
@[reducible] def t24:Ty := .pr (.i .i64) (.pr (.i .i64) (.pr .b (.i .u8)))
@[reducible] def t25:Ty := .pr t16 (.pr .b t4)
@[reducible] def t26:Ty := .pr t16 (.pr .b t5)
@[reducible] def t27:Ty := .pr t13 t13
@[reducible] def t28:Ty := .pr .s (.pr t16 (.pr .b (.i .i64)))
@[reducible] def t29:Ty := .pr t14 t14
@[reducible] def t30:Ty := .pr t15 t15
@[reducible] def t31:Ty := .sl 57 t28
@[reducible] def t32:Ty := .ow 57 t28
@[reducible] def t33:Ty := .pr .s (.pr t25 .b)
@[reducible] def t34:Ty := .pr (.i .i64) (.pr (.i .i64) (.pr .s (.pr t4 (.pr (.i .i64) t6))))
@[reducible] def t35:Ty := .sl 59 t33
@[reducible] def t36:Ty := .ow 59 t33
@[reducible] def t37:Ty := .pr t32 t32
@[reducible] def t38:Ty := .pr (.i .i64) (.pr t27 (.pr t31 t31))
@[reducible] def t39:Ty := .pr (.i .i64) (.pr t29 t37)
@[reducible] def t40:Ty := .sl 47 t38
@[reducible] def t41:Ty := .ow 47 t38
@[reducible] def t42:Ty := .pr t41 (.pr t16 (.pr t36 t2))
@[reducible] def t43:Ty := .pr t22 (.pr t17 (.pr t40 (.pr t16 (.pr t35 t0))))
@[reducible] def t44:Ty := .pr t23 (.pr t17 t42)
@[reducible] def t45:Ty := .pr t23 (.pr t19 t42)
@[reducible] def t46:Ty := .pr t23 (.pr t17 (.pr t41 (.pr t16 (.pr t36 t0))))
def tiL:List (Nat×TI):=[(2,⟨(.i .i64),false,8,[]⟩),
 (3,⟨(.i .i64),false,8,[]⟩),
 (4,⟨.b,false,1,[]⟩),
 (5,⟨(.i .u8),false,1,[]⟩),
 (6,⟨(.i .u8),false,1,[]⟩),
 (7,⟨t24,true,24,[(0,1,false),(1,1,false),(2,1,false),(3,1,false)]⟩),
 (8,⟨t24,true,24,[(0,1,false),(1,1,false),(2,1,false),(3,1,false)]⟩),
 (9,⟨.s,false,16,[]⟩),
 (10,⟨.s,false,16,[]⟩),
 (11,⟨.s,false,16,[]⟩),
 (12,⟨(.i .u64),false,8,[]⟩),
 (13,⟨t8,true,24,[(0,1,false),(1,1,false)]⟩),
 (14,⟨t8,true,24,[(0,1,false),(1,1,false)]⟩),
 (21,⟨(.i .i32),false,4,[]⟩),
 (22,⟨t4,false,24,[]⟩),
 (24,⟨t22,false,24,[]⟩),
 (25,⟨t10,false,24,[]⟩),
 (26,⟨t17,true,32,[(0,1,false),(1,1,false)]⟩),
 (27,⟨t17,true,32,[(0,1,false),(1,1,false)]⟩),
 (28,⟨t40,false,24,[]⟩),
 (29,⟨t16,true,24,[(0,1,false),(1,1,false),(2,1,false)]⟩),
 (30,⟨t16,true,24,[(0,1,false),(1,1,false),(2,1,false)]⟩),
 (31,⟨t35,false,24,[]⟩),
 (32,⟨t0,false,24,[]⟩),
 (33,⟨t43,true,152,[(0,1,false),(1,2,true),(3,1,false),(4,3,true),(7,1,false),(8,1,false)]⟩),
 (34,⟨t43,true,152,[(0,1,false),(1,2,true),(3,1,false),(4,3,true),(7,1,false),(8,1,false)]⟩),
 (42,⟨t13,false,24,[]⟩),
 (43,⟨t27,true,48,[(0,1,false),(1,1,false)]⟩),
 (44,⟨t27,true,48,[(0,1,false),(1,1,false)]⟩),
 (45,⟨t31,false,24,[]⟩),
 (46,⟨t38,true,104,[(0,1,false),(1,2,true),(3,1,false),(4,1,false)]⟩),
 (47,⟨t38,true,104,[(0,1,false),(1,2,true),(3,1,false),(4,1,false)]⟩),
 (48,⟨t11,true,40,[(0,1,false),(1,1,false)]⟩),
 (49,⟨t11,true,40,[(0,1,false),(1,1,false)]⟩),
 (50,⟨t25,true,56,[(0,3,true),(3,1,false),(4,1,false)]⟩),
 (51,⟨t25,true,56,[(0,3,true),(3,1,false),(4,1,false)]⟩),
 (56,⟨t28,true,56,[(0,1,false),(1,3,true),(4,1,false),(5,1,false)]⟩),
 (57,⟨t28,true,56,[(0,1,false),(1,3,true),(4,1,false),(5,1,false)]⟩),
 (58,⟨t33,true,80,[(0,1,false),(1,5,true),(6,1,false)]⟩),
 (59,⟨t33,true,80,[(0,1,false),(1,5,true),(6,1,false)]⟩),
 (66,⟨t16,true,24,[(0,1,false),(1,1,false),(2,1,false)]⟩),
 (67,⟨t16,true,24,[(0,1,false),(1,1,false),(2,1,false)]⟩),
 (70,⟨t21,true,40,[(0,1,false),(1,1,false),(2,1,false)]⟩),
 (71,⟨t21,true,40,[(0,1,false),(1,1,false),(2,1,false)]⟩),
 (76,⟨t6,false,24,[]⟩),
 (77,⟨t34,true,88,[(0,1,false),(1,1,false),(2,1,false),(3,1,false),(4,1,false),(5,1,false)]⟩),
 (78,⟨t34,true,88,[(0,1,false),(1,1,false),(2,1,false),(3,1,false),(4,1,false),(5,1,false)]⟩),
 (85,⟨t20,true,40,[(0,1,false),(1,1,false),(2,1,false)]⟩),
 (86,⟨t20,true,40,[(0,1,false),(1,1,false),(2,1,false)]⟩),
 (95,⟨t6,true,24,[(0,1,false)]⟩),
 (96,⟨t6,true,24,[(0,1,false)]⟩),
 (120,⟨(.i .u64),false,8,[]⟩),
 (132,⟨t1,false,24,[]⟩),
 (147,⟨(.i .u32),false,4,[]⟩),
 (194,⟨(.i .u8),false,1,[]⟩),
 (195,⟨(.i .u8),false,1,[]⟩),
 (198,⟨(.i .i32),false,4,[]⟩),
 (199,⟨(.i .i32),false,4,[]⟩)]
def ti:TypeId→Option TI:=lk tiL
def Y1a:List Nat:=[29,30,56,57,66,67]
def eqs:TypeId→Bool:=fun T=>Y1a.contains T
theorem sK:Wr Tryz.prog ti eqs∧∀ T,Rz Tryz.prog ti T=true:=Aqb (P:=Tryz.prog) (ti:=ti) (eqs:=eqs) (keys:=tiL.map Prod.fst) (Y1a:=Y1a) Uqa (by kernel_rfl) (by kernel_rfl) rfl (by kernel_rfl)
theorem sO:Wr Tryz.prog ti eqs:=sK.1
theorem Blb:∀ T t,ti T=some t→TOk Tryz.prog T t:=sO.tok
theorem Bmb:∀ T,Rz Tryz.prog ti T=true:=sK.2
def M2.e (k:Nat):Ent:=⟨1,[(.val false t4)],[(.one,.b)],fun x=>M2 x⟩
def M2.d:Fd := { nt:=6,nv:=1,nm:=[0,1],res:=[2] }
theorem M2.s (k:Nat):A4 Tryz.prog 4 (M2.e k):=mkS (D:=M2.d) (k:=k) sO [] Tryz.func4 trivial trivial (by kernel_rfl) (by kernel_rfl) (fun x=>by kernel_rfl)
def J6.e (k:Nat):Ent:=⟨1,[(.val false t4)],[(.ptr,t21)],fun x=>J6 k x⟩
def H5.p:LF:=⟨⟨[],[(0,t4),(3,(.i .i64)),(4,(.i .i64))]⟩,[((.exit 0),⟨[],[(0,t4),(3,(.i .i64))]⟩)],fun k x=>H5 k x.1 x.2.1 x.2.2⟩
def J6.d:Fd := { nt:=32,nv:=1,nm:=[0,1,3,4],res:=[2],ls:=[(3,H5.p)] }
theorem H5.s:LK Tryz.prog Tryz.f13 J6.d 3 H5.p:=mkL sO [] (by kernel_rfl) (fun _=>trivial) trivial (by kernel_rfl) (fun _=>rfl) (fun k x=>by kernel_rfl)
theorem J6.s (k:Nat):A4 Tryz.prog 13 (J6.e k):=mkS (D:=J6.d) (k:=k) sO [3] Tryz.func13 trivial ⟨H5.s,trivial⟩ (by kernel_rfl) (by kernel_rfl) (fun x=>by kernel_rfl)
def Eh.e (k:Nat):Ent:=⟨1,[(.ptr t21 t21)],[(.one,(.i .i64))],fun x=>Eh x⟩
def Eh.d:Fd := { nt:=58,nv:=1,nm:=[0,1,3],res:=[2] }
theorem Eh.s (k:Nat):A4 Tryz.prog 63 (Eh.e k):=mkS (D:=Eh.d) (k:=k) sO [] Tryz.func63 trivial trivial (by kernel_rfl) (by kernel_rfl) (fun x=>by kernel_rfl)
def A9.e (k:Nat):Ent:=⟨2,[(.ptr t21 t21),(.val false (.i .i64))],[(.one,(.i .i64))],fun x=>A9 x.1 x.2⟩
def A9.d:Fd := { nt:=31,nv:=2,nm:=[0,1,2,3,5,6,7],res:=[4],cs:=fun k=>[(63,Eh.e k)] }
theorem A9.s (k:Nat):A4 Tryz.prog 34 (A9.e k):=mkS (D:=A9.d) (k:=k) sO [] Tryz.func34 ⟨Eh.s k,trivial⟩ trivial (by kernel_rfl) (by kernel_rfl) (fun x=>by kernel_rfl)
def Be.e (k:Nat):Ent:=⟨2,[(.ptr t21 t21),(.val false t6)],[(.one,(.i .i64))],fun x=>Be x.1 x.2⟩
def Be.d:Fd := { nt:=12,nv:=2,nm:=[0,1,2,3],res:=[4],cs:=fun k=>[(34,A9.e k)] }
theorem Be.s (k:Nat):A4 Tryz.prog 61 (Be.e k):=mkS (D:=Be.d) (k:=k) sO [] Tryz.func61 ⟨A9.s k,trivial⟩ trivial (by kernel_rfl) (by kernel_rfl) (fun x=>by kernel_rfl)
def Ff.e (k:Nat):Ent:=⟨1,[(.ptr t21 t21)],[(.one,t23)],fun x=>Ff k x⟩
def Fs.p:LF:=⟨⟨[(0,(.bp 0 0 0)),(1999,(.hd 3))],[(3,t23),(4,(.i .i64)),(5,(.i .i64)),(6,(.i .i64)),(1000,t21)]⟩,[((.exit 0),⟨[(1999,(.hd 3))],[(3,t23),(1000,t21)]⟩)],fun k x=>Fs k x.1 x.2.1 x.2.2.1 x.2.2.2.1 x.2.2.2.2⟩
def Ff.d:Fd := { nt:=35,nv:=1,nm:=[0,1,3,4,5,6],res:=[2],cs:=fun k=>[(34,A9.e k),(61,Be.e k)],ls:=[(5,Fs.p)],rf:=true }
theorem Ff.a (k:Nat):Li Tryz.prog (Ff.d.cs k):=⟨A9.s k,Be.s k,trivial⟩
theorem Fs.s:LK Tryz.prog Tryz.f60 Ff.d 5 Fs.p:=mkL sO [] (by kernel_rfl) Ff.a trivial (by kernel_rfl) (fun _=>rfl) (fun k x=>by kernel_rfl)
theorem Ff.s (k:Nat):A4 Tryz.prog 60 (Ff.e k):=mkS (D:=Ff.d) (k:=k) sO [5] Tryz.func60 (Ff.a k) ⟨Fs.s,trivial⟩ (by kernel_rfl) (by kernel_rfl) (fun x=>by kernel_rfl)
def A8.e (k:Nat):Ent:=⟨3,[(.val false (.i .i64)),(.val false (.i .i64)),(.val false (.i .i64))],[(.one,.b)],fun x=>A8 x.1 x.2.1 x.2.2⟩
def A8.d:Fd := { nt:=15,nv:=3,nm:=[0,1,2,3,4,5],res:=[6] }
theorem A8.s (k:Nat):A4 Tryz.prog 65 (A8.e k):=mkS (D:=A8.d) (k:=k) sO [] Tryz.func65 trivial trivial (by kernel_rfl) (by kernel_rfl) (fun x=>by kernel_rfl)
def Bb.e (k:Nat):Ent:=⟨1,[(.val false t22)],[(.one,.b)],fun x=>Bb k x⟩
def Ez.p:LF:=⟨⟨[],[(0,t22),(3,(.i .i64))]⟩,[(.ret,⟨[],[(2,.b)]⟩),((.exit 0),⟨[],[(0,t22)]⟩)],fun k x=>Ez k x.1 x.2⟩
def Bb.d:Fd := { nt:=49,nv:=1,nm:=[0,1,3,4],res:=[2],cs:=fun k=>[(65,A8.e k)],ls:=[(2,Ez.p)],rf:=true }
theorem Bb.a (k:Nat):Li Tryz.prog (Bb.d.cs k):=⟨A8.s k,trivial⟩
theorem Ez.s:LK Tryz.prog Tryz.f72 Bb.d 2 Ez.p:=mkL sO [] (by kernel_rfl) Bb.a trivial (by kernel_rfl) (fun _=>rfl) (fun k x=>by kernel_rfl)
theorem Bb.s (k:Nat):A4 Tryz.prog 72 (Bb.e k):=mkS (D:=Bb.d) (k:=k) sO [2] Tryz.func72 (Bb.a k) ⟨Ez.s,trivial⟩ (by kernel_rfl) (by kernel_rfl) (fun x=>by kernel_rfl)
def Bv.e (k:Nat):Ent:=⟨2,[(.val false t6),(.val false (.i .i64))],[(.one,.b)],fun x=>Bv k x.1 x.2⟩
def H6.p:LF:=⟨⟨[],[(0,t6),(1,(.i .i64)),(5,(.i .i64))]⟩,[(.ret,⟨[],[(4,.b)]⟩),((.exit 0),⟨[],[]⟩)],fun k x=>H6 k x.1 x.2.1 x.2.2⟩
def Bv.d:Fd := { nt:=18,nv:=2,nm:=[0,1,2,3,5],res:=[4],ls:=[(2,H6.p)],rf:=true }
theorem H6.s:LK Tryz.prog Tryz.f102 Bv.d 2 H6.p:=mkL sO [] (by kernel_rfl) (fun _=>trivial) trivial (by kernel_rfl) (fun _=>rfl) (fun k x=>by kernel_rfl)
theorem Bv.s (k:Nat):A4 Tryz.prog 102 (Bv.e k):=mkS (D:=Bv.d) (k:=k) sO [2] Tryz.func102 trivial ⟨H6.s,trivial⟩ (by kernel_rfl) (by kernel_rfl) (fun x=>by kernel_rfl)
def Da.e (k:Nat):Ent:=⟨2,[(.val false t22),(.val false (.i .i64))],[(.agg,t16),(.one,.b)],fun x=>Da k x.1 x.2⟩
def H7.p:LF:=⟨⟨[(4,(.bp 4 0 0)),(5999,(.hd 3))],[(0,t22),(1,(.i .i64)),(6,(.i .i64)),(5000,t16)]⟩,[(.ret,⟨[(4,(.bp 4 0 0)),(5999,(.hd 3))],[(5,.b),(5000,t16)]⟩),((.exit 0),⟨[(4,(.bp 4 0 0)),(5999,(.hd 3))],[(5000,t16)]⟩)],fun k x=>H7 k x.1 x.2.1 x.2.2.1 x.2.2.2⟩
def Da.d:Fd := { nt:=25,nv:=2,nm:=[0,1,2,3,6],res:=[5],ls:=[(2,H7.p)],rf:=true }
theorem H7.s:LK Tryz.prog Tryz.f74 Da.d 2 H7.p:=mkL sO [] (by kernel_rfl) (fun _=>trivial) trivial (by kernel_rfl) (fun _=>rfl) (fun k x=>by kernel_rfl)
theorem Da.s (k:Nat):A4 Tryz.prog 74 (Da.e k):=mkS (D:=Da.d) (k:=k) sO [2] Tryz.func74 trivial ⟨H7.s,trivial⟩ (by kernel_rfl) (by kernel_rfl) (fun x=>by kernel_rfl)
def C8.e (k:Nat):Ent:=⟨2,[(.val false t6),(.val false t22)],[(.one,t7)],fun x=>C8 k x.1 x.2⟩
def Cp.p:LF:=⟨⟨[],[(0,t6),(1,t22),(5,t7),(6,(.i .i64))]⟩,[((.exit 0),⟨[],[(5,t7)]⟩)],fun k x=>Cp k x.1 x.2.1 x.2.2.1 x.2.2.2⟩
def C8.d:Fd := { nt:=39,nv:=2,nm:=[0,1,2,3,5,6,7,8],res:=[4],cs:=fun k=>[(74,Da.e k),(102,Bv.e k)],ls:=[(3,Cp.p)],rf:=true }
theorem C8.a (k:Nat):Li Tryz.prog (C8.d.cs k):=⟨Da.s k,Bv.s k,trivial⟩
theorem Cp.s:LK Tryz.prog Tryz.f143 C8.d 3 Cp.p:=mkL sO [] (by kernel_rfl) C8.a trivial (by kernel_rfl) (fun _=>rfl) (fun k x=>by kernel_rfl)
theorem C8.s (k:Nat):A4 Tryz.prog 143 (C8.e k):=mkS (D:=C8.d) (k:=k) sO [3] Tryz.func143 (C8.a k) ⟨Cp.s,trivial⟩ (by kernel_rfl) (by kernel_rfl) (fun x=>by kernel_rfl)
def C3.e (k:Nat):Ent:=⟨2,[(.val true t17),(.val false (.i .i64))],[(.one,(.i .i64))],fun x=>C3 k x.1 x.2⟩
def F3.p:LF:=⟨⟨[(2,(.bp 2 0 0)),(3999,(.hd 2))],[(1,(.i .i64)),(5,(.i .i64)),(6,(.i .i64)),(7,(.i .i64)),(3000,t17)]⟩,[((.exit 2),⟨[(2,(.bp 2 0 0)),(3999,(.hd 2))],[(1,(.i .i64)),(5,(.i .i64)),(6,(.i .i64)),(3000,t17)]⟩)],fun k x=>F3 k x.1 x.2.1 x.2.2.1 x.2.2.2.1 x.2.2.2.2⟩
def Ft.p:LF:=⟨⟨[(2,(.bp 2 0 0)),(3999,(.hd 2))],[(1,(.i .i64)),(5,(.i .i64)),(6,(.i .i64)),(3000,t17)]⟩,[((.exit 0),⟨[],[(5,(.i .i64))]⟩)],fun k x=>Ft k x.1 x.2.1 x.2.2.1 x.2.2.2⟩
def C3.d:Fd := { nt:=40,nv:=2,nm:=[0,1,2,3,5,6,7],res:=[4],ls:=[(6,F3.p),(3,Ft.p)],rf:=true }
theorem F3.s:LK Tryz.prog Tryz.f144 C3.d 6 F3.p:=mkL sO [] (by kernel_rfl) (fun _=>trivial) trivial (by kernel_rfl) (fun _=>rfl) (fun k x=>by kernel_rfl)
theorem Ft.s:LK Tryz.prog Tryz.f144 C3.d 3 Ft.p:=mkL sO [6] (by kernel_rfl) (fun _=>trivial) ⟨F3.s,trivial⟩ (by kernel_rfl) (fun _=>rfl) (fun k x=>by kernel_rfl)
theorem C3.s (k:Nat):A4 Tryz.prog 144 (C3.e k):=mkS (D:=C3.d) (k:=k) sO [3] Tryz.func144 trivial ⟨Ft.s,trivial⟩ (by kernel_rfl) (by kernel_rfl) (fun x=>by kernel_rfl)
def Gw.e (k:Nat):Ent:=⟨3,[(.val true t17),(.val true t6),(.val false t22)],[(.one,(.i .i64))],fun x=>Gw k x.1 x.2.1 x.2.2⟩
def B8.p:LF:=⟨⟨[(3,(.bp 3 0 0)),(4,(.bp 4 0 0)),(4999,(.hd 2)),(5999,(.hd 1))],[(2,t22),(7,t7),(8,(.i .i64)),(9,.b),(10,(.i .i64)),(4000,t17),(5000,t6)]⟩,[((.exit 0),⟨[],[(2,t22),(8,(.i .i64))]⟩)],fun k x=>B8 k x.1 x.2.1 x.2.2.1 x.2.2.2.1 x.2.2.2.2.1 x.2.2.2.2.2.1 x.2.2.2.2.2.2⟩
def Gw.d:Fd := { nt:=88,nv:=3,nm:=[0,1,2,3,4,5,7,8,9,10,11,12],res:=[6],cs:=fun k=>[(72,Bb.e k),(102,Bv.e k),(143,C8.e k),(144,C3.e k)],ls:=[(5,B8.p)],rf:=true }
theorem Gw.a (k:Nat):Li Tryz.prog (Gw.d.cs k):=⟨Bb.s k,Bv.s k,C8.s k,C3.s k,trivial⟩
theorem B8.s:LK Tryz.prog Tryz.f114 Gw.d 5 B8.p:=mkL sO [] (by kernel_rfl) Gw.a trivial (by kernel_rfl) (fun _=>rfl) (fun k x=>by kernel_rfl)
theorem Gw.s (k:Nat):A4 Tryz.prog 114 (Gw.e k):=mkS (D:=Gw.d) (k:=k) sO [5] Tryz.func114 (Gw.a k) ⟨B8.s,trivial⟩ (by kernel_rfl) (by kernel_rfl) (fun x=>by kernel_rfl)
def Fq.e (k:Nat):Ent:=⟨3,[(.val false t22),(.val false (.i .i64)),(.val false (.i .i64))],[(.agg,t18),(.one,.b)],fun x=>Fq k x.1 x.2.1 x.2.2⟩
def H8.p:LF:=⟨⟨[(6,(.bp 6 0 0)),(8,(.bp 8 0 0)),(7999,(.hd 2)),(9999,(.hd 2))],[(0,t22),(1,(.i .i64)),(2,(.i .i64)),(9,(.i .i64)),(10,(.i .i64)),(7000,t19),(9000,t18)]⟩,[((.exit 2),⟨[(6,(.bp 6 0 0)),(8,(.bp 8 0 0)),(7999,(.hd 2)),(9999,(.hd 2))],[(0,t22),(1,(.i .i64)),(2,(.i .i64)),(9,(.i .i64)),(7000,t19),(9000,t18)]⟩)],fun k x=>H8 k x.1 x.2.1 x.2.2.1 x.2.2.2.1 x.2.2.2.2.1 x.2.2.2.2.2.1 x.2.2.2.2.2.2⟩
def H9.p:LF:=⟨⟨[(6,(.bp 6 0 0)),(8,(.bp 8 0 0)),(7999,(.hd 2)),(9999,(.hd 2))],[(0,t22),(1,(.i .i64)),(2,(.i .i64)),(9,(.i .i64)),(7000,t19),(9000,t18)]⟩,[((.exit 0),⟨[(6,(.bp 6 0 0)),(8,(.bp 8 0 0)),(7999,(.hd 2)),(9999,(.hd 2))],[(7000,t19),(9000,t18)]⟩)],fun k x=>H9 k x.1 x.2.1 x.2.2.1 x.2.2.2.1 x.2.2.2.2.1 x.2.2.2.2.2⟩
def Fq.d:Fd := { nt:=73,nv:=3,nm:=[0,1,2,3,4,5,8,9,10,11],res:=[7],cs:=fun k=>[(65,A8.e k),(72,Bb.e k),(114,Gw.e k)],ls:=[(9,H8.p),(5,H9.p)],hint:=[(42,t7),(43,t7)],mv:=[72],gh:=[(12,[.od 54 3001]),(1000010,[.cl 9001])],rf:=true }
theorem Fq.a (k:Nat):Li Tryz.prog (Fq.d.cs k):=⟨A8.s k,Bb.s k,Gw.s k,trivial⟩
theorem H8.s:LK Tryz.prog Tryz.f88 Fq.d 9 H8.p:=mkL sO [] (by kernel_rfl) Fq.a trivial (by kernel_rfl) (fun _=>rfl) (fun k x=>by kernel_rfl)
theorem H9.s:LK Tryz.prog Tryz.f88 Fq.d 5 H9.p:=mkL sO [9] (by kernel_rfl) Fq.a ⟨H8.s,trivial⟩ (by kernel_rfl) (fun _=>rfl) (fun k x=>by kernel_rfl)
theorem Fq.s (k:Nat):A4 Tryz.prog 88 (Fq.e k):=mkS (D:=Fq.d) (k:=k) sO [5] Tryz.func88 (Fq.a k) ⟨H9.s,trivial⟩ (by kernel_rfl) (by kernel_rfl) (fun x=>by kernel_rfl)
def Hy.e (k:Nat):Ent:=⟨1,[(.val false (.i .i64))],[(.agg,t39)],fun x=>Hy x⟩
def Hy.d:Fd := { nt:=9,nv:=1,nm:=[0,1],res:=[],cs:=fun k=>[(65,A8.e k)] }
theorem Hy.s (k:Nat):A4 Tryz.prog 89 (Hy.e k):=mkS (D:=Hy.d) (k:=k) sO [] Tryz.func89 ⟨A8.s k,trivial⟩ trivial (by kernel_rfl) (by kernel_rfl) (fun x=>by kernel_rfl)
def Br.e (k:Nat):Ent:=⟨3,[(.val false t22),(.val false (.i .i64)),(.val false (.i .i64))],[(.agg,t44)],fun x=>Br k x.1 x.2.1 x.2.2⟩
def Df.p:LF:=⟨⟨[(6,(.bp 6 0 0)),(9,(.bp 9 0 0)),(7999,(.hd 9)),(10999,(.hd 9))],[(0,t22),(10,(.i .i64)),(7000,t45),(10000,t44)]⟩,[((.exit 0),⟨[(6,(.bp 6 0 0)),(9,(.bp 9 0 0)),(7999,(.hd 9)),(10999,(.hd 9))],[(7000,t45),(10000,t44)]⟩)],fun k x=>Df k x.1 x.2.1 x.2.2.1 x.2.2.2⟩
def Br.d:Fd := { nt:=44,nv:=3,nm:=[0,1,2,3,4,5,7,8,9,10],res:=[],cs:=fun k=>[(88,Fq.e k),(89,Hy.e k)],ls:=[(6,Df.p)],mv:=[43],rf:=true }
theorem Br.a (k:Nat):Li Tryz.prog (Br.d.cs k):=⟨Fq.s k,Hy.s k,trivial⟩
theorem Df.s:LK Tryz.prog Tryz.f62 Br.d 6 Df.p:=mkL sO [] (by kernel_rfl) Br.a trivial (by kernel_rfl) (fun _=>rfl) (fun k x=>by kernel_rfl)
theorem Br.s (k:Nat):A4 Tryz.prog 62 (Br.e k):=mkS (D:=Br.d) (k:=k) sO [6] Tryz.func62 (Br.a k) ⟨Df.s,trivial⟩ (by kernel_rfl) (by kernel_rfl) (fun x=>by kernel_rfl)
def Ir.e (k:Nat):Ent:=⟨1,[(.ptr t21 t21)],[(.agg,t44)],fun x=>Ir k x⟩
def Ir.d:Fd := { nt:=22,nv:=1,nm:=[0,1,3,4],res:=[],cs:=fun k=>[(60,Ff.e k),(61,Be.e k),(62,Br.e k)],rf:=true }
theorem Ir.s (k:Nat):A4 Tryz.prog 33 (Ir.e k):=mkS (D:=Ir.d) (k:=k) sO [] Tryz.func33 ⟨Ff.s k,Be.s k,Br.s k,trivial⟩ trivial (by kernel_rfl) (by kernel_rfl) (fun x=>by kernel_rfl)
def Af.e (k:Nat):Ent:=⟨1,[(.val false .s)],[(.one,.b)],fun x=>Af k x⟩
def Cf.p:LF:=⟨⟨[],[(0,.s),(3,(.i .i64))]⟩,[(.ret,⟨[],[(2,.b)]⟩),((.exit 0),⟨[],[(0,.s)]⟩)],fun k x=>Cf k x.1 x.2⟩
def Af.d:Fd := { nt:=38,nv:=1,nm:=[0,1,3,4],res:=[2],cs:=fun k=>[(65,A8.e k)],ls:=[(2,Cf.p)] }
theorem Af.a (k:Nat):Li Tryz.prog (Af.d.cs k):=⟨A8.s k,trivial⟩
theorem Cf.s:LK Tryz.prog Tryz.f40 Af.d 2 Cf.p:=mkL sO [] (by kernel_rfl) Af.a trivial (by kernel_rfl) (fun _=>rfl) (fun k x=>by kernel_rfl)
theorem Af.s (k:Nat):A4 Tryz.prog 40 (Af.e k):=mkS (D:=Af.d) (k:=k) sO [2] Tryz.func40 (Af.a k) ⟨Cf.s,trivial⟩ (by kernel_rfl) (by kernel_rfl) (fun x=>by kernel_rfl)
def Bg.e (k:Nat):Ent:=⟨1,[(.val true t16)],[(.one,.b)],fun x=>Bg x⟩
def Bg.d:Fd := { nt:=16,nv:=1,nm:=[0,1],res:=[2],cs:=fun k=>[(65,A8.e k)] }
theorem Bg.s (k:Nat):A4 Tryz.prog 39 (Bg.e k):=mkS (D:=Bg.d) (k:=k) sO [] Tryz.func39 ⟨A8.s k,trivial⟩ trivial (by kernel_rfl) (by kernel_rfl) (fun x=>by kernel_rfl)
def Fu.e (k:Nat):Ent:=⟨3,[(.val true t16),(.val false (.i .i64)),(.val false (.i .i64))],[(.agg,t16)],fun x=>Fu x.1 x.2.1 x.2.2⟩
def Fu.d:Fd := { nt:=27,nv:=3,nm:=[0,1,2,3,4,5,7],res:=[],cs:=fun k=>[(39,Bg.e k)],rf:=true }
theorem Fu.s (k:Nat):A4 Tryz.prog 90 (Fu.e k):=mkS (D:=Fu.d) (k:=k) sO [] Tryz.func90 ⟨Bg.s k,trivial⟩ trivial (by kernel_rfl) (by kernel_rfl) (fun x=>by kernel_rfl)
def Ay.e (k:Nat):Ent:=⟨2,[(.val true t43),(.val false t6)],[(.one,t7)],fun x=>Ay k x.1 x.2⟩
def Bj.p:LF:=⟨⟨[(2,(.bp 2 0 0)),(3999,(.hd 9))],[(1,t6),(5,t7),(6,(.i .i64)),(7,(.i .i64)),(3000,t43)]⟩,[((.exit 2),⟨[(2,(.bp 2 0 0)),(3999,(.hd 9))],[(1,t6),(5,t7),(6,(.i .i64)),(3000,t43)]⟩)],fun k x=>Bj k x.1 x.2.1 x.2.2.1 x.2.2.2.1 x.2.2.2.2⟩
def Cq.p:LF:=⟨⟨[(2,(.bp 2 0 0)),(3999,(.hd 9))],[(1,t6),(5,t7),(6,(.i .i64)),(3000,t43)]⟩,[((.exit 0),⟨[],[(5,t7)]⟩)],fun k x=>Cq k x.1 x.2.1 x.2.2.1 x.2.2.2⟩
def Ay.d:Fd := { nt:=38,nv:=2,nm:=[0,1,2,3,5,6,7],res:=[4],ls:=[(6,Bj.p),(3,Cq.p)],rf:=true }
theorem Bj.s:LK Tryz.prog Tryz.f121 Ay.d 6 Bj.p:=mkL sO [] (by kernel_rfl) (fun _=>trivial) trivial (by kernel_rfl) (fun _=>rfl) (fun k x=>by kernel_rfl)
theorem Cq.s:LK Tryz.prog Tryz.f121 Ay.d 3 Cq.p:=mkL sO [6] (by kernel_rfl) (fun _=>trivial) ⟨Bj.s,trivial⟩ (by kernel_rfl) (fun _=>rfl) (fun k x=>by kernel_rfl)
theorem Ay.s (k:Nat):A4 Tryz.prog 121 (Ay.e k):=mkS (D:=Ay.d) (k:=k) sO [3] Tryz.func121 trivial ⟨Cq.s,trivial⟩ (by kernel_rfl) (by kernel_rfl) (fun x=>by kernel_rfl)
def Jt.e (k:Nat):Ent:=⟨1,[(.val false .s)],[(.one,(.i .i64))],fun x=>Jt k x⟩
def Hz.p:LF:=⟨⟨[],[(0,.s),(3,(.i .i64)),(4,(.i .i64))]⟩,[((.exit 0),⟨[],[(3,(.i .i64))]⟩)],fun k x=>Hz k x.1 x.2.1 x.2.2⟩
def Jt.d:Fd := { nt:=20,nv:=1,nm:=[0,1,3,4],res:=[2],ls:=[(3,Hz.p)],rf:=true }
theorem Hz.s:LK Tryz.prog Tryz.f154 Jt.d 3 Hz.p:=mkL sO [] (by kernel_rfl) (fun _=>trivial) trivial (by kernel_rfl) (fun _=>rfl) (fun k x=>by kernel_rfl)
theorem Jt.s (k:Nat):A4 Tryz.prog 154 (Jt.e k):=mkS (D:=Jt.d) (k:=k) sO [3] Tryz.func154 trivial ⟨Hz.s,trivial⟩ (by kernel_rfl) (by kernel_rfl) (fun x=>by kernel_rfl)
def Jc.e (k:Nat):Ent:=⟨2,[(.val false .s),(.val false (.i .i64))],[(.one,(.i .i64))],fun x=>Jc k x.1 x.2⟩
def Jc.d:Fd := { nt:=11,nv:=2,nm:=[0,1,2,3],res:=[4],cs:=fun k=>[(154,Jt.e k)],rf:=true }
theorem Jc.s (k:Nat):A4 Tryz.prog 147 (Jc.e k):=mkS (D:=Jc.d) (k:=k) sO [] Tryz.func147 ⟨Jt.s k,trivial⟩ trivial (by kernel_rfl) (by kernel_rfl) (fun x=>by kernel_rfl)
def Az.e (k:Nat):Ent:=⟨2,[(.val true t17),(.val false .s)],[(.one,t7)],fun x=>Az k x.1 x.2⟩
def Az.d:Fd := { nt:=22,nv:=2,nm:=[0,1,2,3],res:=[4],cs:=fun k=>[(147,Jc.e k)],rf:=true }
theorem Az.s (k:Nat):A4 Tryz.prog 122 (Az.e k):=mkS (D:=Az.d) (k:=k) sO [] Tryz.func122 ⟨Jc.s k,trivial⟩ trivial (by kernel_rfl) (by kernel_rfl) (fun x=>by kernel_rfl)
def Bs.e (k:Nat):Ent:=⟨3,[(.val true t17),(.val false t22),(.val false .s)],[(.one,t7)],fun x=>Bs k x.1 x.2.1 x.2.2⟩
def Bl.p:LF:=⟨⟨[],[(1,t22),(7,t7),(8,t7),(9,t7),(10,(.i .i64)),(11,(.i .i64))]⟩,[((.exit 2),⟨[],[(1,t22),(7,t7),(8,t7),(9,t7),(10,(.i .i64))]⟩)],fun k x=>Bl k x.1 x.2.1 x.2.2.1 x.2.2.2.1 x.2.2.2.2.1 x.2.2.2.2.2⟩
def Dg.p:LF:=⟨⟨[],[(1,t22),(7,t7),(8,t7),(9,t7),(10,(.i .i64))]⟩,[((.exit 0),⟨[],[(9,t7)]⟩)],fun k x=>Dg k x.1 x.2.1 x.2.2.1 x.2.2.2.1 x.2.2.2.2⟩
def Bs.d:Fd := { nt:=58,nv:=3,nm:=[0,1,2,3,4,5,7,8,9,10,11],res:=[6],cs:=fun k=>[(102,Bv.e k),(122,Az.e k),(143,C8.e k)],ls:=[(8,Bl.p),(5,Dg.p)],rf:=true }
theorem Bs.a (k:Nat):Li Tryz.prog (Bs.d.cs k):=⟨Bv.s k,Az.s k,C8.s k,trivial⟩
theorem Bl.s:LK Tryz.prog Tryz.f145 Bs.d 8 Bl.p:=mkL sO [] (by kernel_rfl) Bs.a trivial (by kernel_rfl) (fun _=>rfl) (fun k x=>by kernel_rfl)
theorem Dg.s:LK Tryz.prog Tryz.f145 Bs.d 5 Dg.p:=mkL sO [8] (by kernel_rfl) Bs.a ⟨Bl.s,trivial⟩ (by kernel_rfl) (fun _=>rfl) (fun k x=>by kernel_rfl)
theorem Bs.s (k:Nat):A4 Tryz.prog 145 (Bs.e k):=mkS (D:=Bs.d) (k:=k) sO [5] Tryz.func145 (Bs.a k) ⟨Dg.s,trivial⟩ (by kernel_rfl) (by kernel_rfl) (fun x=>by kernel_rfl)
def Dh.e (k:Nat):Ent:=⟨2,[(.val true t43),(.val false .s)],[(.one,t7)],fun x=>Dh k x.1 x.2⟩
def Dh.d:Fd := { nt:=20,nv:=2,nm:=[0,1,2,3],res:=[4],cs:=fun k=>[(121,Ay.e k),(122,Az.e k),(145,Bs.e k)],rf:=true }
theorem Dh.s (k:Nat):A4 Tryz.prog 115 (Dh.e k):=mkS (D:=Dh.d) (k:=k) sO [] Tryz.func115 ⟨Ay.s k,Az.s k,Bs.s k,trivial⟩ trivial (by kernel_rfl) (by kernel_rfl) (fun x=>by kernel_rfl)
def Bf.e (k:Nat):Ent:=⟨2,[(.val false t6),(.val false (.i .i64))],[(.one,(.i .i64))],fun x=>Bf x.1 x.2⟩
def Bf.d:Fd := { nt:=21,nv:=2,nm:=[0,1,2,3],res:=[4],cs:=fun k=>[(65,A8.e k)],rf:=true }
theorem Bf.s (k:Nat):A4 Tryz.prog 116 (Bf.e k):=mkS (D:=Bf.d) (k:=k) sO [] Tryz.func116 ⟨A8.s k,trivial⟩ trivial (by kernel_rfl) (by kernel_rfl) (fun x=>by kernel_rfl)
def Id.e (k:Nat):Ent:=⟨2,[(.val false .s),(.val true t25)],[(.agg,t28)],fun x=>Id x.1 x.2⟩
def Id.d:Fd := { nt:=14,nv:=2,nm:=[0,1,2,3],res:=[] }
theorem Id.s (k:Nat):A4 Tryz.prog 78 (Id.e k):=mkS (D:=Id.d) (k:=k) sO [] Tryz.func78 trivial trivial (by kernel_rfl) (by kernel_rfl) (fun x=>by kernel_rfl)
def Cr.e (k:Nat):Ent:=⟨1,[(.val true t25)],[(.one,.b)],fun x=>Cr x⟩
def Cr.d:Fd := { nt:=23,nv:=1,nm:=[0,1],res:=[2],cs:=fun k=>[(39,Bg.e k)] }
theorem Cr.s (k:Nat):A4 Tryz.prog 41 (Cr.e k):=mkS (D:=Cr.d) (k:=k) sO [] Tryz.func41 ⟨Bg.s k,trivial⟩ trivial (by kernel_rfl) (by kernel_rfl) (fun x=>by kernel_rfl)
def Ar.e (k:Nat):Ent:=⟨2,[(.val true t16),(.val true t16)],[(.one,.b)],fun x=>Ar x.1 x.2⟩
def Ar.d:Fd := { nt:=32,nv:=2,nm:=[0,1,2,3],res:=[4] }
theorem Ar.s (k:Nat):A4 Tryz.prog 42 (Ar.e k):=mkS (D:=Ar.d) (k:=k) sO [] Tryz.func42 trivial trivial (by kernel_rfl) (by kernel_rfl) (fun x=>by kernel_rfl)
def Ie.e (k:Nat):Ent:=⟨2,[(.val true t25),(.val true t25)],[(.one,.b)],fun x=>Ie x.1 x.2⟩
def Ie.d:Fd := { nt:=10,nv:=2,nm:=[0,1,2,3],res:=[4],cs:=fun k=>[(42,Ar.e k)] }
theorem Ie.s (k:Nat):A4 Tryz.prog 80 (Ie.e k):=mkS (D:=Ie.d) (k:=k) sO [] Tryz.func80 ⟨Ar.s k,trivial⟩ trivial (by kernel_rfl) (by kernel_rfl) (fun x=>by kernel_rfl)
def Ei.e (k:Nat):Ent:=⟨1,[(.val false t13)],[(.one,.b)],fun x=>Ei k x⟩
def F4.p:LF:=⟨⟨[],[(0,t13),(3,(.i .i64))]⟩,[(.ret,⟨[],[(2,.b)]⟩),((.exit 0),⟨[],[(0,t13)]⟩)],fun k x=>F4 k x.1 x.2⟩
def Ei.d:Fd := { nt:=47,nv:=1,nm:=[0,1,3],res:=[2],cs:=fun k=>[(40,Af.e k)],ls:=[(2,F4.p)] }
theorem Ei.a (k:Nat):Li Tryz.prog (Ei.d.cs k):=⟨Af.s k,trivial⟩
theorem F4.s:LK Tryz.prog Tryz.f137 Ei.d 2 F4.p:=mkL sO [] (by kernel_rfl) Ei.a trivial (by kernel_rfl) (fun _=>rfl) (fun k x=>by kernel_rfl)
theorem Ei.s (k:Nat):A4 Tryz.prog 137 (Ei.e k):=mkS (D:=Ei.d) (k:=k) sO [2] Tryz.func137 (Ei.a k) ⟨F4.s,trivial⟩ (by kernel_rfl) (by kernel_rfl) (fun x=>by kernel_rfl)
def B3.e (k:Nat):Ent:=⟨1,[(.val true t27)],[(.one,.b)],fun x=>B3 k x⟩
def B3.d:Fd := { nt:=11,nv:=1,nm:=[0,1],res:=[2],cs:=fun k=>[(137,Ei.e k)] }
theorem B3.s (k:Nat):A4 Tryz.prog 104 (B3.e k):=mkS (D:=B3.d) (k:=k) sO [] Tryz.func104 ⟨Ei.s k,trivial⟩ trivial (by kernel_rfl) (by kernel_rfl) (fun x=>by kernel_rfl)
def Cs.e (k:Nat):Ent:=⟨2,[(.val false t4),(.val false (.i .i64))],[(.one,t5)],fun x=>Cs k x.1 x.2⟩
def Cg.p:LF:=⟨⟨[],[(1,(.i .i64)),(5,t5)]⟩,[((.exit 0),⟨[],[(1,(.i .i64)),(5,t5)]⟩)],fun k x=>Cg k x.1 x.2⟩
def Cs.d:Fd := { nt:=29,nv:=2,nm:=[0,1,2,3,5],res:=[4],ls:=[(6,Cg.p)] }
theorem Cg.s:LK Tryz.prog Tryz.f139 Cs.d 6 Cg.p:=mkL sO [] (by kernel_rfl) (fun _=>trivial) trivial (by kernel_rfl) (fun _=>rfl) (fun k x=>by kernel_rfl)
theorem Cs.s (k:Nat):A4 Tryz.prog 139 (Cs.e k):=mkS (D:=Cs.d) (k:=k) sO [6] Tryz.func139 trivial ⟨Cg.s,trivial⟩ (by kernel_rfl) (by kernel_rfl) (fun x=>by kernel_rfl)
def I0.e (k:Nat):Ent:=⟨2,[(.val false t4),(.val false .s)],[(.one,t5)],fun x=>I0 k x.1 x.2⟩
def I0.d:Fd := { nt:=11,nv:=2,nm:=[0,1,2,3],res:=[4],cs:=fun k=>[(139,Cs.e k)] }
theorem I0.s (k:Nat):A4 Tryz.prog 138 (I0.e k):=mkS (D:=I0.d) (k:=k) sO [] Tryz.func138 ⟨Cs.s k,trivial⟩ trivial (by kernel_rfl) (by kernel_rfl) (fun x=>by kernel_rfl)
def I1.e (k:Nat):Ent:=⟨2,[(.val false t4),(.val true t16)],[(.one,t5)],fun x=>I1 k x.1 x.2⟩
def I1.d:Fd := { nt:=15,nv:=2,nm:=[0,1,2,3],res:=[4],cs:=fun k=>[(139,Cs.e k)] }
theorem I1.s (k:Nat):A4 Tryz.prog 140 (I1.e k):=mkS (D:=I1.d) (k:=k) sO [] Tryz.func140 ⟨Cs.s k,trivial⟩ trivial (by kernel_rfl) (by kernel_rfl) (fun x=>by kernel_rfl)
def Jd.e (k:Nat):Ent:=⟨1,[(.val false .b)],[(.one,(.i .i64))],fun x=>Jd x⟩
def Jd.d:Fd := { nt:=4,nv:=1,nm:=[0,1],res:=[2] }
theorem Jd.s (k:Nat):A4 Tryz.prog 141 (Jd.e k):=mkS (D:=Jd.d) (k:=k) sO [] Tryz.func141 trivial trivial (by kernel_rfl) (by kernel_rfl) (fun x=>by kernel_rfl)
def Ko.e (k:Nat):Ent:=⟨1,[(.val false t4)],[(.one,(.i .i64))],fun x=>Ko k x⟩
def Ih.p:LF:=⟨⟨[],[(0,t4),(3,(.i .i64)),(4,(.i .i64)),(5,(.i .i64))]⟩,[((.exit 2),⟨[],[(0,t4),(3,(.i .i64)),(4,(.i .i64))]⟩)],fun k x=>Ih k x.1 x.2.1 x.2.2.1 x.2.2.2⟩
def It.p:LF:=⟨⟨[],[(0,t4),(3,(.i .i64)),(4,(.i .i64))]⟩,[((.exit 0),⟨[],[(3,(.i .i64))]⟩)],fun k x=>It k x.1 x.2.1 x.2.2⟩
def Ko.d:Fd := { nt:=34,nv:=1,nm:=[0,1,3,4,5,6],res:=[2],ls:=[(7,Ih.p),(3,It.p)] }
theorem Ih.s:LK Tryz.prog Tryz.f142 Ko.d 7 Ih.p:=mkL sO [] (by kernel_rfl) (fun _=>trivial) trivial (by kernel_rfl) (fun _=>rfl) (fun k x=>by kernel_rfl)
theorem It.s:LK Tryz.prog Tryz.f142 Ko.d 3 It.p:=mkL sO [7] (by kernel_rfl) (fun _=>trivial) ⟨Ih.s,trivial⟩ (by kernel_rfl) (fun _=>rfl) (fun k x=>by kernel_rfl)
theorem Ko.s (k:Nat):A4 Tryz.prog 142 (Ko.e k):=mkS (D:=Ko.d) (k:=k) sO [3] Tryz.func142 trivial ⟨It.s,trivial⟩ (by kernel_rfl) (by kernel_rfl) (fun x=>by kernel_rfl)
def Dx.e (k:Nat):Ent:=⟨1,[(.val true t25)],[(.one,t5)],fun x=>Dx k x⟩
def Dx.d:Fd := { nt:=37,nv:=1,nm:=[0,1,3,4],res:=[2],cs:=fun k=>[(41,Cr.e k),(138,I0.e k),(139,Cs.e k),(140,I1.e k),(141,Jd.e k),(142,Ko.e k)] }
theorem Dx.s (k:Nat):A4 Tryz.prog 109 (Dx.e k):=mkS (D:=Dx.d) (k:=k) sO [] Tryz.func109 ⟨Cr.s k,I0.s k,Cs.s k,I1.s k,Jd.s k,Ko.s k,trivial⟩ trivial (by kernel_rfl) (by kernel_rfl) (fun x=>by kernel_rfl)
def Ct.e (k:Nat):Ent:=⟨2,[(.val false t4),(.val false (.i .i64))],[(.one,(.i .i64)),(.one,(.i .i64)),(.one,.b)],fun x=>Ct k x.1 x.2⟩
def Dw.p:LF:=⟨⟨[],[(0,t4),(1,(.i .i64)),(7,(.i .i64)),(8,(.i .i64))]⟩,[(.ret,⟨[],[(4,(.i .i64)),(5,(.i .i64)),(6,.b)]⟩),((.exit 0),⟨[],[]⟩)],fun k x=>Dw k x.1 x.2.1 x.2.2.1 x.2.2.2⟩
def Ct.d:Fd := { nt:=64,nv:=2,nm:=[0,1,2,3,7,8,9],res:=[4,5,6],ls:=[(3,Dw.p)] }
theorem Dw.s:LK Tryz.prog Tryz.f107 Ct.d 3 Dw.p:=mkL sO [] (by kernel_rfl) (fun _=>trivial) trivial (by kernel_rfl) (fun _=>rfl) (fun k x=>by kernel_rfl)
theorem Ct.s (k:Nat):A4 Tryz.prog 107 (Ct.e k):=mkS (D:=Ct.d) (k:=k) sO [3] Tryz.func107 trivial ⟨Dw.s,trivial⟩ (by kernel_rfl) (by kernel_rfl) (fun x=>by kernel_rfl)
def Ej.e (k:Nat):Ent:=⟨2,[(.val false t4),(.val false (.i .i64))],[(.agg,t16),(.one,(.i .i64)),(.one,.b)],fun x=>Ej k x.1 x.2⟩
def Ej.d:Fd := { nt:=49,nv:=2,nm:=[0,1,2,3,7,8,9,10,11,12,13,14,15],res:=[5,6],cs:=fun k=>[(107,Ct.e k)] }
theorem Ej.s (k:Nat):A4 Tryz.prog 106 (Ej.e k):=mkS (D:=Ej.d) (k:=k) sO [] Tryz.func106 ⟨Ct.s k,trivial⟩ trivial (by kernel_rfl) (by kernel_rfl) (fun x=>by kernel_rfl)
def I2.e (k:Nat):Ent:=⟨2,[(.val false t4),(.val false (.i .i64))],[(.one,.s),(.one,(.i .i64)),(.one,.b)],fun x=>I2 k x.1 x.2⟩
def I2.d:Fd := { nt:=37,nv:=2,nm:=[0,1,2,3,7,8,9],res:=[4,5,6],cs:=fun k=>[(107,Ct.e k)] }
theorem I2.s (k:Nat):A4 Tryz.prog 108 (I2.e k):=mkS (D:=I2.d) (k:=k) sO [] Tryz.func108 ⟨Ct.s k,trivial⟩ trivial (by kernel_rfl) (by kernel_rfl) (fun x=>by kernel_rfl)
def Bw.e (k:Nat):Ent:=⟨1,[(.val false t4)],[(.agg,t26),(.one,.b)],fun x=>Bw k x⟩
def Bw.d:Fd := { nt:=76,nv:=1,nm:=[0,1,4,5,6,7,8,9,10,11,12,13],res:=[3],cs:=fun k=>[(41,Cr.e k),(106,Ej.e k),(107,Ct.e k),(108,I2.e k),(109,Dx.e k)],mv:=[75] }
theorem Bw.s (k:Nat):A4 Tryz.prog 76 (Bw.e k):=mkS (D:=Bw.d) (k:=k) sO [] Tryz.func76 ⟨Cr.s k,Ej.s k,Ct.s k,I2.s k,Dx.s k,trivial⟩ trivial (by kernel_rfl) (by kernel_rfl) (fun x=>by kernel_rfl)
def Bn.e (k:Nat):Ent:=⟨2,[(.val false t13),(.val false .s)],[(.one,(.i .i64))],fun x=>Bn k x.1 x.2⟩
def I3.p:LF:=⟨⟨[],[(0,t13),(1,.s),(5,(.i .i64))]⟩,[(.ret,⟨[],[(4,(.i .i64))]⟩),((.exit 0),⟨[],[]⟩)],fun k x=>I3 k x.1 x.2.1 x.2.2⟩
def Bn.d:Fd := { nt:=20,nv:=2,nm:=[0,1,2,3,5],res:=[4],ls:=[(2,I3.p)] }
theorem I3.s:LK Tryz.prog Tryz.f79 Bn.d 2 I3.p:=mkL sO [] (by kernel_rfl) (fun _=>trivial) trivial (by kernel_rfl) (fun _=>rfl) (fun k x=>by kernel_rfl)
theorem Bn.s (k:Nat):A4 Tryz.prog 79 (Bn.e k):=mkS (D:=Bn.d) (k:=k) sO [2] Tryz.func79 trivial ⟨I3.s,trivial⟩ (by kernel_rfl) (by kernel_rfl) (fun x=>by kernel_rfl)
def Eb.e (k:Nat):Ent:=⟨2,[(.val true t27),(.val false .s)],[(.one,t5),(.one,.b)],fun x=>Eb k x.1 x.2⟩
def Eb.d:Fd := { nt:=22,nv:=2,nm:=[0,1,2,3,6],res:=[4,5],cs:=fun k=>[(79,Bn.e k)] }
theorem Eb.s (k:Nat):A4 Tryz.prog 146 (Eb.e k):=mkS (D:=Eb.d) (k:=k) sO [] Tryz.func146 ⟨Bn.s k,trivial⟩ trivial (by kernel_rfl) (by kernel_rfl) (fun x=>by kernel_rfl)
def Gx.e (k:Nat):Ent:=⟨2,[(.val true t27),(.val false .s)],[(.agg,t26),(.one,(.i .i64))],fun x=>Gx k x.1 x.2⟩
def Gx.d:Fd := { nt:=28,nv:=2,nm:=[0,1,2,3,6,7,8,9],res:=[5],cs:=fun k=>[(76,Bw.e k),(146,Eb.e k)],mv:=[27] }
theorem Gx.s (k:Nat):A4 Tryz.prog 120 (Gx.e k):=mkS (D:=Gx.d) (k:=k) sO [] Tryz.func120 ⟨Bw.s k,Eb.s k,trivial⟩ trivial (by kernel_rfl) (by kernel_rfl) (fun x=>by kernel_rfl)
def B1.e (k:Nat):Ent:=⟨1,[(.val false t13)],[(.one,t14)],fun x=>B1 k x⟩
def Bm.p:LF:=⟨⟨[],[(0,t13),(3,t14),(4,(.i .i64))]⟩,[((.exit 0),⟨[],[(3,t14)]⟩)],fun k x=>Bm k x.1 x.2.1 x.2.2⟩
def B1.d:Fd := { nt:=29,nv:=1,nm:=[0,1,3,4],res:=[2],ls:=[(3,Bm.p)] }
theorem Bm.s:LK Tryz.prog Tryz.f130 B1.d 3 Bm.p:=mkL sO [] (by kernel_rfl) (fun _=>trivial) trivial (by kernel_rfl) (fun _=>rfl) (fun k x=>by kernel_rfl)
theorem B1.s (k:Nat):A4 Tryz.prog 130 (B1.e k):=mkS (D:=B1.d) (k:=k) sO [3] Tryz.func130 trivial ⟨Bm.s,trivial⟩ (by kernel_rfl) (by kernel_rfl) (fun x=>by kernel_rfl)
def F9.e (k:Nat):Ent:=⟨1,[(.val false t13)],[(.one,t15)],fun x=>F9 k x⟩
def Hk.p:LF:=⟨⟨[],[(0,t13),(3,t15),(4,(.i .i64))]⟩,[((.exit 0),⟨[],[(3,t15)]⟩)],fun k x=>Hk k x.1 x.2.1 x.2.2⟩
def F9.d:Fd := { nt:=29,nv:=1,nm:=[0,1,3,4],res:=[2],ls:=[(3,Hk.p)],hint:=[(5,t12),(26,t12),(27,t12)] }
theorem Hk.s:LK Tryz.prog Tryz.f130 F9.d 3 Hk.p:=mkL sO [] (by kernel_rfl) (fun _=>trivial) trivial (by kernel_rfl) (fun _=>rfl) (fun k x=>by kernel_rfl)
theorem F9.s (k:Nat):A4 Tryz.prog 130 (F9.e k):=mkS (D:=F9.d) (k:=k) sO [3] Tryz.func130 trivial ⟨Hk.s,trivial⟩ (by kernel_rfl) (by kernel_rfl) (fun x=>by kernel_rfl)
def A6.e (k:Nat):Ent:=⟨1,[(.val true t27)],[(.agg,t29)],fun x=>A6 k x⟩
def A6.d:Fd := { nt:=10,nv:=1,nm:=[0,1],res:=[],cs:=fun k=>[(130,B1.e k)] }
theorem A6.s (k:Nat):A4 Tryz.prog 128 (A6.e k):=mkS (D:=A6.d) (k:=k) sO [] Tryz.func128 ⟨B1.s k,trivial⟩ trivial (by kernel_rfl) (by kernel_rfl) (fun x=>by kernel_rfl)
def Io.e (k:Nat):Ent:=⟨1,[(.val true t27)],[(.agg,t30)],fun x=>Io k x⟩
def Io.d:Fd := { nt:=10,nv:=1,nm:=[0,1],res:=[],cs:=fun k=>[(130,F9.e k)] }
theorem Io.s (k:Nat):A4 Tryz.prog 128 (Io.e k):=mkS (D:=Io.d) (k:=k) sO [] Tryz.func128 ⟨F9.s k,trivial⟩ trivial (by kernel_rfl) (by kernel_rfl) (fun x=>by kernel_rfl)
def Hs.e (k:Nat):Ent:=⟨2,[(.val false t13),(.val false .s)],[(.one,t14)],fun x=>Hs k x.1 x.2⟩
def Gl.p:LF:=⟨⟨[],[(0,t13),(1,.s),(5,t14),(6,(.i .i64))]⟩,[((.exit 0),⟨[],[(5,t14)]⟩)],fun k x=>Gl k x.1 x.2.1 x.2.2.1 x.2.2.2⟩
def Hs.d:Fd := { nt:=29,nv:=2,nm:=[0,1,2,3,5,6],res:=[4],ls:=[(3,Gl.p)] }
theorem Gl.s:LK Tryz.prog Tryz.f149 Hs.d 3 Gl.p:=mkL sO [] (by kernel_rfl) (fun _=>trivial) trivial (by kernel_rfl) (fun _=>rfl) (fun k x=>by kernel_rfl)
theorem Hs.s (k:Nat):A4 Tryz.prog 149 (Hs.e k):=mkS (D:=Hs.d) (k:=k) sO [3] Tryz.func149 trivial ⟨Gl.s,trivial⟩ (by kernel_rfl) (by kernel_rfl) (fun x=>by kernel_rfl)
def Db.e (k:Nat):Ent:=⟨3,[(.val true t27),(.val true t29),(.val false .s)],[(.agg,t29),(.one,.b)],fun x=>Db k x.1 x.2.1 x.2.2⟩
def Db.d:Fd := { nt:=24,nv:=3,nm:=[0,1,2,3,4,5],res:=[7],cs:=fun k=>[(40,Af.e k),(104,B3.e k),(128,A6.e k)],mv:=[23] }
theorem Db.s (k:Nat):A4 Tryz.prog 150 (Db.e k):=mkS (D:=Db.d) (k:=k) sO [] Tryz.func150 ⟨Af.s k,B3.s k,A6.s k,trivial⟩ trivial (by kernel_rfl) (by kernel_rfl) (fun x=>by kernel_rfl)
def Ee.e (k:Nat):Ent:=⟨3,[(.val false t13),(.val false .s),(.val false t4)],[(.one,t14)],fun x=>Ee k x.1 x.2.1 x.2.2⟩
def Bt.p:LF:=⟨⟨[(9,(.bp 9 0 0)),(10999,(.hd 2))],[(0,t13),(1,.s),(7,t14),(8,.b),(10,(.i .i64)),(10000,.s),(10001,t4)]⟩,[((.exit 0),⟨[(9,(.bp 9 0 0)),(10999,(.hd 2))],[(7,t14),(8,.b),(10000,.s),(10001,t4)]⟩)],fun k x=>Bt k x.1 x.2.1 x.2.2.1 x.2.2.2.1 x.2.2.2.2.1 x.2.2.2.2.2.1 x.2.2.2.2.2.2⟩
def Ee.d:Fd := { nt:=59,nv:=3,nm:=[0,1,2,3,4,5,7,8,9,10],res:=[6],ls:=[(5,Bt.p)] }
theorem Bt.s:LK Tryz.prog Tryz.f151 Ee.d 5 Bt.p:=mkL sO [] (by kernel_rfl) (fun _=>trivial) trivial (by kernel_rfl) (fun _=>rfl) (fun k x=>by kernel_rfl)
theorem Ee.s (k:Nat):A4 Tryz.prog 151 (Ee.e k):=mkS (D:=Ee.d) (k:=k) sO [5] Tryz.func151 trivial ⟨Bt.s,trivial⟩ (by kernel_rfl) (by kernel_rfl) (fun x=>by kernel_rfl)
def B0.e (k:Nat):Ent:=⟨2,[(.val true t27),(.val false .s)],[(.agg,t29),(.one,.b)],fun x=>B0 k x.1 x.2⟩
def B0.d:Fd := { nt:=35,nv:=2,nm:=[0,1,2,3,6,7,8],res:=[5],cs:=fun k=>[(128,A6.e k),(146,Eb.e k),(149,Hs.e k),(150,Db.e k),(151,Ee.e k)] }
theorem B0.s (k:Nat):A4 Tryz.prog 125 (B0.e k):=mkS (D:=B0.d) (k:=k) sO [] Tryz.func125 ⟨A6.s k,Eb.s k,Hs.s k,Db.s k,Ee.s k,trivial⟩ trivial (by kernel_rfl) (by kernel_rfl) (fun x=>by kernel_rfl)
def D5.e (k:Nat):Ent:=⟨3,[(.val true t27),(.val false .s),(.val false t4)],[(.agg,t29),(.one,.b)],fun x=>D5 k x.1 x.2.1 x.2.2⟩
def D5.d:Fd := { nt:=23,nv:=3,nm:=[0,1,2,3,4,5,8],res:=[7],cs:=fun k=>[(128,A6.e k),(150,Db.e k),(151,Ee.e k)] }
theorem D5.s (k:Nat):A4 Tryz.prog 148 (D5.e k):=mkS (D:=D5.d) (k:=k) sO [] Tryz.func148 ⟨A6.s k,Db.s k,Ee.s k,trivial⟩ trivial (by kernel_rfl) (by kernel_rfl) (fun x=>by kernel_rfl)
def Ja.e (k:Nat):Ent:=⟨4,[(.val true t27),(.val false .s),(.val true t25),(.val false .b)],[(.agg,t29),(.one,(.i .i64))],fun x=>Ja k x.1 x.2.1 x.2.2.1 x.2.2.2⟩
def Ja.d:Fd := { nt:=82,nv:=4,nm:=[0,1,2,3,4,5,6,7,10,11,12,13,14,15],res:=[9],cs:=fun k=>[(40,Af.e k),(41,Cr.e k),(80,Ie.e k),(104,B3.e k),(109,Dx.e k),(120,Gx.e k),(125,B0.e k),(128,A6.e k),(148,D5.e k)],mv:=[58,81] }
theorem Ja.s (k:Nat):A4 Tryz.prog 123 (Ja.e k):=mkS (D:=Ja.d) (k:=k) sO [] Tryz.func123 ⟨Af.s k,Cr.s k,Ie.s k,B3.s k,Dx.s k,Gx.s k,B0.s k,A6.s k,D5.s k,trivial⟩ trivial (by kernel_rfl) (by kernel_rfl) (fun x=>by kernel_rfl)
def Iu.e (k:Nat):Ent:=⟨4,[(.ptr t38 t38),(.val false .s),(.val true t25),(.val false .b)],[(.one,(.i .i64))],fun x=>Iu k x.1 x.2.1 x.2.2.1 x.2.2.2⟩
def Iu.d:Fd := { nt:=52,nv:=4,nm:=[0,1,2,3,4,5,6,7,9,10],res:=[8],cs:=fun k=>[(78,Id.e k),(123,Ja.e k)] }
theorem Iu.s (k:Nat):A4 Tryz.prog 117 (Iu.e k):=mkS (D:=Iu.d) (k:=k) sO [] Tryz.func117 ⟨Id.s k,Ja.s k,trivial⟩ trivial (by kernel_rfl) (by kernel_rfl) (fun x=>by kernel_rfl)
def Iv.e (k:Nat):Ent:=⟨1,[(.val false (.i .i64))],[(.one,(.i .i64))],fun x=>Iv x⟩
def Iv.d:Fd := { nt:=6,nv:=1,nm:=[0,1],res:=[2],rf:=true }
theorem Iv.s (k:Nat):A4 Tryz.prog 118 (Iv.e k):=mkS (D:=Iv.d) (k:=k) sO [] Tryz.func118 trivial trivial (by kernel_rfl) (by kernel_rfl) (fun x=>by kernel_rfl)
def Di.e (k:Nat):Ent:=⟨1,[(.val true t25)],[(.agg,t26)],fun x=>Di x⟩
def Di.d:Fd := { nt:=9,nv:=1,nm:=[0,1],res:=[],mv:=[8],rf:=true }
theorem Di.s (k:Nat):A4 Tryz.prog 119 (Di.e k):=mkS (D:=Di.d) (k:=k) sO [] Tryz.func119 trivial trivial (by kernel_rfl) (by kernel_rfl) (fun x=>by kernel_rfl)
def Bd.e (k:Nat):Ent:=⟨4,[(.ptr t46 t46),(.val false .s),(.val true t25),(.val false t6)],[(.one,(.i .i64))],fun x=>Bd k x.1 x.2.1 x.2.2.1 x.2.2.2⟩
def As.p:LF:=⟨⟨[(0,(.bp 0 0 0)),(6,(.bp 6 0 0)),(1999,(.hd 9)),(7999,(.hd 5))],[(1,.s),(3,t6),(9,t7),(10,(.i .i64)),(11,(.i .i64)),(12,(.i .i64)),(1000,t46),(7000,t25)]⟩,[((.exit 0),⟨[(0,(.bp 0 0 0)),(6,(.bp 6 0 0)),(1999,(.hd 9)),(7999,(.hd 5))],[(1,.s),(11,(.i .i64)),(1000,t46),(7000,t25)]⟩)],fun k x=>As k x.1 x.2.1 x.2.2.1 x.2.2.2.1 x.2.2.2.2.1 x.2.2.2.2.2.1 x.2.2.2.2.2.2.1 x.2.2.2.2.2.2.2⟩
def Bd.d:Fd := { nt:=92,nv:=4,nm:=[0,1,2,3,4,5,6,7,9,10,11,12,13,14,15],res:=[8],cs:=fun k=>[(115,Dh.e k),(116,Bf.e k),(117,Iu.e k),(118,Iv.e k),(119,Di.e k)],ls:=[(5,As.p)],gh:=[(1000006,[.cl 1003])],opn:=[51],rf:=true }
theorem Bd.a (k:Nat):Li Tryz.prog (Bd.d.cs k):=⟨Dh.s k,Bf.s k,Iu.s k,Iv.s k,Di.s k,trivial⟩
theorem As.s:LK Tryz.prog Tryz.f91 Bd.d 5 As.p:=mkL sO [] (by kernel_rfl) Bd.a trivial (by kernel_rfl) (fun _=>rfl) (fun k x=>by kernel_rfl)
theorem Bd.s (k:Nat):A4 Tryz.prog 91 (Bd.e k):=mkS (D:=Bd.d) (k:=k) sO [5] Tryz.func91 (Bd.a k) ⟨As.s,trivial⟩ (by kernel_rfl) (by kernel_rfl) (fun x=>by kernel_rfl)
def Gn.e (k:Nat):Ent:=⟨5,[(.ptr t46 t46),(.val false .s),(.val true t25),(.val false (.i .i64)),(.val false t6)],[(.one,(.i .i64))],fun x=>Gn k x.1 x.2.1 x.2.2.1 x.2.2.2.1 x.2.2.2.2⟩
def Gn.d:Fd := { nt:=57,nv:=5,nm:=[0,1,2,3,4,5,6,7,8,9],res:=[10],cs:=fun k=>[(40,Af.e k),(65,A8.e k),(90,Fu.e k),(91,Bd.e k)],rf:=true }
theorem Gn.s (k:Nat):A4 Tryz.prog 64 (Gn.e k):=mkS (D:=Gn.d) (k:=k) sO [] Tryz.func64 ⟨Af.s k,A8.s k,Fu.s k,Bd.s k,trivial⟩ trivial (by kernel_rfl) (by kernel_rfl) (fun x=>by kernel_rfl)
def Bo.e (k:Nat):Ent:=⟨2,[(.val true t27),(.val false .s)],[(.agg,t29),(.one,.b)],fun x=>Bo k x.1 x.2⟩
def Bo.d:Fd := { nt:=26,nv:=2,nm:=[0,1,2,3,6],res:=[5],cs:=fun k=>[(79,Bn.e k),(128,A6.e k),(149,Hs.e k),(150,Db.e k)],mv:=[14] }
theorem Bo.s (k:Nat):A4 Tryz.prog 124 (Bo.e k):=mkS (D:=Bo.d) (k:=k) sO [] Tryz.func124 ⟨Bn.s k,A6.s k,Hs.s k,Db.s k,trivial⟩ trivial (by kernel_rfl) (by kernel_rfl) (fun x=>by kernel_rfl)
def Bz.e (k:Nat):Ent:=⟨4,[(.ptr t46 t46),(.val false (.i .i64)),(.val false .s),(.val false t6)],[(.one,.b)],fun x=>Bz k x.1 x.2.1 x.2.2.1 x.2.2.2⟩
def B4.p:LF:=⟨⟨[(0,(.bp 0 0 0)),(9,(.bp 9 0 0)),(1999,(.hd 9)),(10999,(.hd 5))],[(1,(.i .i64)),(2,.s),(3,t6),(11,t7),(12,.b),(13,.b),(14,(.i .i64)),(1000,t46),(10000,t25)]⟩,[((.exit 0),⟨[(0,(.bp 0 0 0)),(1999,(.hd 9))],[(1,(.i .i64)),(2,.s),(12,.b),(13,.b),(1000,t46)]⟩)],fun k x=>B4 k x.1 x.2.1 x.2.2.1 x.2.2.2.1 x.2.2.2.2.1 x.2.2.2.2.2.1 x.2.2.2.2.2.2.1 x.2.2.2.2.2.2.2.1 x.2.2.2.2.2.2.2.2⟩
def Bz.d:Fd := { nt:=125,nv:=4,nm:=[0,1,2,3,4,5,6,7,9,10,11,12,13,14,15,16,17,18],res:=[8],cs:=fun k=>[(116,Bf.e k),(120,Gx.e k),(121,Ay.e k),(122,Az.e k),(123,Ja.e k),(124,Bo.e k),(125,B0.e k)],ls:=[(8,B4.p)],rf:=true }
theorem Bz.a (k:Nat):Li Tryz.prog (Bz.d.cs k):=⟨Bf.s k,Gx.s k,Ay.s k,Az.s k,Ja.s k,Bo.s k,B0.s k,trivial⟩
theorem B4.s:LK Tryz.prog Tryz.f92 Bz.d 8 B4.p:=mkL sO [] (by kernel_rfl) Bz.a trivial (by kernel_rfl) (fun _=>rfl) (fun k x=>by kernel_rfl)
theorem Bz.s (k:Nat):A4 Tryz.prog 92 (Bz.e k):=mkS (D:=Bz.d) (k:=k) sO [8] Tryz.func92 (Bz.a k) ⟨B4.s,trivial⟩ (by kernel_rfl) (by kernel_rfl) (fun x=>by kernel_rfl)
def Fn.e (k:Nat):Ent:=⟨1,[(.val true t43)],[(.one,t7)],fun x=>Fn k x⟩
def Fn.d:Fd := { nt:=8,nv:=1,nm:=[0,1],res:=[2],cs:=fun k=>[(121,Ay.e k),(122,Az.e k)],rf:=true }
theorem Fn.s (k:Nat):A4 Tryz.prog 152 (Fn.e k):=mkS (D:=Fn.d) (k:=k) sO [] Tryz.func152 ⟨Ay.s k,Az.s k,trivial⟩ trivial (by kernel_rfl) (by kernel_rfl) (fun x=>by kernel_rfl)
def I4.e (k:Nat):Ent:=⟨2,[(.val true t28),(.val true t28)],[(.one,.b)],fun x=>I4 x.1 x.2⟩
def I4.d:Fd := { nt:=29,nv:=2,nm:=[0,1,2,3],res:=[4],cs:=fun k=>[(42,Ar.e k)] }
theorem I4.s (k:Nat):A4 Tryz.prog 157 (I4.e k):=mkS (D:=I4.d) (k:=k) sO [] Tryz.func157 ⟨Ar.s k,trivial⟩ trivial (by kernel_rfl) (by kernel_rfl) (fun x=>by kernel_rfl)
def Bu.e (k:Nat):Ent:=⟨2,[(.val false t31),(.val true t28)],[(.one,t32)],fun x=>Bu k x.1 x.2⟩
def Cu.p:LF:=⟨⟨[(3,(.bp 3 0 0)),(4999,(.hd 6))],[(5,t32),(7,(.i .i64)),(4000,.s),(4001,(.i .i64)),(4002,(.i .i64)),(4003,(.i .i64)),(4004,.b),(4005,(.i .i64))]⟩,[((.exit 2),⟨[(3,(.bp 3 0 0)),(4999,(.hd 6))],[(5,t32),(7,(.i .i64)),(4000,.s),(4001,(.i .i64)),(4002,(.i .i64)),(4003,(.i .i64)),(4004,.b),(4005,(.i .i64))]⟩)],fun k x=>Cu k x.1 x.2.1 x.2.2.1 x.2.2.2.1 x.2.2.2.2.1 x.2.2.2.2.2.1 x.2.2.2.2.2.2.1 x.2.2.2.2.2.2.2⟩
def Dj.p:LF:=⟨⟨[(3,(.bp 3 0 0)),(4999,(.hd 6))],[(5,t32),(6,(.i .i64)),(4000,.s),(4001,(.i .i64)),(4002,(.i .i64)),(4003,(.i .i64)),(4004,.b),(4005,(.i .i64))]⟩,[(.ret,⟨[],[(4,t32)]⟩),((.exit 0),⟨[(3,(.bp 3 0 0)),(4999,(.hd 6))],[(5,t32),(4000,.s),(4001,(.i .i64)),(4002,(.i .i64)),(4003,(.i .i64)),(4004,.b),(4005,(.i .i64))]⟩)],fun k x=>Dj k x.1 x.2.1 x.2.2.1 x.2.2.2.1 x.2.2.2.2.1 x.2.2.2.2.2.1 x.2.2.2.2.2.2.1 x.2.2.2.2.2.2.2⟩
def Bu.d:Fd := { nt:=70,nv:=2,nm:=[0,1,2,3,5,6,7],res:=[4],cs:=fun k=>[(157,I4.e k)],ls:=[(11,Cu.p),(3,Dj.p)] }
theorem Bu.a (k:Nat):Li Tryz.prog (Bu.d.cs k):=⟨I4.s k,trivial⟩
theorem Cu.s:LK Tryz.prog Tryz.f156 Bu.d 11 Cu.p:=mkL sO [] (by kernel_rfl) Bu.a trivial (by kernel_rfl) (fun _=>rfl) (fun k x=>by kernel_rfl)
theorem Dj.s:LK Tryz.prog Tryz.f156 Bu.d 3 Dj.p:=mkL sO [] (by kernel_rfl) Bu.a trivial (by kernel_rfl) (fun _=>rfl) (fun k x=>by kernel_rfl)
theorem Bu.s (k:Nat):A4 Tryz.prog 156 (Bu.e k):=mkS (D:=Bu.d) (k:=k) sO [3,11] Tryz.func156 (Bu.a k) ⟨Dj.s,Cu.s,trivial⟩ (by kernel_rfl) (by kernel_rfl) (fun x=>by kernel_rfl)
def C0.e (k:Nat):Ent:=⟨2,[(.val false t31),(.val false t31)],[(.one,t32)],fun x=>C0 k x.1 x.2⟩
def Cv.p:LF:=⟨⟨[],[(1,t31),(5,t32),(6,(.i .i64))]⟩,[((.exit 0),⟨[],[(5,t32)]⟩)],fun k x=>Cv k x.1 x.2.1 x.2.2⟩
def C0.d:Fd := { nt:=23,nv:=2,nm:=[0,1,2,3,5,6],res:=[4],cs:=fun k=>[(156,Bu.e k)],ls:=[(3,Cv.p)] }
theorem C0.a (k:Nat):Li Tryz.prog (C0.d.cs k):=⟨Bu.s k,trivial⟩
theorem Cv.s:LK Tryz.prog Tryz.f155 C0.d 3 Cv.p:=mkL sO [] (by kernel_rfl) C0.a trivial (by kernel_rfl) (fun _=>rfl) (fun k x=>by kernel_rfl)
theorem C0.s (k:Nat):A4 Tryz.prog 155 (C0.e k):=mkS (D:=C0.d) (k:=k) sO [3] Tryz.func155 (C0.a k) ⟨Cv.s,trivial⟩ (by kernel_rfl) (by kernel_rfl) (fun x=>by kernel_rfl)
def Gy.e (k:Nat):Ent:=⟨2,[(.ptr t38 t38),(.val false t31)],[(.one,.b)],fun x=>Gy k x.1 x.2⟩
def Gy.d:Fd := { nt:=19,nv:=2,nm:=[0,1,2,3,5],res:=[4],cs:=fun k=>[(155,C0.e k)] }
theorem Gy.s (k:Nat):A4 Tryz.prog 153 (Gy.e k):=mkS (D:=Gy.d) (k:=k) sO [] Tryz.func153 ⟨C0.s k,trivial⟩ trivial (by kernel_rfl) (by kernel_rfl) (fun x=>by kernel_rfl)
def B5.e (k:Nat):Ent:=⟨5,[(.ptr t46 t46),(.val false (.i .i64)),(.val false t31),(.val false .b),(.val false t6)],[(.one,.b)],fun x=>B5 k x.1 x.2.1 x.2.2.1 x.2.2.2.1 x.2.2.2.2⟩
def Ac.p:LF:=⟨⟨[(0,(.bp 0 0 0)),(1999,(.hd 9))],[(1,(.i .i64)),(2,t31),(3,.b),(4,t6),(11,t7),(12,.b),(13,(.i .i64)),(1000,t46)]⟩,[((.exit 0),⟨[(1999,(.hd 9))],[(12,.b),(1000,t46)]⟩)],fun k x=>Ac k x.1 x.2.1 x.2.2.1 x.2.2.2.1 x.2.2.2.2.1 x.2.2.2.2.2.1 x.2.2.2.2.2.2.1 x.2.2.2.2.2.2.2⟩
def B5.d:Fd := { nt:=53,nv:=5,nm:=[0,1,2,3,4,5,6,7,8,9,11,12,13],res:=[10],cs:=fun k=>[(116,Bf.e k),(152,Fn.e k),(153,Gy.e k)],ls:=[(4,Ac.p)],gh:=[(1000005,[.cl 1003])],opn:=[47],rf:=true }
theorem B5.a (k:Nat):Li Tryz.prog (B5.d.cs k):=⟨Bf.s k,Fn.s k,Gy.s k,trivial⟩
theorem Ac.s:LK Tryz.prog Tryz.f126 B5.d 4 Ac.p:=mkL sO [] (by kernel_rfl) B5.a trivial (by kernel_rfl) (fun _=>rfl) (fun k x=>by kernel_rfl)
theorem B5.s (k:Nat):A4 Tryz.prog 126 (B5.e k):=mkS (D:=B5.d) (k:=k) sO [4] Tryz.func126 (B5.a k) ⟨Ac.s,trivial⟩ (by kernel_rfl) (by kernel_rfl) (fun x=>by kernel_rfl)
def Hv.e (k:Nat):Ent:=⟨2,[(.val true t43),(.val false (.i .i64))],[(.one,.b)],fun x=>Hv k x.1 x.2⟩
def Hv.d:Fd := { nt:=9,nv:=2,nm:=[0,1,2,3],res:=[4],cs:=fun k=>[(102,Bv.e k),(152,Fn.e k)],rf:=true }
theorem Hv.s (k:Nat):A4 Tryz.prog 127 (Hv.e k):=mkS (D:=Hv.d) (k:=k) sO [] Tryz.func127 ⟨Bv.s k,Fn.s k,trivial⟩ trivial (by kernel_rfl) (by kernel_rfl) (fun x=>by kernel_rfl)
def Fv.e (k:Nat):Ent:=⟨3,[(.ptr t46 t46),(.val false (.i .i64)),(.val false t6)],[(.one,.b)],fun x=>Fv k x.1 x.2.1 x.2.2⟩
def Fv.d:Fd := { nt:=47,nv:=3,nm:=[0,1,2,3,4,5,7],res:=[6],cs:=fun k=>[(126,B5.e k),(127,Hv.e k)],rf:=true }
theorem Fv.s (k:Nat):A4 Tryz.prog 93 (Fv.e k):=mkS (D:=Fv.d) (k:=k) sO [] Tryz.func93 ⟨B5.s k,Hv.s k,trivial⟩ trivial (by kernel_rfl) (by kernel_rfl) (fun x=>by kernel_rfl)
def Fw.e (k:Nat):Ent:=⟨3,[(.ptr t46 t46),(.val false (.i .i64)),(.val false t6)],[(.one,.b)],fun x=>Fw k x.1 x.2.1 x.2.2⟩
def Fw.d:Fd := { nt:=36,nv:=3,nm:=[0,1,2,3,4,5,7],res:=[6],cs:=fun k=>[(126,B5.e k)],rf:=true }
theorem Fw.s (k:Nat):A4 Tryz.prog 94 (Fw.e k):=mkS (D:=Fw.d) (k:=k) sO [] Tryz.func94 ⟨B5.s k,trivial⟩ trivial (by kernel_rfl) (by kernel_rfl) (fun x=>by kernel_rfl)
def Hl.e (k:Nat):Ent:=⟨1,[(.val true t27)],[(.agg,t29),(.one,(.i .i64))],fun x=>Hl k x⟩
def Gp.p:LF:=⟨⟨[(1,(.bp 1 0 0)),(2,(.bp 2 0 0)),(4,(.bp 4 0 0)),(2999,(.hd 2)),(3999,(.hd 2)),(5999,(.hd 2))],[(5,(.i .i64)),(6,(.i .i64)),(2000,t27),(3000,t29),(5000,t29)]⟩,[((.exit 0),⟨[(2,(.bp 2 0 0)),(4,(.bp 4 0 0)),(3999,(.hd 2)),(5999,(.hd 2))],[(5,(.i .i64)),(3000,t29),(5000,t29)]⟩)],fun k x=>Gp k x.1 x.2.1 x.2.2.1 x.2.2.2.1 x.2.2.2.2⟩
def Hl.d:Fd := { nt:=53,nv:=1,nm:=[0,1,4,5,6,7,8,9],res:=[3],cs:=fun k=>[(104,B3.e k),(120,Gx.e k),(124,Bo.e k),(125,B0.e k),(128,A6.e k)],ls:=[(4,Gp.p)],mv:=[51],rf:=true }
theorem Hl.a (k:Nat):Li Tryz.prog (Hl.d.cs k):=⟨B3.s k,Gx.s k,Bo.s k,B0.s k,A6.s k,trivial⟩
theorem Gp.s:LK Tryz.prog Tryz.f95 Hl.d 4 Gp.p:=mkL sO [] (by kernel_rfl) Hl.a trivial (by kernel_rfl) (fun _=>rfl) (fun k x=>by kernel_rfl)
theorem Hl.s (k:Nat):A4 Tryz.prog 95 (Hl.e k):=mkS (D:=Hl.d) (k:=k) sO [4] Tryz.func95 (Hl.a k) ⟨Gp.s,trivial⟩ (by kernel_rfl) (by kernel_rfl) (fun x=>by kernel_rfl)
def Bx.e (k:Nat):Ent:=⟨2,[(.val false t13),(.val false t13)],[(.one,t2)],fun x=>Bx k x.1 x.2⟩
def Dk.p:LF:=⟨⟨[],[(5,t14),(8,t2),(9,(.i .i64))]⟩,[((.exit 4),⟨[],[(8,t2)]⟩)],fun k x=>Dk k x.1 x.2.1 x.2.2⟩
def Ek.p:LF:=⟨⟨[],[(1,t13),(5,t14),(7,(.i .i64))]⟩,[((.exit 2),⟨[],[(5,t14)]⟩)],fun k x=>Ek k x.1 x.2.1 x.2.2⟩
def El.p:LF:=⟨⟨[],[(0,t13),(1,t13),(5,t14),(6,(.i .i64))]⟩,[((.exit 0),⟨[],[(1,t13),(5,t14)]⟩)],fun k x=>El k x.1 x.2.1 x.2.2.1 x.2.2.2⟩
def Bx.d:Fd := { nt:=55,nv:=2,nm:=[0,1,2,3,5,6,7,8,9],res:=[4],cs:=fun k=>[(151,Ee.e k)],ls:=[(12,Dk.p),(7,Ek.p),(3,El.p)],rf:=true }
theorem Bx.a (k:Nat):Li Tryz.prog (Bx.d.cs k):=⟨Ee.s k,trivial⟩
theorem Dk.s:LK Tryz.prog Tryz.f129 Bx.d 12 Dk.p:=mkL sO [] (by kernel_rfl) Bx.a trivial (by kernel_rfl) (fun _=>rfl) (fun k x=>by kernel_rfl)
theorem Ek.s:LK Tryz.prog Tryz.f129 Bx.d 7 Ek.p:=mkL sO [] (by kernel_rfl) Bx.a trivial (by kernel_rfl) (fun _=>rfl) (fun k x=>by kernel_rfl)
theorem El.s:LK Tryz.prog Tryz.f129 Bx.d 3 El.p:=mkL sO [] (by kernel_rfl) Bx.a trivial (by kernel_rfl) (fun _=>rfl) (fun k x=>by kernel_rfl)
theorem Bx.s (k:Nat):A4 Tryz.prog 129 (Bx.e k):=mkS (D:=Bx.d) (k:=k) sO [3,7,12] Tryz.func129 (Bx.a k) ⟨El.s,Ek.s,Dk.s,trivial⟩ (by kernel_rfl) (by kernel_rfl) (fun x=>by kernel_rfl)
def Cj.e (k:Nat):Ent:=⟨2,[(.val true t27),(.val false t1)],[(.agg,t29)],fun x=>Cj k x.1 x.2⟩
def Ah.p:LF:=⟨⟨[(2,(.bp 2 0 0)),(4,(.bp 4 0 0)),(3999,(.hd 2)),(5999,(.hd 2))],[(1,t1),(5,t2),(6,t14),(7,(.i .i64)),(3000,t27),(5000,t29)]⟩,[((.exit 0),⟨[(2,(.bp 2 0 0)),(4,(.bp 4 0 0)),(3999,(.hd 2)),(5999,(.hd 2))],[(6,t14),(3000,t27),(5000,t29)]⟩)],fun k x=>Ah k x.1 x.2.1 x.2.2.1 x.2.2.2.1 x.2.2.2.2.1 x.2.2.2.2.2⟩
def Cj.d:Fd := { nt:=66,nv:=2,nm:=[0,1,2,3,5,6,7,8,9],res:=[],cs:=fun k=>[(79,Bn.e k),(104,B3.e k),(128,A6.e k),(129,Bx.e k),(130,B1.e k)],ls:=[(6,Ah.p)],rf:=true }
theorem Cj.a (k:Nat):Li Tryz.prog (Cj.d.cs k):=⟨Bn.s k,B3.s k,A6.s k,Bx.s k,B1.s k,trivial⟩
theorem Ah.s:LK Tryz.prog Tryz.f96 Cj.d 6 Ah.p:=mkL sO [] (by kernel_rfl) Cj.a trivial (by kernel_rfl) (fun _=>rfl) (fun k x=>by kernel_rfl)
theorem Cj.s (k:Nat):A4 Tryz.prog 96 (Cj.e k):=mkS (D:=Cj.d) (k:=k) sO [6] Tryz.func96 (Cj.a k) ⟨Ah.s,trivial⟩ (by kernel_rfl) (by kernel_rfl) (fun x=>by kernel_rfl)
def Ha.e (k:Nat):Ent:=⟨1,[(.val true t28)],[(.one,.b)],fun x=>Ha k x⟩
def Ha.d:Fd := { nt:=26,nv:=1,nm:=[0,1],res:=[2],cs:=fun k=>[(39,Bg.e k),(40,Af.e k),(65,A8.e k)] }
theorem Ha.s (k:Nat):A4 Tryz.prog 103 (Ha.e k):=mkS (D:=Ha.d) (k:=k) sO [] Tryz.func103 ⟨Bg.s k,Af.s k,A8.s k,trivial⟩ trivial (by kernel_rfl) (by kernel_rfl) (fun x=>by kernel_rfl)
def Fg.e (k:Nat):Ent:=⟨1,[(.val false t31)],[(.one,.b)],fun x=>Fg k x⟩
def F5.p:LF:=⟨⟨[],[(0,t31),(3,(.i .i64))]⟩,[(.ret,⟨[],[(2,.b)]⟩),((.exit 0),⟨[],[(0,t31)]⟩)],fun k x=>F5 k x.1 x.2⟩
def Fg.d:Fd := { nt:=37,nv:=1,nm:=[0,1,3],res:=[2],cs:=fun k=>[(103,Ha.e k)],ls:=[(2,F5.p)] }
theorem Fg.a (k:Nat):Li Tryz.prog (Fg.d.cs k):=⟨Ha.s k,trivial⟩
theorem F5.s:LK Tryz.prog Tryz.f105 Fg.d 2 F5.p:=mkL sO [] (by kernel_rfl) Fg.a trivial (by kernel_rfl) (fun _=>rfl) (fun k x=>by kernel_rfl)
theorem Fg.s (k:Nat):A4 Tryz.prog 105 (Fg.e k):=mkS (D:=Fg.d) (k:=k) sO [2] Tryz.func105 (Fg.a k) ⟨F5.s,trivial⟩ (by kernel_rfl) (by kernel_rfl) (fun x=>by kernel_rfl)
def Dc.e (k:Nat):Ent:=⟨1,[(.val true t38)],[(.one,.b)],fun x=>Dc k x⟩
def Fx.p:LF:=⟨⟨[(1,(.bp 1 0 0)),(2999,(.hd 5))],[(3,(.i .i64)),(2000,(.i .i64)),(2001,t13),(2002,t13),(2003,t31),(2004,t31)]⟩,[(.ret,⟨[],[(2,.b)]⟩),((.exit 0),⟨[(1,(.bp 1 0 0)),(2999,(.hd 5))],[(2000,(.i .i64)),(2001,t13),(2002,t13),(2003,t31),(2004,t31)]⟩)],fun k x=>Fx k x.1 x.2.1 x.2.2.1 x.2.2.2.1 x.2.2.2.2.1 x.2.2.2.2.2⟩
def Dc.d:Fd := { nt:=37,nv:=1,nm:=[0,1,3],res:=[2],cs:=fun k=>[(65,A8.e k),(103,Ha.e k),(104,B3.e k),(105,Fg.e k)],ls:=[(2,Fx.p)] }
theorem Dc.a (k:Nat):Li Tryz.prog (Dc.d.cs k):=⟨A8.s k,Ha.s k,B3.s k,Fg.s k,trivial⟩
theorem Fx.s:LK Tryz.prog Tryz.f75 Dc.d 2 Fx.p:=mkL sO [] (by kernel_rfl) Dc.a trivial (by kernel_rfl) (fun _=>rfl) (fun k x=>by kernel_rfl)
theorem Dc.s (k:Nat):A4 Tryz.prog 75 (Dc.e k):=mkS (D:=Dc.d) (k:=k) sO [2] Tryz.func75 (Dc.a k) ⟨Fx.s,trivial⟩ (by kernel_rfl) (by kernel_rfl) (fun x=>by kernel_rfl)
def I5.e (k:Nat):Ent:=⟨1,[(.val true t38)],[(.agg,t39)],fun x=>I5 k x⟩
def I5.d:Fd := { nt:=17,nv:=1,nm:=[0,1],res:=[],cs:=fun k=>[(128,A6.e k)] }
theorem I5.s (k:Nat):A4 Tryz.prog 131 (I5.e k):=mkS (D:=I5.d) (k:=k) sO [] Tryz.func131 ⟨A6.s k,trivial⟩ trivial (by kernel_rfl) (by kernel_rfl) (fun x=>by kernel_rfl)
def Iw.e (k:Nat):Ent:=⟨3,[(.val true t27),(.val false .s),(.val false (.i .i64))],[(.agg,t30),(.one,.b)],fun x=>Iw k x.1 x.2.1 x.2.2⟩
def Iw.d:Fd := { nt:=97,nv:=3,nm:=[0,1,2,3,4,5,8,9,10,11],res:=[7],cs:=fun k=>[(65,A8.e k),(79,Bn.e k),(104,B3.e k),(128,Io.e k)],mv:=[39,96] }
theorem Iw.s (k:Nat):A4 Tryz.prog 132 (Iw.e k):=mkS (D:=Iw.d) (k:=k) sO [] Tryz.func132 ⟨A8.s k,Bn.s k,B3.s k,Io.s k,trivial⟩ trivial (by kernel_rfl) (by kernel_rfl) (fun x=>by kernel_rfl)
def I6.e (k:Nat):Ent:=⟨3,[(.val true t38),(.val false .s),(.val false (.i .i64))],[(.agg,(.pr (.i .i64) (.pr t27 t37))),(.one,.b)],fun x=>I6 k x.1 x.2.1 x.2.2⟩
def I6.d:Fd := { nt:=44,nv:=3,nm:=[0,1,2,3,4,5,8,9,10,11,12],res:=[7],cs:=fun k=>[(75,Dc.e k),(120,Gx.e k),(131,I5.e k),(132,Iw.e k)],mv:=[29,40,43] }
theorem I6.s (k:Nat):A4 Tryz.prog 97 (I6.e k):=mkS (D:=I6.d) (k:=k) sO [] Tryz.func97 ⟨Dc.s k,Gx.s k,I5.s k,Iw.s k,trivial⟩ trivial (by kernel_rfl) (by kernel_rfl) (fun x=>by kernel_rfl)
def E7.e (k:Nat):Ent:=⟨2,[(.val false t0),(.val false .s)],[(.one,.b)],fun x=>E7 k x.1 x.2⟩
def Fy.p:LF:=⟨⟨[],[(0,t0),(1,.s),(5,(.i .i64))]⟩,[(.ret,⟨[],[(4,.b)]⟩),((.exit 0),⟨[],[]⟩)],fun k x=>Fy k x.1 x.2.1 x.2.2⟩
def E7.d:Fd := { nt:=18,nv:=2,nm:=[0,1,2,3,5],res:=[4],ls:=[(2,Fy.p)],rf:=true }
theorem Fy.s:LK Tryz.prog Tryz.f45 E7.d 2 Fy.p:=mkL sO [] (by kernel_rfl) (fun _=>trivial) trivial (by kernel_rfl) (fun _=>rfl) (fun k x=>by kernel_rfl)
theorem E7.s (k:Nat):A4 Tryz.prog 45 (E7.e k):=mkS (D:=E7.d) (k:=k) sO [2] Tryz.func45 trivial ⟨Fy.s,trivial⟩ (by kernel_rfl) (by kernel_rfl) (fun x=>by kernel_rfl)
def Ck.e (k:Nat):Ent:=⟨2,[(.val false t0),(.val false .s)],[(.one,t0)],fun x=>Ck k x.1 x.2⟩
def Dl.p:LF:=⟨⟨[],[(1,.s),(5,t2),(6,(.i .i64))]⟩,[((.exit 0),⟨[],[(1,.s),(5,t2),(6,(.i .i64))]⟩)],fun k x=>Dl k x.1 x.2.1 x.2.2⟩
def Ck.d:Fd := { nt:=46,nv:=2,nm:=[0,1,2,3,5,6],res:=[4],cs:=fun k=>[(45,E7.e k)],ls:=[(5,Dl.p)],rf:=true }
theorem Ck.a (k:Nat):Li Tryz.prog (Ck.d.cs k):=⟨E7.s k,trivial⟩
theorem Dl.s:LK Tryz.prog Tryz.f98 Ck.d 5 Dl.p:=mkL sO [] (by kernel_rfl) Ck.a trivial (by kernel_rfl) (fun _=>rfl) (fun k x=>by kernel_rfl)
theorem Ck.s (k:Nat):A4 Tryz.prog 98 (Ck.e k):=mkS (D:=Ck.d) (k:=k) sO [5] Tryz.func98 (Ck.a k) ⟨Dl.s,trivial⟩ (by kernel_rfl) (by kernel_rfl) (fun x=>by kernel_rfl)
def Ao.e (k:Nat):Ent:=⟨2,[(.ptr t46 t46),(.val true t34)],[(.one,.b)],fun x=>Ao k x.1 x.2⟩
def C9.p:LF:=⟨⟨[(0,(.bp 0 0 0)),(3,(.bp 3 0 0)),(1999,(.hd 9)),(4999,(.hd 6))],[(5,t3),(6,(.i .i64)),(1000,t46),(4000,t34)]⟩,[((.exit 1),⟨[(0,(.bp 0 0 0)),(3,(.bp 3 0 0)),(1999,(.hd 9)),(4999,(.hd 6))],[(5,t3),(1000,t46),(4000,t34)]⟩)],fun k x=>C9 k x.1 x.2.1 x.2.2.1 x.2.2.2⟩
def Ao.d:Fd := { nt:=134,nv:=2,nm:=[0,1,2,3,5,6,7,8],res:=[4],cs:=fun k=>[(92,Bz.e k),(93,Fv.e k),(94,Fw.e k),(95,Hl.e k),(96,Cj.e k),(97,I6.e k),(98,Ck.e k)],ls:=[(14,C9.p)],rf:=true }
theorem Ao.a (k:Nat):Li Tryz.prog (Ao.d.cs k):=⟨Bz.s k,Fv.s k,Fw.s k,Hl.s k,Cj.s k,I6.s k,Ck.s k,trivial⟩
theorem C9.s:LK Tryz.prog Tryz.f66 Ao.d 14 C9.p:=mkL sO [] (by kernel_rfl) Ao.a trivial (by kernel_rfl) (fun _=>rfl) (fun k x=>by kernel_rfl)
theorem Ao.s (k:Nat):A4 Tryz.prog 66 (Ao.e k):=mkS (D:=Ao.d) (k:=k) sO [14] Tryz.func66 (Ao.a k) ⟨C9.s,trivial⟩ (by kernel_rfl) (by kernel_rfl) (fun x=>by kernel_rfl)
def Ii.e (k:Nat):Ent:=⟨1,[(.val true t17)],[(.agg,t18)],fun x=>Ii k x⟩
def Fz.p:LF:=⟨⟨[(1,(.bp 1 0 0)),(2,(.bp 2 0 0)),(3,(.bp 3 0 0)),(2999,(.hd 2)),(3999,(.hd 2)),(4999,(.hd 2))],[(4,(.i .i64)),(2000,t17),(3000,t19),(4000,t18)]⟩,[((.exit 0),⟨[(2,(.bp 2 0 0)),(3,(.bp 3 0 0)),(3999,(.hd 2)),(4999,(.hd 2))],[(3000,t19),(4000,t18)]⟩)],fun k x=>Fz k x.1 x.2.1 x.2.2.1 x.2.2.2⟩
def Ii.d:Fd := { nt:=30,nv:=1,nm:=[0,1,3,4],res:=[],ls:=[(3,Fz.p)],hint:=[(26,t7),(27,t7)],mv:=[29],rf:=true }
theorem Fz.s:LK Tryz.prog Tryz.f133 Ii.d 3 Fz.p:=mkL sO [] (by kernel_rfl) (fun _=>trivial) trivial (by kernel_rfl) (fun _=>rfl) (fun k x=>by kernel_rfl)
theorem Ii.s (k:Nat):A4 Tryz.prog 133 (Ii.e k):=mkS (D:=Ii.d) (k:=k) sO [3] Tryz.func133 trivial ⟨Fz.s,trivial⟩ (by kernel_rfl) (by kernel_rfl) (fun x=>by kernel_rfl)
def Dd.e (k:Nat):Ent:=⟨2,[(.val true t6),(.val false (.i .i64))],[(.one,.b)],fun x=>Dd k x.1 x.2⟩
def G0.p:LF:=⟨⟨[(2,(.bp 2 0 0)),(3999,(.hd 1))],[(1,(.i .i64)),(5,(.i .i64)),(3000,t6)]⟩,[(.ret,⟨[],[(4,.b)]⟩),((.exit 0),⟨[(2,(.bp 2 0 0)),(3999,(.hd 1))],[(1,(.i .i64)),(3000,t6)]⟩)],fun k x=>G0 k x.1 x.2.1 x.2.2⟩
def Dd.d:Fd := { nt:=28,nv:=2,nm:=[0,1,2,3,5],res:=[4],cs:=fun k=>[(102,Bv.e k)],ls:=[(2,G0.p)],rf:=true }
theorem Dd.a (k:Nat):Li Tryz.prog (Dd.d.cs k):=⟨Bv.s k,trivial⟩
theorem G0.s:LK Tryz.prog Tryz.f73 Dd.d 2 G0.p:=mkL sO [] (by kernel_rfl) Dd.a trivial (by kernel_rfl) (fun _=>rfl) (fun k x=>by kernel_rfl)
theorem Dd.s (k:Nat):A4 Tryz.prog 73 (Dd.e k):=mkS (D:=Dd.d) (k:=k) sO [2] Tryz.func73 (Dd.a k) ⟨G0.s,trivial⟩ (by kernel_rfl) (by kernel_rfl) (fun x=>by kernel_rfl)
def Il.e (k:Nat):Ent:=⟨2,[(.val true t17),(.val false t22)],[(.one,.b)],fun x=>Il k x.1 x.2⟩
def I7.p:LF:=⟨⟨[(2,(.bp 2 0 0)),(3999,(.hd 2))],[(5,(.i .i64)),(3000,t17)]⟩,[(.ret,⟨[],[(4,.b)]⟩),((.exit 0),⟨[],[]⟩)],fun k x=>I7 k x.1 x.2⟩
def Il.d:Fd := { nt:=45,nv:=2,nm:=[0,1,2,3,5],res:=[4],cs:=fun k=>[(65,A8.e k),(72,Bb.e k),(73,Dd.e k)],ls:=[(4,I7.p)],rf:=true }
theorem Il.a (k:Nat):Li Tryz.prog (Il.d.cs k):=⟨A8.s k,Bb.s k,Dd.s k,trivial⟩
theorem I7.s:LK Tryz.prog Tryz.f134 Il.d 4 I7.p:=mkL sO [] (by kernel_rfl) Il.a trivial (by kernel_rfl) (fun _=>rfl) (fun k x=>by kernel_rfl)
theorem Il.s (k:Nat):A4 Tryz.prog 134 (Il.e k):=mkS (D:=Il.d) (k:=k) sO [4] Tryz.func134 (Il.a k) ⟨I7.s,trivial⟩ (by kernel_rfl) (by kernel_rfl) (fun x=>by kernel_rfl)
def Fh.e (k:Nat):Ent:=⟨2,[(.val true t6),(.val false t22)],[(.one,(.i .i64))],fun x=>Fh k x.1 x.2⟩
def G3.p:LF:=⟨⟨[(2,(.bp 2 0 0)),(3999,(.hd 1))],[(1,t22),(5,(.i .i64)),(3000,t6)]⟩,[(.ret,⟨[],[(4,(.i .i64))]⟩),((.exit 0),⟨[],[]⟩)],fun k x=>G3 k x.1 x.2.1 x.2.2⟩
def Fh.d:Fd := { nt:=28,nv:=2,nm:=[0,1,2,3,5,6,7],res:=[4],cs:=fun k=>[(74,Da.e k)],ls:=[(2,G3.p)],rf:=true }
theorem Fh.a (k:Nat):Li Tryz.prog (Fh.d.cs k):=⟨Da.s k,trivial⟩
theorem G3.s:LK Tryz.prog Tryz.f135 Fh.d 2 G3.p:=mkL sO [] (by kernel_rfl) Fh.a trivial (by kernel_rfl) (fun _=>rfl) (fun k x=>by kernel_rfl)
theorem Fh.s (k:Nat):A4 Tryz.prog 135 (Fh.e k):=mkS (D:=Fh.d) (k:=k) sO [2] Tryz.func135 (Fh.a k) ⟨G3.s,trivial⟩ (by kernel_rfl) (by kernel_rfl) (fun x=>by kernel_rfl)
def Dy.e (k:Nat):Ent:=⟨4,[(.val true t17),(.val true t6),(.val false t22),(.val false (.i .i64))],[(.one,(.i .i64))],fun x=>Dy k x.1 x.2.1 x.2.2.1 x.2.2.2⟩
def Bp.p:LF:=⟨⟨[(4,(.bp 4 0 0)),(5,(.bp 5 0 0)),(9,(.bp 9 0 0)),(5999,(.hd 2)),(6999,(.hd 1)),(10999,(.hd 3))],[(2,t22),(3,(.i .i64)),(10,.b),(11,(.i .i64)),(5000,t17),(6000,t6),(10000,t16)]⟩,[(.ret,⟨[],[(8,(.i .i64))]⟩),((.exit 0),⟨[],[]⟩)],fun k x=>Bp k x.1 x.2.1 x.2.2.1 x.2.2.2.1 x.2.2.2.2.1 x.2.2.2.2.2.1 x.2.2.2.2.2.2⟩
def Dy.d:Fd := { nt:=60,nv:=4,nm:=[0,1,2,3,4,5,6,7,9,10,11,12,13],res:=[8],cs:=fun k=>[(74,Da.e k),(144,C3.e k)],ls:=[(3,Bp.p)],rf:=true }
theorem Dy.a (k:Nat):Li Tryz.prog (Dy.d.cs k):=⟨Da.s k,C3.s k,trivial⟩
theorem Bp.s:LK Tryz.prog Tryz.f136 Dy.d 3 Bp.p:=mkL sO [] (by kernel_rfl) Dy.a trivial (by kernel_rfl) (fun _=>rfl) (fun k x=>by kernel_rfl)
theorem Dy.s (k:Nat):A4 Tryz.prog 136 (Dy.e k):=mkS (D:=Dy.d) (k:=k) sO [3] Tryz.func136 (Dy.a k) ⟨Bp.s,trivial⟩ (by kernel_rfl) (by kernel_rfl) (fun x=>by kernel_rfl)
def C1.e (k:Nat):Ent:=⟨2,[(.val true t17),(.val false t22)],[(.agg,t18),(.one,(.i .i64))],fun x=>C1 k x.1 x.2⟩
def Au.p:LF:=⟨⟨[(4,(.bp 4 0 0)),(6,(.bp 6 0 0)),(5999,(.hd 2)),(7999,(.hd 2))],[(1,t22),(7,(.i .i64)),(8,(.i .i64)),(5000,t19),(7000,t18)]⟩,[((.exit 0),⟨[(4,(.bp 4 0 0)),(6,(.bp 6 0 0)),(5999,(.hd 2)),(7999,(.hd 2))],[(7,(.i .i64)),(5000,t19),(7000,t18)]⟩)],fun k x=>Au k x.1 x.2.1 x.2.2.1 x.2.2.2.1 x.2.2.2.2⟩
def C1.d:Fd := { nt:=82,nv:=2,nm:=[0,1,2,3,6,7,8,9,10,11,12],res:=[5],cs:=fun k=>[(114,Gw.e k),(133,Ii.e k),(134,Il.e k),(135,Fh.e k),(136,Dy.e k)],ls:=[(6,Au.p)],mv:=[19,80],rf:=true }
theorem C1.a (k:Nat):Li Tryz.prog (C1.d.cs k):=⟨Gw.s k,Ii.s k,Il.s k,Fh.s k,Dy.s k,trivial⟩
theorem Au.s:LK Tryz.prog Tryz.f99 C1.d 6 Au.p:=mkL sO [] (by kernel_rfl) C1.a trivial (by kernel_rfl) (fun _=>rfl) (fun k x=>by kernel_rfl)
theorem C1.s (k:Nat):A4 Tryz.prog 99 (C1.e k):=mkS (D:=C1.d) (k:=k) sO [6] Tryz.func99 (C1.a k) ⟨Au.s,trivial⟩ (by kernel_rfl) (by kernel_rfl) (fun x=>by kernel_rfl)
def G4.e (k:Nat):Ent:=⟨3,[(.ptr t46 t46),(.val false (.i .i64)),(.val false (.i .i64))],[(.one,.b)],fun x=>G4 k x.1 x.2.1 x.2.2⟩
def G4.d:Fd := { nt:=49,nv:=3,nm:=[0,1,2,3,4,5,7,8],res:=[6],cs:=fun k=>[(65,A8.e k),(99,C1.e k)],rf:=true }
theorem G4.s (k:Nat):A4 Tryz.prog 67 (G4.e k):=mkS (D:=G4.d) (k:=k) sO [] Tryz.func67 ⟨A8.s k,C1.s k,trivial⟩ trivial (by kernel_rfl) (by kernel_rfl) (fun x=>by kernel_rfl)
def Ho.e (k:Nat):Ent:=⟨2,[(.ptr t46 t46),(.val true t34)],[(.one,.b)],fun x=>Ho k x.1 x.2⟩
def Ho.d:Fd := { nt:=76,nv:=2,nm:=[0,1,2,3,5,6],res:=[4],cs:=fun k=>[(64,Gn.e k),(65,A8.e k),(66,Ao.e k),(67,G4.e k)],rf:=true }
theorem Ho.s (k:Nat):A4 Tryz.prog 35 (Ho.e k):=mkS (D:=Ho.d) (k:=k) sO [] Tryz.func35 ⟨Gn.s k,A8.s k,Ao.s k,G4.s k,trivial⟩ trivial (by kernel_rfl) (by kernel_rfl) (fun x=>by kernel_rfl)
def Ji.e (k:Nat):Ent:=⟨2,[(.ptr t21 t21),(.val false t0)],[(.one,.s)],fun x=>Ji x.1 x.2⟩
def Ji.d:Fd := { nt:=12,nv:=2,nm:=[0,1,2,3],res:=[4],cs:=fun k=>[(34,A9.e k)] }
theorem Ji.s (k:Nat):A4 Tryz.prog 100 (Ji.e k):=mkS (D:=Ji.d) (k:=k) sO [] Tryz.func100 ⟨A9.s k,trivial⟩ trivial (by kernel_rfl) (by kernel_rfl) (fun x=>by kernel_rfl)
def Ix.e (k:Nat):Ent:=⟨1,[(.ptr t21 t21)],[(.one,.s)],fun x=>Ix x⟩
def Ix.d:Fd := { nt:=6,nv:=1,nm:=[0,1],res:=[2],cs:=fun k=>[(100,Ji.e k)] }
theorem Ix.s (k:Nat):A4 Tryz.prog 68 (Ix.e k):=mkS (D:=Ix.d) (k:=k) sO [] Tryz.func68 ⟨Ji.s k,trivial⟩ trivial (by kernel_rfl) (by kernel_rfl) (fun x=>by kernel_rfl)
def Dz.e (k:Nat):Ent:=⟨1,[(.ptr t21 t21)],[(.one,t7)],fun x=>Dz k x⟩
def Em.p:LF:=⟨⟨[(0,(.bp 0 0 0)),(1999,(.hd 3))],[(3,t7),(4,(.i .i64)),(1000,t21)]⟩,[((.exit 0),⟨[(1999,(.hd 3))],[(3,t7),(1000,t21)]⟩)],fun k x=>Em k x.1 x.2.1 x.2.2⟩
def Dz.d:Fd := { nt:=17,nv:=1,nm:=[0,1,3,4],res:=[2],cs:=fun k=>[(61,Be.e k)],ls:=[(3,Em.p)],rf:=true }
theorem Dz.a (k:Nat):Li Tryz.prog (Dz.d.cs k):=⟨Be.s k,trivial⟩
theorem Em.s:LK Tryz.prog Tryz.f69 Dz.d 3 Em.p:=mkL sO [] (by kernel_rfl) Dz.a trivial (by kernel_rfl) (fun _=>rfl) (fun k x=>by kernel_rfl)
theorem Dz.s (k:Nat):A4 Tryz.prog 69 (Dz.e k):=mkS (D:=Dz.d) (k:=k) sO [3] Tryz.func69 (Dz.a k) ⟨Em.s,trivial⟩ (by kernel_rfl) (by kernel_rfl) (fun x=>by kernel_rfl)
def Ep.e (k:Nat):Ent:=⟨2,[(.ptr t21 t21),(.val false (.i .i64))],[(.one,t5)],fun x=>Ep k x.1 x.2⟩
def Eo.p:LF:=⟨⟨[(0,(.bp 0 0 0)),(1999,(.hd 3))],[(1,(.i .i64)),(5,t5),(6,(.i .i64)),(1000,t4),(1001,(.i .i64)),(1002,(.i .i64))]⟩,[((.exit 0),⟨[(1999,(.hd 3))],[(5,t5),(1000,t4),(1001,(.i .i64)),(1002,(.i .i64))]⟩)],fun k x=>Eo k x.1 x.2.1 x.2.2.1 x.2.2.2.1 x.2.2.2.2.1 x.2.2.2.2.2⟩
def Ep.d:Fd := { nt:=20,nv:=2,nm:=[0,1,2,3,5,6],res:=[4],cs:=fun k=>[(63,Eh.e k)],ls:=[(3,Eo.p)] }
theorem Ep.a (k:Nat):Li Tryz.prog (Ep.d.cs k):=⟨Eh.s k,trivial⟩
theorem Eo.s:LK Tryz.prog Tryz.f101 Ep.d 3 Eo.p:=mkL sO [] (by kernel_rfl) Ep.a trivial (by kernel_rfl) (fun _=>rfl) (fun k x=>by kernel_rfl)
theorem Ep.s (k:Nat):A4 Tryz.prog 101 (Ep.e k):=mkS (D:=Ep.d) (k:=k) sO [3] Tryz.func101 (Ep.a k) ⟨Eo.s,trivial⟩ (by kernel_rfl) (by kernel_rfl) (fun x=>by kernel_rfl)
def Er.e (k:Nat):Ent:=⟨1,[(.ptr t21 t21)],[(.one,t5)],fun x=>Er k x⟩
def Er.d:Fd := { nt:=8,nv:=1,nm:=[0,1],res:=[2],cs:=fun k=>[(61,Be.e k),(101,Ep.e k)] }
theorem Er.s (k:Nat):A4 Tryz.prog 70 (Er.e k):=mkS (D:=Er.d) (k:=k) sO [] Tryz.func70 ⟨Be.s k,Ep.s k,trivial⟩ trivial (by kernel_rfl) (by kernel_rfl) (fun x=>by kernel_rfl)
def Fe.e (k:Nat):Ent:=⟨1,[(.val true t27)],[(.one,t2)],fun x=>Fe k x⟩
def I8.p:LF:=⟨⟨[(1,(.bp 1 0 0)),(2999,(.hd 2))],[(3,t2),(4,(.i .i64)),(7,(.i .i64)),(2000,t27)]⟩,[((.exit 2),⟨[(1,(.bp 1 0 0)),(2999,(.hd 2))],[(3,t2),(4,(.i .i64)),(7,(.i .i64)),(2000,t27)]⟩)],fun k x=>I8 k x.1 x.2.1 x.2.2.1 x.2.2.2⟩
def Fo.p:LF:=⟨⟨[(1,(.bp 1 0 0)),(2999,(.hd 2))],[(3,t2),(4,(.i .i64)),(2000,t27)]⟩,[((.exit 0),⟨[],[(3,t2)]⟩)],fun k x=>Fo k x.1 x.2.1 x.2.2⟩
def Fe.d:Fd := { nt:=98,nv:=1,nm:=[0,1,3,4,5,6,7],res:=[2],cs:=fun k=>[(45,E7.e k),(76,Bw.e k),(79,Bn.e k)],ls:=[(9,I8.p),(3,Fo.p)],rf:=true }
theorem Fe.a (k:Nat):Li Tryz.prog (Fe.d.cs k):=⟨E7.s k,Bw.s k,Bn.s k,trivial⟩
theorem I8.s:LK Tryz.prog Tryz.f71 Fe.d 9 I8.p:=mkL sO [] (by kernel_rfl) Fe.a trivial (by kernel_rfl) (fun _=>rfl) (fun k x=>by kernel_rfl)
theorem Fo.s:LK Tryz.prog Tryz.f71 Fe.d 3 Fo.p:=mkL sO [9] (by kernel_rfl) Fe.a ⟨I8.s,trivial⟩ (by kernel_rfl) (fun _=>rfl) (fun k x=>by kernel_rfl)
theorem Fe.s (k:Nat):A4 Tryz.prog 71 (Fe.e k):=mkS (D:=Fe.d) (k:=k) sO [3] Tryz.func71 (Fe.a k) ⟨Fo.s,trivial⟩ (by kernel_rfl) (by kernel_rfl) (fun x=>by kernel_rfl)
def Dm.e (k:Nat):Ent:=⟨2,[(.ptr t21 t21),(.vw t46 2),(.hid t46 t46)],[(.agg,(.pr (.i .i64) (.pr (.i .i64) (.pr .s (.pr t5 (.pr (.i .i64) t7))))))],fun x=>Dm k x.1 x.2.1 x.2.2⟩
def Dm.d:Fd := { nt:=99,nv:=2,nm:=[0,1,2,3,5,6],res:=[],cs:=fun k=>[(34,A9.e k),(61,Be.e k),(68,Ix.e k),(69,Dz.e k),(70,Er.e k),(71,Fe.e k)],mv:=[1,98],rf:=true }
theorem Dm.s (k:Nat):A4 Tryz.prog 36 (Dm.e k):=mkS (D:=Dm.d) (k:=k) sO [] Tryz.func36 ⟨A9.s k,Be.s k,Ix.s k,Dz.s k,Er.s k,Fe.s k,trivial⟩ trivial (by kernel_rfl) (by kernel_rfl) (fun x=>by kernel_rfl)
def E3.e (k:Nat):Ent:=⟨2,[(.ptr t21 t21),(.val false (.i .i64))],[(.agg,t46)],fun x=>E3 k x.1 x.2⟩
def Es.p:LF:=⟨⟨[(0,(.bp 0 0 0)),(4,(.bp 4 0 0)),(5,(.bp 5 0 0)),(1999,(.hd 3)),(5999,(.hd 9)),(6999,(.hd 9))],[(6,(.i .i64)),(1000,t21),(5000,t45),(6000,t46)]⟩,[((.exit 0),⟨[(4,(.bp 4 0 0)),(5,(.bp 5 0 0)),(5999,(.hd 9)),(6999,(.hd 9)),(1999,(.hd 3))],[(5000,t45),(6000,t46),(1000,t21)]⟩)],fun k x=>Es k x.1 x.2.1 x.2.2.1 x.2.2.2⟩
def E3.d:Fd := { nt:=21,nv:=2,nm:=[0,1,2,3,5,6],res:=[],cs:=fun k=>[(33,Ir.e k),(34,A9.e k),(35,Ho.e k),(36,Dm.e k)],ls:=[(3,Es.p)],mv:=[20],rf:=true }
theorem E3.a (k:Nat):Li Tryz.prog (E3.d.cs k):=⟨Ir.s k,A9.s k,Ho.s k,Dm.s k,trivial⟩
theorem Es.s:LK Tryz.prog Tryz.f14 E3.d 3 Es.p:=mkL sO [] (by kernel_rfl) E3.a trivial (by kernel_rfl) (fun _=>rfl) (fun k x=>by kernel_rfl)
theorem E3.s (k:Nat):A4 Tryz.prog 14 (E3.e k):=mkS (D:=E3.d) (k:=k) sO [3] Tryz.func14 (E3.a k) ⟨Es.s,trivial⟩ (by kernel_rfl) (by kernel_rfl) (fun x=>by kernel_rfl)
def Iy.e (k:Nat):Ent:=⟨2,[(.val false t4),(.val false (.i .i64))],[(.one,(.i .i64))],fun x=>Iy x.1 x.2⟩
def Iy.d:Fd := { nt:=15,nv:=2,nm:=[0,1,2,3,5],res:=[4],rf:=true }
theorem Iy.s (k:Nat):A4 Tryz.prog 15 (Iy.e k):=mkS (D:=Iy.d) (k:=k) sO [] Tryz.func15 trivial trivial (by kernel_rfl) (by kernel_rfl) (fun x=>by kernel_rfl)
def G5.e (k:Nat):Ent:=⟨1,[(.val false t4)],[(.agg,t46)],fun x=>G5 k x⟩
def G5.d:Fd := { nt:=11,nv:=1,nm:=[0,1,3],res:=[],cs:=fun k=>[(13,J6.e k),(14,E3.e k),(15,Iy.e k)],rf:=true }
theorem G5.s (k:Nat):A4 Tryz.prog 5 (G5.e k):=mkS (D:=G5.d) (k:=k) sO [] Tryz.func5 ⟨J6.s k,E3.s k,Iy.s k,trivial⟩ trivial (by kernel_rfl) (by kernel_rfl) (fun x=>by kernel_rfl)
def Gu.e (k:Nat):Ent:=⟨2,[(.val false t4),(.val false (.i .i64))],[(.one,(.i .i64)),(.one,(.i .i64)),(.one,.b)],fun x=>Gu k x.1 x.2⟩
def F6.p:LF:=⟨⟨[],[(0,t4),(1,(.i .i64)),(7,(.i .i64)),(8,(.i .i64))]⟩,[(.ret,⟨[],[(4,(.i .i64)),(5,(.i .i64)),(6,.b)]⟩),((.exit 0),⟨[],[]⟩)],fun k x=>F6 k x.1 x.2.1 x.2.2.1 x.2.2.2⟩
def Gu.d:Fd := { nt:=57,nv:=2,nm:=[0,1,2,3,7,8,9],res:=[4,5,6],ls:=[(3,F6.p)] }
theorem F6.s:LK Tryz.prog Tryz.f111 Gu.d 3 F6.p:=mkL sO [] (by kernel_rfl) (fun _=>trivial) trivial (by kernel_rfl) (fun _=>rfl) (fun k x=>by kernel_rfl)
theorem Gu.s (k:Nat):A4 Tryz.prog 111 (Gu.e k):=mkS (D:=Gu.d) (k:=k) sO [3] Tryz.func111 trivial ⟨F6.s,trivial⟩ (by kernel_rfl) (by kernel_rfl) (fun x=>by kernel_rfl)
def Ca.e (k:Nat):Ent:=⟨1,[(.ptr t20 t20)],[(.one,(.i .i64))],fun x=>Ca k x⟩
def Ca.d:Fd := { nt:=35,nv:=1,nm:=[0,1,3,4,5],res:=[2],cs:=fun k=>[(111,Gu.e k)] }
theorem Ca.s (k:Nat):A4 Tryz.prog 81 (Ca.e k):=mkS (D:=Ca.d) (k:=k) sO [] Tryz.func81 ⟨Gu.s k,trivial⟩ trivial (by kernel_rfl) (by kernel_rfl) (fun x=>by kernel_rfl)
def Cw.e (k:Nat):Ent:=⟨1,[(.ptr t20 t20)],[(.agg,t16),(.one,.b)],fun x=>Cw k x⟩
def Cw.d:Fd := { nt:=31,nv:=1,nm:=[0,1,4,5],res:=[3],cs:=fun k=>[(81,Ca.e k)] }
theorem Cw.s (k:Nat):A4 Tryz.prog 47 (Cw.e k):=mkS (D:=Cw.d) (k:=k) sO [] Tryz.func47 ⟨Ca.s k,trivial⟩ trivial (by kernel_rfl) (by kernel_rfl) (fun x=>by kernel_rfl)
def I9.e (k:Nat):Ent:=⟨2,[(.val false t4),(.val false (.i .i64))],[(.one,.s),(.one,(.i .i64)),(.one,.b)],fun x=>I9 k x.1 x.2⟩
def I9.d:Fd := { nt:=37,nv:=2,nm:=[0,1,2,3,7,8,9],res:=[4,5,6],cs:=fun k=>[(111,Gu.e k)] }
theorem I9.s (k:Nat):A4 Tryz.prog 82 (I9.e k):=mkS (D:=I9.d) (k:=k) sO [] Tryz.func82 ⟨Gu.s k,trivial⟩ trivial (by kernel_rfl) (by kernel_rfl) (fun x=>by kernel_rfl)
def C4.e (k:Nat):Ent:=⟨1,[(.ptr t20 t20)],[(.one,.s)],fun x=>C4 k x⟩
def C4.d:Fd := { nt:=35,nv:=1,nm:=[0,1,3,4,5],res:=[2],cs:=fun k=>[(82,I9.e k)] }
theorem C4.s (k:Nat):A4 Tryz.prog 48 (C4.e k):=mkS (D:=C4.d) (k:=k) sO [] Tryz.func48 ⟨I9.s k,trivial⟩ trivial (by kernel_rfl) (by kernel_rfl) (fun x=>by kernel_rfl)
def G6.e (k:Nat):Ent:=⟨3,[(.val false (.i .i64)),(.val false (.i .i64)),(.val false (.i .i64))],[(.one,.b)],fun x=>G6 x.1 x.2.1 x.2.2⟩
def G6.d:Fd := { nt:=15,nv:=3,nm:=[0,1,2,3,4,5],res:=[6] }
theorem G6.s (k:Nat):A4 Tryz.prog 53 (G6.e k):=mkS (D:=G6.d) (k:=k) sO [] Tryz.func53 trivial trivial (by kernel_rfl) (by kernel_rfl) (fun x=>by kernel_rfl)
def D7.e (k:Nat):Ent:=⟨1,[(.val true t16)],[(.one,.b)],fun x=>D7 x⟩
def D7.d:Fd := { nt:=16,nv:=1,nm:=[0,1],res:=[2],cs:=fun k=>[(53,G6.e k)] }
theorem D7.s (k:Nat):A4 Tryz.prog 29 (D7.e k):=mkS (D:=D7.d) (k:=k) sO [] Tryz.func29 ⟨G6.s k,trivial⟩ trivial (by kernel_rfl) (by kernel_rfl) (fun x=>by kernel_rfl)
def Hb.e (k:Nat):Ent:=⟨1,[(.val true t25)],[(.one,.b)],fun x=>Hb x⟩
def Hb.d:Fd := { nt:=23,nv:=1,nm:=[0,1],res:=[2],cs:=fun k=>[(29,D7.e k)] }
theorem Hb.s (k:Nat):A4 Tryz.prog 56 (Hb.e k):=mkS (D:=Hb.d) (k:=k) sO [] Tryz.func56 ⟨D7.s k,trivial⟩ trivial (by kernel_rfl) (by kernel_rfl) (fun x=>by kernel_rfl)
def E8.e (k:Nat):Ent:=⟨2,[(.val false t5),(.val false (.i .i64))],[(.one,t5)],fun x=>E8 k x.1 x.2⟩
def G7.p:LF:=⟨⟨[],[(0,t5),(1,(.i .i64))]⟩,[((.exit 0),⟨[],[(0,t5),(1,(.i .i64))]⟩)],fun k x=>G7 k x.1 x.2⟩
def E8.d:Fd := { nt:=24,nv:=2,nm:=[0,1,2,3],res:=[4],ls:=[(2,G7.p)] }
theorem G7.s:LK Tryz.prog Tryz.f112 E8.d 2 G7.p:=mkL sO [] (by kernel_rfl) (fun _=>trivial) trivial (by kernel_rfl) (fun _=>rfl) (fun k x=>by kernel_rfl)
theorem E8.s (k:Nat):A4 Tryz.prog 112 (E8.e k):=mkS (D:=E8.d) (k:=k) sO [2] Tryz.func112 trivial ⟨G7.s,trivial⟩ (by kernel_rfl) (by kernel_rfl) (fun x=>by kernel_rfl)
def Ia.e (k:Nat):Ent:=⟨2,[(.val false t5),(.val false .s)],[(.one,t5)],fun x=>Ia k x.1 x.2⟩
def Ia.d:Fd := { nt:=11,nv:=2,nm:=[0,1,2,3],res:=[4],cs:=fun k=>[(112,E8.e k)] }
theorem Ia.s (k:Nat):A4 Tryz.prog 83 (Ia.e k):=mkS (D:=Ia.d) (k:=k) sO [] Tryz.func83 ⟨E8.s k,trivial⟩ trivial (by kernel_rfl) (by kernel_rfl) (fun x=>by kernel_rfl)
def M3.e (k:Nat):Ent:=⟨1,[(.val false .b)],[(.one,(.i .i64))],fun x=>M3 x⟩
def M3.d:Fd := { nt:=4,nv:=1,nm:=[0,1],res:=[2] }
theorem M3.s (k:Nat):A4 Tryz.prog 113 (M3.e k):=mkS (D:=M3.d) (k:=k) sO [] Tryz.func113 trivial trivial (by kernel_rfl) (by kernel_rfl) (fun x=>by kernel_rfl)
def Hc.e (k:Nat):Ent:=⟨3,[(.val false t5),(.val true t16),(.val false .b)],[(.one,t5)],fun x=>Hc k x.1 x.2.1 x.2.2⟩
def Hc.d:Fd := { nt:=20,nv:=3,nm:=[0,1,2,3,4,5],res:=[6],cs:=fun k=>[(112,E8.e k),(113,M3.e k)] }
theorem Hc.s (k:Nat):A4 Tryz.prog 84 (Hc.e k):=mkS (D:=Hc.d) (k:=k) sO [] Tryz.func84 ⟨E8.s k,M3.s k,trivial⟩ trivial (by kernel_rfl) (by kernel_rfl) (fun x=>by kernel_rfl)
def Kq.e (k:Nat):Ent:=⟨1,[(.val false t4)],[(.one,(.i .i64))],fun x=>Kq k x⟩
def Ij.p:LF:=⟨⟨[],[(3,(.i .u32)),(7,t4),(8,(.i .i64)),(9,(.i .i64)),(17,(.i .i64))]⟩,[((.exit 2),⟨[],[(3,(.i .u32)),(7,t4),(8,(.i .i64)),(9,(.i .i64))]⟩)],fun k x=>Ij k x.1 x.2.1 x.2.2.1 x.2.2.2.1 x.2.2.2.2⟩
def Iz.p:LF:=⟨⟨[],[(3,(.i .u32)),(7,t4),(8,(.i .i64)),(9,(.i .i64))]⟩,[((.exit 0),⟨[],[(3,(.i .u32))]⟩)],fun k x=>Iz k x.1 x.2.1 x.2.2.1 x.2.2.2⟩
def Kq.d:Fd := { nt:=32,nv:=1,nm:=[0,1,3,4,5,6],res:=[2],ls:=[(7,Ij.p),(3,Iz.p)] }
theorem Ij.s:LK Tryz.prog Tryz.f85 Kq.d 7 Ij.p:=mkL sO [] (by kernel_rfl) (fun _=>trivial) trivial (by kernel_rfl) (fun _=>rfl) (fun k x=>by kernel_rfl)
theorem Iz.s:LK Tryz.prog Tryz.f85 Kq.d 3 Iz.p:=mkL sO [7] (by kernel_rfl) (fun _=>trivial) ⟨Ij.s,trivial⟩ (by kernel_rfl) (fun _=>rfl) (fun k x=>by kernel_rfl)
theorem Kq.s (k:Nat):A4 Tryz.prog 85 (Kq.e k):=mkS (D:=Kq.d) (k:=k) sO [3] Tryz.func85 trivial ⟨Iz.s,trivial⟩ (by kernel_rfl) (by kernel_rfl) (fun x=>by kernel_rfl)
def Ib.e (k:Nat):Ent:=⟨1,[(.val true t25)],[(.one,t5)],fun x=>Ib k x⟩
def Ib.d:Fd := { nt:=33,nv:=1,nm:=[0,1,3,4],res:=[2],cs:=fun k=>[(56,Hb.e k),(83,Ia.e k),(84,Hc.e k),(85,Kq.e k)] }
theorem Ib.s (k:Nat):A4 Tryz.prog 49 (Ib.e k):=mkS (D:=Ib.d) (k:=k) sO [] Tryz.func49 ⟨Hb.s k,Ia.s k,Hc.s k,Kq.s k,trivial⟩ trivial (by kernel_rfl) (by kernel_rfl) (fun x=>by kernel_rfl)
def Fp.e (k:Nat):Ent:=⟨1,[(.val false t4)],[(.agg,t25),(.one,.b)],fun x=>Fp k x⟩
def Fp.d:Fd := { nt:=41,nv:=1,nm:=[0,1,4,5,6],res:=[3],cs:=fun k=>[(47,Cw.e k),(48,C4.e k),(49,Ib.e k)] }
theorem Fp.s (k:Nat):A4 Tryz.prog 21 (Fp.e k):=mkS (D:=Fp.d) (k:=k) sO [] Tryz.func21 ⟨Cw.s k,C4.s k,Ib.s k,trivial⟩ trivial (by kernel_rfl) (by kernel_rfl) (fun x=>by kernel_rfl)
def Hd.e (k:Nat):Ent:=⟨2,[(.val true t25),(.val true t25)],[(.one,.b)],fun x=>Hd x.1 x.2⟩
def Hd.d:Fd := { nt:=26,nv:=2,nm:=[0,1,2,3],res:=[4],rf:=true }
theorem Hd.s (k:Nat):A4 Tryz.prog 50 (Hd.e k):=mkS (D:=Hd.d) (k:=k) sO [] Tryz.func50 trivial trivial (by kernel_rfl) (by kernel_rfl) (fun x=>by kernel_rfl)
def C2.e (k:Nat):Ent:=⟨3,[(.val true t43),(.val false .s),(.val true t25)],[(.one,.b)],fun x=>C2 k x.1 x.2.1 x.2.2⟩
def C5.p:LF:=⟨⟨[(5,(.bp 5 0 0)),(6999,(.hd 5))],[(1,.s),(10,t35),(11,(.i .i64)),(12,(.i .i64)),(6000,t25)]⟩,[(.ret,⟨[],[(6,.b)]⟩),((.exit 0),⟨[],[]⟩)],fun k x=>C5 k x.1 x.2.1 x.2.2.1 x.2.2.2.1 x.2.2.2.2⟩
def C2.d:Fd := { nt:=27,nv:=3,nm:=[0,1,2,3,4,5,7,8],res:=[6],cs:=fun k=>[(50,Hd.e k)],ls:=[(2,C5.p)],rf:=true }
theorem C2.a (k:Nat):Li Tryz.prog (C2.d.cs k):=⟨Hd.s k,trivial⟩
theorem C5.s:LK Tryz.prog Tryz.f22 C2.d 2 C5.p:=mkL sO [] (by kernel_rfl) C2.a trivial (by kernel_rfl) (fun _=>rfl) (fun k x=>by kernel_rfl)
theorem C2.s (k:Nat):A4 Tryz.prog 22 (C2.e k):=mkS (D:=C2.d) (k:=k) sO [2] Tryz.func22 (C2.a k) ⟨C5.s,trivial⟩ (by kernel_rfl) (by kernel_rfl) (fun x=>by kernel_rfl)
def Bh.e (k:Nat):Ent:=⟨1,[(.val true t43)],[(.one,.b)],fun x=>Bh k x⟩
def Dn.p:LF:=⟨⟨[(1,(.bp 1 0 0)),(2999,(.hd 9))],[(10,t40),(11,(.i .i64)),(12,(.i .i64)),(23,t14),(24,(.i .i64)),(25,(.i .i64)),(2000,t43)]⟩,[(.ret,⟨[],[(2,.b)]⟩),((.exit 2),⟨[(1,(.bp 1 0 0)),(2999,(.hd 9))],[(10,t40),(11,(.i .i64)),(12,(.i .i64)),(2000,t43)]⟩)],fun k x=>Dn k x.1 x.2.1 x.2.2.1 x.2.2.2.1 x.2.2.2.2.1 x.2.2.2.2.2.1 x.2.2.2.2.2.2⟩
def Et.p:LF:=⟨⟨[(1,(.bp 1 0 0)),(2999,(.hd 9))],[(10,t40),(11,(.i .i64)),(12,(.i .i64)),(2000,t43)]⟩,[(.ret,⟨[],[(2,.b)]⟩),((.exit 0),⟨[],[]⟩)],fun k x=>Et k x.1 x.2.1 x.2.2.1 x.2.2.2⟩
def Bh.d:Fd := { nt:=46,nv:=1,nm:=[0,1,3,4,5,6,7,8],res:=[2],cs:=fun k=>[(21,Fp.e k),(22,C2.e k)],ls:=[(5,Dn.p),(2,Et.p)],rf:=true }
theorem Bh.a (k:Nat):Li Tryz.prog (Bh.d.cs k):=⟨Fp.s k,C2.s k,trivial⟩
theorem Dn.s:LK Tryz.prog Tryz.f8 Bh.d 5 Dn.p:=mkL sO [] (by kernel_rfl) Bh.a trivial (by kernel_rfl) (fun _=>rfl) (fun k x=>by kernel_rfl)
theorem Et.s:LK Tryz.prog Tryz.f8 Bh.d 2 Et.p:=mkL sO [5] (by kernel_rfl) Bh.a ⟨Dn.s,trivial⟩ (by kernel_rfl) (fun _=>rfl) (fun k x=>by kernel_rfl)
theorem Bh.s (k:Nat):A4 Tryz.prog 8 (Bh.e k):=mkS (D:=Bh.d) (k:=k) sO [2] Tryz.func8 (Bh.a k) ⟨Et.s,trivial⟩ (by kernel_rfl) (by kernel_rfl) (fun x=>by kernel_rfl)
def He.e (k:Nat):Ent:=⟨1,[(.val false t31)],[(.one,t32)],fun x=>He x⟩
def He.d:Fd := { nt:=5,nv:=1,nm:=[0,1],res:=[2] }
theorem He.s (k:Nat):A4 Tryz.prog 23 (He.e k):=mkS (D:=He.d) (k:=k) sO [] Tryz.func23 trivial trivial (by kernel_rfl) (by kernel_rfl) (fun x=>by kernel_rfl)
def Jv.e (k:Nat):Ent:=⟨2,[(.val false .s),(.val true t25)],[(.agg,t28)],fun x=>Jv x.1 x.2⟩
def Jv.d:Fd := { nt:=14,nv:=2,nm:=[0,1,2,3],res:=[],rf:=true }
theorem Jv.s (k:Nat):A4 Tryz.prog 24 (Jv.e k):=mkS (D:=Jv.d) (k:=k) sO [] Tryz.func24 trivial trivial (by kernel_rfl) (by kernel_rfl) (fun x=>by kernel_rfl)
def Bq.e (k:Nat):Ent:=⟨1,[(.val true t43)],[(.one,.b)],fun x=>Bq k x⟩
def D6.p:LF:=⟨⟨[(1,(.bp 1 0 0)),(6,(.bp 6 0 0)),(2999,(.hd 9)),(7999,(.hd 6))],[(7,.b),(11,t40),(12,(.i .i64)),(13,(.i .i64)),(22,t32),(23,(.i .i64)),(24,(.i .i64)),(29,t35),(30,(.i .i64)),(31,(.i .i64)),(2000,t43),(7000,t28)]⟩,[((.exit 4),⟨[(1,(.bp 1 0 0)),(2999,(.hd 9))],[(7,.b),(11,t40),(12,(.i .i64)),(13,(.i .i64)),(22,t32),(23,(.i .i64)),(24,(.i .i64)),(2000,t43)]⟩)],fun k x=>D6 k x.1 x.2.1 x.2.2.1 x.2.2.2.1 x.2.2.2.2.1 x.2.2.2.2.2.1 x.2.2.2.2.2.2.1 x.2.2.2.2.2.2.2.1 x.2.2.2.2.2.2.2.2.1 x.2.2.2.2.2.2.2.2.2.1 x.2.2.2.2.2.2.2.2.2.2.1 x.2.2.2.2.2.2.2.2.2.2.2⟩
def G8.p:LF:=⟨⟨[(1,(.bp 1 0 0)),(2999,(.hd 9))],[(11,t40),(12,(.i .i64)),(13,(.i .i64)),(22,t32),(23,(.i .i64)),(24,(.i .i64)),(2000,t43)]⟩,[(.ret,⟨[],[(2,.b)]⟩),((.exit 2),⟨[(1,(.bp 1 0 0)),(2999,(.hd 9))],[(11,t40),(12,(.i .i64)),(13,(.i .i64)),(2000,t43)]⟩)],fun k x=>G8 k x.1 x.2.1 x.2.2.1 x.2.2.2.1 x.2.2.2.2.1 x.2.2.2.2.2.1 x.2.2.2.2.2.2⟩
def G9.p:LF:=⟨⟨[(1,(.bp 1 0 0)),(2999,(.hd 9))],[(11,t40),(12,(.i .i64)),(13,(.i .i64)),(2000,t43)]⟩,[(.ret,⟨[],[(2,.b)]⟩),((.exit 0),⟨[],[]⟩)],fun k x=>G9 k x.1 x.2.1 x.2.2.1 x.2.2.2⟩
def Bq.d:Fd := { nt:=50,nv:=1,nm:=[0,1,3,4,5,6,7,8,9],res:=[2],cs:=fun k=>[(23,He.e k),(24,Jv.e k)],ls:=[(9,D6.p),(5,G8.p),(2,G9.p)],rf:=true }
theorem Bq.a (k:Nat):Li Tryz.prog (Bq.d.cs k):=⟨He.s k,Jv.s k,trivial⟩
theorem D6.s:LK Tryz.prog Tryz.f9 Bq.d 9 D6.p:=mkL sO [] (by kernel_rfl) Bq.a trivial (by kernel_rfl) (fun _=>rfl) (fun k x=>by kernel_rfl)
theorem G8.s:LK Tryz.prog Tryz.f9 Bq.d 5 G8.p:=mkL sO [9] (by kernel_rfl) Bq.a ⟨D6.s,trivial⟩ (by kernel_rfl) (fun _=>rfl) (fun k x=>by kernel_rfl)
theorem G9.s:LK Tryz.prog Tryz.f9 Bq.d 2 G9.p:=mkL sO [5] (by kernel_rfl) Bq.a ⟨G8.s,trivial⟩ (by kernel_rfl) (fun _=>rfl) (fun k x=>by kernel_rfl)
theorem Bq.s (k:Nat):A4 Tryz.prog 9 (Bq.e k):=mkS (D:=Bq.d) (k:=k) sO [2] Tryz.func9 (Bq.a k) ⟨G9.s,trivial⟩ (by kernel_rfl) (by kernel_rfl) (fun x=>by kernel_rfl)
def Hp.e (k:Nat):Ent:=⟨2,[(.val false t0),(.val false .s)],[(.one,.b)],fun x=>Hp k x.1 x.2⟩
def Eu.p:LF:=⟨⟨[],[(1,.s),(7,t0),(8,(.i .i64)),(9,(.i .i64))]⟩,[(.ret,⟨[],[(4,.b)]⟩),((.exit 0),⟨[],[]⟩)],fun k x=>Eu k x.1 x.2.1 x.2.2.1 x.2.2.2⟩
def Hp.d:Fd := { nt:=17,nv:=2,nm:=[0,1,2,3,5,6],res:=[4],ls:=[(2,Eu.p)],rf:=true }
theorem Eu.s:LK Tryz.prog Tryz.f25 Hp.d 2 Eu.p:=mkL sO [] (by kernel_rfl) (fun _=>trivial) trivial (by kernel_rfl) (fun _=>rfl) (fun k x=>by kernel_rfl)
theorem Hp.s (k:Nat):A4 Tryz.prog 25 (Hp.e k):=mkS (D:=Hp.d) (k:=k) sO [2] Tryz.func25 trivial ⟨Eu.s,trivial⟩ (by kernel_rfl) (by kernel_rfl) (fun x=>by kernel_rfl)
def Ba.e (k:Nat):Ent:=⟨2,[(.val true t16),(.val true t16)],[(.one,.b)],fun x=>Ba x.1 x.2⟩
def Ba.d:Fd := { nt:=32,nv:=2,nm:=[0,1,2,3],res:=[4] }
theorem Ba.s (k:Nat):A4 Tryz.prog 27 (Ba.e k):=mkS (D:=Ba.d) (k:=k) sO [] Tryz.func27 trivial trivial (by kernel_rfl) (by kernel_rfl) (fun x=>by kernel_rfl)
def Mc.e (k:Nat):Ent:=⟨2,[(.val false t13),(.val false .s)],[(.one,(.i .i64))],fun x=>Mc k x.1 x.2⟩
def Jj.p:LF:=⟨⟨[],[(1,.s),(7,t13),(8,(.i .i64)),(9,(.i .i64))]⟩,[(.ret,⟨[],[(4,(.i .i64))]⟩),((.exit 0),⟨[],[]⟩)],fun k x=>Jj k x.1 x.2.1 x.2.2.1 x.2.2.2⟩
def Mc.d:Fd := { nt:=20,nv:=2,nm:=[0,1,2,3,5,6],res:=[4],ls:=[(2,Jj.p)] }
theorem Jj.s:LK Tryz.prog Tryz.f51 Mc.d 2 Jj.p:=mkL sO [] (by kernel_rfl) (fun _=>trivial) trivial (by kernel_rfl) (fun _=>rfl) (fun k x=>by kernel_rfl)
theorem Mc.s (k:Nat):A4 Tryz.prog 51 (Mc.e k):=mkS (D:=Mc.d) (k:=k) sO [2] Tryz.func51 trivial ⟨Jj.s,trivial⟩ (by kernel_rfl) (by kernel_rfl) (fun x=>by kernel_rfl)
def Hm.e (k:Nat):Ent:=⟨3,[(.val true t43),(.val false .s),(.val true t16)],[(.one,.b)],fun x=>Hm k x.1 x.2.1 x.2.2⟩
def Fa.p:LF:=⟨⟨[(5,(.bp 5 0 0)),(6999,(.hd 3))],[(1,.s),(13,t40),(14,(.i .i64)),(15,(.i .i64)),(6000,t16)]⟩,[(.ret,⟨[],[(6,.b)]⟩),((.exit 0),⟨[],[]⟩)],fun k x=>Fa k x.1 x.2.1 x.2.2.1 x.2.2.2.1 x.2.2.2.2⟩
def Hm.d:Fd := { nt:=46,nv:=3,nm:=[0,1,2,3,4,5,7,8,9,10,11],res:=[6],cs:=fun k=>[(21,Fp.e k),(27,Ba.e k),(51,Mc.e k)],ls:=[(2,Fa.p)],rf:=true }
theorem Hm.a (k:Nat):Li Tryz.prog (Hm.d.cs k):=⟨Fp.s k,Ba.s k,Mc.s k,trivial⟩
theorem Fa.s:LK Tryz.prog Tryz.f26 Hm.d 2 Fa.p:=mkL sO [] (by kernel_rfl) Hm.a trivial (by kernel_rfl) (fun _=>rfl) (fun k x=>by kernel_rfl)
theorem Hm.s (k:Nat):A4 Tryz.prog 26 (Hm.e k):=mkS (D:=Hm.d) (k:=k) sO [2] Tryz.func26 (Hm.a k) ⟨Fa.s,trivial⟩ (by kernel_rfl) (by kernel_rfl) (fun x=>by kernel_rfl)
def Hf.e (k:Nat):Ent:=⟨1,[(.val true t43)],[(.one,.b)],fun x=>Hf k x⟩
def Gz.p:LF:=⟨⟨[(1,(.bp 1 0 0)),(2999,(.hd 9))],[(6,t35),(7,(.i .i64)),(8,(.i .i64)),(2000,t43)]⟩,[(.ret,⟨[],[(2,.b)]⟩),((.exit 0),⟨[],[]⟩)],fun k x=>Gz k x.1 x.2.1 x.2.2.1 x.2.2.2⟩
def Hf.d:Fd := { nt:=33,nv:=1,nm:=[0,1,3,4],res:=[2],cs:=fun k=>[(25,Hp.e k),(26,Hm.e k)],ls:=[(2,Gz.p)],rf:=true }
theorem Hf.a (k:Nat):Li Tryz.prog (Hf.d.cs k):=⟨Hp.s k,Hm.s k,trivial⟩
theorem Gz.s:LK Tryz.prog Tryz.f10 Hf.d 2 Gz.p:=mkL sO [] (by kernel_rfl) Hf.a trivial (by kernel_rfl) (fun _=>rfl) (fun k x=>by kernel_rfl)
theorem Hf.s (k:Nat):A4 Tryz.prog 10 (Hf.e k):=mkS (D:=Hf.d) (k:=k) sO [2] Tryz.func10 (Hf.a k) ⟨Gz.s,trivial⟩ (by kernel_rfl) (by kernel_rfl) (fun x=>by kernel_rfl)
def Cb.e (k:Nat):Ent:=⟨1,[(.val true t43)],[(.one,.b)],fun x=>Cb k x⟩
def Dp.p:LF:=⟨⟨[(1,(.bp 1 0 0)),(2999,(.hd 9))],[(6,t35),(7,(.i .i64)),(8,(.i .i64)),(2000,t43)]⟩,[(.ret,⟨[],[(2,.b)]⟩),((.exit 0),⟨[],[]⟩)],fun k x=>Dp k x.1 x.2.1 x.2.2.1 x.2.2.2⟩
def Cb.d:Fd := { nt:=39,nv:=1,nm:=[0,1,3,4],res:=[2],cs:=fun k=>[(27,Ba.e k)],ls:=[(2,Dp.p)],rf:=true }
theorem Cb.a (k:Nat):Li Tryz.prog (Cb.d.cs k):=⟨Ba.s k,trivial⟩
theorem Dp.s:LK Tryz.prog Tryz.f11 Cb.d 2 Dp.p:=mkL sO [] (by kernel_rfl) Cb.a trivial (by kernel_rfl) (fun _=>rfl) (fun k x=>by kernel_rfl)
theorem Cb.s (k:Nat):A4 Tryz.prog 11 (Cb.e k):=mkS (D:=Cb.d) (k:=k) sO [2] Tryz.func11 (Cb.a k) ⟨Dp.s,trivial⟩ (by kernel_rfl) (by kernel_rfl) (fun x=>by kernel_rfl)
def Fi.e (k:Nat):Ent:=⟨1,[(.val false t22)],[(.one,.b)],fun x=>Fi k x⟩
def F7.p:LF:=⟨⟨[],[(0,t22),(5,t22),(6,(.i .i64)),(7,(.i .i64))]⟩,[(.ret,⟨[],[(2,.b)]⟩),((.exit 0),⟨[],[(0,t22)]⟩)],fun k x=>F7 k x.1 x.2.1 x.2.2.1 x.2.2.2⟩
def Fi.d:Fd := { nt:=47,nv:=1,nm:=[0,1,3,4],res:=[2],cs:=fun k=>[(53,G6.e k)],ls:=[(2,F7.p)],rf:=true }
theorem Fi.a (k:Nat):Li Tryz.prog (Fi.d.cs k):=⟨G6.s k,trivial⟩
theorem F7.s:LK Tryz.prog Tryz.f52 Fi.d 2 F7.p:=mkL sO [] (by kernel_rfl) Fi.a trivial (by kernel_rfl) (fun _=>rfl) (fun k x=>by kernel_rfl)
theorem Fi.s (k:Nat):A4 Tryz.prog 52 (Fi.e k):=mkS (D:=Fi.d) (k:=k) sO [2] Tryz.func52 (Fi.a k) ⟨F7.s,trivial⟩ (by kernel_rfl) (by kernel_rfl) (fun x=>by kernel_rfl)
def Ik.e (k:Nat):Ent:=⟨2,[(.val false t6),(.val false (.i .i64))],[(.one,.b)],fun x=>Ik k x.1 x.2⟩
def Ga.p:LF:=⟨⟨[],[(1,(.i .i64)),(7,t6),(8,(.i .i64)),(9,(.i .i64))]⟩,[(.ret,⟨[],[(4,.b)]⟩),((.exit 0),⟨[],[]⟩)],fun k x=>Ga k x.1 x.2.1 x.2.2.1 x.2.2.2⟩
def Ik.d:Fd := { nt:=17,nv:=2,nm:=[0,1,2,3,5,6],res:=[4],ls:=[(2,Ga.p)],rf:=true }
theorem Ga.s:LK Tryz.prog Tryz.f86 Ik.d 2 Ga.p:=mkL sO [] (by kernel_rfl) (fun _=>trivial) trivial (by kernel_rfl) (fun _=>rfl) (fun k x=>by kernel_rfl)
theorem Ik.s (k:Nat):A4 Tryz.prog 86 (Ik.e k):=mkS (D:=Ik.d) (k:=k) sO [2] Tryz.func86 trivial ⟨Ga.s,trivial⟩ (by kernel_rfl) (by kernel_rfl) (fun x=>by kernel_rfl)
def Hn.e (k:Nat):Ent:=⟨1,[(.val false t6)],[(.one,.b)],fun x=>Hn k x⟩
def Hg.p:LF:=⟨⟨[],[(0,t6),(5,t6),(6,(.i .i64)),(7,(.i .i64))]⟩,[(.ret,⟨[],[(2,.b)]⟩),((.exit 0),⟨[],[]⟩)],fun k x=>Hg k x.1 x.2.1 x.2.2.1 x.2.2.2⟩
def Hn.d:Fd := { nt:=18,nv:=1,nm:=[0,1,3,4],res:=[2],cs:=fun k=>[(86,Ik.e k)],ls:=[(2,Hg.p)],rf:=true }
theorem Hn.a (k:Nat):Li Tryz.prog (Hn.d.cs k):=⟨Ik.s k,trivial⟩
theorem Hg.s:LK Tryz.prog Tryz.f54 Hn.d 2 Hg.p:=mkL sO [] (by kernel_rfl) Hn.a trivial (by kernel_rfl) (fun _=>rfl) (fun k x=>by kernel_rfl)
theorem Hn.s (k:Nat):A4 Tryz.prog 54 (Hn.e k):=mkS (D:=Hn.d) (k:=k) sO [2] Tryz.func54 (Hn.a k) ⟨Hg.s,trivial⟩ (by kernel_rfl) (by kernel_rfl) (fun x=>by kernel_rfl)
def J7.e (k:Nat):Ent:=⟨2,[(.val false t22),(.val false (.i .i64))],[(.agg,t16),(.one,.b)],fun x=>J7 k x.1 x.2⟩
def Hh.p:LF:=⟨⟨[(4,(.bp 4 0 0)),(5999,(.hd 3))],[(1,(.i .i64)),(8,t22),(9,(.i .i64)),(10,(.i .i64)),(5000,t16)]⟩,[(.ret,⟨[(4,(.bp 4 0 0)),(5999,(.hd 3))],[(5,.b),(5000,t16)]⟩),((.exit 0),⟨[(4,(.bp 4 0 0)),(5999,(.hd 3))],[(5000,t16)]⟩)],fun k x=>Hh k x.1 x.2.1 x.2.2.1 x.2.2.2.1 x.2.2.2.2⟩
def J7.d:Fd := { nt:=21,nv:=2,nm:=[0,1,2,3,6,7],res:=[5],ls:=[(2,Hh.p)],rf:=true }
theorem Hh.s:LK Tryz.prog Tryz.f55 J7.d 2 Hh.p:=mkL sO [] (by kernel_rfl) (fun _=>trivial) trivial (by kernel_rfl) (fun _=>rfl) (fun k x=>by kernel_rfl)
theorem J7.s (k:Nat):A4 Tryz.prog 55 (J7.e k):=mkS (D:=J7.d) (k:=k) sO [2] Tryz.func55 trivial ⟨Hh.s,trivial⟩ (by kernel_rfl) (by kernel_rfl) (fun x=>by kernel_rfl)
def E9.e (k:Nat):Ent:=⟨2,[(.val true t17),(.val false t22)],[(.one,.b)],fun x=>E9 k x.1 x.2⟩
def Gb.p:LF:=⟨⟨[(2,(.bp 2 0 0)),(3999,(.hd 2))],[(1,t22),(28,t10),(29,(.i .i64)),(30,(.i .i64)),(47,t6),(48,(.i .i64)),(49,(.i .i64)),(3000,t17)]⟩,[(.ret,⟨[],[(4,.b)]⟩),((.exit 2),⟨[(2,(.bp 2 0 0)),(3999,(.hd 2))],[(1,t22),(28,t10),(29,(.i .i64)),(30,(.i .i64)),(3000,t17)]⟩)],fun k x=>Gb k x.1 x.2.1 x.2.2.1 x.2.2.2.1 x.2.2.2.2.1 x.2.2.2.2.2.1 x.2.2.2.2.2.2.1 x.2.2.2.2.2.2.2⟩
def Gc.p:LF:=⟨⟨[(2,(.bp 2 0 0)),(3999,(.hd 2))],[(1,t22),(28,t10),(29,(.i .i64)),(30,(.i .i64)),(3000,t17)]⟩,[(.ret,⟨[],[(4,.b)]⟩),((.exit 0),⟨[],[]⟩)],fun k x=>Gc k x.1 x.2.1 x.2.2.1 x.2.2.2.1 x.2.2.2.2⟩
def E9.d:Fd := { nt:=63,nv:=2,nm:=[0,1,2,3,5,6,7,8,9,10],res:=[4],cs:=fun k=>[(52,Fi.e k),(53,G6.e k),(54,Hn.e k),(55,J7.e k)],ls:=[(9,Gb.p),(4,Gc.p)],rf:=true }
theorem E9.a (k:Nat):Li Tryz.prog (E9.d.cs k):=⟨Fi.s k,G6.s k,Hn.s k,J7.s k,trivial⟩
theorem Gb.s:LK Tryz.prog Tryz.f28 E9.d 9 Gb.p:=mkL sO [] (by kernel_rfl) E9.a trivial (by kernel_rfl) (fun _=>rfl) (fun k x=>by kernel_rfl)
theorem Gc.s:LK Tryz.prog Tryz.f28 E9.d 4 Gc.p:=mkL sO [9] (by kernel_rfl) E9.a ⟨Gb.s,trivial⟩ (by kernel_rfl) (fun _=>rfl) (fun k x=>by kernel_rfl)
theorem E9.s (k:Nat):A4 Tryz.prog 28 (E9.e k):=mkS (D:=E9.d) (k:=k) sO [4] Tryz.func28 (E9.a k) ⟨Gc.s,trivial⟩ (by kernel_rfl) (by kernel_rfl) (fun x=>by kernel_rfl)
def Bc.e (k:Nat):Ent:=⟨1,[(.val false .s)],[(.one,.b)],fun x=>Bc k x⟩
def Ad.p:LF:=⟨⟨[],[(0,.s),(3,(.i .i64))]⟩,[(.ret,⟨[],[(2,.b)]⟩),((.exit 0),⟨[],[(0,.s)]⟩)],fun k x=>Ad k x.1 x.2⟩
def Bc.d:Fd := { nt:=45,nv:=1,nm:=[0,1,3,4],res:=[2],cs:=fun k=>[(53,G6.e k)],ls:=[(2,Ad.p)] }
theorem Bc.a (k:Nat):Li Tryz.prog (Bc.d.cs k):=⟨G6.s k,trivial⟩
theorem Ad.s:LK Tryz.prog Tryz.f32 Bc.d 2 Ad.p:=mkL sO [] (by kernel_rfl) Bc.a trivial (by kernel_rfl) (fun _=>rfl) (fun k x=>by kernel_rfl)
theorem Bc.s (k:Nat):A4 Tryz.prog 32 (Bc.e k):=mkS (D:=Bc.d) (k:=k) sO [2] Tryz.func32 (Bc.a k) ⟨Ad.s,trivial⟩ (by kernel_rfl) (by kernel_rfl) (fun x=>by kernel_rfl)
def Cl.e (k:Nat):Ent:=⟨1,[(.val true t43)],[(.one,.b)],fun x=>Cl k x⟩
def Dq.p:LF:=⟨⟨[(1,(.bp 1 0 0)),(2999,(.hd 9))],[(6,t35),(7,(.i .i64)),(8,(.i .i64)),(2000,t43)]⟩,[(.ret,⟨[],[(2,.b)]⟩),((.exit 0),⟨[(1,(.bp 1 0 0)),(2999,(.hd 9))],[(2000,t43)]⟩)],fun k x=>Dq k x.1 x.2.1 x.2.2.1 x.2.2.2⟩
def Cl.d:Fd := { nt:=35,nv:=1,nm:=[0,1,3,4],res:=[2],cs:=fun k=>[(27,Ba.e k),(32,Bc.e k),(56,Hb.e k)],ls:=[(2,Dq.p)],rf:=true }
theorem Cl.a (k:Nat):Li Tryz.prog (Cl.d.cs k):=⟨Ba.s k,Bc.s k,Hb.s k,trivial⟩
theorem Dq.s:LK Tryz.prog Tryz.f30 Cl.d 2 Dq.p:=mkL sO [] (by kernel_rfl) Cl.a trivial (by kernel_rfl) (fun _=>rfl) (fun k x=>by kernel_rfl)
theorem Cl.s (k:Nat):A4 Tryz.prog 30 (Cl.e k):=mkS (D:=Cl.d) (k:=k) sO [2] Tryz.func30 (Cl.a k) ⟨Dq.s,trivial⟩ (by kernel_rfl) (by kernel_rfl) (fun x=>by kernel_rfl)
def Ig.e (k:Nat):Ent:=⟨1,[(.val true t28)],[(.one,.b)],fun x=>Ig k x⟩
def Ig.d:Fd := { nt:=26,nv:=1,nm:=[0,1],res:=[2],cs:=fun k=>[(29,D7.e k),(32,Bc.e k),(53,G6.e k)] }
theorem Ig.s (k:Nat):A4 Tryz.prog 57 (Ig.e k):=mkS (D:=Ig.d) (k:=k) sO [] Tryz.func57 ⟨D7.s k,Bc.s k,G6.s k,trivial⟩ trivial (by kernel_rfl) (by kernel_rfl) (fun x=>by kernel_rfl)
def D8.e (k:Nat):Ent:=⟨1,[(.val false t13)],[(.one,.b)],fun x=>D8 k x⟩
def Dr.p:LF:=⟨⟨[],[(0,t13),(5,t13),(6,(.i .i64)),(7,(.i .i64))]⟩,[(.ret,⟨[],[(2,.b)]⟩),((.exit 0),⟨[],[(0,t13)]⟩)],fun k x=>Dr k x.1 x.2.1 x.2.2.1 x.2.2.2⟩
def D8.d:Fd := { nt:=41,nv:=1,nm:=[0,1,3,4],res:=[2],cs:=fun k=>[(32,Bc.e k)],ls:=[(2,Dr.p)] }
theorem D8.a (k:Nat):Li Tryz.prog (D8.d.cs k):=⟨Bc.s k,trivial⟩
theorem Dr.s:LK Tryz.prog Tryz.f87 D8.d 2 Dr.p:=mkL sO [] (by kernel_rfl) D8.a trivial (by kernel_rfl) (fun _=>rfl) (fun k x=>by kernel_rfl)
theorem D8.s (k:Nat):A4 Tryz.prog 87 (D8.e k):=mkS (D:=D8.d) (k:=k) sO [2] Tryz.func87 (D8.a k) ⟨Dr.s,trivial⟩ (by kernel_rfl) (by kernel_rfl) (fun x=>by kernel_rfl)
def J0.e (k:Nat):Ent:=⟨1,[(.val true t27)],[(.one,.b)],fun x=>J0 k x⟩
def J0.d:Fd := { nt:=11,nv:=1,nm:=[0,1],res:=[2],cs:=fun k=>[(87,D8.e k)] }
theorem J0.s (k:Nat):A4 Tryz.prog 58 (J0.e k):=mkS (D:=J0.d) (k:=k) sO [] Tryz.func58 ⟨D8.s k,trivial⟩ trivial (by kernel_rfl) (by kernel_rfl) (fun x=>by kernel_rfl)
def Fj.e (k:Nat):Ent:=⟨1,[(.val false t31)],[(.one,.b)],fun x=>Fj k x⟩
def F8.p:LF:=⟨⟨[],[(0,t31),(5,t31),(6,(.i .i64)),(7,(.i .i64))]⟩,[(.ret,⟨[],[(2,.b)]⟩),((.exit 0),⟨[],[(0,t31)]⟩)],fun k x=>F8 k x.1 x.2.1 x.2.2.1 x.2.2.2⟩
def Fj.d:Fd := { nt:=34,nv:=1,nm:=[0,1,3,4],res:=[2],cs:=fun k=>[(57,Ig.e k)],ls:=[(2,F8.p)] }
theorem Fj.a (k:Nat):Li Tryz.prog (Fj.d.cs k):=⟨Ig.s k,trivial⟩
theorem F8.s:LK Tryz.prog Tryz.f59 Fj.d 2 F8.p:=mkL sO [] (by kernel_rfl) Fj.a trivial (by kernel_rfl) (fun _=>rfl) (fun k x=>by kernel_rfl)
theorem Fj.s (k:Nat):A4 Tryz.prog 59 (Fj.e k):=mkS (D:=Fj.d) (k:=k) sO [2] Tryz.func59 (Fj.a k) ⟨F8.s,trivial⟩ (by kernel_rfl) (by kernel_rfl) (fun x=>by kernel_rfl)
def Fk.e (k:Nat):Ent:=⟨1,[(.val true t38)],[(.one,.b)],fun x=>Fk k x⟩
def Gd.p:LF:=⟨⟨[(1,(.bp 1 0 0)),(2999,(.hd 5))],[(6,t31),(7,(.i .i64)),(8,(.i .i64)),(2000,(.i .i64)),(2001,t13),(2002,t13),(2003,t31),(2004,t31)]⟩,[(.ret,⟨[],[(2,.b)]⟩),((.exit 0),⟨[(1,(.bp 1 0 0)),(2999,(.hd 5))],[(2000,(.i .i64)),(2001,t13),(2002,t13),(2003,t31),(2004,t31)]⟩)],fun k x=>Gd k x.1 x.2.1 x.2.2.1 x.2.2.2.1 x.2.2.2.2.1 x.2.2.2.2.2.1 x.2.2.2.2.2.2.1 x.2.2.2.2.2.2.2⟩
def Fk.d:Fd := { nt:=35,nv:=1,nm:=[0,1,3,4],res:=[2],cs:=fun k=>[(53,G6.e k),(57,Ig.e k),(58,J0.e k),(59,Fj.e k)],ls:=[(2,Gd.p)] }
theorem Fk.a (k:Nat):Li Tryz.prog (Fk.d.cs k):=⟨G6.s k,Ig.s k,J0.s k,Fj.s k,trivial⟩
theorem Gd.s:LK Tryz.prog Tryz.f31 Fk.d 2 Gd.p:=mkL sO [] (by kernel_rfl) Fk.a trivial (by kernel_rfl) (fun _=>rfl) (fun k x=>by kernel_rfl)
theorem Fk.s (k:Nat):A4 Tryz.prog 31 (Fk.e k):=mkS (D:=Fk.d) (k:=k) sO [2] Tryz.func31 (Fk.a k) ⟨Gd.s,trivial⟩ (by kernel_rfl) (by kernel_rfl) (fun x=>by kernel_rfl)
def Bi.e (k:Nat):Ent:=⟨1,[(.val true t43)],[(.one,.b)],fun x=>Bi k x⟩
def C6.p:LF:=⟨⟨[(1,(.bp 1 0 0)),(2999,(.hd 9))],[(57,t0),(58,(.i .i64)),(59,(.i .i64)),(2000,t43)]⟩,[(.ret,⟨[],[(2,.b)]⟩),((.exit 2),⟨[],[]⟩)],fun k x=>C6 k x.1 x.2.1 x.2.2.1 x.2.2.2⟩
def Ds.p:LF:=⟨⟨[(1,(.bp 1 0 0)),(2999,(.hd 9))],[(34,t40),(35,(.i .i64)),(36,(.i .i64)),(2000,t43)]⟩,[(.ret,⟨[],[(2,.b)]⟩),((.exit 0),⟨[(1,(.bp 1 0 0)),(2999,(.hd 9))],[(2000,t43)]⟩)],fun k x=>Ds k x.1 x.2.1 x.2.2.1 x.2.2.2⟩
def Bi.d:Fd := { nt:=82,nv:=1,nm:=[0,1,3,4,5,6],res:=[2],cs:=fun k=>[(28,E9.e k),(29,D7.e k),(30,Cl.e k),(31,Fk.e k),(32,Bc.e k)],ls:=[(10,C6.p),(4,Ds.p)],rf:=true }
theorem Bi.a (k:Nat):Li Tryz.prog (Bi.d.cs k):=⟨E9.s k,D7.s k,Cl.s k,Fk.s k,Bc.s k,trivial⟩
theorem C6.s:LK Tryz.prog Tryz.f12 Bi.d 10 C6.p:=mkL sO [] (by kernel_rfl) Bi.a trivial (by kernel_rfl) (fun _=>rfl) (fun k x=>by kernel_rfl)
theorem Ds.s:LK Tryz.prog Tryz.f12 Bi.d 4 Ds.p:=mkL sO [] (by kernel_rfl) Bi.a trivial (by kernel_rfl) (fun _=>rfl) (fun k x=>by kernel_rfl)
theorem Bi.s (k:Nat):A4 Tryz.prog 12 (Bi.e k):=mkS (D:=Bi.d) (k:=k) sO [4,10] Tryz.func12 (Bi.a k) ⟨Ds.s,C6.s,trivial⟩ (by kernel_rfl) (by kernel_rfl) (fun x=>by kernel_rfl)
def Ke.e (k:Nat):Ent:=⟨1,[(.val true t43)],[(.one,(.i .i64))],fun x=>Ke k x⟩
def Ke.d:Fd := { nt:=23,nv:=1,nm:=[0,1],res:=[2],cs:=fun k=>[(8,Bh.e k),(9,Bq.e k),(10,Hf.e k),(11,Cb.e k),(12,Bi.e k)],rf:=true }
theorem Ke.s (k:Nat):A4 Tryz.prog 6 (Ke.e k):=mkS (D:=Ke.d) (k:=k) sO [] Tryz.func6 ⟨Bh.s k,Bq.s k,Hf.s k,Cb.s k,Bi.s k,trivial⟩ trivial (by kernel_rfl) (by kernel_rfl) (fun x=>by kernel_rfl)
def Ea.e (k:Nat):Ent:=⟨2,[(.val true t17),(.val false t22)],[(.one,.b)],fun x=>Ea k x.1 x.2⟩
def Ge.p:LF:=⟨⟨[(2,(.bp 2 0 0)),(3999,(.hd 2))],[(1,t22),(5,(.i .i64)),(6,(.i .i64)),(3000,t17)]⟩,[(.ret,⟨[],[(4,.b)]⟩),((.exit 2),⟨[(2,(.bp 2 0 0)),(3999,(.hd 2))],[(1,t22),(5,(.i .i64)),(3000,t17)]⟩)],fun k x=>Ge k x.1 x.2.1 x.2.2.1 x.2.2.2⟩
def Gf.p:LF:=⟨⟨[(2,(.bp 2 0 0)),(3999,(.hd 2))],[(1,t22),(5,(.i .i64)),(3000,t17)]⟩,[(.ret,⟨[],[(4,.b)]⟩),((.exit 0),⟨[],[]⟩)],fun k x=>Gf k x.1 x.2.1 x.2.2⟩
def Ea.d:Fd := { nt:=68,nv:=2,nm:=[0,1,2,3,5,6,7,8],res:=[4],cs:=fun k=>[(65,A8.e k),(72,Bb.e k),(73,Dd.e k),(74,Da.e k)],ls:=[(9,Ge.p),(4,Gf.p)],rf:=true }
theorem Ea.a (k:Nat):Li Tryz.prog (Ea.d.cs k):=⟨A8.s k,Bb.s k,Dd.s k,Da.s k,trivial⟩
theorem Ge.s:LK Tryz.prog Tryz.f37 Ea.d 9 Ge.p:=mkL sO [] (by kernel_rfl) Ea.a trivial (by kernel_rfl) (fun _=>rfl) (fun k x=>by kernel_rfl)
theorem Gf.s:LK Tryz.prog Tryz.f37 Ea.d 4 Gf.p:=mkL sO [9] (by kernel_rfl) Ea.a ⟨Ge.s,trivial⟩ (by kernel_rfl) (fun _=>rfl) (fun k x=>by kernel_rfl)
theorem Ea.s (k:Nat):A4 Tryz.prog 37 (Ea.e k):=mkS (D:=Ea.d) (k:=k) sO [4] Tryz.func37 (Ea.a k) ⟨Gf.s,trivial⟩ (by kernel_rfl) (by kernel_rfl) (fun x=>by kernel_rfl)
def Cm.e (k:Nat):Ent:=⟨1,[(.val true t43)],[(.one,.b)],fun x=>Cm k x⟩
def Dt.p:LF:=⟨⟨[(1,(.bp 1 0 0)),(2999,(.hd 9))],[(3,(.i .i64)),(2000,t43)]⟩,[(.ret,⟨[],[(2,.b)]⟩),((.exit 0),⟨[],[]⟩)],fun k x=>Dt k x.1 x.2⟩
def Cm.d:Fd := { nt:=40,nv:=1,nm:=[0,1,3],res:=[2],cs:=fun k=>[(75,Dc.e k)],ls:=[(4,Dt.p)],rf:=true }
theorem Cm.a (k:Nat):Li Tryz.prog (Cm.d.cs k):=⟨Dc.s k,trivial⟩
theorem Dt.s:LK Tryz.prog Tryz.f38 Cm.d 4 Dt.p:=mkL sO [] (by kernel_rfl) Cm.a trivial (by kernel_rfl) (fun _=>rfl) (fun k x=>by kernel_rfl)
theorem Cm.s (k:Nat):A4 Tryz.prog 38 (Cm.e k):=mkS (D:=Cm.d) (k:=k) sO [4] Tryz.func38 (Cm.a k) ⟨Dt.s,trivial⟩ (by kernel_rfl) (by kernel_rfl) (fun x=>by kernel_rfl)
def Ci.e (k:Nat):Ent:=⟨1,[(.val true t43)],[(.one,.b)],fun x=>Ci k x⟩
def C7.p:LF:=⟨⟨[(1,(.bp 1 0 0)),(2999,(.hd 9))],[(5,(.i .i64)),(2000,t43)]⟩,[(.ret,⟨[],[(2,.b)]⟩),((.exit 2),⟨[],[]⟩)],fun k x=>C7 k x.1 x.2⟩
def Ev.p:LF:=⟨⟨[(1,(.bp 1 0 0)),(2999,(.hd 9))],[(3,(.i .i64)),(2000,t43)]⟩,[(.ret,⟨[],[(2,.b)]⟩),((.exit 0),⟨[(1,(.bp 1 0 0)),(2999,(.hd 9))],[(2000,t43)]⟩)],fun k x=>Ev k x.1 x.2⟩
def Ci.d:Fd := { nt:=91,nv:=1,nm:=[0,1,3,4,5],res:=[2],cs:=fun k=>[(37,Ea.e k),(38,Cm.e k),(39,Bg.e k),(40,Af.e k),(41,Cr.e k),(42,Ar.e k)],ls:=[(10,C7.p),(4,Ev.p)],rf:=true }
theorem Ci.a (k:Nat):Li Tryz.prog (Ci.d.cs k):=⟨Ea.s k,Cm.s k,Bg.s k,Af.s k,Cr.s k,Ar.s k,trivial⟩
theorem C7.s:LK Tryz.prog Tryz.f16 Ci.d 10 C7.p:=mkL sO [] (by kernel_rfl) Ci.a trivial (by kernel_rfl) (fun _=>rfl) (fun k x=>by kernel_rfl)
theorem Ev.s:LK Tryz.prog Tryz.f16 Ci.d 4 Ev.p:=mkL sO [] (by kernel_rfl) Ci.a trivial (by kernel_rfl) (fun _=>rfl) (fun k x=>by kernel_rfl)
theorem Ci.s (k:Nat):A4 Tryz.prog 16 (Ci.e k):=mkS (D:=Ci.d) (k:=k) sO [4,10] Tryz.func16 (Ci.a k) ⟨Ev.s,C7.s,trivial⟩ (by kernel_rfl) (by kernel_rfl) (fun x=>by kernel_rfl)
def J1.e (k:Nat):Ent:=⟨2,[(.val true t25),(.val true t25)],[(.one,.b)],fun x=>J1 x.1 x.2⟩
def J1.d:Fd := { nt:=26,nv:=2,nm:=[0,1,2,3],res:=[4],rf:=true }
theorem J1.s (k:Nat):A4 Tryz.prog 110 (J1.e k):=mkS (D:=J1.d) (k:=k) sO [] Tryz.func110 trivial trivial (by kernel_rfl) (by kernel_rfl) (fun x=>by kernel_rfl)
def Cn.e (k:Nat):Ent:=⟨3,[(.val true t43),(.val false .s),(.val true t25)],[(.one,.b)],fun x=>Cn k x.1 x.2.1 x.2.2⟩
def Co.p:LF:=⟨⟨[(3,(.bp 3 0 0)),(5,(.bp 5 0 0)),(4999,(.hd 9)),(6999,(.hd 5))],[(1,.s),(7,(.i .i64)),(4000,t43),(6000,t25)]⟩,[(.ret,⟨[],[(6,.b)]⟩),((.exit 0),⟨[],[]⟩)],fun k x=>Co k x.1 x.2.1 x.2.2.1 x.2.2.2⟩
def Cn.d:Fd := { nt:=33,nv:=3,nm:=[0,1,2,3,4,5,7],res:=[6],cs:=fun k=>[(110,J1.e k)],ls:=[(2,Co.p)],rf:=true }
theorem Cn.a (k:Nat):Li Tryz.prog (Cn.d.cs k):=⟨J1.s k,trivial⟩
theorem Co.s:LK Tryz.prog Tryz.f77 Cn.d 2 Co.p:=mkL sO [] (by kernel_rfl) Cn.a trivial (by kernel_rfl) (fun _=>rfl) (fun k x=>by kernel_rfl)
theorem Cn.s (k:Nat):A4 Tryz.prog 77 (Cn.e k):=mkS (D:=Cn.d) (k:=k) sO [2] Tryz.func77 (Cn.a k) ⟨Co.s,trivial⟩ (by kernel_rfl) (by kernel_rfl) (fun x=>by kernel_rfl)
def D9.e (k:Nat):Ent:=⟨2,[(.val true t43),(.val false t13)],[(.one,.b)],fun x=>D9 k x.1 x.2⟩
def Du.p:LF:=⟨⟨[(2,(.bp 2 0 0)),(3999,(.hd 9))],[(1,t13),(5,(.i .i64)),(3000,t43)]⟩,[(.ret,⟨[],[(4,.b)]⟩),((.exit 0),⟨[],[]⟩)],fun k x=>Du k x.1 x.2.1 x.2.2⟩
def D9.d:Fd := { nt:=35,nv:=2,nm:=[0,1,2,3,5,6,7],res:=[4],cs:=fun k=>[(76,Bw.e k),(77,Cn.e k)],ls:=[(2,Du.p)],rf:=true }
theorem D9.a (k:Nat):Li Tryz.prog (D9.d.cs k):=⟨Bw.s k,Cn.s k,trivial⟩
theorem Du.s:LK Tryz.prog Tryz.f43 D9.d 2 Du.p:=mkL sO [] (by kernel_rfl) D9.a trivial (by kernel_rfl) (fun _=>rfl) (fun k x=>by kernel_rfl)
theorem D9.s (k:Nat):A4 Tryz.prog 43 (D9.e k):=mkS (D:=D9.d) (k:=k) sO [2] Tryz.func43 (D9.a k) ⟨Du.s,trivial⟩ (by kernel_rfl) (by kernel_rfl) (fun x=>by kernel_rfl)
def E4.e (k:Nat):Ent:=⟨1,[(.val true t43)],[(.one,.b)],fun x=>E4 k x⟩
def Ew.p:LF:=⟨⟨[(1,(.bp 1 0 0)),(2999,(.hd 9))],[(3,(.i .i64)),(2000,t43)]⟩,[(.ret,⟨[],[(2,.b)]⟩),((.exit 0),⟨[],[]⟩)],fun k x=>Ew k x.1 x.2⟩
def E4.d:Fd := { nt:=33,nv:=1,nm:=[0,1,3],res:=[2],cs:=fun k=>[(43,D9.e k)],ls:=[(2,Ew.p)],rf:=true }
theorem E4.a (k:Nat):Li Tryz.prog (E4.d.cs k):=⟨D9.s k,trivial⟩
theorem Ew.s:LK Tryz.prog Tryz.f17 E4.d 2 Ew.p:=mkL sO [] (by kernel_rfl) E4.a trivial (by kernel_rfl) (fun _=>rfl) (fun k x=>by kernel_rfl)
theorem E4.s (k:Nat):A4 Tryz.prog 17 (E4.e k):=mkS (D:=E4.d) (k:=k) sO [2] Tryz.func17 (E4.a k) ⟨Ew.s,trivial⟩ (by kernel_rfl) (by kernel_rfl) (fun x=>by kernel_rfl)
def Cd.e (k:Nat):Ent:=⟨2,[(.val true t43),(.val false t31)],[(.one,.b)],fun x=>Cd k x.1 x.2⟩
def Cc.p:LF:=⟨⟨[(2,(.bp 2 0 0)),(3999,(.hd 9))],[(1,t31),(5,(.i .i64)),(6,.b),(7,(.i .i64)),(3000,t43)]⟩,[((.exit 2),⟨[(2,(.bp 2 0 0)),(3999,(.hd 9))],[(1,t31),(5,(.i .i64)),(6,.b),(3000,t43)]⟩)],fun k x=>Cc k x.1 x.2.1 x.2.2.1 x.2.2.2.1 x.2.2.2.2⟩
def Ey.p:LF:=⟨⟨[(2,(.bp 2 0 0)),(3999,(.hd 9))],[(1,t31),(5,(.i .i64)),(3000,t43)]⟩,[(.ret,⟨[],[(4,.b)]⟩),((.exit 0),⟨[],[]⟩)],fun k x=>Ey k x.1 x.2.1 x.2.2⟩
def Cd.d:Fd := { nt:=44,nv:=2,nm:=[0,1,2,3,5,6,7],res:=[4],cs:=fun k=>[(78,Id.e k)],ls:=[(6,Cc.p),(2,Ey.p)],rf:=true }
theorem Cd.a (k:Nat):Li Tryz.prog (Cd.d.cs k):=⟨Id.s k,trivial⟩
theorem Cc.s:LK Tryz.prog Tryz.f44 Cd.d 6 Cc.p:=mkL sO [] (by kernel_rfl) Cd.a trivial (by kernel_rfl) (fun _=>rfl) (fun k x=>by kernel_rfl)
theorem Ey.s:LK Tryz.prog Tryz.f44 Cd.d 2 Ey.p:=mkL sO [6] (by kernel_rfl) Cd.a ⟨Cc.s,trivial⟩ (by kernel_rfl) (fun _=>rfl) (fun k x=>by kernel_rfl)
theorem Cd.s (k:Nat):A4 Tryz.prog 44 (Cd.e k):=mkS (D:=Cd.d) (k:=k) sO [2] Tryz.func44 (Cd.a k) ⟨Ey.s,trivial⟩ (by kernel_rfl) (by kernel_rfl) (fun x=>by kernel_rfl)
def Fl.e (k:Nat):Ent:=⟨1,[(.val true t43)],[(.one,.b)],fun x=>Fl k x⟩
def Gg.p:LF:=⟨⟨[(1,(.bp 1 0 0)),(2999,(.hd 9))],[(3,(.i .i64)),(2000,t43)]⟩,[(.ret,⟨[],[(2,.b)]⟩),((.exit 0),⟨[],[]⟩)],fun k x=>Gg k x.1 x.2⟩
def Fl.d:Fd := { nt:=31,nv:=1,nm:=[0,1,3],res:=[2],cs:=fun k=>[(44,Cd.e k)],ls:=[(2,Gg.p)],rf:=true }
theorem Fl.a (k:Nat):Li Tryz.prog (Fl.d.cs k):=⟨Cd.s k,trivial⟩
theorem Gg.s:LK Tryz.prog Tryz.f18 Fl.d 2 Gg.p:=mkL sO [] (by kernel_rfl) Fl.a trivial (by kernel_rfl) (fun _=>rfl) (fun k x=>by kernel_rfl)
theorem Fl.s (k:Nat):A4 Tryz.prog 18 (Fl.e k):=mkS (D:=Fl.d) (k:=k) sO [2] Tryz.func18 (Fl.a k) ⟨Gg.s,trivial⟩ (by kernel_rfl) (by kernel_rfl) (fun x=>by kernel_rfl)
def E5.e (k:Nat):Ent:=⟨2,[(.val true t43),(.val true t33)],[(.one,.b)],fun x=>E5 k x.1 x.2⟩
def Cy.p:LF:=⟨⟨[(2,(.bp 2 0 0)),(3,(.bp 3 0 0)),(3999,(.hd 9)),(4999,(.hd 7))],[(5,(.i .i64)),(3000,t43),(4000,t33)]⟩,[(.ret,⟨[],[(4,.b)]⟩),((.exit 0),⟨[],[]⟩)],fun k x=>Cy k x.1 x.2.1 x.2.2⟩
def E5.d:Fd := { nt:=47,nv:=2,nm:=[0,1,2,3,5,6,7,8,9],res:=[4],cs:=fun k=>[(76,Bw.e k),(79,Bn.e k),(80,Ie.e k)],ls:=[(2,Cy.p)],rf:=true }
theorem E5.a (k:Nat):Li Tryz.prog (E5.d.cs k):=⟨Bw.s k,Bn.s k,Ie.s k,trivial⟩
theorem Cy.s:LK Tryz.prog Tryz.f46 E5.d 2 Cy.p:=mkL sO [] (by kernel_rfl) E5.a trivial (by kernel_rfl) (fun _=>rfl) (fun k x=>by kernel_rfl)
theorem E5.s (k:Nat):A4 Tryz.prog 46 (E5.e k):=mkS (D:=E5.d) (k:=k) sO [2] Tryz.func46 (E5.a k) ⟨Cy.s,trivial⟩ (by kernel_rfl) (by kernel_rfl) (fun x=>by kernel_rfl)
def Im.e (k:Nat):Ent:=⟨1,[(.val true t43)],[(.one,.b)],fun x=>Im k x⟩
def H0.p:LF:=⟨⟨[(1,(.bp 1 0 0)),(2999,(.hd 9))],[(3,(.i .i64)),(2000,t43)]⟩,[(.ret,⟨[],[(2,.b)]⟩),((.exit 0),⟨[],[]⟩)],fun k x=>H0 k x.1 x.2⟩
def Im.d:Fd := { nt:=33,nv:=1,nm:=[0,1,3,4],res:=[2],cs:=fun k=>[(45,E7.e k),(46,E5.e k)],ls:=[(2,H0.p)],rf:=true }
theorem Im.a (k:Nat):Li Tryz.prog (Im.d.cs k):=⟨E7.s k,E5.s k,trivial⟩
theorem H0.s:LK Tryz.prog Tryz.f19 Im.d 2 H0.p:=mkL sO [] (by kernel_rfl) Im.a trivial (by kernel_rfl) (fun _=>rfl) (fun k x=>by kernel_rfl)
theorem Im.s (k:Nat):A4 Tryz.prog 19 (Im.e k):=mkS (D:=Im.d) (k:=k) sO [2] Tryz.func19 (Im.a k) ⟨H0.s,trivial⟩ (by kernel_rfl) (by kernel_rfl) (fun x=>by kernel_rfl)
def E6.e (k:Nat):Ent:=⟨1,[(.val true t43)],[(.one,.b)],fun x=>E6 k x⟩
def Dv.p:LF:=⟨⟨[(1,(.bp 1 0 0)),(2999,(.hd 9))],[(3,(.i .i64)),(2000,t43)]⟩,[(.ret,⟨[],[(2,.b)]⟩),((.exit 0),⟨[],[]⟩)],fun k x=>Dv k x.1 x.2⟩
def E6.d:Fd := { nt:=40,nv:=1,nm:=[0,1,3,4],res:=[2],cs:=fun k=>[(42,Ar.e k)],ls:=[(2,Dv.p)],rf:=true }
theorem E6.a (k:Nat):Li Tryz.prog (E6.d.cs k):=⟨Ar.s k,trivial⟩
theorem Dv.s:LK Tryz.prog Tryz.f20 E6.d 2 Dv.p:=mkL sO [] (by kernel_rfl) E6.a trivial (by kernel_rfl) (fun _=>rfl) (fun k x=>by kernel_rfl)
theorem E6.s (k:Nat):A4 Tryz.prog 20 (E6.e k):=mkS (D:=E6.d) (k:=k) sO [2] Tryz.func20 (E6.a k) ⟨Dv.s,trivial⟩ (by kernel_rfl) (by kernel_rfl) (fun x=>by kernel_rfl)
def Kf.e (k:Nat):Ent:=⟨1,[(.val true t43)],[(.one,(.i .i64))],fun x=>Kf k x⟩
def Kf.d:Fd := { nt:=23,nv:=1,nm:=[0,1],res:=[2],cs:=fun k=>[(16,Ci.e k),(17,E4.e k),(18,Fl.e k),(19,Im.e k),(20,E6.e k)],rf:=true }
theorem Kf.s (k:Nat):A4 Tryz.prog 7 (Kf.e k):=mkS (D:=Kf.d) (k:=k) sO [] Tryz.func7 ⟨Ci.s k,E4.s k,Fl.s k,Im.s k,E6.s k,trivial⟩ trivial (by kernel_rfl) (by kernel_rfl) (fun x=>by kernel_rfl)
def Jw.e (k:Nat):Ent:=⟨1,[(.val false t4)],[(.one,.b)],fun x=>Jw k x⟩
def Jw.d:Fd := { nt:=36,nv:=1,nm:=[0,1,3],res:=[2],cs:=fun k=>[(4,M2.e k),(5,G5.e k),(6,Ke.e k),(7,Kf.e k),(8,Bh.e k),(9,Bq.e k),(10,Hf.e k),(11,Cb.e k),(12,Bi.e k)],sh:=true,rf:=true }
theorem Jw.s (k:Nat):A4 Tryz.prog 3 (Jw.e k):=mkS (D:=Jw.d) (k:=k) sO [] Tryz.func3 ⟨M2.s k,G5.s k,Ke.s k,Kf.s k,Bh.s k,Bq.s k,Hf.s k,Cb.s k,Bi.s k,trivial⟩ trivial (by kernel_rfl) (by kernel_rfl) (fun x=>by kernel_rfl)
end Go.Proofs.YtflokceoeiplcaaGreat.Vf
