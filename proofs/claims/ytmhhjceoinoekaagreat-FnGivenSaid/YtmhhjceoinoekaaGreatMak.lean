import Derived.Test.YtmhhjceoinoekaaGreatMab
import Derived.Test.YtmhhjceoinoekaaGreatMaj
import Derived.Test.YtmhhjceoinoekaaGreatProg
import Derived.KernelRfl
import Derived.IntWalk
set_option linter.unusedVariables false
set_option linter.unusedSimpArgs false
namespace Go.Proofs.YtmhhjceoinoekaaGreat.Vf
open Go

section
open Go.Proofs
@[reducible] def t0:Ty := .sl 9 .s
@[reducible] def t1:Ty := .sl 4 .b
@[reducible] def t2:Ty := .ow 9 .s
@[reducible] def t3:Ty := .ow 4 .b
@[reducible] def t4:Ty := .sl 5 (.i .u8)
@[reducible] def t5:Ty := .ow 5 (.i .u8)
@[reducible] def t6:Ty := .sl 3 (.i .i64)
@[reducible] def t7:Ty := .ow 3 (.i .i64)
@[reducible] def t8:Ty := .pr .s (.i .u64)
@[reducible] def t9:Ty := .pr (.i .i64) (.i .i64)
@[reducible] def t10:Ty := .sl 127 t6
@[reducible] def t11:Ty := .pr .s t4
@[reducible] def t12:Ty := .pr .s t5
@[reducible] def t13:Ty := .sl 93 t11
@[reducible] def t14:Ty := .ow 93 t11
@[reducible] def t15:Ty := .ow 93 t12
@[reducible] def t16:Ty := .pr (.i .i64) t9
@[reducible] def t17:Ty := .pr (.i .i64) t10
@[reducible] def t18:Ty := .pr (.i .i64) (.ow 127 t6)
@[reducible] def t19:Ty := .pr (.i .i64) (.ow 127 t7)
@[reducible] def t20:Ty := .pr t4 (.pr (.i .i64) .b)
@[reducible] def t21:Ty := .pr t4 t9
@[reducible] def t22:Ty := .sl 88 t16
@[reducible] def t23:Ty := .ow 88 t16
@[reducible] def t24:Ty := .pr (.i .i64) (.pr (.i .i64) (.pr .b (.i .u8)))
@[reducible] def t25:Ty := .pr t16 (.pr .b t4)
@[reducible] def t26:Ty := .pr t16 (.pr .b t5)
@[reducible] def t27:Ty := .pr t13 t13
@[reducible] def t28:Ty := .pr .s (.pr t16 (.pr .b (.i .i64)))
@[reducible] def t29:Ty := .pr t14 t14
@[reducible] def t30:Ty := .pr t15 t15
@[reducible] def t31:Ty := .sl 96 t28
@[reducible] def t32:Ty := .ow 96 t28
@[reducible] def t33:Ty := .pr .s (.pr t25 .b)
@[reducible] def t34:Ty := .pr (.i .i64) (.pr (.i .i64) (.pr .s (.pr t4 (.pr (.i .i64) t6))))
@[reducible] def t35:Ty := .sl 71 t33
@[reducible] def t36:Ty := .ow 71 t33
@[reducible] def t37:Ty := .pr t16 (.pr t35 t0)
@[reducible] def t38:Ty := .pr t32 t32
@[reducible] def t39:Ty := .pr t31 t32
@[reducible] def t40:Ty := .pr (.i .i64) (.pr t27 (.pr t31 t31))
@[reducible] def t41:Ty := .pr (.i .i64) (.pr t29 t38)
@[reducible] def t42:Ty := .pr (.i .i64) (.pr t27 t38)
@[reducible] def t43:Ty := .pr (.i .i64) (.pr t29 t39)
@[reducible] def t44:Ty := .pr (.i .i64) (.pr t27 t39)
@[reducible] def t45:Ty := .sl 54 t40
@[reducible] def t46:Ty := .ow 54 t40
@[reducible] def t47:Ty := .pr t46 (.pr t16 (.pr t36 t2))
@[reducible] def t48:Ty := .pr t22 (.pr t17 (.pr t45 t37))
@[reducible] def t49:Ty := .pr t23 (.pr t17 (.pr t46 (.pr t16 (.pr t36 t0))))
@[reducible] def t50:Ty := .pr t23 (.pr t17 t47)
@[reducible] def t51:Ty := .pr t23 (.pr t18 t47)
@[reducible] def t52:Ty := .pr t23 (.pr t17 (.pr t46 t37))
def tiL:List (Nat×TI):=[(2,⟨(.i .i64),false,8,[]⟩),
 (3,⟨(.i .i64),false,8,[]⟩),
 (4,⟨.b,false,1,[]⟩),
 (5,⟨(.i .u8),false,1,[]⟩),
 (6,⟨(.i .u8),false,1,[]⟩),
 (7,⟨t24,true,24,[(0,1,false),(1,1,false),(2,1,false),(3,1,false)]⟩),
 (8,⟨t24,true,24,[(0,1,false),(1,1,false),(2,1,false),(3,1,false)]⟩),
 (9,⟨.s,false,16,[]⟩),
 (10,⟨.s,false,16,[]⟩),
 (11,⟨.s,false,16,[]⟩),
 (12,⟨(.i .u64),false,8,[]⟩),
 (13,⟨t8,true,24,[(0,1,false),(1,1,false)]⟩),
 (14,⟨t8,true,24,[(0,1,false),(1,1,false)]⟩),
 (21,⟨(.i .i32),false,4,[]⟩),
 (22,⟨t4,false,24,[]⟩),
 (24,⟨t22,false,24,[]⟩),
 (25,⟨t10,false,24,[]⟩),
 (26,⟨t17,true,32,[(0,1,false),(1,1,false)]⟩),
 (27,⟨t17,true,32,[(0,1,false),(1,1,false)]⟩),
 (28,⟨t45,false,24,[]⟩),
 (29,⟨t16,true,24,[(0,1,false),(1,1,false),(2,1,false)]⟩),
 (30,⟨t16,true,24,[(0,1,false),(1,1,false),(2,1,false)]⟩),
 (31,⟨t35,false,24,[]⟩),
 (32,⟨t0,false,24,[]⟩),
 (33,⟨t48,true,152,[(0,1,false),(1,2,true),(3,1,false),(4,3,true),(7,1,false),(8,1,false)]⟩),
 (34,⟨t48,true,152,[(0,1,false),(1,2,true),(3,1,false),(4,3,true),(7,1,false),(8,1,false)]⟩),
 (35,⟨t6,false,24,[]⟩),
 (36,⟨t34,true,88,[(0,1,false),(1,1,false),(2,1,false),(3,1,false),(4,1,false),(5,1,false)]⟩),
 (37,⟨t34,true,88,[(0,1,false),(1,1,false),(2,1,false),(3,1,false),(4,1,false),(5,1,false)]⟩),
 (44,⟨(.sl 37 t34),false,24,[]⟩),
 (49,⟨t13,false,24,[]⟩),
 (50,⟨t27,true,48,[(0,1,false),(1,1,false)]⟩),
 (51,⟨t27,true,48,[(0,1,false),(1,1,false)]⟩),
 (52,⟨t31,false,24,[]⟩),
 (53,⟨t40,true,104,[(0,1,false),(1,2,true),(3,1,false),(4,1,false)]⟩),
 (54,⟨t40,true,104,[(0,1,false),(1,2,true),(3,1,false),(4,1,false)]⟩),
 (61,⟨t25,true,56,[(0,3,true),(3,1,false),(4,1,false)]⟩),
 (62,⟨t25,true,56,[(0,3,true),(3,1,false),(4,1,false)]⟩),
 (70,⟨t33,true,80,[(0,1,false),(1,5,true),(6,1,false)]⟩),
 (71,⟨t33,true,80,[(0,1,false),(1,5,true),(6,1,false)]⟩),
 (87,⟨t16,true,24,[(0,1,false),(1,1,false),(2,1,false)]⟩),
 (88,⟨t16,true,24,[(0,1,false),(1,1,false),(2,1,false)]⟩),
 (92,⟨t11,true,40,[(0,1,false),(1,1,false)]⟩),
 (93,⟨t11,true,40,[(0,1,false),(1,1,false)]⟩),
 (95,⟨t28,true,56,[(0,1,false),(1,3,true),(4,1,false),(5,1,false)]⟩),
 (96,⟨t28,true,56,[(0,1,false),(1,3,true),(4,1,false),(5,1,false)]⟩),
 (115,⟨t21,true,40,[(0,1,false),(1,1,false),(2,1,false)]⟩),
 (116,⟨t21,true,40,[(0,1,false),(1,1,false),(2,1,false)]⟩),
 (126,⟨t6,true,24,[(0,1,false)]⟩),
 (127,⟨t6,true,24,[(0,1,false)]⟩),
 (168,⟨(.i .u64),false,8,[]⟩),
 (173,⟨t1,false,24,[]⟩),
 (190,⟨t20,true,40,[(0,1,false),(1,1,false),(2,1,false)]⟩),
 (191,⟨t20,true,40,[(0,1,false),(1,1,false),(2,1,false)]⟩),
 (240,⟨(.i .u32),false,4,[]⟩),
 (246,⟨(.i .u8),false,1,[]⟩),
 (247,⟨(.i .u8),false,1,[]⟩),
 (250,⟨(.i .i32),false,4,[]⟩),
 (251,⟨(.i .i32),false,4,[]⟩)]
def ti:TypeId→Option TI:=lk tiL
def A7b:List Nat:=[29,30,87,88,95,96]
def eqs:TypeId→Bool:=λ T=>A7b.contains T
theorem sK:Xn Tryz.prog ti eqs∧∀ T,Sw Tryz.prog ti T=true:=Ctb (P:=Tryz.prog) (ti:=ti) (eqs:=eqs) (keys:=tiL.map Prod.fst) (A7b:=A7b) Wma (by kernel_rfl) (by kernel_rfl) rfl (by kernel_rfl)
theorem sO:Xn Tryz.prog ti eqs:=sK.1
theorem Dob:∀ T t,ti T=some t→TOk Tryz.prog T t:=sO.tok
theorem Dpb:∀ T,Sw Tryz.prog ti T=true:=sK.2
abbrev CK:=Ow Tryz.prog
abbrev LL:=LK Tryz.prog
abbrev AC:=Ysa Tryz.prog
theorem mS {f:FuncId} {fn:Func} (D:Fd) (k:Nat) {en:Ent} (ids:List Nat) (hf:Tryz.prog.funcs[f]? = some fn) (hc:AC (D.cs k)) (hi:Yta Tryz.prog fn D ids) (h:(Csb fn D en,Lm (bo fn),ids.map λ l=>first (Ko l (bo fn)))=(true,ids.map λ l=>Ko l (bo fn),ids):=by kernel_rfl) (hr:∀ x,Oba (D.n ti eqs k) (bo fn) fn.results.toList en x=en.run x:=by intro x; kernel_rfl):CK f en:=mkS sO ids hf hc hi (congrArg Prod.fst h) (congrArg Prod.snd h) hr
theorem mL {fn:Func} {D:Fd} {l:Nat} {p:LF} (ids:List Nat) (hc:∀ k,AC (D.cs k)) (hi:Yta Tryz.prog fn D ids) (h:(Nat.beq D.nt fn.ntmps,Lm (Ko l (bo fn)),ids.map λ l=>first (Ko l (bo fn)))=(true,ids.map λ l=>Ko l (bo fn),ids):=by kernel_rfl) (h0:∀ x,p.f 0 x=none:=by intro _; rfl) (hs:Deb ti eqs fn D l p:=by intro k x; kernel_rfl):LL fn D l p:=mkL sO ids (congrArg Prod.fst h) hc hi (congrArg Prod.snd h) h0 hs
def Ms.e (k:Nat):Ent:=⟨1,[(.val false t4)],[(.one,.b)],λ x=>Ms x⟩
def Ms.d:Fd := { nt:=6,nv:=1,nm:=[0,1],res:=[2] }
theorem Ms.s (k:Nat):CK 9 (Ms.e k):=mS Ms.d k [] Tryz.func9 trivial trivial
def Id.e (k:Nat):Ent:=⟨1,[(.val false t4)],[(.ptr,t21)],λ x=>Id k x⟩
def Hj.p:LF:=⟨⟨[],[(0,t4),(3,(.i .i64)),(4,(.i .i64))]⟩,[((.exit 0),⟨[],[(0,t4),(3,(.i .i64))]⟩)],λ k x=>Hj k x.1 x.2.1 x.2.2⟩
def Id.d:Fd := { nt:=32,nv:=1,nm:=[0,1,3,4],res:=[2],ls:=[(3,Hj.p)] }
theorem Hj.s:LL Tryz.f34 Id.d 3 Hj.p:=mL [] (λ _=>trivial) trivial
theorem Id.s (k:Nat):CK 34 (Id.e k):=mS Id.d k [3] Tryz.func34 trivial ⟨Hj.s,trivial⟩
def Hk.e (k:Nat):Ent:=⟨2,[(.val false t4),(.val false (.i .i64))],[(.one,(.i .i64))],λ x=>Hk x.1 x.2⟩
def Hk.d:Fd := { nt:=15,nv:=2,nm:=[0,1,2,3,5],res:=[4],rf:=true }
theorem Hk.s (k:Nat):CK 36 (Hk.e k):=mS Hk.d k [] Tryz.func36 trivial trivial
def Es.e (k:Nat):Ent:=⟨1,[(.ptr t21 t21)],[(.one,(.i .i64))],λ x=>Es x⟩
def Es.d:Fd := { nt:=58,nv:=1,nm:=[0,1,3],res:=[2] }
theorem Es.s (k:Nat):CK 85 (Es.e k):=mS Es.d k [] Tryz.func85 trivial trivial
def A3.e (k:Nat):Ent:=⟨2,[(.ptr t21 t21),(.val false (.i .i64))],[(.one,(.i .i64))],λ x=>A3 x.1 x.2⟩
def A3.d:Fd := { nt:=31,nv:=2,nm:=[0,1,2,3,5,6,7],res:=[4],cs:=λ k=>[(85,Es.e k)] }
theorem A3.s (k:Nat):CK 37 (A3.e k):=mS A3.d k [] Tryz.func37 ⟨Es.s k,trivial⟩ trivial
def Ad.e (k:Nat):Ent:=⟨2,[(.ptr t21 t21),(.val false t6)],[(.one,(.i .i64))],λ x=>Ad x.1 x.2⟩
def Ad.d:Fd := { nt:=12,nv:=2,nm:=[0,1,2,3],res:=[4],cs:=λ k=>[(37,A3.e k)] }
theorem Ad.s (k:Nat):CK 39 (Ad.e k):=mS Ad.d k [] Tryz.func39 ⟨A3.s k,trivial⟩ trivial
def J5.e (k:Nat):Ent:=⟨2,[(.ptr t21 t21),(.val false t0)],[(.one,.s)],λ x=>J5 x.1 x.2⟩
def J5.d:Fd := { nt:=12,nv:=2,nm:=[0,1,2,3],res:=[4],cs:=λ k=>[(37,A3.e k)] }
theorem J5.s (k:Nat):CK 115 (J5.e k):=mS J5.d k [] Tryz.func115 ⟨A3.s k,trivial⟩ trivial
def Bn.e (k:Nat):Ent:=⟨1,[(.ptr t21 t21)],[(.one,.s)],λ x=>Bn x⟩
def Bn.d:Fd := { nt:=6,nv:=1,nm:=[0,1],res:=[2],cs:=λ k=>[(115,J5.e k)] }
theorem Bn.s (k:Nat):CK 86 (Bn.e k):=mS Bn.d k [] Tryz.func86 ⟨J5.s k,trivial⟩ trivial
def C9.e (k:Nat):Ent:=⟨1,[(.ptr t21 t21)],[(.one,t7)],λ x=>C9 k x⟩
def Et.p:LF:=⟨⟨[(0,(.bp 0 0 0)),(1999,(.hd 3))],[(3,t7),(4,(.i .i64)),(1000,t21)]⟩,[((.exit 0),⟨[(1999,(.hd 3))],[(3,t7),(1000,t21)]⟩)],λ k x=>Et k x.1 x.2.1 x.2.2⟩
def C9.d:Fd := { nt:=17,nv:=1,nm:=[0,1,3,4],res:=[2],cs:=λ k=>[(39,Ad.e k)],ls:=[(3,Et.p)],rf:=true }
theorem C9.a (k:Nat):AC (C9.d.cs k):=⟨Ad.s k,trivial⟩
theorem Et.s:LL Tryz.f87 C9.d 3 Et.p:=mL [] C9.a trivial
theorem C9.s (k:Nat):CK 87 (C9.e k):=mS C9.d k [3] Tryz.func87 (C9.a k) ⟨Et.s,trivial⟩
def Ev.e (k:Nat):Ent:=⟨2,[(.ptr t21 t21),(.val false (.i .i64))],[(.one,t5)],λ x=>Ev k x.1 x.2⟩
def Eu.p:LF:=⟨⟨[(0,(.bp 0 0 0)),(1999,(.hd 3))],[(1,(.i .i64)),(5,t5),(6,(.i .i64)),(1000,t4),(1001,(.i .i64)),(1002,(.i .i64))]⟩,[((.exit 0),⟨[(1999,(.hd 3))],[(5,t5),(1000,t4),(1001,(.i .i64)),(1002,(.i .i64))]⟩)],λ k x=>Eu k x.1 x.2.1 x.2.2.1 x.2.2.2.1 x.2.2.2.2.1 x.2.2.2.2.2⟩
def Ev.d:Fd := { nt:=20,nv:=2,nm:=[0,1,2,3,5,6],res:=[4],cs:=λ k=>[(85,Es.e k)],ls:=[(3,Eu.p)] }
theorem Ev.a (k:Nat):AC (Ev.d.cs k):=⟨Es.s k,trivial⟩
theorem Eu.s:LL Tryz.f150 Ev.d 3 Eu.p:=mL [] Ev.a trivial
theorem Ev.s (k:Nat):CK 150 (Ev.e k):=mS Ev.d k [3] Tryz.func150 (Ev.a k) ⟨Eu.s,trivial⟩
def Dc.e (k:Nat):Ent:=⟨1,[(.ptr t21 t21)],[(.one,t5)],λ x=>Dc k x⟩
def Dc.d:Fd := { nt:=8,nv:=1,nm:=[0,1],res:=[2],cs:=λ k=>[(39,Ad.e k),(150,Ev.e k)] }
theorem Dc.s (k:Nat):CK 88 (Dc.e k):=mS Dc.d k [] Tryz.func88 ⟨Ad.s k,Ev.s k,trivial⟩ trivial
def A8.e (k:Nat):Ent:=⟨3,[(.val false (.i .i64)),(.val false (.i .i64)),(.val false (.i .i64))],[(.one,.b)],λ x=>A8 x.1 x.2.1 x.2.2⟩
def A8.d:Fd := { nt:=15,nv:=3,nm:=[0,1,2,3,4,5],res:=[6] }
theorem A8.s (k:Nat):CK 97 (A8.e k):=mS A8.d k [] Tryz.func97 trivial trivial
def Bu.e (k:Nat):Ent:=⟨1,[(.val true t16)],[(.one,.b)],λ x=>Bu x⟩
def Bu.d:Fd := { nt:=16,nv:=1,nm:=[0,1],res:=[2],cs:=λ k=>[(97,A8.e k)] }
theorem Bu.s (k:Nat):CK 77 (Bu.e k):=mS Bu.d k [] Tryz.func77 ⟨A8.s k,trivial⟩ trivial
def Bq.e (k:Nat):Ent:=⟨1,[(.val true t25)],[(.one,.b)],λ x=>Bq x⟩
def Bq.d:Fd := { nt:=23,nv:=1,nm:=[0,1],res:=[2],cs:=λ k=>[(77,Bu.e k)] }
theorem Bq.s (k:Nat):CK 78 (Bq.e k):=mS Bq.d k [] Tryz.func78 ⟨Bu.s k,trivial⟩ trivial
def Dd.e (k:Nat):Ent:=⟨2,[(.val false t4),(.val false (.i .i64))],[(.one,(.i .i64)),(.one,(.i .i64)),(.one,.b)],λ x=>Dd k x.1 x.2⟩
def Ec.p:LF:=⟨⟨[],[(0,t4),(1,(.i .i64)),(7,(.i .i64)),(8,(.i .i64))]⟩,[(.ret,⟨[],[(4,(.i .i64)),(5,(.i .i64)),(6,.b)]⟩),((.exit 0),⟨[],[]⟩)],λ k x=>Ec k x.1 x.2.1 x.2.2.1 x.2.2.2⟩
def Dd.d:Fd := { nt:=64,nv:=2,nm:=[0,1,2,3,7,8,9],res:=[4,5,6],ls:=[(3,Ec.p)] }
theorem Ec.s:LL Tryz.f200 Dd.d 3 Ec.p:=mL [] (λ _=>trivial) trivial
theorem Dd.s (k:Nat):CK 200 (Dd.e k):=mS Dd.d k [3] Tryz.func200 trivial ⟨Ec.s,trivial⟩
def Ew.e (k:Nat):Ent:=⟨2,[(.val false t4),(.val false (.i .i64))],[(.agg,t16),(.one,(.i .i64)),(.one,.b)],λ x=>Ew k x.1 x.2⟩
def Ew.d:Fd := { nt:=49,nv:=2,nm:=[0,1,2,3,7,8,9,10,11,12,13,14,15],res:=[5,6],cs:=λ k=>[(200,Dd.e k)] }
theorem Ew.s (k:Nat):CK 199 (Ew.e k):=mS Ew.d k [] Tryz.func199 ⟨Dd.s k,trivial⟩ trivial
def Ip.e (k:Nat):Ent:=⟨2,[(.val false t4),(.val false (.i .i64))],[(.one,.s),(.one,(.i .i64)),(.one,.b)],λ x=>Ip k x.1 x.2⟩
def Ip.d:Fd := { nt:=37,nv:=2,nm:=[0,1,2,3,7,8,9],res:=[4,5,6],cs:=λ k=>[(200,Dd.e k)] }
theorem Ip.s (k:Nat):CK 201 (Ip.e k):=mS Ip.d k [] Tryz.func201 ⟨Dd.s k,trivial⟩ trivial
def De.e (k:Nat):Ent:=⟨2,[(.val false t4),(.val false (.i .i64))],[(.one,t5)],λ x=>De k x.1 x.2⟩
def Cs.p:LF:=⟨⟨[],[(1,(.i .i64)),(5,t5)]⟩,[((.exit 0),⟨[],[(1,(.i .i64)),(5,t5)]⟩)],λ k x=>Cs k x.1 x.2⟩
def De.d:Fd := { nt:=29,nv:=2,nm:=[0,1,2,3,5],res:=[4],ls:=[(6,Cs.p)] }
theorem Cs.s:LL Tryz.f241 De.d 6 Cs.p:=mL [] (λ _=>trivial) trivial
theorem De.s (k:Nat):CK 241 (De.e k):=mS De.d k [6] Tryz.func241 trivial ⟨Cs.s,trivial⟩
def Iq.e (k:Nat):Ent:=⟨2,[(.val false t4),(.val false .s)],[(.one,t5)],λ x=>Iq k x.1 x.2⟩
def Iq.d:Fd := { nt:=11,nv:=2,nm:=[0,1,2,3],res:=[4],cs:=λ k=>[(241,De.e k)] }
theorem Iq.s (k:Nat):CK 240 (Iq.e k):=mS Iq.d k [] Tryz.func240 ⟨De.s k,trivial⟩ trivial
def Ir.e (k:Nat):Ent:=⟨2,[(.val false t4),(.val true t16)],[(.one,t5)],λ x=>Ir k x.1 x.2⟩
def Ir.d:Fd := { nt:=15,nv:=2,nm:=[0,1,2,3],res:=[4],cs:=λ k=>[(241,De.e k)] }
theorem Ir.s (k:Nat):CK 242 (Ir.e k):=mS Ir.d k [] Tryz.func242 ⟨De.s k,trivial⟩ trivial
def K6.e (k:Nat):Ent:=⟨1,[(.val false .b)],[(.one,(.i .i64))],λ x=>K6 x⟩
def K6.d:Fd := { nt:=4,nv:=1,nm:=[0,1],res:=[2] }
theorem K6.s (k:Nat):CK 243 (K6.e k):=mS K6.d k [] Tryz.func243 trivial trivial
def Ks.e (k:Nat):Ent:=⟨1,[(.val false t4)],[(.one,(.i .i64))],λ x=>Ks k x⟩
def H9.p:LF:=⟨⟨[],[(0,t4),(3,(.i .i64)),(4,(.i .i64)),(5,(.i .i64))]⟩,[((.exit 2),⟨[],[(0,t4),(3,(.i .i64)),(4,(.i .i64))]⟩)],λ k x=>H9 k x.1 x.2.1 x.2.2.1 x.2.2.2⟩
def Hl.p:LF:=⟨⟨[],[(0,t4),(3,(.i .i64)),(4,(.i .i64))]⟩,[((.exit 0),⟨[],[(3,(.i .i64))]⟩)],λ k x=>Hl k x.1 x.2.1 x.2.2⟩
def Ks.d:Fd := { nt:=34,nv:=1,nm:=[0,1,3,4,5,6],res:=[2],ls:=[(7,H9.p),(3,Hl.p)] }
theorem H9.s:LL Tryz.f244 Ks.d 7 H9.p:=mL [] (λ _=>trivial) trivial
theorem Hl.s:LL Tryz.f244 Ks.d 3 Hl.p:=mL [7] (λ _=>trivial) ⟨H9.s,trivial⟩
theorem Ks.s (k:Nat):CK 244 (Ks.e k):=mS Ks.d k [3] Tryz.func244 trivial ⟨Hl.s,trivial⟩
def Bc.e (k:Nat):Ent:=⟨1,[(.val true t25)],[(.one,t5)],λ x=>Bc k x⟩
def Bc.d:Fd := { nt:=37,nv:=1,nm:=[0,1,3,4],res:=[2],cs:=λ k=>[(78,Bq.e k),(240,Iq.e k),(241,De.e k),(242,Ir.e k),(243,K6.e k),(244,Ks.e k)] }
theorem Bc.s (k:Nat):CK 202 (Bc.e k):=mS Bc.d k [] Tryz.func202 ⟨Bq.s k,Iq.s k,De.s k,Ir.s k,K6.s k,Ks.s k,trivial⟩ trivial
def G5.e (k:Nat):Ent:=⟨1,[(.val false t4)],[(.agg,t26),(.one,.b)],λ x=>G5 k x⟩
def G5.d:Fd := { nt:=76,nv:=1,nm:=[0,1,4,5,6,7,8,9,10,11,12,13],res:=[3],cs:=λ k=>[(78,Bq.e k),(199,Ew.e k),(200,Dd.e k),(201,Ip.e k),(202,Bc.e k)],mv:=[75] }
theorem G5.s (k:Nat):CK 151 (G5.e k):=mS G5.d k [] Tryz.func151 ⟨Bq.s k,Ew.s k,Dd.s k,Ip.s k,Bc.s k,trivial⟩ trivial
def Ha.e (k:Nat):Ent:=⟨2,[(.val false t0),(.val false .s)],[(.one,.b)],λ x=>Ha k x.1 x.2⟩
def Gb.p:LF:=⟨⟨[],[(0,t0),(1,.s),(5,(.i .i64))]⟩,[(.ret,⟨[],[(4,.b)]⟩),((.exit 0),⟨[],[]⟩)],λ k x=>Gb k x.1 x.2.1 x.2.2⟩
def Ha.d:Fd := { nt:=18,nv:=2,nm:=[0,1,2,3,5],res:=[4],ls:=[(2,Gb.p)],rf:=true }
theorem Gb.s:LL Tryz.f152 Ha.d 2 Gb.p:=mL [] (λ _=>trivial) trivial
theorem Ha.s (k:Nat):CK 152 (Ha.e k):=mS Ha.d k [2] Tryz.func152 trivial ⟨Gb.s,trivial⟩
def Cw.e (k:Nat):Ent:=⟨2,[(.val false t13),(.val false .s)],[(.one,(.i .i64))],λ x=>Cw k x.1 x.2⟩
def It.p:LF:=⟨⟨[],[(0,t13),(1,.s),(5,(.i .i64))]⟩,[(.ret,⟨[],[(4,(.i .i64))]⟩),((.exit 0),⟨[],[]⟩)],λ k x=>It k x.1 x.2.1 x.2.2⟩
def Cw.d:Fd := { nt:=20,nv:=2,nm:=[0,1,2,3,5],res:=[4],ls:=[(2,It.p)] }
theorem It.s:LL Tryz.f153 Cw.d 2 It.p:=mL [] (λ _=>trivial) trivial
theorem Cw.s (k:Nat):CK 153 (Cw.e k):=mS Cw.d k [2] Tryz.func153 trivial ⟨It.s,trivial⟩
def Fw.e (k:Nat):Ent:=⟨1,[(.val true t27)],[(.one,t2)],λ x=>Fw k x⟩
def Iu.p:LF:=⟨⟨[(1,(.bp 1 0 0)),(2999,(.hd 2))],[(3,t2),(4,(.i .i64)),(7,(.i .i64)),(2000,t27)]⟩,[((.exit 2),⟨[(1,(.bp 1 0 0)),(2999,(.hd 2))],[(3,t2),(4,(.i .i64)),(7,(.i .i64)),(2000,t27)]⟩)],λ k x=>Iu k x.1 x.2.1 x.2.2.1 x.2.2.2⟩
def G6.p:LF:=⟨⟨[(1,(.bp 1 0 0)),(2999,(.hd 2))],[(3,t2),(4,(.i .i64)),(2000,t27)]⟩,[((.exit 0),⟨[],[(3,t2)]⟩)],λ k x=>G6 k x.1 x.2.1 x.2.2⟩
def Fw.d:Fd := { nt:=98,nv:=1,nm:=[0,1,3,4,5,6,7],res:=[2],cs:=λ k=>[(151,G5.e k),(152,Ha.e k),(153,Cw.e k)],ls:=[(9,Iu.p),(3,G6.p)],rf:=true }
theorem Fw.a (k:Nat):AC (Fw.d.cs k):=⟨G5.s k,Ha.s k,Cw.s k,trivial⟩
theorem Iu.s:LL Tryz.f89 Fw.d 9 Iu.p:=mL [] Fw.a trivial
theorem G6.s:LL Tryz.f89 Fw.d 3 G6.p:=mL [9] Fw.a ⟨Iu.s,trivial⟩
theorem Fw.s (k:Nat):CK 89 (Fw.e k):=mS Fw.d k [3] Tryz.func89 (Fw.a k) ⟨G6.s,trivial⟩
def Ae.e (k:Nat):Ent:=⟨1,[(.val false .s)],[(.one,.b)],λ x=>Ae k x⟩
def Ct.p:LF:=⟨⟨[],[(0,.s),(3,(.i .i64))]⟩,[(.ret,⟨[],[(2,.b)]⟩),((.exit 0),⟨[],[(0,.s)]⟩)],λ k x=>Ct k x.1 x.2⟩
def Ae.d:Fd := { nt:=38,nv:=1,nm:=[0,1,3,4],res:=[2],cs:=λ k=>[(97,A8.e k)],ls:=[(2,Ct.p)] }
theorem Ae.a (k:Nat):AC (Ae.d.cs k):=⟨A8.s k,trivial⟩
theorem Ct.s:LL Tryz.f62 Ae.d 2 Ct.p:=mL [] Ae.a trivial
theorem Ae.s (k:Nat):CK 62 (Ae.e k):=mS Ae.d k [2] Tryz.func62 (Ae.a k) ⟨Ct.s,trivial⟩
def Gc.e (k:Nat):Ent:=⟨3,[(.val true t16),(.val false (.i .i64)),(.val false (.i .i64))],[(.agg,t16)],λ x=>Gc x.1 x.2.1 x.2.2⟩
def Gc.d:Fd := { nt:=27,nv:=3,nm:=[0,1,2,3,4,5,7],res:=[],cs:=λ k=>[(77,Bu.e k)],rf:=true }
theorem Gc.s (k:Nat):CK 130 (Gc.e k):=mS Gc.d k [] Tryz.func130 ⟨Bu.s k,trivial⟩ trivial
def Bi.e (k:Nat):Ent:=⟨1,[(.val true t25)],[(.agg,t26)],λ x=>Bi x⟩
def Bi.d:Fd := { nt:=9,nv:=1,nm:=[0,1],res:=[],mv:=[8],rf:=true }
theorem Bi.s (k:Nat):CK 96 (Bi.e k):=mS Bi.d k [] Tryz.func96 trivial trivial
def B5.e (k:Nat):Ent:=⟨2,[(.val true t48),(.val false t6)],[(.one,t7)],λ x=>B5 k x.1 x.2⟩
def Bw.p:LF:=⟨⟨[(2,(.bp 2 0 0)),(3999,(.hd 9))],[(1,t6),(5,t7),(6,(.i .i64)),(7,(.i .i64)),(3000,t48)]⟩,[((.exit 2),⟨[(2,(.bp 2 0 0)),(3999,(.hd 9))],[(1,t6),(5,t7),(6,(.i .i64)),(3000,t48)]⟩)],λ k x=>Bw k x.1 x.2.1 x.2.2.1 x.2.2.2.1 x.2.2.2.2⟩
def Df.p:LF:=⟨⟨[(2,(.bp 2 0 0)),(3999,(.hd 9))],[(1,t6),(5,t7),(6,(.i .i64)),(3000,t48)]⟩,[((.exit 0),⟨[],[(5,t7)]⟩)],λ k x=>Df k x.1 x.2.1 x.2.2.1 x.2.2.2⟩
def B5.d:Fd := { nt:=38,nv:=2,nm:=[0,1,2,3,5,6,7],res:=[4],ls:=[(6,Bw.p),(3,Df.p)],rf:=true }
theorem Bw.s:LL Tryz.f176 B5.d 6 Bw.p:=mL [] (λ _=>trivial) trivial
theorem Df.s:LL Tryz.f176 B5.d 3 Df.p:=mL [6] (λ _=>trivial) ⟨Bw.s,trivial⟩
theorem B5.s (k:Nat):CK 176 (B5.e k):=mS B5.d k [3] Tryz.func176 trivial ⟨Df.s,trivial⟩
def Ky.e (k:Nat):Ent:=⟨1,[(.val false .s)],[(.one,(.i .i64))],λ x=>Ky k x⟩
def Iv.p:LF:=⟨⟨[],[(0,.s),(3,(.i .i64)),(4,(.i .i64))]⟩,[((.exit 0),⟨[],[(3,(.i .i64))]⟩)],λ k x=>Iv k x.1 x.2.1 x.2.2⟩
def Ky.d:Fd := { nt:=20,nv:=1,nm:=[0,1,3,4],res:=[2],ls:=[(3,Iv.p)],rf:=true }
theorem Iv.s:LL Tryz.f259 Ky.d 3 Iv.p:=mL [] (λ _=>trivial) trivial
theorem Ky.s (k:Nat):CK 259 (Ky.e k):=mS Ky.d k [3] Tryz.func259 trivial ⟨Iv.s,trivial⟩
def K7.e (k:Nat):Ent:=⟨2,[(.val false .s),(.val false (.i .i64))],[(.one,(.i .i64))],λ x=>K7 k x.1 x.2⟩
def K7.d:Fd := { nt:=11,nv:=2,nm:=[0,1,2,3],res:=[4],cs:=λ k=>[(259,Ky.e k)],rf:=true }
theorem K7.s (k:Nat):CK 225 (K7.e k):=mS K7.d k [] Tryz.func225 ⟨Ky.s k,trivial⟩ trivial
def B6.e (k:Nat):Ent:=⟨2,[(.val true t17),(.val false .s)],[(.one,t7)],λ x=>B6 k x.1 x.2⟩
def B6.d:Fd := { nt:=22,nv:=2,nm:=[0,1,2,3],res:=[4],cs:=λ k=>[(225,K7.e k)],rf:=true }
theorem B6.s (k:Nat):CK 177 (B6.e k):=mS B6.d k [] Tryz.func177 ⟨K7.s k,trivial⟩ trivial
def Ca.e (k:Nat):Ent:=⟨2,[(.val false t6),(.val false (.i .i64))],[(.one,.b)],λ x=>Ca k x.1 x.2⟩
def Hm.p:LF:=⟨⟨[],[(0,t6),(1,(.i .i64)),(5,(.i .i64))]⟩,[(.ret,⟨[],[(4,.b)]⟩),((.exit 0),⟨[],[]⟩)],λ k x=>Hm k x.1 x.2.1 x.2.2⟩
def Ca.d:Fd := { nt:=18,nv:=2,nm:=[0,1,2,3,5],res:=[4],ls:=[(2,Hm.p)],rf:=true }
theorem Hm.s:LL Tryz.f190 Ca.d 2 Hm.p:=mL [] (λ _=>trivial) trivial
theorem Ca.s (k:Nat):CK 190 (Ca.e k):=mS Ca.d k [2] Tryz.func190 trivial ⟨Hm.s,trivial⟩
def Du.e (k:Nat):Ent:=⟨2,[(.val false t22),(.val false (.i .i64))],[(.agg,t16),(.one,.b)],λ x=>Du k x.1 x.2⟩
def Hn.p:LF:=⟨⟨[(4,(.bp 4 0 0)),(5999,(.hd 3))],[(0,t22),(1,(.i .i64)),(6,(.i .i64)),(5000,t16)]⟩,[(.ret,⟨[(4,(.bp 4 0 0)),(5999,(.hd 3))],[(5,.b),(5000,t16)]⟩),((.exit 0),⟨[(4,(.bp 4 0 0)),(5999,(.hd 3))],[(5000,t16)]⟩)],λ k x=>Hn k x.1 x.2.1 x.2.2.1 x.2.2.2⟩
def Du.d:Fd := { nt:=25,nv:=2,nm:=[0,1,2,3,6],res:=[5],ls:=[(2,Hn.p)],rf:=true }
theorem Hn.s:LL Tryz.f139 Du.d 2 Hn.p:=mL [] (λ _=>trivial) trivial
theorem Du.s (k:Nat):CK 139 (Du.e k):=mS Du.d k [2] Tryz.func139 trivial ⟨Hn.s,trivial⟩
def Cm.e (k:Nat):Ent:=⟨2,[(.val false t6),(.val false t22)],[(.one,t7)],λ x=>Cm k x.1 x.2⟩
def Dg.p:LF:=⟨⟨[],[(0,t6),(1,t22),(5,t7),(6,(.i .i64))]⟩,[((.exit 0),⟨[],[(5,t7)]⟩)],λ k x=>Dg k x.1 x.2.1 x.2.2.1 x.2.2.2⟩
def Cm.d:Fd := { nt:=39,nv:=2,nm:=[0,1,2,3,5,6,7,8],res:=[4],cs:=λ k=>[(139,Du.e k),(190,Ca.e k)],ls:=[(3,Dg.p)],rf:=true }
theorem Cm.a (k:Nat):AC (Cm.d.cs k):=⟨Du.s k,Ca.s k,trivial⟩
theorem Dg.s:LL Tryz.f226 Cm.d 3 Dg.p:=mL [] Cm.a trivial
theorem Cm.s (k:Nat):CK 226 (Cm.e k):=mS Cm.d k [3] Tryz.func226 (Cm.a k) ⟨Dg.s,trivial⟩
def C6.e (k:Nat):Ent:=⟨3,[(.val true t17),(.val false t22),(.val false .s)],[(.one,t7)],λ x=>C6 k x.1 x.2.1 x.2.2⟩
def Bx.p:LF:=⟨⟨[],[(1,t22),(7,t7),(8,t7),(9,t7),(10,(.i .i64)),(11,(.i .i64))]⟩,[((.exit 2),⟨[],[(1,t22),(7,t7),(8,t7),(9,t7),(10,(.i .i64))]⟩)],λ k x=>Bx k x.1 x.2.1 x.2.2.1 x.2.2.2.1 x.2.2.2.2.1 x.2.2.2.2.2⟩
def E3.p:LF:=⟨⟨[],[(1,t22),(7,t7),(8,t7),(9,t7),(10,(.i .i64))]⟩,[((.exit 0),⟨[],[(9,t7)]⟩)],λ k x=>E3 k x.1 x.2.1 x.2.2.1 x.2.2.2.1 x.2.2.2.2⟩
def C6.d:Fd := { nt:=58,nv:=3,nm:=[0,1,2,3,4,5,7,8,9,10,11],res:=[6],cs:=λ k=>[(177,B6.e k),(190,Ca.e k),(226,Cm.e k)],ls:=[(8,Bx.p),(5,E3.p)],rf:=true }
theorem C6.a (k:Nat):AC (C6.d.cs k):=⟨B6.s k,Ca.s k,Cm.s k,trivial⟩
theorem Bx.s:LL Tryz.f178 C6.d 8 Bx.p:=mL [] C6.a trivial
theorem E3.s:LL Tryz.f178 C6.d 5 E3.p:=mL [8] C6.a ⟨Bx.s,trivial⟩
theorem C6.s (k:Nat):CK 178 (C6.e k):=mS C6.d k [5] Tryz.func178 (C6.a k) ⟨E3.s,trivial⟩
def Bz.e (k:Nat):Ent:=⟨2,[(.val true t48),(.val false .s)],[(.one,t7)],λ x=>Bz k x.1 x.2⟩
def Bz.d:Fd := { nt:=20,nv:=2,nm:=[0,1,2,3],res:=[4],cs:=λ k=>[(176,B5.e k),(177,B6.e k),(178,C6.e k)],rf:=true }
theorem Bz.s (k:Nat):CK 118 (Bz.e k):=mS Bz.d k [] Tryz.func118 ⟨B5.s k,B6.s k,C6.s k,trivial⟩ trivial
def B8.e (k:Nat):Ent:=⟨2,[(.val false t6),(.val false (.i .i64))],[(.one,(.i .i64))],λ x=>B8 x.1 x.2⟩
def B8.d:Fd := { nt:=21,nv:=2,nm:=[0,1,2,3],res:=[4],cs:=λ k=>[(97,A8.e k)],rf:=true }
theorem B8.s (k:Nat):CK 119 (B8.e k):=mS B8.d k [] Tryz.func119 ⟨A8.s k,trivial⟩ trivial
def Em.e (k:Nat):Ent:=⟨2,[(.val true t27),(.val false .s)],[(.one,t5),(.one,.b)],λ x=>Em k x.1 x.2⟩
def Em.d:Fd := { nt:=22,nv:=2,nm:=[0,1,2,3,6],res:=[4,5],cs:=λ k=>[(153,Cw.e k)] }
theorem Em.s (k:Nat):CK 179 (Em.e k):=mS Em.d k [] Tryz.func179 ⟨Cw.s k,trivial⟩ trivial
def Ey.e (k:Nat):Ent:=⟨2,[(.val true t27),(.val false .s)],[(.agg,t26),(.one,(.i .i64))],λ x=>Ey k x.1 x.2⟩
def Ey.d:Fd := { nt:=28,nv:=2,nm:=[0,1,2,3,6,7,8,9],res:=[5],cs:=λ k=>[(151,G5.e k),(179,Em.e k)],mv:=[27] }
theorem Ey.s (k:Nat):CK 120 (Ey.e k):=mS Ey.d k [] Tryz.func120 ⟨G5.s k,Em.s k,trivial⟩ trivial
def Bv.e (k:Nat):Ent:=⟨2,[(.val true t16),(.val true t16)],[(.one,.b)],λ x=>Bv x.1 x.2⟩
def Bv.d:Fd := { nt:=32,nv:=2,nm:=[0,1,2,3],res:=[4] }
theorem Bv.s (k:Nat):CK 79 (Bv.e k):=mS Bv.d k [] Tryz.func79 trivial trivial
def J6.e (k:Nat):Ent:=⟨2,[(.val true t25),(.val true t25)],[(.one,.b)],λ x=>J6 x.1 x.2⟩
def J6.d:Fd := { nt:=10,nv:=2,nm:=[0,1,2,3],res:=[4],cs:=λ k=>[(79,Bv.e k)] }
theorem J6.s (k:Nat):CK 121 (J6.e k):=mS J6.d k [] Tryz.func121 ⟨Bv.s k,trivial⟩ trivial
def B9.e (k:Nat):Ent:=⟨1,[(.val false t13)],[(.one,t14)],λ x=>B9 k x⟩
def C0.p:LF:=⟨⟨[],[(0,t13),(3,t14),(4,(.i .i64))]⟩,[((.exit 0),⟨[],[(3,t14)]⟩)],λ k x=>C0 k x.1 x.2.1 x.2.2⟩
def B9.d:Fd := { nt:=29,nv:=1,nm:=[0,1,3,4],res:=[2],ls:=[(3,C0.p)] }
theorem C0.s:LL Tryz.f207 B9.d 3 C0.p:=mL [] (λ _=>trivial) trivial
theorem B9.s (k:Nat):CK 207 (B9.e k):=mS B9.d k [3] Tryz.func207 trivial ⟨C0.s,trivial⟩
def Fs.e (k:Nat):Ent:=⟨1,[(.val false t13)],[(.one,t15)],λ x=>Fs k x⟩
def I4.p:LF:=⟨⟨[],[(0,t13),(3,t15),(4,(.i .i64))]⟩,[((.exit 0),⟨[],[(3,t15)]⟩)],λ k x=>I4 k x.1 x.2.1 x.2.2⟩
def Fs.d:Fd := { nt:=29,nv:=1,nm:=[0,1,3,4],res:=[2],ls:=[(3,I4.p)],hint:=[(5,t12),(26,t12),(27,t12)] }
theorem I4.s:LL Tryz.f207 Fs.d 3 I4.p:=mL [] (λ _=>trivial) trivial
theorem Fs.s (k:Nat):CK 207 (Fs.e k):=mS Fs.d k [3] Tryz.func207 trivial ⟨I4.s,trivial⟩
def A6.e (k:Nat):Ent:=⟨1,[(.val true t27)],[(.agg,t29)],λ x=>A6 k x⟩
def A6.d:Fd := { nt:=10,nv:=1,nm:=[0,1],res:=[],cs:=λ k=>[(207,B9.e k)] }
theorem A6.s (k:Nat):CK 159 (A6.e k):=mS A6.d k [] Tryz.func159 ⟨B9.s k,trivial⟩ trivial
def Je.e (k:Nat):Ent:=⟨1,[(.val true t27)],[(.agg,t30)],λ x=>Je k x⟩
def Je.d:Fd := { nt:=10,nv:=1,nm:=[0,1],res:=[],cs:=λ k=>[(207,Fs.e k)] }
theorem Je.s (k:Nat):CK 159 (Je.e k):=mS Je.d k [] Tryz.func159 ⟨Fs.s k,trivial⟩ trivial
def Ez.e (k:Nat):Ent:=⟨1,[(.val false t13)],[(.one,.b)],λ x=>Ez k x⟩
def Fi.p:LF:=⟨⟨[],[(0,t13),(3,(.i .i64))]⟩,[(.ret,⟨[],[(2,.b)]⟩),((.exit 0),⟨[],[(0,t13)]⟩)],λ k x=>Fi k x.1 x.2⟩
def Ez.d:Fd := { nt:=47,nv:=1,nm:=[0,1,3],res:=[2],cs:=λ k=>[(62,Ae.e k)],ls:=[(2,Fi.p)] }
theorem Ez.a (k:Nat):AC (Ez.d.cs k):=⟨Ae.s k,trivial⟩
theorem Fi.s:LL Tryz.f234 Ez.d 2 Fi.p:=mL [] Ez.a trivial
theorem Ez.s (k:Nat):CK 234 (Ez.e k):=mS Ez.d k [2] Tryz.func234 (Ez.a k) ⟨Fi.s,trivial⟩
def Be.e (k:Nat):Ent:=⟨1,[(.val true t27)],[(.one,.b)],λ x=>Be k x⟩
def Be.d:Fd := { nt:=11,nv:=1,nm:=[0,1],res:=[2],cs:=λ k=>[(234,Ez.e k)] }
theorem Be.s (k:Nat):CK 192 (Be.e k):=mS Be.d k [] Tryz.func192 ⟨Ez.s k,trivial⟩ trivial
def Ie.e (k:Nat):Ent:=⟨2,[(.val false t13),(.val false .s)],[(.one,t14)],λ x=>Ie k x.1 x.2⟩
def H4.p:LF:=⟨⟨[],[(0,t13),(1,.s),(5,t14),(6,(.i .i64))]⟩,[((.exit 0),⟨[],[(5,t14)]⟩)],λ k x=>H4 k x.1 x.2.1 x.2.2.1 x.2.2.2⟩
def Ie.d:Fd := { nt:=29,nv:=2,nm:=[0,1,2,3,5,6],res:=[4],ls:=[(3,H4.p)] }
theorem H4.s:LL Tryz.f250 Ie.d 3 H4.p:=mL [] (λ _=>trivial) trivial
theorem Ie.s (k:Nat):CK 250 (Ie.e k):=mS Ie.d k [3] Tryz.func250 trivial ⟨H4.s,trivial⟩
def Dv.e (k:Nat):Ent:=⟨3,[(.val true t27),(.val true t29),(.val false .s)],[(.agg,t29),(.one,.b)],λ x=>Dv k x.1 x.2.1 x.2.2⟩
def Dv.d:Fd := { nt:=24,nv:=3,nm:=[0,1,2,3,4,5],res:=[7],cs:=λ k=>[(62,Ae.e k),(159,A6.e k),(192,Be.e k)],mv:=[23] }
theorem Dv.s (k:Nat):CK 251 (Dv.e k):=mS Dv.d k [] Tryz.func251 ⟨Ae.s k,A6.s k,Be.s k,trivial⟩ trivial
def Ep.e (k:Nat):Ent:=⟨3,[(.val false t13),(.val false .s),(.val false t4)],[(.one,t14)],λ x=>Ep k x.1 x.2.1 x.2.2⟩
def C7.p:LF:=⟨⟨[(9,(.bp 9 0 0)),(10999,(.hd 2))],[(0,t13),(1,.s),(7,t14),(8,.b),(10,(.i .i64)),(10000,.s),(10001,t4)]⟩,[((.exit 0),⟨[(9,(.bp 9 0 0)),(10999,(.hd 2))],[(7,t14),(8,.b),(10000,.s),(10001,t4)]⟩)],λ k x=>C7 k x.1 x.2.1 x.2.2.1 x.2.2.2.1 x.2.2.2.2.1 x.2.2.2.2.2.1 x.2.2.2.2.2.2⟩
def Ep.d:Fd := { nt:=59,nv:=3,nm:=[0,1,2,3,4,5,7,8,9,10],res:=[6],ls:=[(5,C7.p)] }
theorem C7.s:LL Tryz.f252 Ep.d 5 C7.p:=mL [] (λ _=>trivial) trivial
theorem Ep.s (k:Nat):CK 252 (Ep.e k):=mS Ep.d k [5] Tryz.func252 trivial ⟨C7.s,trivial⟩
def Ai.e (k:Nat):Ent:=⟨2,[(.val true t27),(.val false .s)],[(.agg,t29),(.one,.b)],λ x=>Ai k x.1 x.2⟩
def Ai.d:Fd := { nt:=35,nv:=2,nm:=[0,1,2,3,6,7,8],res:=[5],cs:=λ k=>[(159,A6.e k),(179,Em.e k),(250,Ie.e k),(251,Dv.e k),(252,Ep.e k)] }
theorem Ai.s (k:Nat):CK 210 (Ai.e k):=mS Ai.d k [] Tryz.func210 ⟨A6.s k,Em.s k,Ie.s k,Dv.s k,Ep.s k,trivial⟩ trivial
def B7.e (k:Nat):Ent:=⟨3,[(.val true t27),(.val false .s),(.val false t4)],[(.agg,t29),(.one,.b)],λ x=>B7 k x.1 x.2.1 x.2.2⟩
def B7.d:Fd := { nt:=23,nv:=3,nm:=[0,1,2,3,4,5,8],res:=[7],cs:=λ k=>[(159,A6.e k),(251,Dv.e k),(252,Ep.e k)] }
theorem B7.s (k:Nat):CK 249 (B7.e k):=mS B7.d k [] Tryz.func249 ⟨A6.s k,Dv.s k,Ep.s k,trivial⟩ trivial
def Jc.e (k:Nat):Ent:=⟨4,[(.val true t27),(.val false .s),(.val true t25),(.val false .b)],[(.agg,t29),(.one,(.i .i64))],λ x=>Jc k x.1 x.2.1 x.2.2.1 x.2.2.2⟩
def Jc.d:Fd := { nt:=82,nv:=4,nm:=[0,1,2,3,4,5,6,7,10,11,12,13,14,15],res:=[9],cs:=λ k=>[(62,Ae.e k),(78,Bq.e k),(120,Ey.e k),(121,J6.e k),(159,A6.e k),(192,Be.e k),(202,Bc.e k),(210,Ai.e k),(249,B7.e k)],mv:=[58,81] }
theorem Jc.s (k:Nat):CK 208 (Jc.e k):=mS Jc.d k [] Tryz.func208 ⟨Ae.s k,Bq.s k,Ey.s k,J6.s k,A6.s k,Be.s k,Bc.s k,Ai.s k,B7.s k,trivial⟩ trivial
def I5.e (k:Nat):Ent:=⟨2,[(.val false .s),(.val true t25)],[(.agg,t28)],λ x=>I5 x.1 x.2⟩
def I5.d:Fd := { nt:=14,nv:=2,nm:=[0,1,2,3],res:=[] }
theorem I5.s (k:Nat):CK 230 (I5.e k):=mS I5.d k [] Tryz.func230 trivial trivial
def Jl.e (k:Nat):Ent:=⟨4,[(.ptr t40 t40),(.val false .s),(.val true t25),(.val false .b)],[(.one,(.i .i64))],λ x=>Jl k x.1 x.2.1 x.2.2.1 x.2.2.2⟩
def Jl.d:Fd := { nt:=52,nv:=4,nm:=[0,1,2,3,4,5,6,7,9,10],res:=[8],cs:=λ k=>[(208,Jc.e k),(230,I5.e k)] }
theorem Jl.s (k:Nat):CK 184 (Jl.e k):=mS Jl.d k [] Tryz.func184 ⟨Jc.s k,I5.s k,trivial⟩ trivial
def Ho.e (k:Nat):Ent:=⟨4,[(.ptr t41 t42),(.val false .s),(.val true t25),(.val false .b)],[(.one,(.i .i64))],λ x=>Ho k x.1 x.2.1 x.2.2.1 x.2.2.2⟩
def Ho.d:Fd := { nt:=52,nv:=4,nm:=[0,1,2,3,4,5,6,7,9,10],res:=[8],cs:=λ k=>[(208,Jc.e k),(230,I5.e k)] }
theorem Ho.s (k:Nat):CK 184 (Ho.e k):=mS Ho.d k [] Tryz.func184 ⟨Jc.s k,I5.s k,trivial⟩ trivial
def Jm.e (k:Nat):Ent:=⟨1,[(.val false (.i .i64))],[(.one,(.i .i64))],λ x=>Jm x⟩
def Jm.d:Fd := { nt:=6,nv:=1,nm:=[0,1],res:=[2],rf:=true }
theorem Jm.s (k:Nat):CK 185 (Jm.e k):=mS Jm.d k [] Tryz.func185 trivial trivial
def Bt.e (k:Nat):Ent:=⟨4,[(.ptr t49 t49),(.val false .s),(.val true t25),(.val false t6)],[(.one,(.i .i64))],λ x=>Bt k x.1 x.2.1 x.2.2.1 x.2.2.2⟩
def Ay.p:LF:=⟨⟨[(0,(.bp 0 0 0)),(6,(.bp 6 0 0)),(1999,(.hd 9)),(7999,(.hd 5))],[(1,.s),(3,t6),(9,t7),(10,(.i .i64)),(11,(.i .i64)),(12,(.i .i64)),(1000,t49),(7000,t25)]⟩,[((.exit 0),⟨[(0,(.bp 0 0 0)),(6,(.bp 6 0 0)),(1999,(.hd 9)),(7999,(.hd 5))],[(1,.s),(11,(.i .i64)),(1000,t49),(7000,t25)]⟩)],λ k x=>Ay k x.1 x.2.1 x.2.2.1 x.2.2.2.1 x.2.2.2.2.1 x.2.2.2.2.2.1 x.2.2.2.2.2.2.1 x.2.2.2.2.2.2.2⟩
def Bt.d:Fd := { nt:=92,nv:=4,nm:=[0,1,2,3,4,5,6,7,9,10,11,12,13,14,15],res:=[8],cs:=λ k=>[(96,Bi.e k),(118,Bz.e k),(119,B8.e k),(184,Jl.e k),(185,Jm.e k)],ls:=[(5,Ay.p)],gh:=[(1000006,[.cl 1003])],opn:=[51],rf:=true }
theorem Bt.a (k:Nat):AC (Bt.d.cs k):=⟨Bi.s k,Bz.s k,B8.s k,Jl.s k,Jm.s k,trivial⟩
theorem Ay.s:LL Tryz.f131 Bt.d 5 Ay.p:=mL [] Bt.a trivial
theorem Bt.s (k:Nat):CK 131 (Bt.e k):=mS Bt.d k [5] Tryz.func131 (Bt.a k) ⟨Ay.s,trivial⟩
def H5.e (k:Nat):Ent:=⟨5,[(.ptr t49 t49),(.val false .s),(.val true t25),(.val false (.i .i64)),(.val false t6)],[(.one,(.i .i64))],λ x=>H5 k x.1 x.2.1 x.2.2.1 x.2.2.2.1 x.2.2.2.2⟩
def H5.d:Fd := { nt:=57,nv:=5,nm:=[0,1,2,3,4,5,6,7,8,9],res:=[10],cs:=λ k=>[(62,Ae.e k),(97,A8.e k),(130,Gc.e k),(131,Bt.e k)],rf:=true }
theorem H5.s (k:Nat):CK 71 (H5.e k):=mS H5.d k [] Tryz.func71 ⟨Ae.s k,A8.s k,Gc.s k,Bt.s k,trivial⟩ trivial
def Ba.e (k:Nat):Ent:=⟨2,[(.val true t27),(.val false .s)],[(.agg,t29),(.one,.b)],λ x=>Ba k x.1 x.2⟩
def Ba.d:Fd := { nt:=26,nv:=2,nm:=[0,1,2,3,6],res:=[5],cs:=λ k=>[(153,Cw.e k),(159,A6.e k),(250,Ie.e k),(251,Dv.e k)],mv:=[14] }
theorem Ba.s (k:Nat):CK 209 (Ba.e k):=mS Ba.d k [] Tryz.func209 ⟨Cw.s k,A6.s k,Ie.s k,Dv.s k,trivial⟩ trivial
def Cc.e (k:Nat):Ent:=⟨4,[(.ptr t49 t49),(.val false (.i .i64)),(.val false .s),(.val false t6)],[(.one,.b)],λ x=>Cc k x.1 x.2.1 x.2.2.1 x.2.2.2⟩
def Bf.p:LF:=⟨⟨[(0,(.bp 0 0 0)),(9,(.bp 9 0 0)),(1999,(.hd 9)),(10999,(.hd 5))],[(1,(.i .i64)),(2,.s),(3,t6),(11,t7),(12,.b),(13,.b),(14,(.i .i64)),(1000,t49),(10000,t25)]⟩,[((.exit 0),⟨[(0,(.bp 0 0 0)),(1999,(.hd 9))],[(1,(.i .i64)),(2,.s),(12,.b),(13,.b),(1000,t49)]⟩)],λ k x=>Bf k x.1 x.2.1 x.2.2.1 x.2.2.2.1 x.2.2.2.2.1 x.2.2.2.2.2.1 x.2.2.2.2.2.2.1 x.2.2.2.2.2.2.2.1 x.2.2.2.2.2.2.2.2⟩
def Cc.d:Fd := { nt:=125,nv:=4,nm:=[0,1,2,3,4,5,6,7,9,10,11,12,13,14,15,16,17,18],res:=[8],cs:=λ k=>[(119,B8.e k),(120,Ey.e k),(176,B5.e k),(177,B6.e k),(208,Jc.e k),(209,Ba.e k),(210,Ai.e k)],ls:=[(8,Bf.p)],rf:=true }
theorem Cc.a (k:Nat):AC (Cc.d.cs k):=⟨B8.s k,Ey.s k,B5.s k,B6.s k,Jc.s k,Ba.s k,Ai.s k,trivial⟩
theorem Bf.s:LL Tryz.f160 Cc.d 8 Bf.p:=mL [] Cc.a trivial
theorem Cc.s (k:Nat):CK 160 (Cc.e k):=mS Cc.d k [8] Tryz.func160 (Cc.a k) ⟨Bf.s,trivial⟩
def G7.e (k:Nat):Ent:=⟨1,[(.val true t48)],[(.one,t7)],λ x=>G7 k x⟩
def G7.d:Fd := { nt:=8,nv:=1,nm:=[0,1],res:=[2],cs:=λ k=>[(176,B5.e k),(177,B6.e k)],rf:=true }
theorem G7.s (k:Nat):CK 253 (G7.e k):=mS G7.d k [] Tryz.func253 ⟨B5.s k,B6.s k,trivial⟩ trivial
def Iw.e (k:Nat):Ent:=⟨2,[(.val true t28),(.val true t28)],[(.one,.b)],λ x=>Iw x.1 x.2⟩
def Iw.d:Fd := { nt:=29,nv:=2,nm:=[0,1,2,3],res:=[4],cs:=λ k=>[(79,Bv.e k)] }
theorem Iw.s (k:Nat):CK 263 (Iw.e k):=mS Iw.d k [] Tryz.func263 ⟨Bv.s k,trivial⟩ trivial
def Bj.e (k:Nat):Ent:=⟨2,[(.val false t31),(.val true t28)],[(.one,t32)],λ x=>Bj k x.1 x.2⟩
def Dh.p:LF:=⟨⟨[(3,(.bp 3 0 0)),(4999,(.hd 6))],[(5,t32),(7,(.i .i64)),(4000,.s),(4001,(.i .i64)),(4002,(.i .i64)),(4003,(.i .i64)),(4004,.b),(4005,(.i .i64))]⟩,[((.exit 2),⟨[(3,(.bp 3 0 0)),(4999,(.hd 6))],[(5,t32),(7,(.i .i64)),(4000,.s),(4001,(.i .i64)),(4002,(.i .i64)),(4003,(.i .i64)),(4004,.b),(4005,(.i .i64))]⟩)],λ k x=>Dh k x.1 x.2.1 x.2.2.1 x.2.2.2.1 x.2.2.2.2.1 x.2.2.2.2.2.1 x.2.2.2.2.2.2.1 x.2.2.2.2.2.2.2⟩
def E4.p:LF:=⟨⟨[(3,(.bp 3 0 0)),(4999,(.hd 6))],[(5,t32),(6,(.i .i64)),(4000,.s),(4001,(.i .i64)),(4002,(.i .i64)),(4003,(.i .i64)),(4004,.b),(4005,(.i .i64))]⟩,[(.ret,⟨[],[(4,t32)]⟩),((.exit 0),⟨[(3,(.bp 3 0 0)),(4999,(.hd 6))],[(5,t32),(4000,.s),(4001,(.i .i64)),(4002,(.i .i64)),(4003,(.i .i64)),(4004,.b),(4005,(.i .i64))]⟩)],λ k x=>E4 k x.1 x.2.1 x.2.2.1 x.2.2.2.1 x.2.2.2.2.1 x.2.2.2.2.2.1 x.2.2.2.2.2.2.1 x.2.2.2.2.2.2.2⟩
def Bj.d:Fd := { nt:=70,nv:=2,nm:=[0,1,2,3,5,6,7],res:=[4],cs:=λ k=>[(263,Iw.e k)],ls:=[(11,Dh.p),(3,E4.p)] }
theorem Bj.a (k:Nat):AC (Bj.d.cs k):=⟨Iw.s k,trivial⟩
theorem Dh.s:LL Tryz.f260 Bj.d 11 Dh.p:=mL [] Bj.a trivial
theorem E4.s:LL Tryz.f260 Bj.d 3 E4.p:=mL [] Bj.a trivial
theorem Bj.s (k:Nat):CK 260 (Bj.e k):=mS Bj.d k [3,11] Tryz.func260 (Bj.a k) ⟨E4.s,Dh.s,trivial⟩
def Bp.e (k:Nat):Ent:=⟨2,[(.val false t31),(.val false t31)],[(.one,t32)],λ x=>Bp k x.1 x.2⟩
def Di.p:LF:=⟨⟨[],[(1,t31),(5,t32),(6,(.i .i64))]⟩,[((.exit 0),⟨[],[(5,t32)]⟩)],λ k x=>Di k x.1 x.2.1 x.2.2⟩
def Bp.d:Fd := { nt:=23,nv:=2,nm:=[0,1,2,3,5,6],res:=[4],cs:=λ k=>[(260,Bj.e k)],ls:=[(3,Di.p)] }
theorem Bp.a (k:Nat):AC (Bp.d.cs k):=⟨Bj.s k,trivial⟩
theorem Di.s:LL Tryz.f262 Bp.d 3 Di.p:=mL [] Bp.a trivial
theorem Bp.s (k:Nat):CK 262 (Bp.e k):=mS Bp.d k [3] Tryz.func262 (Bp.a k) ⟨Di.s,trivial⟩
def He.e (k:Nat):Ent:=⟨2,[(.ptr t40 t40),(.val false t31)],[(.one,.b)],λ x=>He k x.1 x.2⟩
def He.d:Fd := { nt:=19,nv:=2,nm:=[0,1,2,3,5],res:=[4],cs:=λ k=>[(262,Bp.e k)] }
theorem He.s (k:Nat):CK 254 (He.e k):=mS He.d k [] Tryz.func254 ⟨Bp.s k,trivial⟩ trivial
def Gd.e (k:Nat):Ent:=⟨2,[(.ptr t41 t43),(.val false t31)],[(.one,.b)],λ x=>Gd k x.1 x.2⟩
def Gd.d:Fd := { nt:=19,nv:=2,nm:=[0,1,2,3,5],res:=[4],cs:=λ k=>[(262,Bp.e k)] }
theorem Gd.s (k:Nat):CK 254 (Gd.e k):=mS Gd.d k [] Tryz.func254 ⟨Bp.s k,trivial⟩ trivial
def Bl.e (k:Nat):Ent:=⟨5,[(.ptr t49 t49),(.val false (.i .i64)),(.val false t31),(.val false .b),(.val false t6)],[(.one,.b)],λ x=>Bl k x.1 x.2.1 x.2.2.1 x.2.2.2.1 x.2.2.2.2⟩
def Ah.p:LF:=⟨⟨[(0,(.bp 0 0 0)),(1999,(.hd 9))],[(1,(.i .i64)),(2,t31),(3,.b),(4,t6),(11,t7),(12,.b),(13,(.i .i64)),(1000,t49)]⟩,[((.exit 0),⟨[(1999,(.hd 9))],[(12,.b),(1000,t49)]⟩)],λ k x=>Ah k x.1 x.2.1 x.2.2.1 x.2.2.2.1 x.2.2.2.2.1 x.2.2.2.2.2.1 x.2.2.2.2.2.2.1 x.2.2.2.2.2.2.2⟩
def Bl.d:Fd := { nt:=53,nv:=5,nm:=[0,1,2,3,4,5,6,7,8,9,11,12,13],res:=[10],cs:=λ k=>[(119,B8.e k),(253,G7.e k),(254,He.e k)],ls:=[(4,Ah.p)],gh:=[(1000005,[.cl 1003])],opn:=[47],rf:=true }
theorem Bl.a (k:Nat):AC (Bl.d.cs k):=⟨B8.s k,G7.s k,He.s k,trivial⟩
theorem Ah.s:LL Tryz.f211 Bl.d 4 Ah.p:=mL [] Bl.a trivial
theorem Bl.s (k:Nat):CK 211 (Bl.e k):=mS Bl.d k [4] Tryz.func211 (Bl.a k) ⟨Ah.s,trivial⟩
def Il.e (k:Nat):Ent:=⟨2,[(.val true t48),(.val false (.i .i64))],[(.one,.b)],λ x=>Il k x.1 x.2⟩
def Il.d:Fd := { nt:=9,nv:=2,nm:=[0,1,2,3],res:=[4],cs:=λ k=>[(190,Ca.e k),(253,G7.e k)],rf:=true }
theorem Il.s (k:Nat):CK 212 (Il.e k):=mS Il.d k [] Tryz.func212 ⟨Ca.s k,G7.s k,trivial⟩ trivial
def Ge.e (k:Nat):Ent:=⟨3,[(.ptr t49 t49),(.val false (.i .i64)),(.val false t6)],[(.one,.b)],λ x=>Ge k x.1 x.2.1 x.2.2⟩
def Ge.d:Fd := { nt:=47,nv:=3,nm:=[0,1,2,3,4,5,7],res:=[6],cs:=λ k=>[(211,Bl.e k),(212,Il.e k)],rf:=true }
theorem Ge.s (k:Nat):CK 161 (Ge.e k):=mS Ge.d k [] Tryz.func161 ⟨Bl.s k,Il.s k,trivial⟩ trivial
def Gf.e (k:Nat):Ent:=⟨3,[(.ptr t49 t49),(.val false (.i .i64)),(.val false t6)],[(.one,.b)],λ x=>Gf k x.1 x.2.1 x.2.2⟩
def Gf.d:Fd := { nt:=36,nv:=3,nm:=[0,1,2,3,4,5,7],res:=[6],cs:=λ k=>[(211,Bl.e k)],rf:=true }
theorem Gf.s (k:Nat):CK 162 (Gf.e k):=mS Gf.d k [] Tryz.func162 ⟨Bl.s k,trivial⟩ trivial
def I6.e (k:Nat):Ent:=⟨1,[(.val true t27)],[(.agg,t29),(.one,(.i .i64))],λ x=>I6 k x⟩
def H6.p:LF:=⟨⟨[(1,(.bp 1 0 0)),(2,(.bp 2 0 0)),(4,(.bp 4 0 0)),(2999,(.hd 2)),(3999,(.hd 2)),(5999,(.hd 2))],[(5,(.i .i64)),(6,(.i .i64)),(2000,t27),(3000,t29),(5000,t29)]⟩,[((.exit 0),⟨[(2,(.bp 2 0 0)),(4,(.bp 4 0 0)),(3999,(.hd 2)),(5999,(.hd 2))],[(5,(.i .i64)),(3000,t29),(5000,t29)]⟩)],λ k x=>H6 k x.1 x.2.1 x.2.2.1 x.2.2.2.1 x.2.2.2.2⟩
def I6.d:Fd := { nt:=53,nv:=1,nm:=[0,1,4,5,6,7,8,9],res:=[3],cs:=λ k=>[(120,Ey.e k),(159,A6.e k),(192,Be.e k),(209,Ba.e k),(210,Ai.e k)],ls:=[(4,H6.p)],mv:=[51],rf:=true }
theorem I6.a (k:Nat):AC (I6.d.cs k):=⟨Ey.s k,A6.s k,Be.s k,Ba.s k,Ai.s k,trivial⟩
theorem H6.s:LL Tryz.f163 I6.d 4 H6.p:=mL [] I6.a trivial
theorem I6.s (k:Nat):CK 163 (I6.e k):=mS I6.d k [4] Tryz.func163 (I6.a k) ⟨H6.s,trivial⟩
def Cb.e (k:Nat):Ent:=⟨2,[(.val false t13),(.val false t13)],[(.one,t2)],λ x=>Cb k x.1 x.2⟩
def E5.p:LF:=⟨⟨[],[(5,t14),(8,t2),(9,(.i .i64))]⟩,[((.exit 4),⟨[],[(8,t2)]⟩)],λ k x=>E5 k x.1 x.2.1 x.2.2⟩
def F3.p:LF:=⟨⟨[],[(1,t13),(5,t14),(7,(.i .i64))]⟩,[((.exit 2),⟨[],[(5,t14)]⟩)],λ k x=>F3 k x.1 x.2.1 x.2.2⟩
def F4.p:LF:=⟨⟨[],[(0,t13),(1,t13),(5,t14),(6,(.i .i64))]⟩,[((.exit 0),⟨[],[(1,t13),(5,t14)]⟩)],λ k x=>F4 k x.1 x.2.1 x.2.2.1 x.2.2.2⟩
def Cb.d:Fd := { nt:=55,nv:=2,nm:=[0,1,2,3,5,6,7,8,9],res:=[4],cs:=λ k=>[(252,Ep.e k)],ls:=[(12,E5.p),(7,F3.p),(3,F4.p)],rf:=true }
theorem Cb.a (k:Nat):AC (Cb.d.cs k):=⟨Ep.s k,trivial⟩
theorem E5.s:LL Tryz.f213 Cb.d 12 E5.p:=mL [] Cb.a trivial
theorem F3.s:LL Tryz.f213 Cb.d 7 F3.p:=mL [] Cb.a trivial
theorem F4.s:LL Tryz.f213 Cb.d 3 F4.p:=mL [] Cb.a trivial
theorem Cb.s (k:Nat):CK 213 (Cb.e k):=mS Cb.d k [3,7,12] Tryz.func213 (Cb.a k) ⟨F4.s,F3.s,E5.s,trivial⟩
def D6.e (k:Nat):Ent:=⟨2,[(.val true t27),(.val false t1)],[(.agg,t29)],λ x=>D6 k x.1 x.2⟩
def Ap.p:LF:=⟨⟨[(2,(.bp 2 0 0)),(4,(.bp 4 0 0)),(3999,(.hd 2)),(5999,(.hd 2))],[(1,t1),(5,t2),(6,t14),(7,(.i .i64)),(3000,t27),(5000,t29)]⟩,[((.exit 0),⟨[(2,(.bp 2 0 0)),(4,(.bp 4 0 0)),(3999,(.hd 2)),(5999,(.hd 2))],[(6,t14),(3000,t27),(5000,t29)]⟩)],λ k x=>Ap k x.1 x.2.1 x.2.2.1 x.2.2.2.1 x.2.2.2.2.1 x.2.2.2.2.2⟩
def D6.d:Fd := { nt:=66,nv:=2,nm:=[0,1,2,3,5,6,7,8,9],res:=[],cs:=λ k=>[(153,Cw.e k),(159,A6.e k),(192,Be.e k),(207,B9.e k),(213,Cb.e k)],ls:=[(6,Ap.p)],rf:=true }
theorem D6.a (k:Nat):AC (D6.d.cs k):=⟨Cw.s k,A6.s k,Be.s k,B9.s k,Cb.s k,trivial⟩
theorem Ap.s:LL Tryz.f164 D6.d 6 Ap.p:=mL [] D6.a trivial
theorem D6.s (k:Nat):CK 164 (D6.e k):=mS D6.d k [6] Tryz.func164 (D6.a k) ⟨Ap.s,trivial⟩
def Bd.e (k:Nat):Ent:=⟨1,[(.val true t40)],[(.agg,t41)],λ x=>Bd k x⟩
def Bd.d:Fd := { nt:=17,nv:=1,nm:=[0,1],res:=[],cs:=λ k=>[(159,A6.e k)] }
theorem Bd.s (k:Nat):CK 95 (Bd.e k):=mS Bd.d k [] Tryz.func95 ⟨A6.s k,trivial⟩ trivial
def Hp.e (k:Nat):Ent:=⟨1,[(.val true t28)],[(.one,.b)],λ x=>Hp k x⟩
def Hp.d:Fd := { nt:=26,nv:=1,nm:=[0,1],res:=[2],cs:=λ k=>[(62,Ae.e k),(77,Bu.e k),(97,A8.e k)] }
theorem Hp.s (k:Nat):CK 191 (Hp.e k):=mS Hp.d k [] Tryz.func191 ⟨Ae.s k,Bu.s k,A8.s k,trivial⟩ trivial
def Dw.e (k:Nat):Ent:=⟨1,[(.val false t31)],[(.one,.b)],λ x=>Dw k x⟩
def Fj.p:LF:=⟨⟨[],[(0,t31),(3,(.i .i64))]⟩,[(.ret,⟨[],[(2,.b)]⟩),((.exit 0),⟨[],[(0,t31)]⟩)],λ k x=>Fj k x.1 x.2⟩
def Dw.d:Fd := { nt:=37,nv:=1,nm:=[0,1,3],res:=[2],cs:=λ k=>[(191,Hp.e k)],ls:=[(2,Fj.p)] }
theorem Dw.a (k:Nat):AC (Dw.d.cs k):=⟨Hp.s k,trivial⟩
theorem Fj.s:LL Tryz.f193 Dw.d 2 Fj.p:=mL [] Dw.a trivial
theorem Dw.s (k:Nat):CK 193 (Dw.e k):=mS Dw.d k [2] Tryz.func193 (Dw.a k) ⟨Fj.s,trivial⟩
def Br.e (k:Nat):Ent:=⟨1,[(.val true t40)],[(.one,.b)],λ x=>Br k x⟩
def Gg.p:LF:=⟨⟨[(1,(.bp 1 0 0)),(2999,(.hd 5))],[(3,(.i .i64)),(2000,(.i .i64)),(2001,t13),(2002,t13),(2003,t31),(2004,t31)]⟩,[(.ret,⟨[],[(2,.b)]⟩),((.exit 0),⟨[(1,(.bp 1 0 0)),(2999,(.hd 5))],[(2000,(.i .i64)),(2001,t13),(2002,t13),(2003,t31),(2004,t31)]⟩)],λ k x=>Gg k x.1 x.2.1 x.2.2.1 x.2.2.2.1 x.2.2.2.2.1 x.2.2.2.2.2⟩
def Br.d:Fd := { nt:=37,nv:=1,nm:=[0,1,3],res:=[2],cs:=λ k=>[(97,A8.e k),(191,Hp.e k),(192,Be.e k),(193,Dw.e k)],ls:=[(2,Gg.p)] }
theorem Br.a (k:Nat):AC (Br.d.cs k):=⟨A8.s k,Hp.s k,Be.s k,Dw.s k,trivial⟩
theorem Gg.s:LL Tryz.f140 Br.d 2 Gg.p:=mL [] Br.a trivial
theorem Br.s (k:Nat):CK 140 (Br.e k):=mS Br.d k [2] Tryz.func140 (Br.a k) ⟨Gg.s,trivial⟩
def Jn.e (k:Nat):Ent:=⟨3,[(.val true t27),(.val false .s),(.val false (.i .i64))],[(.agg,t30),(.one,.b)],λ x=>Jn k x.1 x.2.1 x.2.2⟩
def Jn.d:Fd := { nt:=97,nv:=3,nm:=[0,1,2,3,4,5,8,9,10,11],res:=[7],cs:=λ k=>[(97,A8.e k),(153,Cw.e k),(159,Je.e k),(192,Be.e k)],mv:=[39,96] }
theorem Jn.s (k:Nat):CK 214 (Jn.e k):=mS Jn.d k [] Tryz.func214 ⟨A8.s k,Cw.s k,Je.s k,Be.s k,trivial⟩ trivial
def Ee.e (k:Nat):Ent:=⟨3,[(.val true t40),(.val false .s),(.val false (.i .i64))],[(.agg,t42),(.one,.b)],λ x=>Ee k x.1 x.2.1 x.2.2⟩
def Ee.d:Fd := { nt:=44,nv:=3,nm:=[0,1,2,3,4,5,8,9,10,11,12],res:=[7],cs:=λ k=>[(95,Bd.e k),(120,Ey.e k),(140,Br.e k),(214,Jn.e k)],mv:=[29,40,43] }
theorem Ee.s (k:Nat):CK 165 (Ee.e k):=mS Ee.d k [] Tryz.func165 ⟨Bd.s k,Ey.s k,Br.s k,Jn.s k,trivial⟩ trivial
def D7.e (k:Nat):Ent:=⟨2,[(.val false t0),(.val false .s)],[(.one,t0)],λ x=>D7 k x.1 x.2⟩
def E6.p:LF:=⟨⟨[],[(1,.s),(5,t2),(6,(.i .i64))]⟩,[((.exit 0),⟨[],[(1,.s),(5,t2),(6,(.i .i64))]⟩)],λ k x=>E6 k x.1 x.2.1 x.2.2⟩
def D7.d:Fd := { nt:=46,nv:=2,nm:=[0,1,2,3,5,6],res:=[4],cs:=λ k=>[(152,Ha.e k)],ls:=[(5,E6.p)],rf:=true }
theorem D7.a (k:Nat):AC (D7.d.cs k):=⟨Ha.s k,trivial⟩
theorem E6.s:LL Tryz.f166 D7.d 5 E6.p:=mL [] D7.a trivial
theorem D7.s (k:Nat):CK 166 (D7.e k):=mS D7.d k [5] Tryz.func166 (D7.a k) ⟨E6.s,trivial⟩
def Au.e (k:Nat):Ent:=⟨2,[(.ptr t49 t49),(.val true t34)],[(.one,.b)],λ x=>Au k x.1 x.2⟩
def Cn.p:LF:=⟨⟨[(0,(.bp 0 0 0)),(3,(.bp 3 0 0)),(1999,(.hd 9)),(4999,(.hd 6))],[(5,t3),(6,(.i .i64)),(1000,t49),(4000,t34)]⟩,[((.exit 1),⟨[(0,(.bp 0 0 0)),(3,(.bp 3 0 0)),(1999,(.hd 9)),(4999,(.hd 6))],[(5,t3),(1000,t49),(4000,t34)]⟩)],λ k x=>Cn k x.1 x.2.1 x.2.2.1 x.2.2.2⟩
def Au.d:Fd := { nt:=134,nv:=2,nm:=[0,1,2,3,5,6,7,8],res:=[4],cs:=λ k=>[(160,Cc.e k),(161,Ge.e k),(162,Gf.e k),(163,I6.e k),(164,D6.e k),(165,Ee.e k),(166,D7.e k)],ls:=[(14,Cn.p)],rf:=true }
theorem Au.a (k:Nat):AC (Au.d.cs k):=⟨Cc.s k,Ge.s k,Gf.s k,I6.s k,D6.s k,Ee.s k,D7.s k,trivial⟩
theorem Cn.s:LL Tryz.f98 Au.d 14 Cn.p:=mL [] Au.a trivial
theorem Au.s (k:Nat):CK 98 (Au.e k):=mS Au.d k [14] Tryz.func98 (Au.a k) ⟨Cn.s,trivial⟩
def Ig.e (k:Nat):Ent:=⟨1,[(.val true t17)],[(.agg,t18)],λ x=>Ig k x⟩
def Fk.p:LF:=⟨⟨[(1,(.bp 1 0 0)),(2,(.bp 2 0 0)),(3,(.bp 3 0 0)),(2999,(.hd 2)),(3999,(.hd 2)),(4999,(.hd 2))],[(4,(.i .i64)),(2000,t17),(3000,t18),(4000,t18)]⟩,[((.exit 0),⟨[(2,(.bp 2 0 0)),(3,(.bp 3 0 0)),(3999,(.hd 2)),(4999,(.hd 2))],[(3000,t18),(4000,t18)]⟩)],λ k x=>Fk k x.1 x.2.1 x.2.2.1 x.2.2.2⟩
def Ig.d:Fd := { nt:=30,nv:=1,nm:=[0,1,3,4],res:=[],ls:=[(3,Fk.p)],mv:=[29],rf:=true }
theorem Fk.s:LL Tryz.f94 Ig.d 3 Fk.p:=mL [] (λ _=>trivial) trivial
theorem Ig.s (k:Nat):CK 94 (Ig.e k):=mS Ig.d k [3] Tryz.func94 trivial ⟨Fk.s,trivial⟩
def Im.e (k:Nat):Ent:=⟨1,[(.val true t17)],[(.agg,t19)],λ x=>Im k x⟩
def Jx.p:LF:=⟨⟨[(1,(.bp 1 0 0)),(2,(.bp 2 0 0)),(3,(.bp 3 0 0)),(2999,(.hd 2)),(3999,(.hd 2)),(4999,(.hd 2))],[(4,(.i .i64)),(2000,t17),(3000,t18),(4000,t19)]⟩,[((.exit 0),⟨[(2,(.bp 2 0 0)),(3,(.bp 3 0 0)),(3999,(.hd 2)),(4999,(.hd 2))],[(3000,t18),(4000,t19)]⟩)],λ k x=>Jx k x.1 x.2.1 x.2.2.1 x.2.2.2⟩
def Im.d:Fd := { nt:=30,nv:=1,nm:=[0,1,3,4],res:=[],ls:=[(3,Jx.p)],hint:=[(26,t7),(27,t7)],mv:=[29],rf:=true }
theorem Jx.s:LL Tryz.f94 Im.d 3 Jx.p:=mL [] (λ _=>trivial) trivial
theorem Im.s (k:Nat):CK 94 (Im.e k):=mS Im.d k [3] Tryz.func94 trivial ⟨Jx.s,trivial⟩
def Bs.e (k:Nat):Ent:=⟨1,[(.val false t22)],[(.one,.b)],λ x=>Bs k x⟩
def Fl.p:LF:=⟨⟨[],[(0,t22),(3,(.i .i64))]⟩,[(.ret,⟨[],[(2,.b)]⟩),((.exit 0),⟨[],[(0,t22)]⟩)],λ k x=>Fl k x.1 x.2⟩
def Bs.d:Fd := { nt:=49,nv:=1,nm:=[0,1,3,4],res:=[2],cs:=λ k=>[(97,A8.e k)],ls:=[(2,Fl.p)],rf:=true }
theorem Bs.a (k:Nat):AC (Bs.d.cs k):=⟨A8.s k,trivial⟩
theorem Fl.s:LL Tryz.f137 Bs.d 2 Fl.p:=mL [] Bs.a trivial
theorem Bs.s (k:Nat):CK 137 (Bs.e k):=mS Bs.d k [2] Tryz.func137 (Bs.a k) ⟨Fl.s,trivial⟩
def Dx.e (k:Nat):Ent:=⟨2,[(.val true t6),(.val false (.i .i64))],[(.one,.b)],λ x=>Dx k x.1 x.2⟩
def Gi.p:LF:=⟨⟨[(2,(.bp 2 0 0)),(3999,(.hd 1))],[(1,(.i .i64)),(5,(.i .i64)),(3000,t6)]⟩,[(.ret,⟨[],[(4,.b)]⟩),((.exit 0),⟨[(2,(.bp 2 0 0)),(3999,(.hd 1))],[(1,(.i .i64)),(3000,t6)]⟩)],λ k x=>Gi k x.1 x.2.1 x.2.2⟩
def Dx.d:Fd := { nt:=28,nv:=2,nm:=[0,1,2,3,5],res:=[4],cs:=λ k=>[(190,Ca.e k)],ls:=[(2,Gi.p)],rf:=true }
theorem Dx.a (k:Nat):AC (Dx.d.cs k):=⟨Ca.s k,trivial⟩
theorem Gi.s:LL Tryz.f138 Dx.d 2 Gi.p:=mL [] Dx.a trivial
theorem Dx.s (k:Nat):CK 138 (Dx.e k):=mS Dx.d k [2] Tryz.func138 (Dx.a k) ⟨Gi.s,trivial⟩
def Jd.e (k:Nat):Ent:=⟨2,[(.val true t17),(.val false t22)],[(.one,.b)],λ x=>Jd k x.1 x.2⟩
def Ix.p:LF:=⟨⟨[(2,(.bp 2 0 0)),(3999,(.hd 2))],[(5,(.i .i64)),(3000,t17)]⟩,[(.ret,⟨[],[(4,.b)]⟩),((.exit 0),⟨[],[]⟩)],λ k x=>Ix k x.1 x.2⟩
def Jd.d:Fd := { nt:=45,nv:=2,nm:=[0,1,2,3,5],res:=[4],cs:=λ k=>[(97,A8.e k),(137,Bs.e k),(138,Dx.e k)],ls:=[(4,Ix.p)],rf:=true }
theorem Jd.a (k:Nat):AC (Jd.d.cs k):=⟨A8.s k,Bs.s k,Dx.s k,trivial⟩
theorem Ix.s:LL Tryz.f215 Jd.d 4 Ix.p:=mL [] Jd.a trivial
theorem Jd.s (k:Nat):CK 215 (Jd.e k):=mS Jd.d k [4] Tryz.func215 (Jd.a k) ⟨Ix.s,trivial⟩
def Fx.e (k:Nat):Ent:=⟨2,[(.val true t6),(.val false t22)],[(.one,(.i .i64))],λ x=>Fx k x.1 x.2⟩
def Gj.p:LF:=⟨⟨[(2,(.bp 2 0 0)),(3999,(.hd 1))],[(1,t22),(5,(.i .i64)),(3000,t6)]⟩,[(.ret,⟨[],[(4,(.i .i64))]⟩),((.exit 0),⟨[],[]⟩)],λ k x=>Gj k x.1 x.2.1 x.2.2⟩
def Fx.d:Fd := { nt:=28,nv:=2,nm:=[0,1,2,3,5,6,7],res:=[4],cs:=λ k=>[(139,Du.e k)],ls:=[(2,Gj.p)],rf:=true }
theorem Fx.a (k:Nat):AC (Fx.d.cs k):=⟨Du.s k,trivial⟩
theorem Gj.s:LL Tryz.f216 Fx.d 2 Gj.p:=mL [] Fx.a trivial
theorem Fx.s (k:Nat):CK 216 (Fx.e k):=mS Fx.d k [2] Tryz.func216 (Fx.a k) ⟨Gj.s,trivial⟩
def Cf.e (k:Nat):Ent:=⟨2,[(.val true t17),(.val false (.i .i64))],[(.one,(.i .i64))],λ x=>Cf k x.1 x.2⟩
def Fm.p:LF:=⟨⟨[(2,(.bp 2 0 0)),(3999,(.hd 2))],[(1,(.i .i64)),(5,(.i .i64)),(6,(.i .i64)),(7,(.i .i64)),(3000,t17)]⟩,[((.exit 2),⟨[(2,(.bp 2 0 0)),(3999,(.hd 2))],[(1,(.i .i64)),(5,(.i .i64)),(6,(.i .i64)),(3000,t17)]⟩)],λ k x=>Fm k x.1 x.2.1 x.2.2.1 x.2.2.2.1 x.2.2.2.2⟩
def Gk.p:LF:=⟨⟨[(2,(.bp 2 0 0)),(3999,(.hd 2))],[(1,(.i .i64)),(5,(.i .i64)),(6,(.i .i64)),(3000,t17)]⟩,[((.exit 0),⟨[],[(5,(.i .i64))]⟩)],λ k x=>Gk k x.1 x.2.1 x.2.2.1 x.2.2.2⟩
def Cf.d:Fd := { nt:=40,nv:=2,nm:=[0,1,2,3,5,6,7],res:=[4],ls:=[(6,Fm.p),(3,Gk.p)],rf:=true }
theorem Fm.s:LL Tryz.f255 Cf.d 6 Fm.p:=mL [] (λ _=>trivial) trivial
theorem Gk.s:LL Tryz.f255 Cf.d 3 Gk.p:=mL [6] (λ _=>trivial) ⟨Fm.s,trivial⟩
theorem Cf.s (k:Nat):CK 255 (Cf.e k):=mS Cf.d k [3] Tryz.func255 trivial ⟨Gk.s,trivial⟩
def Hf.e (k:Nat):Ent:=⟨3,[(.val true t17),(.val true t6),(.val false t22)],[(.one,(.i .i64))],λ x=>Hf k x.1 x.2.1 x.2.2⟩
def Bo.p:LF:=⟨⟨[(3,(.bp 3 0 0)),(4,(.bp 4 0 0)),(4999,(.hd 2)),(5999,(.hd 1))],[(2,t22),(7,t7),(8,(.i .i64)),(9,.b),(10,(.i .i64)),(4000,t17),(5000,t6)]⟩,[((.exit 0),⟨[],[(2,t22),(8,(.i .i64))]⟩)],λ k x=>Bo k x.1 x.2.1 x.2.2.1 x.2.2.2.1 x.2.2.2.2.1 x.2.2.2.2.2.1 x.2.2.2.2.2.2⟩
def Hf.d:Fd := { nt:=88,nv:=3,nm:=[0,1,2,3,4,5,7,8,9,10,11,12],res:=[6],cs:=λ k=>[(137,Bs.e k),(190,Ca.e k),(226,Cm.e k),(255,Cf.e k)],ls:=[(5,Bo.p)],rf:=true }
theorem Hf.a (k:Nat):AC (Hf.d.cs k):=⟨Bs.s k,Ca.s k,Cm.s k,Cf.s k,trivial⟩
theorem Bo.s:LL Tryz.f217 Hf.d 5 Bo.p:=mL [] Hf.a trivial
theorem Hf.s (k:Nat):CK 217 (Hf.e k):=mS Hf.d k [5] Tryz.func217 (Hf.a k) ⟨Bo.s,trivial⟩
def Ef.e (k:Nat):Ent:=⟨4,[(.val true t17),(.val true t6),(.val false t22),(.val false (.i .i64))],[(.one,(.i .i64))],λ x=>Ef k x.1 x.2.1 x.2.2.1 x.2.2.2⟩
def C1.p:LF:=⟨⟨[(4,(.bp 4 0 0)),(5,(.bp 5 0 0)),(9,(.bp 9 0 0)),(5999,(.hd 2)),(6999,(.hd 1)),(10999,(.hd 3))],[(2,t22),(3,(.i .i64)),(10,.b),(11,(.i .i64)),(5000,t17),(6000,t6),(10000,t16)]⟩,[(.ret,⟨[],[(8,(.i .i64))]⟩),((.exit 0),⟨[],[]⟩)],λ k x=>C1 k x.1 x.2.1 x.2.2.1 x.2.2.2.1 x.2.2.2.2.1 x.2.2.2.2.2.1 x.2.2.2.2.2.2⟩
def Ef.d:Fd := { nt:=60,nv:=4,nm:=[0,1,2,3,4,5,6,7,9,10,11,12,13],res:=[8],cs:=λ k=>[(139,Du.e k),(255,Cf.e k)],ls:=[(3,C1.p)],rf:=true }
theorem Ef.a (k:Nat):AC (Ef.d.cs k):=⟨Du.s k,Cf.s k,trivial⟩
theorem C1.s:LL Tryz.f218 Ef.d 3 C1.p:=mL [] Ef.a trivial
theorem Ef.s (k:Nat):CK 218 (Ef.e k):=mS Ef.d k [3] Tryz.func218 (Ef.a k) ⟨C1.s,trivial⟩
def Cd.e (k:Nat):Ent:=⟨2,[(.val true t17),(.val false t22)],[(.agg,t19),(.one,(.i .i64))],λ x=>Cd k x.1 x.2⟩
def Az.p:LF:=⟨⟨[(4,(.bp 4 0 0)),(6,(.bp 6 0 0)),(5999,(.hd 2)),(7999,(.hd 2))],[(1,t22),(7,(.i .i64)),(8,(.i .i64)),(5000,t18),(7000,t19)]⟩,[((.exit 0),⟨[(4,(.bp 4 0 0)),(6,(.bp 6 0 0)),(5999,(.hd 2)),(7999,(.hd 2))],[(7,(.i .i64)),(5000,t18),(7000,t19)]⟩)],λ k x=>Az k x.1 x.2.1 x.2.2.1 x.2.2.2.1 x.2.2.2.2⟩
def Cd.d:Fd := { nt:=82,nv:=2,nm:=[0,1,2,3,6,7,8,9,10,11,12],res:=[5],cs:=λ k=>[(94,Im.e k),(215,Jd.e k),(216,Fx.e k),(217,Hf.e k),(218,Ef.e k)],ls:=[(6,Az.p)],mv:=[19,80],rf:=true }
theorem Cd.a (k:Nat):AC (Cd.d.cs k):=⟨Im.s k,Jd.s k,Fx.s k,Hf.s k,Ef.s k,trivial⟩
theorem Az.s:LL Tryz.f167 Cd.d 6 Az.p:=mL [] Cd.a trivial
theorem Cd.s (k:Nat):CK 167 (Cd.e k):=mS Cd.d k [6] Tryz.func167 (Cd.a k) ⟨Az.s,trivial⟩
def Gl.e (k:Nat):Ent:=⟨3,[(.ptr t49 t49),(.val false (.i .i64)),(.val false (.i .i64))],[(.one,.b)],λ x=>Gl k x.1 x.2.1 x.2.2⟩
def Gl.d:Fd := { nt:=49,nv:=3,nm:=[0,1,2,3,4,5,7,8],res:=[6],cs:=λ k=>[(97,A8.e k),(167,Cd.e k)],rf:=true }
theorem Gl.s (k:Nat):CK 99 (Gl.e k):=mS Gl.d k [] Tryz.func99 ⟨A8.s k,Cd.s k,trivial⟩ trivial
def I9.e (k:Nat):Ent:=⟨2,[(.ptr t49 t49),(.val true t34)],[(.one,.b)],λ x=>I9 k x.1 x.2⟩
def I9.d:Fd := { nt:=76,nv:=2,nm:=[0,1,2,3,5,6],res:=[4],cs:=λ k=>[(71,H5.e k),(97,A8.e k),(98,Au.e k),(99,Gl.e k)],rf:=true }
theorem I9.s (k:Nat):CK 43 (I9.e k):=mS I9.d k [] Tryz.func43 ⟨H5.s k,A8.s k,Au.s k,Gl.s k,trivial⟩ trivial
def Fy.e (k:Nat):Ent:=⟨1,[(.ptr t21 t21)],[(.one,t23)],λ x=>Fy k x⟩
def Gn.p:LF:=⟨⟨[(0,(.bp 0 0 0)),(1999,(.hd 3))],[(3,t23),(4,(.i .i64)),(5,(.i .i64)),(6,(.i .i64)),(1000,t21)]⟩,[((.exit 0),⟨[(1999,(.hd 3))],[(3,t23),(1000,t21)]⟩)],λ k x=>Gn k x.1 x.2.1 x.2.2.1 x.2.2.2.1 x.2.2.2.2⟩
def Fy.d:Fd := { nt:=35,nv:=1,nm:=[0,1,3,4,5,6],res:=[2],cs:=λ k=>[(37,A3.e k),(39,Ad.e k)],ls:=[(5,Gn.p)],rf:=true }
theorem Fy.a (k:Nat):AC (Fy.d.cs k):=⟨A3.s k,Ad.s k,trivial⟩
theorem Gn.s:LL Tryz.f107 Fy.d 5 Gn.p:=mL [] Fy.a trivial
theorem Fy.s (k:Nat):CK 107 (Fy.e k):=mS Fy.d k [5] Tryz.func107 (Fy.a k) ⟨Gn.s,trivial⟩
def G9.e (k:Nat):Ent:=⟨3,[(.val false t22),(.val false (.i .i64)),(.val false (.i .i64))],[(.agg,t19),(.one,.b)],λ x=>G9 k x.1 x.2.1 x.2.2⟩
def Hq.p:LF:=⟨⟨[(6,(.bp 6 0 0)),(8,(.bp 8 0 0)),(7999,(.hd 2)),(9999,(.hd 2))],[(0,t22),(1,(.i .i64)),(2,(.i .i64)),(9,(.i .i64)),(10,(.i .i64)),(7000,t18),(9000,t19)]⟩,[((.exit 2),⟨[(6,(.bp 6 0 0)),(8,(.bp 8 0 0)),(7999,(.hd 2)),(9999,(.hd 2))],[(0,t22),(1,(.i .i64)),(2,(.i .i64)),(9,(.i .i64)),(7000,t18),(9000,t19)]⟩)],λ k x=>Hq k x.1 x.2.1 x.2.2.1 x.2.2.2.1 x.2.2.2.2.1 x.2.2.2.2.2.1 x.2.2.2.2.2.2⟩
def Hr.p:LF:=⟨⟨[(6,(.bp 6 0 0)),(8,(.bp 8 0 0)),(7999,(.hd 2)),(9999,(.hd 2))],[(0,t22),(1,(.i .i64)),(2,(.i .i64)),(9,(.i .i64)),(7000,t18),(9000,t19)]⟩,[((.exit 0),⟨[(6,(.bp 6 0 0)),(8,(.bp 8 0 0)),(7999,(.hd 2)),(9999,(.hd 2))],[(7000,t18),(9000,t19)]⟩)],λ k x=>Hr k x.1 x.2.1 x.2.2.1 x.2.2.2.1 x.2.2.2.2.1 x.2.2.2.2.2⟩
def G9.d:Fd := { nt:=73,nv:=3,nm:=[0,1,2,3,4,5,8,9,10,11],res:=[7],cs:=λ k=>[(97,A8.e k),(137,Bs.e k),(217,Hf.e k)],ls:=[(9,Hq.p),(5,Hr.p)],hint:=[(42,t7),(43,t7)],mv:=[72],gh:=[(12,[.od 54 3001]),(1000010,[.cl 9001])],rf:=true }
theorem G9.a (k:Nat):AC (G9.d.cs k):=⟨A8.s k,Bs.s k,Hf.s k,trivial⟩
theorem Hq.s:LL Tryz.f169 G9.d 9 Hq.p:=mL [] G9.a trivial
theorem Hr.s:LL Tryz.f169 G9.d 5 Hr.p:=mL [9] G9.a ⟨Hq.s,trivial⟩
theorem G9.s (k:Nat):CK 169 (G9.e k):=mS G9.d k [5] Tryz.func169 (G9.a k) ⟨Hr.s,trivial⟩
def G8.e (k:Nat):Ent:=⟨1,[(.val false (.i .i64))],[(.agg,t41)],λ x=>G8 x⟩
def G8.d:Fd := { nt:=9,nv:=1,nm:=[0,1],res:=[],cs:=λ k=>[(97,A8.e k)] }
theorem G8.s (k:Nat):CK 170 (G8.e k):=mS G8.d k [] Tryz.func170 ⟨A8.s k,trivial⟩ trivial
def C8.e (k:Nat):Ent:=⟨3,[(.val false t22),(.val false (.i .i64)),(.val false (.i .i64))],[(.agg,t50)],λ x=>C8 k x.1 x.2.1 x.2.2⟩
def E7.p:LF:=⟨⟨[(6,(.bp 6 0 0)),(9,(.bp 9 0 0)),(7999,(.hd 9)),(10999,(.hd 9))],[(0,t22),(10,(.i .i64)),(7000,t51),(10000,t50)]⟩,[((.exit 0),⟨[(6,(.bp 6 0 0)),(9,(.bp 9 0 0)),(7999,(.hd 9)),(10999,(.hd 9))],[(7000,t51),(10000,t50)]⟩)],λ k x=>E7 k x.1 x.2.1 x.2.2.1 x.2.2.2⟩
def C8.d:Fd := { nt:=44,nv:=3,nm:=[0,1,2,3,4,5,7,8,9,10],res:=[],cs:=λ k=>[(169,G9.e k),(170,G8.e k)],ls:=[(6,E7.p)],mv:=[43],rf:=true }
theorem C8.a (k:Nat):AC (C8.d.cs k):=⟨G9.s k,G8.s k,trivial⟩
theorem E7.s:LL Tryz.f108 C8.d 6 E7.p:=mL [] C8.a trivial
theorem C8.s (k:Nat):CK 108 (C8.e k):=mS C8.d k [6] Tryz.func108 (C8.a k) ⟨E7.s,trivial⟩
def Jo.e (k:Nat):Ent:=⟨1,[(.ptr t21 t21)],[(.agg,t50)],λ x=>Jo k x⟩
def Jo.d:Fd := { nt:=22,nv:=1,nm:=[0,1,3,4],res:=[],cs:=λ k=>[(39,Ad.e k),(107,Fy.e k),(108,C8.e k)],rf:=true }
theorem Jo.s (k:Nat):CK 49 (Jo.e k):=mS Jo.d k [] Tryz.func49 ⟨Ad.s k,Fy.s k,C8.s k,trivial⟩ trivial
def Db.e (k:Nat):Ent:=⟨2,[(.ptr t21 t21),(.vw t49 2),(.hid t49 t49)],[(.agg,(.pr (.i .i64) (.pr (.i .i64) (.pr .s (.pr t5 (.pr (.i .i64) t7))))))],λ x=>Db k x.1 x.2.1 x.2.2⟩
def Db.d:Fd := { nt:=99,nv:=2,nm:=[0,1,2,3,5,6],res:=[],cs:=λ k=>[(37,A3.e k),(39,Ad.e k),(86,Bn.e k),(87,C9.e k),(88,Dc.e k),(89,Fw.e k)],mv:=[1,98],rf:=true }
theorem Db.s (k:Nat):CK 38 (Db.e k):=mS Db.d k [] Tryz.func38 ⟨A3.s k,Ad.s k,Bn.s k,C9.s k,Dc.s k,Fw.s k,trivial⟩ trivial
def Co.e (k:Nat):Ent:=⟨2,[(.ptr t21 t21),(.val false (.i .i64))],[(.agg,t49)],λ x=>Co k x.1 x.2⟩
def F5.p:LF:=⟨⟨[(0,(.bp 0 0 0)),(4,(.bp 4 0 0)),(5,(.bp 5 0 0)),(1999,(.hd 3)),(5999,(.hd 9)),(6999,(.hd 9))],[(6,(.i .i64)),(1000,t21),(5000,t51),(6000,t49)]⟩,[((.exit 0),⟨[(4,(.bp 4 0 0)),(5,(.bp 5 0 0)),(5999,(.hd 9)),(6999,(.hd 9)),(1999,(.hd 3))],[(5000,t51),(6000,t49),(1000,t21)]⟩)],λ k x=>F5 k x.1 x.2.1 x.2.2.1 x.2.2.2⟩
def Co.d:Fd := { nt:=21,nv:=2,nm:=[0,1,2,3,5,6],res:=[],cs:=λ k=>[(37,A3.e k),(38,Db.e k),(43,I9.e k),(49,Jo.e k)],ls:=[(3,F5.p)],mv:=[20],rf:=true }
theorem Co.a (k:Nat):AC (Co.d.cs k):=⟨A3.s k,Db.s k,I9.s k,Jo.s k,trivial⟩
theorem F5.s:LL Tryz.f55 Co.d 3 F5.p:=mL [] Co.a trivial
theorem Co.s (k:Nat):CK 55 (Co.e k):=mS Co.d k [3] Tryz.func55 (Co.a k) ⟨F5.s,trivial⟩
def Gp.e (k:Nat):Ent:=⟨1,[(.val false t4)],[(.agg,t49)],λ x=>Gp k x⟩
def Gp.d:Fd := { nt:=11,nv:=1,nm:=[0,1,3],res:=[],cs:=λ k=>[(34,Id.e k),(36,Hk.e k),(55,Co.e k)],rf:=true }
theorem Gp.s (k:Nat):CK 21 (Gp.e k):=mS Gp.d k [] Tryz.func21 ⟨Id.s k,Hk.s k,Co.s k,trivial⟩ trivial
def C2.e (k:Nat):Ent:=⟨2,[(.ptr t21 t21),(.val false (.i .i64))],[(.one,.b)],λ x=>C2 x.1 x.2⟩
def C2.d:Fd := { nt:=9,nv:=2,nm:=[0,1,2,3],res:=[4],cs:=λ k=>[(37,A3.e k)] }
theorem C2.s (k:Nat):CK 83 (C2.e k):=mS C2.d k [] Tryz.func83 ⟨A3.s k,trivial⟩ trivial
def Cz.e (k:Nat):Ent:=⟨1,[(.val true t48)],[(.agg,t51)],λ x=>Cz k x⟩
def F6.p:LF:=⟨⟨[(1,(.bp 1 0 0)),(2,(.bp 2 0 0)),(3,(.bp 3 0 0)),(2999,(.hd 9)),(3999,(.hd 9)),(4999,(.hd 9))],[(5,(.i .i64)),(2000,t48),(3000,t51),(4000,t51)]⟩,[((.exit 2),⟨[(2,(.bp 2 0 0)),(3,(.bp 3 0 0)),(3999,(.hd 9)),(4999,(.hd 9))],[(3000,t51),(4000,t51)]⟩)],λ k x=>F6 k x.1 x.2.1 x.2.2.1 x.2.2.2⟩
def F7.p:LF:=⟨⟨[(1,(.bp 1 0 0)),(2,(.bp 2 0 0)),(3,(.bp 3 0 0)),(2999,(.hd 9)),(3999,(.hd 9)),(4999,(.hd 9))],[(4,(.i .i64)),(2000,t48),(3000,t51),(4000,t51)]⟩,[((.exit 0),⟨[(1,(.bp 1 0 0)),(2,(.bp 2 0 0)),(3,(.bp 3 0 0)),(2999,(.hd 9)),(3999,(.hd 9)),(4999,(.hd 9))],[(2000,t48),(3000,t51),(4000,t51)]⟩)],λ k x=>F7 k x.1 x.2.1 x.2.2.1 x.2.2.2⟩
def Cz.d:Fd := { nt:=62,nv:=1,nm:=[0,1,3,4,5,6],res:=[],cs:=λ k=>[(94,Ig.e k),(95,Bd.e k),(96,Bi.e k)],ls:=[(7,F6.p),(3,F7.p)],mv:=[61],rf:=true }
theorem Cz.a (k:Nat):AC (Cz.d.cs k):=⟨Ig.s k,Bd.s k,Bi.s k,trivial⟩
theorem F6.s:LL Tryz.f42 Cz.d 7 F6.p:=mL [] Cz.a trivial
theorem F7.s:LL Tryz.f42 Cz.d 3 F7.p:=mL [] Cz.a trivial
theorem Cz.s (k:Nat):CK 42 (Cz.e k):=mS Cz.d k [3,7] Tryz.func42 (Cz.a k) ⟨F7.s,F6.s,trivial⟩
def Cu.e (k:Nat):Ent:=⟨1,[(.ptr t21 t21)],[(.one,.s)],λ x=>Cu x⟩
def Cu.d:Fd := { nt:=10,nv:=1,nm:=[0,1],res:=[2],cs:=λ k=>[(83,C2.e k),(86,Bn.e k),(115,J5.e k)] }
theorem Cu.s (k:Nat):CK 56 (Cu.e k):=mS Cu.d k [] Tryz.func56 ⟨C2.s k,Bn.s k,J5.s k,trivial⟩ trivial
def Hs.e (k:Nat):Ent:=⟨1,[(.ptr t21 t21)],[(.agg,t16)],λ x=>Hs x⟩
def Hs.d:Fd := { nt:=11,nv:=1,nm:=[0,1],res:=[],cs:=λ k=>[(37,A3.e k),(39,Ad.e k)] }
theorem Hs.s (k:Nat):CK 197 (Hs.e k):=mS Hs.d k [] Tryz.func197 ⟨A3.s k,Ad.s k,trivial⟩ trivial
def C3.e (k:Nat):Ent:=⟨1,[(.ptr t21 t21)],[(.agg,t26)],λ x=>C3 k x⟩
def C3.d:Fd := { nt:=16,nv:=1,nm:=[0,1,3],res:=[],cs:=λ k=>[(83,C2.e k),(88,Dc.e k),(197,Hs.e k)],mv:=[15] }
theorem C3.s (k:Nat):CK 198 (C3.e k):=mS C3.d k [] Tryz.func198 ⟨C2.s k,Dc.s k,Hs.s k,trivial⟩ trivial
def Iy.e (k:Nat):Ent:=⟨4,[(.val true t40),(.val false .s),(.val true t25),(.val false .b)],[(.agg,t42),(.one,(.i .i64))],λ x=>Iy k x.1 x.2.1 x.2.2.1 x.2.2.2⟩
def Iy.d:Fd := { nt:=34,nv:=4,nm:=[0,1,2,3,4,5,6,7,10,11],res:=[9],cs:=λ k=>[(62,Ae.e k),(78,Bq.e k),(95,Bd.e k),(140,Br.e k),(184,Ho.e k)],mv:=[27,32] }
theorem Iy.s (k:Nat):CK 235 (Iy.e k):=mS Iy.d k [] Tryz.func235 ⟨Ae.s k,Bq.s k,Bd.s k,Br.s k,Ho.s k,trivial⟩ trivial
def Ht.e (k:Nat):Ent:=⟨2,[(.val true t40),(.val false t31)],[(.agg,t43),(.one,.b)],λ x=>Ht k x.1 x.2⟩
def Ht.d:Fd := { nt:=25,nv:=2,nm:=[0,1,2,3,6],res:=[5],cs:=λ k=>[(95,Bd.e k),(140,Br.e k),(193,Dw.e k),(254,Gd.e k)],mv:=[24] }
theorem Ht.s (k:Nat):CK 236 (Ht.e k):=mS Ht.d k [] Tryz.func236 ⟨Bd.s k,Br.s k,Dw.s k,Gd.s k,trivial⟩ trivial
def Hu.e (k:Nat):Ent:=⟨1,[(.ptr t21 t21)],[(.agg,t28)],λ x=>Hu k x⟩
def Hu.d:Fd := { nt:=8,nv:=1,nm:=[0,1],res:=[],cs:=λ k=>[(86,Bn.e k),(198,C3.e k),(230,I5.e k)] }
theorem Hu.s (k:Nat):CK 239 (Hu.e k):=mS Hu.d k [] Tryz.func239 ⟨Bn.s k,C3.s k,I5.s k,trivial⟩ trivial
def Cp.e (k:Nat):Ent:=⟨1,[(.ptr t21 t21)],[(.one,t32)],λ x=>Cp k x⟩
def F8.p:LF:=⟨⟨[(0,(.bp 0 0 0)),(1999,(.hd 3))],[(3,t32),(4,(.i .i64)),(1000,t4),(1001,(.i .i64)),(1002,(.i .i64))]⟩,[((.exit 0),⟨[(1999,(.hd 3))],[(3,t32),(1000,t4),(1001,(.i .i64)),(1002,(.i .i64))]⟩)],λ k x=>F8 k x.1 x.2.1 x.2.2.1 x.2.2.2.1 x.2.2.2.2⟩
def Cp.d:Fd := { nt:=17,nv:=1,nm:=[0,1,3,4],res:=[2],cs:=λ k=>[(37,A3.e k),(239,Hu.e k),(260,Bj.e k)],ls:=[(3,F8.p)] }
theorem Cp.a (k:Nat):AC (Cp.d.cs k):=⟨A3.s k,Hu.s k,Bj.s k,trivial⟩
theorem F8.s:LL Tryz.f237 Cp.d 3 F8.p:=mL [] Cp.a trivial
theorem Cp.s (k:Nat):CK 237 (Cp.e k):=mS Cp.d k [3] Tryz.func237 (Cp.a k) ⟨F8.s,trivial⟩
def Eg.e (k:Nat):Ent:=⟨1,[(.ptr t21 t21)],[(.agg,t44)],λ x=>Eg k x⟩
def F9.p:LF:=⟨⟨[(0,(.bp 0 0 0)),(2,(.bp 2 0 0)),(3,(.bp 3 0 0)),(1999,(.hd 3)),(3999,(.hd 5)),(4999,(.hd 5))],[(4,(.i .i64)),(1000,t4),(1001,(.i .i64)),(1002,(.i .i64)),(3000,(.i .i64)),(3001,t14),(3002,t14),(3003,t32),(3004,t32),(4000,(.i .i64)),(4001,t13),(4002,t13),(4003,t32),(4004,t32)]⟩,[((.exit 0),⟨[(0,(.bp 0 0 0)),(2,(.bp 2 0 0)),(3,(.bp 3 0 0)),(1999,(.hd 3)),(3999,(.hd 5)),(4999,(.hd 5))],[(1000,t4),(1001,(.i .i64)),(1002,(.i .i64)),(3000,(.i .i64)),(3001,t14),(3002,t14),(3003,t32),(3004,t32),(4000,(.i .i64)),(4001,t13),(4002,t13),(4003,t32),(4004,t32)]⟩)],λ k x=>F9 k x.1 x.2.1 x.2.2.1 x.2.2.2.1 x.2.2.2.2.1 x.2.2.2.2.2.1 x.2.2.2.2.2.2.1 x.2.2.2.2.2.2.2.1 x.2.2.2.2.2.2.2.2.1 x.2.2.2.2.2.2.2.2.2.1 x.2.2.2.2.2.2.2.2.2.2.1 x.2.2.2.2.2.2.2.2.2.2.2.1 x.2.2.2.2.2.2.2.2.2.2.2.2.1 x.2.2.2.2.2.2.2.2.2.2.2.2.2⟩
def Eg.d:Fd := { nt:=47,nv:=1,nm:=[0,1,3,4],res:=[],cs:=λ k=>[(37,A3.e k),(83,C2.e k),(86,Bn.e k),(165,Ee.e k),(170,G8.e k),(198,C3.e k),(235,Iy.e k),(236,Ht.e k),(237,Cp.e k)],ls:=[(3,F9.p)],mv:=[46] }
theorem Eg.a (k:Nat):AC (Eg.d.cs k):=⟨A3.s k,C2.s k,Bn.s k,Ee.s k,G8.s k,C3.s k,Iy.s k,Ht.s k,Cp.s k,trivial⟩
theorem F9.s:LL Tryz.f194 Eg.d 3 F9.p:=mL [] Eg.a trivial
theorem Eg.s (k:Nat):CK 194 (Eg.e k):=mS Eg.d k [3] Tryz.func194 (Eg.a k) ⟨F9.s,trivial⟩
def Ei.e (k:Nat):Ent:=⟨1,[(.ptr t21 t21)],[(.agg,t29)],λ x=>Ei k x⟩
def Av.p:LF:=⟨⟨[(0,(.bp 0 0 0)),(2,(.bp 2 0 0)),(3,(.bp 3 0 0)),(1999,(.hd 3)),(3999,(.hd 2)),(4999,(.hd 2))],[(4,(.i .i64)),(1000,t4),(1001,(.i .i64)),(1002,(.i .i64)),(3000,t14),(3001,t14),(4000,t14),(4001,t14)]⟩,[((.exit 0),⟨[(2,(.bp 2 0 0)),(3,(.bp 3 0 0)),(3999,(.hd 2)),(4999,(.hd 2)),(1999,(.hd 3))],[(3000,t14),(3001,t14),(4000,t14),(4001,t14),(1000,t4),(1001,(.i .i64)),(1002,(.i .i64))]⟩)],λ k x=>Av k x.1 x.2.1 x.2.2.1 x.2.2.2.1 x.2.2.2.2.1 x.2.2.2.2.2.1 x.2.2.2.2.2.2.1 x.2.2.2.2.2.2.2⟩
def Ei.d:Fd := { nt:=44,nv:=1,nm:=[0,1,3,4,5],res:=[],cs:=λ k=>[(37,A3.e k),(86,Bn.e k),(198,C3.e k),(202,Bc.e k),(209,Ba.e k),(210,Ai.e k),(249,B7.e k)],ls:=[(3,Av.p)],mv:=[43] }
theorem Ei.a (k:Nat):AC (Ei.d.cs k):=⟨A3.s k,Bn.s k,C3.s k,Bc.s k,Ba.s k,Ai.s k,B7.s k,trivial⟩
theorem Av.s:LL Tryz.f238 Ei.d 3 Av.p:=mL [] Ei.a trivial
theorem Ei.s (k:Nat):CK 238 (Ei.e k):=mS Ei.d k [3] Tryz.func238 (Ei.a k) ⟨Av.s,trivial⟩
def J7.e (k:Nat):Ent:=⟨1,[(.ptr t21 t21)],[(.agg,t29)],λ x=>J7 k x⟩
def J7.d:Fd := { nt:=33,nv:=1,nm:=[0,1,3],res:=[],cs:=λ k=>[(37,A3.e k),(56,Cu.e k),(238,Ei.e k)],mv:=[32] }
theorem J7.s (k:Nat):CK 195 (J7.e k):=mS J7.d k [] Tryz.func195 ⟨A3.s k,Cu.s k,Ei.s k,trivial⟩ trivial
def Jp.e (k:Nat):Ent:=⟨1,[(.ptr t21 t21)],[(.one,t32)],λ x=>Jp k x⟩
def Jp.d:Fd := { nt:=27,nv:=1,nm:=[0,1,3],res:=[2],cs:=λ k=>[(37,A3.e k),(39,Ad.e k),(237,Cp.e k),(239,Hu.e k)] }
theorem Jp.s (k:Nat):CK 196 (Jp.e k):=mS Jp.d k [] Tryz.func196 ⟨A3.s k,Ad.s k,Cp.s k,Hu.s k,trivial⟩ trivial
def Fb.e (k:Nat):Ent:=⟨1,[(.ptr t21 t21)],[(.agg,t44)],λ x=>Fb k x⟩
def Fa.p:LF:=⟨⟨[(0,(.bp 0 0 0)),(2,(.bp 2 0 0)),(3,(.bp 3 0 0)),(1999,(.hd 3)),(3999,(.hd 5)),(4999,(.hd 5))],[(1000,t4),(1001,(.i .i64)),(1002,(.i .i64)),(3000,(.i .i64)),(3001,t14),(3002,t14),(3003,t32),(3004,t32),(4000,(.i .i64)),(4001,t13),(4002,t13),(4003,t31),(4004,t32)]⟩,[((.exit 1),⟨[(2,(.bp 2 0 0)),(3,(.bp 3 0 0)),(3999,(.hd 5)),(4999,(.hd 5)),(1999,(.hd 3))],[(3000,(.i .i64)),(3001,t14),(3002,t14),(3003,t32),(3004,t32),(4000,(.i .i64)),(4001,t13),(4002,t13),(4003,t31),(4004,t32),(1000,t4),(1001,(.i .i64)),(1002,(.i .i64))]⟩)],λ k x=>Fa k x.1 x.2.1 x.2.2.1 x.2.2.2.1 x.2.2.2.2.1 x.2.2.2.2.2.1 x.2.2.2.2.2.2.1 x.2.2.2.2.2.2.2.1 x.2.2.2.2.2.2.2.2.1 x.2.2.2.2.2.2.2.2.2.1 x.2.2.2.2.2.2.2.2.2.2.1 x.2.2.2.2.2.2.2.2.2.2.2.1 x.2.2.2.2.2.2.2.2.2.2.2.2⟩
def Fb.d:Fd := { nt:=50,nv:=1,nm:=[0,1,3],res:=[],cs:=λ k=>[(37,A3.e k),(39,Ad.e k),(56,Cu.e k),(194,Eg.e k),(195,J7.e k),(196,Jp.e k)],ls:=[(12,Fa.p)],mv:=[49] }
theorem Fb.a (k:Nat):AC (Fb.d.cs k):=⟨A3.s k,Ad.s k,Cu.s k,Eg.s k,J7.s k,Jp.s k,trivial⟩
theorem Fa.s:LL Tryz.f147 Fb.d 12 Fa.p:=mL [] Fb.a trivial
theorem Fb.s (k:Nat):CK 147 (Fb.e k):=mS Fb.d k [12] Tryz.func147 (Fb.a k) ⟨Fa.s,trivial⟩
def Ih.e (k:Nat):Ent:=⟨1,[(.ptr t21 t21)],[(.agg,t16)],λ x=>Ih x⟩
def Ih.d:Fd := { nt:=27,nv:=1,nm:=[0,1,3],res:=[],cs:=λ k=>[(37,A3.e k),(39,Ad.e k),(197,Hs.e k)] }
theorem Ih.s (k:Nat):CK 148 (Ih.e k):=mS Ih.d k [] Tryz.func148 ⟨A3.s k,Ad.s k,Hs.s k,trivial⟩ trivial
def Jy.e (k:Nat):Ent:=⟨1,[(.ptr t21 t21)],[(.agg,t26)],λ x=>Jy k x⟩
def Jy.d:Fd := { nt:=27,nv:=1,nm:=[0,1,3],res:=[],cs:=λ k=>[(37,A3.e k),(148,Ih.e k),(198,C3.e k)],mv:=[26] }
theorem Jy.s (k:Nat):CK 149 (Jy.e k):=mS Jy.d k [] Tryz.func149 ⟨A3.s k,Ih.s k,C3.s k,trivial⟩ trivial
def Fc.e (k:Nat):Ent:=⟨2,[(.ptr t21 t21),(.vw t49 2),(.hid t49 t48)],[(.agg,(.pr t23 (.pr t18 (.pr t46 (.pr t16 (.pr t35 t2))))))],λ x=>Fc k x.1 x.2.1 x.2.2⟩
def Fc.d:Fd := { nt:=100,nv:=2,nm:=[0,1,2,3,5],res:=[],cs:=λ k=>[(37,A3.e k),(39,Ad.e k),(42,Cz.e k),(56,Cu.e k),(147,Fb.e k),(148,Ih.e k),(149,Jy.e k)],mv:=[1,99],rf:=true }
theorem Fc.s (k:Nat):CK 84 (Fc.e k):=mS Fc.d k [] Tryz.func84 ⟨A3.s k,Ad.s k,Cz.s k,Cu.s k,Fb.s k,Ih.s k,Jy.s k,trivial⟩ trivial
def Jq.e (k:Nat):Ent:=⟨2,[(.ptr t21 t21),(.val false (.i .i64))],[(.agg,t52)],λ x=>Jq k x.1 x.2⟩
def Jq.d:Fd := { nt:=15,nv:=2,nm:=[0,1,2,3,5],res:=[],cs:=λ k=>[(55,Co.e k),(83,C2.e k),(84,Fc.e k)],mv:=[14],rf:=true }
theorem Jq.s (k:Nat):CK 35 (Jq.e k):=mS Jq.d k [] Tryz.func35 ⟨Co.s k,C2.s k,Fc.s k,trivial⟩ trivial
def Jr.e (k:Nat):Ent:=⟨1,[(.ptr t21 t21)],[(.one,t6)],λ x=>Jr k x⟩
def Jr.d:Fd := { nt:=22,nv:=1,nm:=[0,1,3],res:=[2],cs:=λ k=>[(37,A3.e k),(39,Ad.e k),(87,C9.e k)],rf:=true }
theorem Jr.s (k:Nat):CK 57 (Jr.e k):=mS Jr.d k [] Tryz.func57 ⟨A3.s k,Ad.s k,C9.s k,trivial⟩ trivial
def Cq.e (k:Nat):Ent:=⟨1,[(.val false t4)],[(.agg,t52),(.one,.s),(.one,t6)],λ x=>Cq k x⟩
def Cq.d:Fd := { nt:=16,nv:=1,nm:=[0,1,5],res:=[3,4],cs:=λ k=>[(34,Id.e k),(35,Jq.e k),(36,Hk.e k),(56,Cu.e k),(57,Jr.e k)],rf:=true }
theorem Cq.s (k:Nat):CK 22 (Cq.e k):=mS Cq.d k [] Tryz.func22 ⟨Id.s k,Jq.s k,Hk.s k,Cu.s k,Jr.s k,trivial⟩ trivial
def Fe.e (k:Nat):Ent:=⟨3,[(.val false (.i .i64)),(.val false (.i .i64)),(.val false (.i .i64))],[(.one,.b)],λ x=>Fe x.1 x.2.1 x.2.2⟩
def Fe.d:Fd := { nt:=15,nv:=3,nm:=[0,1,2,3,4,5],res:=[6] }
theorem Fe.s (k:Nat):CK 74 (Fe.e k):=mS Fe.d k [] Tryz.func74 trivial trivial
def Fz.e (k:Nat):Ent:=⟨1,[(.val false t22)],[(.one,.b)],λ x=>Fz k x⟩
def Fn.p:LF:=⟨⟨[],[(0,t22),(5,t22),(6,(.i .i64)),(7,(.i .i64))]⟩,[(.ret,⟨[],[(2,.b)]⟩),((.exit 0),⟨[],[(0,t22)]⟩)],λ k x=>Fn k x.1 x.2.1 x.2.2.1 x.2.2.2⟩
def Fz.d:Fd := { nt:=47,nv:=1,nm:=[0,1,3,4],res:=[2],cs:=λ k=>[(74,Fe.e k)],ls:=[(2,Fn.p)],rf:=true }
theorem Fz.a (k:Nat):AC (Fz.d.cs k):=⟨Fe.s k,trivial⟩
theorem Fn.s:LL Tryz.f100 Fz.d 2 Fn.p:=mL [] Fz.a trivial
theorem Fz.s (k:Nat):CK 100 (Fz.e k):=mS Fz.d k [2] Tryz.func100 (Fz.a k) ⟨Fn.s,trivial⟩
def Dy.e (k:Nat):Ent:=⟨2,[(.val false t6),(.val false (.i .i64))],[(.one,.b)],λ x=>Dy k x.1 x.2⟩
def Gq.p:LF:=⟨⟨[],[(1,(.i .i64)),(7,t6),(8,(.i .i64)),(9,(.i .i64))]⟩,[(.ret,⟨[],[(4,.b)]⟩),((.exit 0),⟨[],[]⟩)],λ k x=>Gq k x.1 x.2.1 x.2.2.1 x.2.2.2⟩
def Dy.d:Fd := { nt:=17,nv:=2,nm:=[0,1,2,3,5,6],res:=[4],ls:=[(2,Gq.p)],rf:=true }
theorem Gq.s:LL Tryz.f145 Dy.d 2 Gq.p:=mL [] (λ _=>trivial) trivial
theorem Dy.s (k:Nat):CK 145 (Dy.e k):=mS Dy.d k [2] Tryz.func145 trivial ⟨Gq.s,trivial⟩
def I7.e (k:Nat):Ent:=⟨1,[(.val false t6)],[(.one,.b)],λ x=>I7 k x⟩
def Hv.p:LF:=⟨⟨[],[(0,t6),(5,t6),(6,(.i .i64)),(7,(.i .i64))]⟩,[(.ret,⟨[],[(2,.b)]⟩),((.exit 0),⟨[],[]⟩)],λ k x=>Hv k x.1 x.2.1 x.2.2.1 x.2.2.2⟩
def I7.d:Fd := { nt:=18,nv:=1,nm:=[0,1,3,4],res:=[2],cs:=λ k=>[(145,Dy.e k)],ls:=[(2,Hv.p)],rf:=true }
theorem I7.a (k:Nat):AC (I7.d.cs k):=⟨Dy.s k,trivial⟩
theorem Hv.s:LL Tryz.f101 I7.d 2 Hv.p:=mL [] I7.a trivial
theorem I7.s (k:Nat):CK 101 (I7.e k):=mS I7.d k [2] Tryz.func101 (I7.a k) ⟨Hv.s,trivial⟩
def Ii.e (k:Nat):Ent:=⟨2,[(.val false t22),(.val false (.i .i64))],[(.agg,t16),(.one,.b)],λ x=>Ii k x.1 x.2⟩
def Hw.p:LF:=⟨⟨[(4,(.bp 4 0 0)),(5999,(.hd 3))],[(1,(.i .i64)),(8,t22),(9,(.i .i64)),(10,(.i .i64)),(5000,t16)]⟩,[(.ret,⟨[(4,(.bp 4 0 0)),(5999,(.hd 3))],[(5,.b),(5000,t16)]⟩),((.exit 0),⟨[(4,(.bp 4 0 0)),(5999,(.hd 3))],[(5000,t16)]⟩)],λ k x=>Hw k x.1 x.2.1 x.2.2.1 x.2.2.2.1 x.2.2.2.2⟩
def Ii.d:Fd := { nt:=21,nv:=2,nm:=[0,1,2,3,6,7],res:=[5],ls:=[(2,Hw.p)],rf:=true }
theorem Hw.s:LL Tryz.f102 Ii.d 2 Hw.p:=mL [] (λ _=>trivial) trivial
theorem Ii.s (k:Nat):CK 102 (Ii.e k):=mS Ii.d k [2] Tryz.func102 trivial ⟨Hw.s,trivial⟩
def Ej.e (k:Nat):Ent:=⟨2,[(.val true t17),(.val false t22)],[(.one,.b)],λ x=>Ej k x.1 x.2⟩
def Gr.p:LF:=⟨⟨[(2,(.bp 2 0 0)),(3999,(.hd 2))],[(1,t22),(28,t10),(29,(.i .i64)),(30,(.i .i64)),(47,t6),(48,(.i .i64)),(49,(.i .i64)),(3000,t17)]⟩,[(.ret,⟨[],[(4,.b)]⟩),((.exit 2),⟨[(2,(.bp 2 0 0)),(3999,(.hd 2))],[(1,t22),(28,t10),(29,(.i .i64)),(30,(.i .i64)),(3000,t17)]⟩)],λ k x=>Gr k x.1 x.2.1 x.2.2.1 x.2.2.2.1 x.2.2.2.2.1 x.2.2.2.2.2.1 x.2.2.2.2.2.2.1 x.2.2.2.2.2.2.2⟩
def Gt.p:LF:=⟨⟨[(2,(.bp 2 0 0)),(3999,(.hd 2))],[(1,t22),(28,t10),(29,(.i .i64)),(30,(.i .i64)),(3000,t17)]⟩,[(.ret,⟨[],[(4,.b)]⟩),((.exit 0),⟨[],[]⟩)],λ k x=>Gt k x.1 x.2.1 x.2.2.1 x.2.2.2.1 x.2.2.2.2⟩
def Ej.d:Fd := { nt:=63,nv:=2,nm:=[0,1,2,3,5,6,7,8,9,10],res:=[4],cs:=λ k=>[(74,Fe.e k),(100,Fz.e k),(101,I7.e k),(102,Ii.e k)],ls:=[(9,Gr.p),(4,Gt.p)],rf:=true }
theorem Ej.a (k:Nat):AC (Ej.d.cs k):=⟨Fe.s k,Fz.s k,I7.s k,Ii.s k,trivial⟩
theorem Gr.s:LL Tryz.f44 Ej.d 9 Gr.p:=mL [] Ej.a trivial
theorem Gt.s:LL Tryz.f44 Ej.d 4 Gt.p:=mL [9] Ej.a ⟨Gr.s,trivial⟩
theorem Ej.s (k:Nat):CK 44 (Ej.e k):=mS Ej.d k [4] Tryz.func44 (Ej.a k) ⟨Gt.s,trivial⟩
def Ds.e (k:Nat):Ent:=⟨1,[(.val true t16)],[(.one,.b)],λ x=>Ds x⟩
def Ds.d:Fd := { nt:=16,nv:=1,nm:=[0,1],res:=[2],cs:=λ k=>[(74,Fe.e k)] }
theorem Ds.s (k:Nat):CK 45 (Ds.e k):=mS Ds.d k [] Tryz.func45 ⟨Fe.s k,trivial⟩ trivial
def Dp.e (k:Nat):Ent:=⟨2,[(.val true t16),(.val true t16)],[(.one,.b)],λ x=>Dp x.1 x.2⟩
def Dp.d:Fd := { nt:=32,nv:=2,nm:=[0,1,2,3],res:=[4] }
theorem Dp.s (k:Nat):CK 14 (Dp.e k):=mS Dp.d k [] Tryz.func14 trivial trivial
def B4.e (k:Nat):Ent:=⟨1,[(.val false .s)],[(.one,.b)],λ x=>B4 k x⟩
def Aj.p:LF:=⟨⟨[],[(0,.s),(3,(.i .i64))]⟩,[(.ret,⟨[],[(2,.b)]⟩),((.exit 0),⟨[],[(0,.s)]⟩)],λ k x=>Aj k x.1 x.2⟩
def B4.d:Fd := { nt:=45,nv:=1,nm:=[0,1,3,4],res:=[2],cs:=λ k=>[(74,Fe.e k)],ls:=[(2,Aj.p)] }
theorem B4.a (k:Nat):AC (B4.d.cs k):=⟨Fe.s k,trivial⟩
theorem Aj.s:LL Tryz.f48 B4.d 2 Aj.p:=mL [] B4.a trivial
theorem B4.s (k:Nat):CK 48 (B4.e k):=mS B4.d k [2] Tryz.func48 (B4.a k) ⟨Aj.s,trivial⟩
def Hx.e (k:Nat):Ent:=⟨1,[(.val true t25)],[(.one,.b)],λ x=>Hx x⟩
def Hx.d:Fd := { nt:=23,nv:=1,nm:=[0,1],res:=[2],cs:=λ k=>[(45,Ds.e k)] }
theorem Hx.s (k:Nat):CK 103 (Hx.e k):=mS Hx.d k [] Tryz.func103 ⟨Ds.s k,trivial⟩ trivial
def D8.e (k:Nat):Ent:=⟨1,[(.val true t48)],[(.one,.b)],λ x=>D8 k x⟩
def E8.p:LF:=⟨⟨[(1,(.bp 1 0 0)),(2999,(.hd 9))],[(6,t35),(7,(.i .i64)),(8,(.i .i64)),(2000,t48)]⟩,[(.ret,⟨[],[(2,.b)]⟩),((.exit 0),⟨[(1,(.bp 1 0 0)),(2999,(.hd 9))],[(2000,t48)]⟩)],λ k x=>E8 k x.1 x.2.1 x.2.2.1 x.2.2.2⟩
def D8.d:Fd := { nt:=35,nv:=1,nm:=[0,1,3,4],res:=[2],cs:=λ k=>[(14,Dp.e k),(48,B4.e k),(103,Hx.e k)],ls:=[(2,E8.p)],rf:=true }
theorem D8.a (k:Nat):AC (D8.d.cs k):=⟨Dp.s k,B4.s k,Hx.s k,trivial⟩
theorem E8.s:LL Tryz.f46 D8.d 2 E8.p:=mL [] D8.a trivial
theorem D8.s (k:Nat):CK 46 (D8.e k):=mS D8.d k [2] Tryz.func46 (D8.a k) ⟨E8.s,trivial⟩
def J8.e (k:Nat):Ent:=⟨1,[(.val true t28)],[(.one,.b)],λ x=>J8 k x⟩
def J8.d:Fd := { nt:=26,nv:=1,nm:=[0,1],res:=[2],cs:=λ k=>[(45,Ds.e k),(48,B4.e k),(74,Fe.e k)] }
theorem J8.s (k:Nat):CK 104 (J8.e k):=mS J8.d k [] Tryz.func104 ⟨Ds.s k,B4.s k,Fe.s k,trivial⟩ trivial
def Dt.e (k:Nat):Ent:=⟨1,[(.val false t13)],[(.one,.b)],λ x=>Dt k x⟩
def E9.p:LF:=⟨⟨[],[(0,t13),(5,t13),(6,(.i .i64)),(7,(.i .i64))]⟩,[(.ret,⟨[],[(2,.b)]⟩),((.exit 0),⟨[],[(0,t13)]⟩)],λ k x=>E9 k x.1 x.2.1 x.2.2.1 x.2.2.2⟩
def Dt.d:Fd := { nt:=41,nv:=1,nm:=[0,1,3,4],res:=[2],cs:=λ k=>[(48,B4.e k)],ls:=[(2,E9.p)] }
theorem Dt.a (k:Nat):AC (Dt.d.cs k):=⟨B4.s k,trivial⟩
theorem E9.s:LL Tryz.f168 Dt.d 2 E9.p:=mL [] Dt.a trivial
theorem Dt.s (k:Nat):CK 168 (Dt.e k):=mS Dt.d k [2] Tryz.func168 (Dt.a k) ⟨E9.s,trivial⟩
def Js.e (k:Nat):Ent:=⟨1,[(.val true t27)],[(.one,.b)],λ x=>Js k x⟩
def Js.d:Fd := { nt:=11,nv:=1,nm:=[0,1],res:=[2],cs:=λ k=>[(168,Dt.e k)] }
theorem Js.s (k:Nat):CK 105 (Js.e k):=mS Js.d k [] Tryz.func105 ⟨Dt.s k,trivial⟩ trivial
def G0.e (k:Nat):Ent:=⟨1,[(.val false t31)],[(.one,.b)],λ x=>G0 k x⟩
def Fo.p:LF:=⟨⟨[],[(0,t31),(5,t31),(6,(.i .i64)),(7,(.i .i64))]⟩,[(.ret,⟨[],[(2,.b)]⟩),((.exit 0),⟨[],[(0,t31)]⟩)],λ k x=>Fo k x.1 x.2.1 x.2.2.1 x.2.2.2⟩
def G0.d:Fd := { nt:=34,nv:=1,nm:=[0,1,3,4],res:=[2],cs:=λ k=>[(104,J8.e k)],ls:=[(2,Fo.p)] }
theorem G0.a (k:Nat):AC (G0.d.cs k):=⟨J8.s k,trivial⟩
theorem Fo.s:LL Tryz.f106 G0.d 2 Fo.p:=mL [] G0.a trivial
theorem G0.s (k:Nat):CK 106 (G0.e k):=mS G0.d k [2] Tryz.func106 (G0.a k) ⟨Fo.s,trivial⟩
def G3.e (k:Nat):Ent:=⟨1,[(.val true t40)],[(.one,.b)],λ x=>G3 k x⟩
def Gu.p:LF:=⟨⟨[(1,(.bp 1 0 0)),(2999,(.hd 5))],[(6,t31),(7,(.i .i64)),(8,(.i .i64)),(2000,(.i .i64)),(2001,t13),(2002,t13),(2003,t31),(2004,t31)]⟩,[(.ret,⟨[],[(2,.b)]⟩),((.exit 0),⟨[(1,(.bp 1 0 0)),(2999,(.hd 5))],[(2000,(.i .i64)),(2001,t13),(2002,t13),(2003,t31),(2004,t31)]⟩)],λ k x=>Gu k x.1 x.2.1 x.2.2.1 x.2.2.2.1 x.2.2.2.2.1 x.2.2.2.2.2.1 x.2.2.2.2.2.2.1 x.2.2.2.2.2.2.2⟩
def G3.d:Fd := { nt:=35,nv:=1,nm:=[0,1,3,4],res:=[2],cs:=λ k=>[(74,Fe.e k),(104,J8.e k),(105,Js.e k),(106,G0.e k)],ls:=[(2,Gu.p)] }
theorem G3.a (k:Nat):AC (G3.d.cs k):=⟨Fe.s k,J8.s k,Js.s k,G0.s k,trivial⟩
theorem Gu.s:LL Tryz.f47 G3.d 2 Gu.p:=mL [] G3.a trivial
theorem G3.s (k:Nat):CK 47 (G3.e k):=mS G3.d k [2] Tryz.func47 (G3.a k) ⟨Gu.s,trivial⟩
def D0.e (k:Nat):Ent:=⟨1,[(.val true t48)],[(.one,.b)],λ x=>D0 k x⟩
def Cg.p:LF:=⟨⟨[(1,(.bp 1 0 0)),(2999,(.hd 9))],[(57,t0),(58,(.i .i64)),(59,(.i .i64)),(2000,t48)]⟩,[(.ret,⟨[],[(2,.b)]⟩),((.exit 2),⟨[],[]⟩)],λ k x=>Cg k x.1 x.2.1 x.2.2.1 x.2.2.2⟩
def Ea.p:LF:=⟨⟨[(1,(.bp 1 0 0)),(2999,(.hd 9))],[(34,t45),(35,(.i .i64)),(36,(.i .i64)),(2000,t48)]⟩,[(.ret,⟨[],[(2,.b)]⟩),((.exit 0),⟨[(1,(.bp 1 0 0)),(2999,(.hd 9))],[(2000,t48)]⟩)],λ k x=>Ea k x.1 x.2.1 x.2.2.1 x.2.2.2⟩
def D0.d:Fd := { nt:=82,nv:=1,nm:=[0,1,3,4,5,6],res:=[2],cs:=λ k=>[(44,Ej.e k),(45,Ds.e k),(46,D8.e k),(47,G3.e k),(48,B4.e k)],ls:=[(10,Cg.p),(4,Ea.p)],rf:=true }
theorem D0.a (k:Nat):AC (D0.d.cs k):=⟨Ej.s k,Ds.s k,D8.s k,G3.s k,B4.s k,trivial⟩
theorem Cg.s:LL Tryz.f13 D0.d 10 Cg.p:=mL [] D0.a trivial
theorem Ea.s:LL Tryz.f13 D0.d 4 Ea.p:=mL [] D0.a trivial
theorem D0.s (k:Nat):CK 13 (D0.e k):=mS D0.d k [4,10] Tryz.func13 (D0.a k) ⟨Ea.s,Cg.s,trivial⟩
def Iz.e (k:Nat):Ent:=⟨2,[(.val false t6),(.val false (.i .i64))],[(.one,(.i .i64))],λ x=>Iz x.1 x.2⟩
def Iz.d:Fd := { nt:=20,nv:=2,nm:=[0,1,2,3],res:=[4],cs:=λ k=>[(74,Fe.e k)],rf:=true }
theorem Iz.s (k:Nat):CK 66 (Iz.e k):=mS Iz.d k [] Tryz.func66 ⟨Fe.s k,trivial⟩ trivial
def Hg.e (k:Nat):Ent:=⟨2,[(.val true t48),(.val false t6)],[(.one,t7)],λ x=>Hg k x.1 x.2⟩
def Dj.p:LF:=⟨⟨[(2,(.bp 2 0 0)),(3999,(.hd 9))],[(5,t7),(7,(.i .i64)),(10,t6),(11,(.i .i64)),(12,(.i .i64)),(17,t45),(18,(.i .i64)),(19,(.i .i64)),(3000,t48)]⟩,[((.exit 2),⟨[(2,(.bp 2 0 0)),(3999,(.hd 9))],[(5,t7),(10,t6),(11,(.i .i64)),(12,(.i .i64)),(3000,t48)]⟩)],λ k x=>Dj k x.1 x.2.1 x.2.2.1 x.2.2.2.1 x.2.2.2.2.1 x.2.2.2.2.2.1 x.2.2.2.2.2.2.1 x.2.2.2.2.2.2.2.1 x.2.2.2.2.2.2.2.2⟩
def Ff.p:LF:=⟨⟨[(2,(.bp 2 0 0)),(3999,(.hd 9))],[(5,t7),(10,t6),(11,(.i .i64)),(12,(.i .i64)),(3000,t48)]⟩,[((.exit 0),⟨[],[(5,t7)]⟩)],λ k x=>Ff k x.1 x.2.1 x.2.2.1 x.2.2.2.1 x.2.2.2.2⟩
def Hg.d:Fd := { nt:=35,nv:=2,nm:=[0,1,2,3,5,6,7,8,9],res:=[4],ls:=[(6,Dj.p),(3,Ff.p)],rf:=true }
theorem Dj.s:LL Tryz.f122 Hg.d 6 Dj.p:=mL [] (λ _=>trivial) trivial
theorem Ff.s:LL Tryz.f122 Hg.d 3 Ff.p:=mL [6] (λ _=>trivial) ⟨Dj.s,trivial⟩
theorem Hg.s (k:Nat):CK 122 (Hg.e k):=mS Hg.d k [3] Tryz.func122 trivial ⟨Ff.s,trivial⟩
def Hy.e (k:Nat):Ent:=⟨1,[(.val false t6)],[(.one,t7)],λ x=>Hy x⟩
def Hy.d:Fd := { nt:=5,nv:=1,nm:=[0,1],res:=[2],rf:=true }
theorem Hy.s (k:Nat):CK 154 (Hy.e k):=mS Hy.d k [] Tryz.func154 trivial trivial
def Kz.e (k:Nat):Ent:=⟨1,[(.val false .s)],[(.one,(.i .i64))],λ x=>Kz k x⟩
def J0.p:LF:=⟨⟨[],[(0,.s),(3,(.i .u32)),(4,(.i .i64))]⟩,[((.exit 0),⟨[],[(3,(.i .u32))]⟩)],λ k x=>J0 k x.1 x.2.1 x.2.2⟩
def Kz.d:Fd := { nt:=20,nv:=1,nm:=[0,1,3,4],res:=[2],ls:=[(3,J0.p)],rf:=true }
theorem J0.s:LL Tryz.f227 Kz.d 3 J0.p:=mL [] (λ _=>trivial) trivial
theorem Kz.s (k:Nat):CK 227 (Kz.e k):=mS Kz.d k [3] Tryz.func227 trivial ⟨J0.s,trivial⟩
def K8.e (k:Nat):Ent:=⟨2,[(.val false .s),(.val false (.i .i64))],[(.one,(.i .i64))],λ x=>K8 k x.1 x.2⟩
def K8.d:Fd := { nt:=11,nv:=2,nm:=[0,1,2,3],res:=[4],cs:=λ k=>[(227,Kz.e k)],rf:=true }
theorem K8.s (k:Nat):CK 180 (K8.e k):=mS K8.d k [] Tryz.func180 ⟨Kz.s k,trivial⟩ trivial
def Dq.e (k:Nat):Ent:=⟨2,[(.val true t17),(.val false .s)],[(.one,t7)],λ x=>Dq k x.1 x.2⟩
def Dq.d:Fd := { nt:=20,nv:=2,nm:=[0,1,2,3],res:=[4],cs:=λ k=>[(154,Hy.e k),(180,K8.e k)],rf:=true }
theorem Dq.s (k:Nat):CK 123 (Dq.e k):=mS Dq.d k [] Tryz.func123 ⟨Hy.s k,K8.s k,trivial⟩ trivial
def Eh.e (k:Nat):Ent:=⟨2,[(.val false t6),(.val false t22)],[(.one,t7)],λ x=>Eh k x.1 x.2⟩
def Dk.p:LF:=⟨⟨[],[(1,t22),(5,t7),(10,t6),(11,(.i .i64)),(12,(.i .i64))]⟩,[((.exit 0),⟨[],[(5,t7)]⟩)],λ k x=>Dk k x.1 x.2.1 x.2.2.1 x.2.2.2.1 x.2.2.2.2⟩
def Eh.d:Fd := { nt:=37,nv:=2,nm:=[0,1,2,3,5,6,7,8,9],res:=[4],cs:=λ k=>[(102,Ii.e k),(145,Dy.e k)],ls:=[(3,Dk.p)],rf:=true }
theorem Eh.a (k:Nat):AC (Eh.d.cs k):=⟨Ii.s k,Dy.s k,trivial⟩
theorem Dk.s:LL Tryz.f224 Eh.d 3 Dk.p:=mL [] Eh.a trivial
theorem Eh.s (k:Nat):CK 224 (Eh.e k):=mS Eh.d k [3] Tryz.func224 (Eh.a k) ⟨Dk.s,trivial⟩
def D9.e (k:Nat):Ent:=⟨3,[(.val true t17),(.val false t22),(.val false .s)],[(.one,t7)],λ x=>D9 k x.1 x.2.1 x.2.2⟩
def Ch.p:LF:=⟨⟨[],[(7,t7),(8,t7),(9,t7),(10,t7),(19,t22),(20,(.i .i64)),(21,(.i .i64))]⟩,[((.exit 0),⟨[],[(9,t7),(10,t7)]⟩)],λ k x=>Ch k x.1 x.2.1 x.2.2.1 x.2.2.2.1 x.2.2.2.2.1 x.2.2.2.2.2.1 x.2.2.2.2.2.2⟩
def D9.d:Fd := { nt:=49,nv:=3,nm:=[0,1,2,3,4,5,7,8,9,10,11,12],res:=[6],cs:=λ k=>[(123,Dq.e k),(145,Dy.e k),(224,Eh.e k)],ls:=[(5,Ch.p)],rf:=true }
theorem D9.a (k:Nat):AC (D9.d.cs k):=⟨Dq.s k,Dy.s k,Eh.s k,trivial⟩
theorem Ch.s:LL Tryz.f175 D9.d 5 Ch.p:=mL [] D9.a trivial
theorem D9.s (k:Nat):CK 175 (D9.e k):=mS D9.d k [5] Tryz.func175 (D9.a k) ⟨Ch.s,trivial⟩
def C4.e (k:Nat):Ent:=⟨2,[(.ptr t48 t48),(.val false .s)],[(.one,t7)],λ x=>C4 k x.1 x.2⟩
def C4.d:Fd := { nt:=26,nv:=2,nm:=[0,1,2,3],res:=[4],cs:=λ k=>[(122,Hg.e k),(123,Dq.e k),(175,D9.e k)],rf:=true }
theorem C4.s (k:Nat):CK 116 (C4.e k):=mS C4.d k [] Tryz.func116 ⟨Hg.s k,Dq.s k,D9.s k,trivial⟩ trivial
def Hb.e (k:Nat):Ent:=⟨2,[(.val false t4),(.val false (.i .i64))],[(.one,(.i .i64)),(.one,(.i .i64)),(.one,.b)],λ x=>Hb k x.1 x.2⟩
def Fp.p:LF:=⟨⟨[],[(0,t4),(1,(.i .i64)),(7,(.i .i64)),(8,(.i .i64))]⟩,[(.ret,⟨[],[(4,(.i .i64)),(5,(.i .i64)),(6,.b)]⟩),((.exit 0),⟨[],[]⟩)],λ k x=>Fp k x.1 x.2.1 x.2.2.1 x.2.2.2⟩
def Hb.d:Fd := { nt:=57,nv:=2,nm:=[0,1,2,3,7,8,9],res:=[4,5,6],ls:=[(3,Fp.p)] }
theorem Fp.s:LL Tryz.f256 Hb.d 3 Fp.p:=mL [] (λ _=>trivial) trivial
theorem Hb.s (k:Nat):CK 256 (Hb.e k):=mS Hb.d k [3] Tryz.func256 trivial ⟨Fp.s,trivial⟩
def Cr.e (k:Nat):Ent:=⟨1,[(.ptr t20 t20)],[(.one,(.i .i64))],λ x=>Cr k x⟩
def Cr.d:Fd := { nt:=35,nv:=1,nm:=[0,1,3,4,5],res:=[2],cs:=λ k=>[(256,Hb.e k)] }
theorem Cr.s (k:Nat):CK 219 (Cr.e k):=mS Cr.d k [] Tryz.func219 ⟨Hb.s k,trivial⟩ trivial
def Dl.e (k:Nat):Ent:=⟨1,[(.ptr t20 t20)],[(.agg,t16),(.one,.b)],λ x=>Dl k x⟩
def Dl.d:Fd := { nt:=31,nv:=1,nm:=[0,1,4,5],res:=[3],cs:=λ k=>[(219,Cr.e k)] }
theorem Dl.s (k:Nat):CK 171 (Dl.e k):=mS Dl.d k [] Tryz.func171 ⟨Cr.s k,trivial⟩ trivial
def J1.e (k:Nat):Ent:=⟨2,[(.val false t4),(.val false (.i .i64))],[(.one,.s),(.one,(.i .i64)),(.one,.b)],λ x=>J1 k x.1 x.2⟩
def J1.d:Fd := { nt:=37,nv:=2,nm:=[0,1,2,3,7,8,9],res:=[4,5,6],cs:=λ k=>[(256,Hb.e k)] }
theorem J1.s (k:Nat):CK 220 (J1.e k):=mS J1.d k [] Tryz.func220 ⟨Hb.s k,trivial⟩ trivial
def Ci.e (k:Nat):Ent:=⟨1,[(.ptr t20 t20)],[(.one,.s)],λ x=>Ci k x⟩
def Ci.d:Fd := { nt:=35,nv:=1,nm:=[0,1,3,4,5],res:=[2],cs:=λ k=>[(220,J1.e k)] }
theorem Ci.s (k:Nat):CK 172 (Ci.e k):=mS Ci.d k [] Tryz.func172 ⟨J1.s k,trivial⟩ trivial
def Ek.e (k:Nat):Ent:=⟨2,[(.val false t5),(.val false (.i .i64))],[(.one,t5)],λ x=>Ek k x.1 x.2⟩
def Gv.p:LF:=⟨⟨[],[(0,t5),(1,(.i .i64))]⟩,[((.exit 0),⟨[],[(0,t5),(1,(.i .i64))]⟩)],λ k x=>Gv k x.1 x.2⟩
def Ek.d:Fd := { nt:=24,nv:=2,nm:=[0,1,2,3],res:=[4],ls:=[(2,Gv.p)] }
theorem Gv.s:LL Tryz.f257 Ek.d 2 Gv.p:=mL [] (λ _=>trivial) trivial
theorem Ek.s (k:Nat):CK 257 (Ek.e k):=mS Ek.d k [2] Tryz.func257 trivial ⟨Gv.s,trivial⟩
def J2.e (k:Nat):Ent:=⟨2,[(.val false t5),(.val false .s)],[(.one,t5)],λ x=>J2 k x.1 x.2⟩
def J2.d:Fd := { nt:=11,nv:=2,nm:=[0,1,2,3],res:=[4],cs:=λ k=>[(257,Ek.e k)] }
theorem J2.s (k:Nat):CK 221 (J2.e k):=mS J2.d k [] Tryz.func221 ⟨Ek.s k,trivial⟩ trivial
def Mt.e (k:Nat):Ent:=⟨1,[(.val false .b)],[(.one,(.i .i64))],λ x=>Mt x⟩
def Mt.d:Fd := { nt:=4,nv:=1,nm:=[0,1],res:=[2] }
theorem Mt.s (k:Nat):CK 258 (Mt.e k):=mS Mt.d k [] Tryz.func258 trivial trivial
def Hz.e (k:Nat):Ent:=⟨3,[(.val false t5),(.val true t16),(.val false .b)],[(.one,t5)],λ x=>Hz k x.1 x.2.1 x.2.2⟩
def Hz.d:Fd := { nt:=20,nv:=3,nm:=[0,1,2,3,4,5],res:=[6],cs:=λ k=>[(257,Ek.e k),(258,Mt.e k)] }
theorem Hz.s (k:Nat):CK 222 (Hz.e k):=mS Hz.d k [] Tryz.func222 ⟨Ek.s k,Mt.s k,trivial⟩ trivial
def Lj.e (k:Nat):Ent:=⟨1,[(.val false t4)],[(.one,(.i .i64))],λ x=>Lj k x⟩
def J9.p:LF:=⟨⟨[],[(3,(.i .u32)),(7,t4),(8,(.i .i64)),(9,(.i .i64)),(17,(.i .i64))]⟩,[((.exit 2),⟨[],[(3,(.i .u32)),(7,t4),(8,(.i .i64)),(9,(.i .i64))]⟩)],λ k x=>J9 k x.1 x.2.1 x.2.2.1 x.2.2.2.1 x.2.2.2.2⟩
def Jt.p:LF:=⟨⟨[],[(3,(.i .u32)),(7,t4),(8,(.i .i64)),(9,(.i .i64))]⟩,[((.exit 0),⟨[],[(3,(.i .u32))]⟩)],λ k x=>Jt k x.1 x.2.1 x.2.2.1 x.2.2.2⟩
def Lj.d:Fd := { nt:=32,nv:=1,nm:=[0,1,3,4,5,6],res:=[2],ls:=[(7,J9.p),(3,Jt.p)] }
theorem J9.s:LL Tryz.f223 Lj.d 7 J9.p:=mL [] (λ _=>trivial) trivial
theorem Jt.s:LL Tryz.f223 Lj.d 3 Jt.p:=mL [7] (λ _=>trivial) ⟨J9.s,trivial⟩
theorem Lj.s (k:Nat):CK 223 (Lj.e k):=mS Lj.d k [3] Tryz.func223 trivial ⟨Jt.s,trivial⟩
def J3.e (k:Nat):Ent:=⟨1,[(.val true t25)],[(.one,t5)],λ x=>J3 k x⟩
def J3.d:Fd := { nt:=33,nv:=1,nm:=[0,1,3,4],res:=[2],cs:=λ k=>[(103,Hx.e k),(221,J2.e k),(222,Hz.e k),(223,Lj.e k)] }
theorem J3.s (k:Nat):CK 173 (J3.e k):=mS J3.d k [] Tryz.func173 ⟨Hx.s k,J2.s k,Hz.s k,Lj.s k,trivial⟩ trivial
def J4.e (k:Nat):Ent:=⟨1,[(.val false t4)],[(.agg,t25),(.one,.b)],λ x=>J4 k x⟩
def J4.d:Fd := { nt:=41,nv:=1,nm:=[0,1,4,5,6],res:=[3],cs:=λ k=>[(171,Dl.e k),(172,Ci.e k),(173,J3.e k)] }
theorem J4.s (k:Nat):CK 109 (J4.e k):=mS J4.d k [] Tryz.func109 ⟨Dl.s k,Ci.s k,J3.s k,trivial⟩ trivial
def Gw.e (k:Nat):Ent:=⟨1,[(.val false t4)],[(.one,t5)],λ x=>Gw x⟩
def Gw.d:Fd := { nt:=5,nv:=1,nm:=[0,1],res:=[2] }
theorem Gw.s (k:Nat):CK 70 (Gw.e k):=mS Gw.d k [] Tryz.func70 trivial trivial
def N2.e (k:Nat):Ent:=⟨2,[(.val false t13),(.val false .s)],[(.one,(.i .i64))],λ x=>N2 k x.1 x.2⟩
def Kg.p:LF:=⟨⟨[],[(1,.s),(7,t13),(8,(.i .i64)),(9,(.i .i64))]⟩,[(.ret,⟨[],[(4,(.i .i64))]⟩),((.exit 0),⟨[],[]⟩)],λ k x=>Kg k x.1 x.2.1 x.2.2.1 x.2.2.2⟩
def N2.d:Fd := { nt:=20,nv:=2,nm:=[0,1,2,3,5,6],res:=[4],ls:=[(2,Kg.p)] }
theorem Kg.s:LL Tryz.f174 N2.d 2 Kg.p:=mL [] (λ _=>trivial) trivial
theorem N2.s (k:Nat):CK 174 (N2.e k):=mS N2.d k [2] Tryz.func174 trivial ⟨Kg.s,trivial⟩
def I0.e (k:Nat):Ent:=⟨2,[(.val true t27),(.val false .s)],[(.one,t5),(.one,.b)],λ x=>I0 k x.1 x.2⟩
def I0.d:Fd := { nt:=20,nv:=2,nm:=[0,1,2,3,6],res:=[4,5],cs:=λ k=>[(70,Gw.e k),(174,N2.e k)] }
theorem I0.s (k:Nat):CK 117 (I0.e k):=mS I0.d k [] Tryz.func117 ⟨Gw.s k,N2.s k,trivial⟩ trivial
def La.e (k:Nat):Ent:=⟨2,[(.val true t27),(.val false .s)],[(.agg,t25),(.one,(.i .i64))],λ x=>La k x.1 x.2⟩
def La.d:Fd := { nt:=28,nv:=2,nm:=[0,1,2,3,6,7,8,9],res:=[5],cs:=λ k=>[(109,J4.e k),(117,I0.e k)] }
theorem La.s (k:Nat):CK 60 (La.e k):=mS La.d k [] Tryz.func60 ⟨J4.s k,I0.s k,trivial⟩ trivial
def Kh.e (k:Nat):Ent:=⟨2,[(.val true t25),(.val true t25)],[(.one,.b)],λ x=>Kh x.1 x.2⟩
def Kh.d:Fd := { nt:=10,nv:=2,nm:=[0,1,2,3],res:=[4],cs:=λ k=>[(14,Dp.e k)] }
theorem Kh.s (k:Nat):CK 61 (Kh.e k):=mS Kh.d k [] Tryz.func61 ⟨Dp.s k,trivial⟩ trivial
def C5.e (k:Nat):Ent:=⟨6,[(.rd t40),(.val false (.i .i64)),(.ptr (.i .i64) (.i .i64)),(.ptr .s .s),(.ptr .b .b),(.ptr t25 t25)],[],λ x=>C5 k x.1 x.2.1 x.2.2.1 x.2.2.2.1 x.2.2.2.2.1 x.2.2.2.2.2⟩
def C5.d:Fd := { nt:=35,nv:=6,nm:=[0,1,6,7,8,9],res:=[],cs:=λ k=>[(60,La.e k),(61,Kh.e k)],rf:=true }
theorem C5.s (k:Nat):CK 59 (C5.e k):=mS C5.d k [] Tryz.func59 ⟨La.s k,Kh.s k,trivial⟩ trivial
def A9.e (k:Nat):Ent:=⟨4,[(.ptr t48 t48),(.val false .s),(.val false t6),(.fn 59 4),(.hid (.i .i64) (.i .i64)),(.hid .s .s),(.hid .b .b),(.hid t25 t25)],[],λ x=>A9 k x.1 x.2.1 x.2.2.1 x.2.2.2.1 x.2.2.2.2.1 x.2.2.2.2.2.1 x.2.2.2.2.2.2.1 x.2.2.2.2.2.2.2⟩
def Aa.p:LF:=⟨⟨[(0,(.bp 0 0 0)),(3,(.fn 59 [(1500,0),(1501,0),(1502,0),(1503,0)])),(1999,(.hd 9)),(1501999,(.hd 1)),(1502999,(.hd 1)),(1503999,(.hd 1)),(1504999,(.hd 5))],[(2,t6),(8,(.i .i64)),(14,t7),(15,(.i .i64)),(16,(.i .i64)),(1000,t48),(1501000,(.i .i64)),(1502000,.s),(1503000,.b),(1504000,t25)]⟩,[((.exit 0),⟨[(1999,(.hd 9)),(1501999,(.hd 1)),(1502999,(.hd 1)),(1503999,(.hd 1)),(1504999,(.hd 5))],[(1000,t48),(1501000,(.i .i64)),(1502000,.s),(1503000,.b),(1504000,t25)]⟩)],λ k x=>Aa k x.1 x.2.1 x.2.2.1 x.2.2.2.1 x.2.2.2.2.1 x.2.2.2.2.2.1 x.2.2.2.2.2.2.1 x.2.2.2.2.2.2.2.1 x.2.2.2.2.2.2.2.2.1 x.2.2.2.2.2.2.2.2.2⟩
def A9.d:Fd := { nt:=47,nv:=4,nm:=[0,1,2,3,4,5,6,7,8,9,10,11],res:=[],cs:=λ k=>[(59,C5.e k),(66,Iz.e k),(116,C4.e k)],ls:=[(2,Aa.p)],rf:=true }
theorem A9.a (k:Nat):AC (A9.d.cs k):=⟨C5.s k,Iz.s k,C4.s k,trivial⟩
theorem Aa.s:LL Tryz.f58 A9.d 2 Aa.p:=mL [] A9.a trivial
theorem A9.s (k:Nat):CK 58 (A9.e k):=mS A9.d k [2] Tryz.func58 (A9.a k) ⟨Aa.s,trivial⟩
def Gx.e (k:Nat):Ent:=⟨3,[(.val true t48),(.val false .s),(.val false t6)],[(.agg,t25),(.one,(.i .i64))],λ x=>Gx k x.1 x.2.1 x.2.2⟩
def Gx.d:Fd := { nt:=37,nv:=3,nm:=[0,1,2,3,4,5,8,9,10],res:=[7],cs:=λ k=>[(13,D0.e k),(48,B4.e k),(58,A9.e k)],rf:=true }
theorem Gx.s (k:Nat):CK 23 (Gx.e k):=mS Gx.d k [] Tryz.func23 ⟨D0.s k,B4.s k,A9.s k,trivial⟩ trivial
def El.e (k:Nat):Ent:=⟨2,[(.val true t17),(.val false t22)],[(.one,.b)],λ x=>El k x.1 x.2⟩
def Gy.p:LF:=⟨⟨[(2,(.bp 2 0 0)),(3999,(.hd 2))],[(1,t22),(5,(.i .i64)),(6,(.i .i64)),(3000,t17)]⟩,[(.ret,⟨[],[(4,.b)]⟩),((.exit 2),⟨[(2,(.bp 2 0 0)),(3999,(.hd 2))],[(1,t22),(5,(.i .i64)),(3000,t17)]⟩)],λ k x=>Gy k x.1 x.2.1 x.2.2.1 x.2.2.2⟩
def Gz.p:LF:=⟨⟨[(2,(.bp 2 0 0)),(3999,(.hd 2))],[(1,t22),(5,(.i .i64)),(3000,t17)]⟩,[(.ret,⟨[],[(4,.b)]⟩),((.exit 0),⟨[],[]⟩)],λ k x=>Gz k x.1 x.2.1 x.2.2⟩
def El.d:Fd := { nt:=68,nv:=2,nm:=[0,1,2,3,5,6,7,8],res:=[4],cs:=λ k=>[(97,A8.e k),(137,Bs.e k),(138,Dx.e k),(139,Du.e k)],ls:=[(9,Gy.p),(4,Gz.p)],rf:=true }
theorem El.a (k:Nat):AC (El.d.cs k):=⟨A8.s k,Bs.s k,Dx.s k,Du.s k,trivial⟩
theorem Gy.s:LL Tryz.f75 El.d 9 Gy.p:=mL [] El.a trivial
theorem Gz.s:LL Tryz.f75 El.d 4 Gz.p:=mL [9] El.a ⟨Gy.s,trivial⟩
theorem El.s (k:Nat):CK 75 (El.e k):=mS El.d k [4] Tryz.func75 (El.a k) ⟨Gz.s,trivial⟩
def Da.e (k:Nat):Ent:=⟨1,[(.val true t48)],[(.one,.b)],λ x=>Da k x⟩
def Eb.p:LF:=⟨⟨[(1,(.bp 1 0 0)),(2999,(.hd 9))],[(3,(.i .i64)),(2000,t48)]⟩,[(.ret,⟨[],[(2,.b)]⟩),((.exit 0),⟨[],[]⟩)],λ k x=>Eb k x.1 x.2⟩
def Da.d:Fd := { nt:=40,nv:=1,nm:=[0,1,3],res:=[2],cs:=λ k=>[(140,Br.e k)],ls:=[(4,Eb.p)],rf:=true }
theorem Da.a (k:Nat):AC (Da.d.cs k):=⟨Br.s k,trivial⟩
theorem Eb.s:LL Tryz.f76 Da.d 4 Eb.p:=mL [] Da.a trivial
theorem Da.s (k:Nat):CK 76 (Da.e k):=mS Da.d k [4] Tryz.func76 (Da.a k) ⟨Eb.s,trivial⟩
def D5.e (k:Nat):Ent:=⟨1,[(.val true t48)],[(.one,.b)],λ x=>D5 k x⟩
def Cj.p:LF:=⟨⟨[(1,(.bp 1 0 0)),(2999,(.hd 9))],[(5,(.i .i64)),(2000,t48)]⟩,[(.ret,⟨[],[(2,.b)]⟩),((.exit 2),⟨[],[]⟩)],λ k x=>Cj k x.1 x.2⟩
def Fg.p:LF:=⟨⟨[(1,(.bp 1 0 0)),(2999,(.hd 9))],[(3,(.i .i64)),(2000,t48)]⟩,[(.ret,⟨[],[(2,.b)]⟩),((.exit 0),⟨[(1,(.bp 1 0 0)),(2999,(.hd 9))],[(2000,t48)]⟩)],λ k x=>Fg k x.1 x.2⟩
def D5.d:Fd := { nt:=91,nv:=1,nm:=[0,1,3,4,5],res:=[2],cs:=λ k=>[(62,Ae.e k),(75,El.e k),(76,Da.e k),(77,Bu.e k),(78,Bq.e k),(79,Bv.e k)],ls:=[(10,Cj.p),(4,Fg.p)],rf:=true }
theorem D5.a (k:Nat):AC (D5.d.cs k):=⟨Ae.s k,El.s k,Da.s k,Bu.s k,Bq.s k,Bv.s k,trivial⟩
theorem Cj.s:LL Tryz.f32 D5.d 10 Cj.p:=mL [] D5.a trivial
theorem Fg.s:LL Tryz.f32 D5.d 4 Fg.p:=mL [] D5.a trivial
theorem D5.s (k:Nat):CK 32 (D5.e k):=mS D5.d k [4,10] Tryz.func32 (D5.a k) ⟨Fg.s,Cj.s,trivial⟩
def Hc.e (k:Nat):Ent:=⟨3,[(.val true t48),(.val false .s),(.val false t6)],[(.agg,t25),(.one,(.i .i64))],λ x=>Hc k x.1 x.2.1 x.2.2⟩
def Ce.p:LF:=⟨⟨[(3,(.bp 3 0 0)),(6,(.bp 6 0 0)),(12,(.bp 12 0 0)),(4999,(.hd 9)),(7999,(.hd 5)),(13999,(.hd 5))],[(1,.s),(2,t6),(8,t7),(9,(.i .i64)),(10,(.i .i64)),(11,.b),(13,(.i .i64)),(4000,t48),(7000,t26),(13000,t25)]⟩,[((.exit 0),⟨[(6,(.bp 6 0 0)),(12,(.bp 12 0 0)),(7999,(.hd 5)),(13999,(.hd 5))],[(10,(.i .i64)),(11,.b),(7000,t26),(13000,t25)]⟩)],λ k x=>Ce k x.1 x.2.1 x.2.2.1 x.2.2.2.1 x.2.2.2.2.1 x.2.2.2.2.2.1 x.2.2.2.2.2.2.1 x.2.2.2.2.2.2.2.1 x.2.2.2.2.2.2.2.2.1 x.2.2.2.2.2.2.2.2.2⟩
def Hc.d:Fd := { nt:=84,nv:=3,nm:=[0,1,2,3,4,5,8,9,10,11,12,13,14,15,16],res:=[7],cs:=λ k=>[(118,Bz.e k),(119,B8.e k),(120,Ey.e k),(121,J6.e k)],ls:=[(7,Ce.p)],rf:=true }
theorem Hc.a (k:Nat):AC (Hc.d.cs k):=⟨Bz.s k,B8.s k,Ey.s k,J6.s k,trivial⟩
theorem Ce.s:LL Tryz.f63 Hc.d 7 Ce.p:=mL [] Hc.a trivial
theorem Hc.s (k:Nat):CK 63 (Hc.e k):=mS Hc.d k [7] Tryz.func63 (Hc.a k) ⟨Ce.s,trivial⟩
def H0.e (k:Nat):Ent:=⟨3,[(.val true t48),(.val false .s),(.val false t6)],[(.agg,t25),(.one,(.i .i64))],λ x=>H0 k x.1 x.2.1 x.2.2⟩
def H0.d:Fd := { nt:=23,nv:=3,nm:=[0,1,2,3,4,5],res:=[7],cs:=λ k=>[(32,D5.e k),(62,Ae.e k),(63,Hc.e k)],rf:=true }
theorem H0.s (k:Nat):CK 24 (H0.e k):=mS H0.d k [] Tryz.func24 ⟨D5.s k,Ae.s k,Hc.s k,trivial⟩ trivial
def Fq.e (k:Nat):Ent:=⟨2,[(.val false t4),(.val false t4)],[(.one,.b)],λ x=>Fq k x.1 x.2⟩
def Dm.p:LF:=⟨⟨[],[(0,t4),(1,t4),(5,(.i .i64))]⟩,[(.ret,⟨[],[(4,.b)]⟩),((.exit 0),⟨[],[]⟩)],λ k x=>Dm k x.1 x.2.1 x.2.2⟩
def Fq.d:Fd := { nt:=26,nv:=2,nm:=[0,1,2,3,5],res:=[4],ls:=[(4,Dm.p)] }
theorem Dm.s:LL Tryz.f50 Fq.d 4 Dm.p:=mL [] (λ _=>trivial) trivial
theorem Fq.s (k:Nat):CK 50 (Fq.e k):=mS Fq.d k [4] Tryz.func50 trivial ⟨Dm.s,trivial⟩
def I1.e (k:Nat):Ent:=⟨2,[(.val true t25),(.val true t25)],[(.one,.b)],λ x=>I1 k x.1 x.2⟩
def I1.d:Fd := { nt:=24,nv:=2,nm:=[0,1,2,3],res:=[4],cs:=λ k=>[(50,Fq.e k)] }
theorem I1.s (k:Nat):CK 64 (I1.e k):=mS I1.d k [] Tryz.func64 ⟨Fq.s k,trivial⟩ trivial
def I8.e (k:Nat):Ent:=⟨3,[(.val true t48),(.val false .s),(.val true t25)],[(.one,.b)],λ x=>I8 k x.1 x.2.1 x.2.2⟩
def H7.p:LF:=⟨⟨[(3,(.bp 3 0 0)),(5,(.bp 5 0 0)),(4999,(.hd 9)),(6999,(.hd 5))],[(1,.s),(7,(.i .i64)),(4000,t48),(6000,t25)]⟩,[(.ret,⟨[],[(6,.b)]⟩),((.exit 0),⟨[],[]⟩)],λ k x=>H7 k x.1 x.2.1 x.2.2.1 x.2.2.2⟩
def I8.d:Fd := { nt:=33,nv:=3,nm:=[0,1,2,3,4,5,7],res:=[6],cs:=λ k=>[(64,I1.e k)],ls:=[(2,H7.p)],rf:=true }
theorem I8.a (k:Nat):AC (I8.d.cs k):=⟨I1.s k,trivial⟩
theorem H7.s:LL Tryz.f25 I8.d 2 H7.p:=mL [] I8.a trivial
theorem I8.s (k:Nat):CK 25 (I8.e k):=mS I8.d k [2] Tryz.func25 (I8.a k) ⟨H7.s,trivial⟩
def Jg.e (k:Nat):Ent:=⟨1,[(.val false t4)],[(.one,.b)],λ x=>Jg k x⟩
def Jg.d:Fd := { nt:=53,nv:=1,nm:=[0,1,3,4,5,6,7,8,9,10],res:=[2],cs:=λ k=>[(9,Ms.e k),(21,Gp.e k),(22,Cq.e k),(23,Gx.e k),(24,H0.e k),(25,I8.e k)],sh:=true,rf:=true }
theorem Jg.s (k:Nat):CK 5 (Jg.e k):=mS Jg.d k [] Tryz.func5 ⟨Ms.s k,Gp.s k,Cq.s k,Gx.s k,H0.s k,I8.s k,trivial⟩ trivial
end

def Tot {α:Type} (f:Nat→Option α) (Q:α→Prop):Prop:=∃ r K,(∀ k,K≤k→f k=some r)∧Q r
section
variable {α β:Type} {f g:Nat→Option α} {Q Q':α→Prop}
theorem Tot.mono (h:Tot f Q) (hq:∀ a,Q a→Q' a):Tot f Q':=by
 obtain ⟨r,K,h1,h2⟩:=h
 exact ⟨r,K,h1,hq r h2⟩
theorem Tot.pure {a:α} (h:Q a):Tot (λ _=>some a) Q:=⟨a,0,λ _ _=>rfl,h⟩
theorem Tot.of {o:Option α} {a:α} (e:o=some a) (h:Q a):Tot (λ _=>o) Q:=⟨a,0,λ _ _=>e,h⟩
theorem Tot.bind {h:Nat→α→Option β} {R:β→Prop} (hf:Tot f Q) (hh:∀ a,Q a→Tot (λ k=>h k a) R):Tot (λ k=>(f k).bind (h k)) R:=by
 obtain ⟨a,K,h1,h2⟩:=hf
 obtain ⟨b,L,h3,h4⟩:=hh a h2
 exact ⟨b,max K L,λ k hk=>by show (f k).bind (h k)=_; rw [h1 k (by omega)]; exact h3 k (by omega),h4⟩
theorem Tot.yes {c:Bool} (hc:c=true) (h:Tot f Q):Tot (λ k=>cond c (f k) (g k)) Q:=by subst hc; exact h
theorem Tot.no {c:Bool} (hc:c=false) (h:Tot g Q):Tot (λ k=>cond c (f k) (g k)) Q:=by subst hc; exact h
theorem Tot.ite {c:Bool} (h1:c=true→Tot f Q) (h2:c=false→Tot g Q):Tot (λ k=>cond c (f k) (g k)) Q:=by
 cases hc:c with
 |true=>exact h1 hc
 |false=>exact h2 hc
theorem Tot.dec {p:Prop} [Decidable p] (hp:p) (h:Tot f Q):Tot (λ k=>cond (decide p) (f k) (g k)) Q:=Tot.yes (decide_eq_true hp) h
theorem Tot.ndec {p:Prop} [Decidable p] (hp:¬ p) (h:Tot g Q):Tot (λ k=>cond (decide p) (f k) (g k)) Q:=Tot.no (decide_eq_false hp) h
theorem Tot.dite {p:Prop} [Decidable p] (h1:p→Tot f Q) (h2:¬ p→Tot g Q):Tot (λ k=>cond (decide p) (f k) (g k)) Q:=
 Tot.ite (λ h=>h1 (of_decide_eq_true h)) (λ h=>h2 (of_decide_eq_false h))
theorem Tot.ble {m n:Nat} (hp:m≤n) (h:Tot f Q):Tot (λ k=>cond (Nat.ble m n) (f k) (g k)) Q:=Tot.yes (Nat.ble_eq_true_of_le hp) h
theorem Tot.seq {v:α} {h:Nat→α→Option β} {R:β→Prop} (hf:Tot f (λ r=>r=v)) (hh:Tot (λ k=>h k v) R):Tot (λ k=>(f k).bind (h k)) R:=
 Tot.bind hf (by rintro r rfl; exact hh)
theorem Tot.succ (h:Tot (λ k=>f (k+1)) Q):Tot f Q:=by
 obtain ⟨r,K,h1,h2⟩:=h
 exact ⟨r,K+1,λ k hk=>by obtain ⟨m,rfl⟩:∃ m,k=m+1:=⟨k - 1,by omega⟩; exact h1 m (by omega),h2⟩
theorem Tot.and (h:Tot f Q) (h':Tot f Q'):Tot f (λ a=>Q a∧Q' a):=by
 obtain ⟨r,K,h1,h2⟩:=h
 obtain ⟨r',K',h1',h2'⟩:=h'
 have e:r=r':=by
  have a1:=h1 (max K K') (by omega)
  have a2:=h1' (max K K') (by omega)
  rw [a1] at a2
  exact Option.some.inj a2
 subst e
 exact ⟨r,K,h1,h2,h2'⟩
theorem Tot.law {f:Nat→Option Bool} (h:Tot f (λ b=>b=true)):∃ k,f k=some true:=by
 obtain ⟨r,K,h1,h2⟩:=h
 subst h2
 exact ⟨K,h1 K (Nat.le_refl _)⟩
end
theorem w64 {n:Int} (h1 : -9223372036854775808≤n) (h2:n≤9223372036854775807):IntKind.wrap .i64 n=n:=Go.IntWalk.i64_in n ⟨h1,h2⟩
theorem B8a (n:Int) : -9223372036854775808≤IntKind.wrap .i64 n∧IntKind.wrap .i64 n≤9223372036854775807:=by
 rw [IntKind.wrap_i64]
 omega
theorem F7a (n:Int):0≤IntKind.wrap .u8 n∧IntKind.wrap .u8 n≤255:=by
 simp only [IntKind.wrap,IntKind.signed,IntKind.bits]
 simp
 omega
theorem Kja (x m:Int) (h0:0≤m) (h1:m<9223372036854775808):0≤IntKind.wrap .i64 ((BitVec.ofInt (IntKind.bits .i64) x &&& BitVec.ofInt (IntKind.bits .i64) m).toNat)∧IntKind.wrap .i64 ((BitVec.ofInt (IntKind.bits .i64) x &&& BitVec.ofInt (IntKind.bits .i64) m).toNat)≤m:=by
 have hm:(BitVec.ofInt (IntKind.bits .i64) m).toNat=m.toNat:=by
  rw [BitVec.toNat_ofInt]
  show (m % ((2 ^ 64:Nat):Int)).toNat=m.toNat
  rw [Int.emod_eq_of_lt h0 (by omega)]
 have hle:(BitVec.ofInt (IntKind.bits .i64) x &&& BitVec.ofInt (IntKind.bits .i64) m).toNat≤m.toNat:=by
  rw [BitVec.toNat_and,hm]
  exact Nat.and_le_right
 rw [w64 (by omega) (by omega)]
 omega
theorem Qia {x n:Int} (hx:0≤x) (hn:0<n):0≤Int.tmod x n∧Int.tmod x n<n:=by
 rw [Int.tmod_eq_emod_of_nonneg hx]
 exact ⟨Int.emod_nonneg _ (by omega),Int.emod_lt_of_pos _ hn⟩

end Go.Proofs.YtmhhjceoinoekaaGreat.Vf
