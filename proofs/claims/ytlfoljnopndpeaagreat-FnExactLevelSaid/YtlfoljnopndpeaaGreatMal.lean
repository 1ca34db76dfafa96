import Derived.Test.YtlfoljnopndpeaaGreatMab
import Derived.Test.YtlfoljnopndpeaaGreatMak
import Derived.Test.YtlfoljnopndpeaaGreatProg
import Derived.KernelRfl
set_option linter.unusedVariables false
set_option linter.unusedSimpArgs false
namespace Go.Proofs.YtlfoljnopndpeaaGreat.Vf
open Go

section
open Go.Proofs
@[reducible] def t0:Ty := .sl 9 .s
@[reducible] def t1:Ty := .ow 9 .s
@[reducible] def t2:Ty := .sl 5 (.i .u8)
@[reducible] def t3:Ty := .ow 5 (.i .u8)
@[reducible] def t4:Ty := .sl 3 (.i .i64)
@[reducible] def t5:Ty := .ow 3 (.i .i64)
@[reducible] def t6:Ty := .pr .s (.i .u64)
@[reducible] def t7:Ty := .sl 136 t4
@[reducible] def t8:Ty := .sl 143 t4
@[reducible] def t9:Ty := .ow 143 t4
@[reducible] def t10:Ty := .pr .s t2
@[reducible] def t11:Ty := .sl 197 t10
@[reducible] def t12:Ty := .sl 112 t10
@[reducible] def t13:Ty := .ow 112 t10
@[reducible] def t14:Ty := .pr (.i .i64) (.pr (.i .i64) (.i .i64))
@[reducible] def t15:Ty := .pr (.i .i64) t7
@[reducible] def t16:Ty := .pr (.i .i64) t8
@[reducible] def t17:Ty := .pr (.i .i64) t9
@[reducible] def t18:Ty := .pr t2 (.pr (.i .i64) .b)
@[reducible] def t19:Ty := .sl 106 t14
@[reducible] def t20:Ty := .sl 104 t14
@[reducible] def t21:Ty := .ow 104 t14
@[reducible] def t22:Ty := .pr (.i .i64) (.pr (.i .i64) (.pr .b (.i .u8)))
@[reducible] def t23:Ty := .pr t14 (.pr .b t2)
@[reducible] def t24:Ty := .pr t14 (.pr .b t3)
@[reducible] def t25:Ty := .pr .s (.pr t14 (.pr .b (.i .i64)))
@[reducible] def t26:Ty := .pr t11 t11
@[reducible] def t27:Ty := .pr t12 t12
@[reducible] def t28:Ty := .pr t13 t13
@[reducible] def t29:Ty := .sl 176 t25
@[reducible] def t30:Ty := .sl 118 t25
@[reducible] def t31:Ty := .ow 118 t25
@[reducible] def t32:Ty := .pr .s (.pr t23 .b)
@[reducible] def t33:Ty := .sl 90 t32
@[reducible] def t34:Ty := .sl 96 t32
@[reducible] def t35:Ty := .ow 96 t32
@[reducible] def t36:Ty := .pr (.i .i64) (.pr t26 (.pr t29 t29))
@[reducible] def t37:Ty := .pr (.i .i64) (.pr t27 (.pr t30 t30))
@[reducible] def t38:Ty := .sl 84 t36
@[reducible] def t39:Ty := .sl 72 t37
@[reducible] def t40:Ty := .ow 72 t37
@[reducible] def t41:Ty := .pr t19 (.pr t15 (.pr t38 (.pr t14 (.pr t33 t0))))
@[reducible] def t42:Ty := .pr t20 (.pr t16 (.pr t39 (.pr t14 (.pr t34 t0))))
def tiL:List (Nat×TI):=[(2,⟨(.i .i64),false,8,[]⟩),
 (3,⟨(.i .i64),false,8,[]⟩),
 (4,⟨.b,false,1,[]⟩),
 (5,⟨(.i .u8),false,1,[]⟩),
 (6,⟨(.i .u8),false,1,[]⟩),
 (7,⟨t22,true,24,[(0,1,false),(1,1,false),(2,1,false),(3,1,false)]⟩),
 (8,⟨t22,true,24,[(0,1,false),(1,1,false),(2,1,false),(3,1,false)]⟩),
 (9,⟨.s,false,16,[]⟩),
 (10,⟨.s,false,16,[]⟩),
 (11,⟨.s,false,16,[]⟩),
 (12,⟨(.i .u64),false,8,[]⟩),
 (13,⟨t6,true,24,[(0,1,false),(1,1,false)]⟩),
 (14,⟨t6,true,24,[(0,1,false),(1,1,false)]⟩),
 (21,⟨(.i .i32),false,4,[]⟩),
 (22,⟨t19,false,24,[]⟩),
 (23,⟨t7,false,24,[]⟩),
 (24,⟨t15,true,32,[(0,1,false),(1,1,false)]⟩),
 (25,⟨t15,true,32,[(0,1,false),(1,1,false)]⟩),
 (26,⟨t38,false,24,[]⟩),
 (27,⟨t14,true,24,[(0,1,false),(1,1,false),(2,1,false)]⟩),
 (28,⟨t14,true,24,[(0,1,false),(1,1,false),(2,1,false)]⟩),
 (29,⟨t33,false,24,[]⟩),
 (30,⟨t0,false,24,[]⟩),
 (31,⟨t41,true,152,[(0,1,false),(1,2,true),(3,1,false),(4,3,true),(7,1,false),(8,1,false)]⟩),
 (32,⟨t41,true,152,[(0,1,false),(1,2,true),(3,1,false),(4,3,true),(7,1,false),(8,1,false)]⟩),
 (35,⟨t20,false,24,[]⟩),
 (36,⟨t8,false,24,[]⟩),
 (37,⟨t16,true,32,[(0,1,false),(1,1,false)]⟩),
 (38,⟨t16,true,32,[(0,1,false),(1,1,false)]⟩),
 (39,⟨t39,false,24,[]⟩),
 (40,⟨t14,true,24,[(0,1,false),(1,1,false),(2,1,false)]⟩),
 (41,⟨t34,false,24,[]⟩),
 (42,⟨t42,true,152,[(0,1,false),(1,2,true),(3,1,false),(4,3,true),(7,1,false),(8,1,false)]⟩),
 (43,⟨t42,true,152,[(0,1,false),(1,2,true),(3,1,false),(4,3,true),(7,1,false),(8,1,false)]⟩),
 (65,⟨t4,false,24,[]⟩),
 (67,⟨t12,false,24,[]⟩),
 (68,⟨t27,true,48,[(0,1,false),(1,1,false)]⟩),
 (69,⟨t27,true,48,[(0,1,false),(1,1,false)]⟩),
 (70,⟨t30,false,24,[]⟩),
 (71,⟨t37,true,104,[(0,1,false),(1,2,true),(3,1,false),(4,1,false)]⟩),
 (72,⟨t37,true,104,[(0,1,false),(1,2,true),(3,1,false),(4,1,false)]⟩),
 (79,⟨t11,false,24,[]⟩),
 (80,⟨t26,true,48,[(0,1,false),(1,1,false)]⟩),
 (81,⟨t26,true,48,[(0,1,false),(1,1,false)]⟩),
 (82,⟨t29,false,24,[]⟩),
 (83,⟨t36,true,104,[(0,1,false),(1,2,true),(3,1,false),(4,1,false)]⟩),
 (84,⟨t36,true,104,[(0,1,false),(1,2,true),(3,1,false),(4,1,false)]⟩),
 (86,⟨t2,false,24,[]⟩),
 (87,⟨t23,true,56,[(0,3,true),(3,1,false),(4,1,false)]⟩),
 (88,⟨t23,true,56,[(0,3,true),(3,1,false),(4,1,false)]⟩),
 (89,⟨t32,true,80,[(0,1,false),(1,5,true),(6,1,false)]⟩),
 (90,⟨t32,true,80,[(0,1,false),(1,5,true),(6,1,false)]⟩),
 (93,⟨t23,true,56,[(0,3,true),(3,1,false),(4,1,false)]⟩),
 (94,⟨t23,true,56,[(0,3,true),(3,1,false),(4,1,false)]⟩),
 (95,⟨t32,true,80,[(0,1,false),(1,5,true),(6,1,false)]⟩),
 (96,⟨t32,true,80,[(0,1,false),(1,5,true),(6,1,false)]⟩),
 (103,⟨t14,true,24,[(0,1,false),(1,1,false),(2,1,false)]⟩),
 (104,⟨t14,true,24,[(0,1,false),(1,1,false),(2,1,false)]⟩),
 (106,⟨t14,true,24,[(0,1,false),(1,1,false),(2,1,false)]⟩),
 (111,⟨t10,true,40,[(0,1,false),(1,1,false)]⟩),
 (112,⟨t10,true,40,[(0,1,false),(1,1,false)]⟩),
 (117,⟨t25,true,56,[(0,1,false),(1,3,true),(4,1,false),(5,1,false)]⟩),
 (118,⟨t25,true,56,[(0,1,false),(1,3,true),(4,1,false),(5,1,false)]⟩),
 (135,⟨t4,true,24,[(0,1,false)]⟩),
 (136,⟨t4,true,24,[(0,1,false)]⟩),
 (143,⟨t4,true,24,[(0,1,false)]⟩),
 (155,⟨t18,true,40,[(0,1,false),(1,1,false),(2,1,false)]⟩),
 (156,⟨t18,true,40,[(0,1,false),(1,1,false),(2,1,false)]⟩),
 (175,⟨t25,true,56,[(0,1,false),(1,3,true),(4,1,false),(5,1,false)]⟩),
 (176,⟨t25,true,56,[(0,1,false),(1,3,true),(4,1,false),(5,1,false)]⟩),
 (187,⟨(.i .u64),false,8,[]⟩),
 (197,⟨t10,true,40,[(0,1,false),(1,1,false)]⟩),
 (199,⟨(.i .u32),false,4,[]⟩),
 (206,⟨(.i .u8),false,1,[]⟩),
 (207,⟨(.i .u8),false,1,[]⟩),
 (210,⟨(.i .i32),false,4,[]⟩),
 (211,⟨(.i .i32),false,4,[]⟩)]
def ti:TypeId→Option TI:=lk tiL
def Pxa:List Nat:=[27,28,40,103,104,106,117,118,175,176]
def eqs:TypeId→Bool:=λ T=>Pxa.contains T
theorem sK:Ss Tryz.prog ti eqs∧∀ T,Pw Tryz.prog ti T=true:=Rya (P:=Tryz.prog) (ti:=ti) (eqs:=eqs) (keys:=tiL.map Prod.fst) (Pxa:=Pxa) Nca (by kernel_rfl) (by kernel_rfl) rfl (by kernel_rfl)
theorem sO:Ss Tryz.prog ti eqs:=sK.1
theorem Soa:∀ T t,ti T=some t→TOk Tryz.prog T t:=sO.tok
theorem Spa:∀ T,Pw Tryz.prog ti T=true:=sK.2
abbrev CK:=Mp Tryz.prog
abbrev LL:=LK Tryz.prog
abbrev AC:=P5a Tryz.prog
theorem mS {f:FuncId} {fn:Func} (D:Fd) (k:Nat) {en:Ent} (ids:List Nat) (hf:Tryz.prog.funcs[f]? = some fn) (hc:AC (D.cs k)) (hi:P6a Tryz.prog fn D ids) (h:(Rxa fn D en,Kj (bo fn),ids.map λ l=>first (Je l (bo fn)))=(true,ids.map λ l=>Je l (bo fn),ids)) (hr:∀ x,Gma (D.n ti eqs k) (bo fn) fn.results.toList en x=en.run x):CK f en:=mkS sO ids hf hc hi (congrArg Prod.fst h) (congrArg Prod.snd h) hr
theorem mL {fn:Func} {D:Fd} {l:Nat} {p:LF} (ids:List Nat) (hc:∀ k,AC (D.cs k)) (hi:P6a Tryz.prog fn D ids) (h:(Nat.beq D.nt fn.ntmps,Kj (Je l (bo fn)),ids.map λ l=>first (Je l (bo fn)))=(true,ids.map λ l=>Je l (bo fn),ids)) (h0:∀ x,p.f 0 x=none) (hs:Sia ti eqs fn D l p):LL fn D l p:=mkL sO ids (congrArg Prod.fst h) hc hi (congrArg Prod.snd h) h0 hs
def Ij.e (k:Nat):Ent:=⟨2,[(.val false t19),(.val false (.i .i64))],[(.one,(.i .i64))],λ x=>Ij x.1 x.2⟩
def Ij.d:Fd := { nt:=12,nv:=2,nm:=[0,1,2,3],res:=[4],rf:=true }
theorem Ij.s (k:Nat):CK 12 (Ij.e k):=mS Ij.d k [] Tryz.func12 trivial trivial (by kernel_rfl) (λ x=>by kernel_rfl)
def Ik.e (k:Nat):Ent:=⟨2,[(.val false t4),(.val false (.i .i64))],[(.one,(.i .i64))],λ x=>Ik x.1 x.2⟩
def Ik.d:Fd := { nt:=12,nv:=2,nm:=[0,1,2,3],res:=[4],rf:=true }
theorem Ik.s (k:Nat):CK 137 (Ik.e k):=mS Ik.d k [] Tryz.func137 trivial trivial (by kernel_rfl) (λ x=>by kernel_rfl)
def Il.e (k:Nat):Ent:=⟨2,[(.val true t4),(.val false (.i .i64))],[(.one,(.i .i64))],λ x=>Il x.1 x.2⟩
def Il.d:Fd := { nt:=12,nv:=2,nm:=[0,1,2,3],res:=[4],cs:=λ k=>[(137,Ik.e k)],rf:=true }
theorem Il.s (k:Nat):CK 95 (Il.e k):=mS Il.d k [] Tryz.func95 ⟨Ik.s k,trivial⟩ trivial (by kernel_rfl) (λ x=>by kernel_rfl)
def C6.e (k:Nat):Ent:=⟨2,[(.val false t7),(.val false (.i .i64))],[(.one,(.i .i64))],λ x=>C6 k x.1 x.2⟩
def E3.p:LF:=⟨⟨[],[(0,t7),(1,(.i .i64)),(5,(.i .i64))]⟩,[(.ret,⟨[],[(4,(.i .i64))]⟩),((.exit 0),⟨[],[(1,(.i .i64))]⟩)],λ k x=>E3 k x.1 x.2.1 x.2.2⟩
def C6.d:Fd := { nt:=27,nv:=2,nm:=[0,1,2,3,5],res:=[4],cs:=λ k=>[(95,Il.e k)],ls:=[(5,E3.p)],rf:=true }
theorem C6.a (k:Nat):AC (C6.d.cs k):=⟨Il.s k,trivial⟩
theorem E3.s:LL Tryz.f47 C6.d 5 E3.p:=mL [] C6.a trivial (by kernel_rfl) (λ _=>rfl) (λ k x=>by kernel_rfl)
theorem C6.s (k:Nat):CK 47 (C6.e k):=mS C6.d k [5] Tryz.func47 (C6.a k) ⟨E3.s,trivial⟩ (by kernel_rfl) (λ x=>by kernel_rfl)
def Im.e (k:Nat):Ent:=⟨2,[(.val true t15),(.val false (.i .i64))],[(.one,(.i .i64))],λ x=>Im k x.1 x.2⟩
def Im.d:Fd := { nt:=12,nv:=2,nm:=[0,1,2,3],res:=[4],cs:=λ k=>[(47,C6.e k)],rf:=true }
theorem Im.s (k:Nat):CK 13 (Im.e k):=mS Im.d k [] Tryz.func13 ⟨C6.s k,trivial⟩ trivial (by kernel_rfl) (λ x=>by kernel_rfl)
def F3.e (k:Nat):Ent:=⟨2,[(.val false t2),(.val false (.i .i64))],[(.one,(.i .i64))],λ x=>F3 x.1 x.2⟩
def F3.d:Fd := { nt:=12,nv:=2,nm:=[0,1,2,3],res:=[4],rf:=true }
theorem F3.s (k:Nat):CK 140 (F3.e k):=mS F3.d k [] Tryz.func140 trivial trivial (by kernel_rfl) (λ x=>by kernel_rfl)
def Hi.e (k:Nat):Ent:=⟨2,[(.val true t10),(.val false (.i .i64))],[(.one,(.i .i64))],λ x=>Hi x.1 x.2⟩
def Hi.d:Fd := { nt:=19,nv:=2,nm:=[0,1,2,3],res:=[4],cs:=λ k=>[(140,F3.e k)],rf:=true }
theorem Hi.s (k:Nat):CK 167 (Hi.e k):=mS Hi.d k [] Tryz.func167 ⟨F3.s k,trivial⟩ trivial (by kernel_rfl) (λ x=>by kernel_rfl)
def B0.e (k:Nat):Ent:=⟨2,[(.val false t11),(.val false (.i .i64))],[(.one,(.i .i64))],λ x=>B0 k x.1 x.2⟩
def Dc.p:LF:=⟨⟨[],[(0,t11),(1,(.i .i64)),(5,(.i .i64))]⟩,[(.ret,⟨[],[(4,(.i .i64))]⟩),((.exit 0),⟨[],[(1,(.i .i64))]⟩)],λ k x=>Dc k x.1 x.2.1 x.2.2⟩
def B0.d:Fd := { nt:=27,nv:=2,nm:=[0,1,2,3,5],res:=[4],cs:=λ k=>[(167,Hi.e k)],ls:=[(5,Dc.p)],rf:=true }
theorem B0.a (k:Nat):AC (B0.d.cs k):=⟨Hi.s k,trivial⟩
theorem Dc.s:LL Tryz.f138 B0.d 5 Dc.p:=mL [] B0.a trivial (by kernel_rfl) (λ _=>rfl) (λ k x=>by kernel_rfl)
theorem B0.s (k:Nat):CK 138 (B0.e k):=mS B0.d k [5] Tryz.func138 (B0.a k) ⟨Dc.s,trivial⟩ (by kernel_rfl) (λ x=>by kernel_rfl)
def Io.e (k:Nat):Ent:=⟨2,[(.val true t26),(.val false (.i .i64))],[(.one,(.i .i64))],λ x=>Io k x.1 x.2⟩
def Io.d:Fd := { nt:=18,nv:=2,nm:=[0,1,2,3],res:=[4],cs:=λ k=>[(138,B0.e k)],rf:=true }
theorem Io.s (k:Nat):CK 96 (Io.e k):=mS Io.d k [] Tryz.func96 ⟨B0.s k,trivial⟩ trivial (by kernel_rfl) (λ x=>by kernel_rfl)
def Jn.e (k:Nat):Ent:=⟨2,[(.val true t25),(.val false (.i .i64))],[(.one,(.i .i64))],λ x=>Jn x.1 x.2⟩
def Jn.d:Fd := { nt:=13,nv:=2,nm:=[0,1,2,3],res:=[4],rf:=true }
theorem Jn.s (k:Nat):CK 139 (Jn.e k):=mS Jn.d k [] Tryz.func139 trivial trivial (by kernel_rfl) (λ x=>by kernel_rfl)
def Cq.e (k:Nat):Ent:=⟨2,[(.val false t29),(.val false (.i .i64))],[(.one,(.i .i64))],λ x=>Cq k x.1 x.2⟩
def F8.p:LF:=⟨⟨[],[(0,t29),(1,(.i .i64)),(5,(.i .i64))]⟩,[(.ret,⟨[],[(4,(.i .i64))]⟩),((.exit 0),⟨[],[(1,(.i .i64))]⟩)],λ k x=>F8 k x.1 x.2.1 x.2.2⟩
def Cq.d:Fd := { nt:=27,nv:=2,nm:=[0,1,2,3,5],res:=[4],cs:=λ k=>[(139,Jn.e k)],ls:=[(5,F8.p)],rf:=true }
theorem Cq.a (k:Nat):AC (Cq.d.cs k):=⟨Jn.s k,trivial⟩
theorem F8.s:LL Tryz.f97 Cq.d 5 F8.p:=mL [] Cq.a trivial (by kernel_rfl) (λ _=>rfl) (λ k x=>by kernel_rfl)
theorem Cq.s (k:Nat):CK 97 (Cq.e k):=mS Cq.d k [5] Tryz.func97 (Cq.a k) ⟨F8.s,trivial⟩ (by kernel_rfl) (λ x=>by kernel_rfl)
def Ip.e (k:Nat):Ent:=⟨2,[(.val true t36),(.val false (.i .i64))],[(.one,(.i .i64))],λ x=>Ip k x.1 x.2⟩
def Ip.d:Fd := { nt:=24,nv:=2,nm:=[0,1,2,3],res:=[4],cs:=λ k=>[(96,Io.e k),(97,Cq.e k)],rf:=true }
theorem Ip.s (k:Nat):CK 48 (Ip.e k):=mS Ip.d k [] Tryz.func48 ⟨Io.s k,Cq.s k,trivial⟩ trivial (by kernel_rfl) (λ x=>by kernel_rfl)
def C7.e (k:Nat):Ent:=⟨2,[(.val false t38),(.val false (.i .i64))],[(.one,(.i .i64))],λ x=>C7 k x.1 x.2⟩
def E4.p:LF:=⟨⟨[],[(0,t38),(1,(.i .i64)),(5,(.i .i64))]⟩,[(.ret,⟨[],[(4,(.i .i64))]⟩),((.exit 0),⟨[],[(1,(.i .i64))]⟩)],λ k x=>E4 k x.1 x.2.1 x.2.2⟩
def C7.d:Fd := { nt:=27,nv:=2,nm:=[0,1,2,3,5],res:=[4],cs:=λ k=>[(48,Ip.e k)],ls:=[(5,E4.p)],rf:=true }
theorem C7.a (k:Nat):AC (C7.d.cs k):=⟨Ip.s k,trivial⟩
theorem E4.s:LL Tryz.f14 C7.d 5 E4.p:=mL [] C7.a trivial (by kernel_rfl) (λ _=>rfl) (λ k x=>by kernel_rfl)
theorem C7.s (k:Nat):CK 14 (C7.e k):=mS C7.d k [5] Tryz.func14 (C7.a k) ⟨E4.s,trivial⟩ (by kernel_rfl) (λ x=>by kernel_rfl)
def Iq.e (k:Nat):Ent:=⟨2,[(.val true t23),(.val false (.i .i64))],[(.one,(.i .i64))],λ x=>Iq x.1 x.2⟩
def Iq.d:Fd := { nt:=12,nv:=2,nm:=[0,1,2,3],res:=[4],cs:=λ k=>[(140,F3.e k)],rf:=true }
theorem Iq.s (k:Nat):CK 98 (Iq.e k):=mS Iq.d k [] Tryz.func98 ⟨F3.s k,trivial⟩ trivial (by kernel_rfl) (λ x=>by kernel_rfl)
def Hj.e (k:Nat):Ent:=⟨2,[(.val true t32),(.val false (.i .i64))],[(.one,(.i .i64))],λ x=>Hj x.1 x.2⟩
def Hj.d:Fd := { nt:=19,nv:=2,nm:=[0,1,2,3],res:=[4],cs:=λ k=>[(98,Iq.e k)],rf:=true }
theorem Hj.s (k:Nat):CK 49 (Hj.e k):=mS Hj.d k [] Tryz.func49 ⟨Iq.s k,trivial⟩ trivial (by kernel_rfl) (λ x=>by kernel_rfl)
def B9.e (k:Nat):Ent:=⟨2,[(.val false t33),(.val false (.i .i64))],[(.one,(.i .i64))],λ x=>B9 k x.1 x.2⟩
def Dd.p:LF:=⟨⟨[],[(0,t33),(1,(.i .i64)),(5,(.i .i64))]⟩,[(.ret,⟨[],[(4,(.i .i64))]⟩),((.exit 0),⟨[],[(1,(.i .i64))]⟩)],λ k x=>Dd k x.1 x.2.1 x.2.2⟩
def B9.d:Fd := { nt:=27,nv:=2,nm:=[0,1,2,3,5],res:=[4],cs:=λ k=>[(49,Hj.e k)],ls:=[(5,Dd.p)],rf:=true }
theorem B9.a (k:Nat):AC (B9.d.cs k):=⟨Hj.s k,trivial⟩
theorem Dd.s:LL Tryz.f15 B9.d 5 Dd.p:=mL [] B9.a trivial (by kernel_rfl) (λ _=>rfl) (λ k x=>by kernel_rfl)
theorem B9.s (k:Nat):CK 15 (B9.e k):=mS B9.d k [5] Tryz.func15 (B9.a k) ⟨Dd.s,trivial⟩ (by kernel_rfl) (λ x=>by kernel_rfl)
def De.e (k:Nat):Ent:=⟨2,[(.val false t0),(.val false (.i .i64))],[(.one,(.i .i64))],λ x=>De k x.1 x.2⟩
def C3.p:LF:=⟨⟨[],[(0,t0),(1,(.i .i64)),(5,(.i .i64))]⟩,[(.ret,⟨[],[(4,(.i .i64))]⟩),((.exit 0),⟨[],[(1,(.i .i64))]⟩)],λ k x=>C3 k x.1 x.2.1 x.2.2⟩
def De.d:Fd := { nt:=28,nv:=2,nm:=[0,1,2,3,5],res:=[4],ls:=[(5,C3.p)],rf:=true }
theorem C3.s:LL Tryz.f16 De.d 5 C3.p:=mL [] (λ _=>trivial) trivial (by kernel_rfl) (λ _=>rfl) (λ k x=>by kernel_rfl)
theorem De.s (k:Nat):CK 16 (De.e k):=mS De.d k [5] Tryz.func16 trivial ⟨C3.s,trivial⟩ (by kernel_rfl) (λ x=>by kernel_rfl)
def Dq.e (k:Nat):Ent:=⟨2,[(.val true t41),(.val false (.i .i64))],[(.one,(.i .i64))],λ x=>Dq k x.1 x.2⟩
def Dq.d:Fd := { nt:=36,nv:=2,nm:=[0,1,2,3],res:=[4],cs:=λ k=>[(12,Ij.e k),(13,Im.e k),(14,C7.e k),(15,B9.e k),(16,De.e k)],rf:=true }
theorem Dq.s (k:Nat):CK 5 (Dq.e k):=mS Dq.d k [] Tryz.func5 ⟨Ij.s k,Im.s k,C7.s k,B9.s k,De.s k,trivial⟩ trivial (by kernel_rfl) (λ x=>by kernel_rfl)
def Am.e (k:Nat):Ent:=⟨3,[(.val false (.i .i64)),(.val false (.i .i64)),(.val false (.i .i64))],[(.one,.b)],λ x=>Am x.1 x.2.1 x.2.2⟩
def Am.d:Fd := { nt:=15,nv:=3,nm:=[0,1,2,3,4,5],res:=[6] }
theorem Am.s (k:Nat):CK 100 (Am.e k):=mS Am.d k [] Tryz.func100 trivial trivial (by kernel_rfl) (λ x=>by kernel_rfl)
def F9.e (k:Nat):Ent:=⟨1,[(.val false t20)],[(.one,.b)],λ x=>F9 k x⟩
def Gc.p:LF:=⟨⟨[],[(0,t20),(3,(.i .i64))]⟩,[(.ret,⟨[],[(2,.b)]⟩),((.exit 0),⟨[],[(0,t20)]⟩)],λ k x=>Gc k x.1 x.2⟩
def F9.d:Fd := { nt:=49,nv:=1,nm:=[0,1,3,4],res:=[2],cs:=λ k=>[(100,Am.e k)],ls:=[(2,Gc.p)],rf:=true }
theorem F9.a (k:Nat):AC (F9.d.cs k):=⟨Am.s k,trivial⟩
theorem Gc.s:LL Tryz.f99 F9.d 2 Gc.p:=mL [] F9.a trivial (by kernel_rfl) (λ _=>rfl) (λ k x=>by kernel_rfl)
theorem F9.s (k:Nat):CK 99 (F9.e k):=mS F9.d k [2] Tryz.func99 (F9.a k) ⟨Gc.s,trivial⟩ (by kernel_rfl) (λ x=>by kernel_rfl)
def Dx.e (k:Nat):Ent:=⟨2,[(.val false t4),(.val false (.i .i64))],[(.one,.b)],λ x=>Dx k x.1 x.2⟩
def Fa.p:LF:=⟨⟨[],[(0,t4),(1,(.i .i64)),(5,(.i .i64))]⟩,[(.ret,⟨[],[(4,.b)]⟩),((.exit 0),⟨[],[]⟩)],λ k x=>Fa k x.1 x.2.1 x.2.2⟩
def Dx.d:Fd := { nt:=18,nv:=2,nm:=[0,1,2,3,5],res:=[4],ls:=[(2,Fa.p)],rf:=true }
theorem Fa.s:LL Tryz.f42 Dx.d 2 Fa.p:=mL [] (λ _=>trivial) trivial (by kernel_rfl) (λ _=>rfl) (λ k x=>by kernel_rfl)
theorem Dx.s (k:Nat):CK 42 (Dx.e k):=mS Dx.d k [2] Tryz.func42 trivial ⟨Fa.s,trivial⟩ (by kernel_rfl) (λ x=>by kernel_rfl)
def Fb.e (k:Nat):Ent:=⟨2,[(.val true t4),(.val false (.i .i64))],[(.one,.b)],λ x=>Fb k x.1 x.2⟩
def Hk.p:LF:=⟨⟨[(2,(.bp 2 0 0)),(3999,(.hd 1))],[(1,(.i .i64)),(5,(.i .i64)),(3000,t4)]⟩,[(.ret,⟨[],[(4,.b)]⟩),((.exit 0),⟨[(2,(.bp 2 0 0)),(3999,(.hd 1))],[(1,(.i .i64)),(3000,t4)]⟩)],λ k x=>Hk k x.1 x.2.1 x.2.2⟩
def Fb.d:Fd := { nt:=28,nv:=2,nm:=[0,1,2,3,5],res:=[4],cs:=λ k=>[(42,Dx.e k)],ls:=[(2,Hk.p)],rf:=true }
theorem Fb.a (k:Nat):AC (Fb.d.cs k):=⟨Dx.s k,trivial⟩
theorem Hk.s:LL Tryz.f101 Fb.d 2 Hk.p:=mL [] Fb.a trivial (by kernel_rfl) (λ _=>rfl) (λ k x=>by kernel_rfl)
theorem Fb.s (k:Nat):CK 101 (Fb.e k):=mS Fb.d k [2] Tryz.func101 (Fb.a k) ⟨Hk.s,trivial⟩ (by kernel_rfl) (λ x=>by kernel_rfl)
def Jo.e (k:Nat):Ent:=⟨2,[(.val false t20),(.val false (.i .i64))],[(.agg,t14),(.one,.b)],λ x=>Jo k x.1 x.2⟩
def Ib.p:LF:=⟨⟨[(4,(.bp 4 0 0)),(5999,(.hd 3))],[(0,t20),(1,(.i .i64)),(6,(.i .i64)),(5000,t14)]⟩,[(.ret,⟨[(4,(.bp 4 0 0)),(5999,(.hd 3))],[(5,.b),(5000,t14)]⟩),((.exit 0),⟨[(4,(.bp 4 0 0)),(5999,(.hd 3))],[(5000,t14)]⟩)],λ k x=>Ib k x.1 x.2.1 x.2.2.1 x.2.2.2⟩
def Jo.d:Fd := { nt:=25,nv:=2,nm:=[0,1,2,3,6],res:=[5],ls:=[(2,Ib.p)],rf:=true }
theorem Ib.s:LL Tryz.f102 Jo.d 2 Ib.p:=mL [] (λ _=>trivial) trivial (by kernel_rfl) (λ _=>rfl) (λ k x=>by kernel_rfl)
theorem Jo.s (k:Nat):CK 102 (Jo.e k):=mS Jo.d k [2] Tryz.func102 trivial ⟨Ib.s,trivial⟩ (by kernel_rfl) (λ x=>by kernel_rfl)
def Dk.e (k:Nat):Ent:=⟨2,[(.val true t16),(.val false t20)],[(.one,.b)],λ x=>Dk k x.1 x.2⟩
def Hl.p:LF:=⟨⟨[(2,(.bp 2 0 0)),(3999,(.hd 2))],[(1,t20),(5,(.i .i64)),(6,(.i .i64)),(3000,t16)]⟩,[(.ret,⟨[],[(4,.b)]⟩),((.exit 2),⟨[(2,(.bp 2 0 0)),(3999,(.hd 2))],[(1,t20),(5,(.i .i64)),(3000,t16)]⟩)],λ k x=>Hl k x.1 x.2.1 x.2.2.1 x.2.2.2⟩
def Hm.p:LF:=⟨⟨[(2,(.bp 2 0 0)),(3999,(.hd 2))],[(1,t20),(5,(.i .i64)),(3000,t16)]⟩,[(.ret,⟨[],[(4,.b)]⟩),((.exit 0),⟨[],[]⟩)],λ k x=>Hm k x.1 x.2.1 x.2.2⟩
def Dk.d:Fd := { nt:=68,nv:=2,nm:=[0,1,2,3,5,6,7,8],res:=[4],cs:=λ k=>[(99,F9.e k),(100,Am.e k),(101,Fb.e k),(102,Jo.e k)],ls:=[(9,Hl.p),(4,Hm.p)],rf:=true }
theorem Dk.a (k:Nat):AC (Dk.d.cs k):=⟨F9.s k,Am.s k,Fb.s k,Jo.s k,trivial⟩
theorem Hl.s:LL Tryz.f50 Dk.d 9 Hl.p:=mL [] Dk.a trivial (by kernel_rfl) (λ _=>rfl) (λ k x=>by kernel_rfl)
theorem Hm.s:LL Tryz.f50 Dk.d 4 Hm.p:=mL [9] Dk.a ⟨Hl.s,trivial⟩ (by kernel_rfl) (λ _=>rfl) (λ k x=>by kernel_rfl)
theorem Dk.s (k:Nat):CK 50 (Dk.e k):=mS Dk.d k [4] Tryz.func50 (Dk.a k) ⟨Hm.s,trivial⟩ (by kernel_rfl) (λ x=>by kernel_rfl)
def Bq.e (k:Nat):Ent:=⟨1,[(.val true t14)],[(.one,.b)],λ x=>Bq x⟩
def Bq.d:Fd := { nt:=16,nv:=1,nm:=[0,1],res:=[2],cs:=λ k=>[(100,Am.e k)] }
theorem Bq.s (k:Nat):CK 52 (Bq.e k):=mS Bq.d k [] Tryz.func52 ⟨Am.s k,trivial⟩ trivial (by kernel_rfl) (λ x=>by kernel_rfl)
def B6.e (k:Nat):Ent:=⟨1,[(.val false .s)],[(.one,.b)],λ x=>B6 k x⟩
def Df.p:LF:=⟨⟨[],[(0,.s),(3,(.i .i64))]⟩,[(.ret,⟨[],[(2,.b)]⟩),((.exit 0),⟨[],[(0,.s)]⟩)],λ k x=>Df k x.1 x.2⟩
def B6.d:Fd := { nt:=38,nv:=1,nm:=[0,1,3,4],res:=[2],cs:=λ k=>[(100,Am.e k)],ls:=[(2,Df.p)] }
theorem B6.a (k:Nat):AC (B6.d.cs k):=⟨Am.s k,trivial⟩
theorem Df.s:LL Tryz.f53 B6.d 2 Df.p:=mL [] B6.a trivial (by kernel_rfl) (λ _=>rfl) (λ k x=>by kernel_rfl)
theorem B6.s (k:Nat):CK 53 (B6.e k):=mS B6.d k [2] Tryz.func53 (B6.a k) ⟨Df.s,trivial⟩ (by kernel_rfl) (λ x=>by kernel_rfl)
def Hb.e (k:Nat):Ent:=⟨1,[(.val true t25)],[(.one,.b)],λ x=>Hb k x⟩
def Hb.d:Fd := { nt:=26,nv:=1,nm:=[0,1],res:=[2],cs:=λ k=>[(52,Bq.e k),(53,B6.e k),(100,Am.e k)] }
theorem Hb.s (k:Nat):CK 141 (Hb.e k):=mS Hb.d k [] Tryz.func141 ⟨Bq.s k,B6.s k,Am.s k,trivial⟩ trivial (by kernel_rfl) (λ x=>by kernel_rfl)
def Ew.e (k:Nat):Ent:=⟨1,[(.val false t12)],[(.one,.b)],λ x=>Ew k x⟩
def Gd.p:LF:=⟨⟨[],[(0,t12),(3,(.i .i64))]⟩,[(.ret,⟨[],[(2,.b)]⟩),((.exit 0),⟨[],[(0,t12)]⟩)],λ k x=>Gd k x.1 x.2⟩
def Ew.d:Fd := { nt:=47,nv:=1,nm:=[0,1,3],res:=[2],cs:=λ k=>[(53,B6.e k)],ls:=[(2,Gd.p)] }
theorem Ew.a (k:Nat):AC (Ew.d.cs k):=⟨B6.s k,trivial⟩
theorem Gd.s:LL Tryz.f168 Ew.d 2 Gd.p:=mL [] Ew.a trivial (by kernel_rfl) (λ _=>rfl) (λ k x=>by kernel_rfl)
theorem Ew.s (k:Nat):CK 168 (Ew.e k):=mS Ew.d k [2] Tryz.func168 (Ew.a k) ⟨Gd.s,trivial⟩ (by kernel_rfl) (λ x=>by kernel_rfl)
def Jh.e (k:Nat):Ent:=⟨1,[(.val true t27)],[(.one,.b)],λ x=>Jh k x⟩
def Jh.d:Fd := { nt:=11,nv:=1,nm:=[0,1],res:=[2],cs:=λ k=>[(168,Ew.e k)] }
theorem Jh.s (k:Nat):CK 142 (Jh.e k):=mS Jh.d k [] Tryz.func142 ⟨Ew.s k,trivial⟩ trivial (by kernel_rfl) (λ x=>by kernel_rfl)
def Fc.e (k:Nat):Ent:=⟨1,[(.val false t30)],[(.one,.b)],λ x=>Fc k x⟩
def Ge.p:LF:=⟨⟨[],[(0,t30),(3,(.i .i64))]⟩,[(.ret,⟨[],[(2,.b)]⟩),((.exit 0),⟨[],[(0,t30)]⟩)],λ k x=>Ge k x.1 x.2⟩
def Fc.d:Fd := { nt:=37,nv:=1,nm:=[0,1,3],res:=[2],cs:=λ k=>[(141,Hb.e k)],ls:=[(2,Ge.p)] }
theorem Fc.a (k:Nat):AC (Fc.d.cs k):=⟨Hb.s k,trivial⟩
theorem Ge.s:LL Tryz.f143 Fc.d 2 Ge.p:=mL [] Fc.a trivial (by kernel_rfl) (λ _=>rfl) (λ k x=>by kernel_rfl)
theorem Fc.s (k:Nat):CK 143 (Fc.e k):=mS Fc.d k [2] Tryz.func143 (Fc.a k) ⟨Ge.s,trivial⟩ (by kernel_rfl) (λ x=>by kernel_rfl)
def Fe.e (k:Nat):Ent:=⟨1,[(.val true t37)],[(.one,.b)],λ x=>Fe k x⟩
def Hn.p:LF:=⟨⟨[(1,(.bp 1 0 0)),(2999,(.hd 5))],[(3,(.i .i64)),(2000,(.i .i64)),(2001,t12),(2002,t12),(2003,t30),(2004,t30)]⟩,[(.ret,⟨[],[(2,.b)]⟩),((.exit 0),⟨[(1,(.bp 1 0 0)),(2999,(.hd 5))],[(2000,(.i .i64)),(2001,t12),(2002,t12),(2003,t30),(2004,t30)]⟩)],λ k x=>Hn k x.1 x.2.1 x.2.2.1 x.2.2.2.1 x.2.2.2.2.1 x.2.2.2.2.2⟩
def Fe.d:Fd := { nt:=37,nv:=1,nm:=[0,1,3],res:=[2],cs:=λ k=>[(100,Am.e k),(141,Hb.e k),(142,Jh.e k),(143,Fc.e k)],ls:=[(2,Hn.p)] }
theorem Fe.a (k:Nat):AC (Fe.d.cs k):=⟨Am.s k,Hb.s k,Jh.s k,Fc.s k,trivial⟩
theorem Hn.s:LL Tryz.f103 Fe.d 2 Hn.p:=mL [] Fe.a trivial (by kernel_rfl) (λ _=>rfl) (λ k x=>by kernel_rfl)
theorem Fe.s (k:Nat):CK 103 (Fe.e k):=mS Fe.d k [2] Tryz.func103 (Fe.a k) ⟨Hn.s,trivial⟩ (by kernel_rfl) (λ x=>by kernel_rfl)
def Cj.e (k:Nat):Ent:=⟨1,[(.val true t42)],[(.one,.b)],λ x=>Cj k x⟩
def G3.p:LF:=⟨⟨[(1,(.bp 1 0 0)),(2999,(.hd 9))],[(3,(.i .i64)),(2000,t42)]⟩,[(.ret,⟨[],[(2,.b)]⟩),((.exit 0),⟨[],[]⟩)],λ k x=>G3 k x.1 x.2⟩
def Cj.d:Fd := { nt:=40,nv:=1,nm:=[0,1,3],res:=[2],cs:=λ k=>[(103,Fe.e k)],ls:=[(4,G3.p)],rf:=true }
theorem Cj.a (k:Nat):AC (Cj.d.cs k):=⟨Fe.s k,trivial⟩
theorem G3.s:LL Tryz.f51 Cj.d 4 G3.p:=mL [] Cj.a trivial (by kernel_rfl) (λ _=>rfl) (λ k x=>by kernel_rfl)
theorem Cj.s (k:Nat):CK 51 (Cj.e k):=mS Cj.d k [4] Tryz.func51 (Cj.a k) ⟨G3.s,trivial⟩ (by kernel_rfl) (λ x=>by kernel_rfl)
def Cr.e (k:Nat):Ent:=⟨1,[(.val true t23)],[(.one,.b)],λ x=>Cr x⟩
def Cr.d:Fd := { nt:=23,nv:=1,nm:=[0,1],res:=[2],cs:=λ k=>[(52,Bq.e k)] }
theorem Cr.s (k:Nat):CK 54 (Cr.e k):=mS Cr.d k [] Tryz.func54 ⟨Bq.s k,trivial⟩ trivial (by kernel_rfl) (λ x=>by kernel_rfl)
def An.e (k:Nat):Ent:=⟨2,[(.val true t14),(.val true t14)],[(.one,.b)],λ x=>An x.1 x.2⟩
def An.d:Fd := { nt:=32,nv:=2,nm:=[0,1,2,3],res:=[4] }
theorem An.s (k:Nat):CK 55 (An.e k):=mS An.d k [] Tryz.func55 trivial trivial (by kernel_rfl) (λ x=>by kernel_rfl)
def C8.e (k:Nat):Ent:=⟨1,[(.val true t42)],[(.one,.b)],λ x=>C8 k x⟩
def Ek.p:LF:=⟨⟨[(1,(.bp 1 0 0)),(2999,(.hd 9))],[(5,(.i .i64)),(2000,t42)]⟩,[(.ret,⟨[],[(2,.b)]⟩),((.exit 2),⟨[],[]⟩)],λ k x=>Ek k x.1 x.2⟩
def Gl.p:LF:=⟨⟨[(1,(.bp 1 0 0)),(2999,(.hd 9))],[(3,(.i .i64)),(2000,t42)]⟩,[(.ret,⟨[],[(2,.b)]⟩),((.exit 0),⟨[(1,(.bp 1 0 0)),(2999,(.hd 9))],[(2000,t42)]⟩)],λ k x=>Gl k x.1 x.2⟩
def C8.d:Fd := { nt:=91,nv:=1,nm:=[0,1,3,4,5],res:=[2],cs:=λ k=>[(50,Dk.e k),(51,Cj.e k),(52,Bq.e k),(53,B6.e k),(54,Cr.e k),(55,An.e k)],ls:=[(10,Ek.p),(4,Gl.p)],rf:=true }
theorem C8.a (k:Nat):AC (C8.d.cs k):=⟨Dk.s k,Cj.s k,Bq.s k,B6.s k,Cr.s k,An.s k,trivial⟩
theorem Ek.s:LL Tryz.f17 C8.d 10 Ek.p:=mL [] C8.a trivial (by kernel_rfl) (λ _=>rfl) (λ k x=>by kernel_rfl)
theorem Gl.s:LL Tryz.f17 C8.d 4 Gl.p:=mL [] C8.a trivial (by kernel_rfl) (λ _=>rfl) (λ k x=>by kernel_rfl)
theorem C8.s (k:Nat):CK 17 (C8.e k):=mS C8.d k [4,10] Tryz.func17 (C8.a k) ⟨Gl.s,Ek.s,trivial⟩ (by kernel_rfl) (λ x=>by kernel_rfl)
def Be.e (k:Nat):Ent:=⟨2,[(.val false t2),(.val false (.i .i64))],[(.one,(.i .i64)),(.one,(.i .i64)),(.one,.b)],λ x=>Be k x.1 x.2⟩
def C4.p:LF:=⟨⟨[],[(0,t2),(1,(.i .i64)),(7,(.i .i64)),(8,(.i .i64))]⟩,[(.ret,⟨[],[(4,(.i .i64)),(5,(.i .i64)),(6,.b)]⟩),((.exit 0),⟨[],[]⟩)],λ k x=>C4 k x.1 x.2.1 x.2.2.1 x.2.2.2⟩
def Be.d:Fd := { nt:=64,nv:=2,nm:=[0,1,2,3,7,8,9],res:=[4,5,6],ls:=[(3,C4.p)] }
theorem C4.s:LL Tryz.f129 Be.d 3 C4.p:=mL [] (λ _=>trivial) trivial (by kernel_rfl) (λ _=>rfl) (λ k x=>by kernel_rfl)
theorem Be.s (k:Nat):CK 129 (Be.e k):=mS Be.d k [3] Tryz.func129 trivial ⟨C4.s,trivial⟩ (by kernel_rfl) (λ x=>by kernel_rfl)
def Cs.e (k:Nat):Ent:=⟨2,[(.val false t2),(.val false (.i .i64))],[(.agg,t14),(.one,(.i .i64)),(.one,.b)],λ x=>Cs k x.1 x.2⟩
def Cs.d:Fd := { nt:=49,nv:=2,nm:=[0,1,2,3,7,8,9,10,11,12,13,14,15],res:=[5,6],cs:=λ k=>[(129,Be.e k)] }
theorem Cs.s (k:Nat):CK 128 (Cs.e k):=mS Cs.d k [] Tryz.func128 ⟨Be.s k,trivial⟩ trivial (by kernel_rfl) (λ x=>by kernel_rfl)
def Gn.e (k:Nat):Ent:=⟨2,[(.val false t2),(.val false (.i .i64))],[(.one,.s),(.one,(.i .i64)),(.one,.b)],λ x=>Gn k x.1 x.2⟩
def Gn.d:Fd := { nt:=37,nv:=2,nm:=[0,1,2,3,7,8,9],res:=[4,5,6],cs:=λ k=>[(129,Be.e k)] }
theorem Gn.s (k:Nat):CK 130 (Gn.e k):=mS Gn.d k [] Tryz.func130 ⟨Be.s k,trivial⟩ trivial (by kernel_rfl) (λ x=>by kernel_rfl)
def Bf.e (k:Nat):Ent:=⟨2,[(.val false t2),(.val false (.i .i64))],[(.one,t3)],λ x=>Bf k x.1 x.2⟩
def B7.p:LF:=⟨⟨[],[(1,(.i .i64)),(5,t3)]⟩,[((.exit 0),⟨[],[(1,(.i .i64)),(5,t3)]⟩)],λ k x=>B7 k x.1 x.2⟩
def Bf.d:Fd := { nt:=29,nv:=2,nm:=[0,1,2,3,5],res:=[4],ls:=[(6,B7.p)] }
theorem B7.s:LL Tryz.f160 Bf.d 6 B7.p:=mL [] (λ _=>trivial) trivial (by kernel_rfl) (λ _=>rfl) (λ k x=>by kernel_rfl)
theorem Bf.s (k:Nat):CK 160 (Bf.e k):=mS Bf.d k [6] Tryz.func160 trivial ⟨B7.s,trivial⟩ (by kernel_rfl) (λ x=>by kernel_rfl)
def Gp.e (k:Nat):Ent:=⟨2,[(.val false t2),(.val false .s)],[(.one,t3)],λ x=>Gp k x.1 x.2⟩
def Gp.d:Fd := { nt:=11,nv:=2,nm:=[0,1,2,3],res:=[4],cs:=λ k=>[(160,Bf.e k)] }
theorem Gp.s (k:Nat):CK 159 (Gp.e k):=mS Gp.d k [] Tryz.func159 ⟨Bf.s k,trivial⟩ trivial (by kernel_rfl) (λ x=>by kernel_rfl)
def Gq.e (k:Nat):Ent:=⟨2,[(.val false t2),(.val true t14)],[(.one,t3)],λ x=>Gq k x.1 x.2⟩
def Gq.d:Fd := { nt:=15,nv:=2,nm:=[0,1,2,3],res:=[4],cs:=λ k=>[(160,Bf.e k)] }
theorem Gq.s (k:Nat):CK 161 (Gq.e k):=mS Gq.d k [] Tryz.func161 ⟨Bf.s k,trivial⟩ trivial (by kernel_rfl) (λ x=>by kernel_rfl)
def Ir.e (k:Nat):Ent:=⟨1,[(.val false .b)],[(.one,(.i .i64))],λ x=>Ir x⟩
def Ir.d:Fd := { nt:=4,nv:=1,nm:=[0,1],res:=[2] }
theorem Ir.s (k:Nat):CK 162 (Ir.e k):=mS Ir.d k [] Tryz.func162 trivial trivial (by kernel_rfl) (λ x=>by kernel_rfl)
def Kd.e (k:Nat):Ent:=⟨1,[(.val false t2)],[(.one,(.i .i64))],λ x=>Kd k x⟩
def Hc.p:LF:=⟨⟨[],[(0,t2),(3,(.i .i64)),(4,(.i .i64)),(5,(.i .i64))]⟩,[((.exit 2),⟨[],[(0,t2),(3,(.i .i64)),(4,(.i .i64))]⟩)],λ k x=>Hc k x.1 x.2.1 x.2.2.1 x.2.2.2⟩
def I2.p:LF:=⟨⟨[],[(0,t2),(3,(.i .i64)),(4,(.i .i64))]⟩,[((.exit 0),⟨[],[(3,(.i .i64))]⟩)],λ k x=>I2 k x.1 x.2.1 x.2.2⟩
def Kd.d:Fd := { nt:=34,nv:=1,nm:=[0,1,3,4,5,6],res:=[2],ls:=[(7,Hc.p),(3,I2.p)] }
theorem Hc.s:LL Tryz.f163 Kd.d 7 Hc.p:=mL [] (λ _=>trivial) trivial (by kernel_rfl) (λ _=>rfl) (λ k x=>by kernel_rfl)
theorem I2.s:LL Tryz.f163 Kd.d 3 I2.p:=mL [7] (λ _=>trivial) ⟨Hc.s,trivial⟩ (by kernel_rfl) (λ _=>rfl) (λ k x=>by kernel_rfl)
theorem Kd.s (k:Nat):CK 163 (Kd.e k):=mS Kd.d k [3] Tryz.func163 trivial ⟨I2.s,trivial⟩ (by kernel_rfl) (λ x=>by kernel_rfl)
def Gr.e (k:Nat):Ent:=⟨1,[(.val true t23)],[(.one,t3)],λ x=>Gr k x⟩
def Gr.d:Fd := { nt:=37,nv:=1,nm:=[0,1,3,4],res:=[2],cs:=λ k=>[(54,Cr.e k),(159,Gp.e k),(160,Bf.e k),(161,Gq.e k),(162,Ir.e k),(163,Kd.e k)] }
theorem Gr.s (k:Nat):CK 131 (Gr.e k):=mS Gr.d k [] Tryz.func131 ⟨Cr.s k,Gp.s k,Bf.s k,Gq.s k,Ir.s k,Kd.s k,trivial⟩ trivial (by kernel_rfl) (λ x=>by kernel_rfl)
def As.e (k:Nat):Ent:=⟨1,[(.val false t2)],[(.agg,t24),(.one,.b)],λ x=>As k x⟩
def As.d:Fd := { nt:=76,nv:=1,nm:=[0,1,4,5,6,7,8,9,10,11,12,13],res:=[3],cs:=λ k=>[(54,Cr.e k),(128,Cs.e k),(129,Be.e k),(130,Gn.e k),(131,Gr.e k)],mv:=[75] }
theorem As.s (k:Nat):CK 82 (As.e k):=mS As.d k [] Tryz.func82 ⟨Cr.s k,Cs.s k,Be.s k,Gn.s k,Gr.s k,trivial⟩ trivial (by kernel_rfl) (λ x=>by kernel_rfl)
def Ff.e (k:Nat):Ent:=⟨2,[(.val true t23),(.val true t23)],[(.one,.b)],λ x=>Ff x.1 x.2⟩
def Ff.d:Fd := { nt:=26,nv:=2,nm:=[0,1,2,3],res:=[4],rf:=true }
theorem Ff.s (k:Nat):CK 86 (Ff.e k):=mS Ff.d k [] Tryz.func86 trivial trivial (by kernel_rfl) (λ x=>by kernel_rfl)
def Ck.e (k:Nat):Ent:=⟨3,[(.val true t42),(.val false .s),(.val true t23)],[(.one,.b)],λ x=>Ck k x.1 x.2.1 x.2.2⟩
def El.p:LF:=⟨⟨[(3,(.bp 3 0 0)),(5,(.bp 5 0 0)),(4999,(.hd 9)),(6999,(.hd 5))],[(1,.s),(7,(.i .i64)),(4000,t42),(6000,t23)]⟩,[(.ret,⟨[],[(6,.b)]⟩),((.exit 0),⟨[],[]⟩)],λ k x=>El k x.1 x.2.1 x.2.2.1 x.2.2.2⟩
def Ck.d:Fd := { nt:=33,nv:=3,nm:=[0,1,2,3,4,5,7],res:=[6],cs:=λ k=>[(86,Ff.e k)],ls:=[(2,El.p)],rf:=true }
theorem Ck.a (k:Nat):AC (Ck.d.cs k):=⟨Ff.s k,trivial⟩
theorem El.s:LL Tryz.f104 Ck.d 2 El.p:=mL [] Ck.a trivial (by kernel_rfl) (λ _=>rfl) (λ k x=>by kernel_rfl)
theorem Ck.s (k:Nat):CK 104 (Ck.e k):=mS Ck.d k [2] Tryz.func104 (Ck.a k) ⟨El.s,trivial⟩ (by kernel_rfl) (λ x=>by kernel_rfl)
def Ct.e (k:Nat):Ent:=⟨2,[(.val true t42),(.val false t12)],[(.one,.b)],λ x=>Ct k x.1 x.2⟩
def Fg.p:LF:=⟨⟨[(2,(.bp 2 0 0)),(3999,(.hd 9))],[(1,t12),(5,(.i .i64)),(3000,t42)]⟩,[(.ret,⟨[],[(4,.b)]⟩),((.exit 0),⟨[],[]⟩)],λ k x=>Fg k x.1 x.2.1 x.2.2⟩
def Ct.d:Fd := { nt:=35,nv:=2,nm:=[0,1,2,3,5,6,7],res:=[4],cs:=λ k=>[(82,As.e k),(104,Ck.e k)],ls:=[(2,Fg.p)],rf:=true }
theorem Ct.a (k:Nat):AC (Ct.d.cs k):=⟨As.s k,Ck.s k,trivial⟩
theorem Fg.s:LL Tryz.f56 Ct.d 2 Fg.p:=mL [] Ct.a trivial (by kernel_rfl) (λ _=>rfl) (λ k x=>by kernel_rfl)
theorem Ct.s (k:Nat):CK 56 (Ct.e k):=mS Ct.d k [2] Tryz.func56 (Ct.a k) ⟨Fg.s,trivial⟩ (by kernel_rfl) (λ x=>by kernel_rfl)
def Dr.e (k:Nat):Ent:=⟨1,[(.val true t42)],[(.one,.b)],λ x=>Dr k x⟩
def Gt.p:LF:=⟨⟨[(1,(.bp 1 0 0)),(2999,(.hd 9))],[(3,(.i .i64)),(2000,t42)]⟩,[(.ret,⟨[],[(2,.b)]⟩),((.exit 0),⟨[],[]⟩)],λ k x=>Gt k x.1 x.2⟩
def Dr.d:Fd := { nt:=33,nv:=1,nm:=[0,1,3],res:=[2],cs:=λ k=>[(56,Ct.e k)],ls:=[(2,Gt.p)],rf:=true }
theorem Dr.a (k:Nat):AC (Dr.d.cs k):=⟨Ct.s k,trivial⟩
theorem Gt.s:LL Tryz.f18 Dr.d 2 Gt.p:=mL [] Dr.a trivial (by kernel_rfl) (λ _=>rfl) (λ k x=>by kernel_rfl)
theorem Dr.s (k:Nat):CK 18 (Dr.e k):=mS Dr.d k [2] Tryz.func18 (Dr.a k) ⟨Gt.s,trivial⟩ (by kernel_rfl) (λ x=>by kernel_rfl)
def Ke.e (k:Nat):Ent:=⟨2,[(.val false .s),(.val true t23)],[(.agg,t25)],λ x=>Ke x.1 x.2⟩
def Ke.d:Fd := { nt:=14,nv:=2,nm:=[0,1,2,3],res:=[] }
theorem Ke.s (k:Nat):CK 105 (Ke.e k):=mS Ke.d k [] Tryz.func105 trivial trivial (by kernel_rfl) (λ x=>by kernel_rfl)
def Br.e (k:Nat):Ent:=⟨2,[(.val true t42),(.val false t30)],[(.one,.b)],λ x=>Br k x.1 x.2⟩
def Fh.p:LF:=⟨⟨[(2,(.bp 2 0 0)),(3999,(.hd 9))],[(1,t30),(5,(.i .i64)),(6,.b),(7,(.i .i64)),(3000,t42)]⟩,[((.exit 2),⟨[(2,(.bp 2 0 0)),(3999,(.hd 9))],[(1,t30),(5,(.i .i64)),(6,.b),(3000,t42)]⟩)],λ k x=>Fh k x.1 x.2.1 x.2.2.1 x.2.2.2.1 x.2.2.2.2⟩
def Gu.p:LF:=⟨⟨[(2,(.bp 2 0 0)),(3999,(.hd 9))],[(1,t30),(5,(.i .i64)),(3000,t42)]⟩,[(.ret,⟨[],[(4,.b)]⟩),((.exit 0),⟨[],[]⟩)],λ k x=>Gu k x.1 x.2.1 x.2.2⟩
def Br.d:Fd := { nt:=44,nv:=2,nm:=[0,1,2,3,5,6,7],res:=[4],cs:=λ k=>[(105,Ke.e k)],ls:=[(6,Fh.p),(2,Gu.p)],rf:=true }
theorem Br.a (k:Nat):AC (Br.d.cs k):=⟨Ke.s k,trivial⟩
theorem Fh.s:LL Tryz.f57 Br.d 6 Fh.p:=mL [] Br.a trivial (by kernel_rfl) (λ _=>rfl) (λ k x=>by kernel_rfl)
theorem Gu.s:LL Tryz.f57 Br.d 2 Gu.p:=mL [6] Br.a ⟨Fh.s,trivial⟩ (by kernel_rfl) (λ _=>rfl) (λ k x=>by kernel_rfl)
theorem Br.s (k:Nat):CK 57 (Br.e k):=mS Br.d k [2] Tryz.func57 (Br.a k) ⟨Gu.s,trivial⟩ (by kernel_rfl) (λ x=>by kernel_rfl)
def Fi.e (k:Nat):Ent:=⟨1,[(.val true t42)],[(.one,.b)],λ x=>Fi k x⟩
def Ho.p:LF:=⟨⟨[(1,(.bp 1 0 0)),(2999,(.hd 9))],[(3,(.i .i64)),(2000,t42)]⟩,[(.ret,⟨[],[(2,.b)]⟩),((.exit 0),⟨[],[]⟩)],λ k x=>Ho k x.1 x.2⟩
def Fi.d:Fd := { nt:=31,nv:=1,nm:=[0,1,3],res:=[2],cs:=λ k=>[(57,Br.e k)],ls:=[(2,Ho.p)],rf:=true }
theorem Fi.a (k:Nat):AC (Fi.d.cs k):=⟨Br.s k,trivial⟩
theorem Ho.s:LL Tryz.f19 Fi.d 2 Ho.p:=mL [] Fi.a trivial (by kernel_rfl) (λ _=>rfl) (λ k x=>by kernel_rfl)
theorem Fi.s (k:Nat):CK 19 (Fi.e k):=mS Fi.d k [2] Tryz.func19 (Fi.a k) ⟨Ho.s,trivial⟩ (by kernel_rfl) (λ x=>by kernel_rfl)
def Ey.e (k:Nat):Ent:=⟨2,[(.val false t0),(.val false .s)],[(.one,.b)],λ x=>Ey k x.1 x.2⟩
def E5.p:LF:=⟨⟨[],[(0,t0),(1,.s),(5,(.i .i64))]⟩,[(.ret,⟨[],[(4,.b)]⟩),((.exit 0),⟨[],[]⟩)],λ k x=>E5 k x.1 x.2.1 x.2.2⟩
def Ey.d:Fd := { nt:=18,nv:=2,nm:=[0,1,2,3,5],res:=[4],ls:=[(2,E5.p)],rf:=true }
theorem E5.s:LL Tryz.f58 Ey.d 2 E5.p:=mL [] (λ _=>trivial) trivial (by kernel_rfl) (λ _=>rfl) (λ k x=>by kernel_rfl)
theorem Ey.s (k:Nat):CK 58 (Ey.e k):=mS Ey.d k [2] Tryz.func58 trivial ⟨E5.s,trivial⟩ (by kernel_rfl) (λ x=>by kernel_rfl)
def G7.e (k:Nat):Ent:=⟨2,[(.val false t12),(.val false .s)],[(.one,(.i .i64))],λ x=>G7 k x.1 x.2⟩
def Gv.p:LF:=⟨⟨[],[(0,t12),(1,.s),(5,(.i .i64))]⟩,[(.ret,⟨[],[(4,(.i .i64))]⟩),((.exit 0),⟨[],[]⟩)],λ k x=>Gv k x.1 x.2.1 x.2.2⟩
def G7.d:Fd := { nt:=20,nv:=2,nm:=[0,1,2,3,5],res:=[4],ls:=[(2,Gv.p)] }
theorem Gv.s:LL Tryz.f83 G7.d 2 Gv.p:=mL [] (λ _=>trivial) trivial (by kernel_rfl) (λ _=>rfl) (λ k x=>by kernel_rfl)
theorem G7.s (k:Nat):CK 83 (G7.e k):=mS G7.d k [2] Tryz.func83 trivial ⟨Gv.s,trivial⟩ (by kernel_rfl) (λ x=>by kernel_rfl)
def H8.e (k:Nat):Ent:=⟨2,[(.val true t23),(.val true t23)],[(.one,.b)],λ x=>H8 x.1 x.2⟩
def H8.d:Fd := { nt:=10,nv:=2,nm:=[0,1,2,3],res:=[4],cs:=λ k=>[(55,An.e k)] }
theorem H8.s (k:Nat):CK 106 (H8.e k):=mS H8.d k [] Tryz.func106 ⟨An.s k,trivial⟩ trivial (by kernel_rfl) (λ x=>by kernel_rfl)
def Ds.e (k:Nat):Ent:=⟨2,[(.val true t42),(.val true t32)],[(.one,.b)],λ x=>Ds k x.1 x.2⟩
def E6.p:LF:=⟨⟨[(2,(.bp 2 0 0)),(3,(.bp 3 0 0)),(3999,(.hd 9)),(4999,(.hd 7))],[(5,(.i .i64)),(3000,t42),(4000,t32)]⟩,[(.ret,⟨[],[(4,.b)]⟩),((.exit 0),⟨[],[]⟩)],λ k x=>E6 k x.1 x.2.1 x.2.2⟩
def Ds.d:Fd := { nt:=47,nv:=2,nm:=[0,1,2,3,5,6,7,8,9],res:=[4],cs:=λ k=>[(82,As.e k),(83,G7.e k),(106,H8.e k)],ls:=[(2,E6.p)],rf:=true }
theorem Ds.a (k:Nat):AC (Ds.d.cs k):=⟨As.s k,G7.s k,H8.s k,trivial⟩
theorem E6.s:LL Tryz.f59 Ds.d 2 E6.p:=mL [] Ds.a trivial (by kernel_rfl) (λ _=>rfl) (λ k x=>by kernel_rfl)
theorem Ds.s (k:Nat):CK 59 (Ds.e k):=mS Ds.d k [2] Tryz.func59 (Ds.a k) ⟨E6.s,trivial⟩ (by kernel_rfl) (λ x=>by kernel_rfl)
def Ic.e (k:Nat):Ent:=⟨1,[(.val true t42)],[(.one,.b)],λ x=>Ic k x⟩
def Hp.p:LF:=⟨⟨[(1,(.bp 1 0 0)),(2999,(.hd 9))],[(3,(.i .i64)),(2000,t42)]⟩,[(.ret,⟨[],[(2,.b)]⟩),((.exit 0),⟨[],[]⟩)],λ k x=>Hp k x.1 x.2⟩
def Ic.d:Fd := { nt:=33,nv:=1,nm:=[0,1,3,4],res:=[2],cs:=λ k=>[(58,Ey.e k),(59,Ds.e k)],ls:=[(2,Hp.p)],rf:=true }
theorem Ic.a (k:Nat):AC (Ic.d.cs k):=⟨Ey.s k,Ds.s k,trivial⟩
theorem Hp.s:LL Tryz.f20 Ic.d 2 Hp.p:=mL [] Ic.a trivial (by kernel_rfl) (λ _=>rfl) (λ k x=>by kernel_rfl)
theorem Ic.s (k:Nat):CK 20 (Ic.e k):=mS Ic.d k [2] Tryz.func20 (Ic.a k) ⟨Hp.s,trivial⟩ (by kernel_rfl) (λ x=>by kernel_rfl)
def Dt.e (k:Nat):Ent:=⟨1,[(.val true t42)],[(.one,.b)],λ x=>Dt k x⟩
def Fj.p:LF:=⟨⟨[(1,(.bp 1 0 0)),(2999,(.hd 9))],[(3,(.i .i64)),(2000,t42)]⟩,[(.ret,⟨[],[(2,.b)]⟩),((.exit 0),⟨[],[]⟩)],λ k x=>Fj k x.1 x.2⟩
def Dt.d:Fd := { nt:=40,nv:=1,nm:=[0,1,3,4],res:=[2],cs:=λ k=>[(55,An.e k)],ls:=[(2,Fj.p)],rf:=true }
theorem Dt.a (k:Nat):AC (Dt.d.cs k):=⟨An.s k,trivial⟩
theorem Fj.s:LL Tryz.f21 Dt.d 2 Fj.p:=mL [] Dt.a trivial (by kernel_rfl) (λ _=>rfl) (λ k x=>by kernel_rfl)
theorem Dt.s (k:Nat):CK 21 (Dt.e k):=mS Dt.d k [2] Tryz.func21 (Dt.a k) ⟨Fj.s,trivial⟩ (by kernel_rfl) (λ x=>by kernel_rfl)
def L9.e (k:Nat):Ent:=⟨1,[(.val true t42)],[(.one,(.i .i64))],λ x=>L9 k x⟩
def L9.d:Fd := { nt:=23,nv:=1,nm:=[0,1],res:=[2],cs:=λ k=>[(17,C8.e k),(18,Dr.e k),(19,Fi.e k),(20,Ic.e k),(21,Dt.e k)],rf:=true }
theorem L9.s (k:Nat):CK 6 (L9.e k):=mS L9.d k [] Tryz.func6 ⟨C8.s k,Dr.s k,Fi.s k,Ic.s k,Dt.s k,trivial⟩ trivial (by kernel_rfl) (λ x=>by kernel_rfl)
def Jp.e (k:Nat):Ent:=⟨1,[(.val true t14)],[(.agg,t14)],λ x=>Jp x⟩
def Jp.d:Fd := { nt:=14,nv:=1,nm:=[0,1,3],res:=[],rf:=true }
theorem Jp.s (k:Nat):CK 60 (Jp.e k):=mS Jp.d k [] Tryz.func60 trivial trivial (by kernel_rfl) (λ x=>by kernel_rfl)
def Dl.e (k:Nat):Ent:=⟨1,[(.val false t19)],[(.one,t21)],λ x=>Dl k x⟩
def E7.p:LF:=⟨⟨[],[(0,t19),(3,t21),(4,(.i .i64))]⟩,[((.exit 0),⟨[],[(3,t21)]⟩)],λ k x=>E7 k x.1 x.2.1 x.2.2⟩
def Dl.d:Fd := { nt:=23,nv:=1,nm:=[0,1,3,4],res:=[2],cs:=λ k=>[(60,Jp.e k)],ls:=[(3,E7.p)],rf:=true }
theorem Dl.a (k:Nat):AC (Dl.d.cs k):=⟨Jp.s k,trivial⟩
theorem E7.s:LL Tryz.f22 Dl.d 3 E7.p:=mL [] Dl.a trivial (by kernel_rfl) (λ _=>rfl) (λ k x=>by kernel_rfl)
theorem Dl.s (k:Nat):CK 22 (Dl.e k):=mS Dl.d k [3] Tryz.func22 (Dl.a k) ⟨E7.s,trivial⟩ (by kernel_rfl) (λ x=>by kernel_rfl)
def Hd.e (k:Nat):Ent:=⟨1,[(.val false t4)],[(.one,t5)],λ x=>Hd k x⟩
def E8.p:LF:=⟨⟨[],[(0,t4),(3,t5),(4,(.i .i64))]⟩,[((.exit 0),⟨[],[(3,t5)]⟩)],λ k x=>E8 k x.1 x.2.1 x.2.2⟩
def Hd.d:Fd := { nt:=22,nv:=1,nm:=[0,1,3,4],res:=[2],ls:=[(3,E8.p)],rf:=true }
theorem E8.s:LL Tryz.f144 Hd.d 3 E8.p:=mL [] (λ _=>trivial) trivial (by kernel_rfl) (λ _=>rfl) (λ k x=>by kernel_rfl)
theorem Hd.s (k:Nat):CK 144 (Hd.e k):=mS Hd.d k [3] Tryz.func144 trivial ⟨E8.s,trivial⟩ (by kernel_rfl) (λ x=>by kernel_rfl)
def It.e (k:Nat):Ent:=⟨1,[(.val true t4)],[(.agg,t5)],λ x=>It k x⟩
def It.d:Fd := { nt:=9,nv:=1,nm:=[0,1,3],res:=[],cs:=λ k=>[(144,Hd.e k)],mv:=[8],rf:=true }
theorem It.s (k:Nat):CK 107 (It.e k):=mS It.d k [] Tryz.func107 ⟨Hd.s k,trivial⟩ trivial (by kernel_rfl) (λ x=>by kernel_rfl)
def C9.e (k:Nat):Ent:=⟨1,[(.val false t7)],[(.one,t9)],λ x=>C9 k x⟩
def Cu.p:LF:=⟨⟨[],[(0,t7),(3,t9),(4,(.i .i64))]⟩,[((.exit 0),⟨[],[(3,t9)]⟩)],λ k x=>Cu k x.1 x.2.1 x.2.2⟩
def C9.d:Fd := { nt:=23,nv:=1,nm:=[0,1,3,4],res:=[2],cs:=λ k=>[(107,It.e k)],ls:=[(3,Cu.p)],rf:=true }
theorem C9.a (k:Nat):AC (C9.d.cs k):=⟨It.s k,trivial⟩
theorem Cu.s:LL Tryz.f61 C9.d 3 Cu.p:=mL [] C9.a trivial (by kernel_rfl) (λ _=>rfl) (λ k x=>by kernel_rfl)
theorem C9.s (k:Nat):CK 61 (C9.e k):=mS C9.d k [3] Tryz.func61 (C9.a k) ⟨Cu.s,trivial⟩ (by kernel_rfl) (λ x=>by kernel_rfl)
def Iu.e (k:Nat):Ent:=⟨1,[(.val true t15)],[(.agg,t17)],λ x=>Iu k x⟩
def Iu.d:Fd := { nt:=12,nv:=1,nm:=[0,1,3],res:=[],cs:=λ k=>[(61,C9.e k)],mv:=[11],rf:=true }
theorem Iu.s (k:Nat):CK 23 (Iu.e k):=mS Iu.d k [] Tryz.func23 ⟨C9.s k,trivial⟩ trivial (by kernel_rfl) (λ x=>by kernel_rfl)
def Cw.e (k:Nat):Ent:=⟨1,[(.val false t2)],[(.one,t3)],λ x=>Cw k x⟩
def Cv.p:LF:=⟨⟨[],[(0,t2),(3,t3),(4,(.i .i64))]⟩,[((.exit 0),⟨[],[(3,t3)]⟩)],λ k x=>Cv k x.1 x.2.1 x.2.2⟩
def Cw.d:Fd := { nt:=22,nv:=1,nm:=[0,1,3,4],res:=[2],ls:=[(3,Cv.p)],rf:=true }
theorem Cv.s:LL Tryz.f147 Cw.d 3 Cv.p:=mL [] (λ _=>trivial) trivial (by kernel_rfl) (λ _=>rfl) (λ k x=>by kernel_rfl)
theorem Cw.s (k:Nat):CK 147 (Cw.e k):=mS Cw.d k [3] Tryz.func147 trivial ⟨Cv.s,trivial⟩ (by kernel_rfl) (λ x=>by kernel_rfl)
def Hq.e (k:Nat):Ent:=⟨1,[(.val true t10)],[(.agg,(.pr .s t3))],λ x=>Hq k x⟩
def Hq.d:Fd := { nt:=12,nv:=1,nm:=[0,1,3],res:=[],cs:=λ k=>[(147,Cw.e k)],mv:=[11],rf:=true }
theorem Hq.s (k:Nat):CK 169 (Hq.e k):=mS Hq.d k [] Tryz.func169 ⟨Cw.s k,trivial⟩ trivial (by kernel_rfl) (λ x=>by kernel_rfl)
def B1.e (k:Nat):Ent:=⟨1,[(.val false t11)],[(.one,t13)],λ x=>B1 k x⟩
def Bv.p:LF:=⟨⟨[],[(0,t11),(3,t13),(4,(.i .i64))]⟩,[((.exit 0),⟨[],[(3,t13)]⟩)],λ k x=>Bv k x.1 x.2.1 x.2.2⟩
def B1.d:Fd := { nt:=23,nv:=1,nm:=[0,1,3,4],res:=[2],cs:=λ k=>[(169,Hq.e k)],ls:=[(3,Bv.p)],rf:=true }
theorem B1.a (k:Nat):AC (B1.d.cs k):=⟨Hq.s k,trivial⟩
theorem Bv.s:LL Tryz.f145 B1.d 3 Bv.p:=mL [] B1.a trivial (by kernel_rfl) (λ _=>rfl) (λ k x=>by kernel_rfl)
theorem B1.s (k:Nat):CK 145 (B1.e k):=mS B1.d k [3] Tryz.func145 (B1.a k) ⟨Bv.s,trivial⟩ (by kernel_rfl) (λ x=>by kernel_rfl)
def Iv.e (k:Nat):Ent:=⟨1,[(.val true t26)],[(.agg,t28)],λ x=>Iv k x⟩
def Iv.d:Fd := { nt:=13,nv:=1,nm:=[0,1,3],res:=[],cs:=λ k=>[(145,B1.e k)],mv:=[12],rf:=true }
theorem Iv.s (k:Nat):CK 108 (Iv.e k):=mS Iv.d k [] Tryz.func108 ⟨B1.s k,trivial⟩ trivial (by kernel_rfl) (λ x=>by kernel_rfl)
def B2.e (k:Nat):Ent:=⟨1,[(.val true t14)],[(.agg,t14)],λ x=>B2 x⟩
def B2.d:Fd := { nt:=14,nv:=1,nm:=[0,1,3],res:=[],rf:=true }
theorem B2.s (k:Nat):CK 25 (B2.e k):=mS B2.d k [] Tryz.func25 trivial trivial (by kernel_rfl) (λ x=>by kernel_rfl)
def Jq.e (k:Nat):Ent:=⟨1,[(.val true t25)],[(.agg,t25)],λ x=>Jq x⟩
def Jq.d:Fd := { nt:=18,nv:=1,nm:=[0,1,3],res:=[],cs:=λ k=>[(25,B2.e k)],rf:=true }
theorem Jq.s (k:Nat):CK 146 (Jq.e k):=mS Jq.d k [] Tryz.func146 ⟨B2.s k,trivial⟩ trivial (by kernel_rfl) (λ x=>by kernel_rfl)
def Cy.e (k:Nat):Ent:=⟨1,[(.val false t29)],[(.one,t31)],λ x=>Cy k x⟩
def E9.p:LF:=⟨⟨[],[(0,t29),(3,t31),(4,(.i .i64))]⟩,[((.exit 0),⟨[],[(3,t31)]⟩)],λ k x=>E9 k x.1 x.2.1 x.2.2⟩
def Cy.d:Fd := { nt:=23,nv:=1,nm:=[0,1,3,4],res:=[2],cs:=λ k=>[(146,Jq.e k)],ls:=[(3,E9.p)],rf:=true }
theorem Cy.a (k:Nat):AC (Cy.d.cs k):=⟨Jq.s k,trivial⟩
theorem E9.s:LL Tryz.f109 Cy.d 3 E9.p:=mL [] Cy.a trivial (by kernel_rfl) (λ _=>rfl) (λ k x=>by kernel_rfl)
theorem Cy.s (k:Nat):CK 109 (Cy.e k):=mS Cy.d k [3] Tryz.func109 (Cy.a k) ⟨E9.s,trivial⟩ (by kernel_rfl) (λ x=>by kernel_rfl)
def Iw.e (k:Nat):Ent:=⟨1,[(.val true t36)],[(.agg,(.pr (.i .i64) (.pr t28 (.pr t31 t31))))],λ x=>Iw k x⟩
def Iw.d:Fd := { nt:=20,nv:=1,nm:=[0,1,3],res:=[],cs:=λ k=>[(108,Iv.e k),(109,Cy.e k)],mv:=[19],rf:=true }
theorem Iw.s (k:Nat):CK 62 (Iw.e k):=mS Iw.d k [] Tryz.func62 ⟨Iv.s k,Cy.s k,trivial⟩ trivial (by kernel_rfl) (λ x=>by kernel_rfl)
def Ca.e (k:Nat):Ent:=⟨1,[(.val false t38)],[(.one,t40)],λ x=>Ca k x⟩
def Cz.p:LF:=⟨⟨[],[(0,t38),(3,t40),(4,(.i .i64))]⟩,[((.exit 0),⟨[],[(3,t40)]⟩)],λ k x=>Cz k x.1 x.2.1 x.2.2⟩
def Ca.d:Fd := { nt:=23,nv:=1,nm:=[0,1,3,4],res:=[2],cs:=λ k=>[(62,Iw.e k)],ls:=[(3,Cz.p)],rf:=true }
theorem Ca.a (k:Nat):AC (Ca.d.cs k):=⟨Iw.s k,trivial⟩
theorem Cz.s:LL Tryz.f24 Ca.d 3 Cz.p:=mL [] Ca.a trivial (by kernel_rfl) (λ _=>rfl) (λ k x=>by kernel_rfl)
theorem Ca.s (k:Nat):CK 24 (Ca.e k):=mS Ca.d k [3] Tryz.func24 (Ca.a k) ⟨Cz.s,trivial⟩ (by kernel_rfl) (λ x=>by kernel_rfl)
def I3.e (k:Nat):Ent:=⟨1,[(.val true t23)],[(.agg,t24)],λ x=>I3 k x⟩
def I3.d:Fd := { nt:=16,nv:=1,nm:=[0,1,3],res:=[],cs:=λ k=>[(25,B2.e k),(147,Cw.e k)],mv:=[15],rf:=true }
theorem I3.s (k:Nat):CK 110 (I3.e k):=mS I3.d k [] Tryz.func110 ⟨B2.s k,Cw.s k,trivial⟩ trivial (by kernel_rfl) (λ x=>by kernel_rfl)
def Hr.e (k:Nat):Ent:=⟨1,[(.val true t32)],[(.agg,(.pr .s (.pr t24 .b)))],λ x=>Hr k x⟩
def Hr.d:Fd := { nt:=15,nv:=1,nm:=[0,1,3],res:=[],cs:=λ k=>[(110,I3.e k)],mv:=[14],rf:=true }
theorem Hr.s (k:Nat):CK 63 (Hr.e k):=mS Hr.d k [] Tryz.func63 ⟨I3.s k,trivial⟩ trivial (by kernel_rfl) (λ x=>by kernel_rfl)
def Ba.e (k:Nat):Ent:=⟨1,[(.val false t33)],[(.one,t35)],λ x=>Ba k x⟩
def Bw.p:LF:=⟨⟨[],[(0,t33),(3,t35),(4,(.i .i64))]⟩,[((.exit 0),⟨[],[(3,t35)]⟩)],λ k x=>Bw k x.1 x.2.1 x.2.2⟩
def Ba.d:Fd := { nt:=23,nv:=1,nm:=[0,1,3,4],res:=[2],cs:=λ k=>[(63,Hr.e k)],ls:=[(3,Bw.p)],rf:=true }
theorem Ba.a (k:Nat):AC (Ba.d.cs k):=⟨Hr.s k,trivial⟩
theorem Bw.s:LL Tryz.f26 Ba.d 3 Bw.p:=mL [] Ba.a trivial (by kernel_rfl) (λ _=>rfl) (λ k x=>by kernel_rfl)
theorem Ba.s (k:Nat):CK 26 (Ba.e k):=mS Ba.d k [3] Tryz.func26 (Ba.a k) ⟨Bw.s,trivial⟩ (by kernel_rfl) (λ x=>by kernel_rfl)
def Dg.e (k:Nat):Ent:=⟨1,[(.val false t0)],[(.one,t1)],λ x=>Dg k x⟩
def Bg.p:LF:=⟨⟨[],[(0,t0),(3,t1),(4,(.i .i64))]⟩,[((.exit 0),⟨[],[(3,t1)]⟩)],λ k x=>Bg k x.1 x.2.1 x.2.2⟩
def Dg.d:Fd := { nt:=22,nv:=1,nm:=[0,1,3,4],res:=[2],ls:=[(3,Bg.p)],rf:=true }
theorem Bg.s:LL Tryz.f27 Dg.d 3 Bg.p:=mL [] (λ _=>trivial) trivial (by kernel_rfl) (λ _=>rfl) (λ k x=>by kernel_rfl)
theorem Dg.s (k:Nat):CK 27 (Dg.e k):=mS Dg.d k [3] Tryz.func27 trivial ⟨Bg.s,trivial⟩ (by kernel_rfl) (λ x=>by kernel_rfl)
def B8.e (k:Nat):Ent:=⟨1,[(.val true t41)],[(.agg,(.pr t21 (.pr t17 (.pr t40 (.pr t14 (.pr t35 t1))))))],λ x=>B8 k x⟩
def B8.d:Fd := { nt:=29,nv:=1,nm:=[0,1,3],res:=[],cs:=λ k=>[(22,Dl.e k),(23,Iu.e k),(24,Ca.e k),(25,B2.e k),(26,Ba.e k),(27,Dg.e k)],mv:=[28],rf:=true }
theorem B8.s (k:Nat):CK 7 (B8.e k):=mS B8.d k [] Tryz.func7 ⟨Dl.s k,Iu.s k,Ca.s k,B2.s k,Ba.s k,Dg.s k,trivial⟩ trivial (by kernel_rfl) (λ x=>by kernel_rfl)
def Ea.e (k:Nat):Ent:=⟨3,[(.val false (.i .i64)),(.val false (.i .i64)),(.val false (.i .i64))],[(.one,.b)],λ x=>Ea x.1 x.2.1 x.2.2⟩
def Ea.d:Fd := { nt:=15,nv:=3,nm:=[0,1,2,3,4,5],res:=[6] }
theorem Ea.s (k:Nat):CK 112 (Ea.e k):=mS Ea.d k [] Tryz.func112 trivial trivial (by kernel_rfl) (λ x=>by kernel_rfl)
def Fk.e (k:Nat):Ent:=⟨1,[(.val false t20)],[(.one,.b)],λ x=>Fk k x⟩
def Gf.p:LF:=⟨⟨[],[(0,t20),(5,t20),(6,(.i .i64)),(7,(.i .i64))]⟩,[(.ret,⟨[],[(2,.b)]⟩),((.exit 0),⟨[],[(0,t20)]⟩)],λ k x=>Gf k x.1 x.2.1 x.2.2.1 x.2.2.2⟩
def Fk.d:Fd := { nt:=47,nv:=1,nm:=[0,1,3,4],res:=[2],cs:=λ k=>[(112,Ea.e k)],ls:=[(2,Gf.p)],rf:=true }
theorem Fk.a (k:Nat):AC (Fk.d.cs k):=⟨Ea.s k,trivial⟩
theorem Gf.s:LL Tryz.f111 Fk.d 2 Gf.p:=mL [] Fk.a trivial (by kernel_rfl) (λ _=>rfl) (λ k x=>by kernel_rfl)
theorem Fk.s (k:Nat):CK 111 (Fk.e k):=mS Fk.d k [2] Tryz.func111 (Fk.a k) ⟨Gf.s,trivial⟩ (by kernel_rfl) (λ x=>by kernel_rfl)
def Cg.e (k:Nat):Ent:=⟨2,[(.val false t4),(.val false (.i .i64))],[(.one,.b)],λ x=>Cg k x.1 x.2⟩
def Eb.p:LF:=⟨⟨[],[(1,(.i .i64)),(7,t4),(8,(.i .i64)),(9,(.i .i64))]⟩,[(.ret,⟨[],[(4,.b)]⟩),((.exit 0),⟨[],[]⟩)],λ k x=>Eb k x.1 x.2.1 x.2.2.1 x.2.2.2⟩
def Cg.d:Fd := { nt:=17,nv:=2,nm:=[0,1,2,3,5,6],res:=[4],ls:=[(2,Eb.p)],rf:=true }
theorem Eb.s:LL Tryz.f93 Cg.d 2 Eb.p:=mL [] (λ _=>trivial) trivial (by kernel_rfl) (λ _=>rfl) (λ k x=>by kernel_rfl)
theorem Cg.s (k:Nat):CK 93 (Cg.e k):=mS Cg.d k [2] Tryz.func93 trivial ⟨Eb.s,trivial⟩ (by kernel_rfl) (λ x=>by kernel_rfl)
def H9.e (k:Nat):Ent:=⟨1,[(.val false t4)],[(.one,.b)],λ x=>H9 k x⟩
def Id.p:LF:=⟨⟨[],[(0,t4),(5,t4),(6,(.i .i64)),(7,(.i .i64))]⟩,[(.ret,⟨[],[(2,.b)]⟩),((.exit 0),⟨[],[]⟩)],λ k x=>Id k x.1 x.2.1 x.2.2.1 x.2.2.2⟩
def H9.d:Fd := { nt:=18,nv:=1,nm:=[0,1,3,4],res:=[2],cs:=λ k=>[(93,Cg.e k)],ls:=[(2,Id.p)],rf:=true }
theorem H9.a (k:Nat):AC (H9.d.cs k):=⟨Cg.s k,trivial⟩
theorem Id.s:LL Tryz.f113 H9.d 2 Id.p:=mL [] H9.a trivial (by kernel_rfl) (λ _=>rfl) (λ k x=>by kernel_rfl)
theorem H9.s (k:Nat):CK 113 (H9.e k):=mS H9.d k [2] Tryz.func113 (H9.a k) ⟨Id.s,trivial⟩ (by kernel_rfl) (λ x=>by kernel_rfl)
def Jr.e (k:Nat):Ent:=⟨2,[(.val false t20),(.val false (.i .i64))],[(.agg,t14),(.one,.b)],λ x=>Jr k x.1 x.2⟩
def Ie.p:LF:=⟨⟨[(4,(.bp 4 0 0)),(5999,(.hd 3))],[(1,(.i .i64)),(8,t20),(9,(.i .i64)),(10,(.i .i64)),(5000,t14)]⟩,[(.ret,⟨[(4,(.bp 4 0 0)),(5999,(.hd 3))],[(5,.b),(5000,t14)]⟩),((.exit 0),⟨[(4,(.bp 4 0 0)),(5999,(.hd 3))],[(5000,t14)]⟩)],λ k x=>Ie k x.1 x.2.1 x.2.2.1 x.2.2.2.1 x.2.2.2.2⟩
def Jr.d:Fd := { nt:=21,nv:=2,nm:=[0,1,2,3,6,7],res:=[5],ls:=[(2,Ie.p)],rf:=true }
theorem Ie.s:LL Tryz.f114 Jr.d 2 Ie.p:=mL [] (λ _=>trivial) trivial (by kernel_rfl) (λ _=>rfl) (λ k x=>by kernel_rfl)
theorem Jr.s (k:Nat):CK 114 (Jr.e k):=mS Jr.d k [2] Tryz.func114 trivial ⟨Ie.s,trivial⟩ (by kernel_rfl) (λ x=>by kernel_rfl)
def Dm.e (k:Nat):Ent:=⟨2,[(.val true t16),(.val false t20)],[(.one,.b)],λ x=>Dm k x.1 x.2⟩
def Hs.p:LF:=⟨⟨[(2,(.bp 2 0 0)),(3999,(.hd 2))],[(1,t20),(28,t8),(29,(.i .i64)),(30,(.i .i64)),(47,t4),(48,(.i .i64)),(49,(.i .i64)),(3000,t16)]⟩,[(.ret,⟨[],[(4,.b)]⟩),((.exit 2),⟨[(2,(.bp 2 0 0)),(3999,(.hd 2))],[(1,t20),(28,t8),(29,(.i .i64)),(30,(.i .i64)),(3000,t16)]⟩)],λ k x=>Hs k x.1 x.2.1 x.2.2.1 x.2.2.2.1 x.2.2.2.2.1 x.2.2.2.2.2.1 x.2.2.2.2.2.2.1 x.2.2.2.2.2.2.2⟩
def Ht.p:LF:=⟨⟨[(2,(.bp 2 0 0)),(3999,(.hd 2))],[(1,t20),(28,t8),(29,(.i .i64)),(30,(.i .i64)),(3000,t16)]⟩,[(.ret,⟨[],[(4,.b)]⟩),((.exit 0),⟨[],[]⟩)],λ k x=>Ht k x.1 x.2.1 x.2.2.1 x.2.2.2.1 x.2.2.2.2⟩
def Dm.d:Fd := { nt:=63,nv:=2,nm:=[0,1,2,3,5,6,7,8,9,10],res:=[4],cs:=λ k=>[(111,Fk.e k),(112,Ea.e k),(113,H9.e k),(114,Jr.e k)],ls:=[(9,Hs.p),(4,Ht.p)],rf:=true }
theorem Dm.a (k:Nat):AC (Dm.d.cs k):=⟨Fk.s k,Ea.s k,H9.s k,Jr.s k,trivial⟩
theorem Hs.s:LL Tryz.f64 Dm.d 9 Hs.p:=mL [] Dm.a trivial (by kernel_rfl) (λ _=>rfl) (λ k x=>by kernel_rfl)
theorem Ht.s:LL Tryz.f64 Dm.d 4 Ht.p:=mL [9] Dm.a ⟨Hs.s,trivial⟩ (by kernel_rfl) (λ _=>rfl) (λ k x=>by kernel_rfl)
theorem Dm.s (k:Nat):CK 64 (Dm.e k):=mS Dm.d k [4] Tryz.func64 (Dm.a k) ⟨Ht.s,trivial⟩ (by kernel_rfl) (λ x=>by kernel_rfl)
def Bs.e (k:Nat):Ent:=⟨1,[(.val true t14)],[(.one,.b)],λ x=>Bs x⟩
def Bs.d:Fd := { nt:=16,nv:=1,nm:=[0,1],res:=[2],cs:=λ k=>[(112,Ea.e k)] }
theorem Bs.s (k:Nat):CK 65 (Bs.e k):=mS Bs.d k [] Tryz.func65 ⟨Ea.s k,trivial⟩ trivial (by kernel_rfl) (λ x=>by kernel_rfl)
def Ar.e (k:Nat):Ent:=⟨1,[(.val false .s)],[(.one,.b)],λ x=>Ar k x⟩
def A9.p:LF:=⟨⟨[],[(0,.s),(3,(.i .i64))]⟩,[(.ret,⟨[],[(2,.b)]⟩),((.exit 0),⟨[],[(0,.s)]⟩)],λ k x=>A9 k x.1 x.2⟩
def Ar.d:Fd := { nt:=45,nv:=1,nm:=[0,1,3,4],res:=[2],cs:=λ k=>[(112,Ea.e k)],ls:=[(2,A9.p)] }
theorem Ar.a (k:Nat):AC (Ar.d.cs k):=⟨Ea.s k,trivial⟩
theorem A9.s:LL Tryz.f68 Ar.d 2 A9.p:=mL [] Ar.a trivial (by kernel_rfl) (λ _=>rfl) (λ k x=>by kernel_rfl)
theorem Ar.s (k:Nat):CK 68 (Ar.e k):=mS Ar.d k [2] Tryz.func68 (Ar.a k) ⟨A9.s,trivial⟩ (by kernel_rfl) (λ x=>by kernel_rfl)
def Ae.e (k:Nat):Ent:=⟨2,[(.val true t14),(.val true t14)],[(.one,.b)],λ x=>Ae x.1 x.2⟩
def Ae.d:Fd := { nt:=32,nv:=2,nm:=[0,1,2,3],res:=[4] }
theorem Ae.s (k:Nat):CK 75 (Ae.e k):=mS Ae.d k [] Tryz.func75 trivial trivial (by kernel_rfl) (λ x=>by kernel_rfl)
def Fl.e (k:Nat):Ent:=⟨1,[(.val true t23)],[(.one,.b)],λ x=>Fl x⟩
def Fl.d:Fd := { nt:=23,nv:=1,nm:=[0,1],res:=[2],cs:=λ k=>[(65,Bs.e k)] }
theorem Fl.s (k:Nat):CK 115 (Fl.e k):=mS Fl.d k [] Tryz.func115 ⟨Bs.s k,trivial⟩ trivial (by kernel_rfl) (λ x=>by kernel_rfl)
def Cl.e (k:Nat):Ent:=⟨1,[(.val true t42)],[(.one,.b)],λ x=>Cl k x⟩
def G4.p:LF:=⟨⟨[(1,(.bp 1 0 0)),(2999,(.hd 9))],[(6,t34),(7,(.i .i64)),(8,(.i .i64)),(2000,t42)]⟩,[(.ret,⟨[],[(2,.b)]⟩),((.exit 0),⟨[(1,(.bp 1 0 0)),(2999,(.hd 9))],[(2000,t42)]⟩)],λ k x=>G4 k x.1 x.2.1 x.2.2.1 x.2.2.2⟩
def Cl.d:Fd := { nt:=35,nv:=1,nm:=[0,1,3,4],res:=[2],cs:=λ k=>[(68,Ar.e k),(75,Ae.e k),(115,Fl.e k)],ls:=[(2,G4.p)],rf:=true }
theorem Cl.a (k:Nat):AC (Cl.d.cs k):=⟨Ar.s k,Ae.s k,Fl.s k,trivial⟩
theorem G4.s:LL Tryz.f66 Cl.d 2 G4.p:=mL [] Cl.a trivial (by kernel_rfl) (λ _=>rfl) (λ k x=>by kernel_rfl)
theorem Cl.s (k:Nat):CK 66 (Cl.e k):=mS Cl.d k [2] Tryz.func66 (Cl.a k) ⟨G4.s,trivial⟩ (by kernel_rfl) (λ x=>by kernel_rfl)
def I9.e (k:Nat):Ent:=⟨1,[(.val true t25)],[(.one,.b)],λ x=>I9 k x⟩
def I9.d:Fd := { nt:=26,nv:=1,nm:=[0,1],res:=[2],cs:=λ k=>[(65,Bs.e k),(68,Ar.e k),(112,Ea.e k)] }
theorem I9.s (k:Nat):CK 116 (I9.e k):=mS I9.d k [] Tryz.func116 ⟨Bs.s k,Ar.s k,Ea.s k,trivial⟩ trivial (by kernel_rfl) (λ x=>by kernel_rfl)
def D0.e (k:Nat):Ent:=⟨1,[(.val false t12)],[(.one,.b)],λ x=>D0 k x⟩
def Fm.p:LF:=⟨⟨[],[(0,t12),(5,t12),(6,(.i .i64)),(7,(.i .i64))]⟩,[(.ret,⟨[],[(2,.b)]⟩),((.exit 0),⟨[],[(0,t12)]⟩)],λ k x=>Fm k x.1 x.2.1 x.2.2.1 x.2.2.2⟩
def D0.d:Fd := { nt:=41,nv:=1,nm:=[0,1,3,4],res:=[2],cs:=λ k=>[(68,Ar.e k)],ls:=[(2,Fm.p)] }
theorem D0.a (k:Nat):AC (D0.d.cs k):=⟨Ar.s k,trivial⟩
theorem Fm.s:LL Tryz.f148 D0.d 2 Fm.p:=mL [] D0.a trivial (by kernel_rfl) (λ _=>rfl) (λ k x=>by kernel_rfl)
theorem D0.s (k:Nat):CK 148 (D0.e k):=mS D0.d k [2] Tryz.func148 (D0.a k) ⟨Fm.s,trivial⟩ (by kernel_rfl) (λ x=>by kernel_rfl)
def Ji.e (k:Nat):Ent:=⟨1,[(.val true t27)],[(.one,.b)],λ x=>Ji k x⟩
def Ji.d:Fd := { nt:=11,nv:=1,nm:=[0,1],res:=[2],cs:=λ k=>[(148,D0.e k)] }
theorem Ji.s (k:Nat):CK 117 (Ji.e k):=mS Ji.d k [] Tryz.func117 ⟨D0.s k,trivial⟩ trivial (by kernel_rfl) (λ x=>by kernel_rfl)
def Fn.e (k:Nat):Ent:=⟨1,[(.val false t30)],[(.one,.b)],λ x=>Fn k x⟩
def Gg.p:LF:=⟨⟨[],[(0,t30),(5,t30),(6,(.i .i64)),(7,(.i .i64))]⟩,[(.ret,⟨[],[(2,.b)]⟩),((.exit 0),⟨[],[(0,t30)]⟩)],λ k x=>Gg k x.1 x.2.1 x.2.2.1 x.2.2.2⟩
def Fn.d:Fd := { nt:=34,nv:=1,nm:=[0,1,3,4],res:=[2],cs:=λ k=>[(116,I9.e k)],ls:=[(2,Gg.p)] }
theorem Fn.a (k:Nat):AC (Fn.d.cs k):=⟨I9.s k,trivial⟩
theorem Gg.s:LL Tryz.f118 Fn.d 2 Gg.p:=mL [] Fn.a trivial (by kernel_rfl) (λ _=>rfl) (λ k x=>by kernel_rfl)
theorem Fn.s (k:Nat):CK 118 (Fn.e k):=mS Fn.d k [2] Tryz.func118 (Fn.a k) ⟨Gg.s,trivial⟩ (by kernel_rfl) (λ x=>by kernel_rfl)
def Fo.e (k:Nat):Ent:=⟨1,[(.val true t37)],[(.one,.b)],λ x=>Fo k x⟩
def Hu.p:LF:=⟨⟨[(1,(.bp 1 0 0)),(2999,(.hd 5))],[(6,t30),(7,(.i .i64)),(8,(.i .i64)),(2000,(.i .i64)),(2001,t12),(2002,t12),(2003,t30),(2004,t30)]⟩,[(.ret,⟨[],[(2,.b)]⟩),((.exit 0),⟨[(1,(.bp 1 0 0)),(2999,(.hd 5))],[(2000,(.i .i64)),(2001,t12),(2002,t12),(2003,t30),(2004,t30)]⟩)],λ k x=>Hu k x.1 x.2.1 x.2.2.1 x.2.2.2.1 x.2.2.2.2.1 x.2.2.2.2.2.1 x.2.2.2.2.2.2.1 x.2.2.2.2.2.2.2⟩
def Fo.d:Fd := { nt:=35,nv:=1,nm:=[0,1,3,4],res:=[2],cs:=λ k=>[(112,Ea.e k),(116,I9.e k),(117,Ji.e k),(118,Fn.e k)],ls:=[(2,Hu.p)] }
theorem Fo.a (k:Nat):AC (Fo.d.cs k):=⟨Ea.s k,I9.s k,Ji.s k,Fn.s k,trivial⟩
theorem Hu.s:LL Tryz.f67 Fo.d 2 Hu.p:=mL [] Fo.a trivial (by kernel_rfl) (λ _=>rfl) (λ k x=>by kernel_rfl)
theorem Fo.s (k:Nat):CK 67 (Fo.e k):=mS Fo.d k [2] Tryz.func67 (Fo.a k) ⟨Hu.s,trivial⟩ (by kernel_rfl) (λ x=>by kernel_rfl)
def Cb.e (k:Nat):Ent:=⟨1,[(.val true t42)],[(.one,.b)],λ x=>Cb k x⟩
def Em.p:LF:=⟨⟨[(1,(.bp 1 0 0)),(2999,(.hd 9))],[(57,t0),(58,(.i .i64)),(59,(.i .i64)),(2000,t42)]⟩,[(.ret,⟨[],[(2,.b)]⟩),((.exit 2),⟨[],[]⟩)],λ k x=>Em k x.1 x.2.1 x.2.2.1 x.2.2.2⟩
def Gw.p:LF:=⟨⟨[(1,(.bp 1 0 0)),(2999,(.hd 9))],[(34,t39),(35,(.i .i64)),(36,(.i .i64)),(2000,t42)]⟩,[(.ret,⟨[],[(2,.b)]⟩),((.exit 0),⟨[(1,(.bp 1 0 0)),(2999,(.hd 9))],[(2000,t42)]⟩)],λ k x=>Gw k x.1 x.2.1 x.2.2.1 x.2.2.2⟩
def Cb.d:Fd := { nt:=82,nv:=1,nm:=[0,1,3,4,5,6],res:=[2],cs:=λ k=>[(64,Dm.e k),(65,Bs.e k),(66,Cl.e k),(67,Fo.e k),(68,Ar.e k)],ls:=[(10,Em.p),(4,Gw.p)],rf:=true }
theorem Cb.a (k:Nat):AC (Cb.d.cs k):=⟨Dm.s k,Bs.s k,Cl.s k,Fo.s k,Ar.s k,trivial⟩
theorem Em.s:LL Tryz.f28 Cb.d 10 Em.p:=mL [] Cb.a trivial (by kernel_rfl) (λ _=>rfl) (λ k x=>by kernel_rfl)
theorem Gw.s:LL Tryz.f28 Cb.d 4 Gw.p:=mL [] Cb.a trivial (by kernel_rfl) (λ _=>rfl) (λ k x=>by kernel_rfl)
theorem Cb.s (k:Nat):CK 28 (Cb.e k):=mS Cb.d k [4,10] Tryz.func28 (Cb.a k) ⟨Gw.s,Em.s,trivial⟩ (by kernel_rfl) (λ x=>by kernel_rfl)
def Ez.e (k:Nat):Ent:=⟨2,[(.val false t2),(.val false (.i .i64))],[(.one,(.i .i64)),(.one,(.i .i64)),(.one,.b)],λ x=>Ez k x.1 x.2⟩
def Dh.p:LF:=⟨⟨[],[(0,t2),(1,(.i .i64)),(7,(.i .i64)),(8,(.i .i64))]⟩,[(.ret,⟨[],[(4,(.i .i64)),(5,(.i .i64)),(6,.b)]⟩),((.exit 0),⟨[],[]⟩)],λ k x=>Dh k x.1 x.2.1 x.2.2.1 x.2.2.2⟩
def Ez.d:Fd := { nt:=57,nv:=2,nm:=[0,1,2,3,7,8,9],res:=[4,5,6],ls:=[(3,Dh.p)] }
theorem Dh.s:LL Tryz.f170 Ez.d 3 Dh.p:=mL [] (λ _=>trivial) trivial (by kernel_rfl) (λ _=>rfl) (λ k x=>by kernel_rfl)
theorem Ez.s (k:Nat):CK 170 (Ez.e k):=mS Ez.d k [3] Tryz.func170 trivial ⟨Dh.s,trivial⟩ (by kernel_rfl) (λ x=>by kernel_rfl)
def B3.e (k:Nat):Ent:=⟨1,[(.ptr t18 t18)],[(.one,(.i .i64))],λ x=>B3 k x⟩
def B3.d:Fd := { nt:=35,nv:=1,nm:=[0,1,3,4,5],res:=[2],cs:=λ k=>[(170,Ez.e k)] }
theorem B3.s (k:Nat):CK 149 (B3.e k):=mS B3.d k [] Tryz.func149 ⟨Ez.s k,trivial⟩ trivial (by kernel_rfl) (λ x=>by kernel_rfl)
def Bh.e (k:Nat):Ent:=⟨1,[(.ptr t18 t18)],[(.agg,t14),(.one,.b)],λ x=>Bh k x⟩
def Bh.d:Fd := { nt:=31,nv:=1,nm:=[0,1,4,5],res:=[3],cs:=λ k=>[(149,B3.e k)] }
theorem Bh.s (k:Nat):CK 119 (Bh.e k):=mS Bh.d k [] Tryz.func119 ⟨B3.s k,trivial⟩ trivial (by kernel_rfl) (λ x=>by kernel_rfl)
def Gx.e (k:Nat):Ent:=⟨2,[(.val false t2),(.val false (.i .i64))],[(.one,.s),(.one,(.i .i64)),(.one,.b)],λ x=>Gx k x.1 x.2⟩
def Gx.d:Fd := { nt:=37,nv:=2,nm:=[0,1,2,3,7,8,9],res:=[4,5,6],cs:=λ k=>[(170,Ez.e k)] }
theorem Gx.s (k:Nat):CK 150 (Gx.e k):=mS Gx.d k [] Tryz.func150 ⟨Ez.s k,trivial⟩ trivial (by kernel_rfl) (λ x=>by kernel_rfl)
def Ax.e (k:Nat):Ent:=⟨1,[(.ptr t18 t18)],[(.one,.s)],λ x=>Ax k x⟩
def Ax.d:Fd := { nt:=35,nv:=1,nm:=[0,1,3,4,5],res:=[2],cs:=λ k=>[(150,Gx.e k)] }
theorem Ax.s (k:Nat):CK 120 (Ax.e k):=mS Ax.d k [] Tryz.func120 ⟨Gx.s k,trivial⟩ trivial (by kernel_rfl) (λ x=>by kernel_rfl)
def Ch.e (k:Nat):Ent:=⟨2,[(.val false t3),(.val false (.i .i64))],[(.one,t3)],λ x=>Ch k x.1 x.2⟩
def Ec.p:LF:=⟨⟨[],[(0,t3),(1,(.i .i64))]⟩,[((.exit 0),⟨[],[(0,t3),(1,(.i .i64))]⟩)],λ k x=>Ec k x.1 x.2⟩
def Ch.d:Fd := { nt:=24,nv:=2,nm:=[0,1,2,3],res:=[4],ls:=[(2,Ec.p)] }
theorem Ec.s:LL Tryz.f171 Ch.d 2 Ec.p:=mL [] (λ _=>trivial) trivial (by kernel_rfl) (λ _=>rfl) (λ k x=>by kernel_rfl)
theorem Ch.s (k:Nat):CK 171 (Ch.e k):=mS Ch.d k [2] Tryz.func171 trivial ⟨Ec.s,trivial⟩ (by kernel_rfl) (λ x=>by kernel_rfl)
def Gy.e (k:Nat):Ent:=⟨2,[(.val false t3),(.val false .s)],[(.one,t3)],λ x=>Gy k x.1 x.2⟩
def Gy.d:Fd := { nt:=11,nv:=2,nm:=[0,1,2,3],res:=[4],cs:=λ k=>[(171,Ch.e k)] }
theorem Gy.s (k:Nat):CK 151 (Gy.e k):=mS Gy.d k [] Tryz.func151 ⟨Ch.s k,trivial⟩ trivial (by kernel_rfl) (λ x=>by kernel_rfl)
def Lj.e (k:Nat):Ent:=⟨1,[(.val false .b)],[(.one,(.i .i64))],λ x=>Lj x⟩
def Lj.d:Fd := { nt:=4,nv:=1,nm:=[0,1],res:=[2] }
theorem Lj.s (k:Nat):CK 172 (Lj.e k):=mS Lj.d k [] Tryz.func172 trivial trivial (by kernel_rfl) (λ x=>by kernel_rfl)
def Fp.e (k:Nat):Ent:=⟨3,[(.val false t3),(.val true t14),(.val false .b)],[(.one,t3)],λ x=>Fp k x.1 x.2.1 x.2.2⟩
def Fp.d:Fd := { nt:=20,nv:=3,nm:=[0,1,2,3,4,5],res:=[6],cs:=λ k=>[(171,Ch.e k),(172,Lj.e k)] }
theorem Fp.s (k:Nat):CK 152 (Fp.e k):=mS Fp.d k [] Tryz.func152 ⟨Ch.s k,Lj.s k,trivial⟩ trivial (by kernel_rfl) (λ x=>by kernel_rfl)
def Kf.e (k:Nat):Ent:=⟨1,[(.val false t2)],[(.one,(.i .i64))],λ x=>Kf k x⟩
def He.p:LF:=⟨⟨[],[(3,(.i .u32)),(7,t2),(8,(.i .i64)),(9,(.i .i64)),(17,(.i .i64))]⟩,[((.exit 2),⟨[],[(3,(.i .u32)),(7,t2),(8,(.i .i64)),(9,(.i .i64))]⟩)],λ k x=>He k x.1 x.2.1 x.2.2.1 x.2.2.2.1 x.2.2.2.2⟩
def I4.p:LF:=⟨⟨[],[(3,(.i .u32)),(7,t2),(8,(.i .i64)),(9,(.i .i64))]⟩,[((.exit 0),⟨[],[(3,(.i .u32))]⟩)],λ k x=>I4 k x.1 x.2.1 x.2.2.1 x.2.2.2⟩
def Kf.d:Fd := { nt:=32,nv:=1,nm:=[0,1,3,4,5,6],res:=[2],ls:=[(7,He.p),(3,I4.p)] }
theorem He.s:LL Tryz.f153 Kf.d 7 He.p:=mL [] (λ _=>trivial) trivial (by kernel_rfl) (λ _=>rfl) (λ k x=>by kernel_rfl)
theorem I4.s:LL Tryz.f153 Kf.d 3 I4.p:=mL [7] (λ _=>trivial) ⟨He.s,trivial⟩ (by kernel_rfl) (λ _=>rfl) (λ k x=>by kernel_rfl)
theorem Kf.s (k:Nat):CK 153 (Kf.e k):=mS Kf.d k [3] Tryz.func153 trivial ⟨I4.s,trivial⟩ (by kernel_rfl) (λ x=>by kernel_rfl)
def Gz.e (k:Nat):Ent:=⟨1,[(.val true t23)],[(.one,t3)],λ x=>Gz k x⟩
def Gz.d:Fd := { nt:=33,nv:=1,nm:=[0,1,3,4],res:=[2],cs:=λ k=>[(115,Fl.e k),(151,Gy.e k),(152,Fp.e k),(153,Kf.e k)] }
theorem Gz.s (k:Nat):CK 121 (Gz.e k):=mS Gz.d k [] Tryz.func121 ⟨Fl.s k,Gy.s k,Fp.s k,Kf.s k,trivial⟩ trivial (by kernel_rfl) (λ x=>by kernel_rfl)
def Bt.e (k:Nat):Ent:=⟨1,[(.val false t2)],[(.agg,t23),(.one,.b)],λ x=>Bt k x⟩
def Bt.d:Fd := { nt:=41,nv:=1,nm:=[0,1,4,5,6],res:=[3],cs:=λ k=>[(119,Bh.e k),(120,Ax.e k),(121,Gz.e k)] }
theorem Bt.s (k:Nat):CK 69 (Bt.e k):=mS Bt.d k [] Tryz.func69 ⟨Bh.s k,Ax.s k,Gz.s k,trivial⟩ trivial (by kernel_rfl) (λ x=>by kernel_rfl)
def Cm.e (k:Nat):Ent:=⟨2,[(.val true t23),(.val true t23)],[(.one,.b)],λ x=>Cm x.1 x.2⟩
def Cm.d:Fd := { nt:=26,nv:=2,nm:=[0,1,2,3],res:=[4],rf:=true }
theorem Cm.s (k:Nat):CK 91 (Cm.e k):=mS Cm.d k [] Tryz.func91 trivial trivial (by kernel_rfl) (λ x=>by kernel_rfl)
def Bn.e (k:Nat):Ent:=⟨3,[(.val true t42),(.val false .s),(.val true t23)],[(.one,.b)],λ x=>Bn k x.1 x.2.1 x.2.2⟩
def Dj.p:LF:=⟨⟨[(5,(.bp 5 0 0)),(6999,(.hd 5))],[(1,.s),(10,t34),(11,(.i .i64)),(12,(.i .i64)),(6000,t23)]⟩,[(.ret,⟨[],[(6,.b)]⟩),((.exit 0),⟨[],[]⟩)],λ k x=>Dj k x.1 x.2.1 x.2.2.1 x.2.2.2.1 x.2.2.2.2⟩
def Bn.d:Fd := { nt:=27,nv:=3,nm:=[0,1,2,3,4,5,7,8],res:=[6],cs:=λ k=>[(91,Cm.e k)],ls:=[(2,Dj.p)],rf:=true }
theorem Bn.a (k:Nat):AC (Bn.d.cs k):=⟨Cm.s k,trivial⟩
theorem Dj.s:LL Tryz.f70 Bn.d 2 Dj.p:=mL [] Bn.a trivial (by kernel_rfl) (λ _=>rfl) (λ k x=>by kernel_rfl)
theorem Bn.s (k:Nat):CK 70 (Bn.e k):=mS Bn.d k [2] Tryz.func70 (Bn.a k) ⟨Dj.s,trivial⟩ (by kernel_rfl) (λ x=>by kernel_rfl)
def Cc.e (k:Nat):Ent:=⟨1,[(.val true t42)],[(.one,.b)],λ x=>Cc k x⟩
def Fq.p:LF:=⟨⟨[(1,(.bp 1 0 0)),(2999,(.hd 9))],[(10,t39),(11,(.i .i64)),(12,(.i .i64)),(23,t13),(24,(.i .i64)),(25,(.i .i64)),(2000,t42)]⟩,[(.ret,⟨[],[(2,.b)]⟩),((.exit 2),⟨[(1,(.bp 1 0 0)),(2999,(.hd 9))],[(10,t39),(11,(.i .i64)),(12,(.i .i64)),(2000,t42)]⟩)],λ k x=>Fq k x.1 x.2.1 x.2.2.1 x.2.2.2.1 x.2.2.2.2.1 x.2.2.2.2.2.1 x.2.2.2.2.2.2⟩
def H0.p:LF:=⟨⟨[(1,(.bp 1 0 0)),(2999,(.hd 9))],[(10,t39),(11,(.i .i64)),(12,(.i .i64)),(2000,t42)]⟩,[(.ret,⟨[],[(2,.b)]⟩),((.exit 0),⟨[],[]⟩)],λ k x=>H0 k x.1 x.2.1 x.2.2.1 x.2.2.2⟩
def Cc.d:Fd := { nt:=46,nv:=1,nm:=[0,1,3,4,5,6,7,8],res:=[2],cs:=λ k=>[(69,Bt.e k),(70,Bn.e k)],ls:=[(5,Fq.p),(2,H0.p)],rf:=true }
theorem Cc.a (k:Nat):AC (Cc.d.cs k):=⟨Bt.s k,Bn.s k,trivial⟩
theorem Fq.s:LL Tryz.f29 Cc.d 5 Fq.p:=mL [] Cc.a trivial (by kernel_rfl) (λ _=>rfl) (λ k x=>by kernel_rfl)
theorem H0.s:LL Tryz.f29 Cc.d 2 H0.p:=mL [5] Cc.a ⟨Fq.s,trivial⟩ (by kernel_rfl) (λ _=>rfl) (λ k x=>by kernel_rfl)
theorem Cc.s (k:Nat):CK 29 (Cc.e k):=mS Cc.d k [2] Tryz.func29 (Cc.a k) ⟨H0.s,trivial⟩ (by kernel_rfl) (λ x=>by kernel_rfl)
def Hh.e (k:Nat):Ent:=⟨1,[(.val false t30)],[(.one,t31)],λ x=>Hh x⟩
def Hh.d:Fd := { nt:=5,nv:=1,nm:=[0,1],res:=[2] }
theorem Hh.s (k:Nat):CK 71 (Hh.e k):=mS Hh.d k [] Tryz.func71 trivial trivial (by kernel_rfl) (λ x=>by kernel_rfl)
def Kg.e (k:Nat):Ent:=⟨2,[(.val false .s),(.val true t23)],[(.agg,t25)],λ x=>Kg x.1 x.2⟩
def Kg.d:Fd := { nt:=14,nv:=2,nm:=[0,1,2,3],res:=[],rf:=true }
theorem Kg.s (k:Nat):CK 72 (Kg.e k):=mS Kg.d k [] Tryz.func72 trivial trivial (by kernel_rfl) (λ x=>by kernel_rfl)
def Ci.e (k:Nat):Ent:=⟨1,[(.val true t42)],[(.one,.b)],λ x=>Ci k x⟩
def Gi.p:LF:=⟨⟨[(1,(.bp 1 0 0)),(6,(.bp 6 0 0)),(2999,(.hd 9)),(7999,(.hd 6))],[(7,.b),(11,t39),(12,(.i .i64)),(13,(.i .i64)),(22,t31),(23,(.i .i64)),(24,(.i .i64)),(29,t34),(30,(.i .i64)),(31,(.i .i64)),(2000,t42),(7000,t25)]⟩,[((.exit 4),⟨[(1,(.bp 1 0 0)),(2999,(.hd 9))],[(7,.b),(11,t39),(12,(.i .i64)),(13,(.i .i64)),(22,t31),(23,(.i .i64)),(24,(.i .i64)),(2000,t42)]⟩)],λ k x=>Gi k x.1 x.2.1 x.2.2.1 x.2.2.2.1 x.2.2.2.2.1 x.2.2.2.2.2.1 x.2.2.2.2.2.2.1 x.2.2.2.2.2.2.2.1 x.2.2.2.2.2.2.2.2.1 x.2.2.2.2.2.2.2.2.2.1 x.2.2.2.2.2.2.2.2.2.2.1 x.2.2.2.2.2.2.2.2.2.2.2⟩
def Hv.p:LF:=⟨⟨[(1,(.bp 1 0 0)),(2999,(.hd 9))],[(11,t39),(12,(.i .i64)),(13,(.i .i64)),(22,t31),(23,(.i .i64)),(24,(.i .i64)),(2000,t42)]⟩,[(.ret,⟨[],[(2,.b)]⟩),((.exit 2),⟨[(1,(.bp 1 0 0)),(2999,(.hd 9))],[(11,t39),(12,(.i .i64)),(13,(.i .i64)),(2000,t42)]⟩)],λ k x=>Hv k x.1 x.2.1 x.2.2.1 x.2.2.2.1 x.2.2.2.2.1 x.2.2.2.2.2.1 x.2.2.2.2.2.2⟩
def Hw.p:LF:=⟨⟨[(1,(.bp 1 0 0)),(2999,(.hd 9))],[(11,t39),(12,(.i .i64)),(13,(.i .i64)),(2000,t42)]⟩,[(.ret,⟨[],[(2,.b)]⟩),((.exit 0),⟨[],[]⟩)],λ k x=>Hw k x.1 x.2.1 x.2.2.1 x.2.2.2⟩
def Ci.d:Fd := { nt:=50,nv:=1,nm:=[0,1,3,4,5,6,7,8,9],res:=[2],cs:=λ k=>[(71,Hh.e k),(72,Kg.e k)],ls:=[(9,Gi.p),(5,Hv.p),(2,Hw.p)],rf:=true }
theorem Ci.a (k:Nat):AC (Ci.d.cs k):=⟨Hh.s k,Kg.s k,trivial⟩
theorem Gi.s:LL Tryz.f30 Ci.d 9 Gi.p:=mL [] Ci.a trivial (by kernel_rfl) (λ _=>rfl) (λ k x=>by kernel_rfl)
theorem Hv.s:LL Tryz.f30 Ci.d 5 Hv.p:=mL [9] Ci.a ⟨Gi.s,trivial⟩ (by kernel_rfl) (λ _=>rfl) (λ k x=>by kernel_rfl)
theorem Hw.s:LL Tryz.f30 Ci.d 2 Hw.p:=mL [5] Ci.a ⟨Hv.s,trivial⟩ (by kernel_rfl) (λ _=>rfl) (λ k x=>by kernel_rfl)
theorem Ci.s (k:Nat):CK 30 (Ci.e k):=mS Ci.d k [2] Tryz.func30 (Ci.a k) ⟨Hw.s,trivial⟩ (by kernel_rfl) (λ x=>by kernel_rfl)
def Hx.e (k:Nat):Ent:=⟨2,[(.val false t0),(.val false .s)],[(.one,.b)],λ x=>Hx k x.1 x.2⟩
def H1.p:LF:=⟨⟨[],[(1,.s),(7,t0),(8,(.i .i64)),(9,(.i .i64))]⟩,[(.ret,⟨[],[(4,.b)]⟩),((.exit 0),⟨[],[]⟩)],λ k x=>H1 k x.1 x.2.1 x.2.2.1 x.2.2.2⟩
def Hx.d:Fd := { nt:=17,nv:=2,nm:=[0,1,2,3,5,6],res:=[4],ls:=[(2,H1.p)],rf:=true }
theorem H1.s:LL Tryz.f73 Hx.d 2 H1.p:=mL [] (λ _=>trivial) trivial (by kernel_rfl) (λ _=>rfl) (λ k x=>by kernel_rfl)
theorem Hx.s (k:Nat):CK 73 (Hx.e k):=mS Hx.d k [2] Tryz.func73 trivial ⟨H1.s,trivial⟩ (by kernel_rfl) (λ x=>by kernel_rfl)
def Kw.e (k:Nat):Ent:=⟨2,[(.val false t12),(.val false .s)],[(.one,(.i .i64))],λ x=>Kw k x.1 x.2⟩
def J6.p:LF:=⟨⟨[],[(1,.s),(7,t12),(8,(.i .i64)),(9,(.i .i64))]⟩,[(.ret,⟨[],[(4,(.i .i64))]⟩),((.exit 0),⟨[],[]⟩)],λ k x=>J6 k x.1 x.2.1 x.2.2.1 x.2.2.2⟩
def Kw.d:Fd := { nt:=20,nv:=2,nm:=[0,1,2,3,5,6],res:=[4],ls:=[(2,J6.p)] }
theorem J6.s:LL Tryz.f122 Kw.d 2 J6.p:=mL [] (λ _=>trivial) trivial (by kernel_rfl) (λ _=>rfl) (λ k x=>by kernel_rfl)
theorem Kw.s (k:Nat):CK 122 (Kw.e k):=mS Kw.d k [2] Tryz.func122 trivial ⟨J6.s,trivial⟩ (by kernel_rfl) (λ x=>by kernel_rfl)
def Ha.e (k:Nat):Ent:=⟨3,[(.val true t42),(.val false .s),(.val true t14)],[(.one,.b)],λ x=>Ha k x.1 x.2.1 x.2.2⟩
def Gj.p:LF:=⟨⟨[(5,(.bp 5 0 0)),(6999,(.hd 3))],[(1,.s),(13,t39),(14,(.i .i64)),(15,(.i .i64)),(6000,t14)]⟩,[(.ret,⟨[],[(6,.b)]⟩),((.exit 0),⟨[],[]⟩)],λ k x=>Gj k x.1 x.2.1 x.2.2.1 x.2.2.2.1 x.2.2.2.2⟩
def Ha.d:Fd := { nt:=46,nv:=3,nm:=[0,1,2,3,4,5,7,8,9,10,11],res:=[6],cs:=λ k=>[(69,Bt.e k),(75,Ae.e k),(122,Kw.e k)],ls:=[(2,Gj.p)],rf:=true }
theorem Ha.a (k:Nat):AC (Ha.d.cs k):=⟨Bt.s k,Ae.s k,Kw.s k,trivial⟩
theorem Gj.s:LL Tryz.f74 Ha.d 2 Gj.p:=mL [] Ha.a trivial (by kernel_rfl) (λ _=>rfl) (λ k x=>by kernel_rfl)
theorem Ha.s (k:Nat):CK 74 (Ha.e k):=mS Ha.d k [2] Tryz.func74 (Ha.a k) ⟨Gj.s,trivial⟩ (by kernel_rfl) (λ x=>by kernel_rfl)
def Ig.e (k:Nat):Ent:=⟨1,[(.val true t42)],[(.one,.b)],λ x=>Ig k x⟩
def Hy.p:LF:=⟨⟨[(1,(.bp 1 0 0)),(2999,(.hd 9))],[(6,t34),(7,(.i .i64)),(8,(.i .i64)),(2000,t42)]⟩,[(.ret,⟨[],[(2,.b)]⟩),((.exit 0),⟨[],[]⟩)],λ k x=>Hy k x.1 x.2.1 x.2.2.1 x.2.2.2⟩
def Ig.d:Fd := { nt:=33,nv:=1,nm:=[0,1,3,4],res:=[2],cs:=λ k=>[(73,Hx.e k),(74,Ha.e k)],ls:=[(2,Hy.p)],rf:=true }
theorem Ig.a (k:Nat):AC (Ig.d.cs k):=⟨Hx.s k,Ha.s k,trivial⟩
theorem Hy.s:LL Tryz.f31 Ig.d 2 Hy.p:=mL [] Ig.a trivial (by kernel_rfl) (λ _=>rfl) (λ k x=>by kernel_rfl)
theorem Ig.s (k:Nat):CK 31 (Ig.e k):=mS Ig.d k [2] Tryz.func31 (Ig.a k) ⟨Hy.s,trivial⟩ (by kernel_rfl) (λ x=>by kernel_rfl)
def Du.e (k:Nat):Ent:=⟨1,[(.val true t42)],[(.one,.b)],λ x=>Du k x⟩
def Fs.p:LF:=⟨⟨[(1,(.bp 1 0 0)),(2999,(.hd 9))],[(6,t34),(7,(.i .i64)),(8,(.i .i64)),(2000,t42)]⟩,[(.ret,⟨[],[(2,.b)]⟩),((.exit 0),⟨[],[]⟩)],λ k x=>Fs k x.1 x.2.1 x.2.2.1 x.2.2.2⟩
def Du.d:Fd := { nt:=39,nv:=1,nm:=[0,1,3,4],res:=[2],cs:=λ k=>[(75,Ae.e k)],ls:=[(2,Fs.p)],rf:=true }
theorem Du.a (k:Nat):AC (Du.d.cs k):=⟨Ae.s k,trivial⟩
theorem Fs.s:LL Tryz.f32 Du.d 2 Fs.p:=mL [] Du.a trivial (by kernel_rfl) (λ _=>rfl) (λ k x=>by kernel_rfl)
theorem Du.s (k:Nat):CK 32 (Du.e k):=mS Du.d k [2] Tryz.func32 (Du.a k) ⟨Fs.s,trivial⟩ (by kernel_rfl) (λ x=>by kernel_rfl)
def La.e (k:Nat):Ent:=⟨1,[(.val true t42)],[(.one,(.i .i64))],λ x=>La k x⟩
def La.d:Fd := { nt:=23,nv:=1,nm:=[0,1],res:=[2],cs:=λ k=>[(28,Cb.e k),(29,Cc.e k),(30,Ci.e k),(31,Ig.e k),(32,Du.e k)],rf:=true }
theorem La.s (k:Nat):CK 8 (La.e k):=mS La.d k [] Tryz.func8 ⟨Cb.s k,Cc.s k,Ci.s k,Ig.s k,Du.s k,trivial⟩ trivial (by kernel_rfl) (λ x=>by kernel_rfl)
def J7.e (k:Nat):Ent:=⟨2,[(.val true t14),(.val true t14)],[(.one,.b)],λ x=>J7 x.1 x.2⟩
def J7.d:Fd := { nt:=20,nv:=2,nm:=[0,1,2,3],res:=[4],rf:=true }
theorem J7.s (k:Nat):CK 76 (J7.e k):=mS J7.d k [] Tryz.func76 trivial trivial (by kernel_rfl) (λ x=>by kernel_rfl)
def Dn.e (k:Nat):Ent:=⟨2,[(.val false t20),(.val false t20)],[(.one,.b)],λ x=>Dn k x.1 x.2⟩
def Ed.p:LF:=⟨⟨[],[(0,t20),(1,t20),(5,(.i .i64))]⟩,[(.ret,⟨[],[(4,.b)]⟩),((.exit 0),⟨[],[]⟩)],λ k x=>Ed k x.1 x.2.1 x.2.2⟩
def Dn.d:Fd := { nt:=27,nv:=2,nm:=[0,1,2,3,5],res:=[4],cs:=λ k=>[(76,J7.e k)],ls:=[(4,Ed.p)],rf:=true }
theorem Dn.a (k:Nat):AC (Dn.d.cs k):=⟨J7.s k,trivial⟩
theorem Ed.s:LL Tryz.f33 Dn.d 4 Ed.p:=mL [] Dn.a trivial (by kernel_rfl) (λ _=>rfl) (λ k x=>by kernel_rfl)
theorem Dn.s (k:Nat):CK 33 (Dn.e k):=mS Dn.d k [4] Tryz.func33 (Dn.a k) ⟨Ed.s,trivial⟩ (by kernel_rfl) (λ x=>by kernel_rfl)
def Hf.e (k:Nat):Ent:=⟨2,[(.val false t4),(.val false t4)],[(.one,.b)],λ x=>Hf k x.1 x.2⟩
def Ee.p:LF:=⟨⟨[],[(0,t4),(1,t4),(5,(.i .i64))]⟩,[(.ret,⟨[],[(4,.b)]⟩),((.exit 0),⟨[],[]⟩)],λ k x=>Ee k x.1 x.2.1 x.2.2⟩
def Hf.d:Fd := { nt:=26,nv:=2,nm:=[0,1,2,3,5],res:=[4],ls:=[(4,Ee.p)],rf:=true }
theorem Ee.s:LL Tryz.f154 Hf.d 4 Ee.p:=mL [] (λ _=>trivial) trivial (by kernel_rfl) (λ _=>rfl) (λ k x=>by kernel_rfl)
theorem Hf.s (k:Nat):CK 154 (Hf.e k):=mS Hf.d k [4] Tryz.func154 trivial ⟨Ee.s,trivial⟩ (by kernel_rfl) (λ x=>by kernel_rfl)
def Ix.e (k:Nat):Ent:=⟨2,[(.val true t4),(.val true t4)],[(.one,.b)],λ x=>Ix k x.1 x.2⟩
def Ix.d:Fd := { nt:=11,nv:=2,nm:=[0,1,2,3],res:=[4],cs:=λ k=>[(154,Hf.e k)],rf:=true }
theorem Ix.s (k:Nat):CK 123 (Ix.e k):=mS Ix.d k [] Tryz.func123 ⟨Hf.s k,trivial⟩ trivial (by kernel_rfl) (λ x=>by kernel_rfl)
def Cd.e (k:Nat):Ent:=⟨2,[(.val false t8),(.val false t8)],[(.one,.b)],λ x=>Cd k x.1 x.2⟩
def D5.p:LF:=⟨⟨[],[(0,t8),(1,t8),(5,(.i .i64))]⟩,[(.ret,⟨[],[(4,.b)]⟩),((.exit 0),⟨[],[]⟩)],λ k x=>D5 k x.1 x.2.1 x.2.2⟩
def Cd.d:Fd := { nt:=27,nv:=2,nm:=[0,1,2,3,5],res:=[4],cs:=λ k=>[(123,Ix.e k)],ls:=[(4,D5.p)],rf:=true }
theorem Cd.a (k:Nat):AC (Cd.d.cs k):=⟨Ix.s k,trivial⟩
theorem D5.s:LL Tryz.f77 Cd.d 4 D5.p:=mL [] Cd.a trivial (by kernel_rfl) (λ _=>rfl) (λ k x=>by kernel_rfl)
theorem Cd.s (k:Nat):CK 77 (Cd.e k):=mS Cd.d k [4] Tryz.func77 (Cd.a k) ⟨D5.s,trivial⟩ (by kernel_rfl) (λ x=>by kernel_rfl)
def Iy.e (k:Nat):Ent:=⟨2,[(.val true t16),(.val true t16)],[(.one,.b)],λ x=>Iy k x.1 x.2⟩
def Iy.d:Fd := { nt:=16,nv:=2,nm:=[0,1,2,3],res:=[4],cs:=λ k=>[(77,Cd.e k)],rf:=true }
theorem Iy.s (k:Nat):CK 34 (Iy.e k):=mS Iy.d k [] Tryz.func34 ⟨Cd.s k,trivial⟩ trivial (by kernel_rfl) (λ x=>by kernel_rfl)
def D7.e (k:Nat):Ent:=⟨2,[(.val false t2),(.val false t2)],[(.one,.b)],λ x=>D7 k x.1 x.2⟩
def D6.p:LF:=⟨⟨[],[(0,t2),(1,t2),(5,(.i .i64))]⟩,[(.ret,⟨[],[(4,.b)]⟩),((.exit 0),⟨[],[]⟩)],λ k x=>D6 k x.1 x.2.1 x.2.2⟩
def D7.d:Fd := { nt:=26,nv:=2,nm:=[0,1,2,3,5],res:=[4],ls:=[(4,D6.p)],rf:=true }
theorem D6.s:LL Tryz.f157 D7.d 4 D6.p:=mL [] (λ _=>trivial) trivial (by kernel_rfl) (λ _=>rfl) (λ k x=>by kernel_rfl)
theorem D7.s (k:Nat):CK 157 (D7.e k):=mS D7.d k [4] Tryz.func157 trivial ⟨D6.s,trivial⟩ (by kernel_rfl) (λ x=>by kernel_rfl)
def Hz.e (k:Nat):Ent:=⟨2,[(.val true t10),(.val true t10)],[(.one,.b)],λ x=>Hz k x.1 x.2⟩
def Hz.d:Fd := { nt:=16,nv:=2,nm:=[0,1,2,3],res:=[4],cs:=λ k=>[(157,D7.e k)],rf:=true }
theorem Hz.s (k:Nat):CK 173 (Hz.e k):=mS Hz.d k [] Tryz.func173 ⟨D7.s k,trivial⟩ trivial (by kernel_rfl) (λ x=>by kernel_rfl)
def B4.e (k:Nat):Ent:=⟨2,[(.val false t12),(.val false t12)],[(.one,.b)],λ x=>B4 k x.1 x.2⟩
def Bx.p:LF:=⟨⟨[],[(0,t12),(1,t12),(5,(.i .i64))]⟩,[(.ret,⟨[],[(4,.b)]⟩),((.exit 0),⟨[],[]⟩)],λ k x=>Bx k x.1 x.2.1 x.2.2⟩
def B4.d:Fd := { nt:=27,nv:=2,nm:=[0,1,2,3,5],res:=[4],cs:=λ k=>[(173,Hz.e k)],ls:=[(4,Bx.p)],rf:=true }
theorem B4.a (k:Nat):AC (B4.d.cs k):=⟨Hz.s k,trivial⟩
theorem Bx.s:LL Tryz.f155 B4.d 4 Bx.p:=mL [] B4.a trivial (by kernel_rfl) (λ _=>rfl) (λ k x=>by kernel_rfl)
theorem B4.s (k:Nat):CK 155 (B4.e k):=mS B4.d k [4] Tryz.func155 (B4.a k) ⟨Bx.s,trivial⟩ (by kernel_rfl) (λ x=>by kernel_rfl)
def Iz.e (k:Nat):Ent:=⟨2,[(.val true t27),(.val true t27)],[(.one,.b)],λ x=>Iz k x.1 x.2⟩
def Iz.d:Fd := { nt:=17,nv:=2,nm:=[0,1,2,3],res:=[4],cs:=λ k=>[(155,B4.e k)],rf:=true }
theorem Iz.s (k:Nat):CK 124 (Iz.e k):=mS Iz.d k [] Tryz.func124 ⟨B4.s k,trivial⟩ trivial (by kernel_rfl) (λ x=>by kernel_rfl)
def Bu.e (k:Nat):Ent:=⟨2,[(.val true t14),(.val true t14)],[(.one,.b)],λ x=>Bu x.1 x.2⟩
def Bu.d:Fd := { nt:=20,nv:=2,nm:=[0,1,2,3],res:=[4],rf:=true }
theorem Bu.s (k:Nat):CK 36 (Bu.e k):=mS Bu.d k [] Tryz.func36 trivial trivial (by kernel_rfl) (λ x=>by kernel_rfl)
def J8.e (k:Nat):Ent:=⟨2,[(.val true t25),(.val true t25)],[(.one,.b)],λ x=>J8 x.1 x.2⟩
def J8.d:Fd := { nt:=26,nv:=2,nm:=[0,1,2,3],res:=[4],cs:=λ k=>[(36,Bu.e k)],rf:=true }
theorem J8.s (k:Nat):CK 156 (J8.e k):=mS J8.d k [] Tryz.func156 ⟨Bu.s k,trivial⟩ trivial (by kernel_rfl) (λ x=>by kernel_rfl)
def D8.e (k:Nat):Ent:=⟨2,[(.val false t30),(.val false t30)],[(.one,.b)],λ x=>D8 k x.1 x.2⟩
def Ef.p:LF:=⟨⟨[],[(0,t30),(1,t30),(5,(.i .i64))]⟩,[(.ret,⟨[],[(4,.b)]⟩),((.exit 0),⟨[],[]⟩)],λ k x=>Ef k x.1 x.2.1 x.2.2⟩
def D8.d:Fd := { nt:=27,nv:=2,nm:=[0,1,2,3,5],res:=[4],cs:=λ k=>[(156,J8.e k)],ls:=[(4,Ef.p)],rf:=true }
theorem D8.a (k:Nat):AC (D8.d.cs k):=⟨J8.s k,trivial⟩
theorem Ef.s:LL Tryz.f125 D8.d 4 Ef.p:=mL [] D8.a trivial (by kernel_rfl) (λ _=>rfl) (λ k x=>by kernel_rfl)
theorem D8.s (k:Nat):CK 125 (D8.e k):=mS D8.d k [4] Tryz.func125 (D8.a k) ⟨Ef.s,trivial⟩ (by kernel_rfl) (λ x=>by kernel_rfl)
def J0.e (k:Nat):Ent:=⟨2,[(.val true t37),(.val true t37)],[(.one,.b)],λ x=>J0 k x.1 x.2⟩
def J0.d:Fd := { nt:=28,nv:=2,nm:=[0,1,2,3],res:=[4],cs:=λ k=>[(124,Iz.e k),(125,D8.e k)],rf:=true }
theorem J0.s (k:Nat):CK 78 (J0.e k):=mS J0.d k [] Tryz.func78 ⟨Iz.s k,D8.s k,trivial⟩ trivial (by kernel_rfl) (λ x=>by kernel_rfl)
def Ce.e (k:Nat):Ent:=⟨2,[(.val false t39),(.val false t39)],[(.one,.b)],λ x=>Ce k x.1 x.2⟩
def D9.p:LF:=⟨⟨[],[(0,t39),(1,t39),(5,(.i .i64))]⟩,[(.ret,⟨[],[(4,.b)]⟩),((.exit 0),⟨[],[]⟩)],λ k x=>D9 k x.1 x.2.1 x.2.2⟩
def Ce.d:Fd := { nt:=27,nv:=2,nm:=[0,1,2,3,5],res:=[4],cs:=λ k=>[(78,J0.e k)],ls:=[(4,D9.p)],rf:=true }
theorem Ce.a (k:Nat):AC (Ce.d.cs k):=⟨J0.s k,trivial⟩
theorem D9.s:LL Tryz.f35 Ce.d 4 D9.p:=mL [] Ce.a trivial (by kernel_rfl) (λ _=>rfl) (λ k x=>by kernel_rfl)
theorem Ce.s (k:Nat):CK 35 (Ce.e k):=mS Ce.d k [4] Tryz.func35 (Ce.a k) ⟨D9.s,trivial⟩ (by kernel_rfl) (λ x=>by kernel_rfl)
def I5.e (k:Nat):Ent:=⟨2,[(.val true t23),(.val true t23)],[(.one,.b)],λ x=>I5 k x.1 x.2⟩
def I5.d:Fd := { nt:=22,nv:=2,nm:=[0,1,2,3],res:=[4],cs:=λ k=>[(36,Bu.e k),(157,D7.e k)],rf:=true }
theorem I5.s (k:Nat):CK 126 (I5.e k):=mS I5.d k [] Tryz.func126 ⟨Bu.s k,D7.s k,trivial⟩ trivial (by kernel_rfl) (λ x=>by kernel_rfl)
def I0.e (k:Nat):Ent:=⟨2,[(.val true t32),(.val true t32)],[(.one,.b)],λ x=>I0 k x.1 x.2⟩
def I0.d:Fd := { nt:=21,nv:=2,nm:=[0,1,2,3],res:=[4],cs:=λ k=>[(126,I5.e k)],rf:=true }
theorem I0.s (k:Nat):CK 79 (I0.e k):=mS I0.d k [] Tryz.func79 ⟨I5.s k,trivial⟩ trivial (by kernel_rfl) (λ x=>by kernel_rfl)
def Bb.e (k:Nat):Ent:=⟨2,[(.val false t34),(.val false t34)],[(.one,.b)],λ x=>Bb k x.1 x.2⟩
def Bz.p:LF:=⟨⟨[],[(0,t34),(1,t34),(5,(.i .i64))]⟩,[(.ret,⟨[],[(4,.b)]⟩),((.exit 0),⟨[],[]⟩)],λ k x=>Bz k x.1 x.2.1 x.2.2⟩
def Bb.d:Fd := { nt:=27,nv:=2,nm:=[0,1,2,3,5],res:=[4],cs:=λ k=>[(79,I0.e k)],ls:=[(4,Bz.p)],rf:=true }
theorem Bb.a (k:Nat):AC (Bb.d.cs k):=⟨I0.s k,trivial⟩
theorem Bz.s:LL Tryz.f37 Bb.d 4 Bz.p:=mL [] Bb.a trivial (by kernel_rfl) (λ _=>rfl) (λ k x=>by kernel_rfl)
theorem Bb.s (k:Nat):CK 37 (Bb.e k):=mS Bb.d k [4] Tryz.func37 (Bb.a k) ⟨Bz.s,trivial⟩ (by kernel_rfl) (λ x=>by kernel_rfl)
def Di.e (k:Nat):Ent:=⟨2,[(.val false t0),(.val false t0)],[(.one,.b)],λ x=>Di k x.1 x.2⟩
def Bi.p:LF:=⟨⟨[],[(0,t0),(1,t0),(5,(.i .i64))]⟩,[(.ret,⟨[],[(4,.b)]⟩),((.exit 0),⟨[],[]⟩)],λ k x=>Bi k x.1 x.2.1 x.2.2⟩
def Di.d:Fd := { nt:=26,nv:=2,nm:=[0,1,2,3,5],res:=[4],ls:=[(4,Bi.p)],rf:=true }
theorem Bi.s:LL Tryz.f38 Di.d 4 Bi.p:=mL [] (λ _=>trivial) trivial (by kernel_rfl) (λ _=>rfl) (λ k x=>by kernel_rfl)
theorem Di.s (k:Nat):CK 38 (Di.e k):=mS Di.d k [4] Tryz.func38 trivial ⟨Bi.s,trivial⟩ (by kernel_rfl) (λ x=>by kernel_rfl)
def Dv.e (k:Nat):Ent:=⟨2,[(.val true t42),(.val true t42)],[(.one,.b)],λ x=>Dv k x.1 x.2⟩
def Dv.d:Fd := { nt:=41,nv:=2,nm:=[0,1,2,3],res:=[4],cs:=λ k=>[(33,Dn.e k),(34,Iy.e k),(35,Ce.e k),(36,Bu.e k),(37,Bb.e k),(38,Di.e k)],rf:=true }
theorem Dv.s (k:Nat):CK 9 (Dv.e k):=mS Dv.d k [] Tryz.func9 ⟨Dn.s k,Iy.s k,Ce.s k,Bu.s k,Bb.s k,Di.s k,trivial⟩ trivial (by kernel_rfl) (λ x=>by kernel_rfl)
def Ia.e (k:Nat):Ent:=⟨1,[(.val true t41)],[(.one,.b)],λ x=>Ia k x⟩
def Ia.d:Fd := { nt:=27,nv:=1,nm:=[0,1,3,4,5,6],res:=[2],cs:=λ k=>[(5,Dq.e k),(6,L9.e k),(7,B8.e k),(8,La.e k),(9,Dv.e k)],rf:=true }
theorem Ia.s (k:Nat):CK 3 (Ia.e k):=mS Ia.d k [] Tryz.func3 ⟨Dq.s k,L9.s k,B8.s k,La.s k,Dv.s k,trivial⟩ trivial (by kernel_rfl) (λ x=>by kernel_rfl)
def Au.e (k:Nat):Ent:=⟨2,[(.val true t42),(.val false t4)],[(.one,t5)],λ x=>Au k x.1 x.2⟩
def Ao.p:LF:=⟨⟨[(2,(.bp 2 0 0)),(3999,(.hd 9))],[(1,t4),(5,t5),(6,(.i .i64)),(7,(.i .i64)),(3000,t42)]⟩,[((.exit 2),⟨[(2,(.bp 2 0 0)),(3999,(.hd 9))],[(1,t4),(5,t5),(6,(.i .i64)),(3000,t42)]⟩)],λ k x=>Ao k x.1 x.2.1 x.2.2.1 x.2.2.2.1 x.2.2.2.2⟩
def Bj.p:LF:=⟨⟨[(2,(.bp 2 0 0)),(3999,(.hd 9))],[(1,t4),(5,t5),(6,(.i .i64)),(3000,t42)]⟩,[((.exit 0),⟨[],[(5,t5)]⟩)],λ k x=>Bj k x.1 x.2.1 x.2.2.1 x.2.2.2⟩
def Au.d:Fd := { nt:=38,nv:=2,nm:=[0,1,2,3,5,6,7],res:=[4],ls:=[(6,Ao.p),(3,Bj.p)],rf:=true }
theorem Ao.s:LL Tryz.f80 Au.d 6 Ao.p:=mL [] (λ _=>trivial) trivial (by kernel_rfl) (λ _=>rfl) (λ k x=>by kernel_rfl)
theorem Bj.s:LL Tryz.f80 Au.d 3 Bj.p:=mL [6] (λ _=>trivial) ⟨Ao.s,trivial⟩ (by kernel_rfl) (λ _=>rfl) (λ k x=>by kernel_rfl)
theorem Au.s (k:Nat):CK 80 (Au.e k):=mS Au.d k [3] Tryz.func80 trivial ⟨Bj.s,trivial⟩ (by kernel_rfl) (λ x=>by kernel_rfl)
def Jl.e (k:Nat):Ent:=⟨1,[(.val false .s)],[(.one,(.i .i64))],λ x=>Jl k x⟩
def H2.p:LF:=⟨⟨[],[(0,.s),(3,(.i .i64)),(4,(.i .i64))]⟩,[((.exit 0),⟨[],[(3,(.i .i64))]⟩)],λ k x=>H2 k x.1 x.2.1 x.2.2⟩
def Jl.d:Fd := { nt:=20,nv:=1,nm:=[0,1,3,4],res:=[2],ls:=[(3,H2.p)],rf:=true }
theorem H2.s:LL Tryz.f158 Jl.d 3 H2.p:=mL [] (λ _=>trivial) trivial (by kernel_rfl) (λ _=>rfl) (λ k x=>by kernel_rfl)
theorem Jl.s (k:Nat):CK 158 (Jl.e k):=mS Jl.d k [3] Tryz.func158 trivial ⟨H2.s,trivial⟩ (by kernel_rfl) (λ x=>by kernel_rfl)
def J1.e (k:Nat):Ent:=⟨2,[(.val false .s),(.val false (.i .i64))],[(.one,(.i .i64))],λ x=>J1 k x.1 x.2⟩
def J1.d:Fd := { nt:=11,nv:=2,nm:=[0,1,2,3],res:=[4],cs:=λ k=>[(158,Jl.e k)],rf:=true }
theorem J1.s (k:Nat):CK 127 (J1.e k):=mS J1.d k [] Tryz.func127 ⟨Jl.s k,trivial⟩ trivial (by kernel_rfl) (λ x=>by kernel_rfl)
def Bo.e (k:Nat):Ent:=⟨2,[(.val true t16),(.val false .s)],[(.one,t5)],λ x=>Bo k x.1 x.2⟩
def Bo.d:Fd := { nt:=22,nv:=2,nm:=[0,1,2,3],res:=[4],cs:=λ k=>[(127,J1.e k)],rf:=true }
theorem Bo.s (k:Nat):CK 81 (Bo.e k):=mS Bo.d k [] Tryz.func81 ⟨J1.s k,trivial⟩ trivial (by kernel_rfl) (λ x=>by kernel_rfl)
def H3.e (k:Nat):Ent:=⟨1,[(.val true t42)],[(.one,t5)],λ x=>H3 k x⟩
def H3.d:Fd := { nt:=8,nv:=1,nm:=[0,1],res:=[2],cs:=λ k=>[(80,Au.e k),(81,Bo.e k)],rf:=true }
theorem H3.s (k:Nat):CK 39 (H3.e k):=mS H3.d k [] Tryz.func39 ⟨Au.s k,Bo.s k,trivial⟩ trivial (by kernel_rfl) (λ x=>by kernel_rfl)
def G8.e (k:Nat):Ent:=⟨1,[(.val true t27)],[(.one,t1)],λ x=>G8 k x⟩
def H4.p:LF:=⟨⟨[(1,(.bp 1 0 0)),(2999,(.hd 2))],[(3,t1),(4,(.i .i64)),(7,(.i .i64)),(2000,t27)]⟩,[((.exit 2),⟨[(1,(.bp 1 0 0)),(2999,(.hd 2))],[(3,t1),(4,(.i .i64)),(7,(.i .i64)),(2000,t27)]⟩)],λ k x=>H4 k x.1 x.2.1 x.2.2.1 x.2.2.2⟩
def Dw.p:LF:=⟨⟨[(1,(.bp 1 0 0)),(2999,(.hd 2))],[(3,t1),(4,(.i .i64)),(2000,t27)]⟩,[((.exit 0),⟨[],[(3,t1)]⟩)],λ k x=>Dw k x.1 x.2.1 x.2.2⟩
def G8.d:Fd := { nt:=98,nv:=1,nm:=[0,1,3,4,5,6,7],res:=[2],cs:=λ k=>[(58,Ey.e k),(82,As.e k),(83,G7.e k)],ls:=[(9,H4.p),(3,Dw.p)],rf:=true }
theorem G8.a (k:Nat):AC (G8.d.cs k):=⟨Ey.s k,As.s k,G7.s k,trivial⟩
theorem H4.s:LL Tryz.f40 G8.d 9 H4.p:=mL [] G8.a trivial (by kernel_rfl) (λ _=>rfl) (λ k x=>by kernel_rfl)
theorem Dw.s:LL Tryz.f40 G8.d 3 Dw.p:=mL [9] G8.a ⟨H4.s,trivial⟩ (by kernel_rfl) (λ _=>rfl) (λ k x=>by kernel_rfl)
theorem G8.s (k:Nat):CK 40 (G8.e k):=mS G8.d k [3] Tryz.func40 (G8.a k) ⟨Dw.s,trivial⟩ (by kernel_rfl) (λ x=>by kernel_rfl)
def Ft.e (k:Nat):Ent:=⟨2,[(.val true t27),(.val false .s)],[(.one,t3),(.one,.b)],λ x=>Ft k x.1 x.2⟩
def Ft.d:Fd := { nt:=22,nv:=2,nm:=[0,1,2,3,6],res:=[4,5],cs:=λ k=>[(83,G7.e k)] }
theorem Ft.s (k:Nat):CK 132 (Ft.e k):=mS Ft.d k [] Tryz.func132 ⟨G7.s k,trivial⟩ trivial (by kernel_rfl) (λ x=>by kernel_rfl)
def Ih.e (k:Nat):Ent:=⟨2,[(.val true t27),(.val false .s)],[(.agg,t24),(.one,(.i .i64))],λ x=>Ih k x.1 x.2⟩
def Ih.d:Fd := { nt:=28,nv:=2,nm:=[0,1,2,3,6,7,8,9],res:=[5],cs:=λ k=>[(82,As.e k),(132,Ft.e k)],mv:=[27] }
theorem Ih.s (k:Nat):CK 85 (Ih.e k):=mS Ih.d k [] Tryz.func85 ⟨As.s k,Ft.s k,trivial⟩ trivial (by kernel_rfl) (λ x=>by kernel_rfl)
def Bc.e (k:Nat):Ent:=⟨2,[(.val true t42),(.val false .s)],[(.agg,t23),(.one,.b)],λ x=>Bc k x.1 x.2⟩
def Ap.p:LF:=⟨⟨[(2,(.bp 2 0 0)),(4,(.bp 4 0 0)),(6,(.bp 6 0 0)),(3999,(.hd 9)),(5999,(.hd 5)),(7999,(.hd 5))],[(1,.s),(7,.b),(8,(.i .i64)),(3000,t42),(5000,t24),(7000,t23)]⟩,[((.exit 0),⟨[(4,(.bp 4 0 0)),(6,(.bp 6 0 0)),(5999,(.hd 5)),(7999,(.hd 5))],[(7,.b),(5000,t24),(7000,t23)]⟩)],λ k x=>Ap k x.1 x.2.1 x.2.2.1 x.2.2.2.1 x.2.2.2.2.1 x.2.2.2.2.2⟩
def Bc.d:Fd := { nt:=44,nv:=2,nm:=[0,1,2,3,6,7,8,9,10],res:=[5],cs:=λ k=>[(85,Ih.e k),(106,H8.e k)],ls:=[(4,Ap.p)],rf:=true }
theorem Bc.a (k:Nat):AC (Bc.d.cs k):=⟨Ih.s k,H8.s k,trivial⟩
theorem Ap.s:LL Tryz.f84 Bc.d 4 Ap.p:=mL [] Bc.a trivial (by kernel_rfl) (λ _=>rfl) (λ k x=>by kernel_rfl)
theorem Bc.s (k:Nat):CK 84 (Bc.e k):=mS Bc.d k [4] Tryz.func84 (Bc.a k) ⟨Ap.s,trivial⟩ (by kernel_rfl) (λ x=>by kernel_rfl)
def Cf.e (k:Nat):Ent:=⟨2,[(.val true t42),(.val false .s)],[(.one,.b)],λ x=>Cf k x.1 x.2⟩
def C0.p:LF:=⟨⟨[(2,(.bp 2 0 0)),(5,(.bp 5 0 0)),(3999,(.hd 9)),(6999,(.hd 5))],[(1,.s),(6,.b),(7,t5),(8,(.i .i64)),(3000,t42),(6000,t23)]⟩,[(.ret,⟨[],[(4,.b)]⟩),((.exit 0),⟨[],[]⟩)],λ k x=>C0 k x.1 x.2.1 x.2.2.1 x.2.2.2.1 x.2.2.2.2.1 x.2.2.2.2.2⟩
def Cf.d:Fd := { nt:=62,nv:=2,nm:=[0,1,2,3,5,6,7,8,9,10,11],res:=[4],cs:=λ k=>[(42,Dx.e k),(80,Au.e k),(81,Bo.e k),(84,Bc.e k),(85,Ih.e k),(86,Ff.e k)],ls:=[(4,C0.p)],rf:=true }
theorem Cf.a (k:Nat):AC (Cf.d.cs k):=⟨Dx.s k,Au.s k,Bo.s k,Bc.s k,Ih.s k,Ff.s k,trivial⟩
theorem C0.s:LL Tryz.f41 Cf.d 4 C0.p:=mL [] Cf.a trivial (by kernel_rfl) (λ _=>rfl) (λ k x=>by kernel_rfl)
theorem Cf.s (k:Nat):CK 41 (Cf.e k):=mS Cf.d k [4] Tryz.func41 (Cf.a k) ⟨C0.s,trivial⟩ (by kernel_rfl) (λ x=>by kernel_rfl)
def F4.e (k:Nat):Ent:=⟨2,[(.val false t30),(.val false t30)],[(.one,.b)],λ x=>F4 k x.1 x.2⟩
def Da.p:LF:=⟨⟨[],[(0,t30),(1,t30),(5,(.i .i64))]⟩,[(.ret,⟨[],[(4,.b)]⟩),((.exit 0),⟨[],[]⟩)],λ k x=>Da k x.1 x.2.1 x.2.2⟩
def F4.d:Fd := { nt:=26,nv:=2,nm:=[0,1,2,3,5],res:=[4],ls:=[(4,Da.p)],rf:=true }
theorem Da.s:LL Tryz.f43 F4.d 4 Da.p:=mL [] (λ _=>trivial) trivial (by kernel_rfl) (λ _=>rfl) (λ k x=>by kernel_rfl)
theorem F4.s (k:Nat):CK 43 (F4.e k):=mS F4.d k [4] Tryz.func43 trivial ⟨Da.s,trivial⟩ (by kernel_rfl) (λ x=>by kernel_rfl)
def Dy.e (k:Nat):Ent:=⟨1,[(.val true t42)],[(.one,.b)],λ x=>Dy k x⟩
def Fu.p:LF:=⟨⟨[(1,(.bp 1 0 0)),(5,(.bp 5 0 0)),(2999,(.hd 9)),(6999,(.hd 5))],[(3,t5),(4,(.i .i64)),(6,t1),(7,(.i .i64)),(2000,t42),(6000,t37)]⟩,[(.ret,⟨[],[(2,.b)]⟩),((.exit 2),⟨[(1,(.bp 1 0 0)),(5,(.bp 5 0 0)),(2999,(.hd 9)),(6999,(.hd 5))],[(3,t5),(4,(.i .i64)),(2000,t42),(6000,t37)]⟩)],λ k x=>Fu k x.1 x.2.1 x.2.2.1 x.2.2.2.1 x.2.2.2.2.1 x.2.2.2.2.2⟩
def Eo.p:LF:=⟨⟨[(1,(.bp 1 0 0)),(2999,(.hd 9))],[(3,t5),(4,(.i .i64)),(2000,t42)]⟩,[(.ret,⟨[],[(2,.b)]⟩),((.exit 0),⟨[],[]⟩)],λ k x=>Eo k x.1 x.2.1 x.2.2⟩
def Dy.d:Fd := { nt:=62,nv:=1,nm:=[0,1,3,4,5,6,7,8],res:=[2],cs:=λ k=>[(39,H3.e k),(40,G8.e k),(41,Cf.e k),(42,Dx.e k),(43,F4.e k)],ls:=[(8,Fu.p),(3,Eo.p)],rf:=true }
theorem Dy.a (k:Nat):AC (Dy.d.cs k):=⟨H3.s k,G8.s k,Cf.s k,Dx.s k,F4.s k,trivial⟩
theorem Fu.s:LL Tryz.f10 Dy.d 8 Fu.p:=mL [] Dy.a trivial (by kernel_rfl) (λ _=>rfl) (λ k x=>by kernel_rfl)
theorem Eo.s:LL Tryz.f10 Dy.d 3 Eo.p:=mL [8] Dy.a ⟨Fu.s,trivial⟩ (by kernel_rfl) (λ _=>rfl) (λ k x=>by kernel_rfl)
theorem Dy.s (k:Nat):CK 10 (Dy.e k):=mS Dy.d k [3] Tryz.func10 (Dy.a k) ⟨Eo.s,trivial⟩ (by kernel_rfl) (λ x=>by kernel_rfl)
def Eg.e (k:Nat):Ent:=⟨1,[(.val false t2)],[(.one,t3)],λ x=>Eg x⟩
def Eg.d:Fd := { nt:=5,nv:=1,nm:=[0,1],res:=[2] }
theorem Eg.s (k:Nat):CK 164 (Eg.e k):=mS Eg.d k [] Tryz.func164 trivial trivial (by kernel_rfl) (λ x=>by kernel_rfl)
def Fv.e (k:Nat):Ent:=⟨2,[(.val true t27),(.val false .s)],[(.one,t3),(.one,.b)],λ x=>Fv k x.1 x.2⟩
def Fv.d:Fd := { nt:=20,nv:=2,nm:=[0,1,2,3,6],res:=[4,5],cs:=λ k=>[(122,Kw.e k),(164,Eg.e k)] }
theorem Fv.s (k:Nat):CK 133 (Fv.e k):=mS Fv.d k [] Tryz.func133 ⟨Kw.s k,Eg.s k,trivial⟩ trivial (by kernel_rfl) (λ x=>by kernel_rfl)
def H5.e (k:Nat):Ent:=⟨2,[(.val true t27),(.val false .s)],[(.agg,t23),(.one,(.i .i64))],λ x=>H5 k x.1 x.2⟩
def H5.d:Fd := { nt:=28,nv:=2,nm:=[0,1,2,3,6,7,8,9],res:=[5],cs:=λ k=>[(69,Bt.e k),(133,Fv.e k)] }
theorem H5.s (k:Nat):CK 87 (H5.e k):=mS H5.d k [] Tryz.func87 ⟨Bt.s k,Fv.s k,trivial⟩ trivial (by kernel_rfl) (λ x=>by kernel_rfl)
def Ep.e (k:Nat):Ent:=⟨2,[(.val false t0),(.val false .s)],[(.one,t0)],λ x=>Ep k x.1 x.2⟩
def C1.p:LF:=⟨⟨[],[(0,t0),(1,.s),(5,(.i .i64))]⟩,[((.exit 0),⟨[],[(0,t0),(1,.s),(5,(.i .i64))]⟩)],λ k x=>C1 k x.1 x.2.1 x.2.2⟩
def Ep.d:Fd := { nt:=44,nv:=2,nm:=[0,1,2,3,5],res:=[4],ls:=[(2,C1.p)] }
theorem C1.s:LL Tryz.f88 Ep.d 2 C1.p:=mL [] (λ _=>trivial) trivial (by kernel_rfl) (λ _=>rfl) (λ k x=>by kernel_rfl)
theorem Ep.s (k:Nat):CK 88 (Ep.e k):=mS Ep.d k [2] Tryz.func88 trivial ⟨C1.s,trivial⟩ (by kernel_rfl) (λ x=>by kernel_rfl)
def Hg.e (k:Nat):Ent:=⟨1,[(.val true t27)],[(.one,t0)],λ x=>Hg k x⟩
def G5.p:LF:=⟨⟨[(1,(.bp 1 0 0)),(2999,(.hd 2))],[(3,t0),(9,t12),(10,(.i .i64)),(11,(.i .i64)),(2000,t27)]⟩,[((.exit 0),⟨[],[(3,t0)]⟩)],λ k x=>G5 k x.1 x.2.1 x.2.2.1 x.2.2.2.1 x.2.2.2.2⟩
def Hg.d:Fd := { nt:=30,nv:=1,nm:=[0,1,3,4,5,6,7],res:=[2],cs:=λ k=>[(87,H5.e k),(88,Ep.e k)],ls:=[(3,G5.p)],rf:=true }
theorem Hg.a (k:Nat):AC (Hg.d.cs k):=⟨H5.s k,Ep.s k,trivial⟩
theorem G5.s:LL Tryz.f44 Hg.d 3 G5.p:=mL [] Hg.a trivial (by kernel_rfl) (λ _=>rfl) (λ k x=>by kernel_rfl)
theorem Hg.s (k:Nat):CK 44 (Hg.e k):=mS Hg.d k [3] Tryz.func44 (Hg.a k) ⟨G5.s,trivial⟩ (by kernel_rfl) (λ x=>by kernel_rfl)
def J9.e (k:Nat):Ent:=⟨2,[(.val true t23),(.val true t23)],[(.one,.b)],λ x=>J9 x.1 x.2⟩
def J9.d:Fd := { nt:=10,nv:=2,nm:=[0,1,2,3],res:=[4],cs:=λ k=>[(75,Ae.e k)] }
theorem J9.s (k:Nat):CK 134 (J9.e k):=mS J9.d k [] Tryz.func134 ⟨Ae.s k,trivial⟩ trivial (by kernel_rfl) (λ x=>by kernel_rfl)
def Bd.e (k:Nat):Ent:=⟨2,[(.val true t42),(.val false .s)],[(.agg,t23),(.one,.b)],λ x=>Bd k x.1 x.2⟩
def Aq.p:LF:=⟨⟨[(4,(.bp 4 0 0)),(6,(.bp 6 0 0)),(5999,(.hd 5)),(7999,(.hd 5))],[(1,.s),(7,.b),(13,t39),(14,(.i .i64)),(15,(.i .i64)),(5000,t24),(7000,t23)]⟩,[((.exit 0),⟨[(4,(.bp 4 0 0)),(6,(.bp 6 0 0)),(5999,(.hd 5)),(7999,(.hd 5))],[(7,.b),(5000,t24),(7000,t23)]⟩)],λ k x=>Aq k x.1 x.2.1 x.2.2.1 x.2.2.2.1 x.2.2.2.2.1 x.2.2.2.2.2.1 x.2.2.2.2.2.2⟩
def Bd.d:Fd := { nt:=41,nv:=2,nm:=[0,1,2,3,6,7,8,9,10,11],res:=[5],cs:=λ k=>[(87,H5.e k),(134,J9.e k)],ls:=[(4,Aq.p)],rf:=true }
theorem Bd.a (k:Nat):AC (Bd.d.cs k):=⟨H5.s k,J9.s k,trivial⟩
theorem Aq.s:LL Tryz.f89 Bd.d 4 Aq.p:=mL [] Bd.a trivial (by kernel_rfl) (λ _=>rfl) (λ k x=>by kernel_rfl)
theorem Bd.s (k:Nat):CK 89 (Bd.e k):=mS Bd.d k [4] Tryz.func89 (Bd.a k) ⟨Aq.s,trivial⟩ (by kernel_rfl) (λ x=>by kernel_rfl)
def Fw.e (k:Nat):Ent:=⟨1,[(.val false t4)],[(.one,t5)],λ x=>Fw x⟩
def Fw.d:Fd := { nt:=5,nv:=1,nm:=[0,1],res:=[2],rf:=true }
theorem Fw.s (k:Nat):CK 165 (Fw.e k):=mS Fw.d k [] Tryz.func165 trivial trivial (by kernel_rfl) (λ x=>by kernel_rfl)
def Jm.e (k:Nat):Ent:=⟨1,[(.val false .s)],[(.one,(.i .i64))],λ x=>Jm k x⟩
def H6.p:LF:=⟨⟨[],[(0,.s),(3,(.i .u32)),(4,(.i .i64))]⟩,[((.exit 0),⟨[],[(3,(.i .u32))]⟩)],λ k x=>H6 k x.1 x.2.1 x.2.2⟩
def Jm.d:Fd := { nt:=20,nv:=1,nm:=[0,1,3,4],res:=[2],ls:=[(3,H6.p)],rf:=true }
theorem H6.s:LL Tryz.f174 Jm.d 3 H6.p:=mL [] (λ _=>trivial) trivial (by kernel_rfl) (λ _=>rfl) (λ k x=>by kernel_rfl)
theorem Jm.s (k:Nat):CK 174 (Jm.e k):=mS Jm.d k [3] Tryz.func174 trivial ⟨H6.s,trivial⟩ (by kernel_rfl) (λ x=>by kernel_rfl)
def J2.e (k:Nat):Ent:=⟨2,[(.val false .s),(.val false (.i .i64))],[(.one,(.i .i64))],λ x=>J2 k x.1 x.2⟩
def J2.d:Fd := { nt:=11,nv:=2,nm:=[0,1,2,3],res:=[4],cs:=λ k=>[(174,Jm.e k)],rf:=true }
theorem J2.s (k:Nat):CK 166 (J2.e k):=mS J2.d k [] Tryz.func166 ⟨Jm.s k,trivial⟩ trivial (by kernel_rfl) (λ x=>by kernel_rfl)
def Bp.e (k:Nat):Ent:=⟨2,[(.val true t16),(.val false .s)],[(.one,t5)],λ x=>Bp k x.1 x.2⟩
def Bp.d:Fd := { nt:=20,nv:=2,nm:=[0,1,2,3],res:=[4],cs:=λ k=>[(165,Fw.e k),(166,J2.e k)],rf:=true }
theorem Bp.s (k:Nat):CK 135 (Bp.e k):=mS Bp.d k [] Tryz.func135 ⟨Fw.s k,J2.s k,trivial⟩ trivial (by kernel_rfl) (λ x=>by kernel_rfl)
def Eh.e (k:Nat):Ent:=⟨3,[(.val true t16),(.val false .s),(.val false (.i .i64))],[(.one,.b)],λ x=>Eh k x.1 x.2.1 x.2.2⟩
def Eh.d:Fd := { nt:=12,nv:=3,nm:=[0,1,2,3,4,5],res:=[6],cs:=λ k=>[(93,Cg.e k),(135,Bp.e k)],rf:=true }
theorem Eh.s (k:Nat):CK 90 (Eh.e k):=mS Eh.d k [] Tryz.func90 ⟨Cg.s k,Bp.s k,trivial⟩ trivial (by kernel_rfl) (λ x=>by kernel_rfl)
def Av.e (k:Nat):Ent:=⟨2,[(.val true t42),(.val false .s)],[(.one,.b)],λ x=>Av k x.1 x.2⟩
def Ay.p:LF:=⟨⟨[(2,(.bp 2 0 0)),(5,(.bp 5 0 0)),(3999,(.hd 9)),(6999,(.hd 5))],[(1,.s),(18,t39),(19,(.i .i64)),(20,(.i .i64)),(3000,t42),(6000,t23)]⟩,[(.ret,⟨[],[(4,.b)]⟩),((.exit 0),⟨[],[]⟩)],λ k x=>Ay k x.1 x.2.1 x.2.2.1 x.2.2.2.1 x.2.2.2.2.1 x.2.2.2.2.2⟩
def Av.d:Fd := { nt:=49,nv:=2,nm:=[0,1,2,3,5,6,7,8,9,10],res:=[4],cs:=λ k=>[(87,H5.e k),(89,Bd.e k),(90,Eh.e k),(91,Cm.e k)],ls:=[(3,Ay.p)],rf:=true }
theorem Av.a (k:Nat):AC (Av.d.cs k):=⟨H5.s k,Bd.s k,Eh.s k,Cm.s k,trivial⟩
theorem Ay.s:LL Tryz.f45 Av.d 3 Ay.p:=mL [] Av.a trivial (by kernel_rfl) (λ _=>rfl) (λ k x=>by kernel_rfl)
theorem Av.s (k:Nat):CK 45 (Av.e k):=mS Av.d k [3] Tryz.func45 (Av.a k) ⟨Ay.s,trivial⟩ (by kernel_rfl) (λ x=>by kernel_rfl)
def F5.e (k:Nat):Ent:=⟨2,[(.val true t42),(.val false t4)],[(.one,t5)],λ x=>F5 k x.1 x.2⟩
def Bl.p:LF:=⟨⟨[(2,(.bp 2 0 0)),(3999,(.hd 9))],[(5,t5),(7,(.i .i64)),(10,t4),(11,(.i .i64)),(12,(.i .i64)),(17,t39),(18,(.i .i64)),(19,(.i .i64)),(3000,t42)]⟩,[((.exit 2),⟨[(2,(.bp 2 0 0)),(3999,(.hd 9))],[(5,t5),(10,t4),(11,(.i .i64)),(12,(.i .i64)),(3000,t42)]⟩)],λ k x=>Bl k x.1 x.2.1 x.2.2.1 x.2.2.2.1 x.2.2.2.2.1 x.2.2.2.2.2.1 x.2.2.2.2.2.2.1 x.2.2.2.2.2.2.2.1 x.2.2.2.2.2.2.2.2⟩
def Db.p:LF:=⟨⟨[(2,(.bp 2 0 0)),(3999,(.hd 9))],[(5,t5),(10,t4),(11,(.i .i64)),(12,(.i .i64)),(3000,t42)]⟩,[((.exit 0),⟨[],[(5,t5)]⟩)],λ k x=>Db k x.1 x.2.1 x.2.2.1 x.2.2.2.1 x.2.2.2.2⟩
def F5.d:Fd := { nt:=35,nv:=2,nm:=[0,1,2,3,5,6,7,8,9],res:=[4],ls:=[(6,Bl.p),(3,Db.p)],rf:=true }
theorem Bl.s:LL Tryz.f136 F5.d 6 Bl.p:=mL [] (λ _=>trivial) trivial (by kernel_rfl) (λ _=>rfl) (λ k x=>by kernel_rfl)
theorem Db.s:LL Tryz.f136 F5.d 3 Db.p:=mL [6] (λ _=>trivial) ⟨Bl.s,trivial⟩ (by kernel_rfl) (λ _=>rfl) (λ k x=>by kernel_rfl)
theorem F5.s (k:Nat):CK 136 (F5.e k):=mS F5.d k [3] Tryz.func136 trivial ⟨Db.s,trivial⟩ (by kernel_rfl) (λ x=>by kernel_rfl)
def H7.e (k:Nat):Ent:=⟨1,[(.val true t42)],[(.one,t5)],λ x=>H7 k x⟩
def H7.d:Fd := { nt:=8,nv:=1,nm:=[0,1],res:=[2],cs:=λ k=>[(135,Bp.e k),(136,F5.e k)],rf:=true }
theorem H7.s (k:Nat):CK 92 (H7.e k):=mS H7.d k [] Tryz.func92 ⟨Bp.s k,F5.s k,trivial⟩ trivial (by kernel_rfl) (λ x=>by kernel_rfl)
def Er.e (k:Nat):Ent:=⟨2,[(.val false t30),(.val false t30)],[(.one,.b)],λ x=>Er k x.1 x.2⟩
def C2.p:LF:=⟨⟨[],[(0,t30),(1,t30),(12,(.i .i64)),(13,(.i .i64))]⟩,[(.ret,⟨[],[(4,.b)]⟩),((.exit 0),⟨[],[]⟩)],λ k x=>C2 k x.1 x.2.1 x.2.2.1 x.2.2.2⟩
def Er.d:Fd := { nt:=26,nv:=2,nm:=[0,1,2,3,5],res:=[4],ls:=[(4,C2.p)],rf:=true }
theorem C2.s:LL Tryz.f94 Er.d 4 C2.p:=mL [] (λ _=>trivial) trivial (by kernel_rfl) (λ _=>rfl) (λ k x=>by kernel_rfl)
theorem Er.s (k:Nat):CK 94 (Er.e k):=mS Er.d k [4] Tryz.func94 trivial ⟨C2.s,trivial⟩ (by kernel_rfl) (λ x=>by kernel_rfl)
def Aw.e (k:Nat):Ent:=⟨1,[(.val true t42)],[(.one,.b)],λ x=>Aw k x⟩
def Az.p:LF:=⟨⟨[(1,(.bp 1 0 0)),(2999,(.hd 9))],[(3,t5),(9,t39),(10,(.i .i64)),(11,(.i .i64)),(2000,t42)]⟩,[(.ret,⟨[],[(2,.b)]⟩),((.exit 0),⟨[],[]⟩)],λ k x=>Az k x.1 x.2.1 x.2.2.1 x.2.2.2.1 x.2.2.2.2⟩
def Aw.d:Fd := { nt:=41,nv:=1,nm:=[0,1,3,4,5],res:=[2],cs:=λ k=>[(92,H7.e k),(93,Cg.e k),(94,Er.e k)],ls:=[(3,Az.p)],rf:=true }
theorem Aw.a (k:Nat):AC (Aw.d.cs k):=⟨H7.s k,Cg.s k,Er.s k,trivial⟩
theorem Az.s:LL Tryz.f46 Aw.d 3 Az.p:=mL [] Aw.a trivial (by kernel_rfl) (λ _=>rfl) (λ k x=>by kernel_rfl)
theorem Aw.s (k:Nat):CK 46 (Aw.e k):=mS Aw.d k [3] Tryz.func46 (Aw.a k) ⟨Az.s,trivial⟩ (by kernel_rfl) (λ x=>by kernel_rfl)
def Dz.e (k:Nat):Ent:=⟨1,[(.val true t42)],[(.one,.b)],λ x=>Dz k x⟩
def Fx.p:LF:=⟨⟨[(1,(.bp 1 0 0)),(2999,(.hd 9))],[(8,t39),(9,(.i .i64)),(10,(.i .i64)),(16,t0),(17,(.i .i64)),(18,(.i .i64)),(2000,t42)]⟩,[(.ret,⟨[],[(2,.b)]⟩),((.exit 2),⟨[(1,(.bp 1 0 0)),(2999,(.hd 9))],[(8,t39),(9,(.i .i64)),(10,(.i .i64)),(2000,t42)]⟩)],λ k x=>Fx k x.1 x.2.1 x.2.2.1 x.2.2.2.1 x.2.2.2.2.1 x.2.2.2.2.2.1 x.2.2.2.2.2.2⟩
def Fy.p:LF:=⟨⟨[(1,(.bp 1 0 0)),(2999,(.hd 9))],[(8,t39),(9,(.i .i64)),(10,(.i .i64)),(2000,t42)]⟩,[(.ret,⟨[],[(2,.b)]⟩),((.exit 0),⟨[(1,(.bp 1 0 0)),(2999,(.hd 9))],[(2000,t42)]⟩)],λ k x=>Fy k x.1 x.2.1 x.2.2.1 x.2.2.2⟩
def Dz.d:Fd := { nt:=30,nv:=1,nm:=[0,1,3,4,5,6],res:=[2],cs:=λ k=>[(44,Hg.e k),(45,Av.e k),(46,Aw.e k)],ls:=[(5,Fx.p),(2,Fy.p)],rf:=true }
theorem Dz.a (k:Nat):AC (Dz.d.cs k):=⟨Hg.s k,Av.s k,Aw.s k,trivial⟩
theorem Fx.s:LL Tryz.f11 Dz.d 5 Fx.p:=mL [] Dz.a trivial (by kernel_rfl) (λ _=>rfl) (λ k x=>by kernel_rfl)
theorem Fy.s:LL Tryz.f11 Dz.d 2 Fy.p:=mL [5] Dz.a ⟨Fx.s,trivial⟩ (by kernel_rfl) (λ _=>rfl) (λ k x=>by kernel_rfl)
theorem Dz.s (k:Nat):CK 11 (Dz.e k):=mS Dz.d k [2] Tryz.func11 (Dz.a k) ⟨Fy.s,trivial⟩ (by kernel_rfl) (λ x=>by kernel_rfl)
def C5.e (k:Nat):Ent:=⟨1,[(.val true t41)],[(.one,.b)],λ x=>C5 k x⟩
def C5.d:Fd := { nt:=27,nv:=1,nm:=[0,1,3,4,5,6],res:=[2],cs:=λ k=>[(5,Dq.e k),(7,B8.e k),(9,Dv.e k),(10,Dy.e k),(11,Dz.e k)],rf:=true }
theorem C5.s (k:Nat):CK 4 (C5.e k):=mS C5.d k [] Tryz.func4 ⟨Dq.s k,B8.s k,Dv.s k,Dy.s k,Dz.s k,trivial⟩ trivial (by kernel_rfl) (λ x=>by kernel_rfl)
end

end Go.Proofs.YtlfoljnopndpeaaGreat.Vf
