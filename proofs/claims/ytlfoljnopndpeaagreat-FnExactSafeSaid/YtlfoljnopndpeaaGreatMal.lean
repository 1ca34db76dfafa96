import Derived.Test.YtlfoljnopndpeaaGreatMab
import Derived.Test.YtlfoljnopndpeaaGreatMak
import Derived.Test.YtlfoljnopndpeaaGreatProg
import Derived.KernelRfl
set_option linter.unusedVariables false
set_option linter.unusedSimpArgs false
namespace Go.Proofs.YtlfoljnopndpeaaGreat.Vf
open Go

section
open Go.Proofs
@[reducible] def t0:Ty := .sl 9 .s
@[reducible] def t1:Ty := .ow 9 .s
@[reducible] def t2:Ty := .sl 5 (.i .u8)
@[reducible] def t3:Ty := .ow 5 (.i .u8)
@[reducible] def t4:Ty := .sl 3 (.i .i64)
@[reducible] def t5:Ty := .ow 3 (.i .i64)
@[reducible] def t6:Ty := .pr .s (.i .u64)
@[reducible] def t7:Ty := .sl 136 t4
@[reducible] def t8:Ty := .sl 143 t4
@[reducible] def t9:Ty := .ow 143 t4
@[reducible] def t10:Ty := .pr .s t2
@[reducible] def t11:Ty := .sl 197 t10
@[reducible] def t12:Ty := .sl 112 t10
@[reducible] def t13:Ty := .ow 112 t10
@[reducible] def t14:Ty := .pr (.i .i64) (.pr (.i .i64) (.i .i64))
@[reducible] def t15:Ty := .pr (.i .i64) t7
@[reducible] def t16:Ty := .pr (.i .i64) t8
@[reducible] def t17:Ty := .pr (.i .i64) t9
@[reducible] def t18:Ty := .pr t2 (.pr (.i .i64) .b)
@[reducible] def t19:Ty := .sl 106 t14
@[reducible] def t20:Ty := .sl 104 t14
@[reducible] def t21:Ty := .ow 104 t14
@[reducible] def t22:Ty := .pr (.i .i64) (.pr (.i .i64) (.pr .b (.i .u8)))
@[reducible] def t23:Ty := .pr t14 (.pr .b t2)
@[reducible] def t24:Ty := .pr t14 (.pr .b t3)
@[reducible] def t25:Ty := .pr .s (.pr t14 (.pr .b (.i .i64)))
@[reducible] def t26:Ty := .pr t11 t11
@[reducible] def t27:Ty := .pr t12 t12
@[reducible] def t28:Ty := .pr t13 t13
@[reducible] def t29:Ty := .sl 176 t25
@[reducible] def t30:Ty := .sl 118 t25
@[reducible] def t31:Ty := .ow 118 t25
@[reducible] def t32:Ty := .pr .s (.pr t23 .b)
@[reducible] def t33:Ty := .sl 90 t32
@[reducible] def t34:Ty := .sl 96 t32
@[reducible] def t35:Ty := .ow 96 t32
@[reducible] def t36:Ty := .pr (.i .i64) (.pr t26 (.pr t29 t29))
@[reducible] def t37:Ty := .pr (.i .i64) (.pr t27 (.pr t30 t30))
@[reducible] def t38:Ty := .sl 84 t36
@[reducible] def t39:Ty := .sl 72 t37
@[reducible] def t40:Ty := .ow 72 t37
@[reducible] def t41:Ty := .pr t19 (.pr t15 (.pr t38 (.pr t14 (.pr t33 t0))))
@[reducible] def t42:Ty := .pr t20 (.pr t16 (.pr t39 (.pr t14 (.pr t34 t0))))
def tiL:List (Nat×TI):=[(2,⟨(.i .i64),false,8,[]⟩),
 (3,⟨(.i .i64),false,8,[]⟩),
 (4,⟨.b,false,1,[]⟩),
 (5,⟨(.i .u8),false,1,[]⟩),
 (6,⟨(.i .u8),false,1,[]⟩),
 (7,⟨t22,true,24,[(0,1,false),(1,1,false),(2,1,false),(3,1,false)]⟩),
 (8,⟨t22,true,24,[(0,1,false),(1,1,false),(2,1,false),(3,1,false)]⟩),
 (9,⟨.s,false,16,[]⟩),
 (10,⟨.s,false,16,[]⟩),
 (11,⟨.s,false,16,[]⟩),
 (12,⟨(.i .u64),false,8,[]⟩),
 (13,⟨t6,true,24,[(0,1,false),(1,1,false)]⟩),
 (14,⟨t6,true,24,[(0,1,false),(1,1,false)]⟩),
 (21,⟨(.i .i32),false,4,[]⟩),
 (22,⟨t19,false,24,[]⟩),
 (23,⟨t7,false,24,[]⟩),
 (24,⟨t15,true,32,[(0,1,false),(1,1,false)]⟩),
 (25,⟨t15,true,32,[(0,1,false),(1,1,false)]⟩),
 (26,⟨t38,false,24,[]⟩),
 (27,⟨t14,true,24,[(0,1,false),(1,1,false),(2,1,false)]⟩),
 (28,⟨t14,true,24,[(0,1,false),(1,1,false),(2,1,false)]⟩),
 (29,⟨t33,false,24,[]⟩),
 (30,⟨t0,false,24,[]⟩),
 (31,⟨t41,true,152,[(0,1,false),(1,2,true),(3,1,false),(4,3,true),(7,1,false),(8,1,false)]⟩),
 (32,⟨t41,true,152,[(0,1,false),(1,2,true),(3,1,false),(4,3,true),(7,1,false),(8,1,false)]⟩),
 (35,⟨t20,false,24,[]⟩),
 (36,⟨t8,false,24,[]⟩),
 (37,⟨t16,true,32,[(0,1,false),(1,1,false)]⟩),
 (38,⟨t16,true,32,[(0,1,false),(1,1,false)]⟩),
 (39,⟨t39,false,24,[]⟩),
 (40,⟨t14,true,24,[(0,1,false),(1,1,false),(2,1,false)]⟩),
 (41,⟨t34,false,24,[]⟩),
 (42,⟨t42,true,152,[(0,1,false),(1,2,true),(3,1,false),(4,3,true),(7,1,false),(8,1,false)]⟩),
 (43,⟨t42,true,152,[(0,1,false),(1,2,true),(3,1,false),(4,3,true),(7,1,false),(8,1,false)]⟩),
 (65,⟨t4,false,24,[]⟩),
 (67,⟨t12,false,24,[]⟩),
 (68,⟨t27,true,48,[(0,1,false),(1,1,false)]⟩),
 (69,⟨t27,true,48,[(0,1,false),(1,1,false)]⟩),
 (70,⟨t30,false,24,[]⟩),
 (71,⟨t37,true,104,[(0,1,false),(1,2,true),(3,1,false),(4,1,false)]⟩),
 (72,⟨t37,true,104,[(0,1,false),(1,2,true),(3,1,false),(4,1,false)]⟩),
 (79,⟨t11,false,24,[]⟩),
 (80,⟨t26,true,48,[(0,1,false),(1,1,false)]⟩),
 (81,⟨t26,true,48,[(0,1,false),(1,1,false)]⟩),
 (82,⟨t29,false,24,[]⟩),
 (83,⟨t36,true,104,[(0,1,false),(1,2,true),(3,1,false),(4,1,false)]⟩),
 (84,⟨t36,true,104,[(0,1,false),(1,2,true),(3,1,false),(4,1,false)]⟩),
 (86,⟨t2,false,24,[]⟩),
 (87,⟨t23,true,56,[(0,3,true),(3,1,false),(4,1,false)]⟩),
 (88,⟨t23,true,56,[(0,3,true),(3,1,false),(4,1,false)]⟩),
 (89,⟨t32,true,80,[(0,1,false),(1,5,true),(6,1,false)]⟩),
 (90,⟨t32,true,80,[(0,1,false),(1,5,true),(6,1,false)]⟩),
 (93,⟨t23,true,56,[(0,3,true),(3,1,false),(4,1,false)]⟩),
 (94,⟨t23,true,56,[(0,3,true),(3,1,false),(4,1,false)]⟩),
 (95,⟨t32,true,80,[(0,1,false),(1,5,true),(6,1,false)]⟩),
 (96,⟨t32,true,80,[(0,1,false),(1,5,true),(6,1,false)]⟩),
 (103,⟨t14,true,24,[(0,1,false),(1,1,false),(2,1,false)]⟩),
 (104,⟨t14,true,24,[(0,1,false),(1,1,false),(2,1,false)]⟩),
 (106,⟨t14,true,24,[(0,1,false),(1,1,false),(2,1,false)]⟩),
 (111,⟨t10,true,40,[(0,1,false),(1,1,false)]⟩),
 (112,⟨t10,true,40,[(0,1,false),(1,1,false)]⟩),
 (117,⟨t25,true,56,[(0,1,false),(1,3,true),(4,1,false),(5,1,false)]⟩),
 (118,⟨t25,true,56,[(0,1,false),(1,3,true),(4,1,false),(5,1,false)]⟩),
 (135,⟨t4,true,24,[(0,1,false)]⟩),
 (136,⟨t4,true,24,[(0,1,false)]⟩),
 (143,⟨t4,true,24,[(0,1,false)]⟩),
 (155,⟨t18,true,40,[(0,1,false),(1,1,false),(2,1,false)]⟩),
 (156,⟨t18,true,40,[(0,1,false),(1,1,false),(2,1,false)]⟩),
 (175,⟨t25,true,56,[(0,1,false),(1,3,true),(4,1,false),(5,1,false)]⟩),
 (176,⟨t25,true,56,[(0,1,false),(1,3,true),(4,1,false),(5,1,false)]⟩),
 (187,⟨(.i .u64),false,8,[]⟩),
 (197,⟨t10,true,40,[(0,1,false),(1,1,false)]⟩),
 (199,⟨(.i .u32),false,4,[]⟩),
 (206,⟨(.i .u8),false,1,[]⟩),
 (207,⟨(.i .u8),false,1,[]⟩),
 (210,⟨(.i .i32),false,4,[]⟩),
 (211,⟨(.i .i32),false,4,[]⟩)]
def ti:TypeId→Option TI:=lk tiL
def Pua:List Nat:=[27,28,40,103,104,106,117,118,175,176]
def eqs:TypeId→Bool:=λ T=>Pua.contains T
theorem sK:Td Tryz.prog ti eqs∧∀ T,Q8 Tryz.prog ti T=true:=Rpa (P:=Tryz.prog) (ti:=ti) (eqs:=eqs) (keys:=tiL.map Prod.fst) (Pua:=Pua) Npa (by kernel_rfl) (by kernel_rfl) rfl (by kernel_rfl)
theorem sO:Td Tryz.prog ti eqs:=sK.1
theorem Sia:∀ T t,ti T=some t→TOk Tryz.prog T t:=sO.tok
theorem Sja:∀ T,Q8 Tryz.prog ti T=true:=sK.2
abbrev CK:=Mu Tryz.prog
abbrev LL:=LK Tryz.prog
abbrev AC:=P4a Tryz.prog
theorem mS {f:FuncId} {fn:Func} (D:Fd) (k:Nat) {en:Ent} (ids:List Nat) (hf:Tryz.prog.funcs[f]? = some fn) (hc:AC (D.cs k)) (hi:P5a Tryz.prog fn D ids) (h:(Roa fn D en,Ki (bo fn),ids.map λ l=>first (Jb l (bo fn)))=(true,ids.map λ l=>Jb l (bo fn),ids)) (hr:∀ x,H1a (D.n ti eqs k) (bo fn) fn.results.toList en x=en.run x):CK f en:=mkS sO ids hf hc hi (congrArg Prod.fst h) (congrArg Prod.snd h) hr
theorem mL {fn:Func} {D:Fd} {l:Nat} {p:LF} (ids:List Nat) (hc:∀ k,AC (D.cs k)) (hi:P5a Tryz.prog fn D ids) (h:(Nat.beq D.nt fn.ntmps,Ki (Jb l (bo fn)),ids.map λ l=>first (Jb l (bo fn)))=(true,ids.map λ l=>Jb l (bo fn),ids)) (h0:∀ x,p.f 0 x=none) (hs:Saa ti eqs fn D l p):LL fn D l p:=mkL sO ids (congrArg Prod.fst h) hc hi (congrArg Prod.snd h) h0 hs
def Ij.e (k:Nat):Ent:=⟨2,[(.val false t19),(.val false (.i .i64))],[(.one,(.i .i64))],λ x=>Ij x.1 x.2⟩
def Ij.d:Fd := { nt:=12,nv:=2,nm:=[0,1,2,3],res:=[4],rf:=true }
theorem Ij.s (k:Nat):CK 12 (Ij.e k):=mS Ij.d k [] Tryz.func12 trivial trivial (by kernel_rfl) (λ x=>by kernel_rfl)
def Ik.e (k:Nat):Ent:=⟨2,[(.val false t4),(.val false (.i .i64))],[(.one,(.i .i64))],λ x=>Ik x.1 x.2⟩
def Ik.d:Fd := { nt:=12,nv:=2,nm:=[0,1,2,3],res:=[4],rf:=true }
theorem Ik.s (k:Nat):CK 137 (Ik.e k):=mS Ik.d k [] Tryz.func137 trivial trivial (by kernel_rfl) (λ x=>by kernel_rfl)
def Il.e (k:Nat):Ent:=⟨2,[(.val true t4),(.val false (.i .i64))],[(.one,(.i .i64))],λ x=>Il x.1 x.2⟩
def Il.d:Fd := { nt:=12,nv:=2,nm:=[0,1,2,3],res:=[4],cs:=λ k=>[(137,Ik.e k)],rf:=true }
theorem Il.s (k:Nat):CK 95 (Il.e k):=mS Il.d k [] Tryz.func95 ⟨Ik.s k,trivial⟩ trivial (by kernel_rfl) (λ x=>by kernel_rfl)
def Ci.e (k:Nat):Ent:=⟨2,[(.val false t7),(.val false (.i .i64))],[(.one,(.i .i64))],λ x=>Ci k x.1 x.2⟩
def Et.p:LF:=⟨⟨[],[(0,t7),(1,(.i .i64)),(5,(.i .i64))]⟩,[(.ret,⟨[],[(4,(.i .i64))]⟩),((.exit 0),⟨[],[(1,(.i .i64))]⟩)],λ k x=>Et k x.1 x.2.1 x.2.2⟩
def Ci.d:Fd := { nt:=27,nv:=2,nm:=[0,1,2,3,5],res:=[4],cs:=λ k=>[(95,Il.e k)],ls:=[(5,Et.p)],rf:=true }
theorem Ci.a (k:Nat):AC (Ci.d.cs k):=⟨Il.s k,trivial⟩
theorem Et.s:LL Tryz.f47 Ci.d 5 Et.p:=mL [] Ci.a trivial (by kernel_rfl) (λ _=>rfl) (λ k x=>by kernel_rfl)
theorem Ci.s (k:Nat):CK 47 (Ci.e k):=mS Ci.d k [5] Tryz.func47 (Ci.a k) ⟨Et.s,trivial⟩ (by kernel_rfl) (λ x=>by kernel_rfl)
def Im.e (k:Nat):Ent:=⟨2,[(.val true t15),(.val false (.i .i64))],[(.one,(.i .i64))],λ x=>Im k x.1 x.2⟩
def Im.d:Fd := { nt:=12,nv:=2,nm:=[0,1,2,3],res:=[4],cs:=λ k=>[(47,Ci.e k)],rf:=true }
theorem Im.s (k:Nat):CK 13 (Im.e k):=mS Im.d k [] Tryz.func13 ⟨Ci.s k,trivial⟩ trivial (by kernel_rfl) (λ x=>by kernel_rfl)
def Fu.e (k:Nat):Ent:=⟨2,[(.val false t2),(.val false (.i .i64))],[(.one,(.i .i64))],λ x=>Fu x.1 x.2⟩
def Fu.d:Fd := { nt:=12,nv:=2,nm:=[0,1,2,3],res:=[4],rf:=true }
theorem Fu.s (k:Nat):CK 140 (Fu.e k):=mS Fu.d k [] Tryz.func140 trivial trivial (by kernel_rfl) (λ x=>by kernel_rfl)
def Hq.e (k:Nat):Ent:=⟨2,[(.val true t10),(.val false (.i .i64))],[(.one,(.i .i64))],λ x=>Hq x.1 x.2⟩
def Hq.d:Fd := { nt:=19,nv:=2,nm:=[0,1,2,3],res:=[4],cs:=λ k=>[(140,Fu.e k)],rf:=true }
theorem Hq.s (k:Nat):CK 167 (Hq.e k):=mS Hq.d k [] Tryz.func167 ⟨Fu.s k,trivial⟩ trivial (by kernel_rfl) (λ x=>by kernel_rfl)
def Ax.e (k:Nat):Ent:=⟨2,[(.val false t11),(.val false (.i .i64))],[(.one,(.i .i64))],λ x=>Ax k x.1 x.2⟩
def Dr.p:LF:=⟨⟨[],[(0,t11),(1,(.i .i64)),(5,(.i .i64))]⟩,[(.ret,⟨[],[(4,(.i .i64))]⟩),((.exit 0),⟨[],[(1,(.i .i64))]⟩)],λ k x=>Dr k x.1 x.2.1 x.2.2⟩
def Ax.d:Fd := { nt:=27,nv:=2,nm:=[0,1,2,3,5],res:=[4],cs:=λ k=>[(167,Hq.e k)],ls:=[(5,Dr.p)],rf:=true }
theorem Ax.a (k:Nat):AC (Ax.d.cs k):=⟨Hq.s k,trivial⟩
theorem Dr.s:LL Tryz.f138 Ax.d 5 Dr.p:=mL [] Ax.a trivial (by kernel_rfl) (λ _=>rfl) (λ k x=>by kernel_rfl)
theorem Ax.s (k:Nat):CK 138 (Ax.e k):=mS Ax.d k [5] Tryz.func138 (Ax.a k) ⟨Dr.s,trivial⟩ (by kernel_rfl) (λ x=>by kernel_rfl)
def Io.e (k:Nat):Ent:=⟨2,[(.val true t26),(.val false (.i .i64))],[(.one,(.i .i64))],λ x=>Io k x.1 x.2⟩
def Io.d:Fd := { nt:=18,nv:=2,nm:=[0,1,2,3],res:=[4],cs:=λ k=>[(138,Ax.e k)],rf:=true }
theorem Io.s (k:Nat):CK 96 (Io.e k):=mS Io.d k [] Tryz.func96 ⟨Ax.s k,trivial⟩ trivial (by kernel_rfl) (λ x=>by kernel_rfl)
def Jm.e (k:Nat):Ent:=⟨2,[(.val true t25),(.val false (.i .i64))],[(.one,(.i .i64))],λ x=>Jm x.1 x.2⟩
def Jm.d:Fd := { nt:=13,nv:=2,nm:=[0,1,2,3],res:=[4],rf:=true }
theorem Jm.s (k:Nat):CK 139 (Jm.e k):=mS Jm.d k [] Tryz.func139 trivial trivial (by kernel_rfl) (λ x=>by kernel_rfl)
def D7.e (k:Nat):Ent:=⟨2,[(.val false t29),(.val false (.i .i64))],[(.one,(.i .i64))],λ x=>D7 k x.1 x.2⟩
def G0.p:LF:=⟨⟨[],[(0,t29),(1,(.i .i64)),(5,(.i .i64))]⟩,[(.ret,⟨[],[(4,(.i .i64))]⟩),((.exit 0),⟨[],[(1,(.i .i64))]⟩)],λ k x=>G0 k x.1 x.2.1 x.2.2⟩
def D7.d:Fd := { nt:=27,nv:=2,nm:=[0,1,2,3,5],res:=[4],cs:=λ k=>[(139,Jm.e k)],ls:=[(5,G0.p)],rf:=true }
theorem D7.a (k:Nat):AC (D7.d.cs k):=⟨Jm.s k,trivial⟩
theorem G0.s:LL Tryz.f97 D7.d 5 G0.p:=mL [] D7.a trivial (by kernel_rfl) (λ _=>rfl) (λ k x=>by kernel_rfl)
theorem D7.s (k:Nat):CK 97 (D7.e k):=mS D7.d k [5] Tryz.func97 (D7.a k) ⟨G0.s,trivial⟩ (by kernel_rfl) (λ x=>by kernel_rfl)
def Ip.e (k:Nat):Ent:=⟨2,[(.val true t36),(.val false (.i .i64))],[(.one,(.i .i64))],λ x=>Ip k x.1 x.2⟩
def Ip.d:Fd := { nt:=24,nv:=2,nm:=[0,1,2,3],res:=[4],cs:=λ k=>[(96,Io.e k),(97,D7.e k)],rf:=true }
theorem Ip.s (k:Nat):CK 48 (Ip.e k):=mS Ip.d k [] Tryz.func48 ⟨Io.s k,D7.s k,trivial⟩ trivial (by kernel_rfl) (λ x=>by kernel_rfl)
def Cj.e (k:Nat):Ent:=⟨2,[(.val false t38),(.val false (.i .i64))],[(.one,(.i .i64))],λ x=>Cj k x.1 x.2⟩
def Eu.p:LF:=⟨⟨[],[(0,t38),(1,(.i .i64)),(5,(.i .i64))]⟩,[(.ret,⟨[],[(4,(.i .i64))]⟩),((.exit 0),⟨[],[(1,(.i .i64))]⟩)],λ k x=>Eu k x.1 x.2.1 x.2.2⟩
def Cj.d:Fd := { nt:=27,nv:=2,nm:=[0,1,2,3,5],res:=[4],cs:=λ k=>[(48,Ip.e k)],ls:=[(5,Eu.p)],rf:=true }
theorem Cj.a (k:Nat):AC (Cj.d.cs k):=⟨Ip.s k,trivial⟩
theorem Eu.s:LL Tryz.f14 Cj.d 5 Eu.p:=mL [] Cj.a trivial (by kernel_rfl) (λ _=>rfl) (λ k x=>by kernel_rfl)
theorem Cj.s (k:Nat):CK 14 (Cj.e k):=mS Cj.d k [5] Tryz.func14 (Cj.a k) ⟨Eu.s,trivial⟩ (by kernel_rfl) (λ x=>by kernel_rfl)
def Iq.e (k:Nat):Ent:=⟨2,[(.val true t23),(.val false (.i .i64))],[(.one,(.i .i64))],λ x=>Iq x.1 x.2⟩
def Iq.d:Fd := { nt:=12,nv:=2,nm:=[0,1,2,3],res:=[4],cs:=λ k=>[(140,Fu.e k)],rf:=true }
theorem Iq.s (k:Nat):CK 98 (Iq.e k):=mS Iq.d k [] Tryz.func98 ⟨Fu.s k,trivial⟩ trivial (by kernel_rfl) (λ x=>by kernel_rfl)
def Hr.e (k:Nat):Ent:=⟨2,[(.val true t32),(.val false (.i .i64))],[(.one,(.i .i64))],λ x=>Hr x.1 x.2⟩
def Hr.d:Fd := { nt:=19,nv:=2,nm:=[0,1,2,3],res:=[4],cs:=λ k=>[(98,Iq.e k)],rf:=true }
theorem Hr.s (k:Nat):CK 49 (Hr.e k):=mS Hr.d k [] Tryz.func49 ⟨Iq.s k,trivial⟩ trivial (by kernel_rfl) (λ x=>by kernel_rfl)
def Bb.e (k:Nat):Ent:=⟨2,[(.val false t33),(.val false (.i .i64))],[(.one,(.i .i64))],λ x=>Bb k x.1 x.2⟩
def Ds.p:LF:=⟨⟨[],[(0,t33),(1,(.i .i64)),(5,(.i .i64))]⟩,[(.ret,⟨[],[(4,(.i .i64))]⟩),((.exit 0),⟨[],[(1,(.i .i64))]⟩)],λ k x=>Ds k x.1 x.2.1 x.2.2⟩
def Bb.d:Fd := { nt:=27,nv:=2,nm:=[0,1,2,3,5],res:=[4],cs:=λ k=>[(49,Hr.e k)],ls:=[(5,Ds.p)],rf:=true }
theorem Bb.a (k:Nat):AC (Bb.d.cs k):=⟨Hr.s k,trivial⟩
theorem Ds.s:LL Tryz.f15 Bb.d 5 Ds.p:=mL [] Bb.a trivial (by kernel_rfl) (λ _=>rfl) (λ k x=>by kernel_rfl)
theorem Bb.s (k:Nat):CK 15 (Bb.e k):=mS Bb.d k [5] Tryz.func15 (Bb.a k) ⟨Ds.s,trivial⟩ (by kernel_rfl) (λ x=>by kernel_rfl)
def Dt.e (k:Nat):Ent:=⟨2,[(.val false t0),(.val false (.i .i64))],[(.one,(.i .i64))],λ x=>Dt k x.1 x.2⟩
def Cg.p:LF:=⟨⟨[],[(0,t0),(1,(.i .i64)),(5,(.i .i64))]⟩,[(.ret,⟨[],[(4,(.i .i64))]⟩),((.exit 0),⟨[],[(1,(.i .i64))]⟩)],λ k x=>Cg k x.1 x.2.1 x.2.2⟩
def Dt.d:Fd := { nt:=28,nv:=2,nm:=[0,1,2,3,5],res:=[4],ls:=[(5,Cg.p)],rf:=true }
theorem Cg.s:LL Tryz.f16 Dt.d 5 Cg.p:=mL [] (λ _=>trivial) trivial (by kernel_rfl) (λ _=>rfl) (λ k x=>by kernel_rfl)
theorem Dt.s (k:Nat):CK 16 (Dt.e k):=mS Dt.d k [5] Tryz.func16 trivial ⟨Cg.s,trivial⟩ (by kernel_rfl) (λ x=>by kernel_rfl)
def Eo.e (k:Nat):Ent:=⟨2,[(.val true t41),(.val false (.i .i64))],[(.one,(.i .i64))],λ x=>Eo k x.1 x.2⟩
def Eo.d:Fd := { nt:=36,nv:=2,nm:=[0,1,2,3],res:=[4],cs:=λ k=>[(12,Ij.e k),(13,Im.e k),(14,Cj.e k),(15,Bb.e k),(16,Dt.e k)],rf:=true }
theorem Eo.s (k:Nat):CK 5 (Eo.e k):=mS Eo.d k [] Tryz.func5 ⟨Ij.s k,Im.s k,Cj.s k,Bb.s k,Dt.s k,trivial⟩ trivial (by kernel_rfl) (λ x=>by kernel_rfl)
def Am.e (k:Nat):Ent:=⟨3,[(.val false (.i .i64)),(.val false (.i .i64)),(.val false (.i .i64))],[(.one,.b)],λ x=>Am x.1 x.2.1 x.2.2⟩
def Am.d:Fd := { nt:=15,nv:=3,nm:=[0,1,2,3,4,5],res:=[6] }
theorem Am.s (k:Nat):CK 100 (Am.e k):=mS Am.d k [] Tryz.func100 trivial trivial (by kernel_rfl) (λ x=>by kernel_rfl)
def Ec.e (k:Nat):Ent:=⟨1,[(.val false t20)],[(.one,.b)],λ x=>Ec k x⟩
def Du.p:LF:=⟨⟨[],[(0,t20),(3,(.i .i64))]⟩,[(.ret,⟨[],[(2,.b)]⟩),((.exit 0),⟨[],[(0,t20)]⟩)],λ k x=>Du k x.1 x.2⟩
def Ec.d:Fd := { nt:=49,nv:=1,nm:=[0,1,3,4],res:=[2],cs:=λ k=>[(100,Am.e k)],ls:=[(2,Du.p)],rf:=true }
theorem Ec.a (k:Nat):AC (Ec.d.cs k):=⟨Am.s k,trivial⟩
theorem Du.s:LL Tryz.f99 Ec.d 2 Du.p:=mL [] Ec.a trivial (by kernel_rfl) (λ _=>rfl) (λ k x=>by kernel_rfl)
theorem Ec.s (k:Nat):CK 99 (Ec.e k):=mS Ec.d k [2] Tryz.func99 (Ec.a k) ⟨Du.s,trivial⟩ (by kernel_rfl) (λ x=>by kernel_rfl)
def Es.e (k:Nat):Ent:=⟨2,[(.val false t4),(.val false (.i .i64))],[(.one,.b)],λ x=>Es k x.1 x.2⟩
def G3.p:LF:=⟨⟨[],[(0,t4),(1,(.i .i64)),(5,(.i .i64))]⟩,[(.ret,⟨[],[(4,.b)]⟩),((.exit 0),⟨[],[]⟩)],λ k x=>G3 k x.1 x.2.1 x.2.2⟩
def Es.d:Fd := { nt:=18,nv:=2,nm:=[0,1,2,3,5],res:=[4],ls:=[(2,G3.p)],rf:=true }
theorem G3.s:LL Tryz.f42 Es.d 2 G3.p:=mL [] (λ _=>trivial) trivial (by kernel_rfl) (λ _=>rfl) (λ k x=>by kernel_rfl)
theorem Es.s (k:Nat):CK 42 (Es.e k):=mS Es.d k [2] Tryz.func42 trivial ⟨G3.s,trivial⟩ (by kernel_rfl) (λ x=>by kernel_rfl)
def Ed.e (k:Nat):Ent:=⟨2,[(.val true t4),(.val false (.i .i64))],[(.one,.b)],λ x=>Ed k x.1 x.2⟩
def Ev.p:LF:=⟨⟨[(2,(.bp 2 0 0)),(3999,(.hd 1))],[(1,(.i .i64)),(5,(.i .i64)),(3000,t4)]⟩,[(.ret,⟨[],[(4,.b)]⟩),((.exit 0),⟨[(2,(.bp 2 0 0)),(3999,(.hd 1))],[(1,(.i .i64)),(3000,t4)]⟩)],λ k x=>Ev k x.1 x.2.1 x.2.2⟩
def Ed.d:Fd := { nt:=28,nv:=2,nm:=[0,1,2,3,5],res:=[4],cs:=λ k=>[(42,Es.e k)],ls:=[(2,Ev.p)],rf:=true }
theorem Ed.a (k:Nat):AC (Ed.d.cs k):=⟨Es.s k,trivial⟩
theorem Ev.s:LL Tryz.f101 Ed.d 2 Ev.p:=mL [] Ed.a trivial (by kernel_rfl) (λ _=>rfl) (λ k x=>by kernel_rfl)
theorem Ed.s (k:Nat):CK 101 (Ed.e k):=mS Ed.d k [2] Tryz.func101 (Ed.a k) ⟨Ev.s,trivial⟩ (by kernel_rfl) (λ x=>by kernel_rfl)
def I8.e (k:Nat):Ent:=⟨2,[(.val false t20),(.val false (.i .i64))],[(.agg,t14),(.one,.b)],λ x=>I8 k x.1 x.2⟩
def G4.p:LF:=⟨⟨[(4,(.bp 4 0 0)),(5999,(.hd 3))],[(0,t20),(1,(.i .i64)),(6,(.i .i64)),(5000,t14)]⟩,[(.ret,⟨[(4,(.bp 4 0 0)),(5999,(.hd 3))],[(5,.b),(5000,t14)]⟩),((.exit 0),⟨[(4,(.bp 4 0 0)),(5999,(.hd 3))],[(5000,t14)]⟩)],λ k x=>G4 k x.1 x.2.1 x.2.2.1 x.2.2.2⟩
def I8.d:Fd := { nt:=25,nv:=2,nm:=[0,1,2,3,6],res:=[5],ls:=[(2,G4.p)],rf:=true }
theorem G4.s:LL Tryz.f102 I8.d 2 G4.p:=mL [] (λ _=>trivial) trivial (by kernel_rfl) (λ _=>rfl) (λ k x=>by kernel_rfl)
theorem I8.s (k:Nat):CK 102 (I8.e k):=mS I8.d k [2] Tryz.func102 trivial ⟨G4.s,trivial⟩ (by kernel_rfl) (λ x=>by kernel_rfl)
def Cs.e (k:Nat):Ent:=⟨2,[(.val true t16),(.val false t20)],[(.one,.b)],λ x=>Cs k x.1 x.2⟩
def Ew.p:LF:=⟨⟨[(2,(.bp 2 0 0)),(3999,(.hd 2))],[(1,t20),(5,(.i .i64)),(6,(.i .i64)),(3000,t16)]⟩,[(.ret,⟨[],[(4,.b)]⟩),((.exit 2),⟨[(2,(.bp 2 0 0)),(3999,(.hd 2))],[(1,t20),(5,(.i .i64)),(3000,t16)]⟩)],λ k x=>Ew k x.1 x.2.1 x.2.2.1 x.2.2.2⟩
def Ey.p:LF:=⟨⟨[(2,(.bp 2 0 0)),(3999,(.hd 2))],[(1,t20),(5,(.i .i64)),(3000,t16)]⟩,[(.ret,⟨[],[(4,.b)]⟩),((.exit 0),⟨[],[]⟩)],λ k x=>Ey k x.1 x.2.1 x.2.2⟩
def Cs.d:Fd := { nt:=68,nv:=2,nm:=[0,1,2,3,5,6,7,8],res:=[4],cs:=λ k=>[(99,Ec.e k),(100,Am.e k),(101,Ed.e k),(102,I8.e k)],ls:=[(9,Ew.p),(4,Ey.p)],rf:=true }
theorem Cs.a (k:Nat):AC (Cs.d.cs k):=⟨Ec.s k,Am.s k,Ed.s k,I8.s k,trivial⟩
theorem Ew.s:LL Tryz.f50 Cs.d 9 Ew.p:=mL [] Cs.a trivial (by kernel_rfl) (λ _=>rfl) (λ k x=>by kernel_rfl)
theorem Ey.s:LL Tryz.f50 Cs.d 4 Ey.p:=mL [9] Cs.a ⟨Ew.s,trivial⟩ (by kernel_rfl) (λ _=>rfl) (λ k x=>by kernel_rfl)
theorem Cs.s (k:Nat):CK 50 (Cs.e k):=mS Cs.d k [4] Tryz.func50 (Cs.a k) ⟨Ey.s,trivial⟩ (by kernel_rfl) (λ x=>by kernel_rfl)
def Bv.e (k:Nat):Ent:=⟨1,[(.val true t14)],[(.one,.b)],λ x=>Bv x⟩
def Bv.d:Fd := { nt:=16,nv:=1,nm:=[0,1],res:=[2],cs:=λ k=>[(100,Am.e k)] }
theorem Bv.s (k:Nat):CK 52 (Bv.e k):=mS Bv.d k [] Tryz.func52 ⟨Am.s k,trivial⟩ trivial (by kernel_rfl) (λ x=>by kernel_rfl)
def Ap.e (k:Nat):Ent:=⟨1,[(.val false .s)],[(.one,.b)],λ x=>Ap k x⟩
def B5.p:LF:=⟨⟨[],[(0,.s),(3,(.i .i64))]⟩,[(.ret,⟨[],[(2,.b)]⟩),((.exit 0),⟨[],[(0,.s)]⟩)],λ k x=>B5 k x.1 x.2⟩
def Ap.d:Fd := { nt:=38,nv:=1,nm:=[0,1,3,4],res:=[2],cs:=λ k=>[(100,Am.e k)],ls:=[(2,B5.p)] }
theorem Ap.a (k:Nat):AC (Ap.d.cs k):=⟨Am.s k,trivial⟩
theorem B5.s:LL Tryz.f53 Ap.d 2 B5.p:=mL [] Ap.a trivial (by kernel_rfl) (λ _=>rfl) (λ k x=>by kernel_rfl)
theorem Ap.s (k:Nat):CK 53 (Ap.e k):=mS Ap.d k [2] Tryz.func53 (Ap.a k) ⟨B5.s,trivial⟩ (by kernel_rfl) (λ x=>by kernel_rfl)
def G5.e (k:Nat):Ent:=⟨1,[(.val true t25)],[(.one,.b)],λ x=>G5 k x⟩
def G5.d:Fd := { nt:=26,nv:=1,nm:=[0,1],res:=[2],cs:=λ k=>[(52,Bv.e k),(53,Ap.e k),(100,Am.e k)] }
theorem G5.s (k:Nat):CK 141 (G5.e k):=mS G5.d k [] Tryz.func141 ⟨Bv.s k,Ap.s k,Am.s k,trivial⟩ trivial (by kernel_rfl) (λ x=>by kernel_rfl)
def D8.e (k:Nat):Ent:=⟨1,[(.val false t12)],[(.one,.b)],λ x=>D8 k x⟩
def Dv.p:LF:=⟨⟨[],[(0,t12),(3,(.i .i64))]⟩,[(.ret,⟨[],[(2,.b)]⟩),((.exit 0),⟨[],[(0,t12)]⟩)],λ k x=>Dv k x.1 x.2⟩
def D8.d:Fd := { nt:=47,nv:=1,nm:=[0,1,3],res:=[2],cs:=λ k=>[(53,Ap.e k)],ls:=[(2,Dv.p)] }
theorem D8.a (k:Nat):AC (D8.d.cs k):=⟨Ap.s k,trivial⟩
theorem Dv.s:LL Tryz.f168 D8.d 2 Dv.p:=mL [] D8.a trivial (by kernel_rfl) (λ _=>rfl) (λ k x=>by kernel_rfl)
theorem D8.s (k:Nat):CK 168 (D8.e k):=mS D8.d k [2] Tryz.func168 (D8.a k) ⟨Dv.s,trivial⟩ (by kernel_rfl) (λ x=>by kernel_rfl)
def Hy.e (k:Nat):Ent:=⟨1,[(.val true t27)],[(.one,.b)],λ x=>Hy k x⟩
def Hy.d:Fd := { nt:=11,nv:=1,nm:=[0,1],res:=[2],cs:=λ k=>[(168,D8.e k)] }
theorem Hy.s (k:Nat):CK 142 (Hy.e k):=mS Hy.d k [] Tryz.func142 ⟨D8.s k,trivial⟩ trivial (by kernel_rfl) (λ x=>by kernel_rfl)
def Ee.e (k:Nat):Ent:=⟨1,[(.val false t30)],[(.one,.b)],λ x=>Ee k x⟩
def Dw.p:LF:=⟨⟨[],[(0,t30),(3,(.i .i64))]⟩,[(.ret,⟨[],[(2,.b)]⟩),((.exit 0),⟨[],[(0,t30)]⟩)],λ k x=>Dw k x.1 x.2⟩
def Ee.d:Fd := { nt:=37,nv:=1,nm:=[0,1,3],res:=[2],cs:=λ k=>[(141,G5.e k)],ls:=[(2,Dw.p)] }
theorem Ee.a (k:Nat):AC (Ee.d.cs k):=⟨G5.s k,trivial⟩
theorem Dw.s:LL Tryz.f143 Ee.d 2 Dw.p:=mL [] Ee.a trivial (by kernel_rfl) (λ _=>rfl) (λ k x=>by kernel_rfl)
theorem Ee.s (k:Nat):CK 143 (Ee.e k):=mS Ee.d k [2] Tryz.func143 (Ee.a k) ⟨Dw.s,trivial⟩ (by kernel_rfl) (λ x=>by kernel_rfl)
def Ef.e (k:Nat):Ent:=⟨1,[(.val true t37)],[(.one,.b)],λ x=>Ef k x⟩
def Ez.p:LF:=⟨⟨[(1,(.bp 1 0 0)),(2999,(.hd 5))],[(3,(.i .i64)),(2000,(.i .i64)),(2001,t12),(2002,t12),(2003,t30),(2004,t30)]⟩,[(.ret,⟨[],[(2,.b)]⟩),((.exit 0),⟨[(1,(.bp 1 0 0)),(2999,(.hd 5))],[(2000,(.i .i64)),(2001,t12),(2002,t12),(2003,t30),(2004,t30)]⟩)],λ k x=>Ez k x.1 x.2.1 x.2.2.1 x.2.2.2.1 x.2.2.2.2.1 x.2.2.2.2.2⟩
def Ef.d:Fd := { nt:=37,nv:=1,nm:=[0,1,3],res:=[2],cs:=λ k=>[(100,Am.e k),(141,G5.e k),(142,Hy.e k),(143,Ee.e k)],ls:=[(2,Ez.p)] }
theorem Ef.a (k:Nat):AC (Ef.d.cs k):=⟨Am.s k,G5.s k,Hy.s k,Ee.s k,trivial⟩
theorem Ez.s:LL Tryz.f103 Ef.d 2 Ez.p:=mL [] Ef.a trivial (by kernel_rfl) (λ _=>rfl) (λ k x=>by kernel_rfl)
theorem Ef.s (k:Nat):CK 103 (Ef.e k):=mS Ef.d k [2] Tryz.func103 (Ef.a k) ⟨Ez.s,trivial⟩ (by kernel_rfl) (λ x=>by kernel_rfl)
def Bc.e (k:Nat):Ent:=⟨1,[(.val true t42)],[(.one,.b)],λ x=>Bc k x⟩
def C2.p:LF:=⟨⟨[(1,(.bp 1 0 0)),(2999,(.hd 9))],[(3,(.i .i64)),(2000,t42)]⟩,[(.ret,⟨[],[(2,.b)]⟩),((.exit 0),⟨[],[]⟩)],λ k x=>C2 k x.1 x.2⟩
def Bc.d:Fd := { nt:=40,nv:=1,nm:=[0,1,3],res:=[2],cs:=λ k=>[(103,Ef.e k)],ls:=[(4,C2.p)],rf:=true }
theorem Bc.a (k:Nat):AC (Bc.d.cs k):=⟨Ef.s k,trivial⟩
theorem C2.s:LL Tryz.f51 Bc.d 4 C2.p:=mL [] Bc.a trivial (by kernel_rfl) (λ _=>rfl) (λ k x=>by kernel_rfl)
theorem Bc.s (k:Nat):CK 51 (Bc.e k):=mS Bc.d k [4] Tryz.func51 (Bc.a k) ⟨C2.s,trivial⟩ (by kernel_rfl) (λ x=>by kernel_rfl)
def D9.e (k:Nat):Ent:=⟨1,[(.val true t23)],[(.one,.b)],λ x=>D9 x⟩
def D9.d:Fd := { nt:=23,nv:=1,nm:=[0,1],res:=[2],cs:=λ k=>[(52,Bv.e k)] }
theorem D9.s (k:Nat):CK 54 (D9.e k):=mS D9.d k [] Tryz.func54 ⟨Bv.s k,trivial⟩ trivial (by kernel_rfl) (λ x=>by kernel_rfl)
def An.e (k:Nat):Ent:=⟨2,[(.val true t14),(.val true t14)],[(.one,.b)],λ x=>An x.1 x.2⟩
def An.d:Fd := { nt:=32,nv:=2,nm:=[0,1,2,3],res:=[4] }
theorem An.s (k:Nat):CK 55 (An.e k):=mS An.d k [] Tryz.func55 trivial trivial (by kernel_rfl) (λ x=>by kernel_rfl)
def B7.e (k:Nat):Ent:=⟨1,[(.val true t42)],[(.one,.b)],λ x=>B7 k x⟩
def As.p:LF:=⟨⟨[(1,(.bp 1 0 0)),(2999,(.hd 9))],[(5,(.i .i64)),(2000,t42)]⟩,[(.ret,⟨[],[(2,.b)]⟩),((.exit 2),⟨[],[]⟩)],λ k x=>As k x.1 x.2⟩
def Da.p:LF:=⟨⟨[(1,(.bp 1 0 0)),(2999,(.hd 9))],[(3,(.i .i64)),(2000,t42)]⟩,[(.ret,⟨[],[(2,.b)]⟩),((.exit 0),⟨[(1,(.bp 1 0 0)),(2999,(.hd 9))],[(2000,t42)]⟩)],λ k x=>Da k x.1 x.2⟩
def B7.d:Fd := { nt:=91,nv:=1,nm:=[0,1,3,4,5],res:=[2],cs:=λ k=>[(50,Cs.e k),(51,Bc.e k),(52,Bv.e k),(53,Ap.e k),(54,D9.e k),(55,An.e k)],ls:=[(10,As.p),(4,Da.p)],rf:=true }
theorem B7.a (k:Nat):AC (B7.d.cs k):=⟨Cs.s k,Bc.s k,Bv.s k,Ap.s k,D9.s k,An.s k,trivial⟩
theorem As.s:LL Tryz.f17 B7.d 10 As.p:=mL [] B7.a trivial (by kernel_rfl) (λ _=>rfl) (λ k x=>by kernel_rfl)
theorem Da.s:LL Tryz.f17 B7.d 4 Da.p:=mL [] B7.a trivial (by kernel_rfl) (λ _=>rfl) (λ k x=>by kernel_rfl)
theorem B7.s (k:Nat):CK 17 (B7.e k):=mS B7.d k [4,10] Tryz.func17 (B7.a k) ⟨Da.s,As.s,trivial⟩ (by kernel_rfl) (λ x=>by kernel_rfl)
def Bi.e (k:Nat):Ent:=⟨2,[(.val false t2),(.val false (.i .i64))],[(.one,(.i .i64)),(.one,(.i .i64)),(.one,.b)],λ x=>Bi k x.1 x.2⟩
def Ch.p:LF:=⟨⟨[],[(0,t2),(1,(.i .i64)),(7,(.i .i64)),(8,(.i .i64))]⟩,[(.ret,⟨[],[(4,(.i .i64)),(5,(.i .i64)),(6,.b)]⟩),((.exit 0),⟨[],[]⟩)],λ k x=>Ch k x.1 x.2.1 x.2.2.1 x.2.2.2⟩
def Bi.d:Fd := { nt:=64,nv:=2,nm:=[0,1,2,3,7,8,9],res:=[4,5,6],ls:=[(3,Ch.p)] }
theorem Ch.s:LL Tryz.f129 Bi.d 3 Ch.p:=mL [] (λ _=>trivial) trivial (by kernel_rfl) (λ _=>rfl) (λ k x=>by kernel_rfl)
theorem Bi.s (k:Nat):CK 129 (Bi.e k):=mS Bi.d k [3] Tryz.func129 trivial ⟨Ch.s,trivial⟩ (by kernel_rfl) (λ x=>by kernel_rfl)
def Db.e (k:Nat):Ent:=⟨2,[(.val false t2),(.val false (.i .i64))],[(.agg,t14),(.one,(.i .i64)),(.one,.b)],λ x=>Db k x.1 x.2⟩
def Db.d:Fd := { nt:=49,nv:=2,nm:=[0,1,2,3,7,8,9,10,11,12,13,14,15],res:=[5,6],cs:=λ k=>[(129,Bi.e k)] }
theorem Db.s (k:Nat):CK 128 (Db.e k):=mS Db.d k [] Tryz.func128 ⟨Bi.s k,trivial⟩ trivial (by kernel_rfl) (λ x=>by kernel_rfl)
def H0.e (k:Nat):Ent:=⟨2,[(.val false t2),(.val false (.i .i64))],[(.one,.s),(.one,(.i .i64)),(.one,.b)],λ x=>H0 k x.1 x.2⟩
def H0.d:Fd := { nt:=37,nv:=2,nm:=[0,1,2,3,7,8,9],res:=[4,5,6],cs:=λ k=>[(129,Bi.e k)] }
theorem H0.s (k:Nat):CK 130 (H0.e k):=mS H0.d k [] Tryz.func130 ⟨Bi.s k,trivial⟩ trivial (by kernel_rfl) (λ x=>by kernel_rfl)
def Bj.e (k:Nat):Ent:=⟨2,[(.val false t2),(.val false (.i .i64))],[(.one,t3)],λ x=>Bj k x.1 x.2⟩
def B6.p:LF:=⟨⟨[],[(1,(.i .i64)),(5,t3)]⟩,[((.exit 0),⟨[],[(1,(.i .i64)),(5,t3)]⟩)],λ k x=>B6 k x.1 x.2⟩
def Bj.d:Fd := { nt:=29,nv:=2,nm:=[0,1,2,3,5],res:=[4],ls:=[(6,B6.p)] }
theorem B6.s:LL Tryz.f160 Bj.d 6 B6.p:=mL [] (λ _=>trivial) trivial (by kernel_rfl) (λ _=>rfl) (λ k x=>by kernel_rfl)
theorem Bj.s (k:Nat):CK 160 (Bj.e k):=mS Bj.d k [6] Tryz.func160 trivial ⟨B6.s,trivial⟩ (by kernel_rfl) (λ x=>by kernel_rfl)
def H1.e (k:Nat):Ent:=⟨2,[(.val false t2),(.val false .s)],[(.one,t3)],λ x=>H1 k x.1 x.2⟩
def H1.d:Fd := { nt:=11,nv:=2,nm:=[0,1,2,3],res:=[4],cs:=λ k=>[(160,Bj.e k)] }
theorem H1.s (k:Nat):CK 159 (H1.e k):=mS H1.d k [] Tryz.func159 ⟨Bj.s k,trivial⟩ trivial (by kernel_rfl) (λ x=>by kernel_rfl)
def H2.e (k:Nat):Ent:=⟨2,[(.val false t2),(.val true t14)],[(.one,t3)],λ x=>H2 k x.1 x.2⟩
def H2.d:Fd := { nt:=15,nv:=2,nm:=[0,1,2,3],res:=[4],cs:=λ k=>[(160,Bj.e k)] }
theorem H2.s (k:Nat):CK 161 (H2.e k):=mS H2.d k [] Tryz.func161 ⟨Bj.s k,trivial⟩ trivial (by kernel_rfl) (λ x=>by kernel_rfl)
def Ir.e (k:Nat):Ent:=⟨1,[(.val false .b)],[(.one,(.i .i64))],λ x=>Ir x⟩
def Ir.d:Fd := { nt:=4,nv:=1,nm:=[0,1],res:=[2] }
theorem Ir.s (k:Nat):CK 162 (Ir.e k):=mS Ir.d k [] Tryz.func162 trivial trivial (by kernel_rfl) (λ x=>by kernel_rfl)
def Kd.e (k:Nat):Ent:=⟨1,[(.val false t2)],[(.one,(.i .i64))],λ x=>Kd k x⟩
def Hf.p:LF:=⟨⟨[],[(0,t2),(3,(.i .i64)),(4,(.i .i64)),(5,(.i .i64))]⟩,[((.exit 2),⟨[],[(0,t2),(3,(.i .i64)),(4,(.i .i64))]⟩)],λ k x=>Hf k x.1 x.2.1 x.2.2.1 x.2.2.2⟩
def Hz.p:LF:=⟨⟨[],[(0,t2),(3,(.i .i64)),(4,(.i .i64))]⟩,[((.exit 0),⟨[],[(3,(.i .i64))]⟩)],λ k x=>Hz k x.1 x.2.1 x.2.2⟩
def Kd.d:Fd := { nt:=34,nv:=1,nm:=[0,1,3,4,5,6],res:=[2],ls:=[(7,Hf.p),(3,Hz.p)] }
theorem Hf.s:LL Tryz.f163 Kd.d 7 Hf.p:=mL [] (λ _=>trivial) trivial (by kernel_rfl) (λ _=>rfl) (λ k x=>by kernel_rfl)
theorem Hz.s:LL Tryz.f163 Kd.d 3 Hz.p:=mL [7] (λ _=>trivial) ⟨Hf.s,trivial⟩ (by kernel_rfl) (λ _=>rfl) (λ k x=>by kernel_rfl)
theorem Kd.s (k:Nat):CK 163 (Kd.e k):=mS Kd.d k [3] Tryz.func163 trivial ⟨Hz.s,trivial⟩ (by kernel_rfl) (λ x=>by kernel_rfl)
def H3.e (k:Nat):Ent:=⟨1,[(.val true t23)],[(.one,t3)],λ x=>H3 k x⟩
def H3.d:Fd := { nt:=37,nv:=1,nm:=[0,1,3,4],res:=[2],cs:=λ k=>[(54,D9.e k),(159,H1.e k),(160,Bj.e k),(161,H2.e k),(162,Ir.e k),(163,Kd.e k)] }
theorem H3.s (k:Nat):CK 131 (H3.e k):=mS H3.d k [] Tryz.func131 ⟨D9.s k,H1.s k,Bj.s k,H2.s k,Ir.s k,Kd.s k,trivial⟩ trivial (by kernel_rfl) (λ x=>by kernel_rfl)
def Aq.e (k:Nat):Ent:=⟨1,[(.val false t2)],[(.agg,t24),(.one,.b)],λ x=>Aq k x⟩
def Aq.d:Fd := { nt:=76,nv:=1,nm:=[0,1,4,5,6,7,8,9,10,11,12,13],res:=[3],cs:=λ k=>[(54,D9.e k),(128,Db.e k),(129,Bi.e k),(130,H0.e k),(131,H3.e k)],mv:=[75] }
theorem Aq.s (k:Nat):CK 82 (Aq.e k):=mS Aq.d k [] Tryz.func82 ⟨D9.s k,Db.s k,Bi.s k,H0.s k,H3.s k,trivial⟩ trivial (by kernel_rfl) (λ x=>by kernel_rfl)
def G6.e (k:Nat):Ent:=⟨2,[(.val true t23),(.val true t23)],[(.one,.b)],λ x=>G6 x.1 x.2⟩
def G6.d:Fd := { nt:=26,nv:=2,nm:=[0,1,2,3],res:=[4],rf:=true }
theorem G6.s (k:Nat):CK 86 (G6.e k):=mS G6.d k [] Tryz.func86 trivial trivial (by kernel_rfl) (λ x=>by kernel_rfl)
def Bd.e (k:Nat):Ent:=⟨3,[(.val true t42),(.val false .s),(.val true t23)],[(.one,.b)],λ x=>Bd k x.1 x.2.1 x.2.2⟩
def Bh.p:LF:=⟨⟨[(3,(.bp 3 0 0)),(5,(.bp 5 0 0)),(4999,(.hd 9)),(6999,(.hd 5))],[(1,.s),(7,(.i .i64)),(4000,t42),(6000,t23)]⟩,[(.ret,⟨[],[(6,.b)]⟩),((.exit 0),⟨[],[]⟩)],λ k x=>Bh k x.1 x.2.1 x.2.2.1 x.2.2.2⟩
def Bd.d:Fd := { nt:=33,nv:=3,nm:=[0,1,2,3,4,5,7],res:=[6],cs:=λ k=>[(86,G6.e k)],ls:=[(2,Bh.p)],rf:=true }
theorem Bd.a (k:Nat):AC (Bd.d.cs k):=⟨G6.s k,trivial⟩
theorem Bh.s:LL Tryz.f104 Bd.d 2 Bh.p:=mL [] Bd.a trivial (by kernel_rfl) (λ _=>rfl) (λ k x=>by kernel_rfl)
theorem Bd.s (k:Nat):CK 104 (Bd.e k):=mS Bd.d k [2] Tryz.func104 (Bd.a k) ⟨Bh.s,trivial⟩ (by kernel_rfl) (λ x=>by kernel_rfl)
def Bw.e (k:Nat):Ent:=⟨2,[(.val true t42),(.val false t12)],[(.one,.b)],λ x=>Bw k x.1 x.2⟩
def C3.p:LF:=⟨⟨[(2,(.bp 2 0 0)),(3999,(.hd 9))],[(1,t12),(5,(.i .i64)),(3000,t42)]⟩,[(.ret,⟨[],[(4,.b)]⟩),((.exit 0),⟨[],[]⟩)],λ k x=>C3 k x.1 x.2.1 x.2.2⟩
def Bw.d:Fd := { nt:=35,nv:=2,nm:=[0,1,2,3,5,6,7],res:=[4],cs:=λ k=>[(82,Aq.e k),(104,Bd.e k)],ls:=[(2,C3.p)],rf:=true }
theorem Bw.a (k:Nat):AC (Bw.d.cs k):=⟨Aq.s k,Bd.s k,trivial⟩
theorem C3.s:LL Tryz.f56 Bw.d 2 C3.p:=mL [] Bw.a trivial (by kernel_rfl) (λ _=>rfl) (λ k x=>by kernel_rfl)
theorem Bw.s (k:Nat):CK 56 (Bw.e k):=mS Bw.d k [2] Tryz.func56 (Bw.a k) ⟨C3.s,trivial⟩ (by kernel_rfl) (λ x=>by kernel_rfl)
def Ck.e (k:Nat):Ent:=⟨1,[(.val true t42)],[(.one,.b)],λ x=>Ck k x⟩
def Dc.p:LF:=⟨⟨[(1,(.bp 1 0 0)),(2999,(.hd 9))],[(3,(.i .i64)),(2000,t42)]⟩,[(.ret,⟨[],[(2,.b)]⟩),((.exit 0),⟨[],[]⟩)],λ k x=>Dc k x.1 x.2⟩
def Ck.d:Fd := { nt:=33,nv:=1,nm:=[0,1,3],res:=[2],cs:=λ k=>[(56,Bw.e k)],ls:=[(2,Dc.p)],rf:=true }
theorem Ck.a (k:Nat):AC (Ck.d.cs k):=⟨Bw.s k,trivial⟩
theorem Dc.s:LL Tryz.f18 Ck.d 2 Dc.p:=mL [] Ck.a trivial (by kernel_rfl) (λ _=>rfl) (λ k x=>by kernel_rfl)
theorem Ck.s (k:Nat):CK 18 (Ck.e k):=mS Ck.d k [2] Tryz.func18 (Ck.a k) ⟨Dc.s,trivial⟩ (by kernel_rfl) (λ x=>by kernel_rfl)
def Jn.e (k:Nat):Ent:=⟨2,[(.val false .s),(.val true t23)],[(.agg,t25)],λ x=>Jn x.1 x.2⟩
def Jn.d:Fd := { nt:=14,nv:=2,nm:=[0,1,2,3],res:=[] }
theorem Jn.s (k:Nat):CK 105 (Jn.e k):=mS Jn.d k [] Tryz.func105 trivial trivial (by kernel_rfl) (λ x=>by kernel_rfl)
def Az.e (k:Nat):Ent:=⟨2,[(.val true t42),(.val false t30)],[(.one,.b)],λ x=>Az k x.1 x.2⟩
def Ay.p:LF:=⟨⟨[(2,(.bp 2 0 0)),(3999,(.hd 9))],[(1,t30),(5,(.i .i64)),(6,.b),(7,(.i .i64)),(3000,t42)]⟩,[((.exit 2),⟨[(2,(.bp 2 0 0)),(3999,(.hd 9))],[(1,t30),(5,(.i .i64)),(6,.b),(3000,t42)]⟩)],λ k x=>Ay k x.1 x.2.1 x.2.2.1 x.2.2.2.1 x.2.2.2.2⟩
def Dd.p:LF:=⟨⟨[(2,(.bp 2 0 0)),(3999,(.hd 9))],[(1,t30),(5,(.i .i64)),(3000,t42)]⟩,[(.ret,⟨[],[(4,.b)]⟩),((.exit 0),⟨[],[]⟩)],λ k x=>Dd k x.1 x.2.1 x.2.2⟩
def Az.d:Fd := { nt:=44,nv:=2,nm:=[0,1,2,3,5,6,7],res:=[4],cs:=λ k=>[(105,Jn.e k)],ls:=[(6,Ay.p),(2,Dd.p)],rf:=true }
theorem Az.a (k:Nat):AC (Az.d.cs k):=⟨Jn.s k,trivial⟩
theorem Ay.s:LL Tryz.f57 Az.d 6 Ay.p:=mL [] Az.a trivial (by kernel_rfl) (λ _=>rfl) (λ k x=>by kernel_rfl)
theorem Dd.s:LL Tryz.f57 Az.d 2 Dd.p:=mL [6] Az.a ⟨Ay.s,trivial⟩ (by kernel_rfl) (λ _=>rfl) (λ k x=>by kernel_rfl)
theorem Az.s (k:Nat):CK 57 (Az.e k):=mS Az.d k [2] Tryz.func57 (Az.a k) ⟨Dd.s,trivial⟩ (by kernel_rfl) (λ x=>by kernel_rfl)
def Eg.e (k:Nat):Ent:=⟨1,[(.val true t42)],[(.one,.b)],λ x=>Eg k x⟩
def F3.p:LF:=⟨⟨[(1,(.bp 1 0 0)),(2999,(.hd 9))],[(3,(.i .i64)),(2000,t42)]⟩,[(.ret,⟨[],[(2,.b)]⟩),((.exit 0),⟨[],[]⟩)],λ k x=>F3 k x.1 x.2⟩
def Eg.d:Fd := { nt:=31,nv:=1,nm:=[0,1,3],res:=[2],cs:=λ k=>[(57,Az.e k)],ls:=[(2,F3.p)],rf:=true }
theorem Eg.a (k:Nat):AC (Eg.d.cs k):=⟨Az.s k,trivial⟩
theorem F3.s:LL Tryz.f19 Eg.d 2 F3.p:=mL [] Eg.a trivial (by kernel_rfl) (λ _=>rfl) (λ k x=>by kernel_rfl)
theorem Eg.s (k:Nat):CK 19 (Eg.e k):=mS Eg.d k [2] Tryz.func19 (Eg.a k) ⟨F3.s,trivial⟩ (by kernel_rfl) (λ x=>by kernel_rfl)
def Fs.e (k:Nat):Ent:=⟨2,[(.val false t0),(.val false .s)],[(.one,.b)],λ x=>Fs k x.1 x.2⟩
def F4.p:LF:=⟨⟨[],[(0,t0),(1,.s),(5,(.i .i64))]⟩,[(.ret,⟨[],[(4,.b)]⟩),((.exit 0),⟨[],[]⟩)],λ k x=>F4 k x.1 x.2.1 x.2.2⟩
def Fs.d:Fd := { nt:=18,nv:=2,nm:=[0,1,2,3,5],res:=[4],ls:=[(2,F4.p)],rf:=true }
theorem F4.s:LL Tryz.f58 Fs.d 2 F4.p:=mL [] (λ _=>trivial) trivial (by kernel_rfl) (λ _=>rfl) (λ k x=>by kernel_rfl)
theorem Fs.s (k:Nat):CK 58 (Fs.e k):=mS Fs.d k [2] Tryz.func58 trivial ⟨F4.s,trivial⟩ (by kernel_rfl) (λ x=>by kernel_rfl)
def Gr.e (k:Nat):Ent:=⟨2,[(.val false t12),(.val false .s)],[(.one,(.i .i64))],λ x=>Gr k x.1 x.2⟩
def H4.p:LF:=⟨⟨[],[(0,t12),(1,.s),(5,(.i .i64))]⟩,[(.ret,⟨[],[(4,(.i .i64))]⟩),((.exit 0),⟨[],[]⟩)],λ k x=>H4 k x.1 x.2.1 x.2.2⟩
def Gr.d:Fd := { nt:=20,nv:=2,nm:=[0,1,2,3,5],res:=[4],ls:=[(2,H4.p)] }
theorem H4.s:LL Tryz.f83 Gr.d 2 H4.p:=mL [] (λ _=>trivial) trivial (by kernel_rfl) (λ _=>rfl) (λ k x=>by kernel_rfl)
theorem Gr.s (k:Nat):CK 83 (Gr.e k):=mS Gr.d k [2] Tryz.func83 trivial ⟨H4.s,trivial⟩ (by kernel_rfl) (λ x=>by kernel_rfl)
def Hd.e (k:Nat):Ent:=⟨2,[(.val true t23),(.val true t23)],[(.one,.b)],λ x=>Hd x.1 x.2⟩
def Hd.d:Fd := { nt:=10,nv:=2,nm:=[0,1,2,3],res:=[4],cs:=λ k=>[(55,An.e k)] }
theorem Hd.s (k:Nat):CK 106 (Hd.e k):=mS Hd.d k [] Tryz.func106 ⟨An.s k,trivial⟩ trivial (by kernel_rfl) (λ x=>by kernel_rfl)
def Cl.e (k:Nat):Ent:=⟨2,[(.val true t42),(.val true t32)],[(.one,.b)],λ x=>Cl k x.1 x.2⟩
def Bl.p:LF:=⟨⟨[(2,(.bp 2 0 0)),(3,(.bp 3 0 0)),(3999,(.hd 9)),(4999,(.hd 7))],[(5,(.i .i64)),(3000,t42),(4000,t32)]⟩,[(.ret,⟨[],[(4,.b)]⟩),((.exit 0),⟨[],[]⟩)],λ k x=>Bl k x.1 x.2.1 x.2.2⟩
def Cl.d:Fd := { nt:=47,nv:=2,nm:=[0,1,2,3,5,6,7,8,9],res:=[4],cs:=λ k=>[(82,Aq.e k),(83,Gr.e k),(106,Hd.e k)],ls:=[(2,Bl.p)],rf:=true }
theorem Cl.a (k:Nat):AC (Cl.d.cs k):=⟨Aq.s k,Gr.s k,Hd.s k,trivial⟩
theorem Bl.s:LL Tryz.f59 Cl.d 2 Bl.p:=mL [] Cl.a trivial (by kernel_rfl) (λ _=>rfl) (λ k x=>by kernel_rfl)
theorem Cl.s (k:Nat):CK 59 (Cl.e k):=mS Cl.d k [2] Tryz.func59 (Cl.a k) ⟨Bl.s,trivial⟩ (by kernel_rfl) (λ x=>by kernel_rfl)
def Hj.e (k:Nat):Ent:=⟨1,[(.val true t42)],[(.one,.b)],λ x=>Hj k x⟩
def Fv.p:LF:=⟨⟨[(1,(.bp 1 0 0)),(2999,(.hd 9))],[(3,(.i .i64)),(2000,t42)]⟩,[(.ret,⟨[],[(2,.b)]⟩),((.exit 0),⟨[],[]⟩)],λ k x=>Fv k x.1 x.2⟩
def Hj.d:Fd := { nt:=33,nv:=1,nm:=[0,1,3,4],res:=[2],cs:=λ k=>[(58,Fs.e k),(59,Cl.e k)],ls:=[(2,Fv.p)],rf:=true }
theorem Hj.a (k:Nat):AC (Hj.d.cs k):=⟨Fs.s k,Cl.s k,trivial⟩
theorem Fv.s:LL Tryz.f20 Hj.d 2 Fv.p:=mL [] Hj.a trivial (by kernel_rfl) (λ _=>rfl) (λ k x=>by kernel_rfl)
theorem Hj.s (k:Nat):CK 20 (Hj.e k):=mS Hj.d k [2] Tryz.func20 (Hj.a k) ⟨Fv.s,trivial⟩ (by kernel_rfl) (λ x=>by kernel_rfl)
def Cm.e (k:Nat):Ent:=⟨1,[(.val true t42)],[(.one,.b)],λ x=>Cm k x⟩
def C4.p:LF:=⟨⟨[(1,(.bp 1 0 0)),(2999,(.hd 9))],[(3,(.i .i64)),(2000,t42)]⟩,[(.ret,⟨[],[(2,.b)]⟩),((.exit 0),⟨[],[]⟩)],λ k x=>C4 k x.1 x.2⟩
def Cm.d:Fd := { nt:=40,nv:=1,nm:=[0,1,3,4],res:=[2],cs:=λ k=>[(55,An.e k)],ls:=[(2,C4.p)],rf:=true }
theorem Cm.a (k:Nat):AC (Cm.d.cs k):=⟨An.s k,trivial⟩
theorem C4.s:LL Tryz.f21 Cm.d 2 C4.p:=mL [] Cm.a trivial (by kernel_rfl) (λ _=>rfl) (λ k x=>by kernel_rfl)
theorem Cm.s (k:Nat):CK 21 (Cm.e k):=mS Cm.d k [2] Tryz.func21 (Cm.a k) ⟨C4.s,trivial⟩ (by kernel_rfl) (λ x=>by kernel_rfl)
def Jz.e (k:Nat):Ent:=⟨1,[(.val true t42)],[(.one,(.i .i64))],λ x=>Jz k x⟩
def Jz.d:Fd := { nt:=23,nv:=1,nm:=[0,1],res:=[2],cs:=λ k=>[(17,B7.e k),(18,Ck.e k),(19,Eg.e k),(20,Hj.e k),(21,Cm.e k)],rf:=true }
theorem Jz.s (k:Nat):CK 6 (Jz.e k):=mS Jz.d k [] Tryz.func6 ⟨B7.s k,Ck.s k,Eg.s k,Hj.s k,Cm.s k,trivial⟩ trivial (by kernel_rfl) (λ x=>by kernel_rfl)
def Jo.e (k:Nat):Ent:=⟨1,[(.val true t14)],[(.agg,t14)],λ x=>Jo x⟩
def Jo.d:Fd := { nt:=14,nv:=1,nm:=[0,1,3],res:=[],rf:=true }
theorem Jo.s (k:Nat):CK 60 (Jo.e k):=mS Jo.d k [] Tryz.func60 trivial trivial (by kernel_rfl) (λ x=>by kernel_rfl)
def Eh.e (k:Nat):Ent:=⟨1,[(.val false t19)],[(.one,t21)],λ x=>Eh k x⟩
def F5.p:LF:=⟨⟨[],[(0,t19),(3,t21),(4,(.i .i64))]⟩,[((.exit 0),⟨[],[(3,t21)]⟩)],λ k x=>F5 k x.1 x.2.1 x.2.2⟩
def Eh.d:Fd := { nt:=23,nv:=1,nm:=[0,1,3,4],res:=[2],cs:=λ k=>[(60,Jo.e k)],ls:=[(3,F5.p)],rf:=true }
theorem Eh.a (k:Nat):AC (Eh.d.cs k):=⟨Jo.s k,trivial⟩
theorem F5.s:LL Tryz.f22 Eh.d 3 F5.p:=mL [] Eh.a trivial (by kernel_rfl) (λ _=>rfl) (λ k x=>by kernel_rfl)
theorem Eh.s (k:Nat):CK 22 (Eh.e k):=mS Eh.d k [3] Tryz.func22 (Eh.a k) ⟨F5.s,trivial⟩ (by kernel_rfl) (λ x=>by kernel_rfl)
def Hg.e (k:Nat):Ent:=⟨1,[(.val false t4)],[(.one,t5)],λ x=>Hg k x⟩
def F6.p:LF:=⟨⟨[],[(0,t4),(3,t5),(4,(.i .i64))]⟩,[((.exit 0),⟨[],[(3,t5)]⟩)],λ k x=>F6 k x.1 x.2.1 x.2.2⟩
def Hg.d:Fd := { nt:=22,nv:=1,nm:=[0,1,3,4],res:=[2],ls:=[(3,F6.p)],rf:=true }
theorem F6.s:LL Tryz.f144 Hg.d 3 F6.p:=mL [] (λ _=>trivial) trivial (by kernel_rfl) (λ _=>rfl) (λ k x=>by kernel_rfl)
theorem Hg.s (k:Nat):CK 144 (Hg.e k):=mS Hg.d k [3] Tryz.func144 trivial ⟨F6.s,trivial⟩ (by kernel_rfl) (λ x=>by kernel_rfl)
def It.e (k:Nat):Ent:=⟨1,[(.val true t4)],[(.agg,t5)],λ x=>It k x⟩
def It.d:Fd := { nt:=9,nv:=1,nm:=[0,1,3],res:=[],cs:=λ k=>[(144,Hg.e k)],mv:=[8],rf:=true }
theorem It.s (k:Nat):CK 107 (It.e k):=mS It.d k [] Tryz.func107 ⟨Hg.s k,trivial⟩ trivial (by kernel_rfl) (λ x=>by kernel_rfl)
def Cn.e (k:Nat):Ent:=⟨1,[(.val false t7)],[(.one,t9)],λ x=>Cn k x⟩
def De.p:LF:=⟨⟨[],[(0,t7),(3,t9),(4,(.i .i64))]⟩,[((.exit 0),⟨[],[(3,t9)]⟩)],λ k x=>De k x.1 x.2.1 x.2.2⟩
def Cn.d:Fd := { nt:=23,nv:=1,nm:=[0,1,3,4],res:=[2],cs:=λ k=>[(107,It.e k)],ls:=[(3,De.p)],rf:=true }
theorem Cn.a (k:Nat):AC (Cn.d.cs k):=⟨It.s k,trivial⟩
theorem De.s:LL Tryz.f61 Cn.d 3 De.p:=mL [] Cn.a trivial (by kernel_rfl) (λ _=>rfl) (λ k x=>by kernel_rfl)
theorem Cn.s (k:Nat):CK 61 (Cn.e k):=mS Cn.d k [3] Tryz.func61 (Cn.a k) ⟨De.s,trivial⟩ (by kernel_rfl) (λ x=>by kernel_rfl)
def Iu.e (k:Nat):Ent:=⟨1,[(.val true t15)],[(.agg,t17)],λ x=>Iu k x⟩
def Iu.d:Fd := { nt:=12,nv:=1,nm:=[0,1,3],res:=[],cs:=λ k=>[(61,Cn.e k)],mv:=[11],rf:=true }
theorem Iu.s (k:Nat):CK 23 (Iu.e k):=mS Iu.d k [] Tryz.func23 ⟨Cn.s k,trivial⟩ trivial (by kernel_rfl) (λ x=>by kernel_rfl)
def Dg.e (k:Nat):Ent:=⟨1,[(.val false t2)],[(.one,t3)],λ x=>Dg k x⟩
def Df.p:LF:=⟨⟨[],[(0,t2),(3,t3),(4,(.i .i64))]⟩,[((.exit 0),⟨[],[(3,t3)]⟩)],λ k x=>Df k x.1 x.2.1 x.2.2⟩
def Dg.d:Fd := { nt:=22,nv:=1,nm:=[0,1,3,4],res:=[2],ls:=[(3,Df.p)],rf:=true }
theorem Df.s:LL Tryz.f147 Dg.d 3 Df.p:=mL [] (λ _=>trivial) trivial (by kernel_rfl) (λ _=>rfl) (λ k x=>by kernel_rfl)
theorem Dg.s (k:Nat):CK 147 (Dg.e k):=mS Dg.d k [3] Tryz.func147 trivial ⟨Df.s,trivial⟩ (by kernel_rfl) (λ x=>by kernel_rfl)
def Hs.e (k:Nat):Ent:=⟨1,[(.val true t10)],[(.agg,(.pr .s t3))],λ x=>Hs k x⟩
def Hs.d:Fd := { nt:=12,nv:=1,nm:=[0,1,3],res:=[],cs:=λ k=>[(147,Dg.e k)],mv:=[11],rf:=true }
theorem Hs.s (k:Nat):CK 169 (Hs.e k):=mS Hs.d k [] Tryz.func169 ⟨Dg.s k,trivial⟩ trivial (by kernel_rfl) (λ x=>by kernel_rfl)
def B0.e (k:Nat):Ent:=⟨1,[(.val false t11)],[(.one,t13)],λ x=>B0 k x⟩
def C5.p:LF:=⟨⟨[],[(0,t11),(3,t13),(4,(.i .i64))]⟩,[((.exit 0),⟨[],[(3,t13)]⟩)],λ k x=>C5 k x.1 x.2.1 x.2.2⟩
def B0.d:Fd := { nt:=23,nv:=1,nm:=[0,1,3,4],res:=[2],cs:=λ k=>[(169,Hs.e k)],ls:=[(3,C5.p)],rf:=true }
theorem B0.a (k:Nat):AC (B0.d.cs k):=⟨Hs.s k,trivial⟩
theorem C5.s:LL Tryz.f145 B0.d 3 C5.p:=mL [] B0.a trivial (by kernel_rfl) (λ _=>rfl) (λ k x=>by kernel_rfl)
theorem B0.s (k:Nat):CK 145 (B0.e k):=mS B0.d k [3] Tryz.func145 (B0.a k) ⟨C5.s,trivial⟩ (by kernel_rfl) (λ x=>by kernel_rfl)
def Iv.e (k:Nat):Ent:=⟨1,[(.val true t26)],[(.agg,t28)],λ x=>Iv k x⟩
def Iv.d:Fd := { nt:=13,nv:=1,nm:=[0,1,3],res:=[],cs:=λ k=>[(145,B0.e k)],mv:=[12],rf:=true }
theorem Iv.s (k:Nat):CK 108 (Iv.e k):=mS Iv.d k [] Tryz.func108 ⟨B0.s k,trivial⟩ trivial (by kernel_rfl) (λ x=>by kernel_rfl)
def B1.e (k:Nat):Ent:=⟨1,[(.val true t14)],[(.agg,t14)],λ x=>B1 x⟩
def B1.d:Fd := { nt:=14,nv:=1,nm:=[0,1,3],res:=[],rf:=true }
theorem B1.s (k:Nat):CK 25 (B1.e k):=mS B1.d k [] Tryz.func25 trivial trivial (by kernel_rfl) (λ x=>by kernel_rfl)
def Jp.e (k:Nat):Ent:=⟨1,[(.val true t25)],[(.agg,t25)],λ x=>Jp x⟩
def Jp.d:Fd := { nt:=18,nv:=1,nm:=[0,1,3],res:=[],cs:=λ k=>[(25,B1.e k)],rf:=true }
theorem Jp.s (k:Nat):CK 146 (Jp.e k):=mS Jp.d k [] Tryz.func146 ⟨B1.s k,trivial⟩ trivial (by kernel_rfl) (λ x=>by kernel_rfl)
def Dh.e (k:Nat):Ent:=⟨1,[(.val false t29)],[(.one,t31)],λ x=>Dh k x⟩
def F7.p:LF:=⟨⟨[],[(0,t29),(3,t31),(4,(.i .i64))]⟩,[((.exit 0),⟨[],[(3,t31)]⟩)],λ k x=>F7 k x.1 x.2.1 x.2.2⟩
def Dh.d:Fd := { nt:=23,nv:=1,nm:=[0,1,3,4],res:=[2],cs:=λ k=>[(146,Jp.e k)],ls:=[(3,F7.p)],rf:=true }
theorem Dh.a (k:Nat):AC (Dh.d.cs k):=⟨Jp.s k,trivial⟩
theorem F7.s:LL Tryz.f109 Dh.d 3 F7.p:=mL [] Dh.a trivial (by kernel_rfl) (λ _=>rfl) (λ k x=>by kernel_rfl)
theorem Dh.s (k:Nat):CK 109 (Dh.e k):=mS Dh.d k [3] Tryz.func109 (Dh.a k) ⟨F7.s,trivial⟩ (by kernel_rfl) (λ x=>by kernel_rfl)
def Iw.e (k:Nat):Ent:=⟨1,[(.val true t36)],[(.agg,(.pr (.i .i64) (.pr t28 (.pr t31 t31))))],λ x=>Iw k x⟩
def Iw.d:Fd := { nt:=20,nv:=1,nm:=[0,1,3],res:=[],cs:=λ k=>[(108,Iv.e k),(109,Dh.e k)],mv:=[19],rf:=true }
theorem Iw.s (k:Nat):CK 62 (Iw.e k):=mS Iw.d k [] Tryz.func62 ⟨Iv.s k,Dh.s k,trivial⟩ trivial (by kernel_rfl) (λ x=>by kernel_rfl)
def Co.e (k:Nat):Ent:=⟨1,[(.val false t38)],[(.one,t40)],λ x=>Co k x⟩
def Di.p:LF:=⟨⟨[],[(0,t38),(3,t40),(4,(.i .i64))]⟩,[((.exit 0),⟨[],[(3,t40)]⟩)],λ k x=>Di k x.1 x.2.1 x.2.2⟩
def Co.d:Fd := { nt:=23,nv:=1,nm:=[0,1,3,4],res:=[2],cs:=λ k=>[(62,Iw.e k)],ls:=[(3,Di.p)],rf:=true }
theorem Co.a (k:Nat):AC (Co.d.cs k):=⟨Iw.s k,trivial⟩
theorem Di.s:LL Tryz.f24 Co.d 3 Di.p:=mL [] Co.a trivial (by kernel_rfl) (λ _=>rfl) (λ k x=>by kernel_rfl)
theorem Co.s (k:Nat):CK 24 (Co.e k):=mS Co.d k [3] Tryz.func24 (Co.a k) ⟨Di.s,trivial⟩ (by kernel_rfl) (λ x=>by kernel_rfl)
def I0.e (k:Nat):Ent:=⟨1,[(.val true t23)],[(.agg,t24)],λ x=>I0 k x⟩
def I0.d:Fd := { nt:=16,nv:=1,nm:=[0,1,3],res:=[],cs:=λ k=>[(25,B1.e k),(147,Dg.e k)],mv:=[15],rf:=true }
theorem I0.s (k:Nat):CK 110 (I0.e k):=mS I0.d k [] Tryz.func110 ⟨B1.s k,Dg.s k,trivial⟩ trivial (by kernel_rfl) (λ x=>by kernel_rfl)
def Ht.e (k:Nat):Ent:=⟨1,[(.val true t32)],[(.agg,(.pr .s (.pr t24 .b)))],λ x=>Ht k x⟩
def Ht.d:Fd := { nt:=15,nv:=1,nm:=[0,1,3],res:=[],cs:=λ k=>[(110,I0.e k)],mv:=[14],rf:=true }
theorem Ht.s (k:Nat):CK 63 (Ht.e k):=mS Ht.d k [] Tryz.func63 ⟨I0.s k,trivial⟩ trivial (by kernel_rfl) (λ x=>by kernel_rfl)
def Be.e (k:Nat):Ent:=⟨1,[(.val false t33)],[(.one,t35)],λ x=>Be k x⟩
def C6.p:LF:=⟨⟨[],[(0,t33),(3,t35),(4,(.i .i64))]⟩,[((.exit 0),⟨[],[(3,t35)]⟩)],λ k x=>C6 k x.1 x.2.1 x.2.2⟩
def Be.d:Fd := { nt:=23,nv:=1,nm:=[0,1,3,4],res:=[2],cs:=λ k=>[(63,Ht.e k)],ls:=[(3,C6.p)],rf:=true }
theorem Be.a (k:Nat):AC (Be.d.cs k):=⟨Ht.s k,trivial⟩
theorem C6.s:LL Tryz.f26 Be.d 3 C6.p:=mL [] Be.a trivial (by kernel_rfl) (λ _=>rfl) (λ k x=>by kernel_rfl)
theorem Be.s (k:Nat):CK 26 (Be.e k):=mS Be.d k [3] Tryz.func26 (Be.a k) ⟨C6.s,trivial⟩ (by kernel_rfl) (λ x=>by kernel_rfl)
def Dx.e (k:Nat):Ent:=⟨1,[(.val false t0)],[(.one,t1)],λ x=>Dx k x⟩
def Bm.p:LF:=⟨⟨[],[(0,t0),(3,t1),(4,(.i .i64))]⟩,[((.exit 0),⟨[],[(3,t1)]⟩)],λ k x=>Bm k x.1 x.2.1 x.2.2⟩
def Dx.d:Fd := { nt:=22,nv:=1,nm:=[0,1,3,4],res:=[2],ls:=[(3,Bm.p)],rf:=true }
theorem Bm.s:LL Tryz.f27 Dx.d 3 Bm.p:=mL [] (λ _=>trivial) trivial (by kernel_rfl) (λ _=>rfl) (λ k x=>by kernel_rfl)
theorem Dx.s (k:Nat):CK 27 (Dx.e k):=mS Dx.d k [3] Tryz.func27 trivial ⟨Bm.s,trivial⟩ (by kernel_rfl) (λ x=>by kernel_rfl)
def B8.e (k:Nat):Ent:=⟨1,[(.val true t41)],[(.agg,(.pr t21 (.pr t17 (.pr t40 (.pr t14 (.pr t35 t1))))))],λ x=>B8 k x⟩
def B8.d:Fd := { nt:=29,nv:=1,nm:=[0,1,3],res:=[],cs:=λ k=>[(22,Eh.e k),(23,Iu.e k),(24,Co.e k),(25,B1.e k),(26,Be.e k),(27,Dx.e k)],mv:=[28],rf:=true }
theorem B8.s (k:Nat):CK 7 (B8.e k):=mS B8.d k [] Tryz.func7 ⟨Eh.s k,Iu.s k,Co.s k,B1.s k,Be.s k,Dx.s k,trivial⟩ trivial (by kernel_rfl) (λ x=>by kernel_rfl)
def F8.e (k:Nat):Ent:=⟨3,[(.val false (.i .i64)),(.val false (.i .i64)),(.val false (.i .i64))],[(.one,.b)],λ x=>F8 x.1 x.2.1 x.2.2⟩
def F8.d:Fd := { nt:=15,nv:=3,nm:=[0,1,2,3,4,5],res:=[6] }
theorem F8.s (k:Nat):CK 112 (F8.e k):=mS F8.d k [] Tryz.func112 trivial trivial (by kernel_rfl) (λ x=>by kernel_rfl)
def Ei.e (k:Nat):Ent:=⟨1,[(.val false t20)],[(.one,.b)],λ x=>Ei k x⟩
def Dy.p:LF:=⟨⟨[],[(0,t20),(5,t20),(6,(.i .i64)),(7,(.i .i64))]⟩,[(.ret,⟨[],[(2,.b)]⟩),((.exit 0),⟨[],[(0,t20)]⟩)],λ k x=>Dy k x.1 x.2.1 x.2.2.1 x.2.2.2⟩
def Ei.d:Fd := { nt:=47,nv:=1,nm:=[0,1,3,4],res:=[2],cs:=λ k=>[(112,F8.e k)],ls:=[(2,Dy.p)],rf:=true }
theorem Ei.a (k:Nat):AC (Ei.d.cs k):=⟨F8.s k,trivial⟩
theorem Dy.s:LL Tryz.f111 Ei.d 2 Dy.p:=mL [] Ei.a trivial (by kernel_rfl) (λ _=>rfl) (λ k x=>by kernel_rfl)
theorem Ei.s (k:Nat):CK 111 (Ei.e k):=mS Ei.d k [2] Tryz.func111 (Ei.a k) ⟨Dy.s,trivial⟩ (by kernel_rfl) (λ x=>by kernel_rfl)
def Ct.e (k:Nat):Ent:=⟨2,[(.val false t4),(.val false (.i .i64))],[(.one,.b)],λ x=>Ct k x.1 x.2⟩
def F9.p:LF:=⟨⟨[],[(1,(.i .i64)),(7,t4),(8,(.i .i64)),(9,(.i .i64))]⟩,[(.ret,⟨[],[(4,.b)]⟩),((.exit 0),⟨[],[]⟩)],λ k x=>F9 k x.1 x.2.1 x.2.2.1 x.2.2.2⟩
def Ct.d:Fd := { nt:=17,nv:=2,nm:=[0,1,2,3,5,6],res:=[4],ls:=[(2,F9.p)],rf:=true }
theorem F9.s:LL Tryz.f93 Ct.d 2 F9.p:=mL [] (λ _=>trivial) trivial (by kernel_rfl) (λ _=>rfl) (λ k x=>by kernel_rfl)
theorem Ct.s (k:Nat):CK 93 (Ct.e k):=mS Ct.d k [2] Tryz.func93 trivial ⟨F9.s,trivial⟩ (by kernel_rfl) (λ x=>by kernel_rfl)
def Gg.e (k:Nat):Ent:=⟨1,[(.val false t4)],[(.one,.b)],λ x=>Gg k x⟩
def G7.p:LF:=⟨⟨[],[(0,t4),(5,t4),(6,(.i .i64)),(7,(.i .i64))]⟩,[(.ret,⟨[],[(2,.b)]⟩),((.exit 0),⟨[],[]⟩)],λ k x=>G7 k x.1 x.2.1 x.2.2.1 x.2.2.2⟩
def Gg.d:Fd := { nt:=18,nv:=1,nm:=[0,1,3,4],res:=[2],cs:=λ k=>[(93,Ct.e k)],ls:=[(2,G7.p)],rf:=true }
theorem Gg.a (k:Nat):AC (Gg.d.cs k):=⟨Ct.s k,trivial⟩
theorem G7.s:LL Tryz.f113 Gg.d 2 G7.p:=mL [] Gg.a trivial (by kernel_rfl) (λ _=>rfl) (λ k x=>by kernel_rfl)
theorem Gg.s (k:Nat):CK 113 (Gg.e k):=mS Gg.d k [2] Tryz.func113 (Gg.a k) ⟨G7.s,trivial⟩ (by kernel_rfl) (λ x=>by kernel_rfl)
def I9.e (k:Nat):Ent:=⟨2,[(.val false t20),(.val false (.i .i64))],[(.agg,t14),(.one,.b)],λ x=>I9 k x.1 x.2⟩
def G8.p:LF:=⟨⟨[(4,(.bp 4 0 0)),(5999,(.hd 3))],[(1,(.i .i64)),(8,t20),(9,(.i .i64)),(10,(.i .i64)),(5000,t14)]⟩,[(.ret,⟨[(4,(.bp 4 0 0)),(5999,(.hd 3))],[(5,.b),(5000,t14)]⟩),((.exit 0),⟨[(4,(.bp 4 0 0)),(5999,(.hd 3))],[(5000,t14)]⟩)],λ k x=>G8 k x.1 x.2.1 x.2.2.1 x.2.2.2.1 x.2.2.2.2⟩
def I9.d:Fd := { nt:=21,nv:=2,nm:=[0,1,2,3,6,7],res:=[5],ls:=[(2,G8.p)],rf:=true }
theorem G8.s:LL Tryz.f114 I9.d 2 G8.p:=mL [] (λ _=>trivial) trivial (by kernel_rfl) (λ _=>rfl) (λ k x=>by kernel_rfl)
theorem I9.s (k:Nat):CK 114 (I9.e k):=mS I9.d k [2] Tryz.func114 trivial ⟨G8.s,trivial⟩ (by kernel_rfl) (λ x=>by kernel_rfl)
def Cu.e (k:Nat):Ent:=⟨2,[(.val true t16),(.val false t20)],[(.one,.b)],λ x=>Cu k x.1 x.2⟩
def Fa.p:LF:=⟨⟨[(2,(.bp 2 0 0)),(3999,(.hd 2))],[(1,t20),(28,t8),(29,(.i .i64)),(30,(.i .i64)),(47,t4),(48,(.i .i64)),(49,(.i .i64)),(3000,t16)]⟩,[(.ret,⟨[],[(4,.b)]⟩),((.exit 2),⟨[(2,(.bp 2 0 0)),(3999,(.hd 2))],[(1,t20),(28,t8),(29,(.i .i64)),(30,(.i .i64)),(3000,t16)]⟩)],λ k x=>Fa k x.1 x.2.1 x.2.2.1 x.2.2.2.1 x.2.2.2.2.1 x.2.2.2.2.2.1 x.2.2.2.2.2.2.1 x.2.2.2.2.2.2.2⟩
def Fb.p:LF:=⟨⟨[(2,(.bp 2 0 0)),(3999,(.hd 2))],[(1,t20),(28,t8),(29,(.i .i64)),(30,(.i .i64)),(3000,t16)]⟩,[(.ret,⟨[],[(4,.b)]⟩),((.exit 0),⟨[],[]⟩)],λ k x=>Fb k x.1 x.2.1 x.2.2.1 x.2.2.2.1 x.2.2.2.2⟩
def Cu.d:Fd := { nt:=63,nv:=2,nm:=[0,1,2,3,5,6,7,8,9,10],res:=[4],cs:=λ k=>[(111,Ei.e k),(112,F8.e k),(113,Gg.e k),(114,I9.e k)],ls:=[(9,Fa.p),(4,Fb.p)],rf:=true }
theorem Cu.a (k:Nat):AC (Cu.d.cs k):=⟨Ei.s k,F8.s k,Gg.s k,I9.s k,trivial⟩
theorem Fa.s:LL Tryz.f64 Cu.d 9 Fa.p:=mL [] Cu.a trivial (by kernel_rfl) (λ _=>rfl) (λ k x=>by kernel_rfl)
theorem Fb.s:LL Tryz.f64 Cu.d 4 Fb.p:=mL [9] Cu.a ⟨Fa.s,trivial⟩ (by kernel_rfl) (λ _=>rfl) (λ k x=>by kernel_rfl)
theorem Cu.s (k:Nat):CK 64 (Cu.e k):=mS Cu.d k [4] Tryz.func64 (Cu.a k) ⟨Fb.s,trivial⟩ (by kernel_rfl) (λ x=>by kernel_rfl)
def Bx.e (k:Nat):Ent:=⟨1,[(.val true t14)],[(.one,.b)],λ x=>Bx x⟩
def Bx.d:Fd := { nt:=16,nv:=1,nm:=[0,1],res:=[2],cs:=λ k=>[(112,F8.e k)] }
theorem Bx.s (k:Nat):CK 65 (Bx.e k):=mS Bx.d k [] Tryz.func65 ⟨F8.s k,trivial⟩ trivial (by kernel_rfl) (λ x=>by kernel_rfl)
def Ao.e (k:Nat):Ent:=⟨1,[(.val false .s)],[(.one,.b)],λ x=>Ao k x⟩
def A6.p:LF:=⟨⟨[],[(0,.s),(3,(.i .i64))]⟩,[(.ret,⟨[],[(2,.b)]⟩),((.exit 0),⟨[],[(0,.s)]⟩)],λ k x=>A6 k x.1 x.2⟩
def Ao.d:Fd := { nt:=45,nv:=1,nm:=[0,1,3,4],res:=[2],cs:=λ k=>[(112,F8.e k)],ls:=[(2,A6.p)] }
theorem Ao.a (k:Nat):AC (Ao.d.cs k):=⟨F8.s k,trivial⟩
theorem A6.s:LL Tryz.f68 Ao.d 2 A6.p:=mL [] Ao.a trivial (by kernel_rfl) (λ _=>rfl) (λ k x=>by kernel_rfl)
theorem Ao.s (k:Nat):CK 68 (Ao.e k):=mS Ao.d k [2] Tryz.func68 (Ao.a k) ⟨A6.s,trivial⟩ (by kernel_rfl) (λ x=>by kernel_rfl)
def Ae.e (k:Nat):Ent:=⟨2,[(.val true t14),(.val true t14)],[(.one,.b)],λ x=>Ae x.1 x.2⟩
def Ae.d:Fd := { nt:=32,nv:=2,nm:=[0,1,2,3],res:=[4] }
theorem Ae.s (k:Nat):CK 75 (Ae.e k):=mS Ae.d k [] Tryz.func75 trivial trivial (by kernel_rfl) (λ x=>by kernel_rfl)
def G9.e (k:Nat):Ent:=⟨1,[(.val true t23)],[(.one,.b)],λ x=>G9 x⟩
def G9.d:Fd := { nt:=23,nv:=1,nm:=[0,1],res:=[2],cs:=λ k=>[(65,Bx.e k)] }
theorem G9.s (k:Nat):CK 115 (G9.e k):=mS G9.d k [] Tryz.func115 ⟨Bx.s k,trivial⟩ trivial (by kernel_rfl) (λ x=>by kernel_rfl)
def Bf.e (k:Nat):Ent:=⟨1,[(.val true t42)],[(.one,.b)],λ x=>Bf k x⟩
def C7.p:LF:=⟨⟨[(1,(.bp 1 0 0)),(2999,(.hd 9))],[(6,t34),(7,(.i .i64)),(8,(.i .i64)),(2000,t42)]⟩,[(.ret,⟨[],[(2,.b)]⟩),((.exit 0),⟨[(1,(.bp 1 0 0)),(2999,(.hd 9))],[(2000,t42)]⟩)],λ k x=>C7 k x.1 x.2.1 x.2.2.1 x.2.2.2⟩
def Bf.d:Fd := { nt:=35,nv:=1,nm:=[0,1,3,4],res:=[2],cs:=λ k=>[(68,Ao.e k),(75,Ae.e k),(115,G9.e k)],ls:=[(2,C7.p)],rf:=true }
theorem Bf.a (k:Nat):AC (Bf.d.cs k):=⟨Ao.s k,Ae.s k,G9.s k,trivial⟩
theorem C7.s:LL Tryz.f66 Bf.d 2 C7.p:=mL [] Bf.a trivial (by kernel_rfl) (λ _=>rfl) (λ k x=>by kernel_rfl)
theorem Bf.s (k:Nat):CK 66 (Bf.e k):=mS Bf.d k [2] Tryz.func66 (Bf.a k) ⟨C7.s,trivial⟩ (by kernel_rfl) (λ x=>by kernel_rfl)
def He.e (k:Nat):Ent:=⟨1,[(.val true t25)],[(.one,.b)],λ x=>He k x⟩
def He.d:Fd := { nt:=26,nv:=1,nm:=[0,1],res:=[2],cs:=λ k=>[(65,Bx.e k),(68,Ao.e k),(112,F8.e k)] }
theorem He.s (k:Nat):CK 116 (He.e k):=mS He.d k [] Tryz.func116 ⟨Bx.s k,Ao.s k,F8.s k,trivial⟩ trivial (by kernel_rfl) (λ x=>by kernel_rfl)
def Bz.e (k:Nat):Ent:=⟨1,[(.val false t12)],[(.one,.b)],λ x=>Bz k x⟩
def C8.p:LF:=⟨⟨[],[(0,t12),(5,t12),(6,(.i .i64)),(7,(.i .i64))]⟩,[(.ret,⟨[],[(2,.b)]⟩),((.exit 0),⟨[],[(0,t12)]⟩)],λ k x=>C8 k x.1 x.2.1 x.2.2.1 x.2.2.2⟩
def Bz.d:Fd := { nt:=41,nv:=1,nm:=[0,1,3,4],res:=[2],cs:=λ k=>[(68,Ao.e k)],ls:=[(2,C8.p)] }
theorem Bz.a (k:Nat):AC (Bz.d.cs k):=⟨Ao.s k,trivial⟩
theorem C8.s:LL Tryz.f148 Bz.d 2 C8.p:=mL [] Bz.a trivial (by kernel_rfl) (λ _=>rfl) (λ k x=>by kernel_rfl)
theorem Bz.s (k:Nat):CK 148 (Bz.e k):=mS Bz.d k [2] Tryz.func148 (Bz.a k) ⟨C8.s,trivial⟩ (by kernel_rfl) (λ x=>by kernel_rfl)
def I1.e (k:Nat):Ent:=⟨1,[(.val true t27)],[(.one,.b)],λ x=>I1 k x⟩
def I1.d:Fd := { nt:=11,nv:=1,nm:=[0,1],res:=[2],cs:=λ k=>[(148,Bz.e k)] }
theorem I1.s (k:Nat):CK 117 (I1.e k):=mS I1.d k [] Tryz.func117 ⟨Bz.s k,trivial⟩ trivial (by kernel_rfl) (λ x=>by kernel_rfl)
def Ej.e (k:Nat):Ent:=⟨1,[(.val false t30)],[(.one,.b)],λ x=>Ej k x⟩
def Dz.p:LF:=⟨⟨[],[(0,t30),(5,t30),(6,(.i .i64)),(7,(.i .i64))]⟩,[(.ret,⟨[],[(2,.b)]⟩),((.exit 0),⟨[],[(0,t30)]⟩)],λ k x=>Dz k x.1 x.2.1 x.2.2.1 x.2.2.2⟩
def Ej.d:Fd := { nt:=34,nv:=1,nm:=[0,1,3,4],res:=[2],cs:=λ k=>[(116,He.e k)],ls:=[(2,Dz.p)] }
theorem Ej.a (k:Nat):AC (Ej.d.cs k):=⟨He.s k,trivial⟩
theorem Dz.s:LL Tryz.f118 Ej.d 2 Dz.p:=mL [] Ej.a trivial (by kernel_rfl) (λ _=>rfl) (λ k x=>by kernel_rfl)
theorem Ej.s (k:Nat):CK 118 (Ej.e k):=mS Ej.d k [2] Tryz.func118 (Ej.a k) ⟨Dz.s,trivial⟩ (by kernel_rfl) (λ x=>by kernel_rfl)
def Ek.e (k:Nat):Ent:=⟨1,[(.val true t37)],[(.one,.b)],λ x=>Ek k x⟩
def Fc.p:LF:=⟨⟨[(1,(.bp 1 0 0)),(2999,(.hd 5))],[(6,t30),(7,(.i .i64)),(8,(.i .i64)),(2000,(.i .i64)),(2001,t12),(2002,t12),(2003,t30),(2004,t30)]⟩,[(.ret,⟨[],[(2,.b)]⟩),((.exit 0),⟨[(1,(.bp 1 0 0)),(2999,(.hd 5))],[(2000,(.i .i64)),(2001,t12),(2002,t12),(2003,t30),(2004,t30)]⟩)],λ k x=>Fc k x.1 x.2.1 x.2.2.1 x.2.2.2.1 x.2.2.2.2.1 x.2.2.2.2.2.1 x.2.2.2.2.2.2.1 x.2.2.2.2.2.2.2⟩
def Ek.d:Fd := { nt:=35,nv:=1,nm:=[0,1,3,4],res:=[2],cs:=λ k=>[(112,F8.e k),(116,He.e k),(117,I1.e k),(118,Ej.e k)],ls:=[(2,Fc.p)] }
theorem Ek.a (k:Nat):AC (Ek.d.cs k):=⟨F8.s k,He.s k,I1.s k,Ej.s k,trivial⟩
theorem Fc.s:LL Tryz.f67 Ek.d 2 Fc.p:=mL [] Ek.a trivial (by kernel_rfl) (λ _=>rfl) (λ k x=>by kernel_rfl)
theorem Ek.s (k:Nat):CK 67 (Ek.e k):=mS Ek.d k [2] Tryz.func67 (Ek.a k) ⟨Fc.s,trivial⟩ (by kernel_rfl) (λ x=>by kernel_rfl)
def B9.e (k:Nat):Ent:=⟨1,[(.val true t42)],[(.one,.b)],λ x=>B9 k x⟩
def Au.p:LF:=⟨⟨[(1,(.bp 1 0 0)),(2999,(.hd 9))],[(57,t0),(58,(.i .i64)),(59,(.i .i64)),(2000,t42)]⟩,[(.ret,⟨[],[(2,.b)]⟩),((.exit 2),⟨[],[]⟩)],λ k x=>Au k x.1 x.2.1 x.2.2.1 x.2.2.2⟩
def C9.p:LF:=⟨⟨[(1,(.bp 1 0 0)),(2999,(.hd 9))],[(34,t39),(35,(.i .i64)),(36,(.i .i64)),(2000,t42)]⟩,[(.ret,⟨[],[(2,.b)]⟩),((.exit 0),⟨[(1,(.bp 1 0 0)),(2999,(.hd 9))],[(2000,t42)]⟩)],λ k x=>C9 k x.1 x.2.1 x.2.2.1 x.2.2.2⟩
def B9.d:Fd := { nt:=82,nv:=1,nm:=[0,1,3,4,5,6],res:=[2],cs:=λ k=>[(64,Cu.e k),(65,Bx.e k),(66,Bf.e k),(67,Ek.e k),(68,Ao.e k)],ls:=[(10,Au.p),(4,C9.p)],rf:=true }
theorem B9.a (k:Nat):AC (B9.d.cs k):=⟨Cu.s k,Bx.s k,Bf.s k,Ek.s k,Ao.s k,trivial⟩
theorem Au.s:LL Tryz.f28 B9.d 10 Au.p:=mL [] B9.a trivial (by kernel_rfl) (λ _=>rfl) (λ k x=>by kernel_rfl)
theorem C9.s:LL Tryz.f28 B9.d 4 C9.p:=mL [] B9.a trivial (by kernel_rfl) (λ _=>rfl) (λ k x=>by kernel_rfl)
theorem B9.s (k:Nat):CK 28 (B9.e k):=mS B9.d k [4,10] Tryz.func28 (B9.a k) ⟨C9.s,Au.s,trivial⟩ (by kernel_rfl) (λ x=>by kernel_rfl)
def Ft.e (k:Nat):Ent:=⟨2,[(.val false t2),(.val false (.i .i64))],[(.one,(.i .i64)),(.one,(.i .i64)),(.one,.b)],λ x=>Ft k x.1 x.2⟩
def E3.p:LF:=⟨⟨[],[(0,t2),(1,(.i .i64)),(7,(.i .i64)),(8,(.i .i64))]⟩,[(.ret,⟨[],[(4,(.i .i64)),(5,(.i .i64)),(6,.b)]⟩),((.exit 0),⟨[],[]⟩)],λ k x=>E3 k x.1 x.2.1 x.2.2.1 x.2.2.2⟩
def Ft.d:Fd := { nt:=57,nv:=2,nm:=[0,1,2,3,7,8,9],res:=[4,5,6],ls:=[(3,E3.p)] }
theorem E3.s:LL Tryz.f170 Ft.d 3 E3.p:=mL [] (λ _=>trivial) trivial (by kernel_rfl) (λ _=>rfl) (λ k x=>by kernel_rfl)
theorem Ft.s (k:Nat):CK 170 (Ft.e k):=mS Ft.d k [3] Tryz.func170 trivial ⟨E3.s,trivial⟩ (by kernel_rfl) (λ x=>by kernel_rfl)
def B2.e (k:Nat):Ent:=⟨1,[(.ptr t18 t18)],[(.one,(.i .i64))],λ x=>B2 k x⟩
def B2.d:Fd := { nt:=35,nv:=1,nm:=[0,1,3,4,5],res:=[2],cs:=λ k=>[(170,Ft.e k)] }
theorem B2.s (k:Nat):CK 149 (B2.e k):=mS B2.d k [] Tryz.func149 ⟨Ft.s k,trivial⟩ trivial (by kernel_rfl) (λ x=>by kernel_rfl)
def Bn.e (k:Nat):Ent:=⟨1,[(.ptr t18 t18)],[(.agg,t14),(.one,.b)],λ x=>Bn k x⟩
def Bn.d:Fd := { nt:=31,nv:=1,nm:=[0,1,4,5],res:=[3],cs:=λ k=>[(149,B2.e k)] }
theorem Bn.s (k:Nat):CK 119 (Bn.e k):=mS Bn.d k [] Tryz.func119 ⟨B2.s k,trivial⟩ trivial (by kernel_rfl) (λ x=>by kernel_rfl)
def H5.e (k:Nat):Ent:=⟨2,[(.val false t2),(.val false (.i .i64))],[(.one,.s),(.one,(.i .i64)),(.one,.b)],λ x=>H5 k x.1 x.2⟩
def H5.d:Fd := { nt:=37,nv:=2,nm:=[0,1,2,3,7,8,9],res:=[4,5,6],cs:=λ k=>[(170,Ft.e k)] }
theorem H5.s (k:Nat):CK 150 (H5.e k):=mS H5.d k [] Tryz.func150 ⟨Ft.s k,trivial⟩ trivial (by kernel_rfl) (λ x=>by kernel_rfl)
def Av.e (k:Nat):Ent:=⟨1,[(.ptr t18 t18)],[(.one,.s)],λ x=>Av k x⟩
def Av.d:Fd := { nt:=35,nv:=1,nm:=[0,1,3,4,5],res:=[2],cs:=λ k=>[(150,H5.e k)] }
theorem Av.s (k:Nat):CK 120 (Av.e k):=mS Av.d k [] Tryz.func120 ⟨H5.s k,trivial⟩ trivial (by kernel_rfl) (λ x=>by kernel_rfl)
def Cv.e (k:Nat):Ent:=⟨2,[(.val false t3),(.val false (.i .i64))],[(.one,t3)],λ x=>Cv k x.1 x.2⟩
def Fe.p:LF:=⟨⟨[],[(0,t3),(1,(.i .i64))]⟩,[((.exit 0),⟨[],[(0,t3),(1,(.i .i64))]⟩)],λ k x=>Fe k x.1 x.2⟩
def Cv.d:Fd := { nt:=24,nv:=2,nm:=[0,1,2,3],res:=[4],ls:=[(2,Fe.p)] }
theorem Fe.s:LL Tryz.f171 Cv.d 2 Fe.p:=mL [] (λ _=>trivial) trivial (by kernel_rfl) (λ _=>rfl) (λ k x=>by kernel_rfl)
theorem Cv.s (k:Nat):CK 171 (Cv.e k):=mS Cv.d k [2] Tryz.func171 trivial ⟨Fe.s,trivial⟩ (by kernel_rfl) (λ x=>by kernel_rfl)
def H6.e (k:Nat):Ent:=⟨2,[(.val false t3),(.val false .s)],[(.one,t3)],λ x=>H6 k x.1 x.2⟩
def H6.d:Fd := { nt:=11,nv:=2,nm:=[0,1,2,3],res:=[4],cs:=λ k=>[(171,Cv.e k)] }
theorem H6.s (k:Nat):CK 151 (H6.e k):=mS H6.d k [] Tryz.func151 ⟨Cv.s k,trivial⟩ trivial (by kernel_rfl) (λ x=>by kernel_rfl)
def Ll.e (k:Nat):Ent:=⟨1,[(.val false .b)],[(.one,(.i .i64))],λ x=>Ll x⟩
def Ll.d:Fd := { nt:=4,nv:=1,nm:=[0,1],res:=[2] }
theorem Ll.s (k:Nat):CK 172 (Ll.e k):=mS Ll.d k [] Tryz.func172 trivial trivial (by kernel_rfl) (λ x=>by kernel_rfl)
def Ga.e (k:Nat):Ent:=⟨3,[(.val false t3),(.val true t14),(.val false .b)],[(.one,t3)],λ x=>Ga k x.1 x.2.1 x.2.2⟩
def Ga.d:Fd := { nt:=20,nv:=3,nm:=[0,1,2,3,4,5],res:=[6],cs:=λ k=>[(171,Cv.e k),(172,Ll.e k)] }
theorem Ga.s (k:Nat):CK 152 (Ga.e k):=mS Ga.d k [] Tryz.func152 ⟨Cv.s k,Ll.s k,trivial⟩ trivial (by kernel_rfl) (λ x=>by kernel_rfl)
def Ke.e (k:Nat):Ent:=⟨1,[(.val false t2)],[(.one,(.i .i64))],λ x=>Ke k x⟩
def Hh.p:LF:=⟨⟨[],[(3,(.i .u32)),(7,t2),(8,(.i .i64)),(9,(.i .i64)),(17,(.i .i64))]⟩,[((.exit 2),⟨[],[(3,(.i .u32)),(7,t2),(8,(.i .i64)),(9,(.i .i64))]⟩)],λ k x=>Hh k x.1 x.2.1 x.2.2.1 x.2.2.2.1 x.2.2.2.2⟩
def I2.p:LF:=⟨⟨[],[(3,(.i .u32)),(7,t2),(8,(.i .i64)),(9,(.i .i64))]⟩,[((.exit 0),⟨[],[(3,(.i .u32))]⟩)],λ k x=>I2 k x.1 x.2.1 x.2.2.1 x.2.2.2⟩
def Ke.d:Fd := { nt:=32,nv:=1,nm:=[0,1,3,4,5,6],res:=[2],ls:=[(7,Hh.p),(3,I2.p)] }
theorem Hh.s:LL Tryz.f153 Ke.d 7 Hh.p:=mL [] (λ _=>trivial) trivial (by kernel_rfl) (λ _=>rfl) (λ k x=>by kernel_rfl)
theorem I2.s:LL Tryz.f153 Ke.d 3 I2.p:=mL [7] (λ _=>trivial) ⟨Hh.s,trivial⟩ (by kernel_rfl) (λ _=>rfl) (λ k x=>by kernel_rfl)
theorem Ke.s (k:Nat):CK 153 (Ke.e k):=mS Ke.d k [3] Tryz.func153 trivial ⟨I2.s,trivial⟩ (by kernel_rfl) (λ x=>by kernel_rfl)
def H7.e (k:Nat):Ent:=⟨1,[(.val true t23)],[(.one,t3)],λ x=>H7 k x⟩
def H7.d:Fd := { nt:=33,nv:=1,nm:=[0,1,3,4],res:=[2],cs:=λ k=>[(115,G9.e k),(151,H6.e k),(152,Ga.e k),(153,Ke.e k)] }
theorem H7.s (k:Nat):CK 121 (H7.e k):=mS H7.d k [] Tryz.func121 ⟨G9.s k,H6.s k,Ga.s k,Ke.s k,trivial⟩ trivial (by kernel_rfl) (λ x=>by kernel_rfl)
def C0.e (k:Nat):Ent:=⟨1,[(.val false t2)],[(.agg,t23),(.one,.b)],λ x=>C0 k x⟩
def C0.d:Fd := { nt:=41,nv:=1,nm:=[0,1,4,5,6],res:=[3],cs:=λ k=>[(119,Bn.e k),(120,Av.e k),(121,H7.e k)] }
theorem C0.s (k:Nat):CK 69 (C0.e k):=mS C0.d k [] Tryz.func69 ⟨Bn.s k,Av.s k,H7.s k,trivial⟩ trivial (by kernel_rfl) (λ x=>by kernel_rfl)
def Cw.e (k:Nat):Ent:=⟨2,[(.val true t23),(.val true t23)],[(.one,.b)],λ x=>Cw x.1 x.2⟩
def Cw.d:Fd := { nt:=26,nv:=2,nm:=[0,1,2,3],res:=[4],rf:=true }
theorem Cw.s (k:Nat):CK 91 (Cw.e k):=mS Cw.d k [] Tryz.func91 trivial trivial (by kernel_rfl) (λ x=>by kernel_rfl)
def Ar.e (k:Nat):Ent:=⟨3,[(.val true t42),(.val false .s),(.val true t23)],[(.one,.b)],λ x=>Ar k x.1 x.2.1 x.2.2⟩
def Aw.p:LF:=⟨⟨[(5,(.bp 5 0 0)),(6999,(.hd 5))],[(1,.s),(10,t34),(11,(.i .i64)),(12,(.i .i64)),(6000,t23)]⟩,[(.ret,⟨[],[(6,.b)]⟩),((.exit 0),⟨[],[]⟩)],λ k x=>Aw k x.1 x.2.1 x.2.2.1 x.2.2.2.1 x.2.2.2.2⟩
def Ar.d:Fd := { nt:=27,nv:=3,nm:=[0,1,2,3,4,5,7,8],res:=[6],cs:=λ k=>[(91,Cw.e k)],ls:=[(2,Aw.p)],rf:=true }
theorem Ar.a (k:Nat):AC (Ar.d.cs k):=⟨Cw.s k,trivial⟩
theorem Aw.s:LL Tryz.f70 Ar.d 2 Aw.p:=mL [] Ar.a trivial (by kernel_rfl) (λ _=>rfl) (λ k x=>by kernel_rfl)
theorem Ar.s (k:Nat):CK 70 (Ar.e k):=mS Ar.d k [2] Tryz.func70 (Ar.a k) ⟨Aw.s,trivial⟩ (by kernel_rfl) (λ x=>by kernel_rfl)
def Ba.e (k:Nat):Ent:=⟨1,[(.val true t42)],[(.one,.b)],λ x=>Ba k x⟩
def Ca.p:LF:=⟨⟨[(1,(.bp 1 0 0)),(2999,(.hd 9))],[(10,t39),(11,(.i .i64)),(12,(.i .i64)),(23,t13),(24,(.i .i64)),(25,(.i .i64)),(2000,t42)]⟩,[(.ret,⟨[],[(2,.b)]⟩),((.exit 2),⟨[(1,(.bp 1 0 0)),(2999,(.hd 9))],[(10,t39),(11,(.i .i64)),(12,(.i .i64)),(2000,t42)]⟩)],λ k x=>Ca k x.1 x.2.1 x.2.2.1 x.2.2.2.1 x.2.2.2.2.1 x.2.2.2.2.2.1 x.2.2.2.2.2.2⟩
def Dj.p:LF:=⟨⟨[(1,(.bp 1 0 0)),(2999,(.hd 9))],[(10,t39),(11,(.i .i64)),(12,(.i .i64)),(2000,t42)]⟩,[(.ret,⟨[],[(2,.b)]⟩),((.exit 0),⟨[],[]⟩)],λ k x=>Dj k x.1 x.2.1 x.2.2.1 x.2.2.2⟩
def Ba.d:Fd := { nt:=46,nv:=1,nm:=[0,1,3,4,5,6,7,8],res:=[2],cs:=λ k=>[(69,C0.e k),(70,Ar.e k)],ls:=[(5,Ca.p),(2,Dj.p)],rf:=true }
theorem Ba.a (k:Nat):AC (Ba.d.cs k):=⟨C0.s k,Ar.s k,trivial⟩
theorem Ca.s:LL Tryz.f29 Ba.d 5 Ca.p:=mL [] Ba.a trivial (by kernel_rfl) (λ _=>rfl) (λ k x=>by kernel_rfl)
theorem Dj.s:LL Tryz.f29 Ba.d 2 Dj.p:=mL [5] Ba.a ⟨Ca.s,trivial⟩ (by kernel_rfl) (λ _=>rfl) (λ k x=>by kernel_rfl)
theorem Ba.s (k:Nat):CK 29 (Ba.e k):=mS Ba.d k [2] Tryz.func29 (Ba.a k) ⟨Dj.s,trivial⟩ (by kernel_rfl) (λ x=>by kernel_rfl)
def Gb.e (k:Nat):Ent:=⟨1,[(.val false t30)],[(.one,t31)],λ x=>Gb x⟩
def Gb.d:Fd := { nt:=5,nv:=1,nm:=[0,1],res:=[2] }
theorem Gb.s (k:Nat):CK 71 (Gb.e k):=mS Gb.d k [] Tryz.func71 trivial trivial (by kernel_rfl) (λ x=>by kernel_rfl)
def Jq.e (k:Nat):Ent:=⟨2,[(.val false .s),(.val true t23)],[(.agg,t25)],λ x=>Jq x.1 x.2⟩
def Jq.d:Fd := { nt:=14,nv:=2,nm:=[0,1,2,3],res:=[],rf:=true }
theorem Jq.s (k:Nat):CK 72 (Jq.e k):=mS Jq.d k [] Tryz.func72 trivial trivial (by kernel_rfl) (λ x=>by kernel_rfl)
def Bo.e (k:Nat):Ent:=⟨1,[(.val true t42)],[(.one,.b)],λ x=>Bo k x⟩
def Br.p:LF:=⟨⟨[(1,(.bp 1 0 0)),(6,(.bp 6 0 0)),(2999,(.hd 9)),(7999,(.hd 6))],[(7,.b),(11,t39),(12,(.i .i64)),(13,(.i .i64)),(22,t31),(23,(.i .i64)),(24,(.i .i64)),(29,t34),(30,(.i .i64)),(31,(.i .i64)),(2000,t42),(7000,t25)]⟩,[((.exit 4),⟨[(1,(.bp 1 0 0)),(2999,(.hd 9))],[(7,.b),(11,t39),(12,(.i .i64)),(13,(.i .i64)),(22,t31),(23,(.i .i64)),(24,(.i .i64)),(2000,t42)]⟩)],λ k x=>Br k x.1 x.2.1 x.2.2.1 x.2.2.2.1 x.2.2.2.2.1 x.2.2.2.2.2.1 x.2.2.2.2.2.2.1 x.2.2.2.2.2.2.2.1 x.2.2.2.2.2.2.2.2.1 x.2.2.2.2.2.2.2.2.2.1 x.2.2.2.2.2.2.2.2.2.2.1 x.2.2.2.2.2.2.2.2.2.2.2⟩
def Ff.p:LF:=⟨⟨[(1,(.bp 1 0 0)),(2999,(.hd 9))],[(11,t39),(12,(.i .i64)),(13,(.i .i64)),(22,t31),(23,(.i .i64)),(24,(.i .i64)),(2000,t42)]⟩,[(.ret,⟨[],[(2,.b)]⟩),((.exit 2),⟨[(1,(.bp 1 0 0)),(2999,(.hd 9))],[(11,t39),(12,(.i .i64)),(13,(.i .i64)),(2000,t42)]⟩)],λ k x=>Ff k x.1 x.2.1 x.2.2.1 x.2.2.2.1 x.2.2.2.2.1 x.2.2.2.2.2.1 x.2.2.2.2.2.2⟩
def Fg.p:LF:=⟨⟨[(1,(.bp 1 0 0)),(2999,(.hd 9))],[(11,t39),(12,(.i .i64)),(13,(.i .i64)),(2000,t42)]⟩,[(.ret,⟨[],[(2,.b)]⟩),((.exit 0),⟨[],[]⟩)],λ k x=>Fg k x.1 x.2.1 x.2.2.1 x.2.2.2⟩
def Bo.d:Fd := { nt:=50,nv:=1,nm:=[0,1,3,4,5,6,7,8,9],res:=[2],cs:=λ k=>[(71,Gb.e k),(72,Jq.e k)],ls:=[(9,Br.p),(5,Ff.p),(2,Fg.p)],rf:=true }
theorem Bo.a (k:Nat):AC (Bo.d.cs k):=⟨Gb.s k,Jq.s k,trivial⟩
theorem Br.s:LL Tryz.f30 Bo.d 9 Br.p:=mL [] Bo.a trivial (by kernel_rfl) (λ _=>rfl) (λ k x=>by kernel_rfl)
theorem Ff.s:LL Tryz.f30 Bo.d 5 Ff.p:=mL [9] Bo.a ⟨Br.s,trivial⟩ (by kernel_rfl) (λ _=>rfl) (λ k x=>by kernel_rfl)
theorem Fg.s:LL Tryz.f30 Bo.d 2 Fg.p:=mL [5] Bo.a ⟨Ff.s,trivial⟩ (by kernel_rfl) (λ _=>rfl) (λ k x=>by kernel_rfl)
theorem Bo.s (k:Nat):CK 30 (Bo.e k):=mS Bo.d k [2] Tryz.func30 (Bo.a k) ⟨Fg.s,trivial⟩ (by kernel_rfl) (λ x=>by kernel_rfl)
def Gl.e (k:Nat):Ent:=⟨2,[(.val false t0),(.val false .s)],[(.one,.b)],λ x=>Gl k x.1 x.2⟩
def Dk.p:LF:=⟨⟨[],[(1,.s),(7,t0),(8,(.i .i64)),(9,(.i .i64))]⟩,[(.ret,⟨[],[(4,.b)]⟩),((.exit 0),⟨[],[]⟩)],λ k x=>Dk k x.1 x.2.1 x.2.2.1 x.2.2.2⟩
def Gl.d:Fd := { nt:=17,nv:=2,nm:=[0,1,2,3,5,6],res:=[4],ls:=[(2,Dk.p)],rf:=true }
theorem Dk.s:LL Tryz.f73 Gl.d 2 Dk.p:=mL [] (λ _=>trivial) trivial (by kernel_rfl) (λ _=>rfl) (λ k x=>by kernel_rfl)
theorem Gl.s (k:Nat):CK 73 (Gl.e k):=mS Gl.d k [2] Tryz.func73 trivial ⟨Dk.s,trivial⟩ (by kernel_rfl) (λ x=>by kernel_rfl)
def L5.e (k:Nat):Ent:=⟨2,[(.val false t12),(.val false .s)],[(.one,(.i .i64))],λ x=>L5 k x.1 x.2⟩
def J4.p:LF:=⟨⟨[],[(1,.s),(7,t12),(8,(.i .i64)),(9,(.i .i64))]⟩,[(.ret,⟨[],[(4,(.i .i64))]⟩),((.exit 0),⟨[],[]⟩)],λ k x=>J4 k x.1 x.2.1 x.2.2.1 x.2.2.2⟩
def L5.d:Fd := { nt:=20,nv:=2,nm:=[0,1,2,3,5,6],res:=[4],ls:=[(2,J4.p)] }
theorem J4.s:LL Tryz.f122 L5.d 2 J4.p:=mL [] (λ _=>trivial) trivial (by kernel_rfl) (λ _=>rfl) (λ k x=>by kernel_rfl)
theorem L5.s (k:Nat):CK 122 (L5.e k):=mS L5.d k [2] Tryz.func122 trivial ⟨J4.s,trivial⟩ (by kernel_rfl) (λ x=>by kernel_rfl)
def Gi.e (k:Nat):Ent:=⟨3,[(.val true t42),(.val false .s),(.val true t14)],[(.one,.b)],λ x=>Gi k x.1 x.2.1 x.2.2⟩
def E8.p:LF:=⟨⟨[(5,(.bp 5 0 0)),(6999,(.hd 3))],[(1,.s),(13,t39),(14,(.i .i64)),(15,(.i .i64)),(6000,t14)]⟩,[(.ret,⟨[],[(6,.b)]⟩),((.exit 0),⟨[],[]⟩)],λ k x=>E8 k x.1 x.2.1 x.2.2.1 x.2.2.2.1 x.2.2.2.2⟩
def Gi.d:Fd := { nt:=46,nv:=3,nm:=[0,1,2,3,4,5,7,8,9,10,11],res:=[6],cs:=λ k=>[(69,C0.e k),(75,Ae.e k),(122,L5.e k)],ls:=[(2,E8.p)],rf:=true }
theorem Gi.a (k:Nat):AC (Gi.d.cs k):=⟨C0.s k,Ae.s k,L5.s k,trivial⟩
theorem E8.s:LL Tryz.f74 Gi.d 2 E8.p:=mL [] Gi.a trivial (by kernel_rfl) (λ _=>rfl) (λ k x=>by kernel_rfl)
theorem Gi.s (k:Nat):CK 74 (Gi.e k):=mS Gi.d k [2] Tryz.func74 (Gi.a k) ⟨E8.s,trivial⟩ (by kernel_rfl) (λ x=>by kernel_rfl)
def Hk.e (k:Nat):Ent:=⟨1,[(.val true t42)],[(.one,.b)],λ x=>Hk k x⟩
def Fw.p:LF:=⟨⟨[(1,(.bp 1 0 0)),(2999,(.hd 9))],[(6,t34),(7,(.i .i64)),(8,(.i .i64)),(2000,t42)]⟩,[(.ret,⟨[],[(2,.b)]⟩),((.exit 0),⟨[],[]⟩)],λ k x=>Fw k x.1 x.2.1 x.2.2.1 x.2.2.2⟩
def Hk.d:Fd := { nt:=33,nv:=1,nm:=[0,1,3,4],res:=[2],cs:=λ k=>[(73,Gl.e k),(74,Gi.e k)],ls:=[(2,Fw.p)],rf:=true }
theorem Hk.a (k:Nat):AC (Hk.d.cs k):=⟨Gl.s k,Gi.s k,trivial⟩
theorem Fw.s:LL Tryz.f31 Hk.d 2 Fw.p:=mL [] Hk.a trivial (by kernel_rfl) (λ _=>rfl) (λ k x=>by kernel_rfl)
theorem Hk.s (k:Nat):CK 31 (Hk.e k):=mS Hk.d k [2] Tryz.func31 (Hk.a k) ⟨Fw.s,trivial⟩ (by kernel_rfl) (λ x=>by kernel_rfl)
def Cp.e (k:Nat):Ent:=⟨1,[(.val true t42)],[(.one,.b)],λ x=>Cp k x⟩
def Cb.p:LF:=⟨⟨[(1,(.bp 1 0 0)),(2999,(.hd 9))],[(6,t34),(7,(.i .i64)),(8,(.i .i64)),(2000,t42)]⟩,[(.ret,⟨[],[(2,.b)]⟩),((.exit 0),⟨[],[]⟩)],λ k x=>Cb k x.1 x.2.1 x.2.2.1 x.2.2.2⟩
def Cp.d:Fd := { nt:=39,nv:=1,nm:=[0,1,3,4],res:=[2],cs:=λ k=>[(75,Ae.e k)],ls:=[(2,Cb.p)],rf:=true }
theorem Cp.a (k:Nat):AC (Cp.d.cs k):=⟨Ae.s k,trivial⟩
theorem Cb.s:LL Tryz.f32 Cp.d 2 Cb.p:=mL [] Cp.a trivial (by kernel_rfl) (λ _=>rfl) (λ k x=>by kernel_rfl)
theorem Cp.s (k:Nat):CK 32 (Cp.e k):=mS Cp.d k [2] Tryz.func32 (Cp.a k) ⟨Cb.s,trivial⟩ (by kernel_rfl) (λ x=>by kernel_rfl)
def K5.e (k:Nat):Ent:=⟨1,[(.val true t42)],[(.one,(.i .i64))],λ x=>K5 k x⟩
def K5.d:Fd := { nt:=23,nv:=1,nm:=[0,1],res:=[2],cs:=λ k=>[(28,B9.e k),(29,Ba.e k),(30,Bo.e k),(31,Hk.e k),(32,Cp.e k)],rf:=true }
theorem K5.s (k:Nat):CK 8 (K5.e k):=mS K5.d k [] Tryz.func8 ⟨B9.s k,Ba.s k,Bo.s k,Hk.s k,Cp.s k,trivial⟩ trivial (by kernel_rfl) (λ x=>by kernel_rfl)
def J5.e (k:Nat):Ent:=⟨2,[(.val true t14),(.val true t14)],[(.one,.b)],λ x=>J5 x.1 x.2⟩
def J5.d:Fd := { nt:=20,nv:=2,nm:=[0,1,2,3],res:=[4],rf:=true }
theorem J5.s (k:Nat):CK 76 (J5.e k):=mS J5.d k [] Tryz.func76 trivial trivial (by kernel_rfl) (λ x=>by kernel_rfl)
def El.e (k:Nat):Ent:=⟨2,[(.val false t20),(.val false t20)],[(.one,.b)],λ x=>El k x.1 x.2⟩
def Fh.p:LF:=⟨⟨[],[(0,t20),(1,t20),(5,(.i .i64))]⟩,[(.ret,⟨[],[(4,.b)]⟩),((.exit 0),⟨[],[]⟩)],λ k x=>Fh k x.1 x.2.1 x.2.2⟩
def El.d:Fd := { nt:=27,nv:=2,nm:=[0,1,2,3,5],res:=[4],cs:=λ k=>[(76,J5.e k)],ls:=[(4,Fh.p)],rf:=true }
theorem El.a (k:Nat):AC (El.d.cs k):=⟨J5.s k,trivial⟩
theorem Fh.s:LL Tryz.f33 El.d 4 Fh.p:=mL [] El.a trivial (by kernel_rfl) (λ _=>rfl) (λ k x=>by kernel_rfl)
theorem El.s (k:Nat):CK 33 (El.e k):=mS El.d k [4] Tryz.func33 (El.a k) ⟨Fh.s,trivial⟩ (by kernel_rfl) (λ x=>by kernel_rfl)
def Hi.e (k:Nat):Ent:=⟨2,[(.val false t4),(.val false t4)],[(.one,.b)],λ x=>Hi k x.1 x.2⟩
def Fi.p:LF:=⟨⟨[],[(0,t4),(1,t4),(5,(.i .i64))]⟩,[(.ret,⟨[],[(4,.b)]⟩),((.exit 0),⟨[],[]⟩)],λ k x=>Fi k x.1 x.2.1 x.2.2⟩
def Hi.d:Fd := { nt:=26,nv:=2,nm:=[0,1,2,3,5],res:=[4],ls:=[(4,Fi.p)],rf:=true }
theorem Fi.s:LL Tryz.f154 Hi.d 4 Fi.p:=mL [] (λ _=>trivial) trivial (by kernel_rfl) (λ _=>rfl) (λ k x=>by kernel_rfl)
theorem Hi.s (k:Nat):CK 154 (Hi.e k):=mS Hi.d k [4] Tryz.func154 trivial ⟨Fi.s,trivial⟩ (by kernel_rfl) (λ x=>by kernel_rfl)
def Ix.e (k:Nat):Ent:=⟨2,[(.val true t4),(.val true t4)],[(.one,.b)],λ x=>Ix k x.1 x.2⟩
def Ix.d:Fd := { nt:=11,nv:=2,nm:=[0,1,2,3],res:=[4],cs:=λ k=>[(154,Hi.e k)],rf:=true }
theorem Ix.s (k:Nat):CK 123 (Ix.e k):=mS Ix.d k [] Tryz.func123 ⟨Hi.s k,trivial⟩ trivial (by kernel_rfl) (λ x=>by kernel_rfl)
def Cq.e (k:Nat):Ent:=⟨2,[(.val false t8),(.val false t8)],[(.one,.b)],λ x=>Cq k x.1 x.2⟩
def Dl.p:LF:=⟨⟨[],[(0,t8),(1,t8),(5,(.i .i64))]⟩,[(.ret,⟨[],[(4,.b)]⟩),((.exit 0),⟨[],[]⟩)],λ k x=>Dl k x.1 x.2.1 x.2.2⟩
def Cq.d:Fd := { nt:=27,nv:=2,nm:=[0,1,2,3,5],res:=[4],cs:=λ k=>[(123,Ix.e k)],ls:=[(4,Dl.p)],rf:=true }
theorem Cq.a (k:Nat):AC (Cq.d.cs k):=⟨Ix.s k,trivial⟩
theorem Dl.s:LL Tryz.f77 Cq.d 4 Dl.p:=mL [] Cq.a trivial (by kernel_rfl) (λ _=>rfl) (λ k x=>by kernel_rfl)
theorem Cq.s (k:Nat):CK 77 (Cq.e k):=mS Cq.d k [4] Tryz.func77 (Cq.a k) ⟨Dl.s,trivial⟩ (by kernel_rfl) (λ x=>by kernel_rfl)
def Iy.e (k:Nat):Ent:=⟨2,[(.val true t16),(.val true t16)],[(.one,.b)],λ x=>Iy k x.1 x.2⟩
def Iy.d:Fd := { nt:=16,nv:=2,nm:=[0,1,2,3],res:=[4],cs:=λ k=>[(77,Cq.e k)],rf:=true }
theorem Iy.s (k:Nat):CK 34 (Iy.e k):=mS Iy.d k [] Tryz.func34 ⟨Cq.s k,trivial⟩ trivial (by kernel_rfl) (λ x=>by kernel_rfl)
def Dn.e (k:Nat):Ent:=⟨2,[(.val false t2),(.val false t2)],[(.one,.b)],λ x=>Dn k x.1 x.2⟩
def Dm.p:LF:=⟨⟨[],[(0,t2),(1,t2),(5,(.i .i64))]⟩,[(.ret,⟨[],[(4,.b)]⟩),((.exit 0),⟨[],[]⟩)],λ k x=>Dm k x.1 x.2.1 x.2.2⟩
def Dn.d:Fd := { nt:=26,nv:=2,nm:=[0,1,2,3,5],res:=[4],ls:=[(4,Dm.p)],rf:=true }
theorem Dm.s:LL Tryz.f157 Dn.d 4 Dm.p:=mL [] (λ _=>trivial) trivial (by kernel_rfl) (λ _=>rfl) (λ k x=>by kernel_rfl)
theorem Dn.s (k:Nat):CK 157 (Dn.e k):=mS Dn.d k [4] Tryz.func157 trivial ⟨Dm.s,trivial⟩ (by kernel_rfl) (λ x=>by kernel_rfl)
def Hu.e (k:Nat):Ent:=⟨2,[(.val true t10),(.val true t10)],[(.one,.b)],λ x=>Hu k x.1 x.2⟩
def Hu.d:Fd := { nt:=16,nv:=2,nm:=[0,1,2,3],res:=[4],cs:=λ k=>[(157,Dn.e k)],rf:=true }
theorem Hu.s (k:Nat):CK 173 (Hu.e k):=mS Hu.d k [] Tryz.func173 ⟨Dn.s k,trivial⟩ trivial (by kernel_rfl) (λ x=>by kernel_rfl)
def B3.e (k:Nat):Ent:=⟨2,[(.val false t12),(.val false t12)],[(.one,.b)],λ x=>B3 k x.1 x.2⟩
def Cc.p:LF:=⟨⟨[],[(0,t12),(1,t12),(5,(.i .i64))]⟩,[(.ret,⟨[],[(4,.b)]⟩),((.exit 0),⟨[],[]⟩)],λ k x=>Cc k x.1 x.2.1 x.2.2⟩
def B3.d:Fd := { nt:=27,nv:=2,nm:=[0,1,2,3,5],res:=[4],cs:=λ k=>[(173,Hu.e k)],ls:=[(4,Cc.p)],rf:=true }
theorem B3.a (k:Nat):AC (B3.d.cs k):=⟨Hu.s k,trivial⟩
theorem Cc.s:LL Tryz.f155 B3.d 4 Cc.p:=mL [] B3.a trivial (by kernel_rfl) (λ _=>rfl) (λ k x=>by kernel_rfl)
theorem B3.s (k:Nat):CK 155 (B3.e k):=mS B3.d k [4] Tryz.func155 (B3.a k) ⟨Cc.s,trivial⟩ (by kernel_rfl) (λ x=>by kernel_rfl)
def Iz.e (k:Nat):Ent:=⟨2,[(.val true t27),(.val true t27)],[(.one,.b)],λ x=>Iz k x.1 x.2⟩
def Iz.d:Fd := { nt:=17,nv:=2,nm:=[0,1,2,3],res:=[4],cs:=λ k=>[(155,B3.e k)],rf:=true }
theorem Iz.s (k:Nat):CK 124 (Iz.e k):=mS Iz.d k [] Tryz.func124 ⟨B3.s k,trivial⟩ trivial (by kernel_rfl) (λ x=>by kernel_rfl)
def C1.e (k:Nat):Ent:=⟨2,[(.val true t14),(.val true t14)],[(.one,.b)],λ x=>C1 x.1 x.2⟩
def C1.d:Fd := { nt:=20,nv:=2,nm:=[0,1,2,3],res:=[4],rf:=true }
theorem C1.s (k:Nat):CK 36 (C1.e k):=mS C1.d k [] Tryz.func36 trivial trivial (by kernel_rfl) (λ x=>by kernel_rfl)
def J6.e (k:Nat):Ent:=⟨2,[(.val true t25),(.val true t25)],[(.one,.b)],λ x=>J6 x.1 x.2⟩
def J6.d:Fd := { nt:=26,nv:=2,nm:=[0,1,2,3],res:=[4],cs:=λ k=>[(36,C1.e k)],rf:=true }
theorem J6.s (k:Nat):CK 156 (J6.e k):=mS J6.d k [] Tryz.func156 ⟨C1.s k,trivial⟩ trivial (by kernel_rfl) (λ x=>by kernel_rfl)
def Dp.e (k:Nat):Ent:=⟨2,[(.val false t30),(.val false t30)],[(.one,.b)],λ x=>Dp k x.1 x.2⟩
def Fj.p:LF:=⟨⟨[],[(0,t30),(1,t30),(5,(.i .i64))]⟩,[(.ret,⟨[],[(4,.b)]⟩),((.exit 0),⟨[],[]⟩)],λ k x=>Fj k x.1 x.2.1 x.2.2⟩
def Dp.d:Fd := { nt:=27,nv:=2,nm:=[0,1,2,3,5],res:=[4],cs:=λ k=>[(156,J6.e k)],ls:=[(4,Fj.p)],rf:=true }
theorem Dp.a (k:Nat):AC (Dp.d.cs k):=⟨J6.s k,trivial⟩
theorem Fj.s:LL Tryz.f125 Dp.d 4 Fj.p:=mL [] Dp.a trivial (by kernel_rfl) (λ _=>rfl) (λ k x=>by kernel_rfl)
theorem Dp.s (k:Nat):CK 125 (Dp.e k):=mS Dp.d k [4] Tryz.func125 (Dp.a k) ⟨Fj.s,trivial⟩ (by kernel_rfl) (λ x=>by kernel_rfl)
def J0.e (k:Nat):Ent:=⟨2,[(.val true t37),(.val true t37)],[(.one,.b)],λ x=>J0 k x.1 x.2⟩
def J0.d:Fd := { nt:=28,nv:=2,nm:=[0,1,2,3],res:=[4],cs:=λ k=>[(124,Iz.e k),(125,Dp.e k)],rf:=true }
theorem J0.s (k:Nat):CK 78 (J0.e k):=mS J0.d k [] Tryz.func78 ⟨Iz.s k,Dp.s k,trivial⟩ trivial (by kernel_rfl) (λ x=>by kernel_rfl)
def Cr.e (k:Nat):Ent:=⟨2,[(.val false t39),(.val false t39)],[(.one,.b)],λ x=>Cr k x.1 x.2⟩
def Dq.p:LF:=⟨⟨[],[(0,t39),(1,t39),(5,(.i .i64))]⟩,[(.ret,⟨[],[(4,.b)]⟩),((.exit 0),⟨[],[]⟩)],λ k x=>Dq k x.1 x.2.1 x.2.2⟩
def Cr.d:Fd := { nt:=27,nv:=2,nm:=[0,1,2,3,5],res:=[4],cs:=λ k=>[(78,J0.e k)],ls:=[(4,Dq.p)],rf:=true }
theorem Cr.a (k:Nat):AC (Cr.d.cs k):=⟨J0.s k,trivial⟩
theorem Dq.s:LL Tryz.f35 Cr.d 4 Dq.p:=mL [] Cr.a trivial (by kernel_rfl) (λ _=>rfl) (λ k x=>by kernel_rfl)
theorem Cr.s (k:Nat):CK 35 (Cr.e k):=mS Cr.d k [4] Tryz.func35 (Cr.a k) ⟨Dq.s,trivial⟩ (by kernel_rfl) (λ x=>by kernel_rfl)
def I3.e (k:Nat):Ent:=⟨2,[(.val true t23),(.val true t23)],[(.one,.b)],λ x=>I3 k x.1 x.2⟩
def I3.d:Fd := { nt:=22,nv:=2,nm:=[0,1,2,3],res:=[4],cs:=λ k=>[(36,C1.e k),(157,Dn.e k)],rf:=true }
theorem I3.s (k:Nat):CK 126 (I3.e k):=mS I3.d k [] Tryz.func126 ⟨C1.s k,Dn.s k,trivial⟩ trivial (by kernel_rfl) (λ x=>by kernel_rfl)
def Hv.e (k:Nat):Ent:=⟨2,[(.val true t32),(.val true t32)],[(.one,.b)],λ x=>Hv k x.1 x.2⟩
def Hv.d:Fd := { nt:=21,nv:=2,nm:=[0,1,2,3],res:=[4],cs:=λ k=>[(126,I3.e k)],rf:=true }
theorem Hv.s (k:Nat):CK 79 (Hv.e k):=mS Hv.d k [] Tryz.func79 ⟨I3.s k,trivial⟩ trivial (by kernel_rfl) (λ x=>by kernel_rfl)
def Bg.e (k:Nat):Ent:=⟨2,[(.val false t34),(.val false t34)],[(.one,.b)],λ x=>Bg k x.1 x.2⟩
def Cd.p:LF:=⟨⟨[],[(0,t34),(1,t34),(5,(.i .i64))]⟩,[(.ret,⟨[],[(4,.b)]⟩),((.exit 0),⟨[],[]⟩)],λ k x=>Cd k x.1 x.2.1 x.2.2⟩
def Bg.d:Fd := { nt:=27,nv:=2,nm:=[0,1,2,3,5],res:=[4],cs:=λ k=>[(79,Hv.e k)],ls:=[(4,Cd.p)],rf:=true }
theorem Bg.a (k:Nat):AC (Bg.d.cs k):=⟨Hv.s k,trivial⟩
theorem Cd.s:LL Tryz.f37 Bg.d 4 Cd.p:=mL [] Bg.a trivial (by kernel_rfl) (λ _=>rfl) (λ k x=>by kernel_rfl)
theorem Bg.s (k:Nat):CK 37 (Bg.e k):=mS Bg.d k [4] Tryz.func37 (Bg.a k) ⟨Cd.s,trivial⟩ (by kernel_rfl) (λ x=>by kernel_rfl)
def E4.e (k:Nat):Ent:=⟨2,[(.val false t0),(.val false t0)],[(.one,.b)],λ x=>E4 k x.1 x.2⟩
def Bp.p:LF:=⟨⟨[],[(0,t0),(1,t0),(5,(.i .i64))]⟩,[(.ret,⟨[],[(4,.b)]⟩),((.exit 0),⟨[],[]⟩)],λ k x=>Bp k x.1 x.2.1 x.2.2⟩
def E4.d:Fd := { nt:=26,nv:=2,nm:=[0,1,2,3,5],res:=[4],ls:=[(4,Bp.p)],rf:=true }
theorem Bp.s:LL Tryz.f38 E4.d 4 Bp.p:=mL [] (λ _=>trivial) trivial (by kernel_rfl) (λ _=>rfl) (λ k x=>by kernel_rfl)
theorem E4.s (k:Nat):CK 38 (E4.e k):=mS E4.d k [4] Tryz.func38 trivial ⟨Bp.s,trivial⟩ (by kernel_rfl) (λ x=>by kernel_rfl)
def Ep.e (k:Nat):Ent:=⟨2,[(.val true t42),(.val true t42)],[(.one,.b)],λ x=>Ep k x.1 x.2⟩
def Ep.d:Fd := { nt:=41,nv:=2,nm:=[0,1,2,3],res:=[4],cs:=λ k=>[(33,El.e k),(34,Iy.e k),(35,Cr.e k),(36,C1.e k),(37,Bg.e k),(38,E4.e k)],rf:=true }
theorem Ep.s (k:Nat):CK 9 (Ep.e k):=mS Ep.d k [] Tryz.func9 ⟨El.s k,Iy.s k,Cr.s k,C1.s k,Bg.s k,E4.s k,trivial⟩ trivial (by kernel_rfl) (λ x=>by kernel_rfl)
def E5.e (k:Nat):Ent:=⟨1,[(.val true t41)],[(.one,.b)],λ x=>E5 k x⟩
def E5.d:Fd := { nt:=27,nv:=1,nm:=[0,1,3,4,5,6],res:=[2],cs:=λ k=>[(5,Eo.e k),(6,Jz.e k),(7,B8.e k),(8,K5.e k),(9,Ep.e k)],rf:=true }
theorem E5.s (k:Nat):CK 3 (E5.e k):=mS E5.d k [] Tryz.func3 ⟨Eo.s k,Jz.s k,B8.s k,K5.s k,Ep.s k,trivial⟩ trivial (by kernel_rfl) (λ x=>by kernel_rfl)
def Bs.e (k:Nat):Ent:=⟨2,[(.val true t42),(.val false t4)],[(.one,t5)],λ x=>Bs k x.1 x.2⟩
def E9.p:LF:=⟨⟨[(2,(.bp 2 0 0)),(3999,(.hd 9))],[(1,t4),(5,t5),(6,(.i .i64)),(7,(.i .i64)),(3000,t42)]⟩,[((.exit 2),⟨[(2,(.bp 2 0 0)),(3999,(.hd 9))],[(1,t4),(5,t5),(6,(.i .i64)),(3000,t42)]⟩)],λ k x=>E9 k x.1 x.2.1 x.2.2.1 x.2.2.2.1 x.2.2.2.2⟩
def Fx.p:LF:=⟨⟨[(2,(.bp 2 0 0)),(3999,(.hd 9))],[(1,t4),(5,t5),(6,(.i .i64)),(3000,t42)]⟩,[((.exit 0),⟨[],[(5,t5)]⟩)],λ k x=>Fx k x.1 x.2.1 x.2.2.1 x.2.2.2⟩
def Bs.d:Fd := { nt:=38,nv:=2,nm:=[0,1,2,3,5,6,7],res:=[4],ls:=[(6,E9.p),(3,Fx.p)],rf:=true }
theorem E9.s:LL Tryz.f80 Bs.d 6 E9.p:=mL [] (λ _=>trivial) trivial (by kernel_rfl) (λ _=>rfl) (λ k x=>by kernel_rfl)
theorem Fx.s:LL Tryz.f80 Bs.d 3 Fx.p:=mL [6] (λ _=>trivial) ⟨E9.s,trivial⟩ (by kernel_rfl) (λ _=>rfl) (λ k x=>by kernel_rfl)
theorem Bs.s (k:Nat):CK 80 (Bs.e k):=mS Bs.d k [3] Tryz.func80 trivial ⟨Fx.s,trivial⟩ (by kernel_rfl) (λ x=>by kernel_rfl)
def Ko.e (k:Nat):Ent:=⟨1,[(.val false .s)],[(.one,(.i .i64))],λ x=>Ko k x⟩
def Jc.p:LF:=⟨⟨[],[(0,.s),(3,(.i .i64)),(4,(.i .i64))]⟩,[((.exit 0),⟨[],[(3,(.i .i64))]⟩)],λ k x=>Jc k x.1 x.2.1 x.2.2⟩
def Ko.d:Fd := { nt:=20,nv:=1,nm:=[0,1,3,4],res:=[2],ls:=[(3,Jc.p)],rf:=true }
theorem Jc.s:LL Tryz.f158 Ko.d 3 Jc.p:=mL [] (λ _=>trivial) trivial (by kernel_rfl) (λ _=>rfl) (λ k x=>by kernel_rfl)
theorem Ko.s (k:Nat):CK 158 (Ko.e k):=mS Ko.d k [3] Tryz.func158 trivial ⟨Jc.s,trivial⟩ (by kernel_rfl) (λ x=>by kernel_rfl)
def Jh.e (k:Nat):Ent:=⟨2,[(.val false .s),(.val false (.i .i64))],[(.one,(.i .i64))],λ x=>Jh k x.1 x.2⟩
def Jh.d:Fd := { nt:=11,nv:=2,nm:=[0,1,2,3],res:=[4],cs:=λ k=>[(158,Ko.e k)],rf:=true }
theorem Jh.s (k:Nat):CK 127 (Jh.e k):=mS Jh.d k [] Tryz.func127 ⟨Ko.s k,trivial⟩ trivial (by kernel_rfl) (λ x=>by kernel_rfl)
def E6.e (k:Nat):Ent:=⟨2,[(.val true t16),(.val false .s)],[(.one,t5)],λ x=>E6 k x.1 x.2⟩
def E6.d:Fd := { nt:=22,nv:=2,nm:=[0,1,2,3],res:=[4],cs:=λ k=>[(127,Jh.e k)],rf:=true }
theorem E6.s (k:Nat):CK 81 (E6.e k):=mS E6.d k [] Tryz.func81 ⟨Jh.s k,trivial⟩ trivial (by kernel_rfl) (λ x=>by kernel_rfl)
def Ia.e (k:Nat):Ent:=⟨1,[(.val true t42)],[(.one,t5)],λ x=>Ia k x⟩
def Ia.d:Fd := { nt:=8,nv:=1,nm:=[0,1],res:=[2],cs:=λ k=>[(80,Bs.e k),(81,E6.e k)],rf:=true }
theorem Ia.s (k:Nat):CK 39 (Ia.e k):=mS Ia.d k [] Tryz.func39 ⟨Bs.s k,E6.s k,trivial⟩ trivial (by kernel_rfl) (λ x=>by kernel_rfl)
def Hl.e (k:Nat):Ent:=⟨1,[(.val true t27)],[(.one,t1)],λ x=>Hl k x⟩
def Jd.p:LF:=⟨⟨[(1,(.bp 1 0 0)),(2999,(.hd 2))],[(3,t1),(4,(.i .i64)),(7,(.i .i64)),(2000,t27)]⟩,[((.exit 2),⟨[(1,(.bp 1 0 0)),(2999,(.hd 2))],[(3,t1),(4,(.i .i64)),(7,(.i .i64)),(2000,t27)]⟩)],λ k x=>Jd k x.1 x.2.1 x.2.2.1 x.2.2.2⟩
def H8.p:LF:=⟨⟨[(1,(.bp 1 0 0)),(2999,(.hd 2))],[(3,t1),(4,(.i .i64)),(2000,t27)]⟩,[((.exit 0),⟨[],[(3,t1)]⟩)],λ k x=>H8 k x.1 x.2.1 x.2.2⟩
def Hl.d:Fd := { nt:=98,nv:=1,nm:=[0,1,3,4,5,6,7],res:=[2],cs:=λ k=>[(58,Fs.e k),(82,Aq.e k),(83,Gr.e k)],ls:=[(9,Jd.p),(3,H8.p)],rf:=true }
theorem Hl.a (k:Nat):AC (Hl.d.cs k):=⟨Fs.s k,Aq.s k,Gr.s k,trivial⟩
theorem Jd.s:LL Tryz.f40 Hl.d 9 Jd.p:=mL [] Hl.a trivial (by kernel_rfl) (λ _=>rfl) (λ k x=>by kernel_rfl)
theorem H8.s:LL Tryz.f40 Hl.d 3 H8.p:=mL [9] Hl.a ⟨Jd.s,trivial⟩ (by kernel_rfl) (λ _=>rfl) (λ k x=>by kernel_rfl)
theorem Hl.s (k:Nat):CK 40 (Hl.e k):=mS Hl.d k [3] Tryz.func40 (Hl.a k) ⟨H8.s,trivial⟩ (by kernel_rfl) (λ x=>by kernel_rfl)
def Hm.e (k:Nat):Ent:=⟨2,[(.val true t27),(.val false .s)],[(.one,t3),(.one,.b)],λ x=>Hm k x.1 x.2⟩
def Hm.d:Fd := { nt:=22,nv:=2,nm:=[0,1,2,3,6],res:=[4,5],cs:=λ k=>[(83,Gr.e k)] }
theorem Hm.s (k:Nat):CK 132 (Hm.e k):=mS Hm.d k [] Tryz.func132 ⟨Gr.s k,trivial⟩ trivial (by kernel_rfl) (λ x=>by kernel_rfl)
def Jl.e (k:Nat):Ent:=⟨2,[(.val true t27),(.val false .s)],[(.agg,t24),(.one,(.i .i64))],λ x=>Jl k x.1 x.2⟩
def Jl.d:Fd := { nt:=28,nv:=2,nm:=[0,1,2,3,6,7,8,9],res:=[5],cs:=λ k=>[(82,Aq.e k),(132,Hm.e k)],mv:=[27] }
theorem Jl.s (k:Nat):CK 85 (Jl.e k):=mS Jl.d k [] Tryz.func85 ⟨Aq.s k,Hm.s k,trivial⟩ trivial (by kernel_rfl) (λ x=>by kernel_rfl)
def Cy.e (k:Nat):Ent:=⟨2,[(.val true t42),(.val false .s)],[(.agg,t23),(.one,.b)],λ x=>Cy k x.1 x.2⟩
def Ce.p:LF:=⟨⟨[(2,(.bp 2 0 0)),(4,(.bp 4 0 0)),(6,(.bp 6 0 0)),(3999,(.hd 9)),(5999,(.hd 5)),(7999,(.hd 5))],[(1,.s),(7,.b),(8,(.i .i64)),(3000,t42),(5000,t24),(7000,t23)]⟩,[((.exit 0),⟨[(4,(.bp 4 0 0)),(6,(.bp 6 0 0)),(5999,(.hd 5)),(7999,(.hd 5))],[(7,.b),(5000,t24),(7000,t23)]⟩)],λ k x=>Ce k x.1 x.2.1 x.2.2.1 x.2.2.2.1 x.2.2.2.2.1 x.2.2.2.2.2⟩
def Cy.d:Fd := { nt:=44,nv:=2,nm:=[0,1,2,3,6,7,8,9,10],res:=[5],cs:=λ k=>[(85,Jl.e k),(106,Hd.e k)],ls:=[(4,Ce.p)],rf:=true }
theorem Cy.a (k:Nat):AC (Cy.d.cs k):=⟨Jl.s k,Hd.s k,trivial⟩
theorem Ce.s:LL Tryz.f84 Cy.d 4 Ce.p:=mL [] Cy.a trivial (by kernel_rfl) (λ _=>rfl) (λ k x=>by kernel_rfl)
theorem Cy.s (k:Nat):CK 84 (Cy.e k):=mS Cy.d k [4] Tryz.func84 (Cy.a k) ⟨Ce.s,trivial⟩ (by kernel_rfl) (λ x=>by kernel_rfl)
def Er.e (k:Nat):Ent:=⟨2,[(.val true t42),(.val false .s)],[(.one,.b)],λ x=>Er k x.1 x.2⟩
def Gc.p:LF:=⟨⟨[(2,(.bp 2 0 0)),(5,(.bp 5 0 0)),(3999,(.hd 9)),(6999,(.hd 5))],[(1,.s),(6,.b),(7,t5),(8,(.i .i64)),(3000,t42),(6000,t23)]⟩,[(.ret,⟨[],[(4,.b)]⟩),((.exit 0),⟨[],[]⟩)],λ k x=>Gc k x.1 x.2.1 x.2.2.1 x.2.2.2.1 x.2.2.2.2.1 x.2.2.2.2.2⟩
def Er.d:Fd := { nt:=62,nv:=2,nm:=[0,1,2,3,5,6,7,8,9,10,11],res:=[4],cs:=λ k=>[(42,Es.e k),(80,Bs.e k),(81,E6.e k),(84,Cy.e k),(85,Jl.e k),(86,G6.e k)],ls:=[(4,Gc.p)],rf:=true }
theorem Er.a (k:Nat):AC (Er.d.cs k):=⟨Es.s k,Bs.s k,E6.s k,Cy.s k,Jl.s k,G6.s k,trivial⟩
theorem Gc.s:LL Tryz.f41 Er.d 4 Gc.p:=mL [] Er.a trivial (by kernel_rfl) (λ _=>rfl) (λ k x=>by kernel_rfl)
theorem Er.s (k:Nat):CK 41 (Er.e k):=mS Er.d k [4] Tryz.func41 (Er.a k) ⟨Gc.s,trivial⟩ (by kernel_rfl) (λ x=>by kernel_rfl)
def Ha.e (k:Nat):Ent:=⟨2,[(.val false t30),(.val false t30)],[(.one,.b)],λ x=>Ha k x.1 x.2⟩
def H9.p:LF:=⟨⟨[],[(0,t30),(1,t30),(5,(.i .i64))]⟩,[(.ret,⟨[],[(4,.b)]⟩),((.exit 0),⟨[],[]⟩)],λ k x=>H9 k x.1 x.2.1 x.2.2⟩
def Ha.d:Fd := { nt:=26,nv:=2,nm:=[0,1,2,3,5],res:=[4],ls:=[(4,H9.p)],rf:=true }
theorem H9.s:LL Tryz.f43 Ha.d 4 H9.p:=mL [] (λ _=>trivial) trivial (by kernel_rfl) (λ _=>rfl) (λ k x=>by kernel_rfl)
theorem Ha.s (k:Nat):CK 43 (Ha.e k):=mS Ha.d k [4] Tryz.func43 trivial ⟨H9.s,trivial⟩ (by kernel_rfl) (λ x=>by kernel_rfl)
def Gj.e (k:Nat):Ent:=⟨1,[(.val true t42)],[(.one,.b)],λ x=>Gj k x⟩
def Ib.p:LF:=⟨⟨[(1,(.bp 1 0 0)),(5,(.bp 5 0 0)),(2999,(.hd 9)),(6999,(.hd 5))],[(3,t5),(4,(.i .i64)),(6,t1),(7,(.i .i64)),(2000,t42),(6000,t37)]⟩,[(.ret,⟨[],[(2,.b)]⟩),((.exit 2),⟨[(1,(.bp 1 0 0)),(5,(.bp 5 0 0)),(2999,(.hd 9)),(6999,(.hd 5))],[(3,t5),(4,(.i .i64)),(2000,t42),(6000,t37)]⟩)],λ k x=>Ib k x.1 x.2.1 x.2.2.1 x.2.2.2.1 x.2.2.2.2.1 x.2.2.2.2.2⟩
def Hn.p:LF:=⟨⟨[(1,(.bp 1 0 0)),(2999,(.hd 9))],[(3,t5),(4,(.i .i64)),(2000,t42)]⟩,[(.ret,⟨[],[(2,.b)]⟩),((.exit 0),⟨[],[]⟩)],λ k x=>Hn k x.1 x.2.1 x.2.2⟩
def Gj.d:Fd := { nt:=62,nv:=1,nm:=[0,1,3,4,5,6,7,8],res:=[2],cs:=λ k=>[(39,Ia.e k),(40,Hl.e k),(41,Er.e k),(42,Es.e k),(43,Ha.e k)],ls:=[(8,Ib.p),(3,Hn.p)],rf:=true }
theorem Gj.a (k:Nat):AC (Gj.d.cs k):=⟨Ia.s k,Hl.s k,Er.s k,Es.s k,Ha.s k,trivial⟩
theorem Ib.s:LL Tryz.f10 Gj.d 8 Ib.p:=mL [] Gj.a trivial (by kernel_rfl) (λ _=>rfl) (λ k x=>by kernel_rfl)
theorem Hn.s:LL Tryz.f10 Gj.d 3 Hn.p:=mL [8] Gj.a ⟨Ib.s,trivial⟩ (by kernel_rfl) (λ _=>rfl) (λ k x=>by kernel_rfl)
theorem Gj.s (k:Nat):CK 10 (Gj.e k):=mS Gj.d k [3] Tryz.func10 (Gj.a k) ⟨Hn.s,trivial⟩ (by kernel_rfl) (λ x=>by kernel_rfl)
def Gv.e (k:Nat):Ent:=⟨1,[(.val false t2)],[(.one,t3)],λ x=>Gv x⟩
def Gv.d:Fd := { nt:=5,nv:=1,nm:=[0,1],res:=[2] }
theorem Gv.s (k:Nat):CK 164 (Gv.e k):=mS Gv.d k [] Tryz.func164 trivial trivial (by kernel_rfl) (λ x=>by kernel_rfl)
def Ho.e (k:Nat):Ent:=⟨2,[(.val true t27),(.val false .s)],[(.one,t3),(.one,.b)],λ x=>Ho k x.1 x.2⟩
def Ho.d:Fd := { nt:=20,nv:=2,nm:=[0,1,2,3,6],res:=[4,5],cs:=λ k=>[(122,L5.e k),(164,Gv.e k)] }
theorem Ho.s (k:Nat):CK 133 (Ho.e k):=mS Ho.d k [] Tryz.func133 ⟨L5.s k,Gv.s k,trivial⟩ trivial (by kernel_rfl) (λ x=>by kernel_rfl)
def I4.e (k:Nat):Ent:=⟨2,[(.val true t27),(.val false .s)],[(.agg,t23),(.one,(.i .i64))],λ x=>I4 k x.1 x.2⟩
def I4.d:Fd := { nt:=28,nv:=2,nm:=[0,1,2,3,6,7,8,9],res:=[5],cs:=λ k=>[(69,C0.e k),(133,Ho.e k)] }
theorem I4.s (k:Nat):CK 87 (I4.e k):=mS I4.d k [] Tryz.func87 ⟨C0.s k,Ho.s k,trivial⟩ trivial (by kernel_rfl) (λ x=>by kernel_rfl)
def Gw.e (k:Nat):Ent:=⟨2,[(.val false t0),(.val false .s)],[(.one,t0)],λ x=>Gw k x.1 x.2⟩
def Gn.p:LF:=⟨⟨[],[(0,t0),(1,.s),(5,(.i .i64))]⟩,[((.exit 0),⟨[],[(0,t0),(1,.s),(5,(.i .i64))]⟩)],λ k x=>Gn k x.1 x.2.1 x.2.2⟩
def Gw.d:Fd := { nt:=44,nv:=2,nm:=[0,1,2,3,5],res:=[4],ls:=[(2,Gn.p)] }
theorem Gn.s:LL Tryz.f88 Gw.d 2 Gn.p:=mL [] (λ _=>trivial) trivial (by kernel_rfl) (λ _=>rfl) (λ k x=>by kernel_rfl)
theorem Gw.s (k:Nat):CK 88 (Gw.e k):=mS Gw.d k [2] Tryz.func88 trivial ⟨Gn.s,trivial⟩ (by kernel_rfl) (λ x=>by kernel_rfl)
def Id.e (k:Nat):Ent:=⟨1,[(.val true t27)],[(.one,t0)],λ x=>Id k x⟩
def Ic.p:LF:=⟨⟨[(1,(.bp 1 0 0)),(2999,(.hd 2))],[(3,t0),(9,t12),(10,(.i .i64)),(11,(.i .i64)),(2000,t27)]⟩,[((.exit 0),⟨[],[(3,t0)]⟩)],λ k x=>Ic k x.1 x.2.1 x.2.2.1 x.2.2.2.1 x.2.2.2.2⟩
def Id.d:Fd := { nt:=30,nv:=1,nm:=[0,1,3,4,5,6,7],res:=[2],cs:=λ k=>[(87,I4.e k),(88,Gw.e k)],ls:=[(3,Ic.p)],rf:=true }
theorem Id.a (k:Nat):AC (Id.d.cs k):=⟨I4.s k,Gw.s k,trivial⟩
theorem Ic.s:LL Tryz.f44 Id.d 3 Ic.p:=mL [] Id.a trivial (by kernel_rfl) (λ _=>rfl) (λ k x=>by kernel_rfl)
theorem Id.s (k:Nat):CK 44 (Id.e k):=mS Id.d k [3] Tryz.func44 (Id.a k) ⟨Ic.s,trivial⟩ (by kernel_rfl) (λ x=>by kernel_rfl)
def Kf.e (k:Nat):Ent:=⟨2,[(.val true t23),(.val true t23)],[(.one,.b)],λ x=>Kf x.1 x.2⟩
def Kf.d:Fd := { nt:=10,nv:=2,nm:=[0,1,2,3],res:=[4],cs:=λ k=>[(75,Ae.e k)] }
theorem Kf.s (k:Nat):CK 134 (Kf.e k):=mS Kf.d k [] Tryz.func134 ⟨Ae.s k,trivial⟩ trivial (by kernel_rfl) (λ x=>by kernel_rfl)
def Cz.e (k:Nat):Ent:=⟨2,[(.val true t42),(.val false .s)],[(.agg,t23),(.one,.b)],λ x=>Cz k x.1 x.2⟩
def Cf.p:LF:=⟨⟨[(4,(.bp 4 0 0)),(6,(.bp 6 0 0)),(5999,(.hd 5)),(7999,(.hd 5))],[(1,.s),(7,.b),(13,t39),(14,(.i .i64)),(15,(.i .i64)),(5000,t24),(7000,t23)]⟩,[((.exit 0),⟨[(4,(.bp 4 0 0)),(6,(.bp 6 0 0)),(5999,(.hd 5)),(7999,(.hd 5))],[(7,.b),(5000,t24),(7000,t23)]⟩)],λ k x=>Cf k x.1 x.2.1 x.2.2.1 x.2.2.2.1 x.2.2.2.2.1 x.2.2.2.2.2.1 x.2.2.2.2.2.2⟩
def Cz.d:Fd := { nt:=41,nv:=2,nm:=[0,1,2,3,6,7,8,9,10,11],res:=[5],cs:=λ k=>[(87,I4.e k),(134,Kf.e k)],ls:=[(4,Cf.p)],rf:=true }
theorem Cz.a (k:Nat):AC (Cz.d.cs k):=⟨I4.s k,Kf.s k,trivial⟩
theorem Cf.s:LL Tryz.f89 Cz.d 4 Cf.p:=mL [] Cz.a trivial (by kernel_rfl) (λ _=>rfl) (λ k x=>by kernel_rfl)
theorem Cz.s (k:Nat):CK 89 (Cz.e k):=mS Cz.d k [4] Tryz.func89 (Cz.a k) ⟨Cf.s,trivial⟩ (by kernel_rfl) (λ x=>by kernel_rfl)
def Hp.e (k:Nat):Ent:=⟨1,[(.val false t4)],[(.one,t5)],λ x=>Hp x⟩
def Hp.d:Fd := { nt:=5,nv:=1,nm:=[0,1],res:=[2],rf:=true }
theorem Hp.s (k:Nat):CK 165 (Hp.e k):=mS Hp.d k [] Tryz.func165 trivial trivial (by kernel_rfl) (λ x=>by kernel_rfl)
def Kq.e (k:Nat):Ent:=⟨1,[(.val false .s)],[(.one,(.i .i64))],λ x=>Kq k x⟩
def Je.p:LF:=⟨⟨[],[(0,.s),(3,(.i .u32)),(4,(.i .i64))]⟩,[((.exit 0),⟨[],[(3,(.i .u32))]⟩)],λ k x=>Je k x.1 x.2.1 x.2.2⟩
def Kq.d:Fd := { nt:=20,nv:=1,nm:=[0,1,3,4],res:=[2],ls:=[(3,Je.p)],rf:=true }
theorem Je.s:LL Tryz.f174 Kq.d 3 Je.p:=mL [] (λ _=>trivial) trivial (by kernel_rfl) (λ _=>rfl) (λ k x=>by kernel_rfl)
theorem Kq.s (k:Nat):CK 174 (Kq.e k):=mS Kq.d k [3] Tryz.func174 trivial ⟨Je.s,trivial⟩ (by kernel_rfl) (λ x=>by kernel_rfl)
def Ji.e (k:Nat):Ent:=⟨2,[(.val false .s),(.val false (.i .i64))],[(.one,(.i .i64))],λ x=>Ji k x.1 x.2⟩
def Ji.d:Fd := { nt:=11,nv:=2,nm:=[0,1,2,3],res:=[4],cs:=λ k=>[(174,Kq.e k)],rf:=true }
theorem Ji.s (k:Nat):CK 166 (Ji.e k):=mS Ji.d k [] Tryz.func166 ⟨Kq.s k,trivial⟩ trivial (by kernel_rfl) (λ x=>by kernel_rfl)
def E7.e (k:Nat):Ent:=⟨2,[(.val true t16),(.val false .s)],[(.one,t5)],λ x=>E7 k x.1 x.2⟩
def E7.d:Fd := { nt:=20,nv:=2,nm:=[0,1,2,3],res:=[4],cs:=λ k=>[(165,Hp.e k),(166,Ji.e k)],rf:=true }
theorem E7.s (k:Nat):CK 135 (E7.e k):=mS E7.d k [] Tryz.func135 ⟨Hp.s k,Ji.s k,trivial⟩ trivial (by kernel_rfl) (λ x=>by kernel_rfl)
def Gx.e (k:Nat):Ent:=⟨3,[(.val true t16),(.val false .s),(.val false (.i .i64))],[(.one,.b)],λ x=>Gx k x.1 x.2.1 x.2.2⟩
def Gx.d:Fd := { nt:=12,nv:=3,nm:=[0,1,2,3,4,5],res:=[6],cs:=λ k=>[(93,Ct.e k),(135,E7.e k)],rf:=true }
theorem Gx.s (k:Nat):CK 90 (Gx.e k):=mS Gx.d k [] Tryz.func90 ⟨Ct.s k,E7.s k,trivial⟩ trivial (by kernel_rfl) (λ x=>by kernel_rfl)
def Bt.e (k:Nat):Ent:=⟨2,[(.val true t42),(.val false .s)],[(.one,.b)],λ x=>Bt k x.1 x.2⟩
def Ea.p:LF:=⟨⟨[(2,(.bp 2 0 0)),(5,(.bp 5 0 0)),(3999,(.hd 9)),(6999,(.hd 5))],[(1,.s),(18,t39),(19,(.i .i64)),(20,(.i .i64)),(3000,t42),(6000,t23)]⟩,[(.ret,⟨[],[(4,.b)]⟩),((.exit 0),⟨[],[]⟩)],λ k x=>Ea k x.1 x.2.1 x.2.2.1 x.2.2.2.1 x.2.2.2.2.1 x.2.2.2.2.2⟩
def Bt.d:Fd := { nt:=49,nv:=2,nm:=[0,1,2,3,5,6,7,8,9,10],res:=[4],cs:=λ k=>[(87,I4.e k),(89,Cz.e k),(90,Gx.e k),(91,Cw.e k)],ls:=[(3,Ea.p)],rf:=true }
theorem Bt.a (k:Nat):AC (Bt.d.cs k):=⟨I4.s k,Cz.s k,Gx.s k,Cw.s k,trivial⟩
theorem Ea.s:LL Tryz.f45 Bt.d 3 Ea.p:=mL [] Bt.a trivial (by kernel_rfl) (λ _=>rfl) (λ k x=>by kernel_rfl)
theorem Bt.s (k:Nat):CK 45 (Bt.e k):=mS Bt.d k [3] Tryz.func45 (Bt.a k) ⟨Ea.s,trivial⟩ (by kernel_rfl) (λ x=>by kernel_rfl)
def Hc.e (k:Nat):Ent:=⟨2,[(.val true t42),(.val false t4)],[(.one,t5)],λ x=>Hc k x.1 x.2⟩
def Gd.p:LF:=⟨⟨[(2,(.bp 2 0 0)),(3999,(.hd 9))],[(5,t5),(7,(.i .i64)),(10,t4),(11,(.i .i64)),(12,(.i .i64)),(17,t39),(18,(.i .i64)),(19,(.i .i64)),(3000,t42)]⟩,[((.exit 2),⟨[(2,(.bp 2 0 0)),(3999,(.hd 9))],[(5,t5),(10,t4),(11,(.i .i64)),(12,(.i .i64)),(3000,t42)]⟩)],λ k x=>Gd k x.1 x.2.1 x.2.2.1 x.2.2.2.1 x.2.2.2.2.1 x.2.2.2.2.2.1 x.2.2.2.2.2.2.1 x.2.2.2.2.2.2.2.1 x.2.2.2.2.2.2.2.2⟩
def Hb.p:LF:=⟨⟨[(2,(.bp 2 0 0)),(3999,(.hd 9))],[(5,t5),(10,t4),(11,(.i .i64)),(12,(.i .i64)),(3000,t42)]⟩,[((.exit 0),⟨[],[(5,t5)]⟩)],λ k x=>Hb k x.1 x.2.1 x.2.2.1 x.2.2.2.1 x.2.2.2.2⟩
def Hc.d:Fd := { nt:=35,nv:=2,nm:=[0,1,2,3,5,6,7,8,9],res:=[4],ls:=[(6,Gd.p),(3,Hb.p)],rf:=true }
theorem Gd.s:LL Tryz.f136 Hc.d 6 Gd.p:=mL [] (λ _=>trivial) trivial (by kernel_rfl) (λ _=>rfl) (λ k x=>by kernel_rfl)
theorem Hb.s:LL Tryz.f136 Hc.d 3 Hb.p:=mL [6] (λ _=>trivial) ⟨Gd.s,trivial⟩ (by kernel_rfl) (λ _=>rfl) (λ k x=>by kernel_rfl)
theorem Hc.s (k:Nat):CK 136 (Hc.e k):=mS Hc.d k [3] Tryz.func136 trivial ⟨Hb.s,trivial⟩ (by kernel_rfl) (λ x=>by kernel_rfl)
def Ie.e (k:Nat):Ent:=⟨1,[(.val true t42)],[(.one,t5)],λ x=>Ie k x⟩
def Ie.d:Fd := { nt:=8,nv:=1,nm:=[0,1],res:=[2],cs:=λ k=>[(135,E7.e k),(136,Hc.e k)],rf:=true }
theorem Ie.s (k:Nat):CK 92 (Ie.e k):=mS Ie.d k [] Tryz.func92 ⟨E7.s k,Hc.s k,trivial⟩ trivial (by kernel_rfl) (λ x=>by kernel_rfl)
def Gy.e (k:Nat):Ent:=⟨2,[(.val false t30),(.val false t30)],[(.one,.b)],λ x=>Gy k x.1 x.2⟩
def Gp.p:LF:=⟨⟨[],[(0,t30),(1,t30),(12,(.i .i64)),(13,(.i .i64))]⟩,[(.ret,⟨[],[(4,.b)]⟩),((.exit 0),⟨[],[]⟩)],λ k x=>Gp k x.1 x.2.1 x.2.2.1 x.2.2.2⟩
def Gy.d:Fd := { nt:=26,nv:=2,nm:=[0,1,2,3,5],res:=[4],ls:=[(4,Gp.p)],rf:=true }
theorem Gp.s:LL Tryz.f94 Gy.d 4 Gp.p:=mL [] (λ _=>trivial) trivial (by kernel_rfl) (λ _=>rfl) (λ k x=>by kernel_rfl)
theorem Gy.s (k:Nat):CK 94 (Gy.e k):=mS Gy.d k [4] Tryz.func94 trivial ⟨Gp.s,trivial⟩ (by kernel_rfl) (λ x=>by kernel_rfl)
def Bu.e (k:Nat):Ent:=⟨1,[(.val true t42)],[(.one,.b)],λ x=>Bu k x⟩
def Eb.p:LF:=⟨⟨[(1,(.bp 1 0 0)),(2999,(.hd 9))],[(3,t5),(9,t39),(10,(.i .i64)),(11,(.i .i64)),(2000,t42)]⟩,[(.ret,⟨[],[(2,.b)]⟩),((.exit 0),⟨[],[]⟩)],λ k x=>Eb k x.1 x.2.1 x.2.2.1 x.2.2.2.1 x.2.2.2.2⟩
def Bu.d:Fd := { nt:=41,nv:=1,nm:=[0,1,3,4,5],res:=[2],cs:=λ k=>[(92,Ie.e k),(93,Ct.e k),(94,Gy.e k)],ls:=[(3,Eb.p)],rf:=true }
theorem Bu.a (k:Nat):AC (Bu.d.cs k):=⟨Ie.s k,Ct.s k,Gy.s k,trivial⟩
theorem Eb.s:LL Tryz.f46 Bu.d 3 Eb.p:=mL [] Bu.a trivial (by kernel_rfl) (λ _=>rfl) (λ k x=>by kernel_rfl)
theorem Bu.s (k:Nat):CK 46 (Bu.e k):=mS Bu.d k [3] Tryz.func46 (Bu.a k) ⟨Eb.s,trivial⟩ (by kernel_rfl) (λ x=>by kernel_rfl)
def Gk.e (k:Nat):Ent:=⟨1,[(.val true t42)],[(.one,.b)],λ x=>Gk k x⟩
def Ig.p:LF:=⟨⟨[(1,(.bp 1 0 0)),(2999,(.hd 9))],[(8,t39),(9,(.i .i64)),(10,(.i .i64)),(16,t0),(17,(.i .i64)),(18,(.i .i64)),(2000,t42)]⟩,[(.ret,⟨[],[(2,.b)]⟩),((.exit 2),⟨[(1,(.bp 1 0 0)),(2999,(.hd 9))],[(8,t39),(9,(.i .i64)),(10,(.i .i64)),(2000,t42)]⟩)],λ k x=>Ig k x.1 x.2.1 x.2.2.1 x.2.2.2.1 x.2.2.2.2.1 x.2.2.2.2.2.1 x.2.2.2.2.2.2⟩
def Ih.p:LF:=⟨⟨[(1,(.bp 1 0 0)),(2999,(.hd 9))],[(8,t39),(9,(.i .i64)),(10,(.i .i64)),(2000,t42)]⟩,[(.ret,⟨[],[(2,.b)]⟩),((.exit 0),⟨[(1,(.bp 1 0 0)),(2999,(.hd 9))],[(2000,t42)]⟩)],λ k x=>Ih k x.1 x.2.1 x.2.2.1 x.2.2.2⟩
def Gk.d:Fd := { nt:=30,nv:=1,nm:=[0,1,3,4,5,6],res:=[2],cs:=λ k=>[(44,Id.e k),(45,Bt.e k),(46,Bu.e k)],ls:=[(5,Ig.p),(2,Ih.p)],rf:=true }
theorem Gk.a (k:Nat):AC (Gk.d.cs k):=⟨Id.s k,Bt.s k,Bu.s k,trivial⟩
theorem Ig.s:LL Tryz.f11 Gk.d 5 Ig.p:=mL [] Gk.a trivial (by kernel_rfl) (λ _=>rfl) (λ k x=>by kernel_rfl)
theorem Ih.s:LL Tryz.f11 Gk.d 2 Ih.p:=mL [5] Gk.a ⟨Ig.s,trivial⟩ (by kernel_rfl) (λ _=>rfl) (λ k x=>by kernel_rfl)
theorem Gk.s (k:Nat):CK 11 (Gk.e k):=mS Gk.d k [2] Tryz.func11 (Gk.a k) ⟨Ih.s,trivial⟩ (by kernel_rfl) (λ x=>by kernel_rfl)
def Hw.e (k:Nat):Ent:=⟨1,[(.val true t41)],[(.one,.b)],λ x=>Hw k x⟩
def Hw.d:Fd := { nt:=27,nv:=1,nm:=[0,1,3,4,5,6],res:=[2],cs:=λ k=>[(5,Eo.e k),(7,B8.e k),(9,Ep.e k),(10,Gj.e k),(11,Gk.e k)],rf:=true }
theorem Hw.s (k:Nat):CK 4 (Hw.e k):=mS Hw.d k [] Tryz.func4 ⟨Eo.s k,B8.s k,Ep.s k,Gj.s k,Gk.s k,trivial⟩ trivial (by kernel_rfl) (λ x=>by kernel_rfl)
end

end Go.Proofs.YtlfoljnopndpeaaGreat.Vf
