import Derived.Test.YtiiekghlhfbmmaaGreatMab
import Derived.Test.YtiiekghlhfbmmaaGreatMaj
import Derived.Test.YtiiekghlhfbmmaaGreatProg
import Derived.KernelRfl
set_option linter.all false
namespace Go.Proofs.YtiiekghlhfbmmaaGreat.Vf
open Go
open List (length getD)
open Int (toNat)
open Go.IntKind (wrap)
open BitVec (ofInt)

section
open Go.Proofs
@[reducible] def t0:Ty := .sl 9 .s
@[reducible] def t1:Ty := .sl 4 .b
@[reducible] def t2:Ty := .ow 9 .s
@[reducible] def t3:Ty := .ow 4 .b
@[reducible] def t4:Ty := .sl 5 (.i .u8)
@[reducible] def t5:Ty := .ow 5 (.i .u8)
@[reducible] def t6:Ty := .sl 3 (.i .i64)
@[reducible] def t7:Ty := .ow 3 (.i .i64)
@[reducible] def t8:Ty := .pr .s (.i .u64)
@[reducible] def t9:Ty := .pr (.i .i64) (.i .i64)
@[reducible] def t10:Ty := .sl 87 t6
@[reducible] def t11:Ty := .pr .s t4
@[reducible] def t12:Ty := .pr .s t5
@[reducible] def t13:Ty := .sl 130 t11
@[reducible] def t14:Ty := .ow 130 t11
@[reducible] def t15:Ty := .ow 130 t12
@[reducible] def t16:Ty := .pr (.i .i64) t9
@[reducible] def t17:Ty := .pr (.i .i64) t10
@[reducible] def t18:Ty := .pr (.i .i64) (.ow 87 t7)
@[reducible] def t19:Ty := .pr (.i .i64) (.ow 87 t6)
@[reducible] def t20:Ty := .pr t4 (.pr (.i .i64) .b)
@[reducible] def t21:Ty := .pr t4 t9
@[reducible] def t22:Ty := .sl 110 t16
@[reducible] def t23:Ty := .ow 110 t16
@[reducible] def t24:Ty := .pr (.i .i64) (.pr (.i .i64) (.pr .b (.i .u8)))
@[reducible] def t25:Ty := .pr t16 (.pr .b t4)
@[reducible] def t26:Ty := .pr t16 (.pr .b t5)
@[reducible] def t27:Ty := .pr .s (.pr t16 (.pr .b (.i .i64)))
@[reducible] def t28:Ty := .pr t13 t13
@[reducible] def t29:Ty := .pr t14 t14
@[reducible] def t30:Ty := .pr t15 t15
@[reducible] def t31:Ty := .sl 50 t27
@[reducible] def t32:Ty := .ow 50 t27
@[reducible] def t33:Ty := .pr .s (.pr t25 .b)
@[reducible] def t34:Ty := .pr (.i .i64) (.pr (.i .i64) (.pr .s (.pr t4 (.pr (.i .i64) t6))))
@[reducible] def t35:Ty := .sl 42 t33
@[reducible] def t36:Ty := .ow 42 t33
@[reducible] def t37:Ty := .pr t16 (.pr t35 t0)
@[reducible] def t38:Ty := .pr t32 t32
@[reducible] def t39:Ty := .pr t31 t32
@[reducible] def t40:Ty := .pr (.i .i64) (.pr t28 (.pr t31 t31))
@[reducible] def t41:Ty := .pr (.i .i64) (.pr t29 t38)
@[reducible] def t42:Ty := .pr (.i .i64) (.pr t28 t38)
@[reducible] def t43:Ty := .pr (.i .i64) (.pr t29 t39)
@[reducible] def t44:Ty := .pr (.i .i64) (.pr t28 t39)
@[reducible] def t45:Ty := .sl 48 t40
@[reducible] def t46:Ty := .ow 48 t40
@[reducible] def t47:Ty := .pr t46 (.pr t16 (.pr t36 t2))
@[reducible] def t48:Ty := .pr t22 (.pr t17 (.pr t45 t37))
@[reducible] def t49:Ty := .pr t23 (.pr t17 t47)
@[reducible] def t50:Ty := .pr t23 (.pr t19 t47)
@[reducible] def t51:Ty := .pr t23 (.pr t17 (.pr t46 (.pr t16 (.pr t36 t0))))
@[reducible] def t52:Ty := .pr t23 (.pr t17 (.pr t46 t37))
def tiL:List (Nat×TI):=[(2,⟨(.i .i64),false,8,[]⟩),
 (3,⟨(.i .i64),false,8,[]⟩),
 (4,⟨.b,false,1,[]⟩),
 (5,⟨(.i .u8),false,1,[]⟩),
 (6,⟨(.i .u8),false,1,[]⟩),
 (7,⟨t24,true,24,[(0,1,false),(1,1,false),(2,1,false),(3,1,false)]⟩),
 (8,⟨t24,true,24,[(0,1,false),(1,1,false),(2,1,false),(3,1,false)]⟩),
 (9,⟨.s,false,16,[]⟩),
 (10,⟨.s,false,16,[]⟩),
 (11,⟨.s,false,16,[]⟩),
 (12,⟨(.i .u64),false,8,[]⟩),
 (13,⟨t8,true,24,[(0,1,false),(1,1,false)]⟩),
 (14,⟨t8,true,24,[(0,1,false),(1,1,false)]⟩),
 (21,⟨(.i .i32),false,4,[]⟩),
 (22,⟨t4,false,24,[]⟩),
 (24,⟨t22,false,24,[]⟩),
 (25,⟨t10,false,24,[]⟩),
 (26,⟨t17,true,32,[(0,1,false),(1,1,false)]⟩),
 (27,⟨t17,true,32,[(0,1,false),(1,1,false)]⟩),
 (28,⟨t45,false,24,[]⟩),
 (29,⟨t16,true,24,[(0,1,false),(1,1,false),(2,1,false)]⟩),
 (30,⟨t16,true,24,[(0,1,false),(1,1,false),(2,1,false)]⟩),
 (31,⟨t35,false,24,[]⟩),
 (32,⟨t0,false,24,[]⟩),
 (33,⟨t48,true,152,[(0,1,false),(1,2,true),(3,1,false),(4,3,true),(7,1,false),(8,1,false)]⟩),
 (34,⟨t48,true,152,[(0,1,false),(1,2,true),(3,1,false),(4,3,true),(7,1,false),(8,1,false)]⟩),
 (37,⟨t6,false,24,[]⟩),
 (39,⟨t25,true,56,[(0,3,true),(3,1,false),(4,1,false)]⟩),
 (40,⟨t25,true,56,[(0,3,true),(3,1,false),(4,1,false)]⟩),
 (41,⟨t33,true,80,[(0,1,false),(1,5,true),(6,1,false)]⟩),
 (42,⟨t33,true,80,[(0,1,false),(1,5,true),(6,1,false)]⟩),
 (43,⟨t13,false,24,[]⟩),
 (44,⟨t28,true,48,[(0,1,false),(1,1,false)]⟩),
 (45,⟨t28,true,48,[(0,1,false),(1,1,false)]⟩),
 (46,⟨t31,false,24,[]⟩),
 (47,⟨t40,true,104,[(0,1,false),(1,2,true),(3,1,false),(4,1,false)]⟩),
 (48,⟨t40,true,104,[(0,1,false),(1,2,true),(3,1,false),(4,1,false)]⟩),
 (49,⟨t27,true,56,[(0,1,false),(1,3,true),(4,1,false),(5,1,false)]⟩),
 (50,⟨t27,true,56,[(0,1,false),(1,3,true),(4,1,false),(5,1,false)]⟩),
 (59,⟨t34,true,88,[(0,1,false),(1,1,false),(2,1,false),(3,1,false),(4,1,false),(5,1,false)]⟩),
 (60,⟨t34,true,88,[(0,1,false),(1,1,false),(2,1,false),(3,1,false),(4,1,false),(5,1,false)]⟩),
 (86,⟨t6,true,24,[(0,1,false)]⟩),
 (87,⟨t6,true,24,[(0,1,false)]⟩),
 (109,⟨t16,true,24,[(0,1,false),(1,1,false),(2,1,false)]⟩),
 (110,⟨t16,true,24,[(0,1,false),(1,1,false),(2,1,false)]⟩),
 (122,⟨t21,true,40,[(0,1,false),(1,1,false),(2,1,false)]⟩),
 (123,⟨t21,true,40,[(0,1,false),(1,1,false),(2,1,false)]⟩),
 (129,⟨t11,true,40,[(0,1,false),(1,1,false)]⟩),
 (130,⟨t11,true,40,[(0,1,false),(1,1,false)]⟩),
 (139,⟨t20,true,40,[(0,1,false),(1,1,false),(2,1,false)]⟩),
 (140,⟨t20,true,40,[(0,1,false),(1,1,false),(2,1,false)]⟩),
 (177,⟨t1,false,24,[]⟩),
 (192,⟨(.i .u64),false,8,[]⟩),
 (201,⟨(.i .u32),false,4,[]⟩),
 (238,⟨(.i .u8),false,1,[]⟩),
 (239,⟨(.i .u8),false,1,[]⟩),
 (242,⟨(.i .i32),false,4,[]⟩),
 (243,⟨(.i .i32),false,4,[]⟩)]
def ti:TypeId→Option TI:=lk tiL
def Egb:List Nat:=[29,30,49,50,109,110]
def eqs:TypeId→Bool:=λ T=>Egb.contains T
def sK:Apa Tryz.prog ti eqs∧∀ T,Ub Tryz.prog ti T=true:=Hfb (P:=Tryz.prog) (ti:=ti) (eqs:=eqs) (keys:=tiL.map Prod.fst) (Egb:=Egb) A5b (by kernel_rfl) (by kernel_rfl) rfl (by kernel_rfl)
def sO:Apa Tryz.prog ti eqs:=sK.1
def Ibb:∀ T t,ti T=some t→TOk Tryz.prog T t:=sO.tok
def Icb:∀ T,Ub Tryz.prog ti T=true:=sK.2
abbrev CK:=Ps Tryz.prog
abbrev LL:=LK Tryz.prog
abbrev AC:=Cib Tryz.prog
def mS {f:FuncId} {fn:Func} (D:Fd) (k:Nat) {en:Ent} (ids:List Nat) (hf:Tryz.prog.funcs[f]? = some fn) (hc:AC (D.cs k)) (hi:Cjb Tryz.prog fn D ids) (h:(Heb fn D en,Md (bo fn),ids.map λ l=>first (Li l (bo fn)))=(true,ids.map λ l=>Li l (bo fn),ids):=by kernel_rfl) (hr:∀ x,R3a (D.n ti eqs k) (bo fn) fn.results.toList en x=en.run x:=by intro x;kernel_rfl):CK f en:=mkS sO ids hf hc hi (congrArg Prod.fst h) (congrArg Prod.snd h) hr
def mL {fn:Func} {D:Fd} {l:Nat} {p:LF} (ids:List Nat) (hc:∀ k,AC (D.cs k)) (hi:Cjb Tryz.prog fn D ids) (h:(Nat.beq D.nt fn.ntmps,Md (Li l (bo fn)),ids.map λ l=>first (Li l (bo fn)))=(true,ids.map λ l=>Li l (bo fn),ids):=by kernel_rfl) (h0:∀ x,p.f 0 x=none:=by intro _;rfl) (hs:I1b ti eqs fn D l p:=by intro k x;kernel_rfl):LL fn D l p:=mkL sO ids (congrArg Prod.fst h) hc hi (congrArg Prod.snd h) h0 hs
def Nt.e (k:Nat):Ent:=⟨1,[(.val false t4)],[(.one,.b)],λ x=>Nt x⟩
def Nt.d:Fd := { nt:=6,nv:=1,nm:=[0,1],res:=[2] }
def Nt.s (k:Nat):CK 8 (Nt.e k):=mS Nt.d k [] Tryz.func8 trivial trivial
def Dx.e (k:Nat):Ent:=⟨2,[(.val true t16),(.val true t16)],[(.one,.b)],λ x=>Dx x.1 x.2⟩
def Dx.d:Fd := { nt:=32,nv:=2,nm:=[0,1,2,3],res:=[4] }
def Dx.s (k:Nat):CK 12 (Dx.e k):=mS Dx.d k [] Tryz.func12 trivial trivial
def Je.e (k:Nat):Ent:=⟨2,[(.val true t25),(.val true t25)],[(.one,.b)],λ x=>Je x.1 x.2⟩
def Je.d:Fd := { nt:=10,nv:=2,nm:=[0,1,2,3],res:=[4],cs:=λ k=>[(12,Dx.e k)] }
def Je.s (k:Nat):CK 15 (Je.e k):=mS Je.d k [] Tryz.func15 ⟨Dx.s k,trivial⟩ trivial
def Av.e (k:Nat):Ent:=⟨1,[(.val false t4)],[(.one,t5)],λ x=>Av x⟩
def Av.d:Fd := { nt:=5,nv:=1,nm:=[0,1],res:=[2] }
def Av.s (k:Nat):CK 105 (Av.e k):=mS Av.d k [] Tryz.func105 trivial trivial
def Kt.e (k:Nat):Ent:=⟨2,[(.val false t13),(.val false .s)],[(.one,(.i .i64))],λ x=>Kt k x.1 x.2⟩
def L7.p:LF:=⟨⟨[],[(1,.s),(7,t13),(8,(.i .i64)),(9,(.i .i64))]⟩,[(.ret,⟨[],[(4,(.i .i64))]⟩),((.exit 0),⟨[],[]⟩)],λ k x=>L7 k x.1 x.2.1 x.2.2.1 x.2.2.2⟩
def Kt.d:Fd := { nt:=20,nv:=2,nm:=[0,1,2,3,5,6],res:=[4],ls:=[(2,L7.p)] }
def L7.s:LL Tryz.f118 Kt.d 2 L7.p:=mL [] (λ _=>trivial) trivial
def Kt.s (k:Nat):CK 118 (Kt.e k):=mS Kt.d k [2] Tryz.func118 trivial ⟨L7.s,trivial⟩
def F6.e (k:Nat):Ent:=⟨2,[(.val true t28),(.val false .s)],[(.one,t5),(.one,.b)],λ x=>F6 k x.1 x.2⟩
def F6.d:Fd := { nt:=20,nv:=2,nm:=[0,1,2,3,6],res:=[4,5],cs:=λ k=>[(105,Av.e k),(118,Kt.e k)] }
def F6.s (k:Nat):CK 61 (F6.e k):=mS F6.d k [] Tryz.func61 ⟨Av.s k,Kt.s k,trivial⟩ trivial
def Hh.e (k:Nat):Ent:=⟨2,[(.val false t4),(.val false (.i .i64))],[(.one,(.i .i64)),(.one,(.i .i64)),(.one,.b)],λ x=>Hh k x.1 x.2⟩
def Fx.p:LF:=⟨⟨[],[(0,t4),(1,(.i .i64)),(7,(.i .i64)),(8,(.i .i64))]⟩,[(.ret,⟨[],[(4,(.i .i64)),(5,(.i .i64)),(6,.b)]⟩),((.exit 0),⟨[],[]⟩)],λ k x=>Fx k x.1 x.2.1 x.2.2.1 x.2.2.2⟩
def Hh.d:Fd := { nt:=57,nv:=2,nm:=[0,1,2,3,7,8,9],res:=[4,5,6],ls:=[(3,Fx.p)] }
def Fx.s:LL Tryz.f222 Hh.d 3 Fx.p:=mL [] (λ _=>trivial) trivial
def Hh.s (k:Nat):CK 222 (Hh.e k):=mS Hh.d k [3] Tryz.func222 trivial ⟨Fx.s,trivial⟩
def Cs.e (k:Nat):Ent:=⟨1,[(.ptr t20 t20)],[(.one,(.i .i64))],λ x=>Cs k x⟩
def Cs.d:Fd := { nt:=35,nv:=1,nm:=[0,1,3,4,5],res:=[2],cs:=λ k=>[(222,Hh.e k)] }
def Cs.s (k:Nat):CK 176 (Cs.e k):=mS Cs.d k [] Tryz.func176 ⟨Hh.s k,trivial⟩ trivial
def Dg.e (k:Nat):Ent:=⟨1,[(.ptr t20 t20)],[(.agg,t16),(.one,.b)],λ x=>Dg k x⟩
def Dg.d:Fd := { nt:=31,nv:=1,nm:=[0,1,4,5],res:=[3],cs:=λ k=>[(176,Cs.e k)] }
def Dg.s (k:Nat):CK 119 (Dg.e k):=mS Dg.d k [] Tryz.func119 ⟨Cs.s k,trivial⟩ trivial
def J0.e (k:Nat):Ent:=⟨2,[(.val false t4),(.val false (.i .i64))],[(.one,.s),(.one,(.i .i64)),(.one,.b)],λ x=>J0 k x.1 x.2⟩
def J0.d:Fd := { nt:=37,nv:=2,nm:=[0,1,2,3,7,8,9],res:=[4,5,6],cs:=λ k=>[(222,Hh.e k)] }
def J0.s (k:Nat):CK 177 (J0.e k):=mS J0.d k [] Tryz.func177 ⟨Hh.s k,trivial⟩ trivial
def Cp.e (k:Nat):Ent:=⟨1,[(.ptr t20 t20)],[(.one,.s)],λ x=>Cp k x⟩
def Cp.d:Fd := { nt:=35,nv:=1,nm:=[0,1,3,4,5],res:=[2],cs:=λ k=>[(177,J0.e k)] }
def Cp.s (k:Nat):CK 120 (Cp.e k):=mS Cp.d k [] Tryz.func120 ⟨J0.s k,trivial⟩ trivial
def Ee.e (k:Nat):Ent:=⟨3,[(.val false (.i .i64)),(.val false (.i .i64)),(.val false (.i .i64))],[(.one,.b)],λ x=>Ee x.1 x.2.1 x.2.2⟩
def Ee.d:Fd := { nt:=15,nv:=3,nm:=[0,1,2,3,4,5],res:=[6] }
def Ee.s (k:Nat):CK 42 (Ee.e k):=mS Ee.d k [] Tryz.func42 trivial trivial
def E3.e (k:Nat):Ent:=⟨1,[(.val true t16)],[(.one,.b)],λ x=>E3 x⟩
def E3.d:Fd := { nt:=16,nv:=1,nm:=[0,1],res:=[2],cs:=λ k=>[(42,Ee.e k)] }
def E3.s (k:Nat):CK 85 (E3.e k):=mS E3.d k [] Tryz.func85 ⟨Ee.s k,trivial⟩ trivial
def Ff.e (k:Nat):Ent:=⟨1,[(.val true t25)],[(.one,.b)],λ x=>Ff x⟩
def Ff.d:Fd := { nt:=23,nv:=1,nm:=[0,1],res:=[2],cs:=λ k=>[(85,E3.e k)] }
def Ff.s (k:Nat):CK 149 (Ff.e k):=mS Ff.d k [] Tryz.func149 ⟨E3.s k,trivial⟩ trivial
def F3.e (k:Nat):Ent:=⟨2,[(.val false t5),(.val false (.i .i64))],[(.one,t5)],λ x=>F3 k x.1 x.2⟩
def Gq.p:LF:=⟨⟨[],[(0,t5),(1,(.i .i64))]⟩,[((.exit 0),⟨[],[(0,t5),(1,(.i .i64))]⟩)],λ k x=>Gq k x.1 x.2⟩
def F3.d:Fd := { nt:=24,nv:=2,nm:=[0,1,2,3],res:=[4],ls:=[(2,Gq.p)] }
def Gq.s:LL Tryz.f223 F3.d 2 Gq.p:=mL [] (λ _=>trivial) trivial
def F3.s (k:Nat):CK 223 (F3.e k):=mS F3.d k [2] Tryz.func223 trivial ⟨Gq.s,trivial⟩
def J1.e (k:Nat):Ent:=⟨2,[(.val false t5),(.val false .s)],[(.one,t5)],λ x=>J1 k x.1 x.2⟩
def J1.d:Fd := { nt:=11,nv:=2,nm:=[0,1,2,3],res:=[4],cs:=λ k=>[(223,F3.e k)] }
def J1.s (k:Nat):CK 178 (J1.e k):=mS J1.d k [] Tryz.func178 ⟨F3.s k,trivial⟩ trivial
def Nu.e (k:Nat):Ent:=⟨1,[(.val false .b)],[(.one,(.i .i64))],λ x=>Nu x⟩
def Nu.d:Fd := { nt:=4,nv:=1,nm:=[0,1],res:=[2] }
def Nu.s (k:Nat):CK 224 (Nu.e k):=mS Nu.d k [] Tryz.func224 trivial trivial
def Ht.e (k:Nat):Ent:=⟨3,[(.val false t5),(.val true t16),(.val false .b)],[(.one,t5)],λ x=>Ht k x.1 x.2.1 x.2.2⟩
def Ht.d:Fd := { nt:=20,nv:=3,nm:=[0,1,2,3,4,5],res:=[6],cs:=λ k=>[(223,F3.e k),(224,Nu.e k)] }
def Ht.s (k:Nat):CK 179 (Ht.e k):=mS Ht.d k [] Tryz.func179 ⟨F3.s k,Nu.s k,trivial⟩ trivial
def M9.e (k:Nat):Ent:=⟨1,[(.val false t4)],[(.one,(.i .i64))],λ x=>M9 k x⟩
def Ji.p:LF:=⟨⟨[],[(3,(.i .u32)),(7,t4),(8,(.i .i64)),(9,(.i .i64)),(17,(.i .i64))]⟩,[((.exit 2),⟨[],[(3,(.i .u32)),(7,t4),(8,(.i .i64)),(9,(.i .i64))]⟩)],λ k x=>Ji k x.1 x.2.1 x.2.2.1 x.2.2.2.1 x.2.2.2.2⟩
def Jx.p:LF:=⟨⟨[],[(3,(.i .u32)),(7,t4),(8,(.i .i64)),(9,(.i .i64))]⟩,[((.exit 0),⟨[],[(3,(.i .u32))]⟩)],λ k x=>Jx k x.1 x.2.1 x.2.2.1 x.2.2.2⟩
def M9.d:Fd := { nt:=32,nv:=1,nm:=[0,1,3,4,5,6],res:=[2],ls:=[(7,Ji.p),(3,Jx.p)] }
def Ji.s:LL Tryz.f180 M9.d 7 Ji.p:=mL [] (λ _=>trivial) trivial
def Jx.s:LL Tryz.f180 M9.d 3 Jx.p:=mL [7] (λ _=>trivial) ⟨Ji.s,trivial⟩
def M9.s (k:Nat):CK 180 (M9.e k):=mS M9.d k [3] Tryz.func180 trivial ⟨Jx.s,trivial⟩
def Ey.e (k:Nat):Ent:=⟨1,[(.val true t25)],[(.one,t5)],λ x=>Ey k x⟩
def Ey.d:Fd := { nt:=33,nv:=1,nm:=[0,1,3,4],res:=[2],cs:=λ k=>[(149,Ff.e k),(178,J1.e k),(179,Ht.e k),(180,M9.e k)] }
def Ey.s (k:Nat):CK 121 (Ey.e k):=mS Ey.d k [] Tryz.func121 ⟨Ff.s k,J1.s k,Ht.s k,M9.s k,trivial⟩ trivial
def Gg.e (k:Nat):Ent:=⟨1,[(.val false t4)],[(.agg,t25),(.one,.b)],λ x=>Gg k x⟩
def Gg.d:Fd := { nt:=41,nv:=1,nm:=[0,1,4,5,6],res:=[3],cs:=λ k=>[(119,Dg.e k),(120,Cp.e k),(121,Ey.e k)] }
def Gg.s (k:Nat):CK 62 (Gg.e k):=mS Gg.d k [] Tryz.func62 ⟨Dg.s k,Cp.s k,Ey.s k,trivial⟩ trivial
def Jm.e (k:Nat):Ent:=⟨2,[(.val true t28),(.val false .s)],[(.agg,t25),(.one,(.i .i64))],λ x=>Jm k x.1 x.2⟩
def Jm.d:Fd := { nt:=28,nv:=2,nm:=[0,1,2,3,6,7,8,9],res:=[5],cs:=λ k=>[(61,F6.e k),(62,Gg.e k)] }
def Jm.s (k:Nat):CK 23 (Jm.e k):=mS Jm.d k [] Tryz.func23 ⟨F6.s k,Gg.s k,trivial⟩ trivial
def Kl.e (k:Nat):Ent:=⟨1,[(.val false t4)],[(.ptr,t21)],λ x=>Kl k x⟩
def Hu.p:LF:=⟨⟨[],[(0,t4),(3,(.i .i64)),(4,(.i .i64))]⟩,[((.exit 0),⟨[],[(0,t4),(3,(.i .i64))]⟩)],λ k x=>Hu k x.1 x.2.1 x.2.2⟩
def Kl.d:Fd := { nt:=32,nv:=1,nm:=[0,1,3,4],res:=[2],ls:=[(3,Hu.p)] }
def Hu.s:LL Tryz.f44 Kl.d 3 Hu.p:=mL [] (λ _=>trivial) trivial
def Kl.s (k:Nat):CK 44 (Kl.e k):=mS Kl.d k [3] Tryz.func44 trivial ⟨Hu.s,trivial⟩
def Jy.e (k:Nat):Ent:=⟨2,[(.val false t4),(.val false (.i .i64))],[(.one,(.i .i64))],λ x=>Jy x.1 x.2⟩
def Jy.d:Fd := { nt:=15,nv:=2,nm:=[0,1,2,3,5],res:=[4],rf:=true }
def Jy.s (k:Nat):CK 46 (Jy.e k):=mS Jy.d k [] Tryz.func46 trivial trivial
def Fg.e (k:Nat):Ent:=⟨1,[(.ptr t21 t21)],[(.one,(.i .i64))],λ x=>Fg x⟩
def Fg.d:Fd := { nt:=58,nv:=1,nm:=[0,1,3],res:=[2] }
def Fg.s (k:Nat):CK 130 (Fg.e k):=mS Fg.d k [] Tryz.func130 trivial trivial
def A3.e (k:Nat):Ent:=⟨2,[(.ptr t21 t21),(.val false (.i .i64))],[(.one,(.i .i64))],λ x=>A3 x.1 x.2⟩
def A3.d:Fd := { nt:=31,nv:=2,nm:=[0,1,2,3,5,6,7],res:=[4],cs:=λ k=>[(130,Fg.e k)] }
def A3.s (k:Nat):CK 75 (A3.e k):=mS A3.d k [] Tryz.func75 ⟨Fg.s k,trivial⟩ trivial
def Jf.e (k:Nat):Ent:=⟨2,[(.ptr t21 t21),(.val false t0)],[(.one,.s)],λ x=>Jf x.1 x.2⟩
def Jf.d:Fd := { nt:=12,nv:=2,nm:=[0,1,2,3],res:=[4],cs:=λ k=>[(75,A3.e k)] }
def Jf.s (k:Nat):CK 115 (Jf.e k):=mS Jf.d k [] Tryz.func115 ⟨A3.s k,trivial⟩ trivial
def B2.e (k:Nat):Ent:=⟨1,[(.ptr t21 t21)],[(.one,.s)],λ x=>B2 x⟩
def B2.d:Fd := { nt:=6,nv:=1,nm:=[0,1],res:=[2],cs:=λ k=>[(115,Jf.e k)] }
def B2.s (k:Nat):CK 58 (B2.e k):=mS B2.d k [] Tryz.func58 ⟨Jf.s k,trivial⟩ trivial
def Aa.e (k:Nat):Ent:=⟨2,[(.ptr t21 t21),(.val false t6)],[(.one,(.i .i64))],λ x=>Aa x.1 x.2⟩
def Aa.d:Fd := { nt:=12,nv:=2,nm:=[0,1,2,3],res:=[4],cs:=λ k=>[(75,A3.e k)] }
def Aa.s (k:Nat):CK 127 (Aa.e k):=mS Aa.d k [] Tryz.func127 ⟨A3.s k,trivial⟩ trivial
def Ga.e (k:Nat):Ent:=⟨1,[(.ptr t21 t21)],[(.one,t23)],λ x=>Ga k x⟩
def Gr.p:LF:=⟨⟨[(0,(.bp 0 0 0)),(1999,(.hd 3))],[(3,t23),(4,(.i .i64)),(5,(.i .i64)),(6,(.i .i64)),(1000,t21)]⟩,[((.exit 0),⟨[(1999,(.hd 3))],[(3,t23),(1000,t21)]⟩)],λ k x=>Gr k x.1 x.2.1 x.2.2.1 x.2.2.2.1 x.2.2.2.2⟩
def Ga.d:Fd := { nt:=35,nv:=1,nm:=[0,1,3,4,5,6],res:=[2],cs:=λ k=>[(75,A3.e k),(127,Aa.e k)],ls:=[(5,Gr.p)],rf:=true }
def Ga.a (k:Nat):AC (Ga.d.cs k):=⟨A3.s k,Aa.s k,trivial⟩
def Gr.s:LL Tryz.f158 Ga.d 5 Gr.p:=mL [] Ga.a trivial
def Ga.s (k:Nat):CK 158 (Ga.e k):=mS Ga.d k [5] Tryz.func158 (Ga.a k) ⟨Gr.s,trivial⟩
def A6.e (k:Nat):Ent:=⟨3,[(.val false (.i .i64)),(.val false (.i .i64)),(.val false (.i .i64))],[(.one,.b)],λ x=>A6 x.1 x.2.1 x.2.2⟩
def A6.d:Fd := { nt:=15,nv:=3,nm:=[0,1,2,3,4,5],res:=[6] }
def A6.s (k:Nat):CK 72 (A6.e k):=mS A6.d k [] Tryz.func72 trivial trivial
def Bx.e (k:Nat):Ent:=⟨1,[(.val false t22)],[(.one,.b)],λ x=>Bx k x⟩
def Fy.p:LF:=⟨⟨[],[(0,t22),(3,(.i .i64))]⟩,[(.ret,⟨[],[(2,.b)]⟩),((.exit 0),⟨[],[(0,t22)]⟩)],λ k x=>Fy k x.1 x.2⟩
def Bx.d:Fd := { nt:=49,nv:=1,nm:=[0,1,3,4],res:=[2],cs:=λ k=>[(72,A6.e k)],ls:=[(2,Fy.p)],rf:=true }
def Bx.a (k:Nat):AC (Bx.d.cs k):=⟨A6.s k,trivial⟩
def Fy.s:LL Tryz.f122 Bx.d 2 Fy.p:=mL [] Bx.a trivial
def Bx.s (k:Nat):CK 122 (Bx.e k):=mS Bx.d k [2] Tryz.func122 (Bx.a k) ⟨Fy.s,trivial⟩
def Cj.e (k:Nat):Ent:=⟨2,[(.val false t6),(.val false (.i .i64))],[(.one,.b)],λ x=>Cj k x.1 x.2⟩
def Hv.p:LF:=⟨⟨[],[(0,t6),(1,(.i .i64)),(5,(.i .i64))]⟩,[(.ret,⟨[],[(4,.b)]⟩),((.exit 0),⟨[],[]⟩)],λ k x=>Hv k x.1 x.2.1 x.2.2⟩
def Cj.d:Fd := { nt:=18,nv:=2,nm:=[0,1,2,3,5],res:=[4],ls:=[(2,Hv.p)],rf:=true }
def Hv.s:LL Tryz.f181 Cj.d 2 Hv.p:=mL [] (λ _=>trivial) trivial
def Cj.s (k:Nat):CK 181 (Cj.e k):=mS Cj.d k [2] Tryz.func181 trivial ⟨Hv.s,trivial⟩
def E7.e (k:Nat):Ent:=⟨2,[(.val false t22),(.val false (.i .i64))],[(.agg,t16),(.one,.b)],λ x=>E7 k x.1 x.2⟩
def Hw.p:LF:=⟨⟨[(4,(.bp 4 0 0)),(5999,(.hd 3))],[(0,t22),(1,(.i .i64)),(6,(.i .i64)),(5000,t16)]⟩,[(.ret,⟨[(4,(.bp 4 0 0)),(5999,(.hd 3))],[(5,.b),(5000,t16)]⟩),((.exit 0),⟨[(4,(.bp 4 0 0)),(5999,(.hd 3))],[(5000,t16)]⟩)],λ k x=>Hw k x.1 x.2.1 x.2.2.1 x.2.2.2⟩
def E7.d:Fd := { nt:=25,nv:=2,nm:=[0,1,2,3,6],res:=[5],ls:=[(2,Hw.p)],rf:=true }
def Hw.s:LL Tryz.f124 E7.d 2 Hw.p:=mL [] (λ _=>trivial) trivial
def E7.s (k:Nat):CK 124 (E7.e k):=mS E7.d k [2] Tryz.func124 trivial ⟨Hw.s,trivial⟩
def Ct.e (k:Nat):Ent:=⟨2,[(.val false t6),(.val false t22)],[(.one,t7)],λ x=>Ct k x.1 x.2⟩
def Dh.p:LF:=⟨⟨[],[(0,t6),(1,t22),(5,t7),(6,(.i .i64))]⟩,[((.exit 0),⟨[],[(5,t7)]⟩)],λ k x=>Dh k x.1 x.2.1 x.2.2.1 x.2.2.2⟩
def Ct.d:Fd := { nt:=39,nv:=2,nm:=[0,1,2,3,5,6,7,8],res:=[4],cs:=λ k=>[(124,E7.e k),(181,Cj.e k)],ls:=[(3,Dh.p)],rf:=true }
def Ct.a (k:Nat):AC (Ct.d.cs k):=⟨E7.s k,Cj.s k,trivial⟩
def Dh.s:LL Tryz.f254 Ct.d 3 Dh.p:=mL [] Ct.a trivial
def Ct.s (k:Nat):CK 254 (Ct.e k):=mS Ct.d k [3] Tryz.func254 (Ct.a k) ⟨Dh.s,trivial⟩
def Cn.e (k:Nat):Ent:=⟨2,[(.val true t17),(.val false (.i .i64))],[(.one,(.i .i64))],λ x=>Cn k x.1 x.2⟩
def Fz.p:LF:=⟨⟨[(2,(.bp 2 0 0)),(3999,(.hd 2))],[(1,(.i .i64)),(5,(.i .i64)),(6,(.i .i64)),(7,(.i .i64)),(3000,t17)]⟩,[((.exit 2),⟨[(2,(.bp 2 0 0)),(3999,(.hd 2))],[(1,(.i .i64)),(5,(.i .i64)),(6,(.i .i64)),(3000,t17)]⟩)],λ k x=>Fz k x.1 x.2.1 x.2.2.1 x.2.2.2.1 x.2.2.2.2⟩
def Gt.p:LF:=⟨⟨[(2,(.bp 2 0 0)),(3999,(.hd 2))],[(1,(.i .i64)),(5,(.i .i64)),(6,(.i .i64)),(3000,t17)]⟩,[((.exit 0),⟨[],[(5,(.i .i64))]⟩)],λ k x=>Gt k x.1 x.2.1 x.2.2.1 x.2.2.2⟩
def Cn.d:Fd := { nt:=40,nv:=2,nm:=[0,1,2,3,5,6,7],res:=[4],ls:=[(6,Fz.p),(3,Gt.p)],rf:=true }
def Fz.s:LL Tryz.f255 Cn.d 6 Fz.p:=mL [] (λ _=>trivial) trivial
def Gt.s:LL Tryz.f255 Cn.d 3 Gt.p:=mL [6] (λ _=>trivial) ⟨Fz.s,trivial⟩
def Cn.s (k:Nat):CK 255 (Cn.e k):=mS Cn.d k [3] Tryz.func255 trivial ⟨Gt.s,trivial⟩
def Hm.e (k:Nat):Ent:=⟨3,[(.val true t17),(.val true t6),(.val false t22)],[(.one,(.i .i64))],λ x=>Hm k x.1 x.2.1 x.2.2⟩
def Bv.p:LF:=⟨⟨[(3,(.bp 3 0 0)),(4,(.bp 4 0 0)),(4999,(.hd 2)),(5999,(.hd 1))],[(2,t22),(7,t7),(8,(.i .i64)),(9,.b),(10,(.i .i64)),(4000,t17),(5000,t6)]⟩,[((.exit 0),⟨[],[(2,t22),(8,(.i .i64))]⟩)],λ k x=>Bv k x.1 x.2.1 x.2.2.1 x.2.2.2.1 x.2.2.2.2.1 x.2.2.2.2.2.1 x.2.2.2.2.2.2⟩
def Hm.d:Fd := { nt:=88,nv:=3,nm:=[0,1,2,3,4,5,7,8,9,10,11,12],res:=[6],cs:=λ k=>[(122,Bx.e k),(181,Cj.e k),(254,Ct.e k),(255,Cn.e k)],ls:=[(5,Bv.p)],rf:=true }
def Hm.a (k:Nat):AC (Hm.d.cs k):=⟨Bx.s k,Cj.s k,Ct.s k,Cn.s k,trivial⟩
def Bv.s:LL Tryz.f234 Hm.d 5 Bv.p:=mL [] Hm.a trivial
def Hm.s (k:Nat):CK 234 (Hm.e k):=mS Hm.d k [5] Tryz.func234 (Hm.a k) ⟨Bv.s,trivial⟩
def Gn.e (k:Nat):Ent:=⟨3,[(.val false t22),(.val false (.i .i64)),(.val false (.i .i64))],[(.agg,t18),(.one,.b)],λ x=>Gn k x.1 x.2.1 x.2.2⟩
def Hx.p:LF:=⟨⟨[(6,(.bp 6 0 0)),(8,(.bp 8 0 0)),(7999,(.hd 2)),(9999,(.hd 2))],[(0,t22),(1,(.i .i64)),(2,(.i .i64)),(9,(.i .i64)),(10,(.i .i64)),(7000,t19),(9000,t18)]⟩,[((.exit 2),⟨[(6,(.bp 6 0 0)),(8,(.bp 8 0 0)),(7999,(.hd 2)),(9999,(.hd 2))],[(0,t22),(1,(.i .i64)),(2,(.i .i64)),(9,(.i .i64)),(7000,t19),(9000,t18)]⟩)],λ k x=>Hx k x.1 x.2.1 x.2.2.1 x.2.2.2.1 x.2.2.2.2.1 x.2.2.2.2.2.1 x.2.2.2.2.2.2⟩
def Hy.p:LF:=⟨⟨[(6,(.bp 6 0 0)),(8,(.bp 8 0 0)),(7999,(.hd 2)),(9999,(.hd 2))],[(0,t22),(1,(.i .i64)),(2,(.i .i64)),(9,(.i .i64)),(7000,t19),(9000,t18)]⟩,[((.exit 0),⟨[(6,(.bp 6 0 0)),(8,(.bp 8 0 0)),(7999,(.hd 2)),(9999,(.hd 2))],[(7000,t19),(9000,t18)]⟩)],λ k x=>Hy k x.1 x.2.1 x.2.2.1 x.2.2.2.1 x.2.2.2.2.1 x.2.2.2.2.2⟩
def Gn.d:Fd := { nt:=73,nv:=3,nm:=[0,1,2,3,4,5,8,9,10,11],res:=[7],cs:=λ k=>[(72,A6.e k),(122,Bx.e k),(234,Hm.e k)],ls:=[(9,Hx.p),(5,Hy.p)],hint:=[(42,t7),(43,t7)],mv:=[72],gh:=[(12,[.od 54 3001]),(1000010,[.cl 9001])],rf:=true }
def Gn.a (k:Nat):AC (Gn.d.cs k):=⟨A6.s k,Bx.s k,Hm.s k,trivial⟩
def Hx.s:LL Tryz.f203 Gn.d 9 Hx.p:=mL [] Gn.a trivial
def Hy.s:LL Tryz.f203 Gn.d 5 Hy.p:=mL [9] Gn.a ⟨Hx.s,trivial⟩
def Gn.s (k:Nat):CK 203 (Gn.e k):=mS Gn.d k [5] Tryz.func203 (Gn.a k) ⟨Hy.s,trivial⟩
def Gi.e (k:Nat):Ent:=⟨1,[(.val false (.i .i64))],[(.agg,t41)],λ x=>Gi x⟩
def Gi.d:Fd := { nt:=9,nv:=1,nm:=[0,1],res:=[],cs:=λ k=>[(72,A6.e k)] }
def Gi.s (k:Nat):CK 204 (Gi.e k):=mS Gi.d k [] Tryz.func204 ⟨A6.s k,trivial⟩ trivial
def Cg.e (k:Nat):Ent:=⟨3,[(.val false t22),(.val false (.i .i64)),(.val false (.i .i64))],[(.agg,t49)],λ x=>Cg k x.1 x.2.1 x.2.2⟩
def Ef.p:LF:=⟨⟨[(6,(.bp 6 0 0)),(9,(.bp 9 0 0)),(7999,(.hd 9)),(10999,(.hd 9))],[(0,t22),(10,(.i .i64)),(7000,t50),(10000,t49)]⟩,[((.exit 0),⟨[(6,(.bp 6 0 0)),(9,(.bp 9 0 0)),(7999,(.hd 9)),(10999,(.hd 9))],[(7000,t50),(10000,t49)]⟩)],λ k x=>Ef k x.1 x.2.1 x.2.2.1 x.2.2.2⟩
def Cg.d:Fd := { nt:=44,nv:=3,nm:=[0,1,2,3,4,5,7,8,9,10],res:=[],cs:=λ k=>[(203,Gn.e k),(204,Gi.e k)],ls:=[(6,Ef.p)],mv:=[43],rf:=true }
def Cg.a (k:Nat):AC (Cg.d.cs k):=⟨Gn.s k,Gi.s k,trivial⟩
def Ef.s:LL Tryz.f159 Cg.d 6 Ef.p:=mL [] Cg.a trivial
def Cg.s (k:Nat):CK 159 (Cg.e k):=mS Cg.d k [6] Tryz.func159 (Cg.a k) ⟨Ef.s,trivial⟩
def Jz.e (k:Nat):Ent:=⟨1,[(.ptr t21 t21)],[(.agg,t49)],λ x=>Jz k x⟩
def Jz.d:Fd := { nt:=22,nv:=1,nm:=[0,1,3,4],res:=[],cs:=λ k=>[(127,Aa.e k),(158,Ga.e k),(159,Cg.e k)],rf:=true }
def Jz.s (k:Nat):CK 101 (Jz.e k):=mS Jz.d k [] Tryz.func101 ⟨Aa.s k,Ga.s k,Cg.s k,trivial⟩ trivial
def Ap.e (k:Nat):Ent:=⟨1,[(.val false .s)],[(.one,.b)],λ x=>Ap k x⟩
def Cz.p:LF:=⟨⟨[],[(0,.s),(3,(.i .i64))]⟩,[(.ret,⟨[],[(2,.b)]⟩),((.exit 0),⟨[],[(0,.s)]⟩)],λ k x=>Cz k x.1 x.2⟩
def Ap.d:Fd := { nt:=38,nv:=1,nm:=[0,1,3,4],res:=[2],cs:=λ k=>[(72,A6.e k)],ls:=[(2,Cz.p)] }
def Ap.a (k:Nat):AC (Ap.d.cs k):=⟨A6.s k,trivial⟩
def Cz.s:LL Tryz.f67 Ap.d 2 Cz.p:=mL [] Ap.a trivial
def Ap.s (k:Nat):CK 67 (Ap.e k):=mS Ap.d k [2] Tryz.func67 (Ap.a k) ⟨Cz.s,trivial⟩
def C6.e (k:Nat):Ent:=⟨1,[(.val true t16)],[(.one,.b)],λ x=>C6 x⟩
def C6.d:Fd := { nt:=16,nv:=1,nm:=[0,1],res:=[2],cs:=λ k=>[(72,A6.e k)] }
def C6.s (k:Nat):CK 66 (C6.e k):=mS C6.d k [] Tryz.func66 ⟨A6.s k,trivial⟩ trivial
def Gu.e (k:Nat):Ent:=⟨3,[(.val true t16),(.val false (.i .i64)),(.val false (.i .i64))],[(.agg,t16)],λ x=>Gu x.1 x.2.1 x.2.2⟩
def Gu.d:Fd := { nt:=27,nv:=3,nm:=[0,1,2,3,4,5,7],res:=[],cs:=λ k=>[(66,C6.e k)],rf:=true }
def Gu.s (k:Nat):CK 205 (Gu.e k):=mS Gu.d k [] Tryz.func205 ⟨C6.s k,trivial⟩ trivial
def Br.e (k:Nat):Ent:=⟨1,[(.val true t25)],[(.agg,t26)],λ x=>Br x⟩
def Br.d:Fd := { nt:=9,nv:=1,nm:=[0,1],res:=[],mv:=[8],rf:=true }
def Br.s (k:Nat):CK 138 (Br.e k):=mS Br.d k [] Tryz.func138 trivial trivial
def C3.e (k:Nat):Ent:=⟨2,[(.val false t6),(.val false (.i .i64))],[(.one,(.i .i64))],λ x=>C3 x.1 x.2⟩
def C3.d:Fd := { nt:=21,nv:=2,nm:=[0,1,2,3],res:=[4],cs:=λ k=>[(72,A6.e k)],rf:=true }
def C3.s (k:Nat):CK 141 (C3.e k):=mS C3.d k [] Tryz.func141 ⟨A6.s k,trivial⟩ trivial
def Bd.e (k:Nat):Ent:=⟨2,[(.val true t48),(.val false t6)],[(.one,t7)],λ x=>Bd k x.1 x.2⟩
def C9.p:LF:=⟨⟨[(2,(.bp 2 0 0)),(3999,(.hd 9))],[(1,t6),(5,t7),(6,(.i .i64)),(7,(.i .i64)),(3000,t48)]⟩,[((.exit 2),⟨[(2,(.bp 2 0 0)),(3999,(.hd 9))],[(1,t6),(5,t7),(6,(.i .i64)),(3000,t48)]⟩)],λ k x=>C9 k x.1 x.2.1 x.2.2.1 x.2.2.2.1 x.2.2.2.2⟩
def Di.p:LF:=⟨⟨[(2,(.bp 2 0 0)),(3999,(.hd 9))],[(1,t6),(5,t7),(6,(.i .i64)),(3000,t48)]⟩,[((.exit 0),⟨[],[(5,t7)]⟩)],λ k x=>Di k x.1 x.2.1 x.2.2.1 x.2.2.2⟩
def Bd.d:Fd := { nt:=38,nv:=2,nm:=[0,1,2,3,5,6,7],res:=[4],ls:=[(6,C9.p),(3,Di.p)],rf:=true }
def C9.s:LL Tryz.f139 Bd.d 6 C9.p:=mL [] (λ _=>trivial) trivial
def Di.s:LL Tryz.f139 Bd.d 3 Di.p:=mL [6] (λ _=>trivial) ⟨C9.s,trivial⟩
def Bd.s (k:Nat):CK 139 (Bd.e k):=mS Bd.d k [3] Tryz.func139 trivial ⟨Di.s,trivial⟩
def Lr.e (k:Nat):Ent:=⟨1,[(.val false .s)],[(.one,(.i .i64))],λ x=>Lr k x⟩
def J2.p:LF:=⟨⟨[],[(0,.s),(3,(.i .i64)),(4,(.i .i64))]⟩,[((.exit 0),⟨[],[(3,(.i .i64))]⟩)],λ k x=>J2 k x.1 x.2.1 x.2.2⟩
def Lr.d:Fd := { nt:=20,nv:=1,nm:=[0,1,3,4],res:=[2],ls:=[(3,J2.p)],rf:=true }
def J2.s:LL Tryz.f232 Lr.d 3 J2.p:=mL [] (λ _=>trivial) trivial
def Lr.s (k:Nat):CK 232 (Lr.e k):=mS Lr.d k [3] Tryz.func232 trivial ⟨J2.s,trivial⟩
def Ku.e (k:Nat):Ent:=⟨2,[(.val false .s),(.val false (.i .i64))],[(.one,(.i .i64))],λ x=>Ku k x.1 x.2⟩
def Ku.d:Fd := { nt:=11,nv:=2,nm:=[0,1,2,3],res:=[4],cs:=λ k=>[(232,Lr.e k)],rf:=true }
def Ku.s (k:Nat):CK 193 (Ku.e k):=mS Ku.d k [] Tryz.func193 ⟨Lr.s k,trivial⟩ trivial
def Be.e (k:Nat):Ent:=⟨2,[(.val true t17),(.val false .s)],[(.one,t7)],λ x=>Be k x.1 x.2⟩
def Be.d:Fd := { nt:=22,nv:=2,nm:=[0,1,2,3],res:=[4],cs:=λ k=>[(193,Ku.e k)],rf:=true }
def Be.s (k:Nat):CK 140 (Be.e k):=mS Be.d k [] Tryz.func140 ⟨Ku.s k,trivial⟩ trivial
def Ch.e (k:Nat):Ent:=⟨3,[(.val true t17),(.val false t22),(.val false .s)],[(.one,t7)],λ x=>Ch k x.1 x.2.1 x.2.2⟩
def Cc.p:LF:=⟨⟨[],[(1,t22),(7,t7),(8,t7),(9,t7),(10,(.i .i64)),(11,(.i .i64))]⟩,[((.exit 2),⟨[],[(1,t22),(7,t7),(8,t7),(9,t7),(10,(.i .i64))]⟩)],λ k x=>Cc k x.1 x.2.1 x.2.2.1 x.2.2.2.1 x.2.2.2.2.1 x.2.2.2.2.2⟩
def Eg.p:LF:=⟨⟨[],[(1,t22),(7,t7),(8,t7),(9,t7),(10,(.i .i64))]⟩,[((.exit 0),⟨[],[(9,t7)]⟩)],λ k x=>Eg k x.1 x.2.1 x.2.2.1 x.2.2.2.1 x.2.2.2.2⟩
def Ch.d:Fd := { nt:=58,nv:=3,nm:=[0,1,2,3,4,5,7,8,9,10,11],res:=[6],cs:=λ k=>[(140,Be.e k),(181,Cj.e k),(254,Ct.e k)],ls:=[(8,Cc.p),(5,Eg.p)],rf:=true }
def Ch.a (k:Nat):AC (Ch.d.cs k):=⟨Be.s k,Cj.s k,Ct.s k,trivial⟩
def Cc.s:LL Tryz.f256 Ch.d 8 Cc.p:=mL [] Ch.a trivial
def Eg.s:LL Tryz.f256 Ch.d 5 Eg.p:=mL [8] Ch.a ⟨Cc.s,trivial⟩
def Ch.s (k:Nat):CK 256 (Ch.e k):=mS Ch.d k [5] Tryz.func256 (Ch.a k) ⟨Eg.s,trivial⟩
def Eh.e (k:Nat):Ent:=⟨2,[(.val true t48),(.val false .s)],[(.one,t7)],λ x=>Eh k x.1 x.2⟩
def Eh.d:Fd := { nt:=20,nv:=2,nm:=[0,1,2,3],res:=[4],cs:=λ k=>[(139,Bd.e k),(140,Be.e k),(256,Ch.e k)],rf:=true }
def Eh.s (k:Nat):CK 235 (Eh.e k):=mS Eh.d k [] Tryz.func235 ⟨Bd.s k,Be.s k,Ch.s k,trivial⟩ trivial
def D6.e (k:Nat):Ent:=⟨2,[(.val false t13),(.val false .s)],[(.one,(.i .i64))],λ x=>D6 k x.1 x.2⟩
def J3.p:LF:=⟨⟨[],[(0,t13),(1,.s),(5,(.i .i64))]⟩,[(.ret,⟨[],[(4,(.i .i64))]⟩),((.exit 0),⟨[],[]⟩)],λ k x=>J3 k x.1 x.2.1 x.2.2⟩
def D6.d:Fd := { nt:=20,nv:=2,nm:=[0,1,2,3,5],res:=[4],ls:=[(2,J3.p)] }
def J3.s:LL Tryz.f129 D6.d 2 J3.p:=mL [] (λ _=>trivial) trivial
def D6.s (k:Nat):CK 129 (D6.e k):=mS D6.d k [2] Tryz.func129 trivial ⟨J3.s,trivial⟩
def F7.e (k:Nat):Ent:=⟨2,[(.val true t28),(.val false .s)],[(.one,t5),(.one,.b)],λ x=>F7 k x.1 x.2⟩
def F7.d:Fd := { nt:=22,nv:=2,nm:=[0,1,2,3,6],res:=[4,5],cs:=λ k=>[(129,D6.e k)] }
def F7.s (k:Nat):CK 116 (F7.e k):=mS F7.d k [] Tryz.func116 ⟨D6.s k,trivial⟩ trivial
def Bz.e (k:Nat):Ent:=⟨1,[(.val true t25)],[(.one,.b)],λ x=>Bz x⟩
def Bz.d:Fd := { nt:=23,nv:=1,nm:=[0,1],res:=[2],cs:=λ k=>[(66,C6.e k)] }
def Bz.s (k:Nat):CK 68 (Bz.e k):=mS Bz.d k [] Tryz.func68 ⟨C6.s k,trivial⟩ trivial
def Dj.e (k:Nat):Ent:=⟨2,[(.val false t4),(.val false (.i .i64))],[(.one,(.i .i64)),(.one,(.i .i64)),(.one,.b)],λ x=>Dj k x.1 x.2⟩
def Ev.p:LF:=⟨⟨[],[(0,t4),(1,(.i .i64)),(7,(.i .i64)),(8,(.i .i64))]⟩,[(.ret,⟨[],[(4,(.i .i64)),(5,(.i .i64)),(6,.b)]⟩),((.exit 0),⟨[],[]⟩)],λ k x=>Ev k x.1 x.2.1 x.2.2.1 x.2.2.2⟩
def Dj.d:Fd := { nt:=64,nv:=2,nm:=[0,1,2,3,7,8,9],res:=[4,5,6],ls:=[(3,Ev.p)] }
def Ev.s:LL Tryz.f173 Dj.d 3 Ev.p:=mL [] (λ _=>trivial) trivial
def Dj.s (k:Nat):CK 173 (Dj.e k):=mS Dj.d k [3] Tryz.func173 trivial ⟨Ev.s,trivial⟩
def Fh.e (k:Nat):Ent:=⟨2,[(.val false t4),(.val false (.i .i64))],[(.agg,t16),(.one,(.i .i64)),(.one,.b)],λ x=>Fh k x.1 x.2⟩
def Fh.d:Fd := { nt:=49,nv:=2,nm:=[0,1,2,3,7,8,9,10,11,12,13,14,15],res:=[5,6],cs:=λ k=>[(173,Dj.e k)] }
def Fh.s (k:Nat):CK 172 (Fh.e k):=mS Fh.d k [] Tryz.func172 ⟨Dj.s k,trivial⟩ trivial
def J4.e (k:Nat):Ent:=⟨2,[(.val false t4),(.val false (.i .i64))],[(.one,.s),(.one,(.i .i64)),(.one,.b)],λ x=>J4 k x.1 x.2⟩
def J4.d:Fd := { nt:=37,nv:=2,nm:=[0,1,2,3,7,8,9],res:=[4,5,6],cs:=λ k=>[(173,Dj.e k)] }
def J4.s (k:Nat):CK 174 (J4.e k):=mS J4.d k [] Tryz.func174 ⟨Dj.s k,trivial⟩ trivial
def Dk.e (k:Nat):Ent:=⟨2,[(.val false t4),(.val false (.i .i64))],[(.one,t5)],λ x=>Dk k x.1 x.2⟩
def D0.p:LF:=⟨⟨[],[(1,(.i .i64)),(5,t5)]⟩,[((.exit 0),⟨[],[(1,(.i .i64)),(5,t5)]⟩)],λ k x=>D0 k x.1 x.2⟩
def Dk.d:Fd := { nt:=29,nv:=2,nm:=[0,1,2,3,5],res:=[4],ls:=[(6,D0.p)] }
def D0.s:LL Tryz.f218 Dk.d 6 D0.p:=mL [] (λ _=>trivial) trivial
def Dk.s (k:Nat):CK 218 (Dk.e k):=mS Dk.d k [6] Tryz.func218 trivial ⟨D0.s,trivial⟩
def J5.e (k:Nat):Ent:=⟨2,[(.val false t4),(.val false .s)],[(.one,t5)],λ x=>J5 k x.1 x.2⟩
def J5.d:Fd := { nt:=11,nv:=2,nm:=[0,1,2,3],res:=[4],cs:=λ k=>[(218,Dk.e k)] }
def J5.s (k:Nat):CK 217 (J5.e k):=mS J5.d k [] Tryz.func217 ⟨Dk.s k,trivial⟩ trivial
def J6.e (k:Nat):Ent:=⟨2,[(.val false t4),(.val true t16)],[(.one,t5)],λ x=>J6 k x.1 x.2⟩
def J6.d:Fd := { nt:=15,nv:=2,nm:=[0,1,2,3],res:=[4],cs:=λ k=>[(218,Dk.e k)] }
def J6.s (k:Nat):CK 219 (J6.e k):=mS J6.d k [] Tryz.func219 ⟨Dk.s k,trivial⟩ trivial
def Kw.e (k:Nat):Ent:=⟨1,[(.val false .b)],[(.one,(.i .i64))],λ x=>Kw x⟩
def Kw.d:Fd := { nt:=4,nv:=1,nm:=[0,1],res:=[2] }
def Kw.s (k:Nat):CK 220 (Kw.e k):=mS Kw.d k [] Tryz.func220 trivial trivial
def Ll.e (k:Nat):Ent:=⟨1,[(.val false t4)],[(.one,(.i .i64))],λ x=>Ll k x⟩
def Hi.p:LF:=⟨⟨[],[(0,t4),(3,(.i .i64)),(4,(.i .i64)),(5,(.i .i64))]⟩,[((.exit 2),⟨[],[(0,t4),(3,(.i .i64)),(4,(.i .i64))]⟩)],λ k x=>Hi k x.1 x.2.1 x.2.2.1 x.2.2.2⟩
def Hz.p:LF:=⟨⟨[],[(0,t4),(3,(.i .i64)),(4,(.i .i64))]⟩,[((.exit 0),⟨[],[(3,(.i .i64))]⟩)],λ k x=>Hz k x.1 x.2.1 x.2.2⟩
def Ll.d:Fd := { nt:=34,nv:=1,nm:=[0,1,3,4,5,6],res:=[2],ls:=[(7,Hi.p),(3,Hz.p)] }
def Hi.s:LL Tryz.f221 Ll.d 7 Hi.p:=mL [] (λ _=>trivial) trivial
def Hz.s:LL Tryz.f221 Ll.d 3 Hz.p:=mL [7] (λ _=>trivial) ⟨Hi.s,trivial⟩
def Ll.s (k:Nat):CK 221 (Ll.e k):=mS Ll.d k [3] Tryz.func221 trivial ⟨Hz.s,trivial⟩
def Bb.e (k:Nat):Ent:=⟨1,[(.val true t25)],[(.one,t5)],λ x=>Bb k x⟩
def Bb.d:Fd := { nt:=37,nv:=1,nm:=[0,1,3,4],res:=[2],cs:=λ k=>[(68,Bz.e k),(217,J5.e k),(218,Dk.e k),(219,J6.e k),(220,Kw.e k),(221,Ll.e k)] }
def Bb.s (k:Nat):CK 175 (Bb.e k):=mS Bb.d k [] Tryz.func175 ⟨Bz.s k,J5.s k,Dk.s k,J6.s k,Kw.s k,Ll.s k,trivial⟩ trivial
def Gj.e (k:Nat):Ent:=⟨1,[(.val false t4)],[(.agg,t26),(.one,.b)],λ x=>Gj k x⟩
def Gj.d:Fd := { nt:=76,nv:=1,nm:=[0,1,4,5,6,7,8,9,10,11,12,13],res:=[3],cs:=λ k=>[(68,Bz.e k),(172,Fh.e k),(173,Dj.e k),(174,J4.e k),(175,Bb.e k)],mv:=[75] }
def Gj.s (k:Nat):CK 117 (Gj.e k):=mS Gj.d k [] Tryz.func117 ⟨Bz.s k,Fh.s k,Dj.s k,J4.s k,Bb.s k,trivial⟩ trivial
def Hn.e (k:Nat):Ent:=⟨2,[(.val true t28),(.val false .s)],[(.agg,t26),(.one,(.i .i64))],λ x=>Hn k x.1 x.2⟩
def Hn.d:Fd := { nt:=28,nv:=2,nm:=[0,1,2,3,6,7,8,9],res:=[5],cs:=λ k=>[(116,F7.e k),(117,Gj.e k)],mv:=[27] }
def Hn.s (k:Nat):CK 59 (Hn.e k):=mS Hn.d k [] Tryz.func59 ⟨F7.s k,Gj.s k,trivial⟩ trivial
def C7.e (k:Nat):Ent:=⟨2,[(.val true t16),(.val true t16)],[(.one,.b)],λ x=>C7 x.1 x.2⟩
def C7.d:Fd := { nt:=32,nv:=2,nm:=[0,1,2,3],res:=[4] }
def C7.s (k:Nat):CK 69 (C7.e k):=mS C7.d k [] Tryz.func69 trivial trivial
def L8.e (k:Nat):Ent:=⟨2,[(.val true t25),(.val true t25)],[(.one,.b)],λ x=>L8 x.1 x.2⟩
def L8.d:Fd := { nt:=10,nv:=2,nm:=[0,1,2,3],res:=[4],cs:=λ k=>[(69,C7.e k)] }
def L8.s (k:Nat):CK 60 (L8.e k):=mS L8.d k [] Tryz.func60 ⟨C7.s k,trivial⟩ trivial
def Bg.e (k:Nat):Ent:=⟨1,[(.val false t13)],[(.one,t14)],λ x=>Bg k x⟩
def Cd.p:LF:=⟨⟨[],[(0,t13),(3,t14),(4,(.i .i64))]⟩,[((.exit 0),⟨[],[(3,t14)]⟩)],λ k x=>Cd k x.1 x.2.1 x.2.2⟩
def Bg.d:Fd := { nt:=29,nv:=1,nm:=[0,1,3,4],res:=[2],ls:=[(3,Cd.p)] }
def Cd.s:LL Tryz.f231 Bg.d 3 Cd.p:=mL [] (λ _=>trivial) trivial
def Bg.s (k:Nat):CK 231 (Bg.e k):=mS Bg.d k [3] Tryz.func231 trivial ⟨Cd.s,trivial⟩
def G7.e (k:Nat):Ent:=⟨1,[(.val false t13)],[(.one,t15)],λ x=>G7 k x⟩
def Id.p:LF:=⟨⟨[],[(0,t13),(3,t15),(4,(.i .i64))]⟩,[((.exit 0),⟨[],[(3,t15)]⟩)],λ k x=>Id k x.1 x.2.1 x.2.2⟩
def G7.d:Fd := { nt:=29,nv:=1,nm:=[0,1,3,4],res:=[2],ls:=[(3,Id.p)],hint:=[(5,t12),(26,t12),(27,t12)] }
def Id.s:LL Tryz.f231 G7.d 3 Id.p:=mL [] (λ _=>trivial) trivial
def G7.s (k:Nat):CK 231 (G7.e k):=mS G7.d k [3] Tryz.func231 trivial ⟨Id.s,trivial⟩
def A7.e (k:Nat):Ent:=⟨1,[(.val true t28)],[(.agg,t29)],λ x=>A7 k x⟩
def A7.d:Fd := { nt:=10,nv:=1,nm:=[0,1],res:=[],cs:=λ k=>[(231,Bg.e k)] }
def A7.s (k:Nat):CK 192 (A7.e k):=mS A7.d k [] Tryz.func192 ⟨Bg.s k,trivial⟩ trivial
def Jp.e (k:Nat):Ent:=⟨1,[(.val true t28)],[(.agg,t30)],λ x=>Jp k x⟩
def Jp.d:Fd := { nt:=10,nv:=1,nm:=[0,1],res:=[],cs:=λ k=>[(231,G7.e k)] }
def Jp.s (k:Nat):CK 192 (Jp.e k):=mS Jp.d k [] Tryz.func192 ⟨G7.s k,trivial⟩ trivial
def Iq.e (k:Nat):Ent:=⟨2,[(.val false t13),(.val false .s)],[(.one,t14)],λ x=>Iq k x.1 x.2⟩
def Hb.p:LF:=⟨⟨[],[(0,t13),(1,.s),(5,t14),(6,(.i .i64))]⟩,[((.exit 0),⟨[],[(5,t14)]⟩)],λ k x=>Hb k x.1 x.2.1 x.2.2.1 x.2.2.2⟩
def Iq.d:Fd := { nt:=29,nv:=2,nm:=[0,1,2,3,5,6],res:=[4],ls:=[(3,Hb.p)] }
def Hb.s:LL Tryz.f195 Iq.d 3 Hb.p:=mL [] (λ _=>trivial) trivial
def Iq.s (k:Nat):CK 195 (Iq.e k):=mS Iq.d k [3] Tryz.func195 trivial ⟨Hb.s,trivial⟩
def Fi.e (k:Nat):Ent:=⟨1,[(.val false t13)],[(.one,.b)],λ x=>Fi k x⟩
def G0.p:LF:=⟨⟨[],[(0,t13),(3,(.i .i64))]⟩,[(.ret,⟨[],[(2,.b)]⟩),((.exit 0),⟨[],[(0,t13)]⟩)],λ k x=>G0 k x.1 x.2⟩
def Fi.d:Fd := { nt:=47,nv:=1,nm:=[0,1,3],res:=[2],cs:=λ k=>[(67,Ap.e k)],ls:=[(2,G0.p)] }
def Fi.a (k:Nat):AC (Fi.d.cs k):=⟨Ap.s k,trivial⟩
def G0.s:LL Tryz.f225 Fi.d 2 G0.p:=mL [] Fi.a trivial
def Fi.s (k:Nat):CK 225 (Fi.e k):=mS Fi.d k [2] Tryz.func225 (Fi.a k) ⟨G0.s,trivial⟩
def Bm.e (k:Nat):Ent:=⟨1,[(.val true t28)],[(.one,.b)],λ x=>Bm k x⟩
def Bm.d:Fd := { nt:=11,nv:=1,nm:=[0,1],res:=[2],cs:=λ k=>[(225,Fi.e k)] }
def Bm.s (k:Nat):CK 183 (Bm.e k):=mS Bm.d k [] Tryz.func183 ⟨Fi.s k,trivial⟩ trivial
def E8.e (k:Nat):Ent:=⟨3,[(.val true t28),(.val true t29),(.val false .s)],[(.agg,t29),(.one,.b)],λ x=>E8 k x.1 x.2.1 x.2.2⟩
def E8.d:Fd := { nt:=24,nv:=3,nm:=[0,1,2,3,4,5],res:=[7],cs:=λ k=>[(67,Ap.e k),(183,Bm.e k),(192,A7.e k)],mv:=[23] }
def E8.s (k:Nat):CK 196 (E8.e k):=mS E8.d k [] Tryz.func196 ⟨Ap.s k,Bm.s k,A7.s k,trivial⟩ trivial
def Fb.e (k:Nat):Ent:=⟨3,[(.val false t13),(.val false .s),(.val false t4)],[(.one,t14)],λ x=>Fb k x.1 x.2.1 x.2.2⟩
def Ci.p:LF:=⟨⟨[(9,(.bp 9 0 0)),(10999,(.hd 2))],[(0,t13),(1,.s),(7,t14),(8,.b),(10,(.i .i64)),(10000,.s),(10001,t4)]⟩,[((.exit 0),⟨[(9,(.bp 9 0 0)),(10999,(.hd 2))],[(7,t14),(8,.b),(10000,.s),(10001,t4)]⟩)],λ k x=>Ci k x.1 x.2.1 x.2.2.1 x.2.2.2.1 x.2.2.2.2.1 x.2.2.2.2.2.1 x.2.2.2.2.2.2⟩
def Fb.d:Fd := { nt:=59,nv:=3,nm:=[0,1,2,3,4,5,7,8,9,10],res:=[6],ls:=[(5,Ci.p)] }
def Ci.s:LL Tryz.f197 Fb.d 5 Ci.p:=mL [] (λ _=>trivial) trivial
def Fb.s (k:Nat):CK 197 (Fb.e k):=mS Fb.d k [5] Tryz.func197 trivial ⟨Ci.s,trivial⟩
def An.e (k:Nat):Ent:=⟨2,[(.val true t28),(.val false .s)],[(.agg,t29),(.one,.b)],λ x=>An k x.1 x.2⟩
def An.d:Fd := { nt:=35,nv:=2,nm:=[0,1,2,3,6,7,8],res:=[5],cs:=λ k=>[(116,F7.e k),(192,A7.e k),(195,Iq.e k),(196,E8.e k),(197,Fb.e k)] }
def An.s (k:Nat):CK 144 (An.e k):=mS An.d k [] Tryz.func144 ⟨F7.s k,A7.s k,Iq.s k,E8.s k,Fb.s k,trivial⟩ trivial
def B5.e (k:Nat):Ent:=⟨3,[(.val true t28),(.val false .s),(.val false t4)],[(.agg,t29),(.one,.b)],λ x=>B5 k x.1 x.2.1 x.2.2⟩
def B5.d:Fd := { nt:=23,nv:=3,nm:=[0,1,2,3,4,5,8],res:=[7],cs:=λ k=>[(192,A7.e k),(196,E8.e k),(197,Fb.e k)] }
def B5.s (k:Nat):CK 194 (B5.e k):=mS B5.d k [] Tryz.func194 ⟨A7.s k,E8.s k,Fb.s k,trivial⟩ trivial
def Jn.e (k:Nat):Ent:=⟨4,[(.val true t28),(.val false .s),(.val true t25),(.val false .b)],[(.agg,t29),(.one,(.i .i64))],λ x=>Jn k x.1 x.2.1 x.2.2.1 x.2.2.2⟩
def Jn.d:Fd := { nt:=82,nv:=4,nm:=[0,1,2,3,4,5,6,7,10,11,12,13,14,15],res:=[9],cs:=λ k=>[(59,Hn.e k),(60,L8.e k),(67,Ap.e k),(68,Bz.e k),(144,An.e k),(175,Bb.e k),(183,Bm.e k),(192,A7.e k),(194,B5.e k)],mv:=[58,81] }
def Jn.s (k:Nat):CK 142 (Jn.e k):=mS Jn.d k [] Tryz.func142 ⟨Hn.s k,L8.s k,Ap.s k,Bz.s k,An.s k,Bb.s k,Bm.s k,A7.s k,B5.s k,trivial⟩ trivial
def Ie.e (k:Nat):Ent:=⟨2,[(.val false .s),(.val true t25)],[(.agg,t27)],λ x=>Ie x.1 x.2⟩
def Ie.d:Fd := { nt:=14,nv:=2,nm:=[0,1,2,3],res:=[] }
def Ie.s (k:Nat):CK 257 (Ie.e k):=mS Ie.d k [] Tryz.func257 trivial trivial
def K5.e (k:Nat):Ent:=⟨4,[(.ptr t40 t40),(.val false .s),(.val true t25),(.val false .b)],[(.one,(.i .i64))],λ x=>K5 k x.1 x.2.1 x.2.2.1 x.2.2.2⟩
def K5.d:Fd := { nt:=52,nv:=4,nm:=[0,1,2,3,4,5,6,7,9,10],res:=[8],cs:=λ k=>[(142,Jn.e k),(257,Ie.e k)] }
def K5.s (k:Nat):CK 236 (K5.e k):=mS K5.d k [] Tryz.func236 ⟨Jn.s k,Ie.s k,trivial⟩ trivial
def I0.e (k:Nat):Ent:=⟨4,[(.ptr t41 t42),(.val false .s),(.val true t25),(.val false .b)],[(.one,(.i .i64))],λ x=>I0 k x.1 x.2.1 x.2.2.1 x.2.2.2⟩
def I0.d:Fd := { nt:=52,nv:=4,nm:=[0,1,2,3,4,5,6,7,9,10],res:=[8],cs:=λ k=>[(142,Jn.e k),(257,Ie.e k)] }
def I0.s (k:Nat):CK 236 (I0.e k):=mS I0.d k [] Tryz.func236 ⟨Jn.s k,Ie.s k,trivial⟩ trivial
def K6.e (k:Nat):Ent:=⟨1,[(.val false (.i .i64))],[(.one,(.i .i64))],λ x=>K6 x⟩
def K6.d:Fd := { nt:=6,nv:=1,nm:=[0,1],res:=[2],rf:=true }
def K6.s (k:Nat):CK 237 (K6.e k):=mS K6.d k [] Tryz.func237 trivial trivial
def C2.e (k:Nat):Ent:=⟨4,[(.ptr t51 t51),(.val false .s),(.val true t25),(.val false t6)],[(.one,(.i .i64))],λ x=>C2 k x.1 x.2.1 x.2.2.1 x.2.2.2⟩
def B6.p:LF:=⟨⟨[(0,(.bp 0 0 0)),(6,(.bp 6 0 0)),(1999,(.hd 9)),(7999,(.hd 5))],[(1,.s),(3,t6),(9,t7),(10,(.i .i64)),(11,(.i .i64)),(12,(.i .i64)),(1000,t51),(7000,t25)]⟩,[((.exit 0),⟨[(0,(.bp 0 0 0)),(6,(.bp 6 0 0)),(1999,(.hd 9)),(7999,(.hd 5))],[(1,.s),(11,(.i .i64)),(1000,t51),(7000,t25)]⟩)],λ k x=>B6 k x.1 x.2.1 x.2.2.1 x.2.2.2.1 x.2.2.2.2.1 x.2.2.2.2.2.1 x.2.2.2.2.2.2.1 x.2.2.2.2.2.2.2⟩
def C2.d:Fd := { nt:=92,nv:=4,nm:=[0,1,2,3,4,5,6,7,9,10,11,12,13,14,15],res:=[8],cs:=λ k=>[(138,Br.e k),(141,C3.e k),(235,Eh.e k),(236,K5.e k),(237,K6.e k)],ls:=[(5,B6.p)],gh:=[(1000006,[.cl 1003])],opn:=[51],rf:=true }
def C2.a (k:Nat):AC (C2.d.cs k):=⟨Br.s k,C3.s k,Eh.s k,K5.s k,K6.s k,trivial⟩
def B6.s:LL Tryz.f206 C2.d 5 B6.p:=mL [] C2.a trivial
def C2.s (k:Nat):CK 206 (C2.e k):=mS C2.d k [5] Tryz.func206 (C2.a k) ⟨B6.s,trivial⟩
def Hc.e (k:Nat):Ent:=⟨5,[(.ptr t51 t51),(.val false .s),(.val true t25),(.val false (.i .i64)),(.val false t6)],[(.one,(.i .i64))],λ x=>Hc k x.1 x.2.1 x.2.2.1 x.2.2.2.1 x.2.2.2.2⟩
def Hc.d:Fd := { nt:=57,nv:=5,nm:=[0,1,2,3,4,5,6,7,8,9],res:=[10],cs:=λ k=>[(67,Ap.e k),(72,A6.e k),(205,Gu.e k),(206,C2.e k)],rf:=true }
def Hc.s (k:Nat):CK 160 (Hc.e k):=mS Hc.d k [] Tryz.func160 ⟨Ap.s k,A6.s k,Gu.s k,C2.s k,trivial⟩ trivial
def Bh.e (k:Nat):Ent:=⟨2,[(.val true t28),(.val false .s)],[(.agg,t29),(.one,.b)],λ x=>Bh k x.1 x.2⟩
def Bh.d:Fd := { nt:=26,nv:=2,nm:=[0,1,2,3,6],res:=[5],cs:=λ k=>[(129,D6.e k),(192,A7.e k),(195,Iq.e k),(196,E8.e k)],mv:=[14] }
def Bh.s (k:Nat):CK 143 (Bh.e k):=mS Bh.d k [] Tryz.func143 ⟨D6.s k,A7.s k,Iq.s k,E8.s k,trivial⟩ trivial
def Bf.e (k:Nat):Ent:=⟨4,[(.ptr t51 t51),(.val false (.i .i64)),(.val false .s),(.val false t6)],[(.one,.b)],λ x=>Bf k x.1 x.2.1 x.2.2.1 x.2.2.2⟩
def Bn.p:LF:=⟨⟨[(0,(.bp 0 0 0)),(9,(.bp 9 0 0)),(1999,(.hd 9)),(10999,(.hd 5))],[(1,(.i .i64)),(2,.s),(3,t6),(11,t7),(12,.b),(13,.b),(14,(.i .i64)),(1000,t51),(10000,t25)]⟩,[((.exit 0),⟨[(0,(.bp 0 0 0)),(1999,(.hd 9))],[(1,(.i .i64)),(2,.s),(12,.b),(13,.b),(1000,t51)]⟩)],λ k x=>Bn k x.1 x.2.1 x.2.2.1 x.2.2.2.1 x.2.2.2.2.1 x.2.2.2.2.2.1 x.2.2.2.2.2.2.1 x.2.2.2.2.2.2.2.1 x.2.2.2.2.2.2.2.2⟩
def Bf.d:Fd := { nt:=125,nv:=4,nm:=[0,1,2,3,4,5,6,7,9,10,11,12,13,14,15,16,17,18],res:=[8],cs:=λ k=>[(59,Hn.e k),(139,Bd.e k),(140,Be.e k),(141,C3.e k),(142,Jn.e k),(143,Bh.e k),(144,An.e k)],ls:=[(8,Bn.p)],rf:=true }
def Bf.a (k:Nat):AC (Bf.d.cs k):=⟨Hn.s k,Bd.s k,Be.s k,C3.s k,Jn.s k,Bh.s k,An.s k,trivial⟩
def Bn.s:LL Tryz.f81 Bf.d 8 Bn.p:=mL [] Bf.a trivial
def Bf.s (k:Nat):CK 81 (Bf.e k):=mS Bf.d k [8] Tryz.func81 (Bf.a k) ⟨Bn.s,trivial⟩
def Gk.e (k:Nat):Ent:=⟨1,[(.val true t48)],[(.one,t7)],λ x=>Gk k x⟩
def Gk.d:Fd := { nt:=8,nv:=1,nm:=[0,1],res:=[2],cs:=λ k=>[(139,Bd.e k),(140,Be.e k)],rf:=true }
def Gk.s (k:Nat):CK 200 (Gk.e k):=mS Gk.d k [] Tryz.func200 ⟨Bd.s k,Be.s k,trivial⟩ trivial
def J7.e (k:Nat):Ent:=⟨2,[(.val true t27),(.val true t27)],[(.one,.b)],λ x=>J7 x.1 x.2⟩
def J7.d:Fd := { nt:=29,nv:=2,nm:=[0,1,2,3],res:=[4],cs:=λ k=>[(69,C7.e k)] }
def J7.s (k:Nat):CK 260 (J7.e k):=mS J7.d k [] Tryz.func260 ⟨C7.s k,trivial⟩ trivial
def Bs.e (k:Nat):Ent:=⟨2,[(.val false t31),(.val true t27)],[(.one,t32)],λ x=>Bs k x.1 x.2⟩
def Dl.p:LF:=⟨⟨[(3,(.bp 3 0 0)),(4999,(.hd 6))],[(5,t32),(7,(.i .i64)),(4000,.s),(4001,(.i .i64)),(4002,(.i .i64)),(4003,(.i .i64)),(4004,.b),(4005,(.i .i64))]⟩,[((.exit 2),⟨[(3,(.bp 3 0 0)),(4999,(.hd 6))],[(5,t32),(7,(.i .i64)),(4000,.s),(4001,(.i .i64)),(4002,(.i .i64)),(4003,(.i .i64)),(4004,.b),(4005,(.i .i64))]⟩)],λ k x=>Dl k x.1 x.2.1 x.2.2.1 x.2.2.2.1 x.2.2.2.2.1 x.2.2.2.2.2.1 x.2.2.2.2.2.2.1 x.2.2.2.2.2.2.2⟩
def Ei.p:LF:=⟨⟨[(3,(.bp 3 0 0)),(4999,(.hd 6))],[(5,t32),(6,(.i .i64)),(4000,.s),(4001,(.i .i64)),(4002,(.i .i64)),(4003,(.i .i64)),(4004,.b),(4005,(.i .i64))]⟩,[(.ret,⟨[],[(4,t32)]⟩),((.exit 0),⟨[(3,(.bp 3 0 0)),(4999,(.hd 6))],[(5,t32),(4000,.s),(4001,(.i .i64)),(4002,(.i .i64)),(4003,(.i .i64)),(4004,.b),(4005,(.i .i64))]⟩)],λ k x=>Ei k x.1 x.2.1 x.2.2.1 x.2.2.2.1 x.2.2.2.2.1 x.2.2.2.2.2.1 x.2.2.2.2.2.2.1 x.2.2.2.2.2.2.2⟩
def Bs.d:Fd := { nt:=70,nv:=2,nm:=[0,1,2,3,5,6,7],res:=[4],cs:=λ k=>[(260,J7.e k)],ls:=[(11,Dl.p),(3,Ei.p)] }
def Bs.a (k:Nat):AC (Bs.d.cs k):=⟨J7.s k,trivial⟩
def Dl.s:LL Tryz.f253 Bs.d 11 Dl.p:=mL [] Bs.a trivial
def Ei.s:LL Tryz.f253 Bs.d 3 Ei.p:=mL [] Bs.a trivial
def Bs.s (k:Nat):CK 253 (Bs.e k):=mS Bs.d k [3,11] Tryz.func253 (Bs.a k) ⟨Ei.s,Dl.s,trivial⟩
def Bw.e (k:Nat):Ent:=⟨2,[(.val false t31),(.val false t31)],[(.one,t32)],λ x=>Bw k x.1 x.2⟩
def Dm.p:LF:=⟨⟨[],[(1,t31),(5,t32),(6,(.i .i64))]⟩,[((.exit 0),⟨[],[(5,t32)]⟩)],λ k x=>Dm k x.1 x.2.1 x.2.2⟩
def Bw.d:Fd := { nt:=23,nv:=2,nm:=[0,1,2,3,5,6],res:=[4],cs:=λ k=>[(253,Bs.e k)],ls:=[(3,Dm.p)] }
def Bw.a (k:Nat):AC (Bw.d.cs k):=⟨Bs.s k,trivial⟩
def Dm.s:LL Tryz.f233 Bw.d 3 Dm.p:=mL [] Bw.a trivial
def Bw.s (k:Nat):CK 233 (Bw.e k):=mS Bw.d k [3] Tryz.func233 (Bw.a k) ⟨Dm.s,trivial⟩
def Ho.e (k:Nat):Ent:=⟨2,[(.ptr t40 t40),(.val false t31)],[(.one,.b)],λ x=>Ho k x.1 x.2⟩
def Ho.d:Fd := { nt:=19,nv:=2,nm:=[0,1,2,3,5],res:=[4],cs:=λ k=>[(233,Bw.e k)] }
def Ho.s (k:Nat):CK 201 (Ho.e k):=mS Ho.d k [] Tryz.func201 ⟨Bw.s k,trivial⟩ trivial
def Gv.e (k:Nat):Ent:=⟨2,[(.ptr t41 t43),(.val false t31)],[(.one,.b)],λ x=>Gv k x.1 x.2⟩
def Gv.d:Fd := { nt:=19,nv:=2,nm:=[0,1,2,3,5],res:=[4],cs:=λ k=>[(233,Bw.e k)] }
def Gv.s (k:Nat):CK 201 (Gv.e k):=mS Gv.d k [] Tryz.func201 ⟨Bw.s k,trivial⟩ trivial
def Bt.e (k:Nat):Ent:=⟨5,[(.ptr t51 t51),(.val false (.i .i64)),(.val false t31),(.val false .b),(.val false t6)],[(.one,.b)],λ x=>Bt k x.1 x.2.1 x.2.2.1 x.2.2.2.1 x.2.2.2.2⟩
def Ao.p:LF:=⟨⟨[(0,(.bp 0 0 0)),(1999,(.hd 9))],[(1,(.i .i64)),(2,t31),(3,.b),(4,t6),(11,t7),(12,.b),(13,(.i .i64)),(1000,t51)]⟩,[((.exit 0),⟨[(1999,(.hd 9))],[(12,.b),(1000,t51)]⟩)],λ k x=>Ao k x.1 x.2.1 x.2.2.1 x.2.2.2.1 x.2.2.2.2.1 x.2.2.2.2.2.1 x.2.2.2.2.2.2.1 x.2.2.2.2.2.2.2⟩
def Bt.d:Fd := { nt:=53,nv:=5,nm:=[0,1,2,3,4,5,6,7,8,9,11,12,13],res:=[10],cs:=λ k=>[(141,C3.e k),(200,Gk.e k),(201,Ho.e k)],ls:=[(4,Ao.p)],gh:=[(1000005,[.cl 1003])],opn:=[47],rf:=true }
def Bt.a (k:Nat):AC (Bt.d.cs k):=⟨C3.s k,Gk.s k,Ho.s k,trivial⟩
def Ao.s:LL Tryz.f154 Bt.d 4 Ao.p:=mL [] Bt.a trivial
def Bt.s (k:Nat):CK 154 (Bt.e k):=mS Bt.d k [4] Tryz.func154 (Bt.a k) ⟨Ao.s,trivial⟩
def Gw.e (k:Nat):Ent:=⟨3,[(.ptr t51 t51),(.val false (.i .i64)),(.val false t6)],[(.one,.b)],λ x=>Gw k x.1 x.2.1 x.2.2⟩
def Gw.d:Fd := { nt:=36,nv:=3,nm:=[0,1,2,3,4,5,7],res:=[6],cs:=λ k=>[(154,Bt.e k)],rf:=true }
def Gw.s (k:Nat):CK 91 (Gw.e k):=mS Gw.d k [] Tryz.func91 ⟨Bt.s k,trivial⟩ trivial
def Iw.e (k:Nat):Ent:=⟨2,[(.val true t48),(.val false (.i .i64))],[(.one,.b)],λ x=>Iw k x.1 x.2⟩
def Iw.d:Fd := { nt:=9,nv:=2,nm:=[0,1,2,3],res:=[4],cs:=λ k=>[(181,Cj.e k),(200,Gk.e k)],rf:=true }
def Iw.s (k:Nat):CK 155 (Iw.e k):=mS Iw.d k [] Tryz.func155 ⟨Cj.s k,Gk.s k,trivial⟩ trivial
def Gx.e (k:Nat):Ent:=⟨3,[(.ptr t51 t51),(.val false (.i .i64)),(.val false t6)],[(.one,.b)],λ x=>Gx k x.1 x.2.1 x.2.2⟩
def Gx.d:Fd := { nt:=47,nv:=3,nm:=[0,1,2,3,4,5,7],res:=[6],cs:=λ k=>[(154,Bt.e k),(155,Iw.e k)],rf:=true }
def Gx.s (k:Nat):CK 93 (Gx.e k):=mS Gx.d k [] Tryz.func93 ⟨Bt.s k,Iw.s k,trivial⟩ trivial
def Ig.e (k:Nat):Ent:=⟨1,[(.val true t28)],[(.agg,t29),(.one,(.i .i64))],λ x=>Ig k x⟩
def Hd.p:LF:=⟨⟨[(1,(.bp 1 0 0)),(2,(.bp 2 0 0)),(4,(.bp 4 0 0)),(2999,(.hd 2)),(3999,(.hd 2)),(5999,(.hd 2))],[(5,(.i .i64)),(6,(.i .i64)),(2000,t28),(3000,t29),(5000,t29)]⟩,[((.exit 0),⟨[(2,(.bp 2 0 0)),(4,(.bp 4 0 0)),(3999,(.hd 2)),(5999,(.hd 2))],[(5,(.i .i64)),(3000,t29),(5000,t29)]⟩)],λ k x=>Hd k x.1 x.2.1 x.2.2.1 x.2.2.2.1 x.2.2.2.2⟩
def Ig.d:Fd := { nt:=53,nv:=1,nm:=[0,1,4,5,6,7,8,9],res:=[3],cs:=λ k=>[(59,Hn.e k),(143,Bh.e k),(144,An.e k),(183,Bm.e k),(192,A7.e k)],ls:=[(4,Hd.p)],mv:=[51],rf:=true }
def Ig.a (k:Nat):AC (Ig.d.cs k):=⟨Hn.s k,Bh.s k,An.s k,Bm.s k,A7.s k,trivial⟩
def Hd.s:LL Tryz.f207 Ig.d 4 Hd.p:=mL [] Ig.a trivial
def Ig.s (k:Nat):CK 207 (Ig.e k):=mS Ig.d k [4] Tryz.func207 (Ig.a k) ⟨Hd.s,trivial⟩
def Ck.e (k:Nat):Ent:=⟨2,[(.val false t13),(.val false t13)],[(.one,t2)],λ x=>Ck k x.1 x.2⟩
def Ej.p:LF:=⟨⟨[],[(5,t14),(8,t2),(9,(.i .i64))]⟩,[((.exit 4),⟨[],[(8,t2)]⟩)],λ k x=>Ej k x.1 x.2.1 x.2.2⟩
def Fj.p:LF:=⟨⟨[],[(1,t13),(5,t14),(7,(.i .i64))]⟩,[((.exit 2),⟨[],[(5,t14)]⟩)],λ k x=>Fj k x.1 x.2.1 x.2.2⟩
def Fk.p:LF:=⟨⟨[],[(0,t13),(1,t13),(5,t14),(6,(.i .i64))]⟩,[((.exit 0),⟨[],[(1,t13),(5,t14)]⟩)],λ k x=>Fk k x.1 x.2.1 x.2.2.1 x.2.2.2⟩
def Ck.d:Fd := { nt:=55,nv:=2,nm:=[0,1,2,3,5,6,7,8,9],res:=[4],cs:=λ k=>[(197,Fb.e k)],ls:=[(12,Ej.p),(7,Fj.p),(3,Fk.p)],rf:=true }
def Ck.a (k:Nat):AC (Ck.d.cs k):=⟨Fb.s k,trivial⟩
def Ej.s:LL Tryz.f238 Ck.d 12 Ej.p:=mL [] Ck.a trivial
def Fj.s:LL Tryz.f238 Ck.d 7 Fj.p:=mL [] Ck.a trivial
def Fk.s:LL Tryz.f238 Ck.d 3 Fk.p:=mL [] Ck.a trivial
def Ck.s (k:Nat):CK 238 (Ck.e k):=mS Ck.d k [3,7,12] Tryz.func238 (Ck.a k) ⟨Fk.s,Fj.s,Ej.s,trivial⟩
def Da.e (k:Nat):Ent:=⟨2,[(.val true t28),(.val false t1)],[(.agg,t29)],λ x=>Da k x.1 x.2⟩
def Ax.p:LF:=⟨⟨[(2,(.bp 2 0 0)),(4,(.bp 4 0 0)),(3999,(.hd 2)),(5999,(.hd 2))],[(1,t1),(5,t2),(6,t14),(7,(.i .i64)),(3000,t28),(5000,t29)]⟩,[((.exit 0),⟨[(2,(.bp 2 0 0)),(4,(.bp 4 0 0)),(3999,(.hd 2)),(5999,(.hd 2))],[(6,t14),(3000,t28),(5000,t29)]⟩)],λ k x=>Ax k x.1 x.2.1 x.2.2.1 x.2.2.2.1 x.2.2.2.2.1 x.2.2.2.2.2⟩
def Da.d:Fd := { nt:=66,nv:=2,nm:=[0,1,2,3,5,6,7,8,9],res:=[],cs:=λ k=>[(129,D6.e k),(183,Bm.e k),(192,A7.e k),(231,Bg.e k),(238,Ck.e k)],ls:=[(6,Ax.p)],rf:=true }
def Da.a (k:Nat):AC (Da.d.cs k):=⟨D6.s k,Bm.s k,A7.s k,Bg.s k,Ck.s k,trivial⟩
def Ax.s:LL Tryz.f208 Da.d 6 Ax.p:=mL [] Da.a trivial
def Da.s (k:Nat):CK 208 (Da.e k):=mS Da.d k [6] Tryz.func208 (Da.a k) ⟨Ax.s,trivial⟩
def I1.e (k:Nat):Ent:=⟨1,[(.val true t27)],[(.one,.b)],λ x=>I1 k x⟩
def I1.d:Fd := { nt:=26,nv:=1,nm:=[0,1],res:=[2],cs:=λ k=>[(66,C6.e k),(67,Ap.e k),(72,A6.e k)] }
def I1.s (k:Nat):CK 182 (I1.e k):=mS I1.d k [] Tryz.func182 ⟨C6.s k,Ap.s k,A6.s k,trivial⟩ trivial
def E9.e (k:Nat):Ent:=⟨1,[(.val false t31)],[(.one,.b)],λ x=>E9 k x⟩
def G3.p:LF:=⟨⟨[],[(0,t31),(3,(.i .i64))]⟩,[(.ret,⟨[],[(2,.b)]⟩),((.exit 0),⟨[],[(0,t31)]⟩)],λ k x=>G3 k x.1 x.2⟩
def E9.d:Fd := { nt:=37,nv:=1,nm:=[0,1,3],res:=[2],cs:=λ k=>[(182,I1.e k)],ls:=[(2,G3.p)] }
def E9.a (k:Nat):AC (E9.d.cs k):=⟨I1.s k,trivial⟩
def G3.s:LL Tryz.f184 E9.d 2 G3.p:=mL [] E9.a trivial
def E9.s (k:Nat):CK 184 (E9.e k):=mS E9.d k [2] Tryz.func184 (E9.a k) ⟨G3.s,trivial⟩
def C0.e (k:Nat):Ent:=⟨1,[(.val true t40)],[(.one,.b)],λ x=>C0 k x⟩
def Gy.p:LF:=⟨⟨[(1,(.bp 1 0 0)),(2999,(.hd 5))],[(3,(.i .i64)),(2000,(.i .i64)),(2001,t13),(2002,t13),(2003,t31),(2004,t31)]⟩,[(.ret,⟨[],[(2,.b)]⟩),((.exit 0),⟨[(1,(.bp 1 0 0)),(2999,(.hd 5))],[(2000,(.i .i64)),(2001,t13),(2002,t13),(2003,t31),(2004,t31)]⟩)],λ k x=>Gy k x.1 x.2.1 x.2.2.1 x.2.2.2.1 x.2.2.2.2.1 x.2.2.2.2.2⟩
def C0.d:Fd := { nt:=37,nv:=1,nm:=[0,1,3],res:=[2],cs:=λ k=>[(72,A6.e k),(182,I1.e k),(183,Bm.e k),(184,E9.e k)],ls:=[(2,Gy.p)] }
def C0.a (k:Nat):AC (C0.d.cs k):=⟨A6.s k,I1.s k,Bm.s k,E9.s k,trivial⟩
def Gy.s:LL Tryz.f125 C0.d 2 Gy.p:=mL [] C0.a trivial
def C0.s (k:Nat):CK 125 (C0.e k):=mS C0.d k [2] Tryz.func125 (C0.a k) ⟨Gy.s,trivial⟩
def Bl.e (k:Nat):Ent:=⟨1,[(.val true t40)],[(.agg,t41)],λ x=>Bl k x⟩
def Bl.d:Fd := { nt:=17,nv:=1,nm:=[0,1],res:=[],cs:=λ k=>[(192,A7.e k)] }
def Bl.s (k:Nat):CK 137 (Bl.e k):=mS Bl.d k [] Tryz.func137 ⟨A7.s k,trivial⟩ trivial
def K7.e (k:Nat):Ent:=⟨3,[(.val true t28),(.val false .s),(.val false (.i .i64))],[(.agg,t30),(.one,.b)],λ x=>K7 k x.1 x.2.1 x.2.2⟩
def K7.d:Fd := { nt:=97,nv:=3,nm:=[0,1,2,3,4,5,8,9,10,11],res:=[7],cs:=λ k=>[(72,A6.e k),(129,D6.e k),(183,Bm.e k),(192,Jp.e k)],mv:=[39,96] }
def K7.s (k:Nat):CK 239 (K7.e k):=mS K7.d k [] Tryz.func239 ⟨A6.s k,D6.s k,Bm.s k,Jp.s k,trivial⟩ trivial
def E4.e (k:Nat):Ent:=⟨3,[(.val true t40),(.val false .s),(.val false (.i .i64))],[(.agg,t42),(.one,.b)],λ x=>E4 k x.1 x.2.1 x.2.2⟩
def E4.d:Fd := { nt:=44,nv:=3,nm:=[0,1,2,3,4,5,8,9,10,11,12],res:=[7],cs:=λ k=>[(59,Hn.e k),(125,C0.e k),(137,Bl.e k),(239,K7.e k)],mv:=[29,40,43] }
def E4.s (k:Nat):CK 209 (E4.e k):=mS E4.d k [] Tryz.func209 ⟨Hn.s k,C0.s k,Bl.s k,K7.s k,trivial⟩ trivial
def Hj.e (k:Nat):Ent:=⟨2,[(.val false t0),(.val false .s)],[(.one,.b)],λ x=>Hj k x.1 x.2⟩
def Gz.p:LF:=⟨⟨[],[(0,t0),(1,.s),(5,(.i .i64))]⟩,[(.ret,⟨[],[(4,.b)]⟩),((.exit 0),⟨[],[]⟩)],λ k x=>Gz k x.1 x.2.1 x.2.2⟩
def Hj.d:Fd := { nt:=18,nv:=2,nm:=[0,1,2,3,5],res:=[4],ls:=[(2,Gz.p)],rf:=true }
def Gz.s:LL Tryz.f128 Hj.d 2 Gz.p:=mL [] (λ _=>trivial) trivial
def Hj.s (k:Nat):CK 128 (Hj.e k):=mS Hj.d k [2] Tryz.func128 trivial ⟨Gz.s,trivial⟩
def Db.e (k:Nat):Ent:=⟨2,[(.val false t0),(.val false .s)],[(.one,t0)],λ x=>Db k x.1 x.2⟩
def Ek.p:LF:=⟨⟨[],[(1,.s),(5,t2),(6,(.i .i64))]⟩,[((.exit 0),⟨[],[(1,.s),(5,t2),(6,(.i .i64))]⟩)],λ k x=>Ek k x.1 x.2.1 x.2.2⟩
def Db.d:Fd := { nt:=46,nv:=2,nm:=[0,1,2,3,5,6],res:=[4],cs:=λ k=>[(128,Hj.e k)],ls:=[(5,Ek.p)],rf:=true }
def Db.a (k:Nat):AC (Db.d.cs k):=⟨Hj.s k,trivial⟩
def Ek.s:LL Tryz.f210 Db.d 5 Ek.p:=mL [] Db.a trivial
def Db.s (k:Nat):CK 210 (Db.e k):=mS Db.d k [5] Tryz.func210 (Db.a k) ⟨Ek.s,trivial⟩
def B1.e (k:Nat):Ent:=⟨2,[(.ptr t51 t51),(.val true t34)],[(.one,.b)],λ x=>B1 k x.1 x.2⟩
def Cu.p:LF:=⟨⟨[(0,(.bp 0 0 0)),(3,(.bp 3 0 0)),(1999,(.hd 9)),(4999,(.hd 6))],[(5,t3),(6,(.i .i64)),(1000,t51),(4000,t34)]⟩,[((.exit 1),⟨[(0,(.bp 0 0 0)),(3,(.bp 3 0 0)),(1999,(.hd 9)),(4999,(.hd 6))],[(5,t3),(1000,t51),(4000,t34)]⟩)],λ k x=>Cu k x.1 x.2.1 x.2.2.1 x.2.2.2⟩
def B1.d:Fd := { nt:=134,nv:=2,nm:=[0,1,2,3,5,6,7,8],res:=[4],cs:=λ k=>[(81,Bf.e k),(91,Gw.e k),(93,Gx.e k),(207,Ig.e k),(208,Da.e k),(209,E4.e k),(210,Db.e k)],ls:=[(14,Cu.p)],rf:=true }
def B1.a (k:Nat):AC (B1.d.cs k):=⟨Bf.s k,Gw.s k,Gx.s k,Ig.s k,Da.s k,E4.s k,Db.s k,trivial⟩
def Cu.s:LL Tryz.f161 B1.d 14 Cu.p:=mL [] B1.a trivial
def B1.s (k:Nat):CK 161 (B1.e k):=mS B1.d k [14] Tryz.func161 (B1.a k) ⟨Cu.s,trivial⟩
def Ir.e (k:Nat):Ent:=⟨1,[(.val true t17)],[(.agg,t19)],λ x=>Ir k x⟩
def G4.p:LF:=⟨⟨[(1,(.bp 1 0 0)),(2,(.bp 2 0 0)),(3,(.bp 3 0 0)),(2999,(.hd 2)),(3999,(.hd 2)),(4999,(.hd 2))],[(4,(.i .i64)),(2000,t17),(3000,t19),(4000,t19)]⟩,[((.exit 0),⟨[(2,(.bp 2 0 0)),(3,(.bp 3 0 0)),(3999,(.hd 2)),(4999,(.hd 2))],[(3000,t19),(4000,t19)]⟩)],λ k x=>G4 k x.1 x.2.1 x.2.2.1 x.2.2.2⟩
def Ir.d:Fd := { nt:=30,nv:=1,nm:=[0,1,3,4],res:=[],ls:=[(3,G4.p)],mv:=[29],rf:=true }
def G4.s:LL Tryz.f136 Ir.d 3 G4.p:=mL [] (λ _=>trivial) trivial
def Ir.s (k:Nat):CK 136 (Ir.e k):=mS Ir.d k [3] Tryz.func136 trivial ⟨G4.s,trivial⟩
def Ix.e (k:Nat):Ent:=⟨1,[(.val true t17)],[(.agg,t18)],λ x=>Ix k x⟩
def Km.p:LF:=⟨⟨[(1,(.bp 1 0 0)),(2,(.bp 2 0 0)),(3,(.bp 3 0 0)),(2999,(.hd 2)),(3999,(.hd 2)),(4999,(.hd 2))],[(4,(.i .i64)),(2000,t17),(3000,t19),(4000,t18)]⟩,[((.exit 0),⟨[(2,(.bp 2 0 0)),(3,(.bp 3 0 0)),(3999,(.hd 2)),(4999,(.hd 2))],[(3000,t19),(4000,t18)]⟩)],λ k x=>Km k x.1 x.2.1 x.2.2.1 x.2.2.2⟩
def Ix.d:Fd := { nt:=30,nv:=1,nm:=[0,1,3,4],res:=[],ls:=[(3,Km.p)],hint:=[(26,t7),(27,t7)],mv:=[29],rf:=true }
def Km.s:LL Tryz.f136 Ix.d 3 Km.p:=mL [] (λ _=>trivial) trivial
def Ix.s (k:Nat):CK 136 (Ix.e k):=mS Ix.d k [3] Tryz.func136 trivial ⟨Km.s,trivial⟩
def Ea.e (k:Nat):Ent:=⟨2,[(.val true t6),(.val false (.i .i64))],[(.one,.b)],λ x=>Ea k x.1 x.2⟩
def H0.p:LF:=⟨⟨[(2,(.bp 2 0 0)),(3999,(.hd 1))],[(1,(.i .i64)),(5,(.i .i64)),(3000,t6)]⟩,[(.ret,⟨[],[(4,.b)]⟩),((.exit 0),⟨[(2,(.bp 2 0 0)),(3999,(.hd 1))],[(1,(.i .i64)),(3000,t6)]⟩)],λ k x=>H0 k x.1 x.2.1 x.2.2⟩
def Ea.d:Fd := { nt:=28,nv:=2,nm:=[0,1,2,3,5],res:=[4],cs:=λ k=>[(181,Cj.e k)],ls:=[(2,H0.p)],rf:=true }
def Ea.a (k:Nat):AC (Ea.d.cs k):=⟨Cj.s k,trivial⟩
def H0.s:LL Tryz.f123 Ea.d 2 H0.p:=mL [] Ea.a trivial
def Ea.s (k:Nat):CK 123 (Ea.e k):=mS Ea.d k [2] Tryz.func123 (Ea.a k) ⟨H0.s,trivial⟩
def Jo.e (k:Nat):Ent:=⟨2,[(.val true t17),(.val false t22)],[(.one,.b)],λ x=>Jo k x.1 x.2⟩
def J8.p:LF:=⟨⟨[(2,(.bp 2 0 0)),(3999,(.hd 2))],[(5,(.i .i64)),(3000,t17)]⟩,[(.ret,⟨[],[(4,.b)]⟩),((.exit 0),⟨[],[]⟩)],λ k x=>J8 k x.1 x.2⟩
def Jo.d:Fd := { nt:=45,nv:=2,nm:=[0,1,2,3,5],res:=[4],cs:=λ k=>[(72,A6.e k),(122,Bx.e k),(123,Ea.e k)],ls:=[(4,J8.p)],rf:=true }
def Jo.a (k:Nat):AC (Jo.d.cs k):=⟨A6.s k,Bx.s k,Ea.s k,trivial⟩
def J8.s:LL Tryz.f240 Jo.d 4 J8.p:=mL [] Jo.a trivial
def Jo.s (k:Nat):CK 240 (Jo.e k):=mS Jo.d k [4] Tryz.func240 (Jo.a k) ⟨J8.s,trivial⟩
def Gb.e (k:Nat):Ent:=⟨2,[(.val true t6),(.val false t22)],[(.one,(.i .i64))],λ x=>Gb k x.1 x.2⟩
def H1.p:LF:=⟨⟨[(2,(.bp 2 0 0)),(3999,(.hd 1))],[(1,t22),(5,(.i .i64)),(3000,t6)]⟩,[(.ret,⟨[],[(4,(.i .i64))]⟩),((.exit 0),⟨[],[]⟩)],λ k x=>H1 k x.1 x.2.1 x.2.2⟩
def Gb.d:Fd := { nt:=28,nv:=2,nm:=[0,1,2,3,5,6,7],res:=[4],cs:=λ k=>[(124,E7.e k)],ls:=[(2,H1.p)],rf:=true }
def Gb.a (k:Nat):AC (Gb.d.cs k):=⟨E7.s k,trivial⟩
def H1.s:LL Tryz.f241 Gb.d 2 H1.p:=mL [] Gb.a trivial
def Gb.s (k:Nat):CK 241 (Gb.e k):=mS Gb.d k [2] Tryz.func241 (Gb.a k) ⟨H1.s,trivial⟩
def Ez.e (k:Nat):Ent:=⟨4,[(.val true t17),(.val true t6),(.val false t22),(.val false (.i .i64))],[(.one,(.i .i64))],λ x=>Ez k x.1 x.2.1 x.2.2.1 x.2.2.2⟩
def Ce.p:LF:=⟨⟨[(4,(.bp 4 0 0)),(5,(.bp 5 0 0)),(9,(.bp 9 0 0)),(5999,(.hd 2)),(6999,(.hd 1)),(10999,(.hd 3))],[(2,t22),(3,(.i .i64)),(10,.b),(11,(.i .i64)),(5000,t17),(6000,t6),(10000,t16)]⟩,[(.ret,⟨[],[(8,(.i .i64))]⟩),((.exit 0),⟨[],[]⟩)],λ k x=>Ce k x.1 x.2.1 x.2.2.1 x.2.2.2.1 x.2.2.2.2.1 x.2.2.2.2.2.1 x.2.2.2.2.2.2⟩
def Ez.d:Fd := { nt:=60,nv:=4,nm:=[0,1,2,3,4,5,6,7,9,10,11,12,13],res:=[8],cs:=λ k=>[(124,E7.e k),(255,Cn.e k)],ls:=[(3,Ce.p)],rf:=true }
def Ez.a (k:Nat):AC (Ez.d.cs k):=⟨E7.s k,Cn.s k,trivial⟩
def Ce.s:LL Tryz.f242 Ez.d 3 Ce.p:=mL [] Ez.a trivial
def Ez.s (k:Nat):CK 242 (Ez.e k):=mS Ez.d k [3] Tryz.func242 (Ez.a k) ⟨Ce.s,trivial⟩
def Cm.e (k:Nat):Ent:=⟨2,[(.val true t17),(.val false t22)],[(.agg,t18),(.one,(.i .i64))],λ x=>Cm k x.1 x.2⟩
def B8.p:LF:=⟨⟨[(4,(.bp 4 0 0)),(6,(.bp 6 0 0)),(5999,(.hd 2)),(7999,(.hd 2))],[(1,t22),(7,(.i .i64)),(8,(.i .i64)),(5000,t19),(7000,t18)]⟩,[((.exit 0),⟨[(4,(.bp 4 0 0)),(6,(.bp 6 0 0)),(5999,(.hd 2)),(7999,(.hd 2))],[(7,(.i .i64)),(5000,t19),(7000,t18)]⟩)],λ k x=>B8 k x.1 x.2.1 x.2.2.1 x.2.2.2.1 x.2.2.2.2⟩
def Cm.d:Fd := { nt:=82,nv:=2,nm:=[0,1,2,3,6,7,8,9,10,11,12],res:=[5],cs:=λ k=>[(136,Ix.e k),(234,Hm.e k),(240,Jo.e k),(241,Gb.e k),(242,Ez.e k)],ls:=[(6,B8.p)],mv:=[19,80],rf:=true }
def Cm.a (k:Nat):AC (Cm.d.cs k):=⟨Ix.s k,Hm.s k,Jo.s k,Gb.s k,Ez.s k,trivial⟩
def B8.s:LL Tryz.f211 Cm.d 6 B8.p:=mL [] Cm.a trivial
def Cm.s (k:Nat):CK 211 (Cm.e k):=mS Cm.d k [6] Tryz.func211 (Cm.a k) ⟨B8.s,trivial⟩
def H2.e (k:Nat):Ent:=⟨3,[(.ptr t51 t51),(.val false (.i .i64)),(.val false (.i .i64))],[(.one,.b)],λ x=>H2 k x.1 x.2.1 x.2.2⟩
def H2.d:Fd := { nt:=49,nv:=3,nm:=[0,1,2,3,4,5,7,8],res:=[6],cs:=λ k=>[(72,A6.e k),(211,Cm.e k)],rf:=true }
def H2.s (k:Nat):CK 162 (H2.e k):=mS H2.d k [] Tryz.func162 ⟨A6.s k,Cm.s k,trivial⟩ trivial
def Ik.e (k:Nat):Ent:=⟨2,[(.ptr t51 t51),(.val true t34)],[(.one,.b)],λ x=>Ik k x.1 x.2⟩
def Ik.d:Fd := { nt:=76,nv:=2,nm:=[0,1,2,3,5,6],res:=[4],cs:=λ k=>[(72,A6.e k),(160,Hc.e k),(161,B1.e k),(162,H2.e k)],rf:=true }
def Ik.s (k:Nat):CK 102 (Ik.e k):=mS Ik.d k [] Tryz.func102 ⟨A6.s k,Hc.s k,B1.s k,H2.s k,trivial⟩ trivial
def El.e (k:Nat):Ent:=⟨1,[(.val true t28)],[(.one,t2)],λ x=>El k x⟩
def J9.p:LF:=⟨⟨[(1,(.bp 1 0 0)),(2999,(.hd 2))],[(3,t2),(4,(.i .i64)),(7,(.i .i64)),(2000,t28)]⟩,[((.exit 2),⟨[(1,(.bp 1 0 0)),(2999,(.hd 2))],[(3,t2),(4,(.i .i64)),(7,(.i .i64)),(2000,t28)]⟩)],λ k x=>J9 k x.1 x.2.1 x.2.2.1 x.2.2.2⟩
def Gl.p:LF:=⟨⟨[(1,(.bp 1 0 0)),(2999,(.hd 2))],[(3,t2),(4,(.i .i64)),(2000,t28)]⟩,[((.exit 0),⟨[],[(3,t2)]⟩)],λ k x=>Gl k x.1 x.2.1 x.2.2⟩
def El.d:Fd := { nt:=98,nv:=1,nm:=[0,1,3,4,5,6,7],res:=[2],cs:=λ k=>[(117,Gj.e k),(128,Hj.e k),(129,D6.e k)],ls:=[(9,J9.p),(3,Gl.p)],rf:=true }
def El.a (k:Nat):AC (El.d.cs k):=⟨Gj.s k,Hj.s k,D6.s k,trivial⟩
def J9.s:LL Tryz.f73 El.d 9 J9.p:=mL [] El.a trivial
def Gl.s:LL Tryz.f73 El.d 3 Gl.p:=mL [9] El.a ⟨J9.s,trivial⟩
def El.s (k:Nat):CK 73 (El.e k):=mS El.d k [3] Tryz.func73 (El.a k) ⟨Gl.s,trivial⟩
def Cl.e (k:Nat):Ent:=⟨1,[(.ptr t21 t21)],[(.one,t7)],λ x=>Cl k x⟩
def Fl.p:LF:=⟨⟨[(0,(.bp 0 0 0)),(1999,(.hd 3))],[(3,t7),(4,(.i .i64)),(1000,t21)]⟩,[((.exit 0),⟨[(1999,(.hd 3))],[(3,t7),(1000,t21)]⟩)],λ k x=>Fl k x.1 x.2.1 x.2.2⟩
def Cl.d:Fd := { nt:=17,nv:=1,nm:=[0,1,3,4],res:=[2],cs:=λ k=>[(127,Aa.e k)],ls:=[(3,Fl.p)],rf:=true }
def Cl.a (k:Nat):AC (Cl.d.cs k):=⟨Aa.s k,trivial⟩
def Fl.s:LL Tryz.f131 Cl.d 3 Fl.p:=mL [] Cl.a trivial
def Cl.s (k:Nat):CK 131 (Cl.e k):=mS Cl.d k [3] Tryz.func131 (Cl.a k) ⟨Fl.s,trivial⟩
def Fn.e (k:Nat):Ent:=⟨2,[(.ptr t21 t21),(.val false (.i .i64))],[(.one,t5)],λ x=>Fn k x.1 x.2⟩
def Fm.p:LF:=⟨⟨[(0,(.bp 0 0 0)),(1999,(.hd 3))],[(1,(.i .i64)),(5,t5),(6,(.i .i64)),(1000,t4),(1001,(.i .i64)),(1002,(.i .i64))]⟩,[((.exit 0),⟨[(1999,(.hd 3))],[(5,t5),(1000,t4),(1001,(.i .i64)),(1002,(.i .i64))]⟩)],λ k x=>Fm k x.1 x.2.1 x.2.2.1 x.2.2.2.1 x.2.2.2.2.1 x.2.2.2.2.2⟩
def Fn.d:Fd := { nt:=20,nv:=2,nm:=[0,1,2,3,5,6],res:=[4],cs:=λ k=>[(130,Fg.e k)],ls:=[(3,Fm.p)] }
def Fn.a (k:Nat):AC (Fn.d.cs k):=⟨Fg.s k,trivial⟩
def Fm.s:LL Tryz.f212 Fn.d 3 Fm.p:=mL [] Fn.a trivial
def Fn.s (k:Nat):CK 212 (Fn.e k):=mS Fn.d k [3] Tryz.func212 (Fn.a k) ⟨Fm.s,trivial⟩
def Dn.e (k:Nat):Ent:=⟨1,[(.ptr t21 t21)],[(.one,t5)],λ x=>Dn k x⟩
def Dn.d:Fd := { nt:=8,nv:=1,nm:=[0,1],res:=[2],cs:=λ k=>[(127,Aa.e k),(212,Fn.e k)] }
def Dn.s (k:Nat):CK 163 (Dn.e k):=mS Dn.d k [] Tryz.func163 ⟨Aa.s k,Fn.s k,trivial⟩ trivial
def Em.e (k:Nat):Ent:=⟨2,[(.ptr t21 t21),(.vw t51 2),(.hid t51 t51)],[(.agg,(.pr (.i .i64) (.pr (.i .i64) (.pr .s (.pr t5 (.pr (.i .i64) t7))))))],λ x=>Em k x.1 x.2.1 x.2.2⟩
def Em.d:Fd := { nt:=99,nv:=2,nm:=[0,1,2,3,5,6],res:=[],cs:=λ k=>[(58,B2.e k),(73,El.e k),(75,A3.e k),(127,Aa.e k),(131,Cl.e k),(163,Dn.e k)],mv:=[1,98],rf:=true }
def Em.s (k:Nat):CK 103 (Em.e k):=mS Em.d k [] Tryz.func103 ⟨B2.s k,El.s k,A3.s k,Aa.s k,Cl.s k,Dn.s k,trivial⟩ trivial
def E5.e (k:Nat):Ent:=⟨2,[(.ptr t21 t21),(.val false (.i .i64))],[(.agg,t51)],λ x=>E5 k x.1 x.2⟩
def Fo.p:LF:=⟨⟨[(0,(.bp 0 0 0)),(4,(.bp 4 0 0)),(5,(.bp 5 0 0)),(1999,(.hd 3)),(5999,(.hd 9)),(6999,(.hd 9))],[(6,(.i .i64)),(1000,t21),(5000,t50),(6000,t51)]⟩,[((.exit 0),⟨[(4,(.bp 4 0 0)),(5,(.bp 5 0 0)),(5999,(.hd 9)),(6999,(.hd 9)),(1999,(.hd 3))],[(5000,t50),(6000,t51),(1000,t21)]⟩)],λ k x=>Fo k x.1 x.2.1 x.2.2.1 x.2.2.2⟩
def E5.d:Fd := { nt:=21,nv:=2,nm:=[0,1,2,3,5,6],res:=[],cs:=λ k=>[(75,A3.e k),(101,Jz.e k),(102,Ik.e k),(103,Em.e k)],ls:=[(3,Fo.p)],mv:=[20],rf:=true }
def E5.a (k:Nat):AC (E5.d.cs k):=⟨A3.s k,Jz.s k,Ik.s k,Em.s k,trivial⟩
def Fo.s:LL Tryz.f45 E5.d 3 Fo.p:=mL [] E5.a trivial
def E5.s (k:Nat):CK 45 (E5.e k):=mS E5.d k [3] Tryz.func45 (E5.a k) ⟨Fo.s,trivial⟩
def B7.e (k:Nat):Ent:=⟨2,[(.ptr t21 t21),(.val false (.i .i64))],[(.one,.b)],λ x=>B7 x.1 x.2⟩
def B7.d:Fd := { nt:=9,nv:=2,nm:=[0,1,2,3],res:=[4],cs:=λ k=>[(75,A3.e k)] }
def B7.s (k:Nat):CK 74 (B7.e k):=mS B7.d k [] Tryz.func74 ⟨A3.s k,trivial⟩ trivial
def B3.e (k:Nat):Ent:=⟨1,[(.val true t48)],[(.agg,t50)],λ x=>B3 k x⟩
def Fp.p:LF:=⟨⟨[(1,(.bp 1 0 0)),(2,(.bp 2 0 0)),(3,(.bp 3 0 0)),(2999,(.hd 9)),(3999,(.hd 9)),(4999,(.hd 9))],[(5,(.i .i64)),(2000,t48),(3000,t50),(4000,t50)]⟩,[((.exit 2),⟨[(2,(.bp 2 0 0)),(3,(.bp 3 0 0)),(3999,(.hd 9)),(4999,(.hd 9))],[(3000,t50),(4000,t50)]⟩)],λ k x=>Fp k x.1 x.2.1 x.2.2.1 x.2.2.2⟩
def Fq.p:LF:=⟨⟨[(1,(.bp 1 0 0)),(2,(.bp 2 0 0)),(3,(.bp 3 0 0)),(2999,(.hd 9)),(3999,(.hd 9)),(4999,(.hd 9))],[(4,(.i .i64)),(2000,t48),(3000,t50),(4000,t50)]⟩,[((.exit 0),⟨[(1,(.bp 1 0 0)),(2,(.bp 2 0 0)),(3,(.bp 3 0 0)),(2999,(.hd 9)),(3999,(.hd 9)),(4999,(.hd 9))],[(2000,t48),(3000,t50),(4000,t50)]⟩)],λ k x=>Fq k x.1 x.2.1 x.2.2.1 x.2.2.2⟩
def B3.d:Fd := { nt:=62,nv:=1,nm:=[0,1,3,4,5,6],res:=[],cs:=λ k=>[(136,Ir.e k),(137,Bl.e k),(138,Br.e k)],ls:=[(7,Fp.p),(3,Fq.p)],mv:=[61],rf:=true }
def B3.a (k:Nat):AC (B3.d.cs k):=⟨Ir.s k,Bl.s k,Br.s k,trivial⟩
def Fp.s:LL Tryz.f79 B3.d 7 Fp.p:=mL [] B3.a trivial
def Fq.s:LL Tryz.f79 B3.d 3 Fq.p:=mL [] B3.a trivial
def B3.s (k:Nat):CK 79 (B3.e k):=mS B3.d k [3,7] Tryz.func79 (B3.a k) ⟨Fq.s,Fp.s,trivial⟩
def Ew.e (k:Nat):Ent:=⟨1,[(.ptr t21 t21)],[(.one,.s)],λ x=>Ew x⟩
def Ew.d:Fd := { nt:=10,nv:=1,nm:=[0,1],res:=[2],cs:=λ k=>[(58,B2.e k),(74,B7.e k),(115,Jf.e k)] }
def Ew.s (k:Nat):CK 187 (Ew.e k):=mS Ew.d k [] Tryz.func187 ⟨B2.s k,B7.s k,Jf.s k,trivial⟩ trivial
def I2.e (k:Nat):Ent:=⟨1,[(.ptr t21 t21)],[(.agg,t16)],λ x=>I2 x⟩
def I2.d:Fd := { nt:=11,nv:=1,nm:=[0,1],res:=[],cs:=λ k=>[(75,A3.e k),(127,Aa.e k)] }
def I2.s (k:Nat):CK 229 (I2.e k):=mS I2.d k [] Tryz.func229 ⟨A3.s k,Aa.s k,trivial⟩ trivial
def C4.e (k:Nat):Ent:=⟨1,[(.ptr t21 t21)],[(.agg,t26)],λ x=>C4 k x⟩
def C4.d:Fd := { nt:=16,nv:=1,nm:=[0,1,3],res:=[],cs:=λ k=>[(74,B7.e k),(163,Dn.e k),(229,I2.e k)],mv:=[15] }
def C4.s (k:Nat):CK 230 (C4.e k):=mS C4.d k [] Tryz.func230 ⟨B7.s k,Dn.s k,I2.s k,trivial⟩ trivial
def Ja.e (k:Nat):Ent:=⟨4,[(.val true t40),(.val false .s),(.val true t25),(.val false .b)],[(.agg,t42),(.one,(.i .i64))],λ x=>Ja k x.1 x.2.1 x.2.2.1 x.2.2.2⟩
def Ja.d:Fd := { nt:=34,nv:=4,nm:=[0,1,2,3,4,5,6,7,10,11],res:=[9],cs:=λ k=>[(67,Ap.e k),(68,Bz.e k),(125,C0.e k),(137,Bl.e k),(236,I0.e k)],mv:=[27,32] }
def Ja.s (k:Nat):CK 248 (Ja.e k):=mS Ja.d k [] Tryz.func248 ⟨Ap.s k,Bz.s k,C0.s k,Bl.s k,I0.s k,trivial⟩ trivial
def I3.e (k:Nat):Ent:=⟨2,[(.val true t40),(.val false t31)],[(.agg,t43),(.one,.b)],λ x=>I3 k x.1 x.2⟩
def I3.d:Fd := { nt:=25,nv:=2,nm:=[0,1,2,3,6],res:=[5],cs:=λ k=>[(125,C0.e k),(137,Bl.e k),(184,E9.e k),(201,Gv.e k)],mv:=[24] }
def I3.s (k:Nat):CK 249 (I3.e k):=mS I3.d k [] Tryz.func249 ⟨C0.s k,Bl.s k,E9.s k,Gv.s k,trivial⟩ trivial
def I4.e (k:Nat):Ent:=⟨1,[(.ptr t21 t21)],[(.agg,t27)],λ x=>I4 k x⟩
def I4.d:Fd := { nt:=8,nv:=1,nm:=[0,1],res:=[],cs:=λ k=>[(58,B2.e k),(230,C4.e k),(257,Ie.e k)] }
def I4.s (k:Nat):CK 252 (I4.e k):=mS I4.d k [] Tryz.func252 ⟨B2.s k,C4.s k,Ie.s k,trivial⟩ trivial
def Cv.e (k:Nat):Ent:=⟨1,[(.ptr t21 t21)],[(.one,t32)],λ x=>Cv k x⟩
def Fs.p:LF:=⟨⟨[(0,(.bp 0 0 0)),(1999,(.hd 3))],[(3,t32),(4,(.i .i64)),(1000,t4),(1001,(.i .i64)),(1002,(.i .i64))]⟩,[((.exit 0),⟨[(1999,(.hd 3))],[(3,t32),(1000,t4),(1001,(.i .i64)),(1002,(.i .i64))]⟩)],λ k x=>Fs k x.1 x.2.1 x.2.2.1 x.2.2.2.1 x.2.2.2.2⟩
def Cv.d:Fd := { nt:=17,nv:=1,nm:=[0,1,3,4],res:=[2],cs:=λ k=>[(75,A3.e k),(252,I4.e k),(253,Bs.e k)],ls:=[(3,Fs.p)] }
def Cv.a (k:Nat):AC (Cv.d.cs k):=⟨A3.s k,I4.s k,Bs.s k,trivial⟩
def Fs.s:LL Tryz.f250 Cv.d 3 Fs.p:=mL [] Cv.a trivial
def Cv.s (k:Nat):CK 250 (Cv.e k):=mS Cv.d k [3] Tryz.func250 (Cv.a k) ⟨Fs.s,trivial⟩
def D7.e (k:Nat):Ent:=⟨1,[(.ptr t21 t21)],[(.agg,t44)],λ x=>D7 k x⟩
def Cw.p:LF:=⟨⟨[(0,(.bp 0 0 0)),(2,(.bp 2 0 0)),(3,(.bp 3 0 0)),(1999,(.hd 3)),(3999,(.hd 5)),(4999,(.hd 5))],[(4,(.i .i64)),(1000,t4),(1001,(.i .i64)),(1002,(.i .i64)),(3000,(.i .i64)),(3001,t14),(3002,t14),(3003,t32),(3004,t32),(4000,(.i .i64)),(4001,t13),(4002,t13),(4003,t32),(4004,t32)]⟩,[((.exit 0),⟨[(0,(.bp 0 0 0)),(2,(.bp 2 0 0)),(3,(.bp 3 0 0)),(1999,(.hd 3)),(3999,(.hd 5)),(4999,(.hd 5))],[(1000,t4),(1001,(.i .i64)),(1002,(.i .i64)),(3000,(.i .i64)),(3001,t14),(3002,t14),(3003,t32),(3004,t32),(4000,(.i .i64)),(4001,t13),(4002,t13),(4003,t32),(4004,t32)]⟩)],λ k x=>Cw k x.1 x.2.1 x.2.2.1 x.2.2.2.1 x.2.2.2.2.1 x.2.2.2.2.2.1 x.2.2.2.2.2.2.1 x.2.2.2.2.2.2.2.1 x.2.2.2.2.2.2.2.2.1 x.2.2.2.2.2.2.2.2.2.1 x.2.2.2.2.2.2.2.2.2.2.1 x.2.2.2.2.2.2.2.2.2.2.2.1 x.2.2.2.2.2.2.2.2.2.2.2.2.1 x.2.2.2.2.2.2.2.2.2.2.2.2.2⟩
def D7.d:Fd := { nt:=47,nv:=1,nm:=[0,1,3,4],res:=[],cs:=λ k=>[(58,B2.e k),(74,B7.e k),(75,A3.e k),(204,Gi.e k),(209,E4.e k),(230,C4.e k),(248,Ja.e k),(249,I3.e k),(250,Cv.e k)],ls:=[(3,Cw.p)],mv:=[46] }
def D7.a (k:Nat):AC (D7.d.cs k):=⟨B2.s k,B7.s k,A3.s k,Gi.s k,E4.s k,C4.s k,Ja.s k,I3.s k,Cv.s k,trivial⟩
def Cw.s:LL Tryz.f226 D7.d 3 Cw.p:=mL [] D7.a trivial
def D7.s (k:Nat):CK 226 (D7.e k):=mS D7.d k [3] Tryz.func226 (D7.a k) ⟨Cw.s,trivial⟩
def Dp.e (k:Nat):Ent:=⟨1,[(.ptr t21 t21)],[(.agg,t29)],λ x=>Dp k x⟩
def Am.p:LF:=⟨⟨[(0,(.bp 0 0 0)),(2,(.bp 2 0 0)),(3,(.bp 3 0 0)),(1999,(.hd 3)),(3999,(.hd 2)),(4999,(.hd 2))],[(4,(.i .i64)),(1000,t4),(1001,(.i .i64)),(1002,(.i .i64)),(3000,t14),(3001,t14),(4000,t14),(4001,t14)]⟩,[((.exit 0),⟨[(2,(.bp 2 0 0)),(3,(.bp 3 0 0)),(3999,(.hd 2)),(4999,(.hd 2)),(1999,(.hd 3))],[(3000,t14),(3001,t14),(4000,t14),(4001,t14),(1000,t4),(1001,(.i .i64)),(1002,(.i .i64))]⟩)],λ k x=>Am k x.1 x.2.1 x.2.2.1 x.2.2.2.1 x.2.2.2.2.1 x.2.2.2.2.2.1 x.2.2.2.2.2.2.1 x.2.2.2.2.2.2.2⟩
def Dp.d:Fd := { nt:=44,nv:=1,nm:=[0,1,3,4,5],res:=[],cs:=λ k=>[(58,B2.e k),(75,A3.e k),(143,Bh.e k),(144,An.e k),(175,Bb.e k),(194,B5.e k),(230,C4.e k)],ls:=[(3,Am.p)],mv:=[43] }
def Dp.a (k:Nat):AC (Dp.d.cs k):=⟨B2.s k,A3.s k,Bh.s k,An.s k,Bb.s k,B5.s k,C4.s k,trivial⟩
def Am.s:LL Tryz.f251 Dp.d 3 Am.p:=mL [] Dp.a trivial
def Dp.s (k:Nat):CK 251 (Dp.e k):=mS Dp.d k [3] Tryz.func251 (Dp.a k) ⟨Am.s,trivial⟩
def Ih.e (k:Nat):Ent:=⟨1,[(.ptr t21 t21)],[(.agg,t29)],λ x=>Ih k x⟩
def Ih.d:Fd := { nt:=33,nv:=1,nm:=[0,1,3],res:=[],cs:=λ k=>[(75,A3.e k),(187,Ew.e k),(251,Dp.e k)],mv:=[32] }
def Ih.s (k:Nat):CK 227 (Ih.e k):=mS Ih.d k [] Tryz.func227 ⟨A3.s k,Ew.s k,Dp.s k,trivial⟩ trivial
def K8.e (k:Nat):Ent:=⟨1,[(.ptr t21 t21)],[(.one,t32)],λ x=>K8 k x⟩
def K8.d:Fd := { nt:=27,nv:=1,nm:=[0,1,3],res:=[2],cs:=λ k=>[(75,A3.e k),(127,Aa.e k),(250,Cv.e k),(252,I4.e k)] }
def K8.s (k:Nat):CK 228 (K8.e k):=mS K8.d k [] Tryz.func228 ⟨A3.s k,Aa.s k,Cv.s k,I4.s k,trivial⟩ trivial
def Eb.e (k:Nat):Ent:=⟨1,[(.ptr t21 t21)],[(.agg,t44)],λ x=>Eb k x⟩
def Ft.p:LF:=⟨⟨[(0,(.bp 0 0 0)),(2,(.bp 2 0 0)),(3,(.bp 3 0 0)),(1999,(.hd 3)),(3999,(.hd 5)),(4999,(.hd 5))],[(1000,t4),(1001,(.i .i64)),(1002,(.i .i64)),(3000,(.i .i64)),(3001,t14),(3002,t14),(3003,t32),(3004,t32),(4000,(.i .i64)),(4001,t13),(4002,t13),(4003,t31),(4004,t32)]⟩,[((.exit 1),⟨[(2,(.bp 2 0 0)),(3,(.bp 3 0 0)),(3999,(.hd 5)),(4999,(.hd 5)),(1999,(.hd 3))],[(3000,(.i .i64)),(3001,t14),(3002,t14),(3003,t32),(3004,t32),(4000,(.i .i64)),(4001,t13),(4002,t13),(4003,t31),(4004,t32),(1000,t4),(1001,(.i .i64)),(1002,(.i .i64))]⟩)],λ k x=>Ft k x.1 x.2.1 x.2.2.1 x.2.2.2.1 x.2.2.2.2.1 x.2.2.2.2.2.1 x.2.2.2.2.2.2.1 x.2.2.2.2.2.2.2.1 x.2.2.2.2.2.2.2.2.1 x.2.2.2.2.2.2.2.2.2.1 x.2.2.2.2.2.2.2.2.2.2.1 x.2.2.2.2.2.2.2.2.2.2.2.1 x.2.2.2.2.2.2.2.2.2.2.2.2⟩
def Eb.d:Fd := { nt:=50,nv:=1,nm:=[0,1,3],res:=[],cs:=λ k=>[(75,A3.e k),(127,Aa.e k),(187,Ew.e k),(226,D7.e k),(227,Ih.e k),(228,K8.e k)],ls:=[(12,Ft.p)],mv:=[49] }
def Eb.a (k:Nat):AC (Eb.d.cs k):=⟨A3.s k,Aa.s k,Ew.s k,D7.s k,Ih.s k,K8.s k,trivial⟩
def Ft.s:LL Tryz.f185 Eb.d 12 Ft.p:=mL [] Eb.a trivial
def Eb.s (k:Nat):CK 185 (Eb.e k):=mS Eb.d k [12] Tryz.func185 (Eb.a k) ⟨Ft.s,trivial⟩
def It.e (k:Nat):Ent:=⟨1,[(.ptr t21 t21)],[(.agg,t16)],λ x=>It x⟩
def It.d:Fd := { nt:=27,nv:=1,nm:=[0,1,3],res:=[],cs:=λ k=>[(75,A3.e k),(127,Aa.e k),(229,I2.e k)] }
def It.s (k:Nat):CK 186 (It.e k):=mS It.d k [] Tryz.func186 ⟨A3.s k,Aa.s k,I2.s k,trivial⟩ trivial
def Ko.e (k:Nat):Ent:=⟨1,[(.ptr t21 t21)],[(.agg,t26)],λ x=>Ko k x⟩
def Ko.d:Fd := { nt:=27,nv:=1,nm:=[0,1,3],res:=[],cs:=λ k=>[(75,A3.e k),(186,It.e k),(230,C4.e k)],mv:=[26] }
def Ko.s (k:Nat):CK 188 (Ko.e k):=mS Ko.d k [] Tryz.func188 ⟨A3.s k,It.s k,C4.s k,trivial⟩ trivial
def Dq.e (k:Nat):Ent:=⟨2,[(.ptr t21 t21),(.vw t51 2),(.hid t51 t48)],[(.agg,(.pr t23 (.pr t19 (.pr t46 (.pr t16 (.pr t35 t2))))))],λ x=>Dq k x.1 x.2.1 x.2.2⟩
def Dq.d:Fd := { nt:=100,nv:=2,nm:=[0,1,2,3,5],res:=[],cs:=λ k=>[(75,A3.e k),(79,B3.e k),(127,Aa.e k),(185,Eb.e k),(186,It.e k),(187,Ew.e k),(188,Ko.e k)],mv:=[1,99],rf:=true }
def Dq.s (k:Nat):CK 126 (Dq.e k):=mS Dq.d k [] Tryz.func126 ⟨A3.s k,B3.s k,Aa.s k,Eb.s k,It.s k,Ew.s k,Ko.s k,trivial⟩ trivial
def I5.e (k:Nat):Ent:=⟨2,[(.ptr t21 t21),(.val false (.i .i64))],[(.agg,t52)],λ x=>I5 k x.1 x.2⟩
def I5.d:Fd := { nt:=15,nv:=2,nm:=[0,1,2,3,5],res:=[],cs:=λ k=>[(45,E5.e k),(74,B7.e k),(126,Dq.e k)],mv:=[14],rf:=true }
def I5.s (k:Nat):CK 70 (I5.e k):=mS I5.d k [] Tryz.func70 ⟨E5.s k,B7.s k,Dq.s k,trivial⟩ trivial
def Hk.e (k:Nat):Ent:=⟨1,[(.ptr t21 t21)],[(.one,t6)],λ x=>Hk k x⟩
def Hk.d:Fd := { nt:=22,nv:=1,nm:=[0,1,3],res:=[2],cs:=λ k=>[(75,A3.e k),(127,Aa.e k),(131,Cl.e k)],rf:=true }
def Hk.s (k:Nat):CK 76 (Hk.e k):=mS Hk.d k [] Tryz.func76 ⟨A3.s k,Aa.s k,Cl.s k,trivial⟩ trivial
def Fu.e (k:Nat):Ent:=⟨2,[(.ptr t21 t21),(.vw t52 2),(.hid t52 t52)],[(.one,(.i .i64))],λ x=>Fu x.1 x.2.1 x.2.2⟩
def Fu.d:Fd := { nt:=21,nv:=2,nm:=[0,1,2,3],res:=[4],cs:=λ k=>[(74,B7.e k),(75,A3.e k),(127,Aa.e k)],mv:=[1],rf:=true }
def Fu.s (k:Nat):CK 71 (Fu.e k):=mS Fu.d k [] Tryz.func71 ⟨B7.s k,A3.s k,Aa.s k,trivial⟩ trivial
def Dr.e (k:Nat):Ent:=⟨1,[(.val false t4)],[(.agg,t52),(.one,(.i .i64)),(.one,.s),(.one,t6)],λ x=>Dr k x⟩
def Dr.d:Fd := { nt:=55,nv:=1,nm:=[0,1,6,7,8,9,10],res:=[3,4,5],cs:=λ k=>[(44,Kl.e k),(46,Jy.e k),(58,B2.e k),(70,I5.e k),(71,Fu.e k),(72,A6.e k),(73,El.e k),(74,B7.e k),(75,A3.e k),(76,Hk.e k)],mv:=[50],rf:=true }
def Dr.s (k:Nat):CK 27 (Dr.e k):=mS Dr.d k [] Tryz.func27 ⟨Kl.s k,Jy.s k,B2.s k,I5.s k,Fu.s k,A6.s k,El.s k,B7.s k,A3.s k,Hk.s k,trivial⟩ trivial
def F8.e (k:Nat):Ent:=⟨1,[(.val false t6)],[(.one,t7)],λ x=>F8 x⟩
def F8.d:Fd := { nt:=5,nv:=1,nm:=[0,1],res:=[2],rf:=true }
def F8.s (k:Nat):CK 82 (F8.e k):=mS F8.d k [] Tryz.func82 trivial trivial
def Dc.e (k:Nat):Ent:=⟨1,[(.val true t17)],[(.agg,t19)],λ x=>Dc k x⟩
def Eo.p:LF:=⟨⟨[(2,(.bp 2 0 0)),(3,(.bp 3 0 0)),(3999,(.hd 2)),(4999,(.hd 2))],[(10,t10),(11,(.i .i64)),(12,(.i .i64)),(3000,t19),(4000,t19)]⟩,[((.exit 0),⟨[(2,(.bp 2 0 0)),(3,(.bp 3 0 0)),(3999,(.hd 2)),(4999,(.hd 2))],[(3000,t19),(4000,t19)]⟩)],λ k x=>Eo k x.1 x.2.1 x.2.2.1 x.2.2.2.1 x.2.2.2.2⟩
def Dc.d:Fd := { nt:=27,nv:=1,nm:=[0,1,3,4,5],res:=[],cs:=λ k=>[(82,F8.e k)],ls:=[(3,Eo.p)],mv:=[26],rf:=true }
def Dc.a (k:Nat):AC (Dc.d.cs k):=⟨F8.s k,trivial⟩
def Eo.s:LL Tryz.f96 Dc.d 3 Eo.p:=mL [] Dc.a trivial
def Dc.s (k:Nat):CK 96 (Dc.e k):=mS Dc.d k [3] Tryz.func96 (Dc.a k) ⟨Eo.s,trivial⟩
def He.e (k:Nat):Ent:=⟨1,[(.val false t31)],[(.one,t32)],λ x=>He x⟩
def He.d:Fd := { nt:=5,nv:=1,nm:=[0,1],res:=[2] }
def He.s (k:Nat):CK 94 (He.e k):=mS He.d k [] Tryz.func94 trivial trivial
def C8.e (k:Nat):Ent:=⟨1,[(.val false t13)],[(.one,t14)],λ x=>C8 k x⟩
def Ds.p:LF:=⟨⟨[],[(3,t14),(6,t13),(7,(.i .i64)),(8,(.i .i64))]⟩,[((.exit 0),⟨[],[(3,t14)]⟩)],λ k x=>Ds k x.1 x.2.1 x.2.2.1 x.2.2.2⟩
def C8.d:Fd := { nt:=23,nv:=1,nm:=[0,1,3,4,5],res:=[2],cs:=λ k=>[(105,Av.e k)],ls:=[(3,Ds.p)] }
def C8.a (k:Nat):AC (C8.d.cs k):=⟨Av.s k,trivial⟩
def Ds.s:LL Tryz.f202 C8.d 3 Ds.p:=mL [] C8.a trivial
def C8.s (k:Nat):CK 202 (C8.e k):=mS C8.d k [3] Tryz.func202 (C8.a k) ⟨Ds.s,trivial⟩
def A9.e (k:Nat):Ent:=⟨1,[(.val true t28)],[(.agg,t29)],λ x=>A9 k x⟩
def A9.d:Fd := { nt:=10,nv:=1,nm:=[0,1],res:=[],cs:=λ k=>[(202,C8.e k)] }
def A9.s (k:Nat):CK 156 (A9.e k):=mS A9.d k [] Tryz.func156 ⟨C8.s k,trivial⟩ trivial
def I6.e (k:Nat):Ent:=⟨1,[(.val true t40)],[(.agg,t41)],λ x=>I6 k x⟩
def I6.d:Fd := { nt:=15,nv:=1,nm:=[0,1],res:=[],cs:=λ k=>[(94,He.e k),(156,A9.e k)] }
def I6.s (k:Nat):CK 97 (I6.e k):=mS I6.d k [] Tryz.func97 ⟨He.s k,A9.s k,trivial⟩ trivial
def I7.e (k:Nat):Ent:=⟨1,[(.val true t25)],[(.agg,t26)],λ x=>I7 x⟩
def I7.d:Fd := { nt:=8,nv:=1,nm:=[0,1],res:=[],cs:=λ k=>[(105,Av.e k)],mv:=[7],rf:=true }
def I7.s (k:Nat):CK 98 (I7.e k):=mS I7.d k [] Tryz.func98 ⟨Av.s k,trivial⟩ trivial
def Aw.e (k:Nat):Ent:=⟨1,[(.val true t48)],[(.agg,t50)],λ x=>Aw k x⟩
def Dt.p:LF:=⟨⟨[(2,(.bp 2 0 0)),(3,(.bp 3 0 0)),(3999,(.hd 9)),(4999,(.hd 9))],[(36,t35),(37,(.i .i64)),(38,(.i .i64)),(3000,t50),(4000,t50)]⟩,[((.exit 2),⟨[(2,(.bp 2 0 0)),(3,(.bp 3 0 0)),(3999,(.hd 9)),(4999,(.hd 9))],[(3000,t50),(4000,t50)]⟩)],λ k x=>Dt k x.1 x.2.1 x.2.2.1 x.2.2.2.1 x.2.2.2.2⟩
def Du.p:LF:=⟨⟨[(1,(.bp 1 0 0)),(2,(.bp 2 0 0)),(3,(.bp 3 0 0)),(2999,(.hd 9)),(3999,(.hd 9)),(4999,(.hd 9))],[(21,t45),(22,(.i .i64)),(23,(.i .i64)),(2000,t48),(3000,t50),(4000,t50)]⟩,[((.exit 0),⟨[(1,(.bp 1 0 0)),(2,(.bp 2 0 0)),(3,(.bp 3 0 0)),(2999,(.hd 9)),(3999,(.hd 9)),(4999,(.hd 9))],[(2000,t48),(3000,t50),(4000,t50)]⟩)],λ k x=>Du k x.1 x.2.1 x.2.2.1 x.2.2.2.1 x.2.2.2.2.1 x.2.2.2.2.2⟩
def Aw.d:Fd := { nt:=54,nv:=1,nm:=[0,1,3,4,5,6,7],res:=[],cs:=λ k=>[(96,Dc.e k),(97,I6.e k),(98,I7.e k)],ls:=[(8,Dt.p),(3,Du.p)],mv:=[53],rf:=true }
def Aw.a (k:Nat):AC (Aw.d.cs k):=⟨Dc.s k,I6.s k,I7.s k,trivial⟩
def Dt.s:LL Tryz.f41 Aw.d 8 Dt.p:=mL [] Aw.a trivial
def Du.s:LL Tryz.f41 Aw.d 3 Du.p:=mL [] Aw.a trivial
def Aw.s (k:Nat):CK 41 (Aw.e k):=mS Aw.d k [3,8] Tryz.func41 (Aw.a k) ⟨Du.s,Dt.s,trivial⟩
def Gc.e (k:Nat):Ent:=⟨1,[(.val false t22)],[(.one,.b)],λ x=>Gc k x⟩
def G5.p:LF:=⟨⟨[],[(0,t22),(5,t22),(6,(.i .i64)),(7,(.i .i64))]⟩,[(.ret,⟨[],[(2,.b)]⟩),((.exit 0),⟨[],[(0,t22)]⟩)],λ k x=>G5 k x.1 x.2.1 x.2.2.1 x.2.2.2⟩
def Gc.d:Fd := { nt:=47,nv:=1,nm:=[0,1,3,4],res:=[2],cs:=λ k=>[(42,Ee.e k)],ls:=[(2,G5.p)],rf:=true }
def Gc.a (k:Nat):AC (Gc.d.cs k):=⟨Ee.s k,trivial⟩
def G5.s:LL Tryz.f146 Gc.d 2 G5.p:=mL [] Gc.a trivial
def Gc.s (k:Nat):CK 146 (Gc.e k):=mS Gc.d k [2] Tryz.func146 (Gc.a k) ⟨G5.s,trivial⟩
def Jj.e (k:Nat):Ent:=⟨2,[(.val false t6),(.val false (.i .i64))],[(.one,.b)],λ x=>Jj k x.1 x.2⟩
def H3.p:LF:=⟨⟨[],[(1,(.i .i64)),(7,t6),(8,(.i .i64)),(9,(.i .i64))]⟩,[(.ret,⟨[],[(4,.b)]⟩),((.exit 0),⟨[],[]⟩)],λ k x=>H3 k x.1 x.2.1 x.2.2.1 x.2.2.2⟩
def Jj.d:Fd := { nt:=17,nv:=2,nm:=[0,1,2,3,5,6],res:=[4],ls:=[(2,H3.p)],rf:=true }
def H3.s:LL Tryz.f49 Jj.d 2 H3.p:=mL [] (λ _=>trivial) trivial
def Jj.s (k:Nat):CK 49 (Jj.e k):=mS Jj.d k [2] Tryz.func49 trivial ⟨H3.s,trivial⟩
def Ii.e (k:Nat):Ent:=⟨1,[(.val false t6)],[(.one,.b)],λ x=>Ii k x⟩
def I8.p:LF:=⟨⟨[],[(0,t6),(5,t6),(6,(.i .i64)),(7,(.i .i64))]⟩,[(.ret,⟨[],[(2,.b)]⟩),((.exit 0),⟨[],[]⟩)],λ k x=>I8 k x.1 x.2.1 x.2.2.1 x.2.2.2⟩
def Ii.d:Fd := { nt:=18,nv:=1,nm:=[0,1,3,4],res:=[2],cs:=λ k=>[(49,Jj.e k)],ls:=[(2,I8.p)],rf:=true }
def Ii.a (k:Nat):AC (Ii.d.cs k):=⟨Jj.s k,trivial⟩
def I8.s:LL Tryz.f147 Ii.d 2 I8.p:=mL [] Ii.a trivial
def Ii.s (k:Nat):CK 147 (Ii.e k):=mS Ii.d k [2] Tryz.func147 (Ii.a k) ⟨I8.s,trivial⟩
def Kq.e (k:Nat):Ent:=⟨2,[(.val false t22),(.val false (.i .i64))],[(.agg,t16),(.one,.b)],λ x=>Kq k x.1 x.2⟩
def I9.p:LF:=⟨⟨[(4,(.bp 4 0 0)),(5999,(.hd 3))],[(1,(.i .i64)),(8,t22),(9,(.i .i64)),(10,(.i .i64)),(5000,t16)]⟩,[(.ret,⟨[(4,(.bp 4 0 0)),(5999,(.hd 3))],[(5,.b),(5000,t16)]⟩),((.exit 0),⟨[(4,(.bp 4 0 0)),(5999,(.hd 3))],[(5000,t16)]⟩)],λ k x=>I9 k x.1 x.2.1 x.2.2.1 x.2.2.2.1 x.2.2.2.2⟩
def Kq.d:Fd := { nt:=21,nv:=2,nm:=[0,1,2,3,6,7],res:=[5],ls:=[(2,I9.p)],rf:=true }
def I9.s:LL Tryz.f148 Kq.d 2 I9.p:=mL [] (λ _=>trivial) trivial
def Kq.s (k:Nat):CK 148 (Kq.e k):=mS Kq.d k [2] Tryz.func148 trivial ⟨I9.s,trivial⟩
def F4.e (k:Nat):Ent:=⟨2,[(.val true t17),(.val false t22)],[(.one,.b)],λ x=>F4 k x.1 x.2⟩
def H4.p:LF:=⟨⟨[(2,(.bp 2 0 0)),(3999,(.hd 2))],[(1,t22),(28,t10),(29,(.i .i64)),(30,(.i .i64)),(47,t6),(48,(.i .i64)),(49,(.i .i64)),(3000,t17)]⟩,[(.ret,⟨[],[(4,.b)]⟩),((.exit 2),⟨[(2,(.bp 2 0 0)),(3999,(.hd 2))],[(1,t22),(28,t10),(29,(.i .i64)),(30,(.i .i64)),(3000,t17)]⟩)],λ k x=>H4 k x.1 x.2.1 x.2.2.1 x.2.2.2.1 x.2.2.2.2.1 x.2.2.2.2.2.1 x.2.2.2.2.2.2.1 x.2.2.2.2.2.2.2⟩
def H5.p:LF:=⟨⟨[(2,(.bp 2 0 0)),(3999,(.hd 2))],[(1,t22),(28,t10),(29,(.i .i64)),(30,(.i .i64)),(3000,t17)]⟩,[(.ret,⟨[],[(4,.b)]⟩),((.exit 0),⟨[],[]⟩)],λ k x=>H5 k x.1 x.2.1 x.2.2.1 x.2.2.2.1 x.2.2.2.2⟩
def F4.d:Fd := { nt:=63,nv:=2,nm:=[0,1,2,3,5,6,7,8,9,10],res:=[4],cs:=λ k=>[(42,Ee.e k),(146,Gc.e k),(147,Ii.e k),(148,Kq.e k)],ls:=[(9,H4.p),(4,H5.p)],rf:=true }
def F4.a (k:Nat):AC (F4.d.cs k):=⟨Ee.s k,Gc.s k,Ii.s k,Kq.s k,trivial⟩
def H4.s:LL Tryz.f84 F4.d 9 H4.p:=mL [] F4.a trivial
def H5.s:LL Tryz.f84 F4.d 4 H5.p:=mL [9] F4.a ⟨H4.s,trivial⟩
def F4.s (k:Nat):CK 84 (F4.e k):=mS F4.d k [4] Tryz.func84 (F4.a k) ⟨H5.s,trivial⟩
def Ar.e (k:Nat):Ent:=⟨1,[(.val false .s)],[(.one,.b)],λ x=>Ar k x⟩
def Aq.p:LF:=⟨⟨[],[(0,.s),(3,(.i .i64))]⟩,[(.ret,⟨[],[(2,.b)]⟩),((.exit 0),⟨[],[(0,.s)]⟩)],λ k x=>Aq k x.1 x.2⟩
def Ar.d:Fd := { nt:=45,nv:=1,nm:=[0,1,3,4],res:=[2],cs:=λ k=>[(42,Ee.e k)],ls:=[(2,Aq.p)] }
def Ar.a (k:Nat):AC (Ar.d.cs k):=⟨Ee.s k,trivial⟩
def Aq.s:LL Tryz.f88 Ar.d 2 Aq.p:=mL [] Ar.a trivial
def Ar.s (k:Nat):CK 88 (Ar.e k):=mS Ar.d k [2] Tryz.func88 (Ar.a k) ⟨Aq.s,trivial⟩
def Dd.e (k:Nat):Ent:=⟨1,[(.val true t48)],[(.one,.b)],λ x=>Dd k x⟩
def Ep.p:LF:=⟨⟨[(1,(.bp 1 0 0)),(2999,(.hd 9))],[(6,t35),(7,(.i .i64)),(8,(.i .i64)),(2000,t48)]⟩,[(.ret,⟨[],[(2,.b)]⟩),((.exit 0),⟨[(1,(.bp 1 0 0)),(2999,(.hd 9))],[(2000,t48)]⟩)],λ k x=>Ep k x.1 x.2.1 x.2.2.1 x.2.2.2⟩
def Dd.d:Fd := { nt:=35,nv:=1,nm:=[0,1,3,4],res:=[2],cs:=λ k=>[(12,Dx.e k),(88,Ar.e k),(149,Ff.e k)],ls:=[(2,Ep.p)],rf:=true }
def Dd.a (k:Nat):AC (Dd.d.cs k):=⟨Dx.s k,Ar.s k,Ff.s k,trivial⟩
def Ep.s:LL Tryz.f86 Dd.d 2 Ep.p:=mL [] Dd.a trivial
def Dd.s (k:Nat):CK 86 (Dd.e k):=mS Dd.d k [2] Tryz.func86 (Dd.a k) ⟨Ep.s,trivial⟩
def Jg.e (k:Nat):Ent:=⟨1,[(.val true t27)],[(.one,.b)],λ x=>Jg k x⟩
def Jg.d:Fd := { nt:=26,nv:=1,nm:=[0,1],res:=[2],cs:=λ k=>[(42,Ee.e k),(85,E3.e k),(88,Ar.e k)] }
def Jg.s (k:Nat):CK 150 (Jg.e k):=mS Jg.d k [] Tryz.func150 ⟨Ee.s k,E3.s k,Ar.s k,trivial⟩ trivial
def E6.e (k:Nat):Ent:=⟨1,[(.val false t13)],[(.one,.b)],λ x=>E6 k x⟩
def Er.p:LF:=⟨⟨[],[(0,t13),(5,t13),(6,(.i .i64)),(7,(.i .i64))]⟩,[(.ret,⟨[],[(2,.b)]⟩),((.exit 0),⟨[],[(0,t13)]⟩)],λ k x=>Er k x.1 x.2.1 x.2.2.1 x.2.2.2⟩
def E6.d:Fd := { nt:=41,nv:=1,nm:=[0,1,3,4],res:=[2],cs:=λ k=>[(88,Ar.e k)],ls:=[(2,Er.p)] }
def E6.a (k:Nat):AC (E6.d.cs k):=⟨Ar.s k,trivial⟩
def Er.s:LL Tryz.f198 E6.d 2 Er.p:=mL [] E6.a trivial
def E6.s (k:Nat):CK 198 (E6.e k):=mS E6.d k [2] Tryz.func198 (E6.a k) ⟨Er.s,trivial⟩
def Cf.e (k:Nat):Ent:=⟨1,[(.val true t28)],[(.one,.b)],λ x=>Cf k x⟩
def Cf.d:Fd := { nt:=11,nv:=1,nm:=[0,1],res:=[2],cs:=λ k=>[(198,E6.e k)] }
def Cf.s (k:Nat):CK 151 (Cf.e k):=mS Cf.d k [] Tryz.func151 ⟨E6.s k,trivial⟩ trivial
def Gd.e (k:Nat):Ent:=⟨1,[(.val false t31)],[(.one,.b)],λ x=>Gd k x⟩
def G6.p:LF:=⟨⟨[],[(0,t31),(5,t31),(6,(.i .i64)),(7,(.i .i64))]⟩,[(.ret,⟨[],[(2,.b)]⟩),((.exit 0),⟨[],[(0,t31)]⟩)],λ k x=>G6 k x.1 x.2.1 x.2.2.1 x.2.2.2⟩
def Gd.d:Fd := { nt:=34,nv:=1,nm:=[0,1,3,4],res:=[2],cs:=λ k=>[(150,Jg.e k)],ls:=[(2,G6.p)] }
def Gd.a (k:Nat):AC (Gd.d.cs k):=⟨Jg.s k,trivial⟩
def G6.s:LL Tryz.f152 Gd.d 2 G6.p:=mL [] Gd.a trivial
def Gd.s (k:Nat):CK 152 (Gd.e k):=mS Gd.d k [2] Tryz.func152 (Gd.a k) ⟨G6.s,trivial⟩
def Ge.e (k:Nat):Ent:=⟨1,[(.val true t40)],[(.one,.b)],λ x=>Ge k x⟩
def H6.p:LF:=⟨⟨[(1,(.bp 1 0 0)),(2999,(.hd 5))],[(6,t31),(7,(.i .i64)),(8,(.i .i64)),(2000,(.i .i64)),(2001,t13),(2002,t13),(2003,t31),(2004,t31)]⟩,[(.ret,⟨[],[(2,.b)]⟩),((.exit 0),⟨[(1,(.bp 1 0 0)),(2999,(.hd 5))],[(2000,(.i .i64)),(2001,t13),(2002,t13),(2003,t31),(2004,t31)]⟩)],λ k x=>H6 k x.1 x.2.1 x.2.2.1 x.2.2.2.1 x.2.2.2.2.1 x.2.2.2.2.2.1 x.2.2.2.2.2.2.1 x.2.2.2.2.2.2.2⟩
def Ge.d:Fd := { nt:=35,nv:=1,nm:=[0,1,3,4],res:=[2],cs:=λ k=>[(42,Ee.e k),(150,Jg.e k),(151,Cf.e k),(152,Gd.e k)],ls:=[(2,H6.p)] }
def Ge.a (k:Nat):AC (Ge.d.cs k):=⟨Ee.s k,Jg.s k,Cf.s k,Gd.s k,trivial⟩
def H6.s:LL Tryz.f87 Ge.d 2 H6.p:=mL [] Ge.a trivial
def Ge.s (k:Nat):CK 87 (Ge.e k):=mS Ge.d k [2] Tryz.func87 (Ge.a k) ⟨H6.s,trivial⟩
def C1.e (k:Nat):Ent:=⟨1,[(.val true t48)],[(.one,.b)],λ x=>C1 k x⟩
def Cq.p:LF:=⟨⟨[(1,(.bp 1 0 0)),(2999,(.hd 9))],[(57,t0),(58,(.i .i64)),(59,(.i .i64)),(2000,t48)]⟩,[(.ret,⟨[],[(2,.b)]⟩),((.exit 2),⟨[],[]⟩)],λ k x=>Cq k x.1 x.2.1 x.2.2.1 x.2.2.2⟩
def Es.p:LF:=⟨⟨[(1,(.bp 1 0 0)),(2999,(.hd 9))],[(34,t45),(35,(.i .i64)),(36,(.i .i64)),(2000,t48)]⟩,[(.ret,⟨[],[(2,.b)]⟩),((.exit 0),⟨[(1,(.bp 1 0 0)),(2999,(.hd 9))],[(2000,t48)]⟩)],λ k x=>Es k x.1 x.2.1 x.2.2.1 x.2.2.2⟩
def C1.d:Fd := { nt:=82,nv:=1,nm:=[0,1,3,4,5,6],res:=[2],cs:=λ k=>[(84,F4.e k),(85,E3.e k),(86,Dd.e k),(87,Ge.e k),(88,Ar.e k)],ls:=[(10,Cq.p),(4,Es.p)],rf:=true }
def C1.a (k:Nat):AC (C1.d.cs k):=⟨F4.s k,E3.s k,Dd.s k,Ge.s k,Ar.s k,trivial⟩
def Cq.s:LL Tryz.f32 C1.d 10 Cq.p:=mL [] C1.a trivial
def Es.s:LL Tryz.f32 C1.d 4 Es.p:=mL [] C1.a trivial
def C1.s (k:Nat):CK 32 (C1.e k):=mS C1.d k [4,10] Tryz.func32 (C1.a k) ⟨Es.s,Cq.s,trivial⟩
def Jk.e (k:Nat):Ent:=⟨2,[(.val true t48),(.val false (.i .i64))],[(.one,.b)],λ x=>Jk k x.1 x.2⟩
def Jk.d:Fd := { nt:=15,nv:=2,nm:=[0,1,2,3],res:=[4],cs:=λ k=>[(32,C1.e k),(42,Ee.e k)],rf:=true }
def Jk.s (k:Nat):CK 77 (Jk.e k):=mS Jk.d k [] Tryz.func77 ⟨C1.s k,Ee.s k,trivial⟩ trivial
def Ls.e (k:Nat):Ent:=⟨1,[(.val false .s)],[(.one,(.i .i64))],λ x=>Ls k x⟩
def Jb.p:LF:=⟨⟨[],[(0,.s),(3,(.i .u32)),(4,(.i .i64))]⟩,[((.exit 0),⟨[],[(3,(.i .u32))]⟩)],λ k x=>Jb k x.1 x.2.1 x.2.2⟩
def Ls.d:Fd := { nt:=20,nv:=1,nm:=[0,1,3,4],res:=[2],ls:=[(3,Jb.p)],rf:=true }
def Jb.s:LL Tryz.f145 Ls.d 3 Jb.p:=mL [] (λ _=>trivial) trivial
def Ls.s (k:Nat):CK 145 (Ls.e k):=mS Ls.d k [3] Tryz.func145 trivial ⟨Jb.s,trivial⟩
def Kx.e (k:Nat):Ent:=⟨2,[(.val false .s),(.val false (.i .i64))],[(.one,(.i .i64))],λ x=>Kx k x.1 x.2⟩
def Kx.d:Fd := { nt:=11,nv:=2,nm:=[0,1,2,3],res:=[4],cs:=λ k=>[(145,Ls.e k)],rf:=true }
def Kx.s (k:Nat):CK 83 (Kx.e k):=mS Kx.d k [] Tryz.func83 ⟨Ls.s k,trivial⟩ trivial
def Dy.e (k:Nat):Ent:=⟨2,[(.val true t17),(.val false .s)],[(.one,t7)],λ x=>Dy k x.1 x.2⟩
def Dy.d:Fd := { nt:=20,nv:=2,nm:=[0,1,2,3],res:=[4],cs:=λ k=>[(82,F8.e k),(83,Kx.e k)],rf:=true }
def Dy.s (k:Nat):CK 30 (Dy.e k):=mS Dy.d k [] Tryz.func30 ⟨F8.s k,Kx.s k,trivial⟩ trivial
def Hp.e (k:Nat):Ent:=⟨2,[(.val true t48),(.val false t6)],[(.one,t7)],λ x=>Hp k x.1 x.2⟩
def Dv.p:LF:=⟨⟨[(2,(.bp 2 0 0)),(3999,(.hd 9))],[(5,t7),(7,(.i .i64)),(10,t6),(11,(.i .i64)),(12,(.i .i64)),(17,t45),(18,(.i .i64)),(19,(.i .i64)),(3000,t48)]⟩,[((.exit 2),⟨[(2,(.bp 2 0 0)),(3999,(.hd 9))],[(5,t7),(10,t6),(11,(.i .i64)),(12,(.i .i64)),(3000,t48)]⟩)],λ k x=>Dv k x.1 x.2.1 x.2.2.1 x.2.2.2.1 x.2.2.2.2.1 x.2.2.2.2.2.1 x.2.2.2.2.2.2.1 x.2.2.2.2.2.2.2.1 x.2.2.2.2.2.2.2.2⟩
def Fv.p:LF:=⟨⟨[(2,(.bp 2 0 0)),(3999,(.hd 9))],[(5,t7),(10,t6),(11,(.i .i64)),(12,(.i .i64)),(3000,t48)]⟩,[((.exit 0),⟨[],[(5,t7)]⟩)],λ k x=>Fv k x.1 x.2.1 x.2.2.1 x.2.2.2.1 x.2.2.2.2⟩
def Hp.d:Fd := { nt:=35,nv:=2,nm:=[0,1,2,3,5,6,7,8,9],res:=[4],ls:=[(6,Dv.p),(3,Fv.p)],rf:=true }
def Dv.s:LL Tryz.f47 Hp.d 6 Dv.p:=mL [] (λ _=>trivial) trivial
def Fv.s:LL Tryz.f47 Hp.d 3 Fv.p:=mL [6] (λ _=>trivial) ⟨Dv.s,trivial⟩
def Hp.s (k:Nat):CK 47 (Hp.e k):=mS Hp.d k [3] Tryz.func47 trivial ⟨Fv.s,trivial⟩
def Jc.e (k:Nat):Ent:=⟨2,[(.val false t6),(.val false (.i .i64))],[(.one,(.i .i64))],λ x=>Jc x.1 x.2⟩
def Jc.d:Fd := { nt:=20,nv:=2,nm:=[0,1,2,3],res:=[4],cs:=λ k=>[(42,Ee.e k)],rf:=true }
def Jc.s (k:Nat):CK 132 (Jc.e k):=mS Jc.d k [] Tryz.func132 ⟨Ee.s k,trivial⟩ trivial
def Jd.e (k:Nat):Ent:=⟨2,[(.val false t13),(.val false .s)],[(.one,t13)],λ x=>Jd k x.1 x.2⟩
def Jd.d:Fd := { nt:=21,nv:=2,nm:=[0,1,2,3,5],res:=[4],cs:=λ k=>[(118,Kt.e k)] }
def Jd.s (k:Nat):CK 190 (Jd.e k):=mS Jd.d k [] Tryz.func190 ⟨Kt.s k,trivial⟩ trivial
def Lm.e (k:Nat):Ent:=⟨2,[(.val false t13),(.val true t11)],[(.one,t14)],λ x=>Lm k x.1 x.2⟩
def Ka.p:LF:=⟨⟨[(3,(.bp 3 0 0)),(4999,(.hd 2))],[(0,t13),(5,(.i .i64)),(4000,.s),(4001,t4)]⟩,[((.exit 0),⟨[(3,(.bp 3 0 0)),(4999,(.hd 2))],[(0,t13),(5,(.i .i64)),(4000,.s),(4001,t4)]⟩)],λ k x=>Ka k x.1 x.2.1 x.2.2.1 x.2.2.2⟩
def Lm.d:Fd := { nt:=33,nv:=2,nm:=[0,1,2,3,5],res:=[4],ls:=[(2,Ka.p)] }
def Ka.s:LL Tryz.f191 Lm.d 2 Ka.p:=mL [] (λ _=>trivial) trivial
def Lm.s (k:Nat):CK 191 (Lm.e k):=mS Lm.d k [2] Tryz.func191 trivial ⟨Ka.s,trivial⟩
def C5.e (k:Nat):Ent:=⟨2,[(.val true t28),(.val false .s)],[(.agg,(.pr t14 t13)),(.one,.b)],λ x=>C5 k x.1 x.2⟩
def C5.d:Fd := { nt:=50,nv:=2,nm:=[0,1,2,3,6,7],res:=[5],cs:=λ k=>[(88,Ar.e k),(105,Av.e k),(118,Kt.e k),(151,Cf.e k),(156,A9.e k),(190,Jd.e k),(191,Lm.e k)],mv:=[18,49] }
def C5.s (k:Nat):CK 135 (C5.e k):=mS C5.d k [] Tryz.func135 ⟨Ar.s k,Av.s k,Kt.s k,Cf.s k,A9.s k,Jd.s k,Lm.s k,trivial⟩ trivial
def Dz.e (k:Nat):Ent:=⟨3,[(.val true t28),(.val false .s),(.val false t4)],[(.agg,t29),(.one,.b)],λ x=>Dz k x.1 x.2.1 x.2.2⟩
def Dz.d:Fd := { nt:=42,nv:=3,nm:=[0,1,2,3,4,5,8],res:=[7],cs:=λ k=>[(88,Ar.e k),(105,Av.e k),(151,Cf.e k),(156,A9.e k),(190,Jd.e k),(191,Lm.e k)],mv:=[24,41] }
def Dz.s (k:Nat):CK 189 (Dz.e k):=mS Dz.d k [] Tryz.func189 ⟨Ar.s k,Av.s k,Cf.s k,A9.s k,Jd.s k,Lm.s k,trivial⟩ trivial
def M1.e (k:Nat):Ent:=⟨4,[(.val true t28),(.val false .s),(.val true t25),(.val false .b)],[(.agg,t28),(.one,(.i .i64))],λ x=>M1 k x.1 x.2.1 x.2.2.1 x.2.2.2⟩
def M1.d:Fd := { nt:=82,nv:=4,nm:=[0,1,2,3,4,5,6,7,10,11,12,13,14,15,16,17,18,19],res:=[9],cs:=λ k=>[(15,Je.e k),(61,F6.e k),(62,Gg.e k),(88,Ar.e k),(121,Ey.e k),(135,C5.e k),(149,Ff.e k),(151,Cf.e k),(156,A9.e k),(189,Dz.e k)],mv:=[80] }
def M1.s (k:Nat):CK 133 (M1.e k):=mS M1.d k [] Tryz.func133 ⟨Je.s k,F6.s k,Gg.s k,Ar.s k,Ey.s k,C5.s k,Ff.s k,Cf.s k,A9.s k,Dz.s k,trivial⟩ trivial
def Et.e (k:Nat):Ent:=⟨2,[(.val true t28),(.val false .s)],[(.agg,(.pr t13 t14)),(.one,.b)],λ x=>Et k x.1 x.2⟩
def Et.d:Fd := { nt:=26,nv:=2,nm:=[0,1,2,3,6],res:=[5],cs:=λ k=>[(118,Kt.e k),(151,Cf.e k),(156,A9.e k),(190,Jd.e k)],mv:=[19,25] }
def Et.s (k:Nat):CK 134 (Et.e k):=mS Et.d k [] Tryz.func134 ⟨Kt.s k,Cf.s k,A9.s k,Jd.s k,trivial⟩ trivial
def Ah.e (k:Nat):Ent:=⟨4,[(.ptr t51 t51),(.val false (.i .i64)),(.val false .s),(.val false t6)],[(.one,.b)],λ x=>Ah k x.1 x.2.1 x.2.2.1 x.2.2.2⟩
def Af.p:LF:=⟨⟨[(0,(.bp 0 0 0)),(9,(.bp 9 0 0)),(1999,(.hd 9)),(10999,(.hd 5))],[(1,(.i .i64)),(2,.s),(3,t6),(11,.b),(12,.b),(43,t7),(44,(.i .i64)),(45,(.i .i64)),(1000,t51),(10000,t25)]⟩,[((.exit 0),⟨[(0,(.bp 0 0 0)),(1999,(.hd 9))],[(1,(.i .i64)),(2,.s),(11,.b),(12,.b),(1000,t51)]⟩)],λ k x=>Af k x.1 x.2.1 x.2.2.1 x.2.2.2.1 x.2.2.2.2.1 x.2.2.2.2.2.1 x.2.2.2.2.2.2.1 x.2.2.2.2.2.2.2.1 x.2.2.2.2.2.2.2.2.1 x.2.2.2.2.2.2.2.2.2⟩
def Ah.d:Fd := { nt:=120,nv:=4,nm:=[0,1,2,3,4,5,6,7,9,10,11,12,13,14,15,16,17,18],res:=[8],cs:=λ k=>[(23,Jm.e k),(30,Dy.e k),(47,Hp.e k),(132,Jc.e k),(133,M1.e k),(134,Et.e k),(135,C5.e k)],ls:=[(6,Af.p)],rf:=true }
def Ah.a (k:Nat):AC (Ah.d.cs k):=⟨Jm.s k,Dy.s k,Hp.s k,Jc.s k,M1.s k,Et.s k,C5.s k,trivial⟩
def Af.s:LL Tryz.f78 Ah.d 6 Af.p:=mL [] Ah.a trivial
def Ah.s (k:Nat):CK 78 (Ah.e k):=mS Ah.d k [6] Tryz.func78 (Ah.a k) ⟨Af.s,trivial⟩
def Ia.e (k:Nat):Ent:=⟨4,[(.val true t48),(.val false (.i .i64)),(.val false .s),(.val false t6)],[(.agg,t51),(.one,.b)],λ x=>Ia k x.1 x.2.1 x.2.2.1 x.2.2.2⟩
def Ia.d:Fd := { nt:=27,nv:=4,nm:=[0,1,2,3,4,5,6,7,10],res:=[9],cs:=λ k=>[(41,Aw.e k),(77,Jk.e k),(78,Ah.e k)],mv:=[26],rf:=true }
def Ia.s (k:Nat):CK 28 (Ia.e k):=mS Ia.d k [] Tryz.func28 ⟨Aw.s k,Jk.s k,Ah.s k,trivial⟩ trivial
def F5.e (k:Nat):Ent:=⟨2,[(.val true t17),(.val false t22)],[(.one,.b)],λ x=>F5 k x.1 x.2⟩
def H7.p:LF:=⟨⟨[(2,(.bp 2 0 0)),(3999,(.hd 2))],[(1,t22),(5,(.i .i64)),(6,(.i .i64)),(3000,t17)]⟩,[(.ret,⟨[],[(4,.b)]⟩),((.exit 2),⟨[(2,(.bp 2 0 0)),(3999,(.hd 2))],[(1,t22),(5,(.i .i64)),(3000,t17)]⟩)],λ k x=>H7 k x.1 x.2.1 x.2.2.1 x.2.2.2⟩
def H8.p:LF:=⟨⟨[(2,(.bp 2 0 0)),(3999,(.hd 2))],[(1,t22),(5,(.i .i64)),(3000,t17)]⟩,[(.ret,⟨[],[(4,.b)]⟩),((.exit 0),⟨[],[]⟩)],λ k x=>H8 k x.1 x.2.1 x.2.2⟩
def F5.d:Fd := { nt:=68,nv:=2,nm:=[0,1,2,3,5,6,7,8],res:=[4],cs:=λ k=>[(72,A6.e k),(122,Bx.e k),(123,Ea.e k),(124,E7.e k)],ls:=[(9,H7.p),(4,H8.p)],rf:=true }
def F5.a (k:Nat):AC (F5.d.cs k):=⟨A6.s k,Bx.s k,Ea.s k,E7.s k,trivial⟩
def H7.s:LL Tryz.f64 F5.d 9 H7.p:=mL [] F5.a trivial
def H8.s:LL Tryz.f64 F5.d 4 H8.p:=mL [9] F5.a ⟨H7.s,trivial⟩
def F5.s (k:Nat):CK 64 (F5.e k):=mS F5.d k [4] Tryz.func64 (F5.a k) ⟨H8.s,trivial⟩
def De.e (k:Nat):Ent:=⟨1,[(.val true t48)],[(.one,.b)],λ x=>De k x⟩
def Eu.p:LF:=⟨⟨[(1,(.bp 1 0 0)),(2999,(.hd 9))],[(3,(.i .i64)),(2000,t48)]⟩,[(.ret,⟨[],[(2,.b)]⟩),((.exit 0),⟨[],[]⟩)],λ k x=>Eu k x.1 x.2⟩
def De.d:Fd := { nt:=40,nv:=1,nm:=[0,1,3],res:=[2],cs:=λ k=>[(125,C0.e k)],ls:=[(4,Eu.p)],rf:=true }
def De.a (k:Nat):AC (De.d.cs k):=⟨C0.s k,trivial⟩
def Eu.s:LL Tryz.f65 De.d 4 Eu.p:=mL [] De.a trivial
def De.s (k:Nat):CK 65 (De.e k):=mS De.d k [4] Tryz.func65 (De.a k) ⟨Eu.s,trivial⟩
def D8.e (k:Nat):Ent:=⟨1,[(.val true t48)],[(.one,.b)],λ x=>D8 k x⟩
def Cr.p:LF:=⟨⟨[(1,(.bp 1 0 0)),(2999,(.hd 9))],[(5,(.i .i64)),(2000,t48)]⟩,[(.ret,⟨[],[(2,.b)]⟩),((.exit 2),⟨[],[]⟩)],λ k x=>Cr k x.1 x.2⟩
def Fw.p:LF:=⟨⟨[(1,(.bp 1 0 0)),(2999,(.hd 9))],[(3,(.i .i64)),(2000,t48)]⟩,[(.ret,⟨[],[(2,.b)]⟩),((.exit 0),⟨[(1,(.bp 1 0 0)),(2999,(.hd 9))],[(2000,t48)]⟩)],λ k x=>Fw k x.1 x.2⟩
def D8.d:Fd := { nt:=91,nv:=1,nm:=[0,1,3,4,5],res:=[2],cs:=λ k=>[(64,F5.e k),(65,De.e k),(66,C6.e k),(67,Ap.e k),(68,Bz.e k),(69,C7.e k)],ls:=[(10,Cr.p),(4,Fw.p)],rf:=true }
def D8.a (k:Nat):AC (D8.d.cs k):=⟨F5.s k,De.s k,C6.s k,Ap.s k,Bz.s k,C7.s k,trivial⟩
def Cr.s:LL Tryz.f26 D8.d 10 Cr.p:=mL [] D8.a trivial
def Fw.s:LL Tryz.f26 D8.d 4 Fw.p:=mL [] D8.a trivial
def D8.s (k:Nat):CK 26 (D8.e k):=mS D8.d k [4,10] Tryz.func26 (D8.a k) ⟨Fw.s,Cr.s,trivial⟩
def Hf.e (k:Nat):Ent:=⟨2,[(.val true t48),(.val false (.i .i64))],[(.one,.b)],λ x=>Hf k x.1 x.2⟩
def Hf.d:Fd := { nt:=15,nv:=2,nm:=[0,1,2,3],res:=[4],cs:=λ k=>[(26,D8.e k),(72,A6.e k)],rf:=true }
def Hf.s (k:Nat):CK 80 (Hf.e k):=mS Hf.d k [] Tryz.func80 ⟨D8.s k,A6.s k,trivial⟩ trivial
def Iy.e (k:Nat):Ent:=⟨4,[(.val true t48),(.val false (.i .i64)),(.val false .s),(.val false t6)],[(.agg,t51),(.one,.b)],λ x=>Iy k x.1 x.2.1 x.2.2.1 x.2.2.2⟩
def Iy.d:Fd := { nt:=27,nv:=4,nm:=[0,1,2,3,4,5,6,7,10],res:=[9],cs:=λ k=>[(79,B3.e k),(80,Hf.e k),(81,Bf.e k)],mv:=[26],rf:=true }
def Iy.s (k:Nat):CK 29 (Iy.e k):=mS Iy.d k [] Tryz.func29 ⟨B3.s k,Hf.s k,Bf.s k,trivial⟩ trivial
def Ma.e (k:Nat):Ent:=⟨2,[(.val false t6),(.val false (.i .i64))],[(.one,.b)],λ x=>Ma k x.1 x.2⟩
def Kd.p:LF:=⟨⟨[],[(0,t6),(1,(.i .i64)),(5,(.i .i64))]⟩,[(.ret,⟨[],[(4,.b)]⟩),((.exit 0),⟨[],[]⟩)],λ k x=>Kd k x.1 x.2.1 x.2.2⟩
def Ma.d:Fd := { nt:=18,nv:=2,nm:=[0,1,2,3,5],res:=[4],ls:=[(2,Kd.p)],rf:=true }
def Kd.s:LL Tryz.f31 Ma.d 2 Kd.p:=mL [] (λ _=>trivial) trivial
def Ma.s (k:Nat):CK 31 (Ma.e k):=mS Ma.d k [2] Tryz.func31 trivial ⟨Kd.s,trivial⟩
def Ec.e (k:Nat):Ent:=⟨1,[(.val false t4)],[(.one,.b)],λ x=>Ec k x⟩
def Ca.p:LF:=⟨⟨[(3,(.bp 3 0 0)),(7,(.bp 7 0 0)),(11,(.bp 11 0 0)),(13,(.bp 13 0 0)),(4999,(.hd 9)),(8999,(.hd 9)),(12999,(.hd 9)),(14999,(.hd 5))],[(4,(.i .i64)),(5,.s),(15,t6),(16,(.i .i64)),(4000,t48),(8000,t48),(12000,t48),(14000,t25)]⟩,[(.ret,⟨[],[(2,.b)]⟩),((.exit 0),⟨[(3,(.bp 3 0 0)),(7,(.bp 7 0 0)),(11,(.bp 11 0 0)),(4999,(.hd 9)),(8999,(.hd 9)),(12999,(.hd 9))],[(4,(.i .i64)),(5,.s),(15,t6),(4000,t48),(8000,t48),(12000,t48)]⟩)],λ k x=>Ca k x.1 x.2.1 x.2.2.1 x.2.2.2.1 x.2.2.2.2.1 x.2.2.2.2.2.1 x.2.2.2.2.2.2.1 x.2.2.2.2.2.2.2⟩
def Ec.d:Fd := { nt:=156,nv:=1,nm:=[0,1,3,4,5,6,7,8,9,10,11,12,13,14,15,16,17,18,19,20],res:=[2],cs:=λ k=>[(8,Nt.e k),(15,Je.e k),(23,Jm.e k),(27,Dr.e k),(28,Ia.e k),(29,Iy.e k),(30,Dy.e k),(31,Ma.e k),(32,C1.e k)],ls:=[(14,Ca.p)],sh:=true,rf:=true }
def Ec.a (k:Nat):AC (Ec.d.cs k):=⟨Nt.s k,Je.s k,Jm.s k,Dr.s k,Ia.s k,Iy.s k,Dy.s k,Ma.s k,C1.s k,trivial⟩
def Ca.s:LL Tryz.f6 Ec.d 14 Ca.p:=mL [] Ec.a trivial
def Ec.s (k:Nat):CK 6 (Ec.e k):=mS Ec.d k [14] Tryz.func6 (Ec.a k) ⟨Ca.s,trivial⟩
end

end Go.Proofs.YtiiekghlhfbmmaaGreat.Vf
