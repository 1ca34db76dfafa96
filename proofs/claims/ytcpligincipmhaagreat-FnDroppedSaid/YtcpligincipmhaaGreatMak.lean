import Derived.Test.YtcpligincipmhaaGreatMab
import Derived.Test.YtcpligincipmhaaGreatMaj
import Derived.Test.YtcpligincipmhaaGreatProg
import Derived.KernelRfl
set_option linter.all false
namespace Go.Proofs.YtcpligincipmhaaGreat.Vf
open Go
open List (length getD)
open Int (toNat)
open Go.IntKind (wrap)
open BitVec (ofInt)

section
open Go.Proofs
@[reducible] def t0:Ty := .sl 9 .s
@[reducible] def t1:Ty := .sl 4 .b
@[reducible] def t2:Ty := .ow 9 .s
@[reducible] def t3:Ty := .ow 4 .b
@[reducible] def t4:Ty := .sl 5 (.i .u8)
@[reducible] def t5:Ty := .ow 5 (.i .u8)
@[reducible] def t6:Ty := .sl 3 (.i .i64)
@[reducible] def t7:Ty := .ow 3 (.i .i64)
@[reducible] def t8:Ty := .pr .s (.i .u64)
@[reducible] def t9:Ty := .pr (.i .i64) (.i .i64)
@[reducible] def t10:Ty := .sl 97 t6
@[reducible] def t11:Ty := .pr .s t4
@[reducible] def t12:Ty := .pr .s t5
@[reducible] def t13:Ty := .sl 139 t11
@[reducible] def t14:Ty := .ow 139 t11
@[reducible] def t15:Ty := .ow 139 t12
@[reducible] def t16:Ty := .pr (.i .i64) t9
@[reducible] def t17:Ty := .pr (.i .i64) t10
@[reducible] def t18:Ty := .pr (.i .i64) (.ow 97 t7)
@[reducible] def t19:Ty := .pr (.i .i64) (.ow 97 t6)
@[reducible] def t20:Ty := .pr t4 (.pr (.i .i64) .b)
@[reducible] def t21:Ty := .pr t4 t9
@[reducible] def t22:Ty := .sl 88 t16
@[reducible] def t23:Ty := .ow 88 t16
@[reducible] def t24:Ty := .pr (.i .i64) (.pr (.i .i64) (.pr .b (.i .u8)))
@[reducible] def t25:Ty := .pr t16 (.pr .b t4)
@[reducible] def t26:Ty := .pr t16 (.pr .b t5)
@[reducible] def t27:Ty := .pr .s (.pr t16 (.pr .b (.i .i64)))
@[reducible] def t28:Ty := .pr t13 t13
@[reducible] def t29:Ty := .pr t14 t14
@[reducible] def t30:Ty := .pr t15 t15
@[reducible] def t31:Ty := .sl 134 t27
@[reducible] def t32:Ty := .ow 134 t27
@[reducible] def t33:Ty := .pr .s (.pr t25 .b)
@[reducible] def t34:Ty := .pr (.i .i64) (.pr (.i .i64) (.pr .s (.pr t4 (.pr (.i .i64) t6))))
@[reducible] def t35:Ty := .sl 119 t33
@[reducible] def t36:Ty := .ow 119 t33
@[reducible] def t37:Ty := .pr t16 (.pr t35 t0)
@[reducible] def t38:Ty := .pr t32 t32
@[reducible] def t39:Ty := .pr t31 t32
@[reducible] def t40:Ty := .pr (.i .i64) (.pr t28 (.pr t31 t31))
@[reducible] def t41:Ty := .pr (.i .i64) (.pr t29 t38)
@[reducible] def t42:Ty := .pr (.i .i64) (.pr t28 t38)
@[reducible] def t43:Ty := .pr (.i .i64) (.pr t29 t39)
@[reducible] def t44:Ty := .pr (.i .i64) (.pr t28 t39)
@[reducible] def t45:Ty := .sl 56 t40
@[reducible] def t46:Ty := .ow 56 t40
@[reducible] def t47:Ty := .pr t46 (.pr t16 (.pr t36 t2))
@[reducible] def t48:Ty := .pr t22 (.pr t17 (.pr t45 t37))
@[reducible] def t49:Ty := .pr t23 (.pr t17 t47)
@[reducible] def t50:Ty := .pr t23 (.pr t19 t47)
@[reducible] def t51:Ty := .pr t23 (.pr t17 (.pr t46 (.pr t16 (.pr t36 t0))))
@[reducible] def t52:Ty := .pr t23 (.pr t17 (.pr t46 t37))
def tiL:List (Nat×TI):=[(2,⟨(.i .i64),false,8,[]⟩),
 (3,⟨(.i .i64),false,8,[]⟩),
 (4,⟨.b,false,1,[]⟩),
 (5,⟨(.i .u8),false,1,[]⟩),
 (6,⟨(.i .u8),false,1,[]⟩),
 (7,⟨t24,true,24,[(0,1,false),(1,1,false),(2,1,false),(3,1,false)]⟩),
 (8,⟨t24,true,24,[(0,1,false),(1,1,false),(2,1,false),(3,1,false)]⟩),
 (9,⟨.s,false,16,[]⟩),
 (10,⟨.s,false,16,[]⟩),
 (11,⟨.s,false,16,[]⟩),
 (12,⟨(.i .u64),false,8,[]⟩),
 (13,⟨t8,true,24,[(0,1,false),(1,1,false)]⟩),
 (14,⟨t8,true,24,[(0,1,false),(1,1,false)]⟩),
 (21,⟨(.i .i32),false,4,[]⟩),
 (22,⟨t4,false,24,[]⟩),
 (24,⟨t22,false,24,[]⟩),
 (25,⟨t10,false,24,[]⟩),
 (26,⟨t17,true,32,[(0,1,false),(1,1,false)]⟩),
 (27,⟨t17,true,32,[(0,1,false),(1,1,false)]⟩),
 (28,⟨t45,false,24,[]⟩),
 (29,⟨t16,true,24,[(0,1,false),(1,1,false),(2,1,false)]⟩),
 (30,⟨t16,true,24,[(0,1,false),(1,1,false),(2,1,false)]⟩),
 (31,⟨t35,false,24,[]⟩),
 (32,⟨t0,false,24,[]⟩),
 (33,⟨t48,true,152,[(0,1,false),(1,2,true),(3,1,false),(4,3,true),(7,1,false),(8,1,false)]⟩),
 (34,⟨t48,true,152,[(0,1,false),(1,2,true),(3,1,false),(4,3,true),(7,1,false),(8,1,false)]⟩),
 (35,⟨t6,false,24,[]⟩),
 (40,⟨t25,true,56,[(0,3,true),(3,1,false),(4,1,false)]⟩),
 (41,⟨t25,true,56,[(0,3,true),(3,1,false),(4,1,false)]⟩),
 (51,⟨t13,false,24,[]⟩),
 (52,⟨t28,true,48,[(0,1,false),(1,1,false)]⟩),
 (53,⟨t28,true,48,[(0,1,false),(1,1,false)]⟩),
 (54,⟨t31,false,24,[]⟩),
 (55,⟨t40,true,104,[(0,1,false),(1,2,true),(3,1,false),(4,1,false)]⟩),
 (56,⟨t40,true,104,[(0,1,false),(1,2,true),(3,1,false),(4,1,false)]⟩),
 (66,⟨t34,true,88,[(0,1,false),(1,1,false),(2,1,false),(3,1,false),(4,1,false),(5,1,false)]⟩),
 (67,⟨t34,true,88,[(0,1,false),(1,1,false),(2,1,false),(3,1,false),(4,1,false),(5,1,false)]⟩),
 (87,⟨t16,true,24,[(0,1,false),(1,1,false),(2,1,false)]⟩),
 (88,⟨t16,true,24,[(0,1,false),(1,1,false),(2,1,false)]⟩),
 (96,⟨t6,true,24,[(0,1,false)]⟩),
 (97,⟨t6,true,24,[(0,1,false)]⟩),
 (110,⟨t21,true,40,[(0,1,false),(1,1,false),(2,1,false)]⟩),
 (111,⟨t21,true,40,[(0,1,false),(1,1,false),(2,1,false)]⟩),
 (118,⟨t33,true,80,[(0,1,false),(1,5,true),(6,1,false)]⟩),
 (119,⟨t33,true,80,[(0,1,false),(1,5,true),(6,1,false)]⟩),
 (133,⟨t27,true,56,[(0,1,false),(1,3,true),(4,1,false),(5,1,false)]⟩),
 (134,⟨t27,true,56,[(0,1,false),(1,3,true),(4,1,false),(5,1,false)]⟩),
 (138,⟨t11,true,40,[(0,1,false),(1,1,false)]⟩),
 (139,⟨t11,true,40,[(0,1,false),(1,1,false)]⟩),
 (146,⟨t20,true,40,[(0,1,false),(1,1,false),(2,1,false)]⟩),
 (147,⟨t20,true,40,[(0,1,false),(1,1,false),(2,1,false)]⟩),
 (186,⟨(.i .u32),false,4,[]⟩),
 (191,⟨(.i .u64),false,8,[]⟩),
 (198,⟨t1,false,24,[]⟩),
 (238,⟨(.i .u8),false,1,[]⟩),
 (239,⟨(.i .u8),false,1,[]⟩),
 (242,⟨(.i .i32),false,4,[]⟩),
 (243,⟨(.i .i32),false,4,[]⟩)]
def ti:TypeId→Option TI:=lk tiL
def Cob:List Nat:=[29,30,87,88,133,134]
def eqs:TypeId→Bool:=λ T=>Cob.contains T
def sK:Aga Tryz.prog ti eqs∧∀ T,U2 Tryz.prog ti T=true:=F8b (P:=Tryz.prog) (ti:=ti) (eqs:=eqs) (keys:=tiL.map Prod.fst) (Cob:=Cob) Yta (by kernel_rfl) (by kernel_rfl) rfl (by kernel_rfl)
def sO:Aga Tryz.prog ti eqs:=sK.1
def G4b:∀ T t,ti T=some t→TOk Tryz.prog T t:=sO.tok
def G5b:∀ T,U2 Tryz.prog ti T=true:=sK.2
abbrev CK:=Q2 Tryz.prog
abbrev LL:=LK Tryz.prog
abbrev AC:=B2b Tryz.prog
def mS {f:FuncId} {fn:Func} (D:Fd) (k:Nat) {en:Ent} (ids:List Nat) (hf:Tryz.prog.funcs[f]? = some fn) (hc:AC (D.cs k)) (hi:B3b Tryz.prog fn D ids) (h:(F7b fn D en,Ml (bo fn),ids.map λ l=>first (Lo l (bo fn)))=(true,ids.map λ l=>Lo l (bo fn),ids):=by kernel_rfl) (hr:∀ x,Pwa (D.n ti eqs k) (bo fn) fn.results.toList en x=en.run x:=by intro x;kernel_rfl):CK f en:=mkS sO ids hf hc hi (congrArg Prod.fst h) (congrArg Prod.snd h) hr
def mL {fn:Func} {D:Fd} {l:Nat} {p:LF} (ids:List Nat) (hc:∀ k,AC (D.cs k)) (hi:B3b Tryz.prog fn D ids) (h:(Nat.beq D.nt fn.ntmps,Ml (Lo l (bo fn)),ids.map λ l=>first (Lo l (bo fn)))=(true,ids.map λ l=>Lo l (bo fn),ids):=by kernel_rfl) (h0:∀ x,p.f 0 x=none:=by intro _;rfl) (hs:Fvb ti eqs fn D l p:=by intro k x;kernel_rfl):LL fn D l p:=mkL sO ids (congrArg Prod.fst h) hc hi (congrArg Prod.snd h) h0 hs
def Nu.e (k:Nat):Ent:=⟨1,[(.val false t4)],[(.one,.b)],λ x=>Nu x⟩
def Nu.d:Fd := { nt:=6,nv:=1,nm:=[0,1],res:=[2] }
def Nu.s (k:Nat):CK 7 (Nu.e k):=mS Nu.d k [] Tryz.func7 trivial trivial
def Kt.e (k:Nat):Ent:=⟨1,[(.val false t4)],[(.ptr,t21)],λ x=>Kt k x⟩
def Ic.p:LF:=⟨⟨[],[(0,t4),(3,(.i .i64)),(4,(.i .i64))]⟩,[((.exit 0),⟨[],[(0,t4),(3,(.i .i64))]⟩)],λ k x=>Ic k x.1 x.2.1 x.2.2⟩
def Kt.d:Fd := { nt:=32,nv:=1,nm:=[0,1,3,4],res:=[2],ls:=[(3,Ic.p)] }
def Ic.s:LL Tryz.f30 Kt.d 3 Ic.p:=mL [] (λ _=>trivial) trivial
def Kt.s (k:Nat):CK 30 (Kt.e k):=mS Kt.d k [3] Tryz.func30 trivial ⟨Ic.s,trivial⟩
def Fv.e (k:Nat):Ent:=⟨1,[(.ptr t21 t21)],[(.one,(.i .i64))],λ x=>Fv x⟩
def Fv.d:Fd := { nt:=58,nv:=1,nm:=[0,1,3],res:=[2] }
def Fv.s (k:Nat):CK 141 (Fv.e k):=mS Fv.d k [] Tryz.func141 trivial trivial
def A3.e (k:Nat):Ent:=⟨2,[(.ptr t21 t21),(.val false (.i .i64))],[(.one,(.i .i64))],λ x=>A3 x.1 x.2⟩
def A3.d:Fd := { nt:=31,nv:=2,nm:=[0,1,2,3,5,6,7],res:=[4],cs:=λ k=>[(141,Fv.e k)] }
def A3.s (k:Nat):CK 78 (A3.e k):=mS A3.d k [] Tryz.func78 ⟨Fv.s k,trivial⟩ trivial
def A8.e (k:Nat):Ent:=⟨3,[(.val false (.i .i64)),(.val false (.i .i64)),(.val false (.i .i64))],[(.one,.b)],λ x=>A8 x.1 x.2.1 x.2.2⟩
def A8.d:Fd := { nt:=15,nv:=3,nm:=[0,1,2,3,4,5],res:=[6] }
def A8.s (k:Nat):CK 97 (A8.e k):=mS A8.d k [] Tryz.func97 trivial trivial
def Bw.e (k:Nat):Ent:=⟨1,[(.val false t22)],[(.one,.b)],λ x=>Bw k x⟩
def Gk.p:LF:=⟨⟨[],[(0,t22),(3,(.i .i64))]⟩,[(.ret,⟨[],[(2,.b)]⟩),((.exit 0),⟨[],[(0,t22)]⟩)],λ k x=>Gk k x.1 x.2⟩
def Bw.d:Fd := { nt:=49,nv:=1,nm:=[0,1,3,4],res:=[2],cs:=λ k=>[(97,A8.e k)],ls:=[(2,Gk.p)],rf:=true }
def Bw.a (k:Nat):AC (Bw.d.cs k):=⟨A8.s k,trivial⟩
def Gk.s:LL Tryz.f112 Bw.d 2 Gk.p:=mL [] Bw.a trivial
def Bw.s (k:Nat):CK 112 (Bw.e k):=mS Bw.d k [2] Tryz.func112 (Bw.a k) ⟨Gk.s,trivial⟩
def Eh.e (k:Nat):Ent:=⟨2,[(.val false t22),(.val false (.i .i64))],[(.agg,t16),(.one,.b)],λ x=>Eh k x.1 x.2⟩
def Id.p:LF:=⟨⟨[(4,(.bp 4 0 0)),(5999,(.hd 3))],[(0,t22),(1,(.i .i64)),(6,(.i .i64)),(5000,t16)]⟩,[(.ret,⟨[(4,(.bp 4 0 0)),(5999,(.hd 3))],[(5,.b),(5000,t16)]⟩),((.exit 0),⟨[(4,(.bp 4 0 0)),(5999,(.hd 3))],[(5000,t16)]⟩)],λ k x=>Id k x.1 x.2.1 x.2.2.1 x.2.2.2⟩
def Eh.d:Fd := { nt:=25,nv:=2,nm:=[0,1,2,3,6],res:=[5],ls:=[(2,Id.p)],rf:=true }
def Id.s:LL Tryz.f146 Eh.d 2 Id.p:=mL [] (λ _=>trivial) trivial
def Eh.s (k:Nat):CK 146 (Eh.e k):=mS Eh.d k [2] Tryz.func146 trivial ⟨Id.s,trivial⟩
def Cm.e (k:Nat):Ent:=⟨2,[(.val false t6),(.val false (.i .i64))],[(.one,.b)],λ x=>Cm k x.1 x.2⟩
def Ie.p:LF:=⟨⟨[],[(0,t6),(1,(.i .i64)),(5,(.i .i64))]⟩,[(.ret,⟨[],[(4,.b)]⟩),((.exit 0),⟨[],[]⟩)],λ k x=>Ie k x.1 x.2.1 x.2.2⟩
def Cm.d:Fd := { nt:=18,nv:=2,nm:=[0,1,2,3,5],res:=[4],ls:=[(2,Ie.p)],rf:=true }
def Ie.s:LL Tryz.f162 Cm.d 2 Ie.p:=mL [] (λ _=>trivial) trivial
def Cm.s (k:Nat):CK 162 (Cm.e k):=mS Cm.d k [2] Tryz.func162 trivial ⟨Ie.s,trivial⟩
def D0.e (k:Nat):Ent:=⟨2,[(.val false t6),(.val false t22)],[(.one,t7)],λ x=>D0 k x.1 x.2⟩
def Dr.p:LF:=⟨⟨[],[(0,t6),(1,t22),(5,t7),(6,(.i .i64))]⟩,[((.exit 0),⟨[],[(5,t7)]⟩)],λ k x=>Dr k x.1 x.2.1 x.2.2.1 x.2.2.2⟩
def D0.d:Fd := { nt:=39,nv:=2,nm:=[0,1,2,3,5,6,7,8],res:=[4],cs:=λ k=>[(146,Eh.e k),(162,Cm.e k)],ls:=[(3,Dr.p)],rf:=true }
def D0.a (k:Nat):AC (D0.d.cs k):=⟨Eh.s k,Cm.s k,trivial⟩
def Dr.s:LL Tryz.f161 D0.d 3 Dr.p:=mL [] D0.a trivial
def D0.s (k:Nat):CK 161 (D0.e k):=mS D0.d k [3] Tryz.func161 (D0.a k) ⟨Dr.s,trivial⟩
def Cs.e (k:Nat):Ent:=⟨2,[(.val true t17),(.val false (.i .i64))],[(.one,(.i .i64))],λ x=>Cs k x.1 x.2⟩
def Gl.p:LF:=⟨⟨[(2,(.bp 2 0 0)),(3999,(.hd 2))],[(1,(.i .i64)),(5,(.i .i64)),(6,(.i .i64)),(7,(.i .i64)),(3000,t17)]⟩,[((.exit 2),⟨[(2,(.bp 2 0 0)),(3999,(.hd 2))],[(1,(.i .i64)),(5,(.i .i64)),(6,(.i .i64)),(3000,t17)]⟩)],λ k x=>Gl k x.1 x.2.1 x.2.2.1 x.2.2.2.1 x.2.2.2.2⟩
def Hd.p:LF:=⟨⟨[(2,(.bp 2 0 0)),(3999,(.hd 2))],[(1,(.i .i64)),(5,(.i .i64)),(6,(.i .i64)),(3000,t17)]⟩,[((.exit 0),⟨[],[(5,(.i .i64))]⟩)],λ k x=>Hd k x.1 x.2.1 x.2.2.1 x.2.2.2⟩
def Cs.d:Fd := { nt:=40,nv:=2,nm:=[0,1,2,3,5,6,7],res:=[4],ls:=[(6,Gl.p),(3,Hd.p)],rf:=true }
def Gl.s:LL Tryz.f163 Cs.d 6 Gl.p:=mL [] (λ _=>trivial) trivial
def Hd.s:LL Tryz.f163 Cs.d 3 Hd.p:=mL [6] (λ _=>trivial) ⟨Gl.s,trivial⟩
def Cs.s (k:Nat):CK 163 (Cs.e k):=mS Cs.d k [3] Tryz.func163 trivial ⟨Hd.s,trivial⟩
def I7.e (k:Nat):Ent:=⟨3,[(.val true t17),(.val true t6),(.val false t22)],[(.one,(.i .i64))],λ x=>I7 k x.1 x.2.1 x.2.2⟩
def Bs.p:LF:=⟨⟨[(3,(.bp 3 0 0)),(4,(.bp 4 0 0)),(4999,(.hd 2)),(5999,(.hd 1))],[(2,t22),(7,t7),(8,(.i .i64)),(9,.b),(10,(.i .i64)),(4000,t17),(5000,t6)]⟩,[((.exit 0),⟨[],[(2,t22),(8,(.i .i64))]⟩)],λ k x=>Bs k x.1 x.2.1 x.2.2.1 x.2.2.2.1 x.2.2.2.2.1 x.2.2.2.2.2.1 x.2.2.2.2.2.2⟩
def I7.d:Fd := { nt:=88,nv:=3,nm:=[0,1,2,3,4,5,7,8,9,10,11,12],res:=[6],cs:=λ k=>[(112,Bw.e k),(161,D0.e k),(162,Cm.e k),(163,Cs.e k)],ls:=[(5,Bs.p)],rf:=true }
def I7.a (k:Nat):AC (I7.d.cs k):=⟨Bw.s k,D0.s k,Cm.s k,Cs.s k,trivial⟩
def Bs.s:LL Tryz.f113 I7.d 5 Bs.p:=mL [] I7.a trivial
def I7.s (k:Nat):CK 113 (I7.e k):=mS I7.d k [5] Tryz.func113 (I7.a k) ⟨Bs.s,trivial⟩
def Hb.e (k:Nat):Ent:=⟨3,[(.val false t22),(.val false (.i .i64)),(.val false (.i .i64))],[(.agg,t18),(.one,.b)],λ x=>Hb k x.1 x.2.1 x.2.2⟩
def Ig.p:LF:=⟨⟨[(6,(.bp 6 0 0)),(8,(.bp 8 0 0)),(7999,(.hd 2)),(9999,(.hd 2))],[(0,t22),(1,(.i .i64)),(2,(.i .i64)),(9,(.i .i64)),(10,(.i .i64)),(7000,t19),(9000,t18)]⟩,[((.exit 2),⟨[(6,(.bp 6 0 0)),(8,(.bp 8 0 0)),(7999,(.hd 2)),(9999,(.hd 2))],[(0,t22),(1,(.i .i64)),(2,(.i .i64)),(9,(.i .i64)),(7000,t19),(9000,t18)]⟩)],λ k x=>Ig k x.1 x.2.1 x.2.2.1 x.2.2.2.1 x.2.2.2.2.1 x.2.2.2.2.2.1 x.2.2.2.2.2.2⟩
def Ih.p:LF:=⟨⟨[(6,(.bp 6 0 0)),(8,(.bp 8 0 0)),(7999,(.hd 2)),(9999,(.hd 2))],[(0,t22),(1,(.i .i64)),(2,(.i .i64)),(9,(.i .i64)),(7000,t19),(9000,t18)]⟩,[((.exit 0),⟨[(6,(.bp 6 0 0)),(8,(.bp 8 0 0)),(7999,(.hd 2)),(9999,(.hd 2))],[(7000,t19),(9000,t18)]⟩)],λ k x=>Ih k x.1 x.2.1 x.2.2.1 x.2.2.2.1 x.2.2.2.2.1 x.2.2.2.2.2⟩
def Hb.d:Fd := { nt:=73,nv:=3,nm:=[0,1,2,3,4,5,8,9,10,11],res:=[7],cs:=λ k=>[(97,A8.e k),(112,Bw.e k),(113,I7.e k)],ls:=[(9,Ig.p),(5,Ih.p)],hint:=[(42,t7),(43,t7)],mv:=[72],gh:=[(12,[.od 54 3001]),(1000010,[.cl 9001])],rf:=true }
def Hb.a (k:Nat):AC (Hb.d.cs k):=⟨A8.s k,Bw.s k,I7.s k,trivial⟩
def Ig.s:LL Tryz.f53 Hb.d 9 Ig.p:=mL [] Hb.a trivial
def Ih.s:LL Tryz.f53 Hb.d 5 Ih.p:=mL [9] Hb.a ⟨Ig.s,trivial⟩
def Hb.s (k:Nat):CK 53 (Hb.e k):=mS Hb.d k [5] Tryz.func53 (Hb.a k) ⟨Ih.s,trivial⟩
def H5.e (k:Nat):Ent:=⟨1,[(.val false (.i .i64))],[(.agg,t41)],λ x=>H5 x⟩
def H5.d:Fd := { nt:=9,nv:=1,nm:=[0,1],res:=[],cs:=λ k=>[(97,A8.e k)] }
def H5.s (k:Nat):CK 54 (H5.e k):=mS H5.d k [] Tryz.func54 ⟨A8.s k,trivial⟩ trivial
def Ci.e (k:Nat):Ent:=⟨3,[(.val false t22),(.val false (.i .i64)),(.val false (.i .i64))],[(.agg,t49)],λ x=>Ci k x.1 x.2.1 x.2.2⟩
def Es.p:LF:=⟨⟨[(6,(.bp 6 0 0)),(9,(.bp 9 0 0)),(7999,(.hd 9)),(10999,(.hd 9))],[(0,t22),(10,(.i .i64)),(7000,t50),(10000,t49)]⟩,[((.exit 0),⟨[(6,(.bp 6 0 0)),(9,(.bp 9 0 0)),(7999,(.hd 9)),(10999,(.hd 9))],[(7000,t50),(10000,t49)]⟩)],λ k x=>Es k x.1 x.2.1 x.2.2.1 x.2.2.2⟩
def Ci.d:Fd := { nt:=44,nv:=3,nm:=[0,1,2,3,4,5,7,8,9,10],res:=[],cs:=λ k=>[(53,Hb.e k),(54,H5.e k)],ls:=[(6,Es.p)],mv:=[43],rf:=true }
def Ci.a (k:Nat):AC (Ci.d.cs k):=⟨Hb.s k,H5.s k,trivial⟩
def Es.s:LL Tryz.f16 Ci.d 6 Es.p:=mL [] Ci.a trivial
def Ci.s (k:Nat):CK 16 (Ci.e k):=mS Ci.d k [6] Tryz.func16 (Ci.a k) ⟨Es.s,trivial⟩
def Aa.e (k:Nat):Ent:=⟨2,[(.ptr t21 t21),(.val false t6)],[(.one,(.i .i64))],λ x=>Aa x.1 x.2⟩
def Aa.d:Fd := { nt:=12,nv:=2,nm:=[0,1,2,3],res:=[4],cs:=λ k=>[(78,A3.e k)] }
def Aa.s (k:Nat):CK 34 (Aa.e k):=mS Aa.d k [] Tryz.func34 ⟨A3.s k,trivial⟩ trivial
def Gy.e (k:Nat):Ent:=⟨1,[(.ptr t21 t21)],[(.one,t23)],λ x=>Gy k x⟩
def He.p:LF:=⟨⟨[(0,(.bp 0 0 0)),(1999,(.hd 3))],[(3,t23),(4,(.i .i64)),(5,(.i .i64)),(6,(.i .i64)),(1000,t21)]⟩,[((.exit 0),⟨[(1999,(.hd 3))],[(3,t23),(1000,t21)]⟩)],λ k x=>He k x.1 x.2.1 x.2.2.1 x.2.2.2.1 x.2.2.2.2⟩
def Gy.d:Fd := { nt:=35,nv:=1,nm:=[0,1,3,4,5,6],res:=[2],cs:=λ k=>[(34,Aa.e k),(78,A3.e k)],ls:=[(5,He.p)],rf:=true }
def Gy.a (k:Nat):AC (Gy.d.cs k):=⟨Aa.s k,A3.s k,trivial⟩
def He.s:LL Tryz.f65 Gy.d 5 He.p:=mL [] Gy.a trivial
def Gy.s (k:Nat):CK 65 (Gy.e k):=mS Gy.d k [5] Tryz.func65 (Gy.a k) ⟨He.s,trivial⟩
def Kd.e (k:Nat):Ent:=⟨1,[(.ptr t21 t21)],[(.agg,t49)],λ x=>Kd k x⟩
def Kd.d:Fd := { nt:=22,nv:=1,nm:=[0,1,3,4],res:=[],cs:=λ k=>[(16,Ci.e k),(34,Aa.e k),(65,Gy.e k)],rf:=true }
def Kd.s (k:Nat):CK 135 (Kd.e k):=mS Kd.d k [] Tryz.func135 ⟨Ci.s k,Aa.s k,Gy.s k,trivial⟩ trivial
def Ar.e (k:Nat):Ent:=⟨1,[(.val false .s)],[(.one,.b)],λ x=>Ar k x⟩
def Db.p:LF:=⟨⟨[],[(0,.s),(3,(.i .i64))]⟩,[(.ret,⟨[],[(2,.b)]⟩),((.exit 0),⟨[],[(0,.s)]⟩)],λ k x=>Db k x.1 x.2⟩
def Ar.d:Fd := { nt:=38,nv:=1,nm:=[0,1,3,4],res:=[2],cs:=λ k=>[(97,A8.e k)],ls:=[(2,Db.p)] }
def Ar.a (k:Nat):AC (Ar.d.cs k):=⟨A8.s k,trivial⟩
def Db.s:LL Tryz.f94 Ar.d 2 Db.p:=mL [] Ar.a trivial
def Ar.s (k:Nat):CK 94 (Ar.e k):=mS Ar.d k [2] Tryz.func94 (Ar.a k) ⟨Db.s,trivial⟩
def C4.e (k:Nat):Ent:=⟨1,[(.val true t16)],[(.one,.b)],λ x=>C4 x⟩
def C4.d:Fd := { nt:=16,nv:=1,nm:=[0,1],res:=[2],cs:=λ k=>[(97,A8.e k)] }
def C4.s (k:Nat):CK 93 (C4.e k):=mS C4.d k [] Tryz.func93 ⟨A8.s k,trivial⟩ trivial
def Hf.e (k:Nat):Ent:=⟨3,[(.val true t16),(.val false (.i .i64)),(.val false (.i .i64))],[(.agg,t16)],λ x=>Hf x.1 x.2.1 x.2.2⟩
def Hf.d:Fd := { nt:=27,nv:=3,nm:=[0,1,2,3,4,5,7],res:=[],cs:=λ k=>[(93,C4.e k)],rf:=true }
def Hf.s (k:Nat):CK 98 (Hf.e k):=mS Hf.d k [] Tryz.func98 ⟨C4.s k,trivial⟩ trivial
def Bo.e (k:Nat):Ent:=⟨1,[(.val true t25)],[(.agg,t26)],λ x=>Bo x⟩
def Bo.d:Fd := { nt:=9,nv:=1,nm:=[0,1],res:=[],mv:=[8],rf:=true }
def Bo.s (k:Nat):CK 90 (Bo.e k):=mS Bo.d k [] Tryz.func90 trivial trivial
def Bb.e (k:Nat):Ent:=⟨2,[(.val true t48),(.val false t6)],[(.one,t7)],λ x=>Bb k x.1 x.2⟩
def Ca.p:LF:=⟨⟨[(2,(.bp 2 0 0)),(3999,(.hd 9))],[(1,t6),(5,t7),(6,(.i .i64)),(7,(.i .i64)),(3000,t48)]⟩,[((.exit 2),⟨[(2,(.bp 2 0 0)),(3999,(.hd 9))],[(1,t6),(5,t7),(6,(.i .i64)),(3000,t48)]⟩)],λ k x=>Ca k x.1 x.2.1 x.2.2.1 x.2.2.2.1 x.2.2.2.2⟩
def Ds.p:LF:=⟨⟨[(2,(.bp 2 0 0)),(3999,(.hd 9))],[(1,t6),(5,t7),(6,(.i .i64)),(3000,t48)]⟩,[((.exit 0),⟨[],[(5,t7)]⟩)],λ k x=>Ds k x.1 x.2.1 x.2.2.1 x.2.2.2⟩
def Bb.d:Fd := { nt:=38,nv:=2,nm:=[0,1,2,3,5,6,7],res:=[4],ls:=[(6,Ca.p),(3,Ds.p)],rf:=true }
def Ca.s:LL Tryz.f195 Bb.d 6 Ca.p:=mL [] (λ _=>trivial) trivial
def Ds.s:LL Tryz.f195 Bb.d 3 Ds.p:=mL [6] (λ _=>trivial) ⟨Ca.s,trivial⟩
def Bb.s (k:Nat):CK 195 (Bb.e k):=mS Bb.d k [3] Tryz.func195 trivial ⟨Ds.s,trivial⟩
def Lz.e (k:Nat):Ent:=⟨1,[(.val false .s)],[(.one,(.i .i64))],λ x=>Lz k x⟩
def Jd.p:LF:=⟨⟨[],[(0,.s),(3,(.i .i64)),(4,(.i .i64))]⟩,[((.exit 0),⟨[],[(3,(.i .i64))]⟩)],λ k x=>Jd k x.1 x.2.1 x.2.2⟩
def Lz.d:Fd := { nt:=20,nv:=1,nm:=[0,1,3,4],res:=[2],ls:=[(3,Jd.p)],rf:=true }
def Jd.s:LL Tryz.f250 Lz.d 3 Jd.p:=mL [] (λ _=>trivial) trivial
def Lz.s (k:Nat):CK 250 (Lz.e k):=mS Lz.d k [3] Tryz.func250 trivial ⟨Jd.s,trivial⟩
def L7.e (k:Nat):Ent:=⟨2,[(.val false .s),(.val false (.i .i64))],[(.one,(.i .i64))],λ x=>L7 k x.1 x.2⟩
def L7.d:Fd := { nt:=11,nv:=2,nm:=[0,1,2,3],res:=[4],cs:=λ k=>[(250,Lz.e k)],rf:=true }
def L7.s (k:Nat):CK 232 (L7.e k):=mS L7.d k [] Tryz.func232 ⟨Lz.s k,trivial⟩ trivial
def Bc.e (k:Nat):Ent:=⟨2,[(.val true t17),(.val false .s)],[(.one,t7)],λ x=>Bc k x.1 x.2⟩
def Bc.d:Fd := { nt:=22,nv:=2,nm:=[0,1,2,3],res:=[4],cs:=λ k=>[(232,L7.e k)],rf:=true }
def Bc.s (k:Nat):CK 196 (Bc.e k):=mS Bc.d k [] Tryz.func196 ⟨L7.s k,trivial⟩ trivial
def Cj.e (k:Nat):Ent:=⟨3,[(.val true t17),(.val false t22),(.val false .s)],[(.one,t7)],λ x=>Cj k x.1 x.2.1 x.2.2⟩
def Cb.p:LF:=⟨⟨[],[(1,t22),(7,t7),(8,t7),(9,t7),(10,(.i .i64)),(11,(.i .i64))]⟩,[((.exit 2),⟨[],[(1,t22),(7,t7),(8,t7),(9,t7),(10,(.i .i64))]⟩)],λ k x=>Cb k x.1 x.2.1 x.2.2.1 x.2.2.2.1 x.2.2.2.2.1 x.2.2.2.2.2⟩
def Et.p:LF:=⟨⟨[],[(1,t22),(7,t7),(8,t7),(9,t7),(10,(.i .i64))]⟩,[((.exit 0),⟨[],[(9,t7)]⟩)],λ k x=>Et k x.1 x.2.1 x.2.2.1 x.2.2.2.1 x.2.2.2.2⟩
def Cj.d:Fd := { nt:=58,nv:=3,nm:=[0,1,2,3,4,5,7,8,9,10,11],res:=[6],cs:=λ k=>[(161,D0.e k),(162,Cm.e k),(196,Bc.e k)],ls:=[(8,Cb.p),(5,Et.p)],rf:=true }
def Cj.a (k:Nat):AC (Cj.d.cs k):=⟨D0.s k,Cm.s k,Bc.s k,trivial⟩
def Cb.s:LL Tryz.f197 Cj.d 8 Cb.p:=mL [] Cj.a trivial
def Et.s:LL Tryz.f197 Cj.d 5 Et.p:=mL [8] Cj.a ⟨Cb.s,trivial⟩
def Cj.s (k:Nat):CK 197 (Cj.e k):=mS Cj.d k [5] Tryz.func197 (Cj.a k) ⟨Et.s,trivial⟩
def Eu.e (k:Nat):Ent:=⟨2,[(.val true t48),(.val false .s)],[(.one,t7)],λ x=>Eu k x.1 x.2⟩
def Eu.d:Fd := { nt:=20,nv:=2,nm:=[0,1,2,3],res:=[4],cs:=λ k=>[(195,Bb.e k),(196,Bc.e k),(197,Cj.e k)],rf:=true }
def Eu.s (k:Nat):CK 148 (Eu.e k):=mS Eu.d k [] Tryz.func148 ⟨Bb.s k,Bc.s k,Cj.s k,trivial⟩ trivial
def C3.e (k:Nat):Ent:=⟨2,[(.val false t6),(.val false (.i .i64))],[(.one,(.i .i64))],λ x=>C3 x.1 x.2⟩
def C3.d:Fd := { nt:=21,nv:=2,nm:=[0,1,2,3],res:=[4],cs:=λ k=>[(97,A8.e k)],rf:=true }
def C3.s (k:Nat):CK 149 (C3.e k):=mS C3.d k [] Tryz.func149 ⟨A8.s k,trivial⟩ trivial
def Bx.e (k:Nat):Ent:=⟨1,[(.val true t25)],[(.one,.b)],λ x=>Bx x⟩
def Bx.d:Fd := { nt:=23,nv:=1,nm:=[0,1],res:=[2],cs:=λ k=>[(93,C4.e k)] }
def Bx.s (k:Nat):CK 95 (Bx.e k):=mS Bx.d k [] Tryz.func95 ⟨C4.s k,trivial⟩ trivial
def Be.e (k:Nat):Ent:=⟨1,[(.val false t13)],[(.one,t14)],λ x=>Be k x⟩
def Cc.p:LF:=⟨⟨[],[(0,t13),(3,t14),(4,(.i .i64))]⟩,[((.exit 0),⟨[],[(3,t14)]⟩)],λ k x=>Cc k x.1 x.2.1 x.2.2⟩
def Be.d:Fd := { nt:=29,nv:=1,nm:=[0,1,3,4],res:=[2],ls:=[(3,Cc.p)] }
def Cc.s:LL Tryz.f191 Be.d 3 Cc.p:=mL [] (λ _=>trivial) trivial
def Be.s (k:Nat):CK 191 (Be.e k):=mS Be.d k [3] Tryz.func191 trivial ⟨Cc.s,trivial⟩
def Gv.e (k:Nat):Ent:=⟨1,[(.val false t13)],[(.one,t15)],λ x=>Gv k x⟩
def Iv.p:LF:=⟨⟨[],[(0,t13),(3,t15),(4,(.i .i64))]⟩,[((.exit 0),⟨[],[(3,t15)]⟩)],λ k x=>Iv k x.1 x.2.1 x.2.2⟩
def Gv.d:Fd := { nt:=29,nv:=1,nm:=[0,1,3,4],res:=[2],ls:=[(3,Iv.p)],hint:=[(5,t12),(26,t12),(27,t12)] }
def Iv.s:LL Tryz.f191 Gv.d 3 Iv.p:=mL [] (λ _=>trivial) trivial
def Gv.s (k:Nat):CK 191 (Gv.e k):=mS Gv.d k [3] Tryz.func191 trivial ⟨Iv.s,trivial⟩
def A6.e (k:Nat):Ent:=⟨1,[(.val true t28)],[(.agg,t29)],λ x=>A6 k x⟩
def A6.d:Fd := { nt:=10,nv:=1,nm:=[0,1],res:=[],cs:=λ k=>[(191,Be.e k)] }
def A6.s (k:Nat):CK 144 (A6.e k):=mS A6.d k [] Tryz.func144 ⟨Be.s k,trivial⟩ trivial
def K5.e (k:Nat):Ent:=⟨1,[(.val true t28)],[(.agg,t30)],λ x=>K5 k x⟩
def K5.d:Fd := { nt:=10,nv:=1,nm:=[0,1],res:=[],cs:=λ k=>[(191,Gv.e k)] }
def K5.s (k:Nat):CK 144 (K5.e k):=mS K5.d k [] Tryz.func144 ⟨Gv.s k,trivial⟩ trivial
def Dt.e (k:Nat):Ent:=⟨2,[(.val false t4),(.val false (.i .i64))],[(.one,t5)],λ x=>Dt k x.1 x.2⟩
def Dc.p:LF:=⟨⟨[],[(1,(.i .i64)),(5,t5)]⟩,[((.exit 0),⟨[],[(1,(.i .i64)),(5,t5)]⟩)],λ k x=>Dc k x.1 x.2⟩
def Dt.d:Fd := { nt:=29,nv:=2,nm:=[0,1,2,3,5],res:=[4],ls:=[(6,Dc.p)] }
def Dc.s:LL Tryz.f201 Dt.d 6 Dc.p:=mL [] (λ _=>trivial) trivial
def Dt.s (k:Nat):CK 201 (Dt.e k):=mS Dt.d k [6] Tryz.func201 trivial ⟨Dc.s,trivial⟩
def Je.e (k:Nat):Ent:=⟨2,[(.val false t4),(.val false .s)],[(.one,t5)],λ x=>Je k x.1 x.2⟩
def Je.d:Fd := { nt:=11,nv:=2,nm:=[0,1,2,3],res:=[4],cs:=λ k=>[(201,Dt.e k)] }
def Je.s (k:Nat):CK 200 (Je.e k):=mS Je.d k [] Tryz.func200 ⟨Dt.s k,trivial⟩ trivial
def Jf.e (k:Nat):Ent:=⟨2,[(.val false t4),(.val true t16)],[(.one,t5)],λ x=>Jf k x.1 x.2⟩
def Jf.d:Fd := { nt:=15,nv:=2,nm:=[0,1,2,3],res:=[4],cs:=λ k=>[(201,Dt.e k)] }
def Jf.s (k:Nat):CK 202 (Jf.e k):=mS Jf.d k [] Tryz.func202 ⟨Dt.s k,trivial⟩ trivial
def L8.e (k:Nat):Ent:=⟨1,[(.val false .b)],[(.one,(.i .i64))],λ x=>L8 x⟩
def L8.d:Fd := { nt:=4,nv:=1,nm:=[0,1],res:=[2] }
def L8.s (k:Nat):CK 203 (L8.e k):=mS L8.d k [] Tryz.func203 trivial trivial
def Lt.e (k:Nat):Ent:=⟨1,[(.val false t4)],[(.one,(.i .i64))],λ x=>Lt k x⟩
def I3.p:LF:=⟨⟨[],[(0,t4),(3,(.i .i64)),(4,(.i .i64)),(5,(.i .i64))]⟩,[((.exit 2),⟨[],[(0,t4),(3,(.i .i64)),(4,(.i .i64))]⟩)],λ k x=>I3 k x.1 x.2.1 x.2.2.1 x.2.2.2⟩
def Ii.p:LF:=⟨⟨[],[(0,t4),(3,(.i .i64)),(4,(.i .i64))]⟩,[((.exit 0),⟨[],[(3,(.i .i64))]⟩)],λ k x=>Ii k x.1 x.2.1 x.2.2⟩
def Lt.d:Fd := { nt:=34,nv:=1,nm:=[0,1,3,4,5,6],res:=[2],ls:=[(7,I3.p),(3,Ii.p)] }
def I3.s:LL Tryz.f204 Lt.d 7 I3.p:=mL [] (λ _=>trivial) trivial
def Ii.s:LL Tryz.f204 Lt.d 3 Ii.p:=mL [7] (λ _=>trivial) ⟨I3.s,trivial⟩
def Lt.s (k:Nat):CK 204 (Lt.e k):=mS Lt.d k [3] Tryz.func204 trivial ⟨Ii.s,trivial⟩
def Bh.e (k:Nat):Ent:=⟨1,[(.val true t25)],[(.one,t5)],λ x=>Bh k x⟩
def Bh.d:Fd := { nt:=37,nv:=1,nm:=[0,1,3,4],res:=[2],cs:=λ k=>[(95,Bx.e k),(200,Je.e k),(201,Dt.e k),(202,Jf.e k),(203,L8.e k),(204,Lt.e k)] }
def Bh.s (k:Nat):CK 157 (Bh.e k):=mS Bh.d k [] Tryz.func157 ⟨Bx.s k,Je.s k,Dt.s k,Jf.s k,L8.s k,Lt.s k,trivial⟩ trivial
def Fw.e (k:Nat):Ent:=⟨1,[(.val false t13)],[(.one,.b)],λ x=>Fw k x⟩
def Gn.p:LF:=⟨⟨[],[(0,t13),(3,(.i .i64))]⟩,[(.ret,⟨[],[(2,.b)]⟩),((.exit 0),⟨[],[(0,t13)]⟩)],λ k x=>Gn k x.1 x.2⟩
def Fw.d:Fd := { nt:=47,nv:=1,nm:=[0,1,3],res:=[2],cs:=λ k=>[(94,Ar.e k)],ls:=[(2,Gn.p)] }
def Fw.a (k:Nat):AC (Fw.d.cs k):=⟨Ar.s k,trivial⟩
def Gn.s:LL Tryz.f231 Fw.d 2 Gn.p:=mL [] Fw.a trivial
def Fw.s (k:Nat):CK 231 (Fw.e k):=mS Fw.d k [2] Tryz.func231 (Fw.a k) ⟨Gn.s,trivial⟩
def Bl.e (k:Nat):Ent:=⟨1,[(.val true t28)],[(.one,.b)],λ x=>Bl k x⟩
def Bl.d:Fd := { nt:=11,nv:=1,nm:=[0,1],res:=[2],cs:=λ k=>[(231,Fw.e k)] }
def Bl.s (k:Nat):CK 193 (Bl.e k):=mS Bl.d k [] Tryz.func193 ⟨Fw.s k,trivial⟩ trivial
def Du.e (k:Nat):Ent:=⟨2,[(.val false t4),(.val false (.i .i64))],[(.one,(.i .i64)),(.one,(.i .i64)),(.one,.b)],λ x=>Du k x.1 x.2⟩
def Fa.p:LF:=⟨⟨[],[(0,t4),(1,(.i .i64)),(7,(.i .i64)),(8,(.i .i64))]⟩,[(.ret,⟨[],[(4,(.i .i64)),(5,(.i .i64)),(6,.b)]⟩),((.exit 0),⟨[],[]⟩)],λ k x=>Fa k x.1 x.2.1 x.2.2.1 x.2.2.2⟩
def Du.d:Fd := { nt:=64,nv:=2,nm:=[0,1,2,3,7,8,9],res:=[4,5,6],ls:=[(3,Fa.p)] }
def Fa.s:LL Tryz.f155 Du.d 3 Fa.p:=mL [] (λ _=>trivial) trivial
def Du.s (k:Nat):CK 155 (Du.e k):=mS Du.d k [3] Tryz.func155 trivial ⟨Fa.s,trivial⟩
def Fx.e (k:Nat):Ent:=⟨2,[(.val false t4),(.val false (.i .i64))],[(.agg,t16),(.one,(.i .i64)),(.one,.b)],λ x=>Fx k x.1 x.2⟩
def Fx.d:Fd := { nt:=49,nv:=2,nm:=[0,1,2,3,7,8,9,10,11,12,13,14,15],res:=[5,6],cs:=λ k=>[(155,Du.e k)] }
def Fx.s (k:Nat):CK 154 (Fx.e k):=mS Fx.d k [] Tryz.func154 ⟨Du.s k,trivial⟩ trivial
def Jg.e (k:Nat):Ent:=⟨2,[(.val false t4),(.val false (.i .i64))],[(.one,.s),(.one,(.i .i64)),(.one,.b)],λ x=>Jg k x.1 x.2⟩
def Jg.d:Fd := { nt:=37,nv:=2,nm:=[0,1,2,3,7,8,9],res:=[4,5,6],cs:=λ k=>[(155,Du.e k)] }
def Jg.s (k:Nat):CK 156 (Jg.e k):=mS Jg.d k [] Tryz.func156 ⟨Du.s k,trivial⟩ trivial
def Ed.e (k:Nat):Ent:=⟨1,[(.val false t4)],[(.agg,t26),(.one,.b)],λ x=>Ed k x⟩
def Ed.d:Fd := { nt:=76,nv:=1,nm:=[0,1,4,5,6,7,8,9,10,11,12,13],res:=[3],cs:=λ k=>[(95,Bx.e k),(154,Fx.e k),(155,Du.e k),(156,Jg.e k),(157,Bh.e k)],mv:=[75] }
def Ed.s (k:Nat):CK 108 (Ed.e k):=mS Ed.d k [] Tryz.func108 ⟨Bx.s k,Fx.s k,Du.s k,Jg.s k,Bh.s k,trivial⟩ trivial
def Df.e (k:Nat):Ent:=⟨2,[(.val false t13),(.val false .s)],[(.one,(.i .i64))],λ x=>Df k x.1 x.2⟩
def Jh.p:LF:=⟨⟨[],[(0,t13),(1,.s),(5,(.i .i64))]⟩,[(.ret,⟨[],[(4,(.i .i64))]⟩),((.exit 0),⟨[],[]⟩)],λ k x=>Jh k x.1 x.2.1 x.2.2⟩
def Df.d:Fd := { nt:=20,nv:=2,nm:=[0,1,2,3,5],res:=[4],ls:=[(2,Jh.p)] }
def Jh.s:LL Tryz.f225 Df.d 2 Jh.p:=mL [] (λ _=>trivial) trivial
def Df.s (k:Nat):CK 225 (Df.e k):=mS Df.d k [2] Tryz.func225 trivial ⟨Jh.s,trivial⟩
def Fm.e (k:Nat):Ent:=⟨2,[(.val true t28),(.val false .s)],[(.one,t5),(.one,.b)],λ x=>Fm k x.1 x.2⟩
def Fm.d:Fd := { nt:=22,nv:=2,nm:=[0,1,2,3,6],res:=[4,5],cs:=λ k=>[(225,Df.e k)] }
def Fm.s (k:Nat):CK 251 (Fm.e k):=mS Fm.d k [] Tryz.func251 ⟨Df.s k,trivial⟩ trivial
def I8.e (k:Nat):Ent:=⟨2,[(.val true t28),(.val false .s)],[(.agg,t26),(.one,(.i .i64))],λ x=>I8 k x.1 x.2⟩
def I8.d:Fd := { nt:=28,nv:=2,nm:=[0,1,2,3,6,7,8,9],res:=[5],cs:=λ k=>[(108,Ed.e k),(251,Fm.e k)],mv:=[27] }
def I8.s (k:Nat):CK 233 (I8.e k):=mS I8.d k [] Tryz.func233 ⟨Ed.s k,Fm.s k,trivial⟩ trivial
def C5.e (k:Nat):Ent:=⟨2,[(.val true t16),(.val true t16)],[(.one,.b)],λ x=>C5 x.1 x.2⟩
def C5.d:Fd := { nt:=32,nv:=2,nm:=[0,1,2,3],res:=[4] }
def C5.s (k:Nat):CK 96 (C5.e k):=mS C5.d k [] Tryz.func96 trivial trivial
def Lh.e (k:Nat):Ent:=⟨2,[(.val true t25),(.val true t25)],[(.one,.b)],λ x=>Lh x.1 x.2⟩
def Lh.d:Fd := { nt:=10,nv:=2,nm:=[0,1,2,3],res:=[4],cs:=λ k=>[(96,C5.e k)] }
def Lh.s (k:Nat):CK 234 (Lh.e k):=mS Lh.d k [] Tryz.func234 ⟨C5.s k,trivial⟩ trivial
def J4.e (k:Nat):Ent:=⟨2,[(.val false t13),(.val false .s)],[(.one,t14)],λ x=>J4 k x.1 x.2⟩
def Hy.p:LF:=⟨⟨[],[(0,t13),(1,.s),(5,t14),(6,(.i .i64))]⟩,[((.exit 0),⟨[],[(5,t14)]⟩)],λ k x=>Hy k x.1 x.2.1 x.2.2.1 x.2.2.2⟩
def J4.d:Fd := { nt:=29,nv:=2,nm:=[0,1,2,3,5,6],res:=[4],ls:=[(3,Hy.p)] }
def Hy.s:LL Tryz.f252 J4.d 3 Hy.p:=mL [] (λ _=>trivial) trivial
def J4.s (k:Nat):CK 252 (J4.e k):=mS J4.d k [3] Tryz.func252 trivial ⟨Hy.s,trivial⟩
def Ft.e (k:Nat):Ent:=⟨3,[(.val false t13),(.val false .s),(.val false t4)],[(.one,t14)],λ x=>Ft k x.1 x.2.1 x.2.2⟩
def Ck.p:LF:=⟨⟨[(9,(.bp 9 0 0)),(10999,(.hd 2))],[(0,t13),(1,.s),(7,t14),(8,.b),(10,(.i .i64)),(10000,.s),(10001,t4)]⟩,[((.exit 0),⟨[(9,(.bp 9 0 0)),(10999,(.hd 2))],[(7,t14),(8,.b),(10000,.s),(10001,t4)]⟩)],λ k x=>Ck k x.1 x.2.1 x.2.2.1 x.2.2.2.1 x.2.2.2.2.1 x.2.2.2.2.2.1 x.2.2.2.2.2.2⟩
def Ft.d:Fd := { nt:=59,nv:=3,nm:=[0,1,2,3,4,5,7,8,9,10],res:=[6],ls:=[(5,Ck.p)] }
def Ck.s:LL Tryz.f253 Ft.d 5 Ck.p:=mL [] (λ _=>trivial) trivial
def Ft.s (k:Nat):CK 253 (Ft.e k):=mS Ft.d k [5] Tryz.func253 trivial ⟨Ck.s,trivial⟩
def Ei.e (k:Nat):Ent:=⟨3,[(.val true t28),(.val true t29),(.val false .s)],[(.agg,t29),(.one,.b)],λ x=>Ei k x.1 x.2.1 x.2.2⟩
def Ei.d:Fd := { nt:=24,nv:=3,nm:=[0,1,2,3,4,5],res:=[7],cs:=λ k=>[(94,Ar.e k),(144,A6.e k),(193,Bl.e k)],mv:=[23] }
def Ei.s (k:Nat):CK 254 (Ei.e k):=mS Ei.d k [] Tryz.func254 ⟨Ar.s k,A6.s k,Bl.s k,trivial⟩ trivial
def Aq.e (k:Nat):Ent:=⟨2,[(.val true t28),(.val false .s)],[(.agg,t29),(.one,.b)],λ x=>Aq k x.1 x.2⟩
def Aq.d:Fd := { nt:=35,nv:=2,nm:=[0,1,2,3,6,7,8],res:=[5],cs:=λ k=>[(144,A6.e k),(251,Fm.e k),(252,J4.e k),(253,Ft.e k),(254,Ei.e k)] }
def Aq.s (k:Nat):CK 235 (Aq.e k):=mS Aq.d k [] Tryz.func235 ⟨A6.s k,Fm.s k,J4.s k,Ft.s k,Ei.s k,trivial⟩ trivial
def Bd.e (k:Nat):Ent:=⟨3,[(.val true t28),(.val false .s),(.val false t4)],[(.agg,t29),(.one,.b)],λ x=>Bd k x.1 x.2.1 x.2.2⟩
def Bd.d:Fd := { nt:=23,nv:=3,nm:=[0,1,2,3,4,5,8],res:=[7],cs:=λ k=>[(144,A6.e k),(253,Ft.e k),(254,Ei.e k)] }
def Bd.s (k:Nat):CK 236 (Bd.e k):=mS Bd.d k [] Tryz.func236 ⟨A6.s k,Ft.s k,Ei.s k,trivial⟩ trivial
def Jy.e (k:Nat):Ent:=⟨4,[(.val true t28),(.val false .s),(.val true t25),(.val false .b)],[(.agg,t29),(.one,(.i .i64))],λ x=>Jy k x.1 x.2.1 x.2.2.1 x.2.2.2⟩
def Jy.d:Fd := { nt:=82,nv:=4,nm:=[0,1,2,3,4,5,6,7,10,11,12,13,14,15],res:=[9],cs:=λ k=>[(94,Ar.e k),(95,Bx.e k),(144,A6.e k),(157,Bh.e k),(193,Bl.e k),(233,I8.e k),(234,Lh.e k),(235,Aq.e k),(236,Bd.e k)],mv:=[58,81] }
def Jy.s (k:Nat):CK 198 (Jy.e k):=mS Jy.d k [] Tryz.func198 ⟨Ar.s k,Bx.s k,A6.s k,Bh.s k,Bl.s k,I8.s k,Lh.s k,Aq.s k,Bd.s k,trivial⟩ trivial
def Iw.e (k:Nat):Ent:=⟨2,[(.val false .s),(.val true t25)],[(.agg,t27)],λ x=>Iw x.1 x.2⟩
def Iw.d:Fd := { nt:=14,nv:=2,nm:=[0,1,2,3],res:=[] }
def Iw.s (k:Nat):CK 199 (Iw.e k):=mS Iw.d k [] Tryz.func199 trivial trivial
def Ke.e (k:Nat):Ent:=⟨4,[(.ptr t40 t40),(.val false .s),(.val true t25),(.val false .b)],[(.one,(.i .i64))],λ x=>Ke k x.1 x.2.1 x.2.2.1 x.2.2.2⟩
def Ke.d:Fd := { nt:=52,nv:=4,nm:=[0,1,2,3,4,5,6,7,9,10],res:=[8],cs:=λ k=>[(198,Jy.e k),(199,Iw.e k)] }
def Ke.s (k:Nat):CK 150 (Ke.e k):=mS Ke.d k [] Tryz.func150 ⟨Jy.s k,Iw.s k,trivial⟩ trivial
def Ij.e (k:Nat):Ent:=⟨4,[(.ptr t41 t42),(.val false .s),(.val true t25),(.val false .b)],[(.one,(.i .i64))],λ x=>Ij k x.1 x.2.1 x.2.2.1 x.2.2.2⟩
def Ij.d:Fd := { nt:=52,nv:=4,nm:=[0,1,2,3,4,5,6,7,9,10],res:=[8],cs:=λ k=>[(198,Jy.e k),(199,Iw.e k)] }
def Ij.s (k:Nat):CK 150 (Ij.e k):=mS Ij.d k [] Tryz.func150 ⟨Jy.s k,Iw.s k,trivial⟩ trivial
def Kf.e (k:Nat):Ent:=⟨1,[(.val false (.i .i64))],[(.one,(.i .i64))],λ x=>Kf x⟩
def Kf.d:Fd := { nt:=6,nv:=1,nm:=[0,1],res:=[2],rf:=true }
def Kf.s (k:Nat):CK 151 (Kf.e k):=mS Kf.d k [] Tryz.func151 trivial trivial
def C1.e (k:Nat):Ent:=⟨4,[(.ptr t51 t51),(.val false .s),(.val true t25),(.val false t6)],[(.one,(.i .i64))],λ x=>C1 k x.1 x.2.1 x.2.2.1 x.2.2.2⟩
def B6.p:LF:=⟨⟨[(0,(.bp 0 0 0)),(6,(.bp 6 0 0)),(1999,(.hd 9)),(7999,(.hd 5))],[(1,.s),(3,t6),(9,t7),(10,(.i .i64)),(11,(.i .i64)),(12,(.i .i64)),(1000,t51),(7000,t25)]⟩,[((.exit 0),⟨[(0,(.bp 0 0 0)),(6,(.bp 6 0 0)),(1999,(.hd 9)),(7999,(.hd 5))],[(1,.s),(11,(.i .i64)),(1000,t51),(7000,t25)]⟩)],λ k x=>B6 k x.1 x.2.1 x.2.2.1 x.2.2.2.1 x.2.2.2.2.1 x.2.2.2.2.2.1 x.2.2.2.2.2.2.1 x.2.2.2.2.2.2.2⟩
def C1.d:Fd := { nt:=92,nv:=4,nm:=[0,1,2,3,4,5,6,7,9,10,11,12,13,14,15],res:=[8],cs:=λ k=>[(90,Bo.e k),(148,Eu.e k),(149,C3.e k),(150,Ke.e k),(151,Kf.e k)],ls:=[(5,B6.p)],gh:=[(1000006,[.cl 1003])],opn:=[51],rf:=true }
def C1.a (k:Nat):AC (C1.d.cs k):=⟨Bo.s k,Eu.s k,C3.s k,Ke.s k,Kf.s k,trivial⟩
def B6.s:LL Tryz.f99 C1.d 5 B6.p:=mL [] C1.a trivial
def C1.s (k:Nat):CK 99 (C1.e k):=mS C1.d k [5] Tryz.func99 (C1.a k) ⟨B6.s,trivial⟩
def Ej.e (k:Nat):Ent:=⟨5,[(.ptr t51 t51),(.val false .s),(.val true t25),(.val false (.i .i64)),(.val false t6)],[(.one,(.i .i64))],λ x=>Ej k x.1 x.2.1 x.2.2.1 x.2.2.2.1 x.2.2.2.2⟩
def Ej.d:Fd := { nt:=57,nv:=5,nm:=[0,1,2,3,4,5,6,7,8,9],res:=[10],cs:=λ k=>[(94,Ar.e k),(97,A8.e k),(98,Hf.e k),(99,C1.e k)],rf:=true }
def Ej.s (k:Nat):CK 40 (Ej.e k):=mS Ej.d k [] Tryz.func40 ⟨Ar.s k,A8.s k,Hf.s k,C1.s k,trivial⟩ trivial
def Bf.e (k:Nat):Ent:=⟨2,[(.val true t28),(.val false .s)],[(.agg,t29),(.one,.b)],λ x=>Bf k x.1 x.2⟩
def Bf.d:Fd := { nt:=26,nv:=2,nm:=[0,1,2,3,6],res:=[5],cs:=λ k=>[(144,A6.e k),(225,Df.e k),(252,J4.e k),(254,Ei.e k)],mv:=[14] }
def Bf.s (k:Nat):CK 240 (Bf.e k):=mS Bf.d k [] Tryz.func240 ⟨A6.s k,Df.s k,J4.s k,Ei.s k,trivial⟩ trivial
def Cp.e (k:Nat):Ent:=⟨4,[(.ptr t51 t51),(.val false (.i .i64)),(.val false .s),(.val false t6)],[(.one,.b)],λ x=>Cp k x.1 x.2.1 x.2.2.1 x.2.2.2⟩
def Bm.p:LF:=⟨⟨[(0,(.bp 0 0 0)),(9,(.bp 9 0 0)),(1999,(.hd 9)),(10999,(.hd 5))],[(1,(.i .i64)),(2,.s),(3,t6),(11,t7),(12,.b),(13,.b),(14,(.i .i64)),(1000,t51),(10000,t25)]⟩,[((.exit 0),⟨[(0,(.bp 0 0 0)),(1999,(.hd 9))],[(1,(.i .i64)),(2,.s),(12,.b),(13,.b),(1000,t51)]⟩)],λ k x=>Bm k x.1 x.2.1 x.2.2.1 x.2.2.2.1 x.2.2.2.2.1 x.2.2.2.2.2.1 x.2.2.2.2.2.2.1 x.2.2.2.2.2.2.2.1 x.2.2.2.2.2.2.2.2⟩
def Cp.d:Fd := { nt:=125,nv:=4,nm:=[0,1,2,3,4,5,6,7,9,10,11,12,13,14,15,16,17,18],res:=[8],cs:=λ k=>[(149,C3.e k),(195,Bb.e k),(196,Bc.e k),(198,Jy.e k),(233,I8.e k),(235,Aq.e k),(240,Bf.e k)],ls:=[(8,Bm.p)],rf:=true }
def Cp.a (k:Nat):AC (Cp.d.cs k):=⟨C3.s k,Bb.s k,Bc.s k,Jy.s k,I8.s k,Aq.s k,Bf.s k,trivial⟩
def Bm.s:LL Tryz.f215 Cp.d 8 Bm.p:=mL [] Cp.a trivial
def Cp.s (k:Nat):CK 215 (Cp.e k):=mS Cp.d k [8] Tryz.func215 (Cp.a k) ⟨Bm.s,trivial⟩
def Ji.e (k:Nat):Ent:=⟨2,[(.val true t27),(.val true t27)],[(.one,.b)],λ x=>Ji x.1 x.2⟩
def Ji.d:Fd := { nt:=29,nv:=2,nm:=[0,1,2,3],res:=[4],cs:=λ k=>[(96,C5.e k)] }
def Ji.s (k:Nat):CK 257 (Ji.e k):=mS Ji.d k [] Tryz.func257 ⟨C5.s k,trivial⟩ trivial
def Bp.e (k:Nat):Ent:=⟨2,[(.val false t31),(.val true t27)],[(.one,t32)],λ x=>Bp k x.1 x.2⟩
def Dv.p:LF:=⟨⟨[(3,(.bp 3 0 0)),(4999,(.hd 6))],[(5,t32),(7,(.i .i64)),(4000,.s),(4001,(.i .i64)),(4002,(.i .i64)),(4003,(.i .i64)),(4004,.b),(4005,(.i .i64))]⟩,[((.exit 2),⟨[(3,(.bp 3 0 0)),(4999,(.hd 6))],[(5,t32),(7,(.i .i64)),(4000,.s),(4001,(.i .i64)),(4002,(.i .i64)),(4003,(.i .i64)),(4004,.b),(4005,(.i .i64))]⟩)],λ k x=>Dv k x.1 x.2.1 x.2.2.1 x.2.2.2.1 x.2.2.2.2.1 x.2.2.2.2.2.1 x.2.2.2.2.2.2.1 x.2.2.2.2.2.2.2⟩
def Ev.p:LF:=⟨⟨[(3,(.bp 3 0 0)),(4999,(.hd 6))],[(5,t32),(6,(.i .i64)),(4000,.s),(4001,(.i .i64)),(4002,(.i .i64)),(4003,(.i .i64)),(4004,.b),(4005,(.i .i64))]⟩,[(.ret,⟨[],[(4,t32)]⟩),((.exit 0),⟨[(3,(.bp 3 0 0)),(4999,(.hd 6))],[(5,t32),(4000,.s),(4001,(.i .i64)),(4002,(.i .i64)),(4003,(.i .i64)),(4004,.b),(4005,(.i .i64))]⟩)],λ k x=>Ev k x.1 x.2.1 x.2.2.1 x.2.2.2.1 x.2.2.2.2.1 x.2.2.2.2.2.1 x.2.2.2.2.2.2.1 x.2.2.2.2.2.2.2⟩
def Bp.d:Fd := { nt:=70,nv:=2,nm:=[0,1,2,3,5,6,7],res:=[4],cs:=λ k=>[(257,Ji.e k)],ls:=[(11,Dv.p),(3,Ev.p)] }
def Bp.a (k:Nat):AC (Bp.d.cs k):=⟨Ji.s k,trivial⟩
def Dv.s:LL Tryz.f249 Bp.d 11 Dv.p:=mL [] Bp.a trivial
def Ev.s:LL Tryz.f249 Bp.d 3 Ev.p:=mL [] Bp.a trivial
def Bp.s (k:Nat):CK 249 (Bp.e k):=mS Bp.d k [3,11] Tryz.func249 (Bp.a k) ⟨Ev.s,Dv.s,trivial⟩
def Bu.e (k:Nat):Ent:=⟨2,[(.val false t31),(.val false t31)],[(.one,t32)],λ x=>Bu k x.1 x.2⟩
def Dw.p:LF:=⟨⟨[],[(1,t31),(5,t32),(6,(.i .i64))]⟩,[((.exit 0),⟨[],[(5,t32)]⟩)],λ k x=>Dw k x.1 x.2.1 x.2.2⟩
def Bu.d:Fd := { nt:=23,nv:=2,nm:=[0,1,2,3,5,6],res:=[4],cs:=λ k=>[(249,Bp.e k)],ls:=[(3,Dw.p)] }
def Bu.a (k:Nat):AC (Bu.d.cs k):=⟨Bp.s k,trivial⟩
def Dw.s:LL Tryz.f256 Bu.d 3 Dw.p:=mL [] Bu.a trivial
def Bu.s (k:Nat):CK 256 (Bu.e k):=mS Bu.d k [3] Tryz.func256 (Bu.a k) ⟨Dw.s,trivial⟩
def I9.e (k:Nat):Ent:=⟨2,[(.ptr t40 t40),(.val false t31)],[(.one,.b)],λ x=>I9 k x.1 x.2⟩
def I9.d:Fd := { nt:=19,nv:=2,nm:=[0,1,2,3,5],res:=[4],cs:=λ k=>[(256,Bu.e k)] }
def I9.s (k:Nat):CK 248 (I9.e k):=mS I9.d k [] Tryz.func248 ⟨Bu.s k,trivial⟩ trivial
def Hg.e (k:Nat):Ent:=⟨2,[(.ptr t41 t43),(.val false t31)],[(.one,.b)],λ x=>Hg k x.1 x.2⟩
def Hg.d:Fd := { nt:=19,nv:=2,nm:=[0,1,2,3,5],res:=[4],cs:=λ k=>[(256,Bu.e k)] }
def Hg.s (k:Nat):CK 248 (Hg.e k):=mS Hg.d k [] Tryz.func248 ⟨Bu.s k,trivial⟩ trivial
def H6.e (k:Nat):Ent:=⟨1,[(.val true t48)],[(.one,t7)],λ x=>H6 k x⟩
def H6.d:Fd := { nt:=8,nv:=1,nm:=[0,1],res:=[2],cs:=λ k=>[(195,Bb.e k),(196,Bc.e k)],rf:=true }
def H6.s (k:Nat):CK 255 (H6.e k):=mS H6.d k [] Tryz.func255 ⟨Bb.s k,Bc.s k,trivial⟩ trivial
def Bq.e (k:Nat):Ent:=⟨5,[(.ptr t51 t51),(.val false (.i .i64)),(.val false t31),(.val false .b),(.val false t6)],[(.one,.b)],λ x=>Bq k x.1 x.2.1 x.2.2.1 x.2.2.2.1 x.2.2.2.2⟩
def An.p:LF:=⟨⟨[(0,(.bp 0 0 0)),(1999,(.hd 9))],[(1,(.i .i64)),(2,t31),(3,.b),(4,t6),(11,t7),(12,.b),(13,(.i .i64)),(1000,t51)]⟩,[((.exit 0),⟨[(1999,(.hd 9))],[(12,.b),(1000,t51)]⟩)],λ k x=>An k x.1 x.2.1 x.2.2.1 x.2.2.2.1 x.2.2.2.2.1 x.2.2.2.2.2.1 x.2.2.2.2.2.2.1 x.2.2.2.2.2.2.2⟩
def Bq.d:Fd := { nt:=53,nv:=5,nm:=[0,1,2,3,4,5,6,7,8,9,11,12,13],res:=[10],cs:=λ k=>[(149,C3.e k),(248,I9.e k),(255,H6.e k)],ls:=[(4,An.p)],gh:=[(1000005,[.cl 1003])],opn:=[47],rf:=true }
def Bq.a (k:Nat):AC (Bq.d.cs k):=⟨C3.s k,I9.s k,H6.s k,trivial⟩
def An.s:LL Tryz.f241 Bq.d 4 An.p:=mL [] Bq.a trivial
def Bq.s (k:Nat):CK 241 (Bq.e k):=mS Bq.d k [4] Tryz.func241 (Bq.a k) ⟨An.s,trivial⟩
def Ja.e (k:Nat):Ent:=⟨2,[(.val true t48),(.val false (.i .i64))],[(.one,.b)],λ x=>Ja k x.1 x.2⟩
def Ja.d:Fd := { nt:=9,nv:=2,nm:=[0,1,2,3],res:=[4],cs:=λ k=>[(162,Cm.e k),(255,H6.e k)],rf:=true }
def Ja.s (k:Nat):CK 242 (Ja.e k):=mS Ja.d k [] Tryz.func242 ⟨Cm.s k,H6.s k,trivial⟩ trivial
def Hh.e (k:Nat):Ent:=⟨3,[(.ptr t51 t51),(.val false (.i .i64)),(.val false t6)],[(.one,.b)],λ x=>Hh k x.1 x.2.1 x.2.2⟩
def Hh.d:Fd := { nt:=47,nv:=3,nm:=[0,1,2,3,4,5,7],res:=[6],cs:=λ k=>[(241,Bq.e k),(242,Ja.e k)],rf:=true }
def Hh.s (k:Nat):CK 216 (Hh.e k):=mS Hh.d k [] Tryz.func216 ⟨Bq.s k,Ja.s k,trivial⟩ trivial
def Hi.e (k:Nat):Ent:=⟨3,[(.ptr t51 t51),(.val false (.i .i64)),(.val false t6)],[(.one,.b)],λ x=>Hi k x.1 x.2.1 x.2.2⟩
def Hi.d:Fd := { nt:=36,nv:=3,nm:=[0,1,2,3,4,5,7],res:=[6],cs:=λ k=>[(241,Bq.e k)],rf:=true }
def Hi.s (k:Nat):CK 217 (Hi.e k):=mS Hi.d k [] Tryz.func217 ⟨Bq.s k,trivial⟩ trivial
def Ix.e (k:Nat):Ent:=⟨1,[(.val true t28)],[(.agg,t29),(.one,(.i .i64))],λ x=>Ix k x⟩
def Hz.p:LF:=⟨⟨[(1,(.bp 1 0 0)),(2,(.bp 2 0 0)),(4,(.bp 4 0 0)),(2999,(.hd 2)),(3999,(.hd 2)),(5999,(.hd 2))],[(5,(.i .i64)),(6,(.i .i64)),(2000,t28),(3000,t29),(5000,t29)]⟩,[((.exit 0),⟨[(2,(.bp 2 0 0)),(4,(.bp 4 0 0)),(3999,(.hd 2)),(5999,(.hd 2))],[(5,(.i .i64)),(3000,t29),(5000,t29)]⟩)],λ k x=>Hz k x.1 x.2.1 x.2.2.1 x.2.2.2.1 x.2.2.2.2⟩
def Ix.d:Fd := { nt:=53,nv:=1,nm:=[0,1,4,5,6,7,8,9],res:=[3],cs:=λ k=>[(144,A6.e k),(193,Bl.e k),(233,I8.e k),(235,Aq.e k),(240,Bf.e k)],ls:=[(4,Hz.p)],mv:=[51],rf:=true }
def Ix.a (k:Nat):AC (Ix.d.cs k):=⟨A6.s k,Bl.s k,I8.s k,Aq.s k,Bf.s k,trivial⟩
def Hz.s:LL Tryz.f218 Ix.d 4 Hz.p:=mL [] Ix.a trivial
def Ix.s (k:Nat):CK 218 (Ix.e k):=mS Ix.d k [4] Tryz.func218 (Ix.a k) ⟨Hz.s,trivial⟩
def Cn.e (k:Nat):Ent:=⟨2,[(.val false t13),(.val false t13)],[(.one,t2)],λ x=>Cn k x.1 x.2⟩
def Ew.p:LF:=⟨⟨[],[(5,t14),(8,t2),(9,(.i .i64))]⟩,[((.exit 4),⟨[],[(8,t2)]⟩)],λ k x=>Ew k x.1 x.2.1 x.2.2⟩
def Fy.p:LF:=⟨⟨[],[(1,t13),(5,t14),(7,(.i .i64))]⟩,[((.exit 2),⟨[],[(5,t14)]⟩)],λ k x=>Fy k x.1 x.2.1 x.2.2⟩
def Fz.p:LF:=⟨⟨[],[(0,t13),(1,t13),(5,t14),(6,(.i .i64))]⟩,[((.exit 0),⟨[],[(1,t13),(5,t14)]⟩)],λ k x=>Fz k x.1 x.2.1 x.2.2.1 x.2.2.2⟩
def Cn.d:Fd := { nt:=55,nv:=2,nm:=[0,1,2,3,5,6,7,8,9],res:=[4],cs:=λ k=>[(253,Ft.e k)],ls:=[(12,Ew.p),(7,Fy.p),(3,Fz.p)],rf:=true }
def Cn.a (k:Nat):AC (Cn.d.cs k):=⟨Ft.s k,trivial⟩
def Ew.s:LL Tryz.f243 Cn.d 12 Ew.p:=mL [] Cn.a trivial
def Fy.s:LL Tryz.f243 Cn.d 7 Fy.p:=mL [] Cn.a trivial
def Fz.s:LL Tryz.f243 Cn.d 3 Fz.p:=mL [] Cn.a trivial
def Cn.s (k:Nat):CK 243 (Cn.e k):=mS Cn.d k [3,7,12] Tryz.func243 (Cn.a k) ⟨Fz.s,Fy.s,Ew.s,trivial⟩
def Di.e (k:Nat):Ent:=⟨2,[(.val true t28),(.val false t1)],[(.agg,t29)],λ x=>Di k x.1 x.2⟩
def B0.p:LF:=⟨⟨[(2,(.bp 2 0 0)),(4,(.bp 4 0 0)),(3999,(.hd 2)),(5999,(.hd 2))],[(1,t1),(5,t2),(6,t14),(7,(.i .i64)),(3000,t28),(5000,t29)]⟩,[((.exit 0),⟨[(2,(.bp 2 0 0)),(4,(.bp 4 0 0)),(3999,(.hd 2)),(5999,(.hd 2))],[(6,t14),(3000,t28),(5000,t29)]⟩)],λ k x=>B0 k x.1 x.2.1 x.2.2.1 x.2.2.2.1 x.2.2.2.2.1 x.2.2.2.2.2⟩
def Di.d:Fd := { nt:=66,nv:=2,nm:=[0,1,2,3,5,6,7,8,9],res:=[],cs:=λ k=>[(144,A6.e k),(191,Be.e k),(193,Bl.e k),(225,Df.e k),(243,Cn.e k)],ls:=[(6,B0.p)],rf:=true }
def Di.a (k:Nat):AC (Di.d.cs k):=⟨A6.s k,Be.s k,Bl.s k,Df.s k,Cn.s k,trivial⟩
def B0.s:LL Tryz.f219 Di.d 6 B0.p:=mL [] Di.a trivial
def Di.s (k:Nat):CK 219 (Di.e k):=mS Di.d k [6] Tryz.func219 (Di.a k) ⟨B0.s,trivial⟩
def Bi.e (k:Nat):Ent:=⟨1,[(.val true t40)],[(.agg,t41)],λ x=>Bi k x⟩
def Bi.d:Fd := { nt:=17,nv:=1,nm:=[0,1],res:=[],cs:=λ k=>[(144,A6.e k)] }
def Bi.s (k:Nat):CK 89 (Bi.e k):=mS Bi.d k [] Tryz.func89 ⟨A6.s k,trivial⟩ trivial
def Ik.e (k:Nat):Ent:=⟨1,[(.val true t27)],[(.one,.b)],λ x=>Ik k x⟩
def Ik.d:Fd := { nt:=26,nv:=1,nm:=[0,1],res:=[2],cs:=λ k=>[(93,C4.e k),(94,Ar.e k),(97,A8.e k)] }
def Ik.s (k:Nat):CK 192 (Ik.e k):=mS Ik.d k [] Tryz.func192 ⟨C4.s k,Ar.s k,A8.s k,trivial⟩ trivial
def Ek.e (k:Nat):Ent:=⟨1,[(.val false t31)],[(.one,.b)],λ x=>Ek k x⟩
def Gp.p:LF:=⟨⟨[],[(0,t31),(3,(.i .i64))]⟩,[(.ret,⟨[],[(2,.b)]⟩),((.exit 0),⟨[],[(0,t31)]⟩)],λ k x=>Gp k x.1 x.2⟩
def Ek.d:Fd := { nt:=37,nv:=1,nm:=[0,1,3],res:=[2],cs:=λ k=>[(192,Ik.e k)],ls:=[(2,Gp.p)] }
def Ek.a (k:Nat):AC (Ek.d.cs k):=⟨Ik.s k,trivial⟩
def Gp.s:LL Tryz.f194 Ek.d 2 Gp.p:=mL [] Ek.a trivial
def Ek.s (k:Nat):CK 194 (Ek.e k):=mS Ek.d k [2] Tryz.func194 (Ek.a k) ⟨Gp.s,trivial⟩
def Bz.e (k:Nat):Ent:=⟨1,[(.val true t40)],[(.one,.b)],λ x=>Bz k x⟩
def Hj.p:LF:=⟨⟨[(1,(.bp 1 0 0)),(2999,(.hd 5))],[(3,(.i .i64)),(2000,(.i .i64)),(2001,t13),(2002,t13),(2003,t31),(2004,t31)]⟩,[(.ret,⟨[],[(2,.b)]⟩),((.exit 0),⟨[(1,(.bp 1 0 0)),(2999,(.hd 5))],[(2000,(.i .i64)),(2001,t13),(2002,t13),(2003,t31),(2004,t31)]⟩)],λ k x=>Hj k x.1 x.2.1 x.2.2.1 x.2.2.2.1 x.2.2.2.2.1 x.2.2.2.2.2⟩
def Bz.d:Fd := { nt:=37,nv:=1,nm:=[0,1,3],res:=[2],cs:=λ k=>[(97,A8.e k),(192,Ik.e k),(193,Bl.e k),(194,Ek.e k)],ls:=[(2,Hj.p)] }
def Bz.a (k:Nat):AC (Bz.d.cs k):=⟨A8.s k,Ik.s k,Bl.s k,Ek.s k,trivial⟩
def Hj.s:LL Tryz.f147 Bz.d 2 Hj.p:=mL [] Bz.a trivial
def Bz.s (k:Nat):CK 147 (Bz.e k):=mS Bz.d k [2] Tryz.func147 (Bz.a k) ⟨Hj.s,trivial⟩
def Kg.e (k:Nat):Ent:=⟨3,[(.val true t28),(.val false .s),(.val false (.i .i64))],[(.agg,t30),(.one,.b)],λ x=>Kg k x.1 x.2.1 x.2.2⟩
def Kg.d:Fd := { nt:=97,nv:=3,nm:=[0,1,2,3,4,5,8,9,10,11],res:=[7],cs:=λ k=>[(97,A8.e k),(144,K5.e k),(193,Bl.e k),(225,Df.e k)],mv:=[39,96] }
def Kg.s (k:Nat):CK 244 (Kg.e k):=mS Kg.d k [] Tryz.func244 ⟨A8.s k,K5.s k,Bl.s k,Df.s k,trivial⟩ trivial
def Fb.e (k:Nat):Ent:=⟨3,[(.val true t40),(.val false .s),(.val false (.i .i64))],[(.agg,t42),(.one,.b)],λ x=>Fb k x.1 x.2.1 x.2.2⟩
def Fb.d:Fd := { nt:=44,nv:=3,nm:=[0,1,2,3,4,5,8,9,10,11,12],res:=[7],cs:=λ k=>[(89,Bi.e k),(147,Bz.e k),(233,I8.e k),(244,Kg.e k)],mv:=[29,40,43] }
def Fb.s (k:Nat):CK 220 (Fb.e k):=mS Fb.d k [] Tryz.func220 ⟨Bi.s k,Bz.s k,I8.s k,Kg.s k,trivial⟩ trivial
def I4.e (k:Nat):Ent:=⟨2,[(.val false t0),(.val false .s)],[(.one,.b)],λ x=>I4 k x.1 x.2⟩
def Hk.p:LF:=⟨⟨[],[(0,t0),(1,.s),(5,(.i .i64))]⟩,[(.ret,⟨[],[(4,.b)]⟩),((.exit 0),⟨[],[]⟩)],λ k x=>Hk k x.1 x.2.1 x.2.2⟩
def I4.d:Fd := { nt:=18,nv:=2,nm:=[0,1,2,3,5],res:=[4],ls:=[(2,Hk.p)],rf:=true }
def Hk.s:LL Tryz.f224 I4.d 2 Hk.p:=mL [] (λ _=>trivial) trivial
def I4.s (k:Nat):CK 224 (I4.e k):=mS I4.d k [2] Tryz.func224 trivial ⟨Hk.s,trivial⟩
def Dj.e (k:Nat):Ent:=⟨2,[(.val false t0),(.val false .s)],[(.one,t0)],λ x=>Dj k x.1 x.2⟩
def Ey.p:LF:=⟨⟨[],[(1,.s),(5,t2),(6,(.i .i64))]⟩,[((.exit 0),⟨[],[(1,.s),(5,t2),(6,(.i .i64))]⟩)],λ k x=>Ey k x.1 x.2.1 x.2.2⟩
def Dj.d:Fd := { nt:=46,nv:=2,nm:=[0,1,2,3,5,6],res:=[4],cs:=λ k=>[(224,I4.e k)],ls:=[(5,Ey.p)],rf:=true }
def Dj.a (k:Nat):AC (Dj.d.cs k):=⟨I4.s k,trivial⟩
def Ey.s:LL Tryz.f221 Dj.d 5 Ey.p:=mL [] Dj.a trivial
def Dj.s (k:Nat):CK 221 (Dj.e k):=mS Dj.d k [5] Tryz.func221 (Dj.a k) ⟨Ey.s,trivial⟩
def B3.e (k:Nat):Ent:=⟨2,[(.ptr t51 t51),(.val true t34)],[(.one,.b)],λ x=>B3 k x.1 x.2⟩
def D5.p:LF:=⟨⟨[(0,(.bp 0 0 0)),(3,(.bp 3 0 0)),(1999,(.hd 9)),(4999,(.hd 6))],[(5,t3),(6,(.i .i64)),(1000,t51),(4000,t34)]⟩,[((.exit 1),⟨[(0,(.bp 0 0 0)),(3,(.bp 3 0 0)),(1999,(.hd 9)),(4999,(.hd 6))],[(5,t3),(1000,t51),(4000,t34)]⟩)],λ k x=>D5 k x.1 x.2.1 x.2.2.1 x.2.2.2⟩
def B3.d:Fd := { nt:=134,nv:=2,nm:=[0,1,2,3,5,6,7,8],res:=[4],cs:=λ k=>[(215,Cp.e k),(216,Hh.e k),(217,Hi.e k),(218,Ix.e k),(219,Di.e k),(220,Fb.e k),(221,Dj.e k)],ls:=[(14,D5.p)],rf:=true }
def B3.a (k:Nat):AC (B3.d.cs k):=⟨Cp.s k,Hh.s k,Hi.s k,Ix.s k,Di.s k,Fb.s k,Dj.s k,trivial⟩
def D5.s:LL Tryz.f180 B3.d 14 D5.p:=mL [] B3.a trivial
def B3.s (k:Nat):CK 180 (B3.e k):=mS B3.d k [14] Tryz.func180 (B3.a k) ⟨D5.s,trivial⟩
def J5.e (k:Nat):Ent:=⟨1,[(.val true t17)],[(.agg,t19)],λ x=>J5 k x⟩
def Gq.p:LF:=⟨⟨[(1,(.bp 1 0 0)),(2,(.bp 2 0 0)),(3,(.bp 3 0 0)),(2999,(.hd 2)),(3999,(.hd 2)),(4999,(.hd 2))],[(4,(.i .i64)),(2000,t17),(3000,t19),(4000,t19)]⟩,[((.exit 0),⟨[(2,(.bp 2 0 0)),(3,(.bp 3 0 0)),(3999,(.hd 2)),(4999,(.hd 2))],[(3000,t19),(4000,t19)]⟩)],λ k x=>Gq k x.1 x.2.1 x.2.2.1 x.2.2.2⟩
def J5.d:Fd := { nt:=30,nv:=1,nm:=[0,1,3,4],res:=[],ls:=[(3,Gq.p)],mv:=[29],rf:=true }
def Gq.s:LL Tryz.f88 J5.d 3 Gq.p:=mL [] (λ _=>trivial) trivial
def J5.s (k:Nat):CK 88 (J5.e k):=mS J5.d k [3] Tryz.func88 trivial ⟨Gq.s,trivial⟩
def Jb.e (k:Nat):Ent:=⟨1,[(.val true t17)],[(.agg,t18)],λ x=>Jb k x⟩
def Ku.p:LF:=⟨⟨[(1,(.bp 1 0 0)),(2,(.bp 2 0 0)),(3,(.bp 3 0 0)),(2999,(.hd 2)),(3999,(.hd 2)),(4999,(.hd 2))],[(4,(.i .i64)),(2000,t17),(3000,t19),(4000,t18)]⟩,[((.exit 0),⟨[(2,(.bp 2 0 0)),(3,(.bp 3 0 0)),(3999,(.hd 2)),(4999,(.hd 2))],[(3000,t19),(4000,t18)]⟩)],λ k x=>Ku k x.1 x.2.1 x.2.2.1 x.2.2.2⟩
def Jb.d:Fd := { nt:=30,nv:=1,nm:=[0,1,3,4],res:=[],ls:=[(3,Ku.p)],hint:=[(26,t7),(27,t7)],mv:=[29],rf:=true }
def Ku.s:LL Tryz.f88 Jb.d 3 Ku.p:=mL [] (λ _=>trivial) trivial
def Jb.s (k:Nat):CK 88 (Jb.e k):=mS Jb.d k [3] Tryz.func88 trivial ⟨Ku.s,trivial⟩
def El.e (k:Nat):Ent:=⟨2,[(.val true t6),(.val false (.i .i64))],[(.one,.b)],λ x=>El k x.1 x.2⟩
def Hl.p:LF:=⟨⟨[(2,(.bp 2 0 0)),(3999,(.hd 1))],[(1,(.i .i64)),(5,(.i .i64)),(3000,t6)]⟩,[(.ret,⟨[],[(4,.b)]⟩),((.exit 0),⟨[(2,(.bp 2 0 0)),(3999,(.hd 1))],[(1,(.i .i64)),(3000,t6)]⟩)],λ k x=>Hl k x.1 x.2.1 x.2.2⟩
def El.d:Fd := { nt:=28,nv:=2,nm:=[0,1,2,3,5],res:=[4],cs:=λ k=>[(162,Cm.e k)],ls:=[(2,Hl.p)],rf:=true }
def El.a (k:Nat):AC (El.d.cs k):=⟨Cm.s k,trivial⟩
def Hl.s:LL Tryz.f145 El.d 2 Hl.p:=mL [] El.a trivial
def El.s (k:Nat):CK 145 (El.e k):=mS El.d k [2] Tryz.func145 (El.a k) ⟨Hl.s,trivial⟩
def Jz.e (k:Nat):Ent:=⟨2,[(.val true t17),(.val false t22)],[(.one,.b)],λ x=>Jz k x.1 x.2⟩
def Jj.p:LF:=⟨⟨[(2,(.bp 2 0 0)),(3999,(.hd 2))],[(5,(.i .i64)),(3000,t17)]⟩,[(.ret,⟨[],[(4,.b)]⟩),((.exit 0),⟨[],[]⟩)],λ k x=>Jj k x.1 x.2⟩
def Jz.d:Fd := { nt:=45,nv:=2,nm:=[0,1,2,3,5],res:=[4],cs:=λ k=>[(97,A8.e k),(112,Bw.e k),(145,El.e k)],ls:=[(4,Jj.p)],rf:=true }
def Jz.a (k:Nat):AC (Jz.d.cs k):=⟨A8.s k,Bw.s k,El.s k,trivial⟩
def Jj.s:LL Tryz.f245 Jz.d 4 Jj.p:=mL [] Jz.a trivial
def Jz.s (k:Nat):CK 245 (Jz.e k):=mS Jz.d k [4] Tryz.func245 (Jz.a k) ⟨Jj.s,trivial⟩
def Gz.e (k:Nat):Ent:=⟨2,[(.val true t6),(.val false t22)],[(.one,(.i .i64))],λ x=>Gz k x.1 x.2⟩
def Hm.p:LF:=⟨⟨[(2,(.bp 2 0 0)),(3999,(.hd 1))],[(1,t22),(5,(.i .i64)),(3000,t6)]⟩,[(.ret,⟨[],[(4,(.i .i64))]⟩),((.exit 0),⟨[],[]⟩)],λ k x=>Hm k x.1 x.2.1 x.2.2⟩
def Gz.d:Fd := { nt:=28,nv:=2,nm:=[0,1,2,3,5,6,7],res:=[4],cs:=λ k=>[(146,Eh.e k)],ls:=[(2,Hm.p)],rf:=true }
def Gz.a (k:Nat):AC (Gz.d.cs k):=⟨Eh.s k,trivial⟩
def Hm.s:LL Tryz.f246 Gz.d 2 Hm.p:=mL [] Gz.a trivial
def Gz.s (k:Nat):CK 246 (Gz.e k):=mS Gz.d k [2] Tryz.func246 (Gz.a k) ⟨Hm.s,trivial⟩
def Fc.e (k:Nat):Ent:=⟨4,[(.val true t17),(.val true t6),(.val false t22),(.val false (.i .i64))],[(.one,(.i .i64))],λ x=>Fc k x.1 x.2.1 x.2.2.1 x.2.2.2⟩
def Cd.p:LF:=⟨⟨[(4,(.bp 4 0 0)),(5,(.bp 5 0 0)),(9,(.bp 9 0 0)),(5999,(.hd 2)),(6999,(.hd 1)),(10999,(.hd 3))],[(2,t22),(3,(.i .i64)),(10,.b),(11,(.i .i64)),(5000,t17),(6000,t6),(10000,t16)]⟩,[(.ret,⟨[],[(8,(.i .i64))]⟩),((.exit 0),⟨[],[]⟩)],λ k x=>Cd k x.1 x.2.1 x.2.2.1 x.2.2.2.1 x.2.2.2.2.1 x.2.2.2.2.2.1 x.2.2.2.2.2.2⟩
def Fc.d:Fd := { nt:=60,nv:=4,nm:=[0,1,2,3,4,5,6,7,9,10,11,12,13],res:=[8],cs:=λ k=>[(146,Eh.e k),(163,Cs.e k)],ls:=[(3,Cd.p)],rf:=true }
def Fc.a (k:Nat):AC (Fc.d.cs k):=⟨Eh.s k,Cs.s k,trivial⟩
def Cd.s:LL Tryz.f247 Fc.d 3 Cd.p:=mL [] Fc.a trivial
def Fc.s (k:Nat):CK 247 (Fc.e k):=mS Fc.d k [3] Tryz.func247 (Fc.a k) ⟨Cd.s,trivial⟩
def Cq.e (k:Nat):Ent:=⟨2,[(.val true t17),(.val false t22)],[(.agg,t18),(.one,(.i .i64))],λ x=>Cq k x.1 x.2⟩
def B7.p:LF:=⟨⟨[(4,(.bp 4 0 0)),(6,(.bp 6 0 0)),(5999,(.hd 2)),(7999,(.hd 2))],[(1,t22),(7,(.i .i64)),(8,(.i .i64)),(5000,t19),(7000,t18)]⟩,[((.exit 0),⟨[(4,(.bp 4 0 0)),(6,(.bp 6 0 0)),(5999,(.hd 2)),(7999,(.hd 2))],[(7,(.i .i64)),(5000,t19),(7000,t18)]⟩)],λ k x=>B7 k x.1 x.2.1 x.2.2.1 x.2.2.2.1 x.2.2.2.2⟩
def Cq.d:Fd := { nt:=82,nv:=2,nm:=[0,1,2,3,6,7,8,9,10,11,12],res:=[5],cs:=λ k=>[(88,Jb.e k),(113,I7.e k),(245,Jz.e k),(246,Gz.e k),(247,Fc.e k)],ls:=[(6,B7.p)],mv:=[19,80],rf:=true }
def Cq.a (k:Nat):AC (Cq.d.cs k):=⟨Jb.s k,I7.s k,Jz.s k,Gz.s k,Fc.s k,trivial⟩
def B7.s:LL Tryz.f222 Cq.d 6 B7.p:=mL [] Cq.a trivial
def Cq.s (k:Nat):CK 222 (Cq.e k):=mS Cq.d k [6] Tryz.func222 (Cq.a k) ⟨B7.s,trivial⟩
def Hn.e (k:Nat):Ent:=⟨3,[(.ptr t51 t51),(.val false (.i .i64)),(.val false (.i .i64))],[(.one,.b)],λ x=>Hn k x.1 x.2.1 x.2.2⟩
def Hn.d:Fd := { nt:=49,nv:=3,nm:=[0,1,2,3,4,5,7,8],res:=[6],cs:=λ k=>[(97,A8.e k),(222,Cq.e k)],rf:=true }
def Hn.s (k:Nat):CK 181 (Hn.e k):=mS Hn.d k [] Tryz.func181 ⟨A8.s k,Cq.s k,trivial⟩ trivial
def J1.e (k:Nat):Ent:=⟨2,[(.ptr t51 t51),(.val true t34)],[(.one,.b)],λ x=>J1 k x.1 x.2⟩
def J1.d:Fd := { nt:=76,nv:=2,nm:=[0,1,2,3,5,6],res:=[4],cs:=λ k=>[(40,Ej.e k),(97,A8.e k),(180,B3.e k),(181,Hn.e k)],rf:=true }
def J1.s (k:Nat):CK 136 (J1.e k):=mS J1.d k [] Tryz.func136 ⟨Ej.s k,A8.s k,B3.s k,Hn.s k,trivial⟩ trivial
def Js.e (k:Nat):Ent:=⟨2,[(.ptr t21 t21),(.val false t0)],[(.one,.s)],λ x=>Js x.1 x.2⟩
def Js.d:Fd := { nt:=12,nv:=2,nm:=[0,1,2,3],res:=[4],cs:=λ k=>[(78,A3.e k)] }
def Js.s (k:Nat):CK 76 (Js.e k):=mS Js.d k [] Tryz.func76 ⟨A3.s k,trivial⟩ trivial
def Bt.e (k:Nat):Ent:=⟨1,[(.ptr t21 t21)],[(.one,.s)],λ x=>Bt x⟩
def Bt.d:Fd := { nt:=6,nv:=1,nm:=[0,1],res:=[2],cs:=λ k=>[(76,Js.e k)] }
def Bt.s (k:Nat):CK 77 (Bt.e k):=mS Bt.d k [] Tryz.func77 ⟨Js.s k,trivial⟩ trivial
def Co.e (k:Nat):Ent:=⟨1,[(.ptr t21 t21)],[(.one,t7)],λ x=>Co k x⟩
def G0.p:LF:=⟨⟨[(0,(.bp 0 0 0)),(1999,(.hd 3))],[(3,t7),(4,(.i .i64)),(1000,t21)]⟩,[((.exit 0),⟨[(1999,(.hd 3))],[(3,t7),(1000,t21)]⟩)],λ k x=>G0 k x.1 x.2.1 x.2.2⟩
def Co.d:Fd := { nt:=17,nv:=1,nm:=[0,1,3,4],res:=[2],cs:=λ k=>[(34,Aa.e k)],ls:=[(3,G0.p)],rf:=true }
def Co.a (k:Nat):AC (Co.d.cs k):=⟨Aa.s k,trivial⟩
def G0.s:LL Tryz.f79 Co.d 3 G0.p:=mL [] Co.a trivial
def Co.s (k:Nat):CK 79 (Co.e k):=mS Co.d k [3] Tryz.func79 (Co.a k) ⟨G0.s,trivial⟩
def G4.e (k:Nat):Ent:=⟨2,[(.ptr t21 t21),(.val false (.i .i64))],[(.one,t5)],λ x=>G4 k x.1 x.2⟩
def G3.p:LF:=⟨⟨[(0,(.bp 0 0 0)),(1999,(.hd 3))],[(1,(.i .i64)),(5,t5),(6,(.i .i64)),(1000,t4),(1001,(.i .i64)),(1002,(.i .i64))]⟩,[((.exit 0),⟨[(1999,(.hd 3))],[(5,t5),(1000,t4),(1001,(.i .i64)),(1002,(.i .i64))]⟩)],λ k x=>G3 k x.1 x.2.1 x.2.2.1 x.2.2.2.1 x.2.2.2.2.1 x.2.2.2.2.2⟩
def G4.d:Fd := { nt:=20,nv:=2,nm:=[0,1,2,3,5,6],res:=[4],cs:=λ k=>[(141,Fv.e k)],ls:=[(3,G3.p)] }
def G4.a (k:Nat):AC (G4.d.cs k):=⟨Fv.s k,trivial⟩
def G3.s:LL Tryz.f223 G4.d 3 G3.p:=mL [] G4.a trivial
def G4.s (k:Nat):CK 223 (G4.e k):=mS G4.d k [3] Tryz.func223 (G4.a k) ⟨G3.s,trivial⟩
def Dx.e (k:Nat):Ent:=⟨1,[(.ptr t21 t21)],[(.one,t5)],λ x=>Dx k x⟩
def Dx.d:Fd := { nt:=8,nv:=1,nm:=[0,1],res:=[2],cs:=λ k=>[(34,Aa.e k),(223,G4.e k)] }
def Dx.s (k:Nat):CK 182 (Dx.e k):=mS Dx.d k [] Tryz.func182 ⟨Aa.s k,G4.s k,trivial⟩ trivial
def Gx.e (k:Nat):Ent:=⟨1,[(.val true t28)],[(.one,t2)],λ x=>Gx k x⟩
def Jk.p:LF:=⟨⟨[(1,(.bp 1 0 0)),(2999,(.hd 2))],[(3,t2),(4,(.i .i64)),(7,(.i .i64)),(2000,t28)]⟩,[((.exit 2),⟨[(1,(.bp 1 0 0)),(2999,(.hd 2))],[(3,t2),(4,(.i .i64)),(7,(.i .i64)),(2000,t28)]⟩)],λ k x=>Jk k x.1 x.2.1 x.2.2.1 x.2.2.2⟩
def H7.p:LF:=⟨⟨[(1,(.bp 1 0 0)),(2999,(.hd 2))],[(3,t2),(4,(.i .i64)),(2000,t28)]⟩,[((.exit 0),⟨[],[(3,t2)]⟩)],λ k x=>H7 k x.1 x.2.1 x.2.2⟩
def Gx.d:Fd := { nt:=98,nv:=1,nm:=[0,1,3,4,5,6,7],res:=[2],cs:=λ k=>[(108,Ed.e k),(224,I4.e k),(225,Df.e k)],ls:=[(9,Jk.p),(3,H7.p)],rf:=true }
def Gx.a (k:Nat):AC (Gx.d.cs k):=⟨Ed.s k,I4.s k,Df.s k,trivial⟩
def Jk.s:LL Tryz.f183 Gx.d 9 Jk.p:=mL [] Gx.a trivial
def H7.s:LL Tryz.f183 Gx.d 3 H7.p:=mL [9] Gx.a ⟨Jk.s,trivial⟩
def Gx.s (k:Nat):CK 183 (Gx.e k):=mS Gx.d k [3] Tryz.func183 (Gx.a k) ⟨H7.s,trivial⟩
def Ez.e (k:Nat):Ent:=⟨2,[(.ptr t21 t21),(.vw t51 2),(.hid t51 t51)],[(.agg,(.pr (.i .i64) (.pr (.i .i64) (.pr .s (.pr t5 (.pr (.i .i64) t7))))))],λ x=>Ez k x.1 x.2.1 x.2.2⟩
def Ez.d:Fd := { nt:=99,nv:=2,nm:=[0,1,2,3,5,6],res:=[],cs:=λ k=>[(34,Aa.e k),(77,Bt.e k),(78,A3.e k),(79,Co.e k),(182,Dx.e k),(183,Gx.e k)],mv:=[1,98],rf:=true }
def Ez.s (k:Nat):CK 137 (Ez.e k):=mS Ez.d k [] Tryz.func137 ⟨Aa.s k,Bt.s k,A3.s k,Co.s k,Dx.s k,Gx.s k,trivial⟩ trivial
def Ee.e (k:Nat):Ent:=⟨2,[(.ptr t21 t21),(.val false (.i .i64))],[(.agg,t51)],λ x=>Ee k x.1 x.2⟩
def G5.p:LF:=⟨⟨[(0,(.bp 0 0 0)),(4,(.bp 4 0 0)),(5,(.bp 5 0 0)),(1999,(.hd 3)),(5999,(.hd 9)),(6999,(.hd 9))],[(6,(.i .i64)),(1000,t21),(5000,t50),(6000,t51)]⟩,[((.exit 0),⟨[(4,(.bp 4 0 0)),(5,(.bp 5 0 0)),(5999,(.hd 9)),(6999,(.hd 9)),(1999,(.hd 3))],[(5000,t50),(6000,t51),(1000,t21)]⟩)],λ k x=>G5 k x.1 x.2.1 x.2.2.1 x.2.2.2⟩
def Ee.d:Fd := { nt:=21,nv:=2,nm:=[0,1,2,3,5,6],res:=[],cs:=λ k=>[(78,A3.e k),(135,Kd.e k),(136,J1.e k),(137,Ez.e k)],ls:=[(3,G5.p)],mv:=[20],rf:=true }
def Ee.a (k:Nat):AC (Ee.d.cs k):=⟨A3.s k,Kd.s k,J1.s k,Ez.s k,trivial⟩
def G5.s:LL Tryz.f73 Ee.d 3 G5.p:=mL [] Ee.a trivial
def Ee.s (k:Nat):CK 73 (Ee.e k):=mS Ee.d k [3] Tryz.func73 (Ee.a k) ⟨G5.s,trivial⟩
def Ce.e (k:Nat):Ent:=⟨2,[(.ptr t21 t21),(.val false (.i .i64))],[(.one,.b)],λ x=>Ce x.1 x.2⟩
def Ce.d:Fd := { nt:=9,nv:=2,nm:=[0,1,2,3],res:=[4],cs:=λ k=>[(78,A3.e k)] }
def Ce.s (k:Nat):CK 74 (Ce.e k):=mS Ce.d k [] Tryz.func74 ⟨A3.s k,trivial⟩ trivial
def Dd.e (k:Nat):Ent:=⟨1,[(.ptr t21 t21)],[(.one,.s)],λ x=>Dd x⟩
def Dd.d:Fd := { nt:=10,nv:=1,nm:=[0,1],res:=[2],cs:=λ k=>[(74,Ce.e k),(76,Js.e k),(77,Bt.e k)] }
def Dd.s (k:Nat):CK 33 (Dd.e k):=mS Dd.d k [] Tryz.func33 ⟨Ce.s k,Js.s k,Bt.s k,trivial⟩ trivial
def C6.e (k:Nat):Ent:=⟨1,[(.val true t48)],[(.agg,t50)],λ x=>C6 k x⟩
def G6.p:LF:=⟨⟨[(1,(.bp 1 0 0)),(2,(.bp 2 0 0)),(3,(.bp 3 0 0)),(2999,(.hd 9)),(3999,(.hd 9)),(4999,(.hd 9))],[(5,(.i .i64)),(2000,t48),(3000,t50),(4000,t50)]⟩,[((.exit 2),⟨[(2,(.bp 2 0 0)),(3,(.bp 3 0 0)),(3999,(.hd 9)),(4999,(.hd 9))],[(3000,t50),(4000,t50)]⟩)],λ k x=>G6 k x.1 x.2.1 x.2.2.1 x.2.2.2⟩
def G7.p:LF:=⟨⟨[(1,(.bp 1 0 0)),(2,(.bp 2 0 0)),(3,(.bp 3 0 0)),(2999,(.hd 9)),(3999,(.hd 9)),(4999,(.hd 9))],[(4,(.i .i64)),(2000,t48),(3000,t50),(4000,t50)]⟩,[((.exit 0),⟨[(1,(.bp 1 0 0)),(2,(.bp 2 0 0)),(3,(.bp 3 0 0)),(2999,(.hd 9)),(3999,(.hd 9)),(4999,(.hd 9))],[(2000,t48),(3000,t50),(4000,t50)]⟩)],λ k x=>G7 k x.1 x.2.1 x.2.2.1 x.2.2.2⟩
def C6.d:Fd := { nt:=62,nv:=1,nm:=[0,1,3,4,5,6],res:=[],cs:=λ k=>[(88,J5.e k),(89,Bi.e k),(90,Bo.e k)],ls:=[(7,G6.p),(3,G7.p)],mv:=[61],rf:=true }
def C6.a (k:Nat):AC (C6.d.cs k):=⟨J5.s k,Bi.s k,Bo.s k,trivial⟩
def G6.s:LL Tryz.f38 C6.d 7 G6.p:=mL [] C6.a trivial
def G7.s:LL Tryz.f38 C6.d 3 G7.p:=mL [] C6.a trivial
def C6.s (k:Nat):CK 38 (C6.e k):=mS C6.d k [3,7] Tryz.func38 (C6.a k) ⟨G7.s,G6.s,trivial⟩
def Il.e (k:Nat):Ent:=⟨1,[(.ptr t21 t21)],[(.agg,t16)],λ x=>Il x⟩
def Il.d:Fd := { nt:=11,nv:=1,nm:=[0,1],res:=[],cs:=λ k=>[(34,Aa.e k),(78,A3.e k)] }
def Il.s (k:Nat):CK 187 (Il.e k):=mS Il.d k [] Tryz.func187 ⟨Aa.s k,A3.s k,trivial⟩ trivial
def Cf.e (k:Nat):Ent:=⟨1,[(.ptr t21 t21)],[(.agg,t26)],λ x=>Cf k x⟩
def Cf.d:Fd := { nt:=16,nv:=1,nm:=[0,1,3],res:=[],cs:=λ k=>[(74,Ce.e k),(182,Dx.e k),(187,Il.e k)],mv:=[15] }
def Cf.s (k:Nat):CK 188 (Cf.e k):=mS Cf.d k [] Tryz.func188 ⟨Ce.s k,Dx.s k,Il.s k,trivial⟩ trivial
def Jl.e (k:Nat):Ent:=⟨4,[(.val true t40),(.val false .s),(.val true t25),(.val false .b)],[(.agg,t42),(.one,(.i .i64))],λ x=>Jl k x.1 x.2.1 x.2.2.1 x.2.2.2⟩
def Jl.d:Fd := { nt:=34,nv:=4,nm:=[0,1,2,3,4,5,6,7,10,11],res:=[9],cs:=λ k=>[(89,Bi.e k),(94,Ar.e k),(95,Bx.e k),(147,Bz.e k),(150,Ij.e k)],mv:=[27,32] }
def Jl.s (k:Nat):CK 226 (Jl.e k):=mS Jl.d k [] Tryz.func226 ⟨Bi.s k,Ar.s k,Bx.s k,Bz.s k,Ij.s k,trivial⟩ trivial
def Im.e (k:Nat):Ent:=⟨2,[(.val true t40),(.val false t31)],[(.agg,t43),(.one,.b)],λ x=>Im k x.1 x.2⟩
def Im.d:Fd := { nt:=25,nv:=2,nm:=[0,1,2,3,6],res:=[5],cs:=λ k=>[(89,Bi.e k),(147,Bz.e k),(194,Ek.e k),(248,Hg.e k)],mv:=[24] }
def Im.s (k:Nat):CK 227 (Im.e k):=mS Im.d k [] Tryz.func227 ⟨Bi.s k,Bz.s k,Ek.s k,Hg.s k,trivial⟩ trivial
def Io.e (k:Nat):Ent:=⟨1,[(.ptr t21 t21)],[(.agg,t27)],λ x=>Io k x⟩
def Io.d:Fd := { nt:=8,nv:=1,nm:=[0,1],res:=[],cs:=λ k=>[(77,Bt.e k),(188,Cf.e k),(199,Iw.e k)] }
def Io.s (k:Nat):CK 230 (Io.e k):=mS Io.d k [] Tryz.func230 ⟨Bt.s k,Cf.s k,Iw.s k,trivial⟩ trivial
def D6.e (k:Nat):Ent:=⟨1,[(.ptr t21 t21)],[(.one,t32)],λ x=>D6 k x⟩
def G8.p:LF:=⟨⟨[(0,(.bp 0 0 0)),(1999,(.hd 3))],[(3,t32),(4,(.i .i64)),(1000,t4),(1001,(.i .i64)),(1002,(.i .i64))]⟩,[((.exit 0),⟨[(1999,(.hd 3))],[(3,t32),(1000,t4),(1001,(.i .i64)),(1002,(.i .i64))]⟩)],λ k x=>G8 k x.1 x.2.1 x.2.2.1 x.2.2.2.1 x.2.2.2.2⟩
def D6.d:Fd := { nt:=17,nv:=1,nm:=[0,1,3,4],res:=[2],cs:=λ k=>[(78,A3.e k),(230,Io.e k),(249,Bp.e k)],ls:=[(3,G8.p)] }
def D6.a (k:Nat):AC (D6.d.cs k):=⟨A3.s k,Io.s k,Bp.s k,trivial⟩
def G8.s:LL Tryz.f228 D6.d 3 G8.p:=mL [] D6.a trivial
def D6.s (k:Nat):CK 228 (D6.e k):=mS D6.d k [3] Tryz.func228 (D6.a k) ⟨G8.s,trivial⟩
def Fe.e (k:Nat):Ent:=⟨1,[(.ptr t21 t21)],[(.agg,t44)],λ x=>Fe k x⟩
def G9.p:LF:=⟨⟨[(0,(.bp 0 0 0)),(2,(.bp 2 0 0)),(3,(.bp 3 0 0)),(1999,(.hd 3)),(3999,(.hd 5)),(4999,(.hd 5))],[(4,(.i .i64)),(1000,t4),(1001,(.i .i64)),(1002,(.i .i64)),(3000,(.i .i64)),(3001,t14),(3002,t14),(3003,t32),(3004,t32),(4000,(.i .i64)),(4001,t13),(4002,t13),(4003,t32),(4004,t32)]⟩,[((.exit 0),⟨[(0,(.bp 0 0 0)),(2,(.bp 2 0 0)),(3,(.bp 3 0 0)),(1999,(.hd 3)),(3999,(.hd 5)),(4999,(.hd 5))],[(1000,t4),(1001,(.i .i64)),(1002,(.i .i64)),(3000,(.i .i64)),(3001,t14),(3002,t14),(3003,t32),(3004,t32),(4000,(.i .i64)),(4001,t13),(4002,t13),(4003,t32),(4004,t32)]⟩)],λ k x=>G9 k x.1 x.2.1 x.2.2.1 x.2.2.2.1 x.2.2.2.2.1 x.2.2.2.2.2.1 x.2.2.2.2.2.2.1 x.2.2.2.2.2.2.2.1 x.2.2.2.2.2.2.2.2.1 x.2.2.2.2.2.2.2.2.2.1 x.2.2.2.2.2.2.2.2.2.2.1 x.2.2.2.2.2.2.2.2.2.2.2.1 x.2.2.2.2.2.2.2.2.2.2.2.2.1 x.2.2.2.2.2.2.2.2.2.2.2.2.2⟩
def Fe.d:Fd := { nt:=47,nv:=1,nm:=[0,1,3,4],res:=[],cs:=λ k=>[(54,H5.e k),(74,Ce.e k),(77,Bt.e k),(78,A3.e k),(188,Cf.e k),(220,Fb.e k),(226,Jl.e k),(227,Im.e k),(228,D6.e k)],ls:=[(3,G9.p)],mv:=[46] }
def Fe.a (k:Nat):AC (Fe.d.cs k):=⟨H5.s k,Ce.s k,Bt.s k,A3.s k,Cf.s k,Fb.s k,Jl.s k,Im.s k,D6.s k,trivial⟩
def G9.s:LL Tryz.f184 Fe.d 3 G9.p:=mL [] Fe.a trivial
def Fe.s (k:Nat):CK 184 (Fe.e k):=mS Fe.d k [3] Tryz.func184 (Fe.a k) ⟨G9.s,trivial⟩
def Fi.e (k:Nat):Ent:=⟨1,[(.ptr t21 t21)],[(.agg,t29)],λ x=>Fi k x⟩
def B4.p:LF:=⟨⟨[(0,(.bp 0 0 0)),(2,(.bp 2 0 0)),(3,(.bp 3 0 0)),(1999,(.hd 3)),(3999,(.hd 2)),(4999,(.hd 2))],[(4,(.i .i64)),(1000,t4),(1001,(.i .i64)),(1002,(.i .i64)),(3000,t14),(3001,t14),(4000,t14),(4001,t14)]⟩,[((.exit 0),⟨[(2,(.bp 2 0 0)),(3,(.bp 3 0 0)),(3999,(.hd 2)),(4999,(.hd 2)),(1999,(.hd 3))],[(3000,t14),(3001,t14),(4000,t14),(4001,t14),(1000,t4),(1001,(.i .i64)),(1002,(.i .i64))]⟩)],λ k x=>B4 k x.1 x.2.1 x.2.2.1 x.2.2.2.1 x.2.2.2.2.1 x.2.2.2.2.2.1 x.2.2.2.2.2.2.1 x.2.2.2.2.2.2.2⟩
def Fi.d:Fd := { nt:=44,nv:=1,nm:=[0,1,3,4,5],res:=[],cs:=λ k=>[(77,Bt.e k),(78,A3.e k),(157,Bh.e k),(188,Cf.e k),(235,Aq.e k),(236,Bd.e k),(240,Bf.e k)],ls:=[(3,B4.p)],mv:=[43] }
def Fi.a (k:Nat):AC (Fi.d.cs k):=⟨Bt.s k,A3.s k,Bh.s k,Cf.s k,Aq.s k,Bd.s k,Bf.s k,trivial⟩
def B4.s:LL Tryz.f229 Fi.d 3 B4.p:=mL [] Fi.a trivial
def Fi.s (k:Nat):CK 229 (Fi.e k):=mS Fi.d k [3] Tryz.func229 (Fi.a k) ⟨B4.s,trivial⟩
def Jt.e (k:Nat):Ent:=⟨1,[(.ptr t21 t21)],[(.agg,t29)],λ x=>Jt k x⟩
def Jt.d:Fd := { nt:=33,nv:=1,nm:=[0,1,3],res:=[],cs:=λ k=>[(33,Dd.e k),(78,A3.e k),(229,Fi.e k)],mv:=[32] }
def Jt.s (k:Nat):CK 185 (Jt.e k):=mS Jt.d k [] Tryz.func185 ⟨Dd.s k,A3.s k,Fi.s k,trivial⟩ trivial
def Kh.e (k:Nat):Ent:=⟨1,[(.ptr t21 t21)],[(.one,t32)],λ x=>Kh k x⟩
def Kh.d:Fd := { nt:=27,nv:=1,nm:=[0,1,3],res:=[2],cs:=λ k=>[(34,Aa.e k),(78,A3.e k),(228,D6.e k),(230,Io.e k)] }
def Kh.s (k:Nat):CK 186 (Kh.e k):=mS Kh.d k [] Tryz.func186 ⟨Aa.s k,A3.s k,D6.s k,Io.s k,trivial⟩ trivial
def Gb.e (k:Nat):Ent:=⟨1,[(.ptr t21 t21)],[(.agg,t44)],λ x=>Gb k x⟩
def Ga.p:LF:=⟨⟨[(0,(.bp 0 0 0)),(2,(.bp 2 0 0)),(3,(.bp 3 0 0)),(1999,(.hd 3)),(3999,(.hd 5)),(4999,(.hd 5))],[(1000,t4),(1001,(.i .i64)),(1002,(.i .i64)),(3000,(.i .i64)),(3001,t14),(3002,t14),(3003,t32),(3004,t32),(4000,(.i .i64)),(4001,t13),(4002,t13),(4003,t31),(4004,t32)]⟩,[((.exit 1),⟨[(2,(.bp 2 0 0)),(3,(.bp 3 0 0)),(3999,(.hd 5)),(4999,(.hd 5)),(1999,(.hd 3))],[(3000,(.i .i64)),(3001,t14),(3002,t14),(3003,t32),(3004,t32),(4000,(.i .i64)),(4001,t13),(4002,t13),(4003,t31),(4004,t32),(1000,t4),(1001,(.i .i64)),(1002,(.i .i64))]⟩)],λ k x=>Ga k x.1 x.2.1 x.2.2.1 x.2.2.2.1 x.2.2.2.2.1 x.2.2.2.2.2.1 x.2.2.2.2.2.2.1 x.2.2.2.2.2.2.2.1 x.2.2.2.2.2.2.2.2.1 x.2.2.2.2.2.2.2.2.2.1 x.2.2.2.2.2.2.2.2.2.2.1 x.2.2.2.2.2.2.2.2.2.2.2.1 x.2.2.2.2.2.2.2.2.2.2.2.2⟩
def Gb.d:Fd := { nt:=50,nv:=1,nm:=[0,1,3],res:=[],cs:=λ k=>[(33,Dd.e k),(34,Aa.e k),(78,A3.e k),(184,Fe.e k),(185,Jt.e k),(186,Kh.e k)],ls:=[(12,Ga.p)],mv:=[49] }
def Gb.a (k:Nat):AC (Gb.d.cs k):=⟨Dd.s k,Aa.s k,A3.s k,Fe.s k,Jt.s k,Kh.s k,trivial⟩
def Ga.s:LL Tryz.f138 Gb.d 12 Ga.p:=mL [] Gb.a trivial
def Gb.s (k:Nat):CK 138 (Gb.e k):=mS Gb.d k [12] Tryz.func138 (Gb.a k) ⟨Ga.s,trivial⟩
def J6.e (k:Nat):Ent:=⟨1,[(.ptr t21 t21)],[(.agg,t16)],λ x=>J6 x⟩
def J6.d:Fd := { nt:=27,nv:=1,nm:=[0,1,3],res:=[],cs:=λ k=>[(34,Aa.e k),(78,A3.e k),(187,Il.e k)] }
def J6.s (k:Nat):CK 139 (J6.e k):=mS J6.d k [] Tryz.func139 ⟨Aa.s k,A3.s k,Il.s k,trivial⟩ trivial
def Kw.e (k:Nat):Ent:=⟨1,[(.ptr t21 t21)],[(.agg,t26)],λ x=>Kw k x⟩
def Kw.d:Fd := { nt:=27,nv:=1,nm:=[0,1,3],res:=[],cs:=λ k=>[(78,A3.e k),(139,J6.e k),(188,Cf.e k)],mv:=[26] }
def Kw.s (k:Nat):CK 140 (Kw.e k):=mS Kw.d k [] Tryz.func140 ⟨A3.s k,J6.s k,Cf.s k,trivial⟩ trivial
def Gc.e (k:Nat):Ent:=⟨2,[(.ptr t21 t21),(.vw t51 2),(.hid t51 t48)],[(.agg,(.pr t23 (.pr t19 (.pr t46 (.pr t16 (.pr t35 t2))))))],λ x=>Gc k x.1 x.2.1 x.2.2⟩
def Gc.d:Fd := { nt:=100,nv:=2,nm:=[0,1,2,3,5],res:=[],cs:=λ k=>[(33,Dd.e k),(34,Aa.e k),(38,C6.e k),(78,A3.e k),(138,Gb.e k),(139,J6.e k),(140,Kw.e k)],mv:=[1,99],rf:=true }
def Gc.s (k:Nat):CK 75 (Gc.e k):=mS Gc.d k [] Tryz.func75 ⟨Dd.s k,Aa.s k,C6.s k,A3.s k,Gb.s k,J6.s k,Kw.s k,trivial⟩ trivial
def Ki.e (k:Nat):Ent:=⟨2,[(.ptr t21 t21),(.val false (.i .i64))],[(.agg,t52)],λ x=>Ki k x.1 x.2⟩
def Ki.d:Fd := { nt:=15,nv:=2,nm:=[0,1,2,3,5],res:=[],cs:=λ k=>[(73,Ee.e k),(74,Ce.e k),(75,Gc.e k)],mv:=[14],rf:=true }
def Ki.s (k:Nat):CK 31 (Ki.e k):=mS Ki.d k [] Tryz.func31 ⟨Ee.s k,Ce.s k,Gc.s k,trivial⟩ trivial
def Kj.e (k:Nat):Ent:=⟨2,[(.val false t4),(.val false (.i .i64))],[(.one,(.i .i64))],λ x=>Kj x.1 x.2⟩
def Kj.d:Fd := { nt:=15,nv:=2,nm:=[0,1,2,3,5],res:=[4],rf:=true }
def Kj.s (k:Nat):CK 32 (Kj.e k):=mS Kj.d k [] Tryz.func32 trivial trivial
def Kk.e (k:Nat):Ent:=⟨1,[(.ptr t21 t21)],[(.one,t6)],λ x=>Kk k x⟩
def Kk.d:Fd := { nt:=22,nv:=1,nm:=[0,1,3],res:=[2],cs:=λ k=>[(34,Aa.e k),(78,A3.e k),(79,Co.e k)],rf:=true }
def Kk.s (k:Nat):CK 35 (Kk.e k):=mS Kk.d k [] Tryz.func35 ⟨Aa.s k,A3.s k,Co.s k,trivial⟩ trivial
def Cg.e (k:Nat):Ent:=⟨1,[(.val false t4)],[(.agg,t52),(.one,.s),(.one,(.i .i64)),(.one,t6)],λ x=>Cg k x⟩
def Cg.d:Fd := { nt:=29,nv:=1,nm:=[0,1,6,7],res:=[3,4,5],cs:=λ k=>[(30,Kt.e k),(31,Ki.e k),(32,Kj.e k),(33,Dd.e k),(34,Aa.e k),(35,Kk.e k)],mv:=[14],rf:=true }
def Cg.s (k:Nat):CK 8 (Cg.e k):=mS Cg.d k [] Tryz.func8 ⟨Kt.s k,Ki.s k,Kj.s k,Dd.s k,Aa.s k,Kk.s k,trivial⟩ trivial
def F3.e (k:Nat):Ent:=⟨3,[(.val false (.i .i64)),(.val false (.i .i64)),(.val false (.i .i64))],[(.one,.b)],λ x=>F3 x.1 x.2.1 x.2.2⟩
def F3.d:Fd := { nt:=15,nv:=3,nm:=[0,1,2,3,4,5],res:=[6] }
def F3.s (k:Nat):CK 83 (F3.e k):=mS F3.d k [] Tryz.func83 trivial trivial
def Ah.e (k:Nat):Ent:=⟨1,[(.val false .s)],[(.one,.b)],λ x=>Ah k x⟩
def As.p:LF:=⟨⟨[],[(0,.s),(3,(.i .i64))]⟩,[(.ret,⟨[],[(2,.b)]⟩),((.exit 0),⟨[],[(0,.s)]⟩)],λ k x=>As k x.1 x.2⟩
def Ah.d:Fd := { nt:=45,nv:=1,nm:=[0,1,3,4],res:=[2],cs:=λ k=>[(83,F3.e k)],ls:=[(2,As.p)] }
def Ah.a (k:Nat):AC (Ah.d.cs k):=⟨F3.s k,trivial⟩
def As.s:LL Tryz.f41 Ah.d 2 As.p:=mL [] Ah.a trivial
def Ah.s (k:Nat):CK 41 (Ah.e k):=mS Ah.d k [2] Tryz.func41 (Ah.a k) ⟨As.s,trivial⟩
def H0.e (k:Nat):Ent:=⟨1,[(.val false t22)],[(.one,.b)],λ x=>H0 k x⟩
def Gr.p:LF:=⟨⟨[],[(0,t22),(5,t22),(6,(.i .i64)),(7,(.i .i64))]⟩,[(.ret,⟨[],[(2,.b)]⟩),((.exit 0),⟨[],[(0,t22)]⟩)],λ k x=>Gr k x.1 x.2.1 x.2.2.1 x.2.2.2⟩
def H0.d:Fd := { nt:=47,nv:=1,nm:=[0,1,3,4],res:=[2],cs:=λ k=>[(83,F3.e k)],ls:=[(2,Gr.p)],rf:=true }
def H0.a (k:Nat):AC (H0.d.cs k):=⟨F3.s k,trivial⟩
def Gr.s:LL Tryz.f101 H0.d 2 Gr.p:=mL [] H0.a trivial
def H0.s (k:Nat):CK 101 (H0.e k):=mS H0.d k [2] Tryz.func101 (H0.a k) ⟨Gr.s,trivial⟩
def Em.e (k:Nat):Ent:=⟨2,[(.val false t6),(.val false (.i .i64))],[(.one,.b)],λ x=>Em k x.1 x.2⟩
def Ho.p:LF:=⟨⟨[],[(1,(.i .i64)),(7,t6),(8,(.i .i64)),(9,(.i .i64))]⟩,[(.ret,⟨[],[(4,.b)]⟩),((.exit 0),⟨[],[]⟩)],λ k x=>Ho k x.1 x.2.1 x.2.2.1 x.2.2.2⟩
def Em.d:Fd := { nt:=17,nv:=2,nm:=[0,1,2,3,5,6],res:=[4],ls:=[(2,Ho.p)],rf:=true }
def Ho.s:LL Tryz.f152 Em.d 2 Ho.p:=mL [] (λ _=>trivial) trivial
def Em.s (k:Nat):CK 152 (Em.e k):=mS Em.d k [2] Tryz.func152 trivial ⟨Ho.s,trivial⟩
def Iy.e (k:Nat):Ent:=⟨1,[(.val false t6)],[(.one,.b)],λ x=>Iy k x⟩
def Ip.p:LF:=⟨⟨[],[(0,t6),(5,t6),(6,(.i .i64)),(7,(.i .i64))]⟩,[(.ret,⟨[],[(2,.b)]⟩),((.exit 0),⟨[],[]⟩)],λ k x=>Ip k x.1 x.2.1 x.2.2.1 x.2.2.2⟩
def Iy.d:Fd := { nt:=18,nv:=1,nm:=[0,1,3,4],res:=[2],cs:=λ k=>[(152,Em.e k)],ls:=[(2,Ip.p)],rf:=true }
def Iy.a (k:Nat):AC (Iy.d.cs k):=⟨Em.s k,trivial⟩
def Ip.s:LL Tryz.f102 Iy.d 2 Ip.p:=mL [] Iy.a trivial
def Iy.s (k:Nat):CK 102 (Iy.e k):=mS Iy.d k [2] Tryz.func102 (Iy.a k) ⟨Ip.s,trivial⟩
def J7.e (k:Nat):Ent:=⟨2,[(.val false t22),(.val false (.i .i64))],[(.agg,t16),(.one,.b)],λ x=>J7 k x.1 x.2⟩
def Iq.p:LF:=⟨⟨[(4,(.bp 4 0 0)),(5999,(.hd 3))],[(1,(.i .i64)),(8,t22),(9,(.i .i64)),(10,(.i .i64)),(5000,t16)]⟩,[(.ret,⟨[(4,(.bp 4 0 0)),(5999,(.hd 3))],[(5,.b),(5000,t16)]⟩),((.exit 0),⟨[(4,(.bp 4 0 0)),(5999,(.hd 3))],[(5000,t16)]⟩)],λ k x=>Iq k x.1 x.2.1 x.2.2.1 x.2.2.2.1 x.2.2.2.2⟩
def J7.d:Fd := { nt:=21,nv:=2,nm:=[0,1,2,3,6,7],res:=[5],ls:=[(2,Iq.p)],rf:=true }
def Iq.s:LL Tryz.f103 J7.d 2 Iq.p:=mL [] (λ _=>trivial) trivial
def J7.s (k:Nat):CK 103 (J7.e k):=mS J7.d k [2] Tryz.func103 trivial ⟨Iq.s,trivial⟩
def Fj.e (k:Nat):Ent:=⟨2,[(.val true t17),(.val false t22)],[(.one,.b)],λ x=>Fj k x.1 x.2⟩
def Hp.p:LF:=⟨⟨[(2,(.bp 2 0 0)),(3999,(.hd 2))],[(1,t22),(28,t10),(29,(.i .i64)),(30,(.i .i64)),(47,t6),(48,(.i .i64)),(49,(.i .i64)),(3000,t17)]⟩,[(.ret,⟨[],[(4,.b)]⟩),((.exit 2),⟨[(2,(.bp 2 0 0)),(3999,(.hd 2))],[(1,t22),(28,t10),(29,(.i .i64)),(30,(.i .i64)),(3000,t17)]⟩)],λ k x=>Hp k x.1 x.2.1 x.2.2.1 x.2.2.2.1 x.2.2.2.2.1 x.2.2.2.2.2.1 x.2.2.2.2.2.2.1 x.2.2.2.2.2.2.2⟩
def Hq.p:LF:=⟨⟨[(2,(.bp 2 0 0)),(3999,(.hd 2))],[(1,t22),(28,t10),(29,(.i .i64)),(30,(.i .i64)),(3000,t17)]⟩,[(.ret,⟨[],[(4,.b)]⟩),((.exit 0),⟨[],[]⟩)],λ k x=>Hq k x.1 x.2.1 x.2.2.1 x.2.2.2.1 x.2.2.2.2⟩
def Fj.d:Fd := { nt:=63,nv:=2,nm:=[0,1,2,3,5,6,7,8,9,10],res:=[4],cs:=λ k=>[(83,F3.e k),(101,H0.e k),(102,Iy.e k),(103,J7.e k)],ls:=[(9,Hp.p),(4,Hq.p)],rf:=true }
def Fj.a (k:Nat):AC (Fj.d.cs k):=⟨F3.s k,H0.s k,Iy.s k,J7.s k,trivial⟩
def Hp.s:LL Tryz.f45 Fj.d 9 Hp.p:=mL [] Fj.a trivial
def Hq.s:LL Tryz.f45 Fj.d 4 Hq.p:=mL [9] Fj.a ⟨Hp.s,trivial⟩
def Fj.s (k:Nat):CK 45 (Fj.e k):=mS Fj.d k [4] Tryz.func45 (Fj.a k) ⟨Hq.s,trivial⟩
def C7.e (k:Nat):Ent:=⟨1,[(.val true t16)],[(.one,.b)],λ x=>C7 x⟩
def C7.d:Fd := { nt:=16,nv:=1,nm:=[0,1],res:=[2],cs:=λ k=>[(83,F3.e k)] }
def C7.s (k:Nat):CK 46 (C7.e k):=mS C7.d k [] Tryz.func46 ⟨F3.s k,trivial⟩ trivial
def Ea.e (k:Nat):Ent:=⟨2,[(.val true t16),(.val true t16)],[(.one,.b)],λ x=>Ea x.1 x.2⟩
def Ea.d:Fd := { nt:=32,nv:=2,nm:=[0,1,2,3],res:=[4] }
def Ea.s (k:Nat):CK 100 (Ea.e k):=mS Ea.d k [] Tryz.func100 trivial trivial
def Dy.e (k:Nat):Ent:=⟨1,[(.val true t25)],[(.one,.b)],λ x=>Dy x⟩
def Dy.d:Fd := { nt:=23,nv:=1,nm:=[0,1],res:=[2],cs:=λ k=>[(46,C7.e k)] }
def Dy.s (k:Nat):CK 104 (Dy.e k):=mS Dy.d k [] Tryz.func104 ⟨C7.s k,trivial⟩ trivial
def Dk.e (k:Nat):Ent:=⟨1,[(.val true t48)],[(.one,.b)],λ x=>Dk k x⟩
def F4.p:LF:=⟨⟨[(1,(.bp 1 0 0)),(2999,(.hd 9))],[(6,t35),(7,(.i .i64)),(8,(.i .i64)),(2000,t48)]⟩,[(.ret,⟨[],[(2,.b)]⟩),((.exit 0),⟨[(1,(.bp 1 0 0)),(2999,(.hd 9))],[(2000,t48)]⟩)],λ k x=>F4 k x.1 x.2.1 x.2.2.1 x.2.2.2⟩
def Dk.d:Fd := { nt:=35,nv:=1,nm:=[0,1,3,4],res:=[2],cs:=λ k=>[(41,Ah.e k),(100,Ea.e k),(104,Dy.e k)],ls:=[(2,F4.p)],rf:=true }
def Dk.a (k:Nat):AC (Dk.d.cs k):=⟨Ah.s k,Ea.s k,Dy.s k,trivial⟩
def F4.s:LL Tryz.f47 Dk.d 2 F4.p:=mL [] Dk.a trivial
def Dk.s (k:Nat):CK 47 (Dk.e k):=mS Dk.d k [2] Tryz.func47 (Dk.a k) ⟨F4.s,trivial⟩
def Ju.e (k:Nat):Ent:=⟨1,[(.val true t27)],[(.one,.b)],λ x=>Ju k x⟩
def Ju.d:Fd := { nt:=26,nv:=1,nm:=[0,1],res:=[2],cs:=λ k=>[(41,Ah.e k),(46,C7.e k),(83,F3.e k)] }
def Ju.s (k:Nat):CK 105 (Ju.e k):=mS Ju.d k [] Tryz.func105 ⟨Ah.s k,C7.s k,F3.s k,trivial⟩ trivial
def Ef.e (k:Nat):Ent:=⟨1,[(.val false t13)],[(.one,.b)],λ x=>Ef k x⟩
def F5.p:LF:=⟨⟨[],[(0,t13),(5,t13),(6,(.i .i64)),(7,(.i .i64))]⟩,[(.ret,⟨[],[(2,.b)]⟩),((.exit 0),⟨[],[(0,t13)]⟩)],λ k x=>F5 k x.1 x.2.1 x.2.2.1 x.2.2.2⟩
def Ef.d:Fd := { nt:=41,nv:=1,nm:=[0,1,3,4],res:=[2],cs:=λ k=>[(41,Ah.e k)],ls:=[(2,F5.p)] }
def Ef.a (k:Nat):AC (Ef.d.cs k):=⟨Ah.s k,trivial⟩
def F5.s:LL Tryz.f153 Ef.d 2 F5.p:=mL [] Ef.a trivial
def Ef.s (k:Nat):CK 153 (Ef.e k):=mS Ef.d k [2] Tryz.func153 (Ef.a k) ⟨F5.s,trivial⟩
def Dz.e (k:Nat):Ent:=⟨1,[(.val true t28)],[(.one,.b)],λ x=>Dz k x⟩
def Dz.d:Fd := { nt:=11,nv:=1,nm:=[0,1],res:=[2],cs:=λ k=>[(153,Ef.e k)] }
def Dz.s (k:Nat):CK 106 (Dz.e k):=mS Dz.d k [] Tryz.func106 ⟨Ef.s k,trivial⟩ trivial
def H1.e (k:Nat):Ent:=⟨1,[(.val false t31)],[(.one,.b)],λ x=>H1 k x⟩
def Gt.p:LF:=⟨⟨[],[(0,t31),(5,t31),(6,(.i .i64)),(7,(.i .i64))]⟩,[(.ret,⟨[],[(2,.b)]⟩),((.exit 0),⟨[],[(0,t31)]⟩)],λ k x=>Gt k x.1 x.2.1 x.2.2.1 x.2.2.2⟩
def H1.d:Fd := { nt:=34,nv:=1,nm:=[0,1,3,4],res:=[2],cs:=λ k=>[(105,Ju.e k)],ls:=[(2,Gt.p)] }
def H1.a (k:Nat):AC (H1.d.cs k):=⟨Ju.s k,trivial⟩
def Gt.s:LL Tryz.f107 H1.d 2 Gt.p:=mL [] H1.a trivial
def H1.s (k:Nat):CK 107 (H1.e k):=mS H1.d k [2] Tryz.func107 (H1.a k) ⟨Gt.s,trivial⟩
def Eo.e (k:Nat):Ent:=⟨1,[(.val true t40)],[(.one,.b)],λ x=>Eo k x⟩
def Hr.p:LF:=⟨⟨[(1,(.bp 1 0 0)),(2999,(.hd 5))],[(6,t31),(7,(.i .i64)),(8,(.i .i64)),(2000,(.i .i64)),(2001,t13),(2002,t13),(2003,t31),(2004,t31)]⟩,[(.ret,⟨[],[(2,.b)]⟩),((.exit 0),⟨[(1,(.bp 1 0 0)),(2999,(.hd 5))],[(2000,(.i .i64)),(2001,t13),(2002,t13),(2003,t31),(2004,t31)]⟩)],λ k x=>Hr k x.1 x.2.1 x.2.2.1 x.2.2.2.1 x.2.2.2.2.1 x.2.2.2.2.2.1 x.2.2.2.2.2.2.1 x.2.2.2.2.2.2.2⟩
def Eo.d:Fd := { nt:=35,nv:=1,nm:=[0,1,3,4],res:=[2],cs:=λ k=>[(83,F3.e k),(105,Ju.e k),(106,Dz.e k),(107,H1.e k)],ls:=[(2,Hr.p)] }
def Eo.a (k:Nat):AC (Eo.d.cs k):=⟨F3.s k,Ju.s k,Dz.s k,H1.s k,trivial⟩
def Hr.s:LL Tryz.f48 Eo.d 2 Hr.p:=mL [] Eo.a trivial
def Eo.s (k:Nat):CK 48 (Eo.e k):=mS Eo.d k [2] Tryz.func48 (Eo.a k) ⟨Hr.s,trivial⟩
def Bj.e (k:Nat):Ent:=⟨1,[(.val true t48)],[(.one,.b)],λ x=>Bj k x⟩
def Cv.p:LF:=⟨⟨[(1,(.bp 1 0 0)),(2999,(.hd 9))],[(57,t0),(58,(.i .i64)),(59,(.i .i64)),(2000,t48)]⟩,[(.ret,⟨[],[(2,.b)]⟩),((.exit 2),⟨[],[]⟩)],λ k x=>Cv k x.1 x.2.1 x.2.2.1 x.2.2.2⟩
def F6.p:LF:=⟨⟨[(1,(.bp 1 0 0)),(2999,(.hd 9))],[(34,t45),(35,(.i .i64)),(36,(.i .i64)),(2000,t48)]⟩,[(.ret,⟨[],[(2,.b)]⟩),((.exit 0),⟨[(1,(.bp 1 0 0)),(2999,(.hd 9))],[(2000,t48)]⟩)],λ k x=>F6 k x.1 x.2.1 x.2.2.1 x.2.2.2⟩
def Bj.d:Fd := { nt:=82,nv:=1,nm:=[0,1,3,4,5,6],res:=[2],cs:=λ k=>[(41,Ah.e k),(45,Fj.e k),(46,C7.e k),(47,Dk.e k),(48,Eo.e k)],ls:=[(10,Cv.p),(4,F6.p)],rf:=true }
def Bj.a (k:Nat):AC (Bj.d.cs k):=⟨Ah.s k,Fj.s k,C7.s k,Dk.s k,Eo.s k,trivial⟩
def Cv.s:LL Tryz.f12 Bj.d 10 Cv.p:=mL [] Bj.a trivial
def F6.s:LL Tryz.f12 Bj.d 4 F6.p:=mL [] Bj.a trivial
def Bj.s (k:Nat):CK 12 (Bj.e k):=mS Bj.d k [4,10] Tryz.func12 (Bj.a k) ⟨F6.s,Cv.s,trivial⟩
def Fn.e (k:Nat):Ent:=⟨1,[(.val false t6)],[(.one,t7)],λ x=>Fn x⟩
def Fn.d:Fd := { nt:=5,nv:=1,nm:=[0,1],res:=[2],rf:=true }
def Fn.s (k:Nat):CK 56 (Fn.e k):=mS Fn.d k [] Tryz.func56 trivial trivial
def Dl.e (k:Nat):Ent:=⟨1,[(.val true t17)],[(.agg,t19)],λ x=>Dl k x⟩
def F7.p:LF:=⟨⟨[(2,(.bp 2 0 0)),(3,(.bp 3 0 0)),(3999,(.hd 2)),(4999,(.hd 2))],[(10,t10),(11,(.i .i64)),(12,(.i .i64)),(3000,t19),(4000,t19)]⟩,[((.exit 0),⟨[(2,(.bp 2 0 0)),(3,(.bp 3 0 0)),(3999,(.hd 2)),(4999,(.hd 2))],[(3000,t19),(4000,t19)]⟩)],λ k x=>F7 k x.1 x.2.1 x.2.2.1 x.2.2.2.1 x.2.2.2.2⟩
def Dl.d:Fd := { nt:=27,nv:=1,nm:=[0,1,3,4,5],res:=[],cs:=λ k=>[(56,Fn.e k)],ls:=[(3,F7.p)],mv:=[26],rf:=true }
def Dl.a (k:Nat):AC (Dl.d.cs k):=⟨Fn.s k,trivial⟩
def F7.s:LL Tryz.f80 Dl.d 3 F7.p:=mL [] Dl.a trivial
def Dl.s (k:Nat):CK 80 (Dl.e k):=mS Dl.d k [3] Tryz.func80 (Dl.a k) ⟨F7.s,trivial⟩
def I0.e (k:Nat):Ent:=⟨1,[(.val false t31)],[(.one,t32)],λ x=>I0 x⟩
def I0.d:Fd := { nt:=5,nv:=1,nm:=[0,1],res:=[2] }
def I0.s (k:Nat):CK 120 (I0.e k):=mS I0.d k [] Tryz.func120 trivial trivial
def Az.e (k:Nat):Ent:=⟨1,[(.val false t4)],[(.one,t5)],λ x=>Az x⟩
def Az.d:Fd := { nt:=5,nv:=1,nm:=[0,1],res:=[2] }
def Az.s (k:Nat):CK 55 (Az.e k):=mS Az.d k [] Tryz.func55 trivial trivial
def C8.e (k:Nat):Ent:=⟨1,[(.val false t13)],[(.one,t14)],λ x=>C8 k x⟩
def E3.p:LF:=⟨⟨[],[(3,t14),(6,t13),(7,(.i .i64)),(8,(.i .i64))]⟩,[((.exit 0),⟨[],[(3,t14)]⟩)],λ k x=>E3 k x.1 x.2.1 x.2.2.1 x.2.2.2⟩
def C8.d:Fd := { nt:=23,nv:=1,nm:=[0,1,3,4,5],res:=[2],cs:=λ k=>[(55,Az.e k)],ls:=[(3,E3.p)] }
def C8.a (k:Nat):AC (C8.d.cs k):=⟨Az.s k,trivial⟩
def E3.s:LL Tryz.f189 C8.d 3 E3.p:=mL [] C8.a trivial
def C8.s (k:Nat):CK 189 (C8.e k):=mS C8.d k [3] Tryz.func189 (C8.a k) ⟨E3.s,trivial⟩
def Af.e (k:Nat):Ent:=⟨1,[(.val true t28)],[(.agg,t29)],λ x=>Af k x⟩
def Af.d:Fd := { nt:=10,nv:=1,nm:=[0,1],res:=[],cs:=λ k=>[(189,C8.e k)] }
def Af.s (k:Nat):CK 142 (Af.e k):=mS Af.d k [] Tryz.func142 ⟨C8.s k,trivial⟩ trivial
def Fo.e (k:Nat):Ent:=⟨1,[(.val true t40)],[(.agg,t41)],λ x=>Fo k x⟩
def Fo.d:Fd := { nt:=15,nv:=1,nm:=[0,1],res:=[],cs:=λ k=>[(120,I0.e k),(142,Af.e k)] }
def Fo.s (k:Nat):CK 81 (Fo.e k):=mS Fo.d k [] Tryz.func81 ⟨I0.s k,Af.s k,trivial⟩ trivial
def Fp.e (k:Nat):Ent:=⟨1,[(.val true t25)],[(.agg,t26)],λ x=>Fp x⟩
def Fp.d:Fd := { nt:=8,nv:=1,nm:=[0,1],res:=[],cs:=λ k=>[(55,Az.e k)],mv:=[7],rf:=true }
def Fp.s (k:Nat):CK 82 (Fp.e k):=mS Fp.d k [] Tryz.func82 ⟨Az.s k,trivial⟩ trivial
def Bv.e (k:Nat):Ent:=⟨1,[(.val true t48)],[(.agg,t50)],λ x=>Bv k x⟩
def E4.p:LF:=⟨⟨[(2,(.bp 2 0 0)),(3,(.bp 3 0 0)),(3999,(.hd 9)),(4999,(.hd 9))],[(36,t35),(37,(.i .i64)),(38,(.i .i64)),(3000,t50),(4000,t50)]⟩,[((.exit 2),⟨[(2,(.bp 2 0 0)),(3,(.bp 3 0 0)),(3999,(.hd 9)),(4999,(.hd 9))],[(3000,t50),(4000,t50)]⟩)],λ k x=>E4 k x.1 x.2.1 x.2.2.1 x.2.2.2.1 x.2.2.2.2⟩
def E5.p:LF:=⟨⟨[(1,(.bp 1 0 0)),(2,(.bp 2 0 0)),(3,(.bp 3 0 0)),(2999,(.hd 9)),(3999,(.hd 9)),(4999,(.hd 9))],[(21,t45),(22,(.i .i64)),(23,(.i .i64)),(2000,t48),(3000,t50),(4000,t50)]⟩,[((.exit 0),⟨[(1,(.bp 1 0 0)),(2,(.bp 2 0 0)),(3,(.bp 3 0 0)),(2999,(.hd 9)),(3999,(.hd 9)),(4999,(.hd 9))],[(2000,t48),(3000,t50),(4000,t50)]⟩)],λ k x=>E5 k x.1 x.2.1 x.2.2.1 x.2.2.2.1 x.2.2.2.2.1 x.2.2.2.2.2⟩
def Bv.d:Fd := { nt:=54,nv:=1,nm:=[0,1,3,4,5,6,7],res:=[],cs:=λ k=>[(80,Dl.e k),(81,Fo.e k),(82,Fp.e k)],ls:=[(8,E4.p),(3,E5.p)],mv:=[53],rf:=true }
def Bv.a (k:Nat):AC (Bv.d.cs k):=⟨Dl.s k,Fo.s k,Fp.s k,trivial⟩
def E4.s:LL Tryz.f36 Bv.d 8 E4.p:=mL [] Bv.a trivial
def E5.s:LL Tryz.f36 Bv.d 3 E5.p:=mL [] Bv.a trivial
def Bv.s (k:Nat):CK 36 (Bv.e k):=mS Bv.d k [3,8] Tryz.func36 (Bv.a k) ⟨E5.s,E4.s,trivial⟩
def H8.e (k:Nat):Ent:=⟨2,[(.val false t6),(.val false (.i .i64))],[(.one,(.i .i64))],λ x=>H8 x.1 x.2⟩
def H8.d:Fd := { nt:=20,nv:=2,nm:=[0,1,2,3],res:=[4],cs:=λ k=>[(83,F3.e k)],rf:=true }
def H8.s (k:Nat):CK 61 (H8.e k):=mS H8.d k [] Tryz.func61 ⟨F3.s k,trivial⟩ trivial
def M0.e (k:Nat):Ent:=⟨1,[(.val false .s)],[(.one,(.i .i64))],λ x=>M0 k x⟩
def Jm.p:LF:=⟨⟨[],[(0,.s),(3,(.i .u32)),(4,(.i .i64))]⟩,[((.exit 0),⟨[],[(3,(.i .u32))]⟩)],λ k x=>Jm k x.1 x.2.1 x.2.2⟩
def M0.d:Fd := { nt:=20,nv:=1,nm:=[0,1,3,4],res:=[2],ls:=[(3,Jm.p)],rf:=true }
def Jm.s:LL Tryz.f114 M0.d 3 Jm.p:=mL [] (λ _=>trivial) trivial
def M0.s (k:Nat):CK 114 (M0.e k):=mS M0.d k [3] Tryz.func114 trivial ⟨Jm.s,trivial⟩
def L9.e (k:Nat):Ent:=⟨2,[(.val false .s),(.val false (.i .i64))],[(.one,(.i .i64))],λ x=>L9 k x.1 x.2⟩
def L9.d:Fd := { nt:=11,nv:=2,nm:=[0,1,2,3],res:=[4],cs:=λ k=>[(114,M0.e k)],rf:=true }
def L9.s (k:Nat):CK 57 (L9.e k):=mS L9.d k [] Tryz.func57 ⟨M0.s k,trivial⟩ trivial
def Cr.e (k:Nat):Ent:=⟨2,[(.val true t17),(.val false .s)],[(.one,t7)],λ x=>Cr k x.1 x.2⟩
def Cr.d:Fd := { nt:=20,nv:=2,nm:=[0,1,2,3],res:=[4],cs:=λ k=>[(56,Fn.e k),(57,L9.e k)],rf:=true }
def Cr.s (k:Nat):CK 18 (Cr.e k):=mS Cr.d k [] Tryz.func18 ⟨Fn.s k,L9.s k,trivial⟩ trivial
def Ge.e (k:Nat):Ent:=⟨2,[(.val true t48),(.val false t6)],[(.one,t7)],λ x=>Ge k x.1 x.2⟩
def E6.p:LF:=⟨⟨[(2,(.bp 2 0 0)),(3999,(.hd 9))],[(5,t7),(7,(.i .i64)),(10,t6),(11,(.i .i64)),(12,(.i .i64)),(17,t45),(18,(.i .i64)),(19,(.i .i64)),(3000,t48)]⟩,[((.exit 2),⟨[(2,(.bp 2 0 0)),(3999,(.hd 9))],[(5,t7),(10,t6),(11,(.i .i64)),(12,(.i .i64)),(3000,t48)]⟩)],λ k x=>E6 k x.1 x.2.1 x.2.2.1 x.2.2.2.1 x.2.2.2.2.1 x.2.2.2.2.2.1 x.2.2.2.2.2.2.1 x.2.2.2.2.2.2.2.1 x.2.2.2.2.2.2.2.2⟩
def Gd.p:LF:=⟨⟨[(2,(.bp 2 0 0)),(3999,(.hd 9))],[(5,t7),(10,t6),(11,(.i .i64)),(12,(.i .i64)),(3000,t48)]⟩,[((.exit 0),⟨[],[(5,t7)]⟩)],λ k x=>Gd k x.1 x.2.1 x.2.2.1 x.2.2.2.1 x.2.2.2.2⟩
def Ge.d:Fd := { nt:=35,nv:=2,nm:=[0,1,2,3,5,6,7,8,9],res:=[4],ls:=[(6,E6.p),(3,Gd.p)],rf:=true }
def E6.s:LL Tryz.f119 Ge.d 6 E6.p:=mL [] (λ _=>trivial) trivial
def Gd.s:LL Tryz.f119 Ge.d 3 Gd.p:=mL [6] (λ _=>trivial) ⟨E6.s,trivial⟩
def Ge.s (k:Nat):CK 119 (Ge.e k):=mS Ge.d k [3] Tryz.func119 trivial ⟨Gd.s,trivial⟩
def Ff.e (k:Nat):Ent:=⟨2,[(.val false t6),(.val false t22)],[(.one,t7)],λ x=>Ff k x.1 x.2⟩
def E7.p:LF:=⟨⟨[],[(1,t22),(5,t7),(10,t6),(11,(.i .i64)),(12,(.i .i64))]⟩,[((.exit 0),⟨[],[(5,t7)]⟩)],λ k x=>E7 k x.1 x.2.1 x.2.2.1 x.2.2.2.1 x.2.2.2.2⟩
def Ff.d:Fd := { nt:=37,nv:=2,nm:=[0,1,2,3,5,6,7,8,9],res:=[4],cs:=λ k=>[(103,J7.e k),(152,Em.e k)],ls:=[(3,E7.p)],rf:=true }
def Ff.a (k:Nat):AC (Ff.d.cs k):=⟨J7.s k,Em.s k,trivial⟩
def E7.s:LL Tryz.f159 Ff.d 3 E7.p:=mL [] Ff.a trivial
def Ff.s (k:Nat):CK 159 (Ff.e k):=mS Ff.d k [3] Tryz.func159 (Ff.a k) ⟨E7.s,trivial⟩
def Cl.e (k:Nat):Ent:=⟨3,[(.val true t17),(.val false t22),(.val false .s)],[(.one,t7)],λ x=>Cl k x.1 x.2.1 x.2.2⟩
def Cw.p:LF:=⟨⟨[],[(7,t7),(8,t7),(9,t7),(10,t7),(19,t22),(20,(.i .i64)),(21,(.i .i64))]⟩,[((.exit 0),⟨[],[(9,t7),(10,t7)]⟩)],λ k x=>Cw k x.1 x.2.1 x.2.2.1 x.2.2.2.1 x.2.2.2.2.1 x.2.2.2.2.2.1 x.2.2.2.2.2.2⟩
def Cl.d:Fd := { nt:=49,nv:=3,nm:=[0,1,2,3,4,5,7,8,9,10,11,12],res:=[6],cs:=λ k=>[(18,Cr.e k),(152,Em.e k),(159,Ff.e k)],ls:=[(5,Cw.p)],rf:=true }
def Cl.a (k:Nat):AC (Cl.d.cs k):=⟨Cr.s k,Em.s k,Ff.s k,trivial⟩
def Cw.s:LL Tryz.f129 Cl.d 5 Cw.p:=mL [] Cl.a trivial
def Cl.s (k:Nat):CK 129 (Cl.e k):=mS Cl.d k [5] Tryz.func129 (Cl.a k) ⟨Cw.s,trivial⟩
def C0.e (k:Nat):Ent:=⟨2,[(.ptr t48 t48),(.val false .s)],[(.one,t7)],λ x=>C0 k x.1 x.2⟩
def C0.d:Fd := { nt:=26,nv:=2,nm:=[0,1,2,3],res:=[4],cs:=λ k=>[(18,Cr.e k),(119,Ge.e k),(129,Cl.e k)],rf:=true }
def C0.s (k:Nat):CK 66 (C0.e k):=mS C0.d k [] Tryz.func66 ⟨Cr.s k,Ge.s k,Cl.s k,trivial⟩ trivial
def D7.e (k:Nat):Ent:=⟨2,[(.ptr t51 t51),(.val false .s)],[(.one,t7)],λ x=>D7 k x.1 x.2⟩
def D7.d:Fd := { nt:=26,nv:=2,nm:=[0,1,2,3],res:=[4],cs:=λ k=>[(18,Cr.e k),(119,Ge.e k),(129,Cl.e k)],rf:=true }
def D7.s (k:Nat):CK 66 (D7.e k):=mS D7.d k [] Tryz.func66 ⟨Cr.s k,Ge.s k,Cl.s k,trivial⟩ trivial
def Hs.e (k:Nat):Ent:=⟨3,[(.val true t16),(.val false (.i .i64)),(.val false (.i .i64))],[(.agg,t16)],λ x=>Hs x.1 x.2.1 x.2.2⟩
def Hs.d:Fd := { nt:=27,nv:=3,nm:=[0,1,2,3,4,5,7],res:=[],cs:=λ k=>[(46,C7.e k)],rf:=true }
def Hs.s (k:Nat):CK 84 (Hs.e k):=mS Hs.d k [] Tryz.func84 ⟨C7.s k,trivial⟩ trivial
def M2.e (k:Nat):Ent:=⟨2,[(.val false .s),(.val true t25)],[(.agg,t27)],λ x=>M2 x.1 x.2⟩
def M2.d:Fd := { nt:=14,nv:=2,nm:=[0,1,2,3],res:=[],rf:=true }
def M2.s (k:Nat):CK 132 (M2.e k):=mS M2.d k [] Tryz.func132 trivial trivial
def Jv.e (k:Nat):Ent:=⟨2,[(.val true t25),(.val true t25)],[(.one,.b)],λ x=>Jv x.1 x.2⟩
def Jv.d:Fd := { nt:=10,nv:=2,nm:=[0,1,2,3],res:=[4],cs:=λ k=>[(100,Ea.e k)] }
def Jv.s (k:Nat):CK 44 (Jv.e k):=mS Jv.d k [] Tryz.func44 ⟨Ea.s k,trivial⟩ trivial
def M3.e (k:Nat):Ent:=⟨2,[(.val false t13),(.val false .s)],[(.one,(.i .i64))],λ x=>M3 k x.1 x.2⟩
def Li.p:LF:=⟨⟨[],[(1,.s),(7,t13),(8,(.i .i64)),(9,(.i .i64))]⟩,[(.ret,⟨[],[(4,(.i .i64))]⟩),((.exit 0),⟨[],[]⟩)],λ k x=>Li k x.1 x.2.1 x.2.2.1 x.2.2.2⟩
def M3.d:Fd := { nt:=20,nv:=2,nm:=[0,1,2,3,5,6],res:=[4],ls:=[(2,Li.p)] }
def Li.s:LL Tryz.f115 M3.d 2 Li.p:=mL [] (λ _=>trivial) trivial
def M3.s (k:Nat):CK 115 (M3.e k):=mS M3.d k [2] Tryz.func115 trivial ⟨Li.s,trivial⟩
def Fq.e (k:Nat):Ent:=⟨2,[(.val true t28),(.val false .s)],[(.one,t5),(.one,.b)],λ x=>Fq k x.1 x.2⟩
def Fq.d:Fd := { nt:=20,nv:=2,nm:=[0,1,2,3,6],res:=[4,5],cs:=λ k=>[(55,Az.e k),(115,M3.e k)] }
def Fq.s (k:Nat):CK 58 (Fq.e k):=mS Fq.d k [] Tryz.func58 ⟨Az.s k,M3.s k,trivial⟩ trivial
def I5.e (k:Nat):Ent:=⟨2,[(.val false t4),(.val false (.i .i64))],[(.one,(.i .i64)),(.one,(.i .i64)),(.one,.b)],λ x=>I5 k x.1 x.2⟩
def Gu.p:LF:=⟨⟨[],[(0,t4),(1,(.i .i64)),(7,(.i .i64)),(8,(.i .i64))]⟩,[(.ret,⟨[],[(4,(.i .i64)),(5,(.i .i64)),(6,.b)]⟩),((.exit 0),⟨[],[]⟩)],λ k x=>Gu k x.1 x.2.1 x.2.2.1 x.2.2.2⟩
def I5.d:Fd := { nt:=57,nv:=2,nm:=[0,1,2,3,7,8,9],res:=[4,5,6],ls:=[(3,Gu.p)] }
def Gu.s:LL Tryz.f205 I5.d 3 Gu.p:=mL [] (λ _=>trivial) trivial
def I5.s (k:Nat):CK 205 (I5.e k):=mS I5.d k [3] Tryz.func205 trivial ⟨Gu.s,trivial⟩
def D8.e (k:Nat):Ent:=⟨1,[(.ptr t20 t20)],[(.one,(.i .i64))],λ x=>D8 k x⟩
def D8.d:Fd := { nt:=35,nv:=1,nm:=[0,1,3,4,5],res:=[2],cs:=λ k=>[(205,I5.e k)] }
def D8.s (k:Nat):CK 164 (D8.e k):=mS D8.d k [] Tryz.func164 ⟨I5.s k,trivial⟩ trivial
def E8.e (k:Nat):Ent:=⟨1,[(.ptr t20 t20)],[(.agg,t16),(.one,.b)],λ x=>E8 k x⟩
def E8.d:Fd := { nt:=31,nv:=1,nm:=[0,1,4,5],res:=[3],cs:=λ k=>[(164,D8.e k)] }
def E8.s (k:Nat):CK 116 (E8.e k):=mS E8.d k [] Tryz.func116 ⟨D8.s k,trivial⟩ trivial
def Jn.e (k:Nat):Ent:=⟨2,[(.val false t4),(.val false (.i .i64))],[(.one,.s),(.one,(.i .i64)),(.one,.b)],λ x=>Jn k x.1 x.2⟩
def Jn.d:Fd := { nt:=37,nv:=2,nm:=[0,1,2,3,7,8,9],res:=[4,5,6],cs:=λ k=>[(205,I5.e k)] }
def Jn.s (k:Nat):CK 165 (Jn.e k):=mS Jn.d k [] Tryz.func165 ⟨I5.s k,trivial⟩ trivial
def Cy.e (k:Nat):Ent:=⟨1,[(.ptr t20 t20)],[(.one,.s)],λ x=>Cy k x⟩
def Cy.d:Fd := { nt:=35,nv:=1,nm:=[0,1,3,4,5],res:=[2],cs:=λ k=>[(165,Jn.e k)] }
def Cy.s (k:Nat):CK 117 (Cy.e k):=mS Cy.d k [] Tryz.func117 ⟨Jn.s k,trivial⟩ trivial
def Fk.e (k:Nat):Ent:=⟨2,[(.val false t5),(.val false (.i .i64))],[(.one,t5)],λ x=>Fk k x.1 x.2⟩
def Ht.p:LF:=⟨⟨[],[(0,t5),(1,(.i .i64))]⟩,[((.exit 0),⟨[],[(0,t5),(1,(.i .i64))]⟩)],λ k x=>Ht k x.1 x.2⟩
def Fk.d:Fd := { nt:=24,nv:=2,nm:=[0,1,2,3],res:=[4],ls:=[(2,Ht.p)] }
def Ht.s:LL Tryz.f206 Fk.d 2 Ht.p:=mL [] (λ _=>trivial) trivial
def Fk.s (k:Nat):CK 206 (Fk.e k):=mS Fk.d k [2] Tryz.func206 trivial ⟨Ht.s,trivial⟩
def Jo.e (k:Nat):Ent:=⟨2,[(.val false t5),(.val false .s)],[(.one,t5)],λ x=>Jo k x.1 x.2⟩
def Jo.d:Fd := { nt:=11,nv:=2,nm:=[0,1,2,3],res:=[4],cs:=λ k=>[(206,Fk.e k)] }
def Jo.s (k:Nat):CK 166 (Jo.e k):=mS Jo.d k [] Tryz.func166 ⟨Fk.s k,trivial⟩ trivial
def Nv.e (k:Nat):Ent:=⟨1,[(.val false .b)],[(.one,(.i .i64))],λ x=>Nv x⟩
def Nv.d:Fd := { nt:=4,nv:=1,nm:=[0,1],res:=[2] }
def Nv.s (k:Nat):CK 207 (Nv.e k):=mS Nv.d k [] Tryz.func207 trivial trivial
def Ir.e (k:Nat):Ent:=⟨3,[(.val false t5),(.val true t16),(.val false .b)],[(.one,t5)],λ x=>Ir k x.1 x.2.1 x.2.2⟩
def Ir.d:Fd := { nt:=20,nv:=3,nm:=[0,1,2,3,4,5],res:=[6],cs:=λ k=>[(206,Fk.e k),(207,Nv.e k)] }
def Ir.s (k:Nat):CK 167 (Ir.e k):=mS Ir.d k [] Tryz.func167 ⟨Fk.s k,Nv.s k,trivial⟩ trivial
def Mh.e (k:Nat):Ent:=⟨1,[(.val false t4)],[(.one,(.i .i64))],λ x=>Mh k x⟩
def Jw.p:LF:=⟨⟨[],[(3,(.i .u32)),(7,t4),(8,(.i .i64)),(9,(.i .i64)),(17,(.i .i64))]⟩,[((.exit 2),⟨[],[(3,(.i .u32)),(7,t4),(8,(.i .i64)),(9,(.i .i64))]⟩)],λ k x=>Jw k x.1 x.2.1 x.2.2.1 x.2.2.2.1 x.2.2.2.2⟩
def Kl.p:LF:=⟨⟨[],[(3,(.i .u32)),(7,t4),(8,(.i .i64)),(9,(.i .i64))]⟩,[((.exit 0),⟨[],[(3,(.i .u32))]⟩)],λ k x=>Kl k x.1 x.2.1 x.2.2.1 x.2.2.2⟩
def Mh.d:Fd := { nt:=32,nv:=1,nm:=[0,1,3,4,5,6],res:=[2],ls:=[(7,Jw.p),(3,Kl.p)] }
def Jw.s:LL Tryz.f168 Mh.d 7 Jw.p:=mL [] (λ _=>trivial) trivial
def Kl.s:LL Tryz.f168 Mh.d 3 Kl.p:=mL [7] (λ _=>trivial) ⟨Jw.s,trivial⟩
def Mh.s (k:Nat):CK 168 (Mh.e k):=mS Mh.d k [3] Tryz.func168 trivial ⟨Kl.s,trivial⟩
def Fg.e (k:Nat):Ent:=⟨1,[(.val true t25)],[(.one,t5)],λ x=>Fg k x⟩
def Fg.d:Fd := { nt:=33,nv:=1,nm:=[0,1,3,4],res:=[2],cs:=λ k=>[(104,Dy.e k),(166,Jo.e k),(167,Ir.e k),(168,Mh.e k)] }
def Fg.s (k:Nat):CK 118 (Fg.e k):=mS Fg.d k [] Tryz.func118 ⟨Dy.s k,Jo.s k,Ir.s k,Mh.s k,trivial⟩ trivial
def H9.e (k:Nat):Ent:=⟨1,[(.val false t4)],[(.agg,t25),(.one,.b)],λ x=>H9 k x⟩
def H9.d:Fd := { nt:=41,nv:=1,nm:=[0,1,4,5,6],res:=[3],cs:=λ k=>[(116,E8.e k),(117,Cy.e k),(118,Fg.e k)] }
def H9.s (k:Nat):CK 59 (H9.e k):=mS H9.d k [] Tryz.func59 ⟨E8.s k,Cy.s k,Fg.s k,trivial⟩ trivial
def Kx.e (k:Nat):Ent:=⟨2,[(.val false t13),(.val false .s)],[(.one,t13)],λ x=>Kx k x.1 x.2⟩
def Kx.d:Fd := { nt:=21,nv:=2,nm:=[0,1,2,3,5],res:=[4],cs:=λ k=>[(115,M3.e k)] }
def Kx.s (k:Nat):CK 209 (Kx.e k):=mS Kx.d k [] Tryz.func209 ⟨M3.s k,trivial⟩ trivial
def Lu.e (k:Nat):Ent:=⟨2,[(.val false t13),(.val true t11)],[(.one,t14)],λ x=>Lu k x.1 x.2⟩
def Km.p:LF:=⟨⟨[(3,(.bp 3 0 0)),(4999,(.hd 2))],[(0,t13),(5,(.i .i64)),(4000,.s),(4001,t4)]⟩,[((.exit 0),⟨[(3,(.bp 3 0 0)),(4999,(.hd 2))],[(0,t13),(5,(.i .i64)),(4000,.s),(4001,t4)]⟩)],λ k x=>Km k x.1 x.2.1 x.2.2.1 x.2.2.2⟩
def Lu.d:Fd := { nt:=33,nv:=2,nm:=[0,1,2,3,5],res:=[4],ls:=[(2,Km.p)] }
def Km.s:LL Tryz.f210 Lu.d 2 Km.p:=mL [] (λ _=>trivial) trivial
def Lu.s (k:Nat):CK 210 (Lu.e k):=mS Lu.d k [2] Tryz.func210 trivial ⟨Km.s,trivial⟩
def Dm.e (k:Nat):Ent:=⟨2,[(.val true t28),(.val false .s)],[(.agg,(.pr t14 t13)),(.one,.b)],λ x=>Dm k x.1 x.2⟩
def Dm.d:Fd := { nt:=50,nv:=2,nm:=[0,1,2,3,6,7],res:=[5],cs:=λ k=>[(41,Ah.e k),(55,Az.e k),(106,Dz.e k),(115,M3.e k),(142,Af.e k),(209,Kx.e k),(210,Lu.e k)],mv:=[18,49] }
def Dm.s (k:Nat):CK 174 (Dm.e k):=mS Dm.d k [] Tryz.func174 ⟨Ah.s k,Az.s k,Dz.s k,M3.s k,Af.s k,Kx.s k,Lu.s k,trivial⟩ trivial
def Eb.e (k:Nat):Ent:=⟨3,[(.val true t28),(.val false .s),(.val false t4)],[(.agg,t29),(.one,.b)],λ x=>Eb k x.1 x.2.1 x.2.2⟩
def Eb.d:Fd := { nt:=42,nv:=3,nm:=[0,1,2,3,4,5,8],res:=[7],cs:=λ k=>[(41,Ah.e k),(55,Az.e k),(106,Dz.e k),(142,Af.e k),(209,Kx.e k),(210,Lu.e k)],mv:=[24,41] }
def Eb.s (k:Nat):CK 190 (Eb.e k):=mS Eb.d k [] Tryz.func190 ⟨Ah.s k,Az.s k,Dz.s k,Af.s k,Kx.s k,Lu.s k,trivial⟩ trivial
def M7.e (k:Nat):Ent:=⟨4,[(.val true t28),(.val false .s),(.val true t25),(.val false .b)],[(.agg,t28),(.one,(.i .i64))],λ x=>M7 k x.1 x.2.1 x.2.2.1 x.2.2.2⟩
def M7.d:Fd := { nt:=82,nv:=4,nm:=[0,1,2,3,4,5,6,7,10,11,12,13,14,15,16,17,18,19],res:=[9],cs:=λ k=>[(41,Ah.e k),(44,Jv.e k),(58,Fq.e k),(59,H9.e k),(104,Dy.e k),(106,Dz.e k),(118,Fg.e k),(142,Af.e k),(174,Dm.e k),(190,Eb.e k)],mv:=[80] }
def M7.s (k:Nat):CK 143 (M7.e k):=mS M7.d k [] Tryz.func143 ⟨Ah.s k,Jv.s k,Fq.s k,H9.s k,Dy.s k,Dz.s k,Fg.s k,Af.s k,Dm.s k,Eb.s k,trivial⟩ trivial
def Jp.e (k:Nat):Ent:=⟨4,[(.val true t40),(.val false .s),(.val true t25),(.val false .b)],[(.agg,t42),(.one,(.i .i64))],λ x=>Jp k x.1 x.2.1 x.2.2.1 x.2.2.2⟩
def Jp.d:Fd := { nt:=62,nv:=4,nm:=[0,1,2,3,4,5,6,7,10,11,12],res:=[9],cs:=λ k=>[(41,Ah.e k),(48,Eo.e k),(81,Fo.e k),(104,Dy.e k),(132,M2.e k),(143,M7.e k)],mv:=[29,35,60],rf:=true }
def Jp.s (k:Nat):CK 86 (Jp.e k):=mS Jp.d k [] Tryz.func86 ⟨Ah.s k,Eo.s k,Fo.s k,Dy.s k,M2.s k,M7.s k,trivial⟩ trivial
def D9.e (k:Nat):Ent:=⟨5,[(.ptr t40 t40),(.val false (.i .i64)),(.ptr .s .s),(.ptr t25 t25),(.ptr (.i .i64) (.i .i64))],[],λ x=>D9 k x.1 x.2.1 x.2.2.1 x.2.2.2.1 x.2.2.2.2⟩
def D9.d:Fd := { nt:=35,nv:=5,nm:=[0,1,5,6,7,8],res:=[],cs:=λ k=>[(86,Jp.e k)],rf:=true }
def D9.s (k:Nat):CK 85 (D9.e k):=mS D9.d k [] Tryz.func85 ⟨Jp.s k,trivial⟩ trivial
def Ko.e (k:Nat):Ent:=⟨1,[(.val false (.i .i64))],[(.one,(.i .i64))],λ x=>Ko x⟩
def Ko.d:Fd := { nt:=6,nv:=1,nm:=[0,1],res:=[2],rf:=true }
def Ko.s (k:Nat):CK 87 (Ko.e k):=mS Ko.d k [] Tryz.func87 trivial trivial
def Ad.e (k:Nat):Ent:=⟨4,[(.ptr t51 t51),(.val false .s),(.val false t6),(.fn 85 3),(.hid .s .s),(.hid t25 t25),(.hid (.i .i64) (.i .i64))],[],λ x=>Ad k x.1 x.2.1 x.2.2.1 x.2.2.2.1 x.2.2.2.2.1 x.2.2.2.2.2.1 x.2.2.2.2.2.2⟩
def Ai.p:LF:=⟨⟨[(0,(.bp 0 0 0)),(3,(.fn 85 [(1500,0),(1501,0),(1502,0)])),(1999,(.hd 9)),(1501999,(.hd 1)),(1502999,(.hd 5)),(1503999,(.hd 1))],[(2,t6),(8,(.i .i64)),(14,t7),(15,(.i .i64)),(16,(.i .i64)),(1000,t51),(1501000,.s),(1502000,t25),(1503000,(.i .i64))]⟩,[((.exit 0),⟨[(1999,(.hd 9)),(1501999,(.hd 1)),(1502999,(.hd 5)),(1503999,(.hd 1))],[(1000,t51),(1501000,.s),(1502000,t25),(1503000,(.i .i64))]⟩)],λ k x=>Ai k x.1 x.2.1 x.2.2.1 x.2.2.2.1 x.2.2.2.2.1 x.2.2.2.2.2.1 x.2.2.2.2.2.2.1 x.2.2.2.2.2.2.2.1 x.2.2.2.2.2.2.2.2⟩
def Ad.d:Fd := { nt:=47,nv:=4,nm:=[0,1,2,3,4,5,6,7,8,9,10,11],res:=[],cs:=λ k=>[(61,H8.e k),(66,D7.e k),(85,D9.e k)],ls:=[(2,Ai.p)],gh:=[(1000003,[.cl 1003])],opn:=[41],rf:=true }
def Ad.a (k:Nat):AC (Ad.d.cs k):=⟨H8.s k,D7.s k,D9.s k,trivial⟩
def Ai.s:LL Tryz.f42 Ad.d 2 Ai.p:=mL [] Ad.a trivial
def Ad.s (k:Nat):CK 42 (Ad.e k):=mS Ad.d k [2] Tryz.func42 (Ad.a k) ⟨Ai.s,trivial⟩
def Da.e (k:Nat):Ent:=⟨5,[(.ptr t51 t51),(.val false .s),(.val true t25),(.val false (.i .i64)),(.val false t6)],[(.one,(.i .i64))],λ x=>Da k x.1 x.2.1 x.2.2.1 x.2.2.2.1 x.2.2.2.2⟩
def Da.d:Fd := { nt:=82,nv:=5,nm:=[0,1,2,3,4,5,6,7,8,9,11,12,13],res:=[10],cs:=λ k=>[(41,Ah.e k),(42,Ad.e k),(82,Fp.e k),(83,F3.e k),(84,Hs.e k),(87,Ko.e k)],rf:=true }
def Da.s (k:Nat):CK 37 (Da.e k):=mS Da.d k [] Tryz.func37 ⟨Ah.s k,Ad.s k,Fp.s k,F3.s k,Hs.s k,Ko.s k,trivial⟩ trivial
def Gf.e (k:Nat):Ent:=⟨4,[(.val true t48),(.val false .s),(.val false (.i .i64)),(.val false t6)],[(.agg,t51),(.one,(.i .i64))],λ x=>Gf k x.1 x.2.1 x.2.2.1 x.2.2.2⟩
def Gf.d:Fd := { nt:=25,nv:=4,nm:=[0,1,2,3,4,5,6,7,10,11],res:=[9],cs:=λ k=>[(12,Bj.e k),(36,Bv.e k),(37,Da.e k)],mv:=[17,23],rf:=true }
def Gf.s (k:Nat):CK 9 (Gf.e k):=mS Gf.d k [] Tryz.func9 ⟨Bj.s k,Bv.s k,Da.s k,trivial⟩ trivial
def Fl.e (k:Nat):Ent:=⟨2,[(.val true t17),(.val false t22)],[(.one,.b)],λ x=>Fl k x.1 x.2⟩
def Hu.p:LF:=⟨⟨[(2,(.bp 2 0 0)),(3999,(.hd 2))],[(1,t22),(5,(.i .i64)),(6,(.i .i64)),(3000,t17)]⟩,[(.ret,⟨[],[(4,.b)]⟩),((.exit 2),⟨[(2,(.bp 2 0 0)),(3999,(.hd 2))],[(1,t22),(5,(.i .i64)),(3000,t17)]⟩)],λ k x=>Hu k x.1 x.2.1 x.2.2.1 x.2.2.2⟩
def Hv.p:LF:=⟨⟨[(2,(.bp 2 0 0)),(3999,(.hd 2))],[(1,t22),(5,(.i .i64)),(3000,t17)]⟩,[(.ret,⟨[],[(4,.b)]⟩),((.exit 0),⟨[],[]⟩)],λ k x=>Hv k x.1 x.2.1 x.2.2⟩
def Fl.d:Fd := { nt:=68,nv:=2,nm:=[0,1,2,3,5,6,7,8],res:=[4],cs:=λ k=>[(97,A8.e k),(112,Bw.e k),(145,El.e k),(146,Eh.e k)],ls:=[(9,Hu.p),(4,Hv.p)],rf:=true }
def Fl.a (k:Nat):AC (Fl.d.cs k):=⟨A8.s k,Bw.s k,El.s k,Eh.s k,trivial⟩
def Hu.s:LL Tryz.f91 Fl.d 9 Hu.p:=mL [] Fl.a trivial
def Hv.s:LL Tryz.f91 Fl.d 4 Hv.p:=mL [9] Fl.a ⟨Hu.s,trivial⟩
def Fl.s (k:Nat):CK 91 (Fl.e k):=mS Fl.d k [4] Tryz.func91 (Fl.a k) ⟨Hv.s,trivial⟩
def Dn.e (k:Nat):Ent:=⟨1,[(.val true t48)],[(.one,.b)],λ x=>Dn k x⟩
def F8.p:LF:=⟨⟨[(1,(.bp 1 0 0)),(2999,(.hd 9))],[(3,(.i .i64)),(2000,t48)]⟩,[(.ret,⟨[],[(2,.b)]⟩),((.exit 0),⟨[],[]⟩)],λ k x=>F8 k x.1 x.2⟩
def Dn.d:Fd := { nt:=40,nv:=1,nm:=[0,1,3],res:=[2],cs:=λ k=>[(147,Bz.e k)],ls:=[(4,F8.p)],rf:=true }
def Dn.a (k:Nat):AC (Dn.d.cs k):=⟨Bz.s k,trivial⟩
def F8.s:LL Tryz.f92 Dn.d 4 F8.p:=mL [] Dn.a trivial
def Dn.s (k:Nat):CK 92 (Dn.e k):=mS Dn.d k [4] Tryz.func92 (Dn.a k) ⟨F8.s,trivial⟩
def Dh.e (k:Nat):Ent:=⟨1,[(.val true t48)],[(.one,.b)],λ x=>Dh k x⟩
def Cz.p:LF:=⟨⟨[(1,(.bp 1 0 0)),(2999,(.hd 9))],[(5,(.i .i64)),(2000,t48)]⟩,[(.ret,⟨[],[(2,.b)]⟩),((.exit 2),⟨[],[]⟩)],λ k x=>Cz k x.1 x.2⟩
def Gg.p:LF:=⟨⟨[(1,(.bp 1 0 0)),(2999,(.hd 9))],[(3,(.i .i64)),(2000,t48)]⟩,[(.ret,⟨[],[(2,.b)]⟩),((.exit 0),⟨[(1,(.bp 1 0 0)),(2999,(.hd 9))],[(2000,t48)]⟩)],λ k x=>Gg k x.1 x.2⟩
def Dh.d:Fd := { nt:=91,nv:=1,nm:=[0,1,3,4,5],res:=[2],cs:=λ k=>[(91,Fl.e k),(92,Dn.e k),(93,C4.e k),(94,Ar.e k),(95,Bx.e k),(96,C5.e k)],ls:=[(10,Cz.p),(4,Gg.p)],rf:=true }
def Dh.a (k:Nat):AC (Dh.d.cs k):=⟨Fl.s k,Dn.s k,C4.s k,Ar.s k,Bx.s k,C5.s k,trivial⟩
def Cz.s:LL Tryz.f39 Dh.d 10 Cz.p:=mL [] Dh.a trivial
def Gg.s:LL Tryz.f39 Dh.d 4 Gg.p:=mL [] Dh.a trivial
def Dh.s (k:Nat):CK 39 (Dh.e k):=mS Dh.d k [4,10] Tryz.func39 (Dh.a k) ⟨Gg.s,Cz.s,trivial⟩
def Gi.e (k:Nat):Ent:=⟨4,[(.val true t48),(.val false .s),(.val false (.i .i64)),(.val false t6)],[(.agg,t51),(.one,(.i .i64))],λ x=>Gi k x.1 x.2.1 x.2.2.1 x.2.2.2⟩
def Gi.d:Fd := { nt:=23,nv:=4,nm:=[0,1,2,3,4,5,6,7,10,11],res:=[9],cs:=λ k=>[(38,C6.e k),(39,Dh.e k),(40,Ej.e k)],mv:=[21],rf:=true }
def Gi.s (k:Nat):CK 10 (Gi.e k):=mS Gi.d k [] Tryz.func10 ⟨C6.s k,Dh.s k,Ej.s k,trivial⟩ trivial
def M8.e (k:Nat):Ent:=⟨2,[(.val true t28),(.val false .s)],[(.agg,t25),(.one,(.i .i64))],λ x=>M8 k x.1 x.2⟩
def M8.d:Fd := { nt:=28,nv:=2,nm:=[0,1,2,3,6,7,8,9],res:=[5],cs:=λ k=>[(58,Fq.e k),(59,H9.e k)] }
def M8.s (k:Nat):CK 19 (M8.e k):=mS M8.d k [] Tryz.func19 ⟨Fq.s k,H9.s k,trivial⟩ trivial
def Ch.e (k:Nat):Ent:=⟨6,[(.rd t40),(.val false (.i .i64)),(.ptr (.i .i64) (.i .i64)),(.ptr .s .s),(.ptr .b .b),(.ptr t25 t25)],[],λ x=>Ch k x.1 x.2.1 x.2.2.1 x.2.2.2.1 x.2.2.2.2.1 x.2.2.2.2.2⟩
def Ch.d:Fd := { nt:=35,nv:=6,nm:=[0,1,6,7,8,9],res:=[],cs:=λ k=>[(19,M8.e k),(44,Jv.e k)],rf:=true }
def Ch.s (k:Nat):CK 43 (Ch.e k):=mS Ch.d k [] Tryz.func43 ⟨M8.s k,Jv.s k,trivial⟩ trivial
def A9.e (k:Nat):Ent:=⟨4,[(.ptr t48 t48),(.val false .s),(.val false t6),(.fn 43 4),(.hid (.i .i64) (.i .i64)),(.hid .s .s),(.hid .b .b),(.hid t25 t25)],[],λ x=>A9 k x.1 x.2.1 x.2.2.1 x.2.2.2.1 x.2.2.2.2.1 x.2.2.2.2.2.1 x.2.2.2.2.2.2.1 x.2.2.2.2.2.2.2⟩
def Ac.p:LF:=⟨⟨[(0,(.bp 0 0 0)),(3,(.fn 43 [(1500,0),(1501,0),(1502,0),(1503,0)])),(1999,(.hd 9)),(1501999,(.hd 1)),(1502999,(.hd 1)),(1503999,(.hd 1)),(1504999,(.hd 5))],[(2,t6),(8,(.i .i64)),(14,t7),(15,(.i .i64)),(16,(.i .i64)),(1000,t48),(1501000,(.i .i64)),(1502000,.s),(1503000,.b),(1504000,t25)]⟩,[((.exit 0),⟨[(1999,(.hd 9)),(1501999,(.hd 1)),(1502999,(.hd 1)),(1503999,(.hd 1)),(1504999,(.hd 5))],[(1000,t48),(1501000,(.i .i64)),(1502000,.s),(1503000,.b),(1504000,t25)]⟩)],λ k x=>Ac k x.1 x.2.1 x.2.2.1 x.2.2.2.1 x.2.2.2.2.1 x.2.2.2.2.2.1 x.2.2.2.2.2.2.1 x.2.2.2.2.2.2.2.1 x.2.2.2.2.2.2.2.2.1 x.2.2.2.2.2.2.2.2.2⟩
def A9.d:Fd := { nt:=47,nv:=4,nm:=[0,1,2,3,4,5,6,7,8,9,10,11],res:=[],cs:=λ k=>[(43,Ch.e k),(61,H8.e k),(66,C0.e k)],ls:=[(2,Ac.p)],rf:=true }
def A9.a (k:Nat):AC (A9.d.cs k):=⟨Ch.s k,H8.s k,C0.s k,trivial⟩
def Ac.s:LL Tryz.f42 A9.d 2 Ac.p:=mL [] A9.a trivial
def A9.s (k:Nat):CK 42 (A9.e k):=mS A9.d k [2] Tryz.func42 (A9.a k) ⟨Ac.s,trivial⟩
def Hw.e (k:Nat):Ent:=⟨3,[(.val true t48),(.val false .s),(.val false t6)],[(.agg,t25),(.one,(.i .i64))],λ x=>Hw k x.1 x.2.1 x.2.2⟩
def Hw.d:Fd := { nt:=37,nv:=3,nm:=[0,1,2,3,4,5,8,9,10],res:=[7],cs:=λ k=>[(12,Bj.e k),(41,Ah.e k),(42,A9.e k)],rf:=true }
def Hw.s (k:Nat):CK 11 (Hw.e k):=mS Hw.d k [] Tryz.func11 ⟨Bj.s k,Ah.s k,A9.s k,trivial⟩ trivial
def Kq.e (k:Nat):Ent:=⟨2,[(.val true t25),(.val true t25)],[(.one,.b)],λ x=>Kq x.1 x.2⟩
def Kq.d:Fd := { nt:=26,nv:=2,nm:=[0,1,2,3],res:=[4],rf:=true }
def Kq.s (k:Nat):CK 158 (Kq.e k):=mS Kq.d k [] Tryz.func158 trivial trivial
def Dp.e (k:Nat):Ent:=⟨3,[(.val true t48),(.val false .s),(.val true t25)],[(.one,.b)],λ x=>Dp k x.1 x.2.1 x.2.2⟩
def Dq.p:LF:=⟨⟨[(3,(.bp 3 0 0)),(5,(.bp 5 0 0)),(4999,(.hd 9)),(6999,(.hd 5))],[(1,.s),(7,(.i .i64)),(4000,t48),(6000,t25)]⟩,[(.ret,⟨[],[(6,.b)]⟩),((.exit 0),⟨[],[]⟩)],λ k x=>Dq k x.1 x.2.1 x.2.2.1 x.2.2.2⟩
def Dp.d:Fd := { nt:=33,nv:=3,nm:=[0,1,2,3,4,5,7],res:=[6],cs:=λ k=>[(158,Kq.e k)],ls:=[(2,Dq.p)],rf:=true }
def Dp.a (k:Nat):AC (Dp.d.cs k):=⟨Kq.s k,trivial⟩
def Dq.s:LL Tryz.f109 Dp.d 2 Dq.p:=mL [] Dp.a trivial
def Dp.s (k:Nat):CK 109 (Dp.e k):=mS Dp.d k [2] Tryz.func109 (Dp.a k) ⟨Dq.s,trivial⟩
def Eg.e (k:Nat):Ent:=⟨2,[(.val true t48),(.val false t13)],[(.one,.b)],λ x=>Eg k x.1 x.2⟩
def F9.p:LF:=⟨⟨[(2,(.bp 2 0 0)),(3999,(.hd 9))],[(1,t13),(5,(.i .i64)),(3000,t48)]⟩,[(.ret,⟨[],[(4,.b)]⟩),((.exit 0),⟨[],[]⟩)],λ k x=>F9 k x.1 x.2.1 x.2.2⟩
def Eg.d:Fd := { nt:=35,nv:=2,nm:=[0,1,2,3,5,6,7],res:=[4],cs:=λ k=>[(108,Ed.e k),(109,Dp.e k)],ls:=[(2,F9.p)],rf:=true }
def Eg.a (k:Nat):AC (Eg.d.cs k):=⟨Ed.s k,Dp.s k,trivial⟩
def F9.s:LL Tryz.f49 Eg.d 2 F9.p:=mL [] Eg.a trivial
def Eg.s (k:Nat):CK 49 (Eg.e k):=mS Eg.d k [2] Tryz.func49 (Eg.a k) ⟨F9.s,trivial⟩
def Fh.e (k:Nat):Ent:=⟨1,[(.val true t48)],[(.one,.b)],λ x=>Fh k x⟩
def Gj.p:LF:=⟨⟨[(1,(.bp 1 0 0)),(2999,(.hd 9))],[(3,(.i .i64)),(2000,t48)]⟩,[(.ret,⟨[],[(2,.b)]⟩),((.exit 0),⟨[],[]⟩)],λ k x=>Gj k x.1 x.2⟩
def Fh.d:Fd := { nt:=33,nv:=1,nm:=[0,1,3],res:=[2],cs:=λ k=>[(49,Eg.e k)],ls:=[(2,Gj.p)],rf:=true }
def Fh.a (k:Nat):AC (Fh.d.cs k):=⟨Eg.s k,trivial⟩
def Gj.s:LL Tryz.f13 Fh.d 2 Gj.p:=mL [] Fh.a trivial
def Fh.s (k:Nat):CK 13 (Fh.e k):=mS Fh.d k [2] Tryz.func13 (Fh.a k) ⟨Gj.s,trivial⟩
def Ib.e (k:Nat):Ent:=⟨1,[(.val false t4)],[(.one,.b)],λ x=>Ib k x⟩
def Ib.d:Fd := { nt:=86,nv:=1,nm:=[0,1,3,4,5,6,7,8,9,10,11,12],res:=[2],cs:=λ k=>[(7,Nu.e k),(8,Cg.e k),(9,Gf.e k),(10,Gi.e k),(11,Hw.e k),(12,Bj.e k),(13,Fh.e k)],sh:=true,rf:=true }
def Ib.s (k:Nat):CK 3 (Ib.e k):=mS Ib.d k [] Tryz.func3 ⟨Nu.s k,Cg.s k,Gf.s k,Gi.s k,Hw.s k,Bj.s k,Fh.s k,trivial⟩ trivial
end

end Go.Proofs.YtcpligincipmhaaGreat.Vf
