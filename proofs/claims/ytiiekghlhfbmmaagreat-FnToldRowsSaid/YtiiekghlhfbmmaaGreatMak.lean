import Derived.Test.YtiiekghlhfbmmaaGreatMab
import Derived.Test.YtiiekghlhfbmmaaGreatMaj
import Derived.Test.YtiiekghlhfbmmaaGreatProg
import Derived.KernelRfl
import Derived.IntWalk
set_option linter.all false
namespace Go.Proofs.YtiiekghlhfbmmaaGreat.Vf
open Go
open List (length getD)
open Int (toNat)
open Go.IntKind (wrap)
open BitVec (ofInt)
def Gpb:=@Int.tmod_eq_emod_of_nonneg
def H5b:=@BitVec.toNat_ofInt
def Hkb:=@BitVec.toNat_and

section
open Go.Proofs
@[reducible] def t0:Ty := .sl 9 .s
@[reducible] def t1:Ty := .sl 4 .b
@[reducible] def t2:Ty := .ow 9 .s
@[reducible] def t3:Ty := .ow 4 .b
@[reducible] def t4:Ty := .sl 5 (.i .u8)
@[reducible] def t5:Ty := .ow 5 (.i .u8)
@[reducible] def t6:Ty := .sl 3 (.i .i64)
@[reducible] def t7:Ty := .ow 3 (.i .i64)
@[reducible] def t8:Ty := .pr .s (.i .u64)
@[reducible] def t9:Ty := .pr (.i .i64) (.i .i64)
@[reducible] def t10:Ty := .sl 87 t6
@[reducible] def t11:Ty := .pr .s t4
@[reducible] def t12:Ty := .pr .s t5
@[reducible] def t13:Ty := .sl 130 t11
@[reducible] def t14:Ty := .ow 130 t11
@[reducible] def t15:Ty := .ow 130 t12
@[reducible] def t16:Ty := .pr (.i .i64) t9
@[reducible] def t17:Ty := .pr (.i .i64) t10
@[reducible] def t18:Ty := .pr (.i .i64) (.ow 87 t7)
@[reducible] def t19:Ty := .pr (.i .i64) (.ow 87 t6)
@[reducible] def t20:Ty := .pr t4 (.pr (.i .i64) .b)
@[reducible] def t21:Ty := .pr t4 t9
@[reducible] def t22:Ty := .sl 110 t16
@[reducible] def t23:Ty := .ow 110 t16
@[reducible] def t24:Ty := .pr (.i .i64) (.pr (.i .i64) (.pr .b (.i .u8)))
@[reducible] def t25:Ty := .pr t16 (.pr .b t4)
@[reducible] def t26:Ty := .pr t16 (.pr .b t5)
@[reducible] def t27:Ty := .pr .s (.pr t16 (.pr .b (.i .i64)))
@[reducible] def t28:Ty := .pr t13 t13
@[reducible] def t29:Ty := .pr t14 t14
@[reducible] def t30:Ty := .pr t15 t15
@[reducible] def t31:Ty := .sl 50 t27
@[reducible] def t32:Ty := .ow 50 t27
@[reducible] def t33:Ty := .pr .s (.pr t25 .b)
@[reducible] def t34:Ty := .pr (.i .i64) (.pr (.i .i64) (.pr .s (.pr t4 (.pr (.i .i64) t6))))
@[reducible] def t35:Ty := .sl 42 t33
@[reducible] def t36:Ty := .ow 42 t33
@[reducible] def t37:Ty := .pr t16 (.pr t35 t0)
@[reducible] def t38:Ty := .pr t32 t32
@[reducible] def t39:Ty := .pr t31 t32
@[reducible] def t40:Ty := .pr (.i .i64) (.pr t28 (.pr t31 t31))
@[reducible] def t41:Ty := .pr (.i .i64) (.pr t29 t38)
@[reducible] def t42:Ty := .pr (.i .i64) (.pr t28 t38)
@[reducible] def t43:Ty := .pr (.i .i64) (.pr t29 t39)
@[reducible] def t44:Ty := .pr (.i .i64) (.pr t28 t39)
@[reducible] def t45:Ty := .sl 48 t40
@[reducible] def t46:Ty := .ow 48 t40
@[reducible] def t47:Ty := .pr t46 (.pr t16 (.pr t36 t2))
@[reducible] def t48:Ty := .pr t22 (.pr t17 (.pr t45 t37))
@[reducible] def t49:Ty := .pr t23 (.pr t17 t47)
@[reducible] def t50:Ty := .pr t23 (.pr t19 t47)
@[reducible] def t51:Ty := .pr t23 (.pr t17 (.pr t46 (.pr t16 (.pr t36 t0))))
def tiL:List (Nat×TI):=[(2,⟨(.i .i64),false,8,[]⟩),
 (3,⟨(.i .i64),false,8,[]⟩),
 (4,⟨.b,false,1,[]⟩),
 (5,⟨(.i .u8),false,1,[]⟩),
 (6,⟨(.i .u8),false,1,[]⟩),
 (7,⟨t24,true,24,[(0,1,false),(1,1,false),(2,1,false),(3,1,false)]⟩),
 (8,⟨t24,true,24,[(0,1,false),(1,1,false),(2,1,false),(3,1,false)]⟩),
 (9,⟨.s,false,16,[]⟩),
 (10,⟨.s,false,16,[]⟩),
 (11,⟨.s,false,16,[]⟩),
 (12,⟨(.i .u64),false,8,[]⟩),
 (13,⟨t8,true,24,[(0,1,false),(1,1,false)]⟩),
 (14,⟨t8,true,24,[(0,1,false),(1,1,false)]⟩),
 (21,⟨(.i .i32),false,4,[]⟩),
 (22,⟨t4,false,24,[]⟩),
 (24,⟨t22,false,24,[]⟩),
 (25,⟨t10,false,24,[]⟩),
 (26,⟨t17,true,32,[(0,1,false),(1,1,false)]⟩),
 (27,⟨t17,true,32,[(0,1,false),(1,1,false)]⟩),
 (28,⟨t45,false,24,[]⟩),
 (29,⟨t16,true,24,[(0,1,false),(1,1,false),(2,1,false)]⟩),
 (30,⟨t16,true,24,[(0,1,false),(1,1,false),(2,1,false)]⟩),
 (31,⟨t35,false,24,[]⟩),
 (32,⟨t0,false,24,[]⟩),
 (33,⟨t48,true,152,[(0,1,false),(1,2,true),(3,1,false),(4,3,true),(7,1,false),(8,1,false)]⟩),
 (34,⟨t48,true,152,[(0,1,false),(1,2,true),(3,1,false),(4,3,true),(7,1,false),(8,1,false)]⟩),
 (37,⟨t6,false,24,[]⟩),
 (39,⟨t25,true,56,[(0,3,true),(3,1,false),(4,1,false)]⟩),
 (40,⟨t25,true,56,[(0,3,true),(3,1,false),(4,1,false)]⟩),
 (41,⟨t33,true,80,[(0,1,false),(1,5,true),(6,1,false)]⟩),
 (42,⟨t33,true,80,[(0,1,false),(1,5,true),(6,1,false)]⟩),
 (43,⟨t13,false,24,[]⟩),
 (44,⟨t28,true,48,[(0,1,false),(1,1,false)]⟩),
 (45,⟨t28,true,48,[(0,1,false),(1,1,false)]⟩),
 (46,⟨t31,false,24,[]⟩),
 (47,⟨t40,true,104,[(0,1,false),(1,2,true),(3,1,false),(4,1,false)]⟩),
 (48,⟨t40,true,104,[(0,1,false),(1,2,true),(3,1,false),(4,1,false)]⟩),
 (49,⟨t27,true,56,[(0,1,false),(1,3,true),(4,1,false),(5,1,false)]⟩),
 (50,⟨t27,true,56,[(0,1,false),(1,3,true),(4,1,false),(5,1,false)]⟩),
 (59,⟨t34,true,88,[(0,1,false),(1,1,false),(2,1,false),(3,1,false),(4,1,false),(5,1,false)]⟩),
 (60,⟨t34,true,88,[(0,1,false),(1,1,false),(2,1,false),(3,1,false),(4,1,false),(5,1,false)]⟩),
 (86,⟨t6,true,24,[(0,1,false)]⟩),
 (87,⟨t6,true,24,[(0,1,false)]⟩),
 (109,⟨t16,true,24,[(0,1,false),(1,1,false),(2,1,false)]⟩),
 (110,⟨t16,true,24,[(0,1,false),(1,1,false),(2,1,false)]⟩),
 (122,⟨t21,true,40,[(0,1,false),(1,1,false),(2,1,false)]⟩),
 (123,⟨t21,true,40,[(0,1,false),(1,1,false),(2,1,false)]⟩),
 (129,⟨t11,true,40,[(0,1,false),(1,1,false)]⟩),
 (130,⟨t11,true,40,[(0,1,false),(1,1,false)]⟩),
 (139,⟨t20,true,40,[(0,1,false),(1,1,false),(2,1,false)]⟩),
 (140,⟨t20,true,40,[(0,1,false),(1,1,false),(2,1,false)]⟩),
 (177,⟨t1,false,24,[]⟩),
 (192,⟨(.i .u64),false,8,[]⟩),
 (201,⟨(.i .u32),false,4,[]⟩),
 (238,⟨(.i .u8),false,1,[]⟩),
 (239,⟨(.i .u8),false,1,[]⟩),
 (242,⟨(.i .i32),false,4,[]⟩),
 (243,⟨(.i .i32),false,4,[]⟩)]
def ti:TypeId→Option TI:=lk tiL
def Bnb:List Nat:=[29,30,49,50,109,110]
def eqs:TypeId→Bool:=λ T=>Bnb.contains T
def sK:Z6 Tryz.prog ti eqs∧∀ T,Td Tryz.prog ti T=true:=Egb (P:=Tryz.prog) (ti:=ti) (eqs:=eqs) (keys:=tiL.map Prod.fst) (Bnb:=Bnb) Xma (by kernel_rfl) (by kernel_rfl) rfl (by kernel_rfl)
def sO:Z6 Tryz.prog ti eqs:=sK.1
def F5b:∀ T t,ti T=some t→TOk Tryz.prog T t:=sO.tok
def F6b:∀ T,Td Tryz.prog ti T=true:=sK.2
abbrev CK:=P5 Tryz.prog
abbrev LL:=LK Tryz.prog
abbrev AC:=Zua Tryz.prog
def mS {f:FuncId} {fn:Func} (D:Fd) (k:Nat) {en:Ent} (ids:List Nat) (hf:Tryz.prog.funcs[f]? = some fn) (hc:AC (D.cs k)) (hi:Zva Tryz.prog fn D ids) (h:(Efb fn D en,Lv (bo fn),ids.map λ l=>first (Ky l (bo fn)))=(true,ids.map λ l=>Ky l (bo fn),ids):=by kernel_rfl) (hr:∀ x,P2a (D.n ti eqs k) (bo fn) fn.results.toList en x=en.run x:=by intro x;kernel_rfl):CK f en:=mkS sO ids hf hc hi (congrArg Prod.fst h) (congrArg Prod.snd h) hr
def mL {fn:Func} {D:Fd} {l:Nat} {p:LF} (ids:List Nat) (hc:∀ k,AC (D.cs k)) (hi:Zva Tryz.prog fn D ids) (h:(Nat.beq D.nt fn.ntmps,Lv (Ky l (bo fn)),ids.map λ l=>first (Ky l (bo fn)))=(true,ids.map λ l=>Ky l (bo fn),ids):=by kernel_rfl) (h0:∀ x,p.f 0 x=none:=by intro _;rfl) (hs:Eyb ti eqs fn D l p:=by intro k x;kernel_rfl):LL fn D l p:=mkL sO ids (congrArg Prod.fst h) hc hi (congrArg Prod.snd h) h0 hs
def N8.e (k:Nat):Ent:=⟨1,[(.val false t4)],[(.one,.b)],λ x=>N8 x⟩
def N8.d:Fd := { nt:=6,nv:=1,nm:=[0,1],res:=[2] }
def N8.s (k:Nat):CK 8 (N8.e k):=mS N8.d k [] Tryz.func8 trivial trivial
def Fa.e (k:Nat):Ent:=⟨1,[(.val false t6)],[(.one,t7)],λ x=>Fa x⟩
def Fa.d:Fd := { nt:=5,nv:=1,nm:=[0,1],res:=[2],rf:=true }
def Fa.s (k:Nat):CK 82 (Fa.e k):=mS Fa.d k [] Tryz.func82 trivial trivial
def L9.e (k:Nat):Ent:=⟨1,[(.val false .s)],[(.one,(.i .i64))],λ x=>L9 k x⟩
def Iv.p:LF:=⟨⟨[],[(0,.s),(3,(.i .u32)),(4,(.i .i64))]⟩,[((.exit 0),⟨[],[(3,(.i .u32))]⟩)],λ k x=>Iv k x.1 x.2.1 x.2.2⟩
def L9.d:Fd := { nt:=20,nv:=1,nm:=[0,1,3,4],res:=[2],ls:=[(3,Iv.p)],rf:=true }
def Iv.s:LL Tryz.f145 L9.d 3 Iv.p:=mL [] (λ _=>trivial) trivial
def L9.s (k:Nat):CK 145 (L9.e k):=mS L9.d k [3] Tryz.func145 trivial ⟨Iv.s,trivial⟩
def Ke.e (k:Nat):Ent:=⟨2,[(.val false .s),(.val false (.i .i64))],[(.one,(.i .i64))],λ x=>Ke k x.1 x.2⟩
def Ke.d:Fd := { nt:=11,nv:=2,nm:=[0,1,2,3],res:=[4],cs:=λ k=>[(145,L9.e k)],rf:=true }
def Ke.s (k:Nat):CK 83 (Ke.e k):=mS Ke.d k [] Tryz.func83 ⟨L9.s k,trivial⟩ trivial
def Gq.e (k:Nat):Ent:=⟨2,[(.val true t17),(.val false .s)],[(.one,t7)],λ x=>Gq k x.1 x.2⟩
def Gq.d:Fd := { nt:=20,nv:=2,nm:=[0,1,2,3],res:=[4],cs:=λ k=>[(82,Fa.e k),(83,Ke.e k)],rf:=true }
def Gq.s (k:Nat):CK 30 (Gq.e k):=mS Gq.d k [] Tryz.func30 ⟨Fa.s k,Ke.s k,trivial⟩ trivial
def Hk.e (k:Nat):Ent:=⟨2,[(.val true t48),(.val false t6)],[(.one,t7)],λ x=>Hk k x.1 x.2⟩
def Dh.p:LF:=⟨⟨[(2,(.bp 2 0 0)),(3999,(.hd 9))],[(5,t7),(7,(.i .i64)),(10,t6),(11,(.i .i64)),(12,(.i .i64)),(17,t45),(18,(.i .i64)),(19,(.i .i64)),(3000,t48)]⟩,[((.exit 2),⟨[(2,(.bp 2 0 0)),(3999,(.hd 9))],[(5,t7),(10,t6),(11,(.i .i64)),(12,(.i .i64)),(3000,t48)]⟩)],λ k x=>Dh k x.1 x.2.1 x.2.2.1 x.2.2.2.1 x.2.2.2.2.1 x.2.2.2.2.2.1 x.2.2.2.2.2.2.1 x.2.2.2.2.2.2.2.1 x.2.2.2.2.2.2.2.2⟩
def Fi.p:LF:=⟨⟨[(2,(.bp 2 0 0)),(3999,(.hd 9))],[(5,t7),(10,t6),(11,(.i .i64)),(12,(.i .i64)),(3000,t48)]⟩,[((.exit 0),⟨[],[(5,t7)]⟩)],λ k x=>Fi k x.1 x.2.1 x.2.2.1 x.2.2.2.1 x.2.2.2.2⟩
def Hk.d:Fd := { nt:=35,nv:=2,nm:=[0,1,2,3,5,6,7,8,9],res:=[4],ls:=[(6,Dh.p),(3,Fi.p)],rf:=true }
def Dh.s:LL Tryz.f47 Hk.d 6 Dh.p:=mL [] (λ _=>trivial) trivial
def Fi.s:LL Tryz.f47 Hk.d 3 Fi.p:=mL [6] (λ _=>trivial) ⟨Dh.s,trivial⟩
def Hk.s (k:Nat):CK 47 (Hk.e k):=mS Hk.d k [3] Tryz.func47 trivial ⟨Fi.s,trivial⟩
def E4.e (k:Nat):Ent:=⟨1,[(.val true t48)],[(.one,t7)],λ x=>E4 k x⟩
def E4.d:Fd := { nt:=8,nv:=1,nm:=[0,1],res:=[2],cs:=λ k=>[(30,Gq.e k),(47,Hk.e k)],rf:=true }
def E4.s (k:Nat):CK 11 (E4.e k):=mS E4.d k [] Tryz.func11 ⟨Gq.s k,Hk.s k,trivial⟩ trivial
def Le.e (k:Nat):Ent:=⟨2,[(.val false t6),(.val false (.i .i64))],[(.one,.b)],λ x=>Le k x.1 x.2⟩
def Jk.p:LF:=⟨⟨[],[(0,t6),(1,(.i .i64)),(5,(.i .i64))]⟩,[(.ret,⟨[],[(4,.b)]⟩),((.exit 0),⟨[],[]⟩)],λ k x=>Jk k x.1 x.2.1 x.2.2⟩
def Le.d:Fd := { nt:=18,nv:=2,nm:=[0,1,2,3,5],res:=[4],ls:=[(2,Jk.p)],rf:=true }
def Jk.s:LL Tryz.f31 Le.d 2 Jk.p:=mL [] (λ _=>trivial) trivial
def Le.s (k:Nat):CK 31 (Le.e k):=mS Le.d k [2] Tryz.func31 trivial ⟨Jk.s,trivial⟩
def Jz.e (k:Nat):Ent:=⟨1,[(.val false t4)],[(.ptr,t21)],λ x=>Jz k x⟩
def Hq.p:LF:=⟨⟨[],[(0,t4),(3,(.i .i64)),(4,(.i .i64))]⟩,[((.exit 0),⟨[],[(0,t4),(3,(.i .i64))]⟩)],λ k x=>Hq k x.1 x.2.1 x.2.2⟩
def Jz.d:Fd := { nt:=32,nv:=1,nm:=[0,1,3,4],res:=[2],ls:=[(3,Hq.p)] }
def Hq.s:LL Tryz.f44 Jz.d 3 Hq.p:=mL [] (λ _=>trivial) trivial
def Jz.s (k:Nat):CK 44 (Jz.e k):=mS Jz.d k [3] Tryz.func44 trivial ⟨Hq.s,trivial⟩
def Jl.e (k:Nat):Ent:=⟨2,[(.val false t4),(.val false (.i .i64))],[(.one,(.i .i64))],λ x=>Jl x.1 x.2⟩
def Jl.d:Fd := { nt:=15,nv:=2,nm:=[0,1,2,3,5],res:=[4],rf:=true }
def Jl.s (k:Nat):CK 46 (Jl.e k):=mS Jl.d k [] Tryz.func46 trivial trivial
def Fj.e (k:Nat):Ent:=⟨1,[(.ptr t21 t21)],[(.one,(.i .i64))],λ x=>Fj x⟩
def Fj.d:Fd := { nt:=58,nv:=1,nm:=[0,1,3],res:=[2] }
def Fj.s (k:Nat):CK 130 (Fj.e k):=mS Fj.d k [] Tryz.func130 trivial trivial
def A3.e (k:Nat):Ent:=⟨2,[(.ptr t21 t21),(.val false (.i .i64))],[(.one,(.i .i64))],λ x=>A3 x.1 x.2⟩
def A3.d:Fd := { nt:=31,nv:=2,nm:=[0,1,2,3,5,6,7],res:=[4],cs:=λ k=>[(130,Fj.e k)] }
def A3.s (k:Nat):CK 75 (A3.e k):=mS A3.d k [] Tryz.func75 ⟨Fj.s k,trivial⟩ trivial
def A9.e (k:Nat):Ent:=⟨2,[(.ptr t21 t21),(.val false t6)],[(.one,(.i .i64))],λ x=>A9 x.1 x.2⟩
def A9.d:Fd := { nt:=12,nv:=2,nm:=[0,1,2,3],res:=[4],cs:=λ k=>[(75,A3.e k)] }
def A9.s (k:Nat):CK 127 (A9.e k):=mS A9.d k [] Tryz.func127 ⟨A3.s k,trivial⟩ trivial
def Gc.e (k:Nat):Ent:=⟨1,[(.ptr t21 t21)],[(.one,t23)],λ x=>Gc k x⟩
def Gr.p:LF:=⟨⟨[(0,(.bp 0 0 0)),(1999,(.hd 3))],[(3,t23),(4,(.i .i64)),(5,(.i .i64)),(6,(.i .i64)),(1000,t21)]⟩,[((.exit 0),⟨[(1999,(.hd 3))],[(3,t23),(1000,t21)]⟩)],λ k x=>Gr k x.1 x.2.1 x.2.2.1 x.2.2.2.1 x.2.2.2.2⟩
def Gc.d:Fd := { nt:=35,nv:=1,nm:=[0,1,3,4,5,6],res:=[2],cs:=λ k=>[(75,A3.e k),(127,A9.e k)],ls:=[(5,Gr.p)],rf:=true }
def Gc.a (k:Nat):AC (Gc.d.cs k):=⟨A3.s k,A9.s k,trivial⟩
def Gr.s:LL Tryz.f158 Gc.d 5 Gr.p:=mL [] Gc.a trivial
def Gc.s (k:Nat):CK 158 (Gc.e k):=mS Gc.d k [5] Tryz.func158 (Gc.a k) ⟨Gr.s,trivial⟩
def A6.e (k:Nat):Ent:=⟨3,[(.val false (.i .i64)),(.val false (.i .i64)),(.val false (.i .i64))],[(.one,.b)],λ x=>A6 x.1 x.2.1 x.2.2⟩
def A6.d:Fd := { nt:=15,nv:=3,nm:=[0,1,2,3,4,5],res:=[6] }
def A6.s (k:Nat):CK 72 (A6.e k):=mS A6.d k [] Tryz.func72 trivial trivial
def C1.e (k:Nat):Ent:=⟨1,[(.val false t22)],[(.one,.b)],λ x=>C1 k x⟩
def Fz.p:LF:=⟨⟨[],[(0,t22),(3,(.i .i64))]⟩,[(.ret,⟨[],[(2,.b)]⟩),((.exit 0),⟨[],[(0,t22)]⟩)],λ k x=>Fz k x.1 x.2⟩
def C1.d:Fd := { nt:=49,nv:=1,nm:=[0,1,3,4],res:=[2],cs:=λ k=>[(72,A6.e k)],ls:=[(2,Fz.p)],rf:=true }
def C1.a (k:Nat):AC (C1.d.cs k):=⟨A6.s k,trivial⟩
def Fz.s:LL Tryz.f122 C1.d 2 Fz.p:=mL [] C1.a trivial
def C1.s (k:Nat):CK 122 (C1.e k):=mS C1.d k [2] Tryz.func122 (C1.a k) ⟨Fz.s,trivial⟩
def Cl.e (k:Nat):Ent:=⟨2,[(.val false t6),(.val false (.i .i64))],[(.one,.b)],λ x=>Cl k x.1 x.2⟩
def Hr.p:LF:=⟨⟨[],[(0,t6),(1,(.i .i64)),(5,(.i .i64))]⟩,[(.ret,⟨[],[(4,.b)]⟩),((.exit 0),⟨[],[]⟩)],λ k x=>Hr k x.1 x.2.1 x.2.2⟩
def Cl.d:Fd := { nt:=18,nv:=2,nm:=[0,1,2,3,5],res:=[4],ls:=[(2,Hr.p)],rf:=true }
def Hr.s:LL Tryz.f181 Cl.d 2 Hr.p:=mL [] (λ _=>trivial) trivial
def Cl.s (k:Nat):CK 181 (Cl.e k):=mS Cl.d k [2] Tryz.func181 trivial ⟨Hr.s,trivial⟩
def E9.e (k:Nat):Ent:=⟨2,[(.val false t22),(.val false (.i .i64))],[(.agg,t16),(.one,.b)],λ x=>E9 k x.1 x.2⟩
def Hs.p:LF:=⟨⟨[(4,(.bp 4 0 0)),(5999,(.hd 3))],[(0,t22),(1,(.i .i64)),(6,(.i .i64)),(5000,t16)]⟩,[(.ret,⟨[(4,(.bp 4 0 0)),(5999,(.hd 3))],[(5,.b),(5000,t16)]⟩),((.exit 0),⟨[(4,(.bp 4 0 0)),(5999,(.hd 3))],[(5000,t16)]⟩)],λ k x=>Hs k x.1 x.2.1 x.2.2.1 x.2.2.2⟩
def E9.d:Fd := { nt:=25,nv:=2,nm:=[0,1,2,3,6],res:=[5],ls:=[(2,Hs.p)],rf:=true }
def Hs.s:LL Tryz.f124 E9.d 2 Hs.p:=mL [] (λ _=>trivial) trivial
def E9.s (k:Nat):CK 124 (E9.e k):=mS E9.d k [2] Tryz.func124 trivial ⟨Hs.s,trivial⟩
def Ct.e (k:Nat):Ent:=⟨2,[(.val false t6),(.val false t22)],[(.one,t7)],λ x=>Ct k x.1 x.2⟩
def Di.p:LF:=⟨⟨[],[(0,t6),(1,t22),(5,t7),(6,(.i .i64))]⟩,[((.exit 0),⟨[],[(5,t7)]⟩)],λ k x=>Di k x.1 x.2.1 x.2.2.1 x.2.2.2⟩
def Ct.d:Fd := { nt:=39,nv:=2,nm:=[0,1,2,3,5,6,7,8],res:=[4],cs:=λ k=>[(124,E9.e k),(181,Cl.e k)],ls:=[(3,Di.p)],rf:=true }
def Ct.a (k:Nat):AC (Ct.d.cs k):=⟨E9.s k,Cl.s k,trivial⟩
def Di.s:LL Tryz.f254 Ct.d 3 Di.p:=mL [] Ct.a trivial
def Ct.s (k:Nat):CK 254 (Ct.e k):=mS Ct.d k [3] Tryz.func254 (Ct.a k) ⟨Di.s,trivial⟩
def Cq.e (k:Nat):Ent:=⟨2,[(.val true t17),(.val false (.i .i64))],[(.one,(.i .i64))],λ x=>Cq k x.1 x.2⟩
def G0.p:LF:=⟨⟨[(2,(.bp 2 0 0)),(3999,(.hd 2))],[(1,(.i .i64)),(5,(.i .i64)),(6,(.i .i64)),(7,(.i .i64)),(3000,t17)]⟩,[((.exit 2),⟨[(2,(.bp 2 0 0)),(3999,(.hd 2))],[(1,(.i .i64)),(5,(.i .i64)),(6,(.i .i64)),(3000,t17)]⟩)],λ k x=>G0 k x.1 x.2.1 x.2.2.1 x.2.2.2.1 x.2.2.2.2⟩
def Gt.p:LF:=⟨⟨[(2,(.bp 2 0 0)),(3999,(.hd 2))],[(1,(.i .i64)),(5,(.i .i64)),(6,(.i .i64)),(3000,t17)]⟩,[((.exit 0),⟨[],[(5,(.i .i64))]⟩)],λ k x=>Gt k x.1 x.2.1 x.2.2.1 x.2.2.2⟩
def Cq.d:Fd := { nt:=40,nv:=2,nm:=[0,1,2,3,5,6,7],res:=[4],ls:=[(6,G0.p),(3,Gt.p)],rf:=true }
def G0.s:LL Tryz.f255 Cq.d 6 G0.p:=mL [] (λ _=>trivial) trivial
def Gt.s:LL Tryz.f255 Cq.d 3 Gt.p:=mL [6] (λ _=>trivial) ⟨G0.s,trivial⟩
def Cq.s (k:Nat):CK 255 (Cq.e k):=mS Cq.d k [3] Tryz.func255 trivial ⟨Gt.s,trivial⟩
def Hl.e (k:Nat):Ent:=⟨3,[(.val true t17),(.val true t6),(.val false t22)],[(.one,(.i .i64))],λ x=>Hl k x.1 x.2.1 x.2.2⟩
def Bw.p:LF:=⟨⟨[(3,(.bp 3 0 0)),(4,(.bp 4 0 0)),(4999,(.hd 2)),(5999,(.hd 1))],[(2,t22),(7,t7),(8,(.i .i64)),(9,.b),(10,(.i .i64)),(4000,t17),(5000,t6)]⟩,[((.exit 0),⟨[],[(2,t22),(8,(.i .i64))]⟩)],λ k x=>Bw k x.1 x.2.1 x.2.2.1 x.2.2.2.1 x.2.2.2.2.1 x.2.2.2.2.2.1 x.2.2.2.2.2.2⟩
def Hl.d:Fd := { nt:=88,nv:=3,nm:=[0,1,2,3,4,5,7,8,9,10,11,12],res:=[6],cs:=λ k=>[(122,C1.e k),(181,Cl.e k),(254,Ct.e k),(255,Cq.e k)],ls:=[(5,Bw.p)],rf:=true }
def Hl.a (k:Nat):AC (Hl.d.cs k):=⟨C1.s k,Cl.s k,Ct.s k,Cq.s k,trivial⟩
def Bw.s:LL Tryz.f234 Hl.d 5 Bw.p:=mL [] Hl.a trivial
def Hl.s (k:Nat):CK 234 (Hl.e k):=mS Hl.d k [5] Tryz.func234 (Hl.a k) ⟨Bw.s,trivial⟩
def Gn.e (k:Nat):Ent:=⟨3,[(.val false t22),(.val false (.i .i64)),(.val false (.i .i64))],[(.agg,t18),(.one,.b)],λ x=>Gn k x.1 x.2.1 x.2.2⟩
def Ht.p:LF:=⟨⟨[(6,(.bp 6 0 0)),(8,(.bp 8 0 0)),(7999,(.hd 2)),(9999,(.hd 2))],[(0,t22),(1,(.i .i64)),(2,(.i .i64)),(9,(.i .i64)),(10,(.i .i64)),(7000,t19),(9000,t18)]⟩,[((.exit 2),⟨[(6,(.bp 6 0 0)),(8,(.bp 8 0 0)),(7999,(.hd 2)),(9999,(.hd 2))],[(0,t22),(1,(.i .i64)),(2,(.i .i64)),(9,(.i .i64)),(7000,t19),(9000,t18)]⟩)],λ k x=>Ht k x.1 x.2.1 x.2.2.1 x.2.2.2.1 x.2.2.2.2.1 x.2.2.2.2.2.1 x.2.2.2.2.2.2⟩
def Hu.p:LF:=⟨⟨[(6,(.bp 6 0 0)),(8,(.bp 8 0 0)),(7999,(.hd 2)),(9999,(.hd 2))],[(0,t22),(1,(.i .i64)),(2,(.i .i64)),(9,(.i .i64)),(7000,t19),(9000,t18)]⟩,[((.exit 0),⟨[(6,(.bp 6 0 0)),(8,(.bp 8 0 0)),(7999,(.hd 2)),(9999,(.hd 2))],[(7000,t19),(9000,t18)]⟩)],λ k x=>Hu k x.1 x.2.1 x.2.2.1 x.2.2.2.1 x.2.2.2.2.1 x.2.2.2.2.2⟩
def Gn.d:Fd := { nt:=73,nv:=3,nm:=[0,1,2,3,4,5,8,9,10,11],res:=[7],cs:=λ k=>[(72,A6.e k),(122,C1.e k),(234,Hl.e k)],ls:=[(9,Ht.p),(5,Hu.p)],hint:=[(42,t7),(43,t7)],mv:=[72],gh:=[(12,[.od 54 3001]),(1000010,[.cl 9001])],rf:=true }
def Gn.a (k:Nat):AC (Gn.d.cs k):=⟨A6.s k,C1.s k,Hl.s k,trivial⟩
def Ht.s:LL Tryz.f203 Gn.d 9 Ht.p:=mL [] Gn.a trivial
def Hu.s:LL Tryz.f203 Gn.d 5 Hu.p:=mL [9] Gn.a ⟨Ht.s,trivial⟩
def Gn.s (k:Nat):CK 203 (Gn.e k):=mS Gn.d k [5] Tryz.func203 (Gn.a k) ⟨Hu.s,trivial⟩
def Gi.e (k:Nat):Ent:=⟨1,[(.val false (.i .i64))],[(.agg,t41)],λ x=>Gi x⟩
def Gi.d:Fd := { nt:=9,nv:=1,nm:=[0,1],res:=[],cs:=λ k=>[(72,A6.e k)] }
def Gi.s (k:Nat):CK 204 (Gi.e k):=mS Gi.d k [] Tryz.func204 ⟨A6.s k,trivial⟩ trivial
def Ci.e (k:Nat):Ent:=⟨3,[(.val false t22),(.val false (.i .i64)),(.val false (.i .i64))],[(.agg,t49)],λ x=>Ci k x.1 x.2.1 x.2.2⟩
def Ei.p:LF:=⟨⟨[(6,(.bp 6 0 0)),(9,(.bp 9 0 0)),(7999,(.hd 9)),(10999,(.hd 9))],[(0,t22),(10,(.i .i64)),(7000,t50),(10000,t49)]⟩,[((.exit 0),⟨[(6,(.bp 6 0 0)),(9,(.bp 9 0 0)),(7999,(.hd 9)),(10999,(.hd 9))],[(7000,t50),(10000,t49)]⟩)],λ k x=>Ei k x.1 x.2.1 x.2.2.1 x.2.2.2⟩
def Ci.d:Fd := { nt:=44,nv:=3,nm:=[0,1,2,3,4,5,7,8,9,10],res:=[],cs:=λ k=>[(203,Gn.e k),(204,Gi.e k)],ls:=[(6,Ei.p)],mv:=[43],rf:=true }
def Ci.a (k:Nat):AC (Ci.d.cs k):=⟨Gn.s k,Gi.s k,trivial⟩
def Ei.s:LL Tryz.f159 Ci.d 6 Ei.p:=mL [] Ci.a trivial
def Ci.s (k:Nat):CK 159 (Ci.e k):=mS Ci.d k [6] Tryz.func159 (Ci.a k) ⟨Ei.s,trivial⟩
def Jm.e (k:Nat):Ent:=⟨1,[(.ptr t21 t21)],[(.agg,t49)],λ x=>Jm k x⟩
def Jm.d:Fd := { nt:=22,nv:=1,nm:=[0,1,3,4],res:=[],cs:=λ k=>[(127,A9.e k),(158,Gc.e k),(159,Ci.e k)],rf:=true }
def Jm.s (k:Nat):CK 101 (Jm.e k):=mS Jm.d k [] Tryz.func101 ⟨A9.s k,Gc.s k,Ci.s k,trivial⟩ trivial
def Al.e (k:Nat):Ent:=⟨1,[(.val false .s)],[(.one,.b)],λ x=>Al k x⟩
def Cz.p:LF:=⟨⟨[],[(0,.s),(3,(.i .i64))]⟩,[(.ret,⟨[],[(2,.b)]⟩),((.exit 0),⟨[],[(0,.s)]⟩)],λ k x=>Cz k x.1 x.2⟩
def Al.d:Fd := { nt:=38,nv:=1,nm:=[0,1,3,4],res:=[2],cs:=λ k=>[(72,A6.e k)],ls:=[(2,Cz.p)] }
def Al.a (k:Nat):AC (Al.d.cs k):=⟨A6.s k,trivial⟩
def Cz.s:LL Tryz.f67 Al.d 2 Cz.p:=mL [] Al.a trivial
def Al.s (k:Nat):CK 67 (Al.e k):=mS Al.d k [2] Tryz.func67 (Al.a k) ⟨Cz.s,trivial⟩
def C9.e (k:Nat):Ent:=⟨1,[(.val true t16)],[(.one,.b)],λ x=>C9 x⟩
def C9.d:Fd := { nt:=16,nv:=1,nm:=[0,1],res:=[2],cs:=λ k=>[(72,A6.e k)] }
def C9.s (k:Nat):CK 66 (C9.e k):=mS C9.d k [] Tryz.func66 ⟨A6.s k,trivial⟩ trivial
def Gu.e (k:Nat):Ent:=⟨3,[(.val true t16),(.val false (.i .i64)),(.val false (.i .i64))],[(.agg,t16)],λ x=>Gu x.1 x.2.1 x.2.2⟩
def Gu.d:Fd := { nt:=27,nv:=3,nm:=[0,1,2,3,4,5,7],res:=[],cs:=λ k=>[(66,C9.e k)],rf:=true }
def Gu.s (k:Nat):CK 205 (Gu.e k):=mS Gu.d k [] Tryz.func205 ⟨C9.s k,trivial⟩ trivial
def Bp.e (k:Nat):Ent:=⟨1,[(.val true t25)],[(.agg,t26)],λ x=>Bp x⟩
def Bp.d:Fd := { nt:=9,nv:=1,nm:=[0,1],res:=[],mv:=[8],rf:=true }
def Bp.s (k:Nat):CK 138 (Bp.e k):=mS Bp.d k [] Tryz.func138 trivial trivial
def C7.e (k:Nat):Ent:=⟨2,[(.val false t6),(.val false (.i .i64))],[(.one,(.i .i64))],λ x=>C7 x.1 x.2⟩
def C7.d:Fd := { nt:=21,nv:=2,nm:=[0,1,2,3],res:=[4],cs:=λ k=>[(72,A6.e k)],rf:=true }
def C7.s (k:Nat):CK 141 (C7.e k):=mS C7.d k [] Tryz.func141 ⟨A6.s k,trivial⟩ trivial
def Bd.e (k:Nat):Ent:=⟨2,[(.val true t48),(.val false t6)],[(.one,t7)],λ x=>Bd k x.1 x.2⟩
def Cc.p:LF:=⟨⟨[(2,(.bp 2 0 0)),(3999,(.hd 9))],[(1,t6),(5,t7),(6,(.i .i64)),(7,(.i .i64)),(3000,t48)]⟩,[((.exit 2),⟨[(2,(.bp 2 0 0)),(3999,(.hd 9))],[(1,t6),(5,t7),(6,(.i .i64)),(3000,t48)]⟩)],λ k x=>Cc k x.1 x.2.1 x.2.2.1 x.2.2.2.1 x.2.2.2.2⟩
def Dj.p:LF:=⟨⟨[(2,(.bp 2 0 0)),(3999,(.hd 9))],[(1,t6),(5,t7),(6,(.i .i64)),(3000,t48)]⟩,[((.exit 0),⟨[],[(5,t7)]⟩)],λ k x=>Dj k x.1 x.2.1 x.2.2.1 x.2.2.2⟩
def Bd.d:Fd := { nt:=38,nv:=2,nm:=[0,1,2,3,5,6,7],res:=[4],ls:=[(6,Cc.p),(3,Dj.p)],rf:=true }
def Cc.s:LL Tryz.f139 Bd.d 6 Cc.p:=mL [] (λ _=>trivial) trivial
def Dj.s:LL Tryz.f139 Bd.d 3 Dj.p:=mL [6] (λ _=>trivial) ⟨Cc.s,trivial⟩
def Bd.s (k:Nat):CK 139 (Bd.e k):=mS Bd.d k [3] Tryz.func139 trivial ⟨Dj.s,trivial⟩
def La.e (k:Nat):Ent:=⟨1,[(.val false .s)],[(.one,(.i .i64))],λ x=>La k x⟩
def Iw.p:LF:=⟨⟨[],[(0,.s),(3,(.i .i64)),(4,(.i .i64))]⟩,[((.exit 0),⟨[],[(3,(.i .i64))]⟩)],λ k x=>Iw k x.1 x.2.1 x.2.2⟩
def La.d:Fd := { nt:=20,nv:=1,nm:=[0,1,3,4],res:=[2],ls:=[(3,Iw.p)],rf:=true }
def Iw.s:LL Tryz.f232 La.d 3 Iw.p:=mL [] (λ _=>trivial) trivial
def La.s (k:Nat):CK 232 (La.e k):=mS La.d k [3] Tryz.func232 trivial ⟨Iw.s,trivial⟩
def Kf.e (k:Nat):Ent:=⟨2,[(.val false .s),(.val false (.i .i64))],[(.one,(.i .i64))],λ x=>Kf k x.1 x.2⟩
def Kf.d:Fd := { nt:=11,nv:=2,nm:=[0,1,2,3],res:=[4],cs:=λ k=>[(232,La.e k)],rf:=true }
def Kf.s (k:Nat):CK 193 (Kf.e k):=mS Kf.d k [] Tryz.func193 ⟨La.s k,trivial⟩ trivial
def Be.e (k:Nat):Ent:=⟨2,[(.val true t17),(.val false .s)],[(.one,t7)],λ x=>Be k x.1 x.2⟩
def Be.d:Fd := { nt:=22,nv:=2,nm:=[0,1,2,3],res:=[4],cs:=λ k=>[(193,Kf.e k)],rf:=true }
def Be.s (k:Nat):CK 140 (Be.e k):=mS Be.d k [] Tryz.func140 ⟨Kf.s k,trivial⟩ trivial
def Cj.e (k:Nat):Ent:=⟨3,[(.val true t17),(.val false t22),(.val false .s)],[(.one,t7)],λ x=>Cj k x.1 x.2.1 x.2.2⟩
def Ce.p:LF:=⟨⟨[],[(1,t22),(7,t7),(8,t7),(9,t7),(10,(.i .i64)),(11,(.i .i64))]⟩,[((.exit 2),⟨[],[(1,t22),(7,t7),(8,t7),(9,t7),(10,(.i .i64))]⟩)],λ k x=>Ce k x.1 x.2.1 x.2.2.1 x.2.2.2.1 x.2.2.2.2.1 x.2.2.2.2.2⟩
def Ej.p:LF:=⟨⟨[],[(1,t22),(7,t7),(8,t7),(9,t7),(10,(.i .i64))]⟩,[((.exit 0),⟨[],[(9,t7)]⟩)],λ k x=>Ej k x.1 x.2.1 x.2.2.1 x.2.2.2.1 x.2.2.2.2⟩
def Cj.d:Fd := { nt:=58,nv:=3,nm:=[0,1,2,3,4,5,7,8,9,10,11],res:=[6],cs:=λ k=>[(140,Be.e k),(181,Cl.e k),(254,Ct.e k)],ls:=[(8,Ce.p),(5,Ej.p)],rf:=true }
def Cj.a (k:Nat):AC (Cj.d.cs k):=⟨Be.s k,Cl.s k,Ct.s k,trivial⟩
def Ce.s:LL Tryz.f256 Cj.d 8 Ce.p:=mL [] Cj.a trivial
def Ej.s:LL Tryz.f256 Cj.d 5 Ej.p:=mL [8] Cj.a ⟨Ce.s,trivial⟩
def Cj.s (k:Nat):CK 256 (Cj.e k):=mS Cj.d k [5] Tryz.func256 (Cj.a k) ⟨Ej.s,trivial⟩
def Ek.e (k:Nat):Ent:=⟨2,[(.val true t48),(.val false .s)],[(.one,t7)],λ x=>Ek k x.1 x.2⟩
def Ek.d:Fd := { nt:=20,nv:=2,nm:=[0,1,2,3],res:=[4],cs:=λ k=>[(139,Bd.e k),(140,Be.e k),(256,Cj.e k)],rf:=true }
def Ek.s (k:Nat):CK 235 (Ek.e k):=mS Ek.d k [] Tryz.func235 ⟨Bd.s k,Be.s k,Cj.s k,trivial⟩ trivial
def D7.e (k:Nat):Ent:=⟨2,[(.val false t13),(.val false .s)],[(.one,(.i .i64))],λ x=>D7 k x.1 x.2⟩
def Ix.p:LF:=⟨⟨[],[(0,t13),(1,.s),(5,(.i .i64))]⟩,[(.ret,⟨[],[(4,(.i .i64))]⟩),((.exit 0),⟨[],[]⟩)],λ k x=>Ix k x.1 x.2.1 x.2.2⟩
def D7.d:Fd := { nt:=20,nv:=2,nm:=[0,1,2,3,5],res:=[4],ls:=[(2,Ix.p)] }
def Ix.s:LL Tryz.f129 D7.d 2 Ix.p:=mL [] (λ _=>trivial) trivial
def D7.s (k:Nat):CK 129 (D7.e k):=mS D7.d k [2] Tryz.func129 trivial ⟨Ix.s,trivial⟩
def Fb.e (k:Nat):Ent:=⟨2,[(.val true t28),(.val false .s)],[(.one,t5),(.one,.b)],λ x=>Fb k x.1 x.2⟩
def Fb.d:Fd := { nt:=22,nv:=2,nm:=[0,1,2,3,6],res:=[4,5],cs:=λ k=>[(129,D7.e k)] }
def Fb.s (k:Nat):CK 116 (Fb.e k):=mS Fb.d k [] Tryz.func116 ⟨D7.s k,trivial⟩ trivial
def C2.e (k:Nat):Ent:=⟨1,[(.val true t25)],[(.one,.b)],λ x=>C2 x⟩
def C2.d:Fd := { nt:=23,nv:=1,nm:=[0,1],res:=[2],cs:=λ k=>[(66,C9.e k)] }
def C2.s (k:Nat):CK 68 (C2.e k):=mS C2.d k [] Tryz.func68 ⟨C9.s k,trivial⟩ trivial
def Dk.e (k:Nat):Ent:=⟨2,[(.val false t4),(.val false (.i .i64))],[(.one,(.i .i64)),(.one,(.i .i64)),(.one,.b)],λ x=>Dk k x.1 x.2⟩
def F4.p:LF:=⟨⟨[],[(0,t4),(1,(.i .i64)),(7,(.i .i64)),(8,(.i .i64))]⟩,[(.ret,⟨[],[(4,(.i .i64)),(5,(.i .i64)),(6,.b)]⟩),((.exit 0),⟨[],[]⟩)],λ k x=>F4 k x.1 x.2.1 x.2.2.1 x.2.2.2⟩
def Dk.d:Fd := { nt:=64,nv:=2,nm:=[0,1,2,3,7,8,9],res:=[4,5,6],ls:=[(3,F4.p)] }
def F4.s:LL Tryz.f173 Dk.d 3 F4.p:=mL [] (λ _=>trivial) trivial
def Dk.s (k:Nat):CK 173 (Dk.e k):=mS Dk.d k [3] Tryz.func173 trivial ⟨F4.s,trivial⟩
def Fk.e (k:Nat):Ent:=⟨2,[(.val false t4),(.val false (.i .i64))],[(.agg,t16),(.one,(.i .i64)),(.one,.b)],λ x=>Fk k x.1 x.2⟩
def Fk.d:Fd := { nt:=49,nv:=2,nm:=[0,1,2,3,7,8,9,10,11,12,13,14,15],res:=[5,6],cs:=λ k=>[(173,Dk.e k)] }
def Fk.s (k:Nat):CK 172 (Fk.e k):=mS Fk.d k [] Tryz.func172 ⟨Dk.s k,trivial⟩ trivial
def Iy.e (k:Nat):Ent:=⟨2,[(.val false t4),(.val false (.i .i64))],[(.one,.s),(.one,(.i .i64)),(.one,.b)],λ x=>Iy k x.1 x.2⟩
def Iy.d:Fd := { nt:=37,nv:=2,nm:=[0,1,2,3,7,8,9],res:=[4,5,6],cs:=λ k=>[(173,Dk.e k)] }
def Iy.s (k:Nat):CK 174 (Iy.e k):=mS Iy.d k [] Tryz.func174 ⟨Dk.s k,trivial⟩ trivial
def Dl.e (k:Nat):Ent:=⟨2,[(.val false t4),(.val false (.i .i64))],[(.one,t5)],λ x=>Dl k x.1 x.2⟩
def D0.p:LF:=⟨⟨[],[(1,(.i .i64)),(5,t5)]⟩,[((.exit 0),⟨[],[(1,(.i .i64)),(5,t5)]⟩)],λ k x=>D0 k x.1 x.2⟩
def Dl.d:Fd := { nt:=29,nv:=2,nm:=[0,1,2,3,5],res:=[4],ls:=[(6,D0.p)] }
def D0.s:LL Tryz.f218 Dl.d 6 D0.p:=mL [] (λ _=>trivial) trivial
def Dl.s (k:Nat):CK 218 (Dl.e k):=mS Dl.d k [6] Tryz.func218 trivial ⟨D0.s,trivial⟩
def Iz.e (k:Nat):Ent:=⟨2,[(.val false t4),(.val false .s)],[(.one,t5)],λ x=>Iz k x.1 x.2⟩
def Iz.d:Fd := { nt:=11,nv:=2,nm:=[0,1,2,3],res:=[4],cs:=λ k=>[(218,Dl.e k)] }
def Iz.s (k:Nat):CK 217 (Iz.e k):=mS Iz.d k [] Tryz.func217 ⟨Dl.s k,trivial⟩ trivial
def J0.e (k:Nat):Ent:=⟨2,[(.val false t4),(.val true t16)],[(.one,t5)],λ x=>J0 k x.1 x.2⟩
def J0.d:Fd := { nt:=15,nv:=2,nm:=[0,1,2,3],res:=[4],cs:=λ k=>[(218,Dl.e k)] }
def J0.s (k:Nat):CK 219 (J0.e k):=mS J0.d k [] Tryz.func219 ⟨Dl.s k,trivial⟩ trivial
def Kg.e (k:Nat):Ent:=⟨1,[(.val false .b)],[(.one,(.i .i64))],λ x=>Kg x⟩
def Kg.d:Fd := { nt:=4,nv:=1,nm:=[0,1],res:=[2] }
def Kg.s (k:Nat):CK 220 (Kg.e k):=mS Kg.d k [] Tryz.func220 trivial trivial
def L6.e (k:Nat):Ent:=⟨1,[(.val false t4)],[(.one,(.i .i64))],λ x=>L6 k x⟩
def Hf.p:LF:=⟨⟨[],[(0,t4),(3,(.i .i64)),(4,(.i .i64)),(5,(.i .i64))]⟩,[((.exit 2),⟨[],[(0,t4),(3,(.i .i64)),(4,(.i .i64))]⟩)],λ k x=>Hf k x.1 x.2.1 x.2.2.1 x.2.2.2⟩
def Hv.p:LF:=⟨⟨[],[(0,t4),(3,(.i .i64)),(4,(.i .i64))]⟩,[((.exit 0),⟨[],[(3,(.i .i64))]⟩)],λ k x=>Hv k x.1 x.2.1 x.2.2⟩
def L6.d:Fd := { nt:=34,nv:=1,nm:=[0,1,3,4,5,6],res:=[2],ls:=[(7,Hf.p),(3,Hv.p)] }
def Hf.s:LL Tryz.f221 L6.d 7 Hf.p:=mL [] (λ _=>trivial) trivial
def Hv.s:LL Tryz.f221 L6.d 3 Hv.p:=mL [7] (λ _=>trivial) ⟨Hf.s,trivial⟩
def L6.s (k:Nat):CK 221 (L6.e k):=mS L6.d k [3] Tryz.func221 trivial ⟨Hv.s,trivial⟩
def B9.e (k:Nat):Ent:=⟨1,[(.val true t25)],[(.one,t5)],λ x=>B9 k x⟩
def B9.d:Fd := { nt:=37,nv:=1,nm:=[0,1,3,4],res:=[2],cs:=λ k=>[(68,C2.e k),(217,Iz.e k),(218,Dl.e k),(219,J0.e k),(220,Kg.e k),(221,L6.e k)] }
def B9.s (k:Nat):CK 175 (B9.e k):=mS B9.d k [] Tryz.func175 ⟨C2.s k,Iz.s k,Dl.s k,J0.s k,Kg.s k,L6.s k,trivial⟩ trivial
def Gj.e (k:Nat):Ent:=⟨1,[(.val false t4)],[(.agg,t26),(.one,.b)],λ x=>Gj k x⟩
def Gj.d:Fd := { nt:=76,nv:=1,nm:=[0,1,4,5,6,7,8,9,10,11,12,13],res:=[3],cs:=λ k=>[(68,C2.e k),(172,Fk.e k),(173,Dk.e k),(174,Iy.e k),(175,B9.e k)],mv:=[75] }
def Gj.s (k:Nat):CK 117 (Gj.e k):=mS Gj.d k [] Tryz.func117 ⟨C2.s k,Fk.s k,Dk.s k,Iy.s k,B9.s k,trivial⟩ trivial
def Hm.e (k:Nat):Ent:=⟨2,[(.val true t28),(.val false .s)],[(.agg,t26),(.one,(.i .i64))],λ x=>Hm k x.1 x.2⟩
def Hm.d:Fd := { nt:=28,nv:=2,nm:=[0,1,2,3,6,7,8,9],res:=[5],cs:=λ k=>[(116,Fb.e k),(117,Gj.e k)],mv:=[27] }
def Hm.s (k:Nat):CK 59 (Hm.e k):=mS Hm.d k [] Tryz.func59 ⟨Fb.s k,Gj.s k,trivial⟩ trivial
def Ca.e (k:Nat):Ent:=⟨2,[(.val true t16),(.val true t16)],[(.one,.b)],λ x=>Ca x.1 x.2⟩
def Ca.d:Fd := { nt:=32,nv:=2,nm:=[0,1,2,3],res:=[4] }
def Ca.s (k:Nat):CK 69 (Ca.e k):=mS Ca.d k [] Tryz.func69 trivial trivial
def Kl.e (k:Nat):Ent:=⟨2,[(.val true t25),(.val true t25)],[(.one,.b)],λ x=>Kl x.1 x.2⟩
def Kl.d:Fd := { nt:=10,nv:=2,nm:=[0,1,2,3],res:=[4],cs:=λ k=>[(69,Ca.e k)] }
def Kl.s (k:Nat):CK 60 (Kl.e k):=mS Kl.d k [] Tryz.func60 ⟨Ca.s k,trivial⟩ trivial
def Bf.e (k:Nat):Ent:=⟨1,[(.val false t13)],[(.one,t14)],λ x=>Bf k x⟩
def Cf.p:LF:=⟨⟨[],[(0,t13),(3,t14),(4,(.i .i64))]⟩,[((.exit 0),⟨[],[(3,t14)]⟩)],λ k x=>Cf k x.1 x.2.1 x.2.2⟩
def Bf.d:Fd := { nt:=29,nv:=1,nm:=[0,1,3,4],res:=[2],ls:=[(3,Cf.p)] }
def Cf.s:LL Tryz.f231 Bf.d 3 Cf.p:=mL [] (λ _=>trivial) trivial
def Bf.s (k:Nat):CK 231 (Bf.e k):=mS Bf.d k [3] Tryz.func231 trivial ⟨Cf.s,trivial⟩
def G8.e (k:Nat):Ent:=⟨1,[(.val false t13)],[(.one,t15)],λ x=>G8 k x⟩
def Ia.p:LF:=⟨⟨[],[(0,t13),(3,t15),(4,(.i .i64))]⟩,[((.exit 0),⟨[],[(3,t15)]⟩)],λ k x=>Ia k x.1 x.2.1 x.2.2⟩
def G8.d:Fd := { nt:=29,nv:=1,nm:=[0,1,3,4],res:=[2],ls:=[(3,Ia.p)],hint:=[(5,t12),(26,t12),(27,t12)] }
def Ia.s:LL Tryz.f231 G8.d 3 Ia.p:=mL [] (λ _=>trivial) trivial
def G8.s (k:Nat):CK 231 (G8.e k):=mS G8.d k [3] Tryz.func231 trivial ⟨Ia.s,trivial⟩
def A7.e (k:Nat):Ent:=⟨1,[(.val true t28)],[(.agg,t29)],λ x=>A7 k x⟩
def A7.d:Fd := { nt:=10,nv:=1,nm:=[0,1],res:=[],cs:=λ k=>[(231,Bf.e k)] }
def A7.s (k:Nat):CK 192 (A7.e k):=mS A7.d k [] Tryz.func192 ⟨Bf.s k,trivial⟩ trivial
def Je.e (k:Nat):Ent:=⟨1,[(.val true t28)],[(.agg,t30)],λ x=>Je k x⟩
def Je.d:Fd := { nt:=10,nv:=1,nm:=[0,1],res:=[],cs:=λ k=>[(231,G8.e k)] }
def Je.s (k:Nat):CK 192 (Je.e k):=mS Je.d k [] Tryz.func192 ⟨G8.s k,trivial⟩ trivial
def Il.e (k:Nat):Ent:=⟨2,[(.val false t13),(.val false .s)],[(.one,t14)],λ x=>Il k x.1 x.2⟩
def Ha.p:LF:=⟨⟨[],[(0,t13),(1,.s),(5,t14),(6,(.i .i64))]⟩,[((.exit 0),⟨[],[(5,t14)]⟩)],λ k x=>Ha k x.1 x.2.1 x.2.2.1 x.2.2.2⟩
def Il.d:Fd := { nt:=29,nv:=2,nm:=[0,1,2,3,5,6],res:=[4],ls:=[(3,Ha.p)] }
def Ha.s:LL Tryz.f195 Il.d 3 Ha.p:=mL [] (λ _=>trivial) trivial
def Il.s (k:Nat):CK 195 (Il.e k):=mS Il.d k [3] Tryz.func195 trivial ⟨Ha.s,trivial⟩
def Fl.e (k:Nat):Ent:=⟨1,[(.val false t13)],[(.one,.b)],λ x=>Fl k x⟩
def G3.p:LF:=⟨⟨[],[(0,t13),(3,(.i .i64))]⟩,[(.ret,⟨[],[(2,.b)]⟩),((.exit 0),⟨[],[(0,t13)]⟩)],λ k x=>G3 k x.1 x.2⟩
def Fl.d:Fd := { nt:=47,nv:=1,nm:=[0,1,3],res:=[2],cs:=λ k=>[(67,Al.e k)],ls:=[(2,G3.p)] }
def Fl.a (k:Nat):AC (Fl.d.cs k):=⟨Al.s k,trivial⟩
def G3.s:LL Tryz.f225 Fl.d 2 G3.p:=mL [] Fl.a trivial
def Fl.s (k:Nat):CK 225 (Fl.e k):=mS Fl.d k [2] Tryz.func225 (Fl.a k) ⟨G3.s,trivial⟩
def Bj.e (k:Nat):Ent:=⟨1,[(.val true t28)],[(.one,.b)],λ x=>Bj k x⟩
def Bj.d:Fd := { nt:=11,nv:=1,nm:=[0,1],res:=[2],cs:=λ k=>[(225,Fl.e k)] }
def Bj.s (k:Nat):CK 183 (Bj.e k):=mS Bj.d k [] Tryz.func183 ⟨Fl.s k,trivial⟩ trivial
def Ea.e (k:Nat):Ent:=⟨3,[(.val true t28),(.val true t29),(.val false .s)],[(.agg,t29),(.one,.b)],λ x=>Ea k x.1 x.2.1 x.2.2⟩
def Ea.d:Fd := { nt:=24,nv:=3,nm:=[0,1,2,3,4,5],res:=[7],cs:=λ k=>[(67,Al.e k),(183,Bj.e k),(192,A7.e k)],mv:=[23] }
def Ea.s (k:Nat):CK 196 (Ea.e k):=mS Ea.d k [] Tryz.func196 ⟨Al.s k,Bj.s k,A7.s k,trivial⟩ trivial
def Ff.e (k:Nat):Ent:=⟨3,[(.val false t13),(.val false .s),(.val false t4)],[(.one,t14)],λ x=>Ff k x.1 x.2.1 x.2.2⟩
def Ck.p:LF:=⟨⟨[(9,(.bp 9 0 0)),(10999,(.hd 2))],[(0,t13),(1,.s),(7,t14),(8,.b),(10,(.i .i64)),(10000,.s),(10001,t4)]⟩,[((.exit 0),⟨[(9,(.bp 9 0 0)),(10999,(.hd 2))],[(7,t14),(8,.b),(10000,.s),(10001,t4)]⟩)],λ k x=>Ck k x.1 x.2.1 x.2.2.1 x.2.2.2.1 x.2.2.2.2.1 x.2.2.2.2.2.1 x.2.2.2.2.2.2⟩
def Ff.d:Fd := { nt:=59,nv:=3,nm:=[0,1,2,3,4,5,7,8,9,10],res:=[6],ls:=[(5,Ck.p)] }
def Ck.s:LL Tryz.f197 Ff.d 5 Ck.p:=mL [] (λ _=>trivial) trivial
def Ff.s (k:Nat):CK 197 (Ff.e k):=mS Ff.d k [5] Tryz.func197 trivial ⟨Ck.s,trivial⟩
def Ah.e (k:Nat):Ent:=⟨2,[(.val true t28),(.val false .s)],[(.agg,t29),(.one,.b)],λ x=>Ah k x.1 x.2⟩
def Ah.d:Fd := { nt:=35,nv:=2,nm:=[0,1,2,3,6,7,8],res:=[5],cs:=λ k=>[(116,Fb.e k),(192,A7.e k),(195,Il.e k),(196,Ea.e k),(197,Ff.e k)] }
def Ah.s (k:Nat):CK 144 (Ah.e k):=mS Ah.d k [] Tryz.func144 ⟨Fb.s k,A7.s k,Il.s k,Ea.s k,Ff.s k,trivial⟩ trivial
def B3.e (k:Nat):Ent:=⟨3,[(.val true t28),(.val false .s),(.val false t4)],[(.agg,t29),(.one,.b)],λ x=>B3 k x.1 x.2.1 x.2.2⟩
def B3.d:Fd := { nt:=23,nv:=3,nm:=[0,1,2,3,4,5,8],res:=[7],cs:=λ k=>[(192,A7.e k),(196,Ea.e k),(197,Ff.e k)] }
def B3.s (k:Nat):CK 194 (B3.e k):=mS B3.d k [] Tryz.func194 ⟨A7.s k,Ea.s k,Ff.s k,trivial⟩ trivial
def Jc.e (k:Nat):Ent:=⟨4,[(.val true t28),(.val false .s),(.val true t25),(.val false .b)],[(.agg,t29),(.one,(.i .i64))],λ x=>Jc k x.1 x.2.1 x.2.2.1 x.2.2.2⟩
def Jc.d:Fd := { nt:=82,nv:=4,nm:=[0,1,2,3,4,5,6,7,10,11,12,13,14,15],res:=[9],cs:=λ k=>[(59,Hm.e k),(60,Kl.e k),(67,Al.e k),(68,C2.e k),(144,Ah.e k),(175,B9.e k),(183,Bj.e k),(192,A7.e k),(194,B3.e k)],mv:=[58,81] }
def Jc.s (k:Nat):CK 142 (Jc.e k):=mS Jc.d k [] Tryz.func142 ⟨Hm.s k,Kl.s k,Al.s k,C2.s k,Ah.s k,B9.s k,Bj.s k,A7.s k,B3.s k,trivial⟩ trivial
def Ib.e (k:Nat):Ent:=⟨2,[(.val false .s),(.val true t25)],[(.agg,t27)],λ x=>Ib x.1 x.2⟩
def Ib.d:Fd := { nt:=14,nv:=2,nm:=[0,1,2,3],res:=[] }
def Ib.s (k:Nat):CK 257 (Ib.e k):=mS Ib.d k [] Tryz.func257 trivial trivial
def Jn.e (k:Nat):Ent:=⟨4,[(.ptr t40 t40),(.val false .s),(.val true t25),(.val false .b)],[(.one,(.i .i64))],λ x=>Jn k x.1 x.2.1 x.2.2.1 x.2.2.2⟩
def Jn.d:Fd := { nt:=52,nv:=4,nm:=[0,1,2,3,4,5,6,7,9,10],res:=[8],cs:=λ k=>[(142,Jc.e k),(257,Ib.e k)] }
def Jn.s (k:Nat):CK 236 (Jn.e k):=mS Jn.d k [] Tryz.func236 ⟨Jc.s k,Ib.s k,trivial⟩ trivial
def Hw.e (k:Nat):Ent:=⟨4,[(.ptr t41 t42),(.val false .s),(.val true t25),(.val false .b)],[(.one,(.i .i64))],λ x=>Hw k x.1 x.2.1 x.2.2.1 x.2.2.2⟩
def Hw.d:Fd := { nt:=52,nv:=4,nm:=[0,1,2,3,4,5,6,7,9,10],res:=[8],cs:=λ k=>[(142,Jc.e k),(257,Ib.e k)] }
def Hw.s (k:Nat):CK 236 (Hw.e k):=mS Hw.d k [] Tryz.func236 ⟨Jc.s k,Ib.s k,trivial⟩ trivial
def Jo.e (k:Nat):Ent:=⟨1,[(.val false (.i .i64))],[(.one,(.i .i64))],λ x=>Jo x⟩
def Jo.d:Fd := { nt:=6,nv:=1,nm:=[0,1],res:=[2],rf:=true }
def Jo.s (k:Nat):CK 237 (Jo.e k):=mS Jo.d k [] Tryz.func237 trivial trivial
def C6.e (k:Nat):Ent:=⟨4,[(.ptr t51 t51),(.val false .s),(.val true t25),(.val false t6)],[(.one,(.i .i64))],λ x=>C6 k x.1 x.2.1 x.2.2.1 x.2.2.2⟩
def B4.p:LF:=⟨⟨[(0,(.bp 0 0 0)),(6,(.bp 6 0 0)),(1999,(.hd 9)),(7999,(.hd 5))],[(1,.s),(3,t6),(9,t7),(10,(.i .i64)),(11,(.i .i64)),(12,(.i .i64)),(1000,t51),(7000,t25)]⟩,[((.exit 0),⟨[(0,(.bp 0 0 0)),(6,(.bp 6 0 0)),(1999,(.hd 9)),(7999,(.hd 5))],[(1,.s),(11,(.i .i64)),(1000,t51),(7000,t25)]⟩)],λ k x=>B4 k x.1 x.2.1 x.2.2.1 x.2.2.2.1 x.2.2.2.2.1 x.2.2.2.2.2.1 x.2.2.2.2.2.2.1 x.2.2.2.2.2.2.2⟩
def C6.d:Fd := { nt:=92,nv:=4,nm:=[0,1,2,3,4,5,6,7,9,10,11,12,13,14,15],res:=[8],cs:=λ k=>[(138,Bp.e k),(141,C7.e k),(235,Ek.e k),(236,Jn.e k),(237,Jo.e k)],ls:=[(5,B4.p)],gh:=[(1000006,[.cl 1003])],opn:=[51],rf:=true }
def C6.a (k:Nat):AC (C6.d.cs k):=⟨Bp.s k,C7.s k,Ek.s k,Jn.s k,Jo.s k,trivial⟩
def B4.s:LL Tryz.f206 C6.d 5 B4.p:=mL [] C6.a trivial
def C6.s (k:Nat):CK 206 (C6.e k):=mS C6.d k [5] Tryz.func206 (C6.a k) ⟨B4.s,trivial⟩
def Hb.e (k:Nat):Ent:=⟨5,[(.ptr t51 t51),(.val false .s),(.val true t25),(.val false (.i .i64)),(.val false t6)],[(.one,(.i .i64))],λ x=>Hb k x.1 x.2.1 x.2.2.1 x.2.2.2.1 x.2.2.2.2⟩
def Hb.d:Fd := { nt:=57,nv:=5,nm:=[0,1,2,3,4,5,6,7,8,9],res:=[10],cs:=λ k=>[(67,Al.e k),(72,A6.e k),(205,Gu.e k),(206,C6.e k)],rf:=true }
def Hb.s (k:Nat):CK 160 (Hb.e k):=mS Hb.d k [] Tryz.func160 ⟨Al.s k,A6.s k,Gu.s k,C6.s k,trivial⟩ trivial
def Bg.e (k:Nat):Ent:=⟨2,[(.val true t28),(.val false .s)],[(.agg,t29),(.one,.b)],λ x=>Bg k x.1 x.2⟩
def Bg.d:Fd := { nt:=26,nv:=2,nm:=[0,1,2,3,6],res:=[5],cs:=λ k=>[(129,D7.e k),(192,A7.e k),(195,Il.e k),(196,Ea.e k)],mv:=[14] }
def Bg.s (k:Nat):CK 143 (Bg.e k):=mS Bg.d k [] Tryz.func143 ⟨D7.s k,A7.s k,Il.s k,Ea.s k,trivial⟩ trivial
def Co.e (k:Nat):Ent:=⟨4,[(.ptr t51 t51),(.val false (.i .i64)),(.val false .s),(.val false t6)],[(.one,.b)],λ x=>Co k x.1 x.2.1 x.2.2.1 x.2.2.2⟩
def Bl.p:LF:=⟨⟨[(0,(.bp 0 0 0)),(9,(.bp 9 0 0)),(1999,(.hd 9)),(10999,(.hd 5))],[(1,(.i .i64)),(2,.s),(3,t6),(11,t7),(12,.b),(13,.b),(14,(.i .i64)),(1000,t51),(10000,t25)]⟩,[((.exit 0),⟨[(0,(.bp 0 0 0)),(1999,(.hd 9))],[(1,(.i .i64)),(2,.s),(12,.b),(13,.b),(1000,t51)]⟩)],λ k x=>Bl k x.1 x.2.1 x.2.2.1 x.2.2.2.1 x.2.2.2.2.1 x.2.2.2.2.2.1 x.2.2.2.2.2.2.1 x.2.2.2.2.2.2.2.1 x.2.2.2.2.2.2.2.2⟩
def Co.d:Fd := { nt:=125,nv:=4,nm:=[0,1,2,3,4,5,6,7,9,10,11,12,13,14,15,16,17,18],res:=[8],cs:=λ k=>[(59,Hm.e k),(139,Bd.e k),(140,Be.e k),(141,C7.e k),(142,Jc.e k),(143,Bg.e k),(144,Ah.e k)],ls:=[(8,Bl.p)],rf:=true }
def Co.a (k:Nat):AC (Co.d.cs k):=⟨Hm.s k,Bd.s k,Be.s k,C7.s k,Jc.s k,Bg.s k,Ah.s k,trivial⟩
def Bl.s:LL Tryz.f81 Co.d 8 Bl.p:=mL [] Co.a trivial
def Co.s (k:Nat):CK 81 (Co.e k):=mS Co.d k [8] Tryz.func81 (Co.a k) ⟨Bl.s,trivial⟩
def Gk.e (k:Nat):Ent:=⟨1,[(.val true t48)],[(.one,t7)],λ x=>Gk k x⟩
def Gk.d:Fd := { nt:=8,nv:=1,nm:=[0,1],res:=[2],cs:=λ k=>[(139,Bd.e k),(140,Be.e k)],rf:=true }
def Gk.s (k:Nat):CK 200 (Gk.e k):=mS Gk.d k [] Tryz.func200 ⟨Bd.s k,Be.s k,trivial⟩ trivial
def J1.e (k:Nat):Ent:=⟨2,[(.val true t27),(.val true t27)],[(.one,.b)],λ x=>J1 x.1 x.2⟩
def J1.d:Fd := { nt:=29,nv:=2,nm:=[0,1,2,3],res:=[4],cs:=λ k=>[(69,Ca.e k)] }
def J1.s (k:Nat):CK 260 (J1.e k):=mS J1.d k [] Tryz.func260 ⟨Ca.s k,trivial⟩ trivial
def Br.e (k:Nat):Ent:=⟨2,[(.val false t31),(.val true t27)],[(.one,t32)],λ x=>Br k x.1 x.2⟩
def Dm.p:LF:=⟨⟨[(3,(.bp 3 0 0)),(4999,(.hd 6))],[(5,t32),(7,(.i .i64)),(4000,.s),(4001,(.i .i64)),(4002,(.i .i64)),(4003,(.i .i64)),(4004,.b),(4005,(.i .i64))]⟩,[((.exit 2),⟨[(3,(.bp 3 0 0)),(4999,(.hd 6))],[(5,t32),(7,(.i .i64)),(4000,.s),(4001,(.i .i64)),(4002,(.i .i64)),(4003,(.i .i64)),(4004,.b),(4005,(.i .i64))]⟩)],λ k x=>Dm k x.1 x.2.1 x.2.2.1 x.2.2.2.1 x.2.2.2.2.1 x.2.2.2.2.2.1 x.2.2.2.2.2.2.1 x.2.2.2.2.2.2.2⟩
def El.p:LF:=⟨⟨[(3,(.bp 3 0 0)),(4999,(.hd 6))],[(5,t32),(6,(.i .i64)),(4000,.s),(4001,(.i .i64)),(4002,(.i .i64)),(4003,(.i .i64)),(4004,.b),(4005,(.i .i64))]⟩,[(.ret,⟨[],[(4,t32)]⟩),((.exit 0),⟨[(3,(.bp 3 0 0)),(4999,(.hd 6))],[(5,t32),(4000,.s),(4001,(.i .i64)),(4002,(.i .i64)),(4003,(.i .i64)),(4004,.b),(4005,(.i .i64))]⟩)],λ k x=>El k x.1 x.2.1 x.2.2.1 x.2.2.2.1 x.2.2.2.2.1 x.2.2.2.2.2.1 x.2.2.2.2.2.2.1 x.2.2.2.2.2.2.2⟩
def Br.d:Fd := { nt:=70,nv:=2,nm:=[0,1,2,3,5,6,7],res:=[4],cs:=λ k=>[(260,J1.e k)],ls:=[(11,Dm.p),(3,El.p)] }
def Br.a (k:Nat):AC (Br.d.cs k):=⟨J1.s k,trivial⟩
def Dm.s:LL Tryz.f253 Br.d 11 Dm.p:=mL [] Br.a trivial
def El.s:LL Tryz.f253 Br.d 3 El.p:=mL [] Br.a trivial
def Br.s (k:Nat):CK 253 (Br.e k):=mS Br.d k [3,11] Tryz.func253 (Br.a k) ⟨El.s,Dm.s,trivial⟩
def C0.e (k:Nat):Ent:=⟨2,[(.val false t31),(.val false t31)],[(.one,t32)],λ x=>C0 k x.1 x.2⟩
def Dn.p:LF:=⟨⟨[],[(1,t31),(5,t32),(6,(.i .i64))]⟩,[((.exit 0),⟨[],[(5,t32)]⟩)],λ k x=>Dn k x.1 x.2.1 x.2.2⟩
def C0.d:Fd := { nt:=23,nv:=2,nm:=[0,1,2,3,5,6],res:=[4],cs:=λ k=>[(253,Br.e k)],ls:=[(3,Dn.p)] }
def C0.a (k:Nat):AC (C0.d.cs k):=⟨Br.s k,trivial⟩
def Dn.s:LL Tryz.f233 C0.d 3 Dn.p:=mL [] C0.a trivial
def C0.s (k:Nat):CK 233 (C0.e k):=mS C0.d k [3] Tryz.func233 (C0.a k) ⟨Dn.s,trivial⟩
def Hn.e (k:Nat):Ent:=⟨2,[(.ptr t40 t40),(.val false t31)],[(.one,.b)],λ x=>Hn k x.1 x.2⟩
def Hn.d:Fd := { nt:=19,nv:=2,nm:=[0,1,2,3,5],res:=[4],cs:=λ k=>[(233,C0.e k)] }
def Hn.s (k:Nat):CK 201 (Hn.e k):=mS Hn.d k [] Tryz.func201 ⟨C0.s k,trivial⟩ trivial
def Gv.e (k:Nat):Ent:=⟨2,[(.ptr t41 t43),(.val false t31)],[(.one,.b)],λ x=>Gv k x.1 x.2⟩
def Gv.d:Fd := { nt:=19,nv:=2,nm:=[0,1,2,3,5],res:=[4],cs:=λ k=>[(233,C0.e k)] }
def Gv.s (k:Nat):CK 201 (Gv.e k):=mS Gv.d k [] Tryz.func201 ⟨C0.s k,trivial⟩ trivial
def Bs.e (k:Nat):Ent:=⟨5,[(.ptr t51 t51),(.val false (.i .i64)),(.val false t31),(.val false .b),(.val false t6)],[(.one,.b)],λ x=>Bs k x.1 x.2.1 x.2.2.1 x.2.2.2.1 x.2.2.2.2⟩
def Ai.p:LF:=⟨⟨[(0,(.bp 0 0 0)),(1999,(.hd 9))],[(1,(.i .i64)),(2,t31),(3,.b),(4,t6),(11,t7),(12,.b),(13,(.i .i64)),(1000,t51)]⟩,[((.exit 0),⟨[(1999,(.hd 9))],[(12,.b),(1000,t51)]⟩)],λ k x=>Ai k x.1 x.2.1 x.2.2.1 x.2.2.2.1 x.2.2.2.2.1 x.2.2.2.2.2.1 x.2.2.2.2.2.2.1 x.2.2.2.2.2.2.2⟩
def Bs.d:Fd := { nt:=53,nv:=5,nm:=[0,1,2,3,4,5,6,7,8,9,11,12,13],res:=[10],cs:=λ k=>[(141,C7.e k),(200,Gk.e k),(201,Hn.e k)],ls:=[(4,Ai.p)],gh:=[(1000005,[.cl 1003])],opn:=[47],rf:=true }
def Bs.a (k:Nat):AC (Bs.d.cs k):=⟨C7.s k,Gk.s k,Hn.s k,trivial⟩
def Ai.s:LL Tryz.f154 Bs.d 4 Ai.p:=mL [] Bs.a trivial
def Bs.s (k:Nat):CK 154 (Bs.e k):=mS Bs.d k [4] Tryz.func154 (Bs.a k) ⟨Ai.s,trivial⟩
def D5.e (k:Nat):Ent:=⟨3,[(.ptr t51 t51),(.val false (.i .i64)),(.val false t6)],[(.one,.b)],λ x=>D5 k x.1 x.2.1 x.2.2⟩
def D5.d:Fd := { nt:=36,nv:=3,nm:=[0,1,2,3,4,5,7],res:=[6],cs:=λ k=>[(154,Bs.e k)],rf:=true }
def D5.s (k:Nat):CK 91 (D5.e k):=mS D5.d k [] Tryz.func91 ⟨Bs.s k,trivial⟩ trivial
def Iq.e (k:Nat):Ent:=⟨2,[(.val true t48),(.val false (.i .i64))],[(.one,.b)],λ x=>Iq k x.1 x.2⟩
def Iq.d:Fd := { nt:=9,nv:=2,nm:=[0,1,2,3],res:=[4],cs:=λ k=>[(181,Cl.e k),(200,Gk.e k)],rf:=true }
def Iq.s (k:Nat):CK 155 (Iq.e k):=mS Iq.d k [] Tryz.func155 ⟨Cl.s k,Gk.s k,trivial⟩ trivial
def D6.e (k:Nat):Ent:=⟨3,[(.ptr t51 t51),(.val false (.i .i64)),(.val false t6)],[(.one,.b)],λ x=>D6 k x.1 x.2.1 x.2.2⟩
def D6.d:Fd := { nt:=47,nv:=3,nm:=[0,1,2,3,4,5,7],res:=[6],cs:=λ k=>[(154,Bs.e k),(155,Iq.e k)],rf:=true }
def D6.s (k:Nat):CK 93 (D6.e k):=mS D6.d k [] Tryz.func93 ⟨Bs.s k,Iq.s k,trivial⟩ trivial
def Ic.e (k:Nat):Ent:=⟨1,[(.val true t28)],[(.agg,t29),(.one,(.i .i64))],λ x=>Ic k x⟩
def Hc.p:LF:=⟨⟨[(1,(.bp 1 0 0)),(2,(.bp 2 0 0)),(4,(.bp 4 0 0)),(2999,(.hd 2)),(3999,(.hd 2)),(5999,(.hd 2))],[(5,(.i .i64)),(6,(.i .i64)),(2000,t28),(3000,t29),(5000,t29)]⟩,[((.exit 0),⟨[(2,(.bp 2 0 0)),(4,(.bp 4 0 0)),(3999,(.hd 2)),(5999,(.hd 2))],[(5,(.i .i64)),(3000,t29),(5000,t29)]⟩)],λ k x=>Hc k x.1 x.2.1 x.2.2.1 x.2.2.2.1 x.2.2.2.2⟩
def Ic.d:Fd := { nt:=53,nv:=1,nm:=[0,1,4,5,6,7,8,9],res:=[3],cs:=λ k=>[(59,Hm.e k),(143,Bg.e k),(144,Ah.e k),(183,Bj.e k),(192,A7.e k)],ls:=[(4,Hc.p)],mv:=[51],rf:=true }
def Ic.a (k:Nat):AC (Ic.d.cs k):=⟨Hm.s k,Bg.s k,Ah.s k,Bj.s k,A7.s k,trivial⟩
def Hc.s:LL Tryz.f207 Ic.d 4 Hc.p:=mL [] Ic.a trivial
def Ic.s (k:Nat):CK 207 (Ic.e k):=mS Ic.d k [4] Tryz.func207 (Ic.a k) ⟨Hc.s,trivial⟩
def Cm.e (k:Nat):Ent:=⟨2,[(.val false t13),(.val false t13)],[(.one,t2)],λ x=>Cm k x.1 x.2⟩
def Em.p:LF:=⟨⟨[],[(5,t14),(8,t2),(9,(.i .i64))]⟩,[((.exit 4),⟨[],[(8,t2)]⟩)],λ k x=>Em k x.1 x.2.1 x.2.2⟩
def Fm.p:LF:=⟨⟨[],[(1,t13),(5,t14),(7,(.i .i64))]⟩,[((.exit 2),⟨[],[(5,t14)]⟩)],λ k x=>Fm k x.1 x.2.1 x.2.2⟩
def Fn.p:LF:=⟨⟨[],[(0,t13),(1,t13),(5,t14),(6,(.i .i64))]⟩,[((.exit 0),⟨[],[(1,t13),(5,t14)]⟩)],λ k x=>Fn k x.1 x.2.1 x.2.2.1 x.2.2.2⟩
def Cm.d:Fd := { nt:=55,nv:=2,nm:=[0,1,2,3,5,6,7,8,9],res:=[4],cs:=λ k=>[(197,Ff.e k)],ls:=[(12,Em.p),(7,Fm.p),(3,Fn.p)],rf:=true }
def Cm.a (k:Nat):AC (Cm.d.cs k):=⟨Ff.s k,trivial⟩
def Em.s:LL Tryz.f238 Cm.d 12 Em.p:=mL [] Cm.a trivial
def Fm.s:LL Tryz.f238 Cm.d 7 Fm.p:=mL [] Cm.a trivial
def Fn.s:LL Tryz.f238 Cm.d 3 Fn.p:=mL [] Cm.a trivial
def Cm.s (k:Nat):CK 238 (Cm.e k):=mS Cm.d k [3,7,12] Tryz.func238 (Cm.a k) ⟨Fn.s,Fm.s,Em.s,trivial⟩
def Dc.e (k:Nat):Ent:=⟨2,[(.val true t28),(.val false t1)],[(.agg,t29)],λ x=>Dc k x.1 x.2⟩
def As.p:LF:=⟨⟨[(2,(.bp 2 0 0)),(4,(.bp 4 0 0)),(3999,(.hd 2)),(5999,(.hd 2))],[(1,t1),(5,t2),(6,t14),(7,(.i .i64)),(3000,t28),(5000,t29)]⟩,[((.exit 0),⟨[(2,(.bp 2 0 0)),(4,(.bp 4 0 0)),(3999,(.hd 2)),(5999,(.hd 2))],[(6,t14),(3000,t28),(5000,t29)]⟩)],λ k x=>As k x.1 x.2.1 x.2.2.1 x.2.2.2.1 x.2.2.2.2.1 x.2.2.2.2.2⟩
def Dc.d:Fd := { nt:=66,nv:=2,nm:=[0,1,2,3,5,6,7,8,9],res:=[],cs:=λ k=>[(129,D7.e k),(183,Bj.e k),(192,A7.e k),(231,Bf.e k),(238,Cm.e k)],ls:=[(6,As.p)],rf:=true }
def Dc.a (k:Nat):AC (Dc.d.cs k):=⟨D7.s k,Bj.s k,A7.s k,Bf.s k,Cm.s k,trivial⟩
def As.s:LL Tryz.f208 Dc.d 6 As.p:=mL [] Dc.a trivial
def Dc.s (k:Nat):CK 208 (Dc.e k):=mS Dc.d k [6] Tryz.func208 (Dc.a k) ⟨As.s,trivial⟩
def Hx.e (k:Nat):Ent:=⟨1,[(.val true t27)],[(.one,.b)],λ x=>Hx k x⟩
def Hx.d:Fd := { nt:=26,nv:=1,nm:=[0,1],res:=[2],cs:=λ k=>[(66,C9.e k),(67,Al.e k),(72,A6.e k)] }
def Hx.s (k:Nat):CK 182 (Hx.e k):=mS Hx.d k [] Tryz.func182 ⟨C9.s k,Al.s k,A6.s k,trivial⟩ trivial
def Eb.e (k:Nat):Ent:=⟨1,[(.val false t31)],[(.one,.b)],λ x=>Eb k x⟩
def G4.p:LF:=⟨⟨[],[(0,t31),(3,(.i .i64))]⟩,[(.ret,⟨[],[(2,.b)]⟩),((.exit 0),⟨[],[(0,t31)]⟩)],λ k x=>G4 k x.1 x.2⟩
def Eb.d:Fd := { nt:=37,nv:=1,nm:=[0,1,3],res:=[2],cs:=λ k=>[(182,Hx.e k)],ls:=[(2,G4.p)] }
def Eb.a (k:Nat):AC (Eb.d.cs k):=⟨Hx.s k,trivial⟩
def G4.s:LL Tryz.f184 Eb.d 2 G4.p:=mL [] Eb.a trivial
def Eb.s (k:Nat):CK 184 (Eb.e k):=mS Eb.d k [2] Tryz.func184 (Eb.a k) ⟨G4.s,trivial⟩
def C3.e (k:Nat):Ent:=⟨1,[(.val true t40)],[(.one,.b)],λ x=>C3 k x⟩
def Gw.p:LF:=⟨⟨[(1,(.bp 1 0 0)),(2999,(.hd 5))],[(3,(.i .i64)),(2000,(.i .i64)),(2001,t13),(2002,t13),(2003,t31),(2004,t31)]⟩,[(.ret,⟨[],[(2,.b)]⟩),((.exit 0),⟨[(1,(.bp 1 0 0)),(2999,(.hd 5))],[(2000,(.i .i64)),(2001,t13),(2002,t13),(2003,t31),(2004,t31)]⟩)],λ k x=>Gw k x.1 x.2.1 x.2.2.1 x.2.2.2.1 x.2.2.2.2.1 x.2.2.2.2.2⟩
def C3.d:Fd := { nt:=37,nv:=1,nm:=[0,1,3],res:=[2],cs:=λ k=>[(72,A6.e k),(182,Hx.e k),(183,Bj.e k),(184,Eb.e k)],ls:=[(2,Gw.p)] }
def C3.a (k:Nat):AC (C3.d.cs k):=⟨A6.s k,Hx.s k,Bj.s k,Eb.s k,trivial⟩
def Gw.s:LL Tryz.f125 C3.d 2 Gw.p:=mL [] C3.a trivial
def C3.s (k:Nat):CK 125 (C3.e k):=mS C3.d k [2] Tryz.func125 (C3.a k) ⟨Gw.s,trivial⟩
def Bi.e (k:Nat):Ent:=⟨1,[(.val true t40)],[(.agg,t41)],λ x=>Bi k x⟩
def Bi.d:Fd := { nt:=17,nv:=1,nm:=[0,1],res:=[],cs:=λ k=>[(192,A7.e k)] }
def Bi.s (k:Nat):CK 137 (Bi.e k):=mS Bi.d k [] Tryz.func137 ⟨A7.s k,trivial⟩ trivial
def Jp.e (k:Nat):Ent:=⟨3,[(.val true t28),(.val false .s),(.val false (.i .i64))],[(.agg,t30),(.one,.b)],λ x=>Jp k x.1 x.2.1 x.2.2⟩
def Jp.d:Fd := { nt:=97,nv:=3,nm:=[0,1,2,3,4,5,8,9,10,11],res:=[7],cs:=λ k=>[(72,A6.e k),(129,D7.e k),(183,Bj.e k),(192,Je.e k)],mv:=[39,96] }
def Jp.s (k:Nat):CK 239 (Jp.e k):=mS Jp.d k [] Tryz.func239 ⟨A6.s k,D7.s k,Bj.s k,Je.s k,trivial⟩ trivial
def E5.e (k:Nat):Ent:=⟨3,[(.val true t40),(.val false .s),(.val false (.i .i64))],[(.agg,t42),(.one,.b)],λ x=>E5 k x.1 x.2.1 x.2.2⟩
def E5.d:Fd := { nt:=44,nv:=3,nm:=[0,1,2,3,4,5,8,9,10,11,12],res:=[7],cs:=λ k=>[(59,Hm.e k),(125,C3.e k),(137,Bi.e k),(239,Jp.e k)],mv:=[29,40,43] }
def E5.s (k:Nat):CK 209 (E5.e k):=mS E5.d k [] Tryz.func209 ⟨Hm.s k,C3.s k,Bi.s k,Jp.s k,trivial⟩ trivial
def Hg.e (k:Nat):Ent:=⟨2,[(.val false t0),(.val false .s)],[(.one,.b)],λ x=>Hg k x.1 x.2⟩
def Gx.p:LF:=⟨⟨[],[(0,t0),(1,.s),(5,(.i .i64))]⟩,[(.ret,⟨[],[(4,.b)]⟩),((.exit 0),⟨[],[]⟩)],λ k x=>Gx k x.1 x.2.1 x.2.2⟩
def Hg.d:Fd := { nt:=18,nv:=2,nm:=[0,1,2,3,5],res:=[4],ls:=[(2,Gx.p)],rf:=true }
def Gx.s:LL Tryz.f128 Hg.d 2 Gx.p:=mL [] (λ _=>trivial) trivial
def Hg.s (k:Nat):CK 128 (Hg.e k):=mS Hg.d k [2] Tryz.func128 trivial ⟨Gx.s,trivial⟩
def Dd.e (k:Nat):Ent:=⟨2,[(.val false t0),(.val false .s)],[(.one,t0)],λ x=>Dd k x.1 x.2⟩
def Eo.p:LF:=⟨⟨[],[(1,.s),(5,t2),(6,(.i .i64))]⟩,[((.exit 0),⟨[],[(1,.s),(5,t2),(6,(.i .i64))]⟩)],λ k x=>Eo k x.1 x.2.1 x.2.2⟩
def Dd.d:Fd := { nt:=46,nv:=2,nm:=[0,1,2,3,5,6],res:=[4],cs:=λ k=>[(128,Hg.e k)],ls:=[(5,Eo.p)],rf:=true }
def Dd.a (k:Nat):AC (Dd.d.cs k):=⟨Hg.s k,trivial⟩
def Eo.s:LL Tryz.f210 Dd.d 5 Eo.p:=mL [] Dd.a trivial
def Dd.s (k:Nat):CK 210 (Dd.e k):=mS Dd.d k [5] Tryz.func210 (Dd.a k) ⟨Eo.s,trivial⟩
def Az.e (k:Nat):Ent:=⟨2,[(.ptr t51 t51),(.val true t34)],[(.one,.b)],λ x=>Az k x.1 x.2⟩
def Cu.p:LF:=⟨⟨[(0,(.bp 0 0 0)),(3,(.bp 3 0 0)),(1999,(.hd 9)),(4999,(.hd 6))],[(5,t3),(6,(.i .i64)),(1000,t51),(4000,t34)]⟩,[((.exit 1),⟨[(0,(.bp 0 0 0)),(3,(.bp 3 0 0)),(1999,(.hd 9)),(4999,(.hd 6))],[(5,t3),(1000,t51),(4000,t34)]⟩)],λ k x=>Cu k x.1 x.2.1 x.2.2.1 x.2.2.2⟩
def Az.d:Fd := { nt:=134,nv:=2,nm:=[0,1,2,3,5,6,7,8],res:=[4],cs:=λ k=>[(81,Co.e k),(91,D5.e k),(93,D6.e k),(207,Ic.e k),(208,Dc.e k),(209,E5.e k),(210,Dd.e k)],ls:=[(14,Cu.p)],rf:=true }
def Az.a (k:Nat):AC (Az.d.cs k):=⟨Co.s k,D5.s k,D6.s k,Ic.s k,Dc.s k,E5.s k,Dd.s k,trivial⟩
def Cu.s:LL Tryz.f161 Az.d 14 Cu.p:=mL [] Az.a trivial
def Az.s (k:Nat):CK 161 (Az.e k):=mS Az.d k [14] Tryz.func161 (Az.a k) ⟨Cu.s,trivial⟩
def Im.e (k:Nat):Ent:=⟨1,[(.val true t17)],[(.agg,t19)],λ x=>Im k x⟩
def G5.p:LF:=⟨⟨[(1,(.bp 1 0 0)),(2,(.bp 2 0 0)),(3,(.bp 3 0 0)),(2999,(.hd 2)),(3999,(.hd 2)),(4999,(.hd 2))],[(4,(.i .i64)),(2000,t17),(3000,t19),(4000,t19)]⟩,[((.exit 0),⟨[(2,(.bp 2 0 0)),(3,(.bp 3 0 0)),(3999,(.hd 2)),(4999,(.hd 2))],[(3000,t19),(4000,t19)]⟩)],λ k x=>G5 k x.1 x.2.1 x.2.2.1 x.2.2.2⟩
def Im.d:Fd := { nt:=30,nv:=1,nm:=[0,1,3,4],res:=[],ls:=[(3,G5.p)],mv:=[29],rf:=true }
def G5.s:LL Tryz.f136 Im.d 3 G5.p:=mL [] (λ _=>trivial) trivial
def Im.s (k:Nat):CK 136 (Im.e k):=mS Im.d k [3] Tryz.func136 trivial ⟨G5.s,trivial⟩
def Ir.e (k:Nat):Ent:=⟨1,[(.val true t17)],[(.agg,t18)],λ x=>Ir k x⟩
def K5.p:LF:=⟨⟨[(1,(.bp 1 0 0)),(2,(.bp 2 0 0)),(3,(.bp 3 0 0)),(2999,(.hd 2)),(3999,(.hd 2)),(4999,(.hd 2))],[(4,(.i .i64)),(2000,t17),(3000,t19),(4000,t18)]⟩,[((.exit 0),⟨[(2,(.bp 2 0 0)),(3,(.bp 3 0 0)),(3999,(.hd 2)),(4999,(.hd 2))],[(3000,t19),(4000,t18)]⟩)],λ k x=>K5 k x.1 x.2.1 x.2.2.1 x.2.2.2⟩
def Ir.d:Fd := { nt:=30,nv:=1,nm:=[0,1,3,4],res:=[],ls:=[(3,K5.p)],hint:=[(26,t7),(27,t7)],mv:=[29],rf:=true }
def K5.s:LL Tryz.f136 Ir.d 3 K5.p:=mL [] (λ _=>trivial) trivial
def Ir.s (k:Nat):CK 136 (Ir.e k):=mS Ir.d k [3] Tryz.func136 trivial ⟨K5.s,trivial⟩
def Ec.e (k:Nat):Ent:=⟨2,[(.val true t6),(.val false (.i .i64))],[(.one,.b)],λ x=>Ec k x.1 x.2⟩
def Gy.p:LF:=⟨⟨[(2,(.bp 2 0 0)),(3999,(.hd 1))],[(1,(.i .i64)),(5,(.i .i64)),(3000,t6)]⟩,[(.ret,⟨[],[(4,.b)]⟩),((.exit 0),⟨[(2,(.bp 2 0 0)),(3999,(.hd 1))],[(1,(.i .i64)),(3000,t6)]⟩)],λ k x=>Gy k x.1 x.2.1 x.2.2⟩
def Ec.d:Fd := { nt:=28,nv:=2,nm:=[0,1,2,3,5],res:=[4],cs:=λ k=>[(181,Cl.e k)],ls:=[(2,Gy.p)],rf:=true }
def Ec.a (k:Nat):AC (Ec.d.cs k):=⟨Cl.s k,trivial⟩
def Gy.s:LL Tryz.f123 Ec.d 2 Gy.p:=mL [] Ec.a trivial
def Ec.s (k:Nat):CK 123 (Ec.e k):=mS Ec.d k [2] Tryz.func123 (Ec.a k) ⟨Gy.s,trivial⟩
def Jd.e (k:Nat):Ent:=⟨2,[(.val true t17),(.val false t22)],[(.one,.b)],λ x=>Jd k x.1 x.2⟩
def J2.p:LF:=⟨⟨[(2,(.bp 2 0 0)),(3999,(.hd 2))],[(5,(.i .i64)),(3000,t17)]⟩,[(.ret,⟨[],[(4,.b)]⟩),((.exit 0),⟨[],[]⟩)],λ k x=>J2 k x.1 x.2⟩
def Jd.d:Fd := { nt:=45,nv:=2,nm:=[0,1,2,3,5],res:=[4],cs:=λ k=>[(72,A6.e k),(122,C1.e k),(123,Ec.e k)],ls:=[(4,J2.p)],rf:=true }
def Jd.a (k:Nat):AC (Jd.d.cs k):=⟨A6.s k,C1.s k,Ec.s k,trivial⟩
def J2.s:LL Tryz.f240 Jd.d 4 J2.p:=mL [] Jd.a trivial
def Jd.s (k:Nat):CK 240 (Jd.e k):=mS Jd.d k [4] Tryz.func240 (Jd.a k) ⟨J2.s,trivial⟩
def Gd.e (k:Nat):Ent:=⟨2,[(.val true t6),(.val false t22)],[(.one,(.i .i64))],λ x=>Gd k x.1 x.2⟩
def Gz.p:LF:=⟨⟨[(2,(.bp 2 0 0)),(3999,(.hd 1))],[(1,t22),(5,(.i .i64)),(3000,t6)]⟩,[(.ret,⟨[],[(4,(.i .i64))]⟩),((.exit 0),⟨[],[]⟩)],λ k x=>Gz k x.1 x.2.1 x.2.2⟩
def Gd.d:Fd := { nt:=28,nv:=2,nm:=[0,1,2,3,5,6,7],res:=[4],cs:=λ k=>[(124,E9.e k)],ls:=[(2,Gz.p)],rf:=true }
def Gd.a (k:Nat):AC (Gd.d.cs k):=⟨E9.s k,trivial⟩
def Gz.s:LL Tryz.f241 Gd.d 2 Gz.p:=mL [] Gd.a trivial
def Gd.s (k:Nat):CK 241 (Gd.e k):=mS Gd.d k [2] Tryz.func241 (Gd.a k) ⟨Gz.s,trivial⟩
def F7.e (k:Nat):Ent:=⟨4,[(.val true t17),(.val true t6),(.val false t22),(.val false (.i .i64))],[(.one,(.i .i64))],λ x=>F7 k x.1 x.2.1 x.2.2.1 x.2.2.2⟩
def Cg.p:LF:=⟨⟨[(4,(.bp 4 0 0)),(5,(.bp 5 0 0)),(9,(.bp 9 0 0)),(5999,(.hd 2)),(6999,(.hd 1)),(10999,(.hd 3))],[(2,t22),(3,(.i .i64)),(10,.b),(11,(.i .i64)),(5000,t17),(6000,t6),(10000,t16)]⟩,[(.ret,⟨[],[(8,(.i .i64))]⟩),((.exit 0),⟨[],[]⟩)],λ k x=>Cg k x.1 x.2.1 x.2.2.1 x.2.2.2.1 x.2.2.2.2.1 x.2.2.2.2.2.1 x.2.2.2.2.2.2⟩
def F7.d:Fd := { nt:=60,nv:=4,nm:=[0,1,2,3,4,5,6,7,9,10,11,12,13],res:=[8],cs:=λ k=>[(124,E9.e k),(255,Cq.e k)],ls:=[(3,Cg.p)],rf:=true }
def F7.a (k:Nat):AC (F7.d.cs k):=⟨E9.s k,Cq.s k,trivial⟩
def Cg.s:LL Tryz.f242 F7.d 3 Cg.p:=mL [] F7.a trivial
def F7.s (k:Nat):CK 242 (F7.e k):=mS F7.d k [3] Tryz.func242 (F7.a k) ⟨Cg.s,trivial⟩
def Cp.e (k:Nat):Ent:=⟨2,[(.val true t17),(.val false t22)],[(.agg,t18),(.one,(.i .i64))],λ x=>Cp k x.1 x.2⟩
def B6.p:LF:=⟨⟨[(4,(.bp 4 0 0)),(6,(.bp 6 0 0)),(5999,(.hd 2)),(7999,(.hd 2))],[(1,t22),(7,(.i .i64)),(8,(.i .i64)),(5000,t19),(7000,t18)]⟩,[((.exit 0),⟨[(4,(.bp 4 0 0)),(6,(.bp 6 0 0)),(5999,(.hd 2)),(7999,(.hd 2))],[(7,(.i .i64)),(5000,t19),(7000,t18)]⟩)],λ k x=>B6 k x.1 x.2.1 x.2.2.1 x.2.2.2.1 x.2.2.2.2⟩
def Cp.d:Fd := { nt:=82,nv:=2,nm:=[0,1,2,3,6,7,8,9,10,11,12],res:=[5],cs:=λ k=>[(136,Ir.e k),(234,Hl.e k),(240,Jd.e k),(241,Gd.e k),(242,F7.e k)],ls:=[(6,B6.p)],mv:=[19,80],rf:=true }
def Cp.a (k:Nat):AC (Cp.d.cs k):=⟨Ir.s k,Hl.s k,Jd.s k,Gd.s k,F7.s k,trivial⟩
def B6.s:LL Tryz.f211 Cp.d 6 B6.p:=mL [] Cp.a trivial
def Cp.s (k:Nat):CK 211 (Cp.e k):=mS Cp.d k [6] Tryz.func211 (Cp.a k) ⟨B6.s,trivial⟩
def H0.e (k:Nat):Ent:=⟨3,[(.ptr t51 t51),(.val false (.i .i64)),(.val false (.i .i64))],[(.one,.b)],λ x=>H0 k x.1 x.2.1 x.2.2⟩
def H0.d:Fd := { nt:=49,nv:=3,nm:=[0,1,2,3,4,5,7,8],res:=[6],cs:=λ k=>[(72,A6.e k),(211,Cp.e k)],rf:=true }
def H0.s (k:Nat):CK 162 (H0.e k):=mS H0.d k [] Tryz.func162 ⟨A6.s k,Cp.s k,trivial⟩ trivial
def Ih.e (k:Nat):Ent:=⟨2,[(.ptr t51 t51),(.val true t34)],[(.one,.b)],λ x=>Ih k x.1 x.2⟩
def Ih.d:Fd := { nt:=76,nv:=2,nm:=[0,1,2,3,5,6],res:=[4],cs:=λ k=>[(72,A6.e k),(160,Hb.e k),(161,Az.e k),(162,H0.e k)],rf:=true }
def Ih.s (k:Nat):CK 102 (Ih.e k):=mS Ih.d k [] Tryz.func102 ⟨A6.s k,Hb.s k,Az.s k,H0.s k,trivial⟩ trivial
def J8.e (k:Nat):Ent:=⟨2,[(.ptr t21 t21),(.val false t0)],[(.one,.s)],λ x=>J8 x.1 x.2⟩
def J8.d:Fd := { nt:=12,nv:=2,nm:=[0,1,2,3],res:=[4],cs:=λ k=>[(75,A3.e k)] }
def J8.s (k:Nat):CK 115 (J8.e k):=mS J8.d k [] Tryz.func115 ⟨A3.s k,trivial⟩ trivial
def Bm.e (k:Nat):Ent:=⟨1,[(.ptr t21 t21)],[(.one,.s)],λ x=>Bm x⟩
def Bm.d:Fd := { nt:=6,nv:=1,nm:=[0,1],res:=[2],cs:=λ k=>[(115,J8.e k)] }
def Bm.s (k:Nat):CK 58 (Bm.e k):=mS Bm.d k [] Tryz.func58 ⟨J8.s k,trivial⟩ trivial
def Gb.e (k:Nat):Ent:=⟨1,[(.val true t28)],[(.one,t2)],λ x=>Gb k x⟩
def J3.p:LF:=⟨⟨[(1,(.bp 1 0 0)),(2999,(.hd 2))],[(3,t2),(4,(.i .i64)),(7,(.i .i64)),(2000,t28)]⟩,[((.exit 2),⟨[(1,(.bp 1 0 0)),(2999,(.hd 2))],[(3,t2),(4,(.i .i64)),(7,(.i .i64)),(2000,t28)]⟩)],λ k x=>J3 k x.1 x.2.1 x.2.2.1 x.2.2.2⟩
def Gl.p:LF:=⟨⟨[(1,(.bp 1 0 0)),(2999,(.hd 2))],[(3,t2),(4,(.i .i64)),(2000,t28)]⟩,[((.exit 0),⟨[],[(3,t2)]⟩)],λ k x=>Gl k x.1 x.2.1 x.2.2⟩
def Gb.d:Fd := { nt:=98,nv:=1,nm:=[0,1,3,4,5,6,7],res:=[2],cs:=λ k=>[(117,Gj.e k),(128,Hg.e k),(129,D7.e k)],ls:=[(9,J3.p),(3,Gl.p)],rf:=true }
def Gb.a (k:Nat):AC (Gb.d.cs k):=⟨Gj.s k,Hg.s k,D7.s k,trivial⟩
def J3.s:LL Tryz.f73 Gb.d 9 J3.p:=mL [] Gb.a trivial
def Gl.s:LL Tryz.f73 Gb.d 3 Gl.p:=mL [9] Gb.a ⟨J3.s,trivial⟩
def Gb.s (k:Nat):CK 73 (Gb.e k):=mS Gb.d k [3] Tryz.func73 (Gb.a k) ⟨Gl.s,trivial⟩
def Cn.e (k:Nat):Ent:=⟨1,[(.ptr t21 t21)],[(.one,t7)],λ x=>Cn k x⟩
def Fo.p:LF:=⟨⟨[(0,(.bp 0 0 0)),(1999,(.hd 3))],[(3,t7),(4,(.i .i64)),(1000,t21)]⟩,[((.exit 0),⟨[(1999,(.hd 3))],[(3,t7),(1000,t21)]⟩)],λ k x=>Fo k x.1 x.2.1 x.2.2⟩
def Cn.d:Fd := { nt:=17,nv:=1,nm:=[0,1,3,4],res:=[2],cs:=λ k=>[(127,A9.e k)],ls:=[(3,Fo.p)],rf:=true }
def Cn.a (k:Nat):AC (Cn.d.cs k):=⟨A9.s k,trivial⟩
def Fo.s:LL Tryz.f131 Cn.d 3 Fo.p:=mL [] Cn.a trivial
def Cn.s (k:Nat):CK 131 (Cn.e k):=mS Cn.d k [3] Tryz.func131 (Cn.a k) ⟨Fo.s,trivial⟩
def Fq.e (k:Nat):Ent:=⟨2,[(.ptr t21 t21),(.val false (.i .i64))],[(.one,t5)],λ x=>Fq k x.1 x.2⟩
def Fp.p:LF:=⟨⟨[(0,(.bp 0 0 0)),(1999,(.hd 3))],[(1,(.i .i64)),(5,t5),(6,(.i .i64)),(1000,t4),(1001,(.i .i64)),(1002,(.i .i64))]⟩,[((.exit 0),⟨[(1999,(.hd 3))],[(5,t5),(1000,t4),(1001,(.i .i64)),(1002,(.i .i64))]⟩)],λ k x=>Fp k x.1 x.2.1 x.2.2.1 x.2.2.2.1 x.2.2.2.2.1 x.2.2.2.2.2⟩
def Fq.d:Fd := { nt:=20,nv:=2,nm:=[0,1,2,3,5,6],res:=[4],cs:=λ k=>[(130,Fj.e k)],ls:=[(3,Fp.p)] }
def Fq.a (k:Nat):AC (Fq.d.cs k):=⟨Fj.s k,trivial⟩
def Fp.s:LL Tryz.f212 Fq.d 3 Fp.p:=mL [] Fq.a trivial
def Fq.s (k:Nat):CK 212 (Fq.e k):=mS Fq.d k [3] Tryz.func212 (Fq.a k) ⟨Fp.s,trivial⟩
def Dp.e (k:Nat):Ent:=⟨1,[(.ptr t21 t21)],[(.one,t5)],λ x=>Dp k x⟩
def Dp.d:Fd := { nt:=8,nv:=1,nm:=[0,1],res:=[2],cs:=λ k=>[(127,A9.e k),(212,Fq.e k)] }
def Dp.s (k:Nat):CK 163 (Dp.e k):=mS Dp.d k [] Tryz.func163 ⟨A9.s k,Fq.s k,trivial⟩ trivial
def Ep.e (k:Nat):Ent:=⟨2,[(.ptr t21 t21),(.vw t51 2),(.hid t51 t51)],[(.agg,(.pr (.i .i64) (.pr (.i .i64) (.pr .s (.pr t5 (.pr (.i .i64) t7))))))],λ x=>Ep k x.1 x.2.1 x.2.2⟩
def Ep.d:Fd := { nt:=99,nv:=2,nm:=[0,1,2,3,5,6],res:=[],cs:=λ k=>[(58,Bm.e k),(73,Gb.e k),(75,A3.e k),(127,A9.e k),(131,Cn.e k),(163,Dp.e k)],mv:=[1,98],rf:=true }
def Ep.s (k:Nat):CK 103 (Ep.e k):=mS Ep.d k [] Tryz.func103 ⟨Bm.s k,Gb.s k,A3.s k,A9.s k,Cn.s k,Dp.s k,trivial⟩ trivial
def E6.e (k:Nat):Ent:=⟨2,[(.ptr t21 t21),(.val false (.i .i64))],[(.agg,t51)],λ x=>E6 k x.1 x.2⟩
def Fs.p:LF:=⟨⟨[(0,(.bp 0 0 0)),(4,(.bp 4 0 0)),(5,(.bp 5 0 0)),(1999,(.hd 3)),(5999,(.hd 9)),(6999,(.hd 9))],[(6,(.i .i64)),(1000,t21),(5000,t50),(6000,t51)]⟩,[((.exit 0),⟨[(4,(.bp 4 0 0)),(5,(.bp 5 0 0)),(5999,(.hd 9)),(6999,(.hd 9)),(1999,(.hd 3))],[(5000,t50),(6000,t51),(1000,t21)]⟩)],λ k x=>Fs k x.1 x.2.1 x.2.2.1 x.2.2.2⟩
def E6.d:Fd := { nt:=21,nv:=2,nm:=[0,1,2,3,5,6],res:=[],cs:=λ k=>[(75,A3.e k),(101,Jm.e k),(102,Ih.e k),(103,Ep.e k)],ls:=[(3,Fs.p)],mv:=[20],rf:=true }
def E6.a (k:Nat):AC (E6.d.cs k):=⟨A3.s k,Jm.s k,Ih.s k,Ep.s k,trivial⟩
def Fs.s:LL Tryz.f45 E6.d 3 Fs.p:=mL [] E6.a trivial
def E6.s (k:Nat):CK 45 (E6.e k):=mS E6.d k [3] Tryz.func45 (E6.a k) ⟨Fs.s,trivial⟩
def Bx.e (k:Nat):Ent:=⟨2,[(.ptr t21 t21),(.val false (.i .i64))],[(.one,.b)],λ x=>Bx x.1 x.2⟩
def Bx.d:Fd := { nt:=9,nv:=2,nm:=[0,1,2,3],res:=[4],cs:=λ k=>[(75,A3.e k)] }
def Bx.s (k:Nat):CK 74 (Bx.e k):=mS Bx.d k [] Tryz.func74 ⟨A3.s k,trivial⟩ trivial
def Am.e (k:Nat):Ent:=⟨1,[(.val true t48)],[(.agg,t50)],λ x=>Am k x⟩
def Ft.p:LF:=⟨⟨[(1,(.bp 1 0 0)),(2,(.bp 2 0 0)),(3,(.bp 3 0 0)),(2999,(.hd 9)),(3999,(.hd 9)),(4999,(.hd 9))],[(5,(.i .i64)),(2000,t48),(3000,t50),(4000,t50)]⟩,[((.exit 2),⟨[(2,(.bp 2 0 0)),(3,(.bp 3 0 0)),(3999,(.hd 9)),(4999,(.hd 9))],[(3000,t50),(4000,t50)]⟩)],λ k x=>Ft k x.1 x.2.1 x.2.2.1 x.2.2.2⟩
def Fu.p:LF:=⟨⟨[(1,(.bp 1 0 0)),(2,(.bp 2 0 0)),(3,(.bp 3 0 0)),(2999,(.hd 9)),(3999,(.hd 9)),(4999,(.hd 9))],[(4,(.i .i64)),(2000,t48),(3000,t50),(4000,t50)]⟩,[((.exit 0),⟨[(1,(.bp 1 0 0)),(2,(.bp 2 0 0)),(3,(.bp 3 0 0)),(2999,(.hd 9)),(3999,(.hd 9)),(4999,(.hd 9))],[(2000,t48),(3000,t50),(4000,t50)]⟩)],λ k x=>Fu k x.1 x.2.1 x.2.2.1 x.2.2.2⟩
def Am.d:Fd := { nt:=62,nv:=1,nm:=[0,1,3,4,5,6],res:=[],cs:=λ k=>[(136,Im.e k),(137,Bi.e k),(138,Bp.e k)],ls:=[(7,Ft.p),(3,Fu.p)],mv:=[61],rf:=true }
def Am.a (k:Nat):AC (Am.d.cs k):=⟨Im.s k,Bi.s k,Bp.s k,trivial⟩
def Ft.s:LL Tryz.f79 Am.d 7 Ft.p:=mL [] Am.a trivial
def Fu.s:LL Tryz.f79 Am.d 3 Fu.p:=mL [] Am.a trivial
def Am.s (k:Nat):CK 79 (Am.e k):=mS Am.d k [3,7] Tryz.func79 (Am.a k) ⟨Fu.s,Ft.s,trivial⟩
def F5.e (k:Nat):Ent:=⟨1,[(.ptr t21 t21)],[(.one,.s)],λ x=>F5 x⟩
def F5.d:Fd := { nt:=10,nv:=1,nm:=[0,1],res:=[2],cs:=λ k=>[(58,Bm.e k),(74,Bx.e k),(115,J8.e k)] }
def F5.s (k:Nat):CK 187 (F5.e k):=mS F5.d k [] Tryz.func187 ⟨Bm.s k,Bx.s k,J8.s k,trivial⟩ trivial
def Hy.e (k:Nat):Ent:=⟨1,[(.ptr t21 t21)],[(.agg,t16)],λ x=>Hy x⟩
def Hy.d:Fd := { nt:=11,nv:=1,nm:=[0,1],res:=[],cs:=λ k=>[(75,A3.e k),(127,A9.e k)] }
def Hy.s (k:Nat):CK 229 (Hy.e k):=mS Hy.d k [] Tryz.func229 ⟨A3.s k,A9.s k,trivial⟩ trivial
def C8.e (k:Nat):Ent:=⟨1,[(.ptr t21 t21)],[(.agg,t26)],λ x=>C8 k x⟩
def C8.d:Fd := { nt:=16,nv:=1,nm:=[0,1,3],res:=[],cs:=λ k=>[(74,Bx.e k),(163,Dp.e k),(229,Hy.e k)],mv:=[15] }
def C8.s (k:Nat):CK 230 (C8.e k):=mS C8.d k [] Tryz.func230 ⟨Bx.s k,Dp.s k,Hy.s k,trivial⟩ trivial
def J4.e (k:Nat):Ent:=⟨4,[(.val true t40),(.val false .s),(.val true t25),(.val false .b)],[(.agg,t42),(.one,(.i .i64))],λ x=>J4 k x.1 x.2.1 x.2.2.1 x.2.2.2⟩
def J4.d:Fd := { nt:=34,nv:=4,nm:=[0,1,2,3,4,5,6,7,10,11],res:=[9],cs:=λ k=>[(67,Al.e k),(68,C2.e k),(125,C3.e k),(137,Bi.e k),(236,Hw.e k)],mv:=[27,32] }
def J4.s (k:Nat):CK 248 (J4.e k):=mS J4.d k [] Tryz.func248 ⟨Al.s k,C2.s k,C3.s k,Bi.s k,Hw.s k,trivial⟩ trivial
def Hz.e (k:Nat):Ent:=⟨2,[(.val true t40),(.val false t31)],[(.agg,t43),(.one,.b)],λ x=>Hz k x.1 x.2⟩
def Hz.d:Fd := { nt:=25,nv:=2,nm:=[0,1,2,3,6],res:=[5],cs:=λ k=>[(125,C3.e k),(137,Bi.e k),(184,Eb.e k),(201,Gv.e k)],mv:=[24] }
def Hz.s (k:Nat):CK 249 (Hz.e k):=mS Hz.d k [] Tryz.func249 ⟨C3.s k,Bi.s k,Eb.s k,Gv.s k,trivial⟩ trivial
def I0.e (k:Nat):Ent:=⟨1,[(.ptr t21 t21)],[(.agg,t27)],λ x=>I0 k x⟩
def I0.d:Fd := { nt:=8,nv:=1,nm:=[0,1],res:=[],cs:=λ k=>[(58,Bm.e k),(230,C8.e k),(257,Ib.e k)] }
def I0.s (k:Nat):CK 252 (I0.e k):=mS I0.d k [] Tryz.func252 ⟨Bm.s k,C8.s k,Ib.s k,trivial⟩ trivial
def Cv.e (k:Nat):Ent:=⟨1,[(.ptr t21 t21)],[(.one,t32)],λ x=>Cv k x⟩
def Fv.p:LF:=⟨⟨[(0,(.bp 0 0 0)),(1999,(.hd 3))],[(3,t32),(4,(.i .i64)),(1000,t4),(1001,(.i .i64)),(1002,(.i .i64))]⟩,[((.exit 0),⟨[(1999,(.hd 3))],[(3,t32),(1000,t4),(1001,(.i .i64)),(1002,(.i .i64))]⟩)],λ k x=>Fv k x.1 x.2.1 x.2.2.1 x.2.2.2.1 x.2.2.2.2⟩
def Cv.d:Fd := { nt:=17,nv:=1,nm:=[0,1,3,4],res:=[2],cs:=λ k=>[(75,A3.e k),(252,I0.e k),(253,Br.e k)],ls:=[(3,Fv.p)] }
def Cv.a (k:Nat):AC (Cv.d.cs k):=⟨A3.s k,I0.s k,Br.s k,trivial⟩
def Fv.s:LL Tryz.f250 Cv.d 3 Fv.p:=mL [] Cv.a trivial
def Cv.s (k:Nat):CK 250 (Cv.e k):=mS Cv.d k [3] Tryz.func250 (Cv.a k) ⟨Fv.s,trivial⟩
def D9.e (k:Nat):Ent:=⟨1,[(.ptr t21 t21)],[(.agg,t44)],λ x=>D9 k x⟩
def Cw.p:LF:=⟨⟨[(0,(.bp 0 0 0)),(2,(.bp 2 0 0)),(3,(.bp 3 0 0)),(1999,(.hd 3)),(3999,(.hd 5)),(4999,(.hd 5))],[(4,(.i .i64)),(1000,t4),(1001,(.i .i64)),(1002,(.i .i64)),(3000,(.i .i64)),(3001,t14),(3002,t14),(3003,t32),(3004,t32),(4000,(.i .i64)),(4001,t13),(4002,t13),(4003,t32),(4004,t32)]⟩,[((.exit 0),⟨[(0,(.bp 0 0 0)),(2,(.bp 2 0 0)),(3,(.bp 3 0 0)),(1999,(.hd 3)),(3999,(.hd 5)),(4999,(.hd 5))],[(1000,t4),(1001,(.i .i64)),(1002,(.i .i64)),(3000,(.i .i64)),(3001,t14),(3002,t14),(3003,t32),(3004,t32),(4000,(.i .i64)),(4001,t13),(4002,t13),(4003,t32),(4004,t32)]⟩)],λ k x=>Cw k x.1 x.2.1 x.2.2.1 x.2.2.2.1 x.2.2.2.2.1 x.2.2.2.2.2.1 x.2.2.2.2.2.2.1 x.2.2.2.2.2.2.2.1 x.2.2.2.2.2.2.2.2.1 x.2.2.2.2.2.2.2.2.2.1 x.2.2.2.2.2.2.2.2.2.2.1 x.2.2.2.2.2.2.2.2.2.2.2.1 x.2.2.2.2.2.2.2.2.2.2.2.2.1 x.2.2.2.2.2.2.2.2.2.2.2.2.2⟩
def D9.d:Fd := { nt:=47,nv:=1,nm:=[0,1,3,4],res:=[],cs:=λ k=>[(58,Bm.e k),(74,Bx.e k),(75,A3.e k),(204,Gi.e k),(209,E5.e k),(230,C8.e k),(248,J4.e k),(249,Hz.e k),(250,Cv.e k)],ls:=[(3,Cw.p)],mv:=[46] }
def D9.a (k:Nat):AC (D9.d.cs k):=⟨Bm.s k,Bx.s k,A3.s k,Gi.s k,E5.s k,C8.s k,J4.s k,Hz.s k,Cv.s k,trivial⟩
def Cw.s:LL Tryz.f226 D9.d 3 Cw.p:=mL [] D9.a trivial
def D9.s (k:Nat):CK 226 (D9.e k):=mS D9.d k [3] Tryz.func226 (D9.a k) ⟨Cw.s,trivial⟩
def Dq.e (k:Nat):Ent:=⟨1,[(.ptr t21 t21)],[(.agg,t29)],λ x=>Dq k x⟩
def Ae.p:LF:=⟨⟨[(0,(.bp 0 0 0)),(2,(.bp 2 0 0)),(3,(.bp 3 0 0)),(1999,(.hd 3)),(3999,(.hd 2)),(4999,(.hd 2))],[(4,(.i .i64)),(1000,t4),(1001,(.i .i64)),(1002,(.i .i64)),(3000,t14),(3001,t14),(4000,t14),(4001,t14)]⟩,[((.exit 0),⟨[(2,(.bp 2 0 0)),(3,(.bp 3 0 0)),(3999,(.hd 2)),(4999,(.hd 2)),(1999,(.hd 3))],[(3000,t14),(3001,t14),(4000,t14),(4001,t14),(1000,t4),(1001,(.i .i64)),(1002,(.i .i64))]⟩)],λ k x=>Ae k x.1 x.2.1 x.2.2.1 x.2.2.2.1 x.2.2.2.2.1 x.2.2.2.2.2.1 x.2.2.2.2.2.2.1 x.2.2.2.2.2.2.2⟩
def Dq.d:Fd := { nt:=44,nv:=1,nm:=[0,1,3,4,5],res:=[],cs:=λ k=>[(58,Bm.e k),(75,A3.e k),(143,Bg.e k),(144,Ah.e k),(175,B9.e k),(194,B3.e k),(230,C8.e k)],ls:=[(3,Ae.p)],mv:=[43] }
def Dq.a (k:Nat):AC (Dq.d.cs k):=⟨Bm.s k,A3.s k,Bg.s k,Ah.s k,B9.s k,B3.s k,C8.s k,trivial⟩
def Ae.s:LL Tryz.f251 Dq.d 3 Ae.p:=mL [] Dq.a trivial
def Dq.s (k:Nat):CK 251 (Dq.e k):=mS Dq.d k [3] Tryz.func251 (Dq.a k) ⟨Ae.s,trivial⟩
def Id.e (k:Nat):Ent:=⟨1,[(.ptr t21 t21)],[(.agg,t29)],λ x=>Id k x⟩
def Id.d:Fd := { nt:=33,nv:=1,nm:=[0,1,3],res:=[],cs:=λ k=>[(75,A3.e k),(187,F5.e k),(251,Dq.e k)],mv:=[32] }
def Id.s (k:Nat):CK 227 (Id.e k):=mS Id.d k [] Tryz.func227 ⟨A3.s k,F5.s k,Dq.s k,trivial⟩ trivial
def Jq.e (k:Nat):Ent:=⟨1,[(.ptr t21 t21)],[(.one,t32)],λ x=>Jq k x⟩
def Jq.d:Fd := { nt:=27,nv:=1,nm:=[0,1,3],res:=[2],cs:=λ k=>[(75,A3.e k),(127,A9.e k),(250,Cv.e k),(252,I0.e k)] }
def Jq.s (k:Nat):CK 228 (Jq.e k):=mS Jq.d k [] Tryz.func228 ⟨A3.s k,A9.s k,Cv.s k,I0.s k,trivial⟩ trivial
def Ed.e (k:Nat):Ent:=⟨1,[(.ptr t21 t21)],[(.agg,t44)],λ x=>Ed k x⟩
def Fw.p:LF:=⟨⟨[(0,(.bp 0 0 0)),(2,(.bp 2 0 0)),(3,(.bp 3 0 0)),(1999,(.hd 3)),(3999,(.hd 5)),(4999,(.hd 5))],[(1000,t4),(1001,(.i .i64)),(1002,(.i .i64)),(3000,(.i .i64)),(3001,t14),(3002,t14),(3003,t32),(3004,t32),(4000,(.i .i64)),(4001,t13),(4002,t13),(4003,t31),(4004,t32)]⟩,[((.exit 1),⟨[(2,(.bp 2 0 0)),(3,(.bp 3 0 0)),(3999,(.hd 5)),(4999,(.hd 5)),(1999,(.hd 3))],[(3000,(.i .i64)),(3001,t14),(3002,t14),(3003,t32),(3004,t32),(4000,(.i .i64)),(4001,t13),(4002,t13),(4003,t31),(4004,t32),(1000,t4),(1001,(.i .i64)),(1002,(.i .i64))]⟩)],λ k x=>Fw k x.1 x.2.1 x.2.2.1 x.2.2.2.1 x.2.2.2.2.1 x.2.2.2.2.2.1 x.2.2.2.2.2.2.1 x.2.2.2.2.2.2.2.1 x.2.2.2.2.2.2.2.2.1 x.2.2.2.2.2.2.2.2.2.1 x.2.2.2.2.2.2.2.2.2.2.1 x.2.2.2.2.2.2.2.2.2.2.2.1 x.2.2.2.2.2.2.2.2.2.2.2.2⟩
def Ed.d:Fd := { nt:=50,nv:=1,nm:=[0,1,3],res:=[],cs:=λ k=>[(75,A3.e k),(127,A9.e k),(187,F5.e k),(226,D9.e k),(227,Id.e k),(228,Jq.e k)],ls:=[(12,Fw.p)],mv:=[49] }
def Ed.a (k:Nat):AC (Ed.d.cs k):=⟨A3.s k,A9.s k,F5.s k,D9.s k,Id.s k,Jq.s k,trivial⟩
def Fw.s:LL Tryz.f185 Ed.d 12 Fw.p:=mL [] Ed.a trivial
def Ed.s (k:Nat):CK 185 (Ed.e k):=mS Ed.d k [12] Tryz.func185 (Ed.a k) ⟨Fw.s,trivial⟩
def Io.e (k:Nat):Ent:=⟨1,[(.ptr t21 t21)],[(.agg,t16)],λ x=>Io x⟩
def Io.d:Fd := { nt:=27,nv:=1,nm:=[0,1,3],res:=[],cs:=λ k=>[(75,A3.e k),(127,A9.e k),(229,Hy.e k)] }
def Io.s (k:Nat):CK 186 (Io.e k):=mS Io.d k [] Tryz.func186 ⟨A3.s k,A9.s k,Hy.s k,trivial⟩ trivial
def K6.e (k:Nat):Ent:=⟨1,[(.ptr t21 t21)],[(.agg,t26)],λ x=>K6 k x⟩
def K6.d:Fd := { nt:=27,nv:=1,nm:=[0,1,3],res:=[],cs:=λ k=>[(75,A3.e k),(186,Io.e k),(230,C8.e k)],mv:=[26] }
def K6.s (k:Nat):CK 188 (K6.e k):=mS K6.d k [] Tryz.func188 ⟨A3.s k,Io.s k,C8.s k,trivial⟩ trivial
def Dr.e (k:Nat):Ent:=⟨2,[(.ptr t21 t21),(.vw t51 2),(.hid t51 t48)],[(.agg,(.pr t23 (.pr t19 (.pr t46 (.pr t16 (.pr t35 t2))))))],λ x=>Dr k x.1 x.2.1 x.2.2⟩
def Dr.d:Fd := { nt:=100,nv:=2,nm:=[0,1,2,3,5],res:=[],cs:=λ k=>[(75,A3.e k),(79,Am.e k),(127,A9.e k),(185,Ed.e k),(186,Io.e k),(187,F5.e k),(188,K6.e k)],mv:=[1,99],rf:=true }
def Dr.s (k:Nat):CK 126 (Dr.e k):=mS Dr.d k [] Tryz.func126 ⟨A3.s k,Am.s k,A9.s k,Ed.s k,Io.s k,F5.s k,K6.s k,trivial⟩ trivial
def I1.e (k:Nat):Ent:=⟨2,[(.ptr t21 t21),(.val false (.i .i64))],[(.agg,(.pr t23 (.pr t17 (.pr t46 t37))))],λ x=>I1 k x.1 x.2⟩
def I1.d:Fd := { nt:=15,nv:=2,nm:=[0,1,2,3,5],res:=[],cs:=λ k=>[(45,E6.e k),(74,Bx.e k),(126,Dr.e k)],mv:=[14],rf:=true }
def I1.s (k:Nat):CK 70 (I1.e k):=mS I1.d k [] Tryz.func70 ⟨E6.s k,Bx.s k,Dr.s k,trivial⟩ trivial
def Km.e (k:Nat):Ent:=⟨2,[(.ptr t21 t21),(.val true t48)],[(.one,(.i .i64))],λ x=>Km x.1 x.2⟩
def Km.d:Fd := { nt:=21,nv:=2,nm:=[0,1,2,3],res:=[4],cs:=λ k=>[(74,Bx.e k),(75,A3.e k),(127,A9.e k)],rf:=true }
def Km.s (k:Nat):CK 71 (Km.e k):=mS Km.d k [] Tryz.func71 ⟨Bx.s k,A3.s k,A9.s k,trivial⟩ trivial
def Jr.e (k:Nat):Ent:=⟨1,[(.ptr t21 t21)],[(.one,t6)],λ x=>Jr k x⟩
def Jr.d:Fd := { nt:=22,nv:=1,nm:=[0,1,3],res:=[2],cs:=λ k=>[(75,A3.e k),(127,A9.e k),(131,Cn.e k)],rf:=true }
def Jr.s (k:Nat):CK 76 (Jr.e k):=mS Jr.d k [] Tryz.func76 ⟨A3.s k,A9.s k,Cn.s k,trivial⟩ trivial
def F6.e (k:Nat):Ent:=⟨1,[(.val false t4)],[(.agg,t48),(.one,(.i .i64)),(.one,t6)],λ x=>F6 k x⟩
def F6.d:Fd := { nt:=19,nv:=1,nm:=[0,1,5,6],res:=[3,4],cs:=λ k=>[(44,Jz.e k),(46,Jl.e k),(70,I1.e k),(71,Km.e k),(76,Jr.e k)],sh:=true,rf:=true }
def F6.s (k:Nat):CK 89 (F6.e k):=mS F6.d k [] Tryz.func89 ⟨Jz.s k,Jl.s k,I1.s k,Km.s k,Jr.s k,trivial⟩ trivial
def Er.e (k:Nat):Ent:=⟨1,[(.val false t4)],[(.agg,t48),(.one,(.i .i64)),(.one,t6)],λ x=>Er k x⟩
def Er.d:Fd := { nt:=10,nv:=1,nm:=[0,1],res:=[3,4],cs:=λ k=>[(89,F6.e k)],sh:=true,rf:=true }
def Er.s (k:Nat):CK 33 (Er.e k):=mS Er.d k [] Tryz.func33 ⟨F6.s k,trivial⟩ trivial
def De.e (k:Nat):Ent:=⟨1,[(.val true t17)],[(.agg,t19)],λ x=>De k x⟩
def Es.p:LF:=⟨⟨[(2,(.bp 2 0 0)),(3,(.bp 3 0 0)),(3999,(.hd 2)),(4999,(.hd 2))],[(10,t10),(11,(.i .i64)),(12,(.i .i64)),(3000,t19),(4000,t19)]⟩,[((.exit 0),⟨[(2,(.bp 2 0 0)),(3,(.bp 3 0 0)),(3999,(.hd 2)),(4999,(.hd 2))],[(3000,t19),(4000,t19)]⟩)],λ k x=>Es k x.1 x.2.1 x.2.2.1 x.2.2.2.1 x.2.2.2.2⟩
def De.d:Fd := { nt:=27,nv:=1,nm:=[0,1,3,4,5],res:=[],cs:=λ k=>[(82,Fa.e k)],ls:=[(3,Es.p)],mv:=[26],rf:=true }
def De.a (k:Nat):AC (De.d.cs k):=⟨Fa.s k,trivial⟩
def Es.s:LL Tryz.f96 De.d 3 Es.p:=mL [] De.a trivial
def De.s (k:Nat):CK 96 (De.e k):=mS De.d k [3] Tryz.func96 (De.a k) ⟨Es.s,trivial⟩
def Aj.e (k:Nat):Ent:=⟨1,[(.val false t31)],[(.one,t32)],λ x=>Aj x⟩
def Aj.d:Fd := { nt:=5,nv:=1,nm:=[0,1],res:=[2] }
def Aj.s (k:Nat):CK 94 (Aj.e k):=mS Aj.d k [] Tryz.func94 trivial trivial
def Dy.e (k:Nat):Ent:=⟨1,[(.val false t4)],[(.one,t5)],λ x=>Dy x⟩
def Dy.d:Fd := { nt:=5,nv:=1,nm:=[0,1],res:=[2] }
def Dy.s (k:Nat):CK 105 (Dy.e k):=mS Dy.d k [] Tryz.func105 trivial trivial
def Cb.e (k:Nat):Ent:=⟨1,[(.val false t13)],[(.one,t14)],λ x=>Cb k x⟩
def Ds.p:LF:=⟨⟨[],[(3,t14),(6,t13),(7,(.i .i64)),(8,(.i .i64))]⟩,[((.exit 0),⟨[],[(3,t14)]⟩)],λ k x=>Ds k x.1 x.2.1 x.2.2.1 x.2.2.2⟩
def Cb.d:Fd := { nt:=23,nv:=1,nm:=[0,1,3,4,5],res:=[2],cs:=λ k=>[(105,Dy.e k)],ls:=[(3,Ds.p)] }
def Cb.a (k:Nat):AC (Cb.d.cs k):=⟨Dy.s k,trivial⟩
def Ds.s:LL Tryz.f202 Cb.d 3 Ds.p:=mL [] Cb.a trivial
def Cb.s (k:Nat):CK 202 (Cb.e k):=mS Cb.d k [3] Tryz.func202 (Cb.a k) ⟨Ds.s,trivial⟩
def I2.e (k:Nat):Ent:=⟨1,[(.val true t28)],[(.agg,t29)],λ x=>I2 k x⟩
def I2.d:Fd := { nt:=10,nv:=1,nm:=[0,1],res:=[],cs:=λ k=>[(202,Cb.e k)] }
def I2.s (k:Nat):CK 156 (I2.e k):=mS I2.d k [] Tryz.func156 ⟨Cb.s k,trivial⟩ trivial
def Ee.e (k:Nat):Ent:=⟨1,[(.val true t40)],[(.agg,t41)],λ x=>Ee k x⟩
def Ee.d:Fd := { nt:=15,nv:=1,nm:=[0,1],res:=[],cs:=λ k=>[(94,Aj.e k),(156,I2.e k)] }
def Ee.s (k:Nat):CK 97 (Ee.e k):=mS Ee.d k [] Tryz.func97 ⟨Aj.s k,I2.s k,trivial⟩ trivial
def I3.e (k:Nat):Ent:=⟨1,[(.val true t25)],[(.agg,t26)],λ x=>I3 x⟩
def I3.d:Fd := { nt:=8,nv:=1,nm:=[0,1],res:=[],cs:=λ k=>[(105,Dy.e k)],mv:=[7],rf:=true }
def I3.s (k:Nat):CK 98 (I3.e k):=mS I3.d k [] Tryz.func98 ⟨Dy.s k,trivial⟩ trivial
def Ad.e (k:Nat):Ent:=⟨1,[(.val true t48)],[(.agg,t50)],λ x=>Ad k x⟩
def Dt.p:LF:=⟨⟨[(2,(.bp 2 0 0)),(3,(.bp 3 0 0)),(3999,(.hd 9)),(4999,(.hd 9))],[(36,t35),(37,(.i .i64)),(38,(.i .i64)),(3000,t50),(4000,t50)]⟩,[((.exit 2),⟨[(2,(.bp 2 0 0)),(3,(.bp 3 0 0)),(3999,(.hd 9)),(4999,(.hd 9))],[(3000,t50),(4000,t50)]⟩)],λ k x=>Dt k x.1 x.2.1 x.2.2.1 x.2.2.2.1 x.2.2.2.2⟩
def Du.p:LF:=⟨⟨[(1,(.bp 1 0 0)),(2,(.bp 2 0 0)),(3,(.bp 3 0 0)),(2999,(.hd 9)),(3999,(.hd 9)),(4999,(.hd 9))],[(21,t45),(22,(.i .i64)),(23,(.i .i64)),(2000,t48),(3000,t50),(4000,t50)]⟩,[((.exit 0),⟨[(1,(.bp 1 0 0)),(2,(.bp 2 0 0)),(3,(.bp 3 0 0)),(2999,(.hd 9)),(3999,(.hd 9)),(4999,(.hd 9))],[(2000,t48),(3000,t50),(4000,t50)]⟩)],λ k x=>Du k x.1 x.2.1 x.2.2.1 x.2.2.2.1 x.2.2.2.2.1 x.2.2.2.2.2⟩
def Ad.d:Fd := { nt:=54,nv:=1,nm:=[0,1,3,4,5,6,7],res:=[],cs:=λ k=>[(96,De.e k),(97,Ee.e k),(98,I3.e k)],ls:=[(8,Dt.p),(3,Du.p)],mv:=[53],rf:=true }
def Ad.a (k:Nat):AC (Ad.d.cs k):=⟨De.s k,Ee.s k,I3.s k,trivial⟩
def Dt.s:LL Tryz.f41 Ad.d 8 Dt.p:=mL [] Ad.a trivial
def Du.s:LL Tryz.f41 Ad.d 3 Du.p:=mL [] Ad.a trivial
def Ad.s (k:Nat):CK 41 (Ad.e k):=mS Ad.d k [3,8] Tryz.func41 (Ad.a k) ⟨Du.s,Dt.s,trivial⟩
def Et.e (k:Nat):Ent:=⟨3,[(.val false (.i .i64)),(.val false (.i .i64)),(.val false (.i .i64))],[(.one,.b)],λ x=>Et x.1 x.2.1 x.2.2⟩
def Et.d:Fd := { nt:=15,nv:=3,nm:=[0,1,2,3,4,5],res:=[6] }
def Et.s (k:Nat):CK 42 (Et.e k):=mS Et.d k [] Tryz.func42 trivial trivial
def Ge.e (k:Nat):Ent:=⟨1,[(.val false t22)],[(.one,.b)],λ x=>Ge k x⟩
def G6.p:LF:=⟨⟨[],[(0,t22),(5,t22),(6,(.i .i64)),(7,(.i .i64))]⟩,[(.ret,⟨[],[(2,.b)]⟩),((.exit 0),⟨[],[(0,t22)]⟩)],λ k x=>G6 k x.1 x.2.1 x.2.2.1 x.2.2.2⟩
def Ge.d:Fd := { nt:=47,nv:=1,nm:=[0,1,3,4],res:=[2],cs:=λ k=>[(42,Et.e k)],ls:=[(2,G6.p)],rf:=true }
def Ge.a (k:Nat):AC (Ge.d.cs k):=⟨Et.s k,trivial⟩
def G6.s:LL Tryz.f146 Ge.d 2 G6.p:=mL [] Ge.a trivial
def Ge.s (k:Nat):CK 146 (Ge.e k):=mS Ge.d k [2] Tryz.func146 (Ge.a k) ⟨G6.s,trivial⟩
def Hh.e (k:Nat):Ent:=⟨2,[(.val false t6),(.val false (.i .i64))],[(.one,.b)],λ x=>Hh k x.1 x.2⟩
def H1.p:LF:=⟨⟨[],[(1,(.i .i64)),(7,t6),(8,(.i .i64)),(9,(.i .i64))]⟩,[(.ret,⟨[],[(4,.b)]⟩),((.exit 0),⟨[],[]⟩)],λ k x=>H1 k x.1 x.2.1 x.2.2.1 x.2.2.2⟩
def Hh.d:Fd := { nt:=17,nv:=2,nm:=[0,1,2,3,5,6],res:=[4],ls:=[(2,H1.p)],rf:=true }
def H1.s:LL Tryz.f49 Hh.d 2 H1.p:=mL [] (λ _=>trivial) trivial
def Hh.s (k:Nat):CK 49 (Hh.e k):=mS Hh.d k [2] Tryz.func49 trivial ⟨H1.s,trivial⟩
def Ie.e (k:Nat):Ent:=⟨1,[(.val false t6)],[(.one,.b)],λ x=>Ie k x⟩
def I4.p:LF:=⟨⟨[],[(0,t6),(5,t6),(6,(.i .i64)),(7,(.i .i64))]⟩,[(.ret,⟨[],[(2,.b)]⟩),((.exit 0),⟨[],[]⟩)],λ k x=>I4 k x.1 x.2.1 x.2.2.1 x.2.2.2⟩
def Ie.d:Fd := { nt:=18,nv:=1,nm:=[0,1,3,4],res:=[2],cs:=λ k=>[(49,Hh.e k)],ls:=[(2,I4.p)],rf:=true }
def Ie.a (k:Nat):AC (Ie.d.cs k):=⟨Hh.s k,trivial⟩
def I4.s:LL Tryz.f147 Ie.d 2 I4.p:=mL [] Ie.a trivial
def Ie.s (k:Nat):CK 147 (Ie.e k):=mS Ie.d k [2] Tryz.func147 (Ie.a k) ⟨I4.s,trivial⟩
def K7.e (k:Nat):Ent:=⟨2,[(.val false t22),(.val false (.i .i64))],[(.agg,t16),(.one,.b)],λ x=>K7 k x.1 x.2⟩
def I5.p:LF:=⟨⟨[(4,(.bp 4 0 0)),(5999,(.hd 3))],[(1,(.i .i64)),(8,t22),(9,(.i .i64)),(10,(.i .i64)),(5000,t16)]⟩,[(.ret,⟨[(4,(.bp 4 0 0)),(5999,(.hd 3))],[(5,.b),(5000,t16)]⟩),((.exit 0),⟨[(4,(.bp 4 0 0)),(5999,(.hd 3))],[(5000,t16)]⟩)],λ k x=>I5 k x.1 x.2.1 x.2.2.1 x.2.2.2.1 x.2.2.2.2⟩
def K7.d:Fd := { nt:=21,nv:=2,nm:=[0,1,2,3,6,7],res:=[5],ls:=[(2,I5.p)],rf:=true }
def I5.s:LL Tryz.f148 K7.d 2 I5.p:=mL [] (λ _=>trivial) trivial
def K7.s (k:Nat):CK 148 (K7.e k):=mS K7.d k [2] Tryz.func148 trivial ⟨I5.s,trivial⟩
def F8.e (k:Nat):Ent:=⟨2,[(.val true t17),(.val false t22)],[(.one,.b)],λ x=>F8 k x.1 x.2⟩
def H2.p:LF:=⟨⟨[(2,(.bp 2 0 0)),(3999,(.hd 2))],[(1,t22),(28,t10),(29,(.i .i64)),(30,(.i .i64)),(47,t6),(48,(.i .i64)),(49,(.i .i64)),(3000,t17)]⟩,[(.ret,⟨[],[(4,.b)]⟩),((.exit 2),⟨[(2,(.bp 2 0 0)),(3999,(.hd 2))],[(1,t22),(28,t10),(29,(.i .i64)),(30,(.i .i64)),(3000,t17)]⟩)],λ k x=>H2 k x.1 x.2.1 x.2.2.1 x.2.2.2.1 x.2.2.2.2.1 x.2.2.2.2.2.1 x.2.2.2.2.2.2.1 x.2.2.2.2.2.2.2⟩
def H3.p:LF:=⟨⟨[(2,(.bp 2 0 0)),(3999,(.hd 2))],[(1,t22),(28,t10),(29,(.i .i64)),(30,(.i .i64)),(3000,t17)]⟩,[(.ret,⟨[],[(4,.b)]⟩),((.exit 0),⟨[],[]⟩)],λ k x=>H3 k x.1 x.2.1 x.2.2.1 x.2.2.2.1 x.2.2.2.2⟩
def F8.d:Fd := { nt:=63,nv:=2,nm:=[0,1,2,3,5,6,7,8,9,10],res:=[4],cs:=λ k=>[(42,Et.e k),(146,Ge.e k),(147,Ie.e k),(148,K7.e k)],ls:=[(9,H2.p),(4,H3.p)],rf:=true }
def F8.a (k:Nat):AC (F8.d.cs k):=⟨Et.s k,Ge.s k,Ie.s k,K7.s k,trivial⟩
def H2.s:LL Tryz.f84 F8.d 9 H2.p:=mL [] F8.a trivial
def H3.s:LL Tryz.f84 F8.d 4 H3.p:=mL [9] F8.a ⟨H2.s,trivial⟩
def F8.s (k:Nat):CK 84 (F8.e k):=mS F8.d k [4] Tryz.func84 (F8.a k) ⟨H3.s,trivial⟩
def E7.e (k:Nat):Ent:=⟨1,[(.val true t16)],[(.one,.b)],λ x=>E7 x⟩
def E7.d:Fd := { nt:=16,nv:=1,nm:=[0,1],res:=[2],cs:=λ k=>[(42,Et.e k)] }
def E7.s (k:Nat):CK 85 (E7.e k):=mS E7.d k [] Tryz.func85 ⟨Et.s k,trivial⟩ trivial
def Dz.e (k:Nat):Ent:=⟨2,[(.val true t16),(.val true t16)],[(.one,.b)],λ x=>Dz x.1 x.2⟩
def Dz.d:Fd := { nt:=32,nv:=2,nm:=[0,1,2,3],res:=[4] }
def Dz.s (k:Nat):CK 12 (Dz.e k):=mS Dz.d k [] Tryz.func12 trivial trivial
def C4.e (k:Nat):Ent:=⟨1,[(.val false .s)],[(.one,.b)],λ x=>C4 k x⟩
def An.p:LF:=⟨⟨[],[(0,.s),(3,(.i .i64))]⟩,[(.ret,⟨[],[(2,.b)]⟩),((.exit 0),⟨[],[(0,.s)]⟩)],λ k x=>An k x.1 x.2⟩
def C4.d:Fd := { nt:=45,nv:=1,nm:=[0,1,3,4],res:=[2],cs:=λ k=>[(42,Et.e k)],ls:=[(2,An.p)] }
def C4.a (k:Nat):AC (C4.d.cs k):=⟨Et.s k,trivial⟩
def An.s:LL Tryz.f88 C4.d 2 An.p:=mL [] C4.a trivial
def C4.s (k:Nat):CK 88 (C4.e k):=mS C4.d k [2] Tryz.func88 (C4.a k) ⟨An.s,trivial⟩
def Js.e (k:Nat):Ent:=⟨1,[(.val true t25)],[(.one,.b)],λ x=>Js x⟩
def Js.d:Fd := { nt:=23,nv:=1,nm:=[0,1],res:=[2],cs:=λ k=>[(85,E7.e k)] }
def Js.s (k:Nat):CK 149 (Js.e k):=mS Js.d k [] Tryz.func149 ⟨E7.s k,trivial⟩ trivial
def Df.e (k:Nat):Ent:=⟨1,[(.val true t48)],[(.one,.b)],λ x=>Df k x⟩
def Eu.p:LF:=⟨⟨[(1,(.bp 1 0 0)),(2999,(.hd 9))],[(6,t35),(7,(.i .i64)),(8,(.i .i64)),(2000,t48)]⟩,[(.ret,⟨[],[(2,.b)]⟩),((.exit 0),⟨[(1,(.bp 1 0 0)),(2999,(.hd 9))],[(2000,t48)]⟩)],λ k x=>Eu k x.1 x.2.1 x.2.2.1 x.2.2.2⟩
def Df.d:Fd := { nt:=35,nv:=1,nm:=[0,1,3,4],res:=[2],cs:=λ k=>[(12,Dz.e k),(88,C4.e k),(149,Js.e k)],ls:=[(2,Eu.p)],rf:=true }
def Df.a (k:Nat):AC (Df.d.cs k):=⟨Dz.s k,C4.s k,Js.s k,trivial⟩
def Eu.s:LL Tryz.f86 Df.d 2 Eu.p:=mL [] Df.a trivial
def Df.s (k:Nat):CK 86 (Df.e k):=mS Df.d k [2] Tryz.func86 (Df.a k) ⟨Eu.s,trivial⟩
def J9.e (k:Nat):Ent:=⟨1,[(.val true t27)],[(.one,.b)],λ x=>J9 k x⟩
def J9.d:Fd := { nt:=26,nv:=1,nm:=[0,1],res:=[2],cs:=λ k=>[(42,Et.e k),(85,E7.e k),(88,C4.e k)] }
def J9.s (k:Nat):CK 150 (J9.e k):=mS J9.d k [] Tryz.func150 ⟨Et.s k,E7.s k,C4.s k,trivial⟩ trivial
def E8.e (k:Nat):Ent:=⟨1,[(.val false t13)],[(.one,.b)],λ x=>E8 k x⟩
def Ev.p:LF:=⟨⟨[],[(0,t13),(5,t13),(6,(.i .i64)),(7,(.i .i64))]⟩,[(.ret,⟨[],[(2,.b)]⟩),((.exit 0),⟨[],[(0,t13)]⟩)],λ k x=>Ev k x.1 x.2.1 x.2.2.1 x.2.2.2⟩
def E8.d:Fd := { nt:=41,nv:=1,nm:=[0,1,3,4],res:=[2],cs:=λ k=>[(88,C4.e k)],ls:=[(2,Ev.p)] }
def E8.a (k:Nat):AC (E8.d.cs k):=⟨C4.s k,trivial⟩
def Ev.s:LL Tryz.f198 E8.d 2 Ev.p:=mL [] E8.a trivial
def E8.s (k:Nat):CK 198 (E8.e k):=mS E8.d k [2] Tryz.func198 (E8.a k) ⟨Ev.s,trivial⟩
def Jt.e (k:Nat):Ent:=⟨1,[(.val true t28)],[(.one,.b)],λ x=>Jt k x⟩
def Jt.d:Fd := { nt:=11,nv:=1,nm:=[0,1],res:=[2],cs:=λ k=>[(198,E8.e k)] }
def Jt.s (k:Nat):CK 151 (Jt.e k):=mS Jt.d k [] Tryz.func151 ⟨E8.s k,trivial⟩ trivial
def Ef.e (k:Nat):Ent:=⟨1,[(.val false t31)],[(.one,.b)],λ x=>Ef k x⟩
def G7.p:LF:=⟨⟨[],[(0,t31),(5,t31),(6,(.i .i64)),(7,(.i .i64))]⟩,[(.ret,⟨[],[(2,.b)]⟩),((.exit 0),⟨[],[(0,t31)]⟩)],λ k x=>G7 k x.1 x.2.1 x.2.2.1 x.2.2.2⟩
def Ef.d:Fd := { nt:=34,nv:=1,nm:=[0,1,3,4],res:=[2],cs:=λ k=>[(150,J9.e k)],ls:=[(2,G7.p)] }
def Ef.a (k:Nat):AC (Ef.d.cs k):=⟨J9.s k,trivial⟩
def G7.s:LL Tryz.f152 Ef.d 2 G7.p:=mL [] Ef.a trivial
def Ef.s (k:Nat):CK 152 (Ef.e k):=mS Ef.d k [2] Tryz.func152 (Ef.a k) ⟨G7.s,trivial⟩
def Eg.e (k:Nat):Ent:=⟨1,[(.val true t40)],[(.one,.b)],λ x=>Eg k x⟩
def H4.p:LF:=⟨⟨[(1,(.bp 1 0 0)),(2999,(.hd 5))],[(6,t31),(7,(.i .i64)),(8,(.i .i64)),(2000,(.i .i64)),(2001,t13),(2002,t13),(2003,t31),(2004,t31)]⟩,[(.ret,⟨[],[(2,.b)]⟩),((.exit 0),⟨[(1,(.bp 1 0 0)),(2999,(.hd 5))],[(2000,(.i .i64)),(2001,t13),(2002,t13),(2003,t31),(2004,t31)]⟩)],λ k x=>H4 k x.1 x.2.1 x.2.2.1 x.2.2.2.1 x.2.2.2.2.1 x.2.2.2.2.2.1 x.2.2.2.2.2.2.1 x.2.2.2.2.2.2.2⟩
def Eg.d:Fd := { nt:=35,nv:=1,nm:=[0,1,3,4],res:=[2],cs:=λ k=>[(42,Et.e k),(150,J9.e k),(151,Jt.e k),(152,Ef.e k)],ls:=[(2,H4.p)] }
def Eg.a (k:Nat):AC (Eg.d.cs k):=⟨Et.s k,J9.s k,Jt.s k,Ef.s k,trivial⟩
def H4.s:LL Tryz.f87 Eg.d 2 H4.p:=mL [] Eg.a trivial
def Eg.s (k:Nat):CK 87 (Eg.e k):=mS Eg.d k [2] Tryz.func87 (Eg.a k) ⟨H4.s,trivial⟩
def Da.e (k:Nat):Ent:=⟨1,[(.val true t48)],[(.one,.b)],λ x=>Da k x⟩
def Cr.p:LF:=⟨⟨[(1,(.bp 1 0 0)),(2999,(.hd 9))],[(57,t0),(58,(.i .i64)),(59,(.i .i64)),(2000,t48)]⟩,[(.ret,⟨[],[(2,.b)]⟩),((.exit 2),⟨[],[]⟩)],λ k x=>Cr k x.1 x.2.1 x.2.2.1 x.2.2.2⟩
def Ew.p:LF:=⟨⟨[(1,(.bp 1 0 0)),(2999,(.hd 9))],[(34,t45),(35,(.i .i64)),(36,(.i .i64)),(2000,t48)]⟩,[(.ret,⟨[],[(2,.b)]⟩),((.exit 0),⟨[(1,(.bp 1 0 0)),(2999,(.hd 9))],[(2000,t48)]⟩)],λ k x=>Ew k x.1 x.2.1 x.2.2.1 x.2.2.2⟩
def Da.d:Fd := { nt:=82,nv:=1,nm:=[0,1,3,4,5,6],res:=[2],cs:=λ k=>[(84,F8.e k),(85,E7.e k),(86,Df.e k),(87,Eg.e k),(88,C4.e k)],ls:=[(10,Cr.p),(4,Ew.p)],rf:=true }
def Da.a (k:Nat):AC (Da.d.cs k):=⟨F8.s k,E7.s k,Df.s k,Eg.s k,C4.s k,trivial⟩
def Cr.s:LL Tryz.f32 Da.d 10 Cr.p:=mL [] Da.a trivial
def Ew.s:LL Tryz.f32 Da.d 4 Ew.p:=mL [] Da.a trivial
def Da.s (k:Nat):CK 32 (Da.e k):=mS Da.d k [4,10] Tryz.func32 (Da.a k) ⟨Ew.s,Cr.s,trivial⟩
def Hi.e (k:Nat):Ent:=⟨2,[(.val true t48),(.val false (.i .i64))],[(.one,.b)],λ x=>Hi k x.1 x.2⟩
def Hi.d:Fd := { nt:=15,nv:=2,nm:=[0,1,2,3],res:=[4],cs:=λ k=>[(32,Da.e k),(42,Et.e k)],rf:=true }
def Hi.s (k:Nat):CK 77 (Hi.e k):=mS Hi.d k [] Tryz.func77 ⟨Da.s k,Et.s k,trivial⟩ trivial
def J5.e (k:Nat):Ent:=⟨2,[(.val false t6),(.val false (.i .i64))],[(.one,(.i .i64))],λ x=>J5 x.1 x.2⟩
def J5.d:Fd := { nt:=20,nv:=2,nm:=[0,1,2,3],res:=[4],cs:=λ k=>[(42,Et.e k)],rf:=true }
def J5.s (k:Nat):CK 132 (J5.e k):=mS J5.d k [] Tryz.func132 ⟨Et.s k,trivial⟩ trivial
def I6.e (k:Nat):Ent:=⟨2,[(.val true t27),(.val true t27)],[(.one,.b)],λ x=>I6 x.1 x.2⟩
def I6.d:Fd := { nt:=29,nv:=2,nm:=[0,1,2,3],res:=[4],cs:=λ k=>[(12,Dz.e k)] }
def I6.s (k:Nat):CK 95 (I6.e k):=mS I6.d k [] Tryz.func95 ⟨Dz.s k,trivial⟩ trivial
def Bt.e (k:Nat):Ent:=⟨2,[(.val false t31),(.val true t27)],[(.one,t32)],λ x=>Bt k x.1 x.2⟩
def Dv.p:LF:=⟨⟨[(3,(.bp 3 0 0)),(4999,(.hd 6))],[(0,t31),(8,(.i .i64)),(4000,.s),(4001,(.i .i64)),(4002,(.i .i64)),(4003,(.i .i64)),(4004,.b),(4005,(.i .i64))]⟩,[((.exit 2),⟨[(3,(.bp 3 0 0)),(4999,(.hd 6))],[(0,t31),(8,(.i .i64)),(4000,.s),(4001,(.i .i64)),(4002,(.i .i64)),(4003,(.i .i64)),(4004,.b),(4005,(.i .i64))]⟩)],λ k x=>Dv k x.1 x.2.1 x.2.2.1 x.2.2.2.1 x.2.2.2.2.1 x.2.2.2.2.2.1 x.2.2.2.2.2.2.1 x.2.2.2.2.2.2.2⟩
def Ey.p:LF:=⟨⟨[(3,(.bp 3 0 0)),(4999,(.hd 6))],[(0,t31),(5,t32),(11,t31),(12,(.i .i64)),(13,(.i .i64)),(4000,.s),(4001,(.i .i64)),(4002,(.i .i64)),(4003,(.i .i64)),(4004,.b),(4005,(.i .i64))]⟩,[(.ret,⟨[],[(4,t32)]⟩),((.exit 0),⟨[(3,(.bp 3 0 0)),(4999,(.hd 6))],[(0,t31),(4000,.s),(4001,(.i .i64)),(4002,(.i .i64)),(4003,(.i .i64)),(4004,.b),(4005,(.i .i64))]⟩)],λ k x=>Ey k x.1 x.2.1 x.2.2.1 x.2.2.2.1 x.2.2.2.2.1 x.2.2.2.2.2.1 x.2.2.2.2.2.2.1 x.2.2.2.2.2.2.2.1 x.2.2.2.2.2.2.2.2.1 x.2.2.2.2.2.2.2.2.2.1 x.2.2.2.2.2.2.2.2.2.2⟩
def Bt.d:Fd := { nt:=60,nv:=2,nm:=[0,1,2,3,5,6,7,8],res:=[4],cs:=λ k=>[(94,Aj.e k),(95,I6.e k)],ls:=[(11,Dv.p),(3,Ey.p)] }
def Bt.a (k:Nat):AC (Bt.d.cs k):=⟨Aj.s k,I6.s k,trivial⟩
def Dv.s:LL Tryz.f39 Bt.d 11 Dv.p:=mL [] Bt.a trivial
def Ey.s:LL Tryz.f39 Bt.d 3 Ey.p:=mL [] Bt.a trivial
def Bt.s (k:Nat):CK 39 (Bt.e k):=mS Bt.d k [3,11] Tryz.func39 (Bt.a k) ⟨Ey.s,Dv.s,trivial⟩
def Bu.e (k:Nat):Ent:=⟨2,[(.val false t31),(.val false t31)],[(.one,t32)],λ x=>Bu k x.1 x.2⟩
def Dw.p:LF:=⟨⟨[],[(5,t32),(10,t31),(11,(.i .i64)),(12,(.i .i64))]⟩,[((.exit 0),⟨[],[(5,t32)]⟩)],λ k x=>Dw k x.1 x.2.1 x.2.2.1 x.2.2.2⟩
def Bu.d:Fd := { nt:=21,nv:=2,nm:=[0,1,2,3,5,6,7],res:=[4],cs:=λ k=>[(39,Bt.e k),(94,Aj.e k)],ls:=[(3,Dw.p)] }
def Bu.a (k:Nat):AC (Bu.d.cs k):=⟨Bt.s k,Aj.s k,trivial⟩
def Dw.s:LL Tryz.f40 Bu.d 3 Dw.p:=mL [] Bu.a trivial
def Bu.s (k:Nat):CK 40 (Bu.e k):=mS Bu.d k [3] Tryz.func40 (Bu.a k) ⟨Dw.s,trivial⟩
def I7.e (k:Nat):Ent:=⟨2,[(.val true t40),(.val false t31)],[(.agg,t41),(.one,.b)],λ x=>I7 k x.1 x.2⟩
def I7.d:Fd := { nt:=30,nv:=2,nm:=[0,1,2,3,6],res:=[5],cs:=λ k=>[(40,Bu.e k),(87,Eg.e k),(97,Ee.e k),(152,Ef.e k)],mv:=[17,29] }
def I7.s (k:Nat):CK 199 (I7.e k):=mS I7.d k [] Tryz.func199 ⟨Bu.s k,Eg.s k,Ee.s k,Ef.s k,trivial⟩ trivial
def Ao.e (k:Nat):Ent:=⟨4,[(.ptr t51 t51),(.val false t31),(.val false t6),(.val false (.i .i64))],[(.one,.b)],λ x=>Ao k x.1 x.2.1 x.2.2.1 x.2.2.2⟩
def Ay.p:LF:=⟨⟨[(0,(.bp 0 0 0)),(1999,(.hd 9))],[(1,t31),(2,t6),(3,(.i .i64)),(9,.b),(17,t7),(18,(.i .i64)),(19,(.i .i64)),(1000,t51)]⟩,[((.exit 0),⟨[(1999,(.hd 9))],[(9,.b),(1000,t51)]⟩)],λ k x=>Ay k x.1 x.2.1 x.2.2.1 x.2.2.2.1 x.2.2.2.2.1 x.2.2.2.2.2.1 x.2.2.2.2.2.2.1 x.2.2.2.2.2.2.2⟩
def Ao.d:Fd := { nt:=56,nv:=4,nm:=[0,1,2,3,4,5,6,7,9,10,11,12,13],res:=[8],cs:=λ k=>[(11,E4.e k),(132,J5.e k),(199,I7.e k)],ls:=[(3,Ay.p)],rf:=true }
def Ao.a (k:Nat):AC (Ao.d.cs k):=⟨E4.s k,J5.s k,I7.s k,trivial⟩
def Ay.s:LL Tryz.f153 Ao.d 3 Ay.p:=mL [] Ao.a trivial
def Ao.s (k:Nat):CK 153 (Ao.e k):=mS Ao.d k [3] Tryz.func153 (Ao.a k) ⟨Ay.s,trivial⟩
def Bq.e (k:Nat):Ent:=⟨3,[(.ptr t51 t51),(.val false (.i .i64)),(.val false t6)],[(.one,.b)],λ x=>Bq k x.1 x.2.1 x.2.2⟩
def Bq.d:Fd := { nt:=47,nv:=3,nm:=[0,1,2,3,4,5],res:=[6],cs:=λ k=>[(94,Aj.e k),(153,Ao.e k)],rf:=true }
def Bq.s (k:Nat):CK 90 (Bq.e k):=mS Bq.d k [] Tryz.func90 ⟨Aj.s k,Ao.s k,trivial⟩ trivial
def J6.e (k:Nat):Ent:=⟨3,[(.val true t48),(.val false (.i .i64)),(.val false t6)],[(.agg,t51),(.one,.b)],λ x=>J6 k x.1 x.2.1 x.2.2⟩
def J6.d:Fd := { nt:=24,nv:=3,nm:=[0,1,2,3,4,5,8],res:=[7],cs:=λ k=>[(41,Ad.e k),(77,Hi.e k),(90,Bq.e k)],mv:=[23],rf:=true }
def J6.s (k:Nat):CK 34 (J6.e k):=mS J6.d k [] Tryz.func34 ⟨Ad.s k,Hi.s k,Bq.s k,trivial⟩ trivial
def F9.e (k:Nat):Ent:=⟨2,[(.val true t17),(.val false t22)],[(.one,.b)],λ x=>F9 k x.1 x.2⟩
def H5.p:LF:=⟨⟨[(2,(.bp 2 0 0)),(3999,(.hd 2))],[(1,t22),(5,(.i .i64)),(6,(.i .i64)),(3000,t17)]⟩,[(.ret,⟨[],[(4,.b)]⟩),((.exit 2),⟨[(2,(.bp 2 0 0)),(3999,(.hd 2))],[(1,t22),(5,(.i .i64)),(3000,t17)]⟩)],λ k x=>H5 k x.1 x.2.1 x.2.2.1 x.2.2.2⟩
def H6.p:LF:=⟨⟨[(2,(.bp 2 0 0)),(3999,(.hd 2))],[(1,t22),(5,(.i .i64)),(3000,t17)]⟩,[(.ret,⟨[],[(4,.b)]⟩),((.exit 0),⟨[],[]⟩)],λ k x=>H6 k x.1 x.2.1 x.2.2⟩
def F9.d:Fd := { nt:=68,nv:=2,nm:=[0,1,2,3,5,6,7,8],res:=[4],cs:=λ k=>[(72,A6.e k),(122,C1.e k),(123,Ec.e k),(124,E9.e k)],ls:=[(9,H5.p),(4,H6.p)],rf:=true }
def F9.a (k:Nat):AC (F9.d.cs k):=⟨A6.s k,C1.s k,Ec.s k,E9.s k,trivial⟩
def H5.s:LL Tryz.f64 F9.d 9 H5.p:=mL [] F9.a trivial
def H6.s:LL Tryz.f64 F9.d 4 H6.p:=mL [9] F9.a ⟨H5.s,trivial⟩
def F9.s (k:Nat):CK 64 (F9.e k):=mS F9.d k [4] Tryz.func64 (F9.a k) ⟨H6.s,trivial⟩
def Dg.e (k:Nat):Ent:=⟨1,[(.val true t48)],[(.one,.b)],λ x=>Dg k x⟩
def Ez.p:LF:=⟨⟨[(1,(.bp 1 0 0)),(2999,(.hd 9))],[(3,(.i .i64)),(2000,t48)]⟩,[(.ret,⟨[],[(2,.b)]⟩),((.exit 0),⟨[],[]⟩)],λ k x=>Ez k x.1 x.2⟩
def Dg.d:Fd := { nt:=40,nv:=1,nm:=[0,1,3],res:=[2],cs:=λ k=>[(125,C3.e k)],ls:=[(4,Ez.p)],rf:=true }
def Dg.a (k:Nat):AC (Dg.d.cs k):=⟨C3.s k,trivial⟩
def Ez.s:LL Tryz.f65 Dg.d 4 Ez.p:=mL [] Dg.a trivial
def Dg.s (k:Nat):CK 65 (Dg.e k):=mS Dg.d k [4] Tryz.func65 (Dg.a k) ⟨Ez.s,trivial⟩
def Db.e (k:Nat):Ent:=⟨1,[(.val true t48)],[(.one,.b)],λ x=>Db k x⟩
def Cs.p:LF:=⟨⟨[(1,(.bp 1 0 0)),(2999,(.hd 9))],[(5,(.i .i64)),(2000,t48)]⟩,[(.ret,⟨[],[(2,.b)]⟩),((.exit 2),⟨[],[]⟩)],λ k x=>Cs k x.1 x.2⟩
def Fx.p:LF:=⟨⟨[(1,(.bp 1 0 0)),(2999,(.hd 9))],[(3,(.i .i64)),(2000,t48)]⟩,[(.ret,⟨[],[(2,.b)]⟩),((.exit 0),⟨[(1,(.bp 1 0 0)),(2999,(.hd 9))],[(2000,t48)]⟩)],λ k x=>Fx k x.1 x.2⟩
def Db.d:Fd := { nt:=91,nv:=1,nm:=[0,1,3,4,5],res:=[2],cs:=λ k=>[(64,F9.e k),(65,Dg.e k),(66,C9.e k),(67,Al.e k),(68,C2.e k),(69,Ca.e k)],ls:=[(10,Cs.p),(4,Fx.p)],rf:=true }
def Db.a (k:Nat):AC (Db.d.cs k):=⟨F9.s k,Dg.s k,C9.s k,Al.s k,C2.s k,Ca.s k,trivial⟩
def Cs.s:LL Tryz.f26 Db.d 10 Cs.p:=mL [] Db.a trivial
def Fx.s:LL Tryz.f26 Db.d 4 Fx.p:=mL [] Db.a trivial
def Db.s (k:Nat):CK 26 (Db.e k):=mS Db.d k [4,10] Tryz.func26 (Db.a k) ⟨Fx.s,Cs.s,trivial⟩
def Eh.e (k:Nat):Ent:=⟨2,[(.val true t48),(.val false (.i .i64))],[(.one,.b)],λ x=>Eh k x.1 x.2⟩
def Eh.d:Fd := { nt:=15,nv:=2,nm:=[0,1,2,3],res:=[4],cs:=λ k=>[(26,Db.e k),(72,A6.e k)],rf:=true }
def Eh.s (k:Nat):CK 80 (Eh.e k):=mS Eh.d k [] Tryz.func80 ⟨Db.s k,A6.s k,trivial⟩ trivial
def Jf.e (k:Nat):Ent:=⟨3,[(.val true t48),(.val false (.i .i64)),(.val false t6)],[(.agg,t51),(.one,.b)],λ x=>Jf k x.1 x.2.1 x.2.2⟩
def Jf.d:Fd := { nt:=24,nv:=3,nm:=[0,1,2,3,4,5,8],res:=[7],cs:=λ k=>[(79,Am.e k),(80,Eh.e k),(91,D5.e k)],mv:=[23],rf:=true }
def Jf.s (k:Nat):CK 35 (Jf.e k):=mS Jf.d k [] Tryz.func35 ⟨Am.s k,Eh.s k,D5.s k,trivial⟩ trivial
def Ba.e (k:Nat):Ent:=⟨3,[(.ptr t51 t51),(.val false (.i .i64)),(.val false t6)],[(.one,.b)],λ x=>Ba k x.1 x.2.1 x.2.2⟩
def Ba.d:Fd := { nt:=43,nv:=3,nm:=[0,1,2,3,4,5,7,8],res:=[6],cs:=λ k=>[(11,E4.e k),(49,Hh.e k),(94,Aj.e k),(153,Ao.e k)],rf:=true }
def Ba.s (k:Nat):CK 92 (Ba.e k):=mS Ba.d k [] Tryz.func92 ⟨E4.s k,Hh.s k,Aj.s k,Ao.s k,trivial⟩ trivial
def Hd.e (k:Nat):Ent:=⟨3,[(.val true t48),(.val false (.i .i64)),(.val false t6)],[(.agg,t51),(.one,.b)],λ x=>Hd k x.1 x.2.1 x.2.2⟩
def Hd.d:Fd := { nt:=24,nv:=3,nm:=[0,1,2,3,4,5,8],res:=[7],cs:=λ k=>[(41,Ad.e k),(77,Hi.e k),(92,Ba.e k)],mv:=[23],rf:=true }
def Hd.s (k:Nat):CK 36 (Hd.e k):=mS Hd.d k [] Tryz.func36 ⟨Ad.s k,Hi.s k,Ba.s k,trivial⟩ trivial
def It.e (k:Nat):Ent:=⟨3,[(.val true t48),(.val false (.i .i64)),(.val false t6)],[(.agg,t51),(.one,.b)],λ x=>It k x.1 x.2.1 x.2.2⟩
def It.d:Fd := { nt:=24,nv:=3,nm:=[0,1,2,3,4,5,8],res:=[7],cs:=λ k=>[(79,Am.e k),(80,Eh.e k),(93,D6.e k)],mv:=[23],rf:=true }
def It.s (k:Nat):CK 37 (It.e k):=mS It.d k [] Tryz.func37 ⟨Am.s k,Eh.s k,D6.s k,trivial⟩ trivial
def G9.e (k:Nat):Ent:=⟨2,[(.val false t31),(.val false t31)],[(.one,.b)],λ x=>G9 k x.1 x.2⟩
def F3.p:LF:=⟨⟨[],[(0,t31),(1,t31),(5,(.i .i64))]⟩,[(.ret,⟨[],[(4,.b)]⟩),((.exit 0),⟨[],[]⟩)],λ k x=>F3 k x.1 x.2.1 x.2.2⟩
def G9.d:Fd := { nt:=26,nv:=2,nm:=[0,1,2,3,5],res:=[4],ls:=[(4,F3.p)] }
def F3.s:LL Tryz.f38 G9.d 4 F3.p:=mL [] (λ _=>trivial) trivial
def G9.s (k:Nat):CK 38 (G9.e k):=mS G9.d k [4] Tryz.func38 trivial ⟨F3.s,trivial⟩
def Bz.e (k:Nat):Ent:=⟨1,[(.val false t4)],[(.one,.b)],λ x=>Bz k x⟩
def B5.p:LF:=⟨⟨[(3,(.bp 3 0 0)),(20,(.bp 20 0 0)),(4999,(.hd 9)),(21999,(.hd 9))],[(4,(.i .i64)),(15,t6),(22,(.i .i64)),(4000,t48),(21000,t48)]⟩,[(.ret,⟨[],[(2,.b)]⟩),((.exit 2),⟨[(20,(.bp 20 0 0)),(21999,(.hd 9))],[(4,(.i .i64)),(15,t6),(21000,t48)]⟩)],λ k x=>B5 k x.1 x.2.1 x.2.2.1 x.2.2.2.1 x.2.2.2.2⟩
def C5.p:LF:=⟨⟨[(3,(.bp 3 0 0)),(16,(.bp 16 0 0)),(18,(.bp 18 0 0)),(4999,(.hd 9)),(17999,(.hd 9)),(19999,(.hd 6))],[(4,(.i .i64)),(11,.b),(14,t6),(15,t6),(19,(.i .i64)),(4000,t48),(17000,t48),(19000,t27)]⟩,[(.ret,⟨[],[(2,.b)]⟩),((.exit 0),⟨[(3,(.bp 3 0 0)),(4999,(.hd 9))],[(4,(.i .i64)),(11,.b),(14,t6),(15,t6),(4000,t48)]⟩)],λ k x=>C5 k x.1 x.2.1 x.2.2.1 x.2.2.2.1 x.2.2.2.2.1 x.2.2.2.2.2.1 x.2.2.2.2.2.2.1 x.2.2.2.2.2.2.2⟩
def Bz.d:Fd := { nt:=202,nv:=1,nm:=[0,1,3,4,5,6,7,8,9,10,11,12,13,14,15,16,17,18,19,20,21,22],res:=[2],cs:=λ k=>[(8,N8.e k),(11,E4.e k),(31,Le.e k),(33,Er.e k),(34,J6.e k),(35,Jf.e k),(36,Hd.e k),(37,It.e k),(38,G9.e k),(39,Bt.e k),(40,Bu.e k)],ls:=[(25,B5.p),(18,C5.p)],sh:=true,rf:=true }
def Bz.a (k:Nat):AC (Bz.d.cs k):=⟨N8.s k,E4.s k,Le.s k,Er.s k,J6.s k,Jf.s k,Hd.s k,It.s k,G9.s k,Bt.s k,Bu.s k,trivial⟩
def B5.s:LL Tryz.f7 Bz.d 25 B5.p:=mL [] Bz.a trivial
def C5.s:LL Tryz.f7 Bz.d 18 C5.p:=mL [] Bz.a trivial
def Bz.s (k:Nat):CK 7 (Bz.e k):=mS Bz.d k [18,25] Tryz.func7 (Bz.a k) ⟨C5.s,B5.s,trivial⟩
end

def Tot {α:Type} (f:Nat→Option α) (Q:α→Prop):Prop:=∃ r K,(∀ k,K≤k→f k=some r)∧Q r
section
variable {α β:Type} {f g:Nat→Option α} {Q Q':α→Prop}
def Tot.mono (h:Tot f Q) (hq:∀ a,Q a→Q' a):Tot f Q':=by
 obtain⟨r,K,h1,h2⟩:=h
 exact⟨r,K,h1,hq r h2⟩
def Fdb {a:α} (h:Q a):Tot (λ _=>some a) Q:=⟨a,0,λ _ _=>rfl,h⟩
def Fqb {o:Option α} {a:α} (e:o=some a) (h:Q a):Tot (λ _=>o) Q:=⟨a,0,λ _ _=>e,h⟩
def Feb {h:Nat→α→Option β} {R:β→Prop} (hf:Tot f Q) (hh:∀ a,Q a→Tot (λ k=>h k a) R):Tot (λ k=>(f k).bind (h k)) R:=by
 obtain⟨a,K,h1,h2⟩:=hf
 obtain⟨b,L,h3,h4⟩:=hh a h2
 exact⟨b,max K L,λ k hk=>by show (f k).bind (h k)=_;rw[h1 k (by omega)];exact h3 k (by omega),h4⟩
def Fgb {c:Bool} (hc:c=true) (h:Tot f Q):Tot (λ k=>cond c (f k) (g k)) Q:=by subst hc;exact h
def Ffb {c:Bool} (hc:c=false) (h:Tot g Q):Tot (λ k=>cond c (f k) (g k)) Q:=by subst hc;exact h
def Fjb {c:Bool} (h1:c=true→Tot f Q) (h2:c=false→Tot g Q):Tot (λ k=>cond c (f k) (g k)) Q:=by
 cases hc:c with
 |true=>exact h1 hc
 |false=>exact h2 hc
def Fhb {p:Prop} [Decidable p] (hp:p) (h:Tot f Q):Tot (λ k=>cond (decide p) (f k) (g k)) Q:=Fgb (decide_eq_true hp) h
def Fib {p:Prop} [Decidable p] (hp:¬ p) (h:Tot g Q):Tot (λ k=>cond (decide p) (f k) (g k)) Q:=Ffb (decide_eq_false hp) h
def Fkb {p:Prop} [Decidable p] (h1:p→Tot f Q) (h2:¬ p→Tot g Q):Tot (λ k=>cond (decide p) (f k) (g k)) Q:=
 Fjb (λ h=>h1 (of_decide_eq_true h)) (λ h=>h2 (of_decide_eq_false h))
def Flb {m n:Nat} (hp:m≤n) (h:Tot f Q):Tot (λ k=>cond (Nat.ble m n) (f k) (g k)) Q:=Fgb (Zi hp) h
def Fpb {v:α} {h:Nat→α→Option β} {R:β→Prop} (hf:Tot f (λ r=>r=v)) (hh:Tot (λ k=>h k v) R):Tot (λ k=>(f k).bind (h k)) R:=
 Feb hf (by rintro r rfl;exact hh)
def Tot.succ (h:Tot (λ k=>f (k+1)) Q):Tot f Q:=by
 obtain⟨r,K,h1,h2⟩:=h
 exact⟨r,K+1,λ k hk=>by obtain⟨m,rfl⟩:∃ m,k=m+1:=⟨k-1,by omega⟩;exact h1 m (by omega),h2⟩
def Tot.and (h:Tot f Q) (h':Tot f Q'):Tot f (λ a=>Q a∧Q' a):=by
 obtain⟨r,K,h1,h2⟩:=h
 obtain⟨r',K',h1',h2'⟩:=h'
 have e:r=r':=by
  have a1:=h1 (max K K') (by omega)
  have a2:=h1' (max K K') (by omega)
  rw[a1]at a2
  exact Option.some.inj a2
 subst e
 exact⟨r,K,h1,h2,h2'⟩
def Tot.law {f:Nat→Option Bool} (h:Tot f (λ b=>b=true)):∃ k,f k=some true:=by
 obtain⟨r,K,h1,h2⟩:=h
 subst h2
 exact⟨K,h1 K (Vw _)⟩
end
def w64 {n:Int} (h1 : -9223372036854775808≤n) (h2:n≤9223372036854775807):wrap .i64 n=n:=Go.IntWalk.i64_in n ⟨h1,h2⟩
def Bva (n:Int) : -9223372036854775808≤wrap .i64 n∧wrap .i64 n≤9223372036854775807:=by
 rw[IntKind.wrap_i64]
 omega
def Fua (n:Int):0≤wrap .u8 n∧wrap .u8 n≤255:=by
 simp only[wrap,IntKind.signed,IntKind.bits]
 simp
 omega
def Lea (x m:Int) (h0:0≤m) (h1:m<9223372036854775808):0≤wrap .i64 ((ofInt (IntKind.bits .i64) x &&& ofInt (IntKind.bits .i64) m).toNat)∧wrap .i64 ((ofInt (IntKind.bits .i64) x &&& ofInt (IntKind.bits .i64) m).toNat)≤m:=by
 have hm:(ofInt (IntKind.bits .i64) m).toNat=m.toNat:=by
  rw[H5b]
  show (m % ((2 ^ 64:Nat):Int)).toNat=m.toNat
  rw[Int.emod_eq_of_lt h0 (by omega)]
 have hle:(ofInt (IntKind.bits .i64) x &&& ofInt (IntKind.bits .i64) m).toNat≤m.toNat:=by
  rw[Hkb,hm]
  exact Nat.and_le_right
 rw[w64 (by omega) (by omega)]
 omega
def R9a {x n:Int} (hx:0≤x) (hn:0<n):0≤Int.tmod x n∧Int.tmod x n<n:=by
 rw[Gpb hx]
 exact⟨Int.emod_nonneg _ (by omega),Int.emod_lt_of_pos _ hn⟩

end Go.Proofs.YtiiekghlhfbmmaaGreat.Vf
