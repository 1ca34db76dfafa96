import Derived.Test.YtiiekghlhfbmmaaGreatMab
import Derived.Test.YtiiekghlhfbmmaaGreatMaj
import Derived.Test.YtiiekghlhfbmmaaGreatProg
import Derived.KernelRfl
set_option linter.all false
namespace Go.Proofs.YtiiekghlhfbmmaaGreat.Vf
open Go
open List (length getD)
open Int (toNat)
open Go.IntKind (wrap)
open BitVec (ofInt)

section
open Go.Proofs
@[reducible] def t0:Ty := .sl 9 .s
@[reducible] def t1:Ty := .sl 4 .b
@[reducible] def t2:Ty := .ow 9 .s
@[reducible] def t3:Ty := .ow 4 .b
@[reducible] def t4:Ty := .sl 5 (.i .u8)
@[reducible] def t5:Ty := .ow 5 (.i .u8)
@[reducible] def t6:Ty := .sl 3 (.i .i64)
@[reducible] def t7:Ty := .ow 3 (.i .i64)
@[reducible] def t8:Ty := .pr .s (.i .u64)
@[reducible] def t9:Ty := .pr (.i .i64) (.i .i64)
@[reducible] def t10:Ty := .sl 87 t6
@[reducible] def t11:Ty := .pr .s t4
@[reducible] def t12:Ty := .pr .s t5
@[reducible] def t13:Ty := .sl 130 t11
@[reducible] def t14:Ty := .ow 130 t11
@[reducible] def t15:Ty := .ow 130 t12
@[reducible] def t16:Ty := .pr (.i .i64) t9
@[reducible] def t17:Ty := .pr (.i .i64) t10
@[reducible] def t18:Ty := .pr (.i .i64) (.ow 87 t6)
@[reducible] def t19:Ty := .pr (.i .i64) (.ow 87 t7)
@[reducible] def t20:Ty := .pr t4 (.pr (.i .i64) .b)
@[reducible] def t21:Ty := .pr t4 t9
@[reducible] def t22:Ty := .sl 110 t16
@[reducible] def t23:Ty := .ow 110 t16
@[reducible] def t24:Ty := .pr (.i .i64) (.pr (.i .i64) (.pr .b (.i .u8)))
@[reducible] def t25:Ty := .pr t16 (.pr .b t4)
@[reducible] def t26:Ty := .pr t16 (.pr .b t5)
@[reducible] def t27:Ty := .pr .s (.pr t16 (.pr .b (.i .i64)))
@[reducible] def t28:Ty := .pr t13 t13
@[reducible] def t29:Ty := .pr t14 t14
@[reducible] def t30:Ty := .pr t15 t15
@[reducible] def t31:Ty := .sl 50 t27
@[reducible] def t32:Ty := .ow 50 t27
@[reducible] def t33:Ty := .pr .s (.pr t25 .b)
@[reducible] def t34:Ty := .pr (.i .i64) (.pr (.i .i64) (.pr .s (.pr t4 (.pr (.i .i64) t6))))
@[reducible] def t35:Ty := .sl 42 t33
@[reducible] def t36:Ty := .ow 42 t33
@[reducible] def t37:Ty := .pr t32 t32
@[reducible] def t38:Ty := .pr (.i .i64) (.pr t28 (.pr t31 t31))
@[reducible] def t39:Ty := .pr (.i .i64) (.pr t29 t37)
@[reducible] def t40:Ty := .pr (.i .i64) (.pr t28 t37)
@[reducible] def t41:Ty := .sl 48 t38
@[reducible] def t42:Ty := .ow 48 t38
@[reducible] def t43:Ty := .pr t42 (.pr t16 (.pr t36 t2))
@[reducible] def t44:Ty := .pr t22 (.pr t17 (.pr t41 (.pr t16 (.pr t35 t0))))
@[reducible] def t45:Ty := .pr t23 (.pr t18 t43)
@[reducible] def t46:Ty := .pr t23 (.pr t17 (.pr t42 (.pr t16 (.pr t36 t0))))
@[reducible] def t47:Ty := .pr t23 (.pr t17 t43)
def tiL:List (Nat×TI):=[(2,⟨(.i .i64),false,8,[]⟩),
 (3,⟨(.i .i64),false,8,[]⟩),
 (4,⟨.b,false,1,[]⟩),
 (5,⟨(.i .u8),false,1,[]⟩),
 (6,⟨(.i .u8),false,1,[]⟩),
 (7,⟨t24,true,24,[(0,1,false),(1,1,false),(2,1,false),(3,1,false)]⟩),
 (8,⟨t24,true,24,[(0,1,false),(1,1,false),(2,1,false),(3,1,false)]⟩),
 (9,⟨.s,false,16,[]⟩),
 (10,⟨.s,false,16,[]⟩),
 (11,⟨.s,false,16,[]⟩),
 (12,⟨(.i .u64),false,8,[]⟩),
 (13,⟨t8,true,24,[(0,1,false),(1,1,false)]⟩),
 (14,⟨t8,true,24,[(0,1,false),(1,1,false)]⟩),
 (21,⟨(.i .i32),false,4,[]⟩),
 (22,⟨t4,false,24,[]⟩),
 (24,⟨t22,false,24,[]⟩),
 (25,⟨t10,false,24,[]⟩),
 (26,⟨t17,true,32,[(0,1,false),(1,1,false)]⟩),
 (27,⟨t17,true,32,[(0,1,false),(1,1,false)]⟩),
 (28,⟨t41,false,24,[]⟩),
 (29,⟨t16,true,24,[(0,1,false),(1,1,false),(2,1,false)]⟩),
 (30,⟨t16,true,24,[(0,1,false),(1,1,false),(2,1,false)]⟩),
 (31,⟨t35,false,24,[]⟩),
 (32,⟨t0,false,24,[]⟩),
 (33,⟨t44,true,152,[(0,1,false),(1,2,true),(3,1,false),(4,3,true),(7,1,false),(8,1,false)]⟩),
 (34,⟨t44,true,152,[(0,1,false),(1,2,true),(3,1,false),(4,3,true),(7,1,false),(8,1,false)]⟩),
 (37,⟨t6,false,24,[]⟩),
 (39,⟨t25,true,56,[(0,3,true),(3,1,false),(4,1,false)]⟩),
 (40,⟨t25,true,56,[(0,3,true),(3,1,false),(4,1,false)]⟩),
 (41,⟨t33,true,80,[(0,1,false),(1,5,true),(6,1,false)]⟩),
 (42,⟨t33,true,80,[(0,1,false),(1,5,true),(6,1,false)]⟩),
 (43,⟨t13,false,24,[]⟩),
 (44,⟨t28,true,48,[(0,1,false),(1,1,false)]⟩),
 (45,⟨t28,true,48,[(0,1,false),(1,1,false)]⟩),
 (46,⟨t31,false,24,[]⟩),
 (47,⟨t38,true,104,[(0,1,false),(1,2,true),(3,1,false),(4,1,false)]⟩),
 (48,⟨t38,true,104,[(0,1,false),(1,2,true),(3,1,false),(4,1,false)]⟩),
 (49,⟨t27,true,56,[(0,1,false),(1,3,true),(4,1,false),(5,1,false)]⟩),
 (50,⟨t27,true,56,[(0,1,false),(1,3,true),(4,1,false),(5,1,false)]⟩),
 (59,⟨t34,true,88,[(0,1,false),(1,1,false),(2,1,false),(3,1,false),(4,1,false),(5,1,false)]⟩),
 (60,⟨t34,true,88,[(0,1,false),(1,1,false),(2,1,false),(3,1,false),(4,1,false),(5,1,false)]⟩),
 (86,⟨t6,true,24,[(0,1,false)]⟩),
 (87,⟨t6,true,24,[(0,1,false)]⟩),
 (109,⟨t16,true,24,[(0,1,false),(1,1,false),(2,1,false)]⟩),
 (110,⟨t16,true,24,[(0,1,false),(1,1,false),(2,1,false)]⟩),
 (122,⟨t21,true,40,[(0,1,false),(1,1,false),(2,1,false)]⟩),
 (123,⟨t21,true,40,[(0,1,false),(1,1,false),(2,1,false)]⟩),
 (129,⟨t11,true,40,[(0,1,false),(1,1,false)]⟩),
 (130,⟨t11,true,40,[(0,1,false),(1,1,false)]⟩),
 (139,⟨t20,true,40,[(0,1,false),(1,1,false),(2,1,false)]⟩),
 (140,⟨t20,true,40,[(0,1,false),(1,1,false),(2,1,false)]⟩),
 (177,⟨t1,false,24,[]⟩),
 (192,⟨(.i .u64),false,8,[]⟩),
 (201,⟨(.i .u32),false,4,[]⟩),
 (238,⟨(.i .u8),false,1,[]⟩),
 (239,⟨(.i .u8),false,1,[]⟩),
 (242,⟨(.i .i32),false,4,[]⟩),
 (243,⟨(.i .i32),false,4,[]⟩)]
def ti:TypeId→Option TI:=lk tiL
def Fvb:List Nat:=[29,30,49,50,109,110]
def eqs:TypeId→Bool:=λ T=>Fvb.contains T
def sK:Cka Tryz.prog ti eqs∧∀ T,X7 Tryz.prog ti T=true:=Ivb (P:=Tryz.prog) (ti:=ti) (eqs:=eqs) (keys:=tiL.map Prod.fst) (Fvb:=Fvb) Bzb (by kernel_rfl) (by kernel_rfl) rfl (by kernel_rfl)
def sO:Cka Tryz.prog ti eqs:=sK.1
def Jlb:∀ T t,ti T=some t→TOk Tryz.prog T t:=sO.tok
def Jmb:∀ T,X7 Tryz.prog ti T=true:=sK.2
abbrev CK:=Rj Tryz.prog
abbrev LL:=LK Tryz.prog
abbrev AC:=E8b Tryz.prog
def mS {f:FuncId} {fn:Func} (D:Fd) (k:Nat) {en:Ent} (ids:List Nat) (hf:Tryz.prog.funcs[f]? = some fn) (hc:AC (D.cs k)) (hi:E9b Tryz.prog fn D ids) (h:(Iub fn D en,Nz (bo fn),ids.map λ l=>first (N4 l (bo fn)))=(true,ids.map λ l=>N4 l (bo fn),ids):=by kernel_rfl) (hr:∀ x,Sla (D.n ti eqs k) (bo fn) fn.results.toList en x=en.run x:=by intro x;kernel_rfl):CK f en:=mkS sO ids hf hc hi (congrArg Prod.fst h) (congrArg Prod.snd h) hr
def mL {fn:Func} {D:Fd} {l:Nat} {p:LF} (ids:List Nat) (hc:∀ k,AC (D.cs k)) (hi:E9b Tryz.prog fn D ids) (h:(Nat.beq D.nt fn.ntmps,Nz (N4 l (bo fn)),ids.map λ l=>first (N4 l (bo fn)))=(true,ids.map λ l=>N4 l (bo fn),ids):=by kernel_rfl) (h0:∀ x,p.f 0 x=none:=by intro _;rfl) (hs:Jgb ti eqs fn D l p:=by intro k x;kernel_rfl):LL fn D l p:=mkL sO ids (congrArg Prod.fst h) hc hi (congrArg Prod.snd h) h0 hs
def Pi.e (k:Nat):Ent:=⟨1,[(.val false t4)],[(.one,.b)],λ x=>Pi x⟩
def Pi.d:Fd := { nt:=6,nv:=1,nm:=[0,1],res:=[2] }
def Pi.s (k:Nat):CK 8 (Pi.e k):=mS Pi.d k [] Tryz.func8 trivial trivial
def C8.e (k:Nat):Ent:=⟨3,[(.val false (.i .i64)),(.val false (.i .i64)),(.val false (.i .i64))],[(.one,.b)],λ x=>C8 x.1 x.2.1 x.2.2⟩
def C8.d:Fd := { nt:=15,nv:=3,nm:=[0,1,2,3,4,5],res:=[6] }
def C8.s (k:Nat):CK 42 (C8.e k):=mS C8.d k [] Tryz.func42 trivial trivial
def D8.e (k:Nat):Ent:=⟨1,[(.val false t22)],[(.one,.b)],λ x=>D8 k x⟩
def H5.p:LF:=⟨⟨[],[(0,t22),(5,t22),(6,(.i .i64)),(7,(.i .i64))]⟩,[(.ret,⟨[],[(2,.b)]⟩),((.exit 0),⟨[],[(0,t22)]⟩)],λ k x=>H5 k x.1 x.2.1 x.2.2.1 x.2.2.2⟩
def D8.d:Fd := { nt:=47,nv:=1,nm:=[0,1,3,4],res:=[2],cs:=λ k=>[(42,C8.e k)],ls:=[(2,H5.p)],rf:=true }
def D8.a (k:Nat):AC (D8.d.cs k):=⟨C8.s k,trivial⟩
def H5.s:LL Tryz.f146 D8.d 2 H5.p:=mL [] D8.a trivial
def D8.s (k:Nat):CK 146 (D8.e k):=mS D8.d k [2] Tryz.func146 (D8.a k) ⟨H5.s,trivial⟩
def Ap.e (k:Nat):Ent:=⟨2,[(.val false t6),(.val false (.i .i64))],[(.one,.b)],λ x=>Ap k x.1 x.2⟩
def I2.p:LF:=⟨⟨[],[(1,(.i .i64)),(7,t6),(8,(.i .i64)),(9,(.i .i64))]⟩,[(.ret,⟨[],[(4,.b)]⟩),((.exit 0),⟨[],[]⟩)],λ k x=>I2 k x.1 x.2.1 x.2.2.1 x.2.2.2⟩
def Ap.d:Fd := { nt:=17,nv:=2,nm:=[0,1,2,3,5,6],res:=[4],ls:=[(2,I2.p)],rf:=true }
def I2.s:LL Tryz.f49 Ap.d 2 I2.p:=mL [] (λ _=>trivial) trivial
def Ap.s (k:Nat):CK 49 (Ap.e k):=mS Ap.d k [2] Tryz.func49 trivial ⟨I2.s,trivial⟩
def Hg.e (k:Nat):Ent:=⟨1,[(.val false t6)],[(.one,.b)],λ x=>Hg k x⟩
def Je.p:LF:=⟨⟨[],[(0,t6),(5,t6),(6,(.i .i64)),(7,(.i .i64))]⟩,[(.ret,⟨[],[(2,.b)]⟩),((.exit 0),⟨[],[]⟩)],λ k x=>Je k x.1 x.2.1 x.2.2.1 x.2.2.2⟩
def Hg.d:Fd := { nt:=18,nv:=1,nm:=[0,1,3,4],res:=[2],cs:=λ k=>[(49,Ap.e k)],ls:=[(2,Je.p)],rf:=true }
def Hg.a (k:Nat):AC (Hg.d.cs k):=⟨Ap.s k,trivial⟩
def Je.s:LL Tryz.f147 Hg.d 2 Je.p:=mL [] Hg.a trivial
def Hg.s (k:Nat):CK 147 (Hg.e k):=mS Hg.d k [2] Tryz.func147 (Hg.a k) ⟨Je.s,trivial⟩
def Fb.e (k:Nat):Ent:=⟨2,[(.val false t22),(.val false (.i .i64))],[(.agg,t16),(.one,.b)],λ x=>Fb k x.1 x.2⟩
def Jf.p:LF:=⟨⟨[(4,(.bp 4 0 0)),(5999,(.hd 3))],[(1,(.i .i64)),(8,t22),(9,(.i .i64)),(10,(.i .i64)),(5000,t16)]⟩,[(.ret,⟨[(4,(.bp 4 0 0)),(5999,(.hd 3))],[(5,.b),(5000,t16)]⟩),((.exit 0),⟨[(4,(.bp 4 0 0)),(5999,(.hd 3))],[(5000,t16)]⟩)],λ k x=>Jf k x.1 x.2.1 x.2.2.1 x.2.2.2.1 x.2.2.2.2⟩
def Fb.d:Fd := { nt:=21,nv:=2,nm:=[0,1,2,3,6,7],res:=[5],ls:=[(2,Jf.p)],rf:=true }
def Jf.s:LL Tryz.f148 Fb.d 2 Jf.p:=mL [] (λ _=>trivial) trivial
def Fb.s (k:Nat):CK 148 (Fb.e k):=mS Fb.d k [2] Tryz.func148 trivial ⟨Jf.s,trivial⟩
def G8.e (k:Nat):Ent:=⟨2,[(.val true t17),(.val false t22)],[(.one,.b)],λ x=>G8 k x.1 x.2⟩
def I3.p:LF:=⟨⟨[(2,(.bp 2 0 0)),(3999,(.hd 2))],[(1,t22),(28,t10),(29,(.i .i64)),(30,(.i .i64)),(47,t6),(48,(.i .i64)),(49,(.i .i64)),(3000,t17)]⟩,[(.ret,⟨[],[(4,.b)]⟩),((.exit 2),⟨[(2,(.bp 2 0 0)),(3999,(.hd 2))],[(1,t22),(28,t10),(29,(.i .i64)),(30,(.i .i64)),(3000,t17)]⟩)],λ k x=>I3 k x.1 x.2.1 x.2.2.1 x.2.2.2.1 x.2.2.2.2.1 x.2.2.2.2.2.1 x.2.2.2.2.2.2.1 x.2.2.2.2.2.2.2⟩
def I4.p:LF:=⟨⟨[(2,(.bp 2 0 0)),(3999,(.hd 2))],[(1,t22),(28,t10),(29,(.i .i64)),(30,(.i .i64)),(3000,t17)]⟩,[(.ret,⟨[],[(4,.b)]⟩),((.exit 0),⟨[],[]⟩)],λ k x=>I4 k x.1 x.2.1 x.2.2.1 x.2.2.2.1 x.2.2.2.2⟩
def G8.d:Fd := { nt:=63,nv:=2,nm:=[0,1,2,3,5,6,7,8,9,10],res:=[4],cs:=λ k=>[(42,C8.e k),(146,D8.e k),(147,Hg.e k),(148,Fb.e k)],ls:=[(9,I3.p),(4,I4.p)],rf:=true }
def G8.a (k:Nat):AC (G8.d.cs k):=⟨C8.s k,D8.s k,Hg.s k,Fb.s k,trivial⟩
def I3.s:LL Tryz.f84 G8.d 9 I3.p:=mL [] G8.a trivial
def I4.s:LL Tryz.f84 G8.d 4 I4.p:=mL [9] G8.a ⟨I3.s,trivial⟩
def G8.s (k:Nat):CK 84 (G8.e k):=mS G8.d k [4] Tryz.func84 (G8.a k) ⟨I4.s,trivial⟩
def Cf.e (k:Nat):Ent:=⟨1,[(.val true t16)],[(.one,.b)],λ x=>Cf x⟩
def Cf.d:Fd := { nt:=16,nv:=1,nm:=[0,1],res:=[2],cs:=λ k=>[(42,C8.e k)] }
def Cf.s (k:Nat):CK 85 (Cf.e k):=mS Cf.d k [] Tryz.func85 ⟨C8.s k,trivial⟩ trivial
def Av.e (k:Nat):Ent:=⟨2,[(.val true t16),(.val true t16)],[(.one,.b)],λ x=>Av x.1 x.2⟩
def Av.d:Fd := { nt:=32,nv:=2,nm:=[0,1,2,3],res:=[4] }
def Av.s (k:Nat):CK 12 (Av.e k):=mS Av.d k [] Tryz.func12 trivial trivial
def Ai.e (k:Nat):Ent:=⟨1,[(.val false .s)],[(.one,.b)],λ x=>Ai k x⟩
def Ar.p:LF:=⟨⟨[],[(0,.s),(3,(.i .i64))]⟩,[(.ret,⟨[],[(2,.b)]⟩),((.exit 0),⟨[],[(0,.s)]⟩)],λ k x=>Ar k x.1 x.2⟩
def Ai.d:Fd := { nt:=45,nv:=1,nm:=[0,1,3,4],res:=[2],cs:=λ k=>[(42,C8.e k)],ls:=[(2,Ar.p)] }
def Ai.a (k:Nat):AC (Ai.d.cs k):=⟨C8.s k,trivial⟩
def Ar.s:LL Tryz.f88 Ai.d 2 Ar.p:=mL [] Ai.a trivial
def Ai.s (k:Nat):CK 88 (Ai.e k):=mS Ai.d k [2] Tryz.func88 (Ai.a k) ⟨Ar.s,trivial⟩
def Ee.e (k:Nat):Ent:=⟨1,[(.val true t25)],[(.one,.b)],λ x=>Ee x⟩
def Ee.d:Fd := { nt:=23,nv:=1,nm:=[0,1],res:=[2],cs:=λ k=>[(85,Cf.e k)] }
def Ee.s (k:Nat):CK 149 (Ee.e k):=mS Ee.d k [] Tryz.func149 ⟨Cf.s k,trivial⟩ trivial
def E8.e (k:Nat):Ent:=⟨1,[(.val true t44)],[(.one,.b)],λ x=>E8 k x⟩
def Fg.p:LF:=⟨⟨[(1,(.bp 1 0 0)),(2999,(.hd 9))],[(6,t35),(7,(.i .i64)),(8,(.i .i64)),(2000,t44)]⟩,[(.ret,⟨[],[(2,.b)]⟩),((.exit 0),⟨[(1,(.bp 1 0 0)),(2999,(.hd 9))],[(2000,t44)]⟩)],λ k x=>Fg k x.1 x.2.1 x.2.2.1 x.2.2.2⟩
def E8.d:Fd := { nt:=35,nv:=1,nm:=[0,1,3,4],res:=[2],cs:=λ k=>[(12,Av.e k),(88,Ai.e k),(149,Ee.e k)],ls:=[(2,Fg.p)],rf:=true }
def E8.a (k:Nat):AC (E8.d.cs k):=⟨Av.s k,Ai.s k,Ee.s k,trivial⟩
def Fg.s:LL Tryz.f86 E8.d 2 Fg.p:=mL [] E8.a trivial
def E8.s (k:Nat):CK 86 (E8.e k):=mS E8.d k [2] Tryz.func86 (E8.a k) ⟨Fg.s,trivial⟩
def Le.e (k:Nat):Ent:=⟨1,[(.val true t27)],[(.one,.b)],λ x=>Le k x⟩
def Le.d:Fd := { nt:=26,nv:=1,nm:=[0,1],res:=[2],cs:=λ k=>[(42,C8.e k),(85,Cf.e k),(88,Ai.e k)] }
def Le.s (k:Nat):CK 150 (Le.e k):=mS Le.d k [] Tryz.func150 ⟨C8.s k,Cf.s k,Ai.s k,trivial⟩ trivial
def F7.e (k:Nat):Ent:=⟨1,[(.val false t13)],[(.one,.b)],λ x=>F7 k x⟩
def Fh.p:LF:=⟨⟨[],[(0,t13),(5,t13),(6,(.i .i64)),(7,(.i .i64))]⟩,[(.ret,⟨[],[(2,.b)]⟩),((.exit 0),⟨[],[(0,t13)]⟩)],λ k x=>Fh k x.1 x.2.1 x.2.2.1 x.2.2.2⟩
def F7.d:Fd := { nt:=41,nv:=1,nm:=[0,1,3,4],res:=[2],cs:=λ k=>[(88,Ai.e k)],ls:=[(2,Fh.p)] }
def F7.a (k:Nat):AC (F7.d.cs k):=⟨Ai.s k,trivial⟩
def Fh.s:LL Tryz.f198 F7.d 2 Fh.p:=mL [] F7.a trivial
def F7.s (k:Nat):CK 198 (F7.e k):=mS F7.d k [2] Tryz.func198 (F7.a k) ⟨Fh.s,trivial⟩
def Ay.e (k:Nat):Ent:=⟨1,[(.val true t28)],[(.one,.b)],λ x=>Ay k x⟩
def Ay.d:Fd := { nt:=11,nv:=1,nm:=[0,1],res:=[2],cs:=λ k=>[(198,F7.e k)] }
def Ay.s (k:Nat):CK 151 (Ay.e k):=mS Ay.d k [] Tryz.func151 ⟨F7.s k,trivial⟩ trivial
def Fc.e (k:Nat):Ent:=⟨1,[(.val false t31)],[(.one,.b)],λ x=>Fc k x⟩
def H6.p:LF:=⟨⟨[],[(0,t31),(5,t31),(6,(.i .i64)),(7,(.i .i64))]⟩,[(.ret,⟨[],[(2,.b)]⟩),((.exit 0),⟨[],[(0,t31)]⟩)],λ k x=>H6 k x.1 x.2.1 x.2.2.1 x.2.2.2⟩
def Fc.d:Fd := { nt:=34,nv:=1,nm:=[0,1,3,4],res:=[2],cs:=λ k=>[(150,Le.e k)],ls:=[(2,H6.p)] }
def Fc.a (k:Nat):AC (Fc.d.cs k):=⟨Le.s k,trivial⟩
def H6.s:LL Tryz.f152 Fc.d 2 H6.p:=mL [] Fc.a trivial
def Fc.s (k:Nat):CK 152 (Fc.e k):=mS Fc.d k [2] Tryz.func152 (Fc.a k) ⟨H6.s,trivial⟩
def Bn.e (k:Nat):Ent:=⟨1,[(.val true t38)],[(.one,.b)],λ x=>Bn k x⟩
def I5.p:LF:=⟨⟨[(1,(.bp 1 0 0)),(2999,(.hd 5))],[(6,t31),(7,(.i .i64)),(8,(.i .i64)),(2000,(.i .i64)),(2001,t13),(2002,t13),(2003,t31),(2004,t31)]⟩,[(.ret,⟨[],[(2,.b)]⟩),((.exit 0),⟨[(1,(.bp 1 0 0)),(2999,(.hd 5))],[(2000,(.i .i64)),(2001,t13),(2002,t13),(2003,t31),(2004,t31)]⟩)],λ k x=>I5 k x.1 x.2.1 x.2.2.1 x.2.2.2.1 x.2.2.2.2.1 x.2.2.2.2.2.1 x.2.2.2.2.2.2.1 x.2.2.2.2.2.2.2⟩
def Bn.d:Fd := { nt:=35,nv:=1,nm:=[0,1,3,4],res:=[2],cs:=λ k=>[(42,C8.e k),(150,Le.e k),(151,Ay.e k),(152,Fc.e k)],ls:=[(2,I5.p)] }
def Bn.a (k:Nat):AC (Bn.d.cs k):=⟨C8.s k,Le.s k,Ay.s k,Fc.s k,trivial⟩
def I5.s:LL Tryz.f87 Bn.d 2 I5.p:=mL [] Bn.a trivial
def Bn.s (k:Nat):CK 87 (Bn.e k):=mS Bn.d k [2] Tryz.func87 (Bn.a k) ⟨I5.s,trivial⟩
def Bv.e (k:Nat):Ent:=⟨1,[(.val true t44)],[(.one,.b)],λ x=>Bv k x⟩
def Dc.p:LF:=⟨⟨[(1,(.bp 1 0 0)),(2999,(.hd 9))],[(57,t0),(58,(.i .i64)),(59,(.i .i64)),(2000,t44)]⟩,[(.ret,⟨[],[(2,.b)]⟩),((.exit 2),⟨[],[]⟩)],λ k x=>Dc k x.1 x.2.1 x.2.2.1 x.2.2.2⟩
def Fi.p:LF:=⟨⟨[(1,(.bp 1 0 0)),(2999,(.hd 9))],[(34,t41),(35,(.i .i64)),(36,(.i .i64)),(2000,t44)]⟩,[(.ret,⟨[],[(2,.b)]⟩),((.exit 0),⟨[(1,(.bp 1 0 0)),(2999,(.hd 9))],[(2000,t44)]⟩)],λ k x=>Fi k x.1 x.2.1 x.2.2.1 x.2.2.2⟩
def Bv.d:Fd := { nt:=82,nv:=1,nm:=[0,1,3,4,5,6],res:=[2],cs:=λ k=>[(84,G8.e k),(85,Cf.e k),(86,E8.e k),(87,Bn.e k),(88,Ai.e k)],ls:=[(10,Dc.p),(4,Fi.p)],rf:=true }
def Bv.a (k:Nat):AC (Bv.d.cs k):=⟨G8.s k,Cf.s k,E8.s k,Bn.s k,Ai.s k,trivial⟩
def Dc.s:LL Tryz.f32 Bv.d 10 Dc.p:=mL [] Bv.a trivial
def Fi.s:LL Tryz.f32 Bv.d 4 Fi.p:=mL [] Bv.a trivial
def Bv.s (k:Nat):CK 32 (Bv.e k):=mS Bv.d k [4,10] Tryz.func32 (Bv.a k) ⟨Fi.s,Dc.s,trivial⟩
def Cc.e (k:Nat):Ent:=⟨1,[(.val false t6)],[(.one,t7)],λ x=>Cc x⟩
def Cc.d:Fd := { nt:=5,nv:=1,nm:=[0,1],res:=[2],rf:=true }
def Cc.s (k:Nat):CK 82 (Cc.e k):=mS Cc.d k [] Tryz.func82 trivial trivial
def Dk.e (k:Nat):Ent:=⟨1,[(.val true t17)],[(.agg,t18)],λ x=>Dk k x⟩
def Ed.p:LF:=⟨⟨[(2,(.bp 2 0 0)),(3,(.bp 3 0 0)),(3999,(.hd 2)),(4999,(.hd 2))],[(10,t10),(11,(.i .i64)),(12,(.i .i64)),(3000,t18),(4000,t18)]⟩,[((.exit 0),⟨[(2,(.bp 2 0 0)),(3,(.bp 3 0 0)),(3999,(.hd 2)),(4999,(.hd 2))],[(3000,t18),(4000,t18)]⟩)],λ k x=>Ed k x.1 x.2.1 x.2.2.1 x.2.2.2.1 x.2.2.2.2⟩
def Dk.d:Fd := { nt:=27,nv:=1,nm:=[0,1,3,4,5],res:=[],cs:=λ k=>[(82,Cc.e k)],ls:=[(3,Ed.p)],mv:=[26],rf:=true }
def Dk.a (k:Nat):AC (Dk.d.cs k):=⟨Cc.s k,trivial⟩
def Ed.s:LL Tryz.f96 Dk.d 3 Ed.p:=mL [] Dk.a trivial
def Dk.s (k:Nat):CK 96 (Dk.e k):=mS Dk.d k [3] Tryz.func96 (Dk.a k) ⟨Ed.s,trivial⟩
def Dl.e (k:Nat):Ent:=⟨1,[(.val true t17)],[(.agg,t19)],λ x=>Dl k x⟩
def Lh.p:LF:=⟨⟨[(2,(.bp 2 0 0)),(3,(.bp 3 0 0)),(3999,(.hd 2)),(4999,(.hd 2))],[(10,t10),(11,(.i .i64)),(12,(.i .i64)),(3000,t18),(4000,t19)]⟩,[((.exit 0),⟨[(2,(.bp 2 0 0)),(3,(.bp 3 0 0)),(3999,(.hd 2)),(4999,(.hd 2))],[(3000,t18),(4000,t19)]⟩)],λ k x=>Lh k x.1 x.2.1 x.2.2.1 x.2.2.2.1 x.2.2.2.2⟩
def Dl.d:Fd := { nt:=27,nv:=1,nm:=[0,1,3,4,5],res:=[],cs:=λ k=>[(82,Cc.e k)],ls:=[(3,Lh.p)],hint:=[(22,t7),(23,t7)],mv:=[26],rf:=true }
def Dl.a (k:Nat):AC (Dl.d.cs k):=⟨Cc.s k,trivial⟩
def Lh.s:LL Tryz.f96 Dl.d 3 Lh.p:=mL [] Dl.a trivial
def Dl.s (k:Nat):CK 96 (Dl.e k):=mS Dl.d k [3] Tryz.func96 (Dl.a k) ⟨Lh.s,trivial⟩
def Ae.e (k:Nat):Ent:=⟨1,[(.val false t31)],[(.one,t32)],λ x=>Ae x⟩
def Ae.d:Fd := { nt:=5,nv:=1,nm:=[0,1],res:=[2] }
def Ae.s (k:Nat):CK 94 (Ae.e k):=mS Ae.d k [] Tryz.func94 trivial trivial
def Al.e (k:Nat):Ent:=⟨1,[(.val false t4)],[(.one,t5)],λ x=>Al x⟩
def Al.d:Fd := { nt:=5,nv:=1,nm:=[0,1],res:=[2] }
def Al.s (k:Nat):CK 105 (Al.e k):=mS Al.d k [] Tryz.func105 trivial trivial
def B8.e (k:Nat):Ent:=⟨1,[(.val false t13)],[(.one,t14)],λ x=>B8 k x⟩
def Dd.p:LF:=⟨⟨[],[(3,t14),(6,t13),(7,(.i .i64)),(8,(.i .i64))]⟩,[((.exit 0),⟨[],[(3,t14)]⟩)],λ k x=>Dd k x.1 x.2.1 x.2.2.1 x.2.2.2⟩
def B8.d:Fd := { nt:=23,nv:=1,nm:=[0,1,3,4,5],res:=[2],cs:=λ k=>[(105,Al.e k)],ls:=[(3,Dd.p)] }
def B8.a (k:Nat):AC (B8.d.cs k):=⟨Al.s k,trivial⟩
def Dd.s:LL Tryz.f202 B8.d 3 Dd.p:=mL [] B8.a trivial
def B8.s (k:Nat):CK 202 (B8.e k):=mS B8.d k [3] Tryz.func202 (B8.a k) ⟨Dd.s,trivial⟩
def De.e (k:Nat):Ent:=⟨1,[(.val false t13)],[(.one,t15)],λ x=>De k x⟩
def Kg.p:LF:=⟨⟨[],[(3,t15),(6,t13),(7,(.i .i64)),(8,(.i .i64))]⟩,[((.exit 0),⟨[],[(3,t15)]⟩)],λ k x=>Kg k x.1 x.2.1 x.2.2.1 x.2.2.2⟩
def De.d:Fd := { nt:=23,nv:=1,nm:=[0,1,3,4,5],res:=[2],cs:=λ k=>[(105,Al.e k)],ls:=[(3,Kg.p)],hint:=[(19,t12),(20,t12)] }
def De.a (k:Nat):AC (De.d.cs k):=⟨Al.s k,trivial⟩
def Kg.s:LL Tryz.f202 De.d 3 Kg.p:=mL [] De.a trivial
def De.s (k:Nat):CK 202 (De.e k):=mS De.d k [3] Tryz.func202 (De.a k) ⟨Kg.s,trivial⟩
def A4.e (k:Nat):Ent:=⟨1,[(.val true t28)],[(.agg,t29)],λ x=>A4 k x⟩
def A4.d:Fd := { nt:=10,nv:=1,nm:=[0,1],res:=[],cs:=λ k=>[(202,B8.e k)] }
def A4.s (k:Nat):CK 156 (A4.e k):=mS A4.d k [] Tryz.func156 ⟨B8.s k,trivial⟩ trivial
def Jg.e (k:Nat):Ent:=⟨1,[(.val true t28)],[(.agg,t30)],λ x=>Jg k x⟩
def Jg.d:Fd := { nt:=10,nv:=1,nm:=[0,1],res:=[],cs:=λ k=>[(202,De.e k)] }
def Jg.s (k:Nat):CK 156 (Jg.e k):=mS Jg.d k [] Tryz.func156 ⟨De.s k,trivial⟩ trivial
def As.e (k:Nat):Ent:=⟨1,[(.val true t38)],[(.agg,t39)],λ x=>As k x⟩
def As.d:Fd := { nt:=15,nv:=1,nm:=[0,1],res:=[],cs:=λ k=>[(94,Ae.e k),(156,A4.e k)] }
def As.s (k:Nat):CK 97 (As.e k):=mS As.d k [] Tryz.func97 ⟨Ae.s k,A4.s k,trivial⟩ trivial
def Ga.e (k:Nat):Ent:=⟨1,[(.val true t25)],[(.agg,t26)],λ x=>Ga x⟩
def Ga.d:Fd := { nt:=8,nv:=1,nm:=[0,1],res:=[],cs:=λ k=>[(105,Al.e k)],mv:=[7],rf:=true }
def Ga.s (k:Nat):CK 98 (Ga.e k):=mS Ga.d k [] Tryz.func98 ⟨Al.s k,trivial⟩ trivial
def Az.e (k:Nat):Ent:=⟨1,[(.val true t44)],[(.agg,t45)],λ x=>Az k x⟩
def Ef.p:LF:=⟨⟨[(2,(.bp 2 0 0)),(3,(.bp 3 0 0)),(3999,(.hd 9)),(4999,(.hd 9))],[(36,t35),(37,(.i .i64)),(38,(.i .i64)),(3000,t45),(4000,t45)]⟩,[((.exit 2),⟨[(2,(.bp 2 0 0)),(3,(.bp 3 0 0)),(3999,(.hd 9)),(4999,(.hd 9))],[(3000,t45),(4000,t45)]⟩)],λ k x=>Ef k x.1 x.2.1 x.2.2.1 x.2.2.2.1 x.2.2.2.2⟩
def Eg.p:LF:=⟨⟨[(1,(.bp 1 0 0)),(2,(.bp 2 0 0)),(3,(.bp 3 0 0)),(2999,(.hd 9)),(3999,(.hd 9)),(4999,(.hd 9))],[(21,t41),(22,(.i .i64)),(23,(.i .i64)),(2000,t44),(3000,t45),(4000,t45)]⟩,[((.exit 0),⟨[(1,(.bp 1 0 0)),(2,(.bp 2 0 0)),(3,(.bp 3 0 0)),(2999,(.hd 9)),(3999,(.hd 9)),(4999,(.hd 9))],[(2000,t44),(3000,t45),(4000,t45)]⟩)],λ k x=>Eg k x.1 x.2.1 x.2.2.1 x.2.2.2.1 x.2.2.2.2.1 x.2.2.2.2.2⟩
def Az.d:Fd := { nt:=54,nv:=1,nm:=[0,1,3,4,5,6,7],res:=[],cs:=λ k=>[(96,Dk.e k),(97,As.e k),(98,Ga.e k)],ls:=[(8,Ef.p),(3,Eg.p)],mv:=[53],rf:=true }
def Az.a (k:Nat):AC (Az.d.cs k):=⟨Dk.s k,As.s k,Ga.s k,trivial⟩
def Ef.s:LL Tryz.f41 Az.d 8 Ef.p:=mL [] Az.a trivial
def Eg.s:LL Tryz.f41 Az.d 3 Eg.p:=mL [] Az.a trivial
def Az.s (k:Nat):CK 41 (Az.e k):=mS Az.d k [3,8] Tryz.func41 (Az.a k) ⟨Eg.s,Ef.s,trivial⟩
def Hn.e (k:Nat):Ent:=⟨2,[(.val false t13),(.val false .s)],[(.one,(.i .i64))],λ x=>Hn k x.1 x.2⟩
def Ms.p:LF:=⟨⟨[],[(1,.s),(7,t13),(8,(.i .i64)),(9,(.i .i64))]⟩,[(.ret,⟨[],[(4,(.i .i64))]⟩),((.exit 0),⟨[],[]⟩)],λ k x=>Ms k x.1 x.2.1 x.2.2.1 x.2.2.2⟩
def Hn.d:Fd := { nt:=20,nv:=2,nm:=[0,1,2,3,5,6],res:=[4],ls:=[(2,Ms.p)] }
def Ms.s:LL Tryz.f118 Hn.d 2 Ms.p:=mL [] (λ _=>trivial) trivial
def Hn.s (k:Nat):CK 118 (Hn.e k):=mS Hn.d k [2] Tryz.func118 trivial ⟨Ms.s,trivial⟩
def Gb.e (k:Nat):Ent:=⟨2,[(.val true t28),(.val false .s)],[(.one,t5),(.one,.b)],λ x=>Gb k x.1 x.2⟩
def Gb.d:Fd := { nt:=20,nv:=2,nm:=[0,1,2,3,6],res:=[4,5],cs:=λ k=>[(105,Al.e k),(118,Hn.e k)] }
def Gb.s (k:Nat):CK 61 (Gb.e k):=mS Gb.d k [] Tryz.func61 ⟨Al.s k,Hn.s k,trivial⟩ trivial
def J1.e (k:Nat):Ent:=⟨2,[(.val false t4),(.val false (.i .i64))],[(.one,(.i .i64)),(.one,(.i .i64)),(.one,.b)],λ x=>J1 k x.1 x.2⟩
def H7.p:LF:=⟨⟨[],[(0,t4),(1,(.i .i64)),(7,(.i .i64)),(8,(.i .i64))]⟩,[(.ret,⟨[],[(4,(.i .i64)),(5,(.i .i64)),(6,.b)]⟩),((.exit 0),⟨[],[]⟩)],λ k x=>H7 k x.1 x.2.1 x.2.2.1 x.2.2.2⟩
def J1.d:Fd := { nt:=57,nv:=2,nm:=[0,1,2,3,7,8,9],res:=[4,5,6],ls:=[(3,H7.p)] }
def H7.s:LL Tryz.f222 J1.d 3 H7.p:=mL [] (λ _=>trivial) trivial
def J1.s (k:Nat):CK 222 (J1.e k):=mS J1.d k [3] Tryz.func222 trivial ⟨H7.s,trivial⟩
def Dm.e (k:Nat):Ent:=⟨1,[(.ptr t20 t20)],[(.one,(.i .i64))],λ x=>Dm k x⟩
def Dm.d:Fd := { nt:=35,nv:=1,nm:=[0,1,3,4,5],res:=[2],cs:=λ k=>[(222,J1.e k)] }
def Dm.s (k:Nat):CK 176 (Dm.e k):=mS Dm.d k [] Tryz.func176 ⟨J1.s k,trivial⟩ trivial
def Eh.e (k:Nat):Ent:=⟨1,[(.ptr t20 t20)],[(.agg,t16),(.one,.b)],λ x=>Eh k x⟩
def Eh.d:Fd := { nt:=31,nv:=1,nm:=[0,1,4,5],res:=[3],cs:=λ k=>[(176,Dm.e k)] }
def Eh.s (k:Nat):CK 119 (Eh.e k):=mS Eh.d k [] Tryz.func119 ⟨Dm.s k,trivial⟩ trivial
def Kr.e (k:Nat):Ent:=⟨2,[(.val false t4),(.val false (.i .i64))],[(.one,.s),(.one,(.i .i64)),(.one,.b)],λ x=>Kr k x.1 x.2⟩
def Kr.d:Fd := { nt:=37,nv:=2,nm:=[0,1,2,3,7,8,9],res:=[4,5,6],cs:=λ k=>[(222,J1.e k)] }
def Kr.s (k:Nat):CK 177 (Kr.e k):=mS Kr.d k [] Tryz.func177 ⟨J1.s k,trivial⟩ trivial
def Df.e (k:Nat):Ent:=⟨1,[(.ptr t20 t20)],[(.one,.s)],λ x=>Df k x⟩
def Df.d:Fd := { nt:=35,nv:=1,nm:=[0,1,3,4,5],res:=[2],cs:=λ k=>[(177,Kr.e k)] }
def Df.s (k:Nat):CK 120 (Df.e k):=mS Df.d k [] Tryz.func120 ⟨Kr.s k,trivial⟩ trivial
def G9.e (k:Nat):Ent:=⟨2,[(.val false t5),(.val false (.i .i64))],[(.one,t5)],λ x=>G9 k x.1 x.2⟩
def I6.p:LF:=⟨⟨[],[(0,t5),(1,(.i .i64))]⟩,[((.exit 0),⟨[],[(0,t5),(1,(.i .i64))]⟩)],λ k x=>I6 k x.1 x.2⟩
def G9.d:Fd := { nt:=24,nv:=2,nm:=[0,1,2,3],res:=[4],ls:=[(2,I6.p)] }
def I6.s:LL Tryz.f223 G9.d 2 I6.p:=mL [] (λ _=>trivial) trivial
def G9.s (k:Nat):CK 223 (G9.e k):=mS G9.d k [2] Tryz.func223 trivial ⟨I6.s,trivial⟩
def Ks.e (k:Nat):Ent:=⟨2,[(.val false t5),(.val false .s)],[(.one,t5)],λ x=>Ks k x.1 x.2⟩
def Ks.d:Fd := { nt:=11,nv:=2,nm:=[0,1,2,3],res:=[4],cs:=λ k=>[(223,G9.e k)] }
def Ks.s (k:Nat):CK 178 (Ks.e k):=mS Ks.d k [] Tryz.func178 ⟨G9.s k,trivial⟩ trivial
def Pj.e (k:Nat):Ent:=⟨1,[(.val false .b)],[(.one,(.i .i64))],λ x=>Pj x⟩
def Pj.d:Fd := { nt:=4,nv:=1,nm:=[0,1],res:=[2] }
def Pj.s (k:Nat):CK 224 (Pj.e k):=mS Pj.d k [] Tryz.func224 trivial trivial
def Jh.e (k:Nat):Ent:=⟨3,[(.val false t5),(.val true t16),(.val false .b)],[(.one,t5)],λ x=>Jh k x.1 x.2.1 x.2.2⟩
def Jh.d:Fd := { nt:=20,nv:=3,nm:=[0,1,2,3,4,5],res:=[6],cs:=λ k=>[(223,G9.e k),(224,Pj.e k)] }
def Jh.s (k:Nat):CK 179 (Jh.e k):=mS Jh.d k [] Tryz.func179 ⟨G9.s k,Pj.s k,trivial⟩ trivial
def Nv.e (k:Nat):Ent:=⟨1,[(.val false t4)],[(.one,(.i .i64))],λ x=>Nv k x⟩
def Lj.p:LF:=⟨⟨[],[(3,(.i .u32)),(7,t4),(8,(.i .i64)),(9,(.i .i64)),(17,(.i .i64))]⟩,[((.exit 2),⟨[],[(3,(.i .u32)),(7,t4),(8,(.i .i64)),(9,(.i .i64))]⟩)],λ k x=>Lj k x.1 x.2.1 x.2.2.1 x.2.2.2.1 x.2.2.2.2⟩
def Lx.p:LF:=⟨⟨[],[(3,(.i .u32)),(7,t4),(8,(.i .i64)),(9,(.i .i64))]⟩,[((.exit 0),⟨[],[(3,(.i .u32))]⟩)],λ k x=>Lx k x.1 x.2.1 x.2.2.1 x.2.2.2⟩
def Nv.d:Fd := { nt:=32,nv:=1,nm:=[0,1,3,4,5,6],res:=[2],ls:=[(7,Lj.p),(3,Lx.p)] }
def Lj.s:LL Tryz.f180 Nv.d 7 Lj.p:=mL [] (λ _=>trivial) trivial
def Lx.s:LL Tryz.f180 Nv.d 3 Lx.p:=mL [7] (λ _=>trivial) ⟨Lj.s,trivial⟩
def Nv.s (k:Nat):CK 180 (Nv.e k):=mS Nv.d k [3] Tryz.func180 trivial ⟨Lx.s,trivial⟩
def G0.e (k:Nat):Ent:=⟨1,[(.val true t25)],[(.one,t5)],λ x=>G0 k x⟩
def G0.d:Fd := { nt:=33,nv:=1,nm:=[0,1,3,4],res:=[2],cs:=λ k=>[(149,Ee.e k),(178,Ks.e k),(179,Jh.e k),(180,Nv.e k)] }
def G0.s (k:Nat):CK 121 (G0.e k):=mS G0.d k [] Tryz.func121 ⟨Ee.s k,Ks.s k,Jh.s k,Nv.s k,trivial⟩ trivial
def C2.e (k:Nat):Ent:=⟨1,[(.val false t4)],[(.agg,t25),(.one,.b)],λ x=>C2 k x⟩
def C2.d:Fd := { nt:=41,nv:=1,nm:=[0,1,4,5,6],res:=[3],cs:=λ k=>[(119,Eh.e k),(120,Df.e k),(121,G0.e k)] }
def C2.s (k:Nat):CK 62 (C2.e k):=mS C2.d k [] Tryz.func62 ⟨Eh.s k,Df.s k,G0.s k,trivial⟩ trivial
def Gl.e (k:Nat):Ent:=⟨2,[(.val true t28),(.val false .s)],[(.agg,t25),(.one,(.i .i64))],λ x=>Gl k x.1 x.2⟩
def Gl.d:Fd := { nt:=28,nv:=2,nm:=[0,1,2,3,6,7,8,9],res:=[5],cs:=λ k=>[(61,Gb.e k),(62,C2.e k)] }
def Gl.s (k:Nat):CK 23 (Gl.e k):=mS Gl.d k [] Tryz.func23 ⟨Gb.s k,C2.s k,trivial⟩ trivial
def Cn.e (k:Nat):Ent:=⟨2,[(.val false t0),(.val false .s)],[(.one,t0)],λ x=>Cn k x.1 x.2⟩
def Fj.p:LF:=⟨⟨[],[(0,t0),(1,.s),(5,(.i .i64))]⟩,[((.exit 0),⟨[],[(0,t0),(1,.s),(5,(.i .i64))]⟩)],λ k x=>Fj k x.1 x.2.1 x.2.2⟩
def Cn.d:Fd := { nt:=44,nv:=2,nm:=[0,1,2,3,5],res:=[4],ls:=[(2,Fj.p)] }
def Fj.s:LL Tryz.f111 Cn.d 2 Fj.p:=mL [] (λ _=>trivial) trivial
def Cn.s (k:Nat):CK 111 (Cn.e k):=mS Cn.d k [2] Tryz.func111 trivial ⟨Fj.s,trivial⟩
def J5.e (k:Nat):Ent:=⟨1,[(.val true t28)],[(.one,t0)],λ x=>J5 k x⟩
def K7.p:LF:=⟨⟨[(1,(.bp 1 0 0)),(2999,(.hd 2))],[(3,t0),(9,t13),(10,(.i .i64)),(11,(.i .i64)),(2000,t28)]⟩,[((.exit 0),⟨[],[(3,t0)]⟩)],λ k x=>K7 k x.1 x.2.1 x.2.2.1 x.2.2.2.1 x.2.2.2.2⟩
def J5.d:Fd := { nt:=30,nv:=1,nm:=[0,1,3,4,5,6,7],res:=[2],cs:=λ k=>[(23,Gl.e k),(111,Cn.e k)],ls:=[(3,K7.p)],rf:=true }
def J5.a (k:Nat):AC (J5.d.cs k):=⟨Gl.s k,Cn.s k,trivial⟩
def K7.s:LL Tryz.f54 J5.d 3 K7.p:=mL [] J5.a trivial
def J5.s (k:Nat):CK 54 (J5.e k):=mS J5.d k [3] Tryz.func54 (J5.a k) ⟨K7.s,trivial⟩
def Nf.e (k:Nat):Ent:=⟨1,[(.val false .s)],[(.one,(.i .i64))],λ x=>Nf k x⟩
def Kt.p:LF:=⟨⟨[],[(0,.s),(3,(.i .u32)),(4,(.i .i64))]⟩,[((.exit 0),⟨[],[(3,(.i .u32))]⟩)],λ k x=>Kt k x.1 x.2.1 x.2.2⟩
def Nf.d:Fd := { nt:=20,nv:=1,nm:=[0,1,3,4],res:=[2],ls:=[(3,Kt.p)],rf:=true }
def Kt.s:LL Tryz.f145 Nf.d 3 Kt.p:=mL [] (λ _=>trivial) trivial
def Nf.s (k:Nat):CK 145 (Nf.e k):=mS Nf.d k [3] Tryz.func145 trivial ⟨Kt.s,trivial⟩
def Mj.e (k:Nat):Ent:=⟨2,[(.val false .s),(.val false (.i .i64))],[(.one,(.i .i64))],λ x=>Mj k x.1 x.2⟩
def Mj.d:Fd := { nt:=11,nv:=2,nm:=[0,1,2,3],res:=[4],cs:=λ k=>[(145,Nf.e k)],rf:=true }
def Mj.s (k:Nat):CK 83 (Mj.e k):=mS Mj.d k [] Tryz.func83 ⟨Nf.s k,trivial⟩ trivial
def B0.e (k:Nat):Ent:=⟨2,[(.val true t17),(.val false .s)],[(.one,t7)],λ x=>B0 k x.1 x.2⟩
def B0.d:Fd := { nt:=20,nv:=2,nm:=[0,1,2,3],res:=[4],cs:=λ k=>[(82,Cc.e k),(83,Mj.e k)],rf:=true }
def B0.s (k:Nat):CK 30 (B0.e k):=mS B0.d k [] Tryz.func30 ⟨Cc.s k,Mj.s k,trivial⟩ trivial
def Dn.e (k:Nat):Ent:=⟨2,[(.val true t44),(.val false t6)],[(.one,t7)],λ x=>Dn k x.1 x.2⟩
def Ei.p:LF:=⟨⟨[(2,(.bp 2 0 0)),(3999,(.hd 9))],[(5,t7),(7,(.i .i64)),(10,t6),(11,(.i .i64)),(12,(.i .i64)),(17,t41),(18,(.i .i64)),(19,(.i .i64)),(3000,t44)]⟩,[((.exit 2),⟨[(2,(.bp 2 0 0)),(3999,(.hd 9))],[(5,t7),(10,t6),(11,(.i .i64)),(12,(.i .i64)),(3000,t44)]⟩)],λ k x=>Ei k x.1 x.2.1 x.2.2.1 x.2.2.2.1 x.2.2.2.2.1 x.2.2.2.2.2.1 x.2.2.2.2.2.2.1 x.2.2.2.2.2.2.2.1 x.2.2.2.2.2.2.2.2⟩
def Gn.p:LF:=⟨⟨[(2,(.bp 2 0 0)),(3999,(.hd 9))],[(5,t7),(10,t6),(11,(.i .i64)),(12,(.i .i64)),(3000,t44)]⟩,[((.exit 0),⟨[],[(5,t7)]⟩)],λ k x=>Gn k x.1 x.2.1 x.2.2.1 x.2.2.2.1 x.2.2.2.2⟩
def Dn.d:Fd := { nt:=35,nv:=2,nm:=[0,1,2,3,5,6,7,8,9],res:=[4],ls:=[(6,Ei.p),(3,Gn.p)],rf:=true }
def Ei.s:LL Tryz.f47 Dn.d 6 Ei.p:=mL [] (λ _=>trivial) trivial
def Gn.s:LL Tryz.f47 Dn.d 3 Gn.p:=mL [6] (λ _=>trivial) ⟨Ei.s,trivial⟩
def Dn.s (k:Nat):CK 47 (Dn.e k):=mS Dn.d k [3] Tryz.func47 trivial ⟨Gn.s,trivial⟩
def F8.e (k:Nat):Ent:=⟨2,[(.val false t6),(.val false (.i .i64))],[(.one,(.i .i64))],λ x=>F8 x.1 x.2⟩
def F8.d:Fd := { nt:=20,nv:=2,nm:=[0,1,2,3],res:=[4],cs:=λ k=>[(42,C8.e k)],rf:=true }
def F8.s (k:Nat):CK 132 (F8.e k):=mS F8.d k [] Tryz.func132 ⟨C8.s k,trivial⟩ trivial
def Li.e (k:Nat):Ent:=⟨2,[(.val true t25),(.val true t25)],[(.one,.b)],λ x=>Li x.1 x.2⟩
def Li.d:Fd := { nt:=10,nv:=2,nm:=[0,1,2,3],res:=[4],cs:=λ k=>[(12,Av.e k)] }
def Li.s (k:Nat):CK 15 (Li.e k):=mS Li.d k [] Tryz.func15 ⟨Av.s k,trivial⟩ trivial
def I7.e (k:Nat):Ent:=⟨2,[(.val false t13),(.val false .s)],[(.one,t13)],λ x=>I7 k x.1 x.2⟩
def I7.d:Fd := { nt:=21,nv:=2,nm:=[0,1,2,3,5],res:=[4],cs:=λ k=>[(118,Hn.e k)] }
def I7.s (k:Nat):CK 190 (I7.e k):=mS I7.d k [] Tryz.func190 ⟨Hn.s k,trivial⟩ trivial
def N8.e (k:Nat):Ent:=⟨2,[(.val false t13),(.val true t11)],[(.one,t14)],λ x=>N8 k x.1 x.2⟩
def Ly.p:LF:=⟨⟨[(3,(.bp 3 0 0)),(4999,(.hd 2))],[(0,t13),(5,(.i .i64)),(4000,.s),(4001,t4)]⟩,[((.exit 0),⟨[(3,(.bp 3 0 0)),(4999,(.hd 2))],[(0,t13),(5,(.i .i64)),(4000,.s),(4001,t4)]⟩)],λ k x=>Ly k x.1 x.2.1 x.2.2.1 x.2.2.2⟩
def N8.d:Fd := { nt:=33,nv:=2,nm:=[0,1,2,3,5],res:=[4],ls:=[(2,Ly.p)] }
def Ly.s:LL Tryz.f191 N8.d 2 Ly.p:=mL [] (λ _=>trivial) trivial
def N8.s (k:Nat):CK 191 (N8.e k):=mS N8.d k [2] Tryz.func191 trivial ⟨Ly.s,trivial⟩
def Cd.e (k:Nat):Ent:=⟨2,[(.val true t28),(.val false .s)],[(.agg,(.pr t14 t13)),(.one,.b)],λ x=>Cd k x.1 x.2⟩
def Cd.d:Fd := { nt:=50,nv:=2,nm:=[0,1,2,3,6,7],res:=[5],cs:=λ k=>[(88,Ai.e k),(105,Al.e k),(118,Hn.e k),(151,Ay.e k),(156,A4.e k),(190,I7.e k),(191,N8.e k)],mv:=[18,49] }
def Cd.s (k:Nat):CK 135 (Cd.e k):=mS Cd.d k [] Tryz.func135 ⟨Ai.s k,Al.s k,Hn.s k,Ay.s k,A4.s k,I7.s k,N8.s k,trivial⟩ trivial
def Ew.e (k:Nat):Ent:=⟨3,[(.val true t28),(.val false .s),(.val false t4)],[(.agg,t29),(.one,.b)],λ x=>Ew k x.1 x.2.1 x.2.2⟩
def Ew.d:Fd := { nt:=42,nv:=3,nm:=[0,1,2,3,4,5,8],res:=[7],cs:=λ k=>[(88,Ai.e k),(105,Al.e k),(151,Ay.e k),(156,A4.e k),(190,I7.e k),(191,N8.e k)],mv:=[24,41] }
def Ew.s (k:Nat):CK 189 (Ew.e k):=mS Ew.d k [] Tryz.func189 ⟨Ai.s k,Al.s k,Ay.s k,A4.s k,I7.s k,N8.s k,trivial⟩ trivial
def Md.e (k:Nat):Ent:=⟨4,[(.val true t28),(.val false .s),(.val true t25),(.val false .b)],[(.agg,t28),(.one,(.i .i64))],λ x=>Md k x.1 x.2.1 x.2.2.1 x.2.2.2⟩
def Md.d:Fd := { nt:=82,nv:=4,nm:=[0,1,2,3,4,5,6,7,10,11,12,13,14,15,16,17,18,19],res:=[9],cs:=λ k=>[(15,Li.e k),(61,Gb.e k),(62,C2.e k),(88,Ai.e k),(121,G0.e k),(135,Cd.e k),(149,Ee.e k),(151,Ay.e k),(156,A4.e k),(189,Ew.e k)],mv:=[80] }
def Md.s (k:Nat):CK 133 (Md.e k):=mS Md.d k [] Tryz.func133 ⟨Li.s k,Gb.s k,C2.s k,Ai.s k,G0.s k,Cd.s k,Ee.s k,Ay.s k,A4.s k,Ew.s k,trivial⟩ trivial
def Fk.e (k:Nat):Ent:=⟨2,[(.val true t28),(.val false .s)],[(.agg,(.pr t13 t14)),(.one,.b)],λ x=>Fk k x.1 x.2⟩
def Fk.d:Fd := { nt:=26,nv:=2,nm:=[0,1,2,3,6],res:=[5],cs:=λ k=>[(118,Hn.e k),(151,Ay.e k),(156,A4.e k),(190,I7.e k)],mv:=[19,25] }
def Fk.s (k:Nat):CK 134 (Fk.e k):=mS Fk.d k [] Tryz.func134 ⟨Hn.s k,Ay.s k,A4.s k,I7.s k,trivial⟩ trivial
def Ad.e (k:Nat):Ent:=⟨4,[(.ptr t46 t46),(.val false (.i .i64)),(.val false .s),(.val false t6)],[(.one,.b)],λ x=>Ad k x.1 x.2.1 x.2.2.1 x.2.2.2⟩
def Af.p:LF:=⟨⟨[(0,(.bp 0 0 0)),(9,(.bp 9 0 0)),(1999,(.hd 9)),(10999,(.hd 5))],[(1,(.i .i64)),(2,.s),(3,t6),(11,.b),(12,.b),(43,t7),(44,(.i .i64)),(45,(.i .i64)),(1000,t46),(10000,t25)]⟩,[((.exit 0),⟨[(0,(.bp 0 0 0)),(1999,(.hd 9))],[(1,(.i .i64)),(2,.s),(11,.b),(12,.b),(1000,t46)]⟩)],λ k x=>Af k x.1 x.2.1 x.2.2.1 x.2.2.2.1 x.2.2.2.2.1 x.2.2.2.2.2.1 x.2.2.2.2.2.2.1 x.2.2.2.2.2.2.2.1 x.2.2.2.2.2.2.2.2.1 x.2.2.2.2.2.2.2.2.2⟩
def Ad.d:Fd := { nt:=120,nv:=4,nm:=[0,1,2,3,4,5,6,7,9,10,11,12,13,14,15,16,17,18],res:=[8],cs:=λ k=>[(23,Gl.e k),(30,B0.e k),(47,Dn.e k),(132,F8.e k),(133,Md.e k),(134,Fk.e k),(135,Cd.e k)],ls:=[(6,Af.p)],rf:=true }
def Ad.a (k:Nat):AC (Ad.d.cs k):=⟨Gl.s k,B0.s k,Dn.s k,F8.s k,Md.s k,Fk.s k,Cd.s k,trivial⟩
def Af.s:LL Tryz.f78 Ad.d 6 Af.p:=mL [] Ad.a trivial
def Ad.s (k:Nat):CK 78 (Ad.e k):=mS Ad.d k [6] Tryz.func78 (Ad.a k) ⟨Af.s,trivial⟩
def F9.e (k:Nat):Ent:=⟨1,[(.val true t44)],[(.one,t7)],λ x=>F9 k x⟩
def F9.d:Fd := { nt:=8,nv:=1,nm:=[0,1],res:=[2],cs:=λ k=>[(30,B0.e k),(47,Dn.e k)],rf:=true }
def F9.s (k:Nat):CK 11 (F9.e k):=mS F9.d k [] Tryz.func11 ⟨B0.s k,Dn.s k,trivial⟩ trivial
def Ji.e (k:Nat):Ent:=⟨2,[(.val true t27),(.val true t27)],[(.one,.b)],λ x=>Ji x.1 x.2⟩
def Ji.d:Fd := { nt:=29,nv:=2,nm:=[0,1,2,3],res:=[4],cs:=λ k=>[(12,Av.e k)] }
def Ji.s (k:Nat):CK 95 (Ji.e k):=mS Ji.d k [] Tryz.func95 ⟨Av.s k,trivial⟩ trivial
def Co.e (k:Nat):Ent:=⟨2,[(.val false t31),(.val true t27)],[(.one,t32)],λ x=>Co k x.1 x.2⟩
def Ej.p:LF:=⟨⟨[(3,(.bp 3 0 0)),(4999,(.hd 6))],[(0,t31),(8,(.i .i64)),(4000,.s),(4001,(.i .i64)),(4002,(.i .i64)),(4003,(.i .i64)),(4004,.b),(4005,(.i .i64))]⟩,[((.exit 2),⟨[(3,(.bp 3 0 0)),(4999,(.hd 6))],[(0,t31),(8,(.i .i64)),(4000,.s),(4001,(.i .i64)),(4002,(.i .i64)),(4003,(.i .i64)),(4004,.b),(4005,(.i .i64))]⟩)],λ k x=>Ej k x.1 x.2.1 x.2.2.1 x.2.2.2.1 x.2.2.2.2.1 x.2.2.2.2.2.1 x.2.2.2.2.2.2.1 x.2.2.2.2.2.2.2⟩
def Fl.p:LF:=⟨⟨[(3,(.bp 3 0 0)),(4999,(.hd 6))],[(0,t31),(5,t32),(11,t31),(12,(.i .i64)),(13,(.i .i64)),(4000,.s),(4001,(.i .i64)),(4002,(.i .i64)),(4003,(.i .i64)),(4004,.b),(4005,(.i .i64))]⟩,[(.ret,⟨[],[(4,t32)]⟩),((.exit 0),⟨[(3,(.bp 3 0 0)),(4999,(.hd 6))],[(0,t31),(4000,.s),(4001,(.i .i64)),(4002,(.i .i64)),(4003,(.i .i64)),(4004,.b),(4005,(.i .i64))]⟩)],λ k x=>Fl k x.1 x.2.1 x.2.2.1 x.2.2.2.1 x.2.2.2.2.1 x.2.2.2.2.2.1 x.2.2.2.2.2.2.1 x.2.2.2.2.2.2.2.1 x.2.2.2.2.2.2.2.2.1 x.2.2.2.2.2.2.2.2.2.1 x.2.2.2.2.2.2.2.2.2.2⟩
def Co.d:Fd := { nt:=60,nv:=2,nm:=[0,1,2,3,5,6,7,8],res:=[4],cs:=λ k=>[(94,Ae.e k),(95,Ji.e k)],ls:=[(11,Ej.p),(3,Fl.p)] }
def Co.a (k:Nat):AC (Co.d.cs k):=⟨Ae.s k,Ji.s k,trivial⟩
def Ej.s:LL Tryz.f39 Co.d 11 Ej.p:=mL [] Co.a trivial
def Fl.s:LL Tryz.f39 Co.d 3 Fl.p:=mL [] Co.a trivial
def Co.s (k:Nat):CK 39 (Co.e k):=mS Co.d k [3,11] Tryz.func39 (Co.a k) ⟨Fl.s,Ej.s,trivial⟩
def Cv.e (k:Nat):Ent:=⟨2,[(.val false t31),(.val false t31)],[(.one,t32)],λ x=>Cv k x.1 x.2⟩
def Ek.p:LF:=⟨⟨[],[(5,t32),(10,t31),(11,(.i .i64)),(12,(.i .i64))]⟩,[((.exit 0),⟨[],[(5,t32)]⟩)],λ k x=>Ek k x.1 x.2.1 x.2.2.1 x.2.2.2⟩
def Cv.d:Fd := { nt:=21,nv:=2,nm:=[0,1,2,3,5,6,7],res:=[4],cs:=λ k=>[(39,Co.e k),(94,Ae.e k)],ls:=[(3,Ek.p)] }
def Cv.a (k:Nat):AC (Cv.d.cs k):=⟨Co.s k,Ae.s k,trivial⟩
def Ek.s:LL Tryz.f40 Cv.d 3 Ek.p:=mL [] Cv.a trivial
def Cv.s (k:Nat):CK 40 (Cv.e k):=mS Cv.d k [3] Tryz.func40 (Cv.a k) ⟨Ek.s,trivial⟩
def Jj.e (k:Nat):Ent:=⟨2,[(.val true t38),(.val false t31)],[(.agg,t39),(.one,.b)],λ x=>Jj k x.1 x.2⟩
def Jj.d:Fd := { nt:=30,nv:=2,nm:=[0,1,2,3,6],res:=[5],cs:=λ k=>[(40,Cv.e k),(87,Bn.e k),(97,As.e k),(152,Fc.e k)],mv:=[17,29] }
def Jj.s (k:Nat):CK 199 (Jj.e k):=mS Jj.d k [] Tryz.func199 ⟨Cv.s k,Bn.s k,As.s k,Fc.s k,trivial⟩ trivial
def Au.e (k:Nat):Ent:=⟨4,[(.ptr t46 t46),(.val false t31),(.val false t6),(.val false (.i .i64))],[(.one,.b)],λ x=>Au k x.1 x.2.1 x.2.2.1 x.2.2.2⟩
def B5.p:LF:=⟨⟨[(0,(.bp 0 0 0)),(1999,(.hd 9))],[(1,t31),(2,t6),(3,(.i .i64)),(9,.b),(17,t7),(18,(.i .i64)),(19,(.i .i64)),(1000,t46)]⟩,[((.exit 0),⟨[(1999,(.hd 9))],[(9,.b),(1000,t46)]⟩)],λ k x=>B5 k x.1 x.2.1 x.2.2.1 x.2.2.2.1 x.2.2.2.2.1 x.2.2.2.2.2.1 x.2.2.2.2.2.2.1 x.2.2.2.2.2.2.2⟩
def Au.d:Fd := { nt:=56,nv:=4,nm:=[0,1,2,3,4,5,6,7,9,10,11,12,13],res:=[8],cs:=λ k=>[(11,F9.e k),(132,F8.e k),(199,Jj.e k)],ls:=[(3,B5.p)],rf:=true }
def Au.a (k:Nat):AC (Au.d.cs k):=⟨F9.s k,F8.s k,Jj.s k,trivial⟩
def B5.s:LL Tryz.f153 Au.d 3 B5.p:=mL [] Au.a trivial
def Au.s (k:Nat):CK 153 (Au.e k):=mS Au.d k [3] Tryz.func153 (Au.a k) ⟨B5.s,trivial⟩
def B6.e (k:Nat):Ent:=⟨3,[(.ptr t46 t46),(.val false (.i .i64)),(.val false t6)],[(.one,.b)],λ x=>B6 k x.1 x.2.1 x.2.2⟩
def B6.d:Fd := { nt:=47,nv:=3,nm:=[0,1,2,3,4,5],res:=[6],cs:=λ k=>[(94,Ae.e k),(153,Au.e k)],rf:=true }
def B6.s (k:Nat):CK 90 (B6.e k):=mS B6.d k [] Tryz.func90 ⟨Ae.s k,Au.s k,trivial⟩ trivial
def Ax.e (k:Nat):Ent:=⟨3,[(.ptr t46 t46),(.val false (.i .i64)),(.val false t6)],[(.one,.b)],λ x=>Ax k x.1 x.2.1 x.2.2⟩
def Ax.d:Fd := { nt:=43,nv:=3,nm:=[0,1,2,3,4,5,7,8],res:=[6],cs:=λ k=>[(11,F9.e k),(49,Ap.e k),(94,Ae.e k),(153,Au.e k)],rf:=true }
def Ax.s (k:Nat):CK 92 (Ax.e k):=mS Ax.d k [] Tryz.func92 ⟨F9.s k,Ap.s k,Ae.s k,Au.s k,trivial⟩ trivial
def Iu.e (k:Nat):Ent:=⟨0,[],[(.one,t7)],λ _=>Iu k⟩
def Fm.p:LF:=⟨⟨[],[(1,t7),(2,(.i .i64))]⟩,[((.exit 0),⟨[],[(1,t7)]⟩)],λ k x=>Fm k x.1 x.2⟩
def Iu.d:Fd := { nt:=9,nv:=0,nm:=[1],res:=[0],ls:=[(3,Fm.p)],rf:=true }
def Fm.s:LL Tryz.f99 Iu.d 3 Fm.p:=mL [] (λ _=>trivial) trivial
def Iu.s (k:Nat):CK 99 (Iu.e k):=mS Iu.d k [3] Tryz.func99 trivial ⟨Fm.s,trivial⟩
def Jw.e (k:Nat):Ent:=⟨1,[(.val true t28)],[(.agg,t28),(.one,(.i .i64))],λ x=>Jw k x⟩
def Iv.p:LF:=⟨⟨[(2,(.bp 2 0 0)),(4,(.bp 4 0 0)),(3999,(.hd 2)),(5999,(.hd 2))],[(5,(.i .i64)),(17,t13),(18,(.i .i64)),(19,(.i .i64)),(3000,t29),(5000,t28)]⟩,[((.exit 0),⟨[(2,(.bp 2 0 0)),(4,(.bp 4 0 0)),(3999,(.hd 2)),(5999,(.hd 2))],[(5,(.i .i64)),(3000,t29),(5000,t28)]⟩)],λ k x=>Iv k x.1 x.2.1 x.2.2.1 x.2.2.2.1 x.2.2.2.2.1 x.2.2.2.2.2⟩
def Jw.d:Fd := { nt:=48,nv:=1,nm:=[0,1,4,5,6,7,8,9],res:=[3],cs:=λ k=>[(62,C2.e k),(151,Ay.e k),(156,A4.e k),(190,I7.e k)],ls:=[(6,Iv.p)],mv:=[15],rf:=true }
def Jw.a (k:Nat):AC (Jw.d.cs k):=⟨C2.s k,Ay.s k,A4.s k,I7.s k,trivial⟩
def Iv.s:LL Tryz.f157 Jw.d 6 Iv.p:=mL [] Jw.a trivial
def Jw.s (k:Nat):CK 157 (Jw.e k):=mS Jw.d k [6] Tryz.func157 (Jw.a k) ⟨Iv.s,trivial⟩
def Ey.e (k:Nat):Ent:=⟨1,[(.val true t38)],[(.agg,t40),(.one,(.i .i64))],λ x=>Ey k x⟩
def Ey.d:Fd := { nt:=19,nv:=1,nm:=[0,1,4,5,6],res:=[3],cs:=λ k=>[(97,As.e k),(157,Jw.e k)],mv:=[17],rf:=true }
def Ey.s (k:Nat):CK 100 (Ey.e k):=mS Ey.d k [] Tryz.func100 ⟨As.s k,Jw.s k,trivial⟩ trivial
def Am.e (k:Nat):Ent:=⟨1,[(.ptr t46 t46)],[],λ x=>Am k x⟩
def Bs.p:LF:=⟨⟨[(0,(.bp 0 0 0)),(1999,(.hd 9))],[(2,t6),(3,(.i .i64)),(11,(.i .i64)),(12,(.i .i64)),(60,(.i .i64)),(61,(.i .i64)),(1000,t46)]⟩,[((.exit 4),⟨[(0,(.bp 0 0 0)),(1999,(.hd 9))],[(2,t6),(3,(.i .i64)),(11,(.i .i64)),(12,(.i .i64)),(1000,t46)]⟩)],λ k x=>Bs k x.1 x.2.1 x.2.2.1 x.2.2.2.1 x.2.2.2.2.1 x.2.2.2.2.2.1 x.2.2.2.2.2.2⟩
def Bl.p:LF:=⟨⟨[(0,(.bp 0 0 0)),(1999,(.hd 9))],[(2,t6),(3,(.i .i64)),(11,(.i .i64)),(12,(.i .i64)),(40,t0),(41,(.i .i64)),(42,(.i .i64)),(1000,t46)]⟩,[((.exit 2),⟨[(0,(.bp 0 0 0)),(1999,(.hd 9))],[(2,t6),(3,(.i .i64)),(11,(.i .i64)),(12,(.i .i64)),(1000,t46)]⟩)],λ k x=>Bl k x.1 x.2.1 x.2.2.1 x.2.2.2.1 x.2.2.2.2.1 x.2.2.2.2.2.1 x.2.2.2.2.2.2.1 x.2.2.2.2.2.2.2⟩
def C3.p:LF:=⟨⟨[(0,(.bp 0 0 0)),(1999,(.hd 9))],[(2,t6),(11,(.i .i64)),(12,(.i .i64)),(1000,t46)]⟩,[((.exit 0),⟨[(1999,(.hd 9))],[(1000,t46)]⟩)],λ k x=>C3 k x.1 x.2.1 x.2.2.1 x.2.2.2⟩
def Am.d:Fd := { nt:=73,nv:=1,nm:=[0,1,2,3,4,5],res:=[],cs:=λ k=>[(54,J5.e k),(78,Ad.e k),(90,B6.e k),(92,Ax.e k),(99,Iu.e k),(100,Ey.e k)],ls:=[(11,Bs.p),(6,Bl.p),(2,C3.p)],rf:=true }
def Am.a (k:Nat):AC (Am.d.cs k):=⟨J5.s k,Ad.s k,B6.s k,Ax.s k,Iu.s k,Ey.s k,trivial⟩
def Bs.s:LL Tryz.f43 Am.d 11 Bs.p:=mL [] Am.a trivial
def Bl.s:LL Tryz.f43 Am.d 6 Bl.p:=mL [] Am.a trivial
def C3.s:LL Tryz.f43 Am.d 2 C3.p:=mL [6,11] Am.a ⟨Bl.s,Bs.s,trivial⟩
def Am.s (k:Nat):CK 43 (Am.e k):=mS Am.d k [2] Tryz.func43 (Am.a k) ⟨C3.s,trivial⟩
def Ho.e (k:Nat):Ent:=⟨2,[(.val true t44),(.val false (.i .i64))],[(.agg,t46)],λ x=>Ho k x.1 x.2⟩
def I8.p:LF:=⟨⟨[(4,(.bp 4 0 0)),(5,(.bp 5 0 0)),(5999,(.hd 9)),(6999,(.hd 9))],[(14,(.i .i64)),(15,(.i .i64)),(5000,t45),(6000,t46)]⟩,[((.exit 0),⟨[(4,(.bp 4 0 0)),(5,(.bp 5 0 0)),(5999,(.hd 9)),(6999,(.hd 9))],[(5000,t45),(6000,t46)]⟩)],λ k x=>I8 k x.1 x.2.1 x.2.2.1 x.2.2.2⟩
def Ho.d:Fd := { nt:=20,nv:=2,nm:=[0,1,2,3,5],res:=[],cs:=λ k=>[(32,Bv.e k),(41,Az.e k),(42,C8.e k),(43,Am.e k)],ls:=[(4,I8.p)],mv:=[19],rf:=true }
def Ho.a (k:Nat):AC (Ho.d.cs k):=⟨Bv.s k,Az.s k,C8.s k,Am.s k,trivial⟩
def I8.s:LL Tryz.f9 Ho.d 4 I8.p:=mL [] Ho.a trivial
def Ho.s (k:Nat):CK 9 (Ho.e k):=mS Ho.d k [4] Tryz.func9 (Ho.a k) ⟨I8.s,trivial⟩
def Mb.e (k:Nat):Ent:=⟨1,[(.val false t4)],[(.ptr,t21)],λ x=>Mb k x⟩
def Jk.p:LF:=⟨⟨[],[(0,t4),(3,(.i .i64)),(4,(.i .i64))]⟩,[((.exit 0),⟨[],[(0,t4),(3,(.i .i64))]⟩)],λ k x=>Jk k x.1 x.2.1 x.2.2⟩
def Mb.d:Fd := { nt:=32,nv:=1,nm:=[0,1,3,4],res:=[2],ls:=[(3,Jk.p)] }
def Jk.s:LL Tryz.f44 Mb.d 3 Jk.p:=mL [] (λ _=>trivial) trivial
def Mb.s (k:Nat):CK 44 (Mb.e k):=mS Mb.d k [3] Tryz.func44 trivial ⟨Jk.s,trivial⟩
def Gp.e (k:Nat):Ent:=⟨1,[(.ptr t21 t21)],[(.one,(.i .i64))],λ x=>Gp x⟩
def Gp.d:Fd := { nt:=58,nv:=1,nm:=[0,1,3],res:=[2] }
def Gp.s (k:Nat):CK 130 (Gp.e k):=mS Gp.d k [] Tryz.func130 trivial trivial
def A8.e (k:Nat):Ent:=⟨2,[(.ptr t21 t21),(.val false (.i .i64))],[(.one,(.i .i64))],λ x=>A8 x.1 x.2⟩
def A8.d:Fd := { nt:=31,nv:=2,nm:=[0,1,2,3,5,6,7],res:=[4],cs:=λ k=>[(130,Gp.e k)] }
def A8.s (k:Nat):CK 75 (A8.e k):=mS A8.d k [] Tryz.func75 ⟨Gp.s k,trivial⟩ trivial
def Ca.e (k:Nat):Ent:=⟨2,[(.ptr t21 t21),(.val false t6)],[(.one,(.i .i64))],λ x=>Ca x.1 x.2⟩
def Ca.d:Fd := { nt:=12,nv:=2,nm:=[0,1,2,3],res:=[4],cs:=λ k=>[(75,A8.e k)] }
def Ca.s (k:Nat):CK 127 (Ca.e k):=mS Ca.d k [] Tryz.func127 ⟨A8.s k,trivial⟩ trivial
def Hp.e (k:Nat):Ent:=⟨1,[(.ptr t21 t21)],[(.one,t23)],λ x=>Hp k x⟩
def I9.p:LF:=⟨⟨[(0,(.bp 0 0 0)),(1999,(.hd 3))],[(3,t23),(4,(.i .i64)),(5,(.i .i64)),(6,(.i .i64)),(1000,t21)]⟩,[((.exit 0),⟨[(1999,(.hd 3))],[(3,t23),(1000,t21)]⟩)],λ k x=>I9 k x.1 x.2.1 x.2.2.1 x.2.2.2.1 x.2.2.2.2⟩
def Hp.d:Fd := { nt:=35,nv:=1,nm:=[0,1,3,4,5,6],res:=[2],cs:=λ k=>[(75,A8.e k),(127,Ca.e k)],ls:=[(5,I9.p)],rf:=true }
def Hp.a (k:Nat):AC (Hp.d.cs k):=⟨A8.s k,Ca.s k,trivial⟩
def I9.s:LL Tryz.f158 Hp.d 5 I9.p:=mL [] Hp.a trivial
def Hp.s (k:Nat):CK 158 (Hp.e k):=mS Hp.d k [5] Tryz.func158 (Hp.a k) ⟨I9.s,trivial⟩
def A9.e (k:Nat):Ent:=⟨3,[(.val false (.i .i64)),(.val false (.i .i64)),(.val false (.i .i64))],[(.one,.b)],λ x=>A9 x.1 x.2.1 x.2.2⟩
def A9.d:Fd := { nt:=15,nv:=3,nm:=[0,1,2,3,4,5],res:=[6] }
def A9.s (k:Nat):CK 72 (A9.e k):=mS A9.d k [] Tryz.func72 trivial trivial
def D9.e (k:Nat):Ent:=⟨1,[(.val false t22)],[(.one,.b)],λ x=>D9 k x⟩
def H8.p:LF:=⟨⟨[],[(0,t22),(3,(.i .i64))]⟩,[(.ret,⟨[],[(2,.b)]⟩),((.exit 0),⟨[],[(0,t22)]⟩)],λ k x=>H8 k x.1 x.2⟩
def D9.d:Fd := { nt:=49,nv:=1,nm:=[0,1,3,4],res:=[2],cs:=λ k=>[(72,A9.e k)],ls:=[(2,H8.p)],rf:=true }
def D9.a (k:Nat):AC (D9.d.cs k):=⟨A9.s k,trivial⟩
def H8.s:LL Tryz.f122 D9.d 2 H8.p:=mL [] D9.a trivial
def D9.s (k:Nat):CK 122 (D9.e k):=mS D9.d k [2] Tryz.func122 (D9.a k) ⟨H8.s,trivial⟩
def Ct.e (k:Nat):Ent:=⟨2,[(.val false t6),(.val false (.i .i64))],[(.one,.b)],λ x=>Ct k x.1 x.2⟩
def Jl.p:LF:=⟨⟨[],[(0,t6),(1,(.i .i64)),(5,(.i .i64))]⟩,[(.ret,⟨[],[(4,.b)]⟩),((.exit 0),⟨[],[]⟩)],λ k x=>Jl k x.1 x.2.1 x.2.2⟩
def Ct.d:Fd := { nt:=18,nv:=2,nm:=[0,1,2,3,5],res:=[4],ls:=[(2,Jl.p)],rf:=true }
def Jl.s:LL Tryz.f181 Ct.d 2 Jl.p:=mL [] (λ _=>trivial) trivial
def Ct.s (k:Nat):CK 181 (Ct.e k):=mS Ct.d k [2] Tryz.func181 trivial ⟨Jl.s,trivial⟩
def Hh.e (k:Nat):Ent:=⟨2,[(.val false t22),(.val false (.i .i64))],[(.agg,t16),(.one,.b)],λ x=>Hh k x.1 x.2⟩
def Jm.p:LF:=⟨⟨[(4,(.bp 4 0 0)),(5999,(.hd 3))],[(0,t22),(1,(.i .i64)),(6,(.i .i64)),(5000,t16)]⟩,[(.ret,⟨[(4,(.bp 4 0 0)),(5999,(.hd 3))],[(5,.b),(5000,t16)]⟩),((.exit 0),⟨[(4,(.bp 4 0 0)),(5999,(.hd 3))],[(5000,t16)]⟩)],λ k x=>Jm k x.1 x.2.1 x.2.2.1 x.2.2.2⟩
def Hh.d:Fd := { nt:=25,nv:=2,nm:=[0,1,2,3,6],res:=[5],ls:=[(2,Jm.p)],rf:=true }
def Jm.s:LL Tryz.f124 Hh.d 2 Jm.p:=mL [] (λ _=>trivial) trivial
def Hh.s (k:Nat):CK 124 (Hh.e k):=mS Hh.d k [2] Tryz.func124 trivial ⟨Jm.s,trivial⟩
def Dp.e (k:Nat):Ent:=⟨2,[(.val false t6),(.val false t22)],[(.one,t7)],λ x=>Dp k x.1 x.2⟩
def El.p:LF:=⟨⟨[],[(0,t6),(1,t22),(5,t7),(6,(.i .i64))]⟩,[((.exit 0),⟨[],[(5,t7)]⟩)],λ k x=>El k x.1 x.2.1 x.2.2.1 x.2.2.2⟩
def Dp.d:Fd := { nt:=39,nv:=2,nm:=[0,1,2,3,5,6,7,8],res:=[4],cs:=λ k=>[(124,Hh.e k),(181,Ct.e k)],ls:=[(3,El.p)],rf:=true }
def Dp.a (k:Nat):AC (Dp.d.cs k):=⟨Hh.s k,Ct.s k,trivial⟩
def El.s:LL Tryz.f254 Dp.d 3 El.p:=mL [] Dp.a trivial
def Dp.s (k:Nat):CK 254 (Dp.e k):=mS Dp.d k [3] Tryz.func254 (Dp.a k) ⟨El.s,trivial⟩
def Da.e (k:Nat):Ent:=⟨2,[(.val true t17),(.val false (.i .i64))],[(.one,(.i .i64))],λ x=>Da k x.1 x.2⟩
def H9.p:LF:=⟨⟨[(2,(.bp 2 0 0)),(3999,(.hd 2))],[(1,(.i .i64)),(5,(.i .i64)),(6,(.i .i64)),(7,(.i .i64)),(3000,t17)]⟩,[((.exit 2),⟨[(2,(.bp 2 0 0)),(3999,(.hd 2))],[(1,(.i .i64)),(5,(.i .i64)),(6,(.i .i64)),(3000,t17)]⟩)],λ k x=>H9 k x.1 x.2.1 x.2.2.1 x.2.2.2.1 x.2.2.2.2⟩
def Ia.p:LF:=⟨⟨[(2,(.bp 2 0 0)),(3999,(.hd 2))],[(1,(.i .i64)),(5,(.i .i64)),(6,(.i .i64)),(3000,t17)]⟩,[((.exit 0),⟨[],[(5,(.i .i64))]⟩)],λ k x=>Ia k x.1 x.2.1 x.2.2.1 x.2.2.2⟩
def Da.d:Fd := { nt:=40,nv:=2,nm:=[0,1,2,3,5,6,7],res:=[4],ls:=[(6,H9.p),(3,Ia.p)],rf:=true }
def H9.s:LL Tryz.f255 Da.d 6 H9.p:=mL [] (λ _=>trivial) trivial
def Ia.s:LL Tryz.f255 Da.d 3 Ia.p:=mL [6] (λ _=>trivial) ⟨H9.s,trivial⟩
def Da.s (k:Nat):CK 255 (Da.e k):=mS Da.d k [3] Tryz.func255 trivial ⟨Ia.s,trivial⟩
def J6.e (k:Nat):Ent:=⟨3,[(.val true t17),(.val true t6),(.val false t22)],[(.one,(.i .i64))],λ x=>J6 k x.1 x.2.1 x.2.2⟩
def C4.p:LF:=⟨⟨[(3,(.bp 3 0 0)),(4,(.bp 4 0 0)),(4999,(.hd 2)),(5999,(.hd 1))],[(2,t22),(7,t7),(8,(.i .i64)),(9,.b),(10,(.i .i64)),(4000,t17),(5000,t6)]⟩,[((.exit 0),⟨[],[(2,t22),(8,(.i .i64))]⟩)],λ k x=>C4 k x.1 x.2.1 x.2.2.1 x.2.2.2.1 x.2.2.2.2.1 x.2.2.2.2.2.1 x.2.2.2.2.2.2⟩
def J6.d:Fd := { nt:=88,nv:=3,nm:=[0,1,2,3,4,5,7,8,9,10,11,12],res:=[6],cs:=λ k=>[(122,D9.e k),(181,Ct.e k),(254,Dp.e k),(255,Da.e k)],ls:=[(5,C4.p)],rf:=true }
def J6.a (k:Nat):AC (J6.d.cs k):=⟨D9.s k,Ct.s k,Dp.s k,Da.s k,trivial⟩
def C4.s:LL Tryz.f234 J6.d 5 C4.p:=mL [] J6.a trivial
def J6.s (k:Nat):CK 234 (J6.e k):=mS J6.d k [5] Tryz.func234 (J6.a k) ⟨C4.s,trivial⟩
def Hy.e (k:Nat):Ent:=⟨3,[(.val false t22),(.val false (.i .i64)),(.val false (.i .i64))],[(.agg,t19),(.one,.b)],λ x=>Hy k x.1 x.2.1 x.2.2⟩
def Jn.p:LF:=⟨⟨[(6,(.bp 6 0 0)),(8,(.bp 8 0 0)),(7999,(.hd 2)),(9999,(.hd 2))],[(0,t22),(1,(.i .i64)),(2,(.i .i64)),(9,(.i .i64)),(10,(.i .i64)),(7000,t18),(9000,t19)]⟩,[((.exit 2),⟨[(6,(.bp 6 0 0)),(8,(.bp 8 0 0)),(7999,(.hd 2)),(9999,(.hd 2))],[(0,t22),(1,(.i .i64)),(2,(.i .i64)),(9,(.i .i64)),(7000,t18),(9000,t19)]⟩)],λ k x=>Jn k x.1 x.2.1 x.2.2.1 x.2.2.2.1 x.2.2.2.2.1 x.2.2.2.2.2.1 x.2.2.2.2.2.2⟩
def Jo.p:LF:=⟨⟨[(6,(.bp 6 0 0)),(8,(.bp 8 0 0)),(7999,(.hd 2)),(9999,(.hd 2))],[(0,t22),(1,(.i .i64)),(2,(.i .i64)),(9,(.i .i64)),(7000,t18),(9000,t19)]⟩,[((.exit 0),⟨[(6,(.bp 6 0 0)),(8,(.bp 8 0 0)),(7999,(.hd 2)),(9999,(.hd 2))],[(7000,t18),(9000,t19)]⟩)],λ k x=>Jo k x.1 x.2.1 x.2.2.1 x.2.2.2.1 x.2.2.2.2.1 x.2.2.2.2.2⟩
def Hy.d:Fd := { nt:=73,nv:=3,nm:=[0,1,2,3,4,5,8,9,10,11],res:=[7],cs:=λ k=>[(72,A9.e k),(122,D9.e k),(234,J6.e k)],ls:=[(9,Jn.p),(5,Jo.p)],hint:=[(42,t7),(43,t7)],mv:=[72],gh:=[(12,[.od 54 3001]),(1000010,[.cl 9001])],rf:=true }
def Hy.a (k:Nat):AC (Hy.d.cs k):=⟨A9.s k,D9.s k,J6.s k,trivial⟩
def Jn.s:LL Tryz.f203 Hy.d 9 Jn.p:=mL [] Hy.a trivial
def Jo.s:LL Tryz.f203 Hy.d 5 Jo.p:=mL [9] Hy.a ⟨Jn.s,trivial⟩
def Hy.s (k:Nat):CK 203 (Hy.e k):=mS Hy.d k [5] Tryz.func203 (Hy.a k) ⟨Jo.s,trivial⟩
def Ku.e (k:Nat):Ent:=⟨1,[(.val false (.i .i64))],[(.agg,t39)],λ x=>Ku x⟩
def Ku.d:Fd := { nt:=9,nv:=1,nm:=[0,1],res:=[],cs:=λ k=>[(72,A9.e k)] }
def Ku.s (k:Nat):CK 204 (Ku.e k):=mS Ku.d k [] Tryz.func204 ⟨A9.s k,trivial⟩ trivial
def Cp.e (k:Nat):Ent:=⟨3,[(.val false t22),(.val false (.i .i64)),(.val false (.i .i64))],[(.agg,t47)],λ x=>Cp k x.1 x.2.1 x.2.2⟩
def Fn.p:LF:=⟨⟨[(6,(.bp 6 0 0)),(9,(.bp 9 0 0)),(7999,(.hd 9)),(10999,(.hd 9))],[(0,t22),(10,(.i .i64)),(7000,t45),(10000,t47)]⟩,[((.exit 0),⟨[(6,(.bp 6 0 0)),(9,(.bp 9 0 0)),(7999,(.hd 9)),(10999,(.hd 9))],[(7000,t45),(10000,t47)]⟩)],λ k x=>Fn k x.1 x.2.1 x.2.2.1 x.2.2.2⟩
def Cp.d:Fd := { nt:=44,nv:=3,nm:=[0,1,2,3,4,5,7,8,9,10],res:=[],cs:=λ k=>[(203,Hy.e k),(204,Ku.e k)],ls:=[(6,Fn.p)],mv:=[43],rf:=true }
def Cp.a (k:Nat):AC (Cp.d.cs k):=⟨Hy.s k,Ku.s k,trivial⟩
def Fn.s:LL Tryz.f159 Cp.d 6 Fn.p:=mL [] Cp.a trivial
def Cp.s (k:Nat):CK 159 (Cp.e k):=mS Cp.d k [6] Tryz.func159 (Cp.a k) ⟨Fn.s,trivial⟩
def Lz.e (k:Nat):Ent:=⟨1,[(.ptr t21 t21)],[(.agg,t47)],λ x=>Lz k x⟩
def Lz.d:Fd := { nt:=22,nv:=1,nm:=[0,1,3,4],res:=[],cs:=λ k=>[(127,Ca.e k),(158,Hp.e k),(159,Cp.e k)],rf:=true }
def Lz.s (k:Nat):CK 101 (Lz.e k):=mS Lz.d k [] Tryz.func101 ⟨Ca.s k,Hp.s k,Cp.s k,trivial⟩ trivial
def Bo.e (k:Nat):Ent:=⟨1,[(.val false .s)],[(.one,.b)],λ x=>Bo k x⟩
def Dv.p:LF:=⟨⟨[],[(0,.s),(3,(.i .i64))]⟩,[(.ret,⟨[],[(2,.b)]⟩),((.exit 0),⟨[],[(0,.s)]⟩)],λ k x=>Dv k x.1 x.2⟩
def Bo.d:Fd := { nt:=38,nv:=1,nm:=[0,1,3,4],res:=[2],cs:=λ k=>[(72,A9.e k)],ls:=[(2,Dv.p)] }
def Bo.a (k:Nat):AC (Bo.d.cs k):=⟨A9.s k,trivial⟩
def Dv.s:LL Tryz.f67 Bo.d 2 Dv.p:=mL [] Bo.a trivial
def Bo.s (k:Nat):CK 67 (Bo.e k):=mS Bo.d k [2] Tryz.func67 (Bo.a k) ⟨Dv.s,trivial⟩
def E5.e (k:Nat):Ent:=⟨1,[(.val true t16)],[(.one,.b)],λ x=>E5 x⟩
def E5.d:Fd := { nt:=16,nv:=1,nm:=[0,1],res:=[2],cs:=λ k=>[(72,A9.e k)] }
def E5.s (k:Nat):CK 66 (E5.e k):=mS E5.d k [] Tryz.func66 ⟨A9.s k,trivial⟩ trivial
def Ib.e (k:Nat):Ent:=⟨3,[(.val true t16),(.val false (.i .i64)),(.val false (.i .i64))],[(.agg,t16)],λ x=>Ib x.1 x.2.1 x.2.2⟩
def Ib.d:Fd := { nt:=27,nv:=3,nm:=[0,1,2,3,4,5,7],res:=[],cs:=λ k=>[(66,E5.e k)],rf:=true }
def Ib.s (k:Nat):CK 205 (Ib.e k):=mS Ib.d k [] Tryz.func205 ⟨E5.s k,trivial⟩ trivial
def Fo.e (k:Nat):Ent:=⟨1,[(.val true t25)],[(.agg,t26)],λ x=>Fo x⟩
def Fo.d:Fd := { nt:=9,nv:=1,nm:=[0,1],res:=[],mv:=[8],rf:=true }
def Fo.s (k:Nat):CK 138 (Fo.e k):=mS Fo.d k [] Tryz.func138 trivial trivial
def Ce.e (k:Nat):Ent:=⟨2,[(.val false t6),(.val false (.i .i64))],[(.one,(.i .i64))],λ x=>Ce x.1 x.2⟩
def Ce.d:Fd := { nt:=21,nv:=2,nm:=[0,1,2,3],res:=[4],cs:=λ k=>[(72,A9.e k)],rf:=true }
def Ce.s (k:Nat):CK 141 (Ce.e k):=mS Ce.d k [] Tryz.func141 ⟨A9.s k,trivial⟩ trivial
def Bp.e (k:Nat):Ent:=⟨2,[(.val true t44),(.val false t6)],[(.one,t7)],λ x=>Bp k x.1 x.2⟩
def Cg.p:LF:=⟨⟨[(2,(.bp 2 0 0)),(3999,(.hd 9))],[(1,t6),(5,t7),(6,(.i .i64)),(7,(.i .i64)),(3000,t44)]⟩,[((.exit 2),⟨[(2,(.bp 2 0 0)),(3999,(.hd 9))],[(1,t6),(5,t7),(6,(.i .i64)),(3000,t44)]⟩)],λ k x=>Cg k x.1 x.2.1 x.2.2.1 x.2.2.2.1 x.2.2.2.2⟩
def Em.p:LF:=⟨⟨[(2,(.bp 2 0 0)),(3999,(.hd 9))],[(1,t6),(5,t7),(6,(.i .i64)),(3000,t44)]⟩,[((.exit 0),⟨[],[(5,t7)]⟩)],λ k x=>Em k x.1 x.2.1 x.2.2.1 x.2.2.2⟩
def Bp.d:Fd := { nt:=38,nv:=2,nm:=[0,1,2,3,5,6,7],res:=[4],ls:=[(6,Cg.p),(3,Em.p)],rf:=true }
def Cg.s:LL Tryz.f139 Bp.d 6 Cg.p:=mL [] (λ _=>trivial) trivial
def Em.s:LL Tryz.f139 Bp.d 3 Em.p:=mL [6] (λ _=>trivial) ⟨Cg.s,trivial⟩
def Bp.s (k:Nat):CK 139 (Bp.e k):=mS Bp.d k [3] Tryz.func139 trivial ⟨Em.s,trivial⟩
def Ng.e (k:Nat):Ent:=⟨1,[(.val false .s)],[(.one,(.i .i64))],λ x=>Ng k x⟩
def Kw.p:LF:=⟨⟨[],[(0,.s),(3,(.i .i64)),(4,(.i .i64))]⟩,[((.exit 0),⟨[],[(3,(.i .i64))]⟩)],λ k x=>Kw k x.1 x.2.1 x.2.2⟩
def Ng.d:Fd := { nt:=20,nv:=1,nm:=[0,1,3,4],res:=[2],ls:=[(3,Kw.p)],rf:=true }
def Kw.s:LL Tryz.f232 Ng.d 3 Kw.p:=mL [] (λ _=>trivial) trivial
def Ng.s (k:Nat):CK 232 (Ng.e k):=mS Ng.d k [3] Tryz.func232 trivial ⟨Kw.s,trivial⟩
def Ml.e (k:Nat):Ent:=⟨2,[(.val false .s),(.val false (.i .i64))],[(.one,(.i .i64))],λ x=>Ml k x.1 x.2⟩
def Ml.d:Fd := { nt:=11,nv:=2,nm:=[0,1,2,3],res:=[4],cs:=λ k=>[(232,Ng.e k)],rf:=true }
def Ml.s (k:Nat):CK 193 (Ml.e k):=mS Ml.d k [] Tryz.func193 ⟨Ng.s k,trivial⟩ trivial
def Bq.e (k:Nat):Ent:=⟨2,[(.val true t17),(.val false .s)],[(.one,t7)],λ x=>Bq k x.1 x.2⟩
def Bq.d:Fd := { nt:=22,nv:=2,nm:=[0,1,2,3],res:=[4],cs:=λ k=>[(193,Ml.e k)],rf:=true }
def Bq.s (k:Nat):CK 140 (Bq.e k):=mS Bq.d k [] Tryz.func140 ⟨Ml.s k,trivial⟩ trivial
def Cq.e (k:Nat):Ent:=⟨3,[(.val true t17),(.val false t22),(.val false .s)],[(.one,t7)],λ x=>Cq k x.1 x.2.1 x.2.2⟩
def Ci.p:LF:=⟨⟨[],[(1,t22),(7,t7),(8,t7),(9,t7),(10,(.i .i64)),(11,(.i .i64))]⟩,[((.exit 2),⟨[],[(1,t22),(7,t7),(8,t7),(9,t7),(10,(.i .i64))]⟩)],λ k x=>Ci k x.1 x.2.1 x.2.2.1 x.2.2.2.1 x.2.2.2.2.1 x.2.2.2.2.2⟩
def Fp.p:LF:=⟨⟨[],[(1,t22),(7,t7),(8,t7),(9,t7),(10,(.i .i64))]⟩,[((.exit 0),⟨[],[(9,t7)]⟩)],λ k x=>Fp k x.1 x.2.1 x.2.2.1 x.2.2.2.1 x.2.2.2.2⟩
def Cq.d:Fd := { nt:=58,nv:=3,nm:=[0,1,2,3,4,5,7,8,9,10,11],res:=[6],cs:=λ k=>[(140,Bq.e k),(181,Ct.e k),(254,Dp.e k)],ls:=[(8,Ci.p),(5,Fp.p)],rf:=true }
def Cq.a (k:Nat):AC (Cq.d.cs k):=⟨Bq.s k,Ct.s k,Dp.s k,trivial⟩
def Ci.s:LL Tryz.f256 Cq.d 8 Ci.p:=mL [] Cq.a trivial
def Fp.s:LL Tryz.f256 Cq.d 5 Fp.p:=mL [8] Cq.a ⟨Ci.s,trivial⟩
def Cq.s (k:Nat):CK 256 (Cq.e k):=mS Cq.d k [5] Tryz.func256 (Cq.a k) ⟨Fp.s,trivial⟩
def Fq.e (k:Nat):Ent:=⟨2,[(.val true t44),(.val false .s)],[(.one,t7)],λ x=>Fq k x.1 x.2⟩
def Fq.d:Fd := { nt:=20,nv:=2,nm:=[0,1,2,3],res:=[4],cs:=λ k=>[(139,Bp.e k),(140,Bq.e k),(256,Cq.e k)],rf:=true }
def Fq.s (k:Nat):CK 235 (Fq.e k):=mS Fq.d k [] Tryz.func235 ⟨Bp.s k,Bq.s k,Cq.s k,trivial⟩ trivial
def E3.e (k:Nat):Ent:=⟨2,[(.val false t13),(.val false .s)],[(.one,(.i .i64))],λ x=>E3 k x.1 x.2⟩
def Kx.p:LF:=⟨⟨[],[(0,t13),(1,.s),(5,(.i .i64))]⟩,[(.ret,⟨[],[(4,(.i .i64))]⟩),((.exit 0),⟨[],[]⟩)],λ k x=>Kx k x.1 x.2.1 x.2.2⟩
def E3.d:Fd := { nt:=20,nv:=2,nm:=[0,1,2,3,5],res:=[4],ls:=[(2,Kx.p)] }
def Kx.s:LL Tryz.f129 E3.d 2 Kx.p:=mL [] (λ _=>trivial) trivial
def E3.s (k:Nat):CK 129 (E3.e k):=mS E3.d k [2] Tryz.func129 trivial ⟨Kx.s,trivial⟩
def Gc.e (k:Nat):Ent:=⟨2,[(.val true t28),(.val false .s)],[(.one,t5),(.one,.b)],λ x=>Gc k x.1 x.2⟩
def Gc.d:Fd := { nt:=22,nv:=2,nm:=[0,1,2,3,6],res:=[4,5],cs:=λ k=>[(129,E3.e k)] }
def Gc.s (k:Nat):CK 116 (Gc.e k):=mS Gc.d k [] Tryz.func116 ⟨E3.s k,trivial⟩ trivial
def Gq.e (k:Nat):Ent:=⟨1,[(.val true t25)],[(.one,.b)],λ x=>Gq x⟩
def Gq.d:Fd := { nt:=23,nv:=1,nm:=[0,1],res:=[2],cs:=λ k=>[(66,E5.e k)] }
def Gq.s (k:Nat):CK 68 (Gq.e k):=mS Gq.d k [] Tryz.func68 ⟨E5.s k,trivial⟩ trivial
def Eo.e (k:Nat):Ent:=⟨2,[(.val false t4),(.val false (.i .i64))],[(.one,(.i .i64)),(.one,(.i .i64)),(.one,.b)],λ x=>Eo k x.1 x.2⟩
def Fz.p:LF:=⟨⟨[],[(0,t4),(1,(.i .i64)),(7,(.i .i64)),(8,(.i .i64))]⟩,[(.ret,⟨[],[(4,(.i .i64)),(5,(.i .i64)),(6,.b)]⟩),((.exit 0),⟨[],[]⟩)],λ k x=>Fz k x.1 x.2.1 x.2.2.1 x.2.2.2⟩
def Eo.d:Fd := { nt:=64,nv:=2,nm:=[0,1,2,3,7,8,9],res:=[4,5,6],ls:=[(3,Fz.p)] }
def Fz.s:LL Tryz.f173 Eo.d 3 Fz.p:=mL [] (λ _=>trivial) trivial
def Eo.s (k:Nat):CK 173 (Eo.e k):=mS Eo.d k [3] Tryz.func173 trivial ⟨Fz.s,trivial⟩
def Gr.e (k:Nat):Ent:=⟨2,[(.val false t4),(.val false (.i .i64))],[(.agg,t16),(.one,(.i .i64)),(.one,.b)],λ x=>Gr k x.1 x.2⟩
def Gr.d:Fd := { nt:=49,nv:=2,nm:=[0,1,2,3,7,8,9,10,11,12,13,14,15],res:=[5,6],cs:=λ k=>[(173,Eo.e k)] }
def Gr.s (k:Nat):CK 172 (Gr.e k):=mS Gr.d k [] Tryz.func172 ⟨Eo.s k,trivial⟩ trivial
def Ky.e (k:Nat):Ent:=⟨2,[(.val false t4),(.val false (.i .i64))],[(.one,.s),(.one,(.i .i64)),(.one,.b)],λ x=>Ky k x.1 x.2⟩
def Ky.d:Fd := { nt:=37,nv:=2,nm:=[0,1,2,3,7,8,9],res:=[4,5,6],cs:=λ k=>[(173,Eo.e k)] }
def Ky.s (k:Nat):CK 174 (Ky.e k):=mS Ky.d k [] Tryz.func174 ⟨Eo.s k,trivial⟩ trivial
def Ep.e (k:Nat):Ent:=⟨2,[(.val false t4),(.val false (.i .i64))],[(.one,t5)],λ x=>Ep k x.1 x.2⟩
def Dw.p:LF:=⟨⟨[],[(1,(.i .i64)),(5,t5)]⟩,[((.exit 0),⟨[],[(1,(.i .i64)),(5,t5)]⟩)],λ k x=>Dw k x.1 x.2⟩
def Ep.d:Fd := { nt:=29,nv:=2,nm:=[0,1,2,3,5],res:=[4],ls:=[(6,Dw.p)] }
def Dw.s:LL Tryz.f218 Ep.d 6 Dw.p:=mL [] (λ _=>trivial) trivial
def Ep.s (k:Nat):CK 218 (Ep.e k):=mS Ep.d k [6] Tryz.func218 trivial ⟨Dw.s,trivial⟩
def Kz.e (k:Nat):Ent:=⟨2,[(.val false t4),(.val false .s)],[(.one,t5)],λ x=>Kz k x.1 x.2⟩
def Kz.d:Fd := { nt:=11,nv:=2,nm:=[0,1,2,3],res:=[4],cs:=λ k=>[(218,Ep.e k)] }
def Kz.s (k:Nat):CK 217 (Kz.e k):=mS Kz.d k [] Tryz.func217 ⟨Ep.s k,trivial⟩ trivial
def L5.e (k:Nat):Ent:=⟨2,[(.val false t4),(.val true t16)],[(.one,t5)],λ x=>L5 k x.1 x.2⟩
def L5.d:Fd := { nt:=15,nv:=2,nm:=[0,1,2,3],res:=[4],cs:=λ k=>[(218,Ep.e k)] }
def L5.s (k:Nat):CK 219 (L5.e k):=mS L5.d k [] Tryz.func219 ⟨Ep.s k,trivial⟩ trivial
def Mm.e (k:Nat):Ent:=⟨1,[(.val false .b)],[(.one,(.i .i64))],λ x=>Mm x⟩
def Mm.d:Fd := { nt:=4,nv:=1,nm:=[0,1],res:=[2] }
def Mm.s (k:Nat):CK 220 (Mm.e k):=mS Mm.d k [] Tryz.func220 trivial trivial
def Nw.e (k:Nat):Ent:=⟨1,[(.val false t4)],[(.one,(.i .i64))],λ x=>Nw k x⟩
def Lk.p:LF:=⟨⟨[],[(0,t4),(3,(.i .i64)),(4,(.i .i64)),(5,(.i .i64))]⟩,[((.exit 2),⟨[],[(0,t4),(3,(.i .i64)),(4,(.i .i64))]⟩)],λ k x=>Lk k x.1 x.2.1 x.2.2.1 x.2.2.2⟩
def M0.p:LF:=⟨⟨[],[(0,t4),(3,(.i .i64)),(4,(.i .i64))]⟩,[((.exit 0),⟨[],[(3,(.i .i64))]⟩)],λ k x=>M0 k x.1 x.2.1 x.2.2⟩
def Nw.d:Fd := { nt:=34,nv:=1,nm:=[0,1,3,4,5,6],res:=[2],ls:=[(7,Lk.p),(3,M0.p)] }
def Lk.s:LL Tryz.f221 Nw.d 7 Lk.p:=mL [] (λ _=>trivial) trivial
def M0.s:LL Tryz.f221 Nw.d 3 M0.p:=mL [7] (λ _=>trivial) ⟨Lk.s,trivial⟩
def Nw.s (k:Nat):CK 221 (Nw.e k):=mS Nw.d k [3] Tryz.func221 trivial ⟨M0.s,trivial⟩
def G3.e (k:Nat):Ent:=⟨1,[(.val true t25)],[(.one,t5)],λ x=>G3 k x⟩
def G3.d:Fd := { nt:=37,nv:=1,nm:=[0,1,3,4],res:=[2],cs:=λ k=>[(68,Gq.e k),(217,Kz.e k),(218,Ep.e k),(219,L5.e k),(220,Mm.e k),(221,Nw.e k)] }
def G3.s (k:Nat):CK 175 (G3.e k):=mS G3.d k [] Tryz.func175 ⟨Gq.s k,Kz.s k,Ep.s k,L5.s k,Mm.s k,Nw.s k,trivial⟩ trivial
def Hv.e (k:Nat):Ent:=⟨1,[(.val false t4)],[(.agg,t26),(.one,.b)],λ x=>Hv k x⟩
def Hv.d:Fd := { nt:=76,nv:=1,nm:=[0,1,4,5,6,7,8,9,10,11,12,13],res:=[3],cs:=λ k=>[(68,Gq.e k),(172,Gr.e k),(173,Eo.e k),(174,Ky.e k),(175,G3.e k)],mv:=[75] }
def Hv.s (k:Nat):CK 117 (Hv.e k):=mS Hv.d k [] Tryz.func117 ⟨Gq.s k,Gr.s k,Eo.s k,Ky.s k,G3.s k,trivial⟩ trivial
def J7.e (k:Nat):Ent:=⟨2,[(.val true t28),(.val false .s)],[(.agg,t26),(.one,(.i .i64))],λ x=>J7 k x.1 x.2⟩
def J7.d:Fd := { nt:=28,nv:=2,nm:=[0,1,2,3,6,7,8,9],res:=[5],cs:=λ k=>[(116,Gc.e k),(117,Hv.e k)],mv:=[27] }
def J7.s (k:Nat):CK 59 (J7.e k):=mS J7.d k [] Tryz.func59 ⟨Gc.s k,Hv.s k,trivial⟩ trivial
def Ez.e (k:Nat):Ent:=⟨2,[(.val true t16),(.val true t16)],[(.one,.b)],λ x=>Ez x.1 x.2⟩
def Ez.d:Fd := { nt:=32,nv:=2,nm:=[0,1,2,3],res:=[4] }
def Ez.s (k:Nat):CK 69 (Ez.e k):=mS Ez.d k [] Tryz.func69 trivial trivial
def Mt.e (k:Nat):Ent:=⟨2,[(.val true t25),(.val true t25)],[(.one,.b)],λ x=>Mt x.1 x.2⟩
def Mt.d:Fd := { nt:=10,nv:=2,nm:=[0,1,2,3],res:=[4],cs:=λ k=>[(69,Ez.e k)] }
def Mt.s (k:Nat):CK 60 (Mt.e k):=mS Mt.d k [] Tryz.func60 ⟨Ez.s k,trivial⟩ trivial
def Bt.e (k:Nat):Ent:=⟨1,[(.val false t13)],[(.one,t14)],λ x=>Bt k x⟩
def Cj.p:LF:=⟨⟨[],[(0,t13),(3,t14),(4,(.i .i64))]⟩,[((.exit 0),⟨[],[(3,t14)]⟩)],λ k x=>Cj k x.1 x.2.1 x.2.2⟩
def Bt.d:Fd := { nt:=29,nv:=1,nm:=[0,1,3,4],res:=[2],ls:=[(3,Cj.p)] }
def Cj.s:LL Tryz.f231 Bt.d 3 Cj.p:=mL [] (λ _=>trivial) trivial
def Bt.s (k:Nat):CK 231 (Bt.e k):=mS Bt.d k [3] Tryz.func231 trivial ⟨Cj.s,trivial⟩
def Hi.e (k:Nat):Ent:=⟨1,[(.val false t13)],[(.one,t15)],λ x=>Hi k x⟩
def Jx.p:LF:=⟨⟨[],[(0,t13),(3,t15),(4,(.i .i64))]⟩,[((.exit 0),⟨[],[(3,t15)]⟩)],λ k x=>Jx k x.1 x.2.1 x.2.2⟩
def Hi.d:Fd := { nt:=29,nv:=1,nm:=[0,1,3,4],res:=[2],ls:=[(3,Jx.p)],hint:=[(5,t12),(26,t12),(27,t12)] }
def Jx.s:LL Tryz.f231 Hi.d 3 Jx.p:=mL [] (λ _=>trivial) trivial
def Hi.s (k:Nat):CK 231 (Hi.e k):=mS Hi.d k [3] Tryz.func231 trivial ⟨Jx.s,trivial⟩
def A6.e (k:Nat):Ent:=⟨1,[(.val true t28)],[(.agg,t29)],λ x=>A6 k x⟩
def A6.d:Fd := { nt:=10,nv:=1,nm:=[0,1],res:=[],cs:=λ k=>[(231,Bt.e k)] }
def A6.s (k:Nat):CK 192 (A6.e k):=mS A6.d k [] Tryz.func192 ⟨Bt.s k,trivial⟩ trivial
def Lr.e (k:Nat):Ent:=⟨1,[(.val true t28)],[(.agg,t30)],λ x=>Lr k x⟩
def Lr.d:Fd := { nt:=10,nv:=1,nm:=[0,1],res:=[],cs:=λ k=>[(231,Hi.e k)] }
def Lr.s (k:Nat):CK 192 (Lr.e k):=mS Lr.d k [] Tryz.func192 ⟨Hi.s k,trivial⟩ trivial
def Kh.e (k:Nat):Ent:=⟨2,[(.val false t13),(.val false .s)],[(.one,t14)],λ x=>Kh k x.1 x.2⟩
def Iw.p:LF:=⟨⟨[],[(0,t13),(1,.s),(5,t14),(6,(.i .i64))]⟩,[((.exit 0),⟨[],[(5,t14)]⟩)],λ k x=>Iw k x.1 x.2.1 x.2.2.1 x.2.2.2⟩
def Kh.d:Fd := { nt:=29,nv:=2,nm:=[0,1,2,3,5,6],res:=[4],ls:=[(3,Iw.p)] }
def Iw.s:LL Tryz.f195 Kh.d 3 Iw.p:=mL [] (λ _=>trivial) trivial
def Kh.s (k:Nat):CK 195 (Kh.e k):=mS Kh.d k [3] Tryz.func195 trivial ⟨Iw.s,trivial⟩
def Gt.e (k:Nat):Ent:=⟨1,[(.val false t13)],[(.one,.b)],λ x=>Gt k x⟩
def Ha.p:LF:=⟨⟨[],[(0,t13),(3,(.i .i64))]⟩,[(.ret,⟨[],[(2,.b)]⟩),((.exit 0),⟨[],[(0,t13)]⟩)],λ k x=>Ha k x.1 x.2⟩
def Gt.d:Fd := { nt:=47,nv:=1,nm:=[0,1,3],res:=[2],cs:=λ k=>[(67,Bo.e k)],ls:=[(2,Ha.p)] }
def Gt.a (k:Nat):AC (Gt.d.cs k):=⟨Bo.s k,trivial⟩
def Ha.s:LL Tryz.f225 Gt.d 2 Ha.p:=mL [] Gt.a trivial
def Gt.s (k:Nat):CK 225 (Gt.e k):=mS Gt.d k [2] Tryz.func225 (Gt.a k) ⟨Ha.s,trivial⟩
def Bw.e (k:Nat):Ent:=⟨1,[(.val true t28)],[(.one,.b)],λ x=>Bw k x⟩
def Bw.d:Fd := { nt:=11,nv:=1,nm:=[0,1],res:=[2],cs:=λ k=>[(225,Gt.e k)] }
def Bw.s (k:Nat):CK 183 (Bw.e k):=mS Bw.d k [] Tryz.func183 ⟨Gt.s k,trivial⟩ trivial
def Fe.e (k:Nat):Ent:=⟨3,[(.val true t28),(.val true t29),(.val false .s)],[(.agg,t29),(.one,.b)],λ x=>Fe k x.1 x.2.1 x.2.2⟩
def Fe.d:Fd := { nt:=24,nv:=3,nm:=[0,1,2,3,4,5],res:=[7],cs:=λ k=>[(67,Bo.e k),(183,Bw.e k),(192,A6.e k)],mv:=[23] }
def Fe.s (k:Nat):CK 196 (Fe.e k):=mS Fe.d k [] Tryz.func196 ⟨Bo.s k,Bw.s k,A6.s k,trivial⟩ trivial
def Gj.e (k:Nat):Ent:=⟨3,[(.val false t13),(.val false .s),(.val false t4)],[(.one,t14)],λ x=>Gj k x.1 x.2.1 x.2.2⟩
def Cr.p:LF:=⟨⟨[(9,(.bp 9 0 0)),(10999,(.hd 2))],[(0,t13),(1,.s),(7,t14),(8,.b),(10,(.i .i64)),(10000,.s),(10001,t4)]⟩,[((.exit 0),⟨[(9,(.bp 9 0 0)),(10999,(.hd 2))],[(7,t14),(8,.b),(10000,.s),(10001,t4)]⟩)],λ k x=>Cr k x.1 x.2.1 x.2.2.1 x.2.2.2.1 x.2.2.2.2.1 x.2.2.2.2.2.1 x.2.2.2.2.2.2⟩
def Gj.d:Fd := { nt:=59,nv:=3,nm:=[0,1,2,3,4,5,7,8,9,10],res:=[6],ls:=[(5,Cr.p)] }
def Cr.s:LL Tryz.f197 Gj.d 5 Cr.p:=mL [] (λ _=>trivial) trivial
def Gj.s (k:Nat):CK 197 (Gj.e k):=mS Gj.d k [5] Tryz.func197 trivial ⟨Cr.s,trivial⟩
def Br.e (k:Nat):Ent:=⟨2,[(.val true t28),(.val false .s)],[(.agg,t29),(.one,.b)],λ x=>Br k x.1 x.2⟩
def Br.d:Fd := { nt:=35,nv:=2,nm:=[0,1,2,3,6,7,8],res:=[5],cs:=λ k=>[(116,Gc.e k),(192,A6.e k),(195,Kh.e k),(196,Fe.e k),(197,Gj.e k)] }
def Br.s (k:Nat):CK 144 (Br.e k):=mS Br.d k [] Tryz.func144 ⟨Gc.s k,A6.s k,Kh.s k,Fe.s k,Gj.s k,trivial⟩ trivial
def F3.e (k:Nat):Ent:=⟨3,[(.val true t28),(.val false .s),(.val false t4)],[(.agg,t29),(.one,.b)],λ x=>F3 k x.1 x.2.1 x.2.2⟩
def F3.d:Fd := { nt:=23,nv:=3,nm:=[0,1,2,3,4,5,8],res:=[7],cs:=λ k=>[(192,A6.e k),(196,Fe.e k),(197,Gj.e k)] }
def F3.s (k:Nat):CK 194 (F3.e k):=mS F3.d k [] Tryz.func194 ⟨A6.s k,Fe.s k,Gj.s k,trivial⟩ trivial
def Me.e (k:Nat):Ent:=⟨4,[(.val true t28),(.val false .s),(.val true t25),(.val false .b)],[(.agg,t29),(.one,(.i .i64))],λ x=>Me k x.1 x.2.1 x.2.2.1 x.2.2.2⟩
def Me.d:Fd := { nt:=82,nv:=4,nm:=[0,1,2,3,4,5,6,7,10,11,12,13,14,15],res:=[9],cs:=λ k=>[(59,J7.e k),(60,Mt.e k),(67,Bo.e k),(68,Gq.e k),(144,Br.e k),(175,G3.e k),(183,Bw.e k),(192,A6.e k),(194,F3.e k)],mv:=[58,81] }
def Me.s (k:Nat):CK 142 (Me.e k):=mS Me.d k [] Tryz.func142 ⟨J7.s k,Mt.s k,Bo.s k,Gq.s k,Br.s k,G3.s k,Bw.s k,A6.s k,F3.s k,trivial⟩ trivial
def Nj.e (k:Nat):Ent:=⟨2,[(.val false .s),(.val true t25)],[(.agg,t27)],λ x=>Nj x.1 x.2⟩
def Nj.d:Fd := { nt:=14,nv:=2,nm:=[0,1,2,3],res:=[] }
def Nj.s (k:Nat):CK 257 (Nj.e k):=mS Nj.d k [] Tryz.func257 trivial trivial
def M1.e (k:Nat):Ent:=⟨4,[(.ptr t38 t38),(.val false .s),(.val true t25),(.val false .b)],[(.one,(.i .i64))],λ x=>M1 k x.1 x.2.1 x.2.2.1 x.2.2.2⟩
def M1.d:Fd := { nt:=52,nv:=4,nm:=[0,1,2,3,4,5,6,7,9,10],res:=[8],cs:=λ k=>[(142,Me.e k),(257,Nj.e k)] }
def M1.s (k:Nat):CK 236 (M1.e k):=mS M1.d k [] Tryz.func236 ⟨Me.s k,Nj.s k,trivial⟩ trivial
def M2.e (k:Nat):Ent:=⟨1,[(.val false (.i .i64))],[(.one,(.i .i64))],λ x=>M2 x⟩
def M2.d:Fd := { nt:=6,nv:=1,nm:=[0,1],res:=[2],rf:=true }
def M2.s (k:Nat):CK 237 (M2.e k):=mS M2.d k [] Tryz.func237 trivial trivial
def C9.e (k:Nat):Ent:=⟨4,[(.ptr t46 t46),(.val false .s),(.val true t25),(.val false t6)],[(.one,(.i .i64))],λ x=>C9 k x.1 x.2.1 x.2.2.1 x.2.2.2⟩
def Bc.p:LF:=⟨⟨[(0,(.bp 0 0 0)),(6,(.bp 6 0 0)),(1999,(.hd 9)),(7999,(.hd 5))],[(1,.s),(3,t6),(9,t7),(10,(.i .i64)),(11,(.i .i64)),(12,(.i .i64)),(1000,t46),(7000,t25)]⟩,[((.exit 0),⟨[(0,(.bp 0 0 0)),(6,(.bp 6 0 0)),(1999,(.hd 9)),(7999,(.hd 5))],[(1,.s),(11,(.i .i64)),(1000,t46),(7000,t25)]⟩)],λ k x=>Bc k x.1 x.2.1 x.2.2.1 x.2.2.2.1 x.2.2.2.2.1 x.2.2.2.2.2.1 x.2.2.2.2.2.2.1 x.2.2.2.2.2.2.2⟩
def C9.d:Fd := { nt:=92,nv:=4,nm:=[0,1,2,3,4,5,6,7,9,10,11,12,13,14,15],res:=[8],cs:=λ k=>[(138,Fo.e k),(141,Ce.e k),(235,Fq.e k),(236,M1.e k),(237,M2.e k)],ls:=[(5,Bc.p)],gh:=[(1000006,[.cl 1003])],opn:=[51],rf:=true }
def C9.a (k:Nat):AC (C9.d.cs k):=⟨Fo.s k,Ce.s k,Fq.s k,M1.s k,M2.s k,trivial⟩
def Bc.s:LL Tryz.f206 C9.d 5 Bc.p:=mL [] C9.a trivial
def C9.s (k:Nat):CK 206 (C9.e k):=mS C9.d k [5] Tryz.func206 (C9.a k) ⟨Bc.s,trivial⟩
def Ix.e (k:Nat):Ent:=⟨5,[(.ptr t46 t46),(.val false .s),(.val true t25),(.val false (.i .i64)),(.val false t6)],[(.one,(.i .i64))],λ x=>Ix k x.1 x.2.1 x.2.2.1 x.2.2.2.1 x.2.2.2.2⟩
def Ix.d:Fd := { nt:=57,nv:=5,nm:=[0,1,2,3,4,5,6,7,8,9],res:=[10],cs:=λ k=>[(67,Bo.e k),(72,A9.e k),(205,Ib.e k),(206,C9.e k)],rf:=true }
def Ix.s (k:Nat):CK 160 (Ix.e k):=mS Ix.d k [] Tryz.func160 ⟨Bo.s k,A9.s k,Ib.s k,C9.s k,trivial⟩ trivial
def Cl.e (k:Nat):Ent:=⟨2,[(.val true t28),(.val false .s)],[(.agg,t29),(.one,.b)],λ x=>Cl k x.1 x.2⟩
def Cl.d:Fd := { nt:=26,nv:=2,nm:=[0,1,2,3,6],res:=[5],cs:=λ k=>[(129,E3.e k),(192,A6.e k),(195,Kh.e k),(196,Fe.e k)],mv:=[14] }
def Cl.s (k:Nat):CK 143 (Cl.e k):=mS Cl.d k [] Tryz.func143 ⟨E3.s k,A6.s k,Kh.s k,Fe.s k,trivial⟩ trivial
def Cw.e (k:Nat):Ent:=⟨4,[(.ptr t46 t46),(.val false (.i .i64)),(.val false .s),(.val false t6)],[(.one,.b)],λ x=>Cw k x.1 x.2.1 x.2.2.1 x.2.2.2⟩
def Bx.p:LF:=⟨⟨[(0,(.bp 0 0 0)),(9,(.bp 9 0 0)),(1999,(.hd 9)),(10999,(.hd 5))],[(1,(.i .i64)),(2,.s),(3,t6),(11,t7),(12,.b),(13,.b),(14,(.i .i64)),(1000,t46),(10000,t25)]⟩,[((.exit 0),⟨[(0,(.bp 0 0 0)),(1999,(.hd 9))],[(1,(.i .i64)),(2,.s),(12,.b),(13,.b),(1000,t46)]⟩)],λ k x=>Bx k x.1 x.2.1 x.2.2.1 x.2.2.2.1 x.2.2.2.2.1 x.2.2.2.2.2.1 x.2.2.2.2.2.2.1 x.2.2.2.2.2.2.2.1 x.2.2.2.2.2.2.2.2⟩
def Cw.d:Fd := { nt:=125,nv:=4,nm:=[0,1,2,3,4,5,6,7,9,10,11,12,13,14,15,16,17,18],res:=[8],cs:=λ k=>[(59,J7.e k),(139,Bp.e k),(140,Bq.e k),(141,Ce.e k),(142,Me.e k),(143,Cl.e k),(144,Br.e k)],ls:=[(8,Bx.p)],rf:=true }
def Cw.a (k:Nat):AC (Cw.d.cs k):=⟨J7.s k,Bp.s k,Bq.s k,Ce.s k,Me.s k,Cl.s k,Br.s k,trivial⟩
def Bx.s:LL Tryz.f81 Cw.d 8 Bx.p:=mL [] Cw.a trivial
def Cw.s (k:Nat):CK 81 (Cw.e k):=mS Cw.d k [8] Tryz.func81 (Cw.a k) ⟨Bx.s,trivial⟩
def Hw.e (k:Nat):Ent:=⟨1,[(.val true t44)],[(.one,t7)],λ x=>Hw k x⟩
def Hw.d:Fd := { nt:=8,nv:=1,nm:=[0,1],res:=[2],cs:=λ k=>[(139,Bp.e k),(140,Bq.e k)],rf:=true }
def Hw.s (k:Nat):CK 200 (Hw.e k):=mS Hw.d k [] Tryz.func200 ⟨Bp.s k,Bq.s k,trivial⟩ trivial
def L6.e (k:Nat):Ent:=⟨2,[(.val true t27),(.val true t27)],[(.one,.b)],λ x=>L6 x.1 x.2⟩
def L6.d:Fd := { nt:=29,nv:=2,nm:=[0,1,2,3],res:=[4],cs:=λ k=>[(69,Ez.e k)] }
def L6.s (k:Nat):CK 260 (L6.e k):=mS L6.d k [] Tryz.func260 ⟨Ez.s k,trivial⟩ trivial
def Cs.e (k:Nat):Ent:=⟨2,[(.val false t31),(.val true t27)],[(.one,t32)],λ x=>Cs k x.1 x.2⟩
def Er.p:LF:=⟨⟨[(3,(.bp 3 0 0)),(4999,(.hd 6))],[(5,t32),(7,(.i .i64)),(4000,.s),(4001,(.i .i64)),(4002,(.i .i64)),(4003,(.i .i64)),(4004,.b),(4005,(.i .i64))]⟩,[((.exit 2),⟨[(3,(.bp 3 0 0)),(4999,(.hd 6))],[(5,t32),(7,(.i .i64)),(4000,.s),(4001,(.i .i64)),(4002,(.i .i64)),(4003,(.i .i64)),(4004,.b),(4005,(.i .i64))]⟩)],λ k x=>Er k x.1 x.2.1 x.2.2.1 x.2.2.2.1 x.2.2.2.2.1 x.2.2.2.2.2.1 x.2.2.2.2.2.2.1 x.2.2.2.2.2.2.2⟩
def Fs.p:LF:=⟨⟨[(3,(.bp 3 0 0)),(4999,(.hd 6))],[(5,t32),(6,(.i .i64)),(4000,.s),(4001,(.i .i64)),(4002,(.i .i64)),(4003,(.i .i64)),(4004,.b),(4005,(.i .i64))]⟩,[(.ret,⟨[],[(4,t32)]⟩),((.exit 0),⟨[(3,(.bp 3 0 0)),(4999,(.hd 6))],[(5,t32),(4000,.s),(4001,(.i .i64)),(4002,(.i .i64)),(4003,(.i .i64)),(4004,.b),(4005,(.i .i64))]⟩)],λ k x=>Fs k x.1 x.2.1 x.2.2.1 x.2.2.2.1 x.2.2.2.2.1 x.2.2.2.2.2.1 x.2.2.2.2.2.2.1 x.2.2.2.2.2.2.2⟩
def Cs.d:Fd := { nt:=70,nv:=2,nm:=[0,1,2,3,5,6,7],res:=[4],cs:=λ k=>[(260,L6.e k)],ls:=[(11,Er.p),(3,Fs.p)] }
def Cs.a (k:Nat):AC (Cs.d.cs k):=⟨L6.s k,trivial⟩
def Er.s:LL Tryz.f253 Cs.d 11 Er.p:=mL [] Cs.a trivial
def Fs.s:LL Tryz.f253 Cs.d 3 Fs.p:=mL [] Cs.a trivial
def Cs.s (k:Nat):CK 253 (Cs.e k):=mS Cs.d k [3,11] Tryz.func253 (Cs.a k) ⟨Fs.s,Er.s,trivial⟩
def Cy.e (k:Nat):Ent:=⟨2,[(.val false t31),(.val false t31)],[(.one,t32)],λ x=>Cy k x.1 x.2⟩
def Es.p:LF:=⟨⟨[],[(1,t31),(5,t32),(6,(.i .i64))]⟩,[((.exit 0),⟨[],[(5,t32)]⟩)],λ k x=>Es k x.1 x.2.1 x.2.2⟩
def Cy.d:Fd := { nt:=23,nv:=2,nm:=[0,1,2,3,5,6],res:=[4],cs:=λ k=>[(253,Cs.e k)],ls:=[(3,Es.p)] }
def Cy.a (k:Nat):AC (Cy.d.cs k):=⟨Cs.s k,trivial⟩
def Es.s:LL Tryz.f233 Cy.d 3 Es.p:=mL [] Cy.a trivial
def Cy.s (k:Nat):CK 233 (Cy.e k):=mS Cy.d k [3] Tryz.func233 (Cy.a k) ⟨Es.s,trivial⟩
def J8.e (k:Nat):Ent:=⟨2,[(.ptr t38 t38),(.val false t31)],[(.one,.b)],λ x=>J8 k x.1 x.2⟩
def J8.d:Fd := { nt:=19,nv:=2,nm:=[0,1,2,3,5],res:=[4],cs:=λ k=>[(233,Cy.e k)] }
def J8.s (k:Nat):CK 201 (J8.e k):=mS J8.d k [] Tryz.func201 ⟨Cy.s k,trivial⟩ trivial
def Bz.e (k:Nat):Ent:=⟨5,[(.ptr t46 t46),(.val false (.i .i64)),(.val false t31),(.val false .b),(.val false t6)],[(.one,.b)],λ x=>Bz k x.1 x.2.1 x.2.2.1 x.2.2.2.1 x.2.2.2.2⟩
def Ao.p:LF:=⟨⟨[(0,(.bp 0 0 0)),(1999,(.hd 9))],[(1,(.i .i64)),(2,t31),(3,.b),(4,t6),(11,t7),(12,.b),(13,(.i .i64)),(1000,t46)]⟩,[((.exit 0),⟨[(1999,(.hd 9))],[(12,.b),(1000,t46)]⟩)],λ k x=>Ao k x.1 x.2.1 x.2.2.1 x.2.2.2.1 x.2.2.2.2.1 x.2.2.2.2.2.1 x.2.2.2.2.2.2.1 x.2.2.2.2.2.2.2⟩
def Bz.d:Fd := { nt:=53,nv:=5,nm:=[0,1,2,3,4,5,6,7,8,9,11,12,13],res:=[10],cs:=λ k=>[(141,Ce.e k),(200,Hw.e k),(201,J8.e k)],ls:=[(4,Ao.p)],gh:=[(1000005,[.cl 1003])],opn:=[47],rf:=true }
def Bz.a (k:Nat):AC (Bz.d.cs k):=⟨Ce.s k,Hw.s k,J8.s k,trivial⟩
def Ao.s:LL Tryz.f154 Bz.d 4 Ao.p:=mL [] Bz.a trivial
def Bz.s (k:Nat):CK 154 (Bz.e k):=mS Bz.d k [4] Tryz.func154 (Bz.a k) ⟨Ao.s,trivial⟩
def Ic.e (k:Nat):Ent:=⟨3,[(.ptr t46 t46),(.val false (.i .i64)),(.val false t6)],[(.one,.b)],λ x=>Ic k x.1 x.2.1 x.2.2⟩
def Ic.d:Fd := { nt:=36,nv:=3,nm:=[0,1,2,3,4,5,7],res:=[6],cs:=λ k=>[(154,Bz.e k)],rf:=true }
def Ic.s (k:Nat):CK 91 (Ic.e k):=mS Ic.d k [] Tryz.func91 ⟨Bz.s k,trivial⟩ trivial
def Kj.e (k:Nat):Ent:=⟨2,[(.val true t44),(.val false (.i .i64))],[(.one,.b)],λ x=>Kj k x.1 x.2⟩
def Kj.d:Fd := { nt:=9,nv:=2,nm:=[0,1,2,3],res:=[4],cs:=λ k=>[(181,Ct.e k),(200,Hw.e k)],rf:=true }
def Kj.s (k:Nat):CK 155 (Kj.e k):=mS Kj.d k [] Tryz.func155 ⟨Ct.s k,Hw.s k,trivial⟩ trivial
def Id.e (k:Nat):Ent:=⟨3,[(.ptr t46 t46),(.val false (.i .i64)),(.val false t6)],[(.one,.b)],λ x=>Id k x.1 x.2.1 x.2.2⟩
def Id.d:Fd := { nt:=47,nv:=3,nm:=[0,1,2,3,4,5,7],res:=[6],cs:=λ k=>[(154,Bz.e k),(155,Kj.e k)],rf:=true }
def Id.s (k:Nat):CK 93 (Id.e k):=mS Id.d k [] Tryz.func93 ⟨Bz.s k,Kj.s k,trivial⟩ trivial
def Jy.e (k:Nat):Ent:=⟨1,[(.val true t28)],[(.agg,t29),(.one,(.i .i64))],λ x=>Jy k x⟩
def Iy.p:LF:=⟨⟨[(1,(.bp 1 0 0)),(2,(.bp 2 0 0)),(4,(.bp 4 0 0)),(2999,(.hd 2)),(3999,(.hd 2)),(5999,(.hd 2))],[(5,(.i .i64)),(6,(.i .i64)),(2000,t28),(3000,t29),(5000,t29)]⟩,[((.exit 0),⟨[(2,(.bp 2 0 0)),(4,(.bp 4 0 0)),(3999,(.hd 2)),(5999,(.hd 2))],[(5,(.i .i64)),(3000,t29),(5000,t29)]⟩)],λ k x=>Iy k x.1 x.2.1 x.2.2.1 x.2.2.2.1 x.2.2.2.2⟩
def Jy.d:Fd := { nt:=53,nv:=1,nm:=[0,1,4,5,6,7,8,9],res:=[3],cs:=λ k=>[(59,J7.e k),(143,Cl.e k),(144,Br.e k),(183,Bw.e k),(192,A6.e k)],ls:=[(4,Iy.p)],mv:=[51],rf:=true }
def Jy.a (k:Nat):AC (Jy.d.cs k):=⟨J7.s k,Cl.s k,Br.s k,Bw.s k,A6.s k,trivial⟩
def Iy.s:LL Tryz.f207 Jy.d 4 Iy.p:=mL [] Jy.a trivial
def Jy.s (k:Nat):CK 207 (Jy.e k):=mS Jy.d k [4] Tryz.func207 (Jy.a k) ⟨Iy.s,trivial⟩
def Cu.e (k:Nat):Ent:=⟨2,[(.val false t13),(.val false t13)],[(.one,t2)],λ x=>Cu k x.1 x.2⟩
def Ft.p:LF:=⟨⟨[],[(5,t14),(8,t2),(9,(.i .i64))]⟩,[((.exit 4),⟨[],[(8,t2)]⟩)],λ k x=>Ft k x.1 x.2.1 x.2.2⟩
def Gu.p:LF:=⟨⟨[],[(1,t13),(5,t14),(7,(.i .i64))]⟩,[((.exit 2),⟨[],[(5,t14)]⟩)],λ k x=>Gu k x.1 x.2.1 x.2.2⟩
def Gv.p:LF:=⟨⟨[],[(0,t13),(1,t13),(5,t14),(6,(.i .i64))]⟩,[((.exit 0),⟨[],[(1,t13),(5,t14)]⟩)],λ k x=>Gv k x.1 x.2.1 x.2.2.1 x.2.2.2⟩
def Cu.d:Fd := { nt:=55,nv:=2,nm:=[0,1,2,3,5,6,7,8,9],res:=[4],cs:=λ k=>[(197,Gj.e k)],ls:=[(12,Ft.p),(7,Gu.p),(3,Gv.p)],rf:=true }
def Cu.a (k:Nat):AC (Cu.d.cs k):=⟨Gj.s k,trivial⟩
def Ft.s:LL Tryz.f238 Cu.d 12 Ft.p:=mL [] Cu.a trivial
def Gu.s:LL Tryz.f238 Cu.d 7 Gu.p:=mL [] Cu.a trivial
def Gv.s:LL Tryz.f238 Cu.d 3 Gv.p:=mL [] Cu.a trivial
def Cu.s (k:Nat):CK 238 (Cu.e k):=mS Cu.d k [3,7,12] Tryz.func238 (Cu.a k) ⟨Gv.s,Gu.s,Ft.s,trivial⟩
def E9.e (k:Nat):Ent:=⟨2,[(.val true t28),(.val false t1)],[(.agg,t29)],λ x=>E9 k x.1 x.2⟩
def B1.p:LF:=⟨⟨[(2,(.bp 2 0 0)),(4,(.bp 4 0 0)),(3999,(.hd 2)),(5999,(.hd 2))],[(1,t1),(5,t2),(6,t14),(7,(.i .i64)),(3000,t28),(5000,t29)]⟩,[((.exit 0),⟨[(2,(.bp 2 0 0)),(4,(.bp 4 0 0)),(3999,(.hd 2)),(5999,(.hd 2))],[(6,t14),(3000,t28),(5000,t29)]⟩)],λ k x=>B1 k x.1 x.2.1 x.2.2.1 x.2.2.2.1 x.2.2.2.2.1 x.2.2.2.2.2⟩
def E9.d:Fd := { nt:=66,nv:=2,nm:=[0,1,2,3,5,6,7,8,9],res:=[],cs:=λ k=>[(129,E3.e k),(183,Bw.e k),(192,A6.e k),(231,Bt.e k),(238,Cu.e k)],ls:=[(6,B1.p)],rf:=true }
def E9.a (k:Nat):AC (E9.d.cs k):=⟨E3.s k,Bw.s k,A6.s k,Bt.s k,Cu.s k,trivial⟩
def B1.s:LL Tryz.f208 E9.d 6 B1.p:=mL [] E9.a trivial
def E9.s (k:Nat):CK 208 (E9.e k):=mS E9.d k [6] Tryz.func208 (E9.a k) ⟨B1.s,trivial⟩
def Jp.e (k:Nat):Ent:=⟨1,[(.val true t27)],[(.one,.b)],λ x=>Jp k x⟩
def Jp.d:Fd := { nt:=26,nv:=1,nm:=[0,1],res:=[2],cs:=λ k=>[(66,E5.e k),(67,Bo.e k),(72,A9.e k)] }
def Jp.s (k:Nat):CK 182 (Jp.e k):=mS Jp.d k [] Tryz.func182 ⟨E5.s k,Bo.s k,A9.s k,trivial⟩ trivial
def Hq.e (k:Nat):Ent:=⟨1,[(.val false t31)],[(.one,.b)],λ x=>Hq k x⟩
def Hb.p:LF:=⟨⟨[],[(0,t31),(3,(.i .i64))]⟩,[(.ret,⟨[],[(2,.b)]⟩),((.exit 0),⟨[],[(0,t31)]⟩)],λ k x=>Hb k x.1 x.2⟩
def Hq.d:Fd := { nt:=37,nv:=1,nm:=[0,1,3],res:=[2],cs:=λ k=>[(182,Jp.e k)],ls:=[(2,Hb.p)] }
def Hq.a (k:Nat):AC (Hq.d.cs k):=⟨Jp.s k,trivial⟩
def Hb.s:LL Tryz.f184 Hq.d 2 Hb.p:=mL [] Hq.a trivial
def Hq.s (k:Nat):CK 184 (Hq.e k):=mS Hq.d k [2] Tryz.func184 (Hq.a k) ⟨Hb.s,trivial⟩
def Hr.e (k:Nat):Ent:=⟨1,[(.val true t38)],[(.one,.b)],λ x=>Hr k x⟩
def Ie.p:LF:=⟨⟨[(1,(.bp 1 0 0)),(2999,(.hd 5))],[(3,(.i .i64)),(2000,(.i .i64)),(2001,t13),(2002,t13),(2003,t31),(2004,t31)]⟩,[(.ret,⟨[],[(2,.b)]⟩),((.exit 0),⟨[(1,(.bp 1 0 0)),(2999,(.hd 5))],[(2000,(.i .i64)),(2001,t13),(2002,t13),(2003,t31),(2004,t31)]⟩)],λ k x=>Ie k x.1 x.2.1 x.2.2.1 x.2.2.2.1 x.2.2.2.2.1 x.2.2.2.2.2⟩
def Hr.d:Fd := { nt:=37,nv:=1,nm:=[0,1,3],res:=[2],cs:=λ k=>[(72,A9.e k),(182,Jp.e k),(183,Bw.e k),(184,Hq.e k)],ls:=[(2,Ie.p)] }
def Hr.a (k:Nat):AC (Hr.d.cs k):=⟨A9.s k,Jp.s k,Bw.s k,Hq.s k,trivial⟩
def Ie.s:LL Tryz.f125 Hr.d 2 Ie.p:=mL [] Hr.a trivial
def Hr.s (k:Nat):CK 125 (Hr.e k):=mS Hr.d k [2] Tryz.func125 (Hr.a k) ⟨Ie.s,trivial⟩
def L7.e (k:Nat):Ent:=⟨1,[(.val true t38)],[(.agg,t39)],λ x=>L7 k x⟩
def L7.d:Fd := { nt:=17,nv:=1,nm:=[0,1],res:=[],cs:=λ k=>[(192,A6.e k)] }
def L7.s (k:Nat):CK 137 (L7.e k):=mS L7.d k [] Tryz.func137 ⟨A6.s k,trivial⟩ trivial
def M3.e (k:Nat):Ent:=⟨3,[(.val true t28),(.val false .s),(.val false (.i .i64))],[(.agg,t30),(.one,.b)],λ x=>M3 k x.1 x.2.1 x.2.2⟩
def M3.d:Fd := { nt:=97,nv:=3,nm:=[0,1,2,3,4,5,8,9,10,11],res:=[7],cs:=λ k=>[(72,A9.e k),(129,E3.e k),(183,Bw.e k),(192,Lr.e k)],mv:=[39,96] }
def M3.s (k:Nat):CK 239 (M3.e k):=mS M3.d k [] Tryz.func239 ⟨A9.s k,E3.s k,Bw.s k,Lr.s k,trivial⟩ trivial
def L8.e (k:Nat):Ent:=⟨3,[(.val true t38),(.val false .s),(.val false (.i .i64))],[(.agg,t40),(.one,.b)],λ x=>L8 k x.1 x.2.1 x.2.2⟩
def L8.d:Fd := { nt:=44,nv:=3,nm:=[0,1,2,3,4,5,8,9,10,11,12],res:=[7],cs:=λ k=>[(59,J7.e k),(125,Hr.e k),(137,L7.e k),(239,M3.e k)],mv:=[29,40,43] }
def L8.s (k:Nat):CK 209 (L8.e k):=mS L8.d k [] Tryz.func209 ⟨J7.s k,Hr.s k,L7.s k,M3.s k,trivial⟩ trivial
def J2.e (k:Nat):Ent:=⟨2,[(.val false t0),(.val false .s)],[(.one,.b)],λ x=>J2 k x.1 x.2⟩
def Ig.p:LF:=⟨⟨[],[(0,t0),(1,.s),(5,(.i .i64))]⟩,[(.ret,⟨[],[(4,.b)]⟩),((.exit 0),⟨[],[]⟩)],λ k x=>Ig k x.1 x.2.1 x.2.2⟩
def J2.d:Fd := { nt:=18,nv:=2,nm:=[0,1,2,3,5],res:=[4],ls:=[(2,Ig.p)],rf:=true }
def Ig.s:LL Tryz.f128 J2.d 2 Ig.p:=mL [] (λ _=>trivial) trivial
def J2.s (k:Nat):CK 128 (J2.e k):=mS J2.d k [2] Tryz.func128 trivial ⟨Ig.s,trivial⟩
def Ea.e (k:Nat):Ent:=⟨2,[(.val false t0),(.val false .s)],[(.one,t0)],λ x=>Ea k x.1 x.2⟩
def Fu.p:LF:=⟨⟨[],[(1,.s),(5,t2),(6,(.i .i64))]⟩,[((.exit 0),⟨[],[(1,.s),(5,t2),(6,(.i .i64))]⟩)],λ k x=>Fu k x.1 x.2.1 x.2.2⟩
def Ea.d:Fd := { nt:=46,nv:=2,nm:=[0,1,2,3,5,6],res:=[4],cs:=λ k=>[(128,J2.e k)],ls:=[(5,Fu.p)],rf:=true }
def Ea.a (k:Nat):AC (Ea.d.cs k):=⟨J2.s k,trivial⟩
def Fu.s:LL Tryz.f210 Ea.d 5 Fu.p:=mL [] Ea.a trivial
def Ea.s (k:Nat):CK 210 (Ea.e k):=mS Ea.d k [5] Tryz.func210 (Ea.a k) ⟨Fu.s,trivial⟩
def B9.e (k:Nat):Ent:=⟨2,[(.ptr t46 t46),(.val true t34)],[(.one,.b)],λ x=>B9 k x.1 x.2⟩
def Dq.p:LF:=⟨⟨[(0,(.bp 0 0 0)),(3,(.bp 3 0 0)),(1999,(.hd 9)),(4999,(.hd 6))],[(5,t3),(6,(.i .i64)),(1000,t46),(4000,t34)]⟩,[((.exit 1),⟨[(0,(.bp 0 0 0)),(3,(.bp 3 0 0)),(1999,(.hd 9)),(4999,(.hd 6))],[(5,t3),(1000,t46),(4000,t34)]⟩)],λ k x=>Dq k x.1 x.2.1 x.2.2.1 x.2.2.2⟩
def B9.d:Fd := { nt:=134,nv:=2,nm:=[0,1,2,3,5,6,7,8],res:=[4],cs:=λ k=>[(81,Cw.e k),(91,Ic.e k),(93,Id.e k),(207,Jy.e k),(208,E9.e k),(209,L8.e k),(210,Ea.e k)],ls:=[(14,Dq.p)],rf:=true }
def B9.a (k:Nat):AC (B9.d.cs k):=⟨Cw.s k,Ic.s k,Id.s k,Jy.s k,E9.s k,L8.s k,Ea.s k,trivial⟩
def Dq.s:LL Tryz.f161 B9.d 14 Dq.p:=mL [] B9.a trivial
def B9.s (k:Nat):CK 161 (B9.e k):=mS B9.d k [14] Tryz.func161 (B9.a k) ⟨Dq.s,trivial⟩
def Ll.e (k:Nat):Ent:=⟨1,[(.val true t17)],[(.agg,t19)],λ x=>Ll k x⟩
def Ih.p:LF:=⟨⟨[(1,(.bp 1 0 0)),(2,(.bp 2 0 0)),(3,(.bp 3 0 0)),(2999,(.hd 2)),(3999,(.hd 2)),(4999,(.hd 2))],[(4,(.i .i64)),(2000,t17),(3000,t18),(4000,t19)]⟩,[((.exit 0),⟨[(2,(.bp 2 0 0)),(3,(.bp 3 0 0)),(3999,(.hd 2)),(4999,(.hd 2))],[(3000,t18),(4000,t19)]⟩)],λ k x=>Ih k x.1 x.2.1 x.2.2.1 x.2.2.2⟩
def Ll.d:Fd := { nt:=30,nv:=1,nm:=[0,1,3,4],res:=[],ls:=[(3,Ih.p)],hint:=[(26,t7),(27,t7)],mv:=[29],rf:=true }
def Ih.s:LL Tryz.f136 Ll.d 3 Ih.p:=mL [] (λ _=>trivial) trivial
def Ll.s (k:Nat):CK 136 (Ll.e k):=mS Ll.d k [3] Tryz.func136 trivial ⟨Ih.s,trivial⟩
def Hs.e (k:Nat):Ent:=⟨2,[(.val true t6),(.val false (.i .i64))],[(.one,.b)],λ x=>Hs k x.1 x.2⟩
def Ii.p:LF:=⟨⟨[(2,(.bp 2 0 0)),(3999,(.hd 1))],[(1,(.i .i64)),(5,(.i .i64)),(3000,t6)]⟩,[(.ret,⟨[],[(4,.b)]⟩),((.exit 0),⟨[(2,(.bp 2 0 0)),(3999,(.hd 1))],[(1,(.i .i64)),(3000,t6)]⟩)],λ k x=>Ii k x.1 x.2.1 x.2.2⟩
def Hs.d:Fd := { nt:=28,nv:=2,nm:=[0,1,2,3,5],res:=[4],cs:=λ k=>[(181,Ct.e k)],ls:=[(2,Ii.p)],rf:=true }
def Hs.a (k:Nat):AC (Hs.d.cs k):=⟨Ct.s k,trivial⟩
def Ii.s:LL Tryz.f123 Hs.d 2 Ii.p:=mL [] Hs.a trivial
def Hs.s (k:Nat):CK 123 (Hs.e k):=mS Hs.d k [2] Tryz.func123 (Hs.a k) ⟨Ii.s,trivial⟩
def Ln.e (k:Nat):Ent:=⟨2,[(.val true t17),(.val false t22)],[(.one,.b)],λ x=>Ln k x.1 x.2⟩
def L9.p:LF:=⟨⟨[(2,(.bp 2 0 0)),(3999,(.hd 2))],[(5,(.i .i64)),(3000,t17)]⟩,[(.ret,⟨[],[(4,.b)]⟩),((.exit 0),⟨[],[]⟩)],λ k x=>L9 k x.1 x.2⟩
def Ln.d:Fd := { nt:=45,nv:=2,nm:=[0,1,2,3,5],res:=[4],cs:=λ k=>[(72,A9.e k),(122,D9.e k),(123,Hs.e k)],ls:=[(4,L9.p)],rf:=true }
def Ln.a (k:Nat):AC (Ln.d.cs k):=⟨A9.s k,D9.s k,Hs.s k,trivial⟩
def L9.s:LL Tryz.f240 Ln.d 4 L9.p:=mL [] Ln.a trivial
def Ln.s (k:Nat):CK 240 (Ln.e k):=mS Ln.d k [4] Tryz.func240 (Ln.a k) ⟨L9.s,trivial⟩
def Ht.e (k:Nat):Ent:=⟨2,[(.val true t6),(.val false t22)],[(.one,(.i .i64))],λ x=>Ht k x.1 x.2⟩
def Ij.p:LF:=⟨⟨[(2,(.bp 2 0 0)),(3999,(.hd 1))],[(1,t22),(5,(.i .i64)),(3000,t6)]⟩,[(.ret,⟨[],[(4,(.i .i64))]⟩),((.exit 0),⟨[],[]⟩)],λ k x=>Ij k x.1 x.2.1 x.2.2⟩
def Ht.d:Fd := { nt:=28,nv:=2,nm:=[0,1,2,3,5,6,7],res:=[4],cs:=λ k=>[(124,Hh.e k)],ls:=[(2,Ij.p)],rf:=true }
def Ht.a (k:Nat):AC (Ht.d.cs k):=⟨Hh.s k,trivial⟩
def Ij.s:LL Tryz.f241 Ht.d 2 Ij.p:=mL [] Ht.a trivial
def Ht.s (k:Nat):CK 241 (Ht.e k):=mS Ht.d k [2] Tryz.func241 (Ht.a k) ⟨Ij.s,trivial⟩
def G4.e (k:Nat):Ent:=⟨4,[(.val true t17),(.val true t6),(.val false t22),(.val false (.i .i64))],[(.one,(.i .i64))],λ x=>G4 k x.1 x.2.1 x.2.2.1 x.2.2.2⟩
def Cm.p:LF:=⟨⟨[(4,(.bp 4 0 0)),(5,(.bp 5 0 0)),(9,(.bp 9 0 0)),(5999,(.hd 2)),(6999,(.hd 1)),(10999,(.hd 3))],[(2,t22),(3,(.i .i64)),(10,.b),(11,(.i .i64)),(5000,t17),(6000,t6),(10000,t16)]⟩,[(.ret,⟨[],[(8,(.i .i64))]⟩),((.exit 0),⟨[],[]⟩)],λ k x=>Cm k x.1 x.2.1 x.2.2.1 x.2.2.2.1 x.2.2.2.2.1 x.2.2.2.2.2.1 x.2.2.2.2.2.2⟩
def G4.d:Fd := { nt:=60,nv:=4,nm:=[0,1,2,3,4,5,6,7,9,10,11,12,13],res:=[8],cs:=λ k=>[(124,Hh.e k),(255,Da.e k)],ls:=[(3,Cm.p)],rf:=true }
def G4.a (k:Nat):AC (G4.d.cs k):=⟨Hh.s k,Da.s k,trivial⟩
def Cm.s:LL Tryz.f242 G4.d 3 Cm.p:=mL [] G4.a trivial
def G4.s (k:Nat):CK 242 (G4.e k):=mS G4.d k [3] Tryz.func242 (G4.a k) ⟨Cm.s,trivial⟩
def Cz.e (k:Nat):Ent:=⟨2,[(.val true t17),(.val false t22)],[(.agg,t19),(.one,(.i .i64))],λ x=>Cz k x.1 x.2⟩
def Be.p:LF:=⟨⟨[(4,(.bp 4 0 0)),(6,(.bp 6 0 0)),(5999,(.hd 2)),(7999,(.hd 2))],[(1,t22),(7,(.i .i64)),(8,(.i .i64)),(5000,t18),(7000,t19)]⟩,[((.exit 0),⟨[(4,(.bp 4 0 0)),(6,(.bp 6 0 0)),(5999,(.hd 2)),(7999,(.hd 2))],[(7,(.i .i64)),(5000,t18),(7000,t19)]⟩)],λ k x=>Be k x.1 x.2.1 x.2.2.1 x.2.2.2.1 x.2.2.2.2⟩
def Cz.d:Fd := { nt:=82,nv:=2,nm:=[0,1,2,3,6,7,8,9,10,11,12],res:=[5],cs:=λ k=>[(136,Ll.e k),(234,J6.e k),(240,Ln.e k),(241,Ht.e k),(242,G4.e k)],ls:=[(6,Be.p)],mv:=[19,80],rf:=true }
def Cz.a (k:Nat):AC (Cz.d.cs k):=⟨Ll.s k,J6.s k,Ln.s k,Ht.s k,G4.s k,trivial⟩
def Be.s:LL Tryz.f211 Cz.d 6 Be.p:=mL [] Cz.a trivial
def Cz.s (k:Nat):CK 211 (Cz.e k):=mS Cz.d k [6] Tryz.func211 (Cz.a k) ⟨Be.s,trivial⟩
def Ik.e (k:Nat):Ent:=⟨3,[(.ptr t46 t46),(.val false (.i .i64)),(.val false (.i .i64))],[(.one,.b)],λ x=>Ik k x.1 x.2.1 x.2.2⟩
def Ik.d:Fd := { nt:=49,nv:=3,nm:=[0,1,2,3,4,5,7,8],res:=[6],cs:=λ k=>[(72,A9.e k),(211,Cz.e k)],rf:=true }
def Ik.s (k:Nat):CK 162 (Ik.e k):=mS Ik.d k [] Tryz.func162 ⟨A9.s k,Cz.s k,trivial⟩ trivial
def K8.e (k:Nat):Ent:=⟨2,[(.ptr t46 t46),(.val true t34)],[(.one,.b)],λ x=>K8 k x.1 x.2⟩
def K8.d:Fd := { nt:=76,nv:=2,nm:=[0,1,2,3,5,6],res:=[4],cs:=λ k=>[(72,A9.e k),(160,Ix.e k),(161,B9.e k),(162,Ik.e k)],rf:=true }
def K8.s (k:Nat):CK 102 (K8.e k):=mS K8.d k [] Tryz.func102 ⟨A9.s k,Ix.s k,B9.s k,Ik.s k,trivial⟩ trivial
def Mu.e (k:Nat):Ent:=⟨2,[(.ptr t21 t21),(.val false t0)],[(.one,.s)],λ x=>Mu x.1 x.2⟩
def Mu.d:Fd := { nt:=12,nv:=2,nm:=[0,1,2,3],res:=[4],cs:=λ k=>[(75,A8.e k)] }
def Mu.s (k:Nat):CK 115 (Mu.e k):=mS Mu.d k [] Tryz.func115 ⟨A8.s k,trivial⟩ trivial
def M4.e (k:Nat):Ent:=⟨1,[(.ptr t21 t21)],[(.one,.s)],λ x=>M4 x⟩
def M4.d:Fd := { nt:=6,nv:=1,nm:=[0,1],res:=[2],cs:=λ k=>[(115,Mu.e k)] }
def M4.s (k:Nat):CK 58 (M4.e k):=mS M4.d k [] Tryz.func58 ⟨Mu.s k,trivial⟩ trivial
def Hm.e (k:Nat):Ent:=⟨1,[(.val true t28)],[(.one,t2)],λ x=>Hm k x⟩
def La.p:LF:=⟨⟨[(1,(.bp 1 0 0)),(2999,(.hd 2))],[(3,t2),(4,(.i .i64)),(7,(.i .i64)),(2000,t28)]⟩,[((.exit 2),⟨[(1,(.bp 1 0 0)),(2999,(.hd 2))],[(3,t2),(4,(.i .i64)),(7,(.i .i64)),(2000,t28)]⟩)],λ k x=>La k x.1 x.2.1 x.2.2.1 x.2.2.2⟩
def Hx.p:LF:=⟨⟨[(1,(.bp 1 0 0)),(2999,(.hd 2))],[(3,t2),(4,(.i .i64)),(2000,t28)]⟩,[((.exit 0),⟨[],[(3,t2)]⟩)],λ k x=>Hx k x.1 x.2.1 x.2.2⟩
def Hm.d:Fd := { nt:=98,nv:=1,nm:=[0,1,3,4,5,6,7],res:=[2],cs:=λ k=>[(117,Hv.e k),(128,J2.e k),(129,E3.e k)],ls:=[(9,La.p),(3,Hx.p)],rf:=true }
def Hm.a (k:Nat):AC (Hm.d.cs k):=⟨Hv.s k,J2.s k,E3.s k,trivial⟩
def La.s:LL Tryz.f73 Hm.d 9 La.p:=mL [] Hm.a trivial
def Hx.s:LL Tryz.f73 Hm.d 3 Hx.p:=mL [9] Hm.a ⟨La.s,trivial⟩
def Hm.s (k:Nat):CK 73 (Hm.e k):=mS Hm.d k [3] Tryz.func73 (Hm.a k) ⟨Hx.s,trivial⟩
def Fa.e (k:Nat):Ent:=⟨1,[(.ptr t21 t21)],[(.one,t7)],λ x=>Fa k x⟩
def Gw.p:LF:=⟨⟨[(0,(.bp 0 0 0)),(1999,(.hd 3))],[(3,t7),(4,(.i .i64)),(1000,t21)]⟩,[((.exit 0),⟨[(1999,(.hd 3))],[(3,t7),(1000,t21)]⟩)],λ k x=>Gw k x.1 x.2.1 x.2.2⟩
def Fa.d:Fd := { nt:=17,nv:=1,nm:=[0,1,3,4],res:=[2],cs:=λ k=>[(127,Ca.e k)],ls:=[(3,Gw.p)],rf:=true }
def Fa.a (k:Nat):AC (Fa.d.cs k):=⟨Ca.s k,trivial⟩
def Gw.s:LL Tryz.f131 Fa.d 3 Gw.p:=mL [] Fa.a trivial
def Fa.s (k:Nat):CK 131 (Fa.e k):=mS Fa.d k [3] Tryz.func131 (Fa.a k) ⟨Gw.s,trivial⟩
def Gy.e (k:Nat):Ent:=⟨2,[(.ptr t21 t21),(.val false (.i .i64))],[(.one,t5)],λ x=>Gy k x.1 x.2⟩
def Gx.p:LF:=⟨⟨[(0,(.bp 0 0 0)),(1999,(.hd 3))],[(1,(.i .i64)),(5,t5),(6,(.i .i64)),(1000,t4),(1001,(.i .i64)),(1002,(.i .i64))]⟩,[((.exit 0),⟨[(1999,(.hd 3))],[(5,t5),(1000,t4),(1001,(.i .i64)),(1002,(.i .i64))]⟩)],λ k x=>Gx k x.1 x.2.1 x.2.2.1 x.2.2.2.1 x.2.2.2.2.1 x.2.2.2.2.2⟩
def Gy.d:Fd := { nt:=20,nv:=2,nm:=[0,1,2,3,5,6],res:=[4],cs:=λ k=>[(130,Gp.e k)],ls:=[(3,Gx.p)] }
def Gy.a (k:Nat):AC (Gy.d.cs k):=⟨Gp.s k,trivial⟩
def Gx.s:LL Tryz.f212 Gy.d 3 Gx.p:=mL [] Gy.a trivial
def Gy.s (k:Nat):CK 212 (Gy.e k):=mS Gy.d k [3] Tryz.func212 (Gy.a k) ⟨Gx.s,trivial⟩
def Gz.e (k:Nat):Ent:=⟨1,[(.ptr t21 t21)],[(.one,t5)],λ x=>Gz k x⟩
def Gz.d:Fd := { nt:=8,nv:=1,nm:=[0,1],res:=[2],cs:=λ k=>[(127,Ca.e k),(212,Gy.e k)] }
def Gz.s (k:Nat):CK 163 (Gz.e k):=mS Gz.d k [] Tryz.func163 ⟨Ca.s k,Gy.s k,trivial⟩ trivial
def Fv.e (k:Nat):Ent:=⟨2,[(.ptr t21 t21),(.vw t46 2),(.hid t46 t46)],[(.agg,(.pr (.i .i64) (.pr (.i .i64) (.pr .s (.pr t5 (.pr (.i .i64) t7))))))],λ x=>Fv k x.1 x.2.1 x.2.2⟩
def Fv.d:Fd := { nt:=99,nv:=2,nm:=[0,1,2,3,5,6],res:=[],cs:=λ k=>[(58,M4.e k),(73,Hm.e k),(75,A8.e k),(127,Ca.e k),(131,Fa.e k),(163,Gz.e k)],mv:=[1,98],rf:=true }
def Fv.s (k:Nat):CK 103 (Fv.e k):=mS Fv.d k [] Tryz.func103 ⟨M4.s k,Hm.s k,A8.s k,Ca.s k,Fa.s k,Gz.s k,trivial⟩ trivial
def G5.e (k:Nat):Ent:=⟨2,[(.ptr t21 t21),(.val false (.i .i64))],[(.agg,t46)],λ x=>G5 k x.1 x.2⟩
def H0.p:LF:=⟨⟨[(0,(.bp 0 0 0)),(4,(.bp 4 0 0)),(5,(.bp 5 0 0)),(1999,(.hd 3)),(5999,(.hd 9)),(6999,(.hd 9))],[(6,(.i .i64)),(1000,t21),(5000,t45),(6000,t46)]⟩,[((.exit 0),⟨[(4,(.bp 4 0 0)),(5,(.bp 5 0 0)),(5999,(.hd 9)),(6999,(.hd 9)),(1999,(.hd 3))],[(5000,t45),(6000,t46),(1000,t21)]⟩)],λ k x=>H0 k x.1 x.2.1 x.2.2.1 x.2.2.2⟩
def G5.d:Fd := { nt:=21,nv:=2,nm:=[0,1,2,3,5,6],res:=[],cs:=λ k=>[(75,A8.e k),(101,Lz.e k),(102,K8.e k),(103,Fv.e k)],ls:=[(3,H0.p)],mv:=[20],rf:=true }
def G5.a (k:Nat):AC (G5.d.cs k):=⟨A8.s k,Lz.s k,K8.s k,Fv.s k,trivial⟩
def H0.s:LL Tryz.f45 G5.d 3 H0.p:=mL [] G5.a trivial
def G5.s (k:Nat):CK 45 (G5.e k):=mS G5.d k [3] Tryz.func45 (G5.a k) ⟨H0.s,trivial⟩
def M5.e (k:Nat):Ent:=⟨2,[(.val false t4),(.val false (.i .i64))],[(.one,(.i .i64))],λ x=>M5 x.1 x.2⟩
def M5.d:Fd := { nt:=15,nv:=2,nm:=[0,1,2,3,5],res:=[4],rf:=true }
def M5.s (k:Nat):CK 46 (M5.e k):=mS M5.d k [] Tryz.func46 trivial trivial
def Hc.e (k:Nat):Ent:=⟨1,[(.val false t4)],[(.agg,t46)],λ x=>Hc k x⟩
def Hc.d:Fd := { nt:=11,nv:=1,nm:=[0,1,3],res:=[],cs:=λ k=>[(44,Mb.e k),(45,G5.e k),(46,M5.e k)],rf:=true }
def Hc.s (k:Nat):CK 10 (Hc.e k):=mS Hc.d k [] Tryz.func10 ⟨Mb.s k,G5.s k,M5.s k,trivial⟩ trivial
def Kk.e (k:Nat):Ent:=⟨3,[(.val true t16),(.val false (.i .i64)),(.val false (.i .i64))],[(.agg,t16)],λ x=>Kk x.1 x.2.1 x.2.2⟩
def Kk.d:Fd := { nt:=27,nv:=3,nm:=[0,1,2,3,4,5,7],res:=[],cs:=λ k=>[(85,Cf.e k)],rf:=true }
def Kk.s (k:Nat):CK 164 (Kk.e k):=mS Kk.d k [] Tryz.func164 ⟨Cf.s k,trivial⟩ trivial
def Dr.e (k:Nat):Ent:=⟨2,[(.val false t6),(.val false t22)],[(.one,t7)],λ x=>Dr k x.1 x.2⟩
def Et.p:LF:=⟨⟨[],[(1,t22),(5,t7),(10,t6),(11,(.i .i64)),(12,(.i .i64))]⟩,[((.exit 0),⟨[],[(5,t7)]⟩)],λ k x=>Et k x.1 x.2.1 x.2.2.1 x.2.2.2.1 x.2.2.2.2⟩
def Dr.d:Fd := { nt:=37,nv:=2,nm:=[0,1,2,3,5,6,7,8,9],res:=[4],cs:=λ k=>[(49,Ap.e k),(148,Fb.e k)],ls:=[(3,Et.p)],rf:=true }
def Dr.a (k:Nat):AC (Dr.d.cs k):=⟨Ap.s k,Fb.s k,trivial⟩
def Et.s:LL Tryz.f258 Dr.d 3 Et.p:=mL [] Dr.a trivial
def Dr.s (k:Nat):CK 258 (Dr.e k):=mS Dr.d k [3] Tryz.func258 (Dr.a k) ⟨Et.s,trivial⟩
def Gd.e (k:Nat):Ent:=⟨3,[(.val true t17),(.val false t22),(.val false .s)],[(.one,t7)],λ x=>Gd k x.1 x.2.1 x.2.2⟩
def Hd.p:LF:=⟨⟨[],[(7,t7),(8,t7),(9,t7),(10,t7),(19,t22),(20,(.i .i64)),(21,(.i .i64))]⟩,[((.exit 0),⟨[],[(9,t7),(10,t7)]⟩)],λ k x=>Hd k x.1 x.2.1 x.2.2.1 x.2.2.2.1 x.2.2.2.2.1 x.2.2.2.2.2.1 x.2.2.2.2.2.2⟩
def Gd.d:Fd := { nt:=49,nv:=3,nm:=[0,1,2,3,4,5,7,8,9,10,11,12],res:=[6],cs:=λ k=>[(30,B0.e k),(49,Ap.e k),(258,Dr.e k)],ls:=[(5,Hd.p)],rf:=true }
def Gd.a (k:Nat):AC (Gd.d.cs k):=⟨B0.s k,Ap.s k,Dr.s k,trivial⟩
def Hd.s:LL Tryz.f243 Gd.d 5 Hd.p:=mL [] Gd.a trivial
def Gd.s (k:Nat):CK 243 (Gd.e k):=mS Gd.d k [5] Tryz.func243 (Gd.a k) ⟨Hd.s,trivial⟩
def Ff.e (k:Nat):Ent:=⟨2,[(.ptr t46 t46),(.val false .s)],[(.one,t7)],λ x=>Ff k x.1 x.2⟩
def Ff.d:Fd := { nt:=26,nv:=2,nm:=[0,1,2,3],res:=[4],cs:=λ k=>[(30,B0.e k),(47,Dn.e k),(243,Gd.e k)],rf:=true }
def Ff.s (k:Nat):CK 213 (Ff.e k):=mS Ff.d k [] Tryz.func213 ⟨B0.s k,Dn.s k,Gd.s k,trivial⟩ trivial
def Ls.e (k:Nat):Ent:=⟨2,[(.val false .s),(.val true t25)],[(.agg,t27)],λ x=>Ls x.1 x.2⟩
def Ls.d:Fd := { nt:=14,nv:=2,nm:=[0,1,2,3],res:=[],rf:=true }
def Ls.s (k:Nat):CK 108 (Ls.e k):=mS Ls.d k [] Tryz.func108 trivial trivial
def Mf.e (k:Nat):Ent:=⟨4,[(.val true t38),(.val false .s),(.val true t25),(.val false .b)],[(.agg,t40),(.one,(.i .i64))],λ x=>Mf k x.1 x.2.1 x.2.2.1 x.2.2.2⟩
def Mf.d:Fd := { nt:=62,nv:=4,nm:=[0,1,2,3,4,5,6,7,10,11,12],res:=[9],cs:=λ k=>[(87,Bn.e k),(88,Ai.e k),(97,As.e k),(108,Ls.e k),(133,Md.e k),(149,Ee.e k)],mv:=[29,35,60],rf:=true }
def Mf.s (k:Nat):CK 167 (Mf.e k):=mS Mf.d k [] Tryz.func167 ⟨Bn.s k,Ai.s k,As.s k,Ls.s k,Md.s k,Ee.s k,trivial⟩ trivial
def Ge.e (k:Nat):Ent:=⟨5,[(.ptr t38 t38),(.val false (.i .i64)),(.ptr .s .s),(.ptr t25 t25),(.ptr (.i .i64) (.i .i64))],[],λ x=>Ge k x.1 x.2.1 x.2.2.1 x.2.2.2.1 x.2.2.2.2⟩
def Ge.d:Fd := { nt:=35,nv:=5,nm:=[0,1,5,6,7,8],res:=[],cs:=λ k=>[(167,Mf.e k)],rf:=true }
def Ge.s (k:Nat):CK 166 (Ge.e k):=mS Ge.d k [] Tryz.func166 ⟨Mf.s k,trivial⟩ trivial
def N9.e (k:Nat):Ent:=⟨1,[(.val false (.i .i64))],[(.one,(.i .i64))],λ x=>N9 x⟩
def N9.d:Fd := { nt:=6,nv:=1,nm:=[0,1],res:=[2],rf:=true }
def N9.s (k:Nat):CK 168 (N9.e k):=mS N9.d k [] Tryz.func168 trivial trivial
def Ah.e (k:Nat):Ent:=⟨4,[(.ptr t46 t46),(.val false .s),(.val false t6),(.fn 166 3),(.hid .s .s),(.hid t25 t25),(.hid (.i .i64) (.i .i64))],[],λ x=>Ah k x.1 x.2.1 x.2.2.1 x.2.2.2.1 x.2.2.2.2.1 x.2.2.2.2.2.1 x.2.2.2.2.2.2⟩
def Aw.p:LF:=⟨⟨[(0,(.bp 0 0 0)),(3,(.fn 166 [(1500,0),(1501,0),(1502,0)])),(1999,(.hd 9)),(1501999,(.hd 1)),(1502999,(.hd 5)),(1503999,(.hd 1))],[(2,t6),(8,(.i .i64)),(14,t7),(15,(.i .i64)),(16,(.i .i64)),(1000,t46),(1501000,.s),(1502000,t25),(1503000,(.i .i64))]⟩,[((.exit 0),⟨[(1999,(.hd 9)),(1501999,(.hd 1)),(1502999,(.hd 5)),(1503999,(.hd 1))],[(1000,t46),(1501000,.s),(1502000,t25),(1503000,(.i .i64))]⟩)],λ k x=>Aw k x.1 x.2.1 x.2.2.1 x.2.2.2.1 x.2.2.2.2.1 x.2.2.2.2.2.1 x.2.2.2.2.2.2.1 x.2.2.2.2.2.2.2.1 x.2.2.2.2.2.2.2.2⟩
def Ah.d:Fd := { nt:=47,nv:=4,nm:=[0,1,2,3,4,5,6,7,8,9,10,11],res:=[],cs:=λ k=>[(132,F8.e k),(166,Ge.e k),(213,Ff.e k)],ls:=[(2,Aw.p)],gh:=[(1000003,[.cl 1003])],opn:=[41],rf:=true }
def Ah.a (k:Nat):AC (Ah.d.cs k):=⟨F8.s k,Ge.s k,Ff.s k,trivial⟩
def Aw.s:LL Tryz.f165 Ah.d 2 Aw.p:=mL [] Ah.a trivial
def Ah.s (k:Nat):CK 165 (Ah.e k):=mS Ah.d k [2] Tryz.func165 (Ah.a k) ⟨Aw.s,trivial⟩
def F4.e (k:Nat):Ent:=⟨5,[(.ptr t46 t46),(.val false .s),(.val true t25),(.val false (.i .i64)),(.val false t6)],[(.one,(.i .i64))],λ x=>F4 k x.1 x.2.1 x.2.2.1 x.2.2.2.1 x.2.2.2.2⟩
def F4.d:Fd := { nt:=82,nv:=5,nm:=[0,1,2,3,4,5,6,7,8,9,11,12,13],res:=[10],cs:=λ k=>[(42,C8.e k),(88,Ai.e k),(98,Ga.e k),(164,Kk.e k),(165,Ah.e k),(168,N9.e k)],rf:=true }
def F4.s (k:Nat):CK 104 (F4.e k):=mS F4.d k [] Tryz.func104 ⟨C8.s k,Ai.s k,Ga.s k,Kk.s k,Ah.s k,N9.s k,trivial⟩ trivial
def Eb.e (k:Nat):Ent:=⟨2,[(.val true t28),(.val false t1)],[(.agg,t29)],λ x=>Eb k x.1 x.2⟩
def Ch.p:LF:=⟨⟨[(2,(.bp 2 0 0)),(4,(.bp 4 0 0)),(3999,(.hd 2)),(5999,(.hd 2))],[(1,t1),(8,t14),(34,t0),(35,(.i .i64)),(36,(.i .i64)),(3000,t13),(3001,t13),(5000,t14),(5001,t14)]⟩,[((.exit 2),⟨[(2,(.bp 2 0 0)),(4,(.bp 4 0 0)),(3999,(.hd 2)),(5999,(.hd 2))],[(8,t14),(3000,t13),(3001,t13),(5000,t14),(5001,t14)]⟩)],λ k x=>Ch k x.1 x.2.1 x.2.2.1 x.2.2.2.1 x.2.2.2.2.1 x.2.2.2.2.2.1 x.2.2.2.2.2.2.1 x.2.2.2.2.2.2.2.1 x.2.2.2.2.2.2.2.2⟩
def Ka.p:LF:=⟨⟨[(2,(.bp 2 0 0)),(4,(.bp 4 0 0)),(3999,(.hd 2)),(5999,(.hd 2))],[(1,t1),(5,t0),(23,t14),(24,(.i .i64)),(25,(.i .i64)),(3000,t13),(3001,t13),(5000,t14),(5001,t14)]⟩,[((.exit 0),⟨[(2,(.bp 2 0 0)),(4,(.bp 4 0 0)),(3999,(.hd 2)),(5999,(.hd 2))],[(1,t1),(5,t0),(3000,t13),(3001,t13),(5000,t14),(5001,t14)]⟩)],λ k x=>Ka k x.1 x.2.1 x.2.2.1 x.2.2.2.1 x.2.2.2.2.1 x.2.2.2.2.2.1 x.2.2.2.2.2.2.1 x.2.2.2.2.2.2.2.1 x.2.2.2.2.2.2.2.2⟩
def Eb.d:Fd := { nt:=78,nv:=2,nm:=[0,1,2,3,5,6,7,8,9,10,11,12],res:=[],cs:=λ k=>[(111,Cn.e k),(118,Hn.e k),(151,Ay.e k),(156,A4.e k),(202,B8.e k)],ls:=[(11,Ch.p),(5,Ka.p)] }
def Eb.a (k:Nat):AC (Eb.d.cs k):=⟨Cn.s k,Hn.s k,Ay.s k,A4.s k,B8.s k,trivial⟩
def Ch.s:LL Tryz.f214 Eb.d 11 Ch.p:=mL [] Eb.a trivial
def Ka.s:LL Tryz.f214 Eb.d 5 Ka.p:=mL [] Eb.a trivial
def Eb.s (k:Nat):CK 214 (Eb.e k):=mS Eb.d k [5,11] Tryz.func214 (Eb.a k) ⟨Ka.s,Ch.s,trivial⟩
def Kl.e (k:Nat):Ent:=⟨2,[(.val true t38),(.val false t1)],[(.agg,t39)],λ x=>Kl k x.1 x.2⟩
def Kl.d:Fd := { nt:=16,nv:=2,nm:=[0,1,2,3,5],res:=[],cs:=λ k=>[(87,Bn.e k),(97,As.e k),(214,Eb.e k)],mv:=[15],rf:=true }
def Kl.s (k:Nat):CK 169 (Kl.e k):=mS Kl.d k [] Tryz.func169 ⟨Bn.s k,As.s k,Eb.s k,trivial⟩ trivial
def Na.e (k:Nat):Ent:=⟨3,[(.val true t28),(.val false .s),(.val false (.i .i64))],[(.agg,t30),(.one,.b)],λ x=>Na k x.1 x.2.1 x.2.2⟩
def Na.d:Fd := { nt:=95,nv:=3,nm:=[0,1,2,3,4,5,8,9,10,11],res:=[7],cs:=λ k=>[(118,Hn.e k),(151,Ay.e k),(156,Jg.e k)],mv:=[45,94],rf:=true }
def Na.s (k:Nat):CK 215 (Na.e k):=mS Na.d k [] Tryz.func215 ⟨Hn.s k,Ay.s k,Jg.s k,trivial⟩ trivial
def Mg.e (k:Nat):Ent:=⟨3,[(.val true t38),(.val false .s),(.val false (.i .i64))],[(.agg,t40),(.one,.b)],λ x=>Mg k x.1 x.2.1 x.2.2⟩
def Mg.d:Fd := { nt:=42,nv:=3,nm:=[0,1,2,3,4,5,8,9,10,11,12],res:=[7],cs:=λ k=>[(23,Gl.e k),(87,Bn.e k),(97,As.e k),(215,Na.e k)],mv:=[29,40],rf:=true }
def Mg.s (k:Nat):CK 170 (Mg.e k):=mS Mg.d k [] Tryz.func170 ⟨Gl.s k,Bn.s k,As.s k,Na.s k,trivial⟩ trivial
def G6.e (k:Nat):Ent:=⟨2,[(.val true t17),(.val false t22)],[(.one,.b)],λ x=>G6 k x.1 x.2⟩
def H1.p:LF:=⟨⟨[(2,(.bp 2 0 0)),(3999,(.hd 2))],[(31,t10),(32,(.i .i64)),(33,(.i .i64)),(3000,t17)]⟩,[(.ret,⟨[],[(4,.b)]⟩),((.exit 0),⟨[],[]⟩)],λ k x=>H1 k x.1 x.2.1 x.2.2.1 x.2.2.2⟩
def G6.d:Fd := { nt:=50,nv:=2,nm:=[0,1,2,3,5,6],res:=[4],cs:=λ k=>[(42,C8.e k),(146,D8.e k),(147,Hg.e k)],ls:=[(4,H1.p)],rf:=true }
def G6.a (k:Nat):AC (G6.d.cs k):=⟨C8.s k,D8.s k,Hg.s k,trivial⟩
def H1.s:LL Tryz.f244 G6.d 4 H1.p:=mL [] G6.a trivial
def G6.s (k:Nat):CK 244 (G6.e k):=mS G6.d k [4] Tryz.func244 (G6.a k) ⟨H1.s,trivial⟩
def Lo.e (k:Nat):Ent:=⟨2,[(.val true t6),(.val false t22)],[(.one,(.i .i64))],λ x=>Lo k x.1 x.2⟩
def Lb.p:LF:=⟨⟨[],[(1,t22),(10,t6),(11,(.i .i64)),(12,(.i .i64))]⟩,[(.ret,⟨[],[(4,(.i .i64))]⟩),((.exit 0),⟨[],[]⟩)],λ k x=>Lb k x.1 x.2.1 x.2.2.1 x.2.2.2⟩
def Lo.d:Fd := { nt:=27,nv:=2,nm:=[0,1,2,3,5,6,7,8],res:=[4],cs:=λ k=>[(148,Fb.e k)],ls:=[(2,Lb.p)],rf:=true }
def Lo.a (k:Nat):AC (Lo.d.cs k):=⟨Fb.s k,trivial⟩
def Lb.s:LL Tryz.f245 Lo.d 2 Lb.p:=mL [] Lo.a trivial
def Lo.s (k:Nat):CK 245 (Lo.e k):=mS Lo.d k [2] Tryz.func245 (Lo.a k) ⟨Lb.s,trivial⟩
def H2.e (k:Nat):Ent:=⟨2,[(.val true t17),(.val false (.i .i64))],[(.one,(.i .i64))],λ x=>H2 k x.1 x.2⟩
def He.p:LF:=⟨⟨[],[(1,(.i .i64)),(5,(.i .i64)),(11,t10),(12,(.i .i64)),(13,(.i .i64)),(18,t6),(19,(.i .i64)),(20,(.i .i64))]⟩,[((.exit 2),⟨[],[(1,(.i .i64)),(5,(.i .i64)),(11,t10),(12,(.i .i64)),(13,(.i .i64))]⟩)],λ k x=>He k x.1 x.2.1 x.2.2.1 x.2.2.2.1 x.2.2.2.2.1 x.2.2.2.2.2.1 x.2.2.2.2.2.2.1 x.2.2.2.2.2.2.2⟩
def Il.p:LF:=⟨⟨[],[(1,(.i .i64)),(5,(.i .i64)),(11,t10),(12,(.i .i64)),(13,(.i .i64))]⟩,[((.exit 0),⟨[],[(5,(.i .i64))]⟩)],λ k x=>Il k x.1 x.2.1 x.2.2.1 x.2.2.2.1 x.2.2.2.2⟩
def H2.d:Fd := { nt:=32,nv:=2,nm:=[0,1,2,3,5,6,7,8,9],res:=[4],ls:=[(6,He.p),(3,Il.p)],rf:=true }
def He.s:LL Tryz.f259 H2.d 6 He.p:=mL [] (λ _=>trivial) trivial
def Il.s:LL Tryz.f259 H2.d 3 Il.p:=mL [6] (λ _=>trivial) ⟨He.s,trivial⟩
def H2.s (k:Nat):CK 259 (H2.e k):=mS H2.d k [3] Tryz.func259 trivial ⟨Il.s,trivial⟩
def Jq.e (k:Nat):Ent:=⟨3,[(.val true t17),(.val true t6),(.val false t22)],[(.one,(.i .i64))],λ x=>Jq k x.1 x.2.1 x.2.2⟩
def C5.p:LF:=⟨⟨[(3,(.bp 3 0 0)),(4,(.bp 4 0 0)),(8,(.bp 8 0 0)),(4999,(.hd 2)),(5999,(.hd 1)),(9999,(.hd 3))],[(7,t7),(9,(.i .i64)),(10,.b),(23,t22),(24,(.i .i64)),(25,(.i .i64)),(4000,t17),(5000,t6),(9000,t16)]⟩,[((.exit 0),⟨[(8,(.bp 8 0 0)),(9999,(.hd 3))],[(9000,t16)]⟩)],λ k x=>C5 k x.1 x.2.1 x.2.2.1 x.2.2.2.1 x.2.2.2.2.1 x.2.2.2.2.2.1 x.2.2.2.2.2.2.1 x.2.2.2.2.2.2.2.1 x.2.2.2.2.2.2.2.2⟩
def Jq.d:Fd := { nt:=76,nv:=3,nm:=[0,1,2,3,4,5,7,8,9,10,11,12,13,14],res:=[6],cs:=λ k=>[(49,Ap.e k),(146,D8.e k),(258,Dr.e k),(259,H2.e k)],ls:=[(6,C5.p)],rf:=true }
def Jq.a (k:Nat):AC (Jq.d.cs k):=⟨Ap.s k,D8.s k,Dr.s k,H2.s k,trivial⟩
def C5.s:LL Tryz.f246 Jq.d 6 C5.p:=mL [] Jq.a trivial
def Jq.s (k:Nat):CK 246 (Jq.e k):=mS Jq.d k [6] Tryz.func246 (Jq.a k) ⟨C5.s,trivial⟩
def Jz.e (k:Nat):Ent:=⟨3,[(.val true t17),(.val true t6),(.val false t22)],[(.one,(.i .i64)),(.one,(.i .i64))],λ x=>Jz k x.1 x.2.1 x.2.2⟩
def Hj.p:LF:=⟨⟨[(3,(.bp 3 0 0)),(9,(.bp 9 0 0)),(4999,(.hd 2)),(10999,(.hd 3))],[(2,t22),(8,(.i .i64)),(10,.b),(26,t6),(27,(.i .i64)),(28,(.i .i64)),(4000,t17),(10000,t16)]⟩,[(.ret,⟨[],[(6,(.i .i64)),(7,(.i .i64))]⟩),((.exit 0),⟨[],[]⟩)],λ k x=>Hj k x.1 x.2.1 x.2.2.1 x.2.2.2.1 x.2.2.2.2.1 x.2.2.2.2.2.1 x.2.2.2.2.2.2.1 x.2.2.2.2.2.2.2⟩
def Jz.d:Fd := { nt:=60,nv:=3,nm:=[0,1,2,3,4,5,8,9,10,11,12,13,14],res:=[6,7],cs:=λ k=>[(148,Fb.e k),(246,Jq.e k),(259,H2.e k)],ls:=[(4,Hj.p)],rf:=true }
def Jz.a (k:Nat):AC (Jz.d.cs k):=⟨Fb.s k,Jq.s k,H2.s k,trivial⟩
def Hj.s:LL Tryz.f247 Jz.d 4 Hj.p:=mL [] Jz.a trivial
def Jz.s (k:Nat):CK 247 (Jz.e k):=mS Jz.d k [4] Tryz.func247 (Jz.a k) ⟨Hj.s,trivial⟩
def D0.e (k:Nat):Ent:=⟨2,[(.val true t17),(.val false t22)],[(.agg,t19),(.one,(.i .i64))],λ x=>D0 k x.1 x.2⟩
def Bf.p:LF:=⟨⟨[(4,(.bp 4 0 0)),(6,(.bp 6 0 0)),(5999,(.hd 2)),(7999,(.hd 2))],[(1,t22),(7,(.i .i64)),(22,(.i .i64)),(23,(.i .i64)),(5000,t18),(7000,t19)]⟩,[((.exit 0),⟨[(4,(.bp 4 0 0)),(6,(.bp 6 0 0)),(5999,(.hd 2)),(7999,(.hd 2))],[(7,(.i .i64)),(5000,t18),(7000,t19)]⟩)],λ k x=>Bf k x.1 x.2.1 x.2.2.1 x.2.2.2.1 x.2.2.2.2.1 x.2.2.2.2.2⟩
def D0.d:Fd := { nt:=75,nv:=2,nm:=[0,1,2,3,6,7,8,9,10,11,12],res:=[5],cs:=λ k=>[(82,Cc.e k),(96,Dl.e k),(244,G6.e k),(245,Lo.e k),(246,Jq.e k),(247,Jz.e k)],ls:=[(6,Bf.p)],mv:=[19,73],rf:=true }
def D0.a (k:Nat):AC (D0.d.cs k):=⟨Cc.s k,Dl.s k,G6.s k,Lo.s k,Jq.s k,Jz.s k,trivial⟩
def Bf.s:LL Tryz.f216 D0.d 6 Bf.p:=mL [] D0.a trivial
def D0.s (k:Nat):CK 216 (D0.e k):=mS D0.d k [6] Tryz.func216 (D0.a k) ⟨Bf.s,trivial⟩
def Ds.e (k:Nat):Ent:=⟨3,[(.ptr t46 t46),(.val false (.i .i64)),(.val false (.i .i64))],[(.one,.b)],λ x=>Ds k x.1 x.2.1 x.2.2⟩
def Ds.d:Fd := { nt:=33,nv:=3,nm:=[0,1,2,3,4,5],res:=[6],cs:=λ k=>[(42,C8.e k),(216,D0.e k)],rf:=true }
def Ds.s (k:Nat):CK 171 (Ds.e k):=mS Ds.d k [] Tryz.func171 ⟨C8.s k,D0.s k,trivial⟩ trivial
def Bd.e (k:Nat):Ent:=⟨2,[(.ptr t46 t46),(.val true t34)],[(.one,.b)],λ x=>Bd k x.1 x.2⟩
def E6.p:LF:=⟨⟨[(0,(.bp 0 0 0)),(1999,(.hd 9))],[(5,(.i .i64)),(6,t3),(69,t6),(70,(.i .i64)),(71,(.i .i64)),(1000,t46)]⟩,[((.exit 1),⟨[(0,(.bp 0 0 0)),(1999,(.hd 9))],[(5,(.i .i64)),(6,t3),(1000,t46)]⟩)],λ k x=>E6 k x.1 x.2.1 x.2.2.1 x.2.2.2.1 x.2.2.2.2.1 x.2.2.2.2.2⟩
def Bd.d:Fd := { nt:=139,nv:=2,nm:=[0,1,2,3,5,6,7,8,9,10],res:=[4],cs:=λ k=>[(42,C8.e k),(78,Ad.e k),(90,B6.e k),(92,Ax.e k),(100,Ey.e k),(111,Cn.e k),(169,Kl.e k),(170,Mg.e k),(171,Ds.e k)],ls:=[(17,E6.p)],rf:=true }
def Bd.a (k:Nat):AC (Bd.d.cs k):=⟨C8.s k,Ad.s k,B6.s k,Ax.s k,Ey.s k,Cn.s k,Kl.s k,Mg.s k,Ds.s k,trivial⟩
def E6.s:LL Tryz.f106 Bd.d 17 E6.p:=mL [] Bd.a trivial
def Bd.s (k:Nat):CK 106 (Bd.e k):=mS Bd.d k [17] Tryz.func106 (Bd.a k) ⟨E6.s,trivial⟩
def Im.e (k:Nat):Ent:=⟨2,[(.ptr t46 t46),(.val true t34)],[(.one,.b)],λ x=>Im k x.1 x.2⟩
def Im.d:Fd := { nt:=42,nv:=2,nm:=[0,1,2,3,5],res:=[4],cs:=λ k=>[(104,F4.e k),(105,Al.e k),(106,Bd.e k)],rf:=true }
def Im.s (k:Nat):CK 48 (Im.e k):=mS Im.d k [] Tryz.func48 ⟨F4.s k,Al.s k,Bd.s k,trivial⟩ trivial
def Q4.e (k:Nat):Ent:=⟨2,[(.val true t44),(.val true t34)],[(.agg,t46),(.one,.b)],λ x=>Q4 k x.1 x.2⟩
def Q4.d:Fd := { nt:=20,nv:=2,nm:=[0,1,2,3,6],res:=[5],cs:=λ k=>[(32,Bv.e k),(41,Az.e k),(48,Im.e k)],mv:=[19],rf:=true }
def Q4.s (k:Nat):CK 16 (Q4.e k):=mS Q4.d k [] Tryz.func16 ⟨Bv.s k,Az.s k,Im.s k,trivial⟩ trivial
def Pr.e (k:Nat):Ent:=⟨2,[(.val false t4),(.val false (.i .i64))],[(.one,(.i .i64))],λ x=>Pr x.1 x.2⟩
def Pr.d:Fd := { nt:=21,nv:=2,nm:=[0,1,2,3],res:=[4],rf:=true }
def Pr.s (k:Nat):CK 17 (Pr.e k):=mS Pr.d k [] Tryz.func17 trivial trivial
def Hz.e (k:Nat):Ent:=⟨2,[(.val true t17),(.val true t17)],[(.one,(.i .i64))],λ x=>Hz k x.1 x.2⟩
def Hk.p:LF:=⟨⟨[(2,(.bp 2 0 0)),(3,(.bp 3 0 0)),(3999,(.hd 2)),(4999,(.hd 2))],[(5,(.i .i64)),(6,(.i .i64)),(28,t6),(29,(.i .i64)),(30,(.i .i64)),(3000,t17),(4000,t17)]⟩,[((.exit 2),⟨[(2,(.bp 2 0 0)),(3,(.bp 3 0 0)),(3999,(.hd 2)),(4999,(.hd 2))],[(5,(.i .i64)),(6,(.i .i64)),(3000,t17),(4000,t17)]⟩)],λ k x=>Hk k x.1 x.2.1 x.2.2.1 x.2.2.2.1 x.2.2.2.2.1 x.2.2.2.2.2.1 x.2.2.2.2.2.2⟩
def Km.p:LF:=⟨⟨[(2,(.bp 2 0 0)),(3,(.bp 3 0 0)),(3999,(.hd 2)),(4999,(.hd 2))],[(5,(.i .i64)),(6,(.i .i64)),(3000,t17),(4000,t17)]⟩,[((.exit 0),⟨[],[(5,(.i .i64))]⟩)],λ k x=>Km k x.1 x.2.1 x.2.2.1 x.2.2.2⟩
def Hz.d:Fd := { nt:=47,nv:=2,nm:=[0,1,2,3,5,6,7,8],res:=[4],cs:=λ k=>[(49,Ap.e k)],ls:=[(6,Hk.p),(3,Km.p)],rf:=true }
def Hz.a (k:Nat):AC (Hz.d.cs k):=⟨Ap.s k,trivial⟩
def Hk.s:LL Tryz.f18 Hz.d 6 Hk.p:=mL [] Hz.a trivial
def Km.s:LL Tryz.f18 Hz.d 3 Km.p:=mL [6] Hz.a ⟨Hk.s,trivial⟩
def Hz.s (k:Nat):CK 18 (Hz.e k):=mS Hz.d k [3] Tryz.func18 (Hz.a k) ⟨Km.s,trivial⟩
def Gf.e (k:Nat):Ent:=⟨2,[(.val true t25),(.val true t25)],[(.one,.b)],λ x=>Gf x.1 x.2⟩
def Gf.d:Fd := { nt:=26,nv:=2,nm:=[0,1,2,3],res:=[4],rf:=true }
def Gf.s (k:Nat):CK 113 (Gf.e k):=mS Gf.d k [] Tryz.func113 trivial trivial
def D5.e (k:Nat):Ent:=⟨3,[(.val true t44),(.val false .s),(.val true t25)],[(.one,.b)],λ x=>D5 k x.1 x.2.1 x.2.2⟩
def Dg.p:LF:=⟨⟨[(5,(.bp 5 0 0)),(6999,(.hd 5))],[(1,.s),(10,t35),(11,(.i .i64)),(12,(.i .i64)),(6000,t25)]⟩,[(.ret,⟨[],[(6,.b)]⟩),((.exit 0),⟨[],[]⟩)],λ k x=>Dg k x.1 x.2.1 x.2.2.1 x.2.2.2.1 x.2.2.2.2⟩
def D5.d:Fd := { nt:=27,nv:=3,nm:=[0,1,2,3,4,5,7,8],res:=[6],cs:=λ k=>[(113,Gf.e k)],ls:=[(2,Dg.p)],rf:=true }
def D5.a (k:Nat):AC (D5.d.cs k):=⟨Gf.s k,trivial⟩
def Dg.s:LL Tryz.f107 D5.d 2 Dg.p:=mL [] D5.a trivial
def D5.s (k:Nat):CK 107 (D5.e k):=mS D5.d k [2] Tryz.func107 (D5.a k) ⟨Dg.s,trivial⟩
def E7.e (k:Nat):Ent:=⟨1,[(.val true t44)],[(.one,.b)],λ x=>E7 k x⟩
def Fw.p:LF:=⟨⟨[(1,(.bp 1 0 0)),(2999,(.hd 9))],[(10,t41),(11,(.i .i64)),(12,(.i .i64)),(23,t14),(24,(.i .i64)),(25,(.i .i64)),(2000,t44)]⟩,[(.ret,⟨[],[(2,.b)]⟩),((.exit 2),⟨[(1,(.bp 1 0 0)),(2999,(.hd 9))],[(10,t41),(11,(.i .i64)),(12,(.i .i64)),(2000,t44)]⟩)],λ k x=>Fw k x.1 x.2.1 x.2.2.1 x.2.2.2.1 x.2.2.2.2.1 x.2.2.2.2.2.1 x.2.2.2.2.2.2⟩
def H3.p:LF:=⟨⟨[(1,(.bp 1 0 0)),(2999,(.hd 9))],[(10,t41),(11,(.i .i64)),(12,(.i .i64)),(2000,t44)]⟩,[(.ret,⟨[],[(2,.b)]⟩),((.exit 0),⟨[],[]⟩)],λ k x=>H3 k x.1 x.2.1 x.2.2.1 x.2.2.2⟩
def E7.d:Fd := { nt:=46,nv:=1,nm:=[0,1,3,4,5,6,7,8],res:=[2],cs:=λ k=>[(62,C2.e k),(107,D5.e k)],ls:=[(5,Fw.p),(2,H3.p)],rf:=true }
def E7.a (k:Nat):AC (E7.d.cs k):=⟨C2.s k,D5.s k,trivial⟩
def Fw.s:LL Tryz.f50 E7.d 5 Fw.p:=mL [] E7.a trivial
def H3.s:LL Tryz.f50 E7.d 2 H3.p:=mL [5] E7.a ⟨Fw.s,trivial⟩
def E7.s (k:Nat):CK 50 (E7.e k):=mS E7.d k [2] Tryz.func50 (E7.a k) ⟨H3.s,trivial⟩
def Eu.e (k:Nat):Ent:=⟨1,[(.val true t44)],[(.one,.b)],λ x=>Eu k x⟩
def F5.p:LF:=⟨⟨[(1,(.bp 1 0 0)),(6,(.bp 6 0 0)),(2999,(.hd 9)),(7999,(.hd 6))],[(7,.b),(11,t41),(12,(.i .i64)),(13,(.i .i64)),(22,t32),(23,(.i .i64)),(24,(.i .i64)),(29,t35),(30,(.i .i64)),(31,(.i .i64)),(2000,t44),(7000,t27)]⟩,[((.exit 4),⟨[(1,(.bp 1 0 0)),(2999,(.hd 9))],[(7,.b),(11,t41),(12,(.i .i64)),(13,(.i .i64)),(22,t32),(23,(.i .i64)),(24,(.i .i64)),(2000,t44)]⟩)],λ k x=>F5 k x.1 x.2.1 x.2.2.1 x.2.2.2.1 x.2.2.2.2.1 x.2.2.2.2.2.1 x.2.2.2.2.2.2.1 x.2.2.2.2.2.2.2.1 x.2.2.2.2.2.2.2.2.1 x.2.2.2.2.2.2.2.2.2.1 x.2.2.2.2.2.2.2.2.2.2.1 x.2.2.2.2.2.2.2.2.2.2.2⟩
def Io.p:LF:=⟨⟨[(1,(.bp 1 0 0)),(2999,(.hd 9))],[(11,t41),(12,(.i .i64)),(13,(.i .i64)),(22,t32),(23,(.i .i64)),(24,(.i .i64)),(2000,t44)]⟩,[(.ret,⟨[],[(2,.b)]⟩),((.exit 2),⟨[(1,(.bp 1 0 0)),(2999,(.hd 9))],[(11,t41),(12,(.i .i64)),(13,(.i .i64)),(2000,t44)]⟩)],λ k x=>Io k x.1 x.2.1 x.2.2.1 x.2.2.2.1 x.2.2.2.2.1 x.2.2.2.2.2.1 x.2.2.2.2.2.2⟩
def Ip.p:LF:=⟨⟨[(1,(.bp 1 0 0)),(2999,(.hd 9))],[(11,t41),(12,(.i .i64)),(13,(.i .i64)),(2000,t44)]⟩,[(.ret,⟨[],[(2,.b)]⟩),((.exit 0),⟨[],[]⟩)],λ k x=>Ip k x.1 x.2.1 x.2.2.1 x.2.2.2⟩
def Eu.d:Fd := { nt:=50,nv:=1,nm:=[0,1,3,4,5,6,7,8,9],res:=[2],cs:=λ k=>[(94,Ae.e k),(108,Ls.e k)],ls:=[(9,F5.p),(5,Io.p),(2,Ip.p)],rf:=true }
def Eu.a (k:Nat):AC (Eu.d.cs k):=⟨Ae.s k,Ls.s k,trivial⟩
def F5.s:LL Tryz.f51 Eu.d 9 F5.p:=mL [] Eu.a trivial
def Io.s:LL Tryz.f51 Eu.d 5 Io.p:=mL [9] Eu.a ⟨F5.s,trivial⟩
def Ip.s:LL Tryz.f51 Eu.d 2 Ip.p:=mL [5] Eu.a ⟨Io.s,trivial⟩
def Eu.s (k:Nat):CK 51 (Eu.e k):=mS Eu.d k [2] Tryz.func51 (Eu.a k) ⟨Ip.s,trivial⟩
def Kd.e (k:Nat):Ent:=⟨2,[(.val false t0),(.val false .s)],[(.one,.b)],λ x=>Kd k x.1 x.2⟩
def H4.p:LF:=⟨⟨[],[(1,.s),(7,t0),(8,(.i .i64)),(9,(.i .i64))]⟩,[(.ret,⟨[],[(4,.b)]⟩),((.exit 0),⟨[],[]⟩)],λ k x=>H4 k x.1 x.2.1 x.2.2.1 x.2.2.2⟩
def Kd.d:Fd := { nt:=17,nv:=2,nm:=[0,1,2,3,5,6],res:=[4],ls:=[(2,H4.p)],rf:=true }
def H4.s:LL Tryz.f109 Kd.d 2 H4.p:=mL [] (λ _=>trivial) trivial
def Kd.s (k:Nat):CK 109 (Kd.e k):=mS Kd.d k [2] Tryz.func109 trivial ⟨H4.s,trivial⟩
def K5.e (k:Nat):Ent:=⟨3,[(.val true t44),(.val false .s),(.val true t16)],[(.one,.b)],λ x=>K5 k x.1 x.2.1 x.2.2⟩
def Hl.p:LF:=⟨⟨[(5,(.bp 5 0 0)),(6999,(.hd 3))],[(1,.s),(13,t41),(14,(.i .i64)),(15,(.i .i64)),(6000,t16)]⟩,[(.ret,⟨[],[(6,.b)]⟩),((.exit 0),⟨[],[]⟩)],λ k x=>Hl k x.1 x.2.1 x.2.2.1 x.2.2.2.1 x.2.2.2.2⟩
def K5.d:Fd := { nt:=46,nv:=3,nm:=[0,1,2,3,4,5,7,8,9,10,11],res:=[6],cs:=λ k=>[(12,Av.e k),(62,C2.e k),(118,Hn.e k)],ls:=[(2,Hl.p)],rf:=true }
def K5.a (k:Nat):AC (K5.d.cs k):=⟨Av.s k,C2.s k,Hn.s k,trivial⟩
def Hl.s:LL Tryz.f110 K5.d 2 Hl.p:=mL [] K5.a trivial
def K5.s (k:Nat):CK 110 (K5.e k):=mS K5.d k [2] Tryz.func110 (K5.a k) ⟨Hl.s,trivial⟩
def Lq.e (k:Nat):Ent:=⟨1,[(.val true t44)],[(.one,.b)],λ x=>Lq k x⟩
def J9.p:LF:=⟨⟨[(1,(.bp 1 0 0)),(2999,(.hd 9))],[(6,t35),(7,(.i .i64)),(8,(.i .i64)),(2000,t44)]⟩,[(.ret,⟨[],[(2,.b)]⟩),((.exit 0),⟨[],[]⟩)],λ k x=>J9 k x.1 x.2.1 x.2.2.1 x.2.2.2⟩
def Lq.d:Fd := { nt:=33,nv:=1,nm:=[0,1,3,4],res:=[2],cs:=λ k=>[(109,Kd.e k),(110,K5.e k)],ls:=[(2,J9.p)],rf:=true }
def Lq.a (k:Nat):AC (Lq.d.cs k):=⟨Kd.s k,K5.s k,trivial⟩
def J9.s:LL Tryz.f52 Lq.d 2 J9.p:=mL [] Lq.a trivial
def Lq.s (k:Nat):CK 52 (Lq.e k):=mS Lq.d k [2] Tryz.func52 (Lq.a k) ⟨J9.s,trivial⟩
def G7.e (k:Nat):Ent:=⟨1,[(.val true t44)],[(.one,.b)],λ x=>G7 k x⟩
def Fx.p:LF:=⟨⟨[(1,(.bp 1 0 0)),(2999,(.hd 9))],[(6,t35),(7,(.i .i64)),(8,(.i .i64)),(2000,t44)]⟩,[(.ret,⟨[],[(2,.b)]⟩),((.exit 0),⟨[],[]⟩)],λ k x=>Fx k x.1 x.2.1 x.2.2.1 x.2.2.2⟩
def G7.d:Fd := { nt:=39,nv:=1,nm:=[0,1,3,4],res:=[2],cs:=λ k=>[(12,Av.e k)],ls:=[(2,Fx.p)],rf:=true }
def G7.a (k:Nat):AC (G7.d.cs k):=⟨Av.s k,trivial⟩
def Fx.s:LL Tryz.f53 G7.d 2 Fx.p:=mL [] G7.a trivial
def G7.s (k:Nat):CK 53 (G7.e k):=mS G7.d k [2] Tryz.func53 (G7.a k) ⟨Fx.s,trivial⟩
def Nq.e (k:Nat):Ent:=⟨1,[(.val true t44)],[(.one,(.i .i64))],λ x=>Nq k x⟩
def Nq.d:Fd := { nt:=23,nv:=1,nm:=[0,1],res:=[2],cs:=λ k=>[(32,Bv.e k),(50,E7.e k),(51,Eu.e k),(52,Lq.e k),(53,G7.e k)],rf:=true }
def Nq.s (k:Nat):CK 19 (Nq.e k):=mS Nq.d k [] Tryz.func19 ⟨Bv.s k,E7.s k,Eu.s k,Lq.s k,G7.s k,trivial⟩ trivial
def Ec.e (k:Nat):Ent:=⟨2,[(.val true t44),(.val false .s)],[(.agg,t25),(.one,.b)],λ x=>Ec k x.1 x.2⟩
def Ck.p:LF:=⟨⟨[(4,(.bp 4 0 0)),(6,(.bp 6 0 0)),(5999,(.hd 5)),(7999,(.hd 5))],[(1,.s),(7,.b),(13,t41),(14,(.i .i64)),(15,(.i .i64)),(5000,t26),(7000,t25)]⟩,[((.exit 0),⟨[(4,(.bp 4 0 0)),(6,(.bp 6 0 0)),(5999,(.hd 5)),(7999,(.hd 5))],[(7,.b),(5000,t26),(7000,t25)]⟩)],λ k x=>Ck k x.1 x.2.1 x.2.2.1 x.2.2.2.1 x.2.2.2.2.1 x.2.2.2.2.2.1 x.2.2.2.2.2.2⟩
def Ec.d:Fd := { nt:=41,nv:=2,nm:=[0,1,2,3,6,7,8,9,10,11],res:=[5],cs:=λ k=>[(15,Li.e k),(23,Gl.e k)],ls:=[(4,Ck.p)],rf:=true }
def Ec.a (k:Nat):AC (Ec.d.cs k):=⟨Li.s k,Gl.s k,trivial⟩
def Ck.s:LL Tryz.f13 Ec.d 4 Ck.p:=mL [] Ec.a trivial
def Ec.s (k:Nat):CK 13 (Ec.e k):=mS Ec.d k [4] Tryz.func13 (Ec.a k) ⟨Ck.s,trivial⟩
def Iq.e (k:Nat):Ent:=⟨3,[(.val true t17),(.val false .s),(.val false (.i .i64))],[(.one,.b)],λ x=>Iq k x.1 x.2.1 x.2.2⟩
def Iq.d:Fd := { nt:=12,nv:=3,nm:=[0,1,2,3,4,5],res:=[6],cs:=λ k=>[(30,B0.e k),(49,Ap.e k)],rf:=true }
def Iq.s (k:Nat):CK 112 (Iq.e k):=mS Iq.d k [] Tryz.func112 ⟨B0.s k,Ap.s k,trivial⟩ trivial
def D6.e (k:Nat):Ent:=⟨2,[(.val true t44),(.val false .s)],[(.one,.b)],λ x=>D6 k x.1 x.2⟩
def Dh.p:LF:=⟨⟨[(2,(.bp 2 0 0)),(5,(.bp 5 0 0)),(3999,(.hd 9)),(6999,(.hd 5))],[(1,.s),(18,t41),(19,(.i .i64)),(20,(.i .i64)),(3000,t44),(6000,t25)]⟩,[(.ret,⟨[],[(4,.b)]⟩),((.exit 0),⟨[],[]⟩)],λ k x=>Dh k x.1 x.2.1 x.2.2.1 x.2.2.2.1 x.2.2.2.2.1 x.2.2.2.2.2⟩
def D6.d:Fd := { nt:=49,nv:=2,nm:=[0,1,2,3,5,6,7,8,9,10],res:=[4],cs:=λ k=>[(13,Ec.e k),(23,Gl.e k),(112,Iq.e k),(113,Gf.e k)],ls:=[(3,Dh.p)],rf:=true }
def D6.a (k:Nat):AC (D6.d.cs k):=⟨Ec.s k,Gl.s k,Iq.s k,Gf.s k,trivial⟩
def Dh.s:LL Tryz.f55 D6.d 3 Dh.p:=mL [] D6.a trivial
def D6.s (k:Nat):CK 55 (D6.e k):=mS D6.d k [3] Tryz.func55 (D6.a k) ⟨Dh.s,trivial⟩
def Iz.e (k:Nat):Ent:=⟨2,[(.val false t31),(.val false t31)],[(.one,.b)],λ x=>Iz k x.1 x.2⟩
def Fy.p:LF:=⟨⟨[],[(0,t31),(1,t31),(12,(.i .i64)),(13,(.i .i64))]⟩,[(.ret,⟨[],[(4,.b)]⟩),((.exit 0),⟨[],[]⟩)],λ k x=>Fy k x.1 x.2.1 x.2.2.1 x.2.2.2⟩
def Iz.d:Fd := { nt:=26,nv:=2,nm:=[0,1,2,3,5],res:=[4],ls:=[(4,Fy.p)],rf:=true }
def Fy.s:LL Tryz.f114 Iz.d 4 Fy.p:=mL [] (λ _=>trivial) trivial
def Iz.s (k:Nat):CK 114 (Iz.e k):=mS Iz.d k [4] Tryz.func114 trivial ⟨Fy.s,trivial⟩
def D7.e (k:Nat):Ent:=⟨1,[(.val true t44)],[(.one,.b)],λ x=>D7 k x⟩
def Di.p:LF:=⟨⟨[(1,(.bp 1 0 0)),(2999,(.hd 9))],[(3,t7),(9,t41),(10,(.i .i64)),(11,(.i .i64)),(2000,t44)]⟩,[(.ret,⟨[],[(2,.b)]⟩),((.exit 0),⟨[],[]⟩)],λ k x=>Di k x.1 x.2.1 x.2.2.1 x.2.2.2.1 x.2.2.2.2⟩
def D7.d:Fd := { nt:=41,nv:=1,nm:=[0,1,3,4,5],res:=[2],cs:=λ k=>[(11,F9.e k),(49,Ap.e k),(114,Iz.e k)],ls:=[(3,Di.p)],rf:=true }
def D7.a (k:Nat):AC (D7.d.cs k):=⟨F9.s k,Ap.s k,Iz.s k,trivial⟩
def Di.s:LL Tryz.f56 D7.d 3 Di.p:=mL [] D7.a trivial
def D7.s (k:Nat):CK 56 (D7.e k):=mS D7.d k [3] Tryz.func56 (D7.a k) ⟨Di.s,trivial⟩
def I0.e (k:Nat):Ent:=⟨1,[(.val true t44)],[(.one,.b)],λ x=>I0 k x⟩
def Jr.p:LF:=⟨⟨[(1,(.bp 1 0 0)),(2999,(.hd 9))],[(8,t41),(9,(.i .i64)),(10,(.i .i64)),(16,t0),(17,(.i .i64)),(18,(.i .i64)),(2000,t44)]⟩,[(.ret,⟨[],[(2,.b)]⟩),((.exit 2),⟨[(1,(.bp 1 0 0)),(2999,(.hd 9))],[(8,t41),(9,(.i .i64)),(10,(.i .i64)),(2000,t44)]⟩)],λ k x=>Jr k x.1 x.2.1 x.2.2.1 x.2.2.2.1 x.2.2.2.2.1 x.2.2.2.2.2.1 x.2.2.2.2.2.2⟩
def Js.p:LF:=⟨⟨[(1,(.bp 1 0 0)),(2999,(.hd 9))],[(8,t41),(9,(.i .i64)),(10,(.i .i64)),(2000,t44)]⟩,[(.ret,⟨[],[(2,.b)]⟩),((.exit 0),⟨[(1,(.bp 1 0 0)),(2999,(.hd 9))],[(2000,t44)]⟩)],λ k x=>Js k x.1 x.2.1 x.2.2.1 x.2.2.2⟩
def I0.d:Fd := { nt:=30,nv:=1,nm:=[0,1,3,4,5,6],res:=[2],cs:=λ k=>[(54,J5.e k),(55,D6.e k),(56,D7.e k)],ls:=[(5,Jr.p),(2,Js.p)],rf:=true }
def I0.a (k:Nat):AC (I0.d.cs k):=⟨J5.s k,D6.s k,D7.s k,trivial⟩
def Jr.s:LL Tryz.f20 I0.d 5 Jr.p:=mL [] I0.a trivial
def Js.s:LL Tryz.f20 I0.d 2 Js.p:=mL [5] I0.a ⟨Jr.s,trivial⟩
def I0.s (k:Nat):CK 20 (I0.e k):=mS I0.d k [2] Tryz.func20 (I0.a k) ⟨Js.s,trivial⟩
def Dx.e (k:Nat):Ent:=⟨1,[(.val false t4)],[(.one,.b)],λ x=>Dx k x⟩
def Dj.p:LF:=⟨⟨[(3,(.bp 3 0 0)),(4,(.bp 4 0 0)),(4999,(.hd 9)),(5999,(.hd 9))],[(6,(.i .i64)),(4000,t44),(5000,t44)]⟩,[(.ret,⟨[],[(2,.b)]⟩),((.exit 0),⟨[(4,(.bp 4 0 0)),(5999,(.hd 9))],[(5000,t44)]⟩)],λ k x=>Dj k x.1 x.2.1 x.2.2⟩
def Dx.d:Fd := { nt:=83,nv:=1,nm:=[0,1,3,4,5,6,7,8],res:=[2],cs:=λ k=>[(8,Pi.e k),(9,Ho.e k),(10,Hc.e k),(16,Q4.e k),(17,Pr.e k),(18,Hz.e k),(19,Nq.e k),(20,I0.e k)],ls:=[(8,Dj.p)],sh:=true,rf:=true }
def Dx.a (k:Nat):AC (Dx.d.cs k):=⟨Pi.s k,Ho.s k,Hc.s k,Q4.s k,Pr.s k,Hz.s k,Nq.s k,I0.s k,trivial⟩
def Dj.s:LL Tryz.f4 Dx.d 8 Dj.p:=mL [] Dx.a trivial
def Dx.s (k:Nat):CK 4 (Dx.e k):=mS Dx.d k [8] Tryz.func4 (Dx.a k) ⟨Dj.s,trivial⟩
end

end Go.Proofs.YtiiekghlhfbmmaaGreat.Vf
