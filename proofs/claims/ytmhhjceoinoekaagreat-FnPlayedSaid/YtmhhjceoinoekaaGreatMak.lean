import Derived.Test.YtmhhjceoinoekaaGreatMab
import Derived.Test.YtmhhjceoinoekaaGreatMaj
import Derived.Test.YtmhhjceoinoekaaGreatProg
import Derived.KernelRfl
set_option linter.all false
namespace Go.Proofs.YtmhhjceoinoekaaGreat.Vf
open Go
open List (length getD)
open Int (toNat)
open Go.IntKind (wrap)
open BitVec (ofInt)

section
open Go.Proofs
@[reducible] def t0:Ty := .sl 9 .s
@[reducible] def t1:Ty := .sl 4 .b
@[reducible] def t2:Ty := .ow 9 .s
@[reducible] def t3:Ty := .ow 4 .b
@[reducible] def t4:Ty := .sl 5 (.i .u8)
@[reducible] def t5:Ty := .ow 5 (.i .u8)
@[reducible] def t6:Ty := .sl 3 (.i .i64)
@[reducible] def t7:Ty := .ow 3 (.i .i64)
@[reducible] def t8:Ty := .pr .s (.i .u64)
@[reducible] def t9:Ty := .pr (.i .i64) (.i .i64)
@[reducible] def t10:Ty := .sl 127 t6
@[reducible] def t11:Ty := .pr .s t4
@[reducible] def t12:Ty := .pr .s t5
@[reducible] def t13:Ty := .sl 93 t11
@[reducible] def t14:Ty := .ow 93 t11
@[reducible] def t15:Ty := .ow 93 t12
@[reducible] def t16:Ty := .pr (.i .i64) t9
@[reducible] def t17:Ty := .pr (.i .i64) t10
@[reducible] def t18:Ty := .pr (.i .i64) (.ow 127 t6)
@[reducible] def t19:Ty := .pr (.i .i64) (.ow 127 t7)
@[reducible] def t20:Ty := .pr t4 (.pr (.i .i64) .b)
@[reducible] def t21:Ty := .pr t4 t9
@[reducible] def t22:Ty := .sl 88 t16
@[reducible] def t23:Ty := .ow 88 t16
@[reducible] def t24:Ty := .pr (.i .i64) (.pr (.i .i64) (.pr .b (.i .u8)))
@[reducible] def t25:Ty := .pr t16 (.pr .b t4)
@[reducible] def t26:Ty := .pr t16 (.pr .b t5)
@[reducible] def t27:Ty := .pr t13 t13
@[reducible] def t28:Ty := .pr .s (.pr t16 (.pr .b (.i .i64)))
@[reducible] def t29:Ty := .pr t14 t14
@[reducible] def t30:Ty := .pr t15 t15
@[reducible] def t31:Ty := .sl 96 t28
@[reducible] def t32:Ty := .ow 96 t28
@[reducible] def t33:Ty := .pr .s (.pr t25 .b)
@[reducible] def t34:Ty := .pr (.i .i64) (.pr (.i .i64) (.pr .s (.pr t4 (.pr (.i .i64) t6))))
@[reducible] def t35:Ty := .sl 71 t33
@[reducible] def t36:Ty := .ow 71 t33
@[reducible] def t37:Ty := .sl 37 t34
@[reducible] def t38:Ty := .ow 37 t34
@[reducible] def t39:Ty := .pr t32 t32
@[reducible] def t40:Ty := .pr (.i .i64) (.pr t27 (.pr t31 t31))
@[reducible] def t41:Ty := .pr (.i .i64) (.pr t29 t39)
@[reducible] def t42:Ty := .pr (.i .i64) (.pr t27 t39)
@[reducible] def t43:Ty := .sl 54 t40
@[reducible] def t44:Ty := .ow 54 t40
@[reducible] def t45:Ty := .pr t44 (.pr t16 (.pr t36 t2))
@[reducible] def t46:Ty := .pr t22 (.pr t17 (.pr t43 (.pr t16 (.pr t35 t0))))
@[reducible] def t47:Ty := .pr t23 (.pr t18 t45)
@[reducible] def t48:Ty := .pr t23 (.pr t17 (.pr t44 (.pr t16 (.pr t36 t0))))
@[reducible] def t49:Ty := .pr t23 (.pr t17 t45)
def tiL:List (Nat×TI):=[(2,⟨(.i .i64),false,8,[]⟩),
 (3,⟨(.i .i64),false,8,[]⟩),
 (4,⟨.b,false,1,[]⟩),
 (5,⟨(.i .u8),false,1,[]⟩),
 (6,⟨(.i .u8),false,1,[]⟩),
 (7,⟨t24,true,24,[(0,1,false),(1,1,false),(2,1,false),(3,1,false)]⟩),
 (8,⟨t24,true,24,[(0,1,false),(1,1,false),(2,1,false),(3,1,false)]⟩),
 (9,⟨.s,false,16,[]⟩),
 (10,⟨.s,false,16,[]⟩),
 (11,⟨.s,false,16,[]⟩),
 (12,⟨(.i .u64),false,8,[]⟩),
 (13,⟨t8,true,24,[(0,1,false),(1,1,false)]⟩),
 (14,⟨t8,true,24,[(0,1,false),(1,1,false)]⟩),
 (21,⟨(.i .i32),false,4,[]⟩),
 (22,⟨t4,false,24,[]⟩),
 (24,⟨t22,false,24,[]⟩),
 (25,⟨t10,false,24,[]⟩),
 (26,⟨t17,true,32,[(0,1,false),(1,1,false)]⟩),
 (27,⟨t17,true,32,[(0,1,false),(1,1,false)]⟩),
 (28,⟨t43,false,24,[]⟩),
 (29,⟨t16,true,24,[(0,1,false),(1,1,false),(2,1,false)]⟩),
 (30,⟨t16,true,24,[(0,1,false),(1,1,false),(2,1,false)]⟩),
 (31,⟨t35,false,24,[]⟩),
 (32,⟨t0,false,24,[]⟩),
 (33,⟨t46,true,152,[(0,1,false),(1,2,true),(3,1,false),(4,3,true),(7,1,false),(8,1,false)]⟩),
 (34,⟨t46,true,152,[(0,1,false),(1,2,true),(3,1,false),(4,3,true),(7,1,false),(8,1,false)]⟩),
 (35,⟨t6,false,24,[]⟩),
 (36,⟨t34,true,88,[(0,1,false),(1,1,false),(2,1,false),(3,1,false),(4,1,false),(5,1,false)]⟩),
 (37,⟨t34,true,88,[(0,1,false),(1,1,false),(2,1,false),(3,1,false),(4,1,false),(5,1,false)]⟩),
 (44,⟨t37,false,24,[]⟩),
 (49,⟨t13,false,24,[]⟩),
 (50,⟨t27,true,48,[(0,1,false),(1,1,false)]⟩),
 (51,⟨t27,true,48,[(0,1,false),(1,1,false)]⟩),
 (52,⟨t31,false,24,[]⟩),
 (53,⟨t40,true,104,[(0,1,false),(1,2,true),(3,1,false),(4,1,false)]⟩),
 (54,⟨t40,true,104,[(0,1,false),(1,2,true),(3,1,false),(4,1,false)]⟩),
 (61,⟨t25,true,56,[(0,3,true),(3,1,false),(4,1,false)]⟩),
 (62,⟨t25,true,56,[(0,3,true),(3,1,false),(4,1,false)]⟩),
 (70,⟨t33,true,80,[(0,1,false),(1,5,true),(6,1,false)]⟩),
 (71,⟨t33,true,80,[(0,1,false),(1,5,true),(6,1,false)]⟩),
 (87,⟨t16,true,24,[(0,1,false),(1,1,false),(2,1,false)]⟩),
 (88,⟨t16,true,24,[(0,1,false),(1,1,false),(2,1,false)]⟩),
 (92,⟨t11,true,40,[(0,1,false),(1,1,false)]⟩),
 (93,⟨t11,true,40,[(0,1,false),(1,1,false)]⟩),
 (95,⟨t28,true,56,[(0,1,false),(1,3,true),(4,1,false),(5,1,false)]⟩),
 (96,⟨t28,true,56,[(0,1,false),(1,3,true),(4,1,false),(5,1,false)]⟩),
 (115,⟨t21,true,40,[(0,1,false),(1,1,false),(2,1,false)]⟩),
 (116,⟨t21,true,40,[(0,1,false),(1,1,false),(2,1,false)]⟩),
 (126,⟨t6,true,24,[(0,1,false)]⟩),
 (127,⟨t6,true,24,[(0,1,false)]⟩),
 (168,⟨(.i .u64),false,8,[]⟩),
 (173,⟨t1,false,24,[]⟩),
 (190,⟨t20,true,40,[(0,1,false),(1,1,false),(2,1,false)]⟩),
 (191,⟨t20,true,40,[(0,1,false),(1,1,false),(2,1,false)]⟩),
 (240,⟨(.i .u32),false,4,[]⟩),
 (246,⟨(.i .u8),false,1,[]⟩),
 (247,⟨(.i .u8),false,1,[]⟩),
 (250,⟨(.i .i32),false,4,[]⟩),
 (251,⟨(.i .i32),false,4,[]⟩)]
def ti:TypeId→Option TI:=lk tiL
def Dkb:List Nat:=[29,30,87,88,95,96]
def eqs:TypeId→Bool:=λ T=>Dkb.contains T
def sK:Bua Tryz.prog ti eqs∧∀ T,V9 Tryz.prog ti T=true:=G5b (P:=Tryz.prog) (ti:=ti) (eqs:=eqs) (keys:=tiL.map Prod.fst) (Dkb:=Dkb) A5b (by kernel_rfl) (by kernel_rfl) rfl (by kernel_rfl)
def sO:Bua Tryz.prog ti eqs:=sK.1
def Gyb:∀ T t,ti T=some t→TOk Tryz.prog T t:=sO.tok
def Gzb:∀ T,V9 Tryz.prog ti T=true:=sK.2
abbrev CK:=Qr Tryz.prog
abbrev LL:=LK Tryz.prog
abbrev AC:=C9b Tryz.prog
def mS {f:FuncId} {fn:Func} (D:Fd) (k:Nat) {en:Ent} (ids:List Nat) (hf:Tryz.prog.funcs[f]? = some fn) (hc:AC (D.cs k)) (hi:Cab Tryz.prog fn D ids) (h:(G4b fn D en,Nj (bo fn),ids.map λ l=>first (Mp l (bo fn)))=(true,ids.map λ l=>Mp l (bo fn),ids):=by kernel_rfl) (hr:∀ x,R4a (D.n ti eqs k) (bo fn) fn.results.toList en x=en.run x:=by intro x;kernel_rfl):CK f en:=mkS sO ids hf hc hi (congrArg Prod.fst h) (congrArg Prod.snd h) hr
def mL {fn:Func} {D:Fd} {l:Nat} {p:LF} (ids:List Nat) (hc:∀ k,AC (D.cs k)) (hi:Cab Tryz.prog fn D ids) (h:(Nat.beq D.nt fn.ntmps,Nj (Mp l (bo fn)),ids.map λ l=>first (Mp l (bo fn)))=(true,ids.map λ l=>Mp l (bo fn),ids):=by kernel_rfl) (h0:∀ x,p.f 0 x=none:=by intro _;rfl) (hs:Gsb ti eqs fn D l p:=by intro k x;kernel_rfl):LL fn D l p:=mkL sO ids (congrArg Prod.fst h) hc hi (congrArg Prod.snd h) h0 hs
def Oy.e (k:Nat):Ent:=⟨1,[(.val false t4)],[(.one,.b)],λ x=>Oy x⟩
def Oy.d:Fd := { nt:=6,nv:=1,nm:=[0,1],res:=[2] }
def Oy.s (k:Nat):CK 9 (Oy.e k):=mS Oy.d k [] Tryz.func9 trivial trivial
def Cd.e (k:Nat):Ent:=⟨3,[(.val false (.i .i64)),(.val false (.i .i64)),(.val false (.i .i64))],[(.one,.b)],λ x=>Cd x.1 x.2.1 x.2.2⟩
def Cd.d:Fd := { nt:=15,nv:=3,nm:=[0,1,2,3,4,5],res:=[6] }
def Cd.s (k:Nat):CK 74 (Cd.e k):=mS Cd.d k [] Tryz.func74 trivial trivial
def D6.e (k:Nat):Ent:=⟨1,[(.val false t22)],[(.one,.b)],λ x=>D6 k x⟩
def Gz.p:LF:=⟨⟨[],[(0,t22),(5,t22),(6,(.i .i64)),(7,(.i .i64))]⟩,[(.ret,⟨[],[(2,.b)]⟩),((.exit 0),⟨[],[(0,t22)]⟩)],λ k x=>Gz k x.1 x.2.1 x.2.2.1 x.2.2.2⟩
def D6.d:Fd := { nt:=47,nv:=1,nm:=[0,1,3,4],res:=[2],cs:=λ k=>[(74,Cd.e k)],ls:=[(2,Gz.p)],rf:=true }
def D6.a (k:Nat):AC (D6.d.cs k):=⟨Cd.s k,trivial⟩
def Gz.s:LL Tryz.f100 D6.d 2 Gz.p:=mL [] D6.a trivial
def D6.s (k:Nat):CK 100 (D6.e k):=mS D6.d k [2] Tryz.func100 (D6.a k) ⟨Gz.s,trivial⟩
def Bx.e (k:Nat):Ent:=⟨2,[(.val false t6),(.val false (.i .i64))],[(.one,.b)],λ x=>Bx k x.1 x.2⟩
def Hw.p:LF:=⟨⟨[],[(1,(.i .i64)),(7,t6),(8,(.i .i64)),(9,(.i .i64))]⟩,[(.ret,⟨[],[(4,.b)]⟩),((.exit 0),⟨[],[]⟩)],λ k x=>Hw k x.1 x.2.1 x.2.2.1 x.2.2.2⟩
def Bx.d:Fd := { nt:=17,nv:=2,nm:=[0,1,2,3,5,6],res:=[4],ls:=[(2,Hw.p)],rf:=true }
def Hw.s:LL Tryz.f145 Bx.d 2 Hw.p:=mL [] (λ _=>trivial) trivial
def Bx.s (k:Nat):CK 145 (Bx.e k):=mS Bx.d k [2] Tryz.func145 trivial ⟨Hw.s,trivial⟩
def Ha.e (k:Nat):Ent:=⟨1,[(.val false t6)],[(.one,.b)],λ x=>Ha k x⟩
def J6.p:LF:=⟨⟨[],[(0,t6),(5,t6),(6,(.i .i64)),(7,(.i .i64))]⟩,[(.ret,⟨[],[(2,.b)]⟩),((.exit 0),⟨[],[]⟩)],λ k x=>J6 k x.1 x.2.1 x.2.2.1 x.2.2.2⟩
def Ha.d:Fd := { nt:=18,nv:=1,nm:=[0,1,3,4],res:=[2],cs:=λ k=>[(145,Bx.e k)],ls:=[(2,J6.p)],rf:=true }
def Ha.a (k:Nat):AC (Ha.d.cs k):=⟨Bx.s k,trivial⟩
def J6.s:LL Tryz.f101 Ha.d 2 J6.p:=mL [] Ha.a trivial
def Ha.s (k:Nat):CK 101 (Ha.e k):=mS Ha.d k [2] Tryz.func101 (Ha.a k) ⟨J6.s,trivial⟩
def F9.e (k:Nat):Ent:=⟨2,[(.val false t22),(.val false (.i .i64))],[(.agg,t16),(.one,.b)],λ x=>F9 k x.1 x.2⟩
def J7.p:LF:=⟨⟨[(4,(.bp 4 0 0)),(5999,(.hd 3))],[(1,(.i .i64)),(8,t22),(9,(.i .i64)),(10,(.i .i64)),(5000,t16)]⟩,[(.ret,⟨[(4,(.bp 4 0 0)),(5999,(.hd 3))],[(5,.b),(5000,t16)]⟩),((.exit 0),⟨[(4,(.bp 4 0 0)),(5999,(.hd 3))],[(5000,t16)]⟩)],λ k x=>J7 k x.1 x.2.1 x.2.2.1 x.2.2.2.1 x.2.2.2.2⟩
def F9.d:Fd := { nt:=21,nv:=2,nm:=[0,1,2,3,6,7],res:=[5],ls:=[(2,J7.p)],rf:=true }
def J7.s:LL Tryz.f102 F9.d 2 J7.p:=mL [] (λ _=>trivial) trivial
def F9.s (k:Nat):CK 102 (F9.e k):=mS F9.d k [2] Tryz.func102 trivial ⟨J7.s,trivial⟩
def G4.e (k:Nat):Ent:=⟨2,[(.val true t17),(.val false t22)],[(.one,.b)],λ x=>G4 k x.1 x.2⟩
def Hx.p:LF:=⟨⟨[(2,(.bp 2 0 0)),(3999,(.hd 2))],[(1,t22),(28,t10),(29,(.i .i64)),(30,(.i .i64)),(47,t6),(48,(.i .i64)),(49,(.i .i64)),(3000,t17)]⟩,[(.ret,⟨[],[(4,.b)]⟩),((.exit 2),⟨[(2,(.bp 2 0 0)),(3999,(.hd 2))],[(1,t22),(28,t10),(29,(.i .i64)),(30,(.i .i64)),(3000,t17)]⟩)],λ k x=>Hx k x.1 x.2.1 x.2.2.1 x.2.2.2.1 x.2.2.2.2.1 x.2.2.2.2.2.1 x.2.2.2.2.2.2.1 x.2.2.2.2.2.2.2⟩
def Hy.p:LF:=⟨⟨[(2,(.bp 2 0 0)),(3999,(.hd 2))],[(1,t22),(28,t10),(29,(.i .i64)),(30,(.i .i64)),(3000,t17)]⟩,[(.ret,⟨[],[(4,.b)]⟩),((.exit 0),⟨[],[]⟩)],λ k x=>Hy k x.1 x.2.1 x.2.2.1 x.2.2.2.1 x.2.2.2.2⟩
def G4.d:Fd := { nt:=63,nv:=2,nm:=[0,1,2,3,5,6,7,8,9,10],res:=[4],cs:=λ k=>[(74,Cd.e k),(100,D6.e k),(101,Ha.e k),(102,F9.e k)],ls:=[(9,Hx.p),(4,Hy.p)],rf:=true }
def G4.a (k:Nat):AC (G4.d.cs k):=⟨Cd.s k,D6.s k,Ha.s k,F9.s k,trivial⟩
def Hx.s:LL Tryz.f44 G4.d 9 Hx.p:=mL [] G4.a trivial
def Hy.s:LL Tryz.f44 G4.d 4 Hy.p:=mL [9] G4.a ⟨Hx.s,trivial⟩
def G4.s (k:Nat):CK 44 (G4.e k):=mS G4.d k [4] Tryz.func44 (G4.a k) ⟨Hy.s,trivial⟩
def Ca.e (k:Nat):Ent:=⟨1,[(.val true t16)],[(.one,.b)],λ x=>Ca x⟩
def Ca.d:Fd := { nt:=16,nv:=1,nm:=[0,1],res:=[2],cs:=λ k=>[(74,Cd.e k)] }
def Ca.s (k:Nat):CK 45 (Ca.e k):=mS Ca.d k [] Tryz.func45 ⟨Cd.s k,trivial⟩ trivial
def Au.e (k:Nat):Ent:=⟨2,[(.val true t16),(.val true t16)],[(.one,.b)],λ x=>Au x.1 x.2⟩
def Au.d:Fd := { nt:=32,nv:=2,nm:=[0,1,2,3],res:=[4] }
def Au.s (k:Nat):CK 14 (Au.e k):=mS Au.d k [] Tryz.func14 trivial trivial
def Ai.e (k:Nat):Ent:=⟨1,[(.val false .s)],[(.one,.b)],λ x=>Ai k x⟩
def Ap.p:LF:=⟨⟨[],[(0,.s),(3,(.i .i64))]⟩,[(.ret,⟨[],[(2,.b)]⟩),((.exit 0),⟨[],[(0,.s)]⟩)],λ k x=>Ap k x.1 x.2⟩
def Ai.d:Fd := { nt:=45,nv:=1,nm:=[0,1,3,4],res:=[2],cs:=λ k=>[(74,Cd.e k)],ls:=[(2,Ap.p)] }
def Ai.a (k:Nat):AC (Ai.d.cs k):=⟨Cd.s k,trivial⟩
def Ap.s:LL Tryz.f48 Ai.d 2 Ap.p:=mL [] Ai.a trivial
def Ai.s (k:Nat):CK 48 (Ai.e k):=mS Ai.d k [2] Tryz.func48 (Ai.a k) ⟨Ap.s,trivial⟩
def Ec.e (k:Nat):Ent:=⟨1,[(.val true t25)],[(.one,.b)],λ x=>Ec x⟩
def Ec.d:Fd := { nt:=23,nv:=1,nm:=[0,1],res:=[2],cs:=λ k=>[(45,Ca.e k)] }
def Ec.s (k:Nat):CK 103 (Ec.e k):=mS Ec.d k [] Tryz.func103 ⟨Ca.s k,trivial⟩ trivial
def E3.e (k:Nat):Ent:=⟨1,[(.val true t46)],[(.one,.b)],λ x=>E3 k x⟩
def Fe.p:LF:=⟨⟨[(1,(.bp 1 0 0)),(2999,(.hd 9))],[(6,t35),(7,(.i .i64)),(8,(.i .i64)),(2000,t46)]⟩,[(.ret,⟨[],[(2,.b)]⟩),((.exit 0),⟨[(1,(.bp 1 0 0)),(2999,(.hd 9))],[(2000,t46)]⟩)],λ k x=>Fe k x.1 x.2.1 x.2.2.1 x.2.2.2⟩
def E3.d:Fd := { nt:=35,nv:=1,nm:=[0,1,3,4],res:=[2],cs:=λ k=>[(14,Au.e k),(48,Ai.e k),(103,Ec.e k)],ls:=[(2,Fe.p)],rf:=true }
def E3.a (k:Nat):AC (E3.d.cs k):=⟨Au.s k,Ai.s k,Ec.s k,trivial⟩
def Fe.s:LL Tryz.f46 E3.d 2 Fe.p:=mL [] E3.a trivial
def E3.s (k:Nat):CK 46 (E3.e k):=mS E3.d k [2] Tryz.func46 (E3.a k) ⟨Fe.s,trivial⟩
def Kx.e (k:Nat):Ent:=⟨1,[(.val true t28)],[(.one,.b)],λ x=>Kx k x⟩
def Kx.d:Fd := { nt:=26,nv:=1,nm:=[0,1],res:=[2],cs:=λ k=>[(45,Ca.e k),(48,Ai.e k),(74,Cd.e k)] }
def Kx.s (k:Nat):CK 104 (Kx.e k):=mS Kx.d k [] Tryz.func104 ⟨Ca.s k,Ai.s k,Cd.s k,trivial⟩ trivial
def F5.e (k:Nat):Ent:=⟨1,[(.val false t13)],[(.one,.b)],λ x=>F5 k x⟩
def Ff.p:LF:=⟨⟨[],[(0,t13),(5,t13),(6,(.i .i64)),(7,(.i .i64))]⟩,[(.ret,⟨[],[(2,.b)]⟩),((.exit 0),⟨[],[(0,t13)]⟩)],λ k x=>Ff k x.1 x.2.1 x.2.2.1 x.2.2.2⟩
def F5.d:Fd := { nt:=41,nv:=1,nm:=[0,1,3,4],res:=[2],cs:=λ k=>[(48,Ai.e k)],ls:=[(2,Ff.p)] }
def F5.a (k:Nat):AC (F5.d.cs k):=⟨Ai.s k,trivial⟩
def Ff.s:LL Tryz.f168 F5.d 2 Ff.p:=mL [] F5.a trivial
def F5.s (k:Nat):CK 168 (F5.e k):=mS F5.d k [2] Tryz.func168 (F5.a k) ⟨Ff.s,trivial⟩
def Av.e (k:Nat):Ent:=⟨1,[(.val true t27)],[(.one,.b)],λ x=>Av k x⟩
def Av.d:Fd := { nt:=11,nv:=1,nm:=[0,1],res:=[2],cs:=λ k=>[(168,F5.e k)] }
def Av.s (k:Nat):CK 105 (Av.e k):=mS Av.d k [] Tryz.func105 ⟨F5.s k,trivial⟩ trivial
def Fa.e (k:Nat):Ent:=⟨1,[(.val false t31)],[(.one,.b)],λ x=>Fa k x⟩
def H0.p:LF:=⟨⟨[],[(0,t31),(5,t31),(6,(.i .i64)),(7,(.i .i64))]⟩,[(.ret,⟨[],[(2,.b)]⟩),((.exit 0),⟨[],[(0,t31)]⟩)],λ k x=>H0 k x.1 x.2.1 x.2.2.1 x.2.2.2⟩
def Fa.d:Fd := { nt:=34,nv:=1,nm:=[0,1,3,4],res:=[2],cs:=λ k=>[(104,Kx.e k)],ls:=[(2,H0.p)] }
def Fa.a (k:Nat):AC (Fa.d.cs k):=⟨Kx.s k,trivial⟩
def H0.s:LL Tryz.f106 Fa.d 2 H0.p:=mL [] Fa.a trivial
def Fa.s (k:Nat):CK 106 (Fa.e k):=mS Fa.d k [2] Tryz.func106 (Fa.a k) ⟨H0.s,trivial⟩
def Bh.e (k:Nat):Ent:=⟨1,[(.val true t40)],[(.one,.b)],λ x=>Bh k x⟩
def Hz.p:LF:=⟨⟨[(1,(.bp 1 0 0)),(2999,(.hd 5))],[(6,t31),(7,(.i .i64)),(8,(.i .i64)),(2000,(.i .i64)),(2001,t13),(2002,t13),(2003,t31),(2004,t31)]⟩,[(.ret,⟨[],[(2,.b)]⟩),((.exit 0),⟨[(1,(.bp 1 0 0)),(2999,(.hd 5))],[(2000,(.i .i64)),(2001,t13),(2002,t13),(2003,t31),(2004,t31)]⟩)],λ k x=>Hz k x.1 x.2.1 x.2.2.1 x.2.2.2.1 x.2.2.2.2.1 x.2.2.2.2.2.1 x.2.2.2.2.2.2.1 x.2.2.2.2.2.2.2⟩
def Bh.d:Fd := { nt:=35,nv:=1,nm:=[0,1,3,4],res:=[2],cs:=λ k=>[(74,Cd.e k),(104,Kx.e k),(105,Av.e k),(106,Fa.e k)],ls:=[(2,Hz.p)] }
def Bh.a (k:Nat):AC (Bh.d.cs k):=⟨Cd.s k,Kx.s k,Av.s k,Fa.s k,trivial⟩
def Hz.s:LL Tryz.f47 Bh.d 2 Hz.p:=mL [] Bh.a trivial
def Bh.s (k:Nat):CK 47 (Bh.e k):=mS Bh.d k [2] Tryz.func47 (Bh.a k) ⟨Hz.s,trivial⟩
def Cb.e (k:Nat):Ent:=⟨1,[(.val true t46)],[(.one,.b)],λ x=>Cb k x⟩
def Da.p:LF:=⟨⟨[(1,(.bp 1 0 0)),(2999,(.hd 9))],[(57,t0),(58,(.i .i64)),(59,(.i .i64)),(2000,t46)]⟩,[(.ret,⟨[],[(2,.b)]⟩),((.exit 2),⟨[],[]⟩)],λ k x=>Da k x.1 x.2.1 x.2.2.1 x.2.2.2⟩
def Fg.p:LF:=⟨⟨[(1,(.bp 1 0 0)),(2999,(.hd 9))],[(34,t43),(35,(.i .i64)),(36,(.i .i64)),(2000,t46)]⟩,[(.ret,⟨[],[(2,.b)]⟩),((.exit 0),⟨[(1,(.bp 1 0 0)),(2999,(.hd 9))],[(2000,t46)]⟩)],λ k x=>Fg k x.1 x.2.1 x.2.2.1 x.2.2.2⟩
def Cb.d:Fd := { nt:=82,nv:=1,nm:=[0,1,3,4,5,6],res:=[2],cs:=λ k=>[(44,G4.e k),(45,Ca.e k),(46,E3.e k),(47,Bh.e k),(48,Ai.e k)],ls:=[(10,Da.p),(4,Fg.p)],rf:=true }
def Cb.a (k:Nat):AC (Cb.d.cs k):=⟨G4.s k,Ca.s k,E3.s k,Bh.s k,Ai.s k,trivial⟩
def Da.s:LL Tryz.f13 Cb.d 10 Da.p:=mL [] Cb.a trivial
def Fg.s:LL Tryz.f13 Cb.d 4 Fg.p:=mL [] Cb.a trivial
def Cb.s (k:Nat):CK 13 (Cb.e k):=mS Cb.d k [4,10] Tryz.func13 (Cb.a k) ⟨Fg.s,Da.s,trivial⟩
def C7.e (k:Nat):Ent:=⟨1,[(.val false t6)],[(.one,t7)],λ x=>C7 x⟩
def C7.d:Fd := { nt:=5,nv:=1,nm:=[0,1],res:=[2],rf:=true }
def C7.s (k:Nat):CK 154 (C7.e k):=mS C7.d k [] Tryz.func154 trivial trivial
def Di.e (k:Nat):Ent:=⟨1,[(.val true t17)],[(.agg,t18)],λ x=>Di k x⟩
def Ea.p:LF:=⟨⟨[(2,(.bp 2 0 0)),(3,(.bp 3 0 0)),(3999,(.hd 2)),(4999,(.hd 2))],[(10,t10),(11,(.i .i64)),(12,(.i .i64)),(3000,t18),(4000,t18)]⟩,[((.exit 0),⟨[(2,(.bp 2 0 0)),(3,(.bp 3 0 0)),(3999,(.hd 2)),(4999,(.hd 2))],[(3000,t18),(4000,t18)]⟩)],λ k x=>Ea k x.1 x.2.1 x.2.2.1 x.2.2.2.1 x.2.2.2.2⟩
def Di.d:Fd := { nt:=27,nv:=1,nm:=[0,1,3,4,5],res:=[],cs:=λ k=>[(154,C7.e k)],ls:=[(3,Ea.p)],mv:=[26],rf:=true }
def Di.a (k:Nat):AC (Di.d.cs k):=⟨C7.s k,trivial⟩
def Ea.s:LL Tryz.f90 Di.d 3 Ea.p:=mL [] Di.a trivial
def Di.s (k:Nat):CK 90 (Di.e k):=mS Di.d k [3] Tryz.func90 (Di.a k) ⟨Ea.s,trivial⟩
def Dj.e (k:Nat):Ent:=⟨1,[(.val true t17)],[(.agg,t19)],λ x=>Dj k x⟩
def Ky.p:LF:=⟨⟨[(2,(.bp 2 0 0)),(3,(.bp 3 0 0)),(3999,(.hd 2)),(4999,(.hd 2))],[(10,t10),(11,(.i .i64)),(12,(.i .i64)),(3000,t18),(4000,t19)]⟩,[((.exit 0),⟨[(2,(.bp 2 0 0)),(3,(.bp 3 0 0)),(3999,(.hd 2)),(4999,(.hd 2))],[(3000,t18),(4000,t19)]⟩)],λ k x=>Ky k x.1 x.2.1 x.2.2.1 x.2.2.2.1 x.2.2.2.2⟩
def Dj.d:Fd := { nt:=27,nv:=1,nm:=[0,1,3,4,5],res:=[],cs:=λ k=>[(154,C7.e k)],ls:=[(3,Ky.p)],hint:=[(22,t7),(23,t7)],mv:=[26],rf:=true }
def Dj.a (k:Nat):AC (Dj.d.cs k):=⟨C7.s k,trivial⟩
def Ky.s:LL Tryz.f90 Dj.d 3 Ky.p:=mL [] Dj.a trivial
def Dj.s (k:Nat):CK 90 (Dj.e k):=mS Dj.d k [3] Tryz.func90 (Dj.a k) ⟨Ky.s,trivial⟩
def Af.e (k:Nat):Ent:=⟨1,[(.val false t31)],[(.one,t32)],λ x=>Af x⟩
def Af.d:Fd := { nt:=5,nv:=1,nm:=[0,1],res:=[2] }
def Af.s (k:Nat):CK 111 (Af.e k):=mS Af.d k [] Tryz.func111 trivial trivial
def Aj.e (k:Nat):Ent:=⟨1,[(.val false t4)],[(.one,t5)],λ x=>Aj x⟩
def Aj.d:Fd := { nt:=5,nv:=1,nm:=[0,1],res:=[2] }
def Aj.s (k:Nat):CK 70 (Aj.e k):=mS Aj.d k [] Tryz.func70 trivial trivial
def B5.e (k:Nat):Ent:=⟨1,[(.val false t13)],[(.one,t14)],λ x=>B5 k x⟩
def Db.p:LF:=⟨⟨[],[(3,t14),(6,t13),(7,(.i .i64)),(8,(.i .i64))]⟩,[((.exit 0),⟨[],[(3,t14)]⟩)],λ k x=>Db k x.1 x.2.1 x.2.2.1 x.2.2.2⟩
def B5.d:Fd := { nt:=23,nv:=1,nm:=[0,1,3,4,5],res:=[2],cs:=λ k=>[(70,Aj.e k)],ls:=[(3,Db.p)] }
def B5.a (k:Nat):AC (B5.d.cs k):=⟨Aj.s k,trivial⟩
def Db.s:LL Tryz.f203 B5.d 3 Db.p:=mL [] B5.a trivial
def B5.s (k:Nat):CK 203 (B5.e k):=mS B5.d k [3] Tryz.func203 (B5.a k) ⟨Db.s,trivial⟩
def Dc.e (k:Nat):Ent:=⟨1,[(.val false t13)],[(.one,t15)],λ x=>Dc k x⟩
def Jx.p:LF:=⟨⟨[],[(3,t15),(6,t13),(7,(.i .i64)),(8,(.i .i64))]⟩,[((.exit 0),⟨[],[(3,t15)]⟩)],λ k x=>Jx k x.1 x.2.1 x.2.2.1 x.2.2.2⟩
def Dc.d:Fd := { nt:=23,nv:=1,nm:=[0,1,3,4,5],res:=[2],cs:=λ k=>[(70,Aj.e k)],ls:=[(3,Jx.p)],hint:=[(19,t12),(20,t12)] }
def Dc.a (k:Nat):AC (Dc.d.cs k):=⟨Aj.s k,trivial⟩
def Jx.s:LL Tryz.f203 Dc.d 3 Jx.p:=mL [] Dc.a trivial
def Dc.s (k:Nat):CK 203 (Dc.e k):=mS Dc.d k [3] Tryz.func203 (Dc.a k) ⟨Jx.s,trivial⟩
def A4.e (k:Nat):Ent:=⟨1,[(.val true t27)],[(.agg,t29)],λ x=>A4 k x⟩
def A4.d:Fd := { nt:=10,nv:=1,nm:=[0,1],res:=[],cs:=λ k=>[(203,B5.e k)] }
def A4.s (k:Nat):CK 155 (A4.e k):=mS A4.d k [] Tryz.func155 ⟨B5.s k,trivial⟩ trivial
def J8.e (k:Nat):Ent:=⟨1,[(.val true t27)],[(.agg,t30)],λ x=>J8 k x⟩
def J8.d:Fd := { nt:=10,nv:=1,nm:=[0,1],res:=[],cs:=λ k=>[(203,Dc.e k)] }
def J8.s (k:Nat):CK 155 (J8.e k):=mS J8.d k [] Tryz.func155 ⟨Dc.s k,trivial⟩ trivial
def Aq.e (k:Nat):Ent:=⟨1,[(.val true t40)],[(.agg,t41)],λ x=>Aq k x⟩
def Aq.d:Fd := { nt:=15,nv:=1,nm:=[0,1],res:=[],cs:=λ k=>[(111,Af.e k),(155,A4.e k)] }
def Aq.s (k:Nat):CK 91 (Aq.e k):=mS Aq.d k [] Tryz.func91 ⟨Af.s k,A4.s k,trivial⟩ trivial
def G6.e (k:Nat):Ent:=⟨1,[(.val true t25)],[(.agg,t26)],λ x=>G6 x⟩
def G6.d:Fd := { nt:=8,nv:=1,nm:=[0,1],res:=[],cs:=λ k=>[(70,Aj.e k)],mv:=[7],rf:=true }
def G6.s (k:Nat):CK 92 (G6.e k):=mS G6.d k [] Tryz.func92 ⟨Aj.s k,trivial⟩ trivial
def Aw.e (k:Nat):Ent:=⟨1,[(.val true t46)],[(.agg,t47)],λ x=>Aw k x⟩
def Ed.p:LF:=⟨⟨[(2,(.bp 2 0 0)),(3,(.bp 3 0 0)),(3999,(.hd 9)),(4999,(.hd 9))],[(36,t35),(37,(.i .i64)),(38,(.i .i64)),(3000,t47),(4000,t47)]⟩,[((.exit 2),⟨[(2,(.bp 2 0 0)),(3,(.bp 3 0 0)),(3999,(.hd 9)),(4999,(.hd 9))],[(3000,t47),(4000,t47)]⟩)],λ k x=>Ed k x.1 x.2.1 x.2.2.1 x.2.2.2.1 x.2.2.2.2⟩
def Ee.p:LF:=⟨⟨[(1,(.bp 1 0 0)),(2,(.bp 2 0 0)),(3,(.bp 3 0 0)),(2999,(.hd 9)),(3999,(.hd 9)),(4999,(.hd 9))],[(21,t43),(22,(.i .i64)),(23,(.i .i64)),(2000,t46),(3000,t47),(4000,t47)]⟩,[((.exit 0),⟨[(1,(.bp 1 0 0)),(2,(.bp 2 0 0)),(3,(.bp 3 0 0)),(2999,(.hd 9)),(3999,(.hd 9)),(4999,(.hd 9))],[(2000,t46),(3000,t47),(4000,t47)]⟩)],λ k x=>Ee k x.1 x.2.1 x.2.2.1 x.2.2.2.1 x.2.2.2.2.1 x.2.2.2.2.2⟩
def Aw.d:Fd := { nt:=54,nv:=1,nm:=[0,1,3,4,5,6,7],res:=[],cs:=λ k=>[(90,Di.e k),(91,Aq.e k),(92,G6.e k)],ls:=[(8,Ed.p),(3,Ee.p)],mv:=[53],rf:=true }
def Aw.a (k:Nat):AC (Aw.d.cs k):=⟨Di.s k,Aq.s k,G6.s k,trivial⟩
def Ed.s:LL Tryz.f40 Aw.d 8 Ed.p:=mL [] Aw.a trivial
def Ee.s:LL Tryz.f40 Aw.d 3 Ee.p:=mL [] Aw.a trivial
def Aw.s (k:Nat):CK 40 (Aw.e k):=mS Aw.d k [3,8] Tryz.func40 (Aw.a k) ⟨Ee.s,Ed.s,trivial⟩
def F6.e (k:Nat):Ent:=⟨2,[(.val false t6),(.val false (.i .i64))],[(.one,(.i .i64))],λ x=>F6 x.1 x.2⟩
def F6.d:Fd := { nt:=20,nv:=2,nm:=[0,1,2,3],res:=[4],cs:=λ k=>[(74,Cd.e k)],rf:=true }
def F6.s (k:Nat):CK 66 (F6.e k):=mS F6.d k [] Tryz.func66 ⟨Cd.s k,trivial⟩ trivial
def Dk.e (k:Nat):Ent:=⟨2,[(.val true t46),(.val false t6)],[(.one,t7)],λ x=>Dk k x.1 x.2⟩
def Ef.p:LF:=⟨⟨[(2,(.bp 2 0 0)),(3999,(.hd 9))],[(5,t7),(7,(.i .i64)),(10,t6),(11,(.i .i64)),(12,(.i .i64)),(17,t43),(18,(.i .i64)),(19,(.i .i64)),(3000,t46)]⟩,[((.exit 2),⟨[(2,(.bp 2 0 0)),(3999,(.hd 9))],[(5,t7),(10,t6),(11,(.i .i64)),(12,(.i .i64)),(3000,t46)]⟩)],λ k x=>Ef k x.1 x.2.1 x.2.2.1 x.2.2.2.1 x.2.2.2.2.1 x.2.2.2.2.2.1 x.2.2.2.2.2.2.1 x.2.2.2.2.2.2.2.1 x.2.2.2.2.2.2.2.2⟩
def Gd.p:LF:=⟨⟨[(2,(.bp 2 0 0)),(3999,(.hd 9))],[(5,t7),(10,t6),(11,(.i .i64)),(12,(.i .i64)),(3000,t46)]⟩,[((.exit 0),⟨[],[(5,t7)]⟩)],λ k x=>Gd k x.1 x.2.1 x.2.2.1 x.2.2.2.1 x.2.2.2.2⟩
def Dk.d:Fd := { nt:=35,nv:=2,nm:=[0,1,2,3,5,6,7,8,9],res:=[4],ls:=[(6,Ef.p),(3,Gd.p)],rf:=true }
def Ef.s:LL Tryz.f122 Dk.d 6 Ef.p:=mL [] (λ _=>trivial) trivial
def Gd.s:LL Tryz.f122 Dk.d 3 Gd.p:=mL [6] (λ _=>trivial) ⟨Ef.s,trivial⟩
def Dk.s (k:Nat):CK 122 (Dk.e k):=mS Dk.d k [3] Tryz.func122 trivial ⟨Gd.s,trivial⟩
def Mx.e (k:Nat):Ent:=⟨1,[(.val false .s)],[(.one,(.i .i64))],λ x=>Mx k x⟩
def Kd.p:LF:=⟨⟨[],[(0,.s),(3,(.i .u32)),(4,(.i .i64))]⟩,[((.exit 0),⟨[],[(3,(.i .u32))]⟩)],λ k x=>Kd k x.1 x.2.1 x.2.2⟩
def Mx.d:Fd := { nt:=20,nv:=1,nm:=[0,1,3,4],res:=[2],ls:=[(3,Kd.p)],rf:=true }
def Kd.s:LL Tryz.f227 Mx.d 3 Kd.p:=mL [] (λ _=>trivial) trivial
def Mx.s (k:Nat):CK 227 (Mx.e k):=mS Mx.d k [3] Tryz.func227 trivial ⟨Kd.s,trivial⟩
def M5.e (k:Nat):Ent:=⟨2,[(.val false .s),(.val false (.i .i64))],[(.one,(.i .i64))],λ x=>M5 k x.1 x.2⟩
def M5.d:Fd := { nt:=11,nv:=2,nm:=[0,1,2,3],res:=[4],cs:=λ k=>[(227,Mx.e k)],rf:=true }
def M5.s (k:Nat):CK 180 (M5.e k):=mS M5.d k [] Tryz.func180 ⟨Mx.s k,trivial⟩ trivial
def Bj.e (k:Nat):Ent:=⟨2,[(.val true t17),(.val false .s)],[(.one,t7)],λ x=>Bj k x.1 x.2⟩
def Bj.d:Fd := { nt:=20,nv:=2,nm:=[0,1,2,3],res:=[4],cs:=λ k=>[(154,C7.e k),(180,M5.e k)],rf:=true }
def Bj.s (k:Nat):CK 123 (Bj.e k):=mS Bj.d k [] Tryz.func123 ⟨C7.s k,M5.s k,trivial⟩ trivial
def Dl.e (k:Nat):Ent:=⟨2,[(.val false t6),(.val false t22)],[(.one,t7)],λ x=>Dl k x.1 x.2⟩
def Eg.p:LF:=⟨⟨[],[(1,t22),(5,t7),(10,t6),(11,(.i .i64)),(12,(.i .i64))]⟩,[((.exit 0),⟨[],[(5,t7)]⟩)],λ k x=>Eg k x.1 x.2.1 x.2.2.1 x.2.2.2.1 x.2.2.2.2⟩
def Dl.d:Fd := { nt:=37,nv:=2,nm:=[0,1,2,3,5,6,7,8,9],res:=[4],cs:=λ k=>[(102,F9.e k),(145,Bx.e k)],ls:=[(3,Eg.p)],rf:=true }
def Dl.a (k:Nat):AC (Dl.d.cs k):=⟨F9.s k,Bx.s k,trivial⟩
def Eg.s:LL Tryz.f224 Dl.d 3 Eg.p:=mL [] Dl.a trivial
def Dl.s (k:Nat):CK 224 (Dl.e k):=mS Dl.d k [3] Tryz.func224 (Dl.a k) ⟨Eg.s,trivial⟩
def E4.e (k:Nat):Ent:=⟨3,[(.val true t17),(.val false t22),(.val false .s)],[(.one,t7)],λ x=>E4 k x.1 x.2.1 x.2.2⟩
def Dd.p:LF:=⟨⟨[],[(7,t7),(8,t7),(9,t7),(10,t7),(19,t22),(20,(.i .i64)),(21,(.i .i64))]⟩,[((.exit 0),⟨[],[(9,t7),(10,t7)]⟩)],λ k x=>Dd k x.1 x.2.1 x.2.2.1 x.2.2.2.1 x.2.2.2.2.1 x.2.2.2.2.2.1 x.2.2.2.2.2.2⟩
def E4.d:Fd := { nt:=49,nv:=3,nm:=[0,1,2,3,4,5,7,8,9,10,11,12],res:=[6],cs:=λ k=>[(123,Bj.e k),(145,Bx.e k),(224,Dl.e k)],ls:=[(5,Dd.p)],rf:=true }
def E4.a (k:Nat):AC (E4.d.cs k):=⟨Bj.s k,Bx.s k,Dl.s k,trivial⟩
def Dd.s:LL Tryz.f175 E4.d 5 Dd.p:=mL [] E4.a trivial
def E4.s (k:Nat):CK 175 (E4.e k):=mS E4.d k [5] Tryz.func175 (E4.a k) ⟨Dd.s,trivial⟩
def Cj.e (k:Nat):Ent:=⟨2,[(.ptr t48 t48),(.val false .s)],[(.one,t7)],λ x=>Cj k x.1 x.2⟩
def Cj.d:Fd := { nt:=26,nv:=2,nm:=[0,1,2,3],res:=[4],cs:=λ k=>[(122,Dk.e k),(123,Bj.e k),(175,E4.e k)],rf:=true }
def Cj.s (k:Nat):CK 116 (Cj.e k):=mS Cj.d k [] Tryz.func116 ⟨Dk.s k,Bj.s k,E4.s k,trivial⟩ trivial
def I0.e (k:Nat):Ent:=⟨3,[(.val true t16),(.val false (.i .i64)),(.val false (.i .i64))],[(.agg,t16)],λ x=>I0 x.1 x.2.1 x.2.2⟩
def I0.d:Fd := { nt:=27,nv:=3,nm:=[0,1,2,3,4,5,7],res:=[],cs:=λ k=>[(45,Ca.e k)],rf:=true }
def I0.s (k:Nat):CK 126 (I0.e k):=mS I0.d k [] Tryz.func126 ⟨Ca.s k,trivial⟩ trivial
def Kz.e (k:Nat):Ent:=⟨2,[(.val false .s),(.val true t25)],[(.agg,t28)],λ x=>Kz x.1 x.2⟩
def Kz.d:Fd := { nt:=14,nv:=2,nm:=[0,1,2,3],res:=[],rf:=true }
def Kz.s (k:Nat):CK 112 (Kz.e k):=mS Kz.d k [] Tryz.func112 trivial trivial
def Md.e (k:Nat):Ent:=⟨2,[(.val true t25),(.val true t25)],[(.one,.b)],λ x=>Md x.1 x.2⟩
def Md.d:Fd := { nt:=10,nv:=2,nm:=[0,1,2,3],res:=[4],cs:=λ k=>[(14,Au.e k)] }
def Md.s (k:Nat):CK 61 (Md.e k):=mS Md.d k [] Tryz.func61 ⟨Au.s k,trivial⟩ trivial
def Iu.e (k:Nat):Ent:=⟨2,[(.val false t4),(.val false (.i .i64))],[(.one,(.i .i64)),(.one,(.i .i64)),(.one,.b)],λ x=>Iu k x.1 x.2⟩
def H1.p:LF:=⟨⟨[],[(0,t4),(1,(.i .i64)),(7,(.i .i64)),(8,(.i .i64))]⟩,[(.ret,⟨[],[(4,(.i .i64)),(5,(.i .i64)),(6,.b)]⟩),((.exit 0),⟨[],[]⟩)],λ k x=>H1 k x.1 x.2.1 x.2.2.1 x.2.2.2⟩
def Iu.d:Fd := { nt:=57,nv:=2,nm:=[0,1,2,3,7,8,9],res:=[4,5,6],ls:=[(3,H1.p)] }
def H1.s:LL Tryz.f256 Iu.d 3 H1.p:=mL [] (λ _=>trivial) trivial
def Iu.s (k:Nat):CK 256 (Iu.e k):=mS Iu.d k [3] Tryz.func256 trivial ⟨H1.s,trivial⟩
def Dm.e (k:Nat):Ent:=⟨1,[(.ptr t20 t20)],[(.one,(.i .i64))],λ x=>Dm k x⟩
def Dm.d:Fd := { nt:=35,nv:=1,nm:=[0,1,3,4,5],res:=[2],cs:=λ k=>[(256,Iu.e k)] }
def Dm.s (k:Nat):CK 219 (Dm.e k):=mS Dm.d k [] Tryz.func219 ⟨Iu.s k,trivial⟩ trivial
def Eh.e (k:Nat):Ent:=⟨1,[(.ptr t20 t20)],[(.agg,t16),(.one,.b)],λ x=>Eh k x⟩
def Eh.d:Fd := { nt:=31,nv:=1,nm:=[0,1,4,5],res:=[3],cs:=λ k=>[(219,Dm.e k)] }
def Eh.s (k:Nat):CK 171 (Eh.e k):=mS Eh.d k [] Tryz.func171 ⟨Dm.s k,trivial⟩ trivial
def Ke.e (k:Nat):Ent:=⟨2,[(.val false t4),(.val false (.i .i64))],[(.one,.s),(.one,(.i .i64)),(.one,.b)],λ x=>Ke k x.1 x.2⟩
def Ke.d:Fd := { nt:=37,nv:=2,nm:=[0,1,2,3,7,8,9],res:=[4,5,6],cs:=λ k=>[(256,Iu.e k)] }
def Ke.s (k:Nat):CK 220 (Ke.e k):=mS Ke.d k [] Tryz.func220 ⟨Iu.s k,trivial⟩ trivial
def De.e (k:Nat):Ent:=⟨1,[(.ptr t20 t20)],[(.one,.s)],λ x=>De k x⟩
def De.d:Fd := { nt:=35,nv:=1,nm:=[0,1,3,4,5],res:=[2],cs:=λ k=>[(220,Ke.e k)] }
def De.s (k:Nat):CK 172 (De.e k):=mS De.d k [] Tryz.func172 ⟨Ke.s k,trivial⟩ trivial
def G5.e (k:Nat):Ent:=⟨2,[(.val false t5),(.val false (.i .i64))],[(.one,t5)],λ x=>G5 k x.1 x.2⟩
def I1.p:LF:=⟨⟨[],[(0,t5),(1,(.i .i64))]⟩,[((.exit 0),⟨[],[(0,t5),(1,(.i .i64))]⟩)],λ k x=>I1 k x.1 x.2⟩
def G5.d:Fd := { nt:=24,nv:=2,nm:=[0,1,2,3],res:=[4],ls:=[(2,I1.p)] }
def I1.s:LL Tryz.f257 G5.d 2 I1.p:=mL [] (λ _=>trivial) trivial
def G5.s (k:Nat):CK 257 (G5.e k):=mS G5.d k [2] Tryz.func257 trivial ⟨I1.s,trivial⟩
def Kf.e (k:Nat):Ent:=⟨2,[(.val false t5),(.val false .s)],[(.one,t5)],λ x=>Kf k x.1 x.2⟩
def Kf.d:Fd := { nt:=11,nv:=2,nm:=[0,1,2,3],res:=[4],cs:=λ k=>[(257,G5.e k)] }
def Kf.s (k:Nat):CK 221 (Kf.e k):=mS Kf.d k [] Tryz.func221 ⟨G5.s k,trivial⟩ trivial
def Oz.e (k:Nat):Ent:=⟨1,[(.val false .b)],[(.one,(.i .i64))],λ x=>Oz x⟩
def Oz.d:Fd := { nt:=4,nv:=1,nm:=[0,1],res:=[2] }
def Oz.s (k:Nat):CK 258 (Oz.e k):=mS Oz.d k [] Tryz.func258 trivial trivial
def J9.e (k:Nat):Ent:=⟨3,[(.val false t5),(.val true t16),(.val false .b)],[(.one,t5)],λ x=>J9 k x.1 x.2.1 x.2.2⟩
def J9.d:Fd := { nt:=20,nv:=3,nm:=[0,1,2,3,4,5],res:=[6],cs:=λ k=>[(257,G5.e k),(258,Oz.e k)] }
def J9.s (k:Nat):CK 222 (J9.e k):=mS J9.d k [] Tryz.func222 ⟨G5.s k,Oz.s k,trivial⟩ trivial
def Nf.e (k:Nat):Ent:=⟨1,[(.val false t4)],[(.one,(.i .i64))],λ x=>Nf k x⟩
def L5.p:LF:=⟨⟨[],[(3,(.i .u32)),(7,t4),(8,(.i .i64)),(9,(.i .i64)),(17,(.i .i64))]⟩,[((.exit 2),⟨[],[(3,(.i .u32)),(7,t4),(8,(.i .i64)),(9,(.i .i64))]⟩)],λ k x=>L5 k x.1 x.2.1 x.2.2.1 x.2.2.2.1 x.2.2.2.2⟩
def Lk.p:LF:=⟨⟨[],[(3,(.i .u32)),(7,t4),(8,(.i .i64)),(9,(.i .i64))]⟩,[((.exit 0),⟨[],[(3,(.i .u32))]⟩)],λ k x=>Lk k x.1 x.2.1 x.2.2.1 x.2.2.2⟩
def Nf.d:Fd := { nt:=32,nv:=1,nm:=[0,1,3,4,5,6],res:=[2],ls:=[(7,L5.p),(3,Lk.p)] }
def L5.s:LL Tryz.f223 Nf.d 7 L5.p:=mL [] (λ _=>trivial) trivial
def Lk.s:LL Tryz.f223 Nf.d 3 Lk.p:=mL [7] (λ _=>trivial) ⟨L5.s,trivial⟩
def Nf.s (k:Nat):CK 223 (Nf.e k):=mS Nf.d k [3] Tryz.func223 trivial ⟨Lk.s,trivial⟩
def Fx.e (k:Nat):Ent:=⟨1,[(.val true t25)],[(.one,t5)],λ x=>Fx k x⟩
def Fx.d:Fd := { nt:=33,nv:=1,nm:=[0,1,3,4],res:=[2],cs:=λ k=>[(103,Ec.e k),(221,Kf.e k),(222,J9.e k),(223,Nf.e k)] }
def Fx.s (k:Nat):CK 173 (Fx.e k):=mS Fx.d k [] Tryz.func173 ⟨Ec.s k,Kf.s k,J9.s k,Nf.s k,trivial⟩ trivial
def Bz.e (k:Nat):Ent:=⟨1,[(.val false t4)],[(.agg,t25),(.one,.b)],λ x=>Bz k x⟩
def Bz.d:Fd := { nt:=41,nv:=1,nm:=[0,1,4,5,6],res:=[3],cs:=λ k=>[(171,Eh.e k),(172,De.e k),(173,Fx.e k)] }
def Bz.s (k:Nat):CK 109 (Bz.e k):=mS Bz.d k [] Tryz.func109 ⟨Eh.s k,De.s k,Fx.s k,trivial⟩ trivial
def Hb.e (k:Nat):Ent:=⟨2,[(.val false t13),(.val false .s)],[(.one,(.i .i64))],λ x=>Hb k x.1 x.2⟩
def Me.p:LF:=⟨⟨[],[(1,.s),(7,t13),(8,(.i .i64)),(9,(.i .i64))]⟩,[(.ret,⟨[],[(4,(.i .i64))]⟩),((.exit 0),⟨[],[]⟩)],λ k x=>Me k x.1 x.2.1 x.2.2.1 x.2.2.2⟩
def Hb.d:Fd := { nt:=20,nv:=2,nm:=[0,1,2,3,5,6],res:=[4],ls:=[(2,Me.p)] }
def Me.s:LL Tryz.f174 Hb.d 2 Me.p:=mL [] (λ _=>trivial) trivial
def Hb.s (k:Nat):CK 174 (Hb.e k):=mS Hb.d k [2] Tryz.func174 trivial ⟨Me.s,trivial⟩
def G7.e (k:Nat):Ent:=⟨2,[(.val true t27),(.val false .s)],[(.one,t5),(.one,.b)],λ x=>G7 k x.1 x.2⟩
def G7.d:Fd := { nt:=20,nv:=2,nm:=[0,1,2,3,6],res:=[4,5],cs:=λ k=>[(70,Aj.e k),(174,Hb.e k)] }
def G7.s (k:Nat):CK 117 (G7.e k):=mS G7.d k [] Tryz.func117 ⟨Aj.s k,Hb.s k,trivial⟩ trivial
def I2.e (k:Nat):Ent:=⟨2,[(.val false t13),(.val false .s)],[(.one,t13)],λ x=>I2 k x.1 x.2⟩
def I2.d:Fd := { nt:=21,nv:=2,nm:=[0,1,2,3,5],res:=[4],cs:=λ k=>[(174,Hb.e k)] }
def I2.s (k:Nat):CK 231 (I2.e k):=mS I2.d k [] Tryz.func231 ⟨Hb.s k,trivial⟩ trivial
def Mt.e (k:Nat):Ent:=⟨2,[(.val false t13),(.val true t11)],[(.one,t14)],λ x=>Mt k x.1 x.2⟩
def Ll.p:LF:=⟨⟨[(3,(.bp 3 0 0)),(4999,(.hd 2))],[(0,t13),(5,(.i .i64)),(4000,.s),(4001,t4)]⟩,[((.exit 0),⟨[(3,(.bp 3 0 0)),(4999,(.hd 2))],[(0,t13),(5,(.i .i64)),(4000,.s),(4001,t4)]⟩)],λ k x=>Ll k x.1 x.2.1 x.2.2.1 x.2.2.2⟩
def Mt.d:Fd := { nt:=33,nv:=2,nm:=[0,1,2,3,5],res:=[4],ls:=[(2,Ll.p)] }
def Ll.s:LL Tryz.f232 Mt.d 2 Ll.p:=mL [] (λ _=>trivial) trivial
def Mt.s (k:Nat):CK 232 (Mt.e k):=mS Mt.d k [2] Tryz.func232 trivial ⟨Ll.s,trivial⟩
def C8.e (k:Nat):Ent:=⟨2,[(.val true t27),(.val false .s)],[(.agg,(.pr t14 t13)),(.one,.b)],λ x=>C8 k x.1 x.2⟩
def C8.d:Fd := { nt:=50,nv:=2,nm:=[0,1,2,3,6,7],res:=[5],cs:=λ k=>[(48,Ai.e k),(70,Aj.e k),(105,Av.e k),(155,A4.e k),(174,Hb.e k),(231,I2.e k),(232,Mt.e k)],mv:=[18,49] }
def C8.s (k:Nat):CK 188 (C8.e k):=mS C8.d k [] Tryz.func188 ⟨Ai.s k,Aj.s k,Av.s k,A4.s k,Hb.s k,I2.s k,Mt.s k,trivial⟩ trivial
def Ey.e (k:Nat):Ent:=⟨3,[(.val true t27),(.val false .s),(.val false t4)],[(.agg,t29),(.one,.b)],λ x=>Ey k x.1 x.2.1 x.2.2⟩
def Ey.d:Fd := { nt:=42,nv:=3,nm:=[0,1,2,3,4,5,8],res:=[7],cs:=λ k=>[(48,Ai.e k),(70,Aj.e k),(105,Av.e k),(155,A4.e k),(231,I2.e k),(232,Mt.e k)],mv:=[24,41] }
def Ey.s (k:Nat):CK 229 (Ey.e k):=mS Ey.d k [] Tryz.func229 ⟨Ai.s k,Aj.s k,Av.s k,A4.s k,I2.s k,Mt.s k,trivial⟩ trivial
def M1.e (k:Nat):Ent:=⟨4,[(.val true t27),(.val false .s),(.val true t25),(.val false .b)],[(.agg,t27),(.one,(.i .i64))],λ x=>M1 k x.1 x.2.1 x.2.2.1 x.2.2.2⟩
def M1.d:Fd := { nt:=82,nv:=4,nm:=[0,1,2,3,4,5,6,7,10,11,12,13,14,15,16,17,18,19],res:=[9],cs:=λ k=>[(48,Ai.e k),(61,Md.e k),(103,Ec.e k),(105,Av.e k),(109,Bz.e k),(117,G7.e k),(155,A4.e k),(173,Fx.e k),(188,C8.e k),(229,Ey.e k)],mv:=[80] }
def M1.s (k:Nat):CK 183 (M1.e k):=mS M1.d k [] Tryz.func183 ⟨Ai.s k,Md.s k,Ec.s k,Av.s k,Bz.s k,G7.s k,A4.s k,Fx.s k,C8.s k,Ey.s k,trivial⟩ trivial
def Kg.e (k:Nat):Ent:=⟨4,[(.val true t40),(.val false .s),(.val true t25),(.val false .b)],[(.agg,t42),(.one,(.i .i64))],λ x=>Kg k x.1 x.2.1 x.2.2.1 x.2.2.2⟩
def Kg.d:Fd := { nt:=62,nv:=4,nm:=[0,1,2,3,4,5,6,7,10,11,12],res:=[9],cs:=λ k=>[(47,Bh.e k),(48,Ai.e k),(91,Aq.e k),(103,Ec.e k),(112,Kz.e k),(183,M1.e k)],mv:=[29,35,60],rf:=true }
def Kg.s (k:Nat):CK 128 (Kg.e k):=mS Kg.d k [] Tryz.func128 ⟨Bh.s k,Ai.s k,Aq.s k,Ec.s k,Kz.s k,M1.s k,trivial⟩ trivial
def Dn.e (k:Nat):Ent:=⟨5,[(.ptr t40 t40),(.val false (.i .i64)),(.ptr .s .s),(.ptr t25 t25),(.ptr (.i .i64) (.i .i64))],[],λ x=>Dn k x.1 x.2.1 x.2.2.1 x.2.2.2.1 x.2.2.2.2⟩
def Dn.d:Fd := { nt:=35,nv:=5,nm:=[0,1,5,6,7,8],res:=[],cs:=λ k=>[(128,Kg.e k)],rf:=true }
def Dn.s (k:Nat):CK 127 (Dn.e k):=mS Dn.d k [] Tryz.func127 ⟨Kg.s k,trivial⟩ trivial
def Lm.e (k:Nat):Ent:=⟨1,[(.val false (.i .i64))],[(.one,(.i .i64))],λ x=>Lm x⟩
def Lm.d:Fd := { nt:=6,nv:=1,nm:=[0,1],res:=[2],rf:=true }
def Lm.s (k:Nat):CK 129 (Lm.e k):=mS Lm.d k [] Tryz.func129 trivial trivial
def Aa.e (k:Nat):Ent:=⟨4,[(.ptr t48 t48),(.val false .s),(.val false t6),(.fn 127 3),(.hid .s .s),(.hid t25 t25),(.hid (.i .i64) (.i .i64))],[],λ x=>Aa k x.1 x.2.1 x.2.2.1 x.2.2.2.1 x.2.2.2.2.1 x.2.2.2.2.2.1 x.2.2.2.2.2.2⟩
def Ae.p:LF:=⟨⟨[(0,(.bp 0 0 0)),(3,(.fn 127 [(1500,0),(1501,0),(1502,0)])),(1999,(.hd 9)),(1501999,(.hd 1)),(1502999,(.hd 5)),(1503999,(.hd 1))],[(2,t6),(8,(.i .i64)),(14,t7),(15,(.i .i64)),(16,(.i .i64)),(1000,t48),(1501000,.s),(1502000,t25),(1503000,(.i .i64))]⟩,[((.exit 0),⟨[(1999,(.hd 9)),(1501999,(.hd 1)),(1502999,(.hd 5)),(1503999,(.hd 1))],[(1000,t48),(1501000,.s),(1502000,t25),(1503000,(.i .i64))]⟩)],λ k x=>Ae k x.1 x.2.1 x.2.2.1 x.2.2.2.1 x.2.2.2.2.1 x.2.2.2.2.2.1 x.2.2.2.2.2.2.1 x.2.2.2.2.2.2.2.1 x.2.2.2.2.2.2.2.2⟩
def Aa.d:Fd := { nt:=47,nv:=4,nm:=[0,1,2,3,4,5,6,7,8,9,10,11],res:=[],cs:=λ k=>[(66,F6.e k),(116,Cj.e k),(127,Dn.e k)],ls:=[(2,Ae.p)],gh:=[(1000003,[.cl 1003])],opn:=[41],rf:=true }
def Aa.a (k:Nat):AC (Aa.d.cs k):=⟨F6.s k,Cj.s k,Dn.s k,trivial⟩
def Ae.s:LL Tryz.f58 Aa.d 2 Ae.p:=mL [] Aa.a trivial
def Aa.s (k:Nat):CK 58 (Aa.e k):=mS Aa.d k [2] Tryz.func58 (Aa.a k) ⟨Ae.s,trivial⟩
def Cg.e (k:Nat):Ent:=⟨5,[(.ptr t48 t48),(.val false .s),(.val true t25),(.val false (.i .i64)),(.val false t6)],[(.one,(.i .i64))],λ x=>Cg k x.1 x.2.1 x.2.2.1 x.2.2.2.1 x.2.2.2.2⟩
def Cg.d:Fd := { nt:=82,nv:=5,nm:=[0,1,2,3,4,5,6,7,8,9,11,12,13],res:=[10],cs:=λ k=>[(48,Ai.e k),(58,Aa.e k),(74,Cd.e k),(92,G6.e k),(126,I0.e k),(129,Lm.e k)],rf:=true }
def Cg.s (k:Nat):CK 69 (Cg.e k):=mS Cg.d k [] Tryz.func69 ⟨Ai.s k,Aa.s k,Cd.s k,G6.s k,I0.s k,Lm.s k,trivial⟩ trivial
def Jn.e (k:Nat):Ent:=⟨1,[(.val true t27)],[(.agg,t27),(.one,(.i .i64))],λ x=>Jn k x⟩
def Io.p:LF:=⟨⟨[(2,(.bp 2 0 0)),(4,(.bp 4 0 0)),(3999,(.hd 2)),(5999,(.hd 2))],[(5,(.i .i64)),(17,t13),(18,(.i .i64)),(19,(.i .i64)),(3000,t29),(5000,t27)]⟩,[((.exit 0),⟨[(2,(.bp 2 0 0)),(4,(.bp 4 0 0)),(3999,(.hd 2)),(5999,(.hd 2))],[(5,(.i .i64)),(3000,t29),(5000,t27)]⟩)],λ k x=>Io k x.1 x.2.1 x.2.2.1 x.2.2.2.1 x.2.2.2.2.1 x.2.2.2.2.2⟩
def Jn.d:Fd := { nt:=48,nv:=1,nm:=[0,1,4,5,6,7,8,9],res:=[3],cs:=λ k=>[(105,Av.e k),(109,Bz.e k),(155,A4.e k),(231,I2.e k)],ls:=[(6,Io.p)],mv:=[15],rf:=true }
def Jn.a (k:Nat):AC (Jn.d.cs k):=⟨Av.s k,Bz.s k,A4.s k,I2.s k,trivial⟩
def Io.s:LL Tryz.f186 Jn.d 6 Io.p:=mL [] Jn.a trivial
def Jn.s (k:Nat):CK 186 (Jn.e k):=mS Jn.d k [6] Tryz.func186 (Jn.a k) ⟨Io.s,trivial⟩
def I3.e (k:Nat):Ent:=⟨1,[(.val true t40)],[(.agg,t42),(.one,(.i .i64))],λ x=>I3 k x⟩
def I3.d:Fd := { nt:=19,nv:=1,nm:=[0,1,4,5,6],res:=[3],cs:=λ k=>[(91,Aq.e k),(186,Jn.e k)],mv:=[17],rf:=true }
def I3.s (k:Nat):CK 133 (I3.e k):=mS I3.d k [] Tryz.func133 ⟨Aq.s k,Jn.s k,trivial⟩ trivial
def M2.e (k:Nat):Ent:=⟨2,[(.val true t27),(.val false .s)],[(.agg,t25),(.one,(.i .i64))],λ x=>M2 k x.1 x.2⟩
def M2.d:Fd := { nt:=28,nv:=2,nm:=[0,1,2,3,6,7,8,9],res:=[5],cs:=λ k=>[(109,Bz.e k),(117,G7.e k)] }
def M2.s (k:Nat):CK 60 (M2.e k):=mS M2.d k [] Tryz.func60 ⟨Bz.s k,G7.s k,trivial⟩ trivial
def Fh.e (k:Nat):Ent:=⟨2,[(.val true t27),(.val false .s)],[(.agg,(.pr t13 t14)),(.one,.b)],λ x=>Fh k x.1 x.2⟩
def Fh.d:Fd := { nt:=26,nv:=2,nm:=[0,1,2,3,6],res:=[5],cs:=λ k=>[(105,Av.e k),(155,A4.e k),(174,Hb.e k),(231,I2.e k)],mv:=[19,25] }
def Fh.s (k:Nat):CK 187 (Fh.e k):=mS Fh.d k [] Tryz.func187 ⟨Av.s k,A4.s k,Hb.s k,I2.s k,trivial⟩ trivial
def Al.e (k:Nat):Ent:=⟨4,[(.ptr t48 t48),(.val false (.i .i64)),(.val false .s),(.val false t6)],[(.one,.b)],λ x=>Al k x.1 x.2.1 x.2.2.1 x.2.2.2⟩
def Ah.p:LF:=⟨⟨[(0,(.bp 0 0 0)),(9,(.bp 9 0 0)),(1999,(.hd 9)),(10999,(.hd 5))],[(1,(.i .i64)),(2,.s),(3,t6),(11,.b),(12,.b),(43,t7),(44,(.i .i64)),(45,(.i .i64)),(1000,t48),(10000,t25)]⟩,[((.exit 0),⟨[(0,(.bp 0 0 0)),(1999,(.hd 9))],[(1,(.i .i64)),(2,.s),(11,.b),(12,.b),(1000,t48)]⟩)],λ k x=>Ah k x.1 x.2.1 x.2.2.1 x.2.2.2.1 x.2.2.2.2.1 x.2.2.2.2.2.1 x.2.2.2.2.2.2.1 x.2.2.2.2.2.2.2.1 x.2.2.2.2.2.2.2.2.1 x.2.2.2.2.2.2.2.2.2⟩
def Al.d:Fd := { nt:=120,nv:=4,nm:=[0,1,2,3,4,5,6,7,9,10,11,12,13,14,15,16,17,18],res:=[8],cs:=λ k=>[(60,M2.e k),(66,F6.e k),(122,Dk.e k),(123,Bj.e k),(183,M1.e k),(187,Fh.e k),(188,C8.e k)],ls:=[(6,Ah.p)],rf:=true }
def Al.a (k:Nat):AC (Al.d.cs k):=⟨M2.s k,F6.s k,Dk.s k,Bj.s k,M1.s k,Fh.s k,C8.s k,trivial⟩
def Ah.s:LL Tryz.f134 Al.d 6 Ah.p:=mL [] Al.a trivial
def Al.s (k:Nat):CK 134 (Al.e k):=mS Al.d k [6] Tryz.func134 (Al.a k) ⟨Ah.s,trivial⟩
def Hp.e (k:Nat):Ent:=⟨1,[(.val true t46)],[(.one,t7)],λ x=>Hp k x⟩
def Hp.d:Fd := { nt:=8,nv:=1,nm:=[0,1],res:=[2],cs:=λ k=>[(122,Dk.e k),(123,Bj.e k)],rf:=true }
def Hp.s (k:Nat):CK 65 (Hp.e k):=mS Hp.d k [] Tryz.func65 ⟨Dk.s k,Bj.s k,trivial⟩ trivial
def Ja.e (k:Nat):Ent:=⟨2,[(.val true t28),(.val true t28)],[(.one,.b)],λ x=>Ja x.1 x.2⟩
def Ja.d:Fd := { nt:=29,nv:=2,nm:=[0,1,2,3],res:=[4],cs:=λ k=>[(14,Au.e k)] }
def Ja.s (k:Nat):CK 181 (Ja.e k):=mS Ja.d k [] Tryz.func181 ⟨Au.s k,trivial⟩ trivial
def Cm.e (k:Nat):Ent:=⟨2,[(.val false t31),(.val true t28)],[(.one,t32)],λ x=>Cm k x.1 x.2⟩
def Ei.p:LF:=⟨⟨[(3,(.bp 3 0 0)),(4999,(.hd 6))],[(0,t31),(8,(.i .i64)),(4000,.s),(4001,(.i .i64)),(4002,(.i .i64)),(4003,(.i .i64)),(4004,.b),(4005,(.i .i64))]⟩,[((.exit 2),⟨[(3,(.bp 3 0 0)),(4999,(.hd 6))],[(0,t31),(8,(.i .i64)),(4000,.s),(4001,(.i .i64)),(4002,(.i .i64)),(4003,(.i .i64)),(4004,.b),(4005,(.i .i64))]⟩)],λ k x=>Ei k x.1 x.2.1 x.2.2.1 x.2.2.2.1 x.2.2.2.2.1 x.2.2.2.2.2.1 x.2.2.2.2.2.2.1 x.2.2.2.2.2.2.2⟩
def Fi.p:LF:=⟨⟨[(3,(.bp 3 0 0)),(4999,(.hd 6))],[(0,t31),(5,t32),(11,t31),(12,(.i .i64)),(13,(.i .i64)),(4000,.s),(4001,(.i .i64)),(4002,(.i .i64)),(4003,(.i .i64)),(4004,.b),(4005,(.i .i64))]⟩,[(.ret,⟨[],[(4,t32)]⟩),((.exit 0),⟨[(3,(.bp 3 0 0)),(4999,(.hd 6))],[(0,t31),(4000,.s),(4001,(.i .i64)),(4002,(.i .i64)),(4003,(.i .i64)),(4004,.b),(4005,(.i .i64))]⟩)],λ k x=>Fi k x.1 x.2.1 x.2.2.1 x.2.2.2.1 x.2.2.2.2.1 x.2.2.2.2.2.1 x.2.2.2.2.2.2.1 x.2.2.2.2.2.2.2.1 x.2.2.2.2.2.2.2.2.1 x.2.2.2.2.2.2.2.2.2.1 x.2.2.2.2.2.2.2.2.2.2⟩
def Cm.d:Fd := { nt:=60,nv:=2,nm:=[0,1,2,3,5,6,7,8],res:=[4],cs:=λ k=>[(111,Af.e k),(181,Ja.e k)],ls:=[(11,Ei.p),(3,Fi.p)] }
def Cm.a (k:Nat):AC (Cm.d.cs k):=⟨Af.s k,Ja.s k,trivial⟩
def Ei.s:LL Tryz.f124 Cm.d 11 Ei.p:=mL [] Cm.a trivial
def Fi.s:LL Tryz.f124 Cm.d 3 Fi.p:=mL [] Cm.a trivial
def Cm.s (k:Nat):CK 124 (Cm.e k):=mS Cm.d k [3,11] Tryz.func124 (Cm.a k) ⟨Fi.s,Ei.s,trivial⟩
def Cv.e (k:Nat):Ent:=⟨2,[(.val false t31),(.val false t31)],[(.one,t32)],λ x=>Cv k x.1 x.2⟩
def Ej.p:LF:=⟨⟨[],[(5,t32),(10,t31),(11,(.i .i64)),(12,(.i .i64))]⟩,[((.exit 0),⟨[],[(5,t32)]⟩)],λ k x=>Ej k x.1 x.2.1 x.2.2.1 x.2.2.2⟩
def Cv.d:Fd := { nt:=21,nv:=2,nm:=[0,1,2,3,5,6,7],res:=[4],cs:=λ k=>[(111,Af.e k),(124,Cm.e k)],ls:=[(3,Ej.p)] }
def Cv.a (k:Nat):AC (Cv.d.cs k):=⟨Af.s k,Cm.s k,trivial⟩
def Ej.s:LL Tryz.f67 Cv.d 3 Ej.p:=mL [] Cv.a trivial
def Cv.s (k:Nat):CK 67 (Cv.e k):=mS Cv.d k [3] Tryz.func67 (Cv.a k) ⟨Ej.s,trivial⟩
def Jb.e (k:Nat):Ent:=⟨2,[(.val true t40),(.val false t31)],[(.agg,t41),(.one,.b)],λ x=>Jb k x.1 x.2⟩
def Jb.d:Fd := { nt:=30,nv:=2,nm:=[0,1,2,3,6],res:=[5],cs:=λ k=>[(47,Bh.e k),(67,Cv.e k),(91,Aq.e k),(106,Fa.e k)],mv:=[17,29] }
def Jb.s (k:Nat):CK 233 (Jb.e k):=mS Jb.d k [] Tryz.func233 ⟨Bh.s k,Cv.s k,Aq.s k,Fa.s k,trivial⟩ trivial
def Ar.e (k:Nat):Ent:=⟨4,[(.ptr t48 t48),(.val false t31),(.val false t6),(.val false (.i .i64))],[(.one,.b)],λ x=>Ar k x.1 x.2.1 x.2.2.1 x.2.2.2⟩
def B3.p:LF:=⟨⟨[(0,(.bp 0 0 0)),(1999,(.hd 9))],[(1,t31),(2,t6),(3,(.i .i64)),(9,.b),(17,t7),(18,(.i .i64)),(19,(.i .i64)),(1000,t48)]⟩,[((.exit 0),⟨[(1999,(.hd 9))],[(9,.b),(1000,t48)]⟩)],λ k x=>B3 k x.1 x.2.1 x.2.2.1 x.2.2.2.1 x.2.2.2.2.1 x.2.2.2.2.2.1 x.2.2.2.2.2.2.1 x.2.2.2.2.2.2.2⟩
def Ar.d:Fd := { nt:=56,nv:=4,nm:=[0,1,2,3,4,5,6,7,9,10,11,12,13],res:=[8],cs:=λ k=>[(65,Hp.e k),(66,F6.e k),(233,Jb.e k)],ls:=[(3,B3.p)],rf:=true }
def Ar.a (k:Nat):AC (Ar.d.cs k):=⟨Hp.s k,F6.s k,Jb.s k,trivial⟩
def B3.s:LL Tryz.f189 Ar.d 3 B3.p:=mL [] Ar.a trivial
def Ar.s (k:Nat):CK 189 (Ar.e k):=mS Ar.d k [3] Tryz.func189 (Ar.a k) ⟨B3.s,trivial⟩
def C4.e (k:Nat):Ent:=⟨3,[(.ptr t48 t48),(.val false (.i .i64)),(.val false t6)],[(.one,.b)],λ x=>C4 k x.1 x.2.1 x.2.2⟩
def C4.d:Fd := { nt:=47,nv:=3,nm:=[0,1,2,3,4,5],res:=[6],cs:=λ k=>[(111,Af.e k),(189,Ar.e k)],rf:=true }
def C4.s (k:Nat):CK 135 (C4.e k):=mS C4.d k [] Tryz.func135 ⟨Af.s k,Ar.s k,trivial⟩ trivial
def C0.e (k:Nat):Ent:=⟨3,[(.ptr t48 t48),(.val false (.i .i64)),(.val false t6)],[(.one,.b)],λ x=>C0 k x.1 x.2.1 x.2.2⟩
def C0.d:Fd := { nt:=43,nv:=3,nm:=[0,1,2,3,4,5,7,8],res:=[6],cs:=λ k=>[(65,Hp.e k),(111,Af.e k),(145,Bx.e k),(189,Ar.e k)],rf:=true }
def C0.s (k:Nat):CK 136 (C0.e k):=mS C0.d k [] Tryz.func136 ⟨Hp.s k,Af.s k,Bx.s k,Ar.s k,trivial⟩ trivial
def Fb.e (k:Nat):Ent:=⟨2,[(.val false t0),(.val false .s)],[(.one,t0)],λ x=>Fb k x.1 x.2⟩
def Fj.p:LF:=⟨⟨[],[(0,t0),(1,.s),(5,(.i .i64))]⟩,[((.exit 0),⟨[],[(0,t0),(1,.s),(5,(.i .i64))]⟩)],λ k x=>Fj k x.1 x.2.1 x.2.2⟩
def Fb.d:Fd := { nt:=44,nv:=2,nm:=[0,1,2,3,5],res:=[4],ls:=[(2,Fj.p)] }
def Fj.s:LL Tryz.f141 Fb.d 2 Fj.p:=mL [] (λ _=>trivial) trivial
def Fb.s (k:Nat):CK 141 (Fb.e k):=mS Fb.d k [2] Tryz.func141 trivial ⟨Fj.s,trivial⟩
def Cn.e (k:Nat):Ent:=⟨2,[(.val true t27),(.val false t1)],[(.agg,t29)],λ x=>Cn k x.1 x.2⟩
def As.p:LF:=⟨⟨[(2,(.bp 2 0 0)),(4,(.bp 4 0 0)),(3999,(.hd 2)),(5999,(.hd 2))],[(1,t1),(8,t14),(34,t0),(35,(.i .i64)),(36,(.i .i64)),(3000,t13),(3001,t13),(5000,t14),(5001,t14)]⟩,[((.exit 2),⟨[(2,(.bp 2 0 0)),(4,(.bp 4 0 0)),(3999,(.hd 2)),(5999,(.hd 2))],[(8,t14),(3000,t13),(3001,t13),(5000,t14),(5001,t14)]⟩)],λ k x=>As k x.1 x.2.1 x.2.2.1 x.2.2.2.1 x.2.2.2.2.1 x.2.2.2.2.2.1 x.2.2.2.2.2.2.1 x.2.2.2.2.2.2.2.1 x.2.2.2.2.2.2.2.2⟩
def Fk.p:LF:=⟨⟨[(2,(.bp 2 0 0)),(4,(.bp 4 0 0)),(3999,(.hd 2)),(5999,(.hd 2))],[(1,t1),(5,t0),(23,t14),(24,(.i .i64)),(25,(.i .i64)),(3000,t13),(3001,t13),(5000,t14),(5001,t14)]⟩,[((.exit 0),⟨[(2,(.bp 2 0 0)),(4,(.bp 4 0 0)),(3999,(.hd 2)),(5999,(.hd 2))],[(1,t1),(5,t0),(3000,t13),(3001,t13),(5000,t14),(5001,t14)]⟩)],λ k x=>Fk k x.1 x.2.1 x.2.2.1 x.2.2.2.1 x.2.2.2.2.1 x.2.2.2.2.2.1 x.2.2.2.2.2.2.1 x.2.2.2.2.2.2.2.1 x.2.2.2.2.2.2.2.2⟩
def Cn.d:Fd := { nt:=78,nv:=2,nm:=[0,1,2,3,5,6,7,8,9,10,11,12],res:=[],cs:=λ k=>[(105,Av.e k),(141,Fb.e k),(155,A4.e k),(174,Hb.e k),(203,B5.e k)],ls:=[(11,As.p),(5,Fk.p)] }
def Cn.a (k:Nat):AC (Cn.d.cs k):=⟨Av.s k,Fb.s k,A4.s k,Hb.s k,B5.s k,trivial⟩
def As.s:LL Tryz.f204 Cn.d 11 As.p:=mL [] Cn.a trivial
def Fk.s:LL Tryz.f204 Cn.d 5 Fk.p:=mL [] Cn.a trivial
def Cn.s (k:Nat):CK 204 (Cn.e k):=mS Cn.d k [5,11] Tryz.func204 (Cn.a k) ⟨Fk.s,As.s,trivial⟩
def I4.e (k:Nat):Ent:=⟨2,[(.val true t40),(.val false t1)],[(.agg,t41)],λ x=>I4 k x.1 x.2⟩
def I4.d:Fd := { nt:=16,nv:=2,nm:=[0,1,2,3,5],res:=[],cs:=λ k=>[(47,Bh.e k),(91,Aq.e k),(204,Cn.e k)],mv:=[15],rf:=true }
def I4.s (k:Nat):CK 156 (I4.e k):=mS I4.d k [] Tryz.func156 ⟨Bh.s k,Aq.s k,Cn.s k,trivial⟩ trivial
def Ln.e (k:Nat):Ent:=⟨3,[(.val true t27),(.val false .s),(.val false (.i .i64))],[(.agg,t30),(.one,.b)],λ x=>Ln k x.1 x.2.1 x.2.2⟩
def Ln.d:Fd := { nt:=95,nv:=3,nm:=[0,1,2,3,4,5,8,9,10,11],res:=[7],cs:=λ k=>[(105,Av.e k),(155,J8.e k),(174,Hb.e k)],mv:=[45,94],rf:=true }
def Ln.s (k:Nat):CK 205 (Ln.e k):=mS Ln.d k [] Tryz.func205 ⟨Av.s k,J8.s k,Hb.s k,trivial⟩ trivial
def Kh.e (k:Nat):Ent:=⟨3,[(.val true t40),(.val false .s),(.val false (.i .i64))],[(.agg,t42),(.one,.b)],λ x=>Kh k x.1 x.2.1 x.2.2⟩
def Kh.d:Fd := { nt:=42,nv:=3,nm:=[0,1,2,3,4,5,8,9,10,11,12],res:=[7],cs:=λ k=>[(47,Bh.e k),(60,M2.e k),(91,Aq.e k),(205,Ln.e k)],mv:=[29,40],rf:=true }
def Kh.s (k:Nat):CK 157 (Kh.e k):=mS Kh.d k [] Tryz.func157 ⟨Bh.s k,M2.s k,Aq.s k,Ln.s k,trivial⟩ trivial
def Fy.e (k:Nat):Ent:=⟨2,[(.val true t17),(.val false t22)],[(.one,.b)],λ x=>Fy k x.1 x.2⟩
def Ge.p:LF:=⟨⟨[(2,(.bp 2 0 0)),(3999,(.hd 2))],[(31,t10),(32,(.i .i64)),(33,(.i .i64)),(3000,t17)]⟩,[(.ret,⟨[],[(4,.b)]⟩),((.exit 0),⟨[],[]⟩)],λ k x=>Ge k x.1 x.2.1 x.2.2.1 x.2.2.2⟩
def Fy.d:Fd := { nt:=50,nv:=2,nm:=[0,1,2,3,5,6],res:=[4],cs:=λ k=>[(74,Cd.e k),(100,D6.e k),(101,Ha.e k)],ls:=[(4,Ge.p)],rf:=true }
def Fy.a (k:Nat):AC (Fy.d.cs k):=⟨Cd.s k,D6.s k,Ha.s k,trivial⟩
def Ge.s:LL Tryz.f245 Fy.d 4 Ge.p:=mL [] Fy.a trivial
def Fy.s (k:Nat):CK 245 (Fy.e k):=mS Fy.d k [4] Tryz.func245 (Fy.a k) ⟨Ge.s,trivial⟩
def L9.e (k:Nat):Ent:=⟨2,[(.val true t6),(.val false t22)],[(.one,(.i .i64))],λ x=>L9 k x.1 x.2⟩
def Ki.p:LF:=⟨⟨[],[(1,t22),(10,t6),(11,(.i .i64)),(12,(.i .i64))]⟩,[(.ret,⟨[],[(4,(.i .i64))]⟩),((.exit 0),⟨[],[]⟩)],λ k x=>Ki k x.1 x.2.1 x.2.2.1 x.2.2.2⟩
def L9.d:Fd := { nt:=27,nv:=2,nm:=[0,1,2,3,5,6,7,8],res:=[4],cs:=λ k=>[(102,F9.e k)],ls:=[(2,Ki.p)],rf:=true }
def L9.a (k:Nat):AC (L9.d.cs k):=⟨F9.s k,trivial⟩
def Ki.s:LL Tryz.f246 L9.d 2 Ki.p:=mL [] L9.a trivial
def L9.s (k:Nat):CK 246 (L9.e k):=mS L9.d k [2] Tryz.func246 (L9.a k) ⟨Ki.s,trivial⟩
def Gf.e (k:Nat):Ent:=⟨2,[(.val true t17),(.val false (.i .i64))],[(.one,(.i .i64))],λ x=>Gf k x.1 x.2⟩
def H2.p:LF:=⟨⟨[],[(1,(.i .i64)),(5,(.i .i64)),(11,t10),(12,(.i .i64)),(13,(.i .i64)),(18,t6),(19,(.i .i64)),(20,(.i .i64))]⟩,[((.exit 2),⟨[],[(1,(.i .i64)),(5,(.i .i64)),(11,t10),(12,(.i .i64)),(13,(.i .i64))]⟩)],λ k x=>H2 k x.1 x.2.1 x.2.2.1 x.2.2.2.1 x.2.2.2.2.1 x.2.2.2.2.2.1 x.2.2.2.2.2.2.1 x.2.2.2.2.2.2.2⟩
def I5.p:LF:=⟨⟨[],[(1,(.i .i64)),(5,(.i .i64)),(11,t10),(12,(.i .i64)),(13,(.i .i64))]⟩,[((.exit 0),⟨[],[(5,(.i .i64))]⟩)],λ k x=>I5 k x.1 x.2.1 x.2.2.1 x.2.2.2.1 x.2.2.2.2⟩
def Gf.d:Fd := { nt:=32,nv:=2,nm:=[0,1,2,3,5,6,7,8,9],res:=[4],ls:=[(6,H2.p),(3,I5.p)],rf:=true }
def H2.s:LL Tryz.f261 Gf.d 6 H2.p:=mL [] (λ _=>trivial) trivial
def I5.s:LL Tryz.f261 Gf.d 3 I5.p:=mL [6] (λ _=>trivial) ⟨H2.s,trivial⟩
def Gf.s (k:Nat):CK 261 (Gf.e k):=mS Gf.d k [3] Tryz.func261 trivial ⟨I5.s,trivial⟩
def Jc.e (k:Nat):Ent:=⟨3,[(.val true t17),(.val true t6),(.val false t22)],[(.one,(.i .i64))],λ x=>Jc k x.1 x.2.1 x.2.2⟩
def C1.p:LF:=⟨⟨[(3,(.bp 3 0 0)),(4,(.bp 4 0 0)),(8,(.bp 8 0 0)),(4999,(.hd 2)),(5999,(.hd 1)),(9999,(.hd 3))],[(7,t7),(9,(.i .i64)),(10,.b),(23,t22),(24,(.i .i64)),(25,(.i .i64)),(4000,t17),(5000,t6),(9000,t16)]⟩,[((.exit 0),⟨[(8,(.bp 8 0 0)),(9999,(.hd 3))],[(9000,t16)]⟩)],λ k x=>C1 k x.1 x.2.1 x.2.2.1 x.2.2.2.1 x.2.2.2.2.1 x.2.2.2.2.2.1 x.2.2.2.2.2.2.1 x.2.2.2.2.2.2.2.1 x.2.2.2.2.2.2.2.2⟩
def Jc.d:Fd := { nt:=76,nv:=3,nm:=[0,1,2,3,4,5,7,8,9,10,11,12,13,14],res:=[6],cs:=λ k=>[(100,D6.e k),(145,Bx.e k),(224,Dl.e k),(261,Gf.e k)],ls:=[(6,C1.p)],rf:=true }
def Jc.a (k:Nat):AC (Jc.d.cs k):=⟨D6.s k,Bx.s k,Dl.s k,Gf.s k,trivial⟩
def C1.s:LL Tryz.f247 Jc.d 6 C1.p:=mL [] Jc.a trivial
def Jc.s (k:Nat):CK 247 (Jc.e k):=mS Jc.d k [6] Tryz.func247 (Jc.a k) ⟨C1.s,trivial⟩
def Jo.e (k:Nat):Ent:=⟨3,[(.val true t17),(.val true t6),(.val false t22)],[(.one,(.i .i64)),(.one,(.i .i64))],λ x=>Jo k x.1 x.2.1 x.2.2⟩
def Hc.p:LF:=⟨⟨[(3,(.bp 3 0 0)),(9,(.bp 9 0 0)),(4999,(.hd 2)),(10999,(.hd 3))],[(2,t22),(8,(.i .i64)),(10,.b),(26,t6),(27,(.i .i64)),(28,(.i .i64)),(4000,t17),(10000,t16)]⟩,[(.ret,⟨[],[(6,(.i .i64)),(7,(.i .i64))]⟩),((.exit 0),⟨[],[]⟩)],λ k x=>Hc k x.1 x.2.1 x.2.2.1 x.2.2.2.1 x.2.2.2.2.1 x.2.2.2.2.2.1 x.2.2.2.2.2.2.1 x.2.2.2.2.2.2.2⟩
def Jo.d:Fd := { nt:=60,nv:=3,nm:=[0,1,2,3,4,5,8,9,10,11,12,13,14],res:=[6,7],cs:=λ k=>[(102,F9.e k),(247,Jc.e k),(261,Gf.e k)],ls:=[(4,Hc.p)],rf:=true }
def Jo.a (k:Nat):AC (Jo.d.cs k):=⟨F9.s k,Jc.s k,Gf.s k,trivial⟩
def Hc.s:LL Tryz.f248 Jo.d 4 Hc.p:=mL [] Jo.a trivial
def Jo.s (k:Nat):CK 248 (Jo.e k):=mS Jo.d k [4] Tryz.func248 (Jo.a k) ⟨Hc.s,trivial⟩
def Cw.e (k:Nat):Ent:=⟨2,[(.val true t17),(.val false t22)],[(.agg,t19),(.one,(.i .i64))],λ x=>Cw k x.1 x.2⟩
def Bc.p:LF:=⟨⟨[(4,(.bp 4 0 0)),(6,(.bp 6 0 0)),(5999,(.hd 2)),(7999,(.hd 2))],[(1,t22),(7,(.i .i64)),(22,(.i .i64)),(23,(.i .i64)),(5000,t18),(7000,t19)]⟩,[((.exit 0),⟨[(4,(.bp 4 0 0)),(6,(.bp 6 0 0)),(5999,(.hd 2)),(7999,(.hd 2))],[(7,(.i .i64)),(5000,t18),(7000,t19)]⟩)],λ k x=>Bc k x.1 x.2.1 x.2.2.1 x.2.2.2.1 x.2.2.2.2.1 x.2.2.2.2.2⟩
def Cw.d:Fd := { nt:=75,nv:=2,nm:=[0,1,2,3,6,7,8,9,10,11,12],res:=[5],cs:=λ k=>[(90,Dj.e k),(154,C7.e k),(245,Fy.e k),(246,L9.e k),(247,Jc.e k),(248,Jo.e k)],ls:=[(6,Bc.p)],mv:=[19,73],rf:=true }
def Cw.a (k:Nat):AC (Cw.d.cs k):=⟨Dj.s k,C7.s k,Fy.s k,L9.s k,Jc.s k,Jo.s k,trivial⟩
def Bc.s:LL Tryz.f206 Cw.d 6 Bc.p:=mL [] Cw.a trivial
def Cw.s (k:Nat):CK 206 (Cw.e k):=mS Cw.d k [6] Tryz.func206 (Cw.a k) ⟨Bc.s,trivial⟩
def Dp.e (k:Nat):Ent:=⟨3,[(.ptr t48 t48),(.val false (.i .i64)),(.val false (.i .i64))],[(.one,.b)],λ x=>Dp k x.1 x.2.1 x.2.2⟩
def Dp.d:Fd := { nt:=33,nv:=3,nm:=[0,1,2,3,4,5],res:=[6],cs:=λ k=>[(74,Cd.e k),(206,Cw.e k)],rf:=true }
def Dp.s (k:Nat):CK 158 (Dp.e k):=mS Dp.d k [] Tryz.func158 ⟨Cd.s k,Cw.s k,trivial⟩ trivial
def B4.e (k:Nat):Ent:=⟨2,[(.ptr t48 t48),(.val true t34)],[(.one,.b)],λ x=>B4 k x.1 x.2⟩
def Bo.p:LF:=⟨⟨[(0,(.bp 0 0 0)),(1999,(.hd 9))],[(5,(.i .i64)),(6,t3),(69,t6),(70,(.i .i64)),(71,(.i .i64)),(1000,t48)]⟩,[((.exit 1),⟨[(0,(.bp 0 0 0)),(1999,(.hd 9))],[(5,(.i .i64)),(6,t3),(1000,t48)]⟩)],λ k x=>Bo k x.1 x.2.1 x.2.2.1 x.2.2.2.1 x.2.2.2.2.1 x.2.2.2.2.2⟩
def B4.d:Fd := { nt:=139,nv:=2,nm:=[0,1,2,3,5,6,7,8,9,10],res:=[4],cs:=λ k=>[(74,Cd.e k),(133,I3.e k),(134,Al.e k),(135,C4.e k),(136,C0.e k),(141,Fb.e k),(156,I4.e k),(157,Kh.e k),(158,Dp.e k)],ls:=[(17,Bo.p)],rf:=true }
def B4.a (k:Nat):AC (B4.d.cs k):=⟨Cd.s k,I3.s k,Al.s k,C4.s k,C0.s k,Fb.s k,I4.s k,Kh.s k,Dp.s k,trivial⟩
def Bo.s:LL Tryz.f93 B4.d 17 Bo.p:=mL [] B4.a trivial
def B4.s (k:Nat):CK 93 (B4.e k):=mS B4.d k [17] Tryz.func93 (B4.a k) ⟨Bo.s,trivial⟩
def Gg.e (k:Nat):Ent:=⟨2,[(.ptr t48 t48),(.val true t34)],[(.one,.b)],λ x=>Gg k x.1 x.2⟩
def Gg.d:Fd := { nt:=42,nv:=2,nm:=[0,1,2,3,5],res:=[4],cs:=λ k=>[(69,Cg.e k),(70,Aj.e k),(93,B4.e k)],rf:=true }
def Gg.s (k:Nat):CK 41 (Gg.e k):=mS Gg.d k [] Tryz.func41 ⟨Cg.s k,Aj.s k,B4.s k,trivial⟩ trivial
def Of.e (k:Nat):Ent:=⟨2,[(.val true t46),(.val true t34)],[(.agg,t48),(.one,.b)],λ x=>Of k x.1 x.2⟩
def Of.d:Fd := { nt:=20,nv:=2,nm:=[0,1,2,3,6],res:=[5],cs:=λ k=>[(13,Cb.e k),(40,Aw.e k),(41,Gg.e k)],mv:=[19],rf:=true }
def Of.s (k:Nat):CK 11 (Of.e k):=mS Of.d k [] Tryz.func11 ⟨Cb.s k,Aw.s k,Gg.s k,trivial⟩ trivial
def Lx.e (k:Nat):Ent:=⟨1,[(.val false t4)],[(.ptr,t21)],λ x=>Lx k x⟩
def Jd.p:LF:=⟨⟨[],[(0,t4),(3,(.i .i64)),(4,(.i .i64))]⟩,[((.exit 0),⟨[],[(0,t4),(3,(.i .i64))]⟩)],λ k x=>Jd k x.1 x.2.1 x.2.2⟩
def Lx.d:Fd := { nt:=32,nv:=1,nm:=[0,1,3,4],res:=[2],ls:=[(3,Jd.p)] }
def Jd.s:LL Tryz.f34 Lx.d 3 Jd.p:=mL [] (λ _=>trivial) trivial
def Lx.s (k:Nat):CK 34 (Lx.e k):=mS Lx.d k [3] Tryz.func34 trivial ⟨Jd.s,trivial⟩
def Lo.e (k:Nat):Ent:=⟨2,[(.val false t4),(.val false (.i .i64))],[(.one,(.i .i64))],λ x=>Lo x.1 x.2⟩
def Lo.d:Fd := { nt:=15,nv:=2,nm:=[0,1,2,3,5],res:=[4],rf:=true }
def Lo.s (k:Nat):CK 36 (Lo.e k):=mS Lo.d k [] Tryz.func36 trivial trivial
def Gi.e (k:Nat):Ent:=⟨1,[(.ptr t21 t21)],[(.one,(.i .i64))],λ x=>Gi x⟩
def Gi.d:Fd := { nt:=58,nv:=1,nm:=[0,1,3],res:=[2] }
def Gi.s (k:Nat):CK 85 (Gi.e k):=mS Gi.d k [] Tryz.func85 trivial trivial
def A8.e (k:Nat):Ent:=⟨2,[(.ptr t21 t21),(.val false (.i .i64))],[(.one,(.i .i64))],λ x=>A8 x.1 x.2⟩
def A8.d:Fd := { nt:=31,nv:=2,nm:=[0,1,2,3,5,6,7],res:=[4],cs:=λ k=>[(85,Gi.e k)] }
def A8.s (k:Nat):CK 37 (A8.e k):=mS A8.d k [] Tryz.func37 ⟨Gi.s k,trivial⟩ trivial
def C6.e (k:Nat):Ent:=⟨2,[(.ptr t21 t21),(.val false t6)],[(.one,(.i .i64))],λ x=>C6 x.1 x.2⟩
def C6.d:Fd := { nt:=12,nv:=2,nm:=[0,1,2,3],res:=[4],cs:=λ k=>[(37,A8.e k)] }
def C6.s (k:Nat):CK 39 (C6.e k):=mS C6.d k [] Tryz.func39 ⟨A8.s k,trivial⟩ trivial
def Mf.e (k:Nat):Ent:=⟨2,[(.ptr t21 t21),(.val false t0)],[(.one,.s)],λ x=>Mf x.1 x.2⟩
def Mf.d:Fd := { nt:=12,nv:=2,nm:=[0,1,2,3],res:=[4],cs:=λ k=>[(37,A8.e k)] }
def Mf.s (k:Nat):CK 115 (Mf.e k):=mS Mf.d k [] Tryz.func115 ⟨A8.s k,trivial⟩ trivial
def Lq.e (k:Nat):Ent:=⟨1,[(.ptr t21 t21)],[(.one,.s)],λ x=>Lq x⟩
def Lq.d:Fd := { nt:=6,nv:=1,nm:=[0,1],res:=[2],cs:=λ k=>[(115,Mf.e k)] }
def Lq.s (k:Nat):CK 86 (Lq.e k):=mS Lq.d k [] Tryz.func86 ⟨Mf.s k,trivial⟩ trivial
def F7.e (k:Nat):Ent:=⟨1,[(.ptr t21 t21)],[(.one,t7)],λ x=>F7 k x⟩
def Gj.p:LF:=⟨⟨[(0,(.bp 0 0 0)),(1999,(.hd 3))],[(3,t7),(4,(.i .i64)),(1000,t21)]⟩,[((.exit 0),⟨[(1999,(.hd 3))],[(3,t7),(1000,t21)]⟩)],λ k x=>Gj k x.1 x.2.1 x.2.2⟩
def F7.d:Fd := { nt:=17,nv:=1,nm:=[0,1,3,4],res:=[2],cs:=λ k=>[(39,C6.e k)],ls:=[(3,Gj.p)],rf:=true }
def F7.a (k:Nat):AC (F7.d.cs k):=⟨C6.s k,trivial⟩
def Gj.s:LL Tryz.f87 F7.d 3 Gj.p:=mL [] F7.a trivial
def F7.s (k:Nat):CK 87 (F7.e k):=mS F7.d k [3] Tryz.func87 (F7.a k) ⟨Gj.s,trivial⟩
def Gl.e (k:Nat):Ent:=⟨2,[(.ptr t21 t21),(.val false (.i .i64))],[(.one,t5)],λ x=>Gl k x.1 x.2⟩
def Gk.p:LF:=⟨⟨[(0,(.bp 0 0 0)),(1999,(.hd 3))],[(1,(.i .i64)),(5,t5),(6,(.i .i64)),(1000,t4),(1001,(.i .i64)),(1002,(.i .i64))]⟩,[((.exit 0),⟨[(1999,(.hd 3))],[(5,t5),(1000,t4),(1001,(.i .i64)),(1002,(.i .i64))]⟩)],λ k x=>Gk k x.1 x.2.1 x.2.2.1 x.2.2.2.1 x.2.2.2.2.1 x.2.2.2.2.2⟩
def Gl.d:Fd := { nt:=20,nv:=2,nm:=[0,1,2,3,5,6],res:=[4],cs:=λ k=>[(85,Gi.e k)],ls:=[(3,Gk.p)] }
def Gl.a (k:Nat):AC (Gl.d.cs k):=⟨Gi.s k,trivial⟩
def Gk.s:LL Tryz.f150 Gl.d 3 Gk.p:=mL [] Gl.a trivial
def Gl.s (k:Nat):CK 150 (Gl.e k):=mS Gl.d k [3] Tryz.func150 (Gl.a k) ⟨Gk.s,trivial⟩
def Gn.e (k:Nat):Ent:=⟨1,[(.ptr t21 t21)],[(.one,t5)],λ x=>Gn k x⟩
def Gn.d:Fd := { nt:=8,nv:=1,nm:=[0,1],res:=[2],cs:=λ k=>[(39,C6.e k),(150,Gl.e k)] }
def Gn.s (k:Nat):CK 88 (Gn.e k):=mS Gn.d k [] Tryz.func88 ⟨C6.s k,Gl.s k,trivial⟩ trivial
def A9.e (k:Nat):Ent:=⟨3,[(.val false (.i .i64)),(.val false (.i .i64)),(.val false (.i .i64))],[(.one,.b)],λ x=>A9 x.1 x.2.1 x.2.2⟩
def A9.d:Fd := { nt:=15,nv:=3,nm:=[0,1,2,3,4,5],res:=[6] }
def A9.s (k:Nat):CK 97 (A9.e k):=mS A9.d k [] Tryz.func97 trivial trivial
def Dx.e (k:Nat):Ent:=⟨1,[(.val true t16)],[(.one,.b)],λ x=>Dx x⟩
def Dx.d:Fd := { nt:=16,nv:=1,nm:=[0,1],res:=[2],cs:=λ k=>[(97,A9.e k)] }
def Dx.s (k:Nat):CK 77 (Dx.e k):=mS Dx.d k [] Tryz.func77 ⟨A9.s k,trivial⟩ trivial
def Gp.e (k:Nat):Ent:=⟨1,[(.val true t25)],[(.one,.b)],λ x=>Gp x⟩
def Gp.d:Fd := { nt:=23,nv:=1,nm:=[0,1],res:=[2],cs:=λ k=>[(77,Dx.e k)] }
def Gp.s (k:Nat):CK 78 (Gp.e k):=mS Gp.d k [] Tryz.func78 ⟨Dx.s k,trivial⟩ trivial
def Ek.e (k:Nat):Ent:=⟨2,[(.val false t4),(.val false (.i .i64))],[(.one,(.i .i64)),(.one,(.i .i64)),(.one,.b)],λ x=>Ek k x.1 x.2⟩
def Fw.p:LF:=⟨⟨[],[(0,t4),(1,(.i .i64)),(7,(.i .i64)),(8,(.i .i64))]⟩,[(.ret,⟨[],[(4,(.i .i64)),(5,(.i .i64)),(6,.b)]⟩),((.exit 0),⟨[],[]⟩)],λ k x=>Fw k x.1 x.2.1 x.2.2.1 x.2.2.2⟩
def Ek.d:Fd := { nt:=64,nv:=2,nm:=[0,1,2,3,7,8,9],res:=[4,5,6],ls:=[(3,Fw.p)] }
def Fw.s:LL Tryz.f200 Ek.d 3 Fw.p:=mL [] (λ _=>trivial) trivial
def Ek.s (k:Nat):CK 200 (Ek.e k):=mS Ek.d k [3] Tryz.func200 trivial ⟨Fw.s,trivial⟩
def Gq.e (k:Nat):Ent:=⟨2,[(.val false t4),(.val false (.i .i64))],[(.agg,t16),(.one,(.i .i64)),(.one,.b)],λ x=>Gq k x.1 x.2⟩
def Gq.d:Fd := { nt:=49,nv:=2,nm:=[0,1,2,3,7,8,9,10,11,12,13,14,15],res:=[5,6],cs:=λ k=>[(200,Ek.e k)] }
def Gq.s (k:Nat):CK 199 (Gq.e k):=mS Gq.d k [] Tryz.func199 ⟨Ek.s k,trivial⟩ trivial
def Kj.e (k:Nat):Ent:=⟨2,[(.val false t4),(.val false (.i .i64))],[(.one,.s),(.one,(.i .i64)),(.one,.b)],λ x=>Kj k x.1 x.2⟩
def Kj.d:Fd := { nt:=37,nv:=2,nm:=[0,1,2,3,7,8,9],res:=[4,5,6],cs:=λ k=>[(200,Ek.e k)] }
def Kj.s (k:Nat):CK 201 (Kj.e k):=mS Kj.d k [] Tryz.func201 ⟨Ek.s k,trivial⟩ trivial
def El.e (k:Nat):Ent:=⟨2,[(.val false t4),(.val false (.i .i64))],[(.one,t5)],λ x=>El k x.1 x.2⟩
def Dt.p:LF:=⟨⟨[],[(1,(.i .i64)),(5,t5)]⟩,[((.exit 0),⟨[],[(1,(.i .i64)),(5,t5)]⟩)],λ k x=>Dt k x.1 x.2⟩
def El.d:Fd := { nt:=29,nv:=2,nm:=[0,1,2,3,5],res:=[4],ls:=[(6,Dt.p)] }
def Dt.s:LL Tryz.f241 El.d 6 Dt.p:=mL [] (λ _=>trivial) trivial
def El.s (k:Nat):CK 241 (El.e k):=mS El.d k [6] Tryz.func241 trivial ⟨Dt.s,trivial⟩
def Kk.e (k:Nat):Ent:=⟨2,[(.val false t4),(.val false .s)],[(.one,t5)],λ x=>Kk k x.1 x.2⟩
def Kk.d:Fd := { nt:=11,nv:=2,nm:=[0,1,2,3],res:=[4],cs:=λ k=>[(241,El.e k)] }
def Kk.s (k:Nat):CK 240 (Kk.e k):=mS Kk.d k [] Tryz.func240 ⟨El.s k,trivial⟩ trivial
def Kl.e (k:Nat):Ent:=⟨2,[(.val false t4),(.val true t16)],[(.one,t5)],λ x=>Kl k x.1 x.2⟩
def Kl.d:Fd := { nt:=15,nv:=2,nm:=[0,1,2,3],res:=[4],cs:=λ k=>[(241,El.e k)] }
def Kl.s (k:Nat):CK 242 (Kl.e k):=mS Kl.d k [] Tryz.func242 ⟨El.s k,trivial⟩ trivial
def M6.e (k:Nat):Ent:=⟨1,[(.val false .b)],[(.one,(.i .i64))],λ x=>M6 x⟩
def M6.d:Fd := { nt:=4,nv:=1,nm:=[0,1],res:=[2] }
def M6.s (k:Nat):CK 243 (M6.e k):=mS M6.d k [] Tryz.func243 trivial trivial
def Ng.e (k:Nat):Ent:=⟨1,[(.val false t4)],[(.one,(.i .i64))],λ x=>Ng k x⟩
def L6.p:LF:=⟨⟨[],[(0,t4),(3,(.i .i64)),(4,(.i .i64)),(5,(.i .i64))]⟩,[((.exit 2),⟨[],[(0,t4),(3,(.i .i64)),(4,(.i .i64))]⟩)],λ k x=>L6 k x.1 x.2.1 x.2.2.1 x.2.2.2⟩
def Lr.p:LF:=⟨⟨[],[(0,t4),(3,(.i .i64)),(4,(.i .i64))]⟩,[((.exit 0),⟨[],[(3,(.i .i64))]⟩)],λ k x=>Lr k x.1 x.2.1 x.2.2⟩
def Ng.d:Fd := { nt:=34,nv:=1,nm:=[0,1,3,4,5,6],res:=[2],ls:=[(7,L6.p),(3,Lr.p)] }
def L6.s:LL Tryz.f244 Ng.d 7 L6.p:=mL [] (λ _=>trivial) trivial
def Lr.s:LL Tryz.f244 Ng.d 3 Lr.p:=mL [7] (λ _=>trivial) ⟨L6.s,trivial⟩
def Ng.s (k:Nat):CK 244 (Ng.e k):=mS Ng.d k [3] Tryz.func244 trivial ⟨Lr.s,trivial⟩
def Fz.e (k:Nat):Ent:=⟨1,[(.val true t25)],[(.one,t5)],λ x=>Fz k x⟩
def Fz.d:Fd := { nt:=37,nv:=1,nm:=[0,1,3,4],res:=[2],cs:=λ k=>[(78,Gp.e k),(240,Kk.e k),(241,El.e k),(242,Kl.e k),(243,M6.e k),(244,Ng.e k)] }
def Fz.s (k:Nat):CK 202 (Fz.e k):=mS Fz.d k [] Tryz.func202 ⟨Gp.s k,Kk.s k,El.s k,Kl.s k,M6.s k,Ng.s k,trivial⟩ trivial
def Hq.e (k:Nat):Ent:=⟨1,[(.val false t4)],[(.agg,t26),(.one,.b)],λ x=>Hq k x⟩
def Hq.d:Fd := { nt:=76,nv:=1,nm:=[0,1,4,5,6,7,8,9,10,11,12,13],res:=[3],cs:=λ k=>[(78,Gp.e k),(199,Gq.e k),(200,Ek.e k),(201,Kj.e k),(202,Fz.e k)],mv:=[75] }
def Hq.s (k:Nat):CK 151 (Hq.e k):=mS Hq.d k [] Tryz.func151 ⟨Gp.s k,Gq.s k,Ek.s k,Kj.s k,Fz.s k,trivial⟩ trivial
def Iv.e (k:Nat):Ent:=⟨2,[(.val false t0),(.val false .s)],[(.one,.b)],λ x=>Iv k x.1 x.2⟩
def I6.p:LF:=⟨⟨[],[(0,t0),(1,.s),(5,(.i .i64))]⟩,[(.ret,⟨[],[(4,.b)]⟩),((.exit 0),⟨[],[]⟩)],λ k x=>I6 k x.1 x.2.1 x.2.2⟩
def Iv.d:Fd := { nt:=18,nv:=2,nm:=[0,1,2,3,5],res:=[4],ls:=[(2,I6.p)],rf:=true }
def I6.s:LL Tryz.f152 Iv.d 2 I6.p:=mL [] (λ _=>trivial) trivial
def Iv.s (k:Nat):CK 152 (Iv.e k):=mS Iv.d k [2] Tryz.func152 trivial ⟨I6.s,trivial⟩
def Dw.e (k:Nat):Ent:=⟨2,[(.val false t13),(.val false .s)],[(.one,(.i .i64))],λ x=>Dw k x.1 x.2⟩
def Km.p:LF:=⟨⟨[],[(0,t13),(1,.s),(5,(.i .i64))]⟩,[(.ret,⟨[],[(4,(.i .i64))]⟩),((.exit 0),⟨[],[]⟩)],λ k x=>Km k x.1 x.2.1 x.2.2⟩
def Dw.d:Fd := { nt:=20,nv:=2,nm:=[0,1,2,3,5],res:=[4],ls:=[(2,Km.p)] }
def Km.s:LL Tryz.f153 Dw.d 2 Km.p:=mL [] (λ _=>trivial) trivial
def Dw.s (k:Nat):CK 153 (Dw.e k):=mS Dw.d k [2] Tryz.func153 trivial ⟨Km.s,trivial⟩
def Hi.e (k:Nat):Ent:=⟨1,[(.val true t27)],[(.one,t2)],λ x=>Hi k x⟩
def Ko.p:LF:=⟨⟨[(1,(.bp 1 0 0)),(2999,(.hd 2))],[(3,t2),(4,(.i .i64)),(7,(.i .i64)),(2000,t27)]⟩,[((.exit 2),⟨[(1,(.bp 1 0 0)),(2999,(.hd 2))],[(3,t2),(4,(.i .i64)),(7,(.i .i64)),(2000,t27)]⟩)],λ k x=>Ko k x.1 x.2.1 x.2.2.1 x.2.2.2⟩
def Hr.p:LF:=⟨⟨[(1,(.bp 1 0 0)),(2999,(.hd 2))],[(3,t2),(4,(.i .i64)),(2000,t27)]⟩,[((.exit 0),⟨[],[(3,t2)]⟩)],λ k x=>Hr k x.1 x.2.1 x.2.2⟩
def Hi.d:Fd := { nt:=98,nv:=1,nm:=[0,1,3,4,5,6,7],res:=[2],cs:=λ k=>[(151,Hq.e k),(152,Iv.e k),(153,Dw.e k)],ls:=[(9,Ko.p),(3,Hr.p)],rf:=true }
def Hi.a (k:Nat):AC (Hi.d.cs k):=⟨Hq.s k,Iv.s k,Dw.s k,trivial⟩
def Ko.s:LL Tryz.f89 Hi.d 9 Ko.p:=mL [] Hi.a trivial
def Hr.s:LL Tryz.f89 Hi.d 3 Hr.p:=mL [9] Hi.a ⟨Ko.s,trivial⟩
def Hi.s (k:Nat):CK 89 (Hi.e k):=mS Hi.d k [3] Tryz.func89 (Hi.a k) ⟨Hr.s,trivial⟩
def Jy.e (k:Nat):Ent:=⟨1,[(.val true t17)],[(.agg,t18)],λ x=>Jy k x⟩
def H3.p:LF:=⟨⟨[(1,(.bp 1 0 0)),(2,(.bp 2 0 0)),(3,(.bp 3 0 0)),(2999,(.hd 2)),(3999,(.hd 2)),(4999,(.hd 2))],[(4,(.i .i64)),(2000,t17),(3000,t18),(4000,t18)]⟩,[((.exit 0),⟨[(2,(.bp 2 0 0)),(3,(.bp 3 0 0)),(3999,(.hd 2)),(4999,(.hd 2))],[(3000,t18),(4000,t18)]⟩)],λ k x=>H3 k x.1 x.2.1 x.2.2.1 x.2.2.2⟩
def Jy.d:Fd := { nt:=30,nv:=1,nm:=[0,1,3,4],res:=[],ls:=[(3,H3.p)],mv:=[29],rf:=true }
def H3.s:LL Tryz.f94 Jy.d 3 H3.p:=mL [] (λ _=>trivial) trivial
def Jy.s (k:Nat):CK 94 (Jy.e k):=mS Jy.d k [3] Tryz.func94 trivial ⟨H3.s,trivial⟩
def K7.e (k:Nat):Ent:=⟨1,[(.val true t17)],[(.agg,t19)],λ x=>K7 k x⟩
def Ly.p:LF:=⟨⟨[(1,(.bp 1 0 0)),(2,(.bp 2 0 0)),(3,(.bp 3 0 0)),(2999,(.hd 2)),(3999,(.hd 2)),(4999,(.hd 2))],[(4,(.i .i64)),(2000,t17),(3000,t18),(4000,t19)]⟩,[((.exit 0),⟨[(2,(.bp 2 0 0)),(3,(.bp 3 0 0)),(3999,(.hd 2)),(4999,(.hd 2))],[(3000,t18),(4000,t19)]⟩)],λ k x=>Ly k x.1 x.2.1 x.2.2.1 x.2.2.2⟩
def K7.d:Fd := { nt:=30,nv:=1,nm:=[0,1,3,4],res:=[],ls:=[(3,Ly.p)],hint:=[(26,t7),(27,t7)],mv:=[29],rf:=true }
def Ly.s:LL Tryz.f94 K7.d 3 Ly.p:=mL [] (λ _=>trivial) trivial
def K7.s (k:Nat):CK 94 (K7.e k):=mS K7.d k [3] Tryz.func94 trivial ⟨Ly.s,trivial⟩
def Bp.e (k:Nat):Ent:=⟨1,[(.val false t13)],[(.one,t14)],λ x=>Bp k x⟩
def Ch.p:LF:=⟨⟨[],[(0,t13),(3,t14),(4,(.i .i64))]⟩,[((.exit 0),⟨[],[(3,t14)]⟩)],λ k x=>Ch k x.1 x.2.1 x.2.2⟩
def Bp.d:Fd := { nt:=29,nv:=1,nm:=[0,1,3,4],res:=[2],ls:=[(3,Ch.p)] }
def Ch.s:LL Tryz.f207 Bp.d 3 Ch.p:=mL [] (λ _=>trivial) trivial
def Bp.s (k:Nat):CK 207 (Bp.e k):=mS Bp.d k [3] Tryz.func207 trivial ⟨Ch.s,trivial⟩
def Hd.e (k:Nat):Ent:=⟨1,[(.val false t13)],[(.one,t15)],λ x=>Hd k x⟩
def Jp.p:LF:=⟨⟨[],[(0,t13),(3,t15),(4,(.i .i64))]⟩,[((.exit 0),⟨[],[(3,t15)]⟩)],λ k x=>Jp k x.1 x.2.1 x.2.2⟩
def Hd.d:Fd := { nt:=29,nv:=1,nm:=[0,1,3,4],res:=[2],ls:=[(3,Jp.p)],hint:=[(5,t12),(26,t12),(27,t12)] }
def Jp.s:LL Tryz.f207 Hd.d 3 Jp.p:=mL [] (λ _=>trivial) trivial
def Hd.s (k:Nat):CK 207 (Hd.e k):=mS Hd.d k [3] Tryz.func207 trivial ⟨Jp.s,trivial⟩
def A6.e (k:Nat):Ent:=⟨1,[(.val true t27)],[(.agg,t29)],λ x=>A6 k x⟩
def A6.d:Fd := { nt:=10,nv:=1,nm:=[0,1],res:=[],cs:=λ k=>[(207,Bp.e k)] }
def A6.s (k:Nat):CK 159 (A6.e k):=mS A6.d k [] Tryz.func159 ⟨Bp.s k,trivial⟩ trivial
def Ld.e (k:Nat):Ent:=⟨1,[(.val true t27)],[(.agg,t30)],λ x=>Ld k x⟩
def Ld.d:Fd := { nt:=10,nv:=1,nm:=[0,1],res:=[],cs:=λ k=>[(207,Hd.e k)] }
def Ld.s (k:Nat):CK 159 (Ld.e k):=mS Ld.d k [] Tryz.func159 ⟨Hd.s k,trivial⟩ trivial
def Hs.e (k:Nat):Ent:=⟨1,[(.val true t40)],[(.agg,t41)],λ x=>Hs k x⟩
def Hs.d:Fd := { nt:=17,nv:=1,nm:=[0,1],res:=[],cs:=λ k=>[(159,A6.e k)] }
def Hs.s (k:Nat):CK 95 (Hs.e k):=mS Hs.d k [] Tryz.func95 ⟨A6.s k,trivial⟩ trivial
def Bt.e (k:Nat):Ent:=⟨1,[(.val true t25)],[(.agg,t26)],λ x=>Bt x⟩
def Bt.d:Fd := { nt:=9,nv:=1,nm:=[0,1],res:=[],mv:=[8],rf:=true }
def Bt.s (k:Nat):CK 96 (Bt.e k):=mS Bt.d k [] Tryz.func96 trivial trivial
def Dy.e (k:Nat):Ent:=⟨1,[(.val true t46)],[(.agg,t47)],λ x=>Dy k x⟩
def Gr.p:LF:=⟨⟨[(1,(.bp 1 0 0)),(2,(.bp 2 0 0)),(3,(.bp 3 0 0)),(2999,(.hd 9)),(3999,(.hd 9)),(4999,(.hd 9))],[(5,(.i .i64)),(2000,t46),(3000,t47),(4000,t47)]⟩,[((.exit 2),⟨[(2,(.bp 2 0 0)),(3,(.bp 3 0 0)),(3999,(.hd 9)),(4999,(.hd 9))],[(3000,t47),(4000,t47)]⟩)],λ k x=>Gr k x.1 x.2.1 x.2.2.1 x.2.2.2⟩
def Gt.p:LF:=⟨⟨[(1,(.bp 1 0 0)),(2,(.bp 2 0 0)),(3,(.bp 3 0 0)),(2999,(.hd 9)),(3999,(.hd 9)),(4999,(.hd 9))],[(4,(.i .i64)),(2000,t46),(3000,t47),(4000,t47)]⟩,[((.exit 0),⟨[(1,(.bp 1 0 0)),(2,(.bp 2 0 0)),(3,(.bp 3 0 0)),(2999,(.hd 9)),(3999,(.hd 9)),(4999,(.hd 9))],[(2000,t46),(3000,t47),(4000,t47)]⟩)],λ k x=>Gt k x.1 x.2.1 x.2.2.1 x.2.2.2⟩
def Dy.d:Fd := { nt:=62,nv:=1,nm:=[0,1,3,4,5,6],res:=[],cs:=λ k=>[(94,Jy.e k),(95,Hs.e k),(96,Bt.e k)],ls:=[(7,Gr.p),(3,Gt.p)],mv:=[61],rf:=true }
def Dy.a (k:Nat):AC (Dy.d.cs k):=⟨Jy.s k,Hs.s k,Bt.s k,trivial⟩
def Gr.s:LL Tryz.f42 Dy.d 7 Gr.p:=mL [] Dy.a trivial
def Gt.s:LL Tryz.f42 Dy.d 3 Gt.p:=mL [] Dy.a trivial
def Dy.s (k:Nat):CK 42 (Dy.e k):=mS Dy.d k [3,7] Tryz.func42 (Dy.a k) ⟨Gt.s,Gr.s,trivial⟩
def Bi.e (k:Nat):Ent:=⟨1,[(.val false .s)],[(.one,.b)],λ x=>Bi k x⟩
def Du.p:LF:=⟨⟨[],[(0,.s),(3,(.i .i64))]⟩,[(.ret,⟨[],[(2,.b)]⟩),((.exit 0),⟨[],[(0,.s)]⟩)],λ k x=>Du k x.1 x.2⟩
def Bi.d:Fd := { nt:=38,nv:=1,nm:=[0,1,3,4],res:=[2],cs:=λ k=>[(97,A9.e k)],ls:=[(2,Du.p)] }
def Bi.a (k:Nat):AC (Bi.d.cs k):=⟨A9.s k,trivial⟩
def Du.s:LL Tryz.f62 Bi.d 2 Du.p:=mL [] Bi.a trivial
def Bi.s (k:Nat):CK 62 (Bi.e k):=mS Bi.d k [2] Tryz.func62 (Bi.a k) ⟨Du.s,trivial⟩
def I7.e (k:Nat):Ent:=⟨3,[(.val true t16),(.val false (.i .i64)),(.val false (.i .i64))],[(.agg,t16)],λ x=>I7 x.1 x.2.1 x.2.2⟩
def I7.d:Fd := { nt:=27,nv:=3,nm:=[0,1,2,3,4,5,7],res:=[],cs:=λ k=>[(77,Dx.e k)],rf:=true }
def I7.s (k:Nat):CK 130 (I7.e k):=mS I7.d k [] Tryz.func130 ⟨Dx.s k,trivial⟩ trivial
def Bl.e (k:Nat):Ent:=⟨2,[(.val true t46),(.val false t6)],[(.one,t7)],λ x=>Bl k x.1 x.2⟩
def Ce.p:LF:=⟨⟨[(2,(.bp 2 0 0)),(3999,(.hd 9))],[(1,t6),(5,t7),(6,(.i .i64)),(7,(.i .i64)),(3000,t46)]⟩,[((.exit 2),⟨[(2,(.bp 2 0 0)),(3999,(.hd 9))],[(1,t6),(5,t7),(6,(.i .i64)),(3000,t46)]⟩)],λ k x=>Ce k x.1 x.2.1 x.2.2.1 x.2.2.2.1 x.2.2.2.2⟩
def Em.p:LF:=⟨⟨[(2,(.bp 2 0 0)),(3999,(.hd 9))],[(1,t6),(5,t7),(6,(.i .i64)),(3000,t46)]⟩,[((.exit 0),⟨[],[(5,t7)]⟩)],λ k x=>Em k x.1 x.2.1 x.2.2.1 x.2.2.2⟩
def Bl.d:Fd := { nt:=38,nv:=2,nm:=[0,1,2,3,5,6,7],res:=[4],ls:=[(6,Ce.p),(3,Em.p)],rf:=true }
def Ce.s:LL Tryz.f176 Bl.d 6 Ce.p:=mL [] (λ _=>trivial) trivial
def Em.s:LL Tryz.f176 Bl.d 3 Em.p:=mL [6] (λ _=>trivial) ⟨Ce.s,trivial⟩
def Bl.s (k:Nat):CK 176 (Bl.e k):=mS Bl.d k [3] Tryz.func176 trivial ⟨Em.s,trivial⟩
def My.e (k:Nat):Ent:=⟨1,[(.val false .s)],[(.one,(.i .i64))],λ x=>My k x⟩
def Kq.p:LF:=⟨⟨[],[(0,.s),(3,(.i .i64)),(4,(.i .i64))]⟩,[((.exit 0),⟨[],[(3,(.i .i64))]⟩)],λ k x=>Kq k x.1 x.2.1 x.2.2⟩
def My.d:Fd := { nt:=20,nv:=1,nm:=[0,1,3,4],res:=[2],ls:=[(3,Kq.p)],rf:=true }
def Kq.s:LL Tryz.f259 My.d 3 Kq.p:=mL [] (λ _=>trivial) trivial
def My.s (k:Nat):CK 259 (My.e k):=mS My.d k [3] Tryz.func259 trivial ⟨Kq.s,trivial⟩
def M7.e (k:Nat):Ent:=⟨2,[(.val false .s),(.val false (.i .i64))],[(.one,(.i .i64))],λ x=>M7 k x.1 x.2⟩
def M7.d:Fd := { nt:=11,nv:=2,nm:=[0,1,2,3],res:=[4],cs:=λ k=>[(259,My.e k)],rf:=true }
def M7.s (k:Nat):CK 225 (M7.e k):=mS M7.d k [] Tryz.func225 ⟨My.s k,trivial⟩ trivial
def Bm.e (k:Nat):Ent:=⟨2,[(.val true t17),(.val false .s)],[(.one,t7)],λ x=>Bm k x.1 x.2⟩
def Bm.d:Fd := { nt:=22,nv:=2,nm:=[0,1,2,3],res:=[4],cs:=λ k=>[(225,M7.e k)],rf:=true }
def Bm.s (k:Nat):CK 177 (Bm.e k):=mS Bm.d k [] Tryz.func177 ⟨M7.s k,trivial⟩ trivial
def Cs.e (k:Nat):Ent:=⟨2,[(.val false t6),(.val false (.i .i64))],[(.one,.b)],λ x=>Cs k x.1 x.2⟩
def Je.p:LF:=⟨⟨[],[(0,t6),(1,(.i .i64)),(5,(.i .i64))]⟩,[(.ret,⟨[],[(4,.b)]⟩),((.exit 0),⟨[],[]⟩)],λ k x=>Je k x.1 x.2.1 x.2.2⟩
def Cs.d:Fd := { nt:=18,nv:=2,nm:=[0,1,2,3,5],res:=[4],ls:=[(2,Je.p)],rf:=true }
def Je.s:LL Tryz.f190 Cs.d 2 Je.p:=mL [] (λ _=>trivial) trivial
def Cs.s (k:Nat):CK 190 (Cs.e k):=mS Cs.d k [2] Tryz.func190 trivial ⟨Je.s,trivial⟩
def He.e (k:Nat):Ent:=⟨2,[(.val false t22),(.val false (.i .i64))],[(.agg,t16),(.one,.b)],λ x=>He k x.1 x.2⟩
def Jf.p:LF:=⟨⟨[(4,(.bp 4 0 0)),(5999,(.hd 3))],[(0,t22),(1,(.i .i64)),(6,(.i .i64)),(5000,t16)]⟩,[(.ret,⟨[(4,(.bp 4 0 0)),(5999,(.hd 3))],[(5,.b),(5000,t16)]⟩),((.exit 0),⟨[(4,(.bp 4 0 0)),(5999,(.hd 3))],[(5000,t16)]⟩)],λ k x=>Jf k x.1 x.2.1 x.2.2.1 x.2.2.2⟩
def He.d:Fd := { nt:=25,nv:=2,nm:=[0,1,2,3,6],res:=[5],ls:=[(2,Jf.p)],rf:=true }
def Jf.s:LL Tryz.f139 He.d 2 Jf.p:=mL [] (λ _=>trivial) trivial
def He.s (k:Nat):CK 139 (He.e k):=mS He.d k [2] Tryz.func139 trivial ⟨Jf.s,trivial⟩
def Dq.e (k:Nat):Ent:=⟨2,[(.val false t6),(.val false t22)],[(.one,t7)],λ x=>Dq k x.1 x.2⟩
def Eo.p:LF:=⟨⟨[],[(0,t6),(1,t22),(5,t7),(6,(.i .i64))]⟩,[((.exit 0),⟨[],[(5,t7)]⟩)],λ k x=>Eo k x.1 x.2.1 x.2.2.1 x.2.2.2⟩
def Dq.d:Fd := { nt:=39,nv:=2,nm:=[0,1,2,3,5,6,7,8],res:=[4],cs:=λ k=>[(139,He.e k),(190,Cs.e k)],ls:=[(3,Eo.p)],rf:=true }
def Dq.a (k:Nat):AC (Dq.d.cs k):=⟨He.s k,Cs.s k,trivial⟩
def Eo.s:LL Tryz.f226 Dq.d 3 Eo.p:=mL [] Dq.a trivial
def Dq.s (k:Nat):CK 226 (Dq.e k):=mS Dq.d k [3] Tryz.func226 (Dq.a k) ⟨Eo.s,trivial⟩
def Co.e (k:Nat):Ent:=⟨3,[(.val true t17),(.val false t22),(.val false .s)],[(.one,t7)],λ x=>Co k x.1 x.2.1 x.2.2⟩
def Ci.p:LF:=⟨⟨[],[(1,t22),(7,t7),(8,t7),(9,t7),(10,(.i .i64)),(11,(.i .i64))]⟩,[((.exit 2),⟨[],[(1,t22),(7,t7),(8,t7),(9,t7),(10,(.i .i64))]⟩)],λ k x=>Ci k x.1 x.2.1 x.2.2.1 x.2.2.2.1 x.2.2.2.2.1 x.2.2.2.2.2⟩
def Fl.p:LF:=⟨⟨[],[(1,t22),(7,t7),(8,t7),(9,t7),(10,(.i .i64))]⟩,[((.exit 0),⟨[],[(9,t7)]⟩)],λ k x=>Fl k x.1 x.2.1 x.2.2.1 x.2.2.2.1 x.2.2.2.2⟩
def Co.d:Fd := { nt:=58,nv:=3,nm:=[0,1,2,3,4,5,7,8,9,10,11],res:=[6],cs:=λ k=>[(177,Bm.e k),(190,Cs.e k),(226,Dq.e k)],ls:=[(8,Ci.p),(5,Fl.p)],rf:=true }
def Co.a (k:Nat):AC (Co.d.cs k):=⟨Bm.s k,Cs.s k,Dq.s k,trivial⟩
def Ci.s:LL Tryz.f178 Co.d 8 Ci.p:=mL [] Co.a trivial
def Fl.s:LL Tryz.f178 Co.d 5 Fl.p:=mL [8] Co.a ⟨Ci.s,trivial⟩
def Co.s (k:Nat):CK 178 (Co.e k):=mS Co.d k [5] Tryz.func178 (Co.a k) ⟨Fl.s,trivial⟩
def Fm.e (k:Nat):Ent:=⟨2,[(.val true t46),(.val false .s)],[(.one,t7)],λ x=>Fm k x.1 x.2⟩
def Fm.d:Fd := { nt:=20,nv:=2,nm:=[0,1,2,3],res:=[4],cs:=λ k=>[(176,Bl.e k),(177,Bm.e k),(178,Co.e k)],rf:=true }
def Fm.s (k:Nat):CK 118 (Fm.e k):=mS Fm.d k [] Tryz.func118 ⟨Bl.s k,Bm.s k,Co.s k,trivial⟩ trivial
def C9.e (k:Nat):Ent:=⟨2,[(.val false t6),(.val false (.i .i64))],[(.one,(.i .i64))],λ x=>C9 x.1 x.2⟩
def C9.d:Fd := { nt:=21,nv:=2,nm:=[0,1,2,3],res:=[4],cs:=λ k=>[(97,A9.e k)],rf:=true }
def C9.s (k:Nat):CK 119 (C9.e k):=mS C9.d k [] Tryz.func119 ⟨A9.s k,trivial⟩ trivial
def G8.e (k:Nat):Ent:=⟨2,[(.val true t27),(.val false .s)],[(.one,t5),(.one,.b)],λ x=>G8 k x.1 x.2⟩
def G8.d:Fd := { nt:=22,nv:=2,nm:=[0,1,2,3,6],res:=[4,5],cs:=λ k=>[(153,Dw.e k)] }
def G8.s (k:Nat):CK 179 (G8.e k):=mS G8.d k [] Tryz.func179 ⟨Dw.s k,trivial⟩ trivial
def Iy.e (k:Nat):Ent:=⟨2,[(.val true t27),(.val false .s)],[(.agg,t26),(.one,(.i .i64))],λ x=>Iy k x.1 x.2⟩
def Iy.d:Fd := { nt:=28,nv:=2,nm:=[0,1,2,3,6,7,8,9],res:=[5],cs:=λ k=>[(151,Hq.e k),(179,G8.e k)],mv:=[27] }
def Iy.s (k:Nat):CK 120 (Iy.e k):=mS Iy.d k [] Tryz.func120 ⟨Hq.s k,G8.s k,trivial⟩ trivial
def Ez.e (k:Nat):Ent:=⟨2,[(.val true t16),(.val true t16)],[(.one,.b)],λ x=>Ez x.1 x.2⟩
def Ez.d:Fd := { nt:=32,nv:=2,nm:=[0,1,2,3],res:=[4] }
def Ez.s (k:Nat):CK 79 (Ez.e k):=mS Ez.d k [] Tryz.func79 trivial trivial
def Mg.e (k:Nat):Ent:=⟨2,[(.val true t25),(.val true t25)],[(.one,.b)],λ x=>Mg x.1 x.2⟩
def Mg.d:Fd := { nt:=10,nv:=2,nm:=[0,1,2,3],res:=[4],cs:=λ k=>[(79,Ez.e k)] }
def Mg.s (k:Nat):CK 121 (Mg.e k):=mS Mg.d k [] Tryz.func121 ⟨Ez.s k,trivial⟩ trivial
def Gu.e (k:Nat):Ent:=⟨1,[(.val false t13)],[(.one,.b)],λ x=>Gu k x⟩
def H4.p:LF:=⟨⟨[],[(0,t13),(3,(.i .i64))]⟩,[(.ret,⟨[],[(2,.b)]⟩),((.exit 0),⟨[],[(0,t13)]⟩)],λ k x=>H4 k x.1 x.2⟩
def Gu.d:Fd := { nt:=47,nv:=1,nm:=[0,1,3],res:=[2],cs:=λ k=>[(62,Bi.e k)],ls:=[(2,H4.p)] }
def Gu.a (k:Nat):AC (Gu.d.cs k):=⟨Bi.s k,trivial⟩
def H4.s:LL Tryz.f234 Gu.d 2 H4.p:=mL [] Gu.a trivial
def Gu.s (k:Nat):CK 234 (Gu.e k):=mS Gu.d k [2] Tryz.func234 (Gu.a k) ⟨H4.s,trivial⟩
def Br.e (k:Nat):Ent:=⟨1,[(.val true t27)],[(.one,.b)],λ x=>Br k x⟩
def Br.d:Fd := { nt:=11,nv:=1,nm:=[0,1],res:=[2],cs:=λ k=>[(234,Gu.e k)] }
def Br.s (k:Nat):CK 192 (Br.e k):=mS Br.d k [] Tryz.func192 ⟨Gu.s k,trivial⟩ trivial
def Jz.e (k:Nat):Ent:=⟨2,[(.val false t13),(.val false .s)],[(.one,t14)],λ x=>Jz k x.1 x.2⟩
def Ip.p:LF:=⟨⟨[],[(0,t13),(1,.s),(5,t14),(6,(.i .i64))]⟩,[((.exit 0),⟨[],[(5,t14)]⟩)],λ k x=>Ip k x.1 x.2.1 x.2.2.1 x.2.2.2⟩
def Jz.d:Fd := { nt:=29,nv:=2,nm:=[0,1,2,3,5,6],res:=[4],ls:=[(3,Ip.p)] }
def Ip.s:LL Tryz.f250 Jz.d 3 Ip.p:=mL [] (λ _=>trivial) trivial
def Jz.s (k:Nat):CK 250 (Jz.e k):=mS Jz.d k [3] Tryz.func250 trivial ⟨Ip.s,trivial⟩
def Fc.e (k:Nat):Ent:=⟨3,[(.val true t27),(.val true t29),(.val false .s)],[(.agg,t29),(.one,.b)],λ x=>Fc k x.1 x.2.1 x.2.2⟩
def Fc.d:Fd := { nt:=24,nv:=3,nm:=[0,1,2,3,4,5],res:=[7],cs:=λ k=>[(62,Bi.e k),(159,A6.e k),(192,Br.e k)],mv:=[23] }
def Fc.s (k:Nat):CK 251 (Fc.e k):=mS Fc.d k [] Tryz.func251 ⟨Bi.s k,A6.s k,Br.s k,trivial⟩ trivial
def Gb.e (k:Nat):Ent:=⟨3,[(.val false t13),(.val false .s),(.val false t4)],[(.one,t14)],λ x=>Gb k x.1 x.2.1 x.2.2⟩
def Cp.p:LF:=⟨⟨[(9,(.bp 9 0 0)),(10999,(.hd 2))],[(0,t13),(1,.s),(7,t14),(8,.b),(10,(.i .i64)),(10000,.s),(10001,t4)]⟩,[((.exit 0),⟨[(9,(.bp 9 0 0)),(10999,(.hd 2))],[(7,t14),(8,.b),(10000,.s),(10001,t4)]⟩)],λ k x=>Cp k x.1 x.2.1 x.2.2.1 x.2.2.2.1 x.2.2.2.2.1 x.2.2.2.2.2.1 x.2.2.2.2.2.2⟩
def Gb.d:Fd := { nt:=59,nv:=3,nm:=[0,1,2,3,4,5,7,8,9,10],res:=[6],ls:=[(5,Cp.p)] }
def Cp.s:LL Tryz.f252 Gb.d 5 Cp.p:=mL [] (λ _=>trivial) trivial
def Gb.s (k:Nat):CK 252 (Gb.e k):=mS Gb.d k [5] Tryz.func252 trivial ⟨Cp.s,trivial⟩
def Bn.e (k:Nat):Ent:=⟨2,[(.val true t27),(.val false .s)],[(.agg,t29),(.one,.b)],λ x=>Bn k x.1 x.2⟩
def Bn.d:Fd := { nt:=35,nv:=2,nm:=[0,1,2,3,6,7,8],res:=[5],cs:=λ k=>[(159,A6.e k),(179,G8.e k),(250,Jz.e k),(251,Fc.e k),(252,Gb.e k)] }
def Bn.s (k:Nat):CK 210 (Bn.e k):=mS Bn.d k [] Tryz.func210 ⟨A6.s k,G8.s k,Jz.s k,Fc.s k,Gb.s k,trivial⟩ trivial
def F3.e (k:Nat):Ent:=⟨3,[(.val true t27),(.val false .s),(.val false t4)],[(.agg,t29),(.one,.b)],λ x=>F3 k x.1 x.2.1 x.2.2⟩
def F3.d:Fd := { nt:=23,nv:=3,nm:=[0,1,2,3,4,5,8],res:=[7],cs:=λ k=>[(159,A6.e k),(251,Fc.e k),(252,Gb.e k)] }
def F3.s (k:Nat):CK 249 (F3.e k):=mS F3.d k [] Tryz.func249 ⟨A6.s k,Fc.s k,Gb.s k,trivial⟩ trivial
def M3.e (k:Nat):Ent:=⟨4,[(.val true t27),(.val false .s),(.val true t25),(.val false .b)],[(.agg,t29),(.one,(.i .i64))],λ x=>M3 k x.1 x.2.1 x.2.2.1 x.2.2.2⟩
def M3.d:Fd := { nt:=82,nv:=4,nm:=[0,1,2,3,4,5,6,7,10,11,12,13,14,15],res:=[9],cs:=λ k=>[(62,Bi.e k),(78,Gp.e k),(120,Iy.e k),(121,Mg.e k),(159,A6.e k),(192,Br.e k),(202,Fz.e k),(210,Bn.e k),(249,F3.e k)],mv:=[58,81] }
def M3.s (k:Nat):CK 208 (M3.e k):=mS M3.d k [] Tryz.func208 ⟨Bi.s k,Gp.s k,Iy.s k,Mg.s k,A6.s k,Br.s k,Fz.s k,Bn.s k,F3.s k,trivial⟩ trivial
def N0.e (k:Nat):Ent:=⟨2,[(.val false .s),(.val true t25)],[(.agg,t28)],λ x=>N0 x.1 x.2⟩
def N0.d:Fd := { nt:=14,nv:=2,nm:=[0,1,2,3],res:=[] }
def N0.s (k:Nat):CK 230 (N0.e k):=mS N0.d k [] Tryz.func230 trivial trivial
def Ls.e (k:Nat):Ent:=⟨4,[(.ptr t40 t40),(.val false .s),(.val true t25),(.val false .b)],[(.one,(.i .i64))],λ x=>Ls k x.1 x.2.1 x.2.2.1 x.2.2.2⟩
def Ls.d:Fd := { nt:=52,nv:=4,nm:=[0,1,2,3,4,5,6,7,9,10],res:=[8],cs:=λ k=>[(208,M3.e k),(230,N0.e k)] }
def Ls.s (k:Nat):CK 184 (Ls.e k):=mS Ls.d k [] Tryz.func184 ⟨M3.s k,N0.s k,trivial⟩ trivial
def Lt.e (k:Nat):Ent:=⟨1,[(.val false (.i .i64))],[(.one,(.i .i64))],λ x=>Lt x⟩
def Lt.d:Fd := { nt:=6,nv:=1,nm:=[0,1],res:=[2],rf:=true }
def Lt.s (k:Nat):CK 185 (Lt.e k):=mS Lt.d k [] Tryz.func185 trivial trivial
def C5.e (k:Nat):Ent:=⟨4,[(.ptr t48 t48),(.val false .s),(.val true t25),(.val false t6)],[(.one,(.i .i64))],λ x=>C5 k x.1 x.2.1 x.2.2.1 x.2.2.2⟩
def Ba.p:LF:=⟨⟨[(0,(.bp 0 0 0)),(6,(.bp 6 0 0)),(1999,(.hd 9)),(7999,(.hd 5))],[(1,.s),(3,t6),(9,t7),(10,(.i .i64)),(11,(.i .i64)),(12,(.i .i64)),(1000,t48),(7000,t25)]⟩,[((.exit 0),⟨[(0,(.bp 0 0 0)),(6,(.bp 6 0 0)),(1999,(.hd 9)),(7999,(.hd 5))],[(1,.s),(11,(.i .i64)),(1000,t48),(7000,t25)]⟩)],λ k x=>Ba k x.1 x.2.1 x.2.2.1 x.2.2.2.1 x.2.2.2.2.1 x.2.2.2.2.2.1 x.2.2.2.2.2.2.1 x.2.2.2.2.2.2.2⟩
def C5.d:Fd := { nt:=92,nv:=4,nm:=[0,1,2,3,4,5,6,7,9,10,11,12,13,14,15],res:=[8],cs:=λ k=>[(96,Bt.e k),(118,Fm.e k),(119,C9.e k),(184,Ls.e k),(185,Lt.e k)],ls:=[(5,Ba.p)],gh:=[(1000006,[.cl 1003])],opn:=[51],rf:=true }
def C5.a (k:Nat):AC (C5.d.cs k):=⟨Bt.s k,Fm.s k,C9.s k,Ls.s k,Lt.s k,trivial⟩
def Ba.s:LL Tryz.f131 C5.d 5 Ba.p:=mL [] C5.a trivial
def C5.s (k:Nat):CK 131 (C5.e k):=mS C5.d k [5] Tryz.func131 (C5.a k) ⟨Ba.s,trivial⟩
def Iq.e (k:Nat):Ent:=⟨5,[(.ptr t48 t48),(.val false .s),(.val true t25),(.val false (.i .i64)),(.val false t6)],[(.one,(.i .i64))],λ x=>Iq k x.1 x.2.1 x.2.2.1 x.2.2.2.1 x.2.2.2.2⟩
def Iq.d:Fd := { nt:=57,nv:=5,nm:=[0,1,2,3,4,5,6,7,8,9],res:=[10],cs:=λ k=>[(62,Bi.e k),(97,A9.e k),(130,I7.e k),(131,C5.e k)],rf:=true }
def Iq.s (k:Nat):CK 71 (Iq.e k):=mS Iq.d k [] Tryz.func71 ⟨Bi.s k,A9.s k,I7.s k,C5.s k,trivial⟩ trivial
def Ck.e (k:Nat):Ent:=⟨2,[(.val true t27),(.val false .s)],[(.agg,t29),(.one,.b)],λ x=>Ck k x.1 x.2⟩
def Ck.d:Fd := { nt:=26,nv:=2,nm:=[0,1,2,3,6],res:=[5],cs:=λ k=>[(153,Dw.e k),(159,A6.e k),(250,Jz.e k),(251,Fc.e k)],mv:=[14] }
def Ck.s (k:Nat):CK 209 (Ck.e k):=mS Ck.d k [] Tryz.func209 ⟨Dw.s k,A6.s k,Jz.s k,Fc.s k,trivial⟩ trivial
def Cy.e (k:Nat):Ent:=⟨4,[(.ptr t48 t48),(.val false (.i .i64)),(.val false .s),(.val false t6)],[(.one,.b)],λ x=>Cy k x.1 x.2.1 x.2.2.1 x.2.2.2⟩
def Bs.p:LF:=⟨⟨[(0,(.bp 0 0 0)),(9,(.bp 9 0 0)),(1999,(.hd 9)),(10999,(.hd 5))],[(1,(.i .i64)),(2,.s),(3,t6),(11,t7),(12,.b),(13,.b),(14,(.i .i64)),(1000,t48),(10000,t25)]⟩,[((.exit 0),⟨[(0,(.bp 0 0 0)),(1999,(.hd 9))],[(1,(.i .i64)),(2,.s),(12,.b),(13,.b),(1000,t48)]⟩)],λ k x=>Bs k x.1 x.2.1 x.2.2.1 x.2.2.2.1 x.2.2.2.2.1 x.2.2.2.2.2.1 x.2.2.2.2.2.2.1 x.2.2.2.2.2.2.2.1 x.2.2.2.2.2.2.2.2⟩
def Cy.d:Fd := { nt:=125,nv:=4,nm:=[0,1,2,3,4,5,6,7,9,10,11,12,13,14,15,16,17,18],res:=[8],cs:=λ k=>[(119,C9.e k),(120,Iy.e k),(176,Bl.e k),(177,Bm.e k),(208,M3.e k),(209,Ck.e k),(210,Bn.e k)],ls:=[(8,Bs.p)],rf:=true }
def Cy.a (k:Nat):AC (Cy.d.cs k):=⟨C9.s k,Iy.s k,Bl.s k,Bm.s k,M3.s k,Ck.s k,Bn.s k,trivial⟩
def Bs.s:LL Tryz.f160 Cy.d 8 Bs.p:=mL [] Cy.a trivial
def Cy.s (k:Nat):CK 160 (Cy.e k):=mS Cy.d k [8] Tryz.func160 (Cy.a k) ⟨Bs.s,trivial⟩
def Ht.e (k:Nat):Ent:=⟨1,[(.val true t46)],[(.one,t7)],λ x=>Ht k x⟩
def Ht.d:Fd := { nt:=8,nv:=1,nm:=[0,1],res:=[2],cs:=λ k=>[(176,Bl.e k),(177,Bm.e k)],rf:=true }
def Ht.s (k:Nat):CK 253 (Ht.e k):=mS Ht.d k [] Tryz.func253 ⟨Bl.s k,Bm.s k,trivial⟩ trivial
def Kr.e (k:Nat):Ent:=⟨2,[(.val true t28),(.val true t28)],[(.one,.b)],λ x=>Kr x.1 x.2⟩
def Kr.d:Fd := { nt:=29,nv:=2,nm:=[0,1,2,3],res:=[4],cs:=λ k=>[(79,Ez.e k)] }
def Kr.s (k:Nat):CK 263 (Kr.e k):=mS Kr.d k [] Tryz.func263 ⟨Ez.s k,trivial⟩ trivial
def Cq.e (k:Nat):Ent:=⟨2,[(.val false t31),(.val true t28)],[(.one,t32)],λ x=>Cq k x.1 x.2⟩
def Ep.p:LF:=⟨⟨[(3,(.bp 3 0 0)),(4999,(.hd 6))],[(5,t32),(7,(.i .i64)),(4000,.s),(4001,(.i .i64)),(4002,(.i .i64)),(4003,(.i .i64)),(4004,.b),(4005,(.i .i64))]⟩,[((.exit 2),⟨[(3,(.bp 3 0 0)),(4999,(.hd 6))],[(5,t32),(7,(.i .i64)),(4000,.s),(4001,(.i .i64)),(4002,(.i .i64)),(4003,(.i .i64)),(4004,.b),(4005,(.i .i64))]⟩)],λ k x=>Ep k x.1 x.2.1 x.2.2.1 x.2.2.2.1 x.2.2.2.2.1 x.2.2.2.2.2.1 x.2.2.2.2.2.2.1 x.2.2.2.2.2.2.2⟩
def Fn.p:LF:=⟨⟨[(3,(.bp 3 0 0)),(4999,(.hd 6))],[(5,t32),(6,(.i .i64)),(4000,.s),(4001,(.i .i64)),(4002,(.i .i64)),(4003,(.i .i64)),(4004,.b),(4005,(.i .i64))]⟩,[(.ret,⟨[],[(4,t32)]⟩),((.exit 0),⟨[(3,(.bp 3 0 0)),(4999,(.hd 6))],[(5,t32),(4000,.s),(4001,(.i .i64)),(4002,(.i .i64)),(4003,(.i .i64)),(4004,.b),(4005,(.i .i64))]⟩)],λ k x=>Fn k x.1 x.2.1 x.2.2.1 x.2.2.2.1 x.2.2.2.2.1 x.2.2.2.2.2.1 x.2.2.2.2.2.2.1 x.2.2.2.2.2.2.2⟩
def Cq.d:Fd := { nt:=70,nv:=2,nm:=[0,1,2,3,5,6,7],res:=[4],cs:=λ k=>[(263,Kr.e k)],ls:=[(11,Ep.p),(3,Fn.p)] }
def Cq.a (k:Nat):AC (Cq.d.cs k):=⟨Kr.s k,trivial⟩
def Ep.s:LL Tryz.f260 Cq.d 11 Ep.p:=mL [] Cq.a trivial
def Fn.s:LL Tryz.f260 Cq.d 3 Fn.p:=mL [] Cq.a trivial
def Cq.s (k:Nat):CK 260 (Cq.e k):=mS Cq.d k [3,11] Tryz.func260 (Cq.a k) ⟨Fn.s,Ep.s,trivial⟩
def Cz.e (k:Nat):Ent:=⟨2,[(.val false t31),(.val false t31)],[(.one,t32)],λ x=>Cz k x.1 x.2⟩
def Er.p:LF:=⟨⟨[],[(1,t31),(5,t32),(6,(.i .i64))]⟩,[((.exit 0),⟨[],[(5,t32)]⟩)],λ k x=>Er k x.1 x.2.1 x.2.2⟩
def Cz.d:Fd := { nt:=23,nv:=2,nm:=[0,1,2,3,5,6],res:=[4],cs:=λ k=>[(260,Cq.e k)],ls:=[(3,Er.p)] }
def Cz.a (k:Nat):AC (Cz.d.cs k):=⟨Cq.s k,trivial⟩
def Er.s:LL Tryz.f262 Cz.d 3 Er.p:=mL [] Cz.a trivial
def Cz.s (k:Nat):CK 262 (Cz.e k):=mS Cz.d k [3] Tryz.func262 (Cz.a k) ⟨Er.s,trivial⟩
def Iz.e (k:Nat):Ent:=⟨2,[(.ptr t40 t40),(.val false t31)],[(.one,.b)],λ x=>Iz k x.1 x.2⟩
def Iz.d:Fd := { nt:=19,nv:=2,nm:=[0,1,2,3,5],res:=[4],cs:=λ k=>[(262,Cz.e k)] }
def Iz.s (k:Nat):CK 254 (Iz.e k):=mS Iz.d k [] Tryz.func254 ⟨Cz.s k,trivial⟩ trivial
def Bu.e (k:Nat):Ent:=⟨5,[(.ptr t48 t48),(.val false (.i .i64)),(.val false t31),(.val false .b),(.val false t6)],[(.one,.b)],λ x=>Bu k x.1 x.2.1 x.2.2.1 x.2.2.2.1 x.2.2.2.2⟩
def An.p:LF:=⟨⟨[(0,(.bp 0 0 0)),(1999,(.hd 9))],[(1,(.i .i64)),(2,t31),(3,.b),(4,t6),(11,t7),(12,.b),(13,(.i .i64)),(1000,t48)]⟩,[((.exit 0),⟨[(1999,(.hd 9))],[(12,.b),(1000,t48)]⟩)],λ k x=>An k x.1 x.2.1 x.2.2.1 x.2.2.2.1 x.2.2.2.2.1 x.2.2.2.2.2.1 x.2.2.2.2.2.2.1 x.2.2.2.2.2.2.2⟩
def Bu.d:Fd := { nt:=53,nv:=5,nm:=[0,1,2,3,4,5,6,7,8,9,11,12,13],res:=[10],cs:=λ k=>[(119,C9.e k),(253,Ht.e k),(254,Iz.e k)],ls:=[(4,An.p)],gh:=[(1000005,[.cl 1003])],opn:=[47],rf:=true }
def Bu.a (k:Nat):AC (Bu.d.cs k):=⟨C9.s k,Ht.s k,Iz.s k,trivial⟩
def An.s:LL Tryz.f211 Bu.d 4 An.p:=mL [] Bu.a trivial
def Bu.s (k:Nat):CK 211 (Bu.e k):=mS Bu.d k [4] Tryz.func211 (Bu.a k) ⟨An.s,trivial⟩
def K8.e (k:Nat):Ent:=⟨2,[(.val true t46),(.val false (.i .i64))],[(.one,.b)],λ x=>K8 k x.1 x.2⟩
def K8.d:Fd := { nt:=9,nv:=2,nm:=[0,1,2,3],res:=[4],cs:=λ k=>[(190,Cs.e k),(253,Ht.e k)],rf:=true }
def K8.s (k:Nat):CK 212 (K8.e k):=mS K8.d k [] Tryz.func212 ⟨Cs.s k,Ht.s k,trivial⟩ trivial
def I8.e (k:Nat):Ent:=⟨3,[(.ptr t48 t48),(.val false (.i .i64)),(.val false t6)],[(.one,.b)],λ x=>I8 k x.1 x.2.1 x.2.2⟩
def I8.d:Fd := { nt:=47,nv:=3,nm:=[0,1,2,3,4,5,7],res:=[6],cs:=λ k=>[(211,Bu.e k),(212,K8.e k)],rf:=true }
def I8.s (k:Nat):CK 161 (I8.e k):=mS I8.d k [] Tryz.func161 ⟨Bu.s k,K8.s k,trivial⟩ trivial
def I9.e (k:Nat):Ent:=⟨3,[(.ptr t48 t48),(.val false (.i .i64)),(.val false t6)],[(.one,.b)],λ x=>I9 k x.1 x.2.1 x.2.2⟩
def I9.d:Fd := { nt:=36,nv:=3,nm:=[0,1,2,3,4,5,7],res:=[6],cs:=λ k=>[(211,Bu.e k)],rf:=true }
def I9.s (k:Nat):CK 162 (I9.e k):=mS I9.d k [] Tryz.func162 ⟨Bu.s k,trivial⟩ trivial
def Jq.e (k:Nat):Ent:=⟨1,[(.val true t27)],[(.agg,t29),(.one,(.i .i64))],λ x=>Jq k x⟩
def Ir.p:LF:=⟨⟨[(1,(.bp 1 0 0)),(2,(.bp 2 0 0)),(4,(.bp 4 0 0)),(2999,(.hd 2)),(3999,(.hd 2)),(5999,(.hd 2))],[(5,(.i .i64)),(6,(.i .i64)),(2000,t27),(3000,t29),(5000,t29)]⟩,[((.exit 0),⟨[(2,(.bp 2 0 0)),(4,(.bp 4 0 0)),(3999,(.hd 2)),(5999,(.hd 2))],[(5,(.i .i64)),(3000,t29),(5000,t29)]⟩)],λ k x=>Ir k x.1 x.2.1 x.2.2.1 x.2.2.2.1 x.2.2.2.2⟩
def Jq.d:Fd := { nt:=53,nv:=1,nm:=[0,1,4,5,6,7,8,9],res:=[3],cs:=λ k=>[(120,Iy.e k),(159,A6.e k),(192,Br.e k),(209,Ck.e k),(210,Bn.e k)],ls:=[(4,Ir.p)],mv:=[51],rf:=true }
def Jq.a (k:Nat):AC (Jq.d.cs k):=⟨Iy.s k,A6.s k,Br.s k,Ck.s k,Bn.s k,trivial⟩
def Ir.s:LL Tryz.f163 Jq.d 4 Ir.p:=mL [] Jq.a trivial
def Jq.s (k:Nat):CK 163 (Jq.e k):=mS Jq.d k [4] Tryz.func163 (Jq.a k) ⟨Ir.s,trivial⟩
def Ct.e (k:Nat):Ent:=⟨2,[(.val false t13),(.val false t13)],[(.one,t2)],λ x=>Ct k x.1 x.2⟩
def Fo.p:LF:=⟨⟨[],[(5,t14),(8,t2),(9,(.i .i64))]⟩,[((.exit 4),⟨[],[(8,t2)]⟩)],λ k x=>Fo k x.1 x.2.1 x.2.2⟩
def Gv.p:LF:=⟨⟨[],[(1,t13),(5,t14),(7,(.i .i64))]⟩,[((.exit 2),⟨[],[(5,t14)]⟩)],λ k x=>Gv k x.1 x.2.1 x.2.2⟩
def Gw.p:LF:=⟨⟨[],[(0,t13),(1,t13),(5,t14),(6,(.i .i64))]⟩,[((.exit 0),⟨[],[(1,t13),(5,t14)]⟩)],λ k x=>Gw k x.1 x.2.1 x.2.2.1 x.2.2.2⟩
def Ct.d:Fd := { nt:=55,nv:=2,nm:=[0,1,2,3,5,6,7,8,9],res:=[4],cs:=λ k=>[(252,Gb.e k)],ls:=[(12,Fo.p),(7,Gv.p),(3,Gw.p)],rf:=true }
def Ct.a (k:Nat):AC (Ct.d.cs k):=⟨Gb.s k,trivial⟩
def Fo.s:LL Tryz.f213 Ct.d 12 Fo.p:=mL [] Ct.a trivial
def Gv.s:LL Tryz.f213 Ct.d 7 Gv.p:=mL [] Ct.a trivial
def Gw.s:LL Tryz.f213 Ct.d 3 Gw.p:=mL [] Ct.a trivial
def Ct.s (k:Nat):CK 213 (Ct.e k):=mS Ct.d k [3,7,12] Tryz.func213 (Ct.a k) ⟨Gw.s,Gv.s,Fo.s,trivial⟩
def E5.e (k:Nat):Ent:=⟨2,[(.val true t27),(.val false t1)],[(.agg,t29)],λ x=>E5 k x.1 x.2⟩
def Ax.p:LF:=⟨⟨[(2,(.bp 2 0 0)),(4,(.bp 4 0 0)),(3999,(.hd 2)),(5999,(.hd 2))],[(1,t1),(5,t2),(6,t14),(7,(.i .i64)),(3000,t27),(5000,t29)]⟩,[((.exit 0),⟨[(2,(.bp 2 0 0)),(4,(.bp 4 0 0)),(3999,(.hd 2)),(5999,(.hd 2))],[(6,t14),(3000,t27),(5000,t29)]⟩)],λ k x=>Ax k x.1 x.2.1 x.2.2.1 x.2.2.2.1 x.2.2.2.2.1 x.2.2.2.2.2⟩
def E5.d:Fd := { nt:=66,nv:=2,nm:=[0,1,2,3,5,6,7,8,9],res:=[],cs:=λ k=>[(153,Dw.e k),(159,A6.e k),(192,Br.e k),(207,Bp.e k),(213,Ct.e k)],ls:=[(6,Ax.p)],rf:=true }
def E5.a (k:Nat):AC (E5.d.cs k):=⟨Dw.s k,A6.s k,Br.s k,Bp.s k,Ct.s k,trivial⟩
def Ax.s:LL Tryz.f164 E5.d 6 Ax.p:=mL [] E5.a trivial
def E5.s (k:Nat):CK 164 (E5.e k):=mS E5.d k [6] Tryz.func164 (E5.a k) ⟨Ax.s,trivial⟩
def Jg.e (k:Nat):Ent:=⟨1,[(.val true t28)],[(.one,.b)],λ x=>Jg k x⟩
def Jg.d:Fd := { nt:=26,nv:=1,nm:=[0,1],res:=[2],cs:=λ k=>[(62,Bi.e k),(77,Dx.e k),(97,A9.e k)] }
def Jg.s (k:Nat):CK 191 (Jg.e k):=mS Jg.d k [] Tryz.func191 ⟨Bi.s k,Dx.s k,A9.s k,trivial⟩ trivial
def Hj.e (k:Nat):Ent:=⟨1,[(.val false t31)],[(.one,.b)],λ x=>Hj k x⟩
def H5.p:LF:=⟨⟨[],[(0,t31),(3,(.i .i64))]⟩,[(.ret,⟨[],[(2,.b)]⟩),((.exit 0),⟨[],[(0,t31)]⟩)],λ k x=>H5 k x.1 x.2⟩
def Hj.d:Fd := { nt:=37,nv:=1,nm:=[0,1,3],res:=[2],cs:=λ k=>[(191,Jg.e k)],ls:=[(2,H5.p)] }
def Hj.a (k:Nat):AC (Hj.d.cs k):=⟨Jg.s k,trivial⟩
def H5.s:LL Tryz.f193 Hj.d 2 H5.p:=mL [] Hj.a trivial
def Hj.s (k:Nat):CK 193 (Hj.e k):=mS Hj.d k [2] Tryz.func193 (Hj.a k) ⟨H5.s,trivial⟩
def Hk.e (k:Nat):Ent:=⟨1,[(.val true t40)],[(.one,.b)],λ x=>Hk k x⟩
def Ia.p:LF:=⟨⟨[(1,(.bp 1 0 0)),(2999,(.hd 5))],[(3,(.i .i64)),(2000,(.i .i64)),(2001,t13),(2002,t13),(2003,t31),(2004,t31)]⟩,[(.ret,⟨[],[(2,.b)]⟩),((.exit 0),⟨[(1,(.bp 1 0 0)),(2999,(.hd 5))],[(2000,(.i .i64)),(2001,t13),(2002,t13),(2003,t31),(2004,t31)]⟩)],λ k x=>Ia k x.1 x.2.1 x.2.2.1 x.2.2.2.1 x.2.2.2.2.1 x.2.2.2.2.2⟩
def Hk.d:Fd := { nt:=37,nv:=1,nm:=[0,1,3],res:=[2],cs:=λ k=>[(97,A9.e k),(191,Jg.e k),(192,Br.e k),(193,Hj.e k)],ls:=[(2,Ia.p)] }
def Hk.a (k:Nat):AC (Hk.d.cs k):=⟨A9.s k,Jg.s k,Br.s k,Hj.s k,trivial⟩
def Ia.s:LL Tryz.f140 Hk.d 2 Ia.p:=mL [] Hk.a trivial
def Hk.s (k:Nat):CK 140 (Hk.e k):=mS Hk.d k [2] Tryz.func140 (Hk.a k) ⟨Ia.s,trivial⟩
def Lu.e (k:Nat):Ent:=⟨3,[(.val true t27),(.val false .s),(.val false (.i .i64))],[(.agg,t30),(.one,.b)],λ x=>Lu k x.1 x.2.1 x.2.2⟩
def Lu.d:Fd := { nt:=97,nv:=3,nm:=[0,1,2,3,4,5,8,9,10,11],res:=[7],cs:=λ k=>[(97,A9.e k),(153,Dw.e k),(159,Ld.e k),(192,Br.e k)],mv:=[39,96] }
def Lu.s (k:Nat):CK 214 (Lu.e k):=mS Lu.d k [] Tryz.func214 ⟨A9.s k,Dw.s k,Ld.s k,Br.s k,trivial⟩ trivial
def Ks.e (k:Nat):Ent:=⟨3,[(.val true t40),(.val false .s),(.val false (.i .i64))],[(.agg,t42),(.one,.b)],λ x=>Ks k x.1 x.2.1 x.2.2⟩
def Ks.d:Fd := { nt:=44,nv:=3,nm:=[0,1,2,3,4,5,8,9,10,11,12],res:=[7],cs:=λ k=>[(95,Hs.e k),(120,Iy.e k),(140,Hk.e k),(214,Lu.e k)],mv:=[29,40,43] }
def Ks.s (k:Nat):CK 165 (Ks.e k):=mS Ks.d k [] Tryz.func165 ⟨Hs.s k,Iy.s k,Hk.s k,Lu.s k,trivial⟩ trivial
def E6.e (k:Nat):Ent:=⟨2,[(.val false t0),(.val false .s)],[(.one,t0)],λ x=>E6 k x.1 x.2⟩
def Fp.p:LF:=⟨⟨[],[(1,.s),(5,t2),(6,(.i .i64))]⟩,[((.exit 0),⟨[],[(1,.s),(5,t2),(6,(.i .i64))]⟩)],λ k x=>Fp k x.1 x.2.1 x.2.2⟩
def E6.d:Fd := { nt:=46,nv:=2,nm:=[0,1,2,3,5,6],res:=[4],cs:=λ k=>[(152,Iv.e k)],ls:=[(5,Fp.p)],rf:=true }
def E6.a (k:Nat):AC (E6.d.cs k):=⟨Iv.s k,trivial⟩
def Fp.s:LL Tryz.f166 E6.d 5 Fp.p:=mL [] E6.a trivial
def E6.s (k:Nat):CK 166 (E6.e k):=mS E6.d k [5] Tryz.func166 (E6.a k) ⟨Fp.s,trivial⟩
def B6.e (k:Nat):Ent:=⟨2,[(.ptr t48 t48),(.val true t34)],[(.one,.b)],λ x=>B6 k x.1 x.2⟩
def Dr.p:LF:=⟨⟨[(0,(.bp 0 0 0)),(3,(.bp 3 0 0)),(1999,(.hd 9)),(4999,(.hd 6))],[(5,t3),(6,(.i .i64)),(1000,t48),(4000,t34)]⟩,[((.exit 1),⟨[(0,(.bp 0 0 0)),(3,(.bp 3 0 0)),(1999,(.hd 9)),(4999,(.hd 6))],[(5,t3),(1000,t48),(4000,t34)]⟩)],λ k x=>Dr k x.1 x.2.1 x.2.2.1 x.2.2.2⟩
def B6.d:Fd := { nt:=134,nv:=2,nm:=[0,1,2,3,5,6,7,8],res:=[4],cs:=λ k=>[(160,Cy.e k),(161,I8.e k),(162,I9.e k),(163,Jq.e k),(164,E5.e k),(165,Ks.e k),(166,E6.e k)],ls:=[(14,Dr.p)],rf:=true }
def B6.a (k:Nat):AC (B6.d.cs k):=⟨Cy.s k,I8.s k,I9.s k,Jq.s k,E5.s k,Ks.s k,E6.s k,trivial⟩
def Dr.s:LL Tryz.f98 B6.d 14 Dr.p:=mL [] B6.a trivial
def B6.s (k:Nat):CK 98 (B6.e k):=mS B6.d k [14] Tryz.func98 (B6.a k) ⟨Dr.s,trivial⟩
def D7.e (k:Nat):Ent:=⟨1,[(.val false t22)],[(.one,.b)],λ x=>D7 k x⟩
def H6.p:LF:=⟨⟨[],[(0,t22),(3,(.i .i64))]⟩,[(.ret,⟨[],[(2,.b)]⟩),((.exit 0),⟨[],[(0,t22)]⟩)],λ k x=>H6 k x.1 x.2⟩
def D7.d:Fd := { nt:=49,nv:=1,nm:=[0,1,3,4],res:=[2],cs:=λ k=>[(97,A9.e k)],ls:=[(2,H6.p)],rf:=true }
def D7.a (k:Nat):AC (D7.d.cs k):=⟨A9.s k,trivial⟩
def H6.s:LL Tryz.f137 D7.d 2 H6.p:=mL [] D7.a trivial
def D7.s (k:Nat):CK 137 (D7.e k):=mS D7.d k [2] Tryz.func137 (D7.a k) ⟨H6.s,trivial⟩
def Hl.e (k:Nat):Ent:=⟨2,[(.val true t6),(.val false (.i .i64))],[(.one,.b)],λ x=>Hl k x.1 x.2⟩
def Ib.p:LF:=⟨⟨[(2,(.bp 2 0 0)),(3999,(.hd 1))],[(1,(.i .i64)),(5,(.i .i64)),(3000,t6)]⟩,[(.ret,⟨[],[(4,.b)]⟩),((.exit 0),⟨[(2,(.bp 2 0 0)),(3999,(.hd 1))],[(1,(.i .i64)),(3000,t6)]⟩)],λ k x=>Ib k x.1 x.2.1 x.2.2⟩
def Hl.d:Fd := { nt:=28,nv:=2,nm:=[0,1,2,3,5],res:=[4],cs:=λ k=>[(190,Cs.e k)],ls:=[(2,Ib.p)],rf:=true }
def Hl.a (k:Nat):AC (Hl.d.cs k):=⟨Cs.s k,trivial⟩
def Ib.s:LL Tryz.f138 Hl.d 2 Ib.p:=mL [] Hl.a trivial
def Hl.s (k:Nat):CK 138 (Hl.e k):=mS Hl.d k [2] Tryz.func138 (Hl.a k) ⟨Ib.s,trivial⟩
def La.e (k:Nat):Ent:=⟨2,[(.val true t17),(.val false t22)],[(.one,.b)],λ x=>La k x.1 x.2⟩
def Kt.p:LF:=⟨⟨[(2,(.bp 2 0 0)),(3999,(.hd 2))],[(5,(.i .i64)),(3000,t17)]⟩,[(.ret,⟨[],[(4,.b)]⟩),((.exit 0),⟨[],[]⟩)],λ k x=>Kt k x.1 x.2⟩
def La.d:Fd := { nt:=45,nv:=2,nm:=[0,1,2,3,5],res:=[4],cs:=λ k=>[(97,A9.e k),(137,D7.e k),(138,Hl.e k)],ls:=[(4,Kt.p)],rf:=true }
def La.a (k:Nat):AC (La.d.cs k):=⟨A9.s k,D7.s k,Hl.s k,trivial⟩
def Kt.s:LL Tryz.f215 La.d 4 Kt.p:=mL [] La.a trivial
def La.s (k:Nat):CK 215 (La.e k):=mS La.d k [4] Tryz.func215 (La.a k) ⟨Kt.s,trivial⟩
def Hm.e (k:Nat):Ent:=⟨2,[(.val true t6),(.val false t22)],[(.one,(.i .i64))],λ x=>Hm k x.1 x.2⟩
def Ic.p:LF:=⟨⟨[(2,(.bp 2 0 0)),(3999,(.hd 1))],[(1,t22),(5,(.i .i64)),(3000,t6)]⟩,[(.ret,⟨[],[(4,(.i .i64))]⟩),((.exit 0),⟨[],[]⟩)],λ k x=>Ic k x.1 x.2.1 x.2.2⟩
def Hm.d:Fd := { nt:=28,nv:=2,nm:=[0,1,2,3,5,6,7],res:=[4],cs:=λ k=>[(139,He.e k)],ls:=[(2,Ic.p)],rf:=true }
def Hm.a (k:Nat):AC (Hm.d.cs k):=⟨He.s k,trivial⟩
def Ic.s:LL Tryz.f216 Hm.d 2 Ic.p:=mL [] Hm.a trivial
def Hm.s (k:Nat):CK 216 (Hm.e k):=mS Hm.d k [2] Tryz.func216 (Hm.a k) ⟨Ic.s,trivial⟩
def D8.e (k:Nat):Ent:=⟨2,[(.val true t17),(.val false (.i .i64))],[(.one,(.i .i64))],λ x=>D8 k x.1 x.2⟩
def H7.p:LF:=⟨⟨[(2,(.bp 2 0 0)),(3999,(.hd 2))],[(1,(.i .i64)),(5,(.i .i64)),(6,(.i .i64)),(7,(.i .i64)),(3000,t17)]⟩,[((.exit 2),⟨[(2,(.bp 2 0 0)),(3999,(.hd 2))],[(1,(.i .i64)),(5,(.i .i64)),(6,(.i .i64)),(3000,t17)]⟩)],λ k x=>H7 k x.1 x.2.1 x.2.2.1 x.2.2.2.1 x.2.2.2.2⟩
def Id.p:LF:=⟨⟨[(2,(.bp 2 0 0)),(3999,(.hd 2))],[(1,(.i .i64)),(5,(.i .i64)),(6,(.i .i64)),(3000,t17)]⟩,[((.exit 0),⟨[],[(5,(.i .i64))]⟩)],λ k x=>Id k x.1 x.2.1 x.2.2.1 x.2.2.2⟩
def D8.d:Fd := { nt:=40,nv:=2,nm:=[0,1,2,3,5,6,7],res:=[4],ls:=[(6,H7.p),(3,Id.p)],rf:=true }
def H7.s:LL Tryz.f255 D8.d 6 H7.p:=mL [] (λ _=>trivial) trivial
def Id.s:LL Tryz.f255 D8.d 3 Id.p:=mL [6] (λ _=>trivial) ⟨H7.s,trivial⟩
def D8.s (k:Nat):CK 255 (D8.e k):=mS D8.d k [3] Tryz.func255 trivial ⟨Id.s,trivial⟩
def J0.e (k:Nat):Ent:=⟨3,[(.val true t17),(.val true t6),(.val false t22)],[(.one,(.i .i64))],λ x=>J0 k x.1 x.2.1 x.2.2⟩
def C2.p:LF:=⟨⟨[(3,(.bp 3 0 0)),(4,(.bp 4 0 0)),(4999,(.hd 2)),(5999,(.hd 1))],[(2,t22),(7,t7),(8,(.i .i64)),(9,.b),(10,(.i .i64)),(4000,t17),(5000,t6)]⟩,[((.exit 0),⟨[],[(2,t22),(8,(.i .i64))]⟩)],λ k x=>C2 k x.1 x.2.1 x.2.2.1 x.2.2.2.1 x.2.2.2.2.1 x.2.2.2.2.2.1 x.2.2.2.2.2.2⟩
def J0.d:Fd := { nt:=88,nv:=3,nm:=[0,1,2,3,4,5,7,8,9,10,11,12],res:=[6],cs:=λ k=>[(137,D7.e k),(190,Cs.e k),(226,Dq.e k),(255,D8.e k)],ls:=[(5,C2.p)],rf:=true }
def J0.a (k:Nat):AC (J0.d.cs k):=⟨D7.s k,Cs.s k,Dq.s k,D8.s k,trivial⟩
def C2.s:LL Tryz.f217 J0.d 5 C2.p:=mL [] J0.a trivial
def J0.s (k:Nat):CK 217 (J0.e k):=mS J0.d k [5] Tryz.func217 (J0.a k) ⟨C2.s,trivial⟩
def G0.e (k:Nat):Ent:=⟨4,[(.val true t17),(.val true t6),(.val false t22),(.val false (.i .i64))],[(.one,(.i .i64))],λ x=>G0 k x.1 x.2.1 x.2.2.1 x.2.2.2⟩
def Cl.p:LF:=⟨⟨[(4,(.bp 4 0 0)),(5,(.bp 5 0 0)),(9,(.bp 9 0 0)),(5999,(.hd 2)),(6999,(.hd 1)),(10999,(.hd 3))],[(2,t22),(3,(.i .i64)),(10,.b),(11,(.i .i64)),(5000,t17),(6000,t6),(10000,t16)]⟩,[(.ret,⟨[],[(8,(.i .i64))]⟩),((.exit 0),⟨[],[]⟩)],λ k x=>Cl k x.1 x.2.1 x.2.2.1 x.2.2.2.1 x.2.2.2.2.1 x.2.2.2.2.2.1 x.2.2.2.2.2.2⟩
def G0.d:Fd := { nt:=60,nv:=4,nm:=[0,1,2,3,4,5,6,7,9,10,11,12,13],res:=[8],cs:=λ k=>[(139,He.e k),(255,D8.e k)],ls:=[(3,Cl.p)],rf:=true }
def G0.a (k:Nat):AC (G0.d.cs k):=⟨He.s k,D8.s k,trivial⟩
def Cl.s:LL Tryz.f218 G0.d 3 Cl.p:=mL [] G0.a trivial
def G0.s (k:Nat):CK 218 (G0.e k):=mS G0.d k [3] Tryz.func218 (G0.a k) ⟨Cl.s,trivial⟩
def D0.e (k:Nat):Ent:=⟨2,[(.val true t17),(.val false t22)],[(.agg,t19),(.one,(.i .i64))],λ x=>D0 k x.1 x.2⟩
def Bd.p:LF:=⟨⟨[(4,(.bp 4 0 0)),(6,(.bp 6 0 0)),(5999,(.hd 2)),(7999,(.hd 2))],[(1,t22),(7,(.i .i64)),(8,(.i .i64)),(5000,t18),(7000,t19)]⟩,[((.exit 0),⟨[(4,(.bp 4 0 0)),(6,(.bp 6 0 0)),(5999,(.hd 2)),(7999,(.hd 2))],[(7,(.i .i64)),(5000,t18),(7000,t19)]⟩)],λ k x=>Bd k x.1 x.2.1 x.2.2.1 x.2.2.2.1 x.2.2.2.2⟩
def D0.d:Fd := { nt:=82,nv:=2,nm:=[0,1,2,3,6,7,8,9,10,11,12],res:=[5],cs:=λ k=>[(94,K7.e k),(215,La.e k),(216,Hm.e k),(217,J0.e k),(218,G0.e k)],ls:=[(6,Bd.p)],mv:=[19,80],rf:=true }
def D0.a (k:Nat):AC (D0.d.cs k):=⟨K7.s k,La.s k,Hm.s k,J0.s k,G0.s k,trivial⟩
def Bd.s:LL Tryz.f167 D0.d 6 Bd.p:=mL [] D0.a trivial
def D0.s (k:Nat):CK 167 (D0.e k):=mS D0.d k [6] Tryz.func167 (D0.a k) ⟨Bd.s,trivial⟩
def Ie.e (k:Nat):Ent:=⟨3,[(.ptr t48 t48),(.val false (.i .i64)),(.val false (.i .i64))],[(.one,.b)],λ x=>Ie k x.1 x.2.1 x.2.2⟩
def Ie.d:Fd := { nt:=49,nv:=3,nm:=[0,1,2,3,4,5,7,8],res:=[6],cs:=λ k=>[(97,A9.e k),(167,D0.e k)],rf:=true }
def Ie.s (k:Nat):CK 99 (Ie.e k):=mS Ie.d k [] Tryz.func99 ⟨A9.s k,D0.s k,trivial⟩ trivial
def Js.e (k:Nat):Ent:=⟨2,[(.ptr t48 t48),(.val true t34)],[(.one,.b)],λ x=>Js k x.1 x.2⟩
def Js.d:Fd := { nt:=76,nv:=2,nm:=[0,1,2,3,5,6],res:=[4],cs:=λ k=>[(71,Iq.e k),(97,A9.e k),(98,B6.e k),(99,Ie.e k)],rf:=true }
def Js.s (k:Nat):CK 43 (Js.e k):=mS Js.d k [] Tryz.func43 ⟨Iq.s k,A9.s k,B6.s k,Ie.s k,trivial⟩ trivial
def Hn.e (k:Nat):Ent:=⟨1,[(.ptr t21 t21)],[(.one,t23)],λ x=>Hn k x⟩
def Ig.p:LF:=⟨⟨[(0,(.bp 0 0 0)),(1999,(.hd 3))],[(3,t23),(4,(.i .i64)),(5,(.i .i64)),(6,(.i .i64)),(1000,t21)]⟩,[((.exit 0),⟨[(1999,(.hd 3))],[(3,t23),(1000,t21)]⟩)],λ k x=>Ig k x.1 x.2.1 x.2.2.1 x.2.2.2.1 x.2.2.2.2⟩
def Hn.d:Fd := { nt:=35,nv:=1,nm:=[0,1,3,4,5,6],res:=[2],cs:=λ k=>[(37,A8.e k),(39,C6.e k)],ls:=[(5,Ig.p)],rf:=true }
def Hn.a (k:Nat):AC (Hn.d.cs k):=⟨A8.s k,C6.s k,trivial⟩
def Ig.s:LL Tryz.f107 Hn.d 5 Ig.p:=mL [] Hn.a trivial
def Hn.s (k:Nat):CK 107 (Hn.e k):=mS Hn.d k [5] Tryz.func107 (Hn.a k) ⟨Ig.s,trivial⟩
def Hu.e (k:Nat):Ent:=⟨3,[(.val false t22),(.val false (.i .i64)),(.val false (.i .i64))],[(.agg,t19),(.one,.b)],λ x=>Hu k x.1 x.2.1 x.2.2⟩
def Jh.p:LF:=⟨⟨[(6,(.bp 6 0 0)),(8,(.bp 8 0 0)),(7999,(.hd 2)),(9999,(.hd 2))],[(0,t22),(1,(.i .i64)),(2,(.i .i64)),(9,(.i .i64)),(10,(.i .i64)),(7000,t18),(9000,t19)]⟩,[((.exit 2),⟨[(6,(.bp 6 0 0)),(8,(.bp 8 0 0)),(7999,(.hd 2)),(9999,(.hd 2))],[(0,t22),(1,(.i .i64)),(2,(.i .i64)),(9,(.i .i64)),(7000,t18),(9000,t19)]⟩)],λ k x=>Jh k x.1 x.2.1 x.2.2.1 x.2.2.2.1 x.2.2.2.2.1 x.2.2.2.2.2.1 x.2.2.2.2.2.2⟩
def Ji.p:LF:=⟨⟨[(6,(.bp 6 0 0)),(8,(.bp 8 0 0)),(7999,(.hd 2)),(9999,(.hd 2))],[(0,t22),(1,(.i .i64)),(2,(.i .i64)),(9,(.i .i64)),(7000,t18),(9000,t19)]⟩,[((.exit 0),⟨[(6,(.bp 6 0 0)),(8,(.bp 8 0 0)),(7999,(.hd 2)),(9999,(.hd 2))],[(7000,t18),(9000,t19)]⟩)],λ k x=>Ji k x.1 x.2.1 x.2.2.1 x.2.2.2.1 x.2.2.2.2.1 x.2.2.2.2.2⟩
def Hu.d:Fd := { nt:=73,nv:=3,nm:=[0,1,2,3,4,5,8,9,10,11],res:=[7],cs:=λ k=>[(97,A9.e k),(137,D7.e k),(217,J0.e k)],ls:=[(9,Jh.p),(5,Ji.p)],hint:=[(42,t7),(43,t7)],mv:=[72],gh:=[(12,[.od 54 3001]),(1000010,[.cl 9001])],rf:=true }
def Hu.a (k:Nat):AC (Hu.d.cs k):=⟨A9.s k,D7.s k,J0.s k,trivial⟩
def Jh.s:LL Tryz.f169 Hu.d 9 Jh.p:=mL [] Hu.a trivial
def Ji.s:LL Tryz.f169 Hu.d 5 Ji.p:=mL [9] Hu.a ⟨Jh.s,trivial⟩
def Hu.s (k:Nat):CK 169 (Hu.e k):=mS Hu.d k [5] Tryz.func169 (Hu.a k) ⟨Ji.s,trivial⟩
def Ku.e (k:Nat):Ent:=⟨1,[(.val false (.i .i64))],[(.agg,t41)],λ x=>Ku x⟩
def Ku.d:Fd := { nt:=9,nv:=1,nm:=[0,1],res:=[],cs:=λ k=>[(97,A9.e k)] }
def Ku.s (k:Nat):CK 170 (Ku.e k):=mS Ku.d k [] Tryz.func170 ⟨A9.s k,trivial⟩ trivial
def Cr.e (k:Nat):Ent:=⟨3,[(.val false t22),(.val false (.i .i64)),(.val false (.i .i64))],[(.agg,t49)],λ x=>Cr k x.1 x.2.1 x.2.2⟩
def Fq.p:LF:=⟨⟨[(6,(.bp 6 0 0)),(9,(.bp 9 0 0)),(7999,(.hd 9)),(10999,(.hd 9))],[(0,t22),(10,(.i .i64)),(7000,t47),(10000,t49)]⟩,[((.exit 0),⟨[(6,(.bp 6 0 0)),(9,(.bp 9 0 0)),(7999,(.hd 9)),(10999,(.hd 9))],[(7000,t47),(10000,t49)]⟩)],λ k x=>Fq k x.1 x.2.1 x.2.2.1 x.2.2.2⟩
def Cr.d:Fd := { nt:=44,nv:=3,nm:=[0,1,2,3,4,5,7,8,9,10],res:=[],cs:=λ k=>[(169,Hu.e k),(170,Ku.e k)],ls:=[(6,Fq.p)],mv:=[43],rf:=true }
def Cr.a (k:Nat):AC (Cr.d.cs k):=⟨Hu.s k,Ku.s k,trivial⟩
def Fq.s:LL Tryz.f108 Cr.d 6 Fq.p:=mL [] Cr.a trivial
def Cr.s (k:Nat):CK 108 (Cr.e k):=mS Cr.d k [6] Tryz.func108 (Cr.a k) ⟨Fq.s,trivial⟩
def L7.e (k:Nat):Ent:=⟨1,[(.ptr t21 t21)],[(.agg,t49)],λ x=>L7 k x⟩
def L7.d:Fd := { nt:=22,nv:=1,nm:=[0,1,3,4],res:=[],cs:=λ k=>[(39,C6.e k),(107,Hn.e k),(108,Cr.e k)],rf:=true }
def L7.s (k:Nat):CK 49 (L7.e k):=mS L7.d k [] Tryz.func49 ⟨C6.s k,Hn.s k,Cr.s k,trivial⟩ trivial
def Df.e (k:Nat):Ent:=⟨2,[(.ptr t21 t21),(.vw t48 2),(.hid t48 t48)],[(.agg,(.pr (.i .i64) (.pr (.i .i64) (.pr .s (.pr t5 (.pr (.i .i64) t7))))))],λ x=>Df k x.1 x.2.1 x.2.2⟩
def Df.d:Fd := { nt:=99,nv:=2,nm:=[0,1,2,3,5,6],res:=[],cs:=λ k=>[(37,A8.e k),(39,C6.e k),(86,Lq.e k),(87,F7.e k),(88,Gn.e k),(89,Hi.e k)],mv:=[1,98],rf:=true }
def Df.s (k:Nat):CK 38 (Df.e k):=mS Df.d k [] Tryz.func38 ⟨A8.s k,C6.s k,Lq.s k,F7.s k,Gn.s k,Hi.s k,trivial⟩ trivial
def E7.e (k:Nat):Ent:=⟨1,[(.val false t4)],[(.agg,t46),(.one,t38)],λ x=>E7 k x⟩
def Fs.p:LF:=⟨⟨[(2,(.bp 2 0 0)),(4,(.bp 11 0 0)),(5,(.bp 5 0 0)),(6,(.bp 6 0 0)),(3999,(.hd 9)),(6999,(.hd 9)),(7999,(.hd 9)),(12999,(.hd 3))],[(7,t38),(8,(.i .i64)),(3000,t47),(6000,t46),(7000,t48),(12000,t21)]⟩,[((.exit 0),⟨[(2,(.bp 2 0 0)),(5,(.bp 5 0 0)),(3999,(.hd 9)),(6999,(.hd 9))],[(7,t38),(3000,t47),(6000,t46)]⟩)],λ k x=>Fs k x.1 x.2.1 x.2.2.1 x.2.2.2.1 x.2.2.2.2.1 x.2.2.2.2.2⟩
def E7.d:Fd := { nt:=36,nv:=1,nm:=[0,1,4,5,6,7,8,9],res:=[3],cs:=λ k=>[(34,Lx.e k),(36,Lo.e k),(37,A8.e k),(38,Df.e k),(42,Dy.e k),(43,Js.e k),(49,L7.e k)],ls:=[(6,Fs.p)],rf:=true }
def E7.a (k:Nat):AC (E7.d.cs k):=⟨Lx.s k,Lo.s k,A8.s k,Df.s k,Dy.s k,Js.s k,L7.s k,trivial⟩
def Fs.s:LL Tryz.f15 E7.d 6 Fs.p:=mL [] E7.a trivial
def E7.s (k:Nat):CK 15 (E7.e k):=mS E7.d k [6] Tryz.func15 (E7.a k) ⟨Fs.s,trivial⟩
def Lb.e (k:Nat):Ent:=⟨2,[(.val true t46),(.val false t37)],[(.agg,t48)],λ x=>Lb k x.1 x.2⟩
def Jt.p:LF:=⟨⟨[(4,(.bp 4 0 0)),(5,(.bp 5 0 0)),(5999,(.hd 9)),(6999,(.hd 9))],[(10,t37),(11,(.i .i64)),(12,(.i .i64)),(5000,t47),(6000,t48)]⟩,[((.exit 0),⟨[(4,(.bp 4 0 0)),(5,(.bp 5 0 0)),(5999,(.hd 9)),(6999,(.hd 9))],[(5000,t47),(6000,t48)]⟩)],λ k x=>Jt k x.1 x.2.1 x.2.2.1 x.2.2.2.1 x.2.2.2.2⟩
def Lb.d:Fd := { nt:=27,nv:=2,nm:=[0,1,2,3,5,6,7],res:=[],cs:=λ k=>[(11,Of.e k),(40,Aw.e k)],ls:=[(3,Jt.p)],mv:=[26],rf:=true }
def Lb.a (k:Nat):AC (Lb.d.cs k):=⟨Of.s k,Aw.s k,trivial⟩
def Jt.s:LL Tryz.f16 Lb.d 3 Jt.p:=mL [] Lb.a trivial
def Lb.s (k:Nat):CK 16 (Lb.e k):=mS Lb.d k [3] Tryz.func16 (Lb.a k) ⟨Jt.s,trivial⟩
def H8.e (k:Nat):Ent:=⟨2,[(.val false t0),(.val false t0)],[(.one,.b)],λ x=>H8 k x.1 x.2⟩
def Es.p:LF:=⟨⟨[],[(0,t0),(1,t0),(5,(.i .i64))]⟩,[(.ret,⟨[],[(4,.b)]⟩),((.exit 0),⟨[],[]⟩)],λ k x=>Es k x.1 x.2.1 x.2.2⟩
def H8.d:Fd := { nt:=26,nv:=2,nm:=[0,1,2,3,5],res:=[4],ls:=[(4,Es.p)],rf:=true }
def Es.s:LL Tryz.f17 H8.d 4 Es.p:=mL [] (λ _=>trivial) trivial
def H8.s (k:Nat):CK 17 (H8.e k):=mS H8.d k [4] Tryz.func17 trivial ⟨Es.s,trivial⟩
def H9.e (k:Nat):Ent:=⟨2,[(.val false t4),(.val false t4)],[(.one,.b)],λ x=>H9 k x.1 x.2⟩
def Et.p:LF:=⟨⟨[],[(0,t4),(1,t4),(5,(.i .i64))]⟩,[(.ret,⟨[],[(4,.b)]⟩),((.exit 0),⟨[],[]⟩)],λ k x=>Et k x.1 x.2.1 x.2.2⟩
def H9.d:Fd := { nt:=26,nv:=2,nm:=[0,1,2,3,5],res:=[4],ls:=[(4,Et.p)] }
def Et.s:LL Tryz.f50 H9.d 4 Et.p:=mL [] (λ _=>trivial) trivial
def H9.s (k:Nat):CK 50 (H9.e k):=mS H9.d k [4] Tryz.func50 trivial ⟨Et.s,trivial⟩
def Cc.e (k:Nat):Ent:=⟨2,[(.val false t13),(.val false t13)],[(.one,.b)],λ x=>Cc k x.1 x.2⟩
def Eu.p:LF:=⟨⟨[],[(0,t13),(1,t13),(5,(.i .i64))]⟩,[(.ret,⟨[],[(4,.b)]⟩),((.exit 0),⟨[],[]⟩)],λ k x=>Eu k x.1 x.2.1 x.2.2⟩
def Cc.d:Fd := { nt:=42,nv:=2,nm:=[0,1,2,3,5],res:=[4],cs:=λ k=>[(50,H9.e k)],ls:=[(4,Eu.p)] }
def Cc.a (k:Nat):AC (Cc.d.cs k):=⟨H9.s k,trivial⟩
def Eu.s:LL Tryz.f18 Cc.d 4 Eu.p:=mL [] Cc.a trivial
def Cc.s (k:Nat):CK 18 (Cc.e k):=mS Cc.d k [4] Tryz.func18 (Cc.a k) ⟨Eu.s,trivial⟩
def Hf.e (k:Nat):Ent:=⟨2,[(.val false t31),(.val false t31)],[(.one,.b)],λ x=>Hf k x.1 x.2⟩
def Ft.p:LF:=⟨⟨[],[(0,t31),(1,t31),(5,(.i .i64))]⟩,[(.ret,⟨[],[(4,.b)]⟩),((.exit 0),⟨[],[]⟩)],λ k x=>Ft k x.1 x.2.1 x.2.2⟩
def Hf.d:Fd := { nt:=26,nv:=2,nm:=[0,1,2,3,5],res:=[4],ls:=[(4,Ft.p)] }
def Ft.s:LL Tryz.f19 Hf.d 4 Ft.p:=mL [] (λ _=>trivial) trivial
def Hf.s (k:Nat):CK 19 (Hf.e k):=mS Hf.d k [4] Tryz.func19 trivial ⟨Ft.s,trivial⟩
def Jj.e (k:Nat):Ent:=⟨2,[(.val true t25),(.val true t25)],[(.one,.b)],λ x=>Jj x.1 x.2⟩
def Jj.d:Fd := { nt:=26,nv:=2,nm:=[0,1,2,3],res:=[4],rf:=true }
def Jj.s (k:Nat):CK 144 (Jj.e k):=mS Jj.d k [] Tryz.func144 trivial trivial
def D5.e (k:Nat):Ent:=⟨3,[(.val true t46),(.val false .s),(.val true t25)],[(.one,.b)],λ x=>D5 k x.1 x.2.1 x.2.2⟩
def Dg.p:LF:=⟨⟨[(5,(.bp 5 0 0)),(6999,(.hd 5))],[(1,.s),(10,t35),(11,(.i .i64)),(12,(.i .i64)),(6000,t25)]⟩,[(.ret,⟨[],[(6,.b)]⟩),((.exit 0),⟨[],[]⟩)],λ k x=>Dg k x.1 x.2.1 x.2.2.1 x.2.2.2.1 x.2.2.2.2⟩
def D5.d:Fd := { nt:=27,nv:=3,nm:=[0,1,2,3,4,5,7,8],res:=[6],cs:=λ k=>[(144,Jj.e k)],ls:=[(2,Dg.p)],rf:=true }
def D5.a (k:Nat):AC (D5.d.cs k):=⟨Jj.s k,trivial⟩
def Dg.s:LL Tryz.f110 D5.d 2 Dg.p:=mL [] D5.a trivial
def D5.s (k:Nat):CK 110 (D5.e k):=mS D5.d k [2] Tryz.func110 (D5.a k) ⟨Dg.s,trivial⟩
def Dz.e (k:Nat):Ent:=⟨1,[(.val true t46)],[(.one,.b)],λ x=>Dz k x⟩
def Fu.p:LF:=⟨⟨[(1,(.bp 1 0 0)),(2999,(.hd 9))],[(10,t43),(11,(.i .i64)),(12,(.i .i64)),(23,t14),(24,(.i .i64)),(25,(.i .i64)),(2000,t46)]⟩,[(.ret,⟨[],[(2,.b)]⟩),((.exit 2),⟨[(1,(.bp 1 0 0)),(2999,(.hd 9))],[(10,t43),(11,(.i .i64)),(12,(.i .i64)),(2000,t46)]⟩)],λ k x=>Fu k x.1 x.2.1 x.2.2.1 x.2.2.2.1 x.2.2.2.2.1 x.2.2.2.2.2.1 x.2.2.2.2.2.2⟩
def Gx.p:LF:=⟨⟨[(1,(.bp 1 0 0)),(2999,(.hd 9))],[(10,t43),(11,(.i .i64)),(12,(.i .i64)),(2000,t46)]⟩,[(.ret,⟨[],[(2,.b)]⟩),((.exit 0),⟨[],[]⟩)],λ k x=>Gx k x.1 x.2.1 x.2.2.1 x.2.2.2⟩
def Dz.d:Fd := { nt:=46,nv:=1,nm:=[0,1,3,4,5,6,7,8],res:=[2],cs:=λ k=>[(109,Bz.e k),(110,D5.e k)],ls:=[(5,Fu.p),(2,Gx.p)],rf:=true }
def Dz.a (k:Nat):AC (Dz.d.cs k):=⟨Bz.s k,D5.s k,trivial⟩
def Fu.s:LL Tryz.f51 Dz.d 5 Fu.p:=mL [] Dz.a trivial
def Gx.s:LL Tryz.f51 Dz.d 2 Gx.p:=mL [5] Dz.a ⟨Fu.s,trivial⟩
def Dz.s (k:Nat):CK 51 (Dz.e k):=mS Dz.d k [2] Tryz.func51 (Dz.a k) ⟨Gx.s,trivial⟩
def Ev.e (k:Nat):Ent:=⟨1,[(.val true t46)],[(.one,.b)],λ x=>Ev k x⟩
def F4.p:LF:=⟨⟨[(1,(.bp 1 0 0)),(6,(.bp 6 0 0)),(2999,(.hd 9)),(7999,(.hd 6))],[(7,.b),(11,t43),(12,(.i .i64)),(13,(.i .i64)),(22,t32),(23,(.i .i64)),(24,(.i .i64)),(29,t35),(30,(.i .i64)),(31,(.i .i64)),(2000,t46),(7000,t28)]⟩,[((.exit 4),⟨[(1,(.bp 1 0 0)),(2999,(.hd 9))],[(7,.b),(11,t43),(12,(.i .i64)),(13,(.i .i64)),(22,t32),(23,(.i .i64)),(24,(.i .i64)),(2000,t46)]⟩)],λ k x=>F4 k x.1 x.2.1 x.2.2.1 x.2.2.2.1 x.2.2.2.2.1 x.2.2.2.2.2.1 x.2.2.2.2.2.2.1 x.2.2.2.2.2.2.2.1 x.2.2.2.2.2.2.2.2.1 x.2.2.2.2.2.2.2.2.2.1 x.2.2.2.2.2.2.2.2.2.2.1 x.2.2.2.2.2.2.2.2.2.2.2⟩
def Ih.p:LF:=⟨⟨[(1,(.bp 1 0 0)),(2999,(.hd 9))],[(11,t43),(12,(.i .i64)),(13,(.i .i64)),(22,t32),(23,(.i .i64)),(24,(.i .i64)),(2000,t46)]⟩,[(.ret,⟨[],[(2,.b)]⟩),((.exit 2),⟨[(1,(.bp 1 0 0)),(2999,(.hd 9))],[(11,t43),(12,(.i .i64)),(13,(.i .i64)),(2000,t46)]⟩)],λ k x=>Ih k x.1 x.2.1 x.2.2.1 x.2.2.2.1 x.2.2.2.2.1 x.2.2.2.2.2.1 x.2.2.2.2.2.2⟩
def Ii.p:LF:=⟨⟨[(1,(.bp 1 0 0)),(2999,(.hd 9))],[(11,t43),(12,(.i .i64)),(13,(.i .i64)),(2000,t46)]⟩,[(.ret,⟨[],[(2,.b)]⟩),((.exit 0),⟨[],[]⟩)],λ k x=>Ii k x.1 x.2.1 x.2.2.1 x.2.2.2⟩
def Ev.d:Fd := { nt:=50,nv:=1,nm:=[0,1,3,4,5,6,7,8,9],res:=[2],cs:=λ k=>[(111,Af.e k),(112,Kz.e k)],ls:=[(9,F4.p),(5,Ih.p),(2,Ii.p)],rf:=true }
def Ev.a (k:Nat):AC (Ev.d.cs k):=⟨Af.s k,Kz.s k,trivial⟩
def F4.s:LL Tryz.f52 Ev.d 9 F4.p:=mL [] Ev.a trivial
def Ih.s:LL Tryz.f52 Ev.d 5 Ih.p:=mL [9] Ev.a ⟨F4.s,trivial⟩
def Ii.s:LL Tryz.f52 Ev.d 2 Ii.p:=mL [5] Ev.a ⟨Ih.s,trivial⟩
def Ev.s (k:Nat):CK 52 (Ev.e k):=mS Ev.d k [2] Tryz.func52 (Ev.a k) ⟨Ii.s,trivial⟩
def Ju.e (k:Nat):Ent:=⟨2,[(.val false t0),(.val false .s)],[(.one,.b)],λ x=>Ju k x.1 x.2⟩
def Gy.p:LF:=⟨⟨[],[(1,.s),(7,t0),(8,(.i .i64)),(9,(.i .i64))]⟩,[(.ret,⟨[],[(4,.b)]⟩),((.exit 0),⟨[],[]⟩)],λ k x=>Gy k x.1 x.2.1 x.2.2.1 x.2.2.2⟩
def Ju.d:Fd := { nt:=17,nv:=2,nm:=[0,1,2,3,5,6],res:=[4],ls:=[(2,Gy.p)],rf:=true }
def Gy.s:LL Tryz.f113 Ju.d 2 Gy.p:=mL [] (λ _=>trivial) trivial
def Ju.s (k:Nat):CK 113 (Ju.e k):=mS Ju.d k [2] Tryz.func113 trivial ⟨Gy.s,trivial⟩
def Jr.e (k:Nat):Ent:=⟨3,[(.val true t46),(.val false .s),(.val true t16)],[(.one,.b)],λ x=>Jr k x.1 x.2.1 x.2.2⟩
def Hg.p:LF:=⟨⟨[(5,(.bp 5 0 0)),(6999,(.hd 3))],[(1,.s),(13,t43),(14,(.i .i64)),(15,(.i .i64)),(6000,t16)]⟩,[(.ret,⟨[],[(6,.b)]⟩),((.exit 0),⟨[],[]⟩)],λ k x=>Hg k x.1 x.2.1 x.2.2.1 x.2.2.2.1 x.2.2.2.2⟩
def Jr.d:Fd := { nt:=46,nv:=3,nm:=[0,1,2,3,4,5,7,8,9,10,11],res:=[6],cs:=λ k=>[(14,Au.e k),(109,Bz.e k),(174,Hb.e k)],ls:=[(2,Hg.p)],rf:=true }
def Jr.a (k:Nat):AC (Jr.d.cs k):=⟨Au.s k,Bz.s k,Hb.s k,trivial⟩
def Hg.s:LL Tryz.f114 Jr.d 2 Hg.p:=mL [] Jr.a trivial
def Jr.s (k:Nat):CK 114 (Jr.e k):=mS Jr.d k [2] Tryz.func114 (Jr.a k) ⟨Hg.s,trivial⟩
def Lc.e (k:Nat):Ent:=⟨1,[(.val true t46)],[(.one,.b)],λ x=>Lc k x⟩
def J1.p:LF:=⟨⟨[(1,(.bp 1 0 0)),(2999,(.hd 9))],[(6,t35),(7,(.i .i64)),(8,(.i .i64)),(2000,t46)]⟩,[(.ret,⟨[],[(2,.b)]⟩),((.exit 0),⟨[],[]⟩)],λ k x=>J1 k x.1 x.2.1 x.2.2.1 x.2.2.2⟩
def Lc.d:Fd := { nt:=33,nv:=1,nm:=[0,1,3,4],res:=[2],cs:=λ k=>[(113,Ju.e k),(114,Jr.e k)],ls:=[(2,J1.p)],rf:=true }
def Lc.a (k:Nat):AC (Lc.d.cs k):=⟨Ju.s k,Jr.s k,trivial⟩
def J1.s:LL Tryz.f53 Lc.d 2 J1.p:=mL [] Lc.a trivial
def Lc.s (k:Nat):CK 53 (Lc.e k):=mS Lc.d k [2] Tryz.func53 (Lc.a k) ⟨J1.s,trivial⟩
def G3.e (k:Nat):Ent:=⟨1,[(.val true t46)],[(.one,.b)],λ x=>G3 k x⟩
def Fv.p:LF:=⟨⟨[(1,(.bp 1 0 0)),(2999,(.hd 9))],[(6,t35),(7,(.i .i64)),(8,(.i .i64)),(2000,t46)]⟩,[(.ret,⟨[],[(2,.b)]⟩),((.exit 0),⟨[],[]⟩)],λ k x=>Fv k x.1 x.2.1 x.2.2.1 x.2.2.2⟩
def G3.d:Fd := { nt:=39,nv:=1,nm:=[0,1,3,4],res:=[2],cs:=λ k=>[(14,Au.e k)],ls:=[(2,Fv.p)],rf:=true }
def G3.a (k:Nat):AC (G3.d.cs k):=⟨Au.s k,trivial⟩
def Fv.s:LL Tryz.f54 G3.d 2 Fv.p:=mL [] G3.a trivial
def G3.s (k:Nat):CK 54 (G3.e k):=mS G3.d k [2] Tryz.func54 (G3.a k) ⟨Fv.s,trivial⟩
def N5.e (k:Nat):Ent:=⟨1,[(.val true t46)],[(.one,(.i .i64))],λ x=>N5 k x⟩
def N5.d:Fd := { nt:=23,nv:=1,nm:=[0,1],res:=[2],cs:=λ k=>[(13,Cb.e k),(51,Dz.e k),(52,Ev.e k),(53,Lc.e k),(54,G3.e k)],rf:=true }
def N5.s (k:Nat):CK 20 (N5.e k):=mS N5.d k [] Tryz.func20 ⟨Cb.s k,Dz.s k,Ev.s k,Lc.s k,G3.s k,trivial⟩ trivial
def Ds.e (k:Nat):Ent:=⟨1,[(.val false t4)],[(.one,.b)],λ x=>Ds k x⟩
def Dh.p:LF:=⟨⟨[(5,(.bp 5 0 0)),(6,(.bp 6 0 0)),(6999,(.hd 9)),(7999,(.hd 9))],[(8,(.i .i64)),(6000,t46),(7000,t46)]⟩,[(.ret,⟨[],[(2,.b)]⟩),((.exit 2),⟨[(5,(.bp 5 0 0)),(6999,(.hd 9))],[(6000,t46)]⟩)],λ k x=>Dh k x.1 x.2.1 x.2.2⟩
def Eb.p:LF:=⟨⟨[(3,(.bp 3 0 0)),(5,(.bp 5 0 0)),(6,(.bp 6 0 0)),(4999,(.hd 9)),(6999,(.hd 9)),(7999,(.hd 9))],[(4,t37),(7,(.i .i64)),(4000,t46),(6000,t46),(7000,t46)]⟩,[((.exit 0),⟨[(3,(.bp 3 0 0)),(5,(.bp 5 0 0)),(6,(.bp 6 0 0)),(4999,(.hd 9)),(6999,(.hd 9)),(7999,(.hd 9))],[(4000,t46),(6000,t46),(7000,t46)]⟩)],λ k x=>Eb k x.1 x.2.1 x.2.2.1 x.2.2.2.1 x.2.2.2.2⟩
def Ds.d:Fd := { nt:=122,nv:=1,nm:=[0,1,3,4,5,6,7,8,9,10],res:=[2],cs:=λ k=>[(9,Oy.e k),(11,Of.e k),(15,E7.e k),(16,Lb.e k),(17,H8.e k),(18,Cc.e k),(19,Hf.e k),(20,N5.e k)],ls:=[(13,Dh.p),(7,Eb.p)],sh:=true,rf:=true }
def Ds.a (k:Nat):AC (Ds.d.cs k):=⟨Oy.s k,Of.s k,E7.s k,Lb.s k,H8.s k,Cc.s k,Hf.s k,N5.s k,trivial⟩
def Dh.s:LL Tryz.f4 Ds.d 13 Dh.p:=mL [] Ds.a trivial
def Eb.s:LL Tryz.f4 Ds.d 7 Eb.p:=mL [] Ds.a trivial
def Ds.s (k:Nat):CK 4 (Ds.e k):=mS Ds.d k [7,13] Tryz.func4 (Ds.a k) ⟨Eb.s,Dh.s,trivial⟩
end

end Go.Proofs.YtmhhjceoinoekaaGreat.Vf
