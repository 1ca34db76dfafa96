import Derived.Test.YtmhhjceoinoekaaGreatMab
import Derived.Test.YtmhhjceoinoekaaGreatMaj
import Derived.Test.YtmhhjceoinoekaaGreatProg
import Derived.KernelRfl
set_option linter.all false
namespace Go.Proofs.YtmhhjceoinoekaaGreat.Vf
open Go
open List (length getD)
open Int (toNat)
open Go.IntKind (wrap)
open BitVec (ofInt)

section
open Go.Proofs
@[reducible] def t0:Ty := .sl 9 .s
@[reducible] def t1:Ty := .sl 4 .b
@[reducible] def t2:Ty := .ow 9 .s
@[reducible] def t3:Ty := .ow 4 .b
@[reducible] def t4:Ty := .sl 5 (.i .u8)
@[reducible] def t5:Ty := .ow 5 (.i .u8)
@[reducible] def t6:Ty := .sl 3 (.i .i64)
@[reducible] def t7:Ty := .ow 3 (.i .i64)
@[reducible] def t8:Ty := .pr .s (.i .u64)
@[reducible] def t9:Ty := .pr (.i .i64) (.i .i64)
@[reducible] def t10:Ty := .sl 127 t6
@[reducible] def t11:Ty := .pr .s t4
@[reducible] def t12:Ty := .pr .s t5
@[reducible] def t13:Ty := .sl 93 t11
@[reducible] def t14:Ty := .ow 93 t11
@[reducible] def t15:Ty := .ow 93 t12
@[reducible] def t16:Ty := .pr (.i .i64) t9
@[reducible] def t17:Ty := .pr (.i .i64) t10
@[reducible] def t18:Ty := .pr (.i .i64) (.ow 127 t6)
@[reducible] def t19:Ty := .pr (.i .i64) (.ow 127 t7)
@[reducible] def t20:Ty := .pr t4 (.pr (.i .i64) .b)
@[reducible] def t21:Ty := .pr t4 t9
@[reducible] def t22:Ty := .sl 88 t16
@[reducible] def t23:Ty := .ow 88 t16
@[reducible] def t24:Ty := .pr (.i .i64) (.pr (.i .i64) (.pr .b (.i .u8)))
@[reducible] def t25:Ty := .pr t16 (.pr .b t4)
@[reducible] def t26:Ty := .pr t16 (.pr .b t5)
@[reducible] def t27:Ty := .pr t13 t13
@[reducible] def t28:Ty := .pr .s (.pr t16 (.pr .b (.i .i64)))
@[reducible] def t29:Ty := .pr t14 t14
@[reducible] def t30:Ty := .pr t15 t15
@[reducible] def t31:Ty := .sl 96 t28
@[reducible] def t32:Ty := .ow 96 t28
@[reducible] def t33:Ty := .pr .s (.pr t25 .b)
@[reducible] def t34:Ty := .pr (.i .i64) (.pr (.i .i64) (.pr .s (.pr t4 (.pr (.i .i64) t6))))
@[reducible] def t35:Ty := .sl 71 t33
@[reducible] def t36:Ty := .ow 71 t33
@[reducible] def t37:Ty := .pr t16 (.pr t35 t0)
@[reducible] def t38:Ty := .pr t32 t32
@[reducible] def t39:Ty := .pr t31 t32
@[reducible] def t40:Ty := .pr (.i .i64) (.pr t27 (.pr t31 t31))
@[reducible] def t41:Ty := .pr (.i .i64) (.pr t29 t38)
@[reducible] def t42:Ty := .pr (.i .i64) (.pr t27 t38)
@[reducible] def t43:Ty := .pr (.i .i64) (.pr t29 t39)
@[reducible] def t44:Ty := .pr (.i .i64) (.pr t27 t39)
@[reducible] def t45:Ty := .sl 54 t40
@[reducible] def t46:Ty := .ow 54 t40
@[reducible] def t47:Ty := .pr t46 (.pr t16 (.pr t36 t2))
@[reducible] def t48:Ty := .pr t22 (.pr t17 (.pr t45 t37))
@[reducible] def t49:Ty := .pr t23 (.pr t17 (.pr t46 (.pr t16 (.pr t36 t0))))
@[reducible] def t50:Ty := .pr t23 (.pr t17 t47)
@[reducible] def t51:Ty := .pr t23 (.pr t18 t47)
@[reducible] def t52:Ty := .pr t23 (.pr t17 (.pr t46 t37))
def tiL:List (Nat×TI):=[(2,⟨(.i .i64),false,8,[]⟩),
 (3,⟨(.i .i64),false,8,[]⟩),
 (4,⟨.b,false,1,[]⟩),
 (5,⟨(.i .u8),false,1,[]⟩),
 (6,⟨(.i .u8),false,1,[]⟩),
 (7,⟨t24,true,24,[(0,1,false),(1,1,false),(2,1,false),(3,1,false)]⟩),
 (8,⟨t24,true,24,[(0,1,false),(1,1,false),(2,1,false),(3,1,false)]⟩),
 (9,⟨.s,false,16,[]⟩),
 (10,⟨.s,false,16,[]⟩),
 (11,⟨.s,false,16,[]⟩),
 (12,⟨(.i .u64),false,8,[]⟩),
 (13,⟨t8,true,24,[(0,1,false),(1,1,false)]⟩),
 (14,⟨t8,true,24,[(0,1,false),(1,1,false)]⟩),
 (21,⟨(.i .i32),false,4,[]⟩),
 (22,⟨t4,false,24,[]⟩),
 (24,⟨t22,false,24,[]⟩),
 (25,⟨t10,false,24,[]⟩),
 (26,⟨t17,true,32,[(0,1,false),(1,1,false)]⟩),
 (27,⟨t17,true,32,[(0,1,false),(1,1,false)]⟩),
 (28,⟨t45,false,24,[]⟩),
 (29,⟨t16,true,24,[(0,1,false),(1,1,false),(2,1,false)]⟩),
 (30,⟨t16,true,24,[(0,1,false),(1,1,false),(2,1,false)]⟩),
 (31,⟨t35,false,24,[]⟩),
 (32,⟨t0,false,24,[]⟩),
 (33,⟨t48,true,152,[(0,1,false),(1,2,true),(3,1,false),(4,3,true),(7,1,false),(8,1,false)]⟩),
 (34,⟨t48,true,152,[(0,1,false),(1,2,true),(3,1,false),(4,3,true),(7,1,false),(8,1,false)]⟩),
 (35,⟨t6,false,24,[]⟩),
 (36,⟨t34,true,88,[(0,1,false),(1,1,false),(2,1,false),(3,1,false),(4,1,false),(5,1,false)]⟩),
 (37,⟨t34,true,88,[(0,1,false),(1,1,false),(2,1,false),(3,1,false),(4,1,false),(5,1,false)]⟩),
 (44,⟨(.sl 37 t34),false,24,[]⟩),
 (49,⟨t13,false,24,[]⟩),
 (50,⟨t27,true,48,[(0,1,false),(1,1,false)]⟩),
 (51,⟨t27,true,48,[(0,1,false),(1,1,false)]⟩),
 (52,⟨t31,false,24,[]⟩),
 (53,⟨t40,true,104,[(0,1,false),(1,2,true),(3,1,false),(4,1,false)]⟩),
 (54,⟨t40,true,104,[(0,1,false),(1,2,true),(3,1,false),(4,1,false)]⟩),
 (61,⟨t25,true,56,[(0,3,true),(3,1,false),(4,1,false)]⟩),
 (62,⟨t25,true,56,[(0,3,true),(3,1,false),(4,1,false)]⟩),
 (70,⟨t33,true,80,[(0,1,false),(1,5,true),(6,1,false)]⟩),
 (71,⟨t33,true,80,[(0,1,false),(1,5,true),(6,1,false)]⟩),
 (87,⟨t16,true,24,[(0,1,false),(1,1,false),(2,1,false)]⟩),
 (88,⟨t16,true,24,[(0,1,false),(1,1,false),(2,1,false)]⟩),
 (92,⟨t11,true,40,[(0,1,false),(1,1,false)]⟩),
 (93,⟨t11,true,40,[(0,1,false),(1,1,false)]⟩),
 (95,⟨t28,true,56,[(0,1,false),(1,3,true),(4,1,false),(5,1,false)]⟩),
 (96,⟨t28,true,56,[(0,1,false),(1,3,true),(4,1,false),(5,1,false)]⟩),
 (115,⟨t21,true,40,[(0,1,false),(1,1,false),(2,1,false)]⟩),
 (116,⟨t21,true,40,[(0,1,false),(1,1,false),(2,1,false)]⟩),
 (126,⟨t6,true,24,[(0,1,false)]⟩),
 (127,⟨t6,true,24,[(0,1,false)]⟩),
 (168,⟨(.i .u64),false,8,[]⟩),
 (173,⟨t1,false,24,[]⟩),
 (190,⟨t20,true,40,[(0,1,false),(1,1,false),(2,1,false)]⟩),
 (191,⟨t20,true,40,[(0,1,false),(1,1,false),(2,1,false)]⟩),
 (240,⟨(.i .u32),false,4,[]⟩),
 (246,⟨(.i .u8),false,1,[]⟩),
 (247,⟨(.i .u8),false,1,[]⟩),
 (250,⟨(.i .i32),false,4,[]⟩),
 (251,⟨(.i .i32),false,4,[]⟩)]
def ti:TypeId→Option TI:=lk tiL
def Cwb:List Nat:=[29,30,87,88,95,96]
def eqs:TypeId→Bool:=λ T=>Cwb.contains T
def sK:Aqa Tryz.prog ti eqs∧∀ T,Uh Tryz.prog ti T=true:=Fhb (P:=Tryz.prog) (ti:=ti) (eqs:=eqs) (keys:=tiL.map Prod.fst) (Cwb:=Cwb) Z8a (by kernel_rfl) (by kernel_rfl) rfl (by kernel_rfl)
def sO:Aqa Tryz.prog ti eqs:=sK.1
def Gdb:∀ T t,ti T=some t→TOk Tryz.prog T t:=sO.tok
def Geb:∀ T,Uh Tryz.prog ti T=true:=sK.2
abbrev CK:=Q3 Tryz.prog
abbrev LL:=LK Tryz.prog
abbrev AC:=Bgb Tryz.prog
def mS {f:FuncId} {fn:Func} (D:Fd) (k:Nat) {en:Ent} (ids:List Nat) (hf:Tryz.prog.funcs[f]? = some fn) (hc:AC (D.cs k)) (hi:Bhb Tryz.prog fn D ids) (h:(Fgb fn D en,Mt (bo fn),ids.map λ l=>first (M2 l (bo fn)))=(true,ids.map λ l=>M2 l (bo fn),ids):=by kernel_rfl) (hr:∀ x,Qoa (D.n ti eqs k) (bo fn) fn.results.toList en x=en.run x:=by intro x;kernel_rfl):CK f en:=mkS sO ids hf hc hi (congrArg Prod.fst h) (congrArg Prod.snd h) hr
def mL {fn:Func} {D:Fd} {l:Nat} {p:LF} (ids:List Nat) (hc:∀ k,AC (D.cs k)) (hi:Bhb Tryz.prog fn D ids) (h:(Nat.beq D.nt fn.ntmps,Mt (M2 l (bo fn)),ids.map λ l=>first (M2 l (bo fn)))=(true,ids.map λ l=>M2 l (bo fn),ids):=by kernel_rfl) (h0:∀ x,p.f 0 x=none:=by intro _;rfl) (hs:G5b ti eqs fn D l p:=by intro k x;kernel_rfl):LL fn D l p:=mkL sO ids (congrArg Prod.fst h) hc hi (congrArg Prod.snd h) h0 hs
def O8.e (k:Nat):Ent:=⟨1,[(.val false t4)],[(.one,.b)],λ x=>O8 x⟩
def O8.d:Fd := { nt:=6,nv:=1,nm:=[0,1],res:=[2] }
def O8.s (k:Nat):CK 9 (O8.e k):=mS O8.d k [] Tryz.func9 trivial trivial
def Ep.e (k:Nat):Ent:=⟨3,[(.val false (.i .i64)),(.val false (.i .i64)),(.val false (.i .i64))],[(.one,.b)],λ x=>Ep x.1 x.2.1 x.2.2⟩
def Ep.d:Fd := { nt:=15,nv:=3,nm:=[0,1,2,3,4,5],res:=[6] }
def Ep.s (k:Nat):CK 74 (Ep.e k):=mS Ep.d k [] Tryz.func74 trivial trivial
def H0.e (k:Nat):Ent:=⟨1,[(.val false t22)],[(.one,.b)],λ x=>H0 k x⟩
def Gj.p:LF:=⟨⟨[],[(0,t22),(5,t22),(6,(.i .i64)),(7,(.i .i64))]⟩,[(.ret,⟨[],[(2,.b)]⟩),((.exit 0),⟨[],[(0,t22)]⟩)],λ k x=>Gj k x.1 x.2.1 x.2.2.1 x.2.2.2⟩
def H0.d:Fd := { nt:=47,nv:=1,nm:=[0,1,3,4],res:=[2],cs:=λ k=>[(74,Ep.e k)],ls:=[(2,Gj.p)],rf:=true }
def H0.a (k:Nat):AC (H0.d.cs k):=⟨Ep.s k,trivial⟩
def Gj.s:LL Tryz.f100 H0.d 2 Gj.p:=mL [] H0.a trivial
def H0.s (k:Nat):CK 100 (H0.e k):=mS H0.d k [2] Tryz.func100 (H0.a k) ⟨Gj.s,trivial⟩
def I9.e (k:Nat):Ent:=⟨2,[(.val false t6),(.val false (.i .i64))],[(.one,.b)],λ x=>I9 k x.1 x.2⟩
def Hd.p:LF:=⟨⟨[],[(1,(.i .i64)),(7,t6),(8,(.i .i64)),(9,(.i .i64))]⟩,[(.ret,⟨[],[(4,.b)]⟩),((.exit 0),⟨[],[]⟩)],λ k x=>Hd k x.1 x.2.1 x.2.2.1 x.2.2.2⟩
def I9.d:Fd := { nt:=17,nv:=2,nm:=[0,1,2,3,5,6],res:=[4],ls:=[(2,Hd.p)],rf:=true }
def Hd.s:LL Tryz.f145 I9.d 2 Hd.p:=mL [] (λ _=>trivial) trivial
def I9.s (k:Nat):CK 145 (I9.e k):=mS I9.d k [2] Tryz.func145 trivial ⟨Hd.s,trivial⟩
def J5.e (k:Nat):Ent:=⟨1,[(.val false t6)],[(.one,.b)],λ x=>J5 k x⟩
def Ik.p:LF:=⟨⟨[],[(0,t6),(5,t6),(6,(.i .i64)),(7,(.i .i64))]⟩,[(.ret,⟨[],[(2,.b)]⟩),((.exit 0),⟨[],[]⟩)],λ k x=>Ik k x.1 x.2.1 x.2.2.1 x.2.2.2⟩
def J5.d:Fd := { nt:=18,nv:=1,nm:=[0,1,3,4],res:=[2],cs:=λ k=>[(145,I9.e k)],ls:=[(2,Ik.p)],rf:=true }
def J5.a (k:Nat):AC (J5.d.cs k):=⟨I9.s k,trivial⟩
def Ik.s:LL Tryz.f101 J5.d 2 Ik.p:=mL [] J5.a trivial
def J5.s (k:Nat):CK 101 (J5.e k):=mS J5.d k [2] Tryz.func101 (J5.a k) ⟨Ik.s,trivial⟩
def Lb.e (k:Nat):Ent:=⟨2,[(.val false t22),(.val false (.i .i64))],[(.agg,t16),(.one,.b)],λ x=>Lb k x.1 x.2⟩
def Il.p:LF:=⟨⟨[(4,(.bp 4 0 0)),(5999,(.hd 3))],[(1,(.i .i64)),(8,t22),(9,(.i .i64)),(10,(.i .i64)),(5000,t16)]⟩,[(.ret,⟨[(4,(.bp 4 0 0)),(5999,(.hd 3))],[(5,.b),(5000,t16)]⟩),((.exit 0),⟨[(4,(.bp 4 0 0)),(5999,(.hd 3))],[(5000,t16)]⟩)],λ k x=>Il k x.1 x.2.1 x.2.2.1 x.2.2.2.1 x.2.2.2.2⟩
def Lb.d:Fd := { nt:=21,nv:=2,nm:=[0,1,2,3,6,7],res:=[5],ls:=[(2,Il.p)],rf:=true }
def Il.s:LL Tryz.f102 Lb.d 2 Il.p:=mL [] (λ _=>trivial) trivial
def Lb.s (k:Nat):CK 102 (Lb.e k):=mS Lb.d k [2] Tryz.func102 trivial ⟨Il.s,trivial⟩
def Fl.e (k:Nat):Ent:=⟨2,[(.val true t17),(.val false t22)],[(.one,.b)],λ x=>Fl k x.1 x.2⟩
def He.p:LF:=⟨⟨[(2,(.bp 2 0 0)),(3999,(.hd 2))],[(1,t22),(28,t10),(29,(.i .i64)),(30,(.i .i64)),(47,t6),(48,(.i .i64)),(49,(.i .i64)),(3000,t17)]⟩,[(.ret,⟨[],[(4,.b)]⟩),((.exit 2),⟨[(2,(.bp 2 0 0)),(3999,(.hd 2))],[(1,t22),(28,t10),(29,(.i .i64)),(30,(.i .i64)),(3000,t17)]⟩)],λ k x=>He k x.1 x.2.1 x.2.2.1 x.2.2.2.1 x.2.2.2.2.1 x.2.2.2.2.2.1 x.2.2.2.2.2.2.1 x.2.2.2.2.2.2.2⟩
def Hf.p:LF:=⟨⟨[(2,(.bp 2 0 0)),(3999,(.hd 2))],[(1,t22),(28,t10),(29,(.i .i64)),(30,(.i .i64)),(3000,t17)]⟩,[(.ret,⟨[],[(4,.b)]⟩),((.exit 0),⟨[],[]⟩)],λ k x=>Hf k x.1 x.2.1 x.2.2.1 x.2.2.2.1 x.2.2.2.2⟩
def Fl.d:Fd := { nt:=63,nv:=2,nm:=[0,1,2,3,5,6,7,8,9,10],res:=[4],cs:=λ k=>[(74,Ep.e k),(100,H0.e k),(101,J5.e k),(102,Lb.e k)],ls:=[(9,He.p),(4,Hf.p)],rf:=true }
def Fl.a (k:Nat):AC (Fl.d.cs k):=⟨Ep.s k,H0.s k,J5.s k,Lb.s k,trivial⟩
def He.s:LL Tryz.f44 Fl.d 9 He.p:=mL [] Fl.a trivial
def Hf.s:LL Tryz.f44 Fl.d 4 Hf.p:=mL [9] Fl.a ⟨He.s,trivial⟩
def Fl.s (k:Nat):CK 44 (Fl.e k):=mS Fl.d k [4] Tryz.func44 (Fl.a k) ⟨Hf.s,trivial⟩
def Ec.e (k:Nat):Ent:=⟨1,[(.val true t16)],[(.one,.b)],λ x=>Ec x⟩
def Ec.d:Fd := { nt:=16,nv:=1,nm:=[0,1],res:=[2],cs:=λ k=>[(74,Ep.e k)] }
def Ec.s (k:Nat):CK 45 (Ec.e k):=mS Ec.d k [] Tryz.func45 ⟨Ep.s k,trivial⟩ trivial
def Cb.e (k:Nat):Ent:=⟨2,[(.val true t16),(.val true t16)],[(.one,.b)],λ x=>Cb x.1 x.2⟩
def Cb.d:Fd := { nt:=32,nv:=2,nm:=[0,1,2,3],res:=[4] }
def Cb.s (k:Nat):CK 14 (Cb.e k):=mS Cb.d k [] Tryz.func14 trivial trivial
def Ar.e (k:Nat):Ent:=⟨1,[(.val false .s)],[(.one,.b)],λ x=>Ar k x⟩
def Aq.p:LF:=⟨⟨[],[(0,.s),(3,(.i .i64))]⟩,[(.ret,⟨[],[(2,.b)]⟩),((.exit 0),⟨[],[(0,.s)]⟩)],λ k x=>Aq k x.1 x.2⟩
def Ar.d:Fd := { nt:=45,nv:=1,nm:=[0,1,3,4],res:=[2],cs:=λ k=>[(74,Ep.e k)],ls:=[(2,Aq.p)] }
def Ar.a (k:Nat):AC (Ar.d.cs k):=⟨Ep.s k,trivial⟩
def Aq.s:LL Tryz.f48 Ar.d 2 Aq.p:=mL [] Ar.a trivial
def Ar.s (k:Nat):CK 48 (Ar.e k):=mS Ar.d k [2] Tryz.func48 (Ar.a k) ⟨Aq.s,trivial⟩
def Fw.e (k:Nat):Ent:=⟨1,[(.val true t25)],[(.one,.b)],λ x=>Fw x⟩
def Fw.d:Fd := { nt:=23,nv:=1,nm:=[0,1],res:=[2],cs:=λ k=>[(45,Ec.e k)] }
def Fw.s (k:Nat):CK 103 (Fw.e k):=mS Fw.d k [] Tryz.func103 ⟨Ec.s k,trivial⟩ trivial
def Dh.e (k:Nat):Ent:=⟨1,[(.val true t48)],[(.one,.b)],λ x=>Dh k x⟩
def Er.p:LF:=⟨⟨[(1,(.bp 1 0 0)),(2999,(.hd 9))],[(6,t35),(7,(.i .i64)),(8,(.i .i64)),(2000,t48)]⟩,[(.ret,⟨[],[(2,.b)]⟩),((.exit 0),⟨[(1,(.bp 1 0 0)),(2999,(.hd 9))],[(2000,t48)]⟩)],λ k x=>Er k x.1 x.2.1 x.2.2.1 x.2.2.2⟩
def Dh.d:Fd := { nt:=35,nv:=1,nm:=[0,1,3,4],res:=[2],cs:=λ k=>[(14,Cb.e k),(48,Ar.e k),(103,Fw.e k)],ls:=[(2,Er.p)],rf:=true }
def Dh.a (k:Nat):AC (Dh.d.cs k):=⟨Cb.s k,Ar.s k,Fw.s k,trivial⟩
def Er.s:LL Tryz.f46 Dh.d 2 Er.p:=mL [] Dh.a trivial
def Dh.s (k:Nat):CK 46 (Dh.e k):=mS Dh.d k [2] Tryz.func46 (Dh.a k) ⟨Er.s,trivial⟩
def K8.e (k:Nat):Ent:=⟨1,[(.val true t28)],[(.one,.b)],λ x=>K8 k x⟩
def K8.d:Fd := { nt:=26,nv:=1,nm:=[0,1],res:=[2],cs:=λ k=>[(45,Ec.e k),(48,Ar.e k),(74,Ep.e k)] }
def K8.s (k:Nat):CK 104 (K8.e k):=mS K8.d k [] Tryz.func104 ⟨Ec.s k,Ar.s k,Ep.s k,trivial⟩ trivial
def Ed.e (k:Nat):Ent:=⟨1,[(.val false t13)],[(.one,.b)],λ x=>Ed k x⟩
def Es.p:LF:=⟨⟨[],[(0,t13),(5,t13),(6,(.i .i64)),(7,(.i .i64))]⟩,[(.ret,⟨[],[(2,.b)]⟩),((.exit 0),⟨[],[(0,t13)]⟩)],λ k x=>Es k x.1 x.2.1 x.2.2.1 x.2.2.2⟩
def Ed.d:Fd := { nt:=41,nv:=1,nm:=[0,1,3,4],res:=[2],cs:=λ k=>[(48,Ar.e k)],ls:=[(2,Es.p)] }
def Ed.a (k:Nat):AC (Ed.d.cs k):=⟨Ar.s k,trivial⟩
def Es.s:LL Tryz.f168 Ed.d 2 Es.p:=mL [] Ed.a trivial
def Ed.s (k:Nat):CK 168 (Ed.e k):=mS Ed.d k [2] Tryz.func168 (Ed.a k) ⟨Es.s,trivial⟩
def Bw.e (k:Nat):Ent:=⟨1,[(.val true t27)],[(.one,.b)],λ x=>Bw k x⟩
def Bw.d:Fd := { nt:=11,nv:=1,nm:=[0,1],res:=[2],cs:=λ k=>[(168,Ed.e k)] }
def Bw.s (k:Nat):CK 105 (Bw.e k):=mS Bw.d k [] Tryz.func105 ⟨Ed.s k,trivial⟩ trivial
def Ei.e (k:Nat):Ent:=⟨1,[(.val false t31)],[(.one,.b)],λ x=>Ei k x⟩
def Gk.p:LF:=⟨⟨[],[(0,t31),(5,t31),(6,(.i .i64)),(7,(.i .i64))]⟩,[(.ret,⟨[],[(2,.b)]⟩),((.exit 0),⟨[],[(0,t31)]⟩)],λ k x=>Gk k x.1 x.2.1 x.2.2.1 x.2.2.2⟩
def Ei.d:Fd := { nt:=34,nv:=1,nm:=[0,1,3,4],res:=[2],cs:=λ k=>[(104,K8.e k)],ls:=[(2,Gk.p)] }
def Ei.a (k:Nat):AC (Ei.d.cs k):=⟨K8.s k,trivial⟩
def Gk.s:LL Tryz.f106 Ei.d 2 Gk.p:=mL [] Ei.a trivial
def Ei.s (k:Nat):CK 106 (Ei.e k):=mS Ei.d k [2] Tryz.func106 (Ei.a k) ⟨Gk.s,trivial⟩
def Ej.e (k:Nat):Ent:=⟨1,[(.val true t40)],[(.one,.b)],λ x=>Ej k x⟩
def Hg.p:LF:=⟨⟨[(1,(.bp 1 0 0)),(2999,(.hd 5))],[(6,t31),(7,(.i .i64)),(8,(.i .i64)),(2000,(.i .i64)),(2001,t13),(2002,t13),(2003,t31),(2004,t31)]⟩,[(.ret,⟨[],[(2,.b)]⟩),((.exit 0),⟨[(1,(.bp 1 0 0)),(2999,(.hd 5))],[(2000,(.i .i64)),(2001,t13),(2002,t13),(2003,t31),(2004,t31)]⟩)],λ k x=>Hg k x.1 x.2.1 x.2.2.1 x.2.2.2.1 x.2.2.2.2.1 x.2.2.2.2.2.1 x.2.2.2.2.2.2.1 x.2.2.2.2.2.2.2⟩
def Ej.d:Fd := { nt:=35,nv:=1,nm:=[0,1,3,4],res:=[2],cs:=λ k=>[(74,Ep.e k),(104,K8.e k),(105,Bw.e k),(106,Ei.e k)],ls:=[(2,Hg.p)] }
def Ej.a (k:Nat):AC (Ej.d.cs k):=⟨Ep.s k,K8.s k,Bw.s k,Ei.s k,trivial⟩
def Hg.s:LL Tryz.f47 Ej.d 2 Hg.p:=mL [] Ej.a trivial
def Ej.s (k:Nat):CK 47 (Ej.e k):=mS Ej.d k [2] Tryz.func47 (Ej.a k) ⟨Hg.s,trivial⟩
def Bl.e (k:Nat):Ent:=⟨1,[(.val true t48)],[(.one,.b)],λ x=>Bl k x⟩
def Cy.p:LF:=⟨⟨[(1,(.bp 1 0 0)),(2999,(.hd 9))],[(57,t0),(58,(.i .i64)),(59,(.i .i64)),(2000,t48)]⟩,[(.ret,⟨[],[(2,.b)]⟩),((.exit 2),⟨[],[]⟩)],λ k x=>Cy k x.1 x.2.1 x.2.2.1 x.2.2.2⟩
def Et.p:LF:=⟨⟨[(1,(.bp 1 0 0)),(2999,(.hd 9))],[(34,t45),(35,(.i .i64)),(36,(.i .i64)),(2000,t48)]⟩,[(.ret,⟨[],[(2,.b)]⟩),((.exit 0),⟨[(1,(.bp 1 0 0)),(2999,(.hd 9))],[(2000,t48)]⟩)],λ k x=>Et k x.1 x.2.1 x.2.2.1 x.2.2.2⟩
def Bl.d:Fd := { nt:=82,nv:=1,nm:=[0,1,3,4,5,6],res:=[2],cs:=λ k=>[(44,Fl.e k),(45,Ec.e k),(46,Dh.e k),(47,Ej.e k),(48,Ar.e k)],ls:=[(10,Cy.p),(4,Et.p)],rf:=true }
def Bl.a (k:Nat):AC (Bl.d.cs k):=⟨Fl.s k,Ec.s k,Dh.s k,Ej.s k,Ar.s k,trivial⟩
def Cy.s:LL Tryz.f13 Bl.d 10 Cy.p:=mL [] Bl.a trivial
def Et.s:LL Tryz.f13 Bl.d 4 Et.p:=mL [] Bl.a trivial
def Bl.s (k:Nat):CK 13 (Bl.e k):=mS Bl.d k [4,10] Tryz.func13 (Bl.a k) ⟨Et.s,Cy.s,trivial⟩
def Gl.e (k:Nat):Ent:=⟨2,[(.val false t4),(.val false t4)],[(.one,.b)],λ x=>Gl k x.1 x.2⟩
def Dp.p:LF:=⟨⟨[],[(0,t4),(1,t4),(5,(.i .i64))]⟩,[(.ret,⟨[],[(4,.b)]⟩),((.exit 0),⟨[],[]⟩)],λ k x=>Dp k x.1 x.2.1 x.2.2⟩
def Gl.d:Fd := { nt:=26,nv:=2,nm:=[0,1,2,3,5],res:=[4],ls:=[(4,Dp.p)] }
def Dp.s:LL Tryz.f50 Gl.d 4 Dp.p:=mL [] (λ _=>trivial) trivial
def Gl.s (k:Nat):CK 50 (Gl.e k):=mS Gl.d k [4] Tryz.func50 trivial ⟨Dp.s,trivial⟩
def Cs.e (k:Nat):Ent:=⟨2,[(.val false t13),(.val false t13)],[(.one,.b)],λ x=>Cs k x.1 x.2⟩
def Dq.p:LF:=⟨⟨[],[(0,t13),(1,t13),(5,(.i .i64))]⟩,[(.ret,⟨[],[(4,.b)]⟩),((.exit 0),⟨[],[]⟩)],λ k x=>Dq k x.1 x.2.1 x.2.2⟩
def Cs.d:Fd := { nt:=42,nv:=2,nm:=[0,1,2,3,5],res:=[4],cs:=λ k=>[(50,Gl.e k)],ls:=[(4,Dq.p)] }
def Cs.a (k:Nat):AC (Cs.d.cs k):=⟨Gl.s k,trivial⟩
def Dq.s:LL Tryz.f18 Cs.d 4 Dq.p:=mL [] Cs.a trivial
def Cs.s (k:Nat):CK 18 (Cs.e k):=mS Cs.d k [4] Tryz.func18 (Cs.a k) ⟨Dq.s,trivial⟩
def I1.e (k:Nat):Ent:=⟨2,[(.val false t31),(.val false t31)],[(.one,.b)],λ x=>I1 k x.1 x.2⟩
def Eu.p:LF:=⟨⟨[],[(0,t31),(1,t31),(5,(.i .i64))]⟩,[(.ret,⟨[],[(4,.b)]⟩),((.exit 0),⟨[],[]⟩)],λ k x=>Eu k x.1 x.2.1 x.2.2⟩
def I1.d:Fd := { nt:=26,nv:=2,nm:=[0,1,2,3,5],res:=[4],ls:=[(4,Eu.p)] }
def Eu.s:LL Tryz.f19 I1.d 4 Eu.p:=mL [] (λ _=>trivial) trivial
def I1.s (k:Nat):CK 19 (I1.e k):=mS I1.d k [4] Tryz.func19 trivial ⟨Eu.s,trivial⟩
def Jg.e (k:Nat):Ent:=⟨1,[(.val false t4)],[(.ptr,t21)],λ x=>Jg k x⟩
def Im.p:LF:=⟨⟨[],[(0,t4),(3,(.i .i64)),(4,(.i .i64))]⟩,[((.exit 0),⟨[],[(0,t4),(3,(.i .i64))]⟩)],λ k x=>Im k x.1 x.2.1 x.2.2⟩
def Jg.d:Fd := { nt:=32,nv:=1,nm:=[0,1,3,4],res:=[2],ls:=[(3,Im.p)] }
def Im.s:LL Tryz.f34 Jg.d 3 Im.p:=mL [] (λ _=>trivial) trivial
def Jg.s (k:Nat):CK 34 (Jg.e k):=mS Jg.d k [3] Tryz.func34 trivial ⟨Im.s,trivial⟩
def Fx.e (k:Nat):Ent:=⟨1,[(.ptr t21 t21)],[(.one,(.i .i64))],λ x=>Fx x⟩
def Fx.d:Fd := { nt:=58,nv:=1,nm:=[0,1,3],res:=[2] }
def Fx.s (k:Nat):CK 85 (Fx.e k):=mS Fx.d k [] Tryz.func85 trivial trivial
def A3.e (k:Nat):Ent:=⟨2,[(.ptr t21 t21),(.val false (.i .i64))],[(.one,(.i .i64))],λ x=>A3 x.1 x.2⟩
def A3.d:Fd := { nt:=31,nv:=2,nm:=[0,1,2,3,5,6,7],res:=[4],cs:=λ k=>[(85,Fx.e k)] }
def A3.s (k:Nat):CK 37 (A3.e k):=mS A3.d k [] Tryz.func37 ⟨Fx.s k,trivial⟩ trivial
def Ac.e (k:Nat):Ent:=⟨2,[(.ptr t21 t21),(.val false t6)],[(.one,(.i .i64))],λ x=>Ac x.1 x.2⟩
def Ac.d:Fd := { nt:=12,nv:=2,nm:=[0,1,2,3],res:=[4],cs:=λ k=>[(37,A3.e k)] }
def Ac.s (k:Nat):CK 39 (Ac.e k):=mS Ac.d k [] Tryz.func39 ⟨A3.s k,trivial⟩ trivial
def Ka.e (k:Nat):Ent:=⟨2,[(.ptr t21 t21),(.val false t0)],[(.one,.s)],λ x=>Ka x.1 x.2⟩
def Ka.d:Fd := { nt:=12,nv:=2,nm:=[0,1,2,3],res:=[4],cs:=λ k=>[(37,A3.e k)] }
def Ka.s (k:Nat):CK 115 (Ka.e k):=mS Ka.d k [] Tryz.func115 ⟨A3.s k,trivial⟩ trivial
def Bx.e (k:Nat):Ent:=⟨1,[(.ptr t21 t21)],[(.one,.s)],λ x=>Bx x⟩
def Bx.d:Fd := { nt:=6,nv:=1,nm:=[0,1],res:=[2],cs:=λ k=>[(115,Ka.e k)] }
def Bx.s (k:Nat):CK 86 (Bx.e k):=mS Bx.d k [] Tryz.func86 ⟨Ka.s k,trivial⟩ trivial
def Ee.e (k:Nat):Ent:=⟨1,[(.ptr t21 t21)],[(.one,t7)],λ x=>Ee k x⟩
def Fy.p:LF:=⟨⟨[(0,(.bp 0 0 0)),(1999,(.hd 3))],[(3,t7),(4,(.i .i64)),(1000,t21)]⟩,[((.exit 0),⟨[(1999,(.hd 3))],[(3,t7),(1000,t21)]⟩)],λ k x=>Fy k x.1 x.2.1 x.2.2⟩
def Ee.d:Fd := { nt:=17,nv:=1,nm:=[0,1,3,4],res:=[2],cs:=λ k=>[(39,Ac.e k)],ls:=[(3,Fy.p)],rf:=true }
def Ee.a (k:Nat):AC (Ee.d.cs k):=⟨Ac.s k,trivial⟩
def Fy.s:LL Tryz.f87 Ee.d 3 Fy.p:=mL [] Ee.a trivial
def Ee.s (k:Nat):CK 87 (Ee.e k):=mS Ee.d k [3] Tryz.func87 (Ee.a k) ⟨Fy.s,trivial⟩
def G0.e (k:Nat):Ent:=⟨2,[(.ptr t21 t21),(.val false (.i .i64))],[(.one,t5)],λ x=>G0 k x.1 x.2⟩
def Fz.p:LF:=⟨⟨[(0,(.bp 0 0 0)),(1999,(.hd 3))],[(1,(.i .i64)),(5,t5),(6,(.i .i64)),(1000,t4),(1001,(.i .i64)),(1002,(.i .i64))]⟩,[((.exit 0),⟨[(1999,(.hd 3))],[(5,t5),(1000,t4),(1001,(.i .i64)),(1002,(.i .i64))]⟩)],λ k x=>Fz k x.1 x.2.1 x.2.2.1 x.2.2.2.1 x.2.2.2.2.1 x.2.2.2.2.2⟩
def G0.d:Fd := { nt:=20,nv:=2,nm:=[0,1,2,3,5,6],res:=[4],cs:=λ k=>[(85,Fx.e k)],ls:=[(3,Fz.p)] }
def G0.a (k:Nat):AC (G0.d.cs k):=⟨Fx.s k,trivial⟩
def Fz.s:LL Tryz.f150 G0.d 3 Fz.p:=mL [] G0.a trivial
def G0.s (k:Nat):CK 150 (G0.e k):=mS G0.d k [3] Tryz.func150 (G0.a k) ⟨Fz.s,trivial⟩
def Dr.e (k:Nat):Ent:=⟨1,[(.ptr t21 t21)],[(.one,t5)],λ x=>Dr k x⟩
def Dr.d:Fd := { nt:=8,nv:=1,nm:=[0,1],res:=[2],cs:=λ k=>[(39,Ac.e k),(150,G0.e k)] }
def Dr.s (k:Nat):CK 88 (Dr.e k):=mS Dr.d k [] Tryz.func88 ⟨Ac.s k,G0.s k,trivial⟩ trivial
def A9.e (k:Nat):Ent:=⟨3,[(.val false (.i .i64)),(.val false (.i .i64)),(.val false (.i .i64))],[(.one,.b)],λ x=>A9 x.1 x.2.1 x.2.2⟩
def A9.d:Fd := { nt:=15,nv:=3,nm:=[0,1,2,3,4,5],res:=[6] }
def A9.s (k:Nat):CK 97 (A9.e k):=mS A9.d k [] Tryz.func97 trivial trivial
def Cc.e (k:Nat):Ent:=⟨1,[(.val true t16)],[(.one,.b)],λ x=>Cc x⟩
def Cc.d:Fd := { nt:=16,nv:=1,nm:=[0,1],res:=[2],cs:=λ k=>[(97,A9.e k)] }
def Cc.s (k:Nat):CK 77 (Cc.e k):=mS Cc.d k [] Tryz.func77 ⟨A9.s k,trivial⟩ trivial
def C3.e (k:Nat):Ent:=⟨1,[(.val true t25)],[(.one,.b)],λ x=>C3 x⟩
def C3.d:Fd := { nt:=23,nv:=1,nm:=[0,1],res:=[2],cs:=λ k=>[(77,Cc.e k)] }
def C3.s (k:Nat):CK 78 (C3.e k):=mS C3.d k [] Tryz.func78 ⟨Cc.s k,trivial⟩ trivial
def Ds.e (k:Nat):Ent:=⟨2,[(.val false t4),(.val false (.i .i64))],[(.one,(.i .i64)),(.one,(.i .i64)),(.one,.b)],λ x=>Ds k x.1 x.2⟩
def Fc.p:LF:=⟨⟨[],[(0,t4),(1,(.i .i64)),(7,(.i .i64)),(8,(.i .i64))]⟩,[(.ret,⟨[],[(4,(.i .i64)),(5,(.i .i64)),(6,.b)]⟩),((.exit 0),⟨[],[]⟩)],λ k x=>Fc k x.1 x.2.1 x.2.2.1 x.2.2.2⟩
def Ds.d:Fd := { nt:=64,nv:=2,nm:=[0,1,2,3,7,8,9],res:=[4,5,6],ls:=[(3,Fc.p)] }
def Fc.s:LL Tryz.f200 Ds.d 3 Fc.p:=mL [] (λ _=>trivial) trivial
def Ds.s (k:Nat):CK 200 (Ds.e k):=mS Ds.d k [3] Tryz.func200 trivial ⟨Fc.s,trivial⟩
def G3.e (k:Nat):Ent:=⟨2,[(.val false t4),(.val false (.i .i64))],[(.agg,t16),(.one,(.i .i64)),(.one,.b)],λ x=>G3 k x.1 x.2⟩
def G3.d:Fd := { nt:=49,nv:=2,nm:=[0,1,2,3,7,8,9,10,11,12,13,14,15],res:=[5,6],cs:=λ k=>[(200,Ds.e k)] }
def G3.s (k:Nat):CK 199 (G3.e k):=mS G3.d k [] Tryz.func199 ⟨Ds.s k,trivial⟩ trivial
def Jp.e (k:Nat):Ent:=⟨2,[(.val false t4),(.val false (.i .i64))],[(.one,.s),(.one,(.i .i64)),(.one,.b)],λ x=>Jp k x.1 x.2⟩
def Jp.d:Fd := { nt:=37,nv:=2,nm:=[0,1,2,3,7,8,9],res:=[4,5,6],cs:=λ k=>[(200,Ds.e k)] }
def Jp.s (k:Nat):CK 201 (Jp.e k):=mS Jp.d k [] Tryz.func201 ⟨Ds.s k,trivial⟩ trivial
def Dt.e (k:Nat):Ent:=⟨2,[(.val false t4),(.val false (.i .i64))],[(.one,t5)],λ x=>Dt k x.1 x.2⟩
def Dc.p:LF:=⟨⟨[],[(1,(.i .i64)),(5,t5)]⟩,[((.exit 0),⟨[],[(1,(.i .i64)),(5,t5)]⟩)],λ k x=>Dc k x.1 x.2⟩
def Dt.d:Fd := { nt:=29,nv:=2,nm:=[0,1,2,3,5],res:=[4],ls:=[(6,Dc.p)] }
def Dc.s:LL Tryz.f241 Dt.d 6 Dc.p:=mL [] (λ _=>trivial) trivial
def Dt.s (k:Nat):CK 241 (Dt.e k):=mS Dt.d k [6] Tryz.func241 trivial ⟨Dc.s,trivial⟩
def Jq.e (k:Nat):Ent:=⟨2,[(.val false t4),(.val false .s)],[(.one,t5)],λ x=>Jq k x.1 x.2⟩
def Jq.d:Fd := { nt:=11,nv:=2,nm:=[0,1,2,3],res:=[4],cs:=λ k=>[(241,Dt.e k)] }
def Jq.s (k:Nat):CK 240 (Jq.e k):=mS Jq.d k [] Tryz.func240 ⟨Dt.s k,trivial⟩ trivial
def Jr.e (k:Nat):Ent:=⟨2,[(.val false t4),(.val true t16)],[(.one,t5)],λ x=>Jr k x.1 x.2⟩
def Jr.d:Fd := { nt:=15,nv:=2,nm:=[0,1,2,3],res:=[4],cs:=λ k=>[(241,Dt.e k)] }
def Jr.s (k:Nat):CK 242 (Jr.e k):=mS Jr.d k [] Tryz.func242 ⟨Dt.s k,trivial⟩ trivial
def Lj.e (k:Nat):Ent:=⟨1,[(.val false .b)],[(.one,(.i .i64))],λ x=>Lj x⟩
def Lj.d:Fd := { nt:=4,nv:=1,nm:=[0,1],res:=[2] }
def Lj.s (k:Nat):CK 243 (Lj.e k):=mS Lj.d k [] Tryz.func243 trivial trivial
def M5.e (k:Nat):Ent:=⟨1,[(.val false t4)],[(.one,(.i .i64))],λ x=>M5 k x⟩
def Ia.p:LF:=⟨⟨[],[(0,t4),(3,(.i .i64)),(4,(.i .i64)),(5,(.i .i64))]⟩,[((.exit 2),⟨[],[(0,t4),(3,(.i .i64)),(4,(.i .i64))]⟩)],λ k x=>Ia k x.1 x.2.1 x.2.2.1 x.2.2.2⟩
def Io.p:LF:=⟨⟨[],[(0,t4),(3,(.i .i64)),(4,(.i .i64))]⟩,[((.exit 0),⟨[],[(3,(.i .i64))]⟩)],λ k x=>Io k x.1 x.2.1 x.2.2⟩
def M5.d:Fd := { nt:=34,nv:=1,nm:=[0,1,3,4,5,6],res:=[2],ls:=[(7,Ia.p),(3,Io.p)] }
def Ia.s:LL Tryz.f244 M5.d 7 Ia.p:=mL [] (λ _=>trivial) trivial
def Io.s:LL Tryz.f244 M5.d 3 Io.p:=mL [7] (λ _=>trivial) ⟨Ia.s,trivial⟩
def M5.s (k:Nat):CK 244 (M5.e k):=mS M5.d k [3] Tryz.func244 trivial ⟨Io.s,trivial⟩
def Bm.e (k:Nat):Ent:=⟨1,[(.val true t25)],[(.one,t5)],λ x=>Bm k x⟩
def Bm.d:Fd := { nt:=37,nv:=1,nm:=[0,1,3,4],res:=[2],cs:=λ k=>[(78,C3.e k),(240,Jq.e k),(241,Dt.e k),(242,Jr.e k),(243,Lj.e k),(244,M5.e k)] }
def Bm.s (k:Nat):CK 202 (Bm.e k):=mS Bm.d k [] Tryz.func202 ⟨C3.s k,Jq.s k,Dt.s k,Jr.s k,Lj.s k,M5.s k,trivial⟩ trivial
def H5.e (k:Nat):Ent:=⟨1,[(.val false t4)],[(.agg,t26),(.one,.b)],λ x=>H5 k x⟩
def H5.d:Fd := { nt:=76,nv:=1,nm:=[0,1,4,5,6,7,8,9,10,11,12,13],res:=[3],cs:=λ k=>[(78,C3.e k),(199,G3.e k),(200,Ds.e k),(201,Jp.e k),(202,Bm.e k)],mv:=[75] }
def H5.s (k:Nat):CK 151 (H5.e k):=mS H5.d k [] Tryz.func151 ⟨C3.s k,G3.s k,Ds.s k,Jp.s k,Bm.s k,trivial⟩ trivial
def Ib.e (k:Nat):Ent:=⟨2,[(.val false t0),(.val false .s)],[(.one,.b)],λ x=>Ib k x.1 x.2⟩
def Hh.p:LF:=⟨⟨[],[(0,t0),(1,.s),(5,(.i .i64))]⟩,[(.ret,⟨[],[(4,.b)]⟩),((.exit 0),⟨[],[]⟩)],λ k x=>Hh k x.1 x.2.1 x.2.2⟩
def Ib.d:Fd := { nt:=18,nv:=2,nm:=[0,1,2,3,5],res:=[4],ls:=[(2,Hh.p)],rf:=true }
def Hh.s:LL Tryz.f152 Ib.d 2 Hh.p:=mL [] (λ _=>trivial) trivial
def Ib.s (k:Nat):CK 152 (Ib.e k):=mS Ib.d k [2] Tryz.func152 trivial ⟨Hh.s,trivial⟩
def De.e (k:Nat):Ent:=⟨2,[(.val false t13),(.val false .s)],[(.one,(.i .i64))],λ x=>De k x.1 x.2⟩
def Js.p:LF:=⟨⟨[],[(0,t13),(1,.s),(5,(.i .i64))]⟩,[(.ret,⟨[],[(4,(.i .i64))]⟩),((.exit 0),⟨[],[]⟩)],λ k x=>Js k x.1 x.2.1 x.2.2⟩
def De.d:Fd := { nt:=20,nv:=2,nm:=[0,1,2,3,5],res:=[4],ls:=[(2,Js.p)] }
def Js.s:LL Tryz.f153 De.d 2 Js.p:=mL [] (λ _=>trivial) trivial
def De.s (k:Nat):CK 153 (De.e k):=mS De.d k [2] Tryz.func153 trivial ⟨Js.s,trivial⟩
def Gz.e (k:Nat):Ent:=⟨1,[(.val true t27)],[(.one,t2)],λ x=>Gz k x⟩
def Jt.p:LF:=⟨⟨[(1,(.bp 1 0 0)),(2999,(.hd 2))],[(3,t2),(4,(.i .i64)),(7,(.i .i64)),(2000,t27)]⟩,[((.exit 2),⟨[(1,(.bp 1 0 0)),(2999,(.hd 2))],[(3,t2),(4,(.i .i64)),(7,(.i .i64)),(2000,t27)]⟩)],λ k x=>Jt k x.1 x.2.1 x.2.2.1 x.2.2.2⟩
def H6.p:LF:=⟨⟨[(1,(.bp 1 0 0)),(2999,(.hd 2))],[(3,t2),(4,(.i .i64)),(2000,t27)]⟩,[((.exit 0),⟨[],[(3,t2)]⟩)],λ k x=>H6 k x.1 x.2.1 x.2.2⟩
def Gz.d:Fd := { nt:=98,nv:=1,nm:=[0,1,3,4,5,6,7],res:=[2],cs:=λ k=>[(151,H5.e k),(152,Ib.e k),(153,De.e k)],ls:=[(9,Jt.p),(3,H6.p)],rf:=true }
def Gz.a (k:Nat):AC (Gz.d.cs k):=⟨H5.s k,Ib.s k,De.s k,trivial⟩
def Jt.s:LL Tryz.f89 Gz.d 9 Jt.p:=mL [] Gz.a trivial
def H6.s:LL Tryz.f89 Gz.d 3 H6.p:=mL [9] Gz.a ⟨Jt.s,trivial⟩
def Gz.s (k:Nat):CK 89 (Gz.e k):=mS Gz.d k [3] Tryz.func89 (Gz.a k) ⟨H6.s,trivial⟩
def Ao.e (k:Nat):Ent:=⟨1,[(.val false .s)],[(.one,.b)],λ x=>Ao k x⟩
def Dd.p:LF:=⟨⟨[],[(0,.s),(3,(.i .i64))]⟩,[(.ret,⟨[],[(2,.b)]⟩),((.exit 0),⟨[],[(0,.s)]⟩)],λ k x=>Dd k x.1 x.2⟩
def Ao.d:Fd := { nt:=38,nv:=1,nm:=[0,1,3,4],res:=[2],cs:=λ k=>[(97,A9.e k)],ls:=[(2,Dd.p)] }
def Ao.a (k:Nat):AC (Ao.d.cs k):=⟨A9.s k,trivial⟩
def Dd.s:LL Tryz.f62 Ao.d 2 Dd.p:=mL [] Ao.a trivial
def Ao.s (k:Nat):CK 62 (Ao.e k):=mS Ao.d k [2] Tryz.func62 (Ao.a k) ⟨Dd.s,trivial⟩
def Hi.e (k:Nat):Ent:=⟨3,[(.val true t16),(.val false (.i .i64)),(.val false (.i .i64))],[(.agg,t16)],λ x=>Hi x.1 x.2.1 x.2.2⟩
def Hi.d:Fd := { nt:=27,nv:=3,nm:=[0,1,2,3,4,5,7],res:=[],cs:=λ k=>[(77,Cc.e k)],rf:=true }
def Hi.s (k:Nat):CK 130 (Hi.e k):=mS Hi.d k [] Tryz.func130 ⟨Cc.s k,trivial⟩ trivial
def Bs.e (k:Nat):Ent:=⟨1,[(.val true t25)],[(.agg,t26)],λ x=>Bs x⟩
def Bs.d:Fd := { nt:=9,nv:=1,nm:=[0,1],res:=[],mv:=[8],rf:=true }
def Bs.s (k:Nat):CK 96 (Bs.e k):=mS Bs.d k [] Tryz.func96 trivial trivial
def Bd.e (k:Nat):Ent:=⟨2,[(.val true t48),(.val false t6)],[(.one,t7)],λ x=>Bd k x.1 x.2⟩
def Cf.p:LF:=⟨⟨[(2,(.bp 2 0 0)),(3999,(.hd 9))],[(1,t6),(5,t7),(6,(.i .i64)),(7,(.i .i64)),(3000,t48)]⟩,[((.exit 2),⟨[(2,(.bp 2 0 0)),(3999,(.hd 9))],[(1,t6),(5,t7),(6,(.i .i64)),(3000,t48)]⟩)],λ k x=>Cf k x.1 x.2.1 x.2.2.1 x.2.2.2.1 x.2.2.2.2⟩
def Du.p:LF:=⟨⟨[(2,(.bp 2 0 0)),(3999,(.hd 9))],[(1,t6),(5,t7),(6,(.i .i64)),(3000,t48)]⟩,[((.exit 0),⟨[],[(5,t7)]⟩)],λ k x=>Du k x.1 x.2.1 x.2.2.1 x.2.2.2⟩
def Bd.d:Fd := { nt:=38,nv:=2,nm:=[0,1,2,3,5,6,7],res:=[4],ls:=[(6,Cf.p),(3,Du.p)],rf:=true }
def Cf.s:LL Tryz.f176 Bd.d 6 Cf.p:=mL [] (λ _=>trivial) trivial
def Du.s:LL Tryz.f176 Bd.d 3 Du.p:=mL [6] (λ _=>trivial) ⟨Cf.s,trivial⟩
def Bd.s (k:Nat):CK 176 (Bd.e k):=mS Bd.d k [3] Tryz.func176 trivial ⟨Du.s,trivial⟩
def Mb.e (k:Nat):Ent:=⟨1,[(.val false .s)],[(.one,(.i .i64))],λ x=>Mb k x⟩
def Ju.p:LF:=⟨⟨[],[(0,.s),(3,(.i .i64)),(4,(.i .i64))]⟩,[((.exit 0),⟨[],[(3,(.i .i64))]⟩)],λ k x=>Ju k x.1 x.2.1 x.2.2⟩
def Mb.d:Fd := { nt:=20,nv:=1,nm:=[0,1,3,4],res:=[2],ls:=[(3,Ju.p)],rf:=true }
def Ju.s:LL Tryz.f259 Mb.d 3 Ju.p:=mL [] (λ _=>trivial) trivial
def Mb.s (k:Nat):CK 259 (Mb.e k):=mS Mb.d k [3] Tryz.func259 trivial ⟨Ju.s,trivial⟩
def Lk.e (k:Nat):Ent:=⟨2,[(.val false .s),(.val false (.i .i64))],[(.one,(.i .i64))],λ x=>Lk k x.1 x.2⟩
def Lk.d:Fd := { nt:=11,nv:=2,nm:=[0,1,2,3],res:=[4],cs:=λ k=>[(259,Mb.e k)],rf:=true }
def Lk.s (k:Nat):CK 225 (Lk.e k):=mS Lk.d k [] Tryz.func225 ⟨Mb.s k,trivial⟩ trivial
def Be.e (k:Nat):Ent:=⟨2,[(.val true t17),(.val false .s)],[(.one,t7)],λ x=>Be k x.1 x.2⟩
def Be.d:Fd := { nt:=22,nv:=2,nm:=[0,1,2,3],res:=[4],cs:=λ k=>[(225,Lk.e k)],rf:=true }
def Be.s (k:Nat):CK 177 (Be.e k):=mS Be.d k [] Tryz.func177 ⟨Lk.s k,trivial⟩ trivial
def Cq.e (k:Nat):Ent:=⟨2,[(.val false t6),(.val false (.i .i64))],[(.one,.b)],λ x=>Cq k x.1 x.2⟩
def Ip.p:LF:=⟨⟨[],[(0,t6),(1,(.i .i64)),(5,(.i .i64))]⟩,[(.ret,⟨[],[(4,.b)]⟩),((.exit 0),⟨[],[]⟩)],λ k x=>Ip k x.1 x.2.1 x.2.2⟩
def Cq.d:Fd := { nt:=18,nv:=2,nm:=[0,1,2,3,5],res:=[4],ls:=[(2,Ip.p)],rf:=true }
def Ip.s:LL Tryz.f190 Cq.d 2 Ip.p:=mL [] (λ _=>trivial) trivial
def Cq.s (k:Nat):CK 190 (Cq.e k):=mS Cq.d k [2] Tryz.func190 trivial ⟨Ip.s,trivial⟩
def Eh.e (k:Nat):Ent:=⟨2,[(.val false t22),(.val false (.i .i64))],[(.agg,t16),(.one,.b)],λ x=>Eh k x.1 x.2⟩
def Iq.p:LF:=⟨⟨[(4,(.bp 4 0 0)),(5999,(.hd 3))],[(0,t22),(1,(.i .i64)),(6,(.i .i64)),(5000,t16)]⟩,[(.ret,⟨[(4,(.bp 4 0 0)),(5999,(.hd 3))],[(5,.b),(5000,t16)]⟩),((.exit 0),⟨[(4,(.bp 4 0 0)),(5999,(.hd 3))],[(5000,t16)]⟩)],λ k x=>Iq k x.1 x.2.1 x.2.2.1 x.2.2.2⟩
def Eh.d:Fd := { nt:=25,nv:=2,nm:=[0,1,2,3,6],res:=[5],ls:=[(2,Iq.p)],rf:=true }
def Iq.s:LL Tryz.f139 Eh.d 2 Iq.p:=mL [] (λ _=>trivial) trivial
def Eh.s (k:Nat):CK 139 (Eh.e k):=mS Eh.d k [2] Tryz.func139 trivial ⟨Iq.s,trivial⟩
def D7.e (k:Nat):Ent:=⟨2,[(.val false t6),(.val false t22)],[(.one,t7)],λ x=>D7 k x.1 x.2⟩
def Dv.p:LF:=⟨⟨[],[(0,t6),(1,t22),(5,t7),(6,(.i .i64))]⟩,[((.exit 0),⟨[],[(5,t7)]⟩)],λ k x=>Dv k x.1 x.2.1 x.2.2.1 x.2.2.2⟩
def D7.d:Fd := { nt:=39,nv:=2,nm:=[0,1,2,3,5,6,7,8],res:=[4],cs:=λ k=>[(139,Eh.e k),(190,Cq.e k)],ls:=[(3,Dv.p)],rf:=true }
def D7.a (k:Nat):AC (D7.d.cs k):=⟨Eh.s k,Cq.s k,trivial⟩
def Dv.s:LL Tryz.f226 D7.d 3 Dv.p:=mL [] D7.a trivial
def D7.s (k:Nat):CK 226 (D7.e k):=mS D7.d k [3] Tryz.func226 (D7.a k) ⟨Dv.s,trivial⟩
def Cl.e (k:Nat):Ent:=⟨3,[(.val true t17),(.val false t22),(.val false .s)],[(.one,t7)],λ x=>Cl k x.1 x.2.1 x.2.2⟩
def Cg.p:LF:=⟨⟨[],[(1,t22),(7,t7),(8,t7),(9,t7),(10,(.i .i64)),(11,(.i .i64))]⟩,[((.exit 2),⟨[],[(1,t22),(7,t7),(8,t7),(9,t7),(10,(.i .i64))]⟩)],λ k x=>Cg k x.1 x.2.1 x.2.2.1 x.2.2.2.1 x.2.2.2.2.1 x.2.2.2.2.2⟩
def Ev.p:LF:=⟨⟨[],[(1,t22),(7,t7),(8,t7),(9,t7),(10,(.i .i64))]⟩,[((.exit 0),⟨[],[(9,t7)]⟩)],λ k x=>Ev k x.1 x.2.1 x.2.2.1 x.2.2.2.1 x.2.2.2.2⟩
def Cl.d:Fd := { nt:=58,nv:=3,nm:=[0,1,2,3,4,5,7,8,9,10,11],res:=[6],cs:=λ k=>[(177,Be.e k),(190,Cq.e k),(226,D7.e k)],ls:=[(8,Cg.p),(5,Ev.p)],rf:=true }
def Cl.a (k:Nat):AC (Cl.d.cs k):=⟨Be.s k,Cq.s k,D7.s k,trivial⟩
def Cg.s:LL Tryz.f178 Cl.d 8 Cg.p:=mL [] Cl.a trivial
def Ev.s:LL Tryz.f178 Cl.d 5 Ev.p:=mL [8] Cl.a ⟨Cg.s,trivial⟩
def Cl.s (k:Nat):CK 178 (Cl.e k):=mS Cl.d k [5] Tryz.func178 (Cl.a k) ⟨Ev.s,trivial⟩
def Ew.e (k:Nat):Ent:=⟨2,[(.val true t48),(.val false .s)],[(.one,t7)],λ x=>Ew k x.1 x.2⟩
def Ew.d:Fd := { nt:=20,nv:=2,nm:=[0,1,2,3],res:=[4],cs:=λ k=>[(176,Bd.e k),(177,Be.e k),(178,Cl.e k)],rf:=true }
def Ew.s (k:Nat):CK 118 (Ew.e k):=mS Ew.d k [] Tryz.func118 ⟨Bd.s k,Be.s k,Cl.s k,trivial⟩ trivial
def C9.e (k:Nat):Ent:=⟨2,[(.val false t6),(.val false (.i .i64))],[(.one,(.i .i64))],λ x=>C9 x.1 x.2⟩
def C9.d:Fd := { nt:=21,nv:=2,nm:=[0,1,2,3],res:=[4],cs:=λ k=>[(97,A9.e k)],rf:=true }
def C9.s (k:Nat):CK 119 (C9.e k):=mS C9.d k [] Tryz.func119 ⟨A9.s k,trivial⟩ trivial
def Fp.e (k:Nat):Ent:=⟨2,[(.val true t27),(.val false .s)],[(.one,t5),(.one,.b)],λ x=>Fp k x.1 x.2⟩
def Fp.d:Fd := { nt:=22,nv:=2,nm:=[0,1,2,3,6],res:=[4,5],cs:=λ k=>[(153,De.e k)] }
def Fp.s (k:Nat):CK 179 (Fp.e k):=mS Fp.d k [] Tryz.func179 ⟨De.s k,trivial⟩ trivial
def Ie.e (k:Nat):Ent:=⟨2,[(.val true t27),(.val false .s)],[(.agg,t26),(.one,(.i .i64))],λ x=>Ie k x.1 x.2⟩
def Ie.d:Fd := { nt:=28,nv:=2,nm:=[0,1,2,3,6,7,8,9],res:=[5],cs:=λ k=>[(151,H5.e k),(179,Fp.e k)],mv:=[27] }
def Ie.s (k:Nat):CK 120 (Ie.e k):=mS Ie.d k [] Tryz.func120 ⟨H5.s k,Fp.s k,trivial⟩ trivial
def Cd.e (k:Nat):Ent:=⟨2,[(.val true t16),(.val true t16)],[(.one,.b)],λ x=>Cd x.1 x.2⟩
def Cd.d:Fd := { nt:=32,nv:=2,nm:=[0,1,2,3],res:=[4] }
def Cd.s (k:Nat):CK 79 (Cd.e k):=mS Cd.d k [] Tryz.func79 trivial trivial
def Lu.e (k:Nat):Ent:=⟨2,[(.val true t25),(.val true t25)],[(.one,.b)],λ x=>Lu x.1 x.2⟩
def Lu.d:Fd := { nt:=10,nv:=2,nm:=[0,1,2,3],res:=[4],cs:=λ k=>[(79,Cd.e k)] }
def Lu.s (k:Nat):CK 121 (Lu.e k):=mS Lu.d k [] Tryz.func121 ⟨Cd.s k,trivial⟩ trivial
def Bg.e (k:Nat):Ent:=⟨1,[(.val false t13)],[(.one,t14)],λ x=>Bg k x⟩
def Ch.p:LF:=⟨⟨[],[(0,t13),(3,t14),(4,(.i .i64))]⟩,[((.exit 0),⟨[],[(3,t14)]⟩)],λ k x=>Ch k x.1 x.2.1 x.2.2⟩
def Bg.d:Fd := { nt:=29,nv:=1,nm:=[0,1,3,4],res:=[2],ls:=[(3,Ch.p)] }
def Ch.s:LL Tryz.f207 Bg.d 3 Ch.p:=mL [] (λ _=>trivial) trivial
def Bg.s (k:Nat):CK 207 (Bg.e k):=mS Bg.d k [3] Tryz.func207 trivial ⟨Ch.s,trivial⟩
def Gv.e (k:Nat):Ent:=⟨1,[(.val false t13)],[(.one,t15)],λ x=>Gv k x⟩
def J6.p:LF:=⟨⟨[],[(0,t13),(3,t15),(4,(.i .i64))]⟩,[((.exit 0),⟨[],[(3,t15)]⟩)],λ k x=>J6 k x.1 x.2.1 x.2.2⟩
def Gv.d:Fd := { nt:=29,nv:=1,nm:=[0,1,3,4],res:=[2],ls:=[(3,J6.p)],hint:=[(5,t12),(26,t12),(27,t12)] }
def J6.s:LL Tryz.f207 Gv.d 3 J6.p:=mL [] (λ _=>trivial) trivial
def Gv.s (k:Nat):CK 207 (Gv.e k):=mS Gv.d k [3] Tryz.func207 trivial ⟨J6.s,trivial⟩
def A7.e (k:Nat):Ent:=⟨1,[(.val true t27)],[(.agg,t29)],λ x=>A7 k x⟩
def A7.d:Fd := { nt:=10,nv:=1,nm:=[0,1],res:=[],cs:=λ k=>[(207,Bg.e k)] }
def A7.s (k:Nat):CK 159 (A7.e k):=mS A7.d k [] Tryz.func159 ⟨Bg.s k,trivial⟩ trivial
def Ki.e (k:Nat):Ent:=⟨1,[(.val true t27)],[(.agg,t30)],λ x=>Ki k x⟩
def Ki.d:Fd := { nt:=10,nv:=1,nm:=[0,1],res:=[],cs:=λ k=>[(207,Gv.e k)] }
def Ki.s (k:Nat):CK 159 (Ki.e k):=mS Ki.d k [] Tryz.func159 ⟨Gv.s k,trivial⟩ trivial
def G4.e (k:Nat):Ent:=⟨1,[(.val false t13)],[(.one,.b)],λ x=>G4 k x⟩
def Gn.p:LF:=⟨⟨[],[(0,t13),(3,(.i .i64))]⟩,[(.ret,⟨[],[(2,.b)]⟩),((.exit 0),⟨[],[(0,t13)]⟩)],λ k x=>Gn k x.1 x.2⟩
def G4.d:Fd := { nt:=47,nv:=1,nm:=[0,1,3],res:=[2],cs:=λ k=>[(62,Ao.e k)],ls:=[(2,Gn.p)] }
def G4.a (k:Nat):AC (G4.d.cs k):=⟨Ao.s k,trivial⟩
def Gn.s:LL Tryz.f234 G4.d 2 Gn.p:=mL [] G4.a trivial
def G4.s (k:Nat):CK 234 (G4.e k):=mS G4.d k [2] Tryz.func234 (G4.a k) ⟨Gn.s,trivial⟩
def Bp.e (k:Nat):Ent:=⟨1,[(.val true t27)],[(.one,.b)],λ x=>Bp k x⟩
def Bp.d:Fd := { nt:=11,nv:=1,nm:=[0,1],res:=[2],cs:=λ k=>[(234,G4.e k)] }
def Bp.s (k:Nat):CK 192 (Bp.e k):=mS Bp.d k [] Tryz.func192 ⟨G4.s k,trivial⟩ trivial
def Jh.e (k:Nat):Ent:=⟨2,[(.val false t13),(.val false .s)],[(.one,t14)],λ x=>Jh k x.1 x.2⟩
def I2.p:LF:=⟨⟨[],[(0,t13),(1,.s),(5,t14),(6,(.i .i64))]⟩,[((.exit 0),⟨[],[(5,t14)]⟩)],λ k x=>I2 k x.1 x.2.1 x.2.2.1 x.2.2.2⟩
def Jh.d:Fd := { nt:=29,nv:=2,nm:=[0,1,2,3,5,6],res:=[4],ls:=[(3,I2.p)] }
def I2.s:LL Tryz.f250 Jh.d 3 I2.p:=mL [] (λ _=>trivial) trivial
def Jh.s (k:Nat):CK 250 (Jh.e k):=mS Jh.d k [3] Tryz.func250 trivial ⟨I2.s,trivial⟩
def Ek.e (k:Nat):Ent:=⟨3,[(.val true t27),(.val true t29),(.val false .s)],[(.agg,t29),(.one,.b)],λ x=>Ek k x.1 x.2.1 x.2.2⟩
def Ek.d:Fd := { nt:=24,nv:=3,nm:=[0,1,2,3,4,5],res:=[7],cs:=λ k=>[(62,Ao.e k),(159,A7.e k),(192,Bp.e k)],mv:=[23] }
def Ek.s (k:Nat):CK 251 (Ek.e k):=mS Ek.d k [] Tryz.func251 ⟨Ao.s k,A7.s k,Bp.s k,trivial⟩ trivial
def Fu.e (k:Nat):Ent:=⟨3,[(.val false t13),(.val false .s),(.val false t4)],[(.one,t14)],λ x=>Fu k x.1 x.2.1 x.2.2⟩
def Cm.p:LF:=⟨⟨[(9,(.bp 9 0 0)),(10999,(.hd 2))],[(0,t13),(1,.s),(7,t14),(8,.b),(10,(.i .i64)),(10000,.s),(10001,t4)]⟩,[((.exit 0),⟨[(9,(.bp 9 0 0)),(10999,(.hd 2))],[(7,t14),(8,.b),(10000,.s),(10001,t4)]⟩)],λ k x=>Cm k x.1 x.2.1 x.2.2.1 x.2.2.2.1 x.2.2.2.2.1 x.2.2.2.2.2.1 x.2.2.2.2.2.2⟩
def Fu.d:Fd := { nt:=59,nv:=3,nm:=[0,1,2,3,4,5,7,8,9,10],res:=[6],ls:=[(5,Cm.p)] }
def Cm.s:LL Tryz.f252 Fu.d 5 Cm.p:=mL [] (λ _=>trivial) trivial
def Fu.s (k:Nat):CK 252 (Fu.e k):=mS Fu.d k [5] Tryz.func252 trivial ⟨Cm.s,trivial⟩
def Am.e (k:Nat):Ent:=⟨2,[(.val true t27),(.val false .s)],[(.agg,t29),(.one,.b)],λ x=>Am k x.1 x.2⟩
def Am.d:Fd := { nt:=35,nv:=2,nm:=[0,1,2,3,6,7,8],res:=[5],cs:=λ k=>[(159,A7.e k),(179,Fp.e k),(250,Jh.e k),(251,Ek.e k),(252,Fu.e k)] }
def Am.s (k:Nat):CK 210 (Am.e k):=mS Am.d k [] Tryz.func210 ⟨A7.s k,Fp.s k,Jh.s k,Ek.s k,Fu.s k,trivial⟩ trivial
def Bf.e (k:Nat):Ent:=⟨3,[(.val true t27),(.val false .s),(.val false t4)],[(.agg,t29),(.one,.b)],λ x=>Bf k x.1 x.2.1 x.2.2⟩
def Bf.d:Fd := { nt:=23,nv:=3,nm:=[0,1,2,3,4,5,8],res:=[7],cs:=λ k=>[(159,A7.e k),(251,Ek.e k),(252,Fu.e k)] }
def Bf.s (k:Nat):CK 249 (Bf.e k):=mS Bf.d k [] Tryz.func249 ⟨A7.s k,Ek.s k,Fu.s k,trivial⟩ trivial
def Kg.e (k:Nat):Ent:=⟨4,[(.val true t27),(.val false .s),(.val true t25),(.val false .b)],[(.agg,t29),(.one,(.i .i64))],λ x=>Kg k x.1 x.2.1 x.2.2.1 x.2.2.2⟩
def Kg.d:Fd := { nt:=82,nv:=4,nm:=[0,1,2,3,4,5,6,7,10,11,12,13,14,15],res:=[9],cs:=λ k=>[(62,Ao.e k),(78,C3.e k),(120,Ie.e k),(121,Lu.e k),(159,A7.e k),(192,Bp.e k),(202,Bm.e k),(210,Am.e k),(249,Bf.e k)],mv:=[58,81] }
def Kg.s (k:Nat):CK 208 (Kg.e k):=mS Kg.d k [] Tryz.func208 ⟨Ao.s k,C3.s k,Ie.s k,Lu.s k,A7.s k,Bp.s k,Bm.s k,Am.s k,Bf.s k,trivial⟩ trivial
def J7.e (k:Nat):Ent:=⟨2,[(.val false .s),(.val true t25)],[(.agg,t28)],λ x=>J7 x.1 x.2⟩
def J7.d:Fd := { nt:=14,nv:=2,nm:=[0,1,2,3],res:=[] }
def J7.s (k:Nat):CK 230 (J7.e k):=mS J7.d k [] Tryz.func230 trivial trivial
def Kr.e (k:Nat):Ent:=⟨4,[(.ptr t40 t40),(.val false .s),(.val true t25),(.val false .b)],[(.one,(.i .i64))],λ x=>Kr k x.1 x.2.1 x.2.2.1 x.2.2.2⟩
def Kr.d:Fd := { nt:=52,nv:=4,nm:=[0,1,2,3,4,5,6,7,9,10],res:=[8],cs:=λ k=>[(208,Kg.e k),(230,J7.e k)] }
def Kr.s (k:Nat):CK 184 (Kr.e k):=mS Kr.d k [] Tryz.func184 ⟨Kg.s k,J7.s k,trivial⟩ trivial
def Ir.e (k:Nat):Ent:=⟨4,[(.ptr t41 t42),(.val false .s),(.val true t25),(.val false .b)],[(.one,(.i .i64))],λ x=>Ir k x.1 x.2.1 x.2.2.1 x.2.2.2⟩
def Ir.d:Fd := { nt:=52,nv:=4,nm:=[0,1,2,3,4,5,6,7,9,10],res:=[8],cs:=λ k=>[(208,Kg.e k),(230,J7.e k)] }
def Ir.s (k:Nat):CK 184 (Ir.e k):=mS Ir.d k [] Tryz.func184 ⟨Kg.s k,J7.s k,trivial⟩ trivial
def Ks.e (k:Nat):Ent:=⟨1,[(.val false (.i .i64))],[(.one,(.i .i64))],λ x=>Ks x⟩
def Ks.d:Fd := { nt:=6,nv:=1,nm:=[0,1],res:=[2],rf:=true }
def Ks.s (k:Nat):CK 185 (Ks.e k):=mS Ks.d k [] Tryz.func185 trivial trivial
def C6.e (k:Nat):Ent:=⟨4,[(.ptr t49 t49),(.val false .s),(.val true t25),(.val false t6)],[(.one,(.i .i64))],λ x=>C6 k x.1 x.2.1 x.2.2.1 x.2.2.2⟩
def B7.p:LF:=⟨⟨[(0,(.bp 0 0 0)),(6,(.bp 6 0 0)),(1999,(.hd 9)),(7999,(.hd 5))],[(1,.s),(3,t6),(9,t7),(10,(.i .i64)),(11,(.i .i64)),(12,(.i .i64)),(1000,t49),(7000,t25)]⟩,[((.exit 0),⟨[(0,(.bp 0 0 0)),(6,(.bp 6 0 0)),(1999,(.hd 9)),(7999,(.hd 5))],[(1,.s),(11,(.i .i64)),(1000,t49),(7000,t25)]⟩)],λ k x=>B7 k x.1 x.2.1 x.2.2.1 x.2.2.2.1 x.2.2.2.2.1 x.2.2.2.2.2.1 x.2.2.2.2.2.2.1 x.2.2.2.2.2.2.2⟩
def C6.d:Fd := { nt:=92,nv:=4,nm:=[0,1,2,3,4,5,6,7,9,10,11,12,13,14,15],res:=[8],cs:=λ k=>[(96,Bs.e k),(118,Ew.e k),(119,C9.e k),(184,Kr.e k),(185,Ks.e k)],ls:=[(5,B7.p)],gh:=[(1000006,[.cl 1003])],opn:=[51],rf:=true }
def C6.a (k:Nat):AC (C6.d.cs k):=⟨Bs.s k,Ew.s k,C9.s k,Kr.s k,Ks.s k,trivial⟩
def B7.s:LL Tryz.f131 C6.d 5 B7.p:=mL [] C6.a trivial
def C6.s (k:Nat):CK 131 (C6.e k):=mS C6.d k [5] Tryz.func131 (C6.a k) ⟨B7.s,trivial⟩
def I3.e (k:Nat):Ent:=⟨5,[(.ptr t49 t49),(.val false .s),(.val true t25),(.val false (.i .i64)),(.val false t6)],[(.one,(.i .i64))],λ x=>I3 k x.1 x.2.1 x.2.2.1 x.2.2.2.1 x.2.2.2.2⟩
def I3.d:Fd := { nt:=57,nv:=5,nm:=[0,1,2,3,4,5,6,7,8,9],res:=[10],cs:=λ k=>[(62,Ao.e k),(97,A9.e k),(130,Hi.e k),(131,C6.e k)],rf:=true }
def I3.s (k:Nat):CK 71 (I3.e k):=mS I3.d k [] Tryz.func71 ⟨Ao.s k,A9.s k,Hi.s k,C6.s k,trivial⟩ trivial
def Bh.e (k:Nat):Ent:=⟨2,[(.val true t27),(.val false .s)],[(.agg,t29),(.one,.b)],λ x=>Bh k x.1 x.2⟩
def Bh.d:Fd := { nt:=26,nv:=2,nm:=[0,1,2,3,6],res:=[5],cs:=λ k=>[(153,De.e k),(159,A7.e k),(250,Jh.e k),(251,Ek.e k)],mv:=[14] }
def Bh.s (k:Nat):CK 209 (Bh.e k):=mS Bh.d k [] Tryz.func209 ⟨De.s k,A7.s k,Jh.s k,Ek.s k,trivial⟩ trivial
def Ct.e (k:Nat):Ent:=⟨4,[(.ptr t49 t49),(.val false (.i .i64)),(.val false .s),(.val false t6)],[(.one,.b)],λ x=>Ct k x.1 x.2.1 x.2.2.1 x.2.2.2⟩
def Bq.p:LF:=⟨⟨[(0,(.bp 0 0 0)),(9,(.bp 9 0 0)),(1999,(.hd 9)),(10999,(.hd 5))],[(1,(.i .i64)),(2,.s),(3,t6),(11,t7),(12,.b),(13,.b),(14,(.i .i64)),(1000,t49),(10000,t25)]⟩,[((.exit 0),⟨[(0,(.bp 0 0 0)),(1999,(.hd 9))],[(1,(.i .i64)),(2,.s),(12,.b),(13,.b),(1000,t49)]⟩)],λ k x=>Bq k x.1 x.2.1 x.2.2.1 x.2.2.2.1 x.2.2.2.2.1 x.2.2.2.2.2.1 x.2.2.2.2.2.2.1 x.2.2.2.2.2.2.2.1 x.2.2.2.2.2.2.2.2⟩
def Ct.d:Fd := { nt:=125,nv:=4,nm:=[0,1,2,3,4,5,6,7,9,10,11,12,13,14,15,16,17,18],res:=[8],cs:=λ k=>[(119,C9.e k),(120,Ie.e k),(176,Bd.e k),(177,Be.e k),(208,Kg.e k),(209,Bh.e k),(210,Am.e k)],ls:=[(8,Bq.p)],rf:=true }
def Ct.a (k:Nat):AC (Ct.d.cs k):=⟨C9.s k,Ie.s k,Bd.s k,Be.s k,Kg.s k,Bh.s k,Am.s k,trivial⟩
def Bq.s:LL Tryz.f160 Ct.d 8 Bq.p:=mL [] Ct.a trivial
def Ct.s (k:Nat):CK 160 (Ct.e k):=mS Ct.d k [8] Tryz.func160 (Ct.a k) ⟨Bq.s,trivial⟩
def H7.e (k:Nat):Ent:=⟨1,[(.val true t48)],[(.one,t7)],λ x=>H7 k x⟩
def H7.d:Fd := { nt:=8,nv:=1,nm:=[0,1],res:=[2],cs:=λ k=>[(176,Bd.e k),(177,Be.e k)],rf:=true }
def H7.s (k:Nat):CK 253 (H7.e k):=mS H7.d k [] Tryz.func253 ⟨Bd.s k,Be.s k,trivial⟩ trivial
def Jv.e (k:Nat):Ent:=⟨2,[(.val true t28),(.val true t28)],[(.one,.b)],λ x=>Jv x.1 x.2⟩
def Jv.d:Fd := { nt:=29,nv:=2,nm:=[0,1,2,3],res:=[4],cs:=λ k=>[(79,Cd.e k)] }
def Jv.s (k:Nat):CK 263 (Jv.e k):=mS Jv.d k [] Tryz.func263 ⟨Cd.s k,trivial⟩ trivial
def Bt.e (k:Nat):Ent:=⟨2,[(.val false t31),(.val true t28)],[(.one,t32)],λ x=>Bt k x.1 x.2⟩
def Dw.p:LF:=⟨⟨[(3,(.bp 3 0 0)),(4999,(.hd 6))],[(5,t32),(7,(.i .i64)),(4000,.s),(4001,(.i .i64)),(4002,(.i .i64)),(4003,(.i .i64)),(4004,.b),(4005,(.i .i64))]⟩,[((.exit 2),⟨[(3,(.bp 3 0 0)),(4999,(.hd 6))],[(5,t32),(7,(.i .i64)),(4000,.s),(4001,(.i .i64)),(4002,(.i .i64)),(4003,(.i .i64)),(4004,.b),(4005,(.i .i64))]⟩)],λ k x=>Dw k x.1 x.2.1 x.2.2.1 x.2.2.2.1 x.2.2.2.2.1 x.2.2.2.2.2.1 x.2.2.2.2.2.2.1 x.2.2.2.2.2.2.2⟩
def Ey.p:LF:=⟨⟨[(3,(.bp 3 0 0)),(4999,(.hd 6))],[(5,t32),(6,(.i .i64)),(4000,.s),(4001,(.i .i64)),(4002,(.i .i64)),(4003,(.i .i64)),(4004,.b),(4005,(.i .i64))]⟩,[(.ret,⟨[],[(4,t32)]⟩),((.exit 0),⟨[(3,(.bp 3 0 0)),(4999,(.hd 6))],[(5,t32),(4000,.s),(4001,(.i .i64)),(4002,(.i .i64)),(4003,(.i .i64)),(4004,.b),(4005,(.i .i64))]⟩)],λ k x=>Ey k x.1 x.2.1 x.2.2.1 x.2.2.2.1 x.2.2.2.2.1 x.2.2.2.2.2.1 x.2.2.2.2.2.2.1 x.2.2.2.2.2.2.2⟩
def Bt.d:Fd := { nt:=70,nv:=2,nm:=[0,1,2,3,5,6,7],res:=[4],cs:=λ k=>[(263,Jv.e k)],ls:=[(11,Dw.p),(3,Ey.p)] }
def Bt.a (k:Nat):AC (Bt.d.cs k):=⟨Jv.s k,trivial⟩
def Dw.s:LL Tryz.f260 Bt.d 11 Dw.p:=mL [] Bt.a trivial
def Ey.s:LL Tryz.f260 Bt.d 3 Ey.p:=mL [] Bt.a trivial
def Bt.s (k:Nat):CK 260 (Bt.e k):=mS Bt.d k [3,11] Tryz.func260 (Bt.a k) ⟨Ey.s,Dw.s,trivial⟩
def C2.e (k:Nat):Ent:=⟨2,[(.val false t31),(.val false t31)],[(.one,t32)],λ x=>C2 k x.1 x.2⟩
def Dx.p:LF:=⟨⟨[],[(1,t31),(5,t32),(6,(.i .i64))]⟩,[((.exit 0),⟨[],[(5,t32)]⟩)],λ k x=>Dx k x.1 x.2.1 x.2.2⟩
def C2.d:Fd := { nt:=23,nv:=2,nm:=[0,1,2,3,5,6],res:=[4],cs:=λ k=>[(260,Bt.e k)],ls:=[(3,Dx.p)] }
def C2.a (k:Nat):AC (C2.d.cs k):=⟨Bt.s k,trivial⟩
def Dx.s:LL Tryz.f262 C2.d 3 Dx.p:=mL [] C2.a trivial
def C2.s (k:Nat):CK 262 (C2.e k):=mS C2.d k [3] Tryz.func262 (C2.a k) ⟨Dx.s,trivial⟩
def Ig.e (k:Nat):Ent:=⟨2,[(.ptr t40 t40),(.val false t31)],[(.one,.b)],λ x=>Ig k x.1 x.2⟩
def Ig.d:Fd := { nt:=19,nv:=2,nm:=[0,1,2,3,5],res:=[4],cs:=λ k=>[(262,C2.e k)] }
def Ig.s (k:Nat):CK 254 (Ig.e k):=mS Ig.d k [] Tryz.func254 ⟨C2.s k,trivial⟩ trivial
def Hj.e (k:Nat):Ent:=⟨2,[(.ptr t41 t43),(.val false t31)],[(.one,.b)],λ x=>Hj k x.1 x.2⟩
def Hj.d:Fd := { nt:=19,nv:=2,nm:=[0,1,2,3,5],res:=[4],cs:=λ k=>[(262,C2.e k)] }
def Hj.s (k:Nat):CK 254 (Hj.e k):=mS Hj.d k [] Tryz.func254 ⟨C2.s k,trivial⟩ trivial
def Bu.e (k:Nat):Ent:=⟨5,[(.ptr t49 t49),(.val false (.i .i64)),(.val false t31),(.val false .b),(.val false t6)],[(.one,.b)],λ x=>Bu k x.1 x.2.1 x.2.2.1 x.2.2.2.1 x.2.2.2.2⟩
def Al.p:LF:=⟨⟨[(0,(.bp 0 0 0)),(1999,(.hd 9))],[(1,(.i .i64)),(2,t31),(3,.b),(4,t6),(11,t7),(12,.b),(13,(.i .i64)),(1000,t49)]⟩,[((.exit 0),⟨[(1999,(.hd 9))],[(12,.b),(1000,t49)]⟩)],λ k x=>Al k x.1 x.2.1 x.2.2.1 x.2.2.2.1 x.2.2.2.2.1 x.2.2.2.2.2.1 x.2.2.2.2.2.2.1 x.2.2.2.2.2.2.2⟩
def Bu.d:Fd := { nt:=53,nv:=5,nm:=[0,1,2,3,4,5,6,7,8,9,11,12,13],res:=[10],cs:=λ k=>[(119,C9.e k),(253,H7.e k),(254,Ig.e k)],ls:=[(4,Al.p)],gh:=[(1000005,[.cl 1003])],opn:=[47],rf:=true }
def Bu.a (k:Nat):AC (Bu.d.cs k):=⟨C9.s k,H7.s k,Ig.s k,trivial⟩
def Al.s:LL Tryz.f211 Bu.d 4 Al.p:=mL [] Bu.a trivial
def Bu.s (k:Nat):CK 211 (Bu.e k):=mS Bu.d k [4] Tryz.func211 (Bu.a k) ⟨Al.s,trivial⟩
def Jm.e (k:Nat):Ent:=⟨2,[(.val true t48),(.val false (.i .i64))],[(.one,.b)],λ x=>Jm k x.1 x.2⟩
def Jm.d:Fd := { nt:=9,nv:=2,nm:=[0,1,2,3],res:=[4],cs:=λ k=>[(190,Cq.e k),(253,H7.e k)],rf:=true }
def Jm.s (k:Nat):CK 212 (Jm.e k):=mS Jm.d k [] Tryz.func212 ⟨Cq.s k,H7.s k,trivial⟩ trivial
def Hk.e (k:Nat):Ent:=⟨3,[(.ptr t49 t49),(.val false (.i .i64)),(.val false t6)],[(.one,.b)],λ x=>Hk k x.1 x.2.1 x.2.2⟩
def Hk.d:Fd := { nt:=47,nv:=3,nm:=[0,1,2,3,4,5,7],res:=[6],cs:=λ k=>[(211,Bu.e k),(212,Jm.e k)],rf:=true }
def Hk.s (k:Nat):CK 161 (Hk.e k):=mS Hk.d k [] Tryz.func161 ⟨Bu.s k,Jm.s k,trivial⟩ trivial
def Hl.e (k:Nat):Ent:=⟨3,[(.ptr t49 t49),(.val false (.i .i64)),(.val false t6)],[(.one,.b)],λ x=>Hl k x.1 x.2.1 x.2.2⟩
def Hl.d:Fd := { nt:=36,nv:=3,nm:=[0,1,2,3,4,5,7],res:=[6],cs:=λ k=>[(211,Bu.e k)],rf:=true }
def Hl.s (k:Nat):CK 162 (Hl.e k):=mS Hl.d k [] Tryz.func162 ⟨Bu.s k,trivial⟩ trivial
def J8.e (k:Nat):Ent:=⟨1,[(.val true t27)],[(.agg,t29),(.one,(.i .i64))],λ x=>J8 k x⟩
def I4.p:LF:=⟨⟨[(1,(.bp 1 0 0)),(2,(.bp 2 0 0)),(4,(.bp 4 0 0)),(2999,(.hd 2)),(3999,(.hd 2)),(5999,(.hd 2))],[(5,(.i .i64)),(6,(.i .i64)),(2000,t27),(3000,t29),(5000,t29)]⟩,[((.exit 0),⟨[(2,(.bp 2 0 0)),(4,(.bp 4 0 0)),(3999,(.hd 2)),(5999,(.hd 2))],[(5,(.i .i64)),(3000,t29),(5000,t29)]⟩)],λ k x=>I4 k x.1 x.2.1 x.2.2.1 x.2.2.2.1 x.2.2.2.2⟩
def J8.d:Fd := { nt:=53,nv:=1,nm:=[0,1,4,5,6,7,8,9],res:=[3],cs:=λ k=>[(120,Ie.e k),(159,A7.e k),(192,Bp.e k),(209,Bh.e k),(210,Am.e k)],ls:=[(4,I4.p)],mv:=[51],rf:=true }
def J8.a (k:Nat):AC (J8.d.cs k):=⟨Ie.s k,A7.s k,Bp.s k,Bh.s k,Am.s k,trivial⟩
def I4.s:LL Tryz.f163 J8.d 4 I4.p:=mL [] J8.a trivial
def J8.s (k:Nat):CK 163 (J8.e k):=mS J8.d k [4] Tryz.func163 (J8.a k) ⟨I4.s,trivial⟩
def Cr.e (k:Nat):Ent:=⟨2,[(.val false t13),(.val false t13)],[(.one,t2)],λ x=>Cr k x.1 x.2⟩
def Ez.p:LF:=⟨⟨[],[(5,t14),(8,t2),(9,(.i .i64))]⟩,[((.exit 4),⟨[],[(8,t2)]⟩)],λ k x=>Ez k x.1 x.2.1 x.2.2⟩
def G5.p:LF:=⟨⟨[],[(1,t13),(5,t14),(7,(.i .i64))]⟩,[((.exit 2),⟨[],[(5,t14)]⟩)],λ k x=>G5 k x.1 x.2.1 x.2.2⟩
def G6.p:LF:=⟨⟨[],[(0,t13),(1,t13),(5,t14),(6,(.i .i64))]⟩,[((.exit 0),⟨[],[(1,t13),(5,t14)]⟩)],λ k x=>G6 k x.1 x.2.1 x.2.2.1 x.2.2.2⟩
def Cr.d:Fd := { nt:=55,nv:=2,nm:=[0,1,2,3,5,6,7,8,9],res:=[4],cs:=λ k=>[(252,Fu.e k)],ls:=[(12,Ez.p),(7,G5.p),(3,G6.p)],rf:=true }
def Cr.a (k:Nat):AC (Cr.d.cs k):=⟨Fu.s k,trivial⟩
def Ez.s:LL Tryz.f213 Cr.d 12 Ez.p:=mL [] Cr.a trivial
def G5.s:LL Tryz.f213 Cr.d 7 G5.p:=mL [] Cr.a trivial
def G6.s:LL Tryz.f213 Cr.d 3 G6.p:=mL [] Cr.a trivial
def Cr.s (k:Nat):CK 213 (Cr.e k):=mS Cr.d k [3,7,12] Tryz.func213 (Cr.a k) ⟨G6.s,G5.s,Ez.s,trivial⟩
def Di.e (k:Nat):Ent:=⟨2,[(.val true t27),(.val false t1)],[(.agg,t29)],λ x=>Di k x.1 x.2⟩
def Av.p:LF:=⟨⟨[(2,(.bp 2 0 0)),(4,(.bp 4 0 0)),(3999,(.hd 2)),(5999,(.hd 2))],[(1,t1),(5,t2),(6,t14),(7,(.i .i64)),(3000,t27),(5000,t29)]⟩,[((.exit 0),⟨[(2,(.bp 2 0 0)),(4,(.bp 4 0 0)),(3999,(.hd 2)),(5999,(.hd 2))],[(6,t14),(3000,t27),(5000,t29)]⟩)],λ k x=>Av k x.1 x.2.1 x.2.2.1 x.2.2.2.1 x.2.2.2.2.1 x.2.2.2.2.2⟩
def Di.d:Fd := { nt:=66,nv:=2,nm:=[0,1,2,3,5,6,7,8,9],res:=[],cs:=λ k=>[(153,De.e k),(159,A7.e k),(192,Bp.e k),(207,Bg.e k),(213,Cr.e k)],ls:=[(6,Av.p)],rf:=true }
def Di.a (k:Nat):AC (Di.d.cs k):=⟨De.s k,A7.s k,Bp.s k,Bg.s k,Cr.s k,trivial⟩
def Av.s:LL Tryz.f164 Di.d 6 Av.p:=mL [] Di.a trivial
def Di.s (k:Nat):CK 164 (Di.e k):=mS Di.d k [6] Tryz.func164 (Di.a k) ⟨Av.s,trivial⟩
def Bn.e (k:Nat):Ent:=⟨1,[(.val true t40)],[(.agg,t41)],λ x=>Bn k x⟩
def Bn.d:Fd := { nt:=17,nv:=1,nm:=[0,1],res:=[],cs:=λ k=>[(159,A7.e k)] }
def Bn.s (k:Nat):CK 95 (Bn.e k):=mS Bn.d k [] Tryz.func95 ⟨A7.s k,trivial⟩ trivial
def It.e (k:Nat):Ent:=⟨1,[(.val true t28)],[(.one,.b)],λ x=>It k x⟩
def It.d:Fd := { nt:=26,nv:=1,nm:=[0,1],res:=[2],cs:=λ k=>[(62,Ao.e k),(77,Cc.e k),(97,A9.e k)] }
def It.s (k:Nat):CK 191 (It.e k):=mS It.d k [] Tryz.func191 ⟨Ao.s k,Cc.s k,A9.s k,trivial⟩ trivial
def El.e (k:Nat):Ent:=⟨1,[(.val false t31)],[(.one,.b)],λ x=>El k x⟩
def Gp.p:LF:=⟨⟨[],[(0,t31),(3,(.i .i64))]⟩,[(.ret,⟨[],[(2,.b)]⟩),((.exit 0),⟨[],[(0,t31)]⟩)],λ k x=>Gp k x.1 x.2⟩
def El.d:Fd := { nt:=37,nv:=1,nm:=[0,1,3],res:=[2],cs:=λ k=>[(191,It.e k)],ls:=[(2,Gp.p)] }
def El.a (k:Nat):AC (El.d.cs k):=⟨It.s k,trivial⟩
def Gp.s:LL Tryz.f193 El.d 2 Gp.p:=mL [] El.a trivial
def El.s (k:Nat):CK 193 (El.e k):=mS El.d k [2] Tryz.func193 (El.a k) ⟨Gp.s,trivial⟩
def C4.e (k:Nat):Ent:=⟨1,[(.val true t40)],[(.one,.b)],λ x=>C4 k x⟩
def Hm.p:LF:=⟨⟨[(1,(.bp 1 0 0)),(2999,(.hd 5))],[(3,(.i .i64)),(2000,(.i .i64)),(2001,t13),(2002,t13),(2003,t31),(2004,t31)]⟩,[(.ret,⟨[],[(2,.b)]⟩),((.exit 0),⟨[(1,(.bp 1 0 0)),(2999,(.hd 5))],[(2000,(.i .i64)),(2001,t13),(2002,t13),(2003,t31),(2004,t31)]⟩)],λ k x=>Hm k x.1 x.2.1 x.2.2.1 x.2.2.2.1 x.2.2.2.2.1 x.2.2.2.2.2⟩
def C4.d:Fd := { nt:=37,nv:=1,nm:=[0,1,3],res:=[2],cs:=λ k=>[(97,A9.e k),(191,It.e k),(192,Bp.e k),(193,El.e k)],ls:=[(2,Hm.p)] }
def C4.a (k:Nat):AC (C4.d.cs k):=⟨A9.s k,It.s k,Bp.s k,El.s k,trivial⟩
def Hm.s:LL Tryz.f140 C4.d 2 Hm.p:=mL [] C4.a trivial
def C4.s (k:Nat):CK 140 (C4.e k):=mS C4.d k [2] Tryz.func140 (C4.a k) ⟨Hm.s,trivial⟩
def Kt.e (k:Nat):Ent:=⟨3,[(.val true t27),(.val false .s),(.val false (.i .i64))],[(.agg,t30),(.one,.b)],λ x=>Kt k x.1 x.2.1 x.2.2⟩
def Kt.d:Fd := { nt:=97,nv:=3,nm:=[0,1,2,3,4,5,8,9,10,11],res:=[7],cs:=λ k=>[(97,A9.e k),(153,De.e k),(159,Ki.e k),(192,Bp.e k)],mv:=[39,96] }
def Kt.s (k:Nat):CK 214 (Kt.e k):=mS Kt.d k [] Tryz.func214 ⟨A9.s k,De.s k,Ki.s k,Bp.s k,trivial⟩ trivial
def Ff.e (k:Nat):Ent:=⟨3,[(.val true t40),(.val false .s),(.val false (.i .i64))],[(.agg,t42),(.one,.b)],λ x=>Ff k x.1 x.2.1 x.2.2⟩
def Ff.d:Fd := { nt:=44,nv:=3,nm:=[0,1,2,3,4,5,8,9,10,11,12],res:=[7],cs:=λ k=>[(95,Bn.e k),(120,Ie.e k),(140,C4.e k),(214,Kt.e k)],mv:=[29,40,43] }
def Ff.s (k:Nat):CK 165 (Ff.e k):=mS Ff.d k [] Tryz.func165 ⟨Bn.s k,Ie.s k,C4.s k,Kt.s k,trivial⟩ trivial
def Dj.e (k:Nat):Ent:=⟨2,[(.val false t0),(.val false .s)],[(.one,t0)],λ x=>Dj k x.1 x.2⟩
def F3.p:LF:=⟨⟨[],[(1,.s),(5,t2),(6,(.i .i64))]⟩,[((.exit 0),⟨[],[(1,.s),(5,t2),(6,(.i .i64))]⟩)],λ k x=>F3 k x.1 x.2.1 x.2.2⟩
def Dj.d:Fd := { nt:=46,nv:=2,nm:=[0,1,2,3,5,6],res:=[4],cs:=λ k=>[(152,Ib.e k)],ls:=[(5,F3.p)],rf:=true }
def Dj.a (k:Nat):AC (Dj.d.cs k):=⟨Ib.s k,trivial⟩
def F3.s:LL Tryz.f166 Dj.d 5 F3.p:=mL [] Dj.a trivial
def Dj.s (k:Nat):CK 166 (Dj.e k):=mS Dj.d k [5] Tryz.func166 (Dj.a k) ⟨F3.s,trivial⟩
def B2.e (k:Nat):Ent:=⟨2,[(.ptr t49 t49),(.val true t34)],[(.one,.b)],λ x=>B2 k x.1 x.2⟩
def D8.p:LF:=⟨⟨[(0,(.bp 0 0 0)),(3,(.bp 3 0 0)),(1999,(.hd 9)),(4999,(.hd 6))],[(5,t3),(6,(.i .i64)),(1000,t49),(4000,t34)]⟩,[((.exit 1),⟨[(0,(.bp 0 0 0)),(3,(.bp 3 0 0)),(1999,(.hd 9)),(4999,(.hd 6))],[(5,t3),(1000,t49),(4000,t34)]⟩)],λ k x=>D8 k x.1 x.2.1 x.2.2.1 x.2.2.2⟩
def B2.d:Fd := { nt:=134,nv:=2,nm:=[0,1,2,3,5,6,7,8],res:=[4],cs:=λ k=>[(160,Ct.e k),(161,Hk.e k),(162,Hl.e k),(163,J8.e k),(164,Di.e k),(165,Ff.e k),(166,Dj.e k)],ls:=[(14,D8.p)],rf:=true }
def B2.a (k:Nat):AC (B2.d.cs k):=⟨Ct.s k,Hk.s k,Hl.s k,J8.s k,Di.s k,Ff.s k,Dj.s k,trivial⟩
def D8.s:LL Tryz.f98 B2.d 14 D8.p:=mL [] B2.a trivial
def B2.s (k:Nat):CK 98 (B2.e k):=mS B2.d k [14] Tryz.func98 (B2.a k) ⟨D8.s,trivial⟩
def Ji.e (k:Nat):Ent:=⟨1,[(.val true t17)],[(.agg,t18)],λ x=>Ji k x⟩
def Gq.p:LF:=⟨⟨[(1,(.bp 1 0 0)),(2,(.bp 2 0 0)),(3,(.bp 3 0 0)),(2999,(.hd 2)),(3999,(.hd 2)),(4999,(.hd 2))],[(4,(.i .i64)),(2000,t17),(3000,t18),(4000,t18)]⟩,[((.exit 0),⟨[(2,(.bp 2 0 0)),(3,(.bp 3 0 0)),(3999,(.hd 2)),(4999,(.hd 2))],[(3000,t18),(4000,t18)]⟩)],λ k x=>Gq k x.1 x.2.1 x.2.2.1 x.2.2.2⟩
def Ji.d:Fd := { nt:=30,nv:=1,nm:=[0,1,3,4],res:=[],ls:=[(3,Gq.p)],mv:=[29],rf:=true }
def Gq.s:LL Tryz.f94 Ji.d 3 Gq.p:=mL [] (λ _=>trivial) trivial
def Ji.s (k:Nat):CK 94 (Ji.e k):=mS Ji.d k [3] Tryz.func94 trivial ⟨Gq.s,trivial⟩
def Jn.e (k:Nat):Ent:=⟨1,[(.val true t17)],[(.agg,t19)],λ x=>Jn k x⟩
def Lc.p:LF:=⟨⟨[(1,(.bp 1 0 0)),(2,(.bp 2 0 0)),(3,(.bp 3 0 0)),(2999,(.hd 2)),(3999,(.hd 2)),(4999,(.hd 2))],[(4,(.i .i64)),(2000,t17),(3000,t18),(4000,t19)]⟩,[((.exit 0),⟨[(2,(.bp 2 0 0)),(3,(.bp 3 0 0)),(3999,(.hd 2)),(4999,(.hd 2))],[(3000,t18),(4000,t19)]⟩)],λ k x=>Lc k x.1 x.2.1 x.2.2.1 x.2.2.2⟩
def Jn.d:Fd := { nt:=30,nv:=1,nm:=[0,1,3,4],res:=[],ls:=[(3,Lc.p)],hint:=[(26,t7),(27,t7)],mv:=[29],rf:=true }
def Lc.s:LL Tryz.f94 Jn.d 3 Lc.p:=mL [] (λ _=>trivial) trivial
def Jn.s (k:Nat):CK 94 (Jn.e k):=mS Jn.d k [3] Tryz.func94 trivial ⟨Lc.s,trivial⟩
def C5.e (k:Nat):Ent:=⟨1,[(.val false t22)],[(.one,.b)],λ x=>C5 k x⟩
def Gr.p:LF:=⟨⟨[],[(0,t22),(3,(.i .i64))]⟩,[(.ret,⟨[],[(2,.b)]⟩),((.exit 0),⟨[],[(0,t22)]⟩)],λ k x=>Gr k x.1 x.2⟩
def C5.d:Fd := { nt:=49,nv:=1,nm:=[0,1,3,4],res:=[2],cs:=λ k=>[(97,A9.e k)],ls:=[(2,Gr.p)],rf:=true }
def C5.a (k:Nat):AC (C5.d.cs k):=⟨A9.s k,trivial⟩
def Gr.s:LL Tryz.f137 C5.d 2 Gr.p:=mL [] C5.a trivial
def C5.s (k:Nat):CK 137 (C5.e k):=mS C5.d k [2] Tryz.func137 (C5.a k) ⟨Gr.s,trivial⟩
def Em.e (k:Nat):Ent:=⟨2,[(.val true t6),(.val false (.i .i64))],[(.one,.b)],λ x=>Em k x.1 x.2⟩
def Hn.p:LF:=⟨⟨[(2,(.bp 2 0 0)),(3999,(.hd 1))],[(1,(.i .i64)),(5,(.i .i64)),(3000,t6)]⟩,[(.ret,⟨[],[(4,.b)]⟩),((.exit 0),⟨[(2,(.bp 2 0 0)),(3999,(.hd 1))],[(1,(.i .i64)),(3000,t6)]⟩)],λ k x=>Hn k x.1 x.2.1 x.2.2⟩
def Em.d:Fd := { nt:=28,nv:=2,nm:=[0,1,2,3,5],res:=[4],cs:=λ k=>[(190,Cq.e k)],ls:=[(2,Hn.p)],rf:=true }
def Em.a (k:Nat):AC (Em.d.cs k):=⟨Cq.s k,trivial⟩
def Hn.s:LL Tryz.f138 Em.d 2 Hn.p:=mL [] Em.a trivial
def Em.s (k:Nat):CK 138 (Em.e k):=mS Em.d k [2] Tryz.func138 (Em.a k) ⟨Hn.s,trivial⟩
def Kh.e (k:Nat):Ent:=⟨2,[(.val true t17),(.val false t22)],[(.one,.b)],λ x=>Kh k x.1 x.2⟩
def Jw.p:LF:=⟨⟨[(2,(.bp 2 0 0)),(3999,(.hd 2))],[(5,(.i .i64)),(3000,t17)]⟩,[(.ret,⟨[],[(4,.b)]⟩),((.exit 0),⟨[],[]⟩)],λ k x=>Jw k x.1 x.2⟩
def Kh.d:Fd := { nt:=45,nv:=2,nm:=[0,1,2,3,5],res:=[4],cs:=λ k=>[(97,A9.e k),(137,C5.e k),(138,Em.e k)],ls:=[(4,Jw.p)],rf:=true }
def Kh.a (k:Nat):AC (Kh.d.cs k):=⟨A9.s k,C5.s k,Em.s k,trivial⟩
def Jw.s:LL Tryz.f215 Kh.d 4 Jw.p:=mL [] Kh.a trivial
def Kh.s (k:Nat):CK 215 (Kh.e k):=mS Kh.d k [4] Tryz.func215 (Kh.a k) ⟨Jw.s,trivial⟩
def H1.e (k:Nat):Ent:=⟨2,[(.val true t6),(.val false t22)],[(.one,(.i .i64))],λ x=>H1 k x.1 x.2⟩
def Ho.p:LF:=⟨⟨[(2,(.bp 2 0 0)),(3999,(.hd 1))],[(1,t22),(5,(.i .i64)),(3000,t6)]⟩,[(.ret,⟨[],[(4,(.i .i64))]⟩),((.exit 0),⟨[],[]⟩)],λ k x=>Ho k x.1 x.2.1 x.2.2⟩
def H1.d:Fd := { nt:=28,nv:=2,nm:=[0,1,2,3,5,6,7],res:=[4],cs:=λ k=>[(139,Eh.e k)],ls:=[(2,Ho.p)],rf:=true }
def H1.a (k:Nat):AC (H1.d.cs k):=⟨Eh.s k,trivial⟩
def Ho.s:LL Tryz.f216 H1.d 2 Ho.p:=mL [] H1.a trivial
def H1.s (k:Nat):CK 216 (H1.e k):=mS H1.d k [2] Tryz.func216 (H1.a k) ⟨Ho.s,trivial⟩
def Cw.e (k:Nat):Ent:=⟨2,[(.val true t17),(.val false (.i .i64))],[(.one,(.i .i64))],λ x=>Cw k x.1 x.2⟩
def Gt.p:LF:=⟨⟨[(2,(.bp 2 0 0)),(3999,(.hd 2))],[(1,(.i .i64)),(5,(.i .i64)),(6,(.i .i64)),(7,(.i .i64)),(3000,t17)]⟩,[((.exit 2),⟨[(2,(.bp 2 0 0)),(3999,(.hd 2))],[(1,(.i .i64)),(5,(.i .i64)),(6,(.i .i64)),(3000,t17)]⟩)],λ k x=>Gt k x.1 x.2.1 x.2.2.1 x.2.2.2.1 x.2.2.2.2⟩
def Hp.p:LF:=⟨⟨[(2,(.bp 2 0 0)),(3999,(.hd 2))],[(1,(.i .i64)),(5,(.i .i64)),(6,(.i .i64)),(3000,t17)]⟩,[((.exit 0),⟨[],[(5,(.i .i64))]⟩)],λ k x=>Hp k x.1 x.2.1 x.2.2.1 x.2.2.2⟩
def Cw.d:Fd := { nt:=40,nv:=2,nm:=[0,1,2,3,5,6,7],res:=[4],ls:=[(6,Gt.p),(3,Hp.p)],rf:=true }
def Gt.s:LL Tryz.f255 Cw.d 6 Gt.p:=mL [] (λ _=>trivial) trivial
def Hp.s:LL Tryz.f255 Cw.d 3 Hp.p:=mL [6] (λ _=>trivial) ⟨Gt.s,trivial⟩
def Cw.s (k:Nat):CK 255 (Cw.e k):=mS Cw.d k [3] Tryz.func255 trivial ⟨Hp.s,trivial⟩
def Ih.e (k:Nat):Ent:=⟨3,[(.val true t17),(.val true t6),(.val false t22)],[(.one,(.i .i64))],λ x=>Ih k x.1 x.2.1 x.2.2⟩
def Bz.p:LF:=⟨⟨[(3,(.bp 3 0 0)),(4,(.bp 4 0 0)),(4999,(.hd 2)),(5999,(.hd 1))],[(2,t22),(7,t7),(8,(.i .i64)),(9,.b),(10,(.i .i64)),(4000,t17),(5000,t6)]⟩,[((.exit 0),⟨[],[(2,t22),(8,(.i .i64))]⟩)],λ k x=>Bz k x.1 x.2.1 x.2.2.1 x.2.2.2.1 x.2.2.2.2.1 x.2.2.2.2.2.1 x.2.2.2.2.2.2⟩
def Ih.d:Fd := { nt:=88,nv:=3,nm:=[0,1,2,3,4,5,7,8,9,10,11,12],res:=[6],cs:=λ k=>[(137,C5.e k),(190,Cq.e k),(226,D7.e k),(255,Cw.e k)],ls:=[(5,Bz.p)],rf:=true }
def Ih.a (k:Nat):AC (Ih.d.cs k):=⟨C5.s k,Cq.s k,D7.s k,Cw.s k,trivial⟩
def Bz.s:LL Tryz.f217 Ih.d 5 Bz.p:=mL [] Ih.a trivial
def Ih.s (k:Nat):CK 217 (Ih.e k):=mS Ih.d k [5] Tryz.func217 (Ih.a k) ⟨Bz.s,trivial⟩
def Fg.e (k:Nat):Ent:=⟨4,[(.val true t17),(.val true t6),(.val false t22),(.val false (.i .i64))],[(.one,(.i .i64))],λ x=>Fg k x.1 x.2.1 x.2.2.1 x.2.2.2⟩
def Ci.p:LF:=⟨⟨[(4,(.bp 4 0 0)),(5,(.bp 5 0 0)),(9,(.bp 9 0 0)),(5999,(.hd 2)),(6999,(.hd 1)),(10999,(.hd 3))],[(2,t22),(3,(.i .i64)),(10,.b),(11,(.i .i64)),(5000,t17),(6000,t6),(10000,t16)]⟩,[(.ret,⟨[],[(8,(.i .i64))]⟩),((.exit 0),⟨[],[]⟩)],λ k x=>Ci k x.1 x.2.1 x.2.2.1 x.2.2.2.1 x.2.2.2.2.1 x.2.2.2.2.2.1 x.2.2.2.2.2.2⟩
def Fg.d:Fd := { nt:=60,nv:=4,nm:=[0,1,2,3,4,5,6,7,9,10,11,12,13],res:=[8],cs:=λ k=>[(139,Eh.e k),(255,Cw.e k)],ls:=[(3,Ci.p)],rf:=true }
def Fg.a (k:Nat):AC (Fg.d.cs k):=⟨Eh.s k,Cw.s k,trivial⟩
def Ci.s:LL Tryz.f218 Fg.d 3 Ci.p:=mL [] Fg.a trivial
def Fg.s (k:Nat):CK 218 (Fg.e k):=mS Fg.d k [3] Tryz.func218 (Fg.a k) ⟨Ci.s,trivial⟩
def Cu.e (k:Nat):Ent:=⟨2,[(.val true t17),(.val false t22)],[(.agg,t19),(.one,(.i .i64))],λ x=>Cu k x.1 x.2⟩
def B8.p:LF:=⟨⟨[(4,(.bp 4 0 0)),(6,(.bp 6 0 0)),(5999,(.hd 2)),(7999,(.hd 2))],[(1,t22),(7,(.i .i64)),(8,(.i .i64)),(5000,t18),(7000,t19)]⟩,[((.exit 0),⟨[(4,(.bp 4 0 0)),(6,(.bp 6 0 0)),(5999,(.hd 2)),(7999,(.hd 2))],[(7,(.i .i64)),(5000,t18),(7000,t19)]⟩)],λ k x=>B8 k x.1 x.2.1 x.2.2.1 x.2.2.2.1 x.2.2.2.2⟩
def Cu.d:Fd := { nt:=82,nv:=2,nm:=[0,1,2,3,6,7,8,9,10,11,12],res:=[5],cs:=λ k=>[(94,Jn.e k),(215,Kh.e k),(216,H1.e k),(217,Ih.e k),(218,Fg.e k)],ls:=[(6,B8.p)],mv:=[19,80],rf:=true }
def Cu.a (k:Nat):AC (Cu.d.cs k):=⟨Jn.s k,Kh.s k,H1.s k,Ih.s k,Fg.s k,trivial⟩
def B8.s:LL Tryz.f167 Cu.d 6 B8.p:=mL [] Cu.a trivial
def Cu.s (k:Nat):CK 167 (Cu.e k):=mS Cu.d k [6] Tryz.func167 (Cu.a k) ⟨B8.s,trivial⟩
def Hq.e (k:Nat):Ent:=⟨3,[(.ptr t49 t49),(.val false (.i .i64)),(.val false (.i .i64))],[(.one,.b)],λ x=>Hq k x.1 x.2.1 x.2.2⟩
def Hq.d:Fd := { nt:=49,nv:=3,nm:=[0,1,2,3,4,5,7,8],res:=[6],cs:=λ k=>[(97,A9.e k),(167,Cu.e k)],rf:=true }
def Hq.s (k:Nat):CK 99 (Hq.e k):=mS Hq.d k [] Tryz.func99 ⟨A9.s k,Cu.s k,trivial⟩ trivial
def Jb.e (k:Nat):Ent:=⟨2,[(.ptr t49 t49),(.val true t34)],[(.one,.b)],λ x=>Jb k x.1 x.2⟩
def Jb.d:Fd := { nt:=76,nv:=2,nm:=[0,1,2,3,5,6],res:=[4],cs:=λ k=>[(71,I3.e k),(97,A9.e k),(98,B2.e k),(99,Hq.e k)],rf:=true }
def Jb.s (k:Nat):CK 43 (Jb.e k):=mS Jb.d k [] Tryz.func43 ⟨I3.s k,A9.s k,B2.s k,Hq.s k,trivial⟩ trivial
def H2.e (k:Nat):Ent:=⟨1,[(.ptr t21 t21)],[(.one,t23)],λ x=>H2 k x⟩
def Hr.p:LF:=⟨⟨[(0,(.bp 0 0 0)),(1999,(.hd 3))],[(3,t23),(4,(.i .i64)),(5,(.i .i64)),(6,(.i .i64)),(1000,t21)]⟩,[((.exit 0),⟨[(1999,(.hd 3))],[(3,t23),(1000,t21)]⟩)],λ k x=>Hr k x.1 x.2.1 x.2.2.1 x.2.2.2.1 x.2.2.2.2⟩
def H2.d:Fd := { nt:=35,nv:=1,nm:=[0,1,3,4,5,6],res:=[2],cs:=λ k=>[(37,A3.e k),(39,Ac.e k)],ls:=[(5,Hr.p)],rf:=true }
def H2.a (k:Nat):AC (H2.d.cs k):=⟨A3.s k,Ac.s k,trivial⟩
def Hr.s:LL Tryz.f107 H2.d 5 Hr.p:=mL [] H2.a trivial
def H2.s (k:Nat):CK 107 (H2.e k):=mS H2.d k [5] Tryz.func107 (H2.a k) ⟨Hr.s,trivial⟩
def Hb.e (k:Nat):Ent:=⟨3,[(.val false t22),(.val false (.i .i64)),(.val false (.i .i64))],[(.agg,t19),(.one,.b)],λ x=>Hb k x.1 x.2.1 x.2.2⟩
def Iu.p:LF:=⟨⟨[(6,(.bp 6 0 0)),(8,(.bp 8 0 0)),(7999,(.hd 2)),(9999,(.hd 2))],[(0,t22),(1,(.i .i64)),(2,(.i .i64)),(9,(.i .i64)),(10,(.i .i64)),(7000,t18),(9000,t19)]⟩,[((.exit 2),⟨[(6,(.bp 6 0 0)),(8,(.bp 8 0 0)),(7999,(.hd 2)),(9999,(.hd 2))],[(0,t22),(1,(.i .i64)),(2,(.i .i64)),(9,(.i .i64)),(7000,t18),(9000,t19)]⟩)],λ k x=>Iu k x.1 x.2.1 x.2.2.1 x.2.2.2.1 x.2.2.2.2.1 x.2.2.2.2.2.1 x.2.2.2.2.2.2⟩
def Iv.p:LF:=⟨⟨[(6,(.bp 6 0 0)),(8,(.bp 8 0 0)),(7999,(.hd 2)),(9999,(.hd 2))],[(0,t22),(1,(.i .i64)),(2,(.i .i64)),(9,(.i .i64)),(7000,t18),(9000,t19)]⟩,[((.exit 0),⟨[(6,(.bp 6 0 0)),(8,(.bp 8 0 0)),(7999,(.hd 2)),(9999,(.hd 2))],[(7000,t18),(9000,t19)]⟩)],λ k x=>Iv k x.1 x.2.1 x.2.2.1 x.2.2.2.1 x.2.2.2.2.1 x.2.2.2.2.2⟩
def Hb.d:Fd := { nt:=73,nv:=3,nm:=[0,1,2,3,4,5,8,9,10,11],res:=[7],cs:=λ k=>[(97,A9.e k),(137,C5.e k),(217,Ih.e k)],ls:=[(9,Iu.p),(5,Iv.p)],hint:=[(42,t7),(43,t7)],mv:=[72],gh:=[(12,[.od 54 3001]),(1000010,[.cl 9001])],rf:=true }
def Hb.a (k:Nat):AC (Hb.d.cs k):=⟨A9.s k,C5.s k,Ih.s k,trivial⟩
def Iu.s:LL Tryz.f169 Hb.d 9 Iu.p:=mL [] Hb.a trivial
def Iv.s:LL Tryz.f169 Hb.d 5 Iv.p:=mL [9] Hb.a ⟨Iu.s,trivial⟩
def Hb.s (k:Nat):CK 169 (Hb.e k):=mS Hb.d k [5] Tryz.func169 (Hb.a k) ⟨Iv.s,trivial⟩
def H8.e (k:Nat):Ent:=⟨1,[(.val false (.i .i64))],[(.agg,t41)],λ x=>H8 x⟩
def H8.d:Fd := { nt:=9,nv:=1,nm:=[0,1],res:=[],cs:=λ k=>[(97,A9.e k)] }
def H8.s (k:Nat):CK 170 (H8.e k):=mS H8.d k [] Tryz.func170 ⟨A9.s k,trivial⟩ trivial
def Cn.e (k:Nat):Ent:=⟨3,[(.val false t22),(.val false (.i .i64)),(.val false (.i .i64))],[(.agg,t50)],λ x=>Cn k x.1 x.2.1 x.2.2⟩
def F4.p:LF:=⟨⟨[(6,(.bp 6 0 0)),(9,(.bp 9 0 0)),(7999,(.hd 9)),(10999,(.hd 9))],[(0,t22),(10,(.i .i64)),(7000,t51),(10000,t50)]⟩,[((.exit 0),⟨[(6,(.bp 6 0 0)),(9,(.bp 9 0 0)),(7999,(.hd 9)),(10999,(.hd 9))],[(7000,t51),(10000,t50)]⟩)],λ k x=>F4 k x.1 x.2.1 x.2.2.1 x.2.2.2⟩
def Cn.d:Fd := { nt:=44,nv:=3,nm:=[0,1,2,3,4,5,7,8,9,10],res:=[],cs:=λ k=>[(169,Hb.e k),(170,H8.e k)],ls:=[(6,F4.p)],mv:=[43],rf:=true }
def Cn.a (k:Nat):AC (Cn.d.cs k):=⟨Hb.s k,H8.s k,trivial⟩
def F4.s:LL Tryz.f108 Cn.d 6 F4.p:=mL [] Cn.a trivial
def Cn.s (k:Nat):CK 108 (Cn.e k):=mS Cn.d k [6] Tryz.func108 (Cn.a k) ⟨F4.s,trivial⟩
def Ku.e (k:Nat):Ent:=⟨1,[(.ptr t21 t21)],[(.agg,t50)],λ x=>Ku k x⟩
def Ku.d:Fd := { nt:=22,nv:=1,nm:=[0,1,3,4],res:=[],cs:=λ k=>[(39,Ac.e k),(107,H2.e k),(108,Cn.e k)],rf:=true }
def Ku.s (k:Nat):CK 49 (Ku.e k):=mS Ku.d k [] Tryz.func49 ⟨Ac.s k,H2.s k,Cn.s k,trivial⟩ trivial
def F5.e (k:Nat):Ent:=⟨2,[(.ptr t21 t21),(.vw t49 2),(.hid t49 t49)],[(.agg,(.pr (.i .i64) (.pr (.i .i64) (.pr .s (.pr t5 (.pr (.i .i64) t7))))))],λ x=>F5 k x.1 x.2.1 x.2.2⟩
def F5.d:Fd := { nt:=99,nv:=2,nm:=[0,1,2,3,5,6],res:=[],cs:=λ k=>[(37,A3.e k),(39,Ac.e k),(86,Bx.e k),(87,Ee.e k),(88,Dr.e k),(89,Gz.e k)],mv:=[1,98],rf:=true }
def F5.s (k:Nat):CK 38 (F5.e k):=mS F5.d k [] Tryz.func38 ⟨A3.s k,Ac.s k,Bx.s k,Ee.s k,Dr.s k,Gz.s k,trivial⟩ trivial
def Ef.e (k:Nat):Ent:=⟨2,[(.ptr t21 t21),(.val false (.i .i64))],[(.agg,t49)],λ x=>Ef k x.1 x.2⟩
def G7.p:LF:=⟨⟨[(0,(.bp 0 0 0)),(4,(.bp 4 0 0)),(5,(.bp 5 0 0)),(1999,(.hd 3)),(5999,(.hd 9)),(6999,(.hd 9))],[(6,(.i .i64)),(1000,t21),(5000,t51),(6000,t49)]⟩,[((.exit 0),⟨[(4,(.bp 4 0 0)),(5,(.bp 5 0 0)),(5999,(.hd 9)),(6999,(.hd 9)),(1999,(.hd 3))],[(5000,t51),(6000,t49),(1000,t21)]⟩)],λ k x=>G7 k x.1 x.2.1 x.2.2.1 x.2.2.2⟩
def Ef.d:Fd := { nt:=21,nv:=2,nm:=[0,1,2,3,5,6],res:=[],cs:=λ k=>[(37,A3.e k),(38,F5.e k),(43,Jb.e k),(49,Ku.e k)],ls:=[(3,G7.p)],mv:=[20],rf:=true }
def Ef.a (k:Nat):AC (Ef.d.cs k):=⟨A3.s k,F5.s k,Jb.s k,Ku.s k,trivial⟩
def G7.s:LL Tryz.f55 Ef.d 3 G7.p:=mL [] Ef.a trivial
def Ef.s (k:Nat):CK 55 (Ef.e k):=mS Ef.d k [3] Tryz.func55 (Ef.a k) ⟨G7.s,trivial⟩
def Cj.e (k:Nat):Ent:=⟨2,[(.ptr t21 t21),(.val false (.i .i64))],[(.one,.b)],λ x=>Cj x.1 x.2⟩
def Cj.d:Fd := { nt:=9,nv:=2,nm:=[0,1,2,3],res:=[4],cs:=λ k=>[(37,A3.e k)] }
def Cj.s (k:Nat):CK 83 (Cj.e k):=mS Cj.d k [] Tryz.func83 ⟨A3.s k,trivial⟩ trivial
def Df.e (k:Nat):Ent:=⟨1,[(.val true t48)],[(.agg,t51)],λ x=>Df k x⟩
def G8.p:LF:=⟨⟨[(1,(.bp 1 0 0)),(2,(.bp 2 0 0)),(3,(.bp 3 0 0)),(2999,(.hd 9)),(3999,(.hd 9)),(4999,(.hd 9))],[(5,(.i .i64)),(2000,t48),(3000,t51),(4000,t51)]⟩,[((.exit 2),⟨[(2,(.bp 2 0 0)),(3,(.bp 3 0 0)),(3999,(.hd 9)),(4999,(.hd 9))],[(3000,t51),(4000,t51)]⟩)],λ k x=>G8 k x.1 x.2.1 x.2.2.1 x.2.2.2⟩
def G9.p:LF:=⟨⟨[(1,(.bp 1 0 0)),(2,(.bp 2 0 0)),(3,(.bp 3 0 0)),(2999,(.hd 9)),(3999,(.hd 9)),(4999,(.hd 9))],[(4,(.i .i64)),(2000,t48),(3000,t51),(4000,t51)]⟩,[((.exit 0),⟨[(1,(.bp 1 0 0)),(2,(.bp 2 0 0)),(3,(.bp 3 0 0)),(2999,(.hd 9)),(3999,(.hd 9)),(4999,(.hd 9))],[(2000,t48),(3000,t51),(4000,t51)]⟩)],λ k x=>G9 k x.1 x.2.1 x.2.2.1 x.2.2.2⟩
def Df.d:Fd := { nt:=62,nv:=1,nm:=[0,1,3,4,5,6],res:=[],cs:=λ k=>[(94,Ji.e k),(95,Bn.e k),(96,Bs.e k)],ls:=[(7,G8.p),(3,G9.p)],mv:=[61],rf:=true }
def Df.a (k:Nat):AC (Df.d.cs k):=⟨Ji.s k,Bn.s k,Bs.s k,trivial⟩
def G8.s:LL Tryz.f42 Df.d 7 G8.p:=mL [] Df.a trivial
def G9.s:LL Tryz.f42 Df.d 3 G9.p:=mL [] Df.a trivial
def Df.s (k:Nat):CK 42 (Df.e k):=mS Df.d k [3,7] Tryz.func42 (Df.a k) ⟨G9.s,G8.s,trivial⟩
def Fe.e (k:Nat):Ent:=⟨1,[(.ptr t21 t21)],[(.one,.s)],λ x=>Fe x⟩
def Fe.d:Fd := { nt:=10,nv:=1,nm:=[0,1],res:=[2],cs:=λ k=>[(83,Cj.e k),(86,Bx.e k),(115,Ka.e k)] }
def Fe.s (k:Nat):CK 56 (Fe.e k):=mS Fe.d k [] Tryz.func56 ⟨Cj.s k,Bx.s k,Ka.s k,trivial⟩ trivial
def Iw.e (k:Nat):Ent:=⟨1,[(.ptr t21 t21)],[(.agg,t16)],λ x=>Iw x⟩
def Iw.d:Fd := { nt:=11,nv:=1,nm:=[0,1],res:=[],cs:=λ k=>[(37,A3.e k),(39,Ac.e k)] }
def Iw.s (k:Nat):CK 197 (Iw.e k):=mS Iw.d k [] Tryz.func197 ⟨A3.s k,Ac.s k,trivial⟩ trivial
def Ck.e (k:Nat):Ent:=⟨1,[(.ptr t21 t21)],[(.agg,t26)],λ x=>Ck k x⟩
def Ck.d:Fd := { nt:=16,nv:=1,nm:=[0,1,3],res:=[],cs:=λ k=>[(83,Cj.e k),(88,Dr.e k),(197,Iw.e k)],mv:=[15] }
def Ck.s (k:Nat):CK 198 (Ck.e k):=mS Ck.d k [] Tryz.func198 ⟨Cj.s k,Dr.s k,Iw.s k,trivial⟩ trivial
def Jx.e (k:Nat):Ent:=⟨4,[(.val true t40),(.val false .s),(.val true t25),(.val false .b)],[(.agg,t42),(.one,(.i .i64))],λ x=>Jx k x.1 x.2.1 x.2.2.1 x.2.2.2⟩
def Jx.d:Fd := { nt:=34,nv:=4,nm:=[0,1,2,3,4,5,6,7,10,11],res:=[9],cs:=λ k=>[(62,Ao.e k),(78,C3.e k),(95,Bn.e k),(140,C4.e k),(184,Ir.e k)],mv:=[27,32] }
def Jx.s (k:Nat):CK 235 (Jx.e k):=mS Jx.d k [] Tryz.func235 ⟨Ao.s k,C3.s k,Bn.s k,C4.s k,Ir.s k,trivial⟩ trivial
def Ix.e (k:Nat):Ent:=⟨2,[(.val true t40),(.val false t31)],[(.agg,t43),(.one,.b)],λ x=>Ix k x.1 x.2⟩
def Ix.d:Fd := { nt:=25,nv:=2,nm:=[0,1,2,3,6],res:=[5],cs:=λ k=>[(95,Bn.e k),(140,C4.e k),(193,El.e k),(254,Hj.e k)],mv:=[24] }
def Ix.s (k:Nat):CK 236 (Ix.e k):=mS Ix.d k [] Tryz.func236 ⟨Bn.s k,C4.s k,El.s k,Hj.s k,trivial⟩ trivial
def Iy.e (k:Nat):Ent:=⟨1,[(.ptr t21 t21)],[(.agg,t28)],λ x=>Iy k x⟩
def Iy.d:Fd := { nt:=8,nv:=1,nm:=[0,1],res:=[],cs:=λ k=>[(86,Bx.e k),(198,Ck.e k),(230,J7.e k)] }
def Iy.s (k:Nat):CK 239 (Iy.e k):=mS Iy.d k [] Tryz.func239 ⟨Bx.s k,Ck.s k,J7.s k,trivial⟩ trivial
def D9.e (k:Nat):Ent:=⟨1,[(.ptr t21 t21)],[(.one,t32)],λ x=>D9 k x⟩
def Ga.p:LF:=⟨⟨[(0,(.bp 0 0 0)),(1999,(.hd 3))],[(3,t32),(4,(.i .i64)),(1000,t4),(1001,(.i .i64)),(1002,(.i .i64))]⟩,[((.exit 0),⟨[(1999,(.hd 3))],[(3,t32),(1000,t4),(1001,(.i .i64)),(1002,(.i .i64))]⟩)],λ k x=>Ga k x.1 x.2.1 x.2.2.1 x.2.2.2.1 x.2.2.2.2⟩
def D9.d:Fd := { nt:=17,nv:=1,nm:=[0,1,3,4],res:=[2],cs:=λ k=>[(37,A3.e k),(239,Iy.e k),(260,Bt.e k)],ls:=[(3,Ga.p)] }
def D9.a (k:Nat):AC (D9.d.cs k):=⟨A3.s k,Iy.s k,Bt.s k,trivial⟩
def Ga.s:LL Tryz.f237 D9.d 3 Ga.p:=mL [] D9.a trivial
def D9.s (k:Nat):CK 237 (D9.e k):=mS D9.d k [3] Tryz.func237 (D9.a k) ⟨Ga.s,trivial⟩
def Fh.e (k:Nat):Ent:=⟨1,[(.ptr t21 t21)],[(.agg,t44)],λ x=>Fh k x⟩
def Gb.p:LF:=⟨⟨[(0,(.bp 0 0 0)),(2,(.bp 2 0 0)),(3,(.bp 3 0 0)),(1999,(.hd 3)),(3999,(.hd 5)),(4999,(.hd 5))],[(4,(.i .i64)),(1000,t4),(1001,(.i .i64)),(1002,(.i .i64)),(3000,(.i .i64)),(3001,t14),(3002,t14),(3003,t32),(3004,t32),(4000,(.i .i64)),(4001,t13),(4002,t13),(4003,t32),(4004,t32)]⟩,[((.exit 0),⟨[(0,(.bp 0 0 0)),(2,(.bp 2 0 0)),(3,(.bp 3 0 0)),(1999,(.hd 3)),(3999,(.hd 5)),(4999,(.hd 5))],[(1000,t4),(1001,(.i .i64)),(1002,(.i .i64)),(3000,(.i .i64)),(3001,t14),(3002,t14),(3003,t32),(3004,t32),(4000,(.i .i64)),(4001,t13),(4002,t13),(4003,t32),(4004,t32)]⟩)],λ k x=>Gb k x.1 x.2.1 x.2.2.1 x.2.2.2.1 x.2.2.2.2.1 x.2.2.2.2.2.1 x.2.2.2.2.2.2.1 x.2.2.2.2.2.2.2.1 x.2.2.2.2.2.2.2.2.1 x.2.2.2.2.2.2.2.2.2.1 x.2.2.2.2.2.2.2.2.2.2.1 x.2.2.2.2.2.2.2.2.2.2.2.1 x.2.2.2.2.2.2.2.2.2.2.2.2.1 x.2.2.2.2.2.2.2.2.2.2.2.2.2⟩
def Fh.d:Fd := { nt:=47,nv:=1,nm:=[0,1,3,4],res:=[],cs:=λ k=>[(37,A3.e k),(83,Cj.e k),(86,Bx.e k),(165,Ff.e k),(170,H8.e k),(198,Ck.e k),(235,Jx.e k),(236,Ix.e k),(237,D9.e k)],ls:=[(3,Gb.p)],mv:=[46] }
def Fh.a (k:Nat):AC (Fh.d.cs k):=⟨A3.s k,Cj.s k,Bx.s k,Ff.s k,H8.s k,Ck.s k,Jx.s k,Ix.s k,D9.s k,trivial⟩
def Gb.s:LL Tryz.f194 Fh.d 3 Gb.p:=mL [] Fh.a trivial
def Fh.s (k:Nat):CK 194 (Fh.e k):=mS Fh.d k [3] Tryz.func194 (Fh.a k) ⟨Gb.s,trivial⟩
def Fm.e (k:Nat):Ent:=⟨1,[(.ptr t21 t21)],[(.agg,t29)],λ x=>Fm k x⟩
def B3.p:LF:=⟨⟨[(0,(.bp 0 0 0)),(2,(.bp 2 0 0)),(3,(.bp 3 0 0)),(1999,(.hd 3)),(3999,(.hd 2)),(4999,(.hd 2))],[(4,(.i .i64)),(1000,t4),(1001,(.i .i64)),(1002,(.i .i64)),(3000,t14),(3001,t14),(4000,t14),(4001,t14)]⟩,[((.exit 0),⟨[(2,(.bp 2 0 0)),(3,(.bp 3 0 0)),(3999,(.hd 2)),(4999,(.hd 2)),(1999,(.hd 3))],[(3000,t14),(3001,t14),(4000,t14),(4001,t14),(1000,t4),(1001,(.i .i64)),(1002,(.i .i64))]⟩)],λ k x=>B3 k x.1 x.2.1 x.2.2.1 x.2.2.2.1 x.2.2.2.2.1 x.2.2.2.2.2.1 x.2.2.2.2.2.2.1 x.2.2.2.2.2.2.2⟩
def Fm.d:Fd := { nt:=44,nv:=1,nm:=[0,1,3,4,5],res:=[],cs:=λ k=>[(37,A3.e k),(86,Bx.e k),(198,Ck.e k),(202,Bm.e k),(209,Bh.e k),(210,Am.e k),(249,Bf.e k)],ls:=[(3,B3.p)],mv:=[43] }
def Fm.a (k:Nat):AC (Fm.d.cs k):=⟨A3.s k,Bx.s k,Ck.s k,Bm.s k,Bh.s k,Am.s k,Bf.s k,trivial⟩
def B3.s:LL Tryz.f238 Fm.d 3 B3.p:=mL [] Fm.a trivial
def Fm.s (k:Nat):CK 238 (Fm.e k):=mS Fm.d k [3] Tryz.func238 (Fm.a k) ⟨B3.s,trivial⟩
def Kd.e (k:Nat):Ent:=⟨1,[(.ptr t21 t21)],[(.agg,t29)],λ x=>Kd k x⟩
def Kd.d:Fd := { nt:=33,nv:=1,nm:=[0,1,3],res:=[],cs:=λ k=>[(37,A3.e k),(56,Fe.e k),(238,Fm.e k)],mv:=[32] }
def Kd.s (k:Nat):CK 195 (Kd.e k):=mS Kd.d k [] Tryz.func195 ⟨A3.s k,Fe.s k,Fm.s k,trivial⟩ trivial
def Kw.e (k:Nat):Ent:=⟨1,[(.ptr t21 t21)],[(.one,t32)],λ x=>Kw k x⟩
def Kw.d:Fd := { nt:=27,nv:=1,nm:=[0,1,3],res:=[2],cs:=λ k=>[(37,A3.e k),(39,Ac.e k),(237,D9.e k),(239,Iy.e k)] }
def Kw.s (k:Nat):CK 196 (Kw.e k):=mS Kw.d k [] Tryz.func196 ⟨A3.s k,Ac.s k,D9.s k,Iy.s k,trivial⟩ trivial
def Gd.e (k:Nat):Ent:=⟨1,[(.ptr t21 t21)],[(.agg,t44)],λ x=>Gd k x⟩
def Gc.p:LF:=⟨⟨[(0,(.bp 0 0 0)),(2,(.bp 2 0 0)),(3,(.bp 3 0 0)),(1999,(.hd 3)),(3999,(.hd 5)),(4999,(.hd 5))],[(1000,t4),(1001,(.i .i64)),(1002,(.i .i64)),(3000,(.i .i64)),(3001,t14),(3002,t14),(3003,t32),(3004,t32),(4000,(.i .i64)),(4001,t13),(4002,t13),(4003,t31),(4004,t32)]⟩,[((.exit 1),⟨[(2,(.bp 2 0 0)),(3,(.bp 3 0 0)),(3999,(.hd 5)),(4999,(.hd 5)),(1999,(.hd 3))],[(3000,(.i .i64)),(3001,t14),(3002,t14),(3003,t32),(3004,t32),(4000,(.i .i64)),(4001,t13),(4002,t13),(4003,t31),(4004,t32),(1000,t4),(1001,(.i .i64)),(1002,(.i .i64))]⟩)],λ k x=>Gc k x.1 x.2.1 x.2.2.1 x.2.2.2.1 x.2.2.2.2.1 x.2.2.2.2.2.1 x.2.2.2.2.2.2.1 x.2.2.2.2.2.2.2.1 x.2.2.2.2.2.2.2.2.1 x.2.2.2.2.2.2.2.2.2.1 x.2.2.2.2.2.2.2.2.2.2.1 x.2.2.2.2.2.2.2.2.2.2.2.1 x.2.2.2.2.2.2.2.2.2.2.2.2⟩
def Gd.d:Fd := { nt:=50,nv:=1,nm:=[0,1,3],res:=[],cs:=λ k=>[(37,A3.e k),(39,Ac.e k),(56,Fe.e k),(194,Fh.e k),(195,Kd.e k),(196,Kw.e k)],ls:=[(12,Gc.p)],mv:=[49] }
def Gd.a (k:Nat):AC (Gd.d.cs k):=⟨A3.s k,Ac.s k,Fe.s k,Fh.s k,Kd.s k,Kw.s k,trivial⟩
def Gc.s:LL Tryz.f147 Gd.d 12 Gc.p:=mL [] Gd.a trivial
def Gd.s (k:Nat):CK 147 (Gd.e k):=mS Gd.d k [12] Tryz.func147 (Gd.a k) ⟨Gc.s,trivial⟩
def Jj.e (k:Nat):Ent:=⟨1,[(.ptr t21 t21)],[(.agg,t16)],λ x=>Jj x⟩
def Jj.d:Fd := { nt:=27,nv:=1,nm:=[0,1,3],res:=[],cs:=λ k=>[(37,A3.e k),(39,Ac.e k),(197,Iw.e k)] }
def Jj.s (k:Nat):CK 148 (Jj.e k):=mS Jj.d k [] Tryz.func148 ⟨A3.s k,Ac.s k,Iw.s k,trivial⟩ trivial
def Ld.e (k:Nat):Ent:=⟨1,[(.ptr t21 t21)],[(.agg,t26)],λ x=>Ld k x⟩
def Ld.d:Fd := { nt:=27,nv:=1,nm:=[0,1,3],res:=[],cs:=λ k=>[(37,A3.e k),(148,Jj.e k),(198,Ck.e k)],mv:=[26] }
def Ld.s (k:Nat):CK 149 (Ld.e k):=mS Ld.d k [] Tryz.func149 ⟨A3.s k,Jj.s k,Ck.s k,trivial⟩ trivial
def Ge.e (k:Nat):Ent:=⟨2,[(.ptr t21 t21),(.vw t49 2),(.hid t49 t48)],[(.agg,(.pr t23 (.pr t18 (.pr t46 (.pr t16 (.pr t35 t2))))))],λ x=>Ge k x.1 x.2.1 x.2.2⟩
def Ge.d:Fd := { nt:=100,nv:=2,nm:=[0,1,2,3,5],res:=[],cs:=λ k=>[(37,A3.e k),(39,Ac.e k),(42,Df.e k),(56,Fe.e k),(147,Gd.e k),(148,Jj.e k),(149,Ld.e k)],mv:=[1,99],rf:=true }
def Ge.s (k:Nat):CK 84 (Ge.e k):=mS Ge.d k [] Tryz.func84 ⟨A3.s k,Ac.s k,Df.s k,Fe.s k,Gd.s k,Jj.s k,Ld.s k,trivial⟩ trivial
def Kx.e (k:Nat):Ent:=⟨2,[(.ptr t21 t21),(.val false (.i .i64))],[(.agg,t52)],λ x=>Kx k x.1 x.2⟩
def Kx.d:Fd := { nt:=15,nv:=2,nm:=[0,1,2,3,5],res:=[],cs:=λ k=>[(55,Ef.e k),(83,Cj.e k),(84,Ge.e k)],mv:=[14],rf:=true }
def Kx.s (k:Nat):CK 35 (Kx.e k):=mS Kx.d k [] Tryz.func35 ⟨Ef.s k,Cj.s k,Ge.s k,trivial⟩ trivial
def Ky.e (k:Nat):Ent:=⟨2,[(.val false t4),(.val false (.i .i64))],[(.one,(.i .i64))],λ x=>Ky x.1 x.2⟩
def Ky.d:Fd := { nt:=15,nv:=2,nm:=[0,1,2,3,5],res:=[4],rf:=true }
def Ky.s (k:Nat):CK 36 (Ky.e k):=mS Ky.d k [] Tryz.func36 trivial trivial
def Ll.e (k:Nat):Ent:=⟨1,[(.val false t4)],[(.agg,t52)],λ x=>Ll k x⟩
def Ll.d:Fd := { nt:=10,nv:=1,nm:=[0,1,3],res:=[],cs:=λ k=>[(34,Jg.e k),(35,Kx.e k),(36,Ky.e k)],rf:=true }
def Ll.s (k:Nat):CK 72 (Ll.e k):=mS Ll.d k [] Tryz.func72 ⟨Jg.s k,Kx.s k,Ky.s k,trivial⟩ trivial
def Gf.e (k:Nat):Ent:=⟨1,[(.val false t4)],[(.agg,t52),(.one,(.i .i64))],λ x=>Gf k x⟩
def Gf.d:Fd := { nt:=12,nv:=1,nm:=[0,1,4],res:=[3],cs:=λ k=>[(34,Jg.e k),(39,Ac.e k),(72,Ll.e k)],rf:=true }
def Gf.s (k:Nat):CK 29 (Gf.e k):=mS Gf.d k [] Tryz.func29 ⟨Jg.s k,Ac.s k,Ll.s k,trivial⟩ trivial
def Fq.e (k:Nat):Ent:=⟨1,[(.val false t6)],[(.one,t7)],λ x=>Fq x⟩
def Fq.d:Fd := { nt:=5,nv:=1,nm:=[0,1],res:=[2],rf:=true }
def Fq.s (k:Nat):CK 154 (Fq.e k):=mS Fq.d k [] Tryz.func154 trivial trivial
def Dk.e (k:Nat):Ent:=⟨1,[(.val true t17)],[(.agg,t18)],λ x=>Dk k x⟩
def F6.p:LF:=⟨⟨[(2,(.bp 2 0 0)),(3,(.bp 3 0 0)),(3999,(.hd 2)),(4999,(.hd 2))],[(10,t10),(11,(.i .i64)),(12,(.i .i64)),(3000,t18),(4000,t18)]⟩,[((.exit 0),⟨[(2,(.bp 2 0 0)),(3,(.bp 3 0 0)),(3999,(.hd 2)),(4999,(.hd 2))],[(3000,t18),(4000,t18)]⟩)],λ k x=>F6 k x.1 x.2.1 x.2.2.1 x.2.2.2.1 x.2.2.2.2⟩
def Dk.d:Fd := { nt:=27,nv:=1,nm:=[0,1,3,4,5],res:=[],cs:=λ k=>[(154,Fq.e k)],ls:=[(3,F6.p)],mv:=[26],rf:=true }
def Dk.a (k:Nat):AC (Dk.d.cs k):=⟨Fq.s k,trivial⟩
def F6.s:LL Tryz.f90 Dk.d 3 F6.p:=mL [] Dk.a trivial
def Dk.s (k:Nat):CK 90 (Dk.e k):=mS Dk.d k [3] Tryz.func90 (Dk.a k) ⟨F6.s,trivial⟩
def An.e (k:Nat):Ent:=⟨1,[(.val false t31)],[(.one,t32)],λ x=>An x⟩
def An.d:Fd := { nt:=5,nv:=1,nm:=[0,1],res:=[2] }
def An.s (k:Nat):CK 111 (An.e k):=mS An.d k [] Tryz.func111 trivial trivial
def Au.e (k:Nat):Ent:=⟨1,[(.val false t4)],[(.one,t5)],λ x=>Au x⟩
def Au.d:Fd := { nt:=5,nv:=1,nm:=[0,1],res:=[2] }
def Au.s (k:Nat):CK 70 (Au.e k):=mS Au.d k [] Tryz.func70 trivial trivial
def Ce.e (k:Nat):Ent:=⟨1,[(.val false t13)],[(.one,t14)],λ x=>Ce k x⟩
def Dy.p:LF:=⟨⟨[],[(3,t14),(6,t13),(7,(.i .i64)),(8,(.i .i64))]⟩,[((.exit 0),⟨[],[(3,t14)]⟩)],λ k x=>Dy k x.1 x.2.1 x.2.2.1 x.2.2.2⟩
def Ce.d:Fd := { nt:=23,nv:=1,nm:=[0,1,3,4,5],res:=[2],cs:=λ k=>[(70,Au.e k)],ls:=[(3,Dy.p)] }
def Ce.a (k:Nat):AC (Ce.d.cs k):=⟨Au.s k,trivial⟩
def Dy.s:LL Tryz.f203 Ce.d 3 Dy.p:=mL [] Ce.a trivial
def Ce.s (k:Nat):CK 203 (Ce.e k):=mS Ce.d k [3] Tryz.func203 (Ce.a k) ⟨Dy.s,trivial⟩
def A6.e (k:Nat):Ent:=⟨1,[(.val true t27)],[(.agg,t29)],λ x=>A6 k x⟩
def A6.d:Fd := { nt:=10,nv:=1,nm:=[0,1],res:=[],cs:=λ k=>[(203,Ce.e k)] }
def A6.s (k:Nat):CK 155 (A6.e k):=mS A6.d k [] Tryz.func155 ⟨Ce.s k,trivial⟩ trivial
def Co.e (k:Nat):Ent:=⟨1,[(.val true t40)],[(.agg,t41)],λ x=>Co k x⟩
def Co.d:Fd := { nt:=15,nv:=1,nm:=[0,1],res:=[],cs:=λ k=>[(111,An.e k),(155,A6.e k)] }
def Co.s (k:Nat):CK 91 (Co.e k):=mS Co.d k [] Tryz.func91 ⟨An.s k,A6.s k,trivial⟩ trivial
def Iz.e (k:Nat):Ent:=⟨1,[(.val true t25)],[(.agg,t26)],λ x=>Iz x⟩
def Iz.d:Fd := { nt:=8,nv:=1,nm:=[0,1],res:=[],cs:=λ k=>[(70,Au.e k)],mv:=[7],rf:=true }
def Iz.s (k:Nat):CK 92 (Iz.e k):=mS Iz.d k [] Tryz.func92 ⟨Au.s k,trivial⟩ trivial
def B6.e (k:Nat):Ent:=⟨1,[(.val true t48)],[(.agg,t51)],λ x=>B6 k x⟩
def Dz.p:LF:=⟨⟨[(2,(.bp 2 0 0)),(3,(.bp 3 0 0)),(3999,(.hd 9)),(4999,(.hd 9))],[(36,t35),(37,(.i .i64)),(38,(.i .i64)),(3000,t51),(4000,t51)]⟩,[((.exit 2),⟨[(2,(.bp 2 0 0)),(3,(.bp 3 0 0)),(3999,(.hd 9)),(4999,(.hd 9))],[(3000,t51),(4000,t51)]⟩)],λ k x=>Dz k x.1 x.2.1 x.2.2.1 x.2.2.2.1 x.2.2.2.2⟩
def E3.p:LF:=⟨⟨[(1,(.bp 1 0 0)),(2,(.bp 2 0 0)),(3,(.bp 3 0 0)),(2999,(.hd 9)),(3999,(.hd 9)),(4999,(.hd 9))],[(21,t45),(22,(.i .i64)),(23,(.i .i64)),(2000,t48),(3000,t51),(4000,t51)]⟩,[((.exit 0),⟨[(1,(.bp 1 0 0)),(2,(.bp 2 0 0)),(3,(.bp 3 0 0)),(2999,(.hd 9)),(3999,(.hd 9)),(4999,(.hd 9))],[(2000,t48),(3000,t51),(4000,t51)]⟩)],λ k x=>E3 k x.1 x.2.1 x.2.2.1 x.2.2.2.1 x.2.2.2.2.1 x.2.2.2.2.2⟩
def B6.d:Fd := { nt:=54,nv:=1,nm:=[0,1,3,4,5,6,7],res:=[],cs:=λ k=>[(90,Dk.e k),(91,Co.e k),(92,Iz.e k)],ls:=[(8,Dz.p),(3,E3.p)],mv:=[53],rf:=true }
def B6.a (k:Nat):AC (B6.d.cs k):=⟨Dk.s k,Co.s k,Iz.s k,trivial⟩
def Dz.s:LL Tryz.f40 B6.d 8 Dz.p:=mL [] B6.a trivial
def E3.s:LL Tryz.f40 B6.d 3 E3.p:=mL [] B6.a trivial
def B6.s (k:Nat):CK 40 (B6.e k):=mS B6.d k [3,8] Tryz.func40 (B6.a k) ⟨E3.s,Dz.s,trivial⟩
def Ic.e (k:Nat):Ent:=⟨2,[(.val false t4),(.val false (.i .i64))],[(.one,(.i .i64)),(.one,(.i .i64)),(.one,.b)],λ x=>Ic k x.1 x.2⟩
def Gu.p:LF:=⟨⟨[],[(0,t4),(1,(.i .i64)),(7,(.i .i64)),(8,(.i .i64))]⟩,[(.ret,⟨[],[(4,(.i .i64)),(5,(.i .i64)),(6,.b)]⟩),((.exit 0),⟨[],[]⟩)],λ k x=>Gu k x.1 x.2.1 x.2.2.1 x.2.2.2⟩
def Ic.d:Fd := { nt:=57,nv:=2,nm:=[0,1,2,3,7,8,9],res:=[4,5,6],ls:=[(3,Gu.p)] }
def Gu.s:LL Tryz.f256 Ic.d 3 Gu.p:=mL [] (λ _=>trivial) trivial
def Ic.s (k:Nat):CK 256 (Ic.e k):=mS Ic.d k [3] Tryz.func256 trivial ⟨Gu.s,trivial⟩
def Da.e (k:Nat):Ent:=⟨1,[(.ptr t20 t20)],[(.one,(.i .i64))],λ x=>Da k x⟩
def Da.d:Fd := { nt:=35,nv:=1,nm:=[0,1,3,4,5],res:=[2],cs:=λ k=>[(256,Ic.e k)] }
def Da.s (k:Nat):CK 219 (Da.e k):=mS Da.d k [] Tryz.func219 ⟨Ic.s k,trivial⟩ trivial
def E4.e (k:Nat):Ent:=⟨1,[(.ptr t20 t20)],[(.agg,t16),(.one,.b)],λ x=>E4 k x⟩
def E4.d:Fd := { nt:=31,nv:=1,nm:=[0,1,4,5],res:=[3],cs:=λ k=>[(219,Da.e k)] }
def E4.s (k:Nat):CK 171 (E4.e k):=mS E4.d k [] Tryz.func171 ⟨Da.s k,trivial⟩ trivial
def Jy.e (k:Nat):Ent:=⟨2,[(.val false t4),(.val false (.i .i64))],[(.one,.s),(.one,(.i .i64)),(.one,.b)],λ x=>Jy k x.1 x.2⟩
def Jy.d:Fd := { nt:=37,nv:=2,nm:=[0,1,2,3,7,8,9],res:=[4,5,6],cs:=λ k=>[(256,Ic.e k)] }
def Jy.s (k:Nat):CK 220 (Jy.e k):=mS Jy.d k [] Tryz.func220 ⟨Ic.s k,trivial⟩ trivial
def Cz.e (k:Nat):Ent:=⟨1,[(.ptr t20 t20)],[(.one,.s)],λ x=>Cz k x⟩
def Cz.d:Fd := { nt:=35,nv:=1,nm:=[0,1,3,4,5],res:=[2],cs:=λ k=>[(220,Jy.e k)] }
def Cz.s (k:Nat):CK 172 (Cz.e k):=mS Cz.d k [] Tryz.func172 ⟨Jy.s k,trivial⟩ trivial
def Fn.e (k:Nat):Ent:=⟨2,[(.val false t5),(.val false (.i .i64))],[(.one,t5)],λ x=>Fn k x.1 x.2⟩
def Hs.p:LF:=⟨⟨[],[(0,t5),(1,(.i .i64))]⟩,[((.exit 0),⟨[],[(0,t5),(1,(.i .i64))]⟩)],λ k x=>Hs k x.1 x.2⟩
def Fn.d:Fd := { nt:=24,nv:=2,nm:=[0,1,2,3],res:=[4],ls:=[(2,Hs.p)] }
def Hs.s:LL Tryz.f257 Fn.d 2 Hs.p:=mL [] (λ _=>trivial) trivial
def Fn.s (k:Nat):CK 257 (Fn.e k):=mS Fn.d k [2] Tryz.func257 trivial ⟨Hs.s,trivial⟩
def Jz.e (k:Nat):Ent:=⟨2,[(.val false t5),(.val false .s)],[(.one,t5)],λ x=>Jz k x.1 x.2⟩
def Jz.d:Fd := { nt:=11,nv:=2,nm:=[0,1,2,3],res:=[4],cs:=λ k=>[(257,Fn.e k)] }
def Jz.s (k:Nat):CK 221 (Jz.e k):=mS Jz.d k [] Tryz.func221 ⟨Fn.s k,trivial⟩ trivial
def O9.e (k:Nat):Ent:=⟨1,[(.val false .b)],[(.one,(.i .i64))],λ x=>O9 x⟩
def O9.d:Fd := { nt:=4,nv:=1,nm:=[0,1],res:=[2] }
def O9.s (k:Nat):CK 258 (O9.e k):=mS O9.d k [] Tryz.func258 trivial trivial
def J0.e (k:Nat):Ent:=⟨3,[(.val false t5),(.val true t16),(.val false .b)],[(.one,t5)],λ x=>J0 k x.1 x.2.1 x.2.2⟩
def J0.d:Fd := { nt:=20,nv:=3,nm:=[0,1,2,3,4,5],res:=[6],cs:=λ k=>[(257,Fn.e k),(258,O9.e k)] }
def J0.s (k:Nat):CK 222 (J0.e k):=mS J0.d k [] Tryz.func222 ⟨Fn.s k,O9.s k,trivial⟩ trivial
def Mq.e (k:Nat):Ent:=⟨1,[(.val false t4)],[(.one,(.i .i64))],λ x=>Mq k x⟩
def Ke.p:LF:=⟨⟨[],[(3,(.i .u32)),(7,t4),(8,(.i .i64)),(9,(.i .i64)),(17,(.i .i64))]⟩,[((.exit 2),⟨[],[(3,(.i .u32)),(7,t4),(8,(.i .i64)),(9,(.i .i64))]⟩)],λ k x=>Ke k x.1 x.2.1 x.2.2.1 x.2.2.2.1 x.2.2.2.2⟩
def Kz.p:LF:=⟨⟨[],[(3,(.i .u32)),(7,t4),(8,(.i .i64)),(9,(.i .i64))]⟩,[((.exit 0),⟨[],[(3,(.i .u32))]⟩)],λ k x=>Kz k x.1 x.2.1 x.2.2.1 x.2.2.2⟩
def Mq.d:Fd := { nt:=32,nv:=1,nm:=[0,1,3,4,5,6],res:=[2],ls:=[(7,Ke.p),(3,Kz.p)] }
def Ke.s:LL Tryz.f223 Mq.d 7 Ke.p:=mL [] (λ _=>trivial) trivial
def Kz.s:LL Tryz.f223 Mq.d 3 Kz.p:=mL [7] (λ _=>trivial) ⟨Ke.s,trivial⟩
def Mq.s (k:Nat):CK 223 (Mq.e k):=mS Mq.d k [3] Tryz.func223 trivial ⟨Kz.s,trivial⟩
def Fi.e (k:Nat):Ent:=⟨1,[(.val true t25)],[(.one,t5)],λ x=>Fi k x⟩
def Fi.d:Fd := { nt:=33,nv:=1,nm:=[0,1,3,4],res:=[2],cs:=λ k=>[(103,Fw.e k),(221,Jz.e k),(222,J0.e k),(223,Mq.e k)] }
def Fi.s (k:Nat):CK 173 (Fi.e k):=mS Fi.d k [] Tryz.func173 ⟨Fw.s k,Jz.s k,J0.s k,Mq.s k,trivial⟩ trivial
def Eg.e (k:Nat):Ent:=⟨1,[(.val false t4)],[(.agg,t25),(.one,.b)],λ x=>Eg k x⟩
def Eg.d:Fd := { nt:=41,nv:=1,nm:=[0,1,4,5,6],res:=[3],cs:=λ k=>[(171,E4.e k),(172,Cz.e k),(173,Fi.e k)] }
def Eg.s (k:Nat):CK 109 (Eg.e k):=mS Eg.d k [] Tryz.func109 ⟨E4.s k,Cz.s k,Fi.s k,trivial⟩ trivial
def Lm.e (k:Nat):Ent:=⟨2,[(.val false t13),(.val false .s)],[(.one,(.i .i64))],λ x=>Lm k x.1 x.2⟩
def Lv.p:LF:=⟨⟨[],[(1,.s),(7,t13),(8,(.i .i64)),(9,(.i .i64))]⟩,[(.ret,⟨[],[(4,(.i .i64))]⟩),((.exit 0),⟨[],[]⟩)],λ k x=>Lv k x.1 x.2.1 x.2.2.1 x.2.2.2⟩
def Lm.d:Fd := { nt:=20,nv:=2,nm:=[0,1,2,3,5,6],res:=[4],ls:=[(2,Lv.p)] }
def Lv.s:LL Tryz.f174 Lm.d 2 Lv.p:=mL [] (λ _=>trivial) trivial
def Lm.s (k:Nat):CK 174 (Lm.e k):=mS Lm.d k [2] Tryz.func174 trivial ⟨Lv.s,trivial⟩
def Fs.e (k:Nat):Ent:=⟨2,[(.val true t27),(.val false .s)],[(.one,t5),(.one,.b)],λ x=>Fs k x.1 x.2⟩
def Fs.d:Fd := { nt:=20,nv:=2,nm:=[0,1,2,3,6],res:=[4,5],cs:=λ k=>[(70,Au.e k),(174,Lm.e k)] }
def Fs.s (k:Nat):CK 117 (Fs.e k):=mS Fs.d k [] Tryz.func117 ⟨Au.s k,Lm.s k,trivial⟩ trivial
def Lh.e (k:Nat):Ent:=⟨2,[(.val true t27),(.val false .s)],[(.agg,t25),(.one,(.i .i64))],λ x=>Lh k x.1 x.2⟩
def Lh.d:Fd := { nt:=28,nv:=2,nm:=[0,1,2,3,6,7,8,9],res:=[5],cs:=λ k=>[(109,Eg.e k),(117,Fs.e k)] }
def Lh.s (k:Nat):CK 60 (Lh.e k):=mS Lh.d k [] Tryz.func60 ⟨Eg.s k,Fs.s k,trivial⟩ trivial
def I5.e (k:Nat):Ent:=⟨2,[(.val false t0),(.val false .s)],[(.one,t0)],λ x=>I5 k x.1 x.2⟩
def F7.p:LF:=⟨⟨[],[(0,t0),(1,.s),(5,(.i .i64))]⟩,[((.exit 0),⟨[],[(0,t0),(1,.s),(5,(.i .i64))]⟩)],λ k x=>F7 k x.1 x.2.1 x.2.2⟩
def I5.d:Fd := { nt:=44,nv:=2,nm:=[0,1,2,3,5],res:=[4],ls:=[(2,F7.p)] }
def F7.s:LL Tryz.f141 I5.d 2 F7.p:=mL [] (λ _=>trivial) trivial
def I5.s (k:Nat):CK 141 (I5.e k):=mS I5.d k [2] Tryz.func141 trivial ⟨F7.s,trivial⟩
def K5.e (k:Nat):Ent:=⟨1,[(.val true t27)],[(.one,t0)],λ x=>K5 k x⟩
def Jc.p:LF:=⟨⟨[(1,(.bp 1 0 0)),(2999,(.hd 2))],[(3,t0),(9,t13),(10,(.i .i64)),(11,(.i .i64)),(2000,t27)]⟩,[((.exit 0),⟨[],[(3,t0)]⟩)],λ k x=>Jc k x.1 x.2.1 x.2.2.1 x.2.2.2.1 x.2.2.2.2⟩
def K5.d:Fd := { nt:=30,nv:=1,nm:=[0,1,3,4,5,6,7],res:=[2],cs:=λ k=>[(60,Lh.e k),(141,I5.e k)],ls:=[(3,Jc.p)],rf:=true }
def K5.a (k:Nat):AC (K5.d.cs k):=⟨Lh.s k,I5.s k,trivial⟩
def Jc.s:LL Tryz.f80 K5.d 3 Jc.p:=mL [] K5.a trivial
def K5.s (k:Nat):CK 80 (K5.e k):=mS K5.d k [3] Tryz.func80 (K5.a k) ⟨Jc.s,trivial⟩
def I6.e (k:Nat):Ent:=⟨0,[],[(.one,t7)],λ _=>I6 k⟩
def F8.p:LF:=⟨⟨[],[(1,t7),(2,(.i .i64))]⟩,[((.exit 0),⟨[],[(1,t7)]⟩)],λ k x=>F8 k x.1 x.2⟩
def I6.d:Fd := { nt:=9,nv:=0,nm:=[1],res:=[0],ls:=[(3,F8.p)],rf:=true }
def F8.s:LL Tryz.f132 I6.d 3 F8.p:=mL [] (λ _=>trivial) trivial
def I6.s (k:Nat):CK 132 (I6.e k):=mS I6.d k [3] Tryz.func132 trivial ⟨F8.s,trivial⟩
def Ht.e (k:Nat):Ent:=⟨2,[(.val false t13),(.val false .s)],[(.one,t13)],λ x=>Ht k x.1 x.2⟩
def Ht.d:Fd := { nt:=21,nv:=2,nm:=[0,1,2,3,5],res:=[4],cs:=λ k=>[(174,Lm.e k)] }
def Ht.s (k:Nat):CK 231 (Ht.e k):=mS Ht.d k [] Tryz.func231 ⟨Lm.s k,trivial⟩ trivial
def J9.e (k:Nat):Ent:=⟨1,[(.val true t27)],[(.agg,t27),(.one,(.i .i64))],λ x=>J9 k x⟩
def I7.p:LF:=⟨⟨[(2,(.bp 2 0 0)),(4,(.bp 4 0 0)),(3999,(.hd 2)),(5999,(.hd 2))],[(5,(.i .i64)),(17,t13),(18,(.i .i64)),(19,(.i .i64)),(3000,t29),(5000,t27)]⟩,[((.exit 0),⟨[(2,(.bp 2 0 0)),(4,(.bp 4 0 0)),(3999,(.hd 2)),(5999,(.hd 2))],[(5,(.i .i64)),(3000,t29),(5000,t27)]⟩)],λ k x=>I7 k x.1 x.2.1 x.2.2.1 x.2.2.2.1 x.2.2.2.2.1 x.2.2.2.2.2⟩
def J9.d:Fd := { nt:=48,nv:=1,nm:=[0,1,4,5,6,7,8,9],res:=[3],cs:=λ k=>[(105,Bw.e k),(109,Eg.e k),(155,A6.e k),(231,Ht.e k)],ls:=[(6,I7.p)],mv:=[15],rf:=true }
def J9.a (k:Nat):AC (J9.d.cs k):=⟨Bw.s k,Eg.s k,A6.s k,Ht.s k,trivial⟩
def I7.s:LL Tryz.f186 J9.d 6 I7.p:=mL [] J9.a trivial
def J9.s (k:Nat):CK 186 (J9.e k):=mS J9.d k [6] Tryz.func186 (J9.a k) ⟨I7.s,trivial⟩
def Hu.e (k:Nat):Ent:=⟨1,[(.val true t40)],[(.agg,t42),(.one,(.i .i64))],λ x=>Hu k x⟩
def Hu.d:Fd := { nt:=19,nv:=1,nm:=[0,1,4,5,6],res:=[3],cs:=λ k=>[(91,Co.e k),(186,J9.e k)],mv:=[17],rf:=true }
def Hu.s (k:Nat):CK 133 (Hu.e k):=mS Hu.d k [] Tryz.func133 ⟨Co.s k,J9.s k,trivial⟩ trivial
def H9.e (k:Nat):Ent:=⟨2,[(.val false t6),(.val false (.i .i64))],[(.one,(.i .i64))],λ x=>H9 x.1 x.2⟩
def H9.d:Fd := { nt:=20,nv:=2,nm:=[0,1,2,3],res:=[4],cs:=λ k=>[(74,Ep.e k)],rf:=true }
def H9.s (k:Nat):CK 66 (H9.e k):=mS H9.d k [] Tryz.func66 ⟨Ep.s k,trivial⟩ trivial
def Fj.e (k:Nat):Ent:=⟨2,[(.val true t48),(.val false t6)],[(.one,t7)],λ x=>Fj k x.1 x.2⟩
def E5.p:LF:=⟨⟨[(2,(.bp 2 0 0)),(3999,(.hd 9))],[(5,t7),(7,(.i .i64)),(10,t6),(11,(.i .i64)),(12,(.i .i64)),(17,t45),(18,(.i .i64)),(19,(.i .i64)),(3000,t48)]⟩,[((.exit 2),⟨[(2,(.bp 2 0 0)),(3999,(.hd 9))],[(5,t7),(10,t6),(11,(.i .i64)),(12,(.i .i64)),(3000,t48)]⟩)],λ k x=>E5 k x.1 x.2.1 x.2.2.1 x.2.2.2.1 x.2.2.2.2.1 x.2.2.2.2.2.1 x.2.2.2.2.2.2.1 x.2.2.2.2.2.2.2.1 x.2.2.2.2.2.2.2.2⟩
def Gg.p:LF:=⟨⟨[(2,(.bp 2 0 0)),(3999,(.hd 9))],[(5,t7),(10,t6),(11,(.i .i64)),(12,(.i .i64)),(3000,t48)]⟩,[((.exit 0),⟨[],[(5,t7)]⟩)],λ k x=>Gg k x.1 x.2.1 x.2.2.1 x.2.2.2.1 x.2.2.2.2⟩
def Fj.d:Fd := { nt:=35,nv:=2,nm:=[0,1,2,3,5,6,7,8,9],res:=[4],ls:=[(6,E5.p),(3,Gg.p)],rf:=true }
def E5.s:LL Tryz.f122 Fj.d 6 E5.p:=mL [] (λ _=>trivial) trivial
def Gg.s:LL Tryz.f122 Fj.d 3 Gg.p:=mL [6] (λ _=>trivial) ⟨E5.s,trivial⟩
def Fj.s (k:Nat):CK 122 (Fj.e k):=mS Fj.d k [3] Tryz.func122 trivial ⟨Gg.s,trivial⟩
def Mc.e (k:Nat):Ent:=⟨1,[(.val false .s)],[(.one,(.i .i64))],λ x=>Mc k x⟩
def K6.p:LF:=⟨⟨[],[(0,.s),(3,(.i .u32)),(4,(.i .i64))]⟩,[((.exit 0),⟨[],[(3,(.i .u32))]⟩)],λ k x=>K6 k x.1 x.2.1 x.2.2⟩
def Mc.d:Fd := { nt:=20,nv:=1,nm:=[0,1,3,4],res:=[2],ls:=[(3,K6.p)],rf:=true }
def K6.s:LL Tryz.f227 Mc.d 3 K6.p:=mL [] (λ _=>trivial) trivial
def Mc.s (k:Nat):CK 227 (Mc.e k):=mS Mc.d k [3] Tryz.func227 trivial ⟨K6.s,trivial⟩
def Ln.e (k:Nat):Ent:=⟨2,[(.val false .s),(.val false (.i .i64))],[(.one,(.i .i64))],λ x=>Ln k x.1 x.2⟩
def Ln.d:Fd := { nt:=11,nv:=2,nm:=[0,1,2,3],res:=[4],cs:=λ k=>[(227,Mc.e k)],rf:=true }
def Ln.s (k:Nat):CK 180 (Ln.e k):=mS Ln.d k [] Tryz.func180 ⟨Mc.s k,trivial⟩ trivial
def E9.e (k:Nat):Ent:=⟨2,[(.val true t17),(.val false .s)],[(.one,t7)],λ x=>E9 k x.1 x.2⟩
def E9.d:Fd := { nt:=20,nv:=2,nm:=[0,1,2,3],res:=[4],cs:=λ k=>[(154,Fq.e k),(180,Ln.e k)],rf:=true }
def E9.s (k:Nat):CK 123 (E9.e k):=mS E9.d k [] Tryz.func123 ⟨Fq.s k,Ln.s k,trivial⟩ trivial
def Lw.e (k:Nat):Ent:=⟨2,[(.val true t25),(.val true t25)],[(.one,.b)],λ x=>Lw x.1 x.2⟩
def Lw.d:Fd := { nt:=10,nv:=2,nm:=[0,1,2,3],res:=[4],cs:=λ k=>[(14,Cb.e k)] }
def Lw.s (k:Nat):CK 61 (Lw.e k):=mS Lw.d k [] Tryz.func61 ⟨Cb.s k,trivial⟩ trivial
def M6.e (k:Nat):Ent:=⟨2,[(.val false t13),(.val true t11)],[(.one,t14)],λ x=>M6 k x.1 x.2⟩
def L5.p:LF:=⟨⟨[(3,(.bp 3 0 0)),(4999,(.hd 2))],[(0,t13),(5,(.i .i64)),(4000,.s),(4001,t4)]⟩,[((.exit 0),⟨[(3,(.bp 3 0 0)),(4999,(.hd 2))],[(0,t13),(5,(.i .i64)),(4000,.s),(4001,t4)]⟩)],λ k x=>L5 k x.1 x.2.1 x.2.2.1 x.2.2.2⟩
def M6.d:Fd := { nt:=33,nv:=2,nm:=[0,1,2,3,5],res:=[4],ls:=[(2,L5.p)] }
def L5.s:LL Tryz.f232 M6.d 2 L5.p:=mL [] (λ _=>trivial) trivial
def M6.s (k:Nat):CK 232 (M6.e k):=mS M6.d k [2] Tryz.func232 trivial ⟨L5.s,trivial⟩
def Ca.e (k:Nat):Ent:=⟨2,[(.val true t27),(.val false .s)],[(.agg,(.pr t14 t13)),(.one,.b)],λ x=>Ca k x.1 x.2⟩
def Ca.d:Fd := { nt:=50,nv:=2,nm:=[0,1,2,3,6,7],res:=[5],cs:=λ k=>[(48,Ar.e k),(70,Au.e k),(105,Bw.e k),(155,A6.e k),(174,Lm.e k),(231,Ht.e k),(232,M6.e k)],mv:=[18,49] }
def Ca.s (k:Nat):CK 188 (Ca.e k):=mS Ca.d k [] Tryz.func188 ⟨Ar.s k,Au.s k,Bw.s k,A6.s k,Lm.s k,Ht.s k,M6.s k,trivial⟩ trivial
def Ea.e (k:Nat):Ent:=⟨3,[(.val true t27),(.val false .s),(.val false t4)],[(.agg,t29),(.one,.b)],λ x=>Ea k x.1 x.2.1 x.2.2⟩
def Ea.d:Fd := { nt:=42,nv:=3,nm:=[0,1,2,3,4,5,8],res:=[7],cs:=λ k=>[(48,Ar.e k),(70,Au.e k),(105,Bw.e k),(155,A6.e k),(231,Ht.e k),(232,M6.e k)],mv:=[24,41] }
def Ea.s (k:Nat):CK 229 (Ea.e k):=mS Ea.d k [] Tryz.func229 ⟨Ar.s k,Au.s k,Bw.s k,A6.s k,Ht.s k,M6.s k,trivial⟩ trivial
def Mh.e (k:Nat):Ent:=⟨4,[(.val true t27),(.val false .s),(.val true t25),(.val false .b)],[(.agg,t27),(.one,(.i .i64))],λ x=>Mh k x.1 x.2.1 x.2.2.1 x.2.2.2⟩
def Mh.d:Fd := { nt:=82,nv:=4,nm:=[0,1,2,3,4,5,6,7,10,11,12,13,14,15,16,17,18,19],res:=[9],cs:=λ k=>[(48,Ar.e k),(61,Lw.e k),(103,Fw.e k),(105,Bw.e k),(109,Eg.e k),(117,Fs.e k),(155,A6.e k),(173,Fi.e k),(188,Ca.e k),(229,Ea.e k)],mv:=[80] }
def Mh.s (k:Nat):CK 183 (Mh.e k):=mS Mh.d k [] Tryz.func183 ⟨Ar.s k,Lw.s k,Fw.s k,Bw.s k,Eg.s k,Fs.s k,A6.s k,Fi.s k,Ca.s k,Ea.s k,trivial⟩ trivial
def F9.e (k:Nat):Ent:=⟨2,[(.val true t27),(.val false .s)],[(.agg,(.pr t13 t14)),(.one,.b)],λ x=>F9 k x.1 x.2⟩
def F9.d:Fd := { nt:=26,nv:=2,nm:=[0,1,2,3,6],res:=[5],cs:=λ k=>[(105,Bw.e k),(155,A6.e k),(174,Lm.e k),(231,Ht.e k)],mv:=[19,25] }
def F9.s (k:Nat):CK 187 (F9.e k):=mS F9.d k [] Tryz.func187 ⟨Bw.s k,A6.s k,Lm.s k,Ht.s k,trivial⟩ trivial
def Ai.e (k:Nat):Ent:=⟨4,[(.ptr t49 t49),(.val false (.i .i64)),(.val false .s),(.val false t6)],[(.one,.b)],λ x=>Ai k x.1 x.2.1 x.2.2.1 x.2.2.2⟩
def Ae.p:LF:=⟨⟨[(0,(.bp 0 0 0)),(9,(.bp 9 0 0)),(1999,(.hd 9)),(10999,(.hd 5))],[(1,(.i .i64)),(2,.s),(3,t6),(11,.b),(12,.b),(43,t7),(44,(.i .i64)),(45,(.i .i64)),(1000,t49),(10000,t25)]⟩,[((.exit 0),⟨[(0,(.bp 0 0 0)),(1999,(.hd 9))],[(1,(.i .i64)),(2,.s),(11,.b),(12,.b),(1000,t49)]⟩)],λ k x=>Ae k x.1 x.2.1 x.2.2.1 x.2.2.2.1 x.2.2.2.2.1 x.2.2.2.2.2.1 x.2.2.2.2.2.2.1 x.2.2.2.2.2.2.2.1 x.2.2.2.2.2.2.2.2.1 x.2.2.2.2.2.2.2.2.2⟩
def Ai.d:Fd := { nt:=120,nv:=4,nm:=[0,1,2,3,4,5,6,7,9,10,11,12,13,14,15,16,17,18],res:=[8],cs:=λ k=>[(60,Lh.e k),(66,H9.e k),(122,Fj.e k),(123,E9.e k),(183,Mh.e k),(187,F9.e k),(188,Ca.e k)],ls:=[(6,Ae.p)],rf:=true }
def Ai.a (k:Nat):AC (Ai.d.cs k):=⟨Lh.s k,H9.s k,Fj.s k,E9.s k,Mh.s k,F9.s k,Ca.s k,trivial⟩
def Ae.s:LL Tryz.f134 Ai.d 6 Ae.p:=mL [] Ai.a trivial
def Ai.s (k:Nat):CK 134 (Ai.e k):=mS Ai.d k [6] Tryz.func134 (Ai.a k) ⟨Ae.s,trivial⟩
def Ha.e (k:Nat):Ent:=⟨1,[(.val true t48)],[(.one,t7)],λ x=>Ha k x⟩
def Ha.d:Fd := { nt:=8,nv:=1,nm:=[0,1],res:=[2],cs:=λ k=>[(122,Fj.e k),(123,E9.e k)],rf:=true }
def Ha.s (k:Nat):CK 65 (Ha.e k):=mS Ha.d k [] Tryz.func65 ⟨Fj.s k,E9.s k,trivial⟩ trivial
def J1.e (k:Nat):Ent:=⟨2,[(.val true t28),(.val true t28)],[(.one,.b)],λ x=>J1 x.1 x.2⟩
def J1.d:Fd := { nt:=29,nv:=2,nm:=[0,1,2,3],res:=[4],cs:=λ k=>[(14,Cb.e k)] }
def J1.s (k:Nat):CK 181 (J1.e k):=mS J1.d k [] Tryz.func181 ⟨Cb.s k,trivial⟩ trivial
def Cp.e (k:Nat):Ent:=⟨2,[(.val false t31),(.val true t28)],[(.one,t32)],λ x=>Cp k x.1 x.2⟩
def E6.p:LF:=⟨⟨[(3,(.bp 3 0 0)),(4999,(.hd 6))],[(0,t31),(8,(.i .i64)),(4000,.s),(4001,(.i .i64)),(4002,(.i .i64)),(4003,(.i .i64)),(4004,.b),(4005,(.i .i64))]⟩,[((.exit 2),⟨[(3,(.bp 3 0 0)),(4999,(.hd 6))],[(0,t31),(8,(.i .i64)),(4000,.s),(4001,(.i .i64)),(4002,(.i .i64)),(4003,(.i .i64)),(4004,.b),(4005,(.i .i64))]⟩)],λ k x=>E6 k x.1 x.2.1 x.2.2.1 x.2.2.2.1 x.2.2.2.2.1 x.2.2.2.2.2.1 x.2.2.2.2.2.2.1 x.2.2.2.2.2.2.2⟩
def Fa.p:LF:=⟨⟨[(3,(.bp 3 0 0)),(4999,(.hd 6))],[(0,t31),(5,t32),(11,t31),(12,(.i .i64)),(13,(.i .i64)),(4000,.s),(4001,(.i .i64)),(4002,(.i .i64)),(4003,(.i .i64)),(4004,.b),(4005,(.i .i64))]⟩,[(.ret,⟨[],[(4,t32)]⟩),((.exit 0),⟨[(3,(.bp 3 0 0)),(4999,(.hd 6))],[(0,t31),(4000,.s),(4001,(.i .i64)),(4002,(.i .i64)),(4003,(.i .i64)),(4004,.b),(4005,(.i .i64))]⟩)],λ k x=>Fa k x.1 x.2.1 x.2.2.1 x.2.2.2.1 x.2.2.2.2.1 x.2.2.2.2.2.1 x.2.2.2.2.2.2.1 x.2.2.2.2.2.2.2.1 x.2.2.2.2.2.2.2.2.1 x.2.2.2.2.2.2.2.2.2.1 x.2.2.2.2.2.2.2.2.2.2⟩
def Cp.d:Fd := { nt:=60,nv:=2,nm:=[0,1,2,3,5,6,7,8],res:=[4],cs:=λ k=>[(111,An.e k),(181,J1.e k)],ls:=[(11,E6.p),(3,Fa.p)] }
def Cp.a (k:Nat):AC (Cp.d.cs k):=⟨An.s k,J1.s k,trivial⟩
def E6.s:LL Tryz.f124 Cp.d 11 E6.p:=mL [] Cp.a trivial
def Fa.s:LL Tryz.f124 Cp.d 3 Fa.p:=mL [] Cp.a trivial
def Cp.s (k:Nat):CK 124 (Cp.e k):=mS Cp.d k [3,11] Tryz.func124 (Cp.a k) ⟨Fa.s,E6.s,trivial⟩
def Cv.e (k:Nat):Ent:=⟨2,[(.val false t31),(.val false t31)],[(.one,t32)],λ x=>Cv k x.1 x.2⟩
def E7.p:LF:=⟨⟨[],[(5,t32),(10,t31),(11,(.i .i64)),(12,(.i .i64))]⟩,[((.exit 0),⟨[],[(5,t32)]⟩)],λ k x=>E7 k x.1 x.2.1 x.2.2.1 x.2.2.2⟩
def Cv.d:Fd := { nt:=21,nv:=2,nm:=[0,1,2,3,5,6,7],res:=[4],cs:=λ k=>[(111,An.e k),(124,Cp.e k)],ls:=[(3,E7.p)] }
def Cv.a (k:Nat):AC (Cv.d.cs k):=⟨An.s k,Cp.s k,trivial⟩
def E7.s:LL Tryz.f67 Cv.d 3 E7.p:=mL [] Cv.a trivial
def Cv.s (k:Nat):CK 67 (Cv.e k):=mS Cv.d k [3] Tryz.func67 (Cv.a k) ⟨E7.s,trivial⟩
def J2.e (k:Nat):Ent:=⟨2,[(.val true t40),(.val false t31)],[(.agg,t41),(.one,.b)],λ x=>J2 k x.1 x.2⟩
def J2.d:Fd := { nt:=30,nv:=2,nm:=[0,1,2,3,6],res:=[5],cs:=λ k=>[(47,Ej.e k),(67,Cv.e k),(91,Co.e k),(106,Ei.e k)],mv:=[17,29] }
def J2.s (k:Nat):CK 233 (J2.e k):=mS J2.d k [] Tryz.func233 ⟨Ej.s k,Cv.s k,Co.s k,Ei.s k,trivial⟩ trivial
def As.e (k:Nat):Ent:=⟨4,[(.ptr t49 t49),(.val false t31),(.val false t6),(.val false (.i .i64))],[(.one,.b)],λ x=>As k x.1 x.2.1 x.2.2.1 x.2.2.2⟩
def B0.p:LF:=⟨⟨[(0,(.bp 0 0 0)),(1999,(.hd 9))],[(1,t31),(2,t6),(3,(.i .i64)),(9,.b),(17,t7),(18,(.i .i64)),(19,(.i .i64)),(1000,t49)]⟩,[((.exit 0),⟨[(1999,(.hd 9))],[(9,.b),(1000,t49)]⟩)],λ k x=>B0 k x.1 x.2.1 x.2.2.1 x.2.2.2.1 x.2.2.2.2.1 x.2.2.2.2.2.1 x.2.2.2.2.2.2.1 x.2.2.2.2.2.2.2⟩
def As.d:Fd := { nt:=56,nv:=4,nm:=[0,1,2,3,4,5,6,7,9,10,11,12,13],res:=[8],cs:=λ k=>[(65,Ha.e k),(66,H9.e k),(233,J2.e k)],ls:=[(3,B0.p)],rf:=true }
def As.a (k:Nat):AC (As.d.cs k):=⟨Ha.s k,H9.s k,J2.s k,trivial⟩
def B0.s:LL Tryz.f189 As.d 3 B0.p:=mL [] As.a trivial
def As.s (k:Nat):CK 189 (As.e k):=mS As.d k [3] Tryz.func189 (As.a k) ⟨B0.s,trivial⟩
def C7.e (k:Nat):Ent:=⟨3,[(.ptr t49 t49),(.val false (.i .i64)),(.val false t6)],[(.one,.b)],λ x=>C7 k x.1 x.2.1 x.2.2⟩
def C7.d:Fd := { nt:=47,nv:=3,nm:=[0,1,2,3,4,5],res:=[6],cs:=λ k=>[(111,An.e k),(189,As.e k)],rf:=true }
def C7.s (k:Nat):CK 135 (C7.e k):=mS C7.d k [] Tryz.func135 ⟨An.s k,As.s k,trivial⟩ trivial
def C0.e (k:Nat):Ent:=⟨3,[(.ptr t49 t49),(.val false (.i .i64)),(.val false t6)],[(.one,.b)],λ x=>C0 k x.1 x.2.1 x.2.2⟩
def C0.d:Fd := { nt:=43,nv:=3,nm:=[0,1,2,3,4,5,7,8],res:=[6],cs:=λ k=>[(65,Ha.e k),(111,An.e k),(145,I9.e k),(189,As.e k)],rf:=true }
def C0.s (k:Nat):CK 136 (C0.e k):=mS C0.d k [] Tryz.func136 ⟨Ha.s k,An.s k,I9.s k,As.s k,trivial⟩ trivial
def Ad.e (k:Nat):Ent:=⟨1,[(.ptr t49 t49)],[],λ x=>Ad k x⟩
def Bi.p:LF:=⟨⟨[(0,(.bp 0 0 0)),(1999,(.hd 9))],[(2,t6),(3,(.i .i64)),(11,(.i .i64)),(12,(.i .i64)),(60,(.i .i64)),(61,(.i .i64)),(1000,t49)]⟩,[((.exit 4),⟨[(0,(.bp 0 0 0)),(1999,(.hd 9))],[(2,t6),(3,(.i .i64)),(11,(.i .i64)),(12,(.i .i64)),(1000,t49)]⟩)],λ k x=>Bi k x.1 x.2.1 x.2.2.1 x.2.2.2.1 x.2.2.2.2.1 x.2.2.2.2.2.1 x.2.2.2.2.2.2⟩
def Bb.p:LF:=⟨⟨[(0,(.bp 0 0 0)),(1999,(.hd 9))],[(2,t6),(3,(.i .i64)),(11,(.i .i64)),(12,(.i .i64)),(40,t0),(41,(.i .i64)),(42,(.i .i64)),(1000,t49)]⟩,[((.exit 2),⟨[(0,(.bp 0 0 0)),(1999,(.hd 9))],[(2,t6),(3,(.i .i64)),(11,(.i .i64)),(12,(.i .i64)),(1000,t49)]⟩)],λ k x=>Bb k x.1 x.2.1 x.2.2.1 x.2.2.2.1 x.2.2.2.2.1 x.2.2.2.2.2.1 x.2.2.2.2.2.2.1 x.2.2.2.2.2.2.2⟩
def C1.p:LF:=⟨⟨[(0,(.bp 0 0 0)),(1999,(.hd 9))],[(2,t6),(11,(.i .i64)),(12,(.i .i64)),(1000,t49)]⟩,[((.exit 0),⟨[(1999,(.hd 9))],[(1000,t49)]⟩)],λ k x=>C1 k x.1 x.2.1 x.2.2.1 x.2.2.2⟩
def Ad.d:Fd := { nt:=73,nv:=1,nm:=[0,1,2,3,4,5],res:=[],cs:=λ k=>[(80,K5.e k),(132,I6.e k),(133,Hu.e k),(134,Ai.e k),(135,C7.e k),(136,C0.e k)],ls:=[(11,Bi.p),(6,Bb.p),(2,C1.p)],rf:=true }
def Ad.a (k:Nat):AC (Ad.d.cs k):=⟨K5.s k,I6.s k,Hu.s k,Ai.s k,C7.s k,C0.s k,trivial⟩
def Bi.s:LL Tryz.f73 Ad.d 11 Bi.p:=mL [] Ad.a trivial
def Bb.s:LL Tryz.f73 Ad.d 6 Bb.p:=mL [] Ad.a trivial
def C1.s:LL Tryz.f73 Ad.d 2 C1.p:=mL [6,11] Ad.a ⟨Bb.s,Bi.s,trivial⟩
def Ad.s (k:Nat):CK 73 (Ad.e k):=mS Ad.d k [2] Tryz.func73 (Ad.a k) ⟨C1.s,trivial⟩
def Le.e (k:Nat):Ent:=⟨1,[(.val true t48)],[(.agg,t49)],λ x=>Le k x⟩
def Le.d:Fd := { nt:=10,nv:=1,nm:=[0,1,3],res:=[],cs:=λ k=>[(13,Bl.e k),(40,B6.e k),(73,Ad.e k)],mv:=[9],rf:=true }
def Le.s (k:Nat):CK 30 (Le.e k):=mS Le.d k [] Tryz.func30 ⟨Bl.s k,B6.s k,Ad.s k,trivial⟩ trivial
def H3.e (k:Nat):Ent:=⟨2,[(.val true t48),(.val false (.i .i64))],[(.agg,t49)],λ x=>H3 k x.1 x.2⟩
def Hv.p:LF:=⟨⟨[(4,(.bp 4 0 0)),(5,(.bp 5 0 0)),(5999,(.hd 9)),(6999,(.hd 9))],[(14,(.i .i64)),(15,(.i .i64)),(5000,t51),(6000,t49)]⟩,[((.exit 0),⟨[(4,(.bp 4 0 0)),(5,(.bp 5 0 0)),(5999,(.hd 9)),(6999,(.hd 9))],[(5000,t51),(6000,t49)]⟩)],λ k x=>Hv k x.1 x.2.1 x.2.2.1 x.2.2.2⟩
def H3.d:Fd := { nt:=20,nv:=2,nm:=[0,1,2,3,5],res:=[],cs:=λ k=>[(13,Bl.e k),(40,B6.e k),(73,Ad.e k),(74,Ep.e k)],ls:=[(4,Hv.p)],mv:=[19],rf:=true }
def H3.a (k:Nat):AC (H3.d.cs k):=⟨Bl.s k,B6.s k,Ad.s k,Ep.s k,trivial⟩
def Hv.s:LL Tryz.f31 H3.d 4 Hv.p:=mL [] H3.a trivial
def H3.s (k:Nat):CK 31 (H3.e k):=mS H3.d k [4] Tryz.func31 (H3.a k) ⟨Hv.s,trivial⟩
def Fo.e (k:Nat):Ent:=⟨2,[(.val true t17),(.val false t22)],[(.one,.b)],λ x=>Fo k x.1 x.2⟩
def Hw.p:LF:=⟨⟨[(2,(.bp 2 0 0)),(3999,(.hd 2))],[(1,t22),(5,(.i .i64)),(6,(.i .i64)),(3000,t17)]⟩,[(.ret,⟨[],[(4,.b)]⟩),((.exit 2),⟨[(2,(.bp 2 0 0)),(3999,(.hd 2))],[(1,t22),(5,(.i .i64)),(3000,t17)]⟩)],λ k x=>Hw k x.1 x.2.1 x.2.2.1 x.2.2.2⟩
def Hx.p:LF:=⟨⟨[(2,(.bp 2 0 0)),(3999,(.hd 2))],[(1,t22),(5,(.i .i64)),(3000,t17)]⟩,[(.ret,⟨[],[(4,.b)]⟩),((.exit 0),⟨[],[]⟩)],λ k x=>Hx k x.1 x.2.1 x.2.2⟩
def Fo.d:Fd := { nt:=68,nv:=2,nm:=[0,1,2,3,5,6,7,8],res:=[4],cs:=λ k=>[(97,A9.e k),(137,C5.e k),(138,Em.e k),(139,Eh.e k)],ls:=[(9,Hw.p),(4,Hx.p)],rf:=true }
def Fo.a (k:Nat):AC (Fo.d.cs k):=⟨A9.s k,C5.s k,Em.s k,Eh.s k,trivial⟩
def Hw.s:LL Tryz.f75 Fo.d 9 Hw.p:=mL [] Fo.a trivial
def Hx.s:LL Tryz.f75 Fo.d 4 Hx.p:=mL [9] Fo.a ⟨Hw.s,trivial⟩
def Fo.s (k:Nat):CK 75 (Fo.e k):=mS Fo.d k [4] Tryz.func75 (Fo.a k) ⟨Hx.s,trivial⟩
def Dl.e (k:Nat):Ent:=⟨1,[(.val true t48)],[(.one,.b)],λ x=>Dl k x⟩
def Fb.p:LF:=⟨⟨[(1,(.bp 1 0 0)),(2999,(.hd 9))],[(3,(.i .i64)),(2000,t48)]⟩,[(.ret,⟨[],[(2,.b)]⟩),((.exit 0),⟨[],[]⟩)],λ k x=>Fb k x.1 x.2⟩
def Dl.d:Fd := { nt:=40,nv:=1,nm:=[0,1,3],res:=[2],cs:=λ k=>[(140,C4.e k)],ls:=[(4,Fb.p)],rf:=true }
def Dl.a (k:Nat):AC (Dl.d.cs k):=⟨C4.s k,trivial⟩
def Fb.s:LL Tryz.f76 Dl.d 4 Fb.p:=mL [] Dl.a trivial
def Dl.s (k:Nat):CK 76 (Dl.e k):=mS Dl.d k [4] Tryz.func76 (Dl.a k) ⟨Fb.s,trivial⟩
def Dg.e (k:Nat):Ent:=⟨1,[(.val true t48)],[(.one,.b)],λ x=>Dg k x⟩
def D0.p:LF:=⟨⟨[(1,(.bp 1 0 0)),(2999,(.hd 9))],[(5,(.i .i64)),(2000,t48)]⟩,[(.ret,⟨[],[(2,.b)]⟩),((.exit 2),⟨[],[]⟩)],λ k x=>D0 k x.1 x.2⟩
def Gi.p:LF:=⟨⟨[(1,(.bp 1 0 0)),(2999,(.hd 9))],[(3,(.i .i64)),(2000,t48)]⟩,[(.ret,⟨[],[(2,.b)]⟩),((.exit 0),⟨[(1,(.bp 1 0 0)),(2999,(.hd 9))],[(2000,t48)]⟩)],λ k x=>Gi k x.1 x.2⟩
def Dg.d:Fd := { nt:=91,nv:=1,nm:=[0,1,3,4,5],res:=[2],cs:=λ k=>[(62,Ao.e k),(75,Fo.e k),(76,Dl.e k),(77,Cc.e k),(78,C3.e k),(79,Cd.e k)],ls:=[(10,D0.p),(4,Gi.p)],rf:=true }
def Dg.a (k:Nat):AC (Dg.d.cs k):=⟨Ao.s k,Fo.s k,Dl.s k,Cc.s k,C3.s k,Cd.s k,trivial⟩
def D0.s:LL Tryz.f32 Dg.d 10 D0.p:=mL [] Dg.a trivial
def Gi.s:LL Tryz.f32 Dg.d 4 Gi.p:=mL [] Dg.a trivial
def Dg.s (k:Nat):CK 32 (Dg.e k):=mS Dg.d k [4,10] Tryz.func32 (Dg.a k) ⟨Gi.s,D0.s,trivial⟩
def Eo.e (k:Nat):Ent:=⟨1,[(.val false t4)],[(.one,.b)],λ x=>Eo k x⟩
def Dn.p:LF:=⟨⟨[(5,(.bp 5 0 0)),(6,(.bp 6 0 0)),(6999,(.hd 9)),(7999,(.hd 9))],[(7,(.i .i64)),(6000,t48),(7000,t48)]⟩,[(.ret,⟨[],[(2,.b)]⟩),((.exit 0),⟨[],[]⟩)],λ k x=>Dn k x.1 x.2.1 x.2.2⟩
def Eo.d:Fd := { nt:=82,nv:=1,nm:=[0,1,3,4,5,6,7],res:=[2],cs:=λ k=>[(9,O8.e k),(13,Bl.e k),(18,Cs.e k),(19,I1.e k),(29,Gf.e k),(30,Le.e k),(31,H3.e k),(32,Dg.e k)],ls:=[(9,Dn.p)],sh:=true,rf:=true }
def Eo.a (k:Nat):AC (Eo.d.cs k):=⟨O8.s k,Bl.s k,Cs.s k,I1.s k,Gf.s k,Le.s k,H3.s k,Dg.s k,trivial⟩
def Dn.s:LL Tryz.f7 Eo.d 9 Dn.p:=mL [] Eo.a trivial
def Eo.s (k:Nat):CK 7 (Eo.e k):=mS Eo.d k [9] Tryz.func7 (Eo.a k) ⟨Dn.s,trivial⟩
end

end Go.Proofs.YtmhhjceoinoekaaGreat.Vf
