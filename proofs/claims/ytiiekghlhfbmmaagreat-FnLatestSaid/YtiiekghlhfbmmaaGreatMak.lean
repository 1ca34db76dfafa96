import Derived.Test.YtiiekghlhfbmmaaGreatMab
import Derived.Test.YtiiekghlhfbmmaaGreatMaj
import Derived.Test.YtiiekghlhfbmmaaGreatProg
import Derived.KernelRfl
set_option linter.all false
namespace Go.Proofs.YtiiekghlhfbmmaaGreat.Vf
open Go
open List (length getD)
open Int (toNat)
open Go.IntKind (wrap)
open BitVec (ofInt)

section
open Go.Proofs
@[reducible] def t0:Ty := .sl 9 .s
@[reducible] def t1:Ty := .sl 4 .b
@[reducible] def t2:Ty := .ow 9 .s
@[reducible] def t3:Ty := .ow 4 .b
@[reducible] def t4:Ty := .sl 5 (.i .u8)
@[reducible] def t5:Ty := .ow 5 (.i .u8)
@[reducible] def t6:Ty := .sl 3 (.i .i64)
@[reducible] def t7:Ty := .ow 3 (.i .i64)
@[reducible] def t8:Ty := .pr .s (.i .u64)
@[reducible] def t9:Ty := .pr (.i .i64) (.i .i64)
@[reducible] def t10:Ty := .sl 87 t6
@[reducible] def t11:Ty := .pr .s t4
@[reducible] def t12:Ty := .pr .s t5
@[reducible] def t13:Ty := .sl 130 t11
@[reducible] def t14:Ty := .ow 130 t11
@[reducible] def t15:Ty := .ow 130 t12
@[reducible] def t16:Ty := .pr (.i .i64) t9
@[reducible] def t17:Ty := .pr (.i .i64) t10
@[reducible] def t18:Ty := .pr (.i .i64) (.ow 87 t7)
@[reducible] def t19:Ty := .pr (.i .i64) (.ow 87 t6)
@[reducible] def t20:Ty := .pr t4 (.pr (.i .i64) .b)
@[reducible] def t21:Ty := .pr t4 t9
@[reducible] def t22:Ty := .sl 110 t16
@[reducible] def t23:Ty := .ow 110 t16
@[reducible] def t24:Ty := .pr (.i .i64) (.pr (.i .i64) (.pr .b (.i .u8)))
@[reducible] def t25:Ty := .pr t16 (.pr .b t4)
@[reducible] def t26:Ty := .pr t16 (.pr .b t5)
@[reducible] def t27:Ty := .pr .s (.pr t16 (.pr .b (.i .i64)))
@[reducible] def t28:Ty := .pr t13 t13
@[reducible] def t29:Ty := .pr t14 t14
@[reducible] def t30:Ty := .pr t15 t15
@[reducible] def t31:Ty := .sl 50 t27
@[reducible] def t32:Ty := .ow 50 t27
@[reducible] def t33:Ty := .pr .s (.pr t25 .b)
@[reducible] def t34:Ty := .pr (.i .i64) (.pr (.i .i64) (.pr .s (.pr t4 (.pr (.i .i64) t6))))
@[reducible] def t35:Ty := .sl 42 t33
@[reducible] def t36:Ty := .ow 42 t33
@[reducible] def t37:Ty := .pr t16 (.pr t35 t0)
@[reducible] def t38:Ty := .pr t32 t32
@[reducible] def t39:Ty := .pr t31 t32
@[reducible] def t40:Ty := .pr (.i .i64) (.pr t28 (.pr t31 t31))
@[reducible] def t41:Ty := .pr (.i .i64) (.pr t29 t38)
@[reducible] def t42:Ty := .pr (.i .i64) (.pr t28 t38)
@[reducible] def t43:Ty := .pr (.i .i64) (.pr t29 t39)
@[reducible] def t44:Ty := .pr (.i .i64) (.pr t28 t39)
@[reducible] def t45:Ty := .sl 48 t40
@[reducible] def t46:Ty := .ow 48 t40
@[reducible] def t47:Ty := .pr t46 (.pr t16 (.pr t36 t2))
@[reducible] def t48:Ty := .pr t22 (.pr t17 (.pr t45 t37))
@[reducible] def t49:Ty := .pr t23 (.pr t17 t47)
@[reducible] def t50:Ty := .pr t23 (.pr t19 t47)
@[reducible] def t51:Ty := .pr t23 (.pr t17 (.pr t46 (.pr t16 (.pr t36 t0))))
@[reducible] def t52:Ty := .pr t23 (.pr t17 (.pr t46 t37))
def tiL:List (Nat×TI):=[(2,⟨(.i .i64),false,8,[]⟩),
 (3,⟨(.i .i64),false,8,[]⟩),
 (4,⟨.b,false,1,[]⟩),
 (5,⟨(.i .u8),false,1,[]⟩),
 (6,⟨(.i .u8),false,1,[]⟩),
 (7,⟨t24,true,24,[(0,1,false),(1,1,false),(2,1,false),(3,1,false)]⟩),
 (8,⟨t24,true,24,[(0,1,false),(1,1,false),(2,1,false),(3,1,false)]⟩),
 (9,⟨.s,false,16,[]⟩),
 (10,⟨.s,false,16,[]⟩),
 (11,⟨.s,false,16,[]⟩),
 (12,⟨(.i .u64),false,8,[]⟩),
 (13,⟨t8,true,24,[(0,1,false),(1,1,false)]⟩),
 (14,⟨t8,true,24,[(0,1,false),(1,1,false)]⟩),
 (21,⟨(.i .i32),false,4,[]⟩),
 (22,⟨t4,false,24,[]⟩),
 (24,⟨t22,false,24,[]⟩),
 (25,⟨t10,false,24,[]⟩),
 (26,⟨t17,true,32,[(0,1,false),(1,1,false)]⟩),
 (27,⟨t17,true,32,[(0,1,false),(1,1,false)]⟩),
 (28,⟨t45,false,24,[]⟩),
 (29,⟨t16,true,24,[(0,1,false),(1,1,false),(2,1,false)]⟩),
 (30,⟨t16,true,24,[(0,1,false),(1,1,false),(2,1,false)]⟩),
 (31,⟨t35,false,24,[]⟩),
 (32,⟨t0,false,24,[]⟩),
 (33,⟨t48,true,152,[(0,1,false),(1,2,true),(3,1,false),(4,3,true),(7,1,false),(8,1,false)]⟩),
 (34,⟨t48,true,152,[(0,1,false),(1,2,true),(3,1,false),(4,3,true),(7,1,false),(8,1,false)]⟩),
 (37,⟨t6,false,24,[]⟩),
 (39,⟨t25,true,56,[(0,3,true),(3,1,false),(4,1,false)]⟩),
 (40,⟨t25,true,56,[(0,3,true),(3,1,false),(4,1,false)]⟩),
 (41,⟨t33,true,80,[(0,1,false),(1,5,true),(6,1,false)]⟩),
 (42,⟨t33,true,80,[(0,1,false),(1,5,true),(6,1,false)]⟩),
 (43,⟨t13,false,24,[]⟩),
 (44,⟨t28,true,48,[(0,1,false),(1,1,false)]⟩),
 (45,⟨t28,true,48,[(0,1,false),(1,1,false)]⟩),
 (46,⟨t31,false,24,[]⟩),
 (47,⟨t40,true,104,[(0,1,false),(1,2,true),(3,1,false),(4,1,false)]⟩),
 (48,⟨t40,true,104,[(0,1,false),(1,2,true),(3,1,false),(4,1,false)]⟩),
 (49,⟨t27,true,56,[(0,1,false),(1,3,true),(4,1,false),(5,1,false)]⟩),
 (50,⟨t27,true,56,[(0,1,false),(1,3,true),(4,1,false),(5,1,false)]⟩),
 (59,⟨t34,true,88,[(0,1,false),(1,1,false),(2,1,false),(3,1,false),(4,1,false),(5,1,false)]⟩),
 (60,⟨t34,true,88,[(0,1,false),(1,1,false),(2,1,false),(3,1,false),(4,1,false),(5,1,false)]⟩),
 (86,⟨t6,true,24,[(0,1,false)]⟩),
 (87,⟨t6,true,24,[(0,1,false)]⟩),
 (109,⟨t16,true,24,[(0,1,false),(1,1,false),(2,1,false)]⟩),
 (110,⟨t16,true,24,[(0,1,false),(1,1,false),(2,1,false)]⟩),
 (122,⟨t21,true,40,[(0,1,false),(1,1,false),(2,1,false)]⟩),
 (123,⟨t21,true,40,[(0,1,false),(1,1,false),(2,1,false)]⟩),
 (129,⟨t11,true,40,[(0,1,false),(1,1,false)]⟩),
 (130,⟨t11,true,40,[(0,1,false),(1,1,false)]⟩),
 (139,⟨t20,true,40,[(0,1,false),(1,1,false),(2,1,false)]⟩),
 (140,⟨t20,true,40,[(0,1,false),(1,1,false),(2,1,false)]⟩),
 (177,⟨t1,false,24,[]⟩),
 (192,⟨(.i .u64),false,8,[]⟩),
 (201,⟨(.i .u32),false,4,[]⟩),
 (238,⟨(.i .u8),false,1,[]⟩),
 (239,⟨(.i .u8),false,1,[]⟩),
 (242,⟨(.i .i32),false,4,[]⟩),
 (243,⟨(.i .i32),false,4,[]⟩)]
def ti:TypeId→Option TI:=lk tiL
def Dlb:List Nat:=[29,30,49,50,109,110]
def eqs:TypeId→Bool:=λ T=>Dlb.contains T
def sK:Ava Tryz.prog ti eqs∧∀ T,Ul Tryz.prog ti T=true:=G6b (P:=Tryz.prog) (ti:=ti) (eqs:=eqs) (keys:=tiL.map Prod.fst) (Dlb:=Dlb) Zua (by kernel_rfl) (by kernel_rfl) rfl (by kernel_rfl)
def sO:Ava Tryz.prog ti eqs:=sK.1
def Gzb:∀ T t,ti T=some t→TOk Tryz.prog T t:=sO.tok
def H0b:∀ T,Ul Tryz.prog ti T=true:=sK.2
abbrev CK:=Q5 Tryz.prog
abbrev LL:=LK Tryz.prog
abbrev AC:=C3b Tryz.prog
def mS {f:FuncId} {fn:Func} (D:Fd) (k:Nat) {en:Ent} (ids:List Nat) (hf:Tryz.prog.funcs[f]? = some fn) (hc:AC (D.cs k)) (hi:C4b Tryz.prog fn D ids) (h:(G5b fn D en,Mx (bo fn),ids.map λ l=>first (M1 l (bo fn)))=(true,ids.map λ l=>M1 l (bo fn),ids):=by kernel_rfl) (hr:∀ x,Qya (D.n ti eqs k) (bo fn) fn.results.toList en x=en.run x:=by intro x;kernel_rfl):CK f en:=mkS sO ids hf hc hi (congrArg Prod.fst h) (congrArg Prod.snd h) hr
def mL {fn:Func} {D:Fd} {l:Nat} {p:LF} (ids:List Nat) (hc:∀ k,AC (D.cs k)) (hi:C4b Tryz.prog fn D ids) (h:(Nat.beq D.nt fn.ntmps,Mx (M1 l (bo fn)),ids.map λ l=>first (M1 l (bo fn)))=(true,ids.map λ l=>M1 l (bo fn),ids):=by kernel_rfl) (h0:∀ x,p.f 0 x=none:=by intro _;rfl) (hs:Gtb ti eqs fn D l p:=by intro k x;kernel_rfl):LL fn D l p:=mkL sO ids (congrArg Prod.fst h) hc hi (congrArg Prod.snd h) h0 hs
def O9.e (k:Nat):Ent:=⟨1,[(.val false t4)],[(.one,.b)],λ x=>O9 x⟩
def O9.d:Fd := { nt:=6,nv:=1,nm:=[0,1],res:=[2] }
def O9.s (k:Nat):CK 8 (O9.e k):=mS O9.d k [] Tryz.func8 trivial trivial
def Cb.e (k:Nat):Ent:=⟨2,[(.val true t16),(.val true t16)],[(.one,.b)],λ x=>Cb x.1 x.2⟩
def Cb.d:Fd := { nt:=32,nv:=2,nm:=[0,1,2,3],res:=[4] }
def Cb.s (k:Nat):CK 12 (Cb.e k):=mS Cb.d k [] Tryz.func12 trivial trivial
def Ie.e (k:Nat):Ent:=⟨2,[(.val true t25),(.val true t25)],[(.one,.b)],λ x=>Ie x.1 x.2⟩
def Ie.d:Fd := { nt:=10,nv:=2,nm:=[0,1,2,3],res:=[4],cs:=λ k=>[(12,Cb.e k)] }
def Ie.s (k:Nat):CK 15 (Ie.e k):=mS Ie.d k [] Tryz.func15 ⟨Cb.s k,trivial⟩ trivial
def Av.e (k:Nat):Ent:=⟨1,[(.val false t4)],[(.one,t5)],λ x=>Av x⟩
def Av.d:Fd := { nt:=5,nv:=1,nm:=[0,1],res:=[2] }
def Av.s (k:Nat):CK 105 (Av.e k):=mS Av.d k [] Tryz.func105 trivial trivial
def Ll.e (k:Nat):Ent:=⟨2,[(.val false t13),(.val false .s)],[(.one,(.i .i64))],λ x=>Ll k x.1 x.2⟩
def Lu.p:LF:=⟨⟨[],[(1,.s),(7,t13),(8,(.i .i64)),(9,(.i .i64))]⟩,[(.ret,⟨[],[(4,(.i .i64))]⟩),((.exit 0),⟨[],[]⟩)],λ k x=>Lu k x.1 x.2.1 x.2.2.1 x.2.2.2⟩
def Ll.d:Fd := { nt:=20,nv:=2,nm:=[0,1,2,3,5,6],res:=[4],ls:=[(2,Lu.p)] }
def Lu.s:LL Tryz.f118 Ll.d 2 Lu.p:=mL [] (λ _=>trivial) trivial
def Ll.s (k:Nat):CK 118 (Ll.e k):=mS Ll.d k [2] Tryz.func118 trivial ⟨Lu.s,trivial⟩
def Fq.e (k:Nat):Ent:=⟨2,[(.val true t28),(.val false .s)],[(.one,t5),(.one,.b)],λ x=>Fq k x.1 x.2⟩
def Fq.d:Fd := { nt:=20,nv:=2,nm:=[0,1,2,3,6],res:=[4,5],cs:=λ k=>[(105,Av.e k),(118,Ll.e k)] }
def Fq.s (k:Nat):CK 61 (Fq.e k):=mS Fq.d k [] Tryz.func61 ⟨Av.s k,Ll.s k,trivial⟩ trivial
def I9.e (k:Nat):Ent:=⟨2,[(.val false t4),(.val false (.i .i64))],[(.one,(.i .i64)),(.one,(.i .i64)),(.one,.b)],λ x=>I9 k x.1 x.2⟩
def Gn.p:LF:=⟨⟨[],[(0,t4),(1,(.i .i64)),(7,(.i .i64)),(8,(.i .i64))]⟩,[(.ret,⟨[],[(4,(.i .i64)),(5,(.i .i64)),(6,.b)]⟩),((.exit 0),⟨[],[]⟩)],λ k x=>Gn k x.1 x.2.1 x.2.2.1 x.2.2.2⟩
def I9.d:Fd := { nt:=57,nv:=2,nm:=[0,1,2,3,7,8,9],res:=[4,5,6],ls:=[(3,Gn.p)] }
def Gn.s:LL Tryz.f222 I9.d 3 Gn.p:=mL [] (λ _=>trivial) trivial
def I9.s (k:Nat):CK 222 (I9.e k):=mS I9.d k [3] Tryz.func222 trivial ⟨Gn.s,trivial⟩
def D7.e (k:Nat):Ent:=⟨1,[(.ptr t20 t20)],[(.one,(.i .i64))],λ x=>D7 k x⟩
def D7.d:Fd := { nt:=35,nv:=1,nm:=[0,1,3,4,5],res:=[2],cs:=λ k=>[(222,I9.e k)] }
def D7.s (k:Nat):CK 176 (D7.e k):=mS D7.d k [] Tryz.func176 ⟨I9.s k,trivial⟩ trivial
def Dr.e (k:Nat):Ent:=⟨1,[(.ptr t20 t20)],[(.agg,t16),(.one,.b)],λ x=>Dr k x⟩
def Dr.d:Fd := { nt:=31,nv:=1,nm:=[0,1,4,5],res:=[3],cs:=λ k=>[(176,D7.e k)] }
def Dr.s (k:Nat):CK 119 (Dr.e k):=mS Dr.d k [] Tryz.func119 ⟨D7.s k,trivial⟩ trivial
def Jq.e (k:Nat):Ent:=⟨2,[(.val false t4),(.val false (.i .i64))],[(.one,.s),(.one,(.i .i64)),(.one,.b)],λ x=>Jq k x.1 x.2⟩
def Jq.d:Fd := { nt:=37,nv:=2,nm:=[0,1,2,3,7,8,9],res:=[4,5,6],cs:=λ k=>[(222,I9.e k)] }
def Jq.s (k:Nat):CK 177 (Jq.e k):=mS Jq.d k [] Tryz.func177 ⟨I9.s k,trivial⟩ trivial
def Cz.e (k:Nat):Ent:=⟨1,[(.ptr t20 t20)],[(.one,.s)],λ x=>Cz k x⟩
def Cz.d:Fd := { nt:=35,nv:=1,nm:=[0,1,3,4,5],res:=[2],cs:=λ k=>[(177,Jq.e k)] }
def Cz.s (k:Nat):CK 120 (Cz.e k):=mS Cz.d k [] Tryz.func120 ⟨Jq.s k,trivial⟩ trivial
def Fy.e (k:Nat):Ent:=⟨3,[(.val false (.i .i64)),(.val false (.i .i64)),(.val false (.i .i64))],[(.one,.b)],λ x=>Fy x.1 x.2.1 x.2.2⟩
def Fy.d:Fd := { nt:=15,nv:=3,nm:=[0,1,2,3,4,5],res:=[6] }
def Fy.s (k:Nat):CK 42 (Fy.e k):=mS Fy.d k [] Tryz.func42 trivial trivial
def Ee.e (k:Nat):Ent:=⟨1,[(.val true t16)],[(.one,.b)],λ x=>Ee x⟩
def Ee.d:Fd := { nt:=16,nv:=1,nm:=[0,1],res:=[2],cs:=λ k=>[(42,Fy.e k)] }
def Ee.s (k:Nat):CK 85 (Ee.e k):=mS Ee.d k [] Tryz.func85 ⟨Fy.s k,trivial⟩ trivial
def Fz.e (k:Nat):Ent:=⟨1,[(.val true t25)],[(.one,.b)],λ x=>Fz x⟩
def Fz.d:Fd := { nt:=23,nv:=1,nm:=[0,1],res:=[2],cs:=λ k=>[(85,Ee.e k)] }
def Fz.s (k:Nat):CK 149 (Fz.e k):=mS Fz.d k [] Tryz.func149 ⟨Ee.s k,trivial⟩ trivial
def Fm.e (k:Nat):Ent:=⟨2,[(.val false t5),(.val false (.i .i64))],[(.one,t5)],λ x=>Fm k x.1 x.2⟩
def Hf.p:LF:=⟨⟨[],[(0,t5),(1,(.i .i64))]⟩,[((.exit 0),⟨[],[(0,t5),(1,(.i .i64))]⟩)],λ k x=>Hf k x.1 x.2⟩
def Fm.d:Fd := { nt:=24,nv:=2,nm:=[0,1,2,3],res:=[4],ls:=[(2,Hf.p)] }
def Hf.s:LL Tryz.f223 Fm.d 2 Hf.p:=mL [] (λ _=>trivial) trivial
def Fm.s (k:Nat):CK 223 (Fm.e k):=mS Fm.d k [2] Tryz.func223 trivial ⟨Hf.s,trivial⟩
def Jr.e (k:Nat):Ent:=⟨2,[(.val false t5),(.val false .s)],[(.one,t5)],λ x=>Jr k x.1 x.2⟩
def Jr.d:Fd := { nt:=11,nv:=2,nm:=[0,1,2,3],res:=[4],cs:=λ k=>[(223,Fm.e k)] }
def Jr.s (k:Nat):CK 178 (Jr.e k):=mS Jr.d k [] Tryz.func178 ⟨Fm.s k,trivial⟩ trivial
def Oa.e (k:Nat):Ent:=⟨1,[(.val false .b)],[(.one,(.i .i64))],λ x=>Oa x⟩
def Oa.d:Fd := { nt:=4,nv:=1,nm:=[0,1],res:=[2] }
def Oa.s (k:Nat):CK 224 (Oa.e k):=mS Oa.d k [] Tryz.func224 trivial trivial
def Il.e (k:Nat):Ent:=⟨3,[(.val false t5),(.val true t16),(.val false .b)],[(.one,t5)],λ x=>Il k x.1 x.2.1 x.2.2⟩
def Il.d:Fd := { nt:=20,nv:=3,nm:=[0,1,2,3,4,5],res:=[6],cs:=λ k=>[(223,Fm.e k),(224,Oa.e k)] }
def Il.s (k:Nat):CK 179 (Il.e k):=mS Il.d k [] Tryz.func179 ⟨Fm.s k,Oa.s k,trivial⟩ trivial
def Mu.e (k:Nat):Ent:=⟨1,[(.val false t4)],[(.one,(.i .i64))],λ x=>Mu k x⟩
def Kh.p:LF:=⟨⟨[],[(3,(.i .u32)),(7,t4),(8,(.i .i64)),(9,(.i .i64)),(17,(.i .i64))]⟩,[((.exit 2),⟨[],[(3,(.i .u32)),(7,t4),(8,(.i .i64)),(9,(.i .i64))]⟩)],λ k x=>Kh k x.1 x.2.1 x.2.2.1 x.2.2.2.1 x.2.2.2.2⟩
def Ku.p:LF:=⟨⟨[],[(3,(.i .u32)),(7,t4),(8,(.i .i64)),(9,(.i .i64))]⟩,[((.exit 0),⟨[],[(3,(.i .u32))]⟩)],λ k x=>Ku k x.1 x.2.1 x.2.2.1 x.2.2.2⟩
def Mu.d:Fd := { nt:=32,nv:=1,nm:=[0,1,3,4,5,6],res:=[2],ls:=[(7,Kh.p),(3,Ku.p)] }
def Kh.s:LL Tryz.f180 Mu.d 7 Kh.p:=mL [] (λ _=>trivial) trivial
def Ku.s:LL Tryz.f180 Mu.d 3 Ku.p:=mL [7] (λ _=>trivial) ⟨Kh.s,trivial⟩
def Mu.s (k:Nat):CK 180 (Mu.e k):=mS Mu.d k [3] Tryz.func180 trivial ⟨Ku.s,trivial⟩
def Fh.e (k:Nat):Ent:=⟨1,[(.val true t25)],[(.one,t5)],λ x=>Fh k x⟩
def Fh.d:Fd := { nt:=33,nv:=1,nm:=[0,1,3,4],res:=[2],cs:=λ k=>[(149,Fz.e k),(178,Jr.e k),(179,Il.e k),(180,Mu.e k)] }
def Fh.s (k:Nat):CK 121 (Fh.e k):=mS Fh.d k [] Tryz.func121 ⟨Fz.s k,Jr.s k,Il.s k,Mu.s k,trivial⟩ trivial
def Ef.e (k:Nat):Ent:=⟨1,[(.val false t4)],[(.agg,t25),(.one,.b)],λ x=>Ef k x⟩
def Ef.d:Fd := { nt:=41,nv:=1,nm:=[0,1,4,5,6],res:=[3],cs:=λ k=>[(119,Dr.e k),(120,Cz.e k),(121,Fh.e k)] }
def Ef.s (k:Nat):CK 62 (Ef.e k):=mS Ef.d k [] Tryz.func62 ⟨Dr.s k,Cz.s k,Fh.s k,trivial⟩ trivial
def Ig.e (k:Nat):Ent:=⟨2,[(.val true t28),(.val false .s)],[(.agg,t25),(.one,(.i .i64))],λ x=>Ig k x.1 x.2⟩
def Ig.d:Fd := { nt:=28,nv:=2,nm:=[0,1,2,3,6,7,8,9],res:=[5],cs:=λ k=>[(61,Fq.e k),(62,Ef.e k)] }
def Ig.s (k:Nat):CK 23 (Ig.e k):=mS Ig.d k [] Tryz.func23 ⟨Fq.s k,Ef.s k,trivial⟩ trivial
def D8.e (k:Nat):Ent:=⟨2,[(.val true t48),(.val false .s)],[(.agg,t25),(.one,.b)],λ x=>D8 k x.1 x.2⟩
def Cg.p:LF:=⟨⟨[(4,(.bp 4 0 0)),(6,(.bp 6 0 0)),(5999,(.hd 5)),(7999,(.hd 5))],[(1,.s),(7,.b),(13,t45),(14,(.i .i64)),(15,(.i .i64)),(5000,t26),(7000,t25)]⟩,[((.exit 0),⟨[(4,(.bp 4 0 0)),(6,(.bp 6 0 0)),(5999,(.hd 5)),(7999,(.hd 5))],[(7,.b),(5000,t26),(7000,t25)]⟩)],λ k x=>Cg k x.1 x.2.1 x.2.2.1 x.2.2.2.1 x.2.2.2.2.1 x.2.2.2.2.2.1 x.2.2.2.2.2.2⟩
def D8.d:Fd := { nt:=41,nv:=2,nm:=[0,1,2,3,6,7,8,9,10,11],res:=[5],cs:=λ k=>[(15,Ie.e k),(23,Ig.e k)],ls:=[(4,Cg.p)],rf:=true }
def D8.a (k:Nat):AC (D8.d.cs k):=⟨Ie.s k,Ig.s k,trivial⟩
def Cg.s:LL Tryz.f13 D8.d 4 Cg.p:=mL [] D8.a trivial
def D8.s (k:Nat):CK 13 (D8.e k):=mS D8.d k [4] Tryz.func13 (D8.a k) ⟨Cg.s,trivial⟩
def Ji.e (k:Nat):Ent:=⟨1,[(.val false t4)],[(.ptr,t21)],λ x=>Ji k x⟩
def Im.p:LF:=⟨⟨[],[(0,t4),(3,(.i .i64)),(4,(.i .i64))]⟩,[((.exit 0),⟨[],[(0,t4),(3,(.i .i64))]⟩)],λ k x=>Im k x.1 x.2.1 x.2.2⟩
def Ji.d:Fd := { nt:=32,nv:=1,nm:=[0,1,3,4],res:=[2],ls:=[(3,Im.p)] }
def Im.s:LL Tryz.f44 Ji.d 3 Im.p:=mL [] (λ _=>trivial) trivial
def Ji.s (k:Nat):CK 44 (Ji.e k):=mS Ji.d k [3] Tryz.func44 trivial ⟨Im.s,trivial⟩
def Kw.e (k:Nat):Ent:=⟨2,[(.val false t4),(.val false (.i .i64))],[(.one,(.i .i64))],λ x=>Kw x.1 x.2⟩
def Kw.d:Fd := { nt:=15,nv:=2,nm:=[0,1,2,3,5],res:=[4],rf:=true }
def Kw.s (k:Nat):CK 46 (Kw.e k):=mS Kw.d k [] Tryz.func46 trivial trivial
def G0.e (k:Nat):Ent:=⟨1,[(.ptr t21 t21)],[(.one,(.i .i64))],λ x=>G0 x⟩
def G0.d:Fd := { nt:=58,nv:=1,nm:=[0,1,3],res:=[2] }
def G0.s (k:Nat):CK 130 (G0.e k):=mS G0.d k [] Tryz.func130 trivial trivial
def A3.e (k:Nat):Ent:=⟨2,[(.ptr t21 t21),(.val false (.i .i64))],[(.one,(.i .i64))],λ x=>A3 x.1 x.2⟩
def A3.d:Fd := { nt:=31,nv:=2,nm:=[0,1,2,3,5,6,7],res:=[4],cs:=λ k=>[(130,G0.e k)] }
def A3.s (k:Nat):CK 75 (A3.e k):=mS A3.d k [] Tryz.func75 ⟨G0.s k,trivial⟩ trivial
def Ac.e (k:Nat):Ent:=⟨2,[(.ptr t21 t21),(.val false t6)],[(.one,(.i .i64))],λ x=>Ac x.1 x.2⟩
def Ac.d:Fd := { nt:=12,nv:=2,nm:=[0,1,2,3],res:=[4],cs:=λ k=>[(75,A3.e k)] }
def Ac.s (k:Nat):CK 127 (Ac.e k):=mS Ac.d k [] Tryz.func127 ⟨A3.s k,trivial⟩ trivial
def H3.e (k:Nat):Ent:=⟨1,[(.ptr t21 t21)],[(.one,t23)],λ x=>H3 k x⟩
def Hg.p:LF:=⟨⟨[(0,(.bp 0 0 0)),(1999,(.hd 3))],[(3,t23),(4,(.i .i64)),(5,(.i .i64)),(6,(.i .i64)),(1000,t21)]⟩,[((.exit 0),⟨[(1999,(.hd 3))],[(3,t23),(1000,t21)]⟩)],λ k x=>Hg k x.1 x.2.1 x.2.2.1 x.2.2.2.1 x.2.2.2.2⟩
def H3.d:Fd := { nt:=35,nv:=1,nm:=[0,1,3,4,5,6],res:=[2],cs:=λ k=>[(75,A3.e k),(127,Ac.e k)],ls:=[(5,Hg.p)],rf:=true }
def H3.a (k:Nat):AC (H3.d.cs k):=⟨A3.s k,Ac.s k,trivial⟩
def Hg.s:LL Tryz.f158 H3.d 5 Hg.p:=mL [] H3.a trivial
def H3.s (k:Nat):CK 158 (H3.e k):=mS H3.d k [5] Tryz.func158 (H3.a k) ⟨Hg.s,trivial⟩
def A9.e (k:Nat):Ent:=⟨3,[(.val false (.i .i64)),(.val false (.i .i64)),(.val false (.i .i64))],[(.one,.b)],λ x=>A9 x.1 x.2.1 x.2.2⟩
def A9.d:Fd := { nt:=15,nv:=3,nm:=[0,1,2,3,4,5],res:=[6] }
def A9.s (k:Nat):CK 72 (A9.e k):=mS A9.d k [] Tryz.func72 trivial trivial
def C4.e (k:Nat):Ent:=⟨1,[(.val false t22)],[(.one,.b)],λ x=>C4 k x⟩
def Gp.p:LF:=⟨⟨[],[(0,t22),(3,(.i .i64))]⟩,[(.ret,⟨[],[(2,.b)]⟩),((.exit 0),⟨[],[(0,t22)]⟩)],λ k x=>Gp k x.1 x.2⟩
def C4.d:Fd := { nt:=49,nv:=1,nm:=[0,1,3,4],res:=[2],cs:=λ k=>[(72,A9.e k)],ls:=[(2,Gp.p)],rf:=true }
def C4.a (k:Nat):AC (C4.d.cs k):=⟨A9.s k,trivial⟩
def Gp.s:LL Tryz.f122 C4.d 2 Gp.p:=mL [] C4.a trivial
def C4.s (k:Nat):CK 122 (C4.e k):=mS C4.d k [2] Tryz.func122 (C4.a k) ⟨Gp.s,trivial⟩
def Cs.e (k:Nat):Ent:=⟨2,[(.val false t6),(.val false (.i .i64))],[(.one,.b)],λ x=>Cs k x.1 x.2⟩
def Io.p:LF:=⟨⟨[],[(0,t6),(1,(.i .i64)),(5,(.i .i64))]⟩,[(.ret,⟨[],[(4,.b)]⟩),((.exit 0),⟨[],[]⟩)],λ k x=>Io k x.1 x.2.1 x.2.2⟩
def Cs.d:Fd := { nt:=18,nv:=2,nm:=[0,1,2,3,5],res:=[4],ls:=[(2,Io.p)],rf:=true }
def Io.s:LL Tryz.f181 Cs.d 2 Io.p:=mL [] (λ _=>trivial) trivial
def Cs.s (k:Nat):CK 181 (Cs.e k):=mS Cs.d k [2] Tryz.func181 trivial ⟨Io.s,trivial⟩
def Ek.e (k:Nat):Ent:=⟨2,[(.val false t22),(.val false (.i .i64))],[(.agg,t16),(.one,.b)],λ x=>Ek k x.1 x.2⟩
def Ip.p:LF:=⟨⟨[(4,(.bp 4 0 0)),(5999,(.hd 3))],[(0,t22),(1,(.i .i64)),(6,(.i .i64)),(5000,t16)]⟩,[(.ret,⟨[(4,(.bp 4 0 0)),(5999,(.hd 3))],[(5,.b),(5000,t16)]⟩),((.exit 0),⟨[(4,(.bp 4 0 0)),(5999,(.hd 3))],[(5000,t16)]⟩)],λ k x=>Ip k x.1 x.2.1 x.2.2.1 x.2.2.2⟩
def Ek.d:Fd := { nt:=25,nv:=2,nm:=[0,1,2,3,6],res:=[5],ls:=[(2,Ip.p)],rf:=true }
def Ip.s:LL Tryz.f124 Ek.d 2 Ip.p:=mL [] (λ _=>trivial) trivial
def Ek.s (k:Nat):CK 124 (Ek.e k):=mS Ek.d k [2] Tryz.func124 trivial ⟨Ip.s,trivial⟩
def D9.e (k:Nat):Ent:=⟨2,[(.val false t6),(.val false t22)],[(.one,t7)],λ x=>D9 k x.1 x.2⟩
def Ds.p:LF:=⟨⟨[],[(0,t6),(1,t22),(5,t7),(6,(.i .i64))]⟩,[((.exit 0),⟨[],[(5,t7)]⟩)],λ k x=>Ds k x.1 x.2.1 x.2.2.1 x.2.2.2⟩
def D9.d:Fd := { nt:=39,nv:=2,nm:=[0,1,2,3,5,6,7,8],res:=[4],cs:=λ k=>[(124,Ek.e k),(181,Cs.e k)],ls:=[(3,Ds.p)],rf:=true }
def D9.a (k:Nat):AC (D9.d.cs k):=⟨Ek.s k,Cs.s k,trivial⟩
def Ds.s:LL Tryz.f254 D9.d 3 Ds.p:=mL [] D9.a trivial
def D9.s (k:Nat):CK 254 (D9.e k):=mS D9.d k [3] Tryz.func254 (D9.a k) ⟨Ds.s,trivial⟩
def Cy.e (k:Nat):Ent:=⟨2,[(.val true t17),(.val false (.i .i64))],[(.one,(.i .i64))],λ x=>Cy k x.1 x.2⟩
def Gq.p:LF:=⟨⟨[(2,(.bp 2 0 0)),(3999,(.hd 2))],[(1,(.i .i64)),(5,(.i .i64)),(6,(.i .i64)),(7,(.i .i64)),(3000,t17)]⟩,[((.exit 2),⟨[(2,(.bp 2 0 0)),(3999,(.hd 2))],[(1,(.i .i64)),(5,(.i .i64)),(6,(.i .i64)),(3000,t17)]⟩)],λ k x=>Gq k x.1 x.2.1 x.2.2.1 x.2.2.2.1 x.2.2.2.2⟩
def Hh.p:LF:=⟨⟨[(2,(.bp 2 0 0)),(3999,(.hd 2))],[(1,(.i .i64)),(5,(.i .i64)),(6,(.i .i64)),(3000,t17)]⟩,[((.exit 0),⟨[],[(5,(.i .i64))]⟩)],λ k x=>Hh k x.1 x.2.1 x.2.2.1 x.2.2.2⟩
def Cy.d:Fd := { nt:=40,nv:=2,nm:=[0,1,2,3,5,6,7],res:=[4],ls:=[(6,Gq.p),(3,Hh.p)],rf:=true }
def Gq.s:LL Tryz.f255 Cy.d 6 Gq.p:=mL [] (λ _=>trivial) trivial
def Hh.s:LL Tryz.f255 Cy.d 3 Hh.p:=mL [6] (λ _=>trivial) ⟨Gq.s,trivial⟩
def Cy.s (k:Nat):CK 255 (Cy.e k):=mS Cy.d k [3] Tryz.func255 trivial ⟨Hh.s,trivial⟩
def Ih.e (k:Nat):Ent:=⟨3,[(.val true t17),(.val true t6),(.val false t22)],[(.one,(.i .i64))],λ x=>Ih k x.1 x.2.1 x.2.2⟩
def Bx.p:LF:=⟨⟨[(3,(.bp 3 0 0)),(4,(.bp 4 0 0)),(4999,(.hd 2)),(5999,(.hd 1))],[(2,t22),(7,t7),(8,(.i .i64)),(9,.b),(10,(.i .i64)),(4000,t17),(5000,t6)]⟩,[((.exit 0),⟨[],[(2,t22),(8,(.i .i64))]⟩)],λ k x=>Bx k x.1 x.2.1 x.2.2.1 x.2.2.2.1 x.2.2.2.2.1 x.2.2.2.2.2.1 x.2.2.2.2.2.2⟩
def Ih.d:Fd := { nt:=88,nv:=3,nm:=[0,1,2,3,4,5,7,8,9,10,11,12],res:=[6],cs:=λ k=>[(122,C4.e k),(181,Cs.e k),(254,D9.e k),(255,Cy.e k)],ls:=[(5,Bx.p)],rf:=true }
def Ih.a (k:Nat):AC (Ih.d.cs k):=⟨C4.s k,Cs.s k,D9.s k,Cy.s k,trivial⟩
def Bx.s:LL Tryz.f234 Ih.d 5 Bx.p:=mL [] Ih.a trivial
def Ih.s (k:Nat):CK 234 (Ih.e k):=mS Ih.d k [5] Tryz.func234 (Ih.a k) ⟨Bx.s,trivial⟩
def Hd.e (k:Nat):Ent:=⟨3,[(.val false t22),(.val false (.i .i64)),(.val false (.i .i64))],[(.agg,t18),(.one,.b)],λ x=>Hd k x.1 x.2.1 x.2.2⟩
def Iq.p:LF:=⟨⟨[(6,(.bp 6 0 0)),(8,(.bp 8 0 0)),(7999,(.hd 2)),(9999,(.hd 2))],[(0,t22),(1,(.i .i64)),(2,(.i .i64)),(9,(.i .i64)),(10,(.i .i64)),(7000,t19),(9000,t18)]⟩,[((.exit 2),⟨[(6,(.bp 6 0 0)),(8,(.bp 8 0 0)),(7999,(.hd 2)),(9999,(.hd 2))],[(0,t22),(1,(.i .i64)),(2,(.i .i64)),(9,(.i .i64)),(7000,t19),(9000,t18)]⟩)],λ k x=>Iq k x.1 x.2.1 x.2.2.1 x.2.2.2.1 x.2.2.2.2.1 x.2.2.2.2.2.1 x.2.2.2.2.2.2⟩
def Ir.p:LF:=⟨⟨[(6,(.bp 6 0 0)),(8,(.bp 8 0 0)),(7999,(.hd 2)),(9999,(.hd 2))],[(0,t22),(1,(.i .i64)),(2,(.i .i64)),(9,(.i .i64)),(7000,t19),(9000,t18)]⟩,[((.exit 0),⟨[(6,(.bp 6 0 0)),(8,(.bp 8 0 0)),(7999,(.hd 2)),(9999,(.hd 2))],[(7000,t19),(9000,t18)]⟩)],λ k x=>Ir k x.1 x.2.1 x.2.2.1 x.2.2.2.1 x.2.2.2.2.1 x.2.2.2.2.2⟩
def Hd.d:Fd := { nt:=73,nv:=3,nm:=[0,1,2,3,4,5,8,9,10,11],res:=[7],cs:=λ k=>[(72,A9.e k),(122,C4.e k),(234,Ih.e k)],ls:=[(9,Iq.p),(5,Ir.p)],hint:=[(42,t7),(43,t7)],mv:=[72],gh:=[(12,[.od 54 3001]),(1000010,[.cl 9001])],rf:=true }
def Hd.a (k:Nat):AC (Hd.d.cs k):=⟨A9.s k,C4.s k,Ih.s k,trivial⟩
def Iq.s:LL Tryz.f203 Hd.d 9 Iq.p:=mL [] Hd.a trivial
def Ir.s:LL Tryz.f203 Hd.d 5 Ir.p:=mL [9] Hd.a ⟨Iq.s,trivial⟩
def Hd.s (k:Nat):CK 203 (Hd.e k):=mS Hd.d k [5] Tryz.func203 (Hd.a k) ⟨Ir.s,trivial⟩
def H7.e (k:Nat):Ent:=⟨1,[(.val false (.i .i64))],[(.agg,t41)],λ x=>H7 x⟩
def H7.d:Fd := { nt:=9,nv:=1,nm:=[0,1],res:=[],cs:=λ k=>[(72,A9.e k)] }
def H7.s (k:Nat):CK 204 (H7.e k):=mS H7.d k [] Tryz.func204 ⟨A9.s k,trivial⟩ trivial
def Cn.e (k:Nat):Ent:=⟨3,[(.val false t22),(.val false (.i .i64)),(.val false (.i .i64))],[(.agg,t49)],λ x=>Cn k x.1 x.2.1 x.2.2⟩
def Eu.p:LF:=⟨⟨[(6,(.bp 6 0 0)),(9,(.bp 9 0 0)),(7999,(.hd 9)),(10999,(.hd 9))],[(0,t22),(10,(.i .i64)),(7000,t50),(10000,t49)]⟩,[((.exit 0),⟨[(6,(.bp 6 0 0)),(9,(.bp 9 0 0)),(7999,(.hd 9)),(10999,(.hd 9))],[(7000,t50),(10000,t49)]⟩)],λ k x=>Eu k x.1 x.2.1 x.2.2.1 x.2.2.2⟩
def Cn.d:Fd := { nt:=44,nv:=3,nm:=[0,1,2,3,4,5,7,8,9,10],res:=[],cs:=λ k=>[(203,Hd.e k),(204,H7.e k)],ls:=[(6,Eu.p)],mv:=[43],rf:=true }
def Cn.a (k:Nat):AC (Cn.d.cs k):=⟨Hd.s k,H7.s k,trivial⟩
def Eu.s:LL Tryz.f159 Cn.d 6 Eu.p:=mL [] Cn.a trivial
def Cn.s (k:Nat):CK 159 (Cn.e k):=mS Cn.d k [6] Tryz.func159 (Cn.a k) ⟨Eu.s,trivial⟩
def Kx.e (k:Nat):Ent:=⟨1,[(.ptr t21 t21)],[(.agg,t49)],λ x=>Kx k x⟩
def Kx.d:Fd := { nt:=22,nv:=1,nm:=[0,1,3,4],res:=[],cs:=λ k=>[(127,Ac.e k),(158,H3.e k),(159,Cn.e k)],rf:=true }
def Kx.s (k:Nat):CK 101 (Kx.e k):=mS Kx.d k [] Tryz.func101 ⟨Ac.s k,H3.s k,Cn.s k,trivial⟩ trivial
def Ap.e (k:Nat):Ent:=⟨1,[(.val false .s)],[(.one,.b)],λ x=>Ap k x⟩
def Dd.p:LF:=⟨⟨[],[(0,.s),(3,(.i .i64))]⟩,[(.ret,⟨[],[(2,.b)]⟩),((.exit 0),⟨[],[(0,.s)]⟩)],λ k x=>Dd k x.1 x.2⟩
def Ap.d:Fd := { nt:=38,nv:=1,nm:=[0,1,3,4],res:=[2],cs:=λ k=>[(72,A9.e k)],ls:=[(2,Dd.p)] }
def Ap.a (k:Nat):AC (Ap.d.cs k):=⟨A9.s k,trivial⟩
def Dd.s:LL Tryz.f67 Ap.d 2 Dd.p:=mL [] Ap.a trivial
def Ap.s (k:Nat):CK 67 (Ap.e k):=mS Ap.d k [2] Tryz.func67 (Ap.a k) ⟨Dd.s,trivial⟩
def Cc.e (k:Nat):Ent:=⟨1,[(.val true t16)],[(.one,.b)],λ x=>Cc x⟩
def Cc.d:Fd := { nt:=16,nv:=1,nm:=[0,1],res:=[2],cs:=λ k=>[(72,A9.e k)] }
def Cc.s (k:Nat):CK 66 (Cc.e k):=mS Cc.d k [] Tryz.func66 ⟨A9.s k,trivial⟩ trivial
def Hi.e (k:Nat):Ent:=⟨3,[(.val true t16),(.val false (.i .i64)),(.val false (.i .i64))],[(.agg,t16)],λ x=>Hi x.1 x.2.1 x.2.2⟩
def Hi.d:Fd := { nt:=27,nv:=3,nm:=[0,1,2,3,4,5,7],res:=[],cs:=λ k=>[(66,Cc.e k)],rf:=true }
def Hi.s (k:Nat):CK 205 (Hi.e k):=mS Hi.d k [] Tryz.func205 ⟨Cc.s k,trivial⟩ trivial
def Bs.e (k:Nat):Ent:=⟨1,[(.val true t25)],[(.agg,t26)],λ x=>Bs x⟩
def Bs.d:Fd := { nt:=9,nv:=1,nm:=[0,1],res:=[],mv:=[8],rf:=true }
def Bs.s (k:Nat):CK 138 (Bs.e k):=mS Bs.d k [] Tryz.func138 trivial trivial
def C9.e (k:Nat):Ent:=⟨2,[(.val false t6),(.val false (.i .i64))],[(.one,(.i .i64))],λ x=>C9 x.1 x.2⟩
def C9.d:Fd := { nt:=21,nv:=2,nm:=[0,1,2,3],res:=[4],cs:=λ k=>[(72,A9.e k)],rf:=true }
def C9.s (k:Nat):CK 141 (C9.e k):=mS C9.d k [] Tryz.func141 ⟨A9.s k,trivial⟩ trivial
def Bf.e (k:Nat):Ent:=⟨2,[(.val true t48),(.val false t6)],[(.one,t7)],λ x=>Bf k x.1 x.2⟩
def Cf.p:LF:=⟨⟨[(2,(.bp 2 0 0)),(3999,(.hd 9))],[(1,t6),(5,t7),(6,(.i .i64)),(7,(.i .i64)),(3000,t48)]⟩,[((.exit 2),⟨[(2,(.bp 2 0 0)),(3999,(.hd 9))],[(1,t6),(5,t7),(6,(.i .i64)),(3000,t48)]⟩)],λ k x=>Cf k x.1 x.2.1 x.2.2.1 x.2.2.2.1 x.2.2.2.2⟩
def Dt.p:LF:=⟨⟨[(2,(.bp 2 0 0)),(3999,(.hd 9))],[(1,t6),(5,t7),(6,(.i .i64)),(3000,t48)]⟩,[((.exit 0),⟨[],[(5,t7)]⟩)],λ k x=>Dt k x.1 x.2.1 x.2.2.1 x.2.2.2⟩
def Bf.d:Fd := { nt:=38,nv:=2,nm:=[0,1,2,3,5,6,7],res:=[4],ls:=[(6,Cf.p),(3,Dt.p)],rf:=true }
def Cf.s:LL Tryz.f139 Bf.d 6 Cf.p:=mL [] (λ _=>trivial) trivial
def Dt.s:LL Tryz.f139 Bf.d 3 Dt.p:=mL [6] (λ _=>trivial) ⟨Cf.s,trivial⟩
def Bf.s (k:Nat):CK 139 (Bf.e k):=mS Bf.d k [3] Tryz.func139 trivial ⟨Dt.s,trivial⟩
def Mb.e (k:Nat):Ent:=⟨1,[(.val false .s)],[(.one,(.i .i64))],λ x=>Mb k x⟩
def Js.p:LF:=⟨⟨[],[(0,.s),(3,(.i .i64)),(4,(.i .i64))]⟩,[((.exit 0),⟨[],[(3,(.i .i64))]⟩)],λ k x=>Js k x.1 x.2.1 x.2.2⟩
def Mb.d:Fd := { nt:=20,nv:=1,nm:=[0,1,3,4],res:=[2],ls:=[(3,Js.p)],rf:=true }
def Js.s:LL Tryz.f232 Mb.d 3 Js.p:=mL [] (λ _=>trivial) trivial
def Mb.s (k:Nat):CK 232 (Mb.e k):=mS Mb.d k [3] Tryz.func232 trivial ⟨Js.s,trivial⟩
def Lm.e (k:Nat):Ent:=⟨2,[(.val false .s),(.val false (.i .i64))],[(.one,(.i .i64))],λ x=>Lm k x.1 x.2⟩
def Lm.d:Fd := { nt:=11,nv:=2,nm:=[0,1,2,3],res:=[4],cs:=λ k=>[(232,Mb.e k)],rf:=true }
def Lm.s (k:Nat):CK 193 (Lm.e k):=mS Lm.d k [] Tryz.func193 ⟨Mb.s k,trivial⟩ trivial
def Bg.e (k:Nat):Ent:=⟨2,[(.val true t17),(.val false .s)],[(.one,t7)],λ x=>Bg k x.1 x.2⟩
def Bg.d:Fd := { nt:=22,nv:=2,nm:=[0,1,2,3],res:=[4],cs:=λ k=>[(193,Lm.e k)],rf:=true }
def Bg.s (k:Nat):CK 140 (Bg.e k):=mS Bg.d k [] Tryz.func140 ⟨Lm.s k,trivial⟩ trivial
def Co.e (k:Nat):Ent:=⟨3,[(.val true t17),(.val false t22),(.val false .s)],[(.one,t7)],λ x=>Co k x.1 x.2.1 x.2.2⟩
def Ch.p:LF:=⟨⟨[],[(1,t22),(7,t7),(8,t7),(9,t7),(10,(.i .i64)),(11,(.i .i64))]⟩,[((.exit 2),⟨[],[(1,t22),(7,t7),(8,t7),(9,t7),(10,(.i .i64))]⟩)],λ k x=>Ch k x.1 x.2.1 x.2.2.1 x.2.2.2.1 x.2.2.2.2.1 x.2.2.2.2.2⟩
def Ev.p:LF:=⟨⟨[],[(1,t22),(7,t7),(8,t7),(9,t7),(10,(.i .i64))]⟩,[((.exit 0),⟨[],[(9,t7)]⟩)],λ k x=>Ev k x.1 x.2.1 x.2.2.1 x.2.2.2.1 x.2.2.2.2⟩
def Co.d:Fd := { nt:=58,nv:=3,nm:=[0,1,2,3,4,5,7,8,9,10,11],res:=[6],cs:=λ k=>[(140,Bg.e k),(181,Cs.e k),(254,D9.e k)],ls:=[(8,Ch.p),(5,Ev.p)],rf:=true }
def Co.a (k:Nat):AC (Co.d.cs k):=⟨Bg.s k,Cs.s k,D9.s k,trivial⟩
def Ch.s:LL Tryz.f256 Co.d 8 Ch.p:=mL [] Co.a trivial
def Ev.s:LL Tryz.f256 Co.d 5 Ev.p:=mL [8] Co.a ⟨Ch.s,trivial⟩
def Co.s (k:Nat):CK 256 (Co.e k):=mS Co.d k [5] Tryz.func256 (Co.a k) ⟨Ev.s,trivial⟩
def Ew.e (k:Nat):Ent:=⟨2,[(.val true t48),(.val false .s)],[(.one,t7)],λ x=>Ew k x.1 x.2⟩
def Ew.d:Fd := { nt:=20,nv:=2,nm:=[0,1,2,3],res:=[4],cs:=λ k=>[(139,Bf.e k),(140,Bg.e k),(256,Co.e k)],rf:=true }
def Ew.s (k:Nat):CK 235 (Ew.e k):=mS Ew.d k [] Tryz.func235 ⟨Bf.s k,Bg.s k,Co.s k,trivial⟩ trivial
def Dg.e (k:Nat):Ent:=⟨2,[(.val false t13),(.val false .s)],[(.one,(.i .i64))],λ x=>Dg k x.1 x.2⟩
def Jt.p:LF:=⟨⟨[],[(0,t13),(1,.s),(5,(.i .i64))]⟩,[(.ret,⟨[],[(4,(.i .i64))]⟩),((.exit 0),⟨[],[]⟩)],λ k x=>Jt k x.1 x.2.1 x.2.2⟩
def Dg.d:Fd := { nt:=20,nv:=2,nm:=[0,1,2,3,5],res:=[4],ls:=[(2,Jt.p)] }
def Jt.s:LL Tryz.f129 Dg.d 2 Jt.p:=mL [] (λ _=>trivial) trivial
def Dg.s (k:Nat):CK 129 (Dg.e k):=mS Dg.d k [2] Tryz.func129 trivial ⟨Jt.s,trivial⟩
def Fs.e (k:Nat):Ent:=⟨2,[(.val true t28),(.val false .s)],[(.one,t5),(.one,.b)],λ x=>Fs k x.1 x.2⟩
def Fs.d:Fd := { nt:=22,nv:=2,nm:=[0,1,2,3,6],res:=[4,5],cs:=λ k=>[(129,Dg.e k)] }
def Fs.s (k:Nat):CK 116 (Fs.e k):=mS Fs.d k [] Tryz.func116 ⟨Dg.s k,trivial⟩ trivial
def C5.e (k:Nat):Ent:=⟨1,[(.val true t25)],[(.one,.b)],λ x=>C5 x⟩
def C5.d:Fd := { nt:=23,nv:=1,nm:=[0,1],res:=[2],cs:=λ k=>[(66,Cc.e k)] }
def C5.s (k:Nat):CK 68 (C5.e k):=mS C5.d k [] Tryz.func68 ⟨Cc.s k,trivial⟩ trivial
def Du.e (k:Nat):Ent:=⟨2,[(.val false t4),(.val false (.i .i64))],[(.one,(.i .i64)),(.one,(.i .i64)),(.one,.b)],λ x=>Du k x.1 x.2⟩
def Ff.p:LF:=⟨⟨[],[(0,t4),(1,(.i .i64)),(7,(.i .i64)),(8,(.i .i64))]⟩,[(.ret,⟨[],[(4,(.i .i64)),(5,(.i .i64)),(6,.b)]⟩),((.exit 0),⟨[],[]⟩)],λ k x=>Ff k x.1 x.2.1 x.2.2.1 x.2.2.2⟩
def Du.d:Fd := { nt:=64,nv:=2,nm:=[0,1,2,3,7,8,9],res:=[4,5,6],ls:=[(3,Ff.p)] }
def Ff.s:LL Tryz.f173 Du.d 3 Ff.p:=mL [] (λ _=>trivial) trivial
def Du.s (k:Nat):CK 173 (Du.e k):=mS Du.d k [3] Tryz.func173 trivial ⟨Ff.s,trivial⟩
def G3.e (k:Nat):Ent:=⟨2,[(.val false t4),(.val false (.i .i64))],[(.agg,t16),(.one,(.i .i64)),(.one,.b)],λ x=>G3 k x.1 x.2⟩
def G3.d:Fd := { nt:=49,nv:=2,nm:=[0,1,2,3,7,8,9,10,11,12,13,14,15],res:=[5,6],cs:=λ k=>[(173,Du.e k)] }
def G3.s (k:Nat):CK 172 (G3.e k):=mS G3.d k [] Tryz.func172 ⟨Du.s k,trivial⟩ trivial
def Ju.e (k:Nat):Ent:=⟨2,[(.val false t4),(.val false (.i .i64))],[(.one,.s),(.one,(.i .i64)),(.one,.b)],λ x=>Ju k x.1 x.2⟩
def Ju.d:Fd := { nt:=37,nv:=2,nm:=[0,1,2,3,7,8,9],res:=[4,5,6],cs:=λ k=>[(173,Du.e k)] }
def Ju.s (k:Nat):CK 174 (Ju.e k):=mS Ju.d k [] Tryz.func174 ⟨Du.s k,trivial⟩ trivial
def Dv.e (k:Nat):Ent:=⟨2,[(.val false t4),(.val false (.i .i64))],[(.one,t5)],λ x=>Dv k x.1 x.2⟩
def De.p:LF:=⟨⟨[],[(1,(.i .i64)),(5,t5)]⟩,[((.exit 0),⟨[],[(1,(.i .i64)),(5,t5)]⟩)],λ k x=>De k x.1 x.2⟩
def Dv.d:Fd := { nt:=29,nv:=2,nm:=[0,1,2,3,5],res:=[4],ls:=[(6,De.p)] }
def De.s:LL Tryz.f218 Dv.d 6 De.p:=mL [] (λ _=>trivial) trivial
def Dv.s (k:Nat):CK 218 (Dv.e k):=mS Dv.d k [6] Tryz.func218 trivial ⟨De.s,trivial⟩
def Jv.e (k:Nat):Ent:=⟨2,[(.val false t4),(.val false .s)],[(.one,t5)],λ x=>Jv k x.1 x.2⟩
def Jv.d:Fd := { nt:=11,nv:=2,nm:=[0,1,2,3],res:=[4],cs:=λ k=>[(218,Dv.e k)] }
def Jv.s (k:Nat):CK 217 (Jv.e k):=mS Jv.d k [] Tryz.func217 ⟨Dv.s k,trivial⟩ trivial
def Jw.e (k:Nat):Ent:=⟨2,[(.val false t4),(.val true t16)],[(.one,t5)],λ x=>Jw k x.1 x.2⟩
def Jw.d:Fd := { nt:=15,nv:=2,nm:=[0,1,2,3],res:=[4],cs:=λ k=>[(218,Dv.e k)] }
def Jw.s (k:Nat):CK 219 (Jw.e k):=mS Jw.d k [] Tryz.func219 ⟨Dv.s k,trivial⟩ trivial
def Ln.e (k:Nat):Ent:=⟨1,[(.val false .b)],[(.one,(.i .i64))],λ x=>Ln x⟩
def Ln.d:Fd := { nt:=4,nv:=1,nm:=[0,1],res:=[2] }
def Ln.s (k:Nat):CK 220 (Ln.e k):=mS Ln.d k [] Tryz.func220 trivial trivial
def M5.e (k:Nat):Ent:=⟨1,[(.val false t4)],[(.one,(.i .i64))],λ x=>M5 k x⟩
def Ia.p:LF:=⟨⟨[],[(0,t4),(3,(.i .i64)),(4,(.i .i64)),(5,(.i .i64))]⟩,[((.exit 2),⟨[],[(0,t4),(3,(.i .i64)),(4,(.i .i64))]⟩)],λ k x=>Ia k x.1 x.2.1 x.2.2.1 x.2.2.2⟩
def It.p:LF:=⟨⟨[],[(0,t4),(3,(.i .i64)),(4,(.i .i64))]⟩,[((.exit 0),⟨[],[(3,(.i .i64))]⟩)],λ k x=>It k x.1 x.2.1 x.2.2⟩
def M5.d:Fd := { nt:=34,nv:=1,nm:=[0,1,3,4,5,6],res:=[2],ls:=[(7,Ia.p),(3,It.p)] }
def Ia.s:LL Tryz.f221 M5.d 7 Ia.p:=mL [] (λ _=>trivial) trivial
def It.s:LL Tryz.f221 M5.d 3 It.p:=mL [7] (λ _=>trivial) ⟨Ia.s,trivial⟩
def M5.s (k:Nat):CK 221 (M5.e k):=mS M5.d k [3] Tryz.func221 trivial ⟨It.s,trivial⟩
def Bn.e (k:Nat):Ent:=⟨1,[(.val true t25)],[(.one,t5)],λ x=>Bn k x⟩
def Bn.d:Fd := { nt:=37,nv:=1,nm:=[0,1,3,4],res:=[2],cs:=λ k=>[(68,C5.e k),(217,Jv.e k),(218,Dv.e k),(219,Jw.e k),(220,Ln.e k),(221,M5.e k)] }
def Bn.s (k:Nat):CK 175 (Bn.e k):=mS Bn.d k [] Tryz.func175 ⟨C5.s k,Jv.s k,Dv.s k,Jw.s k,Ln.s k,M5.s k,trivial⟩ trivial
def H8.e (k:Nat):Ent:=⟨1,[(.val false t4)],[(.agg,t26),(.one,.b)],λ x=>H8 k x⟩
def H8.d:Fd := { nt:=76,nv:=1,nm:=[0,1,4,5,6,7,8,9,10,11,12,13],res:=[3],cs:=λ k=>[(68,C5.e k),(172,G3.e k),(173,Du.e k),(174,Ju.e k),(175,Bn.e k)],mv:=[75] }
def H8.s (k:Nat):CK 117 (H8.e k):=mS H8.d k [] Tryz.func117 ⟨C5.s k,G3.s k,Du.s k,Ju.s k,Bn.s k,trivial⟩ trivial
def G4.e (k:Nat):Ent:=⟨2,[(.val true t28),(.val false .s)],[(.agg,t26),(.one,(.i .i64))],λ x=>G4 k x.1 x.2⟩
def G4.d:Fd := { nt:=28,nv:=2,nm:=[0,1,2,3,6,7,8,9],res:=[5],cs:=λ k=>[(116,Fs.e k),(117,H8.e k)],mv:=[27] }
def G4.s (k:Nat):CK 59 (G4.e k):=mS G4.d k [] Tryz.func59 ⟨Fs.s k,H8.s k,trivial⟩ trivial
def Cd.e (k:Nat):Ent:=⟨2,[(.val true t16),(.val true t16)],[(.one,.b)],λ x=>Cd x.1 x.2⟩
def Cd.d:Fd := { nt:=32,nv:=2,nm:=[0,1,2,3],res:=[4] }
def Cd.s (k:Nat):CK 69 (Cd.e k):=mS Cd.d k [] Tryz.func69 trivial trivial
def Ka.e (k:Nat):Ent:=⟨2,[(.val true t25),(.val true t25)],[(.one,.b)],λ x=>Ka x.1 x.2⟩
def Ka.d:Fd := { nt:=10,nv:=2,nm:=[0,1,2,3],res:=[4],cs:=λ k=>[(69,Cd.e k)] }
def Ka.s (k:Nat):CK 60 (Ka.e k):=mS Ka.d k [] Tryz.func60 ⟨Cd.s k,trivial⟩ trivial
def Bi.e (k:Nat):Ent:=⟨1,[(.val false t13)],[(.one,t14)],λ x=>Bi k x⟩
def Ci.p:LF:=⟨⟨[],[(0,t13),(3,t14),(4,(.i .i64))]⟩,[((.exit 0),⟨[],[(3,t14)]⟩)],λ k x=>Ci k x.1 x.2.1 x.2.2⟩
def Bi.d:Fd := { nt:=29,nv:=1,nm:=[0,1,3,4],res:=[2],ls:=[(3,Ci.p)] }
def Ci.s:LL Tryz.f231 Bi.d 3 Ci.p:=mL [] (λ _=>trivial) trivial
def Bi.s (k:Nat):CK 231 (Bi.e k):=mS Bi.d k [3] Tryz.func231 trivial ⟨Ci.s,trivial⟩
def Gy.e (k:Nat):Ent:=⟨1,[(.val false t13)],[(.one,t15)],λ x=>Gy k x⟩
def J6.p:LF:=⟨⟨[],[(0,t13),(3,t15),(4,(.i .i64))]⟩,[((.exit 0),⟨[],[(3,t15)]⟩)],λ k x=>J6 k x.1 x.2.1 x.2.2⟩
def Gy.d:Fd := { nt:=29,nv:=1,nm:=[0,1,3,4],res:=[2],ls:=[(3,J6.p)],hint:=[(5,t12),(26,t12),(27,t12)] }
def J6.s:LL Tryz.f231 Gy.d 3 J6.p:=mL [] (λ _=>trivial) trivial
def Gy.s (k:Nat):CK 231 (Gy.e k):=mS Gy.d k [3] Tryz.func231 trivial ⟨J6.s,trivial⟩
def A7.e (k:Nat):Ent:=⟨1,[(.val true t28)],[(.agg,t29)],λ x=>A7 k x⟩
def A7.d:Fd := { nt:=10,nv:=1,nm:=[0,1],res:=[],cs:=λ k=>[(231,Bi.e k)] }
def A7.s (k:Nat):CK 192 (A7.e k):=mS A7.d k [] Tryz.func192 ⟨Bi.s k,trivial⟩ trivial
def Kl.e (k:Nat):Ent:=⟨1,[(.val true t28)],[(.agg,t30)],λ x=>Kl k x⟩
def Kl.d:Fd := { nt:=10,nv:=1,nm:=[0,1],res:=[],cs:=λ k=>[(231,Gy.e k)] }
def Kl.s (k:Nat):CK 192 (Kl.e k):=mS Kl.d k [] Tryz.func192 ⟨Gy.s k,trivial⟩ trivial
def Jj.e (k:Nat):Ent:=⟨2,[(.val false t13),(.val false .s)],[(.one,t14)],λ x=>Jj k x.1 x.2⟩
def I1.p:LF:=⟨⟨[],[(0,t13),(1,.s),(5,t14),(6,(.i .i64))]⟩,[((.exit 0),⟨[],[(5,t14)]⟩)],λ k x=>I1 k x.1 x.2.1 x.2.2.1 x.2.2.2⟩
def Jj.d:Fd := { nt:=29,nv:=2,nm:=[0,1,2,3,5,6],res:=[4],ls:=[(3,I1.p)] }
def I1.s:LL Tryz.f195 Jj.d 3 I1.p:=mL [] (λ _=>trivial) trivial
def Jj.s (k:Nat):CK 195 (Jj.e k):=mS Jj.d k [3] Tryz.func195 trivial ⟨I1.s,trivial⟩
def G5.e (k:Nat):Ent:=⟨1,[(.val false t13)],[(.one,.b)],λ x=>G5 k x⟩
def Gr.p:LF:=⟨⟨[],[(0,t13),(3,(.i .i64))]⟩,[(.ret,⟨[],[(2,.b)]⟩),((.exit 0),⟨[],[(0,t13)]⟩)],λ k x=>Gr k x.1 x.2⟩
def G5.d:Fd := { nt:=47,nv:=1,nm:=[0,1,3],res:=[2],cs:=λ k=>[(67,Ap.e k)],ls:=[(2,Gr.p)] }
def G5.a (k:Nat):AC (G5.d.cs k):=⟨Ap.s k,trivial⟩
def Gr.s:LL Tryz.f225 G5.d 2 Gr.p:=mL [] G5.a trivial
def G5.s (k:Nat):CK 225 (G5.e k):=mS G5.d k [2] Tryz.func225 (G5.a k) ⟨Gr.s,trivial⟩
def Bp.e (k:Nat):Ent:=⟨1,[(.val true t28)],[(.one,.b)],λ x=>Bp k x⟩
def Bp.d:Fd := { nt:=11,nv:=1,nm:=[0,1],res:=[2],cs:=λ k=>[(225,G5.e k)] }
def Bp.s (k:Nat):CK 183 (Bp.e k):=mS Bp.d k [] Tryz.func183 ⟨G5.s k,trivial⟩ trivial
def El.e (k:Nat):Ent:=⟨3,[(.val true t28),(.val true t29),(.val false .s)],[(.agg,t29),(.one,.b)],λ x=>El k x.1 x.2.1 x.2.2⟩
def El.d:Fd := { nt:=24,nv:=3,nm:=[0,1,2,3,4,5],res:=[7],cs:=λ k=>[(67,Ap.e k),(183,Bp.e k),(192,A7.e k)],mv:=[23] }
def El.s (k:Nat):CK 196 (El.e k):=mS El.d k [] Tryz.func196 ⟨Ap.s k,Bp.s k,A7.s k,trivial⟩ trivial
def Fw.e (k:Nat):Ent:=⟨3,[(.val false t13),(.val false .s),(.val false t4)],[(.one,t14)],λ x=>Fw k x.1 x.2.1 x.2.2⟩
def Cp.p:LF:=⟨⟨[(9,(.bp 9 0 0)),(10999,(.hd 2))],[(0,t13),(1,.s),(7,t14),(8,.b),(10,(.i .i64)),(10000,.s),(10001,t4)]⟩,[((.exit 0),⟨[(9,(.bp 9 0 0)),(10999,(.hd 2))],[(7,t14),(8,.b),(10000,.s),(10001,t4)]⟩)],λ k x=>Cp k x.1 x.2.1 x.2.2.1 x.2.2.2.1 x.2.2.2.2.1 x.2.2.2.2.2.1 x.2.2.2.2.2.2⟩
def Fw.d:Fd := { nt:=59,nv:=3,nm:=[0,1,2,3,4,5,7,8,9,10],res:=[6],ls:=[(5,Cp.p)] }
def Cp.s:LL Tryz.f197 Fw.d 5 Cp.p:=mL [] (λ _=>trivial) trivial
def Fw.s (k:Nat):CK 197 (Fw.e k):=mS Fw.d k [5] Tryz.func197 trivial ⟨Cp.s,trivial⟩
def An.e (k:Nat):Ent:=⟨2,[(.val true t28),(.val false .s)],[(.agg,t29),(.one,.b)],λ x=>An k x.1 x.2⟩
def An.d:Fd := { nt:=35,nv:=2,nm:=[0,1,2,3,6,7,8],res:=[5],cs:=λ k=>[(116,Fs.e k),(192,A7.e k),(195,Jj.e k),(196,El.e k),(197,Fw.e k)] }
def An.s (k:Nat):CK 144 (An.e k):=mS An.d k [] Tryz.func144 ⟨Fs.s k,A7.s k,Jj.s k,El.s k,Fw.s k,trivial⟩ trivial
def Bh.e (k:Nat):Ent:=⟨3,[(.val true t28),(.val false .s),(.val false t4)],[(.agg,t29),(.one,.b)],λ x=>Bh k x.1 x.2.1 x.2.2⟩
def Bh.d:Fd := { nt:=23,nv:=3,nm:=[0,1,2,3,4,5,8],res:=[7],cs:=λ k=>[(192,A7.e k),(196,El.e k),(197,Fw.e k)] }
def Bh.s (k:Nat):CK 194 (Bh.e k):=mS Bh.d k [] Tryz.func194 ⟨A7.s k,El.s k,Fw.s k,trivial⟩ trivial
def Kj.e (k:Nat):Ent:=⟨4,[(.val true t28),(.val false .s),(.val true t25),(.val false .b)],[(.agg,t29),(.one,(.i .i64))],λ x=>Kj k x.1 x.2.1 x.2.2.1 x.2.2.2⟩
def Kj.d:Fd := { nt:=82,nv:=4,nm:=[0,1,2,3,4,5,6,7,10,11,12,13,14,15],res:=[9],cs:=λ k=>[(59,G4.e k),(60,Ka.e k),(67,Ap.e k),(68,C5.e k),(144,An.e k),(175,Bn.e k),(183,Bp.e k),(192,A7.e k),(194,Bh.e k)],mv:=[58,81] }
def Kj.s (k:Nat):CK 142 (Kj.e k):=mS Kj.d k [] Tryz.func142 ⟨G4.s k,Ka.s k,Ap.s k,C5.s k,An.s k,Bn.s k,Bp.s k,A7.s k,Bh.s k,trivial⟩ trivial
def J7.e (k:Nat):Ent:=⟨2,[(.val false .s),(.val true t25)],[(.agg,t27)],λ x=>J7 x.1 x.2⟩
def J7.d:Fd := { nt:=14,nv:=2,nm:=[0,1,2,3],res:=[] }
def J7.s (k:Nat):CK 257 (J7.e k):=mS J7.d k [] Tryz.func257 trivial trivial
def Ky.e (k:Nat):Ent:=⟨4,[(.ptr t40 t40),(.val false .s),(.val true t25),(.val false .b)],[(.one,(.i .i64))],λ x=>Ky k x.1 x.2.1 x.2.2.1 x.2.2.2⟩
def Ky.d:Fd := { nt:=52,nv:=4,nm:=[0,1,2,3,4,5,6,7,9,10],res:=[8],cs:=λ k=>[(142,Kj.e k),(257,J7.e k)] }
def Ky.s (k:Nat):CK 236 (Ky.e k):=mS Ky.d k [] Tryz.func236 ⟨Kj.s k,J7.s k,trivial⟩ trivial
def Iu.e (k:Nat):Ent:=⟨4,[(.ptr t41 t42),(.val false .s),(.val true t25),(.val false .b)],[(.one,(.i .i64))],λ x=>Iu k x.1 x.2.1 x.2.2.1 x.2.2.2⟩
def Iu.d:Fd := { nt:=52,nv:=4,nm:=[0,1,2,3,4,5,6,7,9,10],res:=[8],cs:=λ k=>[(142,Kj.e k),(257,J7.e k)] }
def Iu.s (k:Nat):CK 236 (Iu.e k):=mS Iu.d k [] Tryz.func236 ⟨Kj.s k,J7.s k,trivial⟩ trivial
def Kz.e (k:Nat):Ent:=⟨1,[(.val false (.i .i64))],[(.one,(.i .i64))],λ x=>Kz x⟩
def Kz.d:Fd := { nt:=6,nv:=1,nm:=[0,1],res:=[2],rf:=true }
def Kz.s (k:Nat):CK 237 (Kz.e k):=mS Kz.d k [] Tryz.func237 trivial trivial
def C7.e (k:Nat):Ent:=⟨4,[(.ptr t51 t51),(.val false .s),(.val true t25),(.val false t6)],[(.one,(.i .i64))],λ x=>C7 k x.1 x.2.1 x.2.2.1 x.2.2.2⟩
def B8.p:LF:=⟨⟨[(0,(.bp 0 0 0)),(6,(.bp 6 0 0)),(1999,(.hd 9)),(7999,(.hd 5))],[(1,.s),(3,t6),(9,t7),(10,(.i .i64)),(11,(.i .i64)),(12,(.i .i64)),(1000,t51),(7000,t25)]⟩,[((.exit 0),⟨[(0,(.bp 0 0 0)),(6,(.bp 6 0 0)),(1999,(.hd 9)),(7999,(.hd 5))],[(1,.s),(11,(.i .i64)),(1000,t51),(7000,t25)]⟩)],λ k x=>B8 k x.1 x.2.1 x.2.2.1 x.2.2.2.1 x.2.2.2.2.1 x.2.2.2.2.2.1 x.2.2.2.2.2.2.1 x.2.2.2.2.2.2.2⟩
def C7.d:Fd := { nt:=92,nv:=4,nm:=[0,1,2,3,4,5,6,7,9,10,11,12,13,14,15],res:=[8],cs:=λ k=>[(138,Bs.e k),(141,C9.e k),(235,Ew.e k),(236,Ky.e k),(237,Kz.e k)],ls:=[(5,B8.p)],gh:=[(1000006,[.cl 1003])],opn:=[51],rf:=true }
def C7.a (k:Nat):AC (C7.d.cs k):=⟨Bs.s k,C9.s k,Ew.s k,Ky.s k,Kz.s k,trivial⟩
def B8.s:LL Tryz.f206 C7.d 5 B8.p:=mL [] C7.a trivial
def C7.s (k:Nat):CK 206 (C7.e k):=mS C7.d k [5] Tryz.func206 (C7.a k) ⟨B8.s,trivial⟩
def I2.e (k:Nat):Ent:=⟨5,[(.ptr t51 t51),(.val false .s),(.val true t25),(.val false (.i .i64)),(.val false t6)],[(.one,(.i .i64))],λ x=>I2 k x.1 x.2.1 x.2.2.1 x.2.2.2.1 x.2.2.2.2⟩
def I2.d:Fd := { nt:=57,nv:=5,nm:=[0,1,2,3,4,5,6,7,8,9],res:=[10],cs:=λ k=>[(67,Ap.e k),(72,A9.e k),(205,Hi.e k),(206,C7.e k)],rf:=true }
def I2.s (k:Nat):CK 160 (I2.e k):=mS I2.d k [] Tryz.func160 ⟨Ap.s k,A9.s k,Hi.s k,C7.s k,trivial⟩ trivial
def Bj.e (k:Nat):Ent:=⟨2,[(.val true t28),(.val false .s)],[(.agg,t29),(.one,.b)],λ x=>Bj k x.1 x.2⟩
def Bj.d:Fd := { nt:=26,nv:=2,nm:=[0,1,2,3,6],res:=[5],cs:=λ k=>[(129,Dg.e k),(192,A7.e k),(195,Jj.e k),(196,El.e k)],mv:=[14] }
def Bj.s (k:Nat):CK 143 (Bj.e k):=mS Bj.d k [] Tryz.func143 ⟨Dg.s k,A7.s k,Jj.s k,El.s k,trivial⟩ trivial
def Cu.e (k:Nat):Ent:=⟨4,[(.ptr t51 t51),(.val false (.i .i64)),(.val false .s),(.val false t6)],[(.one,.b)],λ x=>Cu k x.1 x.2.1 x.2.2.1 x.2.2.2⟩
def Bq.p:LF:=⟨⟨[(0,(.bp 0 0 0)),(9,(.bp 9 0 0)),(1999,(.hd 9)),(10999,(.hd 5))],[(1,(.i .i64)),(2,.s),(3,t6),(11,t7),(12,.b),(13,.b),(14,(.i .i64)),(1000,t51),(10000,t25)]⟩,[((.exit 0),⟨[(0,(.bp 0 0 0)),(1999,(.hd 9))],[(1,(.i .i64)),(2,.s),(12,.b),(13,.b),(1000,t51)]⟩)],λ k x=>Bq k x.1 x.2.1 x.2.2.1 x.2.2.2.1 x.2.2.2.2.1 x.2.2.2.2.2.1 x.2.2.2.2.2.2.1 x.2.2.2.2.2.2.2.1 x.2.2.2.2.2.2.2.2⟩
def Cu.d:Fd := { nt:=125,nv:=4,nm:=[0,1,2,3,4,5,6,7,9,10,11,12,13,14,15,16,17,18],res:=[8],cs:=λ k=>[(59,G4.e k),(139,Bf.e k),(140,Bg.e k),(141,C9.e k),(142,Kj.e k),(143,Bj.e k),(144,An.e k)],ls:=[(8,Bq.p)],rf:=true }
def Cu.a (k:Nat):AC (Cu.d.cs k):=⟨G4.s k,Bf.s k,Bg.s k,C9.s k,Kj.s k,Bj.s k,An.s k,trivial⟩
def Bq.s:LL Tryz.f81 Cu.d 8 Bq.p:=mL [] Cu.a trivial
def Cu.s (k:Nat):CK 81 (Cu.e k):=mS Cu.d k [8] Tryz.func81 (Cu.a k) ⟨Bq.s,trivial⟩
def H9.e (k:Nat):Ent:=⟨1,[(.val true t48)],[(.one,t7)],λ x=>H9 k x⟩
def H9.d:Fd := { nt:=8,nv:=1,nm:=[0,1],res:=[2],cs:=λ k=>[(139,Bf.e k),(140,Bg.e k)],rf:=true }
def H9.s (k:Nat):CK 200 (H9.e k):=mS H9.d k [] Tryz.func200 ⟨Bf.s k,Bg.s k,trivial⟩ trivial
def Jx.e (k:Nat):Ent:=⟨2,[(.val true t27),(.val true t27)],[(.one,.b)],λ x=>Jx x.1 x.2⟩
def Jx.d:Fd := { nt:=29,nv:=2,nm:=[0,1,2,3],res:=[4],cs:=λ k=>[(69,Cd.e k)] }
def Jx.s (k:Nat):CK 260 (Jx.e k):=mS Jx.d k [] Tryz.func260 ⟨Cd.s k,trivial⟩ trivial
def Bt.e (k:Nat):Ent:=⟨2,[(.val false t31),(.val true t27)],[(.one,t32)],λ x=>Bt k x.1 x.2⟩
def Dw.p:LF:=⟨⟨[(3,(.bp 3 0 0)),(4999,(.hd 6))],[(5,t32),(7,(.i .i64)),(4000,.s),(4001,(.i .i64)),(4002,(.i .i64)),(4003,(.i .i64)),(4004,.b),(4005,(.i .i64))]⟩,[((.exit 2),⟨[(3,(.bp 3 0 0)),(4999,(.hd 6))],[(5,t32),(7,(.i .i64)),(4000,.s),(4001,(.i .i64)),(4002,(.i .i64)),(4003,(.i .i64)),(4004,.b),(4005,(.i .i64))]⟩)],λ k x=>Dw k x.1 x.2.1 x.2.2.1 x.2.2.2.1 x.2.2.2.2.1 x.2.2.2.2.2.1 x.2.2.2.2.2.2.1 x.2.2.2.2.2.2.2⟩
def Ey.p:LF:=⟨⟨[(3,(.bp 3 0 0)),(4999,(.hd 6))],[(5,t32),(6,(.i .i64)),(4000,.s),(4001,(.i .i64)),(4002,(.i .i64)),(4003,(.i .i64)),(4004,.b),(4005,(.i .i64))]⟩,[(.ret,⟨[],[(4,t32)]⟩),((.exit 0),⟨[(3,(.bp 3 0 0)),(4999,(.hd 6))],[(5,t32),(4000,.s),(4001,(.i .i64)),(4002,(.i .i64)),(4003,(.i .i64)),(4004,.b),(4005,(.i .i64))]⟩)],λ k x=>Ey k x.1 x.2.1 x.2.2.1 x.2.2.2.1 x.2.2.2.2.1 x.2.2.2.2.2.1 x.2.2.2.2.2.2.1 x.2.2.2.2.2.2.2⟩
def Bt.d:Fd := { nt:=70,nv:=2,nm:=[0,1,2,3,5,6,7],res:=[4],cs:=λ k=>[(260,Jx.e k)],ls:=[(11,Dw.p),(3,Ey.p)] }
def Bt.a (k:Nat):AC (Bt.d.cs k):=⟨Jx.s k,trivial⟩
def Dw.s:LL Tryz.f253 Bt.d 11 Dw.p:=mL [] Bt.a trivial
def Ey.s:LL Tryz.f253 Bt.d 3 Ey.p:=mL [] Bt.a trivial
def Bt.s (k:Nat):CK 253 (Bt.e k):=mS Bt.d k [3,11] Tryz.func253 (Bt.a k) ⟨Ey.s,Dw.s,trivial⟩
def C2.e (k:Nat):Ent:=⟨2,[(.val false t31),(.val false t31)],[(.one,t32)],λ x=>C2 k x.1 x.2⟩
def Dx.p:LF:=⟨⟨[],[(1,t31),(5,t32),(6,(.i .i64))]⟩,[((.exit 0),⟨[],[(5,t32)]⟩)],λ k x=>Dx k x.1 x.2.1 x.2.2⟩
def C2.d:Fd := { nt:=23,nv:=2,nm:=[0,1,2,3,5,6],res:=[4],cs:=λ k=>[(253,Bt.e k)],ls:=[(3,Dx.p)] }
def C2.a (k:Nat):AC (C2.d.cs k):=⟨Bt.s k,trivial⟩
def Dx.s:LL Tryz.f233 C2.d 3 Dx.p:=mL [] C2.a trivial
def C2.s (k:Nat):CK 233 (C2.e k):=mS C2.d k [3] Tryz.func233 (C2.a k) ⟨Dx.s,trivial⟩
def Ii.e (k:Nat):Ent:=⟨2,[(.ptr t40 t40),(.val false t31)],[(.one,.b)],λ x=>Ii k x.1 x.2⟩
def Ii.d:Fd := { nt:=19,nv:=2,nm:=[0,1,2,3,5],res:=[4],cs:=λ k=>[(233,C2.e k)] }
def Ii.s (k:Nat):CK 201 (Ii.e k):=mS Ii.d k [] Tryz.func201 ⟨C2.s k,trivial⟩ trivial
def Hj.e (k:Nat):Ent:=⟨2,[(.ptr t41 t43),(.val false t31)],[(.one,.b)],λ x=>Hj k x.1 x.2⟩
def Hj.d:Fd := { nt:=19,nv:=2,nm:=[0,1,2,3,5],res:=[4],cs:=λ k=>[(233,C2.e k)] }
def Hj.s (k:Nat):CK 201 (Hj.e k):=mS Hj.d k [] Tryz.func201 ⟨C2.s k,trivial⟩ trivial
def Bu.e (k:Nat):Ent:=⟨5,[(.ptr t51 t51),(.val false (.i .i64)),(.val false t31),(.val false .b),(.val false t6)],[(.one,.b)],λ x=>Bu k x.1 x.2.1 x.2.2.1 x.2.2.2.1 x.2.2.2.2⟩
def Am.p:LF:=⟨⟨[(0,(.bp 0 0 0)),(1999,(.hd 9))],[(1,(.i .i64)),(2,t31),(3,.b),(4,t6),(11,t7),(12,.b),(13,(.i .i64)),(1000,t51)]⟩,[((.exit 0),⟨[(1999,(.hd 9))],[(12,.b),(1000,t51)]⟩)],λ k x=>Am k x.1 x.2.1 x.2.2.1 x.2.2.2.1 x.2.2.2.2.1 x.2.2.2.2.2.1 x.2.2.2.2.2.2.1 x.2.2.2.2.2.2.2⟩
def Bu.d:Fd := { nt:=53,nv:=5,nm:=[0,1,2,3,4,5,6,7,8,9,11,12,13],res:=[10],cs:=λ k=>[(141,C9.e k),(200,H9.e k),(201,Ii.e k)],ls:=[(4,Am.p)],gh:=[(1000005,[.cl 1003])],opn:=[47],rf:=true }
def Bu.a (k:Nat):AC (Bu.d.cs k):=⟨C9.s k,H9.s k,Ii.s k,trivial⟩
def Am.s:LL Tryz.f154 Bu.d 4 Am.p:=mL [] Bu.a trivial
def Bu.s (k:Nat):CK 154 (Bu.e k):=mS Bu.d k [4] Tryz.func154 (Bu.a k) ⟨Am.s,trivial⟩
def Hk.e (k:Nat):Ent:=⟨3,[(.ptr t51 t51),(.val false (.i .i64)),(.val false t6)],[(.one,.b)],λ x=>Hk k x.1 x.2.1 x.2.2⟩
def Hk.d:Fd := { nt:=36,nv:=3,nm:=[0,1,2,3,4,5,7],res:=[6],cs:=λ k=>[(154,Bu.e k)],rf:=true }
def Hk.s (k:Nat):CK 91 (Hk.e k):=mS Hk.d k [] Tryz.func91 ⟨Bu.s k,trivial⟩ trivial
def Jn.e (k:Nat):Ent:=⟨2,[(.val true t48),(.val false (.i .i64))],[(.one,.b)],λ x=>Jn k x.1 x.2⟩
def Jn.d:Fd := { nt:=9,nv:=2,nm:=[0,1,2,3],res:=[4],cs:=λ k=>[(181,Cs.e k),(200,H9.e k)],rf:=true }
def Jn.s (k:Nat):CK 155 (Jn.e k):=mS Jn.d k [] Tryz.func155 ⟨Cs.s k,H9.s k,trivial⟩ trivial
def Hl.e (k:Nat):Ent:=⟨3,[(.ptr t51 t51),(.val false (.i .i64)),(.val false t6)],[(.one,.b)],λ x=>Hl k x.1 x.2.1 x.2.2⟩
def Hl.d:Fd := { nt:=47,nv:=3,nm:=[0,1,2,3,4,5,7],res:=[6],cs:=λ k=>[(154,Bu.e k),(155,Jn.e k)],rf:=true }
def Hl.s (k:Nat):CK 93 (Hl.e k):=mS Hl.d k [] Tryz.func93 ⟨Bu.s k,Jn.s k,trivial⟩ trivial
def J8.e (k:Nat):Ent:=⟨1,[(.val true t28)],[(.agg,t29),(.one,(.i .i64))],λ x=>J8 k x⟩
def I3.p:LF:=⟨⟨[(1,(.bp 1 0 0)),(2,(.bp 2 0 0)),(4,(.bp 4 0 0)),(2999,(.hd 2)),(3999,(.hd 2)),(5999,(.hd 2))],[(5,(.i .i64)),(6,(.i .i64)),(2000,t28),(3000,t29),(5000,t29)]⟩,[((.exit 0),⟨[(2,(.bp 2 0 0)),(4,(.bp 4 0 0)),(3999,(.hd 2)),(5999,(.hd 2))],[(5,(.i .i64)),(3000,t29),(5000,t29)]⟩)],λ k x=>I3 k x.1 x.2.1 x.2.2.1 x.2.2.2.1 x.2.2.2.2⟩
def J8.d:Fd := { nt:=53,nv:=1,nm:=[0,1,4,5,6,7,8,9],res:=[3],cs:=λ k=>[(59,G4.e k),(143,Bj.e k),(144,An.e k),(183,Bp.e k),(192,A7.e k)],ls:=[(4,I3.p)],mv:=[51],rf:=true }
def J8.a (k:Nat):AC (J8.d.cs k):=⟨G4.s k,Bj.s k,An.s k,Bp.s k,A7.s k,trivial⟩
def I3.s:LL Tryz.f207 J8.d 4 I3.p:=mL [] J8.a trivial
def J8.s (k:Nat):CK 207 (J8.e k):=mS J8.d k [4] Tryz.func207 (J8.a k) ⟨I3.s,trivial⟩
def Ct.e (k:Nat):Ent:=⟨2,[(.val false t13),(.val false t13)],[(.one,t2)],λ x=>Ct k x.1 x.2⟩
def Ez.p:LF:=⟨⟨[],[(5,t14),(8,t2),(9,(.i .i64))]⟩,[((.exit 4),⟨[],[(8,t2)]⟩)],λ k x=>Ez k x.1 x.2.1 x.2.2⟩
def G6.p:LF:=⟨⟨[],[(1,t13),(5,t14),(7,(.i .i64))]⟩,[((.exit 2),⟨[],[(5,t14)]⟩)],λ k x=>G6 k x.1 x.2.1 x.2.2⟩
def G7.p:LF:=⟨⟨[],[(0,t13),(1,t13),(5,t14),(6,(.i .i64))]⟩,[((.exit 0),⟨[],[(1,t13),(5,t14)]⟩)],λ k x=>G7 k x.1 x.2.1 x.2.2.1 x.2.2.2⟩
def Ct.d:Fd := { nt:=55,nv:=2,nm:=[0,1,2,3,5,6,7,8,9],res:=[4],cs:=λ k=>[(197,Fw.e k)],ls:=[(12,Ez.p),(7,G6.p),(3,G7.p)],rf:=true }
def Ct.a (k:Nat):AC (Ct.d.cs k):=⟨Fw.s k,trivial⟩
def Ez.s:LL Tryz.f238 Ct.d 12 Ez.p:=mL [] Ct.a trivial
def G6.s:LL Tryz.f238 Ct.d 7 G6.p:=mL [] Ct.a trivial
def G7.s:LL Tryz.f238 Ct.d 3 G7.p:=mL [] Ct.a trivial
def Ct.s (k:Nat):CK 238 (Ct.e k):=mS Ct.d k [3,7,12] Tryz.func238 (Ct.a k) ⟨G7.s,G6.s,Ez.s,trivial⟩
def Dk.e (k:Nat):Ent:=⟨2,[(.val true t28),(.val false t1)],[(.agg,t29)],λ x=>Dk k x.1 x.2⟩
def Aw.p:LF:=⟨⟨[(2,(.bp 2 0 0)),(4,(.bp 4 0 0)),(3999,(.hd 2)),(5999,(.hd 2))],[(1,t1),(5,t2),(6,t14),(7,(.i .i64)),(3000,t28),(5000,t29)]⟩,[((.exit 0),⟨[(2,(.bp 2 0 0)),(4,(.bp 4 0 0)),(3999,(.hd 2)),(5999,(.hd 2))],[(6,t14),(3000,t28),(5000,t29)]⟩)],λ k x=>Aw k x.1 x.2.1 x.2.2.1 x.2.2.2.1 x.2.2.2.2.1 x.2.2.2.2.2⟩
def Dk.d:Fd := { nt:=66,nv:=2,nm:=[0,1,2,3,5,6,7,8,9],res:=[],cs:=λ k=>[(129,Dg.e k),(183,Bp.e k),(192,A7.e k),(231,Bi.e k),(238,Ct.e k)],ls:=[(6,Aw.p)],rf:=true }
def Dk.a (k:Nat):AC (Dk.d.cs k):=⟨Dg.s k,Bp.s k,A7.s k,Bi.s k,Ct.s k,trivial⟩
def Aw.s:LL Tryz.f208 Dk.d 6 Aw.p:=mL [] Dk.a trivial
def Dk.s (k:Nat):CK 208 (Dk.e k):=mS Dk.d k [6] Tryz.func208 (Dk.a k) ⟨Aw.s,trivial⟩
def Iv.e (k:Nat):Ent:=⟨1,[(.val true t27)],[(.one,.b)],λ x=>Iv k x⟩
def Iv.d:Fd := { nt:=26,nv:=1,nm:=[0,1],res:=[2],cs:=λ k=>[(66,Cc.e k),(67,Ap.e k),(72,A9.e k)] }
def Iv.s (k:Nat):CK 182 (Iv.e k):=mS Iv.d k [] Tryz.func182 ⟨Cc.s k,Ap.s k,A9.s k,trivial⟩ trivial
def Em.e (k:Nat):Ent:=⟨1,[(.val false t31)],[(.one,.b)],λ x=>Em k x⟩
def Gt.p:LF:=⟨⟨[],[(0,t31),(3,(.i .i64))]⟩,[(.ret,⟨[],[(2,.b)]⟩),((.exit 0),⟨[],[(0,t31)]⟩)],λ k x=>Gt k x.1 x.2⟩
def Em.d:Fd := { nt:=37,nv:=1,nm:=[0,1,3],res:=[2],cs:=λ k=>[(182,Iv.e k)],ls:=[(2,Gt.p)] }
def Em.a (k:Nat):AC (Em.d.cs k):=⟨Iv.s k,trivial⟩
def Gt.s:LL Tryz.f184 Em.d 2 Gt.p:=mL [] Em.a trivial
def Em.s (k:Nat):CK 184 (Em.e k):=mS Em.d k [2] Tryz.func184 (Em.a k) ⟨Gt.s,trivial⟩
def C6.e (k:Nat):Ent:=⟨1,[(.val true t40)],[(.one,.b)],λ x=>C6 k x⟩
def Hm.p:LF:=⟨⟨[(1,(.bp 1 0 0)),(2999,(.hd 5))],[(3,(.i .i64)),(2000,(.i .i64)),(2001,t13),(2002,t13),(2003,t31),(2004,t31)]⟩,[(.ret,⟨[],[(2,.b)]⟩),((.exit 0),⟨[(1,(.bp 1 0 0)),(2999,(.hd 5))],[(2000,(.i .i64)),(2001,t13),(2002,t13),(2003,t31),(2004,t31)]⟩)],λ k x=>Hm k x.1 x.2.1 x.2.2.1 x.2.2.2.1 x.2.2.2.2.1 x.2.2.2.2.2⟩
def C6.d:Fd := { nt:=37,nv:=1,nm:=[0,1,3],res:=[2],cs:=λ k=>[(72,A9.e k),(182,Iv.e k),(183,Bp.e k),(184,Em.e k)],ls:=[(2,Hm.p)] }
def C6.a (k:Nat):AC (C6.d.cs k):=⟨A9.s k,Iv.s k,Bp.s k,Em.s k,trivial⟩
def Hm.s:LL Tryz.f125 C6.d 2 Hm.p:=mL [] C6.a trivial
def C6.s (k:Nat):CK 125 (C6.e k):=mS C6.d k [2] Tryz.func125 (C6.a k) ⟨Hm.s,trivial⟩
def Bo.e (k:Nat):Ent:=⟨1,[(.val true t40)],[(.agg,t41)],λ x=>Bo k x⟩
def Bo.d:Fd := { nt:=17,nv:=1,nm:=[0,1],res:=[],cs:=λ k=>[(192,A7.e k)] }
def Bo.s (k:Nat):CK 137 (Bo.e k):=mS Bo.d k [] Tryz.func137 ⟨A7.s k,trivial⟩ trivial
def L5.e (k:Nat):Ent:=⟨3,[(.val true t28),(.val false .s),(.val false (.i .i64))],[(.agg,t30),(.one,.b)],λ x=>L5 k x.1 x.2.1 x.2.2⟩
def L5.d:Fd := { nt:=97,nv:=3,nm:=[0,1,2,3,4,5,8,9,10,11],res:=[7],cs:=λ k=>[(72,A9.e k),(129,Dg.e k),(183,Bp.e k),(192,Kl.e k)],mv:=[39,96] }
def L5.s (k:Nat):CK 239 (L5.e k):=mS L5.d k [] Tryz.func239 ⟨A9.s k,Dg.s k,Bp.s k,Kl.s k,trivial⟩ trivial
def Fi.e (k:Nat):Ent:=⟨3,[(.val true t40),(.val false .s),(.val false (.i .i64))],[(.agg,t42),(.one,.b)],λ x=>Fi k x.1 x.2.1 x.2.2⟩
def Fi.d:Fd := { nt:=44,nv:=3,nm:=[0,1,2,3,4,5,8,9,10,11,12],res:=[7],cs:=λ k=>[(59,G4.e k),(125,C6.e k),(137,Bo.e k),(239,L5.e k)],mv:=[29,40,43] }
def Fi.s (k:Nat):CK 209 (Fi.e k):=mS Fi.d k [] Tryz.func209 ⟨G4.s k,C6.s k,Bo.s k,L5.s k,trivial⟩ trivial
def Ib.e (k:Nat):Ent:=⟨2,[(.val false t0),(.val false .s)],[(.one,.b)],λ x=>Ib k x.1 x.2⟩
def Hn.p:LF:=⟨⟨[],[(0,t0),(1,.s),(5,(.i .i64))]⟩,[(.ret,⟨[],[(4,.b)]⟩),((.exit 0),⟨[],[]⟩)],λ k x=>Hn k x.1 x.2.1 x.2.2⟩
def Ib.d:Fd := { nt:=18,nv:=2,nm:=[0,1,2,3,5],res:=[4],ls:=[(2,Hn.p)],rf:=true }
def Hn.s:LL Tryz.f128 Ib.d 2 Hn.p:=mL [] (λ _=>trivial) trivial
def Ib.s (k:Nat):CK 128 (Ib.e k):=mS Ib.d k [2] Tryz.func128 trivial ⟨Hn.s,trivial⟩
def Dl.e (k:Nat):Ent:=⟨2,[(.val false t0),(.val false .s)],[(.one,t0)],λ x=>Dl k x.1 x.2⟩
def F3.p:LF:=⟨⟨[],[(1,.s),(5,t2),(6,(.i .i64))]⟩,[((.exit 0),⟨[],[(1,.s),(5,t2),(6,(.i .i64))]⟩)],λ k x=>F3 k x.1 x.2.1 x.2.2⟩
def Dl.d:Fd := { nt:=46,nv:=2,nm:=[0,1,2,3,5,6],res:=[4],cs:=λ k=>[(128,Ib.e k)],ls:=[(5,F3.p)],rf:=true }
def Dl.a (k:Nat):AC (Dl.d.cs k):=⟨Ib.s k,trivial⟩
def F3.s:LL Tryz.f210 Dl.d 5 F3.p:=mL [] Dl.a trivial
def Dl.s (k:Nat):CK 210 (Dl.e k):=mS Dl.d k [5] Tryz.func210 (Dl.a k) ⟨F3.s,trivial⟩
def B3.e (k:Nat):Ent:=⟨2,[(.ptr t51 t51),(.val true t34)],[(.one,.b)],λ x=>B3 k x.1 x.2⟩
def Da.p:LF:=⟨⟨[(0,(.bp 0 0 0)),(3,(.bp 3 0 0)),(1999,(.hd 9)),(4999,(.hd 6))],[(5,t3),(6,(.i .i64)),(1000,t51),(4000,t34)]⟩,[((.exit 1),⟨[(0,(.bp 0 0 0)),(3,(.bp 3 0 0)),(1999,(.hd 9)),(4999,(.hd 6))],[(5,t3),(1000,t51),(4000,t34)]⟩)],λ k x=>Da k x.1 x.2.1 x.2.2.1 x.2.2.2⟩
def B3.d:Fd := { nt:=134,nv:=2,nm:=[0,1,2,3,5,6,7,8],res:=[4],cs:=λ k=>[(81,Cu.e k),(91,Hk.e k),(93,Hl.e k),(207,J8.e k),(208,Dk.e k),(209,Fi.e k),(210,Dl.e k)],ls:=[(14,Da.p)],rf:=true }
def B3.a (k:Nat):AC (B3.d.cs k):=⟨Cu.s k,Hk.s k,Hl.s k,J8.s k,Dk.s k,Fi.s k,Dl.s k,trivial⟩
def Da.s:LL Tryz.f161 B3.d 14 Da.p:=mL [] B3.a trivial
def B3.s (k:Nat):CK 161 (B3.e k):=mS B3.d k [14] Tryz.func161 (B3.a k) ⟨Da.s,trivial⟩
def Jk.e (k:Nat):Ent:=⟨1,[(.val true t17)],[(.agg,t19)],λ x=>Jk k x⟩
def Gu.p:LF:=⟨⟨[(1,(.bp 1 0 0)),(2,(.bp 2 0 0)),(3,(.bp 3 0 0)),(2999,(.hd 2)),(3999,(.hd 2)),(4999,(.hd 2))],[(4,(.i .i64)),(2000,t17),(3000,t19),(4000,t19)]⟩,[((.exit 0),⟨[(2,(.bp 2 0 0)),(3,(.bp 3 0 0)),(3999,(.hd 2)),(4999,(.hd 2))],[(3000,t19),(4000,t19)]⟩)],λ k x=>Gu k x.1 x.2.1 x.2.2.1 x.2.2.2⟩
def Jk.d:Fd := { nt:=30,nv:=1,nm:=[0,1,3,4],res:=[],ls:=[(3,Gu.p)],mv:=[29],rf:=true }
def Gu.s:LL Tryz.f136 Jk.d 3 Gu.p:=mL [] (λ _=>trivial) trivial
def Jk.s (k:Nat):CK 136 (Jk.e k):=mS Jk.d k [3] Tryz.func136 trivial ⟨Gu.s,trivial⟩
def Jo.e (k:Nat):Ent:=⟨1,[(.val true t17)],[(.agg,t18)],λ x=>Jo k x⟩
def Le.p:LF:=⟨⟨[(1,(.bp 1 0 0)),(2,(.bp 2 0 0)),(3,(.bp 3 0 0)),(2999,(.hd 2)),(3999,(.hd 2)),(4999,(.hd 2))],[(4,(.i .i64)),(2000,t17),(3000,t19),(4000,t18)]⟩,[((.exit 0),⟨[(2,(.bp 2 0 0)),(3,(.bp 3 0 0)),(3999,(.hd 2)),(4999,(.hd 2))],[(3000,t19),(4000,t18)]⟩)],λ k x=>Le k x.1 x.2.1 x.2.2.1 x.2.2.2⟩
def Jo.d:Fd := { nt:=30,nv:=1,nm:=[0,1,3,4],res:=[],ls:=[(3,Le.p)],hint:=[(26,t7),(27,t7)],mv:=[29],rf:=true }
def Le.s:LL Tryz.f136 Jo.d 3 Le.p:=mL [] (λ _=>trivial) trivial
def Jo.s (k:Nat):CK 136 (Jo.e k):=mS Jo.d k [3] Tryz.func136 trivial ⟨Le.s,trivial⟩
def Eo.e (k:Nat):Ent:=⟨2,[(.val true t6),(.val false (.i .i64))],[(.one,.b)],λ x=>Eo k x.1 x.2⟩
def Ho.p:LF:=⟨⟨[(2,(.bp 2 0 0)),(3999,(.hd 1))],[(1,(.i .i64)),(5,(.i .i64)),(3000,t6)]⟩,[(.ret,⟨[],[(4,.b)]⟩),((.exit 0),⟨[(2,(.bp 2 0 0)),(3999,(.hd 1))],[(1,(.i .i64)),(3000,t6)]⟩)],λ k x=>Ho k x.1 x.2.1 x.2.2⟩
def Eo.d:Fd := { nt:=28,nv:=2,nm:=[0,1,2,3,5],res:=[4],cs:=λ k=>[(181,Cs.e k)],ls:=[(2,Ho.p)],rf:=true }
def Eo.a (k:Nat):AC (Eo.d.cs k):=⟨Cs.s k,trivial⟩
def Ho.s:LL Tryz.f123 Eo.d 2 Ho.p:=mL [] Eo.a trivial
def Eo.s (k:Nat):CK 123 (Eo.e k):=mS Eo.d k [2] Tryz.func123 (Eo.a k) ⟨Ho.s,trivial⟩
def Kk.e (k:Nat):Ent:=⟨2,[(.val true t17),(.val false t22)],[(.one,.b)],λ x=>Kk k x.1 x.2⟩
def Jy.p:LF:=⟨⟨[(2,(.bp 2 0 0)),(3999,(.hd 2))],[(5,(.i .i64)),(3000,t17)]⟩,[(.ret,⟨[],[(4,.b)]⟩),((.exit 0),⟨[],[]⟩)],λ k x=>Jy k x.1 x.2⟩
def Kk.d:Fd := { nt:=45,nv:=2,nm:=[0,1,2,3,5],res:=[4],cs:=λ k=>[(72,A9.e k),(122,C4.e k),(123,Eo.e k)],ls:=[(4,Jy.p)],rf:=true }
def Kk.a (k:Nat):AC (Kk.d.cs k):=⟨A9.s k,C4.s k,Eo.s k,trivial⟩
def Jy.s:LL Tryz.f240 Kk.d 4 Jy.p:=mL [] Kk.a trivial
def Kk.s (k:Nat):CK 240 (Kk.e k):=mS Kk.d k [4] Tryz.func240 (Kk.a k) ⟨Jy.s,trivial⟩
def H4.e (k:Nat):Ent:=⟨2,[(.val true t6),(.val false t22)],[(.one,(.i .i64))],λ x=>H4 k x.1 x.2⟩
def Hp.p:LF:=⟨⟨[(2,(.bp 2 0 0)),(3999,(.hd 1))],[(1,t22),(5,(.i .i64)),(3000,t6)]⟩,[(.ret,⟨[],[(4,(.i .i64))]⟩),((.exit 0),⟨[],[]⟩)],λ k x=>Hp k x.1 x.2.1 x.2.2⟩
def H4.d:Fd := { nt:=28,nv:=2,nm:=[0,1,2,3,5,6,7],res:=[4],cs:=λ k=>[(124,Ek.e k)],ls:=[(2,Hp.p)],rf:=true }
def H4.a (k:Nat):AC (H4.d.cs k):=⟨Ek.s k,trivial⟩
def Hp.s:LL Tryz.f241 H4.d 2 Hp.p:=mL [] H4.a trivial
def H4.s (k:Nat):CK 241 (H4.e k):=mS H4.d k [2] Tryz.func241 (H4.a k) ⟨Hp.s,trivial⟩
def Fj.e (k:Nat):Ent:=⟨4,[(.val true t17),(.val true t6),(.val false t22),(.val false (.i .i64))],[(.one,(.i .i64))],λ x=>Fj k x.1 x.2.1 x.2.2.1 x.2.2.2⟩
def Ck.p:LF:=⟨⟨[(4,(.bp 4 0 0)),(5,(.bp 5 0 0)),(9,(.bp 9 0 0)),(5999,(.hd 2)),(6999,(.hd 1)),(10999,(.hd 3))],[(2,t22),(3,(.i .i64)),(10,.b),(11,(.i .i64)),(5000,t17),(6000,t6),(10000,t16)]⟩,[(.ret,⟨[],[(8,(.i .i64))]⟩),((.exit 0),⟨[],[]⟩)],λ k x=>Ck k x.1 x.2.1 x.2.2.1 x.2.2.2.1 x.2.2.2.2.1 x.2.2.2.2.2.1 x.2.2.2.2.2.2⟩
def Fj.d:Fd := { nt:=60,nv:=4,nm:=[0,1,2,3,4,5,6,7,9,10,11,12,13],res:=[8],cs:=λ k=>[(124,Ek.e k),(255,Cy.e k)],ls:=[(3,Ck.p)],rf:=true }
def Fj.a (k:Nat):AC (Fj.d.cs k):=⟨Ek.s k,Cy.s k,trivial⟩
def Ck.s:LL Tryz.f242 Fj.d 3 Ck.p:=mL [] Fj.a trivial
def Fj.s (k:Nat):CK 242 (Fj.e k):=mS Fj.d k [3] Tryz.func242 (Fj.a k) ⟨Ck.s,trivial⟩
def Cv.e (k:Nat):Ent:=⟨2,[(.val true t17),(.val false t22)],[(.agg,t18),(.one,(.i .i64))],λ x=>Cv k x.1 x.2⟩
def Ba.p:LF:=⟨⟨[(4,(.bp 4 0 0)),(6,(.bp 6 0 0)),(5999,(.hd 2)),(7999,(.hd 2))],[(1,t22),(7,(.i .i64)),(8,(.i .i64)),(5000,t19),(7000,t18)]⟩,[((.exit 0),⟨[(4,(.bp 4 0 0)),(6,(.bp 6 0 0)),(5999,(.hd 2)),(7999,(.hd 2))],[(7,(.i .i64)),(5000,t19),(7000,t18)]⟩)],λ k x=>Ba k x.1 x.2.1 x.2.2.1 x.2.2.2.1 x.2.2.2.2⟩
def Cv.d:Fd := { nt:=82,nv:=2,nm:=[0,1,2,3,6,7,8,9,10,11,12],res:=[5],cs:=λ k=>[(136,Jo.e k),(234,Ih.e k),(240,Kk.e k),(241,H4.e k),(242,Fj.e k)],ls:=[(6,Ba.p)],mv:=[19,80],rf:=true }
def Cv.a (k:Nat):AC (Cv.d.cs k):=⟨Jo.s k,Ih.s k,Kk.s k,H4.s k,Fj.s k,trivial⟩
def Ba.s:LL Tryz.f211 Cv.d 6 Ba.p:=mL [] Cv.a trivial
def Cv.s (k:Nat):CK 211 (Cv.e k):=mS Cv.d k [6] Tryz.func211 (Cv.a k) ⟨Ba.s,trivial⟩
def Hq.e (k:Nat):Ent:=⟨3,[(.ptr t51 t51),(.val false (.i .i64)),(.val false (.i .i64))],[(.one,.b)],λ x=>Hq k x.1 x.2.1 x.2.2⟩
def Hq.d:Fd := { nt:=49,nv:=3,nm:=[0,1,2,3,4,5,7,8],res:=[6],cs:=λ k=>[(72,A9.e k),(211,Cv.e k)],rf:=true }
def Hq.s (k:Nat):CK 162 (Hq.e k):=mS Hq.d k [] Tryz.func162 ⟨A9.s k,Cv.s k,trivial⟩ trivial
def Jd.e (k:Nat):Ent:=⟨2,[(.ptr t51 t51),(.val true t34)],[(.one,.b)],λ x=>Jd k x.1 x.2⟩
def Jd.d:Fd := { nt:=76,nv:=2,nm:=[0,1,2,3,5,6],res:=[4],cs:=λ k=>[(72,A9.e k),(160,I2.e k),(161,B3.e k),(162,Hq.e k)],rf:=true }
def Jd.s (k:Nat):CK 102 (Jd.e k):=mS Jd.d k [] Tryz.func102 ⟨A9.s k,I2.s k,B3.s k,Hq.s k,trivial⟩ trivial
def Kd.e (k:Nat):Ent:=⟨2,[(.ptr t21 t21),(.val false t0)],[(.one,.s)],λ x=>Kd x.1 x.2⟩
def Kd.d:Fd := { nt:=12,nv:=2,nm:=[0,1,2,3],res:=[4],cs:=λ k=>[(75,A3.e k)] }
def Kd.s (k:Nat):CK 115 (Kd.e k):=mS Kd.d k [] Tryz.func115 ⟨A3.s k,trivial⟩ trivial
def B9.e (k:Nat):Ent:=⟨1,[(.ptr t21 t21)],[(.one,.s)],λ x=>B9 x⟩
def B9.d:Fd := { nt:=6,nv:=1,nm:=[0,1],res:=[2],cs:=λ k=>[(115,Kd.e k)] }
def B9.s (k:Nat):CK 58 (B9.e k):=mS B9.d k [] Tryz.func58 ⟨Kd.s k,trivial⟩ trivial
def H2.e (k:Nat):Ent:=⟨1,[(.val true t28)],[(.one,t2)],λ x=>H2 k x⟩
def Jz.p:LF:=⟨⟨[(1,(.bp 1 0 0)),(2999,(.hd 2))],[(3,t2),(4,(.i .i64)),(7,(.i .i64)),(2000,t28)]⟩,[((.exit 2),⟨[(1,(.bp 1 0 0)),(2999,(.hd 2))],[(3,t2),(4,(.i .i64)),(7,(.i .i64)),(2000,t28)]⟩)],λ k x=>Jz k x.1 x.2.1 x.2.2.1 x.2.2.2⟩
def Ha.p:LF:=⟨⟨[(1,(.bp 1 0 0)),(2999,(.hd 2))],[(3,t2),(4,(.i .i64)),(2000,t28)]⟩,[((.exit 0),⟨[],[(3,t2)]⟩)],λ k x=>Ha k x.1 x.2.1 x.2.2⟩
def H2.d:Fd := { nt:=98,nv:=1,nm:=[0,1,3,4,5,6,7],res:=[2],cs:=λ k=>[(117,H8.e k),(128,Ib.e k),(129,Dg.e k)],ls:=[(9,Jz.p),(3,Ha.p)],rf:=true }
def H2.a (k:Nat):AC (H2.d.cs k):=⟨H8.s k,Ib.s k,Dg.s k,trivial⟩
def Jz.s:LL Tryz.f73 H2.d 9 Jz.p:=mL [] H2.a trivial
def Ha.s:LL Tryz.f73 H2.d 3 Ha.p:=mL [9] H2.a ⟨Jz.s,trivial⟩
def H2.s (k:Nat):CK 73 (H2.e k):=mS H2.d k [3] Tryz.func73 (H2.a k) ⟨Ha.s,trivial⟩
def Eg.e (k:Nat):Ent:=⟨1,[(.ptr t21 t21)],[(.one,t7)],λ x=>Eg k x⟩
def G8.p:LF:=⟨⟨[(0,(.bp 0 0 0)),(1999,(.hd 3))],[(3,t7),(4,(.i .i64)),(1000,t21)]⟩,[((.exit 0),⟨[(1999,(.hd 3))],[(3,t7),(1000,t21)]⟩)],λ k x=>G8 k x.1 x.2.1 x.2.2⟩
def Eg.d:Fd := { nt:=17,nv:=1,nm:=[0,1,3,4],res:=[2],cs:=λ k=>[(127,Ac.e k)],ls:=[(3,G8.p)],rf:=true }
def Eg.a (k:Nat):AC (Eg.d.cs k):=⟨Ac.s k,trivial⟩
def G8.s:LL Tryz.f131 Eg.d 3 G8.p:=mL [] Eg.a trivial
def Eg.s (k:Nat):CK 131 (Eg.e k):=mS Eg.d k [3] Tryz.func131 (Eg.a k) ⟨G8.s,trivial⟩
def Ga.e (k:Nat):Ent:=⟨2,[(.ptr t21 t21),(.val false (.i .i64))],[(.one,t5)],λ x=>Ga k x.1 x.2⟩
def G9.p:LF:=⟨⟨[(0,(.bp 0 0 0)),(1999,(.hd 3))],[(1,(.i .i64)),(5,t5),(6,(.i .i64)),(1000,t4),(1001,(.i .i64)),(1002,(.i .i64))]⟩,[((.exit 0),⟨[(1999,(.hd 3))],[(5,t5),(1000,t4),(1001,(.i .i64)),(1002,(.i .i64))]⟩)],λ k x=>G9 k x.1 x.2.1 x.2.2.1 x.2.2.2.1 x.2.2.2.2.1 x.2.2.2.2.2⟩
def Ga.d:Fd := { nt:=20,nv:=2,nm:=[0,1,2,3,5,6],res:=[4],cs:=λ k=>[(130,G0.e k)],ls:=[(3,G9.p)] }
def Ga.a (k:Nat):AC (Ga.d.cs k):=⟨G0.s k,trivial⟩
def G9.s:LL Tryz.f212 Ga.d 3 G9.p:=mL [] Ga.a trivial
def Ga.s (k:Nat):CK 212 (Ga.e k):=mS Ga.d k [3] Tryz.func212 (Ga.a k) ⟨G9.s,trivial⟩
def Dy.e (k:Nat):Ent:=⟨1,[(.ptr t21 t21)],[(.one,t5)],λ x=>Dy k x⟩
def Dy.d:Fd := { nt:=8,nv:=1,nm:=[0,1],res:=[2],cs:=λ k=>[(127,Ac.e k),(212,Ga.e k)] }
def Dy.s (k:Nat):CK 163 (Dy.e k):=mS Dy.d k [] Tryz.func163 ⟨Ac.s k,Ga.s k,trivial⟩ trivial
def F4.e (k:Nat):Ent:=⟨2,[(.ptr t21 t21),(.vw t51 2),(.hid t51 t51)],[(.agg,(.pr (.i .i64) (.pr (.i .i64) (.pr .s (.pr t5 (.pr (.i .i64) t7))))))],λ x=>F4 k x.1 x.2.1 x.2.2⟩
def F4.d:Fd := { nt:=99,nv:=2,nm:=[0,1,2,3,5,6],res:=[],cs:=λ k=>[(58,B9.e k),(73,H2.e k),(75,A3.e k),(127,Ac.e k),(131,Eg.e k),(163,Dy.e k)],mv:=[1,98],rf:=true }
def F4.s (k:Nat):CK 103 (F4.e k):=mS F4.d k [] Tryz.func103 ⟨B9.s k,H2.s k,A3.s k,Ac.s k,Eg.s k,Dy.s k,trivial⟩ trivial
def Eh.e (k:Nat):Ent:=⟨2,[(.ptr t21 t21),(.val false (.i .i64))],[(.agg,t51)],λ x=>Eh k x.1 x.2⟩
def Gb.p:LF:=⟨⟨[(0,(.bp 0 0 0)),(4,(.bp 4 0 0)),(5,(.bp 5 0 0)),(1999,(.hd 3)),(5999,(.hd 9)),(6999,(.hd 9))],[(6,(.i .i64)),(1000,t21),(5000,t50),(6000,t51)]⟩,[((.exit 0),⟨[(4,(.bp 4 0 0)),(5,(.bp 5 0 0)),(5999,(.hd 9)),(6999,(.hd 9)),(1999,(.hd 3))],[(5000,t50),(6000,t51),(1000,t21)]⟩)],λ k x=>Gb k x.1 x.2.1 x.2.2.1 x.2.2.2⟩
def Eh.d:Fd := { nt:=21,nv:=2,nm:=[0,1,2,3,5,6],res:=[],cs:=λ k=>[(75,A3.e k),(101,Kx.e k),(102,Jd.e k),(103,F4.e k)],ls:=[(3,Gb.p)],mv:=[20],rf:=true }
def Eh.a (k:Nat):AC (Eh.d.cs k):=⟨A3.s k,Kx.s k,Jd.s k,F4.s k,trivial⟩
def Gb.s:LL Tryz.f45 Eh.d 3 Gb.p:=mL [] Eh.a trivial
def Eh.s (k:Nat):CK 45 (Eh.e k):=mS Eh.d k [3] Tryz.func45 (Eh.a k) ⟨Gb.s,trivial⟩
def Cl.e (k:Nat):Ent:=⟨2,[(.ptr t21 t21),(.val false (.i .i64))],[(.one,.b)],λ x=>Cl x.1 x.2⟩
def Cl.d:Fd := { nt:=9,nv:=2,nm:=[0,1,2,3],res:=[4],cs:=λ k=>[(75,A3.e k)] }
def Cl.s (k:Nat):CK 74 (Cl.e k):=mS Cl.d k [] Tryz.func74 ⟨A3.s k,trivial⟩ trivial
def Dh.e (k:Nat):Ent:=⟨1,[(.val true t48)],[(.agg,t50)],λ x=>Dh k x⟩
def Gc.p:LF:=⟨⟨[(1,(.bp 1 0 0)),(2,(.bp 2 0 0)),(3,(.bp 3 0 0)),(2999,(.hd 9)),(3999,(.hd 9)),(4999,(.hd 9))],[(5,(.i .i64)),(2000,t48),(3000,t50),(4000,t50)]⟩,[((.exit 2),⟨[(2,(.bp 2 0 0)),(3,(.bp 3 0 0)),(3999,(.hd 9)),(4999,(.hd 9))],[(3000,t50),(4000,t50)]⟩)],λ k x=>Gc k x.1 x.2.1 x.2.2.1 x.2.2.2⟩
def Gd.p:LF:=⟨⟨[(1,(.bp 1 0 0)),(2,(.bp 2 0 0)),(3,(.bp 3 0 0)),(2999,(.hd 9)),(3999,(.hd 9)),(4999,(.hd 9))],[(4,(.i .i64)),(2000,t48),(3000,t50),(4000,t50)]⟩,[((.exit 0),⟨[(1,(.bp 1 0 0)),(2,(.bp 2 0 0)),(3,(.bp 3 0 0)),(2999,(.hd 9)),(3999,(.hd 9)),(4999,(.hd 9))],[(2000,t48),(3000,t50),(4000,t50)]⟩)],λ k x=>Gd k x.1 x.2.1 x.2.2.1 x.2.2.2⟩
def Dh.d:Fd := { nt:=62,nv:=1,nm:=[0,1,3,4,5,6],res:=[],cs:=λ k=>[(136,Jk.e k),(137,Bo.e k),(138,Bs.e k)],ls:=[(7,Gc.p),(3,Gd.p)],mv:=[61],rf:=true }
def Dh.a (k:Nat):AC (Dh.d.cs k):=⟨Jk.s k,Bo.s k,Bs.s k,trivial⟩
def Gc.s:LL Tryz.f79 Dh.d 7 Gc.p:=mL [] Dh.a trivial
def Gd.s:LL Tryz.f79 Dh.d 3 Gd.p:=mL [] Dh.a trivial
def Dh.s (k:Nat):CK 79 (Dh.e k):=mS Dh.d k [3,7] Tryz.func79 (Dh.a k) ⟨Gd.s,Gc.s,trivial⟩
def Fg.e (k:Nat):Ent:=⟨1,[(.ptr t21 t21)],[(.one,.s)],λ x=>Fg x⟩
def Fg.d:Fd := { nt:=10,nv:=1,nm:=[0,1],res:=[2],cs:=λ k=>[(58,B9.e k),(74,Cl.e k),(115,Kd.e k)] }
def Fg.s (k:Nat):CK 187 (Fg.e k):=mS Fg.d k [] Tryz.func187 ⟨B9.s k,Cl.s k,Kd.s k,trivial⟩ trivial
def Iw.e (k:Nat):Ent:=⟨1,[(.ptr t21 t21)],[(.agg,t16)],λ x=>Iw x⟩
def Iw.d:Fd := { nt:=11,nv:=1,nm:=[0,1],res:=[],cs:=λ k=>[(75,A3.e k),(127,Ac.e k)] }
def Iw.s (k:Nat):CK 229 (Iw.e k):=mS Iw.d k [] Tryz.func229 ⟨A3.s k,Ac.s k,trivial⟩ trivial
def Cm.e (k:Nat):Ent:=⟨1,[(.ptr t21 t21)],[(.agg,t26)],λ x=>Cm k x⟩
def Cm.d:Fd := { nt:=16,nv:=1,nm:=[0,1,3],res:=[],cs:=λ k=>[(74,Cl.e k),(163,Dy.e k),(229,Iw.e k)],mv:=[15] }
def Cm.s (k:Nat):CK 230 (Cm.e k):=mS Cm.d k [] Tryz.func230 ⟨Cl.s k,Dy.s k,Iw.s k,trivial⟩ trivial
def K5.e (k:Nat):Ent:=⟨4,[(.val true t40),(.val false .s),(.val true t25),(.val false .b)],[(.agg,t42),(.one,(.i .i64))],λ x=>K5 k x.1 x.2.1 x.2.2.1 x.2.2.2⟩
def K5.d:Fd := { nt:=34,nv:=4,nm:=[0,1,2,3,4,5,6,7,10,11],res:=[9],cs:=λ k=>[(67,Ap.e k),(68,C5.e k),(125,C6.e k),(137,Bo.e k),(236,Iu.e k)],mv:=[27,32] }
def K5.s (k:Nat):CK 248 (K5.e k):=mS K5.d k [] Tryz.func248 ⟨Ap.s k,C5.s k,C6.s k,Bo.s k,Iu.s k,trivial⟩ trivial
def Ix.e (k:Nat):Ent:=⟨2,[(.val true t40),(.val false t31)],[(.agg,t43),(.one,.b)],λ x=>Ix k x.1 x.2⟩
def Ix.d:Fd := { nt:=25,nv:=2,nm:=[0,1,2,3,6],res:=[5],cs:=λ k=>[(125,C6.e k),(137,Bo.e k),(184,Em.e k),(201,Hj.e k)],mv:=[24] }
def Ix.s (k:Nat):CK 249 (Ix.e k):=mS Ix.d k [] Tryz.func249 ⟨C6.s k,Bo.s k,Em.s k,Hj.s k,trivial⟩ trivial
def Iy.e (k:Nat):Ent:=⟨1,[(.ptr t21 t21)],[(.agg,t27)],λ x=>Iy k x⟩
def Iy.d:Fd := { nt:=8,nv:=1,nm:=[0,1],res:=[],cs:=λ k=>[(58,B9.e k),(230,Cm.e k),(257,J7.e k)] }
def Iy.s (k:Nat):CK 252 (Iy.e k):=mS Iy.d k [] Tryz.func252 ⟨B9.s k,Cm.s k,J7.s k,trivial⟩ trivial
def Db.e (k:Nat):Ent:=⟨1,[(.ptr t21 t21)],[(.one,t32)],λ x=>Db k x⟩
def Ge.p:LF:=⟨⟨[(0,(.bp 0 0 0)),(1999,(.hd 3))],[(3,t32),(4,(.i .i64)),(1000,t4),(1001,(.i .i64)),(1002,(.i .i64))]⟩,[((.exit 0),⟨[(1999,(.hd 3))],[(3,t32),(1000,t4),(1001,(.i .i64)),(1002,(.i .i64))]⟩)],λ k x=>Ge k x.1 x.2.1 x.2.2.1 x.2.2.2.1 x.2.2.2.2⟩
def Db.d:Fd := { nt:=17,nv:=1,nm:=[0,1,3,4],res:=[2],cs:=λ k=>[(75,A3.e k),(252,Iy.e k),(253,Bt.e k)],ls:=[(3,Ge.p)] }
def Db.a (k:Nat):AC (Db.d.cs k):=⟨A3.s k,Iy.s k,Bt.s k,trivial⟩
def Ge.s:LL Tryz.f250 Db.d 3 Ge.p:=mL [] Db.a trivial
def Db.s (k:Nat):CK 250 (Db.e k):=mS Db.d k [3] Tryz.func250 (Db.a k) ⟨Ge.s,trivial⟩
def Fk.e (k:Nat):Ent:=⟨1,[(.ptr t21 t21)],[(.agg,t44)],λ x=>Fk k x⟩
def Gf.p:LF:=⟨⟨[(0,(.bp 0 0 0)),(2,(.bp 2 0 0)),(3,(.bp 3 0 0)),(1999,(.hd 3)),(3999,(.hd 5)),(4999,(.hd 5))],[(4,(.i .i64)),(1000,t4),(1001,(.i .i64)),(1002,(.i .i64)),(3000,(.i .i64)),(3001,t14),(3002,t14),(3003,t32),(3004,t32),(4000,(.i .i64)),(4001,t13),(4002,t13),(4003,t32),(4004,t32)]⟩,[((.exit 0),⟨[(0,(.bp 0 0 0)),(2,(.bp 2 0 0)),(3,(.bp 3 0 0)),(1999,(.hd 3)),(3999,(.hd 5)),(4999,(.hd 5))],[(1000,t4),(1001,(.i .i64)),(1002,(.i .i64)),(3000,(.i .i64)),(3001,t14),(3002,t14),(3003,t32),(3004,t32),(4000,(.i .i64)),(4001,t13),(4002,t13),(4003,t32),(4004,t32)]⟩)],λ k x=>Gf k x.1 x.2.1 x.2.2.1 x.2.2.2.1 x.2.2.2.2.1 x.2.2.2.2.2.1 x.2.2.2.2.2.2.1 x.2.2.2.2.2.2.2.1 x.2.2.2.2.2.2.2.2.1 x.2.2.2.2.2.2.2.2.2.1 x.2.2.2.2.2.2.2.2.2.2.1 x.2.2.2.2.2.2.2.2.2.2.2.1 x.2.2.2.2.2.2.2.2.2.2.2.2.1 x.2.2.2.2.2.2.2.2.2.2.2.2.2⟩
def Fk.d:Fd := { nt:=47,nv:=1,nm:=[0,1,3,4],res:=[],cs:=λ k=>[(58,B9.e k),(74,Cl.e k),(75,A3.e k),(204,H7.e k),(209,Fi.e k),(230,Cm.e k),(248,K5.e k),(249,Ix.e k),(250,Db.e k)],ls:=[(3,Gf.p)],mv:=[46] }
def Fk.a (k:Nat):AC (Fk.d.cs k):=⟨B9.s k,Cl.s k,A3.s k,H7.s k,Fi.s k,Cm.s k,K5.s k,Ix.s k,Db.s k,trivial⟩
def Gf.s:LL Tryz.f226 Fk.d 3 Gf.p:=mL [] Fk.a trivial
def Fk.s (k:Nat):CK 226 (Fk.e k):=mS Fk.d k [3] Tryz.func226 (Fk.a k) ⟨Gf.s,trivial⟩
def Fn.e (k:Nat):Ent:=⟨1,[(.ptr t21 t21)],[(.agg,t29)],λ x=>Fn k x⟩
def B4.p:LF:=⟨⟨[(0,(.bp 0 0 0)),(2,(.bp 2 0 0)),(3,(.bp 3 0 0)),(1999,(.hd 3)),(3999,(.hd 2)),(4999,(.hd 2))],[(4,(.i .i64)),(1000,t4),(1001,(.i .i64)),(1002,(.i .i64)),(3000,t14),(3001,t14),(4000,t14),(4001,t14)]⟩,[((.exit 0),⟨[(2,(.bp 2 0 0)),(3,(.bp 3 0 0)),(3999,(.hd 2)),(4999,(.hd 2)),(1999,(.hd 3))],[(3000,t14),(3001,t14),(4000,t14),(4001,t14),(1000,t4),(1001,(.i .i64)),(1002,(.i .i64))]⟩)],λ k x=>B4 k x.1 x.2.1 x.2.2.1 x.2.2.2.1 x.2.2.2.2.1 x.2.2.2.2.2.1 x.2.2.2.2.2.2.1 x.2.2.2.2.2.2.2⟩
def Fn.d:Fd := { nt:=44,nv:=1,nm:=[0,1,3,4,5],res:=[],cs:=λ k=>[(58,B9.e k),(75,A3.e k),(143,Bj.e k),(144,An.e k),(175,Bn.e k),(194,Bh.e k),(230,Cm.e k)],ls:=[(3,B4.p)],mv:=[43] }
def Fn.a (k:Nat):AC (Fn.d.cs k):=⟨B9.s k,A3.s k,Bj.s k,An.s k,Bn.s k,Bh.s k,Cm.s k,trivial⟩
def B4.s:LL Tryz.f251 Fn.d 3 B4.p:=mL [] Fn.a trivial
def Fn.s (k:Nat):CK 251 (Fn.e k):=mS Fn.d k [3] Tryz.func251 (Fn.a k) ⟨B4.s,trivial⟩
def Ke.e (k:Nat):Ent:=⟨1,[(.ptr t21 t21)],[(.agg,t29)],λ x=>Ke k x⟩
def Ke.d:Fd := { nt:=33,nv:=1,nm:=[0,1,3],res:=[],cs:=λ k=>[(75,A3.e k),(187,Fg.e k),(251,Fn.e k)],mv:=[32] }
def Ke.s (k:Nat):CK 227 (Ke.e k):=mS Ke.d k [] Tryz.func227 ⟨A3.s k,Fg.s k,Fn.s k,trivial⟩ trivial
def L6.e (k:Nat):Ent:=⟨1,[(.ptr t21 t21)],[(.one,t32)],λ x=>L6 k x⟩
def L6.d:Fd := { nt:=27,nv:=1,nm:=[0,1,3],res:=[2],cs:=λ k=>[(75,A3.e k),(127,Ac.e k),(250,Db.e k),(252,Iy.e k)] }
def L6.s (k:Nat):CK 228 (L6.e k):=mS L6.d k [] Tryz.func228 ⟨A3.s k,Ac.s k,Db.s k,Iy.s k,trivial⟩ trivial
def Gi.e (k:Nat):Ent:=⟨1,[(.ptr t21 t21)],[(.agg,t44)],λ x=>Gi k x⟩
def Gg.p:LF:=⟨⟨[(0,(.bp 0 0 0)),(2,(.bp 2 0 0)),(3,(.bp 3 0 0)),(1999,(.hd 3)),(3999,(.hd 5)),(4999,(.hd 5))],[(1000,t4),(1001,(.i .i64)),(1002,(.i .i64)),(3000,(.i .i64)),(3001,t14),(3002,t14),(3003,t32),(3004,t32),(4000,(.i .i64)),(4001,t13),(4002,t13),(4003,t31),(4004,t32)]⟩,[((.exit 1),⟨[(2,(.bp 2 0 0)),(3,(.bp 3 0 0)),(3999,(.hd 5)),(4999,(.hd 5)),(1999,(.hd 3))],[(3000,(.i .i64)),(3001,t14),(3002,t14),(3003,t32),(3004,t32),(4000,(.i .i64)),(4001,t13),(4002,t13),(4003,t31),(4004,t32),(1000,t4),(1001,(.i .i64)),(1002,(.i .i64))]⟩)],λ k x=>Gg k x.1 x.2.1 x.2.2.1 x.2.2.2.1 x.2.2.2.2.1 x.2.2.2.2.2.1 x.2.2.2.2.2.2.1 x.2.2.2.2.2.2.2.1 x.2.2.2.2.2.2.2.2.1 x.2.2.2.2.2.2.2.2.2.1 x.2.2.2.2.2.2.2.2.2.2.1 x.2.2.2.2.2.2.2.2.2.2.2.1 x.2.2.2.2.2.2.2.2.2.2.2.2⟩
def Gi.d:Fd := { nt:=50,nv:=1,nm:=[0,1,3],res:=[],cs:=λ k=>[(75,A3.e k),(127,Ac.e k),(187,Fg.e k),(226,Fk.e k),(227,Ke.e k),(228,L6.e k)],ls:=[(12,Gg.p)],mv:=[49] }
def Gi.a (k:Nat):AC (Gi.d.cs k):=⟨A3.s k,Ac.s k,Fg.s k,Fk.s k,Ke.s k,L6.s k,trivial⟩
def Gg.s:LL Tryz.f185 Gi.d 12 Gg.p:=mL [] Gi.a trivial
def Gi.s (k:Nat):CK 185 (Gi.e k):=mS Gi.d k [12] Tryz.func185 (Gi.a k) ⟨Gg.s,trivial⟩
def Jl.e (k:Nat):Ent:=⟨1,[(.ptr t21 t21)],[(.agg,t16)],λ x=>Jl x⟩
def Jl.d:Fd := { nt:=27,nv:=1,nm:=[0,1,3],res:=[],cs:=λ k=>[(75,A3.e k),(127,Ac.e k),(229,Iw.e k)] }
def Jl.s (k:Nat):CK 186 (Jl.e k):=mS Jl.d k [] Tryz.func186 ⟨A3.s k,Ac.s k,Iw.s k,trivial⟩ trivial
def Lh.e (k:Nat):Ent:=⟨1,[(.ptr t21 t21)],[(.agg,t26)],λ x=>Lh k x⟩
def Lh.d:Fd := { nt:=27,nv:=1,nm:=[0,1,3],res:=[],cs:=λ k=>[(75,A3.e k),(186,Jl.e k),(230,Cm.e k)],mv:=[26] }
def Lh.s (k:Nat):CK 188 (Lh.e k):=mS Lh.d k [] Tryz.func188 ⟨A3.s k,Jl.s k,Cm.s k,trivial⟩ trivial
def Gj.e (k:Nat):Ent:=⟨2,[(.ptr t21 t21),(.vw t51 2),(.hid t51 t48)],[(.agg,(.pr t23 (.pr t19 (.pr t46 (.pr t16 (.pr t35 t2))))))],λ x=>Gj k x.1 x.2.1 x.2.2⟩
def Gj.d:Fd := { nt:=100,nv:=2,nm:=[0,1,2,3,5],res:=[],cs:=λ k=>[(75,A3.e k),(79,Dh.e k),(127,Ac.e k),(185,Gi.e k),(186,Jl.e k),(187,Fg.e k),(188,Lh.e k)],mv:=[1,99],rf:=true }
def Gj.s (k:Nat):CK 126 (Gj.e k):=mS Gj.d k [] Tryz.func126 ⟨A3.s k,Dh.s k,Ac.s k,Gi.s k,Jl.s k,Fg.s k,Lh.s k,trivial⟩ trivial
def L7.e (k:Nat):Ent:=⟨2,[(.ptr t21 t21),(.val false (.i .i64))],[(.agg,t52)],λ x=>L7 k x.1 x.2⟩
def L7.d:Fd := { nt:=15,nv:=2,nm:=[0,1,2,3,5],res:=[],cs:=λ k=>[(45,Eh.e k),(74,Cl.e k),(126,Gj.e k)],mv:=[14],rf:=true }
def L7.s (k:Nat):CK 70 (L7.e k):=mS L7.d k [] Tryz.func70 ⟨Eh.s k,Cl.s k,Gj.s k,trivial⟩ trivial
def Lo.e (k:Nat):Ent:=⟨1,[(.val false t4)],[(.agg,t52)],λ x=>Lo k x⟩
def Lo.d:Fd := { nt:=10,nv:=1,nm:=[0,1,3],res:=[],cs:=λ k=>[(44,Ji.e k),(46,Kw.e k),(70,L7.e k)],rf:=true }
def Lo.s (k:Nat):CK 57 (Lo.e k):=mS Lo.d k [] Tryz.func57 ⟨Ji.s k,Kw.s k,L7.s k,trivial⟩ trivial
def Dz.e (k:Nat):Ent:=⟨1,[(.val false t4)],[(.agg,t52),(.one,.s)],λ x=>Dz k x⟩
def Dz.d:Fd := { nt:=13,nv:=1,nm:=[0,1,4,5],res:=[3],cs:=λ k=>[(44,Ji.e k),(57,Lo.e k),(58,B9.e k)],mv:=[10],rf:=true }
def Dz.s (k:Nat):CK 21 (Dz.e k):=mS Dz.d k [] Tryz.func21 ⟨Ji.s k,Lo.s k,B9.s k,trivial⟩ trivial
def Dm.e (k:Nat):Ent:=⟨2,[(.val true t48),(.val false .s)],[(.agg,t25),(.one,.b)],λ x=>Dm k x.1 x.2⟩
def Cj.p:LF:=⟨⟨[(2,(.bp 2 0 0)),(4,(.bp 4 0 0)),(6,(.bp 6 0 0)),(3999,(.hd 9)),(5999,(.hd 5)),(7999,(.hd 5))],[(1,.s),(7,.b),(8,(.i .i64)),(3000,t48),(5000,t26),(7000,t25)]⟩,[((.exit 0),⟨[(4,(.bp 4 0 0)),(6,(.bp 6 0 0)),(5999,(.hd 5)),(7999,(.hd 5))],[(7,.b),(5000,t26),(7000,t25)]⟩)],λ k x=>Cj k x.1 x.2.1 x.2.2.1 x.2.2.2.1 x.2.2.2.2.1 x.2.2.2.2.2⟩
def Dm.d:Fd := { nt:=44,nv:=2,nm:=[0,1,2,3,6,7,8,9,10],res:=[5],cs:=λ k=>[(59,G4.e k),(60,Ka.e k)],ls:=[(4,Cj.p)],rf:=true }
def Dm.a (k:Nat):AC (Dm.d.cs k):=⟨G4.s k,Ka.s k,trivial⟩
def Cj.s:LL Tryz.f22 Dm.d 4 Cj.p:=mL [] Dm.a trivial
def Dm.s (k:Nat):CK 22 (Dm.e k):=mS Dm.d k [4] Tryz.func22 (Dm.a k) ⟨Cj.s,trivial⟩
def Gv.e (k:Nat):Ent:=⟨2,[(.val false t4),(.val false t4)],[(.one,.b)],λ x=>Gv k x.1 x.2⟩
def E3.p:LF:=⟨⟨[],[(0,t4),(1,t4),(5,(.i .i64))]⟩,[(.ret,⟨[],[(4,.b)]⟩),((.exit 0),⟨[],[]⟩)],λ k x=>E3 k x.1 x.2.1 x.2.2⟩
def Gv.d:Fd := { nt:=26,nv:=2,nm:=[0,1,2,3,5],res:=[4],ls:=[(4,E3.p)] }
def E3.s:LL Tryz.f63 Gv.d 4 E3.p:=mL [] (λ _=>trivial) trivial
def Gv.s (k:Nat):CK 63 (Gv.e k):=mS Gv.d k [4] Tryz.func63 trivial ⟨E3.s,trivial⟩
def I4.e (k:Nat):Ent:=⟨2,[(.val true t25),(.val true t25)],[(.one,.b)],λ x=>I4 k x.1 x.2⟩
def I4.d:Fd := { nt:=24,nv:=2,nm:=[0,1,2,3],res:=[4],cs:=λ k=>[(63,Gv.e k)] }
def I4.s (k:Nat):CK 24 (I4.e k):=mS I4.d k [] Tryz.func24 ⟨Gv.s k,trivial⟩ trivial
def H5.e (k:Nat):Ent:=⟨1,[(.val false t22)],[(.one,.b)],λ x=>H5 k x⟩
def Gw.p:LF:=⟨⟨[],[(0,t22),(5,t22),(6,(.i .i64)),(7,(.i .i64))]⟩,[(.ret,⟨[],[(2,.b)]⟩),((.exit 0),⟨[],[(0,t22)]⟩)],λ k x=>Gw k x.1 x.2.1 x.2.2.1 x.2.2.2⟩
def H5.d:Fd := { nt:=47,nv:=1,nm:=[0,1,3,4],res:=[2],cs:=λ k=>[(42,Fy.e k)],ls:=[(2,Gw.p)],rf:=true }
def H5.a (k:Nat):AC (H5.d.cs k):=⟨Fy.s k,trivial⟩
def Gw.s:LL Tryz.f146 H5.d 2 Gw.p:=mL [] H5.a trivial
def H5.s (k:Nat):CK 146 (H5.e k):=mS H5.d k [2] Tryz.func146 (H5.a k) ⟨Gw.s,trivial⟩
def Ic.e (k:Nat):Ent:=⟨2,[(.val false t6),(.val false (.i .i64))],[(.one,.b)],λ x=>Ic k x.1 x.2⟩
def Hr.p:LF:=⟨⟨[],[(1,(.i .i64)),(7,t6),(8,(.i .i64)),(9,(.i .i64))]⟩,[(.ret,⟨[],[(4,.b)]⟩),((.exit 0),⟨[],[]⟩)],λ k x=>Hr k x.1 x.2.1 x.2.2.1 x.2.2.2⟩
def Ic.d:Fd := { nt:=17,nv:=2,nm:=[0,1,2,3,5,6],res:=[4],ls:=[(2,Hr.p)],rf:=true }
def Hr.s:LL Tryz.f49 Ic.d 2 Hr.p:=mL [] (λ _=>trivial) trivial
def Ic.s (k:Nat):CK 49 (Ic.e k):=mS Ic.d k [2] Tryz.func49 trivial ⟨Hr.s,trivial⟩
def J9.e (k:Nat):Ent:=⟨1,[(.val false t6)],[(.one,.b)],λ x=>J9 k x⟩
def Iz.p:LF:=⟨⟨[],[(0,t6),(5,t6),(6,(.i .i64)),(7,(.i .i64))]⟩,[(.ret,⟨[],[(2,.b)]⟩),((.exit 0),⟨[],[]⟩)],λ k x=>Iz k x.1 x.2.1 x.2.2.1 x.2.2.2⟩
def J9.d:Fd := { nt:=18,nv:=1,nm:=[0,1,3,4],res:=[2],cs:=λ k=>[(49,Ic.e k)],ls:=[(2,Iz.p)],rf:=true }
def J9.a (k:Nat):AC (J9.d.cs k):=⟨Ic.s k,trivial⟩
def Iz.s:LL Tryz.f147 J9.d 2 Iz.p:=mL [] J9.a trivial
def J9.s (k:Nat):CK 147 (J9.e k):=mS J9.d k [2] Tryz.func147 (J9.a k) ⟨Iz.s,trivial⟩
def Li.e (k:Nat):Ent:=⟨2,[(.val false t22),(.val false (.i .i64))],[(.agg,t16),(.one,.b)],λ x=>Li k x.1 x.2⟩
def J0.p:LF:=⟨⟨[(4,(.bp 4 0 0)),(5999,(.hd 3))],[(1,(.i .i64)),(8,t22),(9,(.i .i64)),(10,(.i .i64)),(5000,t16)]⟩,[(.ret,⟨[(4,(.bp 4 0 0)),(5999,(.hd 3))],[(5,.b),(5000,t16)]⟩),((.exit 0),⟨[(4,(.bp 4 0 0)),(5999,(.hd 3))],[(5000,t16)]⟩)],λ k x=>J0 k x.1 x.2.1 x.2.2.1 x.2.2.2.1 x.2.2.2.2⟩
def Li.d:Fd := { nt:=21,nv:=2,nm:=[0,1,2,3,6,7],res:=[5],ls:=[(2,J0.p)],rf:=true }
def J0.s:LL Tryz.f148 Li.d 2 J0.p:=mL [] (λ _=>trivial) trivial
def Li.s (k:Nat):CK 148 (Li.e k):=mS Li.d k [2] Tryz.func148 trivial ⟨J0.s,trivial⟩
def Fo.e (k:Nat):Ent:=⟨2,[(.val true t17),(.val false t22)],[(.one,.b)],λ x=>Fo k x.1 x.2⟩
def Hs.p:LF:=⟨⟨[(2,(.bp 2 0 0)),(3999,(.hd 2))],[(1,t22),(28,t10),(29,(.i .i64)),(30,(.i .i64)),(47,t6),(48,(.i .i64)),(49,(.i .i64)),(3000,t17)]⟩,[(.ret,⟨[],[(4,.b)]⟩),((.exit 2),⟨[(2,(.bp 2 0 0)),(3999,(.hd 2))],[(1,t22),(28,t10),(29,(.i .i64)),(30,(.i .i64)),(3000,t17)]⟩)],λ k x=>Hs k x.1 x.2.1 x.2.2.1 x.2.2.2.1 x.2.2.2.2.1 x.2.2.2.2.2.1 x.2.2.2.2.2.2.1 x.2.2.2.2.2.2.2⟩
def Ht.p:LF:=⟨⟨[(2,(.bp 2 0 0)),(3999,(.hd 2))],[(1,t22),(28,t10),(29,(.i .i64)),(30,(.i .i64)),(3000,t17)]⟩,[(.ret,⟨[],[(4,.b)]⟩),((.exit 0),⟨[],[]⟩)],λ k x=>Ht k x.1 x.2.1 x.2.2.1 x.2.2.2.1 x.2.2.2.2⟩
def Fo.d:Fd := { nt:=63,nv:=2,nm:=[0,1,2,3,5,6,7,8,9,10],res:=[4],cs:=λ k=>[(42,Fy.e k),(146,H5.e k),(147,J9.e k),(148,Li.e k)],ls:=[(9,Hs.p),(4,Ht.p)],rf:=true }
def Fo.a (k:Nat):AC (Fo.d.cs k):=⟨Fy.s k,H5.s k,J9.s k,Li.s k,trivial⟩
def Hs.s:LL Tryz.f84 Fo.d 9 Hs.p:=mL [] Fo.a trivial
def Ht.s:LL Tryz.f84 Fo.d 4 Ht.p:=mL [9] Fo.a ⟨Hs.s,trivial⟩
def Fo.s (k:Nat):CK 84 (Fo.e k):=mS Fo.d k [4] Tryz.func84 (Fo.a k) ⟨Ht.s,trivial⟩
def Ar.e (k:Nat):Ent:=⟨1,[(.val false .s)],[(.one,.b)],λ x=>Ar k x⟩
def Aq.p:LF:=⟨⟨[],[(0,.s),(3,(.i .i64))]⟩,[(.ret,⟨[],[(2,.b)]⟩),((.exit 0),⟨[],[(0,.s)]⟩)],λ k x=>Aq k x.1 x.2⟩
def Ar.d:Fd := { nt:=45,nv:=1,nm:=[0,1,3,4],res:=[2],cs:=λ k=>[(42,Fy.e k)],ls:=[(2,Aq.p)] }
def Ar.a (k:Nat):AC (Ar.d.cs k):=⟨Fy.s k,trivial⟩
def Aq.s:LL Tryz.f88 Ar.d 2 Aq.p:=mL [] Ar.a trivial
def Ar.s (k:Nat):CK 88 (Ar.e k):=mS Ar.d k [2] Tryz.func88 (Ar.a k) ⟨Aq.s,trivial⟩
def Dn.e (k:Nat):Ent:=⟨1,[(.val true t48)],[(.one,.b)],λ x=>Dn k x⟩
def F5.p:LF:=⟨⟨[(1,(.bp 1 0 0)),(2999,(.hd 9))],[(6,t35),(7,(.i .i64)),(8,(.i .i64)),(2000,t48)]⟩,[(.ret,⟨[],[(2,.b)]⟩),((.exit 0),⟨[(1,(.bp 1 0 0)),(2999,(.hd 9))],[(2000,t48)]⟩)],λ k x=>F5 k x.1 x.2.1 x.2.2.1 x.2.2.2⟩
def Dn.d:Fd := { nt:=35,nv:=1,nm:=[0,1,3,4],res:=[2],cs:=λ k=>[(12,Cb.e k),(88,Ar.e k),(149,Fz.e k)],ls:=[(2,F5.p)],rf:=true }
def Dn.a (k:Nat):AC (Dn.d.cs k):=⟨Cb.s k,Ar.s k,Fz.s k,trivial⟩
def F5.s:LL Tryz.f86 Dn.d 2 F5.p:=mL [] Dn.a trivial
def Dn.s (k:Nat):CK 86 (Dn.e k):=mS Dn.d k [2] Tryz.func86 (Dn.a k) ⟨F5.s,trivial⟩
def Kf.e (k:Nat):Ent:=⟨1,[(.val true t27)],[(.one,.b)],λ x=>Kf k x⟩
def Kf.d:Fd := { nt:=26,nv:=1,nm:=[0,1],res:=[2],cs:=λ k=>[(42,Fy.e k),(85,Ee.e k),(88,Ar.e k)] }
def Kf.s (k:Nat):CK 150 (Kf.e k):=mS Kf.d k [] Tryz.func150 ⟨Fy.s k,Ee.s k,Ar.s k,trivial⟩ trivial
def Ei.e (k:Nat):Ent:=⟨1,[(.val false t13)],[(.one,.b)],λ x=>Ei k x⟩
def F6.p:LF:=⟨⟨[],[(0,t13),(5,t13),(6,(.i .i64)),(7,(.i .i64))]⟩,[(.ret,⟨[],[(2,.b)]⟩),((.exit 0),⟨[],[(0,t13)]⟩)],λ k x=>F6 k x.1 x.2.1 x.2.2.1 x.2.2.2⟩
def Ei.d:Fd := { nt:=41,nv:=1,nm:=[0,1,3,4],res:=[2],cs:=λ k=>[(88,Ar.e k)],ls:=[(2,F6.p)] }
def Ei.a (k:Nat):AC (Ei.d.cs k):=⟨Ar.s k,trivial⟩
def F6.s:LL Tryz.f198 Ei.d 2 F6.p:=mL [] Ei.a trivial
def Ei.s (k:Nat):CK 198 (Ei.e k):=mS Ei.d k [2] Tryz.func198 (Ei.a k) ⟨F6.s,trivial⟩
def Bz.e (k:Nat):Ent:=⟨1,[(.val true t28)],[(.one,.b)],λ x=>Bz k x⟩
def Bz.d:Fd := { nt:=11,nv:=1,nm:=[0,1],res:=[2],cs:=λ k=>[(198,Ei.e k)] }
def Bz.s (k:Nat):CK 151 (Bz.e k):=mS Bz.d k [] Tryz.func151 ⟨Ei.s k,trivial⟩ trivial
def Ep.e (k:Nat):Ent:=⟨1,[(.val false t31)],[(.one,.b)],λ x=>Ep k x⟩
def Gx.p:LF:=⟨⟨[],[(0,t31),(5,t31),(6,(.i .i64)),(7,(.i .i64))]⟩,[(.ret,⟨[],[(2,.b)]⟩),((.exit 0),⟨[],[(0,t31)]⟩)],λ k x=>Gx k x.1 x.2.1 x.2.2.1 x.2.2.2⟩
def Ep.d:Fd := { nt:=34,nv:=1,nm:=[0,1,3,4],res:=[2],cs:=λ k=>[(150,Kf.e k)],ls:=[(2,Gx.p)] }
def Ep.a (k:Nat):AC (Ep.d.cs k):=⟨Kf.s k,trivial⟩
def Gx.s:LL Tryz.f152 Ep.d 2 Gx.p:=mL [] Ep.a trivial
def Ep.s (k:Nat):CK 152 (Ep.e k):=mS Ep.d k [2] Tryz.func152 (Ep.a k) ⟨Gx.s,trivial⟩
def Er.e (k:Nat):Ent:=⟨1,[(.val true t40)],[(.one,.b)],λ x=>Er k x⟩
def Hu.p:LF:=⟨⟨[(1,(.bp 1 0 0)),(2999,(.hd 5))],[(6,t31),(7,(.i .i64)),(8,(.i .i64)),(2000,(.i .i64)),(2001,t13),(2002,t13),(2003,t31),(2004,t31)]⟩,[(.ret,⟨[],[(2,.b)]⟩),((.exit 0),⟨[(1,(.bp 1 0 0)),(2999,(.hd 5))],[(2000,(.i .i64)),(2001,t13),(2002,t13),(2003,t31),(2004,t31)]⟩)],λ k x=>Hu k x.1 x.2.1 x.2.2.1 x.2.2.2.1 x.2.2.2.2.1 x.2.2.2.2.2.1 x.2.2.2.2.2.2.1 x.2.2.2.2.2.2.2⟩
def Er.d:Fd := { nt:=35,nv:=1,nm:=[0,1,3,4],res:=[2],cs:=λ k=>[(42,Fy.e k),(150,Kf.e k),(151,Bz.e k),(152,Ep.e k)],ls:=[(2,Hu.p)] }
def Er.a (k:Nat):AC (Er.d.cs k):=⟨Fy.s k,Kf.s k,Bz.s k,Ep.s k,trivial⟩
def Hu.s:LL Tryz.f87 Er.d 2 Hu.p:=mL [] Er.a trivial
def Er.s (k:Nat):CK 87 (Er.e k):=mS Er.d k [2] Tryz.func87 (Er.a k) ⟨Hu.s,trivial⟩
def Di.e (k:Nat):Ent:=⟨1,[(.val true t48)],[(.one,.b)],λ x=>Di k x⟩
def D0.p:LF:=⟨⟨[(1,(.bp 1 0 0)),(2999,(.hd 9))],[(57,t0),(58,(.i .i64)),(59,(.i .i64)),(2000,t48)]⟩,[(.ret,⟨[],[(2,.b)]⟩),((.exit 2),⟨[],[]⟩)],λ k x=>D0 k x.1 x.2.1 x.2.2.1 x.2.2.2⟩
def F7.p:LF:=⟨⟨[(1,(.bp 1 0 0)),(2999,(.hd 9))],[(34,t45),(35,(.i .i64)),(36,(.i .i64)),(2000,t48)]⟩,[(.ret,⟨[],[(2,.b)]⟩),((.exit 0),⟨[(1,(.bp 1 0 0)),(2999,(.hd 9))],[(2000,t48)]⟩)],λ k x=>F7 k x.1 x.2.1 x.2.2.1 x.2.2.2⟩
def Di.d:Fd := { nt:=82,nv:=1,nm:=[0,1,3,4,5,6],res:=[2],cs:=λ k=>[(84,Fo.e k),(85,Ee.e k),(86,Dn.e k),(87,Er.e k),(88,Ar.e k)],ls:=[(10,D0.p),(4,F7.p)],rf:=true }
def Di.a (k:Nat):AC (Di.d.cs k):=⟨Fo.s k,Ee.s k,Dn.s k,Er.s k,Ar.s k,trivial⟩
def D0.s:LL Tryz.f32 Di.d 10 D0.p:=mL [] Di.a trivial
def F7.s:LL Tryz.f32 Di.d 4 F7.p:=mL [] Di.a trivial
def Di.s (k:Nat):CK 32 (Di.e k):=mS Di.d k [4,10] Tryz.func32 (Di.a k) ⟨F7.s,D0.s,trivial⟩
def Ft.e (k:Nat):Ent:=⟨1,[(.val false t6)],[(.one,t7)],λ x=>Ft x⟩
def Ft.d:Fd := { nt:=5,nv:=1,nm:=[0,1],res:=[2],rf:=true }
def Ft.s (k:Nat):CK 82 (Ft.e k):=mS Ft.d k [] Tryz.func82 trivial trivial
def Dp.e (k:Nat):Ent:=⟨1,[(.val true t17)],[(.agg,t19)],λ x=>Dp k x⟩
def F8.p:LF:=⟨⟨[(2,(.bp 2 0 0)),(3,(.bp 3 0 0)),(3999,(.hd 2)),(4999,(.hd 2))],[(10,t10),(11,(.i .i64)),(12,(.i .i64)),(3000,t19),(4000,t19)]⟩,[((.exit 0),⟨[(2,(.bp 2 0 0)),(3,(.bp 3 0 0)),(3999,(.hd 2)),(4999,(.hd 2))],[(3000,t19),(4000,t19)]⟩)],λ k x=>F8 k x.1 x.2.1 x.2.2.1 x.2.2.2.1 x.2.2.2.2⟩
def Dp.d:Fd := { nt:=27,nv:=1,nm:=[0,1,3,4,5],res:=[],cs:=λ k=>[(82,Ft.e k)],ls:=[(3,F8.p)],mv:=[26],rf:=true }
def Dp.a (k:Nat):AC (Dp.d.cs k):=⟨Ft.s k,trivial⟩
def F8.s:LL Tryz.f96 Dp.d 3 F8.p:=mL [] Dp.a trivial
def Dp.s (k:Nat):CK 96 (Dp.e k):=mS Dp.d k [3] Tryz.func96 (Dp.a k) ⟨F8.s,trivial⟩
def Ao.e (k:Nat):Ent:=⟨1,[(.val false t31)],[(.one,t32)],λ x=>Ao x⟩
def Ao.d:Fd := { nt:=5,nv:=1,nm:=[0,1],res:=[2] }
def Ao.s (k:Nat):CK 94 (Ao.e k):=mS Ao.d k [] Tryz.func94 trivial trivial
def Ce.e (k:Nat):Ent:=⟨1,[(.val false t13)],[(.one,t14)],λ x=>Ce k x⟩
def E4.p:LF:=⟨⟨[],[(3,t14),(6,t13),(7,(.i .i64)),(8,(.i .i64))]⟩,[((.exit 0),⟨[],[(3,t14)]⟩)],λ k x=>E4 k x.1 x.2.1 x.2.2.1 x.2.2.2⟩
def Ce.d:Fd := { nt:=23,nv:=1,nm:=[0,1,3,4,5],res:=[2],cs:=λ k=>[(105,Av.e k)],ls:=[(3,E4.p)] }
def Ce.a (k:Nat):AC (Ce.d.cs k):=⟨Av.s k,trivial⟩
def E4.s:LL Tryz.f202 Ce.d 3 E4.p:=mL [] Ce.a trivial
def Ce.s (k:Nat):CK 202 (Ce.e k):=mS Ce.d k [3] Tryz.func202 (Ce.a k) ⟨E4.s,trivial⟩
def A6.e (k:Nat):Ent:=⟨1,[(.val true t28)],[(.agg,t29)],λ x=>A6 k x⟩
def A6.d:Fd := { nt:=10,nv:=1,nm:=[0,1],res:=[],cs:=λ k=>[(202,Ce.e k)] }
def A6.s (k:Nat):CK 156 (A6.e k):=mS A6.d k [] Tryz.func156 ⟨Ce.s k,trivial⟩ trivial
def Cq.e (k:Nat):Ent:=⟨1,[(.val true t40)],[(.agg,t41)],λ x=>Cq k x⟩
def Cq.d:Fd := { nt:=15,nv:=1,nm:=[0,1],res:=[],cs:=λ k=>[(94,Ao.e k),(156,A6.e k)] }
def Cq.s (k:Nat):CK 97 (Cq.e k):=mS Cq.d k [] Tryz.func97 ⟨Ao.s k,A6.s k,trivial⟩ trivial
def J1.e (k:Nat):Ent:=⟨1,[(.val true t25)],[(.agg,t26)],λ x=>J1 x⟩
def J1.d:Fd := { nt:=8,nv:=1,nm:=[0,1],res:=[],cs:=λ k=>[(105,Av.e k)],mv:=[7],rf:=true }
def J1.s (k:Nat):CK 98 (J1.e k):=mS J1.d k [] Tryz.func98 ⟨Av.s k,trivial⟩ trivial
def C3.e (k:Nat):Ent:=⟨1,[(.val true t48)],[(.agg,t50)],λ x=>C3 k x⟩
def E5.p:LF:=⟨⟨[(2,(.bp 2 0 0)),(3,(.bp 3 0 0)),(3999,(.hd 9)),(4999,(.hd 9))],[(36,t35),(37,(.i .i64)),(38,(.i .i64)),(3000,t50),(4000,t50)]⟩,[((.exit 2),⟨[(2,(.bp 2 0 0)),(3,(.bp 3 0 0)),(3999,(.hd 9)),(4999,(.hd 9))],[(3000,t50),(4000,t50)]⟩)],λ k x=>E5 k x.1 x.2.1 x.2.2.1 x.2.2.2.1 x.2.2.2.2⟩
def E6.p:LF:=⟨⟨[(1,(.bp 1 0 0)),(2,(.bp 2 0 0)),(3,(.bp 3 0 0)),(2999,(.hd 9)),(3999,(.hd 9)),(4999,(.hd 9))],[(21,t45),(22,(.i .i64)),(23,(.i .i64)),(2000,t48),(3000,t50),(4000,t50)]⟩,[((.exit 0),⟨[(1,(.bp 1 0 0)),(2,(.bp 2 0 0)),(3,(.bp 3 0 0)),(2999,(.hd 9)),(3999,(.hd 9)),(4999,(.hd 9))],[(2000,t48),(3000,t50),(4000,t50)]⟩)],λ k x=>E6 k x.1 x.2.1 x.2.2.1 x.2.2.2.1 x.2.2.2.2.1 x.2.2.2.2.2⟩
def C3.d:Fd := { nt:=54,nv:=1,nm:=[0,1,3,4,5,6,7],res:=[],cs:=λ k=>[(96,Dp.e k),(97,Cq.e k),(98,J1.e k)],ls:=[(8,E5.p),(3,E6.p)],mv:=[53],rf:=true }
def C3.a (k:Nat):AC (C3.d.cs k):=⟨Dp.s k,Cq.s k,J1.s k,trivial⟩
def E5.s:LL Tryz.f41 C3.d 8 E5.p:=mL [] C3.a trivial
def E6.s:LL Tryz.f41 C3.d 3 E6.p:=mL [] C3.a trivial
def C3.s (k:Nat):CK 41 (C3.e k):=mS C3.d k [3,8] Tryz.func41 (C3.a k) ⟨E6.s,E5.s,trivial⟩
def I5.e (k:Nat):Ent:=⟨2,[(.val false t0),(.val false .s)],[(.one,t0)],λ x=>I5 k x.1 x.2⟩
def F9.p:LF:=⟨⟨[],[(0,t0),(1,.s),(5,(.i .i64))]⟩,[((.exit 0),⟨[],[(0,t0),(1,.s),(5,(.i .i64))]⟩)],λ k x=>F9 k x.1 x.2.1 x.2.2⟩
def I5.d:Fd := { nt:=44,nv:=2,nm:=[0,1,2,3,5],res:=[4],ls:=[(2,F9.p)] }
def F9.s:LL Tryz.f111 I5.d 2 F9.p:=mL [] (λ _=>trivial) trivial
def I5.s (k:Nat):CK 111 (I5.e k):=mS I5.d k [2] Tryz.func111 trivial ⟨F9.s,trivial⟩
def K6.e (k:Nat):Ent:=⟨1,[(.val true t28)],[(.one,t0)],λ x=>K6 k x⟩
def Je.p:LF:=⟨⟨[(1,(.bp 1 0 0)),(2999,(.hd 2))],[(3,t0),(9,t13),(10,(.i .i64)),(11,(.i .i64)),(2000,t28)]⟩,[((.exit 0),⟨[],[(3,t0)]⟩)],λ k x=>Je k x.1 x.2.1 x.2.2.1 x.2.2.2.1 x.2.2.2.2⟩
def K6.d:Fd := { nt:=30,nv:=1,nm:=[0,1,3,4,5,6,7],res:=[2],cs:=λ k=>[(23,Ig.e k),(111,I5.e k)],ls:=[(3,Je.p)],rf:=true }
def K6.a (k:Nat):AC (K6.d.cs k):=⟨Ig.s k,I5.s k,trivial⟩
def Je.s:LL Tryz.f54 K6.d 3 Je.p:=mL [] K6.a trivial
def K6.s (k:Nat):CK 54 (K6.e k):=mS K6.d k [3] Tryz.func54 (K6.a k) ⟨Je.s,trivial⟩
def Mc.e (k:Nat):Ent:=⟨1,[(.val false .s)],[(.one,(.i .i64))],λ x=>Mc k x⟩
def K7.p:LF:=⟨⟨[],[(0,.s),(3,(.i .u32)),(4,(.i .i64))]⟩,[((.exit 0),⟨[],[(3,(.i .u32))]⟩)],λ k x=>K7 k x.1 x.2.1 x.2.2⟩
def Mc.d:Fd := { nt:=20,nv:=1,nm:=[0,1,3,4],res:=[2],ls:=[(3,K7.p)],rf:=true }
def K7.s:LL Tryz.f145 Mc.d 3 K7.p:=mL [] (λ _=>trivial) trivial
def Mc.s (k:Nat):CK 145 (Mc.e k):=mS Mc.d k [3] Tryz.func145 trivial ⟨K7.s,trivial⟩
def Lq.e (k:Nat):Ent:=⟨2,[(.val false .s),(.val false (.i .i64))],[(.one,(.i .i64))],λ x=>Lq k x.1 x.2⟩
def Lq.d:Fd := { nt:=11,nv:=2,nm:=[0,1,2,3],res:=[4],cs:=λ k=>[(145,Mc.e k)],rf:=true }
def Lq.s (k:Nat):CK 83 (Lq.e k):=mS Lq.d k [] Tryz.func83 ⟨Mc.s k,trivial⟩ trivial
def Ec.e (k:Nat):Ent:=⟨2,[(.val true t17),(.val false .s)],[(.one,t7)],λ x=>Ec k x.1 x.2⟩
def Ec.d:Fd := { nt:=20,nv:=2,nm:=[0,1,2,3],res:=[4],cs:=λ k=>[(82,Ft.e k),(83,Lq.e k)],rf:=true }
def Ec.s (k:Nat):CK 30 (Ec.e k):=mS Ec.d k [] Tryz.func30 ⟨Ft.s k,Lq.s k,trivial⟩ trivial
def Fl.e (k:Nat):Ent:=⟨2,[(.val true t48),(.val false t6)],[(.one,t7)],λ x=>Fl k x.1 x.2⟩
def E7.p:LF:=⟨⟨[(2,(.bp 2 0 0)),(3999,(.hd 9))],[(5,t7),(7,(.i .i64)),(10,t6),(11,(.i .i64)),(12,(.i .i64)),(17,t45),(18,(.i .i64)),(19,(.i .i64)),(3000,t48)]⟩,[((.exit 2),⟨[(2,(.bp 2 0 0)),(3999,(.hd 9))],[(5,t7),(10,t6),(11,(.i .i64)),(12,(.i .i64)),(3000,t48)]⟩)],λ k x=>E7 k x.1 x.2.1 x.2.2.1 x.2.2.2.1 x.2.2.2.2.1 x.2.2.2.2.2.1 x.2.2.2.2.2.2.1 x.2.2.2.2.2.2.2.1 x.2.2.2.2.2.2.2.2⟩
def Gk.p:LF:=⟨⟨[(2,(.bp 2 0 0)),(3999,(.hd 9))],[(5,t7),(10,t6),(11,(.i .i64)),(12,(.i .i64)),(3000,t48)]⟩,[((.exit 0),⟨[],[(5,t7)]⟩)],λ k x=>Gk k x.1 x.2.1 x.2.2.1 x.2.2.2.1 x.2.2.2.2⟩
def Fl.d:Fd := { nt:=35,nv:=2,nm:=[0,1,2,3,5,6,7,8,9],res:=[4],ls:=[(6,E7.p),(3,Gk.p)],rf:=true }
def E7.s:LL Tryz.f47 Fl.d 6 E7.p:=mL [] (λ _=>trivial) trivial
def Gk.s:LL Tryz.f47 Fl.d 3 Gk.p:=mL [6] (λ _=>trivial) ⟨E7.s,trivial⟩
def Fl.s (k:Nat):CK 47 (Fl.e k):=mS Fl.d k [3] Tryz.func47 trivial ⟨Gk.s,trivial⟩
def Hb.e (k:Nat):Ent:=⟨2,[(.val false t6),(.val false (.i .i64))],[(.one,(.i .i64))],λ x=>Hb x.1 x.2⟩
def Hb.d:Fd := { nt:=20,nv:=2,nm:=[0,1,2,3],res:=[4],cs:=λ k=>[(42,Fy.e k)],rf:=true }
def Hb.s (k:Nat):CK 132 (Hb.e k):=mS Hb.d k [] Tryz.func132 ⟨Fy.s k,trivial⟩ trivial
def Hv.e (k:Nat):Ent:=⟨2,[(.val false t13),(.val false .s)],[(.one,t13)],λ x=>Hv k x.1 x.2⟩
def Hv.d:Fd := { nt:=21,nv:=2,nm:=[0,1,2,3,5],res:=[4],cs:=λ k=>[(118,Ll.e k)] }
def Hv.s (k:Nat):CK 190 (Hv.e k):=mS Hv.d k [] Tryz.func190 ⟨Ll.s k,trivial⟩ trivial
def M6.e (k:Nat):Ent:=⟨2,[(.val false t13),(.val true t11)],[(.one,t14)],λ x=>M6 k x.1 x.2⟩
def L8.p:LF:=⟨⟨[(3,(.bp 3 0 0)),(4999,(.hd 2))],[(0,t13),(5,(.i .i64)),(4000,.s),(4001,t4)]⟩,[((.exit 0),⟨[(3,(.bp 3 0 0)),(4999,(.hd 2))],[(0,t13),(5,(.i .i64)),(4000,.s),(4001,t4)]⟩)],λ k x=>L8 k x.1 x.2.1 x.2.2.1 x.2.2.2⟩
def M6.d:Fd := { nt:=33,nv:=2,nm:=[0,1,2,3,5],res:=[4],ls:=[(2,L8.p)] }
def L8.s:LL Tryz.f191 M6.d 2 L8.p:=mL [] (λ _=>trivial) trivial
def M6.s (k:Nat):CK 191 (M6.e k):=mS M6.d k [2] Tryz.func191 trivial ⟨L8.s,trivial⟩
def Ca.e (k:Nat):Ent:=⟨2,[(.val true t28),(.val false .s)],[(.agg,(.pr t14 t13)),(.one,.b)],λ x=>Ca k x.1 x.2⟩
def Ca.d:Fd := { nt:=50,nv:=2,nm:=[0,1,2,3,6,7],res:=[5],cs:=λ k=>[(88,Ar.e k),(105,Av.e k),(118,Ll.e k),(151,Bz.e k),(156,A6.e k),(190,Hv.e k),(191,M6.e k)],mv:=[18,49] }
def Ca.s (k:Nat):CK 135 (Ca.e k):=mS Ca.d k [] Tryz.func135 ⟨Ar.s k,Av.s k,Ll.s k,Bz.s k,A6.s k,Hv.s k,M6.s k,trivial⟩ trivial
def Ed.e (k:Nat):Ent:=⟨3,[(.val true t28),(.val false .s),(.val false t4)],[(.agg,t29),(.one,.b)],λ x=>Ed k x.1 x.2.1 x.2.2⟩
def Ed.d:Fd := { nt:=42,nv:=3,nm:=[0,1,2,3,4,5,8],res:=[7],cs:=λ k=>[(88,Ar.e k),(105,Av.e k),(151,Bz.e k),(156,A6.e k),(190,Hv.e k),(191,M6.e k)],mv:=[24,41] }
def Ed.s (k:Nat):CK 189 (Ed.e k):=mS Ed.d k [] Tryz.func189 ⟨Ar.s k,Av.s k,Bz.s k,A6.s k,Hv.s k,M6.s k,trivial⟩ trivial
def Mj.e (k:Nat):Ent:=⟨4,[(.val true t28),(.val false .s),(.val true t25),(.val false .b)],[(.agg,t28),(.one,(.i .i64))],λ x=>Mj k x.1 x.2.1 x.2.2.1 x.2.2.2⟩
def Mj.d:Fd := { nt:=82,nv:=4,nm:=[0,1,2,3,4,5,6,7,10,11,12,13,14,15,16,17,18,19],res:=[9],cs:=λ k=>[(15,Ie.e k),(61,Fq.e k),(62,Ef.e k),(88,Ar.e k),(121,Fh.e k),(135,Ca.e k),(149,Fz.e k),(151,Bz.e k),(156,A6.e k),(189,Ed.e k)],mv:=[80] }
def Mj.s (k:Nat):CK 133 (Mj.e k):=mS Mj.d k [] Tryz.func133 ⟨Ie.s k,Fq.s k,Ef.s k,Ar.s k,Fh.s k,Ca.s k,Fz.s k,Bz.s k,A6.s k,Ed.s k,trivial⟩ trivial
def Fa.e (k:Nat):Ent:=⟨2,[(.val true t28),(.val false .s)],[(.agg,(.pr t13 t14)),(.one,.b)],λ x=>Fa k x.1 x.2⟩
def Fa.d:Fd := { nt:=26,nv:=2,nm:=[0,1,2,3,6],res:=[5],cs:=λ k=>[(118,Ll.e k),(151,Bz.e k),(156,A6.e k),(190,Hv.e k)],mv:=[19,25] }
def Fa.s (k:Nat):CK 134 (Fa.e k):=mS Fa.d k [] Tryz.func134 ⟨Ll.s k,Bz.s k,A6.s k,Hv.s k,trivial⟩ trivial
def Ai.e (k:Nat):Ent:=⟨4,[(.ptr t51 t51),(.val false (.i .i64)),(.val false .s),(.val false t6)],[(.one,.b)],λ x=>Ai k x.1 x.2.1 x.2.2.1 x.2.2.2⟩
def Ad.p:LF:=⟨⟨[(0,(.bp 0 0 0)),(9,(.bp 9 0 0)),(1999,(.hd 9)),(10999,(.hd 5))],[(1,(.i .i64)),(2,.s),(3,t6),(11,.b),(12,.b),(43,t7),(44,(.i .i64)),(45,(.i .i64)),(1000,t51),(10000,t25)]⟩,[((.exit 0),⟨[(0,(.bp 0 0 0)),(1999,(.hd 9))],[(1,(.i .i64)),(2,.s),(11,.b),(12,.b),(1000,t51)]⟩)],λ k x=>Ad k x.1 x.2.1 x.2.2.1 x.2.2.2.1 x.2.2.2.2.1 x.2.2.2.2.2.1 x.2.2.2.2.2.2.1 x.2.2.2.2.2.2.2.1 x.2.2.2.2.2.2.2.2.1 x.2.2.2.2.2.2.2.2.2⟩
def Ai.d:Fd := { nt:=120,nv:=4,nm:=[0,1,2,3,4,5,6,7,9,10,11,12,13,14,15,16,17,18],res:=[8],cs:=λ k=>[(23,Ig.e k),(30,Ec.e k),(47,Fl.e k),(132,Hb.e k),(133,Mj.e k),(134,Fa.e k),(135,Ca.e k)],ls:=[(6,Ad.p)],rf:=true }
def Ai.a (k:Nat):AC (Ai.d.cs k):=⟨Ig.s k,Ec.s k,Fl.s k,Hb.s k,Mj.s k,Fa.s k,Ca.s k,trivial⟩
def Ad.s:LL Tryz.f78 Ai.d 6 Ad.p:=mL [] Ai.a trivial
def Ai.s (k:Nat):CK 78 (Ai.e k):=mS Ai.d k [6] Tryz.func78 (Ai.a k) ⟨Ad.s,trivial⟩
def Hc.e (k:Nat):Ent:=⟨1,[(.val true t48)],[(.one,t7)],λ x=>Hc k x⟩
def Hc.d:Fd := { nt:=8,nv:=1,nm:=[0,1],res:=[2],cs:=λ k=>[(30,Ec.e k),(47,Fl.e k)],rf:=true }
def Hc.s (k:Nat):CK 11 (Hc.e k):=mS Hc.d k [] Tryz.func11 ⟨Ec.s k,Fl.s k,trivial⟩ trivial
def J2.e (k:Nat):Ent:=⟨2,[(.val true t27),(.val true t27)],[(.one,.b)],λ x=>J2 x.1 x.2⟩
def J2.d:Fd := { nt:=29,nv:=2,nm:=[0,1,2,3],res:=[4],cs:=λ k=>[(12,Cb.e k)] }
def J2.s (k:Nat):CK 95 (J2.e k):=mS J2.d k [] Tryz.func95 ⟨Cb.s k,trivial⟩ trivial
def Cr.e (k:Nat):Ent:=⟨2,[(.val false t31),(.val true t27)],[(.one,t32)],λ x=>Cr k x.1 x.2⟩
def E8.p:LF:=⟨⟨[(3,(.bp 3 0 0)),(4999,(.hd 6))],[(0,t31),(8,(.i .i64)),(4000,.s),(4001,(.i .i64)),(4002,(.i .i64)),(4003,(.i .i64)),(4004,.b),(4005,(.i .i64))]⟩,[((.exit 2),⟨[(3,(.bp 3 0 0)),(4999,(.hd 6))],[(0,t31),(8,(.i .i64)),(4000,.s),(4001,(.i .i64)),(4002,(.i .i64)),(4003,(.i .i64)),(4004,.b),(4005,(.i .i64))]⟩)],λ k x=>E8 k x.1 x.2.1 x.2.2.1 x.2.2.2.1 x.2.2.2.2.1 x.2.2.2.2.2.1 x.2.2.2.2.2.2.1 x.2.2.2.2.2.2.2⟩
def Fb.p:LF:=⟨⟨[(3,(.bp 3 0 0)),(4999,(.hd 6))],[(0,t31),(5,t32),(11,t31),(12,(.i .i64)),(13,(.i .i64)),(4000,.s),(4001,(.i .i64)),(4002,(.i .i64)),(4003,(.i .i64)),(4004,.b),(4005,(.i .i64))]⟩,[(.ret,⟨[],[(4,t32)]⟩),((.exit 0),⟨[(3,(.bp 3 0 0)),(4999,(.hd 6))],[(0,t31),(4000,.s),(4001,(.i .i64)),(4002,(.i .i64)),(4003,(.i .i64)),(4004,.b),(4005,(.i .i64))]⟩)],λ k x=>Fb k x.1 x.2.1 x.2.2.1 x.2.2.2.1 x.2.2.2.2.1 x.2.2.2.2.2.1 x.2.2.2.2.2.2.1 x.2.2.2.2.2.2.2.1 x.2.2.2.2.2.2.2.2.1 x.2.2.2.2.2.2.2.2.2.1 x.2.2.2.2.2.2.2.2.2.2⟩
def Cr.d:Fd := { nt:=60,nv:=2,nm:=[0,1,2,3,5,6,7,8],res:=[4],cs:=λ k=>[(94,Ao.e k),(95,J2.e k)],ls:=[(11,E8.p),(3,Fb.p)] }
def Cr.a (k:Nat):AC (Cr.d.cs k):=⟨Ao.s k,J2.s k,trivial⟩
def E8.s:LL Tryz.f39 Cr.d 11 E8.p:=mL [] Cr.a trivial
def Fb.s:LL Tryz.f39 Cr.d 3 Fb.p:=mL [] Cr.a trivial
def Cr.s (k:Nat):CK 39 (Cr.e k):=mS Cr.d k [3,11] Tryz.func39 (Cr.a k) ⟨Fb.s,E8.s,trivial⟩
def Cw.e (k:Nat):Ent:=⟨2,[(.val false t31),(.val false t31)],[(.one,t32)],λ x=>Cw k x.1 x.2⟩
def E9.p:LF:=⟨⟨[],[(5,t32),(10,t31),(11,(.i .i64)),(12,(.i .i64))]⟩,[((.exit 0),⟨[],[(5,t32)]⟩)],λ k x=>E9 k x.1 x.2.1 x.2.2.1 x.2.2.2⟩
def Cw.d:Fd := { nt:=21,nv:=2,nm:=[0,1,2,3,5,6,7],res:=[4],cs:=λ k=>[(39,Cr.e k),(94,Ao.e k)],ls:=[(3,E9.p)] }
def Cw.a (k:Nat):AC (Cw.d.cs k):=⟨Cr.s k,Ao.s k,trivial⟩
def E9.s:LL Tryz.f40 Cw.d 3 E9.p:=mL [] Cw.a trivial
def Cw.s (k:Nat):CK 40 (Cw.e k):=mS Cw.d k [3] Tryz.func40 (Cw.a k) ⟨E9.s,trivial⟩
def J3.e (k:Nat):Ent:=⟨2,[(.val true t40),(.val false t31)],[(.agg,t41),(.one,.b)],λ x=>J3 k x.1 x.2⟩
def J3.d:Fd := { nt:=30,nv:=2,nm:=[0,1,2,3,6],res:=[5],cs:=λ k=>[(40,Cw.e k),(87,Er.e k),(97,Cq.e k),(152,Ep.e k)],mv:=[17,29] }
def J3.s (k:Nat):CK 199 (J3.e k):=mS J3.d k [] Tryz.func199 ⟨Cw.s k,Er.s k,Cq.s k,Ep.s k,trivial⟩ trivial
def As.e (k:Nat):Ent:=⟨4,[(.ptr t51 t51),(.val false t31),(.val false t6),(.val false (.i .i64))],[(.one,.b)],λ x=>As k x.1 x.2.1 x.2.2.1 x.2.2.2⟩
def B2.p:LF:=⟨⟨[(0,(.bp 0 0 0)),(1999,(.hd 9))],[(1,t31),(2,t6),(3,(.i .i64)),(9,.b),(17,t7),(18,(.i .i64)),(19,(.i .i64)),(1000,t51)]⟩,[((.exit 0),⟨[(1999,(.hd 9))],[(9,.b),(1000,t51)]⟩)],λ k x=>B2 k x.1 x.2.1 x.2.2.1 x.2.2.2.1 x.2.2.2.2.1 x.2.2.2.2.2.1 x.2.2.2.2.2.2.1 x.2.2.2.2.2.2.2⟩
def As.d:Fd := { nt:=56,nv:=4,nm:=[0,1,2,3,4,5,6,7,9,10,11,12,13],res:=[8],cs:=λ k=>[(11,Hc.e k),(132,Hb.e k),(199,J3.e k)],ls:=[(3,B2.p)],rf:=true }
def As.a (k:Nat):AC (As.d.cs k):=⟨Hc.s k,Hb.s k,J3.s k,trivial⟩
def B2.s:LL Tryz.f153 As.d 3 B2.p:=mL [] As.a trivial
def As.s (k:Nat):CK 153 (As.e k):=mS As.d k [3] Tryz.func153 (As.a k) ⟨B2.s,trivial⟩
def C8.e (k:Nat):Ent:=⟨3,[(.ptr t51 t51),(.val false (.i .i64)),(.val false t6)],[(.one,.b)],λ x=>C8 k x.1 x.2.1 x.2.2⟩
def C8.d:Fd := { nt:=47,nv:=3,nm:=[0,1,2,3,4,5],res:=[6],cs:=λ k=>[(94,Ao.e k),(153,As.e k)],rf:=true }
def C8.s (k:Nat):CK 90 (C8.e k):=mS C8.d k [] Tryz.func90 ⟨Ao.s k,As.s k,trivial⟩ trivial
def C0.e (k:Nat):Ent:=⟨3,[(.ptr t51 t51),(.val false (.i .i64)),(.val false t6)],[(.one,.b)],λ x=>C0 k x.1 x.2.1 x.2.2⟩
def C0.d:Fd := { nt:=43,nv:=3,nm:=[0,1,2,3,4,5,7,8],res:=[6],cs:=λ k=>[(11,Hc.e k),(49,Ic.e k),(94,Ao.e k),(153,As.e k)],rf:=true }
def C0.s (k:Nat):CK 92 (C0.e k):=mS C0.d k [] Tryz.func92 ⟨Hc.s k,Ic.s k,Ao.s k,As.s k,trivial⟩ trivial
def I6.e (k:Nat):Ent:=⟨0,[],[(.one,t7)],λ _=>I6 k⟩
def Fc.p:LF:=⟨⟨[],[(1,t7),(2,(.i .i64))]⟩,[((.exit 0),⟨[],[(1,t7)]⟩)],λ k x=>Fc k x.1 x.2⟩
def I6.d:Fd := { nt:=9,nv:=0,nm:=[1],res:=[0],ls:=[(3,Fc.p)],rf:=true }
def Fc.s:LL Tryz.f99 I6.d 3 Fc.p:=mL [] (λ _=>trivial) trivial
def I6.s (k:Nat):CK 99 (I6.e k):=mS I6.d k [3] Tryz.func99 trivial ⟨Fc.s,trivial⟩
def Ja.e (k:Nat):Ent:=⟨1,[(.val true t28)],[(.agg,t28),(.one,(.i .i64))],λ x=>Ja k x⟩
def I7.p:LF:=⟨⟨[(2,(.bp 2 0 0)),(4,(.bp 4 0 0)),(3999,(.hd 2)),(5999,(.hd 2))],[(5,(.i .i64)),(17,t13),(18,(.i .i64)),(19,(.i .i64)),(3000,t29),(5000,t28)]⟩,[((.exit 0),⟨[(2,(.bp 2 0 0)),(4,(.bp 4 0 0)),(3999,(.hd 2)),(5999,(.hd 2))],[(5,(.i .i64)),(3000,t29),(5000,t28)]⟩)],λ k x=>I7 k x.1 x.2.1 x.2.2.1 x.2.2.2.1 x.2.2.2.2.1 x.2.2.2.2.2⟩
def Ja.d:Fd := { nt:=48,nv:=1,nm:=[0,1,4,5,6,7,8,9],res:=[3],cs:=λ k=>[(62,Ef.e k),(151,Bz.e k),(156,A6.e k),(190,Hv.e k)],ls:=[(6,I7.p)],mv:=[15],rf:=true }
def Ja.a (k:Nat):AC (Ja.d.cs k):=⟨Ef.s k,Bz.s k,A6.s k,Hv.s k,trivial⟩
def I7.s:LL Tryz.f157 Ja.d 6 I7.p:=mL [] Ja.a trivial
def Ja.s (k:Nat):CK 157 (Ja.e k):=mS Ja.d k [6] Tryz.func157 (Ja.a k) ⟨I7.s,trivial⟩
def Hw.e (k:Nat):Ent:=⟨1,[(.val true t40)],[(.agg,t42),(.one,(.i .i64))],λ x=>Hw k x⟩
def Hw.d:Fd := { nt:=19,nv:=1,nm:=[0,1,4,5,6],res:=[3],cs:=λ k=>[(97,Cq.e k),(157,Ja.e k)],mv:=[17],rf:=true }
def Hw.s (k:Nat):CK 100 (Hw.e k):=mS Hw.d k [] Tryz.func100 ⟨Cq.s k,Ja.s k,trivial⟩ trivial
def Af.e (k:Nat):Ent:=⟨1,[(.ptr t51 t51)],[],λ x=>Af k x⟩
def Bl.p:LF:=⟨⟨[(0,(.bp 0 0 0)),(1999,(.hd 9))],[(2,t6),(3,(.i .i64)),(11,(.i .i64)),(12,(.i .i64)),(60,(.i .i64)),(61,(.i .i64)),(1000,t51)]⟩,[((.exit 4),⟨[(0,(.bp 0 0 0)),(1999,(.hd 9))],[(2,t6),(3,(.i .i64)),(11,(.i .i64)),(12,(.i .i64)),(1000,t51)]⟩)],λ k x=>Bl k x.1 x.2.1 x.2.2.1 x.2.2.2.1 x.2.2.2.2.1 x.2.2.2.2.2.1 x.2.2.2.2.2.2⟩
def Bd.p:LF:=⟨⟨[(0,(.bp 0 0 0)),(1999,(.hd 9))],[(2,t6),(3,(.i .i64)),(11,(.i .i64)),(12,(.i .i64)),(40,t0),(41,(.i .i64)),(42,(.i .i64)),(1000,t51)]⟩,[((.exit 2),⟨[(0,(.bp 0 0 0)),(1999,(.hd 9))],[(2,t6),(3,(.i .i64)),(11,(.i .i64)),(12,(.i .i64)),(1000,t51)]⟩)],λ k x=>Bd k x.1 x.2.1 x.2.2.1 x.2.2.2.1 x.2.2.2.2.1 x.2.2.2.2.2.1 x.2.2.2.2.2.2.1 x.2.2.2.2.2.2.2⟩
def C1.p:LF:=⟨⟨[(0,(.bp 0 0 0)),(1999,(.hd 9))],[(2,t6),(11,(.i .i64)),(12,(.i .i64)),(1000,t51)]⟩,[((.exit 0),⟨[(1999,(.hd 9))],[(1000,t51)]⟩)],λ k x=>C1 k x.1 x.2.1 x.2.2.1 x.2.2.2⟩
def Af.d:Fd := { nt:=73,nv:=1,nm:=[0,1,2,3,4,5],res:=[],cs:=λ k=>[(54,K6.e k),(78,Ai.e k),(90,C8.e k),(92,C0.e k),(99,I6.e k),(100,Hw.e k)],ls:=[(11,Bl.p),(6,Bd.p),(2,C1.p)],rf:=true }
def Af.a (k:Nat):AC (Af.d.cs k):=⟨K6.s k,Ai.s k,C8.s k,C0.s k,I6.s k,Hw.s k,trivial⟩
def Bl.s:LL Tryz.f43 Af.d 11 Bl.p:=mL [] Af.a trivial
def Bd.s:LL Tryz.f43 Af.d 6 Bd.p:=mL [] Af.a trivial
def C1.s:LL Tryz.f43 Af.d 2 C1.p:=mL [6,11] Af.a ⟨Bd.s,Bl.s,trivial⟩
def Af.s (k:Nat):CK 43 (Af.e k):=mS Af.d k [2] Tryz.func43 (Af.a k) ⟨C1.s,trivial⟩
def Lv.e (k:Nat):Ent:=⟨1,[(.val true t48)],[(.agg,t51)],λ x=>Lv k x⟩
def Lv.d:Fd := { nt:=10,nv:=1,nm:=[0,1,3],res:=[],cs:=λ k=>[(32,Di.e k),(41,C3.e k),(43,Af.e k)],mv:=[9],rf:=true }
def Lv.s (k:Nat):CK 25 (Lv.e k):=mS Lv.d k [] Tryz.func25 ⟨Di.s k,C3.s k,Af.s k,trivial⟩ trivial
def Fp.e (k:Nat):Ent:=⟨2,[(.val true t17),(.val false t22)],[(.one,.b)],λ x=>Fp k x.1 x.2⟩
def Hx.p:LF:=⟨⟨[(2,(.bp 2 0 0)),(3999,(.hd 2))],[(1,t22),(5,(.i .i64)),(6,(.i .i64)),(3000,t17)]⟩,[(.ret,⟨[],[(4,.b)]⟩),((.exit 2),⟨[(2,(.bp 2 0 0)),(3999,(.hd 2))],[(1,t22),(5,(.i .i64)),(3000,t17)]⟩)],λ k x=>Hx k x.1 x.2.1 x.2.2.1 x.2.2.2⟩
def Hy.p:LF:=⟨⟨[(2,(.bp 2 0 0)),(3999,(.hd 2))],[(1,t22),(5,(.i .i64)),(3000,t17)]⟩,[(.ret,⟨[],[(4,.b)]⟩),((.exit 0),⟨[],[]⟩)],λ k x=>Hy k x.1 x.2.1 x.2.2⟩
def Fp.d:Fd := { nt:=68,nv:=2,nm:=[0,1,2,3,5,6,7,8],res:=[4],cs:=λ k=>[(72,A9.e k),(122,C4.e k),(123,Eo.e k),(124,Ek.e k)],ls:=[(9,Hx.p),(4,Hy.p)],rf:=true }
def Fp.a (k:Nat):AC (Fp.d.cs k):=⟨A9.s k,C4.s k,Eo.s k,Ek.s k,trivial⟩
def Hx.s:LL Tryz.f64 Fp.d 9 Hx.p:=mL [] Fp.a trivial
def Hy.s:LL Tryz.f64 Fp.d 4 Hy.p:=mL [9] Fp.a ⟨Hx.s,trivial⟩
def Fp.s (k:Nat):CK 64 (Fp.e k):=mS Fp.d k [4] Tryz.func64 (Fp.a k) ⟨Hy.s,trivial⟩
def Dq.e (k:Nat):Ent:=⟨1,[(.val true t48)],[(.one,.b)],λ x=>Dq k x⟩
def Fe.p:LF:=⟨⟨[(1,(.bp 1 0 0)),(2999,(.hd 9))],[(3,(.i .i64)),(2000,t48)]⟩,[(.ret,⟨[],[(2,.b)]⟩),((.exit 0),⟨[],[]⟩)],λ k x=>Fe k x.1 x.2⟩
def Dq.d:Fd := { nt:=40,nv:=1,nm:=[0,1,3],res:=[2],cs:=λ k=>[(125,C6.e k)],ls:=[(4,Fe.p)],rf:=true }
def Dq.a (k:Nat):AC (Dq.d.cs k):=⟨C6.s k,trivial⟩
def Fe.s:LL Tryz.f65 Dq.d 4 Fe.p:=mL [] Dq.a trivial
def Dq.s (k:Nat):CK 65 (Dq.e k):=mS Dq.d k [4] Tryz.func65 (Dq.a k) ⟨Fe.s,trivial⟩
def Dj.e (k:Nat):Ent:=⟨1,[(.val true t48)],[(.one,.b)],λ x=>Dj k x⟩
def D5.p:LF:=⟨⟨[(1,(.bp 1 0 0)),(2999,(.hd 9))],[(5,(.i .i64)),(2000,t48)]⟩,[(.ret,⟨[],[(2,.b)]⟩),((.exit 2),⟨[],[]⟩)],λ k x=>D5 k x.1 x.2⟩
def Gl.p:LF:=⟨⟨[(1,(.bp 1 0 0)),(2999,(.hd 9))],[(3,(.i .i64)),(2000,t48)]⟩,[(.ret,⟨[],[(2,.b)]⟩),((.exit 0),⟨[(1,(.bp 1 0 0)),(2999,(.hd 9))],[(2000,t48)]⟩)],λ k x=>Gl k x.1 x.2⟩
def Dj.d:Fd := { nt:=91,nv:=1,nm:=[0,1,3,4,5],res:=[2],cs:=λ k=>[(64,Fp.e k),(65,Dq.e k),(66,Cc.e k),(67,Ap.e k),(68,C5.e k),(69,Cd.e k)],ls:=[(10,D5.p),(4,Gl.p)],rf:=true }
def Dj.a (k:Nat):AC (Dj.d.cs k):=⟨Fp.s k,Dq.s k,Cc.s k,Ap.s k,C5.s k,Cd.s k,trivial⟩
def D5.s:LL Tryz.f26 Dj.d 10 D5.p:=mL [] Dj.a trivial
def Gl.s:LL Tryz.f26 Dj.d 4 Gl.p:=mL [] Dj.a trivial
def Dj.s (k:Nat):CK 26 (Dj.e k):=mS Dj.d k [4,10] Tryz.func26 (Dj.a k) ⟨Gl.s,D5.s,trivial⟩
def Es.e (k:Nat):Ent:=⟨1,[(.val false t4)],[(.one,.b)],λ x=>Es k x⟩
def B6.p:LF:=⟨⟨[(3,(.bp 3 0 0)),(5,(.bp 5 0 0)),(4999,(.hd 9)),(6999,(.hd 5))],[(4,.s),(6,.b),(9,.b),(10,(.i .i64)),(4000,t48),(6000,t25)]⟩,[(.ret,⟨[],[(2,.b)]⟩),((.exit 0),⟨[(3,(.bp 3 0 0)),(5,(.bp 5 0 0)),(4999,(.hd 9)),(6999,(.hd 5))],[(4,.s),(6,.b),(9,.b),(4000,t48),(6000,t25)]⟩)],λ k x=>B6 k x.1 x.2.1 x.2.2.1 x.2.2.2.1 x.2.2.2.2.1 x.2.2.2.2.2⟩
def Es.d:Fd := { nt:=101,nv:=1,nm:=[0,1,3,4,5,6,7,8,9,10,11,12,13,14],res:=[2],cs:=λ k=>[(8,O9.e k),(13,D8.e k),(15,Ie.e k),(21,Dz.e k),(22,Dm.e k),(23,Ig.e k),(24,I4.e k),(25,Lv.e k),(26,Dj.e k)],ls:=[(10,B6.p)],sh:=true,rf:=true }
def Es.a (k:Nat):AC (Es.d.cs k):=⟨O9.s k,D8.s k,Ie.s k,Dz.s k,Dm.s k,Ig.s k,I4.s k,Lv.s k,Dj.s k,trivial⟩
def B6.s:LL Tryz.f5 Es.d 10 B6.p:=mL [] Es.a trivial
def Es.s (k:Nat):CK 5 (Es.e k):=mS Es.d k [10] Tryz.func5 (Es.a k) ⟨B6.s,trivial⟩
end

end Go.Proofs.YtiiekghlhfbmmaaGreat.Vf
