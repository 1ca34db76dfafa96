import Derived.Test.YtiiekghlhfbmmaaGreatMab
import Derived.Test.YtiiekghlhfbmmaaGreatMaj
import Derived.Test.YtiiekghlhfbmmaaGreatProg
import Derived.KernelRfl
import Derived.IntWalk
set_option linter.all false
namespace Go.Proofs.YtiiekghlhfbmmaaGreat.Vf
open Go
open List (length getD)
open Int (toNat)
open Go.IntKind (wrap)
open BitVec (ofInt)
def Hlb:=@Int.tmod_eq_emod_of_nonneg
def Ikb:=@Option.some.inj
def Ipb:=@BitVec.toNat_and
def J1b:=@BitVec.toNat_ofInt

section
open Go.Proofs
@[reducible] def t0:Ty := .sl 9 .s
@[reducible] def t1:Ty := .sl 4 .b
@[reducible] def t2:Ty := .ow 9 .s
@[reducible] def t3:Ty := .ow 4 .b
@[reducible] def t4:Ty := .sl 5 (.i .u8)
@[reducible] def t5:Ty := .ow 5 (.i .u8)
@[reducible] def t6:Ty := .sl 3 (.i .i64)
@[reducible] def t7:Ty := .ow 3 (.i .i64)
@[reducible] def t8:Ty := .pr .s (.i .u64)
@[reducible] def t9:Ty := .pr (.i .i64) (.i .i64)
@[reducible] def t10:Ty := .sl 87 t6
@[reducible] def t11:Ty := .pr .s t4
@[reducible] def t12:Ty := .pr .s t5
@[reducible] def t13:Ty := .sl 130 t11
@[reducible] def t14:Ty := .ow 130 t11
@[reducible] def t15:Ty := .ow 130 t12
@[reducible] def t16:Ty := .pr (.i .i64) t9
@[reducible] def t17:Ty := .pr (.i .i64) t10
@[reducible] def t18:Ty := .pr (.i .i64) (.ow 87 t6)
@[reducible] def t19:Ty := .pr (.i .i64) (.ow 87 t7)
@[reducible] def t20:Ty := .pr t4 (.pr (.i .i64) .b)
@[reducible] def t21:Ty := .pr t4 t9
@[reducible] def t22:Ty := .sl 110 t16
@[reducible] def t23:Ty := .ow 110 t16
@[reducible] def t24:Ty := .pr (.i .i64) (.pr (.i .i64) (.pr .b (.i .u8)))
@[reducible] def t25:Ty := .pr t16 (.pr .b t4)
@[reducible] def t26:Ty := .pr t16 (.pr .b t5)
@[reducible] def t27:Ty := .pr .s (.pr t16 (.pr .b (.i .i64)))
@[reducible] def t28:Ty := .pr t13 t13
@[reducible] def t29:Ty := .pr t14 t14
@[reducible] def t30:Ty := .pr t15 t15
@[reducible] def t31:Ty := .sl 50 t27
@[reducible] def t32:Ty := .ow 50 t27
@[reducible] def t33:Ty := .pr .s (.pr t25 .b)
@[reducible] def t34:Ty := .pr (.i .i64) (.pr (.i .i64) (.pr .s (.pr t4 (.pr (.i .i64) t6))))
@[reducible] def t35:Ty := .sl 42 t33
@[reducible] def t36:Ty := .ow 42 t33
@[reducible] def t37:Ty := .pr t32 t32
@[reducible] def t38:Ty := .pr (.i .i64) (.pr t28 (.pr t31 t31))
@[reducible] def t39:Ty := .pr (.i .i64) (.pr t29 t37)
@[reducible] def t40:Ty := .pr (.i .i64) (.pr t28 t37)
@[reducible] def t41:Ty := .sl 48 t38
@[reducible] def t42:Ty := .ow 48 t38
@[reducible] def t43:Ty := .pr t42 (.pr t16 (.pr t36 t2))
@[reducible] def t44:Ty := .pr t22 (.pr t17 (.pr t41 (.pr t16 (.pr t35 t0))))
@[reducible] def t45:Ty := .pr t23 (.pr t18 t43)
@[reducible] def t46:Ty := .pr t23 (.pr t17 (.pr t42 (.pr t16 (.pr t36 t0))))
@[reducible] def t47:Ty := .pr t23 (.pr t17 t43)
def tiL:List (Nat×TI):=[(2,⟨(.i .i64),false,8,[]⟩),
 (3,⟨(.i .i64),false,8,[]⟩),
 (4,⟨.b,false,1,[]⟩),
 (5,⟨(.i .u8),false,1,[]⟩),
 (6,⟨(.i .u8),false,1,[]⟩),
 (7,⟨t24,true,24,[(0,1,false),(1,1,false),(2,1,false),(3,1,false)]⟩),
 (8,⟨t24,true,24,[(0,1,false),(1,1,false),(2,1,false),(3,1,false)]⟩),
 (9,⟨.s,false,16,[]⟩),
 (10,⟨.s,false,16,[]⟩),
 (11,⟨.s,false,16,[]⟩),
 (12,⟨(.i .u64),false,8,[]⟩),
 (13,⟨t8,true,24,[(0,1,false),(1,1,false)]⟩),
 (14,⟨t8,true,24,[(0,1,false),(1,1,false)]⟩),
 (21,⟨(.i .i32),false,4,[]⟩),
 (22,⟨t4,false,24,[]⟩),
 (24,⟨t22,false,24,[]⟩),
 (25,⟨t10,false,24,[]⟩),
 (26,⟨t17,true,32,[(0,1,false),(1,1,false)]⟩),
 (27,⟨t17,true,32,[(0,1,false),(1,1,false)]⟩),
 (28,⟨t41,false,24,[]⟩),
 (29,⟨t16,true,24,[(0,1,false),(1,1,false),(2,1,false)]⟩),
 (30,⟨t16,true,24,[(0,1,false),(1,1,false),(2,1,false)]⟩),
 (31,⟨t35,false,24,[]⟩),
 (32,⟨t0,false,24,[]⟩),
 (33,⟨t44,true,152,[(0,1,false),(1,2,true),(3,1,false),(4,3,true),(7,1,false),(8,1,false)]⟩),
 (34,⟨t44,true,152,[(0,1,false),(1,2,true),(3,1,false),(4,3,true),(7,1,false),(8,1,false)]⟩),
 (37,⟨t6,false,24,[]⟩),
 (39,⟨t25,true,56,[(0,3,true),(3,1,false),(4,1,false)]⟩),
 (40,⟨t25,true,56,[(0,3,true),(3,1,false),(4,1,false)]⟩),
 (41,⟨t33,true,80,[(0,1,false),(1,5,true),(6,1,false)]⟩),
 (42,⟨t33,true,80,[(0,1,false),(1,5,true),(6,1,false)]⟩),
 (43,⟨t13,false,24,[]⟩),
 (44,⟨t28,true,48,[(0,1,false),(1,1,false)]⟩),
 (45,⟨t28,true,48,[(0,1,false),(1,1,false)]⟩),
 (46,⟨t31,false,24,[]⟩),
 (47,⟨t38,true,104,[(0,1,false),(1,2,true),(3,1,false),(4,1,false)]⟩),
 (48,⟨t38,true,104,[(0,1,false),(1,2,true),(3,1,false),(4,1,false)]⟩),
 (49,⟨t27,true,56,[(0,1,false),(1,3,true),(4,1,false),(5,1,false)]⟩),
 (50,⟨t27,true,56,[(0,1,false),(1,3,true),(4,1,false),(5,1,false)]⟩),
 (59,⟨t34,true,88,[(0,1,false),(1,1,false),(2,1,false),(3,1,false),(4,1,false),(5,1,false)]⟩),
 (60,⟨t34,true,88,[(0,1,false),(1,1,false),(2,1,false),(3,1,false),(4,1,false),(5,1,false)]⟩),
 (86,⟨t6,true,24,[(0,1,false)]⟩),
 (87,⟨t6,true,24,[(0,1,false)]⟩),
 (109,⟨t16,true,24,[(0,1,false),(1,1,false),(2,1,false)]⟩),
 (110,⟨t16,true,24,[(0,1,false),(1,1,false),(2,1,false)]⟩),
 (122,⟨t21,true,40,[(0,1,false),(1,1,false),(2,1,false)]⟩),
 (123,⟨t21,true,40,[(0,1,false),(1,1,false),(2,1,false)]⟩),
 (129,⟨t11,true,40,[(0,1,false),(1,1,false)]⟩),
 (130,⟨t11,true,40,[(0,1,false),(1,1,false)]⟩),
 (139,⟨t20,true,40,[(0,1,false),(1,1,false),(2,1,false)]⟩),
 (140,⟨t20,true,40,[(0,1,false),(1,1,false),(2,1,false)]⟩),
 (177,⟨t1,false,24,[]⟩),
 (192,⟨(.i .u64),false,8,[]⟩),
 (201,⟨(.i .u32),false,4,[]⟩),
 (238,⟨(.i .u8),false,1,[]⟩),
 (239,⟨(.i .u8),false,1,[]⟩),
 (242,⟨(.i .i32),false,4,[]⟩),
 (243,⟨(.i .i32),false,4,[]⟩)]
def ti:TypeId→Option TI:=lk tiL
def D8b:List Nat:=[29,30,49,50,109,110]
def eqs:TypeId→Bool:=λ T=>D8b.contains T
def sK:Aba Tryz.prog ti eqs∧∀ T,Tt Tryz.prog ti T=true:=G1b (P:=Tryz.prog) (ti:=ti) (eqs:=eqs) (keys:=tiL.map Prod.fst) (D8b:=D8b) Z5a (by kernel_rfl) (by kernel_rfl) rfl (by kernel_rfl)
def sO:Aba Tryz.prog ti eqs:=sK.1
def Gwb:∀ T t,ti T=some t→TOk Tryz.prog T t:=sO.tok
def Gxb:∀ T,Tt Tryz.prog ti T=true:=sK.2
abbrev CK:=Pb Tryz.prog
abbrev LL:=LK Tryz.prog
abbrev AC:=Bpb Tryz.prog
def mS {f:FuncId} {fn:Func} (D:Fd) (k:Nat) {en:Ent} (ids:List Nat) (hf:Tryz.prog.funcs[f]? = some fn) (hc:AC (D.cs k)) (hi:Bqb Tryz.prog fn D ids) (h:(G0b fn D en,M3 (bo fn),ids.map λ l=>first (Kw l (bo fn)))=(true,ids.map λ l=>Kw l (bo fn),ids):=by kernel_rfl) (hr:∀ x,Q0a (D.n ti eqs k) (bo fn) fn.results.toList en x=en.run x:=by intro x;kernel_rfl):CK f en:=mkS sO ids hf hc hi (congrArg Prod.fst h) (congrArg Prod.snd h) hr
def mL {fn:Func} {D:Fd} {l:Nat} {p:LF} (ids:List Nat) (hc:∀ k,AC (D.cs k)) (hi:Bqb Tryz.prog fn D ids) (h:(Nat.beq D.nt fn.ntmps,M3 (Kw l (bo fn)),ids.map λ l=>first (Kw l (bo fn)))=(true,ids.map λ l=>Kw l (bo fn),ids):=by kernel_rfl) (h0:∀ x,p.f 0 x=none:=by intro _;rfl) (hs:Gmb ti eqs fn D l p:=by intro k x;kernel_rfl):LL fn D l p:=mkL sO ids (congrArg Prod.fst h) hc hi (congrArg Prod.snd h) h0 hs
def Na.e (k:Nat):Ent:=⟨1,[(.val false t4)],[(.one,.b)],λ x=>Na x⟩
def Na.d:Fd := { nt:=6,nv:=1,nm:=[0,1],res:=[2] }
def Na.s (k:Nat):CK 8 (Na.e k):=mS Na.d k [] Tryz.func8 trivial trivial
def E8.e (k:Nat):Ent:=⟨3,[(.val false (.i .i64)),(.val false (.i .i64)),(.val false (.i .i64))],[(.one,.b)],λ x=>E8 x.1 x.2.1 x.2.2⟩
def E8.d:Fd := { nt:=15,nv:=3,nm:=[0,1,2,3,4,5],res:=[6] }
def E8.s (k:Nat):CK 42 (E8.e k):=mS E8.d k [] Tryz.func42 trivial trivial
def G5.e (k:Nat):Ent:=⟨1,[(.val false t22)],[(.one,.b)],λ x=>G5 k x⟩
def Fs.p:LF:=⟨⟨[],[(0,t22),(5,t22),(6,(.i .i64)),(7,(.i .i64))]⟩,[(.ret,⟨[],[(2,.b)]⟩),((.exit 0),⟨[],[(0,t22)]⟩)],λ k x=>Fs k x.1 x.2.1 x.2.2.1 x.2.2.2⟩
def G5.d:Fd := { nt:=47,nv:=1,nm:=[0,1,3,4],res:=[2],cs:=λ k=>[(42,E8.e k)],ls:=[(2,Fs.p)],rf:=true }
def G5.a (k:Nat):AC (G5.d.cs k):=⟨E8.s k,trivial⟩
def Fs.s:LL Tryz.f146 G5.d 2 Fs.p:=mL [] G5.a trivial
def G5.s (k:Nat):CK 146 (G5.e k):=mS G5.d k [2] Tryz.func146 (G5.a k) ⟨Fs.s,trivial⟩
def Hh.e (k:Nat):Ent:=⟨2,[(.val false t6),(.val false (.i .i64))],[(.one,.b)],λ x=>Hh k x.1 x.2⟩
def Gn.p:LF:=⟨⟨[],[(1,(.i .i64)),(7,t6),(8,(.i .i64)),(9,(.i .i64))]⟩,[(.ret,⟨[],[(4,.b)]⟩),((.exit 0),⟨[],[]⟩)],λ k x=>Gn k x.1 x.2.1 x.2.2.1 x.2.2.2⟩
def Hh.d:Fd := { nt:=17,nv:=2,nm:=[0,1,2,3,5,6],res:=[4],ls:=[(2,Gn.p)],rf:=true }
def Gn.s:LL Tryz.f49 Hh.d 2 Gn.p:=mL [] (λ _=>trivial) trivial
def Hh.s (k:Nat):CK 49 (Hh.e k):=mS Hh.d k [2] Tryz.func49 trivial ⟨Gn.s,trivial⟩
def I7.e (k:Nat):Ent:=⟨1,[(.val false t6)],[(.one,.b)],λ x=>I7 k x⟩
def Ht.p:LF:=⟨⟨[],[(0,t6),(5,t6),(6,(.i .i64)),(7,(.i .i64))]⟩,[(.ret,⟨[],[(2,.b)]⟩),((.exit 0),⟨[],[]⟩)],λ k x=>Ht k x.1 x.2.1 x.2.2.1 x.2.2.2⟩
def I7.d:Fd := { nt:=18,nv:=1,nm:=[0,1,3,4],res:=[2],cs:=λ k=>[(49,Hh.e k)],ls:=[(2,Ht.p)],rf:=true }
def I7.a (k:Nat):AC (I7.d.cs k):=⟨Hh.s k,trivial⟩
def Ht.s:LL Tryz.f147 I7.d 2 Ht.p:=mL [] I7.a trivial
def I7.s (k:Nat):CK 147 (I7.e k):=mS I7.d k [2] Tryz.func147 (I7.a k) ⟨Ht.s,trivial⟩
def Jv.e (k:Nat):Ent:=⟨2,[(.val false t22),(.val false (.i .i64))],[(.agg,t16),(.one,.b)],λ x=>Jv k x.1 x.2⟩
def Hu.p:LF:=⟨⟨[(4,(.bp 4 0 0)),(5999,(.hd 3))],[(1,(.i .i64)),(8,t22),(9,(.i .i64)),(10,(.i .i64)),(5000,t16)]⟩,[(.ret,⟨[(4,(.bp 4 0 0)),(5999,(.hd 3))],[(5,.b),(5000,t16)]⟩),((.exit 0),⟨[(4,(.bp 4 0 0)),(5999,(.hd 3))],[(5000,t16)]⟩)],λ k x=>Hu k x.1 x.2.1 x.2.2.1 x.2.2.2.1 x.2.2.2.2⟩
def Jv.d:Fd := { nt:=21,nv:=2,nm:=[0,1,2,3,6,7],res:=[5],ls:=[(2,Hu.p)],rf:=true }
def Hu.s:LL Tryz.f148 Jv.d 2 Hu.p:=mL [] (λ _=>trivial) trivial
def Jv.s (k:Nat):CK 148 (Jv.e k):=mS Jv.d k [2] Tryz.func148 trivial ⟨Hu.s,trivial⟩
def Ey.e (k:Nat):Ent:=⟨2,[(.val true t17),(.val false t22)],[(.one,.b)],λ x=>Ey k x.1 x.2⟩
def Gp.p:LF:=⟨⟨[(2,(.bp 2 0 0)),(3999,(.hd 2))],[(1,t22),(28,t10),(29,(.i .i64)),(30,(.i .i64)),(47,t6),(48,(.i .i64)),(49,(.i .i64)),(3000,t17)]⟩,[(.ret,⟨[],[(4,.b)]⟩),((.exit 2),⟨[(2,(.bp 2 0 0)),(3999,(.hd 2))],[(1,t22),(28,t10),(29,(.i .i64)),(30,(.i .i64)),(3000,t17)]⟩)],λ k x=>Gp k x.1 x.2.1 x.2.2.1 x.2.2.2.1 x.2.2.2.2.1 x.2.2.2.2.2.1 x.2.2.2.2.2.2.1 x.2.2.2.2.2.2.2⟩
def Gq.p:LF:=⟨⟨[(2,(.bp 2 0 0)),(3999,(.hd 2))],[(1,t22),(28,t10),(29,(.i .i64)),(30,(.i .i64)),(3000,t17)]⟩,[(.ret,⟨[],[(4,.b)]⟩),((.exit 0),⟨[],[]⟩)],λ k x=>Gq k x.1 x.2.1 x.2.2.1 x.2.2.2.1 x.2.2.2.2⟩
def Ey.d:Fd := { nt:=63,nv:=2,nm:=[0,1,2,3,5,6,7,8,9,10],res:=[4],cs:=λ k=>[(42,E8.e k),(146,G5.e k),(147,I7.e k),(148,Jv.e k)],ls:=[(9,Gp.p),(4,Gq.p)],rf:=true }
def Ey.a (k:Nat):AC (Ey.d.cs k):=⟨E8.s k,G5.s k,I7.s k,Jv.s k,trivial⟩
def Gp.s:LL Tryz.f84 Ey.d 9 Gp.p:=mL [] Ey.a trivial
def Gq.s:LL Tryz.f84 Ey.d 4 Gq.p:=mL [9] Ey.a ⟨Gp.s,trivial⟩
def Ey.s (k:Nat):CK 84 (Ey.e k):=mS Ey.d k [4] Tryz.func84 (Ey.a k) ⟨Gq.s,trivial⟩
def Dw.e (k:Nat):Ent:=⟨1,[(.val true t16)],[(.one,.b)],λ x=>Dw x⟩
def Dw.d:Fd := { nt:=16,nv:=1,nm:=[0,1],res:=[2],cs:=λ k=>[(42,E8.e k)] }
def Dw.s (k:Nat):CK 85 (Dw.e k):=mS Dw.d k [] Tryz.func85 ⟨E8.s k,trivial⟩ trivial
def B9.e (k:Nat):Ent:=⟨2,[(.val true t16),(.val true t16)],[(.one,.b)],λ x=>B9 x.1 x.2⟩
def B9.d:Fd := { nt:=32,nv:=2,nm:=[0,1,2,3],res:=[4] }
def B9.s (k:Nat):CK 12 (B9.e k):=mS B9.d k [] Tryz.func12 trivial trivial
def An.e (k:Nat):Ent:=⟨1,[(.val false .s)],[(.one,.b)],λ x=>An k x⟩
def Am.p:LF:=⟨⟨[],[(0,.s),(3,(.i .i64))]⟩,[(.ret,⟨[],[(2,.b)]⟩),((.exit 0),⟨[],[(0,.s)]⟩)],λ k x=>Am k x.1 x.2⟩
def An.d:Fd := { nt:=45,nv:=1,nm:=[0,1,3,4],res:=[2],cs:=λ k=>[(42,E8.e k)],ls:=[(2,Am.p)] }
def An.a (k:Nat):AC (An.d.cs k):=⟨E8.s k,trivial⟩
def Am.s:LL Tryz.f88 An.d 2 Am.p:=mL [] An.a trivial
def An.s (k:Nat):CK 88 (An.e k):=mS An.d k [2] Tryz.func88 (An.a k) ⟨Am.s,trivial⟩
def Fe.e (k:Nat):Ent:=⟨1,[(.val true t25)],[(.one,.b)],λ x=>Fe x⟩
def Fe.d:Fd := { nt:=23,nv:=1,nm:=[0,1],res:=[2],cs:=λ k=>[(85,Dw.e k)] }
def Fe.s (k:Nat):CK 149 (Fe.e k):=mS Fe.d k [] Tryz.func149 ⟨Dw.s k,trivial⟩ trivial
def D7.e (k:Nat):Ent:=⟨1,[(.val true t44)],[(.one,.b)],λ x=>D7 k x⟩
def E9.p:LF:=⟨⟨[(1,(.bp 1 0 0)),(2999,(.hd 9))],[(6,t35),(7,(.i .i64)),(8,(.i .i64)),(2000,t44)]⟩,[(.ret,⟨[],[(2,.b)]⟩),((.exit 0),⟨[(1,(.bp 1 0 0)),(2999,(.hd 9))],[(2000,t44)]⟩)],λ k x=>E9 k x.1 x.2.1 x.2.2.1 x.2.2.2⟩
def D7.d:Fd := { nt:=35,nv:=1,nm:=[0,1,3,4],res:=[2],cs:=λ k=>[(12,B9.e k),(88,An.e k),(149,Fe.e k)],ls:=[(2,E9.p)],rf:=true }
def D7.a (k:Nat):AC (D7.d.cs k):=⟨B9.s k,An.s k,Fe.s k,trivial⟩
def E9.s:LL Tryz.f86 D7.d 2 E9.p:=mL [] D7.a trivial
def D7.s (k:Nat):CK 86 (D7.e k):=mS D7.d k [2] Tryz.func86 (D7.a k) ⟨E9.s,trivial⟩
def J7.e (k:Nat):Ent:=⟨1,[(.val true t27)],[(.one,.b)],λ x=>J7 k x⟩
def J7.d:Fd := { nt:=26,nv:=1,nm:=[0,1],res:=[2],cs:=λ k=>[(42,E8.e k),(85,Dw.e k),(88,An.e k)] }
def J7.s (k:Nat):CK 150 (J7.e k):=mS J7.d k [] Tryz.func150 ⟨E8.s k,Dw.s k,An.s k,trivial⟩ trivial
def Dx.e (k:Nat):Ent:=⟨1,[(.val false t13)],[(.one,.b)],λ x=>Dx k x⟩
def Ea.p:LF:=⟨⟨[],[(0,t13),(5,t13),(6,(.i .i64)),(7,(.i .i64))]⟩,[(.ret,⟨[],[(2,.b)]⟩),((.exit 0),⟨[],[(0,t13)]⟩)],λ k x=>Ea k x.1 x.2.1 x.2.2.1 x.2.2.2⟩
def Dx.d:Fd := { nt:=41,nv:=1,nm:=[0,1,3,4],res:=[2],cs:=λ k=>[(88,An.e k)],ls:=[(2,Ea.p)] }
def Dx.a (k:Nat):AC (Dx.d.cs k):=⟨An.s k,trivial⟩
def Ea.s:LL Tryz.f198 Dx.d 2 Ea.p:=mL [] Dx.a trivial
def Dx.s (k:Nat):CK 198 (Dx.e k):=mS Dx.d k [2] Tryz.func198 (Dx.a k) ⟨Ea.s,trivial⟩
def Bp.e (k:Nat):Ent:=⟨1,[(.val true t28)],[(.one,.b)],λ x=>Bp k x⟩
def Bp.d:Fd := { nt:=11,nv:=1,nm:=[0,1],res:=[2],cs:=λ k=>[(198,Dx.e k)] }
def Bp.s (k:Nat):CK 151 (Bp.e k):=mS Bp.d k [] Tryz.func151 ⟨Dx.s k,trivial⟩ trivial
def E4.e (k:Nat):Ent:=⟨1,[(.val false t31)],[(.one,.b)],λ x=>E4 k x⟩
def Ft.p:LF:=⟨⟨[],[(0,t31),(5,t31),(6,(.i .i64)),(7,(.i .i64))]⟩,[(.ret,⟨[],[(2,.b)]⟩),((.exit 0),⟨[],[(0,t31)]⟩)],λ k x=>Ft k x.1 x.2.1 x.2.2.1 x.2.2.2⟩
def E4.d:Fd := { nt:=34,nv:=1,nm:=[0,1,3,4],res:=[2],cs:=λ k=>[(150,J7.e k)],ls:=[(2,Ft.p)] }
def E4.a (k:Nat):AC (E4.d.cs k):=⟨J7.s k,trivial⟩
def Ft.s:LL Tryz.f152 E4.d 2 Ft.p:=mL [] E4.a trivial
def E4.s (k:Nat):CK 152 (E4.e k):=mS E4.d k [2] Tryz.func152 (E4.a k) ⟨Ft.s,trivial⟩
def E5.e (k:Nat):Ent:=⟨1,[(.val true t38)],[(.one,.b)],λ x=>E5 k x⟩
def Gr.p:LF:=⟨⟨[(1,(.bp 1 0 0)),(2999,(.hd 5))],[(6,t31),(7,(.i .i64)),(8,(.i .i64)),(2000,(.i .i64)),(2001,t13),(2002,t13),(2003,t31),(2004,t31)]⟩,[(.ret,⟨[],[(2,.b)]⟩),((.exit 0),⟨[(1,(.bp 1 0 0)),(2999,(.hd 5))],[(2000,(.i .i64)),(2001,t13),(2002,t13),(2003,t31),(2004,t31)]⟩)],λ k x=>Gr k x.1 x.2.1 x.2.2.1 x.2.2.2.1 x.2.2.2.2.1 x.2.2.2.2.2.1 x.2.2.2.2.2.2.1 x.2.2.2.2.2.2.2⟩
def E5.d:Fd := { nt:=35,nv:=1,nm:=[0,1,3,4],res:=[2],cs:=λ k=>[(42,E8.e k),(150,J7.e k),(151,Bp.e k),(152,E4.e k)],ls:=[(2,Gr.p)] }
def E5.a (k:Nat):AC (E5.d.cs k):=⟨E8.s k,J7.s k,Bp.s k,E4.s k,trivial⟩
def Gr.s:LL Tryz.f87 E5.d 2 Gr.p:=mL [] E5.a trivial
def E5.s (k:Nat):CK 87 (E5.e k):=mS E5.d k [2] Tryz.func87 (E5.a k) ⟨Gr.s,trivial⟩
def D5.e (k:Nat):Ent:=⟨1,[(.val true t44)],[(.one,.b)],λ x=>D5 k x⟩
def Co.p:LF:=⟨⟨[(1,(.bp 1 0 0)),(2999,(.hd 9))],[(57,t0),(58,(.i .i64)),(59,(.i .i64)),(2000,t44)]⟩,[(.ret,⟨[],[(2,.b)]⟩),((.exit 2),⟨[],[]⟩)],λ k x=>Co k x.1 x.2.1 x.2.2.1 x.2.2.2⟩
def Eb.p:LF:=⟨⟨[(1,(.bp 1 0 0)),(2999,(.hd 9))],[(34,t41),(35,(.i .i64)),(36,(.i .i64)),(2000,t44)]⟩,[(.ret,⟨[],[(2,.b)]⟩),((.exit 0),⟨[(1,(.bp 1 0 0)),(2999,(.hd 9))],[(2000,t44)]⟩)],λ k x=>Eb k x.1 x.2.1 x.2.2.1 x.2.2.2⟩
def D5.d:Fd := { nt:=82,nv:=1,nm:=[0,1,3,4,5,6],res:=[2],cs:=λ k=>[(84,Ey.e k),(85,Dw.e k),(86,D7.e k),(87,E5.e k),(88,An.e k)],ls:=[(10,Co.p),(4,Eb.p)],rf:=true }
def D5.a (k:Nat):AC (D5.d.cs k):=⟨Ey.s k,Dw.s k,D7.s k,E5.s k,An.s k,trivial⟩
def Co.s:LL Tryz.f32 D5.d 10 Co.p:=mL [] D5.a trivial
def Eb.s:LL Tryz.f32 D5.d 4 Eb.p:=mL [] D5.a trivial
def D5.s (k:Nat):CK 32 (D5.e k):=mS D5.d k [4,10] Tryz.func32 (D5.a k) ⟨Eb.s,Co.s,trivial⟩
def F4.e (k:Nat):Ent:=⟨1,[(.val false t6)],[(.one,t7)],λ x=>F4 x⟩
def F4.d:Fd := { nt:=5,nv:=1,nm:=[0,1],res:=[2],rf:=true }
def F4.s (k:Nat):CK 82 (F4.e k):=mS F4.d k [] Tryz.func82 trivial trivial
def D8.e (k:Nat):Ent:=⟨1,[(.val true t17)],[(.agg,t18)],λ x=>D8 k x⟩
def Ec.p:LF:=⟨⟨[(2,(.bp 2 0 0)),(3,(.bp 3 0 0)),(3999,(.hd 2)),(4999,(.hd 2))],[(10,t10),(11,(.i .i64)),(12,(.i .i64)),(3000,t18),(4000,t18)]⟩,[((.exit 0),⟨[(2,(.bp 2 0 0)),(3,(.bp 3 0 0)),(3999,(.hd 2)),(4999,(.hd 2))],[(3000,t18),(4000,t18)]⟩)],λ k x=>Ec k x.1 x.2.1 x.2.2.1 x.2.2.2.1 x.2.2.2.2⟩
def D8.d:Fd := { nt:=27,nv:=1,nm:=[0,1,3,4,5],res:=[],cs:=λ k=>[(82,F4.e k)],ls:=[(3,Ec.p)],mv:=[26],rf:=true }
def D8.a (k:Nat):AC (D8.d.cs k):=⟨F4.s k,trivial⟩
def Ec.s:LL Tryz.f96 D8.d 3 Ec.p:=mL [] D8.a trivial
def D8.s (k:Nat):CK 96 (D8.e k):=mS D8.d k [3] Tryz.func96 (D8.a k) ⟨Ec.s,trivial⟩
def Aj.e (k:Nat):Ent:=⟨1,[(.val false t31)],[(.one,t32)],λ x=>Aj x⟩
def Aj.d:Fd := { nt:=5,nv:=1,nm:=[0,1],res:=[2] }
def Aj.s (k:Nat):CK 94 (Aj.e k):=mS Aj.d k [] Tryz.func94 trivial trivial
def Aq.e (k:Nat):Ent:=⟨1,[(.val false t4)],[(.one,t5)],λ x=>Aq x⟩
def Aq.d:Fd := { nt:=5,nv:=1,nm:=[0,1],res:=[2] }
def Aq.s (k:Nat):CK 105 (Aq.e k):=mS Aq.d k [] Tryz.func105 trivial trivial
def C2.e (k:Nat):Ent:=⟨1,[(.val false t13)],[(.one,t14)],λ x=>C2 k x⟩
def Dd.p:LF:=⟨⟨[],[(3,t14),(6,t13),(7,(.i .i64)),(8,(.i .i64))]⟩,[((.exit 0),⟨[],[(3,t14)]⟩)],λ k x=>Dd k x.1 x.2.1 x.2.2.1 x.2.2.2⟩
def C2.d:Fd := { nt:=23,nv:=1,nm:=[0,1,3,4,5],res:=[2],cs:=λ k=>[(105,Aq.e k)],ls:=[(3,Dd.p)] }
def C2.a (k:Nat):AC (C2.d.cs k):=⟨Aq.s k,trivial⟩
def Dd.s:LL Tryz.f202 C2.d 3 Dd.p:=mL [] C2.a trivial
def C2.s (k:Nat):CK 202 (C2.e k):=mS C2.d k [3] Tryz.func202 (C2.a k) ⟨Dd.s,trivial⟩
def A5.e (k:Nat):Ent:=⟨1,[(.val true t28)],[(.agg,t29)],λ x=>A5 k x⟩
def A5.d:Fd := { nt:=10,nv:=1,nm:=[0,1],res:=[],cs:=λ k=>[(202,C2.e k)] }
def A5.s (k:Nat):CK 156 (A5.e k):=mS A5.d k [] Tryz.func156 ⟨C2.s k,trivial⟩ trivial
def Ca.e (k:Nat):Ent:=⟨1,[(.val true t38)],[(.agg,t39)],λ x=>Ca k x⟩
def Ca.d:Fd := { nt:=15,nv:=1,nm:=[0,1],res:=[],cs:=λ k=>[(94,Aj.e k),(156,A5.e k)] }
def Ca.s (k:Nat):CK 97 (Ca.e k):=mS Ca.d k [] Tryz.func97 ⟨Aj.s k,A5.s k,trivial⟩ trivial
def Hv.e (k:Nat):Ent:=⟨1,[(.val true t25)],[(.agg,t26)],λ x=>Hv x⟩
def Hv.d:Fd := { nt:=8,nv:=1,nm:=[0,1],res:=[],cs:=λ k=>[(105,Aq.e k)],mv:=[7],rf:=true }
def Hv.s (k:Nat):CK 98 (Hv.e k):=mS Hv.d k [] Tryz.func98 ⟨Aq.s k,trivial⟩ trivial
def Bu.e (k:Nat):Ent:=⟨1,[(.val true t44)],[(.agg,t45)],λ x=>Bu k x⟩
def De.p:LF:=⟨⟨[(2,(.bp 2 0 0)),(3,(.bp 3 0 0)),(3999,(.hd 9)),(4999,(.hd 9))],[(36,t35),(37,(.i .i64)),(38,(.i .i64)),(3000,t45),(4000,t45)]⟩,[((.exit 2),⟨[(2,(.bp 2 0 0)),(3,(.bp 3 0 0)),(3999,(.hd 9)),(4999,(.hd 9))],[(3000,t45),(4000,t45)]⟩)],λ k x=>De k x.1 x.2.1 x.2.2.1 x.2.2.2.1 x.2.2.2.2⟩
def Df.p:LF:=⟨⟨[(1,(.bp 1 0 0)),(2,(.bp 2 0 0)),(3,(.bp 3 0 0)),(2999,(.hd 9)),(3999,(.hd 9)),(4999,(.hd 9))],[(21,t41),(22,(.i .i64)),(23,(.i .i64)),(2000,t44),(3000,t45),(4000,t45)]⟩,[((.exit 0),⟨[(1,(.bp 1 0 0)),(2,(.bp 2 0 0)),(3,(.bp 3 0 0)),(2999,(.hd 9)),(3999,(.hd 9)),(4999,(.hd 9))],[(2000,t44),(3000,t45),(4000,t45)]⟩)],λ k x=>Df k x.1 x.2.1 x.2.2.1 x.2.2.2.1 x.2.2.2.2.1 x.2.2.2.2.2⟩
def Bu.d:Fd := { nt:=54,nv:=1,nm:=[0,1,3,4,5,6,7],res:=[],cs:=λ k=>[(96,D8.e k),(97,Ca.e k),(98,Hv.e k)],ls:=[(8,De.p),(3,Df.p)],mv:=[53],rf:=true }
def Bu.a (k:Nat):AC (Bu.d.cs k):=⟨D8.s k,Ca.s k,Hv.s k,trivial⟩
def De.s:LL Tryz.f41 Bu.d 8 De.p:=mL [] Bu.a trivial
def Df.s:LL Tryz.f41 Bu.d 3 Df.p:=mL [] Bu.a trivial
def Bu.s (k:Nat):CK 41 (Bu.e k):=mS Bu.d k [3,8] Tryz.func41 (Bu.a k) ⟨Df.s,De.s,trivial⟩
def K5.e (k:Nat):Ent:=⟨2,[(.val false t13),(.val false .s)],[(.one,(.i .i64))],λ x=>K5 k x.1 x.2⟩
def Ki.p:LF:=⟨⟨[],[(1,.s),(7,t13),(8,(.i .i64)),(9,(.i .i64))]⟩,[(.ret,⟨[],[(4,(.i .i64))]⟩),((.exit 0),⟨[],[]⟩)],λ k x=>Ki k x.1 x.2.1 x.2.2.1 x.2.2.2⟩
def K5.d:Fd := { nt:=20,nv:=2,nm:=[0,1,2,3,5,6],res:=[4],ls:=[(2,Ki.p)] }
def Ki.s:LL Tryz.f118 K5.d 2 Ki.p:=mL [] (λ _=>trivial) trivial
def K5.s (k:Nat):CK 118 (K5.e k):=mS K5.d k [2] Tryz.func118 trivial ⟨Ki.s,trivial⟩
def F5.e (k:Nat):Ent:=⟨2,[(.val true t28),(.val false .s)],[(.one,t5),(.one,.b)],λ x=>F5 k x.1 x.2⟩
def F5.d:Fd := { nt:=20,nv:=2,nm:=[0,1,2,3,6],res:=[4,5],cs:=λ k=>[(105,Aq.e k),(118,K5.e k)] }
def F5.s (k:Nat):CK 61 (F5.e k):=mS F5.d k [] Tryz.func61 ⟨Aq.s k,K5.s k,trivial⟩ trivial
def Hi.e (k:Nat):Ent:=⟨2,[(.val false t4),(.val false (.i .i64))],[(.one,(.i .i64)),(.one,(.i .i64)),(.one,.b)],λ x=>Hi k x.1 x.2⟩
def Fu.p:LF:=⟨⟨[],[(0,t4),(1,(.i .i64)),(7,(.i .i64)),(8,(.i .i64))]⟩,[(.ret,⟨[],[(4,(.i .i64)),(5,(.i .i64)),(6,.b)]⟩),((.exit 0),⟨[],[]⟩)],λ k x=>Fu k x.1 x.2.1 x.2.2.1 x.2.2.2⟩
def Hi.d:Fd := { nt:=57,nv:=2,nm:=[0,1,2,3,7,8,9],res:=[4,5,6],ls:=[(3,Fu.p)] }
def Fu.s:LL Tryz.f222 Hi.d 3 Fu.p:=mL [] (λ _=>trivial) trivial
def Hi.s (k:Nat):CK 222 (Hi.e k):=mS Hi.d k [3] Tryz.func222 trivial ⟨Fu.s,trivial⟩
def Cq.e (k:Nat):Ent:=⟨1,[(.ptr t20 t20)],[(.one,(.i .i64))],λ x=>Cq k x⟩
def Cq.d:Fd := { nt:=35,nv:=1,nm:=[0,1,3,4,5],res:=[2],cs:=λ k=>[(222,Hi.e k)] }
def Cq.s (k:Nat):CK 176 (Cq.e k):=mS Cq.d k [] Tryz.func176 ⟨Hi.s k,trivial⟩ trivial
def Dg.e (k:Nat):Ent:=⟨1,[(.ptr t20 t20)],[(.agg,t16),(.one,.b)],λ x=>Dg k x⟩
def Dg.d:Fd := { nt:=31,nv:=1,nm:=[0,1,4,5],res:=[3],cs:=λ k=>[(176,Cq.e k)] }
def Dg.s (k:Nat):CK 119 (Dg.e k):=mS Dg.d k [] Tryz.func119 ⟨Cq.s k,trivial⟩ trivial
def Io.e (k:Nat):Ent:=⟨2,[(.val false t4),(.val false (.i .i64))],[(.one,.s),(.one,(.i .i64)),(.one,.b)],λ x=>Io k x.1 x.2⟩
def Io.d:Fd := { nt:=37,nv:=2,nm:=[0,1,2,3,7,8,9],res:=[4,5,6],cs:=λ k=>[(222,Hi.e k)] }
def Io.s (k:Nat):CK 177 (Io.e k):=mS Io.d k [] Tryz.func177 ⟨Hi.s k,trivial⟩ trivial
def Cp.e (k:Nat):Ent:=⟨1,[(.ptr t20 t20)],[(.one,.s)],λ x=>Cp k x⟩
def Cp.d:Fd := { nt:=35,nv:=1,nm:=[0,1,3,4,5],res:=[2],cs:=λ k=>[(177,Io.e k)] }
def Cp.s (k:Nat):CK 120 (Cp.e k):=mS Cp.d k [] Tryz.func120 ⟨Io.s k,trivial⟩ trivial
def Ez.e (k:Nat):Ent:=⟨2,[(.val false t5),(.val false (.i .i64))],[(.one,t5)],λ x=>Ez k x.1 x.2⟩
def Gt.p:LF:=⟨⟨[],[(0,t5),(1,(.i .i64))]⟩,[((.exit 0),⟨[],[(0,t5),(1,(.i .i64))]⟩)],λ k x=>Gt k x.1 x.2⟩
def Ez.d:Fd := { nt:=24,nv:=2,nm:=[0,1,2,3],res:=[4],ls:=[(2,Gt.p)] }
def Gt.s:LL Tryz.f223 Ez.d 2 Gt.p:=mL [] (λ _=>trivial) trivial
def Ez.s (k:Nat):CK 223 (Ez.e k):=mS Ez.d k [2] Tryz.func223 trivial ⟨Gt.s,trivial⟩
def Ip.e (k:Nat):Ent:=⟨2,[(.val false t5),(.val false .s)],[(.one,t5)],λ x=>Ip k x.1 x.2⟩
def Ip.d:Fd := { nt:=11,nv:=2,nm:=[0,1,2,3],res:=[4],cs:=λ k=>[(223,Ez.e k)] }
def Ip.s (k:Nat):CK 178 (Ip.e k):=mS Ip.d k [] Tryz.func178 ⟨Ez.s k,trivial⟩ trivial
def Nb.e (k:Nat):Ent:=⟨1,[(.val false .b)],[(.one,(.i .i64))],λ x=>Nb x⟩
def Nb.d:Fd := { nt:=4,nv:=1,nm:=[0,1],res:=[2] }
def Nb.s (k:Nat):CK 224 (Nb.e k):=mS Nb.d k [] Tryz.func224 trivial trivial
def Hw.e (k:Nat):Ent:=⟨3,[(.val false t5),(.val true t16),(.val false .b)],[(.one,t5)],λ x=>Hw k x.1 x.2.1 x.2.2⟩
def Hw.d:Fd := { nt:=20,nv:=3,nm:=[0,1,2,3,4,5],res:=[6],cs:=λ k=>[(223,Ez.e k),(224,Nb.e k)] }
def Hw.s (k:Nat):CK 179 (Hw.e k):=mS Hw.d k [] Tryz.func179 ⟨Ez.s k,Nb.s k,trivial⟩ trivial
def Lz.e (k:Nat):Ent:=⟨1,[(.val false t4)],[(.one,(.i .i64))],λ x=>Lz k x⟩
def J9.p:LF:=⟨⟨[],[(3,(.i .u32)),(7,t4),(8,(.i .i64)),(9,(.i .i64)),(17,(.i .i64))]⟩,[((.exit 2),⟨[],[(3,(.i .u32)),(7,t4),(8,(.i .i64)),(9,(.i .i64))]⟩)],λ k x=>J9 k x.1 x.2.1 x.2.2.1 x.2.2.2.1 x.2.2.2.2⟩
def Ji.p:LF:=⟨⟨[],[(3,(.i .u32)),(7,t4),(8,(.i .i64)),(9,(.i .i64))]⟩,[((.exit 0),⟨[],[(3,(.i .u32))]⟩)],λ k x=>Ji k x.1 x.2.1 x.2.2.1 x.2.2.2⟩
def Lz.d:Fd := { nt:=32,nv:=1,nm:=[0,1,3,4,5,6],res:=[2],ls:=[(7,J9.p),(3,Ji.p)] }
def J9.s:LL Tryz.f180 Lz.d 7 J9.p:=mL [] (λ _=>trivial) trivial
def Ji.s:LL Tryz.f180 Lz.d 3 Ji.p:=mL [7] (λ _=>trivial) ⟨J9.s,trivial⟩
def Lz.s (k:Nat):CK 180 (Lz.e k):=mS Lz.d k [3] Tryz.func180 trivial ⟨Ji.s,trivial⟩
def Es.e (k:Nat):Ent:=⟨1,[(.val true t25)],[(.one,t5)],λ x=>Es k x⟩
def Es.d:Fd := { nt:=33,nv:=1,nm:=[0,1,3,4],res:=[2],cs:=λ k=>[(149,Fe.e k),(178,Ip.e k),(179,Hw.e k),(180,Lz.e k)] }
def Es.s (k:Nat):CK 121 (Es.e k):=mS Es.d k [] Tryz.func121 ⟨Fe.s k,Ip.s k,Hw.s k,Lz.s k,trivial⟩ trivial
def Dy.e (k:Nat):Ent:=⟨1,[(.val false t4)],[(.agg,t25),(.one,.b)],λ x=>Dy k x⟩
def Dy.d:Fd := { nt:=41,nv:=1,nm:=[0,1,4,5,6],res:=[3],cs:=λ k=>[(119,Dg.e k),(120,Cp.e k),(121,Es.e k)] }
def Dy.s (k:Nat):CK 62 (Dy.e k):=mS Dy.d k [] Tryz.func62 ⟨Dg.s k,Cp.s k,Es.s k,trivial⟩ trivial
def Iq.e (k:Nat):Ent:=⟨2,[(.val true t28),(.val false .s)],[(.agg,t25),(.one,(.i .i64))],λ x=>Iq k x.1 x.2⟩
def Iq.d:Fd := { nt:=28,nv:=2,nm:=[0,1,2,3,6,7,8,9],res:=[5],cs:=λ k=>[(61,F5.e k),(62,Dy.e k)] }
def Iq.s (k:Nat):CK 23 (Iq.e k):=mS Iq.d k [] Tryz.func23 ⟨F5.s k,Dy.s k,trivial⟩ trivial
def Ha.e (k:Nat):Ent:=⟨2,[(.val false t0),(.val false .s)],[(.one,t0)],λ x=>Ha k x.1 x.2⟩
def Ed.p:LF:=⟨⟨[],[(0,t0),(1,.s),(5,(.i .i64))]⟩,[((.exit 0),⟨[],[(0,t0),(1,.s),(5,(.i .i64))]⟩)],λ k x=>Ed k x.1 x.2.1 x.2.2⟩
def Ha.d:Fd := { nt:=44,nv:=2,nm:=[0,1,2,3,5],res:=[4],ls:=[(2,Ed.p)] }
def Ed.s:LL Tryz.f111 Ha.d 2 Ed.p:=mL [] (λ _=>trivial) trivial
def Ha.s (k:Nat):CK 111 (Ha.e k):=mS Ha.d k [2] Tryz.func111 trivial ⟨Ed.s,trivial⟩
def Ir.e (k:Nat):Ent:=⟨1,[(.val true t28)],[(.one,t0)],λ x=>Ir k x⟩
def Id.p:LF:=⟨⟨[(1,(.bp 1 0 0)),(2999,(.hd 2))],[(3,t0),(9,t13),(10,(.i .i64)),(11,(.i .i64)),(2000,t28)]⟩,[((.exit 0),⟨[],[(3,t0)]⟩)],λ k x=>Id k x.1 x.2.1 x.2.2.1 x.2.2.2.1 x.2.2.2.2⟩
def Ir.d:Fd := { nt:=30,nv:=1,nm:=[0,1,3,4,5,6,7],res:=[2],cs:=λ k=>[(23,Iq.e k),(111,Ha.e k)],ls:=[(3,Id.p)],rf:=true }
def Ir.a (k:Nat):AC (Ir.d.cs k):=⟨Iq.s k,Ha.s k,trivial⟩
def Id.s:LL Tryz.f54 Ir.d 3 Id.p:=mL [] Ir.a trivial
def Ir.s (k:Nat):CK 54 (Ir.e k):=mS Ir.d k [3] Tryz.func54 (Ir.a k) ⟨Id.s,trivial⟩
def L9.e (k:Nat):Ent:=⟨1,[(.val false .s)],[(.one,(.i .i64))],λ x=>L9 k x⟩
def It.p:LF:=⟨⟨[],[(0,.s),(3,(.i .u32)),(4,(.i .i64))]⟩,[((.exit 0),⟨[],[(3,(.i .u32))]⟩)],λ k x=>It k x.1 x.2.1 x.2.2⟩
def L9.d:Fd := { nt:=20,nv:=1,nm:=[0,1,3,4],res:=[2],ls:=[(3,It.p)],rf:=true }
def It.s:LL Tryz.f145 L9.d 3 It.p:=mL [] (λ _=>trivial) trivial
def L9.s (k:Nat):CK 145 (L9.e k):=mS L9.d k [3] Tryz.func145 trivial ⟨It.s,trivial⟩
def K6.e (k:Nat):Ent:=⟨2,[(.val false .s),(.val false (.i .i64))],[(.one,(.i .i64))],λ x=>K6 k x.1 x.2⟩
def K6.d:Fd := { nt:=11,nv:=2,nm:=[0,1,2,3],res:=[4],cs:=λ k=>[(145,L9.e k)],rf:=true }
def K6.s (k:Nat):CK 83 (K6.e k):=mS K6.d k [] Tryz.func83 ⟨L9.s k,trivial⟩ trivial
def Ds.e (k:Nat):Ent:=⟨2,[(.val true t17),(.val false .s)],[(.one,t7)],λ x=>Ds k x.1 x.2⟩
def Ds.d:Fd := { nt:=20,nv:=2,nm:=[0,1,2,3],res:=[4],cs:=λ k=>[(82,F4.e k),(83,K6.e k)],rf:=true }
def Ds.s (k:Nat):CK 30 (Ds.e k):=mS Ds.d k [] Tryz.func30 ⟨F4.s k,K6.s k,trivial⟩ trivial
def Et.e (k:Nat):Ent:=⟨2,[(.val true t44),(.val false t6)],[(.one,t7)],λ x=>Et k x.1 x.2⟩
def Dh.p:LF:=⟨⟨[(2,(.bp 2 0 0)),(3999,(.hd 9))],[(5,t7),(7,(.i .i64)),(10,t6),(11,(.i .i64)),(12,(.i .i64)),(17,t41),(18,(.i .i64)),(19,(.i .i64)),(3000,t44)]⟩,[((.exit 2),⟨[(2,(.bp 2 0 0)),(3999,(.hd 9))],[(5,t7),(10,t6),(11,(.i .i64)),(12,(.i .i64)),(3000,t44)]⟩)],λ k x=>Dh k x.1 x.2.1 x.2.2.1 x.2.2.2.1 x.2.2.2.2.1 x.2.2.2.2.2.1 x.2.2.2.2.2.2.1 x.2.2.2.2.2.2.2.1 x.2.2.2.2.2.2.2.2⟩
def Ff.p:LF:=⟨⟨[(2,(.bp 2 0 0)),(3999,(.hd 9))],[(5,t7),(10,t6),(11,(.i .i64)),(12,(.i .i64)),(3000,t44)]⟩,[((.exit 0),⟨[],[(5,t7)]⟩)],λ k x=>Ff k x.1 x.2.1 x.2.2.1 x.2.2.2.1 x.2.2.2.2⟩
def Et.d:Fd := { nt:=35,nv:=2,nm:=[0,1,2,3,5,6,7,8,9],res:=[4],ls:=[(6,Dh.p),(3,Ff.p)],rf:=true }
def Dh.s:LL Tryz.f47 Et.d 6 Dh.p:=mL [] (λ _=>trivial) trivial
def Ff.s:LL Tryz.f47 Et.d 3 Ff.p:=mL [6] (λ _=>trivial) ⟨Dh.s,trivial⟩
def Et.s (k:Nat):CK 47 (Et.e k):=mS Et.d k [3] Tryz.func47 trivial ⟨Ff.s,trivial⟩
def Gd.e (k:Nat):Ent:=⟨2,[(.val false t6),(.val false (.i .i64))],[(.one,(.i .i64))],λ x=>Gd x.1 x.2⟩
def Gd.d:Fd := { nt:=20,nv:=2,nm:=[0,1,2,3],res:=[4],cs:=λ k=>[(42,E8.e k)],rf:=true }
def Gd.s (k:Nat):CK 132 (Gd.e k):=mS Gd.d k [] Tryz.func132 ⟨E8.s k,trivial⟩ trivial
def Hm.e (k:Nat):Ent:=⟨2,[(.val true t25),(.val true t25)],[(.one,.b)],λ x=>Hm x.1 x.2⟩
def Hm.d:Fd := { nt:=10,nv:=2,nm:=[0,1,2,3],res:=[4],cs:=λ k=>[(12,B9.e k)] }
def Hm.s (k:Nat):CK 15 (Hm.e k):=mS Hm.d k [] Tryz.func15 ⟨B9.s k,trivial⟩ trivial
def Gu.e (k:Nat):Ent:=⟨2,[(.val false t13),(.val false .s)],[(.one,t13)],λ x=>Gu k x.1 x.2⟩
def Gu.d:Fd := { nt:=21,nv:=2,nm:=[0,1,2,3,5],res:=[4],cs:=λ k=>[(118,K5.e k)] }
def Gu.s (k:Nat):CK 190 (Gu.e k):=mS Gu.d k [] Tryz.func190 ⟨K5.s k,trivial⟩ trivial
def Kz.e (k:Nat):Ent:=⟨2,[(.val false t13),(.val true t11)],[(.one,t14)],λ x=>Kz k x.1 x.2⟩
def Jj.p:LF:=⟨⟨[(3,(.bp 3 0 0)),(4999,(.hd 2))],[(0,t13),(5,(.i .i64)),(4000,.s),(4001,t4)]⟩,[((.exit 0),⟨[(3,(.bp 3 0 0)),(4999,(.hd 2))],[(0,t13),(5,(.i .i64)),(4000,.s),(4001,t4)]⟩)],λ k x=>Jj k x.1 x.2.1 x.2.2.1 x.2.2.2⟩
def Kz.d:Fd := { nt:=33,nv:=2,nm:=[0,1,2,3,5],res:=[4],ls:=[(2,Jj.p)] }
def Jj.s:LL Tryz.f191 Kz.d 2 Jj.p:=mL [] (λ _=>trivial) trivial
def Kz.s (k:Nat):CK 191 (Kz.e k):=mS Kz.d k [2] Tryz.func191 trivial ⟨Jj.s,trivial⟩
def C0.e (k:Nat):Ent:=⟨2,[(.val true t28),(.val false .s)],[(.agg,(.pr t14 t13)),(.one,.b)],λ x=>C0 k x.1 x.2⟩
def C0.d:Fd := { nt:=50,nv:=2,nm:=[0,1,2,3,6,7],res:=[5],cs:=λ k=>[(88,An.e k),(105,Aq.e k),(118,K5.e k),(151,Bp.e k),(156,A5.e k),(190,Gu.e k),(191,Kz.e k)],mv:=[18,49] }
def C0.s (k:Nat):CK 135 (C0.e k):=mS C0.d k [] Tryz.func135 ⟨An.s k,Aq.s k,K5.s k,Bp.s k,A5.s k,Gu.s k,Kz.s k,trivial⟩ trivial
def Dt.e (k:Nat):Ent:=⟨3,[(.val true t28),(.val false .s),(.val false t4)],[(.agg,t29),(.one,.b)],λ x=>Dt k x.1 x.2.1 x.2.2⟩
def Dt.d:Fd := { nt:=42,nv:=3,nm:=[0,1,2,3,4,5,8],res:=[7],cs:=λ k=>[(88,An.e k),(105,Aq.e k),(151,Bp.e k),(156,A5.e k),(190,Gu.e k),(191,Kz.e k)],mv:=[24,41] }
def Dt.s (k:Nat):CK 189 (Dt.e k):=mS Dt.d k [] Tryz.func189 ⟨An.s k,Aq.s k,Bp.s k,A5.s k,Gu.s k,Kz.s k,trivial⟩ trivial
def Lt.e (k:Nat):Ent:=⟨4,[(.val true t28),(.val false .s),(.val true t25),(.val false .b)],[(.agg,t28),(.one,(.i .i64))],λ x=>Lt k x.1 x.2.1 x.2.2.1 x.2.2.2⟩
def Lt.d:Fd := { nt:=82,nv:=4,nm:=[0,1,2,3,4,5,6,7,10,11,12,13,14,15,16,17,18,19],res:=[9],cs:=λ k=>[(15,Hm.e k),(61,F5.e k),(62,Dy.e k),(88,An.e k),(121,Es.e k),(135,C0.e k),(149,Fe.e k),(151,Bp.e k),(156,A5.e k),(189,Dt.e k)],mv:=[80] }
def Lt.s (k:Nat):CK 133 (Lt.e k):=mS Lt.d k [] Tryz.func133 ⟨Hm.s k,F5.s k,Dy.s k,An.s k,Es.s k,C0.s k,Fe.s k,Bp.s k,A5.s k,Dt.s k,trivial⟩ trivial
def Ee.e (k:Nat):Ent:=⟨2,[(.val true t28),(.val false .s)],[(.agg,(.pr t13 t14)),(.one,.b)],λ x=>Ee k x.1 x.2⟩
def Ee.d:Fd := { nt:=26,nv:=2,nm:=[0,1,2,3,6],res:=[5],cs:=λ k=>[(118,K5.e k),(151,Bp.e k),(156,A5.e k),(190,Gu.e k)],mv:=[19,25] }
def Ee.s (k:Nat):CK 134 (Ee.e k):=mS Ee.d k [] Tryz.func134 ⟨K5.s k,Bp.s k,A5.s k,Gu.s k,trivial⟩ trivial
def Af.e (k:Nat):Ent:=⟨4,[(.ptr t46 t46),(.val false (.i .i64)),(.val false .s),(.val false t6)],[(.one,.b)],λ x=>Af k x.1 x.2.1 x.2.2.1 x.2.2.2⟩
def Ad.p:LF:=⟨⟨[(0,(.bp 0 0 0)),(9,(.bp 9 0 0)),(1999,(.hd 9)),(10999,(.hd 5))],[(1,(.i .i64)),(2,.s),(3,t6),(11,.b),(12,.b),(43,t7),(44,(.i .i64)),(45,(.i .i64)),(1000,t46),(10000,t25)]⟩,[((.exit 0),⟨[(0,(.bp 0 0 0)),(1999,(.hd 9))],[(1,(.i .i64)),(2,.s),(11,.b),(12,.b),(1000,t46)]⟩)],λ k x=>Ad k x.1 x.2.1 x.2.2.1 x.2.2.2.1 x.2.2.2.2.1 x.2.2.2.2.2.1 x.2.2.2.2.2.2.1 x.2.2.2.2.2.2.2.1 x.2.2.2.2.2.2.2.2.1 x.2.2.2.2.2.2.2.2.2⟩
def Af.d:Fd := { nt:=120,nv:=4,nm:=[0,1,2,3,4,5,6,7,9,10,11,12,13,14,15,16,17,18],res:=[8],cs:=λ k=>[(23,Iq.e k),(30,Ds.e k),(47,Et.e k),(132,Gd.e k),(133,Lt.e k),(134,Ee.e k),(135,C0.e k)],ls:=[(6,Ad.p)],rf:=true }
def Af.a (k:Nat):AC (Af.d.cs k):=⟨Iq.s k,Ds.s k,Et.s k,Gd.s k,Lt.s k,Ee.s k,C0.s k,trivial⟩
def Ad.s:LL Tryz.f78 Af.d 6 Ad.p:=mL [] Af.a trivial
def Af.s (k:Nat):CK 78 (Af.e k):=mS Af.d k [6] Tryz.func78 (Af.a k) ⟨Ad.s,trivial⟩
def Dz.e (k:Nat):Ent:=⟨1,[(.val true t44)],[(.one,t7)],λ x=>Dz k x⟩
def Dz.d:Fd := { nt:=8,nv:=1,nm:=[0,1],res:=[2],cs:=λ k=>[(30,Ds.e k),(47,Et.e k)],rf:=true }
def Dz.s (k:Nat):CK 11 (Dz.e k):=mS Dz.d k [] Tryz.func11 ⟨Ds.s k,Et.s k,trivial⟩ trivial
def Hx.e (k:Nat):Ent:=⟨2,[(.val true t27),(.val true t27)],[(.one,.b)],λ x=>Hx x.1 x.2⟩
def Hx.d:Fd := { nt:=29,nv:=2,nm:=[0,1,2,3],res:=[4],cs:=λ k=>[(12,B9.e k)] }
def Hx.s (k:Nat):CK 95 (Hx.e k):=mS Hx.d k [] Tryz.func95 ⟨B9.s k,trivial⟩ trivial
def Cb.e (k:Nat):Ent:=⟨2,[(.val false t31),(.val true t27)],[(.one,t32)],λ x=>Cb k x.1 x.2⟩
def Di.p:LF:=⟨⟨[(3,(.bp 3 0 0)),(4999,(.hd 6))],[(0,t31),(8,(.i .i64)),(4000,.s),(4001,(.i .i64)),(4002,(.i .i64)),(4003,(.i .i64)),(4004,.b),(4005,(.i .i64))]⟩,[((.exit 2),⟨[(3,(.bp 3 0 0)),(4999,(.hd 6))],[(0,t31),(8,(.i .i64)),(4000,.s),(4001,(.i .i64)),(4002,(.i .i64)),(4003,(.i .i64)),(4004,.b),(4005,(.i .i64))]⟩)],λ k x=>Di k x.1 x.2.1 x.2.2.1 x.2.2.2.1 x.2.2.2.2.1 x.2.2.2.2.2.1 x.2.2.2.2.2.2.1 x.2.2.2.2.2.2.2⟩
def Ef.p:LF:=⟨⟨[(3,(.bp 3 0 0)),(4999,(.hd 6))],[(0,t31),(5,t32),(11,t31),(12,(.i .i64)),(13,(.i .i64)),(4000,.s),(4001,(.i .i64)),(4002,(.i .i64)),(4003,(.i .i64)),(4004,.b),(4005,(.i .i64))]⟩,[(.ret,⟨[],[(4,t32)]⟩),((.exit 0),⟨[(3,(.bp 3 0 0)),(4999,(.hd 6))],[(0,t31),(4000,.s),(4001,(.i .i64)),(4002,(.i .i64)),(4003,(.i .i64)),(4004,.b),(4005,(.i .i64))]⟩)],λ k x=>Ef k x.1 x.2.1 x.2.2.1 x.2.2.2.1 x.2.2.2.2.1 x.2.2.2.2.2.1 x.2.2.2.2.2.2.1 x.2.2.2.2.2.2.2.1 x.2.2.2.2.2.2.2.2.1 x.2.2.2.2.2.2.2.2.2.1 x.2.2.2.2.2.2.2.2.2.2⟩
def Cb.d:Fd := { nt:=60,nv:=2,nm:=[0,1,2,3,5,6,7,8],res:=[4],cs:=λ k=>[(94,Aj.e k),(95,Hx.e k)],ls:=[(11,Di.p),(3,Ef.p)] }
def Cb.a (k:Nat):AC (Cb.d.cs k):=⟨Aj.s k,Hx.s k,trivial⟩
def Di.s:LL Tryz.f39 Cb.d 11 Di.p:=mL [] Cb.a trivial
def Ef.s:LL Tryz.f39 Cb.d 3 Ef.p:=mL [] Cb.a trivial
def Cb.s (k:Nat):CK 39 (Cb.e k):=mS Cb.d k [3,11] Tryz.func39 (Cb.a k) ⟨Ef.s,Di.s,trivial⟩
def Ci.e (k:Nat):Ent:=⟨2,[(.val false t31),(.val false t31)],[(.one,t32)],λ x=>Ci k x.1 x.2⟩
def Dj.p:LF:=⟨⟨[],[(5,t32),(10,t31),(11,(.i .i64)),(12,(.i .i64))]⟩,[((.exit 0),⟨[],[(5,t32)]⟩)],λ k x=>Dj k x.1 x.2.1 x.2.2.1 x.2.2.2⟩
def Ci.d:Fd := { nt:=21,nv:=2,nm:=[0,1,2,3,5,6,7],res:=[4],cs:=λ k=>[(39,Cb.e k),(94,Aj.e k)],ls:=[(3,Dj.p)] }
def Ci.a (k:Nat):AC (Ci.d.cs k):=⟨Cb.s k,Aj.s k,trivial⟩
def Dj.s:LL Tryz.f40 Ci.d 3 Dj.p:=mL [] Ci.a trivial
def Ci.s (k:Nat):CK 40 (Ci.e k):=mS Ci.d k [3] Tryz.func40 (Ci.a k) ⟨Dj.s,trivial⟩
def Hy.e (k:Nat):Ent:=⟨2,[(.val true t38),(.val false t31)],[(.agg,t39),(.one,.b)],λ x=>Hy k x.1 x.2⟩
def Hy.d:Fd := { nt:=30,nv:=2,nm:=[0,1,2,3,6],res:=[5],cs:=λ k=>[(40,Ci.e k),(87,E5.e k),(97,Ca.e k),(152,E4.e k)],mv:=[17,29] }
def Hy.s (k:Nat):CK 199 (Hy.e k):=mS Hy.d k [] Tryz.func199 ⟨Ci.s k,E5.s k,Ca.s k,E4.s k,trivial⟩ trivial
def Ao.e (k:Nat):Ent:=⟨4,[(.ptr t46 t46),(.val false t31),(.val false t6),(.val false (.i .i64))],[(.one,.b)],λ x=>Ao k x.1 x.2.1 x.2.2.1 x.2.2.2⟩
def Ax.p:LF:=⟨⟨[(0,(.bp 0 0 0)),(1999,(.hd 9))],[(1,t31),(2,t6),(3,(.i .i64)),(9,.b),(17,t7),(18,(.i .i64)),(19,(.i .i64)),(1000,t46)]⟩,[((.exit 0),⟨[(1999,(.hd 9))],[(9,.b),(1000,t46)]⟩)],λ k x=>Ax k x.1 x.2.1 x.2.2.1 x.2.2.2.1 x.2.2.2.2.1 x.2.2.2.2.2.1 x.2.2.2.2.2.2.1 x.2.2.2.2.2.2.2⟩
def Ao.d:Fd := { nt:=56,nv:=4,nm:=[0,1,2,3,4,5,6,7,9,10,11,12,13],res:=[8],cs:=λ k=>[(11,Dz.e k),(132,Gd.e k),(199,Hy.e k)],ls:=[(3,Ax.p)],rf:=true }
def Ao.a (k:Nat):AC (Ao.d.cs k):=⟨Dz.s k,Gd.s k,Hy.s k,trivial⟩
def Ax.s:LL Tryz.f153 Ao.d 3 Ax.p:=mL [] Ao.a trivial
def Ao.s (k:Nat):CK 153 (Ao.e k):=mS Ao.d k [3] Tryz.func153 (Ao.a k) ⟨Ax.s,trivial⟩
def Bv.e (k:Nat):Ent:=⟨3,[(.ptr t46 t46),(.val false (.i .i64)),(.val false t6)],[(.one,.b)],λ x=>Bv k x.1 x.2.1 x.2.2⟩
def Bv.d:Fd := { nt:=47,nv:=3,nm:=[0,1,2,3,4,5],res:=[6],cs:=λ k=>[(94,Aj.e k),(153,Ao.e k)],rf:=true }
def Bv.s (k:Nat):CK 90 (Bv.e k):=mS Bv.d k [] Tryz.func90 ⟨Aj.s k,Ao.s k,trivial⟩ trivial
def Bq.e (k:Nat):Ent:=⟨3,[(.ptr t46 t46),(.val false (.i .i64)),(.val false t6)],[(.one,.b)],λ x=>Bq k x.1 x.2.1 x.2.2⟩
def Bq.d:Fd := { nt:=43,nv:=3,nm:=[0,1,2,3,4,5,7,8],res:=[6],cs:=λ k=>[(11,Dz.e k),(49,Hh.e k),(94,Aj.e k),(153,Ao.e k)],rf:=true }
def Bq.s (k:Nat):CK 92 (Bq.e k):=mS Bq.d k [] Tryz.func92 ⟨Dz.s k,Hh.s k,Aj.s k,Ao.s k,trivial⟩ trivial
def Hb.e (k:Nat):Ent:=⟨0,[],[(.one,t7)],λ _=>Hb k⟩
def Eg.p:LF:=⟨⟨[],[(1,t7),(2,(.i .i64))]⟩,[((.exit 0),⟨[],[(1,t7)]⟩)],λ k x=>Eg k x.1 x.2⟩
def Hb.d:Fd := { nt:=9,nv:=0,nm:=[1],res:=[0],ls:=[(3,Eg.p)],rf:=true }
def Eg.s:LL Tryz.f99 Hb.d 3 Eg.p:=mL [] (λ _=>trivial) trivial
def Hb.s (k:Nat):CK 99 (Hb.e k):=mS Hb.d k [3] Tryz.func99 trivial ⟨Eg.s,trivial⟩
def I8.e (k:Nat):Ent:=⟨1,[(.val true t28)],[(.agg,t28),(.one,(.i .i64))],λ x=>I8 k x⟩
def Hc.p:LF:=⟨⟨[(2,(.bp 2 0 0)),(4,(.bp 4 0 0)),(3999,(.hd 2)),(5999,(.hd 2))],[(5,(.i .i64)),(17,t13),(18,(.i .i64)),(19,(.i .i64)),(3000,t29),(5000,t28)]⟩,[((.exit 0),⟨[(2,(.bp 2 0 0)),(4,(.bp 4 0 0)),(3999,(.hd 2)),(5999,(.hd 2))],[(5,(.i .i64)),(3000,t29),(5000,t28)]⟩)],λ k x=>Hc k x.1 x.2.1 x.2.2.1 x.2.2.2.1 x.2.2.2.2.1 x.2.2.2.2.2⟩
def I8.d:Fd := { nt:=48,nv:=1,nm:=[0,1,4,5,6,7,8,9],res:=[3],cs:=λ k=>[(62,Dy.e k),(151,Bp.e k),(156,A5.e k),(190,Gu.e k)],ls:=[(6,Hc.p)],mv:=[15],rf:=true }
def I8.a (k:Nat):AC (I8.d.cs k):=⟨Dy.s k,Bp.s k,A5.s k,Gu.s k,trivial⟩
def Hc.s:LL Tryz.f157 I8.d 6 Hc.p:=mL [] I8.a trivial
def I8.s (k:Nat):CK 157 (I8.e k):=mS I8.d k [6] Tryz.func157 (I8.a k) ⟨Hc.s,trivial⟩
def Gv.e (k:Nat):Ent:=⟨1,[(.val true t38)],[(.agg,t40),(.one,(.i .i64))],λ x=>Gv k x⟩
def Gv.d:Fd := { nt:=19,nv:=1,nm:=[0,1,4,5,6],res:=[3],cs:=λ k=>[(97,Ca.e k),(157,I8.e k)],mv:=[17],rf:=true }
def Gv.s (k:Nat):CK 100 (Gv.e k):=mS Gv.d k [] Tryz.func100 ⟨Ca.s k,I8.s k,trivial⟩ trivial
def Ae.e (k:Nat):Ent:=⟨1,[(.ptr t46 t46)],[],λ x=>Ae k x⟩
def Bd.p:LF:=⟨⟨[(0,(.bp 0 0 0)),(1999,(.hd 9))],[(2,t6),(3,(.i .i64)),(11,(.i .i64)),(12,(.i .i64)),(60,(.i .i64)),(61,(.i .i64)),(1000,t46)]⟩,[((.exit 4),⟨[(0,(.bp 0 0 0)),(1999,(.hd 9))],[(2,t6),(3,(.i .i64)),(11,(.i .i64)),(12,(.i .i64)),(1000,t46)]⟩)],λ k x=>Bd k x.1 x.2.1 x.2.2.1 x.2.2.2.1 x.2.2.2.2.1 x.2.2.2.2.2.1 x.2.2.2.2.2.2⟩
def B6.p:LF:=⟨⟨[(0,(.bp 0 0 0)),(1999,(.hd 9))],[(2,t6),(3,(.i .i64)),(11,(.i .i64)),(12,(.i .i64)),(40,t0),(41,(.i .i64)),(42,(.i .i64)),(1000,t46)]⟩,[((.exit 2),⟨[(0,(.bp 0 0 0)),(1999,(.hd 9))],[(2,t6),(3,(.i .i64)),(11,(.i .i64)),(12,(.i .i64)),(1000,t46)]⟩)],λ k x=>B6 k x.1 x.2.1 x.2.2.1 x.2.2.2.1 x.2.2.2.2.1 x.2.2.2.2.2.1 x.2.2.2.2.2.2.1 x.2.2.2.2.2.2.2⟩
def Br.p:LF:=⟨⟨[(0,(.bp 0 0 0)),(1999,(.hd 9))],[(2,t6),(11,(.i .i64)),(12,(.i .i64)),(1000,t46)]⟩,[((.exit 0),⟨[(1999,(.hd 9))],[(1000,t46)]⟩)],λ k x=>Br k x.1 x.2.1 x.2.2.1 x.2.2.2⟩
def Ae.d:Fd := { nt:=73,nv:=1,nm:=[0,1,2,3,4,5],res:=[],cs:=λ k=>[(54,Ir.e k),(78,Af.e k),(90,Bv.e k),(92,Bq.e k),(99,Hb.e k),(100,Gv.e k)],ls:=[(11,Bd.p),(6,B6.p),(2,Br.p)],rf:=true }
def Ae.a (k:Nat):AC (Ae.d.cs k):=⟨Ir.s k,Af.s k,Bv.s k,Bq.s k,Hb.s k,Gv.s k,trivial⟩
def Bd.s:LL Tryz.f43 Ae.d 11 Bd.p:=mL [] Ae.a trivial
def B6.s:LL Tryz.f43 Ae.d 6 B6.p:=mL [] Ae.a trivial
def Br.s:LL Tryz.f43 Ae.d 2 Br.p:=mL [6,11] Ae.a ⟨B6.s,Bd.s,trivial⟩
def Ae.s (k:Nat):CK 43 (Ae.e k):=mS Ae.d k [2] Tryz.func43 (Ae.a k) ⟨Br.s,trivial⟩
def G6.e (k:Nat):Ent:=⟨2,[(.val true t44),(.val false (.i .i64))],[(.agg,t46)],λ x=>G6 k x.1 x.2⟩
def Gw.p:LF:=⟨⟨[(4,(.bp 4 0 0)),(5,(.bp 5 0 0)),(5999,(.hd 9)),(6999,(.hd 9))],[(14,(.i .i64)),(15,(.i .i64)),(5000,t45),(6000,t46)]⟩,[((.exit 0),⟨[(4,(.bp 4 0 0)),(5,(.bp 5 0 0)),(5999,(.hd 9)),(6999,(.hd 9))],[(5000,t45),(6000,t46)]⟩)],λ k x=>Gw k x.1 x.2.1 x.2.2.1 x.2.2.2⟩
def G6.d:Fd := { nt:=20,nv:=2,nm:=[0,1,2,3,5],res:=[],cs:=λ k=>[(32,D5.e k),(41,Bu.e k),(42,E8.e k),(43,Ae.e k)],ls:=[(4,Gw.p)],mv:=[19],rf:=true }
def G6.a (k:Nat):AC (G6.d.cs k):=⟨D5.s k,Bu.s k,E8.s k,Ae.s k,trivial⟩
def Gw.s:LL Tryz.f9 G6.d 4 Gw.p:=mL [] G6.a trivial
def G6.s (k:Nat):CK 9 (G6.e k):=mS G6.d k [4] Tryz.func9 (G6.a k) ⟨Gw.s,trivial⟩
def Jw.e (k:Nat):Ent:=⟨1,[(.val false t4)],[(.ptr,t21)],λ x=>Jw k x⟩
def Hz.p:LF:=⟨⟨[],[(0,t4),(3,(.i .i64)),(4,(.i .i64))]⟩,[((.exit 0),⟨[],[(0,t4),(3,(.i .i64))]⟩)],λ k x=>Hz k x.1 x.2.1 x.2.2⟩
def Jw.d:Fd := { nt:=32,nv:=1,nm:=[0,1,3,4],res:=[2],ls:=[(3,Hz.p)] }
def Hz.s:LL Tryz.f44 Jw.d 3 Hz.p:=mL [] (λ _=>trivial) trivial
def Jw.s (k:Nat):CK 44 (Jw.e k):=mS Jw.d k [3] Tryz.func44 trivial ⟨Hz.s,trivial⟩
def Fg.e (k:Nat):Ent:=⟨1,[(.ptr t21 t21)],[(.one,(.i .i64))],λ x=>Fg x⟩
def Fg.d:Fd := { nt:=58,nv:=1,nm:=[0,1,3],res:=[2] }
def Fg.s (k:Nat):CK 130 (Fg.e k):=mS Fg.d k [] Tryz.func130 trivial trivial
def A9.e (k:Nat):Ent:=⟨2,[(.ptr t21 t21),(.val false (.i .i64))],[(.one,(.i .i64))],λ x=>A9 x.1 x.2⟩
def A9.d:Fd := { nt:=31,nv:=2,nm:=[0,1,2,3,5,6,7],res:=[4],cs:=λ k=>[(130,Fg.e k)] }
def A9.s (k:Nat):CK 75 (A9.e k):=mS A9.d k [] Tryz.func75 ⟨Fg.s k,trivial⟩ trivial
def Bx.e (k:Nat):Ent:=⟨2,[(.ptr t21 t21),(.val false t6)],[(.one,(.i .i64))],λ x=>Bx x.1 x.2⟩
def Bx.d:Fd := { nt:=12,nv:=2,nm:=[0,1,2,3],res:=[4],cs:=λ k=>[(75,A9.e k)] }
def Bx.s (k:Nat):CK 127 (Bx.e k):=mS Bx.d k [] Tryz.func127 ⟨A9.s k,trivial⟩ trivial
def G7.e (k:Nat):Ent:=⟨1,[(.ptr t21 t21)],[(.one,t23)],λ x=>G7 k x⟩
def Gx.p:LF:=⟨⟨[(0,(.bp 0 0 0)),(1999,(.hd 3))],[(3,t23),(4,(.i .i64)),(5,(.i .i64)),(6,(.i .i64)),(1000,t21)]⟩,[((.exit 0),⟨[(1999,(.hd 3))],[(3,t23),(1000,t21)]⟩)],λ k x=>Gx k x.1 x.2.1 x.2.2.1 x.2.2.2.1 x.2.2.2.2⟩
def G7.d:Fd := { nt:=35,nv:=1,nm:=[0,1,3,4,5,6],res:=[2],cs:=λ k=>[(75,A9.e k),(127,Bx.e k)],ls:=[(5,Gx.p)],rf:=true }
def G7.a (k:Nat):AC (G7.d.cs k):=⟨A9.s k,Bx.s k,trivial⟩
def Gx.s:LL Tryz.f158 G7.d 5 Gx.p:=mL [] G7.a trivial
def G7.s (k:Nat):CK 158 (G7.e k):=mS G7.d k [5] Tryz.func158 (G7.a k) ⟨Gx.s,trivial⟩
def Aa.e (k:Nat):Ent:=⟨3,[(.val false (.i .i64)),(.val false (.i .i64)),(.val false (.i .i64))],[(.one,.b)],λ x=>Aa x.1 x.2.1 x.2.2⟩
def Aa.d:Fd := { nt:=15,nv:=3,nm:=[0,1,2,3,4,5],res:=[6] }
def Aa.s (k:Nat):CK 72 (Aa.e k):=mS Aa.d k [] Tryz.func72 trivial trivial
def Cm.e (k:Nat):Ent:=⟨1,[(.val false t22)],[(.one,.b)],λ x=>Cm k x⟩
def Fv.p:LF:=⟨⟨[],[(0,t22),(3,(.i .i64))]⟩,[(.ret,⟨[],[(2,.b)]⟩),((.exit 0),⟨[],[(0,t22)]⟩)],λ k x=>Fv k x.1 x.2⟩
def Cm.d:Fd := { nt:=49,nv:=1,nm:=[0,1,3,4],res:=[2],cs:=λ k=>[(72,Aa.e k)],ls:=[(2,Fv.p)],rf:=true }
def Cm.a (k:Nat):AC (Cm.d.cs k):=⟨Aa.s k,trivial⟩
def Fv.s:LL Tryz.f122 Cm.d 2 Fv.p:=mL [] Cm.a trivial
def Cm.s (k:Nat):CK 122 (Cm.e k):=mS Cm.d k [2] Tryz.func122 (Cm.a k) ⟨Fv.s,trivial⟩
def Cg.e (k:Nat):Ent:=⟨2,[(.val false t6),(.val false (.i .i64))],[(.one,.b)],λ x=>Cg k x.1 x.2⟩
def I0.p:LF:=⟨⟨[],[(0,t6),(1,(.i .i64)),(5,(.i .i64))]⟩,[(.ret,⟨[],[(4,.b)]⟩),((.exit 0),⟨[],[]⟩)],λ k x=>I0 k x.1 x.2.1 x.2.2⟩
def Cg.d:Fd := { nt:=18,nv:=2,nm:=[0,1,2,3,5],res:=[4],ls:=[(2,I0.p)],rf:=true }
def I0.s:LL Tryz.f181 Cg.d 2 I0.p:=mL [] (λ _=>trivial) trivial
def Cg.s (k:Nat):CK 181 (Cg.e k):=mS Cg.d k [2] Tryz.func181 trivial ⟨I0.s,trivial⟩
def G0.e (k:Nat):Ent:=⟨2,[(.val false t22),(.val false (.i .i64))],[(.agg,t16),(.one,.b)],λ x=>G0 k x.1 x.2⟩
def I1.p:LF:=⟨⟨[(4,(.bp 4 0 0)),(5999,(.hd 3))],[(0,t22),(1,(.i .i64)),(6,(.i .i64)),(5000,t16)]⟩,[(.ret,⟨[(4,(.bp 4 0 0)),(5999,(.hd 3))],[(5,.b),(5000,t16)]⟩),((.exit 0),⟨[(4,(.bp 4 0 0)),(5999,(.hd 3))],[(5000,t16)]⟩)],λ k x=>I1 k x.1 x.2.1 x.2.2.1 x.2.2.2⟩
def G0.d:Fd := { nt:=25,nv:=2,nm:=[0,1,2,3,6],res:=[5],ls:=[(2,I1.p)],rf:=true }
def I1.s:LL Tryz.f124 G0.d 2 I1.p:=mL [] (λ _=>trivial) trivial
def G0.s (k:Nat):CK 124 (G0.e k):=mS G0.d k [2] Tryz.func124 trivial ⟨I1.s,trivial⟩
def Cr.e (k:Nat):Ent:=⟨2,[(.val false t6),(.val false t22)],[(.one,t7)],λ x=>Cr k x.1 x.2⟩
def Dk.p:LF:=⟨⟨[],[(0,t6),(1,t22),(5,t7),(6,(.i .i64))]⟩,[((.exit 0),⟨[],[(5,t7)]⟩)],λ k x=>Dk k x.1 x.2.1 x.2.2.1 x.2.2.2⟩
def Cr.d:Fd := { nt:=39,nv:=2,nm:=[0,1,2,3,5,6,7,8],res:=[4],cs:=λ k=>[(124,G0.e k),(181,Cg.e k)],ls:=[(3,Dk.p)],rf:=true }
def Cr.a (k:Nat):AC (Cr.d.cs k):=⟨G0.s k,Cg.s k,trivial⟩
def Dk.s:LL Tryz.f254 Cr.d 3 Dk.p:=mL [] Cr.a trivial
def Cr.s (k:Nat):CK 254 (Cr.e k):=mS Cr.d k [3] Tryz.func254 (Cr.a k) ⟨Dk.s,trivial⟩
def Cn.e (k:Nat):Ent:=⟨2,[(.val true t17),(.val false (.i .i64))],[(.one,(.i .i64))],λ x=>Cn k x.1 x.2⟩
def Fw.p:LF:=⟨⟨[(2,(.bp 2 0 0)),(3999,(.hd 2))],[(1,(.i .i64)),(5,(.i .i64)),(6,(.i .i64)),(7,(.i .i64)),(3000,t17)]⟩,[((.exit 2),⟨[(2,(.bp 2 0 0)),(3999,(.hd 2))],[(1,(.i .i64)),(5,(.i .i64)),(6,(.i .i64)),(3000,t17)]⟩)],λ k x=>Fw k x.1 x.2.1 x.2.2.1 x.2.2.2.1 x.2.2.2.2⟩
def Gy.p:LF:=⟨⟨[(2,(.bp 2 0 0)),(3999,(.hd 2))],[(1,(.i .i64)),(5,(.i .i64)),(6,(.i .i64)),(3000,t17)]⟩,[((.exit 0),⟨[],[(5,(.i .i64))]⟩)],λ k x=>Gy k x.1 x.2.1 x.2.2.1 x.2.2.2⟩
def Cn.d:Fd := { nt:=40,nv:=2,nm:=[0,1,2,3,5,6,7],res:=[4],ls:=[(6,Fw.p),(3,Gy.p)],rf:=true }
def Fw.s:LL Tryz.f255 Cn.d 6 Fw.p:=mL [] (λ _=>trivial) trivial
def Gy.s:LL Tryz.f255 Cn.d 3 Gy.p:=mL [6] (λ _=>trivial) ⟨Fw.s,trivial⟩
def Cn.s (k:Nat):CK 255 (Cn.e k):=mS Cn.d k [3] Tryz.func255 trivial ⟨Gy.s,trivial⟩
def Hn.e (k:Nat):Ent:=⟨3,[(.val true t17),(.val true t6),(.val false t22)],[(.one,(.i .i64))],λ x=>Hn k x.1 x.2.1 x.2.2⟩
def Bs.p:LF:=⟨⟨[(3,(.bp 3 0 0)),(4,(.bp 4 0 0)),(4999,(.hd 2)),(5999,(.hd 1))],[(2,t22),(7,t7),(8,(.i .i64)),(9,.b),(10,(.i .i64)),(4000,t17),(5000,t6)]⟩,[((.exit 0),⟨[],[(2,t22),(8,(.i .i64))]⟩)],λ k x=>Bs k x.1 x.2.1 x.2.2.1 x.2.2.2.1 x.2.2.2.2.1 x.2.2.2.2.2.1 x.2.2.2.2.2.2⟩
def Hn.d:Fd := { nt:=88,nv:=3,nm:=[0,1,2,3,4,5,7,8,9,10,11,12],res:=[6],cs:=λ k=>[(122,Cm.e k),(181,Cg.e k),(254,Cr.e k),(255,Cn.e k)],ls:=[(5,Bs.p)],rf:=true }
def Hn.a (k:Nat):AC (Hn.d.cs k):=⟨Cm.s k,Cg.s k,Cr.s k,Cn.s k,trivial⟩
def Bs.s:LL Tryz.f234 Hn.d 5 Bs.p:=mL [] Hn.a trivial
def Hn.s (k:Nat):CK 234 (Hn.e k):=mS Hn.d k [5] Tryz.func234 (Hn.a k) ⟨Bs.s,trivial⟩
def Gj.e (k:Nat):Ent:=⟨3,[(.val false t22),(.val false (.i .i64)),(.val false (.i .i64))],[(.agg,t19),(.one,.b)],λ x=>Gj k x.1 x.2.1 x.2.2⟩
def I2.p:LF:=⟨⟨[(6,(.bp 6 0 0)),(8,(.bp 8 0 0)),(7999,(.hd 2)),(9999,(.hd 2))],[(0,t22),(1,(.i .i64)),(2,(.i .i64)),(9,(.i .i64)),(10,(.i .i64)),(7000,t18),(9000,t19)]⟩,[((.exit 2),⟨[(6,(.bp 6 0 0)),(8,(.bp 8 0 0)),(7999,(.hd 2)),(9999,(.hd 2))],[(0,t22),(1,(.i .i64)),(2,(.i .i64)),(9,(.i .i64)),(7000,t18),(9000,t19)]⟩)],λ k x=>I2 k x.1 x.2.1 x.2.2.1 x.2.2.2.1 x.2.2.2.2.1 x.2.2.2.2.2.1 x.2.2.2.2.2.2⟩
def I3.p:LF:=⟨⟨[(6,(.bp 6 0 0)),(8,(.bp 8 0 0)),(7999,(.hd 2)),(9999,(.hd 2))],[(0,t22),(1,(.i .i64)),(2,(.i .i64)),(9,(.i .i64)),(7000,t18),(9000,t19)]⟩,[((.exit 0),⟨[(6,(.bp 6 0 0)),(8,(.bp 8 0 0)),(7999,(.hd 2)),(9999,(.hd 2))],[(7000,t18),(9000,t19)]⟩)],λ k x=>I3 k x.1 x.2.1 x.2.2.1 x.2.2.2.1 x.2.2.2.2.1 x.2.2.2.2.2⟩
def Gj.d:Fd := { nt:=73,nv:=3,nm:=[0,1,2,3,4,5,8,9,10,11],res:=[7],cs:=λ k=>[(72,Aa.e k),(122,Cm.e k),(234,Hn.e k)],ls:=[(9,I2.p),(5,I3.p)],hint:=[(42,t7),(43,t7)],mv:=[72],gh:=[(12,[.od 54 3001]),(1000010,[.cl 9001])],rf:=true }
def Gj.a (k:Nat):AC (Gj.d.cs k):=⟨Aa.s k,Cm.s k,Hn.s k,trivial⟩
def I2.s:LL Tryz.f203 Gj.d 9 I2.p:=mL [] Gj.a trivial
def I3.s:LL Tryz.f203 Gj.d 5 I3.p:=mL [9] Gj.a ⟨I2.s,trivial⟩
def Gj.s (k:Nat):CK 203 (Gj.e k):=mS Gj.d k [5] Tryz.func203 (Gj.a k) ⟨I3.s,trivial⟩
def Iu.e (k:Nat):Ent:=⟨1,[(.val false (.i .i64))],[(.agg,t39)],λ x=>Iu x⟩
def Iu.d:Fd := { nt:=9,nv:=1,nm:=[0,1],res:=[],cs:=λ k=>[(72,Aa.e k)] }
def Iu.s (k:Nat):CK 204 (Iu.e k):=mS Iu.d k [] Tryz.func204 ⟨Aa.s k,trivial⟩ trivial
def Cc.e (k:Nat):Ent:=⟨3,[(.val false t22),(.val false (.i .i64)),(.val false (.i .i64))],[(.agg,t47)],λ x=>Cc k x.1 x.2.1 x.2.2⟩
def Eh.p:LF:=⟨⟨[(6,(.bp 6 0 0)),(9,(.bp 9 0 0)),(7999,(.hd 9)),(10999,(.hd 9))],[(0,t22),(10,(.i .i64)),(7000,t45),(10000,t47)]⟩,[((.exit 0),⟨[(6,(.bp 6 0 0)),(9,(.bp 9 0 0)),(7999,(.hd 9)),(10999,(.hd 9))],[(7000,t45),(10000,t47)]⟩)],λ k x=>Eh k x.1 x.2.1 x.2.2.1 x.2.2.2⟩
def Cc.d:Fd := { nt:=44,nv:=3,nm:=[0,1,2,3,4,5,7,8,9,10],res:=[],cs:=λ k=>[(203,Gj.e k),(204,Iu.e k)],ls:=[(6,Eh.p)],mv:=[43],rf:=true }
def Cc.a (k:Nat):AC (Cc.d.cs k):=⟨Gj.s k,Iu.s k,trivial⟩
def Eh.s:LL Tryz.f159 Cc.d 6 Eh.p:=mL [] Cc.a trivial
def Cc.s (k:Nat):CK 159 (Cc.e k):=mS Cc.d k [6] Tryz.func159 (Cc.a k) ⟨Eh.s,trivial⟩
def Jk.e (k:Nat):Ent:=⟨1,[(.ptr t21 t21)],[(.agg,t47)],λ x=>Jk k x⟩
def Jk.d:Fd := { nt:=22,nv:=1,nm:=[0,1,3,4],res:=[],cs:=λ k=>[(127,Bx.e k),(158,G7.e k),(159,Cc.e k)],rf:=true }
def Jk.s (k:Nat):CK 101 (Jk.e k):=mS Jk.d k [] Tryz.func101 ⟨Bx.s k,G7.s k,Cc.s k,trivial⟩ trivial
def B8.e (k:Nat):Ent:=⟨1,[(.val false .s)],[(.one,.b)],λ x=>B8 k x⟩
def Cv.p:LF:=⟨⟨[],[(0,.s),(3,(.i .i64))]⟩,[(.ret,⟨[],[(2,.b)]⟩),((.exit 0),⟨[],[(0,.s)]⟩)],λ k x=>Cv k x.1 x.2⟩
def B8.d:Fd := { nt:=38,nv:=1,nm:=[0,1,3,4],res:=[2],cs:=λ k=>[(72,Aa.e k)],ls:=[(2,Cv.p)] }
def B8.a (k:Nat):AC (B8.d.cs k):=⟨Aa.s k,trivial⟩
def Cv.s:LL Tryz.f67 B8.d 2 Cv.p:=mL [] B8.a trivial
def B8.s (k:Nat):CK 67 (B8.e k):=mS B8.d k [2] Tryz.func67 (B8.a k) ⟨Cv.s,trivial⟩
def D6.e (k:Nat):Ent:=⟨1,[(.val true t16)],[(.one,.b)],λ x=>D6 x⟩
def D6.d:Fd := { nt:=16,nv:=1,nm:=[0,1],res:=[2],cs:=λ k=>[(72,Aa.e k)] }
def D6.s (k:Nat):CK 66 (D6.e k):=mS D6.d k [] Tryz.func66 ⟨Aa.s k,trivial⟩ trivial
def Gz.e (k:Nat):Ent:=⟨3,[(.val true t16),(.val false (.i .i64)),(.val false (.i .i64))],[(.agg,t16)],λ x=>Gz x.1 x.2.1 x.2.2⟩
def Gz.d:Fd := { nt:=27,nv:=3,nm:=[0,1,2,3,4,5,7],res:=[],cs:=λ k=>[(66,D6.e k)],rf:=true }
def Gz.s (k:Nat):CK 205 (Gz.e k):=mS Gz.d k [] Tryz.func205 ⟨D6.s k,trivial⟩ trivial
def Ei.e (k:Nat):Ent:=⟨1,[(.val true t25)],[(.agg,t26)],λ x=>Ei x⟩
def Ei.d:Fd := { nt:=9,nv:=1,nm:=[0,1],res:=[],mv:=[8],rf:=true }
def Ei.s (k:Nat):CK 138 (Ei.e k):=mS Ei.d k [] Tryz.func138 trivial trivial
def C1.e (k:Nat):Ent:=⟨2,[(.val false t6),(.val false (.i .i64))],[(.one,(.i .i64))],λ x=>C1 x.1 x.2⟩
def C1.d:Fd := { nt:=21,nv:=2,nm:=[0,1,2,3],res:=[4],cs:=λ k=>[(72,Aa.e k)],rf:=true }
def C1.s (k:Nat):CK 141 (C1.e k):=mS C1.d k [] Tryz.func141 ⟨Aa.s k,trivial⟩ trivial
def Ba.e (k:Nat):Ent:=⟨2,[(.val true t44),(.val false t6)],[(.one,t7)],λ x=>Ba k x.1 x.2⟩
def C4.p:LF:=⟨⟨[(2,(.bp 2 0 0)),(3999,(.hd 9))],[(1,t6),(5,t7),(6,(.i .i64)),(7,(.i .i64)),(3000,t44)]⟩,[((.exit 2),⟨[(2,(.bp 2 0 0)),(3999,(.hd 9))],[(1,t6),(5,t7),(6,(.i .i64)),(3000,t44)]⟩)],λ k x=>C4 k x.1 x.2.1 x.2.2.1 x.2.2.2.1 x.2.2.2.2⟩
def Dl.p:LF:=⟨⟨[(2,(.bp 2 0 0)),(3999,(.hd 9))],[(1,t6),(5,t7),(6,(.i .i64)),(3000,t44)]⟩,[((.exit 0),⟨[],[(5,t7)]⟩)],λ k x=>Dl k x.1 x.2.1 x.2.2.1 x.2.2.2⟩
def Ba.d:Fd := { nt:=38,nv:=2,nm:=[0,1,2,3,5,6,7],res:=[4],ls:=[(6,C4.p),(3,Dl.p)],rf:=true }
def C4.s:LL Tryz.f139 Ba.d 6 C4.p:=mL [] (λ _=>trivial) trivial
def Dl.s:LL Tryz.f139 Ba.d 3 Dl.p:=mL [6] (λ _=>trivial) ⟨C4.s,trivial⟩
def Ba.s (k:Nat):CK 139 (Ba.e k):=mS Ba.d k [3] Tryz.func139 trivial ⟨Dl.s,trivial⟩
def La.e (k:Nat):Ent:=⟨1,[(.val false .s)],[(.one,(.i .i64))],λ x=>La k x⟩
def Iv.p:LF:=⟨⟨[],[(0,.s),(3,(.i .i64)),(4,(.i .i64))]⟩,[((.exit 0),⟨[],[(3,(.i .i64))]⟩)],λ k x=>Iv k x.1 x.2.1 x.2.2⟩
def La.d:Fd := { nt:=20,nv:=1,nm:=[0,1,3,4],res:=[2],ls:=[(3,Iv.p)],rf:=true }
def Iv.s:LL Tryz.f232 La.d 3 Iv.p:=mL [] (λ _=>trivial) trivial
def La.s (k:Nat):CK 232 (La.e k):=mS La.d k [3] Tryz.func232 trivial ⟨Iv.s,trivial⟩
def K7.e (k:Nat):Ent:=⟨2,[(.val false .s),(.val false (.i .i64))],[(.one,(.i .i64))],λ x=>K7 k x.1 x.2⟩
def K7.d:Fd := { nt:=11,nv:=2,nm:=[0,1,2,3],res:=[4],cs:=λ k=>[(232,La.e k)],rf:=true }
def K7.s (k:Nat):CK 193 (K7.e k):=mS K7.d k [] Tryz.func193 ⟨La.s k,trivial⟩ trivial
def Bb.e (k:Nat):Ent:=⟨2,[(.val true t17),(.val false .s)],[(.one,t7)],λ x=>Bb k x.1 x.2⟩
def Bb.d:Fd := { nt:=22,nv:=2,nm:=[0,1,2,3],res:=[4],cs:=λ k=>[(193,K7.e k)],rf:=true }
def Bb.s (k:Nat):CK 140 (Bb.e k):=mS Bb.d k [] Tryz.func140 ⟨K7.s k,trivial⟩ trivial
def Cd.e (k:Nat):Ent:=⟨3,[(.val true t17),(.val false t22),(.val false .s)],[(.one,t7)],λ x=>Cd k x.1 x.2.1 x.2.2⟩
def C5.p:LF:=⟨⟨[],[(1,t22),(7,t7),(8,t7),(9,t7),(10,(.i .i64)),(11,(.i .i64))]⟩,[((.exit 2),⟨[],[(1,t22),(7,t7),(8,t7),(9,t7),(10,(.i .i64))]⟩)],λ k x=>C5 k x.1 x.2.1 x.2.2.1 x.2.2.2.1 x.2.2.2.2.1 x.2.2.2.2.2⟩
def Ej.p:LF:=⟨⟨[],[(1,t22),(7,t7),(8,t7),(9,t7),(10,(.i .i64))]⟩,[((.exit 0),⟨[],[(9,t7)]⟩)],λ k x=>Ej k x.1 x.2.1 x.2.2.1 x.2.2.2.1 x.2.2.2.2⟩
def Cd.d:Fd := { nt:=58,nv:=3,nm:=[0,1,2,3,4,5,7,8,9,10,11],res:=[6],cs:=λ k=>[(140,Bb.e k),(181,Cg.e k),(254,Cr.e k)],ls:=[(8,C5.p),(5,Ej.p)],rf:=true }
def Cd.a (k:Nat):AC (Cd.d.cs k):=⟨Bb.s k,Cg.s k,Cr.s k,trivial⟩
def C5.s:LL Tryz.f256 Cd.d 8 C5.p:=mL [] Cd.a trivial
def Ej.s:LL Tryz.f256 Cd.d 5 Ej.p:=mL [8] Cd.a ⟨C5.s,trivial⟩
def Cd.s (k:Nat):CK 256 (Cd.e k):=mS Cd.d k [5] Tryz.func256 (Cd.a k) ⟨Ej.s,trivial⟩
def Ek.e (k:Nat):Ent:=⟨2,[(.val true t44),(.val false .s)],[(.one,t7)],λ x=>Ek k x.1 x.2⟩
def Ek.d:Fd := { nt:=20,nv:=2,nm:=[0,1,2,3],res:=[4],cs:=λ k=>[(139,Ba.e k),(140,Bb.e k),(256,Cd.e k)],rf:=true }
def Ek.s (k:Nat):CK 235 (Ek.e k):=mS Ek.d k [] Tryz.func235 ⟨Ba.s k,Bb.s k,Cd.s k,trivial⟩ trivial
def Cy.e (k:Nat):Ent:=⟨2,[(.val false t13),(.val false .s)],[(.one,(.i .i64))],λ x=>Cy k x.1 x.2⟩
def Iw.p:LF:=⟨⟨[],[(0,t13),(1,.s),(5,(.i .i64))]⟩,[(.ret,⟨[],[(4,(.i .i64))]⟩),((.exit 0),⟨[],[]⟩)],λ k x=>Iw k x.1 x.2.1 x.2.2⟩
def Cy.d:Fd := { nt:=20,nv:=2,nm:=[0,1,2,3,5],res:=[4],ls:=[(2,Iw.p)] }
def Iw.s:LL Tryz.f129 Cy.d 2 Iw.p:=mL [] (λ _=>trivial) trivial
def Cy.s (k:Nat):CK 129 (Cy.e k):=mS Cy.d k [2] Tryz.func129 trivial ⟨Iw.s,trivial⟩
def F6.e (k:Nat):Ent:=⟨2,[(.val true t28),(.val false .s)],[(.one,t5),(.one,.b)],λ x=>F6 k x.1 x.2⟩
def F6.d:Fd := { nt:=22,nv:=2,nm:=[0,1,2,3,6],res:=[4,5],cs:=λ k=>[(129,Cy.e k)] }
def F6.s (k:Nat):CK 116 (F6.e k):=mS F6.d k [] Tryz.func116 ⟨Cy.s k,trivial⟩ trivial
def Fh.e (k:Nat):Ent:=⟨1,[(.val true t25)],[(.one,.b)],λ x=>Fh x⟩
def Fh.d:Fd := { nt:=23,nv:=1,nm:=[0,1],res:=[2],cs:=λ k=>[(66,D6.e k)] }
def Fh.s (k:Nat):CK 68 (Fh.e k):=mS Fh.d k [] Tryz.func68 ⟨D6.s k,trivial⟩ trivial
def Dm.e (k:Nat):Ent:=⟨2,[(.val false t4),(.val false (.i .i64))],[(.one,(.i .i64)),(.one,(.i .i64)),(.one,.b)],λ x=>Dm k x.1 x.2⟩
def Er.p:LF:=⟨⟨[],[(0,t4),(1,(.i .i64)),(7,(.i .i64)),(8,(.i .i64))]⟩,[(.ret,⟨[],[(4,(.i .i64)),(5,(.i .i64)),(6,.b)]⟩),((.exit 0),⟨[],[]⟩)],λ k x=>Er k x.1 x.2.1 x.2.2.1 x.2.2.2⟩
def Dm.d:Fd := { nt:=64,nv:=2,nm:=[0,1,2,3,7,8,9],res:=[4,5,6],ls:=[(3,Er.p)] }
def Er.s:LL Tryz.f173 Dm.d 3 Er.p:=mL [] (λ _=>trivial) trivial
def Dm.s (k:Nat):CK 173 (Dm.e k):=mS Dm.d k [3] Tryz.func173 trivial ⟨Er.s,trivial⟩
def Fi.e (k:Nat):Ent:=⟨2,[(.val false t4),(.val false (.i .i64))],[(.agg,t16),(.one,(.i .i64)),(.one,.b)],λ x=>Fi k x.1 x.2⟩
def Fi.d:Fd := { nt:=49,nv:=2,nm:=[0,1,2,3,7,8,9,10,11,12,13,14,15],res:=[5,6],cs:=λ k=>[(173,Dm.e k)] }
def Fi.s (k:Nat):CK 172 (Fi.e k):=mS Fi.d k [] Tryz.func172 ⟨Dm.s k,trivial⟩ trivial
def Ix.e (k:Nat):Ent:=⟨2,[(.val false t4),(.val false (.i .i64))],[(.one,.s),(.one,(.i .i64)),(.one,.b)],λ x=>Ix k x.1 x.2⟩
def Ix.d:Fd := { nt:=37,nv:=2,nm:=[0,1,2,3,7,8,9],res:=[4,5,6],cs:=λ k=>[(173,Dm.e k)] }
def Ix.s (k:Nat):CK 174 (Ix.e k):=mS Ix.d k [] Tryz.func174 ⟨Dm.s k,trivial⟩ trivial
def Dn.e (k:Nat):Ent:=⟨2,[(.val false t4),(.val false (.i .i64))],[(.one,t5)],λ x=>Dn k x.1 x.2⟩
def Cw.p:LF:=⟨⟨[],[(1,(.i .i64)),(5,t5)]⟩,[((.exit 0),⟨[],[(1,(.i .i64)),(5,t5)]⟩)],λ k x=>Cw k x.1 x.2⟩
def Dn.d:Fd := { nt:=29,nv:=2,nm:=[0,1,2,3,5],res:=[4],ls:=[(6,Cw.p)] }
def Cw.s:LL Tryz.f218 Dn.d 6 Cw.p:=mL [] (λ _=>trivial) trivial
def Dn.s (k:Nat):CK 218 (Dn.e k):=mS Dn.d k [6] Tryz.func218 trivial ⟨Cw.s,trivial⟩
def Iy.e (k:Nat):Ent:=⟨2,[(.val false t4),(.val false .s)],[(.one,t5)],λ x=>Iy k x.1 x.2⟩
def Iy.d:Fd := { nt:=11,nv:=2,nm:=[0,1,2,3],res:=[4],cs:=λ k=>[(218,Dn.e k)] }
def Iy.s (k:Nat):CK 217 (Iy.e k):=mS Iy.d k [] Tryz.func217 ⟨Dn.s k,trivial⟩ trivial
def Iz.e (k:Nat):Ent:=⟨2,[(.val false t4),(.val true t16)],[(.one,t5)],λ x=>Iz k x.1 x.2⟩
def Iz.d:Fd := { nt:=15,nv:=2,nm:=[0,1,2,3],res:=[4],cs:=λ k=>[(218,Dn.e k)] }
def Iz.s (k:Nat):CK 219 (Iz.e k):=mS Iz.d k [] Tryz.func219 ⟨Dn.s k,trivial⟩ trivial
def K8.e (k:Nat):Ent:=⟨1,[(.val false .b)],[(.one,(.i .i64))],λ x=>K8 x⟩
def K8.d:Fd := { nt:=4,nv:=1,nm:=[0,1],res:=[2] }
def K8.s (k:Nat):CK 220 (K8.e k):=mS K8.d k [] Tryz.func220 trivial trivial
def M0.e (k:Nat):Ent:=⟨1,[(.val false t4)],[(.one,(.i .i64))],λ x=>M0 k x⟩
def Ja.p:LF:=⟨⟨[],[(0,t4),(3,(.i .i64)),(4,(.i .i64)),(5,(.i .i64))]⟩,[((.exit 2),⟨[],[(0,t4),(3,(.i .i64)),(4,(.i .i64))]⟩)],λ k x=>Ja k x.1 x.2.1 x.2.2.1 x.2.2.2⟩
def Jl.p:LF:=⟨⟨[],[(0,t4),(3,(.i .i64)),(4,(.i .i64))]⟩,[((.exit 0),⟨[],[(3,(.i .i64))]⟩)],λ k x=>Jl k x.1 x.2.1 x.2.2⟩
def M0.d:Fd := { nt:=34,nv:=1,nm:=[0,1,3,4,5,6],res:=[2],ls:=[(7,Ja.p),(3,Jl.p)] }
def Ja.s:LL Tryz.f221 M0.d 7 Ja.p:=mL [] (λ _=>trivial) trivial
def Jl.s:LL Tryz.f221 M0.d 3 Jl.p:=mL [7] (λ _=>trivial) ⟨Ja.s,trivial⟩
def M0.s (k:Nat):CK 221 (M0.e k):=mS M0.d k [3] Tryz.func221 trivial ⟨Jl.s,trivial⟩
def Eu.e (k:Nat):Ent:=⟨1,[(.val true t25)],[(.one,t5)],λ x=>Eu k x⟩
def Eu.d:Fd := { nt:=37,nv:=1,nm:=[0,1,3,4],res:=[2],cs:=λ k=>[(68,Fh.e k),(217,Iy.e k),(218,Dn.e k),(219,Iz.e k),(220,K8.e k),(221,M0.e k)] }
def Eu.s (k:Nat):CK 175 (Eu.e k):=mS Eu.d k [] Tryz.func175 ⟨Fh.s k,Iy.s k,Dn.s k,Iz.s k,K8.s k,M0.s k,trivial⟩ trivial
def Ge.e (k:Nat):Ent:=⟨1,[(.val false t4)],[(.agg,t26),(.one,.b)],λ x=>Ge k x⟩
def Ge.d:Fd := { nt:=76,nv:=1,nm:=[0,1,4,5,6,7,8,9,10,11,12,13],res:=[3],cs:=λ k=>[(68,Fh.e k),(172,Fi.e k),(173,Dm.e k),(174,Ix.e k),(175,Eu.e k)],mv:=[75] }
def Ge.s (k:Nat):CK 117 (Ge.e k):=mS Ge.d k [] Tryz.func117 ⟨Fh.s k,Fi.s k,Dm.s k,Ix.s k,Eu.s k,trivial⟩ trivial
def Ho.e (k:Nat):Ent:=⟨2,[(.val true t28),(.val false .s)],[(.agg,t26),(.one,(.i .i64))],λ x=>Ho k x.1 x.2⟩
def Ho.d:Fd := { nt:=28,nv:=2,nm:=[0,1,2,3,6,7,8,9],res:=[5],cs:=λ k=>[(116,F6.e k),(117,Ge.e k)],mv:=[27] }
def Ho.s (k:Nat):CK 59 (Ho.e k):=mS Ho.d k [] Tryz.func59 ⟨F6.s k,Ge.s k,trivial⟩ trivial
def Du.e (k:Nat):Ent:=⟨2,[(.val true t16),(.val true t16)],[(.one,.b)],λ x=>Du x.1 x.2⟩
def Du.d:Fd := { nt:=32,nv:=2,nm:=[0,1,2,3],res:=[4] }
def Du.s (k:Nat):CK 69 (Du.e k):=mS Du.d k [] Tryz.func69 trivial trivial
def Kj.e (k:Nat):Ent:=⟨2,[(.val true t25),(.val true t25)],[(.one,.b)],λ x=>Kj x.1 x.2⟩
def Kj.d:Fd := { nt:=10,nv:=2,nm:=[0,1,2,3],res:=[4],cs:=λ k=>[(69,Du.e k)] }
def Kj.s (k:Nat):CK 60 (Kj.e k):=mS Kj.d k [] Tryz.func60 ⟨Du.s k,trivial⟩ trivial
def Be.e (k:Nat):Ent:=⟨1,[(.val false t13)],[(.one,t14)],λ x=>Be k x⟩
def C6.p:LF:=⟨⟨[],[(0,t13),(3,t14),(4,(.i .i64))]⟩,[((.exit 0),⟨[],[(3,t14)]⟩)],λ k x=>C6 k x.1 x.2.1 x.2.2⟩
def Be.d:Fd := { nt:=29,nv:=1,nm:=[0,1,3,4],res:=[2],ls:=[(3,C6.p)] }
def C6.s:LL Tryz.f231 Be.d 3 C6.p:=mL [] (λ _=>trivial) trivial
def Be.s (k:Nat):CK 231 (Be.e k):=mS Be.d k [3] Tryz.func231 trivial ⟨C6.s,trivial⟩
def G3.e (k:Nat):Ent:=⟨1,[(.val false t13)],[(.one,t15)],λ x=>G3 k x⟩
def I9.p:LF:=⟨⟨[],[(0,t13),(3,t15),(4,(.i .i64))]⟩,[((.exit 0),⟨[],[(3,t15)]⟩)],λ k x=>I9 k x.1 x.2.1 x.2.2⟩
def G3.d:Fd := { nt:=29,nv:=1,nm:=[0,1,3,4],res:=[2],ls:=[(3,I9.p)],hint:=[(5,t12),(26,t12),(27,t12)] }
def I9.s:LL Tryz.f231 G3.d 3 I9.p:=mL [] (λ _=>trivial) trivial
def G3.s (k:Nat):CK 231 (G3.e k):=mS G3.d k [3] Tryz.func231 trivial ⟨I9.s,trivial⟩
def A6.e (k:Nat):Ent:=⟨1,[(.val true t28)],[(.agg,t29)],λ x=>A6 k x⟩
def A6.d:Fd := { nt:=10,nv:=1,nm:=[0,1],res:=[],cs:=λ k=>[(231,Be.e k)] }
def A6.s (k:Nat):CK 192 (A6.e k):=mS A6.d k [] Tryz.func192 ⟨Be.s k,trivial⟩ trivial
def Jf.e (k:Nat):Ent:=⟨1,[(.val true t28)],[(.agg,t30)],λ x=>Jf k x⟩
def Jf.d:Fd := { nt:=10,nv:=1,nm:=[0,1],res:=[],cs:=λ k=>[(231,G3.e k)] }
def Jf.s (k:Nat):CK 192 (Jf.e k):=mS Jf.d k [] Tryz.func192 ⟨G3.s k,trivial⟩ trivial
def Ii.e (k:Nat):Ent:=⟨2,[(.val false t13),(.val false .s)],[(.one,t14)],λ x=>Ii k x.1 x.2⟩
def Hd.p:LF:=⟨⟨[],[(0,t13),(1,.s),(5,t14),(6,(.i .i64))]⟩,[((.exit 0),⟨[],[(5,t14)]⟩)],λ k x=>Hd k x.1 x.2.1 x.2.2.1 x.2.2.2⟩
def Ii.d:Fd := { nt:=29,nv:=2,nm:=[0,1,2,3,5,6],res:=[4],ls:=[(3,Hd.p)] }
def Hd.s:LL Tryz.f195 Ii.d 3 Hd.p:=mL [] (λ _=>trivial) trivial
def Ii.s (k:Nat):CK 195 (Ii.e k):=mS Ii.d k [3] Tryz.func195 trivial ⟨Hd.s,trivial⟩
def Fj.e (k:Nat):Ent:=⟨1,[(.val false t13)],[(.one,.b)],λ x=>Fj k x⟩
def Fx.p:LF:=⟨⟨[],[(0,t13),(3,(.i .i64))]⟩,[(.ret,⟨[],[(2,.b)]⟩),((.exit 0),⟨[],[(0,t13)]⟩)],λ k x=>Fx k x.1 x.2⟩
def Fj.d:Fd := { nt:=47,nv:=1,nm:=[0,1,3],res:=[2],cs:=λ k=>[(67,B8.e k)],ls:=[(2,Fx.p)] }
def Fj.a (k:Nat):AC (Fj.d.cs k):=⟨B8.s k,trivial⟩
def Fx.s:LL Tryz.f225 Fj.d 2 Fx.p:=mL [] Fj.a trivial
def Fj.s (k:Nat):CK 225 (Fj.e k):=mS Fj.d k [2] Tryz.func225 (Fj.a k) ⟨Fx.s,trivial⟩
def Bh.e (k:Nat):Ent:=⟨1,[(.val true t28)],[(.one,.b)],λ x=>Bh k x⟩
def Bh.d:Fd := { nt:=11,nv:=1,nm:=[0,1],res:=[2],cs:=λ k=>[(225,Fj.e k)] }
def Bh.s (k:Nat):CK 183 (Bh.e k):=mS Bh.d k [] Tryz.func183 ⟨Fj.s k,trivial⟩ trivial
def E6.e (k:Nat):Ent:=⟨3,[(.val true t28),(.val true t29),(.val false .s)],[(.agg,t29),(.one,.b)],λ x=>E6 k x.1 x.2.1 x.2.2⟩
def E6.d:Fd := { nt:=24,nv:=3,nm:=[0,1,2,3,4,5],res:=[7],cs:=λ k=>[(67,B8.e k),(183,Bh.e k),(192,A6.e k)],mv:=[23] }
def E6.s (k:Nat):CK 196 (E6.e k):=mS E6.d k [] Tryz.func196 ⟨B8.s k,Bh.s k,A6.s k,trivial⟩ trivial
def Fa.e (k:Nat):Ent:=⟨3,[(.val false t13),(.val false .s),(.val false t4)],[(.one,t14)],λ x=>Fa k x.1 x.2.1 x.2.2⟩
def Ce.p:LF:=⟨⟨[(9,(.bp 9 0 0)),(10999,(.hd 2))],[(0,t13),(1,.s),(7,t14),(8,.b),(10,(.i .i64)),(10000,.s),(10001,t4)]⟩,[((.exit 0),⟨[(9,(.bp 9 0 0)),(10999,(.hd 2))],[(7,t14),(8,.b),(10000,.s),(10001,t4)]⟩)],λ k x=>Ce k x.1 x.2.1 x.2.2.1 x.2.2.2.1 x.2.2.2.2.1 x.2.2.2.2.2.1 x.2.2.2.2.2.2⟩
def Fa.d:Fd := { nt:=59,nv:=3,nm:=[0,1,2,3,4,5,7,8,9,10],res:=[6],ls:=[(5,Ce.p)] }
def Ce.s:LL Tryz.f197 Fa.d 5 Ce.p:=mL [] (λ _=>trivial) trivial
def Fa.s (k:Nat):CK 197 (Fa.e k):=mS Fa.d k [5] Tryz.func197 trivial ⟨Ce.s,trivial⟩
def Bc.e (k:Nat):Ent:=⟨2,[(.val true t28),(.val false .s)],[(.agg,t29),(.one,.b)],λ x=>Bc k x.1 x.2⟩
def Bc.d:Fd := { nt:=35,nv:=2,nm:=[0,1,2,3,6,7,8],res:=[5],cs:=λ k=>[(116,F6.e k),(192,A6.e k),(195,Ii.e k),(196,E6.e k),(197,Fa.e k)] }
def Bc.s (k:Nat):CK 144 (Bc.e k):=mS Bc.d k [] Tryz.func144 ⟨F6.s k,A6.s k,Ii.s k,E6.s k,Fa.s k,trivial⟩ trivial
def Dv.e (k:Nat):Ent:=⟨3,[(.val true t28),(.val false .s),(.val false t4)],[(.agg,t29),(.one,.b)],λ x=>Dv k x.1 x.2.1 x.2.2⟩
def Dv.d:Fd := { nt:=23,nv:=3,nm:=[0,1,2,3,4,5,8],res:=[7],cs:=λ k=>[(192,A6.e k),(196,E6.e k),(197,Fa.e k)] }
def Dv.s (k:Nat):CK 194 (Dv.e k):=mS Dv.d k [] Tryz.func194 ⟨A6.s k,E6.s k,Fa.s k,trivial⟩ trivial
def Jy.e (k:Nat):Ent:=⟨4,[(.val true t28),(.val false .s),(.val true t25),(.val false .b)],[(.agg,t29),(.one,(.i .i64))],λ x=>Jy k x.1 x.2.1 x.2.2.1 x.2.2.2⟩
def Jy.d:Fd := { nt:=82,nv:=4,nm:=[0,1,2,3,4,5,6,7,10,11,12,13,14,15],res:=[9],cs:=λ k=>[(59,Ho.e k),(60,Kj.e k),(67,B8.e k),(68,Fh.e k),(144,Bc.e k),(175,Eu.e k),(183,Bh.e k),(192,A6.e k),(194,Dv.e k)],mv:=[58,81] }
def Jy.s (k:Nat):CK 142 (Jy.e k):=mS Jy.d k [] Tryz.func142 ⟨Ho.s k,Kj.s k,B8.s k,Fh.s k,Bc.s k,Eu.s k,Bh.s k,A6.s k,Dv.s k,trivial⟩ trivial
def Ld.e (k:Nat):Ent:=⟨2,[(.val false .s),(.val true t25)],[(.agg,t27)],λ x=>Ld x.1 x.2⟩
def Ld.d:Fd := { nt:=14,nv:=2,nm:=[0,1,2,3],res:=[] }
def Ld.s (k:Nat):CK 257 (Ld.e k):=mS Ld.d k [] Tryz.func257 trivial trivial
def Jm.e (k:Nat):Ent:=⟨4,[(.ptr t38 t38),(.val false .s),(.val true t25),(.val false .b)],[(.one,(.i .i64))],λ x=>Jm k x.1 x.2.1 x.2.2.1 x.2.2.2⟩
def Jm.d:Fd := { nt:=52,nv:=4,nm:=[0,1,2,3,4,5,6,7,9,10],res:=[8],cs:=λ k=>[(142,Jy.e k),(257,Ld.e k)] }
def Jm.s (k:Nat):CK 236 (Jm.e k):=mS Jm.d k [] Tryz.func236 ⟨Jy.s k,Ld.s k,trivial⟩ trivial
def Jn.e (k:Nat):Ent:=⟨1,[(.val false (.i .i64))],[(.one,(.i .i64))],λ x=>Jn x⟩
def Jn.d:Fd := { nt:=6,nv:=1,nm:=[0,1],res:=[2],rf:=true }
def Jn.s (k:Nat):CK 237 (Jn.e k):=mS Jn.d k [] Tryz.func237 trivial trivial
def Bw.e (k:Nat):Ent:=⟨4,[(.ptr t46 t46),(.val false .s),(.val true t25),(.val false t6)],[(.one,(.i .i64))],λ x=>Bw k x.1 x.2.1 x.2.2.1 x.2.2.2⟩
def B2.p:LF:=⟨⟨[(0,(.bp 0 0 0)),(6,(.bp 6 0 0)),(1999,(.hd 9)),(7999,(.hd 5))],[(1,.s),(3,t6),(9,t7),(10,(.i .i64)),(11,(.i .i64)),(12,(.i .i64)),(1000,t46),(7000,t25)]⟩,[((.exit 0),⟨[(0,(.bp 0 0 0)),(6,(.bp 6 0 0)),(1999,(.hd 9)),(7999,(.hd 5))],[(1,.s),(11,(.i .i64)),(1000,t46),(7000,t25)]⟩)],λ k x=>B2 k x.1 x.2.1 x.2.2.1 x.2.2.2.1 x.2.2.2.2.1 x.2.2.2.2.2.1 x.2.2.2.2.2.2.1 x.2.2.2.2.2.2.2⟩
def Bw.d:Fd := { nt:=92,nv:=4,nm:=[0,1,2,3,4,5,6,7,9,10,11,12,13,14,15],res:=[8],cs:=λ k=>[(138,Ei.e k),(141,C1.e k),(235,Ek.e k),(236,Jm.e k),(237,Jn.e k)],ls:=[(5,B2.p)],gh:=[(1000006,[.cl 1003])],opn:=[51],rf:=true }
def Bw.a (k:Nat):AC (Bw.d.cs k):=⟨Ei.s k,C1.s k,Ek.s k,Jm.s k,Jn.s k,trivial⟩
def B2.s:LL Tryz.f206 Bw.d 5 B2.p:=mL [] Bw.a trivial
def Bw.s (k:Nat):CK 206 (Bw.e k):=mS Bw.d k [5] Tryz.func206 (Bw.a k) ⟨B2.s,trivial⟩
def He.e (k:Nat):Ent:=⟨5,[(.ptr t46 t46),(.val false .s),(.val true t25),(.val false (.i .i64)),(.val false t6)],[(.one,(.i .i64))],λ x=>He k x.1 x.2.1 x.2.2.1 x.2.2.2.1 x.2.2.2.2⟩
def He.d:Fd := { nt:=57,nv:=5,nm:=[0,1,2,3,4,5,6,7,8,9],res:=[10],cs:=λ k=>[(67,B8.e k),(72,Aa.e k),(205,Gz.e k),(206,Bw.e k)],rf:=true }
def He.s (k:Nat):CK 160 (He.e k):=mS He.d k [] Tryz.func160 ⟨B8.s k,Aa.s k,Gz.s k,Bw.s k,trivial⟩ trivial
def C8.e (k:Nat):Ent:=⟨2,[(.val true t28),(.val false .s)],[(.agg,t29),(.one,.b)],λ x=>C8 k x.1 x.2⟩
def C8.d:Fd := { nt:=26,nv:=2,nm:=[0,1,2,3,6],res:=[5],cs:=λ k=>[(129,Cy.e k),(192,A6.e k),(195,Ii.e k),(196,E6.e k)],mv:=[14] }
def C8.s (k:Nat):CK 143 (C8.e k):=mS C8.d k [] Tryz.func143 ⟨Cy.s k,A6.s k,Ii.s k,E6.s k,trivial⟩ trivial
def Cj.e (k:Nat):Ent:=⟨4,[(.ptr t46 t46),(.val false (.i .i64)),(.val false .s),(.val false t6)],[(.one,.b)],λ x=>Cj k x.1 x.2.1 x.2.2.1 x.2.2.2⟩
def Bi.p:LF:=⟨⟨[(0,(.bp 0 0 0)),(9,(.bp 9 0 0)),(1999,(.hd 9)),(10999,(.hd 5))],[(1,(.i .i64)),(2,.s),(3,t6),(11,t7),(12,.b),(13,.b),(14,(.i .i64)),(1000,t46),(10000,t25)]⟩,[((.exit 0),⟨[(0,(.bp 0 0 0)),(1999,(.hd 9))],[(1,(.i .i64)),(2,.s),(12,.b),(13,.b),(1000,t46)]⟩)],λ k x=>Bi k x.1 x.2.1 x.2.2.1 x.2.2.2.1 x.2.2.2.2.1 x.2.2.2.2.2.1 x.2.2.2.2.2.2.1 x.2.2.2.2.2.2.2.1 x.2.2.2.2.2.2.2.2⟩
def Cj.d:Fd := { nt:=125,nv:=4,nm:=[0,1,2,3,4,5,6,7,9,10,11,12,13,14,15,16,17,18],res:=[8],cs:=λ k=>[(59,Ho.e k),(139,Ba.e k),(140,Bb.e k),(141,C1.e k),(142,Jy.e k),(143,C8.e k),(144,Bc.e k)],ls:=[(8,Bi.p)],rf:=true }
def Cj.a (k:Nat):AC (Cj.d.cs k):=⟨Ho.s k,Ba.s k,Bb.s k,C1.s k,Jy.s k,C8.s k,Bc.s k,trivial⟩
def Bi.s:LL Tryz.f81 Cj.d 8 Bi.p:=mL [] Cj.a trivial
def Cj.s (k:Nat):CK 81 (Cj.e k):=mS Cj.d k [8] Tryz.func81 (Cj.a k) ⟨Bi.s,trivial⟩
def Gf.e (k:Nat):Ent:=⟨1,[(.val true t44)],[(.one,t7)],λ x=>Gf k x⟩
def Gf.d:Fd := { nt:=8,nv:=1,nm:=[0,1],res:=[2],cs:=λ k=>[(139,Ba.e k),(140,Bb.e k)],rf:=true }
def Gf.s (k:Nat):CK 200 (Gf.e k):=mS Gf.d k [] Tryz.func200 ⟨Ba.s k,Bb.s k,trivial⟩ trivial
def J0.e (k:Nat):Ent:=⟨2,[(.val true t27),(.val true t27)],[(.one,.b)],λ x=>J0 x.1 x.2⟩
def J0.d:Fd := { nt:=29,nv:=2,nm:=[0,1,2,3],res:=[4],cs:=λ k=>[(69,Du.e k)] }
def J0.s (k:Nat):CK 260 (J0.e k):=mS J0.d k [] Tryz.func260 ⟨Du.s k,trivial⟩ trivial
def Cf.e (k:Nat):Ent:=⟨2,[(.val false t31),(.val true t27)],[(.one,t32)],λ x=>Cf k x.1 x.2⟩
def Dp.p:LF:=⟨⟨[(3,(.bp 3 0 0)),(4999,(.hd 6))],[(5,t32),(7,(.i .i64)),(4000,.s),(4001,(.i .i64)),(4002,(.i .i64)),(4003,(.i .i64)),(4004,.b),(4005,(.i .i64))]⟩,[((.exit 2),⟨[(3,(.bp 3 0 0)),(4999,(.hd 6))],[(5,t32),(7,(.i .i64)),(4000,.s),(4001,(.i .i64)),(4002,(.i .i64)),(4003,(.i .i64)),(4004,.b),(4005,(.i .i64))]⟩)],λ k x=>Dp k x.1 x.2.1 x.2.2.1 x.2.2.2.1 x.2.2.2.2.1 x.2.2.2.2.2.1 x.2.2.2.2.2.2.1 x.2.2.2.2.2.2.2⟩
def El.p:LF:=⟨⟨[(3,(.bp 3 0 0)),(4999,(.hd 6))],[(5,t32),(6,(.i .i64)),(4000,.s),(4001,(.i .i64)),(4002,(.i .i64)),(4003,(.i .i64)),(4004,.b),(4005,(.i .i64))]⟩,[(.ret,⟨[],[(4,t32)]⟩),((.exit 0),⟨[(3,(.bp 3 0 0)),(4999,(.hd 6))],[(5,t32),(4000,.s),(4001,(.i .i64)),(4002,(.i .i64)),(4003,(.i .i64)),(4004,.b),(4005,(.i .i64))]⟩)],λ k x=>El k x.1 x.2.1 x.2.2.1 x.2.2.2.1 x.2.2.2.2.1 x.2.2.2.2.2.1 x.2.2.2.2.2.2.1 x.2.2.2.2.2.2.2⟩
def Cf.d:Fd := { nt:=70,nv:=2,nm:=[0,1,2,3,5,6,7],res:=[4],cs:=λ k=>[(260,J0.e k)],ls:=[(11,Dp.p),(3,El.p)] }
def Cf.a (k:Nat):AC (Cf.d.cs k):=⟨J0.s k,trivial⟩
def Dp.s:LL Tryz.f253 Cf.d 11 Dp.p:=mL [] Cf.a trivial
def El.s:LL Tryz.f253 Cf.d 3 El.p:=mL [] Cf.a trivial
def Cf.s (k:Nat):CK 253 (Cf.e k):=mS Cf.d k [3,11] Tryz.func253 (Cf.a k) ⟨El.s,Dp.s,trivial⟩
def Ck.e (k:Nat):Ent:=⟨2,[(.val false t31),(.val false t31)],[(.one,t32)],λ x=>Ck k x.1 x.2⟩
def Dq.p:LF:=⟨⟨[],[(1,t31),(5,t32),(6,(.i .i64))]⟩,[((.exit 0),⟨[],[(5,t32)]⟩)],λ k x=>Dq k x.1 x.2.1 x.2.2⟩
def Ck.d:Fd := { nt:=23,nv:=2,nm:=[0,1,2,3,5,6],res:=[4],cs:=λ k=>[(253,Cf.e k)],ls:=[(3,Dq.p)] }
def Ck.a (k:Nat):AC (Ck.d.cs k):=⟨Cf.s k,trivial⟩
def Dq.s:LL Tryz.f233 Ck.d 3 Dq.p:=mL [] Ck.a trivial
def Ck.s (k:Nat):CK 233 (Ck.e k):=mS Ck.d k [3] Tryz.func233 (Ck.a k) ⟨Dq.s,trivial⟩
def Hp.e (k:Nat):Ent:=⟨2,[(.ptr t38 t38),(.val false t31)],[(.one,.b)],λ x=>Hp k x.1 x.2⟩
def Hp.d:Fd := { nt:=19,nv:=2,nm:=[0,1,2,3,5],res:=[4],cs:=λ k=>[(233,Ck.e k)] }
def Hp.s (k:Nat):CK 201 (Hp.e k):=mS Hp.d k [] Tryz.func201 ⟨Ck.s k,trivial⟩ trivial
def Bl.e (k:Nat):Ent:=⟨5,[(.ptr t46 t46),(.val false (.i .i64)),(.val false t31),(.val false .b),(.val false t6)],[(.one,.b)],λ x=>Bl k x.1 x.2.1 x.2.2.1 x.2.2.2.1 x.2.2.2.2⟩
def Ai.p:LF:=⟨⟨[(0,(.bp 0 0 0)),(1999,(.hd 9))],[(1,(.i .i64)),(2,t31),(3,.b),(4,t6),(11,t7),(12,.b),(13,(.i .i64)),(1000,t46)]⟩,[((.exit 0),⟨[(1999,(.hd 9))],[(12,.b),(1000,t46)]⟩)],λ k x=>Ai k x.1 x.2.1 x.2.2.1 x.2.2.2.1 x.2.2.2.2.1 x.2.2.2.2.2.1 x.2.2.2.2.2.2.1 x.2.2.2.2.2.2.2⟩
def Bl.d:Fd := { nt:=53,nv:=5,nm:=[0,1,2,3,4,5,6,7,8,9,11,12,13],res:=[10],cs:=λ k=>[(141,C1.e k),(200,Gf.e k),(201,Hp.e k)],ls:=[(4,Ai.p)],gh:=[(1000005,[.cl 1003])],opn:=[47],rf:=true }
def Bl.a (k:Nat):AC (Bl.d.cs k):=⟨C1.s k,Gf.s k,Hp.s k,trivial⟩
def Ai.s:LL Tryz.f154 Bl.d 4 Ai.p:=mL [] Bl.a trivial
def Bl.s (k:Nat):CK 154 (Bl.e k):=mS Bl.d k [4] Tryz.func154 (Bl.a k) ⟨Ai.s,trivial⟩
def H0.e (k:Nat):Ent:=⟨3,[(.ptr t46 t46),(.val false (.i .i64)),(.val false t6)],[(.one,.b)],λ x=>H0 k x.1 x.2.1 x.2.2⟩
def H0.d:Fd := { nt:=36,nv:=3,nm:=[0,1,2,3,4,5,7],res:=[6],cs:=λ k=>[(154,Bl.e k)],rf:=true }
def H0.s (k:Nat):CK 91 (H0.e k):=mS H0.d k [] Tryz.func91 ⟨Bl.s k,trivial⟩ trivial
def Ik.e (k:Nat):Ent:=⟨2,[(.val true t44),(.val false (.i .i64))],[(.one,.b)],λ x=>Ik k x.1 x.2⟩
def Ik.d:Fd := { nt:=9,nv:=2,nm:=[0,1,2,3],res:=[4],cs:=λ k=>[(181,Cg.e k),(200,Gf.e k)],rf:=true }
def Ik.s (k:Nat):CK 155 (Ik.e k):=mS Ik.d k [] Tryz.func155 ⟨Cg.s k,Gf.s k,trivial⟩ trivial
def H1.e (k:Nat):Ent:=⟨3,[(.ptr t46 t46),(.val false (.i .i64)),(.val false t6)],[(.one,.b)],λ x=>H1 k x.1 x.2.1 x.2.2⟩
def H1.d:Fd := { nt:=47,nv:=3,nm:=[0,1,2,3,4,5,7],res:=[6],cs:=λ k=>[(154,Bl.e k),(155,Ik.e k)],rf:=true }
def H1.s (k:Nat):CK 93 (H1.e k):=mS H1.d k [] Tryz.func93 ⟨Bl.s k,Ik.s k,trivial⟩ trivial
def Ia.e (k:Nat):Ent:=⟨1,[(.val true t28)],[(.agg,t29),(.one,(.i .i64))],λ x=>Ia k x⟩
def Hf.p:LF:=⟨⟨[(1,(.bp 1 0 0)),(2,(.bp 2 0 0)),(4,(.bp 4 0 0)),(2999,(.hd 2)),(3999,(.hd 2)),(5999,(.hd 2))],[(5,(.i .i64)),(6,(.i .i64)),(2000,t28),(3000,t29),(5000,t29)]⟩,[((.exit 0),⟨[(2,(.bp 2 0 0)),(4,(.bp 4 0 0)),(3999,(.hd 2)),(5999,(.hd 2))],[(5,(.i .i64)),(3000,t29),(5000,t29)]⟩)],λ k x=>Hf k x.1 x.2.1 x.2.2.1 x.2.2.2.1 x.2.2.2.2⟩
def Ia.d:Fd := { nt:=53,nv:=1,nm:=[0,1,4,5,6,7,8,9],res:=[3],cs:=λ k=>[(59,Ho.e k),(143,C8.e k),(144,Bc.e k),(183,Bh.e k),(192,A6.e k)],ls:=[(4,Hf.p)],mv:=[51],rf:=true }
def Ia.a (k:Nat):AC (Ia.d.cs k):=⟨Ho.s k,C8.s k,Bc.s k,Bh.s k,A6.s k,trivial⟩
def Hf.s:LL Tryz.f207 Ia.d 4 Hf.p:=mL [] Ia.a trivial
def Ia.s (k:Nat):CK 207 (Ia.e k):=mS Ia.d k [4] Tryz.func207 (Ia.a k) ⟨Hf.s,trivial⟩
def Ch.e (k:Nat):Ent:=⟨2,[(.val false t13),(.val false t13)],[(.one,t2)],λ x=>Ch k x.1 x.2⟩
def Em.p:LF:=⟨⟨[],[(5,t14),(8,t2),(9,(.i .i64))]⟩,[((.exit 4),⟨[],[(8,t2)]⟩)],λ k x=>Em k x.1 x.2.1 x.2.2⟩
def Fk.p:LF:=⟨⟨[],[(1,t13),(5,t14),(7,(.i .i64))]⟩,[((.exit 2),⟨[],[(5,t14)]⟩)],λ k x=>Fk k x.1 x.2.1 x.2.2⟩
def Fl.p:LF:=⟨⟨[],[(0,t13),(1,t13),(5,t14),(6,(.i .i64))]⟩,[((.exit 0),⟨[],[(1,t13),(5,t14)]⟩)],λ k x=>Fl k x.1 x.2.1 x.2.2.1 x.2.2.2⟩
def Ch.d:Fd := { nt:=55,nv:=2,nm:=[0,1,2,3,5,6,7,8,9],res:=[4],cs:=λ k=>[(197,Fa.e k)],ls:=[(12,Em.p),(7,Fk.p),(3,Fl.p)],rf:=true }
def Ch.a (k:Nat):AC (Ch.d.cs k):=⟨Fa.s k,trivial⟩
def Em.s:LL Tryz.f238 Ch.d 12 Em.p:=mL [] Ch.a trivial
def Fk.s:LL Tryz.f238 Ch.d 7 Fk.p:=mL [] Ch.a trivial
def Fl.s:LL Tryz.f238 Ch.d 3 Fl.p:=mL [] Ch.a trivial
def Ch.s (k:Nat):CK 238 (Ch.e k):=mS Ch.d k [3,7,12] Tryz.func238 (Ch.a k) ⟨Fl.s,Fk.s,Em.s,trivial⟩
def D9.e (k:Nat):Ent:=⟨2,[(.val true t28),(.val false t1)],[(.agg,t29)],λ x=>D9 k x.1 x.2⟩
def Ar.p:LF:=⟨⟨[(2,(.bp 2 0 0)),(4,(.bp 4 0 0)),(3999,(.hd 2)),(5999,(.hd 2))],[(1,t1),(5,t2),(6,t14),(7,(.i .i64)),(3000,t28),(5000,t29)]⟩,[((.exit 0),⟨[(2,(.bp 2 0 0)),(4,(.bp 4 0 0)),(3999,(.hd 2)),(5999,(.hd 2))],[(6,t14),(3000,t28),(5000,t29)]⟩)],λ k x=>Ar k x.1 x.2.1 x.2.2.1 x.2.2.2.1 x.2.2.2.2.1 x.2.2.2.2.2⟩
def D9.d:Fd := { nt:=66,nv:=2,nm:=[0,1,2,3,5,6,7,8,9],res:=[],cs:=λ k=>[(129,Cy.e k),(183,Bh.e k),(192,A6.e k),(231,Be.e k),(238,Ch.e k)],ls:=[(6,Ar.p)],rf:=true }
def D9.a (k:Nat):AC (D9.d.cs k):=⟨Cy.s k,Bh.s k,A6.s k,Be.s k,Ch.s k,trivial⟩
def Ar.s:LL Tryz.f208 D9.d 6 Ar.p:=mL [] D9.a trivial
def D9.s (k:Nat):CK 208 (D9.e k):=mS D9.d k [6] Tryz.func208 (D9.a k) ⟨Ar.s,trivial⟩
def I4.e (k:Nat):Ent:=⟨1,[(.val true t27)],[(.one,.b)],λ x=>I4 k x⟩
def I4.d:Fd := { nt:=26,nv:=1,nm:=[0,1],res:=[2],cs:=λ k=>[(66,D6.e k),(67,B8.e k),(72,Aa.e k)] }
def I4.s (k:Nat):CK 182 (I4.e k):=mS I4.d k [] Tryz.func182 ⟨D6.s k,B8.s k,Aa.s k,trivial⟩ trivial
def G8.e (k:Nat):Ent:=⟨1,[(.val false t31)],[(.one,.b)],λ x=>G8 k x⟩
def Fy.p:LF:=⟨⟨[],[(0,t31),(3,(.i .i64))]⟩,[(.ret,⟨[],[(2,.b)]⟩),((.exit 0),⟨[],[(0,t31)]⟩)],λ k x=>Fy k x.1 x.2⟩
def G8.d:Fd := { nt:=37,nv:=1,nm:=[0,1,3],res:=[2],cs:=λ k=>[(182,I4.e k)],ls:=[(2,Fy.p)] }
def G8.a (k:Nat):AC (G8.d.cs k):=⟨I4.s k,trivial⟩
def Fy.s:LL Tryz.f184 G8.d 2 Fy.p:=mL [] G8.a trivial
def G8.s (k:Nat):CK 184 (G8.e k):=mS G8.d k [2] Tryz.func184 (G8.a k) ⟨Fy.s,trivial⟩
def G9.e (k:Nat):Ent:=⟨1,[(.val true t38)],[(.one,.b)],λ x=>G9 k x⟩
def H2.p:LF:=⟨⟨[(1,(.bp 1 0 0)),(2999,(.hd 5))],[(3,(.i .i64)),(2000,(.i .i64)),(2001,t13),(2002,t13),(2003,t31),(2004,t31)]⟩,[(.ret,⟨[],[(2,.b)]⟩),((.exit 0),⟨[(1,(.bp 1 0 0)),(2999,(.hd 5))],[(2000,(.i .i64)),(2001,t13),(2002,t13),(2003,t31),(2004,t31)]⟩)],λ k x=>H2 k x.1 x.2.1 x.2.2.1 x.2.2.2.1 x.2.2.2.2.1 x.2.2.2.2.2⟩
def G9.d:Fd := { nt:=37,nv:=1,nm:=[0,1,3],res:=[2],cs:=λ k=>[(72,Aa.e k),(182,I4.e k),(183,Bh.e k),(184,G8.e k)],ls:=[(2,H2.p)] }
def G9.a (k:Nat):AC (G9.d.cs k):=⟨Aa.s k,I4.s k,Bh.s k,G8.s k,trivial⟩
def H2.s:LL Tryz.f125 G9.d 2 H2.p:=mL [] G9.a trivial
def G9.s (k:Nat):CK 125 (G9.e k):=mS G9.d k [2] Tryz.func125 (G9.a k) ⟨H2.s,trivial⟩
def J1.e (k:Nat):Ent:=⟨1,[(.val true t38)],[(.agg,t39)],λ x=>J1 k x⟩
def J1.d:Fd := { nt:=17,nv:=1,nm:=[0,1],res:=[],cs:=λ k=>[(192,A6.e k)] }
def J1.s (k:Nat):CK 137 (J1.e k):=mS J1.d k [] Tryz.func137 ⟨A6.s k,trivial⟩ trivial
def Jo.e (k:Nat):Ent:=⟨3,[(.val true t28),(.val false .s),(.val false (.i .i64))],[(.agg,t30),(.one,.b)],λ x=>Jo k x.1 x.2.1 x.2.2⟩
def Jo.d:Fd := { nt:=97,nv:=3,nm:=[0,1,2,3,4,5,8,9,10,11],res:=[7],cs:=λ k=>[(72,Aa.e k),(129,Cy.e k),(183,Bh.e k),(192,Jf.e k)],mv:=[39,96] }
def Jo.s (k:Nat):CK 239 (Jo.e k):=mS Jo.d k [] Tryz.func239 ⟨Aa.s k,Cy.s k,Bh.s k,Jf.s k,trivial⟩ trivial
def J2.e (k:Nat):Ent:=⟨3,[(.val true t38),(.val false .s),(.val false (.i .i64))],[(.agg,t40),(.one,.b)],λ x=>J2 k x.1 x.2.1 x.2.2⟩
def J2.d:Fd := { nt:=44,nv:=3,nm:=[0,1,2,3,4,5,8,9,10,11,12],res:=[7],cs:=λ k=>[(59,Ho.e k),(125,G9.e k),(137,J1.e k),(239,Jo.e k)],mv:=[29,40,43] }
def J2.s (k:Nat):CK 209 (J2.e k):=mS J2.d k [] Tryz.func209 ⟨Ho.s k,G9.s k,J1.s k,Jo.s k,trivial⟩ trivial
def Hj.e (k:Nat):Ent:=⟨2,[(.val false t0),(.val false .s)],[(.one,.b)],λ x=>Hj k x.1 x.2⟩
def H3.p:LF:=⟨⟨[],[(0,t0),(1,.s),(5,(.i .i64))]⟩,[(.ret,⟨[],[(4,.b)]⟩),((.exit 0),⟨[],[]⟩)],λ k x=>H3 k x.1 x.2.1 x.2.2⟩
def Hj.d:Fd := { nt:=18,nv:=2,nm:=[0,1,2,3,5],res:=[4],ls:=[(2,H3.p)],rf:=true }
def H3.s:LL Tryz.f128 Hj.d 2 H3.p:=mL [] (λ _=>trivial) trivial
def Hj.s (k:Nat):CK 128 (Hj.e k):=mS Hj.d k [2] Tryz.func128 trivial ⟨H3.s,trivial⟩
def Da.e (k:Nat):Ent:=⟨2,[(.val false t0),(.val false .s)],[(.one,t0)],λ x=>Da k x.1 x.2⟩
def Eo.p:LF:=⟨⟨[],[(1,.s),(5,t2),(6,(.i .i64))]⟩,[((.exit 0),⟨[],[(1,.s),(5,t2),(6,(.i .i64))]⟩)],λ k x=>Eo k x.1 x.2.1 x.2.2⟩
def Da.d:Fd := { nt:=46,nv:=2,nm:=[0,1,2,3,5,6],res:=[4],cs:=λ k=>[(128,Hj.e k)],ls:=[(5,Eo.p)],rf:=true }
def Da.a (k:Nat):AC (Da.d.cs k):=⟨Hj.s k,trivial⟩
def Eo.s:LL Tryz.f210 Da.d 5 Eo.p:=mL [] Da.a trivial
def Da.s (k:Nat):CK 210 (Da.e k):=mS Da.d k [5] Tryz.func210 (Da.a k) ⟨Eo.s,trivial⟩
def Az.e (k:Nat):Ent:=⟨2,[(.ptr t46 t46),(.val true t34)],[(.one,.b)],λ x=>Az k x.1 x.2⟩
def Cs.p:LF:=⟨⟨[(0,(.bp 0 0 0)),(3,(.bp 3 0 0)),(1999,(.hd 9)),(4999,(.hd 6))],[(5,t3),(6,(.i .i64)),(1000,t46),(4000,t34)]⟩,[((.exit 1),⟨[(0,(.bp 0 0 0)),(3,(.bp 3 0 0)),(1999,(.hd 9)),(4999,(.hd 6))],[(5,t3),(1000,t46),(4000,t34)]⟩)],λ k x=>Cs k x.1 x.2.1 x.2.2.1 x.2.2.2⟩
def Az.d:Fd := { nt:=134,nv:=2,nm:=[0,1,2,3,5,6,7,8],res:=[4],cs:=λ k=>[(81,Cj.e k),(91,H0.e k),(93,H1.e k),(207,Ia.e k),(208,D9.e k),(209,J2.e k),(210,Da.e k)],ls:=[(14,Cs.p)],rf:=true }
def Az.a (k:Nat):AC (Az.d.cs k):=⟨Cj.s k,H0.s k,H1.s k,Ia.s k,D9.s k,J2.s k,Da.s k,trivial⟩
def Cs.s:LL Tryz.f161 Az.d 14 Cs.p:=mL [] Az.a trivial
def Az.s (k:Nat):CK 161 (Az.e k):=mS Az.d k [14] Tryz.func161 (Az.a k) ⟨Cs.s,trivial⟩
def Jb.e (k:Nat):Ent:=⟨1,[(.val true t17)],[(.agg,t19)],λ x=>Jb k x⟩
def H4.p:LF:=⟨⟨[(1,(.bp 1 0 0)),(2,(.bp 2 0 0)),(3,(.bp 3 0 0)),(2999,(.hd 2)),(3999,(.hd 2)),(4999,(.hd 2))],[(4,(.i .i64)),(2000,t17),(3000,t18),(4000,t19)]⟩,[((.exit 0),⟨[(2,(.bp 2 0 0)),(3,(.bp 3 0 0)),(3999,(.hd 2)),(4999,(.hd 2))],[(3000,t18),(4000,t19)]⟩)],λ k x=>H4 k x.1 x.2.1 x.2.2.1 x.2.2.2⟩
def Jb.d:Fd := { nt:=30,nv:=1,nm:=[0,1,3,4],res:=[],ls:=[(3,H4.p)],hint:=[(26,t7),(27,t7)],mv:=[29],rf:=true }
def H4.s:LL Tryz.f136 Jb.d 3 H4.p:=mL [] (λ _=>trivial) trivial
def Jb.s (k:Nat):CK 136 (Jb.e k):=mS Jb.d k [3] Tryz.func136 trivial ⟨H4.s,trivial⟩
def Ga.e (k:Nat):Ent:=⟨2,[(.val true t6),(.val false (.i .i64))],[(.one,.b)],λ x=>Ga k x.1 x.2⟩
def H5.p:LF:=⟨⟨[(2,(.bp 2 0 0)),(3999,(.hd 1))],[(1,(.i .i64)),(5,(.i .i64)),(3000,t6)]⟩,[(.ret,⟨[],[(4,.b)]⟩),((.exit 0),⟨[(2,(.bp 2 0 0)),(3999,(.hd 1))],[(1,(.i .i64)),(3000,t6)]⟩)],λ k x=>H5 k x.1 x.2.1 x.2.2⟩
def Ga.d:Fd := { nt:=28,nv:=2,nm:=[0,1,2,3,5],res:=[4],cs:=λ k=>[(181,Cg.e k)],ls:=[(2,H5.p)],rf:=true }
def Ga.a (k:Nat):AC (Ga.d.cs k):=⟨Cg.s k,trivial⟩
def H5.s:LL Tryz.f123 Ga.d 2 H5.p:=mL [] Ga.a trivial
def Ga.s (k:Nat):CK 123 (Ga.e k):=mS Ga.d k [2] Tryz.func123 (Ga.a k) ⟨H5.s,trivial⟩
def Je.e (k:Nat):Ent:=⟨2,[(.val true t17),(.val false t22)],[(.one,.b)],λ x=>Je k x.1 x.2⟩
def J3.p:LF:=⟨⟨[(2,(.bp 2 0 0)),(3999,(.hd 2))],[(5,(.i .i64)),(3000,t17)]⟩,[(.ret,⟨[],[(4,.b)]⟩),((.exit 0),⟨[],[]⟩)],λ k x=>J3 k x.1 x.2⟩
def Je.d:Fd := { nt:=45,nv:=2,nm:=[0,1,2,3,5],res:=[4],cs:=λ k=>[(72,Aa.e k),(122,Cm.e k),(123,Ga.e k)],ls:=[(4,J3.p)],rf:=true }
def Je.a (k:Nat):AC (Je.d.cs k):=⟨Aa.s k,Cm.s k,Ga.s k,trivial⟩
def J3.s:LL Tryz.f240 Je.d 4 J3.p:=mL [] Je.a trivial
def Je.s (k:Nat):CK 240 (Je.e k):=mS Je.d k [4] Tryz.func240 (Je.a k) ⟨J3.s,trivial⟩
def Gb.e (k:Nat):Ent:=⟨2,[(.val true t6),(.val false t22)],[(.one,(.i .i64))],λ x=>Gb k x.1 x.2⟩
def H6.p:LF:=⟨⟨[(2,(.bp 2 0 0)),(3999,(.hd 1))],[(1,t22),(5,(.i .i64)),(3000,t6)]⟩,[(.ret,⟨[],[(4,(.i .i64))]⟩),((.exit 0),⟨[],[]⟩)],λ k x=>H6 k x.1 x.2.1 x.2.2⟩
def Gb.d:Fd := { nt:=28,nv:=2,nm:=[0,1,2,3,5,6,7],res:=[4],cs:=λ k=>[(124,G0.e k)],ls:=[(2,H6.p)],rf:=true }
def Gb.a (k:Nat):AC (Gb.d.cs k):=⟨G0.s k,trivial⟩
def H6.s:LL Tryz.f241 Gb.d 2 H6.p:=mL [] Gb.a trivial
def Gb.s (k:Nat):CK 241 (Gb.e k):=mS Gb.d k [2] Tryz.func241 (Gb.a k) ⟨H6.s,trivial⟩
def Ev.e (k:Nat):Ent:=⟨4,[(.val true t17),(.val true t6),(.val false t22),(.val false (.i .i64))],[(.one,(.i .i64))],λ x=>Ev k x.1 x.2.1 x.2.2.1 x.2.2.2⟩
def C9.p:LF:=⟨⟨[(4,(.bp 4 0 0)),(5,(.bp 5 0 0)),(9,(.bp 9 0 0)),(5999,(.hd 2)),(6999,(.hd 1)),(10999,(.hd 3))],[(2,t22),(3,(.i .i64)),(10,.b),(11,(.i .i64)),(5000,t17),(6000,t6),(10000,t16)]⟩,[(.ret,⟨[],[(8,(.i .i64))]⟩),((.exit 0),⟨[],[]⟩)],λ k x=>C9 k x.1 x.2.1 x.2.2.1 x.2.2.2.1 x.2.2.2.2.1 x.2.2.2.2.2.1 x.2.2.2.2.2.2⟩
def Ev.d:Fd := { nt:=60,nv:=4,nm:=[0,1,2,3,4,5,6,7,9,10,11,12,13],res:=[8],cs:=λ k=>[(124,G0.e k),(255,Cn.e k)],ls:=[(3,C9.p)],rf:=true }
def Ev.a (k:Nat):AC (Ev.d.cs k):=⟨G0.s k,Cn.s k,trivial⟩
def C9.s:LL Tryz.f242 Ev.d 3 C9.p:=mL [] Ev.a trivial
def Ev.s (k:Nat):CK 242 (Ev.e k):=mS Ev.d k [3] Tryz.func242 (Ev.a k) ⟨C9.s,trivial⟩
def Cl.e (k:Nat):Ent:=⟨2,[(.val true t17),(.val false t22)],[(.agg,t19),(.one,(.i .i64))],λ x=>Cl k x.1 x.2⟩
def B3.p:LF:=⟨⟨[(4,(.bp 4 0 0)),(6,(.bp 6 0 0)),(5999,(.hd 2)),(7999,(.hd 2))],[(1,t22),(7,(.i .i64)),(8,(.i .i64)),(5000,t18),(7000,t19)]⟩,[((.exit 0),⟨[(4,(.bp 4 0 0)),(6,(.bp 6 0 0)),(5999,(.hd 2)),(7999,(.hd 2))],[(7,(.i .i64)),(5000,t18),(7000,t19)]⟩)],λ k x=>B3 k x.1 x.2.1 x.2.2.1 x.2.2.2.1 x.2.2.2.2⟩
def Cl.d:Fd := { nt:=82,nv:=2,nm:=[0,1,2,3,6,7,8,9,10,11,12],res:=[5],cs:=λ k=>[(136,Jb.e k),(234,Hn.e k),(240,Je.e k),(241,Gb.e k),(242,Ev.e k)],ls:=[(6,B3.p)],mv:=[19,80],rf:=true }
def Cl.a (k:Nat):AC (Cl.d.cs k):=⟨Jb.s k,Hn.s k,Je.s k,Gb.s k,Ev.s k,trivial⟩
def B3.s:LL Tryz.f211 Cl.d 6 B3.p:=mL [] Cl.a trivial
def Cl.s (k:Nat):CK 211 (Cl.e k):=mS Cl.d k [6] Tryz.func211 (Cl.a k) ⟨B3.s,trivial⟩
def H7.e (k:Nat):Ent:=⟨3,[(.ptr t46 t46),(.val false (.i .i64)),(.val false (.i .i64))],[(.one,.b)],λ x=>H7 k x.1 x.2.1 x.2.2⟩
def H7.d:Fd := { nt:=49,nv:=3,nm:=[0,1,2,3,4,5,7,8],res:=[6],cs:=λ k=>[(72,Aa.e k),(211,Cl.e k)],rf:=true }
def H7.s (k:Nat):CK 162 (H7.e k):=mS H7.d k [] Tryz.func162 ⟨Aa.s k,Cl.s k,trivial⟩ trivial
def Ie.e (k:Nat):Ent:=⟨2,[(.ptr t46 t46),(.val true t34)],[(.one,.b)],λ x=>Ie k x.1 x.2⟩
def Ie.d:Fd := { nt:=76,nv:=2,nm:=[0,1,2,3,5,6],res:=[4],cs:=λ k=>[(72,Aa.e k),(160,He.e k),(161,Az.e k),(162,H7.e k)],rf:=true }
def Ie.s (k:Nat):CK 102 (Ie.e k):=mS Ie.d k [] Tryz.func102 ⟨Aa.s k,He.s k,Az.s k,H7.s k,trivial⟩ trivial
def Kk.e (k:Nat):Ent:=⟨2,[(.ptr t21 t21),(.val false t0)],[(.one,.s)],λ x=>Kk x.1 x.2⟩
def Kk.d:Fd := { nt:=12,nv:=2,nm:=[0,1,2,3],res:=[4],cs:=λ k=>[(75,A9.e k)] }
def Kk.s (k:Nat):CK 115 (Kk.e k):=mS Kk.d k [] Tryz.func115 ⟨A9.s k,trivial⟩ trivial
def Jp.e (k:Nat):Ent:=⟨1,[(.ptr t21 t21)],[(.one,.s)],λ x=>Jp x⟩
def Jp.d:Fd := { nt:=6,nv:=1,nm:=[0,1],res:=[2],cs:=λ k=>[(115,Kk.e k)] }
def Jp.s (k:Nat):CK 58 (Jp.e k):=mS Jp.d k [] Tryz.func58 ⟨Kk.s k,trivial⟩ trivial
def G4.e (k:Nat):Ent:=⟨1,[(.val true t28)],[(.one,t2)],λ x=>G4 k x⟩
def J4.p:LF:=⟨⟨[(1,(.bp 1 0 0)),(2999,(.hd 2))],[(3,t2),(4,(.i .i64)),(7,(.i .i64)),(2000,t28)]⟩,[((.exit 2),⟨[(1,(.bp 1 0 0)),(2999,(.hd 2))],[(3,t2),(4,(.i .i64)),(7,(.i .i64)),(2000,t28)]⟩)],λ k x=>J4 k x.1 x.2.1 x.2.2.1 x.2.2.2⟩
def Gg.p:LF:=⟨⟨[(1,(.bp 1 0 0)),(2999,(.hd 2))],[(3,t2),(4,(.i .i64)),(2000,t28)]⟩,[((.exit 0),⟨[],[(3,t2)]⟩)],λ k x=>Gg k x.1 x.2.1 x.2.2⟩
def G4.d:Fd := { nt:=98,nv:=1,nm:=[0,1,3,4,5,6,7],res:=[2],cs:=λ k=>[(117,Ge.e k),(128,Hj.e k),(129,Cy.e k)],ls:=[(9,J4.p),(3,Gg.p)],rf:=true }
def G4.a (k:Nat):AC (G4.d.cs k):=⟨Ge.s k,Hj.s k,Cy.s k,trivial⟩
def J4.s:LL Tryz.f73 G4.d 9 J4.p:=mL [] G4.a trivial
def Gg.s:LL Tryz.f73 G4.d 3 Gg.p:=mL [9] G4.a ⟨J4.s,trivial⟩
def G4.s (k:Nat):CK 73 (G4.e k):=mS G4.d k [3] Tryz.func73 (G4.a k) ⟨Gg.s,trivial⟩
def E3.e (k:Nat):Ent:=⟨1,[(.ptr t21 t21)],[(.one,t7)],λ x=>E3 k x⟩
def Fm.p:LF:=⟨⟨[(0,(.bp 0 0 0)),(1999,(.hd 3))],[(3,t7),(4,(.i .i64)),(1000,t21)]⟩,[((.exit 0),⟨[(1999,(.hd 3))],[(3,t7),(1000,t21)]⟩)],λ k x=>Fm k x.1 x.2.1 x.2.2⟩
def E3.d:Fd := { nt:=17,nv:=1,nm:=[0,1,3,4],res:=[2],cs:=λ k=>[(127,Bx.e k)],ls:=[(3,Fm.p)],rf:=true }
def E3.a (k:Nat):AC (E3.d.cs k):=⟨Bx.s k,trivial⟩
def Fm.s:LL Tryz.f131 E3.d 3 Fm.p:=mL [] E3.a trivial
def E3.s (k:Nat):CK 131 (E3.e k):=mS E3.d k [3] Tryz.func131 (E3.a k) ⟨Fm.s,trivial⟩
def Fo.e (k:Nat):Ent:=⟨2,[(.ptr t21 t21),(.val false (.i .i64))],[(.one,t5)],λ x=>Fo k x.1 x.2⟩
def Fn.p:LF:=⟨⟨[(0,(.bp 0 0 0)),(1999,(.hd 3))],[(1,(.i .i64)),(5,t5),(6,(.i .i64)),(1000,t4),(1001,(.i .i64)),(1002,(.i .i64))]⟩,[((.exit 0),⟨[(1999,(.hd 3))],[(5,t5),(1000,t4),(1001,(.i .i64)),(1002,(.i .i64))]⟩)],λ k x=>Fn k x.1 x.2.1 x.2.2.1 x.2.2.2.1 x.2.2.2.2.1 x.2.2.2.2.2⟩
def Fo.d:Fd := { nt:=20,nv:=2,nm:=[0,1,2,3,5,6],res:=[4],cs:=λ k=>[(130,Fg.e k)],ls:=[(3,Fn.p)] }
def Fo.a (k:Nat):AC (Fo.d.cs k):=⟨Fg.s k,trivial⟩
def Fn.s:LL Tryz.f212 Fo.d 3 Fn.p:=mL [] Fo.a trivial
def Fo.s (k:Nat):CK 212 (Fo.e k):=mS Fo.d k [3] Tryz.func212 (Fo.a k) ⟨Fn.s,trivial⟩
def Fp.e (k:Nat):Ent:=⟨1,[(.ptr t21 t21)],[(.one,t5)],λ x=>Fp k x⟩
def Fp.d:Fd := { nt:=8,nv:=1,nm:=[0,1],res:=[2],cs:=λ k=>[(127,Bx.e k),(212,Fo.e k)] }
def Fp.s (k:Nat):CK 163 (Fp.e k):=mS Fp.d k [] Tryz.func163 ⟨Bx.s k,Fo.s k,trivial⟩ trivial
def Ep.e (k:Nat):Ent:=⟨2,[(.ptr t21 t21),(.vw t46 2),(.hid t46 t46)],[(.agg,(.pr (.i .i64) (.pr (.i .i64) (.pr .s (.pr t5 (.pr (.i .i64) t7))))))],λ x=>Ep k x.1 x.2.1 x.2.2⟩
def Ep.d:Fd := { nt:=99,nv:=2,nm:=[0,1,2,3,5,6],res:=[],cs:=λ k=>[(58,Jp.e k),(73,G4.e k),(75,A9.e k),(127,Bx.e k),(131,E3.e k),(163,Fp.e k)],mv:=[1,98],rf:=true }
def Ep.s (k:Nat):CK 103 (Ep.e k):=mS Ep.d k [] Tryz.func103 ⟨Jp.s k,G4.s k,A9.s k,Bx.s k,E3.s k,Fp.s k,trivial⟩ trivial
def Ew.e (k:Nat):Ent:=⟨2,[(.ptr t21 t21),(.val false (.i .i64))],[(.agg,t46)],λ x=>Ew k x.1 x.2⟩
def Fq.p:LF:=⟨⟨[(0,(.bp 0 0 0)),(4,(.bp 4 0 0)),(5,(.bp 5 0 0)),(1999,(.hd 3)),(5999,(.hd 9)),(6999,(.hd 9))],[(6,(.i .i64)),(1000,t21),(5000,t45),(6000,t46)]⟩,[((.exit 0),⟨[(4,(.bp 4 0 0)),(5,(.bp 5 0 0)),(5999,(.hd 9)),(6999,(.hd 9)),(1999,(.hd 3))],[(5000,t45),(6000,t46),(1000,t21)]⟩)],λ k x=>Fq k x.1 x.2.1 x.2.2.1 x.2.2.2⟩
def Ew.d:Fd := { nt:=21,nv:=2,nm:=[0,1,2,3,5,6],res:=[],cs:=λ k=>[(75,A9.e k),(101,Jk.e k),(102,Ie.e k),(103,Ep.e k)],ls:=[(3,Fq.p)],mv:=[20],rf:=true }
def Ew.a (k:Nat):AC (Ew.d.cs k):=⟨A9.s k,Jk.s k,Ie.s k,Ep.s k,trivial⟩
def Fq.s:LL Tryz.f45 Ew.d 3 Fq.p:=mL [] Ew.a trivial
def Ew.s (k:Nat):CK 45 (Ew.e k):=mS Ew.d k [3] Tryz.func45 (Ew.a k) ⟨Fq.s,trivial⟩
def Jq.e (k:Nat):Ent:=⟨2,[(.val false t4),(.val false (.i .i64))],[(.one,(.i .i64))],λ x=>Jq x.1 x.2⟩
def Jq.d:Fd := { nt:=15,nv:=2,nm:=[0,1,2,3,5],res:=[4],rf:=true }
def Jq.s (k:Nat):CK 46 (Jq.e k):=mS Jq.d k [] Tryz.func46 trivial trivial
def Fz.e (k:Nat):Ent:=⟨1,[(.val false t4)],[(.agg,t46)],λ x=>Fz k x⟩
def Fz.d:Fd := { nt:=11,nv:=1,nm:=[0,1,3],res:=[],cs:=λ k=>[(44,Jw.e k),(45,Ew.e k),(46,Jq.e k)],rf:=true }
def Fz.s (k:Nat):CK 10 (Fz.e k):=mS Fz.d k [] Tryz.func10 ⟨Jw.s k,Ew.s k,Jq.s k,trivial⟩ trivial
def Db.e (k:Nat):Ent:=⟨2,[(.val true t44),(.val false .s)],[(.agg,t25),(.one,.b)],λ x=>Db k x.1 x.2⟩
def C7.p:LF:=⟨⟨[(4,(.bp 4 0 0)),(6,(.bp 6 0 0)),(5999,(.hd 5)),(7999,(.hd 5))],[(1,.s),(7,.b),(13,t41),(14,(.i .i64)),(15,(.i .i64)),(5000,t26),(7000,t25)]⟩,[((.exit 0),⟨[(4,(.bp 4 0 0)),(6,(.bp 6 0 0)),(5999,(.hd 5)),(7999,(.hd 5))],[(7,.b),(5000,t26),(7000,t25)]⟩)],λ k x=>C7 k x.1 x.2.1 x.2.2.1 x.2.2.2.1 x.2.2.2.2.1 x.2.2.2.2.2.1 x.2.2.2.2.2.2⟩
def Db.d:Fd := { nt:=41,nv:=2,nm:=[0,1,2,3,6,7,8,9,10,11],res:=[5],cs:=λ k=>[(15,Hm.e k),(23,Iq.e k)],ls:=[(4,C7.p)],rf:=true }
def Db.a (k:Nat):AC (Db.d.cs k):=⟨Hm.s k,Iq.s k,trivial⟩
def C7.s:LL Tryz.f13 Db.d 4 C7.p:=mL [] Db.a trivial
def Db.s (k:Nat):CK 13 (Db.e k):=mS Db.d k [4] Tryz.func13 (Db.a k) ⟨C7.s,trivial⟩
def Gi.e (k:Nat):Ent:=⟨2,[(.val false t0),(.val false .s)],[(.one,.b)],λ x=>Gi k x.1 x.2⟩
def Ct.p:LF:=⟨⟨[],[(0,t0),(1,.s),(5,(.i .i64))]⟩,[(.ret,⟨[],[(4,.b)]⟩),((.exit 0),⟨[],[]⟩)],λ k x=>Ct k x.1 x.2.1 x.2.2⟩
def Gi.d:Fd := { nt:=18,nv:=2,nm:=[0,1,2,3,5],res:=[4],ls:=[(2,Ct.p)],rf:=true }
def Ct.s:LL Tryz.f14 Gi.d 2 Ct.p:=mL [] (λ _=>trivial) trivial
def Gi.s (k:Nat):CK 14 (Gi.e k):=mS Gi.d k [2] Tryz.func14 trivial ⟨Ct.s,trivial⟩
def C3.e (k:Nat):Ent:=⟨1,[(.val false t4)],[(.one,.b)],λ x=>C3 k x⟩
def Bg.p:LF:=⟨⟨[(3,(.bp 3 0 0)),(6,(.bp 6 0 0)),(4999,(.hd 9)),(7999,(.hd 7))],[(4,t6),(5,(.i .i64)),(7,.b),(8,t31),(9,(.i .i64)),(4000,t44),(7000,t33)]⟩,[((.exit 2),⟨[(3,(.bp 3 0 0)),(6,(.bp 6 0 0)),(4999,(.hd 9)),(7999,(.hd 7))],[(4,t6),(5,(.i .i64)),(7,.b),(4000,t44),(7000,t33)]⟩)],λ k x=>Bg k x.1 x.2.1 x.2.2.1 x.2.2.2.1 x.2.2.2.2.1 x.2.2.2.2.2.1 x.2.2.2.2.2.2⟩
def Bt.p:LF:=⟨⟨[(3,(.bp 3 0 0)),(4999,(.hd 9))],[(4,t6),(5,(.i .i64)),(4000,t44)]⟩,[(.ret,⟨[],[(2,.b)]⟩),((.exit 0),⟨[],[]⟩)],λ k x=>Bt k x.1 x.2.1 x.2.2⟩
def C3.d:Fd := { nt:=107,nv:=1,nm:=[0,1,3,4,5,6,7,8,9,10,11],res:=[2],cs:=λ k=>[(8,Na.e k),(9,G6.e k),(10,Fz.e k),(11,Dz.e k),(12,B9.e k),(13,Db.e k),(14,Gi.e k),(15,Hm.e k)],ls:=[(15,Bg.p),(8,Bt.p)],sh:=true,rf:=true }
def C3.a (k:Nat):AC (C3.d.cs k):=⟨Na.s k,G6.s k,Fz.s k,Dz.s k,B9.s k,Db.s k,Gi.s k,Hm.s k,trivial⟩
def Bg.s:LL Tryz.f3 C3.d 15 Bg.p:=mL [] C3.a trivial
def Bt.s:LL Tryz.f3 C3.d 8 Bt.p:=mL [15] C3.a ⟨Bg.s,trivial⟩
def C3.s (k:Nat):CK 3 (C3.e k):=mS C3.d k [8] Tryz.func3 (C3.a k) ⟨Bt.s,trivial⟩
end

def Tot {α:Type} (f:Nat→Option α) (Q:α→Prop):Prop:=∃ r K,(∀ k,K≤k→f k=some r)∧Q r
section
variable {α β:Type} {f g:Nat→Option α} {Q Q':α→Prop}
def Tot.mono (h:Tot f Q) (hq:∀ a,Q a→Q' a):Tot f Q':=by
 obtain⟨r,K,h1,h2⟩:=h
 exact⟨r,K,h1,hq r h2⟩
def H1b {a:α} (h:Q a):Tot (λ _=>some a) Q:=⟨a,0,λ _ _=>rfl,h⟩
def Heb {o:Option α} {a:α} (e:o=some a) (h:Q a):Tot (λ _=>o) Q:=⟨a,0,λ _ _=>e,h⟩
def H2b {h:Nat→α→Option β} {R:β→Prop} (hf:Tot f Q) (hh:∀ a,Q a→Tot (λ k=>h k a) R):Tot (λ k=>(f k).bind (h k)) R:=by
 obtain⟨a,K,h1,h2⟩:=hf
 obtain⟨b,L,h3,h4⟩:=hh a h2
 exact⟨b,max K L,λ k hk=>by show (f k).bind (h k)=_;rw[h1 k (by omega)];exact h3 k (by omega),h4⟩
def H4b {c:Bool} (hc:c=true) (h:Tot f Q):Tot (λ k=>cond c (f k) (g k)) Q:=by subst hc;exact h
def H3b {c:Bool} (hc:c=false) (h:Tot g Q):Tot (λ k=>cond c (f k) (g k)) Q:=by subst hc;exact h
def H7b {c:Bool} (h1:c=true→Tot f Q) (h2:c=false→Tot g Q):Tot (λ k=>cond c (f k) (g k)) Q:=by
 cases hc:c with
 |true=>exact h1 hc
 |false=>exact h2 hc
def H5b {p:Prop} [Decidable p] (hp:p) (h:Tot f Q):Tot (λ k=>cond (decide p) (f k) (g k)) Q:=H4b (decide_eq_true hp) h
def H6b {p:Prop} [Decidable p] (hp:¬ p) (h:Tot g Q):Tot (λ k=>cond (decide p) (f k) (g k)) Q:=H3b (decide_eq_false hp) h
def H8b {p:Prop} [Decidable p] (h1:p→Tot f Q) (h2:¬ p→Tot g Q):Tot (λ k=>cond (decide p) (f k) (g k)) Q:=
 H7b (λ h=>h1 (of_decide_eq_true h)) (λ h=>h2 (of_decide_eq_false h))
def H9b {m n:Nat} (hp:m≤n) (h:Tot f Q):Tot (λ k=>cond (Nat.ble m n) (f k) (g k)) Q:=H4b (Zo hp) h
def Hdb {v:α} {h:Nat→α→Option β} {R:β→Prop} (hf:Tot f (λ r=>r=v)) (hh:Tot (λ k=>h k v) R):Tot (λ k=>(f k).bind (h k)) R:=
 H2b hf (by rintro r rfl;exact hh)
def Tot.succ (h:Tot (λ k=>f (k+1)) Q):Tot f Q:=by
 obtain⟨r,K,h1,h2⟩:=h
 exact⟨r,K+1,λ k hk=>by obtain⟨m,rfl⟩:∃ m,k=m+1:=⟨k-1,by omega⟩;exact h1 m (by omega),h2⟩
def Tot.and (h:Tot f Q) (h':Tot f Q'):Tot f (λ a=>Q a∧Q' a):=by
 obtain⟨r,K,h1,h2⟩:=h
 obtain⟨r',K',h1',h2'⟩:=h'
 have e:r=r':=by
  have a1:=h1 (max K K') (by omega)
  have a2:=h1' (max K K') (by omega)
  rw[a1]at a2
  exact Ikb a2
 subst e
 exact⟨r,K,h1,h2,h2'⟩
def Tot.law {f:Nat→Option Bool} (h:Tot f (λ b=>b=true)):∃ k,f k=some true:=by
 obtain⟨r,K,h1,h2⟩:=h
 subst h2
 exact⟨K,h1 K (Vw _)⟩
end
def w64 {n:Int} (h1 : -9223372036854775808≤n) (h2:n≤9223372036854775807):wrap .i64 n=n:=Go.IntWalk.i64_in n ⟨h1,h2⟩
def Cja (n:Int) : -9223372036854775808≤wrap .i64 n∧wrap .i64 n≤9223372036854775807:=by
 rw[IntKind.wrap_i64]
 omega
def Gga (n:Int):0≤wrap .u8 n∧wrap .u8 n≤255:=by
 simp only[wrap,IntKind.signed,IntKind.bits]
 simp
 omega
def Lxa (x m:Int) (h0:0≤m) (h1:m<9223372036854775808):0≤wrap .i64 ((ofInt (IntKind.bits .i64) x &&& ofInt (IntKind.bits .i64) m).toNat)∧wrap .i64 ((ofInt (IntKind.bits .i64) x &&& ofInt (IntKind.bits .i64) m).toNat)≤m:=by
 have hm:(ofInt (IntKind.bits .i64) m).toNat=m.toNat:=by
  rw[J1b]
  show (m % ((2 ^ 64:Nat):Int)).toNat=m.toNat
  rw[Int.emod_eq_of_lt h0 (by omega)]
 have hle:(ofInt (IntKind.bits .i64) x &&& ofInt (IntKind.bits .i64) m).toNat≤m.toNat:=by
  rw[Ipb,hm]
  exact Nat.and_le_right
 rw[w64 (by omega) (by omega)]
 omega
def S7a {x n:Int} (hx:0≤x) (hn:0<n):0≤Int.tmod x n∧Int.tmod x n<n:=by
 rw[Hlb hx]
 exact⟨Int.emod_nonneg _ (by omega),Int.emod_lt_of_pos _ hn⟩

end Go.Proofs.YtiiekghlhfbmmaaGreat.Vf
