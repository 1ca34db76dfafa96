import Derived.Test.YtmhhjceoinoekaaGreatMab
import Derived.Test.YtmhhjceoinoekaaGreatMaj
import Derived.Test.YtmhhjceoinoekaaGreatProg
import Derived.KernelRfl
set_option linter.all false
namespace Go.Proofs.YtmhhjceoinoekaaGreat.Vf
open Go
open List (length getD)
open Int (toNat)
open Go.IntKind (wrap)
open BitVec (ofInt)

section
open Go.Proofs
@[reducible] def t0:Ty := .sl 9 .s
@[reducible] def t1:Ty := .sl 4 .b
@[reducible] def t2:Ty := .ow 9 .s
@[reducible] def t3:Ty := .ow 4 .b
@[reducible] def t4:Ty := .sl 5 (.i .u8)
@[reducible] def t5:Ty := .ow 5 (.i .u8)
@[reducible] def t6:Ty := .sl 3 (.i .i64)
@[reducible] def t7:Ty := .ow 3 (.i .i64)
@[reducible] def t8:Ty := .pr .s (.i .u64)
@[reducible] def t9:Ty := .pr (.i .i64) (.i .i64)
@[reducible] def t10:Ty := .sl 127 t6
@[reducible] def t11:Ty := .pr .s t4
@[reducible] def t12:Ty := .pr .s t5
@[reducible] def t13:Ty := .sl 93 t11
@[reducible] def t14:Ty := .ow 93 t11
@[reducible] def t15:Ty := .ow 93 t12
@[reducible] def t16:Ty := .pr (.i .i64) t9
@[reducible] def t17:Ty := .pr (.i .i64) t10
@[reducible] def t18:Ty := .pr (.i .i64) (.ow 127 t7)
@[reducible] def t19:Ty := .pr (.i .i64) (.ow 127 t6)
@[reducible] def t20:Ty := .pr t4 (.pr (.i .i64) .b)
@[reducible] def t21:Ty := .pr t4 t9
@[reducible] def t22:Ty := .sl 88 t16
@[reducible] def t23:Ty := .ow 88 t16
@[reducible] def t24:Ty := .pr (.i .i64) (.pr (.i .i64) (.pr .b (.i .u8)))
@[reducible] def t25:Ty := .pr t16 (.pr .b t4)
@[reducible] def t26:Ty := .pr t16 (.pr .b t5)
@[reducible] def t27:Ty := .pr t13 t13
@[reducible] def t28:Ty := .pr .s (.pr t16 (.pr .b (.i .i64)))
@[reducible] def t29:Ty := .pr t14 t14
@[reducible] def t30:Ty := .pr t15 t15
@[reducible] def t31:Ty := .sl 96 t28
@[reducible] def t32:Ty := .ow 96 t28
@[reducible] def t33:Ty := .pr .s (.pr t25 .b)
@[reducible] def t34:Ty := .pr (.i .i64) (.pr (.i .i64) (.pr .s (.pr t4 (.pr (.i .i64) t6))))
@[reducible] def t35:Ty := .sl 71 t33
@[reducible] def t36:Ty := .ow 71 t33
@[reducible] def t37:Ty := .pr t32 t32
@[reducible] def t38:Ty := .pr (.i .i64) (.pr t27 (.pr t31 t31))
@[reducible] def t39:Ty := .pr (.i .i64) (.pr t29 t37)
@[reducible] def t40:Ty := .pr (.i .i64) (.pr t27 t37)
@[reducible] def t41:Ty := .sl 54 t38
@[reducible] def t42:Ty := .ow 54 t38
@[reducible] def t43:Ty := .pr t42 (.pr t16 (.pr t36 t2))
@[reducible] def t44:Ty := .pr t22 (.pr t17 (.pr t41 (.pr t16 (.pr t35 t0))))
@[reducible] def t45:Ty := .pr t23 (.pr t17 (.pr t42 (.pr t16 (.pr t36 t0))))
@[reducible] def t46:Ty := .pr t23 (.pr t17 t43)
@[reducible] def t47:Ty := .pr t23 (.pr t19 t43)
def tiL:List (Nat×TI):=[(2,⟨(.i .i64),false,8,[]⟩),
 (3,⟨(.i .i64),false,8,[]⟩),
 (4,⟨.b,false,1,[]⟩),
 (5,⟨(.i .u8),false,1,[]⟩),
 (6,⟨(.i .u8),false,1,[]⟩),
 (7,⟨t24,true,24,[(0,1,false),(1,1,false),(2,1,false),(3,1,false)]⟩),
 (8,⟨t24,true,24,[(0,1,false),(1,1,false),(2,1,false),(3,1,false)]⟩),
 (9,⟨.s,false,16,[]⟩),
 (10,⟨.s,false,16,[]⟩),
 (11,⟨.s,false,16,[]⟩),
 (12,⟨(.i .u64),false,8,[]⟩),
 (13,⟨t8,true,24,[(0,1,false),(1,1,false)]⟩),
 (14,⟨t8,true,24,[(0,1,false),(1,1,false)]⟩),
 (21,⟨(.i .i32),false,4,[]⟩),
 (22,⟨t4,false,24,[]⟩),
 (24,⟨t22,false,24,[]⟩),
 (25,⟨t10,false,24,[]⟩),
 (26,⟨t17,true,32,[(0,1,false),(1,1,false)]⟩),
 (27,⟨t17,true,32,[(0,1,false),(1,1,false)]⟩),
 (28,⟨t41,false,24,[]⟩),
 (29,⟨t16,true,24,[(0,1,false),(1,1,false),(2,1,false)]⟩),
 (30,⟨t16,true,24,[(0,1,false),(1,1,false),(2,1,false)]⟩),
 (31,⟨t35,false,24,[]⟩),
 (32,⟨t0,false,24,[]⟩),
 (33,⟨t44,true,152,[(0,1,false),(1,2,true),(3,1,false),(4,3,true),(7,1,false),(8,1,false)]⟩),
 (34,⟨t44,true,152,[(0,1,false),(1,2,true),(3,1,false),(4,3,true),(7,1,false),(8,1,false)]⟩),
 (35,⟨t6,false,24,[]⟩),
 (36,⟨t34,true,88,[(0,1,false),(1,1,false),(2,1,false),(3,1,false),(4,1,false),(5,1,false)]⟩),
 (37,⟨t34,true,88,[(0,1,false),(1,1,false),(2,1,false),(3,1,false),(4,1,false),(5,1,false)]⟩),
 (44,⟨(.sl 37 t34),false,24,[]⟩),
 (49,⟨t13,false,24,[]⟩),
 (50,⟨t27,true,48,[(0,1,false),(1,1,false)]⟩),
 (51,⟨t27,true,48,[(0,1,false),(1,1,false)]⟩),
 (52,⟨t31,false,24,[]⟩),
 (53,⟨t38,true,104,[(0,1,false),(1,2,true),(3,1,false),(4,1,false)]⟩),
 (54,⟨t38,true,104,[(0,1,false),(1,2,true),(3,1,false),(4,1,false)]⟩),
 (61,⟨t25,true,56,[(0,3,true),(3,1,false),(4,1,false)]⟩),
 (62,⟨t25,true,56,[(0,3,true),(3,1,false),(4,1,false)]⟩),
 (70,⟨t33,true,80,[(0,1,false),(1,5,true),(6,1,false)]⟩),
 (71,⟨t33,true,80,[(0,1,false),(1,5,true),(6,1,false)]⟩),
 (87,⟨t16,true,24,[(0,1,false),(1,1,false),(2,1,false)]⟩),
 (88,⟨t16,true,24,[(0,1,false),(1,1,false),(2,1,false)]⟩),
 (92,⟨t11,true,40,[(0,1,false),(1,1,false)]⟩),
 (93,⟨t11,true,40,[(0,1,false),(1,1,false)]⟩),
 (95,⟨t28,true,56,[(0,1,false),(1,3,true),(4,1,false),(5,1,false)]⟩),
 (96,⟨t28,true,56,[(0,1,false),(1,3,true),(4,1,false),(5,1,false)]⟩),
 (115,⟨t21,true,40,[(0,1,false),(1,1,false),(2,1,false)]⟩),
 (116,⟨t21,true,40,[(0,1,false),(1,1,false),(2,1,false)]⟩),
 (126,⟨t6,true,24,[(0,1,false)]⟩),
 (127,⟨t6,true,24,[(0,1,false)]⟩),
 (168,⟨(.i .u64),false,8,[]⟩),
 (173,⟨t1,false,24,[]⟩),
 (190,⟨t20,true,40,[(0,1,false),(1,1,false),(2,1,false)]⟩),
 (191,⟨t20,true,40,[(0,1,false),(1,1,false),(2,1,false)]⟩),
 (240,⟨(.i .u32),false,4,[]⟩),
 (246,⟨(.i .u8),false,1,[]⟩),
 (247,⟨(.i .u8),false,1,[]⟩),
 (250,⟨(.i .i32),false,4,[]⟩),
 (251,⟨(.i .i32),false,4,[]⟩)]
def ti:TypeId→Option TI:=lk tiL
def E6b:List Nat:=[29,30,87,88,95,96]
def eqs:TypeId→Bool:=λ T=>E6b.contains T
def sK:Aya Tryz.prog ti eqs∧∀ T,Uh Tryz.prog ti T=true:=H2b (P:=Tryz.prog) (ti:=ti) (eqs:=eqs) (keys:=tiL.map Prod.fst) (E6b:=E6b) Aab (by kernel_rfl) (by kernel_rfl) rfl (by kernel_rfl)
def sO:Aya Tryz.prog ti eqs:=sK.1
def Hvb:∀ T t,ti T=some t→TOk Tryz.prog T t:=sO.tok
def Hwb:∀ T,Uh Tryz.prog ti T=true:=sK.2
abbrev CK:=Q4 Tryz.prog
abbrev LL:=LK Tryz.prog
abbrev AC:=Cjb Tryz.prog
def mS {f:FuncId} {fn:Func} (D:Fd) (k:Nat) {en:Ent} (ids:List Nat) (hf:Tryz.prog.funcs[f]? = some fn) (hc:AC (D.cs k)) (hi:Ckb Tryz.prog fn D ids) (h:(H1b fn D en,Mn (bo fn),ids.map λ l=>first (Ls l (bo fn)))=(true,ids.map λ l=>Ls l (bo fn),ids):=by kernel_rfl) (hr:∀ x,R0a (D.n ti eqs k) (bo fn) fn.results.toList en x=en.run x:=by intro x;kernel_rfl):CK f en:=mkS sO ids hf hc hi (congrArg Prod.fst h) (congrArg Prod.snd h) hr
def mL {fn:Func} {D:Fd} {l:Nat} {p:LF} (ids:List Nat) (hc:∀ k,AC (D.cs k)) (hi:Ckb Tryz.prog fn D ids) (h:(Nat.beq D.nt fn.ntmps,Mn (Ls l (bo fn)),ids.map λ l=>first (Ls l (bo fn)))=(true,ids.map λ l=>Ls l (bo fn),ids):=by kernel_rfl) (h0:∀ x,p.f 0 x=none:=by intro _;rfl) (hs:Hnb ti eqs fn D l p:=by intro k x;kernel_rfl):LL fn D l p:=mkL sO ids (congrArg Prod.fst h) hc hi (congrArg Prod.snd h) h0 hs
def Nz.e (k:Nat):Ent:=⟨1,[(.val false t4)],[(.one,.b)],λ x=>Nz x⟩
def Nz.d:Fd := { nt:=6,nv:=1,nm:=[0,1],res:=[2] }
def Nz.s (k:Nat):CK 9 (Nz.e k):=mS Nz.d k [] Tryz.func9 trivial trivial
def Ed.e (k:Nat):Ent:=⟨3,[(.val false (.i .i64)),(.val false (.i .i64)),(.val false (.i .i64))],[(.one,.b)],λ x=>Ed x.1 x.2.1 x.2.2⟩
def Ed.d:Fd := { nt:=15,nv:=3,nm:=[0,1,2,3,4,5],res:=[6] }
def Ed.s (k:Nat):CK 74 (Ed.e k):=mS Ed.d k [] Tryz.func74 trivial trivial
def Gj.e (k:Nat):Ent:=⟨1,[(.val false t22)],[(.one,.b)],λ x=>Gj k x⟩
def G5.p:LF:=⟨⟨[],[(0,t22),(5,t22),(6,(.i .i64)),(7,(.i .i64))]⟩,[(.ret,⟨[],[(2,.b)]⟩),((.exit 0),⟨[],[(0,t22)]⟩)],λ k x=>G5 k x.1 x.2.1 x.2.2.1 x.2.2.2⟩
def Gj.d:Fd := { nt:=47,nv:=1,nm:=[0,1,3,4],res:=[2],cs:=λ k=>[(74,Ed.e k)],ls:=[(2,G5.p)],rf:=true }
def Gj.a (k:Nat):AC (Gj.d.cs k):=⟨Ed.s k,trivial⟩
def G5.s:LL Tryz.f100 Gj.d 2 G5.p:=mL [] Gj.a trivial
def Gj.s (k:Nat):CK 100 (Gj.e k):=mS Gj.d k [2] Tryz.func100 (Gj.a k) ⟨G5.s,trivial⟩
def D5.e (k:Nat):Ent:=⟨2,[(.val false t6),(.val false (.i .i64))],[(.one,.b)],λ x=>D5 k x.1 x.2⟩
def H0.p:LF:=⟨⟨[],[(1,(.i .i64)),(7,t6),(8,(.i .i64)),(9,(.i .i64))]⟩,[(.ret,⟨[],[(4,.b)]⟩),((.exit 0),⟨[],[]⟩)],λ k x=>H0 k x.1 x.2.1 x.2.2.1 x.2.2.2⟩
def D5.d:Fd := { nt:=17,nv:=2,nm:=[0,1,2,3,5,6],res:=[4],ls:=[(2,H0.p)],rf:=true }
def H0.s:LL Tryz.f145 D5.d 2 H0.p:=mL [] (λ _=>trivial) trivial
def D5.s (k:Nat):CK 145 (D5.e k):=mS D5.d k [2] Tryz.func145 trivial ⟨H0.s,trivial⟩
def It.e (k:Nat):Ent:=⟨1,[(.val false t6)],[(.one,.b)],λ x=>It k x⟩
def Ia.p:LF:=⟨⟨[],[(0,t6),(5,t6),(6,(.i .i64)),(7,(.i .i64))]⟩,[(.ret,⟨[],[(2,.b)]⟩),((.exit 0),⟨[],[]⟩)],λ k x=>Ia k x.1 x.2.1 x.2.2.1 x.2.2.2⟩
def It.d:Fd := { nt:=18,nv:=1,nm:=[0,1,3,4],res:=[2],cs:=λ k=>[(145,D5.e k)],ls:=[(2,Ia.p)],rf:=true }
def It.a (k:Nat):AC (It.d.cs k):=⟨D5.s k,trivial⟩
def Ia.s:LL Tryz.f101 It.d 2 Ia.p:=mL [] It.a trivial
def It.s (k:Nat):CK 101 (It.e k):=mS It.d k [2] Tryz.func101 (It.a k) ⟨Ia.s,trivial⟩
def Ks.e (k:Nat):Ent:=⟨2,[(.val false t22),(.val false (.i .i64))],[(.agg,t16),(.one,.b)],λ x=>Ks k x.1 x.2⟩
def Ib.p:LF:=⟨⟨[(4,(.bp 4 0 0)),(5999,(.hd 3))],[(1,(.i .i64)),(8,t22),(9,(.i .i64)),(10,(.i .i64)),(5000,t16)]⟩,[(.ret,⟨[(4,(.bp 4 0 0)),(5999,(.hd 3))],[(5,.b),(5000,t16)]⟩),((.exit 0),⟨[(4,(.bp 4 0 0)),(5999,(.hd 3))],[(5000,t16)]⟩)],λ k x=>Ib k x.1 x.2.1 x.2.2.1 x.2.2.2.1 x.2.2.2.2⟩
def Ks.d:Fd := { nt:=21,nv:=2,nm:=[0,1,2,3,6,7],res:=[5],ls:=[(2,Ib.p)],rf:=true }
def Ib.s:LL Tryz.f102 Ks.d 2 Ib.p:=mL [] (λ _=>trivial) trivial
def Ks.s (k:Nat):CK 102 (Ks.e k):=mS Ks.d k [2] Tryz.func102 trivial ⟨Ib.s,trivial⟩
def Fa.e (k:Nat):Ent:=⟨2,[(.val true t17),(.val false t22)],[(.one,.b)],λ x=>Fa k x.1 x.2⟩
def H1.p:LF:=⟨⟨[(2,(.bp 2 0 0)),(3999,(.hd 2))],[(1,t22),(28,t10),(29,(.i .i64)),(30,(.i .i64)),(47,t6),(48,(.i .i64)),(49,(.i .i64)),(3000,t17)]⟩,[(.ret,⟨[],[(4,.b)]⟩),((.exit 2),⟨[(2,(.bp 2 0 0)),(3999,(.hd 2))],[(1,t22),(28,t10),(29,(.i .i64)),(30,(.i .i64)),(3000,t17)]⟩)],λ k x=>H1 k x.1 x.2.1 x.2.2.1 x.2.2.2.1 x.2.2.2.2.1 x.2.2.2.2.2.1 x.2.2.2.2.2.2.1 x.2.2.2.2.2.2.2⟩
def H2.p:LF:=⟨⟨[(2,(.bp 2 0 0)),(3999,(.hd 2))],[(1,t22),(28,t10),(29,(.i .i64)),(30,(.i .i64)),(3000,t17)]⟩,[(.ret,⟨[],[(4,.b)]⟩),((.exit 0),⟨[],[]⟩)],λ k x=>H2 k x.1 x.2.1 x.2.2.1 x.2.2.2.1 x.2.2.2.2⟩
def Fa.d:Fd := { nt:=63,nv:=2,nm:=[0,1,2,3,5,6,7,8,9,10],res:=[4],cs:=λ k=>[(74,Ed.e k),(100,Gj.e k),(101,It.e k),(102,Ks.e k)],ls:=[(9,H1.p),(4,H2.p)],rf:=true }
def Fa.a (k:Nat):AC (Fa.d.cs k):=⟨Ed.s k,Gj.s k,It.s k,Ks.s k,trivial⟩
def H1.s:LL Tryz.f44 Fa.d 9 H1.p:=mL [] Fa.a trivial
def H2.s:LL Tryz.f44 Fa.d 4 H2.p:=mL [9] Fa.a ⟨H1.s,trivial⟩
def Fa.s (k:Nat):CK 44 (Fa.e k):=mS Fa.d k [4] Tryz.func44 (Fa.a k) ⟨H2.s,trivial⟩
def E6.e (k:Nat):Ent:=⟨1,[(.val true t16)],[(.one,.b)],λ x=>E6 x⟩
def E6.d:Fd := { nt:=16,nv:=1,nm:=[0,1],res:=[2],cs:=λ k=>[(74,Ed.e k)] }
def E6.s (k:Nat):CK 45 (E6.e k):=mS E6.d k [] Tryz.func45 ⟨Ed.s k,trivial⟩ trivial
def Aq.e (k:Nat):Ent:=⟨2,[(.val true t16),(.val true t16)],[(.one,.b)],λ x=>Aq x.1 x.2⟩
def Aq.d:Fd := { nt:=32,nv:=2,nm:=[0,1,2,3],res:=[4] }
def Aq.s (k:Nat):CK 14 (Aq.e k):=mS Aq.d k [] Tryz.func14 trivial trivial
def An.e (k:Nat):Ent:=⟨1,[(.val false .s)],[(.one,.b)],λ x=>An k x⟩
def Am.p:LF:=⟨⟨[],[(0,.s),(3,(.i .i64))]⟩,[(.ret,⟨[],[(2,.b)]⟩),((.exit 0),⟨[],[(0,.s)]⟩)],λ k x=>Am k x.1 x.2⟩
def An.d:Fd := { nt:=45,nv:=1,nm:=[0,1,3,4],res:=[2],cs:=λ k=>[(74,Ed.e k)],ls:=[(2,Am.p)] }
def An.a (k:Nat):AC (An.d.cs k):=⟨Ed.s k,trivial⟩
def Am.s:LL Tryz.f48 An.d 2 Am.p:=mL [] An.a trivial
def An.s (k:Nat):CK 48 (An.e k):=mS An.d k [2] Tryz.func48 (An.a k) ⟨Am.s,trivial⟩
def Fn.e (k:Nat):Ent:=⟨1,[(.val true t25)],[(.one,.b)],λ x=>Fn x⟩
def Fn.d:Fd := { nt:=23,nv:=1,nm:=[0,1],res:=[2],cs:=λ k=>[(45,E6.e k)] }
def Fn.s (k:Nat):CK 103 (Fn.e k):=mS Fn.d k [] Tryz.func103 ⟨E6.s k,trivial⟩ trivial
def Dd.e (k:Nat):Ent:=⟨1,[(.val true t44)],[(.one,.b)],λ x=>Dd k x⟩
def Ee.p:LF:=⟨⟨[(1,(.bp 1 0 0)),(2999,(.hd 9))],[(6,t35),(7,(.i .i64)),(8,(.i .i64)),(2000,t44)]⟩,[(.ret,⟨[],[(2,.b)]⟩),((.exit 0),⟨[(1,(.bp 1 0 0)),(2999,(.hd 9))],[(2000,t44)]⟩)],λ k x=>Ee k x.1 x.2.1 x.2.2.1 x.2.2.2⟩
def Dd.d:Fd := { nt:=35,nv:=1,nm:=[0,1,3,4],res:=[2],cs:=λ k=>[(14,Aq.e k),(48,An.e k),(103,Fn.e k)],ls:=[(2,Ee.p)],rf:=true }
def Dd.a (k:Nat):AC (Dd.d.cs k):=⟨Aq.s k,An.s k,Fn.s k,trivial⟩
def Ee.s:LL Tryz.f46 Dd.d 2 Ee.p:=mL [] Dd.a trivial
def Dd.s (k:Nat):CK 46 (Dd.e k):=mS Dd.d k [2] Tryz.func46 (Dd.a k) ⟨Ee.s,trivial⟩
def Jp.e (k:Nat):Ent:=⟨1,[(.val true t28)],[(.one,.b)],λ x=>Jp k x⟩
def Jp.d:Fd := { nt:=26,nv:=1,nm:=[0,1],res:=[2],cs:=λ k=>[(45,E6.e k),(48,An.e k),(74,Ed.e k)] }
def Jp.s (k:Nat):CK 104 (Jp.e k):=mS Jp.d k [] Tryz.func104 ⟨E6.s k,An.s k,Ed.s k,trivial⟩ trivial
def E7.e (k:Nat):Ent:=⟨1,[(.val false t13)],[(.one,.b)],λ x=>E7 k x⟩
def Ef.p:LF:=⟨⟨[],[(0,t13),(5,t13),(6,(.i .i64)),(7,(.i .i64))]⟩,[(.ret,⟨[],[(2,.b)]⟩),((.exit 0),⟨[],[(0,t13)]⟩)],λ k x=>Ef k x.1 x.2.1 x.2.2.1 x.2.2.2⟩
def E7.d:Fd := { nt:=41,nv:=1,nm:=[0,1,3,4],res:=[2],cs:=λ k=>[(48,An.e k)],ls:=[(2,Ef.p)] }
def E7.a (k:Nat):AC (E7.d.cs k):=⟨An.s k,trivial⟩
def Ef.s:LL Tryz.f168 E7.d 2 Ef.p:=mL [] E7.a trivial
def E7.s (k:Nat):CK 168 (E7.e k):=mS E7.d k [2] Tryz.func168 (E7.a k) ⟨Ef.s,trivial⟩
def Bn.e (k:Nat):Ent:=⟨1,[(.val true t27)],[(.one,.b)],λ x=>Bn k x⟩
def Bn.d:Fd := { nt:=11,nv:=1,nm:=[0,1],res:=[2],cs:=λ k=>[(168,E7.e k)] }
def Bn.s (k:Nat):CK 105 (Bn.e k):=mS Bn.d k [] Tryz.func105 ⟨E7.s k,trivial⟩ trivial
def Ea.e (k:Nat):Ent:=⟨1,[(.val false t31)],[(.one,.b)],λ x=>Ea k x⟩
def G6.p:LF:=⟨⟨[],[(0,t31),(5,t31),(6,(.i .i64)),(7,(.i .i64))]⟩,[(.ret,⟨[],[(2,.b)]⟩),((.exit 0),⟨[],[(0,t31)]⟩)],λ k x=>G6 k x.1 x.2.1 x.2.2.1 x.2.2.2⟩
def Ea.d:Fd := { nt:=34,nv:=1,nm:=[0,1,3,4],res:=[2],cs:=λ k=>[(104,Jp.e k)],ls:=[(2,G6.p)] }
def Ea.a (k:Nat):AC (Ea.d.cs k):=⟨Jp.s k,trivial⟩
def G6.s:LL Tryz.f106 Ea.d 2 G6.p:=mL [] Ea.a trivial
def Ea.s (k:Nat):CK 106 (Ea.e k):=mS Ea.d k [2] Tryz.func106 (Ea.a k) ⟨G6.s,trivial⟩
def Eb.e (k:Nat):Ent:=⟨1,[(.val true t38)],[(.one,.b)],λ x=>Eb k x⟩
def H3.p:LF:=⟨⟨[(1,(.bp 1 0 0)),(2999,(.hd 5))],[(6,t31),(7,(.i .i64)),(8,(.i .i64)),(2000,(.i .i64)),(2001,t13),(2002,t13),(2003,t31),(2004,t31)]⟩,[(.ret,⟨[],[(2,.b)]⟩),((.exit 0),⟨[(1,(.bp 1 0 0)),(2999,(.hd 5))],[(2000,(.i .i64)),(2001,t13),(2002,t13),(2003,t31),(2004,t31)]⟩)],λ k x=>H3 k x.1 x.2.1 x.2.2.1 x.2.2.2.1 x.2.2.2.2.1 x.2.2.2.2.2.1 x.2.2.2.2.2.2.1 x.2.2.2.2.2.2.2⟩
def Eb.d:Fd := { nt:=35,nv:=1,nm:=[0,1,3,4],res:=[2],cs:=λ k=>[(74,Ed.e k),(104,Jp.e k),(105,Bn.e k),(106,Ea.e k)],ls:=[(2,H3.p)] }
def Eb.a (k:Nat):AC (Eb.d.cs k):=⟨Ed.s k,Jp.s k,Bn.s k,Ea.s k,trivial⟩
def H3.s:LL Tryz.f47 Eb.d 2 H3.p:=mL [] Eb.a trivial
def Eb.s (k:Nat):CK 47 (Eb.e k):=mS Eb.d k [2] Tryz.func47 (Eb.a k) ⟨H3.s,trivial⟩
def Bg.e (k:Nat):Ent:=⟨1,[(.val true t44)],[(.one,.b)],λ x=>Bg k x⟩
def Cs.p:LF:=⟨⟨[(1,(.bp 1 0 0)),(2999,(.hd 9))],[(57,t0),(58,(.i .i64)),(59,(.i .i64)),(2000,t44)]⟩,[(.ret,⟨[],[(2,.b)]⟩),((.exit 2),⟨[],[]⟩)],λ k x=>Cs k x.1 x.2.1 x.2.2.1 x.2.2.2⟩
def Eg.p:LF:=⟨⟨[(1,(.bp 1 0 0)),(2999,(.hd 9))],[(34,t41),(35,(.i .i64)),(36,(.i .i64)),(2000,t44)]⟩,[(.ret,⟨[],[(2,.b)]⟩),((.exit 0),⟨[(1,(.bp 1 0 0)),(2999,(.hd 9))],[(2000,t44)]⟩)],λ k x=>Eg k x.1 x.2.1 x.2.2.1 x.2.2.2⟩
def Bg.d:Fd := { nt:=82,nv:=1,nm:=[0,1,3,4,5,6],res:=[2],cs:=λ k=>[(44,Fa.e k),(45,E6.e k),(46,Dd.e k),(47,Eb.e k),(48,An.e k)],ls:=[(10,Cs.p),(4,Eg.p)],rf:=true }
def Bg.a (k:Nat):AC (Bg.d.cs k):=⟨Fa.s k,E6.s k,Dd.s k,Eb.s k,An.s k,trivial⟩
def Cs.s:LL Tryz.f13 Bg.d 10 Cs.p:=mL [] Bg.a trivial
def Eg.s:LL Tryz.f13 Bg.d 4 Eg.p:=mL [] Bg.a trivial
def Bg.s (k:Nat):CK 13 (Bg.e k):=mS Bg.d k [4,10] Tryz.func13 (Bg.a k) ⟨Eg.s,Cs.s,trivial⟩
def Hx.e (k:Nat):Ent:=⟨2,[(.val false t4),(.val false (.i .i64))],[(.one,(.i .i64)),(.one,(.i .i64)),(.one,.b)],λ x=>Hx k x.1 x.2⟩
def G7.p:LF:=⟨⟨[],[(0,t4),(1,(.i .i64)),(7,(.i .i64)),(8,(.i .i64))]⟩,[(.ret,⟨[],[(4,(.i .i64)),(5,(.i .i64)),(6,.b)]⟩),((.exit 0),⟨[],[]⟩)],λ k x=>G7 k x.1 x.2.1 x.2.2.1 x.2.2.2⟩
def Hx.d:Fd := { nt:=57,nv:=2,nm:=[0,1,2,3,7,8,9],res:=[4,5,6],ls:=[(3,G7.p)] }
def G7.s:LL Tryz.f256 Hx.d 3 G7.p:=mL [] (λ _=>trivial) trivial
def Hx.s (k:Nat):CK 256 (Hx.e k):=mS Hx.d k [3] Tryz.func256 trivial ⟨G7.s,trivial⟩
def Cy.e (k:Nat):Ent:=⟨1,[(.ptr t20 t20)],[(.one,(.i .i64))],λ x=>Cy k x⟩
def Cy.d:Fd := { nt:=35,nv:=1,nm:=[0,1,3,4,5],res:=[2],cs:=λ k=>[(256,Hx.e k)] }
def Cy.s (k:Nat):CK 219 (Cy.e k):=mS Cy.d k [] Tryz.func219 ⟨Hx.s k,trivial⟩ trivial
def Di.e (k:Nat):Ent:=⟨1,[(.ptr t20 t20)],[(.agg,t16),(.one,.b)],λ x=>Di k x⟩
def Di.d:Fd := { nt:=31,nv:=1,nm:=[0,1,4,5],res:=[3],cs:=λ k=>[(219,Cy.e k)] }
def Di.s (k:Nat):CK 171 (Di.e k):=mS Di.d k [] Tryz.func171 ⟨Cy.s k,trivial⟩ trivial
def J9.e (k:Nat):Ent:=⟨2,[(.val false t4),(.val false (.i .i64))],[(.one,.s),(.one,(.i .i64)),(.one,.b)],λ x=>J9 k x.1 x.2⟩
def J9.d:Fd := { nt:=37,nv:=2,nm:=[0,1,2,3,7,8,9],res:=[4,5,6],cs:=λ k=>[(256,Hx.e k)] }
def J9.s (k:Nat):CK 220 (J9.e k):=mS J9.d k [] Tryz.func220 ⟨Hx.s k,trivial⟩ trivial
def Ct.e (k:Nat):Ent:=⟨1,[(.ptr t20 t20)],[(.one,.s)],λ x=>Ct k x⟩
def Ct.d:Fd := { nt:=35,nv:=1,nm:=[0,1,3,4,5],res:=[2],cs:=λ k=>[(220,J9.e k)] }
def Ct.s (k:Nat):CK 172 (Ct.e k):=mS Ct.d k [] Tryz.func172 ⟨J9.s k,trivial⟩ trivial
def Fb.e (k:Nat):Ent:=⟨2,[(.val false t5),(.val false (.i .i64))],[(.one,t5)],λ x=>Fb k x.1 x.2⟩
def H4.p:LF:=⟨⟨[],[(0,t5),(1,(.i .i64))]⟩,[((.exit 0),⟨[],[(0,t5),(1,(.i .i64))]⟩)],λ k x=>H4 k x.1 x.2⟩
def Fb.d:Fd := { nt:=24,nv:=2,nm:=[0,1,2,3],res:=[4],ls:=[(2,H4.p)] }
def H4.s:LL Tryz.f257 Fb.d 2 H4.p:=mL [] (λ _=>trivial) trivial
def Fb.s (k:Nat):CK 257 (Fb.e k):=mS Fb.d k [2] Tryz.func257 trivial ⟨H4.s,trivial⟩
def Ja.e (k:Nat):Ent:=⟨2,[(.val false t5),(.val false .s)],[(.one,t5)],λ x=>Ja k x.1 x.2⟩
def Ja.d:Fd := { nt:=11,nv:=2,nm:=[0,1,2,3],res:=[4],cs:=λ k=>[(257,Fb.e k)] }
def Ja.s (k:Nat):CK 221 (Ja.e k):=mS Ja.d k [] Tryz.func221 ⟨Fb.s k,trivial⟩ trivial
def O3.e (k:Nat):Ent:=⟨1,[(.val false .b)],[(.one,(.i .i64))],λ x=>O3 x⟩
def O3.d:Fd := { nt:=4,nv:=1,nm:=[0,1],res:=[2] }
def O3.s (k:Nat):CK 258 (O3.e k):=mS O3.d k [] Tryz.func258 trivial trivial
def Ic.e (k:Nat):Ent:=⟨3,[(.val false t5),(.val true t16),(.val false .b)],[(.one,t5)],λ x=>Ic k x.1 x.2.1 x.2.2⟩
def Ic.d:Fd := { nt:=20,nv:=3,nm:=[0,1,2,3,4,5],res:=[6],cs:=λ k=>[(257,Fb.e k),(258,O3.e k)] }
def Ic.s (k:Nat):CK 222 (Ic.e k):=mS Ic.d k [] Tryz.func222 ⟨Fb.s k,O3.s k,trivial⟩ trivial
def Mi.e (k:Nat):Ent:=⟨1,[(.val false t4)],[(.one,(.i .i64))],λ x=>Mi k x⟩
def Jr.p:LF:=⟨⟨[],[(3,(.i .u32)),(7,t4),(8,(.i .i64)),(9,(.i .i64)),(17,(.i .i64))]⟩,[((.exit 2),⟨[],[(3,(.i .u32)),(7,t4),(8,(.i .i64)),(9,(.i .i64))]⟩)],λ k x=>Jr k x.1 x.2.1 x.2.2.1 x.2.2.2.1 x.2.2.2.2⟩
def Ka.p:LF:=⟨⟨[],[(3,(.i .u32)),(7,t4),(8,(.i .i64)),(9,(.i .i64))]⟩,[((.exit 0),⟨[],[(3,(.i .u32))]⟩)],λ k x=>Ka k x.1 x.2.1 x.2.2.1 x.2.2.2⟩
def Mi.d:Fd := { nt:=32,nv:=1,nm:=[0,1,3,4,5,6],res:=[2],ls:=[(7,Jr.p),(3,Ka.p)] }
def Jr.s:LL Tryz.f223 Mi.d 7 Jr.p:=mL [] (λ _=>trivial) trivial
def Ka.s:LL Tryz.f223 Mi.d 3 Ka.p:=mL [7] (λ _=>trivial) ⟨Jr.s,trivial⟩
def Mi.s (k:Nat):CK 223 (Mi.e k):=mS Mi.d k [3] Tryz.func223 trivial ⟨Ka.s,trivial⟩
def F4.e (k:Nat):Ent:=⟨1,[(.val true t25)],[(.one,t5)],λ x=>F4 k x⟩
def F4.d:Fd := { nt:=33,nv:=1,nm:=[0,1,3,4],res:=[2],cs:=λ k=>[(103,Fn.e k),(221,Ja.e k),(222,Ic.e k),(223,Mi.e k)] }
def F4.s (k:Nat):CK 173 (F4.e k):=mS F4.d k [] Tryz.func173 ⟨Fn.s k,Ja.s k,Ic.s k,Mi.s k,trivial⟩ trivial
def Bo.e (k:Nat):Ent:=⟨1,[(.val false t4)],[(.agg,t25),(.one,.b)],λ x=>Bo k x⟩
def Bo.d:Fd := { nt:=41,nv:=1,nm:=[0,1,4,5,6],res:=[3],cs:=λ k=>[(171,Di.e k),(172,Ct.e k),(173,F4.e k)] }
def Bo.s (k:Nat):CK 109 (Bo.e k):=mS Bo.d k [] Tryz.func109 ⟨Di.s k,Ct.s k,F4.s k,trivial⟩ trivial
def Fc.e (k:Nat):Ent:=⟨2,[(.val true t25),(.val true t25)],[(.one,.b)],λ x=>Fc x.1 x.2⟩
def Fc.d:Fd := { nt:=26,nv:=2,nm:=[0,1,2,3],res:=[4],rf:=true }
def Fc.s (k:Nat):CK 144 (Fc.e k):=mS Fc.d k [] Tryz.func144 trivial trivial
def Ci.e (k:Nat):Ent:=⟨3,[(.val true t44),(.val false .s),(.val true t25)],[(.one,.b)],λ x=>Ci k x.1 x.2.1 x.2.2⟩
def Cu.p:LF:=⟨⟨[(5,(.bp 5 0 0)),(6999,(.hd 5))],[(1,.s),(10,t35),(11,(.i .i64)),(12,(.i .i64)),(6000,t25)]⟩,[(.ret,⟨[],[(6,.b)]⟩),((.exit 0),⟨[],[]⟩)],λ k x=>Cu k x.1 x.2.1 x.2.2.1 x.2.2.2.1 x.2.2.2.2⟩
def Ci.d:Fd := { nt:=27,nv:=3,nm:=[0,1,2,3,4,5,7,8],res:=[6],cs:=λ k=>[(144,Fc.e k)],ls:=[(2,Cu.p)],rf:=true }
def Ci.a (k:Nat):AC (Ci.d.cs k):=⟨Fc.s k,trivial⟩
def Cu.s:LL Tryz.f110 Ci.d 2 Cu.p:=mL [] Ci.a trivial
def Ci.s (k:Nat):CK 110 (Ci.e k):=mS Ci.d k [2] Tryz.func110 (Ci.a k) ⟨Cu.s,trivial⟩
def Db.e (k:Nat):Ent:=⟨1,[(.val true t44)],[(.one,.b)],λ x=>Db k x⟩
def Eh.p:LF:=⟨⟨[(1,(.bp 1 0 0)),(2999,(.hd 9))],[(10,t41),(11,(.i .i64)),(12,(.i .i64)),(23,t14),(24,(.i .i64)),(25,(.i .i64)),(2000,t44)]⟩,[(.ret,⟨[],[(2,.b)]⟩),((.exit 2),⟨[(1,(.bp 1 0 0)),(2999,(.hd 9))],[(10,t41),(11,(.i .i64)),(12,(.i .i64)),(2000,t44)]⟩)],λ k x=>Eh k x.1 x.2.1 x.2.2.1 x.2.2.2.1 x.2.2.2.2.1 x.2.2.2.2.2.1 x.2.2.2.2.2.2⟩
def Fo.p:LF:=⟨⟨[(1,(.bp 1 0 0)),(2999,(.hd 9))],[(10,t41),(11,(.i .i64)),(12,(.i .i64)),(2000,t44)]⟩,[(.ret,⟨[],[(2,.b)]⟩),((.exit 0),⟨[],[]⟩)],λ k x=>Fo k x.1 x.2.1 x.2.2.1 x.2.2.2⟩
def Db.d:Fd := { nt:=46,nv:=1,nm:=[0,1,3,4,5,6,7,8],res:=[2],cs:=λ k=>[(109,Bo.e k),(110,Ci.e k)],ls:=[(5,Eh.p),(2,Fo.p)],rf:=true }
def Db.a (k:Nat):AC (Db.d.cs k):=⟨Bo.s k,Ci.s k,trivial⟩
def Eh.s:LL Tryz.f51 Db.d 5 Eh.p:=mL [] Db.a trivial
def Fo.s:LL Tryz.f51 Db.d 2 Fo.p:=mL [5] Db.a ⟨Eh.s,trivial⟩
def Db.s (k:Nat):CK 51 (Db.e k):=mS Db.d k [2] Tryz.func51 (Db.a k) ⟨Fo.s,trivial⟩
def Ae.e (k:Nat):Ent:=⟨1,[(.val false t31)],[(.one,t32)],λ x=>Ae x⟩
def Ae.d:Fd := { nt:=5,nv:=1,nm:=[0,1],res:=[2] }
def Ae.s (k:Nat):CK 111 (Ae.e k):=mS Ae.d k [] Tryz.func111 trivial trivial
def M2.e (k:Nat):Ent:=⟨2,[(.val false .s),(.val true t25)],[(.agg,t28)],λ x=>M2 x.1 x.2⟩
def M2.d:Fd := { nt:=14,nv:=2,nm:=[0,1,2,3],res:=[],rf:=true }
def M2.s (k:Nat):CK 112 (M2.e k):=mS M2.d k [] Tryz.func112 trivial trivial
def Dj.e (k:Nat):Ent:=⟨1,[(.val true t44)],[(.one,.b)],λ x=>Dj k x⟩
def Dy.p:LF:=⟨⟨[(1,(.bp 1 0 0)),(6,(.bp 6 0 0)),(2999,(.hd 9)),(7999,(.hd 6))],[(7,.b),(11,t41),(12,(.i .i64)),(13,(.i .i64)),(22,t32),(23,(.i .i64)),(24,(.i .i64)),(29,t35),(30,(.i .i64)),(31,(.i .i64)),(2000,t44),(7000,t28)]⟩,[((.exit 4),⟨[(1,(.bp 1 0 0)),(2999,(.hd 9))],[(7,.b),(11,t41),(12,(.i .i64)),(13,(.i .i64)),(22,t32),(23,(.i .i64)),(24,(.i .i64)),(2000,t44)]⟩)],λ k x=>Dy k x.1 x.2.1 x.2.2.1 x.2.2.2.1 x.2.2.2.2.1 x.2.2.2.2.2.1 x.2.2.2.2.2.2.1 x.2.2.2.2.2.2.2.1 x.2.2.2.2.2.2.2.2.1 x.2.2.2.2.2.2.2.2.2.1 x.2.2.2.2.2.2.2.2.2.2.1 x.2.2.2.2.2.2.2.2.2.2.2⟩
def H5.p:LF:=⟨⟨[(1,(.bp 1 0 0)),(2999,(.hd 9))],[(11,t41),(12,(.i .i64)),(13,(.i .i64)),(22,t32),(23,(.i .i64)),(24,(.i .i64)),(2000,t44)]⟩,[(.ret,⟨[],[(2,.b)]⟩),((.exit 2),⟨[(1,(.bp 1 0 0)),(2999,(.hd 9))],[(11,t41),(12,(.i .i64)),(13,(.i .i64)),(2000,t44)]⟩)],λ k x=>H5 k x.1 x.2.1 x.2.2.1 x.2.2.2.1 x.2.2.2.2.1 x.2.2.2.2.2.1 x.2.2.2.2.2.2⟩
def H6.p:LF:=⟨⟨[(1,(.bp 1 0 0)),(2999,(.hd 9))],[(11,t41),(12,(.i .i64)),(13,(.i .i64)),(2000,t44)]⟩,[(.ret,⟨[],[(2,.b)]⟩),((.exit 0),⟨[],[]⟩)],λ k x=>H6 k x.1 x.2.1 x.2.2.1 x.2.2.2⟩
def Dj.d:Fd := { nt:=50,nv:=1,nm:=[0,1,3,4,5,6,7,8,9],res:=[2],cs:=λ k=>[(111,Ae.e k),(112,M2.e k)],ls:=[(9,Dy.p),(5,H5.p),(2,H6.p)],rf:=true }
def Dj.a (k:Nat):AC (Dj.d.cs k):=⟨Ae.s k,M2.s k,trivial⟩
def Dy.s:LL Tryz.f52 Dj.d 9 Dy.p:=mL [] Dj.a trivial
def H5.s:LL Tryz.f52 Dj.d 5 H5.p:=mL [9] Dj.a ⟨Dy.s,trivial⟩
def H6.s:LL Tryz.f52 Dj.d 2 H6.p:=mL [5] Dj.a ⟨H5.s,trivial⟩
def Dj.s (k:Nat):CK 52 (Dj.e k):=mS Dj.d k [2] Tryz.func52 (Dj.a k) ⟨H6.s,trivial⟩
def Iz.e (k:Nat):Ent:=⟨2,[(.val false t0),(.val false .s)],[(.one,.b)],λ x=>Iz k x.1 x.2⟩
def Fp.p:LF:=⟨⟨[],[(1,.s),(7,t0),(8,(.i .i64)),(9,(.i .i64))]⟩,[(.ret,⟨[],[(4,.b)]⟩),((.exit 0),⟨[],[]⟩)],λ k x=>Fp k x.1 x.2.1 x.2.2.1 x.2.2.2⟩
def Iz.d:Fd := { nt:=17,nv:=2,nm:=[0,1,2,3,5,6],res:=[4],ls:=[(2,Fp.p)],rf:=true }
def Fp.s:LL Tryz.f113 Iz.d 2 Fp.p:=mL [] (λ _=>trivial) trivial
def Iz.s (k:Nat):CK 113 (Iz.e k):=mS Iz.d k [2] Tryz.func113 trivial ⟨Fp.s,trivial⟩
def Jy.e (k:Nat):Ent:=⟨2,[(.val false t13),(.val false .s)],[(.one,(.i .i64))],λ x=>Jy k x.1 x.2⟩
def Le.p:LF:=⟨⟨[],[(1,.s),(7,t13),(8,(.i .i64)),(9,(.i .i64))]⟩,[(.ret,⟨[],[(4,(.i .i64))]⟩),((.exit 0),⟨[],[]⟩)],λ k x=>Le k x.1 x.2.1 x.2.2.1 x.2.2.2⟩
def Jy.d:Fd := { nt:=20,nv:=2,nm:=[0,1,2,3,5,6],res:=[4],ls:=[(2,Le.p)] }
def Le.s:LL Tryz.f174 Jy.d 2 Le.p:=mL [] (λ _=>trivial) trivial
def Jy.s (k:Nat):CK 174 (Jy.e k):=mS Jy.d k [2] Tryz.func174 trivial ⟨Le.s,trivial⟩
def Iu.e (k:Nat):Ent:=⟨3,[(.val true t44),(.val false .s),(.val true t16)],[(.one,.b)],λ x=>Iu k x.1 x.2.1 x.2.2⟩
def Gd.p:LF:=⟨⟨[(5,(.bp 5 0 0)),(6999,(.hd 3))],[(1,.s),(13,t41),(14,(.i .i64)),(15,(.i .i64)),(6000,t16)]⟩,[(.ret,⟨[],[(6,.b)]⟩),((.exit 0),⟨[],[]⟩)],λ k x=>Gd k x.1 x.2.1 x.2.2.1 x.2.2.2.1 x.2.2.2.2⟩
def Iu.d:Fd := { nt:=46,nv:=3,nm:=[0,1,2,3,4,5,7,8,9,10,11],res:=[6],cs:=λ k=>[(14,Aq.e k),(109,Bo.e k),(174,Jy.e k)],ls:=[(2,Gd.p)],rf:=true }
def Iu.a (k:Nat):AC (Iu.d.cs k):=⟨Aq.s k,Bo.s k,Jy.s k,trivial⟩
def Gd.s:LL Tryz.f114 Iu.d 2 Gd.p:=mL [] Iu.a trivial
def Iu.s (k:Nat):CK 114 (Iu.e k):=mS Iu.d k [2] Tryz.func114 (Iu.a k) ⟨Gd.s,trivial⟩
def Jv.e (k:Nat):Ent:=⟨1,[(.val true t44)],[(.one,.b)],λ x=>Jv k x⟩
def I1.p:LF:=⟨⟨[(1,(.bp 1 0 0)),(2999,(.hd 9))],[(6,t35),(7,(.i .i64)),(8,(.i .i64)),(2000,t44)]⟩,[(.ret,⟨[],[(2,.b)]⟩),((.exit 0),⟨[],[]⟩)],λ k x=>I1 k x.1 x.2.1 x.2.2.1 x.2.2.2⟩
def Jv.d:Fd := { nt:=33,nv:=1,nm:=[0,1,3,4],res:=[2],cs:=λ k=>[(113,Iz.e k),(114,Iu.e k)],ls:=[(2,I1.p)],rf:=true }
def Jv.a (k:Nat):AC (Jv.d.cs k):=⟨Iz.s k,Iu.s k,trivial⟩
def I1.s:LL Tryz.f53 Jv.d 2 I1.p:=mL [] Jv.a trivial
def Jv.s (k:Nat):CK 53 (Jv.e k):=mS Jv.d k [2] Tryz.func53 (Jv.a k) ⟨I1.s,trivial⟩
def F5.e (k:Nat):Ent:=⟨1,[(.val true t44)],[(.one,.b)],λ x=>F5 k x⟩
def Ei.p:LF:=⟨⟨[(1,(.bp 1 0 0)),(2999,(.hd 9))],[(6,t35),(7,(.i .i64)),(8,(.i .i64)),(2000,t44)]⟩,[(.ret,⟨[],[(2,.b)]⟩),((.exit 0),⟨[],[]⟩)],λ k x=>Ei k x.1 x.2.1 x.2.2.1 x.2.2.2⟩
def F5.d:Fd := { nt:=39,nv:=1,nm:=[0,1,3,4],res:=[2],cs:=λ k=>[(14,Aq.e k)],ls:=[(2,Ei.p)],rf:=true }
def F5.a (k:Nat):AC (F5.d.cs k):=⟨Aq.s k,trivial⟩
def Ei.s:LL Tryz.f54 F5.d 2 Ei.p:=mL [] F5.a trivial
def F5.s (k:Nat):CK 54 (F5.e k):=mS F5.d k [2] Tryz.func54 (F5.a k) ⟨Ei.s,trivial⟩
def Mc.e (k:Nat):Ent:=⟨1,[(.val true t44)],[(.one,(.i .i64))],λ x=>Mc k x⟩
def Mc.d:Fd := { nt:=23,nv:=1,nm:=[0,1],res:=[2],cs:=λ k=>[(13,Bg.e k),(51,Db.e k),(52,Dj.e k),(53,Jv.e k),(54,F5.e k)],rf:=true }
def Mc.s (k:Nat):CK 20 (Mc.e k):=mS Mc.d k [] Tryz.func20 ⟨Bg.s k,Db.s k,Dj.s k,Jv.s k,F5.s k,trivial⟩ trivial
def Kt.e (k:Nat):Ent:=⟨1,[(.val false t4)],[(.ptr,t21)],λ x=>Kt k x⟩
def Id.p:LF:=⟨⟨[],[(0,t4),(3,(.i .i64)),(4,(.i .i64))]⟩,[((.exit 0),⟨[],[(0,t4),(3,(.i .i64))]⟩)],λ k x=>Id k x.1 x.2.1 x.2.2⟩
def Kt.d:Fd := { nt:=32,nv:=1,nm:=[0,1,3,4],res:=[2],ls:=[(3,Id.p)] }
def Id.s:LL Tryz.f34 Kt.d 3 Id.p:=mL [] (λ _=>trivial) trivial
def Kt.s (k:Nat):CK 34 (Kt.e k):=mS Kt.d k [3] Tryz.func34 trivial ⟨Id.s,trivial⟩
def Kd.e (k:Nat):Ent:=⟨2,[(.val false t4),(.val false (.i .i64))],[(.one,(.i .i64))],λ x=>Kd x.1 x.2⟩
def Kd.d:Fd := { nt:=15,nv:=2,nm:=[0,1,2,3,5],res:=[4],rf:=true }
def Kd.s (k:Nat):CK 36 (Kd.e k):=mS Kd.d k [] Tryz.func36 trivial trivial
def Fq.e (k:Nat):Ent:=⟨1,[(.ptr t21 t21)],[(.one,(.i .i64))],λ x=>Fq x⟩
def Fq.d:Fd := { nt:=58,nv:=1,nm:=[0,1,3],res:=[2] }
def Fq.s (k:Nat):CK 85 (Fq.e k):=mS Fq.d k [] Tryz.func85 trivial trivial
def A8.e (k:Nat):Ent:=⟨2,[(.ptr t21 t21),(.val false (.i .i64))],[(.one,(.i .i64))],λ x=>A8 x.1 x.2⟩
def A8.d:Fd := { nt:=31,nv:=2,nm:=[0,1,2,3,5,6,7],res:=[4],cs:=λ k=>[(85,Fq.e k)] }
def A8.s (k:Nat):CK 37 (A8.e k):=mS A8.d k [] Tryz.func37 ⟨Fq.s k,trivial⟩ trivial
def Bv.e (k:Nat):Ent:=⟨2,[(.ptr t21 t21),(.val false t6)],[(.one,(.i .i64))],λ x=>Bv x.1 x.2⟩
def Bv.d:Fd := { nt:=12,nv:=2,nm:=[0,1,2,3],res:=[4],cs:=λ k=>[(37,A8.e k)] }
def Bv.s (k:Nat):CK 39 (Bv.e k):=mS Bv.d k [] Tryz.func39 ⟨A8.s k,trivial⟩ trivial
def Lh.e (k:Nat):Ent:=⟨2,[(.ptr t21 t21),(.val false t0)],[(.one,.s)],λ x=>Lh x.1 x.2⟩
def Lh.d:Fd := { nt:=12,nv:=2,nm:=[0,1,2,3],res:=[4],cs:=λ k=>[(37,A8.e k)] }
def Lh.s (k:Nat):CK 115 (Lh.e k):=mS Lh.d k [] Tryz.func115 ⟨A8.s k,trivial⟩ trivial
def Ke.e (k:Nat):Ent:=⟨1,[(.ptr t21 t21)],[(.one,.s)],λ x=>Ke x⟩
def Ke.d:Fd := { nt:=6,nv:=1,nm:=[0,1],res:=[2],cs:=λ k=>[(115,Lh.e k)] }
def Ke.s (k:Nat):CK 86 (Ke.e k):=mS Ke.d k [] Tryz.func86 ⟨Lh.s k,trivial⟩ trivial
def E8.e (k:Nat):Ent:=⟨1,[(.ptr t21 t21)],[(.one,t7)],λ x=>E8 k x⟩
def Fs.p:LF:=⟨⟨[(0,(.bp 0 0 0)),(1999,(.hd 3))],[(3,t7),(4,(.i .i64)),(1000,t21)]⟩,[((.exit 0),⟨[(1999,(.hd 3))],[(3,t7),(1000,t21)]⟩)],λ k x=>Fs k x.1 x.2.1 x.2.2⟩
def E8.d:Fd := { nt:=17,nv:=1,nm:=[0,1,3,4],res:=[2],cs:=λ k=>[(39,Bv.e k)],ls:=[(3,Fs.p)],rf:=true }
def E8.a (k:Nat):AC (E8.d.cs k):=⟨Bv.s k,trivial⟩
def Fs.s:LL Tryz.f87 E8.d 3 Fs.p:=mL [] E8.a trivial
def E8.s (k:Nat):CK 87 (E8.e k):=mS E8.d k [3] Tryz.func87 (E8.a k) ⟨Fs.s,trivial⟩
def Fu.e (k:Nat):Ent:=⟨2,[(.ptr t21 t21),(.val false (.i .i64))],[(.one,t5)],λ x=>Fu k x.1 x.2⟩
def Ft.p:LF:=⟨⟨[(0,(.bp 0 0 0)),(1999,(.hd 3))],[(1,(.i .i64)),(5,t5),(6,(.i .i64)),(1000,t4),(1001,(.i .i64)),(1002,(.i .i64))]⟩,[((.exit 0),⟨[(1999,(.hd 3))],[(5,t5),(1000,t4),(1001,(.i .i64)),(1002,(.i .i64))]⟩)],λ k x=>Ft k x.1 x.2.1 x.2.2.1 x.2.2.2.1 x.2.2.2.2.1 x.2.2.2.2.2⟩
def Fu.d:Fd := { nt:=20,nv:=2,nm:=[0,1,2,3,5,6],res:=[4],cs:=λ k=>[(85,Fq.e k)],ls:=[(3,Ft.p)] }
def Fu.a (k:Nat):AC (Fu.d.cs k):=⟨Fq.s k,trivial⟩
def Ft.s:LL Tryz.f150 Fu.d 3 Ft.p:=mL [] Fu.a trivial
def Fu.s (k:Nat):CK 150 (Fu.e k):=mS Fu.d k [3] Tryz.func150 (Fu.a k) ⟨Ft.s,trivial⟩
def Fv.e (k:Nat):Ent:=⟨1,[(.ptr t21 t21)],[(.one,t5)],λ x=>Fv k x⟩
def Fv.d:Fd := { nt:=8,nv:=1,nm:=[0,1],res:=[2],cs:=λ k=>[(39,Bv.e k),(150,Fu.e k)] }
def Fv.s (k:Nat):CK 88 (Fv.e k):=mS Fv.d k [] Tryz.func88 ⟨Bv.s k,Fu.s k,trivial⟩ trivial
def A9.e (k:Nat):Ent:=⟨3,[(.val false (.i .i64)),(.val false (.i .i64)),(.val false (.i .i64))],[(.one,.b)],λ x=>A9 x.1 x.2.1 x.2.2⟩
def A9.d:Fd := { nt:=15,nv:=3,nm:=[0,1,2,3,4,5],res:=[6] }
def A9.s (k:Nat):CK 97 (A9.e k):=mS A9.d k [] Tryz.func97 trivial trivial
def Dc.e (k:Nat):Ent:=⟨1,[(.val true t16)],[(.one,.b)],λ x=>Dc x⟩
def Dc.d:Fd := { nt:=16,nv:=1,nm:=[0,1],res:=[2],cs:=λ k=>[(97,A9.e k)] }
def Dc.s (k:Nat):CK 77 (Dc.e k):=mS Dc.d k [] Tryz.func77 ⟨A9.s k,trivial⟩ trivial
def Fw.e (k:Nat):Ent:=⟨1,[(.val true t25)],[(.one,.b)],λ x=>Fw x⟩
def Fw.d:Fd := { nt:=23,nv:=1,nm:=[0,1],res:=[2],cs:=λ k=>[(77,Dc.e k)] }
def Fw.s (k:Nat):CK 78 (Fw.e k):=mS Fw.d k [] Tryz.func78 ⟨Dc.s k,trivial⟩ trivial
def Dk.e (k:Nat):Ent:=⟨2,[(.val false t4),(.val false (.i .i64))],[(.one,(.i .i64)),(.one,(.i .i64)),(.one,.b)],λ x=>Dk k x.1 x.2⟩
def F3.p:LF:=⟨⟨[],[(0,t4),(1,(.i .i64)),(7,(.i .i64)),(8,(.i .i64))]⟩,[(.ret,⟨[],[(4,(.i .i64)),(5,(.i .i64)),(6,.b)]⟩),((.exit 0),⟨[],[]⟩)],λ k x=>F3 k x.1 x.2.1 x.2.2.1 x.2.2.2⟩
def Dk.d:Fd := { nt:=64,nv:=2,nm:=[0,1,2,3,7,8,9],res:=[4,5,6],ls:=[(3,F3.p)] }
def F3.s:LL Tryz.f200 Dk.d 3 F3.p:=mL [] (λ _=>trivial) trivial
def Dk.s (k:Nat):CK 200 (Dk.e k):=mS Dk.d k [3] Tryz.func200 trivial ⟨F3.s,trivial⟩
def Fx.e (k:Nat):Ent:=⟨2,[(.val false t4),(.val false (.i .i64))],[(.agg,t16),(.one,(.i .i64)),(.one,.b)],λ x=>Fx k x.1 x.2⟩
def Fx.d:Fd := { nt:=49,nv:=2,nm:=[0,1,2,3,7,8,9,10,11,12,13,14,15],res:=[5,6],cs:=λ k=>[(200,Dk.e k)] }
def Fx.s (k:Nat):CK 199 (Fx.e k):=mS Fx.d k [] Tryz.func199 ⟨Dk.s k,trivial⟩ trivial
def Jb.e (k:Nat):Ent:=⟨2,[(.val false t4),(.val false (.i .i64))],[(.one,.s),(.one,(.i .i64)),(.one,.b)],λ x=>Jb k x.1 x.2⟩
def Jb.d:Fd := { nt:=37,nv:=2,nm:=[0,1,2,3,7,8,9],res:=[4,5,6],cs:=λ k=>[(200,Dk.e k)] }
def Jb.s (k:Nat):CK 201 (Jb.e k):=mS Jb.d k [] Tryz.func201 ⟨Dk.s k,trivial⟩ trivial
def Dl.e (k:Nat):Ent:=⟨2,[(.val false t4),(.val false (.i .i64))],[(.one,t5)],λ x=>Dl k x.1 x.2⟩
def D6.p:LF:=⟨⟨[],[(1,(.i .i64)),(5,t5)]⟩,[((.exit 0),⟨[],[(1,(.i .i64)),(5,t5)]⟩)],λ k x=>D6 k x.1 x.2⟩
def Dl.d:Fd := { nt:=29,nv:=2,nm:=[0,1,2,3,5],res:=[4],ls:=[(6,D6.p)] }
def D6.s:LL Tryz.f241 Dl.d 6 D6.p:=mL [] (λ _=>trivial) trivial
def Dl.s (k:Nat):CK 241 (Dl.e k):=mS Dl.d k [6] Tryz.func241 trivial ⟨D6.s,trivial⟩
def Jc.e (k:Nat):Ent:=⟨2,[(.val false t4),(.val false .s)],[(.one,t5)],λ x=>Jc k x.1 x.2⟩
def Jc.d:Fd := { nt:=11,nv:=2,nm:=[0,1,2,3],res:=[4],cs:=λ k=>[(241,Dl.e k)] }
def Jc.s (k:Nat):CK 240 (Jc.e k):=mS Jc.d k [] Tryz.func240 ⟨Dl.s k,trivial⟩ trivial
def Jd.e (k:Nat):Ent:=⟨2,[(.val false t4),(.val true t16)],[(.one,t5)],λ x=>Jd k x.1 x.2⟩
def Jd.d:Fd := { nt:=15,nv:=2,nm:=[0,1,2,3],res:=[4],cs:=λ k=>[(241,Dl.e k)] }
def Jd.s (k:Nat):CK 242 (Jd.e k):=mS Jd.d k [] Tryz.func242 ⟨Dl.s k,trivial⟩ trivial
def L6.e (k:Nat):Ent:=⟨1,[(.val false .b)],[(.one,(.i .i64))],λ x=>L6 x⟩
def L6.d:Fd := { nt:=4,nv:=1,nm:=[0,1],res:=[2] }
def L6.s (k:Nat):CK 243 (L6.e k):=mS L6.d k [] Tryz.func243 trivial trivial
def Mj.e (k:Nat):Ent:=⟨1,[(.val false t4)],[(.one,(.i .i64))],λ x=>Mj k x⟩
def Js.p:LF:=⟨⟨[],[(0,t4),(3,(.i .i64)),(4,(.i .i64)),(5,(.i .i64))]⟩,[((.exit 2),⟨[],[(0,t4),(3,(.i .i64)),(4,(.i .i64))]⟩)],λ k x=>Js k x.1 x.2.1 x.2.2.1 x.2.2.2⟩
def Kf.p:LF:=⟨⟨[],[(0,t4),(3,(.i .i64)),(4,(.i .i64))]⟩,[((.exit 0),⟨[],[(3,(.i .i64))]⟩)],λ k x=>Kf k x.1 x.2.1 x.2.2⟩
def Mj.d:Fd := { nt:=34,nv:=1,nm:=[0,1,3,4,5,6],res:=[2],ls:=[(7,Js.p),(3,Kf.p)] }
def Js.s:LL Tryz.f244 Mj.d 7 Js.p:=mL [] (λ _=>trivial) trivial
def Kf.s:LL Tryz.f244 Mj.d 3 Kf.p:=mL [7] (λ _=>trivial) ⟨Js.s,trivial⟩
def Mj.s (k:Nat):CK 244 (Mj.e k):=mS Mj.d k [3] Tryz.func244 trivial ⟨Kf.s,trivial⟩
def F6.e (k:Nat):Ent:=⟨1,[(.val true t25)],[(.one,t5)],λ x=>F6 k x⟩
def F6.d:Fd := { nt:=37,nv:=1,nm:=[0,1,3,4],res:=[2],cs:=λ k=>[(78,Fw.e k),(240,Jc.e k),(241,Dl.e k),(242,Jd.e k),(243,L6.e k),(244,Mj.e k)] }
def F6.s (k:Nat):CK 202 (F6.e k):=mS F6.d k [] Tryz.func202 ⟨Fw.s k,Jc.s k,Dl.s k,Jd.s k,L6.s k,Mj.s k,trivial⟩ trivial
def Gu.e (k:Nat):Ent:=⟨1,[(.val false t4)],[(.agg,t26),(.one,.b)],λ x=>Gu k x⟩
def Gu.d:Fd := { nt:=76,nv:=1,nm:=[0,1,4,5,6,7,8,9,10,11,12,13],res:=[3],cs:=λ k=>[(78,Fw.e k),(199,Fx.e k),(200,Dk.e k),(201,Jb.e k),(202,F6.e k)],mv:=[75] }
def Gu.s (k:Nat):CK 151 (Gu.e k):=mS Gu.d k [] Tryz.func151 ⟨Fw.s k,Fx.s k,Dk.s k,Jb.s k,F6.s k,trivial⟩ trivial
def Hy.e (k:Nat):Ent:=⟨2,[(.val false t0),(.val false .s)],[(.one,.b)],λ x=>Hy k x.1 x.2⟩
def H7.p:LF:=⟨⟨[],[(0,t0),(1,.s),(5,(.i .i64))]⟩,[(.ret,⟨[],[(4,.b)]⟩),((.exit 0),⟨[],[]⟩)],λ k x=>H7 k x.1 x.2.1 x.2.2⟩
def Hy.d:Fd := { nt:=18,nv:=2,nm:=[0,1,2,3,5],res:=[4],ls:=[(2,H7.p)],rf:=true }
def H7.s:LL Tryz.f152 Hy.d 2 H7.p:=mL [] (λ _=>trivial) trivial
def Hy.s (k:Nat):CK 152 (Hy.e k):=mS Hy.d k [2] Tryz.func152 trivial ⟨H7.s,trivial⟩
def D9.e (k:Nat):Ent:=⟨2,[(.val false t13),(.val false .s)],[(.one,(.i .i64))],λ x=>D9 k x.1 x.2⟩
def Je.p:LF:=⟨⟨[],[(0,t13),(1,.s),(5,(.i .i64))]⟩,[(.ret,⟨[],[(4,(.i .i64))]⟩),((.exit 0),⟨[],[]⟩)],λ k x=>Je k x.1 x.2.1 x.2.2⟩
def D9.d:Fd := { nt:=20,nv:=2,nm:=[0,1,2,3,5],res:=[4],ls:=[(2,Je.p)] }
def Je.s:LL Tryz.f153 D9.d 2 Je.p:=mL [] (λ _=>trivial) trivial
def D9.s (k:Nat):CK 153 (D9.e k):=mS D9.d k [2] Tryz.func153 trivial ⟨Je.s,trivial⟩
def Gi.e (k:Nat):Ent:=⟨1,[(.val true t27)],[(.one,t2)],λ x=>Gi k x⟩
def Jf.p:LF:=⟨⟨[(1,(.bp 1 0 0)),(2999,(.hd 2))],[(3,t2),(4,(.i .i64)),(7,(.i .i64)),(2000,t27)]⟩,[((.exit 2),⟨[(1,(.bp 1 0 0)),(2999,(.hd 2))],[(3,t2),(4,(.i .i64)),(7,(.i .i64)),(2000,t27)]⟩)],λ k x=>Jf k x.1 x.2.1 x.2.2.1 x.2.2.2⟩
def Gv.p:LF:=⟨⟨[(1,(.bp 1 0 0)),(2999,(.hd 2))],[(3,t2),(4,(.i .i64)),(2000,t27)]⟩,[((.exit 0),⟨[],[(3,t2)]⟩)],λ k x=>Gv k x.1 x.2.1 x.2.2⟩
def Gi.d:Fd := { nt:=98,nv:=1,nm:=[0,1,3,4,5,6,7],res:=[2],cs:=λ k=>[(151,Gu.e k),(152,Hy.e k),(153,D9.e k)],ls:=[(9,Jf.p),(3,Gv.p)],rf:=true }
def Gi.a (k:Nat):AC (Gi.d.cs k):=⟨Gu.s k,Hy.s k,D9.s k,trivial⟩
def Jf.s:LL Tryz.f89 Gi.d 9 Jf.p:=mL [] Gi.a trivial
def Gv.s:LL Tryz.f89 Gi.d 3 Gv.p:=mL [9] Gi.a ⟨Jf.s,trivial⟩
def Gi.s (k:Nat):CK 89 (Gi.e k):=mS Gi.d k [3] Tryz.func89 (Gi.a k) ⟨Gv.s,trivial⟩
def B9.e (k:Nat):Ent:=⟨1,[(.val false .s)],[(.one,.b)],λ x=>B9 k x⟩
def D7.p:LF:=⟨⟨[],[(0,.s),(3,(.i .i64))]⟩,[(.ret,⟨[],[(2,.b)]⟩),((.exit 0),⟨[],[(0,.s)]⟩)],λ k x=>D7 k x.1 x.2⟩
def B9.d:Fd := { nt:=38,nv:=1,nm:=[0,1,3,4],res:=[2],cs:=λ k=>[(97,A9.e k)],ls:=[(2,D7.p)] }
def B9.a (k:Nat):AC (B9.d.cs k):=⟨A9.s k,trivial⟩
def D7.s:LL Tryz.f62 B9.d 2 D7.p:=mL [] B9.a trivial
def B9.s (k:Nat):CK 62 (B9.e k):=mS B9.d k [2] Tryz.func62 (B9.a k) ⟨D7.s,trivial⟩
def H8.e (k:Nat):Ent:=⟨3,[(.val true t16),(.val false (.i .i64)),(.val false (.i .i64))],[(.agg,t16)],λ x=>H8 x.1 x.2.1 x.2.2⟩
def H8.d:Fd := { nt:=27,nv:=3,nm:=[0,1,2,3,4,5,7],res:=[],cs:=λ k=>[(77,Dc.e k)],rf:=true }
def H8.s (k:Nat):CK 130 (H8.e k):=mS H8.d k [] Tryz.func130 ⟨Dc.s k,trivial⟩ trivial
def Ej.e (k:Nat):Ent:=⟨1,[(.val true t25)],[(.agg,t26)],λ x=>Ej x⟩
def Ej.d:Fd := { nt:=9,nv:=1,nm:=[0,1],res:=[],mv:=[8],rf:=true }
def Ej.s (k:Nat):CK 96 (Ej.e k):=mS Ej.d k [] Tryz.func96 trivial trivial
def Ba.e (k:Nat):Ent:=⟨2,[(.val true t44),(.val false t6)],[(.one,t7)],λ x=>Ba k x.1 x.2⟩
def C2.p:LF:=⟨⟨[(2,(.bp 2 0 0)),(3999,(.hd 9))],[(1,t6),(5,t7),(6,(.i .i64)),(7,(.i .i64)),(3000,t44)]⟩,[((.exit 2),⟨[(2,(.bp 2 0 0)),(3999,(.hd 9))],[(1,t6),(5,t7),(6,(.i .i64)),(3000,t44)]⟩)],λ k x=>C2 k x.1 x.2.1 x.2.2.1 x.2.2.2.1 x.2.2.2.2⟩
def Dm.p:LF:=⟨⟨[(2,(.bp 2 0 0)),(3999,(.hd 9))],[(1,t6),(5,t7),(6,(.i .i64)),(3000,t44)]⟩,[((.exit 0),⟨[],[(5,t7)]⟩)],λ k x=>Dm k x.1 x.2.1 x.2.2.1 x.2.2.2⟩
def Ba.d:Fd := { nt:=38,nv:=2,nm:=[0,1,2,3,5,6,7],res:=[4],ls:=[(6,C2.p),(3,Dm.p)],rf:=true }
def C2.s:LL Tryz.f176 Ba.d 6 C2.p:=mL [] (λ _=>trivial) trivial
def Dm.s:LL Tryz.f176 Ba.d 3 Dm.p:=mL [6] (λ _=>trivial) ⟨C2.s,trivial⟩
def Ba.s (k:Nat):CK 176 (Ba.e k):=mS Ba.d k [3] Tryz.func176 trivial ⟨Dm.s,trivial⟩
def Ly.e (k:Nat):Ent:=⟨1,[(.val false .s)],[(.one,(.i .i64))],λ x=>Ly k x⟩
def Jg.p:LF:=⟨⟨[],[(0,.s),(3,(.i .i64)),(4,(.i .i64))]⟩,[((.exit 0),⟨[],[(3,(.i .i64))]⟩)],λ k x=>Jg k x.1 x.2.1 x.2.2⟩
def Ly.d:Fd := { nt:=20,nv:=1,nm:=[0,1,3,4],res:=[2],ls:=[(3,Jg.p)],rf:=true }
def Jg.s:LL Tryz.f259 Ly.d 3 Jg.p:=mL [] (λ _=>trivial) trivial
def Ly.s (k:Nat):CK 259 (Ly.e k):=mS Ly.d k [3] Tryz.func259 trivial ⟨Jg.s,trivial⟩
def L7.e (k:Nat):Ent:=⟨2,[(.val false .s),(.val false (.i .i64))],[(.one,(.i .i64))],λ x=>L7 k x.1 x.2⟩
def L7.d:Fd := { nt:=11,nv:=2,nm:=[0,1,2,3],res:=[4],cs:=λ k=>[(259,Ly.e k)],rf:=true }
def L7.s (k:Nat):CK 225 (L7.e k):=mS L7.d k [] Tryz.func225 ⟨Ly.s k,trivial⟩ trivial
def Bb.e (k:Nat):Ent:=⟨2,[(.val true t17),(.val false .s)],[(.one,t7)],λ x=>Bb k x.1 x.2⟩
def Bb.d:Fd := { nt:=22,nv:=2,nm:=[0,1,2,3],res:=[4],cs:=λ k=>[(225,L7.e k)],rf:=true }
def Bb.s (k:Nat):CK 177 (Bb.e k):=mS Bb.d k [] Tryz.func177 ⟨L7.s k,trivial⟩ trivial
def Cg.e (k:Nat):Ent:=⟨2,[(.val false t6),(.val false (.i .i64))],[(.one,.b)],λ x=>Cg k x.1 x.2⟩
def Ie.p:LF:=⟨⟨[],[(0,t6),(1,(.i .i64)),(5,(.i .i64))]⟩,[(.ret,⟨[],[(4,.b)]⟩),((.exit 0),⟨[],[]⟩)],λ k x=>Ie k x.1 x.2.1 x.2.2⟩
def Cg.d:Fd := { nt:=18,nv:=2,nm:=[0,1,2,3,5],res:=[4],ls:=[(2,Ie.p)],rf:=true }
def Ie.s:LL Tryz.f190 Cg.d 2 Ie.p:=mL [] (λ _=>trivial) trivial
def Cg.s (k:Nat):CK 190 (Cg.e k):=mS Cg.d k [2] Tryz.func190 trivial ⟨Ie.s,trivial⟩
def Ge.e (k:Nat):Ent:=⟨2,[(.val false t22),(.val false (.i .i64))],[(.agg,t16),(.one,.b)],λ x=>Ge k x.1 x.2⟩
def Ig.p:LF:=⟨⟨[(4,(.bp 4 0 0)),(5999,(.hd 3))],[(0,t22),(1,(.i .i64)),(6,(.i .i64)),(5000,t16)]⟩,[(.ret,⟨[(4,(.bp 4 0 0)),(5999,(.hd 3))],[(5,.b),(5000,t16)]⟩),((.exit 0),⟨[(4,(.bp 4 0 0)),(5999,(.hd 3))],[(5000,t16)]⟩)],λ k x=>Ig k x.1 x.2.1 x.2.2.1 x.2.2.2⟩
def Ge.d:Fd := { nt:=25,nv:=2,nm:=[0,1,2,3,6],res:=[5],ls:=[(2,Ig.p)],rf:=true }
def Ig.s:LL Tryz.f139 Ge.d 2 Ig.p:=mL [] (λ _=>trivial) trivial
def Ge.s (k:Nat):CK 139 (Ge.e k):=mS Ge.d k [2] Tryz.func139 trivial ⟨Ig.s,trivial⟩
def Cz.e (k:Nat):Ent:=⟨2,[(.val false t6),(.val false t22)],[(.one,t7)],λ x=>Cz k x.1 x.2⟩
def Dn.p:LF:=⟨⟨[],[(0,t6),(1,t22),(5,t7),(6,(.i .i64))]⟩,[((.exit 0),⟨[],[(5,t7)]⟩)],λ k x=>Dn k x.1 x.2.1 x.2.2.1 x.2.2.2⟩
def Cz.d:Fd := { nt:=39,nv:=2,nm:=[0,1,2,3,5,6,7,8],res:=[4],cs:=λ k=>[(139,Ge.e k),(190,Cg.e k)],ls:=[(3,Dn.p)],rf:=true }
def Cz.a (k:Nat):AC (Cz.d.cs k):=⟨Ge.s k,Cg.s k,trivial⟩
def Dn.s:LL Tryz.f226 Cz.d 3 Dn.p:=mL [] Cz.a trivial
def Cz.s (k:Nat):CK 226 (Cz.e k):=mS Cz.d k [3] Tryz.func226 (Cz.a k) ⟨Dn.s,trivial⟩
def Ca.e (k:Nat):Ent:=⟨3,[(.val true t17),(.val false t22),(.val false .s)],[(.one,t7)],λ x=>Ca k x.1 x.2.1 x.2.2⟩
def C5.p:LF:=⟨⟨[],[(1,t22),(7,t7),(8,t7),(9,t7),(10,(.i .i64)),(11,(.i .i64))]⟩,[((.exit 2),⟨[],[(1,t22),(7,t7),(8,t7),(9,t7),(10,(.i .i64))]⟩)],λ k x=>C5 k x.1 x.2.1 x.2.2.1 x.2.2.2.1 x.2.2.2.2.1 x.2.2.2.2.2⟩
def Ek.p:LF:=⟨⟨[],[(1,t22),(7,t7),(8,t7),(9,t7),(10,(.i .i64))]⟩,[((.exit 0),⟨[],[(9,t7)]⟩)],λ k x=>Ek k x.1 x.2.1 x.2.2.1 x.2.2.2.1 x.2.2.2.2⟩
def Ca.d:Fd := { nt:=58,nv:=3,nm:=[0,1,2,3,4,5,7,8,9,10,11],res:=[6],cs:=λ k=>[(177,Bb.e k),(190,Cg.e k),(226,Cz.e k)],ls:=[(8,C5.p),(5,Ek.p)],rf:=true }
def Ca.a (k:Nat):AC (Ca.d.cs k):=⟨Bb.s k,Cg.s k,Cz.s k,trivial⟩
def C5.s:LL Tryz.f178 Ca.d 8 C5.p:=mL [] Ca.a trivial
def Ek.s:LL Tryz.f178 Ca.d 5 Ek.p:=mL [8] Ca.a ⟨C5.s,trivial⟩
def Ca.s (k:Nat):CK 178 (Ca.e k):=mS Ca.d k [5] Tryz.func178 (Ca.a k) ⟨Ek.s,trivial⟩
def El.e (k:Nat):Ent:=⟨2,[(.val true t44),(.val false .s)],[(.one,t7)],λ x=>El k x.1 x.2⟩
def El.d:Fd := { nt:=20,nv:=2,nm:=[0,1,2,3],res:=[4],cs:=λ k=>[(176,Ba.e k),(177,Bb.e k),(178,Ca.e k)],rf:=true }
def El.s (k:Nat):CK 118 (El.e k):=mS El.d k [] Tryz.func118 ⟨Ba.s k,Bb.s k,Ca.s k,trivial⟩ trivial
def Bx.e (k:Nat):Ent:=⟨2,[(.val false t6),(.val false (.i .i64))],[(.one,(.i .i64))],λ x=>Bx x.1 x.2⟩
def Bx.d:Fd := { nt:=21,nv:=2,nm:=[0,1,2,3],res:=[4],cs:=λ k=>[(97,A9.e k)],rf:=true }
def Bx.s (k:Nat):CK 119 (Bx.e k):=mS Bx.d k [] Tryz.func119 ⟨A9.s k,trivial⟩ trivial
def Fe.e (k:Nat):Ent:=⟨2,[(.val true t27),(.val false .s)],[(.one,t5),(.one,.b)],λ x=>Fe k x.1 x.2⟩
def Fe.d:Fd := { nt:=22,nv:=2,nm:=[0,1,2,3,6],res:=[4,5],cs:=λ k=>[(153,D9.e k)] }
def Fe.s (k:Nat):CK 179 (Fe.e k):=mS Fe.d k [] Tryz.func179 ⟨D9.s k,trivial⟩ trivial
def I2.e (k:Nat):Ent:=⟨2,[(.val true t27),(.val false .s)],[(.agg,t26),(.one,(.i .i64))],λ x=>I2 k x.1 x.2⟩
def I2.d:Fd := { nt:=28,nv:=2,nm:=[0,1,2,3,6,7,8,9],res:=[5],cs:=λ k=>[(151,Gu.e k),(179,Fe.e k)],mv:=[27] }
def I2.s (k:Nat):CK 120 (I2.e k):=mS I2.d k [] Tryz.func120 ⟨Gu.s k,Fe.s k,trivial⟩ trivial
def Dz.e (k:Nat):Ent:=⟨2,[(.val true t16),(.val true t16)],[(.one,.b)],λ x=>Dz x.1 x.2⟩
def Dz.d:Fd := { nt:=32,nv:=2,nm:=[0,1,2,3],res:=[4] }
def Dz.s (k:Nat):CK 79 (Dz.e k):=mS Dz.d k [] Tryz.func79 trivial trivial
def Li.e (k:Nat):Ent:=⟨2,[(.val true t25),(.val true t25)],[(.one,.b)],λ x=>Li x.1 x.2⟩
def Li.d:Fd := { nt:=10,nv:=2,nm:=[0,1,2,3],res:=[4],cs:=λ k=>[(79,Dz.e k)] }
def Li.s (k:Nat):CK 121 (Li.e k):=mS Li.d k [] Tryz.func121 ⟨Dz.s k,trivial⟩ trivial
def Bd.e (k:Nat):Ent:=⟨1,[(.val false t13)],[(.one,t14)],λ x=>Bd k x⟩
def C6.p:LF:=⟨⟨[],[(0,t13),(3,t14),(4,(.i .i64))]⟩,[((.exit 0),⟨[],[(3,t14)]⟩)],λ k x=>C6 k x.1 x.2.1 x.2.2⟩
def Bd.d:Fd := { nt:=29,nv:=1,nm:=[0,1,3,4],res:=[2],ls:=[(3,C6.p)] }
def C6.s:LL Tryz.f207 Bd.d 3 C6.p:=mL [] (λ _=>trivial) trivial
def Bd.s (k:Nat):CK 207 (Bd.e k):=mS Bd.d k [3] Tryz.func207 trivial ⟨C6.s,trivial⟩
def Gf.e (k:Nat):Ent:=⟨1,[(.val false t13)],[(.one,t15)],λ x=>Gf k x⟩
def Iv.p:LF:=⟨⟨[],[(0,t13),(3,t15),(4,(.i .i64))]⟩,[((.exit 0),⟨[],[(3,t15)]⟩)],λ k x=>Iv k x.1 x.2.1 x.2.2⟩
def Gf.d:Fd := { nt:=29,nv:=1,nm:=[0,1,3,4],res:=[2],ls:=[(3,Iv.p)],hint:=[(5,t12),(26,t12),(27,t12)] }
def Iv.s:LL Tryz.f207 Gf.d 3 Iv.p:=mL [] (λ _=>trivial) trivial
def Gf.s (k:Nat):CK 207 (Gf.e k):=mS Gf.d k [3] Tryz.func207 trivial ⟨Iv.s,trivial⟩
def A6.e (k:Nat):Ent:=⟨1,[(.val true t27)],[(.agg,t29)],λ x=>A6 k x⟩
def A6.d:Fd := { nt:=10,nv:=1,nm:=[0,1],res:=[],cs:=λ k=>[(207,Bd.e k)] }
def A6.s (k:Nat):CK 159 (A6.e k):=mS A6.d k [] Tryz.func159 ⟨Bd.s k,trivial⟩ trivial
def Jz.e (k:Nat):Ent:=⟨1,[(.val true t27)],[(.agg,t30)],λ x=>Jz k x⟩
def Jz.d:Fd := { nt:=10,nv:=1,nm:=[0,1],res:=[],cs:=λ k=>[(207,Gf.e k)] }
def Jz.s (k:Nat):CK 159 (Jz.e k):=mS Jz.d k [] Tryz.func159 ⟨Gf.s k,trivial⟩ trivial
def Fy.e (k:Nat):Ent:=⟨1,[(.val false t13)],[(.one,.b)],λ x=>Fy k x⟩
def G8.p:LF:=⟨⟨[],[(0,t13),(3,(.i .i64))]⟩,[(.ret,⟨[],[(2,.b)]⟩),((.exit 0),⟨[],[(0,t13)]⟩)],λ k x=>G8 k x.1 x.2⟩
def Fy.d:Fd := { nt:=47,nv:=1,nm:=[0,1,3],res:=[2],cs:=λ k=>[(62,B9.e k)],ls:=[(2,G8.p)] }
def Fy.a (k:Nat):AC (Fy.d.cs k):=⟨B9.s k,trivial⟩
def G8.s:LL Tryz.f234 Fy.d 2 G8.p:=mL [] Fy.a trivial
def Fy.s (k:Nat):CK 234 (Fy.e k):=mS Fy.d k [2] Tryz.func234 (Fy.a k) ⟨G8.s,trivial⟩
def Bh.e (k:Nat):Ent:=⟨1,[(.val true t27)],[(.one,.b)],λ x=>Bh k x⟩
def Bh.d:Fd := { nt:=11,nv:=1,nm:=[0,1],res:=[2],cs:=λ k=>[(234,Fy.e k)] }
def Bh.s (k:Nat):CK 192 (Bh.e k):=mS Bh.d k [] Tryz.func192 ⟨Fy.s k,trivial⟩ trivial
def J4.e (k:Nat):Ent:=⟨2,[(.val false t13),(.val false .s)],[(.one,t14)],λ x=>J4 k x.1 x.2⟩
def Hp.p:LF:=⟨⟨[],[(0,t13),(1,.s),(5,t14),(6,(.i .i64))]⟩,[((.exit 0),⟨[],[(5,t14)]⟩)],λ k x=>Hp k x.1 x.2.1 x.2.2.1 x.2.2.2⟩
def J4.d:Fd := { nt:=29,nv:=2,nm:=[0,1,2,3,5,6],res:=[4],ls:=[(3,Hp.p)] }
def Hp.s:LL Tryz.f250 J4.d 3 Hp.p:=mL [] (λ _=>trivial) trivial
def J4.s (k:Nat):CK 250 (J4.e k):=mS J4.d k [3] Tryz.func250 trivial ⟨Hp.s,trivial⟩
def Ec.e (k:Nat):Ent:=⟨3,[(.val true t27),(.val true t29),(.val false .s)],[(.agg,t29),(.one,.b)],λ x=>Ec k x.1 x.2.1 x.2.2⟩
def Ec.d:Fd := { nt:=24,nv:=3,nm:=[0,1,2,3,4,5],res:=[7],cs:=λ k=>[(62,B9.e k),(159,A6.e k),(192,Bh.e k)],mv:=[23] }
def Ec.s (k:Nat):CK 251 (Ec.e k):=mS Ec.d k [] Tryz.func251 ⟨B9.s k,A6.s k,Bh.s k,trivial⟩ trivial
def Fk.e (k:Nat):Ent:=⟨3,[(.val false t13),(.val false .s),(.val false t4)],[(.one,t14)],λ x=>Fk k x.1 x.2.1 x.2.2⟩
def Cb.p:LF:=⟨⟨[(9,(.bp 9 0 0)),(10999,(.hd 2))],[(0,t13),(1,.s),(7,t14),(8,.b),(10,(.i .i64)),(10000,.s),(10001,t4)]⟩,[((.exit 0),⟨[(9,(.bp 9 0 0)),(10999,(.hd 2))],[(7,t14),(8,.b),(10000,.s),(10001,t4)]⟩)],λ k x=>Cb k x.1 x.2.1 x.2.2.1 x.2.2.2.1 x.2.2.2.2.1 x.2.2.2.2.2.1 x.2.2.2.2.2.2⟩
def Fk.d:Fd := { nt:=59,nv:=3,nm:=[0,1,2,3,4,5,7,8,9,10],res:=[6],ls:=[(5,Cb.p)] }
def Cb.s:LL Tryz.f252 Fk.d 5 Cb.p:=mL [] (λ _=>trivial) trivial
def Fk.s (k:Nat):CK 252 (Fk.e k):=mS Fk.d k [5] Tryz.func252 trivial ⟨Cb.s,trivial⟩
def Bc.e (k:Nat):Ent:=⟨2,[(.val true t27),(.val false .s)],[(.agg,t29),(.one,.b)],λ x=>Bc k x.1 x.2⟩
def Bc.d:Fd := { nt:=35,nv:=2,nm:=[0,1,2,3,6,7,8],res:=[5],cs:=λ k=>[(159,A6.e k),(179,Fe.e k),(250,J4.e k),(251,Ec.e k),(252,Fk.e k)] }
def Bc.s (k:Nat):CK 210 (Bc.e k):=mS Bc.d k [] Tryz.func210 ⟨A6.s k,Fe.s k,J4.s k,Ec.s k,Fk.s k,trivial⟩ trivial
def E3.e (k:Nat):Ent:=⟨3,[(.val true t27),(.val false .s),(.val false t4)],[(.agg,t29),(.one,.b)],λ x=>E3 k x.1 x.2.1 x.2.2⟩
def E3.d:Fd := { nt:=23,nv:=3,nm:=[0,1,2,3,4,5,8],res:=[7],cs:=λ k=>[(159,A6.e k),(251,Ec.e k),(252,Fk.e k)] }
def E3.s (k:Nat):CK 249 (E3.e k):=mS E3.d k [] Tryz.func249 ⟨A6.s k,Ec.s k,Fk.s k,trivial⟩ trivial
def Ky.e (k:Nat):Ent:=⟨4,[(.val true t27),(.val false .s),(.val true t25),(.val false .b)],[(.agg,t29),(.one,(.i .i64))],λ x=>Ky k x.1 x.2.1 x.2.2.1 x.2.2.2⟩
def Ky.d:Fd := { nt:=82,nv:=4,nm:=[0,1,2,3,4,5,6,7,10,11,12,13,14,15],res:=[9],cs:=λ k=>[(62,B9.e k),(78,Fw.e k),(120,I2.e k),(121,Li.e k),(159,A6.e k),(192,Bh.e k),(202,F6.e k),(210,Bc.e k),(249,E3.e k)],mv:=[58,81] }
def Ky.s (k:Nat):CK 208 (Ky.e k):=mS Ky.d k [] Tryz.func208 ⟨B9.s k,Fw.s k,I2.s k,Li.s k,A6.s k,Bh.s k,F6.s k,Bc.s k,E3.s k,trivial⟩ trivial
def M3.e (k:Nat):Ent:=⟨2,[(.val false .s),(.val true t25)],[(.agg,t28)],λ x=>M3 x.1 x.2⟩
def M3.d:Fd := { nt:=14,nv:=2,nm:=[0,1,2,3],res:=[] }
def M3.s (k:Nat):CK 230 (M3.e k):=mS M3.d k [] Tryz.func230 trivial trivial
def Kg.e (k:Nat):Ent:=⟨4,[(.ptr t38 t38),(.val false .s),(.val true t25),(.val false .b)],[(.one,(.i .i64))],λ x=>Kg k x.1 x.2.1 x.2.2.1 x.2.2.2⟩
def Kg.d:Fd := { nt:=52,nv:=4,nm:=[0,1,2,3,4,5,6,7,9,10],res:=[8],cs:=λ k=>[(208,Ky.e k),(230,M3.e k)] }
def Kg.s (k:Nat):CK 184 (Kg.e k):=mS Kg.d k [] Tryz.func184 ⟨Ky.s k,M3.s k,trivial⟩ trivial
def Kh.e (k:Nat):Ent:=⟨1,[(.val false (.i .i64))],[(.one,(.i .i64))],λ x=>Kh x⟩
def Kh.d:Fd := { nt:=6,nv:=1,nm:=[0,1],res:=[2],rf:=true }
def Kh.s (k:Nat):CK 185 (Kh.e k):=mS Kh.d k [] Tryz.func185 trivial trivial
def Bt.e (k:Nat):Ent:=⟨4,[(.ptr t45 t45),(.val false .s),(.val true t25),(.val false t6)],[(.one,(.i .i64))],λ x=>Bt k x.1 x.2.1 x.2.2.1 x.2.2.2⟩
def B2.p:LF:=⟨⟨[(0,(.bp 0 0 0)),(6,(.bp 6 0 0)),(1999,(.hd 9)),(7999,(.hd 5))],[(1,.s),(3,t6),(9,t7),(10,(.i .i64)),(11,(.i .i64)),(12,(.i .i64)),(1000,t45),(7000,t25)]⟩,[((.exit 0),⟨[(0,(.bp 0 0 0)),(6,(.bp 6 0 0)),(1999,(.hd 9)),(7999,(.hd 5))],[(1,.s),(11,(.i .i64)),(1000,t45),(7000,t25)]⟩)],λ k x=>B2 k x.1 x.2.1 x.2.2.1 x.2.2.2.1 x.2.2.2.2.1 x.2.2.2.2.2.1 x.2.2.2.2.2.2.1 x.2.2.2.2.2.2.2⟩
def Bt.d:Fd := { nt:=92,nv:=4,nm:=[0,1,2,3,4,5,6,7,9,10,11,12,13,14,15],res:=[8],cs:=λ k=>[(96,Ej.e k),(118,El.e k),(119,Bx.e k),(184,Kg.e k),(185,Kh.e k)],ls:=[(5,B2.p)],gh:=[(1000006,[.cl 1003])],opn:=[51],rf:=true }
def Bt.a (k:Nat):AC (Bt.d.cs k):=⟨Ej.s k,El.s k,Bx.s k,Kg.s k,Kh.s k,trivial⟩
def B2.s:LL Tryz.f131 Bt.d 5 B2.p:=mL [] Bt.a trivial
def Bt.s (k:Nat):CK 131 (Bt.e k):=mS Bt.d k [5] Tryz.func131 (Bt.a k) ⟨B2.s,trivial⟩
def Hq.e (k:Nat):Ent:=⟨5,[(.ptr t45 t45),(.val false .s),(.val true t25),(.val false (.i .i64)),(.val false t6)],[(.one,(.i .i64))],λ x=>Hq k x.1 x.2.1 x.2.2.1 x.2.2.2.1 x.2.2.2.2⟩
def Hq.d:Fd := { nt:=57,nv:=5,nm:=[0,1,2,3,4,5,6,7,8,9],res:=[10],cs:=λ k=>[(62,B9.e k),(97,A9.e k),(130,H8.e k),(131,Bt.e k)],rf:=true }
def Hq.s (k:Nat):CK 71 (Hq.e k):=mS Hq.d k [] Tryz.func71 ⟨B9.s k,A9.s k,H8.s k,Bt.s k,trivial⟩ trivial
def C8.e (k:Nat):Ent:=⟨2,[(.val true t27),(.val false .s)],[(.agg,t29),(.one,.b)],λ x=>C8 k x.1 x.2⟩
def C8.d:Fd := { nt:=26,nv:=2,nm:=[0,1,2,3,6],res:=[5],cs:=λ k=>[(153,D9.e k),(159,A6.e k),(250,J4.e k),(251,Ec.e k)],mv:=[14] }
def C8.s (k:Nat):CK 209 (C8.e k):=mS C8.d k [] Tryz.func209 ⟨D9.s k,A6.s k,J4.s k,Ec.s k,trivial⟩ trivial
def Cj.e (k:Nat):Ent:=⟨4,[(.ptr t45 t45),(.val false (.i .i64)),(.val false .s),(.val false t6)],[(.one,.b)],λ x=>Cj k x.1 x.2.1 x.2.2.1 x.2.2.2⟩
def Bi.p:LF:=⟨⟨[(0,(.bp 0 0 0)),(9,(.bp 9 0 0)),(1999,(.hd 9)),(10999,(.hd 5))],[(1,(.i .i64)),(2,.s),(3,t6),(11,t7),(12,.b),(13,.b),(14,(.i .i64)),(1000,t45),(10000,t25)]⟩,[((.exit 0),⟨[(0,(.bp 0 0 0)),(1999,(.hd 9))],[(1,(.i .i64)),(2,.s),(12,.b),(13,.b),(1000,t45)]⟩)],λ k x=>Bi k x.1 x.2.1 x.2.2.1 x.2.2.2.1 x.2.2.2.2.1 x.2.2.2.2.2.1 x.2.2.2.2.2.2.1 x.2.2.2.2.2.2.2.1 x.2.2.2.2.2.2.2.2⟩
def Cj.d:Fd := { nt:=125,nv:=4,nm:=[0,1,2,3,4,5,6,7,9,10,11,12,13,14,15,16,17,18],res:=[8],cs:=λ k=>[(119,Bx.e k),(120,I2.e k),(176,Ba.e k),(177,Bb.e k),(208,Ky.e k),(209,C8.e k),(210,Bc.e k)],ls:=[(8,Bi.p)],rf:=true }
def Cj.a (k:Nat):AC (Cj.d.cs k):=⟨Bx.s k,I2.s k,Ba.s k,Bb.s k,Ky.s k,C8.s k,Bc.s k,trivial⟩
def Bi.s:LL Tryz.f160 Cj.d 8 Bi.p:=mL [] Cj.a trivial
def Cj.s (k:Nat):CK 160 (Cj.e k):=mS Cj.d k [8] Tryz.func160 (Cj.a k) ⟨Bi.s,trivial⟩
def Gw.e (k:Nat):Ent:=⟨1,[(.val true t44)],[(.one,t7)],λ x=>Gw k x⟩
def Gw.d:Fd := { nt:=8,nv:=1,nm:=[0,1],res:=[2],cs:=λ k=>[(176,Ba.e k),(177,Bb.e k)],rf:=true }
def Gw.s (k:Nat):CK 253 (Gw.e k):=mS Gw.d k [] Tryz.func253 ⟨Ba.s k,Bb.s k,trivial⟩ trivial
def Jh.e (k:Nat):Ent:=⟨2,[(.val true t28),(.val true t28)],[(.one,.b)],λ x=>Jh x.1 x.2⟩
def Jh.d:Fd := { nt:=29,nv:=2,nm:=[0,1,2,3],res:=[4],cs:=λ k=>[(79,Dz.e k)] }
def Jh.s (k:Nat):CK 263 (Jh.e k):=mS Jh.d k [] Tryz.func263 ⟨Dz.s k,trivial⟩ trivial
def Cc.e (k:Nat):Ent:=⟨2,[(.val false t31),(.val true t28)],[(.one,t32)],λ x=>Cc k x.1 x.2⟩
def Dp.p:LF:=⟨⟨[(3,(.bp 3 0 0)),(4999,(.hd 6))],[(5,t32),(7,(.i .i64)),(4000,.s),(4001,(.i .i64)),(4002,(.i .i64)),(4003,(.i .i64)),(4004,.b),(4005,(.i .i64))]⟩,[((.exit 2),⟨[(3,(.bp 3 0 0)),(4999,(.hd 6))],[(5,t32),(7,(.i .i64)),(4000,.s),(4001,(.i .i64)),(4002,(.i .i64)),(4003,(.i .i64)),(4004,.b),(4005,(.i .i64))]⟩)],λ k x=>Dp k x.1 x.2.1 x.2.2.1 x.2.2.2.1 x.2.2.2.2.1 x.2.2.2.2.2.1 x.2.2.2.2.2.2.1 x.2.2.2.2.2.2.2⟩
def Em.p:LF:=⟨⟨[(3,(.bp 3 0 0)),(4999,(.hd 6))],[(5,t32),(6,(.i .i64)),(4000,.s),(4001,(.i .i64)),(4002,(.i .i64)),(4003,(.i .i64)),(4004,.b),(4005,(.i .i64))]⟩,[(.ret,⟨[],[(4,t32)]⟩),((.exit 0),⟨[(3,(.bp 3 0 0)),(4999,(.hd 6))],[(5,t32),(4000,.s),(4001,(.i .i64)),(4002,(.i .i64)),(4003,(.i .i64)),(4004,.b),(4005,(.i .i64))]⟩)],λ k x=>Em k x.1 x.2.1 x.2.2.1 x.2.2.2.1 x.2.2.2.2.1 x.2.2.2.2.2.1 x.2.2.2.2.2.2.1 x.2.2.2.2.2.2.2⟩
def Cc.d:Fd := { nt:=70,nv:=2,nm:=[0,1,2,3,5,6,7],res:=[4],cs:=λ k=>[(263,Jh.e k)],ls:=[(11,Dp.p),(3,Em.p)] }
def Cc.a (k:Nat):AC (Cc.d.cs k):=⟨Jh.s k,trivial⟩
def Dp.s:LL Tryz.f260 Cc.d 11 Dp.p:=mL [] Cc.a trivial
def Em.s:LL Tryz.f260 Cc.d 3 Em.p:=mL [] Cc.a trivial
def Cc.s (k:Nat):CK 260 (Cc.e k):=mS Cc.d k [3,11] Tryz.func260 (Cc.a k) ⟨Em.s,Dp.s,trivial⟩
def Ck.e (k:Nat):Ent:=⟨2,[(.val false t31),(.val false t31)],[(.one,t32)],λ x=>Ck k x.1 x.2⟩
def Dq.p:LF:=⟨⟨[],[(1,t31),(5,t32),(6,(.i .i64))]⟩,[((.exit 0),⟨[],[(5,t32)]⟩)],λ k x=>Dq k x.1 x.2.1 x.2.2⟩
def Ck.d:Fd := { nt:=23,nv:=2,nm:=[0,1,2,3,5,6],res:=[4],cs:=λ k=>[(260,Cc.e k)],ls:=[(3,Dq.p)] }
def Ck.a (k:Nat):AC (Ck.d.cs k):=⟨Cc.s k,trivial⟩
def Dq.s:LL Tryz.f262 Ck.d 3 Dq.p:=mL [] Ck.a trivial
def Ck.s (k:Nat):CK 262 (Ck.e k):=mS Ck.d k [3] Tryz.func262 (Ck.a k) ⟨Dq.s,trivial⟩
def I3.e (k:Nat):Ent:=⟨2,[(.ptr t38 t38),(.val false t31)],[(.one,.b)],λ x=>I3 k x.1 x.2⟩
def I3.d:Fd := { nt:=19,nv:=2,nm:=[0,1,2,3,5],res:=[4],cs:=λ k=>[(262,Ck.e k)] }
def I3.s (k:Nat):CK 254 (I3.e k):=mS I3.d k [] Tryz.func254 ⟨Ck.s k,trivial⟩ trivial
def Bj.e (k:Nat):Ent:=⟨5,[(.ptr t45 t45),(.val false (.i .i64)),(.val false t31),(.val false .b),(.val false t6)],[(.one,.b)],λ x=>Bj k x.1 x.2.1 x.2.2.1 x.2.2.2.1 x.2.2.2.2⟩
def Aj.p:LF:=⟨⟨[(0,(.bp 0 0 0)),(1999,(.hd 9))],[(1,(.i .i64)),(2,t31),(3,.b),(4,t6),(11,t7),(12,.b),(13,(.i .i64)),(1000,t45)]⟩,[((.exit 0),⟨[(1999,(.hd 9))],[(12,.b),(1000,t45)]⟩)],λ k x=>Aj k x.1 x.2.1 x.2.2.1 x.2.2.2.1 x.2.2.2.2.1 x.2.2.2.2.2.1 x.2.2.2.2.2.2.1 x.2.2.2.2.2.2.2⟩
def Bj.d:Fd := { nt:=53,nv:=5,nm:=[0,1,2,3,4,5,6,7,8,9,11,12,13],res:=[10],cs:=λ k=>[(119,Bx.e k),(253,Gw.e k),(254,I3.e k)],ls:=[(4,Aj.p)],gh:=[(1000005,[.cl 1003])],opn:=[47],rf:=true }
def Bj.a (k:Nat):AC (Bj.d.cs k):=⟨Bx.s k,Gw.s k,I3.s k,trivial⟩
def Aj.s:LL Tryz.f211 Bj.d 4 Aj.p:=mL [] Bj.a trivial
def Bj.s (k:Nat):CK 211 (Bj.e k):=mS Bj.d k [4] Tryz.func211 (Bj.a k) ⟨Aj.s,trivial⟩
def J6.e (k:Nat):Ent:=⟨2,[(.val true t44),(.val false (.i .i64))],[(.one,.b)],λ x=>J6 k x.1 x.2⟩
def J6.d:Fd := { nt:=9,nv:=2,nm:=[0,1,2,3],res:=[4],cs:=λ k=>[(190,Cg.e k),(253,Gw.e k)],rf:=true }
def J6.s (k:Nat):CK 212 (J6.e k):=mS J6.d k [] Tryz.func212 ⟨Cg.s k,Gw.s k,trivial⟩ trivial
def H9.e (k:Nat):Ent:=⟨3,[(.ptr t45 t45),(.val false (.i .i64)),(.val false t6)],[(.one,.b)],λ x=>H9 k x.1 x.2.1 x.2.2⟩
def H9.d:Fd := { nt:=47,nv:=3,nm:=[0,1,2,3,4,5,7],res:=[6],cs:=λ k=>[(211,Bj.e k),(212,J6.e k)],rf:=true }
def H9.s (k:Nat):CK 161 (H9.e k):=mS H9.d k [] Tryz.func161 ⟨Bj.s k,J6.s k,trivial⟩ trivial
def Ha.e (k:Nat):Ent:=⟨3,[(.ptr t45 t45),(.val false (.i .i64)),(.val false t6)],[(.one,.b)],λ x=>Ha k x.1 x.2.1 x.2.2⟩
def Ha.d:Fd := { nt:=36,nv:=3,nm:=[0,1,2,3,4,5,7],res:=[6],cs:=λ k=>[(211,Bj.e k)],rf:=true }
def Ha.s (k:Nat):CK 162 (Ha.e k):=mS Ha.d k [] Tryz.func162 ⟨Bj.s k,trivial⟩ trivial
def Iw.e (k:Nat):Ent:=⟨1,[(.val true t27)],[(.agg,t29),(.one,(.i .i64))],λ x=>Iw k x⟩
def Hr.p:LF:=⟨⟨[(1,(.bp 1 0 0)),(2,(.bp 2 0 0)),(4,(.bp 4 0 0)),(2999,(.hd 2)),(3999,(.hd 2)),(5999,(.hd 2))],[(5,(.i .i64)),(6,(.i .i64)),(2000,t27),(3000,t29),(5000,t29)]⟩,[((.exit 0),⟨[(2,(.bp 2 0 0)),(4,(.bp 4 0 0)),(3999,(.hd 2)),(5999,(.hd 2))],[(5,(.i .i64)),(3000,t29),(5000,t29)]⟩)],λ k x=>Hr k x.1 x.2.1 x.2.2.1 x.2.2.2.1 x.2.2.2.2⟩
def Iw.d:Fd := { nt:=53,nv:=1,nm:=[0,1,4,5,6,7,8,9],res:=[3],cs:=λ k=>[(120,I2.e k),(159,A6.e k),(192,Bh.e k),(209,C8.e k),(210,Bc.e k)],ls:=[(4,Hr.p)],mv:=[51],rf:=true }
def Iw.a (k:Nat):AC (Iw.d.cs k):=⟨I2.s k,A6.s k,Bh.s k,C8.s k,Bc.s k,trivial⟩
def Hr.s:LL Tryz.f163 Iw.d 4 Hr.p:=mL [] Iw.a trivial
def Iw.s (k:Nat):CK 163 (Iw.e k):=mS Iw.d k [4] Tryz.func163 (Iw.a k) ⟨Hr.s,trivial⟩
def Ch.e (k:Nat):Ent:=⟨2,[(.val false t13),(.val false t13)],[(.one,t2)],λ x=>Ch k x.1 x.2⟩
def Eo.p:LF:=⟨⟨[],[(5,t14),(8,t2),(9,(.i .i64))]⟩,[((.exit 4),⟨[],[(8,t2)]⟩)],λ k x=>Eo k x.1 x.2.1 x.2.2⟩
def Fz.p:LF:=⟨⟨[],[(1,t13),(5,t14),(7,(.i .i64))]⟩,[((.exit 2),⟨[],[(5,t14)]⟩)],λ k x=>Fz k x.1 x.2.1 x.2.2⟩
def G0.p:LF:=⟨⟨[],[(0,t13),(1,t13),(5,t14),(6,(.i .i64))]⟩,[((.exit 0),⟨[],[(1,t13),(5,t14)]⟩)],λ k x=>G0 k x.1 x.2.1 x.2.2.1 x.2.2.2⟩
def Ch.d:Fd := { nt:=55,nv:=2,nm:=[0,1,2,3,5,6,7,8,9],res:=[4],cs:=λ k=>[(252,Fk.e k)],ls:=[(12,Eo.p),(7,Fz.p),(3,G0.p)],rf:=true }
def Ch.a (k:Nat):AC (Ch.d.cs k):=⟨Fk.s k,trivial⟩
def Eo.s:LL Tryz.f213 Ch.d 12 Eo.p:=mL [] Ch.a trivial
def Fz.s:LL Tryz.f213 Ch.d 7 Fz.p:=mL [] Ch.a trivial
def G0.s:LL Tryz.f213 Ch.d 3 G0.p:=mL [] Ch.a trivial
def Ch.s (k:Nat):CK 213 (Ch.e k):=mS Ch.d k [3,7,12] Tryz.func213 (Ch.a k) ⟨G0.s,Fz.s,Eo.s,trivial⟩
def De.e (k:Nat):Ent:=⟨2,[(.val true t27),(.val false t1)],[(.agg,t29)],λ x=>De k x.1 x.2⟩
def As.p:LF:=⟨⟨[(2,(.bp 2 0 0)),(4,(.bp 4 0 0)),(3999,(.hd 2)),(5999,(.hd 2))],[(1,t1),(5,t2),(6,t14),(7,(.i .i64)),(3000,t27),(5000,t29)]⟩,[((.exit 0),⟨[(2,(.bp 2 0 0)),(4,(.bp 4 0 0)),(3999,(.hd 2)),(5999,(.hd 2))],[(6,t14),(3000,t27),(5000,t29)]⟩)],λ k x=>As k x.1 x.2.1 x.2.2.1 x.2.2.2.1 x.2.2.2.2.1 x.2.2.2.2.2⟩
def De.d:Fd := { nt:=66,nv:=2,nm:=[0,1,2,3,5,6,7,8,9],res:=[],cs:=λ k=>[(153,D9.e k),(159,A6.e k),(192,Bh.e k),(207,Bd.e k),(213,Ch.e k)],ls:=[(6,As.p)],rf:=true }
def De.a (k:Nat):AC (De.d.cs k):=⟨D9.s k,A6.s k,Bh.s k,Bd.s k,Ch.s k,trivial⟩
def As.s:LL Tryz.f164 De.d 6 As.p:=mL [] De.a trivial
def De.s (k:Nat):CK 164 (De.e k):=mS De.d k [6] Tryz.func164 (De.a k) ⟨As.s,trivial⟩
def Ji.e (k:Nat):Ent:=⟨1,[(.val true t38)],[(.agg,t39)],λ x=>Ji k x⟩
def Ji.d:Fd := { nt:=17,nv:=1,nm:=[0,1],res:=[],cs:=λ k=>[(159,A6.e k)] }
def Ji.s (k:Nat):CK 95 (Ji.e k):=mS Ji.d k [] Tryz.func95 ⟨A6.s k,trivial⟩ trivial
def Ih.e (k:Nat):Ent:=⟨1,[(.val true t28)],[(.one,.b)],λ x=>Ih k x⟩
def Ih.d:Fd := { nt:=26,nv:=1,nm:=[0,1],res:=[2],cs:=λ k=>[(62,B9.e k),(77,Dc.e k),(97,A9.e k)] }
def Ih.s (k:Nat):CK 191 (Ih.e k):=mS Ih.d k [] Tryz.func191 ⟨B9.s k,Dc.s k,A9.s k,trivial⟩ trivial
def Gk.e (k:Nat):Ent:=⟨1,[(.val false t31)],[(.one,.b)],λ x=>Gk k x⟩
def G9.p:LF:=⟨⟨[],[(0,t31),(3,(.i .i64))]⟩,[(.ret,⟨[],[(2,.b)]⟩),((.exit 0),⟨[],[(0,t31)]⟩)],λ k x=>G9 k x.1 x.2⟩
def Gk.d:Fd := { nt:=37,nv:=1,nm:=[0,1,3],res:=[2],cs:=λ k=>[(191,Ih.e k)],ls:=[(2,G9.p)] }
def Gk.a (k:Nat):AC (Gk.d.cs k):=⟨Ih.s k,trivial⟩
def G9.s:LL Tryz.f193 Gk.d 2 G9.p:=mL [] Gk.a trivial
def Gk.s (k:Nat):CK 193 (Gk.e k):=mS Gk.d k [2] Tryz.func193 (Gk.a k) ⟨G9.s,trivial⟩
def Gl.e (k:Nat):Ent:=⟨1,[(.val true t38)],[(.one,.b)],λ x=>Gl k x⟩
def Hb.p:LF:=⟨⟨[(1,(.bp 1 0 0)),(2999,(.hd 5))],[(3,(.i .i64)),(2000,(.i .i64)),(2001,t13),(2002,t13),(2003,t31),(2004,t31)]⟩,[(.ret,⟨[],[(2,.b)]⟩),((.exit 0),⟨[(1,(.bp 1 0 0)),(2999,(.hd 5))],[(2000,(.i .i64)),(2001,t13),(2002,t13),(2003,t31),(2004,t31)]⟩)],λ k x=>Hb k x.1 x.2.1 x.2.2.1 x.2.2.2.1 x.2.2.2.2.1 x.2.2.2.2.2⟩
def Gl.d:Fd := { nt:=37,nv:=1,nm:=[0,1,3],res:=[2],cs:=λ k=>[(97,A9.e k),(191,Ih.e k),(192,Bh.e k),(193,Gk.e k)],ls:=[(2,Hb.p)] }
def Gl.a (k:Nat):AC (Gl.d.cs k):=⟨A9.s k,Ih.s k,Bh.s k,Gk.s k,trivial⟩
def Hb.s:LL Tryz.f140 Gl.d 2 Hb.p:=mL [] Gl.a trivial
def Gl.s (k:Nat):CK 140 (Gl.e k):=mS Gl.d k [2] Tryz.func140 (Gl.a k) ⟨Hb.s,trivial⟩
def Ki.e (k:Nat):Ent:=⟨3,[(.val true t27),(.val false .s),(.val false (.i .i64))],[(.agg,t30),(.one,.b)],λ x=>Ki k x.1 x.2.1 x.2.2⟩
def Ki.d:Fd := { nt:=97,nv:=3,nm:=[0,1,2,3,4,5,8,9,10,11],res:=[7],cs:=λ k=>[(97,A9.e k),(153,D9.e k),(159,Jz.e k),(192,Bh.e k)],mv:=[39,96] }
def Ki.s (k:Nat):CK 214 (Ki.e k):=mS Ki.d k [] Tryz.func214 ⟨A9.s k,D9.s k,Jz.s k,Bh.s k,trivial⟩ trivial
def Jj.e (k:Nat):Ent:=⟨3,[(.val true t38),(.val false .s),(.val false (.i .i64))],[(.agg,t40),(.one,.b)],λ x=>Jj k x.1 x.2.1 x.2.2⟩
def Jj.d:Fd := { nt:=44,nv:=3,nm:=[0,1,2,3,4,5,8,9,10,11,12],res:=[7],cs:=λ k=>[(95,Ji.e k),(120,I2.e k),(140,Gl.e k),(214,Ki.e k)],mv:=[29,40,43] }
def Jj.s (k:Nat):CK 165 (Jj.e k):=mS Jj.d k [] Tryz.func165 ⟨Ji.s k,I2.s k,Gl.s k,Ki.s k,trivial⟩ trivial
def Df.e (k:Nat):Ent:=⟨2,[(.val false t0),(.val false .s)],[(.one,t0)],λ x=>Df k x.1 x.2⟩
def Ep.p:LF:=⟨⟨[],[(1,.s),(5,t2),(6,(.i .i64))]⟩,[((.exit 0),⟨[],[(1,.s),(5,t2),(6,(.i .i64))]⟩)],λ k x=>Ep k x.1 x.2.1 x.2.2⟩
def Df.d:Fd := { nt:=46,nv:=2,nm:=[0,1,2,3,5,6],res:=[4],cs:=λ k=>[(152,Hy.e k)],ls:=[(5,Ep.p)],rf:=true }
def Df.a (k:Nat):AC (Df.d.cs k):=⟨Hy.s k,trivial⟩
def Ep.s:LL Tryz.f166 Df.d 5 Ep.p:=mL [] Df.a trivial
def Df.s (k:Nat):CK 166 (Df.e k):=mS Df.d k [5] Tryz.func166 (Df.a k) ⟨Ep.s,trivial⟩
def Az.e (k:Nat):Ent:=⟨2,[(.ptr t45 t45),(.val true t34)],[(.one,.b)],λ x=>Az k x.1 x.2⟩
def D0.p:LF:=⟨⟨[(0,(.bp 0 0 0)),(3,(.bp 3 0 0)),(1999,(.hd 9)),(4999,(.hd 6))],[(5,t3),(6,(.i .i64)),(1000,t45),(4000,t34)]⟩,[((.exit 1),⟨[(0,(.bp 0 0 0)),(3,(.bp 3 0 0)),(1999,(.hd 9)),(4999,(.hd 6))],[(5,t3),(1000,t45),(4000,t34)]⟩)],λ k x=>D0 k x.1 x.2.1 x.2.2.1 x.2.2.2⟩
def Az.d:Fd := { nt:=134,nv:=2,nm:=[0,1,2,3,5,6,7,8],res:=[4],cs:=λ k=>[(160,Cj.e k),(161,H9.e k),(162,Ha.e k),(163,Iw.e k),(164,De.e k),(165,Jj.e k),(166,Df.e k)],ls:=[(14,D0.p)],rf:=true }
def Az.a (k:Nat):AC (Az.d.cs k):=⟨Cj.s k,H9.s k,Ha.s k,Iw.s k,De.s k,Jj.s k,Df.s k,trivial⟩
def D0.s:LL Tryz.f98 Az.d 14 D0.p:=mL [] Az.a trivial
def Az.s (k:Nat):CK 98 (Az.e k):=mS Az.d k [14] Tryz.func98 (Az.a k) ⟨D0.s,trivial⟩
def Jt.e (k:Nat):Ent:=⟨1,[(.val true t17)],[(.agg,t18)],λ x=>Jt k x⟩
def Hc.p:LF:=⟨⟨[(1,(.bp 1 0 0)),(2,(.bp 2 0 0)),(3,(.bp 3 0 0)),(2999,(.hd 2)),(3999,(.hd 2)),(4999,(.hd 2))],[(4,(.i .i64)),(2000,t17),(3000,t19),(4000,t18)]⟩,[((.exit 0),⟨[(2,(.bp 2 0 0)),(3,(.bp 3 0 0)),(3999,(.hd 2)),(4999,(.hd 2))],[(3000,t19),(4000,t18)]⟩)],λ k x=>Hc k x.1 x.2.1 x.2.2.1 x.2.2.2⟩
def Jt.d:Fd := { nt:=30,nv:=1,nm:=[0,1,3,4],res:=[],ls:=[(3,Hc.p)],hint:=[(26,t7),(27,t7)],mv:=[29],rf:=true }
def Hc.s:LL Tryz.f94 Jt.d 3 Hc.p:=mL [] (λ _=>trivial) trivial
def Jt.s (k:Nat):CK 94 (Jt.e k):=mS Jt.d k [3] Tryz.func94 trivial ⟨Hc.s,trivial⟩
def Cp.e (k:Nat):Ent:=⟨1,[(.val false t22)],[(.one,.b)],λ x=>Cp k x⟩
def Ga.p:LF:=⟨⟨[],[(0,t22),(3,(.i .i64))]⟩,[(.ret,⟨[],[(2,.b)]⟩),((.exit 0),⟨[],[(0,t22)]⟩)],λ k x=>Ga k x.1 x.2⟩
def Cp.d:Fd := { nt:=49,nv:=1,nm:=[0,1,3,4],res:=[2],cs:=λ k=>[(97,A9.e k)],ls:=[(2,Ga.p)],rf:=true }
def Cp.a (k:Nat):AC (Cp.d.cs k):=⟨A9.s k,trivial⟩
def Ga.s:LL Tryz.f137 Cp.d 2 Ga.p:=mL [] Cp.a trivial
def Cp.s (k:Nat):CK 137 (Cp.e k):=mS Cp.d k [2] Tryz.func137 (Cp.a k) ⟨Ga.s,trivial⟩
def Gn.e (k:Nat):Ent:=⟨2,[(.val true t6),(.val false (.i .i64))],[(.one,.b)],λ x=>Gn k x.1 x.2⟩
def Hd.p:LF:=⟨⟨[(2,(.bp 2 0 0)),(3999,(.hd 1))],[(1,(.i .i64)),(5,(.i .i64)),(3000,t6)]⟩,[(.ret,⟨[],[(4,.b)]⟩),((.exit 0),⟨[(2,(.bp 2 0 0)),(3999,(.hd 1))],[(1,(.i .i64)),(3000,t6)]⟩)],λ k x=>Hd k x.1 x.2.1 x.2.2⟩
def Gn.d:Fd := { nt:=28,nv:=2,nm:=[0,1,2,3,5],res:=[4],cs:=λ k=>[(190,Cg.e k)],ls:=[(2,Hd.p)],rf:=true }
def Gn.a (k:Nat):AC (Gn.d.cs k):=⟨Cg.s k,trivial⟩
def Hd.s:LL Tryz.f138 Gn.d 2 Hd.p:=mL [] Gn.a trivial
def Gn.s (k:Nat):CK 138 (Gn.e k):=mS Gn.d k [2] Tryz.func138 (Gn.a k) ⟨Hd.s,trivial⟩
def Jw.e (k:Nat):Ent:=⟨2,[(.val true t17),(.val false t22)],[(.one,.b)],λ x=>Jw k x.1 x.2⟩
def Jk.p:LF:=⟨⟨[(2,(.bp 2 0 0)),(3999,(.hd 2))],[(5,(.i .i64)),(3000,t17)]⟩,[(.ret,⟨[],[(4,.b)]⟩),((.exit 0),⟨[],[]⟩)],λ k x=>Jk k x.1 x.2⟩
def Jw.d:Fd := { nt:=45,nv:=2,nm:=[0,1,2,3,5],res:=[4],cs:=λ k=>[(97,A9.e k),(137,Cp.e k),(138,Gn.e k)],ls:=[(4,Jk.p)],rf:=true }
def Jw.a (k:Nat):AC (Jw.d.cs k):=⟨A9.s k,Cp.s k,Gn.s k,trivial⟩
def Jk.s:LL Tryz.f215 Jw.d 4 Jk.p:=mL [] Jw.a trivial
def Jw.s (k:Nat):CK 215 (Jw.e k):=mS Jw.d k [4] Tryz.func215 (Jw.a k) ⟨Jk.s,trivial⟩
def Gp.e (k:Nat):Ent:=⟨2,[(.val true t6),(.val false t22)],[(.one,(.i .i64))],λ x=>Gp k x.1 x.2⟩
def He.p:LF:=⟨⟨[(2,(.bp 2 0 0)),(3999,(.hd 1))],[(1,t22),(5,(.i .i64)),(3000,t6)]⟩,[(.ret,⟨[],[(4,(.i .i64))]⟩),((.exit 0),⟨[],[]⟩)],λ k x=>He k x.1 x.2.1 x.2.2⟩
def Gp.d:Fd := { nt:=28,nv:=2,nm:=[0,1,2,3,5,6,7],res:=[4],cs:=λ k=>[(139,Ge.e k)],ls:=[(2,He.p)],rf:=true }
def Gp.a (k:Nat):AC (Gp.d.cs k):=⟨Ge.s k,trivial⟩
def He.s:LL Tryz.f216 Gp.d 2 He.p:=mL [] Gp.a trivial
def Gp.s (k:Nat):CK 216 (Gp.e k):=mS Gp.d k [2] Tryz.func216 (Gp.a k) ⟨He.s,trivial⟩
def Cq.e (k:Nat):Ent:=⟨2,[(.val true t17),(.val false (.i .i64))],[(.one,(.i .i64))],λ x=>Cq k x.1 x.2⟩
def Gb.p:LF:=⟨⟨[(2,(.bp 2 0 0)),(3999,(.hd 2))],[(1,(.i .i64)),(5,(.i .i64)),(6,(.i .i64)),(7,(.i .i64)),(3000,t17)]⟩,[((.exit 2),⟨[(2,(.bp 2 0 0)),(3999,(.hd 2))],[(1,(.i .i64)),(5,(.i .i64)),(6,(.i .i64)),(3000,t17)]⟩)],λ k x=>Gb k x.1 x.2.1 x.2.2.1 x.2.2.2.1 x.2.2.2.2⟩
def Hf.p:LF:=⟨⟨[(2,(.bp 2 0 0)),(3999,(.hd 2))],[(1,(.i .i64)),(5,(.i .i64)),(6,(.i .i64)),(3000,t17)]⟩,[((.exit 0),⟨[],[(5,(.i .i64))]⟩)],λ k x=>Hf k x.1 x.2.1 x.2.2.1 x.2.2.2⟩
def Cq.d:Fd := { nt:=40,nv:=2,nm:=[0,1,2,3,5,6,7],res:=[4],ls:=[(6,Gb.p),(3,Hf.p)],rf:=true }
def Gb.s:LL Tryz.f255 Cq.d 6 Gb.p:=mL [] (λ _=>trivial) trivial
def Hf.s:LL Tryz.f255 Cq.d 3 Hf.p:=mL [6] (λ _=>trivial) ⟨Gb.s,trivial⟩
def Cq.s (k:Nat):CK 255 (Cq.e k):=mS Cq.d k [3] Tryz.func255 trivial ⟨Hf.s,trivial⟩
def I4.e (k:Nat):Ent:=⟨3,[(.val true t17),(.val true t6),(.val false t22)],[(.one,(.i .i64))],λ x=>I4 k x.1 x.2.1 x.2.2⟩
def Bp.p:LF:=⟨⟨[(3,(.bp 3 0 0)),(4,(.bp 4 0 0)),(4999,(.hd 2)),(5999,(.hd 1))],[(2,t22),(7,t7),(8,(.i .i64)),(9,.b),(10,(.i .i64)),(4000,t17),(5000,t6)]⟩,[((.exit 0),⟨[],[(2,t22),(8,(.i .i64))]⟩)],λ k x=>Bp k x.1 x.2.1 x.2.2.1 x.2.2.2.1 x.2.2.2.2.1 x.2.2.2.2.2.1 x.2.2.2.2.2.2⟩
def I4.d:Fd := { nt:=88,nv:=3,nm:=[0,1,2,3,4,5,7,8,9,10,11,12],res:=[6],cs:=λ k=>[(137,Cp.e k),(190,Cg.e k),(226,Cz.e k),(255,Cq.e k)],ls:=[(5,Bp.p)],rf:=true }
def I4.a (k:Nat):AC (I4.d.cs k):=⟨Cp.s k,Cg.s k,Cz.s k,Cq.s k,trivial⟩
def Bp.s:LL Tryz.f217 I4.d 5 Bp.p:=mL [] I4.a trivial
def I4.s (k:Nat):CK 217 (I4.e k):=mS I4.d k [5] Tryz.func217 (I4.a k) ⟨Bp.s,trivial⟩
def F7.e (k:Nat):Ent:=⟨4,[(.val true t17),(.val true t6),(.val false t22),(.val false (.i .i64))],[(.one,(.i .i64))],λ x=>F7 k x.1 x.2.1 x.2.2.1 x.2.2.2⟩
def C9.p:LF:=⟨⟨[(4,(.bp 4 0 0)),(5,(.bp 5 0 0)),(9,(.bp 9 0 0)),(5999,(.hd 2)),(6999,(.hd 1)),(10999,(.hd 3))],[(2,t22),(3,(.i .i64)),(10,.b),(11,(.i .i64)),(5000,t17),(6000,t6),(10000,t16)]⟩,[(.ret,⟨[],[(8,(.i .i64))]⟩),((.exit 0),⟨[],[]⟩)],λ k x=>C9 k x.1 x.2.1 x.2.2.1 x.2.2.2.1 x.2.2.2.2.1 x.2.2.2.2.2.1 x.2.2.2.2.2.2⟩
def F7.d:Fd := { nt:=60,nv:=4,nm:=[0,1,2,3,4,5,6,7,9,10,11,12,13],res:=[8],cs:=λ k=>[(139,Ge.e k),(255,Cq.e k)],ls:=[(3,C9.p)],rf:=true }
def F7.a (k:Nat):AC (F7.d.cs k):=⟨Ge.s k,Cq.s k,trivial⟩
def C9.s:LL Tryz.f218 F7.d 3 C9.p:=mL [] F7.a trivial
def F7.s (k:Nat):CK 218 (F7.e k):=mS F7.d k [3] Tryz.func218 (F7.a k) ⟨C9.s,trivial⟩
def Cl.e (k:Nat):Ent:=⟨2,[(.val true t17),(.val false t22)],[(.agg,t18),(.one,(.i .i64))],λ x=>Cl k x.1 x.2⟩
def B3.p:LF:=⟨⟨[(4,(.bp 4 0 0)),(6,(.bp 6 0 0)),(5999,(.hd 2)),(7999,(.hd 2))],[(1,t22),(7,(.i .i64)),(8,(.i .i64)),(5000,t19),(7000,t18)]⟩,[((.exit 0),⟨[(4,(.bp 4 0 0)),(6,(.bp 6 0 0)),(5999,(.hd 2)),(7999,(.hd 2))],[(7,(.i .i64)),(5000,t19),(7000,t18)]⟩)],λ k x=>B3 k x.1 x.2.1 x.2.2.1 x.2.2.2.1 x.2.2.2.2⟩
def Cl.d:Fd := { nt:=82,nv:=2,nm:=[0,1,2,3,6,7,8,9,10,11,12],res:=[5],cs:=λ k=>[(94,Jt.e k),(215,Jw.e k),(216,Gp.e k),(217,I4.e k),(218,F7.e k)],ls:=[(6,B3.p)],mv:=[19,80],rf:=true }
def Cl.a (k:Nat):AC (Cl.d.cs k):=⟨Jt.s k,Jw.s k,Gp.s k,I4.s k,F7.s k,trivial⟩
def B3.s:LL Tryz.f167 Cl.d 6 B3.p:=mL [] Cl.a trivial
def Cl.s (k:Nat):CK 167 (Cl.e k):=mS Cl.d k [6] Tryz.func167 (Cl.a k) ⟨B3.s,trivial⟩
def Hg.e (k:Nat):Ent:=⟨3,[(.ptr t45 t45),(.val false (.i .i64)),(.val false (.i .i64))],[(.one,.b)],λ x=>Hg k x.1 x.2.1 x.2.2⟩
def Hg.d:Fd := { nt:=49,nv:=3,nm:=[0,1,2,3,4,5,7,8],res:=[6],cs:=λ k=>[(97,A9.e k),(167,Cl.e k)],rf:=true }
def Hg.s (k:Nat):CK 99 (Hg.e k):=mS Hg.d k [] Tryz.func99 ⟨A9.s k,Cl.s k,trivial⟩ trivial
def J0.e (k:Nat):Ent:=⟨2,[(.ptr t45 t45),(.val true t34)],[(.one,.b)],λ x=>J0 k x.1 x.2⟩
def J0.d:Fd := { nt:=76,nv:=2,nm:=[0,1,2,3,5,6],res:=[4],cs:=λ k=>[(71,Hq.e k),(97,A9.e k),(98,Az.e k),(99,Hg.e k)],rf:=true }
def J0.s (k:Nat):CK 43 (J0.e k):=mS J0.d k [] Tryz.func43 ⟨Hq.s k,A9.s k,Az.s k,Hg.s k,trivial⟩ trivial
def Gq.e (k:Nat):Ent:=⟨1,[(.ptr t21 t21)],[(.one,t23)],λ x=>Gq k x⟩
def Hh.p:LF:=⟨⟨[(0,(.bp 0 0 0)),(1999,(.hd 3))],[(3,t23),(4,(.i .i64)),(5,(.i .i64)),(6,(.i .i64)),(1000,t21)]⟩,[((.exit 0),⟨[(1999,(.hd 3))],[(3,t23),(1000,t21)]⟩)],λ k x=>Hh k x.1 x.2.1 x.2.2.1 x.2.2.2.1 x.2.2.2.2⟩
def Gq.d:Fd := { nt:=35,nv:=1,nm:=[0,1,3,4,5,6],res:=[2],cs:=λ k=>[(37,A8.e k),(39,Bv.e k)],ls:=[(5,Hh.p)],rf:=true }
def Gq.a (k:Nat):AC (Gq.d.cs k):=⟨A8.s k,Bv.s k,trivial⟩
def Hh.s:LL Tryz.f107 Gq.d 5 Hh.p:=mL [] Gq.a trivial
def Gq.s (k:Nat):CK 107 (Gq.e k):=mS Gq.d k [5] Tryz.func107 (Gq.a k) ⟨Hh.s,trivial⟩
def Gy.e (k:Nat):Ent:=⟨3,[(.val false t22),(.val false (.i .i64)),(.val false (.i .i64))],[(.agg,t18),(.one,.b)],λ x=>Gy k x.1 x.2.1 x.2.2⟩
def Ii.p:LF:=⟨⟨[(6,(.bp 6 0 0)),(8,(.bp 8 0 0)),(7999,(.hd 2)),(9999,(.hd 2))],[(0,t22),(1,(.i .i64)),(2,(.i .i64)),(9,(.i .i64)),(10,(.i .i64)),(7000,t19),(9000,t18)]⟩,[((.exit 2),⟨[(6,(.bp 6 0 0)),(8,(.bp 8 0 0)),(7999,(.hd 2)),(9999,(.hd 2))],[(0,t22),(1,(.i .i64)),(2,(.i .i64)),(9,(.i .i64)),(7000,t19),(9000,t18)]⟩)],λ k x=>Ii k x.1 x.2.1 x.2.2.1 x.2.2.2.1 x.2.2.2.2.1 x.2.2.2.2.2.1 x.2.2.2.2.2.2⟩
def Ij.p:LF:=⟨⟨[(6,(.bp 6 0 0)),(8,(.bp 8 0 0)),(7999,(.hd 2)),(9999,(.hd 2))],[(0,t22),(1,(.i .i64)),(2,(.i .i64)),(9,(.i .i64)),(7000,t19),(9000,t18)]⟩,[((.exit 0),⟨[(6,(.bp 6 0 0)),(8,(.bp 8 0 0)),(7999,(.hd 2)),(9999,(.hd 2))],[(7000,t19),(9000,t18)]⟩)],λ k x=>Ij k x.1 x.2.1 x.2.2.1 x.2.2.2.1 x.2.2.2.2.1 x.2.2.2.2.2⟩
def Gy.d:Fd := { nt:=73,nv:=3,nm:=[0,1,2,3,4,5,8,9,10,11],res:=[7],cs:=λ k=>[(97,A9.e k),(137,Cp.e k),(217,I4.e k)],ls:=[(9,Ii.p),(5,Ij.p)],hint:=[(42,t7),(43,t7)],mv:=[72],gh:=[(12,[.od 54 3001]),(1000010,[.cl 9001])],rf:=true }
def Gy.a (k:Nat):AC (Gy.d.cs k):=⟨A9.s k,Cp.s k,I4.s k,trivial⟩
def Ii.s:LL Tryz.f169 Gy.d 9 Ii.p:=mL [] Gy.a trivial
def Ij.s:LL Tryz.f169 Gy.d 5 Ij.p:=mL [9] Gy.a ⟨Ii.s,trivial⟩
def Gy.s (k:Nat):CK 169 (Gy.e k):=mS Gy.d k [5] Tryz.func169 (Gy.a k) ⟨Ij.s,trivial⟩
def Jl.e (k:Nat):Ent:=⟨1,[(.val false (.i .i64))],[(.agg,t39)],λ x=>Jl x⟩
def Jl.d:Fd := { nt:=9,nv:=1,nm:=[0,1],res:=[],cs:=λ k=>[(97,A9.e k)] }
def Jl.s (k:Nat):CK 170 (Jl.e k):=mS Jl.d k [] Tryz.func170 ⟨A9.s k,trivial⟩ trivial
def Cd.e (k:Nat):Ent:=⟨3,[(.val false t22),(.val false (.i .i64)),(.val false (.i .i64))],[(.agg,t46)],λ x=>Cd k x.1 x.2.1 x.2.2⟩
def Er.p:LF:=⟨⟨[(6,(.bp 6 0 0)),(9,(.bp 9 0 0)),(7999,(.hd 9)),(10999,(.hd 9))],[(0,t22),(10,(.i .i64)),(7000,t47),(10000,t46)]⟩,[((.exit 0),⟨[(6,(.bp 6 0 0)),(9,(.bp 9 0 0)),(7999,(.hd 9)),(10999,(.hd 9))],[(7000,t47),(10000,t46)]⟩)],λ k x=>Er k x.1 x.2.1 x.2.2.1 x.2.2.2⟩
def Cd.d:Fd := { nt:=44,nv:=3,nm:=[0,1,2,3,4,5,7,8,9,10],res:=[],cs:=λ k=>[(169,Gy.e k),(170,Jl.e k)],ls:=[(6,Er.p)],mv:=[43],rf:=true }
def Cd.a (k:Nat):AC (Cd.d.cs k):=⟨Gy.s k,Jl.s k,trivial⟩
def Er.s:LL Tryz.f108 Cd.d 6 Er.p:=mL [] Cd.a trivial
def Cd.s (k:Nat):CK 108 (Cd.e k):=mS Cd.d k [6] Tryz.func108 (Cd.a k) ⟨Er.s,trivial⟩
def Kj.e (k:Nat):Ent:=⟨1,[(.ptr t21 t21)],[(.agg,t46)],λ x=>Kj k x⟩
def Kj.d:Fd := { nt:=22,nv:=1,nm:=[0,1,3,4],res:=[],cs:=λ k=>[(39,Bv.e k),(107,Gq.e k),(108,Cd.e k)],rf:=true }
def Kj.s (k:Nat):CK 49 (Kj.e k):=mS Kj.d k [] Tryz.func49 ⟨Bv.s k,Gq.s k,Cd.s k,trivial⟩ trivial
def Es.e (k:Nat):Ent:=⟨2,[(.ptr t21 t21),(.vw t45 2),(.hid t45 t45)],[(.agg,(.pr (.i .i64) (.pr (.i .i64) (.pr .s (.pr t5 (.pr (.i .i64) t7))))))],λ x=>Es k x.1 x.2.1 x.2.2⟩
def Es.d:Fd := { nt:=99,nv:=2,nm:=[0,1,2,3,5,6],res:=[],cs:=λ k=>[(37,A8.e k),(39,Bv.e k),(86,Ke.e k),(87,E8.e k),(88,Fv.e k),(89,Gi.e k)],mv:=[1,98],rf:=true }
def Es.s (k:Nat):CK 38 (Es.e k):=mS Es.d k [] Tryz.func38 ⟨A8.s k,Bv.s k,Ke.s k,E8.s k,Fv.s k,Gi.s k,trivial⟩ trivial
def F8.e (k:Nat):Ent:=⟨2,[(.ptr t21 t21),(.val false (.i .i64))],[(.agg,t45)],λ x=>F8 k x.1 x.2⟩
def G3.p:LF:=⟨⟨[(0,(.bp 0 0 0)),(4,(.bp 4 0 0)),(5,(.bp 5 0 0)),(1999,(.hd 3)),(5999,(.hd 9)),(6999,(.hd 9))],[(6,(.i .i64)),(1000,t21),(5000,t47),(6000,t45)]⟩,[((.exit 0),⟨[(4,(.bp 4 0 0)),(5,(.bp 5 0 0)),(5999,(.hd 9)),(6999,(.hd 9)),(1999,(.hd 3))],[(5000,t47),(6000,t45),(1000,t21)]⟩)],λ k x=>G3 k x.1 x.2.1 x.2.2.1 x.2.2.2⟩
def F8.d:Fd := { nt:=21,nv:=2,nm:=[0,1,2,3,5,6],res:=[],cs:=λ k=>[(37,A8.e k),(38,Es.e k),(43,J0.e k),(49,Kj.e k)],ls:=[(3,G3.p)],mv:=[20],rf:=true }
def F8.a (k:Nat):AC (F8.d.cs k):=⟨A8.s k,Es.s k,J0.s k,Kj.s k,trivial⟩
def G3.s:LL Tryz.f55 F8.d 3 G3.p:=mL [] F8.a trivial
def F8.s (k:Nat):CK 55 (F8.e k):=mS F8.d k [3] Tryz.func55 (F8.a k) ⟨G3.s,trivial⟩
def Hi.e (k:Nat):Ent:=⟨1,[(.val false t4)],[(.agg,t45)],λ x=>Hi k x⟩
def Hi.d:Fd := { nt:=11,nv:=1,nm:=[0,1,3],res:=[],cs:=λ k=>[(34,Kt.e k),(36,Kd.e k),(55,F8.e k)],rf:=true }
def Hi.s (k:Nat):CK 21 (Hi.e k):=mS Hi.d k [] Tryz.func21 ⟨Kt.s k,Kd.s k,F8.s k,trivial⟩ trivial
def Ff.e (k:Nat):Ent:=⟨1,[(.val false t6)],[(.one,t7)],λ x=>Ff x⟩
def Ff.d:Fd := { nt:=5,nv:=1,nm:=[0,1],res:=[2],rf:=true }
def Ff.s (k:Nat):CK 154 (Ff.e k):=mS Ff.d k [] Tryz.func154 trivial trivial
def Dg.e (k:Nat):Ent:=⟨1,[(.val true t17)],[(.agg,t19)],λ x=>Dg k x⟩
def Et.p:LF:=⟨⟨[(2,(.bp 2 0 0)),(3,(.bp 3 0 0)),(3999,(.hd 2)),(4999,(.hd 2))],[(10,t10),(11,(.i .i64)),(12,(.i .i64)),(3000,t19),(4000,t19)]⟩,[((.exit 0),⟨[(2,(.bp 2 0 0)),(3,(.bp 3 0 0)),(3999,(.hd 2)),(4999,(.hd 2))],[(3000,t19),(4000,t19)]⟩)],λ k x=>Et k x.1 x.2.1 x.2.2.1 x.2.2.2.1 x.2.2.2.2⟩
def Dg.d:Fd := { nt:=27,nv:=1,nm:=[0,1,3,4,5],res:=[],cs:=λ k=>[(154,Ff.e k)],ls:=[(3,Et.p)],mv:=[26],rf:=true }
def Dg.a (k:Nat):AC (Dg.d.cs k):=⟨Ff.s k,trivial⟩
def Et.s:LL Tryz.f90 Dg.d 3 Et.p:=mL [] Dg.a trivial
def Dg.s (k:Nat):CK 90 (Dg.e k):=mS Dg.d k [3] Tryz.func90 (Dg.a k) ⟨Et.s,trivial⟩
def Ar.e (k:Nat):Ent:=⟨1,[(.val false t4)],[(.one,t5)],λ x=>Ar x⟩
def Ar.d:Fd := { nt:=5,nv:=1,nm:=[0,1],res:=[2] }
def Ar.s (k:Nat):CK 70 (Ar.e k):=mS Ar.d k [] Tryz.func70 trivial trivial
def C0.e (k:Nat):Ent:=⟨1,[(.val false t13)],[(.one,t14)],λ x=>C0 k x⟩
def Dr.p:LF:=⟨⟨[],[(3,t14),(6,t13),(7,(.i .i64)),(8,(.i .i64))]⟩,[((.exit 0),⟨[],[(3,t14)]⟩)],λ k x=>Dr k x.1 x.2.1 x.2.2.1 x.2.2.2⟩
def C0.d:Fd := { nt:=23,nv:=1,nm:=[0,1,3,4,5],res:=[2],cs:=λ k=>[(70,Ar.e k)],ls:=[(3,Dr.p)] }
def C0.a (k:Nat):AC (C0.d.cs k):=⟨Ar.s k,trivial⟩
def Dr.s:LL Tryz.f203 C0.d 3 Dr.p:=mL [] C0.a trivial
def C0.s (k:Nat):CK 203 (C0.e k):=mS C0.d k [3] Tryz.func203 (C0.a k) ⟨Dr.s,trivial⟩
def A5.e (k:Nat):Ent:=⟨1,[(.val true t27)],[(.agg,t29)],λ x=>A5 k x⟩
def A5.d:Fd := { nt:=10,nv:=1,nm:=[0,1],res:=[],cs:=λ k=>[(203,C0.e k)] }
def A5.s (k:Nat):CK 155 (A5.e k):=mS A5.d k [] Tryz.func155 ⟨C0.s k,trivial⟩ trivial
def Ce.e (k:Nat):Ent:=⟨1,[(.val true t38)],[(.agg,t39)],λ x=>Ce k x⟩
def Ce.d:Fd := { nt:=15,nv:=1,nm:=[0,1],res:=[],cs:=λ k=>[(111,Ae.e k),(155,A5.e k)] }
def Ce.s (k:Nat):CK 91 (Ce.e k):=mS Ce.d k [] Tryz.func91 ⟨Ae.s k,A5.s k,trivial⟩ trivial
def Ik.e (k:Nat):Ent:=⟨1,[(.val true t25)],[(.agg,t26)],λ x=>Ik x⟩
def Ik.d:Fd := { nt:=8,nv:=1,nm:=[0,1],res:=[],cs:=λ k=>[(70,Ar.e k)],mv:=[7],rf:=true }
def Ik.s (k:Nat):CK 92 (Ik.e k):=mS Ik.d k [] Tryz.func92 ⟨Ar.s k,trivial⟩ trivial
def B1.e (k:Nat):Ent:=⟨1,[(.val true t44)],[(.agg,t47)],λ x=>B1 k x⟩
def Ds.p:LF:=⟨⟨[(2,(.bp 2 0 0)),(3,(.bp 3 0 0)),(3999,(.hd 9)),(4999,(.hd 9))],[(36,t35),(37,(.i .i64)),(38,(.i .i64)),(3000,t47),(4000,t47)]⟩,[((.exit 2),⟨[(2,(.bp 2 0 0)),(3,(.bp 3 0 0)),(3999,(.hd 9)),(4999,(.hd 9))],[(3000,t47),(4000,t47)]⟩)],λ k x=>Ds k x.1 x.2.1 x.2.2.1 x.2.2.2.1 x.2.2.2.2⟩
def Dt.p:LF:=⟨⟨[(1,(.bp 1 0 0)),(2,(.bp 2 0 0)),(3,(.bp 3 0 0)),(2999,(.hd 9)),(3999,(.hd 9)),(4999,(.hd 9))],[(21,t41),(22,(.i .i64)),(23,(.i .i64)),(2000,t44),(3000,t47),(4000,t47)]⟩,[((.exit 0),⟨[(1,(.bp 1 0 0)),(2,(.bp 2 0 0)),(3,(.bp 3 0 0)),(2999,(.hd 9)),(3999,(.hd 9)),(4999,(.hd 9))],[(2000,t44),(3000,t47),(4000,t47)]⟩)],λ k x=>Dt k x.1 x.2.1 x.2.2.1 x.2.2.2.1 x.2.2.2.2.1 x.2.2.2.2.2⟩
def B1.d:Fd := { nt:=54,nv:=1,nm:=[0,1,3,4,5,6,7],res:=[],cs:=λ k=>[(90,Dg.e k),(91,Ce.e k),(92,Ik.e k)],ls:=[(8,Ds.p),(3,Dt.p)],mv:=[53],rf:=true }
def B1.a (k:Nat):AC (B1.d.cs k):=⟨Dg.s k,Ce.s k,Ik.s k,trivial⟩
def Ds.s:LL Tryz.f40 B1.d 8 Ds.p:=mL [] B1.a trivial
def Dt.s:LL Tryz.f40 B1.d 3 Dt.p:=mL [] B1.a trivial
def B1.s (k:Nat):CK 40 (B1.e k):=mS B1.d k [3,8] Tryz.func40 (B1.a k) ⟨Dt.s,Ds.s,trivial⟩
def Fg.e (k:Nat):Ent:=⟨2,[(.val true t27),(.val false .s)],[(.one,t5),(.one,.b)],λ x=>Fg k x.1 x.2⟩
def Fg.d:Fd := { nt:=20,nv:=2,nm:=[0,1,2,3,6],res:=[4,5],cs:=λ k=>[(70,Ar.e k),(174,Jy.e k)] }
def Fg.s (k:Nat):CK 117 (Fg.e k):=mS Fg.d k [] Tryz.func117 ⟨Ar.s k,Jy.s k,trivial⟩ trivial
def I5.e (k:Nat):Ent:=⟨2,[(.val true t27),(.val false .s)],[(.agg,t25),(.one,(.i .i64))],λ x=>I5 k x.1 x.2⟩
def I5.d:Fd := { nt:=28,nv:=2,nm:=[0,1,2,3,6,7,8,9],res:=[5],cs:=λ k=>[(109,Bo.e k),(117,Fg.e k)] }
def I5.s (k:Nat):CK 60 (I5.e k):=mS I5.d k [] Tryz.func60 ⟨Bo.s k,Fg.s k,trivial⟩ trivial
def Hs.e (k:Nat):Ent:=⟨2,[(.val false t0),(.val false .s)],[(.one,t0)],λ x=>Hs k x.1 x.2⟩
def Eu.p:LF:=⟨⟨[],[(0,t0),(1,.s),(5,(.i .i64))]⟩,[((.exit 0),⟨[],[(0,t0),(1,.s),(5,(.i .i64))]⟩)],λ k x=>Eu k x.1 x.2.1 x.2.2⟩
def Hs.d:Fd := { nt:=44,nv:=2,nm:=[0,1,2,3,5],res:=[4],ls:=[(2,Eu.p)] }
def Eu.s:LL Tryz.f141 Hs.d 2 Eu.p:=mL [] (λ _=>trivial) trivial
def Hs.s (k:Nat):CK 141 (Hs.e k):=mS Hs.d k [2] Tryz.func141 trivial ⟨Eu.s,trivial⟩
def I6.e (k:Nat):Ent:=⟨1,[(.val true t27)],[(.one,t0)],λ x=>I6 k x⟩
def J1.p:LF:=⟨⟨[(1,(.bp 1 0 0)),(2999,(.hd 2))],[(3,t0),(9,t13),(10,(.i .i64)),(11,(.i .i64)),(2000,t27)]⟩,[((.exit 0),⟨[],[(3,t0)]⟩)],λ k x=>J1 k x.1 x.2.1 x.2.2.1 x.2.2.2.1 x.2.2.2.2⟩
def I6.d:Fd := { nt:=30,nv:=1,nm:=[0,1,3,4,5,6,7],res:=[2],cs:=λ k=>[(60,I5.e k),(141,Hs.e k)],ls:=[(3,J1.p)],rf:=true }
def I6.a (k:Nat):AC (I6.d.cs k):=⟨I5.s k,Hs.s k,trivial⟩
def J1.s:LL Tryz.f80 I6.d 3 J1.p:=mL [] I6.a trivial
def I6.s (k:Nat):CK 80 (I6.e k):=mS I6.d k [3] Tryz.func80 (I6.a k) ⟨J1.s,trivial⟩
def Ht.e (k:Nat):Ent:=⟨0,[],[(.one,t7)],λ _=>Ht k⟩
def Ev.p:LF:=⟨⟨[],[(1,t7),(2,(.i .i64))]⟩,[((.exit 0),⟨[],[(1,t7)]⟩)],λ k x=>Ev k x.1 x.2⟩
def Ht.d:Fd := { nt:=9,nv:=0,nm:=[1],res:=[0],ls:=[(3,Ev.p)],rf:=true }
def Ev.s:LL Tryz.f132 Ht.d 3 Ev.p:=mL [] (λ _=>trivial) trivial
def Ht.s (k:Nat):CK 132 (Ht.e k):=mS Ht.d k [3] Tryz.func132 trivial ⟨Ev.s,trivial⟩
def Hj.e (k:Nat):Ent:=⟨2,[(.val false t13),(.val false .s)],[(.one,t13)],λ x=>Hj k x.1 x.2⟩
def Hj.d:Fd := { nt:=21,nv:=2,nm:=[0,1,2,3,5],res:=[4],cs:=λ k=>[(174,Jy.e k)] }
def Hj.s (k:Nat):CK 231 (Hj.e k):=mS Hj.d k [] Tryz.func231 ⟨Jy.s k,trivial⟩ trivial
def Ix.e (k:Nat):Ent:=⟨1,[(.val true t27)],[(.agg,t27),(.one,(.i .i64))],λ x=>Ix k x⟩
def Hu.p:LF:=⟨⟨[(2,(.bp 2 0 0)),(4,(.bp 4 0 0)),(3999,(.hd 2)),(5999,(.hd 2))],[(5,(.i .i64)),(17,t13),(18,(.i .i64)),(19,(.i .i64)),(3000,t29),(5000,t27)]⟩,[((.exit 0),⟨[(2,(.bp 2 0 0)),(4,(.bp 4 0 0)),(3999,(.hd 2)),(5999,(.hd 2))],[(5,(.i .i64)),(3000,t29),(5000,t27)]⟩)],λ k x=>Hu k x.1 x.2.1 x.2.2.1 x.2.2.2.1 x.2.2.2.2.1 x.2.2.2.2.2⟩
def Ix.d:Fd := { nt:=48,nv:=1,nm:=[0,1,4,5,6,7,8,9],res:=[3],cs:=λ k=>[(105,Bn.e k),(109,Bo.e k),(155,A5.e k),(231,Hj.e k)],ls:=[(6,Hu.p)],mv:=[15],rf:=true }
def Ix.a (k:Nat):AC (Ix.d.cs k):=⟨Bn.s k,Bo.s k,A5.s k,Hj.s k,trivial⟩
def Hu.s:LL Tryz.f186 Ix.d 6 Hu.p:=mL [] Ix.a trivial
def Ix.s (k:Nat):CK 186 (Ix.e k):=mS Ix.d k [6] Tryz.func186 (Ix.a k) ⟨Hu.s,trivial⟩
def Hk.e (k:Nat):Ent:=⟨1,[(.val true t38)],[(.agg,t40),(.one,(.i .i64))],λ x=>Hk k x⟩
def Hk.d:Fd := { nt:=19,nv:=1,nm:=[0,1,4,5,6],res:=[3],cs:=λ k=>[(91,Ce.e k),(186,Ix.e k)],mv:=[17],rf:=true }
def Hk.s (k:Nat):CK 133 (Hk.e k):=mS Hk.d k [] Tryz.func133 ⟨Ce.s k,Ix.s k,trivial⟩ trivial
def Gx.e (k:Nat):Ent:=⟨2,[(.val false t6),(.val false (.i .i64))],[(.one,(.i .i64))],λ x=>Gx x.1 x.2⟩
def Gx.d:Fd := { nt:=20,nv:=2,nm:=[0,1,2,3],res:=[4],cs:=λ k=>[(74,Ed.e k)],rf:=true }
def Gx.s (k:Nat):CK 66 (Gx.e k):=mS Gx.d k [] Tryz.func66 ⟨Ed.s k,trivial⟩ trivial
def F9.e (k:Nat):Ent:=⟨2,[(.val true t44),(.val false t6)],[(.one,t7)],λ x=>F9 k x.1 x.2⟩
def Du.p:LF:=⟨⟨[(2,(.bp 2 0 0)),(3999,(.hd 9))],[(5,t7),(7,(.i .i64)),(10,t6),(11,(.i .i64)),(12,(.i .i64)),(17,t41),(18,(.i .i64)),(19,(.i .i64)),(3000,t44)]⟩,[((.exit 2),⟨[(2,(.bp 2 0 0)),(3999,(.hd 9))],[(5,t7),(10,t6),(11,(.i .i64)),(12,(.i .i64)),(3000,t44)]⟩)],λ k x=>Du k x.1 x.2.1 x.2.2.1 x.2.2.2.1 x.2.2.2.2.1 x.2.2.2.2.2.1 x.2.2.2.2.2.2.1 x.2.2.2.2.2.2.2.1 x.2.2.2.2.2.2.2.2⟩
def G4.p:LF:=⟨⟨[(2,(.bp 2 0 0)),(3999,(.hd 9))],[(5,t7),(10,t6),(11,(.i .i64)),(12,(.i .i64)),(3000,t44)]⟩,[((.exit 0),⟨[],[(5,t7)]⟩)],λ k x=>G4 k x.1 x.2.1 x.2.2.1 x.2.2.2.1 x.2.2.2.2⟩
def F9.d:Fd := { nt:=35,nv:=2,nm:=[0,1,2,3,5,6,7,8,9],res:=[4],ls:=[(6,Du.p),(3,G4.p)],rf:=true }
def Du.s:LL Tryz.f122 F9.d 6 Du.p:=mL [] (λ _=>trivial) trivial
def G4.s:LL Tryz.f122 F9.d 3 G4.p:=mL [6] (λ _=>trivial) ⟨Du.s,trivial⟩
def F9.s (k:Nat):CK 122 (F9.e k):=mS F9.d k [3] Tryz.func122 trivial ⟨G4.s,trivial⟩
def Lz.e (k:Nat):Ent:=⟨1,[(.val false .s)],[(.one,(.i .i64))],λ x=>Lz k x⟩
def Jm.p:LF:=⟨⟨[],[(0,.s),(3,(.i .u32)),(4,(.i .i64))]⟩,[((.exit 0),⟨[],[(3,(.i .u32))]⟩)],λ k x=>Jm k x.1 x.2.1 x.2.2⟩
def Lz.d:Fd := { nt:=20,nv:=1,nm:=[0,1,3,4],res:=[2],ls:=[(3,Jm.p)],rf:=true }
def Jm.s:LL Tryz.f227 Lz.d 3 Jm.p:=mL [] (λ _=>trivial) trivial
def Lz.s (k:Nat):CK 227 (Lz.e k):=mS Lz.d k [3] Tryz.func227 trivial ⟨Jm.s,trivial⟩
def L8.e (k:Nat):Ent:=⟨2,[(.val false .s),(.val false (.i .i64))],[(.one,(.i .i64))],λ x=>L8 k x.1 x.2⟩
def L8.d:Fd := { nt:=11,nv:=2,nm:=[0,1,2,3],res:=[4],cs:=λ k=>[(227,Lz.e k)],rf:=true }
def L8.s (k:Nat):CK 180 (L8.e k):=mS L8.d k [] Tryz.func180 ⟨Lz.s k,trivial⟩ trivial
def C1.e (k:Nat):Ent:=⟨2,[(.val true t17),(.val false .s)],[(.one,t7)],λ x=>C1 k x.1 x.2⟩
def C1.d:Fd := { nt:=20,nv:=2,nm:=[0,1,2,3],res:=[4],cs:=λ k=>[(154,Ff.e k),(180,L8.e k)],rf:=true }
def C1.s (k:Nat):CK 123 (C1.e k):=mS C1.d k [] Tryz.func123 ⟨Ff.s k,L8.s k,trivial⟩ trivial
def Jq.e (k:Nat):Ent:=⟨2,[(.val true t25),(.val true t25)],[(.one,.b)],λ x=>Jq x.1 x.2⟩
def Jq.d:Fd := { nt:=10,nv:=2,nm:=[0,1,2,3],res:=[4],cs:=λ k=>[(14,Aq.e k)] }
def Jq.s (k:Nat):CK 61 (Jq.e k):=mS Jq.d k [] Tryz.func61 ⟨Aq.s k,trivial⟩ trivial
def Lv.e (k:Nat):Ent:=⟨2,[(.val false t13),(.val true t11)],[(.one,t14)],λ x=>Lv k x.1 x.2⟩
def Kk.p:LF:=⟨⟨[(3,(.bp 3 0 0)),(4999,(.hd 2))],[(0,t13),(5,(.i .i64)),(4000,.s),(4001,t4)]⟩,[((.exit 0),⟨[(3,(.bp 3 0 0)),(4999,(.hd 2))],[(0,t13),(5,(.i .i64)),(4000,.s),(4001,t4)]⟩)],λ k x=>Kk k x.1 x.2.1 x.2.2.1 x.2.2.2⟩
def Lv.d:Fd := { nt:=33,nv:=2,nm:=[0,1,2,3,5],res:=[4],ls:=[(2,Kk.p)] }
def Kk.s:LL Tryz.f232 Lv.d 2 Kk.p:=mL [] (λ _=>trivial) trivial
def Lv.s (k:Nat):CK 232 (Lv.e k):=mS Lv.d k [2] Tryz.func232 trivial ⟨Kk.s,trivial⟩
def Bz.e (k:Nat):Ent:=⟨2,[(.val true t27),(.val false .s)],[(.agg,(.pr t14 t13)),(.one,.b)],λ x=>Bz k x.1 x.2⟩
def Bz.d:Fd := { nt:=50,nv:=2,nm:=[0,1,2,3,6,7],res:=[5],cs:=λ k=>[(48,An.e k),(70,Ar.e k),(105,Bn.e k),(155,A5.e k),(174,Jy.e k),(231,Hj.e k),(232,Lv.e k)],mv:=[18,49] }
def Bz.s (k:Nat):CK 188 (Bz.e k):=mS Bz.d k [] Tryz.func188 ⟨An.s k,Ar.s k,Bn.s k,A5.s k,Jy.s k,Hj.s k,Lv.s k,trivial⟩ trivial
def E4.e (k:Nat):Ent:=⟨3,[(.val true t27),(.val false .s),(.val false t4)],[(.agg,t29),(.one,.b)],λ x=>E4 k x.1 x.2.1 x.2.2⟩
def E4.d:Fd := { nt:=42,nv:=3,nm:=[0,1,2,3,4,5,8],res:=[7],cs:=λ k=>[(48,An.e k),(70,Ar.e k),(105,Bn.e k),(155,A5.e k),(231,Hj.e k),(232,Lv.e k)],mv:=[24,41] }
def E4.s (k:Nat):CK 229 (E4.e k):=mS E4.d k [] Tryz.func229 ⟨An.s k,Ar.s k,Bn.s k,A5.s k,Hj.s k,Lv.s k,trivial⟩ trivial
def Md.e (k:Nat):Ent:=⟨4,[(.val true t27),(.val false .s),(.val true t25),(.val false .b)],[(.agg,t27),(.one,(.i .i64))],λ x=>Md k x.1 x.2.1 x.2.2.1 x.2.2.2⟩
def Md.d:Fd := { nt:=82,nv:=4,nm:=[0,1,2,3,4,5,6,7,10,11,12,13,14,15,16,17,18,19],res:=[9],cs:=λ k=>[(48,An.e k),(61,Jq.e k),(103,Fn.e k),(105,Bn.e k),(109,Bo.e k),(117,Fg.e k),(155,A5.e k),(173,F4.e k),(188,Bz.e k),(229,E4.e k)],mv:=[80] }
def Md.s (k:Nat):CK 183 (Md.e k):=mS Md.d k [] Tryz.func183 ⟨An.s k,Jq.s k,Fn.s k,Bn.s k,Bo.s k,Fg.s k,A5.s k,F4.s k,Bz.s k,E4.s k,trivial⟩ trivial
def Ew.e (k:Nat):Ent:=⟨2,[(.val true t27),(.val false .s)],[(.agg,(.pr t13 t14)),(.one,.b)],λ x=>Ew k x.1 x.2⟩
def Ew.d:Fd := { nt:=26,nv:=2,nm:=[0,1,2,3,6],res:=[5],cs:=λ k=>[(105,Bn.e k),(155,A5.e k),(174,Jy.e k),(231,Hj.e k)],mv:=[19,25] }
def Ew.s (k:Nat):CK 187 (Ew.e k):=mS Ew.d k [] Tryz.func187 ⟨Bn.s k,A5.s k,Jy.s k,Hj.s k,trivial⟩ trivial
def Ah.e (k:Nat):Ent:=⟨4,[(.ptr t45 t45),(.val false (.i .i64)),(.val false .s),(.val false t6)],[(.one,.b)],λ x=>Ah k x.1 x.2.1 x.2.2.1 x.2.2.2⟩
def Af.p:LF:=⟨⟨[(0,(.bp 0 0 0)),(9,(.bp 9 0 0)),(1999,(.hd 9)),(10999,(.hd 5))],[(1,(.i .i64)),(2,.s),(3,t6),(11,.b),(12,.b),(43,t7),(44,(.i .i64)),(45,(.i .i64)),(1000,t45),(10000,t25)]⟩,[((.exit 0),⟨[(0,(.bp 0 0 0)),(1999,(.hd 9))],[(1,(.i .i64)),(2,.s),(11,.b),(12,.b),(1000,t45)]⟩)],λ k x=>Af k x.1 x.2.1 x.2.2.1 x.2.2.2.1 x.2.2.2.2.1 x.2.2.2.2.2.1 x.2.2.2.2.2.2.1 x.2.2.2.2.2.2.2.1 x.2.2.2.2.2.2.2.2.1 x.2.2.2.2.2.2.2.2.2⟩
def Ah.d:Fd := { nt:=120,nv:=4,nm:=[0,1,2,3,4,5,6,7,9,10,11,12,13,14,15,16,17,18],res:=[8],cs:=λ k=>[(60,I5.e k),(66,Gx.e k),(122,F9.e k),(123,C1.e k),(183,Md.e k),(187,Ew.e k),(188,Bz.e k)],ls:=[(6,Af.p)],rf:=true }
def Ah.a (k:Nat):AC (Ah.d.cs k):=⟨I5.s k,Gx.s k,F9.s k,C1.s k,Md.s k,Ew.s k,Bz.s k,trivial⟩
def Af.s:LL Tryz.f134 Ah.d 6 Af.p:=mL [] Ah.a trivial
def Ah.s (k:Nat):CK 134 (Ah.e k):=mS Ah.d k [6] Tryz.func134 (Ah.a k) ⟨Af.s,trivial⟩
def E9.e (k:Nat):Ent:=⟨1,[(.val true t44)],[(.one,t7)],λ x=>E9 k x⟩
def E9.d:Fd := { nt:=8,nv:=1,nm:=[0,1],res:=[2],cs:=λ k=>[(122,F9.e k),(123,C1.e k)],rf:=true }
def E9.s (k:Nat):CK 65 (E9.e k):=mS E9.d k [] Tryz.func65 ⟨F9.s k,C1.s k,trivial⟩ trivial
def Il.e (k:Nat):Ent:=⟨2,[(.val true t28),(.val true t28)],[(.one,.b)],λ x=>Il x.1 x.2⟩
def Il.d:Fd := { nt:=29,nv:=2,nm:=[0,1,2,3],res:=[4],cs:=λ k=>[(14,Aq.e k)] }
def Il.s (k:Nat):CK 181 (Il.e k):=mS Il.d k [] Tryz.func181 ⟨Aq.s k,trivial⟩ trivial
def Cf.e (k:Nat):Ent:=⟨2,[(.val false t31),(.val true t28)],[(.one,t32)],λ x=>Cf k x.1 x.2⟩
def Dv.p:LF:=⟨⟨[(3,(.bp 3 0 0)),(4999,(.hd 6))],[(0,t31),(8,(.i .i64)),(4000,.s),(4001,(.i .i64)),(4002,(.i .i64)),(4003,(.i .i64)),(4004,.b),(4005,(.i .i64))]⟩,[((.exit 2),⟨[(3,(.bp 3 0 0)),(4999,(.hd 6))],[(0,t31),(8,(.i .i64)),(4000,.s),(4001,(.i .i64)),(4002,(.i .i64)),(4003,(.i .i64)),(4004,.b),(4005,(.i .i64))]⟩)],λ k x=>Dv k x.1 x.2.1 x.2.2.1 x.2.2.2.1 x.2.2.2.2.1 x.2.2.2.2.2.1 x.2.2.2.2.2.2.1 x.2.2.2.2.2.2.2⟩
def Ey.p:LF:=⟨⟨[(3,(.bp 3 0 0)),(4999,(.hd 6))],[(0,t31),(5,t32),(11,t31),(12,(.i .i64)),(13,(.i .i64)),(4000,.s),(4001,(.i .i64)),(4002,(.i .i64)),(4003,(.i .i64)),(4004,.b),(4005,(.i .i64))]⟩,[(.ret,⟨[],[(4,t32)]⟩),((.exit 0),⟨[(3,(.bp 3 0 0)),(4999,(.hd 6))],[(0,t31),(4000,.s),(4001,(.i .i64)),(4002,(.i .i64)),(4003,(.i .i64)),(4004,.b),(4005,(.i .i64))]⟩)],λ k x=>Ey k x.1 x.2.1 x.2.2.1 x.2.2.2.1 x.2.2.2.2.1 x.2.2.2.2.2.1 x.2.2.2.2.2.2.1 x.2.2.2.2.2.2.2.1 x.2.2.2.2.2.2.2.2.1 x.2.2.2.2.2.2.2.2.2.1 x.2.2.2.2.2.2.2.2.2.2⟩
def Cf.d:Fd := { nt:=60,nv:=2,nm:=[0,1,2,3,5,6,7,8],res:=[4],cs:=λ k=>[(111,Ae.e k),(181,Il.e k)],ls:=[(11,Dv.p),(3,Ey.p)] }
def Cf.a (k:Nat):AC (Cf.d.cs k):=⟨Ae.s k,Il.s k,trivial⟩
def Dv.s:LL Tryz.f124 Cf.d 11 Dv.p:=mL [] Cf.a trivial
def Ey.s:LL Tryz.f124 Cf.d 3 Ey.p:=mL [] Cf.a trivial
def Cf.s (k:Nat):CK 124 (Cf.e k):=mS Cf.d k [3,11] Tryz.func124 (Cf.a k) ⟨Ey.s,Dv.s,trivial⟩
def Cm.e (k:Nat):Ent:=⟨2,[(.val false t31),(.val false t31)],[(.one,t32)],λ x=>Cm k x.1 x.2⟩
def Dw.p:LF:=⟨⟨[],[(5,t32),(10,t31),(11,(.i .i64)),(12,(.i .i64))]⟩,[((.exit 0),⟨[],[(5,t32)]⟩)],λ k x=>Dw k x.1 x.2.1 x.2.2.1 x.2.2.2⟩
def Cm.d:Fd := { nt:=21,nv:=2,nm:=[0,1,2,3,5,6,7],res:=[4],cs:=λ k=>[(111,Ae.e k),(124,Cf.e k)],ls:=[(3,Dw.p)] }
def Cm.a (k:Nat):AC (Cm.d.cs k):=⟨Ae.s k,Cf.s k,trivial⟩
def Dw.s:LL Tryz.f67 Cm.d 3 Dw.p:=mL [] Cm.a trivial
def Cm.s (k:Nat):CK 67 (Cm.e k):=mS Cm.d k [3] Tryz.func67 (Cm.a k) ⟨Dw.s,trivial⟩
def Im.e (k:Nat):Ent:=⟨2,[(.val true t38),(.val false t31)],[(.agg,t39),(.one,.b)],λ x=>Im k x.1 x.2⟩
def Im.d:Fd := { nt:=30,nv:=2,nm:=[0,1,2,3,6],res:=[5],cs:=λ k=>[(47,Eb.e k),(67,Cm.e k),(91,Ce.e k),(106,Ea.e k)],mv:=[17,29] }
def Im.s (k:Nat):CK 233 (Im.e k):=mS Im.d k [] Tryz.func233 ⟨Eb.s k,Cm.s k,Ce.s k,Ea.s k,trivial⟩ trivial
def Ao.e (k:Nat):Ent:=⟨4,[(.ptr t45 t45),(.val false t31),(.val false t6),(.val false (.i .i64))],[(.one,.b)],λ x=>Ao k x.1 x.2.1 x.2.2.1 x.2.2.2⟩
def Ax.p:LF:=⟨⟨[(0,(.bp 0 0 0)),(1999,(.hd 9))],[(1,t31),(2,t6),(3,(.i .i64)),(9,.b),(17,t7),(18,(.i .i64)),(19,(.i .i64)),(1000,t45)]⟩,[((.exit 0),⟨[(1999,(.hd 9))],[(9,.b),(1000,t45)]⟩)],λ k x=>Ax k x.1 x.2.1 x.2.2.1 x.2.2.2.1 x.2.2.2.2.1 x.2.2.2.2.2.1 x.2.2.2.2.2.2.1 x.2.2.2.2.2.2.2⟩
def Ao.d:Fd := { nt:=56,nv:=4,nm:=[0,1,2,3,4,5,6,7,9,10,11,12,13],res:=[8],cs:=λ k=>[(65,E9.e k),(66,Gx.e k),(233,Im.e k)],ls:=[(3,Ax.p)],rf:=true }
def Ao.a (k:Nat):AC (Ao.d.cs k):=⟨E9.s k,Gx.s k,Im.s k,trivial⟩
def Ax.s:LL Tryz.f189 Ao.d 3 Ax.p:=mL [] Ao.a trivial
def Ao.s (k:Nat):CK 189 (Ao.e k):=mS Ao.d k [3] Tryz.func189 (Ao.a k) ⟨Ax.s,trivial⟩
def Bu.e (k:Nat):Ent:=⟨3,[(.ptr t45 t45),(.val false (.i .i64)),(.val false t6)],[(.one,.b)],λ x=>Bu k x.1 x.2.1 x.2.2⟩
def Bu.d:Fd := { nt:=47,nv:=3,nm:=[0,1,2,3,4,5],res:=[6],cs:=λ k=>[(111,Ae.e k),(189,Ao.e k)],rf:=true }
def Bu.s (k:Nat):CK 135 (Bu.e k):=mS Bu.d k [] Tryz.func135 ⟨Ae.s k,Ao.s k,trivial⟩ trivial
def Bq.e (k:Nat):Ent:=⟨3,[(.ptr t45 t45),(.val false (.i .i64)),(.val false t6)],[(.one,.b)],λ x=>Bq k x.1 x.2.1 x.2.2⟩
def Bq.d:Fd := { nt:=43,nv:=3,nm:=[0,1,2,3,4,5,7,8],res:=[6],cs:=λ k=>[(65,E9.e k),(111,Ae.e k),(145,D5.e k),(189,Ao.e k)],rf:=true }
def Bq.s (k:Nat):CK 136 (Bq.e k):=mS Bq.d k [] Tryz.func136 ⟨E9.s k,Ae.s k,D5.s k,Ao.s k,trivial⟩ trivial
def Ad.e (k:Nat):Ent:=⟨1,[(.ptr t45 t45)],[],λ x=>Ad k x⟩
def Be.p:LF:=⟨⟨[(0,(.bp 0 0 0)),(1999,(.hd 9))],[(2,t6),(3,(.i .i64)),(11,(.i .i64)),(12,(.i .i64)),(60,(.i .i64)),(61,(.i .i64)),(1000,t45)]⟩,[((.exit 4),⟨[(0,(.bp 0 0 0)),(1999,(.hd 9))],[(2,t6),(3,(.i .i64)),(11,(.i .i64)),(12,(.i .i64)),(1000,t45)]⟩)],λ k x=>Be k x.1 x.2.1 x.2.2.1 x.2.2.2.1 x.2.2.2.2.1 x.2.2.2.2.2.1 x.2.2.2.2.2.2⟩
def B7.p:LF:=⟨⟨[(0,(.bp 0 0 0)),(1999,(.hd 9))],[(2,t6),(3,(.i .i64)),(11,(.i .i64)),(12,(.i .i64)),(40,t0),(41,(.i .i64)),(42,(.i .i64)),(1000,t45)]⟩,[((.exit 2),⟨[(0,(.bp 0 0 0)),(1999,(.hd 9))],[(2,t6),(3,(.i .i64)),(11,(.i .i64)),(12,(.i .i64)),(1000,t45)]⟩)],λ k x=>B7 k x.1 x.2.1 x.2.2.1 x.2.2.2.1 x.2.2.2.2.1 x.2.2.2.2.2.1 x.2.2.2.2.2.2.1 x.2.2.2.2.2.2.2⟩
def Br.p:LF:=⟨⟨[(0,(.bp 0 0 0)),(1999,(.hd 9))],[(2,t6),(11,(.i .i64)),(12,(.i .i64)),(1000,t45)]⟩,[((.exit 0),⟨[(1999,(.hd 9))],[(1000,t45)]⟩)],λ k x=>Br k x.1 x.2.1 x.2.2.1 x.2.2.2⟩
def Ad.d:Fd := { nt:=73,nv:=1,nm:=[0,1,2,3,4,5],res:=[],cs:=λ k=>[(80,I6.e k),(132,Ht.e k),(133,Hk.e k),(134,Ah.e k),(135,Bu.e k),(136,Bq.e k)],ls:=[(11,Be.p),(6,B7.p),(2,Br.p)],rf:=true }
def Ad.a (k:Nat):AC (Ad.d.cs k):=⟨I6.s k,Ht.s k,Hk.s k,Ah.s k,Bu.s k,Bq.s k,trivial⟩
def Be.s:LL Tryz.f73 Ad.d 11 Be.p:=mL [] Ad.a trivial
def B7.s:LL Tryz.f73 Ad.d 6 B7.p:=mL [] Ad.a trivial
def Br.s:LL Tryz.f73 Ad.d 2 Br.p:=mL [6,11] Ad.a ⟨B7.s,Be.s,trivial⟩
def Ad.s (k:Nat):CK 73 (Ad.e k):=mS Ad.d k [2] Tryz.func73 (Ad.a k) ⟨Br.s,trivial⟩
def Lj.e (k:Nat):Ent:=⟨1,[(.val true t44)],[(.agg,t45)],λ x=>Lj k x⟩
def Lj.d:Fd := { nt:=10,nv:=1,nm:=[0,1,3],res:=[],cs:=λ k=>[(13,Bg.e k),(40,B1.e k),(73,Ad.e k)],mv:=[9],rf:=true }
def Lj.s (k:Nat):CK 30 (Lj.e k):=mS Lj.d k [] Tryz.func30 ⟨Bg.s k,B1.s k,Ad.s k,trivial⟩ trivial
def Gr.e (k:Nat):Ent:=⟨2,[(.val true t44),(.val false (.i .i64))],[(.agg,t45)],λ x=>Gr k x.1 x.2⟩
def Hl.p:LF:=⟨⟨[(4,(.bp 4 0 0)),(5,(.bp 5 0 0)),(5999,(.hd 9)),(6999,(.hd 9))],[(14,(.i .i64)),(15,(.i .i64)),(5000,t47),(6000,t45)]⟩,[((.exit 0),⟨[(4,(.bp 4 0 0)),(5,(.bp 5 0 0)),(5999,(.hd 9)),(6999,(.hd 9))],[(5000,t47),(6000,t45)]⟩)],λ k x=>Hl k x.1 x.2.1 x.2.2.1 x.2.2.2⟩
def Gr.d:Fd := { nt:=20,nv:=2,nm:=[0,1,2,3,5],res:=[],cs:=λ k=>[(13,Bg.e k),(40,B1.e k),(73,Ad.e k),(74,Ed.e k)],ls:=[(4,Hl.p)],mv:=[19],rf:=true }
def Gr.a (k:Nat):AC (Gr.d.cs k):=⟨Bg.s k,B1.s k,Ad.s k,Ed.s k,trivial⟩
def Hl.s:LL Tryz.f31 Gr.d 4 Hl.p:=mL [] Gr.a trivial
def Gr.s (k:Nat):CK 31 (Gr.e k):=mS Gr.d k [4] Tryz.func31 (Gr.a k) ⟨Hl.s,trivial⟩
def Dh.e (k:Nat):Ent:=⟨2,[(.val true t44),(.val false .s)],[(.agg,t25),(.one,.b)],λ x=>Dh k x.1 x.2⟩
def C7.p:LF:=⟨⟨[(4,(.bp 4 0 0)),(6,(.bp 6 0 0)),(5999,(.hd 5)),(7999,(.hd 5))],[(1,.s),(7,.b),(13,t41),(14,(.i .i64)),(15,(.i .i64)),(5000,t26),(7000,t25)]⟩,[((.exit 0),⟨[(4,(.bp 4 0 0)),(6,(.bp 6 0 0)),(5999,(.hd 5)),(7999,(.hd 5))],[(7,.b),(5000,t26),(7000,t25)]⟩)],λ k x=>C7 k x.1 x.2.1 x.2.2.1 x.2.2.2.1 x.2.2.2.2.1 x.2.2.2.2.2.1 x.2.2.2.2.2.2⟩
def Dh.d:Fd := { nt:=41,nv:=2,nm:=[0,1,2,3,6,7,8,9,10,11],res:=[5],cs:=λ k=>[(60,I5.e k),(61,Jq.e k)],ls:=[(4,C7.p)],rf:=true }
def Dh.a (k:Nat):AC (Dh.d.cs k):=⟨I5.s k,Jq.s k,trivial⟩
def C7.s:LL Tryz.f142 Dh.d 4 C7.p:=mL [] Dh.a trivial
def Dh.s (k:Nat):CK 142 (Dh.e k):=mS Dh.d k [4] Tryz.func142 (Dh.a k) ⟨C7.s,trivial⟩
def Hm.e (k:Nat):Ent:=⟨3,[(.val true t17),(.val false .s),(.val false (.i .i64))],[(.one,.b)],λ x=>Hm k x.1 x.2.1 x.2.2⟩
def Hm.d:Fd := { nt:=12,nv:=3,nm:=[0,1,2,3,4,5],res:=[6],cs:=λ k=>[(123,C1.e k),(145,D5.e k)],rf:=true }
def Hm.s (k:Nat):CK 143 (Hm.e k):=mS Hm.d k [] Tryz.func143 ⟨C1.s k,D5.s k,trivial⟩ trivial
def Cn.e (k:Nat):Ent:=⟨2,[(.val true t44),(.val false .s)],[(.one,.b)],λ x=>Cn k x.1 x.2⟩
def Cv.p:LF:=⟨⟨[(2,(.bp 2 0 0)),(5,(.bp 5 0 0)),(3999,(.hd 9)),(6999,(.hd 5))],[(1,.s),(18,t41),(19,(.i .i64)),(20,(.i .i64)),(3000,t44),(6000,t25)]⟩,[(.ret,⟨[],[(4,.b)]⟩),((.exit 0),⟨[],[]⟩)],λ k x=>Cv k x.1 x.2.1 x.2.2.1 x.2.2.2.1 x.2.2.2.2.1 x.2.2.2.2.2⟩
def Cn.d:Fd := { nt:=49,nv:=2,nm:=[0,1,2,3,5,6,7,8,9,10],res:=[4],cs:=λ k=>[(60,I5.e k),(142,Dh.e k),(143,Hm.e k),(144,Fc.e k)],ls:=[(3,Cv.p)],rf:=true }
def Cn.a (k:Nat):AC (Cn.d.cs k):=⟨I5.s k,Dh.s k,Hm.s k,Fc.s k,trivial⟩
def Cv.s:LL Tryz.f81 Cn.d 3 Cv.p:=mL [] Cn.a trivial
def Cn.s (k:Nat):CK 81 (Cn.e k):=mS Cn.d k [3] Tryz.func81 (Cn.a k) ⟨Cv.s,trivial⟩
def Hv.e (k:Nat):Ent:=⟨2,[(.val false t31),(.val false t31)],[(.one,.b)],λ x=>Hv k x.1 x.2⟩
def Ez.p:LF:=⟨⟨[],[(0,t31),(1,t31),(12,(.i .i64)),(13,(.i .i64))]⟩,[(.ret,⟨[],[(4,.b)]⟩),((.exit 0),⟨[],[]⟩)],λ k x=>Ez k x.1 x.2.1 x.2.2.1 x.2.2.2⟩
def Hv.d:Fd := { nt:=26,nv:=2,nm:=[0,1,2,3,5],res:=[4],ls:=[(4,Ez.p)],rf:=true }
def Ez.s:LL Tryz.f146 Hv.d 4 Ez.p:=mL [] (λ _=>trivial) trivial
def Hv.s (k:Nat):CK 146 (Hv.e k):=mS Hv.d k [4] Tryz.func146 trivial ⟨Ez.s,trivial⟩
def Co.e (k:Nat):Ent:=⟨1,[(.val true t44)],[(.one,.b)],λ x=>Co k x⟩
def Cw.p:LF:=⟨⟨[(1,(.bp 1 0 0)),(2999,(.hd 9))],[(3,t7),(9,t41),(10,(.i .i64)),(11,(.i .i64)),(2000,t44)]⟩,[(.ret,⟨[],[(2,.b)]⟩),((.exit 0),⟨[],[]⟩)],λ k x=>Cw k x.1 x.2.1 x.2.2.1 x.2.2.2.1 x.2.2.2.2⟩
def Co.d:Fd := { nt:=41,nv:=1,nm:=[0,1,3,4,5],res:=[2],cs:=λ k=>[(65,E9.e k),(145,D5.e k),(146,Hv.e k)],ls:=[(3,Cw.p)],rf:=true }
def Co.a (k:Nat):AC (Co.d.cs k):=⟨E9.s k,D5.s k,Hv.s k,trivial⟩
def Cw.s:LL Tryz.f82 Co.d 3 Cw.p:=mL [] Co.a trivial
def Co.s (k:Nat):CK 82 (Co.e k):=mS Co.d k [3] Tryz.func82 (Co.a k) ⟨Cw.s,trivial⟩
def Gg.e (k:Nat):Ent:=⟨1,[(.val true t44)],[(.one,.b)],λ x=>Gg k x⟩
def Io.p:LF:=⟨⟨[(1,(.bp 1 0 0)),(2999,(.hd 9))],[(8,t41),(9,(.i .i64)),(10,(.i .i64)),(16,t0),(17,(.i .i64)),(18,(.i .i64)),(2000,t44)]⟩,[(.ret,⟨[],[(2,.b)]⟩),((.exit 2),⟨[(1,(.bp 1 0 0)),(2999,(.hd 9))],[(8,t41),(9,(.i .i64)),(10,(.i .i64)),(2000,t44)]⟩)],λ k x=>Io k x.1 x.2.1 x.2.2.1 x.2.2.2.1 x.2.2.2.2.1 x.2.2.2.2.2.1 x.2.2.2.2.2.2⟩
def Ip.p:LF:=⟨⟨[(1,(.bp 1 0 0)),(2999,(.hd 9))],[(8,t41),(9,(.i .i64)),(10,(.i .i64)),(2000,t44)]⟩,[(.ret,⟨[],[(2,.b)]⟩),((.exit 0),⟨[(1,(.bp 1 0 0)),(2999,(.hd 9))],[(2000,t44)]⟩)],λ k x=>Ip k x.1 x.2.1 x.2.2.1 x.2.2.2⟩
def Gg.d:Fd := { nt:=30,nv:=1,nm:=[0,1,3,4,5,6],res:=[2],cs:=λ k=>[(80,I6.e k),(81,Cn.e k),(82,Co.e k)],ls:=[(5,Io.p),(2,Ip.p)],rf:=true }
def Gg.a (k:Nat):AC (Gg.d.cs k):=⟨I6.s k,Cn.s k,Co.s k,trivial⟩
def Io.s:LL Tryz.f33 Gg.d 5 Io.p:=mL [] Gg.a trivial
def Ip.s:LL Tryz.f33 Gg.d 2 Ip.p:=mL [5] Gg.a ⟨Io.s,trivial⟩
def Gg.s (k:Nat):CK 33 (Gg.e k):=mS Gg.d k [2] Tryz.func33 (Gg.a k) ⟨Ip.s,trivial⟩
def K5.e (k:Nat):Ent:=⟨1,[(.val false t4)],[(.one,.b)],λ x=>K5 k x⟩
def K5.d:Fd := { nt:=32,nv:=1,nm:=[0,1,3,4],res:=[2],cs:=λ k=>[(9,Nz.e k),(20,Mc.e k),(21,Hi.e k),(30,Lj.e k),(31,Gr.e k),(33,Gg.e k)],sh:=true,rf:=true }
def K5.s (k:Nat):CK 8 (K5.e k):=mS K5.d k [] Tryz.func8 ⟨Nz.s k,Mc.s k,Hi.s k,Lj.s k,Gr.s k,Gg.s k,trivial⟩ trivial
end

end Go.Proofs.YtmhhjceoinoekaaGreat.Vf
