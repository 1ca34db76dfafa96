import Derived.Test.YtcgfpppmikhgmaaGreatMab
import Derived.Test.YtcgfpppmikhgmaaGreatMak
import Derived.Test.YtcgfpppmikhgmaaGreatProg
import Derived.KernelRfl
set_option linter.unusedVariables false
set_option linter.unusedSimpArgs false
namespace Go.Proofs.YtcgfpppmikhgmaaGreat.Vf
open Go

section
open Go.Proofs
@[reducible] def t0:Ty := .sl 9 .s
@[reducible] def t1:Ty := .sl 4 .b
@[reducible] def t2:Ty := .ow 9 .s
@[reducible] def t3:Ty := .ow 4 .b
@[reducible] def t4:Ty := .sl 5 (.i .u8)
@[reducible] def t5:Ty := .ow 5 (.i .u8)
@[reducible] def t6:Ty := .sl 3 (.i .i64)
@[reducible] def t7:Ty := .ow 3 (.i .i64)
@[reducible] def t8:Ty := .pr .s (.i .u64)
@[reducible] def t9:Ty := .pr (.i .i64) (.i .i64)
@[reducible] def t10:Ty := .sl 76 t6
@[reducible] def t11:Ty := .pr .s t4
@[reducible] def t12:Ty := .pr .s t5
@[reducible] def t13:Ty := .sl 51 t11
@[reducible] def t14:Ty := .ow 51 t11
@[reducible] def t15:Ty := .ow 51 t12
@[reducible] def t16:Ty := .pr (.i .i64) t9
@[reducible] def t17:Ty := .pr (.i .i64) t10
@[reducible] def t18:Ty := .pr (.i .i64) (.ow 76 t7)
@[reducible] def t19:Ty := .pr (.i .i64) (.ow 76 t6)
@[reducible] def t20:Ty := .pr t4 (.pr (.i .i64) .b)
@[reducible] def t21:Ty := .pr t4 t9
@[reducible] def t22:Ty := .sl 47 t16
@[reducible] def t23:Ty := .ow 47 t16
@[reducible] def t24:Ty := .pr (.i .i64) (.pr (.i .i64) (.pr .b (.i .u8)))
@[reducible] def t25:Ty := .pr t16 (.pr .b t4)
@[reducible] def t26:Ty := .pr t16 (.pr .b t5)
@[reducible] def t27:Ty := .pr t13 t13
@[reducible] def t28:Ty := .pr .s (.pr t16 (.pr .b (.i .i64)))
@[reducible] def t29:Ty := .pr t14 t14
@[reducible] def t30:Ty := .pr t15 t15
@[reducible] def t31:Ty := .sl 59 t28
@[reducible] def t32:Ty := .ow 59 t28
@[reducible] def t33:Ty := .pr .s (.pr t25 .b)
@[reducible] def t34:Ty := .pr (.i .i64) (.pr (.i .i64) (.pr .s (.pr t4 (.pr (.i .i64) t6))))
@[reducible] def t35:Ty := .sl 61 t33
@[reducible] def t36:Ty := .ow 61 t33
@[reducible] def t37:Ty := .pr t16 (.pr t35 t0)
@[reducible] def t38:Ty := .pr t32 t32
@[reducible] def t39:Ty := .pr t31 t32
@[reducible] def t40:Ty := .pr (.i .i64) (.pr t27 (.pr t31 t31))
@[reducible] def t41:Ty := .pr (.i .i64) (.pr t29 t38)
@[reducible] def t42:Ty := .pr (.i .i64) (.pr t27 t38)
@[reducible] def t43:Ty := .pr (.i .i64) (.pr t29 t39)
@[reducible] def t44:Ty := .pr (.i .i64) (.pr t27 t39)
@[reducible] def t45:Ty := .sl 45 t40
@[reducible] def t46:Ty := .ow 45 t40
@[reducible] def t47:Ty := .pr t46 (.pr t16 (.pr t36 t2))
@[reducible] def t48:Ty := .pr t22 (.pr t17 (.pr t45 t37))
@[reducible] def t49:Ty := .pr t23 (.pr t17 t47)
@[reducible] def t50:Ty := .pr t23 (.pr t19 t47)
@[reducible] def t51:Ty := .pr t23 (.pr t17 (.pr t46 (.pr t16 (.pr t36 t0))))
@[reducible] def t52:Ty := .pr t23 (.pr t17 (.pr t46 t37))
def tiL:List (Nat×TI):=[(2,⟨(.i .i64),false,8,[]⟩),
 (3,⟨(.i .i64),false,8,[]⟩),
 (4,⟨.b,false,1,[]⟩),
 (5,⟨(.i .u8),false,1,[]⟩),
 (6,⟨(.i .u8),false,1,[]⟩),
 (7,⟨t24,true,24,[(0,1,false),(1,1,false),(2,1,false),(3,1,false)]⟩),
 (8,⟨t24,true,24,[(0,1,false),(1,1,false),(2,1,false),(3,1,false)]⟩),
 (9,⟨.s,false,16,[]⟩),
 (10,⟨.s,false,16,[]⟩),
 (11,⟨.s,false,16,[]⟩),
 (12,⟨(.i .u64),false,8,[]⟩),
 (13,⟨t8,true,24,[(0,1,false),(1,1,false)]⟩),
 (14,⟨t8,true,24,[(0,1,false),(1,1,false)]⟩),
 (21,⟨(.i .i32),false,4,[]⟩),
 (22,⟨t4,false,24,[]⟩),
 (24,⟨t22,false,24,[]⟩),
 (25,⟨t10,false,24,[]⟩),
 (26,⟨t17,true,32,[(0,1,false),(1,1,false)]⟩),
 (27,⟨t17,true,32,[(0,1,false),(1,1,false)]⟩),
 (28,⟨t45,false,24,[]⟩),
 (29,⟨t16,true,24,[(0,1,false),(1,1,false),(2,1,false)]⟩),
 (30,⟨t16,true,24,[(0,1,false),(1,1,false),(2,1,false)]⟩),
 (31,⟨t35,false,24,[]⟩),
 (32,⟨t0,false,24,[]⟩),
 (33,⟨t48,true,152,[(0,1,false),(1,2,true),(3,1,false),(4,3,true),(7,1,false),(8,1,false)]⟩),
 (34,⟨t48,true,152,[(0,1,false),(1,2,true),(3,1,false),(4,3,true),(7,1,false),(8,1,false)]⟩),
 (40,⟨t13,false,24,[]⟩),
 (41,⟨t27,true,48,[(0,1,false),(1,1,false)]⟩),
 (42,⟨t27,true,48,[(0,1,false),(1,1,false)]⟩),
 (43,⟨t31,false,24,[]⟩),
 (44,⟨t40,true,104,[(0,1,false),(1,2,true),(3,1,false),(4,1,false)]⟩),
 (45,⟨t40,true,104,[(0,1,false),(1,2,true),(3,1,false),(4,1,false)]⟩),
 (46,⟨t16,true,24,[(0,1,false),(1,1,false),(2,1,false)]⟩),
 (47,⟨t16,true,24,[(0,1,false),(1,1,false),(2,1,false)]⟩),
 (50,⟨t11,true,40,[(0,1,false),(1,1,false)]⟩),
 (51,⟨t11,true,40,[(0,1,false),(1,1,false)]⟩),
 (52,⟨t25,true,56,[(0,3,true),(3,1,false),(4,1,false)]⟩),
 (53,⟨t25,true,56,[(0,3,true),(3,1,false),(4,1,false)]⟩),
 (58,⟨t28,true,56,[(0,1,false),(1,3,true),(4,1,false),(5,1,false)]⟩),
 (59,⟨t28,true,56,[(0,1,false),(1,3,true),(4,1,false),(5,1,false)]⟩),
 (60,⟨t33,true,80,[(0,1,false),(1,5,true),(6,1,false)]⟩),
 (61,⟨t33,true,80,[(0,1,false),(1,5,true),(6,1,false)]⟩),
 (74,⟨t6,false,24,[]⟩),
 (75,⟨t6,true,24,[(0,1,false)]⟩),
 (76,⟨t6,true,24,[(0,1,false)]⟩),
 (85,⟨t20,true,40,[(0,1,false),(1,1,false),(2,1,false)]⟩),
 (86,⟨t20,true,40,[(0,1,false),(1,1,false),(2,1,false)]⟩),
 (96,⟨t21,true,40,[(0,1,false),(1,1,false),(2,1,false)]⟩),
 (97,⟨t21,true,40,[(0,1,false),(1,1,false),(2,1,false)]⟩),
 (101,⟨t34,true,88,[(0,1,false),(1,1,false),(2,1,false),(3,1,false),(4,1,false),(5,1,false)]⟩),
 (102,⟨t34,true,88,[(0,1,false),(1,1,false),(2,1,false),(3,1,false),(4,1,false),(5,1,false)]⟩),
 (119,⟨(.i .u64),false,8,[]⟩),
 (139,⟨(.i .u32),false,4,[]⟩),
 (151,⟨t1,false,24,[]⟩),
 (206,⟨(.i .u8),false,1,[]⟩),
 (207,⟨(.i .u8),false,1,[]⟩),
 (210,⟨(.i .i32),false,4,[]⟩),
 (211,⟨(.i .i32),false,4,[]⟩)]
def ti:TypeId→Option TI:=lk tiL
def A2b:List Nat:=[29,30,46,47,58,59]
def eqs:TypeId→Bool:=λ T=>A2b.contains T
theorem sK:Xv Tryz.prog ti eqs∧∀ T,T6 Tryz.prog ti T=true:=Cqb (P:=Tryz.prog) (ti:=ti) (eqs:=eqs) (keys:=tiL.map Prod.fst) (A2b:=A2b) Wma (by kernel_rfl) (by kernel_rfl) rfl (by kernel_rfl)
theorem sO:Xv Tryz.prog ti eqs:=sK.1
theorem Dlb:∀ T t,ti T=some t→TOk Tryz.prog T t:=sO.tok
theorem Dmb:∀ T,T6 Tryz.prog ti T=true:=sK.2
abbrev CK:=P3 Tryz.prog
abbrev LL:=LK Tryz.prog
abbrev AC:=Yoa Tryz.prog
theorem mS {f:FuncId} {fn:Func} (D:Fd) (k:Nat) {en:Ent} (ids:List Nat) (hf:Tryz.prog.funcs[f]? = some fn) (hc:AC (D.cs k)) (hi:Ypa Tryz.prog fn D ids) (h:(Cpb fn D en,Lz (bo fn),ids.map λ l=>first (Ky l (bo fn)))=(true,ids.map λ l=>Ky l (bo fn),ids)) (hr:∀ x,O8a (D.n ti eqs k) (bo fn) fn.results.toList en x=en.run x):CK f en:=mkS sO ids hf hc hi (congrArg Prod.fst h) (congrArg Prod.snd h) hr
theorem mL {fn:Func} {D:Fd} {l:Nat} {p:LF} (ids:List Nat) (hc:∀ k,AC (D.cs k)) (hi:Ypa Tryz.prog fn D ids) (h:(Nat.beq D.nt fn.ntmps,Lz (Ky l (bo fn)),ids.map λ l=>first (Ky l (bo fn)))=(true,ids.map λ l=>Ky l (bo fn),ids)) (h0:∀ x,p.f 0 x=none) (hs:D9b ti eqs fn D l p):LL fn D l p:=mkL sO ids (congrArg Prod.fst h) hc hi (congrArg Prod.snd h) h0 hs
def Mz.e (k:Nat):Ent:=⟨1,[(.val false t4)],[(.one,.b)],λ x=>Mz x⟩
def Mz.d:Fd := { nt:=6,nv:=1,nm:=[0,1],res:=[2] }
theorem Mz.s (k:Nat):CK 4 (Mz.e k):=mS Mz.d k [] Tryz.func4 trivial trivial (by kernel_rfl) (λ x=>by kernel_rfl)
def K7.e (k:Nat):Ent:=⟨1,[(.val false t4)],[(.ptr,t21)],λ x=>K7 k x⟩
def Ht.p:LF:=⟨⟨[],[(0,t4),(3,(.i .i64)),(4,(.i .i64))]⟩,[((.exit 0),⟨[],[(0,t4),(3,(.i .i64))]⟩)],λ k x=>Ht k x.1 x.2.1 x.2.2⟩
def K7.d:Fd := { nt:=32,nv:=1,nm:=[0,1,3,4],res:=[2],ls:=[(3,Ht.p)] }
theorem Ht.s:LL Tryz.f31 K7.d 3 Ht.p:=mL [] (λ _=>trivial) trivial (by kernel_rfl) (λ _=>rfl) (λ k x=>by kernel_rfl)
theorem K7.s (k:Nat):CK 31 (K7.e k):=mS K7.d k [3] Tryz.func31 trivial ⟨Ht.s,trivial⟩ (by kernel_rfl) (λ x=>by kernel_rfl)
def F5.e (k:Nat):Ent:=⟨1,[(.ptr t21 t21)],[(.one,(.i .i64))],λ x=>F5 x⟩
def F5.d:Fd := { nt:=58,nv:=1,nm:=[0,1,3],res:=[2] }
theorem F5.s (k:Nat):CK 62 (F5.e k):=mS F5.d k [] Tryz.func62 trivial trivial (by kernel_rfl) (λ x=>by kernel_rfl)
def A3.e (k:Nat):Ent:=⟨2,[(.ptr t21 t21),(.val false (.i .i64))],[(.one,(.i .i64))],λ x=>A3 x.1 x.2⟩
def A3.d:Fd := { nt:=31,nv:=2,nm:=[0,1,2,3,5,6,7],res:=[4],cs:=λ k=>[(62,F5.e k)] }
theorem A3.s (k:Nat):CK 34 (A3.e k):=mS A3.d k [] Tryz.func34 ⟨F5.s k,trivial⟩ trivial (by kernel_rfl) (λ x=>by kernel_rfl)
def Aa.e (k:Nat):Ent:=⟨2,[(.ptr t21 t21),(.val false t6)],[(.one,(.i .i64))],λ x=>Aa x.1 x.2⟩
def Aa.d:Fd := { nt:=12,nv:=2,nm:=[0,1,2,3],res:=[4],cs:=λ k=>[(34,A3.e k)] }
theorem Aa.s (k:Nat):CK 64 (Aa.e k):=mS Aa.d k [] Tryz.func64 ⟨A3.s k,trivial⟩ trivial (by kernel_rfl) (λ x=>by kernel_rfl)
def G7.e (k:Nat):Ent:=⟨1,[(.ptr t21 t21)],[(.one,t23)],λ x=>G7 k x⟩
def Gl.p:LF:=⟨⟨[(0,(.bp 0 0 0)),(1999,(.hd 3))],[(3,t23),(4,(.i .i64)),(5,(.i .i64)),(6,(.i .i64)),(1000,t21)]⟩,[((.exit 0),⟨[(1999,(.hd 3))],[(3,t23),(1000,t21)]⟩)],λ k x=>Gl k x.1 x.2.1 x.2.2.1 x.2.2.2.1 x.2.2.2.2⟩
def G7.d:Fd := { nt:=35,nv:=1,nm:=[0,1,3,4,5,6],res:=[2],cs:=λ k=>[(34,A3.e k),(64,Aa.e k)],ls:=[(5,Gl.p)],rf:=true }
theorem G7.a (k:Nat):AC (G7.d.cs k):=⟨A3.s k,Aa.s k,trivial⟩
theorem Gl.s:LL Tryz.f86 G7.d 5 Gl.p:=mL [] G7.a trivial (by kernel_rfl) (λ _=>rfl) (λ k x=>by kernel_rfl)
theorem G7.s (k:Nat):CK 86 (G7.e k):=mS G7.d k [5] Tryz.func86 (G7.a k) ⟨Gl.s,trivial⟩ (by kernel_rfl) (λ x=>by kernel_rfl)
def A8.e (k:Nat):Ent:=⟨3,[(.val false (.i .i64)),(.val false (.i .i64)),(.val false (.i .i64))],[(.one,.b)],λ x=>A8 x.1 x.2.1 x.2.2⟩
def A8.d:Fd := { nt:=15,nv:=3,nm:=[0,1,2,3,4,5],res:=[6] }
theorem A8.s (k:Nat):CK 77 (A8.e k):=mS A8.d k [] Tryz.func77 trivial trivial (by kernel_rfl) (λ x=>by kernel_rfl)
def Bm.e (k:Nat):Ent:=⟨1,[(.val false t22)],[(.one,.b)],λ x=>Bm k x⟩
def Fq.p:LF:=⟨⟨[],[(0,t22),(3,(.i .i64))]⟩,[(.ret,⟨[],[(2,.b)]⟩),((.exit 0),⟨[],[(0,t22)]⟩)],λ k x=>Fq k x.1 x.2⟩
def Bm.d:Fd := { nt:=49,nv:=1,nm:=[0,1,3,4],res:=[2],cs:=λ k=>[(77,A8.e k)],ls:=[(2,Fq.p)],rf:=true }
theorem Bm.a (k:Nat):AC (Bm.d.cs k):=⟨A8.s k,trivial⟩
theorem Fq.s:LL Tryz.f76 Bm.d 2 Fq.p:=mL [] Bm.a trivial (by kernel_rfl) (λ _=>rfl) (λ k x=>by kernel_rfl)
theorem Bm.s (k:Nat):CK 76 (Bm.e k):=mS Bm.d k [2] Tryz.func76 (Bm.a k) ⟨Fq.s,trivial⟩ (by kernel_rfl) (λ x=>by kernel_rfl)
def C7.e (k:Nat):Ent:=⟨2,[(.val false t6),(.val false (.i .i64))],[(.one,.b)],λ x=>C7 k x.1 x.2⟩
def Hu.p:LF:=⟨⟨[],[(0,t6),(1,(.i .i64)),(5,(.i .i64))]⟩,[(.ret,⟨[],[(4,.b)]⟩),((.exit 0),⟨[],[]⟩)],λ k x=>Hu k x.1 x.2.1 x.2.2⟩
def C7.d:Fd := { nt:=18,nv:=2,nm:=[0,1,2,3,5],res:=[4],ls:=[(2,Hu.p)],rf:=true }
theorem Hu.s:LL Tryz.f108 C7.d 2 Hu.p:=mL [] (λ _=>trivial) trivial (by kernel_rfl) (λ _=>rfl) (λ k x=>by kernel_rfl)
theorem C7.s (k:Nat):CK 108 (C7.e k):=mS C7.d k [2] Tryz.func108 trivial ⟨Hu.s,trivial⟩ (by kernel_rfl) (λ x=>by kernel_rfl)
def Dq.e (k:Nat):Ent:=⟨2,[(.val false t22),(.val false (.i .i64))],[(.agg,t16),(.one,.b)],λ x=>Dq k x.1 x.2⟩
def Hv.p:LF:=⟨⟨[(4,(.bp 4 0 0)),(5999,(.hd 3))],[(0,t22),(1,(.i .i64)),(6,(.i .i64)),(5000,t16)]⟩,[(.ret,⟨[(4,(.bp 4 0 0)),(5999,(.hd 3))],[(5,.b),(5000,t16)]⟩),((.exit 0),⟨[(4,(.bp 4 0 0)),(5999,(.hd 3))],[(5000,t16)]⟩)],λ k x=>Hv k x.1 x.2.1 x.2.2.1 x.2.2.2⟩
def Dq.d:Fd := { nt:=25,nv:=2,nm:=[0,1,2,3,6],res:=[5],ls:=[(2,Hv.p)],rf:=true }
theorem Hv.s:LL Tryz.f79 Dq.d 2 Hv.p:=mL [] (λ _=>trivial) trivial (by kernel_rfl) (λ _=>rfl) (λ k x=>by kernel_rfl)
theorem Dq.s (k:Nat):CK 79 (Dq.e k):=mS Dq.d k [2] Tryz.func79 trivial ⟨Hv.s,trivial⟩ (by kernel_rfl) (λ x=>by kernel_rfl)
def Ci.e (k:Nat):Ent:=⟨2,[(.val false t6),(.val false t22)],[(.one,t7)],λ x=>Ci k x.1 x.2⟩
def D7.p:LF:=⟨⟨[],[(0,t6),(1,t22),(5,t7),(6,(.i .i64))]⟩,[((.exit 0),⟨[],[(5,t7)]⟩)],λ k x=>D7 k x.1 x.2.1 x.2.2.1 x.2.2.2⟩
def Ci.d:Fd := { nt:=39,nv:=2,nm:=[0,1,2,3,5,6,7,8],res:=[4],cs:=λ k=>[(79,Dq.e k),(108,C7.e k)],ls:=[(3,D7.p)],rf:=true }
theorem Ci.a (k:Nat):AC (Ci.d.cs k):=⟨Dq.s k,C7.s k,trivial⟩
theorem D7.s:LL Tryz.f164 Ci.d 3 D7.p:=mL [] Ci.a trivial (by kernel_rfl) (λ _=>rfl) (λ k x=>by kernel_rfl)
theorem Ci.s (k:Nat):CK 164 (Ci.e k):=mS Ci.d k [3] Tryz.func164 (Ci.a k) ⟨D7.s,trivial⟩ (by kernel_rfl) (λ x=>by kernel_rfl)
def Cd.e (k:Nat):Ent:=⟨2,[(.val true t17),(.val false (.i .i64))],[(.one,(.i .i64))],λ x=>Cd k x.1 x.2⟩
def Fs.p:LF:=⟨⟨[(2,(.bp 2 0 0)),(3999,(.hd 2))],[(1,(.i .i64)),(5,(.i .i64)),(6,(.i .i64)),(7,(.i .i64)),(3000,t17)]⟩,[((.exit 2),⟨[(2,(.bp 2 0 0)),(3999,(.hd 2))],[(1,(.i .i64)),(5,(.i .i64)),(6,(.i .i64)),(3000,t17)]⟩)],λ k x=>Fs k x.1 x.2.1 x.2.2.1 x.2.2.2.1 x.2.2.2.2⟩
def Gn.p:LF:=⟨⟨[(2,(.bp 2 0 0)),(3999,(.hd 2))],[(1,(.i .i64)),(5,(.i .i64)),(6,(.i .i64)),(3000,t17)]⟩,[((.exit 0),⟨[],[(5,(.i .i64))]⟩)],λ k x=>Gn k x.1 x.2.1 x.2.2.1 x.2.2.2⟩
def Cd.d:Fd := { nt:=40,nv:=2,nm:=[0,1,2,3,5,6,7],res:=[4],ls:=[(6,Fs.p),(3,Gn.p)],rf:=true }
theorem Fs.s:LL Tryz.f165 Cd.d 6 Fs.p:=mL [] (λ _=>trivial) trivial (by kernel_rfl) (λ _=>rfl) (λ k x=>by kernel_rfl)
theorem Gn.s:LL Tryz.f165 Cd.d 3 Gn.p:=mL [6] (λ _=>trivial) ⟨Fs.s,trivial⟩ (by kernel_rfl) (λ _=>rfl) (λ k x=>by kernel_rfl)
theorem Cd.s (k:Nat):CK 165 (Cd.e k):=mS Cd.d k [3] Tryz.func165 trivial ⟨Gn.s,trivial⟩ (by kernel_rfl) (λ x=>by kernel_rfl)
def Hl.e (k:Nat):Ent:=⟨3,[(.val true t17),(.val true t6),(.val false t22)],[(.one,(.i .i64))],λ x=>Hl k x.1 x.2.1 x.2.2⟩
def Bh.p:LF:=⟨⟨[(3,(.bp 3 0 0)),(4,(.bp 4 0 0)),(4999,(.hd 2)),(5999,(.hd 1))],[(2,t22),(7,t7),(8,(.i .i64)),(9,.b),(10,(.i .i64)),(4000,t17),(5000,t6)]⟩,[((.exit 0),⟨[],[(2,t22),(8,(.i .i64))]⟩)],λ k x=>Bh k x.1 x.2.1 x.2.2.1 x.2.2.2.1 x.2.2.2.2.1 x.2.2.2.2.2.1 x.2.2.2.2.2.2⟩
def Hl.d:Fd := { nt:=88,nv:=3,nm:=[0,1,2,3,4,5,7,8,9,10,11,12],res:=[6],cs:=λ k=>[(76,Bm.e k),(108,C7.e k),(164,Ci.e k),(165,Cd.e k)],ls:=[(5,Bh.p)],rf:=true }
theorem Hl.a (k:Nat):AC (Hl.d.cs k):=⟨Bm.s k,C7.s k,Ci.s k,Cd.s k,trivial⟩
theorem Bh.s:LL Tryz.f142 Hl.d 5 Bh.p:=mL [] Hl.a trivial (by kernel_rfl) (λ _=>rfl) (λ k x=>by kernel_rfl)
theorem Hl.s (k:Nat):CK 142 (Hl.e k):=mS Hl.d k [5] Tryz.func142 (Hl.a k) ⟨Bh.s,trivial⟩ (by kernel_rfl) (λ x=>by kernel_rfl)
def Gk.e (k:Nat):Ent:=⟨3,[(.val false t22),(.val false (.i .i64)),(.val false (.i .i64))],[(.agg,t18),(.one,.b)],λ x=>Gk k x.1 x.2.1 x.2.2⟩
def Hw.p:LF:=⟨⟨[(6,(.bp 6 0 0)),(8,(.bp 8 0 0)),(7999,(.hd 2)),(9999,(.hd 2))],[(0,t22),(1,(.i .i64)),(2,(.i .i64)),(9,(.i .i64)),(10,(.i .i64)),(7000,t19),(9000,t18)]⟩,[((.exit 2),⟨[(6,(.bp 6 0 0)),(8,(.bp 8 0 0)),(7999,(.hd 2)),(9999,(.hd 2))],[(0,t22),(1,(.i .i64)),(2,(.i .i64)),(9,(.i .i64)),(7000,t19),(9000,t18)]⟩)],λ k x=>Hw k x.1 x.2.1 x.2.2.1 x.2.2.2.1 x.2.2.2.2.1 x.2.2.2.2.2.1 x.2.2.2.2.2.2⟩
def Hx.p:LF:=⟨⟨[(6,(.bp 6 0 0)),(8,(.bp 8 0 0)),(7999,(.hd 2)),(9999,(.hd 2))],[(0,t22),(1,(.i .i64)),(2,(.i .i64)),(9,(.i .i64)),(7000,t19),(9000,t18)]⟩,[((.exit 0),⟨[(6,(.bp 6 0 0)),(8,(.bp 8 0 0)),(7999,(.hd 2)),(9999,(.hd 2))],[(7000,t19),(9000,t18)]⟩)],λ k x=>Hx k x.1 x.2.1 x.2.2.1 x.2.2.2.1 x.2.2.2.2.1 x.2.2.2.2.2⟩
def Gk.d:Fd := { nt:=73,nv:=3,nm:=[0,1,2,3,4,5,8,9,10,11],res:=[7],cs:=λ k=>[(76,Bm.e k),(77,A8.e k),(142,Hl.e k)],ls:=[(9,Hw.p),(5,Hx.p)],hint:=[(42,t7),(43,t7)],mv:=[72],gh:=[(12,[.od 54 3001]),(1000010,[.cl 9001])],rf:=true }
theorem Gk.a (k:Nat):AC (Gk.d.cs k):=⟨Bm.s k,A8.s k,Hl.s k,trivial⟩
theorem Hw.s:LL Tryz.f117 Gk.d 9 Hw.p:=mL [] Gk.a trivial (by kernel_rfl) (λ _=>rfl) (λ k x=>by kernel_rfl)
theorem Hx.s:LL Tryz.f117 Gk.d 5 Hx.p:=mL [9] Gk.a ⟨Hw.s,trivial⟩ (by kernel_rfl) (λ _=>rfl) (λ k x=>by kernel_rfl)
theorem Gk.s (k:Nat):CK 117 (Gk.e k):=mS Gk.d k [5] Tryz.func117 (Gk.a k) ⟨Hx.s,trivial⟩ (by kernel_rfl) (λ x=>by kernel_rfl)
def Gf.e (k:Nat):Ent:=⟨1,[(.val false (.i .i64))],[(.agg,t41)],λ x=>Gf x⟩
def Gf.d:Fd := { nt:=9,nv:=1,nm:=[0,1],res:=[],cs:=λ k=>[(77,A8.e k)] }
theorem Gf.s (k:Nat):CK 118 (Gf.e k):=mS Gf.d k [] Tryz.func118 ⟨A8.s k,trivial⟩ trivial (by kernel_rfl) (λ x=>by kernel_rfl)
def C4.e (k:Nat):Ent:=⟨3,[(.val false t22),(.val false (.i .i64)),(.val false (.i .i64))],[(.agg,t49)],λ x=>C4 k x.1 x.2.1 x.2.2⟩
def Du.p:LF:=⟨⟨[(6,(.bp 6 0 0)),(9,(.bp 9 0 0)),(7999,(.hd 9)),(10999,(.hd 9))],[(0,t22),(10,(.i .i64)),(7000,t50),(10000,t49)]⟩,[((.exit 0),⟨[(6,(.bp 6 0 0)),(9,(.bp 9 0 0)),(7999,(.hd 9)),(10999,(.hd 9))],[(7000,t50),(10000,t49)]⟩)],λ k x=>Du k x.1 x.2.1 x.2.2.1 x.2.2.2⟩
def C4.d:Fd := { nt:=44,nv:=3,nm:=[0,1,2,3,4,5,7,8,9,10],res:=[],cs:=λ k=>[(117,Gk.e k),(118,Gf.e k)],ls:=[(6,Du.p)],mv:=[43],rf:=true }
theorem C4.a (k:Nat):AC (C4.d.cs k):=⟨Gk.s k,Gf.s k,trivial⟩
theorem Du.s:LL Tryz.f87 C4.d 6 Du.p:=mL [] C4.a trivial (by kernel_rfl) (λ _=>rfl) (λ k x=>by kernel_rfl)
theorem C4.s (k:Nat):CK 87 (C4.e k):=mS C4.d k [6] Tryz.func87 (C4.a k) ⟨Du.s,trivial⟩ (by kernel_rfl) (λ x=>by kernel_rfl)
def Jp.e (k:Nat):Ent:=⟨1,[(.ptr t21 t21)],[(.agg,t49)],λ x=>Jp k x⟩
def Jp.d:Fd := { nt:=22,nv:=1,nm:=[0,1,3,4],res:=[],cs:=λ k=>[(64,Aa.e k),(86,G7.e k),(87,C4.e k)],rf:=true }
theorem Jp.s (k:Nat):CK 59 (Jp.e k):=mS Jp.d k [] Tryz.func59 ⟨Aa.s k,G7.s k,C4.s k,trivial⟩ trivial (by kernel_rfl) (λ x=>by kernel_rfl)
def Af.e (k:Nat):Ent:=⟨1,[(.val false .s)],[(.one,.b)],λ x=>Af k x⟩
def Cp.p:LF:=⟨⟨[],[(0,.s),(3,(.i .i64))]⟩,[(.ret,⟨[],[(2,.b)]⟩),((.exit 0),⟨[],[(0,.s)]⟩)],λ k x=>Cp k x.1 x.2⟩
def Af.d:Fd := { nt:=38,nv:=1,nm:=[0,1,3,4],res:=[2],cs:=λ k=>[(77,A8.e k)],ls:=[(2,Cp.p)] }
theorem Af.a (k:Nat):AC (Af.d.cs k):=⟨A8.s k,trivial⟩
theorem Cp.s:LL Tryz.f52 Af.d 2 Cp.p:=mL [] Af.a trivial (by kernel_rfl) (λ _=>rfl) (λ k x=>by kernel_rfl)
theorem Af.s (k:Nat):CK 52 (Af.e k):=mS Af.d k [2] Tryz.func52 (Af.a k) ⟨Cp.s,trivial⟩ (by kernel_rfl) (λ x=>by kernel_rfl)
def Bt.e (k:Nat):Ent:=⟨1,[(.val true t16)],[(.one,.b)],λ x=>Bt x⟩
def Bt.d:Fd := { nt:=16,nv:=1,nm:=[0,1],res:=[2],cs:=λ k=>[(77,A8.e k)] }
theorem Bt.s (k:Nat):CK 51 (Bt.e k):=mS Bt.d k [] Tryz.func51 ⟨A8.s k,trivial⟩ trivial (by kernel_rfl) (λ x=>by kernel_rfl)
def Gp.e (k:Nat):Ent:=⟨3,[(.val true t16),(.val false (.i .i64)),(.val false (.i .i64))],[(.agg,t16)],λ x=>Gp x.1 x.2.1 x.2.2⟩
def Gp.d:Fd := { nt:=27,nv:=3,nm:=[0,1,2,3,4,5,7],res:=[],cs:=λ k=>[(51,Bt.e k)],rf:=true }
theorem Gp.s (k:Nat):CK 119 (Gp.e k):=mS Gp.d k [] Tryz.func119 ⟨Bt.s k,trivial⟩ trivial (by kernel_rfl) (λ x=>by kernel_rfl)
def Bd.e (k:Nat):Ent:=⟨1,[(.val true t25)],[(.agg,t26)],λ x=>Bd x⟩
def Bd.d:Fd := { nt:=9,nv:=1,nm:=[0,1],res:=[],mv:=[8],rf:=true }
theorem Bd.s (k:Nat):CK 97 (Bd.e k):=mS Bd.d k [] Tryz.func97 trivial trivial (by kernel_rfl) (λ x=>by kernel_rfl)
def B2.e (k:Nat):Ent:=⟨2,[(.val true t48),(.val false t6)],[(.one,t7)],λ x=>B2 k x.1 x.2⟩
def Bw.p:LF:=⟨⟨[(2,(.bp 2 0 0)),(3999,(.hd 9))],[(1,t6),(5,t7),(6,(.i .i64)),(7,(.i .i64)),(3000,t48)]⟩,[((.exit 2),⟨[(2,(.bp 2 0 0)),(3999,(.hd 9))],[(1,t6),(5,t7),(6,(.i .i64)),(3000,t48)]⟩)],λ k x=>Bw k x.1 x.2.1 x.2.2.1 x.2.2.2.1 x.2.2.2.2⟩
def D8.p:LF:=⟨⟨[(2,(.bp 2 0 0)),(3999,(.hd 9))],[(1,t6),(5,t7),(6,(.i .i64)),(3000,t48)]⟩,[((.exit 0),⟨[],[(5,t7)]⟩)],λ k x=>D8 k x.1 x.2.1 x.2.2.1 x.2.2.2⟩
def B2.d:Fd := { nt:=38,nv:=2,nm:=[0,1,2,3,5,6,7],res:=[4],ls:=[(6,Bw.p),(3,D8.p)],rf:=true }
theorem Bw.s:LL Tryz.f148 B2.d 6 Bw.p:=mL [] (λ _=>trivial) trivial (by kernel_rfl) (λ _=>rfl) (λ k x=>by kernel_rfl)
theorem D8.s:LL Tryz.f148 B2.d 3 D8.p:=mL [6] (λ _=>trivial) ⟨Bw.s,trivial⟩ (by kernel_rfl) (λ _=>rfl) (λ k x=>by kernel_rfl)
theorem B2.s (k:Nat):CK 148 (B2.e k):=mS B2.d k [3] Tryz.func148 trivial ⟨D8.s,trivial⟩ (by kernel_rfl) (λ x=>by kernel_rfl)
def La.e (k:Nat):Ent:=⟨1,[(.val false .s)],[(.one,(.i .i64))],λ x=>La k x⟩
def Iy.p:LF:=⟨⟨[],[(0,.s),(3,(.i .i64)),(4,(.i .i64))]⟩,[((.exit 0),⟨[],[(3,(.i .i64))]⟩)],λ k x=>Iy k x.1 x.2.1 x.2.2⟩
def La.d:Fd := { nt:=20,nv:=1,nm:=[0,1,3,4],res:=[2],ls:=[(3,Iy.p)],rf:=true }
theorem Iy.s:LL Tryz.f175 La.d 3 Iy.p:=mL [] (λ _=>trivial) trivial (by kernel_rfl) (λ _=>rfl) (λ k x=>by kernel_rfl)
theorem La.s (k:Nat):CK 175 (La.e k):=mS La.d k [3] Tryz.func175 trivial ⟨Iy.s,trivial⟩ (by kernel_rfl) (λ x=>by kernel_rfl)
def Kg.e (k:Nat):Ent:=⟨2,[(.val false .s),(.val false (.i .i64))],[(.one,(.i .i64))],λ x=>Kg k x.1 x.2⟩
def Kg.d:Fd := { nt:=11,nv:=2,nm:=[0,1,2,3],res:=[4],cs:=λ k=>[(175,La.e k)],rf:=true }
theorem Kg.s (k:Nat):CK 168 (Kg.e k):=mS Kg.d k [] Tryz.func168 ⟨La.s k,trivial⟩ trivial (by kernel_rfl) (λ x=>by kernel_rfl)
def B3.e (k:Nat):Ent:=⟨2,[(.val true t17),(.val false .s)],[(.one,t7)],λ x=>B3 k x.1 x.2⟩
def B3.d:Fd := { nt:=22,nv:=2,nm:=[0,1,2,3],res:=[4],cs:=λ k=>[(168,Kg.e k)],rf:=true }
theorem B3.s (k:Nat):CK 149 (B3.e k):=mS B3.d k [] Tryz.func149 ⟨Kg.s k,trivial⟩ trivial (by kernel_rfl) (λ x=>by kernel_rfl)
def C5.e (k:Nat):Ent:=⟨3,[(.val true t17),(.val false t22),(.val false .s)],[(.one,t7)],λ x=>C5 k x.1 x.2.1 x.2.2⟩
def Bx.p:LF:=⟨⟨[],[(1,t22),(7,t7),(8,t7),(9,t7),(10,(.i .i64)),(11,(.i .i64))]⟩,[((.exit 2),⟨[],[(1,t22),(7,t7),(8,t7),(9,t7),(10,(.i .i64))]⟩)],λ k x=>Bx k x.1 x.2.1 x.2.2.1 x.2.2.2.1 x.2.2.2.2.1 x.2.2.2.2.2⟩
def Dv.p:LF:=⟨⟨[],[(1,t22),(7,t7),(8,t7),(9,t7),(10,(.i .i64))]⟩,[((.exit 0),⟨[],[(9,t7)]⟩)],λ k x=>Dv k x.1 x.2.1 x.2.2.1 x.2.2.2.1 x.2.2.2.2⟩
def C5.d:Fd := { nt:=58,nv:=3,nm:=[0,1,2,3,4,5,7,8,9,10,11],res:=[6],cs:=λ k=>[(108,C7.e k),(149,B3.e k),(164,Ci.e k)],ls:=[(8,Bx.p),(5,Dv.p)],rf:=true }
theorem C5.a (k:Nat):AC (C5.d.cs k):=⟨C7.s k,B3.s k,Ci.s k,trivial⟩
theorem Bx.s:LL Tryz.f166 C5.d 8 Bx.p:=mL [] C5.a trivial (by kernel_rfl) (λ _=>rfl) (λ k x=>by kernel_rfl)
theorem Dv.s:LL Tryz.f166 C5.d 5 Dv.p:=mL [8] C5.a ⟨Bx.s,trivial⟩ (by kernel_rfl) (λ _=>rfl) (λ k x=>by kernel_rfl)
theorem C5.s (k:Nat):CK 166 (C5.e k):=mS C5.d k [5] Tryz.func166 (C5.a k) ⟨Dv.s,trivial⟩ (by kernel_rfl) (λ x=>by kernel_rfl)
def Dw.e (k:Nat):Ent:=⟨2,[(.val true t48),(.val false .s)],[(.one,t7)],λ x=>Dw k x.1 x.2⟩
def Dw.d:Fd := { nt:=20,nv:=2,nm:=[0,1,2,3],res:=[4],cs:=λ k=>[(148,B2.e k),(149,B3.e k),(166,C5.e k)],rf:=true }
theorem Dw.s (k:Nat):CK 143 (Dw.e k):=mS Dw.d k [] Tryz.func143 ⟨B2.s k,B3.s k,C5.s k,trivial⟩ trivial (by kernel_rfl) (λ x=>by kernel_rfl)
def Bs.e (k:Nat):Ent:=⟨2,[(.val false t6),(.val false (.i .i64))],[(.one,(.i .i64))],λ x=>Bs x.1 x.2⟩
def Bs.d:Fd := { nt:=21,nv:=2,nm:=[0,1,2,3],res:=[4],cs:=λ k=>[(77,A8.e k)],rf:=true }
theorem Bs.s (k:Nat):CK 144 (Bs.e k):=mS Bs.d k [] Tryz.func144 ⟨A8.s k,trivial⟩ trivial (by kernel_rfl) (λ x=>by kernel_rfl)
def Ey.e (k:Nat):Ent:=⟨2,[(.val false .s),(.val true t25)],[(.agg,t28)],λ x=>Ey x.1 x.2⟩
def Ey.d:Fd := { nt:=14,nv:=2,nm:=[0,1,2,3],res:=[] }
theorem Ey.s (k:Nat):CK 83 (Ey.e k):=mS Ey.d k [] Tryz.func83 trivial trivial (by kernel_rfl) (λ x=>by kernel_rfl)
def Bn.e (k:Nat):Ent:=⟨1,[(.val true t25)],[(.one,.b)],λ x=>Bn x⟩
def Bn.d:Fd := { nt:=23,nv:=1,nm:=[0,1],res:=[2],cs:=λ k=>[(51,Bt.e k)] }
theorem Bn.s (k:Nat):CK 53 (Bn.e k):=mS Bn.d k [] Tryz.func53 ⟨Bt.s k,trivial⟩ trivial (by kernel_rfl) (λ x=>by kernel_rfl)
def Aw.e (k:Nat):Ent:=⟨2,[(.val true t16),(.val true t16)],[(.one,.b)],λ x=>Aw x.1 x.2⟩
def Aw.d:Fd := { nt:=32,nv:=2,nm:=[0,1,2,3],res:=[4] }
theorem Aw.s (k:Nat):CK 54 (Aw.e k):=mS Aw.d k [] Tryz.func54 trivial trivial (by kernel_rfl) (λ x=>by kernel_rfl)
def Ja.e (k:Nat):Ent:=⟨2,[(.val true t25),(.val true t25)],[(.one,.b)],λ x=>Ja x.1 x.2⟩
def Ja.d:Fd := { nt:=10,nv:=2,nm:=[0,1,2,3],res:=[4],cs:=λ k=>[(54,Aw.e k)] }
theorem Ja.s (k:Nat):CK 85 (Ja.e k):=mS Ja.d k [] Tryz.func85 ⟨Aw.s k,trivial⟩ trivial (by kernel_rfl) (λ x=>by kernel_rfl)
def F6.e (k:Nat):Ent:=⟨1,[(.val false t13)],[(.one,.b)],λ x=>F6 k x⟩
def Ft.p:LF:=⟨⟨[],[(0,t13),(3,(.i .i64))]⟩,[(.ret,⟨[],[(2,.b)]⟩),((.exit 0),⟨[],[(0,t13)]⟩)],λ k x=>Ft k x.1 x.2⟩
def F6.d:Fd := { nt:=47,nv:=1,nm:=[0,1,3],res:=[2],cs:=λ k=>[(52,Af.e k)],ls:=[(2,Ft.p)] }
theorem F6.a (k:Nat):AC (F6.d.cs k):=⟨Af.s k,trivial⟩
theorem Ft.s:LL Tryz.f136 F6.d 2 Ft.p:=mL [] F6.a trivial (by kernel_rfl) (λ _=>rfl) (λ k x=>by kernel_rfl)
theorem F6.s (k:Nat):CK 136 (F6.e k):=mS F6.d k [2] Tryz.func136 (F6.a k) ⟨Ft.s,trivial⟩ (by kernel_rfl) (λ x=>by kernel_rfl)
def Ba.e (k:Nat):Ent:=⟨1,[(.val true t27)],[(.one,.b)],λ x=>Ba k x⟩
def Ba.d:Fd := { nt:=11,nv:=1,nm:=[0,1],res:=[2],cs:=λ k=>[(136,F6.e k)] }
theorem Ba.s (k:Nat):CK 110 (Ba.e k):=mS Ba.d k [] Tryz.func110 ⟨F6.s k,trivial⟩ trivial (by kernel_rfl) (λ x=>by kernel_rfl)
def D9.e (k:Nat):Ent:=⟨2,[(.val false t4),(.val false (.i .i64))],[(.one,t5)],λ x=>D9 k x.1 x.2⟩
def Cq.p:LF:=⟨⟨[],[(1,(.i .i64)),(5,t5)]⟩,[((.exit 0),⟨[],[(1,(.i .i64)),(5,t5)]⟩)],λ k x=>Cq k x.1 x.2⟩
def D9.d:Fd := { nt:=29,nv:=2,nm:=[0,1,2,3,5],res:=[4],ls:=[(6,Cq.p)] }
theorem Cq.s:LL Tryz.f138 D9.d 6 Cq.p:=mL [] (λ _=>trivial) trivial (by kernel_rfl) (λ _=>rfl) (λ k x=>by kernel_rfl)
theorem D9.s (k:Nat):CK 138 (D9.e k):=mS D9.d k [6] Tryz.func138 trivial ⟨Cq.s,trivial⟩ (by kernel_rfl) (λ x=>by kernel_rfl)
def Iz.e (k:Nat):Ent:=⟨2,[(.val false t4),(.val false .s)],[(.one,t5)],λ x=>Iz k x.1 x.2⟩
def Iz.d:Fd := { nt:=11,nv:=2,nm:=[0,1,2,3],res:=[4],cs:=λ k=>[(138,D9.e k)] }
theorem Iz.s (k:Nat):CK 137 (Iz.e k):=mS Iz.d k [] Tryz.func137 ⟨D9.s k,trivial⟩ trivial (by kernel_rfl) (λ x=>by kernel_rfl)
def J0.e (k:Nat):Ent:=⟨2,[(.val false t4),(.val true t16)],[(.one,t5)],λ x=>J0 k x.1 x.2⟩
def J0.d:Fd := { nt:=15,nv:=2,nm:=[0,1,2,3],res:=[4],cs:=λ k=>[(138,D9.e k)] }
theorem J0.s (k:Nat):CK 139 (J0.e k):=mS J0.d k [] Tryz.func139 ⟨D9.s k,trivial⟩ trivial (by kernel_rfl) (λ x=>by kernel_rfl)
def Kh.e (k:Nat):Ent:=⟨1,[(.val false .b)],[(.one,(.i .i64))],λ x=>Kh x⟩
def Kh.d:Fd := { nt:=4,nv:=1,nm:=[0,1],res:=[2] }
theorem Kh.s (k:Nat):CK 140 (Kh.e k):=mS Kh.d k [] Tryz.func140 trivial trivial (by kernel_rfl) (λ x=>by kernel_rfl)
def L6.e (k:Nat):Ent:=⟨1,[(.val false t4)],[(.one,(.i .i64))],λ x=>L6 k x⟩
def Hj.p:LF:=⟨⟨[],[(0,t4),(3,(.i .i64)),(4,(.i .i64)),(5,(.i .i64))]⟩,[((.exit 2),⟨[],[(0,t4),(3,(.i .i64)),(4,(.i .i64))]⟩)],λ k x=>Hj k x.1 x.2.1 x.2.2.1 x.2.2.2⟩
def Hy.p:LF:=⟨⟨[],[(0,t4),(3,(.i .i64)),(4,(.i .i64))]⟩,[((.exit 0),⟨[],[(3,(.i .i64))]⟩)],λ k x=>Hy k x.1 x.2.1 x.2.2⟩
def L6.d:Fd := { nt:=34,nv:=1,nm:=[0,1,3,4,5,6],res:=[2],ls:=[(7,Hj.p),(3,Hy.p)] }
theorem Hj.s:LL Tryz.f141 L6.d 7 Hj.p:=mL [] (λ _=>trivial) trivial (by kernel_rfl) (λ _=>rfl) (λ k x=>by kernel_rfl)
theorem Hy.s:LL Tryz.f141 L6.d 3 Hy.p:=mL [7] (λ _=>trivial) ⟨Hj.s,trivial⟩ (by kernel_rfl) (λ _=>rfl) (λ k x=>by kernel_rfl)
theorem L6.s (k:Nat):CK 141 (L6.e k):=mS L6.d k [3] Tryz.func141 trivial ⟨Hy.s,trivial⟩ (by kernel_rfl) (λ x=>by kernel_rfl)
def B8.e (k:Nat):Ent:=⟨1,[(.val true t25)],[(.one,t5)],λ x=>B8 k x⟩
def B8.d:Fd := { nt:=37,nv:=1,nm:=[0,1,3,4],res:=[2],cs:=λ k=>[(53,Bn.e k),(137,Iz.e k),(138,D9.e k),(139,J0.e k),(140,Kh.e k),(141,L6.e k)] }
theorem B8.s (k:Nat):CK 115 (B8.e k):=mS B8.d k [] Tryz.func115 ⟨Bn.s k,Iz.s k,D9.s k,J0.s k,Kh.s k,L6.s k,trivial⟩ trivial (by kernel_rfl) (λ x=>by kernel_rfl)
def B5.e (k:Nat):Ent:=⟨1,[(.val false t13)],[(.one,t14)],λ x=>B5 k x⟩
def Bz.p:LF:=⟨⟨[],[(0,t13),(3,t14),(4,(.i .i64))]⟩,[((.exit 0),⟨[],[(3,t14)]⟩)],λ k x=>Bz k x.1 x.2.1 x.2.2⟩
def B5.d:Fd := { nt:=29,nv:=1,nm:=[0,1,3,4],res:=[2],ls:=[(3,Bz.p)] }
theorem Bz.s:LL Tryz.f156 B5.d 3 Bz.p:=mL [] (λ _=>trivial) trivial (by kernel_rfl) (λ _=>rfl) (λ k x=>by kernel_rfl)
theorem B5.s (k:Nat):CK 156 (B5.e k):=mS B5.d k [3] Tryz.func156 trivial ⟨Bz.s,trivial⟩ (by kernel_rfl) (λ x=>by kernel_rfl)
def Fz.e (k:Nat):Ent:=⟨1,[(.val false t13)],[(.one,t15)],λ x=>Fz k x⟩
def Id.p:LF:=⟨⟨[],[(0,t13),(3,t15),(4,(.i .i64))]⟩,[((.exit 0),⟨[],[(3,t15)]⟩)],λ k x=>Id k x.1 x.2.1 x.2.2⟩
def Fz.d:Fd := { nt:=29,nv:=1,nm:=[0,1,3,4],res:=[2],ls:=[(3,Id.p)],hint:=[(5,t12),(26,t12),(27,t12)] }
theorem Id.s:LL Tryz.f156 Fz.d 3 Id.p:=mL [] (λ _=>trivial) trivial (by kernel_rfl) (λ _=>rfl) (λ k x=>by kernel_rfl)
theorem Fz.s (k:Nat):CK 156 (Fz.e k):=mS Fz.d k [3] Tryz.func156 trivial ⟨Id.s,trivial⟩ (by kernel_rfl) (λ x=>by kernel_rfl)
def A6.e (k:Nat):Ent:=⟨1,[(.val true t27)],[(.agg,t29)],λ x=>A6 k x⟩
def A6.d:Fd := { nt:=10,nv:=1,nm:=[0,1],res:=[],cs:=λ k=>[(156,B5.e k)] }
theorem A6.s (k:Nat):CK 130 (A6.e k):=mS A6.d k [] Tryz.func130 ⟨B5.s k,trivial⟩ trivial (by kernel_rfl) (λ x=>by kernel_rfl)
def Jk.e (k:Nat):Ent:=⟨1,[(.val true t27)],[(.agg,t30)],λ x=>Jk k x⟩
def Jk.d:Fd := { nt:=10,nv:=1,nm:=[0,1],res:=[],cs:=λ k=>[(156,Fz.e k)] }
theorem Jk.s (k:Nat):CK 130 (Jk.e k):=mS Jk.d k [] Tryz.func130 ⟨Fz.s k,trivial⟩ trivial (by kernel_rfl) (λ x=>by kernel_rfl)
def Da.e (k:Nat):Ent:=⟨2,[(.val false t4),(.val false (.i .i64))],[(.one,(.i .i64)),(.one,(.i .i64)),(.one,.b)],λ x=>Da k x.1 x.2⟩
def Ec.p:LF:=⟨⟨[],[(0,t4),(1,(.i .i64)),(7,(.i .i64)),(8,(.i .i64))]⟩,[(.ret,⟨[],[(4,(.i .i64)),(5,(.i .i64)),(6,.b)]⟩),((.exit 0),⟨[],[]⟩)],λ k x=>Ec k x.1 x.2.1 x.2.2.1 x.2.2.2⟩
def Da.d:Fd := { nt:=64,nv:=2,nm:=[0,1,2,3,7,8,9],res:=[4,5,6],ls:=[(3,Ec.p)] }
theorem Ec.s:LL Tryz.f113 Da.d 3 Ec.p:=mL [] (λ _=>trivial) trivial (by kernel_rfl) (λ _=>rfl) (λ k x=>by kernel_rfl)
theorem Da.s (k:Nat):CK 113 (Da.e k):=mS Da.d k [3] Tryz.func113 trivial ⟨Ec.s,trivial⟩ (by kernel_rfl) (λ x=>by kernel_rfl)
def F7.e (k:Nat):Ent:=⟨2,[(.val false t4),(.val false (.i .i64))],[(.agg,t16),(.one,(.i .i64)),(.one,.b)],λ x=>F7 k x.1 x.2⟩
def F7.d:Fd := { nt:=49,nv:=2,nm:=[0,1,2,3,7,8,9,10,11,12,13,14,15],res:=[5,6],cs:=λ k=>[(113,Da.e k)] }
theorem F7.s (k:Nat):CK 112 (F7.e k):=mS F7.d k [] Tryz.func112 ⟨Da.s k,trivial⟩ trivial (by kernel_rfl) (λ x=>by kernel_rfl)
def J1.e (k:Nat):Ent:=⟨2,[(.val false t4),(.val false (.i .i64))],[(.one,.s),(.one,(.i .i64)),(.one,.b)],λ x=>J1 k x.1 x.2⟩
def J1.d:Fd := { nt:=37,nv:=2,nm:=[0,1,2,3,7,8,9],res:=[4,5,6],cs:=λ k=>[(113,Da.e k)] }
theorem J1.s (k:Nat):CK 114 (J1.e k):=mS J1.d k [] Tryz.func114 ⟨Da.s k,trivial⟩ trivial (by kernel_rfl) (λ x=>by kernel_rfl)
def C8.e (k:Nat):Ent:=⟨1,[(.val false t4)],[(.agg,t26),(.one,.b)],λ x=>C8 k x⟩
def C8.d:Fd := { nt:=76,nv:=1,nm:=[0,1,4,5,6,7,8,9,10,11,12,13],res:=[3],cs:=λ k=>[(53,Bn.e k),(112,F7.e k),(113,Da.e k),(114,J1.e k),(115,B8.e k)],mv:=[75] }
theorem C8.s (k:Nat):CK 81 (C8.e k):=mS C8.d k [] Tryz.func81 ⟨Bn.s k,F7.s k,Da.s k,J1.s k,B8.s k,trivial⟩ trivial (by kernel_rfl) (λ x=>by kernel_rfl)
def C0.e (k:Nat):Ent:=⟨2,[(.val false t13),(.val false .s)],[(.one,(.i .i64))],λ x=>C0 k x.1 x.2⟩
def J2.p:LF:=⟨⟨[],[(0,t13),(1,.s),(5,(.i .i64))]⟩,[(.ret,⟨[],[(4,(.i .i64))]⟩),((.exit 0),⟨[],[]⟩)],λ k x=>J2 k x.1 x.2.1 x.2.2⟩
def C0.d:Fd := { nt:=20,nv:=2,nm:=[0,1,2,3,5],res:=[4],ls:=[(2,J2.p)] }
theorem J2.s:LL Tryz.f84 C0.d 2 J2.p:=mL [] (λ _=>trivial) trivial (by kernel_rfl) (λ _=>rfl) (λ k x=>by kernel_rfl)
theorem C0.s (k:Nat):CK 84 (C0.e k):=mS C0.d k [2] Tryz.func84 trivial ⟨J2.s,trivial⟩ (by kernel_rfl) (λ x=>by kernel_rfl)
def Et.e (k:Nat):Ent:=⟨2,[(.val true t27),(.val false .s)],[(.one,t5),(.one,.b)],λ x=>Et k x.1 x.2⟩
def Et.d:Fd := { nt:=22,nv:=2,nm:=[0,1,2,3,6],res:=[4,5],cs:=λ k=>[(84,C0.e k)] }
theorem Et.s (k:Nat):CK 167 (Et.e k):=mS Et.d k [] Tryz.func167 ⟨C0.s k,trivial⟩ trivial (by kernel_rfl) (λ x=>by kernel_rfl)
def Hm.e (k:Nat):Ent:=⟨2,[(.val true t27),(.val false .s)],[(.agg,t26),(.one,(.i .i64))],λ x=>Hm k x.1 x.2⟩
def Hm.d:Fd := { nt:=28,nv:=2,nm:=[0,1,2,3,6,7,8,9],res:=[5],cs:=λ k=>[(81,C8.e k),(167,Et.e k)],mv:=[27] }
theorem Hm.s (k:Nat):CK 147 (Hm.e k):=mS Hm.d k [] Tryz.func147 ⟨C8.s k,Et.s k,trivial⟩ trivial (by kernel_rfl) (λ x=>by kernel_rfl)
def Im.e (k:Nat):Ent:=⟨2,[(.val false t13),(.val false .s)],[(.one,t14)],λ x=>Im k x.1 x.2⟩
def Hd.p:LF:=⟨⟨[],[(0,t13),(1,.s),(5,t14),(6,(.i .i64))]⟩,[((.exit 0),⟨[],[(5,t14)]⟩)],λ k x=>Hd k x.1 x.2.1 x.2.2.1 x.2.2.2⟩
def Im.d:Fd := { nt:=29,nv:=2,nm:=[0,1,2,3,5,6],res:=[4],ls:=[(3,Hd.p)] }
theorem Hd.s:LL Tryz.f169 Im.d 3 Hd.p:=mL [] (λ _=>trivial) trivial (by kernel_rfl) (λ _=>rfl) (λ k x=>by kernel_rfl)
theorem Im.s (k:Nat):CK 169 (Im.e k):=mS Im.d k [3] Tryz.func169 trivial ⟨Hd.s,trivial⟩ (by kernel_rfl) (λ x=>by kernel_rfl)
def Dr.e (k:Nat):Ent:=⟨3,[(.val true t27),(.val true t29),(.val false .s)],[(.agg,t29),(.one,.b)],λ x=>Dr k x.1 x.2.1 x.2.2⟩
def Dr.d:Fd := { nt:=24,nv:=3,nm:=[0,1,2,3,4,5],res:=[7],cs:=λ k=>[(52,Af.e k),(110,Ba.e k),(130,A6.e k)],mv:=[23] }
theorem Dr.s (k:Nat):CK 170 (Dr.e k):=mS Dr.d k [] Tryz.func170 ⟨Af.s k,Ba.s k,A6.s k,trivial⟩ trivial (by kernel_rfl) (λ x=>by kernel_rfl)
def Ez.e (k:Nat):Ent:=⟨3,[(.val false t13),(.val false .s),(.val false t4)],[(.one,t14)],λ x=>Ez k x.1 x.2.1 x.2.2⟩
def C6.p:LF:=⟨⟨[(9,(.bp 9 0 0)),(10999,(.hd 2))],[(0,t13),(1,.s),(7,t14),(8,.b),(10,(.i .i64)),(10000,.s),(10001,t4)]⟩,[((.exit 0),⟨[(9,(.bp 9 0 0)),(10999,(.hd 2))],[(7,t14),(8,.b),(10000,.s),(10001,t4)]⟩)],λ k x=>C6 k x.1 x.2.1 x.2.2.1 x.2.2.2.1 x.2.2.2.2.1 x.2.2.2.2.2.1 x.2.2.2.2.2.2⟩
def Ez.d:Fd := { nt:=59,nv:=3,nm:=[0,1,2,3,4,5,7,8,9,10],res:=[6],ls:=[(5,C6.p)] }
theorem C6.s:LL Tryz.f171 Ez.d 5 C6.p:=mL [] (λ _=>trivial) trivial (by kernel_rfl) (λ _=>rfl) (λ k x=>by kernel_rfl)
theorem Ez.s (k:Nat):CK 171 (Ez.e k):=mS Ez.d k [5] Tryz.func171 trivial ⟨C6.s,trivial⟩ (by kernel_rfl) (λ x=>by kernel_rfl)
def Ae.e (k:Nat):Ent:=⟨2,[(.val true t27),(.val false .s)],[(.agg,t29),(.one,.b)],λ x=>Ae k x.1 x.2⟩
def Ae.d:Fd := { nt:=35,nv:=2,nm:=[0,1,2,3,6,7,8],res:=[5],cs:=λ k=>[(130,A6.e k),(167,Et.e k),(169,Im.e k),(170,Dr.e k),(171,Ez.e k)] }
theorem Ae.s (k:Nat):CK 152 (Ae.e k):=mS Ae.d k [] Tryz.func152 ⟨A6.s k,Et.s k,Im.s k,Dr.s k,Ez.s k,trivial⟩ trivial (by kernel_rfl) (λ x=>by kernel_rfl)
def B4.e (k:Nat):Ent:=⟨3,[(.val true t27),(.val false .s),(.val false t4)],[(.agg,t29),(.one,.b)],λ x=>B4 k x.1 x.2.1 x.2.2⟩
def B4.d:Fd := { nt:=23,nv:=3,nm:=[0,1,2,3,4,5,8],res:=[7],cs:=λ k=>[(130,A6.e k),(170,Dr.e k),(171,Ez.e k)] }
theorem B4.s (k:Nat):CK 163 (B4.e k):=mS B4.d k [] Tryz.func163 ⟨A6.s k,Dr.s k,Ez.s k,trivial⟩ trivial (by kernel_rfl) (λ x=>by kernel_rfl)
def Jg.e (k:Nat):Ent:=⟨4,[(.val true t27),(.val false .s),(.val true t25),(.val false .b)],[(.agg,t29),(.one,(.i .i64))],λ x=>Jg k x.1 x.2.1 x.2.2.1 x.2.2.2⟩
def Jg.d:Fd := { nt:=82,nv:=4,nm:=[0,1,2,3,4,5,6,7,10,11,12,13,14,15],res:=[9],cs:=λ k=>[(52,Af.e k),(53,Bn.e k),(85,Ja.e k),(110,Ba.e k),(115,B8.e k),(130,A6.e k),(147,Hm.e k),(152,Ae.e k),(163,B4.e k)],mv:=[58,81] }
theorem Jg.s (k:Nat):CK 150 (Jg.e k):=mS Jg.d k [] Tryz.func150 ⟨Af.s k,Bn.s k,Ja.s k,Ba.s k,B8.s k,A6.s k,Hm.s k,Ae.s k,B4.s k,trivial⟩ trivial (by kernel_rfl) (λ x=>by kernel_rfl)
def Jq.e (k:Nat):Ent:=⟨4,[(.ptr t40 t40),(.val false .s),(.val true t25),(.val false .b)],[(.one,(.i .i64))],λ x=>Jq k x.1 x.2.1 x.2.2.1 x.2.2.2⟩
def Jq.d:Fd := { nt:=52,nv:=4,nm:=[0,1,2,3,4,5,6,7,9,10],res:=[8],cs:=λ k=>[(83,Ey.e k),(150,Jg.e k)] }
theorem Jq.s (k:Nat):CK 145 (Jq.e k):=mS Jq.d k [] Tryz.func145 ⟨Ey.s k,Jg.s k,trivial⟩ trivial (by kernel_rfl) (λ x=>by kernel_rfl)
def Hz.e (k:Nat):Ent:=⟨4,[(.ptr t41 t42),(.val false .s),(.val true t25),(.val false .b)],[(.one,(.i .i64))],λ x=>Hz k x.1 x.2.1 x.2.2.1 x.2.2.2⟩
def Hz.d:Fd := { nt:=52,nv:=4,nm:=[0,1,2,3,4,5,6,7,9,10],res:=[8],cs:=λ k=>[(83,Ey.e k),(150,Jg.e k)] }
theorem Hz.s (k:Nat):CK 145 (Hz.e k):=mS Hz.d k [] Tryz.func145 ⟨Ey.s k,Jg.s k,trivial⟩ trivial (by kernel_rfl) (λ x=>by kernel_rfl)
def Jr.e (k:Nat):Ent:=⟨1,[(.val false (.i .i64))],[(.one,(.i .i64))],λ x=>Jr x⟩
def Jr.d:Fd := { nt:=6,nv:=1,nm:=[0,1],res:=[2],rf:=true }
theorem Jr.s (k:Nat):CK 146 (Jr.e k):=mS Jr.d k [] Tryz.func146 trivial trivial (by kernel_rfl) (λ x=>by kernel_rfl)
def Bq.e (k:Nat):Ent:=⟨4,[(.ptr t51 t51),(.val false .s),(.val true t25),(.val false t6)],[(.one,(.i .i64))],λ x=>Bq k x.1 x.2.1 x.2.2.1 x.2.2.2⟩
def Ax.p:LF:=⟨⟨[(0,(.bp 0 0 0)),(6,(.bp 6 0 0)),(1999,(.hd 9)),(7999,(.hd 5))],[(1,.s),(3,t6),(9,t7),(10,(.i .i64)),(11,(.i .i64)),(12,(.i .i64)),(1000,t51),(7000,t25)]⟩,[((.exit 0),⟨[(0,(.bp 0 0 0)),(6,(.bp 6 0 0)),(1999,(.hd 9)),(7999,(.hd 5))],[(1,.s),(11,(.i .i64)),(1000,t51),(7000,t25)]⟩)],λ k x=>Ax k x.1 x.2.1 x.2.2.1 x.2.2.2.1 x.2.2.2.2.1 x.2.2.2.2.2.1 x.2.2.2.2.2.2.1 x.2.2.2.2.2.2.2⟩
def Bq.d:Fd := { nt:=92,nv:=4,nm:=[0,1,2,3,4,5,6,7,9,10,11,12,13,14,15],res:=[8],cs:=λ k=>[(97,Bd.e k),(143,Dw.e k),(144,Bs.e k),(145,Jq.e k),(146,Jr.e k)],ls:=[(5,Ax.p)],gh:=[(1000006,[.cl 1003])],opn:=[51],rf:=true }
theorem Bq.a (k:Nat):AC (Bq.d.cs k):=⟨Bd.s k,Dw.s k,Bs.s k,Jq.s k,Jr.s k,trivial⟩
theorem Ax.s:LL Tryz.f120 Bq.d 5 Ax.p:=mL [] Bq.a trivial (by kernel_rfl) (λ _=>rfl) (λ k x=>by kernel_rfl)
theorem Bq.s (k:Nat):CK 120 (Bq.e k):=mS Bq.d k [5] Tryz.func120 (Bq.a k) ⟨Ax.s,trivial⟩ (by kernel_rfl) (λ x=>by kernel_rfl)
def He.e (k:Nat):Ent:=⟨5,[(.ptr t51 t51),(.val false .s),(.val true t25),(.val false (.i .i64)),(.val false t6)],[(.one,(.i .i64))],λ x=>He k x.1 x.2.1 x.2.2.1 x.2.2.2.1 x.2.2.2.2⟩
def He.d:Fd := { nt:=57,nv:=5,nm:=[0,1,2,3,4,5,6,7,8,9],res:=[10],cs:=λ k=>[(52,Af.e k),(77,A8.e k),(119,Gp.e k),(120,Bq.e k)],rf:=true }
theorem He.s (k:Nat):CK 88 (He.e k):=mS He.d k [] Tryz.func88 ⟨Af.s k,A8.s k,Gp.s k,Bq.s k,trivial⟩ trivial (by kernel_rfl) (λ x=>by kernel_rfl)
def B6.e (k:Nat):Ent:=⟨2,[(.val true t27),(.val false .s)],[(.agg,t29),(.one,.b)],λ x=>B6 k x.1 x.2⟩
def B6.d:Fd := { nt:=26,nv:=2,nm:=[0,1,2,3,6],res:=[5],cs:=λ k=>[(84,C0.e k),(130,A6.e k),(169,Im.e k),(170,Dr.e k)],mv:=[14] }
theorem B6.s (k:Nat):CK 151 (B6.e k):=mS B6.d k [] Tryz.func151 ⟨C0.s k,A6.s k,Im.s k,Dr.s k,trivial⟩ trivial (by kernel_rfl) (λ x=>by kernel_rfl)
def Ca.e (k:Nat):Ent:=⟨4,[(.ptr t51 t51),(.val false (.i .i64)),(.val false .s),(.val false t6)],[(.one,.b)],λ x=>Ca k x.1 x.2.1 x.2.2.1 x.2.2.2⟩
def Bb.p:LF:=⟨⟨[(0,(.bp 0 0 0)),(9,(.bp 9 0 0)),(1999,(.hd 9)),(10999,(.hd 5))],[(1,(.i .i64)),(2,.s),(3,t6),(11,t7),(12,.b),(13,.b),(14,(.i .i64)),(1000,t51),(10000,t25)]⟩,[((.exit 0),⟨[(0,(.bp 0 0 0)),(1999,(.hd 9))],[(1,(.i .i64)),(2,.s),(12,.b),(13,.b),(1000,t51)]⟩)],λ k x=>Bb k x.1 x.2.1 x.2.2.1 x.2.2.2.1 x.2.2.2.2.1 x.2.2.2.2.2.1 x.2.2.2.2.2.2.1 x.2.2.2.2.2.2.2.1 x.2.2.2.2.2.2.2.2⟩
def Ca.d:Fd := { nt:=125,nv:=4,nm:=[0,1,2,3,4,5,6,7,9,10,11,12,13,14,15,16,17,18],res:=[8],cs:=λ k=>[(144,Bs.e k),(147,Hm.e k),(148,B2.e k),(149,B3.e k),(150,Jg.e k),(151,B6.e k),(152,Ae.e k)],ls:=[(8,Bb.p)],rf:=true }
theorem Ca.a (k:Nat):AC (Ca.d.cs k):=⟨Bs.s k,Hm.s k,B2.s k,B3.s k,Jg.s k,B6.s k,Ae.s k,trivial⟩
theorem Bb.s:LL Tryz.f121 Ca.d 8 Bb.p:=mL [] Ca.a trivial (by kernel_rfl) (λ _=>rfl) (λ k x=>by kernel_rfl)
theorem Ca.s (k:Nat):CK 121 (Ca.e k):=mS Ca.d k [8] Tryz.func121 (Ca.a k) ⟨Bb.s,trivial⟩ (by kernel_rfl) (λ x=>by kernel_rfl)
def J3.e (k:Nat):Ent:=⟨2,[(.val true t28),(.val true t28)],[(.one,.b)],λ x=>J3 x.1 x.2⟩
def J3.d:Fd := { nt:=29,nv:=2,nm:=[0,1,2,3],res:=[4],cs:=λ k=>[(54,Aw.e k)] }
theorem J3.s (k:Nat):CK 174 (J3.e k):=mS J3.d k [] Tryz.func174 ⟨Aw.s k,trivial⟩ trivial (by kernel_rfl) (λ x=>by kernel_rfl)
def Be.e (k:Nat):Ent:=⟨2,[(.val false t31),(.val true t28)],[(.one,t32)],λ x=>Be k x.1 x.2⟩
def Db.p:LF:=⟨⟨[(3,(.bp 3 0 0)),(4999,(.hd 6))],[(5,t32),(7,(.i .i64)),(4000,.s),(4001,(.i .i64)),(4002,(.i .i64)),(4003,(.i .i64)),(4004,.b),(4005,(.i .i64))]⟩,[((.exit 2),⟨[(3,(.bp 3 0 0)),(4999,(.hd 6))],[(5,t32),(7,(.i .i64)),(4000,.s),(4001,(.i .i64)),(4002,(.i .i64)),(4003,(.i .i64)),(4004,.b),(4005,(.i .i64))]⟩)],λ k x=>Db k x.1 x.2.1 x.2.2.1 x.2.2.2.1 x.2.2.2.2.1 x.2.2.2.2.2.1 x.2.2.2.2.2.2.1 x.2.2.2.2.2.2.2⟩
def Dx.p:LF:=⟨⟨[(3,(.bp 3 0 0)),(4999,(.hd 6))],[(5,t32),(6,(.i .i64)),(4000,.s),(4001,(.i .i64)),(4002,(.i .i64)),(4003,(.i .i64)),(4004,.b),(4005,(.i .i64))]⟩,[(.ret,⟨[],[(4,t32)]⟩),((.exit 0),⟨[(3,(.bp 3 0 0)),(4999,(.hd 6))],[(5,t32),(4000,.s),(4001,(.i .i64)),(4002,(.i .i64)),(4003,(.i .i64)),(4004,.b),(4005,(.i .i64))]⟩)],λ k x=>Dx k x.1 x.2.1 x.2.2.1 x.2.2.2.1 x.2.2.2.2.1 x.2.2.2.2.2.1 x.2.2.2.2.2.2.1 x.2.2.2.2.2.2.2⟩
def Be.d:Fd := { nt:=70,nv:=2,nm:=[0,1,2,3,5,6,7],res:=[4],cs:=λ k=>[(174,J3.e k)],ls:=[(11,Db.p),(3,Dx.p)] }
theorem Be.a (k:Nat):AC (Be.d.cs k):=⟨J3.s k,trivial⟩
theorem Db.s:LL Tryz.f162 Be.d 11 Db.p:=mL [] Be.a trivial (by kernel_rfl) (λ _=>rfl) (λ k x=>by kernel_rfl)
theorem Dx.s:LL Tryz.f162 Be.d 3 Dx.p:=mL [] Be.a trivial (by kernel_rfl) (λ _=>rfl) (λ k x=>by kernel_rfl)
theorem Be.s (k:Nat):CK 162 (Be.e k):=mS Be.d k [3,11] Tryz.func162 (Be.a k) ⟨Dx.s,Db.s,trivial⟩ (by kernel_rfl) (λ x=>by kernel_rfl)
def Bj.e (k:Nat):Ent:=⟨2,[(.val false t31),(.val false t31)],[(.one,t32)],λ x=>Bj k x.1 x.2⟩
def Dc.p:LF:=⟨⟨[],[(1,t31),(5,t32),(6,(.i .i64))]⟩,[((.exit 0),⟨[],[(5,t32)]⟩)],λ k x=>Dc k x.1 x.2.1 x.2.2⟩
def Bj.d:Fd := { nt:=23,nv:=2,nm:=[0,1,2,3,5,6],res:=[4],cs:=λ k=>[(162,Be.e k)],ls:=[(3,Dc.p)] }
theorem Bj.a (k:Nat):AC (Bj.d.cs k):=⟨Be.s k,trivial⟩
theorem Dc.s:LL Tryz.f173 Bj.d 3 Dc.p:=mL [] Bj.a trivial (by kernel_rfl) (λ _=>rfl) (λ k x=>by kernel_rfl)
theorem Bj.s (k:Nat):CK 173 (Bj.e k):=mS Bj.d k [3] Tryz.func173 (Bj.a k) ⟨Dc.s,trivial⟩ (by kernel_rfl) (λ x=>by kernel_rfl)
def Hn.e (k:Nat):Ent:=⟨2,[(.ptr t40 t40),(.val false t31)],[(.one,.b)],λ x=>Hn k x.1 x.2⟩
def Hn.d:Fd := { nt:=19,nv:=2,nm:=[0,1,2,3,5],res:=[4],cs:=λ k=>[(173,Bj.e k)] }
theorem Hn.s (k:Nat):CK 161 (Hn.e k):=mS Hn.d k [] Tryz.func161 ⟨Bj.s k,trivial⟩ trivial (by kernel_rfl) (λ x=>by kernel_rfl)
def Gq.e (k:Nat):Ent:=⟨2,[(.ptr t41 t43),(.val false t31)],[(.one,.b)],λ x=>Gq k x.1 x.2⟩
def Gq.d:Fd := { nt:=19,nv:=2,nm:=[0,1,2,3,5],res:=[4],cs:=λ k=>[(173,Bj.e k)] }
theorem Gq.s (k:Nat):CK 161 (Gq.e k):=mS Gq.d k [] Tryz.func161 ⟨Bj.s k,trivial⟩ trivial (by kernel_rfl) (λ x=>by kernel_rfl)
def Gg.e (k:Nat):Ent:=⟨1,[(.val true t48)],[(.one,t7)],λ x=>Gg k x⟩
def Gg.d:Fd := { nt:=8,nv:=1,nm:=[0,1],res:=[2],cs:=λ k=>[(148,B2.e k),(149,B3.e k)],rf:=true }
theorem Gg.s (k:Nat):CK 172 (Gg.e k):=mS Gg.d k [] Tryz.func172 ⟨B2.s k,B3.s k,trivial⟩ trivial (by kernel_rfl) (λ x=>by kernel_rfl)
def Bf.e (k:Nat):Ent:=⟨5,[(.ptr t51 t51),(.val false (.i .i64)),(.val false t31),(.val false .b),(.val false t6)],[(.one,.b)],λ x=>Bf k x.1 x.2.1 x.2.2.1 x.2.2.2.1 x.2.2.2.2⟩
def Ad.p:LF:=⟨⟨[(0,(.bp 0 0 0)),(1999,(.hd 9))],[(1,(.i .i64)),(2,t31),(3,.b),(4,t6),(11,t7),(12,.b),(13,(.i .i64)),(1000,t51)]⟩,[((.exit 0),⟨[(1999,(.hd 9))],[(12,.b),(1000,t51)]⟩)],λ k x=>Ad k x.1 x.2.1 x.2.2.1 x.2.2.2.1 x.2.2.2.2.1 x.2.2.2.2.2.1 x.2.2.2.2.2.2.1 x.2.2.2.2.2.2.2⟩
def Bf.d:Fd := { nt:=53,nv:=5,nm:=[0,1,2,3,4,5,6,7,8,9,11,12,13],res:=[10],cs:=λ k=>[(144,Bs.e k),(161,Hn.e k),(172,Gg.e k)],ls:=[(4,Ad.p)],gh:=[(1000005,[.cl 1003])],opn:=[47],rf:=true }
theorem Bf.a (k:Nat):AC (Bf.d.cs k):=⟨Bs.s k,Hn.s k,Gg.s k,trivial⟩
theorem Ad.s:LL Tryz.f153 Bf.d 4 Ad.p:=mL [] Bf.a trivial (by kernel_rfl) (λ _=>rfl) (λ k x=>by kernel_rfl)
theorem Bf.s (k:Nat):CK 153 (Bf.e k):=mS Bf.d k [4] Tryz.func153 (Bf.a k) ⟨Ad.s,trivial⟩ (by kernel_rfl) (λ x=>by kernel_rfl)
def It.e (k:Nat):Ent:=⟨2,[(.val true t48),(.val false (.i .i64))],[(.one,.b)],λ x=>It k x.1 x.2⟩
def It.d:Fd := { nt:=9,nv:=2,nm:=[0,1,2,3],res:=[4],cs:=λ k=>[(108,C7.e k),(172,Gg.e k)],rf:=true }
theorem It.s (k:Nat):CK 154 (It.e k):=mS It.d k [] Tryz.func154 ⟨C7.s k,Gg.s k,trivial⟩ trivial (by kernel_rfl) (λ x=>by kernel_rfl)
def Gr.e (k:Nat):Ent:=⟨3,[(.ptr t51 t51),(.val false (.i .i64)),(.val false t6)],[(.one,.b)],λ x=>Gr k x.1 x.2.1 x.2.2⟩
def Gr.d:Fd := { nt:=47,nv:=3,nm:=[0,1,2,3,4,5,7],res:=[6],cs:=λ k=>[(153,Bf.e k),(154,It.e k)],rf:=true }
theorem Gr.s (k:Nat):CK 122 (Gr.e k):=mS Gr.d k [] Tryz.func122 ⟨Bf.s k,It.s k,trivial⟩ trivial (by kernel_rfl) (λ x=>by kernel_rfl)
def Gt.e (k:Nat):Ent:=⟨3,[(.ptr t51 t51),(.val false (.i .i64)),(.val false t6)],[(.one,.b)],λ x=>Gt k x.1 x.2.1 x.2.2⟩
def Gt.d:Fd := { nt:=36,nv:=3,nm:=[0,1,2,3,4,5,7],res:=[6],cs:=λ k=>[(153,Bf.e k)],rf:=true }
theorem Gt.s (k:Nat):CK 123 (Gt.e k):=mS Gt.d k [] Tryz.func123 ⟨Bf.s k,trivial⟩ trivial (by kernel_rfl) (λ x=>by kernel_rfl)
def Ie.e (k:Nat):Ent:=⟨1,[(.val true t27)],[(.agg,t29),(.one,(.i .i64))],λ x=>Ie k x⟩
def Hf.p:LF:=⟨⟨[(1,(.bp 1 0 0)),(2,(.bp 2 0 0)),(4,(.bp 4 0 0)),(2999,(.hd 2)),(3999,(.hd 2)),(5999,(.hd 2))],[(5,(.i .i64)),(6,(.i .i64)),(2000,t27),(3000,t29),(5000,t29)]⟩,[((.exit 0),⟨[(2,(.bp 2 0 0)),(4,(.bp 4 0 0)),(3999,(.hd 2)),(5999,(.hd 2))],[(5,(.i .i64)),(3000,t29),(5000,t29)]⟩)],λ k x=>Hf k x.1 x.2.1 x.2.2.1 x.2.2.2.1 x.2.2.2.2⟩
def Ie.d:Fd := { nt:=53,nv:=1,nm:=[0,1,4,5,6,7,8,9],res:=[3],cs:=λ k=>[(110,Ba.e k),(130,A6.e k),(147,Hm.e k),(151,B6.e k),(152,Ae.e k)],ls:=[(4,Hf.p)],mv:=[51],rf:=true }
theorem Ie.a (k:Nat):AC (Ie.d.cs k):=⟨Ba.s k,A6.s k,Hm.s k,B6.s k,Ae.s k,trivial⟩
theorem Hf.s:LL Tryz.f124 Ie.d 4 Hf.p:=mL [] Ie.a trivial (by kernel_rfl) (λ _=>rfl) (λ k x=>by kernel_rfl)
theorem Ie.s (k:Nat):CK 124 (Ie.e k):=mS Ie.d k [4] Tryz.func124 (Ie.a k) ⟨Hf.s,trivial⟩ (by kernel_rfl) (λ x=>by kernel_rfl)
def C9.e (k:Nat):Ent:=⟨2,[(.val false t13),(.val false t13)],[(.one,t2)],λ x=>C9 k x.1 x.2⟩
def Dy.p:LF:=⟨⟨[],[(5,t14),(8,t2),(9,(.i .i64))]⟩,[((.exit 4),⟨[],[(8,t2)]⟩)],λ k x=>Dy k x.1 x.2.1 x.2.2⟩
def F8.p:LF:=⟨⟨[],[(1,t13),(5,t14),(7,(.i .i64))]⟩,[((.exit 2),⟨[],[(5,t14)]⟩)],λ k x=>F8 k x.1 x.2.1 x.2.2⟩
def F9.p:LF:=⟨⟨[],[(0,t13),(1,t13),(5,t14),(6,(.i .i64))]⟩,[((.exit 0),⟨[],[(1,t13),(5,t14)]⟩)],λ k x=>F9 k x.1 x.2.1 x.2.2.1 x.2.2.2⟩
def C9.d:Fd := { nt:=55,nv:=2,nm:=[0,1,2,3,5,6,7,8,9],res:=[4],cs:=λ k=>[(171,Ez.e k)],ls:=[(12,Dy.p),(7,F8.p),(3,F9.p)],rf:=true }
theorem C9.a (k:Nat):AC (C9.d.cs k):=⟨Ez.s k,trivial⟩
theorem Dy.s:LL Tryz.f155 C9.d 12 Dy.p:=mL [] C9.a trivial (by kernel_rfl) (λ _=>rfl) (λ k x=>by kernel_rfl)
theorem F8.s:LL Tryz.f155 C9.d 7 F8.p:=mL [] C9.a trivial (by kernel_rfl) (λ _=>rfl) (λ k x=>by kernel_rfl)
theorem F9.s:LL Tryz.f155 C9.d 3 F9.p:=mL [] C9.a trivial (by kernel_rfl) (λ _=>rfl) (λ k x=>by kernel_rfl)
theorem C9.s (k:Nat):CK 155 (C9.e k):=mS C9.d k [3,7,12] Tryz.func155 (C9.a k) ⟨F9.s,F8.s,Dy.s,trivial⟩ (by kernel_rfl) (λ x=>by kernel_rfl)
def Cu.e (k:Nat):Ent:=⟨2,[(.val true t27),(.val false t1)],[(.agg,t29)],λ x=>Cu k x.1 x.2⟩
def Am.p:LF:=⟨⟨[(2,(.bp 2 0 0)),(4,(.bp 4 0 0)),(3999,(.hd 2)),(5999,(.hd 2))],[(1,t1),(5,t2),(6,t14),(7,(.i .i64)),(3000,t27),(5000,t29)]⟩,[((.exit 0),⟨[(2,(.bp 2 0 0)),(4,(.bp 4 0 0)),(3999,(.hd 2)),(5999,(.hd 2))],[(6,t14),(3000,t27),(5000,t29)]⟩)],λ k x=>Am k x.1 x.2.1 x.2.2.1 x.2.2.2.1 x.2.2.2.2.1 x.2.2.2.2.2⟩
def Cu.d:Fd := { nt:=66,nv:=2,nm:=[0,1,2,3,5,6,7,8,9],res:=[],cs:=λ k=>[(84,C0.e k),(110,Ba.e k),(130,A6.e k),(155,C9.e k),(156,B5.e k)],ls:=[(6,Am.p)],rf:=true }
theorem Cu.a (k:Nat):AC (Cu.d.cs k):=⟨C0.s k,Ba.s k,A6.s k,C9.s k,B5.s k,trivial⟩
theorem Am.s:LL Tryz.f125 Cu.d 6 Am.p:=mL [] Cu.a trivial (by kernel_rfl) (λ _=>rfl) (λ k x=>by kernel_rfl)
theorem Cu.s (k:Nat):CK 125 (Cu.e k):=mS Cu.d k [6] Tryz.func125 (Cu.a k) ⟨Am.s,trivial⟩ (by kernel_rfl) (λ x=>by kernel_rfl)
def I0.e (k:Nat):Ent:=⟨1,[(.val true t28)],[(.one,.b)],λ x=>I0 k x⟩
def I0.d:Fd := { nt:=26,nv:=1,nm:=[0,1],res:=[2],cs:=λ k=>[(51,Bt.e k),(52,Af.e k),(77,A8.e k)] }
theorem I0.s (k:Nat):CK 109 (I0.e k):=mS I0.d k [] Tryz.func109 ⟨Bt.s k,Af.s k,A8.s k,trivial⟩ trivial (by kernel_rfl) (λ x=>by kernel_rfl)
def Ds.e (k:Nat):Ent:=⟨1,[(.val false t31)],[(.one,.b)],λ x=>Ds k x⟩
def Fu.p:LF:=⟨⟨[],[(0,t31),(3,(.i .i64))]⟩,[(.ret,⟨[],[(2,.b)]⟩),((.exit 0),⟨[],[(0,t31)]⟩)],λ k x=>Fu k x.1 x.2⟩
def Ds.d:Fd := { nt:=37,nv:=1,nm:=[0,1,3],res:=[2],cs:=λ k=>[(109,I0.e k)],ls:=[(2,Fu.p)] }
theorem Ds.a (k:Nat):AC (Ds.d.cs k):=⟨I0.s k,trivial⟩
theorem Fu.s:LL Tryz.f111 Ds.d 2 Fu.p:=mL [] Ds.a trivial (by kernel_rfl) (λ _=>rfl) (λ k x=>by kernel_rfl)
theorem Ds.s (k:Nat):CK 111 (Ds.e k):=mS Ds.d k [2] Tryz.func111 (Ds.a k) ⟨Fu.s,trivial⟩ (by kernel_rfl) (λ x=>by kernel_rfl)
def Bo.e (k:Nat):Ent:=⟨1,[(.val true t40)],[(.one,.b)],λ x=>Bo k x⟩
def Gu.p:LF:=⟨⟨[(1,(.bp 1 0 0)),(2999,(.hd 5))],[(3,(.i .i64)),(2000,(.i .i64)),(2001,t13),(2002,t13),(2003,t31),(2004,t31)]⟩,[(.ret,⟨[],[(2,.b)]⟩),((.exit 0),⟨[(1,(.bp 1 0 0)),(2999,(.hd 5))],[(2000,(.i .i64)),(2001,t13),(2002,t13),(2003,t31),(2004,t31)]⟩)],λ k x=>Gu k x.1 x.2.1 x.2.2.1 x.2.2.2.1 x.2.2.2.2.1 x.2.2.2.2.2⟩
def Bo.d:Fd := { nt:=37,nv:=1,nm:=[0,1,3],res:=[2],cs:=λ k=>[(77,A8.e k),(109,I0.e k),(110,Ba.e k),(111,Ds.e k)],ls:=[(2,Gu.p)] }
theorem Bo.a (k:Nat):AC (Bo.d.cs k):=⟨A8.s k,I0.s k,Ba.s k,Ds.s k,trivial⟩
theorem Gu.s:LL Tryz.f80 Bo.d 2 Gu.p:=mL [] Bo.a trivial (by kernel_rfl) (λ _=>rfl) (λ k x=>by kernel_rfl)
theorem Bo.s (k:Nat):CK 80 (Bo.e k):=mS Bo.d k [2] Tryz.func80 (Bo.a k) ⟨Gu.s,trivial⟩ (by kernel_rfl) (λ x=>by kernel_rfl)
def B9.e (k:Nat):Ent:=⟨1,[(.val true t40)],[(.agg,t41)],λ x=>B9 k x⟩
def B9.d:Fd := { nt:=17,nv:=1,nm:=[0,1],res:=[],cs:=λ k=>[(130,A6.e k)] }
theorem B9.s (k:Nat):CK 96 (B9.e k):=mS B9.d k [] Tryz.func96 ⟨A6.s k,trivial⟩ trivial (by kernel_rfl) (λ x=>by kernel_rfl)
def Js.e (k:Nat):Ent:=⟨3,[(.val true t27),(.val false .s),(.val false (.i .i64))],[(.agg,t30),(.one,.b)],λ x=>Js k x.1 x.2.1 x.2.2⟩
def Js.d:Fd := { nt:=97,nv:=3,nm:=[0,1,2,3,4,5,8,9,10,11],res:=[7],cs:=λ k=>[(77,A8.e k),(84,C0.e k),(110,Ba.e k),(130,Jk.e k)],mv:=[39,96] }
theorem Js.s (k:Nat):CK 157 (Js.e k):=mS Js.d k [] Tryz.func157 ⟨A8.s k,C0.s k,Ba.s k,Jk.s k,trivial⟩ trivial (by kernel_rfl) (λ x=>by kernel_rfl)
def Ee.e (k:Nat):Ent:=⟨3,[(.val true t40),(.val false .s),(.val false (.i .i64))],[(.agg,t42),(.one,.b)],λ x=>Ee k x.1 x.2.1 x.2.2⟩
def Ee.d:Fd := { nt:=44,nv:=3,nm:=[0,1,2,3,4,5,8,9,10,11,12],res:=[7],cs:=λ k=>[(80,Bo.e k),(96,B9.e k),(147,Hm.e k),(157,Js.e k)],mv:=[29,40,43] }
theorem Ee.s (k:Nat):CK 126 (Ee.e k):=mS Ee.d k [] Tryz.func126 ⟨Bo.s k,B9.s k,Hm.s k,Js.s k,trivial⟩ trivial (by kernel_rfl) (λ x=>by kernel_rfl)
def Em.e (k:Nat):Ent:=⟨2,[(.val false t0),(.val false .s)],[(.one,.b)],λ x=>Em k x.1 x.2⟩
def Gv.p:LF:=⟨⟨[],[(0,t0),(1,.s),(5,(.i .i64))]⟩,[(.ret,⟨[],[(4,.b)]⟩),((.exit 0),⟨[],[]⟩)],λ k x=>Gv k x.1 x.2.1 x.2.2⟩
def Em.d:Fd := { nt:=18,nv:=2,nm:=[0,1,2,3,5],res:=[4],ls:=[(2,Gv.p)],rf:=true }
theorem Gv.s:LL Tryz.f57 Em.d 2 Gv.p:=mL [] (λ _=>trivial) trivial (by kernel_rfl) (λ _=>rfl) (λ k x=>by kernel_rfl)
theorem Em.s (k:Nat):CK 57 (Em.e k):=mS Em.d k [2] Tryz.func57 trivial ⟨Gv.s,trivial⟩ (by kernel_rfl) (λ x=>by kernel_rfl)
def Cv.e (k:Nat):Ent:=⟨2,[(.val false t0),(.val false .s)],[(.one,t0)],λ x=>Cv k x.1 x.2⟩
def Dz.p:LF:=⟨⟨[],[(1,.s),(5,t2),(6,(.i .i64))]⟩,[((.exit 0),⟨[],[(1,.s),(5,t2),(6,(.i .i64))]⟩)],λ k x=>Dz k x.1 x.2.1 x.2.2⟩
def Cv.d:Fd := { nt:=46,nv:=2,nm:=[0,1,2,3,5,6],res:=[4],cs:=λ k=>[(57,Em.e k)],ls:=[(5,Dz.p)],rf:=true }
theorem Cv.a (k:Nat):AC (Cv.d.cs k):=⟨Em.s k,trivial⟩
theorem Dz.s:LL Tryz.f127 Cv.d 5 Dz.p:=mL [] Cv.a trivial (by kernel_rfl) (λ _=>rfl) (λ k x=>by kernel_rfl)
theorem Cv.s (k:Nat):CK 127 (Cv.e k):=mS Cv.d k [5] Tryz.func127 (Cv.a k) ⟨Dz.s,trivial⟩ (by kernel_rfl) (λ x=>by kernel_rfl)
def Ar.e (k:Nat):Ent:=⟨2,[(.ptr t51 t51),(.val true t34)],[(.one,.b)],λ x=>Ar k x.1 x.2⟩
def Cj.p:LF:=⟨⟨[(0,(.bp 0 0 0)),(3,(.bp 3 0 0)),(1999,(.hd 9)),(4999,(.hd 6))],[(5,t3),(6,(.i .i64)),(1000,t51),(4000,t34)]⟩,[((.exit 1),⟨[(0,(.bp 0 0 0)),(3,(.bp 3 0 0)),(1999,(.hd 9)),(4999,(.hd 6))],[(5,t3),(1000,t51),(4000,t34)]⟩)],λ k x=>Cj k x.1 x.2.1 x.2.2.1 x.2.2.2⟩
def Ar.d:Fd := { nt:=134,nv:=2,nm:=[0,1,2,3,5,6,7,8],res:=[4],cs:=λ k=>[(121,Ca.e k),(122,Gr.e k),(123,Gt.e k),(124,Ie.e k),(125,Cu.e k),(126,Ee.e k),(127,Cv.e k)],ls:=[(14,Cj.p)],rf:=true }
theorem Ar.a (k:Nat):AC (Ar.d.cs k):=⟨Ca.s k,Gr.s k,Gt.s k,Ie.s k,Cu.s k,Ee.s k,Cv.s k,trivial⟩
theorem Cj.s:LL Tryz.f89 Ar.d 14 Cj.p:=mL [] Ar.a trivial (by kernel_rfl) (λ _=>rfl) (λ k x=>by kernel_rfl)
theorem Ar.s (k:Nat):CK 89 (Ar.e k):=mS Ar.d k [14] Tryz.func89 (Ar.a k) ⟨Cj.s,trivial⟩ (by kernel_rfl) (λ x=>by kernel_rfl)
def Io.e (k:Nat):Ent:=⟨1,[(.val true t17)],[(.agg,t19)],λ x=>Io k x⟩
def Fv.p:LF:=⟨⟨[(1,(.bp 1 0 0)),(2,(.bp 2 0 0)),(3,(.bp 3 0 0)),(2999,(.hd 2)),(3999,(.hd 2)),(4999,(.hd 2))],[(4,(.i .i64)),(2000,t17),(3000,t19),(4000,t19)]⟩,[((.exit 0),⟨[(2,(.bp 2 0 0)),(3,(.bp 3 0 0)),(3999,(.hd 2)),(4999,(.hd 2))],[(3000,t19),(4000,t19)]⟩)],λ k x=>Fv k x.1 x.2.1 x.2.2.1 x.2.2.2⟩
def Io.d:Fd := { nt:=30,nv:=1,nm:=[0,1,3,4],res:=[],ls:=[(3,Fv.p)],mv:=[29],rf:=true }
theorem Fv.s:LL Tryz.f95 Io.d 3 Fv.p:=mL [] (λ _=>trivial) trivial (by kernel_rfl) (λ _=>rfl) (λ k x=>by kernel_rfl)
theorem Io.s (k:Nat):CK 95 (Io.e k):=mS Io.d k [3] Tryz.func95 trivial ⟨Fv.s,trivial⟩ (by kernel_rfl) (λ x=>by kernel_rfl)
def Iu.e (k:Nat):Ent:=⟨1,[(.val true t17)],[(.agg,t18)],λ x=>Iu k x⟩
def K8.p:LF:=⟨⟨[(1,(.bp 1 0 0)),(2,(.bp 2 0 0)),(3,(.bp 3 0 0)),(2999,(.hd 2)),(3999,(.hd 2)),(4999,(.hd 2))],[(4,(.i .i64)),(2000,t17),(3000,t19),(4000,t18)]⟩,[((.exit 0),⟨[(2,(.bp 2 0 0)),(3,(.bp 3 0 0)),(3999,(.hd 2)),(4999,(.hd 2))],[(3000,t19),(4000,t18)]⟩)],λ k x=>K8 k x.1 x.2.1 x.2.2.1 x.2.2.2⟩
def Iu.d:Fd := { nt:=30,nv:=1,nm:=[0,1,3,4],res:=[],ls:=[(3,K8.p)],hint:=[(26,t7),(27,t7)],mv:=[29],rf:=true }
theorem K8.s:LL Tryz.f95 Iu.d 3 K8.p:=mL [] (λ _=>trivial) trivial (by kernel_rfl) (λ _=>rfl) (λ k x=>by kernel_rfl)
theorem Iu.s (k:Nat):CK 95 (Iu.e k):=mS Iu.d k [3] Tryz.func95 trivial ⟨K8.s,trivial⟩ (by kernel_rfl) (λ x=>by kernel_rfl)
def Dt.e (k:Nat):Ent:=⟨2,[(.val true t6),(.val false (.i .i64))],[(.one,.b)],λ x=>Dt k x.1 x.2⟩
def Gw.p:LF:=⟨⟨[(2,(.bp 2 0 0)),(3999,(.hd 1))],[(1,(.i .i64)),(5,(.i .i64)),(3000,t6)]⟩,[(.ret,⟨[],[(4,.b)]⟩),((.exit 0),⟨[(2,(.bp 2 0 0)),(3999,(.hd 1))],[(1,(.i .i64)),(3000,t6)]⟩)],λ k x=>Gw k x.1 x.2.1 x.2.2⟩
def Dt.d:Fd := { nt:=28,nv:=2,nm:=[0,1,2,3,5],res:=[4],cs:=λ k=>[(108,C7.e k)],ls:=[(2,Gw.p)],rf:=true }
theorem Dt.a (k:Nat):AC (Dt.d.cs k):=⟨C7.s k,trivial⟩
theorem Gw.s:LL Tryz.f78 Dt.d 2 Gw.p:=mL [] Dt.a trivial (by kernel_rfl) (λ _=>rfl) (λ k x=>by kernel_rfl)
theorem Dt.s (k:Nat):CK 78 (Dt.e k):=mS Dt.d k [2] Tryz.func78 (Dt.a k) ⟨Gw.s,trivial⟩ (by kernel_rfl) (λ x=>by kernel_rfl)
def Jh.e (k:Nat):Ent:=⟨2,[(.val true t17),(.val false t22)],[(.one,.b)],λ x=>Jh k x.1 x.2⟩
def J4.p:LF:=⟨⟨[(2,(.bp 2 0 0)),(3999,(.hd 2))],[(5,(.i .i64)),(3000,t17)]⟩,[(.ret,⟨[],[(4,.b)]⟩),((.exit 0),⟨[],[]⟩)],λ k x=>J4 k x.1 x.2⟩
def Jh.d:Fd := { nt:=45,nv:=2,nm:=[0,1,2,3,5],res:=[4],cs:=λ k=>[(76,Bm.e k),(77,A8.e k),(78,Dt.e k)],ls:=[(4,J4.p)],rf:=true }
theorem Jh.a (k:Nat):AC (Jh.d.cs k):=⟨Bm.s k,A8.s k,Dt.s k,trivial⟩
theorem J4.s:LL Tryz.f158 Jh.d 4 J4.p:=mL [] Jh.a trivial (by kernel_rfl) (λ _=>rfl) (λ k x=>by kernel_rfl)
theorem Jh.s (k:Nat):CK 158 (Jh.e k):=mS Jh.d k [4] Tryz.func158 (Jh.a k) ⟨J4.s,trivial⟩ (by kernel_rfl) (λ x=>by kernel_rfl)
def G8.e (k:Nat):Ent:=⟨2,[(.val true t6),(.val false t22)],[(.one,(.i .i64))],λ x=>G8 k x.1 x.2⟩
def Gx.p:LF:=⟨⟨[(2,(.bp 2 0 0)),(3999,(.hd 1))],[(1,t22),(5,(.i .i64)),(3000,t6)]⟩,[(.ret,⟨[],[(4,(.i .i64))]⟩),((.exit 0),⟨[],[]⟩)],λ k x=>Gx k x.1 x.2.1 x.2.2⟩
def G8.d:Fd := { nt:=28,nv:=2,nm:=[0,1,2,3,5,6,7],res:=[4],cs:=λ k=>[(79,Dq.e k)],ls:=[(2,Gx.p)],rf:=true }
theorem G8.a (k:Nat):AC (G8.d.cs k):=⟨Dq.s k,trivial⟩
theorem Gx.s:LL Tryz.f159 G8.d 2 Gx.p:=mL [] G8.a trivial (by kernel_rfl) (λ _=>rfl) (λ k x=>by kernel_rfl)
theorem G8.s (k:Nat):CK 159 (G8.e k):=mS G8.d k [2] Tryz.func159 (G8.a k) ⟨Gx.s,trivial⟩ (by kernel_rfl) (λ x=>by kernel_rfl)
def Ef.e (k:Nat):Ent:=⟨4,[(.val true t17),(.val true t6),(.val false t22),(.val false (.i .i64))],[(.one,(.i .i64))],λ x=>Ef k x.1 x.2.1 x.2.2.1 x.2.2.2⟩
def C1.p:LF:=⟨⟨[(4,(.bp 4 0 0)),(5,(.bp 5 0 0)),(9,(.bp 9 0 0)),(5999,(.hd 2)),(6999,(.hd 1)),(10999,(.hd 3))],[(2,t22),(3,(.i .i64)),(10,.b),(11,(.i .i64)),(5000,t17),(6000,t6),(10000,t16)]⟩,[(.ret,⟨[],[(8,(.i .i64))]⟩),((.exit 0),⟨[],[]⟩)],λ k x=>C1 k x.1 x.2.1 x.2.2.1 x.2.2.2.1 x.2.2.2.2.1 x.2.2.2.2.2.1 x.2.2.2.2.2.2⟩
def Ef.d:Fd := { nt:=60,nv:=4,nm:=[0,1,2,3,4,5,6,7,9,10,11,12,13],res:=[8],cs:=λ k=>[(79,Dq.e k),(165,Cd.e k)],ls:=[(3,C1.p)],rf:=true }
theorem Ef.a (k:Nat):AC (Ef.d.cs k):=⟨Dq.s k,Cd.s k,trivial⟩
theorem C1.s:LL Tryz.f160 Ef.d 3 C1.p:=mL [] Ef.a trivial (by kernel_rfl) (λ _=>rfl) (λ k x=>by kernel_rfl)
theorem Ef.s (k:Nat):CK 160 (Ef.e k):=mS Ef.d k [3] Tryz.func160 (Ef.a k) ⟨C1.s,trivial⟩ (by kernel_rfl) (λ x=>by kernel_rfl)
def Cb.e (k:Nat):Ent:=⟨2,[(.val true t17),(.val false t22)],[(.agg,t18),(.one,(.i .i64))],λ x=>Cb k x.1 x.2⟩
def Ay.p:LF:=⟨⟨[(4,(.bp 4 0 0)),(6,(.bp 6 0 0)),(5999,(.hd 2)),(7999,(.hd 2))],[(1,t22),(7,(.i .i64)),(8,(.i .i64)),(5000,t19),(7000,t18)]⟩,[((.exit 0),⟨[(4,(.bp 4 0 0)),(6,(.bp 6 0 0)),(5999,(.hd 2)),(7999,(.hd 2))],[(7,(.i .i64)),(5000,t19),(7000,t18)]⟩)],λ k x=>Ay k x.1 x.2.1 x.2.2.1 x.2.2.2.1 x.2.2.2.2⟩
def Cb.d:Fd := { nt:=82,nv:=2,nm:=[0,1,2,3,6,7,8,9,10,11,12],res:=[5],cs:=λ k=>[(95,Iu.e k),(142,Hl.e k),(158,Jh.e k),(159,G8.e k),(160,Ef.e k)],ls:=[(6,Ay.p)],mv:=[19,80],rf:=true }
theorem Cb.a (k:Nat):AC (Cb.d.cs k):=⟨Iu.s k,Hl.s k,Jh.s k,G8.s k,Ef.s k,trivial⟩
theorem Ay.s:LL Tryz.f128 Cb.d 6 Ay.p:=mL [] Cb.a trivial (by kernel_rfl) (λ _=>rfl) (λ k x=>by kernel_rfl)
theorem Cb.s (k:Nat):CK 128 (Cb.e k):=mS Cb.d k [6] Tryz.func128 (Cb.a k) ⟨Ay.s,trivial⟩ (by kernel_rfl) (λ x=>by kernel_rfl)
def Gy.e (k:Nat):Ent:=⟨3,[(.ptr t51 t51),(.val false (.i .i64)),(.val false (.i .i64))],[(.one,.b)],λ x=>Gy k x.1 x.2.1 x.2.2⟩
def Gy.d:Fd := { nt:=49,nv:=3,nm:=[0,1,2,3,4,5,7,8],res:=[6],cs:=λ k=>[(77,A8.e k),(128,Cb.e k)],rf:=true }
theorem Gy.s (k:Nat):CK 90 (Gy.e k):=mS Gy.d k [] Tryz.func90 ⟨A8.s k,Cb.s k,trivial⟩ trivial (by kernel_rfl) (λ x=>by kernel_rfl)
def Ii.e (k:Nat):Ent:=⟨2,[(.ptr t51 t51),(.val true t34)],[(.one,.b)],λ x=>Ii k x.1 x.2⟩
def Ii.d:Fd := { nt:=76,nv:=2,nm:=[0,1,2,3,5,6],res:=[4],cs:=λ k=>[(77,A8.e k),(88,He.e k),(89,Ar.e k),(90,Gy.e k)],rf:=true }
theorem Ii.s (k:Nat):CK 60 (Ii.e k):=mS Ii.d k [] Tryz.func60 ⟨A8.s k,He.s k,Ar.s k,Gy.s k,trivial⟩ trivial (by kernel_rfl) (λ x=>by kernel_rfl)
def Jb.e (k:Nat):Ent:=⟨2,[(.ptr t21 t21),(.val false t0)],[(.one,.s)],λ x=>Jb x.1 x.2⟩
def Jb.d:Fd := { nt:=12,nv:=2,nm:=[0,1,2,3],res:=[4],cs:=λ k=>[(34,A3.e k)] }
theorem Jb.s (k:Nat):CK 103 (Jb.e k):=mS Jb.d k [] Tryz.func103 ⟨A3.s k,trivial⟩ trivial (by kernel_rfl) (λ x=>by kernel_rfl)
def Bi.e (k:Nat):Ent:=⟨1,[(.ptr t21 t21)],[(.one,.s)],λ x=>Bi x⟩
def Bi.d:Fd := { nt:=6,nv:=1,nm:=[0,1],res:=[2],cs:=λ k=>[(103,Jb.e k)] }
theorem Bi.s (k:Nat):CK 91 (Bi.e k):=mS Bi.d k [] Tryz.func91 ⟨Jb.s k,trivial⟩ trivial (by kernel_rfl) (λ x=>by kernel_rfl)
def Eg.e (k:Nat):Ent:=⟨1,[(.ptr t21 t21)],[(.one,t7)],λ x=>Eg k x⟩
def Fa.p:LF:=⟨⟨[(0,(.bp 0 0 0)),(1999,(.hd 3))],[(3,t7),(4,(.i .i64)),(1000,t21)]⟩,[((.exit 0),⟨[(1999,(.hd 3))],[(3,t7),(1000,t21)]⟩)],λ k x=>Fa k x.1 x.2.1 x.2.2⟩
def Eg.d:Fd := { nt:=17,nv:=1,nm:=[0,1,3,4],res:=[2],cs:=λ k=>[(64,Aa.e k)],ls:=[(3,Fa.p)],rf:=true }
theorem Eg.a (k:Nat):AC (Eg.d.cs k):=⟨Aa.s k,trivial⟩
theorem Fa.s:LL Tryz.f92 Eg.d 3 Fa.p:=mL [] Eg.a trivial (by kernel_rfl) (λ _=>rfl) (λ k x=>by kernel_rfl)
theorem Eg.s (k:Nat):CK 92 (Eg.e k):=mS Eg.d k [3] Tryz.func92 (Eg.a k) ⟨Fa.s,trivial⟩ (by kernel_rfl) (λ x=>by kernel_rfl)
def Fc.e (k:Nat):Ent:=⟨2,[(.ptr t21 t21),(.val false (.i .i64))],[(.one,t5)],λ x=>Fc k x.1 x.2⟩
def Fb.p:LF:=⟨⟨[(0,(.bp 0 0 0)),(1999,(.hd 3))],[(1,(.i .i64)),(5,t5),(6,(.i .i64)),(1000,t4),(1001,(.i .i64)),(1002,(.i .i64))]⟩,[((.exit 0),⟨[(1999,(.hd 3))],[(5,t5),(1000,t4),(1001,(.i .i64)),(1002,(.i .i64))]⟩)],λ k x=>Fb k x.1 x.2.1 x.2.2.1 x.2.2.2.1 x.2.2.2.2.1 x.2.2.2.2.2⟩
def Fc.d:Fd := { nt:=20,nv:=2,nm:=[0,1,2,3,5,6],res:=[4],cs:=λ k=>[(62,F5.e k)],ls:=[(3,Fb.p)] }
theorem Fc.a (k:Nat):AC (Fc.d.cs k):=⟨F5.s k,trivial⟩
theorem Fb.s:LL Tryz.f129 Fc.d 3 Fb.p:=mL [] Fc.a trivial (by kernel_rfl) (λ _=>rfl) (λ k x=>by kernel_rfl)
theorem Fc.s (k:Nat):CK 129 (Fc.e k):=mS Fc.d k [3] Tryz.func129 (Fc.a k) ⟨Fb.s,trivial⟩ (by kernel_rfl) (λ x=>by kernel_rfl)
def Dd.e (k:Nat):Ent:=⟨1,[(.ptr t21 t21)],[(.one,t5)],λ x=>Dd k x⟩
def Dd.d:Fd := { nt:=8,nv:=1,nm:=[0,1],res:=[2],cs:=λ k=>[(64,Aa.e k),(129,Fc.e k)] }
theorem Dd.s (k:Nat):CK 93 (Dd.e k):=mS Dd.d k [] Tryz.func93 ⟨Aa.s k,Fc.s k,trivial⟩ trivial (by kernel_rfl) (λ x=>by kernel_rfl)
def G5.e (k:Nat):Ent:=⟨1,[(.val true t27)],[(.one,t2)],λ x=>G5 k x⟩
def J5.p:LF:=⟨⟨[(1,(.bp 1 0 0)),(2999,(.hd 2))],[(3,t2),(4,(.i .i64)),(7,(.i .i64)),(2000,t27)]⟩,[((.exit 2),⟨[(1,(.bp 1 0 0)),(2999,(.hd 2))],[(3,t2),(4,(.i .i64)),(7,(.i .i64)),(2000,t27)]⟩)],λ k x=>J5 k x.1 x.2.1 x.2.2.1 x.2.2.2⟩
def Gi.p:LF:=⟨⟨[(1,(.bp 1 0 0)),(2999,(.hd 2))],[(3,t2),(4,(.i .i64)),(2000,t27)]⟩,[((.exit 0),⟨[],[(3,t2)]⟩)],λ k x=>Gi k x.1 x.2.1 x.2.2⟩
def G5.d:Fd := { nt:=98,nv:=1,nm:=[0,1,3,4,5,6,7],res:=[2],cs:=λ k=>[(57,Em.e k),(81,C8.e k),(84,C0.e k)],ls:=[(9,J5.p),(3,Gi.p)],rf:=true }
theorem G5.a (k:Nat):AC (G5.d.cs k):=⟨Em.s k,C8.s k,C0.s k,trivial⟩
theorem J5.s:LL Tryz.f94 G5.d 9 J5.p:=mL [] G5.a trivial (by kernel_rfl) (λ _=>rfl) (λ k x=>by kernel_rfl)
theorem Gi.s:LL Tryz.f94 G5.d 3 Gi.p:=mL [9] G5.a ⟨J5.s,trivial⟩ (by kernel_rfl) (λ _=>rfl) (λ k x=>by kernel_rfl)
theorem G5.s (k:Nat):CK 94 (G5.e k):=mS G5.d k [3] Tryz.func94 (G5.a k) ⟨Gi.s,trivial⟩ (by kernel_rfl) (λ x=>by kernel_rfl)
def E3.e (k:Nat):Ent:=⟨2,[(.ptr t21 t21),(.vw t51 2),(.hid t51 t51)],[(.agg,(.pr (.i .i64) (.pr (.i .i64) (.pr .s (.pr t5 (.pr (.i .i64) t7))))))],λ x=>E3 k x.1 x.2.1 x.2.2⟩
def E3.d:Fd := { nt:=99,nv:=2,nm:=[0,1,2,3,5,6],res:=[],cs:=λ k=>[(34,A3.e k),(64,Aa.e k),(91,Bi.e k),(92,Eg.e k),(93,Dd.e k),(94,G5.e k)],mv:=[1,98],rf:=true }
theorem E3.s (k:Nat):CK 61 (E3.e k):=mS E3.d k [] Tryz.func61 ⟨A3.s k,Aa.s k,Bi.s k,Eg.s k,Dd.s k,G5.s k,trivial⟩ trivial (by kernel_rfl) (λ x=>by kernel_rfl)
def Eh.e (k:Nat):Ent:=⟨2,[(.ptr t21 t21),(.val false (.i .i64))],[(.agg,t51)],λ x=>Eh k x.1 x.2⟩
def Fe.p:LF:=⟨⟨[(0,(.bp 0 0 0)),(4,(.bp 4 0 0)),(5,(.bp 5 0 0)),(1999,(.hd 3)),(5999,(.hd 9)),(6999,(.hd 9))],[(6,(.i .i64)),(1000,t21),(5000,t50),(6000,t51)]⟩,[((.exit 0),⟨[(4,(.bp 4 0 0)),(5,(.bp 5 0 0)),(5999,(.hd 9)),(6999,(.hd 9)),(1999,(.hd 3))],[(5000,t50),(6000,t51),(1000,t21)]⟩)],λ k x=>Fe k x.1 x.2.1 x.2.2.1 x.2.2.2⟩
def Eh.d:Fd := { nt:=21,nv:=2,nm:=[0,1,2,3,5,6],res:=[],cs:=λ k=>[(34,A3.e k),(59,Jp.e k),(60,Ii.e k),(61,E3.e k)],ls:=[(3,Fe.p)],mv:=[20],rf:=true }
theorem Eh.a (k:Nat):AC (Eh.d.cs k):=⟨A3.s k,Jp.s k,Ii.s k,E3.s k,trivial⟩
theorem Fe.s:LL Tryz.f32 Eh.d 3 Fe.p:=mL [] Eh.a trivial (by kernel_rfl) (λ _=>rfl) (λ k x=>by kernel_rfl)
theorem Eh.s (k:Nat):CK 32 (Eh.e k):=mS Eh.d k [3] Tryz.func32 (Eh.a k) ⟨Fe.s,trivial⟩ (by kernel_rfl) (λ x=>by kernel_rfl)
def Jt.e (k:Nat):Ent:=⟨2,[(.val false t4),(.val false (.i .i64))],[(.one,(.i .i64))],λ x=>Jt x.1 x.2⟩
def Jt.d:Fd := { nt:=15,nv:=2,nm:=[0,1,2,3,5],res:=[4],rf:=true }
theorem Jt.s (k:Nat):CK 33 (Jt.e k):=mS Jt.d k [] Tryz.func33 trivial trivial (by kernel_rfl) (λ x=>by kernel_rfl)
def Cs.e (k:Nat):Ent:=⟨1,[(.val true t48)],[(.agg,t50)],λ x=>Cs k x⟩
def Ff.p:LF:=⟨⟨[(1,(.bp 1 0 0)),(2,(.bp 2 0 0)),(3,(.bp 3 0 0)),(2999,(.hd 9)),(3999,(.hd 9)),(4999,(.hd 9))],[(5,(.i .i64)),(2000,t48),(3000,t50),(4000,t50)]⟩,[((.exit 2),⟨[(2,(.bp 2 0 0)),(3,(.bp 3 0 0)),(3999,(.hd 9)),(4999,(.hd 9))],[(3000,t50),(4000,t50)]⟩)],λ k x=>Ff k x.1 x.2.1 x.2.2.1 x.2.2.2⟩
def Fg.p:LF:=⟨⟨[(1,(.bp 1 0 0)),(2,(.bp 2 0 0)),(3,(.bp 3 0 0)),(2999,(.hd 9)),(3999,(.hd 9)),(4999,(.hd 9))],[(4,(.i .i64)),(2000,t48),(3000,t50),(4000,t50)]⟩,[((.exit 0),⟨[(1,(.bp 1 0 0)),(2,(.bp 2 0 0)),(3,(.bp 3 0 0)),(2999,(.hd 9)),(3999,(.hd 9)),(4999,(.hd 9))],[(2000,t48),(3000,t50),(4000,t50)]⟩)],λ k x=>Fg k x.1 x.2.1 x.2.2.1 x.2.2.2⟩
def Cs.d:Fd := { nt:=62,nv:=1,nm:=[0,1,3,4,5,6],res:=[],cs:=λ k=>[(95,Io.e k),(96,B9.e k),(97,Bd.e k)],ls:=[(7,Ff.p),(3,Fg.p)],mv:=[61],rf:=true }
theorem Cs.a (k:Nat):AC (Cs.d.cs k):=⟨Io.s k,B9.s k,Bd.s k,trivial⟩
theorem Ff.s:LL Tryz.f63 Cs.d 7 Ff.p:=mL [] Cs.a trivial (by kernel_rfl) (λ _=>rfl) (λ k x=>by kernel_rfl)
theorem Fg.s:LL Tryz.f63 Cs.d 3 Fg.p:=mL [] Cs.a trivial (by kernel_rfl) (λ _=>rfl) (λ k x=>by kernel_rfl)
theorem Cs.s (k:Nat):CK 63 (Cs.e k):=mS Cs.d k [3,7] Tryz.func63 (Cs.a k) ⟨Fg.s,Ff.s,trivial⟩ (by kernel_rfl) (λ x=>by kernel_rfl)
def De.e (k:Nat):Ent:=⟨2,[(.ptr t21 t21),(.val false (.i .i64))],[(.one,.b)],λ x=>De x.1 x.2⟩
def De.d:Fd := { nt:=9,nv:=2,nm:=[0,1,2,3],res:=[4],cs:=λ k=>[(34,A3.e k)] }
theorem De.s (k:Nat):CK 102 (De.e k):=mS De.d k [] Tryz.func102 ⟨A3.s k,trivial⟩ trivial (by kernel_rfl) (λ x=>by kernel_rfl)
def Ed.e (k:Nat):Ent:=⟨1,[(.ptr t21 t21)],[(.one,.s)],λ x=>Ed x⟩
def Ed.d:Fd := { nt:=10,nv:=1,nm:=[0,1],res:=[2],cs:=λ k=>[(91,Bi.e k),(102,De.e k),(103,Jb.e k)] }
theorem Ed.s (k:Nat):CK 67 (Ed.e k):=mS Ed.d k [] Tryz.func67 ⟨Bi.s k,De.s k,Jb.s k,trivial⟩ trivial (by kernel_rfl) (λ x=>by kernel_rfl)
def I1.e (k:Nat):Ent:=⟨1,[(.ptr t21 t21)],[(.agg,t16)],λ x=>I1 x⟩
def I1.d:Fd := { nt:=11,nv:=1,nm:=[0,1],res:=[],cs:=λ k=>[(34,A3.e k),(64,Aa.e k)] }
theorem I1.s (k:Nat):CK 101 (I1.e k):=mS I1.d k [] Tryz.func101 ⟨A3.s k,Aa.s k,trivial⟩ trivial (by kernel_rfl) (λ x=>by kernel_rfl)
def C2.e (k:Nat):Ent:=⟨1,[(.ptr t21 t21)],[(.agg,t26)],λ x=>C2 k x⟩
def C2.d:Fd := { nt:=16,nv:=1,nm:=[0,1,3],res:=[],cs:=λ k=>[(93,Dd.e k),(101,I1.e k),(102,De.e k)],mv:=[15] }
theorem C2.s (k:Nat):CK 104 (C2.e k):=mS C2.d k [] Tryz.func104 ⟨Dd.s k,I1.s k,De.s k,trivial⟩ trivial (by kernel_rfl) (λ x=>by kernel_rfl)
def J6.e (k:Nat):Ent:=⟨4,[(.val true t40),(.val false .s),(.val true t25),(.val false .b)],[(.agg,t42),(.one,(.i .i64))],λ x=>J6 k x.1 x.2.1 x.2.2.1 x.2.2.2⟩
def J6.d:Fd := { nt:=34,nv:=4,nm:=[0,1,2,3,4,5,6,7,10,11],res:=[9],cs:=λ k=>[(52,Af.e k),(53,Bn.e k),(80,Bo.e k),(96,B9.e k),(145,Hz.e k)],mv:=[27,32] }
theorem J6.s (k:Nat):CK 131 (J6.e k):=mS J6.d k [] Tryz.func131 ⟨Af.s k,Bn.s k,Bo.s k,B9.s k,Hz.s k,trivial⟩ trivial (by kernel_rfl) (λ x=>by kernel_rfl)
def I2.e (k:Nat):Ent:=⟨2,[(.val true t40),(.val false t31)],[(.agg,t43),(.one,.b)],λ x=>I2 k x.1 x.2⟩
def I2.d:Fd := { nt:=25,nv:=2,nm:=[0,1,2,3,6],res:=[5],cs:=λ k=>[(80,Bo.e k),(96,B9.e k),(111,Ds.e k),(161,Gq.e k)],mv:=[24] }
theorem I2.s (k:Nat):CK 132 (I2.e k):=mS I2.d k [] Tryz.func132 ⟨Bo.s k,B9.s k,Ds.s k,Gq.s k,trivial⟩ trivial (by kernel_rfl) (λ x=>by kernel_rfl)
def I3.e (k:Nat):Ent:=⟨1,[(.ptr t21 t21)],[(.agg,t28)],λ x=>I3 k x⟩
def I3.d:Fd := { nt:=8,nv:=1,nm:=[0,1],res:=[],cs:=λ k=>[(83,Ey.e k),(91,Bi.e k),(104,C2.e k)] }
theorem I3.s (k:Nat):CK 135 (I3.e k):=mS I3.d k [] Tryz.func135 ⟨Ey.s k,Bi.s k,C2.s k,trivial⟩ trivial (by kernel_rfl) (λ x=>by kernel_rfl)
def Ck.e (k:Nat):Ent:=⟨1,[(.ptr t21 t21)],[(.one,t32)],λ x=>Ck k x⟩
def Fh.p:LF:=⟨⟨[(0,(.bp 0 0 0)),(1999,(.hd 3))],[(3,t32),(4,(.i .i64)),(1000,t4),(1001,(.i .i64)),(1002,(.i .i64))]⟩,[((.exit 0),⟨[(1999,(.hd 3))],[(3,t32),(1000,t4),(1001,(.i .i64)),(1002,(.i .i64))]⟩)],λ k x=>Fh k x.1 x.2.1 x.2.2.1 x.2.2.2.1 x.2.2.2.2⟩
def Ck.d:Fd := { nt:=17,nv:=1,nm:=[0,1,3,4],res:=[2],cs:=λ k=>[(34,A3.e k),(135,I3.e k),(162,Be.e k)],ls:=[(3,Fh.p)] }
theorem Ck.a (k:Nat):AC (Ck.d.cs k):=⟨A3.s k,I3.s k,Be.s k,trivial⟩
theorem Fh.s:LL Tryz.f133 Ck.d 3 Fh.p:=mL [] Ck.a trivial (by kernel_rfl) (λ _=>rfl) (λ k x=>by kernel_rfl)
theorem Ck.s (k:Nat):CK 133 (Ck.e k):=mS Ck.d k [3] Tryz.func133 (Ck.a k) ⟨Fh.s,trivial⟩ (by kernel_rfl) (λ x=>by kernel_rfl)
def Ei.e (k:Nat):Ent:=⟨1,[(.ptr t21 t21)],[(.agg,t44)],λ x=>Ei k x⟩
def Fi.p:LF:=⟨⟨[(0,(.bp 0 0 0)),(2,(.bp 2 0 0)),(3,(.bp 3 0 0)),(1999,(.hd 3)),(3999,(.hd 5)),(4999,(.hd 5))],[(4,(.i .i64)),(1000,t4),(1001,(.i .i64)),(1002,(.i .i64)),(3000,(.i .i64)),(3001,t14),(3002,t14),(3003,t32),(3004,t32),(4000,(.i .i64)),(4001,t13),(4002,t13),(4003,t32),(4004,t32)]⟩,[((.exit 0),⟨[(0,(.bp 0 0 0)),(2,(.bp 2 0 0)),(3,(.bp 3 0 0)),(1999,(.hd 3)),(3999,(.hd 5)),(4999,(.hd 5))],[(1000,t4),(1001,(.i .i64)),(1002,(.i .i64)),(3000,(.i .i64)),(3001,t14),(3002,t14),(3003,t32),(3004,t32),(4000,(.i .i64)),(4001,t13),(4002,t13),(4003,t32),(4004,t32)]⟩)],λ k x=>Fi k x.1 x.2.1 x.2.2.1 x.2.2.2.1 x.2.2.2.2.1 x.2.2.2.2.2.1 x.2.2.2.2.2.2.1 x.2.2.2.2.2.2.2.1 x.2.2.2.2.2.2.2.2.1 x.2.2.2.2.2.2.2.2.2.1 x.2.2.2.2.2.2.2.2.2.2.1 x.2.2.2.2.2.2.2.2.2.2.2.1 x.2.2.2.2.2.2.2.2.2.2.2.2.1 x.2.2.2.2.2.2.2.2.2.2.2.2.2⟩
def Ei.d:Fd := { nt:=47,nv:=1,nm:=[0,1,3,4],res:=[],cs:=λ k=>[(34,A3.e k),(91,Bi.e k),(102,De.e k),(104,C2.e k),(118,Gf.e k),(126,Ee.e k),(131,J6.e k),(132,I2.e k),(133,Ck.e k)],ls:=[(3,Fi.p)],mv:=[46] }
theorem Ei.a (k:Nat):AC (Ei.d.cs k):=⟨A3.s k,Bi.s k,De.s k,C2.s k,Gf.s k,Ee.s k,J6.s k,I2.s k,Ck.s k,trivial⟩
theorem Fi.s:LL Tryz.f98 Ei.d 3 Fi.p:=mL [] Ei.a trivial (by kernel_rfl) (λ _=>rfl) (λ k x=>by kernel_rfl)
theorem Ei.s (k:Nat):CK 98 (Ei.e k):=mS Ei.d k [3] Tryz.func98 (Ei.a k) ⟨Fi.s,trivial⟩ (by kernel_rfl) (λ x=>by kernel_rfl)
def Eo.e (k:Nat):Ent:=⟨1,[(.ptr t21 t21)],[(.agg,t29)],λ x=>Eo k x⟩
def As.p:LF:=⟨⟨[(0,(.bp 0 0 0)),(2,(.bp 2 0 0)),(3,(.bp 3 0 0)),(1999,(.hd 3)),(3999,(.hd 2)),(4999,(.hd 2))],[(4,(.i .i64)),(1000,t4),(1001,(.i .i64)),(1002,(.i .i64)),(3000,t14),(3001,t14),(4000,t14),(4001,t14)]⟩,[((.exit 0),⟨[(2,(.bp 2 0 0)),(3,(.bp 3 0 0)),(3999,(.hd 2)),(4999,(.hd 2)),(1999,(.hd 3))],[(3000,t14),(3001,t14),(4000,t14),(4001,t14),(1000,t4),(1001,(.i .i64)),(1002,(.i .i64))]⟩)],λ k x=>As k x.1 x.2.1 x.2.2.1 x.2.2.2.1 x.2.2.2.2.1 x.2.2.2.2.2.1 x.2.2.2.2.2.2.1 x.2.2.2.2.2.2.2⟩
def Eo.d:Fd := { nt:=44,nv:=1,nm:=[0,1,3,4,5],res:=[],cs:=λ k=>[(34,A3.e k),(91,Bi.e k),(104,C2.e k),(115,B8.e k),(151,B6.e k),(152,Ae.e k),(163,B4.e k)],ls:=[(3,As.p)],mv:=[43] }
theorem Eo.a (k:Nat):AC (Eo.d.cs k):=⟨A3.s k,Bi.s k,C2.s k,B8.s k,B6.s k,Ae.s k,B4.s k,trivial⟩
theorem As.s:LL Tryz.f134 Eo.d 3 As.p:=mL [] Eo.a trivial (by kernel_rfl) (λ _=>rfl) (λ k x=>by kernel_rfl)
theorem Eo.s (k:Nat):CK 134 (Eo.e k):=mS Eo.d k [3] Tryz.func134 (Eo.a k) ⟨As.s,trivial⟩ (by kernel_rfl) (λ x=>by kernel_rfl)
def Jc.e (k:Nat):Ent:=⟨1,[(.ptr t21 t21)],[(.agg,t29)],λ x=>Jc k x⟩
def Jc.d:Fd := { nt:=33,nv:=1,nm:=[0,1,3],res:=[],cs:=λ k=>[(34,A3.e k),(67,Ed.e k),(134,Eo.e k)],mv:=[32] }
theorem Jc.s (k:Nat):CK 99 (Jc.e k):=mS Jc.d k [] Tryz.func99 ⟨A3.s k,Ed.s k,Eo.s k,trivial⟩ trivial (by kernel_rfl) (λ x=>by kernel_rfl)
def Ju.e (k:Nat):Ent:=⟨1,[(.ptr t21 t21)],[(.one,t32)],λ x=>Ju k x⟩
def Ju.d:Fd := { nt:=27,nv:=1,nm:=[0,1,3],res:=[2],cs:=λ k=>[(34,A3.e k),(64,Aa.e k),(133,Ck.e k),(135,I3.e k)] }
theorem Ju.s (k:Nat):CK 100 (Ju.e k):=mS Ju.d k [] Tryz.func100 ⟨A3.s k,Aa.s k,Ck.s k,I3.s k,trivial⟩ trivial (by kernel_rfl) (λ x=>by kernel_rfl)
def Fk.e (k:Nat):Ent:=⟨1,[(.ptr t21 t21)],[(.agg,t44)],λ x=>Fk k x⟩
def Fj.p:LF:=⟨⟨[(0,(.bp 0 0 0)),(2,(.bp 2 0 0)),(3,(.bp 3 0 0)),(1999,(.hd 3)),(3999,(.hd 5)),(4999,(.hd 5))],[(1000,t4),(1001,(.i .i64)),(1002,(.i .i64)),(3000,(.i .i64)),(3001,t14),(3002,t14),(3003,t32),(3004,t32),(4000,(.i .i64)),(4001,t13),(4002,t13),(4003,t31),(4004,t32)]⟩,[((.exit 1),⟨[(2,(.bp 2 0 0)),(3,(.bp 3 0 0)),(3999,(.hd 5)),(4999,(.hd 5)),(1999,(.hd 3))],[(3000,(.i .i64)),(3001,t14),(3002,t14),(3003,t32),(3004,t32),(4000,(.i .i64)),(4001,t13),(4002,t13),(4003,t31),(4004,t32),(1000,t4),(1001,(.i .i64)),(1002,(.i .i64))]⟩)],λ k x=>Fj k x.1 x.2.1 x.2.2.1 x.2.2.2.1 x.2.2.2.2.1 x.2.2.2.2.2.1 x.2.2.2.2.2.2.1 x.2.2.2.2.2.2.2.1 x.2.2.2.2.2.2.2.2.1 x.2.2.2.2.2.2.2.2.2.1 x.2.2.2.2.2.2.2.2.2.2.1 x.2.2.2.2.2.2.2.2.2.2.2.1 x.2.2.2.2.2.2.2.2.2.2.2.2⟩
def Fk.d:Fd := { nt:=50,nv:=1,nm:=[0,1,3],res:=[],cs:=λ k=>[(34,A3.e k),(64,Aa.e k),(67,Ed.e k),(98,Ei.e k),(99,Jc.e k),(100,Ju.e k)],ls:=[(12,Fj.p)],mv:=[49] }
theorem Fk.a (k:Nat):AC (Fk.d.cs k):=⟨A3.s k,Aa.s k,Ed.s k,Ei.s k,Jc.s k,Ju.s k,trivial⟩
theorem Fj.s:LL Tryz.f65 Fk.d 12 Fj.p:=mL [] Fk.a trivial (by kernel_rfl) (λ _=>rfl) (λ k x=>by kernel_rfl)
theorem Fk.s (k:Nat):CK 65 (Fk.e k):=mS Fk.d k [12] Tryz.func65 (Fk.a k) ⟨Fj.s,trivial⟩ (by kernel_rfl) (λ x=>by kernel_rfl)
def Ip.e (k:Nat):Ent:=⟨1,[(.ptr t21 t21)],[(.agg,t16)],λ x=>Ip x⟩
def Ip.d:Fd := { nt:=27,nv:=1,nm:=[0,1,3],res:=[],cs:=λ k=>[(34,A3.e k),(64,Aa.e k),(101,I1.e k)] }
theorem Ip.s (k:Nat):CK 66 (Ip.e k):=mS Ip.d k [] Tryz.func66 ⟨A3.s k,Aa.s k,I1.s k,trivial⟩ trivial (by kernel_rfl) (λ x=>by kernel_rfl)
def Ka.e (k:Nat):Ent:=⟨1,[(.ptr t21 t21)],[(.agg,t26)],λ x=>Ka k x⟩
def Ka.d:Fd := { nt:=27,nv:=1,nm:=[0,1,3],res:=[],cs:=λ k=>[(34,A3.e k),(66,Ip.e k),(104,C2.e k)],mv:=[26] }
theorem Ka.s (k:Nat):CK 68 (Ka.e k):=mS Ka.d k [] Tryz.func68 ⟨A3.s k,Ip.s k,C2.s k,trivial⟩ trivial (by kernel_rfl) (λ x=>by kernel_rfl)
def Df.e (k:Nat):Ent:=⟨2,[(.ptr t21 t21),(.vw t52 2),(.hid t52 t48)],[(.agg,(.pr t23 (.pr t19 (.pr t46 (.pr t16 (.pr t35 t2))))))],λ x=>Df k x.1 x.2.1 x.2.2⟩
def Df.d:Fd := { nt:=100,nv:=2,nm:=[0,1,2,3,5],res:=[],cs:=λ k=>[(34,A3.e k),(63,Cs.e k),(64,Aa.e k),(65,Fk.e k),(66,Ip.e k),(67,Ed.e k),(68,Ka.e k)],mv:=[1,99],rf:=true }
theorem Df.s (k:Nat):CK 35 (Df.e k):=mS Df.d k [] Tryz.func35 ⟨A3.s k,Cs.s k,Aa.s k,Fk.s k,Ip.s k,Ed.s k,Ka.s k,trivial⟩ trivial (by kernel_rfl) (λ x=>by kernel_rfl)
def G9.e (k:Nat):Ent:=⟨1,[(.val false t4)],[(.agg,t52)],λ x=>G9 k x⟩
def Gz.p:LF:=⟨⟨[(2,(.bp 2 0 0)),(3,(.bp 7 0 0)),(4,(.bp 4 0 0)),(3999,(.hd 9)),(5999,(.hd 9)),(8999,(.hd 3))],[(5,(.i .i64)),(3000,t50),(5000,t52),(8000,t21)]⟩,[((.exit 0),⟨[(2,(.bp 2 0 0)),(4,(.bp 4 0 0)),(3999,(.hd 9)),(5999,(.hd 9))],[(3000,t50),(5000,t52)]⟩)],λ k x=>Gz k x.1 x.2.1 x.2.2.1 x.2.2.2⟩
def G9.d:Fd := { nt:=22,nv:=1,nm:=[0,1,3,4,5],res:=[],cs:=λ k=>[(31,K7.e k),(32,Eh.e k),(33,Jt.e k),(34,A3.e k),(35,Df.e k)],ls:=[(4,Gz.p)],mv:=[21],rf:=true }
theorem G9.a (k:Nat):AC (G9.d.cs k):=⟨K7.s k,Eh.s k,Jt.s k,A3.s k,Df.s k,trivial⟩
theorem Gz.s:LL Tryz.f13 G9.d 4 Gz.p:=mL [] G9.a trivial (by kernel_rfl) (λ _=>rfl) (λ k x=>by kernel_rfl)
theorem G9.s (k:Nat):CK 13 (G9.e k):=mS G9.d k [4] Tryz.func13 (G9.a k) ⟨Gz.s,trivial⟩ (by kernel_rfl) (λ x=>by kernel_rfl)
def Iv.e (k:Nat):Ent:=⟨1,[(.val false t4)],[(.agg,t52)],λ x=>Iv k x⟩
def Iv.d:Fd := { nt:=5,nv:=1,nm:=[0,1],res:=[],cs:=λ k=>[(13,G9.e k)],rf:=true }
theorem Iv.s (k:Nat):CK 5 (Iv.e k):=mS Iv.d k [] Tryz.func5 ⟨G9.s k,trivial⟩ trivial (by kernel_rfl) (λ x=>by kernel_rfl)
def H0.e (k:Nat):Ent:=⟨3,[(.val false (.i .i64)),(.val false (.i .i64)),(.val false (.i .i64))],[(.one,.b)],λ x=>H0 x.1 x.2.1 x.2.2⟩
def H0.d:Fd := { nt:=15,nv:=3,nm:=[0,1,2,3,4,5],res:=[6] }
theorem H0.s (k:Nat):CK 37 (H0.e k):=mS H0.d k [] Tryz.func37 trivial trivial (by kernel_rfl) (λ x=>by kernel_rfl)
def Ga.e (k:Nat):Ent:=⟨1,[(.val false t22)],[(.one,.b)],λ x=>Ga k x⟩
def Fw.p:LF:=⟨⟨[],[(0,t22),(5,t22),(6,(.i .i64)),(7,(.i .i64))]⟩,[(.ret,⟨[],[(2,.b)]⟩),((.exit 0),⟨[],[(0,t22)]⟩)],λ k x=>Fw k x.1 x.2.1 x.2.2.1 x.2.2.2⟩
def Ga.d:Fd := { nt:=47,nv:=1,nm:=[0,1,3,4],res:=[2],cs:=λ k=>[(37,H0.e k)],ls:=[(2,Fw.p)],rf:=true }
theorem Ga.a (k:Nat):AC (Ga.d.cs k):=⟨H0.s k,trivial⟩
theorem Fw.s:LL Tryz.f36 Ga.d 2 Fw.p:=mL [] Ga.a trivial (by kernel_rfl) (λ _=>rfl) (λ k x=>by kernel_rfl)
theorem Ga.s (k:Nat):CK 36 (Ga.e k):=mS Ga.d k [2] Tryz.func36 (Ga.a k) ⟨Fw.s,trivial⟩ (by kernel_rfl) (λ x=>by kernel_rfl)
def Je.e (k:Nat):Ent:=⟨2,[(.val false t6),(.val false (.i .i64))],[(.one,.b)],λ x=>Je k x.1 x.2⟩
def H1.p:LF:=⟨⟨[],[(1,(.i .i64)),(7,t6),(8,(.i .i64)),(9,(.i .i64))]⟩,[(.ret,⟨[],[(4,.b)]⟩),((.exit 0),⟨[],[]⟩)],λ k x=>H1 k x.1 x.2.1 x.2.2.1 x.2.2.2⟩
def Je.d:Fd := { nt:=17,nv:=2,nm:=[0,1,2,3,5,6],res:=[4],ls:=[(2,H1.p)],rf:=true }
theorem H1.s:LL Tryz.f69 Je.d 2 H1.p:=mL [] (λ _=>trivial) trivial (by kernel_rfl) (λ _=>rfl) (λ k x=>by kernel_rfl)
theorem Je.s (k:Nat):CK 69 (Je.e k):=mS Je.d k [2] Tryz.func69 trivial ⟨H1.s,trivial⟩ (by kernel_rfl) (λ x=>by kernel_rfl)
def Ig.e (k:Nat):Ent:=⟨1,[(.val false t6)],[(.one,.b)],λ x=>Ig k x⟩
def I4.p:LF:=⟨⟨[],[(0,t6),(5,t6),(6,(.i .i64)),(7,(.i .i64))]⟩,[(.ret,⟨[],[(2,.b)]⟩),((.exit 0),⟨[],[]⟩)],λ k x=>I4 k x.1 x.2.1 x.2.2.1 x.2.2.2⟩
def Ig.d:Fd := { nt:=18,nv:=1,nm:=[0,1,3,4],res:=[2],cs:=λ k=>[(69,Je.e k)],ls:=[(2,I4.p)],rf:=true }
theorem Ig.a (k:Nat):AC (Ig.d.cs k):=⟨Je.s k,trivial⟩
theorem I4.s:LL Tryz.f38 Ig.d 2 I4.p:=mL [] Ig.a trivial (by kernel_rfl) (λ _=>rfl) (λ k x=>by kernel_rfl)
theorem Ig.s (k:Nat):CK 38 (Ig.e k):=mS Ig.d k [2] Tryz.func38 (Ig.a k) ⟨I4.s,trivial⟩ (by kernel_rfl) (λ x=>by kernel_rfl)
def Kd.e (k:Nat):Ent:=⟨2,[(.val false t22),(.val false (.i .i64))],[(.agg,t16),(.one,.b)],λ x=>Kd k x.1 x.2⟩
def I5.p:LF:=⟨⟨[(4,(.bp 4 0 0)),(5999,(.hd 3))],[(1,(.i .i64)),(8,t22),(9,(.i .i64)),(10,(.i .i64)),(5000,t16)]⟩,[(.ret,⟨[(4,(.bp 4 0 0)),(5999,(.hd 3))],[(5,.b),(5000,t16)]⟩),((.exit 0),⟨[(4,(.bp 4 0 0)),(5999,(.hd 3))],[(5000,t16)]⟩)],λ k x=>I5 k x.1 x.2.1 x.2.2.1 x.2.2.2.1 x.2.2.2.2⟩
def Kd.d:Fd := { nt:=21,nv:=2,nm:=[0,1,2,3,6,7],res:=[5],ls:=[(2,I5.p)],rf:=true }
theorem I5.s:LL Tryz.f39 Kd.d 2 I5.p:=mL [] (λ _=>trivial) trivial (by kernel_rfl) (λ _=>rfl) (λ k x=>by kernel_rfl)
theorem Kd.s (k:Nat):CK 39 (Kd.e k):=mS Kd.d k [2] Tryz.func39 trivial ⟨I5.s,trivial⟩ (by kernel_rfl) (λ x=>by kernel_rfl)
def Ep.e (k:Nat):Ent:=⟨2,[(.val true t17),(.val false t22)],[(.one,.b)],λ x=>Ep k x.1 x.2⟩
def H2.p:LF:=⟨⟨[(2,(.bp 2 0 0)),(3999,(.hd 2))],[(1,t22),(28,t10),(29,(.i .i64)),(30,(.i .i64)),(47,t6),(48,(.i .i64)),(49,(.i .i64)),(3000,t17)]⟩,[(.ret,⟨[],[(4,.b)]⟩),((.exit 2),⟨[(2,(.bp 2 0 0)),(3999,(.hd 2))],[(1,t22),(28,t10),(29,(.i .i64)),(30,(.i .i64)),(3000,t17)]⟩)],λ k x=>H2 k x.1 x.2.1 x.2.2.1 x.2.2.2.1 x.2.2.2.2.1 x.2.2.2.2.2.1 x.2.2.2.2.2.2.1 x.2.2.2.2.2.2.2⟩
def H3.p:LF:=⟨⟨[(2,(.bp 2 0 0)),(3999,(.hd 2))],[(1,t22),(28,t10),(29,(.i .i64)),(30,(.i .i64)),(3000,t17)]⟩,[(.ret,⟨[],[(4,.b)]⟩),((.exit 0),⟨[],[]⟩)],λ k x=>H3 k x.1 x.2.1 x.2.2.1 x.2.2.2.1 x.2.2.2.2⟩
def Ep.d:Fd := { nt:=63,nv:=2,nm:=[0,1,2,3,5,6,7,8,9,10],res:=[4],cs:=λ k=>[(36,Ga.e k),(37,H0.e k),(38,Ig.e k),(39,Kd.e k)],ls:=[(9,H2.p),(4,H3.p)],rf:=true }
theorem Ep.a (k:Nat):AC (Ep.d.cs k):=⟨Ga.s k,H0.s k,Ig.s k,Kd.s k,trivial⟩
theorem H2.s:LL Tryz.f14 Ep.d 9 H2.p:=mL [] Ep.a trivial (by kernel_rfl) (λ _=>rfl) (λ k x=>by kernel_rfl)
theorem H3.s:LL Tryz.f14 Ep.d 4 H3.p:=mL [9] Ep.a ⟨H2.s,trivial⟩ (by kernel_rfl) (λ _=>rfl) (λ k x=>by kernel_rfl)
theorem Ep.s (k:Nat):CK 14 (Ep.e k):=mS Ep.d k [4] Tryz.func14 (Ep.a k) ⟨H3.s,trivial⟩ (by kernel_rfl) (λ x=>by kernel_rfl)
def Dm.e (k:Nat):Ent:=⟨1,[(.val true t16)],[(.one,.b)],λ x=>Dm x⟩
def Dm.d:Fd := { nt:=16,nv:=1,nm:=[0,1],res:=[2],cs:=λ k=>[(37,H0.e k)] }
theorem Dm.s (k:Nat):CK 15 (Dm.e k):=mS Dm.d k [] Tryz.func15 ⟨H0.s k,trivial⟩ trivial (by kernel_rfl) (λ x=>by kernel_rfl)
def Bp.e (k:Nat):Ent:=⟨1,[(.val false .s)],[(.one,.b)],λ x=>Bp k x⟩
def Ah.p:LF:=⟨⟨[],[(0,.s),(3,(.i .i64))]⟩,[(.ret,⟨[],[(2,.b)]⟩),((.exit 0),⟨[],[(0,.s)]⟩)],λ k x=>Ah k x.1 x.2⟩
def Bp.d:Fd := { nt:=45,nv:=1,nm:=[0,1,3,4],res:=[2],cs:=λ k=>[(37,H0.e k)],ls:=[(2,Ah.p)] }
theorem Bp.a (k:Nat):AC (Bp.d.cs k):=⟨H0.s k,trivial⟩
theorem Ah.s:LL Tryz.f18 Bp.d 2 Ah.p:=mL [] Bp.a trivial (by kernel_rfl) (λ _=>rfl) (λ k x=>by kernel_rfl)
theorem Bp.s (k:Nat):CK 18 (Bp.e k):=mS Bp.d k [2] Tryz.func18 (Bp.a k) ⟨Ah.s,trivial⟩ (by kernel_rfl) (λ x=>by kernel_rfl)
def Bl.e (k:Nat):Ent:=⟨2,[(.val true t16),(.val true t16)],[(.one,.b)],λ x=>Bl x.1 x.2⟩
def Bl.d:Fd := { nt:=32,nv:=2,nm:=[0,1,2,3],res:=[4] }
theorem Bl.s (k:Nat):CK 25 (Bl.e k):=mS Bl.d k [] Tryz.func25 trivial trivial (by kernel_rfl) (λ x=>by kernel_rfl)
def I6.e (k:Nat):Ent:=⟨1,[(.val true t25)],[(.one,.b)],λ x=>I6 x⟩
def I6.d:Fd := { nt:=23,nv:=1,nm:=[0,1],res:=[2],cs:=λ k=>[(15,Dm.e k)] }
theorem I6.s (k:Nat):CK 40 (I6.e k):=mS I6.d k [] Tryz.func40 ⟨Dm.s k,trivial⟩ trivial (by kernel_rfl) (λ x=>by kernel_rfl)
def Cw.e (k:Nat):Ent:=⟨1,[(.val true t48)],[(.one,.b)],λ x=>Cw k x⟩
def E4.p:LF:=⟨⟨[(1,(.bp 1 0 0)),(2999,(.hd 9))],[(6,t35),(7,(.i .i64)),(8,(.i .i64)),(2000,t48)]⟩,[(.ret,⟨[],[(2,.b)]⟩),((.exit 0),⟨[(1,(.bp 1 0 0)),(2999,(.hd 9))],[(2000,t48)]⟩)],λ k x=>E4 k x.1 x.2.1 x.2.2.1 x.2.2.2⟩
def Cw.d:Fd := { nt:=35,nv:=1,nm:=[0,1,3,4],res:=[2],cs:=λ k=>[(18,Bp.e k),(25,Bl.e k),(40,I6.e k)],ls:=[(2,E4.p)],rf:=true }
theorem Cw.a (k:Nat):AC (Cw.d.cs k):=⟨Bp.s k,Bl.s k,I6.s k,trivial⟩
theorem E4.s:LL Tryz.f16 Cw.d 2 E4.p:=mL [] Cw.a trivial (by kernel_rfl) (λ _=>rfl) (λ k x=>by kernel_rfl)
theorem Cw.s (k:Nat):CK 16 (Cw.e k):=mS Cw.d k [2] Tryz.func16 (Cw.a k) ⟨E4.s,trivial⟩ (by kernel_rfl) (λ x=>by kernel_rfl)
def Jd.e (k:Nat):Ent:=⟨1,[(.val true t28)],[(.one,.b)],λ x=>Jd k x⟩
def Jd.d:Fd := { nt:=26,nv:=1,nm:=[0,1],res:=[2],cs:=λ k=>[(15,Dm.e k),(18,Bp.e k),(37,H0.e k)] }
theorem Jd.s (k:Nat):CK 41 (Jd.e k):=mS Jd.d k [] Tryz.func41 ⟨Dm.s k,Bp.s k,H0.s k,trivial⟩ trivial (by kernel_rfl) (λ x=>by kernel_rfl)
def Dn.e (k:Nat):Ent:=⟨1,[(.val false t13)],[(.one,.b)],λ x=>Dn k x⟩
def E5.p:LF:=⟨⟨[],[(0,t13),(5,t13),(6,(.i .i64)),(7,(.i .i64))]⟩,[(.ret,⟨[],[(2,.b)]⟩),((.exit 0),⟨[],[(0,t13)]⟩)],λ k x=>E5 k x.1 x.2.1 x.2.2.1 x.2.2.2⟩
def Dn.d:Fd := { nt:=41,nv:=1,nm:=[0,1,3,4],res:=[2],cs:=λ k=>[(18,Bp.e k)],ls:=[(2,E5.p)] }
theorem Dn.a (k:Nat):AC (Dn.d.cs k):=⟨Bp.s k,trivial⟩
theorem E5.s:LL Tryz.f70 Dn.d 2 E5.p:=mL [] Dn.a trivial (by kernel_rfl) (λ _=>rfl) (λ k x=>by kernel_rfl)
theorem Dn.s (k:Nat):CK 70 (Dn.e k):=mS Dn.d k [2] Tryz.func70 (Dn.a k) ⟨E5.s,trivial⟩ (by kernel_rfl) (λ x=>by kernel_rfl)
def Jv.e (k:Nat):Ent:=⟨1,[(.val true t27)],[(.one,.b)],λ x=>Jv k x⟩
def Jv.d:Fd := { nt:=11,nv:=1,nm:=[0,1],res:=[2],cs:=λ k=>[(70,Dn.e k)] }
theorem Jv.s (k:Nat):CK 42 (Jv.e k):=mS Jv.d k [] Tryz.func42 ⟨Dn.s k,trivial⟩ trivial (by kernel_rfl) (λ x=>by kernel_rfl)
def Gb.e (k:Nat):Ent:=⟨1,[(.val false t31)],[(.one,.b)],λ x=>Gb k x⟩
def Fx.p:LF:=⟨⟨[],[(0,t31),(5,t31),(6,(.i .i64)),(7,(.i .i64))]⟩,[(.ret,⟨[],[(2,.b)]⟩),((.exit 0),⟨[],[(0,t31)]⟩)],λ k x=>Fx k x.1 x.2.1 x.2.2.1 x.2.2.2⟩
def Gb.d:Fd := { nt:=34,nv:=1,nm:=[0,1,3,4],res:=[2],cs:=λ k=>[(41,Jd.e k)],ls:=[(2,Fx.p)] }
theorem Gb.a (k:Nat):AC (Gb.d.cs k):=⟨Jd.s k,trivial⟩
theorem Fx.s:LL Tryz.f43 Gb.d 2 Fx.p:=mL [] Gb.a trivial (by kernel_rfl) (λ _=>rfl) (λ k x=>by kernel_rfl)
theorem Gb.s (k:Nat):CK 43 (Gb.e k):=mS Gb.d k [2] Tryz.func43 (Gb.a k) ⟨Fx.s,trivial⟩ (by kernel_rfl) (λ x=>by kernel_rfl)
def Gc.e (k:Nat):Ent:=⟨1,[(.val true t40)],[(.one,.b)],λ x=>Gc k x⟩
def H4.p:LF:=⟨⟨[(1,(.bp 1 0 0)),(2999,(.hd 5))],[(6,t31),(7,(.i .i64)),(8,(.i .i64)),(2000,(.i .i64)),(2001,t13),(2002,t13),(2003,t31),(2004,t31)]⟩,[(.ret,⟨[],[(2,.b)]⟩),((.exit 0),⟨[(1,(.bp 1 0 0)),(2999,(.hd 5))],[(2000,(.i .i64)),(2001,t13),(2002,t13),(2003,t31),(2004,t31)]⟩)],λ k x=>H4 k x.1 x.2.1 x.2.2.1 x.2.2.2.1 x.2.2.2.2.1 x.2.2.2.2.2.1 x.2.2.2.2.2.2.1 x.2.2.2.2.2.2.2⟩
def Gc.d:Fd := { nt:=35,nv:=1,nm:=[0,1,3,4],res:=[2],cs:=λ k=>[(37,H0.e k),(41,Jd.e k),(42,Jv.e k),(43,Gb.e k)],ls:=[(2,H4.p)] }
theorem Gc.a (k:Nat):AC (Gc.d.cs k):=⟨H0.s k,Jd.s k,Jv.s k,Gb.s k,trivial⟩
theorem H4.s:LL Tryz.f17 Gc.d 2 H4.p:=mL [] Gc.a trivial (by kernel_rfl) (λ _=>rfl) (λ k x=>by kernel_rfl)
theorem Gc.s (k:Nat):CK 17 (Gc.e k):=mS Gc.d k [2] Tryz.func17 (Gc.a k) ⟨H4.s,trivial⟩ (by kernel_rfl) (λ x=>by kernel_rfl)
def Bu.e (k:Nat):Ent:=⟨1,[(.val true t48)],[(.one,.b)],λ x=>Bu k x⟩
def Ce.p:LF:=⟨⟨[(1,(.bp 1 0 0)),(2999,(.hd 9))],[(57,t0),(58,(.i .i64)),(59,(.i .i64)),(2000,t48)]⟩,[(.ret,⟨[],[(2,.b)]⟩),((.exit 2),⟨[],[]⟩)],λ k x=>Ce k x.1 x.2.1 x.2.2.1 x.2.2.2⟩
def E6.p:LF:=⟨⟨[(1,(.bp 1 0 0)),(2999,(.hd 9))],[(34,t45),(35,(.i .i64)),(36,(.i .i64)),(2000,t48)]⟩,[(.ret,⟨[],[(2,.b)]⟩),((.exit 0),⟨[(1,(.bp 1 0 0)),(2999,(.hd 9))],[(2000,t48)]⟩)],λ k x=>E6 k x.1 x.2.1 x.2.2.1 x.2.2.2⟩
def Bu.d:Fd := { nt:=82,nv:=1,nm:=[0,1,3,4,5,6],res:=[2],cs:=λ k=>[(14,Ep.e k),(15,Dm.e k),(16,Cw.e k),(17,Gc.e k),(18,Bp.e k)],ls:=[(10,Ce.p),(4,E6.p)],rf:=true }
theorem Bu.a (k:Nat):AC (Bu.d.cs k):=⟨Ep.s k,Dm.s k,Cw.s k,Gc.s k,Bp.s k,trivial⟩
theorem Ce.s:LL Tryz.f7 Bu.d 10 Ce.p:=mL [] Bu.a trivial (by kernel_rfl) (λ _=>rfl) (λ k x=>by kernel_rfl)
theorem E6.s:LL Tryz.f7 Bu.d 4 E6.p:=mL [] Bu.a trivial (by kernel_rfl) (λ _=>rfl) (λ k x=>by kernel_rfl)
theorem Bu.s (k:Nat):CK 7 (Bu.e k):=mS Bu.d k [4,10] Tryz.func7 (Bu.a k) ⟨E6.s,Ce.s,trivial⟩ (by kernel_rfl) (λ x=>by kernel_rfl)
def Hk.e (k:Nat):Ent:=⟨2,[(.val false t4),(.val false (.i .i64))],[(.one,(.i .i64)),(.one,(.i .i64)),(.one,.b)],λ x=>Hk k x.1 x.2⟩
def Fy.p:LF:=⟨⟨[],[(0,t4),(1,(.i .i64)),(7,(.i .i64)),(8,(.i .i64))]⟩,[(.ret,⟨[],[(4,(.i .i64)),(5,(.i .i64)),(6,.b)]⟩),((.exit 0),⟨[],[]⟩)],λ k x=>Fy k x.1 x.2.1 x.2.2.1 x.2.2.2⟩
def Hk.d:Fd := { nt:=57,nv:=2,nm:=[0,1,2,3,7,8,9],res:=[4,5,6],ls:=[(3,Fy.p)] }
theorem Fy.s:LL Tryz.f105 Hk.d 3 Fy.p:=mL [] (λ _=>trivial) trivial (by kernel_rfl) (λ _=>rfl) (λ k x=>by kernel_rfl)
theorem Hk.s (k:Nat):CK 105 (Hk.e k):=mS Hk.d k [3] Tryz.func105 trivial ⟨Fy.s,trivial⟩ (by kernel_rfl) (λ x=>by kernel_rfl)
def Cl.e (k:Nat):Ent:=⟨1,[(.ptr t20 t20)],[(.one,(.i .i64))],λ x=>Cl k x⟩
def Cl.d:Fd := { nt:=35,nv:=1,nm:=[0,1,3,4,5],res:=[2],cs:=λ k=>[(105,Hk.e k)] }
theorem Cl.s (k:Nat):CK 71 (Cl.e k):=mS Cl.d k [] Tryz.func71 ⟨Hk.s k,trivial⟩ trivial (by kernel_rfl) (λ x=>by kernel_rfl)
def Dg.e (k:Nat):Ent:=⟨1,[(.ptr t20 t20)],[(.agg,t16),(.one,.b)],λ x=>Dg k x⟩
def Dg.d:Fd := { nt:=31,nv:=1,nm:=[0,1,4,5],res:=[3],cs:=λ k=>[(71,Cl.e k)] }
theorem Dg.s (k:Nat):CK 44 (Dg.e k):=mS Dg.d k [] Tryz.func44 ⟨Cl.s k,trivial⟩ trivial (by kernel_rfl) (λ x=>by kernel_rfl)
def J7.e (k:Nat):Ent:=⟨2,[(.val false t4),(.val false (.i .i64))],[(.one,.s),(.one,(.i .i64)),(.one,.b)],λ x=>J7 k x.1 x.2⟩
def J7.d:Fd := { nt:=37,nv:=2,nm:=[0,1,2,3,7,8,9],res:=[4,5,6],cs:=λ k=>[(105,Hk.e k)] }
theorem J7.s (k:Nat):CK 72 (J7.e k):=mS J7.d k [] Tryz.func72 ⟨Hk.s k,trivial⟩ trivial (by kernel_rfl) (λ x=>by kernel_rfl)
def Cf.e (k:Nat):Ent:=⟨1,[(.ptr t20 t20)],[(.one,.s)],λ x=>Cf k x⟩
def Cf.d:Fd := { nt:=35,nv:=1,nm:=[0,1,3,4,5],res:=[2],cs:=λ k=>[(72,J7.e k)] }
theorem Cf.s (k:Nat):CK 45 (Cf.e k):=mS Cf.d k [] Tryz.func45 ⟨J7.s k,trivial⟩ trivial (by kernel_rfl) (λ x=>by kernel_rfl)
def Er.e (k:Nat):Ent:=⟨2,[(.val false t5),(.val false (.i .i64))],[(.one,t5)],λ x=>Er k x.1 x.2⟩
def H5.p:LF:=⟨⟨[],[(0,t5),(1,(.i .i64))]⟩,[((.exit 0),⟨[],[(0,t5),(1,(.i .i64))]⟩)],λ k x=>H5 k x.1 x.2⟩
def Er.d:Fd := { nt:=24,nv:=2,nm:=[0,1,2,3],res:=[4],ls:=[(2,H5.p)] }
theorem H5.s:LL Tryz.f106 Er.d 2 H5.p:=mL [] (λ _=>trivial) trivial (by kernel_rfl) (λ _=>rfl) (λ k x=>by kernel_rfl)
theorem Er.s (k:Nat):CK 106 (Er.e k):=mS Er.d k [2] Tryz.func106 trivial ⟨H5.s,trivial⟩ (by kernel_rfl) (λ x=>by kernel_rfl)
def J8.e (k:Nat):Ent:=⟨2,[(.val false t5),(.val false .s)],[(.one,t5)],λ x=>J8 k x.1 x.2⟩
def J8.d:Fd := { nt:=11,nv:=2,nm:=[0,1,2,3],res:=[4],cs:=λ k=>[(106,Er.e k)] }
theorem J8.s (k:Nat):CK 73 (J8.e k):=mS J8.d k [] Tryz.func73 ⟨Er.s k,trivial⟩ trivial (by kernel_rfl) (λ x=>by kernel_rfl)
def N0.e (k:Nat):Ent:=⟨1,[(.val false .b)],[(.one,(.i .i64))],λ x=>N0 x⟩
def N0.d:Fd := { nt:=4,nv:=1,nm:=[0,1],res:=[2] }
theorem N0.s (k:Nat):CK 107 (N0.e k):=mS N0.d k [] Tryz.func107 trivial trivial (by kernel_rfl) (λ x=>by kernel_rfl)
def I7.e (k:Nat):Ent:=⟨3,[(.val false t5),(.val true t16),(.val false .b)],[(.one,t5)],λ x=>I7 k x.1 x.2.1 x.2.2⟩
def I7.d:Fd := { nt:=20,nv:=3,nm:=[0,1,2,3,4,5],res:=[6],cs:=λ k=>[(106,Er.e k),(107,N0.e k)] }
theorem I7.s (k:Nat):CK 74 (I7.e k):=mS I7.d k [] Tryz.func74 ⟨Er.s k,N0.s k,trivial⟩ trivial (by kernel_rfl) (λ x=>by kernel_rfl)
def Lw.e (k:Nat):Ent:=⟨1,[(.val false t4)],[(.one,(.i .i64))],λ x=>Lw k x⟩
def Jf.p:LF:=⟨⟨[],[(3,(.i .u32)),(7,t4),(8,(.i .i64)),(9,(.i .i64)),(17,(.i .i64))]⟩,[((.exit 2),⟨[],[(3,(.i .u32)),(7,t4),(8,(.i .i64)),(9,(.i .i64))]⟩)],λ k x=>Jf k x.1 x.2.1 x.2.2.1 x.2.2.2.1 x.2.2.2.2⟩
def Jw.p:LF:=⟨⟨[],[(3,(.i .u32)),(7,t4),(8,(.i .i64)),(9,(.i .i64))]⟩,[((.exit 0),⟨[],[(3,(.i .u32))]⟩)],λ k x=>Jw k x.1 x.2.1 x.2.2.1 x.2.2.2⟩
def Lw.d:Fd := { nt:=32,nv:=1,nm:=[0,1,3,4,5,6],res:=[2],ls:=[(7,Jf.p),(3,Jw.p)] }
theorem Jf.s:LL Tryz.f75 Lw.d 7 Jf.p:=mL [] (λ _=>trivial) trivial (by kernel_rfl) (λ _=>rfl) (λ k x=>by kernel_rfl)
theorem Jw.s:LL Tryz.f75 Lw.d 3 Jw.p:=mL [7] (λ _=>trivial) ⟨Jf.s,trivial⟩ (by kernel_rfl) (λ _=>rfl) (λ k x=>by kernel_rfl)
theorem Lw.s (k:Nat):CK 75 (Lw.e k):=mS Lw.d k [3] Tryz.func75 trivial ⟨Jw.s,trivial⟩ (by kernel_rfl) (λ x=>by kernel_rfl)
def J9.e (k:Nat):Ent:=⟨1,[(.val true t25)],[(.one,t5)],λ x=>J9 k x⟩
def J9.d:Fd := { nt:=33,nv:=1,nm:=[0,1,3,4],res:=[2],cs:=λ k=>[(40,I6.e k),(73,J8.e k),(74,I7.e k),(75,Lw.e k)] }
theorem J9.s (k:Nat):CK 46 (J9.e k):=mS J9.d k [] Tryz.func46 ⟨I6.s k,J8.s k,I7.s k,Lw.s k,trivial⟩ trivial (by kernel_rfl) (λ x=>by kernel_rfl)
def Gj.e (k:Nat):Ent:=⟨1,[(.val false t4)],[(.agg,t25),(.one,.b)],λ x=>Gj k x⟩
def Gj.d:Fd := { nt:=41,nv:=1,nm:=[0,1,4,5,6],res:=[3],cs:=λ k=>[(44,Dg.e k),(45,Cf.e k),(46,J9.e k)] }
theorem Gj.s (k:Nat):CK 19 (Gj.e k):=mS Gj.d k [] Tryz.func19 ⟨Dg.s k,Cf.s k,J9.s k,trivial⟩ trivial (by kernel_rfl) (λ x=>by kernel_rfl)
def I8.e (k:Nat):Ent:=⟨2,[(.val true t25),(.val true t25)],[(.one,.b)],λ x=>I8 x.1 x.2⟩
def I8.d:Fd := { nt:=26,nv:=2,nm:=[0,1,2,3],res:=[4],rf:=true }
theorem I8.s (k:Nat):CK 47 (I8.e k):=mS I8.d k [] Tryz.func47 trivial trivial (by kernel_rfl) (λ x=>by kernel_rfl)
def Cc.e (k:Nat):Ent:=⟨3,[(.val true t48),(.val false .s),(.val true t25)],[(.one,.b)],λ x=>Cc k x.1 x.2.1 x.2.2⟩
def Cg.p:LF:=⟨⟨[(5,(.bp 5 0 0)),(6999,(.hd 5))],[(1,.s),(10,t35),(11,(.i .i64)),(12,(.i .i64)),(6000,t25)]⟩,[(.ret,⟨[],[(6,.b)]⟩),((.exit 0),⟨[],[]⟩)],λ k x=>Cg k x.1 x.2.1 x.2.2.1 x.2.2.2.1 x.2.2.2.2⟩
def Cc.d:Fd := { nt:=27,nv:=3,nm:=[0,1,2,3,4,5,7,8],res:=[6],cs:=λ k=>[(47,I8.e k)],ls:=[(2,Cg.p)],rf:=true }
theorem Cc.a (k:Nat):AC (Cc.d.cs k):=⟨I8.s k,trivial⟩
theorem Cg.s:LL Tryz.f20 Cc.d 2 Cg.p:=mL [] Cc.a trivial (by kernel_rfl) (λ _=>rfl) (λ k x=>by kernel_rfl)
theorem Cc.s (k:Nat):CK 20 (Cc.e k):=mS Cc.d k [2] Tryz.func20 (Cc.a k) ⟨Cg.s,trivial⟩ (by kernel_rfl) (λ x=>by kernel_rfl)
def Bv.e (k:Nat):Ent:=⟨1,[(.val true t48)],[(.one,.b)],λ x=>Bv k x⟩
def E7.p:LF:=⟨⟨[(1,(.bp 1 0 0)),(2999,(.hd 9))],[(10,t45),(11,(.i .i64)),(12,(.i .i64)),(23,t14),(24,(.i .i64)),(25,(.i .i64)),(2000,t48)]⟩,[(.ret,⟨[],[(2,.b)]⟩),((.exit 2),⟨[(1,(.bp 1 0 0)),(2999,(.hd 9))],[(10,t45),(11,(.i .i64)),(12,(.i .i64)),(2000,t48)]⟩)],λ k x=>E7 k x.1 x.2.1 x.2.2.1 x.2.2.2.1 x.2.2.2.2.1 x.2.2.2.2.2.1 x.2.2.2.2.2.2⟩
def Fl.p:LF:=⟨⟨[(1,(.bp 1 0 0)),(2999,(.hd 9))],[(10,t45),(11,(.i .i64)),(12,(.i .i64)),(2000,t48)]⟩,[(.ret,⟨[],[(2,.b)]⟩),((.exit 0),⟨[],[]⟩)],λ k x=>Fl k x.1 x.2.1 x.2.2.1 x.2.2.2⟩
def Bv.d:Fd := { nt:=46,nv:=1,nm:=[0,1,3,4,5,6,7,8],res:=[2],cs:=λ k=>[(19,Gj.e k),(20,Cc.e k)],ls:=[(5,E7.p),(2,Fl.p)],rf:=true }
theorem Bv.a (k:Nat):AC (Bv.d.cs k):=⟨Gj.s k,Cc.s k,trivial⟩
theorem E7.s:LL Tryz.f8 Bv.d 5 E7.p:=mL [] Bv.a trivial (by kernel_rfl) (λ _=>rfl) (λ k x=>by kernel_rfl)
theorem Fl.s:LL Tryz.f8 Bv.d 2 Fl.p:=mL [5] Bv.a ⟨E7.s,trivial⟩ (by kernel_rfl) (λ _=>rfl) (λ k x=>by kernel_rfl)
theorem Bv.s (k:Nat):CK 8 (Bv.e k):=mS Bv.d k [2] Tryz.func8 (Bv.a k) ⟨Fl.s,trivial⟩ (by kernel_rfl) (λ x=>by kernel_rfl)
def I9.e (k:Nat):Ent:=⟨1,[(.val false t31)],[(.one,t32)],λ x=>I9 x⟩
def I9.d:Fd := { nt:=5,nv:=1,nm:=[0,1],res:=[2] }
theorem I9.s (k:Nat):CK 21 (I9.e k):=mS I9.d k [] Tryz.func21 trivial trivial (by kernel_rfl) (λ x=>by kernel_rfl)
def Lc.e (k:Nat):Ent:=⟨2,[(.val false .s),(.val true t25)],[(.agg,t28)],λ x=>Lc x.1 x.2⟩
def Lc.d:Fd := { nt:=14,nv:=2,nm:=[0,1,2,3],res:=[],rf:=true }
theorem Lc.s (k:Nat):CK 22 (Lc.e k):=mS Lc.d k [] Tryz.func22 trivial trivial (by kernel_rfl) (λ x=>by kernel_rfl)
def C3.e (k:Nat):Ent:=⟨1,[(.val true t48)],[(.one,.b)],λ x=>C3 k x⟩
def Dl.p:LF:=⟨⟨[(1,(.bp 1 0 0)),(6,(.bp 6 0 0)),(2999,(.hd 9)),(7999,(.hd 6))],[(7,.b),(11,t45),(12,(.i .i64)),(13,(.i .i64)),(22,t32),(23,(.i .i64)),(24,(.i .i64)),(29,t35),(30,(.i .i64)),(31,(.i .i64)),(2000,t48),(7000,t28)]⟩,[((.exit 4),⟨[(1,(.bp 1 0 0)),(2999,(.hd 9))],[(7,.b),(11,t45),(12,(.i .i64)),(13,(.i .i64)),(22,t32),(23,(.i .i64)),(24,(.i .i64)),(2000,t48)]⟩)],λ k x=>Dl k x.1 x.2.1 x.2.2.1 x.2.2.2.1 x.2.2.2.2.1 x.2.2.2.2.2.1 x.2.2.2.2.2.2.1 x.2.2.2.2.2.2.2.1 x.2.2.2.2.2.2.2.2.1 x.2.2.2.2.2.2.2.2.2.1 x.2.2.2.2.2.2.2.2.2.2.1 x.2.2.2.2.2.2.2.2.2.2.2⟩
def H6.p:LF:=⟨⟨[(1,(.bp 1 0 0)),(2999,(.hd 9))],[(11,t45),(12,(.i .i64)),(13,(.i .i64)),(22,t32),(23,(.i .i64)),(24,(.i .i64)),(2000,t48)]⟩,[(.ret,⟨[],[(2,.b)]⟩),((.exit 2),⟨[(1,(.bp 1 0 0)),(2999,(.hd 9))],[(11,t45),(12,(.i .i64)),(13,(.i .i64)),(2000,t48)]⟩)],λ k x=>H6 k x.1 x.2.1 x.2.2.1 x.2.2.2.1 x.2.2.2.2.1 x.2.2.2.2.2.1 x.2.2.2.2.2.2⟩
def H7.p:LF:=⟨⟨[(1,(.bp 1 0 0)),(2999,(.hd 9))],[(11,t45),(12,(.i .i64)),(13,(.i .i64)),(2000,t48)]⟩,[(.ret,⟨[],[(2,.b)]⟩),((.exit 0),⟨[],[]⟩)],λ k x=>H7 k x.1 x.2.1 x.2.2.1 x.2.2.2⟩
def C3.d:Fd := { nt:=50,nv:=1,nm:=[0,1,3,4,5,6,7,8,9],res:=[2],cs:=λ k=>[(21,I9.e k),(22,Lc.e k)],ls:=[(9,Dl.p),(5,H6.p),(2,H7.p)],rf:=true }
theorem C3.a (k:Nat):AC (C3.d.cs k):=⟨I9.s k,Lc.s k,trivial⟩
theorem Dl.s:LL Tryz.f9 C3.d 9 Dl.p:=mL [] C3.a trivial (by kernel_rfl) (λ _=>rfl) (λ k x=>by kernel_rfl)
theorem H6.s:LL Tryz.f9 C3.d 5 H6.p:=mL [9] C3.a ⟨Dl.s,trivial⟩ (by kernel_rfl) (λ _=>rfl) (λ k x=>by kernel_rfl)
theorem H7.s:LL Tryz.f9 C3.d 2 H7.p:=mL [5] C3.a ⟨H6.s,trivial⟩ (by kernel_rfl) (λ _=>rfl) (λ k x=>by kernel_rfl)
theorem C3.s (k:Nat):CK 9 (C3.e k):=mS C3.d k [2] Tryz.func9 (C3.a k) ⟨H7.s,trivial⟩ (by kernel_rfl) (λ x=>by kernel_rfl)
def Ij.e (k:Nat):Ent:=⟨2,[(.val false t0),(.val false .s)],[(.one,.b)],λ x=>Ij k x.1 x.2⟩
def Fm.p:LF:=⟨⟨[],[(1,.s),(7,t0),(8,(.i .i64)),(9,(.i .i64))]⟩,[(.ret,⟨[],[(4,.b)]⟩),((.exit 0),⟨[],[]⟩)],λ k x=>Fm k x.1 x.2.1 x.2.2.1 x.2.2.2⟩
def Ij.d:Fd := { nt:=17,nv:=2,nm:=[0,1,2,3,5,6],res:=[4],ls:=[(2,Fm.p)],rf:=true }
theorem Fm.s:LL Tryz.f23 Ij.d 2 Fm.p:=mL [] (λ _=>trivial) trivial (by kernel_rfl) (λ _=>rfl) (λ k x=>by kernel_rfl)
theorem Ij.s (k:Nat):CK 23 (Ij.e k):=mS Ij.d k [2] Tryz.func23 trivial ⟨Fm.s,trivial⟩ (by kernel_rfl) (λ x=>by kernel_rfl)
def Na.e (k:Nat):Ent:=⟨2,[(.val false t13),(.val false .s)],[(.one,(.i .i64))],λ x=>Na k x.1 x.2⟩
def Kq.p:LF:=⟨⟨[],[(1,.s),(7,t13),(8,(.i .i64)),(9,(.i .i64))]⟩,[(.ret,⟨[],[(4,(.i .i64))]⟩),((.exit 0),⟨[],[]⟩)],λ k x=>Kq k x.1 x.2.1 x.2.2.1 x.2.2.2⟩
def Na.d:Fd := { nt:=20,nv:=2,nm:=[0,1,2,3,5,6],res:=[4],ls:=[(2,Kq.p)] }
theorem Kq.s:LL Tryz.f48 Na.d 2 Kq.p:=mL [] (λ _=>trivial) trivial (by kernel_rfl) (λ _=>rfl) (λ k x=>by kernel_rfl)
theorem Na.s (k:Nat):CK 48 (Na.e k):=mS Na.d k [2] Tryz.func48 trivial ⟨Kq.s,trivial⟩ (by kernel_rfl) (λ x=>by kernel_rfl)
def Ih.e (k:Nat):Ent:=⟨3,[(.val true t48),(.val false .s),(.val true t16)],[(.one,.b)],λ x=>Ih k x.1 x.2.1 x.2.2⟩
def G0.p:LF:=⟨⟨[(5,(.bp 5 0 0)),(6999,(.hd 3))],[(1,.s),(13,t45),(14,(.i .i64)),(15,(.i .i64)),(6000,t16)]⟩,[(.ret,⟨[],[(6,.b)]⟩),((.exit 0),⟨[],[]⟩)],λ k x=>G0 k x.1 x.2.1 x.2.2.1 x.2.2.2.1 x.2.2.2.2⟩
def Ih.d:Fd := { nt:=46,nv:=3,nm:=[0,1,2,3,4,5,7,8,9,10,11],res:=[6],cs:=λ k=>[(19,Gj.e k),(25,Bl.e k),(48,Na.e k)],ls:=[(2,G0.p)],rf:=true }
theorem Ih.a (k:Nat):AC (Ih.d.cs k):=⟨Gj.s k,Bl.s k,Na.s k,trivial⟩
theorem G0.s:LL Tryz.f24 Ih.d 2 G0.p:=mL [] Ih.a trivial (by kernel_rfl) (λ _=>rfl) (λ k x=>by kernel_rfl)
theorem Ih.s (k:Nat):CK 24 (Ih.e k):=mS Ih.d k [2] Tryz.func24 (Ih.a k) ⟨G0.s,trivial⟩ (by kernel_rfl) (λ x=>by kernel_rfl)
def Ia.e (k:Nat):Ent:=⟨1,[(.val true t48)],[(.one,.b)],λ x=>Ia k x⟩
def Ho.p:LF:=⟨⟨[(1,(.bp 1 0 0)),(2999,(.hd 9))],[(6,t35),(7,(.i .i64)),(8,(.i .i64)),(2000,t48)]⟩,[(.ret,⟨[],[(2,.b)]⟩),((.exit 0),⟨[],[]⟩)],λ k x=>Ho k x.1 x.2.1 x.2.2.1 x.2.2.2⟩
def Ia.d:Fd := { nt:=33,nv:=1,nm:=[0,1,3,4],res:=[2],cs:=λ k=>[(23,Ij.e k),(24,Ih.e k)],ls:=[(2,Ho.p)],rf:=true }
theorem Ia.a (k:Nat):AC (Ia.d.cs k):=⟨Ij.s k,Ih.s k,trivial⟩
theorem Ho.s:LL Tryz.f10 Ia.d 2 Ho.p:=mL [] Ia.a trivial (by kernel_rfl) (λ _=>rfl) (λ k x=>by kernel_rfl)
theorem Ia.s (k:Nat):CK 10 (Ia.e k):=mS Ia.d k [2] Tryz.func10 (Ia.a k) ⟨Ho.s,trivial⟩ (by kernel_rfl) (λ x=>by kernel_rfl)
def Cm.e (k:Nat):Ent:=⟨1,[(.val true t48)],[(.one,.b)],λ x=>Cm k x⟩
def E8.p:LF:=⟨⟨[(1,(.bp 1 0 0)),(2999,(.hd 9))],[(6,t35),(7,(.i .i64)),(8,(.i .i64)),(2000,t48)]⟩,[(.ret,⟨[],[(2,.b)]⟩),((.exit 0),⟨[],[]⟩)],λ k x=>E8 k x.1 x.2.1 x.2.2.1 x.2.2.2⟩
def Cm.d:Fd := { nt:=39,nv:=1,nm:=[0,1,3,4],res:=[2],cs:=λ k=>[(25,Bl.e k)],ls:=[(2,E8.p)],rf:=true }
theorem Cm.a (k:Nat):AC (Cm.d.cs k):=⟨Bl.s k,trivial⟩
theorem E8.s:LL Tryz.f11 Cm.d 2 E8.p:=mL [] Cm.a trivial (by kernel_rfl) (λ _=>rfl) (λ k x=>by kernel_rfl)
theorem Cm.s (k:Nat):CK 11 (Cm.e k):=mS Cm.d k [2] Tryz.func11 (Cm.a k) ⟨E8.s,trivial⟩ (by kernel_rfl) (λ x=>by kernel_rfl)
def Lo.e (k:Nat):Ent:=⟨1,[(.val true t48)],[(.one,(.i .i64))],λ x=>Lo k x⟩
def Lo.d:Fd := { nt:=23,nv:=1,nm:=[0,1],res:=[2],cs:=λ k=>[(7,Bu.e k),(8,Bv.e k),(9,C3.e k),(10,Ia.e k),(11,Cm.e k)],rf:=true }
theorem Lo.s (k:Nat):CK 6 (Lo.e k):=mS Lo.d k [] Tryz.func6 ⟨Bu.s k,Bv.s k,C3.s k,Ia.s k,Cm.s k,trivial⟩ trivial (by kernel_rfl) (λ x=>by kernel_rfl)
def Es.e (k:Nat):Ent:=⟨2,[(.val true t17),(.val false t22)],[(.one,.b)],λ x=>Es k x.1 x.2⟩
def H8.p:LF:=⟨⟨[(2,(.bp 2 0 0)),(3999,(.hd 2))],[(1,t22),(5,(.i .i64)),(6,(.i .i64)),(3000,t17)]⟩,[(.ret,⟨[],[(4,.b)]⟩),((.exit 2),⟨[(2,(.bp 2 0 0)),(3999,(.hd 2))],[(1,t22),(5,(.i .i64)),(3000,t17)]⟩)],λ k x=>H8 k x.1 x.2.1 x.2.2.1 x.2.2.2⟩
def H9.p:LF:=⟨⟨[(2,(.bp 2 0 0)),(3999,(.hd 2))],[(1,t22),(5,(.i .i64)),(3000,t17)]⟩,[(.ret,⟨[],[(4,.b)]⟩),((.exit 0),⟨[],[]⟩)],λ k x=>H9 k x.1 x.2.1 x.2.2⟩
def Es.d:Fd := { nt:=68,nv:=2,nm:=[0,1,2,3,5,6,7,8],res:=[4],cs:=λ k=>[(76,Bm.e k),(77,A8.e k),(78,Dt.e k),(79,Dq.e k)],ls:=[(9,H8.p),(4,H9.p)],rf:=true }
theorem Es.a (k:Nat):AC (Es.d.cs k):=⟨Bm.s k,A8.s k,Dt.s k,Dq.s k,trivial⟩
theorem H8.s:LL Tryz.f49 Es.d 9 H8.p:=mL [] Es.a trivial (by kernel_rfl) (λ _=>rfl) (λ k x=>by kernel_rfl)
theorem H9.s:LL Tryz.f49 Es.d 4 H9.p:=mL [9] Es.a ⟨H8.s,trivial⟩ (by kernel_rfl) (λ _=>rfl) (λ k x=>by kernel_rfl)
theorem Es.s (k:Nat):CK 49 (Es.e k):=mS Es.d k [4] Tryz.func49 (Es.a k) ⟨H9.s,trivial⟩ (by kernel_rfl) (λ x=>by kernel_rfl)
def Cy.e (k:Nat):Ent:=⟨1,[(.val true t48)],[(.one,.b)],λ x=>Cy k x⟩
def E9.p:LF:=⟨⟨[(1,(.bp 1 0 0)),(2999,(.hd 9))],[(3,(.i .i64)),(2000,t48)]⟩,[(.ret,⟨[],[(2,.b)]⟩),((.exit 0),⟨[],[]⟩)],λ k x=>E9 k x.1 x.2⟩
def Cy.d:Fd := { nt:=40,nv:=1,nm:=[0,1,3],res:=[2],cs:=λ k=>[(80,Bo.e k)],ls:=[(4,E9.p)],rf:=true }
theorem Cy.a (k:Nat):AC (Cy.d.cs k):=⟨Bo.s k,trivial⟩
theorem E9.s:LL Tryz.f50 Cy.d 4 E9.p:=mL [] Cy.a trivial (by kernel_rfl) (λ _=>rfl) (λ k x=>by kernel_rfl)
theorem Cy.s (k:Nat):CK 50 (Cy.e k):=mS Cy.d k [4] Tryz.func50 (Cy.a k) ⟨E9.s,trivial⟩ (by kernel_rfl) (λ x=>by kernel_rfl)
def Ct.e (k:Nat):Ent:=⟨1,[(.val true t48)],[(.one,.b)],λ x=>Ct k x⟩
def Ch.p:LF:=⟨⟨[(1,(.bp 1 0 0)),(2999,(.hd 9))],[(5,(.i .i64)),(2000,t48)]⟩,[(.ret,⟨[],[(2,.b)]⟩),((.exit 2),⟨[],[]⟩)],λ k x=>Ch k x.1 x.2⟩
def Fn.p:LF:=⟨⟨[(1,(.bp 1 0 0)),(2999,(.hd 9))],[(3,(.i .i64)),(2000,t48)]⟩,[(.ret,⟨[],[(2,.b)]⟩),((.exit 0),⟨[(1,(.bp 1 0 0)),(2999,(.hd 9))],[(2000,t48)]⟩)],λ k x=>Fn k x.1 x.2⟩
def Ct.d:Fd := { nt:=91,nv:=1,nm:=[0,1,3,4,5],res:=[2],cs:=λ k=>[(49,Es.e k),(50,Cy.e k),(51,Bt.e k),(52,Af.e k),(53,Bn.e k),(54,Aw.e k)],ls:=[(10,Ch.p),(4,Fn.p)],rf:=true }
theorem Ct.a (k:Nat):AC (Ct.d.cs k):=⟨Es.s k,Cy.s k,Bt.s k,Af.s k,Bn.s k,Aw.s k,trivial⟩
theorem Ch.s:LL Tryz.f26 Ct.d 10 Ch.p:=mL [] Ct.a trivial (by kernel_rfl) (λ _=>rfl) (λ k x=>by kernel_rfl)
theorem Fn.s:LL Tryz.f26 Ct.d 4 Fn.p:=mL [] Ct.a trivial (by kernel_rfl) (λ _=>rfl) (λ k x=>by kernel_rfl)
theorem Ct.s (k:Nat):CK 26 (Ct.e k):=mS Ct.d k [4,10] Tryz.func26 (Ct.a k) ⟨Fn.s,Ch.s,trivial⟩ (by kernel_rfl) (λ x=>by kernel_rfl)
def Jx.e (k:Nat):Ent:=⟨2,[(.val true t25),(.val true t25)],[(.one,.b)],λ x=>Jx x.1 x.2⟩
def Jx.d:Fd := { nt:=26,nv:=2,nm:=[0,1,2,3],res:=[4],rf:=true }
theorem Jx.s (k:Nat):CK 116 (Jx.e k):=mS Jx.d k [] Tryz.func116 trivial trivial (by kernel_rfl) (λ x=>by kernel_rfl)
def Cz.e (k:Nat):Ent:=⟨3,[(.val true t48),(.val false .s),(.val true t25)],[(.one,.b)],λ x=>Cz k x.1 x.2.1 x.2.2⟩
def D6.p:LF:=⟨⟨[(3,(.bp 3 0 0)),(5,(.bp 5 0 0)),(4999,(.hd 9)),(6999,(.hd 5))],[(1,.s),(7,(.i .i64)),(4000,t48),(6000,t25)]⟩,[(.ret,⟨[],[(6,.b)]⟩),((.exit 0),⟨[],[]⟩)],λ k x=>D6 k x.1 x.2.1 x.2.2.1 x.2.2.2⟩
def Cz.d:Fd := { nt:=33,nv:=3,nm:=[0,1,2,3,4,5,7],res:=[6],cs:=λ k=>[(116,Jx.e k)],ls:=[(2,D6.p)],rf:=true }
theorem Cz.a (k:Nat):AC (Cz.d.cs k):=⟨Jx.s k,trivial⟩
theorem D6.s:LL Tryz.f82 Cz.d 2 D6.p:=mL [] Cz.a trivial (by kernel_rfl) (λ _=>rfl) (λ k x=>by kernel_rfl)
theorem Cz.s (k:Nat):CK 82 (Cz.e k):=mS Cz.d k [2] Tryz.func82 (Cz.a k) ⟨D6.s,trivial⟩ (by kernel_rfl) (λ x=>by kernel_rfl)
def Dp.e (k:Nat):Ent:=⟨2,[(.val true t48),(.val false t13)],[(.one,.b)],λ x=>Dp k x.1 x.2⟩
def Ea.p:LF:=⟨⟨[(2,(.bp 2 0 0)),(3999,(.hd 9))],[(1,t13),(5,(.i .i64)),(3000,t48)]⟩,[(.ret,⟨[],[(4,.b)]⟩),((.exit 0),⟨[],[]⟩)],λ k x=>Ea k x.1 x.2.1 x.2.2⟩
def Dp.d:Fd := { nt:=35,nv:=2,nm:=[0,1,2,3,5,6,7],res:=[4],cs:=λ k=>[(81,C8.e k),(82,Cz.e k)],ls:=[(2,Ea.p)],rf:=true }
theorem Dp.a (k:Nat):AC (Dp.d.cs k):=⟨C8.s k,Cz.s k,trivial⟩
theorem Ea.s:LL Tryz.f55 Dp.d 2 Ea.p:=mL [] Dp.a trivial (by kernel_rfl) (λ _=>rfl) (λ k x=>by kernel_rfl)
theorem Dp.s (k:Nat):CK 55 (Dp.e k):=mS Dp.d k [2] Tryz.func55 (Dp.a k) ⟨Ea.s,trivial⟩ (by kernel_rfl) (λ x=>by kernel_rfl)
def Ej.e (k:Nat):Ent:=⟨1,[(.val true t48)],[(.one,.b)],λ x=>Ej k x⟩
def Fo.p:LF:=⟨⟨[(1,(.bp 1 0 0)),(2999,(.hd 9))],[(3,(.i .i64)),(2000,t48)]⟩,[(.ret,⟨[],[(2,.b)]⟩),((.exit 0),⟨[],[]⟩)],λ k x=>Fo k x.1 x.2⟩
def Ej.d:Fd := { nt:=33,nv:=1,nm:=[0,1,3],res:=[2],cs:=λ k=>[(55,Dp.e k)],ls:=[(2,Fo.p)],rf:=true }
theorem Ej.a (k:Nat):AC (Ej.d.cs k):=⟨Dp.s k,trivial⟩
theorem Fo.s:LL Tryz.f27 Ej.d 2 Fo.p:=mL [] Ej.a trivial (by kernel_rfl) (λ _=>rfl) (λ k x=>by kernel_rfl)
theorem Ej.s (k:Nat):CK 27 (Ej.e k):=mS Ej.d k [2] Tryz.func27 (Ej.a k) ⟨Fo.s,trivial⟩ (by kernel_rfl) (λ x=>by kernel_rfl)
def Co.e (k:Nat):Ent:=⟨2,[(.val true t48),(.val false t31)],[(.one,.b)],λ x=>Co k x.1 x.2⟩
def Cn.p:LF:=⟨⟨[(2,(.bp 2 0 0)),(3999,(.hd 9))],[(1,t31),(5,(.i .i64)),(6,.b),(7,(.i .i64)),(3000,t48)]⟩,[((.exit 2),⟨[(2,(.bp 2 0 0)),(3999,(.hd 9))],[(1,t31),(5,(.i .i64)),(6,.b),(3000,t48)]⟩)],λ k x=>Cn k x.1 x.2.1 x.2.2.1 x.2.2.2.1 x.2.2.2.2⟩
def Fp.p:LF:=⟨⟨[(2,(.bp 2 0 0)),(3999,(.hd 9))],[(1,t31),(5,(.i .i64)),(3000,t48)]⟩,[(.ret,⟨[],[(4,.b)]⟩),((.exit 0),⟨[],[]⟩)],λ k x=>Fp k x.1 x.2.1 x.2.2⟩
def Co.d:Fd := { nt:=44,nv:=2,nm:=[0,1,2,3,5,6,7],res:=[4],cs:=λ k=>[(83,Ey.e k)],ls:=[(6,Cn.p),(2,Fp.p)],rf:=true }
theorem Co.a (k:Nat):AC (Co.d.cs k):=⟨Ey.s k,trivial⟩
theorem Cn.s:LL Tryz.f56 Co.d 6 Cn.p:=mL [] Co.a trivial (by kernel_rfl) (λ _=>rfl) (λ k x=>by kernel_rfl)
theorem Fp.s:LL Tryz.f56 Co.d 2 Fp.p:=mL [6] Co.a ⟨Cn.s,trivial⟩ (by kernel_rfl) (λ _=>rfl) (λ k x=>by kernel_rfl)
theorem Co.s (k:Nat):CK 56 (Co.e k):=mS Co.d k [2] Tryz.func56 (Co.a k) ⟨Fp.s,trivial⟩ (by kernel_rfl) (λ x=>by kernel_rfl)
def Gd.e (k:Nat):Ent:=⟨1,[(.val true t48)],[(.one,.b)],λ x=>Gd k x⟩
def Ha.p:LF:=⟨⟨[(1,(.bp 1 0 0)),(2999,(.hd 9))],[(3,(.i .i64)),(2000,t48)]⟩,[(.ret,⟨[],[(2,.b)]⟩),((.exit 0),⟨[],[]⟩)],λ k x=>Ha k x.1 x.2⟩
def Gd.d:Fd := { nt:=31,nv:=1,nm:=[0,1,3],res:=[2],cs:=λ k=>[(56,Co.e k)],ls:=[(2,Ha.p)],rf:=true }
theorem Gd.a (k:Nat):AC (Gd.d.cs k):=⟨Co.s k,trivial⟩
theorem Ha.s:LL Tryz.f28 Gd.d 2 Ha.p:=mL [] Gd.a trivial (by kernel_rfl) (λ _=>rfl) (λ k x=>by kernel_rfl)
theorem Gd.s (k:Nat):CK 28 (Gd.e k):=mS Gd.d k [2] Tryz.func28 (Gd.a k) ⟨Ha.s,trivial⟩ (by kernel_rfl) (λ x=>by kernel_rfl)
def Ek.e (k:Nat):Ent:=⟨2,[(.val true t48),(.val true t33)],[(.one,.b)],λ x=>Ek k x.1 x.2⟩
def Dh.p:LF:=⟨⟨[(2,(.bp 2 0 0)),(3,(.bp 3 0 0)),(3999,(.hd 9)),(4999,(.hd 7))],[(5,(.i .i64)),(3000,t48),(4000,t33)]⟩,[(.ret,⟨[],[(4,.b)]⟩),((.exit 0),⟨[],[]⟩)],λ k x=>Dh k x.1 x.2.1 x.2.2⟩
def Ek.d:Fd := { nt:=47,nv:=2,nm:=[0,1,2,3,5,6,7,8,9],res:=[4],cs:=λ k=>[(81,C8.e k),(84,C0.e k),(85,Ja.e k)],ls:=[(2,Dh.p)],rf:=true }
theorem Ek.a (k:Nat):AC (Ek.d.cs k):=⟨C8.s k,C0.s k,Ja.s k,trivial⟩
theorem Dh.s:LL Tryz.f58 Ek.d 2 Dh.p:=mL [] Ek.a trivial (by kernel_rfl) (λ _=>rfl) (λ k x=>by kernel_rfl)
theorem Ek.s (k:Nat):CK 58 (Ek.e k):=mS Ek.d k [2] Tryz.func58 (Ek.a k) ⟨Dh.s,trivial⟩ (by kernel_rfl) (λ x=>by kernel_rfl)
def Ji.e (k:Nat):Ent:=⟨1,[(.val true t48)],[(.one,.b)],λ x=>Ji k x⟩
def Hp.p:LF:=⟨⟨[(1,(.bp 1 0 0)),(2999,(.hd 9))],[(3,(.i .i64)),(2000,t48)]⟩,[(.ret,⟨[],[(2,.b)]⟩),((.exit 0),⟨[],[]⟩)],λ k x=>Hp k x.1 x.2⟩
def Ji.d:Fd := { nt:=33,nv:=1,nm:=[0,1,3,4],res:=[2],cs:=λ k=>[(57,Em.e k),(58,Ek.e k)],ls:=[(2,Hp.p)],rf:=true }
theorem Ji.a (k:Nat):AC (Ji.d.cs k):=⟨Em.s k,Ek.s k,trivial⟩
theorem Hp.s:LL Tryz.f29 Ji.d 2 Hp.p:=mL [] Ji.a trivial (by kernel_rfl) (λ _=>rfl) (λ k x=>by kernel_rfl)
theorem Ji.s (k:Nat):CK 29 (Ji.e k):=mS Ji.d k [2] Tryz.func29 (Ji.a k) ⟨Hp.s,trivial⟩ (by kernel_rfl) (λ x=>by kernel_rfl)
def El.e (k:Nat):Ent:=⟨1,[(.val true t48)],[(.one,.b)],λ x=>El k x⟩
def Eb.p:LF:=⟨⟨[(1,(.bp 1 0 0)),(2999,(.hd 9))],[(3,(.i .i64)),(2000,t48)]⟩,[(.ret,⟨[],[(2,.b)]⟩),((.exit 0),⟨[],[]⟩)],λ k x=>Eb k x.1 x.2⟩
def El.d:Fd := { nt:=40,nv:=1,nm:=[0,1,3,4],res:=[2],cs:=λ k=>[(54,Aw.e k)],ls:=[(2,Eb.p)],rf:=true }
theorem El.a (k:Nat):AC (El.d.cs k):=⟨Aw.s k,trivial⟩
theorem Eb.s:LL Tryz.f30 El.d 2 Eb.p:=mL [] El.a trivial (by kernel_rfl) (λ _=>rfl) (λ k x=>by kernel_rfl)
theorem El.s (k:Nat):CK 30 (El.e k):=mS El.d k [2] Tryz.func30 (El.a k) ⟨Eb.s,trivial⟩ (by kernel_rfl) (λ x=>by kernel_rfl)
def Jj.e (k:Nat):Ent:=⟨1,[(.val true t48)],[(.one,(.i .i64))],λ x=>Jj k x⟩
def Jj.d:Fd := { nt:=23,nv:=1,nm:=[0,1],res:=[2],cs:=λ k=>[(26,Ct.e k),(27,Ej.e k),(28,Gd.e k),(29,Ji.e k),(30,El.e k)],rf:=true }
theorem Jj.s (k:Nat):CK 12 (Jj.e k):=mS Jj.d k [] Tryz.func12 ⟨Ct.s k,Ej.s k,Gd.s k,Ji.s k,El.s k,trivial⟩ trivial (by kernel_rfl) (λ x=>by kernel_rfl)
def Ki.e (k:Nat):Ent:=⟨1,[(.val false t4)],[(.one,.b)],λ x=>Ki k x⟩
def Ki.d:Fd := { nt:=48,nv:=1,nm:=[0,1,3,4,5],res:=[2],cs:=λ k=>[(4,Mz.e k),(5,Iv.e k),(6,Lo.e k),(7,Bu.e k),(8,Bv.e k),(9,C3.e k),(10,Ia.e k),(11,Cm.e k),(12,Jj.e k)],sh:=true,rf:=true }
theorem Ki.s (k:Nat):CK 3 (Ki.e k):=mS Ki.d k [] Tryz.func3 ⟨Mz.s k,Iv.s k,Lo.s k,Bu.s k,Bv.s k,C3.s k,Ia.s k,Cm.s k,Jj.s k,trivial⟩ trivial (by kernel_rfl) (λ x=>by kernel_rfl)
end

end Go.Proofs.YtcgfpppmikhgmaaGreat.Vf
