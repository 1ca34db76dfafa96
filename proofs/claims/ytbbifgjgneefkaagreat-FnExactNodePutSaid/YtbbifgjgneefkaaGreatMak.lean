import Derived.Test.YtbbifgjgneefkaaGreatMab
import Derived.Test.YtbbifgjgneefkaaGreatMaj
import Derived.Test.YtbbifgjgneefkaaGreatProg
import Derived.KernelRfl
import Derived.IntWalk
import Derived.Laws.StructEq
set_option linter.all false
namespace Go.Proofs.YtbbifgjgneefkaaGreat.Vf
open Go
open List (length getD)
open Int (toNat)
open Go.IntKind (wrap)
open BitVec (ofInt)
def Wj:=@Bool.true_and
def Zi:=@Nat.pow_succ
def S0a:=@Bool.not_eq_false'
def Sga:=@Int.tmod_eq_emod_of_nonneg
def Sha:=@Int.tdiv_eq_ediv_of_nonneg
def Sia:=@Int.fdiv_eq_ediv_of_nonneg
def Spa:=@Bool.false_and
def Sya:=@BitVec.toNat_and
def T6a:=@Sum.elim_inr
def Taa:=@Nat.mul_le_mul
def Tda:=@Nat.mul_comm

section
open Go.Proofs
@[reducible] def t0:Ty := .sl 9 .s
@[reducible] def t1:Ty := .sl 5 (.i .u8)
@[reducible] def t2:Ty := .ow 5 (.i .u8)
@[reducible] def t3:Ty := .sl 3 (.i .i64)
@[reducible] def t4:Ty := .pr .s (.i .u64)
@[reducible] def t5:Ty := .sl 186 t3
@[reducible] def t6:Ty := .sl 193 t3
@[reducible] def t7:Ty := .pr .s t1
@[reducible] def t8:Ty := .pr .s t2
@[reducible] def t9:Ty := .sl 164 t7
@[reducible] def t10:Ty := .sl 167 t7
@[reducible] def t11:Ty := .ow 167 t7
@[reducible] def t12:Ty := .ow 167 t8
@[reducible] def t13:Ty := .pr (.i .i64) (.pr (.i .i64) (.i .i64))
@[reducible] def t14:Ty := .pr (.i .i64) t5
@[reducible] def t15:Ty := .pr (.i .i64) t6
@[reducible] def t16:Ty := .pr t1 (.pr (.i .i64) .b)
@[reducible] def t17:Ty := .sl 153 t13
@[reducible] def t18:Ty := .sl 151 t13
@[reducible] def t19:Ty := .pr (.i .i64) (.pr (.i .i64) (.pr .b (.i .u8)))
@[reducible] def t20:Ty := .pr t13 (.pr .b t1)
@[reducible] def t21:Ty := .pr t13 (.pr .b t2)
@[reducible] def t22:Ty := .pr .s (.pr t13 (.pr .b (.i .i64)))
@[reducible] def t23:Ty := .pr t9 t9
@[reducible] def t24:Ty := .pr t10 t10
@[reducible] def t25:Ty := .pr t11 t11
@[reducible] def t26:Ty := .pr t12 t12
@[reducible] def t27:Ty := .sl 93 t22
@[reducible] def t28:Ty := .ow 93 t22
@[reducible] def t29:Ty := .sl 125 t22
@[reducible] def t30:Ty := .pr .s (.pr t20 .b)
@[reducible] def t31:Ty := .sl 149 t30
@[reducible] def t32:Ty := .sl 156 t30
@[reducible] def t33:Ty := .pr t28 t28
@[reducible] def t34:Ty := .pr (.i .i64) (.pr t24 (.pr t27 t27))
@[reducible] def t35:Ty := .pr (.i .i64) (.pr t25 t33)
@[reducible] def t36:Ty := .pr (.i .i64) (.pr t24 t33)
@[reducible] def t37:Ty := .pr (.i .i64) (.pr t26 t33)
@[reducible] def t38:Ty := .pr (.i .i64) (.pr t23 (.pr t29 t29))
@[reducible] def t39:Ty := .sl 40 t34
@[reducible] def t40:Ty := .sl 27 t38
@[reducible] def t41:Ty := .pr t18 (.pr t15 (.pr t39 (.pr t13 (.pr t32 t0))))
@[reducible] def t42:Ty := .pr t17 (.pr t14 (.pr t40 (.pr t13 (.pr t31 t0))))
def tiL:List (Nat×TI):=[(2,⟨(.i .i64),false,8,[]⟩),
 (3,⟨(.i .i64),false,8,[]⟩),
 (4,⟨.b,false,1,[]⟩),
 (5,⟨(.i .u8),false,1,[]⟩),
 (6,⟨(.i .u8),false,1,[]⟩),
 (7,⟨t19,true,24,[(0,1,false),(1,1,false),(2,1,false),(3,1,false)]⟩),
 (8,⟨t19,true,24,[(0,1,false),(1,1,false),(2,1,false),(3,1,false)]⟩),
 (9,⟨.s,false,16,[]⟩),
 (10,⟨.s,false,16,[]⟩),
 (11,⟨.s,false,16,[]⟩),
 (12,⟨(.i .u64),false,8,[]⟩),
 (13,⟨t4,true,24,[(0,1,false),(1,1,false)]⟩),
 (14,⟨t4,true,24,[(0,1,false),(1,1,false)]⟩),
 (21,⟨(.i .i32),false,4,[]⟩),
 (22,⟨t9,false,24,[]⟩),
 (23,⟨t23,true,48,[(0,1,false),(1,1,false)]⟩),
 (24,⟨t23,true,48,[(0,1,false),(1,1,false)]⟩),
 (25,⟨t29,false,24,[]⟩),
 (26,⟨t38,true,104,[(0,1,false),(1,2,true),(3,1,false),(4,1,false)]⟩),
 (27,⟨t38,true,104,[(0,1,false),(1,2,true),(3,1,false),(4,1,false)]⟩),
 (28,⟨t13,true,24,[(0,1,false),(1,1,false),(2,1,false)]⟩),
 (29,⟨t13,true,24,[(0,1,false),(1,1,false),(2,1,false)]⟩),
 (30,⟨t1,false,24,[]⟩),
 (31,⟨t20,true,56,[(0,3,true),(3,1,false),(4,1,false)]⟩),
 (32,⟨t20,true,56,[(0,3,true),(3,1,false),(4,1,false)]⟩),
 (35,⟨t10,false,24,[]⟩),
 (36,⟨t24,true,48,[(0,1,false),(1,1,false)]⟩),
 (37,⟨t24,true,48,[(0,1,false),(1,1,false)]⟩),
 (38,⟨t27,false,24,[]⟩),
 (39,⟨t34,true,104,[(0,1,false),(1,2,true),(3,1,false),(4,1,false)]⟩),
 (40,⟨t34,true,104,[(0,1,false),(1,2,true),(3,1,false),(4,1,false)]⟩),
 (44,⟨t13,true,24,[(0,1,false),(1,1,false),(2,1,false)]⟩),
 (45,⟨t20,true,56,[(0,3,true),(3,1,false),(4,1,false)]⟩),
 (46,⟨t20,true,56,[(0,3,true),(3,1,false),(4,1,false)]⟩),
 (53,⟨t17,false,24,[]⟩),
 (54,⟨t5,false,24,[]⟩),
 (55,⟨t14,true,32,[(0,1,false),(1,1,false)]⟩),
 (56,⟨t14,true,32,[(0,1,false),(1,1,false)]⟩),
 (57,⟨t40,false,24,[]⟩),
 (58,⟨t31,false,24,[]⟩),
 (59,⟨t0,false,24,[]⟩),
 (60,⟨t42,true,152,[(0,1,false),(1,2,true),(3,1,false),(4,3,true),(7,1,false),(8,1,false)]⟩),
 (61,⟨t42,true,152,[(0,1,false),(1,2,true),(3,1,false),(4,3,true),(7,1,false),(8,1,false)]⟩),
 (65,⟨t18,false,24,[]⟩),
 (66,⟨t6,false,24,[]⟩),
 (67,⟨t15,true,32,[(0,1,false),(1,1,false)]⟩),
 (68,⟨t15,true,32,[(0,1,false),(1,1,false)]⟩),
 (69,⟨t39,false,24,[]⟩),
 (70,⟨t32,false,24,[]⟩),
 (71,⟨t41,true,152,[(0,1,false),(1,2,true),(3,1,false),(4,3,true),(7,1,false),(8,1,false)]⟩),
 (72,⟨t41,true,152,[(0,1,false),(1,2,true),(3,1,false),(4,3,true),(7,1,false),(8,1,false)]⟩),
 (92,⟨t22,true,56,[(0,1,false),(1,3,true),(4,1,false),(5,1,false)]⟩),
 (93,⟨t22,true,56,[(0,1,false),(1,3,true),(4,1,false),(5,1,false)]⟩),
 (124,⟨t22,true,56,[(0,1,false),(1,3,true),(4,1,false),(5,1,false)]⟩),
 (125,⟨t22,true,56,[(0,1,false),(1,3,true),(4,1,false),(5,1,false)]⟩),
 (148,⟨t30,true,80,[(0,1,false),(1,5,true),(6,1,false)]⟩),
 (149,⟨t30,true,80,[(0,1,false),(1,5,true),(6,1,false)]⟩),
 (150,⟨t13,true,24,[(0,1,false),(1,1,false),(2,1,false)]⟩),
 (151,⟨t13,true,24,[(0,1,false),(1,1,false),(2,1,false)]⟩),
 (153,⟨t13,true,24,[(0,1,false),(1,1,false),(2,1,false)]⟩),
 (155,⟨t30,true,80,[(0,1,false),(1,5,true),(6,1,false)]⟩),
 (156,⟨t30,true,80,[(0,1,false),(1,5,true),(6,1,false)]⟩),
 (163,⟨t7,true,40,[(0,1,false),(1,1,false)]⟩),
 (164,⟨t7,true,40,[(0,1,false),(1,1,false)]⟩),
 (167,⟨t7,true,40,[(0,1,false),(1,1,false)]⟩),
 (171,⟨t16,true,40,[(0,1,false),(1,1,false),(2,1,false)]⟩),
 (172,⟨t16,true,40,[(0,1,false),(1,1,false),(2,1,false)]⟩),
 (181,⟨(.i .u64),false,8,[]⟩),
 (184,⟨t3,false,24,[]⟩),
 (185,⟨t3,true,24,[(0,1,false)]⟩),
 (186,⟨t3,true,24,[(0,1,false)]⟩),
 (193,⟨t3,true,24,[(0,1,false)]⟩),
 (203,⟨(.i .u32),false,4,[]⟩),
 (211,⟨(.i .u8),false,1,[]⟩),
 (212,⟨(.i .u8),false,1,[]⟩),
 (215,⟨(.i .i32),false,4,[]⟩),
 (216,⟨(.i .i32),false,4,[]⟩)]
def ti:TypeId→Option TI:=lk tiL
def Nia:List Nat:=[28,29,44,92,93,124,125,150,151,153]
def eqs:TypeId→Bool:=λ T=>Nia.contains T
def sK:Q7 Tryz.prog ti eqs∧∀ T,Mw Tryz.prog ti T=true:=Pwa (P:=Tryz.prog) (ti:=ti) (eqs:=eqs) (keys:=tiL.map Prod.fst) (Nia:=Nia) Kva (by kernel_rfl) (by kernel_rfl) rfl (by kernel_rfl)
def sO:Q7 Tryz.prog ti eqs:=sK.1
def Pia:∀ T t,ti T=some t→TOk Tryz.prog T t:=sO.tok
def Pja:∀ T,Mw Tryz.prog ti T=true:=sK.2
abbrev CK:=Iq Tryz.prog
abbrev LL:=LK Tryz.prog
abbrev AC:=Mja Tryz.prog
def mS {f:FuncId} {fn:Func} (D:Fd) (k:Nat) {en:Ent} (ids:List Nat) (hf:Tryz.prog.funcs[f]? = some fn) (hc:AC (D.cs k)) (hi:Mka Tryz.prog fn D ids) (h:(Pva fn D en,H4 (bo fn),ids.map λ l=>first (Ga l (bo fn)))=(true,ids.map λ l=>Ga l (bo fn),ids):=by kernel_rfl) (hr:∀ x,E4a (D.n ti eqs k) (bo fn) fn.results.toList en x=en.run x:=by intro x;kernel_rfl):CK f en:=mkS sO ids hf hc hi (congrArg Prod.fst h) (congrArg Prod.snd h) hr
def mL {fn:Func} {D:Fd} {l:Nat} {p:LF} (ids:List Nat) (hc:∀ k,AC (D.cs k)) (hi:Mka Tryz.prog fn D ids) (h:(Nat.beq D.nt fn.ntmps,H4 (Ga l (bo fn)),ids.map λ l=>first (Ga l (bo fn)))=(true,ids.map λ l=>Ga l (bo fn),ids):=by kernel_rfl) (h0:∀ x,p.f 0 x=none:=by intro _;rfl) (hs:Qma ti eqs fn D l p:=by intro k x;kernel_rfl):LL fn D l p:=mkL sO ids (congrArg Prod.fst h) hc hi (congrArg Prod.snd h) h0 hs
def Dw.e (k:Nat):Ent:=⟨2,[(.val false t1),(.val false (.i .i64))],[(.one,(.i .i64))],λ x=>Dw x.1 x.2⟩
def Dw.d:Fd := { nt:=12,nv:=2,nm:=[0,1,2,3],res:=[4],rf:=true }
def Dw.s (k:Nat):CK 25 (Dw.e k):=mS Dw.d k [] Tryz.func25 trivial trivial
def F3.e (k:Nat):Ent:=⟨2,[(.val true t7),(.val false (.i .i64))],[(.one,(.i .i64))],λ x=>F3 x.1 x.2⟩
def F3.d:Fd := { nt:=19,nv:=2,nm:=[0,1,2,3],res:=[4],cs:=λ k=>[(25,Dw.e k)],rf:=true }
def F3.s (k:Nat):CK 117 (F3.e k):=mS F3.d k [] Tryz.func117 ⟨Dw.s k,trivial⟩ trivial
def B1.e (k:Nat):Ent:=⟨2,[(.val false t9),(.val false (.i .i64))],[(.one,(.i .i64))],λ x=>B1 k x.1 x.2⟩
def Cl.p:LF:=⟨⟨[],[(0,t9),(1,(.i .i64)),(5,(.i .i64))]⟩,[(.ret,⟨[],[(4,(.i .i64))]⟩),((.exit 0),⟨[],[(1,(.i .i64))]⟩)],λ k x=>Cl k x.1 x.2.1 x.2.2⟩
def B1.d:Fd := { nt:=27,nv:=2,nm:=[0,1,2,3,5],res:=[4],cs:=λ k=>[(117,F3.e k)],ls:=[(5,Cl.p)],rf:=true }
def B1.a (k:Nat):AC (B1.d.cs k):=⟨F3.s k,trivial⟩
def Cl.s:LL Tryz.f75 B1.d 5 Cl.p:=mL [] B1.a trivial
def B1.s (k:Nat):CK 75 (B1.e k):=mS B1.d k [5] Tryz.func75 (B1.a k) ⟨Cl.s,trivial⟩
def Fp.e (k:Nat):Ent:=⟨2,[(.val true t23),(.val false (.i .i64))],[(.one,(.i .i64))],λ x=>Fp k x.1 x.2⟩
def Fp.d:Fd := { nt:=18,nv:=2,nm:=[0,1,2,3],res:=[4],cs:=λ k=>[(75,B1.e k)],rf:=true }
def Fp.s (k:Nat):CK 23 (Fp.e k):=mS Fp.d k [] Tryz.func23 ⟨B1.s k,trivial⟩ trivial
def Gj.e (k:Nat):Ent:=⟨2,[(.val true t22),(.val false (.i .i64))],[(.one,(.i .i64))],λ x=>Gj x.1 x.2⟩
def Gj.d:Fd := { nt:=13,nv:=2,nm:=[0,1,2,3],res:=[4],rf:=true }
def Gj.s (k:Nat):CK 76 (Gj.e k):=mS Gj.d k [] Tryz.func76 trivial trivial
def Ca.e (k:Nat):Ent:=⟨2,[(.val false t29),(.val false (.i .i64))],[(.one,(.i .i64))],λ x=>Ca k x.1 x.2⟩
def Dz.p:LF:=⟨⟨[],[(0,t29),(1,(.i .i64)),(5,(.i .i64))]⟩,[(.ret,⟨[],[(4,(.i .i64))]⟩),((.exit 0),⟨[],[(1,(.i .i64))]⟩)],λ k x=>Dz k x.1 x.2.1 x.2.2⟩
def Ca.d:Fd := { nt:=27,nv:=2,nm:=[0,1,2,3,5],res:=[4],cs:=λ k=>[(76,Gj.e k)],ls:=[(5,Dz.p)],rf:=true }
def Ca.a (k:Nat):AC (Ca.d.cs k):=⟨Gj.s k,trivial⟩
def Dz.s:LL Tryz.f24 Ca.d 5 Dz.p:=mL [] Ca.a trivial
def Ca.s (k:Nat):CK 24 (Ca.e k):=mS Ca.d k [5] Tryz.func24 (Ca.a k) ⟨Dz.s,trivial⟩
def Fq.e (k:Nat):Ent:=⟨2,[(.val true t38),(.val false (.i .i64))],[(.one,(.i .i64))],λ x=>Fq k x.1 x.2⟩
def Fq.d:Fd := { nt:=24,nv:=2,nm:=[0,1,2,3],res:=[4],cs:=λ k=>[(23,Fp.e k),(24,Ca.e k)],rf:=true }
def Fq.s (k:Nat):CK 5 (Fq.e k):=mS Fq.d k [] Tryz.func5 ⟨Fp.s k,Ca.s k,trivial⟩ trivial
def Fs.e (k:Nat):Ent:=⟨2,[(.val true t20),(.val false (.i .i64))],[(.one,(.i .i64))],λ x=>Fs x.1 x.2⟩
def Fs.d:Fd := { nt:=12,nv:=2,nm:=[0,1,2,3],res:=[4],cs:=λ k=>[(25,Dw.e k)],rf:=true }
def Fs.s (k:Nat):CK 6 (Fs.e k):=mS Fs.d k [] Tryz.func6 ⟨Dw.s k,trivial⟩ trivial
def Be.e (k:Nat):Ent:=⟨1,[(.val false t10)],[(.one,t11)],λ x=>Be k x⟩
def B2.p:LF:=⟨⟨[],[(0,t10),(3,t11),(4,(.i .i64))]⟩,[((.exit 0),⟨[],[(3,t11)]⟩)],λ k x=>B2 k x.1 x.2.1 x.2.2⟩
def Be.d:Fd := { nt:=29,nv:=1,nm:=[0,1,3,4],res:=[2],ls:=[(3,B2.p)] }
def B2.s:LL Tryz.f118 Be.d 3 B2.p:=mL [] (λ _=>trivial) trivial
def Be.s (k:Nat):CK 118 (Be.e k):=mS Be.d k [3] Tryz.func118 trivial ⟨B2.s,trivial⟩
def A7.e (k:Nat):Ent:=⟨1,[(.val true t24)],[(.agg,t25)],λ x=>A7 k x⟩
def A7.d:Fd := { nt:=10,nv:=1,nm:=[0,1],res:=[],cs:=λ k=>[(118,Be.e k)] }
def A7.s (k:Nat):CK 77 (A7.e k):=mS A7.d k [] Tryz.func77 ⟨Be.s k,trivial⟩ trivial
def Ei.e (k:Nat):Ent:=⟨1,[(.val true t34)],[(.agg,t35)],λ x=>Ei k x⟩
def Ei.d:Fd := { nt:=17,nv:=1,nm:=[0,1],res:=[],cs:=λ k=>[(77,A7.e k)] }
def Ei.s (k:Nat):CK 26 (Ei.e k):=mS Ei.d k [] Tryz.func26 ⟨A7.s k,trivial⟩ trivial
def C7.e (k:Nat):Ent:=⟨3,[(.val false (.i .i64)),(.val false (.i .i64)),(.val false (.i .i64))],[(.one,.b)],λ x=>C7 x.1 x.2.1 x.2.2⟩
def C7.d:Fd := { nt:=15,nv:=3,nm:=[0,1,2,3,4,5],res:=[6] }
def C7.s (k:Nat):CK 79 (C7.e k):=mS C7.d k [] Tryz.func79 trivial trivial
def An.e (k:Nat):Ent:=⟨1,[(.val false .s)],[(.one,.b)],λ x=>An k x⟩
def B8.p:LF:=⟨⟨[],[(0,.s),(3,(.i .i64))]⟩,[(.ret,⟨[],[(2,.b)]⟩),((.exit 0),⟨[],[(0,.s)]⟩)],λ k x=>B8 k x.1 x.2⟩
def An.d:Fd := { nt:=38,nv:=1,nm:=[0,1,3,4],res:=[2],cs:=λ k=>[(79,C7.e k)],ls:=[(2,B8.p)] }
def An.a (k:Nat):AC (An.d.cs k):=⟨C7.s k,trivial⟩
def B8.s:LL Tryz.f28 An.d 2 B8.p:=mL [] An.a trivial
def An.s (k:Nat):CK 28 (An.e k):=mS An.d k [2] Tryz.func28 (An.a k) ⟨B8.s,trivial⟩
def D6.e (k:Nat):Ent:=⟨1,[(.val true t13)],[(.one,.b)],λ x=>D6 x⟩
def D6.d:Fd := { nt:=16,nv:=1,nm:=[0,1],res:=[2],cs:=λ k=>[(79,C7.e k)] }
def D6.s (k:Nat):CK 82 (D6.e k):=mS D6.d k [] Tryz.func82 ⟨C7.s k,trivial⟩ trivial
def E3.e (k:Nat):Ent:=⟨1,[(.val true t22)],[(.one,.b)],λ x=>E3 k x⟩
def E3.d:Fd := { nt:=26,nv:=1,nm:=[0,1],res:=[2],cs:=λ k=>[(28,An.e k),(79,C7.e k),(82,D6.e k)] }
def E3.s (k:Nat):CK 78 (E3.e k):=mS E3.d k [] Tryz.func78 ⟨An.s k,C7.s k,D6.s k,trivial⟩ trivial
def Cb.e (k:Nat):Ent:=⟨1,[(.val false t10)],[(.one,.b)],λ x=>Cb k x⟩
def Cm.p:LF:=⟨⟨[],[(0,t10),(3,(.i .i64))]⟩,[(.ret,⟨[],[(2,.b)]⟩),((.exit 0),⟨[],[(0,t10)]⟩)],λ k x=>Cm k x.1 x.2⟩
def Cb.d:Fd := { nt:=47,nv:=1,nm:=[0,1,3],res:=[2],cs:=λ k=>[(28,An.e k)],ls:=[(2,Cm.p)] }
def Cb.a (k:Nat):AC (Cb.d.cs k):=⟨An.s k,trivial⟩
def Cm.s:LL Tryz.f119 Cb.d 2 Cm.p:=mL [] Cb.a trivial
def Cb.s (k:Nat):CK 119 (Cb.e k):=mS Cb.d k [2] Tryz.func119 (Cb.a k) ⟨Cm.s,trivial⟩
def C5.e (k:Nat):Ent:=⟨1,[(.val true t24)],[(.one,.b)],λ x=>C5 k x⟩
def C5.d:Fd := { nt:=11,nv:=1,nm:=[0,1],res:=[2],cs:=λ k=>[(119,Cb.e k)] }
def C5.s (k:Nat):CK 80 (C5.e k):=mS C5.d k [] Tryz.func80 ⟨Cb.s k,trivial⟩ trivial
def Cv.e (k:Nat):Ent:=⟨1,[(.val false t27)],[(.one,.b)],λ x=>Cv k x⟩
def Cn.p:LF:=⟨⟨[],[(0,t27),(3,(.i .i64))]⟩,[(.ret,⟨[],[(2,.b)]⟩),((.exit 0),⟨[],[(0,t27)]⟩)],λ k x=>Cn k x.1 x.2⟩
def Cv.d:Fd := { nt:=37,nv:=1,nm:=[0,1,3],res:=[2],cs:=λ k=>[(78,E3.e k)],ls:=[(2,Cn.p)] }
def Cv.a (k:Nat):AC (Cv.d.cs k):=⟨E3.s k,trivial⟩
def Cn.s:LL Tryz.f81 Cv.d 2 Cn.p:=mL [] Cv.a trivial
def Cv.s (k:Nat):CK 81 (Cv.e k):=mS Cv.d k [2] Tryz.func81 (Cv.a k) ⟨Cn.s,trivial⟩
def Cw.e (k:Nat):Ent:=⟨1,[(.val true t34)],[(.one,.b)],λ x=>Cw k x⟩
def Dd.p:LF:=⟨⟨[(1,(.bp 1 0 0)),(2999,(.hd 5))],[(3,(.i .i64)),(2000,(.i .i64)),(2001,t10),(2002,t10),(2003,t27),(2004,t27)]⟩,[(.ret,⟨[],[(2,.b)]⟩),((.exit 0),⟨[(1,(.bp 1 0 0)),(2999,(.hd 5))],[(2000,(.i .i64)),(2001,t10),(2002,t10),(2003,t27),(2004,t27)]⟩)],λ k x=>Dd k x.1 x.2.1 x.2.2.1 x.2.2.2.1 x.2.2.2.2.1 x.2.2.2.2.2⟩
def Cw.d:Fd := { nt:=37,nv:=1,nm:=[0,1,3],res:=[2],cs:=λ k=>[(78,E3.e k),(79,C7.e k),(80,C5.e k),(81,Cv.e k)],ls:=[(2,Dd.p)] }
def Cw.a (k:Nat):AC (Cw.d.cs k):=⟨E3.s k,C7.s k,C5.s k,Cv.s k,trivial⟩
def Dd.s:LL Tryz.f27 Cw.d 2 Dd.p:=mL [] Cw.a trivial
def Cw.s (k:Nat):CK 27 (Cw.e k):=mS Cw.d k [2] Tryz.func27 (Cw.a k) ⟨Dd.s,trivial⟩
def Bf.e (k:Nat):Ent:=⟨1,[(.val true t20)],[(.one,.b)],λ x=>Bf x⟩
def Bf.d:Fd := { nt:=23,nv:=1,nm:=[0,1],res:=[2],cs:=λ k=>[(82,D6.e k)] }
def Bf.s (k:Nat):CK 29 (Bf.e k):=mS Bf.d k [] Tryz.func29 ⟨D6.s k,trivial⟩ trivial
def Gg.e (k:Nat):Ent:=⟨2,[(.val false t10),(.val false .s)],[(.one,(.i .i64))],λ x=>Gg k x.1 x.2⟩
def Ej.p:LF:=⟨⟨[],[(0,t10),(1,.s),(5,(.i .i64))]⟩,[(.ret,⟨[],[(4,(.i .i64))]⟩),((.exit 0),⟨[],[]⟩)],λ k x=>Ej k x.1 x.2.1 x.2.2⟩
def Gg.d:Fd := { nt:=20,nv:=2,nm:=[0,1,2,3,5],res:=[4],ls:=[(2,Ej.p)] }
def Ej.s:LL Tryz.f137 Gg.d 2 Ej.p:=mL [] (λ _=>trivial) trivial
def Gg.s (k:Nat):CK 137 (Gg.e k):=mS Gg.d k [2] Tryz.func137 trivial ⟨Ej.s,trivial⟩
def C8.e (k:Nat):Ent:=⟨2,[(.val true t24),(.val false .s)],[(.one,t2),(.one,.b)],λ x=>C8 k x.1 x.2⟩
def C8.d:Fd := { nt:=22,nv:=2,nm:=[0,1,2,3,6],res:=[4,5],cs:=λ k=>[(137,Gg.e k)] }
def C8.s (k:Nat):CK 106 (C8.e k):=mS C8.d k [] Tryz.func106 ⟨Gg.s k,trivial⟩ trivial
def Bg.e (k:Nat):Ent:=⟨2,[(.val false t1),(.val false (.i .i64))],[(.one,t2)],λ x=>Bg k x.1 x.2⟩
def B9.p:LF:=⟨⟨[],[(1,(.i .i64)),(5,t2)]⟩,[((.exit 0),⟨[],[(1,(.i .i64)),(5,t2)]⟩)],λ k x=>B9 k x.1 x.2⟩
def Bg.d:Fd := { nt:=29,nv:=2,nm:=[0,1,2,3,5],res:=[4],ls:=[(6,B9.p)] }
def B9.s:LL Tryz.f148 Bg.d 6 B9.p:=mL [] (λ _=>trivial) trivial
def Bg.s (k:Nat):CK 148 (Bg.e k):=mS Bg.d k [6] Tryz.func148 trivial ⟨B9.s,trivial⟩
def Ek.e (k:Nat):Ent:=⟨2,[(.val false t1),(.val false .s)],[(.one,t2)],λ x=>Ek k x.1 x.2⟩
def Ek.d:Fd := { nt:=11,nv:=2,nm:=[0,1,2,3],res:=[4],cs:=λ k=>[(148,Bg.e k)] }
def Ek.s (k:Nat):CK 147 (Ek.e k):=mS Ek.d k [] Tryz.func147 ⟨Bg.s k,trivial⟩ trivial
def El.e (k:Nat):Ent:=⟨2,[(.val false t1),(.val true t13)],[(.one,t2)],λ x=>El k x.1 x.2⟩
def El.d:Fd := { nt:=15,nv:=2,nm:=[0,1,2,3],res:=[4],cs:=λ k=>[(148,Bg.e k)] }
def El.s (k:Nat):CK 149 (El.e k):=mS El.d k [] Tryz.func149 ⟨Bg.s k,trivial⟩ trivial
def Ft.e (k:Nat):Ent:=⟨1,[(.val false .b)],[(.one,(.i .i64))],λ x=>Ft x⟩
def Ft.d:Fd := { nt:=4,nv:=1,nm:=[0,1],res:=[2] }
def Ft.s (k:Nat):CK 150 (Ft.e k):=mS Ft.d k [] Tryz.func150 trivial trivial
def H1.e (k:Nat):Ent:=⟨1,[(.val false t1)],[(.one,(.i .i64))],λ x=>H1 k x⟩
def Ey.p:LF:=⟨⟨[],[(0,t1),(3,(.i .i64)),(4,(.i .i64)),(5,(.i .i64))]⟩,[((.exit 2),⟨[],[(0,t1),(3,(.i .i64)),(4,(.i .i64))]⟩)],λ k x=>Ey k x.1 x.2.1 x.2.2.1 x.2.2.2⟩
def F7.p:LF:=⟨⟨[],[(0,t1),(3,(.i .i64)),(4,(.i .i64))]⟩,[((.exit 0),⟨[],[(3,(.i .i64))]⟩)],λ k x=>F7 k x.1 x.2.1 x.2.2⟩
def H1.d:Fd := { nt:=34,nv:=1,nm:=[0,1,3,4,5,6],res:=[2],ls:=[(7,Ey.p),(3,F7.p)] }
def Ey.s:LL Tryz.f151 H1.d 7 Ey.p:=mL [] (λ _=>trivial) trivial
def F7.s:LL Tryz.f151 H1.d 3 F7.p:=mL [7] (λ _=>trivial) ⟨Ey.s,trivial⟩
def H1.s (k:Nat):CK 151 (H1.e k):=mS H1.d k [3] Tryz.func151 trivial ⟨F7.s,trivial⟩
def C3.e (k:Nat):Ent:=⟨1,[(.val true t20)],[(.one,t2)],λ x=>C3 k x⟩
def C3.d:Fd := { nt:=37,nv:=1,nm:=[0,1,3,4],res:=[2],cs:=λ k=>[(29,Bf.e k),(147,Ek.e k),(148,Bg.e k),(149,El.e k),(150,Ft.e k),(151,H1.e k)] }
def C3.s (k:Nat):CK 122 (C3.e k):=mS C3.d k [] Tryz.func122 ⟨Bf.s k,Ek.s k,Bg.s k,El.s k,Ft.s k,H1.s k,trivial⟩ trivial
def Bh.e (k:Nat):Ent:=⟨2,[(.val false t1),(.val false (.i .i64))],[(.one,(.i .i64)),(.one,(.i .i64)),(.one,.b)],λ x=>Bh k x.1 x.2⟩
def C2.p:LF:=⟨⟨[],[(0,t1),(1,(.i .i64)),(7,(.i .i64)),(8,(.i .i64))]⟩,[(.ret,⟨[],[(4,(.i .i64)),(5,(.i .i64)),(6,.b)]⟩),((.exit 0),⟨[],[]⟩)],λ k x=>C2 k x.1 x.2.1 x.2.2.1 x.2.2.2⟩
def Bh.d:Fd := { nt:=64,nv:=2,nm:=[0,1,2,3,7,8,9],res:=[4,5,6],ls:=[(3,C2.p)] }
def C2.s:LL Tryz.f139 Bh.d 3 C2.p:=mL [] (λ _=>trivial) trivial
def Bh.s (k:Nat):CK 139 (Bh.e k):=mS Bh.d k [3] Tryz.func139 trivial ⟨C2.s,trivial⟩
def Cc.e (k:Nat):Ent:=⟨2,[(.val false t1),(.val false (.i .i64))],[(.agg,t13),(.one,(.i .i64)),(.one,.b)],λ x=>Cc k x.1 x.2⟩
def Cc.d:Fd := { nt:=49,nv:=2,nm:=[0,1,2,3,7,8,9,10,11,12,13,14,15],res:=[5,6],cs:=λ k=>[(139,Bh.e k)] }
def Cc.s (k:Nat):CK 138 (Cc.e k):=mS Cc.d k [] Tryz.func138 ⟨Bh.s k,trivial⟩ trivial
def Em.e (k:Nat):Ent:=⟨2,[(.val false t1),(.val false (.i .i64))],[(.one,.s),(.one,(.i .i64)),(.one,.b)],λ x=>Em k x.1 x.2⟩
def Em.d:Fd := { nt:=37,nv:=2,nm:=[0,1,2,3,7,8,9],res:=[4,5,6],cs:=λ k=>[(139,Bh.e k)] }
def Em.s (k:Nat):CK 140 (Em.e k):=mS Em.d k [] Tryz.func140 ⟨Bh.s k,trivial⟩ trivial
def Eo.e (k:Nat):Ent:=⟨1,[(.val false t1)],[(.agg,t21),(.one,.b)],λ x=>Eo k x⟩
def Eo.d:Fd := { nt:=76,nv:=1,nm:=[0,1,4,5,6,7,8,9,10,11,12,13],res:=[3],cs:=λ k=>[(29,Bf.e k),(122,C3.e k),(138,Cc.e k),(139,Bh.e k),(140,Em.e k)],mv:=[75] }
def Eo.s (k:Nat):CK 107 (Eo.e k):=mS Eo.d k [] Tryz.func107 ⟨Bf.s k,C3.s k,Cc.s k,Bh.s k,Em.s k,trivial⟩ trivial
def Gu.e (k:Nat):Ent:=⟨2,[(.val true t24),(.val false .s)],[(.agg,t21),(.one,(.i .i64))],λ x=>Gu k x.1 x.2⟩
def Gu.d:Fd := { nt:=28,nv:=2,nm:=[0,1,2,3,6,7,8,9],res:=[5],cs:=λ k=>[(106,C8.e k),(107,Eo.e k)],mv:=[27] }
def Gu.s (k:Nat):CK 55 (Gu.e k):=mS Gu.d k [] Tryz.func55 ⟨C8.s k,Eo.s k,trivial⟩ trivial
def De.e (k:Nat):Ent:=⟨2,[(.val true t13),(.val true t13)],[(.one,.b)],λ x=>De x.1 x.2⟩
def De.d:Fd := { nt:=32,nv:=2,nm:=[0,1,2,3],res:=[4] }
def De.s (k:Nat):CK 108 (De.e k):=mS De.d k [] Tryz.func108 trivial trivial
def G0.e (k:Nat):Ent:=⟨2,[(.val true t20),(.val true t20)],[(.one,.b)],λ x=>G0 x.1 x.2⟩
def G0.d:Fd := { nt:=10,nv:=2,nm:=[0,1,2,3],res:=[4],cs:=λ k=>[(108,De.e k)] }
def G0.s (k:Nat):CK 56 (G0.e k):=mS G0.d k [] Tryz.func56 ⟨De.s k,trivial⟩ trivial
def Fj.e (k:Nat):Ent:=⟨2,[(.val false t10),(.val false .s)],[(.one,t11)],λ x=>Fj k x.1 x.2⟩
def Dl.p:LF:=⟨⟨[],[(0,t10),(1,.s),(5,t11),(6,(.i .i64))]⟩,[((.exit 0),⟨[],[(5,t11)]⟩)],λ k x=>Dl k x.1 x.2.1 x.2.2.1 x.2.2.2⟩
def Fj.d:Fd := { nt:=29,nv:=2,nm:=[0,1,2,3,5,6],res:=[4],ls:=[(3,Dl.p)] }
def Dl.s:LL Tryz.f144 Fj.d 3 Dl.p:=mL [] (λ _=>trivial) trivial
def Fj.s (k:Nat):CK 144 (Fj.e k):=mS Fj.d k [3] Tryz.func144 trivial ⟨Dl.s,trivial⟩
def Ec.e (k:Nat):Ent:=⟨3,[(.val false t10),(.val false .s),(.val false t1)],[(.one,t11)],λ x=>Ec k x.1 x.2.1 x.2.2⟩
def Aw.p:LF:=⟨⟨[(9,(.bp 9 0 0)),(10999,(.hd 2))],[(0,t10),(1,.s),(7,t11),(8,.b),(10,(.i .i64)),(10000,.s),(10001,t1)]⟩,[((.exit 0),⟨[(9,(.bp 9 0 0)),(10999,(.hd 2))],[(7,t11),(8,.b),(10000,.s),(10001,t1)]⟩)],λ k x=>Aw k x.1 x.2.1 x.2.2.1 x.2.2.2.1 x.2.2.2.2.1 x.2.2.2.2.2.1 x.2.2.2.2.2.2⟩
def Ec.d:Fd := { nt:=59,nv:=3,nm:=[0,1,2,3,4,5,7,8,9,10],res:=[6],ls:=[(5,Aw.p)] }
def Aw.s:LL Tryz.f145 Ec.d 5 Aw.p:=mL [] (λ _=>trivial) trivial
def Ec.s (k:Nat):CK 145 (Ec.e k):=mS Ec.d k [5] Tryz.func145 trivial ⟨Aw.s,trivial⟩
def Cy.e (k:Nat):Ent:=⟨3,[(.val true t24),(.val true t25),(.val false .s)],[(.agg,t25),(.one,.b)],λ x=>Cy k x.1 x.2.1 x.2.2⟩
def Cy.d:Fd := { nt:=24,nv:=3,nm:=[0,1,2,3,4,5],res:=[7],cs:=λ k=>[(28,An.e k),(77,A7.e k),(80,C5.e k)],mv:=[23] }
def Cy.s (k:Nat):CK 146 (Cy.e k):=mS Cy.d k [] Tryz.func146 ⟨An.s k,A7.s k,C5.s k,trivial⟩ trivial
def Bc.e (k:Nat):Ent:=⟨2,[(.val true t24),(.val false .s)],[(.agg,t25),(.one,.b)],λ x=>Bc k x.1 x.2⟩
def Bc.d:Fd := { nt:=35,nv:=2,nm:=[0,1,2,3,6,7,8],res:=[5],cs:=λ k=>[(77,A7.e k),(106,C8.e k),(144,Fj.e k),(145,Ec.e k),(146,Cy.e k)] }
def Bc.s (k:Nat):CK 120 (Bc.e k):=mS Bc.d k [] Tryz.func120 ⟨A7.s k,C8.s k,Fj.s k,Ec.s k,Cy.s k,trivial⟩ trivial
def Bp.e (k:Nat):Ent:=⟨3,[(.val true t24),(.val false .s),(.val false t1)],[(.agg,t25),(.one,.b)],λ x=>Bp k x.1 x.2.1 x.2.2⟩
def Bp.d:Fd := { nt:=23,nv:=3,nm:=[0,1,2,3,4,5,8],res:=[7],cs:=λ k=>[(77,A7.e k),(145,Ec.e k),(146,Cy.e k)] }
def Bp.s (k:Nat):CK 121 (Bp.e k):=mS Bp.d k [] Tryz.func121 ⟨A7.s k,Ec.s k,Cy.s k,trivial⟩ trivial
def Gv.e (k:Nat):Ent:=⟨4,[(.val true t24),(.val false .s),(.val true t20),(.val false .b)],[(.agg,t25),(.one,(.i .i64))],λ x=>Gv k x.1 x.2.1 x.2.2.1 x.2.2.2⟩
def Gv.d:Fd := { nt:=82,nv:=4,nm:=[0,1,2,3,4,5,6,7,10,11,12,13,14,15],res:=[9],cs:=λ k=>[(28,An.e k),(29,Bf.e k),(55,Gu.e k),(56,G0.e k),(77,A7.e k),(80,C5.e k),(120,Bc.e k),(121,Bp.e k),(122,C3.e k)],mv:=[58,81] }
def Gv.s (k:Nat):CK 83 (Gv.e k):=mS Gv.d k [] Tryz.func83 ⟨An.s k,Bf.s k,Gu.s k,G0.s k,A7.s k,C5.s k,Bc.s k,Bp.s k,C3.s k,trivial⟩ trivial
def Gk.e (k:Nat):Ent:=⟨2,[(.val false .s),(.val true t20)],[(.agg,t22)],λ x=>Gk x.1 x.2⟩
def Gk.d:Fd := { nt:=14,nv:=2,nm:=[0,1,2,3],res:=[] }
def Gk.s (k:Nat):CK 84 (Gk.e k):=mS Gk.d k [] Tryz.func84 trivial trivial
def E4.e (k:Nat):Ent:=⟨4,[(.ptr t35 t36),(.val false .s),(.val true t20),(.val false .b)],[(.one,(.i .i64))],λ x=>E4 k x.1 x.2.1 x.2.2.1 x.2.2.2⟩
def E4.d:Fd := { nt:=52,nv:=4,nm:=[0,1,2,3,4,5,6,7,9,10],res:=[8],cs:=λ k=>[(83,Gv.e k),(84,Gk.e k)] }
def E4.s (k:Nat):CK 30 (E4.e k):=mS E4.d k [] Tryz.func30 ⟨Gv.s k,Gk.s k,trivial⟩ trivial
def Eb.e (k:Nat):Ent:=⟨4,[(.val true t34),(.val false .s),(.val true t20),(.val false .b)],[(.agg,t36),(.one,(.i .i64))],λ x=>Eb k x.1 x.2.1 x.2.2.1 x.2.2.2⟩
def Eb.d:Fd := { nt:=34,nv:=4,nm:=[0,1,2,3,4,5,6,7,10,11],res:=[9],cs:=λ k=>[(26,Ei.e k),(27,Cw.e k),(28,An.e k),(29,Bf.e k),(30,E4.e k)],mv:=[27,32] }
def Eb.s (k:Nat):CK 7 (Eb.e k):=mS Eb.d k [] Tryz.func7 ⟨Ei.s k,Cw.s k,An.s k,Bf.s k,E4.s k,trivial⟩ trivial
def Ce.e (k:Nat):Ent:=⟨1,[(.val false t1)],[(.one,t2)],λ x=>Ce k x⟩
def Cd.p:LF:=⟨⟨[],[(0,t1),(3,t2),(4,(.i .i64))]⟩,[((.exit 0),⟨[],[(3,t2)]⟩)],λ k x=>Cd k x.1 x.2.1 x.2.2⟩
def Ce.d:Fd := { nt:=22,nv:=1,nm:=[0,1,3,4],res:=[2],ls:=[(3,Cd.p)],rf:=true }
def Cd.s:LL Tryz.f34 Ce.d 3 Cd.p:=mL [] (λ _=>trivial) trivial
def Ce.s (k:Nat):CK 34 (Ce.e k):=mS Ce.d k [3] Tryz.func34 trivial ⟨Cd.s,trivial⟩
def F4.e (k:Nat):Ent:=⟨1,[(.val true t7)],[(.agg,t8)],λ x=>F4 k x⟩
def F4.d:Fd := { nt:=12,nv:=1,nm:=[0,1,3],res:=[],cs:=λ k=>[(34,Ce.e k)],mv:=[11],rf:=true }
def F4.s (k:Nat):CK 123 (F4.e k):=mS F4.d k [] Tryz.func123 ⟨Ce.s k,trivial⟩ trivial
def B3.e (k:Nat):Ent:=⟨1,[(.val false t9)],[(.one,t12)],λ x=>B3 k x⟩
def Bt.p:LF:=⟨⟨[],[(0,t9),(3,t12),(4,(.i .i64))]⟩,[((.exit 0),⟨[],[(3,t12)]⟩)],λ k x=>Bt k x.1 x.2.1 x.2.2⟩
def B3.d:Fd := { nt:=23,nv:=1,nm:=[0,1,3,4],res:=[2],cs:=λ k=>[(123,F4.e k)],ls:=[(3,Bt.p)],hint:=[(7,t8)],rf:=true }
def B3.a (k:Nat):AC (B3.d.cs k):=⟨F4.s k,trivial⟩
def Bt.s:LL Tryz.f85 B3.d 3 Bt.p:=mL [] B3.a trivial
def B3.s (k:Nat):CK 85 (B3.e k):=mS B3.d k [3] Tryz.func85 (B3.a k) ⟨Bt.s,trivial⟩
def Fu.e (k:Nat):Ent:=⟨1,[(.val true t23)],[(.agg,t26)],λ x=>Fu k x⟩
def Fu.d:Fd := { nt:=13,nv:=1,nm:=[0,1,3],res:=[],cs:=λ k=>[(85,B3.e k)],mv:=[12],rf:=true }
def Fu.s (k:Nat):CK 31 (Fu.e k):=mS Fu.d k [] Tryz.func31 ⟨B3.s k,trivial⟩ trivial
def D7.e (k:Nat):Ent:=⟨1,[(.val true t13)],[(.agg,t13)],λ x=>D7 x⟩
def D7.d:Fd := { nt:=14,nv:=1,nm:=[0,1,3],res:=[],rf:=true }
def D7.s (k:Nat):CK 33 (D7.e k):=mS D7.d k [] Tryz.func33 trivial trivial
def Gl.e (k:Nat):Ent:=⟨1,[(.val true t22)],[(.agg,t22)],λ x=>Gl x⟩
def Gl.d:Fd := { nt:=18,nv:=1,nm:=[0,1,3],res:=[],cs:=λ k=>[(33,D7.e k)],rf:=true }
def Gl.s (k:Nat):CK 86 (Gl.e k):=mS Gl.d k [] Tryz.func86 ⟨D7.s k,trivial⟩ trivial
def Cf.e (k:Nat):Ent:=⟨1,[(.val false t29)],[(.one,t28)],λ x=>Cf k x⟩
def Df.p:LF:=⟨⟨[],[(0,t29),(3,t28),(4,(.i .i64))]⟩,[((.exit 0),⟨[],[(3,t28)]⟩)],λ k x=>Df k x.1 x.2.1 x.2.2⟩
def Cf.d:Fd := { nt:=23,nv:=1,nm:=[0,1,3,4],res:=[2],cs:=λ k=>[(86,Gl.e k)],ls:=[(3,Df.p)],rf:=true }
def Cf.a (k:Nat):AC (Cf.d.cs k):=⟨Gl.s k,trivial⟩
def Df.s:LL Tryz.f32 Cf.d 3 Df.p:=mL [] Cf.a trivial
def Cf.s (k:Nat):CK 32 (Cf.e k):=mS Cf.d k [3] Tryz.func32 (Cf.a k) ⟨Df.s,trivial⟩
def Ed.e (k:Nat):Ent:=⟨1,[(.val true t38)],[(.agg,t37)],λ x=>Ed k x⟩
def Ed.d:Fd := { nt:=20,nv:=1,nm:=[0,1,3],res:=[],cs:=λ k=>[(31,Fu.e k),(32,Cf.e k)],mv:=[19],rf:=true }
def Ed.s (k:Nat):CK 8 (Ed.e k):=mS Ed.d k [] Tryz.func8 ⟨Fu.s k,Cf.s k,trivial⟩ trivial
def E5.e (k:Nat):Ent:=⟨1,[(.val true t20)],[(.agg,t21)],λ x=>E5 k x⟩
def E5.d:Fd := { nt:=16,nv:=1,nm:=[0,1,3],res:=[],cs:=λ k=>[(33,D7.e k),(34,Ce.e k)],mv:=[15],rf:=true }
def E5.s (k:Nat):CK 9 (E5.e k):=mS E5.d k [] Tryz.func9 ⟨D7.s k,Ce.s k,trivial⟩ trivial
def Ao.e (k:Nat):Ent:=⟨1,[(.val false t1)],[(.one,t2)],λ x=>Ao x⟩
def Ao.d:Fd := { nt:=5,nv:=1,nm:=[0,1],res:=[2] }
def Ao.s (k:Nat):CK 127 (Ao.e k):=mS Ao.d k [] Tryz.func127 trivial trivial
def As.e (k:Nat):Ent:=⟨1,[(.val false t10)],[(.one,t12)],λ x=>As k x⟩
def Bi.p:LF:=⟨⟨[],[(3,t12),(6,t10),(7,(.i .i64)),(8,(.i .i64))]⟩,[((.exit 0),⟨[],[(3,t12)]⟩)],λ k x=>Bi k x.1 x.2.1 x.2.2.1 x.2.2.2⟩
def As.d:Fd := { nt:=23,nv:=1,nm:=[0,1,3,4,5],res:=[2],cs:=λ k=>[(127,Ao.e k)],ls:=[(3,Bi.p)],hint:=[(19,t8),(20,t8)] }
def As.a (k:Nat):AC (As.d.cs k):=⟨Ao.s k,trivial⟩
def Bi.s:LL Tryz.f124 As.d 3 Bi.p:=mL [] As.a trivial
def As.s (k:Nat):CK 124 (As.e k):=mS As.d k [3] Tryz.func124 (As.a k) ⟨Bi.s,trivial⟩
def A6.e (k:Nat):Ent:=⟨1,[(.val true t24)],[(.agg,t26)],λ x=>A6 k x⟩
def A6.d:Fd := { nt:=10,nv:=1,nm:=[0,1],res:=[],cs:=λ k=>[(124,As.e k)] }
def A6.s (k:Nat):CK 87 (A6.e k):=mS A6.d k [] Tryz.func87 ⟨As.s k,trivial⟩ trivial
def Dm.e (k:Nat):Ent:=⟨1,[(.val false t27)],[(.one,t28)],λ x=>Dm x⟩
def Dm.d:Fd := { nt:=5,nv:=1,nm:=[0,1],res:=[2] }
def Dm.s (k:Nat):CK 88 (Dm.e k):=mS Dm.d k [] Tryz.func88 trivial trivial
def E6.e (k:Nat):Ent:=⟨1,[(.val true t34)],[(.agg,t37)],λ x=>E6 k x⟩
def E6.d:Fd := { nt:=15,nv:=1,nm:=[0,1],res:=[],cs:=λ k=>[(87,A6.e k),(88,Dm.e k)] }
def E6.s (k:Nat):CK 35 (E6.e k):=mS E6.d k [] Tryz.func35 ⟨A6.s k,Dm.s k,trivial⟩ trivial
def Fg.e (k:Nat):Ent:=⟨3,[(.val false (.i .i64)),(.val false (.i .i64)),(.val false (.i .i64))],[(.one,.b)],λ x=>Fg x.1 x.2.1 x.2.2⟩
def Fg.d:Fd := { nt:=15,nv:=3,nm:=[0,1,2,3,4,5],res:=[6] }
def Fg.s (k:Nat):CK 90 (Fg.e k):=mS Fg.d k [] Tryz.func90 trivial trivial
def Aj.e (k:Nat):Ent:=⟨1,[(.val false .s)],[(.one,.b)],λ x=>Aj k x⟩
def Ad.p:LF:=⟨⟨[],[(0,.s),(3,(.i .i64))]⟩,[(.ret,⟨[],[(2,.b)]⟩),((.exit 0),⟨[],[(0,.s)]⟩)],λ k x=>Ad k x.1 x.2⟩
def Aj.d:Fd := { nt:=45,nv:=1,nm:=[0,1,3,4],res:=[2],cs:=λ k=>[(90,Fg.e k)],ls:=[(2,Ad.p)] }
def Aj.a (k:Nat):AC (Aj.d.cs k):=⟨Fg.s k,trivial⟩
def Ad.s:LL Tryz.f37 Aj.d 2 Ad.p:=mL [] Aj.a trivial
def Aj.s (k:Nat):CK 37 (Aj.e k):=mS Aj.d k [2] Tryz.func37 (Aj.a k) ⟨Ad.s,trivial⟩
def D8.e (k:Nat):Ent:=⟨1,[(.val true t13)],[(.one,.b)],λ x=>D8 x⟩
def D8.d:Fd := { nt:=16,nv:=1,nm:=[0,1],res:=[2],cs:=λ k=>[(90,Fg.e k)] }
def D8.s (k:Nat):CK 93 (D8.e k):=mS D8.d k [] Tryz.func93 ⟨Fg.s k,trivial⟩ trivial
def Eu.e (k:Nat):Ent:=⟨1,[(.val true t22)],[(.one,.b)],λ x=>Eu k x⟩
def Eu.d:Fd := { nt:=26,nv:=1,nm:=[0,1],res:=[2],cs:=λ k=>[(37,Aj.e k),(90,Fg.e k),(93,D8.e k)] }
def Eu.s (k:Nat):CK 89 (Eu.e k):=mS Eu.d k [] Tryz.func89 ⟨Aj.s k,Fg.s k,D8.s k,trivial⟩ trivial
def Br.e (k:Nat):Ent:=⟨1,[(.val false t10)],[(.one,.b)],λ x=>Br k x⟩
def Bu.p:LF:=⟨⟨[],[(0,t10),(5,t10),(6,(.i .i64)),(7,(.i .i64))]⟩,[(.ret,⟨[],[(2,.b)]⟩),((.exit 0),⟨[],[(0,t10)]⟩)],λ k x=>Bu k x.1 x.2.1 x.2.2.1 x.2.2.2⟩
def Br.d:Fd := { nt:=41,nv:=1,nm:=[0,1,3,4],res:=[2],cs:=λ k=>[(37,Aj.e k)],ls:=[(2,Bu.p)] }
def Br.a (k:Nat):AC (Br.d.cs k):=⟨Aj.s k,trivial⟩
def Bu.s:LL Tryz.f125 Br.d 2 Bu.p:=mL [] Br.a trivial
def Br.s (k:Nat):CK 125 (Br.e k):=mS Br.d k [2] Tryz.func125 (Br.a k) ⟨Bu.s,trivial⟩
def Bj.e (k:Nat):Ent:=⟨1,[(.val true t24)],[(.one,.b)],λ x=>Bj k x⟩
def Bj.d:Fd := { nt:=11,nv:=1,nm:=[0,1],res:=[2],cs:=λ k=>[(125,Br.e k)] }
def Bj.s (k:Nat):CK 91 (Bj.e k):=mS Bj.d k [] Tryz.func91 ⟨Br.s k,trivial⟩ trivial
def Cz.e (k:Nat):Ent:=⟨1,[(.val false t27)],[(.one,.b)],λ x=>Cz k x⟩
def Co.p:LF:=⟨⟨[],[(0,t27),(5,t27),(6,(.i .i64)),(7,(.i .i64))]⟩,[(.ret,⟨[],[(2,.b)]⟩),((.exit 0),⟨[],[(0,t27)]⟩)],λ k x=>Co k x.1 x.2.1 x.2.2.1 x.2.2.2⟩
def Cz.d:Fd := { nt:=34,nv:=1,nm:=[0,1,3,4],res:=[2],cs:=λ k=>[(89,Eu.e k)],ls:=[(2,Co.p)] }
def Cz.a (k:Nat):AC (Cz.d.cs k):=⟨Eu.s k,trivial⟩
def Co.s:LL Tryz.f92 Cz.d 2 Co.p:=mL [] Cz.a trivial
def Cz.s (k:Nat):CK 92 (Cz.e k):=mS Cz.d k [2] Tryz.func92 (Cz.a k) ⟨Co.s,trivial⟩
def D0.e (k:Nat):Ent:=⟨1,[(.val true t34)],[(.one,.b)],λ x=>D0 k x⟩
def Dg.p:LF:=⟨⟨[(1,(.bp 1 0 0)),(2999,(.hd 5))],[(6,t27),(7,(.i .i64)),(8,(.i .i64)),(2000,(.i .i64)),(2001,t10),(2002,t10),(2003,t27),(2004,t27)]⟩,[(.ret,⟨[],[(2,.b)]⟩),((.exit 0),⟨[(1,(.bp 1 0 0)),(2999,(.hd 5))],[(2000,(.i .i64)),(2001,t10),(2002,t10),(2003,t27),(2004,t27)]⟩)],λ k x=>Dg k x.1 x.2.1 x.2.2.1 x.2.2.2.1 x.2.2.2.2.1 x.2.2.2.2.2.1 x.2.2.2.2.2.2.1 x.2.2.2.2.2.2.2⟩
def D0.d:Fd := { nt:=35,nv:=1,nm:=[0,1,3,4],res:=[2],cs:=λ k=>[(89,Eu.e k),(90,Fg.e k),(91,Bj.e k),(92,Cz.e k)],ls:=[(2,Dg.p)] }
def D0.a (k:Nat):AC (D0.d.cs k):=⟨Eu.s k,Fg.s k,Bj.s k,Cz.s k,trivial⟩
def Dg.s:LL Tryz.f36 D0.d 2 Dg.p:=mL [] D0.a trivial
def D0.s (k:Nat):CK 36 (D0.e k):=mS D0.d k [2] Tryz.func36 (D0.a k) ⟨Dg.s,trivial⟩
def Cg.e (k:Nat):Ent:=⟨1,[(.val true t20)],[(.one,.b)],λ x=>Cg x⟩
def Cg.d:Fd := { nt:=23,nv:=1,nm:=[0,1],res:=[2],cs:=λ k=>[(93,D8.e k)] }
def Cg.s (k:Nat):CK 38 (Cg.e k):=mS Cg.d k [] Tryz.func38 ⟨D8.s k,trivial⟩ trivial
def Dh.e (k:Nat):Ent:=⟨2,[(.val true t13),(.val true t13)],[(.one,.b)],λ x=>Dh x.1 x.2⟩
def Dh.d:Fd := { nt:=32,nv:=2,nm:=[0,1,2,3],res:=[4] }
def Dh.s (k:Nat):CK 112 (Dh.e k):=mS Dh.d k [] Tryz.func112 trivial trivial
def G3.e (k:Nat):Ent:=⟨2,[(.val true t20),(.val true t20)],[(.one,.b)],λ x=>G3 x.1 x.2⟩
def G3.d:Fd := { nt:=10,nv:=2,nm:=[0,1,2,3],res:=[4],cs:=λ k=>[(112,Dh.e k)] }
def G3.s (k:Nat):CK 63 (G3.e k):=mS G3.d k [] Tryz.func63 ⟨Dh.s k,trivial⟩ trivial
def Gp.e (k:Nat):Ent:=⟨2,[(.val false t10),(.val false .s)],[(.one,(.i .i64))],λ x=>Gp k x.1 x.2⟩
def G4.p:LF:=⟨⟨[],[(1,.s),(7,t10),(8,(.i .i64)),(9,(.i .i64))]⟩,[(.ret,⟨[],[(4,(.i .i64))]⟩),((.exit 0),⟨[],[]⟩)],λ k x=>G4 k x.1 x.2.1 x.2.2.1 x.2.2.2⟩
def Gp.d:Fd := { nt:=20,nv:=2,nm:=[0,1,2,3,5,6],res:=[4],ls:=[(2,G4.p)] }
def G4.s:LL Tryz.f126 Gp.d 2 G4.p:=mL [] (λ _=>trivial) trivial
def Gp.s (k:Nat):CK 126 (Gp.e k):=mS Gp.d k [2] Tryz.func126 trivial ⟨G4.s,trivial⟩
def E7.e (k:Nat):Ent:=⟨2,[(.val true t24),(.val false .s)],[(.one,t2),(.one,.b)],λ x=>E7 k x.1 x.2⟩
def E7.d:Fd := { nt:=20,nv:=2,nm:=[0,1,2,3,6],res:=[4,5],cs:=λ k=>[(126,Gp.e k),(127,Ao.e k)] }
def E7.s (k:Nat):CK 94 (E7.e k):=mS E7.d k [] Tryz.func94 ⟨Gp.s k,Ao.s k,trivial⟩ trivial
def C6.e (k:Nat):Ent:=⟨2,[(.val false t2),(.val false (.i .i64))],[(.one,t2)],λ x=>C6 k x.1 x.2⟩
def Di.p:LF:=⟨⟨[],[(0,t2),(1,(.i .i64))]⟩,[((.exit 0),⟨[],[(0,t2),(1,(.i .i64))]⟩)],λ k x=>Di k x.1 x.2⟩
def C6.d:Fd := { nt:=24,nv:=2,nm:=[0,1,2,3],res:=[4],ls:=[(2,Di.p)] }
def Di.s:LL Tryz.f154 C6.d 2 Di.p:=mL [] (λ _=>trivial) trivial
def C6.s (k:Nat):CK 154 (C6.e k):=mS C6.d k [2] Tryz.func154 trivial ⟨Di.s,trivial⟩
def Ep.e (k:Nat):Ent:=⟨2,[(.val false t2),(.val false .s)],[(.one,t2)],λ x=>Ep k x.1 x.2⟩
def Ep.d:Fd := { nt:=11,nv:=2,nm:=[0,1,2,3],res:=[4],cs:=λ k=>[(154,C6.e k)] }
def Ep.s (k:Nat):CK 132 (Ep.e k):=mS Ep.d k [] Tryz.func132 ⟨C6.s k,trivial⟩ trivial
def Hv.e (k:Nat):Ent:=⟨1,[(.val false .b)],[(.one,(.i .i64))],λ x=>Hv x⟩
def Hv.d:Fd := { nt:=4,nv:=1,nm:=[0,1],res:=[2] }
def Hv.s (k:Nat):CK 155 (Hv.e k):=mS Hv.d k [] Tryz.func155 trivial trivial
def E8.e (k:Nat):Ent:=⟨3,[(.val false t2),(.val true t13),(.val false .b)],[(.one,t2)],λ x=>E8 k x.1 x.2.1 x.2.2⟩
def E8.d:Fd := { nt:=20,nv:=3,nm:=[0,1,2,3,4,5],res:=[6],cs:=λ k=>[(154,C6.e k),(155,Hv.e k)] }
def E8.s (k:Nat):CK 133 (E8.e k):=mS E8.d k [] Tryz.func133 ⟨C6.s k,Hv.s k,trivial⟩ trivial
def H2.e (k:Nat):Ent:=⟨1,[(.val false t1)],[(.one,(.i .i64))],λ x=>H2 k x⟩
def Ez.p:LF:=⟨⟨[],[(3,(.i .u32)),(7,t1),(8,(.i .i64)),(9,(.i .i64)),(17,(.i .i64))]⟩,[((.exit 2),⟨[],[(3,(.i .u32)),(7,t1),(8,(.i .i64)),(9,(.i .i64))]⟩)],λ k x=>Ez k x.1 x.2.1 x.2.2.1 x.2.2.2.1 x.2.2.2.2⟩
def F8.p:LF:=⟨⟨[],[(3,(.i .u32)),(7,t1),(8,(.i .i64)),(9,(.i .i64))]⟩,[((.exit 0),⟨[],[(3,(.i .u32))]⟩)],λ k x=>F8 k x.1 x.2.1 x.2.2.1 x.2.2.2⟩
def H2.d:Fd := { nt:=32,nv:=1,nm:=[0,1,3,4,5,6],res:=[2],ls:=[(7,Ez.p),(3,F8.p)] }
def Ez.s:LL Tryz.f134 H2.d 7 Ez.p:=mL [] (λ _=>trivial) trivial
def F8.s:LL Tryz.f134 H2.d 3 F8.p:=mL [7] (λ _=>trivial) ⟨Ez.s,trivial⟩
def H2.s (k:Nat):CK 134 (H2.e k):=mS H2.d k [3] Tryz.func134 trivial ⟨F8.s,trivial⟩
def C4.e (k:Nat):Ent:=⟨1,[(.val true t20)],[(.one,t2)],λ x=>C4 k x⟩
def C4.d:Fd := { nt:=33,nv:=1,nm:=[0,1,3,4],res:=[2],cs:=λ k=>[(38,Cg.e k),(132,Ep.e k),(133,E8.e k),(134,H2.e k)] }
def C4.s (k:Nat):CK 97 (C4.e k):=mS C4.d k [] Tryz.func97 ⟨Cg.s k,Ep.s k,E8.s k,H2.s k,trivial⟩ trivial
def Du.e (k:Nat):Ent:=⟨2,[(.val false t1),(.val false (.i .i64))],[(.one,(.i .i64)),(.one,(.i .i64)),(.one,.b)],λ x=>Du k x.1 x.2⟩
def Cp.p:LF:=⟨⟨[],[(0,t1),(1,(.i .i64)),(7,(.i .i64)),(8,(.i .i64))]⟩,[(.ret,⟨[],[(4,(.i .i64)),(5,(.i .i64)),(6,.b)]⟩),((.exit 0),⟨[],[]⟩)],λ k x=>Cp k x.1 x.2.1 x.2.2.1 x.2.2.2⟩
def Du.d:Fd := { nt:=57,nv:=2,nm:=[0,1,2,3,7,8,9],res:=[4,5,6],ls:=[(3,Cp.p)] }
def Cp.s:LL Tryz.f159 Du.d 3 Cp.p:=mL [] (λ _=>trivial) trivial
def Du.s (k:Nat):CK 159 (Du.e k):=mS Du.d k [3] Tryz.func159 trivial ⟨Cp.s,trivial⟩
def B4.e (k:Nat):Ent:=⟨1,[(.ptr t16 t16)],[(.one,(.i .i64))],λ x=>B4 k x⟩
def B4.d:Fd := { nt:=35,nv:=1,nm:=[0,1,3,4,5],res:=[2],cs:=λ k=>[(159,Du.e k)] }
def B4.s (k:Nat):CK 152 (B4.e k):=mS B4.d k [] Tryz.func152 ⟨Du.s k,trivial⟩ trivial
def Bl.e (k:Nat):Ent:=⟨1,[(.ptr t16 t16)],[(.agg,t13),(.one,.b)],λ x=>Bl k x⟩
def Bl.d:Fd := { nt:=31,nv:=1,nm:=[0,1,4,5],res:=[3],cs:=λ k=>[(152,B4.e k)] }
def Bl.s (k:Nat):CK 128 (Bl.e k):=mS Bl.d k [] Tryz.func128 ⟨B4.s k,trivial⟩ trivial
def Er.e (k:Nat):Ent:=⟨2,[(.val false t1),(.val false (.i .i64))],[(.one,.s),(.one,(.i .i64)),(.one,.b)],λ x=>Er k x.1 x.2⟩
def Er.d:Fd := { nt:=37,nv:=2,nm:=[0,1,2,3,7,8,9],res:=[4,5,6],cs:=λ k=>[(159,Du.e k)] }
def Er.s (k:Nat):CK 153 (Er.e k):=mS Er.d k [] Tryz.func153 ⟨Du.s k,trivial⟩ trivial
def B0.e (k:Nat):Ent:=⟨1,[(.ptr t16 t16)],[(.one,.s)],λ x=>B0 k x⟩
def B0.d:Fd := { nt:=35,nv:=1,nm:=[0,1,3,4,5],res:=[2],cs:=λ k=>[(153,Er.e k)] }
def B0.s (k:Nat):CK 129 (B0.e k):=mS B0.d k [] Tryz.func129 ⟨Er.s k,trivial⟩ trivial
def Es.e (k:Nat):Ent:=⟨1,[(.val false t1)],[(.agg,t20),(.one,.b)],λ x=>Es k x⟩
def Es.d:Fd := { nt:=41,nv:=1,nm:=[0,1,4,5,6],res:=[3],cs:=λ k=>[(97,C4.e k),(128,Bl.e k),(129,B0.e k)] }
def Es.s (k:Nat):CK 95 (Es.e k):=mS Es.d k [] Tryz.func95 ⟨C4.s k,Bl.s k,B0.s k,trivial⟩ trivial
def Gc.e (k:Nat):Ent:=⟨2,[(.val false t12),(.val true t8)],[(.one,t12)],λ x=>Gc k x.1 x.2⟩
def F9.p:LF:=⟨⟨[(3,(.bp 3 0 0)),(4999,(.hd 2))],[(0,t12),(5,(.i .i64)),(4000,.s),(4001,t2)]⟩,[((.exit 0),⟨[(3,(.bp 3 0 0)),(4999,(.hd 2))],[(0,t12),(5,(.i .i64)),(4000,.s),(4001,t2)]⟩)],λ k x=>F9 k x.1 x.2.1 x.2.2.1 x.2.2.2⟩
def Gc.d:Fd := { nt:=33,nv:=2,nm:=[0,1,2,3,5],res:=[4],ls:=[(2,F9.p)],hint:=[(25,t8),(27,t8),(28,t8),(32,t8)],gh:=[(4,[.sp 0 5 2900])] }
def F9.s:LL Tryz.f130 Gc.d 2 F9.p:=mL [] (λ _=>trivial) trivial
def Gc.s (k:Nat):CK 130 (Gc.e k):=mS Gc.d k [2] Tryz.func130 trivial ⟨F9.s,trivial⟩
def Fk.e (k:Nat):Ent:=⟨2,[(.val false t12),(.val false .s)],[(.one,t12)],λ x=>Fk k x.1 x.2⟩
def Fk.d:Fd := { nt:=21,nv:=2,nm:=[0,1,2,3,5],res:=[4],cs:=λ k=>[(126,Gp.e k)],hint:=[(15,t8),(20,t8)],gh:=[(4,[.sp 0 5 2900])] }
def Fk.s (k:Nat):CK 131 (Fk.e k):=mS Fk.d k [] Tryz.func131 ⟨Gp.s k,trivial⟩ trivial
def Bq.e (k:Nat):Ent:=⟨3,[(.val true t24),(.val false .s),(.val false t1)],[(.agg,t26),(.one,.b)],λ x=>Bq k x.1 x.2.1 x.2.2⟩
def Bq.d:Fd := { nt:=42,nv:=3,nm:=[0,1,2,3,4,5,8],res:=[7],cs:=λ k=>[(37,Aj.e k),(87,A6.e k),(91,Bj.e k),(127,Ao.e k),(130,Gc.e k),(131,Fk.e k)],mv:=[24,41] }
def Bq.s (k:Nat):CK 96 (Bq.e k):=mS Bq.d k [] Tryz.func96 ⟨Aj.s k,A6.s k,Bj.s k,Ao.s k,Gc.s k,Fk.s k,trivial⟩ trivial
def Bd.e (k:Nat):Ent:=⟨2,[(.val true t24),(.val false .s)],[(.agg,t26),(.one,.b)],λ x=>Bd k x.1 x.2⟩
def Bd.d:Fd := { nt:=50,nv:=2,nm:=[0,1,2,3,6,7],res:=[5],cs:=λ k=>[(37,Aj.e k),(87,A6.e k),(91,Bj.e k),(126,Gp.e k),(127,Ao.e k),(130,Gc.e k),(131,Fk.e k)],mv:=[18,49] }
def Bd.s (k:Nat):CK 98 (Bd.e k):=mS Bd.d k [] Tryz.func98 ⟨Aj.s k,A6.s k,Bj.s k,Gp.s k,Ao.s k,Gc.s k,Fk.s k,trivial⟩ trivial
def Gw.e (k:Nat):Ent:=⟨4,[(.val true t24),(.val false .s),(.val true t20),(.val false .b)],[(.agg,t26),(.one,(.i .i64))],λ x=>Gw k x.1 x.2.1 x.2.2.1 x.2.2.2⟩
def Gw.d:Fd := { nt:=82,nv:=4,nm:=[0,1,2,3,4,5,6,7,10,11,12,13,14,15,16,17,18,19],res:=[9],cs:=λ k=>[(37,Aj.e k),(38,Cg.e k),(63,G3.e k),(87,A6.e k),(91,Bj.e k),(94,E7.e k),(95,Es.e k),(96,Bq.e k),(97,C4.e k),(98,Bd.e k)],mv:=[67,79,80] }
def Gw.s (k:Nat):CK 39 (Gw.e k):=mS Gw.d k [] Tryz.func39 ⟨Aj.s k,Cg.s k,G3.s k,A6.s k,Bj.s k,E7.s k,Es.s k,Bq.s k,C4.s k,Bd.s k,trivial⟩ trivial
def Gn.e (k:Nat):Ent:=⟨2,[(.val false .s),(.val true t20)],[(.agg,t22)],λ x=>Gn x.1 x.2⟩
def Gn.d:Fd := { nt:=14,nv:=2,nm:=[0,1,2,3],res:=[],rf:=true }
def Gn.s (k:Nat):CK 40 (Gn.e k):=mS Gn.d k [] Tryz.func40 trivial trivial
def Dx.e (k:Nat):Ent:=⟨4,[(.val true t34),(.val false .s),(.val true t20),(.val false .b)],[(.agg,t37),(.one,(.i .i64))],λ x=>Dx k x.1 x.2.1 x.2.2.1 x.2.2.2⟩
def Dx.d:Fd := { nt:=62,nv:=4,nm:=[0,1,2,3,4,5,6,7,10,11,12],res:=[9],cs:=λ k=>[(35,E6.e k),(36,D0.e k),(37,Aj.e k),(38,Cg.e k),(39,Gw.e k),(40,Gn.e k)],mv:=[29,35,45,60],rf:=true }
def Dx.s (k:Nat):CK 10 (Dx.e k):=mS Dx.d k [] Tryz.func10 ⟨E6.s k,D0.s k,Aj.s k,Cg.s k,Gw.s k,Gn.s k,trivial⟩ trivial
def Ci.e (k:Nat):Ent:=⟨2,[(.val false t1),(.val false t1)],[(.one,.b)],λ x=>Ci k x.1 x.2⟩
def Ch.p:LF:=⟨⟨[],[(0,t1),(1,t1),(5,(.i .i64))]⟩,[(.ret,⟨[],[(4,.b)]⟩),((.exit 0),⟨[],[]⟩)],λ k x=>Ch k x.1 x.2.1 x.2.2⟩
def Ci.d:Fd := { nt:=26,nv:=2,nm:=[0,1,2,3,5],res:=[4],ls:=[(4,Ch.p)],rf:=true }
def Ch.s:LL Tryz.f44 Ci.d 4 Ch.p:=mL [] (λ _=>trivial) trivial
def Ci.s (k:Nat):CK 44 (Ci.e k):=mS Ci.d k [4] Tryz.func44 trivial ⟨Ch.s,trivial⟩
def F5.e (k:Nat):Ent:=⟨2,[(.val true t7),(.val true t7)],[(.one,.b)],λ x=>F5 k x.1 x.2⟩
def F5.d:Fd := { nt:=16,nv:=2,nm:=[0,1,2,3],res:=[4],cs:=λ k=>[(44,Ci.e k)],rf:=true }
def F5.s (k:Nat):CK 135 (F5.e k):=mS F5.d k [] Tryz.func135 ⟨Ci.s k,trivial⟩ trivial
def B5.e (k:Nat):Ent:=⟨2,[(.val false t10),(.val false t10)],[(.one,.b)],λ x=>B5 k x.1 x.2⟩
def Bv.p:LF:=⟨⟨[],[(0,t10),(1,t10),(5,(.i .i64))]⟩,[(.ret,⟨[],[(4,.b)]⟩),((.exit 0),⟨[],[]⟩)],λ k x=>Bv k x.1 x.2.1 x.2.2⟩
def B5.d:Fd := { nt:=27,nv:=2,nm:=[0,1,2,3,5],res:=[4],cs:=λ k=>[(135,F5.e k)],ls:=[(4,Bv.p)],rf:=true }
def B5.a (k:Nat):AC (B5.d.cs k):=⟨F5.s k,trivial⟩
def Bv.s:LL Tryz.f99 B5.d 4 Bv.p:=mL [] B5.a trivial
def B5.s (k:Nat):CK 99 (B5.e k):=mS B5.d k [4] Tryz.func99 (B5.a k) ⟨Bv.s,trivial⟩
def Fv.e (k:Nat):Ent:=⟨2,[(.val true t24),(.val true t24)],[(.one,.b)],λ x=>Fv k x.1 x.2⟩
def Fv.d:Fd := { nt:=17,nv:=2,nm:=[0,1,2,3],res:=[4],cs:=λ k=>[(99,B5.e k)],rf:=true }
def Fv.s (k:Nat):CK 41 (Fv.e k):=mS Fv.d k [] Tryz.func41 ⟨B5.s k,trivial⟩ trivial
def D9.e (k:Nat):Ent:=⟨2,[(.val true t13),(.val true t13)],[(.one,.b)],λ x=>D9 x.1 x.2⟩
def D9.d:Fd := { nt:=20,nv:=2,nm:=[0,1,2,3],res:=[4],rf:=true }
def D9.s (k:Nat):CK 43 (D9.e k):=mS D9.d k [] Tryz.func43 trivial trivial
def G5.e (k:Nat):Ent:=⟨2,[(.val true t22),(.val true t22)],[(.one,.b)],λ x=>G5 x.1 x.2⟩
def G5.d:Fd := { nt:=26,nv:=2,nm:=[0,1,2,3],res:=[4],cs:=λ k=>[(43,D9.e k)],rf:=true }
def G5.s (k:Nat):CK 100 (G5.e k):=mS G5.d k [] Tryz.func100 ⟨D9.s k,trivial⟩ trivial
def Cj.e (k:Nat):Ent:=⟨2,[(.val false t27),(.val false t27)],[(.one,.b)],λ x=>Cj k x.1 x.2⟩
def Dj.p:LF:=⟨⟨[],[(0,t27),(1,t27),(5,(.i .i64))]⟩,[(.ret,⟨[],[(4,.b)]⟩),((.exit 0),⟨[],[]⟩)],λ k x=>Dj k x.1 x.2.1 x.2.2⟩
def Cj.d:Fd := { nt:=27,nv:=2,nm:=[0,1,2,3,5],res:=[4],cs:=λ k=>[(100,G5.e k)],ls:=[(4,Dj.p)],rf:=true }
def Cj.a (k:Nat):AC (Cj.d.cs k):=⟨G5.s k,trivial⟩
def Dj.s:LL Tryz.f42 Cj.d 4 Dj.p:=mL [] Cj.a trivial
def Cj.s (k:Nat):CK 42 (Cj.e k):=mS Cj.d k [4] Tryz.func42 (Cj.a k) ⟨Dj.s,trivial⟩
def Ee.e (k:Nat):Ent:=⟨2,[(.val true t34),(.val true t34)],[(.one,.b)],λ x=>Ee k x.1 x.2⟩
def Ee.d:Fd := { nt:=28,nv:=2,nm:=[0,1,2,3],res:=[4],cs:=λ k=>[(41,Fv.e k),(42,Cj.e k)],rf:=true }
def Ee.s (k:Nat):CK 11 (Ee.e k):=mS Ee.d k [] Tryz.func11 ⟨Fv.s k,Cj.s k,trivial⟩ trivial
def Fa.e (k:Nat):Ent:=⟨2,[(.val true t20),(.val true t20)],[(.one,.b)],λ x=>Fa k x.1 x.2⟩
def Fa.d:Fd := { nt:=22,nv:=2,nm:=[0,1,2,3],res:=[4],cs:=λ k=>[(43,D9.e k),(44,Ci.e k)],rf:=true }
def Fa.s (k:Nat):CK 12 (Fa.e k):=mS Fa.d k [] Tryz.func12 ⟨D9.s k,Ci.s k,trivial⟩ trivial
def Ba.e (k:Nat):Ent:=⟨2,[(.io false t2),(.val false (.i .i64))],[(.one,(.i .i64))],λ x=>Ba k x.1 x.2⟩
def Bm.p:LF:=⟨⟨[(0,(.io 3001000))],[(1,(.i .i64)),(5,(.i .i64)),(3001000,t2)]⟩,[((.exit 0),⟨[],[(1,(.i .i64)),(3001000,t2)]⟩)],λ k x=>Bm k x.1 x.2.1 x.2.2⟩
def Ba.d:Fd := { nt:=20,nv:=2,nm:=[0,1,2,3,5],res:=[4],ls:=[(2,Bm.p)],rf:=true }
def Bm.s:LL Tryz.f47 Ba.d 2 Bm.p:=mL [] (λ _=>trivial) trivial
def Ba.s (k:Nat):CK 47 (Ba.e k):=mS Ba.d k [2] Tryz.func47 trivial ⟨Bm.s,trivial⟩
def Ap.e (k:Nat):Ent:=⟨1,[(.val false (.i .i64))],[(.one,.s)],λ x=>Ap k x⟩
def Bw.p:LF:=⟨⟨[],[(0,(.i .i64)),(3,.s)]⟩,[((.exit 0),⟨[],[(3,.s)]⟩)],λ k x=>Bw k x.1 x.2⟩
def Ap.d:Fd := { nt:=20,nv:=1,nm:=[0,1,3],res:=[2],ls:=[(4,Bw.p)],rf:=true }
def Bw.s:LL Tryz.f102 Ap.d 4 Bw.p:=mL [] (λ _=>trivial) trivial
def Ap.s (k:Nat):CK 102 (Ap.e k):=mS Ap.d k [4] Tryz.func102 trivial ⟨Bw.s,trivial⟩
def Aq.e (k:Nat):Ent:=⟨2,[(.io false t12),(.val false (.i .i64))],[(.one,(.i .i64))],λ x=>Aq k x.1 x.2⟩
def B6.p:LF:=⟨⟨[(0,(.io 3001000))],[(1,(.i .i64)),(5,(.i .i64)),(3001000,t12)]⟩,[((.exit 0),⟨[],[(1,(.i .i64)),(3001000,t12)]⟩)],λ k x=>B6 k x.1 x.2.1 x.2.2⟩
def Aq.d:Fd := { nt:=28,nv:=2,nm:=[0,1,2,3,5],res:=[4],cs:=λ k=>[(47,Ba.e k),(102,Ap.e k)],ls:=[(2,B6.p)],gh:=[(1000003,[.cl 3001000])],opn:=[22],rf:=true }
def Aq.a (k:Nat):AC (Aq.d.cs k):=⟨Ba.s k,Ap.s k,trivial⟩
def B6.s:LL Tryz.f101 Aq.d 2 B6.p:=mL [] Aq.a trivial
def Aq.s (k:Nat):CK 101 (Aq.e k):=mS Aq.d k [2] Tryz.func101 (Aq.a k) ⟨B6.s,trivial⟩
def Dn.e (k:Nat):Ent:=⟨2,[(.io true t26),(.val false (.i .i64))],[(.one,(.i .i64))],λ x=>Dn k x.1 x.2⟩
def Dn.d:Fd := { nt:=14,nv:=2,nm:=[0,1,2,3],res:=[4],cs:=λ k=>[(101,Aq.e k)],mv:=[0],rf:=true }
def Dn.s (k:Nat):CK 45 (Dn.e k):=mS Dn.d k [] Tryz.func45 ⟨Aq.s k,trivial⟩ trivial
def Ax.e (k:Nat):Ent:=⟨2,[(.io false t28),(.val false (.i .i64))],[(.one,(.i .i64))],λ x=>Ax k x.1 x.2⟩
def Bx.p:LF:=⟨⟨[(0,(.io 3001000))],[(1,(.i .i64)),(5,(.i .i64)),(3001000,t28)]⟩,[((.exit 0),⟨[],[(1,(.i .i64)),(3001000,t28)]⟩)],λ k x=>Bx k x.1 x.2.1 x.2.2⟩
def Ax.d:Fd := { nt:=61,nv:=2,nm:=[0,1,2,3,5],res:=[4],cs:=λ k=>[(102,Ap.e k)],ls:=[(2,Bx.p)],rf:=true }
def Ax.a (k:Nat):AC (Ax.d.cs k):=⟨Ap.s k,trivial⟩
def Bx.s:LL Tryz.f46 Ax.d 2 Bx.p:=mL [] Ax.a trivial
def Ax.s (k:Nat):CK 46 (Ax.e k):=mS Ax.d k [2] Tryz.func46 (Ax.a k) ⟨Bx.s,trivial⟩
def Dp.e (k:Nat):Ent:=⟨2,[(.io true t37),(.val false (.i .i64))],[(.one,(.i .i64))],λ x=>Dp k x.1 x.2⟩
def Dp.d:Fd := { nt:=18,nv:=2,nm:=[0,1,2,3],res:=[4],cs:=λ k=>[(45,Dn.e k),(46,Ax.e k)],mv:=[0],rf:=true }
def Dp.s (k:Nat):CK 13 (Dp.e k):=mS Dp.d k [] Tryz.func13 ⟨Dn.s k,Ax.s k,trivial⟩ trivial
def Dq.e (k:Nat):Ent:=⟨2,[(.io true t21),(.val false (.i .i64))],[(.one,(.i .i64))],λ x=>Dq k x.1 x.2⟩
def Dq.d:Fd := { nt:=10,nv:=2,nm:=[0,1,2,3],res:=[4],cs:=λ k=>[(47,Ba.e k)],mv:=[0],rf:=true }
def Dq.s (k:Nat):CK 14 (Dq.e k):=mS Dq.d k [] Tryz.func14 ⟨Ba.s k,trivial⟩ trivial
def Cq.e (k:Nat):Ent:=⟨2,[(.val false t1),(.val false (.i .i64))],[(.one,(.i .i64))],λ x=>Cq k x.1 x.2⟩
def Bn.p:LF:=⟨⟨[],[(0,t1),(1,(.i .i64)),(5,(.i .i64))]⟩,[(.ret,⟨[],[(4,(.i .i64))]⟩),((.exit 0),⟨[],[(1,(.i .i64))]⟩)],λ k x=>Bn k x.1 x.2.1 x.2.2⟩
def Cq.d:Fd := { nt:=22,nv:=2,nm:=[0,1,2,3,5],res:=[4],ls:=[(2,Bn.p)],rf:=true }
def Bn.s:LL Tryz.f74 Cq.d 2 Bn.p:=mL [] (λ _=>trivial) trivial
def Cq.s (k:Nat):CK 74 (Cq.e k):=mS Cq.d k [2] Tryz.func74 trivial ⟨Bn.s,trivial⟩
def Ar.e (k:Nat):Ent:=⟨2,[(.val false t10),(.val false (.i .i64))],[(.one,(.i .i64))],λ x=>Ar k x.1 x.2⟩
def B7.p:LF:=⟨⟨[],[(0,t10),(1,(.i .i64)),(5,(.i .i64))]⟩,[(.ret,⟨[],[(4,(.i .i64))]⟩),((.exit 0),⟨[],[(1,(.i .i64))]⟩)],λ k x=>B7 k x.1 x.2.1 x.2.2⟩
def Ar.d:Fd := { nt:=32,nv:=2,nm:=[0,1,2,3,5],res:=[4],cs:=λ k=>[(74,Cq.e k),(102,Ap.e k)],ls:=[(2,B7.p)],rf:=true }
def Ar.a (k:Nat):AC (Ar.d.cs k):=⟨Cq.s k,Ap.s k,trivial⟩
def B7.s:LL Tryz.f103 Ar.d 2 B7.p:=mL [] Ar.a trivial
def Ar.s (k:Nat):CK 103 (Ar.e k):=mS Ar.d k [2] Tryz.func103 (Ar.a k) ⟨B7.s,trivial⟩
def Dr.e (k:Nat):Ent:=⟨2,[(.val true t24),(.val false (.i .i64))],[(.one,(.i .i64))],λ x=>Dr k x.1 x.2⟩
def Dr.d:Fd := { nt:=18,nv:=2,nm:=[0,1,2,3],res:=[4],cs:=λ k=>[(103,Ar.e k)],rf:=true }
def Dr.s (k:Nat):CK 48 (Dr.e k):=mS Dr.d k [] Tryz.func48 ⟨Ar.s k,trivial⟩ trivial
def Ay.e (k:Nat):Ent:=⟨2,[(.val false t27),(.val false (.i .i64))],[(.one,(.i .i64))],λ x=>Ay k x.1 x.2⟩
def Bz.p:LF:=⟨⟨[],[(0,t27),(1,(.i .i64)),(5,(.i .i64))]⟩,[(.ret,⟨[],[(4,(.i .i64))]⟩),((.exit 0),⟨[],[(1,(.i .i64))]⟩)],λ k x=>Bz k x.1 x.2.1 x.2.2⟩
def Ay.d:Fd := { nt:=73,nv:=2,nm:=[0,1,2,3,5],res:=[4],cs:=λ k=>[(102,Ap.e k)],ls:=[(2,Bz.p)],rf:=true }
def Ay.a (k:Nat):AC (Ay.d.cs k):=⟨Ap.s k,trivial⟩
def Bz.s:LL Tryz.f49 Ay.d 2 Bz.p:=mL [] Ay.a trivial
def Ay.s (k:Nat):CK 49 (Ay.e k):=mS Ay.d k [2] Tryz.func49 (Ay.a k) ⟨Bz.s,trivial⟩
def Ds.e (k:Nat):Ent:=⟨2,[(.val true t34),(.val false (.i .i64))],[(.one,(.i .i64))],λ x=>Ds k x.1 x.2⟩
def Ds.d:Fd := { nt:=24,nv:=2,nm:=[0,1,2,3],res:=[4],cs:=λ k=>[(48,Dr.e k),(49,Ay.e k)],rf:=true }
def Ds.s (k:Nat):CK 15 (Ds.e k):=mS Ds.d k [] Tryz.func15 ⟨Dr.s k,Ay.s k,trivial⟩ trivial
def Bb.e (k:Nat):Ent:=⟨4,[(.val true t38),(.val false .s),(.val true t20),(.val false .b)],[(.one,.b)],λ x=>Bb k x.1 x.2.1 x.2.2.1 x.2.2.2⟩
def Bb.d:Fd := { nt:=132,nv:=4,nm:=[0,1,2,3,4,5,6,7,9,10,11,12,13,14,15,16,17,18,19,20],res:=[8],cs:=λ k=>[(5,Fq.e k),(6,Fs.e k),(7,Eb.e k),(8,Ed.e k),(9,E5.e k),(10,Dx.e k),(11,Ee.e k),(12,Fa.e k),(13,Dp.e k),(14,Dq.e k),(15,Ds.e k)],rf:=true }
def Bb.s (k:Nat):CK 3 (Bb.e k):=mS Bb.d k [] Tryz.func3 ⟨Fq.s k,Fs.s k,Eb.s k,Ed.s k,E5.s k,Dx.s k,Ee.s k,Fa.s k,Dp.s k,Dq.s k,Ds.s k,trivial⟩ trivial
end

def Tot {α:Type} (f:Nat→Option α) (Q:α→Prop):Prop:=∃ r K,(∀ k,K≤k→f k=some r)∧Q r
section
variable {α β:Type} {f g:Nat→Option α} {Q Q':α→Prop}
def Tot.mono (h:Tot f Q) (hq:∀ a,Q a→Q' a):Tot f Q':=by
 obtain⟨r,K,h1,h2⟩:=h;exact⟨r,K,h1,hq r h2⟩
def R5a {a:α} (h:Q a):Tot (λ _=>some a) Q:=⟨a,0,λ _ _=>rfl,h⟩
def Rga {o:Option α} {a:α} (e:o=some a) (h:Q a):Tot (λ _=>o) Q:=⟨a,0,λ _ _=>e,h⟩
def R6a {h:Nat→α→Option β} {R:β→Prop} (hf:Tot f Q) (hh:∀ a,Q a→Tot (λ k=>h k a) R):Tot (λ k=>(f k).bind (h k)) R:=by
 obtain⟨a,K,h1,h2⟩:=hf;obtain⟨b,L,h3,h4⟩:=hh a h2;exact⟨b,max K L,λ k hk=>by show (f k).bind (h k)=_;rw[h1 k (by omega)];exact h3 k (by omega),h4⟩
def R8a {c:Bool} (hc:c=true) (h:Tot f Q):Tot (λ k=>cond c (f k) (g k)) Q:=by subst hc;exact h
def R7a {c:Bool} (hc:c=false) (h:Tot g Q):Tot (λ k=>cond c (f k) (g k)) Q:=by subst hc;exact h
def Rba {c:Bool} (h1:c=true→Tot f Q) (h2:c=false→Tot g Q):Tot (λ k=>cond c (f k) (g k)) Q:=by
 cases hc:c with
 |true=>exact h1 hc
 |false=>exact h2 hc
def R9a {p:Prop} [Decidable p] (hp:p) (h:Tot f Q):Tot (λ k=>cond (decide p) (f k) (g k)) Q:=R8a (decide_eq_true hp) h
def Raa {p:Prop} [Decidable p] (hp:¬ p) (h:Tot g Q):Tot (λ k=>cond (decide p) (f k) (g k)) Q:=R7a (decide_eq_false hp) h
def Rca {p:Prop} [Decidable p] (h1:p→Tot f Q) (h2:¬ p→Tot g Q):Tot (λ k=>cond (decide p) (f k) (g k)) Q:=
 Rba (λ h=>h1 (of_decide_eq_true h)) (λ h=>h2 (of_decide_eq_false h))
def Rda {m n:Nat} (hp:m≤n) (h:Tot f Q):Tot (λ k=>cond (Nat.ble m n) (f k) (g k)) Q:=R8a (Yn hp) h
def Rfa {v:α} {h:Nat→α→Option β} {R:β→Prop} (hf:Tot f (λ r=>r=v)) (hh:Tot (λ k=>h k v) R):Tot (λ k=>(f k).bind (h k)) R:=
 R6a hf (by rintro r rfl;exact hh)
def Tot.succ (h:Tot (λ k=>f (k+1)) Q):Tot f Q:=by
 obtain⟨r,K,h1,h2⟩:=h;exact⟨r,K+1,λ k hk=>by obtain⟨m,rfl⟩:∃ m,k=m+1:=⟨k-1,by omega⟩;exact h1 m (by omega),h2⟩
def Tot.and (h:Tot f Q) (h':Tot f Q'):Tot f (λ a=>Q a∧Q' a):=by
 obtain⟨r,K,h1,h2⟩:=h;obtain⟨r',K',h1',h2'⟩:=h'
 have e:r=r':=by
  have a1:=h1 (max K K') (by omega);have a2:=h1' (max K K') (by omega);rw[a1]at a2;exact Sza a2
 subst e;exact⟨r,K,h1,h2,h2'⟩
def Tot.law {f:Nat→Option Bool} (h:Tot f (λ b=>b=true)):∃ k,f k=some true:=by
 obtain⟨r,K,h1,h2⟩:=h;subst h2;exact⟨K,h1 K (Vq _)⟩
end
def w64 {n:Int} (h1 : -9223372036854775808≤n) (h2:n≤9223372036854775807):wrap .i64 n=n:=Go.IntWalk.i64_in n ⟨h1,h2⟩
def Gha (n:Int):0≤wrap .u8 n∧wrap .u8 n≤255:=by
 simp only[wrap,IntKind.signed,IntKind.bits];simp;omega

def Az (l:List Int):Prop:=∀ x∈l,0≤x∧x≤255
abbrev Stp:=Int×Int×Int
abbrev Row:=ByteArray×Stp×Bool×Int
abbrev Fil:=Stp×Bool×List Int

def V4:∀ (a:List UInt8),Op.bytesLess a a=false
 |[]=>rfl
 |a::l=>by simp[Op.bytesLess,V4 l]
def Bja:∀ (a b c:List UInt8),Op.bytesLess a b=true→Op.bytesLess b c=true→Op.bytesLess a c=true
 |_,[],_,h,_=>by simp[Op.bytesLess]at h
 |_,_::_,[],_,h=>by simp[Op.bytesLess]at h
 |[],_::_,_::_,_,_=>rfl
 |a::x,b::y,c::z,h1,h2=>by
  simp only[Op.bytesLess,Rna,Va,decide_eq_true_eq,beq_iff_eq]at h1 h2 ⊢;rcases h1 with h1|⟨rfl,h1⟩
  ·rcases h2 with h2|⟨rfl,h2⟩
   ·exact .inl (UInt8.lt_trans h1 h2)
   ·exact .inl h1
  ·rcases h2 with h2|⟨rfl,h2⟩
   ·exact .inl h2
   ·exact .inr ⟨rfl,Bja x y z h1 h2⟩
def Kxa:∀ (a b:List UInt8),Op.bytesLess a b=false→Op.bytesLess b a=false→a=b
 |[],[],_,_=>rfl
 |[],_::_,h,_=>by simp[Op.bytesLess]at h
 |_::_,[],_,h=>by simp[Op.bytesLess]at h
 |a::x,b::y,h1,h2=>by
  simp only[Op.bytesLess,Bool.or_eq_false_iff,Bool.and_eq_false_iff,decide_eq_false_iff_not]at h1 h2
  have hab:a=b:=by
   have h3:=UInt8.not_lt.1 h1.1;have h4:=UInt8.not_lt.1 h2.1;exact UInt8.le_antisymm h4 h3
  subst hab;rw[Kxa x y (h1.2.resolve_left (by simp)) (h2.2.resolve_left (by simp))]
def tlt (a b:ByteArray):Bool:=Op.bytesLess a.toList b.toList
def teq (a b:ByteArray):Bool:=a.toList==b.toList
def Rh {a b:ByteArray} (h:a.toList=b.toList):a=b:=by
 rw[ByteArray.toList_eq,ByteArray.toList_eq]at h;obtain⟨⟨x⟩⟩:=a;obtain⟨⟨y⟩⟩:=b;simp only at h;rw[h]
def Jp {a b:ByteArray}:teq a b=true↔a=b:=by
 unfold teq;rw[beq_iff_eq];exact⟨Rh,λ h=>by rw[h]⟩
def Nt (a:ByteArray):tlt a a=false:=V4 _
def My {a b c:ByteArray} (h:tlt a b=true) (h':tlt b c=true):tlt a c=true:=Bja _ _ _ h h'
def Mla {a b:ByteArray} (h:tlt a b=false) (h':tlt b a=false):a=b:=Rh (Kxa _ _ h h')
def Gia {a b:ByteArray} (h:tlt a b=true):tlt b a=false:=by
 cases hb:tlt b a
 ·rfl
 have:=My h hb;rw[Nt]at this;cases this
def sle (a b:Stp):Bool:=cond (a.1 != b.1) (decide (a.1<b.1)) (cond (a.2.1 != b.2.1) (decide (a.2.1<b.2.1)) (decide (a.2.2<b.2.2)))
def Jha (a b:Stp):De a b=some (sle a b):=by
 unfold De sle
 cases a.1 != b.1<;>cases a.2.1 != b.2.1<;>rfl
def Jia (a b:Stp):Dh a b=some (sle a b):=by
 unfold Dh sle
 cases a.1 != b.1<;>cases a.2.1 != b.2.1<;>rfl
def Pxa (a b:Row):Bool:=cond (!((a.2.1.1==b.2.1.1)&&((a.2.1.2.1==b.2.1.2.1)&&(a.2.1.2.2==b.2.1.2.2)))) (sle a.2.1 b.2.1) (cond (!(a.2.2.1==b.2.2.1)) b.2.2.1 (decide (a.2.2.2<b.2.2.2)))
def Nu:Row:=((⟨#[]⟩:ByteArray),(((0:Int),((0:Int),(0:Int))),(false,(0:Int))))
def Fm {α:Type} {l:List α} {i:Nat} {d:α} (h:i<l.length):l.drop i=l.getD i d::l.drop (i+1):=by
 rw[Yj h,Vn,Vs h];rfl
def Few (l:List Row):Prop:=l.length≤1000000000000
def Bka (l:List Row) (hf:Few l):Dm l=some l:=by
 unfold Few at hf;unfold Dm;rw[Yn (by simp only[Vp];omega)];rfl

def J7 (l:List Row):Prop:=l.Pairwise (λ a b=>tlt a.1 b.1=true)

def inR (n lo hi:Int):Bool:=decide (n≥lo)&&decide (n≤hi)
def Bla (n lo hi:Int):Fg n lo hi=some (inR n lo hi):=by
 unfold Fg inR
 cases decide (n≥lo)<;>rfl
def V5 (n lo hi:Int):C7 n lo hi=some (inR n lo hi):=by
 unfold C7 inR
 cases decide (n≥lo)<;>rfl
def Z1 {n lo hi:Int}:inR n lo hi=true↔lo≤n∧n≤hi:=by
 unfold inR;simp
def Mz (c:Int):Bool:=inR c 97 122||(inR c 48 57||(!(c != 45)||(!(c != 95)||!(c != 47))))
def Ht (s:ByteArray):Prop:=s.size≤4611686018427387904
def Jq (s:ByteArray):s.data.toList.length=s.size:=Yi
def Gja (s:ByteArray) (i:Int):0≤bt s i∧bt s i≤255:=by
 unfold bt;have:=(s.data.toList.getD i.toNat 0).toNat_lt;omega
def Ooa (s:ByteArray) (i:Nat) (h:i<s.size):bt s (i:Int)=((s.data.toList[i]'(by rw[Jq];exact h)).toNat:Int):=by
 unfold bt;rw[Vm,Vn,Vs (by rw[Jq];exact h)];rfl
def bOk (b:UInt8):Bool:=Mz (b.toNat:Int)
def Z2 (s:ByteArray) (hs:Ht s):∀ (n i:Nat),s.size-i=n→i≤s.size→
  Tot (λ k=>Ad k s (i:Int)) (λ r=>r=bif (s.data.toList.drop i).all bOk then .inr s else .inl false):=by
 unfold Ht at hs;have hsz:=Jq s;intro n
 induction n with
 |zero=>
  intro i hn hi;refine Tot.succ ?_;simp only[Ad];refine Raa (by omega) (R5a ?_);rw[Wl (by omega)];rfl
 |succ n ih=>
  intro i hn hi
  have hlt:i<s.size:=by omega
  refine Tot.succ ?_;simp only[Ad];refine R9a (by omega) (R9a (by omega) (R9a (by omega) ?_));rw[w64 (n:=(i:Int)+1) (by omega) (by omega)]
  have hb:bOk (s.data.toList[i]'(by omega))=Mz (bt s (i:Int)):=by rw[Ooa s i hlt];rfl
  rw[Yj (by omega),Rza,hb];generalize bt s (i:Int)=c;have h1:=ih (i+1) (by omega) (by omega)
  have e:(((i+1:Nat)):Int)=(i:Int)+1:=by omega
  rw[e]at h1
  cases hc:Mz c with
  |true=>
   rw[Wj];refine h1.mono (λ r hr=>hr) |> λ h=>?_;obtain⟨r,K,h2,h3⟩:=h;refine⟨r,K,λ k hk=>?_,h3⟩;rw[← h2 k hk];unfold Mz inR at hc
   revert hc
   cases decide (c≥97)<;>cases decide (c≤122)<;>cases decide (c≥48)<;>cases decide (c≤57)<;>cases (c != 45)<;>cases (c != 95)<;>cases (c != 47)<;>first|(intro _;rfl)|(intro hc;cases hc)
  |false=>
   rw[Spa];refine⟨.inl false,0,λ k _=>?_,rfl⟩;unfold Mz inR at hc
   revert hc
   cases decide (c≥97)<;>cases decide (c≤122)<;>cases decide (c≥48)<;>cases decide (c≤57)<;>cases (c != 45)<;>cases (c != 95)<;>cases (c != 47)<;>first|(intro _;rfl)|(intro hc;cases hc)
def Z3 (s:ByteArray) (hs:Ht s):∀ (n i:Nat),s.size-i=n→i≤s.size→
  Tot (λ k=>B8 k s (i:Int)) (λ r=>r=bif (s.data.toList.drop i).all bOk then .inr s else .inl false):=by
 unfold Ht at hs;have hsz:=Jq s;intro n
 induction n with
 |zero=>
  intro i hn hi;refine Tot.succ ?_;simp only[B8];refine Raa (by omega) (R5a ?_);rw[Wl (by omega)];rfl
 |succ n ih=>
  intro i hn hi
  have hlt:i<s.size:=by omega
  have hbb:=Gja s (i:Int);refine Tot.succ ?_;simp only[B8];refine R9a (by omega) (R9a (by omega) (R9a (by omega) ?_));rw[w64 (n:=(i:Int)+1) (by omega) (by omega),w64 (n:=bt s (i:Int)) (by omega) (by omega)]
  have hb:bOk (s.data.toList[i]'(by omega))=Mz (bt s (i:Int)):=by rw[Ooa s i hlt];rfl
  rw[Yj (by omega),Rza,hb];generalize bt s (i:Int)=c;have h1:=ih (i+1) (by omega) (by omega)
  have e:(((i+1:Nat)):Int)=(i:Int)+1:=by omega
  rw[e]at h1;simp only[V5,Vv]
  cases hc:Mz c with
  |true=>
   rw[Wj];obtain⟨r,K,h2,h3⟩:=h1;refine⟨r,K,λ k hk=>?_,h3⟩;rw[← h2 k hk];unfold Mz at hc
   revert hc
   cases inR c 97 122<;>cases inR c 48 57<;>cases (c != 45)<;>cases (c != 95)<;>cases (c != 47)<;>first|(intro _;rfl)|(intro hc;cases hc)
  |false=>
   rw[Spa];refine⟨.inl false,0,λ k _=>?_,rfl⟩;unfold Mz at hc
   revert hc
   cases inR c 97 122<;>cases inR c 48 57<;>cases (c != 45)<;>cases (c != 95)<;>cases (c != 47)<;>first|(intro _;rfl)|(intro hc;cases hc)
def C1 (s:ByteArray):Bool:=s.data.toList.all bOk&&inR (s.size:Int) 1 20
def Lc (s:ByteArray) (hs:Ht s):Tot (λ k=>Aj k s) (λ r=>r=C1 s):=by
 unfold Aj C1;refine Rfa (Z2 s hs _ 0 rfl (Wf _)) ?_;rw[We]
 cases s.data.toList.all bOk with
 |true=>exact Rga (a:=inR (s.size:Int) 1 20) (by simp only[cond_true,T6a,Bla,Vv]) (by rw[Wj])
 |false=>exact R5a rfl
def N0 (s:ByteArray) (hs:Ht s):Tot (λ k=>An k s) (λ r=>r=C1 s):=by
 unfold An C1;refine Rfa (Z3 s hs _ 0 rfl (Wf _)) ?_;rw[We]
 cases s.data.toList.all bOk with
 |true=>exact Rga (a:=inR (s.size:Int) 1 20) (by simp only[cond_true,T6a,V5,Vv]) (by rw[Wj])
 |false=>exact R5a rfl
def Hu (s:Stp):Bool:=inR s.1 0 1000000000&&(inR s.2.1 0 1000000&&inR s.2.2 0 20)
def V6 (s:Stp):D8 s=some (Hu s):=by
 unfold D8 Hu;simp only[Bla,Vv]
 cases inR s.1 0 1000000000<;>cases inR s.2.1 0 1000000<;>rfl
def V7 (s:Stp):D6 s=some (Hu s):=by
 unfold D6 Hu;simp only[V5,Vv]
 cases inR s.1 0 1000000000<;>cases inR s.2.1 0 1000000<;>rfl
def I2 (x:Row):Bool:=C1 x.1&&(Hu x.2.1&&(inR x.2.2.2 0 200&&(!x.2.2.1||x.2.2.2==0)))
def Gka (x:Row) (hs:Ht x.1):Tot (λ k=>Eu k x) (λ r=>r=I2 x):=by
 unfold Eu I2;refine Rfa (Lc x.1 hs) ?_;cases C1 x.1
 ·exact R5a rfl
 refine Rga (a:=Hu x.2.1&&(inR x.2.2.2 0 200&&(!x.2.2.1||x.2.2.2==0))) ?_ (by rw[Wj]);simp only[cond_true,V6,Bla,Vv]
 cases Hu x.2.1<;>cases inR x.2.2.2 0 200<;>cases x.2.2.1<;>rfl
def Gla (x:Row) (hs:Ht x.1):Tot (λ k=>E3 k x) (λ r=>r=I2 x):=by
 unfold E3 I2;refine Rfa (N0 x.1 hs) ?_;cases C1 x.1
 ·exact R5a rfl
 refine Rga (a:=Hu x.2.1&&(inR x.2.2.2 0 200&&(!x.2.2.1||x.2.2.2==0))) ?_ (by rw[Wj]);simp only[cond_true,V7,V5,Vv]
 cases Hu x.2.1<;>cases inR x.2.2.2 0 200<;>cases x.2.2.1<;>rfl
def chk:Option ByteArray→List Row→Bool
 |_,[]=>true
 |none,r::l=>I2 r&&chk (some r.1) l
 |some q,r::l=>I2 r&&(tlt q r.1&&chk (some r.1) l)
def Lq (l:List Row):Bool:=chk none l&&decide ((l.length:Int)≤60)
def N1 (l:List Row):Prop:=∀ r∈l,Ht r.1
def Oh (l:List Row):Nat→Option ByteArray
 |0=>none
 |i+1=>some (l.getD i Nu).1
def Bma (l:List Row) (i:Nat) (h:i<l.length):chk (Oh l i) (l.drop i)=(I2 (l.getD i Nu)&&(bif decide (0<i) then tlt (l.getD (i-1) Nu).1 (l.getD i Nu).1 else true)&&chk (Oh l (i+1)) (l.drop (i+1))):=by
 rw[Fm (d:=Nu) h]
 cases i with
 |zero=>simp[Oh,chk]
 |succ i=>simp[Oh,chk,T9a]
def Cu {α:Type} {l:List α} {i:Nat} {d:α} (h1:i<l.length):l.getD i d∈l:=by
 rw[Vn,Vs h1];exact Sxa h1
def Z4 (l:List Row) (hf:Few l) (hs:N1 l):∀ (n i:Nat),l.length-i=n→i≤l.length→
  Tot (λ k=>Co k l l (l.length:Int) (i:Int)) (λ r=>r=bif chk (Oh l i) (l.drop i) then .inr l else .inl false):=by
 unfold Few at hf;intro n
 induction n with
 |zero=>
  intro i hn hi;refine Tot.succ ?_;simp only[Co];refine Raa (by omega) (R5a ?_);rw[Wl (by omega)]
  cases Oh l i<;>rfl
 |succ n ih=>
  intro i hn hi
  have hlt:i<l.length:=by omega
  refine Tot.succ ?_;simp only[Co];refine R9a (by omega) (R9a (by omega) (R9a (by omega) ?_));rw[show toNat (i:Int)=i from Vm i,w64 (n:=(i:Int)+1) (by omega) (by omega),Bma l i hlt];have h1:=ih (i+1) (by omega) (by omega)
  have e:(((i+1:Nat)):Int)=(i:Int)+1:=by omega
  rw[e]at h1;refine Rfa (Gka (l.getD i Nu) (hs _ (Cu hlt))) ?_;cases hb:I2 (l.getD i Nu)
  ·exact R8a rfl (R5a (by simp))
  refine R7a rfl ?_;rw[Wj];refine Rca (λ h0=>?_) (λ h0=>?_)
  ·rw[w64 (n:=(i:Int)-1) (by omega) (by omega)];refine R9a (by omega) (R9a (by omega) ?_);rw[show toNat ((i:Int)-1)=i-1 by omega,decide_eq_true (show 0<i by omega),cond_true];have et:(!(Op.bytesLess (l.getD (i-1) Nu).1.toList (l.getD i Nu).1.toList)) = !(tlt (l.getD (i-1) Nu).1 (l.getD i Nu).1):=rfl;refine Rba (λ ht=>?_) (λ ht=>?_)
   ·have ht':(!(tlt (l.getD (i-1) Nu).1 (l.getD i Nu).1))=true:=ht;rw[Wi]at ht';exact R5a (by rw[ht'];rfl)
   ·have ht':(!(tlt (l.getD (i-1) Nu).1 (l.getD i Nu).1))=false:=ht;rw[S0a]at ht';rw[ht',Wj];exact h1
  ·rw[decide_eq_false (show ¬ 0<i by omega),cond_false,Wj];exact h1
def Z5 (l:List Row) (hf:Few l) (hs:N1 l):∀ (n i:Nat),l.length-i=n→i≤l.length→
  Tot (λ k=>Cn k l (i:Int)) (λ r=>r=bif chk (Oh l i) (l.drop i) then .inr l else .inl false):=by
 unfold Few at hf;intro n
 induction n with
 |zero=>
  intro i hn hi;refine Tot.succ ?_;simp only[Cn];refine Raa (by omega) (R5a ?_);rw[Wl (by omega)]
  cases Oh l i<;>rfl
 |succ n ih=>
  intro i hn hi
  have hlt:i<l.length:=by omega
  refine Tot.succ ?_;simp only[Cn];refine R9a (by omega) (R9a (by omega) (R9a (by omega) ?_));rw[show toNat (i:Int)=i from Vm i,w64 (n:=(i:Int)+1) (by omega) (by omega),Bma l i hlt];have h1:=ih (i+1) (by omega) (by omega)
  have e:(((i+1:Nat)):Int)=(i:Int)+1:=by omega
  rw[e]at h1;refine Rfa (Gla (l.getD i Nu) (hs _ (Cu hlt))) ?_;cases hb:I2 (l.getD i Nu)
  ·exact R8a rfl (R5a (by simp))
  refine R7a rfl ?_;rw[Wj];refine Rca (λ h0=>?_) (λ h0=>?_)
  ·rw[w64 (n:=(i:Int)-1) (by omega) (by omega)];refine R9a (by omega) (R9a (by omega) (R9a (by omega) (R9a (by omega) ?_)));rw[show toNat ((i:Int)-1)=i-1 by omega,decide_eq_true (show 0<i by omega),cond_true];refine Rba (λ ht=>?_) (λ ht=>?_)
   ·have ht':(!(tlt (l.getD (i-1) Nu).1 (l.getD i Nu).1))=true:=ht;rw[Wi]at ht';exact R5a (by rw[ht'];rfl)
   ·have ht':(!(tlt (l.getD (i-1) Nu).1 (l.getD i Nu).1))=false:=ht;rw[S0a]at ht';rw[ht',Wj];exact h1
  ·rw[decide_eq_false (show ¬ 0<i by omega),cond_false,Wj];exact h1
def Jja (l:List Row) (hf:Few l) (hs:N1 l):Tot (λ k=>Cz k l) (λ r=>r=Lq l):=by
 unfold Cz Lq;refine Rfa (Z4 l hf hs _ 0 rfl (Wf _)) ?_;rw[We];show Tot _ (λ r=>r=(chk none l&&_))
 cases hc:chk none l with
 |true=>rw[show chk (Oh l 0) l=true from hc];exact R5a (by rw[Wj])
 |false=>rw[show chk (Oh l 0) l=false from hc];exact R5a rfl
def Jka (l:List Row) (hf:Few l) (hs:N1 l):Tot (λ k=>Cv k l) (λ r=>r=Lq l):=by
 unfold Cv Lq;refine Rfa (Z5 l hf hs _ 0 rfl (Wf _)) ?_;rw[We]
 cases hc:chk none l with
 |true=>rw[show chk (Oh l 0) l=true from hc];exact R5a (by rw[Wj])
 |false=>rw[show chk (Oh l 0) l=false from hc];exact R5a rfl
def Z6:∀ (p:Option ByteArray) (l:List Row),chk p l=true↔J7 l∧(∀ r∈l,I2 r=true)∧(∀ q,p=some q→∀ r∈l,tlt q r.1=true)
 |p,[]=>by
  have:chk p []=true:=by cases p<;>rfl
  simp[this,J7]
 |none,r::l=>by
  simp only[chk,Va,Z6 (some r.1) l,J7,Yo];constructor
  ·rintro⟨h1,h2,h3,h4⟩;exact⟨⟨λ a ha=>h4 _ rfl a ha,h2⟩,λ a ha=>by rcases Vk.1 ha with rfl|ha;exact h1;exact h3 a ha,λ q hq=>by cases hq⟩
  ·rintro⟨⟨h1,h2⟩,h3,_⟩;exact⟨h3 r (by simp),h2,λ a ha=>h3 a (Vd _ ha),λ q hq a ha=>by cases hq;exact h1 a ha⟩
 |some q,r::l=>by
  simp only[chk,Va,Z6 (some r.1) l,J7,Yo];constructor
  ·rintro⟨h1,h0,h2,h3,h4⟩;refine⟨⟨λ a ha=>h4 _ rfl a ha,h2⟩,λ a ha=>by rcases Vk.1 ha with rfl|ha;exact h1;exact h3 a ha,λ q' hq a ha=>?_⟩;cases hq;rcases Vk.1 ha with rfl|ha
   ·exact h0
   ·exact My h0 (h4 _ rfl a ha)
  ·rintro⟨⟨h1,h2⟩,h3,h4⟩;exact⟨h3 r (by simp),h4 q rfl r (by simp),h2,λ a ha=>h3 a (Vd _ ha),λ q' hq a ha=>by cases hq;exact h1 a ha⟩
def D1a {l:List Row}:Lq l=true↔J7 l∧(∀ r∈l,I2 r=true)∧l.length≤60:=by
 unfold Lq;simp only[Va,Z6,decide_eq_true_eq];constructor
 ·rintro⟨⟨h1,h2,_⟩,h3⟩;exact⟨h1,h2,by omega⟩
 ·rintro⟨h1,h2,h3⟩;exact⟨⟨h1,h2,λ q hq=>by cases hq⟩,by omega⟩
def mx (a b:Row):Row:=bif Pxa a b then b else a

def Tg:Nat→Nat→List Int
 |0,n=>[(n:Int)]
 |f+1,n=>if n≤127 then [(n:Int)] else ((n % 128+128:Nat):Int)::Tg f (n/128)
def X4 (n:Nat):List Int:=Tg 4 n
def Qm:Nat→Nat→Nat→List Int→Option (Nat×Nat)
 |0,_,_,_=>none
 |_+1,_,_,[]=>none
 |f+1,k,acc,x::l=>if 128≤x then Qm f (k+1) (acc+x.toNat % 128*128 ^ k) l
  else if (x=0∧0<k)∨1000000000<acc+x.toNat % 128*128 ^ k then none else some (acc+x.toNat % 128*128 ^ k,k+1)
def Jr (l:List Int) (p:Nat):Option (Nat×Nat):=match Qm 5 0 0 (l.drop p) with
 |some (n,c)=>some (n,p+c)
 |none=>none
def Gma:∀ (f n:Nat),(Tg f n).length≤f+1∧0<(Tg f n).length
 |0,n=>by simp[Tg]
 |f+1,n=>by
  unfold Tg;split
  ·simp
  ·have:=Gma f (n/128);simp only[Vg];omega
def M1:∀ (f k acc:Nat) (l:List Int) (n c:Nat),Az l→Qm f k acc l=some (n,c)→acc<128 ^ k→k<c∧c≤k+f∧c-k≤l.length∧n≤1000000000
 |0,_,_,_,_,_,_,h,_=>by simp[Qm]at h
 |_+1,_,_,[],_,_,_,h,_=>by simp[Qm]at h
 |f+1,k,acc,x::l,n,c,hb,h,ha=>by
  have hx:=hb x (by simp);unfold Qm at h;split at h
  ·have h1:acc+x.toNat % 128*128 ^ k<128 ^ (k+1):=by
    have h2:x.toNat % 128≤127:=by omega
    have h3:=Wa (128 ^ k) h2;rw[Zi];omega
   have:=M1 f (k+1) _ l n c (λ y hy=>hb y (Vd _ hy)) h h1;simp only[Vg];omega
  ·split at h
   ·cases h
   ·simp only[Vc,Vu]at h;obtain⟨rfl,rfl⟩:=h;simp only[Vg];omega
def Gna:∀ (f k acc:Nat) (l:List Int) (n c:Nat),Az l→Qm (f+1) k acc l=some (n,c)→acc<128 ^ k→∃ m,n=acc+m*128 ^ k∧l=Tg f m++l.drop (c-k)∧(m=0→c=k+1∧(0<k→False))∧m<128 ^ (f+1)
 |0,k,acc,[],n,c,hb,h,ha=>by simp[Qm]at h
 |_+1,k,acc,[],n,c,hb,h,ha=>by simp[Qm]at h
 |0,k,acc,x::l,n,c,hb,h,ha=>by
  have hx:=hb x (by simp);unfold Qm at h;split at h
  ·simp[Qm]at h
  ·rename_i h128;split at h
   ·cases h
   ·rename_i hz;simp only[Vc,Vu]at h;obtain⟨rfl,rfl⟩:=h;have hm:x.toNat % 128=x.toNat:=Swa (by omega);refine⟨x.toNat,by rw[hm],?_,λ h0=>⟨rfl,λ hk=>hz (.inl ⟨by omega,hk⟩)⟩,by omega⟩;rw[show k+1-k=1 by omega];show x::l=[((x.toNat:Nat):Int)]++l;rw[show ((x.toNat:Nat):Int)=x by omega];rfl
 |f+1,k,acc,x::l,n,c,hb,h,ha=>by
  have hx:=hb x (by simp);have hb':Az l:=λ y hy=>hb y (Vd _ hy);unfold Qm at h;split at h
  ·rename_i h128
   have h1:acc+x.toNat % 128*128 ^ k<128 ^ (k+1):=by
    have h2:x.toNat % 128≤127:=by omega
    have h3:=Wa (128 ^ k) h2;rw[Zi];omega
   obtain⟨m,e1,e2,e3,e4⟩:=Gna f (k+1) _ l n c hb' h h1;have hbd:=M1 (f+1) (k+1) _ l n c hb' h h1;have hm0:m≠0:=λ h0=>(e3 h0).2 (by omega);refine⟨x.toNat % 128+m*128,?_,?_,λ h0=>by omega,?_⟩
   ·rw[e1,Zi,Yh]
    have:m*128*128 ^ k=m*(128 ^ k*128):=by rw[Nat.mul_assoc,Tda 128]
    omega
   ·unfold Tg;rw[if_neg (by omega),show (x.toNat % 128+m*128)/128=m by omega,show (x.toNat % 128+m*128) % 128=x.toNat % 128 by omega,show c-k=(c-(k+1))+1 by omega,List.drop_succ_cons,List.cons_append,← e2];congr 1;omega
   ·rw[Zi];omega
  ·rename_i h128;split at h
   ·cases h
   ·rename_i hz;simp only[Vc,Vu]at h;obtain⟨rfl,rfl⟩:=h;have hm:x.toNat % 128=x.toNat:=Swa (by omega)
    have hp:128≤128 ^ (f+1+1):=by
     have:=Nat.pow_le_pow_right (show 0<128 by decide) (show 1≤f+1+1 by omega)
     simpa using this
    refine⟨x.toNat,by rw[hm],?_,λ h0=>⟨rfl,λ hk=>hz (.inl ⟨by omega,hk⟩)⟩,by omega⟩;rw[show k+1-k=1 by omega];unfold Tg;rw[if_pos (by omega)];show x::l=[((x.toNat:Nat):Int)]++l;rw[show ((x.toNat:Nat):Int)=x by omega];rfl
def M2 {l:List Int} {p n q:Nat} (hb:Az l) (h:Jr l p=some (n,q)):l.drop p=X4 n++l.drop q∧n≤1000000000∧p<q∧q≤l.length:=by
 unfold Jr at h;split at h
 ·rename_i m c hd;simp only[Vc,Vu]at h;obtain⟨rfl,rfl⟩:=h;have hb':Az (l.drop p):=λ y hy=>hb y (Zk hy);have hbd:=M1 5 0 0 _ _ _ hb' hd (by decide);obtain⟨m',e1,e2,_,_⟩:=Gna 4 0 0 _ _ _ hb' hd (by decide)
  have e3:m=m':=by rw[e1];simp
  subst e3;rw[Vy]at hbd;refine⟨?_,hbd.2.2.2,by omega,by omega⟩;rw[S9a,Wp]at e2;exact e2
 ·cases h
def Qva (i:Nat) (hi:i<5):(2:Int) ^ (min (toNat (wrap .i64 (7*(i:Int)))) (IntKind.bits .i64))=((128 ^ i:Nat):Int):=by
 have:i=0∨i=1∨i=2∨i=3∨i=4:=by omega
 rcases this with rfl|rfl|rfl|rfl|rfl<;>decide
def Pya (i:Nat) (hi:i<5):(2:Int) ^ (min (toNat (wrap .u64 (wrap .i64 (7*(i:Int))))) (IntKind.bits .i64))=((128 ^ i:Nat):Int):=by
 have:i=0∨i=1∨i=2∨i=3∨i=4:=by omega
 rcases this with rfl|rfl|rfl|rfl|rfl<;>decide
def sh7 (i:Nat) (hi:i<5):¬ (wrap .i64 (7*(i:Int))<0)∧¬ (wrap .u64 (wrap .i64 (7*(i:Int)))<0):=by
 have:i=0∨i=1∨i=2∨i=3∨i=4:=by omega
 rcases this with rfl|rfl|rfl|rfl|rfl<;>decide
def J8 (i:Nat) (hi:i≤5):128 ^ i≤34359738368:=by
 have:=Nat.pow_le_pow_right (show 0<128 by decide) hi
 simpa using this
def N2 (n:Nat) (h:n<18446744073709551616):(ofInt (IntKind.bits .i64) (n:Int)).toNat=n:=by
 rw[BitVec.toNat_ofInt];show ((n:Int) % ((2 ^ 64:Nat):Int)).toNat=n;rw[Int.emod_eq_of_lt (by omega) (by omega)];exact Vm n
def Kya (n:Nat) (h:n<9223372036854775808):wrap .i64 ((ofInt (IntKind.bits .i64) (n:Int) &&& ofInt (IntKind.bits .i64) 127).toNat)=((n % 128:Nat):Int):=by
 rw[Sya,N2 n (by omega),show (ofInt (IntKind.bits .i64) 127).toNat=127 from by decide,show (127:Nat)=2 ^ 7-1 from rfl,Nat.and_two_pow_sub_one_eq_mod];exact w64 (by omega) (by omega)
def Bna (a m i:Nat) (ha:a<128 ^ i) (hm:m<128) (hi:i<5):wrap .i64 ((ofInt (IntKind.bits .i64) (a:Int) ||| ofInt (IntKind.bits .i64) ((m*128 ^ i:Nat):Int)).toNat)=((a+m*128 ^ i:Nat):Int):=by
 have hp:=J8 i (by omega);have hmul:m*128 ^ i≤127*34359738368:=Taa (by omega) hp;rw[BitVec.toNat_or,N2 a (by omega),N2 _ (by omega),Nat.or_comm]
 have e:(128:Nat) ^ i=2 ^ (7*i):=by rw[Nat.pow_mul]
 have h2:=Nat.two_pow_add_eq_or_of_lt (i:=7*i) (b:=a) (by rw[← e];exact ha) m;rw[← e,Tda]at h2;rw[← h2,Zd];exact w64 (by omega) (by omega)
def Z7 (l:List Int) (p:Int):Int×Int×Bool:=if p<0 then (0,0,false) else match Jr l p.toNat with
 |some (n,q)=>((n:Int),(q:Int),true)
 |none=>(0,0,false)
def Pka (p:Nat):Option (Nat×Nat)→Int×Int×Bool
 |some (n,c)=>((n:Int),((p+c:Nat):Int),true)
 |none=>(0,0,false)
def Q8 (r:Sum (Int×Int×Bool) Unit):Int×Int×Bool:=Sum.elim (λ y=>y) (λ _=>(0,0,false)) r
def V8 {l:List Int} {p:Nat} (h:p<l.length):l.drop p=l.getD p 0::l.drop (p+1):=Fm h
def D2a (l:List Int) (hb:Az l) (hl:l.length≤1000000000000) (p:Nat) (hp:p≤1000000000000):∀ (f i acc:Nat),f+i=5→acc<128 ^ i→
  Tot (λ k=>Cp k l (p:Int) (acc:Int) (i:Int)) (λ r=>Q8 r=Pka p (Qm f i acc (l.drop (p+i)))):=by
 intro f
 induction f with
 |zero=>
  intro i acc hi ha;refine Tot.succ ?_;simp only[Cp];exact Raa (by omega) (R5a rfl)
 |succ f ih=>
  intro i acc hi ha
  have hi5:i<5:=by omega
  refine Tot.succ ?_;simp only[Cp];refine R9a (by omega) (R9a (by omega) ?_);rw[w64 (n:=(l.length:Int)-(i:Int)) (by omega) (by omega),w64 (n:=(p:Int)+(i:Int)) (by omega) (by omega),show toNat ((p:Int)+(i:Int))=p+i by omega];refine Rca (λ h=>?_) (λ h=>?_)
  ·have hlt:p+i<l.length:=by omega
   refine R9a (by omega) (R9a (by omega) ?_);have hx:=hb (l.getD (p+i) 0) (Cu hlt);rw[V8 hlt,Qva i hi5]
   have he:Qm (f+1) i acc (l.getD (p+i) 0::l.drop (p+i+1))=if 128≤l.getD (p+i) 0 then Qm f (i+1) (acc+(l.getD (p+i) 0).toNat % 128*128 ^ i) (l.drop (p+i+1)) else if (l.getD (p+i) 0=0∧0<i)∨1000000000<acc+(l.getD (p+i) 0).toNat % 128*128 ^ i then none else some (acc+(l.getD (p+i) 0).toNat % 128*128 ^ i,i+1):=rfl
   rw[he];generalize l.getD (p+i) 0=x at hx ⊢;obtain⟨v,rfl⟩:∃ v:Nat,x=(v:Int):=⟨x.toNat,by omega⟩;rw[Vm];have hp1:=J8 i (by omega);have hmul:v % 128*128 ^ i≤127*34359738368:=Taa (by omega) hp1;rw[w64 (n:=(v:Int)) (by omega) (by omega)]
   have e1:Int.tmod (v:Int) 128*((128 ^ i:Nat):Int)=((v % 128*128 ^ i:Nat):Int):=by
    rw[Sga (by omega)]
    push_cast
    rfl
   rw[e1,w64 (n:=((v % 128*128 ^ i:Nat):Int)) (by omega) (by omega),← Int.natCast_add,w64 (n:=((acc+v % 128*128 ^ i:Nat):Int)) (by omega) (by omega),w64 (n:=(i:Int)+1) (by omega) (by omega),w64 (n:=(p:Int)+(i:Int)+1) (by omega) (by omega)];refine Raa (sh7 i hi5).1 ?_;refine Rca (λ h128=>?_) (λ h128=>?_)
   ·rw[if_pos (by omega)]
    have h1:acc+v % 128*128 ^ i<128 ^ (i+1):=by
     have h2:v % 128≤127:=by omega
     have h3:=Wa (128 ^ i) h2;rw[Zi];omega
    have:=ih (i+1) (acc+v % 128*128 ^ i) (by omega) h1;rw[show p+(i+1)=p+i+1 by omega]at this;exact this
   ·rw[if_neg (by omega)]
    have big:Tot (λ _:Nat=>cond (decide (((acc+v % 128*128 ^ i:Nat):Int) > 1000000000)) (some (Sum.inl ((0:Int),(0:Int),false))) (some (Sum.inl (((acc+v % 128*128 ^ i:Nat):Int),(p:Int)+(i:Int)+1,true))):Nat→Option (Sum (Int×Int×Bool) Unit))
      (λ r=>Q8 r=if 1000000000<acc+v % 128*128 ^ i then (0,0,false) else (((acc+v % 128*128 ^ i:Nat):Int),((p+(i+1):Nat):Int),true)):=by
     refine Rca (λ hbig=>?_) (λ hbig=>?_)
     ·rw[if_pos (by omega)];exact R5a rfl
     ·rw[if_neg (by omega)];refine R5a ?_;show (_,_,_)=_;rw[show (p:Int)+(i:Int)+1=((p+(i+1):Nat):Int) by omega]
    have goal:∀ c:Prop,[Decidable c]→(if c∨1000000000<acc+v % 128*128 ^ i then none else some (acc+v % 128*128 ^ i,i+1))=if c then none else if 1000000000<acc+v % 128*128 ^ i then (none:Option (Nat×Nat)) else some (acc+v % 128*128 ^ i,i+1):=by
     intro c _
     by_cases h1:c<;>by_cases h2:1000000000<acc+v % 128*128 ^ i<;>simp[h1,h2]
    rw[goal]
    have fin:(Pka p (if 1000000000<acc+v % 128*128 ^ i then (none:Option (Nat×Nat)) else some (acc+v % 128*128 ^ i,i+1)))=if 1000000000<acc+v % 128*128 ^ i then (0,0,false) else (((acc+v % 128*128 ^ i:Nat):Int),((p+(i+1):Nat):Int),true):=by
     split<;>rfl
    refine Rba (λ h0=>?_) (λ h0=>?_)
    ·have hv:v=0:=by
      have:=beq_iff_eq.1 h0;omega
     refine Rca (λ hi0=>?_) (λ hi0=>?_)
     ·rw[if_pos ⟨by omega,by omega⟩];exact R5a rfl
     ·rw[if_neg (by omega),fin];exact big
    ·have hv:v≠0:=by
      intro e;subst e;simp at h0
     rw[if_neg (by omega),fin];exact big
  ·refine R5a ?_;rw[Wl (by omega)];rfl
def Goa (l:List Int) (hb:Az l) (hl:l.length≤1000000000000) (p:Int) (hp:p≤1000000000000):Tot (λ k=>Du k l p) (λ r=>r=Z7 l p):=by
 unfold Du Z7
 by_cases h0:p<0
 ·rw[if_pos h0];refine R6a (Q:=λ r=>r = .inr ()) ?_ ?_
  ·refine Tot.succ ?_;simp only[Cp];exact R9a (by omega) (Raa (by omega) (R5a rfl))
  ·rintro r rfl;exact R5a rfl
 ·rw[if_neg h0];obtain⟨n,rfl⟩:∃ n:Nat,p=(n:Int):=⟨p.toNat,by omega⟩;rw[Vm];refine R6a (D2a l hb hl n (by omega) 5 0 0 rfl (by decide)) ?_;intro r hr;unfold Jr;rw[Yu]at hr
  have hr':Q8 r=(match (match Qm 5 0 0 (l.drop n) with|some (m,c)=>some (m,n+c)|none=>none) with|some (m,q)=>((m:Int),(q:Int),true)|none=>((0:Int),(0:Int),false)):=by
   rw[hr]
   cases Qm 5 0 0 (l.drop n) with
   |none=>rfl
   |some mc=>rfl
  rw[← hr']
  cases r with
  |inl y=>exact R5a rfl
  |inr z=>exact R5a rfl

def D3a (l:List Int) (hb:Az l) (hl:l.length≤1000000000000) (p:Nat) (hp:p<l.length):∀ (f i acc:Nat),f+i=5→acc<128 ^ i→
  Tot (λ k=>C2 k l (p:Int) (acc:Int) (i:Int)) (λ r=>Q8 r=Pka p (Qm f i acc (l.drop (p+i)))):=by
 intro f
 induction f with
 |zero=>
  intro i acc hi ha;refine Tot.succ ?_;simp only[C2];exact Raa (by omega) (R5a rfl)
 |succ f ih=>
  intro i acc hi ha
  have hi5:i<5:=by omega
  refine Tot.succ ?_;simp only[C2];refine R9a (by omega) (R9a (by omega) (R9a (by omega) ?_));rw[w64 (n:=(p:Int)+(i:Int)) (by omega) (by omega),show toNat ((p:Int)+(i:Int))=p+i by omega];refine Rca (λ h=>?_) (λ h=>?_)
  ·have hlt:p+i<l.length:=by omega
   refine R9a (by omega) (R9a (by omega) ?_);have hx:=hb (l.getD (p+i) 0) (Cu hlt);rw[V8 hlt,Pya i hi5]
   have he:Qm (f+1) i acc (l.getD (p+i) 0::l.drop (p+i+1))=if 128≤l.getD (p+i) 0 then Qm f (i+1) (acc+(l.getD (p+i) 0).toNat % 128*128 ^ i) (l.drop (p+i+1)) else if (l.getD (p+i) 0=0∧0<i)∨1000000000<acc+(l.getD (p+i) 0).toNat % 128*128 ^ i then none else some (acc+(l.getD (p+i) 0).toNat % 128*128 ^ i,i+1):=rfl
   rw[he];generalize l.getD (p+i) 0=x at hx ⊢;obtain⟨v,rfl⟩:∃ v:Nat,x=(v:Int):=⟨x.toNat,by omega⟩;rw[Vm];have hp1:=J8 i (by omega);have hmul:v % 128*128 ^ i≤127*34359738368:=Taa (by omega) hp1;rw[w64 (n:=(v:Int)) (by omega) (by omega),Kya v (by omega)]
   have e1:((v % 128:Nat):Int)*((128 ^ i:Nat):Int)=((v % 128*128 ^ i:Nat):Int):=by push_cast;rfl
   rw[e1,w64 (n:=((v % 128*128 ^ i:Nat):Int)) (by omega) (by omega),Bna acc (v % 128) i ha (by omega) hi5,w64 (n:=(i:Int)+1) (by omega) (by omega),w64 (n:=(p:Int)+(i:Int)+1) (by omega) (by omega)];refine Raa (sh7 i hi5).2 ?_;refine Rca (λ h128=>?_) (λ h128=>?_)
   ·rw[if_pos (by omega)]
    have h1:acc+v % 128*128 ^ i<128 ^ (i+1):=by
     have h2:v % 128≤127:=by omega
     have h3:=Wa (128 ^ i) h2;rw[Zi];omega
    have:=ih (i+1) (acc+v % 128*128 ^ i) (by omega) h1;rw[show p+(i+1)=p+i+1 by omega]at this;exact this
   ·rw[if_neg (by omega)]
    have big:Tot (λ _:Nat=>cond (decide (((acc+v % 128*128 ^ i:Nat):Int) > 1000000000)) (some (Sum.inl ((0:Int),(0:Int),false))) (some (Sum.inl (((acc+v % 128*128 ^ i:Nat):Int),(p:Int)+(i:Int)+1,true))):Nat→Option (Sum (Int×Int×Bool) Unit))
      (λ r=>Q8 r=if 1000000000<acc+v % 128*128 ^ i then (0,0,false) else (((acc+v % 128*128 ^ i:Nat):Int),((p+(i+1):Nat):Int),true)):=by
     refine Rca (λ hbig=>?_) (λ hbig=>?_)
     ·rw[if_pos (by omega)];exact R5a rfl
     ·rw[if_neg (by omega)];refine R5a ?_;show (_,_,_)=_;rw[show (p:Int)+(i:Int)+1=((p+(i+1):Nat):Int) by omega]
    have goal:∀ c:Prop,[Decidable c]→(if c∨1000000000<acc+v % 128*128 ^ i then none else some (acc+v % 128*128 ^ i,i+1))=if c then none else if 1000000000<acc+v % 128*128 ^ i then (none:Option (Nat×Nat)) else some (acc+v % 128*128 ^ i,i+1):=by
     intro c _
     by_cases h1:c<;>by_cases h2:1000000000<acc+v % 128*128 ^ i<;>simp[h1,h2]
    rw[goal]
    have fin:(Pka p (if 1000000000<acc+v % 128*128 ^ i then (none:Option (Nat×Nat)) else some (acc+v % 128*128 ^ i,i+1)))=if 1000000000<acc+v % 128*128 ^ i then (0,0,false) else (((acc+v % 128*128 ^ i:Nat):Int),((p+(i+1):Nat):Int),true):=by
     split<;>rfl
    refine Rca (λ hi0=>?_) (λ hi0=>?_)
    ·refine Rba (λ h0=>?_) (λ h0=>?_)
     ·have hv:v=0:=by
       have:=beq_iff_eq.1 h0;omega
      rw[if_pos ⟨by omega,by omega⟩];exact R5a rfl
     ·have hv:v≠0:=by
       intro e;subst e;simp at h0
      rw[if_neg (by omega),fin];exact big
    ·rw[if_neg (by omega),fin];exact big
  ·refine R5a ?_;rw[Wl (by omega)];rfl
def Nv (l:List Int) (hb:Az l) (hl:l.length≤1000000000000) (p:Int):Tot (λ k=>Bh k l p) (λ r=>r=Z7 l p):=by
 unfold Bh Z7
 by_cases h0:p<0
 ·rw[if_pos h0];refine R6a (Q:=λ r=>r = .inr ()) ?_ ?_
  ·refine Tot.succ ?_;simp only[C2];exact R9a (by omega) (Raa (by omega) (R5a rfl))
  ·rintro r rfl;exact R5a rfl
 ·rw[if_neg h0]
  by_cases h1:p<(l.length:Int)
  ·obtain⟨n,rfl⟩:∃ n:Nat,p=(n:Int):=⟨p.toNat,by omega⟩;rw[Vm];refine R6a (D3a l hb hl n (by omega) 5 0 0 rfl (by decide)) ?_;intro r hr;unfold Jr;rw[Yu]at hr
   have hr':Q8 r=(match (match Qm 5 0 0 (l.drop n) with|some (m,c)=>some (m,n+c)|none=>none) with|some (m,q)=>((m:Int),(q:Int),true)|none=>((0:Int),(0:Int),false)):=by
    rw[hr]
    cases Qm 5 0 0 (l.drop n) with
    |none=>rfl
    |some mc=>rfl
   refine Tot.mono (Q:=λ y=>y=Q8 r) ?_ (λ y hy=>hy.trans hr')
   cases r with
   |inl y=>exact R5a rfl
   |inr z=>exact R5a rfl
  ·have e:Jr l p.toNat=none:=by
    unfold Jr;rw[Wl (by omega)];rfl
   rw[e];refine R6a (Q:=λ r=>r = .inr ()) ?_ ?_
   ·refine Tot.succ ?_;simp only[C2];exact R9a (by omega) (R9a (by omega) (Raa h1 (R5a rfl)))
   ·rintro r rfl;exact R5a rfl
def Dt (n:Int):Nat:=(max 0 (min n 1000000000)).toNat
def Q9 (n:Int):Dt n≤1000000000:=by unfold Dt;omega
def Boa (n:Nat) (h:n≤255):wrap .u8 (n:Int)=(n:Int):=by
 rw[IntKind.wrap_u8];omega
def D4a:∀ (f n:Nat) (out:List Int),n<128 ^ (f+1)→f≤4→out.length+f≤1000000000010→
  Tot (λ k=>Di k out (n:Int)) (λ r=>∃ m:Nat,r.2=(m:Int)∧m≤127∧r.1++[(m:Int)]=out++Tg f n∧r.1.length≤out.length+f):=by
 intro f
 induction f with
 |zero=>
  intro n out hn hf hl;refine Tot.succ ?_;simp only[Di]
  have:n<128:=by simpa using hn
  exact Raa (by omega) (R5a ⟨n,rfl,by omega,rfl,by simp⟩)
 |succ f ih=>
  intro n out hn hf hl;have hp:=J8 (f+1+1-1) (by omega);refine Tot.succ ?_;simp only[Di];refine Rca (λ h=>?_) (λ h=>?_)
  ·have hn2:n/128<128 ^ (f+1):=by rw[Zi]at hn;omega
   have hn3:n<4398046511104:=by
    have:=J8 (f+1) (by omega);rw[Zi]at hn;omega
   have e1:Int.tmod (n:Int) 128+128=((n % 128+128:Nat):Int):=by
    rw[Sga (by omega)];omega
   have e2:Int.tdiv (n:Int) 128=((n/128:Nat):Int):=by
    rw[Sha (by omega)];omega
   rw[e1,e2,w64 (n:=((n % 128+128:Nat):Int)) (by omega) (by omega),w64 (n:=((n/128:Nat):Int)) (by omega) (by omega),Boa _ (by omega)];refine Rda (by simp only[Vg,Vp];omega) ?_;refine(ih (n/128) (out++[((n % 128+128:Nat):Int)]) hn2 (by omega) (by simp only[Vh,Vg,Vp];omega)).mono ?_;rintro r ⟨m,h1,h2,h3,h4⟩;refine⟨m,h1,h2,?_,by simp only[Vh,Vg,Vp]at h4;omega⟩;rw[h3,Vj];congr 1
   conv => { rhs;unfold Tg }
   rw[if_neg (by omega)];rfl
  ·refine R5a ⟨n,rfl,by omega,?_,by show out.length≤out.length+(f+1);omega⟩;unfold Tg;rw[if_pos (by omega)]
def Qa (out:List Int) (n:Int) (hl:out.length≤1000000000000):Tot (λ k=>C6 k out n) (λ r=>r=out++X4 (Dt n)):=by
 unfold C6
 have e:(if (0:Int)<(if (1000000000:Int)<n then 1000000000 else n) then (if (1000000000:Int)<n then 1000000000 else n) else 0)=((Dt n:Nat):Int):=by
  unfold Dt
  split<;>split<;>omega
 simp only;rw[e];have hc:=Q9 n;refine R6a (D4a 4 (Dt n) out (by omega) (by omega) (by omega)) ?_;rintro r ⟨m,h1,h2,h3,h4⟩;rw[h1,Boa m (by omega)];refine Rda (by simp only[Vg,Vp];omega) (R5a h3)
def D5a:∀ (f n:Nat) (out:List Int),n<128 ^ (f+1)→f≤4→out.length+f≤1000000000010→
  Tot (λ k=>B9 k (n:Int) out) (λ r=>∃ m:Nat,r.1=(m:Int)∧m≤127∧r.2++[(m:Int)]=out++Tg f n∧r.2.length≤out.length+f):=by
 intro f
 induction f with
 |zero=>
  intro n out hn hf hl;refine Tot.succ ?_;simp only[B9]
  have:n<128:=by simpa using hn
  exact Raa (by omega) (R5a ⟨n,rfl,by omega,rfl,by simp⟩)
 |succ f ih=>
  intro n out hn hf hl;refine Tot.succ ?_;simp only[B9];refine Rca (λ h=>?_) (λ h=>?_)
  ·have hn2:n/128<128 ^ (f+1):=by rw[Zi]at hn;omega
   have hn3:n<4398046511104:=by
    have:=J8 (f+1) (by omega);rw[Zi]at hn;omega
   have e1:wrap .i64 ((ofInt (IntKind.bits .i64) ((n % 128:Nat):Int) ||| ofInt (IntKind.bits .i64) 128).toNat)=((n % 128+128:Nat):Int):=by
    have:=Bna (n % 128) 1 1 (by omega) (by omega) (by omega);exact this
   have e2:Int.fdiv (n:Int) (2 ^ (min (toNat 7) (IntKind.bits .i64)))=((n/128:Nat):Int):=by
    have:(2:Int) ^ (min (toNat 7) (IntKind.bits .i64))=128:=by decide
    rw[this,Sia _ (by omega)];omega
   rw[Kya n (by omega),e1,e2,Boa _ (by omega)];refine Rda (by simp only[Vg,Vp];omega) ?_;refine(ih (n/128) (out++[((n % 128+128:Nat):Int)]) hn2 (by omega) (by simp only[Vh,Vg,Vp];omega)).mono ?_;rintro r ⟨m,h1,h2,h3,h4⟩;refine⟨m,h1,h2,?_,by simp only[Vh,Vg,Vp]at h4;omega⟩;rw[h3,Vj];congr 1
   conv => { rhs;unfold Tg }
   rw[if_neg (by omega)];rfl
  ·refine R5a ⟨n,rfl,by omega,?_,by show out.length≤out.length+(f+1);omega⟩;unfold Tg;rw[if_pos (by omega)]
def Qb (out:List Int) (n:Int) (hl:out.length≤1000000000000):Tot (λ k=>Bg k out n) (λ r=>r=out++X4 (Dt n)):=by
 have hc:=Q9 n
 have fin:Tot (λ k=>(B9 k ((Dt n:Nat):Int) (([]:List Int)++out)).bind λ r1=>cond (Nat.ble ((length r1.2+length [wrap .u8 r1.1])*1) 140737488355328) (some (r1.2++[wrap .u8 r1.1])) none) (λ r=>r=out++X4 (Dt n)):=by
  rw[Wc];refine R6a (D5a 4 (Dt n) out (by omega) (by omega) (by omega)) ?_;rintro r ⟨m,h1,h2,h3,h4⟩;rw[h1,Boa m (by omega)];exact Rda (by simp only[Vg,Vp];omega) (R5a h3)
 unfold Bg;refine Rda (by simp only[Vp];omega) ?_;refine Rca (λ h1=>?_) (λ h1=>?_)
 ·refine Raa (by omega) ?_
  have e:((Dt n:Nat):Int)=1000000000:=by unfold Dt;omega
  rw[e]at fin;exact fin
 ·refine Rca (λ h2=>?_) (λ h2=>?_)
  ·have e:((Dt n:Nat):Int)=0:=by unfold Dt;omega
   rw[e]at fin;exact fin
  ·have e:((Dt n:Nat):Int)=n:=by unfold Dt;omega
   rw[e]at fin;exact fin
def Hf (n:Nat):(X4 n).length≤5∧0<(X4 n).length:=Gma 4 n
def Ri:∀ (f n:Nat),n<128 ^ (f+1)→Az (Tg f n)
 |0,n,hn=>by
  intro x hx;simp only[Tg,Vz]at hx
  have:n<128:=by simpa using hn
  omega
 |f+1,n,hn=>by
  unfold Tg;split
  ·intro x hx;simp only[Vz]at hx;omega
  ·intro x hx;rcases Vk.1 hx with rfl|hx
   ·omega
   ·exact Ri f (n/128) (by rw[Zi]at hn;omega) x hx
def D6a (n:Nat) (hn:n≤1000000000):Az (X4 n):=Ri 4 n (by omega)
def Rj (s:ByteArray):Az (bytesOf s):=by
 intro x hx;unfold bytesOf at hx;obtain⟨b,_,rfl⟩:=Za.1 hx;have:=b.toNat_lt;omega
def Z8 (s:ByteArray):(bytesOf s).length=s.size:=by
 unfold bytesOf;rw[Yk];exact Yi
def T8 (s:ByteArray):H0 (bytesOf s)=s:=by
 unfold H0 bytesOf;rw[Rla]
 have:(λ n:Int=>UInt8.ofNat n.toNat) ∘ (λ b:UInt8=>(b.toNat:Int))=id:=by
  funext b;show UInt8.ofNat ((b.toNat:Int)).toNat=b;rw[Vm];exact UInt8.ofNat_toNat
 rw[this,List.map_id]
def Js {l:List Int} (h:Az l):bytesOf (H0 l)=l:=by
 unfold H0 bytesOf;show List.map _ (List.map _ l)=l;rw[Rla]
 have:∀ x∈l,((λ b:UInt8=>(b.toNat:Int)) ∘ (λ n:Int=>UInt8.ofNat n.toNat)) x=x:=by
  intro x hx;have hb:=h x hx;show ((UInt8.ofNat x.toNat).toNat:Int)=x;rw[UInt8.toNat_ofNat'];omega
 exact(Zn this).trans (List.map_id' l)
def Ib (l:List Int):(H0 l).size=l.length:=by
 unfold H0;show (List.map _ l).toArray.size=l.length;simp
def txt (s:ByteArray):List Int:=X4 (Dt (s.size:Int))++bytesOf s
def Jla (out:List Int) (s:ByteArray) (hl:out.length≤1000000000000) (hs:s.size≤1000000000000):Tot (λ k=>Ep k out s) (λ r=>r=out++txt s):=by
 unfold Ep txt;refine Rfa (Qa out _ hl) ?_;have:=(Hf (Dt (s.size:Int))).1;refine Rda (by simp only[Vh];omega) (R5a ?_);rw[Vj]
def Jma (out:List Int) (s:ByteArray) (hl:out.length≤1000000000000) (hs:s.size≤1000000000000):Tot (λ k=>Ek k out s) (λ r=>r=out++txt s):=by
 unfold Ek txt;refine Rfa (Qb out _ hl) ?_;have:=(Hf (Dt (s.size:Int))).1;refine Rda (by simp only[Vh];omega) (R5a ?_);rw[Vj]
def Dma (l:List Int) (p:Nat):Option (ByteArray×Nat):=match Jr l p with
 |some (n,q)=>if q+n≤l.length then some (H0 ((l.drop q).take n),q+n) else none
 |none=>none
def Nja (l:List Int) (p:Int):ByteArray×Int×Bool:=if p<0 then ((⟨#[]⟩:ByteArray),0,false) else match Dma l p.toNat with
 |some (s,q)=>(s,(q:Int),true)
 |none=>((⟨#[]⟩:ByteArray),0,false)
def Rk (l:List Int) (hb:Az l) (p:Int):Z7 l p=(0,0,false)∨∃ n q,0≤p∧Jr l p.toNat=some (n,q)∧Z7 l p=((n:Int),(q:Int),true)∧n≤1000000000∧q≤l.length:=by
 unfold Z7
 by_cases h:p<0
 ·rw[if_pos h];exact .inl rfl
 ·rw[if_neg h]
  cases hg:Jr l p.toNat with
  |none=>exact .inl rfl
  |some nq=>
   obtain⟨n,q⟩:=nq;have:=M2 hb hg;exact .inr ⟨n,q,by omega,rfl,rfl,this.2.1,this.2.2.2⟩
def Bpa (l:List Int) (hb:Az l) (hl:l.length≤1000000000000) (p:Int) (hp:p≤1000000000000):Tot (λ k=>Er k l p) (λ r=>r=Nja l p):=by
 unfold Er;refine Rfa (Goa l hb hl p hp) ?_;unfold Nja Dma;rcases Rk l hb p with h|⟨n,q,h0,hg,h,hn,hq⟩
 ·rw[h];refine R8a rfl (R5a ?_);unfold Z7 at h;split
  ·rfl
  ·rename_i h0;rw[if_neg h0]at h
   cases hg:Jr l p.toNat with
   |none=>rfl
   |some nq=>rw[hg]at h;simp at h
 ·rw[h];refine R7a rfl ?_;rw[if_neg (by omega),hg];simp only;rw[w64 (n:=(l.length:Int)-(q:Int)) (by omega) (by omega),w64 (n:=(q:Int)+(n:Int)) (by omega) (by omega)];refine Rca (λ hgt=>?_) (λ hgt=>?_)
  ·rw[if_neg (by omega)];exact R5a rfl
  ·rw[if_pos (by omega)];refine R9a (by omega) (R9a (by omega) (R9a (by omega) (R5a ?_)));rw[show toNat ((q:Int)+(n:Int))=q+n by omega,Vm,S8a,show q+n-q=n by omega];simp only[Vu,true_and,and_true]
   push_cast
   rfl
def T9 (l:List Int) (hb:Az l) (hl:l.length≤1000000000000) (p:Int):Tot (λ k=>Em k l p) (λ r=>r=Nja l p):=by
 unfold Em;refine Rfa (Nv l hb hl p) ?_;unfold Nja Dma;rcases Rk l hb p with h|⟨n,q,h0,hg,h,hn,hq⟩
 ·rw[h];refine R8a rfl (R5a ?_);unfold Z7 at h;split
  ·rfl
  ·rename_i h0;rw[if_neg h0]at h
   cases hg:Jr l p.toNat with
   |none=>rfl
   |some nq=>rw[hg]at h;simp at h
 ·rw[h];refine R7a rfl ?_;rw[if_neg (by omega),hg];simp only;rw[w64 (n:=(l.length:Int)-(q:Int)) (by omega) (by omega),w64 (n:=(q:Int)+(n:Int)) (by omega) (by omega)];refine Rca (λ hgt=>?_) (λ hgt=>?_)
  ·rw[if_neg (by omega)];exact R5a rfl
  ·rw[if_pos (by omega)];refine R9a (by omega) (R9a (by omega) (R9a (by omega) (R5a ?_)));rw[show toNat ((q:Int)+(n:Int))=q+n by omega,Vm,S8a,show q+n-q=n by omega];simp only[Vu,true_and,and_true]
   push_cast
   rfl
def Z9 {l:List Int} {p q:Nat} {s:ByteArray} (hb:Az l) (h:Dma l p=some (s,q)):l.drop p=txt s++l.drop q∧s.size≤1000000000∧p<q∧q≤l.length:=by
 unfold Dma at h;split at h
 ·rename_i n q0 hg;obtain⟨h1,h2,h3,h4⟩:=M2 hb hg;split at h
  ·rename_i hle;simp only[Vc,Vu]at h;obtain⟨rfl,rfl⟩:=h
   have hlen:((l.drop q0).take n).length=n:=by rw[Vl,Vy];omega
   have hbb:Az ((l.drop q0).take n):=λ x hx=>hb x (Zk (Sda hx));refine⟨?_,by rw[Ib,hlen];exact h2,by omega,by omega⟩;unfold txt;rw[Ib,hlen,Js hbb,h1,show Dt (n:Int)=n by unfold Dt;omega,Vj];congr 1;rw[← Wp,Wo]
  ·cases h
 ·cases h

def Gpa (b:Bool):Int:=bif b then 1 else 0
def Mma (b:Bool):Hv b=some (Gpa b):=by cases b<;>rfl
def Jna (b:Bool):Ft b=some (Gpa b):=by cases b<;>rfl
def Hsa (s:Stp):List Int:=X4 (Dt s.1)++(X4 (Dt s.2.1)++X4 (Dt s.2.2))
def Bqa (s:Stp):(Hsa s).length≤15:=by
 unfold Hsa;have h1:=(Hf (Dt s.1)).1;have h2:=(Hf (Dt s.2.1)).1;have h3:=(Hf (Dt s.2.2)).1;simp only[Vh];omega
def D7a (out:List Int) (s:Stp) (b:Bool) (hl:out.length≤999999999900):Tot (λ k=>E8 k out s b) (λ r=>r=out++(Hsa s++X4 (Dt (Gpa b)))):=by
 have h1:=(Hf (Dt s.1)).1;have h2:=(Hf (Dt s.2.1)).1;have h3:=(Hf (Dt s.2.2)).1;unfold E8 Hsa;refine Rfa (Qa out s.1 (by omega)) ?_;refine Rfa (Qa _ s.2.1 (by simp only[Vh];omega)) ?_;refine Rfa (Qa _ s.2.2 (by simp only[Vh];omega)) ?_;refine Rfa (Rga (Q:=λ y=>y=Gpa b) (Mma b) rfl) ?_;refine Rfa (Qa _ (Gpa b) (by simp only[Vh];omega)) ?_;exact R5a (by simp only[Vj])
def D8a (out:List Int) (s:Stp) (hl:out.length≤999999999900):Tot (λ k=>El k out s) (λ r=>r=out++Hsa s):=by
 have h1:=(Hf (Dt s.1)).1;have h2:=(Hf (Dt s.2.1)).1;unfold El Hsa;refine Rfa (Qb out s.1 (by omega)) ?_;refine Rfa (Qb _ s.2.1 (by simp only[Vh];omega)) ?_;refine Rfa (Qb _ s.2.2 (by simp only[Vh];omega)) ?_;exact R5a (by simp only[Vj])
def Jt {s:ByteArray} (h:C1 s=true):1≤s.size∧s.size≤20:=by
 unfold C1 at h;rw[Va,Z1]at h;omega
def D9a {r:Row} (h:I2 r=true):C1 r.1=true:=by
 unfold I2 at h;rw[Va]at h;exact h.1
def Mna (s:ByteArray):(txt s).length≤5+s.size:=by
 have h1:=(Hf (Dt (s.size:Int))).1;unfold txt;simp only[Vh,Z8];omega

end Go.Proofs.YtbbifgjgneefkaaGreat.Vf
