import Derived.Test.YtcpligincipmhaaGreatMai
import Derived.Test.YtcpligincipmhaaGreatMab
import Derived.Test.YtcpligincipmhaaGreatProg
import Derived.KernelRfl
import Derived.IntWalk
import Derived.Laws.StructEq
set_option linter.all false
namespace Go.Proofs.YtcpligincipmhaaGreat.Vf
open Go
open List (length getD)
open Int (toNat)
open Go.IntKind (wrap)
open BitVec (ofInt)
def Vj:=@Int.toNat_natCast
def Yn:=@List.pairwise_iff_getElem
def Za:=@List.drop_of_length_le
def Ze:=@List.mem_or_eq_of_mem_set
def Chb:=@Int.tmod_eq_emod_of_nonneg
def D4b:=@Option.some.inj
def D8b:=@List.getElem_take
def Deb:=@List.getElem_of_mem
def Dvb:=@Bool.and_eq_false_iff
def Dwb:=@Sum.elim_inr
def Dxb:=@List.Pairwise.sublist
def E9b:=@ByteArray.toList_eq
def Egb:=@BitVec.toNat_ofInt
def Emb:=@List.take_sublist
def Esb:=@List.getElem_set

section
open Go.RowKit
attribute [local irreducible] C H
def lk {α:Type}:List (Nat×α)→Nat→Option α
 |[],_=>none
 |(i,a)::l,n=>bif Nat.beq n i then some a else lk l n
structure LF where
 ins:B0a
 alts:List (Ex×B0a)
 f:Nat→ins.den→Option (Psa alts)
@[reducible] def LF.at (p:LF) (k:Nat):Lp:=⟨p.ins,p.alts,p.f k⟩
structure Fd where
 nt:Nat
 nv:Nat
 nm:List Nat
 res:List Nat
 cs:Nat→List (FuncId×Ent):=λ _=>[]
 ls:List (Nat×LF):=[]
 hint:List (Nat×Ty):=[]
 mv:List Nat:=[]
 gh:List (Nat×List Gh):=[]
 opn:List Nat:=[]
 sh:Bool:=false
 rf:Bool:=false
def Fd.n (D:Fd) (ti:TypeId→Option TI) (eqs:TypeId→Bool) (k:Nat):En:=
 ⟨D.nt,ti,eqs,D.nm.contains,D.res.contains,lk (D.cs k),λ l=>match lk D.ls l with|some p=>some (p.at k)|none=>none,D.nv,lk D.hint,D.mv.contains,λ n=>(lk D.gh n).getD [],D.opn.contains,λ _=>D.sh,D.rf⟩
def Toa {α:Type}:∀ {l:List (Nat×α)} {n:Nat} {a:α},lk l n=some a→n∈l.map Prod.fst
 |[],_,_,h=>by cases h
 |(i,b)::l,n,a,h=>by
  unfold lk at h;cases hb:Nat.beq n i
  case true=>rw[Vg hb];simp
  rw[hb,cond_false]at h;exact Vd _ (Toa h)
def W7a (P:Program):List (FuncId×Ent)→Prop
 |[]=>True
 |c::l=>Ly P c.1 c.2∧W7a P l
def Mya {P:Program}:∀ {l:List (FuncId×Ent)} {f:FuncId} {en:Ent},W7a P l→lk l f=some en→Ly P f en
 |[],_,_,_,h=>by cases h
 |(i,a)::l,f,en,hc,h=>by
  unfold lk at h
  cases hb:Nat.beq f i with
  |true=>
   rw[hb,cond_true]at h;cases h;rw[Vg hb];exact hc.1
  |false=>rw[hb,cond_false]at h;exact Mya hc.2 h
@[reducible] def bo (fn:Func):Code:=fn.body.getD .skip
structure U2 (P:Program) (ti:TypeId→Option TI) (eqs:TypeId→Bool):Prop where
 tok:∀ T t,ti T=some t→TOk P T t
 eq:∀ T,eqs T=true→eqB P ti 9 T=true∧(match ti T with|some t=>t.ag|none=>false)=true∧P.eqGuardType P.depth T=false
 mix:P.follows .mixedOrders=true
def LK (P:Program) (fn:Func) (D:Fd) (l:Nat) (p:LF):Prop:=∀ X:Cx,X.P=P→X.nt=fn.ntmps→X.np=D.nv→∀ k,C2a X (p.at k) (Ht l (bo fn))
def W8a (P:Program) (fn:Func) (D:Fd):List Nat→Prop
 |[]=>True
 |l::r=>(match lk D.ls l with|some p=>LK P fn D l p|none=>True)∧W8a P fn D r
def Mza {P:Program} {fn:Func} {D:Fd} {l:Nat} {p:LF} (hp:lk D.ls l=some p):∀ {r:List Nat},W8a P fn D r→l∈r→LK P fn D l p
 |[],_,h=>by cases h
 |i::r,ha,h=>by
  rcases Vl.1 h with rfl|h
  ·have:=ha.1;rw[hp]at this;exact this
  ·exact Mza hp ha.2 h
section
variable {P:Program} {ti:TypeId→Option TI} {eqs:TypeId→Bool} {fn:Func}
def Aqb (hS:U2 P ti eqs) {D:Fd} {k:Nat} (hn:Nat.beq D.nt fn.ntmps=true) (hc:W7a P (D.cs k)) {X:Cx} (hP:X.P=P) (hx:X.nt=fn.ntmps) (hp:X.np=D.nv):Tn X (D.n ti eqs k):=
 Yya hP ((Vg hn).trans hx.symm) hp.symm rfl rfl hS.tok hS.eq (λ _ _ h=>Mya hc h)
def Yza (hS:U2 P ti eqs) {D:Fd} {k:Nat} (hn:Nat.beq D.nt fn.ntmps=true) (hc:W7a P (D.cs k)) {X:Cx} (hP:X.P=P) (hx:X.nt=fn.ntmps) (hp:X.np=D.nv):C3a X (D.n ti eqs k):=
 W5a (Aqb hS hn hc hP hx hp) (by rw[hP];exact hS.mix)
def Tpa {D:Fd} {k:Nat} {c:Code} {ids:List Nat} (h:(Il c,ids.map λ l=>first (Ht l (bo fn)))=(ids.map λ l=>Ht l (bo fn),ids)) (hi:W8a P fn D ids) {X:Cx} (hP:X.P=P) (hx:X.nt=fn.ntmps) (hp:X.np=D.nv):Kr X (D.n ti eqs k) c:=by
 rw[Vy]at h;refine R8a (b:=bo fn) ids h.1 h.2 λ l hl L hL=>?_;have hL':(match lk D.ls l with|some p=>some (p.at k)|none=>none)=some L:=hL
 cases hp':lk D.ls l with
 |none=>rw[hp']at hL';cases hL'
 |some p=>
  rw[hp']at hL';cases hL';exact Mza hp' hi hl X hP hx hp k
@[reducible] def Bdb (ti:TypeId→Option TI) (eqs:TypeId→Bool) (fn:Func) (D:Fd) (l:Nat) (p:LF):Prop:=∀ k x,Kqa (D.n ti eqs k) (p.at k) (Ht l (bo fn)) x=p.f (k+1) x
def mkL (hS:U2 P ti eqs) {D:Fd} {l:Nat} {p:LF} (ids:List Nat) (hn:Nat.beq D.nt fn.ntmps=true) (hc:∀ k,W7a P (D.cs k)) (hi:W8a P fn D ids) (h:(Il (Ht l (bo fn)),ids.map λ l=>first (Ht l (bo fn)))=(ids.map λ l=>Ht l (bo fn),ids)) (h0:∀ x,p.f 0 x=none) (hs:Bdb ti eqs fn D l p):LK P fn D l p:=
 λ X hP hx hp=>Vra (ins:=p.ins) (alts:=p.alts) (f:=p.f) (En':=D.n ti eqs) h0 hs (λ k=>Aqb hS hn (hc k) hP hx hp) (λ k=>Yza hS hn (hc k) hP hx hp) (λ k=>Tpa h hi hP hx hp)
def Arb (fn:Func) (D:Fd) (en:Ent):Bool:=Nat.beq D.nt fn.ntmps&&(Nat.ble fn.ntmps 1000&&(Nat.ble en.nv fn.ntmps&&(Nat.beq en.nv D.nv&&(fn.body.isSome&&(!(fn.name == "runtime.NumGoroutine")&&Eqa en)))))
def mkS (hS:U2 P ti eqs) {f:FuncId} {D:Fd} {k:Nat} {en:Ent} (ids:List Nat) (hf:P.funcs[f]? = some fn) (hc:W7a P (D.cs k)) (hi:W8a P fn D ids) (hk:Arb fn D en=true) (h:(Il (bo fn),ids.map λ l=>first (Ht l (bo fn)))=(ids.map λ l=>Ht l (bo fn),ids))
  (hr:∀ x,Kra (D.n ti eqs k) (bo fn) fn.results.toList en x=en.run x):Ly P f en:=by
 unfold Arb at hk;simp only[Va,Vz]at hk;obtain⟨h1,h2,h3,h4,h5,h6,h7⟩:=hk;have h4:=Vg h4
 have hb:fn.body=some (bo fn):=by
  unfold bo
  cases hb:fn.body with
  |none=>rw[hb]at h5;cases h5
  |some c=>rfl
 refine⟨⟨fn,hf,h6,by rw[hb];rfl⟩,J8a hf hb (Vk h2) (Vk h3) (λ X hP hx hp=>?_) (λ X hP hx hp=>?_) (λ X hP hx hp=>?_) h7 hr⟩
 ·exact Aqb hS h1 hc hP hx (hp.trans h4)
 ·exact Yza hS h1 hc hP hx (hp.trans h4)
 ·exact Tpa h hi hP hx (hp.trans h4)
def Asb {keys Xra:List Nat} (hk:∀ {T t},ti T=some t→T∈keys) (h1:(keys.all λ T=>(match ti T with|some t=>Alb P T t|none=>true)&&Q7 P ti T)=true)
  (h2:(Xra.all λ T=>eqB P ti 9 T&&(match ti T with|some t=>t.ag|none=>false)&&!(P.eqGuardType P.depth T))=true) (he:eqs=λ T=>Xra.contains T) (hm:P.follows .mixedOrders=true):U2 P ti eqs∧∀ T,Q7 P ti T=true:=by
 refine⟨⟨λ T t h=>?_,λ T h=>?_,hm⟩,λ T=>?_⟩
 ·have h3:=Yd.1 h1 T (hk h);rw[Va,h]at h3;exact Y5a _ _ _ h3.1
 ·rw[he]at h;have h3:=Yd.1 h2 T (List.elem_iff.1 h);simp only[Va,Vz]at h3;exact⟨h3.1.1,h3.1.2,h3.2⟩
 ·cases h:ti T with
  |none=>unfold Q7;rw[h]
  |some t=>
   have h3:=Yd.1 h1 T (hk h);rw[Va]at h3;exact h3.2
end
end

section
open Go.Proofs
@[reducible] def t0:Ty := .sl 9 .s
@[reducible] def t1:Ty := .ow 9 .s
@[reducible] def t2:Ty := .sl 5 (.i .u8)
@[reducible] def t3:Ty := .ow 5 (.i .u8)
@[reducible] def t4:Ty := .sl 3 (.i .i64)
@[reducible] def t5:Ty := .ow 3 (.i .i64)
@[reducible] def t6:Ty := .pr .s (.i .u64)
@[reducible] def t7:Ty := .pr (.i .i64) (.i .i64)
@[reducible] def t8:Ty := .sl 97 t4
@[reducible] def t9:Ty := .pr .s t2
@[reducible] def t10:Ty := .sl 139 t9
@[reducible] def t11:Ty := .ow 139 t9
@[reducible] def t12:Ty := .pr (.i .i64) t7
@[reducible] def t13:Ty := .pr (.i .i64) t8
@[reducible] def t14:Ty := .pr (.i .i64) (.ow 97 t5)
@[reducible] def t15:Ty := .pr (.i .i64) (.ow 97 t4)
@[reducible] def t16:Ty := .pr t2 (.pr (.i .i64) .b)
@[reducible] def t17:Ty := .pr t2 t7
@[reducible] def t18:Ty := .sl 88 t12
@[reducible] def t19:Ty := .ow 88 t12
@[reducible] def t20:Ty := .pr (.i .i64) (.pr (.i .i64) (.pr .b (.i .u8)))
@[reducible] def t21:Ty := .pr t12 (.pr .b t2)
@[reducible] def t22:Ty := .pr .s (.pr t12 (.pr .b (.i .i64)))
@[reducible] def t23:Ty := .pr t10 t10
@[reducible] def t24:Ty := .pr t11 t11
@[reducible] def t25:Ty := .sl 134 t22
@[reducible] def t26:Ty := .ow 134 t22
@[reducible] def t27:Ty := .pr .s (.pr t21 .b)
@[reducible] def t28:Ty := .pr (.i .i64) (.pr (.i .i64) (.pr .s (.pr t2 (.pr (.i .i64) t4))))
@[reducible] def t29:Ty := .sl 119 t27
@[reducible] def t30:Ty := .ow 119 t27
@[reducible] def t31:Ty := .pr t26 t26
@[reducible] def t32:Ty := .pr (.i .i64) (.pr t23 (.pr t25 t25))
@[reducible] def t33:Ty := .pr (.i .i64) (.pr t24 t31)
@[reducible] def t34:Ty := .pr (.i .i64) (.pr t23 t31)
@[reducible] def t35:Ty := .sl 56 t32
@[reducible] def t36:Ty := .ow 56 t32
@[reducible] def t37:Ty := .pr t36 (.pr t12 (.pr t30 t1))
@[reducible] def t38:Ty := .pr t18 (.pr t13 (.pr t35 (.pr t12 (.pr t29 t0))))
@[reducible] def t39:Ty := .pr t19 (.pr t13 t37)
@[reducible] def t40:Ty := .pr t19 (.pr t15 t37)
@[reducible] def t41:Ty := .pr t19 (.pr t13 (.pr t36 (.pr t12 (.pr t30 t0))))
def tiL:List (Nat×TI):=[(2,⟨(.i .i64),false,8,[]⟩),
 (3,⟨(.i .i64),false,8,[]⟩),
 (4,⟨.b,false,1,[]⟩),
 (5,⟨(.i .u8),false,1,[]⟩),
 (6,⟨(.i .u8),false,1,[]⟩),
 (7,⟨t20,true,24,[(0,1,false),(1,1,false),(2,1,false),(3,1,false)]⟩),
 (8,⟨t20,true,24,[(0,1,false),(1,1,false),(2,1,false),(3,1,false)]⟩),
 (9,⟨.s,false,16,[]⟩),
 (10,⟨.s,false,16,[]⟩),
 (11,⟨.s,false,16,[]⟩),
 (12,⟨(.i .u64),false,8,[]⟩),
 (13,⟨t6,true,24,[(0,1,false),(1,1,false)]⟩),
 (14,⟨t6,true,24,[(0,1,false),(1,1,false)]⟩),
 (21,⟨(.i .i32),false,4,[]⟩),
 (22,⟨t2,false,24,[]⟩),
 (24,⟨t18,false,24,[]⟩),
 (25,⟨t8,false,24,[]⟩),
 (26,⟨t13,true,32,[(0,1,false),(1,1,false)]⟩),
 (27,⟨t13,true,32,[(0,1,false),(1,1,false)]⟩),
 (28,⟨t35,false,24,[]⟩),
 (29,⟨t12,true,24,[(0,1,false),(1,1,false),(2,1,false)]⟩),
 (30,⟨t12,true,24,[(0,1,false),(1,1,false),(2,1,false)]⟩),
 (31,⟨t29,false,24,[]⟩),
 (32,⟨t0,false,24,[]⟩),
 (33,⟨t38,true,152,[(0,1,false),(1,2,true),(3,1,false),(4,3,true),(7,1,false),(8,1,false)]⟩),
 (34,⟨t38,true,152,[(0,1,false),(1,2,true),(3,1,false),(4,3,true),(7,1,false),(8,1,false)]⟩),
 (35,⟨t4,false,24,[]⟩),
 (40,⟨t21,true,56,[(0,3,true),(3,1,false),(4,1,false)]⟩),
 (41,⟨t21,true,56,[(0,3,true),(3,1,false),(4,1,false)]⟩),
 (51,⟨t10,false,24,[]⟩),
 (52,⟨t23,true,48,[(0,1,false),(1,1,false)]⟩),
 (53,⟨t23,true,48,[(0,1,false),(1,1,false)]⟩),
 (54,⟨t25,false,24,[]⟩),
 (55,⟨t32,true,104,[(0,1,false),(1,2,true),(3,1,false),(4,1,false)]⟩),
 (56,⟨t32,true,104,[(0,1,false),(1,2,true),(3,1,false),(4,1,false)]⟩),
 (66,⟨t28,true,88,[(0,1,false),(1,1,false),(2,1,false),(3,1,false),(4,1,false),(5,1,false)]⟩),
 (67,⟨t28,true,88,[(0,1,false),(1,1,false),(2,1,false),(3,1,false),(4,1,false),(5,1,false)]⟩),
 (87,⟨t12,true,24,[(0,1,false),(1,1,false),(2,1,false)]⟩),
 (88,⟨t12,true,24,[(0,1,false),(1,1,false),(2,1,false)]⟩),
 (96,⟨t4,true,24,[(0,1,false)]⟩),
 (97,⟨t4,true,24,[(0,1,false)]⟩),
 (110,⟨t17,true,40,[(0,1,false),(1,1,false),(2,1,false)]⟩),
 (111,⟨t17,true,40,[(0,1,false),(1,1,false),(2,1,false)]⟩),
 (118,⟨t27,true,80,[(0,1,false),(1,5,true),(6,1,false)]⟩),
 (119,⟨t27,true,80,[(0,1,false),(1,5,true),(6,1,false)]⟩),
 (133,⟨t22,true,56,[(0,1,false),(1,3,true),(4,1,false),(5,1,false)]⟩),
 (134,⟨t22,true,56,[(0,1,false),(1,3,true),(4,1,false),(5,1,false)]⟩),
 (138,⟨t9,true,40,[(0,1,false),(1,1,false)]⟩),
 (139,⟨t9,true,40,[(0,1,false),(1,1,false)]⟩),
 (146,⟨t16,true,40,[(0,1,false),(1,1,false),(2,1,false)]⟩),
 (147,⟨t16,true,40,[(0,1,false),(1,1,false),(2,1,false)]⟩),
 (186,⟨(.i .u32),false,4,[]⟩),
 (191,⟨(.i .u64),false,8,[]⟩),
 (198,⟨(.sl 4 .b),false,24,[]⟩),
 (238,⟨(.i .u8),false,1,[]⟩),
 (239,⟨(.i .u8),false,1,[]⟩),
 (242,⟨(.i .i32),false,4,[]⟩),
 (243,⟨(.i .i32),false,4,[]⟩)]
def ti:TypeId→Option TI:=lk tiL
def Xra:List Nat:=[29,30,87,88,133,134]
def eqs:TypeId→Bool:=λ T=>Xra.contains T
def sK:U2 Tryz.prog ti eqs∧∀ T,Q7 Tryz.prog ti T=true:=Asb (P:=Tryz.prog) (ti:=ti) (eqs:=eqs) (keys:=tiL.map Prod.fst) (Xra:=Xra) Toa (by kernel_rfl) (by kernel_rfl) rfl (by kernel_rfl)
def sO:U2 Tryz.prog ti eqs:=sK.1
def Blb:∀ T t,ti T=some t→TOk Tryz.prog T t:=sO.tok
def Bmb:∀ T,Q7 Tryz.prog ti T=true:=sK.2
abbrev CK:=Ly Tryz.prog
abbrev LL:=LK Tryz.prog
abbrev AC:=W7a Tryz.prog
def mS {f:FuncId} {fn:Func} (D:Fd) (k:Nat) {en:Ent} (ids:List Nat) (hf:Tryz.prog.funcs[f]? = some fn) (hc:AC (D.cs k)) (hi:W8a Tryz.prog fn D ids) (h:(Arb fn D en,Il (bo fn),ids.map λ l=>first (Ht l (bo fn)))=(true,ids.map λ l=>Ht l (bo fn),ids):=by kernel_rfl) (hr:∀ x,Kra (D.n ti eqs k) (bo fn) fn.results.toList en x=en.run x:=by intro x;kernel_rfl):CK f en:=mkS sO ids hf hc hi (congrArg Prod.fst h) (congrArg Prod.snd h) hr
def mL {fn:Func} {D:Fd} {l:Nat} {p:LF} (ids:List Nat) (hc:∀ k,AC (D.cs k)) (hi:W8a Tryz.prog fn D ids) (h:(Nat.beq D.nt fn.ntmps,Il (Ht l (bo fn)),ids.map λ l=>first (Ht l (bo fn)))=(true,ids.map λ l=>Ht l (bo fn),ids):=by kernel_rfl) (h0:∀ x,p.f 0 x=none:=by intro _;rfl) (hs:Bdb ti eqs fn D l p:=by intro k x;kernel_rfl):LL fn D l p:=mkL sO ids (congrArg Prod.fst h) hc hi (congrArg Prod.snd h) h0 hs
def Jq.e (k:Nat):Ent:=⟨1,[(.val false t2)],[(.one,.b)],λ x=>Jq x⟩
def Jq.d:Fd := { nt:=6,nv:=1,nm:=[0,1],res:=[2] }
def Jq.s (k:Nat):CK 7 (Jq.e k):=mS Jq.d k [] Tryz.func7 trivial trivial
def H2.e (k:Nat):Ent:=⟨1,[(.val false t2)],[(.ptr,t17)],λ x=>H2 k x⟩
def Fb.p:LF:=⟨⟨[],[(0,t2),(3,(.i .i64)),(4,(.i .i64))]⟩,[((.exit 0),⟨[],[(0,t2),(3,(.i .i64))]⟩)],λ k x=>Fb k x.1 x.2.1 x.2.2⟩
def H2.d:Fd := { nt:=32,nv:=1,nm:=[0,1,3,4],res:=[2],ls:=[(3,Fb.p)] }
def Fb.s:LL Tryz.f30 H2.d 3 Fb.p:=mL [] (λ _=>trivial) trivial
def H2.s (k:Nat):CK 30 (H2.e k):=mS H2.d k [3] Tryz.func30 trivial ⟨Fb.s,trivial⟩
def Fc.e (k:Nat):Ent:=⟨1,[(.ptr t17 t17)],[(.one,(.i .i64))],λ x=>Fc x⟩
def Fc.d:Fd := { nt:=58,nv:=1,nm:=[0,1,3],res:=[2] }
def Fc.s (k:Nat):CK 141 (Fc.e k):=mS Fc.d k [] Tryz.func141 trivial trivial
def C0.e (k:Nat):Ent:=⟨2,[(.ptr t17 t17),(.val false (.i .i64))],[(.one,(.i .i64))],λ x=>C0 x.1 x.2⟩
def C0.d:Fd := { nt:=31,nv:=2,nm:=[0,1,2,3,5,6,7],res:=[4],cs:=λ k=>[(141,Fc.e k)] }
def C0.s (k:Nat):CK 78 (C0.e k):=mS C0.d k [] Tryz.func78 ⟨Fc.s k,trivial⟩ trivial
def Dl.e (k:Nat):Ent:=⟨2,[(.ptr t17 t17),(.val false t4)],[(.one,(.i .i64))],λ x=>Dl x.1 x.2⟩
def Dl.d:Fd := { nt:=12,nv:=2,nm:=[0,1,2,3],res:=[4],cs:=λ k=>[(78,C0.e k)] }
def Dl.s (k:Nat):CK 34 (Dl.e k):=mS Dl.d k [] Tryz.func34 ⟨C0.s k,trivial⟩ trivial
def Eb.e (k:Nat):Ent:=⟨1,[(.ptr t17 t17)],[(.one,t19)],λ x=>Eb k x⟩
def Ei.p:LF:=⟨⟨[(0,(.bp 0 0 0)),(1999,(.hd 3))],[(3,t19),(4,(.i .i64)),(5,(.i .i64)),(6,(.i .i64)),(1000,t17)]⟩,[((.exit 0),⟨[(1999,(.hd 3))],[(3,t19),(1000,t17)]⟩)],λ k x=>Ei k x.1 x.2.1 x.2.2.1 x.2.2.2.1 x.2.2.2.2⟩
def Eb.d:Fd := { nt:=35,nv:=1,nm:=[0,1,3,4,5,6],res:=[2],cs:=λ k=>[(34,Dl.e k),(78,C0.e k)],ls:=[(5,Ei.p)],rf:=true }
def Eb.a (k:Nat):AC (Eb.d.cs k):=⟨Dl.s k,C0.s k,trivial⟩
def Ei.s:LL Tryz.f65 Eb.d 5 Ei.p:=mL [] Eb.a trivial
def Eb.s (k:Nat):CK 65 (Eb.e k):=mS Eb.d k [5] Tryz.func65 (Eb.a k) ⟨Ei.s,trivial⟩
def Hg.e (k:Nat):Ent:=⟨1,[(.ptr t17 t17)],[(.one,t18)],λ x=>Hg k x⟩
def Hg.d:Fd := { nt:=45,nv:=1,nm:=[0,1,3,4],res:=[2],cs:=λ k=>[(34,Dl.e k),(65,Eb.e k),(78,C0.e k)],rf:=true }
def Hg.s (k:Nat):CK 110 (Hg.e k):=mS Hg.d k [] Tryz.func110 ⟨Dl.s k,Eb.s k,C0.s k,trivial⟩ trivial
def Fa.e (k:Nat):Ent:=⟨1,[(.val false t2)],[(.one,t18),(.one,(.i .i64)),(.one,(.i .i64))],λ x=>Fa k x⟩
def Fa.d:Fd := { nt:=16,nv:=1,nm:=[0,1,5],res:=[2,3,4],cs:=λ k=>[(30,H2.e k),(34,Dl.e k),(110,Hg.e k)],rf:=true }
def Fa.s (k:Nat):CK 50 (Fa.e k):=mS Fa.d k [] Tryz.func50 ⟨H2.s k,Dl.s k,Hg.s k,trivial⟩ trivial
def Dm.e (k:Nat):Ent:=⟨1,[(.val false t2)],[(.one,t18),(.one,(.i .i64)),(.one,(.i .i64))],λ x=>Dm k x⟩
def Dm.d:Fd := { nt:=10,nv:=1,nm:=[0,1],res:=[2,3,4],cs:=λ k=>[(50,Fa.e k)],rf:=true }
def Dm.s (k:Nat):CK 14 (Dm.e k):=mS Dm.d k [] Tryz.func14 ⟨Fa.s k,trivial⟩ trivial
def C3.e (k:Nat):Ent:=⟨3,[(.val false (.i .i64)),(.val false (.i .i64)),(.val false (.i .i64))],[(.one,.b)],λ x=>C3 x.1 x.2.1 x.2.2⟩
def C3.d:Fd := { nt:=15,nv:=3,nm:=[0,1,2,3,4,5],res:=[6] }
def C3.s (k:Nat):CK 83 (C3.e k):=mS C3.d k [] Tryz.func83 trivial trivial
def C4.e (k:Nat):Ent:=⟨1,[(.val false t18)],[(.one,.b)],λ x=>C4 k x⟩
def E4.p:LF:=⟨⟨[],[(0,t18),(5,t18),(6,(.i .i64)),(7,(.i .i64))]⟩,[(.ret,⟨[],[(2,.b)]⟩),((.exit 0),⟨[],[(0,t18)]⟩)],λ k x=>E4 k x.1 x.2.1 x.2.2.1 x.2.2.2⟩
def C4.d:Fd := { nt:=47,nv:=1,nm:=[0,1,3,4],res:=[2],cs:=λ k=>[(83,C3.e k)],ls:=[(2,E4.p)],rf:=true }
def C4.a (k:Nat):AC (C4.d.cs k):=⟨C3.s k,trivial⟩
def E4.s:LL Tryz.f101 C4.d 2 E4.p:=mL [] C4.a trivial
def C4.s (k:Nat):CK 101 (C4.e k):=mS C4.d k [2] Tryz.func101 (C4.a k) ⟨E4.s,trivial⟩
def Bd.e (k:Nat):Ent:=⟨2,[(.val false t4),(.val false (.i .i64))],[(.one,.b)],λ x=>Bd k x.1 x.2⟩
def Ej.p:LF:=⟨⟨[],[(1,(.i .i64)),(7,t4),(8,(.i .i64)),(9,(.i .i64))]⟩,[(.ret,⟨[],[(4,.b)]⟩),((.exit 0),⟨[],[]⟩)],λ k x=>Ej k x.1 x.2.1 x.2.2.1 x.2.2.2⟩
def Bd.d:Fd := { nt:=17,nv:=2,nm:=[0,1,2,3,5,6],res:=[4],ls:=[(2,Ej.p)],rf:=true }
def Ej.s:LL Tryz.f152 Bd.d 2 Ej.p:=mL [] (λ _=>trivial) trivial
def Bd.s (k:Nat):CK 152 (Bd.e k):=mS Bd.d k [2] Tryz.func152 trivial ⟨Ej.s,trivial⟩
def G0.e (k:Nat):Ent:=⟨2,[(.val false t18),(.val false (.i .i64))],[(.agg,t12),(.one,.b)],λ x=>G0 k x.1 x.2⟩
def Fe.p:LF:=⟨⟨[(4,(.bp 4 0 0)),(5999,(.hd 3))],[(1,(.i .i64)),(8,t18),(9,(.i .i64)),(10,(.i .i64)),(5000,t12)]⟩,[(.ret,⟨[(4,(.bp 4 0 0)),(5999,(.hd 3))],[(5,.b),(5000,t12)]⟩),((.exit 0),⟨[(4,(.bp 4 0 0)),(5999,(.hd 3))],[(5000,t12)]⟩)],λ k x=>Fe k x.1 x.2.1 x.2.2.1 x.2.2.2.1 x.2.2.2.2⟩
def G0.d:Fd := { nt:=21,nv:=2,nm:=[0,1,2,3,6,7],res:=[5],ls:=[(2,Fe.p)],rf:=true }
def Fe.s:LL Tryz.f103 G0.d 2 Fe.p:=mL [] (λ _=>trivial) trivial
def G0.s (k:Nat):CK 103 (G0.e k):=mS G0.d k [2] Tryz.func103 trivial ⟨Fe.s,trivial⟩
def Cc.e (k:Nat):Ent:=⟨2,[(.val false t4),(.val false t18)],[(.one,t5)],λ x=>Cc k x.1 x.2⟩
def Cl.p:LF:=⟨⟨[],[(1,t18),(5,t5),(10,t4),(11,(.i .i64)),(12,(.i .i64))]⟩,[((.exit 0),⟨[],[(5,t5)]⟩)],λ k x=>Cl k x.1 x.2.1 x.2.2.1 x.2.2.2.1 x.2.2.2.2⟩
def Cc.d:Fd := { nt:=37,nv:=2,nm:=[0,1,2,3,5,6,7,8,9],res:=[4],cs:=λ k=>[(103,G0.e k),(152,Bd.e k)],ls:=[(3,Cl.p)],rf:=true }
def Cc.a (k:Nat):AC (Cc.d.cs k):=⟨G0.s k,Bd.s k,trivial⟩
def Cl.s:LL Tryz.f159 Cc.d 3 Cl.p:=mL [] Cc.a trivial
def Cc.s (k:Nat):CK 159 (Cc.e k):=mS Cc.d k [3] Tryz.func159 (Cc.a k) ⟨Cl.s,trivial⟩
def G3.e (k:Nat):Ent:=⟨2,[(.val true t13),(.val false (.i .i64))],[(.one,(.i .i64))],λ x=>G3 k x.1 x.2⟩
def E5.p:LF:=⟨⟨[],[(1,(.i .i64)),(5,(.i .i64)),(11,t8),(12,(.i .i64)),(13,(.i .i64)),(18,t4),(19,(.i .i64)),(20,(.i .i64))]⟩,[((.exit 2),⟨[],[(1,(.i .i64)),(5,(.i .i64)),(11,t8),(12,(.i .i64)),(13,(.i .i64))]⟩)],λ k x=>E5 k x.1 x.2.1 x.2.2.1 x.2.2.2.1 x.2.2.2.2.1 x.2.2.2.2.2.1 x.2.2.2.2.2.2.1 x.2.2.2.2.2.2.2⟩
def Ek.p:LF:=⟨⟨[],[(1,(.i .i64)),(5,(.i .i64)),(11,t8),(12,(.i .i64)),(13,(.i .i64))]⟩,[((.exit 0),⟨[],[(5,(.i .i64))]⟩)],λ k x=>Ek k x.1 x.2.1 x.2.2.1 x.2.2.2.1 x.2.2.2.2⟩
def G3.d:Fd := { nt:=32,nv:=2,nm:=[0,1,2,3,5,6,7,8,9],res:=[4],ls:=[(6,E5.p),(3,Ek.p)],rf:=true }
def E5.s:LL Tryz.f160 G3.d 6 E5.p:=mL [] (λ _=>trivial) trivial
def Ek.s:LL Tryz.f160 G3.d 3 Ek.p:=mL [6] (λ _=>trivial) ⟨E5.s,trivial⟩
def G3.s (k:Nat):CK 160 (G3.e k):=mS G3.d k [3] Tryz.func160 trivial ⟨Ek.s,trivial⟩
def Gl.e (k:Nat):Ent:=⟨3,[(.val true t13),(.val true t4),(.val false t18)],[(.one,(.i .i64))],λ x=>Gl k x.1 x.2.1 x.2.2⟩
def Be.p:LF:=⟨⟨[(3,(.bp 3 0 0)),(4,(.bp 4 0 0)),(8,(.bp 8 0 0)),(4999,(.hd 2)),(5999,(.hd 1)),(9999,(.hd 3))],[(7,t5),(9,(.i .i64)),(10,.b),(23,t18),(24,(.i .i64)),(25,(.i .i64)),(4000,t13),(5000,t4),(9000,t12)]⟩,[((.exit 0),⟨[(8,(.bp 8 0 0)),(9999,(.hd 3))],[(9000,t12)]⟩)],λ k x=>Be k x.1 x.2.1 x.2.2.1 x.2.2.2.1 x.2.2.2.2.1 x.2.2.2.2.2.1 x.2.2.2.2.2.2.1 x.2.2.2.2.2.2.2.1 x.2.2.2.2.2.2.2.2⟩
def Gl.d:Fd := { nt:=76,nv:=3,nm:=[0,1,2,3,4,5,7,8,9,10,11,12,13,14],res:=[6],cs:=λ k=>[(101,C4.e k),(152,Bd.e k),(159,Cc.e k),(160,G3.e k)],ls:=[(6,Be.p)],rf:=true }
def Gl.a (k:Nat):AC (Gl.d.cs k):=⟨C4.s k,Bd.s k,Cc.s k,G3.s k,trivial⟩
def Be.s:LL Tryz.f111 Gl.d 6 Be.p:=mL [] Gl.a trivial
def Gl.s (k:Nat):CK 111 (Gl.e k):=mS Gl.d k [6] Tryz.func111 (Gl.a k) ⟨Be.s,trivial⟩
def Ee.e (k:Nat):Ent:=⟨3,[(.val false t18),(.val false (.i .i64)),(.val false (.i .i64))],[(.agg,t14),(.one,.b)],λ x=>Ee k x.1 x.2.1 x.2.2⟩
def Ff.p:LF:=⟨⟨[(6,(.bp 6 0 0)),(8,(.bp 8 0 0)),(7999,(.hd 2)),(9999,(.hd 2))],[(0,t18),(2,(.i .i64)),(9,(.i .i64)),(34,(.i .i64)),(35,(.i .i64)),(44,(.i .i64)),(45,(.i .i64)),(7000,t15),(9000,t14)]⟩,[((.exit 2),⟨[(6,(.bp 6 0 0)),(8,(.bp 8 0 0)),(7999,(.hd 2)),(9999,(.hd 2))],[(0,t18),(2,(.i .i64)),(34,(.i .i64)),(35,(.i .i64)),(7000,t15),(9000,t14)]⟩)],λ k x=>Ff k x.1 x.2.1 x.2.2.1 x.2.2.2.1 x.2.2.2.2.1 x.2.2.2.2.2.1 x.2.2.2.2.2.2.1 x.2.2.2.2.2.2.2.1 x.2.2.2.2.2.2.2.2⟩
def Fg.p:LF:=⟨⟨[(6,(.bp 6 0 0)),(8,(.bp 8 0 0)),(7999,(.hd 2)),(9999,(.hd 2))],[(0,t18),(2,(.i .i64)),(34,(.i .i64)),(35,(.i .i64)),(7000,t15),(9000,t14)]⟩,[((.exit 0),⟨[(6,(.bp 6 0 0)),(8,(.bp 8 0 0)),(7999,(.hd 2)),(9999,(.hd 2))],[(7000,t15),(9000,t14)]⟩)],λ k x=>Fg k x.1 x.2.1 x.2.2.1 x.2.2.2.1 x.2.2.2.2.1 x.2.2.2.2.2⟩
def Ee.d:Fd := { nt:=70,nv:=3,nm:=[0,1,2,3,4,5,8,9,10,11],res:=[7],cs:=λ k=>[(83,C3.e k),(101,C4.e k),(111,Gl.e k)],ls:=[(9,Ff.p),(5,Fg.p)],hint:=[(41,t5),(42,t5)],mv:=[69],gh:=[(12,[.od 10 3001]),(1000010,[.cl 9001])],rf:=true }
def Ee.a (k:Nat):AC (Ee.d.cs k):=⟨C3.s k,C4.s k,Gl.s k,trivial⟩
def Ff.s:LL Tryz.f51 Ee.d 9 Ff.p:=mL [] Ee.a trivial
def Fg.s:LL Tryz.f51 Ee.d 5 Fg.p:=mL [9] Ee.a ⟨Ff.s,trivial⟩
def Ee.s (k:Nat):CK 51 (Ee.e k):=mS Ee.d k [5] Tryz.func51 (Ee.a k) ⟨Fg.s,trivial⟩
def G6.e (k:Nat):Ent:=⟨1,[(.val false (.i .i64))],[(.agg,t33)],λ x=>G6 x⟩
def G6.d:Fd := { nt:=9,nv:=1,nm:=[0,1],res:=[],cs:=λ k=>[(83,C3.e k)],rf:=true }
def G6.s (k:Nat):CK 52 (G6.e k):=mS G6.d k [] Tryz.func52 ⟨C3.s k,trivial⟩ trivial
def Ch.e (k:Nat):Ent:=⟨3,[(.val false t18),(.val false (.i .i64)),(.val false (.i .i64))],[(.agg,t39)],λ x=>Ch k x.1 x.2.1 x.2.2⟩
def Db.p:LF:=⟨⟨[(6,(.bp 6 0 0)),(9,(.bp 9 0 0)),(7999,(.hd 9)),(10999,(.hd 9))],[(26,t18),(27,(.i .i64)),(28,(.i .i64)),(7000,t40),(10000,t39)]⟩,[((.exit 0),⟨[(6,(.bp 6 0 0)),(9,(.bp 9 0 0)),(7999,(.hd 9)),(10999,(.hd 9))],[(7000,t40),(10000,t39)]⟩)],λ k x=>Db k x.1 x.2.1 x.2.2.1 x.2.2.2.1 x.2.2.2.2⟩
def Ch.d:Fd := { nt:=42,nv:=3,nm:=[0,1,2,3,4,5,7,8,9,10,11],res:=[],cs:=λ k=>[(51,Ee.e k),(52,G6.e k)],ls:=[(6,Db.p)],mv:=[41],rf:=true }
def Ch.a (k:Nat):AC (Ch.d.cs k):=⟨Ee.s k,G6.s k,trivial⟩
def Db.s:LL Tryz.f15 Ch.d 6 Db.p:=mL [] Ch.a trivial
def Ch.s (k:Nat):CK 15 (Ch.e k):=mS Ch.d k [6] Tryz.func15 (Ch.a k) ⟨Db.s,trivial⟩
def El.e (k:Nat):Ent:=⟨3,[(.val false (.i .i64)),(.val false (.i .i64)),(.val false (.i .i64))],[(.one,.b)],λ x=>El x.1 x.2.1 x.2.2⟩
def El.d:Fd := { nt:=15,nv:=3,nm:=[0,1,2,3,4,5],res:=[6] }
def El.s (k:Nat):CK 97 (El.e k):=mS El.d k [] Tryz.func97 trivial trivial
def D9.e (k:Nat):Ent:=⟨1,[(.val false t18)],[(.one,.b)],λ x=>D9 k x⟩
def E6.p:LF:=⟨⟨[],[(0,t18),(3,(.i .i64))]⟩,[(.ret,⟨[],[(2,.b)]⟩),((.exit 0),⟨[],[(0,t18)]⟩)],λ k x=>E6 k x.1 x.2⟩
def D9.d:Fd := { nt:=49,nv:=1,nm:=[0,1,3,4],res:=[2],cs:=λ k=>[(97,El.e k)],ls:=[(2,E6.p)],rf:=true }
def D9.a (k:Nat):AC (D9.d.cs k):=⟨El.s k,trivial⟩
def E6.s:LL Tryz.f112 D9.d 2 E6.p:=mL [] D9.a trivial
def D9.s (k:Nat):CK 112 (D9.e k):=mS D9.d k [2] Tryz.func112 (D9.a k) ⟨E6.s,trivial⟩
def H3.e (k:Nat):Ent:=⟨2,[(.val false t18),(.val false (.i .i64))],[(.agg,t12),(.one,.b)],λ x=>H3 k x.1 x.2⟩
def Fh.p:LF:=⟨⟨[(4,(.bp 4 0 0)),(5999,(.hd 3))],[(0,t18),(1,(.i .i64)),(6,(.i .i64)),(5000,t12)]⟩,[(.ret,⟨[(4,(.bp 4 0 0)),(5999,(.hd 3))],[(5,.b),(5000,t12)]⟩),((.exit 0),⟨[(4,(.bp 4 0 0)),(5999,(.hd 3))],[(5000,t12)]⟩)],λ k x=>Fh k x.1 x.2.1 x.2.2.1 x.2.2.2⟩
def H3.d:Fd := { nt:=25,nv:=2,nm:=[0,1,2,3,6],res:=[5],ls:=[(2,Fh.p)],rf:=true }
def Fh.s:LL Tryz.f146 H3.d 2 Fh.p:=mL [] (λ _=>trivial) trivial
def H3.s (k:Nat):CK 146 (H3.e k):=mS H3.d k [2] Tryz.func146 trivial ⟨Fh.s,trivial⟩
def Ft.e (k:Nat):Ent:=⟨2,[(.val false t4),(.val false (.i .i64))],[(.one,.b)],λ x=>Ft k x.1 x.2⟩
def Fi.p:LF:=⟨⟨[],[(0,t4),(1,(.i .i64)),(5,(.i .i64))]⟩,[(.ret,⟨[],[(4,.b)]⟩),((.exit 0),⟨[],[]⟩)],λ k x=>Fi k x.1 x.2.1 x.2.2⟩
def Ft.d:Fd := { nt:=18,nv:=2,nm:=[0,1,2,3,5],res:=[4],ls:=[(2,Fi.p)],rf:=true }
def Fi.s:LL Tryz.f162 Ft.d 2 Fi.p:=mL [] (λ _=>trivial) trivial
def Ft.s (k:Nat):CK 162 (Ft.e k):=mS Ft.d k [2] Tryz.func162 trivial ⟨Fi.s,trivial⟩
def Dp.e (k:Nat):Ent:=⟨2,[(.val false t4),(.val false t18)],[(.one,t5)],λ x=>Dp k x.1 x.2⟩
def Cm.p:LF:=⟨⟨[],[(0,t4),(1,t18),(5,t5),(6,(.i .i64))]⟩,[((.exit 0),⟨[],[(5,t5)]⟩)],λ k x=>Cm k x.1 x.2.1 x.2.2.1 x.2.2.2⟩
def Dp.d:Fd := { nt:=39,nv:=2,nm:=[0,1,2,3,5,6,7,8],res:=[4],cs:=λ k=>[(146,H3.e k),(162,Ft.e k)],ls:=[(3,Cm.p)],rf:=true }
def Dp.a (k:Nat):AC (Dp.d.cs k):=⟨H3.s k,Ft.s k,trivial⟩
def Cm.s:LL Tryz.f161 Dp.d 3 Cm.p:=mL [] Dp.a trivial
def Dp.s (k:Nat):CK 161 (Dp.e k):=mS Dp.d k [3] Tryz.func161 (Dp.a k) ⟨Cm.s,trivial⟩
def Dr.e (k:Nat):Ent:=⟨2,[(.val true t13),(.val false (.i .i64))],[(.one,(.i .i64))],λ x=>Dr k x.1 x.2⟩
def E7.p:LF:=⟨⟨[(2,(.bp 2 0 0)),(3999,(.hd 2))],[(1,(.i .i64)),(5,(.i .i64)),(6,(.i .i64)),(7,(.i .i64)),(3000,t13)]⟩,[((.exit 2),⟨[(2,(.bp 2 0 0)),(3999,(.hd 2))],[(1,(.i .i64)),(5,(.i .i64)),(6,(.i .i64)),(3000,t13)]⟩)],λ k x=>E7 k x.1 x.2.1 x.2.2.1 x.2.2.2.1 x.2.2.2.2⟩
def Em.p:LF:=⟨⟨[(2,(.bp 2 0 0)),(3999,(.hd 2))],[(1,(.i .i64)),(5,(.i .i64)),(6,(.i .i64)),(3000,t13)]⟩,[((.exit 0),⟨[],[(5,(.i .i64))]⟩)],λ k x=>Em k x.1 x.2.1 x.2.2.1 x.2.2.2⟩
def Dr.d:Fd := { nt:=40,nv:=2,nm:=[0,1,2,3,5,6,7],res:=[4],ls:=[(6,E7.p),(3,Em.p)],rf:=true }
def E7.s:LL Tryz.f163 Dr.d 6 E7.p:=mL [] (λ _=>trivial) trivial
def Em.s:LL Tryz.f163 Dr.d 3 Em.p:=mL [6] (λ _=>trivial) ⟨E7.s,trivial⟩
def Dr.s (k:Nat):CK 163 (Dr.e k):=mS Dr.d k [3] Tryz.func163 trivial ⟨Em.s,trivial⟩
def Gn.e (k:Nat):Ent:=⟨3,[(.val true t13),(.val true t4),(.val false t18)],[(.one,(.i .i64))],λ x=>Gn k x.1 x.2.1 x.2.2⟩
def Bf.p:LF:=⟨⟨[(3,(.bp 3 0 0)),(4,(.bp 4 0 0)),(4999,(.hd 2)),(5999,(.hd 1))],[(2,t18),(7,t5),(8,(.i .i64)),(9,.b),(10,(.i .i64)),(4000,t13),(5000,t4)]⟩,[((.exit 0),⟨[],[(2,t18),(8,(.i .i64))]⟩)],λ k x=>Bf k x.1 x.2.1 x.2.2.1 x.2.2.2.1 x.2.2.2.2.1 x.2.2.2.2.2.1 x.2.2.2.2.2.2⟩
def Gn.d:Fd := { nt:=88,nv:=3,nm:=[0,1,2,3,4,5,7,8,9,10,11,12],res:=[6],cs:=λ k=>[(112,D9.e k),(161,Dp.e k),(162,Ft.e k),(163,Dr.e k)],ls:=[(5,Bf.p)],rf:=true }
def Gn.a (k:Nat):AC (Gn.d.cs k):=⟨D9.s k,Dp.s k,Ft.s k,Dr.s k,trivial⟩
def Bf.s:LL Tryz.f113 Gn.d 5 Bf.p:=mL [] Gn.a trivial
def Gn.s (k:Nat):CK 113 (Gn.e k):=mS Gn.d k [5] Tryz.func113 (Gn.a k) ⟨Bf.s,trivial⟩
def Ef.e (k:Nat):Ent:=⟨3,[(.val false t18),(.val false (.i .i64)),(.val false (.i .i64))],[(.agg,t14),(.one,.b)],λ x=>Ef k x.1 x.2.1 x.2.2⟩
def Fj.p:LF:=⟨⟨[(6,(.bp 6 0 0)),(8,(.bp 8 0 0)),(7999,(.hd 2)),(9999,(.hd 2))],[(0,t18),(1,(.i .i64)),(2,(.i .i64)),(9,(.i .i64)),(10,(.i .i64)),(7000,t15),(9000,t14)]⟩,[((.exit 2),⟨[(6,(.bp 6 0 0)),(8,(.bp 8 0 0)),(7999,(.hd 2)),(9999,(.hd 2))],[(0,t18),(1,(.i .i64)),(2,(.i .i64)),(9,(.i .i64)),(7000,t15),(9000,t14)]⟩)],λ k x=>Fj k x.1 x.2.1 x.2.2.1 x.2.2.2.1 x.2.2.2.2.1 x.2.2.2.2.2.1 x.2.2.2.2.2.2⟩
def Fk.p:LF:=⟨⟨[(6,(.bp 6 0 0)),(8,(.bp 8 0 0)),(7999,(.hd 2)),(9999,(.hd 2))],[(0,t18),(1,(.i .i64)),(2,(.i .i64)),(9,(.i .i64)),(7000,t15),(9000,t14)]⟩,[((.exit 0),⟨[(6,(.bp 6 0 0)),(8,(.bp 8 0 0)),(7999,(.hd 2)),(9999,(.hd 2))],[(7000,t15),(9000,t14)]⟩)],λ k x=>Fk k x.1 x.2.1 x.2.2.1 x.2.2.2.1 x.2.2.2.2.1 x.2.2.2.2.2⟩
def Ef.d:Fd := { nt:=73,nv:=3,nm:=[0,1,2,3,4,5,8,9,10,11],res:=[7],cs:=λ k=>[(97,El.e k),(112,D9.e k),(113,Gn.e k)],ls:=[(9,Fj.p),(5,Fk.p)],hint:=[(42,t5),(43,t5)],mv:=[72],gh:=[(12,[.od 54 3001]),(1000010,[.cl 9001])],rf:=true }
def Ef.a (k:Nat):AC (Ef.d.cs k):=⟨El.s k,D9.s k,Gn.s k,trivial⟩
def Fj.s:LL Tryz.f53 Ef.d 9 Fj.p:=mL [] Ef.a trivial
def Fk.s:LL Tryz.f53 Ef.d 5 Fk.p:=mL [9] Ef.a ⟨Fj.s,trivial⟩
def Ef.s (k:Nat):CK 53 (Ef.e k):=mS Ef.d k [5] Tryz.func53 (Ef.a k) ⟨Fk.s,trivial⟩
def G7.e (k:Nat):Ent:=⟨1,[(.val false (.i .i64))],[(.agg,t33)],λ x=>G7 x⟩
def G7.d:Fd := { nt:=9,nv:=1,nm:=[0,1],res:=[],cs:=λ k=>[(97,El.e k)] }
def G7.s (k:Nat):CK 54 (G7.e k):=mS G7.d k [] Tryz.func54 ⟨El.s k,trivial⟩ trivial
def Bx.e (k:Nat):Ent:=⟨3,[(.val false t18),(.val false (.i .i64)),(.val false (.i .i64))],[(.agg,t39)],λ x=>Bx k x.1 x.2.1 x.2.2⟩
def Dc.p:LF:=⟨⟨[(6,(.bp 6 0 0)),(9,(.bp 9 0 0)),(7999,(.hd 9)),(10999,(.hd 9))],[(0,t18),(10,(.i .i64)),(7000,t40),(10000,t39)]⟩,[((.exit 0),⟨[(6,(.bp 6 0 0)),(9,(.bp 9 0 0)),(7999,(.hd 9)),(10999,(.hd 9))],[(7000,t40),(10000,t39)]⟩)],λ k x=>Dc k x.1 x.2.1 x.2.2.1 x.2.2.2⟩
def Bx.d:Fd := { nt:=44,nv:=3,nm:=[0,1,2,3,4,5,7,8,9,10],res:=[],cs:=λ k=>[(53,Ef.e k),(54,G7.e k)],ls:=[(6,Dc.p)],mv:=[43],rf:=true }
def Bx.a (k:Nat):AC (Bx.d.cs k):=⟨Ef.s k,G7.s k,trivial⟩
def Dc.s:LL Tryz.f16 Bx.d 6 Dc.p:=mL [] Bx.a trivial
def Bx.s (k:Nat):CK 16 (Bx.e k):=mS Bx.d k [6] Tryz.func16 (Bx.a k) ⟨Dc.s,trivial⟩
def Ad.e (k:Nat):Ent:=⟨1,[(.val false .s)],[(.one,.b)],λ x=>Ad k x⟩
def Aj.p:LF:=⟨⟨[],[(0,.s),(3,(.i .i64))]⟩,[(.ret,⟨[],[(2,.b)]⟩),((.exit 0),⟨[],[(0,.s)]⟩)],λ k x=>Aj k x.1 x.2⟩
def Ad.d:Fd := { nt:=45,nv:=1,nm:=[0,1,3,4],res:=[2],cs:=λ k=>[(83,C3.e k)],ls:=[(2,Aj.p)] }
def Ad.a (k:Nat):AC (Ad.d.cs k):=⟨C3.s k,trivial⟩
def Aj.s:LL Tryz.f41 Ad.d 2 Aj.p:=mL [] Ad.a trivial
def Ad.s (k:Nat):CK 41 (Ad.e k):=mS Ad.d k [2] Tryz.func41 (Ad.a k) ⟨Aj.s,trivial⟩
def Fu.e (k:Nat):Ent:=⟨1,[(.val false t4)],[(.one,.b)],λ x=>Fu k x⟩
def Fl.p:LF:=⟨⟨[],[(0,t4),(5,t4),(6,(.i .i64)),(7,(.i .i64))]⟩,[(.ret,⟨[],[(2,.b)]⟩),((.exit 0),⟨[],[]⟩)],λ k x=>Fl k x.1 x.2.1 x.2.2.1 x.2.2.2⟩
def Fu.d:Fd := { nt:=18,nv:=1,nm:=[0,1,3,4],res:=[2],cs:=λ k=>[(152,Bd.e k)],ls:=[(2,Fl.p)],rf:=true }
def Fu.a (k:Nat):AC (Fu.d.cs k):=⟨Bd.s k,trivial⟩
def Fl.s:LL Tryz.f102 Fu.d 2 Fl.p:=mL [] Fu.a trivial
def Fu.s (k:Nat):CK 102 (Fu.e k):=mS Fu.d k [2] Tryz.func102 (Fu.a k) ⟨Fl.s,trivial⟩
def Ds.e (k:Nat):Ent:=⟨2,[(.val true t13),(.val false t18)],[(.one,.b)],λ x=>Ds k x.1 x.2⟩
def Eo.p:LF:=⟨⟨[(2,(.bp 2 0 0)),(3999,(.hd 2))],[(1,t18),(28,t8),(29,(.i .i64)),(30,(.i .i64)),(47,t4),(48,(.i .i64)),(49,(.i .i64)),(3000,t13)]⟩,[(.ret,⟨[],[(4,.b)]⟩),((.exit 2),⟨[(2,(.bp 2 0 0)),(3999,(.hd 2))],[(1,t18),(28,t8),(29,(.i .i64)),(30,(.i .i64)),(3000,t13)]⟩)],λ k x=>Eo k x.1 x.2.1 x.2.2.1 x.2.2.2.1 x.2.2.2.2.1 x.2.2.2.2.2.1 x.2.2.2.2.2.2.1 x.2.2.2.2.2.2.2⟩
def Ep.p:LF:=⟨⟨[(2,(.bp 2 0 0)),(3999,(.hd 2))],[(1,t18),(28,t8),(29,(.i .i64)),(30,(.i .i64)),(3000,t13)]⟩,[(.ret,⟨[],[(4,.b)]⟩),((.exit 0),⟨[],[]⟩)],λ k x=>Ep k x.1 x.2.1 x.2.2.1 x.2.2.2.1 x.2.2.2.2⟩
def Ds.d:Fd := { nt:=63,nv:=2,nm:=[0,1,2,3,5,6,7,8,9,10],res:=[4],cs:=λ k=>[(83,C3.e k),(101,C4.e k),(102,Fu.e k),(103,G0.e k)],ls:=[(9,Eo.p),(4,Ep.p)],rf:=true }
def Ds.a (k:Nat):AC (Ds.d.cs k):=⟨C3.s k,C4.s k,Fu.s k,G0.s k,trivial⟩
def Eo.s:LL Tryz.f45 Ds.d 9 Eo.p:=mL [] Ds.a trivial
def Ep.s:LL Tryz.f45 Ds.d 4 Ep.p:=mL [9] Ds.a ⟨Eo.s,trivial⟩
def Ds.s (k:Nat):CK 45 (Ds.e k):=mS Ds.d k [4] Tryz.func45 (Ds.a k) ⟨Ep.s,trivial⟩
def Br.e (k:Nat):Ent:=⟨1,[(.val true t12)],[(.one,.b)],λ x=>Br x⟩
def Br.d:Fd := { nt:=16,nv:=1,nm:=[0,1],res:=[2],cs:=λ k=>[(83,C3.e k)] }
def Br.s (k:Nat):CK 46 (Br.e k):=mS Br.d k [] Tryz.func46 ⟨C3.s k,trivial⟩ trivial
def Bs.e (k:Nat):Ent:=⟨2,[(.val true t12),(.val true t12)],[(.one,.b)],λ x=>Bs x.1 x.2⟩
def Bs.d:Fd := { nt:=32,nv:=2,nm:=[0,1,2,3],res:=[4] }
def Bs.s (k:Nat):CK 100 (Bs.e k):=mS Bs.d k [] Tryz.func100 trivial trivial
def Cn.e (k:Nat):Ent:=⟨1,[(.val true t21)],[(.one,.b)],λ x=>Cn x⟩
def Cn.d:Fd := { nt:=23,nv:=1,nm:=[0,1],res:=[2],cs:=λ k=>[(46,Br.e k)] }
def Cn.s (k:Nat):CK 104 (Cn.e k):=mS Cn.d k [] Tryz.func104 ⟨Br.s k,trivial⟩ trivial
def Ci.e (k:Nat):Ent:=⟨1,[(.val true t38)],[(.one,.b)],λ x=>Ci k x⟩
def Dd.p:LF:=⟨⟨[(1,(.bp 1 0 0)),(2999,(.hd 9))],[(6,t29),(7,(.i .i64)),(8,(.i .i64)),(2000,t38)]⟩,[(.ret,⟨[],[(2,.b)]⟩),((.exit 0),⟨[(1,(.bp 1 0 0)),(2999,(.hd 9))],[(2000,t38)]⟩)],λ k x=>Dd k x.1 x.2.1 x.2.2.1 x.2.2.2⟩
def Ci.d:Fd := { nt:=35,nv:=1,nm:=[0,1,3,4],res:=[2],cs:=λ k=>[(41,Ad.e k),(100,Bs.e k),(104,Cn.e k)],ls:=[(2,Dd.p)],rf:=true }
def Ci.a (k:Nat):AC (Ci.d.cs k):=⟨Ad.s k,Bs.s k,Cn.s k,trivial⟩
def Dd.s:LL Tryz.f47 Ci.d 2 Dd.p:=mL [] Ci.a trivial
def Ci.s (k:Nat):CK 47 (Ci.e k):=mS Ci.d k [2] Tryz.func47 (Ci.a k) ⟨Dd.s,trivial⟩
def Gg.e (k:Nat):Ent:=⟨1,[(.val true t22)],[(.one,.b)],λ x=>Gg k x⟩
def Gg.d:Fd := { nt:=26,nv:=1,nm:=[0,1],res:=[2],cs:=λ k=>[(41,Ad.e k),(46,Br.e k),(83,C3.e k)] }
def Gg.s (k:Nat):CK 105 (Gg.e k):=mS Gg.d k [] Tryz.func105 ⟨Ad.s k,Br.s k,C3.s k,trivial⟩ trivial
def D5.e (k:Nat):Ent:=⟨1,[(.val false t10)],[(.one,.b)],λ x=>D5 k x⟩
def De.p:LF:=⟨⟨[],[(0,t10),(5,t10),(6,(.i .i64)),(7,(.i .i64))]⟩,[(.ret,⟨[],[(2,.b)]⟩),((.exit 0),⟨[],[(0,t10)]⟩)],λ k x=>De k x.1 x.2.1 x.2.2.1 x.2.2.2⟩
def D5.d:Fd := { nt:=41,nv:=1,nm:=[0,1,3,4],res:=[2],cs:=λ k=>[(41,Ad.e k)],ls:=[(2,De.p)] }
def D5.a (k:Nat):AC (D5.d.cs k):=⟨Ad.s k,trivial⟩
def De.s:LL Tryz.f153 D5.d 2 De.p:=mL [] D5.a trivial
def D5.s (k:Nat):CK 153 (D5.e k):=mS D5.d k [2] Tryz.func153 (D5.a k) ⟨De.s,trivial⟩
def Bg.e (k:Nat):Ent:=⟨1,[(.val true t23)],[(.one,.b)],λ x=>Bg k x⟩
def Bg.d:Fd := { nt:=11,nv:=1,nm:=[0,1],res:=[2],cs:=λ k=>[(153,D5.e k)] }
def Bg.s (k:Nat):CK 106 (Bg.e k):=mS Bg.d k [] Tryz.func106 ⟨D5.s k,trivial⟩ trivial
def Da.e (k:Nat):Ent:=⟨1,[(.val false t25)],[(.one,.b)],λ x=>Da k x⟩
def E8.p:LF:=⟨⟨[],[(0,t25),(5,t25),(6,(.i .i64)),(7,(.i .i64))]⟩,[(.ret,⟨[],[(2,.b)]⟩),((.exit 0),⟨[],[(0,t25)]⟩)],λ k x=>E8 k x.1 x.2.1 x.2.2.1 x.2.2.2⟩
def Da.d:Fd := { nt:=34,nv:=1,nm:=[0,1,3,4],res:=[2],cs:=λ k=>[(105,Gg.e k)],ls:=[(2,E8.p)] }
def Da.a (k:Nat):AC (Da.d.cs k):=⟨Gg.s k,trivial⟩
def E8.s:LL Tryz.f107 Da.d 2 E8.p:=mL [] Da.a trivial
def Da.s (k:Nat):CK 107 (Da.e k):=mS Da.d k [2] Tryz.func107 (Da.a k) ⟨E8.s,trivial⟩
def C5.e (k:Nat):Ent:=⟨1,[(.val true t32)],[(.one,.b)],λ x=>C5 k x⟩
def Er.p:LF:=⟨⟨[(1,(.bp 1 0 0)),(2999,(.hd 5))],[(6,t25),(7,(.i .i64)),(8,(.i .i64)),(2000,(.i .i64)),(2001,t10),(2002,t10),(2003,t25),(2004,t25)]⟩,[(.ret,⟨[],[(2,.b)]⟩),((.exit 0),⟨[(1,(.bp 1 0 0)),(2999,(.hd 5))],[(2000,(.i .i64)),(2001,t10),(2002,t10),(2003,t25),(2004,t25)]⟩)],λ k x=>Er k x.1 x.2.1 x.2.2.1 x.2.2.2.1 x.2.2.2.2.1 x.2.2.2.2.2.1 x.2.2.2.2.2.2.1 x.2.2.2.2.2.2.2⟩
def C5.d:Fd := { nt:=35,nv:=1,nm:=[0,1,3,4],res:=[2],cs:=λ k=>[(83,C3.e k),(105,Gg.e k),(106,Bg.e k),(107,Da.e k)],ls:=[(2,Er.p)] }
def C5.a (k:Nat):AC (C5.d.cs k):=⟨C3.s k,Gg.s k,Bg.s k,Da.s k,trivial⟩
def Er.s:LL Tryz.f48 C5.d 2 Er.p:=mL [] C5.a trivial
def C5.s (k:Nat):CK 48 (C5.e k):=mS C5.d k [2] Tryz.func48 (C5.a k) ⟨Er.s,trivial⟩
def B8.e (k:Nat):Ent:=⟨1,[(.val true t38)],[(.one,.b)],λ x=>B8 k x⟩
def C8.p:LF:=⟨⟨[(1,(.bp 1 0 0)),(2999,(.hd 9))],[(57,t0),(58,(.i .i64)),(59,(.i .i64)),(2000,t38)]⟩,[(.ret,⟨[],[(2,.b)]⟩),((.exit 2),⟨[],[]⟩)],λ k x=>C8 k x.1 x.2.1 x.2.2.1 x.2.2.2⟩
def Df.p:LF:=⟨⟨[(1,(.bp 1 0 0)),(2999,(.hd 9))],[(34,t35),(35,(.i .i64)),(36,(.i .i64)),(2000,t38)]⟩,[(.ret,⟨[],[(2,.b)]⟩),((.exit 0),⟨[(1,(.bp 1 0 0)),(2999,(.hd 9))],[(2000,t38)]⟩)],λ k x=>Df k x.1 x.2.1 x.2.2.1 x.2.2.2⟩
def B8.d:Fd := { nt:=82,nv:=1,nm:=[0,1,3,4,5,6],res:=[2],cs:=λ k=>[(41,Ad.e k),(45,Ds.e k),(46,Br.e k),(47,Ci.e k),(48,C5.e k)],ls:=[(10,C8.p),(4,Df.p)],rf:=true }
def B8.a (k:Nat):AC (B8.d.cs k):=⟨Ad.s k,Ds.s k,Br.s k,Ci.s k,C5.s k,trivial⟩
def C8.s:LL Tryz.f12 B8.d 10 C8.p:=mL [] B8.a trivial
def Df.s:LL Tryz.f12 B8.d 4 Df.p:=mL [] B8.a trivial
def B8.s (k:Nat):CK 12 (B8.e k):=mS B8.d k [4,10] Tryz.func12 (B8.a k) ⟨Df.s,C8.s,trivial⟩
def Du.e (k:Nat):Ent:=⟨1,[(.val false t4)],[(.one,t5)],λ x=>Du x⟩
def Du.d:Fd := { nt:=5,nv:=1,nm:=[0,1],res:=[2],rf:=true }
def Du.s (k:Nat):CK 56 (Du.e k):=mS Du.d k [] Tryz.func56 trivial trivial
def Cj.e (k:Nat):Ent:=⟨1,[(.val true t13)],[(.agg,t15)],λ x=>Cj k x⟩
def Dg.p:LF:=⟨⟨[(2,(.bp 2 0 0)),(3,(.bp 3 0 0)),(3999,(.hd 2)),(4999,(.hd 2))],[(10,t8),(11,(.i .i64)),(12,(.i .i64)),(3000,t15),(4000,t15)]⟩,[((.exit 0),⟨[(2,(.bp 2 0 0)),(3,(.bp 3 0 0)),(3999,(.hd 2)),(4999,(.hd 2))],[(3000,t15),(4000,t15)]⟩)],λ k x=>Dg k x.1 x.2.1 x.2.2.1 x.2.2.2.1 x.2.2.2.2⟩
def Cj.d:Fd := { nt:=27,nv:=1,nm:=[0,1,3,4,5],res:=[],cs:=λ k=>[(56,Du.e k)],ls:=[(3,Dg.p)],mv:=[26],rf:=true }
def Cj.a (k:Nat):AC (Cj.d.cs k):=⟨Du.s k,trivial⟩
def Dg.s:LL Tryz.f80 Cj.d 3 Dg.p:=mL [] Cj.a trivial
def Cj.s (k:Nat):CK 80 (Cj.e k):=mS Cj.d k [3] Tryz.func80 (Cj.a k) ⟨Dg.s,trivial⟩
def Ai.e (k:Nat):Ent:=⟨1,[(.val false t25)],[(.one,t26)],λ x=>Ai x⟩
def Ai.d:Fd := { nt:=5,nv:=1,nm:=[0,1],res:=[2] }
def Ai.s (k:Nat):CK 120 (Ai.e k):=mS Ai.d k [] Tryz.func120 trivial trivial
def Ah.e (k:Nat):Ent:=⟨1,[(.val false t2)],[(.one,t3)],λ x=>Ah x⟩
def Ah.d:Fd := { nt:=5,nv:=1,nm:=[0,1],res:=[2] }
def Ah.s (k:Nat):CK 55 (Ah.e k):=mS Ah.d k [] Tryz.func55 trivial trivial
def Bt.e (k:Nat):Ent:=⟨1,[(.val false t10)],[(.one,t11)],λ x=>Bt k x⟩
def Co.p:LF:=⟨⟨[],[(3,t11),(6,t10),(7,(.i .i64)),(8,(.i .i64))]⟩,[((.exit 0),⟨[],[(3,t11)]⟩)],λ k x=>Co k x.1 x.2.1 x.2.2.1 x.2.2.2⟩
def Bt.d:Fd := { nt:=23,nv:=1,nm:=[0,1,3,4,5],res:=[2],cs:=λ k=>[(55,Ah.e k)],ls:=[(3,Co.p)] }
def Bt.a (k:Nat):AC (Bt.d.cs k):=⟨Ah.s k,trivial⟩
def Co.s:LL Tryz.f189 Bt.d 3 Co.p:=mL [] Bt.a trivial
def Bt.s (k:Nat):CK 189 (Bt.e k):=mS Bt.d k [3] Tryz.func189 (Bt.a k) ⟨Co.s,trivial⟩
def A5.e (k:Nat):Ent:=⟨1,[(.val true t23)],[(.agg,t24)],λ x=>A5 k x⟩
def A5.d:Fd := { nt:=10,nv:=1,nm:=[0,1],res:=[],cs:=λ k=>[(189,Bt.e k)] }
def A5.s (k:Nat):CK 142 (A5.e k):=mS A5.d k [] Tryz.func142 ⟨Bt.s k,trivial⟩ trivial
def Ba.e (k:Nat):Ent:=⟨1,[(.val true t32)],[(.agg,t33)],λ x=>Ba k x⟩
def Ba.d:Fd := { nt:=15,nv:=1,nm:=[0,1],res:=[],cs:=λ k=>[(120,Ai.e k),(142,A5.e k)] }
def Ba.s (k:Nat):CK 81 (Ba.e k):=mS Ba.d k [] Tryz.func81 ⟨Ai.s k,A5.s k,trivial⟩ trivial
def Dv.e (k:Nat):Ent:=⟨1,[(.val true t21)],[(.agg,(.pr t12 (.pr .b t3)))],λ x=>Dv x⟩
def Dv.d:Fd := { nt:=8,nv:=1,nm:=[0,1],res:=[],cs:=λ k=>[(55,Ah.e k)],mv:=[7],rf:=true }
def Dv.s (k:Nat):CK 82 (Dv.e k):=mS Dv.d k [] Tryz.func82 ⟨Ah.s k,trivial⟩ trivial
def Aw.e (k:Nat):Ent:=⟨1,[(.val true t38)],[(.agg,t40)],λ x=>Aw k x⟩
def Cp.p:LF:=⟨⟨[(2,(.bp 2 0 0)),(3,(.bp 3 0 0)),(3999,(.hd 9)),(4999,(.hd 9))],[(36,t29),(37,(.i .i64)),(38,(.i .i64)),(3000,t40),(4000,t40)]⟩,[((.exit 2),⟨[(2,(.bp 2 0 0)),(3,(.bp 3 0 0)),(3999,(.hd 9)),(4999,(.hd 9))],[(3000,t40),(4000,t40)]⟩)],λ k x=>Cp k x.1 x.2.1 x.2.2.1 x.2.2.2.1 x.2.2.2.2⟩
def Cq.p:LF:=⟨⟨[(1,(.bp 1 0 0)),(2,(.bp 2 0 0)),(3,(.bp 3 0 0)),(2999,(.hd 9)),(3999,(.hd 9)),(4999,(.hd 9))],[(21,t35),(22,(.i .i64)),(23,(.i .i64)),(2000,t38),(3000,t40),(4000,t40)]⟩,[((.exit 0),⟨[(1,(.bp 1 0 0)),(2,(.bp 2 0 0)),(3,(.bp 3 0 0)),(2999,(.hd 9)),(3999,(.hd 9)),(4999,(.hd 9))],[(2000,t38),(3000,t40),(4000,t40)]⟩)],λ k x=>Cq k x.1 x.2.1 x.2.2.1 x.2.2.2.1 x.2.2.2.2.1 x.2.2.2.2.2⟩
def Aw.d:Fd := { nt:=54,nv:=1,nm:=[0,1,3,4,5,6,7],res:=[],cs:=λ k=>[(80,Cj.e k),(81,Ba.e k),(82,Dv.e k)],ls:=[(8,Cp.p),(3,Cq.p)],mv:=[53],rf:=true }
def Aw.a (k:Nat):AC (Aw.d.cs k):=⟨Cj.s k,Ba.s k,Dv.s k,trivial⟩
def Cp.s:LL Tryz.f36 Aw.d 8 Cp.p:=mL [] Aw.a trivial
def Cq.s:LL Tryz.f36 Aw.d 3 Cq.p:=mL [] Aw.a trivial
def Aw.s (k:Nat):CK 36 (Aw.e k):=mS Aw.d k [3,8] Tryz.func36 (Aw.a k) ⟨Cq.s,Cp.s,trivial⟩
def C1.e (k:Nat):Ent:=⟨2,[(.val false t4),(.val false (.i .i64))],[(.one,(.i .i64))],λ x=>C1 x.1 x.2⟩
def C1.d:Fd := { nt:=20,nv:=2,nm:=[0,1,2,3],res:=[4],cs:=λ k=>[(83,C3.e k)],rf:=true }
def C1.s (k:Nat):CK 61 (C1.e k):=mS C1.d k [] Tryz.func61 ⟨C3.s k,trivial⟩ trivial
def I3.e (k:Nat):Ent:=⟨1,[(.val false .s)],[(.one,(.i .i64))],λ x=>I3 k x⟩
def G8.p:LF:=⟨⟨[],[(0,.s),(3,(.i .u32)),(4,(.i .i64))]⟩,[((.exit 0),⟨[],[(3,(.i .u32))]⟩)],λ k x=>G8 k x.1 x.2.1 x.2.2⟩
def I3.d:Fd := { nt:=20,nv:=1,nm:=[0,1,3,4],res:=[2],ls:=[(3,G8.p)],rf:=true }
def G8.s:LL Tryz.f114 I3.d 3 G8.p:=mL [] (λ _=>trivial) trivial
def I3.s (k:Nat):CK 114 (I3.e k):=mS I3.d k [3] Tryz.func114 trivial ⟨G8.s,trivial⟩
def H8.e (k:Nat):Ent:=⟨2,[(.val false .s),(.val false (.i .i64))],[(.one,(.i .i64))],λ x=>H8 k x.1 x.2⟩
def H8.d:Fd := { nt:=11,nv:=2,nm:=[0,1,2,3],res:=[4],cs:=λ k=>[(114,I3.e k)],rf:=true }
def H8.s (k:Nat):CK 57 (H8.e k):=mS H8.d k [] Tryz.func57 ⟨I3.s k,trivial⟩ trivial
def Ao.e (k:Nat):Ent:=⟨2,[(.val true t13),(.val false .s)],[(.one,t5)],λ x=>Ao k x.1 x.2⟩
def Ao.d:Fd := { nt:=20,nv:=2,nm:=[0,1,2,3],res:=[4],cs:=λ k=>[(56,Du.e k),(57,H8.e k)],rf:=true }
def Ao.s (k:Nat):CK 18 (Ao.e k):=mS Ao.d k [] Tryz.func18 ⟨Du.s k,H8.s k,trivial⟩ trivial
def Cd.e (k:Nat):Ent:=⟨2,[(.val true t38),(.val false t4)],[(.one,t5)],λ x=>Cd k x.1 x.2⟩
def Cr.p:LF:=⟨⟨[(2,(.bp 2 0 0)),(3999,(.hd 9))],[(5,t5),(7,(.i .i64)),(10,t4),(11,(.i .i64)),(12,(.i .i64)),(17,t35),(18,(.i .i64)),(19,(.i .i64)),(3000,t38)]⟩,[((.exit 2),⟨[(2,(.bp 2 0 0)),(3999,(.hd 9))],[(5,t5),(10,t4),(11,(.i .i64)),(12,(.i .i64)),(3000,t38)]⟩)],λ k x=>Cr k x.1 x.2.1 x.2.2.1 x.2.2.2.1 x.2.2.2.2.1 x.2.2.2.2.2.1 x.2.2.2.2.2.2.1 x.2.2.2.2.2.2.2.1 x.2.2.2.2.2.2.2.2⟩
def E3.p:LF:=⟨⟨[(2,(.bp 2 0 0)),(3999,(.hd 9))],[(5,t5),(10,t4),(11,(.i .i64)),(12,(.i .i64)),(3000,t38)]⟩,[((.exit 0),⟨[],[(5,t5)]⟩)],λ k x=>E3 k x.1 x.2.1 x.2.2.1 x.2.2.2.1 x.2.2.2.2⟩
def Cd.d:Fd := { nt:=35,nv:=2,nm:=[0,1,2,3,5,6,7,8,9],res:=[4],ls:=[(6,Cr.p),(3,E3.p)],rf:=true }
def Cr.s:LL Tryz.f119 Cd.d 6 Cr.p:=mL [] (λ _=>trivial) trivial
def E3.s:LL Tryz.f119 Cd.d 3 E3.p:=mL [6] (λ _=>trivial) ⟨Cr.s,trivial⟩
def Cd.s (k:Nat):CK 119 (Cd.e k):=mS Cd.d k [3] Tryz.func119 trivial ⟨E3.s,trivial⟩
def Ck.e (k:Nat):Ent:=⟨3,[(.val true t13),(.val false t18),(.val false .s)],[(.one,t5)],λ x=>Ck k x.1 x.2.1 x.2.2⟩
def C9.p:LF:=⟨⟨[],[(7,t5),(8,t5),(9,t5),(10,t5),(19,t18),(20,(.i .i64)),(21,(.i .i64))]⟩,[((.exit 0),⟨[],[(9,t5),(10,t5)]⟩)],λ k x=>C9 k x.1 x.2.1 x.2.2.1 x.2.2.2.1 x.2.2.2.2.1 x.2.2.2.2.2.1 x.2.2.2.2.2.2⟩
def Ck.d:Fd := { nt:=49,nv:=3,nm:=[0,1,2,3,4,5,7,8,9,10,11,12],res:=[6],cs:=λ k=>[(18,Ao.e k),(152,Bd.e k),(159,Cc.e k)],ls:=[(5,C9.p)],rf:=true }
def Ck.a (k:Nat):AC (Ck.d.cs k):=⟨Ao.s k,Bd.s k,Cc.s k,trivial⟩
def C9.s:LL Tryz.f129 Ck.d 5 C9.p:=mL [] Ck.a trivial
def Ck.s (k:Nat):CK 129 (Ck.e k):=mS Ck.d k [5] Tryz.func129 (Ck.a k) ⟨C9.s,trivial⟩
def Bw.e (k:Nat):Ent:=⟨2,[(.ptr t41 t41),(.val false .s)],[(.one,t5)],λ x=>Bw k x.1 x.2⟩
def Bw.d:Fd := { nt:=26,nv:=2,nm:=[0,1,2,3],res:=[4],cs:=λ k=>[(18,Ao.e k),(119,Cd.e k),(129,Ck.e k)],rf:=true }
def Bw.s (k:Nat):CK 66 (Bw.e k):=mS Bw.d k [] Tryz.func66 ⟨Ao.s k,Cd.s k,Ck.s k,trivial⟩ trivial
def Es.e (k:Nat):Ent:=⟨3,[(.val true t12),(.val false (.i .i64)),(.val false (.i .i64))],[(.agg,t12)],λ x=>Es x.1 x.2.1 x.2.2⟩
def Es.d:Fd := { nt:=27,nv:=3,nm:=[0,1,2,3,4,5,7],res:=[],cs:=λ k=>[(46,Br.e k)],rf:=true }
def Es.s (k:Nat):CK 84 (Es.e k):=mS Es.d k [] Tryz.func84 ⟨Br.s k,trivial⟩ trivial
def I4.e (k:Nat):Ent:=⟨2,[(.val false .s),(.val true t21)],[(.agg,t22)],λ x=>I4 x.1 x.2⟩
def I4.d:Fd := { nt:=14,nv:=2,nm:=[0,1,2,3],res:=[],rf:=true }
def I4.s (k:Nat):CK 132 (I4.e k):=mS I4.d k [] Tryz.func132 trivial trivial
def Hh.e (k:Nat):Ent:=⟨2,[(.val true t21),(.val true t21)],[(.one,.b)],λ x=>Hh x.1 x.2⟩
def Hh.d:Fd := { nt:=10,nv:=2,nm:=[0,1,2,3],res:=[4],cs:=λ k=>[(100,Bs.e k)] }
def Hh.s (k:Nat):CK 44 (Hh.e k):=mS Hh.d k [] Tryz.func44 ⟨Bs.s k,trivial⟩ trivial
def H9.e (k:Nat):Ent:=⟨2,[(.val false t10),(.val false .s)],[(.one,(.i .i64))],λ x=>H9 k x.1 x.2⟩
def Hi.p:LF:=⟨⟨[],[(1,.s),(7,t10),(8,(.i .i64)),(9,(.i .i64))]⟩,[(.ret,⟨[],[(4,(.i .i64))]⟩),((.exit 0),⟨[],[]⟩)],λ k x=>Hi k x.1 x.2.1 x.2.2.1 x.2.2.2⟩
def H9.d:Fd := { nt:=20,nv:=2,nm:=[0,1,2,3,5,6],res:=[4],ls:=[(2,Hi.p)] }
def Hi.s:LL Tryz.f115 H9.d 2 Hi.p:=mL [] (λ _=>trivial) trivial
def H9.s (k:Nat):CK 115 (H9.e k):=mS H9.d k [2] Tryz.func115 trivial ⟨Hi.s,trivial⟩
def Dw.e (k:Nat):Ent:=⟨2,[(.val true t23),(.val false .s)],[(.one,t3),(.one,.b)],λ x=>Dw k x.1 x.2⟩
def Dw.d:Fd := { nt:=20,nv:=2,nm:=[0,1,2,3,6],res:=[4,5],cs:=λ k=>[(55,Ah.e k),(115,H9.e k)] }
def Dw.s (k:Nat):CK 58 (Dw.e k):=mS Dw.d k [] Tryz.func58 ⟨Ah.s k,H9.s k,trivial⟩ trivial
def F7.e (k:Nat):Ent:=⟨2,[(.val false t2),(.val false (.i .i64))],[(.one,(.i .i64)),(.one,(.i .i64)),(.one,.b)],λ x=>F7 k x.1 x.2⟩
def E9.p:LF:=⟨⟨[],[(0,t2),(1,(.i .i64)),(7,(.i .i64)),(8,(.i .i64))]⟩,[(.ret,⟨[],[(4,(.i .i64)),(5,(.i .i64)),(6,.b)]⟩),((.exit 0),⟨[],[]⟩)],λ k x=>E9 k x.1 x.2.1 x.2.2.1 x.2.2.2⟩
def F7.d:Fd := { nt:=57,nv:=2,nm:=[0,1,2,3,7,8,9],res:=[4,5,6],ls:=[(3,E9.p)] }
def E9.s:LL Tryz.f205 F7.d 3 E9.p:=mL [] (λ _=>trivial) trivial
def F7.s (k:Nat):CK 205 (F7.e k):=mS F7.d k [3] Tryz.func205 trivial ⟨E9.s,trivial⟩
def Ce.e (k:Nat):Ent:=⟨1,[(.ptr t16 t16)],[(.one,(.i .i64))],λ x=>Ce k x⟩
def Ce.d:Fd := { nt:=35,nv:=1,nm:=[0,1,3,4,5],res:=[2],cs:=λ k=>[(205,F7.e k)] }
def Ce.s (k:Nat):CK 164 (Ce.e k):=mS Ce.d k [] Tryz.func164 ⟨F7.s k,trivial⟩ trivial
def Cs.e (k:Nat):Ent:=⟨1,[(.ptr t16 t16)],[(.agg,t12),(.one,.b)],λ x=>Cs k x⟩
def Cs.d:Fd := { nt:=31,nv:=1,nm:=[0,1,4,5],res:=[3],cs:=λ k=>[(164,Ce.e k)] }
def Cs.s (k:Nat):CK 116 (Cs.e k):=mS Cs.d k [] Tryz.func116 ⟨Ce.s k,trivial⟩ trivial
def G9.e (k:Nat):Ent:=⟨2,[(.val false t2),(.val false (.i .i64))],[(.one,.s),(.one,(.i .i64)),(.one,.b)],λ x=>G9 k x.1 x.2⟩
def G9.d:Fd := { nt:=37,nv:=2,nm:=[0,1,2,3,7,8,9],res:=[4,5,6],cs:=λ k=>[(205,F7.e k)] }
def G9.s (k:Nat):CK 165 (G9.e k):=mS G9.d k [] Tryz.func165 ⟨F7.s k,trivial⟩ trivial
def Ca.e (k:Nat):Ent:=⟨1,[(.ptr t16 t16)],[(.one,.s)],λ x=>Ca k x⟩
def Ca.d:Fd := { nt:=35,nv:=1,nm:=[0,1,3,4,5],res:=[2],cs:=λ k=>[(165,G9.e k)] }
def Ca.s (k:Nat):CK 117 (Ca.e k):=mS Ca.d k [] Tryz.func117 ⟨G9.s k,trivial⟩ trivial
def Dt.e (k:Nat):Ent:=⟨2,[(.val false t3),(.val false (.i .i64))],[(.one,t3)],λ x=>Dt k x.1 x.2⟩
def Et.p:LF:=⟨⟨[],[(0,t3),(1,(.i .i64))]⟩,[((.exit 0),⟨[],[(0,t3),(1,(.i .i64))]⟩)],λ k x=>Et k x.1 x.2⟩
def Dt.d:Fd := { nt:=24,nv:=2,nm:=[0,1,2,3],res:=[4],ls:=[(2,Et.p)] }
def Et.s:LL Tryz.f206 Dt.d 2 Et.p:=mL [] (λ _=>trivial) trivial
def Dt.s (k:Nat):CK 206 (Dt.e k):=mS Dt.d k [2] Tryz.func206 trivial ⟨Et.s,trivial⟩
def Ga.e (k:Nat):Ent:=⟨2,[(.val false t3),(.val false .s)],[(.one,t3)],λ x=>Ga k x.1 x.2⟩
def Ga.d:Fd := { nt:=11,nv:=2,nm:=[0,1,2,3],res:=[4],cs:=λ k=>[(206,Dt.e k)] }
def Ga.s (k:Nat):CK 166 (Ga.e k):=mS Ga.d k [] Tryz.func166 ⟨Dt.s k,trivial⟩ trivial
def Jr.e (k:Nat):Ent:=⟨1,[(.val false .b)],[(.one,(.i .i64))],λ x=>Jr x⟩
def Jr.d:Fd := { nt:=4,nv:=1,nm:=[0,1],res:=[2] }
def Jr.s (k:Nat):CK 207 (Jr.e k):=mS Jr.d k [] Tryz.func207 trivial trivial
def Fm.e (k:Nat):Ent:=⟨3,[(.val false t3),(.val true t12),(.val false .b)],[(.one,t3)],λ x=>Fm k x.1 x.2.1 x.2.2⟩
def Fm.d:Fd := { nt:=20,nv:=3,nm:=[0,1,2,3,4,5],res:=[6],cs:=λ k=>[(206,Dt.e k),(207,Jr.e k)] }
def Fm.s (k:Nat):CK 167 (Fm.e k):=mS Fm.d k [] Tryz.func167 ⟨Dt.s k,Jr.s k,trivial⟩ trivial
def Ii.e (k:Nat):Ent:=⟨1,[(.val false t2)],[(.one,(.i .i64))],λ x=>Ii k x⟩
def Gi.p:LF:=⟨⟨[],[(3,(.i .u32)),(7,t2),(8,(.i .i64)),(9,(.i .i64)),(17,(.i .i64))]⟩,[((.exit 2),⟨[],[(3,(.i .u32)),(7,t2),(8,(.i .i64)),(9,(.i .i64))]⟩)],λ k x=>Gi k x.1 x.2.1 x.2.2.1 x.2.2.2.1 x.2.2.2.2⟩
def Gu.p:LF:=⟨⟨[],[(3,(.i .u32)),(7,t2),(8,(.i .i64)),(9,(.i .i64))]⟩,[((.exit 0),⟨[],[(3,(.i .u32))]⟩)],λ k x=>Gu k x.1 x.2.1 x.2.2.1 x.2.2.2⟩
def Ii.d:Fd := { nt:=32,nv:=1,nm:=[0,1,3,4,5,6],res:=[2],ls:=[(7,Gi.p),(3,Gu.p)] }
def Gi.s:LL Tryz.f168 Ii.d 7 Gi.p:=mL [] (λ _=>trivial) trivial
def Gu.s:LL Tryz.f168 Ii.d 3 Gu.p:=mL [7] (λ _=>trivial) ⟨Gi.s,trivial⟩
def Ii.s (k:Nat):CK 168 (Ii.e k):=mS Ii.d k [3] Tryz.func168 trivial ⟨Gu.s,trivial⟩
def Dq.e (k:Nat):Ent:=⟨1,[(.val true t21)],[(.one,t3)],λ x=>Dq k x⟩
def Dq.d:Fd := { nt:=33,nv:=1,nm:=[0,1,3,4],res:=[2],cs:=λ k=>[(104,Cn.e k),(166,Ga.e k),(167,Fm.e k),(168,Ii.e k)] }
def Dq.s (k:Nat):CK 118 (Dq.e k):=mS Dq.d k [] Tryz.func118 ⟨Cn.s k,Ga.s k,Fm.s k,Ii.s k,trivial⟩ trivial
def D6.e (k:Nat):Ent:=⟨1,[(.val false t2)],[(.agg,t21),(.one,.b)],λ x=>D6 k x⟩
def D6.d:Fd := { nt:=41,nv:=1,nm:=[0,1,4,5,6],res:=[3],cs:=λ k=>[(116,Cs.e k),(117,Ca.e k),(118,Dq.e k)] }
def D6.s (k:Nat):CK 59 (D6.e k):=mS D6.d k [] Tryz.func59 ⟨Cs.s k,Ca.s k,Dq.s k,trivial⟩ trivial
def Eu.e (k:Nat):Ent:=⟨2,[(.val false t10),(.val false .s)],[(.one,t10)],λ x=>Eu k x.1 x.2⟩
def Eu.d:Fd := { nt:=21,nv:=2,nm:=[0,1,2,3,5],res:=[4],cs:=λ k=>[(115,H9.e k)] }
def Eu.s (k:Nat):CK 209 (Eu.e k):=mS Eu.d k [] Tryz.func209 ⟨H9.s k,trivial⟩ trivial
def Hw.e (k:Nat):Ent:=⟨2,[(.val false t10),(.val true t9)],[(.one,t11)],λ x=>Hw k x.1 x.2⟩
def Gv.p:LF:=⟨⟨[(3,(.bp 3 0 0)),(4999,(.hd 2))],[(0,t10),(5,(.i .i64)),(4000,.s),(4001,t2)]⟩,[((.exit 0),⟨[(3,(.bp 3 0 0)),(4999,(.hd 2))],[(0,t10),(5,(.i .i64)),(4000,.s),(4001,t2)]⟩)],λ k x=>Gv k x.1 x.2.1 x.2.2.1 x.2.2.2⟩
def Hw.d:Fd := { nt:=33,nv:=2,nm:=[0,1,2,3,5],res:=[4],ls:=[(2,Gv.p)] }
def Gv.s:LL Tryz.f210 Hw.d 2 Gv.p:=mL [] (λ _=>trivial) trivial
def Hw.s (k:Nat):CK 210 (Hw.e k):=mS Hw.d k [2] Tryz.func210 trivial ⟨Gv.s,trivial⟩
def Bp.e (k:Nat):Ent:=⟨2,[(.val true t23),(.val false .s)],[(.agg,(.pr t11 t10)),(.one,.b)],λ x=>Bp k x.1 x.2⟩
def Bp.d:Fd := { nt:=50,nv:=2,nm:=[0,1,2,3,6,7],res:=[5],cs:=λ k=>[(41,Ad.e k),(55,Ah.e k),(106,Bg.e k),(115,H9.e k),(142,A5.e k),(209,Eu.e k),(210,Hw.e k)],mv:=[18,49] }
def Bp.s (k:Nat):CK 174 (Bp.e k):=mS Bp.d k [] Tryz.func174 ⟨Ad.s k,Ah.s k,Bg.s k,H9.s k,A5.s k,Eu.s k,Hw.s k,trivial⟩ trivial
def Cy.e (k:Nat):Ent:=⟨3,[(.val true t23),(.val false .s),(.val false t2)],[(.agg,t24),(.one,.b)],λ x=>Cy k x.1 x.2.1 x.2.2⟩
def Cy.d:Fd := { nt:=42,nv:=3,nm:=[0,1,2,3,4,5,8],res:=[7],cs:=λ k=>[(41,Ad.e k),(55,Ah.e k),(106,Bg.e k),(142,A5.e k),(209,Eu.e k),(210,Hw.e k)],mv:=[24,41] }
def Cy.s (k:Nat):CK 190 (Cy.e k):=mS Cy.d k [] Tryz.func190 ⟨Ad.s k,Ah.s k,Bg.s k,A5.s k,Eu.s k,Hw.s k,trivial⟩ trivial
def H5.e (k:Nat):Ent:=⟨4,[(.val true t23),(.val false .s),(.val true t21),(.val false .b)],[(.agg,t23),(.one,(.i .i64))],λ x=>H5 k x.1 x.2.1 x.2.2.1 x.2.2.2⟩
def H5.d:Fd := { nt:=82,nv:=4,nm:=[0,1,2,3,4,5,6,7,10,11,12,13,14,15,16,17,18,19],res:=[9],cs:=λ k=>[(41,Ad.e k),(44,Hh.e k),(58,Dw.e k),(59,D6.e k),(104,Cn.e k),(106,Bg.e k),(118,Dq.e k),(142,A5.e k),(174,Bp.e k),(190,Cy.e k)],mv:=[80] }
def H5.s (k:Nat):CK 143 (H5.e k):=mS H5.d k [] Tryz.func143 ⟨Ad.s k,Hh.s k,Dw.s k,D6.s k,Cn.s k,Bg.s k,Dq.s k,A5.s k,Bp.s k,Cy.s k,trivial⟩ trivial
def Gb.e (k:Nat):Ent:=⟨4,[(.val true t32),(.val false .s),(.val true t21),(.val false .b)],[(.agg,t34),(.one,(.i .i64))],λ x=>Gb k x.1 x.2.1 x.2.2.1 x.2.2.2⟩
def Gb.d:Fd := { nt:=62,nv:=4,nm:=[0,1,2,3,4,5,6,7,10,11,12],res:=[9],cs:=λ k=>[(41,Ad.e k),(48,C5.e k),(81,Ba.e k),(104,Cn.e k),(132,I4.e k),(143,H5.e k)],mv:=[29,35,60],rf:=true }
def Gb.s (k:Nat):CK 86 (Gb.e k):=mS Gb.d k [] Tryz.func86 ⟨Ad.s k,C5.s k,Ba.s k,Cn.s k,I4.s k,H5.s k,trivial⟩ trivial
def Cf.e (k:Nat):Ent:=⟨5,[(.ptr t32 t32),(.val false (.i .i64)),(.ptr .s .s),(.ptr t21 t21),(.ptr (.i .i64) (.i .i64))],[],λ x=>Cf k x.1 x.2.1 x.2.2.1 x.2.2.2.1 x.2.2.2.2⟩
def Cf.d:Fd := { nt:=35,nv:=5,nm:=[0,1,5,6,7,8],res:=[],cs:=λ k=>[(86,Gb.e k)],rf:=true }
def Cf.s (k:Nat):CK 85 (Cf.e k):=mS Cf.d k [] Tryz.func85 ⟨Gb.s k,trivial⟩ trivial
def Gw.e (k:Nat):Ent:=⟨1,[(.val false (.i .i64))],[(.one,(.i .i64))],λ x=>Gw x⟩
def Gw.d:Fd := { nt:=6,nv:=1,nm:=[0,1],res:=[2],rf:=true }
def Gw.s (k:Nat):CK 87 (Gw.e k):=mS Gw.d k [] Tryz.func87 trivial trivial
def A8.e (k:Nat):Ent:=⟨4,[(.ptr t41 t41),(.val false .s),(.val false t4),(.fn 85 3),(.hid .s .s),(.hid t21 t21),(.hid (.i .i64) (.i .i64))],[],λ x=>A8 k x.1 x.2.1 x.2.2.1 x.2.2.2.1 x.2.2.2.2.1 x.2.2.2.2.2.1 x.2.2.2.2.2.2⟩
def Aa.p:LF:=⟨⟨[(0,(.bp 0 0 0)),(3,(.fn 85 [(1500,0),(1501,0),(1502,0)])),(1999,(.hd 9)),(1501999,(.hd 1)),(1502999,(.hd 5)),(1503999,(.hd 1))],[(2,t4),(8,(.i .i64)),(14,t5),(15,(.i .i64)),(16,(.i .i64)),(1000,t41),(1501000,.s),(1502000,t21),(1503000,(.i .i64))]⟩,[((.exit 0),⟨[(1999,(.hd 9)),(1501999,(.hd 1)),(1502999,(.hd 5)),(1503999,(.hd 1))],[(1000,t41),(1501000,.s),(1502000,t21),(1503000,(.i .i64))]⟩)],λ k x=>Aa k x.1 x.2.1 x.2.2.1 x.2.2.2.1 x.2.2.2.2.1 x.2.2.2.2.2.1 x.2.2.2.2.2.2.1 x.2.2.2.2.2.2.2.1 x.2.2.2.2.2.2.2.2⟩
def A8.d:Fd := { nt:=47,nv:=4,nm:=[0,1,2,3,4,5,6,7,8,9,10,11],res:=[],cs:=λ k=>[(61,C1.e k),(66,Bw.e k),(85,Cf.e k)],ls:=[(2,Aa.p)],gh:=[(1000003,[.cl 1003])],opn:=[41],rf:=true }
def A8.a (k:Nat):AC (A8.d.cs k):=⟨C1.s k,Bw.s k,Cf.s k,trivial⟩
def Aa.s:LL Tryz.f42 A8.d 2 Aa.p:=mL [] A8.a trivial
def A8.s (k:Nat):CK 42 (A8.e k):=mS A8.d k [2] Tryz.func42 (A8.a k) ⟨Aa.s,trivial⟩
def Cg.e (k:Nat):Ent:=⟨5,[(.ptr t41 t41),(.val false .s),(.val true t21),(.val false (.i .i64)),(.val false t4)],[(.one,(.i .i64))],λ x=>Cg k x.1 x.2.1 x.2.2.1 x.2.2.2.1 x.2.2.2.2⟩
def Cg.d:Fd := { nt:=82,nv:=5,nm:=[0,1,2,3,4,5,6,7,8,9,11,12,13],res:=[10],cs:=λ k=>[(41,Ad.e k),(42,A8.e k),(82,Dv.e k),(83,C3.e k),(84,Es.e k),(87,Gw.e k)],rf:=true }
def Cg.s (k:Nat):CK 37 (Cg.e k):=mS Cg.d k [] Tryz.func37 ⟨Ad.s k,A8.s k,Dv.s k,C3.s k,Es.s k,Gw.s k,trivial⟩ trivial
def Ev.e (k:Nat):Ent:=⟨5,[(.val true t38),(.val false .s),(.val false t2),(.val false (.i .i64)),(.val false t4)],[(.agg,t41),(.one,(.i .i64))],λ x=>Ev k x.1 x.2.1 x.2.2.1 x.2.2.2.1 x.2.2.2.2⟩
def Ev.d:Fd := { nt:=29,nv:=5,nm:=[0,1,2,3,4,5,6,7,8,9,12,13],res:=[11],cs:=λ k=>[(12,B8.e k),(36,Aw.e k),(37,Cg.e k),(55,Ah.e k)],mv:=[19,27],rf:=true }
def Ev.s (k:Nat):CK 17 (Ev.e k):=mS Ev.d k [] Tryz.func17 ⟨B8.s k,Aw.s k,Cg.s k,Ah.s k,trivial⟩ trivial
def Gc.e (k:Nat):Ent:=⟨2,[(.val true t23),(.val false .s)],[(.agg,t21),(.one,(.i .i64))],λ x=>Gc k x.1 x.2⟩
def Gc.d:Fd := { nt:=28,nv:=2,nm:=[0,1,2,3,6,7,8,9],res:=[5],cs:=λ k=>[(58,Dw.e k),(59,D6.e k)] }
def Gc.s (k:Nat):CK 19 (Gc.e k):=mS Gc.d k [] Tryz.func19 ⟨Dw.s k,D6.s k,trivial⟩ trivial
def J0.e (k:Nat):Ent:=⟨2,[(.val false t4),(.val false (.i .i64))],[(.one,.b)],λ x=>J0 k x.1 x.2⟩
def Gx.p:LF:=⟨⟨[],[(0,t4),(1,(.i .i64)),(5,(.i .i64))]⟩,[(.ret,⟨[],[(4,.b)]⟩),((.exit 0),⟨[],[]⟩)],λ k x=>Gx k x.1 x.2.1 x.2.2⟩
def J0.d:Fd := { nt:=18,nv:=2,nm:=[0,1,2,3,5],res:=[4],ls:=[(2,Gx.p)],rf:=true }
def Gx.s:LL Tryz.f20 J0.d 2 Gx.p:=mL [] (λ _=>trivial) trivial
def J0.s (k:Nat):CK 20 (J0.e k):=mS J0.d k [2] Tryz.func20 trivial ⟨Gx.s,trivial⟩
def D7.e (k:Nat):Ent:=⟨1,[(.val true t38)],[(.one,t5)],λ x=>D7 k x⟩
def D7.d:Fd := { nt:=8,nv:=1,nm:=[0,1],res:=[2],cs:=λ k=>[(18,Ao.e k),(119,Cd.e k)],rf:=true }
def D7.s (k:Nat):CK 60 (D7.e k):=mS D7.d k [] Tryz.func60 ⟨Ao.s k,Cd.s k,trivial⟩ trivial
def Fn.e (k:Nat):Ent:=⟨2,[(.val true t22),(.val true t22)],[(.one,.b)],λ x=>Fn x.1 x.2⟩
def Fn.d:Fd := { nt:=29,nv:=2,nm:=[0,1,2,3],res:=[4],cs:=λ k=>[(100,Bs.e k)] }
def Fn.s (k:Nat):CK 169 (Fn.e k):=mS Fn.d k [] Tryz.func169 ⟨Bs.s k,trivial⟩ trivial
def Bz.e (k:Nat):Ent:=⟨2,[(.val false t25),(.val true t22)],[(.one,t26)],λ x=>Bz k x.1 x.2⟩
def Ct.p:LF:=⟨⟨[(3,(.bp 3 0 0)),(4999,(.hd 6))],[(0,t25),(8,(.i .i64)),(4000,.s),(4001,(.i .i64)),(4002,(.i .i64)),(4003,(.i .i64)),(4004,.b),(4005,(.i .i64))]⟩,[((.exit 2),⟨[(3,(.bp 3 0 0)),(4999,(.hd 6))],[(0,t25),(8,(.i .i64)),(4000,.s),(4001,(.i .i64)),(4002,(.i .i64)),(4003,(.i .i64)),(4004,.b),(4005,(.i .i64))]⟩)],λ k x=>Ct k x.1 x.2.1 x.2.2.1 x.2.2.2.1 x.2.2.2.2.1 x.2.2.2.2.2.1 x.2.2.2.2.2.2.1 x.2.2.2.2.2.2.2⟩
def Dh.p:LF:=⟨⟨[(3,(.bp 3 0 0)),(4999,(.hd 6))],[(0,t25),(5,t26),(11,t25),(12,(.i .i64)),(13,(.i .i64)),(4000,.s),(4001,(.i .i64)),(4002,(.i .i64)),(4003,(.i .i64)),(4004,.b),(4005,(.i .i64))]⟩,[(.ret,⟨[],[(4,t26)]⟩),((.exit 0),⟨[(3,(.bp 3 0 0)),(4999,(.hd 6))],[(0,t25),(4000,.s),(4001,(.i .i64)),(4002,(.i .i64)),(4003,(.i .i64)),(4004,.b),(4005,(.i .i64))]⟩)],λ k x=>Dh k x.1 x.2.1 x.2.2.1 x.2.2.2.1 x.2.2.2.2.1 x.2.2.2.2.2.1 x.2.2.2.2.2.2.1 x.2.2.2.2.2.2.2.1 x.2.2.2.2.2.2.2.2.1 x.2.2.2.2.2.2.2.2.2.1 x.2.2.2.2.2.2.2.2.2.2⟩
def Bz.d:Fd := { nt:=60,nv:=2,nm:=[0,1,2,3,5,6,7,8],res:=[4],cs:=λ k=>[(120,Ai.e k),(169,Fn.e k)],ls:=[(11,Ct.p),(3,Dh.p)] }
def Bz.a (k:Nat):AC (Bz.d.cs k):=⟨Ai.s k,Fn.s k,trivial⟩
def Ct.s:LL Tryz.f121 Bz.d 11 Ct.p:=mL [] Bz.a trivial
def Dh.s:LL Tryz.f121 Bz.d 3 Dh.p:=mL [] Bz.a trivial
def Bz.s (k:Nat):CK 121 (Bz.e k):=mS Bz.d k [3,11] Tryz.func121 (Bz.a k) ⟨Dh.s,Ct.s,trivial⟩
def Bb.e (k:Nat):Ent:=⟨2,[(.val false t25),(.val false t25)],[(.one,t26)],λ x=>Bb k x.1 x.2⟩
def Cu.p:LF:=⟨⟨[],[(5,t26),(10,t25),(11,(.i .i64)),(12,(.i .i64))]⟩,[((.exit 0),⟨[],[(5,t26)]⟩)],λ k x=>Cu k x.1 x.2.1 x.2.2.1 x.2.2.2⟩
def Bb.d:Fd := { nt:=21,nv:=2,nm:=[0,1,2,3,5,6,7],res:=[4],cs:=λ k=>[(120,Ai.e k),(121,Bz.e k)],ls:=[(3,Cu.p)] }
def Bb.a (k:Nat):AC (Bb.d.cs k):=⟨Ai.s k,Bz.s k,trivial⟩
def Cu.s:LL Tryz.f62 Bb.d 3 Cu.p:=mL [] Bb.a trivial
def Bb.s (k:Nat):CK 62 (Bb.e k):=mS Bb.d k [3] Tryz.func62 (Bb.a k) ⟨Cu.s,trivial⟩
def Bu.e (k:Nat):Ent:=⟨2,[(.val false .s),(.val false .s)],[(.one,.b)],λ x=>Bu x.1 x.2⟩
def Bu.d:Fd := { nt:=18,nv:=2,nm:=[0,1,2,3],res:=[4],rf:=true }
def Bu.s (k:Nat):CK 208 (Bu.e k):=mS Bu.d k [] Tryz.func208 trivial trivial
def Dn.e (k:Nat):Ent:=⟨2,[(.val false .s),(.val false .s)],[(.one,.b)],λ x=>Dn x.1 x.2⟩
def Dn.d:Fd := { nt:=8,nv:=2,nm:=[0,1,2,3],res:=[4],cs:=λ k=>[(208,Bu.e k)],rf:=true }
def Dn.s (k:Nat):CK 170 (Dn.e k):=mS Dn.d k [] Tryz.func170 ⟨Bu.s k,trivial⟩ trivial
def Hj.e (k:Nat):Ent:=⟨2,[(.val false .s),(.val false .s)],[(.one,.b)],λ x=>Hj x.1 x.2⟩
def Hj.d:Fd := { nt:=8,nv:=2,nm:=[0,1,2,3],res:=[4],cs:=λ k=>[(170,Dn.e k)],rf:=true }
def Hj.s (k:Nat):CK 122 (Hj.e k):=mS Hj.d k [] Tryz.func122 ⟨Dn.s k,trivial⟩ trivial
def Bq.e (k:Nat):Ent:=⟨4,[(.val false t25),(.val false .s),(.val false .s),(.val false (.i .i64))],[(.one,t1)],λ x=>Bq k x.1 x.2.1 x.2.2.1 x.2.2.2⟩
def Bv.p:LF:=⟨⟨[],[(1,.s),(2,.s),(3,(.i .i64)),(9,t1),(12,t25),(13,(.i .i64)),(14,(.i .i64))]⟩,[((.exit 0),⟨[],[(9,t1)]⟩)],λ k x=>Bv k x.1 x.2.1 x.2.2.1 x.2.2.2.1 x.2.2.2.2.1 x.2.2.2.2.2.1 x.2.2.2.2.2.2⟩
def Bq.d:Fd := { nt:=46,nv:=4,nm:=[0,1,2,3,4,5,6,7,9,10,11],res:=[8],cs:=λ k=>[(122,Hj.e k)],ls:=[(3,Bv.p)],rf:=true }
def Bq.a (k:Nat):AC (Bq.d.cs k):=⟨Hj.s k,trivial⟩
def Bv.s:LL Tryz.f63 Bq.d 3 Bv.p:=mL [] Bq.a trivial
def Bq.s (k:Nat):CK 63 (Bq.e k):=mS Bq.d k [3] Tryz.func63 (Bq.a k) ⟨Bv.s,trivial⟩
def B2.e (k:Nat):Ent:=⟨5,[(.val true t38),(.val false .s),(.val false .s),(.val false (.i .i64)),(.val false t4)],[(.one,t1),(.one,(.i .i64))],λ x=>B2 k x.1 x.2.1 x.2.2.1 x.2.2.2.1 x.2.2.2.2⟩
def Bm.p:LF:=⟨⟨[(5,(.bp 5 0 0)),(6999,(.hd 9))],[(1,.s),(2,.s),(3,(.i .i64)),(4,t4),(12,t26),(13,(.i .i64)),(20,t5),(21,(.i .i64)),(22,(.i .i64)),(6000,t38)]⟩,[((.exit 0),⟨[],[(1,.s),(2,.s),(3,(.i .i64)),(12,t26),(13,(.i .i64))]⟩)],λ k x=>Bm k x.1 x.2.1 x.2.2.1 x.2.2.2.1 x.2.2.2.2.1 x.2.2.2.2.2.1 x.2.2.2.2.2.2.1 x.2.2.2.2.2.2.2.1 x.2.2.2.2.2.2.2.2.1 x.2.2.2.2.2.2.2.2.2⟩
def B2.d:Fd := { nt:=49,nv:=5,nm:=[0,1,2,3,4,5,6,7,8,9,12,13,14,15],res:=[10,11],cs:=λ k=>[(12,B8.e k),(60,D7.e k),(61,C1.e k),(62,Bb.e k),(63,Bq.e k)],ls:=[(6,Bm.p)],rf:=true }
def B2.a (k:Nat):AC (B2.d.cs k):=⟨B8.s k,D7.s k,C1.s k,Bb.s k,Bq.s k,trivial⟩
def Bm.s:LL Tryz.f21 B2.d 6 Bm.p:=mL [] B2.a trivial
def B2.s (k:Nat):CK 21 (B2.e k):=mS B2.d k [6] Tryz.func21 (B2.a k) ⟨Bm.s,trivial⟩
def Ez.e (k:Nat):Ent:=⟨0,[],[(.one,t5)],λ _=>Ez k⟩
def Di.p:LF:=⟨⟨[],[(1,t5),(2,(.i .i64))]⟩,[((.exit 0),⟨[],[(1,t5)]⟩)],λ k x=>Di k x.1 x.2⟩
def Ez.d:Fd := { nt:=9,nv:=0,nm:=[1],res:=[0],ls:=[(3,Di.p)],rf:=true }
def Di.s:LL Tryz.f123 Ez.d 3 Di.p:=mL [] (λ _=>trivial) trivial
def Ez.s (k:Nat):CK 123 (Ez.e k):=mS Ez.d k [3] Tryz.func123 trivial ⟨Di.s,trivial⟩
def Fv.e (k:Nat):Ent:=⟨1,[(.val true t23)],[(.agg,t23),(.one,(.i .i64))],λ x=>Fv k x⟩
def F3.p:LF:=⟨⟨[(2,(.bp 2 0 0)),(4,(.bp 4 0 0)),(3999,(.hd 2)),(5999,(.hd 2))],[(5,(.i .i64)),(17,t10),(18,(.i .i64)),(19,(.i .i64)),(3000,t24),(5000,t23)]⟩,[((.exit 0),⟨[(2,(.bp 2 0 0)),(4,(.bp 4 0 0)),(3999,(.hd 2)),(5999,(.hd 2))],[(5,(.i .i64)),(3000,t24),(5000,t23)]⟩)],λ k x=>F3 k x.1 x.2.1 x.2.2.1 x.2.2.2.1 x.2.2.2.2.1 x.2.2.2.2.2⟩
def Fv.d:Fd := { nt:=48,nv:=1,nm:=[0,1,4,5,6,7,8,9],res:=[3],cs:=λ k=>[(59,D6.e k),(106,Bg.e k),(142,A5.e k),(209,Eu.e k)],ls:=[(6,F3.p)],mv:=[15],rf:=true }
def Fv.a (k:Nat):AC (Fv.d.cs k):=⟨D6.s k,Bg.s k,A5.s k,Eu.s k,trivial⟩
def F3.s:LL Tryz.f171 Fv.d 6 F3.p:=mL [] Fv.a trivial
def Fv.s (k:Nat):CK 171 (Fv.e k):=mS Fv.d k [6] Tryz.func171 (Fv.a k) ⟨F3.s,trivial⟩
def Ew.e (k:Nat):Ent:=⟨1,[(.val true t32)],[(.agg,t34),(.one,(.i .i64))],λ x=>Ew k x⟩
def Ew.d:Fd := { nt:=19,nv:=1,nm:=[0,1,4,5,6],res:=[3],cs:=λ k=>[(81,Ba.e k),(171,Fv.e k)],mv:=[17],rf:=true }
def Ew.s (k:Nat):CK 124 (Ew.e k):=mS Ew.d k [] Tryz.func124 ⟨Ba.s k,Fv.s k,trivial⟩ trivial
def F4.e (k:Nat):Ent:=⟨2,[(.val false t0),(.val false .s)],[(.one,t0)],λ x=>F4 k x.1 x.2⟩
def Dj.p:LF:=⟨⟨[],[(0,t0),(1,.s),(5,(.i .i64))]⟩,[((.exit 0),⟨[],[(0,t0),(1,.s),(5,(.i .i64))]⟩)],λ k x=>Dj k x.1 x.2.1 x.2.2⟩
def F4.d:Fd := { nt:=44,nv:=2,nm:=[0,1,2,3,5],res:=[4],ls:=[(2,Dj.p)] }
def Dj.s:LL Tryz.f172 F4.d 2 Dj.p:=mL [] (λ _=>trivial) trivial
def F4.s (k:Nat):CK 172 (F4.e k):=mS F4.d k [2] Tryz.func172 trivial ⟨Dj.s,trivial⟩
def Gd.e (k:Nat):Ent:=⟨1,[(.val true t23)],[(.one,t0)],λ x=>Gd k x⟩
def Fw.p:LF:=⟨⟨[(1,(.bp 1 0 0)),(2999,(.hd 2))],[(3,t0),(9,t10),(10,(.i .i64)),(11,(.i .i64)),(2000,t23)]⟩,[((.exit 0),⟨[],[(3,t0)]⟩)],λ k x=>Fw k x.1 x.2.1 x.2.2.1 x.2.2.2.1 x.2.2.2.2⟩
def Gd.d:Fd := { nt:=30,nv:=1,nm:=[0,1,3,4,5,6,7],res:=[2],cs:=λ k=>[(19,Gc.e k),(172,F4.e k)],ls:=[(3,Fw.p)],rf:=true }
def Gd.a (k:Nat):AC (Gd.d.cs k):=⟨Gc.s k,F4.s k,trivial⟩
def Fw.s:LL Tryz.f125 Gd.d 3 Fw.p:=mL [] Gd.a trivial
def Gd.s (k:Nat):CK 125 (Gd.e k):=mS Gd.d k [3] Tryz.func125 (Gd.a k) ⟨Fw.s,trivial⟩
def Dk.e (k:Nat):Ent:=⟨2,[(.val true t23),(.val false .s)],[(.agg,(.pr t10 t11)),(.one,.b)],λ x=>Dk k x.1 x.2⟩
def Dk.d:Fd := { nt:=26,nv:=2,nm:=[0,1,2,3,6],res:=[5],cs:=λ k=>[(106,Bg.e k),(115,H9.e k),(142,A5.e k),(209,Eu.e k)],mv:=[19,25] }
def Dk.s (k:Nat):CK 173 (Dk.e k):=mS Dk.d k [] Tryz.func173 ⟨Bg.s k,H9.s k,A5.s k,Eu.s k,trivial⟩ trivial
def Af.e (k:Nat):Ent:=⟨4,[(.ptr t41 t41),(.val false (.i .i64)),(.val false .s),(.val false t4)],[(.one,.b)],λ x=>Af k x.1 x.2.1 x.2.2.1 x.2.2.2⟩
def Ac.p:LF:=⟨⟨[(0,(.bp 0 0 0)),(9,(.bp 9 0 0)),(1999,(.hd 9)),(10999,(.hd 5))],[(1,(.i .i64)),(2,.s),(3,t4),(11,.b),(12,.b),(43,t5),(44,(.i .i64)),(45,(.i .i64)),(1000,t41),(10000,t21)]⟩,[((.exit 0),⟨[(0,(.bp 0 0 0)),(1999,(.hd 9))],[(1,(.i .i64)),(2,.s),(11,.b),(12,.b),(1000,t41)]⟩)],λ k x=>Ac k x.1 x.2.1 x.2.2.1 x.2.2.2.1 x.2.2.2.2.1 x.2.2.2.2.2.1 x.2.2.2.2.2.2.1 x.2.2.2.2.2.2.2.1 x.2.2.2.2.2.2.2.2.1 x.2.2.2.2.2.2.2.2.2⟩
def Af.d:Fd := { nt:=120,nv:=4,nm:=[0,1,2,3,4,5,6,7,9,10,11,12,13,14,15,16,17,18],res:=[8],cs:=λ k=>[(18,Ao.e k),(19,Gc.e k),(61,C1.e k),(119,Cd.e k),(143,H5.e k),(173,Dk.e k),(174,Bp.e k)],ls:=[(6,Ac.p)],rf:=true }
def Af.a (k:Nat):AC (Af.d.cs k):=⟨Ao.s k,Gc.s k,C1.s k,Cd.s k,H5.s k,Dk.s k,Bp.s k,trivial⟩
def Ac.s:LL Tryz.f126 Af.d 6 Ac.p:=mL [] Af.a trivial
def Af.s (k:Nat):CK 126 (Af.e k):=mS Af.d k [6] Tryz.func126 (Af.a k) ⟨Ac.s,trivial⟩
def Fo.e (k:Nat):Ent:=⟨2,[(.val true t32),(.val false t25)],[(.agg,t33),(.one,.b)],λ x=>Fo k x.1 x.2⟩
def Fo.d:Fd := { nt:=30,nv:=2,nm:=[0,1,2,3,6],res:=[5],cs:=λ k=>[(48,C5.e k),(62,Bb.e k),(81,Ba.e k),(107,Da.e k)],mv:=[17,29] }
def Fo.s (k:Nat):CK 211 (Fo.e k):=mS Fo.d k [] Tryz.func211 ⟨C5.s k,Bb.s k,Ba.s k,Da.s k,trivial⟩ trivial
def Al.e (k:Nat):Ent:=⟨4,[(.ptr t41 t41),(.val false t25),(.val false t4),(.val false (.i .i64))],[(.one,.b)],λ x=>Al k x.1 x.2.1 x.2.2.1 x.2.2.2⟩
def As.p:LF:=⟨⟨[(0,(.bp 0 0 0)),(1999,(.hd 9))],[(1,t25),(2,t4),(3,(.i .i64)),(9,.b),(17,t5),(18,(.i .i64)),(19,(.i .i64)),(1000,t41)]⟩,[((.exit 0),⟨[(1999,(.hd 9))],[(9,.b),(1000,t41)]⟩)],λ k x=>As k x.1 x.2.1 x.2.2.1 x.2.2.2.1 x.2.2.2.2.1 x.2.2.2.2.2.1 x.2.2.2.2.2.2.1 x.2.2.2.2.2.2.2⟩
def Al.d:Fd := { nt:=56,nv:=4,nm:=[0,1,2,3,4,5,6,7,9,10,11,12,13],res:=[8],cs:=λ k=>[(60,D7.e k),(61,C1.e k),(211,Fo.e k)],ls:=[(3,As.p)],rf:=true }
def Al.a (k:Nat):AC (Al.d.cs k):=⟨D7.s k,C1.s k,Fo.s k,trivial⟩
def As.s:LL Tryz.f175 Al.d 3 As.p:=mL [] Al.a trivial
def Al.s (k:Nat):CK 175 (Al.e k):=mS Al.d k [3] Tryz.func175 (Al.a k) ⟨As.s,trivial⟩
def Bn.e (k:Nat):Ent:=⟨3,[(.ptr t41 t41),(.val false (.i .i64)),(.val false t4)],[(.one,.b)],λ x=>Bn k x.1 x.2.1 x.2.2⟩
def Bn.d:Fd := { nt:=47,nv:=3,nm:=[0,1,2,3,4,5],res:=[6],cs:=λ k=>[(120,Ai.e k),(175,Al.e k)],rf:=true }
def Bn.s (k:Nat):CK 127 (Bn.e k):=mS Bn.d k [] Tryz.func127 ⟨Ai.s k,Al.s k,trivial⟩ trivial
def Bh.e (k:Nat):Ent:=⟨3,[(.ptr t41 t41),(.val false (.i .i64)),(.val false t4)],[(.one,.b)],λ x=>Bh k x.1 x.2.1 x.2.2⟩
def Bh.d:Fd := { nt:=43,nv:=3,nm:=[0,1,2,3,4,5,7,8],res:=[6],cs:=λ k=>[(60,D7.e k),(120,Ai.e k),(152,Bd.e k),(175,Al.e k)],rf:=true }
def Bh.s (k:Nat):CK 128 (Bh.e k):=mS Bh.d k [] Tryz.func128 ⟨D7.s k,Ai.s k,Bd.s k,Al.s k,trivial⟩ trivial
def Ae.e (k:Nat):Ent:=⟨1,[(.ptr t41 t41)],[],λ x=>Ae k x⟩
def B6.p:LF:=⟨⟨[(0,(.bp 0 0 0)),(1999,(.hd 9))],[(2,t4),(3,(.i .i64)),(11,(.i .i64)),(12,(.i .i64)),(60,(.i .i64)),(61,(.i .i64)),(1000,t41)]⟩,[((.exit 4),⟨[(0,(.bp 0 0 0)),(1999,(.hd 9))],[(2,t4),(3,(.i .i64)),(11,(.i .i64)),(12,(.i .i64)),(1000,t41)]⟩)],λ k x=>B6 k x.1 x.2.1 x.2.2.1 x.2.2.2.1 x.2.2.2.2.1 x.2.2.2.2.2.1 x.2.2.2.2.2.2⟩
def B3.p:LF:=⟨⟨[(0,(.bp 0 0 0)),(1999,(.hd 9))],[(2,t4),(3,(.i .i64)),(11,(.i .i64)),(12,(.i .i64)),(40,t0),(41,(.i .i64)),(42,(.i .i64)),(1000,t41)]⟩,[((.exit 2),⟨[(0,(.bp 0 0 0)),(1999,(.hd 9))],[(2,t4),(3,(.i .i64)),(11,(.i .i64)),(12,(.i .i64)),(1000,t41)]⟩)],λ k x=>B3 k x.1 x.2.1 x.2.2.1 x.2.2.2.1 x.2.2.2.2.1 x.2.2.2.2.2.1 x.2.2.2.2.2.2.1 x.2.2.2.2.2.2.2⟩
def Bi.p:LF:=⟨⟨[(0,(.bp 0 0 0)),(1999,(.hd 9))],[(2,t4),(11,(.i .i64)),(12,(.i .i64)),(1000,t41)]⟩,[((.exit 0),⟨[(1999,(.hd 9))],[(1000,t41)]⟩)],λ k x=>Bi k x.1 x.2.1 x.2.2.1 x.2.2.2⟩
def Ae.d:Fd := { nt:=73,nv:=1,nm:=[0,1,2,3,4,5],res:=[],cs:=λ k=>[(123,Ez.e k),(124,Ew.e k),(125,Gd.e k),(126,Af.e k),(127,Bn.e k),(128,Bh.e k)],ls:=[(11,B6.p),(6,B3.p),(2,Bi.p)],rf:=true }
def Ae.a (k:Nat):AC (Ae.d.cs k):=⟨Ez.s k,Ew.s k,Gd.s k,Af.s k,Bn.s k,Bh.s k,trivial⟩
def B6.s:LL Tryz.f64 Ae.d 11 B6.p:=mL [] Ae.a trivial
def B3.s:LL Tryz.f64 Ae.d 6 B3.p:=mL [] Ae.a trivial
def Bi.s:LL Tryz.f64 Ae.d 2 Bi.p:=mL [6,11] Ae.a ⟨B3.s,B6.s,trivial⟩
def Ae.s (k:Nat):CK 64 (Ae.e k):=mS Ae.d k [2] Tryz.func64 (Ae.a k) ⟨Bi.s,trivial⟩
def Hk.e (k:Nat):Ent:=⟨1,[(.val true t38)],[(.agg,t41)],λ x=>Hk k x⟩
def Hk.d:Fd := { nt:=10,nv:=1,nm:=[0,1,3],res:=[],cs:=λ k=>[(12,B8.e k),(36,Aw.e k),(64,Ae.e k)],mv:=[9],rf:=true }
def Hk.s (k:Nat):CK 22 (Hk.e k):=mS Hk.d k [] Tryz.func22 ⟨B8.s k,Aw.s k,Ae.s k,trivial⟩ trivial
def B9.e (k:Nat):Ent:=⟨1,[(.val false t2)],[(.one,.b)],λ x=>B9 k x⟩
def B4.p:LF:=⟨⟨[(8,(.bp 8 0 0)),(9999,(.hd 9))],[(7,t4),(9,(.i .i64)),(10,t4),(11,(.i .i64)),(9000,t38)]⟩,[(.ret,⟨[],[(2,.b)]⟩),((.exit 0),⟨[(8,(.bp 8 0 0)),(9999,(.hd 9))],[(7,t4),(9,(.i .i64)),(9000,t38)]⟩)],λ k x=>B4 k x.1 x.2.1 x.2.2.1 x.2.2.2.1 x.2.2.2.2⟩
def B9.d:Fd := { nt:=115,nv:=1,nm:=[0,1,3,4,5,6,7,8,9,10,11,12,13,14,15,16,17],res:=[2],cs:=λ k=>[(7,Jq.e k),(14,Dm.e k),(15,Ch.e k),(16,Bx.e k),(17,Ev.e k),(18,Ao.e k),(19,Gc.e k),(20,J0.e k),(21,B2.e k),(22,Hk.e k)],ls:=[(13,B4.p)],sh:=true,rf:=true }
def B9.a (k:Nat):AC (B9.d.cs k):=⟨Jq.s k,Dm.s k,Ch.s k,Bx.s k,Ev.s k,Ao.s k,Gc.s k,J0.s k,B2.s k,Hk.s k,trivial⟩
def B4.s:LL Tryz.f4 B9.d 13 B4.p:=mL [] B9.a trivial
def B9.s (k:Nat):CK 4 (B9.e k):=mS B9.d k [13] Tryz.func4 (B9.a k) ⟨B4.s,trivial⟩
end

def Tot {α:Type} (f:Nat→Option α) (Q:α→Prop):Prop:=∃ r K,(∀ k,K≤k→f k=some r)∧Q r
section
variable {α β:Type} {f g:Nat→Option α} {Q Q':α→Prop}
def Tot.mono (h:Tot f Q) (hq:∀ a,Q a→Q' a):Tot f Q':=by
 obtain⟨r,K,h1,h2⟩:=h;exact⟨r,K,h1,hq r h2⟩
def Brb {a:α} (h:Q a):Tot (λ _=>some a) Q:=⟨a,0,λ _ _=>rfl,h⟩
def C4b {o:Option α} {a:α} (e:o=some a) (h:Q a):Tot (λ _=>o) Q:=⟨a,0,λ _ _=>e,h⟩
def Bsb {h:Nat→α→Option β} {R:β→Prop} (hf:Tot f Q) (hh:∀ a,Q a→Tot (λ k=>h k a) R):Tot (λ k=>(f k).bind (h k)) R:=by
 obtain⟨a,K,h1,h2⟩:=hf;obtain⟨b,L,h3,h4⟩:=hh a h2;exact⟨b,max K L,λ k hk=>by show (f k).bind (h k)=_;rw[h1 k (by omega)];exact h3 k (by omega),h4⟩
def Bub {c:Bool} (hc:c=true) (h:Tot f Q):Tot (λ k=>cond c (f k) (g k)) Q:=by subst hc;exact h
def Btb {c:Bool} (hc:c=false) (h:Tot g Q):Tot (λ k=>cond c (f k) (g k)) Q:=by subst hc;exact h
def Bxb {c:Bool} (h1:c=true→Tot f Q) (h2:c=false→Tot g Q):Tot (λ k=>cond c (f k) (g k)) Q:=by
 cases hc:c with
 |true=>exact h1 hc
 |false=>exact h2 hc
def Bvb {p:Prop} [Decidable p] (hp:p) (h:Tot f Q):Tot (λ k=>cond (decide p) (f k) (g k)) Q:=Bub (decide_eq_true hp) h
def Bwb {p:Prop} [Decidable p] (hp:¬ p) (h:Tot g Q):Tot (λ k=>cond (decide p) (f k) (g k)) Q:=Btb (decide_eq_false hp) h
def Byb {p:Prop} [Decidable p] (h1:p→Tot f Q) (h2:¬ p→Tot g Q):Tot (λ k=>cond (decide p) (f k) (g k)) Q:=
 Bxb (λ h=>h1 (of_decide_eq_true h)) (λ h=>h2 (of_decide_eq_false h))
def Bzb {m n:Nat} (hp:m≤n) (h:Tot f Q):Tot (λ k=>cond (Nat.ble m n) (f k) (g k)) Q:=Bub (Zm hp) h
def C3b {v:α} {h:Nat→α→Option β} {R:β→Prop} (hf:Tot f (λ r=>r=v)) (hh:Tot (λ k=>h k v) R):Tot (λ k=>(f k).bind (h k)) R:=
 Bsb hf (by rintro r rfl;exact hh)
def Tot.succ (h:Tot (λ k=>f (k+1)) Q):Tot f Q:=by
 obtain⟨r,K,h1,h2⟩:=h;exact⟨r,K+1,λ k hk=>by obtain⟨m,rfl⟩:∃ m,k=m+1:=⟨k-1,by omega⟩;exact h1 m (by omega),h2⟩
def Tot.and (h:Tot f Q) (h':Tot f Q'):Tot f (λ a=>Q a∧Q' a):=by
 obtain⟨r,K,h1,h2⟩:=h;obtain⟨r',K',h1',h2'⟩:=h'
 have e:r=r':=by
  have a1:=h1 (max K K') (by omega);have a2:=h1' (max K K') (by omega);rw[a1]at a2;exact D4b a2
 subst e;exact⟨r,K,h1,h2,h2'⟩
def Tot.law {f:Nat→Option Bool} (h:Tot f (λ b=>b=true)):∃ k,f k=some true:=by
 obtain⟨r,K,h1,h2⟩:=h;subst h2;exact⟨K,h1 K (Vw _)⟩
end
def w64 {n:Int} (h1 : -9223372036854775808≤n) (h2:n≤9223372036854775807):wrap .i64 n=n:=Go.IntWalk.i64_in n ⟨h1,h2⟩
def N0a (n:Int):0≤wrap .u8 n∧wrap .u8 n≤255:=by
 simp only[wrap,IntKind.signed,IntKind.bits];simp;omega
def Haa (x m:Int) (h0:0≤m) (h1:m<9223372036854775808):0≤wrap .i64 ((ofInt (IntKind.bits .i64) x &&& ofInt (IntKind.bits .i64) m).toNat)∧wrap .i64 ((ofInt (IntKind.bits .i64) x &&& ofInt (IntKind.bits .i64) m).toNat)≤m:=by
 have hm:(ofInt (IntKind.bits .i64) m).toNat=m.toNat:=by
  rw[Egb];show (m % ((2 ^ 64:Nat):Int)).toNat=m.toNat;rw[Int.emod_eq_of_lt h0 (by omega)]
 have hle:(ofInt (IntKind.bits .i64) x &&& ofInt (IntKind.bits .i64) m).toNat≤m.toNat:=by
  rw[BitVec.toNat_and,hm];exact Nat.and_le_right
 rw[w64 (by omega) (by omega)];omega
def N1a {x n:Int} (hx:0≤x) (hn:0<n):0≤Int.tmod x n∧Int.tmod x n<n:=by
 rw[Chb hx];exact⟨Int.emod_nonneg _ (by omega),Int.emod_lt_of_pos _ hn⟩

abbrev Cur:=List Int×Int×Int
def Re (c:Cur):Prop:=(c.1.length:Int)≤1048576∧0≤c.2.1∧c.2.1≤1048576
def Jga (b:List Int) (hb:(b.length:Int)≤1048576):∀ (n:Nat) (h i:Int),0≤i→i+n=4001→Tot (λ k=>Fb k b h i) (λ r=>r.1=b):=by
 intro n
 induction n with
 |zero=>
  intro h i h0 hi;refine Tot.succ ?_;simp only[Fb];refine Byb (λ h1=>?_) (λ h1=>Brb rfl);exact Bwb (by omega) (Brb rfl)
 |succ n ih=>
  intro h i h0 hi;refine Tot.succ ?_;simp only[Fb];refine Byb (λ h1=>?_) (λ h1=>Brb rfl);refine Byb (λ h2=>?_) (λ h2=>Brb rfl);refine Bvb h0 (Bvb h1 ?_);rw[w64 (n:=i+1) (by omega) (by omega)];exact ih _ _ (by omega) (by omega)
def N2a (b:List Int) (hb:(b.length:Int)≤1048576):Tot (λ k=>H2 k b) Re:=by
 unfold H2;refine Bsb (Jga b hb 4001 _ 0 (by omega) (by omega)) (λ r hr=>?_);exact Brb ⟨by rw[hr];exact hb,Cqb 0,by show (0:Int)≤1048576;omega⟩
def Q9 (c:Cur) (hc:Re c):∃ x c',Fc c=some (x,c')∧0≤x∧x≤255∧Re c':=by
 obtain⟨h1,h2,h3⟩:=hc;unfold Fc
 by_cases hlt:c.2.1<(c.1.length:Int)
 ·simp only[hlt,h2,decide_true,cond_true];obtain⟨a1,a2⟩:=Haa (wrap .i64 ((wrap .i64 ((ofInt (IntKind.bits .i64) (wrap .i64 ((ofInt (IntKind.bits .i64) (Int.fdiv (wrap .i64 ((wrap .i64 (c.2.2*6364136223846793005))+1442695040888963407)) (2 ^ (min (toNat 33) (IntKind.bits .i64)))) ^^^ ofInt (IntKind.bits .i64) (Int.fdiv (wrap .i64 ((wrap .i64 (c.2.2*6364136223846793005))+1442695040888963407)) (2 ^ (min (toNat 47) (IntKind.bits .i64))))).toNat)) &&& ofInt (IntKind.bits .i64) 255).toNat))+(wrap .i64 (getD c.1 (toNat c.2.1) (0:Int))))) 255 (by omega) (by omega);refine⟨_,_,rfl,a1,a2,h1,?_,?_⟩
  ·show 0≤wrap .i64 (c.2.1+1);rw[w64 (by omega) (by omega)];omega
  ·show wrap .i64 (c.2.1+1)≤1048576;rw[w64 (by omega) (by omega)];omega
 ·simp only[hlt,decide_false,cond_false];obtain⟨a1,a2⟩:=Haa (wrap .i64 ((ofInt (IntKind.bits .i64) (Int.fdiv (wrap .i64 ((wrap .i64 (c.2.2*6364136223846793005))+1442695040888963407)) (2 ^ (min (toNat 33) (IntKind.bits .i64)))) ^^^ ofInt (IntKind.bits .i64) (Int.fdiv (wrap .i64 ((wrap .i64 (c.2.2*6364136223846793005))+1442695040888963407)) (2 ^ (min (toNat 47) (IntKind.bits .i64))))).toNat)) 255 (by omega) (by omega);exact⟨_,_,rfl,a1,a2,h1,h2,h3⟩
def Kk (c:Cur) (hc:Re c) (n:Int) (hn:n≤1000000000):∃ x c',C0 c n=some (x,c')∧0≤x∧(0<n→x<n)∧(n≤0→x=0)∧Re c':=by
 unfold C0
 by_cases h0:n≤0
 ·exact⟨0,c,by simp only[h0,decide_true,cond_true],by omega,by omega,λ _=>rfl,hc⟩
 ·by_cases h1:n≤256
  ·obtain⟨x,c',e,b0,b1,k⟩:=Q9 c hc
   have hz:¬ n=0:=by omega
   have:=N1a b0 (show 0<n by omega);exact⟨Int.tmod x n,c',by simp only[h0,h1,hz,decide_true,decide_false,cond_true,cond_false,e,Vu],this.1,λ _=>this.2,λ h=>by omega,k⟩
  ·obtain⟨x,c1,e1,b0,b1,k1⟩:=Q9 c hc;obtain⟨y,c2,e2,b2,b3,k2⟩:=Q9 c1 k1;obtain⟨z,c3,e3,b4,b5,k3⟩:=Q9 c2 k2
   have hz:¬ n=0:=by omega
   have:=N1a (show 0≤x*65536+y*256+z by omega) (show 0<n by omega);refine⟨Int.tmod (x*65536+y*256+z) n,c3,?_,this.1,λ _=>this.2,λ h=>by omega,k3⟩;simp only[h0,h1,hz,decide_false,cond_false,e1,e2,e3,Vu];rw[w64 (n:=x*65536) (by omega) (by omega),w64 (n:=y*256) (by omega) (by omega),w64 (n:=x*65536+y*256) (by omega) (by omega),w64 (n:=x*65536+y*256+z) (by omega) (by omega)]
def Rda {α:Type} {l:List α} {i:Int} {d:α} (h0:0≤i) (h1:i<(l.length:Int)):l.getD i.toNat d∈l:=by
 have h:i.toNat<l.length:=by omega
 rw[Vb,Ve h];exact Dyb h
def Mu (c:Cur) (hc:Re c) (l:List Int) (hl:0<l.length) (hm:l.length≤2000000):∃ x c',Dl c l=some (x,c')∧x∈l∧Re c':=by
 obtain⟨i,c',e,b0,b1,_,k⟩:=Kk c hc (l.length:Int) (by omega);have b1:=b1 (by omega);refine⟨l.getD i.toNat 0,c',?_,Rda b0 b1,k⟩;unfold Dl;simp only[e,Vu,b0,b1,decide_true,cond_true]
def Aq (l:List Int):Prop:=∀ x∈l,0≤x∧x≤255
abbrev Stp:=Int×Int×Int
abbrev Row:=ByteArray×Stp×Bool×Int
abbrev Fil:=Stp×Bool×List Int

def Cga:∀ (a:List UInt8),Op.bytesLess a a=false
 |[]=>rfl
 |a::l=>by simp[Op.bytesLess,Cga l]
def Hba:∀ (a b c:List UInt8),Op.bytesLess a b=true→Op.bytesLess b c=true→Op.bytesLess a c=true
 |_,[],_,h,_=>by simp[Op.bytesLess]at h
 |_,_::_,[],_,h=>by simp[Op.bytesLess]at h
 |[],_::_,_::_,_,_=>rfl
 |a::x,b::y,c::z,h1,h2=>by
  simp only[Op.bytesLess,Zt,Va,decide_eq_true_eq,beq_iff_eq]at h1 h2 ⊢;rcases h1 with h1|⟨rfl,h1⟩
  ·rcases h2 with h2|⟨rfl,h2⟩
   ·exact .inl (UInt8.lt_trans h1 h2)
   ·exact .inl h1
  ·rcases h2 with h2|⟨rfl,h2⟩
   ·exact .inl h2
   ·exact .inr ⟨rfl,Hba x y z h1 h2⟩
def Tqa:∀ (a b:List UInt8),Op.bytesLess a b=false→Op.bytesLess b a=false→a=b
 |[],[],_,_=>rfl
 |[],_::_,h,_=>by simp[Op.bytesLess]at h
 |_::_,[],_,h=>by simp[Op.bytesLess]at h
 |a::x,b::y,h1,h2=>by
  simp only[Op.bytesLess,Bool.or_eq_false_iff,Dvb,decide_eq_false_iff_not]at h1 h2
  have hab:a=b:=by
   have h3:=UInt8.not_lt.1 h1.1;have h4:=UInt8.not_lt.1 h2.1;exact UInt8.le_antisymm h4 h3
  subst hab;rw[Tqa x y (h1.2.resolve_left (by simp)) (h2.2.resolve_left (by simp))]
def tlt (a b:ByteArray):Bool:=Op.bytesLess a.toList b.toList
def teq (a b:ByteArray):Bool:=a.toList==b.toList
def X7 {a b:ByteArray} (h:a.toList=b.toList):a=b:=by
 rw[E9b,E9b]at h;obtain⟨⟨x⟩⟩:=a;obtain⟨⟨y⟩⟩:=b;simp only at h;rw[h]
def C6 {a b:ByteArray}:teq a b=true↔a=b:=by
 unfold teq;rw[beq_iff_eq];exact⟨X7,λ h=>by rw[h]⟩
def Eg (a:ByteArray):tlt a a=false:=Cga _
def Iz {a b c:ByteArray} (h:tlt a b=true) (h':tlt b c=true):tlt a c=true:=Hba _ _ _ h h'
def U3 {a b:ByteArray} (h:tlt a b=false) (h':tlt b a=false):a=b:=X7 (Tqa _ _ h h')
def Qa {a b:ByteArray} (h:tlt a b=true):tlt b a=false:=by
 cases hb:tlt b a
 ·rfl
 have:=Iz h hb;rw[Eg]at this;cases this
def Z0a (a b:ByteArray):(!(Op.bytesLess a.toList b.toList||a.toList==b.toList))=tlt b a:=by
 show (!(tlt a b||teq a b))=tlt b a;cases h1:tlt a b
 case true=>rw[Qa h1];rfl
 cases h2:teq a b
 case true=>rw[C6.1 h2,Eg];rfl
 cases h3:tlt b a
 case true=>rfl
 exfalso;have:=U3 h1 h3;rw[C6.2 this]at h2;cases h2
def sle (a b:Stp):Bool:=cond (a.1 != b.1) (decide (a.1<b.1)) (cond (a.2.1 != b.2.1) (decide (a.2.1<b.2.1)) (decide (a.2.2<b.2.2)))
def A5a (a b:Stp):Bs a b=some (sle a b):=by
 unfold Bs sle
 cases a.1 != b.1<;>cases a.2.1 != b.2.1<;>rfl
def Ks {a b:Stp}:sle a b=true↔a.1<b.1∨(a.1=b.1∧(a.2.1<b.2.1∨(a.2.1=b.2.1∧a.2.2<b.2.2))):=by
 unfold sle
 by_cases h1:a.1=b.1
 ·by_cases h2:a.2.1=b.2.1
  ·simp[h1,h2]
  ·have:(a.2.1 != b.2.1)=true:=by simpa using h2
   simp[h1,this,h2]
 ·have:(a.1 != b.1)=true:=by simpa using h1
  simp[this,h1]
def I6 (a b:Row):Bool:=cond (!((a.2.1.1==b.2.1.1)&&((a.2.1.2.1==b.2.1.2.1)&&(a.2.1.2.2==b.2.1.2.2)))) (sle a.2.1 b.2.1) (cond (!(a.2.2.1==b.2.2.1)) b.2.2.1 (decide (a.2.2.2<b.2.2.2)))
def N3a (a b:Row):Fn a b=some (I6 b a):=by
 unfold Fn I6;rw[A5a,BEq.comm (a:=a.2.1.1),BEq.comm (a:=a.2.1.2.1),BEq.comm (a:=a.2.1.2.2),BEq.comm (a:=a.2.2.1)]
 cases (!((b.2.1.1==a.2.1.1)&&((b.2.1.2.1==a.2.1.2.1)&&(b.2.1.2.2==a.2.1.2.2))))<;>cases (!(b.2.2.1==a.2.2.1))<;>rfl
def Jt:Row:=((⟨#[]⟩:ByteArray),(((0:Int),((0:Int),(0:Int))),(false,(0:Int))))
def U4 (s:ByteArray):List Row→Nat→Option Nat
 |[],_=>none
 |r::l,i=>bif teq r.1 s then some i else U4 s l (i+1)
def A6a (l:List Row) (s:ByteArray):Nat→Nat
 |0=>0
 |k+1=>bif tlt s (l.getD k Jt).1 then A6a l s k else k+1
def mrg (l:List Row) (x:Row):List Row:=match U4 x.1 l 0 with
 |some i=>bif I6 (l.getD i Jt) x then l.set i x else l
 |none=>l.take (A6a l x.1 l.length)++x::l.drop (A6a l x.1 l.length)
def A7a (l:List Row) (s:ByteArray):∀ k,A6a l s k≤k
 |0=>Vw _
 |k+1=>by
  unfold A6a
  cases tlt s (l.getD k Jt).1 with
  |true=>have:=A7a l s k;simp only[cond_true];omega
  |false=>simp only[cond_false];omega
def Oh {s:ByteArray}:∀ (l:List Row) (i j:Nat),U4 s l i=some j→i≤j∧j<i+l.length∧teq (l.getD (j-i) Jt).1 s=true
 |[],i,j,h=>by simp[U4]at h
 |r::l,i,j,h=>by
  unfold U4 at h
  cases ht:teq r.1 s with
  |true=>
   rw[ht]at h;simp only[cond_true,Vc]at h;subst h;refine⟨Vw _,by simp,?_⟩;rw[D1b];exact ht
  |false=>
   rw[ht]at h;simp only[cond_false]at h;obtain⟨h1,h2,h3⟩:=Oh l (i+1) j h;refine⟨by omega,by simp only[Vh];omega,?_⟩;rw[show j-i=(j-(i+1))+1 by omega];exact h3
def Bo {α:Type} {l:List α} {i:Nat} {d:α} (h:i<l.length):l.drop i=l.getD i d::l.drop (i+1):=by
 rw[Zi h,Vb,Ve h];rfl
def Few (l:List Row):Prop:=l.length≤1000000000000
def Cha (x:Row) (l0 l5:List Row) (h5:l5=l0):∀ (n:Nat) (i:Nat),l0.length-i=n→i≤l0.length→Few l0→
  Tot (λ k=>Dh k l0 l5 l0 (l0.length:Int) (i:Int) x.1 x.2.1.1 x.2.1.2.1 x.2.1.2.2 x.2.2.1 x.2.2.2) (λ r=>r=match U4 x.1 (l0.drop i) i with
   |some j => .inl (bif I6 (l0.getD j Jt) x then l0.set j x else l0)
   |none => .inr (l0,x.1,x.2.1.1,x.2.1.2.1,x.2.1.2.2,x.2.2.1,x.2.2.2)):=by
 subst h5;intro n
 induction n with
 |zero=>
  intro i hn hi hf;unfold Few at hf;refine Tot.succ ?_;simp only[Dh];refine Bwb (by omega) (Brb ?_);rw[Za (by omega)];rfl
 |succ n ih=>
  intro i hn hi hf;have hf':=hf;unfold Few at hf
  have hlt:i<l5.length:=by omega
  refine Tot.succ ?_;simp only[Dh];refine Bvb (by omega) (Bvb (by omega) (Bvb (by omega) ?_));have e0:toNat (i:Int)=i:=Vj i;rw[e0,Bo (d:=Jt) hlt];refine Bxb (λ ht=>?_) (λ ht=>?_)
  ·have ht':teq (l5.getD i Jt).1 x.1=true:=ht;refine C3b (C4b (Q:=λ r=>r=I6 (l5.getD i Jt) x) (N3a _ _) rfl) ?_;simp only[U4,ht',cond_true]
   cases hb:I6 (l5.getD i Jt) x with
   |true=>exact Bub rfl (Bvb (by omega) (Bvb (by omega) (Brb rfl)))
   |false=>exact Btb rfl (Brb rfl)
  ·have ht':teq (l5.getD i Jt).1 x.1=false:=ht;simp only[U4,ht',cond_false];rw[w64 (n:=(i:Int)+1) (by omega) (by omega)];exact ih (i+1) (by omega) (by omega) hf'
def A8a (x:Row) (l:List Row) (hf:Few l):∀ (i:Nat),i≤l.length→
  Tot (λ k=>Ct k l (i:Int) x.1 x.2.1.1 x.2.1.2.1 x.2.1.2.2 x.2.2.1 x.2.2.2) (λ r=>r=(l,(A6a l x.1 i:Int),x.1,x.2.1.1,x.2.1.2.1,x.2.1.2.2,x.2.2.1,x.2.2.2)):=by
 unfold Few at hf;intro i
 induction i with
 |zero=>
  intro hi;refine Tot.succ ?_;simp only[Ct];exact Bwb (by omega) (Brb rfl)
 |succ i ih=>
  intro hi;refine Tot.succ ?_;simp only[Ct];rw[w64 (n:=((i+1:Nat):Int)-1) (by omega) (by omega),show ((i+1:Nat):Int)-1=(i:Int) by omega,show toNat (i:Int)=i from Vj i];refine Bvb (by omega) (Bvb (by omega) (Bvb (by omega) ?_));have e:∀ z,(!(Op.bytesLess (l.getD i z).1.toList x.1.toList||(l.getD i z).1.toList==x.1.toList))=tlt x.1 (l.getD i z).1:=λ z=>Z0a _ _;rw[e]
  have hc:A6a l x.1 (i+1)=bif tlt x.1 (l.getD i Jt).1 then A6a l x.1 i else i+1:=rfl
  refine Bxb (λ ht=>?_) (λ ht=>?_)
  ·have ht':tlt x.1 (l.getD i Jt).1=true:=ht;rw[hc,ht',cond_true];exact ih (by omega)
  ·have ht':tlt x.1 (l.getD i Jt).1=false:=ht;rw[hc,ht',cond_false];exact Brb rfl
def Qb (l:List Row) (hf:Few l):Ai l=some l:=by
 unfold Few at hf;unfold Ai;rw[Zm (by simp only[Vq];omega)];rfl
def N4a (l:List Row) (x:Row) (hf:Few l):Tot (λ k=>Bz k l x) (λ r=>r=mrg l x):=by
 have hf':=hf;unfold Few at hf;unfold Bz;refine Bsb (C4b (Q:=λ r=>r=l) (Qb l hf') rfl) ?_;rintro r rfl;refine Bsb (Cha x r r rfl _ 0 rfl (Vv _) hf') ?_;rintro y rfl;rw[Zf];unfold mrg
 cases hfi:U4 x.1 r 0 with
 |some j=>exact Brb rfl
 |none=>
  simp only[Dwb];refine Bsb (A8a x r hf' r.length (Vw _)) ?_;rintro z rfl;have hc:=A7a r x.1 r.length;simp only;rw[show toNat ((A6a r x.1 r.length:Nat):Int)=A6a r x.1 r.length from Vj _];refine Bvb (by omega) (Bvb (by omega) ?_)
  have hft:Few (r.take (A6a r x.1 r.length)):=by unfold Few;rw[Vs];omega
  refine Bsb (C4b (Q:=λ q=>q=r.take (A6a r x.1 r.length)) (Qb _ hft) rfl) ?_;rintro q rfl;refine Bzb (by simp only[Vs,Vh,Vq];omega) ?_;refine Bvb (by omega) (Bvb (by omega) (Bzb (by simp only[Vi,Vs,Wf,Vh,Vq];omega) (Brb ?_)));rw[Vp];rfl

def Ss (a b:ByteArray):(a==b)=teq a b:=beq_toListBytes a b
def Rf {s:ByteArray}:∀ (l:List Row) (i:Nat),U4 s l i=none→∀ r∈l,r.1≠s
 |[],_,_,r,hr=>by simp at hr
 |a::l,i,h,r,hr=>by
  unfold U4 at h;cases ht:teq a.1 s
  case true=>rw[ht]at h;simp at h
  rw[ht]at h;rcases Vl.1 hr with rfl|hr
  ·intro e;rw[C6.2 e]at ht;cases ht
  ·exact Rf l (i+1) h r hr
def W9a (l:List Row) (x:Row):l.length≤(mrg l x).length∧(mrg l x).length≤l.length+1:=by
 unfold mrg;have hc:=A7a l x.1 l.length;split
 ·cases I6 (l.getD _ Jt) x<;>simp
 ·simp only[Vi,Vs,Vh,Wf];omega
def N5a {l:List Row} {x r:Row} (h:r∈mrg l x):r=x∨r∈l:=by
 unfold mrg at h;split at h
 ·rename_i j hj;cases hb:I6 (l.getD j Jt) x
  ·rw[hb]at h;exact .inr h
  rw[hb,cond_true]at h;rcases Ze h with h|h
  ·exact .inr h
  ·exact .inl h
 ·rcases Vm.1 h with h|h
  ·exact .inr (Zw h)
  ·rcases Vl.1 h with h|h
   ·exact .inl h
   ·exact .inr (Zq h)
def G5 (a:Stp):sle a a=false:=by
 cases h:sle a a with
 |false=>rfl
 |true=>rw[Ks]at h;omega
def Ay (l:List Row):Prop:=l.Pairwise (λ a b=>tlt a.1 b.1=true)
def Cia {l:List Row} {s:ByteArray} (hs:Ay l) (hn:∀ r∈l,r.1≠s):∀ k,k≤l.length→(∀ i,i<A6a l s k→tlt (l.getD i Jt).1 s=true)∧(∀ i,A6a l s k≤i→i<k→tlt s (l.getD i Jt).1=true)
 |0,_=>⟨λ i hi=>by simp[A6a]at hi,λ i _ hi=>by omega⟩
 |k+1,hk=>by
  unfold A6a
  cases ht:tlt s (l.getD k Jt).1 with
  |true=>
   simp only[cond_true];obtain⟨h1,h2⟩:=Cia hs hn k (by omega);refine⟨h1,λ i hi hik=>?_⟩
   by_cases e:i=k
   ·subst e;exact ht
   ·exact h2 i hi (by omega)
  |false=>
   simp only[cond_false];refine⟨λ i hi=>?_,λ i hi hik=>by omega⟩
   have hget:∀ j (hj:j<l.length),l.getD j Jt=l[j]:=λ j hj=>by rw[Vb,Ve hj];rfl
   have hkl:k<l.length:=by omega
   have hks:tlt (l.getD k Jt).1 s=true:=by
    cases h:tlt (l.getD k Jt).1 s
    case true=>rfl
    exfalso;exact hn (l.getD k Jt) (by rw[hget k hkl];exact Dyb hkl) (U3 h ht)
   by_cases e:i=k
   ·subst e;exact hks
   ·have h3:=(Yn.1 hs) i k (by omega) hkl (by omega);rw[hget i (by omega)];rw[hget k hkl]at hks;exact Iz h3 hks
def Oi {l:List Row} {x:Row} (hs:Ay l):Ay (mrg l x):=by
 have hget:∀ j (hj:j<l.length),l.getD j Jt=l[j]:=λ j hj=>by rw[Vb,Ve hj];rfl
 unfold mrg;split
 ·rename_i j hj;obtain⟨_,h2,h3⟩:=Oh l 0 j hj;rw[Dib]at h3
  have hjl:j<l.length:=by omega
  have hname:l[j].1=x.1:=by rw[← hget j hjl];exact C6.1 h3
  cases hb:I6 (l.getD j Jt) x
  ·exact hs
  rw[cond_true];unfold Ay;rw[Yn];intro a b ha hb hab;rw[Vt]at ha hb;have:=(Yn.1 hs) a b ha hb hab;rw[Esb,Esb]
  by_cases e1:j=a
  ·subst e1;rw[if_pos rfl,if_neg (by omega),← hname];exact this
  ·rw[if_neg e1]
   by_cases e2:j=b
   ·subst e2;rw[if_pos rfl,← hname];exact this
   ·rw[if_neg e2];exact this
 ·rename_i hj;have hn:=Rf l 0 hj;obtain⟨c1,c2⟩:=Cia hs hn l.length (Vw _);have hc:=A7a l x.1 l.length;unfold Ay;rw[Zg,Wa];refine⟨Dxb (Emb _ _) hs,⟨λ r hr=>?_,Dxb (List.drop_sublist _ _) hs⟩,λ r hr q hq=>?_⟩
  ·obtain⟨i,hi,rfl⟩:=Deb hr;rw[Wf]at hi;rw[List.getElem_drop,← hget _ (by omega)];exact c2 _ (by omega) (by omega)
  ·obtain⟨i,hi,rfl⟩:=Deb hr;rw[Vs]at hi
   have h1:tlt (List.take (A6a l x.1 l.length) l)[i].1 x.1=true:=by
    rw[D8b,← hget _ (by omega)];exact c1 i (by omega)
   rcases Vl.1 hq with rfl|hq
   ·exact h1
   ·refine Iz h1 ?_;obtain⟨m,hm,rfl⟩:=Deb hq;rw[Wf]at hm;rw[List.getElem_drop,← hget _ (by omega)];exact c2 _ (by omega) (by omega)

end Go.Proofs.YtcpligincipmhaaGreat.Vf
