import Derived.Test.YtiiekghlhfbmmaaMai
import Derived.Test.YtiiekghlhfbmmaaMab
import Derived.Test.YtiiekghlhfbmmaaProg
import Derived.KernelRfl
import Derived.IntWalk
import Derived.Laws.StructEq
set_option linter.all false
namespace Go.Proofs.Ytiiekghlhfbmmaa.Vf
open Go
open List (length getD)
open Int (toNat)
open Go.IntKind (wrap)
open BitVec (ofInt)
def Vl:=@Int.toNat_natCast
def Wd:=@Bool.true_and
def Wm:=@Bool.not_eq_false'
def Yq:=@List.mem_or_eq_of_mem_set
def Ys:=@Bool.false_and
def Yx:=@List.mem_iff_getElem
def Zg:=@List.pairwise_iff_getElem
def Zw:=@List.drop_of_length_le
def Yea:=@Int.tmod_eq_emod_of_nonneg
def Yra:=@List.find?_cons
def Yya:=@Sum.elim_inr
def Z9a:=@List.getElem_of_mem
def Zfa:=@Option.some.inj
def Zra:=@List.Pairwise.sublist
def Aab:=@BitVec.toNat_ofInt
def Adb:=@List.mem_of_find?_eq_some
def Afb:=@List.take_sublist
def Alb:=@List.getElem_set
def Aob:=@Bool.and_eq_false_iff

section
open Go.RowKit
attribute [local irreducible] C H
def lk {α:Type}:List (Nat×α)→Nat→Option α
 |[],_=>none
 |(i,a)::l,n=>bif Nat.beq n i then some a else lk l n
structure LF where
 ins:Xd
 alts:List (Ex×Xd)
 f:Nat→ins.den→Option (Mha alts)
@[reducible] def LF.at (p:LF) (k:Nat):Lp:=⟨p.ins,p.alts,p.f k⟩
structure Fd where
 nt:Nat
 nv:Nat
 nm:List Nat
 res:List Nat
 cs:Nat→List (FuncId×Ent):=λ _=>[]
 ls:List (Nat×LF):=[]
 hint:List (Nat×Ty):=[]
 mv:List Nat:=[]
 gh:List (Nat×List Gh):=[]
 opn:List Nat:=[]
 sh:Bool:=false
 rf:Bool:=false
def Fd.n (D:Fd) (ti:TypeId→Option TI) (eqs:TypeId→Bool) (k:Nat):En:=
 ⟨D.nt,ti,eqs,D.nm.contains,D.res.contains,lk (D.cs k),λ l=>match lk D.ls l with|some p=>some (p.at k)|none=>none,D.nv,lk D.hint,D.mv.contains,λ n=>(lk D.gh n).getD [],D.opn.contains,λ _=>D.sh,D.rf⟩
def Q6a {α:Type}:∀ {l:List (Nat×α)} {n:Nat} {a:α},lk l n=some a→n∈l.map Prod.fst
 |[],_,_,h=>by cases h
 |(i,b)::l,n,a,h=>by
  unfold lk at h
  cases hb:Nat.beq n i
  case true=>rw[Ve hb];simp
  rw[hb,cond_false]at h
  exact Vd _ (Q6a h)
def Sca (P:Program):List (FuncId×Ent)→Prop
 |[]=>True
 |c::l=>Jy P c.1 c.2∧Sca P l
def K9a {P:Program}:∀ {l:List (FuncId×Ent)} {f:FuncId} {en:Ent},Sca P l→lk l f=some en→Jy P f en
 |[],_,_,_,h=>by cases h
 |(i,a)::l,f,en,hc,h=>by
  unfold lk at h
  cases hb:Nat.beq f i with
  |true=>
   rw[hb,cond_true]at h
   cases h
   rw[Ve hb]
   exact hc.1
  |false=>rw[hb,cond_false]at h;exact K9a hc.2 h
@[reducible] def bo (fn:Func):Code:=fn.body.getD .skip
structure Rn (P:Program) (ti:TypeId→Option TI) (eqs:TypeId→Bool):Prop where
 tok:∀ T t,ti T=some t→TOk P T t
 eq:∀ T,eqs T=true→eqB P ti 9 T=true∧(match ti T with|some t=>t.ag|none=>false)=true∧P.eqGuardType P.depth T=false
 mix:P.follows .mixedOrders=true
def LK (P:Program) (fn:Func) (D:Fd) (l:Nat) (p:LF):Prop:=∀ X:Cx,X.P=P→X.nt=fn.ntmps→X.np=D.nv→∀ k,Z4 X (p.at k) (Gj l (bo fn))
def Sda (P:Program) (fn:Func) (D:Fd):List Nat→Prop
 |[]=>True
 |l::r=>(match lk D.ls l with|some p=>LK P fn D l p|none=>True)∧Sda P fn D r
def Kaa {P:Program} {fn:Func} {D:Fd} {l:Nat} {p:LF} (hp:lk D.ls l=some p):∀ {r:List Nat},Sda P fn D r→l∈r→LK P fn D l p
 |[],_,h=>by cases h
 |i::r,ha,h=>by
  rcases Vk.1 h with rfl|h
  ·have:=ha.1
   rw[hp]at this
   exact this
  ·exact Kaa hp ha.2 h
section
variable {P:Program} {ti:TypeId→Option TI} {eqs:TypeId→Bool} {fn:Func}
def Wla (hS:Rn P ti eqs) {D:Fd} {k:Nat} (hn:Nat.beq D.nt fn.ntmps=true) (hc:Sca P (D.cs k)) {X:Cx} (hP:X.P=P) (hx:X.nt=fn.ntmps) (hp:X.np=D.nv):Rb X (D.n ti eqs k):=
 Usa hP ((Ve hn).trans hx.symm) hp.symm rfl rfl hS.tok hS.eq (λ _ _ h=>K9a hc h)
def Uta (hS:Rn P ti eqs) {D:Fd} {k:Nat} (hn:Nat.beq D.nt fn.ntmps=true) (hc:Sca P (D.cs k)) {X:Cx} (hP:X.P=P) (hx:X.nt=fn.ntmps) (hp:X.np=D.nv):Z5 X (D.n ti eqs k):=
 Saa (Wla hS hn hc hP hx hp) (by rw[hP];exact hS.mix)
def Q7a {D:Fd} {k:Nat} {c:Code} {ids:List Nat} (h:(H9 c,ids.map λ l=>first (Gj l (bo fn)))=(ids.map λ l=>Gj l (bo fn),ids)) (hi:Sda P fn D ids) {X:Cx} (hP:X.P=P) (hx:X.nt=fn.ntmps) (hp:X.np=D.nv):Iu X (D.n ti eqs k) c:=by
 rw[Vy]at h
 refine Nxa (b:=bo fn) ids h.1 h.2 λ l hl L hL=>?_
 have hL':(match lk D.ls l with|some p=>some (p.at k)|none=>none)=some L:=hL
 cases hp':lk D.ls l with
 |none=>rw[hp']at hL';cases hL'
 |some p=>
  rw[hp']at hL'
  cases hL'
  exact Kaa hp' hi hl X hP hx hp k
@[reducible] def X9a (ti:TypeId→Option TI) (eqs:TypeId→Bool) (fn:Func) (D:Fd) (l:Nat) (p:LF):Prop:=∀ k x,I3a (D.n ti eqs k) (p.at k) (Gj l (bo fn)) x=p.f (k+1) x
def mkL (hS:Rn P ti eqs) {D:Fd} {l:Nat} {p:LF} (ids:List Nat) (hn:Nat.beq D.nt fn.ntmps=true) (hc:∀ k,Sca P (D.cs k)) (hi:Sda P fn D ids) (h:(H9 (Gj l (bo fn)),ids.map λ l=>first (Gj l (bo fn)))=(ids.map λ l=>Gj l (bo fn),ids)) (h0:∀ x,p.f 0 x=none) (hs:X9a ti eqs fn D l p):LK P fn D l p:=
 λ X hP hx hp=>Rwa (ins:=p.ins) (alts:=p.alts) (f:=p.f) (En':=D.n ti eqs) h0 hs (λ k=>Wla hS hn (hc k) hP hx hp) (λ k=>Uta hS hn (hc k) hP hx hp) (λ k=>Q7a h hi hP hx hp)
def Wma (fn:Func) (D:Fd) (en:Ent):Bool:=Nat.beq D.nt fn.ntmps&&(Nat.ble fn.ntmps 1000&&(Nat.ble en.nv fn.ntmps&&(Nat.beq en.nv D.nv&&(fn.body.isSome&&(!(fn.name == "runtime.NumGoroutine")&&Cda en)))))
def mkS (hS:Rn P ti eqs) {f:FuncId} {D:Fd} {k:Nat} {en:Ent} (ids:List Nat) (hf:P.funcs[f]? = some fn) (hc:Sca P (D.cs k)) (hi:Sda P fn D ids) (hk:Wma fn D en=true) (h:(H9 (bo fn),ids.map λ l=>first (Gj l (bo fn)))=(ids.map λ l=>Gj l (bo fn),ids))
  (hr:∀ x,I4a (D.n ti eqs k) (bo fn) fn.results.toList en x=en.run x):Jy P f en:=by
 unfold Wma at hk
 simp only[Va,Vu]at hk
 obtain⟨h1,h2,h3,h4,h5,h6,h7⟩:=hk
 have h4:=Ve h4
 have hb:fn.body=some (bo fn):=by
  unfold bo
  cases hb:fn.body with
  |none=>rw[hb]at h5;cases h5
  |some c=>rfl
 refine⟨⟨fn,hf,h6,by rw[hb];rfl⟩,Gja hf hb (Vj h2) (Vj h3) (λ X hP hx hp=>?_) (λ X hP hx hp=>?_) (λ X hP hx hp=>?_) h7 hr⟩
 ·exact Wla hS h1 hc hP hx (hp.trans h4)
 ·exact Uta hS h1 hc hP hx (hp.trans h4)
 ·exact Q7a h hi hP hx (hp.trans h4)
def Wna {keys Tma:List Nat} (hk:∀ {T t},ti T=some t→T∈keys) (h1:(keys.all λ T=>(match ti T with|some t=>Wga P T t|none=>true)&&Nz P ti T)=true)
  (h2:(Tma.all λ T=>eqB P ti 9 T&&(match ti T with|some t=>t.ag|none=>false)&&!(P.eqGuardType P.depth T))=true) (he:eqs=λ T=>Tma.contains T) (hm:P.follows .mixedOrders=true):Rn P ti eqs∧∀ T,Nz P ti T=true:=by
 refine⟨⟨λ T t h=>?_,λ T h=>?_,hm⟩,λ T=>?_⟩
 ·have h3:=We.1 h1 T (hk h)
  rw[Va,h]at h3
  exact Tza _ _ _ h3.1
 ·rw[he]at h
  have h3:=We.1 h2 T (List.elem_iff.1 h)
  simp only[Va,Vu]at h3
  exact⟨h3.1.1,h3.1.2,h3.2⟩
 ·cases h:ti T with
  |none=>unfold Nz;rw[h]
  |some t=>
   have h3:=We.1 h1 T (hk h)
   rw[Va]at h3
   exact h3.2
end
end

section
open Go.Proofs
@[reducible] def t0:Ty := .sl 9 .s
@[reducible] def t1:Ty := .sl 5 (.i .u8)
@[reducible] def t2:Ty := .ow 5 (.i .u8)
@[reducible] def t3:Ty := .sl 3 (.i .i64)
@[reducible] def t4:Ty := .ow 3 (.i .i64)
@[reducible] def t5:Ty := .pr .s (.i .u64)
@[reducible] def t6:Ty := .pr (.i .i64) (.i .i64)
@[reducible] def t7:Ty := .sl 70 t3
@[reducible] def t8:Ty := .pr .s t1
@[reducible] def t9:Ty := .sl 84 t8
@[reducible] def t10:Ty := .ow 84 t8
@[reducible] def t11:Ty := .pr (.i .i64) t6
@[reducible] def t12:Ty := .pr (.i .i64) t7
@[reducible] def t13:Ty := .pr (.i .i64) (.ow 70 t4)
@[reducible] def t14:Ty := .pr (.i .i64) (.ow 70 t3)
@[reducible] def t15:Ty := .pr t1 (.pr (.i .i64) .b)
@[reducible] def t16:Ty := .pr t1 t6
@[reducible] def t17:Ty := .sl 46 t11
@[reducible] def t18:Ty := .ow 46 t11
@[reducible] def t19:Ty := .pr (.i .i64) (.pr (.i .i64) (.pr .b (.i .u8)))
@[reducible] def t20:Ty := .pr t11 (.pr .b t1)
@[reducible] def t21:Ty := .pr t11 (.pr .b t2)
@[reducible] def t22:Ty := .pr t9 t9
@[reducible] def t23:Ty := .pr .s (.pr t11 (.pr .b (.i .i64)))
@[reducible] def t24:Ty := .sl 56 t23
@[reducible] def t25:Ty := .ow 56 t23
@[reducible] def t26:Ty := .pr .s (.pr t20 .b)
@[reducible] def t27:Ty := .sl 79 t26
@[reducible] def t28:Ty := .pr (.i .i64) (.pr t22 (.pr t24 t24))
@[reducible] def t29:Ty := .pr (.i .i64) (.pr (.pr t10 t10) (.pr t25 t25))
@[reducible] def t30:Ty := .sl 44 t28
@[reducible] def t31:Ty := .pr (.ow 44 t28) (.pr t11 (.pr (.ow 79 t26) (.ow 9 .s)))
@[reducible] def t32:Ty := .pr t17 (.pr t12 (.pr t30 (.pr t11 (.pr t27 t0))))
@[reducible] def t33:Ty := .pr t18 (.pr t12 t31)
@[reducible] def t34:Ty := .pr t18 (.pr t14 t31)
def tiL:List (Nat×TI):=[(2,⟨(.i .i64),false,8,[]⟩),
 (3,⟨(.i .i64),false,8,[]⟩),
 (4,⟨.b,false,1,[]⟩),
 (5,⟨(.i .u8),false,1,[]⟩),
 (6,⟨(.i .u8),false,1,[]⟩),
 (7,⟨t19,true,24,[(0,1,false),(1,1,false),(2,1,false),(3,1,false)]⟩),
 (8,⟨t19,true,24,[(0,1,false),(1,1,false),(2,1,false),(3,1,false)]⟩),
 (9,⟨.s,false,16,[]⟩),
 (10,⟨.s,false,16,[]⟩),
 (11,⟨.s,false,16,[]⟩),
 (12,⟨(.i .u64),false,8,[]⟩),
 (13,⟨t5,true,24,[(0,1,false),(1,1,false)]⟩),
 (14,⟨t5,true,24,[(0,1,false),(1,1,false)]⟩),
 (21,⟨(.i .i32),false,4,[]⟩),
 (22,⟨t1,false,24,[]⟩),
 (24,⟨t17,false,24,[]⟩),
 (27,⟨t7,false,24,[]⟩),
 (28,⟨t12,true,32,[(0,1,false),(1,1,false)]⟩),
 (29,⟨t12,true,32,[(0,1,false),(1,1,false)]⟩),
 (30,⟨t30,false,24,[]⟩),
 (31,⟨t11,true,24,[(0,1,false),(1,1,false),(2,1,false)]⟩),
 (32,⟨t11,true,24,[(0,1,false),(1,1,false),(2,1,false)]⟩),
 (33,⟨t27,false,24,[]⟩),
 (34,⟨t0,false,24,[]⟩),
 (35,⟨t32,true,152,[(0,1,false),(1,2,true),(3,1,false),(4,3,true),(7,1,false),(8,1,false)]⟩),
 (36,⟨t32,true,152,[(0,1,false),(1,2,true),(3,1,false),(4,3,true),(7,1,false),(8,1,false)]⟩),
 (39,⟨t9,false,24,[]⟩),
 (40,⟨t22,true,48,[(0,1,false),(1,1,false)]⟩),
 (41,⟨t22,true,48,[(0,1,false),(1,1,false)]⟩),
 (42,⟨t24,false,24,[]⟩),
 (43,⟨t28,true,104,[(0,1,false),(1,2,true),(3,1,false),(4,1,false)]⟩),
 (44,⟨t28,true,104,[(0,1,false),(1,2,true),(3,1,false),(4,1,false)]⟩),
 (45,⟨t11,true,24,[(0,1,false),(1,1,false),(2,1,false)]⟩),
 (46,⟨t11,true,24,[(0,1,false),(1,1,false),(2,1,false)]⟩),
 (55,⟨t23,true,56,[(0,1,false),(1,3,true),(4,1,false),(5,1,false)]⟩),
 (56,⟨t23,true,56,[(0,1,false),(1,3,true),(4,1,false),(5,1,false)]⟩),
 (67,⟨t3,false,24,[]⟩),
 (69,⟨t3,true,24,[(0,1,false)]⟩),
 (70,⟨t3,true,24,[(0,1,false)]⟩),
 (76,⟨t20,true,56,[(0,3,true),(3,1,false),(4,1,false)]⟩),
 (77,⟨t20,true,56,[(0,3,true),(3,1,false),(4,1,false)]⟩),
 (78,⟨t26,true,80,[(0,1,false),(1,5,true),(6,1,false)]⟩),
 (79,⟨t26,true,80,[(0,1,false),(1,5,true),(6,1,false)]⟩),
 (83,⟨t8,true,40,[(0,1,false),(1,1,false)]⟩),
 (84,⟨t8,true,40,[(0,1,false),(1,1,false)]⟩),
 (101,⟨t16,true,40,[(0,1,false),(1,1,false),(2,1,false)]⟩),
 (102,⟨t16,true,40,[(0,1,false),(1,1,false),(2,1,false)]⟩),
 (107,⟨t15,true,40,[(0,1,false),(1,1,false),(2,1,false)]⟩),
 (108,⟨t15,true,40,[(0,1,false),(1,1,false),(2,1,false)]⟩),
 (125,⟨(.i .u64),false,8,[]⟩),
 (133,⟨(.i .u32),false,4,[]⟩),
 (140,⟨(.i .u8),false,1,[]⟩),
 (141,⟨(.i .u8),false,1,[]⟩),
 (144,⟨(.i .i32),false,4,[]⟩),
 (145,⟨(.i .i32),false,4,[]⟩)]
def ti:TypeId→Option TI:=lk tiL
def Tma:List Nat:=[31,32,45,46,55,56]
def eqs:TypeId→Bool:=λ T=>Tma.contains T
def sK:Rn Try.prog ti eqs∧∀ T,Nz Try.prog ti T=true:=Wna (P:=Try.prog) (ti:=ti) (eqs:=eqs) (keys:=tiL.map Prod.fst) (Tma:=Tma) Q6a (by kernel_rfl) (by kernel_rfl) rfl (by kernel_rfl)
def sO:Rn Try.prog ti eqs:=sK.1
def Xha:∀ T t,ti T=some t→TOk Try.prog T t:=sO.tok
def Xia:∀ T,Nz Try.prog ti T=true:=sK.2
abbrev CK:=Jy Try.prog
abbrev LL:=LK Try.prog
abbrev AC:=Sca Try.prog
def mS {f:FuncId} {fn:Func} (D:Fd) (k:Nat) {en:Ent} (ids:List Nat) (hf:Try.prog.funcs[f]? = some fn) (hc:AC (D.cs k)) (hi:Sda Try.prog fn D ids) (h:(Wma fn D en,H9 (bo fn),ids.map λ l=>first (Gj l (bo fn)))=(true,ids.map λ l=>Gj l (bo fn),ids):=by kernel_rfl) (hr:∀ x,I4a (D.n ti eqs k) (bo fn) fn.results.toList en x=en.run x:=by intro x;kernel_rfl):CK f en:=mkS sO ids hf hc hi (congrArg Prod.fst h) (congrArg Prod.snd h) hr
def mL {fn:Func} {D:Fd} {l:Nat} {p:LF} (ids:List Nat) (hc:∀ k,AC (D.cs k)) (hi:Sda Try.prog fn D ids) (h:(Nat.beq D.nt fn.ntmps,H9 (Gj l (bo fn)),ids.map λ l=>first (Gj l (bo fn)))=(true,ids.map λ l=>Gj l (bo fn),ids):=by kernel_rfl) (h0:∀ x,p.f 0 x=none:=by intro _;rfl) (hs:X9a ti eqs fn D l p:=by intro k x;kernel_rfl):LL fn D l p:=mkL sO ids (congrArg Prod.fst h) hc hi (congrArg Prod.snd h) h0 hs
def I8.e (k:Nat):Ent:=⟨1,[(.val false t1)],[(.one,.b)],λ x=>I8 x⟩
def I8.d:Fd := { nt:=6,nv:=1,nm:=[0,1],res:=[2] }
def I8.s (k:Nat):CK 4 (I8.e k):=mS I8.d k [] Try.func4 trivial trivial
def Fz.e (k:Nat):Ent:=⟨1,[(.val false t1)],[(.ptr,t16)],λ x=>Fz k x⟩
def E3.p:LF:=⟨⟨[],[(0,t1),(3,(.i .i64)),(4,(.i .i64))]⟩,[((.exit 0),⟨[],[(0,t1),(3,(.i .i64))]⟩)],λ k x=>E3 k x.1 x.2.1 x.2.2⟩
def Fz.d:Fd := { nt:=32,nv:=1,nm:=[0,1,3,4],res:=[2],ls:=[(3,E3.p)] }
def E3.s:LL Try.f32 Fz.d 3 E3.p:=mL [] (λ _=>trivial) trivial
def Fz.s (k:Nat):CK 32 (Fz.e k):=mS Fz.d k [3] Try.func32 trivial ⟨E3.s,trivial⟩
def E4.e (k:Nat):Ent:=⟨1,[(.ptr t16 t16)],[(.one,(.i .i64))],λ x=>E4 x⟩
def E4.d:Fd := { nt:=58,nv:=1,nm:=[0,1,3],res:=[2] }
def E4.s (k:Nat):CK 74 (E4.e k):=mS E4.d k [] Try.func74 trivial trivial
def Ax.e (k:Nat):Ent:=⟨2,[(.ptr t16 t16),(.val false (.i .i64))],[(.one,(.i .i64))],λ x=>Ax x.1 x.2⟩
def Ax.d:Fd := { nt:=31,nv:=2,nm:=[0,1,2,3,5,6,7],res:=[4],cs:=λ k=>[(74,E4.e k)] }
def Ax.s (k:Nat):CK 60 (Ax.e k):=mS Ax.d k [] Try.func60 ⟨E4.s k,trivial⟩ trivial
def C7.e (k:Nat):Ent:=⟨2,[(.ptr t16 t16),(.val false t3)],[(.one,(.i .i64))],λ x=>C7 x.1 x.2⟩
def C7.d:Fd := { nt:=12,nv:=2,nm:=[0,1,2,3],res:=[4],cs:=λ k=>[(60,Ax.e k)] }
def C7.s (k:Nat):CK 34 (C7.e k):=mS C7.d k [] Try.func34 ⟨Ax.s k,trivial⟩ trivial
def Cw.e (k:Nat):Ent:=⟨1,[(.ptr t16 t16)],[(.one,t18)],λ x=>Cw k x⟩
def D9.p:LF:=⟨⟨[(0,(.bp 0 0 0)),(1999,(.hd 3))],[(3,t18),(4,(.i .i64)),(5,(.i .i64)),(6,(.i .i64)),(1000,t16)]⟩,[((.exit 0),⟨[(1999,(.hd 3))],[(3,t18),(1000,t16)]⟩)],λ k x=>D9 k x.1 x.2.1 x.2.2.1 x.2.2.2.1 x.2.2.2.2⟩
def Cw.d:Fd := { nt:=35,nv:=1,nm:=[0,1,3,4,5,6],res:=[2],cs:=λ k=>[(34,C7.e k),(60,Ax.e k)],ls:=[(5,D9.p)],rf:=true }
def Cw.a (k:Nat):AC (Cw.d.cs k):=⟨C7.s k,Ax.s k,trivial⟩
def D9.s:LL Try.f59 Cw.d 5 D9.p:=mL [] Cw.a trivial
def Cw.s (k:Nat):CK 59 (Cw.e k):=mS Cw.d k [5] Try.func59 (Cw.a k) ⟨D9.s,trivial⟩
def G9.e (k:Nat):Ent:=⟨1,[(.ptr t16 t16)],[(.one,t17)],λ x=>G9 k x⟩
def G9.d:Fd := { nt:=45,nv:=1,nm:=[0,1,3,4],res:=[2],cs:=λ k=>[(34,C7.e k),(59,Cw.e k),(60,Ax.e k)],rf:=true }
def G9.s (k:Nat):CK 33 (G9.e k):=mS G9.d k [] Try.func33 ⟨C7.s k,Cw.s k,Ax.s k,trivial⟩ trivial
def Dz.e (k:Nat):Ent:=⟨1,[(.val false t1)],[(.one,t17),(.one,(.i .i64)),(.one,(.i .i64))],λ x=>Dz k x⟩
def Dz.d:Fd := { nt:=16,nv:=1,nm:=[0,1,5],res:=[2,3,4],cs:=λ k=>[(32,Fz.e k),(33,G9.e k),(34,C7.e k)],rf:=true }
def Dz.s (k:Nat):CK 13 (Dz.e k):=mS Dz.d k [] Try.func13 ⟨Fz.s k,G9.s k,C7.s k,trivial⟩ trivial
def C8.e (k:Nat):Ent:=⟨1,[(.val false t1)],[(.one,t17),(.one,(.i .i64)),(.one,(.i .i64))],λ x=>C8 k x⟩
def C8.d:Fd := { nt:=10,nv:=1,nm:=[0,1],res:=[2,3,4],cs:=λ k=>[(13,Dz.e k)],rf:=true }
def C8.s (k:Nat):CK 5 (C8.e k):=mS C8.d k [] Try.func5 ⟨Dz.s k,trivial⟩ trivial
def Bu.e (k:Nat):Ent:=⟨3,[(.val false (.i .i64)),(.val false (.i .i64)),(.val false (.i .i64))],[(.one,.b)],λ x=>Bu x.1 x.2.1 x.2.2⟩
def Bu.d:Fd := { nt:=15,nv:=3,nm:=[0,1,2,3,4,5],res:=[6] }
def Bu.s (k:Nat):CK 22 (Bu.e k):=mS Bu.d k [] Try.func22 trivial trivial
def D0.e (k:Nat):Ent:=⟨1,[(.val false (.i .i64))],[(.agg,t29)],λ x=>D0 x⟩
def D0.d:Fd := { nt:=9,nv:=1,nm:=[0,1],res:=[],cs:=λ k=>[(22,Bu.e k)],rf:=true }
def D0.s (k:Nat):CK 10 (D0.e k):=mS D0.d k [] Try.func10 ⟨Bu.s k,trivial⟩ trivial
def B1.e (k:Nat):Ent:=⟨1,[(.val false t17)],[(.one,.b)],λ x=>B1 k x⟩
def Cn.p:LF:=⟨⟨[],[(0,t17),(5,t17),(6,(.i .i64)),(7,(.i .i64))]⟩,[(.ret,⟨[],[(2,.b)]⟩),((.exit 0),⟨[],[(0,t17)]⟩)],λ k x=>Cn k x.1 x.2.1 x.2.2.1 x.2.2.2⟩
def B1.d:Fd := { nt:=47,nv:=1,nm:=[0,1,3,4],res:=[2],cs:=λ k=>[(22,Bu.e k)],ls:=[(2,Cn.p)],rf:=true }
def B1.a (k:Nat):AC (B1.d.cs k):=⟨Bu.s k,trivial⟩
def Cn.s:LL Try.f35 B1.d 2 Cn.p:=mL [] B1.a trivial
def B1.s (k:Nat):CK 35 (B1.e k):=mS B1.d k [2] Try.func35 (B1.a k) ⟨Cn.s,trivial⟩
def Ar.e (k:Nat):Ent:=⟨2,[(.val false t3),(.val false (.i .i64))],[(.one,.b)],λ x=>Ar k x.1 x.2⟩
def Da.p:LF:=⟨⟨[],[(1,(.i .i64)),(7,t3),(8,(.i .i64)),(9,(.i .i64))]⟩,[(.ret,⟨[],[(4,.b)]⟩),((.exit 0),⟨[],[]⟩)],λ k x=>Da k x.1 x.2.1 x.2.2.1 x.2.2.2⟩
def Ar.d:Fd := { nt:=17,nv:=2,nm:=[0,1,2,3,5,6],res:=[4],ls:=[(2,Da.p)],rf:=true }
def Da.s:LL Try.f57 Ar.d 2 Da.p:=mL [] (λ _=>trivial) trivial
def Ar.s (k:Nat):CK 57 (Ar.e k):=mS Ar.d k [2] Try.func57 trivial ⟨Da.s,trivial⟩
def Ez.e (k:Nat):Ent:=⟨2,[(.val false t17),(.val false (.i .i64))],[(.agg,t11),(.one,.b)],λ x=>Ez k x.1 x.2⟩
def E5.p:LF:=⟨⟨[(4,(.bp 4 0 0)),(5999,(.hd 3))],[(1,(.i .i64)),(8,t17),(9,(.i .i64)),(10,(.i .i64)),(5000,t11)]⟩,[(.ret,⟨[(4,(.bp 4 0 0)),(5999,(.hd 3))],[(5,.b),(5000,t11)]⟩),((.exit 0),⟨[(4,(.bp 4 0 0)),(5999,(.hd 3))],[(5000,t11)]⟩)],λ k x=>E5 k x.1 x.2.1 x.2.2.1 x.2.2.2.1 x.2.2.2.2⟩
def Ez.d:Fd := { nt:=21,nv:=2,nm:=[0,1,2,3,6,7],res:=[5],ls:=[(2,E5.p)],rf:=true }
def E5.s:LL Try.f41 Ez.d 2 E5.p:=mL [] (λ _=>trivial) trivial
def Ez.s (k:Nat):CK 41 (Ez.e k):=mS Ez.d k [2] Try.func41 trivial ⟨E5.s,trivial⟩
def C9.e (k:Nat):Ent:=⟨2,[(.val false t3),(.val false t17)],[(.one,t4)],λ x=>C9 k x.1 x.2⟩
def Be.p:LF:=⟨⟨[],[(1,t17),(5,t4),(10,t3),(11,(.i .i64)),(12,(.i .i64))]⟩,[((.exit 0),⟨[],[(5,t4)]⟩)],λ k x=>Be k x.1 x.2.1 x.2.2.1 x.2.2.2.1 x.2.2.2.2⟩
def C9.d:Fd := { nt:=37,nv:=2,nm:=[0,1,2,3,5,6,7,8,9],res:=[4],cs:=λ k=>[(41,Ez.e k),(57,Ar.e k)],ls:=[(3,Be.p)],rf:=true }
def C9.a (k:Nat):AC (C9.d.cs k):=⟨Ez.s k,Ar.s k,trivial⟩
def Be.s:LL Try.f61 C9.d 3 Be.p:=mL [] C9.a trivial
def C9.s (k:Nat):CK 61 (C9.e k):=mS C9.d k [3] Try.func61 (C9.a k) ⟨Be.s,trivial⟩
def F3.e (k:Nat):Ent:=⟨2,[(.val true t12),(.val false (.i .i64))],[(.one,(.i .i64))],λ x=>F3 k x.1 x.2⟩
def Co.p:LF:=⟨⟨[],[(1,(.i .i64)),(5,(.i .i64)),(11,t7),(12,(.i .i64)),(13,(.i .i64)),(18,t3),(19,(.i .i64)),(20,(.i .i64))]⟩,[((.exit 2),⟨[],[(1,(.i .i64)),(5,(.i .i64)),(11,t7),(12,(.i .i64)),(13,(.i .i64))]⟩)],λ k x=>Co k x.1 x.2.1 x.2.2.1 x.2.2.2.1 x.2.2.2.2.1 x.2.2.2.2.2.1 x.2.2.2.2.2.2.1 x.2.2.2.2.2.2.2⟩
def Db.p:LF:=⟨⟨[],[(1,(.i .i64)),(5,(.i .i64)),(11,t7),(12,(.i .i64)),(13,(.i .i64))]⟩,[((.exit 0),⟨[],[(5,(.i .i64))]⟩)],λ k x=>Db k x.1 x.2.1 x.2.2.1 x.2.2.2.1 x.2.2.2.2⟩
def F3.d:Fd := { nt:=32,nv:=2,nm:=[0,1,2,3,5,6,7,8,9],res:=[4],ls:=[(6,Co.p),(3,Db.p)],rf:=true }
def Co.s:LL Try.f62 F3.d 6 Co.p:=mL [] (λ _=>trivial) trivial
def Db.s:LL Try.f62 F3.d 3 Db.p:=mL [6] (λ _=>trivial) ⟨Co.s,trivial⟩
def F3.s (k:Nat):CK 62 (F3.e k):=mS F3.d k [3] Try.func62 trivial ⟨Db.s,trivial⟩
def Fm.e (k:Nat):Ent:=⟨3,[(.val true t12),(.val true t3),(.val false t17)],[(.one,(.i .i64))],λ x=>Fm k x.1 x.2.1 x.2.2⟩
def An.p:LF:=⟨⟨[(3,(.bp 3 0 0)),(4,(.bp 4 0 0)),(8,(.bp 8 0 0)),(4999,(.hd 2)),(5999,(.hd 1)),(9999,(.hd 3))],[(7,t4),(9,(.i .i64)),(10,.b),(23,t17),(24,(.i .i64)),(25,(.i .i64)),(4000,t12),(5000,t3),(9000,t11)]⟩,[((.exit 0),⟨[(8,(.bp 8 0 0)),(9999,(.hd 3))],[(9000,t11)]⟩)],λ k x=>An k x.1 x.2.1 x.2.2.1 x.2.2.2.1 x.2.2.2.2.1 x.2.2.2.2.2.1 x.2.2.2.2.2.2.1 x.2.2.2.2.2.2.2.1 x.2.2.2.2.2.2.2.2⟩
def Fm.d:Fd := { nt:=76,nv:=3,nm:=[0,1,2,3,4,5,7,8,9,10,11,12,13,14],res:=[6],cs:=λ k=>[(35,B1.e k),(57,Ar.e k),(61,C9.e k),(62,F3.e k)],ls:=[(6,An.p)],rf:=true }
def Fm.a (k:Nat):AC (Fm.d.cs k):=⟨B1.s k,Ar.s k,C9.s k,F3.s k,trivial⟩
def An.s:LL Try.f36 Fm.d 6 An.p:=mL [] Fm.a trivial
def Fm.s (k:Nat):CK 36 (Fm.e k):=mS Fm.d k [6] Try.func36 (Fm.a k) ⟨An.s,trivial⟩
def D5.e (k:Nat):Ent:=⟨3,[(.val false t17),(.val false (.i .i64)),(.val false (.i .i64))],[(.agg,t13),(.one,.b)],λ x=>D5 k x.1 x.2.1 x.2.2⟩
def E6.p:LF:=⟨⟨[(6,(.bp 6 0 0)),(8,(.bp 8 0 0)),(7999,(.hd 2)),(9999,(.hd 2))],[(0,t17),(2,(.i .i64)),(9,(.i .i64)),(34,(.i .i64)),(35,(.i .i64)),(44,(.i .i64)),(45,(.i .i64)),(7000,t14),(9000,t13)]⟩,[((.exit 2),⟨[(6,(.bp 6 0 0)),(8,(.bp 8 0 0)),(7999,(.hd 2)),(9999,(.hd 2))],[(0,t17),(2,(.i .i64)),(34,(.i .i64)),(35,(.i .i64)),(7000,t14),(9000,t13)]⟩)],λ k x=>E6 k x.1 x.2.1 x.2.2.1 x.2.2.2.1 x.2.2.2.2.1 x.2.2.2.2.2.1 x.2.2.2.2.2.2.1 x.2.2.2.2.2.2.2.1 x.2.2.2.2.2.2.2.2⟩
def E7.p:LF:=⟨⟨[(6,(.bp 6 0 0)),(8,(.bp 8 0 0)),(7999,(.hd 2)),(9999,(.hd 2))],[(0,t17),(2,(.i .i64)),(34,(.i .i64)),(35,(.i .i64)),(7000,t14),(9000,t13)]⟩,[((.exit 0),⟨[(6,(.bp 6 0 0)),(8,(.bp 8 0 0)),(7999,(.hd 2)),(9999,(.hd 2))],[(7000,t14),(9000,t13)]⟩)],λ k x=>E7 k x.1 x.2.1 x.2.2.1 x.2.2.2.1 x.2.2.2.2.1 x.2.2.2.2.2⟩
def D5.d:Fd := { nt:=70,nv:=3,nm:=[0,1,2,3,4,5,8,9,10,11],res:=[7],cs:=λ k=>[(22,Bu.e k),(35,B1.e k),(36,Fm.e k)],ls:=[(9,E6.p),(5,E7.p)],hint:=[(41,t4),(42,t4)],mv:=[69],gh:=[(12,[.od 10 3001]),(1000010,[.cl 9001])],rf:=true }
def D5.a (k:Nat):AC (D5.d.cs k):=⟨Bu.s k,B1.s k,Fm.s k,trivial⟩
def E6.s:LL Try.f14 D5.d 9 E6.p:=mL [] D5.a trivial
def E7.s:LL Try.f14 D5.d 5 E7.p:=mL [9] D5.a ⟨E6.s,trivial⟩
def D5.s (k:Nat):CK 14 (D5.e k):=mS D5.d k [5] Try.func14 (D5.a k) ⟨E7.s,trivial⟩
def Bb.e (k:Nat):Ent:=⟨3,[(.val false t17),(.val false (.i .i64)),(.val false (.i .i64))],[(.agg,t33)],λ x=>Bb k x.1 x.2.1 x.2.2⟩
def Bx.p:LF:=⟨⟨[(6,(.bp 6 0 0)),(9,(.bp 9 0 0)),(7999,(.hd 9)),(10999,(.hd 9))],[(26,t17),(27,(.i .i64)),(28,(.i .i64)),(7000,t34),(10000,t33)]⟩,[((.exit 0),⟨[(6,(.bp 6 0 0)),(9,(.bp 9 0 0)),(7999,(.hd 9)),(10999,(.hd 9))],[(7000,t34),(10000,t33)]⟩)],λ k x=>Bx k x.1 x.2.1 x.2.2.1 x.2.2.2.1 x.2.2.2.2⟩
def Bb.d:Fd := { nt:=42,nv:=3,nm:=[0,1,2,3,4,5,7,8,9,10,11],res:=[],cs:=λ k=>[(10,D0.e k),(14,D5.e k)],ls:=[(6,Bx.p)],mv:=[41],rf:=true }
def Bb.a (k:Nat):AC (Bb.d.cs k):=⟨D0.s k,D5.s k,trivial⟩
def Bx.s:LL Try.f6 Bb.d 6 Bx.p:=mL [] Bb.a trivial
def Bb.s (k:Nat):CK 6 (Bb.e k):=mS Bb.d k [6] Try.func6 (Bb.a k) ⟨Bx.s,trivial⟩
def Dc.e (k:Nat):Ent:=⟨3,[(.val false (.i .i64)),(.val false (.i .i64)),(.val false (.i .i64))],[(.one,.b)],λ x=>Dc x.1 x.2.1 x.2.2⟩
def Dc.d:Fd := { nt:=15,nv:=3,nm:=[0,1,2,3,4,5],res:=[6] }
def Dc.s (k:Nat):CK 38 (Dc.e k):=mS Dc.d k [] Try.func38 trivial trivial
def Bv.e (k:Nat):Ent:=⟨1,[(.val false t17)],[(.one,.b)],λ x=>Bv k x⟩
def Cp.p:LF:=⟨⟨[],[(0,t17),(3,(.i .i64))]⟩,[(.ret,⟨[],[(2,.b)]⟩),((.exit 0),⟨[],[(0,t17)]⟩)],λ k x=>Cp k x.1 x.2⟩
def Bv.d:Fd := { nt:=49,nv:=1,nm:=[0,1,3,4],res:=[2],cs:=λ k=>[(38,Dc.e k)],ls:=[(2,Cp.p)],rf:=true }
def Bv.a (k:Nat):AC (Bv.d.cs k):=⟨Dc.s k,trivial⟩
def Cp.s:LL Try.f37 Bv.d 2 Cp.p:=mL [] Bv.a trivial
def Bv.s (k:Nat):CK 37 (Bv.e k):=mS Bv.d k [2] Try.func37 (Bv.a k) ⟨Cp.s,trivial⟩
def Eo.e (k:Nat):Ent:=⟨2,[(.val false t3),(.val false (.i .i64))],[(.one,.b)],λ x=>Eo k x.1 x.2⟩
def E8.p:LF:=⟨⟨[],[(0,t3),(1,(.i .i64)),(5,(.i .i64))]⟩,[(.ret,⟨[],[(4,.b)]⟩),((.exit 0),⟨[],[]⟩)],λ k x=>E8 k x.1 x.2.1 x.2.2⟩
def Eo.d:Fd := { nt:=18,nv:=2,nm:=[0,1,2,3,5],res:=[4],ls:=[(2,E8.p)],rf:=true }
def E8.s:LL Try.f64 Eo.d 2 E8.p:=mL [] (λ _=>trivial) trivial
def Eo.s (k:Nat):CK 64 (Eo.e k):=mS Eo.d k [2] Try.func64 trivial ⟨E8.s,trivial⟩
def G0.e (k:Nat):Ent:=⟨2,[(.val false t17),(.val false (.i .i64))],[(.agg,t11),(.one,.b)],λ x=>G0 k x.1 x.2⟩
def E9.p:LF:=⟨⟨[(4,(.bp 4 0 0)),(5999,(.hd 3))],[(0,t17),(1,(.i .i64)),(6,(.i .i64)),(5000,t11)]⟩,[(.ret,⟨[(4,(.bp 4 0 0)),(5999,(.hd 3))],[(5,.b),(5000,t11)]⟩),((.exit 0),⟨[(4,(.bp 4 0 0)),(5999,(.hd 3))],[(5000,t11)]⟩)],λ k x=>E9 k x.1 x.2.1 x.2.2.1 x.2.2.2⟩
def G0.d:Fd := { nt:=25,nv:=2,nm:=[0,1,2,3,6],res:=[5],ls:=[(2,E9.p)],rf:=true }
def E9.s:LL Try.f75 G0.d 2 E9.p:=mL [] (λ _=>trivial) trivial
def G0.s (k:Nat):CK 75 (G0.e k):=mS G0.d k [2] Try.func75 trivial ⟨E9.s,trivial⟩
def Ca.e (k:Nat):Ent:=⟨2,[(.val false t3),(.val false t17)],[(.one,t4)],λ x=>Ca k x.1 x.2⟩
def Bf.p:LF:=⟨⟨[],[(0,t3),(1,t17),(5,t4),(6,(.i .i64))]⟩,[((.exit 0),⟨[],[(5,t4)]⟩)],λ k x=>Bf k x.1 x.2.1 x.2.2.1 x.2.2.2⟩
def Ca.d:Fd := { nt:=39,nv:=2,nm:=[0,1,2,3,5,6,7,8],res:=[4],cs:=λ k=>[(64,Eo.e k),(75,G0.e k)],ls:=[(3,Bf.p)],rf:=true }
def Ca.a (k:Nat):AC (Ca.d.cs k):=⟨Eo.s k,G0.s k,trivial⟩
def Bf.s:LL Try.f63 Ca.d 3 Bf.p:=mL [] Ca.a trivial
def Ca.s (k:Nat):CK 63 (Ca.e k):=mS Ca.d k [3] Try.func63 (Ca.a k) ⟨Bf.s,trivial⟩
def Cc.e (k:Nat):Ent:=⟨2,[(.val true t12),(.val false (.i .i64))],[(.one,(.i .i64))],λ x=>Cc k x.1 x.2⟩
def Cq.p:LF:=⟨⟨[(2,(.bp 2 0 0)),(3999,(.hd 2))],[(1,(.i .i64)),(5,(.i .i64)),(6,(.i .i64)),(7,(.i .i64)),(3000,t12)]⟩,[((.exit 2),⟨[(2,(.bp 2 0 0)),(3999,(.hd 2))],[(1,(.i .i64)),(5,(.i .i64)),(6,(.i .i64)),(3000,t12)]⟩)],λ k x=>Cq k x.1 x.2.1 x.2.2.1 x.2.2.2.1 x.2.2.2.2⟩
def Dd.p:LF:=⟨⟨[(2,(.bp 2 0 0)),(3999,(.hd 2))],[(1,(.i .i64)),(5,(.i .i64)),(6,(.i .i64)),(3000,t12)]⟩,[((.exit 0),⟨[],[(5,(.i .i64))]⟩)],λ k x=>Dd k x.1 x.2.1 x.2.2.1 x.2.2.2⟩
def Cc.d:Fd := { nt:=40,nv:=2,nm:=[0,1,2,3,5,6,7],res:=[4],ls:=[(6,Cq.p),(3,Dd.p)],rf:=true }
def Cq.s:LL Try.f65 Cc.d 6 Cq.p:=mL [] (λ _=>trivial) trivial
def Dd.s:LL Try.f65 Cc.d 3 Dd.p:=mL [6] (λ _=>trivial) ⟨Cq.s,trivial⟩
def Cc.s (k:Nat):CK 65 (Cc.e k):=mS Cc.d k [3] Try.func65 trivial ⟨Dd.s,trivial⟩
def Fn.e (k:Nat):Ent:=⟨3,[(.val true t12),(.val true t3),(.val false t17)],[(.one,(.i .i64))],λ x=>Fn k x.1 x.2.1 x.2.2⟩
def Ao.p:LF:=⟨⟨[(3,(.bp 3 0 0)),(4,(.bp 4 0 0)),(4999,(.hd 2)),(5999,(.hd 1))],[(2,t17),(7,t4),(8,(.i .i64)),(9,.b),(10,(.i .i64)),(4000,t12),(5000,t3)]⟩,[((.exit 0),⟨[],[(2,t17),(8,(.i .i64))]⟩)],λ k x=>Ao k x.1 x.2.1 x.2.2.1 x.2.2.2.1 x.2.2.2.2.1 x.2.2.2.2.2.1 x.2.2.2.2.2.2⟩
def Fn.d:Fd := { nt:=88,nv:=3,nm:=[0,1,2,3,4,5,7,8,9,10,11,12],res:=[6],cs:=λ k=>[(37,Bv.e k),(63,Ca.e k),(64,Eo.e k),(65,Cc.e k)],ls:=[(5,Ao.p)],rf:=true }
def Fn.a (k:Nat):AC (Fn.d.cs k):=⟨Bv.s k,Ca.s k,Eo.s k,Cc.s k,trivial⟩
def Ao.s:LL Try.f39 Fn.d 5 Ao.p:=mL [] Fn.a trivial
def Fn.s (k:Nat):CK 39 (Fn.e k):=mS Fn.d k [5] Try.func39 (Fn.a k) ⟨Ao.s,trivial⟩
def D6.e (k:Nat):Ent:=⟨3,[(.val false t17),(.val false (.i .i64)),(.val false (.i .i64))],[(.agg,t13),(.one,.b)],λ x=>D6 k x.1 x.2.1 x.2.2⟩
def Ea.p:LF:=⟨⟨[(6,(.bp 6 0 0)),(8,(.bp 8 0 0)),(7999,(.hd 2)),(9999,(.hd 2))],[(0,t17),(1,(.i .i64)),(2,(.i .i64)),(9,(.i .i64)),(10,(.i .i64)),(7000,t14),(9000,t13)]⟩,[((.exit 2),⟨[(6,(.bp 6 0 0)),(8,(.bp 8 0 0)),(7999,(.hd 2)),(9999,(.hd 2))],[(0,t17),(1,(.i .i64)),(2,(.i .i64)),(9,(.i .i64)),(7000,t14),(9000,t13)]⟩)],λ k x=>Ea k x.1 x.2.1 x.2.2.1 x.2.2.2.1 x.2.2.2.2.1 x.2.2.2.2.2.1 x.2.2.2.2.2.2⟩
def Eb.p:LF:=⟨⟨[(6,(.bp 6 0 0)),(8,(.bp 8 0 0)),(7999,(.hd 2)),(9999,(.hd 2))],[(0,t17),(1,(.i .i64)),(2,(.i .i64)),(9,(.i .i64)),(7000,t14),(9000,t13)]⟩,[((.exit 0),⟨[(6,(.bp 6 0 0)),(8,(.bp 8 0 0)),(7999,(.hd 2)),(9999,(.hd 2))],[(7000,t14),(9000,t13)]⟩)],λ k x=>Eb k x.1 x.2.1 x.2.2.1 x.2.2.2.1 x.2.2.2.2.1 x.2.2.2.2.2⟩
def D6.d:Fd := { nt:=73,nv:=3,nm:=[0,1,2,3,4,5,8,9,10,11],res:=[7],cs:=λ k=>[(37,Bv.e k),(38,Dc.e k),(39,Fn.e k)],ls:=[(9,Ea.p),(5,Eb.p)],hint:=[(42,t4),(43,t4)],mv:=[72],gh:=[(12,[.od 54 3001]),(1000010,[.cl 9001])],rf:=true }
def D6.a (k:Nat):AC (D6.d.cs k):=⟨Bv.s k,Dc.s k,Fn.s k,trivial⟩
def Ea.s:LL Try.f15 D6.d 9 Ea.p:=mL [] D6.a trivial
def Eb.s:LL Try.f15 D6.d 5 Eb.p:=mL [9] D6.a ⟨Ea.s,trivial⟩
def D6.s (k:Nat):CK 15 (D6.e k):=mS D6.d k [5] Try.func15 (D6.a k) ⟨Eb.s,trivial⟩
def F8.e (k:Nat):Ent:=⟨1,[(.val false (.i .i64))],[(.agg,t29)],λ x=>F8 x⟩
def F8.d:Fd := { nt:=9,nv:=1,nm:=[0,1],res:=[],cs:=λ k=>[(38,Dc.e k)] }
def F8.s (k:Nat):CK 16 (F8.e k):=mS F8.d k [] Try.func16 ⟨Dc.s k,trivial⟩ trivial
def Aw.e (k:Nat):Ent:=⟨3,[(.val false t17),(.val false (.i .i64)),(.val false (.i .i64))],[(.agg,t33)],λ x=>Aw k x.1 x.2.1 x.2.2⟩
def Bz.p:LF:=⟨⟨[(6,(.bp 6 0 0)),(9,(.bp 9 0 0)),(7999,(.hd 9)),(10999,(.hd 9))],[(0,t17),(10,(.i .i64)),(7000,t34),(10000,t33)]⟩,[((.exit 0),⟨[(6,(.bp 6 0 0)),(9,(.bp 9 0 0)),(7999,(.hd 9)),(10999,(.hd 9))],[(7000,t34),(10000,t33)]⟩)],λ k x=>Bz k x.1 x.2.1 x.2.2.1 x.2.2.2⟩
def Aw.d:Fd := { nt:=44,nv:=3,nm:=[0,1,2,3,4,5,7,8,9,10],res:=[],cs:=λ k=>[(15,D6.e k),(16,F8.e k)],ls:=[(6,Bz.p)],mv:=[43],rf:=true }
def Aw.a (k:Nat):AC (Aw.d.cs k):=⟨D6.s k,F8.s k,trivial⟩
def Bz.s:LL Try.f7 Aw.d 6 Bz.p:=mL [] Aw.a trivial
def Aw.s (k:Nat):CK 7 (Aw.e k):=mS Aw.d k [6] Try.func7 (Aw.a k) ⟨Bz.s,trivial⟩
def Br.e (k:Nat):Ent:=⟨1,[(.val true t11)],[(.one,.b)],λ x=>Br x⟩
def Br.d:Fd := { nt:=16,nv:=1,nm:=[0,1],res:=[2],cs:=λ k=>[(22,Bu.e k)] }
def Br.s (k:Nat):CK 18 (Br.e k):=mS Br.d k [] Try.func18 ⟨Bu.s k,trivial⟩ trivial
def As.e (k:Nat):Ent:=⟨1,[(.val false .s)],[(.one,.b)],λ x=>As k x⟩
def A8.p:LF:=⟨⟨[],[(0,.s),(3,(.i .i64))]⟩,[(.ret,⟨[],[(2,.b)]⟩),((.exit 0),⟨[],[(0,.s)]⟩)],λ k x=>A8 k x.1 x.2⟩
def As.d:Fd := { nt:=45,nv:=1,nm:=[0,1,3,4],res:=[2],cs:=λ k=>[(22,Bu.e k)],ls:=[(2,A8.p)] }
def As.a (k:Nat):AC (As.d.cs k):=⟨Bu.s k,trivial⟩
def A8.s:LL Try.f20 As.d 2 A8.p:=mL [] As.a trivial
def As.s (k:Nat):CK 20 (As.e k):=mS As.d k [2] Try.func20 (As.a k) ⟨A8.s,trivial⟩
def Fi.e (k:Nat):Ent:=⟨1,[(.val true t23)],[(.one,.b)],λ x=>Fi k x⟩
def Fi.d:Fd := { nt:=26,nv:=1,nm:=[0,1],res:=[2],cs:=λ k=>[(18,Br.e k),(20,As.e k),(22,Bu.e k)] }
def Fi.s (k:Nat):CK 21 (Fi.e k):=mS Fi.d k [] Try.func21 ⟨Br.s k,As.s k,Bu.s k,trivial⟩ trivial
def Bs.e (k:Nat):Ent:=⟨1,[(.val false t9)],[(.one,.b)],λ x=>Bs k x⟩
def C0.p:LF:=⟨⟨[],[(0,t9),(5,t9),(6,(.i .i64)),(7,(.i .i64))]⟩,[(.ret,⟨[],[(2,.b)]⟩),((.exit 0),⟨[],[(0,t9)]⟩)],λ k x=>C0 k x.1 x.2.1 x.2.2.1 x.2.2.2⟩
def Bs.d:Fd := { nt:=41,nv:=1,nm:=[0,1,3,4],res:=[2],cs:=λ k=>[(20,As.e k)],ls:=[(2,C0.p)] }
def Bs.a (k:Nat):AC (Bs.d.cs k):=⟨As.s k,trivial⟩
def C0.s:LL Try.f44 Bs.d 2 C0.p:=mL [] Bs.a trivial
def Bs.s (k:Nat):CK 44 (Bs.e k):=mS Bs.d k [2] Try.func44 (Bs.a k) ⟨C0.s,trivial⟩
def Fu.e (k:Nat):Ent:=⟨1,[(.val true t22)],[(.one,.b)],λ x=>Fu k x⟩
def Fu.d:Fd := { nt:=11,nv:=1,nm:=[0,1],res:=[2],cs:=λ k=>[(44,Bs.e k)] }
def Fu.s (k:Nat):CK 23 (Fu.e k):=mS Fu.d k [] Try.func23 ⟨Bs.s k,trivial⟩ trivial
def Cy.e (k:Nat):Ent:=⟨1,[(.val false t24)],[(.one,.b)],λ x=>Cy k x⟩
def Cr.p:LF:=⟨⟨[],[(0,t24),(5,t24),(6,(.i .i64)),(7,(.i .i64))]⟩,[(.ret,⟨[],[(2,.b)]⟩),((.exit 0),⟨[],[(0,t24)]⟩)],λ k x=>Cr k x.1 x.2.1 x.2.2.1 x.2.2.2⟩
def Cy.d:Fd := { nt:=34,nv:=1,nm:=[0,1,3,4],res:=[2],cs:=λ k=>[(21,Fi.e k)],ls:=[(2,Cr.p)] }
def Cy.a (k:Nat):AC (Cy.d.cs k):=⟨Fi.s k,trivial⟩
def Cr.s:LL Try.f24 Cy.d 2 Cr.p:=mL [] Cy.a trivial
def Cy.s (k:Nat):CK 24 (Cy.e k):=mS Cy.d k [2] Try.func24 (Cy.a k) ⟨Cr.s,trivial⟩
def Bw.e (k:Nat):Ent:=⟨1,[(.val true t28)],[(.one,.b)],λ x=>Bw k x⟩
def De.p:LF:=⟨⟨[(1,(.bp 1 0 0)),(2999,(.hd 5))],[(6,t24),(7,(.i .i64)),(8,(.i .i64)),(2000,(.i .i64)),(2001,t9),(2002,t9),(2003,t24),(2004,t24)]⟩,[(.ret,⟨[],[(2,.b)]⟩),((.exit 0),⟨[(1,(.bp 1 0 0)),(2999,(.hd 5))],[(2000,(.i .i64)),(2001,t9),(2002,t9),(2003,t24),(2004,t24)]⟩)],λ k x=>De k x.1 x.2.1 x.2.2.1 x.2.2.2.1 x.2.2.2.2.1 x.2.2.2.2.2.1 x.2.2.2.2.2.2.1 x.2.2.2.2.2.2.2⟩
def Bw.d:Fd := { nt:=35,nv:=1,nm:=[0,1,3,4],res:=[2],cs:=λ k=>[(21,Fi.e k),(22,Bu.e k),(23,Fu.e k),(24,Cy.e k)],ls:=[(2,De.p)] }
def Bw.a (k:Nat):AC (Bw.d.cs k):=⟨Fi.s k,Bu.s k,Fu.s k,Cy.s k,trivial⟩
def De.s:LL Try.f9 Bw.d 2 De.p:=mL [] Bw.a trivial
def Bw.s (k:Nat):CK 9 (Bw.e k):=mS Bw.d k [2] Try.func9 (Bw.a k) ⟨De.s,trivial⟩
def Ep.e (k:Nat):Ent:=⟨1,[(.val false t3)],[(.one,.b)],λ x=>Ep k x⟩
def Ec.p:LF:=⟨⟨[],[(0,t3),(5,t3),(6,(.i .i64)),(7,(.i .i64))]⟩,[(.ret,⟨[],[(2,.b)]⟩),((.exit 0),⟨[],[]⟩)],λ k x=>Ec k x.1 x.2.1 x.2.2.1 x.2.2.2⟩
def Ep.d:Fd := { nt:=18,nv:=1,nm:=[0,1,3,4],res:=[2],cs:=λ k=>[(57,Ar.e k)],ls:=[(2,Ec.p)],rf:=true }
def Ep.a (k:Nat):AC (Ep.d.cs k):=⟨Ar.s k,trivial⟩
def Ec.s:LL Try.f40 Ep.d 2 Ec.p:=mL [] Ep.a trivial
def Ep.s (k:Nat):CK 40 (Ep.e k):=mS Ep.d k [2] Try.func40 (Ep.a k) ⟨Ec.s,trivial⟩
def Cd.e (k:Nat):Ent:=⟨2,[(.val true t12),(.val false t17)],[(.one,.b)],λ x=>Cd k x.1 x.2⟩
def Df.p:LF:=⟨⟨[(2,(.bp 2 0 0)),(3999,(.hd 2))],[(1,t17),(28,t7),(29,(.i .i64)),(30,(.i .i64)),(47,t3),(48,(.i .i64)),(49,(.i .i64)),(3000,t12)]⟩,[(.ret,⟨[],[(4,.b)]⟩),((.exit 2),⟨[(2,(.bp 2 0 0)),(3999,(.hd 2))],[(1,t17),(28,t7),(29,(.i .i64)),(30,(.i .i64)),(3000,t12)]⟩)],λ k x=>Df k x.1 x.2.1 x.2.2.1 x.2.2.2.1 x.2.2.2.2.1 x.2.2.2.2.2.1 x.2.2.2.2.2.2.1 x.2.2.2.2.2.2.2⟩
def Dg.p:LF:=⟨⟨[(2,(.bp 2 0 0)),(3999,(.hd 2))],[(1,t17),(28,t7),(29,(.i .i64)),(30,(.i .i64)),(3000,t12)]⟩,[(.ret,⟨[],[(4,.b)]⟩),((.exit 0),⟨[],[]⟩)],λ k x=>Dg k x.1 x.2.1 x.2.2.1 x.2.2.2.1 x.2.2.2.2⟩
def Cd.d:Fd := { nt:=63,nv:=2,nm:=[0,1,2,3,5,6,7,8,9,10],res:=[4],cs:=λ k=>[(22,Bu.e k),(35,B1.e k),(40,Ep.e k),(41,Ez.e k)],ls:=[(9,Df.p),(4,Dg.p)],rf:=true }
def Cd.a (k:Nat):AC (Cd.d.cs k):=⟨Bu.s k,B1.s k,Ep.s k,Ez.s k,trivial⟩
def Df.s:LL Try.f17 Cd.d 9 Df.p:=mL [] Cd.a trivial
def Dg.s:LL Try.f17 Cd.d 4 Dg.p:=mL [9] Cd.a ⟨Df.s,trivial⟩
def Cd.s (k:Nat):CK 17 (Cd.e k):=mS Cd.d k [4] Try.func17 (Cd.a k) ⟨Dg.s,trivial⟩
def Ed.e (k:Nat):Ent:=⟨1,[(.val true t20)],[(.one,.b)],λ x=>Ed x⟩
def Ed.d:Fd := { nt:=23,nv:=1,nm:=[0,1],res:=[2],cs:=λ k=>[(18,Br.e k)] }
def Ed.s (k:Nat):CK 42 (Ed.e k):=mS Ed.d k [] Try.func42 ⟨Br.s k,trivial⟩ trivial
def Ae.e (k:Nat):Ent:=⟨2,[(.val true t11),(.val true t11)],[(.one,.b)],λ x=>Ae x.1 x.2⟩
def Ae.d:Fd := { nt:=32,nv:=2,nm:=[0,1,2,3],res:=[4] }
def Ae.s (k:Nat):CK 43 (Ae.e k):=mS Ae.d k [] Try.func43 trivial trivial
def Bc.e (k:Nat):Ent:=⟨1,[(.val true t32)],[(.one,.b)],λ x=>Bc k x⟩
def C1.p:LF:=⟨⟨[(1,(.bp 1 0 0)),(2999,(.hd 9))],[(6,t27),(7,(.i .i64)),(8,(.i .i64)),(2000,t32)]⟩,[(.ret,⟨[],[(2,.b)]⟩),((.exit 0),⟨[(1,(.bp 1 0 0)),(2999,(.hd 9))],[(2000,t32)]⟩)],λ k x=>C1 k x.1 x.2.1 x.2.2.1 x.2.2.2⟩
def Bc.d:Fd := { nt:=35,nv:=1,nm:=[0,1,3,4],res:=[2],cs:=λ k=>[(20,As.e k),(42,Ed.e k),(43,Ae.e k)],ls:=[(2,C1.p)],rf:=true }
def Bc.a (k:Nat):AC (Bc.d.cs k):=⟨As.s k,Ed.s k,Ae.s k,trivial⟩
def C1.s:LL Try.f19 Bc.d 2 C1.p:=mL [] Bc.a trivial
def Bc.s (k:Nat):CK 19 (Bc.e k):=mS Bc.d k [2] Try.func19 (Bc.a k) ⟨C1.s,trivial⟩
def Au.e (k:Nat):Ent:=⟨1,[(.val true t32)],[(.one,.b)],λ x=>Au k x⟩
def B2.p:LF:=⟨⟨[(1,(.bp 1 0 0)),(2999,(.hd 9))],[(57,t0),(58,(.i .i64)),(59,(.i .i64)),(2000,t32)]⟩,[(.ret,⟨[],[(2,.b)]⟩),((.exit 2),⟨[],[]⟩)],λ k x=>B2 k x.1 x.2.1 x.2.2.1 x.2.2.2⟩
def C2.p:LF:=⟨⟨[(1,(.bp 1 0 0)),(2999,(.hd 9))],[(34,t30),(35,(.i .i64)),(36,(.i .i64)),(2000,t32)]⟩,[(.ret,⟨[],[(2,.b)]⟩),((.exit 0),⟨[(1,(.bp 1 0 0)),(2999,(.hd 9))],[(2000,t32)]⟩)],λ k x=>C2 k x.1 x.2.1 x.2.2.1 x.2.2.2⟩
def Au.d:Fd := { nt:=82,nv:=1,nm:=[0,1,3,4,5,6],res:=[2],cs:=λ k=>[(9,Bw.e k),(17,Cd.e k),(18,Br.e k),(19,Bc.e k),(20,As.e k)],ls:=[(10,B2.p),(4,C2.p)],rf:=true }
def Au.a (k:Nat):AC (Au.d.cs k):=⟨Bw.s k,Cd.s k,Br.s k,Bc.s k,As.s k,trivial⟩
def B2.s:LL Try.f8 Au.d 10 B2.p:=mL [] Au.a trivial
def C2.s:LL Try.f8 Au.d 4 C2.p:=mL [] Au.a trivial
def Au.s (k:Nat):CK 8 (Au.e k):=mS Au.d k [4,10] Try.func8 (Au.a k) ⟨C2.s,B2.s,trivial⟩
def Dt.e (k:Nat):Ent:=⟨2,[(.val false t1),(.val false (.i .i64))],[(.one,(.i .i64)),(.one,(.i .i64)),(.one,.b)],λ x=>Dt k x.1 x.2⟩
def Cs.p:LF:=⟨⟨[],[(0,t1),(1,(.i .i64)),(7,(.i .i64)),(8,(.i .i64))]⟩,[(.ret,⟨[],[(4,(.i .i64)),(5,(.i .i64)),(6,.b)]⟩),((.exit 0),⟨[],[]⟩)],λ k x=>Cs k x.1 x.2.1 x.2.2.1 x.2.2.2⟩
def Dt.d:Fd := { nt:=57,nv:=2,nm:=[0,1,2,3,7,8,9],res:=[4,5,6],ls:=[(3,Cs.p)] }
def Cs.s:LL Try.f84 Dt.d 3 Cs.p:=mL [] (λ _=>trivial) trivial
def Dt.s (k:Nat):CK 84 (Dt.e k):=mS Dt.d k [3] Try.func84 trivial ⟨Cs.s,trivial⟩
def B7.e (k:Nat):Ent:=⟨1,[(.ptr t15 t15)],[(.one,(.i .i64))],λ x=>B7 k x⟩
def B7.d:Fd := { nt:=35,nv:=1,nm:=[0,1,3,4,5],res:=[2],cs:=λ k=>[(84,Dt.e k)] }
def B7.s (k:Nat):CK 76 (B7.e k):=mS B7.d k [] Try.func76 ⟨Dt.s k,trivial⟩ trivial
def Bg.e (k:Nat):Ent:=⟨1,[(.ptr t15 t15)],[(.agg,t11),(.one,.b)],λ x=>Bg k x⟩
def Bg.d:Fd := { nt:=31,nv:=1,nm:=[0,1,4,5],res:=[3],cs:=λ k=>[(76,B7.e k)] }
def Bg.s (k:Nat):CK 66 (Bg.e k):=mS Bg.d k [] Try.func66 ⟨B7.s k,trivial⟩ trivial
def F9.e (k:Nat):Ent:=⟨2,[(.val false t1),(.val false (.i .i64))],[(.one,.s),(.one,(.i .i64)),(.one,.b)],λ x=>F9 k x.1 x.2⟩
def F9.d:Fd := { nt:=37,nv:=2,nm:=[0,1,2,3,7,8,9],res:=[4,5,6],cs:=λ k=>[(84,Dt.e k)] }
def F9.s (k:Nat):CK 77 (F9.e k):=mS F9.d k [] Try.func77 ⟨Dt.s k,trivial⟩ trivial
def B3.e (k:Nat):Ent:=⟨1,[(.ptr t15 t15)],[(.one,.s)],λ x=>B3 k x⟩
def B3.d:Fd := { nt:=35,nv:=1,nm:=[0,1,3,4,5],res:=[2],cs:=λ k=>[(77,F9.e k)] }
def B3.s (k:Nat):CK 67 (B3.e k):=mS B3.d k [] Try.func67 ⟨F9.s k,trivial⟩ trivial
def Ce.e (k:Nat):Ent:=⟨2,[(.val false t2),(.val false (.i .i64))],[(.one,t2)],λ x=>Ce k x.1 x.2⟩
def Dh.p:LF:=⟨⟨[],[(0,t2),(1,(.i .i64))]⟩,[((.exit 0),⟨[],[(0,t2),(1,(.i .i64))]⟩)],λ k x=>Dh k x.1 x.2⟩
def Ce.d:Fd := { nt:=24,nv:=2,nm:=[0,1,2,3],res:=[4],ls:=[(2,Dh.p)] }
def Dh.s:LL Try.f85 Ce.d 2 Dh.p:=mL [] (λ _=>trivial) trivial
def Ce.s (k:Nat):CK 85 (Ce.e k):=mS Ce.d k [2] Try.func85 trivial ⟨Dh.s,trivial⟩
def Fa.e (k:Nat):Ent:=⟨2,[(.val false t2),(.val false .s)],[(.one,t2)],λ x=>Fa k x.1 x.2⟩
def Fa.d:Fd := { nt:=11,nv:=2,nm:=[0,1,2,3],res:=[4],cs:=λ k=>[(85,Ce.e k)] }
def Fa.s (k:Nat):CK 78 (Fa.e k):=mS Fa.d k [] Try.func78 ⟨Ce.s k,trivial⟩ trivial
def I9.e (k:Nat):Ent:=⟨1,[(.val false .b)],[(.one,(.i .i64))],λ x=>I9 x⟩
def I9.d:Fd := { nt:=4,nv:=1,nm:=[0,1],res:=[2] }
def I9.s (k:Nat):CK 86 (I9.e k):=mS I9.d k [] Try.func86 trivial trivial
def Ee.e (k:Nat):Ent:=⟨3,[(.val false t2),(.val true t11),(.val false .b)],[(.one,t2)],λ x=>Ee k x.1 x.2.1 x.2.2⟩
def Ee.d:Fd := { nt:=20,nv:=3,nm:=[0,1,2,3,4,5],res:=[6],cs:=λ k=>[(85,Ce.e k),(86,I9.e k)] }
def Ee.s (k:Nat):CK 79 (Ee.e k):=mS Ee.d k [] Try.func79 ⟨Ce.s k,I9.s k,trivial⟩ trivial
def H6.e (k:Nat):Ent:=⟨1,[(.val false t1)],[(.one,(.i .i64))],λ x=>H6 k x⟩
def Fj.p:LF:=⟨⟨[],[(3,(.i .u32)),(7,t1),(8,(.i .i64)),(9,(.i .i64)),(17,(.i .i64))]⟩,[((.exit 2),⟨[],[(3,(.i .u32)),(7,t1),(8,(.i .i64)),(9,(.i .i64))]⟩)],λ k x=>Fj k x.1 x.2.1 x.2.2.1 x.2.2.2.1 x.2.2.2.2⟩
def Fv.p:LF:=⟨⟨[],[(3,(.i .u32)),(7,t1),(8,(.i .i64)),(9,(.i .i64))]⟩,[((.exit 0),⟨[],[(3,(.i .u32))]⟩)],λ k x=>Fv k x.1 x.2.1 x.2.2.1 x.2.2.2⟩
def H6.d:Fd := { nt:=32,nv:=1,nm:=[0,1,3,4,5,6],res:=[2],ls:=[(7,Fj.p),(3,Fv.p)] }
def Fj.s:LL Try.f80 H6.d 7 Fj.p:=mL [] (λ _=>trivial) trivial
def Fv.s:LL Try.f80 H6.d 3 Fv.p:=mL [7] (λ _=>trivial) ⟨Fj.s,trivial⟩
def H6.s (k:Nat):CK 80 (H6.e k):=mS H6.d k [3] Try.func80 trivial ⟨Fv.s,trivial⟩
def Fb.e (k:Nat):Ent:=⟨1,[(.val true t20)],[(.one,t2)],λ x=>Fb k x⟩
def Fb.d:Fd := { nt:=33,nv:=1,nm:=[0,1,3,4],res:=[2],cs:=λ k=>[(42,Ed.e k),(78,Fa.e k),(79,Ee.e k),(80,H6.e k)] }
def Fb.s (k:Nat):CK 68 (Fb.e k):=mS Fb.d k [] Try.func68 ⟨Ed.s k,Fa.s k,Ee.s k,H6.s k,trivial⟩ trivial
def Bt.e (k:Nat):Ent:=⟨1,[(.val false t1)],[(.agg,t20),(.one,.b)],λ x=>Bt k x⟩
def Bt.d:Fd := { nt:=41,nv:=1,nm:=[0,1,4,5,6],res:=[3],cs:=λ k=>[(66,Bg.e k),(67,B3.e k),(68,Fb.e k)] }
def Bt.s (k:Nat):CK 45 (Bt.e k):=mS Bt.d k [] Try.func45 ⟨Bg.s k,B3.s k,Fb.s k,trivial⟩ trivial
def Cf.e (k:Nat):Ent:=⟨2,[(.val true t20),(.val true t20)],[(.one,.b)],λ x=>Cf x.1 x.2⟩
def Cf.d:Fd := { nt:=26,nv:=2,nm:=[0,1,2,3],res:=[4],rf:=true }
def Cf.s (k:Nat):CK 55 (Cf.e k):=mS Cf.d k [] Try.func55 trivial trivial
def Ay.e (k:Nat):Ent:=⟨3,[(.val true t32),(.val false .s),(.val true t20)],[(.one,.b)],λ x=>Ay k x.1 x.2.1 x.2.2⟩
def B4.p:LF:=⟨⟨[(5,(.bp 5 0 0)),(6999,(.hd 5))],[(1,.s),(10,t27),(11,(.i .i64)),(12,(.i .i64)),(6000,t20)]⟩,[(.ret,⟨[],[(6,.b)]⟩),((.exit 0),⟨[],[]⟩)],λ k x=>B4 k x.1 x.2.1 x.2.2.1 x.2.2.2.1 x.2.2.2.2⟩
def Ay.d:Fd := { nt:=27,nv:=3,nm:=[0,1,2,3,4,5,7,8],res:=[6],cs:=λ k=>[(55,Cf.e k)],ls:=[(2,B4.p)],rf:=true }
def Ay.a (k:Nat):AC (Ay.d.cs k):=⟨Cf.s k,trivial⟩
def B4.s:LL Try.f46 Ay.d 2 B4.p:=mL [] Ay.a trivial
def Ay.s (k:Nat):CK 46 (Ay.e k):=mS Ay.d k [2] Try.func46 (Ay.a k) ⟨B4.s,trivial⟩
def Ba.e (k:Nat):Ent:=⟨1,[(.val true t32)],[(.one,.b)],λ x=>Ba k x⟩
def C3.p:LF:=⟨⟨[(1,(.bp 1 0 0)),(2999,(.hd 9))],[(10,t30),(11,(.i .i64)),(12,(.i .i64)),(23,t10),(24,(.i .i64)),(25,(.i .i64)),(2000,t32)]⟩,[(.ret,⟨[],[(2,.b)]⟩),((.exit 2),⟨[(1,(.bp 1 0 0)),(2999,(.hd 9))],[(10,t30),(11,(.i .i64)),(12,(.i .i64)),(2000,t32)]⟩)],λ k x=>C3 k x.1 x.2.1 x.2.2.1 x.2.2.2.1 x.2.2.2.2.1 x.2.2.2.2.2.1 x.2.2.2.2.2.2⟩
def Ck.p:LF:=⟨⟨[(1,(.bp 1 0 0)),(2999,(.hd 9))],[(10,t30),(11,(.i .i64)),(12,(.i .i64)),(2000,t32)]⟩,[(.ret,⟨[],[(2,.b)]⟩),((.exit 0),⟨[],[]⟩)],λ k x=>Ck k x.1 x.2.1 x.2.2.1 x.2.2.2⟩
def Ba.d:Fd := { nt:=46,nv:=1,nm:=[0,1,3,4,5,6,7,8],res:=[2],cs:=λ k=>[(45,Bt.e k),(46,Ay.e k)],ls:=[(5,C3.p),(2,Ck.p)],rf:=true }
def Ba.a (k:Nat):AC (Ba.d.cs k):=⟨Bt.s k,Ay.s k,trivial⟩
def C3.s:LL Try.f25 Ba.d 5 C3.p:=mL [] Ba.a trivial
def Ck.s:LL Try.f25 Ba.d 2 Ck.p:=mL [5] Ba.a ⟨C3.s,trivial⟩
def Ba.s (k:Nat):CK 25 (Ba.e k):=mS Ba.d k [2] Try.func25 (Ba.a k) ⟨Ck.s,trivial⟩
def Ef.e (k:Nat):Ent:=⟨1,[(.val false t24)],[(.one,t25)],λ x=>Ef x⟩
def Ef.d:Fd := { nt:=5,nv:=1,nm:=[0,1],res:=[2] }
def Ef.s (k:Nat):CK 47 (Ef.e k):=mS Ef.d k [] Try.func47 trivial trivial
def Gu.e (k:Nat):Ent:=⟨2,[(.val false .s),(.val true t20)],[(.agg,t23)],λ x=>Gu x.1 x.2⟩
def Gu.d:Fd := { nt:=14,nv:=2,nm:=[0,1,2,3],res:=[],rf:=true }
def Gu.s (k:Nat):CK 48 (Gu.e k):=mS Gu.d k [] Try.func48 trivial trivial
def Bh.e (k:Nat):Ent:=⟨1,[(.val true t32)],[(.one,.b)],λ x=>Bh k x⟩
def Bo.p:LF:=⟨⟨[(1,(.bp 1 0 0)),(6,(.bp 6 0 0)),(2999,(.hd 9)),(7999,(.hd 6))],[(7,.b),(11,t30),(12,(.i .i64)),(13,(.i .i64)),(22,t25),(23,(.i .i64)),(24,(.i .i64)),(29,t27),(30,(.i .i64)),(31,(.i .i64)),(2000,t32),(7000,t23)]⟩,[((.exit 4),⟨[(1,(.bp 1 0 0)),(2999,(.hd 9))],[(7,.b),(11,t30),(12,(.i .i64)),(13,(.i .i64)),(22,t25),(23,(.i .i64)),(24,(.i .i64)),(2000,t32)]⟩)],λ k x=>Bo k x.1 x.2.1 x.2.2.1 x.2.2.2.1 x.2.2.2.2.1 x.2.2.2.2.2.1 x.2.2.2.2.2.2.1 x.2.2.2.2.2.2.2.1 x.2.2.2.2.2.2.2.2.1 x.2.2.2.2.2.2.2.2.2.1 x.2.2.2.2.2.2.2.2.2.2.1 x.2.2.2.2.2.2.2.2.2.2.2⟩
def Di.p:LF:=⟨⟨[(1,(.bp 1 0 0)),(2999,(.hd 9))],[(11,t30),(12,(.i .i64)),(13,(.i .i64)),(22,t25),(23,(.i .i64)),(24,(.i .i64)),(2000,t32)]⟩,[(.ret,⟨[],[(2,.b)]⟩),((.exit 2),⟨[(1,(.bp 1 0 0)),(2999,(.hd 9))],[(11,t30),(12,(.i .i64)),(13,(.i .i64)),(2000,t32)]⟩)],λ k x=>Di k x.1 x.2.1 x.2.2.1 x.2.2.2.1 x.2.2.2.2.1 x.2.2.2.2.2.1 x.2.2.2.2.2.2⟩
def Dj.p:LF:=⟨⟨[(1,(.bp 1 0 0)),(2999,(.hd 9))],[(11,t30),(12,(.i .i64)),(13,(.i .i64)),(2000,t32)]⟩,[(.ret,⟨[],[(2,.b)]⟩),((.exit 0),⟨[],[]⟩)],λ k x=>Dj k x.1 x.2.1 x.2.2.1 x.2.2.2⟩
def Bh.d:Fd := { nt:=50,nv:=1,nm:=[0,1,3,4,5,6,7,8,9],res:=[2],cs:=λ k=>[(47,Ef.e k),(48,Gu.e k)],ls:=[(9,Bo.p),(5,Di.p),(2,Dj.p)],rf:=true }
def Bh.a (k:Nat):AC (Bh.d.cs k):=⟨Ef.s k,Gu.s k,trivial⟩
def Bo.s:LL Try.f26 Bh.d 9 Bo.p:=mL [] Bh.a trivial
def Di.s:LL Try.f26 Bh.d 5 Di.p:=mL [9] Bh.a ⟨Bo.s,trivial⟩
def Dj.s:LL Try.f26 Bh.d 2 Dj.p:=mL [5] Bh.a ⟨Di.s,trivial⟩
def Bh.s (k:Nat):CK 26 (Bh.e k):=mS Bh.d k [2] Try.func26 (Bh.a k) ⟨Dj.s,trivial⟩
def Et.e (k:Nat):Ent:=⟨2,[(.val false t0),(.val false .s)],[(.one,.b)],λ x=>Et k x.1 x.2⟩
def Cl.p:LF:=⟨⟨[],[(1,.s),(7,t0),(8,(.i .i64)),(9,(.i .i64))]⟩,[(.ret,⟨[],[(4,.b)]⟩),((.exit 0),⟨[],[]⟩)],λ k x=>Cl k x.1 x.2.1 x.2.2.1 x.2.2.2⟩
def Et.d:Fd := { nt:=17,nv:=2,nm:=[0,1,2,3,5,6],res:=[4],ls:=[(2,Cl.p)],rf:=true }
def Cl.s:LL Try.f49 Et.d 2 Cl.p:=mL [] (λ _=>trivial) trivial
def Et.s (k:Nat):CK 49 (Et.e k):=mS Et.d k [2] Try.func49 trivial ⟨Cl.s,trivial⟩
def Hp.e (k:Nat):Ent:=⟨2,[(.val false t9),(.val false .s)],[(.one,(.i .i64))],λ x=>Hp k x.1 x.2⟩
def Ga.p:LF:=⟨⟨[],[(1,.s),(7,t9),(8,(.i .i64)),(9,(.i .i64))]⟩,[(.ret,⟨[],[(4,(.i .i64))]⟩),((.exit 0),⟨[],[]⟩)],λ k x=>Ga k x.1 x.2.1 x.2.2.1 x.2.2.2⟩
def Hp.d:Fd := { nt:=20,nv:=2,nm:=[0,1,2,3,5,6],res:=[4],ls:=[(2,Ga.p)] }
def Ga.s:LL Try.f69 Hp.d 2 Ga.p:=mL [] (λ _=>trivial) trivial
def Hp.s (k:Nat):CK 69 (Hp.e k):=mS Hp.d k [2] Try.func69 trivial ⟨Ga.s,trivial⟩
def Er.e (k:Nat):Ent:=⟨3,[(.val true t32),(.val false .s),(.val true t11)],[(.one,.b)],λ x=>Er k x.1 x.2.1 x.2.2⟩
def Cu.p:LF:=⟨⟨[(5,(.bp 5 0 0)),(6999,(.hd 3))],[(1,.s),(13,t30),(14,(.i .i64)),(15,(.i .i64)),(6000,t11)]⟩,[(.ret,⟨[],[(6,.b)]⟩),((.exit 0),⟨[],[]⟩)],λ k x=>Cu k x.1 x.2.1 x.2.2.1 x.2.2.2.1 x.2.2.2.2⟩
def Er.d:Fd := { nt:=46,nv:=3,nm:=[0,1,2,3,4,5,7,8,9,10,11],res:=[6],cs:=λ k=>[(43,Ae.e k),(45,Bt.e k),(69,Hp.e k)],ls:=[(2,Cu.p)],rf:=true }
def Er.a (k:Nat):AC (Er.d.cs k):=⟨Ae.s k,Bt.s k,Hp.s k,trivial⟩
def Cu.s:LL Try.f50 Er.d 2 Cu.p:=mL [] Er.a trivial
def Er.s (k:Nat):CK 50 (Er.e k):=mS Er.d k [2] Try.func50 (Er.a k) ⟨Cu.s,trivial⟩
def Fo.e (k:Nat):Ent:=⟨1,[(.val true t32)],[(.one,.b)],λ x=>Fo k x⟩
def Dv.p:LF:=⟨⟨[(1,(.bp 1 0 0)),(2999,(.hd 9))],[(6,t27),(7,(.i .i64)),(8,(.i .i64)),(2000,t32)]⟩,[(.ret,⟨[],[(2,.b)]⟩),((.exit 0),⟨[],[]⟩)],λ k x=>Dv k x.1 x.2.1 x.2.2.1 x.2.2.2⟩
def Fo.d:Fd := { nt:=33,nv:=1,nm:=[0,1,3,4],res:=[2],cs:=λ k=>[(49,Et.e k),(50,Er.e k)],ls:=[(2,Dv.p)],rf:=true }
def Fo.a (k:Nat):AC (Fo.d.cs k):=⟨Et.s k,Er.s k,trivial⟩
def Dv.s:LL Try.f27 Fo.d 2 Dv.p:=mL [] Fo.a trivial
def Fo.s (k:Nat):CK 27 (Fo.e k):=mS Fo.d k [2] Try.func27 (Fo.a k) ⟨Dv.s,trivial⟩
def Cb.e (k:Nat):Ent:=⟨1,[(.val true t32)],[(.one,.b)],λ x=>Cb k x⟩
def C4.p:LF:=⟨⟨[(1,(.bp 1 0 0)),(2999,(.hd 9))],[(6,t27),(7,(.i .i64)),(8,(.i .i64)),(2000,t32)]⟩,[(.ret,⟨[],[(2,.b)]⟩),((.exit 0),⟨[],[]⟩)],λ k x=>C4 k x.1 x.2.1 x.2.2.1 x.2.2.2⟩
def Cb.d:Fd := { nt:=39,nv:=1,nm:=[0,1,3,4],res:=[2],cs:=λ k=>[(43,Ae.e k)],ls:=[(2,C4.p)],rf:=true }
def Cb.a (k:Nat):AC (Cb.d.cs k):=⟨Ae.s k,trivial⟩
def C4.s:LL Try.f28 Cb.d 2 C4.p:=mL [] Cb.a trivial
def Cb.s (k:Nat):CK 28 (Cb.e k):=mS Cb.d k [2] Try.func28 (Cb.a k) ⟨C4.s,trivial⟩
def Gy.e (k:Nat):Ent:=⟨1,[(.val true t32)],[(.one,(.i .i64))],λ x=>Gy k x⟩
def Gy.d:Fd := { nt:=23,nv:=1,nm:=[0,1],res:=[2],cs:=λ k=>[(8,Au.e k),(25,Ba.e k),(26,Bh.e k),(27,Fo.e k),(28,Cb.e k)],rf:=true }
def Gy.s (k:Nat):CK 11 (Gy.e k):=mS Gy.d k [] Try.func11 ⟨Au.s k,Ba.s k,Bh.s k,Fo.s k,Cb.s k,trivial⟩ trivial
def Dk.e (k:Nat):Ent:=⟨1,[(.val false t1)],[(.one,t2)],λ x=>Dk x⟩
def Dk.d:Fd := { nt:=5,nv:=1,nm:=[0,1],res:=[2] }
def Dk.s (k:Nat):CK 81 (Dk.e k):=mS Dk.d k [] Try.func81 trivial trivial
def Eg.e (k:Nat):Ent:=⟨2,[(.val true t22),(.val false .s)],[(.one,t2),(.one,.b)],λ x=>Eg k x.1 x.2⟩
def Eg.d:Fd := { nt:=20,nv:=2,nm:=[0,1,2,3,6],res:=[4,5],cs:=λ k=>[(69,Hp.e k),(81,Dk.e k)] }
def Eg.s (k:Nat):CK 70 (Eg.e k):=mS Eg.d k [] Try.func70 ⟨Hp.s k,Dk.s k,trivial⟩ trivial
def Fc.e (k:Nat):Ent:=⟨2,[(.val true t22),(.val false .s)],[(.agg,t20),(.one,(.i .i64))],λ x=>Fc k x.1 x.2⟩
def Fc.d:Fd := { nt:=28,nv:=2,nm:=[0,1,2,3,6,7,8,9],res:=[5],cs:=λ k=>[(45,Bt.e k),(70,Eg.e k)] }
def Fc.s (k:Nat):CK 51 (Fc.e k):=mS Fc.d k [] Try.func51 ⟨Bt.s k,Eg.s k,trivial⟩ trivial
def Dp.e (k:Nat):Ent:=⟨2,[(.val false t0),(.val false .s)],[(.one,t0)],λ x=>Dp k x.1 x.2⟩
def C5.p:LF:=⟨⟨[],[(0,t0),(1,.s),(5,(.i .i64))]⟩,[((.exit 0),⟨[],[(0,t0),(1,.s),(5,(.i .i64))]⟩)],λ k x=>C5 k x.1 x.2.1 x.2.2⟩
def Dp.d:Fd := { nt:=44,nv:=2,nm:=[0,1,2,3,5],res:=[4],ls:=[(2,C5.p)] }
def C5.s:LL Try.f52 Dp.d 2 C5.p:=mL [] (λ _=>trivial) trivial
def Dp.s (k:Nat):CK 52 (Dp.e k):=mS Dp.d k [2] Try.func52 trivial ⟨C5.s,trivial⟩
def Fp.e (k:Nat):Ent:=⟨1,[(.val true t22)],[(.one,t0)],λ x=>Fp k x⟩
def Eu.p:LF:=⟨⟨[(1,(.bp 1 0 0)),(2999,(.hd 2))],[(3,t0),(9,t9),(10,(.i .i64)),(11,(.i .i64)),(2000,t22)]⟩,[((.exit 0),⟨[],[(3,t0)]⟩)],λ k x=>Eu k x.1 x.2.1 x.2.2.1 x.2.2.2.1 x.2.2.2.2⟩
def Fp.d:Fd := { nt:=30,nv:=1,nm:=[0,1,3,4,5,6,7],res:=[2],cs:=λ k=>[(51,Fc.e k),(52,Dp.e k)],ls:=[(3,Eu.p)],rf:=true }
def Fp.a (k:Nat):AC (Fp.d.cs k):=⟨Fc.s k,Dp.s k,trivial⟩
def Eu.s:LL Try.f29 Fp.d 3 Eu.p:=mL [] Fp.a trivial
def Fp.s (k:Nat):CK 29 (Fp.e k):=mS Fp.d k [3] Try.func29 (Fp.a k) ⟨Eu.s,trivial⟩
def Gb.e (k:Nat):Ent:=⟨2,[(.val true t20),(.val true t20)],[(.one,.b)],λ x=>Gb x.1 x.2⟩
def Gb.d:Fd := { nt:=10,nv:=2,nm:=[0,1,2,3],res:=[4],cs:=λ k=>[(43,Ae.e k)] }
def Gb.s (k:Nat):CK 71 (Gb.e k):=mS Gb.d k [] Try.func71 ⟨Ae.s k,trivial⟩ trivial
def Bd.e (k:Nat):Ent:=⟨2,[(.val true t32),(.val false .s)],[(.agg,t20),(.one,.b)],λ x=>Bd k x.1 x.2⟩
def Av.p:LF:=⟨⟨[(4,(.bp 4 0 0)),(6,(.bp 6 0 0)),(5999,(.hd 5)),(7999,(.hd 5))],[(1,.s),(7,.b),(13,t30),(14,(.i .i64)),(15,(.i .i64)),(5000,t21),(7000,t20)]⟩,[((.exit 0),⟨[(4,(.bp 4 0 0)),(6,(.bp 6 0 0)),(5999,(.hd 5)),(7999,(.hd 5))],[(7,.b),(5000,t21),(7000,t20)]⟩)],λ k x=>Av k x.1 x.2.1 x.2.2.1 x.2.2.2.1 x.2.2.2.2.1 x.2.2.2.2.2.1 x.2.2.2.2.2.2⟩
def Bd.d:Fd := { nt:=41,nv:=2,nm:=[0,1,2,3,6,7,8,9,10,11],res:=[5],cs:=λ k=>[(51,Fc.e k),(71,Gb.e k)],ls:=[(4,Av.p)],rf:=true }
def Bd.a (k:Nat):AC (Bd.d.cs k):=⟨Fc.s k,Gb.s k,trivial⟩
def Av.s:LL Try.f53 Bd.d 4 Av.p:=mL [] Bd.a trivial
def Bd.s (k:Nat):CK 53 (Bd.e k):=mS Bd.d k [4] Try.func53 (Bd.a k) ⟨Av.s,trivial⟩
def Eh.e (k:Nat):Ent:=⟨1,[(.val false t3)],[(.one,t4)],λ x=>Eh x⟩
def Eh.d:Fd := { nt:=5,nv:=1,nm:=[0,1],res:=[2],rf:=true }
def Eh.s (k:Nat):CK 82 (Eh.e k):=mS Eh.d k [] Try.func82 trivial trivial
def Gr.e (k:Nat):Ent:=⟨1,[(.val false .s)],[(.one,(.i .i64))],λ x=>Gr k x⟩
def Fe.p:LF:=⟨⟨[],[(0,.s),(3,(.i .u32)),(4,(.i .i64))]⟩,[((.exit 0),⟨[],[(3,(.i .u32))]⟩)],λ k x=>Fe k x.1 x.2.1 x.2.2⟩
def Gr.d:Fd := { nt:=20,nv:=1,nm:=[0,1,3,4],res:=[2],ls:=[(3,Fe.p)],rf:=true }
def Fe.s:LL Try.f87 Gr.d 3 Fe.p:=mL [] (λ _=>trivial) trivial
def Gr.s (k:Nat):CK 87 (Gr.e k):=mS Gr.d k [3] Try.func87 trivial ⟨Fe.s,trivial⟩
def G5.e (k:Nat):Ent:=⟨2,[(.val false .s),(.val false (.i .i64))],[(.one,(.i .i64))],λ x=>G5 k x.1 x.2⟩
def G5.d:Fd := { nt:=11,nv:=2,nm:=[0,1,2,3],res:=[4],cs:=λ k=>[(87,Gr.e k)],rf:=true }
def G5.s (k:Nat):CK 83 (G5.e k):=mS G5.d k [] Try.func83 ⟨Gr.s k,trivial⟩ trivial
def Bp.e (k:Nat):Ent:=⟨2,[(.val true t12),(.val false .s)],[(.one,t4)],λ x=>Bp k x.1 x.2⟩
def Bp.d:Fd := { nt:=20,nv:=2,nm:=[0,1,2,3],res:=[4],cs:=λ k=>[(82,Eh.e k),(83,G5.e k)],rf:=true }
def Bp.s (k:Nat):CK 72 (Bp.e k):=mS Bp.d k [] Try.func72 ⟨Eh.s k,G5.s k,trivial⟩ trivial
def Dl.e (k:Nat):Ent:=⟨3,[(.val true t12),(.val false .s),(.val false (.i .i64))],[(.one,.b)],λ x=>Dl k x.1 x.2.1 x.2.2⟩
def Dl.d:Fd := { nt:=12,nv:=3,nm:=[0,1,2,3,4,5],res:=[6],cs:=λ k=>[(57,Ar.e k),(72,Bp.e k)],rf:=true }
def Dl.s (k:Nat):CK 54 (Dl.e k):=mS Dl.d k [] Try.func54 ⟨Ar.s k,Bp.s k,trivial⟩ trivial
def Az.e (k:Nat):Ent:=⟨2,[(.val true t32),(.val false .s)],[(.one,.b)],λ x=>Az k x.1 x.2⟩
def B5.p:LF:=⟨⟨[(2,(.bp 2 0 0)),(5,(.bp 5 0 0)),(3999,(.hd 9)),(6999,(.hd 5))],[(1,.s),(18,t30),(19,(.i .i64)),(20,(.i .i64)),(3000,t32),(6000,t20)]⟩,[(.ret,⟨[],[(4,.b)]⟩),((.exit 0),⟨[],[]⟩)],λ k x=>B5 k x.1 x.2.1 x.2.2.1 x.2.2.2.1 x.2.2.2.2.1 x.2.2.2.2.2⟩
def Az.d:Fd := { nt:=49,nv:=2,nm:=[0,1,2,3,5,6,7,8,9,10],res:=[4],cs:=λ k=>[(51,Fc.e k),(53,Bd.e k),(54,Dl.e k),(55,Cf.e k)],ls:=[(3,B5.p)],rf:=true }
def Az.a (k:Nat):AC (Az.d.cs k):=⟨Fc.s k,Bd.s k,Dl.s k,Cf.s k,trivial⟩
def B5.s:LL Try.f30 Az.d 3 B5.p:=mL [] Az.a trivial
def Az.s (k:Nat):CK 30 (Az.e k):=mS Az.d k [3] Try.func30 (Az.a k) ⟨B5.s,trivial⟩
def Dw.e (k:Nat):Ent:=⟨2,[(.val true t32),(.val false t3)],[(.one,t4)],λ x=>Dw k x.1 x.2⟩
def Bi.p:LF:=⟨⟨[(2,(.bp 2 0 0)),(3999,(.hd 9))],[(5,t4),(7,(.i .i64)),(10,t3),(11,(.i .i64)),(12,(.i .i64)),(17,t30),(18,(.i .i64)),(19,(.i .i64)),(3000,t32)]⟩,[((.exit 2),⟨[(2,(.bp 2 0 0)),(3999,(.hd 9))],[(5,t4),(10,t3),(11,(.i .i64)),(12,(.i .i64)),(3000,t32)]⟩)],λ k x=>Bi k x.1 x.2.1 x.2.2.1 x.2.2.2.1 x.2.2.2.2.1 x.2.2.2.2.2.1 x.2.2.2.2.2.2.1 x.2.2.2.2.2.2.2.1 x.2.2.2.2.2.2.2.2⟩
def Cm.p:LF:=⟨⟨[(2,(.bp 2 0 0)),(3999,(.hd 9))],[(5,t4),(10,t3),(11,(.i .i64)),(12,(.i .i64)),(3000,t32)]⟩,[((.exit 0),⟨[],[(5,t4)]⟩)],λ k x=>Cm k x.1 x.2.1 x.2.2.1 x.2.2.2.1 x.2.2.2.2⟩
def Dw.d:Fd := { nt:=35,nv:=2,nm:=[0,1,2,3,5,6,7,8,9],res:=[4],ls:=[(6,Bi.p),(3,Cm.p)],rf:=true }
def Bi.s:LL Try.f73 Dw.d 6 Bi.p:=mL [] (λ _=>trivial) trivial
def Cm.s:LL Try.f73 Dw.d 3 Cm.p:=mL [6] (λ _=>trivial) ⟨Bi.s,trivial⟩
def Dw.s (k:Nat):CK 73 (Dw.e k):=mS Dw.d k [3] Try.func73 trivial ⟨Cm.s,trivial⟩
def Ff.e (k:Nat):Ent:=⟨1,[(.val true t32)],[(.one,t4)],λ x=>Ff k x⟩
def Ff.d:Fd := { nt:=8,nv:=1,nm:=[0,1],res:=[2],cs:=λ k=>[(72,Bp.e k),(73,Dw.e k)],rf:=true }
def Ff.s (k:Nat):CK 56 (Ff.e k):=mS Ff.d k [] Try.func56 ⟨Bp.s k,Dw.s k,trivial⟩ trivial
def Dq.e (k:Nat):Ent:=⟨2,[(.val false t24),(.val false t24)],[(.one,.b)],λ x=>Dq k x.1 x.2⟩
def C6.p:LF:=⟨⟨[],[(0,t24),(1,t24),(12,(.i .i64)),(13,(.i .i64))]⟩,[(.ret,⟨[],[(4,.b)]⟩),((.exit 0),⟨[],[]⟩)],λ k x=>C6 k x.1 x.2.1 x.2.2.1 x.2.2.2⟩
def Dq.d:Fd := { nt:=26,nv:=2,nm:=[0,1,2,3,5],res:=[4],ls:=[(4,C6.p)],rf:=true }
def C6.s:LL Try.f58 Dq.d 4 C6.p:=mL [] (λ _=>trivial) trivial
def Dq.s (k:Nat):CK 58 (Dq.e k):=mS Dq.d k [4] Try.func58 trivial ⟨C6.s,trivial⟩
def B0.e (k:Nat):Ent:=⟨1,[(.val true t32)],[(.one,.b)],λ x=>B0 k x⟩
def B6.p:LF:=⟨⟨[(1,(.bp 1 0 0)),(2999,(.hd 9))],[(3,t4),(9,t30),(10,(.i .i64)),(11,(.i .i64)),(2000,t32)]⟩,[(.ret,⟨[],[(2,.b)]⟩),((.exit 0),⟨[],[]⟩)],λ k x=>B6 k x.1 x.2.1 x.2.2.1 x.2.2.2.1 x.2.2.2.2⟩
def B0.d:Fd := { nt:=41,nv:=1,nm:=[0,1,3,4,5],res:=[2],cs:=λ k=>[(56,Ff.e k),(57,Ar.e k),(58,Dq.e k)],ls:=[(3,B6.p)],rf:=true }
def B0.a (k:Nat):AC (B0.d.cs k):=⟨Ff.s k,Ar.s k,Dq.s k,trivial⟩
def B6.s:LL Try.f31 B0.d 3 B6.p:=mL [] B0.a trivial
def B0.s (k:Nat):CK 31 (B0.e k):=mS B0.d k [3] Try.func31 (B0.a k) ⟨B6.s,trivial⟩
def D7.e (k:Nat):Ent:=⟨1,[(.val true t32)],[(.one,.b)],λ x=>D7 k x⟩
def Ei.p:LF:=⟨⟨[(1,(.bp 1 0 0)),(2999,(.hd 9))],[(8,t30),(9,(.i .i64)),(10,(.i .i64)),(16,t0),(17,(.i .i64)),(18,(.i .i64)),(2000,t32)]⟩,[(.ret,⟨[],[(2,.b)]⟩),((.exit 2),⟨[(1,(.bp 1 0 0)),(2999,(.hd 9))],[(8,t30),(9,(.i .i64)),(10,(.i .i64)),(2000,t32)]⟩)],λ k x=>Ei k x.1 x.2.1 x.2.2.1 x.2.2.2.1 x.2.2.2.2.1 x.2.2.2.2.2.1 x.2.2.2.2.2.2⟩
def Ej.p:LF:=⟨⟨[(1,(.bp 1 0 0)),(2999,(.hd 9))],[(8,t30),(9,(.i .i64)),(10,(.i .i64)),(2000,t32)]⟩,[(.ret,⟨[],[(2,.b)]⟩),((.exit 0),⟨[(1,(.bp 1 0 0)),(2999,(.hd 9))],[(2000,t32)]⟩)],λ k x=>Ej k x.1 x.2.1 x.2.2.1 x.2.2.2⟩
def D7.d:Fd := { nt:=30,nv:=1,nm:=[0,1,3,4,5,6],res:=[2],cs:=λ k=>[(29,Fp.e k),(30,Az.e k),(31,B0.e k)],ls:=[(5,Ei.p),(2,Ej.p)],rf:=true }
def D7.a (k:Nat):AC (D7.d.cs k):=⟨Fp.s k,Az.s k,B0.s k,trivial⟩
def Ei.s:LL Try.f12 D7.d 5 Ei.p:=mL [] D7.a trivial
def Ej.s:LL Try.f12 D7.d 2 Ej.p:=mL [5] D7.a ⟨Ei.s,trivial⟩
def D7.s (k:Nat):CK 12 (D7.e k):=mS D7.d k [2] Try.func12 (D7.a k) ⟨Ej.s,trivial⟩
def F4.e (k:Nat):Ent:=⟨1,[(.val false t1)],[(.one,.b)],λ x=>F4 k x⟩
def Ct.p:LF:=⟨⟨[(6,(.bp 6 0 0)),(7999,(.hd 9))],[(3,t17),(7,(.i .i64)),(7000,t32)]⟩,[(.ret,⟨[],[(2,.b)]⟩),((.exit 0),⟨[(6,(.bp 6 0 0)),(7999,(.hd 9))],[(7000,t32)]⟩)],λ k x=>Ct k x.1 x.2.1 x.2.2⟩
def F4.d:Fd := { nt:=93,nv:=1,nm:=[0,1,3,4,5,6,7],res:=[2],cs:=λ k=>[(4,I8.e k),(5,C8.e k),(6,Bb.e k),(7,Aw.e k),(8,Au.e k),(9,Bw.e k),(10,D0.e k),(11,Gy.e k),(12,D7.e k)],ls:=[(10,Ct.p)],sh:=true,rf:=true }
def F4.a (k:Nat):AC (F4.d.cs k):=⟨I8.s k,C8.s k,Bb.s k,Aw.s k,Au.s k,Bw.s k,D0.s k,Gy.s k,D7.s k,trivial⟩
def Ct.s:LL Try.f3 F4.d 10 Ct.p:=mL [] F4.a trivial
def F4.s (k:Nat):CK 3 (F4.e k):=mS F4.d k [10] Try.func3 (F4.a k) ⟨Ct.s,trivial⟩
end

def Tot {α:Type} (f:Nat→Option α) (Q:α→Prop):Prop:=∃ r K,(∀ k,K≤k→f k=some r)∧Q r
section
variable {α β:Type} {f g:Nat→Option α} {Q Q':α→Prop}
def Tot.mono (h:Tot f Q) (hq:∀ a,Q a→Q' a):Tot f Q':=by
 obtain⟨r,K,h1,h2⟩:=h
 exact⟨r,K,h1,hq r h2⟩
def Xoa {a:α} (h:Q a):Tot (λ _=>some a) Q:=⟨a,0,λ _ _=>rfl,h⟩
def Y2a {o:Option α} {a:α} (e:o=some a) (h:Q a):Tot (λ _=>o) Q:=⟨a,0,λ _ _=>e,h⟩
def Xpa {h:Nat→α→Option β} {R:β→Prop} (hf:Tot f Q) (hh:∀ a,Q a→Tot (λ k=>h k a) R):Tot (λ k=>(f k).bind (h k)) R:=by
 obtain⟨a,K,h1,h2⟩:=hf
 obtain⟨b,L,h3,h4⟩:=hh a h2
 exact⟨b,max K L,λ k hk=>by show (f k).bind (h k)=_;rw[h1 k (by omega)];exact h3 k (by omega),h4⟩
def Xra {c:Bool} (hc:c=true) (h:Tot f Q):Tot (λ k=>cond c (f k) (g k)) Q:=by subst hc;exact h
def Xqa {c:Bool} (hc:c=false) (h:Tot g Q):Tot (λ k=>cond c (f k) (g k)) Q:=by subst hc;exact h
def Xua {c:Bool} (h1:c=true→Tot f Q) (h2:c=false→Tot g Q):Tot (λ k=>cond c (f k) (g k)) Q:=by
 cases hc:c with
 |true=>exact h1 hc
 |false=>exact h2 hc
def Xsa {p:Prop} [Decidable p] (hp:p) (h:Tot f Q):Tot (λ k=>cond (decide p) (f k) (g k)) Q:=Xra (decide_eq_true hp) h
def Xta {p:Prop} [Decidable p] (hp:¬ p) (h:Tot g Q):Tot (λ k=>cond (decide p) (f k) (g k)) Q:=Xqa (decide_eq_false hp) h
def Xva {p:Prop} [Decidable p] (h1:p→Tot f Q) (h2:¬ p→Tot g Q):Tot (λ k=>cond (decide p) (f k) (g k)) Q:=
 Xua (λ h=>h1 (of_decide_eq_true h)) (λ h=>h2 (of_decide_eq_false h))
def Xwa {m n:Nat} (hp:m≤n) (h:Tot f Q):Tot (λ k=>cond (Nat.ble m n) (f k) (g k)) Q:=Xra (Zq hp) h
def Y0a {v:α} {h:Nat→α→Option β} {R:β→Prop} (hf:Tot f (λ r=>r=v)) (hh:Tot (λ k=>h k v) R):Tot (λ k=>(f k).bind (h k)) R:=
 Xpa hf (by rintro r rfl;exact hh)
def Y1a {c:Bool} (h1:c=false→Tot f Q) (h2:c=true→Tot g Q):Tot (λ k=>cond (!c) (f k) (g k)) Q:=by
 cases hc:c with
 |true=>exact h2 hc
 |false=>exact h1 hc
def Tot.succ (h:Tot (λ k=>f (k+1)) Q):Tot f Q:=by
 obtain⟨r,K,h1,h2⟩:=h
 exact⟨r,K+1,λ k hk=>by obtain⟨m,rfl⟩:∃ m,k=m+1:=⟨k-1,by omega⟩;exact h1 m (by omega),h2⟩
def Tot.and (h:Tot f Q) (h':Tot f Q'):Tot f (λ a=>Q a∧Q' a):=by
 obtain⟨r,K,h1,h2⟩:=h
 obtain⟨r',K',h1',h2'⟩:=h'
 have e:r=r':=by
  have a1:=h1 (max K K') (by omega)
  have a2:=h1' (max K K') (by omega)
  rw[a1]at a2
  exact Zfa a2
 subst e
 exact⟨r,K,h1,h2,h2'⟩
def Tot.law {f:Nat→Option Bool} (h:Tot f (λ b=>b=true)):∃ k,f k=some true:=by
 obtain⟨r,K,h1,h2⟩:=h
 subst h2
 exact⟨K,h1 K (Vv _)⟩
end
def w64 {n:Int} (h1 : -9223372036854775808≤n) (h2:n≤9223372036854775807):wrap .i64 n=n:=Go.IntWalk.i64_in n ⟨h1,h2⟩
def Kba (n:Int):0≤wrap .u8 n∧wrap .u8 n≤255:=by
 simp only[wrap,IntKind.signed,IntKind.bits]
 simp
 omega
def Eva (x m:Int) (h0:0≤m) (h1:m<9223372036854775808):0≤wrap .i64 ((ofInt (IntKind.bits .i64) x &&& ofInt (IntKind.bits .i64) m).toNat)∧wrap .i64 ((ofInt (IntKind.bits .i64) x &&& ofInt (IntKind.bits .i64) m).toNat)≤m:=by
 have hm:(ofInt (IntKind.bits .i64) m).toNat=m.toNat:=by
  rw[Aab]
  show (m % ((2 ^ 64:Nat):Int)).toNat=m.toNat
  rw[Int.emod_eq_of_lt h0 (by omega)]
 have hle:(ofInt (IntKind.bits .i64) x &&& ofInt (IntKind.bits .i64) m).toNat≤m.toNat:=by
  rw[BitVec.toNat_and,hm]
  exact Nat.and_le_right
 rw[w64 (by omega) (by omega)]
 omega
def Kca {x n:Int} (hx:0≤x) (hn:0<n):0≤Int.tmod x n∧Int.tmod x n<n:=by
 rw[Yea hx]
 exact⟨Int.emod_nonneg _ (by omega),Int.emod_lt_of_pos _ hn⟩

abbrev Cur:=List Int×Int×Int
def Pa (c:Cur):Prop:=(c.1.length:Int)≤1048576∧0≤c.2.1∧c.2.1≤1048576
def Gra (b:List Int) (hb:(b.length:Int)≤1048576):∀ (n:Nat) (h i:Int),0≤i→i+n=4001→Tot (λ k=>E3 k b h i) (λ r=>r.1=b):=by
 intro n
 induction n with
 |zero=>
  intro h i h0 hi
  refine Tot.succ ?_
  simp only[E3]
  refine Xva (λ h1=>?_) (λ h1=>Xoa rfl)
  exact Xta (by omega) (Xoa rfl)
 |succ n ih=>
  intro h i h0 hi
  refine Tot.succ ?_
  simp only[E3]
  refine Xva (λ h1=>?_) (λ h1=>Xoa rfl)
  refine Xva (λ h2=>?_) (λ h2=>Xoa rfl)
  refine Xsa h0 (Xsa h1 ?_)
  rw[w64 (n:=i+1) (by omega) (by omega)]
  exact ih _ _ (by omega) (by omega)
def Kda (b:List Int) (hb:(b.length:Int)≤1048576):Tot (λ k=>Fz k b) Pa:=by
 unfold Fz
 refine Xpa (Gra b hb 4001 _ 0 (by omega) (by omega)) (λ r hr=>?_)
 exact Xoa ⟨by rw[hr];exact hb,Zna 0,by show (0:Int)≤1048576;omega⟩
def O4 (c:Cur) (hc:Pa c):∃ x c',E4 c=some (x,c')∧0≤x∧x≤255∧Pa c':=by
 obtain⟨h1,h2,h3⟩:=hc
 unfold E4
 by_cases hlt:c.2.1<(c.1.length:Int)
 ·simp only[hlt,h2,decide_true,cond_true]
  obtain⟨a1,a2⟩:=Eva (wrap .i64 ((wrap .i64 ((ofInt (IntKind.bits .i64) (wrap .i64 ((ofInt (IntKind.bits .i64) (Int.fdiv (wrap .i64 ((wrap .i64 (c.2.2*6364136223846793005))+1442695040888963407)) (2 ^ (min (toNat 33) (IntKind.bits .i64)))) ^^^ ofInt (IntKind.bits .i64) (Int.fdiv (wrap .i64 ((wrap .i64 (c.2.2*6364136223846793005))+1442695040888963407)) (2 ^ (min (toNat 47) (IntKind.bits .i64))))).toNat)) &&& ofInt (IntKind.bits .i64) 255).toNat))+(wrap .i64 (getD c.1 (toNat c.2.1) (0:Int))))) 255 (by omega) (by omega)
  refine⟨_,_,rfl,a1,a2,h1,?_,?_⟩
  ·show 0≤wrap .i64 (c.2.1+1)
   rw[w64 (by omega) (by omega)]
   omega
  ·show wrap .i64 (c.2.1+1)≤1048576
   rw[w64 (by omega) (by omega)]
   omega
 ·simp only[hlt,decide_false,cond_false]
  obtain⟨a1,a2⟩:=Eva (wrap .i64 ((ofInt (IntKind.bits .i64) (Int.fdiv (wrap .i64 ((wrap .i64 (c.2.2*6364136223846793005))+1442695040888963407)) (2 ^ (min (toNat 33) (IntKind.bits .i64)))) ^^^ ofInt (IntKind.bits .i64) (Int.fdiv (wrap .i64 ((wrap .i64 (c.2.2*6364136223846793005))+1442695040888963407)) (2 ^ (min (toNat 47) (IntKind.bits .i64))))).toNat)) 255 (by omega) (by omega)
  exact⟨_,_,rfl,a1,a2,h1,h2,h3⟩
def Io (c:Cur) (hc:Pa c) (n:Int) (hn:n≤1000000000):∃ x c',Ax c n=some (x,c')∧0≤x∧(0<n→x<n)∧(n≤0→x=0)∧Pa c':=by
 unfold Ax
 by_cases h0:n≤0
 ·exact⟨0,c,by simp only[h0,decide_true,cond_true],by omega,by omega,λ _=>rfl,hc⟩
 ·by_cases h1:n≤256
  ·obtain⟨x,c',e,b0,b1,k⟩:=O4 c hc
   have hz:¬ n=0:=by omega
   have:=Kca b0 (show 0<n by omega)
   exact⟨Int.tmod x n,c',by simp only[h0,h1,hz,decide_true,decide_false,cond_true,cond_false,e,Vt],this.1,λ _=>this.2,λ h=>by omega,k⟩
  ·obtain⟨x,c1,e1,b0,b1,k1⟩:=O4 c hc
   obtain⟨y,c2,e2,b2,b3,k2⟩:=O4 c1 k1
   obtain⟨z,c3,e3,b4,b5,k3⟩:=O4 c2 k2
   have hz:¬ n=0:=by omega
   have:=Kca (show 0≤x*65536+y*256+z by omega) (show 0<n by omega)
   refine⟨Int.tmod (x*65536+y*256+z) n,c3,?_,this.1,λ _=>this.2,λ h=>by omega,k3⟩
   simp only[h0,h1,hz,decide_false,cond_false,e1,e2,e3,Vt]
   rw[w64 (n:=x*65536) (by omega) (by omega),w64 (n:=y*256) (by omega) (by omega),w64 (n:=x*65536+y*256) (by omega) (by omega),w64 (n:=x*65536+y*256+z) (by omega) (by omega)]
def O2a {α:Type} {l:List α} {i:Int} {d:α} (h0:0≤i) (h1:i<(l.length:Int)):l.getD i.toNat d∈l:=by
 have h:i.toNat<l.length:=by omega
 rw[Vb,Vg h]
 exact Zta h
def Ku (c:Cur) (hc:Pa c) (l:List Int) (hl:0<l.length) (hm:l.length≤2000000):∃ x c',C7 c l=some (x,c')∧x∈l∧Pa c':=by
 obtain⟨i,c',e,b0,b1,_,k⟩:=Io c hc (l.length:Int) (by omega)
 have b1:=b1 (by omega)
 refine⟨l.getD i.toNat 0,c',?_,O2a b0 b1,k⟩
 unfold C7
 simp only[e,Vt,b0,b1,decide_true,cond_true]
def Al (l:List Int):Prop:=∀ x∈l,0≤x∧x≤255
abbrev Stp:=Int×Int×Int
abbrev Row:=ByteArray×Stp×Bool×Int
abbrev Fil:=Stp×Bool×List Int
def Tx:List ByteArray:=[(⟨#[97]⟩:ByteArray),(⟨#[98]⟩:ByteArray),(⟨#[99,97,116,47,49]⟩:ByteArray),(⟨#[99,97,116,47,50]⟩:ByteArray),(⟨#[100,111,103]⟩:ByteArray),(⟨#[120,45,49]⟩:ByteArray)]

def A7a:∀ (a:List UInt8),Op.bytesLess a a=false
 |[]=>rfl
 |a::l=>by simp[Op.bytesLess,A7a l]
def Ewa:∀ (a b c:List UInt8),Op.bytesLess a b=true→Op.bytesLess b c=true→Op.bytesLess a c=true
 |_,[],_,h,_=>by simp[Op.bytesLess]at h
 |_,_::_,[],_,h=>by simp[Op.bytesLess]at h
 |[],_::_,_::_,_,_=>rfl
 |a::x,b::y,c::z,h1,h2=>by
  simp only[Op.bytesLess,Zx,Va,decide_eq_true_eq,beq_iff_eq]at h1 h2 ⊢
  rcases h1 with h1|⟨rfl,h1⟩
  ·rcases h2 with h2|⟨rfl,h2⟩
   ·exact .inl (UInt8.lt_trans h1 h2)
   ·exact .inl h1
  ·rcases h2 with h2|⟨rfl,h2⟩
   ·exact .inl h2
   ·exact .inr ⟨rfl,Ewa x y z h1 h2⟩
def Q8a:∀ (a b:List UInt8),Op.bytesLess a b=false→Op.bytesLess b a=false→a=b
 |[],[],_,_=>rfl
 |[],_::_,h,_=>by simp[Op.bytesLess]at h
 |_::_,[],_,h=>by simp[Op.bytesLess]at h
 |a::x,b::y,h1,h2=>by
  simp only[Op.bytesLess,Bool.or_eq_false_iff,Aob,decide_eq_false_iff_not]at h1 h2
  have hab:a=b:=by
   have h3:=UInt8.not_lt.1 h1.1
   have h4:=UInt8.not_lt.1 h2.1
   exact UInt8.le_antisymm h4 h3
  subst hab
  rw[Q8a x y (h1.2.resolve_left (by simp)) (h2.2.resolve_left (by simp))]
def tlt (a b:ByteArray):Bool:=Op.bytesLess a.toList b.toList
def teq (a b:ByteArray):Bool:=a.toList==b.toList
def Tz {a b:ByteArray} (h:a.toList=b.toList):a=b:=by
 rw[ByteArray.toList_eq,ByteArray.toList_eq]at h
 obtain⟨⟨x⟩⟩:=a
 obtain⟨⟨y⟩⟩:=b
 simp only at h
 rw[h]
def B9 {a b:ByteArray}:teq a b=true↔a=b:=by
 unfold teq
 rw[beq_iff_eq]
 exact⟨Tz,λ h=>by rw[h]⟩
def Es (a:ByteArray):tlt a a=false:=A7a _
def Hl {a b c:ByteArray} (h:tlt a b=true) (h':tlt b c=true):tlt a c=true:=Ewa _ _ _ h h'
def W6 {a b:ByteArray} (h:tlt a b=false) (h':tlt b a=false):a=b:=Tz (Q8a _ _ h h')
def Ro {a b:ByteArray} (h:tlt a b=true):tlt b a=false:=by
 cases hb:tlt b a
 ·rfl
 have:=Hl h hb
 rw[Es]at this
 cases this
def sle (a b:Stp):Bool:=cond (a.1 != b.1) (decide (a.1<b.1)) (cond (a.2.1 != b.2.1) (decide (a.2.1<b.2.1)) (decide (a.2.2<b.2.2)))
def Qh (a b:Stp):Ae a b=some (sle a b):=by
 unfold Ae sle
 cases a.1 != b.1<;>cases a.2.1 != b.2.1<;>rfl
def Iv {a b:Stp}:sle a b=true↔a.1<b.1∨(a.1=b.1∧(a.2.1<b.2.1∨(a.2.1=b.2.1∧a.2.2<b.2.2))):=by
 unfold sle
 by_cases h1:a.1=b.1
 ·by_cases h2:a.2.1=b.2.1
  ·simp[h1,h2]
  ·have:(a.2.1 != b.2.1)=true:=by simpa using h2
   simp[h1,this,h2]
 ·have:(a.1 != b.1)=true:=by simpa using h1
  simp[this,h1]
def Hx (a b:Row):Bool:=cond (!((a.2.1.1==b.2.1.1)&&((a.2.1.2.1==b.2.1.2.1)&&(a.2.1.2.2==b.2.1.2.2)))) (sle a.2.1 b.2.1) (cond (!(a.2.2.1==b.2.2.1)) b.2.2.1 (decide (a.2.2.2<b.2.2.2)))
def Kd:Row:=((⟨#[]⟩:ByteArray),(((0:Int),((0:Int),(0:Int))),(false,(0:Int))))
def Cpa (s:ByteArray):List Row→Nat→Option Nat
 |[],_=>none
 |r::l,i=>bif teq r.1 s then some i else Cpa s l (i+1)
def Hpa (l:List Row) (s:ByteArray):Nat→Nat
 |0=>0
 |k+1=>bif tlt s (l.getD k Kd).1 then Hpa l s k else k+1
def mrg (l:List Row) (x:Row):List Row:=match Cpa x.1 l 0 with
 |some i=>bif Hx (l.getD i Kd) x then l.set i x else l
 |none=>l.take (Hpa l x.1 l.length)++x::l.drop (Hpa l x.1 l.length)
def Kea (l:List Row) (s:ByteArray):∀ k,Hpa l s k≤k
 |0=>Vv _
 |k+1=>by
  unfold Hpa
  cases tlt s (l.getD k Kd).1 with
  |true=>have:=Kea l s k;simp only[cond_true];omega
  |false=>simp only[cond_false];omega
def Me {s:ByteArray}:∀ (l:List Row) (i j:Nat),Cpa s l i=some j→i≤j∧j<i+l.length∧teq (l.getD (j-i) Kd).1 s=true
 |[],i,j,h=>by simp[Cpa]at h
 |r::l,i,j,h=>by
  unfold Cpa at h
  cases ht:teq r.1 s with
  |true=>
   rw[ht]at h
   simp only[cond_true,Vc]at h
   subst h
   refine⟨Vv _,by simp,?_⟩
   rw[Ywa]
   exact ht
  |false=>
   rw[ht]at h
   simp only[cond_false]at h
   obtain⟨h1,h2,h3⟩:=Me l (i+1) j h
   refine⟨by omega,by simp only[Vh];omega,?_⟩
   rw[show j-i=(j-(i+1))+1 by omega]
   exact h3
def B8 {α:Type} {l:List α} {i:Nat} {d:α} (h:i<l.length):l.drop i=l.getD i d::l.drop (i+1):=by
 rw[Zf h,Vb,Vg h]
 rfl
def Few (l:List Row):Prop:=l.length≤1000000000000

def Qi (a b:ByteArray):(a==b)=teq a b:=beq_toListBytes a b
def Pb {s:ByteArray}:∀ (l:List Row) (i:Nat),Cpa s l i=none→∀ r∈l,r.1≠s
 |[],_,_,r,hr=>by simp at hr
 |a::l,i,h,r,hr=>by
  unfold Cpa at h
  cases ht:teq a.1 s
  case true=>rw[ht]at h;simp at h
  rw[ht]at h
  rcases Vk.1 hr with rfl|hr
  ·intro e
   rw[B9.2 e]at ht
   cases ht
  ·exact Pb l (i+1) h r hr
def Kfa {l:List Row} {x r:Row} (h:r∈mrg l x):r=x∨r∈l:=by
 unfold mrg at h
 split at h
 ·rename_i j hj
  cases hb:Hx (l.getD j Kd) x
  ·rw[hb]at h;exact .inr h
  rw[hb,cond_true]at h
  rcases Yq h with h|h
  ·exact .inr h
  ·exact .inl h
 ·rcases Vm.1 h with h|h
  ·exact .inr (Y8a h)
  ·rcases Vk.1 h with h|h
   ·exact .inl h
   ·exact .inr (Zn h)
def G3 (a:Stp):sle a a=false:=by
 cases h:sle a a with
 |false=>rfl
 |true=>rw[Iv]at h;omega
def Aq (l:List Row):Prop:=l.Pairwise (λ a b=>tlt a.1 b.1=true)
def A8a {l:List Row} {s:ByteArray} (hs:Aq l) (hn:∀ r∈l,r.1≠s):∀ k,k≤l.length→(∀ i,i<Hpa l s k→tlt (l.getD i Kd).1 s=true)∧(∀ i,Hpa l s k≤i→i<k→tlt s (l.getD i Kd).1=true)
 |0,_=>⟨λ i hi=>by simp[Hpa]at hi,λ i _ hi=>by omega⟩
 |k+1,hk=>by
  unfold Hpa
  cases ht:tlt s (l.getD k Kd).1 with
  |true=>
   simp only[cond_true]
   obtain⟨h1,h2⟩:=A8a hs hn k (by omega)
   refine⟨h1,λ i hi hik=>?_⟩
   by_cases e:i=k
   ·subst e;exact ht
   ·exact h2 i hi (by omega)
  |false=>
   simp only[cond_false]
   refine⟨λ i hi=>?_,λ i hi hik=>by omega⟩
   have hget:∀ j (hj:j<l.length),l.getD j Kd=l[j]:=λ j hj=>by rw[Vb,Vg hj];rfl
   have hkl:k<l.length:=by omega
   have hks:tlt (l.getD k Kd).1 s=true:=by
    cases h:tlt (l.getD k Kd).1 s
    case true=>rfl
    exfalso
    exact hn (l.getD k Kd) (by rw[hget k hkl];exact Zta hkl) (W6 h ht)
   by_cases e:i=k
   ·subst e;exact hks
   ·have h3:=(Zg.1 hs) i k (by omega) hkl (by omega)
    rw[hget i (by omega)]
    rw[hget k hkl]at hks
    exact Hl h3 hks
def Mf {l:List Row} {x:Row} (hs:Aq l):Aq (mrg l x):=by
 have hget:∀ j (hj:j<l.length),l.getD j Kd=l[j]:=λ j hj=>by rw[Vb,Vg hj];rfl
 unfold mrg
 split
 ·rename_i j hj
  obtain⟨_,h2,h3⟩:=Me l 0 j hj
  rw[Zda]at h3
  have hjl:j<l.length:=by omega
  have hname:l[j].1=x.1:=by rw[← hget j hjl];exact B9.1 h3
  cases hb:Hx (l.getD j Kd) x
  ·exact hs
  rw[cond_true]
  unfold Aq
  rw[Zg]
  intro a b ha hb hab
  rw[Wc]at ha hb
  have:=(Zg.1 hs) a b ha hb hab
  rw[Alb,Alb]
  by_cases e1:j=a
  ·subst e1
   rw[if_pos rfl,if_neg (by omega),← hname]
   exact this
  ·rw[if_neg e1]
   by_cases e2:j=b
   ·subst e2
    rw[if_pos rfl,← hname]
    exact this
   ·rw[if_neg e2]
    exact this
 ·rename_i hj
  have hn:=Pb l 0 hj
  obtain⟨c1,c2⟩:=A8a hs hn l.length (Vv _)
  have hc:=Kea l x.1 l.length
  unfold Aq
  rw[Zc,Wb]
  refine⟨Zra (Afb _ _) hs,⟨λ r hr=>?_,Zra (List.drop_sublist _ _) hs⟩,λ r hr q hq=>?_⟩
  ·obtain⟨i,hi,rfl⟩:=Z9a hr
   rw[Wi]at hi
   rw[List.getElem_drop,← hget _ (by omega)]
   exact c2 _ (by omega) (by omega)
  ·obtain⟨i,hi,rfl⟩:=Z9a hr
   rw[Vs]at hi
   have h1:tlt (List.take (Hpa l x.1 l.length) l)[i].1 x.1=true:=by
    rw[List.getElem_take,← hget _ (by omega)]
    exact c1 i (by omega)
   rcases Vk.1 hq with rfl|hq
   ·exact h1
   ·refine Hl h1 ?_
    obtain⟨m,hm,rfl⟩:=Z9a hq
    rw[Wi]at hm
    rw[List.getElem_drop,← hget _ (by omega)]
    exact c2 _ (by omega) (by omega)

def inR (n lo hi:Int):Bool:=decide (n≥lo)&&decide (n≤hi)
def O5 (n lo hi:Int):Bu n lo hi=some (inR n lo hi):=by
 unfold Bu inR
 cases decide (n≥lo)<;>rfl
def Exa (n lo hi:Int):Dc n lo hi=some (inR n lo hi):=by
 unfold Dc inR
 cases decide (n≥lo)<;>rfl
def Fk {n lo hi:Int}:inR n lo hi=true↔lo≤n∧n≤hi:=by
 unfold inR
 simp
def A9a (c:Int):Bool:=inR c 97 122||(inR c 48 57||(!(c != 45)||(!(c != 95)||!(c != 47))))
def Pc (s:ByteArray):Prop:=s.size≤4611686018427387904
def N5 (s:ByteArray):s.data.toList.length=s.size:=Yw
def Kga (s:ByteArray) (i:Int):0≤bt s i∧bt s i≤255:=by
 unfold bt
 have:=(s.data.toList.getD i.toNat 0).toNat_lt
 omega
def Woa (s:ByteArray) (i:Nat) (h:i<s.size):bt s (i:Int)=((s.data.toList[i]'(by rw[N5];exact h)).toNat:Int):=by
 unfold bt
 rw[Vl,Vb,Vg (by rw[N5];exact h)]
 rfl
def bOk (b:UInt8):Bool:=A9a (b.toNat:Int)
def Cqa (s:ByteArray) (hs:Pc s):∀ (n i:Nat),s.size-i=n→i≤s.size→
  Tot (λ k=>A8 k s (i:Int)) (λ r=>r=bif (s.data.toList.drop i).all bOk then .inr s else .inl false):=by
 unfold Pc at hs
 have hsz:=N5 s
 intro n
 induction n with
 |zero=>
  intro i hn hi
  refine Tot.succ ?_
  simp only[A8]
  refine Xta (by omega) (Xoa ?_)
  rw[Zw (by omega)]
  rfl
 |succ n ih=>
  intro i hn hi
  have hlt:i<s.size:=by omega
  refine Tot.succ ?_
  simp only[A8]
  refine Xsa (by omega) (Xsa (by omega) (Xsa (by omega) ?_))
  rw[w64 (n:=(i:Int)+1) (by omega) (by omega)]
  have hb:bOk (s.data.toList[i]'(by omega))=A9a (bt s (i:Int)):=by rw[Woa s i hlt];rfl
  rw[Zf (by omega),Z2a,hb]
  generalize bt s (i:Int)=c
  have h1:=ih (i+1) (by omega) (by omega)
  have e:(((i+1:Nat)):Int)=(i:Int)+1:=by omega
  rw[e]at h1
  cases hc:A9a c with
  |true=>
   rw[Wd]
   refine h1.mono (λ r hr=>hr) |> λ h=>?_
   obtain⟨r,K,h2,h3⟩:=h
   refine⟨r,K,λ k hk=>?_,h3⟩
   rw[← h2 k hk]
   unfold A9a inR at hc
   revert hc
   cases decide (c≥97)<;>cases decide (c≤122)<;>cases decide (c≥48)<;>cases decide (c≤57)<;>cases (c != 45)<;>cases (c != 95)<;>cases (c != 47)<;>first|(intro _;rfl)|(intro hc;cases hc)
  |false=>
   rw[Ys]
   refine⟨.inl false,0,λ k _=>?_,rfl⟩
   unfold A9a inR at hc
   revert hc
   cases decide (c≥97)<;>cases decide (c≤122)<;>cases decide (c≥48)<;>cases decide (c≤57)<;>cases (c != 45)<;>cases (c != 95)<;>cases (c != 47)<;>first|(intro _;rfl)|(intro hc;cases hc)
def Cg (s:ByteArray):Bool:=s.data.toList.all bOk&&inR (s.size:Int) 1 20
def Qj (s:ByteArray) (hs:Pc s):Tot (λ k=>As k s) (λ r=>r=Cg s):=by
 unfold As Cg
 refine Y0a (Cqa s hs _ 0 rfl (Vw _)) ?_
 rw[Zi]
 cases s.data.toList.all bOk with
 |true=>exact Y2a (a:=inR (s.size:Int) 1 20) (by simp only[cond_true,Yya,O5,Vt]) (by rw[Wd])
 |false=>exact Xoa rfl
def Gg (s:Stp):Bool:=inR s.1 0 1000000000&&(inR s.2.1 0 1000000&&inR s.2.2 0 20)
def Rp (s:Stp):Br s=some (Gg s):=by
 unfold Br Gg
 simp only[O5,Vt]
 cases inR s.1 0 1000000000<;>cases inR s.2.1 0 1000000<;>rfl
def Jj (x:Row):Bool:=Cg x.1&&(Gg x.2.1&&(inR x.2.2.2 0 200&&(!x.2.2.1||x.2.2.2==0)))
def Kha (x:Row) (hs:Pc x.1):Tot (λ k=>Fi k x) (λ r=>r=Jj x):=by
 unfold Fi Jj
 refine Y0a (Qj x.1 hs) ?_
 cases Cg x.1
 ·exact Xoa rfl
 refine Y2a (a:=Gg x.2.1&&(inR x.2.2.2 0 200&&(!x.2.2.1||x.2.2.2==0))) ?_ (by rw[Wd])
 simp only[cond_true,Rp,O5,Vt]
 cases Gg x.2.1<;>cases inR x.2.2.2 0 200<;>cases x.2.2.1<;>rfl
def chk:Option ByteArray→List Row→Bool
 |_,[]=>true
 |none,r::l=>Jj r&&chk (some r.1) l
 |some q,r::l=>Jj r&&(tlt q r.1&&chk (some r.1) l)
def Hm (l:List Row):Bool:=chk none l&&decide ((l.length:Int)≤60)
def W7 (l:List Row):Prop:=∀ r∈l,Pc r.1
def Aaa (l:List Row):Nat→Option ByteArray
 |0=>none
 |i+1=>some (l.getD i Kd).1
def O3a (l:List Row) (i:Nat) (h:i<l.length):chk (Aaa l i) (l.drop i)=(Jj (l.getD i Kd)&&(bif decide (0<i) then tlt (l.getD (i-1) Kd).1 (l.getD i Kd).1 else true)&&chk (Aaa l (i+1)) (l.drop (i+1))):=by
 rw[B8 (d:=Kd) h]
 cases i with
 |zero=>simp[Aaa,chk]
 |succ i=>simp[Aaa,chk,Awb]
def A3 {α:Type} {l:List α} {i:Nat} {d:α} (h1:i<l.length):l.getD i d∈l:=by
 rw[Vb,Vg h1]
 exact Zta h1
def Cra (l:List Row) (hf:Few l) (hs:W7 l):∀ (n i:Nat),l.length-i=n→i≤l.length→
  Tot (λ k=>Cr k l l (l.length:Int) (i:Int)) (λ r=>r=bif chk (Aaa l i) (l.drop i) then .inr l else .inl false):=by
 unfold Few at hf
 intro n
 induction n with
 |zero=>
  intro i hn hi
  refine Tot.succ ?_
  simp only[Cr]
  refine Xta (by omega) (Xoa ?_)
  rw[Zw (by omega)]
  cases Aaa l i<;>rfl
 |succ n ih=>
  intro i hn hi
  have hlt:i<l.length:=by omega
  refine Tot.succ ?_
  simp only[Cr]
  refine Xsa (by omega) (Xsa (by omega) (Xsa (by omega) ?_))
  rw[show toNat (i:Int)=i from Vl i,w64 (n:=(i:Int)+1) (by omega) (by omega),O3a l i hlt]
  have h1:=ih (i+1) (by omega) (by omega)
  have e:(((i+1:Nat)):Int)=(i:Int)+1:=by omega
  rw[e]at h1
  refine Y0a (Kha (l.getD i Kd) (hs _ (A3 hlt))) ?_
  cases hb:Jj (l.getD i Kd)
  ·exact Xra rfl (Xoa (by simp))
  refine Xqa rfl ?_
  rw[Wd]
  refine Xva (λ h0=>?_) (λ h0=>?_)
  ·rw[w64 (n:=(i:Int)-1) (by omega) (by omega)]
   refine Xsa (by omega) (Xsa (by omega) ?_)
   rw[show toNat ((i:Int)-1)=i-1 by omega,decide_eq_true (show 0<i by omega),cond_true]
   have et:(!(Op.bytesLess (l.getD (i-1) Kd).1.toList (l.getD i Kd).1.toList)) = !(tlt (l.getD (i-1) Kd).1 (l.getD i Kd).1):=rfl
   refine Xua (λ ht=>?_) (λ ht=>?_)
   ·have ht':(!(tlt (l.getD (i-1) Kd).1 (l.getD i Kd).1))=true:=ht
    rw[Vu]at ht'
    exact Xoa (by rw[ht'];rfl)
   ·have ht':(!(tlt (l.getD (i-1) Kd).1 (l.getD i Kd).1))=false:=ht
    rw[Wm]at ht'
    rw[ht',Wd]
    exact h1
  ·rw[decide_eq_false (show ¬ 0<i by omega),cond_false,Wd]
   exact h1
def O4a (l:List Row) (hf:Few l) (hs:W7 l):Tot (λ k=>Cy k l) (λ r=>r=Hm l):=by
 unfold Cy Hm
 refine Y0a (Cra l hf hs _ 0 rfl (Vw _)) ?_
 rw[Zi]
 show Tot _ (λ r=>r=(chk none l&&_))
 cases hc:chk none l with
 |true=>rw[show chk (Aaa l 0) l=true from hc];exact Xoa (by rw[Wd])
 |false=>rw[show chk (Aaa l 0) l=false from hc];exact Xoa rfl
def Csa:∀ (p:Option ByteArray) (l:List Row),chk p l=true↔Aq l∧(∀ r∈l,Jj r=true)∧(∀ q,p=some q→∀ r∈l,tlt q r.1=true)
 |p,[]=>by
  have:chk p []=true:=by cases p<;>rfl
  simp[this,Aq]
 |none,r::l=>by
  simp only[chk,Va,Csa (some r.1) l,Aq,Wb]
  constructor
  ·rintro⟨h1,h2,h3,h4⟩
   exact⟨⟨λ a ha=>h4 _ rfl a ha,h2⟩,λ a ha=>by rcases Vk.1 ha with rfl|ha;exact h1;exact h3 a ha,λ q hq=>by cases hq⟩
  ·rintro⟨⟨h1,h2⟩,h3,_⟩
   exact⟨h3 r (by simp),h2,λ a ha=>h3 a (Vd _ ha),λ q hq a ha=>by cases hq;exact h1 a ha⟩
 |some q,r::l=>by
  simp only[chk,Va,Csa (some r.1) l,Aq,Wb]
  constructor
  ·rintro⟨h1,h0,h2,h3,h4⟩
   refine⟨⟨λ a ha=>h4 _ rfl a ha,h2⟩,λ a ha=>by rcases Vk.1 ha with rfl|ha;exact h1;exact h3 a ha,λ q' hq a ha=>?_⟩
   cases hq
   rcases Vk.1 ha with rfl|ha
   ·exact h0
   ·exact Hl h0 (h4 _ rfl a ha)
  ·rintro⟨⟨h1,h2⟩,h3,h4⟩
   exact⟨h3 r (by simp),h4 q rfl r (by simp),h2,λ a ha=>h3 a (Vd _ ha),λ q' hq a ha=>by cases hq;exact h1 a ha⟩
def Ha {l:List Row}:Hm l=true↔Aq l∧(∀ r∈l,Jj r=true)∧l.length≤60:=by
 unfold Hm
 simp only[Va,Csa,decide_eq_true_eq]
 constructor
 ·rintro⟨⟨h1,h2,_⟩,h3⟩
  exact⟨h1,h2,by omega⟩
 ·rintro⟨h1,h2,h3⟩
  exact⟨⟨h1,h2,λ q hq=>by cases hq⟩,by omega⟩
def Oi (a b:List Row):List Row:=b.foldl mrg a
def W8 {a b:List Row} {r:Row} (h:r∈Oi a b):r∈a∨r∈b:=by
 induction b generalizing a with
 |nil=>exact .inl h
 |cons x b ih=>
  rcases ih (a:=mrg a x) h with h|h
  ·rcases Kfa h with rfl|h
   ·exact .inr (by simp)
   ·exact .inl h
  ·exact .inr (Vd _ h)
def I6 {a b:List Row} (h:Aq a):Aq (Oi a b):=by
 induction b generalizing a with
 |nil=>exact h
 |cons x b ih=>exact ih (Mf h)
def F6 (l:List Row) (s:ByteArray):Option Row:=l.find? (λ r=>teq r.1 s)
def mx (a b:Row):Row:=bif Hx a b then b else a
def O6 (a b:Row):Hx a b=true↔a.2.1.1<b.2.1.1∨(a.2.1.1=b.2.1.1∧(a.2.1.2.1<b.2.1.2.1∨(a.2.1.2.1=b.2.1.2.1∧(a.2.1.2.2<b.2.1.2.2∨(a.2.1.2.2=b.2.1.2.2∧((a.2.2.1=false∧b.2.2.1=true)∨(a.2.2.1=b.2.2.1∧a.2.2.2<b.2.2.2))))))):=by
 unfold Hx
 cases hs:(!((a.2.1.1==b.2.1.1)&&((a.2.1.2.1==b.2.1.2.1)&&(a.2.1.2.2==b.2.1.2.2)))) with
 |true=>
  rw[cond_true,Iv]
  have hne:¬ (a.2.1.1=b.2.1.1∧a.2.1.2.1=b.2.1.2.1∧a.2.1.2.2=b.2.1.2.2):=by
   intro ⟨h1,h2,h3⟩
   rw[h1,h2,h3]at hs
   simp at hs
  omega
 |false=>
  rw[cond_false]
  simp only[Wm,Va,beq_iff_eq]at hs
  obtain⟨h1,h2,h3⟩:=hs
  cases ha:a.2.2.1<;>cases hb:b.2.2.1<;>simp[h1,h2,h3]
def N6 {a b:Row} (h:Hx a b=true):Hx b a=false:=by
 cases hb:Hx b a
 ·rfl
 rw[O6]at h hb
 cases ha:a.2.2.1<;>cases hb':b.2.2.1<;>simp only[ha,hb']at h hb<;>simp at h hb<;>omega
def Kia {a b:Row} (hn:a.1=b.1) (h:Hx a b=false) (h':Hx b a=false):a=b:=by
 have h1:¬ Hx a b=true:=by rw[h];decide
 have h2:¬ Hx b a=true:=by rw[h'];decide
 rw[O6]at h1 h2
 obtain⟨n,⟨t,s,d⟩,e,z⟩:=a
 obtain⟨n',⟨t',s',d'⟩,e',z'⟩:=b
 simp only at hn h1 h2
 subst hn
 have hd:e=e'∧t=t'∧s=s'∧d=d'∧z=z':=by
  cases e<;>cases e'<;>simp at h1 h2 ⊢ <;> omega
 obtain⟨rfl,rfl,rfl,rfl,rfl⟩:=hd
 rfl
def Sea (a b:Row):mx (mx a b) b=mx a b:=by
 unfold mx
 cases h:Hx a b with
 |true=>
  have:Hx b b=false:=by
   cases hb:Hx b b with
   |false=>rfl
   |true=>have:=N6 hb;rw[hb]at this;cases this
  rw[cond_true,this]
  rfl
 |false=>rw[cond_false,h];rfl
def Hb {l:List Row} {s:ByteArray} {r:Row} (h:F6 l s=some r):r∈l∧r.1=s:=by
 unfold F6 at h
 exact⟨Adb h,B9.1 (List.find?_some (p:=λ r:Row=>teq r.1 s) h)⟩
def H2 {l:List Row} (hs:Aq l) {r:Row} (h:r∈l):F6 l r.1=some r:=by
 induction l with
 |nil=>simp at h
 |cons a l ih=>
  unfold Aq at hs
  rw[Wb]at hs
  unfold F6
  rw[Yra]
  rcases Vk.1 h with rfl|h
  ·rw[B9.2 rfl]
  ·have:teq a.1 r.1=false:=by
    cases ht:teq a.1 r.1
    ·rfl
    have h1:=hs.1 r h
    rw[B9.1 ht,Es]at h1
    cases h1
   rw[this]
   exact ih hs.2 h
def Rq:∀ {l m:List Row},Aq l→Aq m→(∀ s,F6 l s=F6 m s)→l=m
 |[],[],_,_,_=>rfl
 |[],b::m,_,hm,h=>by
  have:=H2 hm (r:=b) (by simp)
  rw[← h]at this
  simp[F6]at this
 |a::l,[],hl,_,h=>by
  have:=H2 hl (r:=a) (by simp)
  rw[h]at this
  simp[F6]at this
 |a::l,b::m,hl,hm,h=>by
  have hl':=hl
  have hm':=hm
  unfold Aq at hl hm
  rw[Wb]at hl hm
  have ha:=H2 hl' (r:=a) (by simp)
  have hb:=H2 hm' (r:=b) (by simp)
  have ea:a∈b::m:=(Hb (by rw[← h];exact ha)).1
  have eb:b∈a::l:=(Hb (by rw[h];exact hb)).1
  have hab:a=b:=by
   rcases Vk.1 ea with rfl|ea
   ·rfl
   ·rcases Vk.1 eb with rfl|eb
    ·rfl
    ·have h1:=hm.1 a ea
     have h2:=hl.1 b eb
     rw[Ro h1]at h2
     cases h2
  subst hab
  rw[Rq (l:=l) (m:=m) hl.2 hm.2 (λ s=>?_)]
  have hs:=h s
  unfold F6 at hs ⊢
  rw[Yra,Yra]at hs
  cases ht:teq a.1 s
  ·rw[ht]at hs;exact hs
  have none:∀ (k:List Row),(∀ r∈k,tlt a.1 r.1=true)→k.find? (λ r=>teq r.1 s)=none:=by
   intro k hk
   rw[List.find?_eq_none]
   intro r hr
   rw[B9]
   intro e
   have:=hk r hr
   rw[e,← B9.1 ht,Es]at this
   cases this
  rw[none l hl.1,none m hm.1]
def Aba {l:List Row} {x:Row} (hs:Aq l) (s:ByteArray):F6 (mrg l x) s=bif teq x.1 s then (match F6 l s with|some r=>some (mx r x)|none=>some x) else F6 l s:=by
 have hsm:=Mf (x:=x) hs
 have hget:∀ j (hj:j<l.length),l.getD j Kd=l[j]:=λ j hj=>by rw[Vb,Vg hj];rfl
 cases ht:teq x.1 s with
 |true=>
  have hxs:=B9.1 ht
  rw[cond_true]
  unfold mrg
  split
  ·rename_i j hj
   obtain⟨_,h2,h3⟩:=Me l 0 j hj
   rw[Zda]at h3
   have hjl:j<l.length:=by omega
   have hname:(l.getD j Kd).1=x.1:=B9.1 h3
   have hmem:l.getD j Kd∈l:=A3 hjl
   have hlk:F6 l s=some (l.getD j Kd):=by rw[← hxs,← hname];exact H2 hs hmem
   rw[hlk]
   show F6 (bif Hx (l.getD j Kd) x then l.set j x else l) s=some (mx (l.getD j Kd) x)
   unfold mx
   cases hb:Hx (l.getD j Kd) x
   ·rw[cond_false];exact hlk
   rw[cond_true]
   have:x∈l.set j x:=List.mem_set hjl x
   have hsm':Aq (l.set j x):=by
    have:=hsm
    unfold mrg at this
    rw[hj]at this
    simp only[hb,cond_true]at this
    exact this
   rw[← hxs]
   exact H2 hsm' this
  ·rename_i hj
   have hno:F6 l s=none:=by
    cases hl:F6 l s with
    |none=>rfl
    |some r=>
     obtain⟨h1,h2⟩:=Hb hl
     exact(Pb l 0 hj r h1 (h2.trans hxs.symm)).elim
   rw[hno]
   have hx:x∈mrg l x:=by unfold mrg;rw[hj];simp
   have:=H2 hsm hx
   unfold mrg at this
   rw[hj]at this
   rw[← hxs]
   exact this
 |false=>
  rw[cond_false]
  cases hl:F6 l s with
  |some r=>
   obtain⟨h1,h2⟩:=Hb hl
   have hr:r∈mrg l x:=by
    unfold mrg
    split
    ·rename_i j hj
     cases hb:Hx (l.getD j Kd) x
     ·exact h1
     rw[cond_true]
     obtain⟨i,hi,e⟩:=Z9a h1
     obtain⟨_,q2,q3⟩:=Me l 0 j hj
     rw[Zda]at q3
     have hij:i≠j:=by
      rintro rfl
      rw[hget i hi,e]at q3
      have:=B9.1 q3
      rw[B9.2 (this.symm.trans h2)]at ht
      cases ht
     rw[Yx]
     exact⟨i,by rw[Wc];exact hi,by rw[List.getElem_set_ne (Z8a hij)];exact e⟩
    ·have:r∈l.take (Hpa l x.1 l.length)++l.drop (Hpa l x.1 l.length):=by rw[Wh];exact h1
     rcases Vm.1 this with h|h
     ·exact Vx _ h
     ·exact Vn _ (Vd _ h)
   rw[← h2]
   exact H2 hsm hr
  |none=>
   cases hm:F6 (mrg l x) s with
   |none=>rfl
   |some r=>
    exfalso
    obtain⟨h1,h2⟩:=Hb hm
    rcases Kfa h1 with rfl|h1
    ·rw[B9.2 h2]at ht;cases ht
    ·have:=H2 hs h1
     rw[h2,hl]at this
     cases this
def cmb:Option Row→Option Row→Option Row
 |some a,some b=>some (mx a b)
 |some a,none=>some a
 |none,y=>y
def Pd {a b:List Row} (ha:Aq a) (hb:Aq b) (s:ByteArray):F6 (Oi a b) s=cmb (F6 a s) (F6 b s):=by
 induction b generalizing a with
 |nil=>show F6 a s=cmb (F6 a s) none;cases F6 a s<;>rfl
 |cons x b ih=>
  have hb':=hb
  unfold Aq at hb
  rw[Wb]at hb
  show F6 (Oi (mrg a x) b) s=_
  rw[ih (Mf ha) hb.2,Aba ha s]
  have e:F6 (x::b) s=bif teq x.1 s then some x else F6 b s:=by
   unfold F6
   rw[Yra]
   cases teq x.1 s<;>rfl
  rw[e]
  cases ht:teq x.1 s
  ·rfl
  have hno:F6 b s=none:=by
   cases hl:F6 b s with
   |none=>rfl
   |some r=>
    obtain⟨h1,h2⟩:=Hb hl
    have:=hb.1 r h1
    rw[h2,← B9.1 ht,Es]at this
    cases this
  rw[hno]
  cases F6 a s<;>rfl
def U0 {l:List Row} {s:ByteArray}:∀ r,F6 l s=some r→r.1=s:=λ r h=>(Hb h).2
def Kja {a b:List Row} (ha:Aq a) (hb:Aq b):Oi (Oi a b) b=Oi a b:=
 Rq (I6 (I6 ha)) (I6 ha) λ s=>by
  rw[Pd (I6 ha) hb,Pd ha hb]
  cases F6 a s<;>cases F6 b s<;>first|rfl|skip
  ·rename_i b;show some (mx b b)=some b;unfold mx;cases Hx b b<;>rfl
  ·rename_i a b;show some (mx (mx a b) b)=some (mx a b);rw[Sea]

end Go.Proofs.Ytiiekghlhfbmmaa.Vf
