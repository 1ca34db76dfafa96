import Derived.Test.YtcpligincipmhaaMai
import Derived.Test.YtcpligincipmhaaMab
import Derived.Test.YtcpligincipmhaaProg
import Derived.KernelRfl
import Derived.IntWalk
import Derived.Laws.StructEq
set_option linter.all false
namespace Go.Proofs.Ytcpligincipmhaa.Vf
open Go
open List (length getD)
open Int (toNat)
open Go.IntKind (wrap)
open BitVec (ofInt)
def Vm:=@Int.toNat_natCast
def Wf:=@Bool.true_and
def Yg:=@Bool.not_eq_false'
def Yp:=@List.drop_of_length_le
def Yq:=@List.pairwise_iff_getElem
def Yr:=@List.mem_iff_getElem
def Yw:=@List.mem_or_eq_of_mem_set
def Ze:=@Bool.false_and
def Beb:=@Int.tmod_eq_emod_of_nonneg
def Bzb:=@Option.some.inj
def C0b:=@List.find?_cons
def Cab:=@List.getElem_of_mem
def Cqb:=@List.getElem_take
def Ctb:=@Bool.and_eq_false_iff
def Cub:=@List.Pairwise.sublist
def Dcb:=@BitVec.toNat_ofInt
def Ddb:=@Sum.elim_inr
def Dgb:=@List.mem_of_find?_eq_some
def Dib:=@List.take_sublist
def Dob:=@List.getElem_set

section
open Go.RowKit
attribute [local irreducible] C H
def lk {α:Type}:List (Nat×α)→Nat→Option α
 |[],_=>none
 |(i,a)::l,n=>bif Nat.beq n i then some a else lk l n
structure LF where
 ins:A8a
 alts:List (Ex×A8a)
 f:Nat→ins.den→Option (P3a alts)
@[reducible] def LF.at (p:LF) (k:Nat):Lp:=⟨p.ins,p.alts,p.f k⟩
structure Fd where
 nt:Nat
 nv:Nat
 nm:List Nat
 res:List Nat
 cs:Nat→List (FuncId×Ent):=λ _=>[]
 ls:List (Nat×LF):=[]
 hint:List (Nat×Ty):=[]
 mv:List Nat:=[]
 gh:List (Nat×List Gh):=[]
 opn:List Nat:=[]
 sh:Bool:=false
 rf:Bool:=false
def Fd.n (D:Fd) (ti:TypeId→Option TI) (eqs:TypeId→Bool) (k:Nat):En:=
 ⟨D.nt,ti,eqs,D.nm.contains,D.res.contains,lk (D.cs k),λ l=>match lk D.ls l with|some p=>some (p.at k)|none=>none,D.nv,lk D.hint,D.mv.contains,λ n=>(lk D.gh n).getD [],D.opn.contains,λ _=>D.sh,D.rf⟩
def Swa {α:Type}:∀ {l:List (Nat×α)} {n:Nat} {a:α},lk l n=some a→n∈l.map Prod.fst
 |[],_,_,h=>by cases h
 |(i,b)::l,n,a,h=>by
  unfold lk at h;cases hb:Nat.beq n i
  case true=>rw[Ve hb];simp
  rw[hb,cond_false]at h;exact Vd _ (Swa h)
def Vda (P:Program):List (FuncId×Ent)→Prop
 |[]=>True
 |c::l=>L6 P c.1 c.2∧Vda P l
def Mfa {P:Program}:∀ {l:List (FuncId×Ent)} {f:FuncId} {en:Ent},Vda P l→lk l f=some en→L6 P f en
 |[],_,_,_,h=>by cases h
 |(i,a)::l,f,en,hc,h=>by
  unfold lk at h
  cases hb:Nat.beq f i with
  |true=>
   rw[hb,cond_true]at h;cases h;rw[Ve hb];exact hc.1
  |false=>rw[hb,cond_false]at h;exact Mfa hc.2 h
@[reducible] def bo (fn:Func):Code:=fn.body.getD .skip
structure T3 (P:Program) (ti:TypeId→Option TI) (eqs:TypeId→Bool):Prop where
 tok:∀ T t,ti T=some t→TOk P T t
 eq:∀ T,eqs T=true→eqB P ti 9 T=true∧(match ti T with|some t=>t.ag|none=>false)=true∧P.eqGuardType P.depth T=false
 mix:P.follows .mixedOrders=true
def LK (P:Program) (fn:Func) (D:Fd) (l:Nat) (p:LF):Prop:=∀ X:Cx,X.P=P→X.nt=fn.ntmps→X.np=D.nv→∀ k,Baa X (p.at k) (H1 l (bo fn))
def Vea (P:Program) (fn:Func) (D:Fd):List Nat→Prop
 |[]=>True
 |l::r=>(match lk D.ls l with|some p=>LK P fn D l p|none=>True)∧Vea P fn D r
def Mga {P:Program} {fn:Func} {D:Fd} {l:Nat} {p:LF} (hp:lk D.ls l=some p):∀ {r:List Nat},Vea P fn D r→l∈r→LK P fn D l p
 |[],_,h=>by cases h
 |i::r,ha,h=>by
  rcases Vk.1 h with rfl|h
  ·have:=ha.1;rw[hp]at this;exact this
  ·exact Mga hp ha.2 h
section
variable {P:Program} {ti:TypeId→Option TI} {eqs:TypeId→Bool} {fn:Func}
def Zna (hS:T3 P ti eqs) {D:Fd} {k:Nat} (hn:Nat.beq D.nt fn.ntmps=true) (hc:Vda P (D.cs k)) {X:Cx} (hP:X.P=P) (hx:X.nt=fn.ntmps) (hp:X.np=D.nv):Sq X (D.n ti eqs k):=
 Y2a hP ((Ve hn).trans hx.symm) hp.symm rfl rfl hS.tok hS.eq (λ _ _ h=>Mfa hc h)
def Y3a (hS:T3 P ti eqs) {D:Fd} {k:Nat} (hn:Nat.beq D.nt fn.ntmps=true) (hc:Vda P (D.cs k)) {X:Cx} (hP:X.P=P) (hx:X.nt=fn.ntmps) (hp:X.np=D.nv):Bba X (D.n ti eqs k):=
 Vba (Zna hS hn hc hP hx hp) (by rw[hP];exact hS.mix)
def Sxa {D:Fd} {k:Nat} {c:Code} {ids:List Nat} (h:(Ho c,ids.map λ l=>first (H1 l (bo fn)))=(ids.map λ l=>H1 l (bo fn),ids)) (hi:Vea P fn D ids) {X:Cx} (hP:X.P=P) (hx:X.nt=fn.ntmps) (hp:X.np=D.nv):Jq X (D.n ti eqs k) c:=by
 rw[Vx]at h;refine Qja (b:=bo fn) ids h.1 h.2 λ l hl L hL=>?_;have hL':(match lk D.ls l with|some p=>some (p.at k)|none=>none)=some L:=hL
 cases hp':lk D.ls l with
 |none=>rw[hp']at hL';cases hL'
 |some p=>
  rw[hp']at hL';cases hL';exact Mga hp' hi hl X hP hx hp k
@[reducible] def Abb (ti:TypeId→Option TI) (eqs:TypeId→Bool) (fn:Func) (D:Fd) (l:Nat) (p:LF):Prop:=∀ k x,K7a (D.n ti eqs k) (p.at k) (H1 l (bo fn)) x=p.f (k+1) x
def mkL (hS:T3 P ti eqs) {D:Fd} {l:Nat} {p:LF} (ids:List Nat) (hn:Nat.beq D.nt fn.ntmps=true) (hc:∀ k,Vda P (D.cs k)) (hi:Vea P fn D ids) (h:(Ho (H1 l (bo fn)),ids.map λ l=>first (H1 l (bo fn)))=(ids.map λ l=>H1 l (bo fn),ids)) (h0:∀ x,p.f 0 x=none) (hs:Abb ti eqs fn D l p):LK P fn D l p:=
 λ X hP hx hp=>Uxa (ins:=p.ins) (alts:=p.alts) (f:=p.f) (En':=D.n ti eqs) h0 hs (λ k=>Zna hS hn (hc k) hP hx hp) (λ k=>Y3a hS hn (hc k) hP hx hp) (λ k=>Sxa h hi hP hx hp)
def Zoa (fn:Func) (D:Fd) (en:Ent):Bool:=Nat.beq D.nt fn.ntmps&&(Nat.ble fn.ntmps 1000&&(Nat.ble en.nv fn.ntmps&&(Nat.beq en.nv D.nv&&(fn.body.isSome&&(!(fn.name == "runtime.NumGoroutine")&&E6a en)))))
def mkS (hS:T3 P ti eqs) {f:FuncId} {D:Fd} {k:Nat} {en:Ent} (ids:List Nat) (hf:P.funcs[f]? = some fn) (hc:Vda P (D.cs k)) (hi:Vea P fn D ids) (hk:Zoa fn D en=true) (h:(Ho (bo fn),ids.map λ l=>first (H1 l (bo fn)))=(ids.map λ l=>H1 l (bo fn),ids))
  (hr:∀ x,K8a (D.n ti eqs k) (bo fn) fn.results.toList en x=en.run x):L6 P f en:=by
 unfold Zoa at hk;simp only[Va,Wa]at hk;obtain⟨h1,h2,h3,h4,h5,h6,h7⟩:=hk;have h4:=Ve h4
 have hb:fn.body=some (bo fn):=by
  unfold bo
  cases hb:fn.body with
  |none=>rw[hb]at h5;cases h5
  |some c=>rfl
 refine⟨⟨fn,hf,h6,by rw[hb];rfl⟩,Ika hf hb (Vj h2) (Vj h3) (λ X hP hx hp=>?_) (λ X hP hx hp=>?_) (λ X hP hx hp=>?_) h7 hr⟩
 ·exact Zna hS h1 hc hP hx (hp.trans h4)
 ·exact Y3a hS h1 hc hP hx (hp.trans h4)
 ·exact Sxa h hi hP hx (hp.trans h4)
def Zpa {keys Wva:List Nat} (hk:∀ {T t},ti T=some t→T∈keys) (h1:(keys.all λ T=>(match ti T with|some t=>Zia P T t|none=>true)&&Pd P ti T)=true)
  (h2:(Wva.all λ T=>eqB P ti 9 T&&(match ti T with|some t=>t.ag|none=>false)&&!(P.eqGuardType P.depth T))=true) (he:eqs=λ T=>Wva.contains T) (hm:P.follows .mixedOrders=true):T3 P ti eqs∧∀ T,Pd P ti T=true:=by
 refine⟨⟨λ T t h=>?_,λ T h=>?_,hm⟩,λ T=>?_⟩
 ·have h3:=Yb.1 h1 T (hk h);rw[Va,h]at h3;exact X9a _ _ _ h3.1
 ·rw[he]at h;have h3:=Yb.1 h2 T (List.elem_iff.1 h);simp only[Va,Wa]at h3;exact⟨h3.1.1,h3.1.2,h3.2⟩
 ·cases h:ti T with
  |none=>unfold Pd;rw[h]
  |some t=>
   have h3:=Yb.1 h1 T (hk h);rw[Va]at h3;exact h3.2
end
end

section
open Go.Proofs
@[reducible] def t0:Ty := .sl 9 .s
@[reducible] def t1:Ty := .sl 5 (.i .u8)
@[reducible] def t2:Ty := .ow 5 (.i .u8)
@[reducible] def t3:Ty := .sl 3 (.i .i64)
@[reducible] def t4:Ty := .ow 3 (.i .i64)
@[reducible] def t5:Ty := .pr .s (.i .u64)
@[reducible] def t6:Ty := .pr (.i .i64) (.i .i64)
@[reducible] def t7:Ty := .sl 76 t3
@[reducible] def t8:Ty := .pr .s t1
@[reducible] def t9:Ty := .sl 128 t8
@[reducible] def t10:Ty := .ow 128 t8
@[reducible] def t11:Ty := .pr (.i .i64) t6
@[reducible] def t12:Ty := .pr (.i .i64) t7
@[reducible] def t13:Ty := .pr (.i .i64) (.ow 76 t4)
@[reducible] def t14:Ty := .pr (.i .i64) (.ow 76 t3)
@[reducible] def t15:Ty := .pr t1 (.pr (.i .i64) .b)
@[reducible] def t16:Ty := .pr t1 t6
@[reducible] def t17:Ty := .sl 51 t11
@[reducible] def t18:Ty := .ow 51 t11
@[reducible] def t19:Ty := .pr (.i .i64) (.pr (.i .i64) (.pr .b (.i .u8)))
@[reducible] def t20:Ty := .pr t11 (.pr .b t1)
@[reducible] def t21:Ty := .pr .s (.pr t11 (.pr .b (.i .i64)))
@[reducible] def t22:Ty := .pr t9 t9
@[reducible] def t23:Ty := .pr t10 t10
@[reducible] def t24:Ty := .sl 116 t21
@[reducible] def t25:Ty := .ow 116 t21
@[reducible] def t26:Ty := .pr .s (.pr t20 .b)
@[reducible] def t27:Ty := .sl 82 t26
@[reducible] def t28:Ty := .ow 82 t26
@[reducible] def t29:Ty := .pr t25 t25
@[reducible] def t30:Ty := .pr (.i .i64) (.pr t22 (.pr t24 t24))
@[reducible] def t31:Ty := .pr (.i .i64) (.pr t23 t29)
@[reducible] def t32:Ty := .pr (.i .i64) (.pr t22 t29)
@[reducible] def t33:Ty := .sl 59 t30
@[reducible] def t34:Ty := .ow 59 t30
@[reducible] def t35:Ty := .pr t34 (.pr t11 (.pr t28 (.ow 9 .s)))
@[reducible] def t36:Ty := .pr t17 (.pr t12 (.pr t33 (.pr t11 (.pr t27 t0))))
@[reducible] def t37:Ty := .pr t18 (.pr t12 t35)
@[reducible] def t38:Ty := .pr t18 (.pr t14 t35)
@[reducible] def t39:Ty := .pr t18 (.pr t12 (.pr t34 (.pr t11 (.pr t28 t0))))
def tiL:List (Nat×TI):=[(2,⟨(.i .i64),false,8,[]⟩),
 (3,⟨(.i .i64),false,8,[]⟩),
 (4,⟨.b,false,1,[]⟩),
 (5,⟨(.i .u8),false,1,[]⟩),
 (6,⟨(.i .u8),false,1,[]⟩),
 (7,⟨t19,true,24,[(0,1,false),(1,1,false),(2,1,false),(3,1,false)]⟩),
 (8,⟨t19,true,24,[(0,1,false),(1,1,false),(2,1,false),(3,1,false)]⟩),
 (9,⟨.s,false,16,[]⟩),
 (10,⟨.s,false,16,[]⟩),
 (11,⟨.s,false,16,[]⟩),
 (12,⟨(.i .u64),false,8,[]⟩),
 (13,⟨t5,true,24,[(0,1,false),(1,1,false)]⟩),
 (14,⟨t5,true,24,[(0,1,false),(1,1,false)]⟩),
 (21,⟨(.i .i32),false,4,[]⟩),
 (22,⟨t1,false,24,[]⟩),
 (24,⟨t17,false,24,[]⟩),
 (26,⟨t7,false,24,[]⟩),
 (27,⟨t12,true,32,[(0,1,false),(1,1,false)]⟩),
 (28,⟨t12,true,32,[(0,1,false),(1,1,false)]⟩),
 (29,⟨t33,false,24,[]⟩),
 (30,⟨t11,true,24,[(0,1,false),(1,1,false),(2,1,false)]⟩),
 (31,⟨t11,true,24,[(0,1,false),(1,1,false),(2,1,false)]⟩),
 (32,⟨t27,false,24,[]⟩),
 (33,⟨t0,false,24,[]⟩),
 (34,⟨t36,true,152,[(0,1,false),(1,2,true),(3,1,false),(4,3,true),(7,1,false),(8,1,false)]⟩),
 (35,⟨t36,true,152,[(0,1,false),(1,2,true),(3,1,false),(4,3,true),(7,1,false),(8,1,false)]⟩),
 (37,⟨t3,false,24,[]⟩),
 (40,⟨t20,true,56,[(0,3,true),(3,1,false),(4,1,false)]⟩),
 (41,⟨t20,true,56,[(0,3,true),(3,1,false),(4,1,false)]⟩),
 (50,⟨t11,true,24,[(0,1,false),(1,1,false),(2,1,false)]⟩),
 (51,⟨t11,true,24,[(0,1,false),(1,1,false),(2,1,false)]⟩),
 (54,⟨t9,false,24,[]⟩),
 (55,⟨t22,true,48,[(0,1,false),(1,1,false)]⟩),
 (56,⟨t22,true,48,[(0,1,false),(1,1,false)]⟩),
 (57,⟨t24,false,24,[]⟩),
 (58,⟨t30,true,104,[(0,1,false),(1,2,true),(3,1,false),(4,1,false)]⟩),
 (59,⟨t30,true,104,[(0,1,false),(1,2,true),(3,1,false),(4,1,false)]⟩),
 (70,⟨t16,true,40,[(0,1,false),(1,1,false),(2,1,false)]⟩),
 (71,⟨t16,true,40,[(0,1,false),(1,1,false),(2,1,false)]⟩),
 (75,⟨t3,true,24,[(0,1,false)]⟩),
 (76,⟨t3,true,24,[(0,1,false)]⟩),
 (81,⟨t26,true,80,[(0,1,false),(1,5,true),(6,1,false)]⟩),
 (82,⟨t26,true,80,[(0,1,false),(1,5,true),(6,1,false)]⟩),
 (115,⟨t21,true,56,[(0,1,false),(1,3,true),(4,1,false),(5,1,false)]⟩),
 (116,⟨t21,true,56,[(0,1,false),(1,3,true),(4,1,false),(5,1,false)]⟩),
 (127,⟨t8,true,40,[(0,1,false),(1,1,false)]⟩),
 (128,⟨t8,true,40,[(0,1,false),(1,1,false)]⟩),
 (130,⟨t15,true,40,[(0,1,false),(1,1,false),(2,1,false)]⟩),
 (131,⟨t15,true,40,[(0,1,false),(1,1,false),(2,1,false)]⟩),
 (142,⟨(.i .u64),false,8,[]⟩),
 (162,⟨(.i .u32),false,4,[]⟩),
 (171,⟨(.i .u8),false,1,[]⟩),
 (172,⟨(.i .u8),false,1,[]⟩),
 (175,⟨(.i .i32),false,4,[]⟩),
 (176,⟨(.i .i32),false,4,[]⟩)]
def ti:TypeId→Option TI:=lk tiL
def Wva:List Nat:=[30,31,50,51,115,116]
def eqs:TypeId→Bool:=λ T=>Wva.contains T
def sK:T3 Try.prog ti eqs∧∀ T,Pd Try.prog ti T=true:=Zpa (P:=Try.prog) (ti:=ti) (eqs:=eqs) (keys:=tiL.map Prod.fst) (Wva:=Wva) Swa (by kernel_rfl) (by kernel_rfl) rfl (by kernel_rfl)
def sO:T3 Try.prog ti eqs:=sK.1
def Ajb:∀ T t,ti T=some t→TOk Try.prog T t:=sO.tok
def Akb:∀ T,Pd Try.prog ti T=true:=sK.2
abbrev CK:=L6 Try.prog
abbrev LL:=LK Try.prog
abbrev AC:=Vda Try.prog
def mS {f:FuncId} {fn:Func} (D:Fd) (k:Nat) {en:Ent} (ids:List Nat) (hf:Try.prog.funcs[f]? = some fn) (hc:AC (D.cs k)) (hi:Vea Try.prog fn D ids) (h:(Zoa fn D en,Ho (bo fn),ids.map λ l=>first (H1 l (bo fn)))=(true,ids.map λ l=>H1 l (bo fn),ids):=by kernel_rfl) (hr:∀ x,K8a (D.n ti eqs k) (bo fn) fn.results.toList en x=en.run x:=by intro x;kernel_rfl):CK f en:=mkS sO ids hf hc hi (congrArg Prod.fst h) (congrArg Prod.snd h) hr
def mL {fn:Func} {D:Fd} {l:Nat} {p:LF} (ids:List Nat) (hc:∀ k,AC (D.cs k)) (hi:Vea Try.prog fn D ids) (h:(Nat.beq D.nt fn.ntmps,Ho (H1 l (bo fn)),ids.map λ l=>first (H1 l (bo fn)))=(true,ids.map λ l=>H1 l (bo fn),ids):=by kernel_rfl) (h0:∀ x,p.f 0 x=none:=by intro _;rfl) (hs:Abb ti eqs fn D l p:=by intro k x;kernel_rfl):LL fn D l p:=mkL sO ids (congrArg Prod.fst h) hc hi (congrArg Prod.snd h) h0 hs
def J0.e (k:Nat):Ent:=⟨1,[(.val false t1)],[(.one,.b)],λ x=>J0 x⟩
def J0.d:Fd := { nt:=6,nv:=1,nm:=[0,1],res:=[2] }
def J0.s (k:Nat):CK 4 (J0.e k):=mS J0.d k [] Try.func4 trivial trivial
def Ge.e (k:Nat):Ent:=⟨1,[(.val false t1)],[(.ptr,t16)],λ x=>Ge k x⟩
def Ev.p:LF:=⟨⟨[],[(0,t1),(3,(.i .i64)),(4,(.i .i64))]⟩,[((.exit 0),⟨[],[(0,t1),(3,(.i .i64))]⟩)],λ k x=>Ev k x.1 x.2.1 x.2.2⟩
def Ge.d:Fd := { nt:=32,nv:=1,nm:=[0,1,3,4],res:=[2],ls:=[(3,Ev.p)] }
def Ev.s:LL Try.f11 Ge.d 3 Ev.p:=mL [] (λ _=>trivial) trivial
def Ge.s (k:Nat):CK 11 (Ge.e k):=mS Ge.d k [3] Try.func11 trivial ⟨Ev.s,trivial⟩
def Ew.e (k:Nat):Ent:=⟨1,[(.ptr t16 t16)],[(.one,(.i .i64))],λ x=>Ew x⟩
def Ew.d:Fd := { nt:=58,nv:=1,nm:=[0,1,3],res:=[2] }
def Ew.s (k:Nat):CK 53 (Ew.e k):=mS Ew.d k [] Try.func53 trivial trivial
def Dc.e (k:Nat):Ent:=⟨2,[(.ptr t16 t16),(.val false (.i .i64))],[(.one,(.i .i64))],λ x=>Dc x.1 x.2⟩
def Dc.d:Fd := { nt:=31,nv:=2,nm:=[0,1,2,3,5,6,7],res:=[4],cs:=λ k=>[(53,Ew.e k)] }
def Dc.s (k:Nat):CK 27 (Dc.e k):=mS Dc.d k [] Try.func27 ⟨Ew.s k,trivial⟩ trivial
def Fg.e (k:Nat):Ent:=⟨2,[(.ptr t16 t16),(.val false t3)],[(.one,(.i .i64))],λ x=>Fg x.1 x.2⟩
def Fg.d:Fd := { nt:=12,nv:=2,nm:=[0,1,2,3],res:=[4],cs:=λ k=>[(27,Dc.e k)] }
def Fg.s (k:Nat):CK 13 (Fg.e k):=mS Fg.d k [] Try.func13 ⟨Dc.s k,trivial⟩ trivial
def Dy.e (k:Nat):Ent:=⟨1,[(.ptr t16 t16)],[(.one,t18)],λ x=>Dy k x⟩
def E7.p:LF:=⟨⟨[(0,(.bp 0 0 0)),(1999,(.hd 3))],[(3,t18),(4,(.i .i64)),(5,(.i .i64)),(6,(.i .i64)),(1000,t16)]⟩,[((.exit 0),⟨[(1999,(.hd 3))],[(3,t18),(1000,t16)]⟩)],λ k x=>E7 k x.1 x.2.1 x.2.2.1 x.2.2.2.1 x.2.2.2.2⟩
def Dy.d:Fd := { nt:=35,nv:=1,nm:=[0,1,3,4,5,6],res:=[2],cs:=λ k=>[(13,Fg.e k),(27,Dc.e k)],ls:=[(5,E7.p)],rf:=true }
def Dy.a (k:Nat):AC (Dy.d.cs k):=⟨Fg.s k,Dc.s k,trivial⟩
def E7.s:LL Try.f12 Dy.d 5 E7.p:=mL [] Dy.a trivial
def Dy.s (k:Nat):CK 12 (Dy.e k):=mS Dy.d k [5] Try.func12 (Dy.a k) ⟨E7.s,trivial⟩
def Bs.e (k:Nat):Ent:=⟨1,[(.val false t1)],[(.one,t18)],λ x=>Bs k x⟩
def Cd.p:LF:=⟨⟨[],[(4,t18),(5,(.i .i64)),(6,(.i .i64))]⟩,[((.exit 0),⟨[],[(4,t18)]⟩)],λ k x=>Cd k x.1 x.2.1 x.2.2⟩
def Bs.d:Fd := { nt:=30,nv:=1,nm:=[0,1,3,4,5,6],res:=[2],cs:=λ k=>[(11,Ge.e k),(12,Dy.e k),(13,Fg.e k)],ls:=[(5,Cd.p)],rf:=true }
def Bs.a (k:Nat):AC (Bs.d.cs k):=⟨Ge.s k,Dy.s k,Fg.s k,trivial⟩
def Cd.s:LL Try.f5 Bs.d 5 Cd.p:=mL [] Bs.a trivial
def Bs.s (k:Nat):CK 5 (Bs.e k):=mS Bs.d k [5] Try.func5 (Bs.a k) ⟨Cd.s,trivial⟩
def Bu.e (k:Nat):Ent:=⟨3,[(.val false (.i .i64)),(.val false (.i .i64)),(.val false (.i .i64))],[(.one,.b)],λ x=>Bu x.1 x.2.1 x.2.2⟩
def Bu.d:Fd := { nt:=15,nv:=3,nm:=[0,1,2,3,4,5],res:=[6] }
def Bu.s (k:Nat):CK 29 (Bu.e k):=mS Bu.d k [] Try.func29 trivial trivial
def Bv.e (k:Nat):Ent:=⟨1,[(.val false t17)],[(.one,.b)],λ x=>Bv k x⟩
def Dp.p:LF:=⟨⟨[],[(0,t17),(5,t17),(6,(.i .i64)),(7,(.i .i64))]⟩,[(.ret,⟨[],[(2,.b)]⟩),((.exit 0),⟨[],[(0,t17)]⟩)],λ k x=>Dp k x.1 x.2.1 x.2.2.1 x.2.2.2⟩
def Bv.d:Fd := { nt:=47,nv:=1,nm:=[0,1,3,4],res:=[2],cs:=λ k=>[(29,Bu.e k)],ls:=[(2,Dp.p)],rf:=true }
def Bv.a (k:Nat):AC (Bv.d.cs k):=⟨Bu.s k,trivial⟩
def Dp.s:LL Try.f28 Bv.d 2 Dp.p:=mL [] Bv.a trivial
def Bv.s (k:Nat):CK 28 (Bv.e k):=mS Bv.d k [2] Try.func28 (Bv.a k) ⟨Dp.s,trivial⟩
def B9.e (k:Nat):Ent:=⟨2,[(.val false t3),(.val false (.i .i64))],[(.one,.b)],λ x=>B9 k x.1 x.2⟩
def E8.p:LF:=⟨⟨[],[(1,(.i .i64)),(7,t3),(8,(.i .i64)),(9,(.i .i64))]⟩,[(.ret,⟨[],[(4,.b)]⟩),((.exit 0),⟨[],[]⟩)],λ k x=>E8 k x.1 x.2.1 x.2.2.1 x.2.2.2⟩
def B9.d:Fd := { nt:=17,nv:=2,nm:=[0,1,2,3,5,6],res:=[4],ls:=[(2,E8.p)],rf:=true }
def E8.s:LL Try.f55 B9.d 2 E8.p:=mL [] (λ _=>trivial) trivial
def B9.s (k:Nat):CK 55 (B9.e k):=mS B9.d k [2] Try.func55 trivial ⟨E8.s,trivial⟩
def Fh.e (k:Nat):Ent:=⟨2,[(.val false t17),(.val false (.i .i64))],[(.agg,t11),(.one,.b)],λ x=>Fh k x.1 x.2⟩
def Ey.p:LF:=⟨⟨[(4,(.bp 4 0 0)),(5999,(.hd 3))],[(1,(.i .i64)),(8,t17),(9,(.i .i64)),(10,(.i .i64)),(5000,t11)]⟩,[(.ret,⟨[(4,(.bp 4 0 0)),(5999,(.hd 3))],[(5,.b),(5000,t11)]⟩),((.exit 0),⟨[(4,(.bp 4 0 0)),(5999,(.hd 3))],[(5000,t11)]⟩)],λ k x=>Ey k x.1 x.2.1 x.2.2.1 x.2.2.2.1 x.2.2.2.2⟩
def Fh.d:Fd := { nt:=21,nv:=2,nm:=[0,1,2,3,6,7],res:=[5],ls:=[(2,Ey.p)],rf:=true }
def Ey.s:LL Try.f61 Fh.d 2 Ey.p:=mL [] (λ _=>trivial) trivial
def Fh.s (k:Nat):CK 61 (Fh.e k):=mS Fh.d k [2] Try.func61 trivial ⟨Ey.s,trivial⟩
def C3.e (k:Nat):Ent:=⟨2,[(.val false t3),(.val false t17)],[(.one,t4)],λ x=>C3 k x.1 x.2⟩
def Ce.p:LF:=⟨⟨[],[(1,t17),(5,t4),(10,t3),(11,(.i .i64)),(12,(.i .i64))]⟩,[((.exit 0),⟨[],[(5,t4)]⟩)],λ k x=>Ce k x.1 x.2.1 x.2.2.1 x.2.2.2.1 x.2.2.2.2⟩
def C3.d:Fd := { nt:=37,nv:=2,nm:=[0,1,2,3,5,6,7,8,9],res:=[4],cs:=λ k=>[(55,B9.e k),(61,Fh.e k)],ls:=[(3,Ce.p)],rf:=true }
def C3.a (k:Nat):AC (C3.d.cs k):=⟨B9.s k,Fh.s k,trivial⟩
def Ce.s:LL Try.f54 C3.d 3 Ce.p:=mL [] C3.a trivial
def C3.s (k:Nat):CK 54 (C3.e k):=mS C3.d k [3] Try.func54 (C3.a k) ⟨Ce.s,trivial⟩
def Fi.e (k:Nat):Ent:=⟨2,[(.val true t12),(.val false (.i .i64))],[(.one,(.i .i64))],λ x=>Fi k x.1 x.2⟩
def Dq.p:LF:=⟨⟨[],[(1,(.i .i64)),(5,(.i .i64)),(11,t7),(12,(.i .i64)),(13,(.i .i64)),(18,t3),(19,(.i .i64)),(20,(.i .i64))]⟩,[((.exit 2),⟨[],[(1,(.i .i64)),(5,(.i .i64)),(11,t7),(12,(.i .i64)),(13,(.i .i64))]⟩)],λ k x=>Dq k x.1 x.2.1 x.2.2.1 x.2.2.2.1 x.2.2.2.2.1 x.2.2.2.2.2.1 x.2.2.2.2.2.2.1 x.2.2.2.2.2.2.2⟩
def E9.p:LF:=⟨⟨[],[(1,(.i .i64)),(5,(.i .i64)),(11,t7),(12,(.i .i64)),(13,(.i .i64))]⟩,[((.exit 0),⟨[],[(5,(.i .i64))]⟩)],λ k x=>E9 k x.1 x.2.1 x.2.2.1 x.2.2.2.1 x.2.2.2.2⟩
def Fi.d:Fd := { nt:=32,nv:=2,nm:=[0,1,2,3,5,6,7,8,9],res:=[4],ls:=[(6,Dq.p),(3,E9.p)],rf:=true }
def Dq.s:LL Try.f56 Fi.d 6 Dq.p:=mL [] (λ _=>trivial) trivial
def E9.s:LL Try.f56 Fi.d 3 E9.p:=mL [6] (λ _=>trivial) ⟨Dq.s,trivial⟩
def Fi.s (k:Nat):CK 56 (Fi.e k):=mS Fi.d k [3] Try.func56 trivial ⟨E9.s,trivial⟩
def G3.e (k:Nat):Ent:=⟨3,[(.val true t12),(.val true t3),(.val false t17)],[(.one,(.i .i64))],λ x=>G3 k x.1 x.2.1 x.2.2⟩
def Ba.p:LF:=⟨⟨[(3,(.bp 3 0 0)),(4,(.bp 4 0 0)),(8,(.bp 8 0 0)),(4999,(.hd 2)),(5999,(.hd 1)),(9999,(.hd 3))],[(7,t4),(9,(.i .i64)),(10,.b),(23,t17),(24,(.i .i64)),(25,(.i .i64)),(4000,t12),(5000,t3),(9000,t11)]⟩,[((.exit 0),⟨[(8,(.bp 8 0 0)),(9999,(.hd 3))],[(9000,t11)]⟩)],λ k x=>Ba k x.1 x.2.1 x.2.2.1 x.2.2.2.1 x.2.2.2.2.1 x.2.2.2.2.2.1 x.2.2.2.2.2.2.1 x.2.2.2.2.2.2.2.1 x.2.2.2.2.2.2.2.2⟩
def G3.d:Fd := { nt:=76,nv:=3,nm:=[0,1,2,3,4,5,7,8,9,10,11,12,13,14],res:=[6],cs:=λ k=>[(28,Bv.e k),(54,C3.e k),(55,B9.e k),(56,Fi.e k)],ls:=[(6,Ba.p)],rf:=true }
def G3.a (k:Nat):AC (G3.d.cs k):=⟨Bv.s k,C3.s k,B9.s k,Fi.s k,trivial⟩
def Ba.s:LL Try.f30 G3.d 6 Ba.p:=mL [] G3.a trivial
def G3.s (k:Nat):CK 30 (G3.e k):=mS G3.d k [6] Try.func30 (G3.a k) ⟨Ba.s,trivial⟩
def E5.e (k:Nat):Ent:=⟨3,[(.val false t17),(.val false (.i .i64)),(.val false (.i .i64))],[(.agg,t13),(.one,.b)],λ x=>E5 k x.1 x.2.1 x.2.2⟩
def Ez.p:LF:=⟨⟨[(6,(.bp 6 0 0)),(8,(.bp 8 0 0)),(7999,(.hd 2)),(9999,(.hd 2))],[(0,t17),(2,(.i .i64)),(9,(.i .i64)),(34,(.i .i64)),(35,(.i .i64)),(44,(.i .i64)),(45,(.i .i64)),(7000,t14),(9000,t13)]⟩,[((.exit 2),⟨[(6,(.bp 6 0 0)),(8,(.bp 8 0 0)),(7999,(.hd 2)),(9999,(.hd 2))],[(0,t17),(2,(.i .i64)),(34,(.i .i64)),(35,(.i .i64)),(7000,t14),(9000,t13)]⟩)],λ k x=>Ez k x.1 x.2.1 x.2.2.1 x.2.2.2.1 x.2.2.2.2.1 x.2.2.2.2.2.1 x.2.2.2.2.2.2.1 x.2.2.2.2.2.2.2.1 x.2.2.2.2.2.2.2.2⟩
def F3.p:LF:=⟨⟨[(6,(.bp 6 0 0)),(8,(.bp 8 0 0)),(7999,(.hd 2)),(9999,(.hd 2))],[(0,t17),(2,(.i .i64)),(34,(.i .i64)),(35,(.i .i64)),(7000,t14),(9000,t13)]⟩,[((.exit 0),⟨[(6,(.bp 6 0 0)),(8,(.bp 8 0 0)),(7999,(.hd 2)),(9999,(.hd 2))],[(7000,t14),(9000,t13)]⟩)],λ k x=>F3 k x.1 x.2.1 x.2.2.1 x.2.2.2.1 x.2.2.2.2.1 x.2.2.2.2.2⟩
def E5.d:Fd := { nt:=70,nv:=3,nm:=[0,1,2,3,4,5,8,9,10,11],res:=[7],cs:=λ k=>[(28,Bv.e k),(29,Bu.e k),(30,G3.e k)],ls:=[(9,Ez.p),(5,F3.p)],hint:=[(41,t4),(42,t4)],mv:=[69],gh:=[(12,[.od 10 3001]),(1000010,[.cl 9001])],rf:=true }
def E5.a (k:Nat):AC (E5.d.cs k):=⟨Bv.s k,Bu.s k,G3.s k,trivial⟩
def Ez.s:LL Try.f14 E5.d 9 Ez.p:=mL [] E5.a trivial
def F3.s:LL Try.f14 E5.d 5 F3.p:=mL [9] E5.a ⟨Ez.s,trivial⟩
def E5.s (k:Nat):CK 14 (E5.e k):=mS E5.d k [5] Try.func14 (E5.a k) ⟨F3.s,trivial⟩
def Fm.e (k:Nat):Ent:=⟨1,[(.val false (.i .i64))],[(.agg,t31)],λ x=>Fm x⟩
def Fm.d:Fd := { nt:=9,nv:=1,nm:=[0,1],res:=[],cs:=λ k=>[(29,Bu.e k)],rf:=true }
def Fm.s (k:Nat):CK 15 (Fm.e k):=mS Fm.d k [] Try.func15 ⟨Bu.s k,trivial⟩ trivial
def Ca.e (k:Nat):Ent:=⟨3,[(.val false t17),(.val false (.i .i64)),(.val false (.i .i64))],[(.agg,t37)],λ x=>Ca k x.1 x.2.1 x.2.2⟩
def Cz.p:LF:=⟨⟨[(6,(.bp 6 0 0)),(9,(.bp 9 0 0)),(7999,(.hd 9)),(10999,(.hd 9))],[(26,t17),(27,(.i .i64)),(28,(.i .i64)),(7000,t38),(10000,t37)]⟩,[((.exit 0),⟨[(6,(.bp 6 0 0)),(9,(.bp 9 0 0)),(7999,(.hd 9)),(10999,(.hd 9))],[(7000,t38),(10000,t37)]⟩)],λ k x=>Cz k x.1 x.2.1 x.2.2.1 x.2.2.2.1 x.2.2.2.2⟩
def Ca.d:Fd := { nt:=42,nv:=3,nm:=[0,1,2,3,4,5,7,8,9,10,11],res:=[],cs:=λ k=>[(14,E5.e k),(15,Fm.e k)],ls:=[(6,Cz.p)],mv:=[41],rf:=true }
def Ca.a (k:Nat):AC (Ca.d.cs k):=⟨E5.s k,Fm.s k,trivial⟩
def Cz.s:LL Try.f6 Ca.d 6 Cz.p:=mL [] Ca.a trivial
def Ca.s (k:Nat):CK 6 (Ca.e k):=mS Ca.d k [6] Try.func6 (Ca.a k) ⟨Cz.s,trivial⟩
def Dh.e (k:Nat):Ent:=⟨1,[(.val false t3)],[(.one,t4)],λ x=>Dh x⟩
def Dh.d:Fd := { nt:=5,nv:=1,nm:=[0,1],res:=[2],rf:=true }
def Dh.s (k:Nat):CK 57 (Dh.e k):=mS Dh.d k [] Try.func57 trivial trivial
def Cb.e (k:Nat):Ent:=⟨1,[(.val true t12)],[(.agg,t14)],λ x=>Cb k x⟩
def D0.p:LF:=⟨⟨[(2,(.bp 2 0 0)),(3,(.bp 3 0 0)),(3999,(.hd 2)),(4999,(.hd 2))],[(10,t7),(11,(.i .i64)),(12,(.i .i64)),(3000,t14),(4000,t14)]⟩,[((.exit 0),⟨[(2,(.bp 2 0 0)),(3,(.bp 3 0 0)),(3999,(.hd 2)),(4999,(.hd 2))],[(3000,t14),(4000,t14)]⟩)],λ k x=>D0 k x.1 x.2.1 x.2.2.1 x.2.2.2.1 x.2.2.2.2⟩
def Cb.d:Fd := { nt:=27,nv:=1,nm:=[0,1,3,4,5],res:=[],cs:=λ k=>[(57,Dh.e k)],ls:=[(3,D0.p)],mv:=[26],rf:=true }
def Cb.a (k:Nat):AC (Cb.d.cs k):=⟨Dh.s k,trivial⟩
def D0.s:LL Try.f31 Cb.d 3 D0.p:=mL [] Cb.a trivial
def Cb.s (k:Nat):CK 31 (Cb.e k):=mS Cb.d k [3] Try.func31 (Cb.a k) ⟨D0.s,trivial⟩
def Aj.e (k:Nat):Ent:=⟨1,[(.val false t1)],[(.one,t2)],λ x=>Aj x⟩
def Aj.d:Fd := { nt:=5,nv:=1,nm:=[0,1],res:=[2] }
def Aj.s (k:Nat):CK 19 (Aj.e k):=mS Aj.d k [] Try.func19 trivial trivial
def Bi.e (k:Nat):Ent:=⟨1,[(.val false t9)],[(.one,t10)],λ x=>Bi k x⟩
def Cf.p:LF:=⟨⟨[],[(3,t10),(6,t9),(7,(.i .i64)),(8,(.i .i64))]⟩,[((.exit 0),⟨[],[(3,t10)]⟩)],λ k x=>Cf k x.1 x.2.1 x.2.2.1 x.2.2.2⟩
def Bi.d:Fd := { nt:=23,nv:=1,nm:=[0,1,3,4,5],res:=[2],cs:=λ k=>[(19,Aj.e k)],ls:=[(3,Cf.p)] }
def Bi.a (k:Nat):AC (Bi.d.cs k):=⟨Aj.s k,trivial⟩
def Cf.s:LL Try.f81 Bi.d 3 Cf.p:=mL [] Bi.a trivial
def Bi.s (k:Nat):CK 81 (Bi.e k):=mS Bi.d k [3] Try.func81 (Bi.a k) ⟨Cf.s,trivial⟩
def A5.e (k:Nat):Ent:=⟨1,[(.val true t22)],[(.agg,t23)],λ x=>A5 k x⟩
def A5.d:Fd := { nt:=10,nv:=1,nm:=[0,1],res:=[],cs:=λ k=>[(81,Bi.e k)] }
def A5.s (k:Nat):CK 58 (A5.e k):=mS A5.d k [] Try.func58 ⟨Bi.s k,trivial⟩ trivial
def Al.e (k:Nat):Ent:=⟨1,[(.val false t24)],[(.one,t25)],λ x=>Al x⟩
def Al.d:Fd := { nt:=5,nv:=1,nm:=[0,1],res:=[2] }
def Al.s (k:Nat):CK 59 (Al.e k):=mS Al.d k [] Try.func59 trivial trivial
def B7.e (k:Nat):Ent:=⟨1,[(.val true t30)],[(.agg,t31)],λ x=>B7 k x⟩
def B7.d:Fd := { nt:=15,nv:=1,nm:=[0,1],res:=[],cs:=λ k=>[(58,A5.e k),(59,Al.e k)] }
def B7.s (k:Nat):CK 32 (B7.e k):=mS B7.d k [] Try.func32 ⟨A5.s k,Al.s k,trivial⟩ trivial
def Di.e (k:Nat):Ent:=⟨1,[(.val true t20)],[(.agg,(.pr t11 (.pr .b t2)))],λ x=>Di x⟩
def Di.d:Fd := { nt:=8,nv:=1,nm:=[0,1],res:=[],cs:=λ k=>[(19,Aj.e k)],mv:=[7],rf:=true }
def Di.s (k:Nat):CK 33 (Di.e k):=mS Di.d k [] Try.func33 ⟨Aj.s k,trivial⟩ trivial
def Ax.e (k:Nat):Ent:=⟨1,[(.val true t36)],[(.agg,t38)],λ x=>Ax k x⟩
def Cg.p:LF:=⟨⟨[(2,(.bp 2 0 0)),(3,(.bp 3 0 0)),(3999,(.hd 9)),(4999,(.hd 9))],[(36,t27),(37,(.i .i64)),(38,(.i .i64)),(3000,t38),(4000,t38)]⟩,[((.exit 2),⟨[(2,(.bp 2 0 0)),(3,(.bp 3 0 0)),(3999,(.hd 9)),(4999,(.hd 9))],[(3000,t38),(4000,t38)]⟩)],λ k x=>Cg k x.1 x.2.1 x.2.2.1 x.2.2.2.1 x.2.2.2.2⟩
def Ch.p:LF:=⟨⟨[(1,(.bp 1 0 0)),(2,(.bp 2 0 0)),(3,(.bp 3 0 0)),(2999,(.hd 9)),(3999,(.hd 9)),(4999,(.hd 9))],[(21,t33),(22,(.i .i64)),(23,(.i .i64)),(2000,t36),(3000,t38),(4000,t38)]⟩,[((.exit 0),⟨[(1,(.bp 1 0 0)),(2,(.bp 2 0 0)),(3,(.bp 3 0 0)),(2999,(.hd 9)),(3999,(.hd 9)),(4999,(.hd 9))],[(2000,t36),(3000,t38),(4000,t38)]⟩)],λ k x=>Ch k x.1 x.2.1 x.2.2.1 x.2.2.2.1 x.2.2.2.2.1 x.2.2.2.2.2⟩
def Ax.d:Fd := { nt:=54,nv:=1,nm:=[0,1,3,4,5,6,7],res:=[],cs:=λ k=>[(31,Cb.e k),(32,B7.e k),(33,Di.e k)],ls:=[(8,Cg.p),(3,Ch.p)],mv:=[53],rf:=true }
def Ax.a (k:Nat):AC (Ax.d.cs k):=⟨Cb.s k,B7.s k,Di.s k,trivial⟩
def Cg.s:LL Try.f16 Ax.d 8 Cg.p:=mL [] Ax.a trivial
def Ch.s:LL Try.f16 Ax.d 3 Ch.p:=mL [] Ax.a trivial
def Ax.s (k:Nat):CK 16 (Ax.e k):=mS Ax.d k [3,8] Try.func16 (Ax.a k) ⟨Ch.s,Cg.s,trivial⟩
def Ac.e (k:Nat):Ent:=⟨1,[(.val false .s)],[(.one,.b)],λ x=>Ac k x⟩
def Am.p:LF:=⟨⟨[],[(0,.s),(3,(.i .i64))]⟩,[(.ret,⟨[],[(2,.b)]⟩),((.exit 0),⟨[],[(0,.s)]⟩)],λ k x=>Am k x.1 x.2⟩
def Ac.d:Fd := { nt:=45,nv:=1,nm:=[0,1,3,4],res:=[2],cs:=λ k=>[(29,Bu.e k)],ls:=[(2,Am.p)] }
def Ac.a (k:Nat):AC (Ac.d.cs k):=⟨Bu.s k,trivial⟩
def Am.s:LL Try.f20 Ac.d 2 Am.p:=mL [] Ac.a trivial
def Ac.s (k:Nat):CK 20 (Ac.e k):=mS Ac.d k [2] Try.func20 (Ac.a k) ⟨Am.s,trivial⟩
def Fa.e (k:Nat):Ent:=⟨1,[(.val false t3)],[(.one,.b)],λ x=>Fa k x⟩
def F4.p:LF:=⟨⟨[],[(0,t3),(5,t3),(6,(.i .i64)),(7,(.i .i64))]⟩,[(.ret,⟨[],[(2,.b)]⟩),((.exit 0),⟨[],[]⟩)],λ k x=>F4 k x.1 x.2.1 x.2.2.1 x.2.2.2⟩
def Fa.d:Fd := { nt:=18,nv:=1,nm:=[0,1,3,4],res:=[2],cs:=λ k=>[(55,B9.e k)],ls:=[(2,F4.p)],rf:=true }
def Fa.a (k:Nat):AC (Fa.d.cs k):=⟨B9.s k,trivial⟩
def F4.s:LL Try.f60 Fa.d 2 F4.p:=mL [] Fa.a trivial
def Fa.s (k:Nat):CK 60 (Fa.e k):=mS Fa.d k [2] Try.func60 (Fa.a k) ⟨F4.s,trivial⟩
def Df.e (k:Nat):Ent:=⟨2,[(.val true t12),(.val false t17)],[(.one,.b)],λ x=>Df k x.1 x.2⟩
def Ea.p:LF:=⟨⟨[(2,(.bp 2 0 0)),(3999,(.hd 2))],[(1,t17),(28,t7),(29,(.i .i64)),(30,(.i .i64)),(47,t3),(48,(.i .i64)),(49,(.i .i64)),(3000,t12)]⟩,[(.ret,⟨[],[(4,.b)]⟩),((.exit 2),⟨[(2,(.bp 2 0 0)),(3999,(.hd 2))],[(1,t17),(28,t7),(29,(.i .i64)),(30,(.i .i64)),(3000,t12)]⟩)],λ k x=>Ea k x.1 x.2.1 x.2.2.1 x.2.2.2.1 x.2.2.2.2.1 x.2.2.2.2.2.1 x.2.2.2.2.2.2.1 x.2.2.2.2.2.2.2⟩
def Eb.p:LF:=⟨⟨[(2,(.bp 2 0 0)),(3999,(.hd 2))],[(1,t17),(28,t7),(29,(.i .i64)),(30,(.i .i64)),(3000,t12)]⟩,[(.ret,⟨[],[(4,.b)]⟩),((.exit 0),⟨[],[]⟩)],λ k x=>Eb k x.1 x.2.1 x.2.2.1 x.2.2.2.1 x.2.2.2.2⟩
def Df.d:Fd := { nt:=63,nv:=2,nm:=[0,1,2,3,5,6,7,8,9,10],res:=[4],cs:=λ k=>[(28,Bv.e k),(29,Bu.e k),(60,Fa.e k),(61,Fh.e k)],ls:=[(9,Ea.p),(4,Eb.p)],rf:=true }
def Df.a (k:Nat):AC (Df.d.cs k):=⟨Bv.s k,Bu.s k,Fa.s k,Fh.s k,trivial⟩
def Ea.s:LL Try.f34 Df.d 9 Ea.p:=mL [] Df.a trivial
def Eb.s:LL Try.f34 Df.d 4 Eb.p:=mL [9] Df.a ⟨Ea.s,trivial⟩
def Df.s (k:Nat):CK 34 (Df.e k):=mS Df.d k [4] Try.func34 (Df.a k) ⟨Eb.s,trivial⟩
def Bj.e (k:Nat):Ent:=⟨1,[(.val true t11)],[(.one,.b)],λ x=>Bj x⟩
def Bj.d:Fd := { nt:=16,nv:=1,nm:=[0,1],res:=[2],cs:=λ k=>[(29,Bu.e k)] }
def Bj.s (k:Nat):CK 35 (Bj.e k):=mS Bj.d k [] Try.func35 ⟨Bu.s k,trivial⟩ trivial
def Bl.e (k:Nat):Ent:=⟨2,[(.val true t11),(.val true t11)],[(.one,.b)],λ x=>Bl x.1 x.2⟩
def Bl.d:Fd := { nt:=32,nv:=2,nm:=[0,1,2,3],res:=[4] }
def Bl.s (k:Nat):CK 46 (Bl.e k):=mS Bl.d k [] Try.func46 trivial trivial
def Ci.e (k:Nat):Ent:=⟨1,[(.val true t20)],[(.one,.b)],λ x=>Ci x⟩
def Ci.d:Fd := { nt:=23,nv:=1,nm:=[0,1],res:=[2],cs:=λ k=>[(35,Bj.e k)] }
def Ci.s (k:Nat):CK 62 (Ci.e k):=mS Ci.d k [] Try.func62 ⟨Bj.s k,trivial⟩ trivial
def Cc.e (k:Nat):Ent:=⟨1,[(.val true t36)],[(.one,.b)],λ x=>Cc k x⟩
def D5.p:LF:=⟨⟨[(1,(.bp 1 0 0)),(2999,(.hd 9))],[(6,t27),(7,(.i .i64)),(8,(.i .i64)),(2000,t36)]⟩,[(.ret,⟨[],[(2,.b)]⟩),((.exit 0),⟨[(1,(.bp 1 0 0)),(2999,(.hd 9))],[(2000,t36)]⟩)],λ k x=>D5 k x.1 x.2.1 x.2.2.1 x.2.2.2⟩
def Cc.d:Fd := { nt:=35,nv:=1,nm:=[0,1,3,4],res:=[2],cs:=λ k=>[(20,Ac.e k),(46,Bl.e k),(62,Ci.e k)],ls:=[(2,D5.p)],rf:=true }
def Cc.a (k:Nat):AC (Cc.d.cs k):=⟨Ac.s k,Bl.s k,Ci.s k,trivial⟩
def D5.s:LL Try.f36 Cc.d 2 D5.p:=mL [] Cc.a trivial
def Cc.s (k:Nat):CK 36 (Cc.e k):=mS Cc.d k [2] Try.func36 (Cc.a k) ⟨D5.s,trivial⟩
def Fv.e (k:Nat):Ent:=⟨1,[(.val true t21)],[(.one,.b)],λ x=>Fv k x⟩
def Fv.d:Fd := { nt:=26,nv:=1,nm:=[0,1],res:=[2],cs:=λ k=>[(20,Ac.e k),(29,Bu.e k),(35,Bj.e k)] }
def Fv.s (k:Nat):CK 63 (Fv.e k):=mS Fv.d k [] Try.func63 ⟨Ac.s k,Bu.s k,Bj.s k,trivial⟩ trivial
def Cu.e (k:Nat):Ent:=⟨1,[(.val false t9)],[(.one,.b)],λ x=>Cu k x⟩
def D6.p:LF:=⟨⟨[],[(0,t9),(5,t9),(6,(.i .i64)),(7,(.i .i64))]⟩,[(.ret,⟨[],[(2,.b)]⟩),((.exit 0),⟨[],[(0,t9)]⟩)],λ k x=>D6 k x.1 x.2.1 x.2.2.1 x.2.2.2⟩
def Cu.d:Fd := { nt:=41,nv:=1,nm:=[0,1,3,4],res:=[2],cs:=λ k=>[(20,Ac.e k)],ls:=[(2,D6.p)] }
def Cu.a (k:Nat):AC (Cu.d.cs k):=⟨Ac.s k,trivial⟩
def D6.s:LL Try.f82 Cu.d 2 D6.p:=mL [] Cu.a trivial
def Cu.s (k:Nat):CK 82 (Cu.e k):=mS Cu.d k [2] Try.func82 (Cu.a k) ⟨D6.s,trivial⟩
def Bb.e (k:Nat):Ent:=⟨1,[(.val true t22)],[(.one,.b)],λ x=>Bb k x⟩
def Bb.d:Fd := { nt:=11,nv:=1,nm:=[0,1],res:=[2],cs:=λ k=>[(82,Cu.e k)] }
def Bb.s (k:Nat):CK 64 (Bb.e k):=mS Bb.d k [] Try.func64 ⟨Cu.s k,trivial⟩ trivial
def Cw.e (k:Nat):Ent:=⟨1,[(.val false t24)],[(.one,.b)],λ x=>Cw k x⟩
def Dr.p:LF:=⟨⟨[],[(0,t24),(5,t24),(6,(.i .i64)),(7,(.i .i64))]⟩,[(.ret,⟨[],[(2,.b)]⟩),((.exit 0),⟨[],[(0,t24)]⟩)],λ k x=>Dr k x.1 x.2.1 x.2.2.1 x.2.2.2⟩
def Cw.d:Fd := { nt:=34,nv:=1,nm:=[0,1,3,4],res:=[2],cs:=λ k=>[(63,Fv.e k)],ls:=[(2,Dr.p)] }
def Cw.a (k:Nat):AC (Cw.d.cs k):=⟨Fv.s k,trivial⟩
def Dr.s:LL Try.f65 Cw.d 2 Dr.p:=mL [] Cw.a trivial
def Cw.s (k:Nat):CK 65 (Cw.e k):=mS Cw.d k [2] Try.func65 (Cw.a k) ⟨Dr.s,trivial⟩
def Bw.e (k:Nat):Ent:=⟨1,[(.val true t30)],[(.one,.b)],λ x=>Bw k x⟩
def Ec.p:LF:=⟨⟨[(1,(.bp 1 0 0)),(2999,(.hd 5))],[(6,t24),(7,(.i .i64)),(8,(.i .i64)),(2000,(.i .i64)),(2001,t9),(2002,t9),(2003,t24),(2004,t24)]⟩,[(.ret,⟨[],[(2,.b)]⟩),((.exit 0),⟨[(1,(.bp 1 0 0)),(2999,(.hd 5))],[(2000,(.i .i64)),(2001,t9),(2002,t9),(2003,t24),(2004,t24)]⟩)],λ k x=>Ec k x.1 x.2.1 x.2.2.1 x.2.2.2.1 x.2.2.2.2.1 x.2.2.2.2.2.1 x.2.2.2.2.2.2.1 x.2.2.2.2.2.2.2⟩
def Bw.d:Fd := { nt:=35,nv:=1,nm:=[0,1,3,4],res:=[2],cs:=λ k=>[(29,Bu.e k),(63,Fv.e k),(64,Bb.e k),(65,Cw.e k)],ls:=[(2,Ec.p)] }
def Bw.a (k:Nat):AC (Bw.d.cs k):=⟨Bu.s k,Fv.s k,Bb.s k,Cw.s k,trivial⟩
def Ec.s:LL Try.f37 Bw.d 2 Ec.p:=mL [] Bw.a trivial
def Bw.s (k:Nat):CK 37 (Bw.e k):=mS Bw.d k [2] Try.func37 (Bw.a k) ⟨Ec.s,trivial⟩
def B6.e (k:Nat):Ent:=⟨1,[(.val true t36)],[(.one,.b)],λ x=>B6 k x⟩
def Bz.p:LF:=⟨⟨[(1,(.bp 1 0 0)),(2999,(.hd 9))],[(57,t0),(58,(.i .i64)),(59,(.i .i64)),(2000,t36)]⟩,[(.ret,⟨[],[(2,.b)]⟩),((.exit 2),⟨[],[]⟩)],λ k x=>Bz k x.1 x.2.1 x.2.2.1 x.2.2.2⟩
def D7.p:LF:=⟨⟨[(1,(.bp 1 0 0)),(2999,(.hd 9))],[(34,t33),(35,(.i .i64)),(36,(.i .i64)),(2000,t36)]⟩,[(.ret,⟨[],[(2,.b)]⟩),((.exit 0),⟨[(1,(.bp 1 0 0)),(2999,(.hd 9))],[(2000,t36)]⟩)],λ k x=>D7 k x.1 x.2.1 x.2.2.1 x.2.2.2⟩
def B6.d:Fd := { nt:=82,nv:=1,nm:=[0,1,3,4,5,6],res:=[2],cs:=λ k=>[(20,Ac.e k),(34,Df.e k),(35,Bj.e k),(36,Cc.e k),(37,Bw.e k)],ls:=[(10,Bz.p),(4,D7.p)],rf:=true }
def B6.a (k:Nat):AC (B6.d.cs k):=⟨Ac.s k,Df.s k,Bj.s k,Cc.s k,Bw.s k,trivial⟩
def Bz.s:LL Try.f17 B6.d 10 Bz.p:=mL [] B6.a trivial
def D7.s:LL Try.f17 B6.d 4 D7.p:=mL [] B6.a trivial
def B6.s (k:Nat):CK 17 (B6.e k):=mS B6.d k [4,10] Try.func17 (B6.a k) ⟨D7.s,Bz.s,trivial⟩
def Bm.e (k:Nat):Ent:=⟨2,[(.val true t36),(.val false t3)],[(.one,t4)],λ x=>Bm k x.1 x.2⟩
def Cj.p:LF:=⟨⟨[(2,(.bp 2 0 0)),(3999,(.hd 9))],[(5,t4),(7,(.i .i64)),(10,t3),(11,(.i .i64)),(12,(.i .i64)),(17,t33),(18,(.i .i64)),(19,(.i .i64)),(3000,t36)]⟩,[((.exit 2),⟨[(2,(.bp 2 0 0)),(3999,(.hd 9))],[(5,t4),(10,t3),(11,(.i .i64)),(12,(.i .i64)),(3000,t36)]⟩)],λ k x=>Cj k x.1 x.2.1 x.2.2.1 x.2.2.2.1 x.2.2.2.2.1 x.2.2.2.2.2.1 x.2.2.2.2.2.2.1 x.2.2.2.2.2.2.2.1 x.2.2.2.2.2.2.2.2⟩
def Dn.p:LF:=⟨⟨[(2,(.bp 2 0 0)),(3999,(.hd 9))],[(5,t4),(10,t3),(11,(.i .i64)),(12,(.i .i64)),(3000,t36)]⟩,[((.exit 0),⟨[],[(5,t4)]⟩)],λ k x=>Dn k x.1 x.2.1 x.2.2.1 x.2.2.2.1 x.2.2.2.2⟩
def Bm.d:Fd := { nt:=35,nv:=2,nm:=[0,1,2,3,5,6,7,8,9],res:=[4],ls:=[(6,Cj.p),(3,Dn.p)],rf:=true }
def Cj.s:LL Try.f68 Bm.d 6 Cj.p:=mL [] (λ _=>trivial) trivial
def Dn.s:LL Try.f68 Bm.d 3 Dn.p:=mL [6] (λ _=>trivial) ⟨Cj.s,trivial⟩
def Bm.s (k:Nat):CK 68 (Bm.e k):=mS Bm.d k [3] Try.func68 trivial ⟨Dn.s,trivial⟩
def Ha.e (k:Nat):Ent:=⟨1,[(.val false .s)],[(.one,(.i .i64))],λ x=>Ha k x⟩
def Fn.p:LF:=⟨⟨[],[(0,.s),(3,(.i .u32)),(4,(.i .i64))]⟩,[((.exit 0),⟨[],[(3,(.i .u32))]⟩)],λ k x=>Fn k x.1 x.2.1 x.2.2⟩
def Ha.d:Fd := { nt:=20,nv:=1,nm:=[0,1,3,4],res:=[2],ls:=[(3,Fn.p)],rf:=true }
def Fn.s:LL Try.f93 Ha.d 3 Fn.p:=mL [] (λ _=>trivial) trivial
def Ha.s (k:Nat):CK 93 (Ha.e k):=mS Ha.d k [3] Try.func93 trivial ⟨Fn.s,trivial⟩
def Gl.e (k:Nat):Ent:=⟨2,[(.val false .s),(.val false (.i .i64))],[(.one,(.i .i64))],λ x=>Gl k x.1 x.2⟩
def Gl.d:Fd := { nt:=11,nv:=2,nm:=[0,1,2,3],res:=[4],cs:=λ k=>[(93,Ha.e k)],rf:=true }
def Gl.s (k:Nat):CK 84 (Gl.e k):=mS Gl.d k [] Try.func84 ⟨Ha.s k,trivial⟩ trivial
def As.e (k:Nat):Ent:=⟨2,[(.val true t12),(.val false .s)],[(.one,t4)],λ x=>As k x.1 x.2⟩
def As.d:Fd := { nt:=20,nv:=2,nm:=[0,1,2,3],res:=[4],cs:=λ k=>[(57,Dh.e k),(84,Gl.e k)],rf:=true }
def As.s (k:Nat):CK 69 (As.e k):=mS As.d k [] Try.func69 ⟨Dh.s k,Gl.s k,trivial⟩ trivial
def Bp.e (k:Nat):Ent:=⟨3,[(.val true t12),(.val false t17),(.val false .s)],[(.one,t4)],λ x=>Bp k x.1 x.2.1 x.2.2⟩
def C0.p:LF:=⟨⟨[],[(7,t4),(8,t4),(9,t4),(10,t4),(19,t17),(20,(.i .i64)),(21,(.i .i64))]⟩,[((.exit 0),⟨[],[(9,t4),(10,t4)]⟩)],λ k x=>C0 k x.1 x.2.1 x.2.2.1 x.2.2.2.1 x.2.2.2.2.1 x.2.2.2.2.2.1 x.2.2.2.2.2.2⟩
def Bp.d:Fd := { nt:=49,nv:=3,nm:=[0,1,2,3,4,5,7,8,9,10,11,12],res:=[6],cs:=λ k=>[(54,C3.e k),(55,B9.e k),(69,As.e k)],ls:=[(5,C0.p)],rf:=true }
def Bp.a (k:Nat):AC (Bp.d.cs k):=⟨C3.s k,B9.s k,As.s k,trivial⟩
def C0.s:LL Try.f70 Bp.d 5 C0.p:=mL [] Bp.a trivial
def Bp.s (k:Nat):CK 70 (Bp.e k):=mS Bp.d k [5] Try.func70 (Bp.a k) ⟨C0.s,trivial⟩
def Bf.e (k:Nat):Ent:=⟨2,[(.ptr t36 t36),(.val false .s)],[(.one,t4)],λ x=>Bf k x.1 x.2⟩
def Bf.d:Fd := { nt:=26,nv:=2,nm:=[0,1,2,3],res:=[4],cs:=λ k=>[(68,Bm.e k),(69,As.e k),(70,Bp.e k)],rf:=true }
def Bf.s (k:Nat):CK 42 (Bf.e k):=mS Bf.d k [] Try.func42 ⟨Bm.s k,As.s k,Bp.s k,trivial⟩ trivial
def C4.e (k:Nat):Ent:=⟨2,[(.ptr t39 t39),(.val false .s)],[(.one,t4)],λ x=>C4 k x.1 x.2⟩
def C4.d:Fd := { nt:=26,nv:=2,nm:=[0,1,2,3],res:=[4],cs:=λ k=>[(68,Bm.e k),(69,As.e k),(70,Bp.e k)],rf:=true }
def C4.s (k:Nat):CK 42 (C4.e k):=mS C4.d k [] Try.func42 ⟨Bm.s k,As.s k,Bp.s k,trivial⟩ trivial
def Br.e (k:Nat):Ent:=⟨2,[(.val false t3),(.val false (.i .i64))],[(.one,(.i .i64))],λ x=>Br x.1 x.2⟩
def Br.d:Fd := { nt:=20,nv:=2,nm:=[0,1,2,3],res:=[4],cs:=λ k=>[(29,Bu.e k)],rf:=true }
def Br.s (k:Nat):CK 43 (Br.e k):=mS Br.d k [] Try.func43 ⟨Bu.s k,trivial⟩ trivial
def Ed.e (k:Nat):Ent:=⟨3,[(.val true t11),(.val false (.i .i64)),(.val false (.i .i64))],[(.agg,t11)],λ x=>Ed x.1 x.2.1 x.2.2⟩
def Ed.d:Fd := { nt:=27,nv:=3,nm:=[0,1,2,3,4,5,7],res:=[],cs:=λ k=>[(35,Bj.e k)],rf:=true }
def Ed.s (k:Nat):CK 38 (Ed.e k):=mS Ed.d k [] Try.func38 ⟨Bj.s k,trivial⟩ trivial
def Fw.e (k:Nat):Ent:=⟨2,[(.val true t20),(.val true t20)],[(.one,.b)],λ x=>Fw x.1 x.2⟩
def Fw.d:Fd := { nt:=10,nv:=2,nm:=[0,1,2,3],res:=[4],cs:=λ k=>[(46,Bl.e k)] }
def Fw.s (k:Nat):CK 24 (Fw.e k):=mS Fw.d k [] Try.func24 ⟨Bl.s k,trivial⟩ trivial
def Gn.e (k:Nat):Ent:=⟨2,[(.val false t9),(.val false .s)],[(.one,(.i .i64))],λ x=>Gn k x.1 x.2⟩
def Gv.p:LF:=⟨⟨[],[(1,.s),(7,t9),(8,(.i .i64)),(9,(.i .i64))]⟩,[(.ret,⟨[],[(4,(.i .i64))]⟩),((.exit 0),⟨[],[]⟩)],λ k x=>Gv k x.1 x.2.1 x.2.2.1 x.2.2.2⟩
def Gn.d:Fd := { nt:=20,nv:=2,nm:=[0,1,2,3,5,6],res:=[4],ls:=[(2,Gv.p)] }
def Gv.s:LL Try.f71 Gn.d 2 Gv.p:=mL [] (λ _=>trivial) trivial
def Gn.s (k:Nat):CK 71 (Gn.e k):=mS Gn.d k [2] Try.func71 trivial ⟨Gv.s,trivial⟩
def Dj.e (k:Nat):Ent:=⟨2,[(.val true t22),(.val false .s)],[(.one,t2),(.one,.b)],λ x=>Dj k x.1 x.2⟩
def Dj.d:Fd := { nt:=20,nv:=2,nm:=[0,1,2,3,6],res:=[4,5],cs:=λ k=>[(19,Aj.e k),(71,Gn.e k)] }
def Dj.s (k:Nat):CK 44 (Dj.e k):=mS Dj.d k [] Try.func44 ⟨Aj.s k,Gn.s k,trivial⟩ trivial
def Er.e (k:Nat):Ent:=⟨2,[(.val false t1),(.val false (.i .i64))],[(.one,(.i .i64)),(.one,(.i .i64)),(.one,.b)],λ x=>Er k x.1 x.2⟩
def Ds.p:LF:=⟨⟨[],[(0,t1),(1,(.i .i64)),(7,(.i .i64)),(8,(.i .i64))]⟩,[(.ret,⟨[],[(4,(.i .i64)),(5,(.i .i64)),(6,.b)]⟩),((.exit 0),⟨[],[]⟩)],λ k x=>Ds k x.1 x.2.1 x.2.2.1 x.2.2.2⟩
def Er.d:Fd := { nt:=57,nv:=2,nm:=[0,1,2,3,7,8,9],res:=[4,5,6],ls:=[(3,Ds.p)] }
def Ds.s:LL Try.f94 Er.d 3 Ds.p:=mL [] (λ _=>trivial) trivial
def Er.s (k:Nat):CK 94 (Er.e k):=mS Er.d k [3] Try.func94 trivial ⟨Ds.s,trivial⟩
def C5.e (k:Nat):Ent:=⟨1,[(.ptr t15 t15)],[(.one,(.i .i64))],λ x=>C5 k x⟩
def C5.d:Fd := { nt:=35,nv:=1,nm:=[0,1,3,4,5],res:=[2],cs:=λ k=>[(94,Er.e k)] }
def C5.s (k:Nat):CK 85 (C5.e k):=mS C5.d k [] Try.func85 ⟨Er.s k,trivial⟩ trivial
def Ck.e (k:Nat):Ent:=⟨1,[(.ptr t15 t15)],[(.agg,t11),(.one,.b)],λ x=>Ck k x⟩
def Ck.d:Fd := { nt:=31,nv:=1,nm:=[0,1,4,5],res:=[3],cs:=λ k=>[(85,C5.e k)] }
def Ck.s (k:Nat):CK 72 (Ck.e k):=mS Ck.d k [] Try.func72 ⟨C5.s k,trivial⟩ trivial
def Fo.e (k:Nat):Ent:=⟨2,[(.val false t1),(.val false (.i .i64))],[(.one,.s),(.one,(.i .i64)),(.one,.b)],λ x=>Fo k x.1 x.2⟩
def Fo.d:Fd := { nt:=37,nv:=2,nm:=[0,1,2,3,7,8,9],res:=[4,5,6],cs:=λ k=>[(94,Er.e k)] }
def Fo.s (k:Nat):CK 86 (Fo.e k):=mS Fo.d k [] Try.func86 ⟨Er.s k,trivial⟩ trivial
def C1.e (k:Nat):Ent:=⟨1,[(.ptr t15 t15)],[(.one,.s)],λ x=>C1 k x⟩
def C1.d:Fd := { nt:=35,nv:=1,nm:=[0,1,3,4,5],res:=[2],cs:=λ k=>[(86,Fo.e k)] }
def C1.s (k:Nat):CK 73 (C1.e k):=mS C1.d k [] Try.func73 ⟨Fo.s k,trivial⟩ trivial
def Dg.e (k:Nat):Ent:=⟨2,[(.val false t2),(.val false (.i .i64))],[(.one,t2)],λ x=>Dg k x.1 x.2⟩
def Ee.p:LF:=⟨⟨[],[(0,t2),(1,(.i .i64))]⟩,[((.exit 0),⟨[],[(0,t2),(1,(.i .i64))]⟩)],λ k x=>Ee k x.1 x.2⟩
def Dg.d:Fd := { nt:=24,nv:=2,nm:=[0,1,2,3],res:=[4],ls:=[(2,Ee.p)] }
def Ee.s:LL Try.f95 Dg.d 2 Ee.p:=mL [] (λ _=>trivial) trivial
def Dg.s (k:Nat):CK 95 (Dg.e k):=mS Dg.d k [2] Try.func95 trivial ⟨Ee.s,trivial⟩
def Fp.e (k:Nat):Ent:=⟨2,[(.val false t2),(.val false .s)],[(.one,t2)],λ x=>Fp k x.1 x.2⟩
def Fp.d:Fd := { nt:=11,nv:=2,nm:=[0,1,2,3],res:=[4],cs:=λ k=>[(95,Dg.e k)] }
def Fp.s (k:Nat):CK 87 (Fp.e k):=mS Fp.d k [] Try.func87 ⟨Dg.s k,trivial⟩ trivial
def J1.e (k:Nat):Ent:=⟨1,[(.val false .b)],[(.one,(.i .i64))],λ x=>J1 x⟩
def J1.d:Fd := { nt:=4,nv:=1,nm:=[0,1],res:=[2] }
def J1.s (k:Nat):CK 96 (J1.e k):=mS J1.d k [] Try.func96 trivial trivial
def F5.e (k:Nat):Ent:=⟨3,[(.val false t2),(.val true t11),(.val false .b)],[(.one,t2)],λ x=>F5 k x.1 x.2.1 x.2.2⟩
def F5.d:Fd := { nt:=20,nv:=3,nm:=[0,1,2,3,4,5],res:=[6],cs:=λ k=>[(95,Dg.e k),(96,J1.e k)] }
def F5.s (k:Nat):CK 88 (F5.e k):=mS F5.d k [] Try.func88 ⟨Dg.s k,J1.s k,trivial⟩ trivial
def Hl.e (k:Nat):Ent:=⟨1,[(.val false t1)],[(.one,(.i .i64))],λ x=>Hl k x⟩
def Fy.p:LF:=⟨⟨[],[(3,(.i .u32)),(7,t1),(8,(.i .i64)),(9,(.i .i64)),(17,(.i .i64))]⟩,[((.exit 2),⟨[],[(3,(.i .u32)),(7,t1),(8,(.i .i64)),(9,(.i .i64))]⟩)],λ k x=>Fy k x.1 x.2.1 x.2.2.1 x.2.2.2.1 x.2.2.2.2⟩
def G6.p:LF:=⟨⟨[],[(3,(.i .u32)),(7,t1),(8,(.i .i64)),(9,(.i .i64))]⟩,[((.exit 0),⟨[],[(3,(.i .u32))]⟩)],λ k x=>G6 k x.1 x.2.1 x.2.2.1 x.2.2.2⟩
def Hl.d:Fd := { nt:=32,nv:=1,nm:=[0,1,3,4,5,6],res:=[2],ls:=[(7,Fy.p),(3,G6.p)] }
def Fy.s:LL Try.f89 Hl.d 7 Fy.p:=mL [] (λ _=>trivial) trivial
def G6.s:LL Try.f89 Hl.d 3 G6.p:=mL [7] (λ _=>trivial) ⟨Fy.s,trivial⟩
def Hl.s (k:Nat):CK 89 (Hl.e k):=mS Hl.d k [3] Try.func89 trivial ⟨G6.s,trivial⟩
def Dd.e (k:Nat):Ent:=⟨1,[(.val true t20)],[(.one,t2)],λ x=>Dd k x⟩
def Dd.d:Fd := { nt:=33,nv:=1,nm:=[0,1,3,4],res:=[2],cs:=λ k=>[(62,Ci.e k),(87,Fp.e k),(88,F5.e k),(89,Hl.e k)] }
def Dd.s (k:Nat):CK 74 (Dd.e k):=mS Dd.d k [] Try.func74 ⟨Ci.s k,Fp.s k,F5.s k,Hl.s k,trivial⟩ trivial
def Cv.e (k:Nat):Ent:=⟨1,[(.val false t1)],[(.agg,t20),(.one,.b)],λ x=>Cv k x⟩
def Cv.d:Fd := { nt:=41,nv:=1,nm:=[0,1,4,5,6],res:=[3],cs:=λ k=>[(72,Ck.e k),(73,C1.e k),(74,Dd.e k)] }
def Cv.s (k:Nat):CK 45 (Cv.e k):=mS Cv.d k [] Try.func45 ⟨Ck.s k,C1.s k,Dd.s k,trivial⟩ trivial
def Ef.e (k:Nat):Ent:=⟨2,[(.val false t9),(.val false .s)],[(.one,t9)],λ x=>Ef k x.1 x.2⟩
def Ef.d:Fd := { nt:=21,nv:=2,nm:=[0,1,2,3,5],res:=[4],cs:=λ k=>[(71,Gn.e k)] }
def Ef.s (k:Nat):CK 90 (Ef.e k):=mS Ef.d k [] Try.func90 ⟨Gn.s k,trivial⟩ trivial
def H4.e (k:Nat):Ent:=⟨2,[(.val false t9),(.val true t8)],[(.one,t10)],λ x=>H4 k x.1 x.2⟩
def G7.p:LF:=⟨⟨[(3,(.bp 3 0 0)),(4999,(.hd 2))],[(0,t9),(5,(.i .i64)),(4000,.s),(4001,t1)]⟩,[((.exit 0),⟨[(3,(.bp 3 0 0)),(4999,(.hd 2))],[(0,t9),(5,(.i .i64)),(4000,.s),(4001,t1)]⟩)],λ k x=>G7 k x.1 x.2.1 x.2.2.1 x.2.2.2⟩
def H4.d:Fd := { nt:=33,nv:=2,nm:=[0,1,2,3,5],res:=[4],ls:=[(2,G7.p)] }
def G7.s:LL Try.f91 H4.d 2 G7.p:=mL [] (λ _=>trivial) trivial
def H4.s (k:Nat):CK 91 (H4.e k):=mS H4.d k [2] Try.func91 trivial ⟨G7.s,trivial⟩
def Bh.e (k:Nat):Ent:=⟨2,[(.val true t22),(.val false .s)],[(.agg,(.pr t10 t9)),(.one,.b)],λ x=>Bh k x.1 x.2⟩
def Bh.d:Fd := { nt:=50,nv:=2,nm:=[0,1,2,3,6,7],res:=[5],cs:=λ k=>[(19,Aj.e k),(20,Ac.e k),(58,A5.e k),(64,Bb.e k),(71,Gn.e k),(90,Ef.e k),(91,H4.e k)],mv:=[18,49] }
def Bh.s (k:Nat):CK 78 (Bh.e k):=mS Bh.d k [] Try.func78 ⟨Aj.s k,Ac.s k,A5.s k,Bb.s k,Gn.s k,Ef.s k,H4.s k,trivial⟩ trivial
def Cr.e (k:Nat):Ent:=⟨3,[(.val true t22),(.val false .s),(.val false t1)],[(.agg,t23),(.one,.b)],λ x=>Cr k x.1 x.2.1 x.2.2⟩
def Cr.d:Fd := { nt:=42,nv:=3,nm:=[0,1,2,3,4,5,8],res:=[7],cs:=λ k=>[(19,Aj.e k),(20,Ac.e k),(58,A5.e k),(64,Bb.e k),(90,Ef.e k),(91,H4.e k)],mv:=[24,41] }
def Cr.s (k:Nat):CK 83 (Cr.e k):=mS Cr.d k [] Try.func83 ⟨Aj.s k,Ac.s k,A5.s k,Bb.s k,Ef.s k,H4.s k,trivial⟩ trivial
def Gi.e (k:Nat):Ent:=⟨4,[(.val true t22),(.val false .s),(.val true t20),(.val false .b)],[(.agg,t22),(.one,(.i .i64))],λ x=>Gi k x.1 x.2.1 x.2.2.1 x.2.2.2⟩
def Gi.d:Fd := { nt:=82,nv:=4,nm:=[0,1,2,3,4,5,6,7,10,11,12,13,14,15,16,17,18,19],res:=[9],cs:=λ k=>[(20,Ac.e k),(24,Fw.e k),(44,Dj.e k),(45,Cv.e k),(58,A5.e k),(62,Ci.e k),(64,Bb.e k),(74,Dd.e k),(78,Bh.e k),(83,Cr.e k)],mv:=[80] }
def Gi.s (k:Nat):CK 66 (Gi.e k):=mS Gi.d k [] Try.func66 ⟨Ac.s k,Fw.s k,Dj.s k,Cv.s k,A5.s k,Ci.s k,Bb.s k,Dd.s k,Bh.s k,Cr.s k,trivial⟩ trivial
def Hd.e (k:Nat):Ent:=⟨2,[(.val false .s),(.val true t20)],[(.agg,t21)],λ x=>Hd x.1 x.2⟩
def Hd.d:Fd := { nt:=14,nv:=2,nm:=[0,1,2,3],res:=[],rf:=true }
def Hd.s (k:Nat):CK 67 (Hd.e k):=mS Hd.d k [] Try.func67 trivial trivial
def Fq.e (k:Nat):Ent:=⟨4,[(.val true t30),(.val false .s),(.val true t20),(.val false .b)],[(.agg,t32),(.one,(.i .i64))],λ x=>Fq k x.1 x.2.1 x.2.2.1 x.2.2.2⟩
def Fq.d:Fd := { nt:=62,nv:=4,nm:=[0,1,2,3,4,5,6,7,10,11,12],res:=[9],cs:=λ k=>[(20,Ac.e k),(32,B7.e k),(37,Bw.e k),(62,Ci.e k),(66,Gi.e k),(67,Hd.e k)],mv:=[29,35,60],rf:=true }
def Fq.s (k:Nat):CK 40 (Fq.e k):=mS Fq.d k [] Try.func40 ⟨Ac.s k,B7.s k,Bw.s k,Ci.s k,Gi.s k,Hd.s k,trivial⟩ trivial
def C6.e (k:Nat):Ent:=⟨5,[(.ptr t30 t30),(.val false (.i .i64)),(.ptr .s .s),(.ptr t20 t20),(.ptr (.i .i64) (.i .i64))],[],λ x=>C6 k x.1 x.2.1 x.2.2.1 x.2.2.2.1 x.2.2.2.2⟩
def C6.d:Fd := { nt:=35,nv:=5,nm:=[0,1,5,6,7,8],res:=[],cs:=λ k=>[(40,Fq.e k)],rf:=true }
def C6.s (k:Nat):CK 39 (C6.e k):=mS C6.d k [] Try.func39 ⟨Fq.s k,trivial⟩ trivial
def G8.e (k:Nat):Ent:=⟨1,[(.val false (.i .i64))],[(.one,(.i .i64))],λ x=>G8 x⟩
def G8.d:Fd := { nt:=6,nv:=1,nm:=[0,1],res:=[2],rf:=true }
def G8.s (k:Nat):CK 41 (G8.e k):=mS G8.d k [] Try.func41 trivial trivial
def A9.e (k:Nat):Ent:=⟨4,[(.ptr t39 t39),(.val false .s),(.val false t3),(.fn 39 3),(.hid .s .s),(.hid t20 t20),(.hid (.i .i64) (.i .i64))],[],λ x=>A9 k x.1 x.2.1 x.2.2.1 x.2.2.2.1 x.2.2.2.2.1 x.2.2.2.2.2.1 x.2.2.2.2.2.2⟩
def Ad.p:LF:=⟨⟨[(0,(.bp 0 0 0)),(3,(.fn 39 [(1500,0),(1501,0),(1502,0)])),(1999,(.hd 9)),(1501999,(.hd 1)),(1502999,(.hd 5)),(1503999,(.hd 1))],[(2,t3),(8,(.i .i64)),(14,t4),(15,(.i .i64)),(16,(.i .i64)),(1000,t39),(1501000,.s),(1502000,t20),(1503000,(.i .i64))]⟩,[((.exit 0),⟨[(1999,(.hd 9)),(1501999,(.hd 1)),(1502999,(.hd 5)),(1503999,(.hd 1))],[(1000,t39),(1501000,.s),(1502000,t20),(1503000,(.i .i64))]⟩)],λ k x=>Ad k x.1 x.2.1 x.2.2.1 x.2.2.2.1 x.2.2.2.2.1 x.2.2.2.2.2.1 x.2.2.2.2.2.2.1 x.2.2.2.2.2.2.2.1 x.2.2.2.2.2.2.2.2⟩
def A9.d:Fd := { nt:=47,nv:=4,nm:=[0,1,2,3,4,5,6,7,8,9,10,11],res:=[],cs:=λ k=>[(39,C6.e k),(42,C4.e k),(43,Br.e k)],ls:=[(2,Ad.p)],gh:=[(1000003,[.cl 1003])],opn:=[41],rf:=true }
def A9.a (k:Nat):AC (A9.d.cs k):=⟨C6.s k,C4.s k,Br.s k,trivial⟩
def Ad.s:LL Try.f21 A9.d 2 Ad.p:=mL [] A9.a trivial
def A9.s (k:Nat):CK 21 (A9.e k):=mS A9.d k [2] Try.func21 (A9.a k) ⟨Ad.s,trivial⟩
def C7.e (k:Nat):Ent:=⟨5,[(.ptr t39 t39),(.val false .s),(.val true t20),(.val false (.i .i64)),(.val false t3)],[(.one,(.i .i64))],λ x=>C7 k x.1 x.2.1 x.2.2.1 x.2.2.2.1 x.2.2.2.2⟩
def C7.d:Fd := { nt:=82,nv:=5,nm:=[0,1,2,3,4,5,6,7,8,9,11,12,13],res:=[10],cs:=λ k=>[(20,Ac.e k),(21,A9.e k),(29,Bu.e k),(33,Di.e k),(38,Ed.e k),(41,G8.e k)],rf:=true }
def C7.s (k:Nat):CK 18 (C7.e k):=mS C7.d k [] Try.func18 ⟨Ac.s k,A9.s k,Bu.s k,Di.s k,Ed.s k,G8.s k,trivial⟩ trivial
def Eg.e (k:Nat):Ent:=⟨5,[(.val true t36),(.val false .s),(.val false t1),(.val false (.i .i64)),(.val false t3)],[(.agg,t39),(.one,(.i .i64))],λ x=>Eg k x.1 x.2.1 x.2.2.1 x.2.2.2.1 x.2.2.2.2⟩
def Eg.d:Fd := { nt:=29,nv:=5,nm:=[0,1,2,3,4,5,6,7,8,9,12,13],res:=[11],cs:=λ k=>[(16,Ax.e k),(17,B6.e k),(18,C7.e k),(19,Aj.e k)],mv:=[19,27],rf:=true }
def Eg.s (k:Nat):CK 7 (Eg.e k):=mS Eg.d k [] Try.func7 ⟨Ax.s k,B6.s k,C7.s k,Aj.s k,trivial⟩ trivial
def Fs.e (k:Nat):Ent:=⟨2,[(.val true t22),(.val false .s)],[(.agg,t20),(.one,(.i .i64))],λ x=>Fs k x.1 x.2⟩
def Fs.d:Fd := { nt:=28,nv:=2,nm:=[0,1,2,3,6,7,8,9],res:=[5],cs:=λ k=>[(44,Dj.e k),(45,Cv.e k)] }
def Fs.s (k:Nat):CK 23 (Fs.e k):=mS Fs.d k [] Try.func23 ⟨Dj.s k,Cv.s k,trivial⟩ trivial
def Bo.e (k:Nat):Ent:=⟨6,[(.rd t30),(.val false (.i .i64)),(.ptr (.i .i64) (.i .i64)),(.ptr .s .s),(.ptr .b .b),(.ptr t20 t20)],[],λ x=>Bo k x.1 x.2.1 x.2.2.1 x.2.2.2.1 x.2.2.2.2.1 x.2.2.2.2.2⟩
def Bo.d:Fd := { nt:=35,nv:=6,nm:=[0,1,6,7,8,9],res:=[],cs:=λ k=>[(23,Fs.e k),(24,Fw.e k)],rf:=true }
def Bo.s (k:Nat):CK 22 (Bo.e k):=mS Bo.d k [] Try.func22 ⟨Fs.s k,Fw.s k,trivial⟩ trivial
def A7.e (k:Nat):Ent:=⟨4,[(.ptr t36 t36),(.val false .s),(.val false t3),(.fn 22 4),(.hid (.i .i64) (.i .i64)),(.hid .s .s),(.hid .b .b),(.hid t20 t20)],[],λ x=>A7 k x.1 x.2.1 x.2.2.1 x.2.2.2.1 x.2.2.2.2.1 x.2.2.2.2.2.1 x.2.2.2.2.2.2.1 x.2.2.2.2.2.2.2⟩
def A8.p:LF:=⟨⟨[(0,(.bp 0 0 0)),(3,(.fn 22 [(1500,0),(1501,0),(1502,0),(1503,0)])),(1999,(.hd 9)),(1501999,(.hd 1)),(1502999,(.hd 1)),(1503999,(.hd 1)),(1504999,(.hd 5))],[(2,t3),(8,(.i .i64)),(14,t4),(15,(.i .i64)),(16,(.i .i64)),(1000,t36),(1501000,(.i .i64)),(1502000,.s),(1503000,.b),(1504000,t20)]⟩,[((.exit 0),⟨[(1999,(.hd 9)),(1501999,(.hd 1)),(1502999,(.hd 1)),(1503999,(.hd 1)),(1504999,(.hd 5))],[(1000,t36),(1501000,(.i .i64)),(1502000,.s),(1503000,.b),(1504000,t20)]⟩)],λ k x=>A8 k x.1 x.2.1 x.2.2.1 x.2.2.2.1 x.2.2.2.2.1 x.2.2.2.2.2.1 x.2.2.2.2.2.2.1 x.2.2.2.2.2.2.2.1 x.2.2.2.2.2.2.2.2.1 x.2.2.2.2.2.2.2.2.2⟩
def A7.d:Fd := { nt:=47,nv:=4,nm:=[0,1,2,3,4,5,6,7,8,9,10,11],res:=[],cs:=λ k=>[(22,Bo.e k),(42,Bf.e k),(43,Br.e k)],ls:=[(2,A8.p)],rf:=true }
def A7.a (k:Nat):AC (A7.d.cs k):=⟨Bo.s k,Bf.s k,Br.s k,trivial⟩
def A8.s:LL Try.f21 A7.d 2 A8.p:=mL [] A7.a trivial
def A7.s (k:Nat):CK 21 (A7.e k):=mS A7.d k [2] Try.func21 (A7.a k) ⟨A8.s,trivial⟩
def Cs.e (k:Nat):Ent:=⟨3,[(.val true t36),(.val false .s),(.val false t3)],[(.agg,t20),(.one,(.i .i64))],λ x=>Cs k x.1 x.2.1 x.2.2⟩
def Cs.d:Fd := { nt:=37,nv:=3,nm:=[0,1,2,3,4,5,8,9,10],res:=[7],cs:=λ k=>[(17,B6.e k),(20,Ac.e k),(21,A7.e k)],rf:=true }
def Cs.s (k:Nat):CK 8 (Cs.e k):=mS Cs.d k [] Try.func8 ⟨B6.s k,Ac.s k,A7.s k,trivial⟩ trivial
def Ej.e (k:Nat):Ent:=⟨0,[],[(.one,t4)],λ _=>Ej k⟩
def D8.p:LF:=⟨⟨[],[(1,t4),(2,(.i .i64))]⟩,[((.exit 0),⟨[],[(1,t4)]⟩)],λ k x=>D8 k x.1 x.2⟩
def Ej.d:Fd := { nt:=9,nv:=0,nm:=[1],res:=[0],ls:=[(3,D8.p)],rf:=true }
def D8.s:LL Try.f47 Ej.d 3 D8.p:=mL [] (λ _=>trivial) trivial
def Ej.s (k:Nat):CK 47 (Ej.e k):=mS Ej.d k [3] Try.func47 trivial ⟨D8.s,trivial⟩
def Fb.e (k:Nat):Ent:=⟨1,[(.val true t22)],[(.agg,t22),(.one,(.i .i64))],λ x=>Fb k x⟩
def Ek.p:LF:=⟨⟨[(2,(.bp 2 0 0)),(4,(.bp 4 0 0)),(3999,(.hd 2)),(5999,(.hd 2))],[(5,(.i .i64)),(17,t9),(18,(.i .i64)),(19,(.i .i64)),(3000,t23),(5000,t22)]⟩,[((.exit 0),⟨[(2,(.bp 2 0 0)),(4,(.bp 4 0 0)),(3999,(.hd 2)),(5999,(.hd 2))],[(5,(.i .i64)),(3000,t23),(5000,t22)]⟩)],λ k x=>Ek k x.1 x.2.1 x.2.2.1 x.2.2.2.1 x.2.2.2.2.1 x.2.2.2.2.2⟩
def Fb.d:Fd := { nt:=48,nv:=1,nm:=[0,1,4,5,6,7,8,9],res:=[3],cs:=λ k=>[(45,Cv.e k),(58,A5.e k),(64,Bb.e k),(90,Ef.e k)],ls:=[(6,Ek.p)],mv:=[15],rf:=true }
def Fb.a (k:Nat):AC (Fb.d.cs k):=⟨Cv.s k,A5.s k,Bb.s k,Ef.s k,trivial⟩
def Ek.s:LL Try.f75 Fb.d 6 Ek.p:=mL [] Fb.a trivial
def Fb.s (k:Nat):CK 75 (Fb.e k):=mS Fb.d k [6] Try.func75 (Fb.a k) ⟨Ek.s,trivial⟩
def Eh.e (k:Nat):Ent:=⟨1,[(.val true t30)],[(.agg,t32),(.one,(.i .i64))],λ x=>Eh k x⟩
def Eh.d:Fd := { nt:=19,nv:=1,nm:=[0,1,4,5,6],res:=[3],cs:=λ k=>[(32,B7.e k),(75,Fb.e k)],mv:=[17],rf:=true }
def Eh.s (k:Nat):CK 48 (Eh.e k):=mS Eh.d k [] Try.func48 ⟨B7.s k,Fb.s k,trivial⟩ trivial
def El.e (k:Nat):Ent:=⟨2,[(.val false t0),(.val false .s)],[(.one,t0)],λ x=>El k x.1 x.2⟩
def D9.p:LF:=⟨⟨[],[(0,t0),(1,.s),(5,(.i .i64))]⟩,[((.exit 0),⟨[],[(0,t0),(1,.s),(5,(.i .i64))]⟩)],λ k x=>D9 k x.1 x.2.1 x.2.2⟩
def El.d:Fd := { nt:=44,nv:=2,nm:=[0,1,2,3,5],res:=[4],ls:=[(2,D9.p)] }
def D9.s:LL Try.f76 El.d 2 D9.p:=mL [] (λ _=>trivial) trivial
def El.s (k:Nat):CK 76 (El.e k):=mS El.d k [2] Try.func76 trivial ⟨D9.s,trivial⟩
def Ft.e (k:Nat):Ent:=⟨1,[(.val true t22)],[(.one,t0)],λ x=>Ft k x⟩
def Fc.p:LF:=⟨⟨[(1,(.bp 1 0 0)),(2999,(.hd 2))],[(3,t0),(9,t9),(10,(.i .i64)),(11,(.i .i64)),(2000,t22)]⟩,[((.exit 0),⟨[],[(3,t0)]⟩)],λ k x=>Fc k x.1 x.2.1 x.2.2.1 x.2.2.2.1 x.2.2.2.2⟩
def Ft.d:Fd := { nt:=30,nv:=1,nm:=[0,1,3,4,5,6,7],res:=[2],cs:=λ k=>[(23,Fs.e k),(76,El.e k)],ls:=[(3,Fc.p)],rf:=true }
def Ft.a (k:Nat):AC (Ft.d.cs k):=⟨Fs.s k,El.s k,trivial⟩
def Fc.s:LL Try.f49 Ft.d 3 Fc.p:=mL [] Ft.a trivial
def Ft.s (k:Nat):CK 49 (Ft.e k):=mS Ft.d k [3] Try.func49 (Ft.a k) ⟨Fc.s,trivial⟩
def Da.e (k:Nat):Ent:=⟨2,[(.val true t22),(.val false .s)],[(.agg,(.pr t9 t10)),(.one,.b)],λ x=>Da k x.1 x.2⟩
def Da.d:Fd := { nt:=26,nv:=2,nm:=[0,1,2,3,6],res:=[5],cs:=λ k=>[(58,A5.e k),(64,Bb.e k),(71,Gn.e k),(90,Ef.e k)],mv:=[19,25] }
def Da.s (k:Nat):CK 77 (Da.e k):=mS Da.d k [] Try.func77 ⟨A5.s k,Bb.s k,Gn.s k,Ef.s k,trivial⟩ trivial
def Ai.e (k:Nat):Ent:=⟨4,[(.ptr t39 t39),(.val false (.i .i64)),(.val false .s),(.val false t3)],[(.one,.b)],λ x=>Ai k x.1 x.2.1 x.2.2.1 x.2.2.2⟩
def Af.p:LF:=⟨⟨[(0,(.bp 0 0 0)),(9,(.bp 9 0 0)),(1999,(.hd 9)),(10999,(.hd 5))],[(1,(.i .i64)),(2,.s),(3,t3),(11,.b),(12,.b),(43,t4),(44,(.i .i64)),(45,(.i .i64)),(1000,t39),(10000,t20)]⟩,[((.exit 0),⟨[(0,(.bp 0 0 0)),(1999,(.hd 9))],[(1,(.i .i64)),(2,.s),(11,.b),(12,.b),(1000,t39)]⟩)],λ k x=>Af k x.1 x.2.1 x.2.2.1 x.2.2.2.1 x.2.2.2.2.1 x.2.2.2.2.2.1 x.2.2.2.2.2.2.1 x.2.2.2.2.2.2.2.1 x.2.2.2.2.2.2.2.2.1 x.2.2.2.2.2.2.2.2.2⟩
def Ai.d:Fd := { nt:=120,nv:=4,nm:=[0,1,2,3,4,5,6,7,9,10,11,12,13,14,15,16,17,18],res:=[8],cs:=λ k=>[(23,Fs.e k),(43,Br.e k),(66,Gi.e k),(68,Bm.e k),(69,As.e k),(77,Da.e k),(78,Bh.e k)],ls:=[(6,Af.p)],rf:=true }
def Ai.a (k:Nat):AC (Ai.d.cs k):=⟨Fs.s k,Br.s k,Gi.s k,Bm.s k,As.s k,Da.s k,Bh.s k,trivial⟩
def Af.s:LL Try.f50 Ai.d 6 Af.p:=mL [] Ai.a trivial
def Ai.s (k:Nat):CK 50 (Ai.e k):=mS Ai.d k [6] Try.func50 (Ai.a k) ⟨Af.s,trivial⟩
def E4.e (k:Nat):Ent:=⟨1,[(.val true t36)],[(.one,t4)],λ x=>E4 k x⟩
def E4.d:Fd := { nt:=8,nv:=1,nm:=[0,1],res:=[2],cs:=λ k=>[(68,Bm.e k),(69,As.e k)],rf:=true }
def E4.s (k:Nat):CK 80 (E4.e k):=mS E4.d k [] Try.func80 ⟨Bm.s k,As.s k,trivial⟩ trivial
def F6.e (k:Nat):Ent:=⟨2,[(.val true t21),(.val true t21)],[(.one,.b)],λ x=>F6 x.1 x.2⟩
def F6.d:Fd := { nt:=29,nv:=2,nm:=[0,1,2,3],res:=[4],cs:=λ k=>[(46,Bl.e k)] }
def F6.s (k:Nat):CK 99 (F6.e k):=mS F6.d k [] Try.func99 ⟨Bl.s k,trivial⟩ trivial
def Bq.e (k:Nat):Ent:=⟨2,[(.val false t24),(.val true t21)],[(.one,t25)],λ x=>Bq k x.1 x.2⟩
def Cl.p:LF:=⟨⟨[(3,(.bp 3 0 0)),(4999,(.hd 6))],[(0,t24),(8,(.i .i64)),(4000,.s),(4001,(.i .i64)),(4002,(.i .i64)),(4003,(.i .i64)),(4004,.b),(4005,(.i .i64))]⟩,[((.exit 2),⟨[(3,(.bp 3 0 0)),(4999,(.hd 6))],[(0,t24),(8,(.i .i64)),(4000,.s),(4001,(.i .i64)),(4002,(.i .i64)),(4003,(.i .i64)),(4004,.b),(4005,(.i .i64))]⟩)],λ k x=>Cl k x.1 x.2.1 x.2.2.1 x.2.2.2.1 x.2.2.2.2.1 x.2.2.2.2.2.1 x.2.2.2.2.2.2.1 x.2.2.2.2.2.2.2⟩
def Db.p:LF:=⟨⟨[(3,(.bp 3 0 0)),(4999,(.hd 6))],[(0,t24),(5,t25),(11,t24),(12,(.i .i64)),(13,(.i .i64)),(4000,.s),(4001,(.i .i64)),(4002,(.i .i64)),(4003,(.i .i64)),(4004,.b),(4005,(.i .i64))]⟩,[(.ret,⟨[],[(4,t25)]⟩),((.exit 0),⟨[(3,(.bp 3 0 0)),(4999,(.hd 6))],[(0,t24),(4000,.s),(4001,(.i .i64)),(4002,(.i .i64)),(4003,(.i .i64)),(4004,.b),(4005,(.i .i64))]⟩)],λ k x=>Db k x.1 x.2.1 x.2.2.1 x.2.2.2.1 x.2.2.2.2.1 x.2.2.2.2.2.1 x.2.2.2.2.2.2.1 x.2.2.2.2.2.2.2.1 x.2.2.2.2.2.2.2.2.1 x.2.2.2.2.2.2.2.2.2.1 x.2.2.2.2.2.2.2.2.2.2⟩
def Bq.d:Fd := { nt:=60,nv:=2,nm:=[0,1,2,3,5,6,7,8],res:=[4],cs:=λ k=>[(59,Al.e k),(99,F6.e k)],ls:=[(11,Cl.p),(3,Db.p)] }
def Bq.a (k:Nat):AC (Bq.d.cs k):=⟨Al.s k,F6.s k,trivial⟩
def Cl.s:LL Try.f98 Bq.d 11 Cl.p:=mL [] Bq.a trivial
def Db.s:LL Try.f98 Bq.d 3 Db.p:=mL [] Bq.a trivial
def Bq.s (k:Nat):CK 98 (Bq.e k):=mS Bq.d k [3,11] Try.func98 (Bq.a k) ⟨Db.s,Cl.s,trivial⟩
def Bt.e (k:Nat):Ent:=⟨2,[(.val false t24),(.val false t24)],[(.one,t25)],λ x=>Bt k x.1 x.2⟩
def Cm.p:LF:=⟨⟨[],[(5,t25),(10,t24),(11,(.i .i64)),(12,(.i .i64))]⟩,[((.exit 0),⟨[],[(5,t25)]⟩)],λ k x=>Cm k x.1 x.2.1 x.2.2.1 x.2.2.2⟩
def Bt.d:Fd := { nt:=21,nv:=2,nm:=[0,1,2,3,5,6,7],res:=[4],cs:=λ k=>[(59,Al.e k),(98,Bq.e k)],ls:=[(3,Cm.p)] }
def Bt.a (k:Nat):AC (Bt.d.cs k):=⟨Al.s k,Bq.s k,trivial⟩
def Cm.s:LL Try.f97 Bt.d 3 Cm.p:=mL [] Bt.a trivial
def Bt.s (k:Nat):CK 97 (Bt.e k):=mS Bt.d k [3] Try.func97 (Bt.a k) ⟨Cm.s,trivial⟩
def F7.e (k:Nat):Ent:=⟨2,[(.val true t30),(.val false t24)],[(.agg,t31),(.one,.b)],λ x=>F7 k x.1 x.2⟩
def F7.d:Fd := { nt:=30,nv:=2,nm:=[0,1,2,3,6],res:=[5],cs:=λ k=>[(32,B7.e k),(37,Bw.e k),(65,Cw.e k),(97,Bt.e k)],mv:=[17,29] }
def F7.s (k:Nat):CK 92 (F7.e k):=mS F7.d k [] Try.func92 ⟨B7.s k,Bw.s k,Cw.s k,Bt.s k,trivial⟩ trivial
def An.e (k:Nat):Ent:=⟨4,[(.ptr t39 t39),(.val false t24),(.val false t3),(.val false (.i .i64))],[(.one,.b)],λ x=>An k x.1 x.2.1 x.2.2.1 x.2.2.2⟩
def Ar.p:LF:=⟨⟨[(0,(.bp 0 0 0)),(1999,(.hd 9))],[(1,t24),(2,t3),(3,(.i .i64)),(9,.b),(17,t4),(18,(.i .i64)),(19,(.i .i64)),(1000,t39)]⟩,[((.exit 0),⟨[(1999,(.hd 9))],[(9,.b),(1000,t39)]⟩)],λ k x=>Ar k x.1 x.2.1 x.2.2.1 x.2.2.2.1 x.2.2.2.2.1 x.2.2.2.2.2.1 x.2.2.2.2.2.2.1 x.2.2.2.2.2.2.2⟩
def An.d:Fd := { nt:=56,nv:=4,nm:=[0,1,2,3,4,5,6,7,9,10,11,12,13],res:=[8],cs:=λ k=>[(43,Br.e k),(80,E4.e k),(92,F7.e k)],ls:=[(3,Ar.p)],rf:=true }
def An.a (k:Nat):AC (An.d.cs k):=⟨Br.s k,E4.s k,F7.s k,trivial⟩
def Ar.s:LL Try.f79 An.d 3 Ar.p:=mL [] An.a trivial
def An.s (k:Nat):CK 79 (An.e k):=mS An.d k [3] Try.func79 (An.a k) ⟨Ar.s,trivial⟩
def Bg.e (k:Nat):Ent:=⟨3,[(.ptr t39 t39),(.val false (.i .i64)),(.val false t3)],[(.one,.b)],λ x=>Bg k x.1 x.2.1 x.2.2⟩
def Bg.d:Fd := { nt:=47,nv:=3,nm:=[0,1,2,3,4,5],res:=[6],cs:=λ k=>[(59,Al.e k),(79,An.e k)],rf:=true }
def Bg.s (k:Nat):CK 51 (Bg.e k):=mS Bg.d k [] Try.func51 ⟨Al.s k,An.s k,trivial⟩ trivial
def Bc.e (k:Nat):Ent:=⟨3,[(.ptr t39 t39),(.val false (.i .i64)),(.val false t3)],[(.one,.b)],λ x=>Bc k x.1 x.2.1 x.2.2⟩
def Bc.d:Fd := { nt:=43,nv:=3,nm:=[0,1,2,3,4,5,7,8],res:=[6],cs:=λ k=>[(55,B9.e k),(59,Al.e k),(79,An.e k),(80,E4.e k)],rf:=true }
def Bc.s (k:Nat):CK 52 (Bc.e k):=mS Bc.d k [] Try.func52 ⟨B9.s k,Al.s k,An.s k,E4.s k,trivial⟩ trivial
def Ah.e (k:Nat):Ent:=⟨1,[(.ptr t39 t39)],[],λ x=>Ah k x⟩
def B4.p:LF:=⟨⟨[(0,(.bp 0 0 0)),(1999,(.hd 9))],[(2,t3),(3,(.i .i64)),(11,(.i .i64)),(12,(.i .i64)),(60,(.i .i64)),(61,(.i .i64)),(1000,t39)]⟩,[((.exit 4),⟨[(0,(.bp 0 0 0)),(1999,(.hd 9))],[(2,t3),(3,(.i .i64)),(11,(.i .i64)),(12,(.i .i64)),(1000,t39)]⟩)],λ k x=>B4 k x.1 x.2.1 x.2.2.1 x.2.2.2.1 x.2.2.2.2.1 x.2.2.2.2.2.1 x.2.2.2.2.2.2⟩
def B1.p:LF:=⟨⟨[(0,(.bp 0 0 0)),(1999,(.hd 9))],[(2,t3),(3,(.i .i64)),(11,(.i .i64)),(12,(.i .i64)),(40,t0),(41,(.i .i64)),(42,(.i .i64)),(1000,t39)]⟩,[((.exit 2),⟨[(0,(.bp 0 0 0)),(1999,(.hd 9))],[(2,t3),(3,(.i .i64)),(11,(.i .i64)),(12,(.i .i64)),(1000,t39)]⟩)],λ k x=>B1 k x.1 x.2.1 x.2.2.1 x.2.2.2.1 x.2.2.2.2.1 x.2.2.2.2.2.1 x.2.2.2.2.2.2.1 x.2.2.2.2.2.2.2⟩
def Bd.p:LF:=⟨⟨[(0,(.bp 0 0 0)),(1999,(.hd 9))],[(2,t3),(11,(.i .i64)),(12,(.i .i64)),(1000,t39)]⟩,[((.exit 0),⟨[(1999,(.hd 9))],[(1000,t39)]⟩)],λ k x=>Bd k x.1 x.2.1 x.2.2.1 x.2.2.2⟩
def Ah.d:Fd := { nt:=73,nv:=1,nm:=[0,1,2,3,4,5],res:=[],cs:=λ k=>[(47,Ej.e k),(48,Eh.e k),(49,Ft.e k),(50,Ai.e k),(51,Bg.e k),(52,Bc.e k)],ls:=[(11,B4.p),(6,B1.p),(2,Bd.p)],rf:=true }
def Ah.a (k:Nat):AC (Ah.d.cs k):=⟨Ej.s k,Eh.s k,Ft.s k,Ai.s k,Bg.s k,Bc.s k,trivial⟩
def B4.s:LL Try.f25 Ah.d 11 B4.p:=mL [] Ah.a trivial
def B1.s:LL Try.f25 Ah.d 6 B1.p:=mL [] Ah.a trivial
def Bd.s:LL Try.f25 Ah.d 2 Bd.p:=mL [6,11] Ah.a ⟨B1.s,B4.s,trivial⟩
def Ah.s (k:Nat):CK 25 (Ah.e k):=mS Ah.d k [2] Try.func25 (Ah.a k) ⟨Bd.s,trivial⟩
def Gw.e (k:Nat):Ent:=⟨1,[(.val true t36)],[(.agg,t39)],λ x=>Gw k x⟩
def Gw.d:Fd := { nt:=10,nv:=1,nm:=[0,1,3],res:=[],cs:=λ k=>[(16,Ax.e k),(17,B6.e k),(25,Ah.e k)],mv:=[9],rf:=true }
def Gw.s (k:Nat):CK 9 (Gw.e k):=mS Gw.d k [] Try.func9 ⟨Ax.s k,B6.s k,Ah.s k,trivial⟩ trivial
def Dt.e (k:Nat):Ent:=⟨2,[(.val false t1),(.val false t1)],[(.one,.b)],λ x=>Dt k x.1 x.2⟩
def Cn.p:LF:=⟨⟨[],[(0,t1),(1,t1),(5,(.i .i64))]⟩,[(.ret,⟨[],[(4,.b)]⟩),((.exit 0),⟨[],[]⟩)],λ k x=>Cn k x.1 x.2.1 x.2.2⟩
def Dt.d:Fd := { nt:=26,nv:=2,nm:=[0,1,2,3,5],res:=[4],ls:=[(4,Cn.p)] }
def Cn.s:LL Try.f26 Dt.d 4 Cn.p:=mL [] (λ _=>trivial) trivial
def Dt.s (k:Nat):CK 26 (Dt.e k):=mS Dt.d k [4] Try.func26 trivial ⟨Cn.s,trivial⟩
def Em.e (k:Nat):Ent:=⟨2,[(.val true t20),(.val true t20)],[(.one,.b)],λ x=>Em k x.1 x.2⟩
def Em.d:Fd := { nt:=24,nv:=2,nm:=[0,1,2,3],res:=[4],cs:=λ k=>[(26,Dt.e k)] }
def Em.s (k:Nat):CK 10 (Em.e k):=mS Em.d k [] Try.func10 ⟨Dt.s k,trivial⟩ trivial
def Du.e (k:Nat):Ent:=⟨1,[(.val false t1)],[(.one,.b)],λ x=>Du k x⟩
def Du.d:Fd := { nt:=95,nv:=1,nm:=[0,1,3,4,5,6,7,8,9,10,11,12,13,14,15,16],res:=[2],cs:=λ k=>[(4,J0.e k),(5,Bs.e k),(6,Ca.e k),(7,Eg.e k),(8,Cs.e k),(9,Gw.e k),(10,Em.e k)],sh:=true,rf:=true }
def Du.s (k:Nat):CK 3 (Du.e k):=mS Du.d k [] Try.func3 ⟨J0.s k,Bs.s k,Ca.s k,Eg.s k,Cs.s k,Gw.s k,Em.s k,trivial⟩ trivial
end

def Tot {α:Type} (f:Nat→Option α) (Q:α→Prop):Prop:=∃ r K,(∀ k,K≤k→f k=some r)∧Q r
section
variable {α β:Type} {f g:Nat→Option α} {Q Q':α→Prop}
def Tot.mono (h:Tot f Q) (hq:∀ a,Q a→Q' a):Tot f Q':=by
 obtain⟨r,K,h1,h2⟩:=h;exact⟨r,K,h1,hq r h2⟩
def Aqb {a:α} (h:Q a):Tot (λ _=>some a) Q:=⟨a,0,λ _ _=>rfl,h⟩
def B2b {o:Option α} {a:α} (e:o=some a) (h:Q a):Tot (λ _=>o) Q:=⟨a,0,λ _ _=>e,h⟩
def Arb {h:Nat→α→Option β} {R:β→Prop} (hf:Tot f Q) (hh:∀ a,Q a→Tot (λ k=>h k a) R):Tot (λ k=>(f k).bind (h k)) R:=by
 obtain⟨a,K,h1,h2⟩:=hf;obtain⟨b,L,h3,h4⟩:=hh a h2;exact⟨b,max K L,λ k hk=>by show (f k).bind (h k)=_;rw[h1 k (by omega)];exact h3 k (by omega),h4⟩
def Atb {c:Bool} (hc:c=true) (h:Tot f Q):Tot (λ k=>cond c (f k) (g k)) Q:=by subst hc;exact h
def Asb {c:Bool} (hc:c=false) (h:Tot g Q):Tot (λ k=>cond c (f k) (g k)) Q:=by subst hc;exact h
def Awb {c:Bool} (h1:c=true→Tot f Q) (h2:c=false→Tot g Q):Tot (λ k=>cond c (f k) (g k)) Q:=by
 cases hc:c with
 |true=>exact h1 hc
 |false=>exact h2 hc
def Aub {p:Prop} [Decidable p] (hp:p) (h:Tot f Q):Tot (λ k=>cond (decide p) (f k) (g k)) Q:=Atb (decide_eq_true hp) h
def Avb {p:Prop} [Decidable p] (hp:¬ p) (h:Tot g Q):Tot (λ k=>cond (decide p) (f k) (g k)) Q:=Asb (decide_eq_false hp) h
def Axb {p:Prop} [Decidable p] (h1:p→Tot f Q) (h2:¬ p→Tot g Q):Tot (λ k=>cond (decide p) (f k) (g k)) Q:=
 Awb (λ h=>h1 (of_decide_eq_true h)) (λ h=>h2 (of_decide_eq_false h))
def Ayb {m n:Nat} (hp:m≤n) (h:Tot f Q):Tot (λ k=>cond (Nat.ble m n) (f k) (g k)) Q:=Atb (Zn hp) h
def B1b {v:α} {h:Nat→α→Option β} {R:β→Prop} (hf:Tot f (λ r=>r=v)) (hh:Tot (λ k=>h k v) R):Tot (λ k=>(f k).bind (h k)) R:=
 Arb hf (by rintro r rfl;exact hh)
def Tot.succ (h:Tot (λ k=>f (k+1)) Q):Tot f Q:=by
 obtain⟨r,K,h1,h2⟩:=h;exact⟨r,K+1,λ k hk=>by obtain⟨m,rfl⟩:∃ m,k=m+1:=⟨k-1,by omega⟩;exact h1 m (by omega),h2⟩
def Tot.and (h:Tot f Q) (h':Tot f Q'):Tot f (λ a=>Q a∧Q' a):=by
 obtain⟨r,K,h1,h2⟩:=h;obtain⟨r',K',h1',h2'⟩:=h'
 have e:r=r':=by
  have a1:=h1 (max K K') (by omega);have a2:=h1' (max K K') (by omega);rw[a1]at a2;exact Bzb a2
 subst e;exact⟨r,K,h1,h2,h2'⟩
def Tot.law {f:Nat→Option Bool} (h:Tot f (λ b=>b=true)):∃ k,f k=some true:=by
 obtain⟨r,K,h1,h2⟩:=h;subst h2;exact⟨K,h1 K (Vv _)⟩
end
def w64 {n:Int} (h1 : -9223372036854775808≤n) (h2:n≤9223372036854775807):wrap .i64 n=n:=Go.IntWalk.i64_in n ⟨h1,h2⟩
def Mha (n:Int):0≤wrap .u8 n∧wrap .u8 n≤255:=by
 simp only[wrap,IntKind.signed,IntKind.bits];simp;omega
def Gra (x m:Int) (h0:0≤m) (h1:m<9223372036854775808):0≤wrap .i64 ((ofInt (IntKind.bits .i64) x &&& ofInt (IntKind.bits .i64) m).toNat)∧wrap .i64 ((ofInt (IntKind.bits .i64) x &&& ofInt (IntKind.bits .i64) m).toNat)≤m:=by
 have hm:(ofInt (IntKind.bits .i64) m).toNat=m.toNat:=by
  rw[Dcb];show (m % ((2 ^ 64:Nat):Int)).toNat=m.toNat;rw[Int.emod_eq_of_lt h0 (by omega)]
 have hle:(ofInt (IntKind.bits .i64) x &&& ofInt (IntKind.bits .i64) m).toNat≤m.toNat:=by
  rw[BitVec.toNat_and,hm];exact Nat.and_le_right
 rw[w64 (by omega) (by omega)];omega
def Mia {x n:Int} (hx:0≤x) (hn:0<n):0≤Int.tmod x n∧Int.tmod x n<n:=by
 rw[Beb hx];exact⟨Int.emod_nonneg _ (by omega),Int.emod_lt_of_pos _ hn⟩

abbrev Cur:=List Int×Int×Int
def T4 (c:Cur):Prop:=(c.1.length:Int)≤1048576∧0≤c.2.1∧c.2.1≤1048576
def Isa (b:List Int) (hb:(b.length:Int)≤1048576):∀ (n:Nat) (h i:Int),0≤i→i+n=4001→Tot (λ k=>Ev k b h i) (λ r=>r.1=b):=by
 intro n
 induction n with
 |zero=>
  intro h i h0 hi;refine Tot.succ ?_;simp only[Ev];refine Axb (λ h1=>?_) (λ h1=>Aqb rfl);exact Avb (by omega) (Aqb rfl)
 |succ n ih=>
  intro h i h0 hi;refine Tot.succ ?_;simp only[Ev];refine Axb (λ h1=>?_) (λ h1=>Aqb rfl);refine Axb (λ h2=>?_) (λ h2=>Aqb rfl);refine Aub h0 (Aub h1 ?_);rw[w64 (n:=i+1) (by omega) (by omega)];exact ih _ _ (by omega) (by omega)
def Mja (b:List Int) (hb:(b.length:Int)≤1048576):Tot (λ k=>Ge k b) T4:=by
 unfold Ge;refine Arb (Isa b hb 4001 _ 0 (by omega) (by omega)) (λ r hr=>?_);exact Aqb ⟨by rw[hr];exact hb,Zza 0,by show (0:Int)≤1048576;omega⟩
def Pf (c:Cur) (hc:T4 c):∃ x c',Ew c=some (x,c')∧0≤x∧x≤255∧T4 c':=by
 obtain⟨h1,h2,h3⟩:=hc;unfold Ew
 by_cases hlt:c.2.1<(c.1.length:Int)
 ·simp only[hlt,h2,decide_true,cond_true];obtain⟨a1,a2⟩:=Gra (wrap .i64 ((wrap .i64 ((ofInt (IntKind.bits .i64) (wrap .i64 ((ofInt (IntKind.bits .i64) (Int.fdiv (wrap .i64 ((wrap .i64 (c.2.2*6364136223846793005))+1442695040888963407)) (2 ^ (min (toNat 33) (IntKind.bits .i64)))) ^^^ ofInt (IntKind.bits .i64) (Int.fdiv (wrap .i64 ((wrap .i64 (c.2.2*6364136223846793005))+1442695040888963407)) (2 ^ (min (toNat 47) (IntKind.bits .i64))))).toNat)) &&& ofInt (IntKind.bits .i64) 255).toNat))+(wrap .i64 (getD c.1 (toNat c.2.1) (0:Int))))) 255 (by omega) (by omega);refine⟨_,_,rfl,a1,a2,h1,?_,?_⟩
  ·show 0≤wrap .i64 (c.2.1+1);rw[w64 (by omega) (by omega)];omega
  ·show wrap .i64 (c.2.1+1)≤1048576;rw[w64 (by omega) (by omega)];omega
 ·simp only[hlt,decide_false,cond_false];obtain⟨a1,a2⟩:=Gra (wrap .i64 ((ofInt (IntKind.bits .i64) (Int.fdiv (wrap .i64 ((wrap .i64 (c.2.2*6364136223846793005))+1442695040888963407)) (2 ^ (min (toNat 33) (IntKind.bits .i64)))) ^^^ ofInt (IntKind.bits .i64) (Int.fdiv (wrap .i64 ((wrap .i64 (c.2.2*6364136223846793005))+1442695040888963407)) (2 ^ (min (toNat 47) (IntKind.bits .i64))))).toNat)) 255 (by omega) (by omega);exact⟨_,_,rfl,a1,a2,h1,h2,h3⟩
def Nk (c:Cur) (hc:T4 c) (n:Int) (hn:n≤1000000000):∃ x c',Dc c n=some (x,c')∧0≤x∧(0<n→x<n)∧(n≤0→x=0)∧T4 c':=by
 unfold Dc
 by_cases h0:n≤0
 ·exact⟨0,c,by simp only[h0,decide_true,cond_true],by omega,by omega,λ _=>rfl,hc⟩
 ·by_cases h1:n≤256
  ·obtain⟨x,c',e,b0,b1,k⟩:=Pf c hc
   have hz:¬ n=0:=by omega
   have:=Mia b0 (show 0<n by omega);exact⟨Int.tmod x n,c',by simp only[h0,h1,hz,decide_true,decide_false,cond_true,cond_false,e,Vt],this.1,λ _=>this.2,λ h=>by omega,k⟩
  ·obtain⟨x,c1,e1,b0,b1,k1⟩:=Pf c hc;obtain⟨y,c2,e2,b2,b3,k2⟩:=Pf c1 k1;obtain⟨z,c3,e3,b4,b5,k3⟩:=Pf c2 k2
   have hz:¬ n=0:=by omega
   have:=Mia (show 0≤x*65536+y*256+z by omega) (show 0<n by omega);refine⟨Int.tmod (x*65536+y*256+z) n,c3,?_,this.1,λ _=>this.2,λ h=>by omega,k3⟩;simp only[h0,h1,hz,decide_false,cond_false,e1,e2,e3,Vt];rw[w64 (n:=x*65536) (by omega) (by omega),w64 (n:=y*256) (by omega) (by omega),w64 (n:=x*65536+y*256) (by omega) (by omega),w64 (n:=x*65536+y*256+z) (by omega) (by omega)]
def Qoa {α:Type} {l:List α} {i:Int} {d:α} (h0:0≤i) (h1:i<(l.length:Int)):l.getD i.toNat d∈l:=by
 have h:i.toNat<l.length:=by omega
 rw[Vb,Vg h];exact Cwb h
def Xr (c:Cur) (hc:T4 c) (l:List Int) (hl:0<l.length) (hm:l.length≤2000000):∃ x c',Fg c l=some (x,c')∧x∈l∧T4 c':=by
 obtain⟨i,c',e,b0,b1,_,k⟩:=Nk c hc (l.length:Int) (by omega);have b1:=b1 (by omega);refine⟨l.getD i.toNat 0,c',?_,Qoa b0 b1,k⟩;unfold Fg;simp only[e,Vt,b0,b1,decide_true,cond_true]
def Av (l:List Int):Prop:=∀ x∈l,0≤x∧x≤255
abbrev Stp:=Int×Int×Int
abbrev Row:=ByteArray×Stp×Bool×Int
abbrev Fil:=Stp×Bool×List Int

def Boa:∀ (a:List UInt8),Op.bytesLess a a=false
 |[]=>rfl
 |a::l=>by simp[Op.bytesLess,Boa l]
def Gsa:∀ (a b c:List UInt8),Op.bytesLess a b=true→Op.bytesLess b c=true→Op.bytesLess a c=true
 |_,[],_,h,_=>by simp[Op.bytesLess]at h
 |_,_::_,[],_,h=>by simp[Op.bytesLess]at h
 |[],_::_,_::_,_,_=>rfl
 |a::x,b::y,c::z,h1,h2=>by
  simp only[Op.bytesLess,Zz,Va,decide_eq_true_eq,beq_iff_eq]at h1 h2 ⊢;rcases h1 with h1|⟨rfl,h1⟩
  ·rcases h2 with h2|⟨rfl,h2⟩
   ·exact .inl (UInt8.lt_trans h1 h2)
   ·exact .inl h1
  ·rcases h2 with h2|⟨rfl,h2⟩
   ·exact .inl h2
   ·exact .inr ⟨rfl,Gsa x y z h1 h2⟩
def Sya:∀ (a b:List UInt8),Op.bytesLess a b=false→Op.bytesLess b a=false→a=b
 |[],[],_,_=>rfl
 |[],_::_,h,_=>by simp[Op.bytesLess]at h
 |_::_,[],_,h=>by simp[Op.bytesLess]at h
 |a::x,b::y,h1,h2=>by
  simp only[Op.bytesLess,Bool.or_eq_false_iff,Ctb,decide_eq_false_iff_not]at h1 h2
  have hab:a=b:=by
   have h3:=UInt8.not_lt.1 h1.1;have h4:=UInt8.not_lt.1 h2.1;exact UInt8.le_antisymm h4 h3
  subst hab;rw[Sya x y (h1.2.resolve_left (by simp)) (h2.2.resolve_left (by simp))]
def tlt (a b:ByteArray):Bool:=Op.bytesLess a.toList b.toList
def teq (a b:ByteArray):Bool:=a.toList==b.toList
def V1 {a b:ByteArray} (h:a.toList=b.toList):a=b:=by
 rw[ByteArray.toList_eq,ByteArray.toList_eq]at h;obtain⟨⟨x⟩⟩:=a;obtain⟨⟨y⟩⟩:=b;simp only at h;rw[h]
def C8 {a b:ByteArray}:teq a b=true↔a=b:=by
 unfold teq;rw[beq_iff_eq];exact⟨V1,λ h=>by rw[h]⟩
def Eu (a:ByteArray):tlt a a=false:=Boa _
def I3 {a b c:ByteArray} (h:tlt a b=true) (h':tlt b c=true):tlt a c=true:=Gsa _ _ _ h h'
def T5 {a b:ByteArray} (h:tlt a b=false) (h':tlt b a=false):a=b:=V1 (Sya _ _ h h')
def Pg {a b:ByteArray} (h:tlt a b=true):tlt b a=false:=by
 cases hb:tlt b a
 ·rfl
 have:=I3 h hb;rw[Eu]at this;cases this
def Y4a (a b:ByteArray):(!(Op.bytesLess a.toList b.toList||a.toList==b.toList))=tlt b a:=by
 show (!(tlt a b||teq a b))=tlt b a;cases h1:tlt a b
 case true=>rw[Pg h1];rfl
 cases h2:teq a b
 case true=>rw[C8.1 h2,Eu];rfl
 cases h3:tlt b a
 case true=>rfl
 exfalso;have:=T5 h1 h3;rw[C8.2 this]at h2;cases h2
def sle (a b:Stp):Bool:=cond (a.1 != b.1) (decide (a.1<b.1)) (cond (a.2.1 != b.2.1) (decide (a.2.1<b.2.1)) (decide (a.2.2<b.2.2)))
def Xt (a b:Stp):Bl a b=some (sle a b):=by
 unfold Bl sle
 cases a.1 != b.1<;>cases a.2.1 != b.2.1<;>rfl
def Ki {a b:Stp}:sle a b=true↔a.1<b.1∨(a.1=b.1∧(a.2.1<b.2.1∨(a.2.1=b.2.1∧a.2.2<b.2.2))):=by
 unfold sle
 by_cases h1:a.1=b.1
 ·by_cases h2:a.2.1=b.2.1
  ·simp[h1,h2]
  ·have:(a.2.1 != b.2.1)=true:=by simpa using h2
   simp[h1,this,h2]
 ·have:(a.1 != b.1)=true:=by simpa using h1
  simp[this,h1]
def Hk (a b:Row):Bool:=cond (!((a.2.1.1==b.2.1.1)&&((a.2.1.2.1==b.2.1.2.1)&&(a.2.1.2.2==b.2.1.2.2)))) (sle a.2.1 b.2.1) (cond (!(a.2.2.1==b.2.2.1)) b.2.2.1 (decide (a.2.2.2<b.2.2.2)))
def Mka (a b:Row):F6 a b=some (Hk b a):=by
 unfold F6 Hk;rw[Xt,BEq.comm (a:=a.2.1.1),BEq.comm (a:=a.2.1.2.1),BEq.comm (a:=a.2.1.2.2),BEq.comm (a:=a.2.2.1)]
 cases (!((b.2.1.1==a.2.1.1)&&((b.2.1.2.1==a.2.1.2.1)&&(b.2.1.2.2==a.2.1.2.2))))<;>cases (!(b.2.2.1==a.2.2.1))<;>rfl
def J3:Row:=((⟨#[]⟩:ByteArray),(((0:Int),((0:Int),(0:Int))),(false,(0:Int))))
def T6 (s:ByteArray):List Row→Nat→Option Nat
 |[],_=>none
 |r::l,i=>bif teq r.1 s then some i else T6 s l (i+1)
def Xu (l:List Row) (s:ByteArray):Nat→Nat
 |0=>0
 |k+1=>bif tlt s (l.getD k J3).1 then Xu l s k else k+1
def mrg (l:List Row) (x:Row):List Row:=match T6 x.1 l 0 with
 |some i=>bif Hk (l.getD i J3) x then l.set i x else l
 |none=>l.take (Xu l x.1 l.length)++x::l.drop (Xu l x.1 l.length)
def Xv (l:List Row) (s:ByteArray):∀ k,Xu l s k≤k
 |0=>Vv _
 |k+1=>by
  unfold Xu
  cases tlt s (l.getD k J3).1 with
  |true=>have:=Xv l s k;simp only[cond_true];omega
  |false=>simp only[cond_false];omega
def Nl {s:ByteArray}:∀ (l:List Row) (i j:Nat),T6 s l i=some j→i≤j∧j<i+l.length∧teq (l.getD (j-i) J3).1 s=true
 |[],i,j,h=>by simp[T6]at h
 |r::l,i,j,h=>by
  unfold T6 at h
  cases ht:teq r.1 s with
  |true=>
   rw[ht]at h;simp only[cond_true,Vc]at h;subst h;refine⟨Vv _,by simp,?_⟩;rw[Ceb];exact ht
  |false=>
   rw[ht]at h;simp only[cond_false]at h;obtain⟨h1,h2,h3⟩:=Nl l (i+1) j h;refine⟨by omega,by simp only[Vh];omega,?_⟩;rw[show j-i=(j-(i+1))+1 by omega];exact h3
def Co {α:Type} {l:List α} {i:Nat} {d:α} (h:i<l.length):l.drop i=l.getD i d::l.drop (i+1):=by
 rw[Zj h,Vb,Vg h];rfl
def Few (l:List Row):Prop:=l.length≤1000000000000
def Bpa (x:Row) (l0 l5:List Row) (h5:l5=l0):∀ (n:Nat) (i:Nat),l0.length-i=n→i≤l0.length→Few l0→
  Tot (λ k=>Db k l0 l5 l0 (l0.length:Int) (i:Int) x.1 x.2.1.1 x.2.1.2.1 x.2.1.2.2 x.2.2.1 x.2.2.2) (λ r=>r=match T6 x.1 (l0.drop i) i with
   |some j => .inl (bif Hk (l0.getD j J3) x then l0.set j x else l0)
   |none => .inr (l0,x.1,x.2.1.1,x.2.1.2.1,x.2.1.2.2,x.2.2.1,x.2.2.2)):=by
 subst h5;intro n
 induction n with
 |zero=>
  intro i hn hi hf;unfold Few at hf;refine Tot.succ ?_;simp only[Db];refine Avb (by omega) (Aqb ?_);rw[Yp (by omega)];rfl
 |succ n ih=>
  intro i hn hi hf;have hf':=hf;unfold Few at hf
  have hlt:i<l5.length:=by omega
  refine Tot.succ ?_;simp only[Db];refine Aub (by omega) (Aub (by omega) (Aub (by omega) ?_));have e0:toNat (i:Int)=i:=Vm i;rw[e0,Co (d:=J3) hlt];refine Awb (λ ht=>?_) (λ ht=>?_)
  ·have ht':teq (l5.getD i J3).1 x.1=true:=ht;refine B1b (B2b (Q:=λ r=>r=Hk (l5.getD i J3) x) (Mka _ _) rfl) ?_;simp only[T6,ht',cond_true]
   cases hb:Hk (l5.getD i J3) x with
   |true=>exact Atb rfl (Aub (by omega) (Aub (by omega) (Aqb rfl)))
   |false=>exact Asb rfl (Aqb rfl)
  ·have ht':teq (l5.getD i J3).1 x.1=false:=ht;simp only[T6,ht',cond_false];rw[w64 (n:=(i:Int)+1) (by omega) (by omega)];exact ih (i+1) (by omega) (by omega) hf'
def Xw (x:Row) (l:List Row) (hf:Few l):∀ (i:Nat),i≤l.length→
  Tot (λ k=>Cl k l (i:Int) x.1 x.2.1.1 x.2.1.2.1 x.2.1.2.2 x.2.2.1 x.2.2.2) (λ r=>r=(l,(Xu l x.1 i:Int),x.1,x.2.1.1,x.2.1.2.1,x.2.1.2.2,x.2.2.1,x.2.2.2)):=by
 unfold Few at hf;intro i
 induction i with
 |zero=>
  intro hi;refine Tot.succ ?_;simp only[Cl];exact Avb (by omega) (Aqb rfl)
 |succ i ih=>
  intro hi;refine Tot.succ ?_;simp only[Cl];rw[w64 (n:=((i+1:Nat):Int)-1) (by omega) (by omega),show ((i+1:Nat):Int)-1=(i:Int) by omega,show toNat (i:Int)=i from Vm i];refine Aub (by omega) (Aub (by omega) (Aub (by omega) ?_));have e:∀ z,(!(Op.bytesLess (l.getD i z).1.toList x.1.toList||(l.getD i z).1.toList==x.1.toList))=tlt x.1 (l.getD i z).1:=λ z=>Y4a _ _;rw[e]
  have hc:Xu l x.1 (i+1)=bif tlt x.1 (l.getD i J3).1 then Xu l x.1 i else i+1:=rfl
  refine Awb (λ ht=>?_) (λ ht=>?_)
  ·have ht':tlt x.1 (l.getD i J3).1=true:=ht;rw[hc,ht',cond_true];exact ih (by omega)
  ·have ht':tlt x.1 (l.getD i J3).1=false:=ht;rw[hc,ht',cond_false];exact Aqb rfl
def Ph (l:List Row) (hf:Few l):Al l=some l:=by
 unfold Few at hf;unfold Al;rw[Zn (by simp only[Vs];omega)];rfl
def Mla (l:List Row) (x:Row) (hf:Few l):Tot (λ k=>Bq k l x) (λ r=>r=mrg l x):=by
 have hf':=hf;unfold Few at hf;unfold Bq;refine Arb (B2b (Q:=λ r=>r=l) (Ph l hf') rfl) ?_;rintro r rfl;refine Arb (Bpa x r r rfl _ 0 rfl (Vw _) hf') ?_;rintro y rfl;rw[Yu];unfold mrg
 cases hfi:T6 x.1 r 0 with
 |some j=>exact Aqb rfl
 |none=>
  simp only[Ddb];refine Arb (Xw x r hf' r.length (Vv _)) ?_;rintro z rfl;have hc:=Xv r x.1 r.length;simp only;rw[show toNat ((Xu r x.1 r.length:Nat):Int)=Xu r x.1 r.length from Vm _];refine Aub (by omega) (Aub (by omega) ?_)
  have hft:Few (r.take (Xu r x.1 r.length)):=by unfold Few;rw[Vq];omega
  refine Arb (B2b (Q:=λ q=>q=r.take (Xu r x.1 r.length)) (Ph _ hft) rfl) ?_;rintro q rfl;refine Ayb (by simp only[Vq,Vh,Vs];omega) ?_;refine Aub (by omega) (Aub (by omega) (Ayb (by simp only[Vi,Vq,We,Vh,Vs];omega) (Aqb ?_)));rw[Vo];rfl

def Rr (a b:ByteArray):(a==b)=teq a b:=beq_toListBytes a b
def Qi {s:ByteArray}:∀ (l:List Row) (i:Nat),T6 s l i=none→∀ r∈l,r.1≠s
 |[],_,_,r,hr=>by simp at hr
 |a::l,i,h,r,hr=>by
  unfold T6 at h;cases ht:teq a.1 s
  case true=>rw[ht]at h;simp at h
  rw[ht]at h;rcases Vk.1 hr with rfl|hr
  ·intro e;rw[C8.2 e]at ht;cases ht
  ·exact Qi l (i+1) h r hr
def Vfa (l:List Row) (x:Row):l.length≤(mrg l x).length∧(mrg l x).length≤l.length+1:=by
 unfold mrg;have hc:=Xv l x.1 l.length;split
 ·cases Hk (l.getD _ J3) x<;>simp
 ·simp only[Vi,Vq,Vh,We];omega
def Mma {l:List Row} {x r:Row} (h:r∈mrg l x):r=x∨r∈l:=by
 unfold mrg at h;split at h
 ·rename_i j hj;cases hb:Hk (l.getD j J3) x
  ·rw[hb]at h;exact .inr h
  rw[hb,cond_true]at h;rcases Yw h with h|h
  ·exact .inr h
  ·exact .inl h
 ·rcases Vl.1 h with h|h
  ·exact .inr (B3b h)
  ·rcases Vk.1 h with h|h
   ·exact .inl h
   ·exact .inr (Zp h)
def Fx (a:Stp):sle a a=false:=by
 cases h:sle a a with
 |false=>rfl
 |true=>rw[Ki]at h;omega
def Be (l:List Row):Prop:=l.Pairwise (λ a b=>tlt a.1 b.1=true)
def Bqa {l:List Row} {s:ByteArray} (hs:Be l) (hn:∀ r∈l,r.1≠s):∀ k,k≤l.length→(∀ i,i<Xu l s k→tlt (l.getD i J3).1 s=true)∧(∀ i,Xu l s k≤i→i<k→tlt s (l.getD i J3).1=true)
 |0,_=>⟨λ i hi=>by simp[Xu]at hi,λ i _ hi=>by omega⟩
 |k+1,hk=>by
  unfold Xu
  cases ht:tlt s (l.getD k J3).1 with
  |true=>
   simp only[cond_true];obtain⟨h1,h2⟩:=Bqa hs hn k (by omega);refine⟨h1,λ i hi hik=>?_⟩
   by_cases e:i=k
   ·subst e;exact ht
   ·exact h2 i hi (by omega)
  |false=>
   simp only[cond_false];refine⟨λ i hi=>?_,λ i hi hik=>by omega⟩
   have hget:∀ j (hj:j<l.length),l.getD j J3=l[j]:=λ j hj=>by rw[Vb,Vg hj];rfl
   have hkl:k<l.length:=by omega
   have hks:tlt (l.getD k J3).1 s=true:=by
    cases h:tlt (l.getD k J3).1 s
    case true=>rfl
    exfalso;exact hn (l.getD k J3) (by rw[hget k hkl];exact Cwb hkl) (T5 h ht)
   by_cases e:i=k
   ·subst e;exact hks
   ·have h3:=(Yq.1 hs) i k (by omega) hkl (by omega);rw[hget i (by omega)];rw[hget k hkl]at hks;exact I3 h3 hks
def Nm {l:List Row} {x:Row} (hs:Be l):Be (mrg l x):=by
 have hget:∀ j (hj:j<l.length),l.getD j J3=l[j]:=λ j hj=>by rw[Vb,Vg hj];rfl
 unfold mrg;split
 ·rename_i j hj;obtain⟨_,h2,h3⟩:=Nl l 0 j hj;rw[Cfb]at h3
  have hjl:j<l.length:=by omega
  have hname:l[j].1=x.1:=by rw[← hget j hjl];exact C8.1 h3
  cases hb:Hk (l.getD j J3) x
  ·exact hs
  rw[cond_true];unfold Be;rw[Yq];intro a b ha hb hab;rw[Vu]at ha hb;have:=(Yq.1 hs) a b ha hb hab;rw[Dob,Dob]
  by_cases e1:j=a
  ·subst e1;rw[if_pos rfl,if_neg (by omega),← hname];exact this
  ·rw[if_neg e1]
   by_cases e2:j=b
   ·subst e2;rw[if_pos rfl,← hname];exact this
   ·rw[if_neg e2];exact this
 ·rename_i hj;have hn:=Qi l 0 hj;obtain⟨c1,c2⟩:=Bqa hs hn l.length (Vv _);have hc:=Xv l x.1 l.length;unfold Be;rw[Zg,Wd];refine⟨Cub (Dib _ _) hs,⟨λ r hr=>?_,Cub (List.drop_sublist _ _) hs⟩,λ r hr q hq=>?_⟩
  ·obtain⟨i,hi,rfl⟩:=Cab hr;rw[We]at hi;rw[List.getElem_drop,← hget _ (by omega)];exact c2 _ (by omega) (by omega)
  ·obtain⟨i,hi,rfl⟩:=Cab hr;rw[Vq]at hi
   have h1:tlt (List.take (Xu l x.1 l.length) l)[i].1 x.1=true:=by
    rw[Cqb,← hget _ (by omega)];exact c1 i (by omega)
   rcases Vk.1 hq with rfl|hq
   ·exact h1
   ·refine I3 h1 ?_;obtain⟨m,hm,rfl⟩:=Cab hq;rw[We]at hm;rw[List.getElem_drop,← hget _ (by omega)];exact c2 _ (by omega) (by omega)

def inR (n lo hi:Int):Bool:=decide (n≥lo)&&decide (n≤hi)
def My (n lo hi:Int):Bu n lo hi=some (inR n lo hi):=by
 unfold Bu inR
 cases decide (n≥lo)<;>rfl
def Fk {n lo hi:Int}:inR n lo hi=true↔lo≤n∧n≤hi:=by
 unfold inR;simp
def Bra (c:Int):Bool:=inR c 97 122||(inR c 48 57||(!(c != 45)||(!(c != 95)||!(c != 47))))
def Kj (s:ByteArray):Prop:=s.size≤4611686018427387904
def Od (s:ByteArray):s.data.toList.length=s.size:=Zc
def Mna (s:ByteArray) (i:Int):0≤bt s i∧bt s i≤255:=by
 unfold bt;have:=(s.data.toList.getD i.toNat 0).toNat_lt;omega
def Zqa (s:ByteArray) (i:Nat) (h:i<s.size):bt s (i:Int)=((s.data.toList[i]'(by rw[Od];exact h)).toNat:Int):=by
 unfold bt;rw[Vm,Vb,Vg (by rw[Od];exact h)];rfl
def bOk (b:UInt8):Bool:=Bra (b.toNat:Int)
def Eia (s:ByteArray) (hs:Kj s):∀ (n i:Nat),s.size-i=n→i≤s.size→
  Tot (λ k=>Am k s (i:Int)) (λ r=>r=bif (s.data.toList.drop i).all bOk then .inr s else .inl false):=by
 unfold Kj at hs;have hsz:=Od s;intro n
 induction n with
 |zero=>
  intro i hn hi;refine Tot.succ ?_;simp only[Am];refine Avb (by omega) (Aqb ?_);rw[Yp (by omega)];rfl
 |succ n ih=>
  intro i hn hi
  have hlt:i<s.size:=by omega
  refine Tot.succ ?_;simp only[Am];refine Aub (by omega) (Aub (by omega) (Aub (by omega) ?_));rw[w64 (n:=(i:Int)+1) (by omega) (by omega)]
  have hb:bOk (s.data.toList[i]'(by omega))=Bra (bt s (i:Int)):=by rw[Zqa s i hlt];rfl
  rw[Zj (by omega),C3b,hb];generalize bt s (i:Int)=c;have h1:=ih (i+1) (by omega) (by omega)
  have e:(((i+1:Nat)):Int)=(i:Int)+1:=by omega
  rw[e]at h1
  cases hc:Bra c with
  |true=>
   rw[Wf];refine h1.mono (λ r hr=>hr) |> λ h=>?_;obtain⟨r,K,h2,h3⟩:=h;refine⟨r,K,λ k hk=>?_,h3⟩;rw[← h2 k hk];unfold Bra inR at hc
   revert hc
   cases decide (c≥97)<;>cases decide (c≤122)<;>cases decide (c≥48)<;>cases decide (c≤57)<;>cases (c != 45)<;>cases (c != 95)<;>cases (c != 47)<;>first|(intro _;rfl)|(intro hc;cases hc)
  |false=>
   rw[Ze];refine⟨.inl false,0,λ k _=>?_,rfl⟩;unfold Bra inR at hc
   revert hc
   cases decide (c≥97)<;>cases decide (c≤122)<;>cases decide (c≥48)<;>cases decide (c≤57)<;>cases (c != 45)<;>cases (c != 95)<;>cases (c != 47)<;>first|(intro _;rfl)|(intro hc;cases hc)
def B2 (s:ByteArray):Bool:=s.data.toList.all bOk&&inR (s.size:Int) 1 20
def J4 (s:ByteArray) (hs:Kj s):Tot (λ k=>Ac k s) (λ r=>r=B2 s):=by
 unfold Ac B2;refine B1b (Eia s hs _ 0 rfl (Vw _)) ?_;rw[Yu]
 cases s.data.toList.all bOk with
 |true=>exact B2b (a:=inR (s.size:Int) 1 20) (by simp only[cond_true,Ddb,My,Vt]) (by rw[Wf])
 |false=>exact Aqb rfl
def Fz (s:Stp):Bool:=inR s.1 0 1000000000&&(inR s.2.1 0 1000000&&inR s.2.2 0 20)
def Pi (s:Stp):Bj s=some (Fz s):=by
 unfold Bj Fz;simp only[My,Vt]
 cases inR s.1 0 1000000000<;>cases inR s.2.1 0 1000000<;>rfl
def Kk (x:Row):Bool:=B2 x.1&&(Fz x.2.1&&(inR x.2.2.2 0 200&&(!x.2.2.1||x.2.2.2==0)))
def Moa (x:Row) (hs:Kj x.1):Tot (λ k=>Fv k x) (λ r=>r=Kk x):=by
 unfold Fv Kk;refine B1b (J4 x.1 hs) ?_;cases B2 x.1
 ·exact Aqb rfl
 refine B2b (a:=Fz x.2.1&&(inR x.2.2.2 0 200&&(!x.2.2.1||x.2.2.2==0))) ?_ (by rw[Wf]);simp only[cond_true,Pi,My,Vt]
 cases Fz x.2.1<;>cases inR x.2.2.2 0 200<;>cases x.2.2.1<;>rfl
def chk:Option ByteArray→List Row→Bool
 |_,[]=>true
 |none,r::l=>Kk r&&chk (some r.1) l
 |some q,r::l=>Kk r&&(tlt q r.1&&chk (some r.1) l)
def Hb (l:List Row):Bool:=chk none l&&decide ((l.length:Int)≤60)
def Xx (l:List Row):Prop:=∀ r∈l,Kj r.1
def Bsa (l:List Row):Nat→Option ByteArray
 |0=>none
 |i+1=>some (l.getD i J3).1
def Qpa (l:List Row) (i:Nat) (h:i<l.length):chk (Bsa l i) (l.drop i)=(Kk (l.getD i J3)&&(bif decide (0<i) then tlt (l.getD (i-1) J3).1 (l.getD i J3).1 else true)&&chk (Bsa l (i+1)) (l.drop (i+1))):=by
 rw[Co (d:=J3) h]
 cases i with
 |zero=>simp[Bsa,chk]
 |succ i=>simp[Bsa,chk,E0b]
def A3 {α:Type} {l:List α} {i:Nat} {d:α} (h1:i<l.length):l.getD i d∈l:=by
 rw[Vb,Vg h1];exact Cwb h1
def Eja (l:List Row) (hf:Few l) (hs:Xx l):∀ (n i:Nat),l.length-i=n→i≤l.length→
  Tot (λ k=>Dr k l l (l.length:Int) (i:Int)) (λ r=>r=bif chk (Bsa l i) (l.drop i) then .inr l else .inl false):=by
 unfold Few at hf;intro n
 induction n with
 |zero=>
  intro i hn hi;refine Tot.succ ?_;simp only[Dr];refine Avb (by omega) (Aqb ?_);rw[Yp (by omega)]
  cases Bsa l i<;>rfl
 |succ n ih=>
  intro i hn hi
  have hlt:i<l.length:=by omega
  refine Tot.succ ?_;simp only[Dr];refine Aub (by omega) (Aub (by omega) (Aub (by omega) ?_));rw[show toNat (i:Int)=i from Vm i,w64 (n:=(i:Int)+1) (by omega) (by omega),Qpa l i hlt];have h1:=ih (i+1) (by omega) (by omega)
  have e:(((i+1:Nat)):Int)=(i:Int)+1:=by omega
  rw[e]at h1;refine B1b (Moa (l.getD i J3) (hs _ (A3 hlt))) ?_;cases hb:Kk (l.getD i J3)
  ·exact Atb rfl (Aqb (by simp))
  refine Asb rfl ?_;rw[Wf];refine Axb (λ h0=>?_) (λ h0=>?_)
  ·rw[w64 (n:=(i:Int)-1) (by omega) (by omega)];refine Aub (by omega) (Aub (by omega) ?_);rw[show toNat ((i:Int)-1)=i-1 by omega,decide_eq_true (show 0<i by omega),cond_true];have et:(!(Op.bytesLess (l.getD (i-1) J3).1.toList (l.getD i J3).1.toList)) = !(tlt (l.getD (i-1) J3).1 (l.getD i J3).1):=rfl;refine Awb (λ ht=>?_) (λ ht=>?_)
   ·have ht':(!(tlt (l.getD (i-1) J3).1 (l.getD i J3).1))=true:=ht;rw[Wa]at ht';exact Aqb (by rw[ht'];rfl)
   ·have ht':(!(tlt (l.getD (i-1) J3).1 (l.getD i J3).1))=false:=ht;rw[Yg]at ht';rw[ht',Wf];exact h1
  ·rw[decide_eq_false (show ¬ 0<i by omega),cond_false,Wf];exact h1
def Gta (l:List Row) (hf:Few l) (hs:Xx l):Tot (λ k=>Cw k l) (λ r=>r=Hb l):=by
 unfold Cw Hb;refine B1b (Eja l hf hs _ 0 rfl (Vw _)) ?_;rw[Yu];show Tot _ (λ r=>r=(chk none l&&_))
 cases hc:chk none l with
 |true=>rw[show chk (Bsa l 0) l=true from hc];exact Aqb (by rw[Wf])
 |false=>rw[show chk (Bsa l 0) l=false from hc];exact Aqb rfl
def Eka:∀ (p:Option ByteArray) (l:List Row),chk p l=true↔Be l∧(∀ r∈l,Kk r=true)∧(∀ q,p=some q→∀ r∈l,tlt q r.1=true)
 |p,[]=>by
  have:chk p []=true:=by cases p<;>rfl
  simp[this,Be]
 |none,r::l=>by
  simp only[chk,Va,Eka (some r.1) l,Be,Wd];constructor
  ·rintro⟨h1,h2,h3,h4⟩;exact⟨⟨λ a ha=>h4 _ rfl a ha,h2⟩,λ a ha=>by rcases Vk.1 ha with rfl|ha;exact h1;exact h3 a ha,λ q hq=>by cases hq⟩
  ·rintro⟨⟨h1,h2⟩,h3,_⟩;exact⟨h3 r (by simp),h2,λ a ha=>h3 a (Vd _ ha),λ q hq a ha=>by cases hq;exact h1 a ha⟩
 |some q,r::l=>by
  simp only[chk,Va,Eka (some r.1) l,Be,Wd];constructor
  ·rintro⟨h1,h0,h2,h3,h4⟩;refine⟨⟨λ a ha=>h4 _ rfl a ha,h2⟩,λ a ha=>by rcases Vk.1 ha with rfl|ha;exact h1;exact h3 a ha,λ q' hq a ha=>?_⟩;cases hq;rcases Vk.1 ha with rfl|ha
   ·exact h0
   ·exact I3 h0 (h4 _ rfl a ha)
  ·rintro⟨⟨h1,h2⟩,h3,h4⟩;exact⟨h3 r (by simp),h4 q rfl r (by simp),h2,λ a ha=>h3 a (Vd _ ha),λ q' hq a ha=>by cases hq;exact h1 a ha⟩
def Hp {l:List Row}:Hb l=true↔Be l∧(∀ r∈l,Kk r=true)∧l.length≤60:=by
 unfold Hb;simp only[Va,Eka,decide_eq_true_eq];constructor
 ·rintro⟨⟨h1,h2,_⟩,h3⟩;exact⟨h1,h2,by omega⟩
 ·rintro⟨h1,h2,h3⟩;exact⟨⟨h1,h2,λ q hq=>by cases hq⟩,by omega⟩
def Mb (a b:List Row):List Row:=b.foldl mrg a
def Xy {a b:List Row} {r:Row} (h:r∈Mb a b):r∈a∨r∈b:=by
 induction b generalizing a with
 |nil=>exact .inl h
 |cons x b ih=>
  rcases ih (a:=mrg a x) h with h|h
  ·rcases Mma h with rfl|h
   ·exact .inr (by simp)
   ·exact .inl h
  ·exact .inr (Vd _ h)
def Iw {a b:List Row} (h:Be a):Be (Mb a b):=by
 induction b generalizing a with
 |nil=>exact h
 |cons x b ih=>exact ih (Nm h)
def Xz (b:List Row) (hb:Few b):∀ (n i:Nat) (a:List Row),b.length-i=n→i≤b.length→a.length+(b.length-i)≤1000000000000→
  Tot (λ k=>Cm k a b (b.length:Int) (i:Int)) (λ r=>r=Mb a (b.drop i)):=by
 unfold Few at hb;intro n
 induction n with
 |zero=>
  intro i a hn hi hf;refine Tot.succ ?_;simp only[Cm];refine Avb (by omega) (Aqb ?_);rw[Yp (by omega)];rfl
 |succ n ih=>
  intro i a hn hi hf
  have hlt:i<b.length:=by omega
  refine Tot.succ ?_;simp only[Cm];refine Aub (by omega) (Aub (by omega) (Aub (by omega) ?_));rw[show toNat (i:Int)=i from Vm i,w64 (n:=(i:Int)+1) (by omega) (by omega),Co (d:=J3) hlt];refine B1b (Mla a (b.getD i J3) (by unfold Few;omega)) ?_;have:=Vfa a (b.getD i J3);exact ih (i+1) (mrg a (b.getD i J3)) (by omega) (by omega) (by omega)
def Ita (a b:List Row) (hf:a.length+b.length≤1000000000000):Tot (λ k=>Bt k a b) (λ r=>r=Mb a b):=by
 unfold Bt;refine Arb (B2b (Q:=λ r=>r=a) (Ph a (by unfold Few;omega)) rfl) ?_;rintro r rfl;refine Arb (Xz b (by unfold Few;omega) _ 0 r rfl (Vw _) (by omega)) ?_;rintro y rfl;rw[Yu];exact Aqb rfl
def Fl (l:List Row) (s:ByteArray):Option Row:=l.find? (λ r=>teq r.1 s)
def mx (a b:Row):Row:=bif Hk a b then b else a
def T7 (a b:Row):Hk a b=true↔a.2.1.1<b.2.1.1∨(a.2.1.1=b.2.1.1∧(a.2.1.2.1<b.2.1.2.1∨(a.2.1.2.1=b.2.1.2.1∧(a.2.1.2.2<b.2.1.2.2∨(a.2.1.2.2=b.2.1.2.2∧((a.2.2.1=false∧b.2.2.1=true)∨(a.2.2.1=b.2.2.1∧a.2.2.2<b.2.2.2))))))):=by
 unfold Hk
 cases hs:(!((a.2.1.1==b.2.1.1)&&((a.2.1.2.1==b.2.1.2.1)&&(a.2.1.2.2==b.2.1.2.2)))) with
 |true=>
  rw[cond_true,Ki]
  have hne:¬ (a.2.1.1=b.2.1.1∧a.2.1.2.1=b.2.1.2.1∧a.2.1.2.2=b.2.1.2.2):=by
   intro ⟨h1,h2,h3⟩;rw[h1,h2,h3]at hs;simp at hs
  omega
 |false=>
  rw[cond_false];simp only[Yg,Va,beq_iff_eq]at hs;obtain⟨h1,h2,h3⟩:=hs
  cases ha:a.2.2.1<;>cases hb:b.2.2.1<;>simp[h1,h2,h3]
def Oe {a b:Row} (h:Hk a b=true):Hk b a=false:=by
 cases hb:Hk b a
 ·rfl
 rw[T7]at h hb
 cases ha:a.2.2.1<;>cases hb':b.2.2.1<;>simp only[ha,hb']at h hb<;>simp at h hb<;>omega
def Mpa {a b:Row} (hn:a.1=b.1) (h:Hk a b=false) (h':Hk b a=false):a=b:=by
 have h1:¬ Hk a b=true:=by rw[h];decide
 have h2:¬ Hk b a=true:=by rw[h'];decide
 rw[T7]at h1 h2;obtain⟨n,⟨t,s,d⟩,e,z⟩:=a;obtain⟨n',⟨t',s',d'⟩,e',z'⟩:=b;simp only at hn h1 h2;subst hn
 have hd:e=e'∧t=t'∧s=s'∧d=d'∧z=z':=by
  cases e<;>cases e'<;>simp at h1 h2 ⊢ <;> omega
 obtain⟨rfl,rfl,rfl,rfl,rfl⟩:=hd;rfl
def Vga (a b:Row):mx (mx a b) b=mx a b:=by
 unfold mx
 cases h:Hk a b with
 |true=>
  have:Hk b b=false:=by
   cases hb:Hk b b with
   |false=>rfl
   |true=>have:=Oe hb;rw[hb]at this;cases this
  rw[cond_true,this];rfl
 |false=>rw[cond_false,h];rfl
def Ix {l:List Row} {s:ByteArray} {r:Row} (h:Fl l s=some r):r∈l∧r.1=s:=by
 unfold Fl at h;exact⟨Dgb h,C8.1 (List.find?_some (p:=λ r:Row=>teq r.1 s) h)⟩
def I4 {l:List Row} (hs:Be l) {r:Row} (h:r∈l):Fl l r.1=some r:=by
 induction l with
 |nil=>simp at h
 |cons a l ih=>
  unfold Be at hs;rw[Wd]at hs;unfold Fl;rw[C0b];rcases Vk.1 h with rfl|h
  ·rw[C8.2 rfl]
  ·have:teq a.1 r.1=false:=by
    cases ht:teq a.1 r.1
    ·rfl
    have h1:=hs.1 r h;rw[C8.1 ht,Eu]at h1;cases h1
   rw[this];exact ih hs.2 h
def T8:∀ {l m:List Row},Be l→Be m→(∀ s,Fl l s=Fl m s)→l=m
 |[],[],_,_,_=>rfl
 |[],b::m,_,hm,h=>by
  have:=I4 hm (r:=b) (by simp);rw[← h]at this;simp[Fl]at this
 |a::l,[],hl,_,h=>by
  have:=I4 hl (r:=a) (by simp);rw[h]at this;simp[Fl]at this
 |a::l,b::m,hl,hm,h=>by
  have hl':=hl;have hm':=hm;unfold Be at hl hm;rw[Wd]at hl hm;have ha:=I4 hl' (r:=a) (by simp);have hb:=I4 hm' (r:=b) (by simp);have ea:a∈b::m:=(Ix (by rw[← h];exact ha)).1;have eb:b∈a::l:=(Ix (by rw[h];exact hb)).1
  have hab:a=b:=by
   rcases Vk.1 ea with rfl|ea
   ·rfl
   ·rcases Vk.1 eb with rfl|eb
    ·rfl
    ·have h1:=hm.1 a ea;have h2:=hl.1 b eb;rw[Pg h1]at h2;cases h2
  subst hab;rw[T8 (l:=l) (m:=m) hl.2 hm.2 (λ s=>?_)];have hs:=h s;unfold Fl at hs ⊢;rw[C0b,C0b]at hs;cases ht:teq a.1 s
  ·rw[ht]at hs;exact hs
  have none:∀ (k:List Row),(∀ r∈k,tlt a.1 r.1=true)→k.find? (λ r=>teq r.1 s)=none:=by
   intro k hk;rw[List.find?_eq_none];intro r hr;rw[C8];intro e;have:=hk r hr;rw[e,← C8.1 ht,Eu]at this;cases this
  rw[none l hl.1,none m hm.1]
def Bta {l:List Row} {x:Row} (hs:Be l) (s:ByteArray):Fl (mrg l x) s=bif teq x.1 s then (match Fl l s with|some r=>some (mx r x)|none=>some x) else Fl l s:=by
 have hsm:=Nm (x:=x) hs
 have hget:∀ j (hj:j<l.length),l.getD j J3=l[j]:=λ j hj=>by rw[Vb,Vg hj];rfl
 cases ht:teq x.1 s with
 |true=>
  have hxs:=C8.1 ht;rw[cond_true];unfold mrg;split
  ·rename_i j hj;obtain⟨_,h2,h3⟩:=Nl l 0 j hj;rw[Cfb]at h3
   have hjl:j<l.length:=by omega
   have hname:(l.getD j J3).1=x.1:=C8.1 h3;have hmem:l.getD j J3∈l:=A3 hjl
   have hlk:Fl l s=some (l.getD j J3):=by rw[← hxs,← hname];exact I4 hs hmem
   rw[hlk];show Fl (bif Hk (l.getD j J3) x then l.set j x else l) s=some (mx (l.getD j J3) x);unfold mx;cases hb:Hk (l.getD j J3) x
   ·rw[cond_false];exact hlk
   rw[cond_true];have:x∈l.set j x:=List.mem_set hjl x
   have hsm':Be (l.set j x):=by
    have:=hsm;unfold mrg at this;rw[hj]at this;simp only[hb,cond_true]at this;exact this
   rw[← hxs];exact I4 hsm' this
  ·rename_i hj
   have hno:Fl l s=none:=by
    cases hl:Fl l s with
    |none=>rfl
    |some r=>
     obtain⟨h1,h2⟩:=Ix hl;exact(Qi l 0 hj r h1 (h2.trans hxs.symm)).elim
   rw[hno]
   have hx:x∈mrg l x:=by unfold mrg;rw[hj];simp
   have:=I4 hsm hx;unfold mrg at this;rw[hj]at this;rw[← hxs];exact this
 |false=>
  rw[cond_false]
  cases hl:Fl l s with
  |some r=>
   obtain⟨h1,h2⟩:=Ix hl
   have hr:r∈mrg l x:=by
    unfold mrg;split
    ·rename_i j hj;cases hb:Hk (l.getD j J3) x
     ·exact h1
     rw[cond_true];obtain⟨i,hi,e⟩:=Cab h1;obtain⟨_,q2,q3⟩:=Nl l 0 j hj;rw[Cfb]at q3
     have hij:i≠j:=by
      rintro rfl;rw[hget i hi,e]at q3;have:=C8.1 q3;rw[C8.2 (this.symm.trans h2)]at ht;cases ht
     rw[Yr];exact⟨i,by rw[Vu];exact hi,by rw[List.getElem_set_ne (C9b hij)];exact e⟩
    ·have:r∈l.take (Xu l x.1 l.length)++l.drop (Xu l x.1 l.length):=by rw[Wh];exact h1
     rcases Vl.1 this with h|h
     ·exact Vy _ h
     ·exact Vn _ (Vd _ h)
   rw[← h2];exact I4 hsm hr
  |none=>
   cases hm:Fl (mrg l x) s with
   |none=>rfl
   |some r=>
    exfalso;obtain⟨h1,h2⟩:=Ix hm;rcases Mma h1 with rfl|h1
    ·rw[C8.2 h2]at ht;cases ht
    ·have:=I4 hs h1;rw[h2,hl]at this;cases this
def cmb:Option Row→Option Row→Option Row
 |some a,some b=>some (mx a b)
 |some a,none=>some a
 |none,y=>y
def Qj {a b:List Row} (ha:Be a) (hb:Be b) (s:ByteArray):Fl (Mb a b) s=cmb (Fl a s) (Fl b s):=by
 induction b generalizing a with
 |nil=>show Fl a s=cmb (Fl a s) none;cases Fl a s<;>rfl
 |cons x b ih=>
  have hb':=hb;unfold Be at hb;rw[Wd]at hb;show Fl (Mb (mrg a x) b) s=_;rw[ih (Nm ha) hb.2,Bta ha s]
  have e:Fl (x::b) s=bif teq x.1 s then some x else Fl b s:=by
   unfold Fl;rw[C0b]
   cases teq x.1 s<;>rfl
  rw[e];cases ht:teq x.1 s
  ·rfl
  have hno:Fl b s=none:=by
   cases hl:Fl b s with
   |none=>rfl
   |some r=>
    obtain⟨h1,h2⟩:=Ix hl;have:=hb.1 r h1;rw[h2,← C8.1 ht,Eu]at this;cases this
  rw[hno]
  cases Fl a s<;>rfl
def V2 {l:List Row} {s:ByteArray}:∀ r,Fl l s=some r→r.1=s:=λ r h=>(Ix h).2
def Mqa {a b:List Row} (ha:Be a) (hb:Be b):Mb (Mb a b) b=Mb a b:=
 T8 (Iw (Iw ha)) (Iw ha) λ s=>by
  rw[Qj (Iw ha) hb,Qj ha hb]
  cases Fl a s<;>cases Fl b s<;>first|rfl|skip
  ·rename_i b;show some (mx b b)=some b;unfold mx;cases Hk b b<;>rfl
  ·rename_i a b;show some (mx (mx a b) b)=some (mx a b);rw[Vga]

end Go.Proofs.Ytcpligincipmhaa.Vf
