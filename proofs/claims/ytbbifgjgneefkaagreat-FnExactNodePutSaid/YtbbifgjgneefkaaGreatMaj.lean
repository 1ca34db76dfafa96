import Derived.Test.YtbbifgjgneefkaaGreatMai
import Derived.ChangeArms
import Derived.SizedLaws
import Derived.DataReads
import Derived.Laws.StructEq
import Derived.Below
set_option linter.all false
namespace Go.Proofs.YtbbifgjgneefkaaGreat.Vf
open Go
open List (length getD)
open Int (toNat)
open Go.IntKind (wrap)
open BitVec (ofInt)
def Yo:=@List.pairwise_cons
def Zp:=@List.all_eq_true
def Zu:=@List.pairwise_append
def Rya:=@Option.bind_eq_some_iff
def Rza:=@List.all_cons
def Sba:=@List.take_length
def Sra:=@List.pairwise_map
def Sta:=@Bool.and_true
def Sxa:=@List.getElem_mem
def T9a:=@Bool.and_assoc

section
attribute [local irreducible] C H
abbrev Gs:=Nat→Nat×Sv
def gup (g:Gs) (u:Up):Gs:=λ p=>if p=u.l then ((bif u.keep then (g u.l).1 else (g u.l).1+1),u.s) else g p
def Yy (g:Gs):List Up→Gs
 |[]=>g
 |u::U=>Yy (gup g u) U
def Lb:∀ (U:List Up) (A:Ab),get (ups A U)=Yy (get A) U
 |[],_=>rfl
 |u::U,A=>by
  show get (ups (up A u) U)=Yy (gup (get A) u) U;rw[Lb U (up A u)];congr 1;funext p;exact Py A u p
def Mu:∀ (U:List Up) (g:Gs) (p:Nat),p∉U.map Up.l→Yy g U p=g p
 |[],_,_,_=>rfl
 |u::U,g,p,h=>by
  simp only[Yd,Vk,not_or]at h;show Yy (gup g u) U p=g p;rw[Mu U _ p h.2];exact if_neg h.1
def Mv:∀ (U:List Up) (g g':Gs) (p:Nat),g p=g' p→Yy g U p=Yy g' U p
 |[],_,_,_,h=>h
 |u::U,g,g',p,h=>by
  refine Mv U (gup g u) (gup g' u) p ?_;unfold gup
  by_cases e:p=u.l
  ·subst e;rw[if_pos rfl,if_pos rfl,h]
  ·rw[if_neg e,if_neg e,h]
structure Ak where
 N:Gs→Prop
 e:Gs→Gs
def Ind (x y:Ak):Prop:=(∀ g,x.N g→y.N (x.e g)→y.N g)∧(∀ g,y.N g→x.N g→x.N (y.e g))∧(∀ g,x.N g→y.N g→x.e (y.e g)=y.e (x.e g))
def Kra:List Ak→Gs→Gs→Prop
 |[],g,f=>g=f
 |x::L,g,f=>x.N g∧Kra L (x.e g) f
def Kra.front {y:Ak} {L2:List Ak}:∀ {L1:List Ak} {g f:Gs},(∀ x∈L1,Ind x y)→Kra (L1++y::L2) g f→y.N g∧Kra (L1++L2) (y.e g) f
 |[],g,f,_,h=>h
 |x::L1,g,f,hi,h=>by
  obtain⟨h1,h2⟩:=h;obtain⟨h3,h4⟩:=Kra.front (λ z hz=>hi z (Vd _ hz)) h2;obtain⟨i1,i2,i3⟩:=hi x (by simp);have hy:=i1 g h1 h3;exact⟨hy,i2 g hy h1,by rw[i3 g h1 hy];exact h4⟩
inductive Anc (ops:Array Oper):Nat→Nat→Prop
 |dir {i j:Nat} {o:Oper} (h:ops[i]? = some o) (hj:j∈aft o):Anc ops j i
 |tr {i j k:Nat} {o:Oper} (h:ops[i]? = some o) (hk:k∈aft o) (ha:Anc ops j k):Anc ops j i
def G7a {o:Oper} {j:Nat}:j∈aft o↔∃ e∈o.after,Region.binds .any e=true∧e.on=j:=by
 unfold aft;rw[List.mem_filterMap];constructor
 ·rintro⟨e,he,h⟩;cases hb:Region.binds .any e
  ·rw[hb]at h;simp at h
  rw[hb]at h;simp only[cond_true,Vc]at h;exact⟨e,by simpa using he,hb,h⟩
 ·rintro⟨e,he,hb,h⟩;exact⟨e,by simpa using he,by rw[hb];simp[h]⟩
section
variable {X:Cx} {E:En} {ops:Array Oper} {Q:Exit→Act→World→Prop}
def Nha (X:Cx) (ops:Array Oper) (Q:Exit→Act→World→Prop) (i:Nat) (x:Ak):Prop:=
 ∀ (S:Sit) (a:Act) (A:Ab),Ah X S a→S.g=get A→x.N (get A)→∀ K:Act→World→Prop,(∀ S' a' A',Ah X S' a'→S'.g=get A'→get A'=x.e (get A)→K a' S'.w)→wpOp X.P ops Q i K a S.w
def D0a {listed:Array Bool} (hd:∀ i o,ops[i]? = some o→listed.getD i false=true→∀ j∈aft o,listed.getD j false=true) {i j:Nat} (h:Anc ops j i):listed.getD i false=true→listed.getD j false=true:=by
 induction h with
 |dir h hj=>exact λ hi=>hd _ _ h hi _ hj
 |tr h hk _ ih=>exact λ hi=>ih (hd _ _ h hi _ hk)
def Yz {listed:Array Bool} {i:Nat} (hi:i<listed.size):listed.getD i true=listed.getD i false:=by
 simp[Wk,hi]
def Ksa (hlt:∀ i o,ops[i]? = some o→∀ j∈aft o,j<i) {f:Gs} (hQ:∀ S a A,Ah X S a→S.g=get A→get A=f→Q .normal a S.w):
  ∀ (fuel:Nat) (L:List (Nat×Ak)) (listed:Array Bool) (S:Sit) (a:Act) (A:Ab),L.length=fuel→listed.size=ops.size→L.Pairwise (λ x y=>x.1<y.1)→(∀ i,i<ops.size→(listed.getD i false=false↔∃ x∈L,x.1=i))→
   L.Pairwise (λ x y=>Anc ops x.1 y.1∨Ind x.2 y.2)→(∀ x∈L,Nha X ops Q x.1 x.2)→(∀ x∈L,x.1<ops.size)→
   (∀ i o,ops[i]? = some o→listed.getD i false=true→∀ j∈aft o,listed.getD j false=true)→
   Ah X S a→S.g=get A→Kra (L.map Prod.snd) (get A) f→wpAny X.P .any ops Q fuel listed a S.w
 |0,L,listed,S,a,A,hlen,hsz,hs,hl,hi,ho,hb,hd,K,hg,hr=>by
  have:L=[]:=Xs hlen;subst this;refine⟨?_,hQ S a A K hg hr⟩;rw[List.eq_nil_iff_forall_not_mem];intro i hm;obtain⟨h1,o,h2,_⟩:=mem_ready.1 hm;have hlt2:i<ops.size:=(Yx.1 h2).1;rw[Yz (by omega)]at h1;obtain⟨x,hx,_⟩:=(hl i hlt2).1 h1;simp at hx
 |fuel+1,L,listed,S,a,A,hlen,hsz,hs,hl,hi,ho,hb,hd,K,hg,hr=>by
  cases L with
  |nil=>simp at hlen
  |cons x0 L0=>
   refine⟨λ h0=>?_,λ i hm=>?_⟩
   ·exfalso;have hx0:=hb x0 (by simp);obtain⟨o,h2⟩:∃ o,ops[x0.1]? = some o:=⟨_,Zs hx0⟩;have hu:=(hl x0.1 hx0).2 ⟨x0,by simp,rfl⟩
    have:x0.1∈Region.ready .any ops listed:=by
     refine mem_ready.2 ⟨by rw[Yz (by omega)];exact hu,o,h2,λ e he hbe=>?_⟩;have hj:=hlt _ _ h2 e.on (G7a.2 ⟨e,he,hbe,rfl⟩);cases hc:listed.getD e.on false
     case true=>rfl
     obtain⟨y,hy,hye⟩:=(hl e.on (by omega)).1 hc;rcases Vk.1 hy with rfl|hy
     ·omega
     ·have:=(Yo.1 hs).1 y hy;omega
    rw[h0]at this;simp at this
   ·obtain⟨h1,o,h2,h3⟩:=mem_ready.1 hm;have hil:i<ops.size:=(Yx.1 h2).1;rw[Yz (by omega)]at h1;obtain⟨y,hy,hyi⟩:=(hl i hil).1 h1;obtain⟨L1,L2,hL⟩:=List.append_of_mem hy
    have haft:∀ j∈aft o,listed.getD j false=true:=λ j hj=>by
     obtain⟨e,he,hbe,rfl⟩:=G7a.1 hj;exact h3 e he hbe
    have hanc:∀ j,Anc ops j i→listed.getD j false=true:=by
     intro j hj
     cases hj with
     |dir h hj=>rw[h2]at h;cases h;exact haft _ hj
     |tr h hk ha=>rw[h2]at h;cases h;exact D0a hd ha (haft _ hk)
    rw[hL]at hs hl hi ho hb hr hlen;rw[Zu]at hs hi;obtain⟨s1,s2,s3⟩:=hs;obtain⟨i1,i2,i3⟩:=hi;rw[Yo]at s2 i2
    have hind:∀ x∈L1,Ind x.2 y.2:=by
     intro x hx;rcases i3 x hx y (by simp) with h|h
     ·exfalso;have h4:=hanc x.1 (by rw[← hyi];exact h);have h5:=(hl x.1 (hb x (by simp[hx]))).2 ⟨x,by simp[hx],rfl⟩;rw[h4]at h5;cases h5
     ·exact h
    rw[Roa,Yd]at hr;obtain⟨hN,hr2⟩:=Kra.front (λ z hz=>by obtain⟨x,hx,rfl⟩:=Za.1 hz;exact hind x hx) hr;rw[← Roa]at hr2;subst hyi;refine ho y (by simp) S a A K hg hN _ (λ S' a' A' K' g' e'=>?_)
    refine Ksa hlt hQ fuel (L1++L2) (listed.setIfInBounds y.1 true) S' a' A' (by simp at hlen ⊢;omega) (by simpa using hsz) ?_ ?_ ?_ (λ x hx=>ho x (by rcases Vo.1 hx with h|h<;>simp[h])) (λ x hx=>hb x (by rcases Vo.1 hx with h|h<;>simp[h])) ?_ K' g' (by rw[e'];exact hr2)
    ·exact Zu.2 ⟨s1,s2.2,λ x hx z hz=>s3 x hx z (Vd _ hz)⟩
    ·intro k hk
     by_cases hky:k=y.1
     ·subst hky
      have e1:(listed.setIfInBounds y.1 true).getD y.1 false=true:=by simp[Wk,hsz,hk]
      rw[e1];constructor
      ·intro h;cases h
      ·rintro⟨x,hx,hxe⟩;exfalso;rcases Vo.1 hx with h|h
       ·have:=s3 x h y (by simp);omega
       ·have:=s2.1 x h;omega
     ·rw[getD_set_ne false (S5a hky),hl k hk];constructor
      ·rintro⟨x,hx,hxe⟩;refine⟨x,?_,hxe⟩;rcases Vo.1 hx with h|h
       ·exact Vt _ h
       ·rcases Vk.1 h with rfl|h
        ·exact(hky hxe.symm).elim
        ·exact Vi _ h
      ·rintro⟨x,hx,hxe⟩
       exact⟨x,by rcases Vo.1 hx with h|h<;>simp[h],hxe⟩
    ·exact Zu.2 ⟨i1,i2.2,λ x hx z hz=>i3 x hx z (Vd _ hz)⟩
    ·intro k o' hk hkl j hj
     by_cases hky:k=y.1
     ·subst hky;rw[h2]at hk;cases hk;exact getD_set_true (haft j hj)
     ·rw[getD_set_ne false (S5a hky)]at hkl;exact getD_set_true (hd k o' hk hkl j hj)
end
end

section
attribute [local irreducible] C H
def T4 {p:Nat}:∀ {l:List Nat},Nca p l=true↔p∈l
 |[]=>by simp[Nca]
 |q::l=>by
  simp only[Nca,Rna,Vk,T4 (l:=l)];constructor
  ·rintro (h|h)
   ·exact .inl (Vb h).symm
   ·exact .inr h
  ·rintro (rfl|h)
   ·exact .inl (by simp)
   ·exact .inr h
def T5 {m:List Nat}:∀ {l:List Nat},Nda l m=true↔∀ p∈l,p∉m
 |[]=>by simp[Nda]
 |q::l=>by
  simp only[Nda,Va,Wi,Vk,T5 (l:=l)];constructor
  ·rintro⟨h1,h2⟩ p (rfl|h) hm
   ·rw[T4.2 hm]at h1;cases h1
   ·exact h2 p h hm
  ·intro h;refine⟨?_,λ p hp=>h p (.inr hp)⟩
   cases hc:Nca q m with
   |false=>rfl
   |true=>exact(h q (.inl rfl) (T4.1 hc)).elim
def Mfa (s:Sv) (j:Nat):Sv:=match s with
 |.tup vs => .tup (vs.set j (false,[.dead]))
 |s=>s
structure Ext (x:Ak) (t j d:Nat):Prop where
 N:∃ ag l,∀ g,x.N g↔∃ vs,(g t).2 = .tup vs∧nth vs j=some (ag,l)
 e:d≠t→∃ (w:Bool) (s:Sv),∀ g p,x.e g p=if p=d then ((g p).1+1,s) else if w=true∧p=t then ((g p).1+1,Mfa (g p).2 j) else g p
structure T6 (y:Lg) (x:Ak):Prop where
 WF:∀ p∈y.W,p∈y.F
 N:∀ g g',(∀ p∈y.F,g p=g' p)→x.N g→x.N g'
 out:∀ g p,p∉y.W→x.e g p=g p
 loc:∀ g g' p,p∈y.W→g p=g' p→x.e g p=x.e g' p
 ex:∀ t j d,y.ex=some (t,j,d)→Ext x t j d
def T6.ind {y y':Lg} {x x':Ak} (h:T6 y x) (h':T6 y' x') (hi:Dxa y y'=true):Ind x x':=by
 unfold Dxa at hi;simp only[Rna,Va]at hi;rcases hi with⟨d1,d2⟩|hi
 ·have d1:=T5.1 d1;have d2:=T5.1 d2;have o1:∀ g,∀ p∈y'.F,x.e g p=g p:=λ g p hp=>h.out g p (λ hw=>d1 p hw hp);have o2:∀ g,∀ p∈y.F,x'.e g p=g p:=λ g p hp=>h'.out g p (λ hw=>d2 p hw hp);refine⟨λ g _ hn=>h'.N _ _ (o1 g) hn,λ g _ hn=>h.N _ _ (λ p hp=>(o2 g p hp).symm) hn,λ g _ _=>?_⟩;funext p
  by_cases hp:p∈y.W
  ·have hp':p∉y'.W:=λ hw=>d2 p hw (h.WF p hp);rw[h'.out (x.e g) p hp',h.loc (x'.e g) g p hp (o2 g p (h.WF p hp))]
  ·rw[h.out (x'.e g) p hp]
   by_cases hp':p∈y'.W
   ·exact h'.loc g (x.e g) p hp' (o1 g p (h'.WF p hp')).symm
   ·rw[h'.out _ p hp',h'.out _ p hp',h.out _ p hp]
 ·split at hi
  ·rename_i t j d t' j' d' e1 e2;simp only[Va,Wi]at hi;obtain⟨⟨⟨⟨q1,q2⟩,q3⟩,q4⟩,q5⟩:=hi;have ht:t=t':=Vb q1;subst ht
   have hj:j≠j':=λ e=>by subst e;simp at q2
   have hd:d≠d':=λ e=>by subst e;simp at q3
   have hdt:d≠t:=λ e=>by subst e;simp at q4
   have hdt':d'≠t:=λ e=>by subst e;simp at q5
   obtain⟨⟨ag,l,hN⟩,he⟩:=h.ex t j d e1;obtain⟨⟨ag',l',hN'⟩,he'⟩:=h'.ex t j' d' e2;obtain⟨w,s,he⟩:=he hdt;obtain⟨w',s',he'⟩:=he' hdt'
   have et:∀ g,(x.e g t).2=if w=true then Mfa (g t).2 j else (g t).2:=λ g=>by
    rw[he,if_neg (S5a hdt)]
    cases w<;>simp
   have et':∀ g,(x'.e g t).2=if w'=true then Mfa (g t).2 j' else (g t).2:=λ g=>by
    rw[he',if_neg (S5a hdt')]
    cases w'<;>simp
   refine⟨λ g hn hn'=>?_,λ g hn' hn=>?_,λ g hn hn'=>?_⟩
   ·obtain⟨vs,g1,g2⟩:=(hN g).1 hn;obtain⟨vs',g1',g2'⟩:=(hN' _).1 hn';refine(hN' g).2 ⟨vs,g1,?_⟩;rw[et,g1]at g1'
    cases w with
    |false=>
     simp only[Wd,if_false,Sv.tup.injEq]at g1';rw[g1'];exact g2'
    |true=>
     simp only[if_true,Mfa,Sv.tup.injEq]at g1';rw[← g1',Fy,List.getElem?_set_ne hj]at g2';rw[Fy];exact g2'
   ·obtain⟨vs,g1,g2⟩:=(hN g).1 hn;refine(hN _).2 ?_;cases w'
    ·exact⟨vs,by rw[et',g1];simp,g2⟩
    refine⟨vs.set j' (false,[.dead]),by rw[et',g1];simp[Mfa],?_⟩;rw[Fy,List.getElem?_set_ne (S5a hj),← Fy];exact g2
   ·funext p
    by_cases p1:p=d
    ·subst p1;simp[he,he',hd,hdt]
    ·by_cases p2:p=d'
     ·subst p2;simp[he,he',p1,hdt']
     ·by_cases p3:p=t
      ·subst p3;obtain⟨vs,g1,g2⟩:=(hN g).1 hn
       cases w<;>cases w'<;>simp[he,he',p1,p2,g1,Mfa]
       exact List.set_comm _ _ (S5a hj)
      ·simp[he,he',p1,p2,p3]
  ·cases hi
def Bfa {ops:Array Oper}:∀ {lg:List Lg},(∀ y∈lg,∀ k,Nat.testBit y.anc k=true→Anc ops k y.i)→∀ j k,Nat.testBit (Dya lg j) k=true→Anc ops k j
 |[],_,j,k,h=>by simp[Dya]at h
 |y::lg,hl,j,k,h=>by
  unfold Dya at h
  cases hb:Nat.beq y.i j with
  |true=>
   rw[hb,cond_true]at h;rw[← Vb hb];exact hl y (by simp) k h
  |false=>
   rw[hb,cond_false]at h;exact Bfa (λ z hz=>hl z (Vd _ hz)) j k h
def G8a {ops:Array Oper} {lg:List Lg} (hl:∀ y∈lg,∀ k,Nat.testBit y.anc k=true→Anc ops k y.i) {i:Nat} {o:Oper} (ho:ops[i]? = some o):∀ {l:List Nat},(∀ j∈l,j∈aft o)→∀ k,Nat.testBit (Kca lg l) k=true→Anc ops k i
 |[],_,k,h=>by simp[Kca]at h
 |j::l,hj,k,h=>by
  unfold Kca at h;simp only[Nat.testBit_or,Rna]at h;rcases h with (h|h)|h
  ·rw[Nat.testBit_two_pow]at h;simp only[decide_eq_true_eq]at h;subst h;exact .dir ho (hj _ (by simp))
  ·exact .tr ho (hj j (by simp)) (Bfa hl j k h)
  ·exact G8a hl ho (λ m hm=>hj m (Vd _ hm)) k h
section
variable {X:Cx} {E:En} {ops:Array Oper} {Q:Exit→Act→World→Prop}
def Bga {S:Sit} {a:Act} (hE:Gx X E) (hK:Ah X S a) {o:Oper} {j dj:Nat} {want:Bool} (hgd:o.guard=some (j,want)) (hdj:Dwa ops.toList j=some dj) (hb:Nat.blt dj E.nt=true):
  (∀ b,(S.g dj).2 = .one (.sc (.bool b))→Region.wanted o (yielded ops a.tmps)=(b==want))∧((S.g dj).2 = .one .un→Region.wanted o (yielded ops a.tmps)=false):=by
 have hdj':(ops[j]?).bind (·.dst)=some dj:=by
  unfold Dwa at hdj;rw[Fy]at hdj
  have:ops.toList[j]? = ops[j]? := by simp
  rw[this]at hdj
  cases hj:ops[j]? with
  |none=>rw[hj]at hdj;cases hdj
  |some oj=>rw[hj]at hdj;simpa using hdj
 have hjl:dj<X.nt:=hE.nt ▸ (Ve hb:dj+1≤E.nt)
 have htm:a.tmps[dj]? = some (S.ph dj):=by
  have h1:=hK.sl dj hjl
  have h2:dj<a.tmps.size:=by rw[hK.sz];exact hjl
  rw[← h1,Wk,Zs h2];rfl
 have hy:yielded ops a.tmps j=(match S.ph dj with | .bool b=>some b|_=>none):=by
  unfold yielded;rw[hdj',Vv,htm]
  cases S.ph dj<;>rfl
 have hwd:Region.wanted o (yielded ops a.tmps)=((match S.ph dj with | .bool b=>some b|_=>none)==some want):=by
  unfold Region.wanted;rw[hgd];simp only;rw[hy]
 have hat:=hK.at_ dj;constructor
 ·intro b hs;rw[hs]at hat;have hph:S.ph dj = .bool b:=hat.1;rw[hwd,hph]
  cases b<;>cases want<;>rfl
 ·intro hs;rw[hs]at hat;have hph:S.ph dj=undef:=hat;rw[hwd,hph];simp[undef]
def Psa (F:List Nat) (A:Ab) (U:List Up):Ak:=⟨λ g=>∀ p∈F,g p=get A p,λ g=>Yy g U⟩
def G9a {y:Lg} {A:Ab} {U:List Up} {F:List Nat} (hF:y.F=F++U.map Up.l) (hW:y.W=U.map Up.l) (hex:y.ex=none):T6 y (Psa y.F A U):=by
 refine⟨λ p hp=>?_,λ g g' h hn p hp=>by rw[← h p hp];exact hn p hp,λ g p hp=>Mu U g p (by rw[← hW];exact hp),λ g g' p _ h=>Mv U g g' p h,λ t j d h=>by rw[hex]at h;cases h⟩;rw[hF,Vo];exact .inr (by rw[← hW];exact hp)
def Oha (hV:Pv X E) {i:Nat} {o:Oper} (hi:ops[i]? = some o) (hd:Tt E o=true) {x:Ak} (hw:∀ S a,Ah X S a→x.N S.g→Region.wanted o (yielded ops a.tmps)=true)
  (hU:∀ A',x.N (get A')→∃ U,Ai E o A' some=some U∧Yy (get A') U=x.e (get A')):Nha X ops Q i x:=by
 intro S a A' K hg hn Kn hk
 have hdl:∀ d,o.dst=some d→d<X.nt:=λ d hod=>by
  unfold Tt at hd;rw[hod]at hd;exact hV.en.nt ▸ (Ve hd:d+1≤E.nt)
 obtain⟨U,hU1,hU2⟩:=hU A' hn;obtain⟨U',hU',hgo⟩:=F8a hV K hg hdl hU1;simp only[Vc]at hU';subst hU';unfold wpOp;rw[hi];simp only;rw[if_pos (hw S a K (by rw[hg];exact hn))];exact .inl (hgo _ _ (λ S' a' K' g'=>hk S' a' _ K' g' ((Lb U' A').trans hU2)))
def Mga (hV:Pv X E) {i:Nat} {o:Oper} (hi:ops[i]? = some o) (hd:Tt E o=true) {N:Gs→Prop} (hw:∀ S a,Ah X S a→N S.g→Region.wanted o (yielded ops a.tmps)=false):
  Nha X ops Q i ⟨N,λ g=>Yy g (match o.dst with|some d=>[⟨d,false,.one .un⟩]|none=>[])⟩:=by
 intro S a A' K hg hn Kn hk;unfold wpOp;rw[hi];simp only;rw[if_neg (by rw[hw S a K (by rw[hg];exact hn)];decide)];obtain⟨S',K',g',w'⟩:=Kna hV.en K hg hd;rw[← w'];refine hk S' _ _ K' g' ?_;unfold Ma
 cases o.dst with
 |none=>rfl
 |some d=>exact Lb [⟨d,false,.one .un⟩] A'
def Bha (t j d:Nat) (l:List Lf) (s:Sv) (vs:List (Bool×List Lf)):List Up:=bif Db l then [⟨t,false,.tup (vs.set j (false,[.dead]))⟩,⟨d,false,s⟩] else [⟨d,false,s⟩]
def J9a {R:Type} {Kc:List Up→Option R} {r:R} {A:Ab} {o:Oper} {t j d:Nat} (ho:o.op = .extract (.tmp t) j) (hod:o.dst=some d) (h:Ai E o A Kc=some r):
  ∃ vs ag l s,(get A t).2 = .tup vs∧nth vs j=some (ag,l)∧Kc (Bha t j d l s vs)=some r∧∀ A' vs',(get A' t).2 = .tup vs'→nth vs' j=some (ag,l)→Ai E o A' some=some (Bha t j d l s vs'):=by
 unfold Ai at h;rw[ho,hod]at h;simp only at h;cases hb:Nat.blt t E.nt
 ·rw[hb]at h;simp at h
 rw[hb,cond_true]at h;split at h
 ·rename_i vs hg;split at h
  ·rename_i ag l hn;split at h
   ·rename_i s hs;refine⟨vs,ag,l,s,hg,hn,?_,λ A' vs' hg' hn'=>?_⟩
    ·rw[← h];unfold Bha
     cases Db l<;>rfl
    ·unfold Ai;rw[ho,hod];simp only[hb,cond_true,hg',hn',hs];unfold Bha
     cases Db l<;>rfl
   ·cases h
  ·cases h
 ·cases h
def Z0 (t j d:Nat) (ag:Bool) (l:List Lf) (s:Sv):Ak:=
 ⟨λ g=>∃ vs,(g t).2 = .tup vs∧nth vs j=some (ag,l),λ g=>Yy g (bif Db l then [⟨t,false,Mfa (g t).2 j⟩,⟨d,false,s⟩] else [⟨d,false,s⟩])⟩
def Jaa {o:Oper} {i:Nat} {lg:List Lg} {A:Ab} {t j d:Nat} {ag:Bool} {l:List Lf} {s:Sv} {vs:List (Bool×List Lf)} (ho:o.op = .extract (.tmp t) j) (hod:o.dst=some d):
  T6 (Qy o i lg [] A (Bha t j d l s vs)) (Z0 t j d ag l s):=by
 have ht:t∈(Qy o i lg [] A (Bha t j d l s vs)).F:=by
  show t∈[]++rds A o++_;simp[rds,Nba,ho,Gt,Hra,rdO]
 have hW:(Qy o i lg [] A (Bha t j d l s vs)).W=bif Db l then [t,d] else [d]:=by
  show (Bha t j d l s vs).map Up.l=_;unfold Bha
  cases Db l<;>rfl
 refine⟨λ p hp=>Vi _ hp,λ g g' hF hn=>?_,λ g p hp=>?_,λ g g' p hp h=>?_,λ t' j' d' h=>?_⟩
 ·obtain⟨vs',h1,h2⟩:=hn;exact⟨vs',by rw[← hF t ht];exact h1,h2⟩
 ·rw[hW]at hp;unfold Z0
  cases hl:Db l with
  |true=>
   rw[hl]at hp;exact Mu _ _ _ hp
  |false=>
   rw[hl]at hp;exact Mu _ _ _ hp
 ·rw[hW]at hp;unfold Z0;cases hl:Db l
  ·exact Mv _ _ _ p h
  rw[hl]at hp;simp only[cond_true];show gup (gup g _) _ p=gup (gup g' _) _ p;unfold gup
  by_cases e1:p=d
  ·subst e1
   by_cases e2:p=t
   ·subst e2;simp[h]
   ·simp[e2,h]
  ·rcases Vk.1 hp with e2|e2
   ·subst e2;simp[e1,h]
   ·exact(e1 (by simpa using e2)).elim
 ·have hex:(Qy o i lg [] A (Bha t j d l s vs)).ex=some (t,j,d):=by
   show (bif List.isEmpty ([]:List Nat) then Noa o else none)=_;simp[Noa,ho,hod]
  rw[hex]at h;cases h;refine⟨⟨ag,l,λ g=>Sma⟩,λ hdt=>⟨Db l,s,λ g p=>?_⟩⟩;unfold Z0
  cases hl:Db l with
  |false=>
   show gup g _ p=_;unfold gup
   by_cases e1:p=d
   ·subst e1;simp
   ·simp[e1]
  |true=>
   simp only[cond_true];show gup (gup g _) _ p=_;unfold gup
   by_cases e1:p=d
   ·subst e1;simp[hdt]
   ·simp[e1]
    by_cases e2:p=t
    ·subst e2;simp
    ·simp[e2]
end
end

section
attribute [local irreducible] C H
section
variable {X:Cx} {E:En} {ops:Array Oper} {Q:Exit→Act→World→Prop}
structure Kta (X:Cx) (ops:Array Oper) (Q:Exit→Act→World→Prop) (l:List Nat) (lg:List Lg) (g:Gs) (f:Gs) (L:List (Lg×Ak)):Prop where
 ix:L.map (λ z=>z.1.i)=l
 runs:Kra (L.map Prod.snd) g f
 fits:∀ z∈L,T6 z.1 z.2∧Nha X ops Q z.1.i z.2
 old:∀ y∈lg,∀ z∈L,Nat.testBit z.1.anc y.i=true∨Dxa y z.1=true
 pair:L.Pairwise (λ y z=>Nat.testBit z.1.anc y.1.i=true∨Dxa y.1 z.1=true)
 anc:∀ z∈L,∀ k,Nat.testBit z.1.anc k=true→Anc ops k z.1.i
 lt:∀ i∈l,∃ o,ops[i]? = some o∧∀ j∈aft o,j<i
def Kta.cons {l:List Nat} {lg:List Lg} {g g1 f:Gs} {L:List (Lg×Ak)} {y:Lg} {x:Ak} {i:Nat} (h:Kta X ops Q l (y::lg) g1 f L) (hi:y.i=i) (hn:x.N g) (he:x.e g=g1) (hf:T6 y x) (ho:Nha X ops Q i x) (hok:Dza lg y=true)
  (ha:∀ k,Nat.testBit y.anc k=true→Anc ops k i) (hl:∃ o,ops[i]? = some o∧∀ j∈aft o,j<i):Kta X ops Q (i::l) lg g f ((y,x)::L):=by
 refine⟨by simp[hi,h.ix],⟨hn,by rw[he];exact h.runs⟩,?_,?_,?_,?_,?_⟩
 ·intro z hz;rcases Vk.1 hz with rfl|hz
  ·exact⟨hf,by rw[hi];exact ho⟩
  ·exact h.fits z hz
 ·intro y' hy' z hz;rcases Vk.1 hz with rfl|hz
  ·unfold Dza at hok;rw[Zp]at hok;have:=hok y' hy'
   simpa using this
  ·exact h.old y' (Vd _ hy') z hz
 ·exact Yo.2 ⟨λ z hz=>h.old y (by simp) z hz,h.pair⟩
 ·intro z hz k hk;rcases Vk.1 hz with rfl|hz
  ·rw[hi];exact ha k hk
  ·exact h.anc z hz k hk
 ·intro j hj;rcases Vk.1 hj with rfl|hj
  ·exact hl
  ·exact h.lt j hj
def Bia (hV:Pv X E) {R:Type}:∀ (l:List Nat) (lg:List Lg) (A:Ab) (K:Ab→Option R) (r:R),(∀ y∈lg,∀ k,Nat.testBit y.anc k=true→Anc ops k y.i)→Gf E ops.toList l lg A K=some r→
  ∃ (L:List (Lg×Ak)) (A':Ab),K A'=some r∧Kta X ops Q l lg (get A) (get A') L
 |[],lg,A,K,r,_,h=>⟨[],A,h,rfl,rfl,by simp,by simp,.nil,by simp,by simp⟩
 |i::l,lg,A,K,r,hlg,h=>by
  unfold Gf at h;rw[Fy]at h;split at h
  ·cases h
  ·rename_i o ho
   have hi:ops[i]? = some o:=by simpa using ho
   obtain⟨hb0,h⟩:=cs h;simp only[Va,Zp]at hb0;obtain⟨hd,hlt0⟩:=hb0
   have hlt:∃ o,ops[i]? = some o∧∀ j∈aft o,j<i:=⟨o,hi,λ j hj=>by
    have:=hlt0 j hj
    exact Ve this⟩
   have hanc:∀ k,Nat.testBit (Kca lg (aft o)) k=true→Anc ops k i:=G8a hlg hi (λ j hj=>hj)
   have next:∀ {y:Lg} {x:Ak} {A1:Ab},y.i=i→y.anc=Kca lg (aft o)→x.N (get A)→x.e (get A)=get A1→T6 y x→Nha X ops Q i x→Dza lg y=true→Gf E ops.toList l (y::lg) A1 K=some r→
     ∃ (L:List (Lg×Ak)) (A':Ab),K A'=some r∧Kta X ops Q (i::l) lg (get A) (get A') L:=by
    intro y x A1 e1 e2 hn he hf hop hok hev
    obtain⟨L,A',h1,h2⟩:=Bia hV l (y::lg) A1 K r (λ z hz k hk=>by
     rcases Vk.1 hz with rfl|hz
     ·rw[e1];exact hanc k (by rw[← e2];exact hk)
     ·exact hlg z hz k hk) hev
    exact⟨_,A',h1,h2.cons e1 hn he hf hop hok (by rw[e2];exact hanc) hlt⟩
   have cnd:∀ {b:Bool} {z:Option R},(bif b then z else none)=some r→b=true∧z=some r:=by
    intro b z hz
    cases b with
    |false=>simp at hz
    |true=>exact⟨rfl,hz⟩
   have exec:∀ (B:Ab) (gd:List Nat),get B=get A→(∀ S a,Ah X S a→(∀ p∈gd,S.g p=get A p)→Region.wanted o (yielded ops a.tmps)=true)→
     Ai E o B (λ U=>bif Dza lg (Qy o i lg gd B U) then Gf E ops.toList l (Qy o i lg gd B U::lg) (ups B U) K else none)=some r→
     ∃ (L:List (Lg×Ak)) (A':Ab),K A'=some r∧Kta X ops Q (i::l) lg (get A) (get A') L:=by
    intro B gd hBA hw hs
    have generic:(Qy o i lg gd B [] ).ex=none→∃ (L:List (Lg×Ak)) (A':Ab),K A'=some r∧Kta X ops Q (i::l) lg (get A) (get A') L:=by
     intro hex;obtain⟨U,h1,h2⟩:=J8a (F:=rds B o) (λ p hp=>hp) hd.2 hs;obtain⟨hok,hev⟩:=cnd h1;have hfit:T6 (Qy o i lg gd B U) (Psa (Qy o i lg gd B U).F B U):=G9a (F:=gd++rds B o) rfl rfl hex;refine next (y:=Qy o i lg gd B U) (x:=Psa (Qy o i lg gd B U).F B U) (A1:=ups B U) rfl rfl (λ p _=>by rw[hBA]) ?_ hfit ?_ hok hev
     ·show Yy (get A) U=_;rw[Lb,hBA]
     ·refine Oha hV hi hd.1 (λ S a hS hN=>hw S a hS (λ p hp=>?_)) (λ A' hN=>⟨U,?_,rfl⟩)
      ·rw[← hBA];exact hN p (by show p∈gd++rds B o++_;simp[hp])
      ·exact h2 A' (λ p hp=>hN p (by show p∈gd++rds B o++_;simp[hp])) some
    cases hgd:gd with
    |cons p0 gd'=>subst hgd;exact generic (by simp[Qy])
    |nil=>
     subst hgd
     cases hexo:Noa o with
     |none=>exact generic (by simp[Qy,hexo])
     |some q=>
      obtain⟨t,j,d⟩:=q
      have:o.op = .extract (.tmp t) j∧o.dst=some d:=by
       unfold Noa at hexo;split at hexo
       ·rename_i e1 e2;cases hexo;exact⟨e1,e2⟩
       ·cases hexo
      obtain⟨hop,hod⟩:=this;obtain⟨vs,ag,lf,s,hg,hn,h1,h2⟩:=J9a hop hod hs;obtain⟨hok,hev⟩:=cnd h1
      have hex:∀ A' vs',(get A' t).2 = .tup vs'→Yy (get A') (Bha t j d lf s vs')=(Z0 t j d ag lf s).e (get A'):=by
       intro A' vs' hv;unfold Bha Z0;simp only;rw[hv];rfl
      refine next (y:=Qy o i lg [] B (Bha t j d lf s vs)) (x:=Z0 t j d ag lf s) (A1:=ups B (Bha t j d lf s vs)) rfl rfl ⟨vs,by rw[← hBA];exact hg,hn⟩ ?_ (Jaa hop hod) ?_ hok hev
      ·rw[← hBA,Lb];exact(hex B vs hg).symm
      ·refine Oha hV hi hd.1 (λ S a hS _=>hw S a hS (by simp)) (λ A' hN=>?_);obtain⟨vs',g1,g2⟩:=hN;exact⟨_,h2 A' vs' g1 g2,hex A' vs' g1⟩
   have skip:∀ (B:Ab) (dj:Nat),get B=get A→(∀ S a,Ah X S a→S.g dj=get A dj→Region.wanted o (yielded ops a.tmps)=false)→
     (bif Dza lg (Mb o i lg [dj]) then Gf E ops.toList l (Mb o i lg [dj]::lg) (Ma o B) K else none)=some r→
     ∃ (L:List (Lg×Ak)) (A':Ab),K A'=some r∧Kta X ops Q (i::l) lg (get A) (get A') L:=by
    intro B dj hBA hw hs;obtain⟨hok,hev⟩:=cnd hs
    have hsk:Yy (get A) (match o.dst with|some d=>[⟨d,false,.one .un⟩]|none=>[])=get (Ma o B):=by
     unfold Ma
     cases o.dst with
     |none=>exact hBA.symm
     |some d=>rw[← hBA];exact(Lb [⟨d,false,.one .un⟩] B).symm
    refine next (y:=Mb o i lg [dj]) (x:=⟨λ g=>g dj=get A dj,λ g=>Yy g (match o.dst with|some d=>[⟨d,false,.one .un⟩]|none=>[])⟩) (A1:=Ma o B) rfl rfl rfl hsk ?_ (Mga hV hi hd.1 (λ S a hS hN=>hw S a hS hN)) hok hev
    have hmap:(match o.dst with|some d=>[(⟨d,false,.one .un⟩:Up)]|none=>[]).map Up.l=o.dst.toList:=by cases o.dst<;>rfl
    refine⟨λ p hp=>Vi _ hp,λ g g' h hn=>by show g' dj=get A dj;rw[← h dj (by show dj∈[dj]++_;simp)];exact hn,λ g p hp=>Mu _ g p (by rw[hmap];exact hp),λ g g' p _ h=>Mv _ g g' p h,λ t j d h=>by cases h⟩
   split at h
   ·rename_i hgd;exact exec A [] rfl (λ S a _ _=>by unfold Region.wanted;rw[hgd]) h
   ·rename_i j want hgd;split at h
    ·cases h
    ·rename_i dj hdj;obtain⟨hb,h⟩:=cs h;split at h
     ·rename_i n b hgt;have hwant:∀ (S:Sit) (a:Act),Ah X S a→S.g dj=get A dj→Region.wanted o (yielded ops a.tmps)=(b==want):=λ S a hS hs=>(Bga hV.en hS hgd hdj hb).1 b (by rw[hs,hgt])
      cases b with
      |true=>
       rw[cond_true]at h
       cases want with
       |true=>
        rw[cond_true]at h;exact exec (lit A dj n true) [dj] (Pw hgt) (λ S a hS hs=>hwant S a hS (hs dj (by simp))) h
       |false=>
        rw[cond_false]at h;exact skip (lit A dj n true) dj (Pw hgt) (λ S a hS hs=>hwant S a hS hs) h
      |false=>
       rw[cond_false]at h
       cases want with
       |true=>
        rw[cond_true]at h;exact skip (lit A dj n false) dj (Pw hgt) (λ S a hS hs=>hwant S a hS hs) h
       |false=>
        rw[cond_false]at h;exact exec (lit A dj n false) [dj] (Pw hgt) (λ S a hS hs=>hwant S a hS (hs dj (by simp))) h
     ·rename_i n hgt;exact skip A dj rfl (λ S a hS hs=>(Bga hV.en hS hgd hdj hb).2 (by rw[hs,hgt])) h
     ·cases h
def Mha (hV:Pv X E) (hm:X.P.follows .mixedOrders=true):Uq X E:=by
 intro R id ops Q S a A K r hK hg h hQ;refine wp_region_any hm ?_;obtain⟨L,A',hA',T⟩:=Bia (X:=X) (ops:=ops) (Q:=Q) hV _ [] A K r (by simp) h
 have hlen:L.length=ops.size:=by
  have:=congrArg length T.ix
  simpa using this
 have hmem:∀ z∈L,z.1.i<ops.size:=by
  intro z hz;have:z.1.i∈L.map (λ z=>z.1.i):=Yp hz;rw[T.ix]at this
  simpa using this
 have K2:=(hK.world (w' := { S.w with drawn:=S.w.drawn+1 }) (O':=S.O) (λ k _ _=>⟨rfl,rfl⟩) rfl rfl rfl (Vq _) hK.lt).1;refine Ksa (X:=X) (f:=get A') ?_ (λ S' a' A2 K' g' e'=>hQ S' a' A' K' (by rw[g',e']) hA') ops.size (L.map λ z=>(z.1.i,z.2)) _ (Og S { S.w with drawn:=S.w.drawn+1 } S.O) a A (by simp[hlen]) (by simp) ?_ ?_ ?_ ?_ ?_ ?_ K2 hg ?_
 ·intro i o hi j hj;have hil:i<ops.size:=(Yx.1 hi).1;obtain⟨o',h1,h2⟩:=T.lt i (by simpa using hil);rw[hi]at h1;cases h1;exact h2 j hj
 ·rw[Sra]
  have hp:(L.map (λ z=>z.1.i)).Pairwise (· < ·):=by rw[T.ix];exact List.pairwise_lt_range
  rw[Sra]at hp;exact hp
 ·intro i hi;constructor
  ·intro _
   have:i∈L.map (λ z=>z.1.i):=by rw[T.ix];simpa using hi
   obtain⟨z,hz,hzi⟩:=Za.1 this;exact⟨(z.1.i,z.2),Yp hz,hzi⟩
  ·intro _;simp[Wk,hi]
 ·rw[Sra];refine List.Pairwise.imp_of_mem ?_ T.pair;intro y z hy hz h;rcases h with h|h
  ·exact .inl (T.anc z hz _ h)
  ·exact .inr ((T.fits y hy).1.ind (T.fits z hz).1 h)
 ·intro x hx;obtain⟨z,hz,rfl⟩:=Za.1 hx;exact(T.fits z hz).2
 ·intro x hx;obtain⟨z,hz,rfl⟩:=Za.1 hx;exact hmem z hz
 ·intro i o hi hl;have hil:i<ops.size:=(Yx.1 hi).1;simp[Wk,hil]at hl
 ·have:(L.map λ z=>(z.1.i,z.2)).map Prod.snd=L.map Prod.snd:=by simp
  rw[this];exact T.runs
end
end

section
attribute [local irreducible] C H
def Ty.fit (ti:TypeId→Option TI):(t:Ty)→t.den→Prop
 |.i k,n=>(Lit.int k n).wf=true
 |.b,_=>True
 |.s,x=>x.size≤140737488351232
 |.sl e r,xs=>(∀ te,ti e=some te→xs.length*te.by_≤140737488351232)∧∀ x∈xs,r.fit ti x
 |.ow e r,xs=>(∀ te,ti e=some te→xs.length*te.by_≤140737488351232)∧∀ x∈xs,r.fit ti x
 |.pr x y,p=>x.fit ti p.1∧y.fit ti p.2
def Oia (ti:TypeId→Option TI) (T:TypeId) (ty:Ty):Bool:=match ti T with
 |some t=>decide (t.ty=ty)
 |none=>false
def Ns (ti:TypeId→Option TI):List Field→Nat→Ty→Bool
 |[],_,_=>false
 |[f],o,ty=>Nat.beq f.offset o&&Oia ti f.type ty
 |f::g::fs,o,.pr x y=>Nat.beq f.offset o&&Oia ti f.type x&&Ns ti (g::fs) (o+x.sz) y
 |_,_,_=>false
def Mw (P:Program) (ti:TypeId→Option TI) (T:TypeId):Bool:=match ti T,P.underlying T with
 |none,_=>true
 |some t,some (.struct fs)=>t.ag&&Ns ti fs.toList 0 t.ty
 |some ⟨.sl e r,false,_,_⟩,some (.slice e')=>Nat.beq e e'&&Oia ti e r
 |some ⟨.i k,false,_,_⟩,some (.int k')=>decide (k=k')
 |some ⟨.b,false,_,_⟩,some .bool=>true
 |some ⟨.s,false,_,_⟩,some .string=>true
 |_,_=>false
section
variable {H':Type} {enc:TypeId×Value→H'} {P:Program} {w:World} {base:Nat} {spare:Nat→Bool} {held:Bool} {ti:TypeId→Option TI}
def Kq {T:TypeId} {ty:Ty} (h:Oia ti T ty=true):∃ t,ti T=some t∧t.ty=ty:=by
 unfold Oia at h;split at h
 ·rename_i t ht;exact⟨t,ht,of_decide_eq_true h⟩
 ·cases h
def Mx {T:TypeId} {t:TI} (h:TOk P T t):P.cellsOf T=t.ty.sz:=by
 unfold Program.cellsOf;rw[Ky h];rfl
def Gaa {T:TypeId} {t:TI} (h:TOk P T t):P.bytesOf T=t.by_:=by
 obtain⟨i,h1,_,h2,_⟩:=h.info;unfold Program.bytesOf;rw[h1];exact h2
def Gba {α:Type} {R:α→List Value→Prop} {Fit:α→Prop} {k o n:Nat}:∀ (len:Nat),(∀ i,i<len→∃ x c,R x c∧Fit x∧c.length=n∧Ck w k (o+i*n) c)→
  ∃ (xs:List α) (cs:List Value),xs.length=len∧Rows R xs cs∧(∀ x∈xs,Fit x)∧cs.length=len*n∧Ck w k o cs
 |0,_=>⟨[],[],rfl,rfl,by simp,by simp,by intro j u hj;simp at hj⟩
 |len+1,h=>by
  obtain⟨xs,cs,h1,h2,h3,h4,h5⟩:=Gba len (λ i hi=>h i (by omega));obtain⟨x,c,g1,g2,g3,g4⟩:=h len (by omega);refine⟨xs++[x],cs++c,by simp[h1],Rows.append h2 ⟨c,[],by simp,g1,rfl⟩,?_,?_,?_⟩
  ·intro y hy;rcases Vo.1 hy with hy|hy
   ·exact h3 y hy
   ·simp at hy;subst hy;exact g2
  ·rw[Vh,h4,g3,Yh,Ym]
  ·intro j u hj
   by_cases hlt:j<cs.length
   ·rw[Yg hlt]at hj;exact h5 j u hj
   ·rw[Ye (by omega)]at hj;have:=g4 (j-cs.length) u hj;rw[h4]at this hlt;rwa [show o+len*n+(j-len*n)=o+j by omega]at this
def Jba {a:Addr} {n:Nat} {cs:List Value} (h:w.cells? base a n=some cs) (hn:0<n):a.spot=none∧a.block<w.heap.size∧cs.length=n∧Ck w a.block a.off cs:=by
 unfold World.cells? at h;split at h
 ·have hl:=mapM_some_length h;have hg:=λ i hi=>mapM_some_get h i i hi;simp only[List.length_range]at hl;have h0:w.cell? (a.add 0)=cs[0]? := hg 0 (by simp[hn]);have hc0:∃ v,cs[0]? = some v:=⟨_,Vs (by omega)⟩;obtain⟨v,hv⟩:=hc0;rw[hv]at h0
  have hspot:a.spot=none∧a.block<w.heap.size:=by
   unfold World.cell? at h0;split at h0
   ·rename_i c e f hb;refine⟨?_,(Yx.1 hb).1⟩
    cases hs:a.spot with
    |none=>rfl
    |some s=>simp[Addr.add,hs]at h0
   ·cases h0
  refine⟨hspot.1,hspot.2,hl,λ j u hj=>?_⟩
  have hjl:j<n:=by have:=(Wh.1 hj).1;omega
  have:=hg j (by simp[hjl]);rw[hj]at this;obtain⟨b,off,sp⟩:=a;have hsp:sp=none:=hspot.1;subst hsp;rw[Hx]at this;exact this
 ·cases h
def Q5 {T:TypeId}:∀ {ds:List (DataW H')} {m:Nat},m∈DataW.weightsAll P T ds↔∃ d∈ds,m∈d.weights P T
 |[],m=>by simp[DataW.weightsAll]
 |d::ds,m=>by
  simp only[DataW.weightsAll,Vo,Vk,Q5 (ds:=ds)];constructor
  ·rintro (h|⟨d',h1,h2⟩)
   ·exact⟨d,.inl rfl,h⟩
   ·exact⟨d',.inr h1,h2⟩
  ·rintro⟨d',rfl|h1,h2⟩
   ·exact .inl h2
   ·exact .inr ⟨d',h1,h2⟩
def Oja (enc:TypeId×Value→H') (P:Program) (w:World) (base:Nat) (spare:Nat→Bool) (held:Bool) (ti:TypeId→Option TI) (n:Nat):Prop:=
 ∀ T t cs y,ti T=some t→DataW.trod enc P w base spare held n T cs=some y→(∀ m∈y.1.weights P T,m≤140737488351232)→∃ X:t.ty.den,t.ty.rep P (λ k=>k<w.heap.size) w X cs∧t.ty.fit ti X
def Q6 (htok:∀ T t,ti T=some t→TOk P T t) {n:Nat} (ih:Oja enc P w base spare held ti n) {cs:List Value}:∀ (fs:List Field) (o:Nat) (ty:Ty) (xs:List (DataW H'×List MemPlace)),Ns ti fs o ty=true→xs.length=fs.length→
  (∀ (i:Nat) (f:Field),fs[i]? = some f→DataW.trod enc P w base spare held n f.type ((cs.drop f.offset).take (P.cellsOf f.type))=xs[i]?)→(∀ m∈DataW.weightsEach P (fs.map (·.type)) (xs.map (·.1)),m≤140737488351232)→o+ty.sz≤cs.length→
  ∃ X:ty.den,ty.rep P (λ k=>k<w.heap.size) w X ((cs.drop o).take ty.sz)∧ty.fit ti X
 |[],o,ty,xs,hp,_,_,_,_=>by cases ty<;>simp[Ns]at hp
 |[f],o,ty,xs,hp,hl,ht,hw,hs=>by
  simp only[Ns,Va]at hp;obtain⟨t,h1,h2⟩:=Kq hp.2;have ho:f.offset=o:=Vb hp.1;subst h2;have e:=ht 0 f rfl
  cases xs with
  |nil=>simp at hl
  |cons y xs=>
   have e':DataW.trod enc P w base spare held n f.type ((cs.drop f.offset).take (P.cellsOf f.type))=some y:=by simpa using e
   rw[Mx (htok _ _ h1),ho]at e';exact ih f.type t _ y h1 e' (λ m hm=>hw m (by simp[DataW.weightsEach,hm]))
 |f::g::fs,o,ty,xs,hp,hl,ht,hw,hs=>by
  cases ty<;>first|(simp[Ns]at hp;done)|skip
  rename_i x y;simp only[Ns,Va]at hp;obtain⟨⟨h0,h1a⟩,hp⟩:=hp;obtain⟨t,h1,h2⟩:=Kq h1a;have ho:f.offset=o:=Vb h0;subst h2;have e:=ht 0 f rfl
  cases xs with
  |nil=>simp at hl
  |cons z xs=>
   have e':DataW.trod enc P w base spare held n f.type ((cs.drop f.offset).take (P.cellsOf f.type))=some z:=by simpa using e
   rw[Mx (htok _ _ h1),ho]at e';have hsz:o+(t.ty.sz+y.sz)≤cs.length:=hs;obtain⟨X,r1,f1⟩:=ih f.type t _ z h1 e' (λ m hm=>hw m (by simp[DataW.weightsEach,hm]))
   obtain⟨Y,r2,f2⟩:=Q6 htok ih (g::fs) (o+t.ty.sz) y xs hp (by simpa using hl) (λ i f' hf'=>by have:=ht (i+1) f' hf';simpa using this) (λ m hm=>hw m (by
    simp only[Yd,DataW.weightsEach,Vo]
    exact .inr hm)) (by omega)
   refine⟨(X,Y),⟨_,_,?_,r1,r2⟩,f1,f2⟩;show (cs.drop o).take (t.ty.sz+y.sz)=_;rw[List.take_add,Wp]
def T7 (htok:∀ T t,ti T=some t→TOk P T t) (hcl:∀ T,Mw P ti T=true):∀ n,Oja enc P w base spare held ti n
 |0=>by
  intro T t cs y _ h;simp[DataW.trod]at h
 |n+1=>by
  intro T t cs y hT h hw;have hc:=hcl T;have hk:=htok T t hT;unfold Mw at hc;rw[hT]at hc;split at hc
  ·rename_i e;cases e
  ·-- a struct
   rename_i t0 fs e1 hu;cases e1;simp only[Va]at hc;obtain⟨xs,n',e1,rfl,hl,hxl,hx⟩:=DataW.trod_struct hu h
   have:n'=n:=by omega
   subst this;rw[Mx hk]at hl;have hw':∀ m∈DataW.weightsEach P (fs.toList.map (·.type)) (xs.map (·.1)),m≤140737488351232:=λ m hm=>hw m (by simp only[DataW.weights,hu];exact hm);obtain⟨X,r,f⟩:=Q6 htok (T7 htok hcl n') fs.toList 0 t.ty xs hc.2 (by simpa using hxl) (λ i f hf=>hx i f (by simpa using hf)) hw' (by omega);rw[We,← hl,Sba]at r;exact⟨X,r,f⟩
  ·-- a slice
   rename_i e r by_ fo e' e1 hu;cases e1;simp only[Va]at hc;obtain⟨te,hte,hty⟩:=Kq hc.2;have he:e=e':=Vb hc.1;subst he;subst hty;have hke:=htok e te hte;have hsz:Pd P e te.ty.sz:=Ky hke;rcases DataW.trod_slice hu h with⟨rfl,rfl⟩|⟨a,len,cap,elems,rest,n',e1,rfl,rfl,hb,hl,hm,hlen,hel,hsp,hns⟩
   ·exact⟨[],⟨_,rfl,hsz,none,0,[],rfl,Vq _,rfl,λ h=>(h rfl).elim⟩,by simp,by simp⟩
   ·have:n'=n:=by omega
    subst this
    have hlw:(elems.map (·.1)).length+(rest.map (·.1)).length=elems.length+rest.length:=by simp
    have hw0:(elems.length+rest.length)*P.bytesOf e≤140737488351232:=hw _ (by simp only[DataW.weights,hu];simp);rw[Gaa hke]at hw0;rw[Mx hke]at hel;have hpos:=Jx te.ty
    have each:∀ i,i<len→∃ x c,te.ty.rep P (λ k=>k<w.heap.size) w x c∧te.ty.fit ti x∧c.length=te.ty.sz∧((i=0→a.spot=none)∧a.block<w.heap.size)∧Ck w a.block (a.off+i*te.ty.sz) c:=by
     intro i hi;have e1:=hel i hi;rw[Vs (by omega)]at e1;simp only[Rya]at e1;obtain⟨c,hc1,hc2⟩:=e1;obtain⟨g1,g2,g3,g4⟩:=Jba hc1 hpos
     obtain⟨X,r1,f1⟩:=T7 htok hcl n' e te c _ hte hc2 (λ m hm=>hw m (by
      simp only[DataW.weights,hu,Vk,Vo]
      exact .inr (.inl (Q5.2 ⟨_,Yp (Sxa (l:=elems) (n:=i) (by omega)),hm⟩))))
     have hblk:(a.add (i*te.ty.sz)).block=a.block∧(a.add (i*te.ty.sz)).off=a.off+i*te.ty.sz:=by
      unfold Addr.add;split
      ·rename_i h0;exact⟨rfl,by omega⟩
      ·exact⟨rfl,rfl⟩
     rw[hblk.1,hblk.2]at g4;rw[hblk.1]at g2;refine⟨X,c,r1,f1,g3,⟨λ h0=>?_,g2⟩,g4⟩;subst h0;rw[Zh]at g1;exact g1
    obtain⟨xs,cs,h1,h2,h3,h4,h5⟩:=Gba (w:=w) (k:=a.block) (o:=a.off) (n:=te.ty.sz) (R:=λ x c=>te.ty.rep P (λ k=>k<w.heap.size) w x c) (Fit:=te.ty.fit ti) len (λ i hi=>by
     obtain⟨x,c,q1,q2,q3,q4,q5⟩:=each i hi
     exact⟨x,c,q1,q2,q3,q5⟩)
    refine⟨xs,⟨_,rfl,hsz,some a,cap,cs,by rw[h1],by omega,h2,λ hne=>?_⟩,λ te' ht'=>?_,h3⟩
    ·have hpos:0<len:=by rw[← h1];cases xs with|nil=>exact(hne rfl).elim|cons=>simp
     obtain⟨x,c,q1,q2,q3,q4,q5⟩:=each 0 hpos;refine⟨a.block,a.off,?_,q4.2,h5⟩;obtain⟨b,off,sp⟩:=a;have hsp:sp=none:=q4.1 rfl;rw[hsp]
    ·rw[hte]at ht';cases ht';rw[h1,← hlen];exact Yq (Wa _ (Nat.le_add_right _ _)) hw0
  ·rename_i k by_ fo k' e1 hu;cases e1;have:k=k':=of_decide_eq_true hc;subst this;obtain⟨m,rfl,rfl,hwf⟩:=DataW.trod_int hu h;exact⟨m,rfl,hwf⟩
  ·rename_i by_ fo e1 hu;cases e1;obtain⟨b,rfl,rfl⟩:=DataW.trod_bool hu h;exact⟨b,rfl,trivial⟩
  ·rename_i by_ fo e1 hu;cases e1;obtain⟨s,rfl,rfl,hs⟩:=DataW.trod_string hu h;refine⟨s,rfl,?_⟩;have:=hw s.data.toList.length (by rw[show (DataW.lit (.string s.data.toList):DataW H').weights P T=[s.data.toList.length] from by simp only[DataW.weights]];exact Vz.2 rfl);have e:s.data.toList.length=s.size:=Yi;rw[e]at this;exact this
  ·cases hc
end
end

section
attribute [local irreducible] C H
def eq1:Lf→Lf→Option Bool
 |.sc (.int k x),.sc (.int k' y)=>if k=k' then some (x==y) else none
 |.sc (.bool x),.sc (.bool y)=>some (x==y)
 |.sc (.string x),.sc (.string y)=>some (x==y)
 |_,_=>none
def Jca (a a':Lf) (l l':List Lf) {b:Bool} (h:C9 (a::l) (a'::l')=some b):∃ b1 b2,eq1 a a'=some b1∧C9 l l'=some b2∧b=(b1&&b2):=by
 unfold C9 at h;split at h
 ·rename_i e _;cases e
 ·rename_i k x k' y e1 e2;cases e1;cases e2
  by_cases hk:k=k'
  ·simp only[hk,decide_true,cond_true,Vc]at h;exact⟨x==y,true,by simp only[eq1,hk,if_true],rfl,by simp[h]⟩
  ·simp[hk]at h
 ·rename_i x y e1 e2;cases e1;cases e2;simp only[Vc]at h;exact⟨_,true,rfl,rfl,by simp[h]⟩
 ·rename_i x y e1 e2;cases e1;cases e2;simp only[Vc]at h;exact⟨_,true,rfl,rfl,by simp[h]⟩
 ·rename_i k x l k' y l' _ e1 e2;cases e1;cases e2
  by_cases hk:k=k'
  ·simp only[hk,decide_true,cond_true]at h;split at h
   ·rename_i b2 hb;simp only[Vc]at h;exact⟨_,b2,by simp only[eq1,hk,if_true],hb,h.symm⟩
   ·cases h
  ·simp[hk]at h
 ·rename_i x l y l' _ e1 e2;cases e1;cases e2;split at h
  ·rename_i b2 hb;simp only[Vc]at h;exact⟨_,b2,rfl,hb,h.symm⟩
  ·cases h
 ·rename_i x l y l' _ e1 e2;cases e1;cases e2;split at h
  ·rename_i b2 hb;simp only[Vc]at h;exact⟨_,b2,rfl,hb,h.symm⟩
  ·cases h
 ·cases h
def Rg:∀ (l m l' m':List Lf) (b:Bool),l.length=l'.length→C9 (l++m) (l'++m')=some b→∃ b1 b2,C9 l l'=some b1∧C9 m m'=some b2∧b=(b1&&b2)
 |[],m,[],m',b,_,h=>⟨true,b,rfl,h,by simp⟩
 |[],_,_::_,_,_,hl,_=>by simp at hl
 |_::_,_,[],_,_,hl,_=>by simp at hl
 |a::l,m,a'::l',m',b,hl,h=>by
  obtain⟨b1,b2,h1,h2,rfl⟩:=Jca a a' (l++m) (l'++m') h;obtain⟨b3,b4,h3,h4,rfl⟩:=Rg l m l' m' b2 (by simpa using hl) h2;refine⟨b1&&b3,b4,?_,h4,by simp[T9a]⟩
  cases a with
  |sc u=>
   cases a' with
   |sc u'=>
    cases u<;>first|(simp[eq1]at h1;done)|skip
    all_goals (cases u'<;>first|(simp[eq1]at h1;done)|skip)
    ·rename_i x y;simp only[eq1,Vc]at h1
     cases l<;>cases l'<;>first|(simp at hl;done)|skip
     ·simp only[C9,Vc]at h3;simp only[C9];rw[← h3,← h1,Sta]
     ·simp only[C9,h3];rw[← h1]
    ·rename_i k x k' y;simp only[eq1]at h1
     by_cases hk:k=k'
     ·rw[if_pos hk]at h1;simp only[Vc]at h1
      cases l<;>cases l'<;>first|(simp at hl;done)|skip
      ·simp only[C9,Vc]at h3;simp only[C9,hk,decide_true,cond_true];rw[← h3,← h1,Sta]
      ·simp only[C9,hk,decide_true,cond_true,h3];rw[← h1]
     ·rw[if_neg hk]at h1;cases h1
    ·rename_i x y;simp only[eq1,Vc]at h1
     cases l<;>cases l'<;>first|(simp at hl;done)|skip
     ·simp only[C9,Vc]at h3;simp only[C9];rw[← h3,← h1,Sta]
     ·simp only[C9,h3];rw[← h1]
   |_=>cases u<;>simp[eq1]at h1
  |_=>simp[eq1]at h1
def eqB (P:Program) (ti:TypeId→Option TI):Nat→TypeId→Bool
 |0,_=>false
 |n+1,T=>match ti T,P.underlying T with
  |some t,some (.struct fs)=>t.ag&&!(P.stoodInHeld T)&&Ns ti fs.toList 0 t.ty&&fs.toList.all (λ f => !(f.name == "_")&&eqB P ti n f.type)
  |some ⟨.i _,false,_,_⟩,some (.int _)=>true
  |some ⟨.b,false,_,_⟩,some .bool=>true
  |some ⟨.s,false,_,_⟩,some .string=>true
  |_,_=>false
section
variable {P:Program} {ti:TypeId→Option TI} {G:Nat→Prop} {w:World}
def Oka (P:Program) (ti:TypeId→Option TI) (G:Nat→Prop) (w:World) (n:Nat):Prop:=
 ∀ T t d (X Y:t.ty.den) (us vs:List Value) (x y:Value) (b:Bool) (w':World),n≤d→eqB P ti n T=true→ti T=some t→Hw (Ha P G w) (A4 t.ty X) us→Hw (Ha P G w) (A4 t.ty Y) vs→C9 (A4 t.ty X) (A4 t.ty Y)=some b→
  (if t.ag then x = .agg us.toArray else us=[x])→(if t.ag then y = .agg vs.toArray else vs=[y])→(Op.equalIn d T x y).run P w' = .ok b w'
def Oz {T:TypeId} {t:TI} (hk:TOk P T t) {us:List Value} {off:Nat} (hl:off+t.ty.sz≤us.length) (w':World):
  ∃ u,(part T us.toArray off).run P w' = .ok u w'∧(if t.ag then u = .agg ((us.drop off).take t.ty.sz).toArray else (us.drop off).take t.ty.sz=[u]):=by
 obtain⟨d,hd,hagg⟩:=Xj hk
 cases ha:t.ag with
 |true=>
  rw[ha]at hagg;refine⟨.agg (us.toArray.extract off (off+t.ty.sz)),?_,?_⟩
  ·unfold part;simp only[Vx,Jh hd hagg,Vw,if_true,Hb (Ky hk),Wn]
  ·simp only[if_true];congr 1;apply Sqa;rw[Array.toList_extract];simp[List.extract]
 |false=>
  rw[ha]at hagg;have h1:=Eha hk ha
  have hlt:off<us.length:=by omega
  refine⟨us[off],?_,?_⟩
  ·unfold part;simp only[Vx,Jh hd hagg,Vw,Wd,if_false]
   have:us.toArray[off]? = some us[off]:=by simp[hlt]
   rw[this];rfl
  ·simp only[Wd,if_false];rw[h1,Yj hlt];rfl
def V2 (htok:∀ T t,ti T=some t→TOk P T t) {n:Nat} (ih:Oka P ti G w n) {d:Nat} (hd:n≤d) {us vs:List Value} (w':World):
  ∀ (fs:List Field) (o:Nat) (ty:Ty) (X Y:ty.den) (b:Bool),Ns ti fs o ty=true→fs.all (λ f => !(f.name == "_")&&eqB P ti n f.type)=true→o+ty.sz≤us.length→o+ty.sz≤vs.length→
   Hw (Ha P G w) (A4 ty X) ((us.drop o).take ty.sz)→Hw (Ha P G w) (A4 ty Y) ((vs.drop o).take ty.sz)→
   C9 (A4 ty X) (A4 ty Y)=some b→(Op.eqFields d us.toArray vs.toArray fs).run P w' = .ok b w'
 |[],o,ty,X,Y,b,hp,_,_,_,_,_,_=>by cases ty<;>simp[Ns]at hp
 |[f],o,ty,X,Y,b,hp,ha,hl,hl',h0,h0',he=>by
  simp only[Ns,Va]at hp;simp only[Rza,Va,Wi,beq_eq_false_iff_ne]at ha;obtain⟨⟨a1,a2⟩,_⟩:=ha;obtain⟨t,h1,h2⟩:=Kq hp.2;have ho:f.offset=o:=Vb hp.1;subst h2;subst ho;obtain⟨x,hx1,hx2⟩:=Oz (htok _ _ h1) hl w';obtain⟨y,hy1,hy2⟩:=Oz (htok _ _ h1) hl' w';have hr:=ih f.type t d X Y _ _ x y b w' hd a2 h1 h0 h0' he hx2 hy2;simp only[Op.eqFields,ne_eq,a1,not_false_eq_true,if_true,Vx,hx1,hy1,hr,Vw]
  cases b<;>rfl
 |f::g::fs,o,ty,X,Y,b,hp,ha,hl,hl',h0,h0',he=>by
  cases ty<;>first|(simp[Ns]at hp;done)|skip
  rename_i tx tyy;simp only[Ns,Va]at hp;obtain⟨⟨q0,q1⟩,hp⟩:=hp;rw[Rza,Va]at ha;obtain⟨ha0,ha⟩:=ha;simp only[Va,Wi,beq_eq_false_iff_ne]at ha0;obtain⟨a1,a2⟩:=ha0;obtain⟨t,h1,h2⟩:=Kq q1;have ho:f.offset=o:=Vb q0;subst h2;subst ho;have hl2:f.offset+(t.ty.sz+tyy.sz)≤us.length:=hl;have hl2':f.offset+(t.ty.sz+tyy.sz)≤vs.length:=hl';have he2:C9 (A4 t.ty X.1++A4 tyy X.2) (A4 t.ty Y.1++A4 tyy Y.2)=some b:=he;have r0:Hw (Ha P G w) (A4 t.ty X.1++A4 tyy X.2) ((us.drop f.offset).take (t.ty.sz+tyy.sz)):=h0;have r0':Hw (Ha P G w) (A4 t.ty Y.1++A4 tyy Y.2) ((vs.drop f.offset).take (t.ty.sz+tyy.sz)):=h0';have k1:=r0.take t.ty.sz;have k2:=r0.drop t.ty.sz;have k1':=r0'.take t.ty.sz;have k2':=r0'.drop t.ty.sz;have c1:=Ev t.ty X.1;have c1':=Ev t.ty Y.1;rw[← c1,Rpa,c1,Zm,Zf (by omega)]at k1;rw[← c1',Rpa,c1',Zm,Zf (by omega)]at k1'
  have c2:∀ l:List Value,List.drop t.ty.sz (List.take (t.ty.sz+tyy.sz) l)=List.take tyy.sz (List.drop t.ty.sz l):=λ l=>by rw[S8a];congr 1;omega
  rw[c2,Wp]at k2 k2';rw[show List.drop t.ty.sz (A4 t.ty X.1++A4 tyy X.2)=A4 tyy X.2 by rw[← c1,Yw]]at k2;rw[show List.drop t.ty.sz (A4 t.ty Y.1++A4 tyy Y.2)=A4 tyy Y.2 by rw[← c1',Yw]]at k2';obtain⟨b1,b2,e1,e2,rfl⟩:=Rg _ _ _ _ b (by rw[c1,c1']) he2;obtain⟨x,hx1,hx2⟩:=Oz (htok _ _ h1) (us:=us) (off:=f.offset) (by omega) w';obtain⟨y,hy1,hy2⟩:=Oz (htok _ _ h1) (us:=vs) (off:=f.offset) (by omega) w';have hr:=ih f.type t d X.1 Y.1 _ _ x y b1 w' hd a2 h1 k1 k1' e1 hx2 hy2;have hr2:=V2 htok ih hd w' (g::fs) (f.offset+t.ty.sz) tyy X.2 Y.2 b2 hp ha (by omega) (by omega) k2 k2' e2;rw[Op.eqFields];simp only[ne_eq,a1,not_false_eq_true,if_true,Vx,hx1,hy1,hr,Vw];cases b1
  ·rfl
  ·simpa using hr2
def Kua (htok:∀ T t,ti T=some t→TOk P T t):∀ n,Oka P ti G w n
 |0=>by
  intro T t d X Y us vs x y b w' _ h;simp[eqB]at h
 |n+1=>by
  intro T t d X Y us vs x y b w' hd h hT hl hl' he hx hy;obtain⟨d,rfl⟩:∃ m,d=m+1:=⟨d-1,by omega⟩
  have one:∀ {us:List Value} {x:Value} {z:Lf},us=[x]→Hw (Ha P G w) [z] us→Ha P G w z x:=by
   intro us x z e h;subst e
   cases h with
   |cons a h=>exact a
  unfold eqB at h;rw[hT]at h;split at h
  ·rename_i t0 fs e1 hu;cases e1;simp only[Va,Wi]at h;obtain⟨⟨⟨h1,h2⟩,h3⟩,h4⟩:=h;rw[h1]at hx hy;simp only[if_true]at hx hy;subst hx hy
   have hfs:P.fieldsOf T=fs:=by unfold Program.fieldsOf;rw[hu]
   rw[run_equalIn_struct w' d T _ _ (by rw[hfs];exact hu) h2,hfs];have e1:=hl.len;have e2:=hl'.len;rw[Ev]at e1 e2;exact V2 htok (Kua htok n) (by omega) w' fs.toList 0 t.ty X Y b h3 h4 (by omega) (by omega) (by rw[We,← e1,Sba];exact hl) (by rw[We,← e2,Sba];exact hl') he
  ·rename_i k by_ fo k' e1 hu;cases e1;simp only[Wd,if_false]at hx hy;have hz:=(one hx hl).1;have hz':=(one hy hl').1;subst hz hz'
   have he':(X==Y)=b:=by simpa[A4,C9] using he
   rw[← he'];simp[Op.equalIn,run_underlying hu]
  ·rename_i by_ fo e1 hu;cases e1;simp only[Wd,if_false]at hx hy;have hz:=(one hx hl).1;have hz':=(one hy hl').1;subst hz hz'
   have he':(X==Y)=b:=by simpa[A4,C9] using he
   rw[← he'];simp[Op.equalIn,run_underlying hu]
  ·rename_i by_ fo e1 hu;cases e1;simp only[Wd,if_false]at hx hy;have hz:=(one hx hl).1;have hz':=(one hy hl').1;subst hz hz'
   have he':(X==Y)=b:=by simpa[A4,C9] using he
   rw[← he'];simp[Op.equalIn,run_underlying hu]
  ·cases h
end
def Ola:∀ (t:Ty) (l l':List Lf) (x:t.den),K6 l=true→mkT t l=some (x,l')→l=A4 t x++l'∧K6 l'=true:=by
 intro t
 induction t with
 |pr p q ihp ihq=>
  intro l l' x h hm;simp only[mkT]at hm;split at hm
  ·rename_i y l1 h1;split at hm
   ·rename_i z l2 h2;cases hm;obtain⟨e1,a1⟩:=ihp _ _ _ h h1;obtain⟨e2,a2⟩:=ihq _ _ _ a1 h2;refine⟨?_,a2⟩;rw[e1,e2,← Vj];rfl
   ·cases hm
  ·cases hm
 |_=>
  intro l l' x h hm
  cases l with
  |nil=>simp[mkT]at hm
  |cons z l=>
   cases z<;>first|(simp[K6]at h;done)|skip
   rename_i v
   cases v<;>first|(simp[mkT]at hm;done)|skip
   all_goals
    simp only[K6]at h;simp only[mkT]at hm
    first
     |(simp only[Vc,Vu]at hm;obtain⟨rfl,rfl⟩:=hm;exact⟨rfl,h⟩)
     |(
       rename_i k k' n
       by_cases hk:k=k'
       ·subst hk;simp only[decide_true,cond_true,Vc,Vu]at hm;obtain⟨rfl,rfl⟩:=hm;exact⟨rfl,h⟩
       ·simp[hk]at hm)
def Pta {P:Program} {ti:TypeId→Option TI} (htok:∀ T t,ti T=some t→TOk P T t) {T:TypeId} (h:eqB P ti 9 T=true) (hag:(match ti T with|some t=>t.ag|none=>false)=true) (hg:P.eqGuardType P.depth T=false) (G:Nat→Prop) (w w':World) (x y:Operand) (l l':List Lf) (us vs:List Value) (b:Bool)
  (h1:Hw (Ha P G w) l us) (h2:Hw (Ha P G w) l' vs) (he:C9 l l'=some b) (ha:K6 l=true) (ha':K6 l'=true) (hk:Jc (ti T) l=true) (hk':Jc (ti T) l'=true):
  (Op.equal T (.agg us.toArray) (.agg vs.toArray)).run P w' = .ok b w'∧(eqGuard .eql T x y (.agg us.toArray) (.agg vs.toArray)).run P w' = .ok () w'∧(eqGuard .neq T x y (.agg us.toArray) (.agg vs.toArray)).run P w' = .ok () w':=by
 refine⟨?_,run_eqGuard_agg w' _ T x y _ _ hg,run_eqGuard_agg w' _ T x y _ _ hg⟩;unfold Jc at hk hk';split at hk
 ·rename_i t hT;rw[hT]at hk' hag;simp only at hk' hag
  have key:∀ {l:List Lf},K6 l=true→(mkW t.ty l).isSome=true→∃ X,l=A4 t.ty X:=by
   intro l ha hk;obtain⟨X,hX⟩:=Rta.1 hk;unfold mkW at hX;split at hX
   ·rename_i z hz;cases hX;obtain⟨e1,_⟩:=Ola t.ty l [] _ ha hz;exact⟨_,by rw[e1,Yf]⟩
   ·cases hX
  obtain⟨X,rfl⟩:=key ha hk;obtain⟨Y,rfl⟩:=key ha' hk';exact Kua htok 9 T t Op.maxDepth X Y us vs _ _ b w' (by decide) h hT h1 h2 he (by rw[hag];rfl) (by rw[hag];rfl)
 ·cases hk
end

section
open Go.RowKit
attribute [local irreducible] C H
def H4:Code→List Code
 |.seq a b=>H4 a++H4 b
 |.cond _ a b=>H4 a++H4 b
 |.block _ c=>H4 c
 |.loop c=>[c]
 |_=>[]
def Gca {X:Cx} {E:En}:∀ (c:Code),(∀ d∈H4 c,∀ L,E.lp (first d)=some L→Uo X L d)→Ih X E c:=by
 intro c
 induction c with
 |seq a b iha ihb=>exact λ h=>⟨iha λ d hd=>h d (Vt _ hd),ihb λ d hd=>h d (Vi _ hd)⟩
 |cond x a b iha ihb=>exact λ h=>⟨iha λ d hd=>h d (Vt _ hd),ihb λ d hd=>h d (Vi _ hd)⟩
 |block i c ih=>exact λ h=>ih h
 |loop c ih=>exact λ h=>h c (by simp[H4])
 |_=>exact λ h=>trivial
def Jda {X:Cx} {E:En} {c b:Code} (ids:List Nat) (h1:H4 c=ids.map λ l=>Ga l b) (h2:(ids.map λ l=>first (Ga l b))=ids) (h3:∀ l∈ids,∀ L,E.lp l=some L→Uo X L (Ga l b)):Ih X E c:=by
 refine Gca c λ d hd L hL=>?_;rw[h1]at hd;obtain⟨l,hl,rfl⟩:=Za.1 hd
 have:first (Ga l b)=l:=by
  have key:∀ (is:List Nat),(is.map λ l=>first (Ga l b))=is→∀ l∈is,first (Ga l b)=l:=by
   intro is
   induction is with
   |nil=>intro _ l hl;simp at hl
   |cons i is ih=>
    intro e l hl;simp only[Yd,Wq]at e;rcases Vk.1 hl with rfl|hl
    ·exact e.1
    ·exact ih e.2 l hl
  exact key ids h2 l hl
 rw[this]at hL;exact h3 l hl L hL
def Oma {P:Program} {X:Cx} {E:En} {ti:TypeId→Option TI} {eqs:TypeId→Bool} (hP:X.P=P) (h1:E.nt=X.nt) (h2:E.np=X.np) (h3:E.ti=ti) (h4:E.eq=eqs) (htok:∀ T t,ti T=some t→TOk P T t)
  (heq:∀ T,eqs T=true→eqB P ti 9 T=true∧(match ti T with|some t=>t.ag|none=>false)=true∧P.eqGuardType P.depth T=false) (hc:∀ f en,E.call f=some en→Iq P f en):Pv X E:=by
 refine⟨⟨h1,h2,λ T t h=>?_,λ T h G w w' x y l l' us vs b=>?_⟩,λ f en h=>?_⟩
 ·rw[hP];rw[h3]at h;exact htok T t h
 ·rw[hP,h3];rw[h4]at h;obtain⟨e1,e2,e3⟩:=heq T h;exact Pta htok e1 e2 e3 G w w' x y l l' us vs b
 ·rw[hP];exact hc f en h
def Mia {t:Ty} : {ts:List Ty}→t.den→Den ts→Den (t::ts)
 |[],x,_=>x
 |_::_,x,y=>(x,y)
def V3 {t:Ty} {ts:List Ty} {x:t.den} {y:Den ts}:Av (t::ts) (Mia x y)=A4 t x::Av ts y:=by
 cases ts<;>rfl
inductive Gda (P:Program) (w:World):(ps:List Par)→Den (ps.map Par.ty)→List Value→Prop
 |nil:Gda P w [] () []
 |cons {ag:Bool} {t:Ty} {ps:List Par} {X:t.den} {Y:Den (ps.map Par.ty)} {u:Value} {us vs:List Value} (hn:Hh t=true) (hu:if ag then u = .agg vs.toArray else vs=[u])
   (hr:t.rep P (λ k=>k<w.heap.size) w X vs) (h:Gda P w ps Y us):Gda P w (.val ag t::ps) (Mia (t:=t) (ts:=ps.map Par.ty) X Y) (u::us)
def Jea (w:World):Nat→Lab:=λ k=>if k<w.heap.size then .fz else .no
def Jfa {P:Program} {w:World}:∀ {ps:List Par} {x:Den (ps.map Par.ty)} {us:List Value},Gda P w ps x us→us.length=ps.length:=by
 intro ps x us h
 induction h with
 |nil=>rfl
 |cons _ _ _ _ ih=>simp[ih]
def Gea {P:Program} {w:World} {rg:Nat→Nat×Nat} {nv:Nat} {hs:List Value}:∀ {ps:List Par} {x:Den (ps.map Par.ty)} {us:List Value} (i:Nat),Gda P w ps x us→Ip P (bare (Jea w) w) rg nv hs i ps (Av _ x) us:=by
 intro ps x us i h
 induction h generalizing i with
 |nil=>trivial
 |@cons ag t ps X Y u us vs hn hu hr h ih=>
  show Ip P (bare (Jea w) w) rg nv hs i (.val ag t::ps) (Av (t::ps.map Par.ty) (Mia X Y)) (u::us);rw[V3];refine⟨⟨vs,hu,?_⟩,ih (i+1)⟩;have h1:=Jf (P:=P) (G:=λ k=>Jea w k = .fz) (w:=w) t X vs (Ty.rep_mono (λ k hk=>by unfold Jea;rw[if_pos hk]) (λ _ _=>rfl) t X vs hr);rw[Pq t X hn];exact A5.ofRep (S:=bare (Jea w) w) h1 _ _
def Jga {P:Program} {f:FuncId} {en:Ent} (hs:Lua P f en) {w:World} {us:List Value} {x:Den (en.ps.map Par.ty)} (hc:Gda P w en.ps x us) (hnv:Nat.ble en.ps.length en.nv=true) {r:Den (en.rs.map Prod.snd++Ff en.ps)} (hr:en.run x=some r)
  (hrs:en.rs=[(.one,.b)]) (hl:∃ ls,Av _ r=[.sc (.bool true)]::ls):Calls P f us.toArray w (λ e w'=>e = .returned (.bool true)∧Below w.heap.size w w'):=by
 have htk:us.take en.nv=us:=Zb (by rw[Jfa hc];exact Ve hnv)
 have hcalls:=hs x r hr w (Jea w) (λ _=>(0,0)) us (λ k hk=>by
  unfold Jea at hk;split at hk
  ·assumption
  ·exact(hk rfl).elim) (λ k b hk=>by
  unfold Jea at hk
  split at hk<;>cases hk) (Gea 0 hc)
 rw[htk]at hcalls;refine L8 hcalls ?_;rintro e w' ⟨v,O',rfl,hF,_,hR,_⟩;obtain⟨ls,hl⟩:=hl;rw[hl]at hR;rw[hrs]at hR;obtain⟨l,ls',e1,h1⟩:=hR;cases e1;have h2:A5 P (bare O' w') (λ _ => .tm 1 []) 0 [.sc (.bool true)] [v]:=h1;have hv:v = .bool true:=h2.1.1;subst hv;exact⟨rfl,hF.os,hF.tape,hF.out,hF.size,λ k hk=>(hF.fz k hk (by unfold Jea;rw[if_pos hk])).2⟩
def P0 {H':Type} {enc:TypeId×Value→H'} {P:Program} {w:World} {base:Nat} {spare:Nat→Bool} {held:Bool} {ti:TypeId→Option TI} (htok:∀ T t,ti T=some t→TOk P T t) (hcl:∀ T,Mw P ti T=true)
  {T:TypeId} {t:TI} (hT:ti T=some t) {v:Value} {d:DataW H'} {p:List MemPlace} {b0:Nat} (hv:Value.okWide P w .any b0 T v) (h:DataW.Trod enc P w base spare held T v d p)
  {ts:List TypeId} {ds:List (DataW H')} (hw:(DataW.weightsEach P ts ds).all (· ≤ reachBytes)=true) {j:Nat} (hj:ts[j]? = some T) (hd:ds[j]? = some d):
  ∃ (X:t.ty.den) (vs:List Value),(if t.ag then v = .agg vs.toArray else vs=[v])∧t.ty.rep P (λ k=>k<w.heap.size) w X vs∧t.ty.fit ti X:=by
 obtain⟨n,hn⟩:=h
 obtain⟨X,r,f⟩:=T7 htok hcl n T t _ _ hT hn (λ m hm=>by
  have:=Zp.1 hw m (DataW.weights_mem_each hj hd m hm)
  exact of_decide_eq_true this)
 refine⟨X,_,?_,r,f⟩;have hc:=hcl T;unfold Mw at hc;rw[hT]at hc;unfold Value.okWide at hv;split at hc
 ·rename_i e;cases e
 ·rename_i t0 fs e1 hu;cases e1;simp only[Va]at hc;rw[hc.1];rw[hu]at hv;obtain⟨cs,rfl,_⟩:=hv;simp[Value.cells]
 all_goals first
  |(cases hc;done)
  |(rename_i hu;rw[hu]at hv;simp only[Cell.okWide,hu]at hv;rename_i e1;cases e1;simp only[Wd,if_false];have hsz:=Ty.rep_len _ _ _ r;cases v<;>first|(simp[Value.cells];done)|(simp only[Cell.ok,hu]at hv;done)|(simp[Cell.ok,hu]at hv;done))
end

section
open Go.RowKit
attribute [local irreducible] C H
def lk {α:Type}:List (Nat×α)→Nat→Option α
 |[],_=>none
 |(i,a)::l,n=>bif Nat.beq n i then some a else lk l n
structure LF where
 ins:Ti
 alts:List (Ex×Ti)
 f:Nat→ins.den→Option (Hta alts)
@[reducible] def LF.at (p:LF) (k:Nat):Lp:=⟨p.ins,p.alts,p.f k⟩
structure Fd where
 nt:Nat
 nv:Nat
 nm:List Nat
 res:List Nat
 cs:Nat→List (FuncId×Ent):=λ _=>[]
 ls:List (Nat×LF):=[]
 hint:List (Nat×Ty):=[]
 mv:List Nat:=[]
 gh:List (Nat×List Gh):=[]
 opn:List Nat:=[]
 sh:Bool:=false
 rf:Bool:=false
def Fd.n (D:Fd) (ti:TypeId→Option TI) (eqs:TypeId→Bool) (k:Nat):En:=
 ⟨D.nt,ti,eqs,D.nm.contains,D.res.contains,lk (D.cs k),λ l=>match lk D.ls l with|some p=>some (p.at k)|none=>none,D.nv,lk D.hint,D.mv.contains,λ n=>(lk D.gh n).getD [],D.opn.contains,λ _=>D.sh,D.rf⟩
def Kva {α:Type}:∀ {l:List (Nat×α)} {n:Nat} {a:α},lk l n=some a→n∈l.map Prod.fst
 |[],_,_,h=>by cases h
 |(i,b)::l,n,a,h=>by
  unfold lk at h;cases hb:Nat.beq n i
  case true=>rw[Vb hb];simp
  rw[hb,cond_false]at h;exact Vd _ (Kva h)
def Mja (P:Program):List (FuncId×Ent)→Prop
 |[]=>True
 |c::l=>Iq P c.1 c.2∧Mja P l
def Gfa {P:Program}:∀ {l:List (FuncId×Ent)} {f:FuncId} {en:Ent},Mja P l→lk l f=some en→Iq P f en
 |[],_,_,_,h=>by cases h
 |(i,a)::l,f,en,hc,h=>by
  unfold lk at h
  cases hb:Nat.beq f i with
  |true=>
   rw[hb,cond_true]at h;cases h;rw[Vb hb];exact hc.1
  |false=>rw[hb,cond_false]at h;exact Gfa hc.2 h
@[reducible] def bo (fn:Func):Code:=fn.body.getD .skip
structure Q7 (P:Program) (ti:TypeId→Option TI) (eqs:TypeId→Bool):Prop where
 tok:∀ T t,ti T=some t→TOk P T t
 eq:∀ T,eqs T=true→eqB P ti 9 T=true∧(match ti T with|some t=>t.ag|none=>false)=true∧P.eqGuardType P.depth T=false
 mix:P.follows .mixedOrders=true
def LK (P:Program) (fn:Func) (D:Fd) (l:Nat) (p:LF):Prop:=∀ X:Cx,X.P=P→X.nt=fn.ntmps→X.np=D.nv→∀ k,Uo X (p.at k) (Ga l (bo fn))
def Mka (P:Program) (fn:Func) (D:Fd):List Nat→Prop
 |[]=>True
 |l::r=>(match lk D.ls l with|some p=>LK P fn D l p|none=>True)∧Mka P fn D r
def Gga {P:Program} {fn:Func} {D:Fd} {l:Nat} {p:LF} (hp:lk D.ls l=some p):∀ {r:List Nat},Mka P fn D r→l∈r→LK P fn D l p
 |[],_,h=>by cases h
 |i::r,ha,h=>by
  rcases Vk.1 h with rfl|h
  ·have:=ha.1;rw[hp]at this;exact this
  ·exact Gga hp ha.2 h
section
variable {P:Program} {ti:TypeId→Option TI} {eqs:TypeId→Bool} {fn:Func}
def Pua (hS:Q7 P ti eqs) {D:Fd} {k:Nat} (hn:Nat.beq D.nt fn.ntmps=true) (hc:Mja P (D.cs k)) {X:Cx} (hP:X.P=P) (hx:X.nt=fn.ntmps) (hp:X.np=D.nv):Pv X (D.n ti eqs k):=
 Oma hP ((Vb hn).trans hx.symm) hp.symm rfl rfl hS.tok hS.eq (λ _ _ h=>Gfa hc h)
def Ona (hS:Q7 P ti eqs) {D:Fd} {k:Nat} (hn:Nat.beq D.nt fn.ntmps=true) (hc:Mja P (D.cs k)) {X:Cx} (hP:X.P=P) (hx:X.nt=fn.ntmps) (hp:X.np=D.nv):Uq X (D.n ti eqs k):=
 Mha (Pua hS hn hc hP hx hp) (by rw[hP];exact hS.mix)
def Kwa {D:Fd} {k:Nat} {c:Code} {ids:List Nat} (h:(H4 c,ids.map λ l=>first (Ga l (bo fn)))=(ids.map λ l=>Ga l (bo fn),ids)) (hi:Mka P fn D ids) {X:Cx} (hP:X.P=P) (hx:X.nt=fn.ntmps) (hp:X.np=D.nv):Ih X (D.n ti eqs k) c:=by
 rw[Vu]at h;refine Jda (b:=bo fn) ids h.1 h.2 λ l hl L hL=>?_;have hL':(match lk D.ls l with|some p=>some (p.at k)|none=>none)=some L:=hL
 cases hp':lk D.ls l with
 |none=>rw[hp']at hL';cases hL'
 |some p=>
  rw[hp']at hL';cases hL';exact Gga hp' hi hl X hP hx hp k
@[reducible] def Qma (ti:TypeId→Option TI) (eqs:TypeId→Bool) (fn:Func) (D:Fd) (l:Nat) (p:LF):Prop:=∀ k x,E2a (D.n ti eqs k) (p.at k) (Ga l (bo fn)) x=p.f (k+1) x
def mkL (hS:Q7 P ti eqs) {D:Fd} {l:Nat} {p:LF} (ids:List Nat) (hn:Nat.beq D.nt fn.ntmps=true) (hc:∀ k,Mja P (D.cs k)) (hi:Mka P fn D ids) (h:(H4 (Ga l (bo fn)),ids.map λ l=>first (Ga l (bo fn)))=(ids.map λ l=>Ga l (bo fn),ids)) (h0:∀ x,p.f 0 x=none) (hs:Qma ti eqs fn D l p):LK P fn D l p:=
 λ X hP hx hp=>M3a (ins:=p.ins) (alts:=p.alts) (f:=p.f) (En':=D.n ti eqs) h0 hs (λ k=>Pua hS hn (hc k) hP hx hp) (λ k=>Ona hS hn (hc k) hP hx hp) (λ k=>Kwa h hi hP hx hp)
def Pva (fn:Func) (D:Fd) (en:Ent):Bool:=Nat.beq D.nt fn.ntmps&&(Nat.ble fn.ntmps 1000&&(Nat.ble en.nv fn.ntmps&&(Nat.beq en.nv D.nv&&(fn.body.isSome&&(!(fn.name == "runtime.NumGoroutine")&&Y2 en)))))
def mkS (hS:Q7 P ti eqs) {f:FuncId} {D:Fd} {k:Nat} {en:Ent} (ids:List Nat) (hf:P.funcs[f]? = some fn) (hc:Mja P (D.cs k)) (hi:Mka P fn D ids) (hk:Pva fn D en=true) (h:(H4 (bo fn),ids.map λ l=>first (Ga l (bo fn)))=(ids.map λ l=>Ga l (bo fn),ids))
  (hr:∀ x,E4a (D.n ti eqs k) (bo fn) fn.results.toList en x=en.run x):Iq P f en:=by
 unfold Pva at hk;simp only[Va,Wi]at hk;obtain⟨h1,h2,h3,h4,h5,h6,h7⟩:=hk;have h4:=Vb h4
 have hb:fn.body=some (bo fn):=by
  unfold bo
  cases hb:fn.body with
  |none=>rw[hb]at h5;cases h5
  |some c=>rfl
 refine⟨⟨fn,hf,h6,by rw[hb];rfl⟩,Cta hf hb (Ve h2) (Ve h3) (λ X hP hx hp=>?_) (λ X hP hx hp=>?_) (λ X hP hx hp=>?_) h7 hr⟩
 ·exact Pua hS h1 hc hP hx (hp.trans h4)
 ·exact Ona hS h1 hc hP hx (hp.trans h4)
 ·exact Kwa h hi hP hx (hp.trans h4)
def Pwa {keys Nia:List Nat} (hk:∀ {T t},ti T=some t→T∈keys) (h1:(keys.all λ T=>(match ti T with|some t=>Pna P T t|none=>true)&&Mw P ti T)=true)
  (h2:(Nia.all λ T=>eqB P ti 9 T&&(match ti T with|some t=>t.ag|none=>false)&&!(P.eqGuardType P.depth T))=true) (he:eqs=λ T=>Nia.contains T) (hm:P.follows .mixedOrders=true):Q7 P ti eqs∧∀ T,Mw P ti T=true:=by
 refine⟨⟨λ T t h=>?_,λ T h=>?_,hm⟩,λ T=>?_⟩
 ·have h3:=Zp.1 h1 T (hk h);rw[Va,h]at h3;exact Nua _ _ _ h3.1
 ·rw[he]at h;have h3:=Zp.1 h2 T (List.elem_iff.1 h);simp only[Va,Wi]at h3;exact⟨h3.1.1,h3.1.2,h3.2⟩
 ·cases h:ti T with
  |none=>unfold Mw;rw[h]
  |some t=>
   have h3:=Zp.1 h1 T (hk h);rw[Va]at h3;exact h3.2
end
end

end Go.Proofs.YtbbifgjgneefkaaGreat.Vf
