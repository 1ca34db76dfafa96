import Derived.Test.YtbbifgjgneefkaaMah
import Derived.ChangeArms
import Derived.SizedLaws
import Derived.DataReads
import Derived.Laws.StructEq
import Derived.Below
import Derived.Test.YtbbifgjgneefkaaMaa
import Derived.Test.YtbbifgjgneefkaaProg
import Derived.KernelRfl
import Derived.IntWalk
set_option linter.all false
namespace Go.Proofs.Ytbbifgjgneefkaa.Vf
open Go
open List (length getD)
open Int (toNat)
open Go.IntKind (wrap)
open BitVec (ofInt)
def Yr:=@Bool.true_and
def Yt:=@List.pairwise_cons
def Zp:=@List.pairwise_append
def Zt:=@List.all_eq_true
def Kha:=@List.take_length
def Kta:=@List.pairwise_map
def Kua:=@List.all_cons
def Kva:=@List.getElem_mem
def L3a:=@Bool.false_and
def L4a:=@Bool.and_true

section
attribute [local irreducible] C H
abbrev Gs:=Nat→Nat×Sv
def gup (g:Gs) (u:Up):Gs:=λ p=>if p=u.l then ((bif u.keep then (g u.l).1 else (g u.l).1+1),u.s) else g p
def S5 (g:Gs):List Up→Gs
 |[]=>g
 |u::U=>S5 (gup g u) U
def Hr:∀ (U:List Up) (A:Ab),get (ups A U)=S5 (get A) U
 |[],_=>rfl
 |u::U,A=>by
  show get (ups (up A u) U)=S5 (gup (get A) u) U;rw[Hr U (up A u)];congr 1;funext p;exact Ly A u p
def J0:∀ (U:List Up) (g:Gs) (p:Nat),p∉U.map Up.l→S5 g U p=g p
 |[],_,_,_=>rfl
 |u::U,g,p,h=>by
  simp only[Ya,Vk,not_or]at h;show S5 (gup g u) U p=g p;rw[J0 U _ p h.2];exact if_neg h.1
def J1:∀ (U:List Up) (g g':Gs) (p:Nat),g p=g' p→S5 g U p=S5 g' U p
 |[],_,_,_,h=>h
 |u::U,g,g',p,h=>by
  refine J1 U (gup g u) (gup g' u) p ?_;unfold gup
  by_cases e:p=u.l
  ·subst e;rw[if_pos rfl,if_pos rfl,h]
  ·rw[if_neg e,if_neg e,h]
structure Ak where
 N:Gs→Prop
 e:Gs→Gs
def Ind (x y:Ak):Prop:=(∀ g,x.N g→y.N (x.e g)→y.N g)∧(∀ g,y.N g→x.N g→x.N (y.e g))∧(∀ g,x.N g→y.N g→x.e (y.e g)=y.e (x.e g))
def Dua:List Ak→Gs→Gs→Prop
 |[],g,f=>g=f
 |x::L,g,f=>x.N g∧Dua L (x.e g) f
def Dua.front {y:Ak} {L2:List Ak}:∀ {L1:List Ak} {g f:Gs},(∀ x∈L1,Ind x y)→Dua (L1++y::L2) g f→y.N g∧Dua (L1++L2) (y.e g) f
 |[],g,f,_,h=>h
 |x::L1,g,f,hi,h=>by
  obtain⟨h1,h2⟩:=h;obtain⟨h3,h4⟩:=Dua.front (λ z hz=>hi z (Ve _ hz)) h2;obtain⟨i1,i2,i3⟩:=hi x (by simp);have hy:=i1 g h1 h3;exact⟨hy,i2 g hy h1,by rw[i3 g h1 hy];exact h4⟩
inductive Anc (ops:Array Oper):Nat→Nat→Prop
 |dir {i j:Nat} {o:Oper} (h:ops[i]? = some o) (hj:j∈aft o):Anc ops j i
 |tr {i j k:Nat} {o:Oper} (h:ops[i]? = some o) (hk:k∈aft o) (ha:Anc ops j k):Anc ops j i
def Aha {o:Oper} {j:Nat}:j∈aft o↔∃ e∈o.after,Region.binds .any e=true∧e.on=j:=by
 unfold aft;rw[List.mem_filterMap];constructor
 ·rintro⟨e,he,h⟩;cases hb:Region.binds .any e
  ·rw[hb]at h;simp at h
  rw[hb]at h;simp only[cond_true,Vc]at h;exact⟨e,by simpa using he,hb,h⟩
 ·rintro⟨e,he,hb,h⟩;exact⟨e,by simpa using he,by rw[hb];simp[h]⟩
section
variable {X:Cx} {E:En} {ops:Array Oper} {Q:Exit→Act→World→Prop}
def Gca (X:Cx) (ops:Array Oper) (Q:Exit→Act→World→Prop) (i:Nat) (x:Ak):Prop:=
 ∀ (S:Sit) (a:Act) (A:Ab),Ae X S a→S.g=get A→x.N (get A)→∀ K:Act→World→Prop,(∀ S' a' A',Ae X S' a'→S'.g=get A'→get A'=x.e (get A)→K a' S'.w)→wpOp X.P ops Q i K a S.w
def Uz {listed:Array Bool} (hd:∀ i o,ops[i]? = some o→listed.getD i false=true→∀ j∈aft o,listed.getD j false=true) {i j:Nat} (h:Anc ops j i):listed.getD i false=true→listed.getD j false=true:=by
 induction h with
 |dir h hj=>exact λ hi=>hd _ _ h hi _ hj
 |tr h hk _ ih=>exact λ hi=>ih (hd _ _ h hi _ hk)
def S6 {listed:Array Bool} {i:Nat} (hi:i<listed.size):listed.getD i true=listed.getD i false:=by
 simp[We,hi]
def Dva (hlt:∀ i o,ops[i]? = some o→∀ j∈aft o,j<i) {f:Gs} (hQ:∀ S a A,Ae X S a→S.g=get A→get A=f→Q .normal a S.w):
  ∀ (fuel:Nat) (L:List (Nat×Ak)) (listed:Array Bool) (S:Sit) (a:Act) (A:Ab),L.length=fuel→listed.size=ops.size→L.Pairwise (λ x y=>x.1<y.1)→(∀ i,i<ops.size→(listed.getD i false=false↔∃ x∈L,x.1=i))→
   L.Pairwise (λ x y=>Anc ops x.1 y.1∨Ind x.2 y.2)→(∀ x∈L,Gca X ops Q x.1 x.2)→(∀ x∈L,x.1<ops.size)→
   (∀ i o,ops[i]? = some o→listed.getD i false=true→∀ j∈aft o,listed.getD j false=true)→
   Ae X S a→S.g=get A→Dua (L.map Prod.snd) (get A) f→wpAny X.P .any ops Q fuel listed a S.w
 |0,L,listed,S,a,A,hlen,hsz,hs,hl,hi,ho,hb,hd,K,hg,hr=>by
  have:L=[]:=Wo hlen;subst this;refine⟨?_,hQ S a A K hg hr⟩;rw[List.eq_nil_iff_forall_not_mem];intro i hm;obtain⟨h1,o,h2,_⟩:=mem_ready.1 hm;have hlt2:i<ops.size:=(Yw.1 h2).1;rw[S6 (by omega)]at h1;obtain⟨x,hx,_⟩:=(hl i hlt2).1 h1;simp at hx
 |fuel+1,L,listed,S,a,A,hlen,hsz,hs,hl,hi,ho,hb,hd,K,hg,hr=>by
  cases L with
  |nil=>simp at hlen
  |cons x0 L0=>
   refine⟨λ h0=>?_,λ i hm=>?_⟩
   ·exfalso;have hx0:=hb x0 (by simp);obtain⟨o,h2⟩:∃ o,ops[x0.1]? = some o:=⟨_,Zn hx0⟩;have hu:=(hl x0.1 hx0).2 ⟨x0,by simp,rfl⟩
    have:x0.1∈Region.ready .any ops listed:=by
     refine mem_ready.2 ⟨by rw[S6 (by omega)];exact hu,o,h2,λ e he hbe=>?_⟩;have hj:=hlt _ _ h2 e.on (Aha.2 ⟨e,he,hbe,rfl⟩);cases hc:listed.getD e.on false
     case true=>rfl
     obtain⟨y,hy,hye⟩:=(hl e.on (by omega)).1 hc;rcases Vk.1 hy with rfl|hy
     ·omega
     ·have:=(Yt.1 hs).1 y hy;omega
    rw[h0]at this;simp at this
   ·obtain⟨h1,o,h2,h3⟩:=mem_ready.1 hm;have hil:i<ops.size:=(Yw.1 h2).1;rw[S6 (by omega)]at h1;obtain⟨y,hy,hyi⟩:=(hl i hil).1 h1;obtain⟨L1,L2,hL⟩:=List.append_of_mem hy
    have haft:∀ j∈aft o,listed.getD j false=true:=λ j hj=>by
     obtain⟨e,he,hbe,rfl⟩:=Aha.1 hj;exact h3 e he hbe
    have hanc:∀ j,Anc ops j i→listed.getD j false=true:=by
     intro j hj
     cases hj with
     |dir h hj=>rw[h2]at h;cases h;exact haft _ hj
     |tr h hk ha=>rw[h2]at h;cases h;exact Uz hd ha (haft _ hk)
    rw[hL]at hs hl hi ho hb hr hlen;rw[Zp]at hs hi;obtain⟨s1,s2,s3⟩:=hs;obtain⟨i1,i2,i3⟩:=hi;rw[Yt]at s2 i2
    have hind:∀ x∈L1,Ind x.2 y.2:=by
     intro x hx;rcases i3 x hx y (by simp) with h|h
     ·exfalso;have h4:=hanc x.1 (by rw[← hyi];exact h);have h5:=(hl x.1 (hb x (by simp[hx]))).2 ⟨x,by simp[hx],rfl⟩;rw[h4]at h5;cases h5
     ·exact h
    rw[Jya,Ya]at hr;obtain⟨hN,hr2⟩:=Dua.front (λ z hz=>by obtain⟨x,hx,rfl⟩:=Zc.1 hz;exact hind x hx) hr;rw[← Jya]at hr2;subst hyi;refine ho y (by simp) S a A K hg hN _ (λ S' a' A' K' g' e'=>?_)
    refine Dva hlt hQ fuel (L1++L2) (listed.setIfInBounds y.1 true) S' a' A' (by simp at hlen ⊢;omega) (by simpa using hsz) ?_ ?_ ?_ (λ x hx=>ho x (by rcases Vn.1 hx with h|h<;>simp[h])) (λ x hx=>hb x (by rcases Vn.1 hx with h|h<;>simp[h])) ?_ K' g' (by rw[e'];exact hr2)
    ·exact Zp.2 ⟨s1,s2.2,λ x hx z hz=>s3 x hx z (Ve _ hz)⟩
    ·intro k hk
     by_cases hky:k=y.1
     ·subst hky
      have e1:(listed.setIfInBounds y.1 true).getD y.1 false=true:=by simp[We,hsz,hk]
      rw[e1];constructor
      ·intro h;cases h
      ·rintro⟨x,hx,hxe⟩;exfalso;rcases Vn.1 hx with h|h
       ·have:=s3 x h y (by simp);omega
       ·have:=s2.1 x h;omega
     ·rw[getD_set_ne false (Kca hky),hl k hk];constructor
      ·rintro⟨x,hx,hxe⟩;refine⟨x,?_,hxe⟩;rcases Vn.1 hx with h|h
       ·exact Vq _ h
       ·rcases Vk.1 h with rfl|h
        ·exact(hky hxe.symm).elim
        ·exact Vg _ h
      ·rintro⟨x,hx,hxe⟩
       exact⟨x,by rcases Vn.1 hx with h|h<;>simp[h],hxe⟩
    ·exact Zp.2 ⟨i1,i2.2,λ x hx z hz=>i3 x hx z (Ve _ hz)⟩
    ·intro k o' hk hkl j hj
     by_cases hky:k=y.1
     ·subst hky;rw[h2]at hk;cases hk;exact getD_set_true (haft j hj)
     ·rw[getD_set_ne false (Kca hky)]at hkl;exact getD_set_true (hd k o' hk hkl j hj)
end
end

section
attribute [local irreducible] C H
def Ol {p:Nat}:∀ {l:List Nat},G7a p l=true↔p∈l
 |[]=>by simp[G7a]
 |q::l=>by
  simp only[G7a,Jxa,Vk,Ol (l:=l)];constructor
  ·rintro (h|h)
   ·exact .inl (Vb h).symm
   ·exact .inr h
  ·rintro (rfl|h)
   ·exact .inl (by simp)
   ·exact .inr h
def Om {m:List Nat}:∀ {l:List Nat},G8a l m=true↔∀ p∈l,p∉m
 |[]=>by simp[G8a]
 |q::l=>by
  simp only[G8a,Va,Wg,Vk,Om (l:=l)];constructor
  ·rintro⟨h1,h2⟩ p (rfl|h) hm
   ·rw[Ol.2 hm]at h1;cases h1
   ·exact h2 p h hm
  ·intro h;refine⟨?_,λ p hp=>h p (.inr hp)⟩
   cases hc:G7a q m with
   |false=>rfl
   |true=>exact(h q (.inl rfl) (Ol.1 hc)).elim
def Fha (s:Sv) (j:Nat):Sv:=match s with
 |.tup vs => .tup (vs.set j (false,[.dead]))
 |s=>s
structure Ext (x:Ak) (t j d:Nat):Prop where
 N:∃ ag l,∀ g,x.N g↔∃ vs,(g t).2 = .tup vs∧nth vs j=some (ag,l)
 e:d≠t→∃ (w:Bool) (s:Sv),∀ g p,x.e g p=if p=d then ((g p).1+1,s) else if w=true∧p=t then ((g p).1+1,Fha (g p).2 j) else g p
structure On (y:Lg) (x:Ak):Prop where
 WF:∀ p∈y.W,p∈y.F
 N:∀ g g',(∀ p∈y.F,g p=g' p)→x.N g→x.N g'
 out:∀ g p,p∉y.W→x.e g p=g p
 loc:∀ g g' p,p∈y.W→g p=g' p→x.e g p=x.e g' p
 ex:∀ t j d,y.ex=some (t,j,d)→Ext x t j d
def On.ind {y y':Lg} {x x':Ak} (h:On y x) (h':On y' x') (hi:Wv y y'=true):Ind x x':=by
 unfold Wv at hi;simp only[Jxa,Va]at hi;rcases hi with⟨d1,d2⟩|hi
 ·have d1:=Om.1 d1;have d2:=Om.1 d2;have o1:∀ g,∀ p∈y'.F,x.e g p=g p:=λ g p hp=>h.out g p (λ hw=>d1 p hw hp);have o2:∀ g,∀ p∈y.F,x'.e g p=g p:=λ g p hp=>h'.out g p (λ hw=>d2 p hw hp);refine⟨λ g _ hn=>h'.N _ _ (o1 g) hn,λ g _ hn=>h.N _ _ (λ p hp=>(o2 g p hp).symm) hn,λ g _ _=>?_⟩;funext p
  by_cases hp:p∈y.W
  ·have hp':p∉y'.W:=λ hw=>d2 p hw (h.WF p hp);rw[h'.out (x.e g) p hp',h.loc (x'.e g) g p hp (o2 g p (h.WF p hp))]
  ·rw[h.out (x'.e g) p hp]
   by_cases hp':p∈y'.W
   ·exact h'.loc g (x.e g) p hp' (o1 g p (h'.WF p hp')).symm
   ·rw[h'.out _ p hp',h'.out _ p hp',h.out _ p hp]
 ·split at hi
  ·rename_i t j d t' j' d' e1 e2;simp only[Va,Wg]at hi;obtain⟨⟨⟨⟨q1,q2⟩,q3⟩,q4⟩,q5⟩:=hi;have ht:t=t':=Vb q1;subst ht
   have hj:j≠j':=λ e=>by subst e;simp at q2
   have hd:d≠d':=λ e=>by subst e;simp at q3
   have hdt:d≠t:=λ e=>by subst e;simp at q4
   have hdt':d'≠t:=λ e=>by subst e;simp at q5
   obtain⟨⟨ag,l,hN⟩,he⟩:=h.ex t j d e1;obtain⟨⟨ag',l',hN'⟩,he'⟩:=h'.ex t j' d' e2;obtain⟨w,s,he⟩:=he hdt;obtain⟨w',s',he'⟩:=he' hdt'
   have et:∀ g,(x.e g t).2=if w=true then Fha (g t).2 j else (g t).2:=λ g=>by
    rw[he,if_neg (Kca hdt)]
    cases w<;>simp
   have et':∀ g,(x'.e g t).2=if w'=true then Fha (g t).2 j' else (g t).2:=λ g=>by
    rw[he',if_neg (Kca hdt')]
    cases w'<;>simp
   refine⟨λ g hn hn'=>?_,λ g hn' hn=>?_,λ g hn hn'=>?_⟩
   ·obtain⟨vs,g1,g2⟩:=(hN g).1 hn;obtain⟨vs',g1',g2'⟩:=(hN' _).1 hn';refine(hN' g).2 ⟨vs,g1,?_⟩;rw[et,g1]at g1'
    cases w with
    |false=>
     simp only[Wa,if_false,Sv.tup.injEq]at g1';rw[g1'];exact g2'
    |true=>
     simp only[if_true,Fha,Sv.tup.injEq]at g1';rw[← g1',Da,List.getElem?_set_ne hj]at g2';rw[Da];exact g2'
   ·obtain⟨vs,g1,g2⟩:=(hN g).1 hn;refine(hN _).2 ?_;cases w'
    ·exact⟨vs,by rw[et',g1];simp,g2⟩
    refine⟨vs.set j' (false,[.dead]),by rw[et',g1];simp[Fha],?_⟩;rw[Da,List.getElem?_set_ne (Kca hj),← Da];exact g2
   ·funext p
    by_cases p1:p=d
    ·subst p1;simp[he,he',hd,hdt]
    ·by_cases p2:p=d'
     ·subst p2;simp[he,he',p1,hdt']
     ·by_cases p3:p=t
      ·subst p3;obtain⟨vs,g1,g2⟩:=(hN g).1 hn
       cases w<;>cases w'<;>simp[he,he',p1,p2,g1,Fha]
       exact List.set_comm _ _ (Kca hj)
      ·simp[he,he',p1,p2,p3]
  ·cases hi
def Tp {ops:Array Oper}:∀ {lg:List Lg},(∀ y∈lg,∀ k,Nat.testBit y.anc k=true→Anc ops k y.i)→∀ j k,Nat.testBit (Ww lg j) k=true→Anc ops k j
 |[],_,j,k,h=>by simp[Ww]at h
 |y::lg,hl,j,k,h=>by
  unfold Ww at h
  cases hb:Nat.beq y.i j with
  |true=>
   rw[hb,cond_true]at h;rw[← Vb hb];exact hl y (by simp) k h
  |false=>
   rw[hb,cond_false]at h;exact Tp (λ z hz=>hl z (Ve _ hz)) j k h
def Aia {ops:Array Oper} {lg:List Lg} (hl:∀ y∈lg,∀ k,Nat.testBit y.anc k=true→Anc ops k y.i) {i:Nat} {o:Oper} (ho:ops[i]? = some o):∀ {l:List Nat},(∀ j∈l,j∈aft o)→∀ k,Nat.testBit (Dfa lg l) k=true→Anc ops k i
 |[],_,k,h=>by simp[Dfa]at h
 |j::l,hj,k,h=>by
  unfold Dfa at h;simp only[Nat.testBit_or,Jxa]at h;rcases h with (h|h)|h
  ·rw[Nat.testBit_two_pow]at h;simp only[decide_eq_true_eq]at h;subst h;exact .dir ho (hj _ (by simp))
  ·exact .tr ho (hj j (by simp)) (Tp hl j k h)
  ·exact Aia hl ho (λ m hm=>hj m (Ve _ hm)) k h
section
variable {X:Cx} {E:En} {ops:Array Oper} {Q:Exit→Act→World→Prop}
def Tq {S:Sit} {a:Act} (hE:Dx X E) (hK:Ae X S a) {o:Oper} {j dj:Nat} {want:Bool} (hgd:o.guard=some (j,want)) (hdj:Wu ops.toList j=some dj) (hb:Nat.blt dj E.nt=true):
  (∀ b,(S.g dj).2 = .one (.sc (.bool b))→Region.wanted o (yielded ops a.tmps)=(b==want))∧((S.g dj).2 = .one .un→Region.wanted o (yielded ops a.tmps)=false):=by
 have hdj':(ops[j]?).bind (·.dst)=some dj:=by
  unfold Wu at hdj;rw[Da]at hdj
  have:ops.toList[j]? = ops[j]? := by simp
  rw[this]at hdj
  cases hj:ops[j]? with
  |none=>rw[hj]at hdj;cases hdj
  |some oj=>rw[hj]at hdj;simpa using hdj
 have hjl:dj<X.nt:=hE.nt ▸ (Vd hb:dj+1≤E.nt)
 have htm:a.tmps[dj]? = some (S.ph dj):=by
  have h1:=hK.sl dj hjl
  have h2:dj<a.tmps.size:=by rw[hK.sz];exact hjl
  rw[← h1,We,Zn h2];rfl
 have hy:yielded ops a.tmps j=(match S.ph dj with | .bool b=>some b|_=>none):=by
  unfold yielded;rw[hdj',Ym,htm]
  cases S.ph dj<;>rfl
 have hwd:Region.wanted o (yielded ops a.tmps)=((match S.ph dj with | .bool b=>some b|_=>none)==some want):=by
  unfold Region.wanted;rw[hgd];simp only;rw[hy]
 have hat:=hK.at_ dj;constructor
 ·intro b hs;rw[hs]at hat;have hph:S.ph dj = .bool b:=hat.1;rw[hwd,hph]
  cases b<;>cases want<;>rfl
 ·intro hs;rw[hs]at hat;have hph:S.ph dj=undef:=hat;rw[hwd,hph];simp[undef]
def Ida (F:List Nat) (A:Ab) (U:List Up):Ak:=⟨λ g=>∀ p∈F,g p=get A p,λ g=>S5 g U⟩
def Aja {y:Lg} {A:Ab} {U:List Up} {F:List Nat} (hF:y.F=F++U.map Up.l) (hW:y.W=U.map Up.l) (hex:y.ex=none):On y (Ida y.F A U):=by
 refine⟨λ p hp=>?_,λ g g' h hn p hp=>by rw[← h p hp];exact hn p hp,λ g p hp=>J0 U g p (by rw[← hW];exact hp),λ g g' p _ h=>J1 U g g' p h,λ t j d h=>by rw[hex]at h;cases h⟩;rw[hF,Vn];exact .inr (by rw[← hW];exact hp)
def Haa (hV:Lv X E) {i:Nat} {o:Oper} (hi:ops[i]? = some o) (hd:P8 E o=true) {x:Ak} (hw:∀ S a,Ae X S a→x.N S.g→Region.wanted o (yielded ops a.tmps)=true)
  (hU:∀ A',x.N (get A')→∃ U,Af E o A' some=some U∧S5 (get A') U=x.e (get A')):Gca X ops Q i x:=by
 intro S a A' K hg hn Kn hk
 have hdl:∀ d,o.dst=some d→d<X.nt:=λ d hod=>by
  unfold P8 at hd;rw[hod]at hd;exact hV.en.nt ▸ (Vd hd:d+1≤E.nt)
 obtain⟨U,hU1,hU2⟩:=hU A' hn;obtain⟨U',hU',hgo⟩:=Y9 hV K hg hdl hU1;simp only[Vc]at hU';subst hU';unfold wpOp;rw[hi];simp only;rw[if_pos (hw S a K (by rw[hg];exact hn))];exact .inl (hgo _ _ (λ S' a' K' g'=>hk S' a' _ K' g' ((Hr U' A').trans hU2)))
def Fia (hV:Lv X E) {i:Nat} {o:Oper} (hi:ops[i]? = some o) (hd:P8 E o=true) {N:Gs→Prop} (hw:∀ S a,Ae X S a→N S.g→Region.wanted o (yielded ops a.tmps)=false):
  Gca X ops Q i ⟨N,λ g=>S5 g (match o.dst with|some d=>[⟨d,false,.one .un⟩]|none=>[])⟩:=by
 intro S a A' K hg hn Kn hk;unfold wpOp;rw[hi];simp only;rw[if_neg (by rw[hw S a K (by rw[hg];exact hn)];decide)];obtain⟨S',K',g',w'⟩:=Dqa hV.en K hg hd;rw[← w'];refine hk S' _ _ K' g' ?_;unfold Ie
 cases o.dst with
 |none=>rfl
 |some d=>exact Hr [⟨d,false,.one .un⟩] A'
def Tr (t j d:Nat) (l:List Lf) (s:Sv) (vs:List (Bool×List Lf)):List Up:=bif C0 l then [⟨t,false,.tup (vs.set j (false,[.dead]))⟩,⟨d,false,s⟩] else [⟨d,false,s⟩]
def Cua {R:Type} {Kc:List Up→Option R} {r:R} {A:Ab} {o:Oper} {t j d:Nat} (ho:o.op = .extract (.tmp t) j) (hod:o.dst=some d) (h:Af E o A Kc=some r):
  ∃ vs ag l s,(get A t).2 = .tup vs∧nth vs j=some (ag,l)∧Kc (Tr t j d l s vs)=some r∧∀ A' vs',(get A' t).2 = .tup vs'→nth vs' j=some (ag,l)→Af E o A' some=some (Tr t j d l s vs'):=by
 unfold Af at h;rw[ho,hod]at h;simp only at h;cases hb:Nat.blt t E.nt
 ·rw[hb]at h;simp at h
 rw[hb,cond_true]at h;split at h
 ·rename_i vs hg;split at h
  ·rename_i ag l hn;split at h
   ·rename_i s hs;refine⟨vs,ag,l,s,hg,hn,?_,λ A' vs' hg' hn'=>?_⟩
    ·rw[← h];unfold Tr
     cases C0 l<;>rfl
    ·unfold Af;rw[ho,hod];simp only[hb,cond_true,hg',hn',hs];unfold Tr
     cases C0 l<;>rfl
   ·cases h
  ·cases h
 ·cases h
def S7 (t j d:Nat) (ag:Bool) (l:List Lf) (s:Sv):Ak:=
 ⟨λ g=>∃ vs,(g t).2 = .tup vs∧nth vs j=some (ag,l),λ g=>S5 g (bif C0 l then [⟨t,false,Fha (g t).2 j⟩,⟨d,false,s⟩] else [⟨d,false,s⟩])⟩
def Cva {o:Oper} {i:Nat} {lg:List Lg} {A:Ab} {t j d:Nat} {ag:Bool} {l:List Lf} {s:Sv} {vs:List (Bool×List Lf)} (ho:o.op = .extract (.tmp t) j) (hod:o.dst=some d):
  On (Mt o i lg [] A (Tr t j d l s vs)) (S7 t j d ag l s):=by
 have ht:t∈(Mt o i lg [] A (Tr t j d l s vs)).F:=by
  show t∈[]++rds A o++_;simp[rds,G6a,ho,Dv,Bda,rdO]
 have hW:(Mt o i lg [] A (Tr t j d l s vs)).W=bif C0 l then [t,d] else [d]:=by
  show (Tr t j d l s vs).map Up.l=_;unfold Tr
  cases C0 l<;>rfl
 refine⟨λ p hp=>Vg _ hp,λ g g' hF hn=>?_,λ g p hp=>?_,λ g g' p hp h=>?_,λ t' j' d' h=>?_⟩
 ·obtain⟨vs',h1,h2⟩:=hn;exact⟨vs',by rw[← hF t ht];exact h1,h2⟩
 ·rw[hW]at hp;unfold S7
  cases hl:C0 l with
  |true=>
   rw[hl]at hp;exact J0 _ _ _ hp
  |false=>
   rw[hl]at hp;exact J0 _ _ _ hp
 ·rw[hW]at hp;unfold S7;cases hl:C0 l
  ·exact J1 _ _ _ p h
  rw[hl]at hp;simp only[cond_true];show gup (gup g _) _ p=gup (gup g' _) _ p;unfold gup
  by_cases e1:p=d
  ·subst e1
   by_cases e2:p=t
   ·subst e2;simp[h]
   ·simp[e2,h]
  ·rcases Vk.1 hp with e2|e2
   ·subst e2;simp[e1,h]
   ·exact(e1 (by simpa using e2)).elim
 ·have hex:(Mt o i lg [] A (Tr t j d l s vs)).ex=some (t,j,d):=by
   show (bif List.isEmpty ([]:List Nat) then Gha o else none)=_;simp[Gha,ho,hod]
  rw[hex]at h;cases h;refine⟨⟨ag,l,λ g=>Kpa⟩,λ hdt=>⟨C0 l,s,λ g p=>?_⟩⟩;unfold S7
  cases hl:C0 l with
  |false=>
   show gup g _ p=_;unfold gup
   by_cases e1:p=d
   ·subst e1;simp
   ·simp[e1]
  |true=>
   simp only[cond_true];show gup (gup g _) _ p=_;unfold gup
   by_cases e1:p=d
   ·subst e1;simp[hdt]
   ·simp[e1]
    by_cases e2:p=t
    ·subst e2;simp
    ·simp[e2]
end
end

section
attribute [local irreducible] C H
section
variable {X:Cx} {E:En} {ops:Array Oper} {Q:Exit→Act→World→Prop}
structure Dwa (X:Cx) (ops:Array Oper) (Q:Exit→Act→World→Prop) (l:List Nat) (lg:List Lg) (g:Gs) (f:Gs) (L:List (Lg×Ak)):Prop where
 ix:L.map (λ z=>z.1.i)=l
 runs:Dua (L.map Prod.snd) g f
 fits:∀ z∈L,On z.1 z.2∧Gca X ops Q z.1.i z.2
 old:∀ y∈lg,∀ z∈L,Nat.testBit z.1.anc y.i=true∨Wv y z.1=true
 pair:L.Pairwise (λ y z=>Nat.testBit z.1.anc y.1.i=true∨Wv y.1 z.1=true)
 anc:∀ z∈L,∀ k,Nat.testBit z.1.anc k=true→Anc ops k z.1.i
 lt:∀ i∈l,∃ o,ops[i]? = some o∧∀ j∈aft o,j<i
def Dwa.cons {l:List Nat} {lg:List Lg} {g g1 f:Gs} {L:List (Lg×Ak)} {y:Lg} {x:Ak} {i:Nat} (h:Dwa X ops Q l (y::lg) g1 f L) (hi:y.i=i) (hn:x.N g) (he:x.e g=g1) (hf:On y x) (ho:Gca X ops Q i x) (hok:Wx lg y=true)
  (ha:∀ k,Nat.testBit y.anc k=true→Anc ops k i) (hl:∃ o,ops[i]? = some o∧∀ j∈aft o,j<i):Dwa X ops Q (i::l) lg g f ((y,x)::L):=by
 refine⟨by simp[hi,h.ix],⟨hn,by rw[he];exact h.runs⟩,?_,?_,?_,?_,?_⟩
 ·intro z hz;rcases Vk.1 hz with rfl|hz
  ·exact⟨hf,by rw[hi];exact ho⟩
  ·exact h.fits z hz
 ·intro y' hy' z hz;rcases Vk.1 hz with rfl|hz
  ·unfold Wx at hok;rw[Zt]at hok;have:=hok y' hy'
   simpa using this
  ·exact h.old y' (Ve _ hy') z hz
 ·exact Yt.2 ⟨λ z hz=>h.old y (by simp) z hz,h.pair⟩
 ·intro z hz k hk;rcases Vk.1 hz with rfl|hz
  ·rw[hi];exact ha k hk
  ·exact h.anc z hz k hk
 ·intro j hj;rcases Vk.1 hj with rfl|hj
  ·exact hl
  ·exact h.lt j hj
def Tt (hV:Lv X E) {R:Type}:∀ (l:List Nat) (lg:List Lg) (A:Ab) (K:Ab→Option R) (r:R),(∀ y∈lg,∀ k,Nat.testBit y.anc k=true→Anc ops k y.i)→Dn E ops.toList l lg A K=some r→
  ∃ (L:List (Lg×Ak)) (A':Ab),K A'=some r∧Dwa X ops Q l lg (get A) (get A') L
 |[],lg,A,K,r,_,h=>⟨[],A,h,rfl,rfl,by simp,by simp,.nil,by simp,by simp⟩
 |i::l,lg,A,K,r,hlg,h=>by
  unfold Dn at h;rw[Da]at h;split at h
  ·cases h
  ·rename_i o ho
   have hi:ops[i]? = some o:=by simpa using ho
   obtain⟨hb0,h⟩:=cs h;simp only[Va,Zt]at hb0;obtain⟨hd,hlt0⟩:=hb0
   have hlt:∃ o,ops[i]? = some o∧∀ j∈aft o,j<i:=⟨o,hi,λ j hj=>by
    have:=hlt0 j hj
    exact Vd this⟩
   have hanc:∀ k,Nat.testBit (Dfa lg (aft o)) k=true→Anc ops k i:=Aia hlg hi (λ j hj=>hj)
   have next:∀ {y:Lg} {x:Ak} {A1:Ab},y.i=i→y.anc=Dfa lg (aft o)→x.N (get A)→x.e (get A)=get A1→On y x→Gca X ops Q i x→Wx lg y=true→Dn E ops.toList l (y::lg) A1 K=some r→
     ∃ (L:List (Lg×Ak)) (A':Ab),K A'=some r∧Dwa X ops Q (i::l) lg (get A) (get A') L:=by
    intro y x A1 e1 e2 hn he hf hop hok hev
    obtain⟨L,A',h1,h2⟩:=Tt hV l (y::lg) A1 K r (λ z hz k hk=>by
     rcases Vk.1 hz with rfl|hz
     ·rw[e1];exact hanc k (by rw[← e2];exact hk)
     ·exact hlg z hz k hk) hev
    exact⟨_,A',h1,h2.cons e1 hn he hf hop hok (by rw[e2];exact hanc) hlt⟩
   have cnd:∀ {b:Bool} {z:Option R},(bif b then z else none)=some r→b=true∧z=some r:=by
    intro b z hz
    cases b with
    |false=>simp at hz
    |true=>exact⟨rfl,hz⟩
   have exec:∀ (B:Ab) (gd:List Nat),get B=get A→(∀ S a,Ae X S a→(∀ p∈gd,S.g p=get A p)→Region.wanted o (yielded ops a.tmps)=true)→
     Af E o B (λ U=>bif Wx lg (Mt o i lg gd B U) then Dn E ops.toList l (Mt o i lg gd B U::lg) (ups B U) K else none)=some r→
     ∃ (L:List (Lg×Ak)) (A':Ab),K A'=some r∧Dwa X ops Q (i::l) lg (get A) (get A') L:=by
    intro B gd hBA hw hs
    have generic:(Mt o i lg gd B [] ).ex=none→∃ (L:List (Lg×Ak)) (A':Ab),K A'=some r∧Dwa X ops Q (i::l) lg (get A) (get A') L:=by
     intro hex;obtain⟨U,h1,h2⟩:=Cta (F:=rds B o) (λ p hp=>hp) hd.2 hs;obtain⟨hok,hev⟩:=cnd h1;have hfit:On (Mt o i lg gd B U) (Ida (Mt o i lg gd B U).F B U):=Aja (F:=gd++rds B o) rfl rfl hex;refine next (y:=Mt o i lg gd B U) (x:=Ida (Mt o i lg gd B U).F B U) (A1:=ups B U) rfl rfl (λ p _=>by rw[hBA]) ?_ hfit ?_ hok hev
     ·show S5 (get A) U=_;rw[Hr,hBA]
     ·refine Haa hV hi hd.1 (λ S a hS hN=>hw S a hS (λ p hp=>?_)) (λ A' hN=>⟨U,?_,rfl⟩)
      ·rw[← hBA];exact hN p (by show p∈gd++rds B o++_;simp[hp])
      ·exact h2 A' (λ p hp=>hN p (by show p∈gd++rds B o++_;simp[hp])) some
    cases hgd:gd with
    |cons p0 gd'=>subst hgd;exact generic (by simp[Mt])
    |nil=>
     subst hgd
     cases hexo:Gha o with
     |none=>exact generic (by simp[Mt,hexo])
     |some q=>
      obtain⟨t,j,d⟩:=q
      have:o.op = .extract (.tmp t) j∧o.dst=some d:=by
       unfold Gha at hexo;split at hexo
       ·rename_i e1 e2;cases hexo;exact⟨e1,e2⟩
       ·cases hexo
      obtain⟨hop,hod⟩:=this;obtain⟨vs,ag,lf,s,hg,hn,h1,h2⟩:=Cua hop hod hs;obtain⟨hok,hev⟩:=cnd h1
      have hex:∀ A' vs',(get A' t).2 = .tup vs'→S5 (get A') (Tr t j d lf s vs')=(S7 t j d ag lf s).e (get A'):=by
       intro A' vs' hv;unfold Tr S7;simp only;rw[hv];rfl
      refine next (y:=Mt o i lg [] B (Tr t j d lf s vs)) (x:=S7 t j d ag lf s) (A1:=ups B (Tr t j d lf s vs)) rfl rfl ⟨vs,by rw[← hBA];exact hg,hn⟩ ?_ (Cva hop hod) ?_ hok hev
      ·rw[← hBA,Hr];exact(hex B vs hg).symm
      ·refine Haa hV hi hd.1 (λ S a hS _=>hw S a hS (by simp)) (λ A' hN=>?_);obtain⟨vs',g1,g2⟩:=hN;exact⟨_,h2 A' vs' g1 g2,hex A' vs' g1⟩
   have skip:∀ (B:Ab) (dj:Nat),get B=get A→(∀ S a,Ae X S a→S.g dj=get A dj→Region.wanted o (yielded ops a.tmps)=false)→
     (bif Wx lg (Ig o i lg [dj]) then Dn E ops.toList l (Ig o i lg [dj]::lg) (Ie o B) K else none)=some r→
     ∃ (L:List (Lg×Ak)) (A':Ab),K A'=some r∧Dwa X ops Q (i::l) lg (get A) (get A') L:=by
    intro B dj hBA hw hs;obtain⟨hok,hev⟩:=cnd hs
    have hsk:S5 (get A) (match o.dst with|some d=>[⟨d,false,.one .un⟩]|none=>[])=get (Ie o B):=by
     unfold Ie
     cases o.dst with
     |none=>exact hBA.symm
     |some d=>rw[← hBA];exact(Hr [⟨d,false,.one .un⟩] B).symm
    refine next (y:=Ig o i lg [dj]) (x:=⟨λ g=>g dj=get A dj,λ g=>S5 g (match o.dst with|some d=>[⟨d,false,.one .un⟩]|none=>[])⟩) (A1:=Ie o B) rfl rfl rfl hsk ?_ (Fia hV hi hd.1 (λ S a hS hN=>hw S a hS hN)) hok hev
    have hmap:(match o.dst with|some d=>[(⟨d,false,.one .un⟩:Up)]|none=>[]).map Up.l=o.dst.toList:=by cases o.dst<;>rfl
    refine⟨λ p hp=>Vg _ hp,λ g g' h hn=>by show g' dj=get A dj;rw[← h dj (by show dj∈[dj]++_;simp)];exact hn,λ g p hp=>J0 _ g p (by rw[hmap];exact hp),λ g g' p _ h=>J1 _ g g' p h,λ t j d h=>by cases h⟩
   split at h
   ·rename_i hgd;exact exec A [] rfl (λ S a _ _=>by unfold Region.wanted;rw[hgd]) h
   ·rename_i j want hgd;split at h
    ·cases h
    ·rename_i dj hdj;obtain⟨hb,h⟩:=cs h;split at h
     ·rename_i n b hgt;have hwant:∀ (S:Sit) (a:Act),Ae X S a→S.g dj=get A dj→Region.wanted o (yielded ops a.tmps)=(b==want):=λ S a hS hs=>(Tq hV.en hS hgd hdj hb).1 b (by rw[hs,hgt])
      cases b with
      |true=>
       rw[cond_true]at h
       cases want with
       |true=>
        rw[cond_true]at h;exact exec (lit A dj n true) [dj] (Lw hgt) (λ S a hS hs=>hwant S a hS (hs dj (by simp))) h
       |false=>
        rw[cond_false]at h;exact skip (lit A dj n true) dj (Lw hgt) (λ S a hS hs=>hwant S a hS hs) h
      |false=>
       rw[cond_false]at h
       cases want with
       |true=>
        rw[cond_true]at h;exact skip (lit A dj n false) dj (Lw hgt) (λ S a hS hs=>hwant S a hS hs) h
       |false=>
        rw[cond_false]at h;exact exec (lit A dj n false) [dj] (Lw hgt) (λ S a hS hs=>hwant S a hS (hs dj (by simp))) h
     ·rename_i n hgt;exact skip A dj rfl (λ S a hS hs=>(Tq hV.en hS hgd hdj hb).2 (by rw[hs,hgt])) h
     ·cases h
def Fja (hV:Lv X E) (hm:X.P.follows .mixedOrders=true):Q2 X E:=by
 intro R id ops Q S a A K r hK hg h hQ;refine wp_region_any hm ?_;obtain⟨L,A',hA',T⟩:=Tt (X:=X) (ops:=ops) (Q:=Q) hV _ [] A K r (by simp) h
 have hlen:L.length=ops.size:=by
  have:=congrArg length T.ix
  simpa using this
 have hmem:∀ z∈L,z.1.i<ops.size:=by
  intro z hz;have:z.1.i∈L.map (λ z=>z.1.i):=Yl hz;rw[T.ix]at this
  simpa using this
 have K2:=(hK.world (w' := { S.w with drawn:=S.w.drawn+1 }) (O':=S.O) (λ k _ _=>⟨rfl,rfl⟩) rfl rfl rfl (Vo _) hK.lt).1;refine Dva (X:=X) (f:=get A') ?_ (λ S' a' A2 K' g' e'=>hQ S' a' A' K' (by rw[g',e']) hA') ops.size (L.map λ z=>(z.1.i,z.2)) _ (Kj S { S.w with drawn:=S.w.drawn+1 } S.O) a A (by simp[hlen]) (by simp) ?_ ?_ ?_ ?_ ?_ ?_ K2 hg ?_
 ·intro i o hi j hj;have hil:i<ops.size:=(Yw.1 hi).1;obtain⟨o',h1,h2⟩:=T.lt i (by simpa using hil);rw[hi]at h1;cases h1;exact h2 j hj
 ·rw[Kta]
  have hp:(L.map (λ z=>z.1.i)).Pairwise (· < ·):=by rw[T.ix];exact List.pairwise_lt_range
  rw[Kta]at hp;exact hp
 ·intro i hi;constructor
  ·intro _
   have:i∈L.map (λ z=>z.1.i):=by rw[T.ix];simpa using hi
   obtain⟨z,hz,hzi⟩:=Zc.1 this;exact⟨(z.1.i,z.2),Yl hz,hzi⟩
  ·intro _;simp[We,hi]
 ·rw[Kta];refine List.Pairwise.imp_of_mem ?_ T.pair;intro y z hy hz h;rcases h with h|h
  ·exact .inl (T.anc z hz _ h)
  ·exact .inr ((T.fits y hy).1.ind (T.fits z hz).1 h)
 ·intro x hx;obtain⟨z,hz,rfl⟩:=Zc.1 hx;exact(T.fits z hz).2
 ·intro x hx;obtain⟨z,hz,rfl⟩:=Zc.1 hx;exact hmem z hz
 ·intro i o hi hl;have hil:i<ops.size:=(Yw.1 hi).1;simp[We,hil]at hl
 ·have:(L.map λ z=>(z.1.i,z.2)).map Prod.snd=L.map Prod.snd:=by simp
  rw[this];exact T.runs
end
end

section
attribute [local irreducible] C H
def Ty.fit (ti:TypeId→Option TI):(t:Ty)→t.den→Prop
 |.i k,n=>(Lit.int k n).wf=true
 |.b,_=>True
 |.s,x=>x.size≤140737488351232
 |.sl e r,xs=>(∀ te,ti e=some te→xs.length*te.by_≤140737488351232)∧∀ x∈xs,r.fit ti x
 |.ow e r,xs=>(∀ te,ti e=some te→xs.length*te.by_≤140737488351232)∧∀ x∈xs,r.fit ti x
 |.pr x y,p=>x.fit ti p.1∧y.fit ti p.2
def Hba (ti:TypeId→Option TI) (T:TypeId) (ty:Ty):Bool:=match ti T with
 |some t=>decide (t.ty=ty)
 |none=>false
def Jv (ti:TypeId→Option TI):List Field→Nat→Ty→Bool
 |[],_,_=>false
 |[f],o,ty=>Nat.beq f.offset o&&Hba ti f.type ty
 |f::g::fs,o,.pr x y=>Nat.beq f.offset o&&Hba ti f.type x&&Jv ti (g::fs) (o+x.sz) y
 |_,_,_=>false
def J2 (P:Program) (ti:TypeId→Option TI) (T:TypeId):Bool:=match ti T,P.underlying T with
 |none,_=>true
 |some t,some (.struct fs)=>t.ag&&Jv ti fs.toList 0 t.ty
 |some ⟨.sl e r,false,_,_⟩,some (.slice e')=>Nat.beq e e'&&Hba ti e r
 |some ⟨.i k,false,_,_⟩,some (.int k')=>decide (k=k')
 |some ⟨.b,false,_,_⟩,some .bool=>true
 |some ⟨.s,false,_,_⟩,some .string=>true
 |_,_=>false
section
variable {H':Type} {enc:TypeId×Value→H'} {P:Program} {w:World} {base:Nat} {spare:Nat→Bool} {held:Bool} {ti:TypeId→Option TI}
def Hc {T:TypeId} {ty:Ty} (h:Hba ti T ty=true):∃ t,ti T=some t∧t.ty=ty:=by
 unfold Hba at h;split at h
 ·rename_i t ht;exact⟨t,ht,of_decide_eq_true h⟩
 ·cases h
def J3 {T:TypeId} {t:TI} (h:TOk P T t):P.cellsOf T=t.ty.sz:=by
 unfold Program.cellsOf;rw[Hi h];rfl
def Aka {T:TypeId} {t:TI} (h:TOk P T t):P.bytesOf T=t.by_:=by
 obtain⟨i,h1,_,h2,_⟩:=h.info;unfold Program.bytesOf;rw[h1];exact h2
def Ala {α:Type} {R:α→List Value→Prop} {Fit:α→Prop} {k o n:Nat}:∀ (len:Nat),(∀ i,i<len→∃ x c,R x c∧Fit x∧c.length=n∧Bj w k (o+i*n) c)→
  ∃ (xs:List α) (cs:List Value),xs.length=len∧Rows R xs cs∧(∀ x∈xs,Fit x)∧cs.length=len*n∧Bj w k o cs
 |0,_=>⟨[],[],rfl,rfl,by simp,by simp,by intro j u hj;simp at hj⟩
 |len+1,h=>by
  obtain⟨xs,cs,h1,h2,h3,h4,h5⟩:=Ala len (λ i hi=>h i (by omega));obtain⟨x,c,g1,g2,g3,g4⟩:=h len (by omega);refine⟨xs++[x],cs++c,by simp[h1],Rows.append h2 ⟨c,[],by simp,g1,rfl⟩,?_,?_,?_⟩
  ·intro y hy;rcases Vn.1 hy with hy|hy
   ·exact h3 y hy
   ·simp at hy;subst hy;exact g2
  ·rw[Vi,h4,g3,Yf,Yi]
  ·intro j u hj
   by_cases hlt:j<cs.length
   ·rw[Yd hlt]at hj;exact h5 j u hj
   ·rw[Yb (by omega)]at hj;have:=g4 (j-cs.length) u hj;rw[h4]at this hlt;rwa [show o+len*n+(j-len*n)=o+j by omega]at this
def Cwa {a:Addr} {n:Nat} {cs:List Value} (h:w.cells? base a n=some cs) (hn:0<n):a.spot=none∧a.block<w.heap.size∧cs.length=n∧Bj w a.block a.off cs:=by
 unfold World.cells? at h;split at h
 ·have hl:=mapM_some_length h;have hg:=λ i hi=>mapM_some_get h i i hi;simp only[List.length_range]at hl;have h0:w.cell? (a.add 0)=cs[0]? := hg 0 (by simp[hn]);have hc0:∃ v,cs[0]? = some v:=⟨_,Vp (by omega)⟩;obtain⟨v,hv⟩:=hc0;rw[hv]at h0
  have hspot:a.spot=none∧a.block<w.heap.size:=by
   unfold World.cell? at h0;split at h0
   ·rename_i c e f hb;refine⟨?_,(Yw.1 hb).1⟩
    cases hs:a.spot with
    |none=>rfl
    |some s=>simp[Addr.add,hs]at h0
   ·cases h0
  refine⟨hspot.1,hspot.2,hl,λ j u hj=>?_⟩
  have hjl:j<n:=by have:=(Wc.1 hj).1;omega
  have:=hg j (by simp[hjl]);rw[hj]at this;obtain⟨b,off,sp⟩:=a;have hsp:sp=none:=hspot.1;subst hsp;rw[Ey]at this;exact this
 ·cases h
def M5 {T:TypeId}:∀ {ds:List (DataW H')} {m:Nat},m∈DataW.weightsAll P T ds↔∃ d∈ds,m∈d.weights P T
 |[],m=>by simp[DataW.weightsAll]
 |d::ds,m=>by
  simp only[DataW.weightsAll,Vn,Vk,M5 (ds:=ds)];constructor
  ·rintro (h|⟨d',h1,h2⟩)
   ·exact⟨d,.inl rfl,h⟩
   ·exact⟨d',.inr h1,h2⟩
  ·rintro⟨d',rfl|h1,h2⟩
   ·exact .inl h2
   ·exact .inr ⟨d',h1,h2⟩
def Hca (enc:TypeId×Value→H') (P:Program) (w:World) (base:Nat) (spare:Nat→Bool) (held:Bool) (ti:TypeId→Option TI) (n:Nat):Prop:=
 ∀ T t cs y,ti T=some t→DataW.trod enc P w base spare held n T cs=some y→(∀ m∈y.1.weights P T,m≤140737488351232)→∃ X:t.ty.den,t.ty.rep P (λ k=>k<w.heap.size) w X cs∧t.ty.fit ti X
def M6 (htok:∀ T t,ti T=some t→TOk P T t) {n:Nat} (ih:Hca enc P w base spare held ti n) {cs:List Value}:∀ (fs:List Field) (o:Nat) (ty:Ty) (xs:List (DataW H'×List MemPlace)),Jv ti fs o ty=true→xs.length=fs.length→
  (∀ (i:Nat) (f:Field),fs[i]? = some f→DataW.trod enc P w base spare held n f.type ((cs.drop f.offset).take (P.cellsOf f.type))=xs[i]?)→(∀ m∈DataW.weightsEach P (fs.map (·.type)) (xs.map (·.1)),m≤140737488351232)→o+ty.sz≤cs.length→
  ∃ X:ty.den,ty.rep P (λ k=>k<w.heap.size) w X ((cs.drop o).take ty.sz)∧ty.fit ti X
 |[],o,ty,xs,hp,_,_,_,_=>by cases ty<;>simp[Jv]at hp
 |[f],o,ty,xs,hp,hl,ht,hw,hs=>by
  simp only[Jv,Va]at hp;obtain⟨t,h1,h2⟩:=Hc hp.2;have ho:f.offset=o:=Vb hp.1;subst h2;have e:=ht 0 f rfl
  cases xs with
  |nil=>simp at hl
  |cons y xs=>
   have e':DataW.trod enc P w base spare held n f.type ((cs.drop f.offset).take (P.cellsOf f.type))=some y:=by simpa using e
   rw[J3 (htok _ _ h1),ho]at e';exact ih f.type t _ y h1 e' (λ m hm=>hw m (by simp[DataW.weightsEach,hm]))
 |f::g::fs,o,ty,xs,hp,hl,ht,hw,hs=>by
  cases ty<;>first|(simp[Jv]at hp;done)|skip
  rename_i x y;simp only[Jv,Va]at hp;obtain⟨⟨h0,h1a⟩,hp⟩:=hp;obtain⟨t,h1,h2⟩:=Hc h1a;have ho:f.offset=o:=Vb h0;subst h2;have e:=ht 0 f rfl
  cases xs with
  |nil=>simp at hl
  |cons z xs=>
   have e':DataW.trod enc P w base spare held n f.type ((cs.drop f.offset).take (P.cellsOf f.type))=some z:=by simpa using e
   rw[J3 (htok _ _ h1),ho]at e';have hsz:o+(t.ty.sz+y.sz)≤cs.length:=hs;obtain⟨X,r1,f1⟩:=ih f.type t _ z h1 e' (λ m hm=>hw m (by simp[DataW.weightsEach,hm]))
   obtain⟨Y,r2,f2⟩:=M6 htok ih (g::fs) (o+t.ty.sz) y xs hp (by simpa using hl) (λ i f' hf'=>by have:=ht (i+1) f' hf';simpa using this) (λ m hm=>hw m (by
    simp only[Ya,DataW.weightsEach,Vn]
    exact .inr hm)) (by omega)
   refine⟨(X,Y),⟨_,_,?_,r1,r2⟩,f1,f2⟩;show (cs.drop o).take (t.ty.sz+y.sz)=_;rw[List.take_add,Wk]
def Oo (htok:∀ T t,ti T=some t→TOk P T t) (hcl:∀ T,J2 P ti T=true):∀ n,Hca enc P w base spare held ti n
 |0=>by
  intro T t cs y _ h;simp[DataW.trod]at h
 |n+1=>by
  intro T t cs y hT h hw;have hc:=hcl T;have hk:=htok T t hT;unfold J2 at hc;rw[hT]at hc;split at hc
  ·rename_i e;cases e
  ·-- a struct
   rename_i t0 fs e1 hu;cases e1;simp only[Va]at hc;obtain⟨xs,n',e1,rfl,hl,hxl,hx⟩:=DataW.trod_struct hu h
   have:n'=n:=by omega
   subst this;rw[J3 hk]at hl;have hw':∀ m∈DataW.weightsEach P (fs.toList.map (·.type)) (xs.map (·.1)),m≤140737488351232:=λ m hm=>hw m (by simp only[DataW.weights,hu];exact hm);obtain⟨X,r,f⟩:=M6 htok (Oo htok hcl n') fs.toList 0 t.ty xs hc.2 (by simpa using hxl) (λ i f hf=>hx i f (by simpa using hf)) hw' (by omega);rw[Wj,← hl,Kha]at r;exact⟨X,r,f⟩
  ·-- a slice
   rename_i e r by_ fo e' e1 hu;cases e1;simp only[Va]at hc;obtain⟨te,hte,hty⟩:=Hc hc.2;have he:e=e':=Vb hc.1;subst he;subst hty;have hke:=htok e te hte;have hsz:La P e te.ty.sz:=Hi hke;rcases DataW.trod_slice hu h with⟨rfl,rfl⟩|⟨a,len,cap,elems,rest,n',e1,rfl,rfl,hb,hl,hm,hlen,hel,hsp,hns⟩
   ·exact⟨[],⟨_,rfl,hsz,none,0,[],rfl,Vo _,rfl,λ h=>(h rfl).elim⟩,by simp,by simp⟩
   ·have:n'=n:=by omega
    subst this
    have hlw:(elems.map (·.1)).length+(rest.map (·.1)).length=elems.length+rest.length:=by simp
    have hw0:(elems.length+rest.length)*P.bytesOf e≤140737488351232:=hw _ (by simp only[DataW.weights,hu];simp);rw[Aka hke]at hw0;rw[J3 hke]at hel;have hpos:=Gu te.ty
    have each:∀ i,i<len→∃ x c,te.ty.rep P (λ k=>k<w.heap.size) w x c∧te.ty.fit ti x∧c.length=te.ty.sz∧((i=0→a.spot=none)∧a.block<w.heap.size)∧Bj w a.block (a.off+i*te.ty.sz) c:=by
     intro i hi;have e1:=hel i hi;rw[Vp (by omega)]at e1;simp only[Option.bind_eq_some_iff]at e1;obtain⟨c,hc1,hc2⟩:=e1;obtain⟨g1,g2,g3,g4⟩:=Cwa hc1 hpos
     obtain⟨X,r1,f1⟩:=Oo htok hcl n' e te c _ hte hc2 (λ m hm=>hw m (by
      simp only[DataW.weights,hu,Vk,Vn]
      exact .inr (.inl (M5.2 ⟨_,Yl (Kva (l:=elems) (n:=i) (by omega)),hm⟩))))
     have hblk:(a.add (i*te.ty.sz)).block=a.block∧(a.add (i*te.ty.sz)).off=a.off+i*te.ty.sz:=by
      unfold Addr.add;split
      ·rename_i h0;exact⟨rfl,by omega⟩
      ·exact⟨rfl,rfl⟩
     rw[hblk.1,hblk.2]at g4;rw[hblk.1]at g2;refine⟨X,c,r1,f1,g3,⟨λ h0=>?_,g2⟩,g4⟩;subst h0;rw[Zg]at g1;exact g1
    obtain⟨xs,cs,h1,h2,h3,h4,h5⟩:=Ala (w:=w) (k:=a.block) (o:=a.off) (n:=te.ty.sz) (R:=λ x c=>te.ty.rep P (λ k=>k<w.heap.size) w x c) (Fit:=te.ty.fit ti) len (λ i hi=>by
     obtain⟨x,c,q1,q2,q3,q4,q5⟩:=each i hi
     exact⟨x,c,q1,q2,q3,q5⟩)
    refine⟨xs,⟨_,rfl,hsz,some a,cap,cs,by rw[h1],by omega,h2,λ hne=>?_⟩,λ te' ht'=>?_,h3⟩
    ·have hpos:0<len:=by rw[← h1];cases xs with|nil=>exact(hne rfl).elim|cons=>simp
     obtain⟨x,c,q1,q2,q3,q4,q5⟩:=each 0 hpos;refine⟨a.block,a.off,?_,q4.2,h5⟩;obtain⟨b,off,sp⟩:=a;have hsp:sp=none:=q4.1 rfl;rw[hsp]
    ·rw[hte]at ht';cases ht';rw[h1,← hlen];exact Yo (Wd _ (Nat.le_add_right _ _)) hw0
  ·rename_i k by_ fo k' e1 hu;cases e1;have:k=k':=of_decide_eq_true hc;subst this;obtain⟨m,rfl,rfl,hwf⟩:=DataW.trod_int hu h;exact⟨m,rfl,hwf⟩
  ·rename_i by_ fo e1 hu;cases e1;obtain⟨b,rfl,rfl⟩:=DataW.trod_bool hu h;exact⟨b,rfl,trivial⟩
  ·rename_i by_ fo e1 hu;cases e1;obtain⟨s,rfl,rfl,hs⟩:=DataW.trod_string hu h;refine⟨s,rfl,?_⟩;have:=hw s.data.toList.length (by rw[show (DataW.lit (.string s.data.toList):DataW H').weights P T=[s.data.toList.length] from by simp only[DataW.weights]];exact Vx.2 rfl);have e:s.data.toList.length=s.size:=Yh;rw[e]at this;exact this
  ·cases hc
end
end

section
attribute [local irreducible] C H
def eq1:Lf→Lf→Option Bool
 |.sc (.int k x),.sc (.int k' y)=>if k=k' then some (x==y) else none
 |.sc (.bool x),.sc (.bool y)=>some (x==y)
 |.sc (.string x),.sc (.string y)=>some (x==y)
 |_,_=>none
def Cxa (a a':Lf) (l l':List Lf) {b:Bool} (h:Bf (a::l) (a'::l')=some b):∃ b1 b2,eq1 a a'=some b1∧Bf l l'=some b2∧b=(b1&&b2):=by
 unfold Bf at h;split at h
 ·rename_i e _;cases e
 ·rename_i k x k' y e1 e2;cases e1;cases e2
  by_cases hk:k=k'
  ·simp only[hk,decide_true,cond_true,Vc]at h;exact⟨x==y,true,by simp only[eq1,hk,if_true],rfl,by simp[h]⟩
  ·simp[hk]at h
 ·rename_i x y e1 e2;cases e1;cases e2;simp only[Vc]at h;exact⟨_,true,rfl,rfl,by simp[h]⟩
 ·rename_i x y e1 e2;cases e1;cases e2;simp only[Vc]at h;exact⟨_,true,rfl,rfl,by simp[h]⟩
 ·rename_i k x l k' y l' _ e1 e2;cases e1;cases e2
  by_cases hk:k=k'
  ·simp only[hk,decide_true,cond_true]at h;split at h
   ·rename_i b2 hb;simp only[Vc]at h;exact⟨_,b2,by simp only[eq1,hk,if_true],hb,h.symm⟩
   ·cases h
  ·simp[hk]at h
 ·rename_i x l y l' _ e1 e2;cases e1;cases e2;split at h
  ·rename_i b2 hb;simp only[Vc]at h;exact⟨_,b2,rfl,hb,h.symm⟩
  ·cases h
 ·rename_i x l y l' _ e1 e2;cases e1;cases e2;split at h
  ·rename_i b2 hb;simp only[Vc]at h;exact⟨_,b2,rfl,hb,h.symm⟩
  ·cases h
 ·cases h
def N8:∀ (l m l' m':List Lf) (b:Bool),l.length=l'.length→Bf (l++m) (l'++m')=some b→∃ b1 b2,Bf l l'=some b1∧Bf m m'=some b2∧b=(b1&&b2)
 |[],m,[],m',b,_,h=>⟨true,b,rfl,h,by simp⟩
 |[],_,_::_,_,_,hl,_=>by simp at hl
 |_::_,_,[],_,_,hl,_=>by simp at hl
 |a::l,m,a'::l',m',b,hl,h=>by
  obtain⟨b1,b2,h1,h2,rfl⟩:=Cxa a a' (l++m) (l'++m') h;obtain⟨b3,b4,h3,h4,rfl⟩:=N8 l m l' m' b2 (by simpa using hl) h2;refine⟨b1&&b3,b4,?_,h4,by simp[Bool.and_assoc]⟩
  cases a with
  |sc u=>
   cases a' with
   |sc u'=>
    cases u<;>first|(simp[eq1]at h1;done)|skip
    all_goals (cases u'<;>first|(simp[eq1]at h1;done)|skip)
    ·rename_i x y;simp only[eq1,Vc]at h1
     cases l<;>cases l'<;>first|(simp at hl;done)|skip
     ·simp only[Bf,Vc]at h3;simp only[Bf];rw[← h3,← h1,L4a]
     ·simp only[Bf,h3];rw[← h1]
    ·rename_i k x k' y;simp only[eq1]at h1
     by_cases hk:k=k'
     ·rw[if_pos hk]at h1;simp only[Vc]at h1
      cases l<;>cases l'<;>first|(simp at hl;done)|skip
      ·simp only[Bf,Vc]at h3;simp only[Bf,hk,decide_true,cond_true];rw[← h3,← h1,L4a]
      ·simp only[Bf,hk,decide_true,cond_true,h3];rw[← h1]
     ·rw[if_neg hk]at h1;cases h1
    ·rename_i x y;simp only[eq1,Vc]at h1
     cases l<;>cases l'<;>first|(simp at hl;done)|skip
     ·simp only[Bf,Vc]at h3;simp only[Bf];rw[← h3,← h1,L4a]
     ·simp only[Bf,h3];rw[← h1]
   |_=>cases u<;>simp[eq1]at h1
  |_=>simp[eq1]at h1
def eqB (P:Program) (ti:TypeId→Option TI):Nat→TypeId→Bool
 |0,_=>false
 |n+1,T=>match ti T,P.underlying T with
  |some t,some (.struct fs)=>t.ag&&!(P.stoodInHeld T)&&Jv ti fs.toList 0 t.ty&&fs.toList.all (λ f => !(f.name == "_")&&eqB P ti n f.type)
  |some ⟨.i _,false,_,_⟩,some (.int _)=>true
  |some ⟨.b,false,_,_⟩,some .bool=>true
  |some ⟨.s,false,_,_⟩,some .string=>true
  |_,_=>false
section
variable {P:Program} {ti:TypeId→Option TI} {G:Nat→Prop} {w:World}
def Hda (P:Program) (ti:TypeId→Option TI) (G:Nat→Prop) (w:World) (n:Nat):Prop:=
 ∀ T t d (X Y:t.ty.den) (us vs:List Value) (x y:Value) (b:Bool) (w':World),n≤d→eqB P ti n T=true→ti T=some t→Ew (E9 P G w) (A4 t.ty X) us→Ew (E9 P G w) (A4 t.ty Y) vs→Bf (A4 t.ty X) (A4 t.ty Y)=some b→
  (if t.ag then x = .agg us.toArray else us=[x])→(if t.ag then y = .agg vs.toArray else vs=[y])→(Op.equalIn d T x y).run P w' = .ok b w'
def Ky {T:TypeId} {t:TI} (hk:TOk P T t) {us:List Value} {off:Nat} (hl:off+t.ty.sz≤us.length) (w':World):
  ∃ u,(part T us.toArray off).run P w' = .ok u w'∧(if t.ag then u = .agg ((us.drop off).take t.ty.sz).toArray else (us.drop off).take t.ty.sz=[u]):=by
 obtain⟨d,hd,hagg⟩:=Rb hk
 cases ha:t.ag with
 |true=>
  rw[ha]at hagg;refine⟨.agg (us.toArray.extract off (off+t.ty.sz)),?_,?_⟩
  ·unfold part;simp only[Vt,Gf hd hagg,Vs,if_true,Ea (Hi hk),Wh]
  ·simp only[if_true];congr 1;apply Ksa;rw[Array.toList_extract];simp[List.extract]
 |false=>
  rw[ha]at hagg;have h1:=Xh hk ha
  have hlt:off<us.length:=by omega
  refine⟨us[off],?_,?_⟩
  ·unfold part;simp only[Vt,Gf hd hagg,Vs,Wa,if_false]
   have:us.toArray[off]? = some us[off]:=by simp[hlt]
   rw[this];rfl
  ·simp only[Wa,if_false];rw[h1,Yg hlt];rfl
def Qe (htok:∀ T t,ti T=some t→TOk P T t) {n:Nat} (ih:Hda P ti G w n) {d:Nat} (hd:n≤d) {us vs:List Value} (w':World):
  ∀ (fs:List Field) (o:Nat) (ty:Ty) (X Y:ty.den) (b:Bool),Jv ti fs o ty=true→fs.all (λ f => !(f.name == "_")&&eqB P ti n f.type)=true→o+ty.sz≤us.length→o+ty.sz≤vs.length→
   Ew (E9 P G w) (A4 ty X) ((us.drop o).take ty.sz)→Ew (E9 P G w) (A4 ty Y) ((vs.drop o).take ty.sz)→
   Bf (A4 ty X) (A4 ty Y)=some b→(Op.eqFields d us.toArray vs.toArray fs).run P w' = .ok b w'
 |[],o,ty,X,Y,b,hp,_,_,_,_,_,_=>by cases ty<;>simp[Jv]at hp
 |[f],o,ty,X,Y,b,hp,ha,hl,hl',h0,h0',he=>by
  simp only[Jv,Va]at hp;simp only[Kua,Va,Wg,beq_eq_false_iff_ne]at ha;obtain⟨⟨a1,a2⟩,_⟩:=ha;obtain⟨t,h1,h2⟩:=Hc hp.2;have ho:f.offset=o:=Vb hp.1;subst h2;subst ho;obtain⟨x,hx1,hx2⟩:=Ky (htok _ _ h1) hl w';obtain⟨y,hy1,hy2⟩:=Ky (htok _ _ h1) hl' w';have hr:=ih f.type t d X Y _ _ x y b w' hd a2 h1 h0 h0' he hx2 hy2;simp only[Op.eqFields,ne_eq,a1,not_false_eq_true,if_true,Vt,hx1,hy1,hr,Vs]
  cases b<;>rfl
 |f::g::fs,o,ty,X,Y,b,hp,ha,hl,hl',h0,h0',he=>by
  cases ty<;>first|(simp[Jv]at hp;done)|skip
  rename_i tx tyy;simp only[Jv,Va]at hp;obtain⟨⟨q0,q1⟩,hp⟩:=hp;rw[Kua,Va]at ha;obtain⟨ha0,ha⟩:=ha;simp only[Va,Wg,beq_eq_false_iff_ne]at ha0;obtain⟨a1,a2⟩:=ha0;obtain⟨t,h1,h2⟩:=Hc q1;have ho:f.offset=o:=Vb q0;subst h2;subst ho;have hl2:f.offset+(t.ty.sz+tyy.sz)≤us.length:=hl;have hl2':f.offset+(t.ty.sz+tyy.sz)≤vs.length:=hl';have he2:Bf (A4 t.ty X.1++A4 tyy X.2) (A4 t.ty Y.1++A4 tyy Y.2)=some b:=he;have r0:Ew (E9 P G w) (A4 t.ty X.1++A4 tyy X.2) ((us.drop f.offset).take (t.ty.sz+tyy.sz)):=h0;have r0':Ew (E9 P G w) (A4 t.ty Y.1++A4 tyy Y.2) ((vs.drop f.offset).take (t.ty.sz+tyy.sz)):=h0';have k1:=r0.take t.ty.sz;have k2:=r0.drop t.ty.sz;have k1':=r0'.take t.ty.sz;have k2':=r0'.drop t.ty.sz;have c1:=Ch t.ty X.1;have c1':=Ch t.ty Y.1;rw[← c1,K0a,c1,Zk,Zh (by omega)]at k1;rw[← c1',K0a,c1',Zk,Zh (by omega)]at k1'
  have c2:∀ l:List Value,List.drop t.ty.sz (List.take (t.ty.sz+tyy.sz) l)=List.take tyy.sz (List.drop t.ty.sz l):=λ l=>by rw[L2a];congr 1;omega
  rw[c2,Wk]at k2 k2';rw[show List.drop t.ty.sz (A4 t.ty X.1++A4 tyy X.2)=A4 tyy X.2 by rw[← c1,Yv]]at k2;rw[show List.drop t.ty.sz (A4 t.ty Y.1++A4 tyy Y.2)=A4 tyy Y.2 by rw[← c1',Yv]]at k2';obtain⟨b1,b2,e1,e2,rfl⟩:=N8 _ _ _ _ b (by rw[c1,c1']) he2;obtain⟨x,hx1,hx2⟩:=Ky (htok _ _ h1) (us:=us) (off:=f.offset) (by omega) w';obtain⟨y,hy1,hy2⟩:=Ky (htok _ _ h1) (us:=vs) (off:=f.offset) (by omega) w';have hr:=ih f.type t d X.1 Y.1 _ _ x y b1 w' hd a2 h1 k1 k1' e1 hx2 hy2;have hr2:=Qe htok ih hd w' (g::fs) (f.offset+t.ty.sz) tyy X.2 Y.2 b2 hp ha (by omega) (by omega) k2 k2' e2;rw[Op.eqFields];simp only[ne_eq,a1,not_false_eq_true,if_true,Vt,hx1,hy1,hr,Vs];cases b1
  ·rfl
  ·simpa using hr2
def Dxa (htok:∀ T t,ti T=some t→TOk P T t):∀ n,Hda P ti G w n
 |0=>by
  intro T t d X Y us vs x y b w' _ h;simp[eqB]at h
 |n+1=>by
  intro T t d X Y us vs x y b w' hd h hT hl hl' he hx hy;obtain⟨d,rfl⟩:∃ m,d=m+1:=⟨d-1,by omega⟩
  have one:∀ {us:List Value} {x:Value} {z:Lf},us=[x]→Ew (E9 P G w) [z] us→E9 P G w z x:=by
   intro us x z e h;subst e
   cases h with
   |cons a h=>exact a
  unfold eqB at h;rw[hT]at h;split at h
  ·rename_i t0 fs e1 hu;cases e1;simp only[Va,Wg]at h;obtain⟨⟨⟨h1,h2⟩,h3⟩,h4⟩:=h;rw[h1]at hx hy;simp only[if_true]at hx hy;subst hx hy
   have hfs:P.fieldsOf T=fs:=by unfold Program.fieldsOf;rw[hu]
   rw[run_equalIn_struct w' d T _ _ (by rw[hfs];exact hu) h2,hfs];have e1:=hl.len;have e2:=hl'.len;rw[Ch]at e1 e2;exact Qe htok (Dxa htok n) (by omega) w' fs.toList 0 t.ty X Y b h3 h4 (by omega) (by omega) (by rw[Wj,← e1,Kha];exact hl) (by rw[Wj,← e2,Kha];exact hl') he
  ·rename_i k by_ fo k' e1 hu;cases e1;simp only[Wa,if_false]at hx hy;have hz:=(one hx hl).1;have hz':=(one hy hl').1;subst hz hz'
   have he':(X==Y)=b:=by simpa[A4,Bf] using he
   rw[← he'];simp[Op.equalIn,run_underlying hu]
  ·rename_i by_ fo e1 hu;cases e1;simp only[Wa,if_false]at hx hy;have hz:=(one hx hl).1;have hz':=(one hy hl').1;subst hz hz'
   have he':(X==Y)=b:=by simpa[A4,Bf] using he
   rw[← he'];simp[Op.equalIn,run_underlying hu]
  ·rename_i by_ fo e1 hu;cases e1;simp only[Wa,if_false]at hx hy;have hz:=(one hx hl).1;have hz':=(one hy hl').1;subst hz hz'
   have he':(X==Y)=b:=by simpa[A4,Bf] using he
   rw[← he'];simp[Op.equalIn,run_underlying hu]
  ·cases h
end
def Hea:∀ (t:Ty) (l l':List Lf) (x:t.den),Gx l=true→mkT t l=some (x,l')→l=A4 t x++l'∧Gx l'=true:=by
 intro t
 induction t with
 |pr p q ihp ihq=>
  intro l l' x h hm;simp only[mkT]at hm;split at hm
  ·rename_i y l1 h1;split at hm
   ·rename_i z l2 h2;cases hm;obtain⟨e1,a1⟩:=ihp _ _ _ h h1;obtain⟨e2,a2⟩:=ihq _ _ _ a1 h2;refine⟨?_,a2⟩;rw[e1,e2,← Vl];rfl
   ·cases hm
  ·cases hm
 |_=>
  intro l l' x h hm
  cases l with
  |nil=>simp[mkT]at hm
  |cons z l=>
   cases z<;>first|(simp[Gx]at h;done)|skip
   rename_i v
   cases v<;>first|(simp[mkT]at hm;done)|skip
   all_goals
    simp only[Gx]at h;simp only[mkT]at hm
    first
     |(simp only[Vc,Vu]at hm;obtain⟨rfl,rfl⟩:=hm;exact⟨rfl,h⟩)
     |(
       rename_i k k' n
       by_cases hk:k=k'
       ·subst hk;simp only[decide_true,cond_true,Vc,Vu]at hm;obtain⟨rfl,rfl⟩:=hm;exact⟨rfl,h⟩
       ·simp[hk]at hm)
def Iea {P:Program} {ti:TypeId→Option TI} (htok:∀ T t,ti T=some t→TOk P T t) {T:TypeId} (h:eqB P ti 9 T=true) (hag:(match ti T with|some t=>t.ag|none=>false)=true) (hg:P.eqGuardType P.depth T=false) (G:Nat→Prop) (w w':World) (x y:Operand) (l l':List Lf) (us vs:List Value) (b:Bool)
  (h1:Ew (E9 P G w) l us) (h2:Ew (E9 P G w) l' vs) (he:Bf l l'=some b) (ha:Gx l=true) (ha':Gx l'=true) (hk:Ga (ti T) l=true) (hk':Ga (ti T) l'=true):
  (Op.equal T (.agg us.toArray) (.agg vs.toArray)).run P w' = .ok b w'∧(eqGuard .eql T x y (.agg us.toArray) (.agg vs.toArray)).run P w' = .ok () w'∧(eqGuard .neq T x y (.agg us.toArray) (.agg vs.toArray)).run P w' = .ok () w':=by
 refine⟨?_,run_eqGuard_agg w' _ T x y _ _ hg,run_eqGuard_agg w' _ T x y _ _ hg⟩;unfold Ga at hk hk';split at hk
 ·rename_i t hT;rw[hT]at hk' hag;simp only at hk' hag
  have key:∀ {l:List Lf},Gx l=true→(mkW t.ty l).isSome=true→∃ X,l=A4 t.ty X:=by
   intro l ha hk;obtain⟨X,hX⟩:=K4a.1 hk;unfold mkW at hX;split at hX
   ·rename_i z hz;cases hX;obtain⟨e1,_⟩:=Hea t.ty l [] _ ha hz;exact⟨_,by rw[e1,Yc]⟩
   ·cases hX
  obtain⟨X,rfl⟩:=key ha hk;obtain⟨Y,rfl⟩:=key ha' hk';exact Dxa htok 9 T t Op.maxDepth X Y us vs _ _ b w' (by decide) h hT h1 h2 he (by rw[hag];rfl) (by rw[hag];rfl)
 ·cases hk
end

section
open Go.RowKit
attribute [local irreducible] C H
def E4:Code→List Code
 |.seq a b=>E4 a++E4 b
 |.cond _ a b=>E4 a++E4 b
 |.block _ c=>E4 c
 |.loop c=>[c]
 |_=>[]
def Ama {X:Cx} {E:En}:∀ (c:Code),(∀ d∈E4 c,∀ L,E.lp (first d)=some L→Q1 X L d)→Fi X E c:=by
 intro c
 induction c with
 |seq a b iha ihb=>exact λ h=>⟨iha λ d hd=>h d (Vq _ hd),ihb λ d hd=>h d (Vg _ hd)⟩
 |cond x a b iha ihb=>exact λ h=>⟨iha λ d hd=>h d (Vq _ hd),ihb λ d hd=>h d (Vg _ hd)⟩
 |block i c ih=>exact λ h=>ih h
 |loop c ih=>exact λ h=>h c (by simp[E4])
 |_=>exact λ h=>trivial
def Cya {X:Cx} {E:En} {c b:Code} (ids:List Nat) (h1:E4 c=ids.map λ l=>Di l b) (h2:(ids.map λ l=>first (Di l b))=ids) (h3:∀ l∈ids,∀ L,E.lp l=some L→Q1 X L (Di l b)):Fi X E c:=by
 refine Ama c λ d hd L hL=>?_;rw[h1]at hd;obtain⟨l,hl,rfl⟩:=Zc.1 hd
 have:first (Di l b)=l:=by
  have key:∀ (is:List Nat),(is.map λ l=>first (Di l b))=is→∀ l∈is,first (Di l b)=l:=by
   intro is
   induction is with
   |nil=>intro _ l hl;simp at hl
   |cons i is ih=>
    intro e l hl;simp only[Ya,Wm]at e;rcases Vk.1 hl with rfl|hl
    ·exact e.1
    ·exact ih e.2 l hl
  exact key ids h2 l hl
 rw[this]at hL;exact h3 l hl L hL
def Hfa {P:Program} {X:Cx} {E:En} {ti:TypeId→Option TI} {eqs:TypeId→Bool} (hP:X.P=P) (h1:E.nt=X.nt) (h2:E.np=X.np) (h3:E.ti=ti) (h4:E.eq=eqs) (htok:∀ T t,ti T=some t→TOk P T t)
  (heq:∀ T,eqs T=true→eqB P ti 9 T=true∧(match ti T with|some t=>t.ag|none=>false)=true∧P.eqGuardType P.depth T=false) (hc:∀ f en,E.call f=some en→Fq P f en):Lv X E:=by
 refine⟨⟨h1,h2,λ T t h=>?_,λ T h G w w' x y l l' us vs b=>?_⟩,λ f en h=>?_⟩
 ·rw[hP];rw[h3]at h;exact htok T t h
 ·rw[hP,h3];rw[h4]at h;obtain⟨e1,e2,e3⟩:=heq T h;exact Iea htok e1 e2 e3 G w w' x y l l' us vs b
 ·rw[hP];exact hc f en h
def Fka {t:Ty} : {ts:List Ty}→t.den→Den ts→Den (t::ts)
 |[],x,_=>x
 |_::_,x,y=>(x,y)
def Qf {t:Ty} {ts:List Ty} {x:t.den} {y:Den ts}:An (t::ts) (Fka x y)=A4 t x::An ts y:=by
 cases ts<;>rfl
inductive Cza (P:Program) (w:World):(ps:List Par)→Den (ps.map Par.ty)→List Value→Prop
 |nil:Cza P w [] () []
 |cons {ag:Bool} {t:Ty} {ps:List Par} {X:t.den} {Y:Den (ps.map Par.ty)} {u:Value} {us vs:List Value} (hn:Ei t=true) (hu:if ag then u = .agg vs.toArray else vs=[u])
   (hr:t.rep P (λ k=>k<w.heap.size) w X vs) (h:Cza P w ps Y us):Cza P w (.val ag t::ps) (Fka (t:=t) (ts:=ps.map Par.ty) X Y) (u::us)
def D0a (w:World):Nat→Lab:=λ k=>if k<w.heap.size then .fz else .no
def D1a {P:Program} {w:World}:∀ {ps:List Par} {x:Den (ps.map Par.ty)} {us:List Value},Cza P w ps x us→us.length=ps.length:=by
 intro ps x us h
 induction h with
 |nil=>rfl
 |cons _ _ _ _ ih=>simp[ih]
def Ana {P:Program} {w:World} {rg:Nat→Nat×Nat} {nv:Nat} {hs:List Value}:∀ {ps:List Par} {x:Den (ps.map Par.ty)} {us:List Value} (i:Nat),Cza P w ps x us→Fp P (bare (D0a w) w) rg nv hs i ps (An _ x) us:=by
 intro ps x us i h
 induction h generalizing i with
 |nil=>trivial
 |@cons ag t ps X Y u us vs hn hu hr h ih=>
  show Fp P (bare (D0a w) w) rg nv hs i (.val ag t::ps) (An (t::ps.map Par.ty) (Fka X Y)) (u::us);rw[Qf];refine⟨⟨vs,hu,?_⟩,ih (i+1)⟩;have h1:=Gd (P:=P) (G:=λ k=>D0a w k = .fz) (w:=w) t X vs (Ty.rep_mono (λ k hk=>by unfold D0a;rw[if_pos hk]) (λ _ _=>rfl) t X vs hr);rw[Lq t X hn];exact A5.ofRep (S:=bare (D0a w) w) h1 _ _
def D2a {P:Program} {f:FuncId} {en:Ent} (hs:Ewa P f en) {w:World} {us:List Value} {x:Den (en.ps.map Par.ty)} (hc:Cza P w en.ps x us) (hnv:Nat.ble en.ps.length en.nv=true) {r:Den (en.rs.map Prod.snd++Cw en.ps)} (hr:en.run x=some r)
  (hrs:en.rs=[(.one,.b)]) (hl:∃ ls,An _ r=[.sc (.bool true)]::ls):Calls P f us.toArray w (λ e w'=>e = .returned (.bool true)∧Below w.heap.size w w'):=by
 have htk:us.take en.nv=us:=Za (by rw[D1a hc];exact Vd hnv)
 have hcalls:=hs x r hr w (D0a w) (λ _=>(0,0)) us (λ k hk=>by
  unfold D0a at hk;split at hk
  ·assumption
  ·exact(hk rfl).elim) (λ k b hk=>by
  unfold D0a at hk
  split at hk<;>cases hk) (Ana 0 hc)
 rw[htk]at hcalls;refine Ho hcalls ?_;rintro e w' ⟨v,O',rfl,hF,_,hR,_⟩;obtain⟨ls,hl⟩:=hl;rw[hl]at hR;rw[hrs]at hR;obtain⟨l,ls',e1,h1⟩:=hR;cases e1;have h2:A5 P (bare O' w') (λ _ => .tm 1 []) 0 [.sc (.bool true)] [v]:=h1;have hv:v = .bool true:=h2.1.1;subst hv;exact⟨rfl,hF.os,hF.tape,hF.out,hF.size,λ k hk=>(hF.fz k hk (by unfold D0a;rw[if_pos hk])).2⟩
def Tu {H':Type} {enc:TypeId×Value→H'} {P:Program} {w:World} {base:Nat} {spare:Nat→Bool} {held:Bool} {ti:TypeId→Option TI} (htok:∀ T t,ti T=some t→TOk P T t) (hcl:∀ T,J2 P ti T=true)
  {T:TypeId} {t:TI} (hT:ti T=some t) {v:Value} {d:DataW H'} {p:List MemPlace} {b0:Nat} (hv:Value.okWide P w .any b0 T v) (h:DataW.Trod enc P w base spare held T v d p)
  {ts:List TypeId} {ds:List (DataW H')} (hw:(DataW.weightsEach P ts ds).all (· ≤ reachBytes)=true) {j:Nat} (hj:ts[j]? = some T) (hd:ds[j]? = some d):
  ∃ (X:t.ty.den) (vs:List Value),(if t.ag then v = .agg vs.toArray else vs=[v])∧t.ty.rep P (λ k=>k<w.heap.size) w X vs∧t.ty.fit ti X:=by
 obtain⟨n,hn⟩:=h
 obtain⟨X,r,f⟩:=Oo htok hcl n T t _ _ hT hn (λ m hm=>by
  have:=Zt.1 hw m (DataW.weights_mem_each hj hd m hm)
  exact of_decide_eq_true this)
 refine⟨X,_,?_,r,f⟩;have hc:=hcl T;unfold J2 at hc;rw[hT]at hc;unfold Value.okWide at hv;split at hc
 ·rename_i e;cases e
 ·rename_i t0 fs e1 hu;cases e1;simp only[Va]at hc;rw[hc.1];rw[hu]at hv;obtain⟨cs,rfl,_⟩:=hv;simp[Value.cells]
 all_goals first
  |(cases hc;done)
  |(rename_i hu;rw[hu]at hv;simp only[Cell.okWide,hu]at hv;rename_i e1;cases e1;simp only[Wa,if_false];have hsz:=Ty.rep_len _ _ _ r;cases v<;>first|(simp[Value.cells];done)|(simp only[Cell.ok,hu]at hv;done)|(simp[Cell.ok,hu]at hv;done))
end

section
open Go.RowKit
attribute [local irreducible] C H
def lk {α:Type}:List (Nat×α)→Nat→Option α
 |[],_=>none
 |(i,a)::l,n=>bif Nat.beq n i then some a else lk l n
structure LF where
 ins:Ox
 alts:List (Ex×Ox)
 f:Nat→ins.den→Option (Bea alts)
@[reducible] def LF.at (p:LF) (k:Nat):Lp:=⟨p.ins,p.alts,p.f k⟩
structure Fd where
 nt:Nat
 nv:Nat
 nm:List Nat
 res:List Nat
 cs:Nat→List (FuncId×Ent):=λ _=>[]
 ls:List (Nat×LF):=[]
 hint:List (Nat×Ty):=[]
 mv:List Nat:=[]
 gh:List (Nat×List Gh):=[]
 opn:List Nat:=[]
 sh:Bool:=false
 rf:Bool:=false
def Fd.n (D:Fd) (ti:TypeId→Option TI) (eqs:TypeId→Bool) (k:Nat):En:=
 ⟨D.nt,ti,eqs,D.nm.contains,D.res.contains,lk (D.cs k),λ l=>match lk D.ls l with|some p=>some (p.at k)|none=>none,D.nv,lk D.hint,D.mv.contains,λ n=>(lk D.gh n).getD [],D.opn.contains,λ _=>D.sh,D.rf⟩
def Dya {α:Type}:∀ {l:List (Nat×α)} {n:Nat} {a:α},lk l n=some a→n∈l.map Prod.fst
 |[],_,_,h=>by cases h
 |(i,b)::l,n,a,h=>by
  unfold lk at h;cases hb:Nat.beq n i
  case true=>rw[Vb hb];simp
  rw[hb,cond_false]at h;exact Ve _ (Dya h)
def Fla (P:Program):List (FuncId×Ent)→Prop
 |[]=>True
 |c::l=>Fq P c.1 c.2∧Fla P l
def Aoa {P:Program}:∀ {l:List (FuncId×Ent)} {f:FuncId} {en:Ent},Fla P l→lk l f=some en→Fq P f en
 |[],_,_,_,h=>by cases h
 |(i,a)::l,f,en,hc,h=>by
  unfold lk at h
  cases hb:Nat.beq f i with
  |true=>
   rw[hb,cond_true]at h;cases h;rw[Vb hb];exact hc.1
  |false=>rw[hb,cond_false]at h;exact Aoa hc.2 h
@[reducible] def bo (fn:Func):Code:=fn.body.getD .skip
structure M7 (P:Program) (ti:TypeId→Option TI) (eqs:TypeId→Bool):Prop where
 tok:∀ T t,ti T=some t→TOk P T t
 eq:∀ T,eqs T=true→eqB P ti 9 T=true∧(match ti T with|some t=>t.ag|none=>false)=true∧P.eqGuardType P.depth T=false
 mix:P.follows .mixedOrders=true
def LK (P:Program) (fn:Func) (D:Fd) (l:Nat) (p:LF):Prop:=∀ X:Cx,X.P=P→X.nt=fn.ntmps→X.np=D.nv→∀ k,Q1 X (p.at k) (Di l (bo fn))
def Fma (P:Program) (fn:Func) (D:Fd):List Nat→Prop
 |[]=>True
 |l::r=>(match lk D.ls l with|some p=>LK P fn D l p|none=>True)∧Fma P fn D r
def Apa {P:Program} {fn:Func} {D:Fd} {l:Nat} {p:LF} (hp:lk D.ls l=some p):∀ {r:List Nat},Fma P fn D r→l∈r→LK P fn D l p
 |[],_,h=>by cases h
 |i::r,ha,h=>by
  rcases Vk.1 h with rfl|h
  ·have:=ha.1;rw[hp]at this;exact this
  ·exact Apa hp ha.2 h
section
variable {P:Program} {ti:TypeId→Option TI} {eqs:TypeId→Bool} {fn:Func}
def Ifa (hS:M7 P ti eqs) {D:Fd} {k:Nat} (hn:Nat.beq D.nt fn.ntmps=true) (hc:Fla P (D.cs k)) {X:Cx} (hP:X.P=P) (hx:X.nt=fn.ntmps) (hp:X.np=D.nv):Lv X (D.n ti eqs k):=
 Hfa hP ((Vb hn).trans hx.symm) hp.symm rfl rfl hS.tok hS.eq (λ _ _ h=>Aoa hc h)
def Hga (hS:M7 P ti eqs) {D:Fd} {k:Nat} (hn:Nat.beq D.nt fn.ntmps=true) (hc:Fla P (D.cs k)) {X:Cx} (hP:X.P=P) (hx:X.nt=fn.ntmps) (hp:X.np=D.nv):Q2 X (D.n ti eqs k):=
 Fja (Ifa hS hn hc hP hx hp) (by rw[hP];exact hS.mix)
def Dza {D:Fd} {k:Nat} {c:Code} {ids:List Nat} (h:(E4 c,ids.map λ l=>first (Di l (bo fn)))=(ids.map λ l=>Di l (bo fn),ids)) (hi:Fma P fn D ids) {X:Cx} (hP:X.P=P) (hx:X.nt=fn.ntmps) (hp:X.np=D.nv):Fi X (D.n ti eqs k) c:=by
 rw[Vu]at h;refine Cya (b:=bo fn) ids h.1 h.2 λ l hl L hL=>?_;have hL':(match lk D.ls l with|some p=>some (p.at k)|none=>none)=some L:=hL
 cases hp':lk D.ls l with
 |none=>rw[hp']at hL';cases hL'
 |some p=>
  rw[hp']at hL';cases hL';exact Apa hp' hi hl X hP hx hp k
@[reducible] def Iya (ti:TypeId→Option TI) (eqs:TypeId→Bool) (fn:Func) (D:Fd) (l:Nat) (p:LF):Prop:=∀ k x,X2 (D.n ti eqs k) (p.at k) (Di l (bo fn)) x=p.f (k+1) x
def mkL (hS:M7 P ti eqs) {D:Fd} {l:Nat} {p:LF} (ids:List Nat) (hn:Nat.beq D.nt fn.ntmps=true) (hc:∀ k,Fla P (D.cs k)) (hi:Fma P fn D ids) (h:(E4 (Di l (bo fn)),ids.map λ l=>first (Di l (bo fn)))=(ids.map λ l=>Di l (bo fn),ids)) (h0:∀ x,p.f 0 x=none) (hs:Iya ti eqs fn D l p):LK P fn D l p:=
 λ X hP hx hp=>F5a (ins:=p.ins) (alts:=p.alts) (f:=p.f) (En':=D.n ti eqs) h0 hs (λ k=>Ifa hS hn (hc k) hP hx hp) (λ k=>Hga hS hn (hc k) hP hx hp) (λ k=>Dza h hi hP hx hp)
def Iga (fn:Func) (D:Fd) (en:Ent):Bool:=Nat.beq D.nt fn.ntmps&&(Nat.ble fn.ntmps 1000&&(Nat.ble en.nv fn.ntmps&&(Nat.beq en.nv D.nv&&(fn.body.isSome&&(!(fn.name == "runtime.NumGoroutine")&&Rt en)))))
def mkS (hS:M7 P ti eqs) {f:FuncId} {D:Fd} {k:Nat} {en:Ent} (ids:List Nat) (hf:P.funcs[f]? = some fn) (hc:Fla P (D.cs k)) (hi:Fma P fn D ids) (hk:Iga fn D en=true) (h:(E4 (bo fn),ids.map λ l=>first (Di l (bo fn)))=(ids.map λ l=>Di l (bo fn),ids))
  (hr:∀ x,X4 (D.n ti eqs k) (bo fn) fn.results.toList en x=en.run x):Fq P f en:=by
 unfold Iga at hk;simp only[Va,Wg]at hk;obtain⟨h1,h2,h3,h4,h5,h6,h7⟩:=hk;have h4:=Vb h4
 have hb:fn.body=some (bo fn):=by
  unfold bo
  cases hb:fn.body with
  |none=>rw[hb]at h5;cases h5
  |some c=>rfl
 refine⟨⟨fn,hf,h6,by rw[hb];rfl⟩,Us hf hb (Vd h2) (Vd h3) (λ X hP hx hp=>?_) (λ X hP hx hp=>?_) (λ X hP hx hp=>?_) h7 hr⟩
 ·exact Ifa hS h1 hc hP hx (hp.trans h4)
 ·exact Hga hS h1 hc hP hx (hp.trans h4)
 ·exact Dza h hi hP hx (hp.trans h4)
def Iha {keys Gda:List Nat} (hk:∀ {T t},ti T=some t→T∈keys) (h1:(keys.all λ T=>(match ti T with|some t=>I8a P T t|none=>true)&&J2 P ti T)=true)
  (h2:(Gda.all λ T=>eqB P ti 9 T&&(match ti T with|some t=>t.ag|none=>false)&&!(P.eqGuardType P.depth T))=true) (he:eqs=λ T=>Gda.contains T) (hm:P.follows .mixedOrders=true):M7 P ti eqs∧∀ T,J2 P ti T=true:=by
 refine⟨⟨λ T t h=>?_,λ T h=>?_,hm⟩,λ T=>?_⟩
 ·have h3:=Zt.1 h1 T (hk h);rw[Va,h]at h3;exact Gna _ _ _ h3.1
 ·rw[he]at h;have h3:=Zt.1 h2 T (List.elem_iff.1 h);simp only[Va,Wg]at h3;exact⟨h3.1.1,h3.1.2,h3.2⟩
 ·cases h:ti T with
  |none=>unfold J2;rw[h]
  |some t=>
   have h3:=Zt.1 h1 T (hk h);rw[Va]at h3;exact h3.2
end
end

section
open Go.Proofs
@[reducible] def t0:Ty := .sl 5 (.i .u8)
@[reducible] def t1:Ty := .ow 5 (.i .u8)
@[reducible] def t2:Ty := .pr .s (.i .u64)
@[reducible] def t3:Ty := .pr .s t0
@[reducible] def t4:Ty := .pr .s t1
@[reducible] def t5:Ty := .sl 80 t3
@[reducible] def t6:Ty := .sl 65 t3
@[reducible] def t7:Ty := .ow 65 t4
@[reducible] def t8:Ty := .ow 65 t3
@[reducible] def t9:Ty := .pr (.i .i64) (.pr (.i .i64) (.i .i64))
@[reducible] def t10:Ty := .pr t0 (.pr (.i .i64) .b)
@[reducible] def t11:Ty := .pr (.i .i64) (.pr (.i .i64) (.pr .b (.i .u8)))
@[reducible] def t12:Ty := .pr t9 (.pr .b t0)
@[reducible] def t13:Ty := .pr t5 t5
@[reducible] def t14:Ty := .pr t6 t6
@[reducible] def t15:Ty := .pr t7 t7
@[reducible] def t16:Ty := .pr t8 t8
def tiL:List (Nat×TI):=[(2,⟨(.i .i64),false,8,[]⟩),
 (3,⟨(.i .i64),false,8,[]⟩),
 (4,⟨.b,false,1,[]⟩),
 (5,⟨(.i .u8),false,1,[]⟩),
 (6,⟨(.i .u8),false,1,[]⟩),
 (7,⟨t11,true,24,[(0,1,false),(1,1,false),(2,1,false),(3,1,false)]⟩),
 (8,⟨t11,true,24,[(0,1,false),(1,1,false),(2,1,false),(3,1,false)]⟩),
 (9,⟨.s,false,16,[]⟩),
 (10,⟨.s,false,16,[]⟩),
 (11,⟨.s,false,16,[]⟩),
 (12,⟨(.i .u64),false,8,[]⟩),
 (13,⟨t2,true,24,[(0,1,false),(1,1,false)]⟩),
 (14,⟨t2,true,24,[(0,1,false),(1,1,false)]⟩),
 (21,⟨(.i .i32),false,4,[]⟩),
 (22,⟨t5,false,24,[]⟩),
 (23,⟨t13,true,48,[(0,1,false),(1,1,false)]⟩),
 (24,⟨t13,true,48,[(0,1,false),(1,1,false)]⟩),
 (25,⟨t0,false,24,[]⟩),
 (27,⟨t6,false,24,[]⟩),
 (28,⟨t14,true,48,[(0,1,false),(1,1,false)]⟩),
 (29,⟨t14,true,48,[(0,1,false),(1,1,false)]⟩),
 (41,⟨t9,true,24,[(0,1,false),(1,1,false),(2,1,false)]⟩),
 (42,⟨t9,true,24,[(0,1,false),(1,1,false),(2,1,false)]⟩),
 (43,⟨t12,true,56,[(0,3,true),(3,1,false),(4,1,false)]⟩),
 (44,⟨t12,true,56,[(0,3,true),(3,1,false),(4,1,false)]⟩),
 (48,⟨t9,true,24,[(0,1,false),(1,1,false),(2,1,false)]⟩),
 (49,⟨t12,true,56,[(0,3,true),(3,1,false),(4,1,false)]⟩),
 (50,⟨t12,true,56,[(0,3,true),(3,1,false),(4,1,false)]⟩),
 (64,⟨t3,true,40,[(0,1,false),(1,1,false)]⟩),
 (65,⟨t3,true,40,[(0,1,false),(1,1,false)]⟩),
 (80,⟨t3,true,40,[(0,1,false),(1,1,false)]⟩),
 (93,⟨(.i .u64),false,8,[]⟩),
 (95,⟨t10,true,40,[(0,1,false),(1,1,false),(2,1,false)]⟩),
 (96,⟨t10,true,40,[(0,1,false),(1,1,false),(2,1,false)]⟩),
 (108,⟨(.i .u32),false,4,[]⟩),
 (114,⟨(.i .u8),false,1,[]⟩),
 (115,⟨(.i .u8),false,1,[]⟩),
 (118,⟨(.i .i32),false,4,[]⟩),
 (119,⟨(.i .i32),false,4,[]⟩)]
def ti:TypeId→Option TI:=lk tiL
def Gda:List Nat:=[41,42,48]
def eqs:TypeId→Bool:=λ T=>Gda.contains T
def sK:M7 Try.prog ti eqs∧∀ T,J2 Try.prog ti T=true:=Iha (P:=Try.prog) (ti:=ti) (eqs:=eqs) (keys:=tiL.map Prod.fst) (Gda:=Gda) Dya (by kernel_rfl) (by kernel_rfl) rfl (by kernel_rfl)
def sO:M7 Try.prog ti eqs:=sK.1
def Iza:∀ T t,ti T=some t→TOk Try.prog T t:=sO.tok
def J0a:∀ T,J2 Try.prog ti T=true:=sK.2
abbrev CK:=Fq Try.prog
abbrev LL:=LK Try.prog
abbrev AC:=Fla Try.prog
def mS {f:FuncId} {fn:Func} (D:Fd) (k:Nat) {en:Ent} (ids:List Nat) (hf:Try.prog.funcs[f]? = some fn) (hc:AC (D.cs k)) (hi:Fma Try.prog fn D ids) (h:(Iga fn D en,E4 (bo fn),ids.map λ l=>first (Di l (bo fn)))=(true,ids.map λ l=>Di l (bo fn),ids):=by kernel_rfl) (hr:∀ x,X4 (D.n ti eqs k) (bo fn) fn.results.toList en x=en.run x:=by intro x;kernel_rfl):CK f en:=mkS sO ids hf hc hi (congrArg Prod.fst h) (congrArg Prod.snd h) hr
def mL {fn:Func} {D:Fd} {l:Nat} {p:LF} (ids:List Nat) (hc:∀ k,AC (D.cs k)) (hi:Fma Try.prog fn D ids) (h:(Nat.beq D.nt fn.ntmps,E4 (Di l (bo fn)),ids.map λ l=>first (Di l (bo fn)))=(true,ids.map λ l=>Di l (bo fn),ids):=by kernel_rfl) (h0:∀ x,p.f 0 x=none:=by intro _;rfl) (hs:Iya ti eqs fn D l p:=by intro k x;kernel_rfl):LL fn D l p:=mkL sO ids (congrArg Prod.fst h) hc hi (congrArg Prod.snd h) h0 hs
def Cm.e (k:Nat):Ent:=⟨2,[(.val false t0),(.val false (.i .i64))],[(.one,(.i .i64))],λ x=>Cm x.1 x.2⟩
def Cm.d:Fd := { nt:=12,nv:=2,nm:=[0,1,2,3],res:=[4],rf:=true }
def Cm.s (k:Nat):CK 41 (Cm.e k):=mS Cm.d k [] Try.func41 trivial trivial
def Cn.e (k:Nat):Ent:=⟨2,[(.val true t3),(.val false (.i .i64))],[(.one,(.i .i64))],λ x=>Cn x.1 x.2⟩
def Cn.d:Fd := { nt:=19,nv:=2,nm:=[0,1,2,3],res:=[4],cs:=λ k=>[(41,Cm.e k)],rf:=true }
def Cn.s (k:Nat):CK 55 (Cn.e k):=mS Cn.d k [] Try.func55 ⟨Cm.s k,trivial⟩ trivial
def Aq.e (k:Nat):Ent:=⟨2,[(.val false t5),(.val false (.i .i64))],[(.one,(.i .i64))],λ x=>Aq k x.1 x.2⟩
def Bl.p:LF:=⟨⟨[],[(0,t5),(1,(.i .i64)),(5,(.i .i64))]⟩,[(.ret,⟨[],[(4,(.i .i64))]⟩),((.exit 0),⟨[],[(1,(.i .i64))]⟩)],λ k x=>Bl k x.1 x.2.1 x.2.2⟩
def Aq.d:Fd := { nt:=27,nv:=2,nm:=[0,1,2,3,5],res:=[4],cs:=λ k=>[(55,Cn.e k)],ls:=[(5,Bl.p)],rf:=true }
def Aq.a (k:Nat):AC (Aq.d.cs k):=⟨Cn.s k,trivial⟩
def Bl.s:LL Try.f24 Aq.d 5 Bl.p:=mL [] Aq.a trivial
def Aq.s (k:Nat):CK 24 (Aq.e k):=mS Aq.d k [5] Try.func24 (Aq.a k) ⟨Bl.s,trivial⟩
def D7.e (k:Nat):Ent:=⟨2,[(.val true t13),(.val false (.i .i64))],[(.one,(.i .i64))],λ x=>D7 k x.1 x.2⟩
def D7.d:Fd := { nt:=18,nv:=2,nm:=[0,1,2,3],res:=[4],cs:=λ k=>[(24,Aq.e k)],rf:=true }
def D7.s (k:Nat):CK 6 (D7.e k):=mS D7.d k [] Try.func6 ⟨Aq.s k,trivial⟩ trivial
def C8.e (k:Nat):Ent:=⟨1,[(.val false t0)],[(.one,t1)],λ x=>C8 k x⟩
def Bg.p:LF:=⟨⟨[],[(0,t0),(3,t1),(4,(.i .i64))]⟩,[((.exit 0),⟨[],[(3,t1)]⟩)],λ k x=>Bg k x.1 x.2.1 x.2.2⟩
def C8.d:Fd := { nt:=22,nv:=1,nm:=[0,1,3,4],res:=[2],ls:=[(3,Bg.p)],rf:=true }
def Bg.s:LL Try.f9 C8.d 3 Bg.p:=mL [] (λ _=>trivial) trivial
def C8.s (k:Nat):CK 9 (C8.e k):=mS C8.d k [3] Try.func9 trivial ⟨Bg.s,trivial⟩
def Co.e (k:Nat):Ent:=⟨1,[(.val true t3)],[(.agg,t4)],λ x=>Co k x⟩
def Co.d:Fd := { nt:=12,nv:=1,nm:=[0,1,3],res:=[],cs:=λ k=>[(9,C8.e k)],mv:=[11],rf:=true }
def Co.s (k:Nat):CK 57 (Co.e k):=mS Co.d k [] Try.func57 ⟨C8.s k,trivial⟩ trivial
def Ar.e (k:Nat):Ent:=⟨1,[(.val false t5)],[(.one,t7)],λ x=>Ar k x⟩
def B8.p:LF:=⟨⟨[],[(0,t5),(3,t7),(4,(.i .i64))]⟩,[((.exit 0),⟨[],[(3,t7)]⟩)],λ k x=>B8 k x.1 x.2.1 x.2.2⟩
def Ar.d:Fd := { nt:=23,nv:=1,nm:=[0,1,3,4],res:=[2],cs:=λ k=>[(57,Co.e k)],ls:=[(3,B8.p)],hint:=[(7,t4)],rf:=true }
def Ar.a (k:Nat):AC (Ar.d.cs k):=⟨Co.s k,trivial⟩
def B8.s:LL Try.f28 Ar.d 3 B8.p:=mL [] Ar.a trivial
def Ar.s (k:Nat):CK 28 (Ar.e k):=mS Ar.d k [3] Try.func28 (Ar.a k) ⟨B8.s,trivial⟩
def Ca.e (k:Nat):Ent:=⟨1,[(.val true t13)],[(.agg,t15)],λ x=>Ca k x⟩
def Ca.d:Fd := { nt:=13,nv:=1,nm:=[0,1,3],res:=[],cs:=λ k=>[(28,Ar.e k)],mv:=[12],rf:=true }
def Ca.s (k:Nat):CK 8 (Ca.e k):=mS Ca.d k [] Try.func8 ⟨Ar.s k,trivial⟩ trivial
def C9.e (k:Nat):Ent:=⟨2,[(.val false t0),(.val false t0)],[(.one,.b)],λ x=>C9 k x.1 x.2⟩
def Bh.p:LF:=⟨⟨[],[(0,t0),(1,t0),(5,(.i .i64))]⟩,[(.ret,⟨[],[(4,.b)]⟩),((.exit 0),⟨[],[]⟩)],λ k x=>Bh k x.1 x.2.1 x.2.2⟩
def C9.d:Fd := { nt:=26,nv:=2,nm:=[0,1,2,3,5],res:=[4],ls:=[(4,Bh.p)],rf:=true }
def Bh.s:LL Try.f12 C9.d 4 Bh.p:=mL [] (λ _=>trivial) trivial
def C9.s (k:Nat):CK 12 (C9.e k):=mS C9.d k [4] Try.func12 trivial ⟨Bh.s,trivial⟩
def Cp.e (k:Nat):Ent:=⟨2,[(.val true t3),(.val true t3)],[(.one,.b)],λ x=>Cp k x.1 x.2⟩
def Cp.d:Fd := { nt:=16,nv:=2,nm:=[0,1,2,3],res:=[4],cs:=λ k=>[(12,C9.e k)],rf:=true }
def Cp.s (k:Nat):CK 61 (Cp.e k):=mS Cp.d k [] Try.func61 ⟨C9.s k,trivial⟩ trivial
def As.e (k:Nat):Ent:=⟨2,[(.val false t6),(.val false t6)],[(.one,.b)],λ x=>As k x.1 x.2⟩
def B9.p:LF:=⟨⟨[],[(0,t6),(1,t6),(5,(.i .i64))]⟩,[(.ret,⟨[],[(4,.b)]⟩),((.exit 0),⟨[],[]⟩)],λ k x=>B9 k x.1 x.2.1 x.2.2⟩
def As.d:Fd := { nt:=27,nv:=2,nm:=[0,1,2,3,5],res:=[4],cs:=λ k=>[(61,Cp.e k)],ls:=[(4,B9.p)],rf:=true }
def As.a (k:Nat):AC (As.d.cs k):=⟨Cp.s k,trivial⟩
def B9.s:LL Try.f35 As.d 4 B9.p:=mL [] As.a trivial
def As.s (k:Nat):CK 35 (As.e k):=mS As.d k [4] Try.func35 (As.a k) ⟨B9.s,trivial⟩
def Cb.e (k:Nat):Ent:=⟨2,[(.val true t14),(.val true t14)],[(.one,.b)],λ x=>Cb k x.1 x.2⟩
def Cb.d:Fd := { nt:=17,nv:=2,nm:=[0,1,2,3],res:=[4],cs:=λ k=>[(35,As.e k)],rf:=true }
def Cb.s (k:Nat):CK 11 (Cb.e k):=mS Cb.d k [] Try.func11 ⟨As.s k,trivial⟩ trivial
def Bm.e (k:Nat):Ent:=⟨2,[(.io false t1),(.val false (.i .i64))],[(.one,(.i .i64))],λ x=>Bm k x.1 x.2⟩
def Az.p:LF:=⟨⟨[(0,(.io 3001000))],[(1,(.i .i64)),(5,(.i .i64)),(3001000,t1)]⟩,[((.exit 0),⟨[],[(1,(.i .i64)),(3001000,t1)]⟩)],λ k x=>Az k x.1 x.2.1 x.2.2⟩
def Bm.d:Fd := { nt:=20,nv:=2,nm:=[0,1,2,3,5],res:=[4],ls:=[(2,Az.p)],rf:=true }
def Az.s:LL Try.f14 Bm.d 2 Az.p:=mL [] (λ _=>trivial) trivial
def Bm.s (k:Nat):CK 14 (Bm.e k):=mS Bm.d k [2] Try.func14 trivial ⟨Az.s,trivial⟩
def Ay.e (k:Nat):Ent:=⟨1,[(.val false (.i .i64))],[(.one,.s)],λ x=>Ay k x⟩
def Ba.p:LF:=⟨⟨[],[(0,(.i .i64)),(3,.s)]⟩,[((.exit 0),⟨[],[(3,.s)]⟩)],λ k x=>Ba k x.1 x.2⟩
def Ay.d:Fd := { nt:=20,nv:=1,nm:=[0,1,3],res:=[2],ls:=[(4,Ba.p)],rf:=true }
def Ba.s:LL Try.f62 Ay.d 4 Ba.p:=mL [] (λ _=>trivial) trivial
def Ay.s (k:Nat):CK 62 (Ay.e k):=mS Ay.d k [4] Try.func62 trivial ⟨Ba.s,trivial⟩
def Aj.e (k:Nat):Ent:=⟨2,[(.io false t7),(.val false (.i .i64))],[(.one,(.i .i64))],λ x=>Aj k x.1 x.2⟩
def Au.p:LF:=⟨⟨[(0,(.io 3001000))],[(1,(.i .i64)),(5,(.i .i64)),(3001000,t7)]⟩,[((.exit 0),⟨[],[(1,(.i .i64)),(3001000,t7)]⟩)],λ k x=>Au k x.1 x.2.1 x.2.2⟩
def Aj.d:Fd := { nt:=28,nv:=2,nm:=[0,1,2,3,5],res:=[4],cs:=λ k=>[(14,Bm.e k),(62,Ay.e k)],ls:=[(2,Au.p)],gh:=[(1000003,[.cl 3001000])],opn:=[22],rf:=true }
def Aj.a (k:Nat):AC (Aj.d.cs k):=⟨Bm.s k,Ay.s k,trivial⟩
def Au.s:LL Try.f36 Aj.d 2 Au.p:=mL [] Aj.a trivial
def Aj.s (k:Nat):CK 36 (Aj.e k):=mS Aj.d k [2] Try.func36 (Aj.a k) ⟨Au.s,trivial⟩
def Bq.e (k:Nat):Ent:=⟨2,[(.io true t15),(.val false (.i .i64))],[(.one,(.i .i64))],λ x=>Bq k x.1 x.2⟩
def Bq.d:Fd := { nt:=14,nv:=2,nm:=[0,1,2,3],res:=[4],cs:=λ k=>[(36,Aj.e k)],mv:=[0],rf:=true }
def Bq.s (k:Nat):CK 13 (Bq.e k):=mS Bq.d k [] Try.func13 ⟨Aj.s k,trivial⟩ trivial
def Bn.e (k:Nat):Ent:=⟨2,[(.val false t0),(.val false (.i .i64))],[(.one,(.i .i64))],λ x=>Bn k x.1 x.2⟩
def B0.p:LF:=⟨⟨[],[(0,t0),(1,(.i .i64)),(5,(.i .i64))]⟩,[(.ret,⟨[],[(4,(.i .i64))]⟩),((.exit 0),⟨[],[(1,(.i .i64))]⟩)],λ k x=>B0 k x.1 x.2.1 x.2.2⟩
def Bn.d:Fd := { nt:=22,nv:=2,nm:=[0,1,2,3,5],res:=[4],ls:=[(2,B0.p)],rf:=true }
def B0.s:LL Try.f63 Bn.d 2 B0.p:=mL [] (λ _=>trivial) trivial
def Bn.s (k:Nat):CK 63 (Bn.e k):=mS Bn.d k [2] Try.func63 trivial ⟨B0.s,trivial⟩
def Al.e (k:Nat):Ent:=⟨2,[(.val false t6),(.val false (.i .i64))],[(.one,(.i .i64))],λ x=>Al k x.1 x.2⟩
def Av.p:LF:=⟨⟨[],[(0,t6),(1,(.i .i64)),(5,(.i .i64))]⟩,[(.ret,⟨[],[(4,(.i .i64))]⟩),((.exit 0),⟨[],[(1,(.i .i64))]⟩)],λ k x=>Av k x.1 x.2.1 x.2.2⟩
def Al.d:Fd := { nt:=32,nv:=2,nm:=[0,1,2,3,5],res:=[4],cs:=λ k=>[(62,Ay.e k),(63,Bn.e k)],ls:=[(2,Av.p)],rf:=true }
def Al.a (k:Nat):AC (Al.d.cs k):=⟨Ay.s k,Bn.s k,trivial⟩
def Av.s:LL Try.f37 Al.d 2 Av.p:=mL [] Al.a trivial
def Al.s (k:Nat):CK 37 (Al.e k):=mS Al.d k [2] Try.func37 (Al.a k) ⟨Av.s,trivial⟩
def Br.e (k:Nat):Ent:=⟨2,[(.val true t14),(.val false (.i .i64))],[(.one,(.i .i64))],λ x=>Br k x.1 x.2⟩
def Br.d:Fd := { nt:=18,nv:=2,nm:=[0,1,2,3],res:=[4],cs:=λ k=>[(37,Al.e k)],rf:=true }
def Br.s (k:Nat):CK 15 (Br.e k):=mS Br.d k [] Try.func15 ⟨Al.s k,trivial⟩ trivial
def B1.e (k:Nat):Ent:=⟨1,[(.val false t6)],[(.one,t8)],λ x=>B1 k x⟩
def Aw.p:LF:=⟨⟨[],[(0,t6),(3,t8),(4,(.i .i64))]⟩,[((.exit 0),⟨[],[(3,t8)]⟩)],λ k x=>Aw k x.1 x.2.1 x.2.2⟩
def B1.d:Fd := { nt:=29,nv:=1,nm:=[0,1,3,4],res:=[2],ls:=[(3,Aw.p)] }
def Aw.s:LL Try.f56 B1.d 3 Aw.p:=mL [] (λ _=>trivial) trivial
def B1.s (k:Nat):CK 56 (B1.e k):=mS B1.d k [3] Try.func56 trivial ⟨Aw.s,trivial⟩
def Bv.e (k:Nat):Ent:=⟨1,[(.val true t14)],[(.agg,t16)],λ x=>Bv k x⟩
def Bv.d:Fd := { nt:=10,nv:=1,nm:=[0,1],res:=[],cs:=λ k=>[(56,B1.e k)] }
def Bv.s (k:Nat):CK 25 (Bv.e k):=mS Bv.d k [] Try.func25 ⟨B1.s k,trivial⟩ trivial
def D0.e (k:Nat):Ent:=⟨3,[(.val false t6),(.val false .s),(.val false t0)],[(.one,t8)],λ x=>D0 k x.1 x.2.1 x.2.2⟩
def Ao.p:LF:=⟨⟨[(9,(.bp 9 0 0)),(10999,(.hd 2))],[(0,t6),(1,.s),(7,t8),(8,.b),(10,(.i .i64)),(10000,.s),(10001,t0)]⟩,[((.exit 0),⟨[(9,(.bp 9 0 0)),(10999,(.hd 2))],[(7,t8),(8,.b),(10000,.s),(10001,t0)]⟩)],λ k x=>Ao k x.1 x.2.1 x.2.2.1 x.2.2.2.1 x.2.2.2.2.1 x.2.2.2.2.2.1 x.2.2.2.2.2.2⟩
def D0.d:Fd := { nt:=59,nv:=3,nm:=[0,1,2,3,4,5,7,8,9,10],res:=[6],ls:=[(5,Ao.p)] }
def Ao.s:LL Try.f26 D0.d 5 Ao.p:=mL [] (λ _=>trivial) trivial
def D0.s (k:Nat):CK 26 (D0.e k):=mS D0.d k [5] Try.func26 trivial ⟨Ao.s,trivial⟩
def Dc.e (k:Nat):Ent:=⟨3,[(.val false (.i .i64)),(.val false (.i .i64)),(.val false (.i .i64))],[(.one,.b)],λ x=>Dc x.1 x.2.1 x.2.2⟩
def Dc.d:Fd := { nt:=15,nv:=3,nm:=[0,1,2,3,4,5],res:=[6] }
def Dc.s (k:Nat):CK 66 (Dc.e k):=mS Dc.d k [] Try.func66 trivial trivial
def B6.e (k:Nat):Ent:=⟨1,[(.val false .s)],[(.one,.b)],λ x=>B6 k x⟩
def Ax.p:LF:=⟨⟨[],[(0,.s),(3,(.i .i64))]⟩,[(.ret,⟨[],[(2,.b)]⟩),((.exit 0),⟨[],[(0,.s)]⟩)],λ k x=>Ax k x.1 x.2⟩
def B6.d:Fd := { nt:=38,nv:=1,nm:=[0,1,3,4],res:=[2],cs:=λ k=>[(66,Dc.e k)],ls:=[(2,Ax.p)] }
def B6.a (k:Nat):AC (B6.d.cs k):=⟨Dc.s k,trivial⟩
def Ax.s:LL Try.f43 B6.d 2 Ax.p:=mL [] B6.a trivial
def B6.s (k:Nat):CK 43 (B6.e k):=mS B6.d k [2] Try.func43 (B6.a k) ⟨Ax.s,trivial⟩
def Bi.e (k:Nat):Ent:=⟨1,[(.val false t6)],[(.one,.b)],λ x=>Bi k x⟩
def Bo.p:LF:=⟨⟨[],[(0,t6),(3,(.i .i64))]⟩,[(.ret,⟨[],[(2,.b)]⟩),((.exit 0),⟨[],[(0,t6)]⟩)],λ k x=>Bo k x.1 x.2⟩
def Bi.d:Fd := { nt:=47,nv:=1,nm:=[0,1,3],res:=[2],cs:=λ k=>[(43,B6.e k)],ls:=[(2,Bo.p)] }
def Bi.a (k:Nat):AC (Bi.d.cs k):=⟨B6.s k,trivial⟩
def Bo.s:LL Try.f65 Bi.d 2 Bo.p:=mL [] Bi.a trivial
def Bi.s (k:Nat):CK 65 (Bi.e k):=mS Bi.d k [2] Try.func65 (Bi.a k) ⟨Bo.s,trivial⟩
def Cl.e (k:Nat):Ent:=⟨1,[(.val true t14)],[(.one,.b)],λ x=>Cl k x⟩
def Cl.d:Fd := { nt:=11,nv:=1,nm:=[0,1],res:=[2],cs:=λ k=>[(65,Bi.e k)] }
def Cl.s (k:Nat):CK 42 (Cl.e k):=mS Cl.d k [] Try.func42 ⟨Bi.s k,trivial⟩ trivial
def Cc.e (k:Nat):Ent:=⟨3,[(.val true t14),(.val true t16),(.val false .s)],[(.agg,t16),(.one,.b)],λ x=>Cc k x.1 x.2.1 x.2.2⟩
def Cc.d:Fd := { nt:=24,nv:=3,nm:=[0,1,2,3,4,5],res:=[7],cs:=λ k=>[(25,Bv.e k),(42,Cl.e k),(43,B6.e k)],mv:=[23] }
def Cc.s (k:Nat):CK 27 (Cc.e k):=mS Cc.d k [] Try.func27 ⟨Bv.s k,Cl.s k,B6.s k,trivial⟩ trivial
def Dp.e (k:Nat):Ent:=⟨2,[(.val false t6),(.val false .s)],[(.one,(.i .i64))],λ x=>Dp k x.1 x.2⟩
def Cg.p:LF:=⟨⟨[],[(0,t6),(1,.s),(5,(.i .i64))]⟩,[(.ret,⟨[],[(4,(.i .i64))]⟩),((.exit 0),⟨[],[]⟩)],λ k x=>Cg k x.1 x.2.1 x.2.2⟩
def Dp.d:Fd := { nt:=20,nv:=2,nm:=[0,1,2,3,5],res:=[4],ls:=[(2,Cg.p)] }
def Cg.s:LL Try.f64 Dp.d 2 Cg.p:=mL [] (λ _=>trivial) trivial
def Dp.s (k:Nat):CK 64 (Dp.e k):=mS Dp.d k [2] Try.func64 trivial ⟨Cg.s,trivial⟩
def C6.e (k:Nat):Ent:=⟨2,[(.val true t14),(.val false .s)],[(.one,t1),(.one,.b)],λ x=>C6 k x.1 x.2⟩
def C6.d:Fd := { nt:=22,nv:=2,nm:=[0,1,2,3,6],res:=[4,5],cs:=λ k=>[(64,Dp.e k)] }
def C6.s (k:Nat):CK 38 (C6.e k):=mS C6.d k [] Try.func38 ⟨Dp.s k,trivial⟩ trivial
def D5.e (k:Nat):Ent:=⟨2,[(.val false t6),(.val false .s)],[(.one,t8)],λ x=>D5 k x.1 x.2⟩
def C3.p:LF:=⟨⟨[],[(0,t6),(1,.s),(5,t8),(6,(.i .i64))]⟩,[((.exit 0),⟨[],[(5,t8)]⟩)],λ k x=>C3 k x.1 x.2.1 x.2.2.1 x.2.2.2⟩
def D5.d:Fd := { nt:=29,nv:=2,nm:=[0,1,2,3,5,6],res:=[4],ls:=[(3,C3.p)] }
def C3.s:LL Try.f39 D5.d 3 C3.p:=mL [] (λ _=>trivial) trivial
def D5.s (k:Nat):CK 39 (D5.e k):=mS D5.d k [3] Try.func39 trivial ⟨C3.s,trivial⟩
def Bs.e (k:Nat):Ent:=⟨2,[(.val true t14),(.val false .s)],[(.agg,t16),(.one,.b)],λ x=>Bs k x.1 x.2⟩
def Bs.d:Fd := { nt:=35,nv:=2,nm:=[0,1,2,3,6,7,8],res:=[5],cs:=λ k=>[(25,Bv.e k),(26,D0.e k),(27,Cc.e k),(38,C6.e k),(39,D5.e k)] }
def Bs.s (k:Nat):CK 16 (Bs.e k):=mS Bs.d k [] Try.func16 ⟨Bv.s k,D0.s k,Cc.s k,C6.s k,D5.s k,trivial⟩ trivial
def B4.e (k:Nat):Ent:=⟨1,[(.val false t0)],[(.one,t1)],λ x=>B4 x⟩
def B4.d:Fd := { nt:=5,nv:=1,nm:=[0,1],res:=[2] }
def B4.s (k:Nat):CK 34 (B4.e k):=mS B4.d k [] Try.func34 trivial trivial
def Am.e (k:Nat):Ent:=⟨1,[(.val false t6)],[(.one,t7)],λ x=>Am k x⟩
def B2.p:LF:=⟨⟨[],[(3,t7),(6,t6),(7,(.i .i64)),(8,(.i .i64))]⟩,[((.exit 0),⟨[],[(3,t7)]⟩)],λ k x=>B2 k x.1 x.2.1 x.2.2.1 x.2.2.2⟩
def Am.d:Fd := { nt:=23,nv:=1,nm:=[0,1,3,4,5],res:=[2],cs:=λ k=>[(34,B4.e k)],ls:=[(3,B2.p)],hint:=[(19,t4),(20,t4)] }
def Am.a (k:Nat):AC (Am.d.cs k):=⟨B4.s k,trivial⟩
def B2.s:LL Try.f58 Am.d 3 B2.p:=mL [] Am.a trivial
def Am.s (k:Nat):CK 58 (Am.e k):=mS Am.d k [3] Try.func58 (Am.a k) ⟨B2.s,trivial⟩
def Bd.e (k:Nat):Ent:=⟨1,[(.val true t14)],[(.agg,t15)],λ x=>Bd k x⟩
def Bd.d:Fd := { nt:=10,nv:=1,nm:=[0,1],res:=[],cs:=λ k=>[(58,Am.e k)] }
def Bd.s (k:Nat):CK 29 (Bd.e k):=mS Bd.d k [] Try.func29 ⟨Am.s k,trivial⟩ trivial
def Fc.e (k:Nat):Ent:=⟨3,[(.val false (.i .i64)),(.val false (.i .i64)),(.val false (.i .i64))],[(.one,.b)],λ x=>Fc x.1 x.2.1 x.2.2⟩
def Fc.d:Fd := { nt:=15,nv:=3,nm:=[0,1,2,3,4,5],res:=[6] }
def Fc.s (k:Nat):CK 60 (Fc.e k):=mS Fc.d k [] Try.func60 trivial trivial
def B7.e (k:Nat):Ent:=⟨1,[(.val false .s)],[(.one,.b)],λ x=>B7 k x⟩
def Aa.p:LF:=⟨⟨[],[(0,.s),(3,(.i .i64))]⟩,[(.ret,⟨[],[(2,.b)]⟩),((.exit 0),⟨[],[(0,.s)]⟩)],λ k x=>Aa k x.1 x.2⟩
def B7.d:Fd := { nt:=45,nv:=1,nm:=[0,1,3,4],res:=[2],cs:=λ k=>[(60,Fc.e k)],ls:=[(2,Aa.p)] }
def B7.a (k:Nat):AC (B7.d.cs k):=⟨Fc.s k,trivial⟩
def Aa.s:LL Try.f31 B7.d 2 Aa.p:=mL [] B7.a trivial
def B7.s (k:Nat):CK 31 (B7.e k):=mS B7.d k [2] Try.func31 (B7.a k) ⟨Aa.s,trivial⟩
def B5.e (k:Nat):Ent:=⟨1,[(.val false t6)],[(.one,.b)],λ x=>B5 k x⟩
def Bb.p:LF:=⟨⟨[],[(0,t6),(5,t6),(6,(.i .i64)),(7,(.i .i64))]⟩,[(.ret,⟨[],[(2,.b)]⟩),((.exit 0),⟨[],[(0,t6)]⟩)],λ k x=>Bb k x.1 x.2.1 x.2.2.1 x.2.2.2⟩
def B5.d:Fd := { nt:=41,nv:=1,nm:=[0,1,3,4],res:=[2],cs:=λ k=>[(31,B7.e k)],ls:=[(2,Bb.p)] }
def B5.a (k:Nat):AC (B5.d.cs k):=⟨B7.s k,trivial⟩
def Bb.s:LL Try.f59 B5.d 2 Bb.p:=mL [] B5.a trivial
def B5.s (k:Nat):CK 59 (B5.e k):=mS B5.d k [2] Try.func59 (B5.a k) ⟨Bb.s,trivial⟩
def Cr.e (k:Nat):Ent:=⟨1,[(.val true t14)],[(.one,.b)],λ x=>Cr k x⟩
def Cr.d:Fd := { nt:=11,nv:=1,nm:=[0,1],res:=[2],cs:=λ k=>[(59,B5.e k)] }
def Cr.s (k:Nat):CK 30 (Cr.e k):=mS Cr.d k [] Try.func30 ⟨B5.s k,trivial⟩ trivial
def Ee.e (k:Nat):Ent:=⟨2,[(.val false t7),(.val true t4)],[(.one,t7)],λ x=>Ee k x.1 x.2⟩
def Cs.p:LF:=⟨⟨[(3,(.bp 3 0 0)),(4999,(.hd 2))],[(0,t7),(5,(.i .i64)),(4000,.s),(4001,t1)]⟩,[((.exit 0),⟨[(3,(.bp 3 0 0)),(4999,(.hd 2))],[(0,t7),(5,(.i .i64)),(4000,.s),(4001,t1)]⟩)],λ k x=>Cs k x.1 x.2.1 x.2.2.1 x.2.2.2⟩
def Ee.d:Fd := { nt:=33,nv:=2,nm:=[0,1,2,3,5],res:=[4],ls:=[(2,Cs.p)],hint:=[(25,t4),(27,t4),(28,t4),(32,t4)],gh:=[(4,[.sp 0 5 2900])] }
def Cs.s:LL Try.f32 Ee.d 2 Cs.p:=mL [] (λ _=>trivial) trivial
def Ee.s (k:Nat):CK 32 (Ee.e k):=mS Ee.d k [2] Try.func32 trivial ⟨Cs.s,trivial⟩
def Ef.e (k:Nat):Ent:=⟨2,[(.val false t6),(.val false .s)],[(.one,(.i .i64))],λ x=>Ef k x.1 x.2⟩
def Dd.p:LF:=⟨⟨[],[(1,.s),(7,t6),(8,(.i .i64)),(9,(.i .i64))]⟩,[(.ret,⟨[],[(4,(.i .i64))]⟩),((.exit 0),⟨[],[]⟩)],λ k x=>Dd k x.1 x.2.1 x.2.2.1 x.2.2.2⟩
def Ef.d:Fd := { nt:=20,nv:=2,nm:=[0,1,2,3,5,6],res:=[4],ls:=[(2,Dd.p)] }
def Dd.s:LL Try.f40 Ef.d 2 Dd.p:=mL [] (λ _=>trivial) trivial
def Ef.s (k:Nat):CK 40 (Ef.e k):=mS Ef.d k [2] Try.func40 trivial ⟨Dd.s,trivial⟩
def Dw.e (k:Nat):Ent:=⟨2,[(.val false t7),(.val false .s)],[(.one,t7)],λ x=>Dw k x.1 x.2⟩
def Dw.d:Fd := { nt:=21,nv:=2,nm:=[0,1,2,3,5],res:=[4],cs:=λ k=>[(40,Ef.e k)],hint:=[(15,t4),(20,t4)],gh:=[(4,[.sp 0 5 2900])] }
def Dw.s (k:Nat):CK 33 (Dw.e k):=mS Dw.d k [] Try.func33 ⟨Ef.s k,trivial⟩ trivial
def Be.e (k:Nat):Ent:=⟨2,[(.val true t14),(.val false .s)],[(.agg,t15),(.one,.b)],λ x=>Be k x.1 x.2⟩
def Be.d:Fd := { nt:=50,nv:=2,nm:=[0,1,2,3,6,7],res:=[5],cs:=λ k=>[(29,Bd.e k),(30,Cr.e k),(31,B7.e k),(32,Ee.e k),(33,Dw.e k),(34,B4.e k),(40,Ef.e k)],mv:=[18,49] }
def Be.s (k:Nat):CK 17 (Be.e k):=mS Be.d k [] Try.func17 ⟨Bd.s k,Cr.s k,B7.s k,Ee.s k,Dw.s k,B4.s k,Ef.s k,trivial⟩ trivial
def Ap.e (k:Nat):Ent:=⟨2,[(.val true t13),(.val false .s)],[(.one,.b)],λ x=>Ap k x.1 x.2⟩
def Ap.d:Fd := { nt:=104,nv:=2,nm:=[0,1,2,3,5,6,7,8,9,10,11,12,13,14,15],res:=[4],cs:=λ k=>[(6,D7.e k),(8,Ca.e k),(11,Cb.e k),(13,Bq.e k),(15,Br.e k),(16,Bs.e k),(17,Be.e k)],rf:=true }
def Ap.s (k:Nat):CK 4 (Ap.e k):=mS Ap.d k [] Try.func4 ⟨D7.s k,Ca.s k,Cb.s k,Bq.s k,Br.s k,Bs.s k,Be.s k,trivial⟩ trivial
end

def Tot {α:Type} (f:Nat→Option α) (Q:α→Prop):Prop:=∃ r K,(∀ k,K≤k→f k=some r)∧Q r
section
variable {α β:Type} {f g:Nat→Option α} {Q Q':α→Prop}
def Tot.mono (h:Tot f Q) (hq:∀ a,Q a→Q' a):Tot f Q':=by
 obtain⟨r,K,h1,h2⟩:=h;exact⟨r,K,h1,hq r h2⟩
def Jja {a:α} (h:Q a):Tot (λ _=>some a) Q:=⟨a,0,λ _ _=>rfl,h⟩
def Jua {o:Option α} {a:α} (e:o=some a) (h:Q a):Tot (λ _=>o) Q:=⟨a,0,λ _ _=>e,h⟩
def Jka {h:Nat→α→Option β} {R:β→Prop} (hf:Tot f Q) (hh:∀ a,Q a→Tot (λ k=>h k a) R):Tot (λ k=>(f k).bind (h k)) R:=by
 obtain⟨a,K,h1,h2⟩:=hf;obtain⟨b,L,h3,h4⟩:=hh a h2;exact⟨b,max K L,λ k hk=>by show (f k).bind (h k)=_;rw[h1 k (by omega)];exact h3 k (by omega),h4⟩
def Jma {c:Bool} (hc:c=true) (h:Tot f Q):Tot (λ k=>cond c (f k) (g k)) Q:=by subst hc;exact h
def Jla {c:Bool} (hc:c=false) (h:Tot g Q):Tot (λ k=>cond c (f k) (g k)) Q:=by subst hc;exact h
def Jpa {c:Bool} (h1:c=true→Tot f Q) (h2:c=false→Tot g Q):Tot (λ k=>cond c (f k) (g k)) Q:=by
 cases hc:c with
 |true=>exact h1 hc
 |false=>exact h2 hc
def Jna {p:Prop} [Decidable p] (hp:p) (h:Tot f Q):Tot (λ k=>cond (decide p) (f k) (g k)) Q:=Jma (decide_eq_true hp) h
def Joa {p:Prop} [Decidable p] (hp:¬ p) (h:Tot g Q):Tot (λ k=>cond (decide p) (f k) (g k)) Q:=Jla (decide_eq_false hp) h
def Jqa {p:Prop} [Decidable p] (h1:p→Tot f Q) (h2:¬ p→Tot g Q):Tot (λ k=>cond (decide p) (f k) (g k)) Q:=
 Jpa (λ h=>h1 (of_decide_eq_true h)) (λ h=>h2 (of_decide_eq_false h))
def Jra {m n:Nat} (hp:m≤n) (h:Tot f Q):Tot (λ k=>cond (Nat.ble m n) (f k) (g k)) Q:=Jma (Yp hp) h
def Jta {v:α} {h:Nat→α→Option β} {R:β→Prop} (hf:Tot f (λ r=>r=v)) (hh:Tot (λ k=>h k v) R):Tot (λ k=>(f k).bind (h k)) R:=
 Jka hf (by rintro r rfl;exact hh)
def Tot.succ (h:Tot (λ k=>f (k+1)) Q):Tot f Q:=by
 obtain⟨r,K,h1,h2⟩:=h;exact⟨r,K+1,λ k hk=>by obtain⟨m,rfl⟩:∃ m,k=m+1:=⟨k-1,by omega⟩;exact h1 m (by omega),h2⟩
def Tot.and (h:Tot f Q) (h':Tot f Q'):Tot f (λ a=>Q a∧Q' a):=by
 obtain⟨r,K,h1,h2⟩:=h;obtain⟨r',K',h1',h2'⟩:=h'
 have e:r=r':=by
  have a1:=h1 (max K K') (by omega);have a2:=h1' (max K K') (by omega);rw[a1]at a2;exact Kwa a2
 subst e;exact⟨r,K,h1,h2,h2'⟩
def Tot.law {f:Nat→Option Bool} (h:Tot f (λ b=>b=true)):∃ k,f k=some true:=by
 obtain⟨r,K,h1,h2⟩:=h;subst h2;exact⟨K,h1 K (Vo _)⟩
end
def w64 {n:Int} (h1 : -9223372036854775808≤n) (h2:n≤9223372036854775807):wrap .i64 n=n:=Go.IntWalk.i64_in n ⟨h1,h2⟩

def Aqa (l:List Int):Prop:=∀ x∈l,0≤x∧x≤255
abbrev Stp:=Int×Int×Int
abbrev Row:=ByteArray×Stp×Bool×Int
abbrev Fil:=Stp×Bool×List Int

def Qg:∀ (a:List UInt8),Op.bytesLess a a=false
 |[]=>rfl
 |a::l=>by simp[Op.bytesLess,Qg l]
def Tv:∀ (a b c:List UInt8),Op.bytesLess a b=true→Op.bytesLess b c=true→Op.bytesLess a c=true
 |_,[],_,h,_=>by simp[Op.bytesLess]at h
 |_,_::_,[],_,h=>by simp[Op.bytesLess]at h
 |[],_::_,_::_,_,_=>rfl
 |a::x,b::y,c::z,h1,h2=>by
  simp only[Op.bytesLess,Jxa,Va,decide_eq_true_eq,beq_iff_eq]at h1 h2 ⊢;rcases h1 with h1|⟨rfl,h1⟩
  ·rcases h2 with h2|⟨rfl,h2⟩
   ·exact .inl (UInt8.lt_trans h1 h2)
   ·exact .inl h1
  ·rcases h2 with h2|⟨rfl,h2⟩
   ·exact .inl h2
   ·exact .inr ⟨rfl,Tv x y z h1 h2⟩
def E0a:∀ (a b:List UInt8),Op.bytesLess a b=false→Op.bytesLess b a=false→a=b
 |[],[],_,_=>rfl
 |[],_::_,h,_=>by simp[Op.bytesLess]at h
 |_::_,[],_,h=>by simp[Op.bytesLess]at h
 |a::x,b::y,h1,h2=>by
  simp only[Op.bytesLess,Bool.or_eq_false_iff,Bool.and_eq_false_iff,decide_eq_false_iff_not]at h1 h2
  have hab:a=b:=by
   have h3:=UInt8.not_lt.1 h1.1;have h4:=UInt8.not_lt.1 h2.1;exact UInt8.le_antisymm h4 h3
  subst hab;rw[E0a x y (h1.2.resolve_left (by simp)) (h2.2.resolve_left (by simp))]
def tlt (a b:ByteArray):Bool:=Op.bytesLess a.toList b.toList
def teq (a b:ByteArray):Bool:=a.toList==b.toList
def N9 {a b:ByteArray} (h:a.toList=b.toList):a=b:=by
 rw[ByteArray.toList_eq,ByteArray.toList_eq]at h;obtain⟨⟨x⟩⟩:=a;obtain⟨⟨y⟩⟩:=b;simp only at h;rw[h]
def Jw {a b:ByteArray}:teq a b=true↔a=b:=by
 unfold teq;rw[beq_iff_eq];exact⟨N9,λ h=>by rw[h]⟩
def Jx (a:ByteArray):tlt a a=false:=Qg _
def M8 {a b c:ByteArray} (h:tlt a b=true) (h':tlt b c=true):tlt a c=true:=Tv _ _ _ h h'
def Fna {a b:ByteArray} (h:tlt a b=false) (h':tlt b a=false):a=b:=N9 (E0a _ _ h h')
def Ara {a b:ByteArray} (h:tlt a b=true):tlt b a=false:=by
 cases hb:tlt b a
 ·rfl
 have:=M8 h hb;rw[Jx]at this;cases this
def sle (a b:Stp):Bool:=cond (a.1 != b.1) (decide (a.1<b.1)) (cond (a.2.1 != b.2.1) (decide (a.2.1<b.2.1)) (decide (a.2.2<b.2.2)))
def Iia (a b:Row):Bool:=cond (!((a.2.1.1==b.2.1.1)&&((a.2.1.2.1==b.2.1.2.1)&&(a.2.1.2.2==b.2.1.2.2)))) (sle a.2.1 b.2.1) (cond (!(a.2.2.1==b.2.2.1)) b.2.2.1 (decide (a.2.2.2<b.2.2.2)))
def F3 {α:Type} {l:List α} {i:Nat} {d:α} (h:i<l.length):l.drop i=l.getD i d::l.drop (i+1):=by
 rw[Yg h,Vm,Vp h];rfl

section
open Go
end

def inR (n lo hi:Int):Bool:=decide (n≥lo)&&decide (n≤hi)
def Hha (n lo hi:Int):Fc n lo hi=some (inR n lo hi):=by
 unfold Fc inR
 cases decide (n≥lo)<;>rfl
def E1a (n lo hi:Int):Dc n lo hi=some (inR n lo hi):=by
 unfold Dc inR
 cases decide (n≥lo)<;>rfl
def Foa {n lo hi:Int}:inR n lo hi=true↔lo≤n∧n≤hi:=by
 unfold inR;simp
def J4 (c:Int):Bool:=inR c 97 122||(inR c 48 57||(!(c != 45)||(!(c != 95)||!(c != 47))))
def Hd (s:ByteArray):Prop:=s.size≤4611686018427387904
def Gq (s:ByteArray):s.data.toList.length=s.size:=Yh
def Asa (s:ByteArray) (i:Int):0≤bt s i∧bt s i≤255:=by
 unfold bt;have:=(s.data.toList.getD i.toNat 0).toNat_lt;omega
def Hia (s:ByteArray) (i:Nat) (h:i<s.size):bt s (i:Int)=((s.data.toList[i]'(by rw[Gq];exact h)).toNat:Int):=by
 unfold bt;rw[Vw,Vm,Vp (by rw[Gq];exact h)];rfl
def bOk (b:UInt8):Bool:=J4 (b.toNat:Int)
def S8 (s:ByteArray) (hs:Hd s):∀ (n i:Nat),s.size-i=n→i≤s.size→
  Tot (λ k=>Aa k s (i:Int)) (λ r=>r=bif (s.data.toList.drop i).all bOk then .inr s else .inl false):=by
 unfold Hd at hs;have hsz:=Gq s;intro n
 induction n with
 |zero=>
  intro i hn hi;refine Tot.succ ?_;simp only[Aa];refine Joa (by omega) (Jja ?_);rw[Ye (by omega)];rfl
 |succ n ih=>
  intro i hn hi
  have hlt:i<s.size:=by omega
  refine Tot.succ ?_;simp only[Aa];refine Jna (by omega) (Jna (by omega) (Jna (by omega) ?_));rw[w64 (n:=(i:Int)+1) (by omega) (by omega)]
  have hb:bOk (s.data.toList[i]'(by omega))=J4 (bt s (i:Int)):=by rw[Hia s i hlt];rfl
  rw[Yg (by omega),Kua,hb];generalize bt s (i:Int)=c;have h1:=ih (i+1) (by omega) (by omega)
  have e:(((i+1:Nat)):Int)=(i:Int)+1:=by omega
  rw[e]at h1
  cases hc:J4 c with
  |true=>
   rw[Yr];refine h1.mono (λ r hr=>hr) |> λ h=>?_;obtain⟨r,K,h2,h3⟩:=h;refine⟨r,K,λ k hk=>?_,h3⟩;rw[← h2 k hk];unfold J4 inR at hc
   revert hc
   cases decide (c≥97)<;>cases decide (c≤122)<;>cases decide (c≥48)<;>cases decide (c≤57)<;>cases (c != 45)<;>cases (c != 95)<;>cases (c != 47)<;>first|(intro _;rfl)|(intro hc;cases hc)
  |false=>
   rw[L3a];refine⟨.inl false,0,λ k _=>?_,rfl⟩;unfold J4 inR at hc
   revert hc
   cases decide (c≥97)<;>cases decide (c≤122)<;>cases decide (c≥48)<;>cases decide (c≤57)<;>cases (c != 45)<;>cases (c != 95)<;>cases (c != 47)<;>first|(intro _;rfl)|(intro hc;cases hc)
def S9 (s:ByteArray) (hs:Hd s):∀ (n i:Nat),s.size-i=n→i≤s.size→
  Tot (λ k=>Ax k s (i:Int)) (λ r=>r=bif (s.data.toList.drop i).all bOk then .inr s else .inl false):=by
 unfold Hd at hs;have hsz:=Gq s;intro n
 induction n with
 |zero=>
  intro i hn hi;refine Tot.succ ?_;simp only[Ax];refine Joa (by omega) (Jja ?_);rw[Ye (by omega)];rfl
 |succ n ih=>
  intro i hn hi
  have hlt:i<s.size:=by omega
  have hbb:=Asa s (i:Int);refine Tot.succ ?_;simp only[Ax];refine Jna (by omega) (Jna (by omega) (Jna (by omega) ?_));rw[w64 (n:=(i:Int)+1) (by omega) (by omega),w64 (n:=bt s (i:Int)) (by omega) (by omega)]
  have hb:bOk (s.data.toList[i]'(by omega))=J4 (bt s (i:Int)):=by rw[Hia s i hlt];rfl
  rw[Yg (by omega),Kua,hb];generalize bt s (i:Int)=c;have h1:=ih (i+1) (by omega) (by omega)
  have e:(((i+1:Nat)):Int)=(i:Int)+1:=by omega
  rw[e]at h1;simp only[E1a,Ym]
  cases hc:J4 c with
  |true=>
   rw[Yr];obtain⟨r,K,h2,h3⟩:=h1;refine⟨r,K,λ k hk=>?_,h3⟩;rw[← h2 k hk];unfold J4 at hc
   revert hc
   cases inR c 97 122<;>cases inR c 48 57<;>cases (c != 45)<;>cases (c != 95)<;>cases (c != 47)<;>first|(intro _;rfl)|(intro hc;cases hc)
  |false=>
   rw[L3a];refine⟨.inl false,0,λ k _=>?_,rfl⟩;unfold J4 at hc
   revert hc
   cases inR c 97 122<;>cases inR c 48 57<;>cases (c != 45)<;>cases (c != 95)<;>cases (c != 47)<;>first|(intro _;rfl)|(intro hc;cases hc)
def Dt (s:ByteArray):Bool:=s.data.toList.all bOk&&inR (s.size:Int) 1 20
def Tw (s:ByteArray) (hs:Hd s):Tot (λ k=>B7 k s) (λ r=>r=Dt s):=by
 unfold B7 Dt;refine Jta (S8 s hs _ 0 rfl (Wn _)) ?_;rw[Wj]
 cases s.data.toList.all bOk with
 |true=>exact Jua (a:=inR (s.size:Int) 1 20) (by simp only[cond_true,Sum.elim_inr,Hha,Ym]) (by rw[Yr])
 |false=>exact Jja rfl
def Tx (s:ByteArray) (hs:Hd s):Tot (λ k=>B6 k s) (λ r=>r=Dt s):=by
 unfold B6 Dt;refine Jta (S9 s hs _ 0 rfl (Wn _)) ?_;rw[Wj]
 cases s.data.toList.all bOk with
 |true=>exact Jua (a:=inR (s.size:Int) 1 20) (by simp only[cond_true,Sum.elim_inr,E1a,Ym]) (by rw[Yr])
 |false=>exact Jja rfl
def Fpa (s:Stp):Bool:=inR s.1 0 1000000000&&(inR s.2.1 0 1000000&&inR s.2.2 0 20)
def Dr {α:Type} {l:List α} {i:Nat} {d:α} (h1:i<l.length):l.getD i d∈l:=by
 rw[Vm,Vp h1];exact Kva h1
def mx (a b:Row):Row:=bif Iia a b then b else a

def J1a:Nat→Nat→List Int
 |0,n=>[(n:Int)]
 |f+1,n=>if n≤127 then [(n:Int)] else ((n % 128+128:Nat):Int)::J1a f (n/128)
def Hja (n:Nat):List Int:=J1a 4 n
def J2a:Nat→Nat→Nat→List Int→Option (Nat×Nat)
 |0,_,_,_=>none
 |_+1,_,_,[]=>none
 |f+1,k,acc,x::l=>if 128≤x then J2a f (k+1) (acc+x.toNat % 128*128 ^ k) l
  else if (x=0∧0<k)∨1000000000<acc+x.toNat % 128*128 ^ k then none else some (acc+x.toNat % 128*128 ^ k,k+1)
def Hka (l:List Int) (p:Nat):Option (Nat×Nat):=match J2a 5 0 0 (l.drop p) with
 |some (n,c)=>some (n,p+c)
 |none=>none

def Qh (n:Int):Nat:=(max 0 (min n 1000000000)).toNat
def V0 (l:List Int):(Kg l).size=l.length:=by
 unfold Kg;show (List.map _ l).toArray.size=l.length;simp
def txt (s:ByteArray):List Int:=Hja (Qh (s.size:Int))++bytesOf s
def J7a (l:List Int) (p:Nat):Option (ByteArray×Nat):=match Hka l p with
 |some (n,q)=>if q+n≤l.length then some (Kg ((l.drop q).take n),q+n) else none
 |none=>none

def J8a (b:Bool):Int:=bif b then 1 else 0
def J9a (s:Stp):List Int:=Hja (Qh s.1)++(Hja (Qh s.2.1)++Hja (Qh s.2.2))
def I9 {s:ByteArray} (h:Dt s=true):1≤s.size∧s.size≤20:=by
 unfold Dt at h;rw[Va,Foa]at h;omega

def Ija (l:List Int) (p:Nat):Option ((Stp×Bool)×Nat):=
 (Hka l p).bind λ b=>(Hka l b.2).bind λ c=>(Hka l c.2).bind λ d=>(Hka l d.2).bind λ e=>bif decide (1<e.1) then none else
  some ((((b.1:Int),(c.1:Int),(d.1:Int)),(e.1:Int)==1),e.2)

section
open Go
end

end Go.Proofs.Ytbbifgjgneefkaa.Vf
