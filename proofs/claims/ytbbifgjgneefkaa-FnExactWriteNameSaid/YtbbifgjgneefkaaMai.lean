import Derived.Test.YtbbifgjgneefkaaMah
import Derived.ChangeArms
import Derived.SizedLaws
import Derived.DataReads
import Derived.Laws.StructEq
import Derived.Below
import Derived.Test.YtbbifgjgneefkaaMaa
import Derived.Test.YtbbifgjgneefkaaProg
import Derived.KernelRfl
import Derived.IntWalk
set_option linter.all false
namespace Go.Proofs.Ytbbifgjgneefkaa.Vf
open Go
open List (length getD)
open Int (toNat)
open Go.IntKind (wrap)
open BitVec (ofInt)
def Yr:=@Bool.true_and
def Yt:=@List.pairwise_cons
def Zp:=@List.pairwise_append
def Zt:=@List.all_eq_true
def K2a:=@List.take_length
def Kca:=@Bool.false_and
def Kea:=@List.pairwise_map
def Kfa:=@Bool.and_true
def Kga:=@List.all_cons
def Kha:=@List.getElem_mem

section
attribute [local irreducible] C H
abbrev Gs:=Nat→Nat×Sv
def gup (g:Gs) (u:Up):Gs:=λ p=>if p=u.l then ((bif u.keep then (g u.l).1 else (g u.l).1+1),u.s) else g p
def Rv (g:Gs):List Up→Gs
 |[]=>g
 |u::U=>Rv (gup g u) U
def Hk:∀ (U:List Up) (A:Ab),get (ups A U)=Rv (get A) U
 |[],_=>rfl
 |u::U,A=>by
  show get (ups (up A u) U)=Rv (gup (get A) u) U;rw[Hk U (up A u)];congr 1;funext p;exact Ls A u p
def Iw:∀ (U:List Up) (g:Gs) (p:Nat),p∉U.map Up.l→Rv g U p=g p
 |[],_,_,_=>rfl
 |u::U,g,p,h=>by
  simp only[Xs,Vi,not_or]at h;show Rv (gup g u) U p=g p;rw[Iw U _ p h.2];exact if_neg h.1
def Ix:∀ (U:List Up) (g g':Gs) (p:Nat),g p=g' p→Rv g U p=Rv g' U p
 |[],_,_,_,h=>h
 |u::U,g,g',p,h=>by
  refine Ix U (gup g u) (gup g' u) p ?_;unfold gup
  by_cases e:p=u.l
  ·subst e;rw[if_pos rfl,if_pos rfl,h]
  ·rw[if_neg e,if_neg e,h]
structure Ak where
 N:Gs→Prop
 e:Gs→Gs
def Ind (x y:Ak):Prop:=(∀ g,x.N g→y.N (x.e g)→y.N g)∧(∀ g,y.N g→x.N g→x.N (y.e g))∧(∀ g,x.N g→y.N g→x.e (y.e g)=y.e (x.e g))
def Dma:List Ak→Gs→Gs→Prop
 |[],g,f=>g=f
 |x::L,g,f=>x.N g∧Dma L (x.e g) f
def Dma.front {y:Ak} {L2:List Ak}:∀ {L1:List Ak} {g f:Gs},(∀ x∈L1,Ind x y)→Dma (L1++y::L2) g f→y.N g∧Dma (L1++L2) (y.e g) f
 |[],g,f,_,h=>h
 |x::L1,g,f,hi,h=>by
  obtain⟨h1,h2⟩:=h;obtain⟨h3,h4⟩:=Dma.front (λ z hz=>hi z (Ve _ hz)) h2;obtain⟨i1,i2,i3⟩:=hi x (by simp);have hy:=i1 g h1 h3;exact⟨hy,i2 g hy h1,by rw[i3 g h1 hy];exact h4⟩
inductive Anc (ops:Array Oper):Nat→Nat→Prop
 |dir {i j:Nat} {o:Oper} (h:ops[i]? = some o) (hj:j∈aft o):Anc ops j i
 |tr {i j k:Nat} {o:Oper} (h:ops[i]? = some o) (hk:k∈aft o) (ha:Anc ops j k):Anc ops j i
def Aba {o:Oper} {j:Nat}:j∈aft o↔∃ e∈o.after,Region.binds .any e=true∧e.on=j:=by
 unfold aft;rw[List.mem_filterMap];constructor
 ·rintro⟨e,he,h⟩;cases hb:Region.binds .any e
  ·rw[hb]at h;simp at h
  rw[hb]at h;simp only[cond_true,Vc]at h;exact⟨e,by simpa using he,hb,h⟩
 ·rintro⟨e,he,hb,h⟩;exact⟨e,by simpa using he,by rw[hb];simp[h]⟩
section
variable {X:Cx} {E:En} {ops:Array Oper} {Q:Exit→Act→World→Prop}
def Fva (X:Cx) (ops:Array Oper) (Q:Exit→Act→World→Prop) (i:Nat) (x:Ak):Prop:=
 ∀ (S:Sit) (a:Act) (A:Ab),Ae X S a→S.g=get A→x.N (get A)→∀ K:Act→World→Prop,(∀ S' a' A',Ae X S' a'→S'.g=get A'→get A'=x.e (get A)→K a' S'.w)→wpOp X.P ops Q i K a S.w
def Us {listed:Array Bool} (hd:∀ i o,ops[i]? = some o→listed.getD i false=true→∀ j∈aft o,listed.getD j false=true) {i j:Nat} (h:Anc ops j i):listed.getD i false=true→listed.getD j false=true:=by
 induction h with
 |dir h hj=>exact λ hi=>hd _ _ h hi _ hj
 |tr h hk _ ih=>exact λ hi=>ih (hd _ _ h hi _ hk)
def Rw {listed:Array Bool} {i:Nat} (hi:i<listed.size):listed.getD i true=listed.getD i false:=by
 simp[Wd,hi]
def Dna (hlt:∀ i o,ops[i]? = some o→∀ j∈aft o,j<i) {f:Gs} (hQ:∀ S a A,Ae X S a→S.g=get A→get A=f→Q .normal a S.w):
  ∀ (fuel:Nat) (L:List (Nat×Ak)) (listed:Array Bool) (S:Sit) (a:Act) (A:Ab),L.length=fuel→listed.size=ops.size→L.Pairwise (λ x y=>x.1<y.1)→(∀ i,i<ops.size→(listed.getD i false=false↔∃ x∈L,x.1=i))→
   L.Pairwise (λ x y=>Anc ops x.1 y.1∨Ind x.2 y.2)→(∀ x∈L,Fva X ops Q x.1 x.2)→(∀ x∈L,x.1<ops.size)→
   (∀ i o,ops[i]? = some o→listed.getD i false=true→∀ j∈aft o,listed.getD j false=true)→
   Ae X S a→S.g=get A→Dma (L.map Prod.snd) (get A) f→wpAny X.P .any ops Q fuel listed a S.w
 |0,L,listed,S,a,A,hlen,hsz,hs,hl,hi,ho,hb,hd,K,hg,hr=>by
  have:L=[]:=Wl hlen;subst this;refine⟨?_,hQ S a A K hg hr⟩;rw[List.eq_nil_iff_forall_not_mem];intro i hm;obtain⟨h1,o,h2,_⟩:=mem_ready.1 hm;have hlt2:i<ops.size:=(Yw.1 h2).1;rw[Rw (by omega)]at h1;obtain⟨x,hx,_⟩:=(hl i hlt2).1 h1;simp at hx
 |fuel+1,L,listed,S,a,A,hlen,hsz,hs,hl,hi,ho,hb,hd,K,hg,hr=>by
  cases L with
  |nil=>simp at hlen
  |cons x0 L0=>
   refine⟨λ h0=>?_,λ i hm=>?_⟩
   ·exfalso;have hx0:=hb x0 (by simp);obtain⟨o,h2⟩:∃ o,ops[x0.1]? = some o:=⟨_,Zn hx0⟩;have hu:=(hl x0.1 hx0).2 ⟨x0,by simp,rfl⟩
    have:x0.1∈Region.ready .any ops listed:=by
     refine mem_ready.2 ⟨by rw[Rw (by omega)];exact hu,o,h2,λ e he hbe=>?_⟩;have hj:=hlt _ _ h2 e.on (Aba.2 ⟨e,he,hbe,rfl⟩);cases hc:listed.getD e.on false
     case true=>rfl
     obtain⟨y,hy,hye⟩:=(hl e.on (by omega)).1 hc;rcases Vi.1 hy with rfl|hy
     ·omega
     ·have:=(Yt.1 hs).1 y hy;omega
    rw[h0]at this;simp at this
   ·obtain⟨h1,o,h2,h3⟩:=mem_ready.1 hm;have hil:i<ops.size:=(Yw.1 h2).1;rw[Rw (by omega)]at h1;obtain⟨y,hy,hyi⟩:=(hl i hil).1 h1;obtain⟨L1,L2,hL⟩:=List.append_of_mem hy
    have haft:∀ j∈aft o,listed.getD j false=true:=λ j hj=>by
     obtain⟨e,he,hbe,rfl⟩:=Aba.1 hj;exact h3 e he hbe
    have hanc:∀ j,Anc ops j i→listed.getD j false=true:=by
     intro j hj
     cases hj with
     |dir h hj=>rw[h2]at h;cases h;exact haft _ hj
     |tr h hk ha=>rw[h2]at h;cases h;exact Us hd ha (haft _ hk)
    rw[hL]at hs hl hi ho hb hr hlen;rw[Zp]at hs hi;obtain⟨s1,s2,s3⟩:=hs;obtain⟨i1,i2,i3⟩:=hi;rw[Yt]at s2 i2
    have hind:∀ x∈L1,Ind x.2 y.2:=by
     intro x hx;rcases i3 x hx y (by simp) with h|h
     ·exfalso;have h4:=hanc x.1 (by rw[← hyi];exact h);have h5:=(hl x.1 (hb x (by simp[hx]))).2 ⟨x,by simp[hx],rfl⟩;rw[h4]at h5;cases h5
     ·exact h
    rw[Jia,Xs]at hr;obtain⟨hN,hr2⟩:=Dma.front (λ z hz=>by obtain⟨x,hx,rfl⟩:=Zc.1 hz;exact hind x hx) hr;rw[← Jia]at hr2;subst hyi;refine ho y (by simp) S a A K hg hN _ (λ S' a' A' K' g' e'=>?_)
    refine Dna hlt hQ fuel (L1++L2) (listed.setIfInBounds y.1 true) S' a' A' (by simp at hlen ⊢;omega) (by simpa using hsz) ?_ ?_ ?_ (λ x hx=>ho x (by rcases Vn.1 hx with h|h<;>simp[h])) (λ x hx=>hb x (by rcases Vn.1 hx with h|h<;>simp[h])) ?_ K' g' (by rw[e'];exact hr2)
    ·exact Zp.2 ⟨s1,s2.2,λ x hx z hz=>s3 x hx z (Ve _ hz)⟩
    ·intro k hk
     by_cases hky:k=y.1
     ·subst hky
      have e1:(listed.setIfInBounds y.1 true).getD y.1 false=true:=by simp[Wd,hsz,hk]
      rw[e1];constructor
      ·intro h;cases h
      ·rintro⟨x,hx,hxe⟩;exfalso;rcases Vn.1 hx with h|h
       ·have:=s3 x h y (by simp);omega
       ·have:=s2.1 x h;omega
     ·rw[getD_set_ne false (Jxa hky),hl k hk];constructor
      ·rintro⟨x,hx,hxe⟩;refine⟨x,?_,hxe⟩;rcases Vn.1 hx with h|h
       ·exact Vq _ h
       ·rcases Vi.1 h with rfl|h
        ·exact(hky hxe.symm).elim
        ·exact Vg _ h
      ·rintro⟨x,hx,hxe⟩
       exact⟨x,by rcases Vn.1 hx with h|h<;>simp[h],hxe⟩
    ·exact Zp.2 ⟨i1,i2.2,λ x hx z hz=>i3 x hx z (Ve _ hz)⟩
    ·intro k o' hk hkl j hj
     by_cases hky:k=y.1
     ·subst hky;rw[h2]at hk;cases hk;exact getD_set_true (haft j hj)
     ·rw[getD_set_ne false (Jxa hky)]at hkl;exact getD_set_true (hd k o' hk hkl j hj)
end
end

section
attribute [local irreducible] C H
def Og {p:Nat}:∀ {l:List Nat},Fqa p l=true↔p∈l
 |[]=>by simp[Fqa]
 |q::l=>by
  simp only[Fqa,Jha,Vi,Og (l:=l)];constructor
  ·rintro (h|h)
   ·exact .inl (Vb h).symm
   ·exact .inr h
  ·rintro (rfl|h)
   ·exact .inl (by simp)
   ·exact .inr h
def Oh {m:List Nat}:∀ {l:List Nat},Fra l m=true↔∀ p∈l,p∉m
 |[]=>by simp[Fra]
 |q::l=>by
  simp only[Fra,Va,Wg,Vi,Oh (l:=l)];constructor
  ·rintro⟨h1,h2⟩ p (rfl|h) hm
   ·rw[Og.2 hm]at h1;cases h1
   ·exact h2 p h hm
  ·intro h;refine⟨?_,λ p hp=>h p (.inr hp)⟩
   cases hc:Fqa q m with
   |false=>rfl
   |true=>exact(h q (.inl rfl) (Og.1 hc)).elim
def F7a (s:Sv) (j:Nat):Sv:=match s with
 |.tup vs => .tup (vs.set j (false,[.dead]))
 |s=>s
structure Ext (x:Ak) (t j d:Nat):Prop where
 N:∃ ag l,∀ g,x.N g↔∃ vs,(g t).2 = .tup vs∧nth vs j=some (ag,l)
 e:d≠t→∃ (w:Bool) (s:Sv),∀ g p,x.e g p=if p=d then ((g p).1+1,s) else if w=true∧p=t then ((g p).1+1,F7a (g p).2 j) else g p
structure Oi (y:Lg) (x:Ak):Prop where
 WF:∀ p∈y.W,p∈y.F
 N:∀ g g',(∀ p∈y.F,g p=g' p)→x.N g→x.N g'
 out:∀ g p,p∉y.W→x.e g p=g p
 loc:∀ g g' p,p∈y.W→g p=g' p→x.e g p=x.e g' p
 ex:∀ t j d,y.ex=some (t,j,d)→Ext x t j d
def Oi.ind {y y':Lg} {x x':Ak} (h:Oi y x) (h':Oi y' x') (hi:W7 y y'=true):Ind x x':=by
 unfold W7 at hi;simp only[Jha,Va]at hi;rcases hi with⟨d1,d2⟩|hi
 ·have d1:=Oh.1 d1;have d2:=Oh.1 d2;have o1:∀ g,∀ p∈y'.F,x.e g p=g p:=λ g p hp=>h.out g p (λ hw=>d1 p hw hp);have o2:∀ g,∀ p∈y.F,x'.e g p=g p:=λ g p hp=>h'.out g p (λ hw=>d2 p hw hp);refine⟨λ g _ hn=>h'.N _ _ (o1 g) hn,λ g _ hn=>h.N _ _ (λ p hp=>(o2 g p hp).symm) hn,λ g _ _=>?_⟩;funext p
  by_cases hp:p∈y.W
  ·have hp':p∉y'.W:=λ hw=>d2 p hw (h.WF p hp);rw[h'.out (x.e g) p hp',h.loc (x'.e g) g p hp (o2 g p (h.WF p hp))]
  ·rw[h.out (x'.e g) p hp]
   by_cases hp':p∈y'.W
   ·exact h'.loc g (x.e g) p hp' (o1 g p (h'.WF p hp')).symm
   ·rw[h'.out _ p hp',h'.out _ p hp',h.out _ p hp]
 ·split at hi
  ·rename_i t j d t' j' d' e1 e2;simp only[Va,Wg]at hi;obtain⟨⟨⟨⟨q1,q2⟩,q3⟩,q4⟩,q5⟩:=hi;have ht:t=t':=Vb q1;subst ht
   have hj:j≠j':=λ e=>by subst e;simp at q2
   have hd:d≠d':=λ e=>by subst e;simp at q3
   have hdt:d≠t:=λ e=>by subst e;simp at q4
   have hdt':d'≠t:=λ e=>by subst e;simp at q5
   obtain⟨⟨ag,l,hN⟩,he⟩:=h.ex t j d e1;obtain⟨⟨ag',l',hN'⟩,he'⟩:=h'.ex t j' d' e2;obtain⟨w,s,he⟩:=he hdt;obtain⟨w',s',he'⟩:=he' hdt'
   have et:∀ g,(x.e g t).2=if w=true then F7a (g t).2 j else (g t).2:=λ g=>by
    rw[he,if_neg (Jxa hdt)]
    cases w<;>simp
   have et':∀ g,(x'.e g t).2=if w'=true then F7a (g t).2 j' else (g t).2:=λ g=>by
    rw[he',if_neg (Jxa hdt')]
    cases w'<;>simp
   refine⟨λ g hn hn'=>?_,λ g hn' hn=>?_,λ g hn hn'=>?_⟩
   ·obtain⟨vs,g1,g2⟩:=(hN g).1 hn;obtain⟨vs',g1',g2'⟩:=(hN' _).1 hn';refine(hN' g).2 ⟨vs,g1,?_⟩;rw[et,g1]at g1'
    cases w with
    |false=>
     simp only[Vz,if_false,Sv.tup.injEq]at g1';rw[g1'];exact g2'
    |true=>
     simp only[if_true,F7a,Sv.tup.injEq]at g1';rw[← g1',D5,List.getElem?_set_ne hj]at g2';rw[D5];exact g2'
   ·obtain⟨vs,g1,g2⟩:=(hN g).1 hn;refine(hN _).2 ?_;cases w'
    ·exact⟨vs,by rw[et',g1];simp,g2⟩
    refine⟨vs.set j' (false,[.dead]),by rw[et',g1];simp[F7a],?_⟩;rw[D5,List.getElem?_set_ne (Jxa hj),← D5];exact g2
   ·funext p
    by_cases p1:p=d
    ·subst p1;simp[he,he',hd,hdt]
    ·by_cases p2:p=d'
     ·subst p2;simp[he,he',p1,hdt']
     ·by_cases p3:p=t
      ·subst p3;obtain⟨vs,g1,g2⟩:=(hN g).1 hn
       cases w<;>cases w'<;>simp[he,he',p1,p2,g1,F7a]
       exact List.set_comm _ _ (Jxa hj)
      ·simp[he,he',p1,p2,p3]
  ·cases hi
def Ti {ops:Array Oper}:∀ {lg:List Lg},(∀ y∈lg,∀ k,Nat.testBit y.anc k=true→Anc ops k y.i)→∀ j k,Nat.testBit (W8 lg j) k=true→Anc ops k j
 |[],_,j,k,h=>by simp[W8]at h
 |y::lg,hl,j,k,h=>by
  unfold W8 at h
  cases hb:Nat.beq y.i j with
  |true=>
   rw[hb,cond_true]at h;rw[← Vb hb];exact hl y (by simp) k h
  |false=>
   rw[hb,cond_false]at h;exact Ti (λ z hz=>hl z (Ve _ hz)) j k h
def Aca {ops:Array Oper} {lg:List Lg} (hl:∀ y∈lg,∀ k,Nat.testBit y.anc k=true→Anc ops k y.i) {i:Nat} {o:Oper} (ho:ops[i]? = some o):∀ {l:List Nat},(∀ j∈l,j∈aft o)→∀ k,Nat.testBit (D7a lg l) k=true→Anc ops k i
 |[],_,k,h=>by simp[D7a]at h
 |j::l,hj,k,h=>by
  unfold D7a at h;simp only[Nat.testBit_or,Jha]at h;rcases h with (h|h)|h
  ·rw[Nat.testBit_two_pow]at h;simp only[decide_eq_true_eq]at h;subst h;exact .dir ho (hj _ (by simp))
  ·exact .tr ho (hj j (by simp)) (Ti hl j k h)
  ·exact Aca hl ho (λ m hm=>hj m (Ve _ hm)) k h
section
variable {X:Cx} {E:En} {ops:Array Oper} {Q:Exit→Act→World→Prop}
def Tj {S:Sit} {a:Act} (hE:Dq X E) (hK:Ae X S a) {o:Oper} {j dj:Nat} {want:Bool} (hgd:o.guard=some (j,want)) (hdj:W6 ops.toList j=some dj) (hb:Nat.blt dj E.nt=true):
  (∀ b,(S.g dj).2 = .one (.sc (.bool b))→Region.wanted o (yielded ops a.tmps)=(b==want))∧((S.g dj).2 = .one .un→Region.wanted o (yielded ops a.tmps)=false):=by
 have hdj':(ops[j]?).bind (·.dst)=some dj:=by
  unfold W6 at hdj;rw[D5]at hdj
  have:ops.toList[j]? = ops[j]? := by simp
  rw[this]at hdj
  cases hj:ops[j]? with
  |none=>rw[hj]at hdj;cases hdj
  |some oj=>rw[hj]at hdj;simpa using hdj
 have hjl:dj<X.nt:=hE.nt ▸ (Vd hb:dj+1≤E.nt)
 have htm:a.tmps[dj]? = some (S.ph dj):=by
  have h1:=hK.sl dj hjl
  have h2:dj<a.tmps.size:=by rw[hK.sz];exact hjl
  rw[← h1,Wd,Zn h2];rfl
 have hy:yielded ops a.tmps j=(match S.ph dj with | .bool b=>some b|_=>none):=by
  unfold yielded;rw[hdj',Ym,htm]
  cases S.ph dj<;>rfl
 have hwd:Region.wanted o (yielded ops a.tmps)=((match S.ph dj with | .bool b=>some b|_=>none)==some want):=by
  unfold Region.wanted;rw[hgd];simp only;rw[hy]
 have hat:=hK.at_ dj;constructor
 ·intro b hs;rw[hs]at hat;have hph:S.ph dj = .bool b:=hat.1;rw[hwd,hph]
  cases b<;>cases want<;>rfl
 ·intro hs;rw[hs]at hat;have hph:S.ph dj=undef:=hat;rw[hwd,hph];simp[undef]
def Hya (F:List Nat) (A:Ab) (U:List Up):Ak:=⟨λ g=>∀ p∈F,g p=get A p,λ g=>Rv g U⟩
def Ada {y:Lg} {A:Ab} {U:List Up} {F:List Nat} (hF:y.F=F++U.map Up.l) (hW:y.W=U.map Up.l) (hex:y.ex=none):Oi y (Hya y.F A U):=by
 refine⟨λ p hp=>?_,λ g g' h hn p hp=>by rw[← h p hp];exact hn p hp,λ g p hp=>Iw U g p (by rw[← hW];exact hp),λ g g' p _ h=>Ix U g g' p h,λ t j d h=>by rw[hex]at h;cases h⟩;rw[hF,Vn];exact .inr (by rw[← hW];exact hp)
def Gta (hV:Lo X E) {i:Nat} {o:Oper} (hi:ops[i]? = some o) (hd:P0 E o=true) {x:Ak} (hw:∀ S a,Ae X S a→x.N S.g→Region.wanted o (yielded ops a.tmps)=true)
  (hU:∀ A',x.N (get A')→∃ U,Af E o A' some=some U∧Rv (get A') U=x.e (get A')):Fva X ops Q i x:=by
 intro S a A' K hg hn Kn hk
 have hdl:∀ d,o.dst=some d→d<X.nt:=λ d hod=>by
  unfold P0 at hd;rw[hod]at hd;exact hV.en.nt ▸ (Vd hd:d+1≤E.nt)
 obtain⟨U,hU1,hU2⟩:=hU A' hn;obtain⟨U',hU',hgo⟩:=Y3 hV K hg hdl hU1;simp only[Vc]at hU';subst hU';unfold wpOp;rw[hi];simp only;rw[if_pos (hw S a K (by rw[hg];exact hn))];exact .inl (hgo _ _ (λ S' a' K' g'=>hk S' a' _ K' g' ((Hk U' A').trans hU2)))
def F8a (hV:Lo X E) {i:Nat} {o:Oper} (hi:ops[i]? = some o) (hd:P0 E o=true) {N:Gs→Prop} (hw:∀ S a,Ae X S a→N S.g→Region.wanted o (yielded ops a.tmps)=false):
  Fva X ops Q i ⟨N,λ g=>Rv g (match o.dst with|some d=>[⟨d,false,.one .un⟩]|none=>[])⟩:=by
 intro S a A' K hg hn Kn hk;unfold wpOp;rw[hi];simp only;rw[if_neg (by rw[hw S a K (by rw[hg];exact hn)];decide)];obtain⟨S',K',g',w'⟩:=Dia hV.en K hg hd;rw[← w'];refine hk S' _ _ K' g' ?_;unfold Ia
 cases o.dst with
 |none=>rfl
 |some d=>exact Hk [⟨d,false,.one .un⟩] A'
def Tk (t j d:Nat) (l:List Lf) (s:Sv) (vs:List (Bool×List Lf)):List Up:=bif C0 l then [⟨t,false,.tup (vs.set j (false,[.dead]))⟩,⟨d,false,s⟩] else [⟨d,false,s⟩]
def Cpa {R:Type} {Kc:List Up→Option R} {r:R} {A:Ab} {o:Oper} {t j d:Nat} (ho:o.op = .extract (.tmp t) j) (hod:o.dst=some d) (h:Af E o A Kc=some r):
  ∃ vs ag l s,(get A t).2 = .tup vs∧nth vs j=some (ag,l)∧Kc (Tk t j d l s vs)=some r∧∀ A' vs',(get A' t).2 = .tup vs'→nth vs' j=some (ag,l)→Af E o A' some=some (Tk t j d l s vs'):=by
 unfold Af at h;rw[ho,hod]at h;simp only at h;cases hb:Nat.blt t E.nt
 ·rw[hb]at h;simp at h
 rw[hb,cond_true]at h;split at h
 ·rename_i vs hg;split at h
  ·rename_i ag l hn;split at h
   ·rename_i s hs;refine⟨vs,ag,l,s,hg,hn,?_,λ A' vs' hg' hn'=>?_⟩
    ·rw[← h];unfold Tk
     cases C0 l<;>rfl
    ·unfold Af;rw[ho,hod];simp only[hb,cond_true,hg',hn',hs];unfold Tk
     cases C0 l<;>rfl
   ·cases h
  ·cases h
 ·cases h
def Rx (t j d:Nat) (ag:Bool) (l:List Lf) (s:Sv):Ak:=
 ⟨λ g=>∃ vs,(g t).2 = .tup vs∧nth vs j=some (ag,l),λ g=>Rv g (bif C0 l then [⟨t,false,F7a (g t).2 j⟩,⟨d,false,s⟩] else [⟨d,false,s⟩])⟩
def Cqa {o:Oper} {i:Nat} {lg:List Lg} {A:Ab} {t j d:Nat} {ag:Bool} {l:List Lf} {s:Sv} {vs:List (Bool×List Lf)} (ho:o.op = .extract (.tmp t) j) (hod:o.dst=some d):
  Oi (Mo o i lg [] A (Tk t j d l s vs)) (Rx t j d ag l s):=by
 have ht:t∈(Mo o i lg [] A (Tk t j d l s vs)).F:=by
  show t∈[]++rds A o++_;simp[rds,Fpa,ho,Dn,B6a,rdO]
 have hW:(Mo o i lg [] A (Tk t j d l s vs)).W=bif C0 l then [t,d] else [d]:=by
  show (Tk t j d l s vs).map Up.l=_;unfold Tk
  cases C0 l<;>rfl
 refine⟨λ p hp=>Vg _ hp,λ g g' hF hn=>?_,λ g p hp=>?_,λ g g' p hp h=>?_,λ t' j' d' h=>?_⟩
 ·obtain⟨vs',h1,h2⟩:=hn;exact⟨vs',by rw[← hF t ht];exact h1,h2⟩
 ·rw[hW]at hp;unfold Rx
  cases hl:C0 l with
  |true=>
   rw[hl]at hp;exact Iw _ _ _ hp
  |false=>
   rw[hl]at hp;exact Iw _ _ _ hp
 ·rw[hW]at hp;unfold Rx;cases hl:C0 l
  ·exact Ix _ _ _ p h
  rw[hl]at hp;simp only[cond_true];show gup (gup g _) _ p=gup (gup g' _) _ p;unfold gup
  by_cases e1:p=d
  ·subst e1
   by_cases e2:p=t
   ·subst e2;simp[h]
   ·simp[e2,h]
  ·rcases Vi.1 hp with e2|e2
   ·subst e2;simp[e1,h]
   ·exact(e1 (by simpa using e2)).elim
 ·have hex:(Mo o i lg [] A (Tk t j d l s vs)).ex=some (t,j,d):=by
   show (bif List.isEmpty ([]:List Nat) then G0a o else none)=_;simp[G0a,ho,hod]
  rw[hex]at h;cases h;refine⟨⟨ag,l,λ g=>K9a⟩,λ hdt=>⟨C0 l,s,λ g p=>?_⟩⟩;unfold Rx
  cases hl:C0 l with
  |false=>
   show gup g _ p=_;unfold gup
   by_cases e1:p=d
   ·subst e1;simp
   ·simp[e1]
  |true=>
   simp only[cond_true];show gup (gup g _) _ p=_;unfold gup
   by_cases e1:p=d
   ·subst e1;simp[hdt]
   ·simp[e1]
    by_cases e2:p=t
    ·subst e2;simp
    ·simp[e2]
end
end

section
attribute [local irreducible] C H
section
variable {X:Cx} {E:En} {ops:Array Oper} {Q:Exit→Act→World→Prop}
structure Doa (X:Cx) (ops:Array Oper) (Q:Exit→Act→World→Prop) (l:List Nat) (lg:List Lg) (g:Gs) (f:Gs) (L:List (Lg×Ak)):Prop where
 ix:L.map (λ z=>z.1.i)=l
 runs:Dma (L.map Prod.snd) g f
 fits:∀ z∈L,Oi z.1 z.2∧Fva X ops Q z.1.i z.2
 old:∀ y∈lg,∀ z∈L,Nat.testBit z.1.anc y.i=true∨W7 y z.1=true
 pair:L.Pairwise (λ y z=>Nat.testBit z.1.anc y.1.i=true∨W7 y.1 z.1=true)
 anc:∀ z∈L,∀ k,Nat.testBit z.1.anc k=true→Anc ops k z.1.i
 lt:∀ i∈l,∃ o,ops[i]? = some o∧∀ j∈aft o,j<i
def Doa.cons {l:List Nat} {lg:List Lg} {g g1 f:Gs} {L:List (Lg×Ak)} {y:Lg} {x:Ak} {i:Nat} (h:Doa X ops Q l (y::lg) g1 f L) (hi:y.i=i) (hn:x.N g) (he:x.e g=g1) (hf:Oi y x) (ho:Fva X ops Q i x) (hok:W9 lg y=true)
  (ha:∀ k,Nat.testBit y.anc k=true→Anc ops k i) (hl:∃ o,ops[i]? = some o∧∀ j∈aft o,j<i):Doa X ops Q (i::l) lg g f ((y,x)::L):=by
 refine⟨by simp[hi,h.ix],⟨hn,by rw[he];exact h.runs⟩,?_,?_,?_,?_,?_⟩
 ·intro z hz;rcases Vi.1 hz with rfl|hz
  ·exact⟨hf,by rw[hi];exact ho⟩
  ·exact h.fits z hz
 ·intro y' hy' z hz;rcases Vi.1 hz with rfl|hz
  ·unfold W9 at hok;rw[Zt]at hok;have:=hok y' hy'
   simpa using this
  ·exact h.old y' (Ve _ hy') z hz
 ·exact Yt.2 ⟨λ z hz=>h.old y (by simp) z hz,h.pair⟩
 ·intro z hz k hk;rcases Vi.1 hz with rfl|hz
  ·rw[hi];exact ha k hk
  ·exact h.anc z hz k hk
 ·intro j hj;rcases Vi.1 hj with rfl|hj
  ·exact hl
  ·exact h.lt j hj
def Tl (hV:Lo X E) {R:Type}:∀ (l:List Nat) (lg:List Lg) (A:Ab) (K:Ab→Option R) (r:R),(∀ y∈lg,∀ k,Nat.testBit y.anc k=true→Anc ops k y.i)→Di E ops.toList l lg A K=some r→
  ∃ (L:List (Lg×Ak)) (A':Ab),K A'=some r∧Doa X ops Q l lg (get A) (get A') L
 |[],lg,A,K,r,_,h=>⟨[],A,h,rfl,rfl,by simp,by simp,.nil,by simp,by simp⟩
 |i::l,lg,A,K,r,hlg,h=>by
  unfold Di at h;rw[D5]at h;split at h
  ·cases h
  ·rename_i o ho
   have hi:ops[i]? = some o:=by simpa using ho
   obtain⟨hb0,h⟩:=cs h;simp only[Va,Zt]at hb0;obtain⟨hd,hlt0⟩:=hb0
   have hlt:∃ o,ops[i]? = some o∧∀ j∈aft o,j<i:=⟨o,hi,λ j hj=>by
    have:=hlt0 j hj
    exact Vd this⟩
   have hanc:∀ k,Nat.testBit (D7a lg (aft o)) k=true→Anc ops k i:=Aca hlg hi (λ j hj=>hj)
   have next:∀ {y:Lg} {x:Ak} {A1:Ab},y.i=i→y.anc=D7a lg (aft o)→x.N (get A)→x.e (get A)=get A1→Oi y x→Fva X ops Q i x→W9 lg y=true→Di E ops.toList l (y::lg) A1 K=some r→
     ∃ (L:List (Lg×Ak)) (A':Ab),K A'=some r∧Doa X ops Q (i::l) lg (get A) (get A') L:=by
    intro y x A1 e1 e2 hn he hf hop hok hev
    obtain⟨L,A',h1,h2⟩:=Tl hV l (y::lg) A1 K r (λ z hz k hk=>by
     rcases Vi.1 hz with rfl|hz
     ·rw[e1];exact hanc k (by rw[← e2];exact hk)
     ·exact hlg z hz k hk) hev
    exact⟨_,A',h1,h2.cons e1 hn he hf hop hok (by rw[e2];exact hanc) hlt⟩
   have cnd:∀ {b:Bool} {z:Option R},(bif b then z else none)=some r→b=true∧z=some r:=by
    intro b z hz
    cases b with
    |false=>simp at hz
    |true=>exact⟨rfl,hz⟩
   have exec:∀ (B:Ab) (gd:List Nat),get B=get A→(∀ S a,Ae X S a→(∀ p∈gd,S.g p=get A p)→Region.wanted o (yielded ops a.tmps)=true)→
     Af E o B (λ U=>bif W9 lg (Mo o i lg gd B U) then Di E ops.toList l (Mo o i lg gd B U::lg) (ups B U) K else none)=some r→
     ∃ (L:List (Lg×Ak)) (A':Ab),K A'=some r∧Doa X ops Q (i::l) lg (get A) (get A') L:=by
    intro B gd hBA hw hs
    have generic:(Mo o i lg gd B [] ).ex=none→∃ (L:List (Lg×Ak)) (A':Ab),K A'=some r∧Doa X ops Q (i::l) lg (get A) (get A') L:=by
     intro hex;obtain⟨U,h1,h2⟩:=Coa (F:=rds B o) (λ p hp=>hp) hd.2 hs;obtain⟨hok,hev⟩:=cnd h1;have hfit:Oi (Mo o i lg gd B U) (Hya (Mo o i lg gd B U).F B U):=Ada (F:=gd++rds B o) rfl rfl hex;refine next (y:=Mo o i lg gd B U) (x:=Hya (Mo o i lg gd B U).F B U) (A1:=ups B U) rfl rfl (λ p _=>by rw[hBA]) ?_ hfit ?_ hok hev
     ·show Rv (get A) U=_;rw[Hk,hBA]
     ·refine Gta hV hi hd.1 (λ S a hS hN=>hw S a hS (λ p hp=>?_)) (λ A' hN=>⟨U,?_,rfl⟩)
      ·rw[← hBA];exact hN p (by show p∈gd++rds B o++_;simp[hp])
      ·exact h2 A' (λ p hp=>hN p (by show p∈gd++rds B o++_;simp[hp])) some
    cases hgd:gd with
    |cons p0 gd'=>subst hgd;exact generic (by simp[Mo])
    |nil=>
     subst hgd
     cases hexo:G0a o with
     |none=>exact generic (by simp[Mo,hexo])
     |some q=>
      obtain⟨t,j,d⟩:=q
      have:o.op = .extract (.tmp t) j∧o.dst=some d:=by
       unfold G0a at hexo;split at hexo
       ·rename_i e1 e2;cases hexo;exact⟨e1,e2⟩
       ·cases hexo
      obtain⟨hop,hod⟩:=this;obtain⟨vs,ag,lf,s,hg,hn,h1,h2⟩:=Cpa hop hod hs;obtain⟨hok,hev⟩:=cnd h1
      have hex:∀ A' vs',(get A' t).2 = .tup vs'→Rv (get A') (Tk t j d lf s vs')=(Rx t j d ag lf s).e (get A'):=by
       intro A' vs' hv;unfold Tk Rx;simp only;rw[hv];rfl
      refine next (y:=Mo o i lg [] B (Tk t j d lf s vs)) (x:=Rx t j d ag lf s) (A1:=ups B (Tk t j d lf s vs)) rfl rfl ⟨vs,by rw[← hBA];exact hg,hn⟩ ?_ (Cqa hop hod) ?_ hok hev
      ·rw[← hBA,Hk];exact(hex B vs hg).symm
      ·refine Gta hV hi hd.1 (λ S a hS _=>hw S a hS (by simp)) (λ A' hN=>?_);obtain⟨vs',g1,g2⟩:=hN;exact⟨_,h2 A' vs' g1 g2,hex A' vs' g1⟩
   have skip:∀ (B:Ab) (dj:Nat),get B=get A→(∀ S a,Ae X S a→S.g dj=get A dj→Region.wanted o (yielded ops a.tmps)=false)→
     (bif W9 lg (Ib o i lg [dj]) then Di E ops.toList l (Ib o i lg [dj]::lg) (Ia o B) K else none)=some r→
     ∃ (L:List (Lg×Ak)) (A':Ab),K A'=some r∧Doa X ops Q (i::l) lg (get A) (get A') L:=by
    intro B dj hBA hw hs;obtain⟨hok,hev⟩:=cnd hs
    have hsk:Rv (get A) (match o.dst with|some d=>[⟨d,false,.one .un⟩]|none=>[])=get (Ia o B):=by
     unfold Ia
     cases o.dst with
     |none=>exact hBA.symm
     |some d=>rw[← hBA];exact(Hk [⟨d,false,.one .un⟩] B).symm
    refine next (y:=Ib o i lg [dj]) (x:=⟨λ g=>g dj=get A dj,λ g=>Rv g (match o.dst with|some d=>[⟨d,false,.one .un⟩]|none=>[])⟩) (A1:=Ia o B) rfl rfl rfl hsk ?_ (F8a hV hi hd.1 (λ S a hS hN=>hw S a hS hN)) hok hev
    have hmap:(match o.dst with|some d=>[(⟨d,false,.one .un⟩:Up)]|none=>[]).map Up.l=o.dst.toList:=by cases o.dst<;>rfl
    refine⟨λ p hp=>Vg _ hp,λ g g' h hn=>by show g' dj=get A dj;rw[← h dj (by show dj∈[dj]++_;simp)];exact hn,λ g p hp=>Iw _ g p (by rw[hmap];exact hp),λ g g' p _ h=>Ix _ g g' p h,λ t j d h=>by cases h⟩
   split at h
   ·rename_i hgd;exact exec A [] rfl (λ S a _ _=>by unfold Region.wanted;rw[hgd]) h
   ·rename_i j want hgd;split at h
    ·cases h
    ·rename_i dj hdj;obtain⟨hb,h⟩:=cs h;split at h
     ·rename_i n b hgt;have hwant:∀ (S:Sit) (a:Act),Ae X S a→S.g dj=get A dj→Region.wanted o (yielded ops a.tmps)=(b==want):=λ S a hS hs=>(Tj hV.en hS hgd hdj hb).1 b (by rw[hs,hgt])
      cases b with
      |true=>
       rw[cond_true]at h
       cases want with
       |true=>
        rw[cond_true]at h;exact exec (lit A dj n true) [dj] (Lq hgt) (λ S a hS hs=>hwant S a hS (hs dj (by simp))) h
       |false=>
        rw[cond_false]at h;exact skip (lit A dj n true) dj (Lq hgt) (λ S a hS hs=>hwant S a hS hs) h
      |false=>
       rw[cond_false]at h
       cases want with
       |true=>
        rw[cond_true]at h;exact skip (lit A dj n false) dj (Lq hgt) (λ S a hS hs=>hwant S a hS hs) h
       |false=>
        rw[cond_false]at h;exact exec (lit A dj n false) [dj] (Lq hgt) (λ S a hS hs=>hwant S a hS (hs dj (by simp))) h
     ·rename_i n hgt;exact skip A dj rfl (λ S a hS hs=>(Tj hV.en hS hgd hdj hb).2 (by rw[hs,hgt])) h
     ·cases h
def F9a (hV:Lo X E) (hm:X.P.follows .mixedOrders=true):Pw X E:=by
 intro R id ops Q S a A K r hK hg h hQ;refine wp_region_any hm ?_;obtain⟨L,A',hA',T⟩:=Tl (X:=X) (ops:=ops) (Q:=Q) hV _ [] A K r (by simp) h
 have hlen:L.length=ops.size:=by
  have:=congrArg length T.ix
  simpa using this
 have hmem:∀ z∈L,z.1.i<ops.size:=by
  intro z hz;have:z.1.i∈L.map (λ z=>z.1.i):=Yk hz;rw[T.ix]at this
  simpa using this
 have K2:=(hK.world (w' := { S.w with drawn:=S.w.drawn+1 }) (O':=S.O) (λ k _ _=>⟨rfl,rfl⟩) rfl rfl rfl (Vo _) hK.lt).1;refine Dna (X:=X) (f:=get A') ?_ (λ S' a' A2 K' g' e'=>hQ S' a' A' K' (by rw[g',e']) hA') ops.size (L.map λ z=>(z.1.i,z.2)) _ (Kd S { S.w with drawn:=S.w.drawn+1 } S.O) a A (by simp[hlen]) (by simp) ?_ ?_ ?_ ?_ ?_ ?_ K2 hg ?_
 ·intro i o hi j hj;have hil:i<ops.size:=(Yw.1 hi).1;obtain⟨o',h1,h2⟩:=T.lt i (by simpa using hil);rw[hi]at h1;cases h1;exact h2 j hj
 ·rw[Kea]
  have hp:(L.map (λ z=>z.1.i)).Pairwise (· < ·):=by rw[T.ix];exact List.pairwise_lt_range
  rw[Kea]at hp;exact hp
 ·intro i hi;constructor
  ·intro _
   have:i∈L.map (λ z=>z.1.i):=by rw[T.ix];simpa using hi
   obtain⟨z,hz,hzi⟩:=Zc.1 this;exact⟨(z.1.i,z.2),Yk hz,hzi⟩
  ·intro _;simp[Wd,hi]
 ·rw[Kea];refine List.Pairwise.imp_of_mem ?_ T.pair;intro y z hy hz h;rcases h with h|h
  ·exact .inl (T.anc z hz _ h)
  ·exact .inr ((T.fits y hy).1.ind (T.fits z hz).1 h)
 ·intro x hx;obtain⟨z,hz,rfl⟩:=Zc.1 hx;exact(T.fits z hz).2
 ·intro x hx;obtain⟨z,hz,rfl⟩:=Zc.1 hx;exact hmem z hz
 ·intro i o hi hl;have hil:i<ops.size:=(Yw.1 hi).1;simp[Wd,hil]at hl
 ·have:(L.map λ z=>(z.1.i,z.2)).map Prod.snd=L.map Prod.snd:=by simp
  rw[this];exact T.runs
end
end

section
attribute [local irreducible] C H
def Ty.fit (ti:TypeId→Option TI):(t:Ty)→t.den→Prop
 |.i k,n=>(Lit.int k n).wf=true
 |.b,_=>True
 |.s,x=>x.size≤140737488351232
 |.sl e r,xs=>(∀ te,ti e=some te→xs.length*te.by_≤140737488351232)∧∀ x∈xs,r.fit ti x
 |.ow e r,xs=>(∀ te,ti e=some te→xs.length*te.by_≤140737488351232)∧∀ x∈xs,r.fit ti x
 |.pr x y,p=>x.fit ti p.1∧y.fit ti p.2
def Gua (ti:TypeId→Option TI) (T:TypeId) (ty:Ty):Bool:=match ti T with
 |some t=>decide (t.ty=ty)
 |none=>false
def Jq (ti:TypeId→Option TI):List Field→Nat→Ty→Bool
 |[],_,_=>false
 |[f],o,ty=>Nat.beq f.offset o&&Gua ti f.type ty
 |f::g::fs,o,.pr x y=>Nat.beq f.offset o&&Gua ti f.type x&&Jq ti (g::fs) (o+x.sz) y
 |_,_,_=>false
def Iy (P:Program) (ti:TypeId→Option TI) (T:TypeId):Bool:=match ti T,P.underlying T with
 |none,_=>true
 |some t,some (.struct fs)=>t.ag&&Jq ti fs.toList 0 t.ty
 |some ⟨.sl e r,false,_,_⟩,some (.slice e')=>Nat.beq e e'&&Gua ti e r
 |some ⟨.i k,false,_,_⟩,some (.int k')=>decide (k=k')
 |some ⟨.b,false,_,_⟩,some .bool=>true
 |some ⟨.s,false,_,_⟩,some .string=>true
 |_,_=>false
section
variable {H':Type} {enc:TypeId×Value→H'} {P:Program} {w:World} {base:Nat} {spare:Nat→Bool} {held:Bool} {ti:TypeId→Option TI}
def H6 {T:TypeId} {ty:Ty} (h:Gua ti T ty=true):∃ t,ti T=some t∧t.ty=ty:=by
 unfold Gua at h;split at h
 ·rename_i t ht;exact⟨t,ht,of_decide_eq_true h⟩
 ·cases h
def Iz {T:TypeId} {t:TI} (h:TOk P T t):P.cellsOf T=t.ty.sz:=by
 unfold Program.cellsOf;rw[Hb h];rfl
def Aea {T:TypeId} {t:TI} (h:TOk P T t):P.bytesOf T=t.by_:=by
 obtain⟨i,h1,_,h2,_⟩:=h.info;unfold Program.bytesOf;rw[h1];exact h2
def Afa {α:Type} {R:α→List Value→Prop} {Fit:α→Prop} {k o n:Nat}:∀ (len:Nat),(∀ i,i<len→∃ x c,R x c∧Fit x∧c.length=n∧Bo w k (o+i*n) c)→
  ∃ (xs:List α) (cs:List Value),xs.length=len∧Rows R xs cs∧(∀ x∈xs,Fit x)∧cs.length=len*n∧Bo w k o cs
 |0,_=>⟨[],[],rfl,rfl,by simp,by simp,by intro j u hj;simp at hj⟩
 |len+1,h=>by
  obtain⟨xs,cs,h1,h2,h3,h4,h5⟩:=Afa len (λ i hi=>h i (by omega));obtain⟨x,c,g1,g2,g3,g4⟩:=h len (by omega);refine⟨xs++[x],cs++c,by simp[h1],Rows.append h2 ⟨c,[],by simp,g1,rfl⟩,?_,?_,?_⟩
  ·intro y hy;rcases Vn.1 hy with hy|hy
   ·exact h3 y hy
   ·simp at hy;subst hy;exact g2
  ·rw[Vk,h4,g3,Ye,Yh]
  ·intro j u hj
   by_cases hlt:j<cs.length
   ·rw[Yd hlt]at hj;exact h5 j u hj
   ·rw[Yb (by omega)]at hj;have:=g4 (j-cs.length) u hj;rw[h4]at this hlt;rwa [show o+len*n+(j-len*n)=o+j by omega]at this
def Cra {a:Addr} {n:Nat} {cs:List Value} (h:w.cells? base a n=some cs) (hn:0<n):a.spot=none∧a.block<w.heap.size∧cs.length=n∧Bo w a.block a.off cs:=by
 unfold World.cells? at h;split at h
 ·have hl:=mapM_some_length h;have hg:=λ i hi=>mapM_some_get h i i hi;simp only[List.length_range]at hl;have h0:w.cell? (a.add 0)=cs[0]? := hg 0 (by simp[hn]);have hc0:∃ v,cs[0]? = some v:=⟨_,Vp (by omega)⟩;obtain⟨v,hv⟩:=hc0;rw[hv]at h0
  have hspot:a.spot=none∧a.block<w.heap.size:=by
   unfold World.cell? at h0;split at h0
   ·rename_i c e f hb;refine⟨?_,(Yw.1 hb).1⟩
    cases hs:a.spot with
    |none=>rfl
    |some s=>simp[Addr.add,hs]at h0
   ·cases h0
  refine⟨hspot.1,hspot.2,hl,λ j u hj=>?_⟩
  have hjl:j<n:=by have:=(Wb.1 hj).1;omega
  have:=hg j (by simp[hjl]);rw[hj]at this;obtain⟨b,off,sp⟩:=a;have hsp:sp=none:=hspot.1;subst hsp;rw[Ep]at this;exact this
 ·cases h
def Lz {T:TypeId}:∀ {ds:List (DataW H')} {m:Nat},m∈DataW.weightsAll P T ds↔∃ d∈ds,m∈d.weights P T
 |[],m=>by simp[DataW.weightsAll]
 |d::ds,m=>by
  simp only[DataW.weightsAll,Vn,Vi,Lz (ds:=ds)];constructor
  ·rintro (h|⟨d',h1,h2⟩)
   ·exact⟨d,.inl rfl,h⟩
   ·exact⟨d',.inr h1,h2⟩
  ·rintro⟨d',rfl|h1,h2⟩
   ·exact .inl h2
   ·exact .inr ⟨d',h1,h2⟩
def Gva (enc:TypeId×Value→H') (P:Program) (w:World) (base:Nat) (spare:Nat→Bool) (held:Bool) (ti:TypeId→Option TI) (n:Nat):Prop:=
 ∀ T t cs y,ti T=some t→DataW.trod enc P w base spare held n T cs=some y→(∀ m∈y.1.weights P T,m≤140737488351232)→∃ X:t.ty.den,t.ty.rep P (λ k=>k<w.heap.size) w X cs∧t.ty.fit ti X
def M0 (htok:∀ T t,ti T=some t→TOk P T t) {n:Nat} (ih:Gva enc P w base spare held ti n) {cs:List Value}:∀ (fs:List Field) (o:Nat) (ty:Ty) (xs:List (DataW H'×List MemPlace)),Jq ti fs o ty=true→xs.length=fs.length→
  (∀ (i:Nat) (f:Field),fs[i]? = some f→DataW.trod enc P w base spare held n f.type ((cs.drop f.offset).take (P.cellsOf f.type))=xs[i]?)→(∀ m∈DataW.weightsEach P (fs.map (·.type)) (xs.map (·.1)),m≤140737488351232)→o+ty.sz≤cs.length→
  ∃ X:ty.den,ty.rep P (λ k=>k<w.heap.size) w X ((cs.drop o).take ty.sz)∧ty.fit ti X
 |[],o,ty,xs,hp,_,_,_,_=>by cases ty<;>simp[Jq]at hp
 |[f],o,ty,xs,hp,hl,ht,hw,hs=>by
  simp only[Jq,Va]at hp;obtain⟨t,h1,h2⟩:=H6 hp.2;have ho:f.offset=o:=Vb hp.1;subst h2;have e:=ht 0 f rfl
  cases xs with
  |nil=>simp at hl
  |cons y xs=>
   have e':DataW.trod enc P w base spare held n f.type ((cs.drop f.offset).take (P.cellsOf f.type))=some y:=by simpa using e
   rw[Iz (htok _ _ h1),ho]at e';exact ih f.type t _ y h1 e' (λ m hm=>hw m (by simp[DataW.weightsEach,hm]))
 |f::g::fs,o,ty,xs,hp,hl,ht,hw,hs=>by
  cases ty<;>first|(simp[Jq]at hp;done)|skip
  rename_i x y;simp only[Jq,Va]at hp;obtain⟨⟨h0,h1a⟩,hp⟩:=hp;obtain⟨t,h1,h2⟩:=H6 h1a;have ho:f.offset=o:=Vb h0;subst h2;have e:=ht 0 f rfl
  cases xs with
  |nil=>simp at hl
  |cons z xs=>
   have e':DataW.trod enc P w base spare held n f.type ((cs.drop f.offset).take (P.cellsOf f.type))=some z:=by simpa using e
   rw[Iz (htok _ _ h1),ho]at e';have hsz:o+(t.ty.sz+y.sz)≤cs.length:=hs;obtain⟨X,r1,f1⟩:=ih f.type t _ z h1 e' (λ m hm=>hw m (by simp[DataW.weightsEach,hm]))
   obtain⟨Y,r2,f2⟩:=M0 htok ih (g::fs) (o+t.ty.sz) y xs hp (by simpa using hl) (λ i f' hf'=>by have:=ht (i+1) f' hf';simpa using this) (λ m hm=>hw m (by
    simp only[Xs,DataW.weightsEach,Vn]
    exact .inr hm)) (by omega)
   refine⟨(X,Y),⟨_,_,?_,r1,r2⟩,f1,f2⟩;show (cs.drop o).take (t.ty.sz+y.sz)=_;rw[List.take_add,Wj]
def Oj (htok:∀ T t,ti T=some t→TOk P T t) (hcl:∀ T,Iy P ti T=true):∀ n,Gva enc P w base spare held ti n
 |0=>by
  intro T t cs y _ h;simp[DataW.trod]at h
 |n+1=>by
  intro T t cs y hT h hw;have hc:=hcl T;have hk:=htok T t hT;unfold Iy at hc;rw[hT]at hc;split at hc
  ·rename_i e;cases e
  ·-- a struct
   rename_i t0 fs e1 hu;cases e1;simp only[Va]at hc;obtain⟨xs,n',e1,rfl,hl,hxl,hx⟩:=DataW.trod_struct hu h
   have:n'=n:=by omega
   subst this;rw[Iz hk]at hl;have hw':∀ m∈DataW.weightsEach P (fs.toList.map (·.type)) (xs.map (·.1)),m≤140737488351232:=λ m hm=>hw m (by simp only[DataW.weights,hu];exact hm);obtain⟨X,r,f⟩:=M0 htok (Oj htok hcl n') fs.toList 0 t.ty xs hc.2 (by simpa using hxl) (λ i f hf=>hx i f (by simpa using hf)) hw' (by omega);rw[Wq,← hl,K2a]at r;exact⟨X,r,f⟩
  ·-- a slice
   rename_i e r by_ fo e' e1 hu;cases e1;simp only[Va]at hc;obtain⟨te,hte,hty⟩:=H6 hc.2;have he:e=e':=Vb hc.1;subst he;subst hty;have hke:=htok e te hte;have hsz:L3 P e te.ty.sz:=Hb hke;rcases DataW.trod_slice hu h with⟨rfl,rfl⟩|⟨a,len,cap,elems,rest,n',e1,rfl,rfl,hb,hl,hm,hlen,hel,hsp,hns⟩
   ·exact⟨[],⟨_,rfl,hsz,none,0,[],rfl,Vo _,rfl,λ h=>(h rfl).elim⟩,by simp,by simp⟩
   ·have:n'=n:=by omega
    subst this
    have hlw:(elems.map (·.1)).length+(rest.map (·.1)).length=elems.length+rest.length:=by simp
    have hw0:(elems.length+rest.length)*P.bytesOf e≤140737488351232:=hw _ (by simp only[DataW.weights,hu];simp);rw[Aea hke]at hw0;rw[Iz hke]at hel;have hpos:=Gl te.ty
    have each:∀ i,i<len→∃ x c,te.ty.rep P (λ k=>k<w.heap.size) w x c∧te.ty.fit ti x∧c.length=te.ty.sz∧((i=0→a.spot=none)∧a.block<w.heap.size)∧Bo w a.block (a.off+i*te.ty.sz) c:=by
     intro i hi;have e1:=hel i hi;rw[Vp (by omega)]at e1;simp only[Option.bind_eq_some_iff]at e1;obtain⟨c,hc1,hc2⟩:=e1;obtain⟨g1,g2,g3,g4⟩:=Cra hc1 hpos
     obtain⟨X,r1,f1⟩:=Oj htok hcl n' e te c _ hte hc2 (λ m hm=>hw m (by
      simp only[DataW.weights,hu,Vi,Vn]
      exact .inr (.inl (Lz.2 ⟨_,Yk (Kha (l:=elems) (n:=i) (by omega)),hm⟩))))
     have hblk:(a.add (i*te.ty.sz)).block=a.block∧(a.add (i*te.ty.sz)).off=a.off+i*te.ty.sz:=by
      unfold Addr.add;split
      ·rename_i h0;exact⟨rfl,by omega⟩
      ·exact⟨rfl,rfl⟩
     rw[hblk.1,hblk.2]at g4;rw[hblk.1]at g2;refine⟨X,c,r1,f1,g3,⟨λ h0=>?_,g2⟩,g4⟩;subst h0;rw[Zg]at g1;exact g1
    obtain⟨xs,cs,h1,h2,h3,h4,h5⟩:=Afa (w:=w) (k:=a.block) (o:=a.off) (n:=te.ty.sz) (R:=λ x c=>te.ty.rep P (λ k=>k<w.heap.size) w x c) (Fit:=te.ty.fit ti) len (λ i hi=>by
     obtain⟨x,c,q1,q2,q3,q4,q5⟩:=each i hi
     exact⟨x,c,q1,q2,q3,q5⟩)
    refine⟨xs,⟨_,rfl,hsz,some a,cap,cs,by rw[h1],by omega,h2,λ hne=>?_⟩,λ te' ht'=>?_,h3⟩
    ·have hpos:0<len:=by rw[← h1];cases xs with|nil=>exact(hne rfl).elim|cons=>simp
     obtain⟨x,c,q1,q2,q3,q4,q5⟩:=each 0 hpos;refine⟨a.block,a.off,?_,q4.2,h5⟩;obtain⟨b,off,sp⟩:=a;have hsp:sp=none:=q4.1 rfl;rw[hsp]
    ·rw[hte]at ht';cases ht';rw[h1,← hlen];exact Yo (Wc _ (Nat.le_add_right _ _)) hw0
  ·rename_i k by_ fo k' e1 hu;cases e1;have:k=k':=of_decide_eq_true hc;subst this;obtain⟨m,rfl,rfl,hwf⟩:=DataW.trod_int hu h;exact⟨m,rfl,hwf⟩
  ·rename_i by_ fo e1 hu;cases e1;obtain⟨b,rfl,rfl⟩:=DataW.trod_bool hu h;exact⟨b,rfl,trivial⟩
  ·rename_i by_ fo e1 hu;cases e1;obtain⟨s,rfl,rfl,hs⟩:=DataW.trod_string hu h;refine⟨s,rfl,?_⟩;have:=hw s.data.toList.length (by rw[show (DataW.lit (.string s.data.toList):DataW H').weights P T=[s.data.toList.length] from by simp only[DataW.weights]];exact Vw.2 rfl);have e:s.data.toList.length=s.size:=Yg;rw[e]at this;exact this
  ·cases hc
end
end

section
attribute [local irreducible] C H
def eq1:Lf→Lf→Option Bool
 |.sc (.int k x),.sc (.int k' y)=>if k=k' then some (x==y) else none
 |.sc (.bool x),.sc (.bool y)=>some (x==y)
 |.sc (.string x),.sc (.string y)=>some (x==y)
 |_,_=>none
def Csa (a a':Lf) (l l':List Lf) {b:Bool} (h:Bi (a::l) (a'::l')=some b):∃ b1 b2,eq1 a a'=some b1∧Bi l l'=some b2∧b=(b1&&b2):=by
 unfold Bi at h;split at h
 ·rename_i e _;cases e
 ·rename_i k x k' y e1 e2;cases e1;cases e2
  by_cases hk:k=k'
  ·simp only[hk,decide_true,cond_true,Vc]at h;exact⟨x==y,true,by simp only[eq1,hk,if_true],rfl,by simp[h]⟩
  ·simp[hk]at h
 ·rename_i x y e1 e2;cases e1;cases e2;simp only[Vc]at h;exact⟨_,true,rfl,rfl,by simp[h]⟩
 ·rename_i x y e1 e2;cases e1;cases e2;simp only[Vc]at h;exact⟨_,true,rfl,rfl,by simp[h]⟩
 ·rename_i k x l k' y l' _ e1 e2;cases e1;cases e2
  by_cases hk:k=k'
  ·simp only[hk,decide_true,cond_true]at h;split at h
   ·rename_i b2 hb;simp only[Vc]at h;exact⟨_,b2,by simp only[eq1,hk,if_true],hb,h.symm⟩
   ·cases h
  ·simp[hk]at h
 ·rename_i x l y l' _ e1 e2;cases e1;cases e2;split at h
  ·rename_i b2 hb;simp only[Vc]at h;exact⟨_,b2,rfl,hb,h.symm⟩
  ·cases h
 ·rename_i x l y l' _ e1 e2;cases e1;cases e2;split at h
  ·rename_i b2 hb;simp only[Vc]at h;exact⟨_,b2,rfl,hb,h.symm⟩
  ·cases h
 ·cases h
def N3:∀ (l m l' m':List Lf) (b:Bool),l.length=l'.length→Bi (l++m) (l'++m')=some b→∃ b1 b2,Bi l l'=some b1∧Bi m m'=some b2∧b=(b1&&b2)
 |[],m,[],m',b,_,h=>⟨true,b,rfl,h,by simp⟩
 |[],_,_::_,_,_,hl,_=>by simp at hl
 |_::_,_,[],_,_,hl,_=>by simp at hl
 |a::l,m,a'::l',m',b,hl,h=>by
  obtain⟨b1,b2,h1,h2,rfl⟩:=Csa a a' (l++m) (l'++m') h;obtain⟨b3,b4,h3,h4,rfl⟩:=N3 l m l' m' b2 (by simpa using hl) h2;refine⟨b1&&b3,b4,?_,h4,by simp[Bool.and_assoc]⟩
  cases a with
  |sc u=>
   cases a' with
   |sc u'=>
    cases u<;>first|(simp[eq1]at h1;done)|skip
    all_goals (cases u'<;>first|(simp[eq1]at h1;done)|skip)
    ·rename_i x y;simp only[eq1,Vc]at h1
     cases l<;>cases l'<;>first|(simp at hl;done)|skip
     ·simp only[Bi,Vc]at h3;simp only[Bi];rw[← h3,← h1,Kfa]
     ·simp only[Bi,h3];rw[← h1]
    ·rename_i k x k' y;simp only[eq1]at h1
     by_cases hk:k=k'
     ·rw[if_pos hk]at h1;simp only[Vc]at h1
      cases l<;>cases l'<;>first|(simp at hl;done)|skip
      ·simp only[Bi,Vc]at h3;simp only[Bi,hk,decide_true,cond_true];rw[← h3,← h1,Kfa]
      ·simp only[Bi,hk,decide_true,cond_true,h3];rw[← h1]
     ·rw[if_neg hk]at h1;cases h1
    ·rename_i x y;simp only[eq1,Vc]at h1
     cases l<;>cases l'<;>first|(simp at hl;done)|skip
     ·simp only[Bi,Vc]at h3;simp only[Bi];rw[← h3,← h1,Kfa]
     ·simp only[Bi,h3];rw[← h1]
   |_=>cases u<;>simp[eq1]at h1
  |_=>simp[eq1]at h1
def eqB (P:Program) (ti:TypeId→Option TI):Nat→TypeId→Bool
 |0,_=>false
 |n+1,T=>match ti T,P.underlying T with
  |some t,some (.struct fs)=>t.ag&&!(P.stoodInHeld T)&&Jq ti fs.toList 0 t.ty&&fs.toList.all (λ f => !(f.name == "_")&&eqB P ti n f.type)
  |some ⟨.i _,false,_,_⟩,some (.int _)=>true
  |some ⟨.b,false,_,_⟩,some .bool=>true
  |some ⟨.s,false,_,_⟩,some .string=>true
  |_,_=>false
section
variable {P:Program} {ti:TypeId→Option TI} {G:Nat→Prop} {w:World}
def Gwa (P:Program) (ti:TypeId→Option TI) (G:Nat→Prop) (w:World) (n:Nat):Prop:=
 ∀ T t d (X Y:t.ty.den) (us vs:List Value) (x y:Value) (b:Bool) (w':World),n≤d→eqB P ti n T=true→ti T=some t→Eo (E3 P G w) (A4 t.ty X) us→Eo (E3 P G w) (A4 t.ty Y) vs→Bi (A4 t.ty X) (A4 t.ty Y)=some b→
  (if t.ag then x = .agg us.toArray else us=[x])→(if t.ag then y = .agg vs.toArray else vs=[y])→(Op.equalIn d T x y).run P w' = .ok b w'
def Kr {T:TypeId} {t:TI} (hk:TOk P T t) {us:List Value} {off:Nat} (hl:off+t.ty.sz≤us.length) (w':World):
  ∃ u,(part T us.toArray off).run P w' = .ok u w'∧(if t.ag then u = .agg ((us.drop off).take t.ty.sz).toArray else (us.drop off).take t.ty.sz=[u]):=by
 obtain⟨d,hd,hagg⟩:=R5 hk
 cases ha:t.ag with
 |true=>
  rw[ha]at hagg;refine⟨.agg (us.toArray.extract off (off+t.ty.sz)),?_,?_⟩
  ·unfold part;simp only[Vt,G9 hd hagg,Vs,if_true,E4 (Hb hk),Wh]
  ·simp only[if_true];congr 1;apply Kda;rw[Array.toList_extract];simp[List.extract]
 |false=>
  rw[ha]at hagg;have h1:=Xb hk ha
  have hlt:off<us.length:=by omega
  refine⟨us[off],?_,?_⟩
  ·unfold part;simp only[Vt,G9 hd hagg,Vs,Vz,if_false]
   have:us.toArray[off]? = some us[off]:=by simp[hlt]
   rw[this];rfl
  ·simp only[Vz,if_false];rw[h1,Yf hlt];rfl
def Q8 (htok:∀ T t,ti T=some t→TOk P T t) {n:Nat} (ih:Gwa P ti G w n) {d:Nat} (hd:n≤d) {us vs:List Value} (w':World):
  ∀ (fs:List Field) (o:Nat) (ty:Ty) (X Y:ty.den) (b:Bool),Jq ti fs o ty=true→fs.all (λ f => !(f.name == "_")&&eqB P ti n f.type)=true→o+ty.sz≤us.length→o+ty.sz≤vs.length→
   Eo (E3 P G w) (A4 ty X) ((us.drop o).take ty.sz)→Eo (E3 P G w) (A4 ty Y) ((vs.drop o).take ty.sz)→
   Bi (A4 ty X) (A4 ty Y)=some b→(Op.eqFields d us.toArray vs.toArray fs).run P w' = .ok b w'
 |[],o,ty,X,Y,b,hp,_,_,_,_,_,_=>by cases ty<;>simp[Jq]at hp
 |[f],o,ty,X,Y,b,hp,ha,hl,hl',h0,h0',he=>by
  simp only[Jq,Va]at hp;simp only[Kga,Va,Wg,beq_eq_false_iff_ne]at ha;obtain⟨⟨a1,a2⟩,_⟩:=ha;obtain⟨t,h1,h2⟩:=H6 hp.2;have ho:f.offset=o:=Vb hp.1;subst h2;subst ho;obtain⟨x,hx1,hx2⟩:=Kr (htok _ _ h1) hl w';obtain⟨y,hy1,hy2⟩:=Kr (htok _ _ h1) hl' w';have hr:=ih f.type t d X Y _ _ x y b w' hd a2 h1 h0 h0' he hx2 hy2;simp only[Op.eqFields,ne_eq,a1,not_false_eq_true,if_true,Vt,hx1,hy1,hr,Vs]
  cases b<;>rfl
 |f::g::fs,o,ty,X,Y,b,hp,ha,hl,hl',h0,h0',he=>by
  cases ty<;>first|(simp[Jq]at hp;done)|skip
  rename_i tx tyy;simp only[Jq,Va]at hp;obtain⟨⟨q0,q1⟩,hp⟩:=hp;rw[Kga,Va]at ha;obtain⟨ha0,ha⟩:=ha;simp only[Va,Wg,beq_eq_false_iff_ne]at ha0;obtain⟨a1,a2⟩:=ha0;obtain⟨t,h1,h2⟩:=H6 q1;have ho:f.offset=o:=Vb q0;subst h2;subst ho;have hl2:f.offset+(t.ty.sz+tyy.sz)≤us.length:=hl;have hl2':f.offset+(t.ty.sz+tyy.sz)≤vs.length:=hl';have he2:Bi (A4 t.ty X.1++A4 tyy X.2) (A4 t.ty Y.1++A4 tyy Y.2)=some b:=he;have r0:Eo (E3 P G w) (A4 t.ty X.1++A4 tyy X.2) ((us.drop f.offset).take (t.ty.sz+tyy.sz)):=h0;have r0':Eo (E3 P G w) (A4 t.ty Y.1++A4 tyy Y.2) ((vs.drop f.offset).take (t.ty.sz+tyy.sz)):=h0';have k1:=r0.take t.ty.sz;have k2:=r0.drop t.ty.sz;have k1':=r0'.take t.ty.sz;have k2':=r0'.drop t.ty.sz;have c1:=Cc t.ty X.1;have c1':=Cc t.ty Y.1;rw[← c1,Jka,c1,Zk,Zh (by omega)]at k1;rw[← c1',Jka,c1',Zk,Zh (by omega)]at k1'
  have c2:∀ l:List Value,List.drop t.ty.sz (List.take (t.ty.sz+tyy.sz) l)=List.take tyy.sz (List.drop t.ty.sz l):=λ l=>by rw[Koa];congr 1;omega
  rw[c2,Wj]at k2 k2';rw[show List.drop t.ty.sz (A4 t.ty X.1++A4 tyy X.2)=A4 tyy X.2 by rw[← c1,Yv]]at k2;rw[show List.drop t.ty.sz (A4 t.ty Y.1++A4 tyy Y.2)=A4 tyy Y.2 by rw[← c1',Yv]]at k2';obtain⟨b1,b2,e1,e2,rfl⟩:=N3 _ _ _ _ b (by rw[c1,c1']) he2;obtain⟨x,hx1,hx2⟩:=Kr (htok _ _ h1) (us:=us) (off:=f.offset) (by omega) w';obtain⟨y,hy1,hy2⟩:=Kr (htok _ _ h1) (us:=vs) (off:=f.offset) (by omega) w';have hr:=ih f.type t d X.1 Y.1 _ _ x y b1 w' hd a2 h1 k1 k1' e1 hx2 hy2;have hr2:=Q8 htok ih hd w' (g::fs) (f.offset+t.ty.sz) tyy X.2 Y.2 b2 hp ha (by omega) (by omega) k2 k2' e2;rw[Op.eqFields];simp only[ne_eq,a1,not_false_eq_true,if_true,Vt,hx1,hy1,hr,Vs];cases b1
  ·rfl
  ·simpa using hr2
def Dpa (htok:∀ T t,ti T=some t→TOk P T t):∀ n,Gwa P ti G w n
 |0=>by
  intro T t d X Y us vs x y b w' _ h;simp[eqB]at h
 |n+1=>by
  intro T t d X Y us vs x y b w' hd h hT hl hl' he hx hy;obtain⟨d,rfl⟩:∃ m,d=m+1:=⟨d-1,by omega⟩
  have one:∀ {us:List Value} {x:Value} {z:Lf},us=[x]→Eo (E3 P G w) [z] us→E3 P G w z x:=by
   intro us x z e h;subst e
   cases h with
   |cons a h=>exact a
  unfold eqB at h;rw[hT]at h;split at h
  ·rename_i t0 fs e1 hu;cases e1;simp only[Va,Wg]at h;obtain⟨⟨⟨h1,h2⟩,h3⟩,h4⟩:=h;rw[h1]at hx hy;simp only[if_true]at hx hy;subst hx hy
   have hfs:P.fieldsOf T=fs:=by unfold Program.fieldsOf;rw[hu]
   rw[run_equalIn_struct w' d T _ _ (by rw[hfs];exact hu) h2,hfs];have e1:=hl.len;have e2:=hl'.len;rw[Cc]at e1 e2;exact Q8 htok (Dpa htok n) (by omega) w' fs.toList 0 t.ty X Y b h3 h4 (by omega) (by omega) (by rw[Wq,← e1,K2a];exact hl) (by rw[Wq,← e2,K2a];exact hl') he
  ·rename_i k by_ fo k' e1 hu;cases e1;simp only[Vz,if_false]at hx hy;have hz:=(one hx hl).1;have hz':=(one hy hl').1;subst hz hz'
   have he':(X==Y)=b:=by simpa[A4,Bi] using he
   rw[← he'];simp[Op.equalIn,run_underlying hu]
  ·rename_i by_ fo e1 hu;cases e1;simp only[Vz,if_false]at hx hy;have hz:=(one hx hl).1;have hz':=(one hy hl').1;subst hz hz'
   have he':(X==Y)=b:=by simpa[A4,Bi] using he
   rw[← he'];simp[Op.equalIn,run_underlying hu]
  ·rename_i by_ fo e1 hu;cases e1;simp only[Vz,if_false]at hx hy;have hz:=(one hx hl).1;have hz':=(one hy hl').1;subst hz hz'
   have he':(X==Y)=b:=by simpa[A4,Bi] using he
   rw[← he'];simp[Op.equalIn,run_underlying hu]
  ·cases h
end
def Gxa:∀ (t:Ty) (l l':List Lf) (x:t.den),Gq l=true→mkT t l=some (x,l')→l=A4 t x++l'∧Gq l'=true:=by
 intro t
 induction t with
 |pr p q ihp ihq=>
  intro l l' x h hm;simp only[mkT]at hm;split at hm
  ·rename_i y l1 h1;split at hm
   ·rename_i z l2 h2;cases hm;obtain⟨e1,a1⟩:=ihp _ _ _ h h1;obtain⟨e2,a2⟩:=ihq _ _ _ a1 h2;refine⟨?_,a2⟩;rw[e1,e2,← Vl];rfl
   ·cases hm
  ·cases hm
 |_=>
  intro l l' x h hm
  cases l with
  |nil=>simp[mkT]at hm
  |cons z l=>
   cases z<;>first|(simp[Gq]at h;done)|skip
   rename_i v
   cases v<;>first|(simp[mkT]at hm;done)|skip
   all_goals
    simp only[Gq]at h;simp only[mkT]at hm
    first
     |(simp only[Vc,Vu]at hm;obtain⟨rfl,rfl⟩:=hm;exact⟨rfl,h⟩)
     |(
       rename_i k k' n
       by_cases hk:k=k'
       ·subst hk;simp only[decide_true,cond_true,Vc,Vu]at hm;obtain⟨rfl,rfl⟩:=hm;exact⟨rfl,h⟩
       ·simp[hk]at hm)
def Hza {P:Program} {ti:TypeId→Option TI} (htok:∀ T t,ti T=some t→TOk P T t) {T:TypeId} (h:eqB P ti 9 T=true) (hag:(match ti T with|some t=>t.ag|none=>false)=true) (hg:P.eqGuardType P.depth T=false) (G:Nat→Prop) (w w':World) (x y:Operand) (l l':List Lf) (us vs:List Value) (b:Bool)
  (h1:Eo (E3 P G w) l us) (h2:Eo (E3 P G w) l' vs) (he:Bi l l'=some b) (ha:Gq l=true) (ha':Gq l'=true) (hk:G4 (ti T) l=true) (hk':G4 (ti T) l'=true):
  (Op.equal T (.agg us.toArray) (.agg vs.toArray)).run P w' = .ok b w'∧(eqGuard .eql T x y (.agg us.toArray) (.agg vs.toArray)).run P w' = .ok () w'∧(eqGuard .neq T x y (.agg us.toArray) (.agg vs.toArray)).run P w' = .ok () w':=by
 refine⟨?_,run_eqGuard_agg w' _ T x y _ _ hg,run_eqGuard_agg w' _ T x y _ _ hg⟩;unfold G4 at hk hk';split at hk
 ·rename_i t hT;rw[hT]at hk' hag;simp only at hk' hag
  have key:∀ {l:List Lf},Gq l=true→(mkW t.ty l).isSome=true→∃ X,l=A4 t.ty X:=by
   intro l ha hk;obtain⟨X,hX⟩:=Jpa.1 hk;unfold mkW at hX;split at hX
   ·rename_i z hz;cases hX;obtain⟨e1,_⟩:=Gxa t.ty l [] _ ha hz;exact⟨_,by rw[e1,Yc]⟩
   ·cases hX
  obtain⟨X,rfl⟩:=key ha hk;obtain⟨Y,rfl⟩:=key ha' hk';exact Dpa htok 9 T t Op.maxDepth X Y us vs _ _ b w' (by decide) h hT h1 h2 he (by rw[hag];rfl) (by rw[hag];rfl)
 ·cases hk
end

section
open Go.RowKit
attribute [local irreducible] C H
def Dv:Code→List Code
 |.seq a b=>Dv a++Dv b
 |.cond _ a b=>Dv a++Dv b
 |.block _ c=>Dv c
 |.loop c=>[c]
 |_=>[]
def Aga {X:Cx} {E:En}:∀ (c:Code),(∀ d∈Dv c,∀ L,E.lp (first d)=some L→Pv X L d)→Fa X E c:=by
 intro c
 induction c with
 |seq a b iha ihb=>exact λ h=>⟨iha λ d hd=>h d (Vq _ hd),ihb λ d hd=>h d (Vg _ hd)⟩
 |cond x a b iha ihb=>exact λ h=>⟨iha λ d hd=>h d (Vq _ hd),ihb λ d hd=>h d (Vg _ hd)⟩
 |block i c ih=>exact λ h=>ih h
 |loop c ih=>exact λ h=>h c (by simp[Dv])
 |_=>exact λ h=>trivial
def Cta {X:Cx} {E:En} {c b:Code} (ids:List Nat) (h1:Dv c=ids.map λ l=>Dd l b) (h2:(ids.map λ l=>first (Dd l b))=ids) (h3:∀ l∈ids,∀ L,E.lp l=some L→Pv X L (Dd l b)):Fa X E c:=by
 refine Aga c λ d hd L hL=>?_;rw[h1]at hd;obtain⟨l,hl,rfl⟩:=Zc.1 hd
 have:first (Dd l b)=l:=by
  have key:∀ (is:List Nat),(is.map λ l=>first (Dd l b))=is→∀ l∈is,first (Dd l b)=l:=by
   intro is
   induction is with
   |nil=>intro _ l hl;simp at hl
   |cons i is ih=>
    intro e l hl;simp only[Xs,Wk]at e;rcases Vi.1 hl with rfl|hl
    ·exact e.1
    ·exact ih e.2 l hl
  exact key ids h2 l hl
 rw[this]at hL;exact h3 l hl L hL
def Gya {P:Program} {X:Cx} {E:En} {ti:TypeId→Option TI} {eqs:TypeId→Bool} (hP:X.P=P) (h1:E.nt=X.nt) (h2:E.np=X.np) (h3:E.ti=ti) (h4:E.eq=eqs) (htok:∀ T t,ti T=some t→TOk P T t)
  (heq:∀ T,eqs T=true→eqB P ti 9 T=true∧(match ti T with|some t=>t.ag|none=>false)=true∧P.eqGuardType P.depth T=false) (hc:∀ f en,E.call f=some en→Fk P f en):Lo X E:=by
 refine⟨⟨h1,h2,λ T t h=>?_,λ T h G w w' x y l l' us vs b=>?_⟩,λ f en h=>?_⟩
 ·rw[hP];rw[h3]at h;exact htok T t h
 ·rw[hP,h3];rw[h4]at h;obtain⟨e1,e2,e3⟩:=heq T h;exact Hza htok e1 e2 e3 G w w' x y l l' us vs b
 ·rw[hP];exact hc f en h
def Faa {t:Ty} : {ts:List Ty}→t.den→Den ts→Den (t::ts)
 |[],x,_=>x
 |_::_,x,y=>(x,y)
def Q9 {t:Ty} {ts:List Ty} {x:t.den} {y:Den ts}:Ao (t::ts) (Faa x y)=A4 t x::Ao ts y:=by
 cases ts<;>rfl
inductive B7a (P:Program) (w:World):(ps:List Par)→Den (ps.map Par.ty)→List Value→Prop
 |nil:B7a P w [] () []
 |cons {ag:Bool} {t:Ty} {ps:List Par} {X:t.den} {Y:Den (ps.map Par.ty)} {u:Value} {us vs:List Value} (hn:Eb t=true) (hu:if ag then u = .agg vs.toArray else vs=[u])
   (hr:t.rep P (λ k=>k<w.heap.size) w X vs) (h:B7a P w ps Y us):B7a P w (.val ag t::ps) (Faa (t:=t) (ts:=ps.map Par.ty) X Y) (u::us)
def Cua (w:World):Nat→Lab:=λ k=>if k<w.heap.size then .fz else .no
def Cva {P:Program} {w:World}:∀ {ps:List Par} {x:Den (ps.map Par.ty)} {us:List Value},B7a P w ps x us→us.length=ps.length:=by
 intro ps x us h
 induction h with
 |nil=>rfl
 |cons _ _ _ _ ih=>simp[ih]
def Aha {P:Program} {w:World} {rg:Nat→Nat×Nat} {nv:Nat} {hs:List Value}:∀ {ps:List Par} {x:Den (ps.map Par.ty)} {us:List Value} (i:Nat),B7a P w ps x us→Fj P (bare (Cua w) w) rg nv hs i ps (Ao _ x) us:=by
 intro ps x us i h
 induction h generalizing i with
 |nil=>trivial
 |@cons ag t ps X Y u us vs hn hu hr h ih=>
  show Fj P (bare (Cua w) w) rg nv hs i (.val ag t::ps) (Ao (t::ps.map Par.ty) (Faa X Y)) (u::us);rw[Q9];refine⟨⟨vs,hu,?_⟩,ih (i+1)⟩;have h1:=G7 (P:=P) (G:=λ k=>Cua w k = .fz) (w:=w) t X vs (Ty.rep_mono (λ k hk=>by unfold Cua;rw[if_pos hk]) (λ _ _=>rfl) t X vs hr);rw[Lj t X hn];exact A5.ofRep (S:=bare (Cua w) w) h1 _ _
def Cwa {P:Program} {f:FuncId} {en:Ent} (hs:Ema P f en) {w:World} {us:List Value} {x:Den (en.ps.map Par.ty)} (hc:B7a P w en.ps x us) (hnv:Nat.ble en.ps.length en.nv=true) {r:Den (en.rs.map Prod.snd++Cs en.ps)} (hr:en.run x=some r)
  (hrs:en.rs=[(.one,.b)]) (hl:∃ ls,Ao _ r=[.sc (.bool true)]::ls):Calls P f us.toArray w (λ e w'=>e = .returned (.bool true)∧Below w.heap.size w w'):=by
 have htk:us.take en.nv=us:=Za (by rw[Cva hc];exact Vd hnv)
 have hcalls:=hs x r hr w (Cua w) (λ _=>(0,0)) us (λ k hk=>by
  unfold Cua at hk;split at hk
  ·assumption
  ·exact(hk rfl).elim) (λ k b hk=>by
  unfold Cua at hk
  split at hk<;>cases hk) (Aha 0 hc)
 rw[htk]at hcalls;refine Hh hcalls ?_;rintro e w' ⟨v,O',rfl,hF,_,hR,_⟩;obtain⟨ls,hl⟩:=hl;rw[hl]at hR;rw[hrs]at hR;obtain⟨l,ls',e1,h1⟩:=hR;cases e1;have h2:A5 P (bare O' w') (λ _ => .tm 1 []) 0 [.sc (.bool true)] [v]:=h1;have hv:v = .bool true:=h2.1.1;subst hv;exact⟨rfl,hF.os,hF.tape,hF.out,hF.size,λ k hk=>(hF.fz k hk (by unfold Cua;rw[if_pos hk])).2⟩
def Ol {H':Type} {enc:TypeId×Value→H'} {P:Program} {w:World} {base:Nat} {spare:Nat→Bool} {held:Bool} {ti:TypeId→Option TI} (htok:∀ T t,ti T=some t→TOk P T t) (hcl:∀ T,Iy P ti T=true)
  {T:TypeId} {t:TI} (hT:ti T=some t) {v:Value} {d:DataW H'} {p:List MemPlace} {b0:Nat} (hv:Value.okWide P w .any b0 T v) (h:DataW.Trod enc P w base spare held T v d p)
  {ts:List TypeId} {ds:List (DataW H')} (hw:(DataW.weightsEach P ts ds).all (· ≤ reachBytes)=true) {j:Nat} (hj:ts[j]? = some T) (hd:ds[j]? = some d):
  ∃ (X:t.ty.den) (vs:List Value),(if t.ag then v = .agg vs.toArray else vs=[v])∧t.ty.rep P (λ k=>k<w.heap.size) w X vs∧t.ty.fit ti X:=by
 obtain⟨n,hn⟩:=h
 obtain⟨X,r,f⟩:=Oj htok hcl n T t _ _ hT hn (λ m hm=>by
  have:=Zt.1 hw m (DataW.weights_mem_each hj hd m hm)
  exact of_decide_eq_true this)
 refine⟨X,_,?_,r,f⟩;have hc:=hcl T;unfold Iy at hc;rw[hT]at hc;unfold Value.okWide at hv;split at hc
 ·rename_i e;cases e
 ·rename_i t0 fs e1 hu;cases e1;simp only[Va]at hc;rw[hc.1];rw[hu]at hv;obtain⟨cs,rfl,_⟩:=hv;simp[Value.cells]
 all_goals first
  |(cases hc;done)
  |(rename_i hu;rw[hu]at hv;simp only[Cell.okWide,hu]at hv;rename_i e1;cases e1;simp only[Vz,if_false];have hsz:=Ty.rep_len _ _ _ r;cases v<;>first|(simp[Value.cells];done)|(simp only[Cell.ok,hu]at hv;done)|(simp[Cell.ok,hu]at hv;done))
end

section
open Go.RowKit
attribute [local irreducible] C H
def lk {α:Type}:List (Nat×α)→Nat→Option α
 |[],_=>none
 |(i,a)::l,n=>bif Nat.beq n i then some a else lk l n
structure LF where
 ins:Oo
 alts:List (Ex×Oo)
 f:Nat→ins.den→Option (B9a alts)
@[reducible] def LF.at (p:LF) (k:Nat):Lp:=⟨p.ins,p.alts,p.f k⟩
structure Fd where
 nt:Nat
 nv:Nat
 nm:List Nat
 res:List Nat
 cs:Nat→List (FuncId×Ent):=λ _=>[]
 ls:List (Nat×LF):=[]
 hint:List (Nat×Ty):=[]
 mv:List Nat:=[]
 gh:List (Nat×List Gh):=[]
 opn:List Nat:=[]
 sh:Bool:=false
 rf:Bool:=false
def Fd.n (D:Fd) (ti:TypeId→Option TI) (eqs:TypeId→Bool) (k:Nat):En:=
 ⟨D.nt,ti,eqs,D.nm.contains,D.res.contains,lk (D.cs k),λ l=>match lk D.ls l with|some p=>some (p.at k)|none=>none,D.nv,lk D.hint,D.mv.contains,λ n=>(lk D.gh n).getD [],D.opn.contains,λ _=>D.sh,D.rf⟩
def Dqa {α:Type}:∀ {l:List (Nat×α)} {n:Nat} {a:α},lk l n=some a→n∈l.map Prod.fst
 |[],_,_,h=>by cases h
 |(i,b)::l,n,a,h=>by
  unfold lk at h;cases hb:Nat.beq n i
  case true=>rw[Vb hb];simp
  rw[hb,cond_false]at h;exact Ve _ (Dqa h)
def Fba (P:Program):List (FuncId×Ent)→Prop
 |[]=>True
 |c::l=>Fk P c.1 c.2∧Fba P l
def Aia {P:Program}:∀ {l:List (FuncId×Ent)} {f:FuncId} {en:Ent},Fba P l→lk l f=some en→Fk P f en
 |[],_,_,_,h=>by cases h
 |(i,a)::l,f,en,hc,h=>by
  unfold lk at h
  cases hb:Nat.beq f i with
  |true=>
   rw[hb,cond_true]at h;cases h;rw[Vb hb];exact hc.1
  |false=>rw[hb,cond_false]at h;exact Aia hc.2 h
@[reducible] def bo (fn:Func):Code:=fn.body.getD .skip
structure M1 (P:Program) (ti:TypeId→Option TI) (eqs:TypeId→Bool):Prop where
 tok:∀ T t,ti T=some t→TOk P T t
 eq:∀ T,eqs T=true→eqB P ti 9 T=true∧(match ti T with|some t=>t.ag|none=>false)=true∧P.eqGuardType P.depth T=false
 mix:P.follows .mixedOrders=true
def LK (P:Program) (fn:Func) (D:Fd) (l:Nat) (p:LF):Prop:=∀ X:Cx,X.P=P→X.nt=fn.ntmps→X.np=D.nv→∀ k,Pv X (p.at k) (Dd l (bo fn))
def Fca (P:Program) (fn:Func) (D:Fd):List Nat→Prop
 |[]=>True
 |l::r=>(match lk D.ls l with|some p=>LK P fn D l p|none=>True)∧Fca P fn D r
def Aja {P:Program} {fn:Func} {D:Fd} {l:Nat} {p:LF} (hp:lk D.ls l=some p):∀ {r:List Nat},Fca P fn D r→l∈r→LK P fn D l p
 |[],_,h=>by cases h
 |i::r,ha,h=>by
  rcases Vi.1 h with rfl|h
  ·have:=ha.1;rw[hp]at this;exact this
  ·exact Aja hp ha.2 h
section
variable {P:Program} {ti:TypeId→Option TI} {eqs:TypeId→Bool} {fn:Func}
def I0a (hS:M1 P ti eqs) {D:Fd} {k:Nat} (hn:Nat.beq D.nt fn.ntmps=true) (hc:Fba P (D.cs k)) {X:Cx} (hP:X.P=P) (hx:X.nt=fn.ntmps) (hp:X.np=D.nv):Lo X (D.n ti eqs k):=
 Gya hP ((Vb hn).trans hx.symm) hp.symm rfl rfl hS.tok hS.eq (λ _ _ h=>Aia hc h)
def Gza (hS:M1 P ti eqs) {D:Fd} {k:Nat} (hn:Nat.beq D.nt fn.ntmps=true) (hc:Fba P (D.cs k)) {X:Cx} (hP:X.P=P) (hx:X.nt=fn.ntmps) (hp:X.np=D.nv):Pw X (D.n ti eqs k):=
 F9a (I0a hS hn hc hP hx hp) (by rw[hP];exact hS.mix)
def Dra {D:Fd} {k:Nat} {c:Code} {ids:List Nat} (h:(Dv c,ids.map λ l=>first (Dd l (bo fn)))=(ids.map λ l=>Dd l (bo fn),ids)) (hi:Fca P fn D ids) {X:Cx} (hP:X.P=P) (hx:X.nt=fn.ntmps) (hp:X.np=D.nv):Fa X (D.n ti eqs k) c:=by
 rw[Vu]at h;refine Cta (b:=bo fn) ids h.1 h.2 λ l hl L hL=>?_;have hL':(match lk D.ls l with|some p=>some (p.at k)|none=>none)=some L:=hL
 cases hp':lk D.ls l with
 |none=>rw[hp']at hL';cases hL'
 |some p=>
  rw[hp']at hL';cases hL';exact Aja hp' hi hl X hP hx hp k
@[reducible] def Ila (ti:TypeId→Option TI) (eqs:TypeId→Bool) (fn:Func) (D:Fd) (l:Nat) (p:LF):Prop:=∀ k x,Wt (D.n ti eqs k) (p.at k) (Dd l (bo fn)) x=p.f (k+1) x
def mkL (hS:M1 P ti eqs) {D:Fd} {l:Nat} {p:LF} (ids:List Nat) (hn:Nat.beq D.nt fn.ntmps=true) (hc:∀ k,Fba P (D.cs k)) (hi:Fca P fn D ids) (h:(Dv (Dd l (bo fn)),ids.map λ l=>first (Dd l (bo fn)))=(ids.map λ l=>Dd l (bo fn),ids)) (h0:∀ x,p.f 0 x=none) (hs:Ila ti eqs fn D l p):LK P fn D l p:=
 λ X hP hx hp=>Eva (ins:=p.ins) (alts:=p.alts) (f:=p.f) (En':=D.n ti eqs) h0 hs (λ k=>I0a hS hn (hc k) hP hx hp) (λ k=>Gza hS hn (hc k) hP hx hp) (λ k=>Dra h hi hP hx hp)
def I1a (fn:Func) (D:Fd) (en:Ent):Bool:=Nat.beq D.nt fn.ntmps&&(Nat.ble fn.ntmps 1000&&(Nat.ble en.nv fn.ntmps&&(Nat.beq en.nv D.nv&&(fn.body.isSome&&(!(fn.name == "runtime.NumGoroutine")&&Rn en)))))
def mkS (hS:M1 P ti eqs) {f:FuncId} {D:Fd} {k:Nat} {en:Ent} (ids:List Nat) (hf:P.funcs[f]? = some fn) (hc:Fba P (D.cs k)) (hi:Fca P fn D ids) (hk:I1a fn D en=true) (h:(Dv (bo fn),ids.map λ l=>first (Dd l (bo fn)))=(ids.map λ l=>Dd l (bo fn),ids))
  (hr:∀ x,Wv (D.n ti eqs k) (bo fn) fn.results.toList en x=en.run x):Fk P f en:=by
 unfold I1a at hk;simp only[Va,Wg]at hk;obtain⟨h1,h2,h3,h4,h5,h6,h7⟩:=hk;have h4:=Vb h4
 have hb:fn.body=some (bo fn):=by
  unfold bo
  cases hb:fn.body with
  |none=>rw[hb]at h5;cases h5
  |some c=>rfl
 refine⟨⟨fn,hf,h6,by rw[hb];rfl⟩,Uk hf hb (Vd h2) (Vd h3) (λ X hP hx hp=>?_) (λ X hP hx hp=>?_) (λ X hP hx hp=>?_) h7 hr⟩
 ·exact I0a hS h1 hc hP hx (hp.trans h4)
 ·exact Gza hS h1 hc hP hx (hp.trans h4)
 ·exact Dra h hi hP hx (hp.trans h4)
def I2a {keys Fwa:List Nat} (hk:∀ {T t},ti T=some t→T∈keys) (h1:(keys.all λ T=>(match ti T with|some t=>Hta P T t|none=>true)&&Iy P ti T)=true)
  (h2:(Fwa.all λ T=>eqB P ti 9 T&&(match ti T with|some t=>t.ag|none=>false)&&!(P.eqGuardType P.depth T))=true) (he:eqs=λ T=>Fwa.contains T) (hm:P.follows .mixedOrders=true):M1 P ti eqs∧∀ T,Iy P ti T=true:=by
 refine⟨⟨λ T t h=>?_,λ T h=>?_,hm⟩,λ T=>?_⟩
 ·have h3:=Zt.1 h1 T (hk h);rw[Va,h]at h3;exact G6a _ _ _ h3.1
 ·rw[he]at h;have h3:=Zt.1 h2 T (List.elem_iff.1 h);simp only[Va,Wg]at h3;exact⟨h3.1.1,h3.1.2,h3.2⟩
 ·cases h:ti T with
  |none=>unfold Iy;rw[h]
  |some t=>
   have h3:=Zt.1 h1 T (hk h);rw[Va]at h3;exact h3.2
end
end

section
open Go.Proofs
@[reducible] def t0:Ty := .sl 5 (.i .u8)
@[reducible] def t1:Ty := .ow 5 (.i .u8)
@[reducible] def t2:Ty := .pr .s (.i .u64)
@[reducible] def t3:Ty := .pr .s t0
@[reducible] def t4:Ty := .pr .s t1
@[reducible] def t5:Ty := .sl 80 t3
@[reducible] def t6:Ty := .sl 65 t3
@[reducible] def t7:Ty := .ow 65 t3
@[reducible] def t8:Ty := .ow 65 t4
@[reducible] def t9:Ty := .pr (.i .i64) (.pr (.i .i64) (.i .i64))
@[reducible] def t10:Ty := .pr t0 (.pr (.i .i64) .b)
@[reducible] def t11:Ty := .pr (.i .i64) (.pr (.i .i64) (.pr .b (.i .u8)))
@[reducible] def t12:Ty := .pr t9 (.pr .b t0)
@[reducible] def t13:Ty := .pr t5 t5
@[reducible] def t14:Ty := .pr t6 t6
@[reducible] def t15:Ty := .pr t7 t7
@[reducible] def t16:Ty := .pr t8 t8
def tiL:List (Nat×TI):=[(2,⟨(.i .i64),false,8,[]⟩),
 (3,⟨(.i .i64),false,8,[]⟩),
 (4,⟨.b,false,1,[]⟩),
 (5,⟨(.i .u8),false,1,[]⟩),
 (6,⟨(.i .u8),false,1,[]⟩),
 (7,⟨t11,true,24,[(0,1,false),(1,1,false),(2,1,false),(3,1,false)]⟩),
 (8,⟨t11,true,24,[(0,1,false),(1,1,false),(2,1,false),(3,1,false)]⟩),
 (9,⟨.s,false,16,[]⟩),
 (10,⟨.s,false,16,[]⟩),
 (11,⟨.s,false,16,[]⟩),
 (12,⟨(.i .u64),false,8,[]⟩),
 (13,⟨t2,true,24,[(0,1,false),(1,1,false)]⟩),
 (14,⟨t2,true,24,[(0,1,false),(1,1,false)]⟩),
 (21,⟨(.i .i32),false,4,[]⟩),
 (22,⟨t5,false,24,[]⟩),
 (23,⟨t13,true,48,[(0,1,false),(1,1,false)]⟩),
 (24,⟨t13,true,48,[(0,1,false),(1,1,false)]⟩),
 (25,⟨t0,false,24,[]⟩),
 (27,⟨t6,false,24,[]⟩),
 (28,⟨t14,true,48,[(0,1,false),(1,1,false)]⟩),
 (29,⟨t14,true,48,[(0,1,false),(1,1,false)]⟩),
 (41,⟨t9,true,24,[(0,1,false),(1,1,false),(2,1,false)]⟩),
 (42,⟨t9,true,24,[(0,1,false),(1,1,false),(2,1,false)]⟩),
 (43,⟨t12,true,56,[(0,3,true),(3,1,false),(4,1,false)]⟩),
 (44,⟨t12,true,56,[(0,3,true),(3,1,false),(4,1,false)]⟩),
 (48,⟨t9,true,24,[(0,1,false),(1,1,false),(2,1,false)]⟩),
 (49,⟨t12,true,56,[(0,3,true),(3,1,false),(4,1,false)]⟩),
 (50,⟨t12,true,56,[(0,3,true),(3,1,false),(4,1,false)]⟩),
 (64,⟨t3,true,40,[(0,1,false),(1,1,false)]⟩),
 (65,⟨t3,true,40,[(0,1,false),(1,1,false)]⟩),
 (80,⟨t3,true,40,[(0,1,false),(1,1,false)]⟩),
 (93,⟨(.i .u64),false,8,[]⟩),
 (95,⟨t10,true,40,[(0,1,false),(1,1,false),(2,1,false)]⟩),
 (96,⟨t10,true,40,[(0,1,false),(1,1,false),(2,1,false)]⟩),
 (108,⟨(.i .u32),false,4,[]⟩),
 (114,⟨(.i .u8),false,1,[]⟩),
 (115,⟨(.i .u8),false,1,[]⟩),
 (118,⟨(.i .i32),false,4,[]⟩),
 (119,⟨(.i .i32),false,4,[]⟩)]
def ti:TypeId→Option TI:=lk tiL
def Fwa:List Nat:=[41,42,48]
def eqs:TypeId→Bool:=λ T=>Fwa.contains T
def sK:M1 Try.prog ti eqs∧∀ T,Iy Try.prog ti T=true:=I2a (P:=Try.prog) (ti:=ti) (eqs:=eqs) (keys:=tiL.map Prod.fst) (Fwa:=Fwa) Dqa (by kernel_rfl) (by kernel_rfl) rfl (by kernel_rfl)
def sO:M1 Try.prog ti eqs:=sK.1
def I3a:∀ T t,ti T=some t→TOk Try.prog T t:=sO.tok
def I4a:∀ T,Iy Try.prog ti T=true:=sK.2
abbrev CK:=Fk Try.prog
abbrev LL:=LK Try.prog
abbrev AC:=Fba Try.prog
def mS {f:FuncId} {fn:Func} (D:Fd) (k:Nat) {en:Ent} (ids:List Nat) (hf:Try.prog.funcs[f]? = some fn) (hc:AC (D.cs k)) (hi:Fca Try.prog fn D ids) (h:(I1a fn D en,Dv (bo fn),ids.map λ l=>first (Dd l (bo fn)))=(true,ids.map λ l=>Dd l (bo fn),ids):=by kernel_rfl) (hr:∀ x,Wv (D.n ti eqs k) (bo fn) fn.results.toList en x=en.run x:=by intro x;kernel_rfl):CK f en:=mkS sO ids hf hc hi (congrArg Prod.fst h) (congrArg Prod.snd h) hr
def mL {fn:Func} {D:Fd} {l:Nat} {p:LF} (ids:List Nat) (hc:∀ k,AC (D.cs k)) (hi:Fca Try.prog fn D ids) (h:(Nat.beq D.nt fn.ntmps,Dv (Dd l (bo fn)),ids.map λ l=>first (Dd l (bo fn)))=(true,ids.map λ l=>Dd l (bo fn),ids):=by kernel_rfl) (h0:∀ x,p.f 0 x=none:=by intro _;rfl) (hs:Ila ti eqs fn D l p:=by intro k x;kernel_rfl):LL fn D l p:=mkL sO ids (congrArg Prod.fst h) hc hi (congrArg Prod.snd h) h0 hs
def Cg.e (k:Nat):Ent:=⟨2,[(.val false t0),(.val false (.i .i64))],[(.one,(.i .i64))],λ x=>Cg x.1 x.2⟩
def Cg.d:Fd := { nt:=12,nv:=2,nm:=[0,1,2,3],res:=[4],rf:=true }
def Cg.s (k:Nat):CK 41 (Cg.e k):=mS Cg.d k [] Try.func41 trivial trivial
def Ch.e (k:Nat):Ent:=⟨2,[(.val true t3),(.val false (.i .i64))],[(.one,(.i .i64))],λ x=>Ch x.1 x.2⟩
def Ch.d:Fd := { nt:=19,nv:=2,nm:=[0,1,2,3],res:=[4],cs:=λ k=>[(41,Cg.e k)],rf:=true }
def Ch.s (k:Nat):CK 55 (Ch.e k):=mS Ch.d k [] Try.func55 ⟨Cg.s k,trivial⟩ trivial
def Ar.e (k:Nat):Ent:=⟨2,[(.val false t5),(.val false (.i .i64))],[(.one,(.i .i64))],λ x=>Ar k x.1 x.2⟩
def Bp.p:LF:=⟨⟨[],[(0,t5),(1,(.i .i64)),(5,(.i .i64))]⟩,[(.ret,⟨[],[(4,(.i .i64))]⟩),((.exit 0),⟨[],[(1,(.i .i64))]⟩)],λ k x=>Bp k x.1 x.2.1 x.2.2⟩
def Ar.d:Fd := { nt:=27,nv:=2,nm:=[0,1,2,3,5],res:=[4],cs:=λ k=>[(55,Ch.e k)],ls:=[(5,Bp.p)],rf:=true }
def Ar.a (k:Nat):AC (Ar.d.cs k):=⟨Ch.s k,trivial⟩
def Bp.s:LL Try.f24 Ar.d 5 Bp.p:=mL [] Ar.a trivial
def Ar.s (k:Nat):CK 24 (Ar.e k):=mS Ar.d k [5] Try.func24 (Ar.a k) ⟨Bp.s,trivial⟩
def Cy.e (k:Nat):Ent:=⟨2,[(.val true t13),(.val false (.i .i64))],[(.one,(.i .i64))],λ x=>Cy k x.1 x.2⟩
def Cy.d:Fd := { nt:=18,nv:=2,nm:=[0,1,2,3],res:=[4],cs:=λ k=>[(24,Ar.e k)],rf:=true }
def Cy.s (k:Nat):CK 6 (Cy.e k):=mS Cy.d k [] Try.func6 ⟨Ar.s k,trivial⟩ trivial
def B1.e (k:Nat):Ent:=⟨1,[(.val false t6)],[(.one,t7)],λ x=>B1 k x⟩
def As.p:LF:=⟨⟨[],[(0,t6),(3,t7),(4,(.i .i64))]⟩,[((.exit 0),⟨[],[(3,t7)]⟩)],λ k x=>As k x.1 x.2.1 x.2.2⟩
def B1.d:Fd := { nt:=29,nv:=1,nm:=[0,1,3,4],res:=[2],ls:=[(3,As.p)] }
def As.s:LL Try.f56 B1.d 3 As.p:=mL [] (λ _=>trivial) trivial
def B1.s (k:Nat):CK 56 (B1.e k):=mS B1.d k [3] Try.func56 trivial ⟨As.s,trivial⟩
def Bw.e (k:Nat):Ent:=⟨1,[(.val true t14)],[(.agg,t15)],λ x=>Bw k x⟩
def Bw.d:Fd := { nt:=10,nv:=1,nm:=[0,1],res:=[],cs:=λ k=>[(56,B1.e k)] }
def Bw.s (k:Nat):CK 25 (Bw.e k):=mS Bw.d k [] Try.func25 ⟨B1.s k,trivial⟩ trivial
def Cv.e (k:Nat):Ent:=⟨3,[(.val false t6),(.val false .s),(.val false t0)],[(.one,t7)],λ x=>Cv k x.1 x.2.1 x.2.2⟩
def Ap.p:LF:=⟨⟨[(9,(.bp 9 0 0)),(10999,(.hd 2))],[(0,t6),(1,.s),(7,t7),(8,.b),(10,(.i .i64)),(10000,.s),(10001,t0)]⟩,[((.exit 0),⟨[(9,(.bp 9 0 0)),(10999,(.hd 2))],[(7,t7),(8,.b),(10000,.s),(10001,t0)]⟩)],λ k x=>Ap k x.1 x.2.1 x.2.2.1 x.2.2.2.1 x.2.2.2.2.1 x.2.2.2.2.2.1 x.2.2.2.2.2.2⟩
def Cv.d:Fd := { nt:=59,nv:=3,nm:=[0,1,2,3,4,5,7,8,9,10],res:=[6],ls:=[(5,Ap.p)] }
def Ap.s:LL Try.f26 Cv.d 5 Ap.p:=mL [] (λ _=>trivial) trivial
def Cv.s (k:Nat):CK 26 (Cv.e k):=mS Cv.d k [5] Try.func26 trivial ⟨Ap.s,trivial⟩
def D7.e (k:Nat):Ent:=⟨3,[(.val false (.i .i64)),(.val false (.i .i64)),(.val false (.i .i64))],[(.one,.b)],λ x=>D7 x.1 x.2.1 x.2.2⟩
def D7.d:Fd := { nt:=15,nv:=3,nm:=[0,1,2,3,4,5],res:=[6] }
def D7.s (k:Nat):CK 66 (D7.e k):=mS D7.d k [] Try.func66 trivial trivial
def B9.e (k:Nat):Ent:=⟨1,[(.val false .s)],[(.one,.b)],λ x=>B9 k x⟩
def Ay.p:LF:=⟨⟨[],[(0,.s),(3,(.i .i64))]⟩,[(.ret,⟨[],[(2,.b)]⟩),((.exit 0),⟨[],[(0,.s)]⟩)],λ k x=>Ay k x.1 x.2⟩
def B9.d:Fd := { nt:=38,nv:=1,nm:=[0,1,3,4],res:=[2],cs:=λ k=>[(66,D7.e k)],ls:=[(2,Ay.p)] }
def B9.a (k:Nat):AC (B9.d.cs k):=⟨D7.s k,trivial⟩
def Ay.s:LL Try.f43 B9.d 2 Ay.p:=mL [] B9.a trivial
def B9.s (k:Nat):CK 43 (B9.e k):=mS B9.d k [2] Try.func43 (B9.a k) ⟨Ay.s,trivial⟩
def Bj.e (k:Nat):Ent:=⟨1,[(.val false t6)],[(.one,.b)],λ x=>Bj k x⟩
def Bq.p:LF:=⟨⟨[],[(0,t6),(3,(.i .i64))]⟩,[(.ret,⟨[],[(2,.b)]⟩),((.exit 0),⟨[],[(0,t6)]⟩)],λ k x=>Bq k x.1 x.2⟩
def Bj.d:Fd := { nt:=47,nv:=1,nm:=[0,1,3],res:=[2],cs:=λ k=>[(43,B9.e k)],ls:=[(2,Bq.p)] }
def Bj.a (k:Nat):AC (Bj.d.cs k):=⟨B9.s k,trivial⟩
def Bq.s:LL Try.f65 Bj.d 2 Bq.p:=mL [] Bj.a trivial
def Bj.s (k:Nat):CK 65 (Bj.e k):=mS Bj.d k [2] Try.func65 (Bj.a k) ⟨Bq.s,trivial⟩
def Cf.e (k:Nat):Ent:=⟨1,[(.val true t14)],[(.one,.b)],λ x=>Cf k x⟩
def Cf.d:Fd := { nt:=11,nv:=1,nm:=[0,1],res:=[2],cs:=λ k=>[(65,Bj.e k)] }
def Cf.s (k:Nat):CK 42 (Cf.e k):=mS Cf.d k [] Try.func42 ⟨Bj.s k,trivial⟩ trivial
def Cm.e (k:Nat):Ent:=⟨3,[(.val true t14),(.val true t15),(.val false .s)],[(.agg,t15),(.one,.b)],λ x=>Cm k x.1 x.2.1 x.2.2⟩
def Cm.d:Fd := { nt:=24,nv:=3,nm:=[0,1,2,3,4,5],res:=[7],cs:=λ k=>[(25,Bw.e k),(42,Cf.e k),(43,B9.e k)],mv:=[23] }
def Cm.s (k:Nat):CK 27 (Cm.e k):=mS Cm.d k [] Try.func27 ⟨Bw.s k,Cf.s k,B9.s k,trivial⟩ trivial
def Bg.e (k:Nat):Ent:=⟨3,[(.val true t14),(.val false .s),(.val false t0)],[(.agg,t15),(.one,.b)],λ x=>Bg k x.1 x.2.1 x.2.2⟩
def Bg.d:Fd := { nt:=23,nv:=3,nm:=[0,1,2,3,4,5,8],res:=[7],cs:=λ k=>[(25,Bw.e k),(26,Cv.e k),(27,Cm.e k)] }
def Bg.s (k:Nat):CK 7 (Bg.e k):=mS Bg.d k [] Try.func7 ⟨Bw.s k,Cv.s k,Cm.s k,trivial⟩ trivial
def Az.e (k:Nat):Ent:=⟨1,[(.val false t0)],[(.one,t1)],λ x=>Az k x⟩
def Bl.p:LF:=⟨⟨[],[(0,t0),(3,t1),(4,(.i .i64))]⟩,[((.exit 0),⟨[],[(3,t1)]⟩)],λ k x=>Bl k x.1 x.2.1 x.2.2⟩
def Az.d:Fd := { nt:=22,nv:=1,nm:=[0,1,3,4],res:=[2],ls:=[(3,Bl.p)],rf:=true }
def Bl.s:LL Try.f9 Az.d 3 Bl.p:=mL [] (λ _=>trivial) trivial
def Az.s (k:Nat):CK 9 (Az.e k):=mS Az.d k [3] Try.func9 trivial ⟨Bl.s,trivial⟩
def Ci.e (k:Nat):Ent:=⟨1,[(.val true t3)],[(.agg,t4)],λ x=>Ci k x⟩
def Ci.d:Fd := { nt:=12,nv:=1,nm:=[0,1,3],res:=[],cs:=λ k=>[(9,Az.e k)],mv:=[11],rf:=true }
def Ci.s (k:Nat):CK 57 (Ci.e k):=mS Ci.d k [] Try.func57 ⟨Az.s k,trivial⟩ trivial
def Au.e (k:Nat):Ent:=⟨1,[(.val false t5)],[(.one,t8)],λ x=>Au k x⟩
def Bb.p:LF:=⟨⟨[],[(0,t5),(3,t8),(4,(.i .i64))]⟩,[((.exit 0),⟨[],[(3,t8)]⟩)],λ k x=>Bb k x.1 x.2.1 x.2.2⟩
def Au.d:Fd := { nt:=23,nv:=1,nm:=[0,1,3,4],res:=[2],cs:=λ k=>[(57,Ci.e k)],ls:=[(3,Bb.p)],hint:=[(7,t4)],rf:=true }
def Au.a (k:Nat):AC (Au.d.cs k):=⟨Ci.s k,trivial⟩
def Bb.s:LL Try.f28 Au.d 3 Bb.p:=mL [] Au.a trivial
def Au.s (k:Nat):CK 28 (Au.e k):=mS Au.d k [3] Try.func28 (Au.a k) ⟨Bb.s,trivial⟩
def C8.e (k:Nat):Ent:=⟨1,[(.val true t13)],[(.agg,t16)],λ x=>C8 k x⟩
def C8.d:Fd := { nt:=13,nv:=1,nm:=[0,1,3],res:=[],cs:=λ k=>[(28,Au.e k)],mv:=[12],rf:=true }
def C8.s (k:Nat):CK 8 (C8.e k):=mS C8.d k [] Try.func8 ⟨Au.s k,trivial⟩ trivial
def B6.e (k:Nat):Ent:=⟨1,[(.val false t0)],[(.one,t1)],λ x=>B6 x⟩
def B6.d:Fd := { nt:=5,nv:=1,nm:=[0,1],res:=[2] }
def B6.s (k:Nat):CK 34 (B6.e k):=mS B6.d k [] Try.func34 trivial trivial
def Am.e (k:Nat):Ent:=⟨1,[(.val false t6)],[(.one,t8)],λ x=>Am k x⟩
def B2.p:LF:=⟨⟨[],[(3,t8),(6,t6),(7,(.i .i64)),(8,(.i .i64))]⟩,[((.exit 0),⟨[],[(3,t8)]⟩)],λ k x=>B2 k x.1 x.2.1 x.2.2.1 x.2.2.2⟩
def Am.d:Fd := { nt:=23,nv:=1,nm:=[0,1,3,4,5],res:=[2],cs:=λ k=>[(34,B6.e k)],ls:=[(3,B2.p)],hint:=[(19,t4),(20,t4)] }
def Am.a (k:Nat):AC (Am.d.cs k):=⟨B6.s k,trivial⟩
def B2.s:LL Try.f58 Am.d 3 B2.p:=mL [] Am.a trivial
def Am.s (k:Nat):CK 58 (Am.e k):=mS Am.d k [3] Try.func58 (Am.a k) ⟨B2.s,trivial⟩
def C3.e (k:Nat):Ent:=⟨1,[(.val true t14)],[(.agg,t16)],λ x=>C3 k x⟩
def C3.d:Fd := { nt:=10,nv:=1,nm:=[0,1],res:=[],cs:=λ k=>[(58,Am.e k)] }
def C3.s (k:Nat):CK 29 (C3.e k):=mS C3.d k [] Try.func29 ⟨Am.s k,trivial⟩ trivial
def F5.e (k:Nat):Ent:=⟨3,[(.val false (.i .i64)),(.val false (.i .i64)),(.val false (.i .i64))],[(.one,.b)],λ x=>F5 x.1 x.2.1 x.2.2⟩
def F5.d:Fd := { nt:=15,nv:=3,nm:=[0,1,2,3,4,5],res:=[6] }
def F5.s (k:Nat):CK 60 (F5.e k):=mS F5.d k [] Try.func60 trivial trivial
def Ba.e (k:Nat):Ent:=⟨1,[(.val false .s)],[(.one,.b)],λ x=>Ba k x⟩
def Aa.p:LF:=⟨⟨[],[(0,.s),(3,(.i .i64))]⟩,[(.ret,⟨[],[(2,.b)]⟩),((.exit 0),⟨[],[(0,.s)]⟩)],λ k x=>Aa k x.1 x.2⟩
def Ba.d:Fd := { nt:=45,nv:=1,nm:=[0,1,3,4],res:=[2],cs:=λ k=>[(60,F5.e k)],ls:=[(2,Aa.p)] }
def Ba.a (k:Nat):AC (Ba.d.cs k):=⟨F5.s k,trivial⟩
def Aa.s:LL Try.f31 Ba.d 2 Aa.p:=mL [] Ba.a trivial
def Ba.s (k:Nat):CK 31 (Ba.e k):=mS Ba.d k [2] Try.func31 (Ba.a k) ⟨Aa.s,trivial⟩
def B8.e (k:Nat):Ent:=⟨1,[(.val false t6)],[(.one,.b)],λ x=>B8 k x⟩
def Bc.p:LF:=⟨⟨[],[(0,t6),(5,t6),(6,(.i .i64)),(7,(.i .i64))]⟩,[(.ret,⟨[],[(2,.b)]⟩),((.exit 0),⟨[],[(0,t6)]⟩)],λ k x=>Bc k x.1 x.2.1 x.2.2.1 x.2.2.2⟩
def B8.d:Fd := { nt:=41,nv:=1,nm:=[0,1,3,4],res:=[2],cs:=λ k=>[(31,Ba.e k)],ls:=[(2,Bc.p)] }
def B8.a (k:Nat):AC (B8.d.cs k):=⟨Ba.s k,trivial⟩
def Bc.s:LL Try.f59 B8.d 2 Bc.p:=mL [] B8.a trivial
def B8.s (k:Nat):CK 59 (B8.e k):=mS B8.d k [2] Try.func59 (B8.a k) ⟨Bc.s,trivial⟩
def Cn.e (k:Nat):Ent:=⟨1,[(.val true t14)],[(.one,.b)],λ x=>Cn k x⟩
def Cn.d:Fd := { nt:=11,nv:=1,nm:=[0,1],res:=[2],cs:=λ k=>[(59,B8.e k)] }
def Cn.s (k:Nat):CK 30 (Cn.e k):=mS Cn.d k [] Try.func30 ⟨B8.s k,trivial⟩ trivial
def E8.e (k:Nat):Ent:=⟨2,[(.val false t8),(.val true t4)],[(.one,t8)],λ x=>E8 k x.1 x.2⟩
def Co.p:LF:=⟨⟨[(3,(.bp 3 0 0)),(4999,(.hd 2))],[(0,t8),(5,(.i .i64)),(4000,.s),(4001,t1)]⟩,[((.exit 0),⟨[(3,(.bp 3 0 0)),(4999,(.hd 2))],[(0,t8),(5,(.i .i64)),(4000,.s),(4001,t1)]⟩)],λ k x=>Co k x.1 x.2.1 x.2.2.1 x.2.2.2⟩
def E8.d:Fd := { nt:=33,nv:=2,nm:=[0,1,2,3,5],res:=[4],ls:=[(2,Co.p)],hint:=[(25,t4),(27,t4),(28,t4),(32,t4)],gh:=[(4,[.sp 0 5 2900])] }
def Co.s:LL Try.f32 E8.d 2 Co.p:=mL [] (λ _=>trivial) trivial
def E8.s (k:Nat):CK 32 (E8.e k):=mS E8.d k [2] Try.func32 trivial ⟨Co.s,trivial⟩
def Et.e (k:Nat):Ent:=⟨2,[(.val false t6),(.val false .s)],[(.one,(.i .i64))],λ x=>Et k x.1 x.2⟩
def D8.p:LF:=⟨⟨[],[(1,.s),(7,t6),(8,(.i .i64)),(9,(.i .i64))]⟩,[(.ret,⟨[],[(4,(.i .i64))]⟩),((.exit 0),⟨[],[]⟩)],λ k x=>D8 k x.1 x.2.1 x.2.2.1 x.2.2.2⟩
def Et.d:Fd := { nt:=20,nv:=2,nm:=[0,1,2,3,5,6],res:=[4],ls:=[(2,D8.p)] }
def D8.s:LL Try.f40 Et.d 2 D8.p:=mL [] (λ _=>trivial) trivial
def Et.s (k:Nat):CK 40 (Et.e k):=mS Et.d k [2] Try.func40 trivial ⟨D8.s,trivial⟩
def Dp.e (k:Nat):Ent:=⟨2,[(.val false t8),(.val false .s)],[(.one,t8)],λ x=>Dp k x.1 x.2⟩
def Dp.d:Fd := { nt:=21,nv:=2,nm:=[0,1,2,3,5],res:=[4],cs:=λ k=>[(40,Et.e k)],hint:=[(15,t4),(20,t4)],gh:=[(4,[.sp 0 5 2900])] }
def Dp.s (k:Nat):CK 33 (Dp.e k):=mS Dp.d k [] Try.func33 ⟨Et.s k,trivial⟩ trivial
def B7.e (k:Nat):Ent:=⟨3,[(.val true t14),(.val false .s),(.val false t0)],[(.agg,t16),(.one,.b)],λ x=>B7 k x.1 x.2.1 x.2.2⟩
def B7.d:Fd := { nt:=42,nv:=3,nm:=[0,1,2,3,4,5,8],res:=[7],cs:=λ k=>[(29,C3.e k),(30,Cn.e k),(31,Ba.e k),(32,E8.e k),(33,Dp.e k),(34,B6.e k)],mv:=[24,41] }
def B7.s (k:Nat):CK 10 (B7.e k):=mS B7.d k [] Try.func10 ⟨C3.s k,Cn.s k,Ba.s k,E8.s k,Dp.s k,B6.s k,trivial⟩ trivial
def Bn.e (k:Nat):Ent:=⟨2,[(.val false t0),(.val false t0)],[(.one,.b)],λ x=>Bn k x.1 x.2⟩
def Bm.p:LF:=⟨⟨[],[(0,t0),(1,t0),(5,(.i .i64))]⟩,[(.ret,⟨[],[(4,.b)]⟩),((.exit 0),⟨[],[]⟩)],λ k x=>Bm k x.1 x.2.1 x.2.2⟩
def Bn.d:Fd := { nt:=26,nv:=2,nm:=[0,1,2,3,5],res:=[4],ls:=[(4,Bm.p)],rf:=true }
def Bm.s:LL Try.f12 Bn.d 4 Bm.p:=mL [] (λ _=>trivial) trivial
def Bn.s (k:Nat):CK 12 (Bn.e k):=mS Bn.d k [4] Try.func12 trivial ⟨Bm.s,trivial⟩
def Cj.e (k:Nat):Ent:=⟨2,[(.val true t3),(.val true t3)],[(.one,.b)],λ x=>Cj k x.1 x.2⟩
def Cj.d:Fd := { nt:=16,nv:=2,nm:=[0,1,2,3],res:=[4],cs:=λ k=>[(12,Bn.e k)],rf:=true }
def Cj.s (k:Nat):CK 61 (Cj.e k):=mS Cj.d k [] Try.func61 ⟨Bn.s k,trivial⟩ trivial
def Av.e (k:Nat):Ent:=⟨2,[(.val false t6),(.val false t6)],[(.one,.b)],λ x=>Av k x.1 x.2⟩
def Bd.p:LF:=⟨⟨[],[(0,t6),(1,t6),(5,(.i .i64))]⟩,[(.ret,⟨[],[(4,.b)]⟩),((.exit 0),⟨[],[]⟩)],λ k x=>Bd k x.1 x.2.1 x.2.2⟩
def Av.d:Fd := { nt:=27,nv:=2,nm:=[0,1,2,3,5],res:=[4],cs:=λ k=>[(61,Cj.e k)],ls:=[(4,Bd.p)],rf:=true }
def Av.a (k:Nat):AC (Av.d.cs k):=⟨Cj.s k,trivial⟩
def Bd.s:LL Try.f35 Av.d 4 Bd.p:=mL [] Av.a trivial
def Av.s (k:Nat):CK 35 (Av.e k):=mS Av.d k [4] Try.func35 (Av.a k) ⟨Bd.s,trivial⟩
def C9.e (k:Nat):Ent:=⟨2,[(.val true t14),(.val true t14)],[(.one,.b)],λ x=>C9 k x.1 x.2⟩
def C9.d:Fd := { nt:=17,nv:=2,nm:=[0,1,2,3],res:=[4],cs:=λ k=>[(35,Av.e k)],rf:=true }
def C9.s (k:Nat):CK 11 (C9.e k):=mS C9.d k [] Try.func11 ⟨Av.s k,trivial⟩ trivial
def Aq.e (k:Nat):Ent:=⟨2,[(.io false t1),(.val false (.i .i64))],[(.one,(.i .i64))],λ x=>Aq k x.1 x.2⟩
def B3.p:LF:=⟨⟨[(0,(.io 3001000))],[(1,(.i .i64)),(5,(.i .i64)),(3001000,t1)]⟩,[((.exit 0),⟨[],[(1,(.i .i64)),(3001000,t1)]⟩)],λ k x=>B3 k x.1 x.2.1 x.2.2⟩
def Aq.d:Fd := { nt:=20,nv:=2,nm:=[0,1,2,3,5],res:=[4],ls:=[(2,B3.p)],rf:=true }
def B3.s:LL Try.f14 Aq.d 2 B3.p:=mL [] (λ _=>trivial) trivial
def Aq.s (k:Nat):CK 14 (Aq.e k):=mS Aq.d k [2] Try.func14 trivial ⟨B3.s,trivial⟩
def B0.e (k:Nat):Ent:=⟨1,[(.val false (.i .i64))],[(.one,.s)],λ x=>B0 k x⟩
def Be.p:LF:=⟨⟨[],[(0,(.i .i64)),(3,.s)]⟩,[((.exit 0),⟨[],[(3,.s)]⟩)],λ k x=>Be k x.1 x.2⟩
def B0.d:Fd := { nt:=20,nv:=1,nm:=[0,1,3],res:=[2],ls:=[(4,Be.p)],rf:=true }
def Be.s:LL Try.f62 B0.d 4 Be.p:=mL [] (λ _=>trivial) trivial
def B0.s (k:Nat):CK 62 (B0.e k):=mS B0.d k [4] Try.func62 trivial ⟨Be.s,trivial⟩
def Aj.e (k:Nat):Ent:=⟨2,[(.io false t8),(.val false (.i .i64))],[(.one,(.i .i64))],λ x=>Aj k x.1 x.2⟩
def Aw.p:LF:=⟨⟨[(0,(.io 3001000))],[(1,(.i .i64)),(5,(.i .i64)),(3001000,t8)]⟩,[((.exit 0),⟨[],[(1,(.i .i64)),(3001000,t8)]⟩)],λ k x=>Aw k x.1 x.2.1 x.2.2⟩
def Aj.d:Fd := { nt:=28,nv:=2,nm:=[0,1,2,3,5],res:=[4],cs:=λ k=>[(14,Aq.e k),(62,B0.e k)],ls:=[(2,Aw.p)],gh:=[(1000003,[.cl 3001000])],opn:=[22],rf:=true }
def Aj.a (k:Nat):AC (Aj.d.cs k):=⟨Aq.s k,B0.s k,trivial⟩
def Aw.s:LL Try.f36 Aj.d 2 Aw.p:=mL [] Aj.a trivial
def Aj.s (k:Nat):CK 36 (Aj.e k):=mS Aj.d k [2] Try.func36 (Aj.a k) ⟨Aw.s,trivial⟩
def Bs.e (k:Nat):Ent:=⟨2,[(.io true t16),(.val false (.i .i64))],[(.one,(.i .i64))],λ x=>Bs k x.1 x.2⟩
def Bs.d:Fd := { nt:=14,nv:=2,nm:=[0,1,2,3],res:=[4],cs:=λ k=>[(36,Aj.e k)],mv:=[0],rf:=true }
def Bs.s (k:Nat):CK 13 (Bs.e k):=mS Bs.d k [] Try.func13 ⟨Aj.s k,trivial⟩ trivial
def Bh.e (k:Nat):Ent:=⟨2,[(.val false t0),(.val false (.i .i64))],[(.one,(.i .i64))],λ x=>Bh k x.1 x.2⟩
def B4.p:LF:=⟨⟨[],[(0,t0),(1,(.i .i64)),(5,(.i .i64))]⟩,[(.ret,⟨[],[(4,(.i .i64))]⟩),((.exit 0),⟨[],[(1,(.i .i64))]⟩)],λ k x=>B4 k x.1 x.2.1 x.2.2⟩
def Bh.d:Fd := { nt:=22,nv:=2,nm:=[0,1,2,3,5],res:=[4],ls:=[(2,B4.p)],rf:=true }
def B4.s:LL Try.f63 Bh.d 2 B4.p:=mL [] (λ _=>trivial) trivial
def Bh.s (k:Nat):CK 63 (Bh.e k):=mS Bh.d k [2] Try.func63 trivial ⟨B4.s,trivial⟩
def Al.e (k:Nat):Ent:=⟨2,[(.val false t6),(.val false (.i .i64))],[(.one,(.i .i64))],λ x=>Al k x.1 x.2⟩
def Ax.p:LF:=⟨⟨[],[(0,t6),(1,(.i .i64)),(5,(.i .i64))]⟩,[(.ret,⟨[],[(4,(.i .i64))]⟩),((.exit 0),⟨[],[(1,(.i .i64))]⟩)],λ k x=>Ax k x.1 x.2.1 x.2.2⟩
def Al.d:Fd := { nt:=32,nv:=2,nm:=[0,1,2,3,5],res:=[4],cs:=λ k=>[(62,B0.e k),(63,Bh.e k)],ls:=[(2,Ax.p)],rf:=true }
def Al.a (k:Nat):AC (Al.d.cs k):=⟨B0.s k,Bh.s k,trivial⟩
def Ax.s:LL Try.f37 Al.d 2 Ax.p:=mL [] Al.a trivial
def Al.s (k:Nat):CK 37 (Al.e k):=mS Al.d k [2] Try.func37 (Al.a k) ⟨Ax.s,trivial⟩
def Bt.e (k:Nat):Ent:=⟨2,[(.val true t14),(.val false (.i .i64))],[(.one,(.i .i64))],λ x=>Bt k x.1 x.2⟩
def Bt.d:Fd := { nt:=18,nv:=2,nm:=[0,1,2,3],res:=[4],cs:=λ k=>[(37,Al.e k)],rf:=true }
def Bt.s (k:Nat):CK 15 (Bt.e k):=mS Bt.d k [] Try.func15 ⟨Al.s k,trivial⟩ trivial
def An.e (k:Nat):Ent:=⟨3,[(.val true t13),(.val false .s),(.val false t0)],[(.one,.b)],λ x=>An k x.1 x.2.1 x.2.2⟩
def An.d:Fd := { nt:=125,nv:=3,nm:=[0,1,2,3,4,5,7,8,9,10,11,12,13,14,15,16,17,18],res:=[6],cs:=λ k=>[(6,Cy.e k),(7,Bg.e k),(8,C8.e k),(9,Az.e k),(10,B7.e k),(11,C9.e k),(12,Bn.e k),(13,Bs.e k),(14,Aq.e k),(15,Bt.e k)],rf:=true }
def An.s (k:Nat):CK 3 (An.e k):=mS An.d k [] Try.func3 ⟨Cy.s k,Bg.s k,C8.s k,Az.s k,B7.s k,C9.s k,Bn.s k,Bs.s k,Aq.s k,Bt.s k,trivial⟩ trivial
end

def Tot {α:Type} (f:Nat→Option α) (Q:α→Prop):Prop:=∃ r K,(∀ k,K≤k→f k=some r)∧Q r
section
variable {α β:Type} {f g:Nat→Option α} {Q Q':α→Prop}
def Tot.mono (h:Tot f Q) (hq:∀ a,Q a→Q' a):Tot f Q':=by
 obtain⟨r,K,h1,h2⟩:=h;exact⟨r,K,h1,hq r h2⟩
def J4a {a:α} (h:Q a):Tot (λ _=>some a) Q:=⟨a,0,λ _ _=>rfl,h⟩
def Jfa {o:Option α} {a:α} (e:o=some a) (h:Q a):Tot (λ _=>o) Q:=⟨a,0,λ _ _=>e,h⟩
def J5a {h:Nat→α→Option β} {R:β→Prop} (hf:Tot f Q) (hh:∀ a,Q a→Tot (λ k=>h k a) R):Tot (λ k=>(f k).bind (h k)) R:=by
 obtain⟨a,K,h1,h2⟩:=hf;obtain⟨b,L,h3,h4⟩:=hh a h2;exact⟨b,max K L,λ k hk=>by show (f k).bind (h k)=_;rw[h1 k (by omega)];exact h3 k (by omega),h4⟩
def J7a {c:Bool} (hc:c=true) (h:Tot f Q):Tot (λ k=>cond c (f k) (g k)) Q:=by subst hc;exact h
def J6a {c:Bool} (hc:c=false) (h:Tot g Q):Tot (λ k=>cond c (f k) (g k)) Q:=by subst hc;exact h
def Jaa {c:Bool} (h1:c=true→Tot f Q) (h2:c=false→Tot g Q):Tot (λ k=>cond c (f k) (g k)) Q:=by
 cases hc:c with
 |true=>exact h1 hc
 |false=>exact h2 hc
def J8a {p:Prop} [Decidable p] (hp:p) (h:Tot f Q):Tot (λ k=>cond (decide p) (f k) (g k)) Q:=J7a (decide_eq_true hp) h
def J9a {p:Prop} [Decidable p] (hp:¬ p) (h:Tot g Q):Tot (λ k=>cond (decide p) (f k) (g k)) Q:=J6a (decide_eq_false hp) h
def Jba {p:Prop} [Decidable p] (h1:p→Tot f Q) (h2:¬ p→Tot g Q):Tot (λ k=>cond (decide p) (f k) (g k)) Q:=
 Jaa (λ h=>h1 (of_decide_eq_true h)) (λ h=>h2 (of_decide_eq_false h))
def Jca {m n:Nat} (hp:m≤n) (h:Tot f Q):Tot (λ k=>cond (Nat.ble m n) (f k) (g k)) Q:=J7a (Yp hp) h
def Jea {v:α} {h:Nat→α→Option β} {R:β→Prop} (hf:Tot f (λ r=>r=v)) (hh:Tot (λ k=>h k v) R):Tot (λ k=>(f k).bind (h k)) R:=
 J5a hf (by rintro r rfl;exact hh)
def Tot.succ (h:Tot (λ k=>f (k+1)) Q):Tot f Q:=by
 obtain⟨r,K,h1,h2⟩:=h;exact⟨r,K+1,λ k hk=>by obtain⟨m,rfl⟩:∃ m,k=m+1:=⟨k-1,by omega⟩;exact h1 m (by omega),h2⟩
def Tot.and (h:Tot f Q) (h':Tot f Q'):Tot f (λ a=>Q a∧Q' a):=by
 obtain⟨r,K,h1,h2⟩:=h;obtain⟨r',K',h1',h2'⟩:=h'
 have e:r=r':=by
  have a1:=h1 (max K K') (by omega);have a2:=h1' (max K K') (by omega);rw[a1]at a2;exact Kia a2
 subst e;exact⟨r,K,h1,h2,h2'⟩
def Tot.law {f:Nat→Option Bool} (h:Tot f (λ b=>b=true)):∃ k,f k=some true:=by
 obtain⟨r,K,h1,h2⟩:=h;subst h2;exact⟨K,h1 K (Vo _)⟩
end
def w64 {n:Int} (h1 : -9223372036854775808≤n) (h2:n≤9223372036854775807):wrap .i64 n=n:=Go.IntWalk.i64_in n ⟨h1,h2⟩

def Aka (l:List Int):Prop:=∀ x∈l,0≤x∧x≤255
abbrev Stp:=Int×Int×Int
abbrev Row:=ByteArray×Stp×Bool×Int
abbrev Fil:=Stp×Bool×List Int

def Qa:∀ (a:List UInt8),Op.bytesLess a a=false
 |[]=>rfl
 |a::l=>by simp[Op.bytesLess,Qa l]
def Tm:∀ (a b c:List UInt8),Op.bytesLess a b=true→Op.bytesLess b c=true→Op.bytesLess a c=true
 |_,[],_,h,_=>by simp[Op.bytesLess]at h
 |_,_::_,[],_,h=>by simp[Op.bytesLess]at h
 |[],_::_,_::_,_,_=>rfl
 |a::x,b::y,c::z,h1,h2=>by
  simp only[Op.bytesLess,Jha,Va,decide_eq_true_eq,beq_iff_eq]at h1 h2 ⊢;rcases h1 with h1|⟨rfl,h1⟩
  ·rcases h2 with h2|⟨rfl,h2⟩
   ·exact .inl (UInt8.lt_trans h1 h2)
   ·exact .inl h1
  ·rcases h2 with h2|⟨rfl,h2⟩
   ·exact .inl h2
   ·exact .inr ⟨rfl,Tm x y z h1 h2⟩
def Dsa:∀ (a b:List UInt8),Op.bytesLess a b=false→Op.bytesLess b a=false→a=b
 |[],[],_,_=>rfl
 |[],_::_,h,_=>by simp[Op.bytesLess]at h
 |_::_,[],_,h=>by simp[Op.bytesLess]at h
 |a::x,b::y,h1,h2=>by
  simp only[Op.bytesLess,Bool.or_eq_false_iff,Bool.and_eq_false_iff,decide_eq_false_iff_not]at h1 h2
  have hab:a=b:=by
   have h3:=UInt8.not_lt.1 h1.1;have h4:=UInt8.not_lt.1 h2.1;exact UInt8.le_antisymm h4 h3
  subst hab;rw[Dsa x y (h1.2.resolve_left (by simp)) (h2.2.resolve_left (by simp))]
def tlt (a b:ByteArray):Bool:=Op.bytesLess a.toList b.toList
def teq (a b:ByteArray):Bool:=a.toList==b.toList
def N4 {a b:ByteArray} (h:a.toList=b.toList):a=b:=by
 rw[ByteArray.toList_eq,ByteArray.toList_eq]at h;obtain⟨⟨x⟩⟩:=a;obtain⟨⟨y⟩⟩:=b;simp only at h;rw[h]
def Jr {a b:ByteArray}:teq a b=true↔a=b:=by
 unfold teq;rw[beq_iff_eq];exact⟨N4,λ h=>by rw[h]⟩
def Js (a:ByteArray):tlt a a=false:=Qa _
def M2 {a b c:ByteArray} (h:tlt a b=true) (h':tlt b c=true):tlt a c=true:=Tm _ _ _ h h'
def Fda {a b:ByteArray} (h:tlt a b=false) (h':tlt b a=false):a=b:=N4 (Dsa _ _ h h')
def Ala {a b:ByteArray} (h:tlt a b=true):tlt b a=false:=by
 cases hb:tlt b a
 ·rfl
 have:=M2 h hb;rw[Js]at this;cases this
def sle (a b:Stp):Bool:=cond (a.1 != b.1) (decide (a.1<b.1)) (cond (a.2.1 != b.2.1) (decide (a.2.1<b.2.1)) (decide (a.2.2<b.2.2)))
def I5a (a b:Row):Bool:=cond (!((a.2.1.1==b.2.1.1)&&((a.2.1.2.1==b.2.1.2.1)&&(a.2.1.2.2==b.2.1.2.2)))) (sle a.2.1 b.2.1) (cond (!(a.2.2.1==b.2.2.1)) b.2.2.1 (decide (a.2.2.2<b.2.2.2)))
def G3 {α:Type} {l:List α} {i:Nat} {d:α} (h:i<l.length):l.drop i=l.getD i d::l.drop (i+1):=by
 rw[Yf h,Vm,Vp h];rfl

section
open Go
end

def inR (n lo hi:Int):Bool:=decide (n≥lo)&&decide (n≤hi)
def H0a (n lo hi:Int):F5 n lo hi=some (inR n lo hi):=by
 unfold F5 inR
 cases decide (n≥lo)<;>rfl
def Dta (n lo hi:Int):D7 n lo hi=some (inR n lo hi):=by
 unfold D7 inR
 cases decide (n≥lo)<;>rfl
def Fea {n lo hi:Int}:inR n lo hi=true↔lo≤n∧n≤hi:=by
 unfold inR;simp
def J0 (c:Int):Bool:=inR c 97 122||(inR c 48 57||(!(c != 45)||(!(c != 95)||!(c != 47))))
def Hp (s:ByteArray):Prop:=s.size≤4611686018427387904
def Gi (s:ByteArray):s.data.toList.length=s.size:=Yg
def Ama (s:ByteArray) (i:Int):0≤bt s i∧bt s i≤255:=by
 unfold bt;have:=(s.data.toList.getD i.toNat 0).toNat_lt;omega
def H1a (s:ByteArray) (i:Nat) (h:i<s.size):bt s (i:Int)=((s.data.toList[i]'(by rw[Gi];exact h)).toNat:Int):=by
 unfold bt;rw[Vy,Vm,Vp (by rw[Gi];exact h)];rfl
def bOk (b:UInt8):Bool:=J0 (b.toNat:Int)
def Ry (s:ByteArray) (hs:Hp s):∀ (n i:Nat),s.size-i=n→i≤s.size→
  Tot (λ k=>Aa k s (i:Int)) (λ r=>r=bif (s.data.toList.drop i).all bOk then .inr s else .inl false):=by
 unfold Hp at hs;have hsz:=Gi s;intro n
 induction n with
 |zero=>
  intro i hn hi;refine Tot.succ ?_;simp only[Aa];refine J9a (by omega) (J4a ?_);rw[Yl (by omega)];rfl
 |succ n ih=>
  intro i hn hi
  have hlt:i<s.size:=by omega
  refine Tot.succ ?_;simp only[Aa];refine J8a (by omega) (J8a (by omega) (J8a (by omega) ?_));rw[w64 (n:=(i:Int)+1) (by omega) (by omega)]
  have hb:bOk (s.data.toList[i]'(by omega))=J0 (bt s (i:Int)):=by rw[H1a s i hlt];rfl
  rw[Yf (by omega),Kga,hb];generalize bt s (i:Int)=c;have h1:=ih (i+1) (by omega) (by omega)
  have e:(((i+1:Nat)):Int)=(i:Int)+1:=by omega
  rw[e]at h1
  cases hc:J0 c with
  |true=>
   rw[Yr];refine h1.mono (λ r hr=>hr) |> λ h=>?_;obtain⟨r,K,h2,h3⟩:=h;refine⟨r,K,λ k hk=>?_,h3⟩;rw[← h2 k hk];unfold J0 inR at hc
   revert hc
   cases decide (c≥97)<;>cases decide (c≤122)<;>cases decide (c≥48)<;>cases decide (c≤57)<;>cases (c != 45)<;>cases (c != 95)<;>cases (c != 47)<;>first|(intro _;rfl)|(intro hc;cases hc)
  |false=>
   rw[Kca];refine⟨.inl false,0,λ k _=>?_,rfl⟩;unfold J0 inR at hc
   revert hc
   cases decide (c≥97)<;>cases decide (c≤122)<;>cases decide (c≥48)<;>cases decide (c≤57)<;>cases (c != 45)<;>cases (c != 95)<;>cases (c != 47)<;>first|(intro _;rfl)|(intro hc;cases hc)
def Rz (s:ByteArray) (hs:Hp s):∀ (n i:Nat),s.size-i=n→i≤s.size→
  Tot (λ k=>Ay k s (i:Int)) (λ r=>r=bif (s.data.toList.drop i).all bOk then .inr s else .inl false):=by
 unfold Hp at hs;have hsz:=Gi s;intro n
 induction n with
 |zero=>
  intro i hn hi;refine Tot.succ ?_;simp only[Ay];refine J9a (by omega) (J4a ?_);rw[Yl (by omega)];rfl
 |succ n ih=>
  intro i hn hi
  have hlt:i<s.size:=by omega
  have hbb:=Ama s (i:Int);refine Tot.succ ?_;simp only[Ay];refine J8a (by omega) (J8a (by omega) (J8a (by omega) ?_));rw[w64 (n:=(i:Int)+1) (by omega) (by omega),w64 (n:=bt s (i:Int)) (by omega) (by omega)]
  have hb:bOk (s.data.toList[i]'(by omega))=J0 (bt s (i:Int)):=by rw[H1a s i hlt];rfl
  rw[Yf (by omega),Kga,hb];generalize bt s (i:Int)=c;have h1:=ih (i+1) (by omega) (by omega)
  have e:(((i+1:Nat)):Int)=(i:Int)+1:=by omega
  rw[e]at h1;simp only[Dta,Ym]
  cases hc:J0 c with
  |true=>
   rw[Yr];obtain⟨r,K,h2,h3⟩:=h1;refine⟨r,K,λ k hk=>?_,h3⟩;rw[← h2 k hk];unfold J0 at hc
   revert hc
   cases inR c 97 122<;>cases inR c 48 57<;>cases (c != 45)<;>cases (c != 95)<;>cases (c != 47)<;>first|(intro _;rfl)|(intro hc;cases hc)
  |false=>
   rw[Kca];refine⟨.inl false,0,λ k _=>?_,rfl⟩;unfold J0 at hc
   revert hc
   cases inR c 97 122<;>cases inR c 48 57<;>cases (c != 45)<;>cases (c != 95)<;>cases (c != 47)<;>first|(intro _;rfl)|(intro hc;cases hc)
def Dt (s:ByteArray):Bool:=s.data.toList.all bOk&&inR (s.size:Int) 1 20
def Tn (s:ByteArray) (hs:Hp s):Tot (λ k=>Ba k s) (λ r=>r=Dt s):=by
 unfold Ba Dt;refine Jea (Ry s hs _ 0 rfl (Ya _)) ?_;rw[Wq]
 cases s.data.toList.all bOk with
 |true=>exact Jfa (a:=inR (s.size:Int) 1 20) (by simp only[cond_true,Sum.elim_inr,H0a,Ym]) (by rw[Yr])
 |false=>exact J4a rfl
def Tp (s:ByteArray) (hs:Hp s):Tot (λ k=>B9 k s) (λ r=>r=Dt s):=by
 unfold B9 Dt;refine Jea (Rz s hs _ 0 rfl (Ya _)) ?_;rw[Wq]
 cases s.data.toList.all bOk with
 |true=>exact Jfa (a:=inR (s.size:Int) 1 20) (by simp only[cond_true,Sum.elim_inr,Dta,Ym]) (by rw[Yr])
 |false=>exact J4a rfl
def Ffa (s:Stp):Bool:=inR s.1 0 1000000000&&(inR s.2.1 0 1000000&&inR s.2.2 0 20)
def Fb {α:Type} {l:List α} {i:Nat} {d:α} (h1:i<l.length):l.getD i d∈l:=by
 rw[Vm,Vp h1];exact Kha h1
def mx (a b:Row):Row:=bif I5a a b then b else a

def Ima:Nat→Nat→List Int
 |0,n=>[(n:Int)]
 |f+1,n=>if n≤127 then [(n:Int)] else ((n % 128+128:Nat):Int)::Ima f (n/128)
def H2a (n:Nat):List Int:=Ima 4 n
def Ina:Nat→Nat→Nat→List Int→Option (Nat×Nat)
 |0,_,_,_=>none
 |_+1,_,_,[]=>none
 |f+1,k,acc,x::l=>if 128≤x then Ina f (k+1) (acc+x.toNat % 128*128 ^ k) l
  else if (x=0∧0<k)∨1000000000<acc+x.toNat % 128*128 ^ k then none else some (acc+x.toNat % 128*128 ^ k,k+1)
def H3a (l:List Int) (p:Nat):Option (Nat×Nat):=match Ina 5 0 0 (l.drop p) with
 |some (n,c)=>some (n,p+c)
 |none=>none

def Qb (n:Int):Nat:=(max 0 (min n 1000000000)).toNat
def Ut (l:List Int):(K7 l).size=l.length:=by
 unfold K7;show (List.map _ l).toArray.size=l.length;simp
def txt (s:ByteArray):List Int:=H2a (Qb (s.size:Int))++bytesOf s
def Isa (l:List Int) (p:Nat):Option (ByteArray×Nat):=match H3a l p with
 |some (n,q)=>if q+n≤l.length then some (K7 ((l.drop q).take n),q+n) else none
 |none=>none

def Ita (b:Bool):Int:=bif b then 1 else 0
def Iua (s:Stp):List Int:=H2a (Qb s.1)++(H2a (Qb s.2.1)++H2a (Qb s.2.2))
def I4 {s:ByteArray} (h:Dt s=true):1≤s.size∧s.size≤20:=by
 unfold Dt at h;rw[Va,Fea]at h;omega

def I6a (l:List Int) (p:Nat):Option ((Stp×Bool)×Nat):=
 (H3a l p).bind λ b=>(H3a l b.2).bind λ c=>(H3a l c.2).bind λ d=>(H3a l d.2).bind λ e=>bif decide (1<e.1) then none else
  some ((((b.1:Int),(c.1:Int),(d.1:Int)),(e.1:Int)==1),e.2)

section
open Go
end

end Go.Proofs.Ytbbifgjgneefkaa.Vf
