import Derived.Test.YtiiekghlhfbmmaaGreatMap
import Derived.Test.YtiiekghlhfbmmaaGreatMak
set_option linter.all false
namespace Go.Proofs.YtiiekghlhfbmmaaGreat.Vf
open Go
open List (length getD)
open Int (toNat)
open Go.IntKind (wrap)
open BitVec (ofInt)
def K3b:=@Bool.or_false

def Vqa {s:ByteArray}:∀ (ns:List Nod) (a:Bool×Fil),(a.1=true→(ns.foldl (U1 s) a).1=true∧sle (ns.foldl (U1 s) a).2.1 a.2.1=false)∧
  ∀ n∈ns,((lkD n.2.1 s).2==0)=true→(ns.foldl (U1 s) a).1=true∧sle (ns.foldl (U1 s) a).2.1 (lkD n.2.1 s).1.1=false
 |[],a=>⟨λ h=>⟨h,Kr _⟩,λ n hn=>nomatch hn⟩
 |n::ns,a=>by
  rw[Ym];obtain⟨i1,i2⟩:=Vqa ns (U1 s a n)
  have k:(a.1=true→(U1 s a n).1=true∧sle (U1 s a n).2.1 a.2.1=false)∧(((lkD n.2.1 s).2==0)=true→(U1 s a n).1=true∧sle (U1 s a n).2.1 (lkD n.2.1 s).1.1=false):=by
   unfold U1
   cases hc:(lkD n.2.1 s).2==0 with
   |false=>exact⟨λ h=>⟨h,Kr _⟩,λ h=>by cases h⟩
   |true=>
    rw[cond_true]
    cases ha:a.1 with
    |false=>exact⟨λ h=>(by cases h),λ _=>⟨rfl,Kr _⟩⟩
    |true=>
     cases hs:sle a.2.1 (lkD n.2.1 s).1.1 with
     |true=>exact⟨λ _=>⟨rfl,S9 hs⟩,λ _=>⟨rfl,Kr _⟩⟩
     |false=>exact⟨λ _=>⟨ha,Kr _⟩,λ _=>⟨ha,hs⟩⟩
  have up:(U1 s a n).1=true→∀ {st:Stp},sle (U1 s a n).2.1 st=false→(ns.foldl (U1 s) (U1 s a n)).1=true∧sle (ns.foldl (U1 s) (U1 s a n)).2.1 st=false:=λ h st hs=>⟨(i1 h).1,Xn (i1 h).2 hs⟩;refine⟨λ h=>up (k.1 h).1 (k.1 h).2,λ m hm hg=>?_⟩;rcases Vl.1 hm with rfl|hm
  ·exact up (k.2 hg).1 (k.2 hg).2
  ·exact i2 m hm hg

section
open Go
end

def Vra {b:List Int} {f:Fil} (h:Oe b=some f):Ej f=true∧Aj f.2.2:=⟨(Bda h).1,(Bda h).2.1⟩

section
open Go
end

def Vsa (ns:List Nod) (s:ByteArray) (T:Stp):Prop:=(∀ m,m<ns.length→∀ o,oN ns m s=some o→sle T o.1=false)∧∃ m,m<ns.length∧∃ o,oN ns m s=some o∧o.1=T
def Z5a {d:Dsk} {s:ByteArray} {f:Fil} (hd:DG d) (g1:B1 s=true) (g2:Ej f=true) (g3:Aj f.2.2):
  (∀ t,t≠s→old (keep d s f true).1 t=old d t)∧(old (keep d s f true).1 s=old d s∨(old (keep d s f true).1 s=some f∧∀ o,old d s=some o→sle o.1 f.1=true))∧
  ((keep d s f true).2=0∨(keep d s f true).2=1→∃ o,old (keep d s f true).1 s=some o∧sle o.1 f.1=false):=by
 rw[Bha hd.1 g1 g2];rcases Wy (f:=f) (sure:=true) hd g1 with k|⟨o,h1,h2,h3,_,h5⟩|⟨h1,_,h3,_,h5⟩
 ·rw[k]
  exact⟨λ _ _=>rfl,.inl rfl,λ h=>by rcases h with h|h<;>cases h⟩
 ·rcases h5 with⟨c,_⟩|⟨_,e⟩
  ·cases c
  ·rw[e];exact⟨λ _ _=>rfl,.inl rfl,λ _=>⟨o,h1,h2⟩⟩
 ·rcases h5 with⟨c,_⟩|⟨_,e⟩
  ·cases c
  ·have ho:∀ t,old (N5 d s f true).1 t=if s=t then some f else old d t:=λ t=>by
    rw[e];show (gt (wr d.1 s (M3 f)) t).bind Oe=_;rw[I3a (Mq hd.1)]
    by_cases hst:s=t
    ·rw[if_pos hst,if_pos hst,Vn,Uw g2 g3]
    ·rw[if_neg hst,if_neg hst];rfl
   exact⟨λ t ht=>by rw[ho t,if_neg (λ e=>ht e.symm)],.inr ⟨by rw[ho s,if_pos rfl],h1⟩,λ _=>⟨f,by rw[ho s,if_pos rfl],Kr _⟩⟩
def Vsa.set {ns:List Nod} {s:ByteArray} {T:Stp} (h:Vsa ns s T) {p:Nat} (hp:p<ns.length) {x:Nod} (hx:old x.2.1 s=oN ns p s∨∃ f,old x.2.1 s=some f∧sle T f.1=false∧∀ o,oN ns p s=some o→sle o.1 f.1=true):Vsa (ns.set p x) s T:=by
 have e:∀ m,m<ns.length→oN (ns.set p x) m s=if p=m then old x.2.1 s else oN ns m s:=λ m hm=>by
  unfold oN;rw[Lk hm]
  by_cases h:p=m
  ·rw[if_pos h,if_pos h]
  ·rw[if_neg h,if_neg h]
 obtain⟨h1,m,hm,o,h2,h3⟩:=h;refine⟨λ m hm o ho=>?_,m,by rw[Vw];exact hm,?_⟩
 ·rw[Vw]at hm;rw[e m hm]at ho
  by_cases hpm:p=m
  ·rw[if_pos hpm]at ho;rcases hx with hx|⟨f,hx,hf,_⟩
   ·rw[hx]at ho;exact h1 p hp o ho
   ·rw[hx]at ho;cases ho;exact hf
  ·rw[if_neg hpm]at ho;exact h1 m hm o ho
 ·rw[e m hm]
  by_cases hpm:p=m
  ·subst hpm;rw[if_pos rfl];rcases hx with hx|⟨f,hx,hf,hl⟩
   ·rw[hx];exact⟨o,h2,h3⟩
   ·have:=hl o h2;rw[h3,hf]at this;cases this
  ·rw[if_neg hpm];exact⟨o,h2,h3⟩

def Z6a {d:Dsk} {s:ByteArray} {f:Fil} (hd:DG d) (h:old d s=some f):B1 s=true∧Ej f=true∧Aj f.2.2:=by
 unfold old at h
 cases hg:gt d.1 s with
 |none=>rw[hg]at h;cases h
 |some b=>
  rw[hg]at h;have h1:=(Ae.1 (Df.1 hd.1).1).2.1 _ (P9 hg);unfold nOk at h1;rw[Va]at h1;exact⟨h1.1,Vra h⟩
def Lja {w:Wld} (h:WO w) {i:Nat} (hi:i<w.2.2.1.length) {s:ByteArray} {f:Fil} {rc:List Int} (hf:oN w.2.2.1 i s=some f) {T:Stp} (ht:Vsa w.2.2.1 s T):
  NS (puN w i s rc).1∧(puN w i s rc).1.length=w.2.2.1.length∧Vsa (puN w i s rc).1 s T∧(∀ t,t≠s→∀ m,m<w.2.2.1.length→oN (puN w i s rc).1 m t=oN w.2.2.1 m t)∧oN (puN w i s rc).1 i s=some f∧
  (puN w i s rc).2.1=inP w s i∧((puN w i s rc).2.2=true→∀ x∈O8 w s,x≠(i:Int)→∃ o,oN (puN w i s rc).1 x.toNat s=some o∧sle o.1 f.1=false):=by
 obtain⟨g1,g2,g3⟩:=Z6a (h.ns.get hi).g hf
 have hlk:(lkD (w.2.2.1.getD i Au).2.1 s).1=f:=by rw[Foa hf]
 have hat:=λ x=>Pn (w:=w) (s:=s) (x:=x);have hns:=h.ns;have hT:=ht.1 i hi f hf;unfold puN inP;rw[hlk];generalize O8 w s=ps at *
 have key:=Ms (st:=pst (i:Int) s f rc ps) (n:=ps.length) (a:=(w.2.2.1,false,true)) (λ j (a:List Nod×Bool×Bool)=>NS a.1∧a.1.length=w.2.2.1.length∧Vsa a.1 s T∧(∀ t,t≠s→∀ m,m<w.2.2.1.length→oN a.1 m t=oN w.2.2.1 m t)∧oN a.1 i s=some f∧
  a.2.1=O7 (ps.take j) (i:Int)∧(a.2.2=true→∀ x∈ps.take j,x≠(i:Int)→∃ o,oN a.1 x.toNat s=some o∧sle o.1 f.1=false)) ⟨hns,rfl,ht,λ _ _ _ _=>rfl,hf,rfl,λ _ x hx=>by rw[Hib]at hx;cases hx⟩ ?_
 ·rw[Yn]at key;exact key
 ·rintro j ⟨ns,o,g⟩ hj ⟨a1,a2,a3,a4,a5,a6,a7⟩;dsimp only at a1 a2 a3 a4 a5 a6 a7;have hpx:=hat _ (A4 (d:=0) hj);obtain⟨p,hp⟩:∃ p:Nat,ps.getD j 0=(p:Int):=⟨(ps.getD j 0).toNat,by omega⟩
  have e:ps[j]=(p:Int):=by rw[← hp,Vb,Vk hj];rfl
  have htk:∀ x:Int,O7 (ps.take (j+1)) x=(O7 (ps.take j) x||(p:Int)==x):=λ x=>by
   unfold O7;rw[We hj,List.any_append,e,Irb,List.any_nil,K3b]
  have hmem:∀ x,x∈ps.take (j+1)→x∈ps.take j∨x=(p:Int):=λ x hx=>by
   rw[We hj,Vp,Vu,e]at hx;exact hx
  unfold pst;rw[hp,Vc]
  cases hpi:(p:Int)==(i:Int) with
  |true=>
   refine⟨a1,a2,a3,a4,a5,?_,λ hg x hx hne=>?_⟩
   ·show true=_;rw[htk,hpi,Bool.or_true]
   ·rcases hmem x hx with h|rfl
    ·exact a7 hg x h hne
    ·exact absurd (eq_of_beq hpi) hne
  |false=>
   rw[cond_false]
   cases rch rc j != 1 with
   |true=>
    refine⟨a1,a2,a3,a4,a5,?_,λ c=>by cases c⟩;show o=_;rw[a6,htk,hpi,K3b]
   |false=>
    have ne:p≠i:=by intro e;rw[e,beq_self_eq_true]at hpi;cases hpi
    have hpn:p<ns.length:=by omega
    have hni:=a1.get hpn;obtain⟨k1,k2,k3⟩:=Z5a hni.g g1 g2 g3
    have eo:∀ m,m<w.2.2.1.length→∀ t,oN (ns.set p ((ns.getD p Au).1,(keep (ns.getD p Au).2.1 s f true).1,(ns.getD p Au).2.2)) m t=if p=m then old (keep (ns.getD p Au).2.1 s f true).1 t else oN ns m t:=λ m hm t=>by
     unfold oN;rw[Lk (by omega)]
     by_cases h:p=m
     ·rw[if_pos h,if_pos h]
     ·rw[if_neg h,if_neg h]
    refine⟨a1.set (Fla hni),by show (ns.set _ _).length=_;rw[Vw];exact a2,a3.set hpn (k2.imp id λ ⟨q1,q2⟩=>⟨f,q1,hT,q2⟩),λ t hts m hm=>?_,?_,?_,λ hg x hx hne=>?_⟩
    ·show oN (ns.set p _) m t=_;rw[eo m hm t]
     by_cases h:p=m
     ·subst h;rw[if_pos rfl,k1 t hts];exact a4 t hts p hm
     ·rw[if_neg h];exact a4 t hts m hm
    ·show oN (ns.set p _) i s=_;rw[eo i hi s,if_neg ne];exact a5
    ·show o=_;rw[a6,htk,hpi,K3b]
    ·have hg':(bif (keep (ns.getD p Au).2.1 s f true).2 != 0&&(keep (ns.getD p Au).2.1 s f true).2 != 1 then false else g)=true:=hg
     have hg2:((keep (ns.getD p Au).2.1 s f true).2=0∨(keep (ns.getD p Au).2.1 s f true).2=1)∧g=true:=by
      cases hk:(keep (ns.getD p Au).2.1 s f true).2 != 0&&(keep (ns.getD p Au).2.1 s f true).2 != 1 with
      |true=>rw[hk]at hg';cases hg'
      |false=>
       rw[hk]at hg';rw[J9b,bne,bne,Wi,Wi,beq_iff_eq,beq_iff_eq]at hk;exact⟨hk,hg'⟩
     show ∃ o,oN (ns.set p _) x.toNat s=some o∧_
     by_cases hxp:x=(p:Int)
     ·subst hxp;rw[Vc,eo p (by omega) s,if_pos rfl];exact k3 hg2.1
     ·have hxj:=(hmem x hx).resolve_right hxp;have hxa:=hat x (Hnb hxj);obtain⟨y,y1,y2⟩:=a7 hg2.2 x hxj hne;rw[eo x.toNat (by omega) s,if_neg (λ c=>hxp (by omega))];exact⟨y,y1,y2⟩
def Vta (ns:List Nod) (s:ByteArray) (h:∃ i,i<ns.length∧∃ f,oN ns i s=some f):∃ T,Vsa ns s T:=by
 have key:∀ k,k≤ns.length→(∃ i,i<k∧∃ f,oN ns i s=some f)→∃ T,(∀ m,m<k→∀ o,oN ns m s=some o→sle T o.1=false)∧∃ m,m<k∧∃ o,oN ns m s=some o∧o.1=T:=by
  intro k
  induction k with
  |zero=>rintro _ ⟨i,hi,_⟩;omega
  |succ k ih=>
   rintro hk ⟨i,hi,f,hf⟩
   by_cases hp:∃ i,i<k∧∃ f,oN ns i s=some f
   ·obtain⟨T,h1,m,hm,o,h2,h3⟩:=ih (by omega) hp
    cases hq:oN ns k s with
    |none=>exact⟨T,λ m hm o ho=>by
      by_cases e:m=k
      ·rw[e,hq]at ho;cases ho
      ·exact h1 m (by omega) o ho,m,by omega,o,h2,h3⟩
    |some g=>
     cases hs:sle T g.1 with
     |false=>exact⟨T,λ m hm o ho=>by
       by_cases e:m=k
       ·rw[e,hq]at ho;cases ho;exact hs
       ·exact h1 m (by omega) o ho,m,by omega,o,h2,h3⟩
     |true=>exact⟨g.1,λ m hm o ho=>by
       by_cases e:m=k
       ·rw[e,hq]at ho;cases ho;exact Kr _
       ·exact Xn (S9 hs) (h1 m (by omega) o ho),k,by omega,g,hq,rfl⟩
   ·have e:i=k:=by
     by_cases c:i=k
     ·exact c
     ·exact absurd ⟨i,by omega,f,hf⟩ hp
    subst e
    exact⟨f.1,λ m hm o ho=>by
     by_cases c:m=i
     ·subst c;rw[hf]at ho;cases ho;exact Kr _
     ·exact absurd ⟨m,by omega,o,ho⟩ hp,i,by omega,f,hf,rfl⟩
 exact key _ (Vx _) h
def Lat (ns ms:List Nod) (s:ByteArray):Prop:=(∀ T,Vsa ns s T→Vsa ms s T)∧((∀ m,m<ns.length→oN ns m s=none)→∀ m,m<ms.length→oN ms m s=none)
def Lat.refl (ns:List Nod) (s:ByteArray):Lat ns ns s:=⟨λ _ h=>h,λ h=>h⟩
def Lat.trans {a b c:List Nod} {s:ByteArray} (h1:Lat a b s) (h2:Lat b c s):Lat a c s:=⟨λ T h=>h2.1 T (h1.1 T h),λ h=>h2.2 (h1.2 h)⟩
def Lat.same {ns ms:List Nod} {s:ByteArray} (hl:ms.length=ns.length) (h:∀ m,m<ns.length→oN ms m s=oN ns m s):Lat ns ms s:=
 ⟨λ T ⟨h1,m,hm,o,h2,h3⟩=>⟨λ m hm o ho=>h1 m (by omega) o (by rw[← h m (by omega)];exact ho),m,by omega,o,by rw[h m hm];exact h2,h3⟩,λ hn m hm=>by rw[h m (by omega)];exact hn m (by omega)⟩
def Vua {w:Wld} (h:WO w) {i:Nat} (hi:i<w.2.2.1.length) (s:ByteArray) (rc:List Int) (t:ByteArray):Lat w.2.2.1 (V1 w i s rc).2.2.2.1 t:=by
 unfold V1;rw[Aqb]
 cases ho:oN w.2.2.1 i s with
 |none=>
  have e1:old (w.2.2.1.getD i Au).2.1 s=none:=ho;rw[e1];exact Lat.refl _ _
 |some f=>
  have e1:old (w.2.2.1.getD i Au).2.1 s=some f:=ho;rw[e1];show Lat w.2.2.1 (bif (puN w i s rc).2.2&&!(puN w i s rc).2.1 then (puN w i s rc).1.set i (Fvb ((puN w i s rc).1.getD i Au) s) else (puN w i s rc).1) t
  have out:∀ ns:List Nod,NS ns→i<ns.length→oN ns i s=some f→∀ m,m<ns.length→∀ t,oN (ns.set i (Fvb (ns.getD i Au) s)) m t=if i=m∧s=t then none else oN ns m t:=λ ns hns hin hs m hm t=>by
   unfold oN;rw[Lk hm]
   by_cases e:i=m
   ·subst e;rw[if_pos rfl];have hg:=(hns.get hin).g
    have hgs:(gt (ns.getD i Au).2.1.1 s).isSome=true:=by
     have hs':old (ns.getD i Au).2.1 s=some f:=hs;unfold old at hs'
     cases hq:gt (ns.getD i Au).2.1.1 s with
     |none=>rw[hq]at hs';cases hs'
     |some b=>rfl
    show old (syD (rmD (ns.getD i Au).2.1 s).1 s).1 t=_;rw[D8b hg hgs t]
    by_cases hst:s=t
    ·rw[if_pos hst,if_pos ⟨rfl,hst⟩]
    ·rw[if_neg hst,if_neg (λ c=>hst c.2)]
   ·rw[if_neg e,if_neg (λ c=>e c.1)]
  refine⟨λ T hT=>?_,λ hn=>?_⟩
  ·by_cases hts:t=s
   ·subst hts;obtain⟨p1,p2,p3,p4,p5,p6,p7⟩:=Lja (rc:=rc) h hi ho hT
    cases hc:(puN w i t rc).2.2&&!(puN w i t rc).2.1 with
    |false=>exact p3
    |true=>
     rw[Va,Vv]at hc;rw[cond_true];have eo:=out _ p1 (by omega) p5;obtain⟨h1,m,hm,o,h2,h3⟩:=p3;refine⟨λ m hm o hq=>?_,?_⟩
     ·rw[Vw]at hm;rw[eo m hm t]at hq
      by_cases c:i=m∧t=t
      ·rw[if_pos c]at hq;cases hq
      ·rw[if_neg c]at hq;exact h1 m hm o hq
     ·by_cases him:i=m
      ·subst him;rw[p5]at h2;obtain rfl:=K8b h2;obtain⟨x,hx⟩:=I9b (Isa (s:=t) h.ring h.ids);have hxa:=Pn hx
       have hne:x≠(i:Int):=λ e=>by
        subst e;have:inP w t i=true:=R4.2 hx;rw[p6,this]at hc;cases hc.2
       obtain⟨y,y1,y2⟩:=p7 hc.1 x hx hne;refine⟨x.toNat,by rw[Vw];omega,y,?_,?_⟩
       ·rw[eo x.toNat (by omega) t,if_neg (λ c=>hne (by omega))];exact y1
       ·rw[h3]at y2;exact Arb y2 (h1 x.toNat (by omega) y y1)
      ·refine⟨m,by rw[Vw];exact hm,o,?_,h3⟩;rw[eo m hm t,if_neg (λ c=>him c.1)];exact h2
   ·have hTs:∃ S,Vsa w.2.2.1 s S:=Vta _ s ⟨i,hi,f,ho⟩;obtain⟨S,hS⟩:=hTs;obtain⟨p1,p2,p3,p4,p5,p6,p7⟩:=Lja (rc:=rc) h hi ho hS;refine(Lat.same (ns:=w.2.2.1) ?_ λ m hm=>?_).1 T hT
    ·cases (puN w i s rc).2.2&&!(puN w i s rc).2.1 with
     |false=>exact p2
     |true=>rw[cond_true,Vw];exact p2
    ·cases (puN w i s rc).2.2&&!(puN w i s rc).2.1 with
     |false=>exact p4 t hts m hm
     |true=>
      rw[cond_true,out _ p1 (by omega) p5 m (by omega) t,if_neg (λ c=>hts c.2.symm)];exact p4 t hts m hm
  ·by_cases hts:t=s
   ·subst hts;rw[hn i hi]at ho;cases ho
   ·obtain⟨S,hS⟩:=Vta w.2.2.1 s ⟨i,hi,f,ho⟩;obtain⟨p1,p2,p3,p4,p5,p6,p7⟩:=Lja (rc:=rc) h hi ho hS;refine(Lat.same (ns:=w.2.2.1) ?_ λ m hm=>?_).2 hn
    ·cases (puN w i s rc).2.2&&!(puN w i s rc).2.1 with
     |false=>exact p2
     |true=>rw[cond_true,Vw];exact p2
    ·cases (puN w i s rc).2.2&&!(puN w i s rc).2.1 with
     |false=>exact p4 t hts m hm
     |true=>
      rw[cond_true,out _ p1 (by omega) p5 m (by omega) t,if_neg (λ c=>hts c.2.symm)];exact p4 t hts m hm

def DS (ns ms:List Nod):Prop:=∀ m,(ms.getD m Au).2.1=(ns.getD m Au).2.1
def DS.set {ns ms:List Nod} (h:DS ns ms) {p:Nat} {x:Nod} (hx:x.2.1=(ms.getD p Au).2.1):DS ns (ms.set p x):=λ m=>by
 rw[← h m]
 by_cases hm:m<ms.length
 ·rw[Lk hm]
  by_cases e:p=m
  ·rw[if_pos e,hx,e]
  ·rw[if_neg e]
 ·rw[Vb,Vb,Zb (by rw[Vw];omega),Zb (by omega)]
def Oma (w:Wld) (src:Int) (l:List Row) (self:Bool) (rc:List Int):DS w.2.2.1 (Me w src l self rc).1:=by
 unfold Me;refine Ms (λ _ (a:List Nod×Bool)=>DS w.2.2.1 a.1) (λ _=>rfl) λ j b hj hb=>?_;unfold gst
 cases (Fv w).getD j 0==src&&!self with
 |true=>exact hb
 |false=>
  cases rch rc j != 1 with
  |true=>exact hb
  |false=>
   refine hb.set ?_;unfold tk
   cases decide ((Tl (b.1.getD ((Fv w).getD j 0).toNat Au).2.2.1 l).length > 60)<;>rfl
def Z7a (w:Wld) (i:Nat) (rc:List Int):DS w.2.2.1 (X7 w i rc).2.2.2.1:=by
 have h:=Oma w (i:Int) ((w.2.2.1.getD i Au).2.2.2.take 1) true rc;unfold X7
 cases ((w.2.2.1.getD i Au).2.2.2.length:Int)==0 with
 |true=>exact λ _=>rfl
 |false=>
  show DS w.2.2.1 (bif (Pc w i rc).2 then (Pc w i rc).1.set i (Fwb ((Pc w i rc).1.getD i Au) ((w.2.2.1.getD i Au).2.2.2.drop 1)) else (Pc w i rc).1)
  cases (Pc w i rc).2 with
  |true=>exact DS.set h rfl
  |false=>exact h
def Z8a (w:Wld) (i:Nat) (rc:List Int):DS w.2.2.1 (X6 w i rc).2.2.2.1:=by
 have h:=Oma w (i:Int) (w.2.2.1.getD i Au).2.2.1 false rc;unfold X6
 cases ((w.2.2.1.getD i Au).2.2.1.length:Int)==0 with
 |true=>exact λ _=>rfl
 |false=>
  show DS w.2.2.1 (bif (Om w i rc).2&&!(O7 (Fv (wN w (Om w i rc).1)) (i:Int)) then (Om w i rc).1.set i (Oaa ((Om w i rc).1.getD i Au)) else (Om w i rc).1)
  cases (Om w i rc).2&&!(O7 (Fv (wN w (Om w i rc).1)) (i:Int)) with
  |true=>exact DS.set h rfl
  |false=>exact h
def DS.lat {ns ms:List Nod} (h:DS ns ms) (hl:ms.length=ns.length) (s:ByteArray):Lat ns ms s:=Lat.same hl λ m _=>by unfold oN;rw[h m]
def D9b {w:Wld} (h:WO w) {i:Nat} (hi:i<w.2.2.1.length) (s:ByteArray):Lat w.2.2.1 (qtA w i).2.2.1 s:=Lat.same (Oka h hi).len λ m hm=>by
 show oN (w.2.2.1.set i (Dob (w.2.2.1.getD i Au)).1) m s=_;unfold oN;rw[Lk hm]
 by_cases e:i=m
 ·subst e;rw[if_pos rfl];exact Vpa (h.ns.get hi).g s
 ·rw[if_neg e]
def Bya {i:Nat} (t:ByteArray):∀ (l:List ByteArray) {w:Wld},WO w→i<w.2.2.1.length→Lat w.2.2.1 (Tz w i l).2.2.1 t
 |[],w,_,_=>Lat.refl _ _
 |s::l,w,h,hi=>by
  have h1:=Vla h hi s Oi;exact(Vua h hi s Oi t).trans (Bya t l (h1.wo h) (by rw[h1.len];exact hi))
def Bza {w:Wld} (h:WO w) {i:Nat} (hi:i<w.2.2.1.length) (t:ByteArray):∀ n,Lat w.2.2.1 (R8 w i n).2.2.1 t
 |0=>Lat.refl _ _
 |n+1=>by
  have h1:=Qa h hi n;have h2:=Vma (h1.wo h) (i:=i) (by rw[h1.len];exact hi) Oi;exact(Bza h hi t n).trans ((Z7a (R8 w i n) i Oi).lat h2.len t)
def Dab {w:Wld} (h:WO w) {i:Nat} (hi:i<w.2.2.1.length) (t:ByteArray):Lat w.2.2.1 (qtP w i).2.2.1 t:=by
 have h1:=Oka h hi;have a1:=D9b h hi t;have h1o:=h1.wo h;have h1l:=h1.len;unfold qtP;generalize Cfa ((qtA w i).2.2.1.getD i Au).2.1=l;generalize qtA w i=u at *;exact a1.trans (Bya t l h1o (by omega))
def Dbb {w:Wld} (h:WO w) {i:Nat} (hi:i<w.2.2.1.length) (t:ByteArray):Lat w.2.2.1 (qtN w i).2.2.1 t:=by
 have h2:=Voa h hi;have a2:=Dab h hi t;have h2o:=h2.wo h;have h2l:=h2.len;unfold qtN qtT;generalize qtP w i=u at *;generalize (u.2.2.1.getD i Au).2.2.2.length=n;have h3:=Qa h2o (i:=i) (by omega) n;have a3:=Bza h2o (i:=i) (by omega) t n;have h3o:=h3.wo h2o;have h3l:=h3.len;generalize R8 u i n=v at *;have h4:=Vna h3o (i:=i) (by omega) Oi;exact(a2.trans a3).trans ((Z8a v i Oi).lat h4.len t)
def Vva {w:Wld} (h:WO w) (t:ByteArray):∀ k,k≤w.2.2.1.length→Lat w.2.2.1 (run qtN k w).2.2.1 t
 |0,_=>Lat.refl _ _
 |k+1,hk=>by
  have h1:=Ola h k (by omega);have:=Dbb (h1.wo h) (i:=k) (by rw[h1.len];omega) t;rw[Nt];exact(Vva h t k (by omega)).trans this
def Vwa {w:Wld} (h:WO w) (t:ByteArray):Lat w.2.2.1 (T8 w).2.2.1 t:=Vva h t _ (Vx _)
def Fpa {s:ByteArray}:∀ (ns:List Nod) (a:Bool×Fil),ns.foldl (U1 s) a=a∨∃ n∈ns,((lkD n.2.1 s).2==0)=true∧ns.foldl (U1 s) a=(true,(lkD n.2.1 s).1)
 |[],a => .inl rfl
 |n::ns,a=>by
  rw[Ym];rcases Fpa ns (U1 s a n) with e|⟨m,hm,h1,h2⟩
  ·rw[e];unfold U1
   cases hc:(lkD n.2.1 s).2==0 with
   |false=>exact .inl rfl
   |true=>
    rw[cond_true]
    cases !a.1||sle a.2.1 (lkD n.2.1 s).1.1 with
    |false=>exact .inl rfl
    |true=>exact .inr ⟨n,Yv,hc,rfl⟩
  ·exact .inr ⟨m,Vi _ hm,h1,h2⟩
def Vxa {ns:List Nod} {s:ByteArray} {T:Stp} (h:Vsa ns s T):(lat ns s).1=true∧(lat ns s).2.1=T:=by
 obtain⟨h1,m,hm,o,h2,h3⟩:=h;have ho:old (ns.getD m Au).2.1 s=some o:=h2;obtain⟨k1,k2⟩:=(Vqa (s:=s) ns (false,Z1)).2 _ (A4 (d:=Au) hm) (by rw[Z4a,ho];rfl);rw[Foa ho]at k2;refine⟨k1,?_⟩;rcases Fpa (s:=s) ns (false,Z1) with e|⟨n,hn,g1,g2⟩
 ·rw[e]at k1;cases k1
 ·obtain⟨j,hj,rfl⟩:=Zl.1 hn
  have e:ns[j]=ns.getD j Au:=by rw[Vb,Vk hj];rfl
  rw[e]at g1 g2;rw[Z4a]at g1;obtain⟨q,hq⟩:=Zd.1 g1;rw[Foa hq]at g2;have hb:=h1 j hj q hq;show (ns.foldl (U1 s) (false,Z1)).2.1=T;rw[g2]at k2 ⊢;rw[h3]at k2;exact Arb k2 hb
def Asb {ns:List Nod} {s:ByteArray} (h:∀ m,m<ns.length→oN ns m s=none):lat ns s=(false,Z1):=by
 rcases Fpa (s:=s) ns (false,Z1) with e|⟨n,hn,g1,_⟩
 ·exact e
 ·obtain⟨j,hj,rfl⟩:=Zl.1 hn
  have e:ns[j]=ns.getD j Au:=by rw[Vb,Vk hj];rfl
  rw[e,Z4a]at g1;have:=h j hj;unfold oN at this;rw[this]at g1;cases g1
def J2a {w:Wld} (h:WO w) (s:ByteArray):(lat (T8 w).2.2.1 s).1=(lat w.2.2.1 s).1∧(lat (T8 w).2.2.1 s).2.1=(lat w.2.2.1 s).2.1:=by
 have hL:=Vwa h s
 by_cases he:∃ i,i<w.2.2.1.length∧∃ f,oN w.2.2.1 i s=some f
 ·obtain⟨T,hT⟩:=Vta _ s he;obtain⟨a1,a2⟩:=Vxa hT;obtain⟨b1,b2⟩:=Vxa (hL.1 T hT);exact⟨by rw[a1,b1],by rw[a2,b2]⟩
 ·have hn:∀ m,m<w.2.2.1.length→oN w.2.2.1 m s=none:=λ m hm=>by
   cases hq:oN w.2.2.1 m s with
   |none=>rfl
   |some f=>exact absurd ⟨m,hm,f,hq⟩ he
  rw[Asb hn,Asb (hL.2 hn)];exact⟨rfl,rfl⟩

end Go.Proofs.YtiiekghlhfbmmaaGreat.Vf

section
set_option linter.unusedVariables false
set_option linter.unusedSimpArgs false
namespace Go.Proofs.YtiiekghlhfbmmaaGreat.Pure
open Go Go.RowKit Go.Proofs.YtiiekghlhfbmmaaGreat.Vf
theorem Cka (a:List Int) (hb:(a.length:Int)≤1048576):Tot (λ k=>Dz k a) (λ r=>WIp 201 r.1):=by
 unfold Dz;refine H5b (H7a a hb) ?_;intro c hc;refine H5b (Q:=λ w=>WIp 201 w) ?_ ?_
 ·unfold Lo;refine H5b (H7a a hb) ?_;intro c hc;obtain⟨n,e,n0,n1⟩:=Yza a hb 24 (by decide);refine H5b (Hgb (Q:=λ r=>r=n) e rfl) ?_;rintro n rfl;refine H5b (Qba c hc _ (by omega)) ?_;intro r hr;exact H4b hr.1
 ·intro w hw;obtain⟨y,c3,e3,_,_⟩:=Od c hc;refine H5b (Hgb (Q:=λ r=>r=(y,c3)) e3 rfl) ?_;rintro _ rfl;exact H4b hw
def lp (s:ByteArray) (f:Fil) (n:Nod):Bool:=((lkD n.2.1 s).2==0)&&decide ((lkD n.2.1 s).1=f)
theorem Z9a {α:Type} {p:α→Bool} {l:List α} {d:α} {j:Nat} (hj:j<l.length):(l.take (j+1)).any p=((l.take j).any p||p (l.getD j d)):=by
 rw[We hj,List.any_append,Irb,List.any_nil,K3b,Vb,Vk hj,Yq]
theorem Dcb (w:Wld) (hw:WIn w) (s:ByteArray) (hl:∀ n∈w.2.2.1,((lkD n.2.1 s).2==0)=true→(lkD n.2.1 s).1.2.2.length≤1000000):
  Tot (λ k=>B6 k s (lat w.2.2.1 s).1 false 0 w (lat w.2.2.1 s).2) (λ r=>r = .inr (s,(lat w.2.2.1 s).1,w.2.2.1.any (lp s (lat w.2.2.1 s).2),w,(lat w.2.2.1 s).2)):=by
 have hge:=(Vqa (s:=s) w.2.2.1 (false,Z1)).2;have hll:w.2.2.1.foldl (U1 s) (false,Z1)=lat w.2.2.1 s:=rfl;rw[hll]at hge;generalize lat w.2.2.1 s=q at *;obtain⟨ok,f⟩:=q;dsimp only at hge ⊢;have hlen:=hw.2.2.1.1;refine Hdb (L:=λ k j (b:Bool)=>B6 k s ok b j w f) (Q:=λ r=>r = .inr (s,ok,w.2.2.1.any (lp s f),w,f)) w.2.2.1.length (λ j b=>b=(w.2.2.1.take j).any (lp s f)) ?_ ?_ 0 false (Nat.zero_le _) rfl
 ·rintro b rfl;simp (disch:=omega) only [B6,dF];exact H4b (by rw[Yn])
 ·rintro j b hj hb next;rw[Z9a (d:=Au) hj,← hb]at next;clear hb;have hmem:=A4 (d:=Au) hj;have hm:=hw.2.2.1.2 _ hmem;have hg:=hge _ hmem;have hf:=hl _ hmem;obtain⟨n,en⟩:∃ n:Nod,w.2.2.1.getD j Au=n:=⟨_,rfl⟩;rw[en]at hm next hg hf;have e0:w.2.2.1.getD j ((0:Int),(([],[]),([],[])))=n:=en;simp (disch:=omega) only [B6,dT,Vc,w64,e0];refine Hfb (Z3 hm.1.1.1.1.1 hm.1.2.1 s) ?_;unfold lp at next
  cases hc:(lkD n.2.1 s).2==0 with
  |false=>
   rw[hc]at next;refine H6b rfl ?_
   cases b with
   |true=>exact H7b rfl (next _ rfl)
   |false=>exact H6b rfl (H6b rfl (next _ rfl))
  |true=>
   rw[hc,Vz]at next;obtain⟨g1,g2⟩:=hg hc;refine H7b rfl (H6b (by rw[g1];rfl) ?_);simp only[Bba,Vn];refine H6b g2 ?_
   cases b with
   |true=>exact H7b rfl (next _ rfl)
   |false=>
    refine H6b rfl (H7b rfl (H5b (I1a (lkD n.2.1 s).1 f (by have:=hf hc;omega)) ?_));rintro _ rfl;exact next _ rfl
theorem Zaa {d:Dsk} {s:ByteArray} (hd:((lkD d s).2==0)=true):(lkD d s).1.2.2.length≤1000000:=by
 rw[Z4a]at hd;obtain⟨o,ho⟩:=Zd.1 hd;rw[Foa ho];unfold old at ho
 cases hg:gt d.1 s with
 |none=>rw[hg]at ho;cases ho
 |some b=>
  rw[hg]at ho;have:=(Kg.1 (Bda ho).1).2.1;dsimp only;omega
theorem FnLatest:∀ (a0:List Int),Ty.fit ti (.sl 5 (.i .u8)) a0→∃ k,Es k a0=some true:=by
 intro a0 _;refine Tot.law (f:=λ k=>Es k a0) ?_;unfold Es O9;refine H5b (H4b (Q:=λ b=>b=decide ((List.length a0:Int) > 1048576)) rfl) ?_;rintro b rfl;refine Hbb (λ _=>H4b rfl) (λ hb=>?_);refine H5b (Cka a0 (by omega)) ?_;rintro⟨w,s⟩ h;dsimp only at h ⊢;have hm:=h.1;have hw:=hm.win (by decide);refine H5b (X8 w hw s) ?_;rintro _ rfl;refine H5b (Qda w hw s) ?_;rintro _ rfl;refine H6b (by rw[beq_self_eq_true];rfl) (H5b (Dcb w hw s (λ n hn hg=>Zaa hg)) ?_);rintro _ rfl
 have hin:w.2.2.1.any (lp s (lat w.2.2.1 s).2)=(lat w.2.2.1 s).1:=by
  rw[Ieb,Ikb];constructor
  ·rintro⟨n,hn,hp⟩;unfold lp at hp;rw[Va]at hp;exact Oja (s:=s) w.2.2.1 (false,Z1) (.inr ⟨n,hn,hp.1⟩)
  ·intro ht;rcases Fpa (s:=s) w.2.2.1 (false,Z1) with e|⟨n,hn,g1,e⟩
   ·have e':lat w.2.2.1 s=(false,Z1):=e;rw[e']at ht;cases ht
   ·have e':lat w.2.2.1 s=(true,(lkD n.2.1 s).1):=e;refine⟨n,hn,?_⟩;unfold lp;rw[g1,e',Vz];exact decide_eq_true rfl
 refine H6b (by dsimp only;rw[hin,beq_self_eq_true];rfl) (H5b (Qfa hm (by decide)) ?_);rintro _ rfl
 cases hk:Xz w with
 |false=>
  have e:Dta w=w:=by unfold Dta;rw[hk];rfl
  rw[e];refine H5b (X8 w hw s) ?_;rintro _ rfl;refine H5b (Ila w hw) ?_;rintro _ rfl;exact H7b (by rw[hk];rfl) (H4b rfl)
 |true=>
  have e:Dta w=T8 w:=by unfold Dta;rw[hk];rfl
  rw[e];have ho:=hm.wo hk;have hn:=Z3a ho;have ho':=hn.wo ho;have hm':WIm 201 (T8 w):=ho'.wim (by decide) (by rw[hn.sp];exact hm.2.2.2.2.1);refine H5b (X8 _ (hm'.win (by decide)) s) ?_;rintro _ rfl;refine H5b (Ila w hw) ?_;rintro _ rfl;obtain⟨l1,l2⟩:=J2a ho s;refine H6b (by rw[hk];rfl) (H7b (by dsimp only;rw[l1,beq_self_eq_true]) (H4b ?_));dsimp only;rw[l2,beq_self_eq_true,beq_self_eq_true,beq_self_eq_true];rfl
end Go.Proofs.YtiiekghlhfbmmaaGreat.Pure
end
