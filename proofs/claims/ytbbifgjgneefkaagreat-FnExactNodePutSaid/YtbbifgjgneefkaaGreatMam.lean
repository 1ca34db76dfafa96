import Derived.Test.YtbbifgjgneefkaaGreatMal
import Derived.Test.YtbbifgjgneefkaaGreatMaj
import Derived.Test.YtbbifgjgneefkaaGreatMak
set_option linter.all false
namespace Go.Proofs.YtbbifgjgneefkaaGreat.Vf
open Go
open List (length getD)
open Int (toNat)
open Go.IntKind (wrap)
open BitVec (ofInt)
def Ssa:=@List.getElem?_set
def T8a:=@Int.le_trans

def SzR (n:Int) (B:Prop) (r:Int):Prop:=r<0∨(0≤r∧r≤n∧B)
abbrev K4a:Nat:=140737488351232
abbrev I3:Int:=1048576
def SzR.then {f:Nat→Option Int} {g:Int→Nat→Option Int} {n:Int} {B C:Prop} (hf:Tot f (SzR n B)) (hg:∀ r,0≤r→r≤n→Tot (g r) (SzR r C)):
  Tot (λ k=>(f k).bind λ r=>cond (decide (r<0)) (some (-1)) (g r k)) (SzR n (B∧C)):=by
 refine R6a hf ?_;intro r hr;refine Rca (λ h=>R5a (.inl (by decide))) (λ h=>?_);rcases hr with hr|⟨h0,h1,hB⟩
 ·exact absurd hr h
 ·refine(hg r h0 h1).mono ?_;rintro q (hq|⟨q0,q1,hC⟩)
  ·exact .inl hq
  ·exact .inr ⟨q0,by omega,hB,hC⟩
def SzR.last {f:Nat→Option Int} {n:Int} {B:Prop} (hf:Tot f (SzR n B)):Tot (λ k=>(f k).bind λ r=>cond (decide (r<0)) (some (-1)) (some r)) (SzR n B):=by
 refine R6a hf ?_;intro r hr;exact Rca (λ h=>R5a (.inl (by decide))) (λ h=>R5a hr)
def SzR.imp {f:Nat→Option Int} {n:Int} {B C:Prop} (hf:Tot f (SzR n B)) (h:B→C):Tot f (SzR n C):=
 hf.mono (by rintro r (hr|⟨h0,h1,hB⟩);exact .inl hr;exact .inr ⟨h0,h1,h hB⟩)
def K5a {f:Nat→Option Int} {n:Int} {m:Nat} {C:Prop} (hm:m≤K4a) (h0:0≤n) (h1:n≤I3) (hf:(m:Int)≤I3→0≤n-(m:Int)→Tot f (SzR (n-(m:Int)) C)):
  Tot (λ k=>cond (decide ((wrap .i64 (n-(m:Int)))<0)) (some (-1)) (f k)) (SzR n ((m:Int)≤I3∧C)):=by
 simp only[K4a]at hm;simp only[I3]at h1 hf ⊢;rw[w64 (n:=n-(m:Int)) (by omega) (by omega)];refine Rca (λ h=>R5a (.inl (by decide))) (λ h=>?_);refine(hf (by omega) (by omega)).mono ?_;rintro q (hq|⟨q0,q1,hC⟩)
 ·exact .inl hq
 ·exact .inr ⟨q0,by omega,by omega,hC⟩
def L6a {n:Int} {m:Nat} (hm:m≤K4a) (h0:0≤n) (h1:n≤I3):
  Tot (λ _=>cond (decide ((wrap .i64 (n-(m:Int)))<0)) (some (-1)) (some (wrap .i64 (n-(m:Int))))) (SzR n ((m:Int)≤I3)):=by
 refine(K5a (C:=True) hm h0 h1 (λ h2 h3=>R5a ?_)).mono ?_
 ·simp only[K4a]at hm;simp only[I3]at h1 h2;rw[w64 (n:=n-(m:Int)) (by omega) (by omega)];exact .inr ⟨h3,Int.le_refl _,trivial⟩
 ·rintro r (hr|⟨a,b,c,_⟩)
  ·exact .inl hr
  ·exact .inr ⟨a,b,c⟩
def L7a {α:Type} (d:α) (l:List α) (B:α→Prop) {L:Nat→Int→Int→Option (Sum Int Int)}
  (hend:∀ s,Tot (λ k=>L (k+1) s (l.length:Int)) (λ r=>r = .inr s))
  (Qu:∀ (j:Nat) (s:Int) (Q:Sum Int Int→Prop),j<l.length→0≤s→s≤I3→(∀ r,r<0→Q (.inl r))→(∀ r,SzR s (B (l.getD j d)) r→0≤r→Tot (λ k=>L k r ((j:Int)+1)) Q)→Tot (λ k=>L (k+1) s (j:Int)) Q)
  {n:Int} (h0:0≤n) (h1:n≤I3):Tot (λ k=>(L k n 0).bind λ r1=>Sum.elim (λ y2=>some y2) (λ z3=>some z3) r1) (SzR n (∀ x∈l,B x)):=by
 refine R6a (Q:=λ r=>(∃ s,s<0∧r = .inl s)∨∃ s,r = .inr s∧0≤s∧s≤n∧∀ i,i<l.length→B (l.getD i d)) ?_ ?_
 ·refine Rea (L:=λ k i (s:Int)=>L k s i) l.length (λ j s=>0≤s∧s≤n∧∀ i,i<j→B (l.getD i d)) ?_ ?_ 0 n (Wf _) ⟨h0,Int.le_refl _,λ i hi=>by omega⟩
  ·rintro s ⟨a,b,c⟩;exact(hend s).mono (by rintro r rfl;exact .inr ⟨s,rfl,a,b,c⟩)
  ·rintro j s hj ⟨a,b,c⟩ next;refine Qu j s _ hj a (by omega) (λ r hr => .inl ⟨r,hr,rfl⟩) (λ r hr h=>next r ?_);rcases hr with hr|⟨_,h2,h3⟩
   ·omega
   ·refine⟨h,by omega,λ i hi=>?_⟩
    by_cases e:i=j
    ·subst e;exact h3
    ·exact c i (by omega)
 ·rintro r (⟨s,hs,rfl⟩|⟨s,rfl,a,b,c⟩)
  ·exact R5a (.inl hs)
  ·refine R5a (.inr ⟨a,b,λ x hx=>?_⟩);obtain⟨i,hi,rfl⟩:=List.mem_iff_getElem.1 hx;have:=c i hi;rwa [Vn,Vs hi,Zc]at this
abbrev SmT (s:ByteArray):Prop:=(s.size:Int)≤I3
abbrev SmL {α:Type} (l:List α):Prop:=(l.length:Int)≤I3
abbrev HgT (s:ByteArray):Prop:=s.size≤K4a
abbrev HgL {α:Type} (l:List α):Prop:=l.length≤K4a
def Haa (x:Nmd):Prop:=HgT x.1∧HgL x.2
def Lh (l:List Nmd):Prop:=HgL l∧∀ x∈l,Haa x
def P4a (x:Row):Prop:=HgT x.1
def C3a (l:List Row):Prop:=HgL l∧∀ x∈l,P4a x
def L8a (x:Nod):Prop:=(Lh x.2.1.1∧Lh x.2.1.2)∧C3a x.2.2.1∧C3a x.2.2.2
def Qg (x:Nmd):Prop:=SmT x.1∧SmL x.2
def Fo (l:List Nmd):Prop:=SmL l∧∀ x∈l,Qg x
def N8a (x:Row):Prop:=SmT x.1
def Oa (l:List Row):Prop:=SmL l∧∀ x∈l,N8a x
def Ob (x:Nod):Prop:=(Fo x.2.1.1∧Fo x.2.1.2)∧Oa x.2.2.1∧Oa x.2.2.2
def Rq (l:List Int) (h:HgL l) {n:Int} (h0:0≤n) (h1:n≤I3):Tot (λ _=>Dw l n) (SzR n (SmL l)):=L6a h h0 h1
def K6a (x:Row) (h:P4a x) {n:Int} (h0:0≤n) (h1:n≤I3):Tot (λ _=>Gj x n) (SzR n (N8a x)):=L6a h h0 h1
def Hba (x:Fil) (h:HgL x.2.2) {n:Int} (h0:0≤n) (h1:n≤I3):Tot (λ _=>Fs x n) (SzR n (SmL x.2.2)):=SzR.last (Rq x.2.2 h h0 h1)
def Dfa (x:Nmd) (h:Haa x) {n:Int} (h0:0≤n) (h1:n≤I3):Tot (λ _=>F3 x n) (SzR n (Qg x)):=
 K5a h.1 h0 h1 (λ h2 h3=>by
  have hh:=h.1;simp only[HgT,K4a,I3]at hh h1;rw[w64 (n:=n-(x.1.size:Int)) (by omega) (by omega)]
  exact SzR.last (Rq x.2 h.2 h3 (by simp only[I3];omega)))
def Qh (l:List Nmd) (h:Lh l) {n:Int} (h0:0≤n) (h1:n≤I3):Tot (λ k=>B1 k l n) (SzR n (Fo l)):=by
 have hh:=h.1;unfold B1;refine K5a h.1 h0 h1 (λ h2 h3=>?_);simp only[HgL,K4a,I3]at hh h1;rw[w64 (n:=n-(l.length:Int)) (by omega) (by omega)];refine L7a Et l Qg ?_ ?_ h3 (by simp only[I3];omega)
 ·intro s;simp (disch:=omega) only [Cl,dF];exact R5a rfl
 ·intro j s Q hj s0 s1 no yes;have hm:=h.2 _ (Cu (d:=Et) hj);have e0:l.getD j ((⟨#[]⟩:ByteArray),[])=l.getD j Et:=rfl;simp (disch:=omega) only [Cl,dT,Vm,w64,e0];refine R6a (Dfa (l.getD j Et) hm s0 s1) ?_;intro r hr;exact Rca (λ hc=>R5a (no _ (by decide))) (λ hc=>yes r hr (by omega))
def Wt (l:List Row) (h:C3a l) {n:Int} (h0:0≤n) (h1:n≤I3):Tot (λ k=>Ca k l n) (SzR n (Oa l)):=by
 have hh:=h.1;unfold Ca;refine K5a h.1 h0 h1 (λ h2 h3=>?_);simp only[HgL,K4a,I3]at hh h1;rw[w64 (n:=n-(l.length:Int)) (by omega) (by omega)];refine L7a N7a l N8a ?_ ?_ h3 (by simp only[I3];omega)
 ·intro s;simp (disch:=omega) only [Dz,dF];exact R5a rfl
 ·intro j s Q hj s0 s1 no yes;have hm:=h.2 _ (Cu (d:=N7a) hj);have e0:l.getD j ((⟨#[]⟩:ByteArray),(((0:Int),((0:Int),(0:Int))),(false,(0:Int))))=l.getD j N7a:=rfl;simp (disch:=omega) only [Dz,dT,Vm,w64,e0];refine R6a (K6a (l.getD j N7a) hm s0 s1) ?_;intro r hr;exact Rca (λ hc=>R5a (no _ (by decide))) (λ hc=>yes r hr (by omega))
def Hca (x:Dsk) (h:Lh x.1∧Lh x.2) {n:Int} (h0:0≤n) (h1:n≤I3):Tot (λ k=>Fp k x n) (SzR n (Fo x.1∧Fo x.2)):=
 SzR.then (Qh x.1 h.1 h0 h1) (λ r r0 r1=>SzR.last (Qh x.2 h.2 r0 (T8a r1 h1)))
def Hda (x:Nod) (h:L8a x) {n:Int} (h0:0≤n) (h1:n≤I3):Tot (λ k=>Fq k x n) (SzR n (Ob x)):=
 SzR.then (Hca x.2.1 h.1 h0 h1) (λ r r0 r1=>SzR.then (Wt x.2.2.1 h.2.1 r0 (T8a r1 h1)) (λ q q0 q1=>SzR.last (Wt x.2.2.2 h.2.2 q0 (T8a q1 (T8a r1 h1)))))
def Hea {α:Type} {l s:List α} {j:Nat} {z d:α} (hj:j<l.length) (h:s=l.take j++List.replicate (l.length-j) z):s.set j (l.getD j d)=l.take (j+1)++List.replicate (l.length-(j+1)) z:=by
 have hl:(l.take j).length=j:=by rw[Vl];omega
 rw[h,show l.length-j=(l.length-(j+1))+1 by omega,Rra,List.set_append_right _ _ (by omega),hl,Tca,List.set_cons_zero,List.take_succ_eq_append_getElem hj,Vj,Vn,Vs hj];rfl
def Hfa {α:Type} (d z:α) (l:List α) {L:Nat→List α→Int→Option (List α)} (hend:∀ s,Tot (λ k=>L (k+1) s (l.length:Int)) (λ r=>r=s))
  (Qu:∀ (j:Nat) (s:List α) (Q:List α→Prop),j<l.length→s.length=l.length→Tot (λ k=>L k (s.set j (l.getD j d)) ((j:Int)+1)) Q→Tot (λ k=>L (k+1) s (j:Int)) Q):
  Tot (λ k=>L k (List.replicate l.length z) 0) (λ r=>r=l):=by
 refine Rea (L:=λ k i (s:List α)=>L k s i) l.length (λ j s=>s=l.take j++List.replicate (l.length-j) z) ?_ ?_ 0 _ (Wf _) (by rw[Rka,Wc,S9a])
 ·rintro s h;rw[Tca,Sba,List.replicate_zero,Yf]at h;exact(hend s).mono (by rintro r rfl;exact h)
 ·rintro j s hj h next;refine Qu j s _ hj ?_ (next _ (Hea hj h));rw[h,Vh,Vl,T3a];omega
def Hga {n:Nat} {R:Type} {e:R} {L:Nat→Int→Option R} (hend:Tot (λ k=>L (k+1) (n:Int)) (λ r=>r=e)) (Qu:∀ (j:Nat) (Q:R→Prop),j<n→Tot (λ k=>L k ((j:Int)+1)) Q→Tot (λ k=>L (k+1) (j:Int)) Q):
  Tot (λ k=>L k 0) (λ r=>r=e):=
 Rea (L:=λ k i (_:Unit)=>L k i) n (λ _ _=>True) (λ _ _=>hend) (λ j _ hj _ next=>Qu j _ hj (next () trivial)) 0 () (Wf _) trivial
def Rr (l:List Int) (h:SmL l):Tot (λ k=>Ce k l) (λ r=>r=l):=by
 have hl:(l.length:Int)≤1048576:=h;unfold Ce;simp (disch:=omega) only [dT,Vm];refine R6a (Q:=λ r=>r=l) ?_ (by rintro r rfl;exact R5a rfl);refine Hfa (L:=λ k s i=>Cd k l s i) (0:Int) _ l ?_ ?_
 ·intro s;simp (disch:=omega) only [Cd,dF];exact R5a rfl
 ·intro j s Q hj hs next;simp (disch:=omega) only [Cd,dT,Vm,w64];exact next
def Dga (x:Nmd) (h:Qg x):Tot (λ k=>F4 k x) (λ r=>r=x):=R6a (Rr x.2 h.2) (by rintro r rfl;exact R5a rfl)
def Qi (l:List Nmd) (h:Fo l):Tot (λ k=>B3 k l) (λ r=>r=l):=by
 have hl:(l.length:Int)≤1048576:=h.1;unfold B3;simp (disch:=omega) only [dT,Vm];refine R6a (Q:=λ r=>r=l) ?_ (by rintro r rfl;exact R5a rfl);refine Hfa (L:=λ k s i=>Bt k l s i) Et _ l ?_ ?_
 ·intro s;simp (disch:=omega) only [Bt,dF];exact R5a rfl
 ·intro j s Q hj hs next;have e0:l.getD j ((⟨#[]⟩:ByteArray),[])=l.getD j Et:=rfl;simp (disch:=omega) only [Bt,dT,Vm,w64,e0];refine R6a (Dga _ (h.2 _ (Cu (d:=Et) hj))) ?_;rintro r rfl;exact next
def Hha (x:Dsk) (h:Fo x.1∧Fo x.2):Tot (λ k=>Fu k x) (λ r=>r=x):=R6a (Qi x.1 h.1) (by rintro r rfl;exact R6a (Qi x.2 h.2) (by rintro r rfl;exact R5a rfl))
def Wu (l:List Row) (h:Oa l):Tot (λ k=>Cf k l) (λ r=>r=l):=by
 have hl:(l.length:Int)≤1048576:=h.1;unfold Cf;simp (disch:=omega) only [dT,Vm];refine R6a (Q:=λ r=>r=l) ?_ (by rintro r rfl;exact R5a rfl);refine Hfa (L:=λ k s i=>Df k l s i) N7a _ l ?_ ?_
 ·intro s;simp (disch:=omega) only [Df,dF];exact R5a rfl
 ·intro j s Q hj hs next;have e0:l.getD j ((⟨#[]⟩:ByteArray),(((0:Int),((0:Int),(0:Int))),(false,(0:Int))))=l.getD j N7a:=rfl;simp (disch:=omega) only [Df,dT,Vm,w64,e0,Gl,D7,Vv];exact next
def Hia (x:Nod) (h:Ob x):Tot (λ k=>Ed k x) (λ r=>r=x):=R6a (Hha x.2.1 h.1) (by rintro r rfl;exact R6a (Wu _ h.2.1) (by rintro r rfl;exact R6a (Wu _ h.2.2) (by rintro r rfl;exact R5a rfl)))
def Hja (x:Fil) (h:SmL x.2.2):Tot (λ k=>E5 k x) (λ r=>r=x):=by
 unfold E5 D7;simp only[Vv];exact R6a (Rr x.2.2 h) (by rintro r rfl;exact R5a rfl)
def K7a (x:Int):(x != x)=false:=by rw[bne,beq_self_eq_true];rfl
def Qta (s:ByteArray):(s.toList==s.toList)=true:=beq_self_eq_true _
def Rs (x:Stp):D9 x x=some true:=by
 unfold D9;rw[K7a,K7a,K7a];rfl
def Rt (l:List Int) (h:SmL l):Tot (λ k=>Ci k l l) (λ r=>r=true):=by
 have hl:(l.length:Int)≤1048576:=h;unfold Ci;refine R7a (K7a _) (R6a (Q:=λ r=>r = .inr ()) ?_ (by rintro r rfl;exact R5a rfl));refine Hga (L:=λ k i=>Ch k l l i) (n:=l.length) ?_ ?_
 ·simp (disch:=omega) only [Ch,dF];exact R5a rfl
 ·intro j Q hj next;simp (disch:=omega) only [Ch,dT,Vm,w64];exact R7a (K7a _) next
def Dha (x:Nmd) (h:Qg x):Tot (λ k=>F5 k x x) (λ r=>r=true):=R7a (by rw[Qta];rfl) (R6a (Rt x.2 h.2) (by rintro r rfl;exact R5a rfl))
def Qj (l:List Nmd) (h:Fo l):Tot (λ k=>B5 k l l) (λ r=>r=true):=by
 have hl:(l.length:Int)≤1048576:=h.1;unfold B5;refine R7a (K7a _) (R6a (Q:=λ r=>r = .inr ()) ?_ (by rintro r rfl;exact R5a rfl));refine Hga (L:=λ k i=>Bv k l l i) (n:=l.length) ?_ ?_
 ·simp (disch:=omega) only [Bv,dF];exact R5a rfl
 ·intro j Q hj next;have e0:l.getD j ((⟨#[]⟩:ByteArray),[])=l.getD j Et:=rfl;simp (disch:=omega) only [Bv,dT,Vm,w64,e0];refine R6a (Dha _ (h.2 _ (Cu (d:=Et) hj))) ?_;rintro r rfl;exact R7a rfl next
def Hka (x:Dsk) (h:Fo x.1∧Fo x.2):Tot (λ k=>Fv k x x) (λ r=>r=true):=R6a (Qj x.1 h.1) (by rintro r rfl;exact R7a rfl (R6a (Qj x.2 h.2) (by rintro r rfl;exact R5a rfl)))
def K8a (x:Row):G5 x x=some true:=by
 unfold G5;rw[Qta,Rs,beq_self_eq_true,K7a];rfl
def Wv (l:List Row) (h:Oa l):Tot (λ k=>Cj k l l) (λ r=>r=true):=by
 have hl:(l.length:Int)≤1048576:=h.1;unfold Cj;refine R7a (K7a _) (R6a (Q:=λ r=>r = .inr ()) ?_ (by rintro r rfl;exact R5a rfl));refine Hga (L:=λ k i=>Dj k l l i) (n:=l.length) ?_ ?_
 ·simp (disch:=omega) only [Dj,dF];exact R5a rfl
 ·intro j Q hj next;have e0:l.getD j ((⟨#[]⟩:ByteArray),(((0:Int),((0:Int),(0:Int))),(false,(0:Int))))=l.getD j N7a:=rfl;simp (disch:=omega) only [Dj,dT,Vm,w64,e0,K8a,Vv];exact R7a rfl next
def Ww (x:Nod) (h:Ob x):Tot (λ k=>Ee k x x) (λ r=>r=true):=R7a (K7a _) (R6a (Hka x.2.1 h.1) (by rintro r rfl;exact R7a rfl (R6a (Wv _ h.2.1) (by rintro r rfl;exact R7a rfl (R6a (Wv _ h.2.2) (by rintro r rfl;exact R5a rfl))))))
def Hla (x:Fil) (h:SmL x.2.2):Tot (λ k=>Fa k x x) (λ r=>r=true):=by
 unfold Fa;simp only[Rs,Vv];exact R7a rfl (R7a (by rw[beq_self_eq_true];rfl) (R6a (Rt x.2.2 h) (by rintro r rfl;exact R5a rfl)))
def ByN (l:List Nmd):Prop:=∀ x∈l,Az x.2
def M6 {l:List Nmd} (h:Fo l):(V9 l∧J9 l)∧l.length≤2000000:=by
 have h1:(l.length:Int)≤1048576:=h.1;refine⟨⟨⟨by omega,λ x hx=>?_⟩,λ x hx=>?_⟩,by omega⟩
 ·have:(x.2.length:Int)≤1048576:=(h.2 x hx).2;omega
 ·have:(x.1.size:Int)≤1048576:=(h.2 x hx).1;show x.1.size≤_;omega
def C4a {l:List Row} (h:Oa l):RF l:=by
 have h1:(l.length:Int)≤1048576:=h.1;refine⟨by omega,λ x hx=>?_⟩;have:(x.1.size:Int)≤1048576:=h.2 x hx;show x.1.size≤_;omega

abbrev Jv:Nat:=1000000000000000
def Th {α:Type} (w:α→Nat):List α→Nat
 |[]=>0
 |x::l=>w x+Th w l
def MH {α:Type} (m:Nat→α→Int→Option (Int×α)) (h:Nat→α→Int→Option Int) (b:Nat) (x:α):Prop:=∀ k:Nat,k+b≤Jv→
 Tot (λ f=>m f x (k:Int)) (λ r=>∃ n:Nat,n≤b∧r.1=((k+n:Nat):Int)∧Tot (λ f=>h f r.2 (k:Int)) (λ q=>q=((k+n:Nat):Int)))
def Hma {α:Type} (d:α) (M:Nat→Int→Int→List α→Option (Int×List α)) (H:Nat→List α→Int→Int→Option (Sum Int Int)) (l:List α) (w:α→Nat)
  (hMend:∀ (x:Int) (s:List α),s.length=l.length→Tot (λ f=>M (f+1) x (l.length:Int) s) (λ r=>r=(x,s)))
  (hHend:∀ (s:List α) (x:Int),Tot (λ f=>H (f+1) s x (s.length:Int)) (λ r=>r = .inr x))
  (Qu:∀ (j k:Nat) (s:List α),j<l.length→s.length=l.length→s.getD j d=l.getD j d→k+w (l.getD j d)≤Jv→
   ∀ Q:Int×List α→Prop,(∀ (n:Nat) (y:α),n≤w (l.getD j d)→(∀ (s':List α) (Q':Sum Int Int→Prop),j<s'.length→s'.getD j d=y→Tot (λ f=>H f s' ((k+n:Nat):Int) ((j:Int)+1)) Q'→Tot (λ f=>H (f+1) s' (k:Int) (j:Int)) Q')→Tot (λ f=>M f ((k+n:Nat):Int) ((j:Int)+1) (s.set j y)) Q)→Tot (λ f=>M (f+1) (k:Int) (j:Int) s) Q)
  {k:Nat} (hk:k+Th w l≤Jv):Tot (λ f=>M f (k:Int) 0 l) (λ r=>∃ n:Nat,n≤Th w l∧r.1=((k+n:Nat):Int)∧r.2.length=l.length∧Tot (λ f=>H f r.2 (k:Int) 0) (λ q=>q = .inr ((k+n:Nat):Int))):=by
 have main:∀ (c j n:Nat) (s:List α),l.length-j=c→j≤l.length→s.length=l.length→s.drop j=l.drop j→n+Th w (l.drop j)≤Th w l→
   (∀ (s':List α) (Q:Sum Int Int→Prop),s'.length=l.length→s'.take j=s.take j→Tot (λ f=>H f s' ((k+n:Nat):Int) (j:Int)) Q→Tot (λ f=>H f s' (k:Int) 0) Q)→
   Tot (λ f=>M f ((k+n:Nat):Int) (j:Int) s) (λ r=>∃ n:Nat,n≤Th w l∧r.1=((k+n:Nat):Int)∧r.2.length=l.length∧Tot (λ f=>H f r.2 (k:Int) 0) (λ q=>q = .inr ((k+n:Nat):Int))):=by
  intro c
  induction c with
  |zero=>
   intro j n s hc hj hs hd hn hp
   have e:j=l.length:=by omega
   subst e;refine Tot.succ ((hMend _ s hs).mono ?_);rintro r rfl;refine⟨n,by omega,rfl,hs,hp s _ hs rfl (Tot.succ ?_)⟩;have:=hHend s ((k+n:Nat):Int);rw[hs]at this;exact this
  |succ c ih=>
   intro j n s hc hj hs hd hn hp
   have hlt:j<l.length:=by omega
   have hcons:l.drop j=l.getD j d::l.drop (j+1):=by
    rw[Vn,Vs hlt,Zc];exact Yj hlt
   have hsj:s.getD j d=l.getD j d:=by
    have:=congrArg (λ x=>x.getD 0 d) hd
    simpa[Vn,Ya] using this
   rw[hcons]at hn;have hn':n+(w (l.getD j d)+Th w (l.drop (j+1)))≤Th w l:=hn;refine Tot.succ (Qu j (k+n) s hlt hs hsj (by omega) _ (λ m y hm hh=>?_));rw[show k+n+m=k+(n+m) by omega]
   have hjj:(j:Int)+1=((j+1:Nat):Int):=by omega
   rw[hjj];refine ih (j+1) (n+m) (s.set j y) (by omega) (by omega) (by rw[Yl];exact hs) ?_ (by omega) (λ s' Q h1 h2 h3=>?_)
   ·rw[List.drop_set_of_lt (by omega)];have:=congrArg (List.drop 1) hd;rw[Wp,Wp]at this;exact this
   ·refine hp s' Q h1 ?_ ?_
    ·have:=congrArg (List.take j) h2;rw[Zm,Zm,Zf (by omega),List.take_set_of_le (by omega)]at this;exact this
    ·refine Tot.succ (hh s' Q (by omega) ?_ ?_)
     ·have:=congrArg (λ x=>x.getD j d) h2
      have hj1:j<s.length:=by omega
      simpa[Vn,Wg,Ssa,hj1] using this
     ·rw[hjj,show k+n+m=k+(n+m) by omega];exact h3
 have:=main l.length 0 0 l (by omega) (Wf _) rfl rfl (by rw[We];omega) (λ s' Q _ _ h=>h);exact this
def Tc {α:Type}:∀ l:List α,Th (λ _=>1) l=l.length
 |[]=>rfl
 |x::l=>by rw[Th,Tc l,Vg,Zd]
def Hna (l:List Int) (hl:l.length≤1000000000000):MH Ba Cq l.length l:=by
 intro k hk
 have h:=Hma (0:Int) (λ f x i s=>Bm f x i s) (λ f s x i=>Bn f s x i) l (λ _=>1)
  (λ x s hs=>by simp only[Bm];exact Raa (by omega) (R5a rfl))
  (λ s x=>by simp only[Bn];exact Raa (by omega) (R5a rfl))
  (λ j k s hj hs hsj hk Q next=>by
   simp only[Bm,Jv]at hk ⊢;refine R9a (by omega) (R9a (by omega) (R9a (by omega) ?_));rw[show toNat (j:Int)=j from Vm j,w64 (n:=(j:Int)+1) (by omega) (by omega),w64 (n:=(k:Int)+1) (by omega) (by omega)];refine next 1 (wrap .u8 (k:Int)) (Vq _) (λ s' Q' hj' hy h=>?_);simp only[Bn];refine R9a (by omega) (R9a (by omega) (R9a (by omega) ?_));rw[show toNat (j:Int)=j from Vm j,w64 (n:=(j:Int)+1) (by omega) (by omega),w64 (n:=(k:Int)+1) (by omega) (by omega)];refine R7a (by rw[hy,bne,beq_self_eq_true];rfl) ?_
   exact h) (k:=k) (by rw[Tc];exact hk)
 unfold Ba;refine R6a h ?_;rintro⟨r1,r2⟩ ⟨n,hn,rfl,hlen,hh⟩;rw[Tc]at hn;refine R5a ⟨n,hn,rfl,?_⟩;unfold Cq;refine R6a hh ?_;rintro _ rfl;exact R5a rfl
def A7a:∀ (m:Nat) (x:Nat) (t:ByteArray),x<10 ^ m→x≤Jv→t.size+m≤1000000→Tot (λ f=>Bw f (x:Int) t) (λ r=>r.size≤t.size+m):=by
 intro m
 induction m with
 |zero=>
  intro x t hx hx2 ht
  have:x=0:=by simpa using hx
  subst this;refine Tot.succ ?_;simp only[Bw];exact Raa (by omega) (R5a (by omega))
 |succ m ih=>
  intro x t hx hx2 ht;simp only[Jv]at hx2;refine Tot.succ ?_;simp only[Bw];refine Rca (λ h=>?_) (λ h=>R5a (by omega))
  have hs:(H0 [wrap .u8 (wrap .i64 (48+(Int.tmod (x:Int) 10)))]).size=1:=by rw[Ib];rfl
  refine Rda (by rw[hs];omega) ?_
  have hq:Int.tdiv (x:Int) 10=((x/10:Nat):Int):=by
   rw[Sha (by omega)];omega
  have hxx:x<10*10 ^ m:=by rw[Zi,Tda]at hx;exact hx
  rw[hq,w64 (by omega) (by omega)];refine(ih (x/10) _ (by omega) (by simp only[Jv];omega) ?_).mono ?_
  ·rw[ByteArray.size_append,hs];omega
  ·intro r hr;rw[ByteArray.size_append,hs]at hr;omega
def A8a (k:Nat) (hk:k≤Jv):Tot (λ f=>Ap f (k:Int)) (λ _=>True):=by
 unfold Ap;refine Rca (λ h=>R5a trivial) (λ h=>?_);refine R6a (A7a 17 k _ (by simp only[Jv]at hk;omega) hk (by decide)) ?_;intro r hr;have h0:(⟨#[]⟩:ByteArray).size=0:=rfl;have h1:(⟨#[109]⟩:ByteArray).size=1:=rfl;rw[h0]at hr;exact Rda (by rw[h1];omega) (R5a trivial)
def Oc (k:Nat) (hk:k≤Jv):∃ t,Tot (λ f=>Ap f (k:Int)) (λ r=>r=t):=by
 obtain⟨t,K,h,_⟩:=A8a k hk;exact⟨t,t,K,h,rfl⟩
abbrev K9a (x:Nmd):Nat:=1+x.2.length
def C5a (l:List Nmd) (hl:l.length≤1000000000000) (hb:∀ x∈l,x.2.length≤1000000000000):MH Aq Ar (Th K9a l) l:=by
 intro k hk
 have h:=Hma Et (λ f x i s=>B6 f x i s) (λ f s x i=>B7 f s x i) l K9a
  (λ x s hs=>by simp only[B6];exact Raa (by omega) (R5a rfl))
  (λ s x=>by simp only[B7];exact Raa (by omega) (R5a rfl))
  (λ j k s hj hs hsj hk Q next=>by
   have e0:∀ (z:List Nmd) (i:Nat),z.getD i ((⟨#[]⟩:ByteArray),([]:List Int))=z.getD i Et:=λ _ _=>rfl
   have hjl:(l.getD j Et).2.length≤1000000000000:=by
    rw[Vn,Vs hj,Zc];exact hb _ (Sxa hj)
   simp only[B6,K9a,Jv]at hk ⊢;obtain⟨t,ht⟩:=Oc k (by simp only[Jv];omega);refine R9a (by omega) (Rfa ht ?_);refine R9a (by omega) (R9a (by omega) (R9a (by omega) (R9a (by rw[Yl];omega) ?_)))
   have e1:((s.set j (t,(s.getD j Et).2)).getD j Et)=(t,(l.getD j Et).2):=by
    rw[hsj,Vn,Ssa]
    have:j<s.length:=by omega
    simp[this]
   simp only[show toNat (j:Int)=j from Vm j,e0,e1];rw[w64 (n:=(j:Int)+1) (by omega) (by omega),w64 (n:=(k:Int)+1) (by omega) (by omega),show (k:Int)+1=((k+1:Nat):Int) by omega];refine R6a (Hna _ hjl (k+1) (by simp only[Jv];omega)) ?_;rintro⟨r1,r2⟩ ⟨n,hn,rfl,hh⟩;rw[List.set_set,show k+1+n=k+(1+n) by omega];refine next (1+n) (t,r2) (by simp only[K9a];omega) (λ s' Q' hj' hy h=>?_);simp only[B7];refine R9a (by omega) (R9a (by omega) (R9a (by omega) (Rfa ht ?_)));simp only[show toNat (j:Int)=j from Vm j,e0,hy];refine R7a (by rw[beq_self_eq_true];rfl) (R9a (by omega) (R9a (by omega) ?_));rw[w64 (n:=(j:Int)+1) (by omega) (by omega),w64 (n:=(k:Int)+1) (by omega) (by omega),show (k:Int)+1=((k+1:Nat):Int) by omega];refine R6a hh ?_;rintro _ rfl;refine Raa (by omega) ?_;rw[show k+1+n=k+(1+n) by omega]
   exact h) (k:=k) hk
 unfold Aq;refine R6a h ?_;rintro⟨r1,r2⟩ ⟨n,hn,rfl,hlen,hh⟩;refine R5a ⟨n,hn,rfl,?_⟩;unfold Ar;refine R6a hh ?_;rintro _ rfl;exact R5a rfl
abbrev P5a (d:Dsk):Nat:=Th K9a d.1+Th K9a d.2
def MkL (l:List Nmd):Prop:=l.length≤1000000000000∧∀ x∈l,x.2.length≤1000000000000
def P6a (d:Dsk) (h1:MkL d.1) (h2:MkL d.2):MH Dn Dr (P5a d) d:=by
 intro k hk;simp only[P5a]at hk;unfold Dn;refine R6a (C5a d.1 h1.1 h1.2 k (by omega)) ?_;rintro⟨r1,r2⟩ ⟨n,hn,rfl,hh⟩;refine R6a (C5a d.2 h2.1 h2.2 (k+n) (by omega)) ?_;rintro⟨q1,q2⟩ ⟨m,hm,rfl,hh2⟩;refine R5a ⟨n+m,by simp only[P5a];omega,by dsimp only;omega,?_⟩;unfold Dr;refine R6a hh ?_;rintro _ rfl;refine Raa (by omega) (R6a hh2 ?_);rintro _ rfl;refine Raa (by omega) (R5a (by omega))
def P7a (f:Fil) (h:f.2.2.length≤1000000000000) (k:Nat) (hk:k+f.2.2.length≤Jv):Tot (λ g=>Dq g f (k:Int)) (λ r=>∃ n:Nat,n≤f.2.2.length∧r.1=((k+n:Nat):Int)):=by
 unfold Dq;refine R6a (Hna f.2.2 h k hk) ?_;rintro⟨r1,r2⟩ ⟨n,hn,rfl,hh⟩;exact R5a ⟨n,hn,rfl⟩

def tyB (ti:TypeId→Option TI) (e:TypeId):Bool:=match ti e with
 |some te=>Nat.ble 1 te.by_
 |none=>false
section
variable {ti:TypeId→Option TI}
def Td {e:TypeId} {r:Ty} {xs:List r.den} (h:Ty.fit ti (.sl e r) xs) (hk:tyB ti e=true):HgL xs:=by
 unfold tyB at hk;split at hk
 ·rename_i te ht;have h1:=h.1 te ht;have h2:=Ve hk;show xs.length≤140737488351232;exact Yq (Nat.le_mul_of_pos_right _ (by omega)) h1
 ·cases hk
abbrev R0a:Ty := .pr (.i .i64) (.pr (.i .i64) (.i .i64))
abbrev byT (b:TypeId):Ty := .sl b (.i .u8)
abbrev Qga (b:TypeId):Ty := .pr .s (byT b)
abbrev R1a (b n:TypeId):Ty := .pr (.sl n (Qga b)) (.sl n (Qga b))
abbrev Qha:Ty := .pr .s (.pr R0a (.pr .b (.i .i64)))
abbrev R2a (b n r:TypeId):Ty := .pr (.i .i64) (.pr (R1a b n) (.pr (.sl r Qha) (.sl r Qha)))
def Hoa {b:TypeId} {xs:List Int} (h:Ty.fit ti (byT b) xs):Az xs:=λ x hx=>by
 have:=h.2 x hx;have h1:(decide (IntKind.min .u8≤x)&&decide (x≤IntKind.max .u8))=true:=this;rw[Va,decide_eq_true_iff,decide_eq_true_iff]at h1;exact h1
def N4 {b n:TypeId} {l:List Nmd} (h:Ty.fit ti (.sl n (Qga b)) l) (hb:tyB ti b=true) (hn:tyB ti n=true):Lh l∧ByN l:=
 ⟨⟨Td h hn,λ x hx=>⟨Yq (h.2 x hx).1 (by decide),Td (h.2 x hx).2 hb⟩⟩,λ x hx=>Hoa (h.2 x hx).2⟩
def C6a {r:TypeId} {l:List Row} (h:Ty.fit ti (.sl r Qha) l) (hr:tyB ti r=true):C3a l:=⟨Td h hr,λ x hx=>Yq (h.2 x hx).1 (by decide)⟩
end

abbrev SmD (d:Dsk):Prop:=Fo d.1∧Fo d.2
def P8a {d:Dsk} (h:SmD d):DIn d:=by
 obtain⟨⟨a1,a2⟩,a3⟩:=M6 h.1;obtain⟨⟨b1,b2⟩,b3⟩:=M6 h.2;exact⟨⟨⟨a1,b1⟩,a2,b2⟩,a3,b3⟩
def P9a {l:List Nmd} (h:Eg l=true):Fo l:=by
 obtain⟨_,h2,h3⟩:=Bs.1 h;refine⟨by show (l.length:Int)≤1048576;omega,λ x hx=>?_⟩;obtain⟨h4,h5⟩:=M3.1 (h2 x hx);have h6:=(Jt h4).2;exact⟨by show (x.1.size:Int)≤1048576;omega,by show (x.2.length:Int)≤1048576;omega⟩
def R3a {d:Dsk} (h:Au d=true):SmD d:=by
 unfold Au at h;rw[Va]at h;exact⟨P9a h.1,P9a h.2⟩
def A9a {α:Type} (w:α→Nat) (c:Nat):∀ l:List α,(∀ x∈l,w x≤c)→Th w l≤l.length*c
 |[],_=>by simp[Th]
 |x::l,h=>by
  have h1:=h x (by simp);have h2:=A9a w c l (λ y hy=>h y (Vd _ hy));rw[Th,Vg,Sja];omega
def Paa {l:List Nmd} (h:Fo l):Th K9a l≤1099512676352:=by
 have h0:(l.length:Int)≤1048576:=h.1
 have h1:=A9a K9a 1048577 l (λ x hx=>by
  have:(x.2.length:Int)≤1048576:=(h.2 x hx).2;simp only[K9a]
  omega)
 have h2:l.length*1048577≤1048576*1048577:=Wa _ (by omega);omega
def Qia {d:Dsk} (h:SmD d):P5a d≤2199025352704:=by
 have h1:=Paa h.1;have h2:=Paa h.2;simp only[P5a];omega
def L9a {l:List Nmd} (h:Fo l):MkL l:=(M6 h).1.1
def mhD {d:Dsk} (h:SmD d) (k:Nat) (hk:k≤900000000000000):Tot (λ f=>Dn f d (k:Int)) (λ r=>∃ n:Nat,n≤2199025352704∧r.1=((k+n:Nat):Int)∧Tot (λ f=>Dr f r.2 (k:Int)) (λ q=>q=((k+n:Nat):Int))):=by
 have hw:=Qia h;refine(P6a d (L9a h.1) (L9a h.2) k (by simp only[Jv];omega)).mono ?_;rintro r ⟨n,h1,h2,h3⟩;exact⟨n,by omega,h2,h3⟩
def mkF {f:Fil} (h:SmL f.2.2) (k:Nat) (hk:k≤900000000000000):Tot (λ g=>Dq g f (k:Int)) (λ r=>∃ n:Nat,n≤1048576∧r.1=((k+n:Nat):Int)):=by
 have hl:(f.2.2.length:Int)≤1048576:=h;refine(P7a f (by omega) k (by simp only[Jv];omega)).mono ?_;rintro r ⟨n,h1,h2⟩;exact⟨n,by omega,h2⟩

def Te {α:Type} {s:List α} {j:Nat} {y d:α} (h:j<s.length):(s.set j y).getD j d=y:=by
 rw[Vn,Ssa];simp[h]
def rw0:Row:=((⟨#[]⟩:ByteArray),(((0:Int),((0:Int),(0:Int))),(false,(0:Int))))
def Pba (l:List Row) (hl:l.length≤1000000000000):MH Ax Ay (Th (λ _=>6) l) l:=by
 intro k hk
 have h:=Hma rw0 (λ f x i s=>Bx f x i s) (λ f s x i=>Bz f s x i) l (λ _=>6)
  (λ x s hs=>by simp only[Bx];exact Raa (by omega) (R5a rfl))
  (λ s x=>by simp only[Bz];exact Raa (by omega) (R5a rfl))
  (λ j k s hj hs hsj hk Q next=>by
   have e0:∀ (z:List Row) (i:Nat),z.getD i ((⟨#[]⟩:ByteArray),(((0:Int),((0:Int),(0:Int))),(false,(0:Int))))=z.getD i rw0:=λ _ _=>rfl;simp only[Jv]at hk
   have c1:wrap .i64 ((k:Int)+1)=((k+1:Nat):Int):=by rw[w64 (by omega) (by omega)];omega
   have c2:wrap .i64 (((k+1:Nat):Int)+1)=((k+2:Nat):Int):=by rw[w64 (by omega) (by omega)];omega
   have c3:wrap .i64 (((k+2:Nat):Int)+1)=((k+3:Nat):Int):=by rw[w64 (by omega) (by omega)];omega
   have c4:wrap .i64 (((k+3:Nat):Int)+1)=((k+4:Nat):Int):=by rw[w64 (by omega) (by omega)];omega
   have c5:wrap .i64 (((k+4:Nat):Int)+1)=((k+5:Nat):Int):=by rw[w64 (by omega) (by omega)];omega
   have c6:wrap .i64 (((k+5:Nat):Int)+1)=((k+6:Nat):Int):=by rw[w64 (by omega) (by omega)];omega
   have cj:wrap .i64 ((j:Int)+1)=(j:Int)+1:=w64 (by omega) (by omega);have ej:toNat (j:Int)=j:=Vm j
   have hjs:j<s.length:=by omega
   obtain⟨t,ht⟩:=Oc k (by simp only[Jv];omega);simp only[Bx];refine R9a (by omega) (Rfa ht ?_);simp only[ej,e0,c1,c2,c3,c4,c5,c6,cj,List.set_set,Te hjs,Yl];refine R9a (by omega) (R9a (by omega) (R9a (by omega) (R9a (by omega) (R9a (by omega) (R9a (by omega) (R9a (by omega) (R9a (by omega) (R9a (by omega) (R9a (by omega) (R9a (by omega) (R9a (by omega) ?_)))))))))));refine next 6 _ (Vq _) (λ s' Q' hj' hy h=>?_);simp only[Bz];refine R9a (by omega) (R9a (by omega) (R9a (by omega) (Rfa ht ?_)));simp only[ej,e0,hy,c1,c2,c3,c4,c5,c6,cj];refine R7a (by rw[beq_self_eq_true];rfl) (R9a (by omega) (R9a (by omega) ?_));refine R7a (by rw[bne,beq_self_eq_true];rfl) (R9a (by omega) (R9a (by omega) ?_));refine R7a (by rw[bne,beq_self_eq_true];rfl) (R9a (by omega) (R9a (by omega) ?_));refine R7a (by rw[bne,beq_self_eq_true];rfl) (R9a (by omega) (R9a (by omega) ?_));refine R7a (by rw[beq_self_eq_true];rfl) (R9a (by omega) (R9a (by omega) ?_))
   exact R7a (by rw[bne,beq_self_eq_true];rfl) h) (k:=k) hk
 unfold Ax;refine R6a h ?_;rintro⟨r1,r2⟩ ⟨n,hn,rfl,hlen,hh⟩;refine R5a ⟨n,hn,rfl,?_⟩;unfold Ay;refine R6a hh ?_;rintro _ rfl;exact R5a rfl
def mhR {l:List Row} (h:Oa l) (k:Nat) (hk:k≤900000000000000):Tot (λ f=>Ax f l (k:Int)) (λ r=>∃ n:Nat,n≤6291456∧r.1=((k+n:Nat):Int)∧Tot (λ f=>Ay f r.2 (k:Int)) (λ q=>q=((k+n:Nat):Int))):=by
 have hl:(l.length:Int)≤1048576:=h.1;have hw:=A9a (λ _:Row=>6) 6 l (λ _ _=>Vq _);refine(Pba l (by omega) k (by simp only[Jv];omega)).mono ?_;rintro r ⟨n,h1,h2,h3⟩;exact⟨n,by omega,h2,h3⟩
def mhN {x:Nod} (h:Ob x) (i:Int) (k:Nat) (hk:k≤800000000000000):Tot (λ f=>Dp f x (k:Int)) (λ r=>∃ n:Nat,n≤3000000000000∧r.1=((k+n:Nat):Int)∧Tot (λ f=>Ds f (i,r.2.2) (k:Int)) (λ q=>q=((k+n:Nat):Int))):=by
 unfold Dp;refine R6a (mhD h.1 k (by omega)) ?_;rintro⟨a1,a2⟩ ⟨n,hn,rfl,hh⟩;refine R6a (mhR h.2.1 (k+n) (by omega)) ?_;rintro⟨b1,b2⟩ ⟨m,hm,rfl,hh2⟩;refine R6a (mhR h.2.2 (k+n+m) (by omega)) ?_;rintro⟨c1,c2⟩ ⟨p,hp,rfl,hh3⟩;refine R5a ⟨n+m+p,by omega,by dsimp only;omega,?_⟩;unfold Ds;refine Rfa hh (Raa (by omega) (Rfa hh2 (Raa (by omega) (Rfa hh3 (Raa (by omega) (R5a (by omega)))))))
def R4a {ti:TypeId→Option TI} {b n r:TypeId} {x:Nod} (hk:(tyB ti b&&(tyB ti n&&tyB ti r))=true) (h:Ty.fit ti (R2a b n r) x):L8a x∧ByN x.2.1.1∧ByN x.2.1.2:=by
 simp only[Va]at hk;obtain⟨kb,kn,kr⟩:=hk;obtain⟨_,⟨a1,a2⟩,a3,a4⟩:=h;exact⟨⟨⟨(N4 a1 kb kn).1,(N4 a2 kb kn).1⟩,C6a a3 kr,C6a a4 kr⟩,(N4 a1 kb kn).2,(N4 a2 kb kn).2⟩

def Wx {x:Nod} (h:Ob x) (hb:ByN x.2.1.1∧ByN x.2.1.2):NIn x:=by
 obtain⟨a,a3,a4⟩:=h;exact⟨⟨P8a a,hb⟩,C4a a3,C4a a4⟩
def Pca {l:List Row} (h1:l.length≤60) (h2:∀ r∈l,I2 r=true):Oa l:=by
 refine⟨by show (l.length:Int)≤1048576;omega,λ x hx=>?_⟩;have:=(Jt (D9a (h2 x hx))).2;show (x.1.size:Int)≤1048576;omega
def Kaa {x:Nod} (h:Jy x=true):Ob x:=by
 obtain⟨h1,_,h3,h4,h5⟩:=Jb.1 h;obtain⟨_,h6,h7⟩:=D1a.1 h4;exact⟨R3a h3,Pca (by omega) h6,Pca h5 h1⟩
def N9a (n:Nod) (s:ByteArray) (f:Fil) (sure:Bool) (hn:Ob n) (hb:ByN n.2.1.1∧ByN n.2.1.2) (hs:Ht s):∃ v:Nod×Int,Tot (λ k=>Eb k n s f sure) (λ r=>r=v)∧Tot (λ k=>Dx k n s f sure) (λ r=>r=v)∧Ob v.1:=by
 refine⟨Nka n s f sure,A5a n s f sure (Wx hn hb) hs,A6a n s f sure (Wx hn hb) hs,?_⟩;unfold Nka;cases hc:(Jy n&&(C1 s&&Ea f))
 ·exact hn
 simp only[Va]at hc;exact Kaa (P0a ⟨hc.1,hb⟩ hc.2.1 hc.2.2).1

end Go.Proofs.YtbbifgjgneefkaaGreat.Vf

section
set_option linter.unusedVariables false
set_option linter.unusedSimpArgs false
namespace Go.Proofs.YtbbifgjgneefkaaGreat.Pure
open Go Go.RowKit Go.Proofs.YtbbifgjgneefkaaGreat.Vf
theorem FnExactNodePut:∀ (a0:Int×((List (ByteArray×(List Int)))×(List (ByteArray×(List Int))))×(List (ByteArray×(Int×Int×Int)×Bool×Int))×(List (ByteArray×(Int×Int×Int)×Bool×Int))) (a1:ByteArray) (a2:(Int×Int×Int)×Bool×(List Int)) (a3:Bool),Ty.fit ti (.pr (.i .i64) (.pr (.pr (.sl 164 (.pr .s (.sl 5 (.i .u8)))) (.sl 164 (.pr .s (.sl 5 (.i .u8))))) (.pr (.sl 125 (.pr .s (.pr (.pr (.i .i64) (.pr (.i .i64) (.i .i64))) (.pr .b (.i .i64))))) (.sl 125 (.pr .s (.pr (.pr (.i .i64) (.pr (.i .i64) (.i .i64))) (.pr .b (.i .i64)))))))) a0→Ty.fit ti .s a1→Ty.fit ti (.pr (.pr (.i .i64) (.pr (.i .i64) (.i .i64))) (.pr .b (.sl 5 (.i .u8)))) a2→Ty.fit ti .b a3→∃ k,Bb k a0 a1 a2 a3=some true:=by
 intro a0 a1 a2 a3 f0 f1 f2 f3;obtain⟨hg,hb⟩:=R4a (by kernel_rfl) f0;have hgf:HgL a2.2.2:=Td f2.2.2 (by kernel_rfl);refine Tot.law (f:=λ k=>Bb k a0 a1 a2 a3) ?_;unfold Bb;refine Rca (λ _=>R5a rfl) (λ hs1=>?_)
 have hs:Ht a1:=by show a1.size≤_;omega
 refine R6a (Hda a0 hg (by decide) (by decide)) ?_;intro r hr;refine Rca (λ _=>R5a rfl) (λ h=>?_);rcases hr with hr|⟨h0,h1,hd⟩
 ·exact absurd hr h
 refine R6a (Hba a2 hgf h0 h1) ?_;intro r' hr;refine Rca (λ _=>R5a rfl) (λ h=>?_);rcases hr with hr|⟨_,_,hl⟩
 ·exact absurd hr h
 have tD:=Hia a0 hd;have tF:=Hja a2 hl;obtain⟨v,v1,v2,v3⟩:=N9a a0 a1 a2 a3 hd hb hs;have eV:=Ww v.1 v3;refine Rfa tD (Rfa tF (Rfa v1 (Rfa tD (Rfa tF (Rfa v2 (Rfa eV (R7a rfl (R7a (by rw[bne,beq_self_eq_true];rfl) ?_))))))));refine Rfa tD (Rfa (Ww a0 hd) (R7a rfl (Rfa tF (Rfa (Hla a2 hl) (R7a rfl ?_)))));refine R6a (mhN hd 0 1 (by decide)) ?_;rintro⟨q1,q2⟩ ⟨n,hn,rfl,_⟩;refine R6a (mkF hl (1+n) (by omega)) ?_;rintro⟨p1,p2⟩ ⟨m,hm,rfl⟩;refine Raa (by omega) (Rfa eV (R7a rfl (R7a (by rw[bne,beq_self_eq_true];rfl) ?_)));refine R6a (mhN v3 v.1.1 1 (by decide)) ?_;rintro⟨g1,g2⟩ ⟨c,hc,rfl,hh⟩;refine Rfa hh (Raa (by omega) (R7a (by rw[bne,beq_self_eq_true];rfl) ?_));refine Rfa tD (Rfa tF (Rfa v2 (Rfa eV (R7a rfl (R7a (by rw[bne,beq_self_eq_true];rfl) ?_)))));exact Rfa hh (Raa (by omega) (R7a (by rw[bne,beq_self_eq_true];rfl) (R5a rfl)))
end Go.Proofs.YtbbifgjgneefkaaGreat.Pure
end
