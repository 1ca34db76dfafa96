import Derived.Test.YtlfoljnopndpeaaMak
import Derived.Test.YtlfoljnopndpeaaMai
import Derived.Test.YtlfoljnopndpeaaMaj
set_option linter.unusedVariables false
set_option linter.unusedSimpArgs false
namespace Go.Proofs.Ytlfoljnopndpeaa.Vf
open Go

def SzR (n:Int) (B:Prop) (r:Int):Prop:=r<0∨(0≤r∧r≤n∧B)
abbrev Te:Nat:=140737488351232
abbrev Ej:Int:=1048576
theorem SzR.then {f:Nat→Option Int} {g:Int→Nat→Option Int} {n:Int} {B C:Prop} (hf:Tot f (SzR n B)) (hg:∀ r,0≤r→r≤n→Tot (g r) (SzR r C)):
  Tot (λ k=>(f k).bind λ r=>cond (decide (r<0)) (some (-1)) (g r k)) (SzR n (B∧C)):=by
 refine Tot.bind hf ?_
 intro r hr
 refine Tot.dite (λ h=>Tot.pure (.inl (by decide))) (λ h=>?_)
 rcases hr with hr|⟨h0,h1,hB⟩
 ·exact absurd hr h
 ·refine (hg r h0 h1).mono ?_
  rintro q (hq|⟨q0,q1,hC⟩)
  ·exact .inl hq
  ·exact .inr ⟨q0,by omega,hB,hC⟩
theorem SzR.last {f:Nat→Option Int} {n:Int} {B:Prop} (hf:Tot f (SzR n B)):Tot (λ k=>(f k).bind λ r=>cond (decide (r<0)) (some (-1)) (some r)) (SzR n B):=by
 refine Tot.bind hf ?_
 intro r hr
 exact Tot.dite (λ h=>Tot.pure (.inl (by decide))) (λ h=>Tot.pure hr)
theorem SzR.imp {f:Nat→Option Int} {n:Int} {B C:Prop} (hf:Tot f (SzR n B)) (h:B→C):Tot f (SzR n C):=
 hf.mono (by rintro r (hr|⟨h0,h1,hB⟩); exact .inl hr; exact .inr ⟨h0,h1,h hB⟩)
theorem R5 {f:Nat→Option Int} {n:Int} {m:Nat} {C:Prop} (hm:m≤Te) (h0:0≤n) (h1:n≤Ej) (hf:(m:Int)≤Ej→0≤n - (m:Int)→Tot f (SzR (n - (m:Int)) C)):
  Tot (λ k=>cond (decide ((IntKind.wrap .i64 (n - (m:Int)))<0)) (some (-1)) (f k)) (SzR n ((m:Int)≤Ej∧C)):=by
 simp only [Te] at hm
 simp only [Ej] at h1 hf ⊢
 rw [w64 (n:=n - (m:Int)) (by omega) (by omega)]
 refine Tot.dite (λ h=>Tot.pure (.inl (by decide))) (λ h=>?_)
 refine (hf (by omega) (by omega)).mono ?_
 rintro q (hq|⟨q0,q1,hC⟩)
 ·exact .inl hq
 ·exact .inr ⟨q0,by omega,by omega,hC⟩
theorem Xy {n:Int} {m:Nat} (hm:m≤Te) (h0:0≤n) (h1:n≤Ej):
  Tot (λ _=>cond (decide ((IntKind.wrap .i64 (n - (m:Int)))<0)) (some (-1)) (some (IntKind.wrap .i64 (n - (m:Int))))) (SzR n ((m:Int)≤Ej)):=by
 refine (R5 (C:=True) hm h0 h1 (λ h2 h3=>Tot.pure ?_)).mono ?_
 ·simp only [Te] at hm
  simp only [Ej] at h1 h2
  rw [w64 (n:=n - (m:Int)) (by omega) (by omega)]
  exact .inr ⟨h3,Int.le_refl _,trivial⟩
 ·rintro r (hr|⟨a,b,c,_⟩)
  ·exact .inl hr
  ·exact .inr ⟨a,b,c⟩
theorem Pv {α:Type} (d:α) (l:List α) (B:α→Prop) {L:Nat→Int→Int→Option (Sum Int Int)}
  (hend:∀ s,Tot (λ k=>L (k+1) s (l.length:Int)) (λ r=>r = .inr s))
  (Mt:∀ (j:Nat) (s:Int) (Q:Sum Int Int→Prop),j<l.length→0≤s→s≤Ej→(∀ r,r<0→Q (.inl r))→(∀ r,SzR s (B (l.getD j d)) r→0≤r→Tot (λ k=>L k r ((j:Int)+1)) Q)→Tot (λ k=>L (k+1) s (j:Int)) Q)
  {n:Int} (h0:0≤n) (h1:n≤Ej):Tot (λ k=>(L k n 0).bind λ r1=>Sum.elim (λ y2=>some y2) (λ z3=>some z3) r1) (SzR n (∀ x∈l,B x)):=by
 refine Tot.bind (Q:=λ r=>(∃ s,s<0∧r = .inl s)∨∃ s,r = .inr s∧0≤s∧s≤n∧∀ i,i<l.length→B (l.getD i d)) ?_ ?_
 ·refine Tot.up (L:=λ k i (s:Int)=>L k s i) l.length (λ j s=>0≤s∧s≤n∧∀ i,i<j→B (l.getD i d)) ?_ ?_ 0 n (Nat.zero_le _) ⟨h0,Int.le_refl _,λ i hi=>by omega⟩
  ·rintro s ⟨a,b,c⟩
   exact (hend s).mono (by rintro r rfl; exact .inr ⟨s,rfl,a,b,c⟩)
  ·rintro j s hj ⟨a,b,c⟩ next
   refine Mt j s _ hj a (by omega) (λ r hr => .inl ⟨r,hr,rfl⟩) (λ r hr h=>next r ?_)
   rcases hr with hr|⟨_,h2,h3⟩
   ·omega
   ·refine ⟨h,by omega,λ i hi=>?_⟩
    by_cases e:i=j
    ·subst e; exact h3
    ·exact c i (by omega)
 ·rintro r (⟨s,hs,rfl⟩|⟨s,rfl,a,b,c⟩)
  ·exact Tot.pure (.inl hs)
  ·refine Tot.pure (.inr ⟨a,b,λ x hx=>?_⟩)
   obtain ⟨i,hi,rfl⟩:=List.mem_iff_getElem.1 hx
   have:=c i hi
   rwa [List.getD_eq_getElem?_getD,List.getElem?_eq_getElem hi,Option.getD_some] at this
abbrev SmT (s:ByteArray):Prop:=(s.size:Int)≤Ej
abbrev SmL {α:Type} (l:List α):Prop:=(l.length:Int)≤Ej
abbrev HgT (s:ByteArray):Prop:=s.size≤Te
abbrev HgL {α:Type} (l:List α):Prop:=l.length≤Te
def M3a (x:Dev):Prop:=True
def L5a (l:List Dev):Prop:=HgL l∧∀ x∈l,M3a x
def Hpa (x:List Int):Prop:=HgL x
def V4 (l:List (List Int)):Prop:=HgL l∧∀ x∈l,Hpa x
def E2a (x:Nmd):Prop:=HgT x.1∧HgL x.2
def Jv (l:List Nmd):Prop:=HgL l∧∀ x∈l,E2a x
def L6a (x:Row):Prop:=HgT x.1
def Xz (l:List Row):Prop:=HgL l∧∀ x∈l,L6a x
def Hqa (x:Nod):Prop:=(Jv x.2.1.1∧Jv x.2.1.2)∧Xz x.2.2.1∧Xz x.2.2.2
def E3a (l:List Nod):Prop:=HgL l∧∀ x∈l,Hqa x
def E4a (x:Wri):Prop:=HgT x.1∧HgL x.2.1.2.2
def Y0 (l:List Wri):Prop:=HgL l∧∀ x∈l,E4a x
def Gwa (x:ByteArray):Prop:=HgT x
def Sz (l:List ByteArray):Prop:=HgL l∧∀ x∈l,Gwa x
def HgW (w:Wld):Prop:=L5a w.1∧V4 w.2.1.2∧E3a w.2.2.1∧Y0 w.2.2.2.2.1∧Sz w.2.2.2.2.2
def M4a (x:Dev):Prop:=True
def L7a (l:List Dev):Prop:=SmL l∧∀ x∈l,M4a x
def T0 (x:List Int):Prop:=SmL x
def Ks (l:List (List Int)):Prop:=SmL l∧∀ x∈l,T0 x
def Og (x:Nmd):Prop:=SmT x.1∧SmL x.2
def Gl (l:List Nmd):Prop:=SmL l∧∀ x∈l,Og x
def Jca (x:Row):Prop:=SmT x.1
def Pw (l:List Row):Prop:=SmL l∧∀ x∈l,Jca x
def T1 (x:Nod):Prop:=(Gl x.2.1.1∧Gl x.2.1.2)∧Pw x.2.2.1∧Pw x.2.2.2
def R6 (l:List Nod):Prop:=SmL l∧∀ x∈l,T1 x
def Oh (x:Wri):Prop:=SmT x.1∧SmL x.2.1.2.2
def N7 (l:List Wri):Prop:=SmL l∧∀ x∈l,Oh x
def Y1 (x:ByteArray):Prop:=SmT x
def T2 (l:List ByteArray):Prop:=SmL l∧∀ x∈l,Y1 x
def SmW (w:Wld):Prop:=L7a w.1∧Ks w.2.1.2∧R6 w.2.2.1∧N7 w.2.2.2.2.1∧T2 w.2.2.2.2.2
theorem E5a (l:List Int) (h:HgL l) {n:Int} (h0:0≤n) (h1:n≤Ej):Tot (λ _=>Eo l n) (SzR n (SmL l)):=Xy h h0 h1
theorem Px (l:List Int) (h:HgL l) {n:Int} (h0:0≤n) (h1:n≤Ej):Tot (λ _=>Cv l n) (SzR n (SmL l)):=Xy h h0 h1
theorem E6a (l:List Dev) (h:HgL l) {n:Int} (h0:0≤n) (h1:n≤Ej):Tot (λ _=>Em l n) (SzR n (SmL l)):=Xy h h0 h1
theorem E7a (x:List Int) (h:Hpa x) {n:Int} (h0:0≤n) (h1:n≤Ej):Tot (λ _=>Ep x n) (SzR n (T0 x)):=SzR.last (E5a x h h0 h1)
theorem Gxa (x:Row) (h:L6a x) {n:Int} (h0:0≤n) (h1:n≤Ej):Tot (λ _=>Fq x n) (SzR n (Jca x)):=Xy h h0 h1
theorem E8a (x:Fil) (h:HgL x.2.2) {n:Int} (h0:0≤n) (h1:n≤Ej):Tot (λ _=>Eu x n) (SzR n (SmL x.2.2)):=SzR.last (Px x.2.2 h h0 h1)
theorem Aha (x:Nmd) (h:E2a x) {n:Int} (h0:0≤n) (h1:n≤Ej):Tot (λ _=>E6 x n) (SzR n (Og x)):=
 R5 h.1 h0 h1 (λ h2 h3=>by
  have hh:=h.1
  simp only [HgT,Te,Ej] at hh h1
  rw [w64 (n:=n - (x.1.size:Int)) (by omega) (by omega)]
  exact SzR.last (Px x.2 h.2 h3 (by simp only [Ej]; omega)))
theorem Aia (x:Wri) (h:E4a x) {n:Int} (h0:0≤n) (h1:n≤Ej):Tot (λ _=>E7 x n) (SzR n (Oh x)):=
 R5 h.1 h0 h1 (λ h2 h3=>by
  have hh:=h.1
  simp only [HgT,Te,Ej] at hh h1
  rw [w64 (n:=n - (x.1.size:Int)) (by omega) (by omega)]
  exact SzR.last (E8a x.2.1 h.2 h3 (by simp only [Ej]; omega)))
theorem Aja (l:List (List Int)) (h:V4 l) {n:Int} (h0:0≤n) (h1:n≤Ej):Tot (λ k=>Ba k l n) (SzR n (Ks l)):=by
 have hh:=h.1
 unfold Ba
 refine R5 h.1 h0 h1 (λ h2 h3=>?_)
 simp only [HgL,Te,Ej] at hh h1
 rw [w64 (n:=n - (l.length:Int)) (by omega) (by omega)]
 refine Pv [] l T0 ?_ ?_ h3 (by simp only [Ej]; omega)
 ·intro s
  simp (disch:=omega) only [Cc,dF]
  exact Tot.pure rfl
 ·intro j s Q hj s0 s1 no yes
  have hm:=h.2 _ (Bi (d:=[]) hj)
  simp (disch:=omega) only [Cc,dT,Int.toNat_natCast,w64]
  refine Tot.bind (E7a (l.getD j []) hm s0 s1) ?_
  intro r hr
  exact Tot.dite (λ hc=>Tot.pure (no _ (by decide))) (λ hc=>yes r hr (by omega))
theorem Oi (l:List Nmd) (h:Jv l) {n:Int} (h0:0≤n) (h1:n≤Ej):Tot (λ k=>Al k l n) (SzR n (Gl l)):=by
 have hh:=h.1
 unfold Al
 refine R5 h.1 h0 h1 (λ h2 h3=>?_)
 simp only [HgL,Te,Ej] at hh h1
 rw [w64 (n:=n - (l.length:Int)) (by omega) (by omega)]
 refine Pv Lq l Og ?_ ?_ h3 (by simp only [Ej]; omega)
 ·intro s
  simp (disch:=omega) only [C1,dF]
  exact Tot.pure rfl
 ·intro j s Q hj s0 s1 no yes
  have hm:=h.2 _ (Bi (d:=Lq) hj)
  have e0:l.getD j ((⟨#[]⟩:ByteArray),[])=l.getD j Lq:=rfl
  simp (disch:=omega) only [C1,dT,Int.toNat_natCast,w64,e0]
  refine Tot.bind (Aha (l.getD j Lq) hm s0 s1) ?_
  intro r hr
  exact Tot.dite (λ hc=>Tot.pure (no _ (by decide))) (λ hc=>yes r hr (by omega))
theorem T3 (l:List Row) (h:Xz l) {n:Int} (h0:0≤n) (h1:n≤Ej):Tot (λ k=>Bn k l n) (SzR n (Pw l)):=by
 have hh:=h.1
 unfold Bn
 refine R5 h.1 h0 h1 (λ h2 h3=>?_)
 simp only [HgL,Te,Ej] at hh h1
 rw [w64 (n:=n - (l.length:Int)) (by omega) (by omega)]
 refine Pv Jba l Jca ?_ ?_ h3 (by simp only [Ej]; omega)
 ·intro s
  simp (disch:=omega) only [D6,dF]
  exact Tot.pure rfl
 ·intro j s Q hj s0 s1 no yes
  have hm:=h.2 _ (Bi (d:=Jba) hj)
  have e0:l.getD j ((⟨#[]⟩:ByteArray),(((0:Int),((0:Int),(0:Int))),(false,(0:Int))))=l.getD j Jba:=rfl
  simp (disch:=omega) only [D6,dT,Int.toNat_natCast,w64,e0]
  refine Tot.bind (Gxa (l.getD j Jba) hm s0 s1) ?_
  intro r hr
  exact Tot.dite (λ hc=>Tot.pure (no _ (by decide))) (λ hc=>yes r hr (by omega))
theorem E9a (x:Dsk) (h:Jv x.1∧Jv x.2) {n:Int} (h0:0≤n) (h1:n≤Ej):Tot (λ k=>Es k x n) (SzR n (Gl x.1∧Gl x.2)):=
 SzR.then (Oi x.1 h.1 h0 h1) (λ r r0 r1=>SzR.last (Oi x.2 h.2 r0 (Int.le_trans r1 h1)))
theorem Eaa (x:Nod) (h:Hqa x) {n:Int} (h0:0≤n) (h1:n≤Ej):Tot (λ k=>Et k x n) (SzR n (T1 x)):=
 SzR.then (E9a x.2.1 h.1 h0 h1) (λ r r0 r1=>SzR.then (T3 x.2.2.1 h.2.1 r0 (Int.le_trans r1 h1)) (λ q q0 q1=>SzR.last (T3 x.2.2.2 h.2.2 q0 (Int.le_trans q1 (Int.le_trans r1 h1)))))
theorem Aka (l:List Nod) (h:E3a l) {n:Int} (h0:0≤n) (h1:n≤Ej):Tot (λ k=>Bb k l n) (SzR n (R6 l)):=by
 have hh:=h.1
 unfold Bb
 refine R5 h.1 h0 h1 (λ h2 h3=>?_)
 simp only [HgL,Te,Ej] at hh h1
 rw [w64 (n:=n - (l.length:Int)) (by omega) (by omega)]
 refine Pv V2 l T1 ?_ ?_ h3 (by simp only [Ej]; omega)
 ·intro s
  simp (disch:=omega) only [Cd,dF]
  exact Tot.pure rfl
 ·intro j s Q hj s0 s1 no yes
  have hm:=h.2 _ (Bi (d:=V2) hj)
  have e0:l.getD j ((0:Int),(([],[]),([],[])))=l.getD j V2:=rfl
  simp (disch:=omega) only [Cd,dT,Int.toNat_natCast,w64,e0]
  refine Tot.bind (Eaa (l.getD j V2) hm s0 s1) ?_
  intro r hr
  exact Tot.dite (λ hc=>Tot.pure (no _ (by decide))) (λ hc=>yes r hr (by omega))
theorem V5 (l:List Wri) (h:Y0 l) {n:Int} (h0:0≤n) (h1:n≤Ej):Tot (λ k=>As k l n) (SzR n (N7 l)):=by
 have hh:=h.1
 unfold As
 refine R5 h.1 h0 h1 (λ h2 h3=>?_)
 simp only [HgL,Te,Ej] at hh h1
 rw [w64 (n:=n - (l.length:Int)) (by omega) (by omega)]
 refine Pv Aga l Oh ?_ ?_ h3 (by simp only [Ej]; omega)
 ·intro s
  simp (disch:=omega) only [C2,dF]
  exact Tot.pure rfl
 ·intro j s Q hj s0 s1 no yes
  have hm:=h.2 _ (Bi (d:=Aga) hj)
  have e0:l.getD j ((⟨#[]⟩:ByteArray),((((0:Int),((0:Int),(0:Int))),(false,[])),false))=l.getD j Aga:=rfl
  simp (disch:=omega) only [C2,dT,Int.toNat_natCast,w64,e0]
  refine Tot.bind (Aia (l.getD j Aga) hm s0 s1) ?_
  intro r hr
  exact Tot.dite (λ hc=>Tot.pure (no _ (by decide))) (λ hc=>yes r hr (by omega))
theorem T4 (l:List ByteArray) (h:Sz l) {n:Int} (h0:0≤n) (h1:n≤Ej):Tot (λ k=>C3 k l n) (SzR n (T2 l)):=by
 have hh:=h.1
 unfold C3
 refine R5 h.1 h0 h1 (λ h2 h3=>?_)
 simp only [HgL,Te,Ej] at hh h1
 rw [w64 (n:=n - (l.length:Int)) (by omega) (by omega)]
 refine Pv Uu l Y1 ?_ ?_ h3 (by simp only [Ej]; omega)
 ·intro s
  simp (disch:=omega) only [B8,dF]
  exact Tot.pure rfl
 ·intro j s Q hj s0 s1 no yes
  have hm:(l.getD j Uu).size≤Te:=h.2 _ (Bi (d:=Uu) hj)
  have e0:l.getD j (⟨#[]⟩:ByteArray)=l.getD j Uu:=rfl
  simp only [Te] at hm
  simp only [Ej] at s1
  simp (disch:=omega) only [B8,dT,Int.toNat_natCast,w64,e0]
  exact Tot.dite (λ hc=>Tot.pure (no _ (by decide))) (λ hc=>yes _ (.inr ⟨by omega,by omega,show ((l.getD j Uu).size:Int)≤1048576 by omega⟩) (by omega))
theorem Eba (x:Rng) (h:V4 x.2) {n:Int} (h0:0≤n) (h1:n≤Ej):Tot (λ k=>Er k x n) (SzR n (Ks x.2)):=SzR.last (Aja x.2 h h0 h1)
theorem Ala (w:Wld) (h:HgW w) {n:Int} (h0:0≤n) (h1:n≤Ej):Tot (λ k=>Dh k w n) (SzR n (SmW w)):=by
 unfold Dh
 refine SzR.imp (SzR.then (E6a w.1 h.1.1 h0 h1) (λ a a0 a1=>SzR.then (Eba w.2.1 h.2.1 a0 (Int.le_trans a1 h1)) (λ b b0 b1=>SzR.then (Aka w.2.2.1 h.2.2.1 b0 (Int.le_trans b1 (Int.le_trans a1 h1))) (λ c c0 c1=>
  SzR.then (V5 w.2.2.2.2.1 h.2.2.2.1 c0 (Int.le_trans c1 (Int.le_trans b1 (Int.le_trans a1 h1)))) (λ d d0 d1=>SzR.last (T4 w.2.2.2.2.2 h.2.2.2.2 d0 (Int.le_trans d1 (Int.le_trans c1 (Int.le_trans b1 (Int.le_trans a1 h1)))))))))) ?_
 rintro ⟨a,b,c,d,e⟩
 exact ⟨⟨a,λ _ _=>trivial⟩,b,c,d,e⟩
theorem Eca {α:Type} {l s:List α} {j:Nat} {z d:α} (hj:j<l.length) (h:s=l.take j++List.replicate (l.length - j) z):s.set j (l.getD j d)=l.take (j+1)++List.replicate (l.length - (j+1)) z:=by
 have hl:(l.take j).length=j:=by rw [List.length_take]; omega
 rw [h,show l.length - j=(l.length - (j+1))+1 by omega,List.replicate_succ,List.set_append_right _ _ (by omega),hl,Nat.sub_self,List.set_cons_zero,List.take_succ_eq_append_getElem hj,List.append_assoc,List.getD_eq_getElem?_getD,List.getElem?_eq_getElem hj]
 rfl
theorem Lr {α:Type} (d z:α) (l:List α) {L:Nat→List α→Int→Option (List α)} (hend:∀ s,Tot (λ k=>L (k+1) s (l.length:Int)) (λ r=>r=s))
  (Mt:∀ (j:Nat) (s:List α) (Q:List α→Prop),j<l.length→s.length=l.length→Tot (λ k=>L k (s.set j (l.getD j d)) ((j:Int)+1)) Q→Tot (λ k=>L (k+1) s (j:Int)) Q):
  Tot (λ k=>L k (List.replicate l.length z) 0) (λ r=>r=l):=by
 refine Tot.up (L:=λ k i (s:List α)=>L k s i) l.length (λ j s=>s=l.take j++List.replicate (l.length - j) z) ?_ ?_ 0 _ (Nat.zero_le _) (by rw [List.take_zero,List.nil_append,Nat.sub_zero])
 ·rintro s h
  rw [Nat.sub_self,List.take_length,List.replicate_zero,List.append_nil] at h
  exact (hend s).mono (by rintro r rfl; exact h)
 ·rintro j s hj h next
  refine Mt j s _ hj ?_ (next _ (Eca hj h))
  rw [h,List.length_append,List.length_take,List.length_replicate]
  omega
theorem Ls {n:Nat} {R:Type} {e:R} {L:Nat→Int→Option R} (hend:Tot (λ k=>L (k+1) (n:Int)) (λ r=>r=e)) (Mt:∀ (j:Nat) (Q:R→Prop),j<n→Tot (λ k=>L k ((j:Int)+1)) Q→Tot (λ k=>L (k+1) (j:Int)) Q):
  Tot (λ k=>L k 0) (λ r=>r=e):=
 Tot.up (L:=λ k i (_:Unit)=>L k i) n (λ _ _=>True) (λ _ _=>hend) (λ j _ hj _ next=>Mt j _ hj (next () trivial)) 0 () (Nat.zero_le _) trivial
theorem Eda (l:List Dev) (h:SmL l):Tot (λ k=>C9 k l) (λ r=>r=l):=by
 have hl:(l.length:Int)≤1048576:=h
 unfold C9
 simp (disch:=omega) only [dT,Int.toNat_natCast]
 refine Tot.bind (Q:=λ r=>r=l) ?_ (by rintro r rfl; exact Tot.pure rfl)
 refine Lr (L:=λ k s i=>Cg k l s i) Lxa _ l ?_ ?_
 ·intro s
  simp (disch:=omega) only [Cg,dF]
  exact Tot.pure rfl
 ·intro j s Q hj hs next
  have e0:l.getD j ((0:Int),((0:Int),(0:Int)))=l.getD j Lxa:=rfl
  simp (disch:=omega) only [Cg,dT,Int.toNat_natCast,w64,e0,Fs,An,Option.bind_some]
  exact next
theorem Eea (l:List Int) (h:SmL l):Tot (λ k=>Dy k l) (λ r=>r=l):=by
 have hl:(l.length:Int)≤1048576:=h
 unfold Dy
 simp (disch:=omega) only [dT,Int.toNat_natCast]
 refine Tot.bind (Q:=λ r=>r=l) ?_ (by rintro r rfl; exact Tot.pure rfl)
 refine Lr (L:=λ k s i=>Ch k l s i) (0:Int) _ l ?_ ?_
 ·intro s
  simp (disch:=omega) only [Ch,dF]
  exact Tot.pure rfl
 ·intro j s Q hj hs next
  simp (disch:=omega) only [Ch,dT,Int.toNat_natCast,w64]
  exact next
theorem Py (l:List Int) (h:SmL l):Tot (λ k=>Br k l) (λ r=>r=l):=by
 have hl:(l.length:Int)≤1048576:=h
 unfold Br
 simp (disch:=omega) only [dT,Int.toNat_natCast]
 refine Tot.bind (Q:=λ r=>r=l) ?_ (by rintro r rfl; exact Tot.pure rfl)
 refine Lr (L:=λ k s i=>Bq k l s i) (0:Int) _ l ?_ ?_
 ·intro s
  simp (disch:=omega) only [Bq,dF]
  exact Tot.pure rfl
 ·intro j s Q hj hs next
  simp (disch:=omega) only [Bq,dT,Int.toNat_natCast,w64]
  exact next
theorem Efa (x:List Int) (h:T0 x):Tot (λ k=>Ew k x) (λ r=>r=x):=Tot.bind (Eea x h) (by rintro r rfl; exact Tot.pure rfl)
theorem Ama (l:List (List Int)) (h:Ks l):Tot (λ k=>Bd k l) (λ r=>r=l):=by
 have hl:(l.length:Int)≤1048576:=h.1
 unfold Bd
 simp (disch:=omega) only [dT,Int.toNat_natCast]
 refine Tot.bind (Q:=λ r=>r=l) ?_ (by rintro r rfl; exact Tot.pure rfl)
 refine Lr (L:=λ k s i=>Bp k l s i) [] _ l ?_ ?_
 ·intro s
  simp (disch:=omega) only [Bp,dF]
  exact Tot.pure rfl
 ·intro j s Q hj hs next
  simp (disch:=omega) only [Bp,dT,Int.toNat_natCast,w64]
  refine Tot.bind (Efa _ (h.2 _ (Bi (d:=[]) hj))) ?_
  rintro r rfl
  exact next
theorem Ega (x:Rng) (h:Ks x.2):Tot (λ k=>Ey k x) (λ r=>r=x):=Tot.bind (Ama x.2 h) (by rintro r rfl; exact Tot.pure rfl)
theorem Ana (x:Nmd) (h:Og x):Tot (λ k=>E8 k x) (λ r=>r=x):=Tot.bind (Py x.2 h.2) (by rintro r rfl; exact Tot.pure rfl)
theorem Oj (l:List Nmd) (h:Gl l):Tot (λ k=>Am k l) (λ r=>r=l):=by
 have hl:(l.length:Int)≤1048576:=h.1
 unfold Am
 simp (disch:=omega) only [dT,Int.toNat_natCast]
 refine Tot.bind (Q:=λ r=>r=l) ?_ (by rintro r rfl; exact Tot.pure rfl)
 refine Lr (L:=λ k s i=>B4 k l s i) Lq _ l ?_ ?_
 ·intro s
  simp (disch:=omega) only [B4,dF]
  exact Tot.pure rfl
 ·intro j s Q hj hs next
  have e0:l.getD j ((⟨#[]⟩:ByteArray),[])=l.getD j Lq:=rfl
  simp (disch:=omega) only [B4,dT,Int.toNat_natCast,w64,e0]
  refine Tot.bind (Ana _ (h.2 _ (Bi (d:=Lq) hj))) ?_
  rintro r rfl
  exact next
theorem Eha (x:Dsk) (h:Gl x.1∧Gl x.2):Tot (λ k=>Ez k x) (λ r=>r=x):=Tot.bind (Oj x.1 h.1) (by rintro r rfl; exact Tot.bind (Oj x.2 h.2) (by rintro r rfl; exact Tot.pure rfl))
theorem T5 (l:List Row) (h:Pw l):Tot (λ k=>Bs k l) (λ r=>r=l):=by
 have hl:(l.length:Int)≤1048576:=h.1
 unfold Bs
 simp (disch:=omega) only [dT,Int.toNat_natCast]
 refine Tot.bind (Q:=λ r=>r=l) ?_ (by rintro r rfl; exact Tot.pure rfl)
 refine Lr (L:=λ k s i=>Ci k l s i) Jba _ l ?_ ?_
 ·intro s
  simp (disch:=omega) only [Ci,dF]
  exact Tot.pure rfl
 ·intro j s Q hj hs next
  have e0:l.getD j ((⟨#[]⟩:ByteArray),(((0:Int),((0:Int),(0:Int))),(false,(0:Int))))=l.getD j Jba:=rfl
  simp (disch:=omega) only [Ci,dT,Int.toNat_natCast,w64,e0,Ft,An,Option.bind_some]
  exact next
theorem Eia (x:Nod) (h:T1 x):Tot (λ k=>F3 k x) (λ r=>r=x):=Tot.bind (Eha x.2.1 h.1) (by rintro r rfl; exact Tot.bind (T5 _ h.2.1) (by rintro r rfl; exact Tot.bind (T5 _ h.2.2) (by rintro r rfl; exact Tot.pure rfl)))
theorem Aoa (l:List Nod) (h:R6 l):Tot (λ k=>Be k l) (λ r=>r=l):=by
 have hl:(l.length:Int)≤1048576:=h.1
 unfold Be
 simp (disch:=omega) only [dT,Int.toNat_natCast]
 refine Tot.bind (Q:=λ r=>r=l) ?_ (by rintro r rfl; exact Tot.pure rfl)
 refine Lr (L:=λ k s i=>Bt k l s i) V2 _ l ?_ ?_
 ·intro s
  simp (disch:=omega) only [Bt,dF]
  exact Tot.pure rfl
 ·intro j s Q hj hs next
  have e0:l.getD j ((0:Int),(([],[]),([],[])))=l.getD j V2:=rfl
  simp (disch:=omega) only [Bt,dT,Int.toNat_natCast,w64,e0]
  refine Tot.bind (Eia _ (h.2 _ (Bi (d:=V2) hj))) ?_
  rintro r rfl
  exact next
theorem Eja (x:Fil) (h:SmL x.2.2):Tot (λ k=>Ee k x) (λ r=>r=x):=by
 unfold Ee An
 simp only [Option.bind_some]
 exact Tot.bind (Py x.2.2 h) (by rintro r rfl; exact Tot.pure rfl)
theorem Apa (x:Wri) (h:Oh x):Tot (λ k=>E9 k x) (λ r=>r=x):=Tot.bind (Eja x.2.1 h.2) (by rintro r rfl; exact Tot.pure rfl)
theorem V6 (l:List Wri) (h:N7 l):Tot (λ k=>Au k l) (λ r=>r=l):=by
 have hl:(l.length:Int)≤1048576:=h.1
 unfold Au
 simp (disch:=omega) only [dT,Int.toNat_natCast]
 refine Tot.bind (Q:=λ r=>r=l) ?_ (by rintro r rfl; exact Tot.pure rfl)
 refine Lr (L:=λ k s i=>B5 k l s i) Aga _ l ?_ ?_
 ·intro s
  simp (disch:=omega) only [B5,dF]
  exact Tot.pure rfl
 ·intro j s Q hj hs next
  have e0:l.getD j ((⟨#[]⟩:ByteArray),((((0:Int),((0:Int),(0:Int))),(false,[])),false))=l.getD j Aga:=rfl
  simp (disch:=omega) only [B5,dT,Int.toNat_natCast,w64,e0]
  refine Tot.bind (Apa _ (h.2 _ (Bi (d:=Aga) hj))) ?_
  rintro r rfl
  exact next
theorem T6 (l:List ByteArray) (h:SmL l):Tot (λ k=>C4 k l) (λ r=>r=l):=by
 have hl:(l.length:Int)≤1048576:=h
 unfold C4
 simp (disch:=omega) only [dT,Int.toNat_natCast]
 refine Tot.bind (Q:=λ r=>r=l) ?_ (by rintro r rfl; exact Tot.pure rfl)
 refine Lr (L:=λ k s i=>Az k l s i) Uu _ l ?_ ?_
 ·intro s
  simp (disch:=omega) only [Az,dF]
  exact Tot.pure rfl
 ·intro j s Q hj hs next
  have e0:l.getD j (⟨#[]⟩:ByteArray)=l.getD j Uu:=rfl
  simp (disch:=omega) only [Az,dT,Int.toNat_natCast,w64,e0]
  exact next
theorem Mi (w:Wld) (h:SmW w):Tot (λ k=>Cy k w) (λ r=>r=w):=by
 unfold Cy An
 simp only [Option.bind_some]
 refine Tot.bind (Eda _ h.1.1) (by rintro r rfl; exact Tot.bind (Ega _ h.2.1) (by rintro r rfl; exact Tot.bind (Aoa _ h.2.2.1) (by rintro r rfl; exact Tot.bind (V6 _ h.2.2.2.1) (by rintro r rfl; exact Tot.bind (T6 _ h.2.2.2.2.1) (by rintro r rfl; exact Tot.pure rfl)))))
theorem Pz (x:Int):(x != x)=false:=by rw [bne,beq_self_eq_true]; rfl
theorem Lca (s:ByteArray):(s.toList==s.toList)=true:=beq_self_eq_true _
theorem Mj (x:Stp):B3 x x=some true:=by
 unfold B3
 rw [Pz,Pz,Pz]
 rfl
theorem Gya (x:Dev):Ff x x=some true:=by
 unfold Ff
 rw [Pz,Pz,Pz]
 rfl
theorem Eka (l:List Dev) (h:SmL l):Tot (λ k=>Ca k l l) (λ r=>r=true):=by
 have hl:(l.length:Int)≤1048576:=h
 unfold Ca
 refine Tot.no (Pz _) (Tot.bind (Q:=λ r=>r = .inr ()) ?_ (by rintro r rfl; exact Tot.pure rfl))
 refine Ls (L:=λ k i=>Cl k l l i) (n:=l.length) ?_ ?_
 ·simp (disch:=omega) only [Cl,dF]
  exact Tot.pure rfl
 ·intro j Q hj next
  have e0:l.getD j ((0:Int),((0:Int),(0:Int)))=l.getD j Lxa:=rfl
  simp (disch:=omega) only [Cl,dT,Int.toNat_natCast,w64,e0,Gya,Option.bind_some]
  exact Tot.no rfl next
theorem Ela (l:List Int) (h:SmL l):Tot (λ k=>E3 k l l) (λ r=>r=true):=by
 have hl:(l.length:Int)≤1048576:=h
 unfold E3
 refine Tot.no (Pz _) (Tot.bind (Q:=λ r=>r = .inr ()) ?_ (by rintro r rfl; exact Tot.pure rfl))
 refine Ls (L:=λ k i=>Cm k l l i) (n:=l.length) ?_ ?_
 ·simp (disch:=omega) only [Cm,dF]
  exact Tot.pure rfl
 ·intro j Q hj next
  simp (disch:=omega) only [Cm,dT,Int.toNat_natCast,w64]
  exact Tot.no (Pz _) next
theorem Q0 (l:List Int) (h:SmL l):Tot (λ k=>Bx k l l) (λ r=>r=true):=by
 have hl:(l.length:Int)≤1048576:=h
 unfold Bx
 refine Tot.no (Pz _) (Tot.bind (Q:=λ r=>r = .inr ()) ?_ (by rintro r rfl; exact Tot.pure rfl))
 refine Ls (L:=λ k i=>Bw k l l i) (n:=l.length) ?_ ?_
 ·simp (disch:=omega) only [Bw,dF]
  exact Tot.pure rfl
 ·intro j Q hj next
  simp (disch:=omega) only [Bw,dT,Int.toNat_natCast,w64]
  exact Tot.no (Pz _) next
theorem Ema (x:List Int) (h:T0 x):Tot (λ k=>F4 k x x) (λ r=>r=true):=Tot.bind (Ela x h) (by rintro r rfl; exact Tot.pure rfl)
theorem Aqa (l:List (List Int)) (h:Ks l):Tot (λ k=>Bf k l l) (λ r=>r=true):=by
 have hl:(l.length:Int)≤1048576:=h.1
 unfold Bf
 refine Tot.no (Pz _) (Tot.bind (Q:=λ r=>r = .inr ()) ?_ (by rintro r rfl; exact Tot.pure rfl))
 refine Ls (L:=λ k i=>Bv k l l i) (n:=l.length) ?_ ?_
 ·simp (disch:=omega) only [Bv,dF]
  exact Tot.pure rfl
 ·intro j Q hj next
  simp (disch:=omega) only [Bv,dT,Int.toNat_natCast,w64]
  refine Tot.bind (Ema _ (h.2 _ (Bi (d:=[]) hj))) ?_
  rintro r rfl
  exact Tot.no rfl next
theorem Ena (x:Rng) (h:Ks x.2):Tot (λ k=>F5 k x x) (λ r=>r=true):=Tot.no (Pz _) (Tot.bind (Aqa x.2 h) (by rintro r rfl; exact Tot.pure rfl))
theorem Ara (x:Nmd) (h:Og x):Tot (λ k=>Ea k x x) (λ r=>r=true):=Tot.no (by rw [Lca]; rfl) (Tot.bind (Q0 x.2 h.2) (by rintro r rfl; exact Tot.pure rfl))
theorem Ol (l:List Nmd) (h:Gl l):Tot (λ k=>Ap k l l) (λ r=>r=true):=by
 have hl:(l.length:Int)≤1048576:=h.1
 unfold Ap
 refine Tot.no (Pz _) (Tot.bind (Q:=λ r=>r = .inr ()) ?_ (by rintro r rfl; exact Tot.pure rfl))
 refine Ls (L:=λ k i=>B6 k l l i) (n:=l.length) ?_ ?_
 ·simp (disch:=omega) only [B6,dF]
  exact Tot.pure rfl
 ·intro j Q hj next
  have e0:l.getD j ((⟨#[]⟩:ByteArray),[])=l.getD j Lq:=rfl
  simp (disch:=omega) only [B6,dT,Int.toNat_natCast,w64,e0]
  refine Tot.bind (Ara _ (h.2 _ (Bi (d:=Lq) hj))) ?_
  rintro r rfl
  exact Tot.no rfl next
theorem Eoa (x:Dsk) (h:Gl x.1∧Gl x.2):Tot (λ k=>F6 k x x) (λ r=>r=true):=Tot.bind (Ol x.1 h.1) (by rintro r rfl; exact Tot.no rfl (Tot.bind (Ol x.2 h.2) (by rintro r rfl; exact Tot.pure rfl)))
theorem Gza (x:Row):Fg x x=some true:=by
 unfold Fg
 rw [Lca,Mj,beq_self_eq_true,Pz]
 rfl
theorem T7 (l:List Row) (h:Pw l):Tot (λ k=>Bz k l l) (λ r=>r=true):=by
 have hl:(l.length:Int)≤1048576:=h.1
 unfold Bz
 refine Tot.no (Pz _) (Tot.bind (Q:=λ r=>r = .inr ()) ?_ (by rintro r rfl; exact Tot.pure rfl))
 refine Ls (L:=λ k i=>Cn k l l i) (n:=l.length) ?_ ?_
 ·simp (disch:=omega) only [Cn,dF]
  exact Tot.pure rfl
 ·intro j Q hj next
  have e0:l.getD j ((⟨#[]⟩:ByteArray),(((0:Int),((0:Int),(0:Int))),(false,(0:Int))))=l.getD j Jba:=rfl
  simp (disch:=omega) only [Cn,dT,Int.toNat_natCast,w64,e0,Gza,Option.bind_some]
  exact Tot.no rfl next
theorem Epa (x:Nod) (h:T1 x):Tot (λ k=>F7 k x x) (λ r=>r=true):=Tot.no (Pz _) (Tot.bind (Eoa x.2.1 h.1) (by rintro r rfl; exact Tot.no rfl (Tot.bind (T7 _ h.2.1) (by rintro r rfl; exact Tot.no rfl (Tot.bind (T7 _ h.2.2) (by rintro r rfl; exact Tot.pure rfl))))))
theorem Asa (l:List Nod) (h:R6 l):Tot (λ k=>Bg k l l) (λ r=>r=true):=by
 have hl:(l.length:Int)≤1048576:=h.1
 unfold Bg
 refine Tot.no (Pz _) (Tot.bind (Q:=λ r=>r = .inr ()) ?_ (by rintro r rfl; exact Tot.pure rfl))
 refine Ls (L:=λ k i=>C0 k l l i) (n:=l.length) ?_ ?_
 ·simp (disch:=omega) only [C0,dF]
  exact Tot.pure rfl
 ·intro j Q hj next
  have e0:l.getD j ((0:Int),(([],[]),([],[])))=l.getD j V2:=rfl
  simp (disch:=omega) only [C0,dT,Int.toNat_natCast,w64,e0]
  refine Tot.bind (Epa _ (h.2 _ (Bi (d:=V2) hj))) ?_
  rintro r rfl
  exact Tot.no rfl next
theorem Eqa (x:Fil) (h:SmL x.2.2):Tot (λ k=>Eh k x x) (λ r=>r=true):=by
 unfold Eh
 simp only [Mj,Option.bind_some]
 exact Tot.no rfl (Tot.no (by rw [beq_self_eq_true]; rfl) (Tot.bind (Q0 x.2.2 h) (by rintro r rfl; exact Tot.pure rfl)))
theorem Ata (x:Wri) (h:Oh x):Tot (λ k=>Eb k x x) (λ r=>r=true):=Tot.no (by rw [Lca]; rfl) (Tot.bind (Eqa x.2.1 h.2) (by rintro r rfl; exact Tot.no rfl (Tot.no (by rw [beq_self_eq_true]; rfl) (Tot.pure rfl))))
theorem V7 (l:List Wri) (h:N7 l):Tot (λ k=>Av k l l) (λ r=>r=true):=by
 have hl:(l.length:Int)≤1048576:=h.1
 unfold Av
 refine Tot.no (Pz _) (Tot.bind (Q:=λ r=>r = .inr ()) ?_ (by rintro r rfl; exact Tot.pure rfl))
 refine Ls (L:=λ k i=>B7 k l l i) (n:=l.length) ?_ ?_
 ·simp (disch:=omega) only [B7,dF]
  exact Tot.pure rfl
 ·intro j Q hj next
  have e0:l.getD j ((⟨#[]⟩:ByteArray),((((0:Int),((0:Int),(0:Int))),(false,[])),false))=l.getD j Aga:=rfl
  simp (disch:=omega) only [B7,dT,Int.toNat_natCast,w64,e0]
  refine Tot.bind (Ata _ (h.2 _ (Bi (d:=Aga) hj))) ?_
  rintro r rfl
  exact Tot.no rfl next
theorem T8 (l:List ByteArray) (h:SmL l):Tot (λ k=>C6 k l l) (λ r=>r=true):=by
 have hl:(l.length:Int)≤1048576:=h
 unfold C6
 refine Tot.no (Pz _) (Tot.bind (Q:=λ r=>r = .inr ()) ?_ (by rintro r rfl; exact Tot.pure rfl))
 refine Ls (L:=λ k i=>B1 k l l i) (n:=l.length) ?_ ?_
 ·simp (disch:=omega) only [B1,dF]
  exact Tot.pure rfl
 ·intro j Q hj next
  have e0:l.getD j (⟨#[]⟩:ByteArray)=l.getD j Uu:=rfl
  simp (disch:=omega) only [B1,dT,Int.toNat_natCast,w64,e0]
  exact Tot.no (by rw [Lca]; rfl) next
theorem Aua (w:Wld) (h:SmW w):Tot (λ k=>Dv k w w) (λ r=>r=true):=by
 unfold Dv
 simp only [Mj,Option.bind_some]
 refine Tot.bind (Eka _ h.1.1) ?_
 rintro r rfl
 refine Tot.no rfl (Tot.bind (Ena _ h.2.1) ?_)
 rintro r rfl
 refine Tot.no rfl (Tot.bind (Asa _ h.2.2.1) ?_)
 rintro r rfl
 refine Tot.no rfl (Tot.no rfl (Tot.bind (V7 _ h.2.2.2.1) ?_))
 rintro r rfl
 refine Tot.no rfl (Tot.bind (T8 _ h.2.2.2.2.1) ?_)
 rintro r rfl
 exact Tot.no rfl (Tot.pure rfl)
def ByN (l:List Nmd):Prop:=∀ x∈l,Aq x.2
def ByW (w:Wld):Prop:=(∀ n∈w.2.2.1,ByN n.2.1.1∧ByN n.2.1.2)∧∀ x∈w.2.2.2.2.1,Aq x.2.1.2.2
theorem Om {l:List Nmd} (h:Gl l):(Lqa l∧Dua l)∧l.length≤2000000:=by
 have h1:(l.length:Int)≤1048576:=h.1
 refine ⟨⟨⟨by omega,λ x hx=>?_⟩,λ x hx=>?_⟩,by omega⟩
 ·have:(x.2.length:Int)≤1048576:=(h.2 x hx).2
  omega
 ·have:(x.1.size:Int)≤1048576:=(h.2 x hx).1
  show x.1.size≤_
  omega
theorem Y2 {l:List Row} (h:Pw l):RF l:=by
 have h1:(l.length:Int)≤1048576:=h.1
 refine ⟨by omega,λ x hx=>?_⟩
 have:(x.1.size:Int)≤1048576:=h.2 x hx
 show x.1.size≤_
 omega
theorem Jda {w:Wld} (h:SmW w) (hb:ByW w):WIn w:=by
 obtain ⟨⟨h1,_⟩,⟨h2,h3⟩,⟨h4,h5⟩,⟨h6,h7⟩,h8,h9⟩:=h
 simp only [SmL,Ej] at h1 h2 h4 h6 h8
 refine ⟨⟨by omega,λ p hp=>?_⟩,by omega,⟨by omega,λ n hn=>?_⟩,⟨by omega,λ x hx=>?_⟩,by omega,λ s hs=>?_⟩
 ·have:(p.length:Int)≤1048576:=h3 p hp
  omega
 ·obtain ⟨⟨a1,a2⟩,a3,a4⟩:=h5 n hn
  have b1:=Om a1
  have b2:=Om a2
  exact ⟨⟨⟨⟨⟨b1.1.1,b2.1.1⟩,b1.1.2,b2.1.2⟩,b1.2,b2.2⟩,hb.1 n hn⟩,Y2 a3,Y2 a4⟩
 ·have:(x.1.size:Int)≤1048576:=(h7 x hx).1
  show x.1.size≤_
  omega
 ·have:(s.size:Int)≤1048576:=h9 s hs
  show s.size≤_
  omega

def tyB (ti:TypeId→Option TI) (e:TypeId):Bool:=match ti e with
 |some te=>Nat.ble 1 te.by_
 |none=>false
section
variable {ti:TypeId→Option TI}
theorem Hw {e:TypeId} {r:Ty} {xs:List r.den} (h:Ty.fit ti (.sl e r) xs) (hk:tyB ti e=true):HgL xs:=by
 unfold tyB at hk
 split at hk
 ·rename_i te ht
  have h1:=h.1 te ht
  have h2:=Nat.le_of_ble_eq_true hk
  show xs.length≤140737488351232
  exact Nat.le_trans (Nat.le_mul_of_pos_right _ (by omega)) h1
 ·cases hk
abbrev Lda:Ty := .pr (.i .i64) (.pr (.i .i64) (.i .i64))
abbrev byT (b:TypeId):Ty := .sl b (.i .u8)
abbrev M5a (b:TypeId):Ty := .pr .s (byT b)
abbrev Mna (b n:TypeId):Ty := .pr (.sl n (M5a b)) (.sl n (M5a b))
abbrev M6a:Ty := .pr .s (.pr Lda (.pr .b (.i .i64)))
abbrev Moa (b:TypeId):Ty := .pr Lda (.pr .b (byT b))
abbrev Mpa (b n r:TypeId):Ty := .pr (.i .i64) (.pr (Mna b n) (.pr (.sl r M6a) (.sl r M6a)))
abbrev Mqa (b:TypeId):Ty := .pr .s (.pr (Moa b) .b)
abbrev Mra (d p i b n r m v s:TypeId):Ty := .pr (.sl d Lda) (.pr (.pr (.i .i64) (.sl p (.sl i (.i .i64)))) (.pr (.sl m (Mpa b n r)) (.pr Lda (.pr (.sl v (Mqa b)) (.sl s .s)))))
theorem T9 {b:TypeId} {xs:List Int} (h:Ty.fit ti (byT b) xs):Aq xs:=λ x hx=>by
 have:=h.2 x hx
 have h1:(decide (IntKind.min .u8≤x)&&decide (x≤IntKind.max .u8))=true:=this
 rw [Bool.and_eq_true,decide_eq_true_iff,decide_eq_true_iff] at h1
 exact h1
theorem Lt {b n:TypeId} {l:List Nmd} (h:Ty.fit ti (.sl n (M5a b)) l) (hb:tyB ti b=true) (hn:tyB ti n=true):Jv l∧ByN l:=
 ⟨⟨Hw h hn,λ x hx=>⟨Nat.le_trans (h.2 x hx).1 (by decide),Hw (h.2 x hx).2 hb⟩⟩,λ x hx=>T9 (h.2 x hx).2⟩
theorem Y3 {r:TypeId} {l:List Row} (h:Ty.fit ti (.sl r M6a) l) (hr:tyB ti r=true):Xz l:=⟨Hw h hr,λ x hx=>Nat.le_trans (h.2 x hx).1 (by decide)⟩
theorem Msa {d p i b n r m v s:TypeId} {w:Wld} (hk:(tyB ti d&&(tyB ti p&&(tyB ti i&&(tyB ti b&&(tyB ti n&&(tyB ti r&&(tyB ti m&&(tyB ti v&&tyB ti s))))))))=true) (h:Ty.fit ti (Mra d p i b n r m v s) w):HgW w∧ByW w:=by
 simp only [Bool.and_eq_true] at hk
 obtain ⟨kd,kp,ki,kb,kn,kr,km,kv,ks⟩:=hk
 obtain ⟨h1,⟨_,h2⟩,h3,_,h4,h5⟩:=h
 refine ⟨⟨⟨Hw h1 kd,λ _ _=>trivial⟩,⟨Hw h2 kp,λ x hx=>Hw (h2.2 x hx) ki⟩,⟨Hw h3 km,λ x hx=>?_⟩,⟨Hw h4 kv,λ x hx=>⟨Nat.le_trans (h4.2 x hx).1 (by decide),Hw (h4.2 x hx).2.1.2.2 kb⟩⟩,Hw h5 ks,λ x hx=>Nat.le_trans (h5.2 x hx) (by decide)⟩,λ x hx=>?_,λ x hx=>T9 (h4.2 x hx).2.1.2.2⟩
 ·obtain ⟨_,⟨a1,a2⟩,a3,a4⟩:=h3.2 x hx
  exact ⟨⟨(Lt a1 kb kn).1,(Lt a2 kb kn).1⟩,Y3 a3 kr,Y3 a4 kr⟩
 ·obtain ⟨_,⟨a1,a2⟩,_,_⟩:=h3.2 x hx
  exact ⟨(Lt a1 kb kn).2,(Lt a2 kb kn).2⟩
end

end Go.Proofs.Ytlfoljnopndpeaa.Vf

section
set_option linter.unusedVariables false
set_option linter.unusedSimpArgs false
namespace Go.Proofs.Ytlfoljnopndpeaa.Pure
open Go Go.RowKit Go.Proofs.Ytlfoljnopndpeaa.Vf
theorem FnExactKept:∀ (a0:(List (Int×Int×Int))×(Int×(List (List Int)))×(List (Int×((List (ByteArray×(List Int)))×(List (ByteArray×(List Int))))×(List (ByteArray×(Int×Int×Int)×Bool×Int))×(List (ByteArray×(Int×Int×Int)×Bool×Int))))×(Int×Int×Int)×(List (ByteArray×((Int×Int×Int)×Bool×(List Int))×Bool))×(List ByteArray)),Ty.fit ti (.pr (.sl 100 (.pr (.i .i64) (.pr (.i .i64) (.i .i64)))) (.pr (.pr (.i .i64) (.sl 111 (.sl 3 (.i .i64)))) (.pr (.sl 79 (.pr (.i .i64) (.pr (.pr (.sl 163 (.pr .s (.sl 5 (.i .u8)))) (.sl 163 (.pr .s (.sl 5 (.i .u8))))) (.pr (.sl 141 (.pr .s (.pr (.pr (.i .i64) (.pr (.i .i64) (.i .i64))) (.pr .b (.i .i64))))) (.sl 141 (.pr .s (.pr (.pr (.i .i64) (.pr (.i .i64) (.i .i64))) (.pr .b (.i .i64))))))))) (.pr (.pr (.i .i64) (.pr (.i .i64) (.i .i64))) (.pr (.sl 84 (.pr .s (.pr (.pr (.pr (.i .i64) (.pr (.i .i64) (.i .i64))) (.pr .b (.sl 5 (.i .u8)))) .b))) (.sl 9 .s)))))) a0→∃ k,C7 k a0=some true:=by
 intro a0 f0
 obtain ⟨hg,hb⟩:=Msa (by kernel_rfl) f0
 refine Tot.law (f:=λ k=>C7 k a0) ?_
 unfold C7
 refine Tot.bind (Ala a0 hg (by decide) (by decide)) ?_
 intro r hr
 refine Tot.dite (λ _=>Tot.pure rfl) (λ h=>?_)
 rcases hr with hr|⟨_,_,hs⟩
 ·exact absurd hr h
 have hw:=Jda hs hb
 refine Tot.bind (Mi a0 hs) ?_
 rintro _ rfl
 refine Tot.bind (Gva _ hw) ?_
 rintro _ rfl
 refine Tot.bind (Mi _ hs) ?_
 rintro w rfl
 refine Tot.bind (Gua w hw) ?_
 rintro _ rfl
 refine Tot.no (by rw [beq_self_eq_true]; rfl) (Tot.bind (Mi w hs) ?_)
 rintro _ rfl
 refine Tot.bind (Aua _ hs) ?_
 rintro _ rfl
 exact Tot.pure rfl
end Go.Proofs.Ytlfoljnopndpeaa.Pure
end
