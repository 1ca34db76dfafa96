import Derived.Test.YtmhhjceoinoekaaGreatMam
import Derived.Test.YtmhhjceoinoekaaGreatMal
set_option linter.unusedVariables false
set_option linter.unusedSimpArgs false
namespace Go.Proofs.YtmhhjceoinoekaaGreat.Vf
open Go

abbrev Nod:=Int×Dsk×List Row×List Row
def qOk (l:List Row):Bool:=l.all Ng
def N8 (n:Nod):Bool:=qOk n.2.2.2&&(inR n.1 0 20&&(B4 n.2.1&&(M0 n.2.2.1&&decide ((n.2.2.2.length:Int)≤60))))
def RF (l:List Row):Prop:=l.length≤2000000∧U1 l
def NIn (n:Nod):Prop:=(DIn n.2.1∧DB n.2.1)∧RF n.2.2.1∧RF n.2.2.2
def NG (n:Nod):Prop:=N8 n=true∧DB n.2.1
theorem Ee {n:Nod}:N8 n=true↔(∀ r∈n.2.2.2,Ng r=true)∧(0≤n.1∧n.1≤20)∧B4 n.2.1=true∧M0 n.2.2.1=true∧n.2.2.2.length≤60:=by
 unfold N8 qOk
 simp only [Bool.and_eq_true,List.all_eq_true,Fh,decide_eq_true_iff]
 constructor
 ·rintro ⟨h1,h2,h3,h4,h5⟩; exact ⟨h1,h2,h3,h4,by omega⟩
 ·rintro ⟨h1,h2,h3,h4,h5⟩; exact ⟨h1,h2,h3,h4,by omega⟩
theorem S7a {l:List Row} (h:M0 l=true):RF l:=by
 obtain ⟨_,h2,h3⟩:=O9.1 h
 exact ⟨by omega,λ r hr=>Ir (Cda (h2 r hr))⟩
theorem Gla {n:Nod} (h:NG n):NIn n:=by
 obtain ⟨h1,_,h3,h4,h5⟩:=Ee.1 h.1
 exact ⟨⟨Pq h3,h.2⟩,S7a h4,by omega,λ r hr=>Ir (Cda (h1 r hr))⟩
theorem NG.g {n:Nod} (h:NG n):DG n.2.1:=⟨(Ee.1 h.1).2.2.1,h.2⟩
theorem M3a (n:Nod) (hn:NIn n):Tot (λ k=>Eg k n) (λ r=>r=N8 n):=by
 obtain ⟨i,⟨a,b⟩,ro,q⟩:=n
 obtain ⟨⟨hd,_⟩,hr,hq⟩:=hn
 dsimp only at hd hr hq
 unfold Eg
 have hl:=hq.1
 refine Tot.bind (Q:=λ r=>r=bif qOk q then .inr (i,a,b,ro,q) else .inl false) ?_ ?_
 ·refine Tot.up (L:=λ k i' (_:Unit)=>H8 k q (q.length:Int) i' i a b ro q) (Q:=λ r=>r=bif qOk q then .inr (i,a,b,ro,q) else .inl false) q.length (λ j _=>(q.drop j).all Ng=q.all Ng) ?_ ?_ 0 () (Nat.zero_le _) (by rw [List.drop_zero])
  ·intro _ hj
   rw [List.drop_length] at hj
   simp only [H8]
   exact Tot.ndec (by omega) (Tot.pure (by unfold qOk; rw [← hj]; rfl))
  ·intro j _ hj hi next
   simp only [H8]
   rw [Al (d:=Nb) hj,List.all_cons] at hi
   refine Tot.dec (by omega) (Tot.dec (by omega) (Tot.dec (by omega) ?_))
   rw [Int.toNat_natCast,w64 (n:=(j:Int)+1) (by omega) (by omega)]
   refine Tot.bind (Rca (q.getD j Nb) (hq.2 _ (A3 hj))) ?_
   rintro r rfl
   cases hc:Ng (q.getD j Nb) with
   |false=>exact Tot.yes rfl (Tot.pure (by unfold qOk; rw [← hi,hc]; rfl))
   |true=>exact Tot.no rfl (next () (by rw [hc,Bool.true_and] at hi; exact hi))
 ·rintro r rfl
  unfold N8
  dsimp only
  cases qOk q with
  |false=>exact Tot.pure rfl
  |true=>
   simp only [cond_true,Sum.elim_inr,Bool.true_and]
   refine Tot.bind (Tot.of (Q:=λ r=>r=inR i 0 20) (Tw _ _ _) rfl) ?_
   rintro r rfl
   cases inR i 0 20 with
   |false=>exact Tot.no rfl (Tot.pure rfl)
   |true=>
    refine Tot.yes rfl (Tot.bind (Xk (a,b) hd.1.1 hd.1.2) ?_)
    rintro r rfl
    cases B4 (a,b) with
    |false=>exact Tot.no rfl (Tot.pure rfl)
    |true=>
     refine Tot.yes rfl (Tot.bind (Vba ro (by have:=hr.1; unfold Few; omega) hr.2) ?_)
     rintro r rfl
     cases M0 ro with
     |false=>exact Tot.no rfl (Tot.pure rfl)
     |true=>exact Tot.yes rfl (Tot.pure rfl)
theorem M4a (n:Nod) (hn:NIn n):Tot (λ k=>Ej k n) (λ r=>r=N8 n):=by
 obtain ⟨i,⟨a,b⟩,ro,q⟩:=n
 obtain ⟨⟨hd,_⟩,hr,hq⟩:=hn
 dsimp only at hd hr hq
 unfold Ej
 have hl:=hq.1
 refine Tot.bind (Q:=λ r=>r=bif qOk q then .inr (i,a,b,ro,q) else .inl false) ?_ ?_
 ·refine Tot.up (L:=λ k i' (_:Unit)=>Hg k i' i a b ro q) (Q:=λ r=>r=bif qOk q then .inr (i,a,b,ro,q) else .inl false) q.length (λ j _=>(q.drop j).all Ng=q.all Ng) ?_ ?_ 0 () (Nat.zero_le _) (by rw [List.drop_zero])
  ·intro _ hj
   rw [List.drop_length] at hj
   simp only [Hg]
   exact Tot.ndec (by omega) (Tot.pure (by unfold qOk; rw [← hj]; rfl))
  ·intro j _ hj hi next
   simp only [Hg]
   rw [Al (d:=Nb) hj,List.all_cons] at hi
   refine Tot.dec (by omega) (Tot.dec (by omega) (Tot.dec (by omega) ?_))
   rw [Int.toNat_natCast,w64 (n:=(j:Int)+1) (by omega) (by omega)]
   refine Tot.bind (Rda (q.getD j Nb) (hq.2 _ (A3 hj))) ?_
   rintro r rfl
   cases hc:Ng (q.getD j Nb) with
   |false=>exact Tot.yes rfl (Tot.pure (by unfold qOk; rw [← hi,hc]; rfl))
   |true=>exact Tot.no rfl (next () (by rw [hc,Bool.true_and] at hi; exact hi))
 ·rintro r rfl
  unfold N8
  dsimp only
  cases qOk q with
  |false=>exact Tot.pure rfl
  |true=>
   simp only [cond_true,Sum.elim_inr,Bool.true_and]
   refine Tot.bind (Tot.of (Q:=λ r=>r=inR i 0 20) (Nz _ _ _) rfl) ?_
   rintro r rfl
   cases inR i 0 20 with
   |false=>exact Tot.no rfl (Tot.pure rfl)
   |true=>
    refine Tot.yes rfl (Tot.bind (Qa (a,b) hd.1.1 hd.1.2) ?_)
    rintro r rfl
    cases B4 (a,b) with
    |false=>exact Tot.no rfl (Tot.pure rfl)
    |true=>
     refine Tot.yes rfl (Tot.bind (Vca ro (by have:=hr.1; unfold Few; omega) hr.2) ?_)
     rintro r rfl
     cases M0 ro with
     |false=>exact Tot.no rfl (Tot.pure rfl)
     |true=>exact Tot.yes rfl (Tot.pure rfl)
theorem W8 (n:Nod) (hn:NIn n):Tot (λ k=>Fn k n) (λ r=>r=n):=by
 unfold Fn
 have h1:=hn.2.1.1
 have h2:=hn.2.2.1
 refine Tot.bind (Kx n.2.1 hn.1.1.1.1) ?_
 rintro r rfl
 refine Tot.bind (Tot.of (Q:=λ r=>r=n.2.2.1) (Lha _ (by unfold Few; omega)) rfl) ?_
 rintro r rfl
 refine Tot.bind (Tot.of (Q:=λ r=>r=n.2.2.2) (Lha _ (by unfold Few; omega)) rfl) ?_
 rintro r rfl
 exact Tot.pure rfl
theorem W9 (n:Nod) (hn:NIn n):Tot (λ k=>H1 k n) (λ r=>r=n):=by
 unfold H1
 have h1:=hn.2.1.1
 have h2:=hn.2.2.1
 refine Tot.bind (M1 n.2.1 hn.1.1.1.1) ?_
 rintro r rfl
 refine Tot.ble (by simp only [List.length_nil]; omega) (Tot.ble (by simp only [List.length_nil]; omega) (Tot.pure ?_))
 rw [List.nil_append,List.nil_append]
theorem Nya (a b:List Row) (hf:a.length+b.length≤10000000000):Tot (λ k=>Ci k a b) (λ r=>r=C9a a b):=by
 unfold Ci
 refine Tot.ble (by simp only [List.length_nil]; omega) ?_
 rw [List.nil_append]
 refine Tot.bind (Q:=λ r=>r=C9a a b) ?_ (by rintro r rfl; exact Tot.pure rfl)
 refine Tot.up (L:=λ k i s=>Dt k b s i) (Q:=λ r=>r=C9a a b) b.length (λ i s=>C9a s (b.drop i)=C9a a b∧s.length≤a.length+i) ?_ ?_ 0 a (Nat.zero_le _) ⟨by rw [List.drop_zero],Nat.le_add_right _ _⟩
 ·rintro s ⟨hs,_⟩
  rw [List.drop_length] at hs
  simp only [Dt]
  exact Tot.ndec (by omega) (Tot.pure hs)
 ·rintro i s hi ⟨hs,hl⟩ next
  simp only [Dt]
  refine Tot.dec (by omega) (Tot.dec (by omega) (Tot.dec (by omega) ?_))
  rw [Int.toNat_natCast,w64 (n:=(i:Int)+1) (by omega) (by omega)]
  rw [Al (d:=Nb) hi] at hs
  refine Tot.bind (Rba s (b.getD i Nb) (by unfold Few; omega)) ?_
  rintro m rfl
  have:=Zsa s (b.getD i Nb)
  exact next _ ⟨hs,by omega⟩
theorem Jca {a b:List Row} (ha:M0 a=true) (hb:M0 b=true) (h:(C9a a b).length≤60):M0 (C9a a b)=true:=by
 obtain ⟨a1,a2,_⟩:=O9.1 ha
 obtain ⟨b1,b2,_⟩:=O9.1 hb
 exact O9.2 ⟨Iua a1,λ r hr=>(Lja hr).elim (a2 r) (b2 r),h⟩
theorem Nza (n:Nod) (l:List Row) (h1:n.2.2.1.length≤2000000) (h2:l.length≤2000000):Tot (λ k=>Se k n l) (λ r=>r=bif decide ((C9a n.2.2.1 l).length > 60) then (false,n) else (true,(n.1,n.2.1,C9a n.2.2.1 l,n.2.2.2))):=by
 unfold Se I3
 refine Tot.bind (Nya n.2.2.1 l (by omega)) ?_
 rintro r rfl
 refine Tot.dite (λ h=>?_) (λ h=>?_)
 ·rw [decide_eq_true (show (C9a n.2.2.1 l).length > 60 by omega)]
  exact Tot.pure rfl
 ·rw [decide_eq_false (show ¬ (C9a n.2.2.1 l).length > 60 by omega)]
  exact Tot.pure rfl
def U7 (s:ByteArray) (f:Fil):Row:=(s,f.1,f.2.1,(f.2.2.length:Int))
def Sk (n:Nod) (s:ByteArray) (f:Fil) (sure:Bool):Nod×Int:=bif (n.2.2.2.length:Int)==60 then (n,3) else
 ((n.1,(keep n.2.1 s f sure).1,n.2.2.1,bif (keep n.2.1 s f sure).2==0&&sure then n.2.2.2++[U7 s f] else n.2.2.2),(keep n.2.1 s f sure).2)
def Djb (n:Nod) (s:ByteArray) (f:Fil) (sure:Bool):Nod×Int:=bif N8 n&&(Ar s&&Eb f) then Sk n s f sure else (n,2)
theorem Vua {s:ByteArray} {f:Fil} (hs:Ar s=true) (hf:Eb f=true):Ng (U7 s f)=true:=by
 obtain ⟨h1,h2,h3⟩:=Jq.1 hf
 unfold Ng U7
 dsimp only
 rw [hs,h1,Fh.2 ⟨by omega,by omega⟩]
 cases hd:f.2.1 with
 |false=>rfl
 |true=>rw [h3 hd]; rfl
theorem S8a {n:Nod} {s:ByteArray} {f:Fil} {sure:Bool} (hn:NG n) (hs:Ar s=true) (hf:Eb f=true):NG (Sk n s f sure).1:=by
 obtain ⟨h1,h2,h3,h4,h5⟩:=Ee.1 hn.1
 have hk:=Y0a (s:=s) (f:=f) (sure:=sure) hn.g
 unfold Sk
 cases hl:((n.2.2.2.length:Int)==60) with
 |true=>exact hn
 |false=>
  have hl':n.2.2.2.length≠60:=by
   intro e
   rw [e] at hl
   cases hl
  refine ⟨Ee.2 ⟨?_,h2,hk.1,h4,?_⟩,hk.2⟩
  ·show ∀ r∈bif (keep n.2.1 s f sure).2==0&&sure then n.2.2.2++[U7 s f] else n.2.2.2,Ng r=true
   cases (keep n.2.1 s f sure).2==0&&sure with
   |false=>exact h1
   |true=>
    intro r hr
    rcases List.mem_append.1 hr with hr|hr
    ·exact h1 r hr
    ·rw [List.mem_singleton.1 hr]; exact Vua hs hf
  ·show (bif (keep n.2.1 s f sure).2==0&&sure then n.2.2.2++[U7 s f] else n.2.2.2).length≤60
   cases (keep n.2.1 s f sure).2==0&&sure with
   |false=>exact h5
   |true=>rw [cond_true,List.length_append]; simp only [List.length_cons,List.length_nil]; omega
theorem S9a (n:Nod) (s:ByteArray) (f:Fil) (sure:Bool) (hn:NIn n) (hs:Km s):Tot (λ k=>Td k n s f sure) (λ r=>r=((Sk n s f sure).2,(Sk n s f sure).1)):=by
 have h1:=hn.2.2.1
 unfold Td Kd Sk
 cases (n.2.2.2.length:Int)==60 with
 |true=>exact Tot.yes rfl (Tot.pure rfl)
 |false=>
  refine Tot.no rfl (Tot.bind (M1a n.2.1 s f sure hn.1.1 hn.1.2.1 hs) ?_)
  rintro r rfl
  cases (keep n.2.1 s f sure).2==0 with
  |false=>exact Tot.no rfl (Tot.pure rfl)
  |true=>
   refine Tot.yes rfl ?_
   cases sure with
   |false=>exact Tot.no rfl (Tot.pure rfl)
   |true=>
    refine Tot.yes rfl (Tot.ble (by simp only [List.length_nil]; omega) ?_)
    refine Tot.bind (Tot.of (Q:=λ r=>r=U7 s f) (show Ly s f=some (U7 s f) from rfl) rfl) ?_
    rintro r rfl
    refine Tot.ble (by simp only [List.length_append,List.length_cons,List.length_nil]; omega) (Tot.pure ?_)
    rw [List.nil_append]
    rfl
def M5a (n:Nod) (s:ByteArray) (b:Int):Nod×Bool:=bif N8 n&&((lkD n.2.1 s).2==0&&(Hea n.2.1 s b).2) then ((n.1,(Hea n.2.1 s b).1,n.2.2),true) else (n,false)
theorem Y1a {n:Nod} {s:ByteArray} {b:Int} (hn:NG n):NG (M5a n s b).1:=by
 obtain ⟨h1,h2,h3,h4,h5⟩:=Ee.1 hn.1
 have hr:=Ctb (s:=s) (n:=b) hn.g
 unfold M5a
 cases N8 n&&((lkD n.2.1 s).2==0&&(Hea n.2.1 s b).2) with
 |false=>exact hn
 |true=>exact ⟨Ee.2 ⟨h1,h2,hr.1,h4,h5⟩,hr.2⟩
theorem Jda (n:Nod) (s:ByteArray) (b:Int) (hn:NIn n) (h1:b≤9223372036854775807) (h0 : -9223372036854775808≤b):Tot (λ k=>Jg k n s b) (λ r=>r=M5a n s b):=by
 unfold Jg M5a
 refine Tot.bind (W9 n hn) ?_
 rintro n rfl
 refine Tot.bind (Xo hn.1.1.1.1.1 hn.1.2.1 s) ?_
 rintro r rfl
 refine Tot.bind (M4a n hn) ?_
 rintro r rfl
 cases h:N8 n with
 |false=>exact Tot.yes rfl (Tot.pure rfl)
 |true=>
  refine Tot.no rfl ?_
  cases hl:(lkD n.2.1 s).2==0 with
  |false=>exact Tot.yes (by unfold bne; rw [hl]; rfl) (Tot.pure rfl)
  |true=>
   refine Tot.no (by unfold bne; rw [hl]; rfl) (Tot.bind (A9b (NG.g ⟨h,hn.1.2⟩) h1 h0) ?_)
   rintro r rfl
   cases (Hea n.2.1 s b).2 with
   |false=>exact Tot.yes rfl (Tot.pure rfl)
   |true=>exact Tot.no rfl (Tot.pure rfl)
def Cf:Nod:=((0:Int),(([]:List Nmd),([]:List Nmd)),([]:List Row),([]:List Row))
theorem Jea (i:Int):Ji i=some (bif inR i 0 20 then (i,([],[]),[],[]) else Cf):=by
 unfold Ji
 rw [Nz]
 simp only [Option.bind_some]
 cases inR i 0 20<;>rfl

abbrev Dev:=Int×Int×Int
abbrev Rng:=Int×List (List Int)
def N2:Dev:=((0:Int),((0:Int),(0:Int)))
def O3 (l:List Int) (n:Int):Bool:=l.any (· == n)
theorem Rz {l:List Int} {n:Int}:O3 l n=true↔n∈l:=by
 unfold O3
 rw [List.any_eq_true]
 constructor
 ·rintro ⟨x,hx,e⟩; rw [← eq_of_beq e]; exact hx
 ·intro h; exact ⟨n,h,beq_self_eq_true n⟩
theorem Dza (l:List Int) (n:Int) (hl:l.length≤4000000000000000):Tot (λ k=>Ef k l n) (λ r=>r=O3 l n):=by
 unfold Ef
 refine Tot.bind (Q:=λ r=>r=bif O3 l n then .inl true else .inr ()) ?_ (by rintro r rfl; cases O3 l n<;>exact Tot.pure rfl)
 refine Tot.up (L:=λ k i (_:Unit)=>H5 k n l (l.length:Int) i) (Q:=λ r=>r=bif O3 l n then .inl true else .inr ()) l.length (λ j _=>O3 (l.drop j) n=O3 l n) ?_ ?_ 0 () (Nat.zero_le _) rfl
 ·intro _ h
  rw [List.drop_length] at h
  simp (disch:=omega) only [H5,dF,← h]
  exact Tot.pure rfl
 ·intro j _ hj h next
  rw [Al (d:=0) hj] at h
  simp (disch:=omega) only [H5,dT,Int.toNat_natCast,w64]
  unfold O3 at h
  rw [List.any_cons] at h
  refine Tot.ite (λ hc=>Tot.pure ?_) (λ hc=>next () ?_)
  ·rw [hc,Bool.true_or] at h
   unfold O3
   rw [← h]
   rfl
  ·rw [hc,Bool.false_or] at h
   exact h
theorem T0 (l:List Int) (n:Int) (hl:l.length≤4000000000000000):Tot (λ k=>Cd k l n) (λ r=>r=O3 l n):=by
 unfold Cd
 refine Tot.bind (Q:=λ r=>r=bif O3 l n then .inl true else .inr ()) ?_ (by rintro r rfl; cases O3 l n<;>exact Tot.pure rfl)
 refine Tot.up (L:=λ k i (_:Unit)=>Ie k l n i) (Q:=λ r=>r=bif O3 l n then .inl true else .inr ()) l.length (λ j _=>O3 (l.drop j) n=O3 l n) ?_ ?_ 0 () (Nat.zero_le _) rfl
 ·intro _ h
  rw [List.drop_length] at h
  simp (disch:=omega) only [Ie,dF,← h]
  exact Tot.pure rfl
 ·intro j _ hj h next
  rw [Al (d:=0) hj] at h
  simp (disch:=omega) only [Ie,dT,Int.toNat_natCast,w64]
  unfold O3 at h
  rw [List.any_cons] at h
  refine Tot.ite (λ hc=>Tot.pure ?_) (λ hc=>next () ?_)
  ·rw [hc,Bool.true_or] at h
   unfold O3
   rw [← h]
   rfl
  ·rw [hc,Bool.false_or] at h
   exact h
def Jy (l:List Dev) (id:Int):Option Dev:=l.find? (λ d=>d.1==id)
def E7b:Option Dev→Dev×Bool
 |some d=>(d,true)
 |none=>(N2,false)
theorem V6 {l:List Dev} {id:Int} {d:Dev} (h:Jy l id=some d):d∈l∧d.1=id:=⟨List.mem_of_find?_eq_some h,eq_of_beq (List.find?_some (p:=λ d:Dev=>d.1==id) h)⟩
theorem Gma (l:List Dev) (id:Int) (hl:l.length≤1000000000):Tot (λ k=>Iz k l id) (λ r=>r=E7b (Jy l id)):=by
 unfold Iz
 refine Tot.bind (Q:=λ r=>r=match Jy l id with|some d => .inl (true,d)|none => .inr (0,0,0)) ?_ (by rintro r rfl; cases Jy l id<;>exact Tot.pure rfl)
 refine Tot.up (L:=λ k i (_:Unit)=>Ia k id l (l.length:Int) i (0,0,0)) (Q:=λ r=>r=match Jy l id with|some d => .inl (true,d)|none => .inr (0,0,0)) l.length (λ j _=>Jy (l.drop j) id=Jy l id) ?_ ?_ 0 () (Nat.zero_le _) rfl
 ·intro _ h
  rw [List.drop_length] at h
  simp (disch:=omega) only [Ia,dF,← h]
  exact Tot.pure rfl
 ·intro j _ hj h next
  rw [Al (d:=N2) hj] at h
  unfold Jy at h
  rw [List.find?_cons] at h
  simp (disch:=omega) only [Ia,dT,Int.toNat_natCast,w64]
  refine Tot.ite (λ hc=>Tot.pure ?_) (λ hc=>next () ?_)
  ·rw [show ((l.getD j N2).1==id)=true from hc] at h
   unfold Jy
   rw [← h]
   rfl
  ·rw [show ((l.getD j N2).1==id)=false from hc] at h
   exact h
theorem Re (l:List Dev) (id:Int) (hl:l.length≤1000000000):Tot (λ k=>Ec k l id) (λ r=>r=E7b (Jy l id)):=by
 unfold Ec
 refine Tot.bind (Q:=λ r=>r=match Jy l id with|some d => .inl (true,d)|none => .inr (0,0,0)) ?_ (by rintro r rfl; cases Jy l id<;>exact Tot.pure rfl)
 refine Tot.up (L:=λ k i (_:Unit)=>Ig k l id i (0,0,0)) (Q:=λ r=>r=match Jy l id with|some d => .inl (true,d)|none => .inr (0,0,0)) l.length (λ j _=>Jy (l.drop j) id=Jy l id) ?_ ?_ 0 () (Nat.zero_le _) rfl
 ·intro _ h
  rw [List.drop_length] at h
  simp (disch:=omega) only [Ig,dF,← h]
  exact Tot.pure rfl
 ·intro j _ hj h next
  rw [Al (d:=N2) hj] at h
  unfold Jy at h
  rw [List.find?_cons] at h
  simp (disch:=omega) only [Ig,dT,Int.toNat_natCast,w64]
  refine Tot.ite (λ hc=>Tot.pure ?_) (λ hc=>next () ?_)
  ·rw [show ((l.getD j N2).1==id)=true from hc] at h
   unfold Jy
   rw [← h]
   rfl
  ·rw [show ((l.getD j N2).1==id)=false from hc] at h
   exact h
def Ana (d:Dev):Bool:=inR d.1 0 20&&(inR d.2.1 0 20&&inR d.2.2 1 1000)
def X5:Option Int→List Dev→Bool
 |_,[]=>true
 |none,d::l=>Ana d&&X5 (some d.1) l
 |some q,d::l=>Ana d&&(decide (q<d.1)&&X5 (some d.1) l)
def Lx (l:List Dev):Bool:=X5 none l&&inR (l.length:Int) 1 12
def Gna (l:List Dev):Nat→Option Int
 |0=>none
 |i+1=>some (l.getD i N2).1
theorem E0a:∀ (p:Option Int) (l:List Dev),X5 p l=true↔l.Pairwise (λ a b=>a.1<b.1)∧(∀ d∈l,Ana d=true)∧(∀ q,p=some q→∀ d∈l,q<d.1)
 |p,[]=>by cases p<;>simp [X5]
 |none,d::l=>by
  simp only [X5,Bool.and_eq_true,E0a (some d.1) l,List.pairwise_cons,List.mem_cons,forall_eq_or_imp,Option.some.injEq]
  constructor
  ·rintro ⟨h1,h2,h3,h4⟩; exact ⟨⟨h4 _ rfl,h2⟩,⟨h1,h3⟩,λ q h=>by cases h⟩
  ·rintro ⟨⟨h1,h2⟩,⟨h3,h4⟩,_⟩; exact ⟨h3,h2,h4,λ q e=>by subst e; exact h1⟩
 |some q,d::l=>by
  simp only [X5,Bool.and_eq_true,decide_eq_true_iff,E0a (some d.1) l,List.pairwise_cons,List.mem_cons,forall_eq_or_imp,Option.some.injEq]
  constructor
  ·rintro ⟨h1,hq,h2,h3,h4⟩
   exact ⟨⟨h4 _ rfl,h2⟩,⟨h1,h3⟩,λ q' e=>by subst e; exact ⟨hq,λ x hx=>by have:=h4 _ rfl x hx; omega⟩⟩
  ·rintro ⟨⟨h1,h2⟩,⟨h3,h4⟩,h5⟩
   exact ⟨h3,(h5 q rfl).1,h2,h4,λ q e=>by subst e; exact h1⟩
theorem Dz {l:List Dev}:Lx l=true↔l.Pairwise (λ a b=>a.1<b.1)∧(∀ d∈l,Ana d=true)∧1≤l.length∧l.length≤12:=by
 unfold Lx
 rw [Bool.and_eq_true,E0a,Fh]
 constructor
 ·rintro ⟨⟨h1,h2,_⟩,h3,h4⟩; exact ⟨h1,h2,by omega,by omega⟩
 ·rintro ⟨h1,h2,h3,h4⟩; exact ⟨⟨h1,h2,λ q h=>by cases h⟩,by omega,by omega⟩
theorem Ns {d:Dev}:Ana d=true↔(0≤d.1∧d.1≤20)∧(0≤d.2.1∧d.2.1≤20)∧1≤d.2.2∧d.2.2≤1000:=by
 unfold Ana
 rw [Bool.and_eq_true,Bool.and_eq_true,Fh,Fh,Fh]
theorem Goa {l:List Dev} {j:Nat} (hj:j<l.length):X5 (Gna l j) (l.drop j)=(Ana (l.getD j N2)&&((bif decide (0<j) then decide ((l.getD (j - 1) N2).1<(l.getD j N2).1) else true)&&X5 (Gna l (j+1)) (l.drop (j+1)))):=by
 rw [Al (d:=N2) hj]
 cases j with
 |zero=>simp [Gna,X5]
 |succ j=>simp [Gna,X5]
theorem Vva (l:List Dev) (hl:l.length≤1000000000):Tot (λ k=>Gr k l) (λ r=>r=Lx l):=by
 unfold Gr Lx
 refine Tot.bind (Q:=λ r=>r=bif X5 none l then .inr l else .inl false) ?_ ?_
 ·refine Tot.up (L:=λ k i (_:Unit)=>Gb k l l (l.length:Int) i) (Q:=λ r=>r=bif X5 none l then .inr l else .inl false) l.length (λ j _=>X5 (Gna l j) (l.drop j)=X5 none l) ?_ ?_ 0 () (Nat.zero_le _) rfl
  ·intro _ h
   rw [List.drop_length] at h
   have:X5 none l=true:=by rw [← h]; cases Gna l l.length<;>rfl
   simp (disch:=omega) only [Gb,dF,this]
   exact Tot.pure rfl
  ·intro j _ hj h next
   rw [Goa hj] at h
   simp (disch:=omega) only [Gb,dT,Int.toNat_natCast,w64,Tw,Option.bind_some]
   have e0:l.getD j ((0:Int),((0:Int),(0:Int)))=l.getD j N2:=rfl
   rw [e0]
   have no:Ana (l.getD j N2)=false→X5 none l=false:=λ c=>by rw [← h,c]; rfl
   unfold Ana at no h
   refine Tot.ite (λ hc=>Tot.pure ?_) (λ h1=>Tot.ite (λ hc=>Tot.pure ?_) (λ h2=>Tot.ite (λ hc=>Tot.pure ?_) (λ h3=>?_)))
   ·rw [no (by rw [Bool.not_eq_true'] at hc; rw [hc]; rfl)]; rfl
   ·rw [no (by rw [Bool.not_eq_true'] at hc; rw [hc,Bool.false_and,Bool.and_false])]; rfl
   ·rw [no (by rw [Bool.not_eq_true'] at hc; rw [hc,Bool.and_false,Bool.and_false])]; rfl
   ·rw [Bool.not_eq_false'] at h1 h2 h3
    rw [h1,h2,h3] at h
    refine Tot.dite (λ h0=>?_) (λ h0=>next () ?_)
    ·simp (disch:=omega) only [dT,w64,show Int.toNat ((j:Int) - 1)=j - 1 by omega]
     rw [decide_eq_true (show 0<j by omega)] at h
     refine Tot.dite (λ hc=>Tot.pure ?_) (λ hc=>next () ?_)
     ·have hc':¬ ((l.getD (j - 1) N2).1<(l.getD j N2).1):=by
       have:(l.getD (j - 1) N2).1≥(l.getD j N2).1:=hc
       omega
      rw [decide_eq_false hc'] at h
      rw [← h]; rfl
     ·have hc':(l.getD (j - 1) N2).1<(l.getD j N2).1:=by
       have:¬ ((l.getD (j - 1) N2).1≥(l.getD j N2).1):=hc
       omega
      rw [decide_eq_true hc'] at h
      exact h
    ·rw [decide_eq_false (show ¬ 0<j by omega)] at h
     exact h
 ·rintro r rfl
  cases X5 none l with
  |false=>exact Tot.pure rfl
  |true=>
   simp only [cond_true,Sum.elim_inr,Tw,Option.bind_some]
   exact Tot.pure rfl
theorem Xp (l:List Dev) (hl:l.length≤1000000000):Tot (λ k=>Bq k l) (λ r=>r=Lx l):=by
 unfold Bq Lx
 refine Tot.bind (Q:=λ r=>r=bif X5 none l then .inr l else .inl false) ?_ ?_
 ·refine Tot.up (L:=λ k i (_:Unit)=>Gi k l i) (Q:=λ r=>r=bif X5 none l then .inr l else .inl false) l.length (λ j _=>X5 (Gna l j) (l.drop j)=X5 none l) ?_ ?_ 0 () (Nat.zero_le _) rfl
  ·intro _ h
   rw [List.drop_length] at h
   have:X5 none l=true:=by rw [← h]; cases Gna l l.length<;>rfl
   simp (disch:=omega) only [Gi,dF,this]
   exact Tot.pure rfl
  ·intro j _ hj h next
   rw [Goa hj] at h
   simp (disch:=omega) only [Gi,dT,Int.toNat_natCast,w64,Nz,Option.bind_some]
   have e0:l.getD j ((0:Int),((0:Int),(0:Int)))=l.getD j N2:=rfl
   rw [e0]
   have no:Ana (l.getD j N2)=false→X5 none l=false:=λ c=>by rw [← h,c]; rfl
   unfold Ana at no h
   refine Tot.ite (λ hc=>Tot.pure ?_) (λ h1=>Tot.ite (λ hc=>Tot.pure ?_) (λ h2=>Tot.ite (λ hc=>Tot.pure ?_) (λ h3=>?_)))
   ·rw [no (by rw [Bool.not_eq_true'] at hc; rw [hc]; rfl)]; rfl
   ·rw [no (by rw [Bool.not_eq_true'] at hc; rw [hc,Bool.false_and,Bool.and_false])]; rfl
   ·rw [no (by rw [Bool.not_eq_true'] at hc; rw [hc,Bool.and_false,Bool.and_false])]; rfl
   ·rw [Bool.not_eq_false'] at h1 h2 h3
    rw [h1,h2,h3] at h
    refine Tot.dite (λ h0=>?_) (λ h0=>next () ?_)
    ·simp (disch:=omega) only [dT,w64,show Int.toNat ((j:Int) - 1)=j - 1 by omega]
     rw [decide_eq_true (show 0<j by omega)] at h
     refine Tot.dite (λ hc=>Tot.pure ?_) (λ hc=>next () ?_)
     ·have hc':¬ ((l.getD (j - 1) N2).1<(l.getD j N2).1):=by
       have:(l.getD (j - 1) N2).1≥(l.getD j N2).1:=hc
       omega
      rw [decide_eq_false hc'] at h
      rw [← h]; rfl
     ·have hc':(l.getD (j - 1) N2).1<(l.getD j N2).1:=by
       have:¬ ((l.getD (j - 1) N2).1≥(l.getD j N2).1):=hc
       omega
      rw [decide_eq_true hc'] at h
      exact h
    ·rw [decide_eq_false (show ¬ 0<j by omega)] at h
     exact h
 ·rintro r rfl
  cases X5 none l with
  |false=>exact Tot.pure rfl
  |true=>
   simp only [cond_true,Sum.elim_inr,Nz,Option.bind_some]
   exact Tot.pure rfl
def E1a (l:List Dev) (out:List Int) (id:Int):List Int:=match Jy l id with
 |some d=>bif O3 out d.2.1 then out else out++[d.2.1]
 |none=>out
def Iw (ids:List Int) (l:List Dev):List Int:=ids.foldl (E1a l) []
theorem Aoa (l:List Dev) (out:List Int) (id:Int):(E1a l out id).length≤out.length+1:=by
 unfold E1a
 cases Jy l id with
 |none=>exact Nat.le_succ _
 |some d=>
  simp only
  cases O3 out d.2.1 with
  |true=>exact Nat.le_succ _
  |false=>rw [cond_false,List.length_append]; exact Nat.le_refl _
theorem Gpa (l:List Dev):∀ (ids out:List Int),(ids.foldl (E1a l) out).length≤out.length+ids.length
 |[],out=>by simp
 |id::ids,out=>by
  have h1:=Gpa l ids (E1a l out id)
  have h2:=Aoa l out id
  rw [List.foldl_cons,List.length_cons]
  omega
theorem Saa (ids:List Int) (l:List Dev) (hi:ids.length≤5000000) (hl:l.length≤5000000):Tot (λ k=>Fc k ids l) (λ r=>r=Iw ids l):=by
 unfold Fc
 refine Tot.bind (Q:=λ r=>r=Iw ids l) ?_ (by rintro r rfl; exact Tot.pure rfl)
 refine Tot.up (L:=λ k i s=>Dv k l s ids (ids.length:Int) i) (Q:=λ r=>r=Iw ids l) ids.length (λ j s=>(ids.drop j).foldl (E1a l) s=Iw ids l∧s.length≤j) ?_ ?_ 0 [] (Nat.zero_le _) ⟨rfl,Nat.le_refl _⟩
 ·rintro s ⟨h,_⟩
  rw [List.drop_length] at h
  simp (disch:=omega) only [Dv,dF]
  exact Tot.pure h
 ·rintro j s hj ⟨h,hs⟩ next
  rw [Al (d:=0) hj,List.foldl_cons] at h
  simp (disch:=omega) only [Dv,dT,Int.toNat_natCast,w64]
  have hz:=Aoa l s (ids.getD j 0)
  refine Tot.bind (Gma l (ids.getD j 0) (by omega)) ?_
  rintro r rfl
  unfold E1a at h hz
  cases hd:Jy l (ids.getD j 0) with
  |none=>
   rw [hd] at h
   exact Tot.no rfl (next _ ⟨h,by omega⟩)
  |some d=>
   rw [hd] at h hz
   refine Tot.yes rfl (Tot.bind (Dza s d.2.1 (by omega)) ?_)
   rintro r rfl
   simp only at h hz
   cases hh:O3 s d.2.1 with
   |true=>
    rw [hh] at h
    exact Tot.no rfl (next _ ⟨h,by omega⟩)
   |false=>
    rw [hh] at h hz
    exact Tot.yes rfl (Tot.ble (by simp only [List.length_cons,List.length_nil]; omega) (next _ ⟨h,by rw [cond_false] at hz; exact Nat.le_trans hz (by omega)⟩))
theorem Gqa (ids:List Int) (l:List Dev) (hi:ids.length≤5000000) (hl:l.length≤5000000):Tot (λ k=>Cr k ids l) (λ r=>r=Iw ids l):=by
 unfold Cr
 refine Tot.bind (Q:=λ r=>r=Iw ids l) ?_ (by rintro r rfl; exact Tot.pure rfl)
 refine Tot.up (L:=λ k i s=>Dr k ids l s i) (Q:=λ r=>r=Iw ids l) ids.length (λ j s=>(ids.drop j).foldl (E1a l) s=Iw ids l∧s.length≤j) ?_ ?_ 0 [] (Nat.zero_le _) ⟨rfl,Nat.le_refl _⟩
 ·rintro s ⟨h,_⟩
  rw [List.drop_length] at h
  simp (disch:=omega) only [Dr,dF]
  exact Tot.pure h
 ·rintro j s hj ⟨h,hs⟩ next
  rw [Al (d:=0) hj,List.foldl_cons] at h
  simp (disch:=omega) only [Dr,dT,Int.toNat_natCast,w64]
  have hz:=Aoa l s (ids.getD j 0)
  refine Tot.bind (Re l (ids.getD j 0) (by omega)) ?_
  rintro r rfl
  unfold E1a at h hz
  cases hd:Jy l (ids.getD j 0) with
  |none=>
   rw [hd] at h
   exact Tot.no rfl (next _ ⟨h,by omega⟩)
  |some d=>
   rw [hd] at h hz
   refine Tot.yes rfl (Tot.bind (T0 s d.2.1 (by omega)) ?_)
   rintro r rfl
   simp only at h hz
   cases hh:O3 s d.2.1 with
   |true=>
    rw [hh] at h
    exact Tot.no rfl (next _ ⟨h,by omega⟩)
   |false=>
    rw [hh] at h hz
    exact Tot.yes rfl (Tot.ble (by simp only [List.length_cons,List.length_nil]; omega) (next _ ⟨h,by rw [cond_false] at hz; exact Nat.le_trans hz (by omega)⟩))

theorem Rf {l:List Int} {j:Nat} (hj:j<l.length) (h:(l.take j).Nodup) (hn:l.getD j 0∉l.take j):(l.take (j+1)).Nodup:=by
 rw [List.take_succ_eq_append_getElem hj,List.nodup_append]
 rw [List.getD_eq_getElem?_getD,List.getElem?_eq_getElem hj,Option.getD_some] at hn
 exact ⟨h,by simp,λ a ha b hb e=>by rw [List.mem_singleton.1 hb] at e; subst e; exact hn ha⟩
theorem Gra {l:List Int} {j:Nat} (hj:j<l.length) (hn:l.getD j 0∈l.take j):¬ l.Nodup:=by
 intro h
 have h1:(l.take (j+1)).Nodup:=h.sublist (List.take_sublist _ _)
 rw [List.take_succ_eq_append_getElem hj,List.nodup_append] at h1
 rw [List.getD_eq_getElem?_getD,List.getElem?_eq_getElem hj,Option.getD_some] at hn
 exact h1.2.2 _ hn _ (by simp) rfl
theorem Sba (l:List Int) (hl:l.length≤5000000):Tot (λ k=>Im k l) (λ r=>r=decide l.Nodup):=by
 unfold Im
 refine Tot.bind (Q:=λ r=>r=bif decide l.Nodup then .inr () else .inl false) ?_ (by rintro r rfl; cases decide l.Nodup<;>exact Tot.pure rfl)
 refine Tot.up (L:=λ k i (_:Unit)=>I9 k l l (l.length:Int) i) (Q:=λ r=>r=bif decide l.Nodup then .inr () else .inl false) l.length (λ j _=>(l.take j).Nodup) ?_ ?_ 0 () (Nat.zero_le _) (by simp)
 ·intro _ h
  rw [List.take_length] at h
  simp (disch:=omega) only [I9,dF,decide_eq_true h]
  exact Tot.pure rfl
 ·intro j _ hj h next
  simp (disch:=omega) only [I9,dT,Int.toNat_natCast,w64]
  refine Tot.bind (Dza (l.take j) (l.getD j 0) (by rw [List.length_take]; omega)) ?_
  rintro r rfl
  refine Tot.ite (λ hc=>Tot.pure ?_) (λ hc=>next () (Rf hj h (λ c=>by rw [Rz.2 c] at hc; cases hc)))
  rw [decide_eq_false (Gra hj (Rz.1 hc))]
  rfl
theorem M6a (l:List Int) (n:Int) (hl:l.length≤5000000):Tot (λ k=>Ek k l n) (λ r=>r=(decide l.Nodup&&((l.length:Int)==n))):=by
 unfold Ek
 refine Tot.bind (Q:=λ r=>r=bif decide l.Nodup then .inr (n,l) else .inl false) ?_ (by rintro r rfl; cases decide l.Nodup<;>exact Tot.pure rfl)
 refine Tot.up (L:=λ k i (_:Unit)=>Hh k n i l) (Q:=λ r=>r=bif decide l.Nodup then .inr (n,l) else .inl false) l.length (λ j _=>(l.take j).Nodup) ?_ ?_ 0 () (Nat.zero_le _) (by simp)
 ·intro _ h
  rw [List.take_length] at h
  simp (disch:=omega) only [Hh,dF,decide_eq_true h]
  exact Tot.pure rfl
 ·intro j _ hj h next
  simp (disch:=omega) only [Hh,dT,Int.toNat_natCast,w64]
  refine Tot.bind (T0 (l.take j) (l.getD j 0) (by rw [List.length_take]; omega)) ?_
  rintro r rfl
  refine Tot.ite (λ hc=>Tot.pure ?_) (λ hc=>next () (Rf hj h (λ c=>by rw [Rz.2 c] at hc; cases hc)))
  rw [decide_eq_false (Gra hj (Rz.1 hc))]
  rfl
def RBd (r:Rng):Prop:=r.2.length≤2000000∧∀ p∈r.2,p.length≤2000000
def M9 (l:List Dev) (n:Int) (p:List Int):Bool:=(decide p.Nodup&&((p.length:Int)==n))&&p.all λ id=>(Jy l id).isSome
def H2 (r:Rng) (l:List Dev):Bool:=Lx l&&(inR r.1 1 5&&(inR (r.2.length:Int) 1 64&&r.2.all (M9 l r.1)))
theorem Ax {r:Rng} {l:List Dev}:H2 r l=true↔Lx l=true∧(1≤r.1∧r.1≤5)∧(1≤r.2.length∧r.2.length≤64)∧∀ p∈r.2,p.Nodup∧(p.length:Int)=r.1∧∀ id∈p,∃ d,Jy l id=some d:=by
 unfold H2 M9
 simp only [Bool.and_eq_true,Fh,List.all_eq_true,decide_eq_true_iff,beq_iff_eq,Option.isSome_iff_exists]
 constructor
 ·rintro ⟨h1,h2,⟨h3,h4⟩,h5⟩; exact ⟨h1,h2,⟨by omega,by omega⟩,λ p hp=>⟨(h5 p hp).1.1,(h5 p hp).1.2,(h5 p hp).2⟩⟩
 ·rintro ⟨h1,h2,⟨h3,h4⟩,h5⟩; exact ⟨h1,h2,⟨by omega,by omega⟩,λ p hp=>⟨⟨(h5 p hp).1,(h5 p hp).2.1⟩,(h5 p hp).2.2⟩⟩
theorem N9 {r:Rng} {l:List Dev} (h:H2 r l=true):RBd r:=by
 obtain ⟨_,h2,h3,h4⟩:=Ax.1 h
 exact ⟨by omega,λ p hp=>by have:=(h4 p hp).2.1; omega⟩
theorem Vwa (r:Rng) (l:List Dev) (hr:RBd r) (hl:l.length≤5000000):Tot (λ k=>Fe k r l) (λ b=>b=H2 r l):=by
 unfold Fe H2
 refine Tot.bind (Vva l (by omega)) ?_
 rintro b rfl
 cases hd:Lx l with
 |false=>exact Tot.yes rfl (Tot.pure rfl)
 |true=>
  have hrl:=hr.1
  simp only [Bool.not_true,cond_false,Tw,Option.bind_some,Bool.true_and]
  cases inR r.1 1 5 with
  |false=>exact Tot.yes rfl (Tot.pure rfl)
  |true=>
   refine Tot.no rfl ?_
   cases inR (r.2.length:Int) 1 64 with
   |false=>exact Tot.yes rfl (Tot.pure rfl)
   |true=>
    refine Tot.no rfl (Tot.bind (Q:=λ b=>b=bif r.2.all (M9 l r.1) then .inr () else .inl false) ?_ (by rintro r' rfl; cases r.2.all (M9 l r.1)<;>exact Tot.pure rfl))
    refine Tot.up (L:=λ k i (_:Unit)=>H7 k l r.2 (r.2.length:Int) i r) (Q:=λ b=>b=bif r.2.all (M9 l r.1) then .inr () else .inl false) r.2.length (λ j _=>(r.2.drop j).all (M9 l r.1)=r.2.all (M9 l r.1)) ?_ ?_ 0 () (Nat.zero_le _) rfl
    ·intro _ h
     rw [List.drop_length] at h
     simp (disch:=omega) only [H7,dF,← h]
     exact Tot.pure rfl
    ·intro j _ hj h next
     rw [Al (d:=[]) hj,List.all_cons] at h
     have hp:=hr.2 _ (A3 (d:=[]) hj)
     simp (disch:=omega) only [H7,dT,Int.toNat_natCast,w64]
     have no:M9 l r.1 (r.2.getD j [])=false→r.2.all (M9 l r.1)=false:=λ c=>by rw [← h,c]; rfl
     unfold M9 at no h
     refine Tot.ite (λ hc=>Tot.pure ?_) (λ h1=>Tot.bind (Sba (r.2.getD j []) (by omega)) ?_)
     ·have hc':(((r.2.getD j []).length:Int)==r.1)=false:=by simpa using hc
      rw [show r.2.all (M9 l r.1)=false from no (by rw [hc',Bool.and_false,Bool.false_and])]
      rfl
     ·have h1':(((r.2.getD j []).length:Int)==r.1)=true:=by simpa using h1
      rintro b rfl
      refine Tot.ite (λ hc=>Tot.pure ?_) (λ h2=>?_)
      ·rw [show r.2.all (M9 l r.1)=false from no (by rw [Bool.not_eq_true'] at hc; rw [hc]; rfl)]
       rfl
      ·rw [Bool.not_eq_false'] at h2
       generalize r.2.getD j []=p at *
       refine Tot.bind (Q:=λ b=>b=bif p.all (λ id=>(Jy l id).isSome) then .inr (l,r.2,(r.2.length:Int),(j:Int),r) else .inl false) ?_ ?_
       ·refine Tot.up (L:=λ k i (_:Unit)=>H6 k l r.2 (r.2.length:Int) (j:Int) p (p.length:Int) i r) (Q:=λ b=>b=bif p.all (λ id=>(Jy l id).isSome) then .inr (l,r.2,(r.2.length:Int),(j:Int),r) else .inl false) p.length (λ m _=>(p.drop m).all (λ id=>(Jy l id).isSome)=p.all (λ id=>(Jy l id).isSome)) ?_ ?_ 0 () (Nat.zero_le _) rfl
        ·intro _ h
         rw [List.drop_length] at h
         simp (disch:=omega) only [H6,dF,← h]
         exact Tot.pure rfl
        ·intro m _ hm h next
         rw [Al (d:=0) hm,List.all_cons] at h
         simp (disch:=omega) only [H6,dT,Int.toNat_natCast,w64]
         refine Tot.bind (Gma l (p.getD m 0) (by omega)) ?_
         rintro b rfl
         cases hd:Jy l (p.getD m 0) with
         |none=>exact Tot.yes rfl (Tot.pure (by rw [← h,hd]; rfl))
         |some d=>exact Tot.no rfl (next () (by rw [hd] at h; exact h))
       ·rintro b rfl
        cases hc:p.all (λ id=>(Jy l id).isSome) with
        |false=>exact Tot.pure (by rw [show r.2.all (M9 l r.1)=false from no (by rw [hc,Bool.and_false])]; rfl)
        |true=>
         simp (disch:=omega) only [cond_true,Sum.elim_inr,w64]
         exact next () (by rw [h2,h1',hc] at h; exact h)
theorem Vxa (r:Rng) (l:List Dev) (hr:RBd r) (hl:l.length≤5000000):Tot (λ k=>Fg k r l) (λ b=>b=H2 r l):=by
 unfold Fg H2
 refine Tot.bind (Xp l (by omega)) ?_
 rintro b rfl
 cases hd:Lx l with
 |false=>exact Tot.yes rfl (Tot.pure rfl)
 |true=>
  have hrl:=hr.1
  simp only [Bool.not_true,cond_false,Nz,Option.bind_some,Bool.true_and]
  cases inR r.1 1 5 with
  |false=>exact Tot.yes rfl (Tot.pure rfl)
  |true=>
   refine Tot.no rfl ?_
   cases inR (r.2.length:Int) 1 64 with
   |false=>exact Tot.yes rfl (Tot.pure rfl)
   |true=>
    refine Tot.no rfl (Tot.bind (Q:=λ b=>b=bif r.2.all (M9 l r.1) then .inr () else .inl false) ?_ (by rintro r' rfl; cases r.2.all (M9 l r.1)<;>exact Tot.pure rfl))
    refine Tot.up (L:=λ k i (_:Unit)=>Hr k l i r) (Q:=λ b=>b=bif r.2.all (M9 l r.1) then .inr () else .inl false) r.2.length (λ j _=>(r.2.drop j).all (M9 l r.1)=r.2.all (M9 l r.1)) ?_ ?_ 0 () (Nat.zero_le _) rfl
    ·intro _ h
     rw [List.drop_length] at h
     simp (disch:=omega) only [Hr,dF,← h]
     exact Tot.pure rfl
    ·intro j _ hj h next
     rw [Al (d:=[]) hj,List.all_cons] at h
     have hp:=hr.2 _ (A3 (d:=[]) hj)
     simp (disch:=omega) only [Hr,dT,Int.toNat_natCast,w64]
     have no:M9 l r.1 (r.2.getD j [])=false→r.2.all (M9 l r.1)=false:=λ c=>by rw [← h,c]; rfl
     unfold M9 at no h
     refine Tot.bind (M6a (r.2.getD j []) r.1 (by omega)) ?_
     rintro b rfl
     refine Tot.ite (λ hc=>Tot.pure ?_) (λ h2=>?_)
     ·rw [show r.2.all (M9 l r.1)=false from no (by rw [Bool.not_eq_true'] at hc; rw [hc]; rfl)]
      rfl
     ·rw [Bool.not_eq_false'] at h2
      refine Tot.bind (Q:=λ b=>b=bif (r.2.getD j []).all (λ id=>(Jy l id).isSome) then .inr (l,(j:Int),r) else .inl false) ?_ ?_
      ·refine Tot.up (L:=λ k i (_:Unit)=>Hq k l (j:Int) i r) (Q:=λ b=>b=bif (r.2.getD j []).all (λ id=>(Jy l id).isSome) then .inr (l,(j:Int),r) else .inl false) (r.2.getD j []).length (λ m _=>((r.2.getD j []).drop m).all (λ id=>(Jy l id).isSome)=(r.2.getD j []).all (λ id=>(Jy l id).isSome)) ?_ ?_ 0 () (Nat.zero_le _) rfl
       ·intro _ h
        rw [List.drop_length] at h
        simp (disch:=omega) only [Hq,dT,dF,Int.toNat_natCast,← h]
        exact Tot.pure rfl
       ·intro m _ hm h next
        rw [Al (d:=0) hm,List.all_cons] at h
        simp (disch:=omega) only [Hq,dT,Int.toNat_natCast,w64]
        refine Tot.bind (Re l ((r.2.getD j []).getD m 0) (by omega)) ?_
        rintro b rfl
        cases hd:Jy l ((r.2.getD j []).getD m 0) with
        |none=>exact Tot.yes rfl (Tot.pure (by rw [← h,hd]; rfl))
        |some d=>exact Tot.no rfl (next () (by rw [hd] at h; exact h))
      ·rintro b rfl
       cases hc:(r.2.getD j []).all (λ id=>(Jy l id).isSome) with
       |false=>exact Tot.pure (by rw [show r.2.all (M9 l r.1)=false from no (by rw [hc,Bool.and_false])]; rfl)
       |true=>
        simp (disch:=omega) only [cond_true,Sum.elim_inr,w64]
        exact next () (by rw [h2,hc] at h; exact h)
theorem Wr (l:List Int) (hl:l.length≤5000000):Fk l=some l:=by
 unfold Fk
 rw [bT (by simp only [List.length_nil]; omega),List.nil_append]
theorem Gsa (r:Rng) (hr:RBd r):Tot (λ k=>Dd k r) (λ x=>x=r):=by
 have hrl:=hr.1
 unfold Dd
 refine Tot.bind (Q:=λ x=>x=((0,[]),r)) ?_ (by rintro x rfl; exact Tot.pure rfl)
 refine Tot.up (L:=λ k i s=>F3 k r.2 (r.2.length:Int) i (0,[]) (r.1,s)) (Q:=λ x=>x=((0,[]),r)) r.2.length (λ j s=>s=r.2.take j) ?_ ?_ 0 [] (Nat.zero_le _) rfl
 ·rintro s rfl
  simp (disch:=omega) only [F3,dF,List.take_length]
  exact Tot.pure rfl
 ·rintro j s hj rfl next
  have hp:=hr.2 _ (A3 (d:=[]) hj)
  simp (disch:=omega) only [F3,dT,Int.toNat_natCast,w64,Wr,Option.bind_some]
  refine Tot.ble (by simp only [List.length_take,List.length_cons,List.length_nil]; omega) (next _ ?_)
  rw [List.take_succ_eq_append_getElem hj,List.getD_eq_getElem?_getD,List.getElem?_eq_getElem hj,Option.getD_some]
theorem Ws (r:Rng) (hr:RBd r):Tot (λ k=>J1 k r) (λ x=>x=r):=by
 have hrl:=hr.1
 unfold J1
 refine Tot.bind (Q:=λ x=>x=((0,[]),r)) ?_ (by rintro x rfl; exact Tot.pure rfl)
 refine Tot.up (L:=λ k i s=>Gg k i r (0,[]) (r.1,s)) (Q:=λ x=>x=((0,[]),r)) r.2.length (λ j s=>s=r.2.take j) ?_ ?_ 0 [] (Nat.zero_le _) rfl
 ·rintro s rfl
  simp (disch:=omega) only [Gg,dF,List.take_length]
  exact Tot.pure rfl
 ·rintro j s hj rfl next
  have hp:=hr.2 _ (A3 (d:=[]) hj)
  simp (disch:=omega) only [Gg,dT,Int.toNat_natCast,w64]
  refine Tot.ble (by simp only [List.length_nil]; omega) (Tot.ble (by simp only [List.length_take,List.length_cons,List.length_nil]; omega) (next _ ?_))
  rw [List.take_succ_eq_append_getElem hj,List.getD_eq_getElem?_getD,List.getElem?_eq_getElem hj,Option.getD_some,List.nil_append]
def cnt (id n x:Int):Int:=bif x==id then n+1 else n
def Jfa (id n:Int) (p:List Int):Int:=p.foldl (cnt id) n
def Mj (r:Rng) (id:Int):Int:=r.2.foldl (Jfa id) 0
theorem Jga (id:Int):∀ (p:List Int) (n:Int),n≤Jfa id n p∧Jfa id n p≤n+p.length
 |[],n=>by simp [Jfa]
 |x::p,n=>by
  have h:=Jga id p (cnt id n x)
  unfold Jfa at h ⊢
  have hc:n≤cnt id n x∧cnt id n x≤n+1:=by unfold cnt; cases x==id<;>simp<;>omega
  rw [List.foldl_cons,List.length_cons]
  omega
theorem Sca (id:Int) (m:Nat):∀ (ps:List (List Int)) (n:Int),(∀ p∈ps,p.length≤m)→n≤ps.foldl (Jfa id) n∧ps.foldl (Jfa id) n≤n+(m * ps.length:Nat)
 |[],n,_=>by simp
 |p::ps,n,h=>by
  have h1:=Sca id m ps (Jfa id n p) (λ q hq=>h q (List.mem_cons_of_mem _ hq))
  have h2:=Jga id p n
  have h3:=h p List.mem_cons_self
  rw [List.foldl_cons,List.length_cons,Nat.mul_succ]
  omega
theorem U8 {r:Rng} (hr:RBd r) (id:Int):0≤Mj r id∧Mj r id≤4000000000000:=by
 have h:=Sca id 2000000 r.2 0 hr.2
 have h2:=hr.1
 unfold Mj
 omega
theorem Xq (r:Rng) (id:Int) (hr:RBd r):Tot (λ k=>Ck k r id) (λ x=>x=Mj r id):=by
 have hrl:=hr.1
 unfold Ck
 refine Tot.bind (Q:=λ x=>x=Mj r id) ?_ (by rintro x rfl; exact Tot.pure rfl)
 refine Tot.up (L:=λ k i s=>Hj k id s i r) (Q:=λ x=>x=Mj r id) r.2.length (λ j s=>(r.2.drop j).foldl (Jfa id) s=Mj r id∧0≤s∧s≤2000000 * j) ?_ ?_ 0 0 (Nat.zero_le _) ⟨rfl,by omega,by omega⟩
 ·rintro s ⟨h,_⟩
  rw [List.drop_length] at h
  simp (disch:=omega) only [Hj,dF]
  exact Tot.pure h
 ·rintro j s hj ⟨h,h0,h1⟩ next
  rw [Al (d:=[]) hj,List.foldl_cons] at h
  have hp:=hr.2 _ (A3 (d:=[]) hj)
  have hc:=Jga id (r.2.getD j []) s
  simp (disch:=omega) only [Hj,dT]
  refine Tot.bind (Q:=λ x=>x=(id,Jfa id s (r.2.getD j []),(j:Int),r)) ?_ ?_
  ·refine Tot.up (L:=λ k i s=>Gj k id s (j:Int) i r) (Q:=λ x=>x=(id,Jfa id s (r.2.getD j []),(j:Int),r)) (r.2.getD j []).length (λ m z=>Jfa id z ((r.2.getD j []).drop m)=Jfa id s (r.2.getD j [])∧0≤z∧z≤2000000 * j+m) ?_ ?_ 0 s (Nat.zero_le _) ⟨rfl,h0,by omega⟩
   ·rintro z ⟨h,_⟩
    rw [List.drop_length] at h
    simp (disch:=omega) only [Gj,dT,dF,Int.toNat_natCast]
    exact Tot.pure (by rw [← h]; rfl)
   ·rintro m z hm ⟨h,z0,z1⟩ next
    rw [Al (d:=0) hm] at h
    simp (disch:=omega) only [Gj,dT,Int.toNat_natCast,w64]
    have h':Jfa id (cnt id z ((r.2.getD j []).getD m 0)) ((r.2.getD j []).drop (m+1))=Jfa id s (r.2.getD j []):=h
    unfold cnt at h'
    refine Tot.ite (λ hc=>next _ ?_) (λ hc=>next _ ?_)
    ·rw [hc] at h'; exact ⟨h',by omega,by omega⟩
    ·rw [hc] at h'; exact ⟨h',by omega,by omega⟩
  ·rintro x rfl
   simp (disch:=omega) only [w64]
   exact next _ ⟨h,by omega,by omega⟩

theorem Emb {a w:Int} (h0:0≤a) (h1:a≤4000000000001) (w0:0≤w) (w1:w≤1000) : -9223372036854775808≤a * w∧a * w≤9223372036854775807:=by
 have e1:=Int.mul_nonneg h0 w0
 have e2:a * w≤4000000000001 * 1000:=Int.mul_le_mul h1 w1 w0 (by decide)
 omega
def Apa (r:Rng) (p zs:List Int) (a:Option (Dev×Bool)) (d:Dev):Option (Dev×Bool):=
 bif O3 p d.1 then a else match a with
 |none=>some (d,!(O3 zs d.2.1))
 |some (b,fr)=>bif (!(O3 zs d.2.1) && !fr) || (((!(O3 zs d.2.1))==fr)&&decide ((Mj r d.1+1) * b.2.2<(Mj r b.1+1) * d.2.2)) then some (d,!(O3 zs d.2.1)) else some (b,fr)
def T1 (r:Rng) (p:List Int) (l:List Dev):Option (Dev×Bool):=l.foldl (Apa r p (Iw p l)) none
def Bea (r:Rng) (p:List Int) (l:List Dev):Int:=match T1 r p l with
 |some b=>b.1.1
 |none => -1
theorem Vya {r:Rng} {p zs:List Int} {l:List Dev} {a:Option (Dev×Bool)} {d:Dev} (ha:∀ b,a=some b→b.1∈l∧b.1.1∉p) (hd:d∈l):∀ b,Apa r p zs a d=some b→b.1∈l∧b.1.1∉p:=by
 intro b hb
 unfold Apa at hb
 cases hp:O3 p d.1 with
 |true=>rw [hp] at hb; exact ha b hb
 |false=>
  have hn:d.1∉p:=λ c=>by rw [Rz.2 c] at hp; cases hp
  rw [hp,cond_false] at hb
  cases a with
  |none=>cases hb; exact ⟨hd,hn⟩
  |some c=>
   obtain ⟨c,fr⟩:=c
   simp only at hb
   cases hq:(!(O3 zs d.2.1) && !fr) || (((!(O3 zs d.2.1))==fr)&&decide ((Mj r d.1+1) * c.2.2<(Mj r c.1+1) * d.2.2)) with
   |true=>rw [hq] at hb; cases hb; exact ⟨hd,hn⟩
   |false=>rw [hq] at hb; cases hb; exact ha _ rfl
theorem M7a {r:Rng} {p zs:List Int} {l:List Dev}:∀ (m:List Dev) (a:Option (Dev×Bool)),(∀ b,a=some b→b.1∈l∧b.1.1∉p)→(∀ d∈m,d∈l)→∀ b,m.foldl (Apa r p zs) a=some b→b.1∈l∧b.1.1∉p
 |[],_,ha,_=>ha
 |d::m,_,ha,hm=>M7a m _ (Vya ha (hm d List.mem_cons_self)) (λ x hx=>hm x (List.mem_cons_of_mem _ hx))
theorem M8a {r:Rng} {p:List Int} {l:List Dev} {b:Dev×Bool} (h:T1 r p l=some b):b.1∈l∧b.1.1∉p:=M7a l none (λ b h=>by cases h) (λ _ h=>h) b h
theorem O0a {r:Rng} {p zs:List Int} {a:Option (Dev×Bool)} {d:Dev} (h:a.isSome=true∨d.1∉p):(Apa r p zs a d).isSome=true:=by
 unfold Apa
 cases hp:O3 p d.1 with
 |true=>
  rcases h with h|h
  ·exact h
  ·exact absurd (Rz.1 hp) h
 |false=>
  cases a with
  |none=>rfl
  |some c=>
   obtain ⟨c,fr⟩:=c
   simp only [cond_false]
   cases (!(O3 zs d.2.1) && !fr) || (((!(O3 zs d.2.1))==fr)&&decide ((Mj r d.1+1) * c.2.2<(Mj r c.1+1) * d.2.2))<;>rfl
theorem Cka {r:Rng} {p zs:List Int}:∀ (m:List Dev) (a:Option (Dev×Bool)),(a.isSome=true∨∃ d∈m,d.1∉p)→(m.foldl (Apa r p zs) a).isSome=true
 |[],a,h=>by
  rcases h with h|⟨d,h,_⟩
  ·exact h
  ·cases h
 |d::m,a,h=>by
  refine Cka m _ ?_
  by_cases hd:a.isSome=true∨d.1∉p
  ·exact .inl (O0a hd)
  ·rcases h with h|⟨x,hx,hn⟩
   ·exact absurd (.inl h) hd
   ·rcases List.mem_cons.1 hx with rfl|hx
    ·exact absurd (.inr hn) hd
    ·exact .inr ⟨x,hx,hn⟩
theorem Vza {r:Rng} {p:List Int} {l:List Dev} (h:∃ d∈l,d.1∉p):∃ d∈l,Bea r p l=d.1∧d.1∉p:=by
 obtain ⟨b,hb⟩:=Option.isSome_iff_exists.1 (Cka (r:=r) (zs:=Iw p l) l none (.inr h))
 obtain ⟨h1,h2⟩:=M8a hb
 exact ⟨b.1,h1,by unfold Bea; rw [show T1 r p l=some b from hb],h2⟩
theorem O1a (r:Rng) (p:List Int) (l:List Dev):(T1 r p l=none∧Bea r p l = -1)∨∃ b,T1 r p l=some b∧Bea r p l=b.1.1∧b.1∈l∧b.1.1∉p:=by
 cases h:T1 r p l with
 |none=>exact .inl ⟨rfl,by unfold Bea; rw [h]⟩
 |some b=>exact .inr ⟨b,rfl,by unfold Bea; rw [h],M8a h⟩
theorem T2 (p:List Int) (l:List Dev):(Iw p l).length≤p.length:=by
 have:=Gpa l p []
 rwa [List.length_nil,Nat.zero_add] at this
def bs (r:Rng):Option (Dev×Bool)→Int×Bool×Dev
 |some (b,fr)=>(Mj r b.1+1,fr,b)
 |none=>(0,false,-1,0,0)
theorem M9a (r:Rng) (p:List Int) (l:List Dev) (hr:RBd r) (hp:p.length≤2000000) (hl:Lx l=true):Tot (λ k=>I4 k r p l) (λ x=>x=Bea r p l):=by
 obtain ⟨_,hdv,_,h12⟩:=Dz.1 hl
 have hz:=T2 p l
 unfold I4
 refine Tot.bind (Gqa p l (by omega) (by omega)) ?_
 rintro z rfl
 refine Tot.bind (Q:=λ x=>∃ i:Int,x=(l,i)∧match T1 r p l with|some b=>∃ n:Nat,i=(n:Int)∧n<l.length∧l.getD n N2=b.1|none=>i = -1) ?_ ?_
 ·refine Tot.up (L:=λ k i (s:Int×Bool)=>Bn k l (Iw p l) s.1 s.2 i r p) (Q:=λ x=>∃ i:Int,x=(l,i)∧match T1 r p l with|some b=>∃ n:Nat,i=(n:Int)∧n<l.length∧l.getD n N2=b.1|none=>i = -1) l.length
   (λ j s=>∃ a,(match a with|some (b,fr)=>s.2=fr∧∃ n:Nat,s.1=(n:Int)∧n<l.length∧l.getD n N2=b|none=>s=(-1,false))∧(l.drop j).foldl (Apa r p (Iw p l)) a=T1 r p l) ?_ ?_ 0 (-1,false) (Nat.zero_le _) ⟨none,rfl,rfl⟩
  ·rintro ⟨s1,s2⟩ ⟨a,hs,h⟩
   rw [List.drop_length] at h
   simp (disch:=omega) only [Bn,dF]
   refine Tot.pure ⟨s1,rfl,?_⟩
   rw [← h]
   cases a with
   |none=>exact (Prod.mk.inj hs).1
   |some bf=>exact hs.2
  ·rintro j ⟨s1,s2⟩ hj ⟨a,hs,h⟩ next
   rw [Al (d:=N2) hj,List.foldl_cons] at h
   have hd:=A3 (d:=N2) hj
   obtain ⟨d,ed⟩:∃ d:Dev,l.getD j N2=d:=⟨_,rfl⟩
   rw [ed] at h hd
   have e0:l.getD j ((0:Int),((0:Int),(0:Int)))=d:=ed
   obtain ⟨_,_,w0,w1⟩:=Ns.1 (hdv _ hd)
   have l1:=U8 hr d.1
   simp (disch:=omega) only [Bn,dT,Int.toNat_natCast,w64,e0]
   refine Tot.bind (Xp l (by omega)) ?_
   rintro x rfl
   refine Tot.yes hl (Tot.bind (T0 p d.1 (by omega)) ?_)
   rintro x rfl
   unfold Apa at h
   cases hp':O3 p d.1 with
   |true=>
    rw [hp'] at h
    exact Tot.yes rfl (next _ ⟨a,hs,h⟩)
   |false=>
    rw [hp',cond_false] at h
    refine Tot.no rfl (Tot.bind (T0 (Iw p l) d.2.1 (by omega)) ?_)
    rintro x rfl
    have take:∀ {z:Bool},(l.drop (j+1)).foldl (Apa r p (Iw p l)) (some (d,z))=T1 r p l→Tot (λ k=>Bn k l (Iw p l) (j:Int) z ((j:Int)+1) r p) (λ x=>∃ i:Int,x=(l,i)∧match T1 r p l with|some b=>∃ n:Nat,i=(n:Int)∧n<l.length∧l.getD n N2=b.1|none=>i = -1):=λ {z} h2=>next ((j:Int),z) ⟨some (d,z),⟨rfl,j,rfl,hj,ed⟩,h2⟩
    cases a with
    |none=>
     obtain ⟨rfl,rfl⟩:=Prod.mk.inj hs
     exact Tot.dec (by decide) (take h)
    |some bf=>
     obtain ⟨b,fr⟩:=bf
     obtain ⟨e1,n,e2,hn,e3⟩:=hs
     dsimp only at e1 e2
     subst e1 e2
     have hb:=A3 (d:=N2) hn
     rw [e3] at hb
     obtain ⟨⟨i0,_⟩,_,v0,v1⟩:=Ns.1 (hdv _ hb)
     have l2:=U8 hr b.1
     have m1:=Emb (a:=Mj r d.1+1) (w:=b.2.2) (by omega) (by omega) (by omega) v1
     have m2:=Emb (a:=Mj r b.1+1) (w:=d.2.2) (by omega) (by omega) (by omega) w1
     have stay:(l.drop (j+1)).foldl (Apa r p (Iw p l)) (some (b,s2))=T1 r p l→Tot (λ k=>Bn k l (Iw p l) (n:Int) s2 ((j:Int)+1) r p) (λ x=>∃ i:Int,x=(l,i)∧match T1 r p l with|some b=>∃ n:Nat,i=(n:Int)∧n<l.length∧l.getD n N2=b.1|none=>i = -1):=λ h2=>next ((n:Int),s2) ⟨some (b,s2),⟨rfl,n,rfl,hn,e3⟩,h2⟩
     refine Tot.ndec (by omega) ?_
     have e4:l.getD n ((0:Int),((0:Int),(0:Int)))=b:=e3
     dsimp only at h
     have cmp:∀ {z:Bool},O3 (Iw p l) d.2.1=z→((!z)==s2)=true→(!z && !s2)=false→Tot (λ k=>(Ck k r d.1).bind λ r5=>cond (decide ((0:Int)≤(n:Int))) (cond (decide ((n:Int)<(List.length l:Int))) (cond (decide ((0:Int)≤(n:Int))) (cond (decide ((n:Int)<(List.length l:Int))) ((Ck k r (List.getD l (Int.toNat (n:Int)) ((0:Int),((0:Int),(0:Int)))).1).bind λ r8=>cond (decide ((IntKind.wrap .i64 ((IntKind.wrap .i64 (r5+1)) * (List.getD l (Int.toNat (n:Int)) ((0:Int),((0:Int),(0:Int)))).2.2))<(IntKind.wrap .i64 ((IntKind.wrap .i64 (r8+1)) * d.2.2)))) (Bn k l (Iw p l) (j:Int) s2 ((j:Int)+1) r p) (Bn k l (Iw p l) (n:Int) s2 ((j:Int)+1) r p)) none) none) none) none) (λ x=>∃ i:Int,x=(l,i)∧match T1 r p l with|some b=>∃ n:Nat,i=(n:Int)∧n<l.length∧l.getD n N2=b.1|none=>i = -1):=by
      intro z hz e1 e2
      rw [hz,e1,e2,Bool.false_or,Bool.true_and] at h
      refine Tot.bind (Xq r d.1 hr) ?_
      rintro x rfl
      refine Tot.dec (by omega) (Tot.dec (by omega) (Tot.dec (by omega) (Tot.dec (by omega) ?_)))
      rw [Int.toNat_natCast,e4]
      refine Tot.bind (Xq r b.1 hr) ?_
      rintro x rfl
      rw [w64 (n:=Mj r d.1+1) (by omega) (by omega),w64 (n:=Mj r b.1+1) (by omega) (by omega),w64 m1.1 m1.2,w64 m2.1 m2.2]
      refine Tot.ite (λ hc=>?_) (λ hc=>?_)
      ·rw [hc,cond_true] at h
       rw [show s2 = !z by rw [← eq_of_beq e1]]
       exact take h
      ·rw [hc] at h; exact stay h
     cases hz:O3 (Iw p l) d.2.1 with
     |false=>
      have cm:=cmp hz
      rw [hz] at h
      cases s2 with
      |false=>exact Tot.yes rfl (Tot.yes rfl (take h))
      |true=>exact Tot.yes rfl (Tot.no rfl (Tot.yes rfl (cm rfl rfl)))
     |true=>
      have cm:=cmp hz
      rw [hz] at h
      cases s2 with
      |false=>exact Tot.no rfl (Tot.yes rfl (cm rfl rfl))
      |true=>exact Tot.no rfl (Tot.no rfl (stay h))
 ·rintro x ⟨i,rfl,hi⟩
  unfold Bea
  cases hb:T1 r p l with
  |none=>
   rw [hb] at hi
   subst hi
   exact Tot.dec (show (-1:Int)<0 by decide) (Tot.pure rfl)
  |some b=>
   rw [hb] at hi
   obtain ⟨n,rfl,hn,e⟩:=hi
   dsimp only
   refine Tot.ndec (by omega) (Tot.dec (by omega) (Tot.dec (by omega) (Tot.pure ?_)))
   rw [Int.toNat_natCast,show l.getD n ((0:Int),((0:Int),(0:Int)))=b.1 from e]

theorem Sda {l:List Dev} (h:Lx l=true) {d:Dev} (hd:d∈l):Jy l d.1=some d:=by
 have hp:=(Dz.1 h).1
 clear h
 induction l with
 |nil=>cases hd
 |cons x l ih=>
  obtain ⟨h1,h2⟩:=List.pairwise_cons.1 hp
  unfold Jy
  rw [List.find?_cons]
  rcases List.mem_cons.1 hd with rfl|hd
  ·rw [beq_self_eq_true]
  ·have:=h1 d hd
   rw [show (x.1==d.1)=false from beq_eq_false_iff_ne.2 (by omega)]
   exact ih hd h2
theorem Y2a:∀ (p:List Int) (l:List Dev),l.Pairwise (λ a b=>a.1<b.1)→p.length<l.length→∃ d∈l,d.1∉p
 |p,[],_,h=>by simp at h
 |p,d::l,hl,h=>by
  obtain ⟨h1,h2⟩:=List.pairwise_cons.1 hl
  by_cases hd:d.1∈p
  ·have hlen:(p.erase d.1).length=p.length - 1:=List.length_erase_of_mem hd
   have hpos:=List.length_pos_of_mem hd
   rw [List.length_cons] at h
   obtain ⟨x,hx,hn⟩:=Y2a (p.erase d.1) l h2 (by omega)
   refine ⟨x,List.mem_cons_of_mem _ hx,λ c=>hn ?_⟩
   have:=h1 x hx
   exact (List.mem_erase_of_ne (by omega)).2 c
  ·exact ⟨d,List.mem_cons_self,hd⟩
def O2a (l:List Dev) (n:Nat) (p:List Int):Prop:=p.Nodup∧p.length=n∧∀ id∈p,∃ d,Jy l id=some d
theorem Sea {r:Rng} {l:List Dev} {n:Nat} {p:List Int} (hl:Lx l=true) (h:O2a l n p) (hn:n<l.length):O2a l (n+1) (p++[Bea r p l]):=by
 obtain ⟨h1,h2,h3⟩:=h
 obtain ⟨d,hd,e,hne⟩:=Vza (r:=r) (Y2a p l (Dz.1 hl).1 (by omega))
 rw [e]
 refine ⟨?_,by rw [List.length_append]; simp [h2],λ id hid=>?_⟩
 ·rw [List.nodup_append]
  exact ⟨h1,by simp,λ a ha b hb c=>by rw [List.mem_singleton.1 hb] at c; subst c; exact hne ha⟩
 ·rcases List.mem_append.1 hid with hid|hid
  ·exact h3 id hid
  ·rw [List.mem_singleton.1 hid]; exact ⟨d,Sda hl hd⟩
def Gta (l:List Dev) (reps:Int) (ps:List (List Int)):Nat→List Int→List Int
 |0,p=>p
 |n+1,p=>Gta l reps ps n (p++[Bea (reps,ps++[p]) p l])
def Ooa (l:List Dev) (reps:Int):Nat→List (List Int)→List (List Int)
 |0,ps=>ps
 |n+1,ps=>Ooa l reps n (ps++[Gta l reps ps reps.toNat []])
def build (l:List Dev) (parts reps:Int):Rng×Bool:=bif Lx l&&(inR parts 1 64&&(inR reps 1 5 && !(decide (reps > (l.length:Int))))) then ((reps,Ooa l reps parts.toNat []),true) else ((0,[]),false)
theorem Maa {l:List Dev} {reps:Int} {ps:List (List Int)} (hl:Lx l=true):∀ (n m:Nat) (p:List Int),O2a l m p→m+n≤l.length→O2a l (m+n) (Gta l reps ps n p)
 |0,_,_,h,_=>h
 |n+1,m,p,h,hm=>by
  have:=Maa (reps:=reps) (ps:=ps) hl n (m+1) _ (Sea (r:=(reps,ps++[p])) hl h (by omega)) (by omega)
  rwa [show m+1+n=m+(n+1) by omega] at this
theorem Sfa {l:List Dev} {reps:Int} (hl:Lx l=true) (hr:reps≤(l.length:Int)):∀ (n:Nat) (ps:List (List Int)),(∀ p∈ps,O2a l reps.toNat p)→(Ooa l reps n ps).length=ps.length+n∧∀ p∈Ooa l reps n ps,O2a l reps.toNat p
 |0,ps,h=>⟨rfl,h⟩
 |n+1,ps,h=>by
  have hf:=Maa (reps:=reps) (ps:=ps) hl reps.toNat 0 [] ⟨List.nodup_nil,rfl,λ _ h=>by cases h⟩ (by omega)
  rw [Nat.zero_add] at hf
  obtain ⟨h1,h2⟩:=Sfa hl hr n (ps++[Gta l reps ps reps.toNat []]) (λ p hp=>by
   rcases List.mem_append.1 hp with hp|hp
   ·exact h p hp
   ·rw [List.mem_singleton.1 hp]; exact hf)
  refine ⟨?_,h2⟩
  show (Ooa l reps n _).length=_
  rw [h1,List.length_append]
  simp only [List.length_cons,List.length_nil]
  omega
theorem Mba {l:List Dev} {parts reps:Int} (h:(build l parts reps).2=true):Lx l=true∧H2 (build l parts reps).1 l=true∧(build l parts reps).1.1=reps∧((build l parts reps).1.2.length:Int)=parts:=by
 unfold build at h ⊢
 cases hc:Lx l&&(inR parts 1 64&&(inR reps 1 5 && !(decide (reps > (l.length:Int))))) with
 |false=>rw [hc] at h; cases h
 |true=>
  rw [Bool.and_eq_true,Bool.and_eq_true,Bool.and_eq_true,Bool.not_eq_true',decide_eq_false_iff_not,Fh,Fh] at hc
  obtain ⟨h1,h2,h3,h4⟩:=hc
  obtain ⟨b1,b2⟩:=Sfa (reps:=reps) h1 (by omega) parts.toNat [] (λ p hp=>by cases hp)
  rw [List.length_nil,Nat.zero_add] at b1
  have b1':((Ooa l reps parts.toNat []).length:Int)=parts:=by rw [b1]; omega
  refine ⟨h1,Ax.2 ⟨h1,h3,⟨by show 1≤(Ooa l reps parts.toNat []).length; omega,by show (Ooa l reps parts.toNat []).length≤64; omega⟩,λ p hp=>?_⟩,rfl,b1'⟩
  obtain ⟨c1,c2,c3⟩:=b2 p hp
  exact ⟨c1,by rw [c2]; show ((reps.toNat:Nat):Int)=reps; omega,c3⟩
theorem Gua {l:List Dev} {reps:Int} {ps:List (List Int)}:∀ (n:Nat) (p:List Int),(Gta l reps ps n p).length=p.length+n
 |0,_=>rfl
 |n+1,p=>by
  show (Gta l reps ps n _).length=_
  rw [Gua n,List.length_append]
  simp only [List.length_cons,List.length_nil]
  omega
theorem Sga {α:Type} (l:List α) (x d:α):(l++[x]).getD l.length d=x:=by
 rw [List.getD_eq_getElem?_getD,List.getElem?_append_right (Nat.le_refl _),Nat.sub_self]
 rfl
theorem W0a {α:Type} (l:List α) (x y:α):(l++[x]).set l.length y=l++[y]:=by
 rw [List.set_append_right _ _ (Nat.le_refl _),Nat.sub_self]
 rfl
theorem Gva (l:List Dev) (parts reps:Int) (z:Rng) (hl:Lx l=true) (h0:0≤reps) (h5:reps≤5) (ps:List (List Int)) (hps:ps.length≤100) (hq:∀ q∈ps,q.length≤100):∀ (n:Nat) (p:List Int),p.length+n=reps.toNat→
  Tot (λ k=>Ii k l parts reps (ps.length:Int) (p.length:Int) z (reps,ps++[p])) (λ x=>x=(l,parts,reps,(ps.length:Int),z,(reps,ps++[Gta l reps ps n p]))):=by
 intro n
 induction n with
 |zero=>
  intro p hp
  refine Tot.succ ?_
  simp (disch:=omega) only [Ii,dF]
  exact Tot.pure rfl
 |succ n ih=>
  intro p hp
  refine Tot.succ ?_
  have hrb:RBd (reps,ps++[p]):=⟨by simp only [List.length_append,List.length_cons,List.length_nil]; omega,λ q hq'=>by
   rcases List.mem_append.1 hq' with h|h
   ·have:=hq q h; omega
   ·rw [List.mem_singleton.1 h]; omega⟩
  have hlen:(ps++[p]).length=ps.length+1:=by simp
  simp (disch:=omega) only [Ii,dT,Int.toNat_natCast,w64,hlen,Sga,W0a]
  refine Tot.bind (M9a (reps,ps++[p]) p l hrb (by omega) hl) ?_
  rintro x rfl
  refine Tot.yes (decide_eq_true trivial) (Tot.ble (by simp only [List.length_cons,List.length_nil]; omega) (Tot.yes (decide_eq_true trivial) ?_))
  have:=ih (p++[Bea (reps,ps++[p]) p l]) (by simp only [List.length_append,List.length_cons,List.length_nil]; omega)
  rw [show (((p++[Bea (reps,ps++[p]) p l]).length:Nat):Int)=(p.length:Int)+1 by simp] at this
  exact this
theorem Sha (l:List Dev) (parts reps:Int) (hll:l.length≤5000000):Tot (λ k=>H3 k l parts reps) (λ x=>x=build l parts reps):=by
 unfold H3 build
 refine Tot.bind (Xp l (by omega)) ?_
 rintro b rfl
 cases hl:Lx l with
 |false=>exact Tot.yes rfl (Tot.pure rfl)
 |true=>
  simp only [Bool.not_true,cond_false,Nz,Option.bind_some,Bool.true_and]
  cases hp:inR parts 1 64 with
  |false=>exact Tot.yes rfl (Tot.pure rfl)
  |true=>
   refine Tot.no rfl ?_
   cases hr:inR reps 1 5 with
   |false=>exact Tot.yes rfl (Tot.pure rfl)
   |true=>
    obtain ⟨r1,r2⟩:=Fh.1 hr
    obtain ⟨p1,p2⟩:=Fh.1 hp
    refine Tot.no rfl ?_
    cases hc:decide (reps > (l.length:Int)) with
    |true=>exact Tot.yes rfl (Tot.pure rfl)
    |false=>
     refine Tot.no rfl (Tot.bind (Q:=λ x=>x=(((0:Int),([]:List (List Int))),(reps,Ooa l reps parts.toNat []))) ?_ (by rintro x rfl; exact Tot.pure rfl))
     obtain ⟨n,rfl⟩:∃ n:Nat,parts=(n:Int):=⟨parts.toNat,by omega⟩
     refine Tot.up (L:=λ k i (s:Rng)=>Ij k l (n:Int) reps i (0,[]) s) (Q:=λ x=>x=(((0:Int),([]:List (List Int))),(reps,Ooa l reps n []))) n (λ j s=>∃ ps,s=(reps,ps)∧ps.length=j∧(∀ q∈ps,q.length≤100)∧Ooa l reps (n - j) ps=Ooa l reps n []) ?_ ?_ 0 (reps,[]) (Nat.zero_le _) ⟨[],rfl,rfl,λ q h=>(by cases h),rfl⟩
     ·rintro s ⟨ps,rfl,hps,_,h⟩
      rw [Nat.sub_self] at h
      simp (disch:=omega) only [Ij,dF]
      exact Tot.pure (by rw [← h]; rfl)
     ·rintro j s hj ⟨ps,rfl,hps,hq,h⟩ next
      simp (disch:=omega) only [Ij,dT]
      refine Tot.ble (by simp only [List.length_cons,List.length_nil]; omega) ?_
      have h9:=Gva l (n:Int) reps (0,[]) hl (by omega) r2 ps (by omega) hq reps.toNat [] (by simp)
      rw [hps] at h9
      refine Tot.bind h9 ?_
      rintro x rfl
      simp (disch:=omega) only [w64]
      refine next _ ⟨ps++[Gta l reps ps reps.toNat []],rfl,by rw [List.length_append,hps]; rfl,λ q hq'=>?_,?_⟩
      ·rcases List.mem_append.1 hq' with h'|h'
       ·exact hq q h'
       ·rw [List.mem_singleton.1 h',Gua,List.length_nil]; omega
      ·rw [show n - j=(n - (j+1))+1 by omega] at h
       exact h

theorem Mca:∀ (p q:List Int),p.Nodup→(∀ x∈p,x∈q)→p.length≤q.length
 |[],_,_,_=>Nat.zero_le _
 |x::p,q,h,hs=>by
  obtain ⟨h1,h2⟩:=List.nodup_cons.1 h
  have hx:=hs x List.mem_cons_self
  have hlen:(q.erase x).length=q.length - 1:=List.length_erase_of_mem hx
  have hpos:=List.length_pos_of_mem hx
  have:=Mca p (q.erase x) h2 (λ y hy=>(List.mem_erase_of_ne (λ c=>by subst c; exact h1 hy)).2 (hs y (List.mem_cons_of_mem _ hy)))
  rw [List.length_cons]
  omega
theorem Sia {r:Rng} {l:List Dev} (h:H2 r l=true):r.1≤(l.length:Int):=by
 obtain ⟨_,_,h3,h4⟩:=Ax.1 h
 obtain ⟨p,hp⟩:=List.exists_mem_of_length_pos (show 0<r.2.length by omega)
 obtain ⟨q1,q2,q3⟩:=h4 p hp
 have:=Mca p (l.map (·.1)) q1 (λ x hx=>by
  obtain ⟨d,hd⟩:=q3 x hx
  obtain ⟨hm,he⟩:=V6 hd
  exact List.mem_map.2 ⟨d,hm,he⟩)
 rw [List.length_map] at this
 omega
theorem Jha {r:Rng} {l:List Dev} (h:H2 r l=true):Tot (λ k=>Jv k r l) (λ b=>b=true):=by
 have hrp:=Sia h
 obtain ⟨h1,h2,h3,h4⟩:=Ax.1 h
 obtain ⟨_,_,_,h12⟩:=Dz.1 h1
 unfold Jv
 refine Tot.bind (Xp l (by omega)) ?_
 rintro b rfl
 refine Tot.no (by rw [h1]; rfl) ?_
 simp only [Nz,Option.bind_some]
 refine Tot.no (by rw [Fh.2 h2]; rfl) (Tot.ndec (by omega) (Tot.no (by rw [Fh.2 (by omega)]; rfl) ?_))
 refine Tot.bind (Q:=λ b=>b = .inr ()) ?_ (by rintro b rfl; exact Tot.pure rfl)
 refine Tot.up (L:=λ k i (_:Unit)=>Jh k i r) (Q:=λ b=>b = .inr ()) r.2.length (λ _ _=>True) ?_ ?_ 0 () (Nat.zero_le _) trivial
 ·intro _ _
  simp (disch:=omega) only [Jh,dF]
  exact Tot.pure rfl
 ·intro j _ hj _ next
  obtain ⟨q1,q2,_⟩:=h4 _ (A3 (d:=[]) hj)
  simp (disch:=omega) only [Jh,dT,Int.toNat_natCast,w64]
  refine Tot.bind (M6a _ _ (by omega)) ?_
  rintro b rfl
  exact Tot.no (by rw [decide_eq_true q1,q2]; simp) (next () trivial)
theorem W1a (p:List Int) (l:List Dev) (h:∀ id∈p,∃ d,Jy l id=some d) (hp:p.length≤5000000) (hl:l.length≤5000000):Tot (λ k=>Gv k p l) (λ x=>x = -1):=by
 unfold Gv
 refine Tot.bind (Q:=λ x=>x = .inr ()) ?_ (by rintro x rfl; exact Tot.pure rfl)
 refine Tot.up (L:=λ k i (_:Unit)=>Hi k l i p) (Q:=λ x=>x = .inr ()) p.length (λ _ _=>True) ?_ ?_ 0 () (Nat.zero_le _) trivial
 ·intro _ _
  simp (disch:=omega) only [Hi,dF]
  exact Tot.pure rfl
 ·intro j _ hj _ next
  simp (disch:=omega) only [Hi,dT,Int.toNat_natCast,w64]
  refine Tot.bind (Re l _ (by omega)) ?_
  rintro x rfl
  obtain ⟨d,hd⟩:=h _ (A3 (d:=0) hj)
  exact Tot.no (by rw [hd]; rfl) (next () trivial)
def hv (r:Rng) (l:List Dev) (b id:Int):Bool:=match Jy l b with
 |none=>false
 |some x=>match Jy l id with
  |none=>false
  |some d=>(d.2.1==x.2.1)&&decide (Mj r id - Mj r b≥2)
def Opa (r:Rng) (l:List Dev) (p:List Int) (b:Int):Option Nat:=p.findIdx? (hv r l b)
def oI:Option Nat→Int
 |some i=>(i:Int)
 |none => -1
theorem Gwa {f:Int→Bool} {p:List Int} {j:Nat} (hj:j<p.length) (h:((p.drop j).findIdx? f).map (· + j)=p.findIdx? f):
  (f (p.getD j 0)=true→p.findIdx? f=some j)∧(f (p.getD j 0)=false→((p.drop (j+1)).findIdx? f).map (· + (j+1))=p.findIdx? f):=by
 rw [Al (d:=0) hj,List.findIdx?_cons] at h
 constructor
 ·intro c
  rw [if_pos c] at h
  rw [← h,Option.map_some,Nat.zero_add]
 ·intro c
  rw [if_neg (by rw [c]; simp)] at h
  rw [← h,Option.map_map]
  congr 1
  funext x
  show x+(j+1)=x+1+j
  omega
theorem Sja (r:Rng) (p:List Int) (l:List Dev) (b:Int) (hr:RBd r) (hp:p.length≤2000000) (hl:l.length≤2000000):Tot (λ k=>Fa k r p l b) (λ x=>x=oI (Opa r l p b)):=by
 unfold Fa
 refine Tot.bind (Re l b (by omega)) ?_
 rintro x rfl
 refine Tot.bind (Q:=λ x=>x=match Opa r l p b with|some i => .inl (i:Int)|none => .inr ()) ?_ (by rintro x rfl; cases Opa r l p b<;>exact Tot.pure rfl)
 cases hb:Jy l b with
 |none=>
  have hn:Opa r l p b=none:=by unfold Opa; rw [List.findIdx?_eq_none_iff]; intro x _; unfold hv; rw [hb]
  rw [hn]
  refine Tot.succ ?_
  by_cases hp0:(0:Int)<(p.length:Int)
  ·simp (disch:=omega) only [C5,dT,E7b,cond_false]
   exact Tot.pure rfl
  ·simp (disch:=omega) only [C5,dF]
   exact Tot.pure rfl
 |some x=>
  have hvI:∀ id,hv r l b id=match Jy l id with|none=>false|some d=>(d.2.1==x.2.1)&&decide (Mj r id - Mj r b≥2):=λ id=>by unfold hv; rw [hb]
  refine Tot.up (L:=λ k i (_:Unit)=>C5 k l b true i r p x) (Q:=λ x=>x=match Opa r l p b with|some i => .inl (i:Int)|none => .inr ()) p.length (λ j _=>((p.drop j).findIdx? (hv r l b)).map (· + j)=p.findIdx? (hv r l b)) ?_ ?_ 0 () (Nat.zero_le _) (by simp)
  ·intro _ h
   rw [List.drop_length] at h
   have hn:Opa r l p b=none:=h.symm
   rw [hn]
   simp (disch:=omega) only [C5,dF]
   exact Tot.pure rfl
  ·intro j _ hj h next
   obtain ⟨k1,k2⟩:=Gwa hj h
   simp (disch:=omega) only [C5,dT,Int.toNat_natCast,w64,cond_true]
   generalize p.getD j 0=id at *
   refine Tot.bind (Re l id (by omega)) ?_
   rintro y rfl
   rw [hvI] at k1 k2
   cases hd:Jy l id with
   |none=>
    rw [hd] at k2
    exact Tot.no rfl (next () (k2 rfl))
   |some d=>
    rw [hd] at k1 k2
    obtain ⟨_,e⟩:=V6 hd
    refine Tot.yes rfl ?_
    cases hz:d.2.1==x.2.1 with
    |false=>exact Tot.no hz (next () (k2 (by simp only [hz,Bool.false_and])))
    |true=>
     refine Tot.yes hz (Tot.bind (Xq r d.1 hr) ?_)
     rintro a rfl
     refine Tot.bind (Xq r b hr) ?_
     rintro c rfl
     have l1:=U8 hr d.1
     have l2:=U8 hr b
     simp (disch:=omega) only [w64]
     refine Tot.dite (λ hc=>Tot.pure ?_) (λ hc=>next () (k2 ?_))
     ·have hn:Opa r l p b=some j:=k1 (by simp only [hz,Bool.true_and]; rw [← e]; exact decide_eq_true hc)
      rw [hn]
     ·simp only [hz,Bool.true_and]; rw [← e]; exact decide_eq_false hc
def rb1 (l:List Dev) (s:Int×Rng) (j:Nat):Int×Rng:=match Opa s.2 l (s.2.2.getD j []) (Bea s.2 (s.2.2.getD j []) l) with
 |none=>s
 |some i=>(s.1+1,(s.2.1,s.2.2.set j ((s.2.2.getD j []).set i (Bea s.2 (s.2.2.getD j []) l))))
def rbs (l:List Dev) (r:Rng) (n:Nat):Int×Rng:=(List.range n).foldl (rb1 l) (0,r)
def Jia (r:Rng) (l:List Dev):Rng×Int:=((rbs l r r.2.length).2,(rbs l r r.2.length).1)
theorem Mda (l:List Dev) (r:Rng) (n:Nat):rbs l r (n+1)=rb1 l (rbs l r n) n:=by
 unfold rbs
 rw [List.range_succ,List.foldl_append]
 rfl
theorem Wt {r:Rng} {l:List Dev} {p:List Int} {i:Nat} (hl:Lx l=true) (h:Opa r l p (Bea r p l)=some i):i<p.length∧Bea r p l∉p∧0≤Bea r p l∧∃ d,Jy l (Bea r p l)=some d:=by
 obtain ⟨h1,h2,_⟩:=List.findIdx?_eq_some_iff_getElem.1 h
 refine ⟨h1,?_⟩
 unfold hv at h2
 cases hb:Jy l (Bea r p l) with
 |none=>rw [hb] at h2; cases h2
 |some d=>
  obtain ⟨hd,he⟩:=V6 hb
  obtain ⟨⟨i0,_⟩,_⟩:=Ns.1 ((Dz.1 hl).2.1 _ hd)
  refine ⟨?_,by omega,d,rfl⟩
  rcases O1a r p l with ⟨_,e⟩|⟨b,_,e,_,hn⟩
  ·omega
  ·rw [e]; exact hn
theorem Ska {p:List Int} {b:Int} (h:p.Nodup) (hb:b∉p) (i:Nat):(p.set i b).Nodup:=by
 induction p generalizing i with
 |nil=>exact h
 |cons x p ih=>
  obtain ⟨h1,h2⟩:=List.nodup_cons.1 h
  cases i with
  |zero=>exact List.nodup_cons.2 ⟨λ c=>hb (List.mem_cons_of_mem _ c),h2⟩
  |succ i=>
   refine List.nodup_cons.2 ⟨λ c=>?_,ih h2 (λ c=>hb (List.mem_cons_of_mem _ c)) i⟩
   rcases List.mem_or_eq_of_mem_set c with c|c
   ·exact h1 c
   ·exact hb (c ▸ List.mem_cons_self)
theorem Cub {l:List Dev} {s:Int×Rng} {j:Nat} (hj:j<s.2.2.length) (h:H2 s.2 l=true):H2 (rb1 l s j).2 l=true∧(rb1 l s j).2.1=s.2.1∧(rb1 l s j).2.2.length=s.2.2.length∧s.1≤(rb1 l s j).1∧(rb1 l s j).1≤s.1+1:=by
 unfold rb1
 obtain ⟨h1,h2,h3,h4⟩:=Ax.1 h
 cases hx:Opa s.2 l (s.2.2.getD j []) (Bea s.2 (s.2.2.getD j []) l) with
 |none=>exact ⟨h,rfl,rfl,by dsimp only; omega,by dsimp only; omega⟩
 |some i=>
  obtain ⟨b1,b2,_,b3⟩:=Wt h1 hx
  obtain ⟨q1,q2,q3⟩:=h4 _ (A3 (d:=[]) hj)
  refine ⟨Ax.2 ⟨h1,h2,by dsimp only; rw [List.length_set]; exact h3,λ p hp=>?_⟩,rfl,by dsimp only; rw [List.length_set],by dsimp only; omega,by dsimp only; omega⟩
  rcases List.mem_or_eq_of_mem_set hp with hp|hp
  ·exact h4 p hp
  ·subst hp
   refine ⟨Ska q1 b2 i,by rw [List.length_set]; exact q2,λ id hid=>?_⟩
   rcases List.mem_or_eq_of_mem_set hid with hid|hid
   ·exact q3 id hid
   ·rw [hid]; exact b3
theorem Mea {l:List Dev} {r:Rng} (h:H2 r l=true):∀ (n:Nat),n≤r.2.length→H2 (rbs l r n).2 l=true∧(rbs l r n).2.1=r.1∧(rbs l r n).2.2.length=r.2.length∧0≤(rbs l r n).1∧(rbs l r n).1≤n
 |0,_=>⟨h,rfl,rfl,Int.le_refl _,Int.le_refl _⟩
 |n+1,hn=>by
  obtain ⟨h1,h2,h3,h4,h5⟩:=Mea h n (by omega)
  obtain ⟨g1,g2,g3,g4,g5⟩:=Cub (j:=n) (by omega) h1
  rw [Mda]
  exact ⟨g1,by rw [g2,h2],by rw [g3,h3],by omega,by omega⟩
theorem Mfa {r:Rng} {l:List Dev} (h:H2 r l=true):H2 (Jia r l).1 l=true∧(Jia r l).1.1=r.1∧(Jia r l).1.2.length=r.2.length∧0≤(Jia r l).2:=by
 obtain ⟨h1,h2,h3,h4,_⟩:=Mea h r.2.length (Nat.le_refl _)
 exact ⟨h1,h2,h3,h4⟩
theorem Sla {r:Rng} {l:List Dev} (h:H2 r l=true):Tot (λ k=>Cj k r l) (λ x=>x=Jia r l):=by
 obtain ⟨_,_,h64,_⟩:=Ax.1 h
 unfold Cj
 refine Tot.bind (Ws r (N9 h)) ?_
 rintro x rfl
 refine Tot.bind (Jha h) ?_
 rintro b rfl
 refine Tot.no rfl (Tot.bind (Q:=λ y=>y=((rbs l x x.2.length).1,((0:Int),([]:List (List Int))),(rbs l x x.2.length).2)) ?_ (by rintro y rfl; exact Tot.pure rfl))
 refine Tot.up (L:=λ k i (s:Int×Rng)=>B5 k l s.1 i (0,[]) s.2) (Q:=λ y=>y=((rbs l x x.2.length).1,((0:Int),([]:List (List Int))),(rbs l x x.2.length).2)) x.2.length (λ j s=>s=rbs l x j) ?_ ?_ 0 (0,x) (Nat.zero_le _) rfl
 ·rintro s rfl
  obtain ⟨_,_,g3,_⟩:=Mea h x.2.length (Nat.le_refl _)
  simp (disch:=omega) only [B5,dF]
  exact Tot.pure rfl
 ·rintro j s hj rfl next
  obtain ⟨g1,g2,g3,g4,g5⟩:=Mea h j (by omega)
  rw [Mda] at next
  generalize rbs l x j=s at *
  obtain ⟨c,r⟩:=s
  dsimp only at g1 g2 g3 g4 g5
  obtain ⟨q0,_,_,q4⟩:=Ax.1 g1
  obtain ⟨p1,p2,p3⟩:=q4 _ (A3 (d:=[]) (show j<r.2.length by omega))
  have hx2:=(Ax.1 h).2.1
  have l12:=(Dz.1 q0).2.2.2
  unfold rb1 at next
  dsimp only at next
  obtain ⟨p,hp⟩:∃ p,r.2.getD j []=p:=⟨_,rfl⟩
  rw [hp] at p1 p2 p3
  simp only [hp] at next
  simp (disch:=omega) only [B5,dT,Int.toNat_natCast,w64,hp]
  refine Tot.bind (W1a p l p3 (by omega) (by omega)) ?_
  rintro x rfl
  refine Tot.ndec (by omega) (Tot.bind (M9a r p l (N9 g1) (by omega) q0) ?_)
  rintro b rfl
  refine Tot.bind (Sja r p l _ (N9 g1) (by omega) (by omega)) ?_
  rintro y rfl
  cases hi:Opa r l p (Bea r p l) with
  |none=>
   rw [hi] at next
   exact Tot.ndec (by show ¬ ((-1:Int)≥0); omega) (next _ rfl)
  |some i=>
   obtain ⟨b1,b2,b3,_⟩:=Wt q0 hi
   rw [hi] at next
   have e:oI (some i)=(i:Int):=rfl
   simp (disch:=omega) only [e,dT,Int.toNat_natCast]
   exact next _ rfl
def wgt (l:List Dev) (i:Nat) (w:Int):List Dev:=l.set i ((l.getD i N2).1,(l.getD i N2).2.1,w)
theorem E2a (l:List Dev) (i:Nat) (w:Int):(wgt l i w).map (·.1)=l.map (·.1):=by
 unfold wgt
 rw [List.map_set]
 by_cases hi:i<l.length
 ·have:(l.getD i N2).1=(l.map (·.1)).getD i 0:=by
   simp only [List.getD_eq_getElem?_getD,List.getElem?_map,List.getElem?_eq_getElem hi,Option.map_some,Option.getD_some]
  rw [this,List.getD_eq_getElem?_getD,List.getElem?_eq_getElem (by simpa using hi),Option.getD_some]
  exact List.set_getElem_self _
 ·rw [List.set_eq_of_length_le (by simpa using hi)]
theorem Rg {l:List Dev} {id:Int}:(∃ d,Jy l id=some d)↔id∈l.map (·.1):=by
 unfold Jy
 rw [← Option.isSome_iff_exists,List.find?_isSome,List.mem_map]
 exact ⟨λ ⟨x,h,e⟩=>⟨x,h,eq_of_beq e⟩,λ ⟨x,h,e⟩=>⟨x,h,beq_iff_eq.2 e⟩⟩
theorem Cvb {l:List Dev} {i:Nat} {w:Int} (h:Lx l=true) (hi:i<l.length) (h1:1≤w) (h2:w≤1000):Lx (wgt l i w)=true:=by
 obtain ⟨g1,g2,g3,g4⟩:=Dz.1 h
 refine Dz.2 ⟨?_,λ d hd=>?_,?_⟩
 ·have e:(l.map (·.1)).Pairwise (· < ·):=List.pairwise_map.2 g1
  rw [← E2a l i w] at e
  exact List.pairwise_map.1 e
 ·rcases List.mem_or_eq_of_mem_set hd with hd|hd
  ·exact g2 d hd
  ·obtain ⟨e1,e2,_⟩:=Ns.1 (g2 _ (A3 (d:=N2) hi))
   subst hd
   exact Ns.2 ⟨e1,e2,h1,h2⟩
 ·unfold wgt
  rw [List.length_set]
  exact ⟨g3,g4⟩
theorem E3a {r:Rng} {l:List Dev} {i:Nat} {w:Int} (h:H2 r l=true) (hi:i<l.length) (h1:1≤w) (h2:w≤1000):H2 r (wgt l i w)=true:=by
 obtain ⟨g1,g2,g3,g4⟩:=Ax.1 h
 refine Ax.2 ⟨Cvb g1 hi h1 h2,g2,g3,λ p hp=>?_⟩
 obtain ⟨q1,q2,q3⟩:=g4 p hp
 exact ⟨q1,q2,λ id hid=>by rw [Rg,E2a,← Rg]; exact q3 id hid⟩

theorem Sma (x:BitVec 32):(cst x).getLsbD 31=x.getLsbD 0:=by
 have h0:(x >>> 1).getLsbD 31=false:=by
  rw [BitVec.getLsbD_ushiftRight]
  exact BitVec.getLsbD_of_ge _ _ (by decide)
 unfold cst
 cases h:x.getLsbD 0 with
 |true=>
  rw [if_pos rfl,BitVec.getLsbD_xor,h0]
  decide
 |false=>
  rw [if_neg (by simp),h0]
theorem V7 {n:Nat} {x y c:BitVec n} (h:x ^^^ c=y ^^^ c):x=y:=by
 have:=congrArg (λ z=>z ^^^ c) h
 simpa [BitVec.xor_assoc] using this
theorem Aab {x y:BitVec 32} (h:cst x=cst y):x=y:=by
 have h0:x.getLsbD 0=y.getLsbD 0:=by rw [← Sma,← Sma,h]
 have h1:x >>> 1=y >>> 1:=by
  unfold cst at h
  rw [h0] at h
  cases hb:y.getLsbD 0 with
  |true=>rw [hb,if_pos rfl,if_pos rfl] at h; exact V7 h
  |false=>rw [hb,if_neg (by simp),if_neg (by simp)] at h; exact h
 refine BitVec.eq_of_getLsbD_eq λ i hi=>?_
 cases i with
 |zero=>exact h0
 |succ i=>
  have:=congrArg (λ z=>z.getLsbD i) h1
  simpa [BitVec.getLsbD_ushiftRight,Nat.add_comm] using this
theorem Aqa:∀ (n:Nat) {x y:BitVec 32},Bca n x=Bca n y→x=y
 |0,_,_,h=>h
 |n+1,_,_,h=>Aab (Aqa n h)
theorem Abb {x y:BitVec 32} {b:Int} (h:cby x b=cby y b):x=y:=V7 (Aqa 8 h)
theorem W2a {x:BitVec 32} {a b:Int} (ha:0≤a∧a≤255) (hb:0≤b∧b≤255) (h:cby x a=cby x b):a=b:=by
 have h1:x ^^^ BitVec.ofInt 32 a=x ^^^ BitVec.ofInt 32 b:=Aqa 8 h
 rw [BitVec.xor_comm,BitVec.xor_comm x] at h1
 have h2:=V7 h1
 rw [M0a ha,M0a hb,h2]
theorem Mga:∀ (l:List Int) {x y:BitVec 32},l.foldl cby x=l.foldl cby y→x=y
 |[],_,_,h=>h
 |_::l,_,_,h=>Abb (Mga l h)
theorem Y3a (l:List Int):0≤crc l∧crc l≤4294967295:=by
 unfold crc
 have:=(Bbb l).isLt
 omega
theorem Acb {l:List Int} {i:Nat} {y:Int} (hi:i<l.length) (hy:0≤y∧y≤255) (hb:An l) (hne:y≠l.getD i 0):crc (l.set i y)≠crc l:=by
 intro h
 have h1:Bbb (l.set i y)=Bbb l:=BitVec.eq_of_toNat_eq (by unfold crc at h; omega)
 unfold Bbb at h1
 have h2:=BitVec.not_inj.1 h1
 have e1:l.set i y=l.take i++y::l.drop (i+1):=by rw [List.set_eq_take_append_cons_drop,if_pos hi]
 have e2:l=l.take i++l.getD i 0::l.drop (i+1):=by
  conv => { lhs; rw [← List.take_append_drop i l] }
  rw [Al (d:=0) hi]
 rw [e1,List.foldl_append,List.foldl_cons] at h2
 rw [e2] at h2
 rw [List.foldl_append,List.foldl_cons] at h2
 have e3:(l.take i++l.getD i 0::l.drop (i+1)).take i=l.take i:=by rw [← e2]
 have e4:(l.take i++l.getD i 0::l.drop (i+1)).drop (i+1)=l.drop (i+1):=by rw [← e2]
 rw [e3,e4] at h2
 exact hne (W2a hy (hb _ (A3 hi)) (Mga _ h2))
theorem Cwb {a b:Int} (ha:0≤a∧a≤4294967295) (hb:0≤b∧b≤4294967295) (h:c4 a=c4 b):a=b:=by
 have e:∀ c:Int,0≤c→c4 c=[c / 16777216 % 256,c / 65536 % 256,c / 256 % 256,c % 256]:=λ c hc=>by
  unfold c4
  rw [show (2:Int) ^ (min (Int.toNat 24) (IntKind.bits .i64))=16777216 from by decide,show (2:Int) ^ (min (Int.toNat 16) (IntKind.bits .i64))=65536 from by decide,show (2:Int) ^ (min (Int.toNat 8) (IntKind.bits .i64))=256 from by decide,
   Int.fdiv_eq_ediv_of_nonneg _ (by omega),Int.fdiv_eq_ediv_of_nonneg _ (by omega),Int.fdiv_eq_ediv_of_nonneg _ (by omega),IntKind.wrap_u8,IntKind.wrap_u8,IntKind.wrap_u8,IntKind.wrap_u8]
 rw [e a ha.1,e b hb.1] at h
 simp only [List.cons.injEq,and_true] at h
 omega
theorem O3a {l m:List Int} {j:Nat} (h:j<l.length):(l++m).getD j 0=l.getD j 0:=by rw [List.getD_eq_getElem?_getD,List.getD_eq_getElem?_getD,List.getElem?_append_left h]
theorem O4a {l m:List Int} {j:Nat} (h:l.length≤j):(l++m).getD j 0=m.getD (j - l.length) 0:=by rw [List.getD_eq_getElem?_getD,List.getD_eq_getElem?_getD,List.getElem?_append_right h]
theorem W3a {f:Fil} (hf:Eb f=true) {n:Nat} (hn:n<8 * (Ls f).length):Nj (Nl (Ls f) n)=none:=by
 cases hg:Nj (Nl (Ls f) n) with
 |none=>rfl
 |some g=>
  exfalso
  obtain ⟨g1,_,g3⟩:=J6a hg
  have hpb:=Ry f
  have hj:n / 8<(Ls f).length:=by omega
  have hy:=M2a ((Ls f).getD (n / 8) 0) (n % 8)
  have hne:=Vsa (hpb _ (A3 (d:=0) hj)) (Nat.mod_lt n (show 0<8 by omega))
  unfold Nl at g3
  generalize Bda ((Ls f).getD (n / 8) 0) (n % 8)=y at g3 hy hne
  generalize n / 8=j at g3 hj hne
  have ef:Ls f=P7 f++c4 (crc (P7 f)):=by unfold Ls; rw [hf]; rfl
  have eg:Ls g=P7 g++c4 (crc (P7 g)):=by unfold Ls; rw [g1]; rfl
  have l4:∀ c,(c4 c).length=4:=λ c=>rfl
  rw [eg] at g3
  rw [ef] at g3 hj hne
  have hlen:(P7 g).length=(P7 f).length:=by
   have:=congrArg List.length g3
   rw [List.length_set,List.length_append,List.length_append,l4,l4] at this
   omega
  by_cases hjb:j<(P7 f).length
  ·rw [List.set_append_left _ _ hjb] at g3
   obtain ⟨a1,a2⟩:=List.append_inj g3 (by rw [List.length_set]; exact hlen)
   rw [O3a hjb] at hne
   have:=Cwb (Y3a _) (Y3a _) a2
   rw [a1] at this
   exact Acb hjb hy (Qc f) hne this
  ·rw [List.set_append_right _ _ (by omega)] at g3
   obtain ⟨a1,a2⟩:=List.append_inj g3 hlen
   rw [a1] at a2
   rw [O4a (by omega)] at hne
   rw [List.length_append,l4] at hj
   have:(c4 (crc (P7 f))).getD (j - (P7 f).length) 0=y:=by
    rw [a2,List.getD_eq_getElem?_getD,List.getElem?_set_self (by rw [l4]; omega),Option.getD_some]
   exact hne this.symm

def Qn (l:List Nmd) (ns:List ByteArray):List ByteArray:=l.foldl (λ ns x=>wt ns x.1) ns
def nms (d:Dsk):List ByteArray:=Qn (d.1++d.2) []
def pk1:Option Nmd→List Nmd
 |some x=>[x]
 |none=>[]
theorem Adb (o:Option Nmd):(pk1 o).length≤1:=by cases o<;>simp [pk1]
def T7 (kp:List Bool) (a b:List Nmd):List ByteArray→Nat→List Nmd
 |[],_=>[]
 |s::ns,i=>pk1 (pk (bif kp.getD i false then a else b) s)++T7 kp a b ns (i+1)
theorem Aeb (kp:List Bool) (a b:List Nmd) (i:Nat):T7 kp a b [] i=[]:=rfl
theorem W4a (kp:List Bool) (a b:List Nmd) (s:ByteArray) (ns:List ByteArray) (i:Nat):T7 kp a b (s::ns) i=pk1 (pk (bif kp.getD i false then a else b) s)++T7 kp a b ns (i+1):=rfl
def T3 (d:Dsk) (kp:List Bool):Dsk:=bif decide ((T7 kp d.1 d.2 (nms d) 0).length > 60) then d else (T7 kp d.1 d.2 (nms d) 0,T7 kp d.1 d.2 (nms d) 0)
theorem E4a:∀ (l:List Nmd) (ns:List ByteArray),TS ns→TS (Qn l ns)
 |[],_,h=>h
 |_::l,_,h=>E4a l _ (Rb h)
theorem Gxa:∀ (l:List Nmd) (ns:List ByteArray) (t:ByteArray),t∈Qn l ns↔(∃ x∈l,x.1=t)∨t∈ns
 |[],ns,t=>by simp [Qn]
 |x::l,ns,t=>by
  show t∈Qn l (wt ns x.1)↔_
  rw [Gxa l,Lya]
  simp only [List.mem_cons,exists_eq_or_imp]
  constructor
  ·rintro (h|rfl|h)
   ·exact .inl (.inr h)
   ·exact .inl (.inl rfl)
   ·exact .inr h
  ·rintro ((h|h)|h)
   ·exact .inr (.inl h.symm)
   ·exact .inl h
   ·exact .inr (.inr h)
theorem U9:∀ (l:List Nmd) (ns:List ByteArray),(Qn l ns).length≤ns.length+l.length
 |[],_=>by simp [Qn]
 |x::l,ns=>by
  have h1:=U9 l (wt ns x.1)
  have h2:=Rsa (l:=ns) (s:=x.1)
  show (Qn l (wt ns x.1)).length≤_
  rw [List.length_cons]
  omega
theorem Y4a (d:Dsk):TS (nms d):=E4a _ _ List.Pairwise.nil
theorem Afb {d:Dsk} {t:ByteArray}:t∈nms d↔(gt d.1 t).isSome=true∨(gt d.2 t).isSome=true:=by
 have h:∀ l:List Nmd,(gt l t).isSome=true↔∃ x∈l,x.1=t:=λ l=>by
  cases hg:gt l t with
  |none=>
   constructor
   ·intro h; cases h
   ·rintro ⟨x,hx,e⟩; exact absurd e (Nk.1 hg x hx)
  |some b=>simp only [Option.isSome_some,true_iff]; exact ⟨_,Oz hg,rfl⟩
 unfold nms
 rw [Gxa,h,h]
 simp only [List.mem_append,List.not_mem_nil,or_false]
 constructor
 ·rintro ⟨x,h1|h1,h2⟩
  ·exact .inl ⟨x,h1,h2⟩
  ·exact .inr ⟨x,h1,h2⟩
 ·rintro (⟨x,h1,h2⟩|⟨x,h1,h2⟩)
  ·exact ⟨x,.inl h1,h2⟩
  ·exact ⟨x,.inr h1,h2⟩
theorem Agb (l:List Nmd) (s:ByteArray):pk l s=(gt l s).map λ b=>(s,b):=by
 unfold pk gt
 cases h:fnd l s with
 |none=>rfl
 |some i=>rw [Option.map_some,← (Oh h).2]
theorem V8 (kp:List Bool) (a b:List Nmd):∀ (ns:List ByteArray) (i:Nat),((T7 kp a b ns i).map Prod.fst).Sublist ns
 |[],_=>List.Sublist.slnil
 |s::ns,i=>by
  unfold T7
  rw [Agb]
  cases gt (bif kp.getD i false then a else b) s with
  |none=>exact (V8 kp a b ns (i+1)).cons s
  |some c=>exact (V8 kp a b ns (i+1)).cons_cons s
theorem Ahb (kp:List Bool) (a b:List Nmd) (ns:List ByteArray) (i:Nat):(T7 kp a b ns i).length≤ns.length:=by
 have:=(V8 kp a b ns i).length_le
 rwa [List.length_map] at this
theorem O5a {kp:List Bool} {a b:List Nmd} {ns:List ByteArray} {i:Nat} (h:TS ns):Gp (T7 kp a b ns i):=by
 have:=List.Pairwise.sublist (V8 kp a b ns i) h
 rwa [List.pairwise_map] at this
theorem Sna {kp:List Bool} {a b:List Nmd}:∀ {ns:List ByteArray} {i:Nat} {x:Nmd},x∈T7 kp a b ns i→gt a x.1=some x.2∨gt b x.1=some x.2
 |[],_,_,h=>by cases h
 |s::ns,i,x,h=>by
  unfold T7 at h
  rw [Agb] at h
  rcases List.mem_append.1 h with h|h
  ·cases hg:gt (bif kp.getD i false then a else b) s with
   |none=>rw [hg] at h; cases h
   |some c=>
    rw [hg] at h
    rw [List.mem_singleton.1 h]
    cases hk:kp.getD i false with
    |true=>rw [hk] at hg; exact .inl hg
    |false=>rw [hk] at hg; exact .inr hg
  ·exact Sna h
theorem Y5a {kp:List Bool} {a b:List Nmd} {t:ByteArray}:∀ {ns:List ByteArray} {i:Nat},TS ns→t∈ns→∃ j,i≤j∧gt (T7 kp a b ns i) t=gt (bif kp.getD j false then a else b) t
 |[],_,_,h=>by cases h
 |s::ns,i,hs,h=>by
  obtain ⟨h1,h2⟩:=List.pairwise_cons.1 hs
  have hn:∀ j,gt (T7 kp a b ns j) s=none:=λ j=>Nk.2 λ x hx e=>by
   have:=h1 x.1 ((V8 kp a b ns j).subset (List.mem_map_of_mem hx))
   rw [e,Lj] at this
   cases this
  unfold T7
  rw [Agb]
  rcases List.mem_cons.1 h with rfl|h
  ·refine ⟨i,Nat.le_refl _,?_⟩
   cases hg:gt (bif kp.getD i false then a else b) t with
   |none=>exact hn _
   |some c=>
    show gt ((t,c)::T7 kp a b ns (i+1)) t=_
    rw [J7a,if_pos rfl]
  ·obtain ⟨j,hj,e⟩:=Y5a (kp:=kp) (a:=a) (b:=b) (i:=i+1) h2 h
   refine ⟨j,by omega,?_⟩
   rw [← e]
   have hst:s≠t:=λ e=>by
    have:=h1 t h
    rw [e,Lj] at this
    cases this
   cases gt (bif kp.getD i false then a else b) s with
   |none=>rfl
   |some c=>
    show gt ((s,c)::T7 kp a b ns (i+1)) t=_
    rw [J7a,if_neg hst]
theorem Soa {d:Dsk} {kp:List Bool} (h:DG d):DG (T3 d kp):=by
 unfold T3
 cases hc:decide ((T7 kp d.1 d.2 (nms d) 0).length > 60) with
 |true=>exact h
 |false=>
  have hl:=of_decide_eq_false hc
  have n1:=(Ap.1 (F5.1 h.1).1).2.1
  have n2:=(Ap.1 (F5.1 h.1).2).2.1
  have q:J6 (T7 kp d.1 d.2 (nms d) 0)=true:=Ap.2 ⟨O5a (Y4a d),λ x hx=>(Sna hx).elim (λ e=>n1 _ (Oz e)) (λ e=>n2 _ (Oz e)),by omega⟩
  have b:LB (T7 kp d.1 d.2 (nms d) 0):=λ x hx=>(Sna hx).elim (λ e=>h.2.1.gt e) (λ e=>h.2.2.gt e)
  exact ⟨F5.2 ⟨q,q⟩,b,b⟩
theorem Spa {d:Dsk} {kp:List Bool} (t:ByteArray):T3 d kp=d∨((T3 d kp).2=(T3 d kp).1∧(gt (T3 d kp).1 t=gt d.1 t∨gt (T3 d kp).1 t=gt d.2 t)):=by
 unfold T3
 cases hc:decide ((T7 kp d.1 d.2 (nms d) 0).length > 60) with
 |true=>exact .inl rfl
 |false=>
  refine .inr ⟨rfl,?_⟩
  show gt (T7 kp d.1 d.2 (nms d) 0) t=_∨gt (T7 kp d.1 d.2 (nms d) 0) t=_
  by_cases ht:t∈nms d
  ·obtain ⟨j,_,e⟩:=Y5a (kp:=kp) (a:=d.1) (b:=d.2) (i:=0) (Y4a d) ht
   rw [e]
   cases kp.getD j false with
   |true=>exact .inl rfl
   |false=>exact .inr rfl
  ·have h1:gt d.1 t=none:=by
    cases hg:gt d.1 t with
    |none=>rfl
    |some b=>exact absurd (Afb.2 (.inl (by rw [hg]; rfl))) ht
   left
   rw [h1]
   exact Nk.2 λ x hx e=>ht (by rw [← e]; exact (V8 _ _ _ _ _).subset (List.mem_map_of_mem hx))
theorem E5a {R:Type} {L:Nat→List Nmd→Option R} {Q:R→Prop} (c:List Nmd) (s:ByteArray) (acc:List Nmd) (hc:c.length≤5000000) (ha:acc.length≤5000000) (next:Tot (λ k=>L k (acc++pk1 (pk c s))) Q):
  Tot (λ k=>(D0 k c s).bind λ r=>cond (decide (r≥0)) (cond (decide ((0:Int)≤r)) (cond (decide (r<(List.length c:Int))) (cond (Nat.ble ((List.length acc+List.length [List.getD c (Int.toNat r) ((⟨#[]⟩:ByteArray),[])]) * 40) 140737488355328) (L k (acc++[List.getD c (Int.toNat r) ((⟨#[]⟩:ByteArray),[])])) none) none) none) (L k acc)) Q:=by
 refine Tot.bind (Cfa c s (by omega)) ?_
 rintro r rfl
 unfold pk at next
 unfold Dua
 cases h:fnd c s with
 |none=>
  rw [h] at next
  simp only [pk1,List.append_nil] at next
  exact Tot.ndec (by decide) next
 |some i=>
  rw [h] at next
  have:=(Oh h).1
  simp only [Int.toNat_natCast]
  exact Tot.dec (by omega) (Tot.dec (by omega) (Tot.dec (by omega) (Tot.ble (by simp only [List.length_cons,List.length_nil]; omega) next)))

def mk0 (s:ByteArray):Nmd:=(s,[])
theorem V9 {ns:List ByteArray} (h:TS ns):Gp (ns.map mk0):=by
 unfold Gp
 rw [List.pairwise_map]
 exact h
theorem Y6a {ns:List ByteArray} (h:TS ns) {t:ByteArray}:(t∈ns→gt (ns.map mk0) t=some [])∧(t∉ns→gt (ns.map mk0) t=none):=by
 refine ⟨λ ht=>?_,λ ht=>Nk.2 λ x hx e=>?_⟩
 ·exact J8a (V9 h) (x:=mk0 t) (List.mem_map_of_mem ht)
 ·obtain ⟨s,hs,rfl⟩:=List.mem_map.1 hx
  exact ht (by rw [← e]; exact hs)
theorem Cxb {ns:List ByteArray} (h:TS ns) (s:ByteArray):ptl (s,[]) false (ns.map mk0)=(wt ns s).map mk0:=by
 have h1:=V9 h
 rw [V4 _ h1]
 refine Xxa (Rx (Nh h1) Aga) (V9 (Rb h)) λ t=>?_
 have e:=Jaa h1 (s:=s) (t:=t) (b:=[])
 unfold wr at e
 rw [e]
 have g1:=Y6a h (t:=t)
 have g2:=Y6a (Rb (s:=s) h) (t:=t)
 by_cases hst:s=t
 ·rw [if_pos hst,g2.1 (Lya.2 (.inl hst.symm))]
 ·rw [if_neg hst]
  by_cases ht:t∈ns
  ·rw [g1.1 ht,g2.1 (Lya.2 (.inr ht))]
  ·rw [g1.2 ht,g2.2 (λ c=>(Lya.1 c).elim (λ e=>hst e.symm) ht)]
theorem Sqa (a b:List Nmd) (ha:a.length≤2000000) (hb:b.length≤2000000):Tot (λ k=>Ce k a b) (λ r=>r=nms (a,b)):=by
 unfold Ce
 have put:∀ {ns:List ByteArray} (x:Nmd),TS ns→ns.length≤5000000→Tot (λ k=>Fq k (ns.map mk0) x.1 []) (λ r=>r=(wt ns x.1).map mk0):=λ x ht hl=>(Dwa _ x.1 [] (by rw [List.length_map]; omega) (by simp)).mono λ r hr=>by rw [hr,Cxb ht]
 refine Tot.bind (Q:=λ r=>r=(b,(Qn a []).map mk0)) ?_ ?_
 ·refine Tot.up (L:=λ k i s=>G5 k a b s i) (Q:=λ r=>r=(b,(Qn a []).map mk0)) a.length (λ j s=>∃ ns,s=ns.map mk0∧TS ns∧Qn (a.drop j) ns=Qn a []∧ns.length≤j) ?_ ?_ 0 [] (Nat.zero_le _) ⟨[],rfl,List.Pairwise.nil,rfl,Nat.le_refl _⟩
  ·rintro s ⟨ns,rfl,_,h,_⟩
   rw [List.drop_length] at h
   simp (disch:=omega) only [G5,dF]
   exact Tot.pure (by rw [← h]; rfl)
  ·rintro j s hj ⟨ns,rfl,ht,h,hl⟩ next
   rw [Al (d:=Ed) hj] at h
   simp (disch:=omega) only [G5,dT,Int.toNat_natCast,w64]
   refine Tot.bind (put (a.getD j Ed) ht (by omega)) ?_
   rintro r rfl
   have:=Rsa (l:=ns) (s:=(a.getD j Ed).1)
   exact next _ ⟨_,rfl,Rb ht,h,by omega⟩
 ·rintro r rfl
  have hla:(Qn a []).length≤2000000:=by have:=U9 a []; rw [List.length_nil] at this; omega
  have e:Qn b (Qn a [])=nms (a,b):=by unfold nms Qn; rw [List.foldl_append]
  refine Tot.bind (Q:=λ r=>r=(nms (a,b)).map mk0) ?_ ?_
  ·refine Tot.up (L:=λ k i s=>G4 k b s i) (Q:=λ r=>r=(nms (a,b)).map mk0) b.length (λ j s=>∃ ns,s=ns.map mk0∧TS ns∧Qn (b.drop j) ns=nms (a,b)∧ns.length≤2000000+j) ?_ ?_ 0 _ (Nat.zero_le _) ⟨_,rfl,E4a _ _ List.Pairwise.nil,e,by omega⟩
   ·rintro s ⟨ns,rfl,_,h,_⟩
    rw [List.drop_length] at h
    simp (disch:=omega) only [G4,dF]
    exact Tot.pure (by rw [← h]; rfl)
   ·rintro j s hj ⟨ns,rfl,ht,h,hl⟩ next
    rw [Al (d:=Ed) hj] at h
    simp (disch:=omega) only [G4,dT,Int.toNat_natCast,w64]
    refine Tot.bind (put (b.getD j Ed) ht (by omega)) ?_
    rintro r rfl
    have:=Rsa (l:=ns) (s:=(b.getD j Ed).1)
    exact next _ ⟨_,rfl,Rb ht,h,by omega⟩
  ·rintro r rfl
   have hln:(nms (a,b)).length≤4000000:=by rw [← e]; have:=U9 b (Qn a []); omega
   refine Tot.bind (Q:=λ r=>r=nms (a,b)) ?_ (by rintro r rfl; exact Tot.pure rfl)
   refine Tot.up (L:=λ k i s=>Ew k ((nms (a,b)).map mk0) s i) (Q:=λ r=>r=nms (a,b)) (nms (a,b)).length (λ j s=>s=(nms (a,b)).take j) ?_ ?_ 0 [] (Nat.zero_le _) rfl
   ·rintro s rfl
    simp (disch:=omega) only [Ew,List.length_map,dF,List.take_length]
    exact Tot.pure rfl
   ·rintro j s hj rfl next
    simp (disch:=omega) only [Ew,List.length_map,dT,Int.toNat_natCast,w64]
    refine Tot.ble (by simp only [List.length_take,List.length_cons,List.length_nil]; omega) (next _ ?_)
    rw [List.take_succ_eq_append_getElem hj,List.getD_eq_getElem?_getD,List.getElem?_map,List.getElem?_eq_getElem hj]
    rfl
theorem Sra (d:Dsk) (kp:List Bool) (hd:DG d) (hk:kp.length≤4000000000000):Tot (λ k=>Da k d kp) (λ r=>r=T3 d kp):=by
 have hin:=Pq hd.1
 have g1:=(Ap.1 (F5.1 hd.1).1).2.2
 have g2:=(Ap.1 (F5.1 hd.1).2).2.2
 unfold Da
 refine Tot.bind (Qa d hin.1.1 hin.1.2) ?_
 rintro b rfl
 rw [hd.1]
 refine Tot.no rfl (Tot.bind (Sqa d.1 d.2 (by omega) (by omega)) ?_)
 rintro r rfl
 have hn:(nms d).length≤120:=by
  have:=U9 (d.1++d.2) []
  rw [List.length_nil,List.length_append] at this
  exact Nat.le_trans this (by omega)
 refine Tot.bind (Q:=λ r=>r=(T7 kp d.1 d.2 (nms d) 0,d,([],[]))) ?_ ?_
 ·refine Tot.up (L:=λ k i s=>As k kp (nms d) s i d ([],[])) (Q:=λ r=>r=(T7 kp d.1 d.2 (nms d) 0,d,([],[]))) (nms d).length (λ j s=>s++T7 kp d.1 d.2 ((nms d).drop j) j=T7 kp d.1 d.2 (nms d) 0∧s.length≤j) ?_ ?_ 0 [] (Nat.zero_le _) ⟨rfl,Nat.le_refl _⟩
  ·rintro s ⟨h,_⟩
   rw [List.drop_length,Aeb,List.append_nil] at h
   simp (disch:=omega) only [As,dF]
   exact Tot.pure (by rw [h])
  ·rintro j s hj ⟨h,hs⟩ next
   rw [Al (d:=Ni) hj] at h
   rw [W4a,← List.append_assoc] at h
   simp (disch:=omega) only [As,dT,Int.toNat_natCast,w64]
   have hl:=Adb (pk (bif kp.getD j false then d.1 else d.2) ((nms d).getD j Ni))
   have nx:=next (s++pk1 (pk (bif kp.getD j false then d.1 else d.2) ((nms d).getD j Ni))) ⟨h,by rw [List.length_append]; omega⟩
   have e0:(nms d).getD j (⟨#[]⟩:ByteArray)=(nms d).getD j Ni:=rfl
   rw [e0]
   refine Tot.dite (λ hc=>?_) (λ hc=>?_)
   ·refine Tot.dec (by omega) (Tot.ite (λ hk=>?_) (λ hk=>?_))
    ·rw [hk] at nx
     exact E5a (L:=λ k acc=>As k kp (nms d) acc ((j:Int)+1) d ([],[])) d.1 _ s (by omega) (by omega) nx
    ·rw [hk] at nx
     exact E5a (L:=λ k acc=>As k kp (nms d) acc ((j:Int)+1) d ([],[])) d.2 _ s (by omega) (by omega) nx
   ·have hk:kp.getD j false=false:=by rw [List.getD_eq_getElem?_getD,List.getElem?_eq_none (by omega)]; rfl
    rw [hk] at nx
    exact E5a (L:=λ k acc=>As k kp (nms d) acc ((j:Int)+1) d ([],[])) d.2 _ s (by omega) (by omega) nx
 ·rintro r rfl
  have hp:=Ahb kp d.1 d.2 (nms d) 0
  unfold T3
  refine Tot.dite (λ h=>?_) (λ h=>?_)
  ·dsimp only at h
   rw [decide_eq_true (show (T7 kp d.1 d.2 (nms d) 0).length > 60 by omega)]
   refine Tot.bind (M1 d hin.1.1) ?_
   rintro r rfl
   exact Tot.pure rfl
  ·dsimp only at h
   have hc:decide ((T7 kp d.1 d.2 (nms d) 0).length > 60)=false:=decide_eq_false (by omega)
   have hg:=Soa (kp:=kp) hd
   unfold T3 at hg
   rw [hc] at hg ⊢
   rw [cond_false] at hg
   have hf:=(Pq hg.1).1.1.1
   refine Tot.bind (Oy _ hf) ?_
   rintro r rfl
   refine Tot.bind (Oy _ hf) ?_
   rintro r rfl
   exact Tot.pure rfl
def clS (o:Dsk×Int) (x:Nmd):Dsk×Int:=match Nj x.2 with
 |some _=>o
 |none=>((cut o.1.1 x.1,cut o.1.2 x.1),o.2+1)
def Ol (d:Dsk):Dsk×Int:=d.1.foldl clS (d,0)
theorem O6a {l:List Nmd} {s:ByteArray} (h:gt l s=none):cut l s=l:=by
 refine List.filter_eq_self.2 λ x hx=>?_
 cases ht:teq x.1 s with
 |false=>rfl
 |true=>exact absurd (Jm.1 ht) (Nk.1 h x hx)
theorem Cyb {d:Dsk} {s:ByteArray} (h:DG d):DG (cut d.1 s,cut d.2 s):=⟨F5.2 ⟨W7 (F5.1 h.1).1,W7 (F5.1 h.1).2⟩,h.2.1.cut s,h.2.2.cut s⟩
theorem Aib {o:Dsk×Int} {x:Nmd} (h:DG o.1):DG (clS o x).1:=by
 unfold clS
 cases Nj x.2 with
 |some _=>exact h
 |none=>exact Cyb h
theorem Mha:∀ (l:List Nmd) (o:Dsk×Int),DG o.1→DG (l.foldl clS o).1
 |[],_,h=>h
 |_::l,_,h=>Mha l _ (Aib h)
theorem W5a {d:Dsk} (h:DG d):DG (Ol d).1:=Mha _ _ h
def Eja (l:List Nmd):List ByteArray:=(l.filter λ x=>(Nj x.2).isNone).map Prod.fst
theorem Ara:∀ (l:List Nmd) (o:Dsk×Int),DG o.1→((l.foldl clS o).2=o.2+((Eja l).length:Int))∧∀ t,(t∈Eja l→gt (l.foldl clS o).1.1 t=none∧gt (l.foldl clS o).1.2 t=none)∧(t∉Eja l→gt (l.foldl clS o).1.1 t=gt o.1.1 t∧gt (l.foldl clS o).1.2 t=gt o.1.2 t)
 |[],o,h=>⟨by simp [Eja],λ t=>⟨λ c=>by simp [Eja] at c,λ _=>⟨rfl,rfl⟩⟩⟩
 |x::l,o,h=>by
  obtain ⟨h1,h2⟩:=Ara l (clS o x) (Aib h)
  rw [List.foldl_cons]
  cases hx:Nj x.2 with
  |some f=>
   have e:Eja (x::l)=Eja l:=by unfold Eja; rw [List.filter_cons,hx]; rfl
   have ec:clS o x=o:=by unfold clS; rw [hx]
   rw [e]
   rw [ec] at h1 h2 ⊢
   exact ⟨h1,h2⟩
  |none=>
   have e:Eja (x::l)=x.1::Eja l:=by unfold Eja; rw [List.filter_cons,hx]; rfl
   have ec:clS o x=((cut o.1.1 x.1,cut o.1.2 x.1),o.2+1):=by unfold clS; rw [hx]
   rw [e]
   rw [ec] at h1 h2 ⊢
   refine ⟨by rw [h1,List.length_cons]; omega,λ t=>⟨λ ht=>?_,λ ht=>?_⟩⟩
   ·by_cases hb:t∈Eja l
    ·exact (h2 t).1 hb
    ·obtain ⟨a1,a2⟩:=(h2 t).2 hb
     have:x.1=t:=by
      rcases List.mem_cons.1 ht with e|e
      ·exact e.symm
      ·exact absurd e hb
     rw [a1,a2,U6 (N7 h.1),U6 (Qe h.1),if_pos this,if_pos this]
     exact ⟨rfl,rfl⟩
   ·obtain ⟨a1,a2⟩:=(h2 t).2 (λ c=>ht (List.mem_cons_of_mem _ c))
    have:x.1≠t:=λ e=>ht (by rw [← e]; exact List.mem_cons_self)
    rw [a1,a2,U6 (N7 h.1),U6 (Qe h.1),if_neg this,if_neg this]
    exact ⟨rfl,rfl⟩
theorem W6a {d:Dsk} (hd:B4 d=true) {t:ByteArray}:t∈Eja d.1↔∃ b,gt d.1 t=some b∧Nj b=none:=by
 unfold Eja
 rw [List.mem_map]
 constructor
 ·rintro ⟨x,hx,rfl⟩
  obtain ⟨h1,h2⟩:=List.mem_filter.1 hx
  exact ⟨x.2,J8a (N7 hd) h1,by simpa using h2⟩
 ·rintro ⟨b,h1,h2⟩
  exact ⟨(t,b),List.mem_filter.2 ⟨Oz h1,by simp [h2]⟩,rfl⟩
theorem Ssa (d:Dsk) (hd:DG d):Tot (λ k=>Iq k d) (λ r=>r=Ol d):=by
 have hin:=Pq hd.1
 have hl:=(Ap.1 (F5.1 hd.1).1).2.2
 have hnk:=(Ap.1 (F5.1 hd.1).1).2.1
 unfold Iq
 refine Tot.bind (M1 d hin.1.1) ?_
 rintro d rfl
 refine Tot.bind (Q:=λ r=>r=((Ol d).2,([],[]),(Ol d).1)) ?_ (by rintro r rfl; exact Tot.pure rfl)
 refine Tot.up (L:=λ k i (s:Dsk×Int)=>Hw k s.2 i d ([],[]) s.1) (Q:=λ r=>r=((Ol d).2,([],[]),(Ol d).1)) d.1.length (λ j s=>(d.1.drop j).foldl clS s=Ol d∧DG s.1∧0≤s.2∧s.2≤j) ?_ ?_ 0 (d,0) (Nat.zero_le _) ⟨rfl,hd,Int.le_refl 0,by simp⟩
 ·rintro s ⟨h,_⟩
  rw [List.drop_length] at h
  simp (disch:=omega) only [Hw,dF]
  exact Tot.pure (by rw [← h]; rfl)
 ·rintro j s hj ⟨h,hg,s0,s1⟩ next
  rw [Al (d:=Ed) hj,List.foldl_cons] at h
  have hsi:=Pq hg.1
  have hx:=A3 (d:=Ed) hj
  simp (disch:=omega) only [Hw,dT,Int.toNat_natCast,w64]
  have e0:d.1.getD j ((⟨#[]⟩:ByteArray),([]:List Int))=d.1.getD j Ed:=rfl
  rw [e0]
  refine Tot.bind (Qa d hin.1.1 hin.1.2) ?_
  rintro r rfl
  refine Tot.yes hd.1 (Tot.bind (Xo hin.1.1.1 hd.2.1 _) ?_)
  rintro r rfl
  have hnm:=(Qb.1 (hnk _ hx)).1
  have hcg:=Aib (x:=d.1.getD j Ed) hg
  unfold clS at h hcg
  unfold lkD
  rw [J8a (N7 hd.1) hx]
  simp only
  cases hf:Nj (d.1.getD j Ed).2 with
  |some f=>
   rw [hf] at h
   exact Tot.no rfl (next _ ⟨h,hg,s0,by omega⟩)
  |none=>
   rw [hf] at h hcg
   refine Tot.yes rfl (Tot.bind (Ama hg.1 (Ir hnm)) ?_)
   rintro r rfl
   have er:(rmD s.1 (d.1.getD j Ed).1).1=(cut s.1.1 (d.1.getD j Ed).1,s.1.2):=by
    unfold rmD
    cases hg1:gt s.1.1 (d.1.getD j Ed).1 with
    |none=>rw [O6a hg1]; rfl
    |some b=>rfl
   have hrg:=A7b (s:=(d.1.getD j Ed).1) hg
   rw [er] at hrg ⊢
   refine Tot.bind (Ala hrg.1 hnm) ?_
   rintro r rfl
   have es:(syD (cut s.1.1 (d.1.getD j Ed).1,s.1.2) (d.1.getD j Ed).1).1=(cut s.1.1 (d.1.getD j Ed).1,cut s.1.2 (d.1.getD j Ed).1):=by
    have e2:sy (cut s.1.1 (d.1.getD j Ed).1,s.1.2) (d.1.getD j Ed).1=cut s.1.2 (d.1.getD j Ed).1:=by
     unfold sy
     rw [U6 (N7 hg.1),if_pos rfl]
    unfold syD
    rw [e2,decide_eq_true (Ap.1 (F5.1 hcg.1).2).2.2]
    rfl
   rw [es]
   exact next ((cut s.1.1 (d.1.getD j Ed).1,cut s.1.2 (d.1.getD j Ed).1),s.2+1) ⟨h,hcg,by dsimp only; omega,by dsimp only; omega⟩

end Go.Proofs.YtmhhjceoinoekaaGreat.Vf
