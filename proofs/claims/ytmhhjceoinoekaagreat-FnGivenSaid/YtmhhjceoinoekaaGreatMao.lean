import Derived.Test.YtmhhjceoinoekaaGreatMan
set_option linter.unusedVariables false
set_option linter.unusedSimpArgs false
namespace Go.Proofs.YtmhhjceoinoekaaGreat.Vf
open Go

def mk0 (s:ByteArray):Nmd:=(s,[])
theorem U8 {ns:List ByteArray} (h:TS ns):Fv (ns.map mk0):=by
 unfold Fv
 rw [List.pairwise_map]
 exact h
theorem X9a {ns:List ByteArray} (h:TS ns) {t:ByteArray}:(t∈ns→gt (ns.map mk0) t=some [])∧(t∉ns→gt (ns.map mk0) t=none):=by
 refine ⟨λ ht=>?_,λ ht=>Mm.2 λ x hx e=>?_⟩
 ·exact R9a (U8 h) (x:=mk0 t) (List.mem_map_of_mem ht)
 ·obtain ⟨s,hs,rfl⟩:=List.mem_map.1 hx
  exact ht (by rw [← e]; exact hs)
theorem Bvb {ns:List ByteArray} (h:TS ns) (s:ByteArray):ptl (s,[]) false (ns.map mk0)=(wt ns s).map mk0:=by
 have h1:=U8 h
 rw [U3 _ h1]
 refine Wua (R5 (Ml h1) Y1) (U8 (Qh h)) λ t=>?_
 have e:=Ioa h1 (s:=s) (t:=t) (b:=[])
 unfold wr at e
 rw [e]
 have g1:=X9a h (t:=t)
 have g2:=X9a (Qh (s:=s) h) (t:=t)
 by_cases hst:s=t
 ·rw [if_pos hst,g2.1 (L6a.2 (.inl hst.symm))]
 ·rw [if_neg hst]
  by_cases ht:t∈ns
  ·rw [g1.1 ht,g2.1 (L6a.2 (.inr ht))]
  ·rw [g1.2 ht,g2.2 (λ c=>(L6a.1 c).elim (λ e=>hst e.symm) ht)]
theorem S2a (a b:List Nmd) (ha:a.length≤2000000) (hb:b.length≤2000000):Tot (λ k=>Cb k a b) (λ r=>r=nms (a,b)):=by
 unfold Cb
 have put:∀ {ns:List ByteArray} (x:Nmd),TS ns→ns.length≤5000000→Tot (λ k=>Ep k (ns.map mk0) x.1 []) (λ r=>r=(wt ns x.1).map mk0):=λ x ht hl=>(D5a _ x.1 [] (by rw [List.length_map]; omega) (by simp)).mono λ r hr=>by rw [hr,Bvb ht]
 refine Tot.bind (Q:=λ r=>r=(b,(Pv a []).map mk0)) ?_ ?_
 ·refine Tot.up (L:=λ k i s=>F4 k a b s i) (Q:=λ r=>r=(b,(Pv a []).map mk0)) a.length (λ j s=>∃ ns,s=ns.map mk0∧TS ns∧Pv (a.drop j) ns=Pv a []∧ns.length≤j) ?_ ?_ 0 [] (Nat.zero_le _) ⟨[],rfl,List.Pairwise.nil,rfl,Nat.le_refl _⟩
  ·rintro s ⟨ns,rfl,_,h,_⟩
   rw [List.drop_length] at h
   simp (disch:=omega) only [F4,dF]
   exact Tot.pure (by rw [← h]; rfl)
  ·rintro j s hj ⟨ns,rfl,ht,h,hl⟩ next
   rw [An (d:=Fu) hj] at h
   simp (disch:=omega) only [F4,dT,Int.toNat_natCast,w64]
   refine Tot.bind (put (a.getD j Fu) ht (by omega)) ?_
   rintro r rfl
   have:=R4a (l:=ns) (s:=(a.getD j Fu).1)
   exact next _ ⟨_,rfl,Qh ht,h,by omega⟩
 ·rintro r rfl
  have hla:(Pv a []).length≤2000000:=by have:=T8 a []; rw [List.length_nil] at this; omega
  have e:Pv b (Pv a [])=nms (a,b):=by unfold nms Pv; rw [List.foldl_append]
  refine Tot.bind (Q:=λ r=>r=(nms (a,b)).map mk0) ?_ ?_
  ·refine Tot.up (L:=λ k i s=>F3 k b s i) (Q:=λ r=>r=(nms (a,b)).map mk0) b.length (λ j s=>∃ ns,s=ns.map mk0∧TS ns∧Pv (b.drop j) ns=nms (a,b)∧ns.length≤2000000+j) ?_ ?_ 0 _ (Nat.zero_le _) ⟨_,rfl,Dca _ _ List.Pairwise.nil,e,by omega⟩
   ·rintro s ⟨ns,rfl,_,h,_⟩
    rw [List.drop_length] at h
    simp (disch:=omega) only [F3,dF]
    exact Tot.pure (by rw [← h]; rfl)
   ·rintro j s hj ⟨ns,rfl,ht,h,hl⟩ next
    rw [An (d:=Fu) hj] at h
    simp (disch:=omega) only [F3,dT,Int.toNat_natCast,w64]
    refine Tot.bind (put (b.getD j Fu) ht (by omega)) ?_
    rintro r rfl
    have:=R4a (l:=ns) (s:=(b.getD j Fu).1)
    exact next _ ⟨_,rfl,Qh ht,h,by omega⟩
  ·rintro r rfl
   have hln:(nms (a,b)).length≤4000000:=by rw [← e]; have:=T8 b (Pv a []); omega
   refine Tot.bind (Q:=λ r=>r=nms (a,b)) ?_ (by rintro r rfl; exact Tot.pure rfl)
   refine Tot.up (L:=λ k i s=>E5 k ((nms (a,b)).map mk0) s i) (Q:=λ r=>r=nms (a,b)) (nms (a,b)).length (λ j s=>s=(nms (a,b)).take j) ?_ ?_ 0 [] (Nat.zero_le _) rfl
   ·rintro s rfl
    simp (disch:=omega) only [E5,List.length_map,dF,List.take_length]
    exact Tot.pure rfl
   ·rintro j s hj rfl next
    simp (disch:=omega) only [E5,List.length_map,dT,Int.toNat_natCast,w64]
    refine Tot.ble (by simp only [List.length_take,List.length_cons,List.length_nil]; omega) (next _ ?_)
    rw [List.take_succ_eq_append_getElem hj,List.getD_eq_getElem?_getD,List.getElem?_map,List.getElem?_eq_getElem hj]
    rfl
theorem S3a (d:Dsk) (kp:List Bool) (hd:DG d) (hk:kp.length≤4000000000000):Tot (λ k=>D6 k d kp) (λ r=>r=S5 d kp):=by
 have hin:=Nz hd.1
 have g1:=(Af.1 (Dr.1 hd.1).1).2.2
 have g2:=(Af.1 (Dr.1 hd.1).2).2.2
 unfold D6
 refine Tot.bind (Pk d hin.1.1 hin.1.2) ?_
 rintro b rfl
 rw [hd.1]
 refine Tot.no rfl (Tot.bind (S2a d.1 d.2 (by omega) (by omega)) ?_)
 rintro r rfl
 have hn:(nms d).length≤120:=by
  have:=T8 (d.1++d.2) []
  rw [List.length_nil,List.length_append] at this
  exact Nat.le_trans this (by omega)
 refine Tot.bind (Q:=λ r=>r=(S9 kp d.1 d.2 (nms d) 0,d,([],[]))) ?_ ?_
 ·refine Tot.up (L:=λ k i s=>Ap k kp (nms d) s i d ([],[])) (Q:=λ r=>r=(S9 kp d.1 d.2 (nms d) 0,d,([],[]))) (nms d).length (λ j s=>s++S9 kp d.1 d.2 ((nms d).drop j) j=S9 kp d.1 d.2 (nms d) 0∧s.length≤j) ?_ ?_ 0 [] (Nat.zero_le _) ⟨rfl,Nat.le_refl _⟩
  ·rintro s ⟨h,_⟩
   rw [List.drop_length,Zda,List.append_nil] at h
   simp (disch:=omega) only [Ap,dF]
   exact Tot.pure (by rw [h])
  ·rintro j s hj ⟨h,hs⟩ next
   rw [An (d:=Og) hj] at h
   rw [Vca,← List.append_assoc] at h
   simp (disch:=omega) only [Ap,dT,Int.toNat_natCast,w64]
   have hl:=Zca (pk (bif kp.getD j false then d.1 else d.2) ((nms d).getD j Og))
   have nx:=next (s++pk1 (pk (bif kp.getD j false then d.1 else d.2) ((nms d).getD j Og))) ⟨h,by rw [List.length_append]; omega⟩
   have e0:(nms d).getD j (⟨#[]⟩:ByteArray)=(nms d).getD j Og:=rfl
   rw [e0]
   refine Tot.dite (λ hc=>?_) (λ hc=>?_)
   ·refine Tot.dec (by omega) (Tot.ite (λ hk=>?_) (λ hk=>?_))
    ·rw [hk] at nx
     exact Dda (L:=λ k acc=>Ap k kp (nms d) acc ((j:Int)+1) d ([],[])) d.1 _ s (by omega) (by omega) nx
    ·rw [hk] at nx
     exact Dda (L:=λ k acc=>Ap k kp (nms d) acc ((j:Int)+1) d ([],[])) d.2 _ s (by omega) (by omega) nx
   ·have hk:kp.getD j false=false:=by rw [List.getD_eq_getElem?_getD,List.getElem?_eq_none (by omega)]; rfl
    rw [hk] at nx
    exact Dda (L:=λ k acc=>Ap k kp (nms d) acc ((j:Int)+1) d ([],[])) d.2 _ s (by omega) (by omega) nx
 ·rintro r rfl
  have hp:=Zga kp d.1 d.2 (nms d) 0
  unfold S5
  refine Tot.dite (λ h=>?_) (λ h=>?_)
  ·dsimp only at h
   rw [decide_eq_true (show (S9 kp d.1 d.2 (nms d) 0).length > 60 by omega)]
   refine Tot.bind (L8 d hin.1.1) ?_
   rintro r rfl
   exact Tot.pure rfl
  ·dsimp only at h
   have hc:decide ((S9 kp d.1 d.2 (nms d) 0).length > 60)=false:=decide_eq_false (by omega)
   have hg:=S0a (kp:=kp) hd
   unfold S5 at hg
   rw [hc] at hg ⊢
   rw [cond_false] at hg
   have hf:=(Nz hg.1).1.1.1
   refine Tot.bind (Ny _ hf) ?_
   rintro r rfl
   refine Tot.bind (Ny _ hf) ?_
   rintro r rfl
   exact Tot.pure rfl
def clS (o:Dsk×Int) (x:Nmd):Dsk×Int:=match O4 x.2 with
 |some _=>o
 |none=>((cut o.1.1 x.1,cut o.1.2 x.1),o.2+1)
def Np (d:Dsk):Dsk×Int:=d.1.foldl clS (d,0)
theorem Nha {l:List Nmd} {s:ByteArray} (h:gt l s=none):cut l s=l:=by
 refine List.filter_eq_self.2 λ x hx=>?_
 cases ht:teq x.1 s with
 |false=>rfl
 |true=>exact absurd (Ja.1 ht) (Mm.1 h x hx)
theorem Bwb {d:Dsk} {s:ByteArray} (h:DG d):DG (cut d.1 s,cut d.2 s):=⟨Dr.2 ⟨Ui (Dr.1 h.1).1,Ui (Dr.1 h.1).2⟩,h.2.1.cut s,h.2.2.cut s⟩
theorem Zha {o:Dsk×Int} {x:Nmd} (h:DG o.1):DG (clS o x).1:=by
 unfold clS
 cases O4 x.2 with
 |some _=>exact h
 |none=>exact Bwb h
theorem Lqa:∀ (l:List Nmd) (o:Dsk×Int),DG o.1→DG (l.foldl clS o).1
 |[],_,h=>h
 |_::l,_,h=>Lqa l _ (Zha h)
theorem Vda {d:Dsk} (h:DG d):DG (Np d).1:=Lqa _ _ h
def Dqa (l:List Nmd):List ByteArray:=(l.filter λ x=>(O4 x.2).isNone).map Prod.fst
theorem Z3:∀ (l:List Nmd) (o:Dsk×Int),DG o.1→((l.foldl clS o).2=o.2+((Dqa l).length:Int))∧∀ t,(t∈Dqa l→gt (l.foldl clS o).1.1 t=none∧gt (l.foldl clS o).1.2 t=none)∧(t∉Dqa l→gt (l.foldl clS o).1.1 t=gt o.1.1 t∧gt (l.foldl clS o).1.2 t=gt o.1.2 t)
 |[],o,h=>⟨by simp [Dqa],λ t=>⟨λ c=>by simp [Dqa] at c,λ _=>⟨rfl,rfl⟩⟩⟩
 |x::l,o,h=>by
  obtain ⟨h1,h2⟩:=Z3 l (clS o x) (Zha h)
  rw [List.foldl_cons]
  cases hx:O4 x.2 with
  |some f=>
   have e:Dqa (x::l)=Dqa l:=by unfold Dqa; rw [List.filter_cons,hx]; rfl
   have ec:clS o x=o:=by unfold clS; rw [hx]
   rw [e]
   rw [ec] at h1 h2 ⊢
   exact ⟨h1,h2⟩
  |none=>
   have e:Dqa (x::l)=x.1::Dqa l:=by unfold Dqa; rw [List.filter_cons,hx]; rfl
   have ec:clS o x=((cut o.1.1 x.1,cut o.1.2 x.1),o.2+1):=by unfold clS; rw [hx]
   rw [e]
   rw [ec] at h1 h2 ⊢
   refine ⟨by rw [h1,List.length_cons]; omega,λ t=>⟨λ ht=>?_,λ ht=>?_⟩⟩
   ·by_cases hb:t∈Dqa l
    ·exact (h2 t).1 hb
    ·obtain ⟨a1,a2⟩:=(h2 t).2 hb
     have:x.1=t:=by
      rcases List.mem_cons.1 ht with e|e
      ·exact e.symm
      ·exact absurd e hb
     rw [a1,a2,T4 (Mn h.1),T4 (Qj h.1),if_pos this,if_pos this]
     exact ⟨rfl,rfl⟩
   ·obtain ⟨a1,a2⟩:=(h2 t).2 (λ c=>ht (List.mem_cons_of_mem _ c))
    have:x.1≠t:=λ e=>ht (by rw [← e]; exact List.mem_cons_self)
    rw [a1,a2,T4 (Mn h.1),T4 (Qj h.1),if_neg this,if_neg this]
    exact ⟨rfl,rfl⟩
theorem Vea {d:Dsk} (hd:Ao d=true) {t:ByteArray}:t∈Dqa d.1↔∃ b,gt d.1 t=some b∧O4 b=none:=by
 unfold Dqa
 rw [List.mem_map]
 constructor
 ·rintro ⟨x,hx,rfl⟩
  obtain ⟨h1,h2⟩:=List.mem_filter.1 hx
  exact ⟨x.2,R9a (Mn hd) h1,by simpa using h2⟩
 ·rintro ⟨b,h1,h2⟩
  exact ⟨(t,b),List.mem_filter.2 ⟨O5 h1,by simp [h2]⟩,rfl⟩
theorem S4a (d:Dsk) (hd:DG d):Tot (λ k=>I6 k d) (λ r=>r=Np d):=by
 have hin:=Nz hd.1
 have hl:=(Af.1 (Dr.1 hd.1).1).2.2
 have hnk:=(Af.1 (Dr.1 hd.1).1).2.1
 unfold I6
 refine Tot.bind (L8 d hin.1.1) ?_
 rintro d rfl
 refine Tot.bind (Q:=λ r=>r=((Np d).2,([],[]),(Np d).1)) ?_ (by rintro r rfl; exact Tot.pure rfl)
 refine Tot.up (L:=λ k i (s:Dsk×Int)=>H6 k s.2 i d ([],[]) s.1) (Q:=λ r=>r=((Np d).2,([],[]),(Np d).1)) d.1.length (λ j s=>(d.1.drop j).foldl clS s=Np d∧DG s.1∧0≤s.2∧s.2≤j) ?_ ?_ 0 (d,0) (Nat.zero_le _) ⟨rfl,hd,Int.le_refl 0,by simp⟩
 ·rintro s ⟨h,_⟩
  rw [List.drop_length] at h
  simp (disch:=omega) only [H6,dF]
  exact Tot.pure (by rw [← h]; rfl)
 ·rintro j s hj ⟨h,hg,s0,s1⟩ next
  rw [An (d:=Fu) hj,List.foldl_cons] at h
  have hsi:=Nz hg.1
  have hx:=A4 (d:=Fu) hj
  simp (disch:=omega) only [H6,dT,Int.toNat_natCast,w64]
  have e0:d.1.getD j ((⟨#[]⟩:ByteArray),([]:List Int))=d.1.getD j Fu:=rfl
  rw [e0]
  refine Tot.bind (Pk d hin.1.1 hin.1.2) ?_
  rintro r rfl
  refine Tot.yes hd.1 (Tot.bind (T6 hin.1.1.1 hd.2.1 _) ?_)
  rintro r rfl
  have hnm:=(Pl.1 (hnk _ hx)).1
  have hcg:=Zha (x:=d.1.getD j Fu) hg
  unfold clS at h hcg
  unfold lkD
  rw [R9a (Mn hd.1) hx]
  simp only
  cases hf:O4 (d.1.getD j Fu).2 with
  |some f=>
   rw [hf] at h
   exact Tot.no rfl (next _ ⟨h,hg,s0,by omega⟩)
  |none=>
   rw [hf] at h hcg
   refine Tot.yes rfl (Tot.bind (Rx hg.1 (Jj hnm)) ?_)
   rintro r rfl
   have er:(rmD s.1 (d.1.getD j Fu).1).1=(cut s.1.1 (d.1.getD j Fu).1,s.1.2):=by
    unfold rmD
    cases hg1:gt s.1.1 (d.1.getD j Fu).1 with
    |none=>rw [Nha hg1]; rfl
    |some b=>rfl
   have hrg:=Uwa (s:=(d.1.getD j Fu).1) hg
   rw [er] at hrg ⊢
   refine Tot.bind (T5 hrg.1 hnm) ?_
   rintro r rfl
   have es:(syD (cut s.1.1 (d.1.getD j Fu).1,s.1.2) (d.1.getD j Fu).1).1=(cut s.1.1 (d.1.getD j Fu).1,cut s.1.2 (d.1.getD j Fu).1):=by
    have e2:sy (cut s.1.1 (d.1.getD j Fu).1,s.1.2) (d.1.getD j Fu).1=cut s.1.2 (d.1.getD j Fu).1:=by
     unfold sy
     rw [T4 (Mn hg.1),if_pos rfl]
    unfold syD
    rw [e2,decide_eq_true (Af.1 (Dr.1 hcg.1).2).2.2]
    rfl
   rw [es]
   exact next ((cut s.1.1 (d.1.getD j Fu).1,cut s.1.2 (d.1.getD j Fu).1),s.2+1) ⟨h,hcg,by dsimp only; omega,by dsimp only; omega⟩

def hI (d:Dsk) (out:List ByteArray) (x:Nmd):List ByteArray:=bif (lkD d x.1).2==0 then wt out x.1 else out
def Dra (l:List ByteArray) (s:ByteArray):Bool:=l.any λ y=>teq y s
theorem Lra {l:List ByteArray} {s:ByteArray}:Dra l s=true↔s∈l:=by
 unfold Dra
 rw [List.any_eq_true]
 constructor
 ·rintro ⟨x,hx,e⟩; rw [← Ja.1 e]; exact hx
 ·intro h; exact ⟨s,h,Ja.2 rfl⟩
theorem Lsa (l:List ByteArray) (s:ByteArray) (hl:l.length≤1000000000):Tot (λ k=>Ha k l s) (λ r=>r=Dra l s):=by
 unfold Ha
 refine Tot.bind (Q:=λ r=>r=bif Dra l s then .inl true else .inr ()) ?_ (by rintro r rfl; cases Dra l s<;>exact Tot.pure rfl)
 refine Tot.up (L:=λ k i (_:Unit)=>Gb k l s i) (Q:=λ r=>r=bif Dra l s then .inl true else .inr ()) l.length (λ j _=>Dra (l.drop j) s=Dra l s) ?_ ?_ 0 () (Nat.zero_le _) rfl
 ·intro _ h
  rw [List.drop_length] at h
  simp (disch:=omega) only [Gb,dF,← h]
  exact Tot.pure rfl
 ·intro j _ hj h next
  rw [An (d:=Og) hj] at h
  unfold Dra at h
  rw [List.any_cons] at h
  simp (disch:=omega) only [Gb,dT,Int.toNat_natCast,w64]
  refine Tot.ite (λ hc=>Tot.pure ?_) (λ hc=>next () ?_)
  ·rw [show teq (l.getD j Og) s=true from hc,Bool.true_or] at h
   unfold Dra
   rw [← h]
   rfl
  ·rw [show teq (l.getD j Og) s=false from hc,Bool.false_or] at h
   exact h
def Gua (l:List ByteArray):Nat→ByteArray→List ByteArray×Nat
 |0,_=>(l,0)
 |k+1,s=>bif tlt s (l.getD k Og) then Gua (l.set (k+1) (l.getD k Og)) k s else (l,k+1)
def Xaa (l:List ByteArray) (s:ByteArray):List ByteArray:=(Gua (l++[s]) l.length s).1.set (Gua (l++[s]) l.length s).2 s
theorem Z4:∀ (k:Nat) (l:List ByteArray) (s:ByteArray),(Gua l k s).1.length=l.length∧(Gua l k s).2≤k∧∀ y∈(Gua l k s).1,y∈l∨y=Og
 |0,_,_=>⟨rfl,Nat.le_refl _,λ _ h => .inl h⟩
 |k+1,l,s=>by
  unfold Gua
  cases tlt s (l.getD k Og) with
  |false=>exact ⟨rfl,Nat.le_refl _,λ _ h => .inl h⟩
  |true=>
   obtain ⟨h1,h2,h3⟩:=Z4 k (l.set (k+1) (l.getD k Og)) s
   rw [cond_true]
   refine ⟨by rw [h1,List.length_set],by omega,λ y hy=>?_⟩
   rcases h3 y hy with h|h
   ·rcases List.mem_or_eq_of_mem_set h with h|h
    ·exact .inl h
    ·by_cases hk:k<l.length
     ·rw [h]; exact .inl (A4 hk)
     ·rw [h,List.getD_eq_getElem?_getD,List.getElem?_eq_none (by omega)]; exact .inr rfl
   ·exact .inr h
theorem Vfa (l:List ByteArray) (s:ByteArray):(Xaa l s).length=l.length+1:=by
 unfold Xaa
 rw [List.length_set,(Z4 _ _ _).1,List.length_append]
 rfl
theorem Vga {l:List ByteArray} {s y:ByteArray} (h:y∈Xaa l s):y∈l∨y=s∨y=Og:=by
 unfold Xaa at h
 rcases List.mem_or_eq_of_mem_set h with h|h
 ·rcases (Z4 _ _ _).2.2 y h with h|h
  ·rcases List.mem_append.1 h with h|h
   ·exact .inl h
   ·exact .inr (.inl (List.mem_singleton.1 h))
  ·exact .inr (.inr h)
 ·exact .inr (.inl h)
def hS1 (l:List Nmd) (j:Nat) (out:List ByteArray) (x:Nmd):List ByteArray:=bif (O4 x.2).isSome&&(!(Dra out x.1)&&(L0a l x.1==(j:Int))) then Xaa out x.1 else out
def hS (l:List Nmd):List Nmd→Nat→List ByteArray→List ByteArray
 |[],_,out=>out
 |x::r,j,out=>hS l r (j+1) (hS1 l j out x)
def Nia (d:Dsk):List ByteArray:=hS d.1 d.1 0 []
theorem S5a (l:List Nmd) (j:Nat) (out:List ByteArray) (x:Nmd):(hS1 l j out x).length≤out.length+1:=by
 unfold hS1
 cases (O4 x.2).isSome&&(!(Dra out x.1)&&(L0a l x.1==(j:Int))) with
 |false=>exact Nat.le_succ _
 |true=>rw [cond_true,Vfa]; exact Nat.le_refl _
theorem Bxb (l:List Nmd) (hl:Nn l):∀ (r:List Nmd) (j:Nat) (out:List ByteArray),(∀ x∈r,x∈l)→(∀ y∈out,Jv y)→(hS l r j out).length≤out.length+r.length∧∀ y∈hS l r j out,Jv y
 |[],_,out,_,h=>⟨by simp [hS],h⟩
 |x::r,j,out,hm,h=>by
  have h2:=S5a l j out x
  obtain ⟨a1,a2⟩:=Bxb l hl r (j+1) (hS1 l j out x) (λ y hy=>hm y (List.mem_cons_of_mem _ hy)) (λ y hy=>by
   unfold hS1 at hy
   cases hc:(O4 x.2).isSome&&(!(Dra out x.1)&&(L0a l x.1==(j:Int))) with
   |false=>rw [hc] at hy; exact h y hy
   |true=>
    rw [hc] at hy
    rcases Vga hy with hy|rfl|rfl
    ·exact h y hy
    ·exact hl x (hm x List.mem_cons_self)
    ·unfold Jv; decide)
  refine ⟨?_,a2⟩
  show (hS l r (j+1) (hS1 l j out x)).length≤_
  rw [List.length_cons]
  omega
theorem Iwa (a b:List Nmd) (j:Nat) (hj:j<a.length) (ha:a.length≤5000000):∀ (k:Nat) (x:List ByteArray),k<x.length→x.length≤5000000→
  Tot (λ n=>Iu n x (j:Int) (k:Int) (a,b)) (λ r=>r=((Gua x k (a.getD j Fu).1).1,(j:Int),((Gua x k (a.getD j Fu).1).2:Int),(a,b))):=by
 intro k
 induction k with
 |zero=>
  intro x hk hx
  refine Tot.succ ?_
  simp (disch:=omega) only [Iu,dF]
  exact Tot.pure rfl
 |succ k ih=>
  intro x hk hx
  refine Tot.succ ?_
  have e1:((k+1:Nat):Int) - 1=(k:Int):=by omega
  simp (disch:=omega) only [Iu,dT,w64,e1,Int.toNat_natCast]
  have e0:a.getD j ((⟨#[]⟩:ByteArray),([]:List Int))=a.getD j Fu:=rfl
  rw [e0]
  unfold Gua
  refine Tot.ite (λ h=>?_) (λ h=>?_)
  ·rw [Kna] at h
   rw [show tlt (a.getD j Fu).1 (x.getD k Og)=true from h,cond_true]
   exact ih _ (by rw [List.length_set]; omega) (by rw [List.length_set]; omega)
  ·rw [Kna] at h
   rw [show tlt (a.getD j Fu).1 (x.getD k Og)=false from h,cond_false]
   exact Tot.pure rfl
theorem Vha (d:Dsk) (hd:DIn d) (hb:DB d):Tot (λ k=>Fw k d) (λ r=>r=Nia d):=by
 have hl:=hd.2.1
 unfold Fw
 refine Tot.bind (Q:=λ r=>r=Nia d) ?_ (by rintro r rfl; exact Tot.pure rfl)
 refine Tot.up (L:=λ k i s=>G6 k s i d) (Q:=λ r=>r=Nia d) d.1.length (λ j s=>hS d.1 (d.1.drop j) j s=Nia d∧s.length≤j) ?_ ?_ 0 [] (Nat.zero_le _) ⟨rfl,Nat.le_refl _⟩
 ·rintro s ⟨h,_⟩
  rw [List.drop_length] at h
  simp (disch:=omega) only [G6,dF]
  exact Tot.pure h
 ·rintro j s hj ⟨h,hs⟩ next
  rw [An (d:=Fu) hj] at h
  have hlen:=S5a d.1 j s (d.1.getD j Fu)
  have nx:=next _ ⟨show hS d.1 (d.1.drop (j+1)) (j+1) (hS1 d.1 j s (d.1.getD j Fu))=Nia d from h,by omega⟩
  have hx:=A4 (d:=Fu) hj
  simp (disch:=omega) only [G6,dT,Int.toNat_natCast,w64]
  have e0:d.1.getD j ((⟨#[]⟩:ByteArray),([]:List Int))=d.1.getD j Fu:=rfl
  rw [e0]
  unfold hS1 at nx
  refine Tot.bind (Y5 _ (hb.1 _ hx) (hd.1.1.1.2 _ hx)) ?_
  rintro r rfl
  unfold Ux
  cases hf:O4 (d.1.getD j Fu).2 with
  |none=>
   rw [hf] at nx
   exact Tot.yes rfl nx
  |some f=>
   rw [hf] at nx
   refine Tot.no rfl (Tot.bind (Lsa s _ (by omega)) ?_)
   rintro r rfl
   cases hc:Dra s (d.1.getD j Fu).1 with
   |true=>
    rw [hc] at nx
    exact Tot.yes rfl nx
   |false=>
    rw [hc] at nx
    refine Tot.no rfl (Tot.bind (Bla d.1 _ (by omega)) ?_)
    rintro r rfl
    cases he:L0a d.1 (d.1.getD j Fu).1==(j:Int) with
    |false=>
     rw [he] at nx
     exact Tot.yes (by unfold bne; rw [he]; rfl) nx
    |true=>
     rw [he] at nx
     refine Tot.no (by unfold bne; rw [he]; rfl) (Tot.ble (by simp only [List.length_cons,List.length_nil]; omega) ?_)
     have hq:=Iwa d.1 d.2 j hj (by omega) s.length (s++[(d.1.getD j Fu).1]) (by simp) (by simp only [List.length_append,List.length_cons,List.length_nil]; omega)
     refine Tot.bind hq ?_
     rintro r rfl
     obtain ⟨w1,w2,_⟩:=Z4 s.length (s++[(d.1.getD j Fu).1]) (d.1.getD j Fu).1
     rw [List.length_append] at w1
     simp only [List.length_cons,List.length_nil] at w1
     simp (disch:=omega) only [dT,Int.toNat_natCast,w64]
     exact nx

def Dib (n:Nod):Nod×Int:=((n.1,(Np n.2.1).1,n.2.2),(Np n.2.1).2)
theorem Dea {n:Nod} (hn:NG n) {d:Dsk} (hd:DG d):NG (n.1,d,n.2.2):=by
 obtain ⟨h1,h2,h3,h4,h5⟩:=Cl.1 hn.1
 exact ⟨Cl.2 ⟨h1,h2,hd.1,h4,h5⟩,hd.2⟩
theorem Xba {n:Nod} (hn:NG n):NG (Dib n).1:=Dea hn (Vda hn.g)

def Ixa (v:BitVec 32) (b:Int):BitVec 32:=(v ^^^ BitVec.ofInt 32 b) * 16777619#32
def Aia (x:ByteArray):Nat→BitVec 32
 |0=>2166136261#32
 |n+1=>Ixa (Aia x n) (bt x (n:Int))
def Nja (x:ByteArray):Nat:=(Aia x x.size).toNat
theorem Drb (v:BitVec 32):IntKind.wrap .u32 ((v.toNat:Int) * 16777619)=((v * 16777619#32).toNat:Int):=by
 rw [IntKind.wrap_u32,BitVec.toNat_mul]
 show (v.toNat:Int) * 16777619 % 4294967296=((v.toNat * 16777619 % 4294967296:Nat):Int)
 omega
theorem Dsb (v:BitVec 32):IntKind.wrap .i64 ((BitVec.ofInt (IntKind.bits .i64) ((v.toNat:Int) * 16777619) &&& BitVec.ofInt (IntKind.bits .i64) 4294967295).toNat)=((v * 16777619#32).toNat:Int):=by
 have h:=v.isLt
 rw [BitVec.toNat_and,show (v.toNat:Int) * 16777619=((v.toNat * 16777619:Nat):Int) by omega,Qg _ (by omega),show (BitVec.ofInt (IntKind.bits .i64) 4294967295).toNat=2 ^ 32 - 1 from by decide,Nat.and_two_pow_sub_one_eq_mod,BitVec.toNat_mul]
 show IntKind.wrap .i64 ((v.toNat * 16777619 % 4294967296:Nat):Int)=((v.toNat * 16777619 % 4294967296:Nat):Int)
 exact w64 (by omega) (by omega)
theorem Via (x:ByteArray) (hx:x.size≤1000000000):Tot (λ k=>Kz k x) (λ r=>r=(Nja x:Int)):=by
 unfold Kz
 refine Tot.bind (Q:=λ r=>r=(Nja x:Int)) ?_ (by
  rintro r rfl
  have:=(Aia x x.size).isLt
  exact Tot.pure (w64 (n:=(Nja x:Int)) (by omega) (by show ((Aia x x.size).toNat:Int)≤_; omega)))
 refine Tot.up (L:=λ k i (s:Int)=>J0 k x s i) (Q:=λ r=>r=(Nja x:Int)) x.size (λ j s=>s=((Aia x j).toNat:Int)) ?_ ?_ 0 _ (Nat.zero_le _) rfl
 ·rintro s rfl
  simp (disch:=omega) only [J0,dF]
  exact Tot.pure rfl
 ·rintro j s hj rfl next
  have hb:=Xt x (j:Int)
  have e1:IntKind.wrap .u32 (bt x (j:Int))=bt x (j:Int):=Go.IntWalk.u32_in _ ⟨by omega,by omega⟩
  simp (disch:=omega) only [J0,dT,w64,e1,D0b (Aia x j) _ (bt x (j:Int)) rfl,Drb]
  exact next _ rfl
theorem Vja (x:ByteArray) (hx:x.size≤1000000000):Tot (λ k=>Ky k x) (λ r=>r=(Nja x:Int)):=by
 unfold Ky
 refine Tot.bind (Q:=λ r=>r=(Nja x:Int)) ?_ (by rintro r rfl; exact Tot.pure rfl)
 refine Tot.up (L:=λ k i (s:Int)=>Iv k x s i) (Q:=λ r=>r=(Nja x:Int)) x.size (λ j s=>s=((Aia x j).toNat:Int)) ?_ ?_ 0 _ (Nat.zero_le _) rfl
 ·rintro s rfl
  simp (disch:=omega) only [Iv,dF]
  exact Tot.pure rfl
 ·rintro j s hj rfl next
  have hb:=Xt x (j:Int)
  have hx:IntKind.wrap .i64 ((BitVec.ofInt (IntKind.bits .i64) ((Aia x j).toNat:Int) ^^^ BitVec.ofInt (IntKind.bits .i64) (bt x (j:Int))).toNat)=((Aia x j ^^^ BitVec.ofInt 32 (bt x (j:Int))).toNat:Int):=by
   have:=Chb (Aia x j) (BitVec.ofInt 32 (bt x (j:Int)))
   rwa [← L8a hb] at this
  simp (disch:=omega) only [Iv,dT,w64,hx,Dsb]
  exact next _ rfl
def Tb (r:Rng) (x:ByteArray):List Int:=r.2.getD (Nja x % r.2.length) []
theorem Byb (a b:Nat):Int.tmod (a:Int) (b:Int)=((a % b:Nat):Int):=by
 rw [Int.tmod_eq_emod_of_nonneg (by omega)]
 exact (Int.natCast_emod _ _).symm
theorem Lta (r:Rng) (x:ByteArray) (hr:RBd r) (hx:x.size≤1000000000):Tot (λ k=>Dq k r x) (λ y=>y=Tb r x):=by
 have hrl:=hr.1
 unfold Dq
 by_cases h0:r.2.length=0
 ·refine Tot.yes (by rw [h0]; rfl) (Tot.pure ?_)
  unfold Tb
  rw [List.eq_nil_of_length_eq_zero h0]
  rfl
 ·have hm:=Nat.mod_lt (Nja x) (show 0<r.2.length by omega)
  refine Tot.no (by rw [beq_eq_false_iff_ne]; omega) (Tot.bind (Q:=λ y=>y=((Nja x % r.2.length:Nat):Int)) ?_ ?_)
  ·unfold K8
   refine Tot.ndec (by omega) (Tot.bind (Via x hx) ?_)
   rintro h rfl
   exact Tot.ndec (by omega) (Tot.pure (Byb _ _))
  ·rintro y rfl
   simp (disch:=omega) only [dT,Int.toNat_natCast]
   have hp:=hr.2 _ (A4 (d:=[]) hm)
   rw [G9a _ (by omega)]
   exact Tot.pure rfl
theorem W7 (r:Rng) (x:ByteArray) (hr:RBd r) (hx:x.size≤1000000000):Tot (λ k=>B6 k r x) (λ y=>y=Tb r x):=by
 have hrl:=hr.1
 unfold B6
 by_cases h0:r.2.length=0
 ·refine Tot.yes (by rw [h0]; rfl) (Tot.pure ?_)
  unfold Tb
  rw [List.eq_nil_of_length_eq_zero h0]
  rfl
 ·have hm:=Nat.mod_lt (Nja x) (show 0<r.2.length by omega)
  refine Tot.no (by rw [beq_eq_false_iff_ne]; omega) (Tot.bind (Q:=λ y=>y=((Nja x % r.2.length:Nat):Int)) ?_ ?_)
  ·unfold K7
   refine Tot.ndec (by omega) (Tot.bind (Vja x hx) ?_)
   rintro h rfl
   exact Tot.ndec (by omega) (Tot.pure (Byb _ _))
  ·rintro y rfl
   have hp:=hr.2 _ (A4 (d:=[]) hm)
   simp (disch:=omega) only [dT,Int.toNat_natCast]
   exact Tot.ble (by simp only [List.length_nil]; omega) (Tot.pure rfl)
theorem Vka {r:Rng} {l:List Dev} (h:H3 r l=true) (x:ByteArray):Tb r x∈r.2:=by
 obtain ⟨_,_,h3,_⟩:=Bg.1 h
 exact A4 (d:=[]) (Nat.mod_lt _ (by omega))
theorem S6 {r:Rng} {l:List Dev} (h:H3 r l=true) (x:ByteArray):(Tb r x).Nodup∧((Tb r x).length:Int)=r.1∧∀ id∈Tb r x,∃ d,Jf l id=some d:=(Bg.1 h).2.2.2 _ (Vka h x)
def hoA (p zs:List Int) (z:Bool) (l:List Dev):List Int:=(l.filter λ d => !(N7 p d.1)&&(N7 zs d.2.1==z)).map (·.1)
def O6 (r:Rng) (l:List Dev) (x:ByteArray):List Int:=hoA (Tb r x) (Ia (Tb r x) l) false l++hoA (Tb r x) (Ia (Tb r x) l) true l
theorem U9 (p zs:List Int) (z:Bool) (l:List Dev):(hoA p zs z l).length≤l.length:=by
 unfold hoA
 rw [List.length_map]
 exact List.length_filter_le _ _
theorem Lua (p zs:List Int) (z:Bool) (d:Dev) (l:List Dev):hoA p zs z (d::l)=bif !(N7 p d.1)&&(N7 zs d.2.1==z) then d.1::hoA p zs z l else hoA p zs z l:=by
 unfold hoA
 rw [List.filter_cons]
 cases !(N7 p d.1)&&(N7 zs d.2.1==z)<;>rfl
theorem Vla (r:Rng) (l:List Dev) (x:ByteArray) (h:H3 r l=true) (hx:x.size≤1000000000):Tot (λ k=>D9 k r l x) (λ y=>y=O6 r l x):=by
 obtain ⟨h1,h2,_,_⟩:=Bg.1 h
 obtain ⟨_,p2,_⟩:=S6 h x
 obtain ⟨_,_,_,h12⟩:=Ed.1 h1
 have hz:=S4 (Tb r x) l
 unfold D9 O6
 refine Tot.bind (Lta r x (Mc h) hx) ?_
 rintro p rfl
 generalize Tb r x=p at *
 refine Tot.bind (Rma p l (by omega) (by omega)) ?_
 rintro zs rfl
 generalize Ia p l=zs at *
 have m1:=U9 p zs false l
 have m2:=U9 p zs true l
 refine Tot.bind (Q:=λ y=>y=(hoA p zs false l,hoA p zs true l)) ?_ (by rintro y rfl; exact Tot.ble (by dsimp only; omega) (Tot.pure rfl))
 refine Tot.up (L:=λ k i (s:List Int×List Int)=>Ch k p zs s.1 s.2 l (l.length:Int) i) (Q:=λ y=>y=(hoA p zs false l,hoA p zs true l)) l.length (λ j s=>s.1++hoA p zs false (l.drop j)=hoA p zs false l∧s.2++hoA p zs true (l.drop j)=hoA p zs true l) ?_ ?_ 0 ([],[]) (Nat.zero_le _) ⟨rfl,rfl⟩
 ·rintro s ⟨e1,e2⟩
  rw [List.drop_length] at e1 e2
  simp (disch:=omega) only [Ch,dF]
  refine Tot.pure ?_
  rw [← e1,← e2]
  show _=(s.1++[],s.2++[])
  rw [List.append_nil,List.append_nil]
 ·rintro j ⟨s1,s2⟩ hj ⟨e1,e2⟩ next
  dsimp only at e1 e2 next ⊢
  have g1:=congrArg List.length e1
  have g2:=congrArg List.length e2
  rw [List.length_append] at g1 g2
  rw [An (d:=Mb) hj,Lua] at e1 e2
  obtain ⟨d,ed⟩:∃ d:Dev,l.getD j Mb=d:=⟨_,rfl⟩
  rw [ed] at e1 e2
  have e0:l.getD j ((0:Int),((0:Int),(0:Int)))=d:=ed
  simp (disch:=omega) only [Ch,dT,Int.toNat_natCast,w64,e0]
  refine Tot.bind (D7a p d.1 (by omega)) ?_
  rintro b rfl
  cases hp:N7 p d.1 with
  |true=>
   rw [hp] at e1 e2
   exact Tot.yes rfl (next (s1,s2) ⟨e1,e2⟩)
  |false=>
   refine Tot.no rfl (Tot.bind (D7a zs d.2.1 (by omega)) ?_)
   rintro b rfl
   cases hz':N7 zs d.2.1 with
   |true=>
    rw [hp,hz'] at e1 e2
    exact Tot.yes rfl (Tot.ble (by simp only [List.length_cons,List.length_nil]; omega) (next (s1,s2++[d.1]) ⟨e1,by rw [← e2]; simp⟩))
   |false=>
    rw [hp,hz'] at e1 e2
    exact Tot.no rfl (Tot.ble (by simp only [List.length_cons,List.length_nil]; omega) (next (s1++[d.1],s2) ⟨by rw [← e1]; simp,e2⟩))
theorem Z5 (p zs:List Int) (l:List Dev) (hp:p.length≤2000000) (hz:zs.length≤2000000) (hl:l.length≤2000000) (out:List Int) (ho:out.length≤5000000) (t:Int):Tot (λ k=>Bx k l p zs out t 0) (λ y=>y=(l,p,zs,out++hoA p zs (t==1) l,t)):=by
 have m1:=U9 p zs (t==1) l
 refine Tot.up (L:=λ k i (s:List Int)=>Bx k l p zs s t i) (Q:=λ y=>y=(l,p,zs,out++hoA p zs (t==1) l,t)) l.length (λ j s=>s++hoA p zs (t==1) (l.drop j)=out++hoA p zs (t==1) l) ?_ ?_ 0 out (Nat.zero_le _) rfl
 ·rintro s e1
  rw [List.drop_length] at e1
  simp (disch:=omega) only [Bx,dF]
  refine Tot.pure ?_
  rw [← e1]
  show _=(l,p,zs,s++[],t)
  rw [List.append_nil]
 ·rintro j s hj e1 next
  have g1:=congrArg List.length e1
  rw [List.length_append,List.length_append] at g1
  rw [An (d:=Mb) hj,Lua] at e1
  obtain ⟨d,ed⟩:∃ d:Dev,l.getD j Mb=d:=⟨_,rfl⟩
  rw [ed] at e1
  have e0:l.getD j ((0:Int),((0:Int),(0:Int)))=d:=ed
  simp (disch:=omega) only [Bx,dT,Int.toNat_natCast,w64,e0]
  refine Tot.bind (Ry p d.1 (by omega)) ?_
  rintro b rfl
  cases hp':N7 p d.1 with
  |true=>
   rw [hp'] at e1
   exact Tot.no rfl (next s e1)
  |false=>
   rw [hp'] at e1
   refine Tot.yes rfl (Tot.bind (Ry zs d.2.1 (by omega)) ?_)
   rintro b rfl
   cases hz':N7 zs d.2.1==(t==1) with
   |true=>
    rw [hz'] at e1
    exact Tot.yes rfl (Tot.ble (by simp only [List.length_cons,List.length_nil]; omega) (next (s++[d.1]) (by rw [← e1]; simp)))
   |false=>
    rw [hz'] at e1
    exact Tot.no rfl (next s e1)
theorem Vma (r:Rng) (l:List Dev) (x:ByteArray) (h:H3 r l=true) (hx:x.size≤1000000000):Tot (λ k=>C6 k r l x) (λ y=>y=O6 r l x):=by
 obtain ⟨h1,h2,_,_⟩:=Bg.1 h
 obtain ⟨_,p2,_⟩:=S6 h x
 obtain ⟨_,_,_,h12⟩:=Ed.1 h1
 have hz:=S4 (Tb r x) l
 unfold C6 O6
 refine Tot.bind (W7 r x (Mc h) hx) ?_
 rintro p rfl
 generalize Tb r x=p at *
 refine Tot.bind (G7a p l (by omega) (by omega)) ?_
 rintro zs rfl
 generalize Ia p l=zs at *
 have m1:=U9 p zs false l
 refine Tot.bind (Q:=λ y=>y=hoA p zs false l++hoA p zs true l) ?_ (by rintro y rfl; exact Tot.pure rfl)
 refine Tot.succ ?_
 simp (disch:=omega) only [E3,dT]
 refine Tot.bind (Z5 p zs l (by omega) (by omega) (by omega) [] (by simp) 0) ?_
 rintro y rfl
 refine Tot.succ ?_
 simp (disch:=omega) only [E3,dT,w64,List.nil_append]
 refine Tot.bind (Z5 p zs l (by omega) (by omega) (by omega) (hoA p zs false l) (by omega) 1) ?_
 rintro y rfl
 refine Tot.succ ?_
 simp (disch:=omega) only [E3,dF,w64]
 exact Tot.pure rfl

section
variable {R:Type} {L:Nat→Int→Option (Sum Bool R)}
theorem Ri (p:Nat→Bool) (n:Nat):(List.range (n+1)).all p=((List.range n).all p&&p n):=by
 rw [List.range_succ,List.all_append,List.all_cons,List.all_nil,Bool.and_true]
theorem Aja (p:Nat→Bool) (n:Nat):(List.range (n+1)).any p=((List.range n).any p || p n):=by
 rw [List.range_succ,List.any_append,List.any_cons,List.any_nil,Bool.or_false]
theorem Aka {p:Nat→Bool} {m n:Nat} (h:m≤n) (hn:(List.range n).all p=true):(List.range m).all p=true:=by
 rw [List.all_eq_true] at hn ⊢
 exact λ x hx=>hn x (List.mem_range.2 (by have:=List.mem_range.1 hx; omega))
theorem Tot.allI (n:Nat) (p:Nat→Bool) (e:R) (hend:Tot (λ k=>L (k+1) (n:Int)) (λ r=>r = .inr e))
  (Ixa:∀ j,j<n→∀ (Q:Sum Bool R→Prop),(p j=false→Q (.inl false))→(p j=true→Tot (λ k=>L k ((j:Int)+1)) Q)→Tot (λ k=>L (k+1) (j:Int)) Q):
  Tot (λ k=>L k 0) (λ r=>r=bif (List.range n).all p then .inr e else .inl false):=by
 refine Tot.up (L:=λ k i (_:Unit)=>L k i) (Q:=λ r=>r=bif (List.range n).all p then .inr e else .inl false) n (λ j _=>(List.range j).all p=true) ?_ ?_ 0 () (Nat.zero_le _) rfl
 ·intro _ h
  rw [h]
  exact hend
 ·intro j _ hj h next
  refine Ixa j hj _ (λ hp=>?_) (λ hp=>next () (by rw [Ri,h,hp]; rfl))
  cases hc:(List.range n).all p with
  |false=>rfl
  |true=>
   have:=Aka (show j+1≤n by omega) hc
   rw [Ri,hp,Bool.and_false] at this
   cases this
theorem Tot.anyI (n:Nat) (p:Nat→Bool) (e:R) (hend:Tot (λ k=>L (k+1) (n:Int)) (λ r=>r = .inr e))
  (Ixa:∀ j,j<n→∀ (Q:Sum Bool R→Prop),(p j=true→Q (.inl true))→(p j=false→Tot (λ k=>L k ((j:Int)+1)) Q)→Tot (λ k=>L (k+1) (j:Int)) Q):
  Tot (λ k=>L k 0) (λ r=>r=bif (List.range n).any p then .inl true else .inr e):=by
 refine Tot.up (L:=λ k i (_:Unit)=>L k i) (Q:=λ r=>r=bif (List.range n).any p then .inl true else .inr e) n (λ j _=>(List.range j).any p=false) ?_ ?_ 0 () (Nat.zero_le _) rfl
 ·intro _ h
  rw [h]
  exact hend
 ·intro j _ hj h next
  refine Ixa j hj _ (λ hp=>?_) (λ hp=>next () (by rw [Aja,h,hp]; rfl))
  rw [List.any_eq_true.2 ⟨j,List.mem_range.2 hj,hp⟩]
  rfl
end
theorem Gfa {α:Type} (l:List α) (d:α) (p:α→Bool):l.all p=(List.range l.length).all λ j=>p (l.getD j d):=by
 rw [Bool.eq_iff_iff,List.all_eq_true,List.all_eq_true]
 constructor
 ·intro h j hj
  exact h _ (A4 (List.mem_range.1 hj))
 ·intro h x hx
  obtain ⟨j,hj,rfl⟩:=List.mem_iff_getElem.1 hx
  have:=h j (List.mem_range.2 hj)
  rwa [List.getD_eq_getElem?_getD,List.getElem?_eq_getElem hj,Option.getD_some] at this
theorem S6a {α:Type} (l:List α) (d:α) (p:α→Bool):l.any p=(List.range l.length).any λ j=>p (l.getD j d):=by
 rw [Bool.eq_iff_iff,List.any_eq_true,List.any_eq_true]
 constructor
 ·rintro ⟨x,hx,h⟩
  obtain ⟨j,hj,rfl⟩:=List.mem_iff_getElem.1 hx
  exact ⟨j,List.mem_range.2 hj,by rwa [List.getD_eq_getElem?_getD,List.getElem?_eq_getElem hj,Option.getD_some]⟩
 ·rintro ⟨j,hj,h⟩
  exact ⟨_,A4 (List.mem_range.1 hj),h⟩
abbrev Wri:=ByteArray×Fil×Bool
abbrev Wld:=List Dev×Rng×List Nod×Stp×List Wri×List ByteArray
def S7a:Wri:=((⟨#[]⟩:ByteArray),((((0:Int),((0:Int),(0:Int))),(false,[])),false))
def Qn (l:List ByteArray):Bool:=(List.range l.length).all λ j=>B1 (l.getD j Og)&&(decide (j=0) || tlt (l.getD (j - 1) Og) (l.getD j Og))
def Dfa (c:Stp) (w:Wri):Bool:=B1 w.1&&(Fh w.2.1 && !(sle c w.2.1.1))
def Sua (c:Stp) (l:List Wri):Bool:=l.all (Dfa c)&&decide ((l.length:Int)≤200)
def Pr (l:List Dev) (ns:List Nod):Bool:=((ns.length:Int)==(l.length:Int))&&(List.range ns.length).all λ j=>((ns.getD j Cy).1==(l.getD j Mb).1)&&M3 (ns.getD j Cy)
def Ua (w:Wld):Bool:=H3 w.2.1 w.1&&(Pr w.1 w.2.2.1&&(Ft w.2.2.2.1&&(Sua w.2.2.2.1 w.2.2.2.2.1&&Qn w.2.2.2.2.2)))
def WIn (w:Wld):Prop:=RBd w.2.1∧w.1.length≤2000000∧(w.2.2.1.length≤2000000∧∀ n∈w.2.2.1,NIn n)∧(w.2.2.2.2.1.length≤2000000∧∀ x∈w.2.2.2.2.1,Jv x.1)∧(w.2.2.2.2.2.length≤2000000∧∀ s∈w.2.2.2.2.2,Jv s)
theorem Vna (w:Wld) (hw:WIn w):Tot (λ k=>D8 k w) (λ r=>r=Sua w.2.2.2.1 w.2.2.2.2.1):=by
 obtain ⟨_,_,_,⟨h1,h2⟩,_⟩:=hw
 unfold D8 Sua
 refine Tot.bind (Q:=λ r=>r=bif w.2.2.2.2.1.all (Dfa w.2.2.2.1) then .inr w else .inl false) ?_ (by
  rintro r rfl
  cases w.2.2.2.2.1.all (Dfa w.2.2.2.1)<;>exact Tot.pure rfl)
 rw [Gfa _ S7a]
 refine Tot.allI (L:=λ k i=>E8 k w.2.2.2.2.1 (w.2.2.2.2.1.length:Int) i w) _ _ w ?_ ?_
 ·simp (disch:=omega) only [E8,dF]
  exact Tot.pure rfl
 ·intro j hj Q no yes
  have hs:=h2 _ (A4 (d:=S7a) hj)
  obtain ⟨x,ex⟩:∃ x:Wri,w.2.2.2.2.1.getD j S7a=x:=⟨_,rfl⟩
  rw [ex] at hs
  simp only [ex] at no yes
  have e0:w.2.2.2.2.1.getD j ((⟨#[]⟩:ByteArray),((((0:Int),((0:Int),(0:Int))),(false,[])),false))=x:=ex
  simp (disch:=omega) only [E8,dT,Int.toNat_natCast,w64,e0,L9a,Koa,Option.bind_some]
  unfold Dfa at no yes
  refine Tot.bind (Sz x.1 hs) ?_
  rintro b rfl
  refine Tot.ite (λ hc=>Tot.pure (no ?_)) (λ h3=>Tot.ite (λ hc=>Tot.pure (no ?_)) (λ h4=>Tot.ite (λ hc=>Tot.pure (no ?_)) (λ h5=>yes ?_)))
  ·rw [Bool.not_eq_true'] at hc; rw [hc]; rfl
  ·rw [Bool.not_eq_true'] at hc; rw [hc,Bool.false_and,Bool.and_false]
  ·rw [hc,Bool.not_true,Bool.and_false,Bool.and_false]
  ·rw [Bool.not_eq_false'] at h3 h4; rw [h3,h4,h5]; rfl
theorem Gga (w:Wld) (hw:WIn w):Tot (λ k=>Cg k w.2.2.2.2.2 (w.2.2.2.2.2.length:Int) 0 w) (λ r=>r=bif Qn w.2.2.2.2.2 then .inr () else .inl false):=by
 obtain ⟨_,_,_,_,h1,h2⟩:=hw
 unfold Qn
 refine Tot.allI (L:=λ k i=>Cg k w.2.2.2.2.2 (w.2.2.2.2.2.length:Int) i w) _ _ () ?_ ?_
 ·simp (disch:=omega) only [Cg,dF]
  exact Tot.pure rfl
 ·intro j hj Q no yes
  have hs:=h2 _ (A4 (d:=Og) hj)
  have e0:∀ i,w.2.2.2.2.2.getD i (⟨#[]⟩:ByteArray)=w.2.2.2.2.2.getD i Og:=λ _=>rfl
  simp (disch:=omega) only [Cg,dT,Int.toNat_natCast,w64,e0]
  refine Tot.bind (Sz _ hs) ?_
  rintro b rfl
  refine Tot.ite (λ hc=>Tot.pure (no ?_)) (λ h3=>Tot.dite (λ h0=>?_) (λ h0=>yes ?_))
  ·rw [Bool.not_eq_true'] at hc; rw [hc]; rfl
  ·simp (disch:=omega) only [dT,w64,show Int.toNat ((j:Int) - 1)=j - 1 by omega]
   rw [Bool.not_eq_false'] at h3
   rw [h3,decide_eq_false (show ¬ j=0 by omega),Bool.false_or,Bool.true_and] at no yes
   refine Tot.ite (λ hc=>Tot.pure (no ?_)) (λ h4=>yes ?_)
   ·rw [Bool.not_eq_true'] at hc; exact hc
   ·rw [Bool.not_eq_false'] at h4; exact h4
  ·rw [Bool.not_eq_false'] at h3
   rw [h3,decide_eq_true (show j=0 by omega)]
   rfl
theorem Gha (w:Wld) (hw:WIn w):Tot (λ k=>Cj k 0 w) (λ r=>r=bif Qn w.2.2.2.2.2 then .inr () else .inl false):=by
 obtain ⟨_,_,_,_,h1,h2⟩:=hw
 unfold Qn
 refine Tot.allI (L:=λ k i=>Cj k i w) _ _ () ?_ ?_
 ·simp (disch:=omega) only [Cj,dF]
  exact Tot.pure rfl
 ·intro j hj Q no yes
  have hs:=h2 _ (A4 (d:=Og) hj)
  have e0:∀ i,w.2.2.2.2.2.getD i (⟨#[]⟩:ByteArray)=w.2.2.2.2.2.getD i Og:=λ _=>rfl
  simp (disch:=omega) only [Cj,dT,Int.toNat_natCast,w64,e0]
  refine Tot.bind (Na _ hs) ?_
  rintro b rfl
  refine Tot.ite (λ hc=>Tot.pure (no ?_)) (λ h3=>Tot.dite (λ h0=>?_) (λ h0=>yes ?_))
  ·rw [Bool.not_eq_true'] at hc; rw [hc]; rfl
  ·simp (disch:=omega) only [dT,w64,show Int.toNat ((j:Int) - 1)=j - 1 by omega]
   rw [Bool.not_eq_false'] at h3
   rw [h3,decide_eq_false (show ¬ j=0 by omega),Bool.false_or,Bool.true_and] at no yes
   refine Tot.ite (λ hc=>Tot.pure (no ?_)) (λ h4=>yes ?_)
   ·rw [Bool.not_eq_true'] at hc; exact hc
   ·rw [Bool.not_eq_false'] at h4; exact h4
  ·rw [Bool.not_eq_false'] at h3
   rw [h3,decide_eq_true (show j=0 by omega)]
   rfl
theorem Iya (w:Wld) (hw:WIn w) (hl:w.2.2.1.length=w.1.length):Tot (λ k=>Ea k w.2.2.1 (w.2.2.1.length:Int) 0 w) (λ r=>r=bif Pr w.1 w.2.2.1 then .inr w else .inl false):=by
 obtain ⟨_,_,⟨h1,h2⟩,_⟩:=hw
 unfold Pr
 rw [show ((w.2.2.1.length:Int)==(w.1.length:Int))=true by rw [beq_iff_eq]; omega,Bool.true_and]
 refine Tot.allI (L:=λ k i=>Ea k w.2.2.1 (w.2.2.1.length:Int) i w) _ _ w ?_ ?_
 ·simp (disch:=omega) only [Ea,dF]
  exact Tot.pure rfl
 ·intro j hj Q no yes
  have hs:=h2 _ (A4 (d:=Cy) hj)
  obtain ⟨x,ex⟩:∃ x:Nod,w.2.2.1.getD j Cy=x:=⟨_,rfl⟩
  rw [ex] at hs no yes
  have e0:w.2.2.1.getD j ((0:Int),(([],[]),([],[])))=x:=ex
  have e1:w.1.getD j ((0:Int),((0:Int),(0:Int)))=w.1.getD j Mb:=rfl
  simp (disch:=omega) only [Ea,dT,Int.toNat_natCast,w64,e0,e1]
  refine Tot.ite (λ hc=>Tot.pure (no ?_)) (λ h3=>Tot.bind (Uza x hs) ?_)
  ·rw [bne,Bool.not_eq_true'] at hc; rw [hc]; rfl
  ·rw [bne,Bool.not_eq_false'] at h3
   rw [h3,Bool.true_and] at no yes
   rintro b rfl
   refine Tot.ite (λ hc=>Tot.pure (no ?_)) (λ h4=>yes ?_)
   ·rw [Bool.not_eq_true'] at hc; exact hc
   ·rw [Bool.not_eq_false'] at h4; exact h4
theorem Voa (w:Wld) (hw:WIn w):Tot (λ k=>Da k w) (λ r=>r=Pr w.1 w.2.2.1):=by
 obtain ⟨_,_,⟨h1,h2⟩,_⟩:=hw
 unfold Pr Da
 refine Tot.ite (λ hc=>Tot.pure ?_) (λ hl=>?_)
 ·rw [bne,Bool.not_eq_true'] at hc
  rw [hc]; rfl
 ·rw [bne,Bool.not_eq_false'] at hl
  rw [hl,Bool.true_and]
  rw [beq_iff_eq] at hl
  refine Tot.bind (Q:=λ r=>r=bif (List.range w.2.2.1.length).all (λ j=>((w.2.2.1.getD j Cy).1==(w.1.getD j Mb).1)&&M3 (w.2.2.1.getD j Cy)) then .inr () else .inl false) ?_ (by
   rintro r rfl
   cases (List.range w.2.2.1.length).all (λ j=>((w.2.2.1.getD j Cy).1==(w.1.getD j Mb).1)&&M3 (w.2.2.1.getD j Cy))<;>exact Tot.pure rfl)
  refine Tot.allI (L:=λ k i=>Eb k i w) _ _ () ?_ ?_
  ·simp (disch:=omega) only [Eb,dF]
   exact Tot.pure rfl
  ·intro j hj Q no yes
   have hs:=h2 _ (A4 (d:=Cy) hj)
   obtain ⟨x,ex⟩:∃ x:Nod,w.2.2.1.getD j Cy=x:=⟨_,rfl⟩
   rw [ex] at hs no yes
   have e0:w.2.2.1.getD j ((0:Int),(([],[]),([],[])))=x:=ex
   have e1:w.1.getD j ((0:Int),((0:Int),(0:Int)))=w.1.getD j Mb:=rfl
   simp (disch:=omega) only [Eb,dT,Int.toNat_natCast,w64,e0,e1]
   refine Tot.ite (λ hc=>Tot.pure (no ?_)) (λ h3=>Tot.bind (W4 x hs) ?_)
   ·rw [bne,Bool.not_eq_true'] at hc; rw [hc]; rfl
   ·rw [bne,Bool.not_eq_false'] at h3
    rw [h3,Bool.true_and] at no yes
    rintro b rfl
    refine Tot.ite (λ hc=>Tot.pure (no ?_)) (λ h4=>yes ?_)
    ·rw [Bool.not_eq_true'] at hc; exact hc
    ·rw [Bool.not_eq_false'] at h4; exact h4
theorem S8a (w:Wld) (hw:WIn w):Tot (λ k=>D0 k w) (λ r=>r=Ua w):=by
 unfold D0 Ua
 refine Tot.bind (V4a w.2.1 w.1 hw.1 (by have:=hw.2.1; omega)) ?_
 rintro b rfl
 cases hr:H3 w.2.1 w.1 with
 |false=>exact Tot.yes rfl (Tot.pure rfl)
 |true=>
  refine Tot.no rfl ?_
  rw [Bool.true_and]
  by_cases hl:w.2.2.1.length=w.1.length
  ·refine Tot.no (by rw [bne,hl,beq_self_eq_true]; rfl) ?_
   simp only [Xu,Option.bind_some]
   cases hs:Ft w.2.2.2.1 with
   |false=>exact Tot.yes rfl (Tot.pure (by rw [Bool.false_and,Bool.and_false]))
   |true=>
    refine Tot.no rfl (Tot.bind (Vna w hw) ?_)
    rintro b rfl
    cases hws:Sua w.2.2.2.1 w.2.2.2.2.1 with
    |false=>exact Tot.yes rfl (Tot.pure (by rw [Bool.false_and,Bool.and_false,Bool.and_false]))
    |true=>
     refine Tot.no rfl (Tot.bind (Iya w hw hl) ?_)
     rintro b rfl
     cases Pr w.1 w.2.2.1 with
     |false=>exact Tot.pure rfl
     |true=>
      refine Tot.bind (Gga w hw) ?_
      rintro b rfl
      cases Qn w.2.2.2.2.2<;>exact Tot.pure rfl
  ·have hn:((w.2.2.1.length:Int)==(w.1.length:Int))=false:=by rw [beq_eq_false_iff_ne]; omega
   refine Tot.yes (by rw [bne,hn]; rfl) (Tot.pure ?_)
   unfold Pr
   rw [hn]
   rfl
theorem S9a (w:Wld) (hw:WIn w):Tot (λ k=>D5 k w) (λ r=>r=Ua w):=by
 have hw':=hw
 obtain ⟨_,_,_,⟨h1,h2⟩,_⟩:=hw'
 unfold D5 Ua
 refine Tot.bind (V5a w.2.1 w.1 hw.1 (by have:=hw.2.1; omega)) ?_
 rintro b rfl
 cases hr:H3 w.2.1 w.1 with
 |false=>exact Tot.yes rfl (Tot.pure rfl)
 |true=>
  refine Tot.no rfl (Tot.bind (Voa w hw) ?_)
  rintro b rfl
  rw [Bool.true_and]
  cases hn:Pr w.1 w.2.2.1 with
  |false=>exact Tot.yes rfl (Tot.pure rfl)
  |true=>
   refine Tot.no rfl ?_
   simp only [Qf,Option.bind_some]
   cases hs:Ft w.2.2.2.1 with
   |false=>exact Tot.yes rfl (Tot.pure rfl)
   |true=>
    refine Tot.no rfl ?_
    by_cases hl:(w.2.2.2.2.1.length:Int) > 200
    ·refine Tot.dec hl (Tot.pure ?_)
     unfold Sua
     rw [decide_eq_false (show ¬ (w.2.2.2.2.1.length:Int)≤200 by omega),Bool.and_false]
     rfl
    ·refine Tot.ndec hl (Tot.bind (Q:=λ r=>r=bif w.2.2.2.2.1.all (Dfa w.2.2.2.1) then .inr w else .inl false) ?_ ?_)
     ·rw [Gfa _ S7a]
      refine Tot.allI (L:=λ k i=>Fg k i w) _ _ w ?_ ?_
      ·simp (disch:=omega) only [Fg,dF]
       exact Tot.pure rfl
      ·intro j hj Q no yes
       have hs:=h2 _ (A4 (d:=S7a) hj)
       obtain ⟨x,ex⟩:∃ x:Wri,w.2.2.2.2.1.getD j S7a=x:=⟨_,rfl⟩
       rw [ex] at hs
       simp only [ex] at no yes
       have e0:w.2.2.2.2.1.getD j ((⟨#[]⟩:ByteArray),((((0:Int),((0:Int),(0:Int))),(false,[])),false))=x:=ex
       simp (disch:=omega) only [Fg,dT,Int.toNat_natCast,w64,e0,T3,Cva,Option.bind_some]
       unfold Dfa at no yes
       refine Tot.bind (Na x.1 hs) ?_
       rintro b rfl
       refine Tot.ite (λ hc=>Tot.pure (no ?_)) (λ h3=>Tot.ite (λ hc=>Tot.pure (no ?_)) (λ h4=>Tot.ite (λ hc=>Tot.pure (no ?_)) (λ h5=>yes ?_)))
       ·rw [Bool.not_eq_true'] at hc; rw [hc]; rfl
       ·rw [Bool.not_eq_true'] at hc; rw [hc,Bool.false_and,Bool.and_false]
       ·rw [hc,Bool.not_true,Bool.and_false,Bool.and_false]
       ·rw [Bool.not_eq_false'] at h3 h4; rw [h3,h4,h5]; rfl
     ·rintro b rfl
      unfold Sua
      rw [decide_eq_true (show (w.2.2.2.2.1.length:Int)≤200 by omega),Bool.and_true]
      cases w.2.2.2.2.1.all (Dfa w.2.2.2.1) with
      |false=>exact Tot.pure rfl
      |true=>
       refine Tot.bind (Gha w hw) ?_
       rintro b rfl
       cases Qn w.2.2.2.2.2<;>exact Tot.pure rfl

def atN:List Nod→Int→Nat→List Int
 |[],_,_=>[]
 |n::ns,id,i=>bif n.1==id then (i:Int)::atN ns id (i+1) else atN ns id (i+1)
theorem Dga (n:Nod) (ns:List Nod) (id:Int) (i:Nat):atN (n::ns) id i=bif n.1==id then (i:Int)::atN ns id (i+1) else atN ns id (i+1):=rfl
def whr (ns:List Nod) (ids:List Int):List Int:=ids.flatMap λ id=>atN ns id 0
theorem Dha (id:Int):∀ (ns:List Nod) (i:Nat),(atN ns id i).length≤ns.length
 |[],_=>Nat.le_refl _
 |n::ns,i=>by
  unfold atN
  have:=Dha id ns (i+1)
  cases n.1==id
  ·rw [cond_false,List.length_cons]; omega
  ·rw [cond_true,List.length_cons,List.length_cons]; omega
theorem Saa (ns:List Nod):∀ (ids:List Int),(whr ns ids).length≤ids.length * ns.length
 |[]=>Nat.zero_le _
 |id::ids=>by
  have h1:=Dha id ns 0
  have h2:=Saa ns ids
  unfold whr at h2 ⊢
  rw [List.flatMap_cons,List.length_append,List.length_cons,Nat.succ_mul]
  omega
theorem O7 {ns:List Nod} {ids:List Int} (h1:ns.length≤2000000) (h2:ids.length≤2000000):(whr ns ids).length≤4000000000000:=
 Nat.le_trans (Saa ns ids) (Nat.mul_le_mul h2 h1)
theorem Lva (ns:List Nod) (id:Int) (ids:List Int):whr ns (id::ids)=atN ns id 0++whr ns ids:=List.flatMap_cons
theorem Zia (ns:List Nod) (a b:List Int):whr ns (a++b)=whr ns a++whr ns b:=List.flatMap_append
theorem Ala (w:Wld) (id:Int) (a b c:List Int) (m i0:Int) (out:List Int) (h1:w.2.2.1.length≤2000000) (ho:out.length≤4000000000000):
  Tot (λ k=>Dj k out id a m i0 w.2.2.1 (w.2.2.1.length:Int) 0 w) (λ r=>r=(out++atN w.2.2.1 id 0,a,m,i0,w)):=by
 have m1:=Dha id w.2.2.1 0
 refine Tot.up (L:=λ k i (s:List Int)=>Dj k s id a m i0 w.2.2.1 (w.2.2.1.length:Int) i w) (Q:=λ r=>r=(out++atN w.2.2.1 id 0,a,m,i0,w)) w.2.2.1.length (λ j s=>s++atN (w.2.2.1.drop j) id j=out++atN w.2.2.1 id 0) ?_ ?_ 0 out (Nat.zero_le _) rfl
 ·intro s h
  rw [List.drop_length] at h
  simp (disch:=omega) only [Dj,dF]
  refine Tot.pure ?_
  rw [← h]
  show _=(s++[],a,m,i0,w)
  rw [List.append_nil]
 ·intro j s hj h next
  have g:=congrArg List.length h
  rw [List.length_append,List.length_append] at g
  rw [An (d:=Cy) hj,Dga] at h
  obtain ⟨x,ex⟩:∃ x:Nod,w.2.2.1.getD j Cy=x:=⟨_,rfl⟩
  rw [ex] at h
  have e0:w.2.2.1.getD j ((0:Int),(([],[]),([],[])))=x:=ex
  simp (disch:=omega) only [Dj,dT,Int.toNat_natCast,w64,e0]
  cases hx:x.1==id with
  |true=>
   rw [hx,cond_true] at h
   refine Tot.yes rfl (Tot.ble (by simp only [List.length_cons,List.length_nil]; omega) (next (s++[(j:Int)]) ?_))
   rw [← h,List.append_assoc]
   rfl
  |false=>
   rw [hx,cond_false] at h
   refine Tot.no rfl (next s h)
theorem Iza (w:Wld) (ids:List Int) (h1:w.2.2.1.length≤2000000) (h2:ids.length≤2000000):Tot (λ k=>Hg k w ids) (λ r=>r=whr w.2.2.1 ids):=by
 have m1:=O7 h1 h2
 unfold Hg
 refine Tot.bind (Q:=λ r=>r=whr w.2.2.1 ids) ?_ (by rintro r rfl; exact Tot.pure rfl)
 refine Tot.up (L:=λ k i (s:List Int)=>Ff k s ids (ids.length:Int) i w) (Q:=λ r=>r=whr w.2.2.1 ids) ids.length (λ j s=>s++whr w.2.2.1 (ids.drop j)=whr w.2.2.1 ids) ?_ ?_ 0 [] (Nat.zero_le _) rfl
 ·intro s h
  rw [List.drop_length] at h
  simp (disch:=omega) only [Ff,dF]
  refine Tot.pure ?_
  rw [← h]
  exact (List.append_nil s).symm
 ·intro j s hj h next
  have g:=congrArg List.length h
  rw [List.length_append] at g
  rw [An (d:=0) hj,Lva] at h
  simp (disch:=omega) only [Ff,dT,Int.toNat_natCast,w64]
  refine Tot.bind (Ala w (ids.getD j 0) ids [] [] (ids.length:Int) (j:Int) s h1 (by omega)) ?_
  rintro r rfl
  simp (disch:=omega) only [w64]
  exact next _ (by rw [List.append_assoc]; exact h)
theorem Dia (w:Wld) (ids:List Int) (n:Nat) (hn:n<ids.length) (out:List Int) (h1:w.2.2.1.length≤2000000) (ho:out.length≤4000000000000):
  Tot (λ k=>Bw k ids out (n:Int) 0 w) (λ r=>r=(ids,out++atN w.2.2.1 (ids.getD n 0) 0,(n:Int),w)):=by
 have m1:=Dha (ids.getD n 0) w.2.2.1 0
 refine Tot.up (L:=λ k i (s:List Int)=>Bw k ids s (n:Int) i w) (Q:=λ r=>r=(ids,out++atN w.2.2.1 (ids.getD n 0) 0,(n:Int),w)) w.2.2.1.length (λ j s=>s++atN (w.2.2.1.drop j) (ids.getD n 0) j=out++atN w.2.2.1 (ids.getD n 0) 0) ?_ ?_ 0 out (Nat.zero_le _) rfl
 ·intro s h
  rw [List.drop_length] at h
  simp (disch:=omega) only [Bw,dF]
  refine Tot.pure ?_
  rw [← h]
  show _=(ids,s++[],(n:Int),w)
  rw [List.append_nil]
 ·intro j s hj h next
  have g:=congrArg List.length h
  rw [List.length_append,List.length_append] at g
  rw [An (d:=Cy) hj,Dga] at h
  obtain ⟨x,ex⟩:∃ x:Nod,w.2.2.1.getD j Cy=x:=⟨_,rfl⟩
  rw [ex] at h
  have e0:w.2.2.1.getD j ((0:Int),(([],[]),([],[])))=x:=ex
  simp (disch:=omega) only [Bw,dT,Int.toNat_natCast,w64,e0]
  cases hx:x.1==ids.getD n 0 with
  |true=>
   rw [hx,cond_true] at h
   refine Tot.yes rfl (Tot.ble (by simp only [List.length_cons,List.length_nil]; omega) (next (s++[(j:Int)]) ?_))
   rw [← h,List.append_assoc]
   rfl
  |false=>
   rw [hx,cond_false] at h
   refine Tot.no rfl (next s h)
theorem R7 (w:Wld) (ids:List Int) (h1:w.2.2.1.length≤2000000) (h2:ids.length≤2000000):Tot (λ k=>B5 k w ids) (λ r=>r=whr w.2.2.1 ids):=by
 have m1:=O7 h1 h2
 unfold B5
 refine Tot.bind (Q:=λ r=>r=whr w.2.2.1 ids) ?_ (by rintro r rfl; exact Tot.pure rfl)
 refine Tot.up (L:=λ k i (s:List Int)=>Df k ids s i w) (Q:=λ r=>r=whr w.2.2.1 ids) ids.length (λ j s=>s++whr w.2.2.1 (ids.drop j)=whr w.2.2.1 ids) ?_ ?_ 0 [] (Nat.zero_le _) rfl
 ·intro s h
  rw [List.drop_length] at h
  simp (disch:=omega) only [Df,dF]
  refine Tot.pure ?_
  rw [← h]
  exact (List.append_nil s).symm
 ·intro j s hj h next
  have g:=congrArg List.length h
  rw [List.length_append] at g
  rw [An (d:=0) hj,Lva] at h
  simp (disch:=omega) only [Df,dT,Int.toNat_natCast,w64]
  refine Tot.bind (Dia w ids j hj s h1 (by omega)) ?_
  rintro r rfl
  simp (disch:=omega) only [w64]
  exact next _ (by rw [List.append_assoc]; exact h)
theorem J0a (id:Int):∀ (ns:List Nod) (i:Nat) (x:Int),x∈atN ns id i↔∃ j,j<ns.length∧(ns.getD j Cy).1=id∧x=((i+j:Nat):Int)
 |[],i,x=>by simp [atN]
 |n::ns,i,x=>by
  have ih:=J0a id ns (i+1) x
  have tl:(∃ j,j<(n::ns).length∧((n::ns).getD j Cy).1=id∧x=((i+j:Nat):Int))↔(n.1=id∧x=(i:Int))∨x∈atN ns id (i+1):=by
   rw [ih]
   constructor
   ·rintro ⟨j,h1,h2,h3⟩
    cases j with
    |zero=>exact .inl ⟨h2,by omega⟩
    |succ j=>exact .inr ⟨j,by simpa using h1,by simpa using h2,by omega⟩
   ·rintro (⟨h1,h2⟩|⟨j,h1,h2,h3⟩)
    ·exact ⟨0,by simp,h1,by omega⟩
    ·exact ⟨j+1,by simpa using h1,by simpa using h2,by omega⟩
  rw [tl,Dga]
  cases hx:n.1==id with
  |true=>
   rw [cond_true,List.mem_cons,eq_of_beq hx]
   simp
  |false=>
   rw [cond_false]
   have:=beq_eq_false_iff_ne.1 hx
   simp [this]
theorem Dja {ns:List Nod} {ids:List Int} {x:Int}:x∈whr ns ids↔∃ j,j<ns.length∧(ns.getD j Cy).1∈ids∧x=(j:Int):=by
 unfold whr
 rw [List.mem_flatMap]
 constructor
 ·rintro ⟨id,h1,h2⟩
  obtain ⟨j,h3,h4,h5⟩:=(J0a _ _ _ _).1 h2
  exact ⟨j,h3,h4 ▸ h1,by omega⟩
 ·rintro ⟨j,h3,h4,h5⟩
  exact ⟨_,h4,(J0a _ _ _ _).2 ⟨j,h3,rfl,by omega⟩⟩
def Cv (w:Wld) (x:ByteArray):List Int:=whr w.2.2.1 (Tb w.2.1 x++O6 w.2.1 w.1 x)
def Djb:ByteArray:=⟨#[108,105,115,116]⟩
def Ku (w:Wld):List Int:=whr w.2.2.1 (Tb w.2.1 Djb)
theorem W8 {r:Rng} (hr:RBd r) (x:ByteArray):(Tb r x).length≤2000000:=by
 unfold Tb
 by_cases hm:Nja x % r.2.length<r.2.length
 ·exact hr.2 _ (A4 (d:=[]) hm)
 ·rw [List.getD_eq_getElem?_getD,List.getElem?_eq_none (by omega)]; exact Nat.zero_le _
theorem O8 (r:Rng) (l:List Dev) (x:ByteArray):(O6 r l x).length≤l.length+l.length:=by
 unfold O6
 rw [List.length_append]
 have h1:=U9 (Tb r x) (Ia (Tb r x) l) false l
 have h2:=U9 (Tb r x) (Ia (Tb r x) l) true l
 omega
theorem Gia (w:Wld) (x:ByteArray) (h:H3 w.2.1 w.1=true) (hn:w.2.2.1.length≤2000000) (hx:x.size≤1000000000):Tot (λ k=>C4 k w x) (λ r=>r=(Cv w x,w)):=by
 have h5:=(Bg.1 h).2.1
 have p2:=(S6 h x).2.1
 have h12:=(Ed.1 (Bg.1 h).1).2.2.2
 have hh:=O8 w.2.1 w.1 x
 unfold C4 Cv
 refine Tot.bind (Lta _ x (Mc h) hx) ?_
 rintro p rfl
 refine Tot.bind (Vla _ _ x h hx) ?_
 rintro q rfl
 refine Tot.ble (by omega) (Tot.bind (Iza w _ hn (by rw [List.length_append]; omega)) ?_)
 rintro r rfl
 exact Tot.pure rfl
theorem Um (w:Wld) (x:ByteArray) (h:H3 w.2.1 w.1=true) (hn:w.2.2.1.length≤2000000) (hx:x.size≤1000000000):Tot (λ k=>Bz k w x) (λ r=>r=Cv w x):=by
 have h5:=(Bg.1 h).2.1
 have p2:=(S6 h x).2.1
 have h12:=(Ed.1 (Bg.1 h).1).2.2.2
 have hh:=O8 w.2.1 w.1 x
 unfold Bz Cv
 rw [Zia]
 refine Tot.bind (W7 _ x (Mc h) hx) ?_
 rintro p rfl
 refine Tot.bind (R7 w _ hn (by omega)) ?_
 rintro a rfl
 refine Tot.bind (Vma _ _ x h hx) ?_
 rintro q rfl
 refine Tot.bind (R7 w _ hn (by omega)) ?_
 rintro b rfl
 have l1:=O7 hn (show (Tb w.2.1 x).length≤2000000 by omega)
 have l2:=O7 hn (show (O6 w.2.1 w.1 x).length≤2000000 by omega)
 exact Tot.ble (by omega) (Tot.pure rfl)
theorem Z6 (w:Wld) (hr:RBd w.2.1) (hn:w.2.2.1.length≤2000000):Tot (λ k=>G7 k w) (λ r=>r=Ku w):=by
 unfold G7
 refine Tot.bind (W7 _ Djb hr (by decide)) ?_
 rintro p rfl
 refine Tot.bind (R7 w _ hn (W8 hr _)) ?_
 rintro r rfl
 exact Tot.pure rfl
def quo (n:Int):Int:=n / 2+1
theorem D6b {n:Int} (h0:0≤n):Int.tdiv n 2=n / 2:=Int.tdiv_eq_ediv_of_nonneg h0
theorem Zja {n:Int} (h0:0≤n) (h1:n≤1000000000):Jm n=some (quo n):=by
 unfold Jm quo
 rw [D6b h0,w64 (n:=n / 2) (by omega) (by omega),w64 (n:=n / 2+1) (by omega) (by omega)]
def rch (l:List Int) (i:Nat):Int:=bif decide (i<l.length)&&inR (l.getD i 0) 1 3 then l.getD i 0 else 0
theorem Zka (l:List Int) (i:Nat):Iz l (i:Int)=some (rch l i):=by
 unfold Iz rch
 by_cases h:i<l.length
 ·simp (disch:=omega) only [dT,Int.toNat_natCast,Ug,Option.bind_some]
  rw [decide_eq_true h,Bool.true_and]
  cases inR (l.getD i 0) 1 3<;>rfl
 ·rw [dF (by omega),decide_eq_false h]; rfl
theorem Dka (l:List Int) (i:Nat):B8 l (i:Int)=some (rch l i):=by
 unfold B8 rch
 by_cases h:i<l.length
 ·rw [dF (by omega)]
  simp (disch:=omega) only [dT,Int.toNat_natCast,N6,Option.bind_some]
  rw [decide_eq_true h,Bool.true_and]
  cases inR (l.getD i 0) 1 3<;>rfl
 ·rw [dT (by omega),decide_eq_false h]; rfl

section
open Go
end

def Zla (a b:Row):Bool:=(a.1==b.1)&&((a.2.1.1==b.2.1.1)&&((a.2.1.2.1==b.2.1.2.1)&&((a.2.1.2.2==b.2.1.2.2)&&((a.2.2.1==b.2.2.1)&&(a.2.2.2==b.2.2.2)))))
theorem Gja {a b:Row}:Zla a b=true↔a=b:=by
 unfold Zla
 obtain ⟨a0,⟨a1,a2,a3⟩,a4,a5⟩:=a
 obtain ⟨b0,⟨b1,b2,b3⟩,b4,b5⟩:=b
 simp only [Cza,Bool.and_eq_true,beq_iff_eq,Prod.mk.injEq,Ja]
 constructor
 ·rintro ⟨h0,h1,h2,h3,h4,h5⟩; exact ⟨h0,⟨h1,h2,h3⟩,h4,h5⟩
 ·rintro ⟨h0,⟨h1,h2,h3⟩,h4,h5⟩; exact ⟨h0,h1,h2,h3,h4,h5⟩
def Ama (ws:List Wri) (r:Row):Bool:=ws.any λ x=>Zla (Y8 x.1 x.2.1) r

def run {α:Type} (st:α→Nat→α) (n:Nat) (a:α):α:=(List.range n).foldl st a
theorem Pn {α:Type} (st:α→Nat→α) (n:Nat) (a:α):run st (n+1) a=st (run st n a) n:=by
 unfold run
 rw [List.range_succ,List.foldl_append]
 rfl
theorem Lwa {α:Type} {st:α→Nat→α} {a:α} {j n:Nat} (hj:j≤n) (h:∀ i,st (run st j a) i=run st j a):run st n a=run st j a:=by
 obtain ⟨m,rfl⟩:=Nat.exists_eq_add_of_le hj
 induction m with
 |zero=>rfl
 |succ m ih=>rw [← Nat.add_assoc,Pn,ih (by omega),h]
theorem Mq {α:Type} {st:α→Nat→α} (P:Nat→α→Prop) {n:Nat} {a:α} (h0:P 0 a) (hs:∀ j b,j<n→P j b→P (j+1) (st b j)):P n (run st n a):=by
 have:∀ m,m≤n→P m (run st m a):=by
  intro m
  induction m with
  |zero=>intro _; exact h0
  |succ m ih=>intro hm; rw [Pn]; exact hs m _ (by omega) (ih (by omega))
 exact this n (Nat.le_refl _)
def NS (ns:List Nod):Prop:=ns.length≤2000000∧∀ n∈ns,NG n
theorem NS.set {ns:List Nod} (h:NS ns) {i:Nat} {n:Nod} (hn:NG n):NS (ns.set i n):=⟨by rw [List.length_set]; exact h.1,λ m hm=>by
 rcases List.mem_or_eq_of_mem_set hm with hm|rfl
 ·exact h.2 m hm
 ·exact hn⟩
theorem NS.get {ns:List Nod} (h:NS ns) {i:Nat} (hi:i<ns.length):NG (ns.getD i Cy):=h.2 _ (A4 hi)
abbrev wN (w:Wld) (ns:List Nod):Wld:=(w.1,w.2.1,ns,w.2.2.2)
def Mz (c:Stp) (t d:Int):Stp:=bif decide (t≤c.1) then (bif Ft (c.1,c.2.1+1,d) then (c.1,c.2.1+1,d) else c) else (bif Ft (t,0,d) then (t,0,d) else c)
theorem Sba {c:Stp} (hc:Ft c=true) (t d:Int):Gc c t d=some (Mz c t d):=by
 have h2:0≤c.2.1∧c.2.1≤1000000:=by
  unfold Ft at hc
  rw [Bool.and_eq_true,Bool.and_eq_true,Dz,Dz] at hc
  exact hc.2.1
 unfold Gc Mz
 rw [w64 (n:=c.2.1+1) (by omega) (by omega)]
 simp only [Qf,Option.bind_some]
 cases decide (t≤c.1) with
 |true=>cases Ft (c.1,c.2.1+1,d)<;>rfl
 |false=>cases Ft (t,0,d)<;>rfl
theorem Dla {c:Stp} (hc:Ft c=true) (t d:Int):Ft (Mz c t d)=true∧(Mz c t d=c∨sle c (Mz c t d)=true):=by
 unfold Mz
 by_cases h:t≤c.1
 ·rw [decide_eq_true h,cond_true]
  cases hs:Ft (c.1,c.2.1+1,d) with
  |true=>exact ⟨hs,.inr (Qe.2 (.inr ⟨rfl,.inl (by show c.2.1<c.2.1+1; omega)⟩))⟩
  |false=>exact ⟨hc,.inl rfl⟩
 ·rw [decide_eq_false h,cond_false]
  cases hs:Ft (t,0,d) with
  |true=>exact ⟨hs,.inr (Qe.2 (.inl (by show c.1<t; omega)))⟩
  |false=>exact ⟨hc,.inl rfl⟩
def wst (R:Int) (rc:List Int) (s:ByteArray) (f:Fil) (cs:List Int) (a:List Nod×Int×Int) (j:Nat):List Nod×Int×Int:=
 bif decide (a.2.1<R) then (bif rch rc j==0 then a else
  (a.1.set (cs.getD j 0).toNat (Uj (a.1.getD (cs.getD j 0).toNat Cy) s f (rch rc j != 3)).1,a.2.1+1,
   bif rch rc j==1&&((Uj (a.1.getD (cs.getD j 0).toNat Cy) s f (rch rc j != 3)).2==0 || (Uj (a.1.getD (cs.getD j 0).toNat Cy) s f (rch rc j != 3)).2==1) then a.2.2+1 else a.2.2))
 else a
def wrN (w:Wld) (s:ByteArray) (f:Fil) (rc:List Int):List Nod×Int×Int:=run (wst w.2.1.1 rc s f (Cv w s)) (Cv w s).length (w.2.2.1,0,0)
def Z7 (w:Wld) (s:ByteArray) (f:Fil) (rc:List Int):Int×Wld:=
 (bif decide ((wrN w s f rc).2.2≥quo w.2.1.1) then 0 else 1,(w.1,w.2.1,(wrN w s f rc).1,w.2.2.2.1,w.2.2.2.2.1++[(s,f,decide ((wrN w s f rc).2.2≥quo w.2.1.1))],w.2.2.2.2.2))
theorem Mr {w:Wld} {s:ByteArray} {x:Int} (h:x∈Cv w s):0≤x∧x<(w.2.2.1.length:Int):=by
 obtain ⟨j,h1,_,rfl⟩:=Dja.1 h
 omega
theorem Bzb {R:Int} {rc:List Int} {s:ByteArray} {f:Fil} {cs:List Int} {a:List Nod×Int×Int} {j m:Nat} (hs:B1 s=true) (hf:Fh f=true) (h:NS a.1∧a.1.length=m∧(0≤a.2.1∧a.2.1≤j)∧0≤a.2.2∧a.2.2≤j) (hc:(cs.getD j 0).toNat<m):
  let b:=wst R rc s f cs a j
  NS b.1∧b.1.length=m∧(0≤b.2.1∧b.2.1≤((j+1:Nat):Int))∧0≤b.2.2∧b.2.2≤((j+1:Nat):Int):=by
 obtain ⟨h1,h2,h3,h4,h5⟩:=h
 intro b
 have hb:b=wst R rc s f cs a j:=rfl
 unfold wst at hb
 cases hR:decide (a.2.1<R) with
 |false=>rw [hR,cond_false] at hb; rw [hb]; exact ⟨h1,h2,⟨h3.1,by omega⟩,h4,by omega⟩
 |true=>
  rw [hR,cond_true] at hb
  cases hr:rch rc j==0 with
  |true=>rw [hr,cond_true] at hb; rw [hb]; exact ⟨h1,h2,⟨h3.1,by omega⟩,h4,by omega⟩
  |false=>
   rw [hr,cond_false] at hb
   rw [hb]
   refine ⟨h1.set (Lda (h1.get (by omega)) hs hf),by rw [List.length_set]; exact h2,⟨by dsimp only; omega,by dsimp only; omega⟩,?_⟩
   dsimp only
   cases rch rc j==1&&((Uj (a.1.getD (cs.getD j 0).toNat Cy) s f (rch rc j != 3)).2==0 || (Uj (a.1.getD (cs.getD j 0).toNat Cy) s f (rch rc j != 3)).2==1)
   ·exact ⟨h4,by rw [cond_false]; omega⟩
   ·exact ⟨by rw [cond_true]; omega,by rw [cond_true]; omega⟩
theorem Nka (w:Wld) (s:ByteArray) (f:Fil) (rc:List Int) (hr:H3 w.2.1 w.1=true) (hn:NS w.2.2.1) (hs:B1 s=true) (hf:Fh f=true) (hw:w.2.2.2.2.1.length≤2000000):
  Tot (λ k=>Bt k w s f rc) (λ r=>r=Z7 w s f rc):=by
 have hsz:s.size≤1000000000:=by
  have:=Dz.1 (Bool.and_eq_true _ _ ▸ hs:_∧_).2
  omega
 obtain ⟨_,hR,_⟩:=Bg.1 hr
 unfold Bt Z7
 refine Tot.bind (Um w s hr hn.1 hsz) ?_
 rintro cs rfl
 have hc:=λ x=>Mr (w:=w) (s:=s) (x:=x)
 have hcl:(Cv w s).length≤4000000000000:=by
  unfold Cv
  refine O7 hn.1 ?_
  have h5:=(Bg.1 hr).2.1
  have p2:=(S6 hr s).2.1
  have h12:=(Ed.1 (Bg.1 hr).1).2.2.2
  have hh:=O8 w.2.1 w.1 s
  rw [List.length_append]; omega
 have hrun:wrN w s f rc=run (wst w.2.1.1 rc s f (Cv w s)) (Cv w s).length (w.2.2.1,0,0):=rfl
 have inv:∀ n,n≤(Cv w s).length→NS (run (wst w.2.1.1 rc s f (Cv w s)) n (w.2.2.1,0,0)).1∧(run (wst w.2.1.1 rc s f (Cv w s)) n (w.2.2.1,0,0)).1.length=w.2.2.1.length∧(0≤(run (wst w.2.1.1 rc s f (Cv w s)) n (w.2.2.1,0,0)).2.1∧(run (wst w.2.1.1 rc s f (Cv w s)) n (w.2.2.1,0,0)).2.1≤n)∧0≤(run (wst w.2.1.1 rc s f (Cv w s)) n (w.2.2.1,0,0)).2.2∧(run (wst w.2.1.1 rc s f (Cv w s)) n (w.2.2.1,0,0)).2.2≤n:=by
  intro n hn'
  refine Mq (λ j (b:List Nod×Int×Int)=>NS b.1∧b.1.length=w.2.2.1.length∧(0≤b.2.1∧b.2.1≤(j:Int))∧0≤b.2.2∧b.2.2≤(j:Int)) ⟨hn,rfl,⟨Int.le_refl _,Int.le_refl _⟩,Int.le_refl _,Int.le_refl _⟩ (λ j b hj hb=>Bzb hs hf hb ?_)
  have:=hc _ (A4 (d:=0) (show j<(Cv w s).length by omega))
  omega
 generalize hcs:Cv w s=cs at *
 refine Tot.bind (Q:=λ r=>r=(s,(wrN w s f rc).2.2,wN w (wrN w s f rc).1,f)) ?_ ?_
 ·refine Tot.up (L:=λ k i (a:List Nod×Int×Int)=>Ay k s rc cs a.2.1 a.2.2 i (wN w a.1) f) (Q:=λ r=>r=(s,(wrN w s f rc).2.2,wN w (wrN w s f rc).1,f)) cs.length (λ j a=>a=run (wst w.2.1.1 rc s f cs) j (w.2.2.1,0,0)) ?_ ?_ 0 (w.2.2.1,0,0) (Nat.zero_le _) rfl
  ·rintro a rfl
   simp (disch:=omega) only [Ay,dF]
   exact Tot.pure (by rw [hrun])
  ·rintro j a hj rfl next
   obtain ⟨i1,i2,i3,i4,i5⟩:=inv j (by omega)
   rw [Pn] at next
   have hst:=Lwa (st:=wst w.2.1.1 rc s f cs) (a:=(w.2.2.1,(0:Int),(0:Int))) (j:=j) (n:=cs.length) (by omega)
   generalize run (wst w.2.1.1 rc s f cs) j (w.2.2.1,0,0)=a at *
   obtain ⟨ns,o,g⟩:=a
   dsimp only at i1 i2 i3 i4 i5
   have hci:=hc _ (A4 (d:=0) hj)
   obtain ⟨i,ei⟩:∃ i:Nat,cs.getD j 0=(i:Int):=⟨(cs.getD j 0).toNat,by omega⟩
   rw [ei] at hci
   unfold wst at next
   rw [ei,Int.toNat_natCast] at next
   simp (disch:=omega) only [Ay,dT,wN]
   refine Tot.dite (λ hR'=>?_) (λ hR'=>Tot.pure ?_)
   ·dsimp only at next
    rw [decide_eq_true hR'] at next
    simp only [Dka,Option.bind_some]
    cases h0:rch rc j==0 with
    |true=>
     rw [h0] at next
     simp (disch:=omega) only [w64]
     exact Tot.yes rfl (next _ rfl)
    |false=>
     rw [h0] at next
     have e0:ns.getD i ((0:Int),(([],[]),([],[])))=ns.getD i Cy:=rfl
     simp (disch:=omega) only [dT,Int.toNat_natCast,w64,ei,e0,cond_false]
     refine Tot.bind (G2a (ns.getD i Cy) s f (rch rc j != 3) (Y6 (i1.get (by omega))) (Jj hs)) ?_
     rintro p rfl
     dsimp only at next ⊢
     generalize Uj (ns.getD i Cy) s f (rch rc j != 3)=p at *
     cases h1:rch rc j==1 with
     |false=>
      rw [h1] at next
      exact Tot.no rfl (next _ rfl)
     |true=>
      rw [h1] at next
      refine Tot.yes rfl ?_
      cases h2:p.2==0 with
      |true=>rw [h2] at next; exact Tot.yes rfl (next _ rfl)
      |false=>
       rw [h2] at next
       refine Tot.no rfl ?_
       cases h3:p.2==1 with
       |true=>rw [h3] at next; exact Tot.yes rfl (next _ rfl)
       |false=>rw [h3] at next; exact Tot.no rfl (next _ rfl)
   ·rw [hrun,hst (λ i=>by unfold wst; dsimp only; rw [decide_eq_false hR']; rfl)]
 ·rintro r rfl
  obtain ⟨_,_,_,h4,h5⟩:=inv cs.length (Nat.le_refl _)
  dsimp only [wN]
  rw [Zja (by omega) (by omega)]
  have ec:Bi f=some f:=by
   have:=(Ik.1 hf).2.1
   unfold Bi
   rw [bT (by simp only [List.length_nil]; omega),List.nil_append]
  rw [ec]
  simp only [Option.bind_some]
  refine Tot.ble (by simp only [List.length_cons,List.length_nil]; omega) ?_
  cases decide ((wrN w s f rc).2.2≥quo w.2.1.1) with
  |true=>exact Tot.pure rfl
  |false=>exact Tot.pure rfl
def ask (w:Wld) (s:ByteArray) (f:Fil) (t:Int) (rc:List Int):Int×Wld:=
 bif !(B1 s) then (2,w) else bif decide ((f.2.2.length:Int) > 200) then (2,w) else bif !(inR t 0 1000000000) then (2,w) else
 bif (w.2.2.2.2.1.length:Int)==200 then (3,w) else
 bif (Mz w.2.2.2.1 t 0).1==w.2.2.2.1.1&&((Mz w.2.2.2.1 t 0).2.1==w.2.2.2.1.2.1&&(Mz w.2.2.2.1 t 0).2.2==w.2.2.2.1.2.2) then (3,w) else
 Z7 (w.1,w.2.1,w.2.2.1,Mz w.2.2.2.1 t 0,w.2.2.2.2) s (Mz w.2.2.2.1 t 0,f.2) rc
theorem Sca (w:Wld) (s:ByteArray) (f:Fil) (t:Int) (rc:List Int) (hr:H3 w.2.1 w.1=true) (hn:NS w.2.2.1) (hst:Ft w.2.2.2.1=true) (hs:Jv s) (hd:f.2.1=true→f.2.2=[]) (hw:w.2.2.2.2.1.length≤2000000):
  Tot (λ k=>H5 k w s f t rc) (λ r=>r=ask w s f t rc):=by
 unfold H5 ask
 refine Tot.bind (Na s hs) ?_
 rintro b rfl
 cases hs':B1 s with
 |false=>exact Tot.yes rfl (Tot.pure rfl)
 |true=>
  refine Tot.no rfl ?_
  rw [Bool.not_true,cond_false]
  by_cases hl:(f.2.2.length:Int) > 200
  ·rw [decide_eq_true hl]; exact Tot.yes rfl (Tot.pure rfl)
  ·rw [decide_eq_false hl,cond_false]
   refine Tot.no rfl ?_
   simp only [N6,Sba hst,Option.bind_some]
   cases inR t 0 1000000000 with
   |false=>exact Tot.yes rfl (Tot.pure rfl)
   |true=>
    refine Tot.no rfl ?_
    rw [Bool.not_true,cond_false]
    cases (w.2.2.2.2.1.length:Int)==200 with
    |true=>exact Tot.yes rfl (Tot.pure rfl)
    |false=>
     refine Tot.no rfl ?_
     rw [cond_false]
     cases (Mz w.2.2.2.1 t 0).1==w.2.2.2.1.1&&((Mz w.2.2.2.1 t 0).2.1==w.2.2.2.1.2.1&&(Mz w.2.2.2.1 t 0).2.2==w.2.2.2.1.2.2) with
     |true=>exact Tot.yes rfl (Tot.pure rfl)
     |false=>
      refine Tot.no rfl (Tot.bind (Nka (w.1,w.2.1,w.2.2.1,Mz w.2.2.2.1 t 0,w.2.2.2.2) s (Mz w.2.2.2.1 t 0,f.2) rc hr hn hs' (Ik.2 ⟨(Dla hst t 0).1,by show f.2.2.length≤200; omega,hd⟩) hw) ?_)
      rintro r rfl
      exact Tot.pure rfl
def pst (src:Int) (s:ByteArray) (f:Fil) (rc ps:List Int) (a:List Nod×Bool×Bool) (j:Nat):List Nod×Bool×Bool:=
 bif ps.getD j 0==src then (a.1,true,a.2.2) else bif rch rc j != 1 then (a.1,a.2.1,false) else
  (a.1.set (ps.getD j 0).toNat ((a.1.getD (ps.getD j 0).toNat Cy).1,(keep (a.1.getD (ps.getD j 0).toNat Cy).2.1 s f true).1,(a.1.getD (ps.getD j 0).toNat Cy).2.2),a.2.1,
   bif (keep (a.1.getD (ps.getD j 0).toNat Cy).2.1 s f true).2 != 0&&(keep (a.1.getD (ps.getD j 0).toNat Cy).2.1 s f true).2 != 1 then false else a.2.2)
def Ra (w:Wld) (s:ByteArray):List Int:=whr w.2.2.1 (Tb w.2.1 s)
def puN (w:Wld) (i:Nat) (s:ByteArray) (rc:List Int):List Nod×Bool×Bool:=run (pst (i:Int) s (lkD (w.2.2.1.getD i Cy).2.1 s).1 rc (Ra w s)) (Ra w s).length (w.2.2.1,false,true)
def Dkb (n:Nod) (s:ByteArray):Nod:=(n.1,(syD (rmD n.2.1 s).1 s).1,n.2.2)
def J1a (w:Wld) (i:Nat) (s:ByteArray) (rc:List Int):Bool×Wld:=bif (lkD (w.2.2.1.getD i Cy).2.1 s).2 != 0 then (false,w) else
 (true,wN w (bif (puN w i s rc).2.2 && !(puN w i s rc).2.1 then (puN w i s rc).1.set i (Dkb ((puN w i s rc).1.getD i Cy) s) else (puN w i s rc).1))
theorem Xca {n:Nod} (hn:NG n) {s:ByteArray} (hs:B1 s=true):NG (Dkb n s):=Dea hn (Z5a (Uwa hn.g) hs)
theorem J2a {n:Nod} (hn:NG n) {s:ByteArray} {f:Fil} {sure:Bool}:NG (n.1,(keep n.2.1 s f sure).1,n.2.2):=Dea hn (X2a hn.g)
theorem Xda {src:Int} {s:ByteArray} {f:Fil} {rc ps:List Int} {a:List Nod×Bool×Bool} {j m:Nat} (h:NS a.1∧a.1.length=m) (hc:(ps.getD j 0).toNat<m):NS (pst src s f rc ps a j).1∧(pst src s f rc ps a j).1.length=m:=by
 unfold pst
 cases ps.getD j 0==src with
 |true=>exact h
 |false=>
  cases rch rc j != 1 with
  |true=>exact h
  |false=>exact ⟨h.1.set (J2a (h.1.get (by have:=h.2; omega))),by rw [cond_false,cond_false,List.length_set]; exact h.2⟩
theorem T9 {w:Wld} {s:ByteArray} {x:Int} (h:x∈Ra w s):0≤x∧x<(w.2.2.1.length:Int):=by
 obtain ⟨j,h1,_,rfl⟩:=Dja.1 h
 omega
theorem Sda {w:Wld} {s:ByteArray} (hr:H3 w.2.1 w.1=true) (hn:w.2.2.1.length≤2000000):(Ra w s).length≤4000000000000:=O7 hn (W8 (Mc hr) s)
theorem C0b {w:Wld} {i:Nat} {s:ByteArray} {rc:List Int} (hn:NS w.2.2.1):NS (puN w i s rc).1∧(puN w i s rc).1.length=w.2.2.1.length:=
 Mq (λ _ (b:List Nod×Bool×Bool)=>NS b.1∧b.1.length=w.2.2.1.length) ⟨hn,rfl⟩ (λ j b hj hb=>Xda hb (by have:=T9 (A4 (d:=0) hj); omega))
theorem Vpa (w:Wld) (i:Nat) (s:ByteArray) (rc:List Int) (hr:H3 w.2.1 w.1=true) (hn:NS w.2.2.1) (hi:i<w.2.2.1.length):Tot (λ k=>Cc k w (i:Int) s rc) (λ r=>r=J1a w i s rc):=by
 have hni:=hn.get hi
 unfold Cc J1a
 have e0:w.2.2.1.getD i ((0:Int),(([],[]),([],[])))=w.2.2.1.getD i Cy:=rfl
 simp (disch:=omega) only [dT,Int.toNat_natCast,e0]
 have hin:=(Y6 hni).1
 refine Tot.bind (T6 hin.1.1.1.1 hin.2.1 s) ?_
 rintro r rfl
 cases hl:(lkD (w.2.2.1.getD i Cy).2.1 s).2 != 0 with
 |true=>exact Tot.yes rfl (Tot.pure rfl)
 |false=>
  refine Tot.no rfl ?_
  rw [cond_false]
  have hlk:∃ b,gt (w.2.2.1.getD i Cy).2.1.1 s=some b:=by
   rw [bne,Bool.not_eq_false',beq_iff_eq] at hl
   obtain ⟨b,hb,_⟩:=P3.1 (show lkD (w.2.2.1.getD i Cy).2.1 s=((lkD (w.2.2.1.getD i Cy).2.1 s).1,0) from by rw [← hl])
   exact ⟨b,hb⟩
  have hs:B1 s=true:=Rba hni.g.1 (by obtain ⟨b,hb⟩:=hlk; rw [hb]; rfl)
  have hsz:s.size≤1000000000:=by
   have:=Dz.1 (Bool.and_eq_true _ _ ▸ hs:_∧_).2
   omega
  refine Tot.bind (W7 _ s (Mc hr) hsz) ?_
  rintro p rfl
  refine Tot.bind (R7 w _ hn.1 (W8 (Mc hr) s)) ?_
  rintro p rfl
  have hpl:=Sda (s:=s) hr hn.1
  have hc:=λ x=>T9 (w:=w) (s:=s) (x:=x)
  have hrun:puN w i s rc=run (pst (i:Int) s (lkD (w.2.2.1.getD i Cy).2.1 s).1 rc (Ra w s)) (Ra w s).length (w.2.2.1,false,true):=rfl
  obtain ⟨p1,p2⟩:=C0b (w:=w) (i:=i) (s:=s) (rc:=rc) hn
  have inv:∀ n,n≤(Ra w s).length→NS (run (pst (i:Int) s (lkD (w.2.2.1.getD i Cy).2.1 s).1 rc (Ra w s)) n (w.2.2.1,false,true)).1∧(run (pst (i:Int) s (lkD (w.2.2.1.getD i Cy).2.1 s).1 rc (Ra w s)) n (w.2.2.1,false,true)).1.length=w.2.2.1.length:=λ n hn'=>
   Mq (λ _ (b:List Nod×Bool×Bool)=>NS b.1∧b.1.length=w.2.2.1.length) ⟨hn,rfl⟩ (λ j b hj hb=>Xda hb (by have:=hc _ (A4 (d:=0) (show j<(Ra w s).length by omega)); omega))
  rw [show whr w.2.2.1 (Tb w.2.1 s)=Ra w s from rfl]
  generalize (lkD (w.2.2.1.getD i Cy).2.1 s).1=f at *
  generalize Ra w s=ps at *
  refine Tot.bind (Q:=λ r=>r=((i:Int),s,(puN w i s rc).2.1,(puN w i s rc).2.2,wN w (puN w i s rc).1)) ?_ ?_
  ·refine Tot.up (L:=λ k j (a:List Nod×Bool×Bool)=>Bf k (i:Int) s rc ps a.2.1 a.2.2 j (wN w a.1) f) (Q:=λ r=>r=((i:Int),s,(puN w i s rc).2.1,(puN w i s rc).2.2,wN w (puN w i s rc).1)) ps.length (λ j a=>a=run (pst (i:Int) s f rc ps) j (w.2.2.1,false,true)) ?_ ?_ 0 (w.2.2.1,false,true) (Nat.zero_le _) rfl
   ·rintro a rfl
    simp (disch:=omega) only [Bf,dF]
    exact Tot.pure (by rw [hrun])
   ·rintro j a hj rfl next
    obtain ⟨i1,i2⟩:=inv j (by omega)
    rw [Pn] at next
    generalize run (pst (i:Int) s f rc ps) j (w.2.2.1,false,true)=a at *
    obtain ⟨ns,o,g⟩:=a
    dsimp only at i1 i2
    have hci:=hc _ (A4 (d:=0) hj)
    obtain ⟨m,em⟩:∃ m:Nat,ps.getD j 0=(m:Int):=⟨(ps.getD j 0).toNat,by omega⟩
    rw [em] at hci
    unfold pst at next
    rw [em,Int.toNat_natCast] at next
    have e0:ns.getD m ((0:Int),(([],[]),([],[])))=ns.getD m Cy:=rfl
    simp (disch:=omega) only [Bf,dT,Int.toNat_natCast,w64,em,wN]
    cases hz:(m:Int)==(i:Int) with
    |true=>
     rw [hz] at next
     exact Tot.yes rfl (next _ rfl)
    |false=>
     rw [hz] at next
     refine Tot.no rfl ?_
     simp only [Dka,Option.bind_some]
     cases h1:rch rc j != 1 with
     |true=>
      rw [h1] at next
      exact Tot.yes rfl (next _ rfl)
     |false=>
      rw [h1] at next
      refine Tot.no rfl ?_
      simp (disch:=omega) only [dT,Int.toNat_natCast,e0]
      have hm:=Y6 (i1.get (i:=m) (by omega))
      refine Tot.bind (Laa (ns.getD m Cy).2.1 s f true hm.1.1 hm.1.2.1 (Jj hs)) ?_
      rintro q rfl
      dsimp only at next
      generalize keep (ns.getD m Cy).2.1 s f true=q at *
      cases h2:q.2 != 0 with
      |false=>rw [h2] at next; exact Tot.no rfl (next _ rfl)
      |true=>
       rw [h2] at next
       refine Tot.yes rfl ?_
       cases h3:q.2 != 1 with
       |true=>rw [h3] at next; exact Tot.yes rfl (next _ rfl)
       |false=>rw [h3] at next; exact Tot.no rfl (next _ rfl)
  ·rintro r rfl
   dsimp only [wN]
   generalize puN w i s rc=a at *
   obtain ⟨ns,o,g⟩:=a
   dsimp only at p1 p2 ⊢
   cases g with
   |false=>exact Tot.no rfl (Tot.pure rfl)
   |true=>
    refine Tot.yes rfl ?_
    cases o with
    |true=>exact Tot.no rfl (Tot.pure rfl)
    |false=>
     refine Tot.yes rfl ?_
     have e0:ns.getD i ((0:Int),(([],[]),([],[])))=ns.getD i Cy:=rfl
     have hil:(i:Int)<(ns.length:Int):=by omega
     simp (disch:=omega) only [dT,Int.toNat_natCast,e0]
     have hg:=(p1.get (i:=i) (by omega)).g
     refine Tot.bind (Rx hg.1 (Jj hs)) ?_
     rintro q rfl
     refine Tot.bind (T5 (Uwa hg).1 hs) ?_
     rintro q rfl
     exact Tot.pure rfl

def tk (n:Nod) (l:List Row):Bool×Nod:=bif decide ((W0 n.2.2.1 l).length > 60) then (false,n) else (true,(n.1,n.2.1,W0 n.2.2.1 l,n.2.2.2))
theorem D7b {n:Nod} {l:List Row} (hn:NG n) (hl:K5 l=true):NG (tk n l).2:=by
 obtain ⟨h1,h2,h3,h4,h5⟩:=Cl.1 hn.1
 unfold tk
 by_cases h:(W0 n.2.2.1 l).length > 60
 ·rw [decide_eq_true h]; exact hn
 ·rw [decide_eq_false h]
  exact ⟨Cl.2 ⟨h1,h2,h3,Y7 h4 hl (by omega),h5⟩,hn.2⟩
def gst (src:Int) (l:List Row) (self:Bool) (rc ls:List Int) (a:List Nod×Bool) (j:Nat):List Nod×Bool:=
 bif ls.getD j 0==src && !self then a else bif rch rc j != 1 then (a.1,false) else
  (a.1.set (ls.getD j 0).toNat (tk (a.1.getD (ls.getD j 0).toNat Cy) l).2,bif (tk (a.1.getD (ls.getD j 0).toNat Cy) l).1 then a.2 else false)
def Oe (w:Wld) (src:Int) (l:List Row) (self:Bool) (rc:List Int):List Nod×Bool:=run (gst src l self rc (Ku w)) (Ku w).length (w.2.2.1,true)
theorem Xea {src:Int} {l:List Row} {self:Bool} {rc ls:List Int} {a:List Nod×Bool} {j m:Nat} (hl:K5 l=true) (h:NS a.1∧a.1.length=m) (hc:(ls.getD j 0).toNat<m):NS (gst src l self rc ls a j).1∧(gst src l self rc ls a j).1.length=m:=by
 unfold gst
 cases ls.getD j 0==src && !self with
 |true=>exact h
 |false=>
  cases rch rc j != 1 with
  |true=>exact h
  |false=>exact ⟨h.1.set (D7b (h.1.get (by have:=h.2; omega)) hl),by rw [cond_false,cond_false,List.length_set]; exact h.2⟩
theorem R8 {w:Wld} {x:Int} (h:x∈Ku w):0≤x∧x<(w.2.2.1.length:Int):=by
 obtain ⟨j,h1,_,rfl⟩:=Dja.1 h
 omega
theorem Z8 {w:Wld} (hr:RBd w.2.1) (hn:w.2.2.1.length≤2000000):(Ku w).length≤4000000000000:=O7 hn (W8 hr _)
theorem Lxa {w:Wld} {src:Int} {l:List Row} {self:Bool} {rc:List Int} (hl:K5 l=true) (hn:NS w.2.2.1):NS (Oe w src l self rc).1∧(Oe w src l self rc).1.length=w.2.2.1.length:=
 Mq (λ _ (b:List Nod×Bool)=>NS b.1∧b.1.length=w.2.2.1.length) ⟨hn,rfl⟩ (λ j b hj hb=>Xea hl hb (by have:=R8 (A4 (d:=0) hj); omega))
theorem Lya (w:Wld) (src:Int) (l:List Row) (self:Bool) (rc:List Int) (hr:RBd w.2.1) (hn:NS w.2.2.1) (hl:K5 l=true):
  Tot (λ k=>Bl k w src l self rc) (λ r=>r=((Oe w src l self rc).2,wN w (Oe w src l self rc).1)):=by
 have hll:=(Iqa hl).1
 unfold Bl
 refine Tot.bind (Z6 w hr hn.1) ?_
 rintro p rfl
 have hpl:=Z8 hr hn.1
 have hc:=λ x=>R8 (w:=w) (x:=x)
 have hrun:Oe w src l self rc=run (gst src l self rc (Ku w)) (Ku w).length (w.2.2.1,true):=rfl
 have inv:∀ n,n≤(Ku w).length→NS (run (gst src l self rc (Ku w)) n (w.2.2.1,true)).1∧(run (gst src l self rc (Ku w)) n (w.2.2.1,true)).1.length=w.2.2.1.length:=λ n hn'=>
  Mq (λ _ (b:List Nod×Bool)=>NS b.1∧b.1.length=w.2.2.1.length) ⟨hn,rfl⟩ (λ j b hj hb=>Xea hl hb (by have:=hc _ (A4 (d:=0) (show j<(Ku w).length by omega)); omega))
 generalize Ku w=ls at *
 refine Tot.bind (Q:=λ r=>r=((Oe w src l self rc).2,wN w (Oe w src l self rc).1)) ?_ (by rintro r rfl; exact Tot.pure rfl)
 refine Tot.up (L:=λ k j (a:List Nod×Bool)=>Ah k src l self rc ls a.2 j (wN w a.1)) (Q:=λ r=>r=((Oe w src l self rc).2,wN w (Oe w src l self rc).1)) ls.length (λ j a=>a=run (gst src l self rc ls) j (w.2.2.1,true)) ?_ ?_ 0 (w.2.2.1,true) (Nat.zero_le _) rfl
 ·rintro a rfl
  simp (disch:=omega) only [Ah,dF]
  exact Tot.pure (by rw [hrun])
 ·rintro j a hj rfl next
  obtain ⟨i1,i2⟩:=inv j (by omega)
  rw [Pn] at next
  generalize run (gst src l self rc ls) j (w.2.2.1,true)=a at *
  obtain ⟨ns,g⟩:=a
  dsimp only at i1 i2
  have hci:=hc _ (A4 (d:=0) hj)
  obtain ⟨m,em⟩:∃ m:Nat,ls.getD j 0=(m:Int):=⟨(ls.getD j 0).toNat,by omega⟩
  rw [em] at hci
  unfold gst at next
  rw [em,Int.toNat_natCast] at next
  have e0:ns.getD m ((0:Int),(([],[]),([],[])))=ns.getD m Cy:=rfl
  have hm:=Y6 (i1.get (i:=m) (by omega))
  have h12:=Bra (ns.getD m Cy) l hm.2.1.1 hll
  rw [show (bif decide ((W0 (ns.getD m Cy).2.2.1 l).length > 60) then (false,(ns.getD m Cy)) else (true,((ns.getD m Cy).1,(ns.getD m Cy).2.1,W0 (ns.getD m Cy).2.2.1 l,(ns.getD m Cy).2.2.2)))=tk (ns.getD m Cy) l from rfl] at h12
  have body:(bif (m:Int)==src && !self then false else true)=true→Tot (λ k=>(B8 rc (j:Int)).bind λ r2=>cond (r2 != 1) (Ah k src l self rc ls false ((j:Int)+1) (wN w ns)) (cond (decide ((0:Int)≤(m:Int))) (cond (decide ((m:Int)<(List.length ns:Int))) ((He k (ns.getD m Cy) l).bind λ r5=>cond (!r5.1) (Ah k src l self rc ls false ((j:Int)+1) (wN w (ns.set m r5.2))) (Ah k src l self rc ls g ((j:Int)+1) (wN w (ns.set m r5.2)))) none) none)) (λ r=>r=((Oe w src l self rc).2,wN w (Oe w src l self rc).1)):=by
   intro hb
   have hb':((m:Int)==src && !self)=false:=by
    cases hx:((m:Int)==src && !self) with
    |false=>rfl
    |true=>rw [hx] at hb; cases hb
   rw [hb'] at next
   simp only [Dka,Option.bind_some]
   cases h1:rch rc j != 1 with
   |true=>
    rw [h1] at next
    exact Tot.yes rfl (next _ rfl)
   |false=>
    rw [h1] at next
    refine Tot.no rfl (Tot.dec (by omega) (Tot.dec (by omega) (Tot.bind h12 ?_)))
    rintro q rfl
    dsimp only at next
    generalize tk (ns.getD m Cy) l=q at *
    cases h2:q.1 with
    |false=>rw [h2] at next; exact Tot.yes rfl (next _ rfl)
    |true=>rw [h2] at next; exact Tot.no rfl (next _ rfl)
  simp (disch:=omega) only [Ah,dT,Int.toNat_natCast,w64,em,e0]
  cases hz:(m:Int)==src with
  |true=>
   rw [hz] at next body
   refine Tot.yes rfl ?_
   cases self with
   |false=>exact Tot.yes rfl (next _ rfl)
   |true=>
    refine Tot.no rfl ?_
    have:=body rfl
    dsimp only [wN] at this ⊢
    simp (disch:=omega) only [dT] at this
    exact this
  |false=>
   rw [hz] at next body
   refine Tot.no rfl ?_
   have:=body rfl
   dsimp only [wN] at this ⊢
   simp (disch:=omega) only [dT] at this
   exact this
theorem Nla {r:Row} (h:Ma r=true):K5 [r]=true:=Mi.2 ⟨List.pairwise_singleton _ _,λ x hx=>by rw [List.mem_singleton.1 hx]; exact h,by simp⟩
theorem Ub:K5 []=true:=Mi.2 ⟨List.Pairwise.nil,(λ _ hx=>nomatch hx),Nat.zero_le _⟩
def Sea (n:Nod):Nod:=(n.1,n.2.1,[],n.2.2.2)
def D8b (n:Nod) (q:List Row):Nod:=(n.1,n.2.1,n.2.2.1,q)
theorem Lza {n:Nod} (hn:NG n):NG (Sea n):=by
 obtain ⟨h1,h2,h3,h4,h5⟩:=Cl.1 hn.1
 exact ⟨Cl.2 ⟨h1,h2,h3,Ub,h5⟩,hn.2⟩
theorem Xfa {n:Nod} {q:List Row} (hn:NG n) (h:∀ r∈q,Ma r=true) (hl:q.length≤60):NG (D8b n q):=by
 obtain ⟨h1,h2,h3,h4,h5⟩:=Cl.1 hn.1
 exact ⟨Cl.2 ⟨h,h2,h3,h4,hl⟩,hn.2⟩
def Rb (w:Wld) (i:Nat) (rc:List Int):List Nod×Bool:=Oe w (i:Int) (w.2.2.1.getD i Cy).2.2.1 false rc
def J3a (w:Wld) (i:Nat) (rc:List Int):Bool×Wld:=bif ((w.2.2.1.getD i Cy).2.2.1.length:Int)==0 then (false,w) else
 (true,wN w (bif (Rb w i rc).2 && !(N7 (Ku (wN w (Rb w i rc).1)) (i:Int)) then (Rb w i rc).1.set i (Sea ((Rb w i rc).1.getD i Cy)) else (Rb w i rc).1))
theorem Sfa (w:Wld) (i:Nat) (rc:List Int) (hr:RBd w.2.1) (hn:NS w.2.2.1) (hi:i<w.2.2.1.length):Tot (λ k=>Ge k w (i:Int) rc) (λ r=>r=J3a w i rc):=by
 have hni:=hn.get hi
 have e0:w.2.2.1.getD i ((0:Int),(([],[]),([],[])))=w.2.2.1.getD i Cy:=rfl
 have hl:=(Cl.1 hni.1).2.2.2.1
 unfold Ge J3a
 simp (disch:=omega) only [dT,Int.toNat_natCast,e0]
 cases hz:((w.2.2.1.getD i Cy).2.2.1.length:Int)==0 with
 |true=>exact Tot.yes rfl (Tot.pure rfl)
 |false=>
  refine Tot.no rfl (Tot.bind (Lya w (i:Int) _ false rc hr hn hl) ?_)
  rintro r rfl
  obtain ⟨p1,p2⟩:=Lxa (w:=w) (src:=(i:Int)) (self:=false) (rc:=rc) hl hn
  rw [show Oe w (i:Int) (w.2.2.1.getD i Cy).2.2.1 false rc=Rb w i rc from rfl] at p1 p2 ⊢
  generalize Rb w i rc=a at *
  obtain ⟨ns,g⟩:=a
  dsimp only at p1 p2 ⊢
  cases g with
  |false=>exact Tot.no rfl (Tot.pure rfl)
  |true=>
   refine Tot.yes rfl ?_
   refine Tot.bind (Q:=λ r=>r=N7 (Ku (wN w ns)) (i:Int)) ?_ ?_
   ·unfold Il
    refine Tot.bind (Z6 (wN w ns) hr p1.1) ?_
    rintro p rfl
    refine Tot.bind (Ry _ _ (by have:=Z8 (w:=wN w ns) hr p1.1; omega)) ?_
    rintro b rfl
    exact Tot.pure rfl
   ·rintro b rfl
    cases N7 (Ku (wN w ns)) (i:Int) with
    |true=>exact Tot.no rfl (Tot.pure rfl)
    |false=>
     have e1:ns.getD i ((0:Int),(([],[]),([],[])))=ns.getD i Cy:=rfl
     refine Tot.yes rfl ?_
     simp (disch:=omega) only [dT,Int.toNat_natCast,e1]
     exact Tot.pure rfl
def S7 (w:Wld) (i:Nat) (rc:List Int):List Nod×Bool:=Oe w (i:Int) ((w.2.2.1.getD i Cy).2.2.2.take 1) true rc
def J4a (w:Wld) (i:Nat) (rc:List Int):Bool×Wld:=bif ((w.2.2.1.getD i Cy).2.2.2.length:Int)==0 then (false,w) else
 (true,wN w (bif (S7 w i rc).2 then (S7 w i rc).1.set i (D8b ((S7 w i rc).1.getD i Cy) ((w.2.2.1.getD i Cy).2.2.2.drop 1)) else (S7 w i rc).1))
theorem S8 {q:List Row} (h:∀ r∈q,Ma r=true):K5 (q.take 1)=true:=by
 cases q with
 |nil=>exact Ub
 |cons r q=>exact Nla (h r List.mem_cons_self)
theorem Sga (w:Wld) (i:Nat) (rc:List Int) (hr:RBd w.2.1) (hn:NS w.2.2.1) (hi:i<w.2.2.1.length):Tot (λ k=>Gf k w (i:Int) rc) (λ r=>r=J4a w i rc):=by
 have hni:=hn.get hi
 have e0:w.2.2.1.getD i ((0:Int),(([],[]),([],[])))=w.2.2.1.getD i Cy:=rfl
 obtain ⟨hq,_,_,_,hq60⟩:=Cl.1 hni.1
 have hl:=S8 hq
 unfold Gf J4a
 simp (disch:=omega) only [dT,Int.toNat_natCast,e0]
 cases hz:((w.2.2.1.getD i Cy).2.2.2.length:Int)==0 with
 |true=>exact Tot.yes rfl (Tot.pure rfl)
 |false=>
  have h1:=beq_eq_false_iff_ne.1 hz
  refine Tot.no rfl (Tot.dec (by omega) (Tot.bind (Lya w (i:Int) _ true rc hr hn hl) ?_))
  rintro r rfl
  obtain ⟨p1,p2⟩:=Lxa (w:=w) (src:=(i:Int)) (self:=true) (rc:=rc) hl hn
  rw [show Oe w (i:Int) ((w.2.2.1.getD i Cy).2.2.2.take (Int.toNat 1)) true rc=S7 w i rc from rfl]
  rw [show Oe w (i:Int) ((w.2.2.1.getD i Cy).2.2.2.take 1) true rc=S7 w i rc from rfl] at p1 p2
  generalize S7 w i rc=a at *
  obtain ⟨ns,g⟩:=a
  dsimp only at p1 p2 ⊢
  cases g with
  |false=>exact Tot.no rfl (Tot.pure rfl)
  |true=>
   refine Tot.yes rfl (Tot.dec (by omega) (Tot.ble (by rw [List.length_drop,List.length_nil]; omega) ?_))
   have e1:ns.getD i ((0:Int),(([],[]),([],[])))=ns.getD i Cy:=rfl
   simp (disch:=omega) only [dT,Int.toNat_natCast,e1,List.nil_append]
   exact Tot.pure rfl
theorem Sha:∀ (k:Nat) (l:List ByteArray) (s:ByteArray),k<l.length→∃ j,j≤k∧(Gua l k s).2=j∧(Gua l k s).1.set j s=l.take j++s::((l.take k).drop j++l.drop (k+1))∧(∀ y∈(l.take k).drop j,tlt s y=true)∧(0<j→tlt s (l.getD (j - 1) Og)=false)
 |0,l,s,hk=>by
  refine ⟨0,Nat.le_refl _,rfl,?_,λ y hy=>by simp at hy,λ h=>by omega⟩
  cases l with
  |nil=>simp at hk
  |cons x l=>rfl
 |k+1,l,s,hk=>by
  unfold Gua
  cases hc:tlt s (l.getD k Og) with
  |false=>
   rw [cond_false]
   refine ⟨k+1,Nat.le_refl _,rfl,?_,λ y hy=>?_,λ _=>hc⟩
   ·rw [List.drop_take,Nat.sub_self,List.take_zero,List.nil_append]
    exact List.set_eq_take_append_cons_drop .. |>.trans (if_pos hk)
   ·rw [List.drop_take,Nat.sub_self,List.take_zero] at hy; cases hy
  |true=>
   rw [cond_true]
   obtain ⟨j,h1,h2,h3,h4,h5⟩:=Sha k (l.set (k+1) (l.getD k Og)) s (by rw [List.length_set]; omega)
   have t1:(l.set (k+1) (l.getD k Og)).take j=l.take j:=by rw [List.take_set_of_le (by omega)]
   have t2:(l.set (k+1) (l.getD k Og)).take k=l.take k:=by rw [List.take_set_of_le (by omega)]
   have t3:(l.set (k+1) (l.getD k Og)).drop (k+1)=l.getD k Og::l.drop (k+2):=by
    rw [List.drop_eq_getElem_cons (by rw [List.length_set]; exact hk),List.getElem_set_self,List.drop_set_of_lt (by omega)]
   have t4:l.take (k+1)=l.take k++[l.getD k Og]:=by
    rw [List.take_succ_eq_append_getElem (by omega),List.getD_eq_getElem?_getD,List.getElem?_eq_getElem (by omega),Option.getD_some]
   have hlk:(l.take k).length=k:=by rw [List.length_take]; omega
   rw [t1,t2,t3] at h3
   rw [t2] at h4
   refine ⟨j,by omega,h2,?_,λ y hy=>?_,λ h=>?_⟩
   ·rw [h3,t4,List.drop_append_of_le_length (by omega),List.append_assoc]
    rfl
   ·rw [t4,List.drop_append_of_le_length (by omega)] at hy
    rcases List.mem_append.1 hy with hy|hy
    ·exact h4 y hy
    ·rw [List.mem_singleton.1 hy]; exact hc
   ·have:=h5 h
    rwa [List.getD_eq_getElem?_getD,List.getElem?_set_ne (by omega),← List.getD_eq_getElem?_getD] at this
theorem Bta {l:List ByteArray} {s:ByteArray}:∃ j,j≤l.length∧Xaa l s=l.take j++s::l.drop j∧(∀ y∈l.drop j,tlt s y=true)∧(0<j→tlt s (l.getD (j - 1) Og)=false):=by
 obtain ⟨j,h1,h2,h3,h4,h5⟩:=Sha l.length (l++[s]) s (by simp)
 have t1:(l++[s]).take l.length=l:=by rw [List.take_append_of_le_length (Nat.le_refl _),List.take_length]
 have t2:(l++[s]).drop (l.length+1)=[]:=List.drop_eq_nil_of_le (by simp)
 have t3:(l++[s]).take j=l.take j:=List.take_append_of_le_length h1
 rw [t1] at h4
 rw [t1,t2,t3,List.append_nil] at h3
 refine ⟨j,h1,?_,h4,λ h=>?_⟩
 ·unfold Xaa
  rw [h2,h3]
 ·have:=h5 h
  rwa [List.getD_eq_getElem?_getD,List.getElem?_append_left (by omega),← List.getD_eq_getElem?_getD] at this
def spl (l:List ByteArray) (s:ByteArray):List ByteArray:=bif Dra l s then l else Xaa l s
theorem Dma {l:List ByteArray} {s y:ByteArray}:y∈spl l s↔y=s∨y∈l:=by
 unfold spl
 cases h:Dra l s with
 |true=>
  have:=Lra.1 h
  exact ⟨.inr,λ h=>h.elim (λ e=>e ▸ this) id⟩
 |false=>
  obtain ⟨j,_,e,_⟩:=Bta (l:=l) (s:=s)
  rw [cond_false,e,List.mem_append,List.mem_cons]
  conv=>rhs; rw [← List.take_append_drop j l,List.mem_append]
  constructor
  ·rintro (h|h|h)
   ·exact .inr (.inl h)
   ·exact .inl h
   ·exact .inr (.inr h)
  ·rintro (h|h|h)
   ·exact .inr (.inl h)
   ·exact .inl h
   ·exact .inr (.inr h)
theorem Bua {l:List ByteArray} {s:ByteArray} (h:TS l):TS (spl l s):=by
 unfold spl
 cases hh:Dra l s with
 |true=>exact h
 |false=>
  have hn:s∉l:=λ c=>by rw [Lra.2 c] at hh; cases hh
  obtain ⟨j,h1,e,h4,h5⟩:=Bta (l:=l) (s:=s)
  rw [cond_false,e]
  have hs:∀ y∈l.take j,tlt y s=true:=by
   intro y hy
   by_cases hj:0<j
   ·have hlast:l.getD (j - 1) Og∈l:=A4 (by omega)
    have hlt:tlt (l.getD (j - 1) Og) s=true:=by
     cases hc:tlt (l.getD (j - 1) Og) s with
     |true=>rfl
     |false=>exact absurd (Xo hc (h5 hj) ▸ hlast) hn
    obtain ⟨i,hi,rfl⟩:=List.mem_iff_getElem.1 hy
    rw [List.length_take] at hi
    rw [List.getElem_take]
    by_cases hij:i=j - 1
    ·subst hij
     rwa [List.getD_eq_getElem?_getD,List.getElem?_eq_getElem (by omega),Option.getD_some] at hlt
    ·have:=List.pairwise_iff_getElem.1 h i (j - 1) (by omega) (by omega) (by omega)
     rw [List.getD_eq_getElem?_getD,List.getElem?_eq_getElem (by omega),Option.getD_some] at hlt
     exact M9 this hlt
   ·rw [show j=0 by omega,List.take_zero] at hy; cases hy
  have hd:TS (l.drop j):=h.sublist (List.drop_sublist _ _)
  have ht:TS (l.take j):=h.sublist (List.take_sublist _ _)
  exact List.pairwise_append.2 ⟨ht,List.pairwise_cons.2 ⟨h4,hd⟩,λ a ha b hb=>by
   rcases List.mem_cons.1 hb with rfl|hb
   ·exact hs a ha
   ·exact M9 (hs a ha) (h4 b hb)⟩
theorem Sia (l:List ByteArray) (s:ByteArray) (hl:l.length≤5000000):Tot (λ k=>D7 k l s) (λ r=>r=spl l s):=by
 unfold D7 spl
 refine Tot.bind (Lsa l s (by omega)) ?_
 rintro b rfl
 cases Dra l s with
 |true=>exact Tot.yes rfl (Tot.pure rfl)
 |false=>
  have loop:∀ (k:Nat) (x:List ByteArray),k<x.length→x.length≤5000001→Tot (λ n=>E6 n s x (k:Int)) (λ r=>r=(s,(Gua x k s).1,((Gua x k s).2:Int))):=by
   intro k
   induction k with
   |zero=>
    intro x hk hx
    refine Tot.succ ?_
    simp (disch:=omega) only [E6,dF]
    exact Tot.pure rfl
   |succ k ih=>
    intro x hk hx
    refine Tot.succ ?_
    have e1:((k+1:Nat):Int) - 1=(k:Int):=by omega
    have e0:x.getD k (⟨#[]⟩:ByteArray)=x.getD k Og:=rfl
    simp (disch:=omega) only [E6,dT,w64,e1,Int.toNat_natCast,e0,Kna]
    unfold Gua
    refine Tot.ite (λ h=>?_) (λ h=>?_)
    ·rw [h,cond_true]
     exact ih _ (by rw [List.length_set]; omega) (by rw [List.length_set]; omega)
    ·rw [h,cond_false]
     exact Tot.pure rfl
  have n0:([]:List ByteArray).length=0:=rfl
  have n1:([s]:List ByteArray).length=1:=rfl
  have nl:(l++[s]).length=l.length+1:=by simp
  refine Tot.no rfl (Tot.ble (by rw [n0]; omega) ?_)
  simp only [List.nil_append]
  refine Tot.ble (by rw [n1]; omega) ?_
  rw [nl,w64 (n:=((l.length+1:Nat):Int) - 1) (by omega) (by omega),show ((l.length+1:Nat):Int) - 1=(l.length:Int) by omega]
  refine Tot.bind (loop l.length (l++[s]) (by omega) (by omega)) ?_
  rintro r rfl
  obtain ⟨i1,i2,_⟩:=Z4 l.length (l++[s]) s
  simp (disch:=omega) only [dT,Int.toNat_natCast]
  exact Tot.pure rfl

abbrev Evt:=Int×Int×ByteArray×List Int×Int×List Int
def Cjb (e:Evt):Prop:=Jv e.2.2.1∧e.2.2.2.1.length≤1000000000∧(-9223372036854775808≤e.2.2.2.2.1∧e.2.2.2.2.1≤9223372036854775807)∧e.2.2.2.2.2.length≤4000000000000
def Gka (l:List Int):List Bool:=l.map (· == 1)
def crN (n:Nod) (kp:List Bool):Nod:=(n.1,S5 n.2.1 kp,n.2.2)
theorem C1b {n:Nod} {kp:List Bool} (hn:NG n):NG (crN n kp):=Dea hn (S0a hn.g)
def Aab (w:Wld) (i:Nat) (s:ByteArray) (b:Int):Bool×Wld:=bif (Lea (w.2.2.1.getD i Cy) s b).2 then (true,(w.1,w.2.1,w.2.2.1.set i (Lea (w.2.2.1.getD i Cy) s b).1,w.2.2.2.1,w.2.2.2.2.1,spl w.2.2.2.2.2 s)) else (false,w)
def Gla (w:Wld) (e:Evt) (i:Nat):Bool×Wld:=
 bif e.1==3 then J1a w i e.2.2.1 e.2.2.2.2.2 else bif e.1==4 then J3a w i e.2.2.2.2.2 else bif e.1==5 then J4a w i e.2.2.2.2.2 else
 bif e.1==6 then (true,wN w (w.2.2.1.set i (Dib (w.2.2.1.getD i Cy)).1)) else
 bif e.1==7 then (true,wN w (w.2.2.1.set i (crN (w.2.2.1.getD i Cy) (Gka e.2.2.2.2.2)))) else Aab w i e.2.2.1 e.2.2.2.2.1
theorem Sja (w:Wld) (e:Evt) (i:Nat) (hei:e.2.1=(i:Int)) (he:Cjb e) (hr:H3 w.2.1 w.1=true) (hn:NS w.2.2.1) (hi:i<w.2.2.1.length) (hsp:w.2.2.2.2.2.length≤2000000):
  Tot (λ k=>Au k w e) (λ r=>r=Gla w e i):=by
 have hni:=hn.get hi
 have e0:w.2.2.1.getD i ((0:Int),(([],[]),([],[])))=w.2.2.1.getD i Cy:=rfl
 obtain ⟨he1,he2,he3,he4⟩:=he
 unfold Au Gla
 cases e.1==3 with
 |true=>
  rw [hei]
  refine Tot.yes rfl (Tot.bind (Vpa w i _ _ hr hn hi) ?_)
  rintro r rfl
  exact Tot.pure rfl
 |false=>
  refine Tot.no rfl ?_
  cases e.1==4 with
  |true=>
   rw [hei]
   refine Tot.yes rfl (Tot.bind (Sfa w i _ (Mc hr) hn hi) ?_)
   rintro r rfl
   exact Tot.pure rfl
  |false=>
   refine Tot.no rfl ?_
   cases e.1==5 with
   |true=>
    rw [hei]
    refine Tot.yes rfl (Tot.bind (Sga w i _ (Mc hr) hn hi) ?_)
    rintro r rfl
    exact Tot.pure rfl
   |false=>
    refine Tot.no rfl ?_
    cases e.1==6 with
    |true=>
     refine Tot.yes rfl ?_
     simp (disch:=omega) only [hei,dT,Int.toNat_natCast,e0]
     refine Tot.bind (S4a _ hni.g) ?_
     rintro r rfl
     exact Tot.pure rfl
    |false=>
     refine Tot.no rfl ?_
     cases e.1==7 with
     |true=>
      refine Tot.yes rfl (Tot.bind (Q:=λ r=>r=(Gka e.2.2.2.2.2,w,e)) ?_ ?_)
      ·refine Tot.up (L:=λ k j (s:List Bool)=>Cn k s j w e) (Q:=λ r=>r=(Gka e.2.2.2.2.2,w,e)) e.2.2.2.2.2.length (λ j s=>s=Gka (e.2.2.2.2.2.take j)) ?_ ?_ 0 [] (Nat.zero_le _) rfl
       ·rintro s rfl
        simp (disch:=omega) only [Cn,dF]
        exact Tot.pure (by rw [List.take_length])
       ·rintro j s hj rfl next
        simp (disch:=omega) only [Cn,dT,Int.toNat_natCast,w64]
        have hk:(Gka (e.2.2.2.2.2.take j)).length=j:=by unfold Gka; rw [List.length_map,List.length_take]; omega
        refine Tot.ble (by rw [hk,List.length_singleton]; omega) (next _ ?_)
        unfold Gka
        rw [List.take_succ_eq_append_getElem hj,List.map_append,List.getD_eq_getElem?_getD,List.getElem?_eq_getElem hj]
        rfl
      ·rintro r rfl
       simp (disch:=omega) only [hei,dT,Int.toNat_natCast,e0]
       refine Tot.bind (S3a _ _ hni.g (by unfold Gka; rw [List.length_map]; exact he4)) ?_
       rintro r rfl
       exact Tot.pure rfl
     |false=>
      refine Tot.no rfl ?_
      simp (disch:=omega) only [hei,dT,Int.toNat_natCast,e0]
      refine Tot.bind (Y9 _ _ _ (Y6 hni) he3.2 he3.1) ?_
      rintro r rfl
      unfold Aab
      rw [cond_false,cond_false,cond_false,cond_false,cond_false]
      generalize Lea (w.2.2.1.getD i Cy) e.2.2.1 e.2.2.2.2.1=q
      cases h:q.2 with
      |true=>
       refine Tot.yes rfl (Tot.bind (Sia _ _ (by omega)) ?_)
       rintro r rfl
       exact Tot.pure rfl
      |false=>exact Tot.no rfl (Tot.pure rfl)
def J5a (w:Wld) (i wt:Int):Bool×Wld:=bif !(inR i 0 ((w.1.length:Int) - 1)) then (false,w) else bif !(inR wt 1 1000) then (false,w) else
 (decide ((Iva w.2.1 (wgt w.1 i.toNat wt)).2≥0),(wgt w.1 i.toNat wt,(Iva w.2.1 (wgt w.1 i.toNat wt)).1,w.2.2))
theorem Ska (w:Wld) (i wt:Int) (hr:H3 w.2.1 w.1=true):Tot (λ k=>Gl k w i wt) (λ r=>r=J5a w i wt):=by
 have h12:=(Ed.1 (Bg.1 hr).1).2.2.2
 unfold Gl J5a
 rw [w64 (n:=(w.1.length:Int) - 1) (by omega) (by omega)]
 simp only [N6,Option.bind_some]
 cases h1:inR i 0 ((w.1.length:Int) - 1) with
 |false=>exact Tot.yes rfl (Tot.pure rfl)
 |true=>
  refine Tot.no rfl ?_
  cases h2:inR wt 1 1000 with
  |false=>exact Tot.yes rfl (Tot.pure rfl)
  |true=>
   refine Tot.no rfl ?_
   obtain ⟨i0,i1⟩:=Dz.1 h1
   obtain ⟨w0,w1⟩:=Dz.1 h2
   simp (disch:=omega) only [dT]
   refine Tot.bind (Rxa (r:=w.2.1) (l:=wgt w.1 i.toNat wt) (Dba hr (by omega) w0 w1)) ?_
   rintro r rfl
   exact Tot.pure rfl
def Xga (r:Int×Wld):Bool×Wld:=bif r.1 != 2 then (r.1 != 3,r.2) else (false,r.2)
def doW (w:Wld) (e:Evt):Bool×Wld:=
 bif e.1==1 then Xga (ask w e.2.2.1 ((0,0,0),false,e.2.2.2.1) e.2.2.2.2.1 e.2.2.2.2.2) else
 bif e.1==2 then Xga (ask w e.2.2.1 ((0,0,0),true,[]) e.2.2.2.2.1 e.2.2.2.2.2) else
 bif e.1==3 || (e.1==4 || (e.1==5 || (e.1==6 || (e.1==7 || e.1==8)))) then (bif inR e.2.1 0 ((w.2.2.1.length:Int) - 1) then Gla w e e.2.1.toNat else (false,w)) else
 bif e.1==9 then J5a w e.2.1 e.2.2.2.2.1 else (false,w)
theorem C2b (w:Wld) (e:Evt) (he:Cjb e) (hr:H3 w.2.1 w.1=true) (hn:NS w.2.2.1) (hst:Ft w.2.2.2.1=true) (hw:w.2.2.2.2.1.length≤2000000) (hsp:w.2.2.2.2.2.length≤2000000):
  Tot (λ k=>I9 k w e) (λ r=>r=doW w e):=by
 have hnl:=hn.1
 have node:∀ {f:Nat→Option (Bool×Wld)} ,Tot (λ k=>(A8 e.2.1 0 (IntKind.wrap .i64 ((List.length w.2.2.1:Int) - 1))).bind λ r4=>cond r4 ((Au k w e).bind λ r5=>some (r5.1,r5.2)) (some (false,w))) (λ r=>r=bif inR e.2.1 0 ((w.2.2.1.length:Int) - 1) then Gla w e e.2.1.toNat else (false,w)):=by
  intro f
  rw [w64 (n:=(w.2.2.1.length:Int) - 1) (by omega) (by omega)]
  simp only [N6,Option.bind_some]
  cases h1:inR e.2.1 0 ((w.2.2.1.length:Int) - 1) with
  |false=>exact Tot.no rfl (Tot.pure rfl)
  |true=>
   obtain ⟨i0,i1⟩:=Dz.1 h1
   refine Tot.yes rfl (Tot.bind (Sja w e e.2.1.toNat (by omega) he hr hn (by omega) hsp) ?_)
   rintro r rfl
   exact Tot.pure rfl
 have answer:∀ (q:Int×Wld),Tot (λ _=>cond (q.1 != 2) (some (q.1 != 3,q.2)) (some (false,q.2))) (λ r=>r=Xga q):=by
  intro q
  unfold Xga
  cases q.1 != 2<;>exact Tot.pure rfl
 unfold I9 doW
 cases e.1==1 with
 |true=>
  refine Tot.yes rfl (Tot.ble (by have:=he.2.1; rw [List.length_nil]; omega) (Tot.bind (Sca w e.2.2.1 ((0,0,0),false,e.2.2.2.1) e.2.2.2.2.1 e.2.2.2.2.2 hr hn hst he.1 (λ h=>by cases h) hw) ?_))
  rintro q rfl
  exact answer _
 |false=>
  refine Tot.no rfl ?_
  cases e.1==2 with
  |true=>
   refine Tot.yes rfl (Tot.bind (Sca w e.2.2.1 ((0,0,0),true,[]) e.2.2.2.2.1 e.2.2.2.2.2 hr hn hst he.1 (λ _=>rfl) hw) ?_)
   rintro q rfl
   exact answer _
  |false=>
   refine Tot.no rfl ?_
   cases e.1==3 with
   |true=>exact Tot.yes rfl (node (f:=λ _=>none))
   |false=>
    refine Tot.no rfl ?_
    cases e.1==4 with
    |true=>exact Tot.yes rfl (node (f:=λ _=>none))
    |false=>
     refine Tot.no rfl ?_
     cases e.1==5 with
     |true=>exact Tot.yes rfl (node (f:=λ _=>none))
     |false=>
      refine Tot.no rfl ?_
      cases e.1==6 with
      |true=>exact Tot.yes rfl (node (f:=λ _=>none))
      |false=>
       refine Tot.no rfl ?_
       cases e.1==7 with
       |true=>exact Tot.yes rfl (node (f:=λ _=>none))
       |false=>
        refine Tot.no rfl ?_
        cases e.1==8 with
        |true=>exact Tot.yes rfl (node (f:=λ _=>none))
        |false=>
         refine Tot.no rfl ?_
         cases e.1==9 with
         |true=>
          refine Tot.yes rfl (Tot.bind (Ska w _ _ hr) ?_)
          rintro r rfl
          exact Tot.pure rfl
         |false=>exact Tot.no rfl (Tot.pure rfl)

end Go.Proofs.YtmhhjceoinoekaaGreat.Vf
