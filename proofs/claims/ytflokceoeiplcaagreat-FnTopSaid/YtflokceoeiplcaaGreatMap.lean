import Derived.Test.YtflokceoeiplcaaGreatMao
section
set_option linter.unusedVariables false
set_option linter.unusedSimpArgs false
namespace Go.Proofs.YtflokceoeiplcaaGreat.Vf
open Go
section
variable {R:Type} {L:Nat→Int→Option (Sum Bool R)}
theorem Qp (p:Nat→Bool) (n:Nat):(List.range (n+1)).all p=((List.range n).all p&&p n):=by
 rw [List.range_succ,List.all_append,List.all_cons,List.all_nil,Bool.and_true]
theorem Yz (p:Nat→Bool) (n:Nat):(List.range (n+1)).any p=((List.range n).any p || p n):=by
 rw [List.range_succ,List.any_append,List.any_cons,List.any_nil,Bool.or_false]
theorem Z0 {p:Nat→Bool} {m n:Nat} (h:m≤n) (hn:(List.range n).all p=true):(List.range m).all p=true:=by
 rw [List.all_eq_true] at hn ⊢
 exact fun x hx=>hn x (List.mem_range.2 (by have:=List.mem_range.1 hx; omega))
theorem Tot.allI (n:Nat) (p:Nat→Bool) (e:R) (hend:Tot (fun k=>L (k+1) (n:Int)) (fun r=>r = .inr e))
  (Hia:∀ j,j<n→∀ (Q:Sum Bool R→Prop),(p j=false→Q (.inl false))→(p j=true→Tot (fun k=>L k ((j:Int)+1)) Q)→Tot (fun k=>L (k+1) (j:Int)) Q):
  Tot (fun k=>L k 0) (fun r=>r=bif (List.range n).all p then .inr e else .inl false):=by
 refine Tot.up (L:=fun k i (_:Unit)=>L k i) (Q:=fun r=>r=bif (List.range n).all p then .inr e else .inl false) n (fun j _=>(List.range j).all p=true) ?_ ?_ 0 () (Nat.zero_le _) rfl
 ·intro _ h
  rw [h]
  exact hend
 ·intro j _ hj h next
  refine Hia j hj _ (fun hp=>?_) (fun hp=>next () (by rw [Qp,h,hp]; rfl))
  cases hc:(List.range n).all p with
  |false=>rfl
  |true=>
   have:=Z0 (show j+1≤n by omega) hc
   rw [Qp,hp,Bool.and_false] at this
   cases this
theorem Tot.anyI (n:Nat) (p:Nat→Bool) (e:R) (hend:Tot (fun k=>L (k+1) (n:Int)) (fun r=>r = .inr e))
  (Hia:∀ j,j<n→∀ (Q:Sum Bool R→Prop),(p j=true→Q (.inl true))→(p j=false→Tot (fun k=>L k ((j:Int)+1)) Q)→Tot (fun k=>L (k+1) (j:Int)) Q):
  Tot (fun k=>L k 0) (fun r=>r=bif (List.range n).any p then .inl true else .inr e):=by
 refine Tot.up (L:=fun k i (_:Unit)=>L k i) (Q:=fun r=>r=bif (List.range n).any p then .inl true else .inr e) n (fun j _=>(List.range j).any p=false) ?_ ?_ 0 () (Nat.zero_le _) rfl
 ·intro _ h
  rw [h]
  exact hend
 ·intro j _ hj h next
  refine Hia j hj _ (fun hp=>?_) (fun hp=>next () (by rw [Yz,h,hp]; rfl))
  rw [List.any_eq_true.2 ⟨j,List.mem_range.2 hj,hp⟩]
  rfl
end
theorem M9 {α:Type} (l:List α) (d:α) (p:α→Bool):l.all p=(List.range l.length).all fun j=>p (l.getD j d):=by
 rw [Bool.eq_iff_iff,List.all_eq_true,List.all_eq_true]
 constructor
 ·intro h j hj
  exact h _ (A3 (List.mem_range.1 hj))
 ·intro h x hx
  obtain ⟨j,hj,rfl⟩:=List.mem_iff_getElem.1 hx
  have:=h j (List.mem_range.2 hj)
  rwa [List.getD_eq_getElem?_getD,List.getElem?_eq_getElem hj,Option.getD_some] at this
theorem Pt {α:Type} (l:List α) (d:α) (p:α→Bool):l.any p=(List.range l.length).any fun j=>p (l.getD j d):=by
 rw [Bool.eq_iff_iff,List.any_eq_true,List.any_eq_true]
 constructor
 ·rintro ⟨x,hx,h⟩
  obtain ⟨j,hj,rfl⟩:=List.mem_iff_getElem.1 hx
  exact ⟨j,List.mem_range.2 hj,by rwa [List.getD_eq_getElem?_getD,List.getElem?_eq_getElem hj,Option.getD_some]⟩
 ·rintro ⟨j,hj,h⟩
  exact ⟨_,A3 (List.mem_range.1 hj),h⟩
abbrev Wri:=ByteArray×Fil×Bool
abbrev Wld:=List Dev×Rng×List Nod×Stp×List Wri×List ByteArray
def Sf:Wri:=((⟨#[]⟩:ByteArray),((((0:Int),((0:Int),(0:Int))),(false,[])),false))
def Sg (l:List ByteArray):Bool:=(List.range l.length).all fun j=>Ce (l.getD j Na)&&(decide (j=0) || tlt (l.getD (j - 1) Na) (l.getD j Na))
def Eua (c:Stp) (w:Wri):Bool:=Ce w.1&&(H3 w.2.1 && !(sle c w.2.1.1))
def Vba (c:Stp) (l:List Wri):Bool:=l.all (Eua c)&&decide ((l.length:Int)≤200)
def Qq (l:List Dev) (ns:List Nod):Bool:=((ns.length:Int)==(l.length:Int))&&(List.range ns.length).all fun j=>((ns.getD j Ch).1==(l.getD j Lt).1)&&Nc (ns.getD j Ch)
def Cba (w:Wld):Bool:=Hu w.2.1 w.1&&(Qq w.1 w.2.2.1&&(Gk w.2.2.2.1&&(Vba w.2.2.2.1 w.2.2.2.2.1&&Sg w.2.2.2.2.2)))
def WIn (w:Wld):Prop:=RBd w.2.1∧w.1.length≤1000∧(w.2.2.1.length≤1000∧∀ n∈w.2.2.1,NIn n)∧(w.2.2.2.2.1.length≤1000∧∀ x∈w.2.2.2.2.1,Ky x.1)∧(w.2.2.2.2.2.length≤1000∧∀ s∈w.2.2.2.2.2,Ky s)
theorem Tpa (w:Wld) (hw:WIn w):Tot (fun k=>Cl k w) (fun r=>r=Vba w.2.2.2.1 w.2.2.2.2.1):=by
 obtain ⟨_,_,_,⟨h1,h2⟩,_⟩:=hw
 unfold Cl Vba
 refine Tot.bind (Q:=fun r=>r=bif w.2.2.2.2.1.all (Eua w.2.2.2.1) then .inr w else .inl false) ?_ (by
  rintro r rfl
  cases w.2.2.2.2.1.all (Eua w.2.2.2.1)<;>exact Tot.pure rfl)
 rw [M9 _ Sf]
 refine Tot.allI (L:=fun k i=>Dq k w.2.2.2.2.1 (w.2.2.2.2.1.length:Int) i w) _ _ w ?_ ?_
 ·simp (disch:=omega) only [Dq,dF]
  exact Tot.pure rfl
 ·intro j hj Q no yes
  have hs:=h2 _ (A3 (d:=Sf) hj)
  obtain ⟨x,ex⟩:∃ x:Wri,w.2.2.2.2.1.getD j Sf=x:=⟨_,rfl⟩
  rw [ex] at hs
  simp only [ex] at no yes
  have e0:w.2.2.2.2.1.getD j ((⟨#[]⟩:ByteArray),((((0:Int),((0:Int),(0:Int))),(false,[])),false))=x:=ex
  simp (disch:=omega) only [Dq,dT,Int.toNat_natCast,w64,e0,Jna,Bta,Option.bind_some]
  unfold Eua at no yes
  refine Tot.bind (Uc x.1 hs) ?_
  rintro b rfl
  refine Tot.ite (fun hc=>Tot.pure (no ?_)) (fun h3=>Tot.ite (fun hc=>Tot.pure (no ?_)) (fun h4=>Tot.ite (fun hc=>Tot.pure (no ?_)) (fun h5=>yes ?_)))
  ·rw [Bool.not_eq_true'] at hc; rw [hc]; rfl
  ·rw [Bool.not_eq_true'] at hc; rw [hc,Bool.false_and,Bool.and_false]
  ·rw [hc,Bool.not_true,Bool.and_false,Bool.and_false]
  ·rw [Bool.not_eq_false'] at h3 h4; rw [h3,h4,h5]; rfl
theorem Eva (w:Wld) (hw:WIn w):Tot (fun k=>C6 k w.2.2.2.2.2 (w.2.2.2.2.2.length:Int) 0 w) (fun r=>r=bif Sg w.2.2.2.2.2 then .inr () else .inl false):=by
 obtain ⟨_,_,_,_,h1,h2⟩:=hw
 unfold Sg
 refine Tot.allI (L:=fun k i=>C6 k w.2.2.2.2.2 (w.2.2.2.2.2.length:Int) i w) _ _ () ?_ ?_
 ·simp (disch:=omega) only [C6,dF]
  exact Tot.pure rfl
 ·intro j hj Q no yes
  have hs:=h2 _ (A3 (d:=Na) hj)
  have e0:∀ i,w.2.2.2.2.2.getD i (⟨#[]⟩:ByteArray)=w.2.2.2.2.2.getD i Na:=fun _=>rfl
  simp (disch:=omega) only [C6,dT,Int.toNat_natCast,w64,e0]
  refine Tot.bind (Uc _ hs) ?_
  rintro b rfl
  refine Tot.ite (fun hc=>Tot.pure (no ?_)) (fun h3=>Tot.dite (fun h0=>?_) (fun h0=>yes ?_))
  ·rw [Bool.not_eq_true'] at hc; rw [hc]; rfl
  ·simp (disch:=omega) only [dT,w64,show Int.toNat ((j:Int) - 1)=j - 1 by omega]
   rw [Bool.not_eq_false'] at h3
   rw [h3,decide_eq_false (show ¬ j=0 by omega),Bool.false_or,Bool.true_and] at no yes
   refine Tot.ite (fun hc=>Tot.pure (no ?_)) (fun h4=>yes ?_)
   ·rw [Bool.not_eq_true'] at hc; exact hc
   ·rw [Bool.not_eq_false'] at h4; exact h4
  ·rw [Bool.not_eq_false'] at h3
   rw [h3,decide_eq_true (show j=0 by omega)]
   rfl
theorem Ewa (w:Wld) (hw:WIn w):Tot (fun k=>C7 k 0 w) (fun r=>r=bif Sg w.2.2.2.2.2 then .inr () else .inl false):=by
 obtain ⟨_,_,_,_,h1,h2⟩:=hw
 unfold Sg
 refine Tot.allI (L:=fun k i=>C7 k i w) _ _ () ?_ ?_
 ·simp (disch:=omega) only [C7,dF]
  exact Tot.pure rfl
 ·intro j hj Q no yes
  have hs:=h2 _ (A3 (d:=Na) hj)
  have e0:∀ i,w.2.2.2.2.2.getD i (⟨#[]⟩:ByteArray)=w.2.2.2.2.2.getD i Na:=fun _=>rfl
  simp (disch:=omega) only [C7,dT,Int.toNat_natCast,w64,e0]
  refine Tot.bind (Oi _ hs) ?_
  rintro b rfl
  refine Tot.ite (fun hc=>Tot.pure (no ?_)) (fun h3=>Tot.dite (fun h0=>?_) (fun h0=>yes ?_))
  ·rw [Bool.not_eq_true'] at hc; rw [hc]; rfl
  ·simp (disch:=omega) only [dT,w64,show Int.toNat ((j:Int) - 1)=j - 1 by omega]
   rw [Bool.not_eq_false'] at h3
   rw [h3,decide_eq_false (show ¬ j=0 by omega),Bool.false_or,Bool.true_and] at no yes
   refine Tot.ite (fun hc=>Tot.pure (no ?_)) (fun h4=>yes ?_)
   ·rw [Bool.not_eq_true'] at hc; exact hc
   ·rw [Bool.not_eq_false'] at h4; exact h4
  ·rw [Bool.not_eq_false'] at h3
   rw [h3,decide_eq_true (show j=0 by omega)]
   rfl
theorem Hja (w:Wld) (hw:WIn w) (hl:w.2.2.1.length=w.1.length):Tot (fun k=>Ds k w.2.2.1 (w.2.2.1.length:Int) 0 w) (fun r=>r=bif Qq w.1 w.2.2.1 then .inr w else .inl false):=by
 obtain ⟨_,_,⟨h1,h2⟩,_⟩:=hw
 unfold Qq
 rw [show ((w.2.2.1.length:Int)==(w.1.length:Int))=true by rw [beq_iff_eq]; omega,Bool.true_and]
 refine Tot.allI (L:=fun k i=>Ds k w.2.2.1 (w.2.2.1.length:Int) i w) _ _ w ?_ ?_
 ·simp (disch:=omega) only [Ds,dF]
  exact Tot.pure rfl
 ·intro j hj Q no yes
  have hs:=h2 _ (A3 (d:=Ch) hj)
  obtain ⟨x,ex⟩:∃ x:Nod,w.2.2.1.getD j Ch=x:=⟨_,rfl⟩
  rw [ex] at hs no yes
  have e0:w.2.2.1.getD j ((0:Int),(([],[]),([],[])))=x:=ex
  have e1:w.1.getD j ((0:Int),((0:Int),(0:Int)))=w.1.getD j Lt:=rfl
  simp (disch:=omega) only [Ds,dT,Int.toNat_natCast,w64,e0,e1]
  refine Tot.ite (fun hc=>Tot.pure (no ?_)) (fun h3=>Tot.bind (T2a x hs) ?_)
  ·rw [bne,Bool.not_eq_true'] at hc; rw [hc]; rfl
  ·rw [bne,Bool.not_eq_false'] at h3
   rw [h3,Bool.true_and] at no yes
   rintro b rfl
   refine Tot.ite (fun hc=>Tot.pure (no ?_)) (fun h4=>yes ?_)
   ·rw [Bool.not_eq_true'] at hc; exact hc
   ·rw [Bool.not_eq_false'] at h4; exact h4
theorem Tqa (w:Wld) (hw:WIn w):Tot (fun k=>Cm k w) (fun r=>r=Qq w.1 w.2.2.1):=by
 obtain ⟨_,_,⟨h1,h2⟩,_⟩:=hw
 unfold Qq Cm
 refine Tot.ite (fun hc=>Tot.pure ?_) (fun hl=>?_)
 ·rw [bne,Bool.not_eq_true'] at hc
  rw [hc]; rfl
 ·rw [bne,Bool.not_eq_false'] at hl
  rw [hl,Bool.true_and]
  rw [beq_iff_eq] at hl
  refine Tot.bind (Q:=fun r=>r=bif (List.range w.2.2.1.length).all (fun j=>((w.2.2.1.getD j Ch).1==(w.1.getD j Lt).1)&&Nc (w.2.2.1.getD j Ch)) then .inr () else .inl false) ?_ (by
   rintro r rfl
   cases (List.range w.2.2.1.length).all (fun j=>((w.2.2.1.getD j Ch).1==(w.1.getD j Lt).1)&&Nc (w.2.2.1.getD j Ch))<;>exact Tot.pure rfl)
  refine Tot.allI (L:=fun k i=>Dt k i w) _ _ () ?_ ?_
  ·simp (disch:=omega) only [Dt,dF]
   exact Tot.pure rfl
  ·intro j hj Q no yes
   have hs:=h2 _ (A3 (d:=Ch) hj)
   obtain ⟨x,ex⟩:∃ x:Nod,w.2.2.1.getD j Ch=x:=⟨_,rfl⟩
   rw [ex] at hs no yes
   have e0:w.2.2.1.getD j ((0:Int),(([],[]),([],[])))=x:=ex
   have e1:w.1.getD j ((0:Int),((0:Int),(0:Int)))=w.1.getD j Lt:=rfl
   simp (disch:=omega) only [Dt,dT,Int.toNat_natCast,w64,e0,e1]
   refine Tot.ite (fun hc=>Tot.pure (no ?_)) (fun h3=>Tot.bind (Jsa x hs) ?_)
   ·rw [bne,Bool.not_eq_true'] at hc; rw [hc]; rfl
   ·rw [bne,Bool.not_eq_false'] at h3
    rw [h3,Bool.true_and] at no yes
    rintro b rfl
    refine Tot.ite (fun hc=>Tot.pure (no ?_)) (fun h4=>yes ?_)
    ·rw [Bool.not_eq_true'] at hc; exact hc
    ·rw [Bool.not_eq_false'] at h4; exact h4
theorem Exa (w:Wld) (hw:WIn w):Tot (fun k=>Bi k w) (fun r=>r=Cba w):=by
 unfold Bi Cba
 refine Tot.bind (T6a w.2.1 w.1 hw.1 (by have:=hw.2.1; omega)) ?_
 rintro b rfl
 cases hr:Hu w.2.1 w.1 with
 |false=>exact Tot.yes rfl (Tot.pure rfl)
 |true=>
  refine Tot.no rfl ?_
  rw [Bool.true_and]
  by_cases hl:w.2.2.1.length=w.1.length
  ·refine Tot.no (by rw [bne,hl,beq_self_eq_true]; rfl) ?_
   simp only [Ww,Option.bind_some]
   cases hs:Gk w.2.2.2.1 with
   |false=>exact Tot.yes rfl (Tot.pure (by rw [Bool.false_and,Bool.and_false]))
   |true=>
    refine Tot.no rfl (Tot.bind (Tpa w hw) ?_)
    rintro b rfl
    cases hws:Vba w.2.2.2.1 w.2.2.2.2.1 with
    |false=>exact Tot.yes rfl (Tot.pure (by rw [Bool.false_and,Bool.and_false,Bool.and_false]))
    |true=>
     refine Tot.no rfl (Tot.bind (Hja w hw hl) ?_)
     rintro b rfl
     cases Qq w.1 w.2.2.1 with
     |false=>exact Tot.pure rfl
     |true=>
      refine Tot.bind (Eva w hw) ?_
      rintro b rfl
      cases Sg w.2.2.2.2.2<;>exact Tot.pure rfl
  ·have hn:((w.2.2.1.length:Int)==(w.1.length:Int))=false:=by rw [beq_eq_false_iff_ne]; omega
   refine Tot.yes (by rw [bne,hn]; rfl) (Tot.pure ?_)
   unfold Qq
   rw [hn]
   rfl
theorem Q5a (w:Wld) (hw:WIn w):Tot (fun k=>Ci k w) (fun r=>r=Cba w):=by
 have hw':=hw
 obtain ⟨_,_,_,⟨h1,h2⟩,_⟩:=hw'
 unfold Ci Cba
 refine Tot.bind (T7a w.2.1 w.1 hw.1 (by have:=hw.2.1; omega)) ?_
 rintro b rfl
 cases hr:Hu w.2.1 w.1 with
 |false=>exact Tot.yes rfl (Tot.pure rfl)
 |true=>
  refine Tot.no rfl (Tot.bind (Tqa w hw) ?_)
  rintro b rfl
  rw [Bool.true_and]
  cases hn:Qq w.1 w.2.2.1 with
  |false=>exact Tot.yes rfl (Tot.pure rfl)
  |true=>
   refine Tot.no rfl ?_
   simp only [S6,Option.bind_some]
   cases hs:Gk w.2.2.2.1 with
   |false=>exact Tot.yes rfl (Tot.pure rfl)
   |true=>
    refine Tot.no rfl ?_
    by_cases hl:(w.2.2.2.2.1.length:Int) > 200
    ·refine Tot.dec hl (Tot.pure ?_)
     unfold Vba
     rw [decide_eq_false (show ¬ (w.2.2.2.2.1.length:Int)≤200 by omega),Bool.and_false]
     rfl
    ·refine Tot.ndec hl (Tot.bind (Q:=fun r=>r=bif w.2.2.2.2.1.all (Eua w.2.2.2.1) then .inr w else .inl false) ?_ ?_)
     ·rw [M9 _ Sf]
      refine Tot.allI (L:=fun k i=>Ev k i w) _ _ w ?_ ?_
      ·simp (disch:=omega) only [Ev,dF]
       exact Tot.pure rfl
      ·intro j hj Q no yes
       have hs:=h2 _ (A3 (d:=Sf) hj)
       obtain ⟨x,ex⟩:∃ x:Wri,w.2.2.2.2.1.getD j Sf=x:=⟨_,rfl⟩
       rw [ex] at hs
       simp only [ex] at no yes
       have e0:w.2.2.2.2.1.getD j ((⟨#[]⟩:ByteArray),((((0:Int),((0:Int),(0:Int))),(false,[])),false))=x:=ex
       simp (disch:=omega) only [Ev,dT,Int.toNat_natCast,w64,e0,Ue,Ub,Option.bind_some]
       unfold Eua at no yes
       refine Tot.bind (Oi x.1 hs) ?_
       rintro b rfl
       refine Tot.ite (fun hc=>Tot.pure (no ?_)) (fun h3=>Tot.ite (fun hc=>Tot.pure (no ?_)) (fun h4=>Tot.ite (fun hc=>Tot.pure (no ?_)) (fun h5=>yes ?_)))
       ·rw [Bool.not_eq_true'] at hc; rw [hc]; rfl
       ·rw [Bool.not_eq_true'] at hc; rw [hc,Bool.false_and,Bool.and_false]
       ·rw [hc,Bool.not_true,Bool.and_false,Bool.and_false]
       ·rw [Bool.not_eq_false'] at h3 h4; rw [h3,h4,h5]; rfl
     ·rintro b rfl
      unfold Vba
      rw [decide_eq_true (show (w.2.2.2.2.1.length:Int)≤200 by omega),Bool.and_true]
      cases w.2.2.2.2.1.all (Eua w.2.2.2.1) with
      |false=>exact Tot.pure rfl
      |true=>
       refine Tot.bind (Ewa w hw) ?_
       rintro b rfl
       cases Sg w.2.2.2.2.2<;>exact Tot.pure rfl
end Go.Proofs.YtflokceoeiplcaaGreat.Vf
end

section
set_option linter.unusedVariables false
set_option linter.unusedSimpArgs false
namespace Go.Proofs.YtflokceoeiplcaaGreat.Vf
open Go
def atN:List Nod→Int→Nat→List Int
 |[],_,_=>[]
 |n::ns,id,i=>bif n.1==id then (i:Int)::atN ns id (i+1) else atN ns id (i+1)
theorem K5a (n:Nod) (ns:List Nod) (id:Int) (i:Nat):atN (n::ns) id i=bif n.1==id then (i:Int)::atN ns id (i+1) else atN ns id (i+1):=rfl
def whr (ns:List Nod) (ids:List Int):List Int:=ids.flatMap fun id=>atN ns id 0
theorem Hka (id:Int):∀ (ns:List Nod) (i:Nat),(atN ns id i).length≤ns.length
 |[],_=>Nat.le_refl _
 |n::ns,i=>by
  unfold atN
  have:=Hka id ns (i+1)
  cases n.1==id
  ·rw [cond_false,List.length_cons]; omega
  ·rw [cond_true,List.length_cons,List.length_cons]; omega
theorem Q6a (ns:List Nod):∀ (ids:List Int),(whr ns ids).length≤ids.length * ns.length
 |[]=>Nat.zero_le _
 |id::ids=>by
  have h1:=Hka id ns 0
  have h2:=Q6a ns ids
  unfold whr at h2 ⊢
  rw [List.flatMap_cons,List.length_append,List.length_cons,Nat.succ_mul]
  omega
theorem Qf {ns:List Nod} {ids:List Int} (h1:ns.length≤1000) (h2:ids.length≤1000):(whr ns ids).length≤1000000:=
 Nat.le_trans (Q6a ns ids) (Nat.mul_le_mul h2 h1)
theorem Tra (ns:List Nod) (id:Int) (ids:List Int):whr ns (id::ids)=atN ns id 0++whr ns ids:=List.flatMap_cons
theorem Xia (ns:List Nod) (a b:List Int):whr ns (a++b)=whr ns a++whr ns b:=List.flatMap_append
theorem Cca (w:Wld) (ids:List Int) (n:Nat) (hn:n<ids.length) (out:List Int) (h1:w.2.2.1.length≤1000) (ho:out.length≤1000000):
  Tot (fun k=>Bj k ids out (n:Int) 0 w) (fun r=>r=(ids,out++atN w.2.2.1 (ids.getD n 0) 0,(n:Int),w)):=by
 have m1:=Hka (ids.getD n 0) w.2.2.1 0
 refine Tot.up (L:=fun k i (s:List Int)=>Bj k ids s (n:Int) i w) (Q:=fun r=>r=(ids,out++atN w.2.2.1 (ids.getD n 0) 0,(n:Int),w)) w.2.2.1.length (fun j s=>s++atN (w.2.2.1.drop j) (ids.getD n 0) j=out++atN w.2.2.1 (ids.getD n 0) 0) ?_ ?_ 0 out (Nat.zero_le _) rfl
 ·intro s h
  rw [List.drop_length] at h
  simp (disch:=omega) only [Bj,dF]
  refine Tot.pure ?_
  rw [← h]
  show _=(ids,s++[],(n:Int),w)
  rw [List.append_nil]
 ·intro j s hj h next
  have g:=congrArg List.length h
  rw [List.length_append,List.length_append] at g
  rw [Am (d:=Ch) hj,K5a] at h
  obtain ⟨x,ex⟩:∃ x:Nod,w.2.2.1.getD j Ch=x:=⟨_,rfl⟩
  rw [ex] at h
  have e0:w.2.2.1.getD j ((0:Int),(([],[]),([],[])))=x:=ex
  simp (disch:=omega) only [Bj,dT,Int.toNat_natCast,w64,e0]
  cases hx:x.1==ids.getD n 0 with
  |true=>
   rw [hx,cond_true] at h
   refine Tot.yes rfl (Tot.ble (by simp only [List.length_cons,List.length_nil]; omega) (next (s++[(j:Int)]) ?_))
   rw [← h,List.append_assoc]
   rfl
  |false=>
   rw [hx,cond_false] at h
   refine Tot.no rfl (next s h)
theorem Qg (w:Wld) (ids:List Int) (h1:w.2.2.1.length≤1000) (h2:ids.length≤1000):Tot (fun k=>Ay k w ids) (fun r=>r=whr w.2.2.1 ids):=by
 have m1:=Qf h1 h2
 unfold Ay
 refine Tot.bind (Q:=fun r=>r=whr w.2.2.1 ids) ?_ (by rintro r rfl; exact Tot.pure rfl)
 refine Tot.up (L:=fun k i (s:List Int)=>Cq k ids s i w) (Q:=fun r=>r=whr w.2.2.1 ids) ids.length (fun j s=>s++whr w.2.2.1 (ids.drop j)=whr w.2.2.1 ids) ?_ ?_ 0 [] (Nat.zero_le _) rfl
 ·intro s h
  rw [List.drop_length] at h
  simp (disch:=omega) only [Cq,dF]
  refine Tot.pure ?_
  rw [← h]
  exact (List.append_nil s).symm
 ·intro j s hj h next
  have g:=congrArg List.length h
  rw [List.length_append] at g
  rw [Am (d:=0) hj,Tra] at h
  simp (disch:=omega) only [Cq,dT,Int.toNat_natCast,w64]
  refine Tot.bind (Cca w ids j hj s h1 (by omega)) ?_
  rintro r rfl
  simp (disch:=omega) only [w64]
  exact next _ (by rw [List.append_assoc]; exact h)
theorem Hla (id:Int):∀ (ns:List Nod) (i:Nat) (x:Int),x∈atN ns id i↔∃ j,j<ns.length∧(ns.getD j Ch).1=id∧x=((i+j:Nat):Int)
 |[],i,x=>by simp [atN]
 |n::ns,i,x=>by
  have ih:=Hla id ns (i+1) x
  have tl:(∃ j,j<(n::ns).length∧((n::ns).getD j Ch).1=id∧x=((i+j:Nat):Int))↔(n.1=id∧x=(i:Int))∨x∈atN ns id (i+1):=by
   rw [ih]
   constructor
   ·rintro ⟨j,h1,h2,h3⟩
    cases j with
    |zero=>exact .inl ⟨h2,by omega⟩
    |succ j=>exact .inr ⟨j,by simpa using h1,by simpa using h2,by omega⟩
   ·rintro (⟨h1,h2⟩|⟨j,h1,h2,h3⟩)
    ·exact ⟨0,by simp,h1,by omega⟩
    ·exact ⟨j+1,by simpa using h1,by simpa using h2,by omega⟩
  rw [tl,K5a]
  cases hx:n.1==id with
  |true=>
   rw [cond_true,List.mem_cons,eq_of_beq hx]
   simp
  |false=>
   rw [cond_false]
   have:=beq_eq_false_iff_ne.1 hx
   simp [this]
theorem Cda {ns:List Nod} {ids:List Int} {x:Int}:x∈whr ns ids↔∃ j,j<ns.length∧(ns.getD j Ch).1∈ids∧x=(j:Int):=by
 unfold whr
 rw [List.mem_flatMap]
 constructor
 ·rintro ⟨id,h1,h2⟩
  obtain ⟨j,h3,h4,h5⟩:=(Hla _ _ _ _).1 h2
  exact ⟨j,h3,h4 ▸ h1,by omega⟩
 ·rintro ⟨j,h3,h4,h5⟩
  exact ⟨_,h4,(Hla _ _ _ _).2 ⟨j,h3,rfl,by omega⟩⟩
def J4 (w:Wld) (x:ByteArray):List Int:=whr w.2.2.1 (Uj w.2.1 x++Qe w.2.1 w.1 x)
def Beb:ByteArray:=⟨#[108,105,115,116]⟩
def K6 (w:Wld):List Int:=whr w.2.2.1 (Uj w.2.1 Beb)
theorem Ul {r:Rng} (hr:RBd r) (x:ByteArray):(Uj r x).length≤1000:=by
 unfold Uj
 by_cases hm:Xha x % r.2.length<r.2.length
 ·exact hr.2 _ (A3 (d:=[]) hm)
 ·rw [List.getD_eq_getElem?_getD,List.getElem?_eq_none (by omega)]; exact Nat.zero_le _
theorem Tp (r:Rng) (l:List Dev) (x:ByteArray):(Qe r l x).length≤l.length+l.length:=by
 unfold Qe
 rw [List.length_append]
 have h1:=Caa (Uj r x) (J3 (Uj r x) l) false l
 have h2:=Caa (Uj r x) (J3 (Uj r x) l) true l
 omega
theorem Eya (w:Wld) (x:ByteArray) (h:Hu w.2.1 w.1=true) (hn:w.2.2.1.length≤1000) (hx:x.size≤1000000000):Tot (fun k=>Dh k w x) (fun r=>r=J4 w x):=by
 have h5:=(Cz.1 h).2.1
 have p2:=(C9a h x).2.1
 have h12:=(H4.1 (Cz.1 h).1).2.2.2
 have hh:=Tp w.2.1 w.1 x
 unfold Dh J4
 rw [Xia]
 refine Tot.bind (Uk _ x (N0 h) hx) ?_
 rintro p rfl
 refine Tot.bind (Qg w _ hn (by omega)) ?_
 rintro a rfl
 refine Tot.bind (Toa _ _ x h hx) ?_
 rintro q rfl
 refine Tot.bind (Qg w _ hn (by omega)) ?_
 rintro b rfl
 have l1:=Qf hn (show (Uj w.2.1 x).length≤1000 by omega)
 have l2:=Qf hn (show (Qe w.2.1 w.1 x).length≤1000 by omega)
 exact Tot.ble (by omega) (Tot.pure rfl)
theorem Xl (w:Wld) (hr:RBd w.2.1) (hn:w.2.2.1.length≤1000):Tot (fun k=>Fn k w) (fun r=>r=K6 w):=by
 unfold Fn
 refine Tot.bind (Uk _ Beb hr (by decide)) ?_
 rintro p rfl
 refine Tot.bind (Qg w _ hn (Ul hr _)) ?_
 rintro r rfl
 exact Tot.pure rfl
def quo (n:Int):Int:=n / 2+1
theorem B2b {n:Int} (h0:0≤n):Int.tdiv n 2=n / 2:=Int.tdiv_eq_ediv_of_nonneg h0
theorem Xja {n:Int} (h0:0≤n) (h1:n≤1000000000):Iv n=some (quo n):=by
 unfold Iv quo
 rw [B2b h0,w64 (n:=n / 2) (by omega) (by omega),w64 (n:=n / 2+1) (by omega) (by omega)]
def rch (l:List Int) (i:Nat):Int:=bif decide (i<l.length)&&inR (l.getD i 0) 1 3 then l.getD i 0 else 0
theorem Hma (l:List Int) (i:Nat):Bf l (i:Int)=some (rch l i):=by
 unfold Bf rch
 by_cases h:i<l.length
 ·rw [dF (by omega)]
  simp (disch:=omega) only [dT,Int.toNat_natCast,Mi,Option.bind_some]
  rw [decide_eq_true h,Bool.true_and]
  cases inR (l.getD i 0) 1 3<;>rfl
 ·rw [dT (by omega),decide_eq_false h]; rfl
end Go.Proofs.YtflokceoeiplcaaGreat.Vf
end

section
set_option linter.unusedVariables false
set_option linter.unusedSimpArgs false
namespace Go.Proofs.YtflokceoeiplcaaGreat.Vf
open Go
def Ra (a b:Fil):Bool:=((a.1.1==b.1.1)&&((a.1.2.1==b.1.2.1)&&(a.1.2.2==b.1.2.2)))&&((a.2.1==b.2.1)&&((Je a.2.2).toList==(Je b.2.2).toList))
theorem Q7a (a b:Fil):Hd a b=some (Ra a b):=by
 unfold Hd Ra
 cases (a.1.1==b.1.1)&&((a.1.2.1==b.1.2.1)&&(a.1.2.2==b.1.2.2))<;>cases a.2.1==b.2.1<;>rfl
theorem Q8a (a b:Fil):J1 a b=some (Ra a b):=by
 unfold J1 Ra
 cases (a.1.1==b.1.1)&&((a.1.2.1==b.1.2.1)&&(a.1.2.2==b.1.2.2))<;>cases a.2.1==b.2.1<;>rfl
theorem Eza {a b:Fil} (ha:An a.2.2) (hb:An b.2.2):Ra a b=true↔a=b:=by
 unfold Ra
 rw [Sa ha hb]
 obtain ⟨⟨a1,a2,a3⟩,a4,a5⟩:=a
 obtain ⟨⟨b1,b2,b3⟩,b4,b5⟩:=b
 simp only [Bool.and_eq_true,beq_iff_eq,decide_eq_true_iff,Prod.mk.injEq]
def Hna (ws:List Wri) (s:ByteArray) (f:Fil):Bool:=ws.any fun x=>teq x.1 s&&Ra x.2.1 f
theorem Q9a (w:Wld) (s:ByteArray) (f:Fil) (h:w.2.2.2.2.1.length≤1000):Tot (fun k=>C2 k w s f) (fun r=>r=Hna w.2.2.2.2.1 s f):=by
 unfold C2 Hna
 refine Tot.bind (Q:=fun r=>r=bif w.2.2.2.2.1.any (fun x=>teq x.1 s&&Ra x.2.1 f) then .inl true else .inr ()) ?_ (by
  rintro r rfl
  cases w.2.2.2.2.1.any (fun x=>teq x.1 s&&Ra x.2.1 f)<;>exact Tot.pure rfl)
 rw [Pt _ Sf]
 refine Tot.anyI (L:=fun k i=>C5 k s w.2.2.2.2.1 (w.2.2.2.2.1.length:Int) i f) _ _ () ?_ ?_
 ·simp (disch:=omega) only [C5,dF]
  exact Tot.pure rfl
 ·intro j hj Q yes no
  obtain ⟨x,ex⟩:∃ x:Wri,w.2.2.2.2.1.getD j Sf=x:=⟨_,rfl⟩
  simp only [ex] at no yes
  have e0:w.2.2.2.2.1.getD j ((⟨#[]⟩:ByteArray),((((0:Int),((0:Int),(0:Int))),(false,[])),false))=x:=ex
  simp (disch:=omega) only [C5,dT,Int.toNat_natCast,w64,e0,Q7a,Option.bind_some]
  refine Tot.ite (fun h1=>Tot.ite (fun h2=>Tot.pure (yes ?_)) (fun h2=>no ?_)) (fun h1=>no ?_)
  ·show ((x.1.toList==s.toList)&&Ra x.2.1 f)=true
   rw [h1,h2]; rfl
  ·rw [h2,Bool.and_false]
  ·show ((x.1.toList==s.toList)&&Ra x.2.1 f)=false
   rw [h1]; rfl
theorem Qaa (w:Wld) (s:ByteArray) (f:Fil) (h:w.2.2.2.2.1.length≤1000):Tot (fun k=>Cn k w s f) (fun r=>r=Hna w.2.2.2.2.1 s f):=by
 unfold Cn Hna
 refine Tot.bind (Q:=fun r=>r=bif w.2.2.2.2.1.any (fun x=>teq x.1 s&&Ra x.2.1 f) then .inl true else .inr ()) ?_ (by
  rintro r rfl
  cases w.2.2.2.2.1.any (fun x=>teq x.1 s&&Ra x.2.1 f)<;>exact Tot.pure rfl)
 rw [Pt _ Sf]
 refine Tot.anyI (L:=fun k i=>Co k s i w f) _ _ () ?_ ?_
 ·simp (disch:=omega) only [Co,dF]
  exact Tot.pure rfl
 ·intro j hj Q yes no
  obtain ⟨x,ex⟩:∃ x:Wri,w.2.2.2.2.1.getD j Sf=x:=⟨_,rfl⟩
  simp only [ex] at no yes
  have e0:w.2.2.2.2.1.getD j ((⟨#[]⟩:ByteArray),((((0:Int),((0:Int),(0:Int))),(false,[])),false))=x:=ex
  simp (disch:=omega) only [Co,dT,Int.toNat_natCast,w64,e0,Q8a,Option.bind_some]
  refine Tot.ite (fun h1=>Tot.ite (fun h2=>Tot.pure (yes ?_)) (fun h2=>no ?_)) (fun h1=>no ?_)
  ·show ((x.1.toList==s.toList)&&Ra x.2.1 f)=true
   rw [h1,h2]; rfl
  ·rw [h2,Bool.and_false]
  ·show ((x.1.toList==s.toList)&&Ra x.2.1 f)=false
   rw [h1]; rfl
def Cea (ws:List Wri) (e:Nmd):Bool:=match Me e.2 with
 |none=>true
 |some f=>Hna ws e.1 f
def Mn (w:Wld):Bool:=(List.range w.2.2.1.length).all fun j=>(w.2.2.1.getD j Ch).2.1.1.all (Cea w.2.2.2.2.1)&&(w.2.2.1.getD j Ch).2.1.2.all (Cea w.2.2.2.2.1)
theorem Aqa (w:Wld) (l:List Nmd) (h:w.2.2.2.2.1.length≤1000) (hf:Gva l) (hb:LB l):Tot (fun k=>D9 k w l) (fun r=>r=l.all (Cea w.2.2.2.2.1)):=by
 have hl:=hf.1
 unfold D9
 refine Tot.bind (Q:=fun r=>r=bif l.all (Cea w.2.2.2.2.1) then .inr () else .inl false) ?_ (by
  rintro r rfl
  cases l.all (Cea w.2.2.2.2.1)<;>exact Tot.pure rfl)
 rw [M9 _ Ec]
 refine Tot.allI (L:=fun k i=>Du k l i w) _ _ () ?_ ?_
 ·simp (disch:=omega) only [Du,dF]
  exact Tot.pure rfl
 ·intro j hj Q no yes
  have hm:=A3 (d:=Ec) hj
  obtain ⟨x,ex⟩:∃ x:Nmd,l.getD j Ec=x:=⟨_,rfl⟩
  rw [ex] at hm
  simp only [ex] at no yes
  have e0:l.getD j ((⟨#[]⟩:ByteArray),[])=x:=ex
  simp (disch:=omega) only [Du,dT,Int.toNat_natCast,w64,e0]
  refine Tot.bind (Oo x.2 (hb x hm) (hf.2 x hm)) ?_
  rintro r rfl
  unfold Cea at no yes
  unfold R6
  cases hg:Me x.2 with
  |none=>rw [hg] at yes; exact Tot.no rfl (yes rfl)
  |some f=>
   rw [hg] at yes no
   refine Tot.yes rfl (Tot.bind (Qaa w x.1 f h) ?_)
   rintro b rfl
   refine Tot.ite (fun hc=>Tot.pure (no ?_)) (fun hc=>yes ?_)
   ·rw [Bool.not_eq_true'] at hc; exact hc
   ·rw [Bool.not_eq_false'] at hc; exact hc
theorem Hoa (w:Wld) (hw:WIn w):Tot (fun k=>E4 k w) (fun r=>r=Mn w):=by
 obtain ⟨_,_,⟨h1,h2⟩,⟨h3,_⟩,_⟩:=hw
 unfold E4 Mn
 refine Tot.bind (Q:=fun r=>r=bif (List.range w.2.2.1.length).all (fun j=>(w.2.2.1.getD j Ch).2.1.1.all (Cea w.2.2.2.2.1)&&(w.2.2.1.getD j Ch).2.1.2.all (Cea w.2.2.2.2.1)) then .inr () else .inl false) ?_ (by
  rintro r rfl
  cases (List.range w.2.2.1.length).all (fun j=>(w.2.2.1.getD j Ch).2.1.1.all (Cea w.2.2.2.2.1)&&(w.2.2.1.getD j Ch).2.1.2.all (Cea w.2.2.2.2.1))<;>exact Tot.pure rfl)
 refine Tot.allI (L:=fun k i=>Ew k i w) _ _ () ?_ ?_
 ·simp (disch:=omega) only [Ew,dF]
  exact Tot.pure rfl
 ·intro j hj Q no yes
  have hm:=h2 _ (A3 (d:=Ch) hj)
  obtain ⟨x,ex⟩:∃ x:Nod,w.2.2.1.getD j Ch=x:=⟨_,rfl⟩
  rw [ex] at hm no yes
  have e0:w.2.2.1.getD j ((0:Int),(([],[]),([],[])))=x:=ex
  obtain ⟨⟨⟨⟨f1,f2⟩,_⟩,_⟩,b1,b2⟩:=hm.1
  simp (disch:=omega) only [Ew,dT,Int.toNat_natCast,w64,e0]
  refine Tot.bind (Aqa w x.2.1.1 h3 f1 b1) ?_
  rintro r rfl
  refine Tot.ite (fun hc=>Tot.pure (no ?_)) (fun hc=>Tot.bind (Aqa w x.2.1.2 h3 f2 b2) ?_)
  ·rw [Bool.not_eq_true'] at hc; rw [hc,Bool.false_and]
  ·rw [Bool.not_eq_false'] at hc
   rw [hc,Bool.true_and] at no yes
   rintro r rfl
   refine Tot.ite (fun hc=>Tot.pure (no ?_)) (fun hc=>yes ?_)
   ·rw [Bool.not_eq_true'] at hc; exact hc
   ·rw [Bool.not_eq_false'] at hc; exact hc
theorem Xm (w:Wld) (hw:WIn w):Tot (fun k=>Bh k w) (fun r=>r=Mn w):=by
 obtain ⟨_,_,⟨h1,h2⟩,⟨h3,_⟩,_⟩:=hw
 unfold Bh Mn
 refine Tot.bind (Q:=fun r=>r=bif (List.range w.2.2.1.length).all (fun j=>(w.2.2.1.getD j Ch).2.1.1.all (Cea w.2.2.2.2.1)&&(w.2.2.1.getD j Ch).2.1.2.all (Cea w.2.2.2.2.1)) then .inr () else .inl false) ?_ (by
  rintro r rfl
  cases (List.range w.2.2.1.length).all (fun j=>(w.2.2.1.getD j Ch).2.1.1.all (Cea w.2.2.2.2.1)&&(w.2.2.1.getD j Ch).2.1.2.all (Cea w.2.2.2.2.1))<;>exact Tot.pure rfl)
 refine Tot.allI (L:=fun k i=>Et k w.2.2.1 (w.2.2.1.length:Int) i w) _ _ () ?_ ?_
 ·simp (disch:=omega) only [Et,dF]
  exact Tot.pure rfl
 ·intro j hj Q no yes
  have hm:=h2 _ (A3 (d:=Ch) hj)
  obtain ⟨x,ex⟩:∃ x:Nod,w.2.2.1.getD j Ch=x:=⟨_,rfl⟩
  rw [ex] at hm no yes
  have e0:w.2.2.1.getD j ((0:Int),(([],[]),([],[])))=x:=ex
  obtain ⟨⟨⟨⟨f1,f2⟩,_⟩,l1,l2⟩,b1,b2⟩:=hm.1
  have n0:([]:List (ByteArray×(List Int))).length=0:=rfl
  simp (disch:=omega) only [Et,dT,Int.toNat_natCast,w64,e0,List.nil_append]
  refine Tot.ble (by rw [n0]; omega) (Tot.ble (by omega) ?_)
  rw [← List.all_append] at no yes
  have hf:Gva (x.2.1.1++x.2.1.2):=⟨by rw [List.length_append]; omega,fun y hy=>(List.mem_append.1 hy).elim (f1.2 y) (f2.2 y)⟩
  have hb:LB (x.2.1.1++x.2.1.2):=fun y hy=>(List.mem_append.1 hy).elim (b1 y) (b2 y)
  have hl:(x.2.1.1++x.2.1.2).length≤2000:=by rw [List.length_append]; omega
  generalize x.2.1.1++x.2.1.2=l at *
  refine Tot.bind (Q:=fun r=>r=bif l.all (Cea w.2.2.2.2.1) then .inr (w.2.2.1,(w.2.2.1.length:Int),(j:Int),w) else .inl false) ?_ ?_
  ·rw [M9 _ Ec]
   refine Tot.allI (L:=fun k i=>Dn k w.2.2.1 (w.2.2.1.length:Int) (j:Int) l (l.length:Int) i w) _ _ (w.2.2.1,(w.2.2.1.length:Int),(j:Int),w) ?_ ?_
   ·simp (disch:=omega) only [Dn,dF]
    exact Tot.pure rfl
   ·intro j hj Q no yes
    have hm:=A3 (d:=Ec) hj
    obtain ⟨x,ex⟩:∃ x:Nmd,l.getD j Ec=x:=⟨_,rfl⟩
    rw [ex] at hm
    simp only [ex] at no yes
    have e0:l.getD j ((⟨#[]⟩:ByteArray),[])=x:=ex
    simp (disch:=omega) only [Dn,dT,Int.toNat_natCast,w64,e0]
    refine Tot.bind (X9 x.2 (hb x hm) (hf.2 x hm)) ?_
    rintro r rfl
    unfold Cea at no yes
    unfold R6
    cases hg:Me x.2 with
    |none=>rw [hg] at yes; exact Tot.no rfl (yes rfl)
    |some f=>
     rw [hg] at yes no
     refine Tot.yes rfl (Tot.bind (Q9a w x.1 f h3) ?_)
     rintro b rfl
     refine Tot.ite (fun hc=>Tot.pure (no ?_)) (fun hc=>yes ?_)
     ·rw [Bool.not_eq_true'] at hc; exact hc
     ·rw [Bool.not_eq_false'] at hc; exact hc
  ·rintro r rfl
   cases hc:l.all (Cea w.2.2.2.2.1) with
   |false=>exact Tot.pure (no hc)
   |true=>
    simp (disch:=omega) only [cond_true,Sum.elim_inr,w64]
    exact yes hc
end Go.Proofs.YtflokceoeiplcaaGreat.Vf
end

section
set_option linter.unusedVariables false
set_option linter.unusedSimpArgs false
namespace Go.Proofs.YtflokceoeiplcaaGreat.Vf
open Go
def Qba (a b:Row):Bool:=(a.1==b.1)&&((a.2.1.1==b.2.1.1)&&((a.2.1.2.1==b.2.1.2.1)&&((a.2.1.2.2==b.2.1.2.2)&&((a.2.2.1==b.2.2.1)&&(a.2.2.2==b.2.2.2)))))
theorem F0a {a b:Row}:Qba a b=true↔a=b:=by
 unfold Qba
 obtain ⟨a0,⟨a1,a2,a3⟩,a4,a5⟩:=a
 obtain ⟨b0,⟨b1,b2,b3⟩,b4,b5⟩:=b
 simp only [Bxa,Bool.and_eq_true,beq_iff_eq,Prod.mk.injEq,Ic]
 constructor
 ·rintro ⟨h0,h1,h2,h3,h4,h5⟩; exact ⟨h0,⟨h1,h2,h3⟩,h4,h5⟩
 ·rintro ⟨h0,⟨h1,h2,h3⟩,h4,h5⟩; exact ⟨h0,h1,h2,h3,h4,h5⟩
def Lb (ws:List Wri) (r:Row):Bool:=ws.any fun x=>Qba (Ta x.1 x.2.1) r
def Ot (w:Wld):Bool:=(List.range w.2.2.1.length).all fun j=>(w.2.2.1.getD j Ch).2.2.1.all (Lb w.2.2.2.2.1)&&(w.2.2.1.getD j Ch).2.2.2.all (Lb w.2.2.2.2.1)
def Tsa:Row:=((⟨#[]⟩:ByteArray),(((0:Int),((0:Int),(0:Int))),(false,(0:Int))))
theorem Hpa (w:Wld) (l:List Row) (i:Nat) (hi:i<l.length) (h:w.2.2.2.2.1.length≤1000):Tot (fun k=>Cc k l (i:Int) false 0 w) (fun r=>r=(l,(i:Int),Lb w.2.2.2.2.1 (l.getD i Tsa),w)):=by
 refine Tot.up (L:=fun k i' (s:Bool)=>Cc k l (i:Int) s i' w) (Q:=fun r=>r=(l,(i:Int),Lb w.2.2.2.2.1 (l.getD i Tsa),w)) w.2.2.2.2.1.length (fun j s=>(s || (w.2.2.2.2.1.drop j).any fun x=>Qba (Ta x.1 x.2.1) (l.getD i Tsa))=Lb w.2.2.2.2.1 (l.getD i Tsa)) ?_ ?_ 0 false (Nat.zero_le _) (Bool.false_or _)
 ·intro s hs
  rw [List.drop_length,List.any_nil,Bool.or_false] at hs
  simp (disch:=omega) only [Cc,dF]
  exact Tot.pure (by rw [hs])
 ·intro j s hj hs next
  cases s with
  |true=>
   rw [Bool.true_or] at hs
   simp (disch:=omega) only [Cc,dT,w64,cond_true]
   exact next true (by rw [Bool.true_or]; exact hs)
  |false=>
   rw [Am (d:=Sf) hj,List.any_cons,Bool.false_or] at hs
   obtain ⟨x,ex⟩:∃ x:Wri,w.2.2.2.2.1.getD j Sf=x:=⟨_,rfl⟩
   rw [ex] at hs
   have e0:w.2.2.2.2.1.getD j ((⟨#[]⟩:ByteArray),((((0:Int),((0:Int),(0:Int))),(false,[])),false))=x:=ex
   have e1:l.getD i ((⟨#[]⟩:ByteArray),(((0:Int),((0:Int),(0:Int))),(false,(0:Int))))=l.getD i Tsa:=rfl
   simp (disch:=omega) only [Cc,dT,Int.toNat_natCast,w64,e0,e1,cond_false,Id,Option.bind_some]
   exact next _ hs
theorem Ara (w:Wld) (l:List Row) (h:w.2.2.2.2.1.length≤1000) (hl:l.length≤1000000):Tot (fun k=>Cd k w l) (fun r=>r=l.all (Lb w.2.2.2.2.1)):=by
 unfold Cd
 refine Tot.bind (Q:=fun r=>r=bif l.all (Lb w.2.2.2.2.1) then .inr () else .inl false) ?_ (by
  rintro r rfl
  cases l.all (Lb w.2.2.2.2.1)<;>exact Tot.pure rfl)
 rw [M9 _ Tsa]
 refine Tot.allI (L:=fun k i=>Ey k l i w) _ _ () ?_ ?_
 ·simp (disch:=omega) only [Ey,dF]
  exact Tot.pure rfl
 ·intro j hj Q no yes
  simp (disch:=omega) only [Ey,dT]
  refine Tot.bind (Hpa w l j hj h) ?_
  rintro r rfl
  simp (disch:=omega) only [w64]
  refine Tot.ite (fun hc=>Tot.pure (no ?_)) (fun hc=>yes ?_)
  ·rw [Bool.not_eq_true'] at hc; exact hc
  ·rw [Bool.not_eq_false'] at hc; exact hc
theorem Lta (w:Wld) (hw:WIn w):Tot (fun k=>Fl k w) (fun r=>r=Ot w):=by
 obtain ⟨_,_,⟨h1,h2⟩,⟨h3,_⟩,_⟩:=hw
 unfold Fl Ot
 refine Tot.bind (Q:=fun r=>r=bif (List.range w.2.2.1.length).all (fun j=>(w.2.2.1.getD j Ch).2.2.1.all (Lb w.2.2.2.2.1)&&(w.2.2.1.getD j Ch).2.2.2.all (Lb w.2.2.2.2.1)) then .inr () else .inl false) ?_ (by
  rintro r rfl
  cases (List.range w.2.2.1.length).all (fun j=>(w.2.2.1.getD j Ch).2.2.1.all (Lb w.2.2.2.2.1)&&(w.2.2.1.getD j Ch).2.2.2.all (Lb w.2.2.2.2.1))<;>exact Tot.pure rfl)
 refine Tot.allI (L:=fun k i=>Gg k i w) _ _ () ?_ ?_
 ·simp (disch:=omega) only [Gg,dF]
  exact Tot.pure rfl
 ·intro j hj Q no yes
  have hm:=h2 _ (A3 (d:=Ch) hj)
  obtain ⟨x,ex⟩:∃ x:Nod,w.2.2.1.getD j Ch=x:=⟨_,rfl⟩
  rw [ex] at hm no yes
  have e0:w.2.2.1.getD j ((0:Int),(([],[]),([],[])))=x:=ex
  obtain ⟨_,f1,f2⟩:=hm
  have g1:=f1.1
  have g2:=f2.1
  simp (disch:=omega) only [Gg,dT,Int.toNat_natCast,w64,e0]
  refine Tot.bind (Ara w x.2.2.1 h3 (by omega)) ?_
  rintro r rfl
  refine Tot.ite (fun hc=>Tot.pure (no ?_)) (fun hc=>Tot.bind (Ara w x.2.2.2 h3 (by omega)) ?_)
  ·rw [Bool.not_eq_true'] at hc; rw [hc,Bool.false_and]
  ·rw [Bool.not_eq_false'] at hc
   rw [hc,Bool.true_and] at no yes
   rintro r rfl
   refine Tot.ite (fun hc=>Tot.pure (no ?_)) (fun hc=>yes ?_)
   ·rw [Bool.not_eq_true'] at hc; exact hc
   ·rw [Bool.not_eq_false'] at hc; exact hc
theorem Cfa (w:Wld) (ns:List Nod) (n m:Int) (l:List Row) (len i:Int) (r0:Row) (h:w.2.2.2.2.1.length≤1000):Tot (fun k=>D6 k false ns n m l len i w.2.2.2.2.1 (w.2.2.2.2.1.length:Int) 0 w r0) (fun r=>r=(Lb w.2.2.2.2.1 r0,ns,n,m,l,len,i,w)):=by
 refine Tot.up (L:=fun k i' (s:Bool)=>D6 k s ns n m l len i w.2.2.2.2.1 (w.2.2.2.2.1.length:Int) i' w r0) (Q:=fun r=>r=(Lb w.2.2.2.2.1 r0,ns,n,m,l,len,i,w)) w.2.2.2.2.1.length (fun j s=>(s || (w.2.2.2.2.1.drop j).any fun x=>Qba (Ta x.1 x.2.1) r0)=Lb w.2.2.2.2.1 r0) ?_ ?_ 0 false (Nat.zero_le _) (Bool.false_or _)
 ·intro s hs
  rw [List.drop_length,List.any_nil,Bool.or_false] at hs
  simp (disch:=omega) only [D6,dF]
  exact Tot.pure (by rw [hs])
 ·intro j s hj hs next
  cases s with
  |true=>
   rw [Bool.true_or] at hs
   simp (disch:=omega) only [D6,dT,w64,cond_true]
   exact next true (by rw [Bool.true_or]; exact hs)
  |false=>
   rw [Am (d:=Sf) hj,List.any_cons,Bool.false_or] at hs
   obtain ⟨x,ex⟩:∃ x:Wri,w.2.2.2.2.1.getD j Sf=x:=⟨_,rfl⟩
   rw [ex] at hs
   have e0:w.2.2.2.2.1.getD j ((⟨#[]⟩:ByteArray),((((0:Int),((0:Int),(0:Int))),(false,[])),false))=x:=ex
   simp (disch:=omega) only [D6,dT,Int.toNat_natCast,w64,e0,cond_false,Jv,Option.bind_some]
   exact next _ hs
theorem Asa (w:Wld) (hw:WIn w):Tot (fun k=>Bq k w) (fun r=>r=Ot w):=by
 obtain ⟨_,_,⟨h1,h2⟩,⟨h3,_⟩,_⟩:=hw
 unfold Bq Ot
 refine Tot.bind (Q:=fun r=>r=bif (List.range w.2.2.1.length).all (fun j=>(w.2.2.1.getD j Ch).2.2.1.all (Lb w.2.2.2.2.1)&&(w.2.2.1.getD j Ch).2.2.2.all (Lb w.2.2.2.2.1)) then .inr () else .inl false) ?_ (by
  rintro r rfl
  cases (List.range w.2.2.1.length).all (fun j=>(w.2.2.1.getD j Ch).2.2.1.all (Lb w.2.2.2.2.1)&&(w.2.2.1.getD j Ch).2.2.2.all (Lb w.2.2.2.2.1))<;>exact Tot.pure rfl)
 refine Tot.allI (L:=fun k i=>G9 k w.2.2.1 (w.2.2.1.length:Int) i w) _ _ () ?_ ?_
 ·simp (disch:=omega) only [G9,dF]
  exact Tot.pure rfl
 ·intro j hj Q no yes
  have hm:=h2 _ (A3 (d:=Ch) hj)
  obtain ⟨x,ex⟩:∃ x:Nod,w.2.2.1.getD j Ch=x:=⟨_,rfl⟩
  rw [ex] at hm no yes
  have e0:w.2.2.1.getD j ((0:Int),(([],[]),([],[])))=x:=ex
  obtain ⟨_,f1,f2⟩:=hm
  have g1:=f1.1
  have g2:=f2.1
  have ec:He x.2.2.1=some x.2.2.1:=by
   unfold He
   rw [bT (by simp only [List.length_nil]; omega),List.nil_append]
  simp (disch:=omega) only [G9,dT,Int.toNat_natCast,w64,e0,ec,Option.bind_some]
  refine Tot.ble (by omega) ?_
  rw [← List.all_append] at no yes
  have hl:(x.2.2.1++x.2.2.2).length≤2000:=by rw [List.length_append]; omega
  generalize x.2.2.1++x.2.2.2=l at *
  refine Tot.bind (Q:=fun r=>r=bif l.all (Lb w.2.2.2.2.1) then .inr (w.2.2.1,(w.2.2.1.length:Int),(j:Int),w) else .inl false) ?_ ?_
  ·rw [M9 _ Tsa]
   refine Tot.allI (L:=fun k i=>G8 k w.2.2.1 (w.2.2.1.length:Int) (j:Int) l (l.length:Int) i w) _ _ (w.2.2.1,(w.2.2.1.length:Int),(j:Int),w) ?_ ?_
   ·simp (disch:=omega) only [G8,dF]
    exact Tot.pure rfl
   ·intro i hi Q no yes
    have e1:l.getD i ((⟨#[]⟩:ByteArray),(((0:Int),((0:Int),(0:Int))),(false,(0:Int))))=l.getD i Tsa:=rfl
    simp (disch:=omega) only [G8,dT,Int.toNat_natCast,e1]
    refine Tot.bind (Cfa w _ _ _ l _ _ (l.getD i Tsa) h3) ?_
    rintro r rfl
    simp (disch:=omega) only [w64]
    refine Tot.ite (fun hc=>Tot.pure (no ?_)) (fun hc=>yes ?_)
    ·rw [Bool.not_eq_true'] at hc; exact hc
    ·rw [Bool.not_eq_false'] at hc; exact hc
  ·rintro r rfl
   cases hc:l.all (Lb w.2.2.2.2.1) with
   |false=>exact Tot.pure (no hc)
   |true=>
    simp (disch:=omega) only [cond_true,Sum.elim_inr,w64]
    exact yes hc
def Xn (s:ByteArray) (st:Stp) (n:Nod):Bool:=match gt n.2.1.2 s with
 |none=>false
 |some b=>match Me b with
  |none=>false
  |some f => !(sle f.1 st)
def F1a (w:Wld) (x:Wri):Bool := !x.2.2 || (Y0 w.2.2.2.2.2 x.1 || w.2.2.1.any (Xn x.1 x.2.1.1))
def Cga (w:Wld):Bool:=w.2.2.2.2.1.all (F1a w)
theorem Qca (l:List Nmd) (s:ByteArray):(Fca l s<0∧gt l s=none)∨∃ i:Nat,Fca l s=(i:Int)∧i<l.length∧gt l s=some (l.getD i Ec).2:=by
 unfold Fca gt
 cases h:fnd l s with
 |none=>exact .inl ⟨by decide,rfl⟩
 |some i=>
  obtain ⟨hi,_⟩:=List.findIdx?_eq_some_iff_getElem.1 h
  exact .inr ⟨i,rfl,hi,rfl⟩
theorem Qda (w:Wld) (hw:WIn w) (s:ByteArray) (st:Stp):Tot (fun k=>Hm k w s st) (fun r=>r=w.2.2.1.any (Xn s st)):=by
 obtain ⟨_,_,⟨h1,h2⟩,⟨h3,_⟩,_⟩:=hw
 unfold Hm
 refine Tot.bind (Q:=fun r=>r=bif w.2.2.1.any (Xn s st) then .inl true else .inr ()) ?_ (by
  rintro r rfl
  cases w.2.2.1.any (Xn s st)<;>exact Tot.pure rfl)
 rw [Pt _ Ch]
 refine Tot.anyI (L:=fun k i=>Fa k s w.2.2.1 (w.2.2.1.length:Int) i st) _ _ () ?_ ?_
 ·simp (disch:=omega) only [Fa,dF]
  exact Tot.pure rfl
 ·intro j hj Q yes no
  have hm:=h2 _ (A3 (d:=Ch) hj)
  obtain ⟨x,ex⟩:∃ x:Nod,w.2.2.1.getD j Ch=x:=⟨_,rfl⟩
  rw [ex] at hm no yes
  have e0:w.2.2.1.getD j ((0:Int),(([],[]),([],[])))=x:=ex
  obtain ⟨⟨⟨⟨f1,f2⟩,_⟩,l1,l2⟩,b1,b2⟩:=hm.1
  simp (disch:=omega) only [Fa,dT,Int.toNat_natCast,w64,e0]
  unfold Xn at yes no
  refine Tot.bind (Zaa x.2.1.2 s f2.1) ?_
  rintro r rfl
  rcases Qca x.2.1.2 s with ⟨hn,hg⟩|⟨i,e,hi,hg⟩
  ·rw [hg] at no
   exact Tot.dec hn (no rfl)
  ·rw [e]
   have hm:=A3 (d:=Ec) hi
   obtain ⟨y,ey⟩:∃ y:Nmd,x.2.1.2.getD i Ec=y:=⟨_,rfl⟩
   rw [ey] at hm hg
   rw [hg] at no yes
   have e2:x.2.1.2.getD i ((⟨#[]⟩:ByteArray),[])=y:=ey
   refine Tot.ndec (by omega) ?_
   simp (disch:=omega) only [dT,Int.toNat_natCast,e2]
   refine Tot.bind (X9 y.2 (b2 y hm) (f2.2 y hm)) ?_
   rintro r rfl
   unfold R6
   cases hy:Me y.2 with
   |none=>simp only [hy] at no; exact Tot.no rfl (no trivial)
   |some f=>
    simp only [hy] at no yes
    simp only [Bta,Option.bind_some]
    exact Tot.yes rfl (Tot.ite (fun hc=>Tot.pure (yes hc)) (fun hc=>no hc))
theorem Qea (w:Wld) (hw:WIn w) (x:Wri):Tot (fun k=>E5 k w x) (fun r=>r=w.2.2.1.any (Xn x.1 x.2.1.1)):=by
 obtain ⟨_,_,⟨h1,h2⟩,⟨h3,_⟩,_⟩:=hw
 unfold E5
 refine Tot.bind (Q:=fun r=>r=bif w.2.2.1.any (Xn x.1 x.2.1.1) then .inl true else .inr ()) ?_ (by
  rintro r rfl
  cases w.2.2.1.any (Xn x.1 x.2.1.1)<;>exact Tot.pure rfl)
 rw [Pt _ Ch]
 refine Tot.anyI (L:=fun k i=>Cy k i w x) _ _ () ?_ ?_
 ·simp (disch:=omega) only [Cy,dF]
  exact Tot.pure rfl
 ·intro j hj Q yes no
  have hm:=h2 _ (A3 (d:=Ch) hj)
  obtain ⟨z,ex⟩:∃ x:Nod,w.2.2.1.getD j Ch=x:=⟨_,rfl⟩
  rw [ex] at hm no yes
  have e0:w.2.2.1.getD j ((0:Int),(([],[]),([],[])))=z:=ex
  obtain ⟨⟨⟨⟨f1,f2⟩,_⟩,l1,l2⟩,b1,b2⟩:=hm.1
  simp (disch:=omega) only [Cy,dT,Int.toNat_natCast,w64,e0]
  unfold Xn at yes no
  refine Tot.bind (X4 z.2.1.2 x.1 f2.1) ?_
  rintro r rfl
  rcases Qca z.2.1.2 x.1 with ⟨hn,hg⟩|⟨i,e,hi,hg⟩
  ·rw [hg] at no
   exact Tot.dec hn (no rfl)
  ·rw [e]
   have hm:=A3 (d:=Ec) hi
   obtain ⟨y,ey⟩:∃ y:Nmd,z.2.1.2.getD i Ec=y:=⟨_,rfl⟩
   rw [ey] at hm hg
   rw [hg] at no yes
   have e2:z.2.1.2.getD i ((⟨#[]⟩:ByteArray),[])=y:=ey
   refine Tot.ndec (by omega) ?_
   simp (disch:=omega) only [dT,Int.toNat_natCast,e2]
   refine Tot.bind (Oo y.2 (b2 y hm) (f2.2 y hm)) ?_
   rintro r rfl
   unfold R6
   cases hy:Me y.2 with
   |none=>simp only [hy] at no; exact Tot.no rfl (no trivial)
   |some f=>
    simp only [hy] at no yes
    simp only [Eaa,Option.bind_some]
    exact Tot.yes rfl (Tot.ite (fun hc=>Tot.pure (yes hc)) (fun hc=>no hc))
theorem Tta (l:List ByteArray) (s:ByteArray) (hl:l.length≤1000000000):Tot (fun k=>Hp k l s) (fun r=>r=Y0 l s):=by
 unfold Hp Y0
 refine Tot.bind (Q:=fun r=>r=bif l.any (fun y=>teq y s) then .inl true else .inr ()) ?_ (by
  rintro r rfl
  cases l.any (fun y=>teq y s)<;>exact Tot.pure rfl)
 rw [Pt _ Na]
 refine Tot.anyI (L:=fun k i=>Eu k s l (l.length:Int) i) _ _ () ?_ ?_
 ·simp (disch:=omega) only [Eu,dF]
  exact Tot.pure rfl
 ·intro j hj Q yes no
  have e0:l.getD j (⟨#[]⟩:ByteArray)=l.getD j Na:=rfl
  simp (disch:=omega) only [Eu,dT,Int.toNat_natCast,w64,e0]
  exact Tot.ite (fun hc=>Tot.pure (yes hc)) (fun hc=>no hc)
theorem K6a (w:Wld) (hw:WIn w):Tot (fun k=>Hf k w) (fun r=>r=Cga w):=by
 have hw':=hw
 obtain ⟨_,_,⟨h1,h2⟩,⟨h3,_⟩,h5,_⟩:=hw'
 unfold Hf Cga
 refine Tot.bind (Q:=fun r=>r=bif w.2.2.2.2.1.all (F1a w) then .inr () else .inl false) ?_ (by
  rintro r rfl
  cases w.2.2.2.2.1.all (F1a w)<;>exact Tot.pure rfl)
 rw [M9 _ Sf]
 refine Tot.allI (L:=fun k i=>Gz k w.2.2.2.2.1 (w.2.2.2.2.1.length:Int) i w) _ _ () ?_ ?_
 ·simp (disch:=omega) only [Gz,dF]
  exact Tot.pure rfl
 ·intro j hj Q no yes
  obtain ⟨x,ex⟩:∃ x:Wri,w.2.2.2.2.1.getD j Sf=x:=⟨_,rfl⟩
  rw [ex] at no yes
  have e0:w.2.2.2.2.1.getD j ((⟨#[]⟩:ByteArray),((((0:Int),((0:Int),(0:Int))),(false,[])),false))=x:=ex
  simp (disch:=omega) only [Gz,dT,Int.toNat_natCast,w64,e0]
  unfold F1a at no yes
  refine Tot.ite (fun hk=>?_) (fun hk=>yes (by rw [hk]; rfl))
  rw [hk,Bool.not_true,Bool.false_or] at no yes
  refine Tot.bind (Tta _ x.1 (by omega)) ?_
  rintro b rfl
  refine Tot.ite (fun hh=>?_) (fun hh=>yes (by rw [Bool.not_eq_false'] at hh; rw [hh,Bool.true_or]))
  rw [Bool.not_eq_true'] at hh
  rw [hh,Bool.false_or] at no yes
  refine Tot.bind (Qda w hw x.1 x.2.1.1) ?_
  rintro b rfl
  refine Tot.ite (fun hc=>Tot.pure (no ?_)) (fun hc=>yes ?_)
  ·rw [Bool.not_eq_true'] at hc; exact hc
  ·rw [Bool.not_eq_false'] at hc; exact hc
theorem Tua (w:Wld) (hw:WIn w):Tot (fun k=>Im k w) (fun r=>r=Cga w):=by
 have hw':=hw
 obtain ⟨_,_,⟨h1,h2⟩,⟨h3,_⟩,h5,_⟩:=hw'
 unfold Im Cga
 refine Tot.bind (Q:=fun r=>r=bif w.2.2.2.2.1.all (F1a w) then .inr () else .inl false) ?_ (by
  rintro r rfl
  cases w.2.2.2.2.1.all (F1a w)<;>exact Tot.pure rfl)
 rw [M9 _ Sf]
 refine Tot.allI (L:=fun k i=>H0 k i w) _ _ () ?_ ?_
 ·simp (disch:=omega) only [H0,dF]
  exact Tot.pure rfl
 ·intro j hj Q no yes
  obtain ⟨x,ex⟩:∃ x:Wri,w.2.2.2.2.1.getD j Sf=x:=⟨_,rfl⟩
  rw [ex] at no yes
  have e0:w.2.2.2.2.1.getD j ((⟨#[]⟩:ByteArray),((((0:Int),((0:Int),(0:Int))),(false,[])),false))=x:=ex
  simp (disch:=omega) only [H0,dT,Int.toNat_natCast,w64,e0]
  unfold F1a at no yes
  refine Tot.ite (fun hk=>?_) (fun hk=>yes (by rw [hk]; rfl))
  rw [hk,Bool.not_true,Bool.false_or] at no yes
  refine Tot.bind (C7a _ x.1 (by omega)) ?_
  rintro b rfl
  refine Tot.ite (fun hh=>?_) (fun hh=>yes (by rw [Bool.not_eq_false'] at hh; rw [hh,Bool.true_or]))
  rw [Bool.not_eq_true'] at hh
  rw [hh,Bool.false_or] at no yes
  refine Tot.bind (Qea w hw x) ?_
  rintro b rfl
  refine Tot.ite (fun hc=>Tot.pure (no ?_)) (fun hc=>yes ?_)
  ·rw [Bool.not_eq_true'] at hc; exact hc
  ·rw [Bool.not_eq_false'] at hc; exact hc
def Mo (w:Wld):Bool:=(List.range w.2.2.2.2.1.length).all fun j => !(sle w.2.2.2.1 (w.2.2.2.2.1.getD j Sf).2.1.1)&&(decide (j=0) || sle (w.2.2.2.2.1.getD (j - 1) Sf).2.1.1 (w.2.2.2.2.1.getD j Sf).2.1.1)
theorem Xo (w:Wld) (hw:WIn w):Tot (fun k=>Cb k w) (fun r=>r=Mo w):=by
 obtain ⟨_,_,_,⟨h3,_⟩,h5,_⟩:=hw
 unfold Cb Mo
 generalize hP:(fun j => !(sle w.2.2.2.1 (w.2.2.2.2.1.getD j Sf).2.1.1)&&(decide (j=0) || sle (w.2.2.2.2.1.getD (j - 1) Sf).2.1.1 (w.2.2.2.2.1.getD j Sf).2.1.1))=P
 refine Tot.bind (Q:=fun r=>r=bif (List.range w.2.2.2.2.1.length).all P then .inr () else .inl false) ?_ (by
  rintro r rfl
  cases (List.range w.2.2.2.2.1.length).all P<;>exact Tot.pure rfl)
 refine Tot.allI (L:=fun k i=>Dp k w.2.2.2.2.1 (w.2.2.2.2.1.length:Int) i w) _ _ () ?_ ?_
 ·simp (disch:=omega) only [Dp,dF]
  exact Tot.pure rfl
 ·intro j hj Q no yes
  subst hP
  dsimp only at no yes
  have e0:∀ i,w.2.2.2.2.1.getD i ((⟨#[]⟩:ByteArray),((((0:Int),((0:Int),(0:Int))),(false,[])),false))=w.2.2.2.2.1.getD i Sf:=fun _=>rfl
  simp (disch:=omega) only [Dp,dT,Int.toNat_natCast,w64,e0,Bta,Option.bind_some]
  refine Tot.ite (fun hc=>Tot.pure (no (by rw [hc]; rfl))) (fun hc=>?_)
  rw [hc,Bool.not_false,Bool.true_and] at no yes
  refine Tot.dite (fun h0=>?_) (fun h0=>yes (by rw [decide_eq_true (show j=0 by omega)]; rfl))
  simp (disch:=omega) only [dT,w64,show Int.toNat ((j:Int) - 1)=j - 1 by omega]
  rw [decide_eq_false (show ¬ j=0 by omega),Bool.false_or] at no yes
  refine Tot.ite (fun hc=>Tot.pure (no ?_)) (fun hc=>yes ?_)
  ·rw [Bool.not_eq_true'] at hc; exact hc
  ·rw [Bool.not_eq_false'] at hc; exact hc
theorem Hqa (w:Wld) (hw:WIn w):Tot (fun k=>E6 k w) (fun r=>r=Mo w):=by
 obtain ⟨_,_,_,⟨h3,_⟩,h5,_⟩:=hw
 unfold E6 Mo
 generalize hP:(fun j => !(sle w.2.2.2.1 (w.2.2.2.2.1.getD j Sf).2.1.1)&&(decide (j=0) || sle (w.2.2.2.2.1.getD (j - 1) Sf).2.1.1 (w.2.2.2.2.1.getD j Sf).2.1.1))=P
 refine Tot.bind (Q:=fun r=>r=bif (List.range w.2.2.2.2.1.length).all P then .inr () else .inl false) ?_ (by
  rintro r rfl
  cases (List.range w.2.2.2.2.1.length).all P<;>exact Tot.pure rfl)
 refine Tot.allI (L:=fun k i=>Dv k i w) _ _ () ?_ ?_
 ·simp (disch:=omega) only [Dv,dF]
  exact Tot.pure rfl
 ·intro j hj Q no yes
  subst hP
  dsimp only at no yes
  have e0:∀ i,w.2.2.2.2.1.getD i ((⟨#[]⟩:ByteArray),((((0:Int),((0:Int),(0:Int))),(false,[])),false))=w.2.2.2.2.1.getD i Sf:=fun _=>rfl
  simp (disch:=omega) only [Dv,dT,Int.toNat_natCast,w64,e0,Ub,Option.bind_some]
  refine Tot.ite (fun hc=>Tot.pure (no (by rw [hc]; rfl))) (fun hc=>?_)
  rw [hc,Bool.not_false,Bool.true_and] at no yes
  refine Tot.dite (fun h0=>?_) (fun h0=>yes (by rw [decide_eq_true (show j=0 by omega)]; rfl))
  simp (disch:=omega) only [dT,w64,show Int.toNat ((j:Int) - 1)=j - 1 by omega]
  rw [decide_eq_false (show ¬ j=0 by omega),Bool.false_or] at no yes
  refine Tot.ite (fun hc=>Tot.pure (no ?_)) (fun hc=>yes ?_)
  ·rw [Bool.not_eq_true'] at hc; exact hc
  ·rw [Bool.not_eq_false'] at hc; exact hc
def Lua (w:Wld):Int:=bif Cba w then (bif Mn w then (bif Ot w then (bif Cga w then (bif Mo w then 0 else 5) else 4) else 3) else 2) else 1
theorem Tva (w:Wld) (hw:WIn w):Tot (fun k=>Ke k w) (fun r=>r=Lua w):=by
 unfold Ke Lua
 refine Tot.bind (Exa w hw) ?_
 rintro b rfl
 cases Cba w with
 |false=>exact Tot.yes rfl (Tot.pure rfl)
 |true=>
  refine Tot.no rfl (Tot.bind (Xm w hw) ?_)
  rintro b rfl
  cases Mn w with
  |false=>exact Tot.yes rfl (Tot.pure rfl)
  |true=>
   refine Tot.no rfl (Tot.bind (Asa w hw) ?_)
   rintro b rfl
   cases Ot w with
   |false=>exact Tot.yes rfl (Tot.pure rfl)
   |true=>
    refine Tot.no rfl (Tot.bind (K6a w hw) ?_)
    rintro b rfl
    cases Cga w with
    |false=>exact Tot.yes rfl (Tot.pure rfl)
    |true=>
     refine Tot.no rfl (Tot.bind (Xo w hw) ?_)
     rintro b rfl
     cases Mo w with
     |false=>exact Tot.yes rfl (Tot.pure rfl)
     |true=>exact Tot.no rfl (Tot.pure rfl)
theorem Twa (w:Wld) (hw:WIn w):Tot (fun k=>Kf k w) (fun r=>r=Lua w):=by
 unfold Kf Lua
 refine Tot.bind (Q5a w hw) ?_
 rintro b rfl
 cases Cba w with
 |false=>exact Tot.yes rfl (Tot.pure rfl)
 |true=>
  refine Tot.no rfl (Tot.bind (Hoa w hw) ?_)
  rintro b rfl
  cases Mn w with
  |false=>exact Tot.yes rfl (Tot.pure rfl)
  |true=>
   refine Tot.no rfl (Tot.bind (Lta w hw) ?_)
   rintro b rfl
   cases Ot w with
   |false=>exact Tot.yes rfl (Tot.pure rfl)
   |true=>
    refine Tot.no rfl (Tot.bind (Tua w hw) ?_)
    rintro b rfl
    cases Cga w with
    |false=>exact Tot.yes rfl (Tot.pure rfl)
    |true=>
     refine Tot.no rfl (Tot.bind (Hqa w hw) ?_)
     rintro b rfl
     cases Mo w with
     |false=>exact Tot.yes rfl (Tot.pure rfl)
     |true=>exact Tot.no rfl (Tot.pure rfl)
end Go.Proofs.YtflokceoeiplcaaGreat.Vf
end

section
set_option linter.unusedVariables false
set_option linter.unusedSimpArgs false
namespace Go.Proofs.YtflokceoeiplcaaGreat.Vf
open Go
def run {α:Type} (st:α→Nat→α) (n:Nat) (a:α):α:=(List.range n).foldl st a
theorem Sh {α:Type} (st:α→Nat→α) (n:Nat) (a:α):run st (n+1) a=st (run st n a) n:=by
 unfold run
 rw [List.range_succ,List.foldl_append]
 rfl
theorem Txa {α:Type} {st:α→Nat→α} {a:α} {j n:Nat} (hj:j≤n) (h:∀ i,st (run st j a) i=run st j a):run st n a=run st j a:=by
 obtain ⟨m,rfl⟩:=Nat.exists_eq_add_of_le hj
 induction m with
 |zero=>rfl
 |succ m ih=>rw [← Nat.add_assoc,Sh,ih (by omega),h]
theorem Pu {α:Type} {st:α→Nat→α} (P:Nat→α→Prop) {n:Nat} {a:α} (h0:P 0 a) (hs:∀ j b,j<n→P j b→P (j+1) (st b j)):P n (run st n a):=by
 have:∀ m,m≤n→P m (run st m a):=by
  intro m
  induction m with
  |zero=>intro _; exact h0
  |succ m ih=>intro hm; rw [Sh]; exact hs m _ (by omega) (ih (by omega))
 exact this n (Nat.le_refl _)
def NS (ns:List Nod):Prop:=ns.length≤1000∧∀ n∈ns,NG n
theorem NS.set {ns:List Nod} (h:NS ns) {i:Nat} {n:Nod} (hn:NG n):NS (ns.set i n):=⟨by rw [List.length_set]; exact h.1,fun m hm=>by
 rcases List.mem_or_eq_of_mem_set hm with hm|rfl
 ·exact h.2 m hm
 ·exact hn⟩
theorem NS.get {ns:List Nod} (h:NS ns) {i:Nat} (hi:i<ns.length):NG (ns.getD i Ch):=h.2 _ (A3 hi)
abbrev wN (w:Wld) (ns:List Nod):Wld:=(w.1,w.2.1,ns,w.2.2.2)
def Ni (c:Stp) (t d:Int):Stp:=bif decide (t≤c.1) then (bif Gk (c.1,c.2.1+1,d) then (c.1,c.2.1+1,d) else c) else (bif Gk (t,0,d) then (t,0,d) else c)
theorem Qfa {c:Stp} (hc:Gk c=true) (t d:Int):Fu c t d=some (Ni c t d):=by
 have h2:0≤c.2.1∧c.2.1≤1000000:=by
  unfold Gk at hc
  rw [Bool.and_eq_true,Bool.and_eq_true,Gv,Gv] at hc
  exact hc.2.1
 unfold Fu Ni
 rw [w64 (n:=c.2.1+1) (by omega) (by omega)]
 simp only [S6,Option.bind_some]
 cases decide (t≤c.1) with
 |true=>cases Gk (c.1,c.2.1+1,d)<;>rfl
 |false=>cases Gk (t,0,d)<;>rfl
theorem K7a {c:Stp} (hc:Gk c=true) (t d:Int):Gk (Ni c t d)=true∧(Ni c t d=c∨sle c (Ni c t d)=true):=by
 unfold Ni
 by_cases h:t≤c.1
 ·rw [decide_eq_true h,cond_true]
  cases hs:Gk (c.1,c.2.1+1,d) with
  |true=>exact ⟨hs,.inr (Pk.2 (.inr ⟨rfl,.inl (by show c.2.1<c.2.1+1; omega)⟩))⟩
  |false=>exact ⟨hc,.inl rfl⟩
 ·rw [decide_eq_false h,cond_false]
  cases hs:Gk (t,0,d) with
  |true=>exact ⟨hs,.inr (Pk.2 (.inl (by show c.1<t; omega)))⟩
  |false=>exact ⟨hc,.inl rfl⟩
def wst (R:Int) (rc:List Int) (s:ByteArray) (f:Fil) (cs:List Int) (a:List Nod×Int×Int) (j:Nat):List Nod×Int×Int:=
 bif decide (a.2.1<R) then (bif rch rc j==0 then a else
  (a.1.set (cs.getD j 0).toNat (Xd (a.1.getD (cs.getD j 0).toNat Ch) s f (rch rc j != 3)).1,a.2.1+1,
   bif rch rc j==1&&((Xd (a.1.getD (cs.getD j 0).toNat Ch) s f (rch rc j != 3)).2==0 || (Xd (a.1.getD (cs.getD j 0).toNat Ch) s f (rch rc j != 3)).2==1) then a.2.2+1 else a.2.2))
 else a
def wrN (w:Wld) (s:ByteArray) (f:Fil) (rc:List Int):List Nod×Int×Int:=run (wst w.2.1.1 rc s f (J4 w s)) (J4 w s).length (w.2.2.1,0,0)
def F2a (w:Wld) (s:ByteArray) (f:Fil) (rc:List Int):Int×Wld:=
 (bif decide ((wrN w s f rc).2.2≥quo w.2.1.1) then 0 else 1,(w.1,w.2.1,(wrN w s f rc).1,w.2.2.2.1,w.2.2.2.2.1++[(s,f,decide ((wrN w s f rc).2.2≥quo w.2.1.1))],w.2.2.2.2.2))
theorem Xp {w:Wld} {s:ByteArray} {x:Int} (h:x∈J4 w s):0≤x∧x<(w.2.2.1.length:Int):=by
 obtain ⟨j,h1,_,rfl⟩:=Cda.1 h
 omega
theorem Zxa {R:Int} {rc:List Int} {s:ByteArray} {f:Fil} {cs:List Int} {a:List Nod×Int×Int} {j m:Nat} (hs:Ce s=true) (hf:H3 f=true) (h:NS a.1∧a.1.length=m∧(0≤a.2.1∧a.2.1≤j)∧0≤a.2.2∧a.2.2≤j) (hc:(cs.getD j 0).toNat<m):
  let b:=wst R rc s f cs a j
  NS b.1∧b.1.length=m∧(0≤b.2.1∧b.2.1≤((j+1:Nat):Int))∧0≤b.2.2∧b.2.2≤((j+1:Nat):Int):=by
 obtain ⟨h1,h2,h3,h4,h5⟩:=h
 intro b
 have hb:b=wst R rc s f cs a j:=rfl
 unfold wst at hb
 cases hR:decide (a.2.1<R) with
 |false=>rw [hR,cond_false] at hb; rw [hb]; exact ⟨h1,h2,⟨h3.1,by omega⟩,h4,by omega⟩
 |true=>
  rw [hR,cond_true] at hb
  cases hr:rch rc j==0 with
  |true=>rw [hr,cond_true] at hb; rw [hb]; exact ⟨h1,h2,⟨h3.1,by omega⟩,h4,by omega⟩
  |false=>
   rw [hr,cond_false] at hb
   rw [hb]
   refine ⟨h1.set (V4a (h1.get (by omega)) hs hf),by rw [List.length_set]; exact h2,⟨by dsimp only; omega,by dsimp only; omega⟩,?_⟩
   dsimp only
   cases rch rc j==1&&((Xd (a.1.getD (cs.getD j 0).toNat Ch) s f (rch rc j != 3)).2==0 || (Xd (a.1.getD (cs.getD j 0).toNat Ch) s f (rch rc j != 3)).2==1)
   ·exact ⟨h4,by rw [cond_false]; omega⟩
   ·exact ⟨by rw [cond_true]; omega,by rw [cond_true]; omega⟩
theorem Lva (w:Wld) (s:ByteArray) (f:Fil) (rc:List Int) (hr:Hu w.2.1 w.1=true) (hn:NS w.2.2.1) (hs:Ce s=true) (hf:H3 f=true) (hw:w.2.2.2.2.1.length≤1000):
  Tot (fun k=>Bd k w s f rc) (fun r=>r=F2a w s f rc):=by
 have hsz:s.size≤1000000000:=by
  have:=Gv.1 (Bool.and_eq_true _ _ ▸ hs:_∧_).2
  omega
 obtain ⟨_,hR,_⟩:=Cz.1 hr
 unfold Bd F2a
 refine Tot.bind (Eya w s hr hn.1 hsz) ?_
 rintro cs rfl
 have hc:=fun x=>Xp (w:=w) (s:=s) (x:=x)
 have hcl:(J4 w s).length≤1000000:=by
  unfold J4
  refine Qf hn.1 ?_
  have h5:=(Cz.1 hr).2.1
  have p2:=(C9a hr s).2.1
  have h12:=(H4.1 (Cz.1 hr).1).2.2.2
  have hh:=Tp w.2.1 w.1 s
  rw [List.length_append]; omega
 have hrun:wrN w s f rc=run (wst w.2.1.1 rc s f (J4 w s)) (J4 w s).length (w.2.2.1,0,0):=rfl
 have inv:∀ n,n≤(J4 w s).length→NS (run (wst w.2.1.1 rc s f (J4 w s)) n (w.2.2.1,0,0)).1∧(run (wst w.2.1.1 rc s f (J4 w s)) n (w.2.2.1,0,0)).1.length=w.2.2.1.length∧(0≤(run (wst w.2.1.1 rc s f (J4 w s)) n (w.2.2.1,0,0)).2.1∧(run (wst w.2.1.1 rc s f (J4 w s)) n (w.2.2.1,0,0)).2.1≤n)∧0≤(run (wst w.2.1.1 rc s f (J4 w s)) n (w.2.2.1,0,0)).2.2∧(run (wst w.2.1.1 rc s f (J4 w s)) n (w.2.2.1,0,0)).2.2≤n:=by
  intro n hn'
  refine Pu (fun j (b:List Nod×Int×Int)=>NS b.1∧b.1.length=w.2.2.1.length∧(0≤b.2.1∧b.2.1≤(j:Int))∧0≤b.2.2∧b.2.2≤(j:Int)) ⟨hn,rfl,⟨Int.le_refl _,Int.le_refl _⟩,Int.le_refl _,Int.le_refl _⟩ (fun j b hj hb=>Zxa hs hf hb ?_)
  have:=hc _ (A3 (d:=0) (show j<(J4 w s).length by omega))
  omega
 generalize hcs:J4 w s=cs at *
 refine Tot.bind (Q:=fun r=>r=(s,(wrN w s f rc).2.2,wN w (wrN w s f rc).1,f)) ?_ ?_
 ·refine Tot.up (L:=fun k i (a:List Nod×Int×Int)=>As k s rc cs a.2.1 a.2.2 i (wN w a.1) f) (Q:=fun r=>r=(s,(wrN w s f rc).2.2,wN w (wrN w s f rc).1,f)) cs.length (fun j a=>a=run (wst w.2.1.1 rc s f cs) j (w.2.2.1,0,0)) ?_ ?_ 0 (w.2.2.1,0,0) (Nat.zero_le _) rfl
  ·rintro a rfl
   simp (disch:=omega) only [As,dF]
   exact Tot.pure (by rw [hrun])
  ·rintro j a hj rfl next
   obtain ⟨i1,i2,i3,i4,i5⟩:=inv j (by omega)
   rw [Sh] at next
   have hst:=Txa (st:=wst w.2.1.1 rc s f cs) (a:=(w.2.2.1,(0:Int),(0:Int))) (j:=j) (n:=cs.length) (by omega)
   generalize run (wst w.2.1.1 rc s f cs) j (w.2.2.1,0,0)=a at *
   obtain ⟨ns,o,g⟩:=a
   dsimp only at i1 i2 i3 i4 i5
   have hci:=hc _ (A3 (d:=0) hj)
   obtain ⟨i,ei⟩:∃ i:Nat,cs.getD j 0=(i:Int):=⟨(cs.getD j 0).toNat,by omega⟩
   rw [ei] at hci
   unfold wst at next
   rw [ei,Int.toNat_natCast] at next
   simp (disch:=omega) only [As,dT,wN]
   refine Tot.dite (fun hR'=>?_) (fun hR'=>Tot.pure ?_)
   ·dsimp only at next
    rw [decide_eq_true hR'] at next
    simp only [Hma,Option.bind_some]
    cases h0:rch rc j==0 with
    |true=>
     rw [h0] at next
     simp (disch:=omega) only [w64]
     exact Tot.yes rfl (next _ rfl)
    |false=>
     rw [h0] at next
     have e0:ns.getD i ((0:Int),(([],[]),([],[])))=ns.getD i Ch:=rfl
     simp (disch:=omega) only [dT,Int.toNat_natCast,w64,ei,e0,cond_false]
     refine Tot.bind (Pka (ns.getD i Ch) s f (rch rc j != 3) (Lha (i1.get (by omega))) (Jx hs)) ?_
     rintro p rfl
     dsimp only at next ⊢
     generalize Xd (ns.getD i Ch) s f (rch rc j != 3)=p at *
     cases h1:rch rc j==1 with
     |false=>
      rw [h1] at next
      exact Tot.no rfl (next _ rfl)
     |true=>
      rw [h1] at next
      refine Tot.yes rfl ?_
      cases h2:p.2==0 with
      |true=>rw [h2] at next; exact Tot.yes rfl (next _ rfl)
      |false=>
       rw [h2] at next
       refine Tot.no rfl ?_
       cases h3:p.2==1 with
       |true=>rw [h3] at next; exact Tot.yes rfl (next _ rfl)
       |false=>rw [h3] at next; exact Tot.no rfl (next _ rfl)
   ·rw [hrun,hst (fun i=>by unfold wst; dsimp only; rw [decide_eq_false hR']; rfl)]
 ·rintro r rfl
  obtain ⟨_,_,_,h4,h5⟩:=inv cs.length (Nat.le_refl _)
  dsimp only [wN]
  rw [Xja (by omega) (by omega)]
  have ec:Di f=some f:=by
   have:=(Kt.1 hf).2.1
   unfold Di
   rw [bT (by simp only [List.length_nil]; omega),List.nil_append]
  rw [ec]
  simp only [Option.bind_some]
  refine Tot.ble (by simp only [List.length_cons,List.length_nil]; omega) ?_
  cases decide ((wrN w s f rc).2.2≥quo w.2.1.1) with
  |true=>exact Tot.pure rfl
  |false=>exact Tot.pure rfl
def ask (w:Wld) (s:ByteArray) (f:Fil) (t:Int) (rc:List Int):Int×Wld:=
 bif !(Ce s) then (2,w) else bif decide ((f.2.2.length:Int) > 200) then (2,w) else bif !(inR t 0 1000000000) then (2,w) else
 bif (w.2.2.2.2.1.length:Int)==200 then (3,w) else
 bif (Ni w.2.2.2.1 t 0).1==w.2.2.2.1.1&&((Ni w.2.2.2.1 t 0).2.1==w.2.2.2.1.2.1&&(Ni w.2.2.2.1 t 0).2.2==w.2.2.2.1.2.2) then (3,w) else
 F2a (w.1,w.2.1,w.2.2.1,Ni w.2.2.2.1 t 0,w.2.2.2.2) s (Ni w.2.2.2.1 t 0,f.2) rc
theorem Qga (w:Wld) (s:ByteArray) (f:Fil) (t:Int) (rc:List Int) (hr:Hu w.2.1 w.1=true) (hn:NS w.2.2.1) (hst:Gk w.2.2.2.1=true) (hs:Ky s) (hd:f.2.1=true→f.2.2=[]) (hw:w.2.2.2.2.1.length≤1000):
  Tot (fun k=>Gn k w s f t rc) (fun r=>r=ask w s f t rc):=by
 unfold Gn ask
 refine Tot.bind (Oi s hs) ?_
 rintro b rfl
 cases hs':Ce s with
 |false=>exact Tot.yes rfl (Tot.pure rfl)
 |true=>
  refine Tot.no rfl ?_
  rw [Bool.not_true,cond_false]
  by_cases hl:(f.2.2.length:Int) > 200
  ·rw [decide_eq_true hl]; exact Tot.yes rfl (Tot.pure rfl)
  ·rw [decide_eq_false hl,cond_false]
   refine Tot.no rfl ?_
   simp only [Mi,Qfa hst,Option.bind_some]
   cases inR t 0 1000000000 with
   |false=>exact Tot.yes rfl (Tot.pure rfl)
   |true=>
    refine Tot.no rfl ?_
    rw [Bool.not_true,cond_false]
    cases (w.2.2.2.2.1.length:Int)==200 with
    |true=>exact Tot.yes rfl (Tot.pure rfl)
    |false=>
     refine Tot.no rfl ?_
     rw [cond_false]
     cases (Ni w.2.2.2.1 t 0).1==w.2.2.2.1.1&&((Ni w.2.2.2.1 t 0).2.1==w.2.2.2.1.2.1&&(Ni w.2.2.2.1 t 0).2.2==w.2.2.2.1.2.2) with
     |true=>exact Tot.yes rfl (Tot.pure rfl)
     |false=>
      refine Tot.no rfl (Tot.bind (Lva (w.1,w.2.1,w.2.2.1,Ni w.2.2.2.1 t 0,w.2.2.2.2) s (Ni w.2.2.2.1 t 0,f.2) rc hr hn hs' (Kt.2 ⟨(K7a hst t 0).1,by show f.2.2.length≤200; omega,hd⟩) hw) ?_)
      rintro r rfl
      exact Tot.pure rfl
def pst (src:Int) (s:ByteArray) (f:Fil) (rc ps:List Int) (a:List Nod×Bool×Bool) (j:Nat):List Nod×Bool×Bool:=
 bif ps.getD j 0==src then (a.1,true,a.2.2) else bif rch rc j != 1 then (a.1,a.2.1,false) else
  (a.1.set (ps.getD j 0).toNat ((a.1.getD (ps.getD j 0).toNat Ch).1,(keep (a.1.getD (ps.getD j 0).toNat Ch).2.1 s f true).1,(a.1.getD (ps.getD j 0).toNat Ch).2.2),a.2.1,
   bif (keep (a.1.getD (ps.getD j 0).toNat Ch).2.1 s f true).2 != 0&&(keep (a.1.getD (ps.getD j 0).toNat Ch).2.1 s f true).2 != 1 then false else a.2.2)
def Rb (w:Wld) (s:ByteArray):List Int:=whr w.2.2.1 (Uj w.2.1 s)
def puN (w:Wld) (i:Nat) (s:ByteArray) (rc:List Int):List Nod×Bool×Bool:=run (pst (i:Int) s (lkD (w.2.2.1.getD i Ch).2.1 s).1 rc (Rb w s)) (Rb w s).length (w.2.2.1,false,true)
def Bfb (n:Nod) (s:ByteArray):Nod:=(n.1,(syD (rmD n.2.1 s).1 s).1,n.2.2)
def Qha (w:Wld) (i:Nat) (s:ByteArray) (rc:List Int):Bool×Wld:=bif (lkD (w.2.2.1.getD i Ch).2.1 s).2 != 0 then (false,w) else
 (true,wN w (bif (puN w i s rc).2.2 && !(puN w i s rc).2.1 then (puN w i s rc).1.set i (Bfb ((puN w i s rc).1.getD i Ch) s) else (puN w i s rc).1))
theorem Zya {n:Nod} (hn:NG n) {s:ByteArray} (hs:Ce s=true):NG (Bfb n s):=C8a hn (Zma (X4a hn.g) hs)
theorem Qia {n:Nod} (hn:NG n) {s:ByteArray} {f:Fil} {sure:Bool}:NG (n.1,(keep n.2.1 s f sure).1,n.2.2):=C8a hn (V3a hn.g)
theorem Vca {src:Int} {s:ByteArray} {f:Fil} {rc ps:List Int} {a:List Nod×Bool×Bool} {j m:Nat} (h:NS a.1∧a.1.length=m) (hc:(ps.getD j 0).toNat<m):NS (pst src s f rc ps a j).1∧(pst src s f rc ps a j).1.length=m:=by
 unfold pst
 cases ps.getD j 0==src with
 |true=>exact h
 |false=>
  cases rch rc j != 1 with
  |true=>exact h
  |false=>exact ⟨h.1.set (Qia (h.1.get (by have:=h.2; omega))),by rw [cond_false,cond_false,List.length_set]; exact h.2⟩
theorem Um {w:Wld} {s:ByteArray} {x:Int} (h:x∈Rb w s):0≤x∧x<(w.2.2.1.length:Int):=by
 obtain ⟨j,h1,_,rfl⟩:=Cda.1 h
 omega
theorem Qja {w:Wld} {s:ByteArray} (hr:Hu w.2.1 w.1=true) (hn:w.2.2.1.length≤1000):(Rb w s).length≤1000000:=Qf hn (Ul (N0 hr) s)
theorem A0b {w:Wld} {i:Nat} {s:ByteArray} {rc:List Int} (hn:NS w.2.2.1):NS (puN w i s rc).1∧(puN w i s rc).1.length=w.2.2.1.length:=
 Pu (fun _ (b:List Nod×Bool×Bool)=>NS b.1∧b.1.length=w.2.2.1.length) ⟨hn,rfl⟩ (fun j b hj hb=>Vca hb (by have:=Um (A3 (d:=0) hj); omega))
theorem Tya (w:Wld) (i:Nat) (s:ByteArray) (rc:List Int) (hr:Hu w.2.1 w.1=true) (hn:NS w.2.2.1) (hi:i<w.2.2.1.length):Tot (fun k=>Bz k w (i:Int) s rc) (fun r=>r=Qha w i s rc):=by
 have hni:=hn.get hi
 unfold Bz Qha
 have e0:w.2.2.1.getD i ((0:Int),(([],[]),([],[])))=w.2.2.1.getD i Ch:=rfl
 simp (disch:=omega) only [dT,Int.toNat_natCast,e0]
 have hin:=(Lha hni).1
 refine Tot.bind (Ug hin.1.1.1.1 hin.2.1 s) ?_
 rintro r rfl
 cases hl:(lkD (w.2.2.1.getD i Ch).2.1 s).2 != 0 with
 |true=>exact Tot.yes rfl (Tot.pure rfl)
 |false=>
  refine Tot.no rfl ?_
  rw [cond_false]
  have hlk:∃ b,gt (w.2.2.1.getD i Ch).2.1.1 s=some b:=by
   rw [bne,Bool.not_eq_false',beq_iff_eq] at hl
   obtain ⟨b,hb,_⟩:=Xc.1 (show lkD (w.2.2.1.getD i Ch).2.1 s=((lkD (w.2.2.1.getD i Ch).2.1 s).1,0) from by rw [← hl])
   exact ⟨b,hb⟩
  have hs:Ce s=true:=X3a hni.g.1 (by obtain ⟨b,hb⟩:=hlk; rw [hb]; rfl)
  have hsz:s.size≤1000000000:=by
   have:=Gv.1 (Bool.and_eq_true _ _ ▸ hs:_∧_).2
   omega
  refine Tot.bind (Uk _ s (N0 hr) hsz) ?_
  rintro p rfl
  refine Tot.bind (Qg w _ hn.1 (Ul (N0 hr) s)) ?_
  rintro p rfl
  have hpl:=Qja (s:=s) hr hn.1
  have hc:=fun x=>Um (w:=w) (s:=s) (x:=x)
  have hrun:puN w i s rc=run (pst (i:Int) s (lkD (w.2.2.1.getD i Ch).2.1 s).1 rc (Rb w s)) (Rb w s).length (w.2.2.1,false,true):=rfl
  obtain ⟨p1,p2⟩:=A0b (w:=w) (i:=i) (s:=s) (rc:=rc) hn
  have inv:∀ n,n≤(Rb w s).length→NS (run (pst (i:Int) s (lkD (w.2.2.1.getD i Ch).2.1 s).1 rc (Rb w s)) n (w.2.2.1,false,true)).1∧(run (pst (i:Int) s (lkD (w.2.2.1.getD i Ch).2.1 s).1 rc (Rb w s)) n (w.2.2.1,false,true)).1.length=w.2.2.1.length:=fun n hn'=>
   Pu (fun _ (b:List Nod×Bool×Bool)=>NS b.1∧b.1.length=w.2.2.1.length) ⟨hn,rfl⟩ (fun j b hj hb=>Vca hb (by have:=hc _ (A3 (d:=0) (show j<(Rb w s).length by omega)); omega))
  rw [show whr w.2.2.1 (Uj w.2.1 s)=Rb w s from rfl]
  generalize (lkD (w.2.2.1.getD i Ch).2.1 s).1=f at *
  generalize Rb w s=ps at *
  refine Tot.bind (Q:=fun r=>r=((i:Int),s,(puN w i s rc).2.1,(puN w i s rc).2.2,wN w (puN w i s rc).1)) ?_ ?_
  ·refine Tot.up (L:=fun k j (a:List Nod×Bool×Bool)=>B4 k (i:Int) s rc ps a.2.1 a.2.2 j (wN w a.1) f) (Q:=fun r=>r=((i:Int),s,(puN w i s rc).2.1,(puN w i s rc).2.2,wN w (puN w i s rc).1)) ps.length (fun j a=>a=run (pst (i:Int) s f rc ps) j (w.2.2.1,false,true)) ?_ ?_ 0 (w.2.2.1,false,true) (Nat.zero_le _) rfl
   ·rintro a rfl
    simp (disch:=omega) only [B4,dF]
    exact Tot.pure (by rw [hrun])
   ·rintro j a hj rfl next
    obtain ⟨i1,i2⟩:=inv j (by omega)
    rw [Sh] at next
    generalize run (pst (i:Int) s f rc ps) j (w.2.2.1,false,true)=a at *
    obtain ⟨ns,o,g⟩:=a
    dsimp only at i1 i2
    have hci:=hc _ (A3 (d:=0) hj)
    obtain ⟨m,em⟩:∃ m:Nat,ps.getD j 0=(m:Int):=⟨(ps.getD j 0).toNat,by omega⟩
    rw [em] at hci
    unfold pst at next
    rw [em,Int.toNat_natCast] at next
    have e0:ns.getD m ((0:Int),(([],[]),([],[])))=ns.getD m Ch:=rfl
    simp (disch:=omega) only [B4,dT,Int.toNat_natCast,w64,em,wN]
    cases hz:(m:Int)==(i:Int) with
    |true=>
     rw [hz] at next
     exact Tot.yes rfl (next _ rfl)
    |false=>
     rw [hz] at next
     refine Tot.no rfl ?_
     simp only [Hma,Option.bind_some]
     cases h1:rch rc j != 1 with
     |true=>
      rw [h1] at next
      exact Tot.yes rfl (next _ rfl)
     |false=>
      rw [h1] at next
      refine Tot.no rfl ?_
      simp (disch:=omega) only [dT,Int.toNat_natCast,e0]
      have hm:=Lha (i1.get (i:=m) (by omega))
      refine Tot.bind (Jpa (ns.getD m Ch).2.1 s f true hm.1.1 hm.1.2.1 (Jx hs)) ?_
      rintro q rfl
      dsimp only at next
      generalize keep (ns.getD m Ch).2.1 s f true=q at *
      cases h2:q.2 != 0 with
      |false=>rw [h2] at next; exact Tot.no rfl (next _ rfl)
      |true=>
       rw [h2] at next
       refine Tot.yes rfl ?_
       cases h3:q.2 != 1 with
       |true=>rw [h3] at next; exact Tot.yes rfl (next _ rfl)
       |false=>rw [h3] at next; exact Tot.no rfl (next _ rfl)
  ·rintro r rfl
   dsimp only [wN]
   generalize puN w i s rc=a at *
   obtain ⟨ns,o,g⟩:=a
   dsimp only at p1 p2 ⊢
   cases g with
   |false=>exact Tot.no rfl (Tot.pure rfl)
   |true=>
    refine Tot.yes rfl ?_
    cases o with
    |true=>exact Tot.no rfl (Tot.pure rfl)
    |false=>
     refine Tot.yes rfl ?_
     have e0:ns.getD i ((0:Int),(([],[]),([],[])))=ns.getD i Ch:=rfl
     have hil:(i:Int)<(ns.length:Int):=by omega
     simp (disch:=omega) only [dT,Int.toNat_natCast,e0]
     have hg:=(p1.get (i:=i) (by omega)).g
     refine Tot.bind (Xb hg.1 (Jx hs)) ?_
     rintro q rfl
     refine Tot.bind (Xa (X4a hg).1 hs) ?_
     rintro q rfl
     exact Tot.pure rfl
end Go.Proofs.YtflokceoeiplcaaGreat.Vf
end

section
set_option linter.unusedVariables false
set_option linter.unusedSimpArgs false
namespace Go.Proofs.YtflokceoeiplcaaGreat.Vf
open Go
def tk (n:Nod) (l:List Row):Bool×Nod:=bif decide ((Bya n.2.2.1 l).length > 60) then (false,n) else (true,(n.1,n.2.1,Bya n.2.2.1 l,n.2.2.2))
theorem Bgb {n:Nod} {l:List Row} (hn:NG n) (hl:Kk l=true):NG (tk n l).2:=by
 obtain ⟨h1,h2,h3,h4,h5⟩:=Fc.1 hn.1
 unfold tk
 by_cases h:(Bya n.2.2.1 l).length > 60
 ·rw [decide_eq_true h]; exact hn
 ·rw [decide_eq_false h]
  exact ⟨Fc.2 ⟨h1,h2,h3,H8a h4 hl (by omega),h5⟩,hn.2⟩
def gst (src:Int) (l:List Row) (self:Bool) (rc ls:List Int) (a:List Nod×Bool) (j:Nat):List Nod×Bool:=
 bif ls.getD j 0==src && !self then a else bif rch rc j != 1 then (a.1,false) else
  (a.1.set (ls.getD j 0).toNat (tk (a.1.getD (ls.getD j 0).toNat Ch) l).2,bif (tk (a.1.getD (ls.getD j 0).toNat Ch) l).1 then a.2 else false)
def Pv (w:Wld) (src:Int) (l:List Row) (self:Bool) (rc:List Int):List Nod×Bool:=run (gst src l self rc (K6 w)) (K6 w).length (w.2.2.1,true)
theorem Vda {src:Int} {l:List Row} {self:Bool} {rc ls:List Int} {a:List Nod×Bool} {j m:Nat} (hl:Kk l=true) (h:NS a.1∧a.1.length=m) (hc:(ls.getD j 0).toNat<m):NS (gst src l self rc ls a j).1∧(gst src l self rc ls a j).1.length=m:=by
 unfold gst
 cases ls.getD j 0==src && !self with
 |true=>exact h
 |false=>
  cases rch rc j != 1 with
  |true=>exact h
  |false=>exact ⟨h.1.set (Bgb (h.1.get (by have:=h.2; omega)) hl),by rw [cond_false,cond_false,List.length_set]; exact h.2⟩
theorem Tf {w:Wld} {x:Int} (h:x∈K6 w):0≤x∧x<(w.2.2.1.length:Int):=by
 obtain ⟨j,h1,_,rfl⟩:=Cda.1 h
 omega
theorem Xq {w:Wld} (hr:RBd w.2.1) (hn:w.2.2.1.length≤1000):(K6 w).length≤1000000:=Qf hn (Ul hr _)
theorem K8a {w:Wld} {src:Int} {l:List Row} {self:Bool} {rc:List Int} (hl:Kk l=true) (hn:NS w.2.2.1):NS (Pv w src l self rc).1∧(Pv w src l self rc).1.length=w.2.2.1.length:=
 Pu (fun _ (b:List Nod×Bool)=>NS b.1∧b.1.length=w.2.2.1.length) ⟨hn,rfl⟩ (fun j b hj hb=>Vda hl hb (by have:=Tf (A3 (d:=0) hj); omega))
theorem K9a (w:Wld) (src:Int) (l:List Row) (self:Bool) (rc:List Int) (hr:RBd w.2.1) (hn:NS w.2.2.1) (hl:Kk l=true):
  Tot (fun k=>B5 k w src l self rc) (fun r=>r=((Pv w src l self rc).2,wN w (Pv w src l self rc).1)):=by
 have hll:=(Pja hl).1
 unfold B5
 refine Tot.bind (Xl w hr hn.1) ?_
 rintro p rfl
 have hpl:=Xq hr hn.1
 have hc:=fun x=>Tf (w:=w) (x:=x)
 have hrun:Pv w src l self rc=run (gst src l self rc (K6 w)) (K6 w).length (w.2.2.1,true):=rfl
 have inv:∀ n,n≤(K6 w).length→NS (run (gst src l self rc (K6 w)) n (w.2.2.1,true)).1∧(run (gst src l self rc (K6 w)) n (w.2.2.1,true)).1.length=w.2.2.1.length:=fun n hn'=>
  Pu (fun _ (b:List Nod×Bool)=>NS b.1∧b.1.length=w.2.2.1.length) ⟨hn,rfl⟩ (fun j b hj hb=>Vda hl hb (by have:=hc _ (A3 (d:=0) (show j<(K6 w).length by omega)); omega))
 generalize K6 w=ls at *
 refine Tot.bind (Q:=fun r=>r=((Pv w src l self rc).2,wN w (Pv w src l self rc).1)) ?_ (by rintro r rfl; exact Tot.pure rfl)
 refine Tot.up (L:=fun k j (a:List Nod×Bool)=>Ac k src l self rc ls a.2 j (wN w a.1)) (Q:=fun r=>r=((Pv w src l self rc).2,wN w (Pv w src l self rc).1)) ls.length (fun j a=>a=run (gst src l self rc ls) j (w.2.2.1,true)) ?_ ?_ 0 (w.2.2.1,true) (Nat.zero_le _) rfl
 ·rintro a rfl
  simp (disch:=omega) only [Ac,dF]
  exact Tot.pure (by rw [hrun])
 ·rintro j a hj rfl next
  obtain ⟨i1,i2⟩:=inv j (by omega)
  rw [Sh] at next
  generalize run (gst src l self rc ls) j (w.2.2.1,true)=a at *
  obtain ⟨ns,g⟩:=a
  dsimp only at i1 i2
  have hci:=hc _ (A3 (d:=0) hj)
  obtain ⟨m,em⟩:∃ m:Nat,ls.getD j 0=(m:Int):=⟨(ls.getD j 0).toNat,by omega⟩
  rw [em] at hci
  unfold gst at next
  rw [em,Int.toNat_natCast] at next
  have e0:ns.getD m ((0:Int),(([],[]),([],[])))=ns.getD m Ch:=rfl
  have hm:=Lha (i1.get (i:=m) (by omega))
  have h12:=Lja (ns.getD m Ch) l hm.2.1.1 hll
  rw [show (bif decide ((Bya (ns.getD m Ch).2.2.1 l).length > 60) then (false,(ns.getD m Ch)) else (true,((ns.getD m Ch).1,(ns.getD m Ch).2.1,Bya (ns.getD m Ch).2.2.1 l,(ns.getD m Ch).2.2.2)))=tk (ns.getD m Ch) l from rfl] at h12
  have body:(bif (m:Int)==src && !self then false else true)=true→Tot (fun k=>(Bf rc (j:Int)).bind fun r2=>cond (r2 != 1) (Ac k src l self rc ls false ((j:Int)+1) (wN w ns)) (cond (decide ((0:Int)≤(m:Int))) (cond (decide ((m:Int)<(List.length ns:Int))) ((Gy k (ns.getD m Ch) l).bind fun r5=>cond (!r5.1) (Ac k src l self rc ls false ((j:Int)+1) (wN w (ns.set m r5.2))) (Ac k src l self rc ls g ((j:Int)+1) (wN w (ns.set m r5.2)))) none) none)) (fun r=>r=((Pv w src l self rc).2,wN w (Pv w src l self rc).1)):=by
   intro hb
   have hb':((m:Int)==src && !self)=false:=by
    cases hx:((m:Int)==src && !self) with
    |false=>rfl
    |true=>rw [hx] at hb; cases hb
   rw [hb'] at next
   simp only [Hma,Option.bind_some]
   cases h1:rch rc j != 1 with
   |true=>
    rw [h1] at next
    exact Tot.yes rfl (next _ rfl)
   |false=>
    rw [h1] at next
    refine Tot.no rfl (Tot.dec (by omega) (Tot.dec (by omega) (Tot.bind h12 ?_)))
    rintro q rfl
    dsimp only at next
    generalize tk (ns.getD m Ch) l=q at *
    cases h2:q.1 with
    |false=>rw [h2] at next; exact Tot.yes rfl (next _ rfl)
    |true=>rw [h2] at next; exact Tot.no rfl (next _ rfl)
  simp (disch:=omega) only [Ac,dT,Int.toNat_natCast,w64,em,e0]
  cases hz:(m:Int)==src with
  |true=>
   rw [hz] at next body
   refine Tot.yes rfl ?_
   cases self with
   |false=>exact Tot.yes rfl (next _ rfl)
   |true=>
    refine Tot.no rfl ?_
    have:=body rfl
    dsimp only [wN] at this ⊢
    simp (disch:=omega) only [dT] at this
    exact this
  |false=>
   rw [hz] at next body
   refine Tot.no rfl ?_
   have:=body rfl
   dsimp only [wN] at this ⊢
   simp (disch:=omega) only [dT] at this
   exact this
theorem Lwa {r:Row} (h:Lx r=true):Kk [r]=true:=Mq.2 ⟨List.pairwise_singleton _ _,fun x hx=>by rw [List.mem_singleton.1 hx]; exact h,by simp⟩
theorem Tg:Kk []=true:=Mq.2 ⟨List.Pairwise.nil,(fun _ hx=>nomatch hx),Nat.zero_le _⟩
def Vea (n:Nod):Nod:=(n.1,n.2.1,[],n.2.2.2)
def Bhb (n:Nod) (q:List Row):Nod:=(n.1,n.2.1,n.2.2.1,q)
theorem Tza {n:Nod} (hn:NG n):NG (Vea n):=by
 obtain ⟨h1,h2,h3,h4,h5⟩:=Fc.1 hn.1
 exact ⟨Fc.2 ⟨h1,h2,h3,Tg,h5⟩,hn.2⟩
theorem A1b {n:Nod} {q:List Row} (hn:NG n) (h:∀ r∈q,Lx r=true) (hl:q.length≤60):NG (Bhb n q):=by
 obtain ⟨h1,h2,h3,h4,h5⟩:=Fc.1 hn.1
 exact ⟨Fc.2 ⟨h,h2,h3,h4,hl⟩,hn.2⟩
def Xr (w:Wld) (i:Nat) (rc:List Int):List Nod×Bool:=Pv w (i:Int) (w.2.2.1.getD i Ch).2.2.1 false rc
def Qka (w:Wld) (i:Nat) (rc:List Int):Bool×Wld:=bif ((w.2.2.1.getD i Ch).2.2.1.length:Int)==0 then (false,w) else
 (true,wN w (bif (Xr w i rc).2 && !(Mz (K6 (wN w (Xr w i rc).1)) (i:Int)) then (Xr w i rc).1.set i (Vea ((Xr w i rc).1.getD i Ch)) else (Xr w i rc).1))
theorem Qla (w:Wld) (i:Nat) (rc:List Int) (hr:RBd w.2.1) (hn:NS w.2.2.1) (hi:i<w.2.2.1.length):Tot (fun k=>Fv k w (i:Int) rc) (fun r=>r=Qka w i rc):=by
 have hni:=hn.get hi
 have e0:w.2.2.1.getD i ((0:Int),(([],[]),([],[])))=w.2.2.1.getD i Ch:=rfl
 have hl:=(Fc.1 hni.1).2.2.2.1
 unfold Fv Qka
 simp (disch:=omega) only [dT,Int.toNat_natCast,e0]
 cases hz:((w.2.2.1.getD i Ch).2.2.1.length:Int)==0 with
 |true=>exact Tot.yes rfl (Tot.pure rfl)
 |false=>
  refine Tot.no rfl (Tot.bind (K9a w (i:Int) _ false rc hr hn hl) ?_)
  rintro r rfl
  obtain ⟨p1,p2⟩:=K8a (w:=w) (src:=(i:Int)) (self:=false) (rc:=rc) hl hn
  rw [show Pv w (i:Int) (w.2.2.1.getD i Ch).2.2.1 false rc=Xr w i rc from rfl] at p1 p2 ⊢
  generalize Xr w i rc=a at *
  obtain ⟨ns,g⟩:=a
  dsimp only at p1 p2 ⊢
  cases g with
  |false=>exact Tot.no rfl (Tot.pure rfl)
  |true=>
   refine Tot.yes rfl ?_
   refine Tot.bind (Q:=fun r=>r=Mz (K6 (wN w ns)) (i:Int)) ?_ ?_
   ·unfold Hv
    refine Tot.bind (Xl (wN w ns) hr p1.1) ?_
    rintro p rfl
    refine Tot.bind (R7 _ _ (by have:=Xq (w:=wN w ns) hr p1.1; omega)) ?_
    rintro b rfl
    exact Tot.pure rfl
   ·rintro b rfl
    cases Mz (K6 (wN w ns)) (i:Int) with
    |true=>exact Tot.no rfl (Tot.pure rfl)
    |false=>
     have e1:ns.getD i ((0:Int),(([],[]),([],[])))=ns.getD i Ch:=rfl
     refine Tot.yes rfl ?_
     simp (disch:=omega) only [dT,Int.toNat_natCast,e1]
     exact Tot.pure rfl
def Z1 (w:Wld) (i:Nat) (rc:List Int):List Nod×Bool:=Pv w (i:Int) ((w.2.2.1.getD i Ch).2.2.2.take 1) true rc
def Qma (w:Wld) (i:Nat) (rc:List Int):Bool×Wld:=bif ((w.2.2.1.getD i Ch).2.2.2.length:Int)==0 then (false,w) else
 (true,wN w (bif (Z1 w i rc).2 then (Z1 w i rc).1.set i (Bhb ((Z1 w i rc).1.getD i Ch) ((w.2.2.1.getD i Ch).2.2.2.drop 1)) else (Z1 w i rc).1))
theorem Xt {q:List Row} (h:∀ r∈q,Lx r=true):Kk (q.take 1)=true:=by
 cases q with
 |nil=>exact Tg
 |cons r q=>exact Lwa (h r List.mem_cons_self)
theorem Qna (w:Wld) (i:Nat) (rc:List Int) (hr:RBd w.2.1) (hn:NS w.2.2.1) (hi:i<w.2.2.1.length):Tot (fun k=>Fw k w (i:Int) rc) (fun r=>r=Qma w i rc):=by
 have hni:=hn.get hi
 have e0:w.2.2.1.getD i ((0:Int),(([],[]),([],[])))=w.2.2.1.getD i Ch:=rfl
 obtain ⟨hq,_,_,_,hq60⟩:=Fc.1 hni.1
 have hl:=Xt hq
 unfold Fw Qma
 simp (disch:=omega) only [dT,Int.toNat_natCast,e0]
 cases hz:((w.2.2.1.getD i Ch).2.2.2.length:Int)==0 with
 |true=>exact Tot.yes rfl (Tot.pure rfl)
 |false=>
  have h1:=beq_eq_false_iff_ne.1 hz
  refine Tot.no rfl (Tot.dec (by omega) (Tot.bind (K9a w (i:Int) _ true rc hr hn hl) ?_))
  rintro r rfl
  obtain ⟨p1,p2⟩:=K8a (w:=w) (src:=(i:Int)) (self:=true) (rc:=rc) hl hn
  rw [show Pv w (i:Int) ((w.2.2.1.getD i Ch).2.2.2.take (Int.toNat 1)) true rc=Z1 w i rc from rfl]
  rw [show Pv w (i:Int) ((w.2.2.1.getD i Ch).2.2.2.take 1) true rc=Z1 w i rc from rfl] at p1 p2
  generalize Z1 w i rc=a at *
  obtain ⟨ns,g⟩:=a
  dsimp only at p1 p2 ⊢
  cases g with
  |false=>exact Tot.no rfl (Tot.pure rfl)
  |true=>
   refine Tot.yes rfl (Tot.dec (by omega) (Tot.ble (by rw [List.length_drop,List.length_nil]; omega) ?_))
   have e1:ns.getD i ((0:Int),(([],[]),([],[])))=ns.getD i Ch:=rfl
   simp (disch:=omega) only [dT,Int.toNat_natCast,e1,List.nil_append]
   exact Tot.pure rfl
theorem Qoa:∀ (k:Nat) (l:List ByteArray) (s:ByteArray),k<l.length→∃ j,j≤k∧(Fda l k s).2=j∧(Fda l k s).1.set j s=l.take j++s::((l.take k).drop j++l.drop (k+1))∧(∀ y∈(l.take k).drop j,tlt s y=true)∧(0<j→tlt s (l.getD (j - 1) Na)=false)
 |0,l,s,hk=>by
  refine ⟨0,Nat.le_refl _,rfl,?_,fun y hy=>by simp at hy,fun h=>by omega⟩
  cases l with
  |nil=>simp at hk
  |cons x l=>rfl
 |k+1,l,s,hk=>by
  unfold Fda
  cases hc:tlt s (l.getD k Na) with
  |false=>
   rw [cond_false]
   refine ⟨k+1,Nat.le_refl _,rfl,?_,fun y hy=>?_,fun _=>hc⟩
   ·rw [List.drop_take,Nat.sub_self,List.take_zero,List.nil_append]
    exact List.set_eq_take_append_cons_drop .. |>.trans (if_pos hk)
   ·rw [List.drop_take,Nat.sub_self,List.take_zero] at hy; cases hy
  |true=>
   rw [cond_true]
   obtain ⟨j,h1,h2,h3,h4,h5⟩:=Qoa k (l.set (k+1) (l.getD k Na)) s (by rw [List.length_set]; omega)
   have t1:(l.set (k+1) (l.getD k Na)).take j=l.take j:=by rw [List.take_set_of_le (by omega)]
   have t2:(l.set (k+1) (l.getD k Na)).take k=l.take k:=by rw [List.take_set_of_le (by omega)]
   have t3:(l.set (k+1) (l.getD k Na)).drop (k+1)=l.getD k Na::l.drop (k+2):=by
    rw [List.drop_eq_getElem_cons (by rw [List.length_set]; exact hk),List.getElem_set_self,List.drop_set_of_lt (by omega)]
   have t4:l.take (k+1)=l.take k++[l.getD k Na]:=by
    rw [List.take_succ_eq_append_getElem (by omega),List.getD_eq_getElem?_getD,List.getElem?_eq_getElem (by omega),Option.getD_some]
   have hlk:(l.take k).length=k:=by rw [List.length_take]; omega
   rw [t1,t2,t3] at h3
   rw [t2] at h4
   refine ⟨j,by omega,h2,?_,fun y hy=>?_,fun h=>?_⟩
   ·rw [h3,t4,List.drop_append_of_le_length (by omega),List.append_assoc]
    rfl
   ·rw [t4,List.drop_append_of_le_length (by omega)] at hy
    rcases List.mem_append.1 hy with hy|hy
    ·exact h4 y hy
    ·rw [List.mem_singleton.1 hy]; exact hc
   ·have:=h5 h
    rwa [List.getD_eq_getElem?_getD,List.getElem?_set_ne (by omega),← List.getD_eq_getElem?_getD] at this
theorem Ata {l:List ByteArray} {s:ByteArray}:∃ j,j≤l.length∧Vaa l s=l.take j++s::l.drop j∧(∀ y∈l.drop j,tlt s y=true)∧(0<j→tlt s (l.getD (j - 1) Na)=false):=by
 obtain ⟨j,h1,h2,h3,h4,h5⟩:=Qoa l.length (l++[s]) s (by simp)
 have t1:(l++[s]).take l.length=l:=by rw [List.take_append_of_le_length (Nat.le_refl _),List.take_length]
 have t2:(l++[s]).drop (l.length+1)=[]:=List.drop_eq_nil_of_le (by simp)
 have t3:(l++[s]).take j=l.take j:=List.take_append_of_le_length h1
 rw [t1] at h4
 rw [t1,t2,t3,List.append_nil] at h3
 refine ⟨j,h1,?_,h4,fun h=>?_⟩
 ·unfold Vaa
  rw [h2,h3]
 ·have:=h5 h
  rwa [List.getD_eq_getElem?_getD,List.getElem?_append_left (by omega),← List.getD_eq_getElem?_getD] at this
def spl (l:List ByteArray) (s:ByteArray):List ByteArray:=bif Y0 l s then l else Vaa l s
theorem Hra {l:List ByteArray} {s y:ByteArray}:y∈spl l s↔y=s∨y∈l:=by
 unfold spl
 cases h:Y0 l s with
 |true=>
  have:=C6a.1 h
  exact ⟨.inr,fun h=>h.elim (fun e=>e ▸ this) id⟩
 |false=>
  obtain ⟨j,_,e,_⟩:=Ata (l:=l) (s:=s)
  rw [cond_false,e,List.mem_append,List.mem_cons]
  conv=>rhs; rw [← List.take_append_drop j l,List.mem_append]
  constructor
  ·rintro (h|h|h)
   ·exact .inr (.inl h)
   ·exact .inl h
   ·exact .inr (.inr h)
  ·rintro (h|h|h)
   ·exact .inr (.inl h)
   ·exact .inl h
   ·exact .inr (.inr h)
theorem Lxa {l:List ByteArray} {s:ByteArray} (h:TS l):TS (spl l s):=by
 unfold spl
 cases hh:Y0 l s with
 |true=>exact h
 |false=>
  have hn:s∉l:=fun c=>by rw [C6a.2 c] at hh; cases hh
  obtain ⟨j,h1,e,h4,h5⟩:=Ata (l:=l) (s:=s)
  rw [cond_false,e]
  have hs:∀ y∈l.take j,tlt y s=true:=by
   intro y hy
   by_cases hj:0<j
   ·have hlast:l.getD (j - 1) Na∈l:=A3 (by omega)
    have hlt:tlt (l.getD (j - 1) Na) s=true:=by
     cases hc:tlt (l.getD (j - 1) Na) s with
     |true=>rfl
     |false=>exact absurd (Ws hc (h5 hj) ▸ hlast) hn
    obtain ⟨i,hi,rfl⟩:=List.mem_iff_getElem.1 hy
    rw [List.length_take] at hi
    rw [List.getElem_take]
    by_cases hij:i=j - 1
    ·subst hij
     rwa [List.getD_eq_getElem?_getD,List.getElem?_eq_getElem (by omega),Option.getD_some] at hlt
    ·have:=List.pairwise_iff_getElem.1 h i (j - 1) (by omega) (by omega) (by omega)
     rw [List.getD_eq_getElem?_getD,List.getElem?_eq_getElem (by omega),Option.getD_some] at hlt
     exact Lo this hlt
   ·rw [show j=0 by omega,List.take_zero] at hy; cases hy
  have hd:TS (l.drop j):=h.sublist (List.drop_sublist _ _)
  have ht:TS (l.take j):=h.sublist (List.take_sublist _ _)
  exact List.pairwise_append.2 ⟨ht,List.pairwise_cons.2 ⟨h4,hd⟩,fun a ha b hb=>by
   rcases List.mem_cons.1 hb with rfl|hb
   ·exact hs a ha
   ·exact Lo (hs a ha) (h4 b hb)⟩
theorem Qpa (l:List ByteArray) (s:ByteArray) (hl:l.length≤100000):Tot (fun k=>Ck k l s) (fun r=>r=spl l s):=by
 unfold Ck spl
 refine Tot.bind (C7a l s (by omega)) ?_
 rintro b rfl
 cases Y0 l s with
 |true=>exact Tot.yes rfl (Tot.pure rfl)
 |false=>
  have loop:∀ (k:Nat) (x:List ByteArray),k<x.length→x.length≤100001→Tot (fun n=>Dl n s x (k:Int)) (fun r=>r=(s,(Fda x k s).1,((Fda x k s).2:Int))):=by
   intro k
   induction k with
   |zero=>
    intro x hk hx
    refine Tot.succ ?_
    simp (disch:=omega) only [Dl,dF]
    exact Tot.pure rfl
   |succ k ih=>
    intro x hk hx
    refine Tot.succ ?_
    have e1:((k+1:Nat):Int) - 1=(k:Int):=by omega
    have e0:x.getD k (⟨#[]⟩:ByteArray)=x.getD k Na:=rfl
    simp (disch:=omega) only [Dl,dT,w64,e1,Int.toNat_natCast,e0,J7a]
    unfold Fda
    refine Tot.ite (fun h=>?_) (fun h=>?_)
    ·rw [h,cond_true]
     exact ih _ (by rw [List.length_set]; omega) (by rw [List.length_set]; omega)
    ·rw [h,cond_false]
     exact Tot.pure rfl
  have n0:([]:List ByteArray).length=0:=rfl
  have n1:([s]:List ByteArray).length=1:=rfl
  have nl:(l++[s]).length=l.length+1:=by simp
  refine Tot.no rfl (Tot.ble (by rw [n0]; omega) ?_)
  simp only [List.nil_append]
  refine Tot.ble (by rw [n1]; omega) ?_
  rw [nl,w64 (n:=((l.length+1:Nat):Int) - 1) (by omega) (by omega),show ((l.length+1:Nat):Int) - 1=(l.length:Int) by omega]
  refine Tot.bind (loop l.length (l++[s]) (by omega) (by omega)) ?_
  rintro r rfl
  obtain ⟨i1,i2,_⟩:=Xj l.length (l++[s]) s
  simp (disch:=omega) only [dT,Int.toNat_natCast]
  exact Tot.pure rfl
end Go.Proofs.YtflokceoeiplcaaGreat.Vf
end

section
set_option linter.unusedVariables false
set_option linter.unusedSimpArgs false
namespace Go.Proofs.YtflokceoeiplcaaGreat.Vf
open Go
abbrev Evt:=Int×Int×ByteArray×List Int×Int×List Int
def Afb (e:Evt):Prop:=Ky e.2.2.1∧e.2.2.2.1.length≤1000000000∧(-9223372036854775808≤e.2.2.2.2.1∧e.2.2.2.2.1≤9223372036854775807)∧e.2.2.2.2.2.length≤1000000
def F3a (l:List Int):List Bool:=l.map (· == 1)
def crN (n:Nod) (kp:List Bool):Nod:=(n.1,R9 n.2.1 kp,n.2.2)
theorem B3b {n:Nod} {kp:List Bool} (hn:NG n):NG (crN n kp):=C8a hn (Pza hn.g)
def Agb (w:Wld) (i:Nat) (s:ByteArray) (b:Int):Bool×Wld:=bif (T4a (w.2.2.1.getD i Ch) s b).2 then (true,(w.1,w.2.1,w.2.2.1.set i (T4a (w.2.2.1.getD i Ch) s b).1,w.2.2.2.1,w.2.2.2.2.1,spl w.2.2.2.2.2 s)) else (false,w)
def Lya (w:Wld) (e:Evt) (i:Nat):Bool×Wld:=
 bif e.1==3 then Qha w i e.2.2.1 e.2.2.2.2.2 else bif e.1==4 then Qka w i e.2.2.2.2.2 else bif e.1==5 then Qma w i e.2.2.2.2.2 else
 bif e.1==6 then (true,wN w (w.2.2.1.set i (Bdb (w.2.2.1.getD i Ch)).1)) else
 bif e.1==7 then (true,wN w (w.2.2.1.set i (crN (w.2.2.1.getD i Ch) (F3a e.2.2.2.2.2)))) else Agb w i e.2.2.1 e.2.2.2.2.1
theorem Qqa (w:Wld) (e:Evt) (i:Nat) (hei:e.2.1=(i:Int)) (he:Afb e) (hr:Hu w.2.1 w.1=true) (hn:NS w.2.2.1) (hi:i<w.2.2.1.length) (hsp:w.2.2.2.2.2.length≤1000):
  Tot (fun k=>Ao k w e) (fun r=>r=Lya w e i):=by
 have hni:=hn.get hi
 have e0:w.2.2.1.getD i ((0:Int),(([],[]),([],[])))=w.2.2.1.getD i Ch:=rfl
 obtain ⟨he1,he2,he3,he4⟩:=he
 unfold Ao Lya
 cases e.1==3 with
 |true=>
  rw [hei]
  refine Tot.yes rfl (Tot.bind (Tya w i _ _ hr hn hi) ?_)
  rintro r rfl
  exact Tot.pure rfl
 |false=>
  refine Tot.no rfl ?_
  cases e.1==4 with
  |true=>
   rw [hei]
   refine Tot.yes rfl (Tot.bind (Qla w i _ (N0 hr) hn hi) ?_)
   rintro r rfl
   exact Tot.pure rfl
  |false=>
   refine Tot.no rfl ?_
   cases e.1==5 with
   |true=>
    rw [hei]
    refine Tot.yes rfl (Tot.bind (Qna w i _ (N0 hr) hn hi) ?_)
    rintro r rfl
    exact Tot.pure rfl
   |false=>
    refine Tot.no rfl ?_
    cases e.1==6 with
    |true=>
     refine Tot.yes rfl ?_
     simp (disch:=omega) only [hei,dT,Int.toNat_natCast,e0]
     refine Tot.bind (Q3a _ hni.g) ?_
     rintro r rfl
     exact Tot.pure rfl
    |false=>
     refine Tot.no rfl ?_
     cases e.1==7 with
     |true=>
      refine Tot.yes rfl (Tot.bind (Q:=fun r=>r=(F3a e.2.2.2.2.2,w,e)) ?_ ?_)
      ·refine Tot.up (L:=fun k j (s:List Bool)=>C9 k s j w e) (Q:=fun r=>r=(F3a e.2.2.2.2.2,w,e)) e.2.2.2.2.2.length (fun j s=>s=F3a (e.2.2.2.2.2.take j)) ?_ ?_ 0 [] (Nat.zero_le _) rfl
       ·rintro s rfl
        simp (disch:=omega) only [C9,dF]
        exact Tot.pure (by rw [List.take_length])
       ·rintro j s hj rfl next
        simp (disch:=omega) only [C9,dT,Int.toNat_natCast,w64]
        have hk:(F3a (e.2.2.2.2.2.take j)).length=j:=by unfold F3a; rw [List.length_map,List.length_take]; omega
        refine Tot.ble (by rw [hk,List.length_singleton]; omega) (next _ ?_)
        unfold F3a
        rw [List.take_succ_eq_append_getElem hj,List.map_append,List.getD_eq_getElem?_getD,List.getElem?_eq_getElem hj]
        rfl
      ·rintro r rfl
       simp (disch:=omega) only [hei,dT,Int.toNat_natCast,e0]
       refine Tot.bind (Q2a _ _ hni.g (by unfold F3a; rw [List.length_map]; exact he4)) ?_
       rintro r rfl
       exact Tot.pure rfl
     |false=>
      refine Tot.no rfl ?_
      simp (disch:=omega) only [hei,dT,Int.toNat_natCast,e0]
      refine Tot.bind (H9a _ _ _ (Lha hni) he3.2 he3.1) ?_
      rintro r rfl
      unfold Agb
      rw [cond_false,cond_false,cond_false,cond_false,cond_false]
      generalize T4a (w.2.2.1.getD i Ch) e.2.2.1 e.2.2.2.2.1=q
      cases h:q.2 with
      |true=>
       refine Tot.yes rfl (Tot.bind (Qpa _ _ (by omega)) ?_)
       rintro r rfl
       exact Tot.pure rfl
      |false=>exact Tot.no rfl (Tot.pure rfl)
def Qra (w:Wld) (i wt:Int):Bool×Wld:=bif !(inR i 0 ((w.1.length:Int) - 1)) then (false,w) else bif !(inR wt 1 1000) then (false,w) else
 (decide ((Hfa w.2.1 (wgt w.1 i.toNat wt)).2≥0),(wgt w.1 i.toNat wt,(Hfa w.2.1 (wgt w.1 i.toNat wt)).1,w.2.2))
theorem Qsa (w:Wld) (i wt:Int) (hr:Hu w.2.1 w.1=true):Tot (fun k=>G4 k w i wt) (fun r=>r=Qra w i wt):=by
 have h12:=(H4.1 (Cz.1 hr).1).2.2.2
 unfold G4 Qra
 rw [w64 (n:=(w.1.length:Int) - 1) (by omega) (by omega)]
 simp only [Mi,Option.bind_some]
 cases h1:inR i 0 ((w.1.length:Int) - 1) with
 |false=>exact Tot.yes rfl (Tot.pure rfl)
 |true=>
  refine Tot.no rfl ?_
  cases h2:inR wt 1 1000 with
  |false=>exact Tot.yes rfl (Tot.pure rfl)
  |true=>
   refine Tot.no rfl ?_
   obtain ⟨i0,i1⟩:=Gv.1 h1
   obtain ⟨w0,w1⟩:=Gv.1 h2
   simp (disch:=omega) only [dT]
   refine Tot.bind (Pwa (r:=w.2.1) (l:=wgt w.1 i.toNat wt) (K2a hr (by omega) w0 w1)) ?_
   rintro r rfl
   exact Tot.pure rfl
def Y4a (r:Int×Wld):Bool×Wld:=bif r.1 != 2 then (r.1 != 3,r.2) else (false,r.2)
def doW (w:Wld) (e:Evt):Bool×Wld:=
 bif e.1==1 then Y4a (ask w e.2.2.1 ((0,0,0),false,e.2.2.2.1) e.2.2.2.2.1 e.2.2.2.2.2) else
 bif e.1==2 then Y4a (ask w e.2.2.1 ((0,0,0),true,[]) e.2.2.2.2.1 e.2.2.2.2.2) else
 bif e.1==3 || (e.1==4 || (e.1==5 || (e.1==6 || (e.1==7 || e.1==8)))) then (bif inR e.2.1 0 ((w.2.2.1.length:Int) - 1) then Lya w e e.2.1.toNat else (false,w)) else
 bif e.1==9 then Qra w e.2.1 e.2.2.2.2.1 else (false,w)
theorem A2b (w:Wld) (e:Evt) (he:Afb e) (hr:Hu w.2.1 w.1=true) (hn:NS w.2.2.1) (hst:Gk w.2.2.2.1=true) (hw:w.2.2.2.2.1.length≤1000) (hsp:w.2.2.2.2.2.length≤1000):
  Tot (fun k=>Ho k w e) (fun r=>r=doW w e):=by
 have hnl:=hn.1
 have node:∀ {f:Nat→Option (Bool×Wld)} ,Tot (fun k=>(A8 e.2.1 0 (IntKind.wrap .i64 ((List.length w.2.2.1:Int) - 1))).bind fun r4=>cond r4 ((Ao k w e).bind fun r5=>some (r5.1,r5.2)) (some (false,w))) (fun r=>r=bif inR e.2.1 0 ((w.2.2.1.length:Int) - 1) then Lya w e e.2.1.toNat else (false,w)):=by
  intro f
  rw [w64 (n:=(w.2.2.1.length:Int) - 1) (by omega) (by omega)]
  simp only [Mi,Option.bind_some]
  cases h1:inR e.2.1 0 ((w.2.2.1.length:Int) - 1) with
  |false=>exact Tot.no rfl (Tot.pure rfl)
  |true=>
   obtain ⟨i0,i1⟩:=Gv.1 h1
   refine Tot.yes rfl (Tot.bind (Qqa w e e.2.1.toNat (by omega) he hr hn (by omega) hsp) ?_)
   rintro r rfl
   exact Tot.pure rfl
 have answer:∀ (q:Int×Wld),Tot (fun _=>cond (q.1 != 2) (some (q.1 != 3,q.2)) (some (false,q.2))) (fun r=>r=Y4a q):=by
  intro q
  unfold Y4a
  cases q.1 != 2<;>exact Tot.pure rfl
 unfold Ho doW
 cases e.1==1 with
 |true=>
  refine Tot.yes rfl (Tot.ble (by have:=he.2.1; rw [List.length_nil]; omega) (Tot.bind (Qga w e.2.2.1 ((0,0,0),false,e.2.2.2.1) e.2.2.2.2.1 e.2.2.2.2.2 hr hn hst he.1 (fun h=>by cases h) hw) ?_))
  rintro q rfl
  exact answer _
 |false=>
  refine Tot.no rfl ?_
  cases e.1==2 with
  |true=>
   refine Tot.yes rfl (Tot.bind (Qga w e.2.2.1 ((0,0,0),true,[]) e.2.2.2.2.1 e.2.2.2.2.2 hr hn hst he.1 (fun _=>rfl) hw) ?_)
   rintro q rfl
   exact answer _
  |false=>
   refine Tot.no rfl ?_
   cases e.1==3 with
   |true=>exact Tot.yes rfl (node (f:=fun _=>none))
   |false=>
    refine Tot.no rfl ?_
    cases e.1==4 with
    |true=>exact Tot.yes rfl (node (f:=fun _=>none))
    |false=>
     refine Tot.no rfl ?_
     cases e.1==5 with
     |true=>exact Tot.yes rfl (node (f:=fun _=>none))
     |false=>
      refine Tot.no rfl ?_
      cases e.1==6 with
      |true=>exact Tot.yes rfl (node (f:=fun _=>none))
      |false=>
       refine Tot.no rfl ?_
       cases e.1==7 with
       |true=>exact Tot.yes rfl (node (f:=fun _=>none))
       |false=>
        refine Tot.no rfl ?_
        cases e.1==8 with
        |true=>exact Tot.yes rfl (node (f:=fun _=>none))
        |false=>
         refine Tot.no rfl ?_
         cases e.1==9 with
         |true=>
          refine Tot.yes rfl (Tot.bind (Qsa w _ _ hr) ?_)
          rintro r rfl
          exact Tot.pure rfl
         |false=>exact Tot.no rfl (Tot.pure rfl)
end Go.Proofs.YtflokceoeiplcaaGreat.Vf
end
