import Derived.Test.YtflokceoeiplcaaGreatMan
section
set_option linter.unusedVariables false
set_option linter.unusedSimpArgs false
namespace Go.Proofs.YtflokceoeiplcaaGreat.Vf
open Go
abbrev Dev:=Int×Int×Int
abbrev Rng:=Int×List (List Int)
def Lt:Dev:=((0:Int),((0:Int),(0:Int)))
def Mz (l:List Int) (n:Int):Bool:=l.any (· == n)
theorem Qd {l:List Int} {n:Int}:Mz l n=true↔n∈l:=by
 unfold Mz
 rw [List.any_eq_true]
 constructor
 ·rintro ⟨x,hx,e⟩; rw [← eq_of_beq e]; exact hx
 ·intro h; exact ⟨n,h,beq_self_eq_true n⟩
theorem X7a (l:List Int) (n:Int) (hl:l.length≤1000000000):Tot (fun k=>Ik k l n) (fun r=>r=Mz l n):=by
 unfold Ik
 refine Tot.bind (Q:=fun r=>r=bif Mz l n then .inl true else .inr ()) ?_ (by rintro r rfl; cases Mz l n<;>exact Tot.pure rfl)
 refine Tot.up (L:=fun k i (_:Unit)=>Ga k n l (l.length:Int) i) (Q:=fun r=>r=bif Mz l n then .inl true else .inr ()) l.length (fun j _=>Mz (l.drop j) n=Mz l n) ?_ ?_ 0 () (Nat.zero_le _) rfl
 ·intro _ h
  rw [List.drop_length] at h
  simp (disch:=omega) only [Ga,dF,← h]
  exact Tot.pure rfl
 ·intro j _ hj h next
  rw [Am (d:=0) hj] at h
  simp (disch:=omega) only [Ga,dT,Int.toNat_natCast,w64]
  unfold Mz at h
  rw [List.any_cons] at h
  refine Tot.ite (fun hc=>Tot.pure ?_) (fun hc=>next () ?_)
  ·rw [hc,Bool.true_or] at h
   unfold Mz
   rw [← h]
   rfl
  ·rw [hc,Bool.false_or] at h
   exact h
theorem R7 (l:List Int) (n:Int) (hl:l.length≤1000000000):Tot (fun k=>Bv k l n) (fun r=>r=Mz l n):=by
 unfold Bv
 refine Tot.bind (Q:=fun r=>r=bif Mz l n then .inl true else .inr ()) ?_ (by rintro r rfl; cases Mz l n<;>exact Tot.pure rfl)
 refine Tot.up (L:=fun k i (_:Unit)=>H6 k l n i) (Q:=fun r=>r=bif Mz l n then .inl true else .inr ()) l.length (fun j _=>Mz (l.drop j) n=Mz l n) ?_ ?_ 0 () (Nat.zero_le _) rfl
 ·intro _ h
  rw [List.drop_length] at h
  simp (disch:=omega) only [H6,dF,← h]
  exact Tot.pure rfl
 ·intro j _ hj h next
  rw [Am (d:=0) hj] at h
  simp (disch:=omega) only [H6,dT,Int.toNat_natCast,w64]
  unfold Mz at h
  rw [List.any_cons] at h
  refine Tot.ite (fun hc=>Tot.pure ?_) (fun hc=>next () ?_)
  ·rw [hc,Bool.true_or] at h
   unfold Mz
   rw [← h]
   rfl
  ·rw [hc,Bool.false_or] at h
   exact h
def Iq (l:List Dev) (id:Int):Option Dev:=l.find? (fun d=>d.1==id)
def B0b:Option Dev→Dev×Bool
 |some d=>(d,true)
 |none=>(Lt,false)
theorem Tb {l:List Dev} {id:Int} {d:Dev} (h:Iq l id=some d):d∈l∧d.1=id:=⟨List.mem_of_find?_eq_some h,eq_of_beq (List.find?_some (p:=fun d:Dev=>d.1==id) h)⟩
theorem Pla (l:List Dev) (id:Int) (hl:l.length≤1000000000):Tot (fun k=>J7 k l id) (fun r=>r=B0b (Iq l id)):=by
 unfold J7
 refine Tot.bind (Q:=fun r=>r=match Iq l id with|some d => .inl (true,d)|none => .inr (0,0,0)) ?_ (by rintro r rfl; cases Iq l id<;>exact Tot.pure rfl)
 refine Tot.up (L:=fun k i (_:Unit)=>Hh k id l (l.length:Int) i (0,0,0)) (Q:=fun r=>r=match Iq l id with|some d => .inl (true,d)|none => .inr (0,0,0)) l.length (fun j _=>Iq (l.drop j) id=Iq l id) ?_ ?_ 0 () (Nat.zero_le _) rfl
 ·intro _ h
  rw [List.drop_length] at h
  simp (disch:=omega) only [Hh,dF,← h]
  exact Tot.pure rfl
 ·intro j _ hj h next
  rw [Am (d:=Lt) hj] at h
  unfold Iq at h
  rw [List.find?_cons] at h
  simp (disch:=omega) only [Hh,dT,Int.toNat_natCast,w64]
  refine Tot.ite (fun hc=>Tot.pure ?_) (fun hc=>next () ?_)
  ·rw [show ((l.getD j Lt).1==id)=true from hc] at h
   unfold Iq
   rw [← h]
   rfl
  ·rw [show ((l.getD j Lt).1==id)=false from hc] at h
   exact h
theorem Pq (l:List Dev) (id:Int) (hl:l.length≤1000000000):Tot (fun k=>Da k l id) (fun r=>r=B0b (Iq l id)):=by
 unfold Da
 refine Tot.bind (Q:=fun r=>r=match Iq l id with|some d => .inl (true,d)|none => .inr (0,0,0)) ?_ (by rintro r rfl; cases Iq l id<;>exact Tot.pure rfl)
 refine Tot.up (L:=fun k i (_:Unit)=>H7 k l id i (0,0,0)) (Q:=fun r=>r=match Iq l id with|some d => .inl (true,d)|none => .inr (0,0,0)) l.length (fun j _=>Iq (l.drop j) id=Iq l id) ?_ ?_ 0 () (Nat.zero_le _) rfl
 ·intro _ h
  rw [List.drop_length] at h
  simp (disch:=omega) only [H7,dF,← h]
  exact Tot.pure rfl
 ·intro j _ hj h next
  rw [Am (d:=Lt) hj] at h
  unfold Iq at h
  rw [List.find?_cons] at h
  simp (disch:=omega) only [H7,dT,Int.toNat_natCast,w64]
  refine Tot.ite (fun hc=>Tot.pure ?_) (fun hc=>next () ?_)
  ·rw [show ((l.getD j Lt).1==id)=true from hc] at h
   unfold Iq
   rw [← h]
   rfl
  ·rw [show ((l.getD j Lt).1==id)=false from hc] at h
   exact h
def Xe (d:Dev):Bool:=inR d.1 0 20&&(inR d.2.1 0 20&&inR d.2.2 1 1000)
def Tx:Option Int→List Dev→Bool
 |_,[]=>true
 |none,d::l=>Xe d&&Tx (some d.1) l
 |some q,d::l=>Xe d&&(decide (q<d.1)&&Tx (some d.1) l)
def Ju (l:List Dev):Bool:=Tx none l&&inR (l.length:Int) 1 12
def Eia (l:List Dev):Nat→Option Int
 |0=>none
 |i+1=>some (l.getD i Lt).1
theorem C3a:∀ (p:Option Int) (l:List Dev),Tx p l=true↔l.Pairwise (fun a b=>a.1<b.1)∧(∀ d∈l,Xe d=true)∧(∀ q,p=some q→∀ d∈l,q<d.1)
 |p,[]=>by cases p<;>simp [Tx]
 |none,d::l=>by
  simp only [Tx,Bool.and_eq_true,C3a (some d.1) l,List.pairwise_cons,List.mem_cons,forall_eq_or_imp,Option.some.injEq]
  constructor
  ·rintro ⟨h1,h2,h3,h4⟩; exact ⟨⟨h4 _ rfl,h2⟩,⟨h1,h3⟩,fun q h=>by cases h⟩
  ·rintro ⟨⟨h1,h2⟩,⟨h3,h4⟩,_⟩; exact ⟨h3,h2,h4,fun q e=>by subst e; exact h1⟩
 |some q,d::l=>by
  simp only [Tx,Bool.and_eq_true,decide_eq_true_iff,C3a (some d.1) l,List.pairwise_cons,List.mem_cons,forall_eq_or_imp,Option.some.injEq]
  constructor
  ·rintro ⟨h1,hq,h2,h3,h4⟩
   exact ⟨⟨h4 _ rfl,h2⟩,⟨h1,h3⟩,fun q' e=>by subst e; exact ⟨hq,fun x hx=>by have:=h4 _ rfl x hx; omega⟩⟩
  ·rintro ⟨⟨h1,h2⟩,⟨h3,h4⟩,h5⟩
   exact ⟨h3,(h5 q rfl).1,h2,h4,fun q e=>by subst e; exact h1⟩
theorem H4 {l:List Dev}:Ju l=true↔l.Pairwise (fun a b=>a.1<b.1)∧(∀ d∈l,Xe d=true)∧1≤l.length∧l.length≤12:=by
 unfold Ju
 rw [Bool.and_eq_true,C3a,Gv]
 constructor
 ·rintro ⟨⟨h1,h2,_⟩,h3,h4⟩; exact ⟨h1,h2,by omega,by omega⟩
 ·rintro ⟨h1,h2,h3,h4⟩; exact ⟨⟨h1,h2,fun q h=>by cases h⟩,by omega,by omega⟩
theorem M8 {d:Dev}:Xe d=true↔(0≤d.1∧d.1≤20)∧(0≤d.2.1∧d.2.1≤20)∧1≤d.2.2∧d.2.2≤1000:=by
 unfold Xe
 rw [Bool.and_eq_true,Bool.and_eq_true,Gv,Gv,Gv]
theorem Eja {l:List Dev} {j:Nat} (hj:j<l.length):Tx (Eia l j) (l.drop j)=(Xe (l.getD j Lt)&&((bif decide (0<j) then decide ((l.getD (j - 1) Lt).1<(l.getD j Lt).1) else true)&&Tx (Eia l (j+1)) (l.drop (j+1)))):=by
 rw [Am (d:=Lt) hj]
 cases j with
 |zero=>simp [Eia,Tx]
 |succ j=>simp [Eia,Tx]
theorem T5a (l:List Dev) (hl:l.length≤1000000000):Tot (fun k=>Fi k l) (fun r=>r=Ju l):=by
 unfold Fi Ju
 refine Tot.bind (Q:=fun r=>r=bif Tx none l then .inr l else .inl false) ?_ ?_
 ·refine Tot.up (L:=fun k i (_:Unit)=>F7 k l l (l.length:Int) i) (Q:=fun r=>r=bif Tx none l then .inr l else .inl false) l.length (fun j _=>Tx (Eia l j) (l.drop j)=Tx none l) ?_ ?_ 0 () (Nat.zero_le _) rfl
  ·intro _ h
   rw [List.drop_length] at h
   have:Tx none l=true:=by rw [← h]; cases Eia l l.length<;>rfl
   simp (disch:=omega) only [F7,dF,this]
   exact Tot.pure rfl
  ·intro j _ hj h next
   rw [Eja hj] at h
   simp (disch:=omega) only [F7,dT,Int.toNat_natCast,w64,Wv,Option.bind_some]
   have e0:l.getD j ((0:Int),((0:Int),(0:Int)))=l.getD j Lt:=rfl
   rw [e0]
   have no:Xe (l.getD j Lt)=false→Tx none l=false:=fun c=>by rw [← h,c]; rfl
   unfold Xe at no h
   refine Tot.ite (fun hc=>Tot.pure ?_) (fun h1=>Tot.ite (fun hc=>Tot.pure ?_) (fun h2=>Tot.ite (fun hc=>Tot.pure ?_) (fun h3=>?_)))
   ·rw [no (by rw [Bool.not_eq_true'] at hc; rw [hc]; rfl)]; rfl
   ·rw [no (by rw [Bool.not_eq_true'] at hc; rw [hc,Bool.false_and,Bool.and_false])]; rfl
   ·rw [no (by rw [Bool.not_eq_true'] at hc; rw [hc,Bool.and_false,Bool.and_false])]; rfl
   ·rw [Bool.not_eq_false'] at h1 h2 h3
    rw [h1,h2,h3] at h
    refine Tot.dite (fun h0=>?_) (fun h0=>next () ?_)
    ·simp (disch:=omega) only [dT,w64,show Int.toNat ((j:Int) - 1)=j - 1 by omega]
     rw [decide_eq_true (show 0<j by omega)] at h
     refine Tot.dite (fun hc=>Tot.pure ?_) (fun hc=>next () ?_)
     ·have hc':¬ ((l.getD (j - 1) Lt).1<(l.getD j Lt).1):=by
       have:(l.getD (j - 1) Lt).1≥(l.getD j Lt).1:=hc
       omega
      rw [decide_eq_false hc'] at h
      rw [← h]; rfl
     ·have hc':(l.getD (j - 1) Lt).1<(l.getD j Lt).1:=by
       have:¬ ((l.getD (j - 1) Lt).1≥(l.getD j Lt).1):=hc
       omega
      rw [decide_eq_true hc'] at h
      exact h
    ·rw [decide_eq_false (show ¬ 0<j by omega)] at h
     exact h
 ·rintro r rfl
  cases Tx none l with
  |false=>exact Tot.pure rfl
  |true=>
   simp only [cond_true,Sum.elim_inr,Wv,Option.bind_some]
   exact Tot.pure rfl
theorem Uh (l:List Dev) (hl:l.length≤1000000000):Tot (fun k=>Bb k l) (fun r=>r=Ju l):=by
 unfold Bb Ju
 refine Tot.bind (Q:=fun r=>r=bif Tx none l then .inr l else .inl false) ?_ ?_
 ·refine Tot.up (L:=fun k i (_:Unit)=>Ez k l i) (Q:=fun r=>r=bif Tx none l then .inr l else .inl false) l.length (fun j _=>Tx (Eia l j) (l.drop j)=Tx none l) ?_ ?_ 0 () (Nat.zero_le _) rfl
  ·intro _ h
   rw [List.drop_length] at h
   have:Tx none l=true:=by rw [← h]; cases Eia l l.length<;>rfl
   simp (disch:=omega) only [Ez,dF,this]
   exact Tot.pure rfl
  ·intro j _ hj h next
   rw [Eja hj] at h
   simp (disch:=omega) only [Ez,dT,Int.toNat_natCast,w64,Mi,Option.bind_some]
   have e0:l.getD j ((0:Int),((0:Int),(0:Int)))=l.getD j Lt:=rfl
   rw [e0]
   have no:Xe (l.getD j Lt)=false→Tx none l=false:=fun c=>by rw [← h,c]; rfl
   unfold Xe at no h
   refine Tot.ite (fun hc=>Tot.pure ?_) (fun h1=>Tot.ite (fun hc=>Tot.pure ?_) (fun h2=>Tot.ite (fun hc=>Tot.pure ?_) (fun h3=>?_)))
   ·rw [no (by rw [Bool.not_eq_true'] at hc; rw [hc]; rfl)]; rfl
   ·rw [no (by rw [Bool.not_eq_true'] at hc; rw [hc,Bool.false_and,Bool.and_false])]; rfl
   ·rw [no (by rw [Bool.not_eq_true'] at hc; rw [hc,Bool.and_false,Bool.and_false])]; rfl
   ·rw [Bool.not_eq_false'] at h1 h2 h3
    rw [h1,h2,h3] at h
    refine Tot.dite (fun h0=>?_) (fun h0=>next () ?_)
    ·simp (disch:=omega) only [dT,w64,show Int.toNat ((j:Int) - 1)=j - 1 by omega]
     rw [decide_eq_true (show 0<j by omega)] at h
     refine Tot.dite (fun hc=>Tot.pure ?_) (fun hc=>next () ?_)
     ·have hc':¬ ((l.getD (j - 1) Lt).1<(l.getD j Lt).1):=by
       have:(l.getD (j - 1) Lt).1≥(l.getD j Lt).1:=hc
       omega
      rw [decide_eq_false hc'] at h
      rw [← h]; rfl
     ·have hc':(l.getD (j - 1) Lt).1<(l.getD j Lt).1:=by
       have:¬ ((l.getD (j - 1) Lt).1≥(l.getD j Lt).1):=hc
       omega
      rw [decide_eq_true hc'] at h
      exact h
    ·rw [decide_eq_false (show ¬ 0<j by omega)] at h
     exact h
 ·rintro r rfl
  cases Tx none l with
  |false=>exact Tot.pure rfl
  |true=>
   simp only [cond_true,Sum.elim_inr,Mi,Option.bind_some]
   exact Tot.pure rfl
def Hba (l:List Dev) (out:List Int) (id:Int):List Int:=match Iq l id with
 |some d=>bif Mz out d.2.1 then out else out++[d.2.1]
 |none=>out
def J3 (ids:List Int) (l:List Dev):List Int:=ids.foldl (Hba l) []
theorem Eka (l:List Dev) (out:List Int) (id:Int):(Hba l out id).length≤out.length+1:=by
 unfold Hba
 cases Iq l id with
 |none=>exact Nat.le_succ _
 |some d=>
  simp only
  cases Mz out d.2.1 with
  |true=>exact Nat.le_succ _
  |false=>rw [cond_false,List.length_append]; exact Nat.le_refl _
theorem Ela (l:List Dev):∀ (ids out:List Int),(ids.foldl (Hba l) out).length≤out.length+ids.length
 |[],out=>by simp
 |id::ids,out=>by
  have h1:=Ela l ids (Hba l out id)
  have h2:=Eka l out id
  rw [List.foldl_cons,List.length_cons]
  omega
theorem Ema (ids:List Int) (l:List Dev) (hi:ids.length≤100000) (hl:l.length≤100000):Tot (fun k=>C8 k ids l) (fun r=>r=J3 ids l):=by
 unfold C8
 refine Tot.bind (Q:=fun r=>r=J3 ids l) ?_ (by rintro r rfl; exact Tot.pure rfl)
 refine Tot.up (L:=fun k i s=>Cp k ids l s i) (Q:=fun r=>r=J3 ids l) ids.length (fun j s=>(ids.drop j).foldl (Hba l) s=J3 ids l∧s.length≤j) ?_ ?_ 0 [] (Nat.zero_le _) ⟨rfl,Nat.le_refl _⟩
 ·rintro s ⟨h,_⟩
  rw [List.drop_length] at h
  simp (disch:=omega) only [Cp,dF]
  exact Tot.pure h
 ·rintro j s hj ⟨h,hs⟩ next
  rw [Am (d:=0) hj,List.foldl_cons] at h
  simp (disch:=omega) only [Cp,dT,Int.toNat_natCast,w64]
  have hz:=Eka l s (ids.getD j 0)
  refine Tot.bind (Pq l (ids.getD j 0) (by omega)) ?_
  rintro r rfl
  unfold Hba at h hz
  cases hd:Iq l (ids.getD j 0) with
  |none=>
   rw [hd] at h
   exact Tot.no rfl (next _ ⟨h,by omega⟩)
  |some d=>
   rw [hd] at h hz
   refine Tot.yes rfl (Tot.bind (R7 s d.2.1 (by omega)) ?_)
   rintro r rfl
   simp only at h hz
   cases hh:Mz s d.2.1 with
   |true=>
    rw [hh] at h
    exact Tot.no rfl (next _ ⟨h,by omega⟩)
   |false=>
    rw [hh] at h hz
    exact Tot.yes rfl (Tot.ble (by simp only [List.length_cons,List.length_nil]; omega) (next _ ⟨h,by rw [cond_false] at hz; exact Nat.le_trans hz (by omega)⟩))
end Go.Proofs.YtflokceoeiplcaaGreat.Vf
end

section
set_option linter.unusedVariables false
set_option linter.unusedSimpArgs false
namespace Go.Proofs.YtflokceoeiplcaaGreat.Vf
open Go
theorem Pr {l:List Int} {j:Nat} (hj:j<l.length) (h:(l.take j).Nodup) (hn:l.getD j 0∉l.take j):(l.take (j+1)).Nodup:=by
 rw [List.take_succ_eq_append_getElem hj,List.nodup_append]
 rw [List.getD_eq_getElem?_getD,List.getElem?_eq_getElem hj,Option.getD_some] at hn
 exact ⟨h,by simp,fun a ha b hb e=>by rw [List.mem_singleton.1 hb] at e; subst e; exact hn ha⟩
theorem Ena {l:List Int} {j:Nat} (hj:j<l.length) (hn:l.getD j 0∈l.take j):¬ l.Nodup:=by
 intro h
 have h1:(l.take (j+1)).Nodup:=h.sublist (List.take_sublist _ _)
 rw [List.take_succ_eq_append_getElem hj,List.nodup_append] at h1
 rw [List.getD_eq_getElem?_getD,List.getElem?_eq_getElem hj,Option.getD_some] at hn
 exact h1.2.2 _ hn _ (by simp) rfl
theorem Pma (l:List Int) (hl:l.length≤100000):Tot (fun k=>Hn k l) (fun r=>r=decide l.Nodup):=by
 unfold Hn
 refine Tot.bind (Q:=fun r=>r=bif decide l.Nodup then .inr () else .inl false) ?_ (by rintro r rfl; cases decide l.Nodup<;>exact Tot.pure rfl)
 refine Tot.up (L:=fun k i (_:Unit)=>Hg k l l (l.length:Int) i) (Q:=fun r=>r=bif decide l.Nodup then .inr () else .inl false) l.length (fun j _=>(l.take j).Nodup) ?_ ?_ 0 () (Nat.zero_le _) (by simp)
 ·intro _ h
  rw [List.take_length] at h
  simp (disch:=omega) only [Hg,dF,decide_eq_true h]
  exact Tot.pure rfl
 ·intro j _ hj h next
  simp (disch:=omega) only [Hg,dT,Int.toNat_natCast,w64]
  refine Tot.bind (X7a (l.take j) (l.getD j 0) (by rw [List.length_take]; omega)) ?_
  rintro r rfl
  refine Tot.ite (fun hc=>Tot.pure ?_) (fun hc=>next () (Pr hj h (fun c=>by rw [Qd.2 c] at hc; cases hc)))
  rw [decide_eq_false (Ena hj (Qd.1 hc))]
  rfl
theorem Jta (l:List Int) (n:Int) (hl:l.length≤100000):Tot (fun k=>Dd k l n) (fun r=>r=(decide l.Nodup&&((l.length:Int)==n))):=by
 unfold Dd
 refine Tot.bind (Q:=fun r=>r=bif decide l.Nodup then .inr (n,l) else .inl false) ?_ (by rintro r rfl; cases decide l.Nodup<;>exact Tot.pure rfl)
 refine Tot.up (L:=fun k i (_:Unit)=>G0 k n i l) (Q:=fun r=>r=bif decide l.Nodup then .inr (n,l) else .inl false) l.length (fun j _=>(l.take j).Nodup) ?_ ?_ 0 () (Nat.zero_le _) (by simp)
 ·intro _ h
  rw [List.take_length] at h
  simp (disch:=omega) only [G0,dF,decide_eq_true h]
  exact Tot.pure rfl
 ·intro j _ hj h next
  simp (disch:=omega) only [G0,dT,Int.toNat_natCast,w64]
  refine Tot.bind (R7 (l.take j) (l.getD j 0) (by rw [List.length_take]; omega)) ?_
  rintro r rfl
  refine Tot.ite (fun hc=>Tot.pure ?_) (fun hc=>next () (Pr hj h (fun c=>by rw [Qd.2 c] at hc; cases hc)))
  rw [decide_eq_false (Ena hj (Qd.1 hc))]
  rfl
def RBd (r:Rng):Prop:=r.2.length≤1000∧∀ p∈r.2,p.length≤1000
def Kl (l:List Dev) (n:Int) (p:List Int):Bool:=(decide p.Nodup&&((p.length:Int)==n))&&p.all fun id=>(Iq l id).isSome
def Hu (r:Rng) (l:List Dev):Bool:=Ju l&&(inR r.1 1 5&&(inR (r.2.length:Int) 1 64&&r.2.all (Kl l r.1)))
theorem Cz {r:Rng} {l:List Dev}:Hu r l=true↔Ju l=true∧(1≤r.1∧r.1≤5)∧(1≤r.2.length∧r.2.length≤64)∧∀ p∈r.2,p.Nodup∧(p.length:Int)=r.1∧∀ id∈p,∃ d,Iq l id=some d:=by
 unfold Hu Kl
 simp only [Bool.and_eq_true,Gv,List.all_eq_true,decide_eq_true_iff,beq_iff_eq,Option.isSome_iff_exists]
 constructor
 ·rintro ⟨h1,h2,⟨h3,h4⟩,h5⟩; exact ⟨h1,h2,⟨by omega,by omega⟩,fun p hp=>⟨(h5 p hp).1.1,(h5 p hp).1.2,(h5 p hp).2⟩⟩
 ·rintro ⟨h1,h2,⟨h3,h4⟩,h5⟩; exact ⟨h1,h2,⟨by omega,by omega⟩,fun p hp=>⟨⟨(h5 p hp).1,(h5 p hp).2.1⟩,(h5 p hp).2.2⟩⟩
theorem N0 {r:Rng} {l:List Dev} (h:Hu r l=true):RBd r:=by
 obtain ⟨_,h2,h3,h4⟩:=Cz.1 h
 exact ⟨by omega,fun p hp=>by have:=(h4 p hp).2.1; omega⟩
theorem T6a (r:Rng) (l:List Dev) (hr:RBd r) (hl:l.length≤100000):Tot (fun k=>E9 k r l) (fun b=>b=Hu r l):=by
 unfold E9 Hu
 refine Tot.bind (T5a l (by omega)) ?_
 rintro b rfl
 cases hd:Ju l with
 |false=>exact Tot.yes rfl (Tot.pure rfl)
 |true=>
  have hrl:=hr.1
  simp only [Bool.not_true,cond_false,Wv,Option.bind_some,Bool.true_and]
  cases inR r.1 1 5 with
  |false=>exact Tot.yes rfl (Tot.pure rfl)
  |true=>
   refine Tot.no rfl ?_
   cases inR (r.2.length:Int) 1 64 with
   |false=>exact Tot.yes rfl (Tot.pure rfl)
   |true=>
    refine Tot.no rfl (Tot.bind (Q:=fun b=>b=bif r.2.all (Kl l r.1) then .inr () else .inl false) ?_ (by rintro r' rfl; cases r.2.all (Kl l r.1)<;>exact Tot.pure rfl))
    refine Tot.up (L:=fun k i (_:Unit)=>Gc k l r.2 (r.2.length:Int) i r) (Q:=fun b=>b=bif r.2.all (Kl l r.1) then .inr () else .inl false) r.2.length (fun j _=>(r.2.drop j).all (Kl l r.1)=r.2.all (Kl l r.1)) ?_ ?_ 0 () (Nat.zero_le _) rfl
    ·intro _ h
     rw [List.drop_length] at h
     simp (disch:=omega) only [Gc,dF,← h]
     exact Tot.pure rfl
    ·intro j _ hj h next
     rw [Am (d:=[]) hj,List.all_cons] at h
     have hp:=hr.2 _ (A3 (d:=[]) hj)
     simp (disch:=omega) only [Gc,dT,Int.toNat_natCast,w64]
     have no:Kl l r.1 (r.2.getD j [])=false→r.2.all (Kl l r.1)=false:=fun c=>by rw [← h,c]; rfl
     unfold Kl at no h
     refine Tot.ite (fun hc=>Tot.pure ?_) (fun h1=>Tot.bind (Pma (r.2.getD j []) (by omega)) ?_)
     ·have hc':(((r.2.getD j []).length:Int)==r.1)=false:=by simpa using hc
      rw [show r.2.all (Kl l r.1)=false from no (by rw [hc',Bool.and_false,Bool.false_and])]
      rfl
     ·have h1':(((r.2.getD j []).length:Int)==r.1)=true:=by simpa using h1
      rintro b rfl
      refine Tot.ite (fun hc=>Tot.pure ?_) (fun h2=>?_)
      ·rw [show r.2.all (Kl l r.1)=false from no (by rw [Bool.not_eq_true'] at hc; rw [hc]; rfl)]
       rfl
      ·rw [Bool.not_eq_false'] at h2
       generalize r.2.getD j []=p at *
       refine Tot.bind (Q:=fun b=>b=bif p.all (fun id=>(Iq l id).isSome) then .inr (l,r.2,(r.2.length:Int),(j:Int),r) else .inl false) ?_ ?_
       ·refine Tot.up (L:=fun k i (_:Unit)=>Gb k l r.2 (r.2.length:Int) (j:Int) p (p.length:Int) i r) (Q:=fun b=>b=bif p.all (fun id=>(Iq l id).isSome) then .inr (l,r.2,(r.2.length:Int),(j:Int),r) else .inl false) p.length (fun m _=>(p.drop m).all (fun id=>(Iq l id).isSome)=p.all (fun id=>(Iq l id).isSome)) ?_ ?_ 0 () (Nat.zero_le _) rfl
        ·intro _ h
         rw [List.drop_length] at h
         simp (disch:=omega) only [Gb,dF,← h]
         exact Tot.pure rfl
        ·intro m _ hm h next
         rw [Am (d:=0) hm,List.all_cons] at h
         simp (disch:=omega) only [Gb,dT,Int.toNat_natCast,w64]
         refine Tot.bind (Pla l (p.getD m 0) (by omega)) ?_
         rintro b rfl
         cases hd:Iq l (p.getD m 0) with
         |none=>exact Tot.yes rfl (Tot.pure (by rw [← h,hd]; rfl))
         |some d=>exact Tot.no rfl (next () (by rw [hd] at h; exact h))
       ·rintro b rfl
        cases hc:p.all (fun id=>(Iq l id).isSome) with
        |false=>exact Tot.pure (by rw [show r.2.all (Kl l r.1)=false from no (by rw [hc,Bool.and_false])]; rfl)
        |true=>
         simp (disch:=omega) only [cond_true,Sum.elim_inr,w64]
         exact next () (by rw [h2,h1',hc] at h; exact h)
theorem T7a (r:Rng) (l:List Dev) (hr:RBd r) (hl:l.length≤100000):Tot (fun k=>Ea k r l) (fun b=>b=Hu r l):=by
 unfold Ea Hu
 refine Tot.bind (Uh l (by omega)) ?_
 rintro b rfl
 cases hd:Ju l with
 |false=>exact Tot.yes rfl (Tot.pure rfl)
 |true=>
  have hrl:=hr.1
  simp only [Bool.not_true,cond_false,Mi,Option.bind_some,Bool.true_and]
  cases inR r.1 1 5 with
  |false=>exact Tot.yes rfl (Tot.pure rfl)
  |true=>
   refine Tot.no rfl ?_
   cases inR (r.2.length:Int) 1 64 with
   |false=>exact Tot.yes rfl (Tot.pure rfl)
   |true=>
    refine Tot.no rfl (Tot.bind (Q:=fun b=>b=bif r.2.all (Kl l r.1) then .inr () else .inl false) ?_ (by rintro r' rfl; cases r.2.all (Kl l r.1)<;>exact Tot.pure rfl))
    refine Tot.up (L:=fun k i (_:Unit)=>Gf k l i r) (Q:=fun b=>b=bif r.2.all (Kl l r.1) then .inr () else .inl false) r.2.length (fun j _=>(r.2.drop j).all (Kl l r.1)=r.2.all (Kl l r.1)) ?_ ?_ 0 () (Nat.zero_le _) rfl
    ·intro _ h
     rw [List.drop_length] at h
     simp (disch:=omega) only [Gf,dF,← h]
     exact Tot.pure rfl
    ·intro j _ hj h next
     rw [Am (d:=[]) hj,List.all_cons] at h
     have hp:=hr.2 _ (A3 (d:=[]) hj)
     simp (disch:=omega) only [Gf,dT,Int.toNat_natCast,w64]
     have no:Kl l r.1 (r.2.getD j [])=false→r.2.all (Kl l r.1)=false:=fun c=>by rw [← h,c]; rfl
     unfold Kl at no h
     refine Tot.bind (Jta (r.2.getD j []) r.1 (by omega)) ?_
     rintro b rfl
     refine Tot.ite (fun hc=>Tot.pure ?_) (fun h2=>?_)
     ·rw [show r.2.all (Kl l r.1)=false from no (by rw [Bool.not_eq_true'] at hc; rw [hc]; rfl)]
      rfl
     ·rw [Bool.not_eq_false'] at h2
      refine Tot.bind (Q:=fun b=>b=bif (r.2.getD j []).all (fun id=>(Iq l id).isSome) then .inr (l,(j:Int),r) else .inl false) ?_ ?_
      ·refine Tot.up (L:=fun k i (_:Unit)=>Ge k l (j:Int) i r) (Q:=fun b=>b=bif (r.2.getD j []).all (fun id=>(Iq l id).isSome) then .inr (l,(j:Int),r) else .inl false) (r.2.getD j []).length (fun m _=>((r.2.getD j []).drop m).all (fun id=>(Iq l id).isSome)=(r.2.getD j []).all (fun id=>(Iq l id).isSome)) ?_ ?_ 0 () (Nat.zero_le _) rfl
       ·intro _ h
        rw [List.drop_length] at h
        simp (disch:=omega) only [Ge,dT,dF,Int.toNat_natCast,← h]
        exact Tot.pure rfl
       ·intro m _ hm h next
        rw [Am (d:=0) hm,List.all_cons] at h
        simp (disch:=omega) only [Ge,dT,Int.toNat_natCast,w64]
        refine Tot.bind (Pq l ((r.2.getD j []).getD m 0) (by omega)) ?_
        rintro b rfl
        cases hd:Iq l ((r.2.getD j []).getD m 0) with
        |none=>exact Tot.yes rfl (Tot.pure (by rw [← h,hd]; rfl))
        |some d=>exact Tot.no rfl (next () (by rw [hd] at h; exact h))
      ·rintro b rfl
       cases hc:(r.2.getD j []).all (fun id=>(Iq l id).isSome) with
       |false=>exact Tot.pure (by rw [show r.2.all (Kl l r.1)=false from no (by rw [hc,Bool.and_false])]; rfl)
       |true=>
        simp (disch:=omega) only [cond_true,Sum.elim_inr,w64]
        exact next () (by rw [h2,hc] at h; exact h)
theorem Eoa (r:Rng) (hr:RBd r):Tot (fun k=>Ii k r) (fun x=>x=r):=by
 have hrl:=hr.1
 unfold Ii
 refine Tot.bind (Q:=fun x=>x=((0,[]),r)) ?_ (by rintro x rfl; exact Tot.pure rfl)
 refine Tot.up (L:=fun k i s=>Fz k i r (0,[]) (r.1,s)) (Q:=fun x=>x=((0,[]),r)) r.2.length (fun j s=>s=r.2.take j) ?_ ?_ 0 [] (Nat.zero_le _) rfl
 ·rintro s rfl
  simp (disch:=omega) only [Fz,dF,List.take_length]
  exact Tot.pure rfl
 ·rintro j s hj rfl next
  have hp:=hr.2 _ (A3 (d:=[]) hj)
  simp (disch:=omega) only [Fz,dT,Int.toNat_natCast,w64]
  refine Tot.ble (by simp only [List.length_nil]; omega) (Tot.ble (by simp only [List.length_take,List.length_cons,List.length_nil]; omega) (next _ ?_))
  rw [List.take_succ_eq_append_getElem hj,List.getD_eq_getElem?_getD,List.getElem?_eq_getElem hj,Option.getD_some,List.nil_append]
def cnt (id n x:Int):Int:=bif x==id then n+1 else n
def Hca (id n:Int) (p:List Int):Int:=p.foldl (cnt id) n
def Kw (r:Rng) (id:Int):Int:=r.2.foldl (Hca id) 0
theorem Hda (id:Int):∀ (p:List Int) (n:Int),n≤Hca id n p∧Hca id n p≤n+p.length
 |[],n=>by simp [Hca]
 |x::p,n=>by
  have h:=Hda id p (cnt id n x)
  unfold Hca at h ⊢
  have hc:n≤cnt id n x∧cnt id n x≤n+1:=by unfold cnt; cases x==id<;>simp<;>omega
  rw [List.foldl_cons,List.length_cons]
  omega
theorem Pna (id:Int) (m:Nat):∀ (ps:List (List Int)) (n:Int),(∀ p∈ps,p.length≤m)→n≤ps.foldl (Hca id) n∧ps.foldl (Hca id) n≤n+(m * ps.length:Nat)
 |[],n,_=>by simp
 |p::ps,n,h=>by
  have h1:=Pna id m ps (Hca id n p) (fun q hq=>h q (List.mem_cons_of_mem _ hq))
  have h2:=Hda id p n
  have h3:=h p List.mem_cons_self
  rw [List.foldl_cons,List.length_cons,Nat.mul_succ]
  omega
theorem Sd {r:Rng} (hr:RBd r) (id:Int):0≤Kw r id∧Kw r id≤1000000:=by
 have h:=Pna id 1000 r.2 0 hr.2
 have h2:=hr.1
 unfold Kw
 omega
theorem Ui (r:Rng) (id:Int) (hr:RBd r):Tot (fun k=>C3 k r id) (fun x=>x=Kw r id):=by
 have hrl:=hr.1
 unfold C3
 refine Tot.bind (Q:=fun x=>x=Kw r id) ?_ (by rintro x rfl; exact Tot.pure rfl)
 refine Tot.up (L:=fun k i s=>Ft k id s i r) (Q:=fun x=>x=Kw r id) r.2.length (fun j s=>(r.2.drop j).foldl (Hca id) s=Kw r id∧0≤s∧s≤1000 * j) ?_ ?_ 0 0 (Nat.zero_le _) ⟨rfl,by omega,by omega⟩
 ·rintro s ⟨h,_⟩
  rw [List.drop_length] at h
  simp (disch:=omega) only [Ft,dF]
  exact Tot.pure h
 ·rintro j s hj ⟨h,h0,h1⟩ next
  rw [Am (d:=[]) hj,List.foldl_cons] at h
  have hp:=hr.2 _ (A3 (d:=[]) hj)
  have hc:=Hda id (r.2.getD j []) s
  simp (disch:=omega) only [Ft,dT]
  refine Tot.bind (Q:=fun x=>x=(id,Hca id s (r.2.getD j []),(j:Int),r)) ?_ ?_
  ·refine Tot.up (L:=fun k i s=>F3 k id s (j:Int) i r) (Q:=fun x=>x=(id,Hca id s (r.2.getD j []),(j:Int),r)) (r.2.getD j []).length (fun m z=>Hca id z ((r.2.getD j []).drop m)=Hca id s (r.2.getD j [])∧0≤z∧z≤1000 * j+m) ?_ ?_ 0 s (Nat.zero_le _) ⟨rfl,h0,by omega⟩
   ·rintro z ⟨h,_⟩
    rw [List.drop_length] at h
    simp (disch:=omega) only [F3,dT,dF,Int.toNat_natCast]
    exact Tot.pure (by rw [← h]; rfl)
   ·rintro m z hm ⟨h,z0,z1⟩ next
    rw [Am (d:=0) hm] at h
    simp (disch:=omega) only [F3,dT,Int.toNat_natCast,w64]
    have h':Hca id (cnt id z ((r.2.getD j []).getD m 0)) ((r.2.getD j []).drop (m+1))=Hca id s (r.2.getD j []):=h
    unfold cnt at h'
    refine Tot.ite (fun hc=>next _ ?_) (fun hc=>next _ ?_)
    ·rw [hc] at h'; exact ⟨h',by omega,by omega⟩
    ·rw [hc] at h'; exact ⟨h',by omega,by omega⟩
  ·rintro x rfl
   simp (disch:=omega) only [w64]
   exact next _ ⟨h,by omega,by omega⟩
end Go.Proofs.YtflokceoeiplcaaGreat.Vf
end

section
set_option linter.unusedVariables false
set_option linter.unusedSimpArgs false
namespace Go.Proofs.YtflokceoeiplcaaGreat.Vf
open Go
theorem Bcb {a w:Int} (h0:0≤a) (h1:a≤1000001) (w0:0≤w) (w1:w≤1000) : -9223372036854775808≤a * w∧a * w≤9223372036854775807:=by
 have e1:=Int.mul_nonneg h0 w0
 have e2:a * w≤1000001 * 1000:=Int.mul_le_mul h1 w1 w0 (by decide)
 omega
def Xf (r:Rng) (p zs:List Int) (a:Option (Dev×Bool)) (d:Dev):Option (Dev×Bool):=
 bif Mz p d.1 then a else match a with
 |none=>some (d,!(Mz zs d.2.1))
 |some (b,fr)=>bif (!(Mz zs d.2.1) && !fr) || (((!(Mz zs d.2.1))==fr)&&decide ((Kw r d.1+1) * b.2.2<(Kw r b.1+1) * d.2.2)) then some (d,!(Mz zs d.2.1)) else some (b,fr)
def R8 (r:Rng) (p:List Int) (l:List Dev):Option (Dev×Bool):=l.foldl (Xf r p (J3 p l)) none
def Yy (r:Rng) (p:List Int) (l:List Dev):Int:=match R8 r p l with
 |some b=>b.1.1
 |none => -1
theorem T8a {r:Rng} {p zs:List Int} {l:List Dev} {a:Option (Dev×Bool)} {d:Dev} (ha:∀ b,a=some b→b.1∈l∧b.1.1∉p) (hd:d∈l):∀ b,Xf r p zs a d=some b→b.1∈l∧b.1.1∉p:=by
 intro b hb
 unfold Xf at hb
 cases hp:Mz p d.1 with
 |true=>rw [hp] at hb; exact ha b hb
 |false=>
  have hn:d.1∉p:=fun c=>by rw [Qd.2 c] at hp; cases hp
  rw [hp,cond_false] at hb
  cases a with
  |none=>cases hb; exact ⟨hd,hn⟩
  |some c=>
   obtain ⟨c,fr⟩:=c
   simp only at hb
   cases hq:(!(Mz zs d.2.1) && !fr) || (((!(Mz zs d.2.1))==fr)&&decide ((Kw r d.1+1) * c.2.2<(Kw r c.1+1) * d.2.2)) with
   |true=>rw [hq] at hb; cases hb; exact ⟨hd,hn⟩
   |false=>rw [hq] at hb; cases hb; exact ha _ rfl
theorem Jua {r:Rng} {p zs:List Int} {l:List Dev}:∀ (m:List Dev) (a:Option (Dev×Bool)),(∀ b,a=some b→b.1∈l∧b.1.1∉p)→(∀ d∈m,d∈l)→∀ b,m.foldl (Xf r p zs) a=some b→b.1∈l∧b.1.1∉p
 |[],_,ha,_=>ha
 |d::m,_,ha,hm=>Jua m _ (T8a ha (hm d List.mem_cons_self)) (fun x hx=>hm x (List.mem_cons_of_mem _ hx))
theorem Jva {r:Rng} {p:List Int} {l:List Dev} {b:Dev×Bool} (h:R8 r p l=some b):b.1∈l∧b.1.1∉p:=Jua l none (fun b h=>by cases h) (fun _ h=>h) b h
theorem Lka {r:Rng} {p zs:List Int} {a:Option (Dev×Bool)} {d:Dev} (h:a.isSome=true∨d.1∉p):(Xf r p zs a d).isSome=true:=by
 unfold Xf
 cases hp:Mz p d.1 with
 |true=>
  rcases h with h|h
  ·exact h
  ·exact absurd (Qd.1 hp) h
 |false=>
  cases a with
  |none=>rfl
  |some c=>
   obtain ⟨c,fr⟩:=c
   simp only [cond_false]
   cases (!(Mz zs d.2.1) && !fr) || (((!(Mz zs d.2.1))==fr)&&decide ((Kw r d.1+1) * c.2.2<(Kw r c.1+1) * d.2.2))<;>rfl
theorem Apa {r:Rng} {p zs:List Int}:∀ (m:List Dev) (a:Option (Dev×Bool)),(a.isSome=true∨∃ d∈m,d.1∉p)→(m.foldl (Xf r p zs) a).isSome=true
 |[],a,h=>by
  rcases h with h|⟨d,h,_⟩
  ·exact h
  ·cases h
 |d::m,a,h=>by
  refine Apa m _ ?_
  by_cases hd:a.isSome=true∨d.1∉p
  ·exact .inl (Lka hd)
  ·rcases h with h|⟨x,hx,hn⟩
   ·exact absurd (.inl h) hd
   ·rcases List.mem_cons.1 hx with rfl|hx
    ·exact absurd (.inr hn) hd
    ·exact .inr ⟨x,hx,hn⟩
theorem T9a {r:Rng} {p:List Int} {l:List Dev} (h:∃ d∈l,d.1∉p):∃ d∈l,Yy r p l=d.1∧d.1∉p:=by
 obtain ⟨b,hb⟩:=Option.isSome_iff_exists.1 (Apa (r:=r) (zs:=J3 p l) l none (.inr h))
 obtain ⟨h1,h2⟩:=Jva hb
 exact ⟨b.1,h1,by unfold Yy; rw [show R8 r p l=some b from hb],h2⟩
theorem Lla (r:Rng) (p:List Int) (l:List Dev):(R8 r p l=none∧Yy r p l = -1)∨∃ b,R8 r p l=some b∧Yy r p l=b.1.1∧b.1∈l∧b.1.1∉p:=by
 cases h:R8 r p l with
 |none=>exact .inl ⟨rfl,by unfold Yy; rw [h]⟩
 |some b=>exact .inr ⟨b,rfl,by unfold Yy; rw [h],Jva h⟩
theorem Xg (p:List Int) (l:List Dev):(J3 p l).length≤p.length:=by
 have:=Ela l p []
 rwa [List.length_nil,Nat.zero_add] at this
def bs (r:Rng):Option (Dev×Bool)→Int×Bool×Dev
 |some (b,fr)=>(Kw r b.1+1,fr,b)
 |none=>(0,false,-1,0,0)
theorem Jwa (r:Rng) (p:List Int) (l:List Dev) (hr:RBd r) (hp:p.length≤1000) (hl:Ju l=true):Tot (fun k=>Gw k r p l) (fun x=>x=Yy r p l):=by
 obtain ⟨_,hdv,_,h12⟩:=H4.1 hl
 have hz:=Xg p l
 unfold Gw
 refine Tot.bind (Ema p l (by omega) (by omega)) ?_
 rintro z rfl
 refine Tot.bind (Q:=fun x=>∃ i:Int,x=(l,i)∧match R8 r p l with|some b=>∃ n:Nat,i=(n:Int)∧n<l.length∧l.getD n Lt=b.1|none=>i = -1) ?_ ?_
 ·refine Tot.up (L:=fun k i (s:Int×Bool)=>B8 k l (J3 p l) s.1 s.2 i r p) (Q:=fun x=>∃ i:Int,x=(l,i)∧match R8 r p l with|some b=>∃ n:Nat,i=(n:Int)∧n<l.length∧l.getD n Lt=b.1|none=>i = -1) l.length
   (fun j s=>∃ a,(match a with|some (b,fr)=>s.2=fr∧∃ n:Nat,s.1=(n:Int)∧n<l.length∧l.getD n Lt=b|none=>s=(-1,false))∧(l.drop j).foldl (Xf r p (J3 p l)) a=R8 r p l) ?_ ?_ 0 (-1,false) (Nat.zero_le _) ⟨none,rfl,rfl⟩
  ·rintro ⟨s1,s2⟩ ⟨a,hs,h⟩
   rw [List.drop_length] at h
   simp (disch:=omega) only [B8,dF]
   refine Tot.pure ⟨s1,rfl,?_⟩
   rw [← h]
   cases a with
   |none=>exact (Prod.mk.inj hs).1
   |some bf=>exact hs.2
  ·rintro j ⟨s1,s2⟩ hj ⟨a,hs,h⟩ next
   rw [Am (d:=Lt) hj,List.foldl_cons] at h
   have hd:=A3 (d:=Lt) hj
   obtain ⟨d,ed⟩:∃ d:Dev,l.getD j Lt=d:=⟨_,rfl⟩
   rw [ed] at h hd
   have e0:l.getD j ((0:Int),((0:Int),(0:Int)))=d:=ed
   obtain ⟨_,_,w0,w1⟩:=M8.1 (hdv _ hd)
   have l1:=Sd hr d.1
   simp (disch:=omega) only [B8,dT,Int.toNat_natCast,w64,e0]
   refine Tot.bind (Uh l (by omega)) ?_
   rintro x rfl
   refine Tot.yes hl (Tot.bind (R7 p d.1 (by omega)) ?_)
   rintro x rfl
   unfold Xf at h
   cases hp':Mz p d.1 with
   |true=>
    rw [hp'] at h
    exact Tot.yes rfl (next _ ⟨a,hs,h⟩)
   |false=>
    rw [hp',cond_false] at h
    refine Tot.no rfl (Tot.bind (R7 (J3 p l) d.2.1 (by omega)) ?_)
    rintro x rfl
    have take:∀ {z:Bool},(l.drop (j+1)).foldl (Xf r p (J3 p l)) (some (d,z))=R8 r p l→Tot (fun k=>B8 k l (J3 p l) (j:Int) z ((j:Int)+1) r p) (fun x=>∃ i:Int,x=(l,i)∧match R8 r p l with|some b=>∃ n:Nat,i=(n:Int)∧n<l.length∧l.getD n Lt=b.1|none=>i = -1):=fun {z} h2=>next ((j:Int),z) ⟨some (d,z),⟨rfl,j,rfl,hj,ed⟩,h2⟩
    cases a with
    |none=>
     obtain ⟨rfl,rfl⟩:=Prod.mk.inj hs
     exact Tot.dec (by decide) (take h)
    |some bf=>
     obtain ⟨b,fr⟩:=bf
     obtain ⟨e1,n,e2,hn,e3⟩:=hs
     dsimp only at e1 e2
     subst e1 e2
     have hb:=A3 (d:=Lt) hn
     rw [e3] at hb
     obtain ⟨⟨i0,_⟩,_,v0,v1⟩:=M8.1 (hdv _ hb)
     have l2:=Sd hr b.1
     have m1:=Bcb (a:=Kw r d.1+1) (w:=b.2.2) (by omega) (by omega) (by omega) v1
     have m2:=Bcb (a:=Kw r b.1+1) (w:=d.2.2) (by omega) (by omega) (by omega) w1
     have stay:(l.drop (j+1)).foldl (Xf r p (J3 p l)) (some (b,s2))=R8 r p l→Tot (fun k=>B8 k l (J3 p l) (n:Int) s2 ((j:Int)+1) r p) (fun x=>∃ i:Int,x=(l,i)∧match R8 r p l with|some b=>∃ n:Nat,i=(n:Int)∧n<l.length∧l.getD n Lt=b.1|none=>i = -1):=fun h2=>next ((n:Int),s2) ⟨some (b,s2),⟨rfl,n,rfl,hn,e3⟩,h2⟩
     refine Tot.ndec (by omega) ?_
     have e4:l.getD n ((0:Int),((0:Int),(0:Int)))=b:=e3
     dsimp only at h
     have cmp:∀ {z:Bool},Mz (J3 p l) d.2.1=z→((!z)==s2)=true→(!z && !s2)=false→Tot (fun k=>(C3 k r d.1).bind fun r5=>cond (decide ((0:Int)≤(n:Int))) (cond (decide ((n:Int)<(List.length l:Int))) (cond (decide ((0:Int)≤(n:Int))) (cond (decide ((n:Int)<(List.length l:Int))) ((C3 k r (List.getD l (Int.toNat (n:Int)) ((0:Int),((0:Int),(0:Int)))).1).bind fun r8=>cond (decide ((IntKind.wrap .i64 ((IntKind.wrap .i64 (r5+1)) * (List.getD l (Int.toNat (n:Int)) ((0:Int),((0:Int),(0:Int)))).2.2))<(IntKind.wrap .i64 ((IntKind.wrap .i64 (r8+1)) * d.2.2)))) (B8 k l (J3 p l) (j:Int) s2 ((j:Int)+1) r p) (B8 k l (J3 p l) (n:Int) s2 ((j:Int)+1) r p)) none) none) none) none) (fun x=>∃ i:Int,x=(l,i)∧match R8 r p l with|some b=>∃ n:Nat,i=(n:Int)∧n<l.length∧l.getD n Lt=b.1|none=>i = -1):=by
      intro z hz e1 e2
      rw [hz,e1,e2,Bool.false_or,Bool.true_and] at h
      refine Tot.bind (Ui r d.1 hr) ?_
      rintro x rfl
      refine Tot.dec (by omega) (Tot.dec (by omega) (Tot.dec (by omega) (Tot.dec (by omega) ?_)))
      rw [Int.toNat_natCast,e4]
      refine Tot.bind (Ui r b.1 hr) ?_
      rintro x rfl
      rw [w64 (n:=Kw r d.1+1) (by omega) (by omega),w64 (n:=Kw r b.1+1) (by omega) (by omega),w64 m1.1 m1.2,w64 m2.1 m2.2]
      refine Tot.ite (fun hc=>?_) (fun hc=>?_)
      ·rw [hc,cond_true] at h
       rw [show s2 = !z by rw [← eq_of_beq e1]]
       exact take h
      ·rw [hc] at h; exact stay h
     cases hz:Mz (J3 p l) d.2.1 with
     |false=>
      have cm:=cmp hz
      rw [hz] at h
      cases s2 with
      |false=>exact Tot.yes rfl (Tot.yes rfl (take h))
      |true=>exact Tot.yes rfl (Tot.no rfl (Tot.yes rfl (cm rfl rfl)))
     |true=>
      have cm:=cmp hz
      rw [hz] at h
      cases s2 with
      |false=>exact Tot.no rfl (Tot.yes rfl (cm rfl rfl))
      |true=>exact Tot.no rfl (Tot.no rfl (stay h))
 ·rintro x ⟨i,rfl,hi⟩
  unfold Yy
  cases hb:R8 r p l with
  |none=>
   rw [hb] at hi
   subst hi
   exact Tot.dec (show (-1:Int)<0 by decide) (Tot.pure rfl)
  |some b=>
   rw [hb] at hi
   obtain ⟨n,rfl,hn,e⟩:=hi
   dsimp only
   refine Tot.ndec (by omega) (Tot.dec (by omega) (Tot.dec (by omega) (Tot.pure ?_)))
   rw [Int.toNat_natCast,show l.getD n ((0:Int),((0:Int),(0:Int)))=b.1 from e]
end Go.Proofs.YtflokceoeiplcaaGreat.Vf
end

section
set_option linter.unusedVariables false
set_option linter.unusedSimpArgs false
namespace Go.Proofs.YtflokceoeiplcaaGreat.Vf
open Go
theorem Poa {l:List Dev} (h:Ju l=true) {d:Dev} (hd:d∈l):Iq l d.1=some d:=by
 have hp:=(H4.1 h).1
 clear h
 induction l with
 |nil=>cases hd
 |cons x l ih=>
  obtain ⟨h1,h2⟩:=List.pairwise_cons.1 hp
  unfold Iq
  rw [List.find?_cons]
  rcases List.mem_cons.1 hd with rfl|hd
  ·rw [beq_self_eq_true]
  ·have:=h1 d hd
   rw [show (x.1==d.1)=false from beq_eq_false_iff_ne.2 (by omega)]
   exact ih hd h2
theorem V5a:∀ (p:List Int) (l:List Dev),l.Pairwise (fun a b=>a.1<b.1)→p.length<l.length→∃ d∈l,d.1∉p
 |p,[],_,h=>by simp at h
 |p,d::l,hl,h=>by
  obtain ⟨h1,h2⟩:=List.pairwise_cons.1 hl
  by_cases hd:d.1∈p
  ·have hlen:(p.erase d.1).length=p.length - 1:=List.length_erase_of_mem hd
   have hpos:=List.length_pos_of_mem hd
   rw [List.length_cons] at h
   obtain ⟨x,hx,hn⟩:=V5a (p.erase d.1) l h2 (by omega)
   refine ⟨x,List.mem_cons_of_mem _ hx,fun c=>hn ?_⟩
   have:=h1 x hx
   exact (List.mem_erase_of_ne (by omega)).2 c
  ·exact ⟨d,List.mem_cons_self,hd⟩
def Lma (l:List Dev) (n:Nat) (p:List Int):Prop:=p.Nodup∧p.length=n∧∀ id∈p,∃ d,Iq l id=some d
theorem Ppa {r:Rng} {l:List Dev} {n:Nat} {p:List Int} (hl:Ju l=true) (h:Lma l n p) (hn:n<l.length):Lma l (n+1) (p++[Yy r p l]):=by
 obtain ⟨h1,h2,h3⟩:=h
 obtain ⟨d,hd,e,hne⟩:=T9a (r:=r) (V5a p l (H4.1 hl).1 (by omega))
 rw [e]
 refine ⟨?_,by rw [List.length_append]; simp [h2],fun id hid=>?_⟩
 ·rw [List.nodup_append]
  exact ⟨h1,by simp,fun a ha b hb c=>by rw [List.mem_singleton.1 hb] at c; subst c; exact hne ha⟩
 ·rcases List.mem_append.1 hid with hid|hid
  ·exact h3 id hid
  ·rw [List.mem_singleton.1 hid]; exact ⟨d,Poa hl hd⟩
def Epa (l:List Dev) (reps:Int) (ps:List (List Int)):Nat→List Int→List Int
 |0,p=>p
 |n+1,p=>Epa l reps ps n (p++[Yy (reps,ps++[p]) p l])
def M8a (l:List Dev) (reps:Int):Nat→List (List Int)→List (List Int)
 |0,ps=>ps
 |n+1,ps=>M8a l reps n (ps++[Epa l reps ps reps.toNat []])
def build (l:List Dev) (parts reps:Int):Rng×Bool:=bif Ju l&&(inR parts 1 64&&(inR reps 1 5 && !(decide (reps > (l.length:Int))))) then ((reps,M8a l reps parts.toNat []),true) else ((0,[]),false)
theorem Jxa {l:List Dev} {reps:Int} {ps:List (List Int)} (hl:Ju l=true):∀ (n m:Nat) (p:List Int),Lma l m p→m+n≤l.length→Lma l (m+n) (Epa l reps ps n p)
 |0,_,_,h,_=>h
 |n+1,m,p,h,hm=>by
  have:=Jxa (reps:=reps) (ps:=ps) hl n (m+1) _ (Ppa (r:=(reps,ps++[p])) hl h (by omega)) (by omega)
  rwa [show m+1+n=m+(n+1) by omega] at this
theorem Pqa {l:List Dev} {reps:Int} (hl:Ju l=true) (hr:reps≤(l.length:Int)):∀ (n:Nat) (ps:List (List Int)),(∀ p∈ps,Lma l reps.toNat p)→(M8a l reps n ps).length=ps.length+n∧∀ p∈M8a l reps n ps,Lma l reps.toNat p
 |0,ps,h=>⟨rfl,h⟩
 |n+1,ps,h=>by
  have hf:=Jxa (reps:=reps) (ps:=ps) hl reps.toNat 0 [] ⟨List.nodup_nil,rfl,fun _ h=>by cases h⟩ (by omega)
  rw [Nat.zero_add] at hf
  obtain ⟨h1,h2⟩:=Pqa hl hr n (ps++[Epa l reps ps reps.toNat []]) (fun p hp=>by
   rcases List.mem_append.1 hp with hp|hp
   ·exact h p hp
   ·rw [List.mem_singleton.1 hp]; exact hf)
  refine ⟨?_,h2⟩
  show (M8a l reps n _).length=_
  rw [h1,List.length_append]
  simp only [List.length_cons,List.length_nil]
  omega
theorem Jya {l:List Dev} {parts reps:Int} (h:(build l parts reps).2=true):Ju l=true∧Hu (build l parts reps).1 l=true∧(build l parts reps).1.1=reps∧((build l parts reps).1.2.length:Int)=parts:=by
 unfold build at h ⊢
 cases hc:Ju l&&(inR parts 1 64&&(inR reps 1 5 && !(decide (reps > (l.length:Int))))) with
 |false=>rw [hc] at h; cases h
 |true=>
  rw [Bool.and_eq_true,Bool.and_eq_true,Bool.and_eq_true,Bool.not_eq_true',decide_eq_false_iff_not,Gv,Gv] at hc
  obtain ⟨h1,h2,h3,h4⟩:=hc
  obtain ⟨b1,b2⟩:=Pqa (reps:=reps) h1 (by omega) parts.toNat [] (fun p hp=>by cases hp)
  rw [List.length_nil,Nat.zero_add] at b1
  have b1':((M8a l reps parts.toNat []).length:Int)=parts:=by rw [b1]; omega
  refine ⟨h1,Cz.2 ⟨h1,h3,⟨by show 1≤(M8a l reps parts.toNat []).length; omega,by show (M8a l reps parts.toNat []).length≤64; omega⟩,fun p hp=>?_⟩,rfl,b1'⟩
  obtain ⟨c1,c2,c3⟩:=b2 p hp
  exact ⟨c1,by rw [c2]; show ((reps.toNat:Nat):Int)=reps; omega,c3⟩
theorem Eqa {l:List Dev} {reps:Int} {ps:List (List Int)}:∀ (n:Nat) (p:List Int),(Epa l reps ps n p).length=p.length+n
 |0,_=>rfl
 |n+1,p=>by
  show (Epa l reps ps n _).length=_
  rw [Eqa n,List.length_append]
  simp only [List.length_cons,List.length_nil]
  omega
theorem Pra {α:Type} (l:List α) (x d:α):(l++[x]).getD l.length d=x:=by
 rw [List.getD_eq_getElem?_getD,List.getElem?_append_right (Nat.le_refl _),Nat.sub_self]
 rfl
theorem Taa {α:Type} (l:List α) (x y:α):(l++[x]).set l.length y=l++[y]:=by
 rw [List.set_append_right _ _ (Nat.le_refl _),Nat.sub_self]
 rfl
theorem Era (l:List Dev) (parts reps:Int) (z:Rng) (hl:Ju l=true) (h0:0≤reps) (h5:reps≤5) (ps:List (List Int)) (hps:ps.length≤100) (hq:∀ q∈ps,q.length≤100):∀ (n:Nat) (p:List Int),p.length+n=reps.toNat→
  Tot (fun k=>H8 k l parts reps (ps.length:Int) (p.length:Int) z (reps,ps++[p])) (fun x=>x=(l,parts,reps,(ps.length:Int),z,(reps,ps++[Epa l reps ps n p]))):=by
 intro n
 induction n with
 |zero=>
  intro p hp
  refine Tot.succ ?_
  simp (disch:=omega) only [H8,dF]
  exact Tot.pure rfl
 |succ n ih=>
  intro p hp
  refine Tot.succ ?_
  have hrb:RBd (reps,ps++[p]):=⟨by simp only [List.length_append,List.length_cons,List.length_nil]; omega,fun q hq'=>by
   rcases List.mem_append.1 hq' with h|h
   ·have:=hq q h; omega
   ·rw [List.mem_singleton.1 h]; omega⟩
  have hlen:(ps++[p]).length=ps.length+1:=by simp
  simp (disch:=omega) only [H8,dT,Int.toNat_natCast,w64,hlen,Pra,Taa]
  refine Tot.bind (Jwa (reps,ps++[p]) p l hrb (by omega) hl) ?_
  rintro x rfl
  refine Tot.yes (decide_eq_true trivial) (Tot.ble (by simp only [List.length_cons,List.length_nil]; omega) (Tot.yes (decide_eq_true trivial) ?_))
  have:=ih (p++[Yy (reps,ps++[p]) p l]) (by simp only [List.length_append,List.length_cons,List.length_nil]; omega)
  rw [show (((p++[Yy (reps,ps++[p]) p l]).length:Nat):Int)=(p.length:Int)+1 by simp] at this
  exact this
theorem Psa (l:List Dev) (parts reps:Int) (hll:l.length≤100000):Tot (fun k=>Fq k l parts reps) (fun x=>x=build l parts reps):=by
 unfold Fq build
 refine Tot.bind (Uh l (by omega)) ?_
 rintro b rfl
 cases hl:Ju l with
 |false=>exact Tot.yes rfl (Tot.pure rfl)
 |true=>
  simp only [Bool.not_true,cond_false,Mi,Option.bind_some,Bool.true_and]
  cases hp:inR parts 1 64 with
  |false=>exact Tot.yes rfl (Tot.pure rfl)
  |true=>
   refine Tot.no rfl ?_
   cases hr:inR reps 1 5 with
   |false=>exact Tot.yes rfl (Tot.pure rfl)
   |true=>
    obtain ⟨r1,r2⟩:=Gv.1 hr
    obtain ⟨p1,p2⟩:=Gv.1 hp
    refine Tot.no rfl ?_
    cases hc:decide (reps > (l.length:Int)) with
    |true=>exact Tot.yes rfl (Tot.pure rfl)
    |false=>
     refine Tot.no rfl (Tot.bind (Q:=fun x=>x=(((0:Int),([]:List (List Int))),(reps,M8a l reps parts.toNat []))) ?_ (by rintro x rfl; exact Tot.pure rfl))
     obtain ⟨n,rfl⟩:∃ n:Nat,parts=(n:Int):=⟨parts.toNat,by omega⟩
     refine Tot.up (L:=fun k i (s:Rng)=>H9 k l (n:Int) reps i (0,[]) s) (Q:=fun x=>x=(((0:Int),([]:List (List Int))),(reps,M8a l reps n []))) n (fun j s=>∃ ps,s=(reps,ps)∧ps.length=j∧(∀ q∈ps,q.length≤100)∧M8a l reps (n - j) ps=M8a l reps n []) ?_ ?_ 0 (reps,[]) (Nat.zero_le _) ⟨[],rfl,rfl,fun q h=>(by cases h),rfl⟩
     ·rintro s ⟨ps,rfl,hps,_,h⟩
      rw [Nat.sub_self] at h
      simp (disch:=omega) only [H9,dF]
      exact Tot.pure (by rw [← h]; rfl)
     ·rintro j s hj ⟨ps,rfl,hps,hq,h⟩ next
      simp (disch:=omega) only [H9,dT]
      refine Tot.ble (by simp only [List.length_cons,List.length_nil]; omega) ?_
      have h9:=Era l (n:Int) reps (0,[]) hl (by omega) r2 ps (by omega) hq reps.toNat [] (by simp)
      rw [hps] at h9
      refine Tot.bind h9 ?_
      rintro x rfl
      simp (disch:=omega) only [w64]
      refine next _ ⟨ps++[Epa l reps ps reps.toNat []],rfl,by rw [List.length_append,hps]; rfl,fun q hq'=>?_,?_⟩
      ·rcases List.mem_append.1 hq' with h'|h'
       ·exact hq q h'
       ·rw [List.mem_singleton.1 h',Eqa,List.length_nil]; omega
      ·rw [show n - j=(n - (j+1))+1 by omega] at h
       exact h
end Go.Proofs.YtflokceoeiplcaaGreat.Vf
end

section
set_option linter.unusedVariables false
set_option linter.unusedSimpArgs false
namespace Go.Proofs.YtflokceoeiplcaaGreat.Vf
open Go
theorem Jza:∀ (p q:List Int),p.Nodup→(∀ x∈p,x∈q)→p.length≤q.length
 |[],_,_,_=>Nat.zero_le _
 |x::p,q,h,hs=>by
  obtain ⟨h1,h2⟩:=List.nodup_cons.1 h
  have hx:=hs x List.mem_cons_self
  have hlen:(q.erase x).length=q.length - 1:=List.length_erase_of_mem hx
  have hpos:=List.length_pos_of_mem hx
  have:=Jza p (q.erase x) h2 (fun y hy=>(List.mem_erase_of_ne (fun c=>by subst c; exact h1 hy)).2 (hs y (List.mem_cons_of_mem _ hy)))
  rw [List.length_cons]
  omega
theorem Pta {r:Rng} {l:List Dev} (h:Hu r l=true):r.1≤(l.length:Int):=by
 obtain ⟨_,_,h3,h4⟩:=Cz.1 h
 obtain ⟨p,hp⟩:=List.exists_mem_of_length_pos (show 0<r.2.length by omega)
 obtain ⟨q1,q2,q3⟩:=h4 p hp
 have:=Jza p (l.map (·.1)) q1 (fun x hx=>by
  obtain ⟨d,hd⟩:=q3 x hx
  obtain ⟨hm,he⟩:=Tb hd
  exact List.mem_map.2 ⟨d,hm,he⟩)
 rw [List.length_map] at this
 omega
theorem Hea {r:Rng} {l:List Dev} (h:Hu r l=true):Tot (fun k=>Il k r l) (fun b=>b=true):=by
 have hrp:=Pta h
 obtain ⟨h1,h2,h3,h4⟩:=Cz.1 h
 obtain ⟨_,_,_,h12⟩:=H4.1 h1
 unfold Il
 refine Tot.bind (Uh l (by omega)) ?_
 rintro b rfl
 refine Tot.no (by rw [h1]; rfl) ?_
 simp only [Mi,Option.bind_some]
 refine Tot.no (by rw [Gv.2 h2]; rfl) (Tot.ndec (by omega) (Tot.no (by rw [Gv.2 (by omega)]; rfl) ?_))
 refine Tot.bind (Q:=fun b=>b = .inr ()) ?_ (by rintro b rfl; exact Tot.pure rfl)
 refine Tot.up (L:=fun k i (_:Unit)=>I7 k i r) (Q:=fun b=>b = .inr ()) r.2.length (fun _ _=>True) ?_ ?_ 0 () (Nat.zero_le _) trivial
 ·intro _ _
  simp (disch:=omega) only [I7,dF]
  exact Tot.pure rfl
 ·intro j _ hj _ next
  obtain ⟨q1,q2,_⟩:=h4 _ (A3 (d:=[]) hj)
  simp (disch:=omega) only [I7,dT,Int.toNat_natCast,w64]
  refine Tot.bind (Jta _ _ (by omega)) ?_
  rintro b rfl
  exact Tot.no (by rw [decide_eq_true q1,q2]; simp) (next () trivial)
theorem Tba (p:List Int) (l:List Dev) (h:∀ id∈p,∃ d,Iq l id=some d) (hp:p.length≤100000) (hl:l.length≤100000):Tot (fun k=>Fh k p l) (fun x=>x = -1):=by
 unfold Fh
 refine Tot.bind (Q:=fun x=>x = .inr ()) ?_ (by rintro x rfl; exact Tot.pure rfl)
 refine Tot.up (L:=fun k i (_:Unit)=>G3 k l i p) (Q:=fun x=>x = .inr ()) p.length (fun _ _=>True) ?_ ?_ 0 () (Nat.zero_le _) trivial
 ·intro _ _
  simp (disch:=omega) only [G3,dF]
  exact Tot.pure rfl
 ·intro j _ hj _ next
  simp (disch:=omega) only [G3,dT,Int.toNat_natCast,w64]
  refine Tot.bind (Pq l _ (by omega)) ?_
  rintro x rfl
  obtain ⟨d,hd⟩:=h _ (A3 (d:=0) hj)
  exact Tot.no (by rw [hd]; rfl) (next () trivial)
def hv (r:Rng) (l:List Dev) (b id:Int):Bool:=match Iq l b with
 |none=>false
 |some x=>match Iq l id with
  |none=>false
  |some d=>(d.2.1==x.2.1)&&decide (Kw r id - Kw r b≥2)
def M9a (r:Rng) (l:List Dev) (p:List Int) (b:Int):Option Nat:=p.findIdx? (hv r l b)
def oI:Option Nat→Int
 |some i=>(i:Int)
 |none => -1
theorem Esa {f:Int→Bool} {p:List Int} {j:Nat} (hj:j<p.length) (h:((p.drop j).findIdx? f).map (· + j)=p.findIdx? f):
  (f (p.getD j 0)=true→p.findIdx? f=some j)∧(f (p.getD j 0)=false→((p.drop (j+1)).findIdx? f).map (· + (j+1))=p.findIdx? f):=by
 rw [Am (d:=0) hj,List.findIdx?_cons] at h
 constructor
 ·intro c
  rw [if_pos c] at h
  rw [← h,Option.map_some,Nat.zero_add]
 ·intro c
  rw [if_neg (by rw [c]; simp)] at h
  rw [← h,Option.map_map]
  congr 1
  funext x
  show x+(j+1)=x+1+j
  omega
theorem Pua (r:Rng) (p:List Int) (l:List Dev) (b:Int) (hr:RBd r) (hp:p.length≤1000) (hl:l.length≤1000):Tot (fun k=>Dy k r p l b) (fun x=>x=oI (M9a r l p b)):=by
 unfold Dy
 refine Tot.bind (Pq l b (by omega)) ?_
 rintro x rfl
 refine Tot.bind (Q:=fun x=>x=match M9a r l p b with|some i => .inl (i:Int)|none => .inr ()) ?_ (by rintro x rfl; cases M9a r l p b<;>exact Tot.pure rfl)
 cases hb:Iq l b with
 |none=>
  have hn:M9a r l p b=none:=by unfold M9a; rw [List.findIdx?_eq_none_iff]; intro x _; unfold hv; rw [hb]
  rw [hn]
  refine Tot.succ ?_
  by_cases hp0:(0:Int)<(p.length:Int)
  ·simp (disch:=omega) only [Bp,dT,B0b,cond_false]
   exact Tot.pure rfl
  ·simp (disch:=omega) only [Bp,dF]
   exact Tot.pure rfl
 |some x=>
  have hvI:∀ id,hv r l b id=match Iq l id with|none=>false|some d=>(d.2.1==x.2.1)&&decide (Kw r id - Kw r b≥2):=fun id=>by unfold hv; rw [hb]
  refine Tot.up (L:=fun k i (_:Unit)=>Bp k l b true i r p x) (Q:=fun x=>x=match M9a r l p b with|some i => .inl (i:Int)|none => .inr ()) p.length (fun j _=>((p.drop j).findIdx? (hv r l b)).map (· + j)=p.findIdx? (hv r l b)) ?_ ?_ 0 () (Nat.zero_le _) (by simp)
  ·intro _ h
   rw [List.drop_length] at h
   have hn:M9a r l p b=none:=h.symm
   rw [hn]
   simp (disch:=omega) only [Bp,dF]
   exact Tot.pure rfl
  ·intro j _ hj h next
   obtain ⟨k1,k2⟩:=Esa hj h
   simp (disch:=omega) only [Bp,dT,Int.toNat_natCast,w64,cond_true]
   generalize p.getD j 0=id at *
   refine Tot.bind (Pq l id (by omega)) ?_
   rintro y rfl
   rw [hvI] at k1 k2
   cases hd:Iq l id with
   |none=>
    rw [hd] at k2
    exact Tot.no rfl (next () (k2 rfl))
   |some d=>
    rw [hd] at k1 k2
    obtain ⟨_,e⟩:=Tb hd
    refine Tot.yes rfl ?_
    cases hz:d.2.1==x.2.1 with
    |false=>exact Tot.no hz (next () (k2 (by simp only [hz,Bool.false_and])))
    |true=>
     refine Tot.yes hz (Tot.bind (Ui r d.1 hr) ?_)
     rintro a rfl
     refine Tot.bind (Ui r b hr) ?_
     rintro c rfl
     have l1:=Sd hr d.1
     have l2:=Sd hr b
     simp (disch:=omega) only [w64]
     refine Tot.dite (fun hc=>Tot.pure ?_) (fun hc=>next () (k2 ?_))
     ·have hn:M9a r l p b=some j:=k1 (by simp only [hz,Bool.true_and]; rw [← e]; exact decide_eq_true hc)
      rw [hn]
     ·simp only [hz,Bool.true_and]; rw [← e]; exact decide_eq_false hc
def rb1 (l:List Dev) (s:Int×Rng) (j:Nat):Int×Rng:=match M9a s.2 l (s.2.2.getD j []) (Yy s.2 (s.2.2.getD j []) l) with
 |none=>s
 |some i=>(s.1+1,(s.2.1,s.2.2.set j ((s.2.2.getD j []).set i (Yy s.2 (s.2.2.getD j []) l))))
def rbs (l:List Dev) (r:Rng) (n:Nat):Int×Rng:=(List.range n).foldl (rb1 l) (0,r)
def Hfa (r:Rng) (l:List Dev):Rng×Int:=((rbs l r r.2.length).2,(rbs l r r.2.length).1)
theorem K0a (l:List Dev) (r:Rng) (n:Nat):rbs l r (n+1)=rb1 l (rbs l r n) n:=by
 unfold rbs
 rw [List.range_succ,List.foldl_append]
 rfl
theorem Tn {r:Rng} {l:List Dev} {p:List Int} {i:Nat} (hl:Ju l=true) (h:M9a r l p (Yy r p l)=some i):i<p.length∧Yy r p l∉p∧0≤Yy r p l∧∃ d,Iq l (Yy r p l)=some d:=by
 obtain ⟨h1,h2,_⟩:=List.findIdx?_eq_some_iff_getElem.1 h
 refine ⟨h1,?_⟩
 unfold hv at h2
 cases hb:Iq l (Yy r p l) with
 |none=>rw [hb] at h2; cases h2
 |some d=>
  obtain ⟨hd,he⟩:=Tb hb
  obtain ⟨⟨i0,_⟩,_⟩:=M8.1 ((H4.1 hl).2.1 _ hd)
  refine ⟨?_,by omega,d,rfl⟩
  rcases Lla r p l with ⟨_,e⟩|⟨b,_,e,_,hn⟩
  ·omega
  ·rw [e]; exact hn
theorem Pva {p:List Int} {b:Int} (h:p.Nodup) (hb:b∉p) (i:Nat):(p.set i b).Nodup:=by
 induction p generalizing i with
 |nil=>exact h
 |cons x p ih=>
  obtain ⟨h1,h2⟩:=List.nodup_cons.1 h
  cases i with
  |zero=>exact List.nodup_cons.2 ⟨fun c=>hb (List.mem_cons_of_mem _ c),h2⟩
  |succ i=>
   refine List.nodup_cons.2 ⟨fun c=>?_,ih h2 (fun c=>hb (List.mem_cons_of_mem _ c)) i⟩
   rcases List.mem_or_eq_of_mem_set c with c|c
   ·exact h1 c
   ·exact hb (c ▸ List.mem_cons_self)
theorem Zqa {l:List Dev} {s:Int×Rng} {j:Nat} (hj:j<s.2.2.length) (h:Hu s.2 l=true):Hu (rb1 l s j).2 l=true∧(rb1 l s j).2.1=s.2.1∧(rb1 l s j).2.2.length=s.2.2.length∧s.1≤(rb1 l s j).1∧(rb1 l s j).1≤s.1+1:=by
 unfold rb1
 obtain ⟨h1,h2,h3,h4⟩:=Cz.1 h
 cases hx:M9a s.2 l (s.2.2.getD j []) (Yy s.2 (s.2.2.getD j []) l) with
 |none=>exact ⟨h,rfl,rfl,by dsimp only; omega,by dsimp only; omega⟩
 |some i=>
  obtain ⟨b1,b2,_,b3⟩:=Tn h1 hx
  obtain ⟨q1,q2,q3⟩:=h4 _ (A3 (d:=[]) hj)
  refine ⟨Cz.2 ⟨h1,h2,by dsimp only; rw [List.length_set]; exact h3,fun p hp=>?_⟩,rfl,by dsimp only; rw [List.length_set],by dsimp only; omega,by dsimp only; omega⟩
  rcases List.mem_or_eq_of_mem_set hp with hp|hp
  ·exact h4 p hp
  ·subst hp
   refine ⟨Pva q1 b2 i,by rw [List.length_set]; exact q2,fun id hid=>?_⟩
   rcases List.mem_or_eq_of_mem_set hid with hid|hid
   ·exact q3 id hid
   ·rw [hid]; exact b3
theorem K1a {l:List Dev} {r:Rng} (h:Hu r l=true):∀ (n:Nat),n≤r.2.length→Hu (rbs l r n).2 l=true∧(rbs l r n).2.1=r.1∧(rbs l r n).2.2.length=r.2.length∧0≤(rbs l r n).1∧(rbs l r n).1≤n
 |0,_=>⟨h,rfl,rfl,Int.le_refl _,Int.le_refl _⟩
 |n+1,hn=>by
  obtain ⟨h1,h2,h3,h4,h5⟩:=K1a h n (by omega)
  obtain ⟨g1,g2,g3,g4,g5⟩:=Zqa (j:=n) (by omega) h1
  rw [K0a]
  exact ⟨g1,by rw [g2,h2],by rw [g3,h3],by omega,by omega⟩
theorem Tca {r:Rng} {l:List Dev} (h:Hu r l=true):Hu (Hfa r l).1 l=true∧(Hfa r l).1.1=r.1∧(Hfa r l).1.2.length=r.2.length∧0≤(Hfa r l).2:=by
 obtain ⟨h1,h2,h3,h4,_⟩:=K1a h r.2.length (Nat.le_refl _)
 exact ⟨h1,h2,h3,h4⟩
theorem Pwa {r:Rng} {l:List Dev} (h:Hu r l=true):Tot (fun k=>C1 k r l) (fun x=>x=Hfa r l):=by
 obtain ⟨_,_,h64,_⟩:=Cz.1 h
 unfold C1
 refine Tot.bind (Eoa r (N0 h)) ?_
 rintro x rfl
 refine Tot.bind (Hea h) ?_
 rintro b rfl
 refine Tot.no rfl (Tot.bind (Q:=fun y=>y=((rbs l x x.2.length).1,((0:Int),([]:List (List Int))),(rbs l x x.2.length).2)) ?_ (by rintro y rfl; exact Tot.pure rfl))
 refine Tot.up (L:=fun k i (s:Int×Rng)=>Au k l s.1 i (0,[]) s.2) (Q:=fun y=>y=((rbs l x x.2.length).1,((0:Int),([]:List (List Int))),(rbs l x x.2.length).2)) x.2.length (fun j s=>s=rbs l x j) ?_ ?_ 0 (0,x) (Nat.zero_le _) rfl
 ·rintro s rfl
  obtain ⟨_,_,g3,_⟩:=K1a h x.2.length (Nat.le_refl _)
  simp (disch:=omega) only [Au,dF]
  exact Tot.pure rfl
 ·rintro j s hj rfl next
  obtain ⟨g1,g2,g3,g4,g5⟩:=K1a h j (by omega)
  rw [K0a] at next
  generalize rbs l x j=s at *
  obtain ⟨c,r⟩:=s
  dsimp only at g1 g2 g3 g4 g5
  obtain ⟨q0,_,_,q4⟩:=Cz.1 g1
  obtain ⟨p1,p2,p3⟩:=q4 _ (A3 (d:=[]) (show j<r.2.length by omega))
  have hx2:=(Cz.1 h).2.1
  have l12:=(H4.1 q0).2.2.2
  unfold rb1 at next
  dsimp only at next
  obtain ⟨p,hp⟩:∃ p,r.2.getD j []=p:=⟨_,rfl⟩
  rw [hp] at p1 p2 p3
  simp only [hp] at next
  simp (disch:=omega) only [Au,dT,Int.toNat_natCast,w64,hp]
  refine Tot.bind (Tba p l p3 (by omega) (by omega)) ?_
  rintro x rfl
  refine Tot.ndec (by omega) (Tot.bind (Jwa r p l (N0 g1) (by omega) q0) ?_)
  rintro b rfl
  refine Tot.bind (Pua r p l _ (N0 g1) (by omega) (by omega)) ?_
  rintro y rfl
  cases hi:M9a r l p (Yy r p l) with
  |none=>
   rw [hi] at next
   exact Tot.ndec (by show ¬ ((-1:Int)≥0); omega) (next _ rfl)
  |some i=>
   obtain ⟨b1,b2,b3,_⟩:=Tn q0 hi
   rw [hi] at next
   have e:oI (some i)=(i:Int):=rfl
   simp (disch:=omega) only [e,dT,Int.toNat_natCast]
   exact next _ rfl
def wgt (l:List Dev) (i:Nat) (w:Int):List Dev:=l.set i ((l.getD i Lt).1,(l.getD i Lt).2.1,w)
theorem Hga (l:List Dev) (i:Nat) (w:Int):(wgt l i w).map (·.1)=l.map (·.1):=by
 unfold wgt
 rw [List.map_set]
 by_cases hi:i<l.length
 ·have:(l.getD i Lt).1=(l.map (·.1)).getD i 0:=by
   simp only [List.getD_eq_getElem?_getD,List.getElem?_map,List.getElem?_eq_getElem hi,Option.map_some,Option.getD_some]
  rw [this,List.getD_eq_getElem?_getD,List.getElem?_eq_getElem (by simpa using hi),Option.getD_some]
  exact List.set_getElem_self _
 ·rw [List.set_eq_of_length_le (by simpa using hi)]
theorem Ps {l:List Dev} {id:Int}:(∃ d,Iq l id=some d)↔id∈l.map (·.1):=by
 unfold Iq
 rw [← Option.isSome_iff_exists,List.find?_isSome,List.mem_map]
 exact ⟨fun ⟨x,h,e⟩=>⟨x,h,eq_of_beq e⟩,fun ⟨x,h,e⟩=>⟨x,h,beq_iff_eq.2 e⟩⟩
theorem Zra {l:List Dev} {i:Nat} {w:Int} (h:Ju l=true) (hi:i<l.length) (h1:1≤w) (h2:w≤1000):Ju (wgt l i w)=true:=by
 obtain ⟨g1,g2,g3,g4⟩:=H4.1 h
 refine H4.2 ⟨?_,fun d hd=>?_,?_⟩
 ·have e:(l.map (·.1)).Pairwise (· < ·):=List.pairwise_map.2 g1
  rw [← Hga l i w] at e
  exact List.pairwise_map.1 e
 ·rcases List.mem_or_eq_of_mem_set hd with hd|hd
  ·exact g2 d hd
  ·obtain ⟨e1,e2,_⟩:=M8.1 (g2 _ (A3 (d:=Lt) hi))
   subst hd
   exact M8.2 ⟨e1,e2,h1,h2⟩
 ·unfold wgt
  rw [List.length_set]
  exact ⟨g3,g4⟩
theorem K2a {r:Rng} {l:List Dev} {i:Nat} {w:Int} (h:Hu r l=true) (hi:i<l.length) (h1:1≤w) (h2:w≤1000):Hu r (wgt l i w)=true:=by
 obtain ⟨g1,g2,g3,g4⟩:=Cz.1 h
 refine Cz.2 ⟨Zra g1 hi h1 h2,g2,g3,fun p hp=>?_⟩
 obtain ⟨q1,q2,q3⟩:=g4 p hp
 exact ⟨q1,q2,fun id hid=>by rw [Ps,Hga,← Ps]; exact q3 id hid⟩
end Go.Proofs.YtflokceoeiplcaaGreat.Vf
end

section
set_option linter.unusedVariables false
set_option linter.unusedSimpArgs false
namespace Go.Proofs.YtflokceoeiplcaaGreat.Vf
open Go
theorem Pxa (x:BitVec 32):(cst x).getLsbD 31=x.getLsbD 0:=by
 have h0:(x >>> 1).getLsbD 31=false:=by
  rw [BitVec.getLsbD_ushiftRight]
  exact BitVec.getLsbD_of_ge _ _ (by decide)
 unfold cst
 cases h:x.getLsbD 0 with
 |true=>
  rw [if_pos rfl,BitVec.getLsbD_xor,h0]
  decide
 |false=>
  rw [if_neg (by simp),h0]
theorem Tc {n:Nat} {x y c:BitVec n} (h:x ^^^ c=y ^^^ c):x=y:=by
 have:=congrArg (fun z=>z ^^^ c) h
 simpa [BitVec.xor_assoc] using this
theorem X8a {x y:BitVec 32} (h:cst x=cst y):x=y:=by
 have h0:x.getLsbD 0=y.getLsbD 0:=by rw [← Pxa,← Pxa,h]
 have h1:x >>> 1=y >>> 1:=by
  unfold cst at h
  rw [h0] at h
  cases hb:y.getLsbD 0 with
  |true=>rw [hb,if_pos rfl,if_pos rfl] at h; exact Tc h
  |false=>rw [hb,if_neg (by simp),if_neg (by simp)] at h; exact h
 refine BitVec.eq_of_getLsbD_eq fun i hi=>?_
 cases i with
 |zero=>exact h0
 |succ i=>
  have:=congrArg (fun z=>z.getLsbD i) h1
  simpa [BitVec.getLsbD_ushiftRight,Nat.add_comm] using this
theorem Xh:∀ (n:Nat) {x y:BitVec 32},Y8 n x=Y8 n y→x=y
 |0,_,_,h=>h
 |n+1,_,_,h=>X8a (Xh n h)
theorem X9a {x y:BitVec 32} {b:Int} (h:cby x b=cby y b):x=y:=Tc (Xh 8 h)
theorem Tda {x:BitVec 32} {a b:Int} (ha:0≤a∧a≤255) (hb:0≤b∧b≤255) (h:cby x a=cby x b):a=b:=by
 have h1:x ^^^ BitVec.ofInt 32 a=x ^^^ BitVec.ofInt 32 b:=Xh 8 h
 rw [BitVec.xor_comm,BitVec.xor_comm x] at h1
 have h2:=Tc h1
 rw [Jma ha,Jma hb,h2]
theorem K3a:∀ (l:List Int) {x y:BitVec 32},l.foldl cby x=l.foldl cby y→x=y
 |[],_,_,h=>h
 |_::l,_,_,h=>X9a (K3a l h)
theorem V6a (l:List Int):0≤crc l∧crc l≤4294967295:=by
 unfold crc
 have:=(Y3a l).isLt
 omega
theorem Xaa {l:List Int} {i:Nat} {y:Int} (hi:i<l.length) (hy:0≤y∧y≤255) (hb:An l) (hne:y≠l.getD i 0):crc (l.set i y)≠crc l:=by
 intro h
 have h1:Y3a (l.set i y)=Y3a l:=BitVec.eq_of_toNat_eq (by unfold crc at h; omega)
 unfold Y3a at h1
 have h2:=BitVec.not_inj.1 h1
 have e1:l.set i y=l.take i++y::l.drop (i+1):=by rw [List.set_eq_take_append_cons_drop,if_pos hi]
 have e2:l=l.take i++l.getD i 0::l.drop (i+1):=by
  conv => { lhs; rw [← List.take_append_drop i l] }
  rw [Am (d:=0) hi]
 rw [e1,List.foldl_append,List.foldl_cons] at h2
 rw [e2] at h2
 rw [List.foldl_append,List.foldl_cons] at h2
 have e3:(l.take i++l.getD i 0::l.drop (i+1)).take i=l.take i:=by rw [← e2]
 have e4:(l.take i++l.getD i 0::l.drop (i+1)).drop (i+1)=l.drop (i+1):=by rw [← e2]
 rw [e3,e4] at h2
 exact hne (Tda hy (hb _ (A3 hi)) (K3a _ h2))
theorem Zsa {a b:Int} (ha:0≤a∧a≤4294967295) (hb:0≤b∧b≤4294967295) (h:c4 a=c4 b):a=b:=by
 have e:∀ c:Int,0≤c→c4 c=[c / 16777216 % 256,c / 65536 % 256,c / 256 % 256,c % 256]:=fun c hc=>by
  unfold c4
  rw [show (2:Int) ^ (min (Int.toNat 24) (IntKind.bits .i64))=16777216 from by decide,show (2:Int) ^ (min (Int.toNat 16) (IntKind.bits .i64))=65536 from by decide,show (2:Int) ^ (min (Int.toNat 8) (IntKind.bits .i64))=256 from by decide,
   Int.fdiv_eq_ediv_of_nonneg _ (by omega),Int.fdiv_eq_ediv_of_nonneg _ (by omega),Int.fdiv_eq_ediv_of_nonneg _ (by omega),IntKind.wrap_u8,IntKind.wrap_u8,IntKind.wrap_u8,IntKind.wrap_u8]
 rw [e a ha.1,e b hb.1] at h
 simp only [List.cons.injEq,and_true] at h
 omega
theorem Lna {l m:List Int} {j:Nat} (h:j<l.length):(l++m).getD j 0=l.getD j 0:=by rw [List.getD_eq_getElem?_getD,List.getD_eq_getElem?_getD,List.getElem?_append_left h]
theorem Loa {l m:List Int} {j:Nat} (h:l.length≤j):(l++m).getD j 0=m.getD (j - l.length) 0:=by rw [List.getD_eq_getElem?_getD,List.getD_eq_getElem?_getD,List.getElem?_append_right h]
theorem Tea {f:Fil} (hf:H3 f=true) {n:Nat} (hn:n<8 * (K5 f).length):Me (M1 (K5 f) n)=none:=by
 cases hg:Me (M1 (K5 f) n) with
 |none=>rfl
 |some g=>
  exfalso
  obtain ⟨g1,_,g3⟩:=Pda hg
  have hpb:=Qc f
  have hj:n / 8<(K5 f).length:=by omega
  have hy:=Jqa ((K5 f).getD (n / 8) 0) (n % 8)
  have hne:=T0a (hpb _ (A3 (d:=0) hj)) (Nat.mod_lt n (show 0<8 by omega))
  unfold M1 at g3
  generalize Y9 ((K5 f).getD (n / 8) 0) (n % 8)=y at g3 hy hne
  generalize n / 8=j at g3 hj hne
  have ef:K5 f=Nh f++c4 (crc (Nh f)):=by unfold K5; rw [hf]; rfl
  have eg:K5 g=Nh g++c4 (crc (Nh g)):=by unfold K5; rw [g1]; rfl
  have l4:∀ c,(c4 c).length=4:=fun c=>rfl
  rw [eg] at g3
  rw [ef] at g3 hj hne
  have hlen:(Nh g).length=(Nh f).length:=by
   have:=congrArg List.length g3
   rw [List.length_set,List.length_append,List.length_append,l4,l4] at this
   omega
  by_cases hjb:j<(Nh f).length
  ·rw [List.set_append_left _ _ hjb] at g3
   obtain ⟨a1,a2⟩:=List.append_inj g3 (by rw [List.length_set]; exact hlen)
   rw [Lna hjb] at hne
   have:=Zsa (V6a _) (V6a _) a2
   rw [a1] at this
   exact Xaa hjb hy (On f) hne this
  ·rw [List.set_append_right _ _ (by omega)] at g3
   obtain ⟨a1,a2⟩:=List.append_inj g3 hlen
   rw [a1] at a2
   rw [Loa (by omega)] at hne
   rw [List.length_append,l4] at hj
   have:(c4 (crc (Nh f))).getD (j - (Nh f).length) 0=y:=by
    rw [a2,List.getD_eq_getElem?_getD,List.getElem?_set_self (by rw [l4]; omega),Option.getD_some]
   exact hne this.symm
end Go.Proofs.YtflokceoeiplcaaGreat.Vf
end

section
set_option linter.unusedVariables false
set_option linter.unusedSimpArgs false
namespace Go.Proofs.YtflokceoeiplcaaGreat.Vf
open Go
def P0 (l:List Nmd) (ns:List ByteArray):List ByteArray:=l.foldl (fun ns x=>wt ns x.1) ns
def nms (d:Dsk):List ByteArray:=P0 (d.1++d.2) []
def pk1:Option Nmd→List Nmd
 |some x=>[x]
 |none=>[]
theorem Xba (o:Option Nmd):(pk1 o).length≤1:=by cases o<;>simp [pk1]
def Rc (kp:List Bool) (a b:List Nmd):List ByteArray→Nat→List Nmd
 |[],_=>[]
 |s::ns,i=>pk1 (pk (bif kp.getD i false then a else b) s)++Rc kp a b ns (i+1)
theorem Xca (kp:List Bool) (a b:List Nmd) (i:Nat):Rc kp a b [] i=[]:=rfl
theorem Tfa (kp:List Bool) (a b:List Nmd) (s:ByteArray) (ns:List ByteArray) (i:Nat):Rc kp a b (s::ns) i=pk1 (pk (bif kp.getD i false then a else b) s)++Rc kp a b ns (i+1):=rfl
def R9 (d:Dsk) (kp:List Bool):Dsk:=bif decide ((Rc kp d.1 d.2 (nms d) 0).length > 60) then d else (Rc kp d.1 d.2 (nms d) 0,Rc kp d.1 d.2 (nms d) 0)
theorem C4a:∀ (l:List Nmd) (ns:List ByteArray),TS ns→TS (P0 l ns)
 |[],_,h=>h
 |_::l,_,h=>C4a l _ (Po h)
theorem Eta:∀ (l:List Nmd) (ns:List ByteArray) (t:ByteArray),t∈P0 l ns↔(∃ x∈l,x.1=t)∨t∈ns
 |[],ns,t=>by simp [P0]
 |x::l,ns,t=>by
  show t∈P0 l (wt ns x.1)↔_
  rw [Eta l,Jka]
  simp only [List.mem_cons,exists_eq_or_imp]
  constructor
  ·rintro (h|rfl|h)
   ·exact .inl (.inr h)
   ·exact .inl (.inl rfl)
   ·exact .inr h
  ·rintro ((h|h)|h)
   ·exact .inr (.inl h.symm)
   ·exact .inl h
   ·exact .inr (.inr h)
theorem Se:∀ (l:List Nmd) (ns:List ByteArray),(P0 l ns).length≤ns.length+l.length
 |[],_=>by simp [P0]
 |x::l,ns=>by
  have h1:=Se l (wt ns x.1)
  have h2:=Pba (l:=ns) (s:=x.1)
  show (P0 l (wt ns x.1)).length≤_
  rw [List.length_cons]
  omega
theorem V7a (d:Dsk):TS (nms d):=C4a _ _ List.Pairwise.nil
theorem Xda {d:Dsk} {t:ByteArray}:t∈nms d↔(gt d.1 t).isSome=true∨(gt d.2 t).isSome=true:=by
 have h:∀ l:List Nmd,(gt l t).isSome=true↔∃ x∈l,x.1=t:=fun l=>by
  cases hg:gt l t with
  |none=>
   constructor
   ·intro h; cases h
   ·rintro ⟨x,hx,e⟩; exact absurd e (Lz.1 hg x hx)
  |some b=>simp only [Option.isSome_some,true_iff]; exact ⟨_,Nb hg,rfl⟩
 unfold nms
 rw [Eta,h,h]
 simp only [List.mem_append,List.not_mem_nil,or_false]
 constructor
 ·rintro ⟨x,h1|h1,h2⟩
  ·exact .inl ⟨x,h1,h2⟩
  ·exact .inr ⟨x,h1,h2⟩
 ·rintro (⟨x,h1,h2⟩|⟨x,h1,h2⟩)
  ·exact ⟨x,.inl h1,h2⟩
  ·exact ⟨x,.inr h1,h2⟩
theorem Xea (l:List Nmd) (s:ByteArray):pk l s=(gt l s).map fun b=>(s,b):=by
 unfold pk gt
 cases h:fnd l s with
 |none=>rfl
 |some i=>rw [Option.map_some,← (Pm h).2]
theorem Td (kp:List Bool) (a b:List Nmd):∀ (ns:List ByteArray) (i:Nat),((Rc kp a b ns i).map Prod.fst).Sublist ns
 |[],_=>List.Sublist.slnil
 |s::ns,i=>by
  unfold Rc
  rw [Xea]
  cases gt (bif kp.getD i false then a else b) s with
  |none=>exact (Td kp a b ns (i+1)).cons s
  |some c=>exact (Td kp a b ns (i+1)).cons_cons s
theorem Xfa (kp:List Bool) (a b:List Nmd) (ns:List ByteArray) (i:Nat):(Rc kp a b ns i).length≤ns.length:=by
 have:=(Td kp a b ns i).length_le
 rwa [List.length_map] at this
theorem Lpa {kp:List Bool} {a b:List Nmd} {ns:List ByteArray} {i:Nat} (h:TS ns):Fb (Rc kp a b ns i):=by
 have:=List.Pairwise.sublist (Td kp a b ns i) h
 rwa [List.pairwise_map] at this
theorem Pya {kp:List Bool} {a b:List Nmd}:∀ {ns:List ByteArray} {i:Nat} {x:Nmd},x∈Rc kp a b ns i→gt a x.1=some x.2∨gt b x.1=some x.2
 |[],_,_,h=>by cases h
 |s::ns,i,x,h=>by
  unfold Rc at h
  rw [Xea] at h
  rcases List.mem_append.1 h with h|h
  ·cases hg:gt (bif kp.getD i false then a else b) s with
   |none=>rw [hg] at h; cases h
   |some c=>
    rw [hg] at h
    rw [List.mem_singleton.1 h]
    cases hk:kp.getD i false with
    |true=>rw [hk] at hg; exact .inl hg
    |false=>rw [hk] at hg; exact .inr hg
  ·exact Pya h
theorem V8a {kp:List Bool} {a b:List Nmd} {t:ByteArray}:∀ {ns:List ByteArray} {i:Nat},TS ns→t∈ns→∃ j,i≤j∧gt (Rc kp a b ns i) t=gt (bif kp.getD j false then a else b) t
 |[],_,_,h=>by cases h
 |s::ns,i,hs,h=>by
  obtain ⟨h1,h2⟩:=List.pairwise_cons.1 hs
  have hn:∀ j,gt (Rc kp a b ns j) s=none:=fun j=>Lz.2 fun x hx e=>by
   have:=h1 x.1 ((Td kp a b ns j).subset (List.mem_map_of_mem hx))
   rw [e,Jo] at this
   cases this
  unfold Rc
  rw [Xea]
  rcases List.mem_cons.1 h with rfl|h
  ·refine ⟨i,Nat.le_refl _,?_⟩
   cases hg:gt (bif kp.getD i false then a else b) t with
   |none=>exact hn _
   |some c=>
    show gt ((t,c)::Rc kp a b ns (i+1)) t=_
    rw [H3a,if_pos rfl]
  ·obtain ⟨j,hj,e⟩:=V8a (kp:=kp) (a:=a) (b:=b) (i:=i+1) h2 h
   refine ⟨j,by omega,?_⟩
   rw [← e]
   have hst:s≠t:=fun e=>by
    have:=h1 t h
    rw [e,Jo] at this
    cases this
   cases gt (bif kp.getD i false then a else b) s with
   |none=>rfl
   |some c=>
    show gt ((s,c)::Rc kp a b ns (i+1)) t=_
    rw [H3a,if_neg hst]
theorem Pza {d:Dsk} {kp:List Bool} (h:DG d):DG (R9 d kp):=by
 unfold R9
 cases hc:decide ((Rc kp d.1 d.2 (nms d) 0).length > 60) with
 |true=>exact h
 |false=>
  have hl:=of_decide_eq_false hc
  have n1:=(Ae.1 (De.1 h.1).1).2.1
  have n2:=(Ae.1 (De.1 h.1).2).2.1
  have q:Hw (Rc kp d.1 d.2 (nms d) 0)=true:=Ae.2 ⟨Lpa (V7a d),fun x hx=>(Pya hx).elim (fun e=>n1 _ (Nb e)) (fun e=>n2 _ (Nb e)),by omega⟩
  have b:LB (Rc kp d.1 d.2 (nms d) 0):=fun x hx=>(Pya hx).elim (fun e=>h.2.1.gt e) (fun e=>h.2.2.gt e)
  exact ⟨De.2 ⟨q,q⟩,b,b⟩
theorem Q0a {d:Dsk} {kp:List Bool} (t:ByteArray):R9 d kp=d∨((R9 d kp).2=(R9 d kp).1∧(gt (R9 d kp).1 t=gt d.1 t∨gt (R9 d kp).1 t=gt d.2 t)):=by
 unfold R9
 cases hc:decide ((Rc kp d.1 d.2 (nms d) 0).length > 60) with
 |true=>exact .inl rfl
 |false=>
  refine .inr ⟨rfl,?_⟩
  show gt (Rc kp d.1 d.2 (nms d) 0) t=_∨gt (Rc kp d.1 d.2 (nms d) 0) t=_
  by_cases ht:t∈nms d
  ·obtain ⟨j,_,e⟩:=V8a (kp:=kp) (a:=d.1) (b:=d.2) (i:=0) (V7a d) ht
   rw [e]
   cases kp.getD j false with
   |true=>exact .inl rfl
   |false=>exact .inr rfl
  ·have h1:gt d.1 t=none:=by
    cases hg:gt d.1 t with
    |none=>rfl
    |some b=>exact absurd (Xda.2 (.inl (by rw [hg]; rfl))) ht
   left
   rw [h1]
   exact Lz.2 fun x hx e=>ht (by rw [← e]; exact (Td _ _ _ _ _).subset (List.mem_map_of_mem hx))
theorem C5a {R:Type} {L:Nat→List Nmd→Option R} {Q:R→Prop} (c:List Nmd) (s:ByteArray) (acc:List Nmd) (hc:c.length≤100000) (ha:acc.length≤100000) (next:Tot (fun k=>L k (acc++pk1 (pk c s))) Q):
  Tot (fun k=>(Bn k c s).bind fun r=>cond (decide (r≥0)) (cond (decide ((0:Int)≤r)) (cond (decide (r<(List.length c:Int))) (cond (Nat.ble ((List.length acc+List.length [List.getD c (Int.toNat r) ((⟨#[]⟩:ByteArray),[])]) * 40) 140737488355328) (L k (acc++[List.getD c (Int.toNat r) ((⟨#[]⟩:ByteArray),[])])) none) none) none) (L k acc)) Q:=by
 refine Tot.bind (X4 c s (by omega)) ?_
 rintro r rfl
 unfold pk at next
 unfold Fca
 cases h:fnd c s with
 |none=>
  rw [h] at next
  simp only [pk1,List.append_nil] at next
  exact Tot.ndec (by decide) next
 |some i=>
  rw [h] at next
  have:=(Pm h).1
  simp only [Int.toNat_natCast]
  exact Tot.dec (by omega) (Tot.dec (by omega) (Tot.dec (by omega) (Tot.ble (by simp only [List.length_cons,List.length_nil]; omega) next)))
end Go.Proofs.YtflokceoeiplcaaGreat.Vf
end

section
set_option linter.unusedVariables false
set_option linter.unusedSimpArgs false
namespace Go.Proofs.YtflokceoeiplcaaGreat.Vf
open Go
def mk0 (s:ByteArray):Nmd:=(s,[])
theorem Te {ns:List ByteArray} (h:TS ns):Fb (ns.map mk0):=by
 unfold Fb
 rw [List.pairwise_map]
 exact h
theorem V9a {ns:List ByteArray} (h:TS ns) {t:ByteArray}:(t∈ns→gt (ns.map mk0) t=some [])∧(t∉ns→gt (ns.map mk0) t=none):=by
 refine ⟨fun ht=>?_,fun ht=>Lz.2 fun x hx e=>?_⟩
 ·exact H4a (Te h) (x:=mk0 t) (List.mem_map_of_mem ht)
 ·obtain ⟨s,hs,rfl⟩:=List.mem_map.1 hx
  exact ht (by rw [← e]; exact hs)
theorem Zta {ns:List ByteArray} (h:TS ns) (s:ByteArray):ptl (s,[]) false (ns.map mk0)=(wt ns s).map mk0:=by
 have h1:=Te h
 rw [T8 _ h1]
 refine Uxa (Qb (Ly h1) X5) (Te (Po h)) fun t=>?_
 have e:=H6a h1 (s:=s) (t:=t) (b:=[])
 unfold wr at e
 rw [e]
 have g1:=V9a h (t:=t)
 have g2:=V9a (Po (s:=s) h) (t:=t)
 by_cases hst:s=t
 ·rw [if_pos hst,g2.1 (Jka.2 (.inl hst.symm))]
 ·rw [if_neg hst]
  by_cases ht:t∈ns
  ·rw [g1.1 ht,g2.1 (Jka.2 (.inr ht))]
  ·rw [g1.2 ht,g2.2 (fun c=>(Jka.1 c).elim (fun e=>hst e.symm) ht)]
theorem Q1a (a b:List Nmd) (ha:a.length≤1000) (hb:b.length≤1000):Tot (fun k=>Bx k a b) (fun r=>r=nms (a,b)):=by
 unfold Bx
 have put:∀ {ns:List ByteArray} (x:Nmd),TS ns→ns.length≤100000→Tot (fun k=>Ee k (ns.map mk0) x.1 []) (fun r=>r=(wt ns x.1).map mk0):=fun x ht hl=>(C2a _ x.1 [] (by rw [List.length_map]; omega) (by simp)).mono fun r hr=>by rw [hr,Zta ht]
 refine Tot.bind (Q:=fun r=>r=(b,(P0 a []).map mk0)) ?_ ?_
 ·refine Tot.up (L:=fun k i s=>El k a b s i) (Q:=fun r=>r=(b,(P0 a []).map mk0)) a.length (fun j s=>∃ ns,s=ns.map mk0∧TS ns∧P0 (a.drop j) ns=P0 a []∧ns.length≤j) ?_ ?_ 0 [] (Nat.zero_le _) ⟨[],rfl,List.Pairwise.nil,rfl,Nat.le_refl _⟩
  ·rintro s ⟨ns,rfl,_,h,_⟩
   rw [List.drop_length] at h
   simp (disch:=omega) only [El,dF]
   exact Tot.pure (by rw [← h]; rfl)
  ·rintro j s hj ⟨ns,rfl,ht,h,hl⟩ next
   rw [Am (d:=Ec) hj] at h
   simp (disch:=omega) only [El,dT,Int.toNat_natCast,w64]
   refine Tot.bind (put (a.getD j Ec) ht (by omega)) ?_
   rintro r rfl
   have:=Pba (l:=ns) (s:=(a.getD j Ec).1)
   exact next _ ⟨_,rfl,Po ht,h,by omega⟩
 ·rintro r rfl
  have hla:(P0 a []).length≤1000:=by have:=Se a []; rw [List.length_nil] at this; omega
  have e:P0 b (P0 a [])=nms (a,b):=by unfold nms P0; rw [List.foldl_append]
  refine Tot.bind (Q:=fun r=>r=(nms (a,b)).map mk0) ?_ ?_
  ·refine Tot.up (L:=fun k i s=>Ek k b s i) (Q:=fun r=>r=(nms (a,b)).map mk0) b.length (fun j s=>∃ ns,s=ns.map mk0∧TS ns∧P0 (b.drop j) ns=nms (a,b)∧ns.length≤1000+j) ?_ ?_ 0 _ (Nat.zero_le _) ⟨_,rfl,C4a _ _ List.Pairwise.nil,e,by omega⟩
   ·rintro s ⟨ns,rfl,_,h,_⟩
    rw [List.drop_length] at h
    simp (disch:=omega) only [Ek,dF]
    exact Tot.pure (by rw [← h]; rfl)
   ·rintro j s hj ⟨ns,rfl,ht,h,hl⟩ next
    rw [Am (d:=Ec) hj] at h
    simp (disch:=omega) only [Ek,dT,Int.toNat_natCast,w64]
    refine Tot.bind (put (b.getD j Ec) ht (by omega)) ?_
    rintro r rfl
    have:=Pba (l:=ns) (s:=(b.getD j Ec).1)
    exact next _ ⟨_,rfl,Po ht,h,by omega⟩
  ·rintro r rfl
   have hln:(nms (a,b)).length≤2000:=by rw [← e]; have:=Se b (P0 a []); omega
   refine Tot.bind (Q:=fun r=>r=nms (a,b)) ?_ (by rintro r rfl; exact Tot.pure rfl)
   refine Tot.up (L:=fun k i s=>Dk k ((nms (a,b)).map mk0) s i) (Q:=fun r=>r=nms (a,b)) (nms (a,b)).length (fun j s=>s=(nms (a,b)).take j) ?_ ?_ 0 [] (Nat.zero_le _) rfl
   ·rintro s rfl
    simp (disch:=omega) only [Dk,List.length_map,dF,List.take_length]
    exact Tot.pure rfl
   ·rintro j s hj rfl next
    simp (disch:=omega) only [Dk,List.length_map,dT,Int.toNat_natCast,w64]
    refine Tot.ble (by simp only [List.length_take,List.length_cons,List.length_nil]; omega) (next _ ?_)
    rw [List.take_succ_eq_append_getElem hj,List.getD_eq_getElem?_getD,List.getElem?_map,List.getElem?_eq_getElem hj]
    rfl
theorem Q2a (d:Dsk) (kp:List Bool) (hd:DG d) (hk:kp.length≤1000000):Tot (fun k=>Cj k d kp) (fun r=>r=R9 d kp):=by
 have hin:=Pn hd.1
 have g1:=(Ae.1 (De.1 hd.1).1).2.2
 have g2:=(Ae.1 (De.1 hd.1).2).2.2
 unfold Cj
 refine Tot.bind (Ol d hin.1.1 hin.1.2) ?_
 rintro b rfl
 rw [hd.1]
 refine Tot.no rfl (Tot.bind (Q1a d.1 d.2 (by omega) (by omega)) ?_)
 rintro r rfl
 have hn:(nms d).length≤120:=by
  have:=Se (d.1++d.2) []
  rw [List.length_nil,List.length_append] at this
  exact Nat.le_trans this (by omega)
 refine Tot.bind (Q:=fun r=>r=(Rc kp d.1 d.2 (nms d) 0,d,([],[]))) ?_ ?_
 ·refine Tot.up (L:=fun k i s=>Ah k kp (nms d) s i d ([],[])) (Q:=fun r=>r=(Rc kp d.1 d.2 (nms d) 0,d,([],[]))) (nms d).length (fun j s=>s++Rc kp d.1 d.2 ((nms d).drop j) j=Rc kp d.1 d.2 (nms d) 0∧s.length≤j) ?_ ?_ 0 [] (Nat.zero_le _) ⟨rfl,Nat.le_refl _⟩
  ·rintro s ⟨h,_⟩
   rw [List.drop_length,Xca,List.append_nil] at h
   simp (disch:=omega) only [Ah,dF]
   exact Tot.pure (by rw [h])
  ·rintro j s hj ⟨h,hs⟩ next
   rw [Am (d:=Na) hj] at h
   rw [Tfa,← List.append_assoc] at h
   simp (disch:=omega) only [Ah,dT,Int.toNat_natCast,w64]
   have hl:=Xba (pk (bif kp.getD j false then d.1 else d.2) ((nms d).getD j Na))
   have nx:=next (s++pk1 (pk (bif kp.getD j false then d.1 else d.2) ((nms d).getD j Na))) ⟨h,by rw [List.length_append]; omega⟩
   have e0:(nms d).getD j (⟨#[]⟩:ByteArray)=(nms d).getD j Na:=rfl
   rw [e0]
   refine Tot.dite (fun hc=>?_) (fun hc=>?_)
   ·refine Tot.dec (by omega) (Tot.ite (fun hk=>?_) (fun hk=>?_))
    ·rw [hk] at nx
     exact C5a (L:=fun k acc=>Ah k kp (nms d) acc ((j:Int)+1) d ([],[])) d.1 _ s (by omega) (by omega) nx
    ·rw [hk] at nx
     exact C5a (L:=fun k acc=>Ah k kp (nms d) acc ((j:Int)+1) d ([],[])) d.2 _ s (by omega) (by omega) nx
   ·have hk:kp.getD j false=false:=by rw [List.getD_eq_getElem?_getD,List.getElem?_eq_none (by omega)]; rfl
    rw [hk] at nx
    exact C5a (L:=fun k acc=>Ah k kp (nms d) acc ((j:Int)+1) d ([],[])) d.2 _ s (by omega) (by omega) nx
 ·rintro r rfl
  have hp:=Xfa kp d.1 d.2 (nms d) 0
  unfold R9
  refine Tot.dite (fun h=>?_) (fun h=>?_)
  ·dsimp only at h
   rw [decide_eq_true (show (Rc kp d.1 d.2 (nms d) 0).length > 60 by omega)]
   refine Tot.bind (K8 d hin.1.1) ?_
   rintro r rfl
   exact Tot.pure rfl
  ·dsimp only at h
   have hc:decide ((Rc kp d.1 d.2 (nms d) 0).length > 60)=false:=decide_eq_false (by omega)
   have hg:=Pza (kp:=kp) hd
   unfold R9 at hg
   rw [hc] at hg ⊢
   rw [cond_false] at hg
   have hf:=(Pn hg.1).1.1.1
   refine Tot.bind (N9 _ hf) ?_
   rintro r rfl
   refine Tot.bind (N9 _ hf) ?_
   rintro r rfl
   exact Tot.pure rfl
def clS (o:Dsk×Int) (x:Nmd):Dsk×Int:=match Me x.2 with
 |some _=>o
 |none=>((cut o.1.1 x.1,cut o.1.2 x.1),o.2+1)
def N1 (d:Dsk):Dsk×Int:=d.1.foldl clS (d,0)
theorem Lqa {l:List Nmd} {s:ByteArray} (h:gt l s=none):cut l s=l:=by
 refine List.filter_eq_self.2 fun x hx=>?_
 cases ht:teq x.1 s with
 |false=>rfl
 |true=>exact absurd (Ic.1 ht) (Lz.1 h x hx)
theorem Zua {d:Dsk} {s:ByteArray} (h:DG d):DG (cut d.1 s,cut d.2 s):=⟨De.2 ⟨Tm (De.1 h.1).1,Tm (De.1 h.1).2⟩,h.2.1.cut s,h.2.2.cut s⟩
theorem Xga {o:Dsk×Int} {x:Nmd} (h:DG o.1):DG (clS o x).1:=by
 unfold clS
 cases Me x.2 with
 |some _=>exact h
 |none=>exact Zua h
theorem K4a:∀ (l:List Nmd) (o:Dsk×Int),DG o.1→DG (l.foldl clS o).1
 |[],_,h=>h
 |_::l,_,h=>K4a l _ (Xga h)
theorem Tga {d:Dsk} (h:DG d):DG (N1 d).1:=K4a _ _ h
def Cia (l:List Nmd):List ByteArray:=(l.filter fun x=>(Me x.2).isNone).map Prod.fst
theorem Xi:∀ (l:List Nmd) (o:Dsk×Int),DG o.1→((l.foldl clS o).2=o.2+((Cia l).length:Int))∧∀ t,(t∈Cia l→gt (l.foldl clS o).1.1 t=none∧gt (l.foldl clS o).1.2 t=none)∧(t∉Cia l→gt (l.foldl clS o).1.1 t=gt o.1.1 t∧gt (l.foldl clS o).1.2 t=gt o.1.2 t)
 |[],o,h=>⟨by simp [Cia],fun t=>⟨fun c=>by simp [Cia] at c,fun _=>⟨rfl,rfl⟩⟩⟩
 |x::l,o,h=>by
  obtain ⟨h1,h2⟩:=Xi l (clS o x) (Xga h)
  rw [List.foldl_cons]
  cases hx:Me x.2 with
  |some f=>
   have e:Cia (x::l)=Cia l:=by unfold Cia; rw [List.filter_cons,hx]; rfl
   have ec:clS o x=o:=by unfold clS; rw [hx]
   rw [e]
   rw [ec] at h1 h2 ⊢
   exact ⟨h1,h2⟩
  |none=>
   have e:Cia (x::l)=x.1::Cia l:=by unfold Cia; rw [List.filter_cons,hx]; rfl
   have ec:clS o x=((cut o.1.1 x.1,cut o.1.2 x.1),o.2+1):=by unfold clS; rw [hx]
   rw [e]
   rw [ec] at h1 h2 ⊢
   refine ⟨by rw [h1,List.length_cons]; omega,fun t=>⟨fun ht=>?_,fun ht=>?_⟩⟩
   ·by_cases hb:t∈Cia l
    ·exact (h2 t).1 hb
    ·obtain ⟨a1,a2⟩:=(h2 t).2 hb
     have:x.1=t:=by
      rcases List.mem_cons.1 ht with e|e
      ·exact e.symm
      ·exact absurd e hb
     rw [a1,a2,Sc (Lq h.1),Sc (Oq h.1),if_pos this,if_pos this]
     exact ⟨rfl,rfl⟩
   ·obtain ⟨a1,a2⟩:=(h2 t).2 (fun c=>ht (List.mem_cons_of_mem _ c))
    have:x.1≠t:=fun e=>ht (by rw [← e]; exact List.mem_cons_self)
    rw [a1,a2,Sc (Lq h.1),Sc (Oq h.1),if_neg this,if_neg this]
    exact ⟨rfl,rfl⟩
theorem Tha {d:Dsk} (hd:B9 d=true) {t:ByteArray}:t∈Cia d.1↔∃ b,gt d.1 t=some b∧Me b=none:=by
 unfold Cia
 rw [List.mem_map]
 constructor
 ·rintro ⟨x,hx,rfl⟩
  obtain ⟨h1,h2⟩:=List.mem_filter.1 hx
  exact ⟨x.2,H4a (Lq hd) h1,by simpa using h2⟩
 ·rintro ⟨b,h1,h2⟩
  exact ⟨(t,b),List.mem_filter.2 ⟨Nb h1,by simp [h2]⟩,rfl⟩
theorem Q3a (d:Dsk) (hd:DG d):Tot (fun k=>Hl k d) (fun r=>r=N1 d):=by
 have hin:=Pn hd.1
 have hl:=(Ae.1 (De.1 hd.1).1).2.2
 have hnk:=(Ae.1 (De.1 hd.1).1).2.1
 unfold Hl
 refine Tot.bind (K8 d hin.1.1) ?_
 rintro d rfl
 refine Tot.bind (Q:=fun r=>r=((N1 d).2,([],[]),(N1 d).1)) ?_ (by rintro r rfl; exact Tot.pure rfl)
 refine Tot.up (L:=fun k i (s:Dsk×Int)=>Gp k s.2 i d ([],[]) s.1) (Q:=fun r=>r=((N1 d).2,([],[]),(N1 d).1)) d.1.length (fun j s=>(d.1.drop j).foldl clS s=N1 d∧DG s.1∧0≤s.2∧s.2≤j) ?_ ?_ 0 (d,0) (Nat.zero_le _) ⟨rfl,hd,Int.le_refl 0,by simp⟩
 ·rintro s ⟨h,_⟩
  rw [List.drop_length] at h
  simp (disch:=omega) only [Gp,dF]
  exact Tot.pure (by rw [← h]; rfl)
 ·rintro j s hj ⟨h,hg,s0,s1⟩ next
  rw [Am (d:=Ec) hj,List.foldl_cons] at h
  have hsi:=Pn hg.1
  have hx:=A3 (d:=Ec) hj
  simp (disch:=omega) only [Gp,dT,Int.toNat_natCast,w64]
  have e0:d.1.getD j ((⟨#[]⟩:ByteArray),([]:List Int))=d.1.getD j Ec:=rfl
  rw [e0]
  refine Tot.bind (Ol d hin.1.1 hin.1.2) ?_
  rintro r rfl
  refine Tot.yes hd.1 (Tot.bind (Ug hin.1.1.1 hd.2.1 _) ?_)
  rintro r rfl
  have hnm:=(Om.1 (hnk _ hx)).1
  have hcg:=Xga (x:=d.1.getD j Ec) hg
  unfold clS at h hcg
  unfold lkD
  rw [H4a (Lq hd.1) hx]
  simp only
  cases hf:Me (d.1.getD j Ec).2 with
  |some f=>
   rw [hf] at h
   exact Tot.no rfl (next _ ⟨h,hg,s0,by omega⟩)
  |none=>
   rw [hf] at h hcg
   refine Tot.yes rfl (Tot.bind (Xb hg.1 (Jx hnm)) ?_)
   rintro r rfl
   have er:(rmD s.1 (d.1.getD j Ec).1).1=(cut s.1.1 (d.1.getD j Ec).1,s.1.2):=by
    unfold rmD
    cases hg1:gt s.1.1 (d.1.getD j Ec).1 with
    |none=>rw [Lqa hg1]; rfl
    |some b=>rfl
   have hrg:=X4a (s:=(d.1.getD j Ec).1) hg
   rw [er] at hrg ⊢
   refine Tot.bind (Xa hrg.1 hnm) ?_
   rintro r rfl
   have es:(syD (cut s.1.1 (d.1.getD j Ec).1,s.1.2) (d.1.getD j Ec).1).1=(cut s.1.1 (d.1.getD j Ec).1,cut s.1.2 (d.1.getD j Ec).1):=by
    have e2:sy (cut s.1.1 (d.1.getD j Ec).1,s.1.2) (d.1.getD j Ec).1=cut s.1.2 (d.1.getD j Ec).1:=by
     unfold sy
     rw [Sc (Lq hg.1),if_pos rfl]
    unfold syD
    rw [e2,decide_eq_true (Ae.1 (De.1 hcg.1).2).2.2]
    rfl
   rw [es]
   exact next ((cut s.1.1 (d.1.getD j Ec).1,cut s.1.2 (d.1.getD j Ec).1),s.2+1) ⟨h,hcg,by dsimp only; omega,by dsimp only; omega⟩
end Go.Proofs.YtflokceoeiplcaaGreat.Vf
end

section
set_option linter.unusedVariables false
set_option linter.unusedSimpArgs false
namespace Go.Proofs.YtflokceoeiplcaaGreat.Vf
open Go
def Y0 (l:List ByteArray) (s:ByteArray):Bool:=l.any fun y=>teq y s
theorem C6a {l:List ByteArray} {s:ByteArray}:Y0 l s=true↔s∈l:=by
 unfold Y0
 rw [List.any_eq_true]
 constructor
 ·rintro ⟨x,hx,e⟩; rw [← Ic.1 e]; exact hx
 ·intro h; exact ⟨s,h,Ic.2 rfl⟩
theorem C7a (l:List ByteArray) (s:ByteArray) (hl:l.length≤1000000000):Tot (fun k=>E7 k l s) (fun r=>r=Y0 l s):=by
 unfold E7
 refine Tot.bind (Q:=fun r=>r=bif Y0 l s then .inl true else .inr ()) ?_ (by rintro r rfl; cases Y0 l s<;>exact Tot.pure rfl)
 refine Tot.up (L:=fun k i (_:Unit)=>Fy k l s i) (Q:=fun r=>r=bif Y0 l s then .inl true else .inr ()) l.length (fun j _=>Y0 (l.drop j) s=Y0 l s) ?_ ?_ 0 () (Nat.zero_le _) rfl
 ·intro _ h
  rw [List.drop_length] at h
  simp (disch:=omega) only [Fy,dF,← h]
  exact Tot.pure rfl
 ·intro j _ hj h next
  rw [Am (d:=Na) hj] at h
  unfold Y0 at h
  rw [List.any_cons] at h
  simp (disch:=omega) only [Fy,dT,Int.toNat_natCast,w64]
  refine Tot.ite (fun hc=>Tot.pure ?_) (fun hc=>next () ?_)
  ·rw [show teq (l.getD j Na) s=true from hc,Bool.true_or] at h
   unfold Y0
   rw [← h]
   rfl
  ·rw [show teq (l.getD j Na) s=false from hc,Bool.false_or] at h
   exact h
def Fda (l:List ByteArray):Nat→ByteArray→List ByteArray×Nat
 |0,_=>(l,0)
 |k+1,s=>bif tlt s (l.getD k Na) then Fda (l.set (k+1) (l.getD k Na)) k s else (l,k+1)
def Vaa (l:List ByteArray) (s:ByteArray):List ByteArray:=(Fda (l++[s]) l.length s).1.set (Fda (l++[s]) l.length s).2 s
theorem Xj:∀ (k:Nat) (l:List ByteArray) (s:ByteArray),(Fda l k s).1.length=l.length∧(Fda l k s).2≤k∧∀ y∈(Fda l k s).1,y∈l∨y=Na
 |0,_,_=>⟨rfl,Nat.le_refl _,fun _ h => .inl h⟩
 |k+1,l,s=>by
  unfold Fda
  cases tlt s (l.getD k Na) with
  |false=>exact ⟨rfl,Nat.le_refl _,fun _ h => .inl h⟩
  |true=>
   obtain ⟨h1,h2,h3⟩:=Xj k (l.set (k+1) (l.getD k Na)) s
   rw [cond_true]
   refine ⟨by rw [h1,List.length_set],by omega,fun y hy=>?_⟩
   rcases h3 y hy with h|h
   ·rcases List.mem_or_eq_of_mem_set h with h|h
    ·exact .inl h
    ·by_cases hk:k<l.length
     ·rw [h]; exact .inl (A3 hk)
     ·rw [h,List.getD_eq_getElem?_getD,List.getElem?_eq_none (by omega)]; exact .inr rfl
   ·exact .inr h
theorem Tia (l:List ByteArray) (s:ByteArray):(Vaa l s).length=l.length+1:=by
 unfold Vaa
 rw [List.length_set,(Xj _ _ _).1,List.length_append]
 rfl
theorem Tja {l:List ByteArray} {s y:ByteArray} (h:y∈Vaa l s):y∈l∨y=s∨y=Na:=by
 unfold Vaa at h
 rcases List.mem_or_eq_of_mem_set h with h|h
 ·rcases (Xj _ _ _).2.2 y h with h|h
  ·rcases List.mem_append.1 h with h|h
   ·exact .inl h
   ·exact .inr (.inl (List.mem_singleton.1 h))
  ·exact .inr (.inr h)
 ·exact .inr (.inl h)
def hS1 (l:List Nmd) (j:Nat) (out:List ByteArray) (x:Nmd):List ByteArray:=bif (Me x.2).isSome&&(!(Y0 out x.1)&&(Fca l x.1==(j:Int))) then Vaa out x.1 else out
def hS (l:List Nmd):List Nmd→Nat→List ByteArray→List ByteArray
 |[],_,out=>out
 |x::r,j,out=>hS l r (j+1) (hS1 l j out x)
def Lra (d:Dsk):List ByteArray:=hS d.1 d.1 0 []
theorem Q4a (l:List Nmd) (j:Nat) (out:List ByteArray) (x:Nmd):(hS1 l j out x).length≤out.length+1:=by
 unfold hS1
 cases (Me x.2).isSome&&(!(Y0 out x.1)&&(Fca l x.1==(j:Int))) with
 |false=>exact Nat.le_succ _
 |true=>rw [cond_true,Tia]; exact Nat.le_refl _
theorem Zva (l:List Nmd) (hl:Nx l):∀ (r:List Nmd) (j:Nat) (out:List ByteArray),(∀ x∈r,x∈l)→(∀ y∈out,Ky y)→(hS l r j out).length≤out.length+r.length∧∀ y∈hS l r j out,Ky y
 |[],_,out,_,h=>⟨by simp [hS],h⟩
 |x::r,j,out,hm,h=>by
  have h2:=Q4a l j out x
  obtain ⟨a1,a2⟩:=Zva l hl r (j+1) (hS1 l j out x) (fun y hy=>hm y (List.mem_cons_of_mem _ hy)) (fun y hy=>by
   unfold hS1 at hy
   cases hc:(Me x.2).isSome&&(!(Y0 out x.1)&&(Fca l x.1==(j:Int))) with
   |false=>rw [hc] at hy; exact h y hy
   |true=>
    rw [hc] at hy
    rcases Tja hy with hy|rfl|rfl
    ·exact h y hy
    ·exact hl x (hm x List.mem_cons_self)
    ·unfold Ky; decide)
  refine ⟨?_,a2⟩
  show (hS l r (j+1) (hS1 l j out x)).length≤_
  rw [List.length_cons]
  omega
theorem Hha (a b:List Nmd) (j:Nat) (hj:j<a.length) (ha:a.length≤100000):∀ (k:Nat) (x:List ByteArray),k<x.length→x.length≤100000→
  Tot (fun n=>I8 n x (j:Int) (k:Int) (a,b)) (fun r=>r=((Fda x k (a.getD j Ec).1).1,(j:Int),((Fda x k (a.getD j Ec).1).2:Int),(a,b))):=by
 intro k
 induction k with
 |zero=>
  intro x hk hx
  refine Tot.succ ?_
  simp (disch:=omega) only [I8,dF]
  exact Tot.pure rfl
 |succ k ih=>
  intro x hk hx
  refine Tot.succ ?_
  have e1:((k+1:Nat):Int) - 1=(k:Int):=by omega
  simp (disch:=omega) only [I8,dT,w64,e1,Int.toNat_natCast]
  have e0:a.getD j ((⟨#[]⟩:ByteArray),([]:List Int))=a.getD j Ec:=rfl
  rw [e0]
  unfold Fda
  refine Tot.ite (fun h=>?_) (fun h=>?_)
  ·rw [J7a] at h
   rw [show tlt (a.getD j Ec).1 (x.getD k Na)=true from h,cond_true]
   exact ih _ (by rw [List.length_set]; omega) (by rw [List.length_set]; omega)
  ·rw [J7a] at h
   rw [show tlt (a.getD j Ec).1 (x.getD k Na)=false from h,cond_false]
   exact Tot.pure rfl
theorem Tka (d:Dsk) (hd:DIn d) (hb:DB d):Tot (fun k=>Fe k d) (fun r=>r=Lra d):=by
 have hl:=hd.2.1
 unfold Fe
 refine Tot.bind (Q:=fun r=>r=Lra d) ?_ (by rintro r rfl; exact Tot.pure rfl)
 refine Tot.up (L:=fun k i s=>Fo k s i d) (Q:=fun r=>r=Lra d) d.1.length (fun j s=>hS d.1 (d.1.drop j) j s=Lra d∧s.length≤j) ?_ ?_ 0 [] (Nat.zero_le _) ⟨rfl,Nat.le_refl _⟩
 ·rintro s ⟨h,_⟩
  rw [List.drop_length] at h
  simp (disch:=omega) only [Fo,dF]
  exact Tot.pure h
 ·rintro j s hj ⟨h,hs⟩ next
  rw [Am (d:=Ec) hj] at h
  have hlen:=Q4a d.1 j s (d.1.getD j Ec)
  have nx:=next _ ⟨show hS d.1 (d.1.drop (j+1)) (j+1) (hS1 d.1 j s (d.1.getD j Ec))=Lra d from h,by omega⟩
  have hx:=A3 (d:=Ec) hj
  simp (disch:=omega) only [Fo,dT,Int.toNat_natCast,w64]
  have e0:d.1.getD j ((⟨#[]⟩:ByteArray),([]:List Int))=d.1.getD j Ec:=rfl
  rw [e0]
  unfold hS1 at nx
  refine Tot.bind (Oo _ (hb.1 _ hx) (hd.1.1.1.2 _ hx)) ?_
  rintro r rfl
  unfold R6
  cases hf:Me (d.1.getD j Ec).2 with
  |none=>
   rw [hf] at nx
   exact Tot.yes rfl nx
  |some f=>
   rw [hf] at nx
   refine Tot.no rfl (Tot.bind (C7a s _ (by omega)) ?_)
   rintro r rfl
   cases hc:Y0 s (d.1.getD j Ec).1 with
   |true=>
    rw [hc] at nx
    exact Tot.yes rfl nx
   |false=>
    rw [hc] at nx
    refine Tot.no rfl (Tot.bind (X4 d.1 _ (by omega)) ?_)
    rintro r rfl
    cases he:Fca d.1 (d.1.getD j Ec).1==(j:Int) with
    |false=>
     rw [he] at nx
     exact Tot.yes (by unfold bne; rw [he]; rfl) nx
    |true=>
     rw [he] at nx
     refine Tot.no (by unfold bne; rw [he]; rfl) (Tot.ble (by simp only [List.length_cons,List.length_nil]; omega) ?_)
     have hq:=Hha d.1 d.2 j hj (by omega) s.length (s++[(d.1.getD j Ec).1]) (by simp) (by simp only [List.length_append,List.length_cons,List.length_nil]; omega)
     refine Tot.bind hq ?_
     rintro r rfl
     obtain ⟨w1,w2,_⟩:=Xj s.length (s++[(d.1.getD j Ec).1]) (d.1.getD j Ec).1
     rw [List.length_append] at w1
     simp only [List.length_cons,List.length_nil] at w1
     simp (disch:=omega) only [dT,Int.toNat_natCast,w64]
     exact nx
end Go.Proofs.YtflokceoeiplcaaGreat.Vf
end

section
set_option linter.unusedVariables false
set_option linter.unusedSimpArgs false
namespace Go.Proofs.YtflokceoeiplcaaGreat.Vf
open Go
def Bdb (n:Nod):Nod×Int:=((n.1,(N1 n.2.1).1,n.2.2),(N1 n.2.1).2)
theorem C8a {n:Nod} (hn:NG n) {d:Dsk} (hd:DG d):NG (n.1,d,n.2.2):=by
 obtain ⟨h1,h2,h3,h4,h5⟩:=Fc.1 hn.1
 exact ⟨Fc.2 ⟨h1,h2,hd.1,h4,h5⟩,hd.2⟩
theorem Zwa {n:Nod} (hn:NG n):NG (Bdb n).1:=C8a hn (Tga hn.g)
end Go.Proofs.YtflokceoeiplcaaGreat.Vf
end

section
set_option linter.unusedVariables false
set_option linter.unusedSimpArgs false
namespace Go.Proofs.YtflokceoeiplcaaGreat.Vf
open Go
def Hia (v:BitVec 32) (b:Int):BitVec 32:=(v ^^^ BitVec.ofInt 32 b) * 16777619#32
def Lsa (x:ByteArray):Nat→BitVec 32
 |0=>2166136261#32
 |n+1=>Hia (Lsa x n) (bt x (n:Int))
def Xha (x:ByteArray):Nat:=(Lsa x x.size).toNat
theorem Bob (v:BitVec 32):IntKind.wrap .i64 ((BitVec.ofInt (IntKind.bits .i64) ((v.toNat:Int) * 16777619) &&& BitVec.ofInt (IntKind.bits .i64) 4294967295).toNat)=((v * 16777619#32).toNat:Int):=by
 have h:=v.isLt
 rw [BitVec.toNat_and,show (v.toNat:Int) * 16777619=((v.toNat * 16777619:Nat):Int) by omega,Pl _ (by omega),show (BitVec.ofInt (IntKind.bits .i64) 4294967295).toNat=2 ^ 32 - 1 from by decide,Nat.and_two_pow_sub_one_eq_mod,BitVec.toNat_mul]
 show IntKind.wrap .i64 ((v.toNat * 16777619 % 4294967296:Nat):Int)=((v.toNat * 16777619 % 4294967296:Nat):Int)
 exact w64 (by omega) (by omega)
theorem Tla (x:ByteArray) (hx:x.size≤1000000000):Tot (fun k=>Jt k x) (fun r=>r=(Xha x:Int)):=by
 unfold Jt
 refine Tot.bind (Q:=fun r=>r=(Xha x:Int)) ?_ (by rintro r rfl; exact Tot.pure rfl)
 refine Tot.up (L:=fun k i (s:Int)=>Hz k x s i) (Q:=fun r=>r=(Xha x:Int)) x.size (fun j s=>s=((Lsa x j).toNat:Int)) ?_ ?_ 0 _ (Nat.zero_le _) rfl
 ·rintro s rfl
  simp (disch:=omega) only [Hz,dF]
  exact Tot.pure rfl
 ·rintro j s hj rfl next
  have hb:=E0a x (j:Int)
  have hx:IntKind.wrap .i64 ((BitVec.ofInt (IntKind.bits .i64) ((Lsa x j).toNat:Int) ^^^ BitVec.ofInt (IntKind.bits .i64) (bt x (j:Int))).toNat)=((Lsa x j ^^^ BitVec.ofInt 32 (bt x (j:Int))).toNat:Int):=by
   have:=Aeb (Lsa x j) (BitVec.ofInt 32 (bt x (j:Int)))
   rwa [← Jma hb] at this
  simp (disch:=omega) only [Hz,dT,w64,hx,Bob]
  exact next _ rfl
def Uj (r:Rng) (x:ByteArray):List Int:=r.2.getD (Xha x % r.2.length) []
theorem B1b (a b:Nat):Int.tmod (a:Int) (b:Int)=((a % b:Nat):Int):=by
 rw [Int.tmod_eq_emod_of_nonneg (by omega)]
 exact (Int.natCast_emod _ _).symm
theorem Uk (r:Rng) (x:ByteArray) (hr:RBd r) (hx:x.size≤1000000000):Tot (fun k=>Az k r x) (fun y=>y=Uj r x):=by
 have hrl:=hr.1
 unfold Az
 by_cases h0:r.2.length=0
 ·refine Tot.yes (by rw [h0]; rfl) (Tot.pure ?_)
  unfold Uj
  rw [List.eq_nil_of_length_eq_zero h0]
  rfl
 ·have hm:=Nat.mod_lt (Xha x) (show 0<r.2.length by omega)
  refine Tot.no (by rw [beq_eq_false_iff_ne]; omega) (Tot.bind (Q:=fun y=>y=((Xha x % r.2.length:Nat):Int)) ?_ ?_)
  ·unfold Jc
   refine Tot.ndec (by omega) (Tot.bind (Tla x hx) ?_)
   rintro h rfl
   exact Tot.ndec (by omega) (Tot.pure (B1b _ _))
  ·rintro y rfl
   have hp:=hr.2 _ (A3 (d:=[]) hm)
   simp (disch:=omega) only [dT,Int.toNat_natCast]
   exact Tot.ble (by simp only [List.length_nil]; omega) (Tot.pure rfl)
theorem Tma {r:Rng} {l:List Dev} (h:Hu r l=true) (x:ByteArray):Uj r x∈r.2:=by
 obtain ⟨_,_,h3,_⟩:=Cz.1 h
 exact A3 (d:=[]) (Nat.mod_lt _ (by omega))
theorem C9a {r:Rng} {l:List Dev} (h:Hu r l=true) (x:ByteArray):(Uj r x).Nodup∧((Uj r x).length:Int)=r.1∧∀ id∈Uj r x,∃ d,Iq l id=some d:=(Cz.1 h).2.2.2 _ (Tma h x)
def hoA (p zs:List Int) (z:Bool) (l:List Dev):List Int:=(l.filter fun d => !(Mz p d.1)&&(Mz zs d.2.1==z)).map (·.1)
def Qe (r:Rng) (l:List Dev) (x:ByteArray):List Int:=hoA (Uj r x) (J3 (Uj r x) l) false l++hoA (Uj r x) (J3 (Uj r x) l) true l
theorem Caa (p zs:List Int) (z:Bool) (l:List Dev):(hoA p zs z l).length≤l.length:=by
 unfold hoA
 rw [List.length_map]
 exact List.length_filter_le _ _
theorem Tna (p zs:List Int) (z:Bool) (d:Dev) (l:List Dev):hoA p zs z (d::l)=bif !(Mz p d.1)&&(Mz zs d.2.1==z) then d.1::hoA p zs z l else hoA p zs z l:=by
 unfold hoA
 rw [List.filter_cons]
 cases !(Mz p d.1)&&(Mz zs d.2.1==z)<;>rfl
theorem Xk (p zs:List Int) (l:List Dev) (hp:p.length≤1000) (hz:zs.length≤1000) (hl:l.length≤1000) (out:List Int) (ho:out.length≤100000) (t:Int):Tot (fun k=>Bl k l p zs out t 0) (fun y=>y=(l,p,zs,out++hoA p zs (t==1) l,t)):=by
 have m1:=Caa p zs (t==1) l
 refine Tot.up (L:=fun k i (s:List Int)=>Bl k l p zs s t i) (Q:=fun y=>y=(l,p,zs,out++hoA p zs (t==1) l,t)) l.length (fun j s=>s++hoA p zs (t==1) (l.drop j)=out++hoA p zs (t==1) l) ?_ ?_ 0 out (Nat.zero_le _) rfl
 ·rintro s e1
  rw [List.drop_length] at e1
  simp (disch:=omega) only [Bl,dF]
  refine Tot.pure ?_
  rw [← e1]
  show _=(l,p,zs,s++[],t)
  rw [List.append_nil]
 ·rintro j s hj e1 next
  have g1:=congrArg List.length e1
  rw [List.length_append,List.length_append] at g1
  rw [Am (d:=Lt) hj,Tna] at e1
  obtain ⟨d,ed⟩:∃ d:Dev,l.getD j Lt=d:=⟨_,rfl⟩
  rw [ed] at e1
  have e0:l.getD j ((0:Int),((0:Int),(0:Int)))=d:=ed
  simp (disch:=omega) only [Bl,dT,Int.toNat_natCast,w64,e0]
  refine Tot.bind (R7 p d.1 (by omega)) ?_
  rintro b rfl
  cases hp':Mz p d.1 with
  |true=>
   rw [hp'] at e1
   exact Tot.no rfl (next s e1)
  |false=>
   rw [hp'] at e1
   refine Tot.yes rfl (Tot.bind (R7 zs d.2.1 (by omega)) ?_)
   rintro b rfl
   cases hz':Mz zs d.2.1==(t==1) with
   |true=>
    rw [hz'] at e1
    exact Tot.yes rfl (Tot.ble (by simp only [List.length_cons,List.length_nil]; omega) (next (s++[d.1]) (by rw [← e1]; simp)))
   |false=>
    rw [hz'] at e1
    exact Tot.no rfl (next s e1)
theorem Toa (r:Rng) (l:List Dev) (x:ByteArray) (h:Hu r l=true) (hx:x.size≤1000000000):Tot (fun k=>Bs k r l x) (fun y=>y=Qe r l x):=by
 obtain ⟨h1,h2,_,_⟩:=Cz.1 h
 obtain ⟨_,p2,_⟩:=C9a h x
 obtain ⟨_,_,_,h12⟩:=H4.1 h1
 have hz:=Xg (Uj r x) l
 unfold Bs Qe
 refine Tot.bind (Uk r x (N0 h) hx) ?_
 rintro p rfl
 generalize Uj r x=p at *
 refine Tot.bind (Ema p l (by omega) (by omega)) ?_
 rintro zs rfl
 generalize J3 p l=zs at *
 have m1:=Caa p zs false l
 refine Tot.bind (Q:=fun y=>y=hoA p zs false l++hoA p zs true l) ?_ (by rintro y rfl; exact Tot.pure rfl)
 refine Tot.succ ?_
 simp (disch:=omega) only [Dg,dT]
 refine Tot.bind (Xk p zs l (by omega) (by omega) (by omega) [] (by simp) 0) ?_
 rintro y rfl
 refine Tot.succ ?_
 simp (disch:=omega) only [Dg,dT,w64,List.nil_append]
 refine Tot.bind (Xk p zs l (by omega) (by omega) (by omega) (hoA p zs false l) (by omega) 1) ?_
 rintro y rfl
 refine Tot.succ ?_
 simp (disch:=omega) only [Dg,dF,w64]
 exact Tot.pure rfl
end Go.Proofs.YtflokceoeiplcaaGreat.Vf
end
