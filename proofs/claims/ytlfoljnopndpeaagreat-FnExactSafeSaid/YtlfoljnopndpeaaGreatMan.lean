import Derived.Test.YtlfoljnopndpeaaGreatMam
import Derived.Test.YtlfoljnopndpeaaGreatMaj
import Derived.Test.YtlfoljnopndpeaaGreatMal
set_option linter.unusedVariables false
set_option linter.unusedSimpArgs false
namespace Go.Proofs.YtlfoljnopndpeaaGreat.Vf
open Go

abbrev Dev:=Int×Int×Int
abbrev Rng:=Int×List (List Int)
def Mz:Dev:=((0:Int),((0:Int),(0:Int)))
def Sa (l:List Int) (n:Int):Bool:=l.any (· == n)
theorem Sc {l:List Int} {n:Int}:Sa l n=true↔n∈l:=by
 unfold Sa
 rw [List.any_eq_true]
 constructor
 ·rintro ⟨x,hx,e⟩; rw [← eq_of_beq e]; exact hx
 ·intro h; exact ⟨n,h,beq_self_eq_true n⟩
theorem Pga (l:List Int) (n:Int) (hl:l.length≤4000000000000000):Tot (λ k=>Ct k l n) (λ r=>r=Sa l n):=by
 unfold Ct
 refine Tot.bind (Q:=λ r=>r=bif Sa l n then .inl true else .inr ()) ?_ (by rintro r rfl; cases Sa l n<;>exact Tot.pure rfl)
 refine Tot.up (L:=λ k i (_:Unit)=>F9 k n l (l.length:Int) i) (Q:=λ r=>r=bif Sa l n then .inl true else .inr ()) l.length (λ j _=>Sa (l.drop j) n=Sa l n) ?_ ?_ 0 () (Nat.zero_le _) rfl
 ·intro _ h
  rw [List.drop_length] at h
  simp (disch:=omega) only [F9,dF,← h]
  exact Tot.pure rfl
 ·intro j _ hj h next
  rw [Fm (d:=0) hj] at h
  simp (disch:=omega) only [F9,dT,Int.toNat_natCast,w64]
  unfold Sa at h
  rw [List.any_cons] at h
  refine Tot.ite (λ hc=>Tot.pure ?_) (λ hc=>next () ?_)
  ·rw [hc,Bool.true_or] at h
   unfold Sa
   rw [← h]
   rfl
  ·rw [hc,Bool.false_or] at h
   exact h
theorem Pha (l:List Int) (n:Int) (hl:l.length≤4000000000000000):Tot (λ k=>Es k l n) (λ r=>r=Sa l n):=by
 unfold Es
 refine Tot.bind (Q:=λ r=>r=bif Sa l n then .inl true else .inr ()) ?_ (by rintro r rfl; cases Sa l n<;>exact Tot.pure rfl)
 refine Tot.up (L:=λ k i (_:Unit)=>G3 k l n i) (Q:=λ r=>r=bif Sa l n then .inl true else .inr ()) l.length (λ j _=>Sa (l.drop j) n=Sa l n) ?_ ?_ 0 () (Nat.zero_le _) rfl
 ·intro _ h
  rw [List.drop_length] at h
  simp (disch:=omega) only [G3,dF,← h]
  exact Tot.pure rfl
 ·intro j _ hj h next
  rw [Fm (d:=0) hj] at h
  simp (disch:=omega) only [G3,dT,Int.toNat_natCast,w64]
  unfold Sa at h
  rw [List.any_cons] at h
  refine Tot.ite (λ hc=>Tot.pure ?_) (λ hc=>next () ?_)
  ·rw [hc,Bool.true_or] at h
   unfold Sa
   rw [← h]
   rfl
  ·rw [hc,Bool.false_or] at h
   exact h
def Kw (l:List Dev) (id:Int):Option Dev:=l.find? (λ d=>d.1==id)
def Sfa:Option Dev→Dev×Bool
 |some d=>(d,true)
 |none=>(Mz,false)
theorem Jma (l:List Dev) (id:Int) (hl:l.length≤1000000000):Tot (λ k=>I9 k l id) (λ r=>r=Sfa (Kw l id)):=by
 unfold I9
 refine Tot.bind (Q:=λ r=>r=match Kw l id with|some d => .inl (true,d)|none => .inr (0,0,0)) ?_ (by rintro r rfl; cases Kw l id<;>exact Tot.pure rfl)
 refine Tot.up (L:=λ k i (_:Unit)=>G8 k id l (l.length:Int) i (0,0,0)) (Q:=λ r=>r=match Kw l id with|some d => .inl (true,d)|none => .inr (0,0,0)) l.length (λ j _=>Kw (l.drop j) id=Kw l id) ?_ ?_ 0 () (Nat.zero_le _) rfl
 ·intro _ h
  rw [List.drop_length] at h
  simp (disch:=omega) only [G8,dF,← h]
  exact Tot.pure rfl
 ·intro j _ hj h next
  rw [Fm (d:=Mz) hj] at h
  unfold Kw at h
  rw [List.find?_cons] at h
  simp (disch:=omega) only [G8,dT,Int.toNat_natCast,w64]
  refine Tot.ite (λ hc=>Tot.pure ?_) (λ hc=>next () ?_)
  ·rw [show ((l.getD j Mz).1==id)=true from hc] at h
   unfold Kw
   rw [← h]
   rfl
  ·rw [show ((l.getD j Mz).1==id)=false from hc] at h
   exact h
theorem Jna (l:List Dev) (id:Int) (hl:l.length≤1000000000):Tot (λ k=>I8 k l id) (λ r=>r=Sfa (Kw l id)):=by
 unfold I8
 refine Tot.bind (Q:=λ r=>r=match Kw l id with|some d => .inl (true,d)|none => .inr (0,0,0)) ?_ (by rintro r rfl; cases Kw l id<;>exact Tot.pure rfl)
 refine Tot.up (L:=λ k i (_:Unit)=>G4 k l id i (0,0,0)) (Q:=λ r=>r=match Kw l id with|some d => .inl (true,d)|none => .inr (0,0,0)) l.length (λ j _=>Kw (l.drop j) id=Kw l id) ?_ ?_ 0 () (Nat.zero_le _) rfl
 ·intro _ h
  rw [List.drop_length] at h
  simp (disch:=omega) only [G4,dF,← h]
  exact Tot.pure rfl
 ·intro j _ hj h next
  rw [Fm (d:=Mz) hj] at h
  unfold Kw at h
  rw [List.find?_cons] at h
  simp (disch:=omega) only [G4,dT,Int.toNat_natCast,w64]
  refine Tot.ite (λ hc=>Tot.pure ?_) (λ hc=>next () ?_)
  ·rw [show ((l.getD j Mz).1==id)=true from hc] at h
   unfold Kw
   rw [← h]
   rfl
  ·rw [show ((l.getD j Mz).1==id)=false from hc] at h
   exact h
def Cwa (d:Dev):Bool:=inR d.1 0 20&&(inR d.2.1 0 20&&inR d.2.2 1 1000)
def Ub:Option Int→List Dev→Bool
 |_,[]=>true
 |none,d::l=>Cwa d&&Ub (some d.1) l
 |some q,d::l=>Cwa d&&(decide (q<d.1)&&Ub (some d.1) l)
def Rh (l:List Dev):Bool:=Ub none l&&inR (l.length:Int) 1 12
def Apa (l:List Dev):Nat→Option Int
 |0=>none
 |i+1=>some (l.getD i Mz).1
theorem Aqa {l:List Dev} {j:Nat} (hj:j<l.length):Ub (Apa l j) (l.drop j)=(Cwa (l.getD j Mz)&&((bif decide (0<j) then decide ((l.getD (j - 1) Mz).1<(l.getD j Mz).1) else true)&&Ub (Apa l (j+1)) (l.drop (j+1)))):=by
 rw [Fm (d:=Mz) hj]
 cases j with
 |zero=>simp [Apa,Ub]
 |succ j=>simp [Apa,Ub]
theorem Moa (l:List Dev) (hl:l.length≤1000000000):Tot (λ k=>Ei k l) (λ r=>r=Rh l):=by
 unfold Ei Rh
 refine Tot.bind (Q:=λ r=>r=bif Ub none l then .inr l else .inl false) ?_ ?_
 ·refine Tot.up (L:=λ k i (_:Unit)=>Dy k l l (l.length:Int) i) (Q:=λ r=>r=bif Ub none l then .inr l else .inl false) l.length (λ j _=>Ub (Apa l j) (l.drop j)=Ub none l) ?_ ?_ 0 () (Nat.zero_le _) rfl
  ·intro _ h
   rw [List.drop_length] at h
   have:Ub none l=true:=by rw [← h]; cases Apa l l.length<;>rfl
   simp (disch:=omega) only [Dy,dF,this]
   exact Tot.pure rfl
  ·intro j _ hj h next
   rw [Aqa hj] at h
   simp (disch:=omega) only [Dy,dT,Int.toNat_natCast,w64,Te,Option.bind_some]
   have e0:l.getD j ((0:Int),((0:Int),(0:Int)))=l.getD j Mz:=rfl
   rw [e0]
   have no:Cwa (l.getD j Mz)=false→Ub none l=false:=λ c=>by rw [← h,c]; rfl
   unfold Cwa at no h
   refine Tot.ite (λ hc=>Tot.pure ?_) (λ h1=>Tot.ite (λ hc=>Tot.pure ?_) (λ h2=>Tot.ite (λ hc=>Tot.pure ?_) (λ h3=>?_)))
   ·rw [no (by rw [Bool.not_eq_true'] at hc; rw [hc]; rfl)]; rfl
   ·rw [no (by rw [Bool.not_eq_true'] at hc; rw [hc,Bool.false_and,Bool.and_false])]; rfl
   ·rw [no (by rw [Bool.not_eq_true'] at hc; rw [hc,Bool.and_false,Bool.and_false])]; rfl
   ·rw [Bool.not_eq_false'] at h1 h2 h3
    rw [h1,h2,h3] at h
    refine Tot.dite (λ h0=>?_) (λ h0=>next () ?_)
    ·simp (disch:=omega) only [dT,w64,show Int.toNat ((j:Int) - 1)=j - 1 by omega]
     rw [decide_eq_true (show 0<j by omega)] at h
     refine Tot.dite (λ hc=>Tot.pure ?_) (λ hc=>next () ?_)
     ·have hc':¬ ((l.getD (j - 1) Mz).1<(l.getD j Mz).1):=by
       have:(l.getD (j - 1) Mz).1≥(l.getD j Mz).1:=hc
       omega
      rw [decide_eq_false hc'] at h
      rw [← h]; rfl
     ·have hc':(l.getD (j - 1) Mz).1<(l.getD j Mz).1:=by
       have:¬ ((l.getD (j - 1) Mz).1≥(l.getD j Mz).1):=hc
       omega
      rw [decide_eq_true hc'] at h
      exact h
    ·rw [decide_eq_false (show ¬ 0<j by omega)] at h
     exact h
 ·rintro r rfl
  cases Ub none l with
  |false=>exact Tot.pure rfl
  |true=>
   simp only [cond_true,Sum.elim_inr,Te,Option.bind_some]
   exact Tot.pure rfl
theorem Mpa (l:List Dev) (hl:l.length≤1000000000):Tot (λ k=>Ec k l) (λ r=>r=Rh l):=by
 unfold Ec Rh
 refine Tot.bind (Q:=λ r=>r=bif Ub none l then .inr l else .inl false) ?_ ?_
 ·refine Tot.up (L:=λ k i (_:Unit)=>Du k l i) (Q:=λ r=>r=bif Ub none l then .inr l else .inl false) l.length (λ j _=>Ub (Apa l j) (l.drop j)=Ub none l) ?_ ?_ 0 () (Nat.zero_le _) rfl
  ·intro _ h
   rw [List.drop_length] at h
   have:Ub none l=true:=by rw [← h]; cases Apa l l.length<;>rfl
   simp (disch:=omega) only [Du,dF,this]
   exact Tot.pure rfl
  ·intro j _ hj h next
   rw [Aqa hj] at h
   simp (disch:=omega) only [Du,dT,Int.toNat_natCast,w64,Rf,Option.bind_some]
   have e0:l.getD j ((0:Int),((0:Int),(0:Int)))=l.getD j Mz:=rfl
   rw [e0]
   have no:Cwa (l.getD j Mz)=false→Ub none l=false:=λ c=>by rw [← h,c]; rfl
   unfold Cwa at no h
   refine Tot.ite (λ hc=>Tot.pure ?_) (λ h1=>Tot.ite (λ hc=>Tot.pure ?_) (λ h2=>Tot.ite (λ hc=>Tot.pure ?_) (λ h3=>?_)))
   ·rw [no (by rw [Bool.not_eq_true'] at hc; rw [hc]; rfl)]; rfl
   ·rw [no (by rw [Bool.not_eq_true'] at hc; rw [hc,Bool.false_and,Bool.and_false])]; rfl
   ·rw [no (by rw [Bool.not_eq_true'] at hc; rw [hc,Bool.and_false,Bool.and_false])]; rfl
   ·rw [Bool.not_eq_false'] at h1 h2 h3
    rw [h1,h2,h3] at h
    refine Tot.dite (λ h0=>?_) (λ h0=>next () ?_)
    ·simp (disch:=omega) only [dT,w64,show Int.toNat ((j:Int) - 1)=j - 1 by omega]
     rw [decide_eq_true (show 0<j by omega)] at h
     refine Tot.dite (λ hc=>Tot.pure ?_) (λ hc=>next () ?_)
     ·have hc':¬ ((l.getD (j - 1) Mz).1<(l.getD j Mz).1):=by
       have:(l.getD (j - 1) Mz).1≥(l.getD j Mz).1:=hc
       omega
      rw [decide_eq_false hc'] at h
      rw [← h]; rfl
     ·have hc':(l.getD (j - 1) Mz).1<(l.getD j Mz).1:=by
       have:¬ ((l.getD (j - 1) Mz).1≥(l.getD j Mz).1):=hc
       omega
      rw [decide_eq_true hc'] at h
      exact h
    ·rw [decide_eq_false (show ¬ 0<j by omega)] at h
     exact h
 ·rintro r rfl
  cases Ub none l with
  |false=>exact Tot.pure rfl
  |true=>
   simp only [cond_true,Sum.elim_inr,Rf,Option.bind_some]
   exact Tot.pure rfl
def S1a (l:List Dev) (out:List Int) (id:Int):List Int:=match Kw l id with
 |some d=>bif Sa out d.2.1 then out else out++[d.2.1]
 |none=>out
def Pia (ids:List Int) (l:List Dev):List Int:=ids.foldl (S1a l) []

theorem Oa {l:List Int} {j:Nat} (hj:j<l.length) (h:(l.take j).Nodup) (hn:l.getD j 0∉l.take j):(l.take (j+1)).Nodup:=by
 rw [List.take_succ_eq_append_getElem hj,List.nodup_append]
 rw [List.getD_eq_getElem?_getD,List.getElem?_eq_getElem hj,Option.getD_some] at hn
 exact ⟨h,by simp,λ a ha b hb e=>by rw [List.mem_singleton.1 hb] at e; subst e; exact hn ha⟩
theorem Ara {l:List Int} {j:Nat} (hj:j<l.length) (hn:l.getD j 0∈l.take j):¬ l.Nodup:=by
 intro h
 have h1:(l.take (j+1)).Nodup:=h.sublist (List.take_sublist _ _)
 rw [List.take_succ_eq_append_getElem hj,List.nodup_append] at h1
 rw [List.getD_eq_getElem?_getD,List.getElem?_eq_getElem hj,Option.getD_some] at hn
 exact h1.2.2 _ hn _ (by simp) rfl
theorem Joa (l:List Int) (hl:l.length≤5000000):Tot (λ k=>Gg k l) (λ r=>r=decide l.Nodup):=by
 unfold Gg
 refine Tot.bind (Q:=λ r=>r=bif decide l.Nodup then .inr () else .inl false) ?_ (by rintro r rfl; cases decide l.Nodup<;>exact Tot.pure rfl)
 refine Tot.up (L:=λ k i (_:Unit)=>G7 k l l (l.length:Int) i) (Q:=λ r=>r=bif decide l.Nodup then .inr () else .inl false) l.length (λ j _=>(l.take j).Nodup) ?_ ?_ 0 () (Nat.zero_le _) (by simp)
 ·intro _ h
  rw [List.take_length] at h
  simp (disch:=omega) only [G7,dF,decide_eq_true h]
  exact Tot.pure rfl
 ·intro j _ hj h next
  simp (disch:=omega) only [G7,dT,Int.toNat_natCast,w64]
  refine Tot.bind (Pga (l.take j) (l.getD j 0) (by rw [List.length_take]; omega)) ?_
  rintro r rfl
  refine Tot.ite (λ hc=>Tot.pure ?_) (λ hc=>next () (Oa hj h (λ c=>by rw [Sc.2 c] at hc; cases hc)))
  rw [decide_eq_false (Ara hj (Sc.1 hc))]
  rfl
theorem Mqa (l:List Int) (n:Int) (hl:l.length≤5000000):Tot (λ k=>Ed k l n) (λ r=>r=(decide l.Nodup&&((l.length:Int)==n))):=by
 unfold Ed
 refine Tot.bind (Q:=λ r=>r=bif decide l.Nodup then .inr (n,l) else .inl false) ?_ (by rintro r rfl; cases decide l.Nodup<;>exact Tot.pure rfl)
 refine Tot.up (L:=λ k i (_:Unit)=>Ev k n i l) (Q:=λ r=>r=bif decide l.Nodup then .inr (n,l) else .inl false) l.length (λ j _=>(l.take j).Nodup) ?_ ?_ 0 () (Nat.zero_le _) (by simp)
 ·intro _ h
  rw [List.take_length] at h
  simp (disch:=omega) only [Ev,dF,decide_eq_true h]
  exact Tot.pure rfl
 ·intro j _ hj h next
  simp (disch:=omega) only [Ev,dT,Int.toNat_natCast,w64]
  refine Tot.bind (Pha (l.take j) (l.getD j 0) (by rw [List.length_take]; omega)) ?_
  rintro r rfl
  refine Tot.ite (λ hc=>Tot.pure ?_) (λ hc=>next () (Oa hj h (λ c=>by rw [Sc.2 c] at hc; cases hc)))
  rw [decide_eq_false (Ara hj (Sc.1 hc))]
  rfl
def RBd (r:Rng):Prop:=r.2.length≤2000000∧∀ p∈r.2,p.length≤2000000
def Kk (l:List Dev) (n:Int) (p:List Int):Bool:=(decide p.Nodup&&((p.length:Int)==n))&&p.all λ id=>(Kw l id).isSome
def Tp (r:Rng) (l:List Dev):Bool:=Rh l&&(inR r.1 1 5&&(inR (r.2.length:Int) 1 64&&r.2.all (Kk l r.1)))
theorem Mra (r:Rng) (l:List Dev) (hr:RBd r) (hl:l.length≤5000000):Tot (λ k=>Cu k r l) (λ b=>b=Tp r l):=by
 unfold Cu Tp
 refine Tot.bind (Moa l (by omega)) ?_
 rintro b rfl
 cases hd:Rh l with
 |false=>exact Tot.yes rfl (Tot.pure rfl)
 |true=>
  have hrl:=hr.1
  simp only [Bool.not_true,cond_false,Te,Option.bind_some,Bool.true_and]
  cases inR r.1 1 5 with
  |false=>exact Tot.yes rfl (Tot.pure rfl)
  |true=>
   refine Tot.no rfl ?_
   cases inR (r.2.length:Int) 1 64 with
   |false=>exact Tot.yes rfl (Tot.pure rfl)
   |true=>
    refine Tot.no rfl (Tot.bind (Q:=λ b=>b=bif r.2.all (Kk l r.1) then .inr () else .inl false) ?_ (by rintro r' rfl; cases r.2.all (Kk l r.1)<;>exact Tot.pure rfl))
    refine Tot.up (L:=λ k i (_:Unit)=>Fb k l r.2 (r.2.length:Int) i r) (Q:=λ b=>b=bif r.2.all (Kk l r.1) then .inr () else .inl false) r.2.length (λ j _=>(r.2.drop j).all (Kk l r.1)=r.2.all (Kk l r.1)) ?_ ?_ 0 () (Nat.zero_le _) rfl
    ·intro _ h
     rw [List.drop_length] at h
     simp (disch:=omega) only [Fb,dF,← h]
     exact Tot.pure rfl
    ·intro j _ hj h next
     rw [Fm (d:=[]) hj,List.all_cons] at h
     have hp:=hr.2 _ (A7 (d:=[]) hj)
     simp (disch:=omega) only [Fb,dT,Int.toNat_natCast,w64]
     have no:Kk l r.1 (r.2.getD j [])=false→r.2.all (Kk l r.1)=false:=λ c=>by rw [← h,c]; rfl
     unfold Kk at no h
     refine Tot.ite (λ hc=>Tot.pure ?_) (λ h1=>Tot.bind (Joa (r.2.getD j []) (by omega)) ?_)
     ·have hc':(((r.2.getD j []).length:Int)==r.1)=false:=by simpa using hc
      rw [show r.2.all (Kk l r.1)=false from no (by rw [hc',Bool.and_false,Bool.false_and])]
      rfl
     ·have h1':(((r.2.getD j []).length:Int)==r.1)=true:=by simpa using h1
      rintro b rfl
      refine Tot.ite (λ hc=>Tot.pure ?_) (λ h2=>?_)
      ·rw [show r.2.all (Kk l r.1)=false from no (by rw [Bool.not_eq_true'] at hc; rw [hc]; rfl)]
       rfl
      ·rw [Bool.not_eq_false'] at h2
       generalize r.2.getD j []=p at *
       refine Tot.bind (Q:=λ b=>b=bif p.all (λ id=>(Kw l id).isSome) then .inr (l,r.2,(r.2.length:Int),(j:Int),r) else .inl false) ?_ ?_
       ·refine Tot.up (L:=λ k i (_:Unit)=>Fa k l r.2 (r.2.length:Int) (j:Int) p (p.length:Int) i r) (Q:=λ b=>b=bif p.all (λ id=>(Kw l id).isSome) then .inr (l,r.2,(r.2.length:Int),(j:Int),r) else .inl false) p.length (λ m _=>(p.drop m).all (λ id=>(Kw l id).isSome)=p.all (λ id=>(Kw l id).isSome)) ?_ ?_ 0 () (Nat.zero_le _) rfl
        ·intro _ h
         rw [List.drop_length] at h
         simp (disch:=omega) only [Fa,dF,← h]
         exact Tot.pure rfl
        ·intro m _ hm h next
         rw [Fm (d:=0) hm,List.all_cons] at h
         simp (disch:=omega) only [Fa,dT,Int.toNat_natCast,w64]
         refine Tot.bind (Jma l (p.getD m 0) (by omega)) ?_
         rintro b rfl
         cases hd:Kw l (p.getD m 0) with
         |none=>exact Tot.yes rfl (Tot.pure (by rw [← h,hd]; rfl))
         |some d=>exact Tot.no rfl (next () (by rw [hd] at h; exact h))
       ·rintro b rfl
        cases hc:p.all (λ id=>(Kw l id).isSome) with
        |false=>exact Tot.pure (by rw [show r.2.all (Kk l r.1)=false from no (by rw [hc,Bool.and_false])]; rfl)
        |true=>
         simp (disch:=omega) only [cond_true,Sum.elim_inr,w64]
         exact next () (by rw [h2,h1',hc] at h; exact h)
theorem Msa (r:Rng) (l:List Dev) (hr:RBd r) (hl:l.length≤5000000):Tot (λ k=>Cs k r l) (λ b=>b=Tp r l):=by
 unfold Cs Tp
 refine Tot.bind (Mpa l (by omega)) ?_
 rintro b rfl
 cases hd:Rh l with
 |false=>exact Tot.yes rfl (Tot.pure rfl)
 |true=>
  have hrl:=hr.1
  simp only [Bool.not_true,cond_false,Rf,Option.bind_some,Bool.true_and]
  cases inR r.1 1 5 with
  |false=>exact Tot.yes rfl (Tot.pure rfl)
  |true=>
   refine Tot.no rfl ?_
   cases inR (r.2.length:Int) 1 64 with
   |false=>exact Tot.yes rfl (Tot.pure rfl)
   |true=>
    refine Tot.no rfl (Tot.bind (Q:=λ b=>b=bif r.2.all (Kk l r.1) then .inr () else .inl false) ?_ (by rintro r' rfl; cases r.2.all (Kk l r.1)<;>exact Tot.pure rfl))
    refine Tot.up (L:=λ k i (_:Unit)=>Ey k l i r) (Q:=λ b=>b=bif r.2.all (Kk l r.1) then .inr () else .inl false) r.2.length (λ j _=>(r.2.drop j).all (Kk l r.1)=r.2.all (Kk l r.1)) ?_ ?_ 0 () (Nat.zero_le _) rfl
    ·intro _ h
     rw [List.drop_length] at h
     simp (disch:=omega) only [Ey,dF,← h]
     exact Tot.pure rfl
    ·intro j _ hj h next
     rw [Fm (d:=[]) hj,List.all_cons] at h
     have hp:=hr.2 _ (A7 (d:=[]) hj)
     simp (disch:=omega) only [Ey,dT,Int.toNat_natCast,w64]
     have no:Kk l r.1 (r.2.getD j [])=false→r.2.all (Kk l r.1)=false:=λ c=>by rw [← h,c]; rfl
     unfold Kk at no h
     refine Tot.bind (Mqa (r.2.getD j []) r.1 (by omega)) ?_
     rintro b rfl
     refine Tot.ite (λ hc=>Tot.pure ?_) (λ h2=>?_)
     ·rw [show r.2.all (Kk l r.1)=false from no (by rw [Bool.not_eq_true'] at hc; rw [hc]; rfl)]
      rfl
     ·rw [Bool.not_eq_false'] at h2
      refine Tot.bind (Q:=λ b=>b=bif (r.2.getD j []).all (λ id=>(Kw l id).isSome) then .inr (l,(j:Int),r) else .inl false) ?_ ?_
      ·refine Tot.up (L:=λ k i (_:Unit)=>Ew k l (j:Int) i r) (Q:=λ b=>b=bif (r.2.getD j []).all (λ id=>(Kw l id).isSome) then .inr (l,(j:Int),r) else .inl false) (r.2.getD j []).length (λ m _=>((r.2.getD j []).drop m).all (λ id=>(Kw l id).isSome)=(r.2.getD j []).all (λ id=>(Kw l id).isSome)) ?_ ?_ 0 () (Nat.zero_le _) rfl
       ·intro _ h
        rw [List.drop_length] at h
        simp (disch:=omega) only [Ew,dT,dF,Int.toNat_natCast,← h]
        exact Tot.pure rfl
       ·intro m _ hm h next
        rw [Fm (d:=0) hm,List.all_cons] at h
        simp (disch:=omega) only [Ew,dT,Int.toNat_natCast,w64]
        refine Tot.bind (Jna l ((r.2.getD j []).getD m 0) (by omega)) ?_
        rintro b rfl
        cases hd:Kw l ((r.2.getD j []).getD m 0) with
        |none=>exact Tot.yes rfl (Tot.pure (by rw [← h,hd]; rfl))
        |some d=>exact Tot.no rfl (next () (by rw [hd] at h; exact h))
      ·rintro b rfl
       cases hc:(r.2.getD j []).all (λ id=>(Kw l id).isSome) with
       |false=>exact Tot.pure (by rw [show r.2.all (Kk l r.1)=false from no (by rw [hc,Bool.and_false])]; rfl)
       |true=>
        simp (disch:=omega) only [cond_true,Sum.elim_inr,w64]
        exact next () (by rw [h2,hc] at h; exact h)
def cnt (id n x:Int):Int:=bif x==id then n+1 else n
def Sla (id n:Int) (p:List Int):Int:=p.foldl (cnt id) n
def Asa (r:Rng) (id:Int):Int:=r.2.foldl (Sla id) 0

def S2a (r:Rng) (p zs:List Int) (a:Option (Dev×Bool)) (d:Dev):Option (Dev×Bool):=
 bif Sa p d.1 then a else match a with
 |none=>some (d,!(Sa zs d.2.1))
 |some (b,fr)=>bif (!(Sa zs d.2.1) && !fr) || (((!(Sa zs d.2.1))==fr)&&decide ((Asa r d.1+1) * b.2.2<(Asa r b.1+1) * d.2.2)) then some (d,!(Sa zs d.2.1)) else some (b,fr)
def S3a (r:Rng) (p:List Int) (l:List Dev):Option (Dev×Bool):=l.foldl (S2a r p (Pia p l)) none
def Sma (r:Rng) (p:List Int) (l:List Dev):Int:=match S3a r p l with
 |some b=>b.1.1
 |none => -1
def bs (r:Rng):Option (Dev×Bool)→Int×Bool×Dev
 |some (b,fr)=>(Asa r b.1+1,fr,b)
 |none=>(0,false,-1,0,0)

def R7a (l:List Dev) (reps:Int) (ps:List (List Int)):Nat→List Int→List Int
 |0,p=>p
 |n+1,p=>R7a l reps ps n (p++[Sma (reps,ps++[p]) p l])
def Sga (l:List Dev) (reps:Int):Nat→List (List Int)→List (List Int)
 |0,ps=>ps
 |n+1,ps=>Sga l reps n (ps++[R7a l reps ps reps.toNat []])
def build (l:List Dev) (parts reps:Int):Rng×Bool:=bif Rh l&&(inR parts 1 64&&(inR reps 1 5 && !(decide (reps > (l.length:Int))))) then ((reps,Sga l reps parts.toNat []),true) else ((0,[]),false)

def hv (r:Rng) (l:List Dev) (b id:Int):Bool:=match Kw l b with
 |none=>false
 |some x=>match Kw l id with
  |none=>false
  |some d=>(d.2.1==x.2.1)&&decide (Asa r id - Asa r b≥2)

section
open Go
end

section
open Go
end

section
open Go
end

def Goa (l:List ByteArray) (s:ByteArray):Bool:=l.any λ y=>teq y s
theorem Mta (l:List ByteArray) (s:ByteArray) (hl:l.length≤1000000000):Tot (λ k=>Fs k l s) (λ r=>r=Goa l s):=by
 unfold Fs
 refine Tot.bind (Q:=λ r=>r=bif Goa l s then .inl true else .inr ()) ?_ (by rintro r rfl; cases Goa l s<;>exact Tot.pure rfl)
 refine Tot.up (L:=λ k i (_:Unit)=>F4 k l s i) (Q:=λ r=>r=bif Goa l s then .inl true else .inr ()) l.length (λ j _=>Goa (l.drop j) s=Goa l s) ?_ ?_ 0 () (Nat.zero_le _) rfl
 ·intro _ h
  rw [List.drop_length] at h
  simp (disch:=omega) only [F4,dF,← h]
  exact Tot.pure rfl
 ·intro j _ hj h next
  rw [Fm (d:=U4) hj] at h
  unfold Goa at h
  rw [List.any_cons] at h
  simp (disch:=omega) only [F4,dT,Int.toNat_natCast,w64]
  refine Tot.ite (λ hc=>Tot.pure ?_) (λ hc=>next () ?_)
  ·rw [show teq (l.getD j U4) s=true from hc,Bool.true_or] at h
   unfold Goa
   rw [← h]
   rfl
  ·rw [show teq (l.getD j U4) s=false from hc,Bool.false_or] at h
   exact h
def S4a (l:List ByteArray):Nat→ByteArray→List ByteArray×Nat
 |0,_=>(l,0)
 |k+1,s=>bif tlt s (l.getD k U4) then S4a (l.set (k+1) (l.getD k U4)) k s else (l,k+1)
def Sna (l:List ByteArray) (s:ByteArray):List ByteArray:=(S4a (l++[s]) l.length s).1.set (S4a (l++[s]) l.length s).2 s
def hS1 (l:List Nmd) (j:Nat) (out:List ByteArray) (x:Nmd):List ByteArray:=bif (Xn x.2).isSome&&(!(Goa out x.1)&&(Nsa l x.1==(j:Int))) then Sna out x.1 else out
def hS (l:List Nmd):List Nmd→Nat→List ByteArray→List ByteArray
 |[],_,out=>out
 |x::r,j,out=>hS l r (j+1) (hS1 l j out x)

section
open Go
end

def Rq (v:BitVec 32) (b:Int):BitVec 32:=(v ^^^ BitVec.ofInt 32 b) * 16777619#32

section
variable {R:Type} {L:Nat→Int→Option (Sum Bool R)}
theorem P7 (p:Nat→Bool) (n:Nat):(List.range (n+1)).all p=((List.range n).all p&&p n):=by
 rw [List.range_succ,List.all_append,List.all_cons,List.all_nil,Bool.and_true]
theorem Uc (p:Nat→Bool) (n:Nat):(List.range (n+1)).any p=((List.range n).any p || p n):=by
 rw [List.range_succ,List.any_append,List.any_cons,List.any_nil,Bool.or_false]
theorem Ud {p:Nat→Bool} {m n:Nat} (h:m≤n) (hn:(List.range n).all p=true):(List.range m).all p=true:=by
 rw [List.all_eq_true] at hn ⊢
 exact λ x hx=>hn x (List.mem_range.2 (by have:=List.mem_range.1 hx; omega))
theorem Tot.allI (n:Nat) (p:Nat→Bool) (e:R) (hend:Tot (λ k=>L (k+1) (n:Int)) (λ r=>r = .inr e))
  (Rq:∀ j,j<n→∀ (Q:Sum Bool R→Prop),(p j=false→Q (.inl false))→(p j=true→Tot (λ k=>L k ((j:Int)+1)) Q)→Tot (λ k=>L (k+1) (j:Int)) Q):
  Tot (λ k=>L k 0) (λ r=>r=bif (List.range n).all p then .inr e else .inl false):=by
 refine Tot.up (L:=λ k i (_:Unit)=>L k i) (Q:=λ r=>r=bif (List.range n).all p then .inr e else .inl false) n (λ j _=>(List.range j).all p=true) ?_ ?_ 0 () (Nat.zero_le _) rfl
 ·intro _ h
  rw [h]
  exact hend
 ·intro j _ hj h next
  refine Rq j hj _ (λ hp=>?_) (λ hp=>next () (by rw [P7,h,hp]; rfl))
  cases hc:(List.range n).all p with
  |false=>rfl
  |true=>
   have:=Ud (show j+1≤n by omega) hc
   rw [P7,hp,Bool.and_false] at this
   cases this
theorem Tot.anyI (n:Nat) (p:Nat→Bool) (e:R) (hend:Tot (λ k=>L (k+1) (n:Int)) (λ r=>r = .inr e))
  (Rq:∀ j,j<n→∀ (Q:Sum Bool R→Prop),(p j=true→Q (.inl true))→(p j=false→Tot (λ k=>L k ((j:Int)+1)) Q)→Tot (λ k=>L (k+1) (j:Int)) Q):
  Tot (λ k=>L k 0) (λ r=>r=bif (List.range n).any p then .inl true else .inr e):=by
 refine Tot.up (L:=λ k i (_:Unit)=>L k i) (Q:=λ r=>r=bif (List.range n).any p then .inl true else .inr e) n (λ j _=>(List.range j).any p=false) ?_ ?_ 0 () (Nat.zero_le _) rfl
 ·intro _ h
  rw [h]
  exact hend
 ·intro j _ hj h next
  refine Rq j hj _ (λ hp=>?_) (λ hp=>next () (by rw [Uc,h,hp]; rfl))
  rw [List.any_eq_true.2 ⟨j,List.mem_range.2 hj,hp⟩]
  rfl
end
theorem Ls {α:Type} (l:List α) (d:α) (p:α→Bool):l.all p=(List.range l.length).all λ j=>p (l.getD j d):=by
 rw [Bool.eq_iff_iff,List.all_eq_true,List.all_eq_true]
 constructor
 ·intro h j hj
  exact h _ (A7 (List.mem_range.1 hj))
 ·intro h x hx
  obtain ⟨j,hj,rfl⟩:=List.mem_iff_getElem.1 hx
  have:=h j (List.mem_range.2 hj)
  rwa [List.getD_eq_getElem?_getD,List.getElem?_eq_getElem hj,Option.getD_some] at this
theorem Ob {α:Type} (l:List α) (d:α) (p:α→Bool):l.any p=(List.range l.length).any λ j=>p (l.getD j d):=by
 rw [Bool.eq_iff_iff,List.any_eq_true,List.any_eq_true]
 constructor
 ·rintro ⟨x,hx,h⟩
  obtain ⟨j,hj,rfl⟩:=List.mem_iff_getElem.1 hx
  exact ⟨j,List.mem_range.2 hj,by rwa [List.getD_eq_getElem?_getD,List.getElem?_eq_getElem hj,Option.getD_some]⟩
 ·rintro ⟨j,hj,h⟩
  exact ⟨_,A7 (List.mem_range.1 hj),h⟩
abbrev Wri:=ByteArray×Fil×Bool
abbrev Wld:=List Dev×Rng×List Nod×Stp×List Wri×List ByteArray
def Nl:Wri:=((⟨#[]⟩:ByteArray),((((0:Int),((0:Int),(0:Int))),(false,[])),false))
def Tq (l:List ByteArray):Bool:=(List.range l.length).all λ j=>Mv (l.getD j U4)&&(decide (j=0) || tlt (l.getD (j - 1) U4) (l.getD j U4))
def Cxa (c:Stp) (w:Wri):Bool:=Mv w.1&&(Jv w.2.1 && !(sle c w.2.1.1))
def Pwa (c:Stp) (l:List Wri):Bool:=l.all (Cxa c)&&decide ((l.length:Int)≤200)
def Ri (l:List Dev) (ns:List Nod):Bool:=((ns.length:Int)==(l.length:Int))&&(List.range ns.length).all λ j=>((ns.getD j Lr).1==(l.getD j Mz).1)&&P6 (ns.getD j Lr)
def Cya (w:Wld):Bool:=Tp w.2.1 w.1&&(Ri w.1 w.2.2.1&&(Km w.2.2.2.1&&(Pwa w.2.2.2.1 w.2.2.2.2.1&&Tq w.2.2.2.2.2)))
def WIn (w:Wld):Prop:=RBd w.2.1∧w.1.length≤2000000∧(w.2.2.1.length≤2000000∧∀ n∈w.2.2.1,NIn n)∧(w.2.2.2.2.1.length≤2000000∧∀ x∈w.2.2.2.2.1,Rn x.1)∧(w.2.2.2.2.2.length≤2000000∧∀ s∈w.2.2.2.2.2,Rn s)
theorem Mua (w:Wld) (hw:WIn w):Tot (λ k=>Bf k w) (λ r=>r=Pwa w.2.2.2.1 w.2.2.2.2.1):=by
 obtain ⟨_,_,_,⟨h1,h2⟩,_⟩:=hw
 unfold Bf Pwa
 refine Tot.bind (Q:=λ r=>r=bif w.2.2.2.2.1.all (Cxa w.2.2.2.1) then .inr w else .inl false) ?_ (by
  rintro r rfl
  cases w.2.2.2.2.1.all (Cxa w.2.2.2.1)<;>exact Tot.pure rfl)
 rw [Ls _ Nl]
 refine Tot.allI (L:=λ k i=>C7 k w.2.2.2.2.1 (w.2.2.2.2.1.length:Int) i w) _ _ w ?_ ?_
 ·simp (disch:=omega) only [C7,dF]
  exact Tot.pure rfl
 ·intro j hj Q no yes
  have hs:=h2 _ (A7 (d:=Nl) hj)
  obtain ⟨x,ex⟩:∃ x:Wri,w.2.2.2.2.1.getD j Nl=x:=⟨_,rfl⟩
  rw [ex] at hs
  simp only [ex] at no yes
  have e0:w.2.2.2.2.1.getD j ((⟨#[]⟩:ByteArray),((((0:Int),((0:Int),(0:Int))),(false,[])),false))=x:=ex
  simp (disch:=omega) only [C7,dT,Int.toNat_natCast,w64,e0,Esa,Xj,Option.bind_some]
  unfold Cxa at no yes
  refine Tot.bind (S7 x.1 hs) ?_
  rintro b rfl
  refine Tot.ite (λ hc=>Tot.pure (no ?_)) (λ h3=>Tot.ite (λ hc=>Tot.pure (no ?_)) (λ h4=>Tot.ite (λ hc=>Tot.pure (no ?_)) (λ h5=>yes ?_)))
  ·rw [Bool.not_eq_true'] at hc; rw [hc]; rfl
  ·rw [Bool.not_eq_true'] at hc; rw [hc,Bool.false_and,Bool.and_false]
  ·rw [hc,Bool.not_true,Bool.and_false,Bool.and_false]
  ·rw [Bool.not_eq_false'] at h3 h4; rw [h3,h4,h5]; rfl
theorem Ata (w:Wld) (hw:WIn w):Tot (λ k=>Au k w.2.2.2.2.2 (w.2.2.2.2.2.length:Int) 0 w) (λ r=>r=bif Tq w.2.2.2.2.2 then .inr () else .inl false):=by
 obtain ⟨_,_,_,_,h1,h2⟩:=hw
 unfold Tq
 refine Tot.allI (L:=λ k i=>Au k w.2.2.2.2.2 (w.2.2.2.2.2.length:Int) i w) _ _ () ?_ ?_
 ·simp (disch:=omega) only [Au,dF]
  exact Tot.pure rfl
 ·intro j hj Q no yes
  have hs:=h2 _ (A7 (d:=U4) hj)
  have e0:∀ i,w.2.2.2.2.2.getD i (⟨#[]⟩:ByteArray)=w.2.2.2.2.2.getD i U4:=λ _=>rfl
  simp (disch:=omega) only [Au,dT,Int.toNat_natCast,w64,e0]
  refine Tot.bind (S7 _ hs) ?_
  rintro b rfl
  refine Tot.ite (λ hc=>Tot.pure (no ?_)) (λ h3=>Tot.dite (λ h0=>?_) (λ h0=>yes ?_))
  ·rw [Bool.not_eq_true'] at hc; rw [hc]; rfl
  ·simp (disch:=omega) only [dT,w64,show Int.toNat ((j:Int) - 1)=j - 1 by omega]
   rw [Bool.not_eq_false'] at h3
   rw [h3,decide_eq_false (show ¬ j=0 by omega),Bool.false_or,Bool.true_and] at no yes
   refine Tot.ite (λ hc=>Tot.pure (no ?_)) (λ h4=>yes ?_)
   ·rw [Bool.not_eq_true'] at hc; exact hc
   ·rw [Bool.not_eq_false'] at h4; exact h4
  ·rw [Bool.not_eq_false'] at h3
   rw [h3,decide_eq_true (show j=0 by omega)]
   rfl
theorem Aua (w:Wld) (hw:WIn w):Tot (λ k=>As k 0 w) (λ r=>r=bif Tq w.2.2.2.2.2 then .inr () else .inl false):=by
 obtain ⟨_,_,_,_,h1,h2⟩:=hw
 unfold Tq
 refine Tot.allI (L:=λ k i=>As k i w) _ _ () ?_ ?_
 ·simp (disch:=omega) only [As,dF]
  exact Tot.pure rfl
 ·intro j hj Q no yes
  have hs:=h2 _ (A7 (d:=U4) hj)
  have e0:∀ i,w.2.2.2.2.2.getD i (⟨#[]⟩:ByteArray)=w.2.2.2.2.2.getD i U4:=λ _=>rfl
  simp (disch:=omega) only [As,dT,Int.toNat_natCast,w64,e0]
  refine Tot.bind (S8 _ hs) ?_
  rintro b rfl
  refine Tot.ite (λ hc=>Tot.pure (no ?_)) (λ h3=>Tot.dite (λ h0=>?_) (λ h0=>yes ?_))
  ·rw [Bool.not_eq_true'] at hc; rw [hc]; rfl
  ·simp (disch:=omega) only [dT,w64,show Int.toNat ((j:Int) - 1)=j - 1 by omega]
   rw [Bool.not_eq_false'] at h3
   rw [h3,decide_eq_false (show ¬ j=0 by omega),Bool.false_or,Bool.true_and] at no yes
   refine Tot.ite (λ hc=>Tot.pure (no ?_)) (λ h4=>yes ?_)
   ·rw [Bool.not_eq_true'] at hc; exact hc
   ·rw [Bool.not_eq_false'] at h4; exact h4
  ·rw [Bool.not_eq_false'] at h3
   rw [h3,decide_eq_true (show j=0 by omega)]
   rfl
theorem Cza (w:Wld) (hw:WIn w) (hl:w.2.2.1.length=w.1.length):Tot (λ k=>C9 k w.2.2.1 (w.2.2.1.length:Int) 0 w) (λ r=>r=bif Ri w.1 w.2.2.1 then .inr w else .inl false):=by
 obtain ⟨_,_,⟨h1,h2⟩,_⟩:=hw
 unfold Ri
 rw [show ((w.2.2.1.length:Int)==(w.1.length:Int))=true by rw [beq_iff_eq]; omega,Bool.true_and]
 refine Tot.allI (L:=λ k i=>C9 k w.2.2.1 (w.2.2.1.length:Int) i w) _ _ w ?_ ?_
 ·simp (disch:=omega) only [C9,dF]
  exact Tot.pure rfl
 ·intro j hj Q no yes
  have hs:=h2 _ (A7 (d:=Lr) hj)
  obtain ⟨x,ex⟩:∃ x:Nod,w.2.2.1.getD j Lr=x:=⟨_,rfl⟩
  rw [ex] at hs no yes
  have e0:w.2.2.1.getD j ((0:Int),(([],[]),([],[])))=x:=ex
  have e1:w.1.getD j ((0:Int),((0:Int),(0:Int)))=w.1.getD j Mz:=rfl
  simp (disch:=omega) only [C9,dT,Int.toNat_natCast,w64,e0,e1]
  refine Tot.ite (λ hc=>Tot.pure (no ?_)) (λ h3=>Tot.bind (Mma x hs) ?_)
  ·rw [bne,Bool.not_eq_true'] at hc; rw [hc]; rfl
  ·rw [bne,Bool.not_eq_false'] at h3
   rw [h3,Bool.true_and] at no yes
   rintro b rfl
   refine Tot.ite (λ hc=>Tot.pure (no ?_)) (λ h4=>yes ?_)
   ·rw [Bool.not_eq_true'] at hc; exact hc
   ·rw [Bool.not_eq_false'] at h4; exact h4
theorem Mva (w:Wld) (hw:WIn w):Tot (λ k=>Bc k w) (λ r=>r=Ri w.1 w.2.2.1):=by
 obtain ⟨_,_,⟨h1,h2⟩,_⟩:=hw
 unfold Ri Bc
 refine Tot.ite (λ hc=>Tot.pure ?_) (λ hl=>?_)
 ·rw [bne,Bool.not_eq_true'] at hc
  rw [hc]; rfl
 ·rw [bne,Bool.not_eq_false'] at hl
  rw [hl,Bool.true_and]
  rw [beq_iff_eq] at hl
  refine Tot.bind (Q:=λ r=>r=bif (List.range w.2.2.1.length).all (λ j=>((w.2.2.1.getD j Lr).1==(w.1.getD j Mz).1)&&P6 (w.2.2.1.getD j Lr)) then .inr () else .inl false) ?_ (by
   rintro r rfl
   cases (List.range w.2.2.1.length).all (λ j=>((w.2.2.1.getD j Lr).1==(w.1.getD j Mz).1)&&P6 (w.2.2.1.getD j Lr))<;>exact Tot.pure rfl)
  refine Tot.allI (L:=λ k i=>C2 k i w) _ _ () ?_ ?_
  ·simp (disch:=omega) only [C2,dF]
   exact Tot.pure rfl
  ·intro j hj Q no yes
   have hs:=h2 _ (A7 (d:=Lr) hj)
   obtain ⟨x,ex⟩:∃ x:Nod,w.2.2.1.getD j Lr=x:=⟨_,rfl⟩
   rw [ex] at hs no yes
   have e0:w.2.2.1.getD j ((0:Int),(([],[]),([],[])))=x:=ex
   have e1:w.1.getD j ((0:Int),((0:Int),(0:Int)))=w.1.getD j Mz:=rfl
   simp (disch:=omega) only [C2,dT,Int.toNat_natCast,w64,e0,e1]
   refine Tot.ite (λ hc=>Tot.pure (no ?_)) (λ h3=>Tot.bind (Mna x hs) ?_)
   ·rw [bne,Bool.not_eq_true'] at hc; rw [hc]; rfl
   ·rw [bne,Bool.not_eq_false'] at h3
    rw [h3,Bool.true_and] at no yes
    rintro b rfl
    refine Tot.ite (λ hc=>Tot.pure (no ?_)) (λ h4=>yes ?_)
    ·rw [Bool.not_eq_true'] at hc; exact hc
    ·rw [Bool.not_eq_false'] at h4; exact h4
theorem Jpa (w:Wld) (hw:WIn w):Tot (λ k=>B9 k w) (λ r=>r=Cya w):=by
 unfold B9 Cya
 refine Tot.bind (Mra w.2.1 w.1 hw.1 (by have:=hw.2.1; omega)) ?_
 rintro b rfl
 cases hr:Tp w.2.1 w.1 with
 |false=>exact Tot.yes rfl (Tot.pure rfl)
 |true=>
  refine Tot.no rfl ?_
  rw [Bool.true_and]
  by_cases hl:w.2.2.1.length=w.1.length
  ·refine Tot.no (by rw [bne,hl,beq_self_eq_true]; rfl) ?_
   simp only [Tf,Option.bind_some]
   cases hs:Km w.2.2.2.1 with
   |false=>exact Tot.yes rfl (Tot.pure (by rw [Bool.false_and,Bool.and_false]))
   |true=>
    refine Tot.no rfl (Tot.bind (Mua w hw) ?_)
    rintro b rfl
    cases hws:Pwa w.2.2.2.1 w.2.2.2.2.1 with
    |false=>exact Tot.yes rfl (Tot.pure (by rw [Bool.false_and,Bool.and_false,Bool.and_false]))
    |true=>
     refine Tot.no rfl (Tot.bind (Cza w hw hl) ?_)
     rintro b rfl
     cases Ri w.1 w.2.2.1 with
     |false=>exact Tot.pure rfl
     |true=>
      refine Tot.bind (Ata w hw) ?_
      rintro b rfl
      cases Tq w.2.2.2.2.2<;>exact Tot.pure rfl
  ·have hn:((w.2.2.1.length:Int)==(w.1.length:Int))=false:=by rw [beq_eq_false_iff_ne]; omega
   refine Tot.yes (by rw [bne,hn]; rfl) (Tot.pure ?_)
   unfold Ri
   rw [hn]
   rfl
theorem Jqa (w:Wld) (hw:WIn w):Tot (λ k=>B7 k w) (λ r=>r=Cya w):=by
 have hw':=hw
 obtain ⟨_,_,_,⟨h1,h2⟩,_⟩:=hw'
 unfold B7 Cya
 refine Tot.bind (Msa w.2.1 w.1 hw.1 (by have:=hw.2.1; omega)) ?_
 rintro b rfl
 cases hr:Tp w.2.1 w.1 with
 |false=>exact Tot.yes rfl (Tot.pure rfl)
 |true=>
  refine Tot.no rfl (Tot.bind (Mva w hw) ?_)
  rintro b rfl
  rw [Bool.true_and]
  cases hn:Ri w.1 w.2.2.1 with
  |false=>exact Tot.yes rfl (Tot.pure rfl)
  |true=>
   refine Tot.no rfl ?_
   simp only [Tg,Option.bind_some]
   cases hs:Km w.2.2.2.1 with
   |false=>exact Tot.yes rfl (Tot.pure rfl)
   |true=>
    refine Tot.no rfl ?_
    by_cases hl:(w.2.2.2.2.1.length:Int) > 200
    ·refine Tot.dec hl (Tot.pure ?_)
     unfold Pwa
     rw [decide_eq_false (show ¬ (w.2.2.2.2.1.length:Int)≤200 by omega),Bool.and_false]
     rfl
    ·refine Tot.ndec hl (Tot.bind (Q:=λ r=>r=bif w.2.2.2.2.1.all (Cxa w.2.2.2.1) then .inr w else .inl false) ?_ ?_)
     ·rw [Ls _ Nl]
      refine Tot.allI (L:=λ k i=>Da k i w) _ _ w ?_ ?_
      ·simp (disch:=omega) only [Da,dF]
       exact Tot.pure rfl
      ·intro j hj Q no yes
       have hs:=h2 _ (A7 (d:=Nl) hj)
       obtain ⟨x,ex⟩:∃ x:Wri,w.2.2.2.2.1.getD j Nl=x:=⟨_,rfl⟩
       rw [ex] at hs
       simp only [ex] at no yes
       have e0:w.2.2.2.2.1.getD j ((⟨#[]⟩:ByteArray),((((0:Int),((0:Int),(0:Int))),(false,[])),false))=x:=ex
       simp (disch:=omega) only [Da,dT,Int.toNat_natCast,w64,e0,Xm,Xi,Option.bind_some]
       unfold Cxa at no yes
       refine Tot.bind (S8 x.1 hs) ?_
       rintro b rfl
       refine Tot.ite (λ hc=>Tot.pure (no ?_)) (λ h3=>Tot.ite (λ hc=>Tot.pure (no ?_)) (λ h4=>Tot.ite (λ hc=>Tot.pure (no ?_)) (λ h5=>yes ?_)))
       ·rw [Bool.not_eq_true'] at hc; rw [hc]; rfl
       ·rw [Bool.not_eq_true'] at hc; rw [hc,Bool.false_and,Bool.and_false]
       ·rw [hc,Bool.not_true,Bool.and_false,Bool.and_false]
       ·rw [Bool.not_eq_false'] at h3 h4; rw [h3,h4,h5]; rfl
     ·rintro b rfl
      unfold Pwa
      rw [decide_eq_true (show (w.2.2.2.2.1.length:Int)≤200 by omega),Bool.and_true]
      cases w.2.2.2.2.1.all (Cxa w.2.2.2.1) with
      |false=>exact Tot.pure rfl
      |true=>
       refine Tot.bind (Aua w hw) ?_
       rintro b rfl
       cases Tq w.2.2.2.2.2<;>exact Tot.pure rfl

def quo (n:Int):Int:=n / 2+1

def R8 (a b:Fil):Bool:=((a.1.1==b.1.1)&&((a.1.2.1==b.1.2.1)&&(a.1.2.2==b.1.2.2)))&&((a.2.1==b.2.1)&&((Jt a.2.2).toList==(Jt b.2.2).toList))
theorem Jra (a b:Fil):Cw a b=some (R8 a b):=by
 unfold Cw R8
 cases (a.1.1==b.1.1)&&((a.1.2.1==b.1.2.1)&&(a.1.2.2==b.1.2.2))<;>cases a.2.1==b.2.1<;>rfl
theorem Jsa (a b:Fil):G6 a b=some (R8 a b):=by
 unfold G6 R8
 cases (a.1.1==b.1.1)&&((a.1.2.1==b.1.2.1)&&(a.1.2.2==b.1.2.2))<;>cases a.2.1==b.2.1<;>rfl
def Jta (ws:List Wri) (s:ByteArray) (f:Fil):Bool:=ws.any λ x=>teq x.1 s&&R8 x.2.1 f
theorem Jua (w:Wld) (s:ByteArray) (f:Fil) (h:w.2.2.2.2.1.length≤2000000):Tot (λ k=>Ar k w s f) (λ r=>r=Jta w.2.2.2.2.1 s f):=by
 unfold Ar Jta
 refine Tot.bind (Q:=λ r=>r=bif w.2.2.2.2.1.any (λ x=>teq x.1 s&&R8 x.2.1 f) then .inl true else .inr ()) ?_ (by
  rintro r rfl
  cases w.2.2.2.2.1.any (λ x=>teq x.1 s&&R8 x.2.1 f)<;>exact Tot.pure rfl)
 rw [Ob _ Nl]
 refine Tot.anyI (L:=λ k i=>Aw k s w.2.2.2.2.1 (w.2.2.2.2.1.length:Int) i f) _ _ () ?_ ?_
 ·simp (disch:=omega) only [Aw,dF]
  exact Tot.pure rfl
 ·intro j hj Q yes no
  obtain ⟨x,ex⟩:∃ x:Wri,w.2.2.2.2.1.getD j Nl=x:=⟨_,rfl⟩
  simp only [ex] at no yes
  have e0:w.2.2.2.2.1.getD j ((⟨#[]⟩:ByteArray),((((0:Int),((0:Int),(0:Int))),(false,[])),false))=x:=ex
  simp (disch:=omega) only [Aw,dT,Int.toNat_natCast,w64,e0,Jra,Option.bind_some]
  refine Tot.ite (λ h1=>Tot.ite (λ h2=>Tot.pure (yes ?_)) (λ h2=>no ?_)) (λ h1=>no ?_)
  ·show ((x.1.toList==s.toList)&&R8 x.2.1 f)=true
   rw [h1,h2]; rfl
  ·rw [h2,Bool.and_false]
  ·show ((x.1.toList==s.toList)&&R8 x.2.1 f)=false
   rw [h1]; rfl
theorem Jva (w:Wld) (s:ByteArray) (f:Fil) (h:w.2.2.2.2.1.length≤2000000):Tot (λ k=>Bd k w s f) (λ r=>r=Jta w.2.2.2.2.1 s f):=by
 unfold Bd Jta
 refine Tot.bind (Q:=λ r=>r=bif w.2.2.2.2.1.any (λ x=>teq x.1 s&&R8 x.2.1 f) then .inl true else .inr ()) ?_ (by
  rintro r rfl
  cases w.2.2.2.2.1.any (λ x=>teq x.1 s&&R8 x.2.1 f)<;>exact Tot.pure rfl)
 rw [Ob _ Nl]
 refine Tot.anyI (L:=λ k i=>Bh k s i w f) _ _ () ?_ ?_
 ·simp (disch:=omega) only [Bh,dF]
  exact Tot.pure rfl
 ·intro j hj Q yes no
  obtain ⟨x,ex⟩:∃ x:Wri,w.2.2.2.2.1.getD j Nl=x:=⟨_,rfl⟩
  simp only [ex] at no yes
  have e0:w.2.2.2.2.1.getD j ((⟨#[]⟩:ByteArray),((((0:Int),((0:Int),(0:Int))),(false,[])),false))=x:=ex
  simp (disch:=omega) only [Bh,dT,Int.toNat_natCast,w64,e0,Jsa,Option.bind_some]
  refine Tot.ite (λ h1=>Tot.ite (λ h2=>Tot.pure (yes ?_)) (λ h2=>no ?_)) (λ h1=>no ?_)
  ·show ((x.1.toList==s.toList)&&R8 x.2.1 f)=true
   rw [h1,h2]; rfl
  ·rw [h2,Bool.and_false]
  ·show ((x.1.toList==s.toList)&&R8 x.2.1 f)=false
   rw [h1]; rfl
def Ava (ws:List Wri) (e:Nmd):Bool:=match Xn e.2 with
 |none=>true
 |some f=>Jta ws e.1 f
def Nh (w:Wld):Bool:=(List.range w.2.2.1.length).all λ j=>(w.2.2.1.getD j Lr).2.1.1.all (Ava w.2.2.2.2.1)&&(w.2.2.1.getD j Lr).2.1.2.all (Ava w.2.2.2.2.1)
theorem V5 (w:Wld) (l:List Nmd) (h:w.2.2.2.2.1.length≤2000000) (hf:R1a l) (hb:LB l):Tot (λ k=>Bw k w l) (λ r=>r=l.all (Ava w.2.2.2.2.1)):=by
 have hl:=hf.1
 unfold Bw
 refine Tot.bind (Q:=λ r=>r=bif l.all (Ava w.2.2.2.2.1) then .inr () else .inl false) ?_ (by
  rintro r rfl
  cases l.all (Ava w.2.2.2.2.1)<;>exact Tot.pure rfl)
 rw [Ls _ La]
 refine Tot.allI (L:=λ k i=>C3 k l i w) _ _ () ?_ ?_
 ·simp (disch:=omega) only [C3,dF]
  exact Tot.pure rfl
 ·intro j hj Q no yes
  have hm:=A7 (d:=La) hj
  obtain ⟨x,ex⟩:∃ x:Nmd,l.getD j La=x:=⟨_,rfl⟩
  rw [ex] at hm
  simp only [ex] at no yes
  have e0:l.getD j ((⟨#[]⟩:ByteArray),[])=x:=ex
  simp (disch:=omega) only [C3,dT,Int.toNat_natCast,w64,e0]
  refine Tot.bind (Tn x.2 (hb x hm) (hf.2 x hm)) ?_
  rintro r rfl
  unfold Ava at no yes
  unfold R7
  cases hg:Xn x.2 with
  |none=>rw [hg] at yes; exact Tot.no rfl (yes rfl)
  |some f=>
   rw [hg] at yes no
   refine Tot.yes rfl (Tot.bind (Jva w x.1 f h) ?_)
   rintro b rfl
   refine Tot.ite (λ hc=>Tot.pure (no ?_)) (λ hc=>yes ?_)
   ·rw [Bool.not_eq_true'] at hc; exact hc
   ·rw [Bool.not_eq_false'] at hc; exact hc
theorem D0a (w:Wld) (hw:WIn w):Tot (λ k=>Ck k w) (λ r=>r=Nh w):=by
 obtain ⟨_,_,⟨h1,h2⟩,⟨h3,_⟩,_⟩:=hw
 unfold Ck Nh
 refine Tot.bind (Q:=λ r=>r=bif (List.range w.2.2.1.length).all (λ j=>(w.2.2.1.getD j Lr).2.1.1.all (Ava w.2.2.2.2.1)&&(w.2.2.1.getD j Lr).2.1.2.all (Ava w.2.2.2.2.1)) then .inr () else .inl false) ?_ (by
  rintro r rfl
  cases (List.range w.2.2.1.length).all (λ j=>(w.2.2.1.getD j Lr).2.1.1.all (Ava w.2.2.2.2.1)&&(w.2.2.1.getD j Lr).2.1.2.all (Ava w.2.2.2.2.1))<;>exact Tot.pure rfl)
 refine Tot.allI (L:=λ k i=>Dc k i w) _ _ () ?_ ?_
 ·simp (disch:=omega) only [Dc,dF]
  exact Tot.pure rfl
 ·intro j hj Q no yes
  have hm:=h2 _ (A7 (d:=Lr) hj)
  obtain ⟨x,ex⟩:∃ x:Nod,w.2.2.1.getD j Lr=x:=⟨_,rfl⟩
  rw [ex] at hm no yes
  have e0:w.2.2.1.getD j ((0:Int),(([],[]),([],[])))=x:=ex
  obtain ⟨⟨⟨⟨f1,f2⟩,_⟩,_⟩,b1,b2⟩:=hm.1
  simp (disch:=omega) only [Dc,dT,Int.toNat_natCast,w64,e0]
  refine Tot.bind (V5 w x.2.1.1 h3 f1 b1) ?_
  rintro r rfl
  refine Tot.ite (λ hc=>Tot.pure (no ?_)) (λ hc=>Tot.bind (V5 w x.2.1.2 h3 f2 b2) ?_)
  ·rw [Bool.not_eq_true'] at hc; rw [hc,Bool.false_and]
  ·rw [Bool.not_eq_false'] at hc
   rw [hc,Bool.true_and] at no yes
   rintro r rfl
   refine Tot.ite (λ hc=>Tot.pure (no ?_)) (λ hc=>yes ?_)
   ·rw [Bool.not_eq_true'] at hc; exact hc
   ·rw [Bool.not_eq_false'] at hc; exact hc
theorem D1a (w:Wld) (hw:WIn w):Tot (λ k=>Ba k w) (λ r=>r=Nh w):=by
 obtain ⟨_,_,⟨h1,h2⟩,⟨h3,_⟩,_⟩:=hw
 unfold Ba Nh
 refine Tot.bind (Q:=λ r=>r=bif (List.range w.2.2.1.length).all (λ j=>(w.2.2.1.getD j Lr).2.1.1.all (Ava w.2.2.2.2.1)&&(w.2.2.1.getD j Lr).2.1.2.all (Ava w.2.2.2.2.1)) then .inr () else .inl false) ?_ (by
  rintro r rfl
  cases (List.range w.2.2.1.length).all (λ j=>(w.2.2.1.getD j Lr).2.1.1.all (Ava w.2.2.2.2.1)&&(w.2.2.1.getD j Lr).2.1.2.all (Ava w.2.2.2.2.1))<;>exact Tot.pure rfl)
 refine Tot.allI (L:=λ k i=>Dj k w.2.2.1 (w.2.2.1.length:Int) i w) _ _ () ?_ ?_
 ·simp (disch:=omega) only [Dj,dF]
  exact Tot.pure rfl
 ·intro j hj Q no yes
  have hm:=h2 _ (A7 (d:=Lr) hj)
  obtain ⟨x,ex⟩:∃ x:Nod,w.2.2.1.getD j Lr=x:=⟨_,rfl⟩
  rw [ex] at hm no yes
  have e0:w.2.2.1.getD j ((0:Int),(([],[]),([],[])))=x:=ex
  obtain ⟨⟨⟨⟨f1,f2⟩,_⟩,l1,l2⟩,b1,b2⟩:=hm.1
  have n0:([]:List (ByteArray×(List Int))).length=0:=rfl
  simp (disch:=omega) only [Dj,dT,Int.toNat_natCast,w64,e0,List.nil_append]
  refine Tot.ble (by rw [n0]; omega) (Tot.ble (by omega) ?_)
  rw [← List.all_append] at no yes
  have hf:R1a (x.2.1.1++x.2.1.2):=⟨by rw [List.length_append]; omega,λ y hy=>(List.mem_append.1 hy).elim (f1.2 y) (f2.2 y)⟩
  have hb:LB (x.2.1.1++x.2.1.2):=λ y hy=>(List.mem_append.1 hy).elim (b1 y) (b2 y)
  have hl:(x.2.1.1++x.2.1.2).length≤4000000:=by rw [List.length_append]; omega
  generalize x.2.1.1++x.2.1.2=l at *
  refine Tot.bind (Q:=λ r=>r=bif l.all (Ava w.2.2.2.2.1) then .inr (w.2.2.1,(w.2.2.1.length:Int),(j:Int),w) else .inl false) ?_ ?_
  ·rw [Ls _ La]
   refine Tot.allI (L:=λ k i=>Ca k w.2.2.1 (w.2.2.1.length:Int) (j:Int) l (l.length:Int) i w) _ _ (w.2.2.1,(w.2.2.1.length:Int),(j:Int),w) ?_ ?_
   ·simp (disch:=omega) only [Ca,dF]
    exact Tot.pure rfl
   ·intro j hj Q no yes
    have hm:=A7 (d:=La) hj
    obtain ⟨x,ex⟩:∃ x:Nmd,l.getD j La=x:=⟨_,rfl⟩
    rw [ex] at hm
    simp only [ex] at no yes
    have e0:l.getD j ((⟨#[]⟩:ByteArray),[])=x:=ex
    simp (disch:=omega) only [Ca,dT,Int.toNat_natCast,w64,e0]
    refine Tot.bind (Tm x.2 (hb x hm) (hf.2 x hm)) ?_
    rintro r rfl
    unfold Ava at no yes
    unfold R7
    cases hg:Xn x.2 with
    |none=>rw [hg] at yes; exact Tot.no rfl (yes rfl)
    |some f=>
     rw [hg] at yes no
     refine Tot.yes rfl (Tot.bind (Jua w x.1 f h3) ?_)
     rintro b rfl
     refine Tot.ite (λ hc=>Tot.pure (no ?_)) (λ hc=>yes ?_)
     ·rw [Bool.not_eq_true'] at hc; exact hc
     ·rw [Bool.not_eq_false'] at hc; exact hc
  ·rintro r rfl
   cases hc:l.all (Ava w.2.2.2.2.1) with
   |false=>exact Tot.pure (no hc)
   |true=>
    simp (disch:=omega) only [cond_true,Sum.elim_inr,w64]
    exact yes hc

def Pja (a b:Row):Bool:=(a.1==b.1)&&((a.2.1.1==b.2.1.1)&&((a.2.1.2.1==b.2.1.2.1)&&((a.2.1.2.2==b.2.1.2.2)&&((a.2.2.1==b.2.2.1)&&(a.2.2.2==b.2.2.2)))))
def Mg (ws:List Wri) (r:Row):Bool:=ws.any λ x=>Pja (Pfa x.1 x.2.1) r
def Pl (w:Wld):Bool:=(List.range w.2.2.1.length).all λ j=>(w.2.2.1.getD j Lr).2.2.1.all (Mg w.2.2.2.2.1)&&(w.2.2.1.getD j Lr).2.2.2.all (Mg w.2.2.2.2.1)
def Baa:Row:=((⟨#[]⟩:ByteArray),(((0:Int),((0:Int),(0:Int))),(false,(0:Int))))
theorem D2a (w:Wld) (l:List Row) (i:Nat) (hi:i<l.length) (h:w.2.2.2.2.1.length≤2000000):Tot (λ k=>Ay k l (i:Int) false 0 w) (λ r=>r=(l,(i:Int),Mg w.2.2.2.2.1 (l.getD i Baa),w)):=by
 refine Tot.up (L:=λ k i' (s:Bool)=>Ay k l (i:Int) s i' w) (Q:=λ r=>r=(l,(i:Int),Mg w.2.2.2.2.1 (l.getD i Baa),w)) w.2.2.2.2.1.length (λ j s=>(s || (w.2.2.2.2.1.drop j).any λ x=>Pja (Pfa x.1 x.2.1) (l.getD i Baa))=Mg w.2.2.2.2.1 (l.getD i Baa)) ?_ ?_ 0 false (Nat.zero_le _) (Bool.false_or _)
 ·intro s hs
  rw [List.drop_length,List.any_nil,Bool.or_false] at hs
  simp (disch:=omega) only [Ay,dF]
  exact Tot.pure (by rw [hs])
 ·intro j s hj hs next
  cases s with
  |true=>
   rw [Bool.true_or] at hs
   simp (disch:=omega) only [Ay,dT,w64,cond_true]
   exact next true (by rw [Bool.true_or]; exact hs)
  |false=>
   rw [Fm (d:=Nl) hj,List.any_cons,Bool.false_or] at hs
   obtain ⟨x,ex⟩:∃ x:Wri,w.2.2.2.2.1.getD j Nl=x:=⟨_,rfl⟩
   rw [ex] at hs
   have e0:w.2.2.2.2.1.getD j ((⟨#[]⟩:ByteArray),((((0:Int),((0:Int),(0:Int))),(false,[])),false))=x:=ex
   have e1:l.getD i ((⟨#[]⟩:ByteArray),(((0:Int),((0:Int),(0:Int))),(false,(0:Int))))=l.getD i Baa:=rfl
   simp (disch:=omega) only [Ay,dT,Int.toNat_natCast,w64,e0,e1,cond_false,Jn,Option.bind_some]
   exact next _ hs
theorem V6 (w:Wld) (l:List Row) (h:w.2.2.2.2.1.length≤2000000) (hl:l.length≤4000000000000):Tot (λ k=>Az k w l) (λ r=>r=l.all (Mg w.2.2.2.2.1)):=by
 unfold Az
 refine Tot.bind (Q:=λ r=>r=bif l.all (Mg w.2.2.2.2.1) then .inr () else .inl false) ?_ (by
  rintro r rfl
  cases l.all (Mg w.2.2.2.2.1)<;>exact Tot.pure rfl)
 rw [Ls _ Baa]
 refine Tot.allI (L:=λ k i=>Dd k l i w) _ _ () ?_ ?_
 ·simp (disch:=omega) only [Dd,dF]
  exact Tot.pure rfl
 ·intro j hj Q no yes
  simp (disch:=omega) only [Dd,dT]
  refine Tot.bind (D2a w l j hj h) ?_
  rintro r rfl
  simp (disch:=omega) only [w64]
  refine Tot.ite (λ hc=>Tot.pure (no ?_)) (λ hc=>yes ?_)
  ·rw [Bool.not_eq_true'] at hc; exact hc
  ·rw [Bool.not_eq_false'] at hc; exact hc
theorem G2a (w:Wld) (hw:WIn w):Tot (λ k=>Eg k w) (λ r=>r=Pl w):=by
 obtain ⟨_,_,⟨h1,h2⟩,⟨h3,_⟩,_⟩:=hw
 unfold Eg Pl
 refine Tot.bind (Q:=λ r=>r=bif (List.range w.2.2.1.length).all (λ j=>(w.2.2.1.getD j Lr).2.2.1.all (Mg w.2.2.2.2.1)&&(w.2.2.1.getD j Lr).2.2.2.all (Mg w.2.2.2.2.1)) then .inr () else .inl false) ?_ (by
  rintro r rfl
  cases (List.range w.2.2.1.length).all (λ j=>(w.2.2.1.getD j Lr).2.2.1.all (Mg w.2.2.2.2.1)&&(w.2.2.1.getD j Lr).2.2.2.all (Mg w.2.2.2.2.1))<;>exact Tot.pure rfl)
 refine Tot.allI (L:=λ k i=>F3 k i w) _ _ () ?_ ?_
 ·simp (disch:=omega) only [F3,dF]
  exact Tot.pure rfl
 ·intro j hj Q no yes
  have hm:=h2 _ (A7 (d:=Lr) hj)
  obtain ⟨x,ex⟩:∃ x:Nod,w.2.2.1.getD j Lr=x:=⟨_,rfl⟩
  rw [ex] at hm no yes
  have e0:w.2.2.1.getD j ((0:Int),(([],[]),([],[])))=x:=ex
  obtain ⟨_,f1,f2⟩:=hm
  have g1:=f1.1
  have g2:=f2.1
  simp (disch:=omega) only [F3,dT,Int.toNat_natCast,w64,e0]
  refine Tot.bind (V6 w x.2.2.1 h3 (by omega)) ?_
  rintro r rfl
  refine Tot.ite (λ hc=>Tot.pure (no ?_)) (λ hc=>Tot.bind (V6 w x.2.2.2 h3 (by omega)) ?_)
  ·rw [Bool.not_eq_true'] at hc; rw [hc,Bool.false_and]
  ·rw [Bool.not_eq_false'] at hc
   rw [hc,Bool.true_and] at no yes
   rintro r rfl
   refine Tot.ite (λ hc=>Tot.pure (no ?_)) (λ hc=>yes ?_)
   ·rw [Bool.not_eq_true'] at hc; exact hc
   ·rw [Bool.not_eq_false'] at hc; exact hc
theorem Xo (w:Wld) (ns:List Nod) (n m:Int) (l:List Row) (len i:Int) (r0:Row) (h:w.2.2.2.2.1.length≤2000000):Tot (λ k=>Br k false ns n m l len i w.2.2.2.2.1 (w.2.2.2.2.1.length:Int) 0 w r0) (λ r=>r=(Mg w.2.2.2.2.1 r0,ns,n,m,l,len,i,w)):=by
 refine Tot.up (L:=λ k i' (s:Bool)=>Br k s ns n m l len i w.2.2.2.2.1 (w.2.2.2.2.1.length:Int) i' w r0) (Q:=λ r=>r=(Mg w.2.2.2.2.1 r0,ns,n,m,l,len,i,w)) w.2.2.2.2.1.length (λ j s=>(s || (w.2.2.2.2.1.drop j).any λ x=>Pja (Pfa x.1 x.2.1) r0)=Mg w.2.2.2.2.1 r0) ?_ ?_ 0 false (Nat.zero_le _) (Bool.false_or _)
 ·intro s hs
  rw [List.drop_length,List.any_nil,Bool.or_false] at hs
  simp (disch:=omega) only [Br,dF]
  exact Tot.pure (by rw [hs])
 ·intro j s hj hs next
  cases s with
  |true=>
   rw [Bool.true_or] at hs
   simp (disch:=omega) only [Br,dT,w64,cond_true]
   exact next true (by rw [Bool.true_or]; exact hs)
  |false=>
   rw [Fm (d:=Nl) hj,List.any_cons,Bool.false_or] at hs
   obtain ⟨x,ex⟩:∃ x:Wri,w.2.2.2.2.1.getD j Nl=x:=⟨_,rfl⟩
   rw [ex] at hs
   have e0:w.2.2.2.2.1.getD j ((⟨#[]⟩:ByteArray),((((0:Int),((0:Int),(0:Int))),(false,[])),false))=x:=ex
   simp (disch:=omega) only [Br,dT,Int.toNat_natCast,w64,e0,cond_false,Jq,Option.bind_some]
   exact next _ hs
theorem G3a (w:Wld) (hw:WIn w):Tot (λ k=>Bo k w) (λ r=>r=Pl w):=by
 obtain ⟨_,_,⟨h1,h2⟩,⟨h3,_⟩,_⟩:=hw
 unfold Bo Pl
 refine Tot.bind (Q:=λ r=>r=bif (List.range w.2.2.1.length).all (λ j=>(w.2.2.1.getD j Lr).2.2.1.all (Mg w.2.2.2.2.1)&&(w.2.2.1.getD j Lr).2.2.2.all (Mg w.2.2.2.2.1)) then .inr () else .inl false) ?_ (by
  rintro r rfl
  cases (List.range w.2.2.1.length).all (λ j=>(w.2.2.1.getD j Lr).2.2.1.all (Mg w.2.2.2.2.1)&&(w.2.2.1.getD j Lr).2.2.2.all (Mg w.2.2.2.2.1))<;>exact Tot.pure rfl)
 refine Tot.allI (L:=λ k i=>Fg k w.2.2.1 (w.2.2.1.length:Int) i w) _ _ () ?_ ?_
 ·simp (disch:=omega) only [Fg,dF]
  exact Tot.pure rfl
 ·intro j hj Q no yes
  have hm:=h2 _ (A7 (d:=Lr) hj)
  obtain ⟨x,ex⟩:∃ x:Nod,w.2.2.1.getD j Lr=x:=⟨_,rfl⟩
  rw [ex] at hm no yes
  have e0:w.2.2.1.getD j ((0:Int),(([],[]),([],[])))=x:=ex
  obtain ⟨_,f1,f2⟩:=hm
  have g1:=f1.1
  have g2:=f2.1
  have ec:Gb x.2.2.1=some x.2.2.1:=by
   unfold Gb
   rw [bT (by simp only [List.length_nil]; omega),List.nil_append]
  simp (disch:=omega) only [Fg,dT,Int.toNat_natCast,w64,e0,ec,Option.bind_some]
  refine Tot.ble (by omega) ?_
  rw [← List.all_append] at no yes
  have hl:(x.2.2.1++x.2.2.2).length≤4000000:=by rw [List.length_append]; omega
  generalize x.2.2.1++x.2.2.2=l at *
  refine Tot.bind (Q:=λ r=>r=bif l.all (Mg w.2.2.2.2.1) then .inr (w.2.2.1,(w.2.2.1.length:Int),(j:Int),w) else .inl false) ?_ ?_
  ·rw [Ls _ Baa]
   refine Tot.allI (L:=λ k i=>Ff k w.2.2.1 (w.2.2.1.length:Int) (j:Int) l (l.length:Int) i w) _ _ (w.2.2.1,(w.2.2.1.length:Int),(j:Int),w) ?_ ?_
   ·simp (disch:=omega) only [Ff,dF]
    exact Tot.pure rfl
   ·intro i hi Q no yes
    have e1:l.getD i ((⟨#[]⟩:ByteArray),(((0:Int),((0:Int),(0:Int))),(false,(0:Int))))=l.getD i Baa:=rfl
    simp (disch:=omega) only [Ff,dT,Int.toNat_natCast,e1]
    refine Tot.bind (Xo w _ _ _ l _ _ (l.getD i Baa) h3) ?_
    rintro r rfl
    simp (disch:=omega) only [w64]
    refine Tot.ite (λ hc=>Tot.pure (no ?_)) (λ hc=>yes ?_)
    ·rw [Bool.not_eq_true'] at hc; exact hc
    ·rw [Bool.not_eq_false'] at hc; exact hc
  ·rintro r rfl
   cases hc:l.all (Mg w.2.2.2.2.1) with
   |false=>exact Tot.pure (no hc)
   |true=>
    simp (disch:=omega) only [cond_true,Sum.elim_inr,w64]
    exact yes hc
def Xp (s:ByteArray) (st:Stp) (n:Nod):Bool:=match gt n.2.1.2 s with
 |none=>false
 |some b=>match Xn b with
  |none=>false
  |some f => !(sle f.1 st)
def D3a (w:Wld) (x:Wri):Bool := !x.2.2 || (Goa w.2.2.2.2.2 x.1 || w.2.2.1.any (Xp x.1 x.2.1.1))
def D4a (w:Wld):Bool:=w.2.2.2.2.1.all (D3a w)
theorem Jwa (l:List Nmd) (s:ByteArray):(Nsa l s<0∧gt l s=none)∨∃ i:Nat,Nsa l s=(i:Int)∧i<l.length∧gt l s=some (l.getD i La).2:=by
 unfold Nsa gt
 cases h:fnd l s with
 |none=>exact .inl ⟨by decide,rfl⟩
 |some i=>
  obtain ⟨hi,_⟩:=List.findIdx?_eq_some_iff_getElem.1 h
  exact .inr ⟨i,rfl,hi,rfl⟩
theorem Jxa (w:Wld) (hw:WIn w) (s:ByteArray) (st:Stp):Tot (λ k=>Gi k w s st) (λ r=>r=w.2.2.1.any (Xp s st)):=by
 obtain ⟨_,_,⟨h1,h2⟩,⟨h3,_⟩,_⟩:=hw
 unfold Gi
 refine Tot.bind (Q:=λ r=>r=bif w.2.2.1.any (Xp s st) then .inl true else .inr ()) ?_ (by
  rintro r rfl
  cases w.2.2.1.any (Xp s st)<;>exact Tot.pure rfl)
 rw [Ob _ Lr]
 refine Tot.anyI (L:=λ k i=>E8 k s w.2.2.1 (w.2.2.1.length:Int) i st) _ _ () ?_ ?_
 ·simp (disch:=omega) only [E8,dF]
  exact Tot.pure rfl
 ·intro j hj Q yes no
  have hm:=h2 _ (A7 (d:=Lr) hj)
  obtain ⟨x,ex⟩:∃ x:Nod,w.2.2.1.getD j Lr=x:=⟨_,rfl⟩
  rw [ex] at hm no yes
  have e0:w.2.2.1.getD j ((0:Int),(([],[]),([],[])))=x:=ex
  obtain ⟨⟨⟨⟨f1,f2⟩,_⟩,l1,l2⟩,b1,b2⟩:=hm.1
  simp (disch:=omega) only [E8,dT,Int.toNat_natCast,w64,e0]
  unfold Xp at yes no
  refine Tot.bind (R2a x.2.1.2 s f2.1) ?_
  rintro r rfl
  rcases Jwa x.2.1.2 s with ⟨hn,hg⟩|⟨i,e,hi,hg⟩
  ·rw [hg] at no
   exact Tot.dec hn (no rfl)
  ·rw [e]
   have hm:=A7 (d:=La) hi
   obtain ⟨y,ey⟩:∃ y:Nmd,x.2.1.2.getD i La=y:=⟨_,rfl⟩
   rw [ey] at hm hg
   rw [hg] at no yes
   have e2:x.2.1.2.getD i ((⟨#[]⟩:ByteArray),[])=y:=ey
   refine Tot.ndec (by omega) ?_
   simp (disch:=omega) only [dT,Int.toNat_natCast,e2]
   refine Tot.bind (Tm y.2 (b2 y hm) (f2.2 y hm)) ?_
   rintro r rfl
   unfold R7
   cases hy:Xn y.2 with
   |none=>simp only [hy] at no; exact Tot.no rfl (no trivial)
   |some f=>
    simp only [hy] at no yes
    simp only [Xj,Option.bind_some]
    exact Tot.yes rfl (Tot.ite (λ hc=>Tot.pure (yes hc)) (λ hc=>no hc))
theorem Jya (w:Wld) (hw:WIn w) (x:Wri):Tot (λ k=>Cl k w x) (λ r=>r=w.2.2.1.any (Xp x.1 x.2.1.1)):=by
 obtain ⟨_,_,⟨h1,h2⟩,⟨h3,_⟩,_⟩:=hw
 unfold Cl
 refine Tot.bind (Q:=λ r=>r=bif w.2.2.1.any (Xp x.1 x.2.1.1) then .inl true else .inr ()) ?_ (by
  rintro r rfl
  cases w.2.2.1.any (Xp x.1 x.2.1.1)<;>exact Tot.pure rfl)
 rw [Ob _ Lr]
 refine Tot.anyI (L:=λ k i=>Bl k i w x) _ _ () ?_ ?_
 ·simp (disch:=omega) only [Bl,dF]
  exact Tot.pure rfl
 ·intro j hj Q yes no
  have hm:=h2 _ (A7 (d:=Lr) hj)
  obtain ⟨z,ex⟩:∃ x:Nod,w.2.2.1.getD j Lr=x:=⟨_,rfl⟩
  rw [ex] at hm no yes
  have e0:w.2.2.1.getD j ((0:Int),(([],[]),([],[])))=z:=ex
  obtain ⟨⟨⟨⟨f1,f2⟩,_⟩,l1,l2⟩,b1,b2⟩:=hm.1
  simp (disch:=omega) only [Bl,dT,Int.toNat_natCast,w64,e0]
  unfold Xp at yes no
  refine Tot.bind (R3a z.2.1.2 x.1 f2.1) ?_
  rintro r rfl
  rcases Jwa z.2.1.2 x.1 with ⟨hn,hg⟩|⟨i,e,hi,hg⟩
  ·rw [hg] at no
   exact Tot.dec hn (no rfl)
  ·rw [e]
   have hm:=A7 (d:=La) hi
   obtain ⟨y,ey⟩:∃ y:Nmd,z.2.1.2.getD i La=y:=⟨_,rfl⟩
   rw [ey] at hm hg
   rw [hg] at no yes
   have e2:z.2.1.2.getD i ((⟨#[]⟩:ByteArray),[])=y:=ey
   refine Tot.ndec (by omega) ?_
   simp (disch:=omega) only [dT,Int.toNat_natCast,e2]
   refine Tot.bind (Tn y.2 (b2 y hm) (f2.2 y hm)) ?_
   rintro r rfl
   unfold R7
   cases hy:Xn y.2 with
   |none=>simp only [hy] at no; exact Tot.no rfl (no trivial)
   |some f=>
    simp only [hy] at no yes
    simp only [Jka,Option.bind_some]
    exact Tot.yes rfl (Tot.ite (λ hc=>Tot.pure (yes hc)) (λ hc=>no hc))
theorem Mwa (l:List ByteArray) (s:ByteArray) (hl:l.length≤1000000000):Tot (λ k=>Gl k l s) (λ r=>r=Goa l s):=by
 unfold Gl Goa
 refine Tot.bind (Q:=λ r=>r=bif l.any (λ y=>teq y s) then .inl true else .inr ()) ?_ (by
  rintro r rfl
  cases l.any (λ y=>teq y s)<;>exact Tot.pure rfl)
 rw [Ob _ U4]
 refine Tot.anyI (L:=λ k i=>Dk k s l (l.length:Int) i) _ _ () ?_ ?_
 ·simp (disch:=omega) only [Dk,dF]
  exact Tot.pure rfl
 ·intro j hj Q yes no
  have e0:l.getD j (⟨#[]⟩:ByteArray)=l.getD j U4:=rfl
  simp (disch:=omega) only [Dk,dT,Int.toNat_natCast,w64,e0]
  exact Tot.ite (λ hc=>Tot.pure (yes hc)) (λ hc=>no hc)
theorem Mxa (w:Wld) (hw:WIn w):Tot (λ k=>Hk k w) (λ r=>r=D4a w):=by
 have hw':=hw
 obtain ⟨_,_,⟨h1,h2⟩,⟨h3,_⟩,h5,_⟩:=hw'
 unfold Hk D4a
 refine Tot.bind (Q:=λ r=>r=bif w.2.2.2.2.1.all (D3a w) then .inr () else .inl false) ?_ (by
  rintro r rfl
  cases w.2.2.2.2.1.all (D3a w)<;>exact Tot.pure rfl)
 rw [Ls _ Nl]
 refine Tot.allI (L:=λ k i=>Fw k w.2.2.2.2.1 (w.2.2.2.2.1.length:Int) i w) _ _ () ?_ ?_
 ·simp (disch:=omega) only [Fw,dF]
  exact Tot.pure rfl
 ·intro j hj Q no yes
  obtain ⟨x,ex⟩:∃ x:Wri,w.2.2.2.2.1.getD j Nl=x:=⟨_,rfl⟩
  rw [ex] at no yes
  have e0:w.2.2.2.2.1.getD j ((⟨#[]⟩:ByteArray),((((0:Int),((0:Int),(0:Int))),(false,[])),false))=x:=ex
  simp (disch:=omega) only [Fw,dT,Int.toNat_natCast,w64,e0]
  unfold D3a at no yes
  refine Tot.ite (λ hk=>?_) (λ hk=>yes (by rw [hk]; rfl))
  rw [hk,Bool.not_true,Bool.false_or] at no yes
  refine Tot.bind (Mwa _ x.1 (by omega)) ?_
  rintro b rfl
  refine Tot.ite (λ hh=>?_) (λ hh=>yes (by rw [Bool.not_eq_false'] at hh; rw [hh,Bool.true_or]))
  rw [Bool.not_eq_true'] at hh
  rw [hh,Bool.false_or] at no yes
  refine Tot.bind (Jxa w hw x.1 x.2.1.1) ?_
  rintro b rfl
  refine Tot.ite (λ hc=>Tot.pure (no ?_)) (λ hc=>yes ?_)
  ·rw [Bool.not_eq_true'] at hc; exact hc
  ·rw [Bool.not_eq_false'] at hc; exact hc
theorem Mya (w:Wld) (hw:WIn w):Tot (λ k=>Hj k w) (λ r=>r=D4a w):=by
 have hw':=hw
 obtain ⟨_,_,⟨h1,h2⟩,⟨h3,_⟩,h5,_⟩:=hw'
 unfold Hj D4a
 refine Tot.bind (Q:=λ r=>r=bif w.2.2.2.2.1.all (D3a w) then .inr () else .inl false) ?_ (by
  rintro r rfl
  cases w.2.2.2.2.1.all (D3a w)<;>exact Tot.pure rfl)
 rw [Ls _ Nl]
 refine Tot.allI (L:=λ k i=>Fv k i w) _ _ () ?_ ?_
 ·simp (disch:=omega) only [Fv,dF]
  exact Tot.pure rfl
 ·intro j hj Q no yes
  obtain ⟨x,ex⟩:∃ x:Wri,w.2.2.2.2.1.getD j Nl=x:=⟨_,rfl⟩
  rw [ex] at no yes
  have e0:w.2.2.2.2.1.getD j ((⟨#[]⟩:ByteArray),((((0:Int),((0:Int),(0:Int))),(false,[])),false))=x:=ex
  simp (disch:=omega) only [Fv,dT,Int.toNat_natCast,w64,e0]
  unfold D3a at no yes
  refine Tot.ite (λ hk=>?_) (λ hk=>yes (by rw [hk]; rfl))
  rw [hk,Bool.not_true,Bool.false_or] at no yes
  refine Tot.bind (Mta _ x.1 (by omega)) ?_
  rintro b rfl
  refine Tot.ite (λ hh=>?_) (λ hh=>yes (by rw [Bool.not_eq_false'] at hh; rw [hh,Bool.true_or]))
  rw [Bool.not_eq_true'] at hh
  rw [hh,Bool.false_or] at no yes
  refine Tot.bind (Jya w hw x) ?_
  rintro b rfl
  refine Tot.ite (λ hc=>Tot.pure (no ?_)) (λ hc=>yes ?_)
  ·rw [Bool.not_eq_true'] at hc; exact hc
  ·rw [Bool.not_eq_false'] at hc; exact hc
def Ni (w:Wld):Bool:=(List.range w.2.2.2.2.1.length).all λ j => !(sle w.2.2.2.1 (w.2.2.2.2.1.getD j Nl).2.1.1)&&(decide (j=0) || sle (w.2.2.2.2.1.getD (j - 1) Nl).2.1.1 (w.2.2.2.2.1.getD j Nl).2.1.1)
theorem D5a (w:Wld) (hw:WIn w):Tot (λ k=>Cp k w) (λ r=>r=Ni w):=by
 obtain ⟨_,_,_,⟨h3,_⟩,h5,_⟩:=hw
 unfold Cp Ni
 generalize hP:(λ j => !(sle w.2.2.2.1 (w.2.2.2.2.1.getD j Nl).2.1.1)&&(decide (j=0) || sle (w.2.2.2.2.1.getD (j - 1) Nl).2.1.1 (w.2.2.2.2.1.getD j Nl).2.1.1))=P
 refine Tot.bind (Q:=λ r=>r=bif (List.range w.2.2.2.2.1.length).all P then .inr () else .inl false) ?_ (by
  rintro r rfl
  cases (List.range w.2.2.2.2.1.length).all P<;>exact Tot.pure rfl)
 refine Tot.allI (L:=λ k i=>Cb k w.2.2.2.2.1 (w.2.2.2.2.1.length:Int) i w) _ _ () ?_ ?_
 ·simp (disch:=omega) only [Cb,dF]
  exact Tot.pure rfl
 ·intro j hj Q no yes
  subst hP
  dsimp only at no yes
  have e0:∀ i,w.2.2.2.2.1.getD i ((⟨#[]⟩:ByteArray),((((0:Int),((0:Int),(0:Int))),(false,[])),false))=w.2.2.2.2.1.getD i Nl:=λ _=>rfl
  simp (disch:=omega) only [Cb,dT,Int.toNat_natCast,w64,e0,Xj,Option.bind_some]
  refine Tot.ite (λ hc=>Tot.pure (no (by rw [hc]; rfl))) (λ hc=>?_)
  rw [hc,Bool.not_false,Bool.true_and] at no yes
  refine Tot.dite (λ h0=>?_) (λ h0=>yes (by rw [decide_eq_true (show j=0 by omega)]; rfl))
  simp (disch:=omega) only [dT,w64,show Int.toNat ((j:Int) - 1)=j - 1 by omega]
  rw [decide_eq_false (show ¬ j=0 by omega),Bool.false_or] at no yes
  refine Tot.ite (λ hc=>Tot.pure (no ?_)) (λ hc=>yes ?_)
  ·rw [Bool.not_eq_true'] at hc; exact hc
  ·rw [Bool.not_eq_false'] at hc; exact hc
theorem D6a (w:Wld) (hw:WIn w):Tot (λ k=>Cm k w) (λ r=>r=Ni w):=by
 obtain ⟨_,_,_,⟨h3,_⟩,h5,_⟩:=hw
 unfold Cm Ni
 generalize hP:(λ j => !(sle w.2.2.2.1 (w.2.2.2.2.1.getD j Nl).2.1.1)&&(decide (j=0) || sle (w.2.2.2.2.1.getD (j - 1) Nl).2.1.1 (w.2.2.2.2.1.getD j Nl).2.1.1))=P
 refine Tot.bind (Q:=λ r=>r=bif (List.range w.2.2.2.2.1.length).all P then .inr () else .inl false) ?_ (by
  rintro r rfl
  cases (List.range w.2.2.2.2.1.length).all P<;>exact Tot.pure rfl)
 refine Tot.allI (L:=λ k i=>C4 k i w) _ _ () ?_ ?_
 ·simp (disch:=omega) only [C4,dF]
  exact Tot.pure rfl
 ·intro j hj Q no yes
  subst hP
  dsimp only at no yes
  have e0:∀ i,w.2.2.2.2.1.getD i ((⟨#[]⟩:ByteArray),((((0:Int),((0:Int),(0:Int))),(false,[])),false))=w.2.2.2.2.1.getD i Nl:=λ _=>rfl
  simp (disch:=omega) only [C4,dT,Int.toNat_natCast,w64,e0,Xi,Option.bind_some]
  refine Tot.ite (λ hc=>Tot.pure (no (by rw [hc]; rfl))) (λ hc=>?_)
  rw [hc,Bool.not_false,Bool.true_and] at no yes
  refine Tot.dite (λ h0=>?_) (λ h0=>yes (by rw [decide_eq_true (show j=0 by omega)]; rfl))
  simp (disch:=omega) only [dT,w64,show Int.toNat ((j:Int) - 1)=j - 1 by omega]
  rw [decide_eq_false (show ¬ j=0 by omega),Bool.false_or] at no yes
  refine Tot.ite (λ hc=>Tot.pure (no ?_)) (λ hc=>yes ?_)
  ·rw [Bool.not_eq_true'] at hc; exact hc
  ·rw [Bool.not_eq_false'] at hc; exact hc
def Mza (w:Wld):Int:=bif Cya w then (bif Nh w then (bif Pl w then (bif D4a w then (bif Ni w then 0 else 5) else 4) else 3) else 2) else 1
theorem N0a (w:Wld) (hw:WIn w):Tot (λ k=>K5 k w) (λ r=>r=Mza w):=by
 unfold K5 Mza
 refine Tot.bind (Jpa w hw) ?_
 rintro b rfl
 cases Cya w with
 |false=>exact Tot.yes rfl (Tot.pure rfl)
 |true=>
  refine Tot.no rfl (Tot.bind (D1a w hw) ?_)
  rintro b rfl
  cases Nh w with
  |false=>exact Tot.yes rfl (Tot.pure rfl)
  |true=>
   refine Tot.no rfl (Tot.bind (G3a w hw) ?_)
   rintro b rfl
   cases Pl w with
   |false=>exact Tot.yes rfl (Tot.pure rfl)
   |true=>
    refine Tot.no rfl (Tot.bind (Mxa w hw) ?_)
    rintro b rfl
    cases D4a w with
    |false=>exact Tot.yes rfl (Tot.pure rfl)
    |true=>
     refine Tot.no rfl (Tot.bind (D5a w hw) ?_)
     rintro b rfl
     cases Ni w with
     |false=>exact Tot.yes rfl (Tot.pure rfl)
     |true=>exact Tot.no rfl (Tot.pure rfl)
theorem N1a (w:Wld) (hw:WIn w):Tot (λ k=>Jz k w) (λ r=>r=Mza w):=by
 unfold Jz Mza
 refine Tot.bind (Jqa w hw) ?_
 rintro b rfl
 cases Cya w with
 |false=>exact Tot.yes rfl (Tot.pure rfl)
 |true=>
  refine Tot.no rfl (Tot.bind (D0a w hw) ?_)
  rintro b rfl
  cases Nh w with
  |false=>exact Tot.yes rfl (Tot.pure rfl)
  |true=>
   refine Tot.no rfl (Tot.bind (G2a w hw) ?_)
   rintro b rfl
   cases Pl w with
   |false=>exact Tot.yes rfl (Tot.pure rfl)
   |true=>
    refine Tot.no rfl (Tot.bind (Mya w hw) ?_)
    rintro b rfl
    cases D4a w with
    |false=>exact Tot.yes rfl (Tot.pure rfl)
    |true=>
     refine Tot.no rfl (Tot.bind (D6a w hw) ?_)
     rintro b rfl
     cases Ni w with
     |false=>exact Tot.yes rfl (Tot.pure rfl)
     |true=>exact Tot.no rfl (Tot.pure rfl)

def SzR (n:Int) (B:Prop) (r:Int):Prop:=r<0∨(0≤r∧r≤n∧B)
abbrev Bba:Nat:=140737488351232
abbrev I6:Int:=1048576
theorem SzR.then {f:Nat→Option Int} {g:Int→Nat→Option Int} {n:Int} {B C:Prop} (hf:Tot f (SzR n B)) (hg:∀ r,0≤r→r≤n→Tot (g r) (SzR r C)):
  Tot (λ k=>(f k).bind λ r=>cond (decide (r<0)) (some (-1)) (g r k)) (SzR n (B∧C)):=by
 refine Tot.bind hf ?_
 intro r hr
 refine Tot.dite (λ h=>Tot.pure (.inl (by decide))) (λ h=>?_)
 rcases hr with hr|⟨h0,h1,hB⟩
 ·exact absurd hr h
 ·refine (hg r h0 h1).mono ?_
  rintro q (hq|⟨q0,q1,hC⟩)
  ·exact .inl hq
  ·exact .inr ⟨q0,by omega,hB,hC⟩
theorem SzR.last {f:Nat→Option Int} {n:Int} {B:Prop} (hf:Tot f (SzR n B)):Tot (λ k=>(f k).bind λ r=>cond (decide (r<0)) (some (-1)) (some r)) (SzR n B):=by
 refine Tot.bind hf ?_
 intro r hr
 exact Tot.dite (λ h=>Tot.pure (.inl (by decide))) (λ h=>Tot.pure hr)
theorem SzR.imp {f:Nat→Option Int} {n:Int} {B C:Prop} (hf:Tot f (SzR n B)) (h:B→C):Tot f (SzR n C):=
 hf.mono (by rintro r (hr|⟨h0,h1,hB⟩); exact .inl hr; exact .inr ⟨h0,h1,h hB⟩)
theorem Xq {f:Nat→Option Int} {n:Int} {m:Nat} {C:Prop} (hm:m≤Bba) (h0:0≤n) (h1:n≤I6) (hf:(m:Int)≤I6→0≤n - (m:Int)→Tot f (SzR (n - (m:Int)) C)):
  Tot (λ k=>cond (decide ((IntKind.wrap .i64 (n - (m:Int)))<0)) (some (-1)) (f k)) (SzR n ((m:Int)≤I6∧C)):=by
 simp only [Bba] at hm
 simp only [I6] at h1 hf ⊢
 rw [w64 (n:=n - (m:Int)) (by omega) (by omega)]
 refine Tot.dite (λ h=>Tot.pure (.inl (by decide))) (λ h=>?_)
 refine (hf (by omega) (by omega)).mono ?_
 rintro q (hq|⟨q0,q1,hC⟩)
 ·exact .inl hq
 ·exact .inr ⟨q0,by omega,by omega,hC⟩
theorem Eta {n:Int} {m:Nat} (hm:m≤Bba) (h0:0≤n) (h1:n≤I6):
  Tot (λ _=>cond (decide ((IntKind.wrap .i64 (n - (m:Int)))<0)) (some (-1)) (some (IntKind.wrap .i64 (n - (m:Int))))) (SzR n ((m:Int)≤I6)):=by
 refine (Xq (C:=True) hm h0 h1 (λ h2 h3=>Tot.pure ?_)).mono ?_
 ·simp only [Bba] at hm
  simp only [I6] at h1 h2
  rw [w64 (n:=n - (m:Int)) (by omega) (by omega)]
  exact .inr ⟨h3,Int.le_refl _,trivial⟩
 ·rintro r (hr|⟨a,b,c,_⟩)
  ·exact .inl hr
  ·exact .inr ⟨a,b,c⟩
theorem V7 {α:Type} (d:α) (l:List α) (B:α→Prop) {L:Nat→Int→Int→Option (Sum Int Int)}
  (hend:∀ s,Tot (λ k=>L (k+1) s (l.length:Int)) (λ r=>r = .inr s))
  (Rq:∀ (j:Nat) (s:Int) (Q:Sum Int Int→Prop),j<l.length→0≤s→s≤I6→(∀ r,r<0→Q (.inl r))→(∀ r,SzR s (B (l.getD j d)) r→0≤r→Tot (λ k=>L k r ((j:Int)+1)) Q)→Tot (λ k=>L (k+1) s (j:Int)) Q)
  {n:Int} (h0:0≤n) (h1:n≤I6):Tot (λ k=>(L k n 0).bind λ r1=>Sum.elim (λ y2=>some y2) (λ z3=>some z3) r1) (SzR n (∀ x∈l,B x)):=by
 refine Tot.bind (Q:=λ r=>(∃ s,s<0∧r = .inl s)∨∃ s,r = .inr s∧0≤s∧s≤n∧∀ i,i<l.length→B (l.getD i d)) ?_ ?_
 ·refine Tot.up (L:=λ k i (s:Int)=>L k s i) l.length (λ j s=>0≤s∧s≤n∧∀ i,i<j→B (l.getD i d)) ?_ ?_ 0 n (Nat.zero_le _) ⟨h0,Int.le_refl _,λ i hi=>by omega⟩
  ·rintro s ⟨a,b,c⟩
   exact (hend s).mono (by rintro r rfl; exact .inr ⟨s,rfl,a,b,c⟩)
  ·rintro j s hj ⟨a,b,c⟩ next
   refine Rq j s _ hj a (by omega) (λ r hr => .inl ⟨r,hr,rfl⟩) (λ r hr h=>next r ?_)
   rcases hr with hr|⟨_,h2,h3⟩
   ·omega
   ·refine ⟨h,by omega,λ i hi=>?_⟩
    by_cases e:i=j
    ·subst e; exact h3
    ·exact c i (by omega)
 ·rintro r (⟨s,hs,rfl⟩|⟨s,rfl,a,b,c⟩)
  ·exact Tot.pure (.inl hs)
  ·refine Tot.pure (.inr ⟨a,b,λ x hx=>?_⟩)
   obtain ⟨i,hi,rfl⟩:=List.mem_iff_getElem.1 hx
   have:=c i hi
   rwa [List.getD_eq_getElem?_getD,List.getElem?_eq_getElem hi,Option.getD_some] at this
abbrev SmT (s:ByteArray):Prop:=(s.size:Int)≤I6
abbrev SmL {α:Type} (l:List α):Prop:=(l.length:Int)≤I6
abbrev HgT (s:ByteArray):Prop:=s.size≤Bba
abbrev HgL {α:Type} (l:List α):Prop:=l.length≤Bba
def S5a (x:Dev):Prop:=True
def R8a (l:List Dev):Prop:=HgL l∧∀ x∈l,S5a x
def Nta (x:List Int):Prop:=HgL x
def D7a (l:List (List Int)):Prop:=HgL l∧∀ x∈l,Nta x
def Jza (x:Nmd):Prop:=HgT x.1∧HgL x.2
def Ou (l:List Nmd):Prop:=HgL l∧∀ x∈l,Jza x
def R9a (x:Row):Prop:=HgT x.1
def Eua (l:List Row):Prop:=HgL l∧∀ x∈l,R9a x
def Nua (x:Nod):Prop:=(Ou x.2.1.1∧Ou x.2.1.2)∧Eua x.2.2.1∧Eua x.2.2.2
def K0a (l:List Nod):Prop:=HgL l∧∀ x∈l,Nua x
def K1a (x:Wri):Prop:=HgT x.1∧HgL x.2.1.2.2
def Eva (l:List Wri):Prop:=HgL l∧∀ x∈l,K1a x
def N2a (x:ByteArray):Prop:=HgT x
def Awa (l:List ByteArray):Prop:=HgL l∧∀ x∈l,N2a x
def HgW (w:Wld):Prop:=R8a w.1∧D7a w.2.1.2∧K0a w.2.2.1∧Eva w.2.2.2.2.1∧Awa w.2.2.2.2.2
def S6a (x:Dev):Prop:=True
def Raa (l:List Dev):Prop:=SmL l∧∀ x∈l,S6a x
def Axa (x:List Int):Prop:=SmL x
def Pm (l:List (List Int)):Prop:=SmL l∧∀ x∈l,Axa x
def Tr (x:Nmd):Prop:=SmT x.1∧SmL x.2
def Kz (l:List Nmd):Prop:=SmL l∧∀ x∈l,Tr x
def Pka (x:Row):Prop:=SmT x.1
def V8 (l:List Row):Prop:=SmL l∧∀ x∈l,Pka x
def Aya (x:Nod):Prop:=(Kz x.2.1.1∧Kz x.2.1.2)∧V8 x.2.2.1∧V8 x.2.2.2
def Xr (l:List Nod):Prop:=SmL l∧∀ x∈l,Aya x
def Tt (x:Wri):Prop:=SmT x.1∧SmL x.2.1.2.2
def Sd (l:List Wri):Prop:=SmL l∧∀ x∈l,Tt x
def Ewa (x:ByteArray):Prop:=SmT x
def Aza (l:List ByteArray):Prop:=SmL l∧∀ x∈l,Ewa x
def SmW (w:Wld):Prop:=Raa w.1∧Pm w.2.1.2∧Xr w.2.2.1∧Sd w.2.2.2.2.1∧Aza w.2.2.2.2.2
theorem K2a (l:List Int) (h:HgL l) {n:Int} (h0:0≤n) (h1:n≤I6):Tot (λ _=>Ik l n) (SzR n (SmL l)):=Eta h h0 h1
theorem V9 (l:List Int) (h:HgL l) {n:Int} (h0:0≤n) (h1:n≤I6):Tot (λ _=>Fu l n) (SzR n (SmL l)):=Eta h h0 h1
theorem K3a (l:List Dev) (h:HgL l) {n:Int} (h0:0≤n) (h1:n≤I6):Tot (λ _=>Ij l n) (SzR n (SmL l)):=Eta h h0 h1
theorem K4a (x:List Int) (h:Nta x) {n:Int} (h0:0≤n) (h1:n≤I6):Tot (λ _=>Il x n) (SzR n (Axa x)):=SzR.last (K2a x h h0 h1)
theorem N3a (x:Row) (h:R9a x) {n:Int} (h0:0≤n) (h1:n≤I6):Tot (λ _=>Jm x n) (SzR n (Pka x)):=Eta h h0 h1
theorem K5a (x:Fil) (h:HgL x.2.2) {n:Int} (h0:0≤n) (h1:n≤I6):Tot (λ _=>Iq x n) (SzR n (SmL x.2.2)):=SzR.last (V9 x.2.2 h h0 h1)
theorem G4a (x:Nmd) (h:Jza x) {n:Int} (h0:0≤n) (h1:n≤I6):Tot (λ _=>Hq x n) (SzR n (Tr x)):=
 Xq h.1 h0 h1 (λ h2 h3=>by
  have hh:=h.1
  simp only [HgT,Bba,I6] at hh h1
  rw [w64 (n:=n - (x.1.size:Int)) (by omega) (by omega)]
  exact SzR.last (V9 x.2 h.2 h3 (by simp only [I6]; omega)))
theorem G5a (x:Wri) (h:K1a x) {n:Int} (h0:0≤n) (h1:n≤I6):Tot (λ _=>Hr x n) (SzR n (Tt x)):=
 Xq h.1 h0 h1 (λ h2 h3=>by
  have hh:=h.1
  simp only [HgT,Bba,I6] at hh h1
  rw [w64 (n:=n - (x.1.size:Int)) (by omega) (by omega)]
  exact SzR.last (K5a x.2.1 h.2 h3 (by simp only [I6]; omega)))
theorem G6a (l:List (List Int)) (h:D7a l) {n:Int} (h0:0≤n) (h1:n≤I6):Tot (λ k=>Ci k l n) (SzR n (Pm l)):=by
 have hh:=h.1
 unfold Ci
 refine Xq h.1 h0 h1 (λ h2 h3=>?_)
 simp only [HgL,Bba,I6] at hh h1
 rw [w64 (n:=n - (l.length:Int)) (by omega) (by omega)]
 refine V7 [] l Axa ?_ ?_ h3 (by simp only [I6]; omega)
 ·intro s
  simp (disch:=omega) only [Et,dF]
  exact Tot.pure rfl
 ·intro j s Q hj s0 s1 no yes
  have hm:=h.2 _ (A7 (d:=[]) hj)
  simp (disch:=omega) only [Et,dT,Int.toNat_natCast,w64]
  refine Tot.bind (K4a (l.getD j []) hm s0 s1) ?_
  intro r hr
  exact Tot.dite (λ hc=>Tot.pure (no _ (by decide))) (λ hc=>yes r hr (by omega))
theorem Tu (l:List Nmd) (h:Ou l) {n:Int} (h0:0≤n) (h1:n≤I6):Tot (λ k=>Ax k l n) (SzR n (Kz l)):=by
 have hh:=h.1
 unfold Ax
 refine Xq h.1 h0 h1 (λ h2 h3=>?_)
 simp only [HgL,Bba,I6] at hh h1
 rw [w64 (n:=n - (l.length:Int)) (by omega) (by omega)]
 refine V7 La l Tr ?_ ?_ h3 (by simp only [I6]; omega)
 ·intro s
  simp (disch:=omega) only [Dr,dF]
  exact Tot.pure rfl
 ·intro j s Q hj s0 s1 no yes
  have hm:=h.2 _ (A7 (d:=La) hj)
  have e0:l.getD j ((⟨#[]⟩:ByteArray),[])=l.getD j La:=rfl
  simp (disch:=omega) only [Dr,dT,Int.toNat_natCast,w64,e0]
  refine Tot.bind (G4a (l.getD j La) hm s0 s1) ?_
  intro r hr
  exact Tot.dite (λ hc=>Tot.pure (no _ (by decide))) (λ hc=>yes r hr (by omega))
theorem B0a (l:List Row) (h:Eua l) {n:Int} (h0:0≤n) (h1:n≤I6):Tot (λ k=>D7 k l n) (SzR n (V8 l)):=by
 have hh:=h.1
 unfold D7
 refine Xq h.1 h0 h1 (λ h2 h3=>?_)
 simp only [HgL,Bba,I6] at hh h1
 rw [w64 (n:=n - (l.length:Int)) (by omega) (by omega)]
 refine V7 Baa l Pka ?_ ?_ h3 (by simp only [I6]; omega)
 ·intro s
  simp (disch:=omega) only [G0,dF]
  exact Tot.pure rfl
 ·intro j s Q hj s0 s1 no yes
  have hm:=h.2 _ (A7 (d:=Baa) hj)
  have e0:l.getD j ((⟨#[]⟩:ByteArray),(((0:Int),((0:Int),(0:Int))),(false,(0:Int))))=l.getD j Baa:=rfl
  simp (disch:=omega) only [G0,dT,Int.toNat_natCast,w64,e0]
  refine Tot.bind (N3a (l.getD j Baa) hm s0 s1) ?_
  intro r hr
  exact Tot.dite (λ hc=>Tot.pure (no _ (by decide))) (λ hc=>yes r hr (by omega))
theorem K6a (x:Dsk) (h:Ou x.1∧Ou x.2) {n:Int} (h0:0≤n) (h1:n≤I6):Tot (λ k=>Io k x n) (SzR n (Kz x.1∧Kz x.2)):=
 SzR.then (Tu x.1 h.1 h0 h1) (λ r r0 r1=>SzR.last (Tu x.2 h.2 r0 (Int.le_trans r1 h1)))
theorem K7a (x:Nod) (h:Nua x) {n:Int} (h0:0≤n) (h1:n≤I6):Tot (λ k=>Ip k x n) (SzR n (Aya x)):=
 SzR.then (K6a x.2.1 h.1 h0 h1) (λ r r0 r1=>SzR.then (B0a x.2.2.1 h.2.1 r0 (Int.le_trans r1 h1)) (λ q q0 q1=>SzR.last (B0a x.2.2.2 h.2.2 q0 (Int.le_trans q1 (Int.le_trans r1 h1)))))
theorem G7a (l:List Nod) (h:K0a l) {n:Int} (h0:0≤n) (h1:n≤I6):Tot (λ k=>Cj k l n) (SzR n (Xr l)):=by
 have hh:=h.1
 unfold Cj
 refine Xq h.1 h0 h1 (λ h2 h3=>?_)
 simp only [HgL,Bba,I6] at hh h1
 rw [w64 (n:=n - (l.length:Int)) (by omega) (by omega)]
 refine V7 Lr l Aya ?_ ?_ h3 (by simp only [I6]; omega)
 ·intro s
  simp (disch:=omega) only [Eu,dF]
  exact Tot.pure rfl
 ·intro j s Q hj s0 s1 no yes
  have hm:=h.2 _ (A7 (d:=Lr) hj)
  have e0:l.getD j ((0:Int),(([],[]),([],[])))=l.getD j Lr:=rfl
  simp (disch:=omega) only [Eu,dT,Int.toNat_natCast,w64,e0]
  refine Tot.bind (K7a (l.getD j Lr) hm s0 s1) ?_
  intro r hr
  exact Tot.dite (λ hc=>Tot.pure (no _ (by decide))) (λ hc=>yes r hr (by omega))
theorem D8a (l:List Wri) (h:Eva l) {n:Int} (h0:0≤n) (h1:n≤I6):Tot (λ k=>Bb k l n) (SzR n (Sd l)):=by
 have hh:=h.1
 unfold Bb
 refine Xq h.1 h0 h1 (λ h2 h3=>?_)
 simp only [HgL,Bba,I6] at hh h1
 rw [w64 (n:=n - (l.length:Int)) (by omega) (by omega)]
 refine V7 Nl l Tt ?_ ?_ h3 (by simp only [I6]; omega)
 ·intro s
  simp (disch:=omega) only [Ds,dF]
  exact Tot.pure rfl
 ·intro j s Q hj s0 s1 no yes
  have hm:=h.2 _ (A7 (d:=Nl) hj)
  have e0:l.getD j ((⟨#[]⟩:ByteArray),((((0:Int),((0:Int),(0:Int))),(false,[])),false))=l.getD j Nl:=rfl
  simp (disch:=omega) only [Ds,dT,Int.toNat_natCast,w64,e0]
  refine Tot.bind (G5a (l.getD j Nl) hm s0 s1) ?_
  intro r hr
  exact Tot.dite (λ hc=>Tot.pure (no _ (by decide))) (λ hc=>yes r hr (by omega))
theorem B1a (l:List ByteArray) (h:Awa l) {n:Int} (h0:0≤n) (h1:n≤I6):Tot (λ k=>Dt k l n) (SzR n (Aza l)):=by
 have hh:=h.1
 unfold Dt
 refine Xq h.1 h0 h1 (λ h2 h3=>?_)
 simp only [HgL,Bba,I6] at hh h1
 rw [w64 (n:=n - (l.length:Int)) (by omega) (by omega)]
 refine V7 U4 l Ewa ?_ ?_ h3 (by simp only [I6]; omega)
 ·intro s
  simp (disch:=omega) only [Cg,dF]
  exact Tot.pure rfl
 ·intro j s Q hj s0 s1 no yes
  have hm:(l.getD j U4).size≤Bba:=h.2 _ (A7 (d:=U4) hj)
  have e0:l.getD j (⟨#[]⟩:ByteArray)=l.getD j U4:=rfl
  simp only [Bba] at hm
  simp only [I6] at s1
  simp (disch:=omega) only [Cg,dT,Int.toNat_natCast,w64,e0]
  exact Tot.dite (λ hc=>Tot.pure (no _ (by decide))) (λ hc=>yes _ (.inr ⟨by omega,by omega,show ((l.getD j U4).size:Int)≤1048576 by omega⟩) (by omega))
theorem K8a (x:Rng) (h:D7a x.2) {n:Int} (h0:0≤n) (h1:n≤I6):Tot (λ k=>Im k x n) (SzR n (Pm x.2)):=SzR.last (G6a x.2 h h0 h1)
theorem G8a (w:Wld) (h:HgW w) {n:Int} (h0:0≤n) (h1:n≤I6):Tot (λ k=>Eo k w n) (SzR n (SmW w)):=by
 unfold Eo
 refine SzR.imp (SzR.then (K3a w.1 h.1.1 h0 h1) (λ a a0 a1=>SzR.then (K8a w.2.1 h.2.1 a0 (Int.le_trans a1 h1)) (λ b b0 b1=>SzR.then (G7a w.2.2.1 h.2.2.1 b0 (Int.le_trans b1 (Int.le_trans a1 h1))) (λ c c0 c1=>
  SzR.then (D8a w.2.2.2.2.1 h.2.2.2.1 c0 (Int.le_trans c1 (Int.le_trans b1 (Int.le_trans a1 h1)))) (λ d d0 d1=>SzR.last (B1a w.2.2.2.2.2 h.2.2.2.2 d0 (Int.le_trans d1 (Int.le_trans c1 (Int.le_trans b1 (Int.le_trans a1 h1)))))))))) ?_
 rintro ⟨a,b,c,d,e⟩
 exact ⟨⟨a,λ _ _=>trivial⟩,b,c,d,e⟩
theorem K9a {α:Type} {l s:List α} {j:Nat} {z d:α} (hj:j<l.length) (h:s=l.take j++List.replicate (l.length - j) z):s.set j (l.getD j d)=l.take (j+1)++List.replicate (l.length - (j+1)) z:=by
 have hl:(l.take j).length=j:=by rw [List.length_take]; omega
 rw [h,show l.length - j=(l.length - (j+1))+1 by omega,List.replicate_succ,List.set_append_right _ _ (by omega),hl,Nat.sub_self,List.set_cons_zero,List.take_succ_eq_append_getElem hj,List.append_assoc,List.getD_eq_getElem?_getD,List.getElem?_eq_getElem hj]
 rfl
theorem Qd {α:Type} (d z:α) (l:List α) {L:Nat→List α→Int→Option (List α)} (hend:∀ s,Tot (λ k=>L (k+1) s (l.length:Int)) (λ r=>r=s))
  (Rq:∀ (j:Nat) (s:List α) (Q:List α→Prop),j<l.length→s.length=l.length→Tot (λ k=>L k (s.set j (l.getD j d)) ((j:Int)+1)) Q→Tot (λ k=>L (k+1) s (j:Int)) Q):
  Tot (λ k=>L k (List.replicate l.length z) 0) (λ r=>r=l):=by
 refine Tot.up (L:=λ k i (s:List α)=>L k s i) l.length (λ j s=>s=l.take j++List.replicate (l.length - j) z) ?_ ?_ 0 _ (Nat.zero_le _) (by rw [List.take_zero,List.nil_append,Nat.sub_zero])
 ·rintro s h
  rw [Nat.sub_self,List.take_length,List.replicate_zero,List.append_nil] at h
  exact (hend s).mono (by rintro r rfl; exact h)
 ·rintro j s hj h next
  refine Rq j s _ hj ?_ (next _ (K9a hj h))
  rw [h,List.length_append,List.length_take,List.length_replicate]
  omega
theorem Qe {n:Nat} {R:Type} {e:R} {L:Nat→Int→Option R} (hend:Tot (λ k=>L (k+1) (n:Int)) (λ r=>r=e)) (Rq:∀ (j:Nat) (Q:R→Prop),j<n→Tot (λ k=>L k ((j:Int)+1)) Q→Tot (λ k=>L (k+1) (j:Int)) Q):
  Tot (λ k=>L k 0) (λ r=>r=e):=
 Tot.up (L:=λ k i (_:Unit)=>L k i) n (λ _ _=>True) (λ _ _=>hend) (λ j _ hj _ next=>Rq j _ hj (next () trivial)) 0 () (Nat.zero_le _) trivial
theorem Kaa (l:List Dev) (h:SmL l):Tot (λ k=>Eh k l) (λ r=>r=l):=by
 have hl:(l.length:Int)≤1048576:=h
 unfold Eh
 simp (disch:=omega) only [dT,Int.toNat_natCast]
 refine Tot.bind (Q:=λ r=>r=l) ?_ (by rintro r rfl; exact Tot.pure rfl)
 refine Qd (L:=λ k s i=>F5 k l s i) Mz _ l ?_ ?_
 ·intro s
  simp (disch:=omega) only [F5,dF]
  exact Tot.pure rfl
 ·intro j s Q hj hs next
  have e0:l.getD j ((0:Int),((0:Int),(0:Int)))=l.getD j Mz:=rfl
  simp (disch:=omega) only [F5,dT,Int.toNat_natCast,w64,e0,Jo,B1,Option.bind_some]
  exact next
theorem Kba (l:List Int) (h:SmL l):Tot (λ k=>Hg k l) (λ r=>r=l):=by
 have hl:(l.length:Int)≤1048576:=h
 unfold Hg
 simp (disch:=omega) only [dT,Int.toNat_natCast]
 refine Tot.bind (Q:=λ r=>r=l) ?_ (by rintro r rfl; exact Tot.pure rfl)
 refine Qd (L:=λ k s i=>F6 k l s i) (0:Int) _ l ?_ ?_
 ·intro s
  simp (disch:=omega) only [F6,dF]
  exact Tot.pure rfl
 ·intro j s Q hj hs next
  simp (disch:=omega) only [F6,dT,Int.toNat_natCast,w64]
  exact next
theorem Vr (l:List Int) (h:SmL l):Tot (λ k=>Dg k l) (λ r=>r=l):=by
 have hl:(l.length:Int)≤1048576:=h
 unfold Dg
 simp (disch:=omega) only [dT,Int.toNat_natCast]
 refine Tot.bind (Q:=λ r=>r=l) ?_ (by rintro r rfl; exact Tot.pure rfl)
 refine Qd (L:=λ k s i=>Df k l s i) (0:Int) _ l ?_ ?_
 ·intro s
  simp (disch:=omega) only [Df,dF]
  exact Tot.pure rfl
 ·intro j s Q hj hs next
  simp (disch:=omega) only [Df,dT,Int.toNat_natCast,w64]
  exact next
theorem Kca (x:List Int) (h:Axa x):Tot (λ k=>It k x) (λ r=>r=x):=Tot.bind (Kba x h) (by rintro r rfl; exact Tot.pure rfl)
theorem G9a (l:List (List Int)) (h:Pm l):Tot (λ k=>Cn k l) (λ r=>r=l):=by
 have hl:(l.length:Int)≤1048576:=h.1
 unfold Cn
 simp (disch:=omega) only [dT,Int.toNat_natCast]
 refine Tot.bind (Q:=λ r=>r=l) ?_ (by rintro r rfl; exact Tot.pure rfl)
 refine Qd (L:=λ k s i=>De k l s i) [] _ l ?_ ?_
 ·intro s
  simp (disch:=omega) only [De,dF]
  exact Tot.pure rfl
 ·intro j s Q hj hs next
  simp (disch:=omega) only [De,dT,Int.toNat_natCast,w64]
  refine Tot.bind (Kca _ (h.2 _ (A7 (d:=[]) hj))) ?_
  rintro r rfl
  exact next
theorem Kda (x:Rng) (h:Pm x.2):Tot (λ k=>Iu k x) (λ r=>r=x):=Tot.bind (G9a x.2 h) (by rintro r rfl; exact Tot.pure rfl)
theorem Gaa (x:Nmd) (h:Tr x):Tot (λ k=>Hs k x) (λ r=>r=x):=Tot.bind (Vr x.2 h.2) (by rintro r rfl; exact Tot.pure rfl)
theorem Tv (l:List Nmd) (h:Kz l):Tot (λ k=>B0 k l) (λ r=>r=l):=by
 have hl:(l.length:Int)≤1048576:=h.1
 unfold B0
 simp (disch:=omega) only [dT,Int.toNat_natCast]
 refine Tot.bind (Q:=λ r=>r=l) ?_ (by rintro r rfl; exact Tot.pure rfl)
 refine Qd (L:=λ k s i=>C5 k l s i) La _ l ?_ ?_
 ·intro s
  simp (disch:=omega) only [C5,dF]
  exact Tot.pure rfl
 ·intro j s Q hj hs next
  have e0:l.getD j ((⟨#[]⟩:ByteArray),[])=l.getD j La:=rfl
  simp (disch:=omega) only [C5,dT,Int.toNat_natCast,w64,e0]
  refine Tot.bind (Gaa _ (h.2 _ (A7 (d:=La) hj))) ?_
  rintro r rfl
  exact next
theorem Kea (x:Dsk) (h:Kz x.1∧Kz x.2):Tot (λ k=>Iv k x) (λ r=>r=x):=Tot.bind (Tv x.1 h.1) (by rintro r rfl; exact Tot.bind (Tv x.2 h.2) (by rintro r rfl; exact Tot.pure rfl))
theorem B2a (l:List Row) (h:V8 l):Tot (λ k=>Dh k l) (λ r=>r=l):=by
 have hl:(l.length:Int)≤1048576:=h.1
 unfold Dh
 simp (disch:=omega) only [dT,Int.toNat_natCast]
 refine Tot.bind (Q:=λ r=>r=l) ?_ (by rintro r rfl; exact Tot.pure rfl)
 refine Qd (L:=λ k s i=>F7 k l s i) Baa _ l ?_ ?_
 ·intro s
  simp (disch:=omega) only [F7,dF]
  exact Tot.pure rfl
 ·intro j s Q hj hs next
  have e0:l.getD j ((⟨#[]⟩:ByteArray),(((0:Int),((0:Int),(0:Int))),(false,(0:Int))))=l.getD j Baa:=rfl
  simp (disch:=omega) only [F7,dT,Int.toNat_natCast,w64,e0,Jp,B1,Option.bind_some]
  exact next
theorem Kfa (x:Nod) (h:Aya x):Tot (λ k=>Iw k x) (λ r=>r=x):=Tot.bind (Kea x.2.1 h.1) (by rintro r rfl; exact Tot.bind (B2a _ h.2.1) (by rintro r rfl; exact Tot.bind (B2a _ h.2.2) (by rintro r rfl; exact Tot.pure rfl)))
theorem Gba (l:List Nod) (h:Xr l):Tot (λ k=>Co k l) (λ r=>r=l):=by
 have hl:(l.length:Int)≤1048576:=h.1
 unfold Co
 simp (disch:=omega) only [dT,Int.toNat_natCast]
 refine Tot.bind (Q:=λ r=>r=l) ?_ (by rintro r rfl; exact Tot.pure rfl)
 refine Qd (L:=λ k s i=>Di k l s i) Lr _ l ?_ ?_
 ·intro s
  simp (disch:=omega) only [Di,dF]
  exact Tot.pure rfl
 ·intro j s Q hj hs next
  have e0:l.getD j ((0:Int),(([],[]),([],[])))=l.getD j Lr:=rfl
  simp (disch:=omega) only [Di,dT,Int.toNat_natCast,w64,e0]
  refine Tot.bind (Kfa _ (h.2 _ (A7 (d:=Lr) hj))) ?_
  rintro r rfl
  exact next
theorem Kga (x:Fil) (h:SmL x.2.2):Tot (λ k=>I0 k x) (λ r=>r=x):=by
 unfold I0 B1
 simp only [Option.bind_some]
 exact Tot.bind (Vr x.2.2 h) (by rintro r rfl; exact Tot.pure rfl)
theorem Gca (x:Wri) (h:Tt x):Tot (λ k=>Ht k x) (λ r=>r=x):=Tot.bind (Kga x.2.1 h.2) (by rintro r rfl; exact Tot.pure rfl)
theorem D9a (l:List Wri) (h:Sd l):Tot (λ k=>Be k l) (λ r=>r=l):=by
 have hl:(l.length:Int)≤1048576:=h.1
 unfold Be
 simp (disch:=omega) only [dT,Int.toNat_natCast]
 refine Tot.bind (Q:=λ r=>r=l) ?_ (by rintro r rfl; exact Tot.pure rfl)
 refine Qd (L:=λ k s i=>C6 k l s i) Nl _ l ?_ ?_
 ·intro s
  simp (disch:=omega) only [C6,dF]
  exact Tot.pure rfl
 ·intro j s Q hj hs next
  have e0:l.getD j ((⟨#[]⟩:ByteArray),((((0:Int),((0:Int),(0:Int))),(false,[])),false))=l.getD j Nl:=rfl
  simp (disch:=omega) only [C6,dT,Int.toNat_natCast,w64,e0]
  refine Tot.bind (Gca _ (h.2 _ (A7 (d:=Nl) hj))) ?_
  rintro r rfl
  exact next
theorem B3a (l:List ByteArray) (h:SmL l):Tot (λ k=>Dx k l) (λ r=>r=l):=by
 have hl:(l.length:Int)≤1048576:=h
 unfold Dx
 simp (disch:=omega) only [dT,Int.toNat_natCast]
 refine Tot.bind (Q:=λ r=>r=l) ?_ (by rintro r rfl; exact Tot.pure rfl)
 refine Qd (L:=λ k s i=>Bm k l s i) U4 _ l ?_ ?_
 ·intro s
  simp (disch:=omega) only [Bm,dF]
  exact Tot.pure rfl
 ·intro j s Q hj hs next
  have e0:l.getD j (⟨#[]⟩:ByteArray)=l.getD j U4:=rfl
  simp (disch:=omega) only [Bm,dT,Int.toNat_natCast,w64,e0]
  exact next
theorem R9 (w:Wld) (h:SmW w):Tot (λ k=>B8 k w) (λ r=>r=w):=by
 unfold B8 B1
 simp only [Option.bind_some]
 refine Tot.bind (Kaa _ h.1.1) (by rintro r rfl; exact Tot.bind (Kda _ h.2.1) (by rintro r rfl; exact Tot.bind (Gba _ h.2.2.1) (by rintro r rfl; exact Tot.bind (D9a _ h.2.2.2.1) (by rintro r rfl; exact Tot.bind (B3a _ h.2.2.2.2.1) (by rintro r rfl; exact Tot.pure rfl)))))
theorem W0 (x:Int):(x != x)=false:=by rw [bne,beq_self_eq_true]; rfl
theorem Rfa (s:ByteArray):(s.toList==s.toList)=true:=beq_self_eq_true _
theorem Ra (x:Stp):C1 x x=some true:=by
 unfold C1
 rw [W0,W0,W0]
 rfl
theorem N4a (x:Dev):J5 x x=some true:=by
 unfold J5
 rw [W0,W0,W0]
 rfl
theorem Kha (l:List Dev) (h:SmL l):Tot (λ k=>El k l l) (λ r=>r=true):=by
 have hl:(l.length:Int)≤1048576:=h
 unfold El
 refine Tot.no (W0 _) (Tot.bind (Q:=λ r=>r = .inr ()) ?_ (by rintro r rfl; exact Tot.pure rfl))
 refine Qe (L:=λ k i=>Fh k l l i) (n:=l.length) ?_ ?_
 ·simp (disch:=omega) only [Fh,dF]
  exact Tot.pure rfl
 ·intro j Q hj next
  have e0:l.getD j ((0:Int),((0:Int),(0:Int)))=l.getD j Mz:=rfl
  simp (disch:=omega) only [Fh,dT,Int.toNat_natCast,w64,e0,N4a,Option.bind_some]
  exact Tot.no rfl next
theorem Kia (l:List Int) (h:SmL l):Tot (λ k=>Hi k l l) (λ r=>r=true):=by
 have hl:(l.length:Int)≤1048576:=h
 unfold Hi
 refine Tot.no (W0 _) (Tot.bind (Q:=λ r=>r = .inr ()) ?_ (by rintro r rfl; exact Tot.pure rfl))
 refine Qe (L:=λ k i=>Fi k l l i) (n:=l.length) ?_ ?_
 ·simp (disch:=omega) only [Fi,dF]
  exact Tot.pure rfl
 ·intro j Q hj next
  simp (disch:=omega) only [Fi,dT,Int.toNat_natCast,w64]
  exact Tot.no (W0 _) next
theorem W1 (l:List Int) (h:SmL l):Tot (λ k=>Dn k l l) (λ r=>r=true):=by
 have hl:(l.length:Int)≤1048576:=h
 unfold Dn
 refine Tot.no (W0 _) (Tot.bind (Q:=λ r=>r = .inr ()) ?_ (by rintro r rfl; exact Tot.pure rfl))
 refine Qe (L:=λ k i=>Dm k l l i) (n:=l.length) ?_ ?_
 ·simp (disch:=omega) only [Dm,dF]
  exact Tot.pure rfl
 ·intro j Q hj next
  simp (disch:=omega) only [Dm,dT,Int.toNat_natCast,w64]
  exact Tot.no (W0 _) next
theorem Kja (x:List Int) (h:Axa x):Tot (λ k=>Ix k x x) (λ r=>r=true):=Tot.bind (Kia x h) (by rintro r rfl; exact Tot.pure rfl)
theorem Gda (l:List (List Int)) (h:Pm l):Tot (λ k=>Cq k l l) (λ r=>r=true):=by
 have hl:(l.length:Int)≤1048576:=h.1
 unfold Cq
 refine Tot.no (W0 _) (Tot.bind (Q:=λ r=>r = .inr ()) ?_ (by rintro r rfl; exact Tot.pure rfl))
 refine Qe (L:=λ k i=>Dl k l l i) (n:=l.length) ?_ ?_
 ·simp (disch:=omega) only [Dl,dF]
  exact Tot.pure rfl
 ·intro j Q hj next
  simp (disch:=omega) only [Dl,dT,Int.toNat_natCast,w64]
  refine Tot.bind (Kja _ (h.2 _ (A7 (d:=[]) hj))) ?_
  rintro r rfl
  exact Tot.no rfl next
theorem Kka (x:Rng) (h:Pm x.2):Tot (λ k=>Iy k x x) (λ r=>r=true):=Tot.no (W0 _) (Tot.bind (Gda x.2 h) (by rintro r rfl; exact Tot.pure rfl))
theorem Gea (x:Nmd) (h:Tr x):Tot (λ k=>Hu k x x) (λ r=>r=true):=Tot.no (by rw [Rfa]; rfl) (Tot.bind (W1 x.2 h.2) (by rintro r rfl; exact Tot.pure rfl))
theorem Tw (l:List Nmd) (h:Kz l):Tot (λ k=>B3 k l l) (λ r=>r=true):=by
 have hl:(l.length:Int)≤1048576:=h.1
 unfold B3
 refine Tot.no (W0 _) (Tot.bind (Q:=λ r=>r = .inr ()) ?_ (by rintro r rfl; exact Tot.pure rfl))
 refine Qe (L:=λ k i=>Cc k l l i) (n:=l.length) ?_ ?_
 ·simp (disch:=omega) only [Cc,dF]
  exact Tot.pure rfl
 ·intro j Q hj next
  have e0:l.getD j ((⟨#[]⟩:ByteArray),[])=l.getD j La:=rfl
  simp (disch:=omega) only [Cc,dT,Int.toNat_natCast,w64,e0]
  refine Tot.bind (Gea _ (h.2 _ (A7 (d:=La) hj))) ?_
  rintro r rfl
  exact Tot.no rfl next
theorem Kla (x:Dsk) (h:Kz x.1∧Kz x.2):Tot (λ k=>Iz k x x) (λ r=>r=true):=Tot.bind (Tw x.1 h.1) (by rintro r rfl; exact Tot.no rfl (Tot.bind (Tw x.2 h.2) (by rintro r rfl; exact Tot.pure rfl)))
theorem N5a (x:Row):J6 x x=some true:=by
 unfold J6
 rw [Rfa,Ra,beq_self_eq_true,W0]
 rfl
theorem B4a (l:List Row) (h:V8 l):Tot (λ k=>Dp k l l) (λ r=>r=true):=by
 have hl:(l.length:Int)≤1048576:=h.1
 unfold Dp
 refine Tot.no (W0 _) (Tot.bind (Q:=λ r=>r = .inr ()) ?_ (by rintro r rfl; exact Tot.pure rfl))
 refine Qe (L:=λ k i=>Fj k l l i) (n:=l.length) ?_ ?_
 ·simp (disch:=omega) only [Fj,dF]
  exact Tot.pure rfl
 ·intro j Q hj next
  have e0:l.getD j ((⟨#[]⟩:ByteArray),(((0:Int),((0:Int),(0:Int))),(false,(0:Int))))=l.getD j Baa:=rfl
  simp (disch:=omega) only [Fj,dT,Int.toNat_natCast,w64,e0,N5a,Option.bind_some]
  exact Tot.no rfl next
theorem Kma (x:Nod) (h:Aya x):Tot (λ k=>J0 k x x) (λ r=>r=true):=Tot.no (W0 _) (Tot.bind (Kla x.2.1 h.1) (by rintro r rfl; exact Tot.no rfl (Tot.bind (B4a _ h.2.1) (by rintro r rfl; exact Tot.no rfl (Tot.bind (B4a _ h.2.2) (by rintro r rfl; exact Tot.pure rfl))))))
theorem Gfa (l:List Nod) (h:Xr l):Tot (λ k=>Cr k l l) (λ r=>r=true):=by
 have hl:(l.length:Int)≤1048576:=h.1
 unfold Cr
 refine Tot.no (W0 _) (Tot.bind (Q:=λ r=>r = .inr ()) ?_ (by rintro r rfl; exact Tot.pure rfl))
 refine Qe (L:=λ k i=>Dq k l l i) (n:=l.length) ?_ ?_
 ·simp (disch:=omega) only [Dq,dF]
  exact Tot.pure rfl
 ·intro j Q hj next
  have e0:l.getD j ((0:Int),(([],[]),([],[])))=l.getD j Lr:=rfl
  simp (disch:=omega) only [Dq,dT,Int.toNat_natCast,w64,e0]
  refine Tot.bind (Kma _ (h.2 _ (A7 (d:=Lr) hj))) ?_
  rintro r rfl
  exact Tot.no rfl next
theorem Kna (x:Fil) (h:SmL x.2.2):Tot (λ k=>I3 k x x) (λ r=>r=true):=by
 unfold I3
 simp only [Ra,Option.bind_some]
 exact Tot.no rfl (Tot.no (by rw [beq_self_eq_true]; rfl) (Tot.bind (W1 x.2.2 h) (by rintro r rfl; exact Tot.pure rfl)))
theorem Gga (x:Wri) (h:Tt x):Tot (λ k=>Hv k x x) (λ r=>r=true):=Tot.no (by rw [Rfa]; rfl) (Tot.bind (Kna x.2.1 h.2) (by rintro r rfl; exact Tot.no rfl (Tot.no (by rw [beq_self_eq_true]; rfl) (Tot.pure rfl))))
theorem Daa (l:List Wri) (h:Sd l):Tot (λ k=>Bg k l l) (λ r=>r=true):=by
 have hl:(l.length:Int)≤1048576:=h.1
 unfold Bg
 refine Tot.no (W0 _) (Tot.bind (Q:=λ r=>r = .inr ()) ?_ (by rintro r rfl; exact Tot.pure rfl))
 refine Qe (L:=λ k i=>Cd k l l i) (n:=l.length) ?_ ?_
 ·simp (disch:=omega) only [Cd,dF]
  exact Tot.pure rfl
 ·intro j Q hj next
  have e0:l.getD j ((⟨#[]⟩:ByteArray),((((0:Int),((0:Int),(0:Int))),(false,[])),false))=l.getD j Nl:=rfl
  simp (disch:=omega) only [Cd,dT,Int.toNat_natCast,w64,e0]
  refine Tot.bind (Gga _ (h.2 _ (A7 (d:=Nl) hj))) ?_
  rintro r rfl
  exact Tot.no rfl next
theorem B5a (l:List ByteArray) (h:SmL l):Tot (λ k=>E4 k l l) (λ r=>r=true):=by
 have hl:(l.length:Int)≤1048576:=h
 unfold E4
 refine Tot.no (W0 _) (Tot.bind (Q:=λ r=>r = .inr ()) ?_ (by rintro r rfl; exact Tot.pure rfl))
 refine Qe (L:=λ k i=>Bp k l l i) (n:=l.length) ?_ ?_
 ·simp (disch:=omega) only [Bp,dF]
  exact Tot.pure rfl
 ·intro j Q hj next
  have e0:l.getD j (⟨#[]⟩:ByteArray)=l.getD j U4:=rfl
  simp (disch:=omega) only [Bp,dT,Int.toNat_natCast,w64,e0]
  exact Tot.no (by rw [Rfa]; rfl) next
theorem Gha (w:Wld) (h:SmW w):Tot (λ k=>Ep k w w) (λ r=>r=true):=by
 unfold Ep
 simp only [Ra,Option.bind_some]
 refine Tot.bind (Kha _ h.1.1) ?_
 rintro r rfl
 refine Tot.no rfl (Tot.bind (Kka _ h.2.1) ?_)
 rintro r rfl
 refine Tot.no rfl (Tot.bind (Gfa _ h.2.2.1) ?_)
 rintro r rfl
 refine Tot.no rfl (Tot.no rfl (Tot.bind (Daa _ h.2.2.2.1) ?_))
 rintro r rfl
 refine Tot.no rfl (Tot.bind (B5a _ h.2.2.2.2.1) ?_)
 rintro r rfl
 exact Tot.no rfl (Tot.pure rfl)
def ByN (l:List Nmd):Prop:=∀ x∈l,B4 x.2
def ByW (w:Wld):Prop:=(∀ n∈w.2.2.1,ByN n.2.1.1∧ByN n.2.1.2)∧∀ x∈w.2.2.2.2.1,B4 x.2.1.2.2
theorem Tx {l:List Nmd} (h:Kz l):(R1a l∧Tl l)∧l.length≤2000000:=by
 have h1:(l.length:Int)≤1048576:=h.1
 refine ⟨⟨⟨by omega,λ x hx=>?_⟩,λ x hx=>?_⟩,by omega⟩
 ·have:(x.2.length:Int)≤1048576:=(h.2 x hx).2
  omega
 ·have:(x.1.size:Int)≤1048576:=(h.2 x hx).1
  show x.1.size≤_
  omega
theorem Exa {l:List Row} (h:V8 l):RF l:=by
 have h1:(l.length:Int)≤1048576:=h.1
 refine ⟨by omega,λ x hx=>?_⟩
 have:(x.1.size:Int)≤1048576:=h.2 x hx
 show x.1.size≤_
 omega
theorem Pla {w:Wld} (h:SmW w) (hb:ByW w):WIn w:=by
 obtain ⟨⟨h1,_⟩,⟨h2,h3⟩,⟨h4,h5⟩,⟨h6,h7⟩,h8,h9⟩:=h
 simp only [SmL,I6] at h1 h2 h4 h6 h8
 refine ⟨⟨by omega,λ p hp=>?_⟩,by omega,⟨by omega,λ n hn=>?_⟩,⟨by omega,λ x hx=>?_⟩,by omega,λ s hs=>?_⟩
 ·have:(p.length:Int)≤1048576:=h3 p hp
  omega
 ·obtain ⟨⟨a1,a2⟩,a3,a4⟩:=h5 n hn
  have b1:=Tx a1
  have b2:=Tx a2
  exact ⟨⟨⟨⟨⟨b1.1.1,b2.1.1⟩,b1.1.2,b2.1.2⟩,b1.2,b2.2⟩,hb.1 n hn⟩,Exa a3,Exa a4⟩
 ·have:(x.1.size:Int)≤1048576:=(h7 x hx).1
  show x.1.size≤_
  omega
 ·have:(s.size:Int)≤1048576:=h9 s hs
  show s.size≤_
  omega

def tyB (ti:TypeId→Option TI) (e:TypeId):Bool:=match ti e with
 |some te=>Nat.ble 1 te.by_
 |none=>false
section
variable {ti:TypeId→Option TI}
theorem Mh {e:TypeId} {r:Ty} {xs:List r.den} (h:Ty.fit ti (.sl e r) xs) (hk:tyB ti e=true):HgL xs:=by
 unfold tyB at hk
 split at hk
 ·rename_i te ht
  have h1:=h.1 te ht
  have h2:=Nat.le_of_ble_eq_true hk
  show xs.length≤140737488351232
  exact Nat.le_trans (Nat.le_mul_of_pos_right _ (by omega)) h1
 ·cases hk
abbrev Rga:Ty := .pr (.i .i64) (.pr (.i .i64) (.i .i64))
abbrev byT (b:TypeId):Ty := .sl b (.i .u8)
abbrev S7a (b:TypeId):Ty := .pr .s (byT b)
abbrev Soa (b n:TypeId):Ty := .pr (.sl n (S7a b)) (.sl n (S7a b))
abbrev S8a:Ty := .pr .s (.pr Rga (.pr .b (.i .i64)))
abbrev Spa (b:TypeId):Ty := .pr Rga (.pr .b (byT b))
abbrev Sqa (b n r:TypeId):Ty := .pr (.i .i64) (.pr (Soa b n) (.pr (.sl r S8a) (.sl r S8a)))
abbrev Sra (b:TypeId):Ty := .pr .s (.pr (Spa b) .b)
abbrev Ssa (d p i b n r m v s:TypeId):Ty := .pr (.sl d Rga) (.pr (.pr (.i .i64) (.sl p (.sl i (.i .i64)))) (.pr (.sl m (Sqa b n r)) (.pr Rga (.pr (.sl v (Sra b)) (.sl s .s)))))
theorem B6a {b:TypeId} {xs:List Int} (h:Ty.fit ti (byT b) xs):B4 xs:=λ x hx=>by
 have:=h.2 x hx
 have h1:(decide (IntKind.min .u8≤x)&&decide (x≤IntKind.max .u8))=true:=this
 rw [Bool.and_eq_true,decide_eq_true_iff,decide_eq_true_iff] at h1
 exact h1
theorem Qf {b n:TypeId} {l:List Nmd} (h:Ty.fit ti (.sl n (S7a b)) l) (hb:tyB ti b=true) (hn:tyB ti n=true):Ou l∧ByN l:=
 ⟨⟨Mh h hn,λ x hx=>⟨Nat.le_trans (h.2 x hx).1 (by decide),Mh (h.2 x hx).2 hb⟩⟩,λ x hx=>B6a (h.2 x hx).2⟩
theorem Eya {r:TypeId} {l:List Row} (h:Ty.fit ti (.sl r S8a) l) (hr:tyB ti r=true):Eua l:=⟨Mh h hr,λ x hx=>Nat.le_trans (h.2 x hx).1 (by decide)⟩
theorem Sta {d p i b n r m v s:TypeId} {w:Wld} (hk:(tyB ti d&&(tyB ti p&&(tyB ti i&&(tyB ti b&&(tyB ti n&&(tyB ti r&&(tyB ti m&&(tyB ti v&&tyB ti s))))))))=true) (h:Ty.fit ti (Ssa d p i b n r m v s) w):HgW w∧ByW w:=by
 simp only [Bool.and_eq_true] at hk
 obtain ⟨kd,kp,ki,kb,kn,kr,km,kv,ks⟩:=hk
 obtain ⟨h1,⟨_,h2⟩,h3,_,h4,h5⟩:=h
 refine ⟨⟨⟨Mh h1 kd,λ _ _=>trivial⟩,⟨Mh h2 kp,λ x hx=>Mh (h2.2 x hx) ki⟩,⟨Mh h3 km,λ x hx=>?_⟩,⟨Mh h4 kv,λ x hx=>⟨Nat.le_trans (h4.2 x hx).1 (by decide),Mh (h4.2 x hx).2.1.2.2 kb⟩⟩,Mh h5 ks,λ x hx=>Nat.le_trans (h5.2 x hx) (by decide)⟩,λ x hx=>?_,λ x hx=>B6a (h4.2 x hx).2.1.2.2⟩
 ·obtain ⟨_,⟨a1,a2⟩,a3,a4⟩:=h3.2 x hx
  exact ⟨⟨(Qf a1 kb kn).1,(Qf a2 kb kn).1⟩,Eya a3 kr,Eya a4 kr⟩
 ·obtain ⟨_,⟨a1,a2⟩,_,_⟩:=h3.2 x hx
  exact ⟨(Qf a1 kb kn).2,(Qf a2 kb kn).2⟩
end

end Go.Proofs.YtlfoljnopndpeaaGreat.Vf

section
set_option linter.unusedVariables false
set_option linter.unusedSimpArgs false
namespace Go.Proofs.YtlfoljnopndpeaaGreat.Pure
open Go Go.RowKit Go.Proofs.YtlfoljnopndpeaaGreat.Vf
theorem FnExactSafe:∀ (a0:(List (Int×Int×Int))×(Int×(List (List Int)))×(List (Int×((List (ByteArray×(List Int)))×(List (ByteArray×(List Int))))×(List (ByteArray×(Int×Int×Int)×Bool×Int))×(List (ByteArray×(Int×Int×Int)×Bool×Int))))×(Int×Int×Int)×(List (ByteArray×((Int×Int×Int)×Bool×(List Int))×Bool))×(List ByteArray)),Ty.fit ti (.pr (.sl 106 (.pr (.i .i64) (.pr (.i .i64) (.i .i64)))) (.pr (.pr (.i .i64) (.sl 136 (.sl 3 (.i .i64)))) (.pr (.sl 84 (.pr (.i .i64) (.pr (.pr (.sl 197 (.pr .s (.sl 5 (.i .u8)))) (.sl 197 (.pr .s (.sl 5 (.i .u8))))) (.pr (.sl 176 (.pr .s (.pr (.pr (.i .i64) (.pr (.i .i64) (.i .i64))) (.pr .b (.i .i64))))) (.sl 176 (.pr .s (.pr (.pr (.i .i64) (.pr (.i .i64) (.i .i64))) (.pr .b (.i .i64))))))))) (.pr (.pr (.i .i64) (.pr (.i .i64) (.i .i64))) (.pr (.sl 90 (.pr .s (.pr (.pr (.pr (.i .i64) (.pr (.i .i64) (.i .i64))) (.pr .b (.sl 5 (.i .u8)))) .b))) (.sl 9 .s)))))) a0→∃ k,E5 k a0=some true:=by
 intro a0 f0
 obtain ⟨hg,hb⟩:=Sta (by kernel_rfl) f0
 refine Tot.law (f:=λ k=>E5 k a0) ?_
 unfold E5
 refine Tot.bind (G8a a0 hg (by decide) (by decide)) ?_
 intro r hr
 refine Tot.dite (λ _=>Tot.pure rfl) (λ h=>?_)
 rcases hr with hr|⟨_,_,hs⟩
 ·exact absurd hr h
 have hw:=Pla hs hb
 refine Tot.bind (R9 a0 hs) ?_
 rintro _ rfl
 refine Tot.bind (N1a _ hw) ?_
 rintro _ rfl
 refine Tot.bind (R9 _ hs) ?_
 rintro w rfl
 refine Tot.bind (N0a w hw) ?_
 rintro _ rfl
 refine Tot.no (by rw [bne,beq_self_eq_true]; rfl) (Tot.bind (R9 w hs) ?_)
 rintro _ rfl
 refine Tot.bind (Gha _ hs) ?_
 rintro _ rfl
 exact Tot.pure rfl
end Go.Proofs.YtlfoljnopndpeaaGreat.Pure
end
