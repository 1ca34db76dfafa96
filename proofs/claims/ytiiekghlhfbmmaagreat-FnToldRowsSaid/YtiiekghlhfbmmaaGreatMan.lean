import Derived.Test.YtiiekghlhfbmmaaGreatMam
set_option linter.all false
namespace Go.Proofs.YtiiekghlhfbmmaaGreat.Vf
open Go
open List (length getD)
open Int (toNat)
open Go.IntKind (wrap)
open BitVec (ofInt)
def Wj:=@List.take_succ_eq_append_getElem
def Glb:=@List.length_pos_of_mem
def Gob:=@List.foldl_append
def H1b:=@List.length_erase_of_mem
def Hlb:=@List.exists_mem_of_length_pos
def Hqb:=@List.mem_erase_of_ne
def Hxb:=@List.range_succ
def Hyb:=@BitVec.getLsbD_ushiftRight
def Ilb:=@List.set_append_right

abbrev Dev:=Int×Int×Int
abbrev Rng:=Int×List (List Int)
def Mv:Dev:=((0:Int),((0:Int),(0:Int)))
def Mr (l:List Int) (n:Int):Bool:=l.any (· == n)
def Oj {l:List Int} {n:Int}:Mr l n=true↔n∈l:=by
 unfold Mr
 rw[G5b]
 constructor
 ·rintro⟨x,hx,e⟩;rw[← eq_of_beq e];exact hx
 ·intro h;exact⟨n,h,beq_self_eq_true n⟩
def Sca (l:List Int) (n:Int) (hl:l.length≤4000000000000000):Tot (λ k=>Hh k l n) (λ r=>r=Mr l n):=by
 unfold Hh
 refine Feb (Q:=λ r=>r=bif Mr l n then .inl true else .inr ()) ?_ (by rintro r rfl;cases Mr l n<;>exact Fdb rfl)
 refine Fmb (L:=λ k i (_:Unit)=>H1 k n l (l.length:Int) i) (Q:=λ r=>r=bif Mr l n then .inl true else .inr ()) l.length (λ j _=>Mr (l.drop j) n=Mr l n) ?_ ?_ 0 () (Vs _) rfl
 ·intro _ h
  rw[Wi]at h
  simp (disch:=omega) only [H1,dF,← h]
  exact Fdb rfl
 ·intro j _ hj h next
  rw[Ap (d:=0) hj]at h
  simp (disch:=omega) only [H1,dT,Vb,w64]
  unfold Mr at h
  rw[H2b]at h
  refine Fjb (λ hc=>Fdb ?_) (λ hc=>next () ?_)
  ·rw[hc,Ijb]at h
   unfold Mr
   rw[← h]
   rfl
  ·rw[hc,G9b]at h
   exact h
def Sn (l:List Int) (n:Int) (hl:l.length≤4000000000000000):Tot (λ k=>Cl k l n) (λ r=>r=Mr l n):=by
 unfold Cl
 refine Feb (Q:=λ r=>r=bif Mr l n then .inl true else .inr ()) ?_ (by rintro r rfl;cases Mr l n<;>exact Fdb rfl)
 refine Fmb (L:=λ k i (_:Unit)=>Hr k l n i) (Q:=λ r=>r=bif Mr l n then .inl true else .inr ()) l.length (λ j _=>Mr (l.drop j) n=Mr l n) ?_ ?_ 0 () (Vs _) rfl
 ·intro _ h
  rw[Wi]at h
  simp (disch:=omega) only [Hr,dF,← h]
  exact Fdb rfl
 ·intro j _ hj h next
  rw[Ap (d:=0) hj]at h
  simp (disch:=omega) only [Hr,dT,Vb,w64]
  unfold Mr at h
  rw[H2b]at h
  refine Fjb (λ hc=>Fdb ?_) (λ hc=>next () ?_)
  ·rw[hc,Ijb]at h
   unfold Mr
   rw[← h]
   rfl
  ·rw[hc,G9b]at h
   exact h
def Ji (l:List Dev) (id:Int):Option Dev:=l.find? (λ d=>d.1==id)
def Emb:Option Dev→Dev×Bool
 |some d=>(d,true)
 |none=>(Mv,false)
def Uy {l:List Dev} {id:Int} {d:Dev} (h:Ji l id=some d):d∈l∧d.1=id:=⟨I6b h,eq_of_beq (List.find?_some (p:=λ d:Dev=>d.1==id) h)⟩
def Sda (l:List Dev) (id:Int) (hl:l.length≤1000000000):Tot (λ k=>K7 k l id) (λ r=>r=Emb (Ji l id)):=by
 unfold K7
 refine Feb (Q:=λ r=>r=match Ji l id with|some d => .inl (true,d)|none => .inr (0,0,0)) ?_ (by rintro r rfl;cases Ji l id<;>exact Fdb rfl)
 refine Fmb (L:=λ k i (_:Unit)=>I5 k id l (l.length:Int) i (0,0,0)) (Q:=λ r=>r=match Ji l id with|some d => .inl (true,d)|none => .inr (0,0,0)) l.length (λ j _=>Ji (l.drop j) id=Ji l id) ?_ ?_ 0 () (Vs _) rfl
 ·intro _ h
  rw[Wi]at h
  simp (disch:=omega) only [I5,dF,← h]
  exact Fdb rfl
 ·intro j _ hj h next
  rw[Ap (d:=Mv) hj]at h
  unfold Ji at h
  rw[Gfb]at h
  simp (disch:=omega) only [I5,dT,Vb,w64]
  refine Fjb (λ hc=>Fdb ?_) (λ hc=>next () ?_)
  ·rw[show ((l.getD j Mv).1==id)=true from hc]at h
   unfold Ji
   rw[← h]
   rfl
  ·rw[show ((l.getD j Mv).1==id)=false from hc]at h
   exact h
def Qx (l:List Dev) (id:Int) (hl:l.length≤1000000000):Tot (λ k=>E9 k l id) (λ r=>r=Emb (Ji l id)):=by
 unfold E9
 refine Feb (Q:=λ r=>r=match Ji l id with|some d => .inl (true,d)|none => .inr (0,0,0)) ?_ (by rintro r rfl;cases Ji l id<;>exact Fdb rfl)
 refine Fmb (L:=λ k i (_:Unit)=>Hs k l id i (0,0,0)) (Q:=λ r=>r=match Ji l id with|some d => .inl (true,d)|none => .inr (0,0,0)) l.length (λ j _=>Ji (l.drop j) id=Ji l id) ?_ ?_ 0 () (Vs _) rfl
 ·intro _ h
  rw[Wi]at h
  simp (disch:=omega) only [Hs,dF,← h]
  exact Fdb rfl
 ·intro j _ hj h next
  rw[Ap (d:=Mv) hj]at h
  unfold Ji at h
  rw[Gfb]at h
  simp (disch:=omega) only [Hs,dT,Vb,w64]
  refine Fjb (λ hc=>Fdb ?_) (λ hc=>next () ?_)
  ·rw[show ((l.getD j Mv).1==id)=true from hc]at h
   unfold Ji
   rw[← h]
   rfl
  ·rw[show ((l.getD j Mv).1==id)=false from hc]at h
   exact h
def Aea (d:Dev):Bool:=inR d.1 0 20&&(inR d.2.1 0 20&&inR d.2.2 1 1000)
def Ww:Option Int→List Dev→Bool
 |_,[]=>true
 |none,d::l=>Aea d&&Ww (some d.1) l
 |some q,d::l=>Aea d&&(decide (q<d.1)&&Ww (some d.1) l)
def Lc (l:List Dev):Bool:=Ww none l&&inR (l.length:Int) 1 12
def Gta (l:List Dev):Nat→Option Int
 |0=>none
 |i+1=>some (l.getD i Mv).1
def Dua:∀ (p:Option Int) (l:List Dev),Ww p l=true↔l.Pairwise (λ a b=>a.1<b.1)∧(∀ d∈l,Aea d=true)∧(∀ q,p=some q→∀ d∈l,q<d.1)
 |p,[]=>by cases p<;>simp[Ww]
 |none,d::l=>by
  simp only[Ww,Va,Dua (some d.1) l,Wg,Vl,forall_eq_or_imp,Vg]
  constructor
  ·rintro⟨h1,h2,h3,h4⟩;exact⟨⟨h4 _ rfl,h2⟩,⟨h1,h3⟩,λ q h=>by cases h⟩
  ·rintro⟨⟨h1,h2⟩,⟨h3,h4⟩,_⟩;exact⟨h3,h2,h4,λ q e=>by subst e;exact h1⟩
 |some q,d::l=>by
  simp only[Ww,Va,decide_eq_true_iff,Dua (some d.1) l,Wg,Vl,forall_eq_or_imp,Vg]
  constructor
  ·rintro⟨h1,hq,h2,h3,h4⟩
   exact⟨⟨h4 _ rfl,h2⟩,⟨h1,h3⟩,λ q' e=>by subst e;exact⟨hq,λ x hx=>by have:=h4 _ rfl x hx;omega⟩⟩
  ·rintro⟨⟨h1,h2⟩,⟨h3,h4⟩,h5⟩
   exact⟨h3,(h5 q rfl).1,h2,h4,λ q e=>by subst e;exact h1⟩
def Fg {l:List Dev}:Lc l=true↔l.Pairwise (λ a b=>a.1<b.1)∧(∀ d∈l,Aea d=true)∧1≤l.length∧l.length≤12:=by
 unfold Lc
 rw[Va,Dua,Cy]
 constructor
 ·rintro⟨⟨h1,h2,_⟩,h3,h4⟩;exact⟨h1,h2,by omega,by omega⟩
 ·rintro⟨h1,h2,h3,h4⟩;exact⟨⟨h1,h2,λ q h=>by cases h⟩,by omega,by omega⟩
def Nf {d:Dev}:Aea d=true↔(0≤d.1∧d.1≤20)∧(0≤d.2.1∧d.2.1≤20)∧1≤d.2.2∧d.2.2≤1000:=by
 unfold Aea
 rw[Va,Va,Cy,Cy,Cy]
def Gua {l:List Dev} {j:Nat} (hj:j<l.length):Ww (Gta l j) (l.drop j)=(Aea (l.getD j Mv)&&((bif decide (0<j) then decide ((l.getD (j-1) Mv).1<(l.getD j Mv).1) else true)&&Ww (Gta l (j+1)) (l.drop (j+1)))):=by
 rw[Ap (d:=Mv) hj]
 cases j with
 |zero=>simp[Gta,Ww]
 |succ j=>simp[Gta,Ww]
def W2a (l:List Dev) (hl:l.length≤1000000000):Tot (λ k=>Ge k l) (λ r=>r=Lc l):=by
 unfold Ge Lc
 refine Feb (Q:=λ r=>r=bif Ww none l then .inr l else .inl false) ?_ ?_
 ·refine Fmb (L:=λ k i (_:Unit)=>G6 k l l (l.length:Int) i) (Q:=λ r=>r=bif Ww none l then .inr l else .inl false) l.length (λ j _=>Ww (Gta l j) (l.drop j)=Ww none l) ?_ ?_ 0 () (Vs _) rfl
  ·intro _ h
   rw[Wi]at h
   have:Ww none l=true:=by rw[← h];cases Gta l l.length<;>rfl
   simp (disch:=omega) only [G6,dF,this]
   exact Fdb rfl
  ·intro j _ hj h next
   rw[Gua hj]at h
   simp (disch:=omega) only [G6,dT,Vb,w64,Th,Vo]
   have e0:l.getD j ((0:Int),((0:Int),(0:Int)))=l.getD j Mv:=rfl
   rw[e0]
   have no:Aea (l.getD j Mv)=false→Ww none l=false:=λ c=>by rw[← h,c];rfl
   unfold Aea at no h
   refine Fjb (λ hc=>Fdb ?_) (λ h1=>Fjb (λ hc=>Fdb ?_) (λ h2=>Fjb (λ hc=>Fdb ?_) (λ h3=>?_)))
   ·rw[no (by rw[Vv]at hc;rw[hc];rfl)];rfl
   ·rw[no (by rw[Vv]at hc;rw[hc,Ze,Yd])];rfl
   ·rw[no (by rw[Vv]at hc;rw[hc,Yd,Yd])];rfl
   ·rw[Wh]at h1 h2 h3
    rw[h1,h2,h3]at h
    refine Fkb (λ h0=>?_) (λ h0=>next () ?_)
    ·simp (disch:=omega) only [dT,w64,show toNat ((j:Int)-1)=j-1 by omega]
     rw[decide_eq_true (show 0<j by omega)]at h
     refine Fkb (λ hc=>Fdb ?_) (λ hc=>next () ?_)
     ·have hc':¬ ((l.getD (j-1) Mv).1<(l.getD j Mv).1):=by
       have:(l.getD (j-1) Mv).1≥(l.getD j Mv).1:=hc
       omega
      rw[decide_eq_false hc']at h
      rw[← h];rfl
     ·have hc':(l.getD (j-1) Mv).1<(l.getD j Mv).1:=by
       have:¬ ((l.getD (j-1) Mv).1≥(l.getD j Mv).1):=hc
       omega
      rw[decide_eq_true hc']at h
      exact h
    ·rw[decide_eq_false (show ¬ 0<j by omega)]at h
     exact h
 ·rintro r rfl
  cases Ww none l
  ·exact Fdb rfl
  simp only[cond_true,G7b,Th,Vo]
  exact Fdb rfl
def Xh (l:List Dev) (hl:l.length≤1000000000):Tot (λ k=>C1 k l) (λ r=>r=Lc l):=by
 unfold C1 Lc
 refine Feb (Q:=λ r=>r=bif Ww none l then .inr l else .inl false) ?_ ?_
 ·refine Fmb (L:=λ k i (_:Unit)=>Fz k l i) (Q:=λ r=>r=bif Ww none l then .inr l else .inl false) l.length (λ j _=>Ww (Gta l j) (l.drop j)=Ww none l) ?_ ?_ 0 () (Vs _) rfl
  ·intro _ h
   rw[Wi]at h
   have:Ww none l=true:=by rw[← h];cases Gta l l.length<;>rfl
   simp (disch:=omega) only [Fz,dF,this]
   exact Fdb rfl
  ·intro j _ hj h next
   rw[Gua hj]at h
   simp (disch:=omega) only [Fz,dT,Vb,w64,Nb,Vo]
   have e0:l.getD j ((0:Int),((0:Int),(0:Int)))=l.getD j Mv:=rfl
   rw[e0]
   have no:Aea (l.getD j Mv)=false→Ww none l=false:=λ c=>by rw[← h,c];rfl
   unfold Aea at no h
   refine Fjb (λ hc=>Fdb ?_) (λ h1=>Fjb (λ hc=>Fdb ?_) (λ h2=>Fjb (λ hc=>Fdb ?_) (λ h3=>?_)))
   ·rw[no (by rw[Vv]at hc;rw[hc];rfl)];rfl
   ·rw[no (by rw[Vv]at hc;rw[hc,Ze,Yd])];rfl
   ·rw[no (by rw[Vv]at hc;rw[hc,Yd,Yd])];rfl
   ·rw[Wh]at h1 h2 h3
    rw[h1,h2,h3]at h
    refine Fkb (λ h0=>?_) (λ h0=>next () ?_)
    ·simp (disch:=omega) only [dT,w64,show toNat ((j:Int)-1)=j-1 by omega]
     rw[decide_eq_true (show 0<j by omega)]at h
     refine Fkb (λ hc=>Fdb ?_) (λ hc=>next () ?_)
     ·have hc':¬ ((l.getD (j-1) Mv).1<(l.getD j Mv).1):=by
       have:(l.getD (j-1) Mv).1≥(l.getD j Mv).1:=hc
       omega
      rw[decide_eq_false hc']at h
      rw[← h];rfl
     ·have hc':(l.getD (j-1) Mv).1<(l.getD j Mv).1:=by
       have:¬ ((l.getD (j-1) Mv).1≥(l.getD j Mv).1):=hc
       omega
      rw[decide_eq_true hc']at h
      exact h
    ·rw[decide_eq_false (show ¬ 0<j by omega)]at h
     exact h
 ·rintro r rfl
  cases Ww none l
  ·exact Fdb rfl
  simp only[cond_true,G7b,Nb,Vo]
  exact Fdb rfl
def Jma (l:List Dev) (out:List Int) (id:Int):List Int:=match Ji l id with
 |some d=>bif Mr out d.2.1 then out else out++[d.2.1]
 |none=>out
def Jv (ids:List Int) (l:List Dev):List Int:=ids.foldl (Jma l) []
def Gva (l:List Dev) (out:List Int) (id:Int):(Jma l out id).length≤out.length+1:=by
 unfold Jma
 cases Ji l id with
 |none=>exact G0b _
 |some d=>
  simp only
  cases Mr out d.2.1 with
  |true=>exact G0b _
  |false=>rw[cond_false,Ve];exact Vw _
def Gwa (l:List Dev):∀ (ids out:List Int),(ids.foldl (Jma l) out).length≤out.length+ids.length
 |[],out=>by simp
 |id::ids,out=>by
  have h1:=Gwa l ids (Jma l out id)
  have h2:=Gva l out id
  rw[Zp,Vc]
  omega
def Gxa (ids:List Int) (l:List Dev) (hi:ids.length≤5000000) (hl:l.length≤5000000):Tot (λ k=>Ct k ids l) (λ r=>r=Jv ids l):=by
 unfold Ct
 refine Feb (Q:=λ r=>r=Jv ids l) ?_ (by rintro r rfl;exact Fdb rfl)
 refine Fmb (L:=λ k i s=>Di k ids l s i) (Q:=λ r=>r=Jv ids l) ids.length (λ j s=>(ids.drop j).foldl (Jma l) s=Jv ids l∧s.length≤j) ?_ ?_ 0 [] (Vs _) ⟨rfl,Vw _⟩
 ·rintro s ⟨h,_⟩
  rw[Wi]at h
  simp (disch:=omega) only [Di,dF]
  exact Fdb h
 ·rintro j s hj ⟨h,hs⟩ next
  rw[Ap (d:=0) hj,Zp]at h
  simp (disch:=omega) only [Di,dT,Vb,w64]
  have hz:=Gva l s (ids.getD j 0)
  refine Fpb (Qx l (ids.getD j 0) (by omega)) ?_
  unfold Jma at h hz
  cases hd:Ji l (ids.getD j 0) with
  |none=>
   rw[hd]at h
   exact Ffb rfl (next _ ⟨h,by omega⟩)
  |some d=>
   rw[hd]at h hz
   refine Fgb rfl (Fpb (Sn s d.2.1 (by omega)) ?_)
   simp only at h hz
   cases hh:Mr s d.2.1 with
   |true=>
    rw[hh]at h
    exact Ffb rfl (next _ ⟨h,by omega⟩)
   |false=>
    rw[hh]at h hz
    exact Fgb rfl (Flb (by simp only[Vc,Vj];omega) (next _ ⟨h,by rw[cond_false]at hz;exact Zs hz (by omega)⟩))

def Qy {l:List Int} {j:Nat} (hj:j<l.length) (h:(l.take j).Nodup) (hn:l.getD j 0∉l.take j):(l.take (j+1)).Nodup:=by
 rw[Wj hj,Ym]
 rw[Vd,Vk hj,Yp]at hn
 exact⟨h,by simp,λ a ha b hb e=>by rw[Vt.1 hb]at e;subst e;exact hn ha⟩
def Gya {l:List Int} {j:Nat} (hj:j<l.length) (hn:l.getD j 0∈l.take j):¬ l.Nodup:=by
 intro h
 have h1:(l.take (j+1)).Nodup:=h.sublist (I9b _ _)
 rw[Wj hj,Ym]at h1
 rw[Vd,Vk hj,Yp]at hn
 exact h1.2.2 _ hn _ (by simp) rfl
def Sea (l:List Int) (hl:l.length≤5000000):Tot (λ k=>Ie k l) (λ r=>r=decide l.Nodup):=by
 unfold Ie
 refine Feb (Q:=λ r=>r=bif decide l.Nodup then .inr () else .inl false) ?_ (by rintro r rfl;cases decide l.Nodup<;>exact Fdb rfl)
 refine Fmb (L:=λ k i (_:Unit)=>I4 k l l (l.length:Int) i) (Q:=λ r=>r=bif decide l.Nodup then .inr () else .inl false) l.length (λ j _=>(l.take j).Nodup) ?_ ?_ 0 () (Vs _) (by simp)
 ·intro _ h
  rw[Yt]at h
  simp (disch:=omega) only [I4,dF,decide_eq_true h]
  exact Fdb rfl
 ·intro j _ hj h next
  simp (disch:=omega) only [I4,dT,Vb,w64]
  refine Fpb (Sca (l.take j) (l.getD j 0) (by rw[Vu];omega)) ?_
  refine Fjb (λ hc=>Fdb ?_) (λ hc=>next () (Qy hj h (λ c=>by rw[Oj.2 c]at hc;cases hc)))
  rw[decide_eq_false (Gya hj (Oj.1 hc))]
  rfl
def M8a (l:List Int) (n:Int) (hl:l.length≤5000000):Tot (λ k=>Ec k l n) (λ r=>r=(decide l.Nodup&&((l.length:Int)==n))):=by
 unfold Ec
 refine Feb (Q:=λ r=>r=bif decide l.Nodup then .inr (n,l) else .inl false) ?_ (by rintro r rfl;cases decide l.Nodup<;>exact Fdb rfl)
 refine Fmb (L:=λ k i (_:Unit)=>Gy k n i l) (Q:=λ r=>r=bif decide l.Nodup then .inr (n,l) else .inl false) l.length (λ j _=>(l.take j).Nodup) ?_ ?_ 0 () (Vs _) (by simp)
 ·intro _ h
  rw[Yt]at h
  simp (disch:=omega) only [Gy,dF,decide_eq_true h]
  exact Fdb rfl
 ·intro j _ hj h next
  simp (disch:=omega) only [Gy,dT,Vb,w64]
  refine Fpb (Sn (l.take j) (l.getD j 0) (by rw[Vu];omega)) ?_
  refine Fjb (λ hc=>Fdb ?_) (λ hc=>next () (Qy hj h (λ c=>by rw[Oj.2 c]at hc;cases hc)))
  rw[decide_eq_false (Gya hj (Oj.1 hc))]
  rfl
def RBd (r:Rng):Prop:=r.2.length≤2000000∧∀ p∈r.2,p.length≤2000000
def Lq (l:List Dev) (n:Int) (p:List Int):Bool:=(decide p.Nodup&&((p.length:Int)==n))&&p.all λ id=>(Ji l id).isSome
def Ik (r:Rng) (l:List Dev):Bool:=Lc l&&(inR r.1 1 5&&(inR (r.2.length:Int) 1 64&&r.2.all (Lq l r.1)))
def Cd {r:Rng} {l:List Dev}:Ik r l=true↔Lc l=true∧(1≤r.1∧r.1≤5)∧(1≤r.2.length∧r.2.length≤64)∧∀ p∈r.2,p.Nodup∧(p.length:Int)=r.1∧∀ id∈p,∃ d,Ji l id=some d:=by
 unfold Ik Lq
 simp only[Va,Cy,Ys,decide_eq_true_iff,beq_iff_eq,Zm]
 constructor
 ·rintro⟨h1,h2,⟨h3,h4⟩,h5⟩;exact⟨h1,h2,⟨by omega,by omega⟩,λ p hp=>⟨(h5 p hp).1.1,(h5 p hp).1.2,(h5 p hp).2⟩⟩
 ·rintro⟨h1,h2,⟨h3,h4⟩,h5⟩;exact⟨h1,h2,⟨by omega,by omega⟩,λ p hp=>⟨⟨(h5 p hp).1,(h5 p hp).2.1⟩,(h5 p hp).2.2⟩⟩
def Lr {r:Rng} {l:List Dev} (h:Ik r l=true):RBd r:=by
 obtain⟨_,h2,h3,h4⟩:=Cd.1 h
 exact⟨by omega,λ p hp=>by have:=(h4 p hp).2.1;omega⟩
def W3a (r:Rng) (l:List Dev) (hr:RBd r) (hl:l.length≤5000000):Tot (λ k=>F8 k r l) (λ b=>b=Ik r l):=by
 unfold F8 Ik
 refine Fpb (W2a l (by omega)) ?_
 cases hd:Lc l
 ·exact Fgb rfl (Fdb rfl)
 have hrl:=hr.1
 simp only[Zd,cond_false,Th,Vo,Vy]
 cases inR r.1 1 5
 ·exact Fgb rfl (Fdb rfl)
 refine Ffb rfl ?_
 cases inR (r.2.length:Int) 1 64
 ·exact Fgb rfl (Fdb rfl)
 refine Ffb rfl (Feb (Q:=λ b=>b=bif r.2.all (Lq l r.1) then .inr () else .inl false) ?_ (by rintro r' rfl;cases r.2.all (Lq l r.1)<;>exact Fdb rfl))
 refine Fmb (L:=λ k i (_:Unit)=>H3 k l r.2 (r.2.length:Int) i r) (Q:=λ b=>b=bif r.2.all (Lq l r.1) then .inr () else .inl false) r.2.length (λ j _=>(r.2.drop j).all (Lq l r.1)=r.2.all (Lq l r.1)) ?_ ?_ 0 () (Vs _) rfl
 ·intro _ h
  rw[Wi]at h
  simp (disch:=omega) only [H3,dF,← h]
  exact Fdb rfl
 ·intro j _ hj h next
  rw[Ap (d:=[]) hj,Fsb]at h
  have hp:=hr.2 _ (A4 (d:=[]) hj)
  simp (disch:=omega) only [H3,dT,Vb,w64]
  have no:Lq l r.1 (r.2.getD j [])=false→r.2.all (Lq l r.1)=false:=λ c=>by rw[← h,c];rfl
  unfold Lq at no h
  refine Fjb (λ hc=>Fdb ?_) (λ h1=>Feb (Sea (r.2.getD j []) (by omega)) ?_)
  ·have hc':(((r.2.getD j []).length:Int)==r.1)=false:=by simpa using hc
   rw[show r.2.all (Lq l r.1)=false from no (by rw[hc',Yd,Ze])]
   rfl
  ·have h1':(((r.2.getD j []).length:Int)==r.1)=true:=by simpa using h1
   rintro b rfl
   refine Fjb (λ hc=>Fdb ?_) (λ h2=>?_)
   ·rw[show r.2.all (Lq l r.1)=false from no (by rw[Vv]at hc;rw[hc];rfl)]
    rfl
   ·rw[Wh]at h2
    generalize r.2.getD j []=p at *
    refine Feb (Q:=λ b=>b=bif p.all (λ id=>(Ji l id).isSome) then .inr (l,r.2,(r.2.length:Int),(j:Int),r) else .inl false) ?_ ?_
    ·refine Fmb (L:=λ k i (_:Unit)=>H2 k l r.2 (r.2.length:Int) (j:Int) p (p.length:Int) i r) (Q:=λ b=>b=bif p.all (λ id=>(Ji l id).isSome) then .inr (l,r.2,(r.2.length:Int),(j:Int),r) else .inl false) p.length (λ m _=>(p.drop m).all (λ id=>(Ji l id).isSome)=p.all (λ id=>(Ji l id).isSome)) ?_ ?_ 0 () (Vs _) rfl
     ·intro _ h
      rw[Wi]at h
      simp (disch:=omega) only [H2,dF,← h]
      exact Fdb rfl
     ·intro m _ hm h next
      rw[Ap (d:=0) hm,Fsb]at h
      simp (disch:=omega) only [H2,dT,Vb,w64]
      refine Fpb (Sda l (p.getD m 0) (by omega)) ?_
      cases hd:Ji l (p.getD m 0) with
      |none=>exact Fgb rfl (Fdb (by rw[← h,hd];rfl))
      |some d=>exact Ffb rfl (next () (by rw[hd]at h;exact h))
    ·rintro b rfl
     cases hc:p.all (λ id=>(Ji l id).isSome)
     ·exact Fdb (by rw[show r.2.all (Lq l r.1)=false from no (by rw[hc,Yd])];rfl)
     simp (disch:=omega) only [cond_true,G7b,w64]
     exact next () (by rw[h2,h1',hc]at h;exact h)
def W4a (r:Rng) (l:List Dev) (hr:RBd r) (hl:l.length≤5000000):Tot (λ k=>F9 k r l) (λ b=>b=Ik r l):=by
 unfold F9 Ik
 refine Fpb (Xh l (by omega)) ?_
 cases hd:Lc l
 ·exact Fgb rfl (Fdb rfl)
 have hrl:=hr.1
 simp only[Zd,cond_false,Nb,Vo,Vy]
 cases inR r.1 1 5
 ·exact Fgb rfl (Fdb rfl)
 refine Ffb rfl ?_
 cases inR (r.2.length:Int) 1 64
 ·exact Fgb rfl (Fdb rfl)
 refine Ffb rfl (Feb (Q:=λ b=>b=bif r.2.all (Lq l r.1) then .inr () else .inl false) ?_ (by rintro r' rfl;cases r.2.all (Lq l r.1)<;>exact Fdb rfl))
 refine Fmb (L:=λ k i (_:Unit)=>H6 k l i r) (Q:=λ b=>b=bif r.2.all (Lq l r.1) then .inr () else .inl false) r.2.length (λ j _=>(r.2.drop j).all (Lq l r.1)=r.2.all (Lq l r.1)) ?_ ?_ 0 () (Vs _) rfl
 ·intro _ h
  rw[Wi]at h
  simp (disch:=omega) only [H6,dF,← h]
  exact Fdb rfl
 ·intro j _ hj h next
  rw[Ap (d:=[]) hj,Fsb]at h
  have hp:=hr.2 _ (A4 (d:=[]) hj)
  simp (disch:=omega) only [H6,dT,Vb,w64]
  have no:Lq l r.1 (r.2.getD j [])=false→r.2.all (Lq l r.1)=false:=λ c=>by rw[← h,c];rfl
  unfold Lq at no h
  refine Fpb (M8a (r.2.getD j []) r.1 (by omega)) ?_
  refine Fjb (λ hc=>Fdb ?_) (λ h2=>?_)
  ·rw[show r.2.all (Lq l r.1)=false from no (by rw[Vv]at hc;rw[hc];rfl)]
   rfl
  ·rw[Wh]at h2
   refine Feb (Q:=λ b=>b=bif (r.2.getD j []).all (λ id=>(Ji l id).isSome) then .inr (l,(j:Int),r) else .inl false) ?_ ?_
   ·refine Fmb (L:=λ k i (_:Unit)=>H5 k l (j:Int) i r) (Q:=λ b=>b=bif (r.2.getD j []).all (λ id=>(Ji l id).isSome) then .inr (l,(j:Int),r) else .inl false) (r.2.getD j []).length (λ m _=>((r.2.getD j []).drop m).all (λ id=>(Ji l id).isSome)=(r.2.getD j []).all (λ id=>(Ji l id).isSome)) ?_ ?_ 0 () (Vs _) rfl
    ·intro _ h
     rw[Wi]at h
     simp (disch:=omega) only [H5,dT,dF,Vb,← h]
     exact Fdb rfl
    ·intro m _ hm h next
     rw[Ap (d:=0) hm,Fsb]at h
     simp (disch:=omega) only [H5,dT,Vb,w64]
     refine Fpb (Qx l ((r.2.getD j []).getD m 0) (by omega)) ?_
     cases hd:Ji l ((r.2.getD j []).getD m 0) with
     |none=>exact Fgb rfl (Fdb (by rw[← h,hd];rfl))
     |some d=>exact Ffb rfl (next () (by rw[hd]at h;exact h))
   ·rintro b rfl
    cases hc:(r.2.getD j []).all (λ id=>(Ji l id).isSome)
    ·exact Fdb (by rw[show r.2.all (Lq l r.1)=false from no (by rw[hc,Yd])];rfl)
    simp (disch:=omega) only [cond_true,G7b,w64]
    exact next () (by rw[h2,hc]at h;exact h)
def W1 (l:List Int) (hl:l.length≤5000000):Fa l=some l:=by
 unfold Fa
 rw[bT (by simp only[Vj];omega),Vz]
def Gza (r:Rng) (hr:RBd r):Tot (λ k=>De k r) (λ x=>x=r):=by
 have hrl:=hr.1
 unfold De
 refine Feb (Q:=λ x=>x=((0,[]),r)) ?_ (by rintro x rfl;exact Fdb rfl)
 refine Fmb (L:=λ k i s=>Es k r.2 (r.2.length:Int) i (0,[]) (r.1,s)) (Q:=λ x=>x=((0,[]),r)) r.2.length (λ j s=>s=r.2.take j) ?_ ?_ 0 [] (Vs _) rfl
 ·rintro s rfl
  simp (disch:=omega) only [Es,dF,Yt]
  exact Fdb rfl
 ·rintro j s hj rfl next
  have hp:=hr.2 _ (A4 (d:=[]) hj)
  simp (disch:=omega) only [Es,dT,Vb,w64,W1,Vo]
  refine Flb (by simp only[Vu,Vc,Vj];omega) (next _ ?_)
  rw[Wj hj,Vd,Vk hj,Yp]
def W2 (r:Rng) (hr:RBd r):Tot (λ k=>Im k r) (λ x=>x=r):=by
 have hrl:=hr.1
 unfold Im
 refine Feb (Q:=λ x=>x=((0,[]),r)) ?_ (by rintro x rfl;exact Fdb rfl)
 refine Fmb (L:=λ k i s=>G5 k i r (0,[]) (r.1,s)) (Q:=λ x=>x=((0,[]),r)) r.2.length (λ j s=>s=r.2.take j) ?_ ?_ 0 [] (Vs _) rfl
 ·rintro s rfl
  simp (disch:=omega) only [G5,dF,Yt]
  exact Fdb rfl
 ·rintro j s hj rfl next
  have hp:=hr.2 _ (A4 (d:=[]) hj)
  simp (disch:=omega) only [G5,dT,Vb,w64]
  refine Flb (by simp only[Vj];omega) (Flb (by simp only[Vu,Vc,Vj];omega) (next _ ?_))
  rw[Wj hj,Vd,Vk hj,Yp,Vz]
def cnt (id n x:Int):Int:=bif x==id then n+1 else n
def Jna (id n:Int) (p:List Int):Int:=p.foldl (cnt id) n
def Ly (r:Rng) (id:Int):Int:=r.2.foldl (Jna id) 0
def Joa (id:Int):∀ (p:List Int) (n:Int),n≤Jna id n p∧Jna id n p≤n+p.length
 |[],n=>by simp[Jna]
 |x::p,n=>by
  have h:=Joa id p (cnt id n x)
  unfold Jna at h ⊢
  have hc:n≤cnt id n x∧cnt id n x≤n+1:=by unfold cnt;cases x==id<;>simp<;>omega
  rw[Zp,Vc]
  omega
def Sfa (id:Int) (m:Nat):∀ (ps:List (List Int)) (n:Int),(∀ p∈ps,p.length≤m)→n≤ps.foldl (Jna id) n∧ps.foldl (Jna id) n≤n+(m*ps.length:Nat)
 |[],n,_=>by simp
 |p::ps,n,h=>by
  have h1:=Sfa id m ps (Jna id n p) (λ q hq=>h q (Vi _ hq))
  have h2:=Joa id p n
  have h3:=h p Za
  rw[Zp,Vc,Nat.mul_succ]
  omega
def Tp {r:Rng} (hr:RBd r) (id:Int):0≤Ly r id∧Ly r id≤4000000000000:=by
 have h:=Sfa id 2000000 r.2 0 hr.2
 have h2:=hr.1
 unfold Ly
 omega
def Xi (r:Rng) (id:Int) (hr:RBd r):Tot (λ k=>Cq k r id) (λ x=>x=Ly r id):=by
 have hrl:=hr.1
 unfold Cq
 refine Feb (Q:=λ x=>x=Ly r id) ?_ (by rintro x rfl;exact Fdb rfl)
 refine Fmb (L:=λ k i s=>Gt k id s i r) (Q:=λ x=>x=Ly r id) r.2.length (λ j s=>(r.2.drop j).foldl (Jna id) s=Ly r id∧0≤s∧s≤2000000*j) ?_ ?_ 0 0 (Vs _) ⟨rfl,by omega,by omega⟩
 ·rintro s ⟨h,_⟩
  rw[Wi]at h
  simp (disch:=omega) only [Gt,dF]
  exact Fdb h
 ·rintro j s hj ⟨h,h0,h1⟩ next
  rw[Ap (d:=[]) hj,Zp]at h
  have hp:=hr.2 _ (A4 (d:=[]) hj)
  have hc:=Joa id (r.2.getD j []) s
  simp (disch:=omega) only [Gt,dT]
  refine Feb (Q:=λ x=>x=(id,Jna id s (r.2.getD j []),(j:Int),r)) ?_ ?_
  ·refine Fmb (L:=λ k i s=>G0 k id s (j:Int) i r) (Q:=λ x=>x=(id,Jna id s (r.2.getD j []),(j:Int),r)) (r.2.getD j []).length (λ m z=>Jna id z ((r.2.getD j []).drop m)=Jna id s (r.2.getD j [])∧0≤z∧z≤2000000*j+m) ?_ ?_ 0 s (Vs _) ⟨rfl,h0,by omega⟩
   ·rintro z ⟨h,_⟩
    rw[Wi]at h
    simp (disch:=omega) only [G0,dT,dF,Vb]
    exact Fdb (by rw[← h];rfl)
   ·rintro m z hm ⟨h,z0,z1⟩ next
    rw[Ap (d:=0) hm]at h
    simp (disch:=omega) only [G0,dT,Vb,w64]
    have h':Jna id (cnt id z ((r.2.getD j []).getD m 0)) ((r.2.getD j []).drop (m+1))=Jna id s (r.2.getD j []):=h
    unfold cnt at h'
    refine Fjb (λ hc=>next _ ?_) (λ hc=>next _ ?_)
    ·rw[hc]at h';exact⟨h',by omega,by omega⟩
    ·rw[hc]at h';exact⟨h',by omega,by omega⟩
  ·rintro x rfl
   simp (disch:=omega) only [w64]
   exact next _ ⟨h,by omega,by omega⟩

def F0b {a w:Int} (h0:0≤a) (h1:a≤4000000000001) (w0:0≤w) (w1:w≤1000) : -9223372036854775808≤a*w∧a*w≤9223372036854775807:=by
 have e1:=Int.mul_nonneg h0 w0
 have e2:a*w≤4000000000001*1000:=Int.mul_le_mul h1 w1 w0 (by decide)
 omega
def Afa (r:Rng) (p zs:List Int) (a:Option (Dev×Bool)) (d:Dev):Option (Dev×Bool):=
 bif Mr p d.1 then a else match a with
 |none=>some (d,!(Mr zs d.2.1))
 |some (b,fr)=>bif (!(Mr zs d.2.1)&&!fr)||(((!(Mr zs d.2.1))==fr)&&decide ((Ly r d.1+1)*b.2.2<(Ly r b.1+1)*d.2.2)) then some (d,!(Mr zs d.2.1)) else some (b,fr)
def So (r:Rng) (p:List Int) (l:List Dev):Option (Dev×Bool):=l.foldl (Afa r p (Jv p l)) none
def B4a (r:Rng) (p:List Int) (l:List Dev):Int:=match So r p l with
 |some b=>b.1.1
 |none => -1
def W5a {r:Rng} {p zs:List Int} {l:List Dev} {a:Option (Dev×Bool)} {d:Dev} (ha:∀ b,a=some b→b.1∈l∧b.1.1∉p) (hd:d∈l):∀ b,Afa r p zs a d=some b→b.1∈l∧b.1.1∉p:=by
 intro b hb
 unfold Afa at hb
 cases hp:Mr p d.1
 case true=>rw[hp]at hb;exact ha b hb
 have hn:d.1∉p:=λ c=>by rw[Oj.2 c]at hp;cases hp
 rw[hp,cond_false]at hb
 cases a with
 |none=>cases hb;exact⟨hd,hn⟩
 |some c=>
  obtain⟨c,fr⟩:=c
  simp only at hb
  cases hq:(!(Mr zs d.2.1)&&!fr)||(((!(Mr zs d.2.1))==fr)&&decide ((Ly r d.1+1)*c.2.2<(Ly r c.1+1)*d.2.2)) with
  |true=>rw[hq]at hb;cases hb;exact⟨hd,hn⟩
  |false=>rw[hq]at hb;cases hb;exact ha _ rfl
def M9a {r:Rng} {p zs:List Int} {l:List Dev}:∀ (m:List Dev) (a:Option (Dev×Bool)),(∀ b,a=some b→b.1∈l∧b.1.1∉p)→(∀ d∈m,d∈l)→∀ b,m.foldl (Afa r p zs) a=some b→b.1∈l∧b.1.1∉p
 |[],_,ha,_=>ha
 |d::m,_,ha,hm=>M9a m _ (W5a ha (hm d Za)) (λ x hx=>hm x (Vi _ hx))
def Maa {r:Rng} {p:List Int} {l:List Dev} {b:Dev×Bool} (h:So r p l=some b):b.1∈l∧b.1.1∉p:=M9a l none (λ b h=>by cases h) (λ _ h=>h) b h
def O0a {r:Rng} {p zs:List Int} {a:Option (Dev×Bool)} {d:Dev} (h:a.isSome=true∨d.1∉p):(Afa r p zs a d).isSome=true:=by
 unfold Afa
 cases hp:Mr p d.1 with
 |true=>
  rcases h with h|h
  ·exact h
  ·exact absurd (Oj.1 hp) h
 |false=>
  cases a with
  |none=>rfl
  |some c=>
   obtain⟨c,fr⟩:=c
   simp only[cond_false]
   cases (!(Mr zs d.2.1)&&!fr)||(((!(Mr zs d.2.1))==fr)&&decide ((Ly r d.1+1)*c.2.2<(Ly r c.1+1)*d.2.2))<;>rfl
def Cba {r:Rng} {p zs:List Int}:∀ (m:List Dev) (a:Option (Dev×Bool)),(a.isSome=true∨∃ d∈m,d.1∉p)→(m.foldl (Afa r p zs) a).isSome=true
 |[],a,h=>by
  rcases h with h|⟨d,h,_⟩
  ·exact h
  ·cases h
 |d::m,a,h=>by
  refine Cba m _ ?_
  by_cases hd:a.isSome=true∨d.1∉p
  ·exact .inl (O0a hd)
  ·rcases h with h|⟨x,hx,hn⟩
   ·exact absurd (.inl h) hd
   ·rcases Vl.1 hx with rfl|hx
    ·exact absurd (.inr hn) hd
    ·exact .inr ⟨x,hx,hn⟩
def W6a {r:Rng} {p:List Int} {l:List Dev} (h:∃ d∈l,d.1∉p):∃ d∈l,B4a r p l=d.1∧d.1∉p:=by
 obtain⟨b,hb⟩:=Zm.1 (Cba (r:=r) (zs:=Jv p l) l none (.inr h))
 obtain⟨h1,h2⟩:=Maa hb
 exact⟨b.1,h1,by unfold B4a;rw[show So r p l=some b from hb],h2⟩
def O1a (r:Rng) (p:List Int) (l:List Dev):(So r p l=none∧B4a r p l = -1)∨∃ b,So r p l=some b∧B4a r p l=b.1.1∧b.1∈l∧b.1.1∉p:=by
 cases h:So r p l with
 |none=>exact .inl ⟨rfl,by unfold B4a;rw[h]⟩
 |some b=>exact .inr ⟨b,rfl,by unfold B4a;rw[h],Maa h⟩
def Aga (p:List Int) (l:List Dev):(Jv p l).length≤p.length:=by
 have:=Gwa l p []
 rwa [Vj,Wl]at this
def bs (r:Rng):Option (Dev×Bool)→Int×Bool×Dev
 |some (b,fr)=>(Ly r b.1+1,fr,b)
 |none=>(0,false,-1,0,0)
def Mba (r:Rng) (p:List Int) (l:List Dev) (hr:RBd r) (hp:p.length≤2000000) (hl:Lc l=true):Tot (λ k=>Hl k r p l) (λ x=>x=B4a r p l):=by
 obtain⟨_,hdv,_,h12⟩:=Fg.1 hl
 have hz:=Aga p l
 unfold Hl
 refine Fpb (Gxa p l (by omega) (by omega)) ?_
 refine Feb (Q:=λ x=>∃ i:Int,x=(l,i)∧match So r p l with|some b=>∃ n:Nat,i=(n:Int)∧n<l.length∧l.getD n Mv=b.1|none=>i = -1) ?_ ?_
 ·refine Fmb (L:=λ k i (s:Int×Bool)=>Bw k l (Jv p l) s.1 s.2 i r p) (Q:=λ x=>∃ i:Int,x=(l,i)∧match So r p l with|some b=>∃ n:Nat,i=(n:Int)∧n<l.length∧l.getD n Mv=b.1|none=>i = -1) l.length
   (λ j s=>∃ a,(match a with|some (b,fr)=>s.2=fr∧∃ n:Nat,s.1=(n:Int)∧n<l.length∧l.getD n Mv=b|none=>s=(-1,false))∧(l.drop j).foldl (Afa r p (Jv p l)) a=So r p l) ?_ ?_ 0 (-1,false) (Vs _) ⟨none,rfl,rfl⟩
  ·rintro⟨s1,s2⟩ ⟨a,hs,h⟩
   rw[Wi]at h
   simp (disch:=omega) only [Bw,dF]
   refine Fdb ⟨s1,rfl,?_⟩
   rw[← h]
   cases a with
   |none=>exact(Prod.mk.inj hs).1
   |some bf=>exact hs.2
  ·rintro j ⟨s1,s2⟩ hj ⟨a,hs,h⟩ next
   rw[Ap (d:=Mv) hj,Zp]at h
   have hd:=A4 (d:=Mv) hj
   obtain⟨d,ed⟩:∃ d:Dev,l.getD j Mv=d:=⟨_,rfl⟩
   rw[ed]at h hd
   have e0:l.getD j ((0:Int),((0:Int),(0:Int)))=d:=ed
   obtain⟨_,_,w0,w1⟩:=Nf.1 (hdv _ hd)
   have l1:=Tp hr d.1
   simp (disch:=omega) only [Bw,dT,Vb,w64,e0]
   refine Fpb (Xh l (by omega)) ?_
   refine Fgb hl (Fpb (Sn p d.1 (by omega)) ?_)
   unfold Afa at h
   cases hp':Mr p d.1 with
   |true=>
    rw[hp']at h
    exact Fgb rfl (next _ ⟨a,hs,h⟩)
   |false=>
    rw[hp',cond_false]at h
    refine Ffb rfl (Fpb (Sn (Jv p l) d.2.1 (by omega)) ?_)
    have take:∀ {z:Bool},(l.drop (j+1)).foldl (Afa r p (Jv p l)) (some (d,z))=So r p l→Tot (λ k=>Bw k l (Jv p l) (j:Int) z ((j:Int)+1) r p) (λ x=>∃ i:Int,x=(l,i)∧match So r p l with|some b=>∃ n:Nat,i=(n:Int)∧n<l.length∧l.getD n Mv=b.1|none=>i = -1):=λ {z} h2=>next ((j:Int),z) ⟨some (d,z),⟨rfl,j,rfl,hj,ed⟩,h2⟩
    cases a with
    |none=>
     obtain⟨rfl,rfl⟩:=Prod.mk.inj hs
     exact Fhb (by decide) (take h)
    |some bf=>
     obtain⟨b,fr⟩:=bf
     obtain⟨e1,n,e2,hn,e3⟩:=hs
     dsimp only at e1 e2
     subst e1 e2
     have hb:=A4 (d:=Mv) hn
     rw[e3]at hb
     obtain⟨⟨i0,_⟩,_,v0,v1⟩:=Nf.1 (hdv _ hb)
     have l2:=Tp hr b.1
     have m1:=F0b (a:=Ly r d.1+1) (w:=b.2.2) (by omega) (by omega) (by omega) v1
     have m2:=F0b (a:=Ly r b.1+1) (w:=d.2.2) (by omega) (by omega) (by omega) w1
     have stay:(l.drop (j+1)).foldl (Afa r p (Jv p l)) (some (b,s2))=So r p l→Tot (λ k=>Bw k l (Jv p l) (n:Int) s2 ((j:Int)+1) r p) (λ x=>∃ i:Int,x=(l,i)∧match So r p l with|some b=>∃ n:Nat,i=(n:Int)∧n<l.length∧l.getD n Mv=b.1|none=>i = -1):=λ h2=>next ((n:Int),s2) ⟨some (b,s2),⟨rfl,n,rfl,hn,e3⟩,h2⟩
     refine Fib (by omega) ?_
     have e4:l.getD n ((0:Int),((0:Int),(0:Int)))=b:=e3
     dsimp only at h
     have cmp:∀ {z:Bool},Mr (Jv p l) d.2.1=z→((!z)==s2)=true→(!z&&!s2)=false→Tot (λ k=>(Cq k r d.1).bind λ r5=>cond (decide ((0:Int)≤(n:Int))) (cond (decide ((n:Int)<(length l:Int))) (cond (decide ((0:Int)≤(n:Int))) (cond (decide ((n:Int)<(length l:Int))) ((Cq k r (getD l (toNat (n:Int)) ((0:Int),((0:Int),(0:Int)))).1).bind λ r8=>cond (decide ((wrap .i64 ((wrap .i64 (r5+1))*(getD l (toNat (n:Int)) ((0:Int),((0:Int),(0:Int)))).2.2))<(wrap .i64 ((wrap .i64 (r8+1))*d.2.2)))) (Bw k l (Jv p l) (j:Int) s2 ((j:Int)+1) r p) (Bw k l (Jv p l) (n:Int) s2 ((j:Int)+1) r p)) none) none) none) none) (λ x=>∃ i:Int,x=(l,i)∧match So r p l with|some b=>∃ n:Nat,i=(n:Int)∧n<l.length∧l.getD n Mv=b.1|none=>i = -1):=by
      intro z hz e1 e2
      rw[hz,e1,e2,G9b,Vy]at h
      refine Fpb (Xi r d.1 hr) ?_
      refine Fhb (by omega) (Fhb (by omega) (Fhb (by omega) (Fhb (by omega) ?_)))
      rw[Vb,e4]
      refine Fpb (Xi r b.1 hr) ?_
      rw[w64 (n:=Ly r d.1+1) (by omega) (by omega),w64 (n:=Ly r b.1+1) (by omega) (by omega),w64 m1.1 m1.2,w64 m2.1 m2.2]
      refine Fjb (λ hc=>?_) (λ hc=>?_)
      ·rw[hc,cond_true]at h
       rw[show s2 = !z by rw[← eq_of_beq e1]]
       exact take h
      ·rw[hc]at h;exact stay h
     cases hz:Mr (Jv p l) d.2.1 with
     |false=>
      have cm:=cmp hz
      rw[hz]at h
      cases s2 with
      |false=>exact Fgb rfl (Fgb rfl (take h))
      |true=>exact Fgb rfl (Ffb rfl (Fgb rfl (cm rfl rfl)))
     |true=>
      have cm:=cmp hz
      rw[hz]at h
      cases s2 with
      |false=>exact Ffb rfl (Fgb rfl (cm rfl rfl))
      |true=>exact Ffb rfl (Ffb rfl (stay h))
 ·rintro x ⟨i,rfl,hi⟩
  unfold B4a
  cases hb:So r p l with
  |none=>
   rw[hb]at hi
   subst hi
   exact Fhb (show (-1:Int)<0 by decide) (Fdb rfl)
  |some b=>
   rw[hb]at hi
   obtain⟨n,rfl,hn,e⟩:=hi
   dsimp only
   refine Fib (by omega) (Fhb (by omega) (Fhb (by omega) (Fdb ?_)))
   rw[Vb,show l.getD n ((0:Int),((0:Int),(0:Int)))=b.1 from e]

def Sga {l:List Dev} (h:Lc l=true) {d:Dev} (hd:d∈l):Ji l d.1=some d:=by
 have hp:=(Fg.1 h).1
 clear h
 induction l with
 |nil=>cases hd
 |cons x l ih=>
  obtain⟨h1,h2⟩:=Wg.1 hp
  unfold Ji
  rw[Gfb]
  rcases Vl.1 hd with rfl|hd
  ·rw[beq_self_eq_true]
  ·have:=h1 d hd
   rw[show (x.1==d.1)=false from beq_eq_false_iff_ne.2 (by omega)]
   exact ih hd h2
def Y5a:∀ (p:List Int) (l:List Dev),l.Pairwise (λ a b=>a.1<b.1)→p.length<l.length→∃ d∈l,d.1∉p
 |p,[],_,h=>by simp at h
 |p,d::l,hl,h=>by
  obtain⟨h1,h2⟩:=Wg.1 hl
  by_cases hd:d.1∈p
  ·have hlen:(p.erase d.1).length=p.length-1:=H1b hd
   have hpos:=Glb hd
   rw[Vc]at h
   obtain⟨x,hx,hn⟩:=Y5a (p.erase d.1) l h2 (by omega)
   refine⟨x,Vi _ hx,λ c=>hn ?_⟩
   have:=h1 x hx
   exact(Hqb (by omega)).2 c
  ·exact⟨d,Za,hd⟩
def O2a (l:List Dev) (n:Nat) (p:List Int):Prop:=p.Nodup∧p.length=n∧∀ id∈p,∃ d,Ji l id=some d
def Sha {r:Rng} {l:List Dev} {n:Nat} {p:List Int} (hl:Lc l=true) (h:O2a l n p) (hn:n<l.length):O2a l (n+1) (p++[B4a r p l]):=by
 obtain⟨h1,h2,h3⟩:=h
 obtain⟨d,hd,e,hne⟩:=W6a (r:=r) (Y5a p l (Fg.1 hl).1 (by omega))
 rw[e]
 refine⟨?_,by rw[Ve];simp[h2],λ id hid=>?_⟩
 ·rw[Ym]
  exact⟨h1,by simp,λ a ha b hb c=>by rw[Vt.1 hb]at c;subst c;exact hne ha⟩
 ·rcases Vn.1 hid with hid|hid
  ·exact h3 id hid
  ·rw[Vt.1 hid];exact⟨d,Sga hl hd⟩
def H0a (l:List Dev) (reps:Int) (ps:List (List Int)):Nat→List Int→List Int
 |0,p=>p
 |n+1,p=>H0a l reps ps n (p++[B4a (reps,ps++[p]) p l])
def Opa (l:List Dev) (reps:Int):Nat→List (List Int)→List (List Int)
 |0,ps=>ps
 |n+1,ps=>Opa l reps n (ps++[H0a l reps ps reps.toNat []])
def build (l:List Dev) (parts reps:Int):Rng×Bool:=bif Lc l&&(inR parts 1 64&&(inR reps 1 5&&!(decide (reps > (l.length:Int))))) then ((reps,Opa l reps parts.toNat []),true) else ((0,[]),false)
def Mca {l:List Dev} {reps:Int} {ps:List (List Int)} (hl:Lc l=true):∀ (n m:Nat) (p:List Int),O2a l m p→m+n≤l.length→O2a l (m+n) (H0a l reps ps n p)
 |0,_,_,h,_=>h
 |n+1,m,p,h,hm=>by
  have:=Mca (reps:=reps) (ps:=ps) hl n (m+1) _ (Sha (r:=(reps,ps++[p])) hl h (by omega)) (by omega)
  rwa [show m+1+n=m+(n+1) by omega]at this
def Sia {l:List Dev} {reps:Int} (hl:Lc l=true) (hr:reps≤(l.length:Int)):∀ (n:Nat) (ps:List (List Int)),(∀ p∈ps,O2a l reps.toNat p)→(Opa l reps n ps).length=ps.length+n∧∀ p∈Opa l reps n ps,O2a l reps.toNat p
 |0,ps,h=>⟨rfl,h⟩
 |n+1,ps,h=>by
  have hf:=Mca (reps:=reps) (ps:=ps) hl reps.toNat 0 [] ⟨List.nodup_nil,rfl,λ _ h=>by cases h⟩ (by omega)
  rw[Wl]at hf
  obtain⟨h1,h2⟩:=Sia hl hr n (ps++[H0a l reps ps reps.toNat []]) (λ p hp=>by
   rcases Vn.1 hp with hp|hp
   ·exact h p hp
   ·rw[Vt.1 hp];exact hf)
  refine⟨?_,h2⟩
  show (Opa l reps n _).length=_
  rw[h1,Ve]
  simp only[Vc,Vj]
  omega
def Mda {l:List Dev} {parts reps:Int} (h:(build l parts reps).2=true):Lc l=true∧Ik (build l parts reps).1 l=true∧(build l parts reps).1.1=reps∧((build l parts reps).1.2.length:Int)=parts:=by
 unfold build at h ⊢
 cases hc:Lc l&&(inR parts 1 64&&(inR reps 1 5&&!(decide (reps > (l.length:Int)))))
 ·rw[hc]at h;cases h
 rw[Va,Va,Va,Vv,decide_eq_false_iff_not,Cy,Cy]at hc
 obtain⟨h1,h2,h3,h4⟩:=hc
 obtain⟨b1,b2⟩:=Sia (reps:=reps) h1 (by omega) parts.toNat [] (λ p hp=>by cases hp)
 rw[Vj,Wl]at b1
 have b1':((Opa l reps parts.toNat []).length:Int)=parts:=by rw[b1];omega
 refine⟨h1,Cd.2 ⟨h1,h3,⟨by show 1≤(Opa l reps parts.toNat []).length;omega,by show (Opa l reps parts.toNat []).length≤64;omega⟩,λ p hp=>?_⟩,rfl,b1'⟩
 obtain⟨c1,c2,c3⟩:=b2 p hp
 exact⟨c1,by rw[c2];show ((reps.toNat:Nat):Int)=reps;omega,c3⟩
def H1a {l:List Dev} {reps:Int} {ps:List (List Int)}:∀ (n:Nat) (p:List Int),(H0a l reps ps n p).length=p.length+n
 |0,_=>rfl
 |n+1,p=>by
  show (H0a l reps ps n _).length=_
  rw[H1a n,Ve]
  simp only[Vc,Vj]
  omega
def Sja {α:Type} (l:List α) (x d:α):(l++[x]).getD l.length d=x:=by
 rw[Vd,Yf (Vw _),Gib]
 rfl
def W7a {α:Type} (l:List α) (x y:α):(l++[x]).set l.length y=l++[y]:=by
 rw[Ilb _ _ (Vw _),Gib]
 rfl
def H2a (l:List Dev) (parts reps:Int) (z:Rng) (hl:Lc l=true) (h0:0≤reps) (h5:reps≤5) (ps:List (List Int)) (hps:ps.length≤100) (hq:∀ q∈ps,q.length≤100):∀ (n:Nat) (p:List Int),p.length+n=reps.toNat→
  Tot (λ k=>Ht k l parts reps (ps.length:Int) (p.length:Int) z (reps,ps++[p])) (λ x=>x=(l,parts,reps,(ps.length:Int),z,(reps,ps++[H0a l reps ps n p]))):=by
 intro n
 induction n with
 |zero=>
  intro p hp
  refine Tot.succ ?_
  simp (disch:=omega) only [Ht,dF]
  exact Fdb rfl
 |succ n ih=>
  intro p hp
  refine Tot.succ ?_
  have hrb:RBd (reps,ps++[p]):=⟨by simp only[Ve,Vc,Vj];omega,λ q hq'=>by
   rcases Vn.1 hq' with h|h
   ·have:=hq q h;omega
   ·rw[Vt.1 h];omega⟩
  have hlen:(ps++[p]).length=ps.length+1:=by simp
  simp (disch:=omega) only [Ht,dT,Vb,w64,hlen,Sja,W7a]
  refine Fpb (Mba (reps,ps++[p]) p l hrb (by omega) hl) ?_
  refine Fgb (decide_eq_true trivial) (Flb (by simp only[Vc,Vj];omega) (Fgb (decide_eq_true trivial) ?_))
  have:=ih (p++[B4a (reps,ps++[p]) p l]) (by simp only[Ve,Vc,Vj];omega)
  rw[show (((p++[B4a (reps,ps++[p]) p l]).length:Nat):Int)=(p.length:Int)+1 by simp]at this
  exact this
def Ska (l:List Dev) (parts reps:Int) (hll:l.length≤5000000):Tot (λ k=>Gn k l parts reps) (λ x=>x=build l parts reps):=by
 unfold Gn build
 refine Fpb (Xh l (by omega)) ?_
 cases hl:Lc l
 ·exact Fgb rfl (Fdb rfl)
 simp only[Zd,cond_false,Nb,Vo,Vy]
 cases hp:inR parts 1 64
 ·exact Fgb rfl (Fdb rfl)
 refine Ffb rfl ?_
 cases hr:inR reps 1 5
 ·exact Fgb rfl (Fdb rfl)
 obtain⟨r1,r2⟩:=Cy.1 hr
 obtain⟨p1,p2⟩:=Cy.1 hp
 refine Ffb rfl ?_
 cases hc:decide (reps > (l.length:Int))
 case true=>exact Fgb rfl (Fdb rfl)
 refine Ffb rfl (Feb (Q:=λ x=>x=(((0:Int),([]:List (List Int))),(reps,Opa l reps parts.toNat []))) ?_ (by rintro x rfl;exact Fdb rfl))
 obtain⟨n,rfl⟩:∃ n:Nat,parts=(n:Int):=⟨parts.toNat,by omega⟩
 refine Fmb (L:=λ k i (s:Rng)=>Hu k l (n:Int) reps i (0,[]) s) (Q:=λ x=>x=(((0:Int),([]:List (List Int))),(reps,Opa l reps n []))) n (λ j s=>∃ ps,s=(reps,ps)∧ps.length=j∧(∀ q∈ps,q.length≤100)∧Opa l reps (n-j) ps=Opa l reps n []) ?_ ?_ 0 (reps,[]) (Vs _) ⟨[],rfl,rfl,λ q h=>(by cases h),rfl⟩
 ·rintro s ⟨ps,rfl,hps,_,h⟩
  rw[Gib]at h
  simp (disch:=omega) only [Hu,dF]
  exact Fdb (by rw[← h];rfl)
 ·rintro j s hj ⟨ps,rfl,hps,hq,h⟩ next
  simp (disch:=omega) only [Hu,dT]
  refine Flb (by simp only[Vc,Vj];omega) ?_
  have h9:=H2a l (n:Int) reps (0,[]) hl (by omega) r2 ps (by omega) hq reps.toNat [] (by simp)
  rw[hps]at h9
  refine Feb h9 ?_
  rintro x rfl
  simp (disch:=omega) only [w64]
  refine next _ ⟨ps++[H0a l reps ps reps.toNat []],rfl,by rw[Ve,hps];rfl,λ q hq'=>?_,?_⟩
  ·rcases Vn.1 hq' with h'|h'
   ·exact hq q h'
   ·rw[Vt.1 h',H1a,Vj];omega
  ·rw[show n-j=(n-(j+1))+1 by omega]at h
   exact h

def Mea:∀ (p q:List Int),p.Nodup→(∀ x∈p,x∈q)→p.length≤q.length
 |[],_,_,_=>Vs _
 |x::p,q,h,hs=>by
  obtain⟨h1,h2⟩:=Yq.1 h
  have hx:=hs x Za
  have hlen:(q.erase x).length=q.length-1:=H1b hx
  have hpos:=Glb hx
  have:=Mea p (q.erase x) h2 (λ y hy=>(Hqb (λ c=>by subst c;exact h1 hy)).2 (hs y (Vi _ hy)))
  rw[Vc]
  omega
def Sla {r:Rng} {l:List Dev} (h:Ik r l=true):r.1≤(l.length:Int):=by
 obtain⟨_,_,h3,h4⟩:=Cd.1 h
 obtain⟨p,hp⟩:=Hlb (show 0<r.2.length by omega)
 obtain⟨q1,q2,q3⟩:=h4 p hp
 have:=Mea p (l.map (·.1)) q1 (λ x hx=>by
  obtain⟨d,hd⟩:=q3 x hx
  obtain⟨hm,he⟩:=Uy hd
  exact Yu.2 ⟨d,hm,he⟩)
 rw[Wc]at this
 omega
def Jpa {r:Rng} {l:List Dev} (h:Ik r l=true):Tot (λ k=>Jd k r l) (λ b=>b=true):=by
 have hrp:=Sla h
 obtain⟨h1,h2,h3,h4⟩:=Cd.1 h
 obtain⟨_,_,_,h12⟩:=Fg.1 h1
 unfold Jd
 refine Fpb (Xh l (by omega)) ?_
 refine Ffb (by rw[h1];rfl) ?_
 simp only[Nb,Vo]
 refine Ffb (by rw[Cy.2 h2];rfl) (Fib (by omega) (Ffb (by rw[Cy.2 (by omega)];rfl) ?_))
 refine Feb (Q:=λ b=>b = .inr ()) ?_ (by rintro b rfl;exact Fdb rfl)
 refine Fmb (L:=λ k i (_:Unit)=>J2 k i r) (Q:=λ b=>b = .inr ()) r.2.length (λ _ _=>True) ?_ ?_ 0 () (Vs _) trivial
 ·intro _ _
  simp (disch:=omega) only [J2,dF]
  exact Fdb rfl
 ·intro j _ hj _ next
  obtain⟨q1,q2,_⟩:=h4 _ (A4 (d:=[]) hj)
  simp (disch:=omega) only [J2,dT,Vb,w64]
  refine Fpb (M8a _ _ (by omega)) ?_
  exact Ffb (by rw[decide_eq_true q1,q2];simp) (next () trivial)
def W8a (p:List Int) (l:List Dev) (h:∀ id∈p,∃ d,Ji l id=some d) (hp:p.length≤5000000) (hl:l.length≤5000000):Tot (λ k=>Gd k p l) (λ x=>x = -1):=by
 unfold Gd
 refine Feb (Q:=λ x=>x = .inr ()) ?_ (by rintro x rfl;exact Fdb rfl)
 refine Fmb (L:=λ k i (_:Unit)=>Gz k l i p) (Q:=λ x=>x = .inr ()) p.length (λ _ _=>True) ?_ ?_ 0 () (Vs _) trivial
 ·intro _ _
  simp (disch:=omega) only [Gz,dF]
  exact Fdb rfl
 ·intro j _ hj _ next
  simp (disch:=omega) only [Gz,dT,Vb,w64]
  refine Fpb (Qx l _ (by omega)) ?_
  obtain⟨d,hd⟩:=h _ (A4 (d:=0) hj)
  exact Ffb (by rw[hd];rfl) (next () trivial)
def hv (r:Rng) (l:List Dev) (b id:Int):Bool:=match Ji l b with
 |none=>false
 |some x=>match Ji l id with
  |none=>false
  |some d=>(d.2.1==x.2.1)&&decide (Ly r id-Ly r b≥2)
def Oqa (r:Rng) (l:List Dev) (p:List Int) (b:Int):Option Nat:=p.findIdx? (hv r l b)
def oI:Option Nat→Int
 |some i=>(i:Int)
 |none => -1
def H3a {f:Int→Bool} {p:List Int} {j:Nat} (hj:j<p.length) (h:((p.drop j).findIdx? f).map (· + j)=p.findIdx? f):
  (f (p.getD j 0)=true→p.findIdx? f=some j)∧(f (p.getD j 0)=false→((p.drop (j+1)).findIdx? f).map (· + (j+1))=p.findIdx? f):=by
 rw[Ap (d:=0) hj,I3b]at h
 constructor
 ·intro c
  rw[if_pos c]at h
  rw[← h,H3b,Wl]
 ·intro c
  rw[if_neg (by rw[c];simp)]at h
  rw[← h,Option.map_map]
  congr 1
  funext x
  show x+(j+1)=x+1+j
  omega
def Sma (r:Rng) (p:List Int) (l:List Dev) (b:Int) (hr:RBd r) (hp:p.length≤2000000) (hl:l.length≤2000000):Tot (λ k=>F7 k r p l b) (λ x=>x=oI (Oqa r l p b)):=by
 unfold F7
 refine Fpb (Qx l b (by omega)) ?_
 refine Feb (Q:=λ x=>x=match Oqa r l p b with|some i => .inl (i:Int)|none => .inr ()) ?_ (by rintro x rfl;cases Oqa r l p b<;>exact Fdb rfl)
 cases hb:Ji l b with
 |none=>
  have hn:Oqa r l p b=none:=by unfold Oqa;rw[I7b];intro x _;unfold hv;rw[hb]
  rw[hn]
  refine Tot.succ ?_
  by_cases hp0:(0:Int)<(p.length:Int)
  ·simp (disch:=omega) only [Cg,dT,Emb,cond_false]
   exact Fdb rfl
  ·simp (disch:=omega) only [Cg,dF]
   exact Fdb rfl
 |some x=>
  have hvI:∀ id,hv r l b id=match Ji l id with|none=>false|some d=>(d.2.1==x.2.1)&&decide (Ly r id-Ly r b≥2):=λ id=>by unfold hv;rw[hb]
  refine Fmb (L:=λ k i (_:Unit)=>Cg k l b true i r p x) (Q:=λ x=>x=match Oqa r l p b with|some i => .inl (i:Int)|none => .inr ()) p.length (λ j _=>((p.drop j).findIdx? (hv r l b)).map (· + j)=p.findIdx? (hv r l b)) ?_ ?_ 0 () (Vs _) (by simp)
  ·intro _ h
   rw[Wi]at h
   have hn:Oqa r l p b=none:=h.symm
   rw[hn]
   simp (disch:=omega) only [Cg,dF]
   exact Fdb rfl
  ·intro j _ hj h next
   obtain⟨k1,k2⟩:=H3a hj h
   simp (disch:=omega) only [Cg,dT,Vb,w64,cond_true]
   generalize p.getD j 0=id at *
   refine Fpb (Qx l id (by omega)) ?_
   rw[hvI]at k1 k2
   cases hd:Ji l id with
   |none=>
    rw[hd]at k2
    exact Ffb rfl (next () (k2 rfl))
   |some d=>
    rw[hd]at k1 k2
    obtain⟨_,e⟩:=Uy hd
    refine Fgb rfl ?_
    cases hz:d.2.1==x.2.1
    ·exact Ffb hz (next () (k2 (by simp only[hz,Ze])))
    refine Fgb hz (Fpb (Xi r d.1 hr) ?_)
    refine Fpb (Xi r b hr) ?_
    have l1:=Tp hr d.1
    have l2:=Tp hr b
    simp (disch:=omega) only [w64]
    refine Fkb (λ hc=>Fdb ?_) (λ hc=>next () (k2 ?_))
    ·have hn:Oqa r l p b=some j:=k1 (by simp only[hz,Vy];rw[← e];exact decide_eq_true hc)
     rw[hn]
    ·simp only[hz,Vy];rw[← e];exact decide_eq_false hc
def rb1 (l:List Dev) (s:Int×Rng) (j:Nat):Int×Rng:=match Oqa s.2 l (s.2.2.getD j []) (B4a s.2 (s.2.2.getD j []) l) with
 |none=>s
 |some i=>(s.1+1,(s.2.1,s.2.2.set j ((s.2.2.getD j []).set i (B4a s.2 (s.2.2.getD j []) l))))
def rbs (l:List Dev) (r:Rng) (n:Nat):Int×Rng:=(List.range n).foldl (rb1 l) (0,r)
def Jqa (r:Rng) (l:List Dev):Rng×Int:=((rbs l r r.2.length).2,(rbs l r r.2.length).1)
def Mfa (l:List Dev) (r:Rng) (n:Nat):rbs l r (n+1)=rb1 l (rbs l r n) n:=by
 unfold rbs
 rw[Hxb,Gob]
 rfl
def W3 {r:Rng} {l:List Dev} {p:List Int} {i:Nat} (hl:Lc l=true) (h:Oqa r l p (B4a r p l)=some i):i<p.length∧B4a r p l∉p∧0≤B4a r p l∧∃ d,Ji l (B4a r p l)=some d:=by
 obtain⟨h1,h2,_⟩:=H7b.1 h
 refine⟨h1,?_⟩
 unfold hv at h2
 cases hb:Ji l (B4a r p l) with
 |none=>rw[hb]at h2;cases h2
 |some d=>
  obtain⟨hd,he⟩:=Uy hb
  obtain⟨⟨i0,_⟩,_⟩:=Nf.1 ((Fg.1 hl).2.1 _ hd)
  refine⟨?_,by omega,d,rfl⟩
  rcases O1a r p l with⟨_,e⟩|⟨b,_,e,_,hn⟩
  ·omega
  ·rw[e];exact hn
def Sna {p:List Int} {b:Int} (h:p.Nodup) (hb:b∉p) (i:Nat):(p.set i b).Nodup:=by
 induction p generalizing i with
 |nil=>exact h
 |cons x p ih=>
  obtain⟨h1,h2⟩:=Yq.1 h
  cases i with
  |zero=>exact Yq.2 ⟨λ c=>hb (Vi _ c),h2⟩
  |succ i=>
   refine Yq.2 ⟨λ c=>?_,ih h2 (λ c=>hb (Vi _ c)) i⟩
   rcases Wo c with c|c
   ·exact h1 c
   ·exact hb (c ▸ Za)
def D9b {l:List Dev} {s:Int×Rng} {j:Nat} (hj:j<s.2.2.length) (h:Ik s.2 l=true):Ik (rb1 l s j).2 l=true∧(rb1 l s j).2.1=s.2.1∧(rb1 l s j).2.2.length=s.2.2.length∧s.1≤(rb1 l s j).1∧(rb1 l s j).1≤s.1+1:=by
 unfold rb1
 obtain⟨h1,h2,h3,h4⟩:=Cd.1 h
 cases hx:Oqa s.2 l (s.2.2.getD j []) (B4a s.2 (s.2.2.getD j []) l) with
 |none=>exact⟨h,rfl,rfl,by dsimp only;omega,by dsimp only;omega⟩
 |some i=>
  obtain⟨b1,b2,_,b3⟩:=W3 h1 hx
  obtain⟨q1,q2,q3⟩:=h4 _ (A4 (d:=[]) hj)
  refine⟨Cd.2 ⟨h1,h2,by dsimp only;rw[List.length_set];exact h3,λ p hp=>?_⟩,rfl,by dsimp only;rw[List.length_set],by dsimp only;omega,by dsimp only;omega⟩
  rcases Wo hp with hp|hp
  ·exact h4 p hp
  ·subst hp
   refine⟨Sna q1 b2 i,by rw[Vx];exact q2,λ id hid=>?_⟩
   rcases Wo hid with hid|hid
   ·exact q3 id hid
   ·rw[hid];exact b3
def Mga {l:List Dev} {r:Rng} (h:Ik r l=true):∀ (n:Nat),n≤r.2.length→Ik (rbs l r n).2 l=true∧(rbs l r n).2.1=r.1∧(rbs l r n).2.2.length=r.2.length∧0≤(rbs l r n).1∧(rbs l r n).1≤n
 |0,_=>⟨h,rfl,rfl,Fvb _,Fvb _⟩
 |n+1,hn=>by
  obtain⟨h1,h2,h3,h4,h5⟩:=Mga h n (by omega)
  obtain⟨g1,g2,g3,g4,g5⟩:=D9b (j:=n) (by omega) h1
  rw[Mfa]
  exact⟨g1,by rw[g2,h2],by rw[g3,h3],by omega,by omega⟩
def Mha {r:Rng} {l:List Dev} (h:Ik r l=true):Ik (Jqa r l).1 l=true∧(Jqa r l).1.1=r.1∧(Jqa r l).1.2.length=r.2.length∧0≤(Jqa r l).2:=by
 obtain⟨h1,h2,h3,h4,_⟩:=Mga h r.2.length (Vw _)
 exact⟨h1,h2,h3,h4⟩
def Soa {r:Rng} {l:List Dev} (h:Ik r l=true):Tot (λ k=>Cp k r l) (λ x=>x=Jqa r l):=by
 obtain⟨_,_,h64,_⟩:=Cd.1 h
 unfold Cp
 refine Feb (W2 r (Lr h)) ?_
 rintro x rfl
 refine Feb (Jpa h) ?_
 rintro b rfl
 refine Ffb rfl (Feb (Q:=λ y=>y=((rbs l x x.2.length).1,((0:Int),([]:List (List Int))),(rbs l x x.2.length).2)) ?_ (by rintro y rfl;exact Fdb rfl))
 refine Fmb (L:=λ k i (s:Int×Rng)=>B6 k l s.1 i (0,[]) s.2) (Q:=λ y=>y=((rbs l x x.2.length).1,((0:Int),([]:List (List Int))),(rbs l x x.2.length).2)) x.2.length (λ j s=>s=rbs l x j) ?_ ?_ 0 (0,x) (Vs _) rfl
 ·rintro s rfl
  obtain⟨_,_,g3,_⟩:=Mga h x.2.length (Vw _)
  simp (disch:=omega) only [B6,dF]
  exact Fdb rfl
 ·rintro j s hj rfl next
  obtain⟨g1,g2,g3,g4,g5⟩:=Mga h j (by omega)
  rw[Mfa]at next
  generalize rbs l x j=s at *
  obtain⟨c,r⟩:=s
  dsimp only at g1 g2 g3 g4 g5
  obtain⟨q0,_,_,q4⟩:=Cd.1 g1
  obtain⟨p1,p2,p3⟩:=q4 _ (A4 (d:=[]) (show j<r.2.length by omega))
  have hx2:=(Cd.1 h).2.1
  have l12:=(Fg.1 q0).2.2.2
  unfold rb1 at next
  dsimp only at next
  obtain⟨p,hp⟩:∃ p,r.2.getD j []=p:=⟨_,rfl⟩
  rw[hp]at p1 p2 p3
  simp only[hp]at next
  simp (disch:=omega) only [B6,dT,Vb,w64,hp]
  refine Feb (W8a p l p3 (by omega) (by omega)) ?_
  rintro x rfl
  refine Fib (by omega) (Feb (Mba r p l (Lr g1) (by omega) q0) ?_)
  rintro b rfl
  refine Feb (Sma r p l _ (Lr g1) (by omega) (by omega)) ?_
  rintro y rfl
  cases hi:Oqa r l p (B4a r p l) with
  |none=>
   rw[hi]at next
   exact Fib (by show ¬ ((-1:Int)≥0);omega) (next _ rfl)
  |some i=>
   obtain⟨b1,b2,b3,_⟩:=W3 q0 hi
   rw[hi]at next
   have e:oI (some i)=(i:Int):=rfl
   simp (disch:=omega) only [e,dT,Vb]
   exact next _ rfl
def wgt (l:List Dev) (i:Nat) (w:Int):List Dev:=l.set i ((l.getD i Mv).1,(l.getD i Mv).2.1,w)
def Dva (l:List Dev) (i:Nat) (w:Int):(wgt l i w).map (·.1)=l.map (·.1):=by
 unfold wgt
 rw[List.map_set]
 by_cases hi:i<l.length
 ·have:(l.getD i Mv).1=(l.map (·.1)).getD i 0:=by
   simp only[Vd,Fyb,Vk hi,H3b,Yp]
  rw[this,Vd,Vk (by simpa using hi),Yp]
  exact List.set_getElem_self _
 ·rw[List.set_eq_of_length_le (by simpa using hi)]
def Qz {l:List Dev} {id:Int}:(∃ d,Ji l id=some d)↔id∈l.map (·.1):=by
 unfold Ji
 rw[← Zm,List.find?_isSome,Yu]
 exact⟨λ ⟨x,h,e⟩=>⟨x,h,eq_of_beq e⟩,λ ⟨x,h,e⟩=>⟨x,h,beq_iff_eq.2 e⟩⟩
def Dab {l:List Dev} {i:Nat} {w:Int} (h:Lc l=true) (hi:i<l.length) (h1:1≤w) (h2:w≤1000):Lc (wgt l i w)=true:=by
 obtain⟨g1,g2,g3,g4⟩:=Fg.1 h
 refine Fg.2 ⟨?_,λ d hd=>?_,?_⟩
 ·have e:(l.map (·.1)).Pairwise (· < ·):=Zj.2 g1
  rw[← Dva l i w]at e
  exact Zj.1 e
 ·rcases Wo hd with hd|hd
  ·exact g2 d hd
  ·obtain⟨e1,e2,_⟩:=Nf.1 (g2 _ (A4 (d:=Mv) hi))
   subst hd
   exact Nf.2 ⟨e1,e2,h1,h2⟩
 ·unfold wgt
  rw[Vx]
  exact⟨g3,g4⟩
def Dwa {r:Rng} {l:List Dev} {i:Nat} {w:Int} (h:Ik r l=true) (hi:i<l.length) (h1:1≤w) (h2:w≤1000):Ik r (wgt l i w)=true:=by
 obtain⟨g1,g2,g3,g4⟩:=Cd.1 h
 refine Cd.2 ⟨Dab g1 hi h1 h2,g2,g3,λ p hp=>?_⟩
 obtain⟨q1,q2,q3⟩:=g4 p hp
 exact⟨q1,q2,λ id hid=>by rw[Qz,Dva,← Qz];exact q3 id hid⟩

def Spa (x:BitVec 32):(cst x).getLsbD 31=x.getLsbD 0:=by
 have h0:(x >>> 1).getLsbD 31=false:=by
  rw[Hyb]
  exact BitVec.getLsbD_of_ge _ _ (by decide)
 unfold cst
 cases h:x.getLsbD 0 with
 |true=>
  rw[if_pos rfl,BitVec.getLsbD_xor,h0]
  decide
 |false=>
  rw[if_neg (by simp),h0]
def Uz {n:Nat} {x y c:BitVec n} (h:x ^^^ c=y ^^^ c):x=y:=by
 have:=congrArg (λ z=>z ^^^ c) h
 simpa[BitVec.xor_assoc] using this
def Adb {x y:BitVec 32} (h:cst x=cst y):x=y:=by
 have h0:x.getLsbD 0=y.getLsbD 0:=by rw[← Spa,← Spa,h]
 have h1:x >>> 1=y >>> 1:=by
  unfold cst at h
  rw[h0]at h
  cases hb:y.getLsbD 0 with
  |true=>rw[hb,if_pos rfl,if_pos rfl]at h;exact Uz h
  |false=>rw[hb,if_neg (by simp),if_neg (by simp)]at h;exact h
 refine BitVec.eq_of_getLsbD_eq λ i hi=>?_
 cases i with
 |zero=>exact h0
 |succ i=>
  have:=congrArg (λ z=>z.getLsbD i) h1
  simpa[Hyb,Zw] using this
def Aha:∀ (n:Nat) {x y:BitVec 32},Jea n x=Jea n y→x=y
 |0,_,_,h=>h
 |n+1,_,_,h=>Adb (Aha n h)
def Aeb {x y:BitVec 32} {b:Int} (h:cby x b=cby y b):x=y:=Uz (Aha 8 h)
def W9a {x:BitVec 32} {a b:Int} (ha:0≤a∧a≤255) (hb:0≤b∧b≤255) (h:cby x a=cby x b):a=b:=by
 have h1:x ^^^ ofInt 32 a=x ^^^ ofInt 32 b:=Aha 8 h
 rw[BitVec.xor_comm,BitVec.xor_comm x]at h1
 have h2:=Uz h1
 rw[M1a ha,M1a hb,h2]
def Mia:∀ (l:List Int) {x y:BitVec 32},l.foldl cby x=l.foldl cby y→x=y
 |[],_,_,h=>h
 |_::l,_,_,h=>Aeb (Mia l h)
def Y6a (l:List Int):0≤crc l∧crc l≤4294967295:=by
 unfold crc
 have:=(Cxb l).isLt
 omega
def Afb {l:List Int} {i:Nat} {y:Int} (hi:i<l.length) (hy:0≤y∧y≤255) (hb:Aw l) (hne:y≠l.getD i 0):crc (l.set i y)≠crc l:=by
 intro h
 have h1:Cxb (l.set i y)=Cxb l:=Ikb (by unfold crc at h;omega)
 unfold Cxb at h1
 have h2:=BitVec.not_inj.1 h1
 have e1:l.set i y=l.take i++y::l.drop (i+1):=by rw[G6b,if_pos hi]
 have e2:l=l.take i++l.getD i 0::l.drop (i+1):=by
  conv => { lhs;rw[← Wm i l] }
  rw[Ap (d:=0) hi]
 rw[e1,Gob,Zp]at h2
 rw[e2]at h2
 rw[Gob,Zp]at h2
 have e3:(l.take i++l.getD i 0::l.drop (i+1)).take i=l.take i:=by rw[← e2]
 have e4:(l.take i++l.getD i 0::l.drop (i+1)).drop (i+1)=l.drop (i+1):=by rw[← e2]
 rw[e3,e4]at h2
 exact hne (W9a hy (hb _ (A4 hi)) (Mia _ h2))
def Dbb {a b:Int} (ha:0≤a∧a≤4294967295) (hb:0≤b∧b≤4294967295) (h:c4 a=c4 b):a=b:=by
 have e:∀ c:Int,0≤c→c4 c=[c/16777216 % 256,c/65536 % 256,c/256 % 256,c % 256]:=λ c hc=>by
  unfold c4
  rw[show (2:Int) ^ (min (toNat 24) (IntKind.bits .i64))=16777216 from by decide,show (2:Int) ^ (min (toNat 16) (IntKind.bits .i64))=65536 from by decide,show (2:Int) ^ (min (toNat 8) (IntKind.bits .i64))=256 from by decide,
   Zza _ (by omega),Zza _ (by omega),Zza _ (by omega),H6b,H6b,H6b,H6b]
 rw[e a ha.1,e b hb.1]at h
 simp only[Yj,and_true]at h
 omega
def O3a {l m:List Int} {j:Nat} (h:j<l.length):(l++m).getD j 0=l.getD j 0:=by rw[Vd,Vd,Yc h]
def O4a {l m:List Int} {j:Nat} (h:l.length≤j):(l++m).getD j 0=m.getD (j-l.length) 0:=by rw[Vd,Vd,Yf h]
def Waa {f:Fil} (hf:H9 f=true) {n:Nat} (hn:n<8*(Lo f).length):Pc (M8 (Lo f) n)=none:=by
 cases hg:Pc (M8 (Lo f) n) with
 |none=>rfl
 |some g=>
  exfalso
  obtain⟨g1,_,g3⟩:=A8b hg
  have hpb:=Pa f
  have hj:n/8<(Lo f).length:=by omega
  have hy:=M3a ((Lo f).getD (n/8) 0) (n % 8)
  have hne:=Vya (hpb _ (A4 (d:=0) hj)) (Imb n (show 0<8 by omega))
  unfold M8 at g3
  generalize B2a ((Lo f).getD (n/8) 0) (n % 8)=y at g3 hy hne
  generalize n/8=j at g3 hj hne
  have ef:Lo f=P8 f++c4 (crc (P8 f)):=by unfold Lo;rw[hf];rfl
  have eg:Lo g=P8 g++c4 (crc (P8 g)):=by unfold Lo;rw[g1];rfl
  have l4:∀ c,(c4 c).length=4:=λ c=>rfl
  rw[eg]at g3
  rw[ef]at g3 hj hne
  have hlen:(P8 g).length=(P8 f).length:=by
   have:=congrArg length g3
   rw[Vx,Ve,Ve,l4,l4]at this
   omega
  by_cases hjb:j<(P8 f).length
  ·rw[List.set_append_left _ _ hjb]at g3
   obtain⟨a1,a2⟩:=List.append_inj g3 (by rw[Vx];exact hlen)
   rw[O3a hjb]at hne
   have:=Dbb (Y6a _) (Y6a _) a2
   rw[a1]at this
   exact Afb hjb hy (Sj f) hne this
  ·rw[Ilb _ _ (by omega)]at g3
   obtain⟨a1,a2⟩:=List.append_inj g3 hlen
   rw[a1]at a2
   rw[O4a (by omega)]at hne
   rw[Ve,l4]at hj
   have:(c4 (crc (P8 f))).getD (j-(P8 f).length) 0=y:=by
    rw[a2,Vd,Hbb (by rw[l4];omega),Yp]
   exact hne this.symm

def Q6 (l:List Nmd) (ns:List ByteArray):List ByteArray:=l.foldl (λ ns x=>wt ns x.1) ns
def nms (d:Dsk):List ByteArray:=Q6 (d.1++d.2) []
def pk1:Option Nmd→List Nmd
 |some x=>[x]
 |none=>[]
def Agb (o:Option Nmd):(pk1 o).length≤1:=by cases o<;>simp[pk1]
def Ss (kp:List Bool) (a b:List Nmd):List ByteArray→Nat→List Nmd
 |[],_=>[]
 |s::ns,i=>pk1 (pk (bif kp.getD i false then a else b) s)++Ss kp a b ns (i+1)
def Ahb (kp:List Bool) (a b:List Nmd) (i:Nat):Ss kp a b [] i=[]:=rfl
def Wba (kp:List Bool) (a b:List Nmd) (s:ByteArray) (ns:List ByteArray) (i:Nat):Ss kp a b (s::ns) i=pk1 (pk (bif kp.getD i false then a else b) s)++Ss kp a b ns (i+1):=rfl
def Sp (d:Dsk) (kp:List Bool):Dsk:=bif decide ((Ss kp d.1 d.2 (nms d) 0).length > 60) then d else (Ss kp d.1 d.2 (nms d) 0,Ss kp d.1 d.2 (nms d) 0)
def Dxa:∀ (l:List Nmd) (ns:List ByteArray),TS ns→TS (Q6 l ns)
 |[],_,h=>h
 |_::l,_,h=>Dxa l _ (Qs h)
def H4a:∀ (l:List Nmd) (ns:List ByteArray) (t:ByteArray),t∈Q6 l ns↔(∃ x∈l,x.1=t)∨t∈ns
 |[],ns,t=>by simp[Q6]
 |x::l,ns,t=>by
  show t∈Q6 l (wt ns x.1)↔_
  rw[H4a l,Lza]
  simp only[Vl,exists_eq_or_imp]
  constructor
  ·rintro (h|rfl|h)
   ·exact .inl (.inr h)
   ·exact .inl (.inl rfl)
   ·exact .inr h
  ·rintro ((h|h)|h)
   ·exact .inr (.inl h.symm)
   ·exact .inl h
   ·exact .inr (.inr h)
def Tq:∀ (l:List Nmd) (ns:List ByteArray),(Q6 l ns).length≤ns.length+l.length
 |[],_=>by simp[Q6]
 |x::l,ns=>by
  have h1:=Tq l (wt ns x.1)
  have h2:=Rya (l:=ns) (s:=x.1)
  show (Q6 l (wt ns x.1)).length≤_
  rw[Vc]
  omega
def Y7a (d:Dsk):TS (nms d):=Dxa _ _ List.Pairwise.nil
def Aib {d:Dsk} {t:ByteArray}:t∈nms d↔(gt d.1 t).isSome=true∨(gt d.2 t).isSome=true:=by
 have h:∀ l:List Nmd,(gt l t).isSome=true↔∃ x∈l,x.1=t:=λ l=>by
  cases hg:gt l t with
  |none=>
   constructor
   ·intro h;cases h
   ·rintro⟨x,hx,e⟩;exact absurd e (N4.1 hg x hx)
  |some b=>simp only[Option.isSome_some,true_iff];exact⟨_,Oi hg,rfl⟩
 unfold nms
 rw[H4a,h,h]
 simp only[Vn,Zq,or_false]
 constructor
 ·rintro⟨x,h1|h1,h2⟩
  ·exact .inl ⟨x,h1,h2⟩
  ·exact .inr ⟨x,h1,h2⟩
 ·rintro (⟨x,h1,h2⟩|⟨x,h1,h2⟩)
  ·exact⟨x,.inl h1,h2⟩
  ·exact⟨x,.inr h1,h2⟩
def Ajb (l:List Nmd) (s:ByteArray):pk l s=(gt l s).map λ b=>(s,b):=by
 unfold pk gt
 cases h:fnd l s with
 |none=>rfl
 |some i=>rw[H3b,← (Qr h).2]
def V0 (kp:List Bool) (a b:List Nmd):∀ (ns:List ByteArray) (i:Nat),((Ss kp a b ns i).map Prod.fst).Sublist ns
 |[],_=>List.Sublist.slnil
 |s::ns,i=>by
  unfold Ss
  rw[Ajb]
  cases gt (bif kp.getD i false then a else b) s with
  |none=>exact(V0 kp a b ns (i+1)).cons s
  |some c=>exact(V0 kp a b ns (i+1)).cons_cons s
def Akb (kp:List Bool) (a b:List Nmd) (ns:List ByteArray) (i:Nat):(Ss kp a b ns i).length≤ns.length:=by
 have:=(V0 kp a b ns i).length_le
 rwa [Wc]at this
def O5a {kp:List Bool} {a b:List Nmd} {ns:List ByteArray} {i:Nat} (h:TS ns):Fy (Ss kp a b ns i):=by
 have:=Hhb (V0 kp a b ns i) h
 rwa [Zj]at this
def Sqa {kp:List Bool} {a b:List Nmd}:∀ {ns:List ByteArray} {i:Nat} {x:Nmd},x∈Ss kp a b ns i→gt a x.1=some x.2∨gt b x.1=some x.2
 |[],_,_,h=>by cases h
 |s::ns,i,x,h=>by
  unfold Ss at h
  rw[Ajb]at h
  rcases Vn.1 h with h|h
  ·cases hg:gt (bif kp.getD i false then a else b) s with
   |none=>rw[hg]at h;cases h
   |some c=>
    rw[hg]at h
    rw[Vt.1 h]
    cases hk:kp.getD i false with
    |true=>rw[hk]at hg;exact .inl hg
    |false=>rw[hk]at hg;exact .inr hg
  ·exact Sqa h
def Y8a {kp:List Bool} {a b:List Nmd} {t:ByteArray}:∀ {ns:List ByteArray} {i:Nat},TS ns→t∈ns→∃ j,i≤j∧gt (Ss kp a b ns i) t=gt (bif kp.getD j false then a else b) t
 |[],_,_,h=>by cases h
 |s::ns,i,hs,h=>by
  obtain⟨h1,h2⟩:=Wg.1 hs
  have hn:∀ j,gt (Ss kp a b ns j) s=none:=λ j=>N4.2 λ x hx e=>by
   have:=h1 x.1 ((V0 kp a b ns j).subset (Yo hx))
   rw[e,Ig]at this
   cases this
  unfold Ss
  rw[Ajb]
  rcases Vl.1 h with rfl|h
  ·refine⟨i,Vw _,?_⟩
   cases hg:gt (bif kp.getD i false then a else b) t with
   |none=>exact hn _
   |some c=>
    show gt ((t,c)::Ss kp a b ns (i+1)) t=_
    rw[Jha,if_pos rfl]
  ·obtain⟨j,hj,e⟩:=Y8a (kp:=kp) (a:=a) (b:=b) (i:=i+1) h2 h
   refine⟨j,by omega,?_⟩
   rw[← e]
   have hst:s≠t:=λ e=>by
    have:=h1 t h
    rw[e,Ig]at this
    cases this
   cases gt (bif kp.getD i false then a else b) s with
   |none=>rfl
   |some c=>
    show gt ((s,c)::Ss kp a b ns (i+1)) t=_
    rw[Jha,if_neg hst]
def Sra {d:Dsk} {kp:List Bool} (h:DG d):DG (Sp d kp):=by
 unfold Sp
 cases hc:decide ((Ss kp d.1 d.2 (nms d) 0).length > 60)
 case true=>exact h
 have hl:=of_decide_eq_false hc
 have n1:=(Af.1 (E3.1 h.1).1).2.1
 have n2:=(Af.1 (E3.1 h.1).2).2.1
 have q:Iu (Ss kp d.1 d.2 (nms d) 0)=true:=Af.2 ⟨O5a (Y7a d),λ x hx=>(Sqa hx).elim (λ e=>n1 _ (Oi e)) (λ e=>n2 _ (Oi e)),by omega⟩
 have b:LB (Ss kp d.1 d.2 (nms d) 0):=λ x hx=>(Sqa hx).elim (λ e=>h.2.1.gt e) (λ e=>h.2.2.gt e)
 exact⟨E3.2 ⟨q,q⟩,b,b⟩
def Ssa {d:Dsk} {kp:List Bool} (t:ByteArray):Sp d kp=d∨((Sp d kp).2=(Sp d kp).1∧(gt (Sp d kp).1 t=gt d.1 t∨gt (Sp d kp).1 t=gt d.2 t)):=by
 unfold Sp
 cases hc:decide ((Ss kp d.1 d.2 (nms d) 0).length > 60)
 case true=>exact .inl rfl
 refine .inr ⟨rfl,?_⟩
 show gt (Ss kp d.1 d.2 (nms d) 0) t=_∨gt (Ss kp d.1 d.2 (nms d) 0) t=_
 by_cases ht:t∈nms d
 ·obtain⟨j,_,e⟩:=Y8a (kp:=kp) (a:=d.1) (b:=d.2) (i:=0) (Y7a d) ht
  rw[e]
  cases kp.getD j false with
  |true=>exact .inl rfl
  |false=>exact .inr rfl
 ·have h1:gt d.1 t=none:=by
   cases hg:gt d.1 t with
   |none=>rfl
   |some b=>exact absurd (Aib.2 (.inl (by rw[hg];rfl))) ht
  left
  rw[h1]
  exact N4.2 λ x hx e=>ht (by rw[← e];exact(V0 _ _ _ _ _).subset (Yo hx))
def Dya {R:Type} {L:Nat→List Nmd→Option R} {Q:R→Prop} (c:List Nmd) (s:ByteArray) (acc:List Nmd) (hc:c.length≤5000000) (ha:acc.length≤5000000) (next:Tot (λ k=>L k (acc++pk1 (pk c s))) Q):
  Tot (λ k=>(D7 k c s).bind λ r=>cond (decide (r≥0)) (cond (decide ((0:Int)≤r)) (cond (decide (r<(length c:Int))) (cond (Nat.ble ((length acc+length [getD c (toNat r) ((⟨#[]⟩:ByteArray),[])])*40) 140737488355328) (L k (acc++[getD c (toNat r) ((⟨#[]⟩:ByteArray),[])])) none) none) none) (L k acc)) Q:=by
 refine Fpb (C5a c s (by omega)) ?_
 unfold pk at next
 unfold Rna
 cases h:fnd c s with
 |none=>
  rw[h]at next
  simp only[pk1,Wq]at next
  exact Fib (by decide) next
 |some i=>
  rw[h]at next
  have:=(Qr h).1
  simp only[Vb]
  exact Fhb (by omega) (Fhb (by omega) (Fhb (by omega) (Flb (by simp only[Vc,Vj];omega) next)))

def mk0 (s:ByteArray):Nmd:=(s,[])
def V1 {ns:List ByteArray} (h:TS ns):Fy (ns.map mk0):=by
 unfold Fy
 rw[Zj]
 exact h
def Y9a {ns:List ByteArray} (h:TS ns) {t:ByteArray}:(t∈ns→gt (ns.map mk0) t=some [])∧(t∉ns→gt (ns.map mk0) t=none):=by
 refine⟨λ ht=>?_,λ ht=>N4.2 λ x hx e=>?_⟩
 ·exact Jia (V1 h) (x:=mk0 t) (Yo ht)
 ·obtain⟨s,hs,rfl⟩:=Yu.1 hx
  exact ht (by rw[← e];exact hs)
def Dcb {ns:List ByteArray} (h:TS ns) (s:ByteArray):ptl (s,[]) false (ns.map mk0)=(wt ns s).map mk0:=by
 have h1:=V1 h
 rw[Us _ h1]
 refine Xva (Rn (N3 h1) A8a) (V1 (Qs h)) λ t=>?_
 have e:=Jka h1 (s:=s) (t:=t) (b:=[])
 unfold wr at e
 rw[e]
 have g1:=Y9a h (t:=t)
 have g2:=Y9a (Qs (s:=s) h) (t:=t)
 by_cases hst:s=t
 ·rw[if_pos hst,g2.1 (Lza.2 (.inl hst.symm))]
 ·rw[if_neg hst]
  by_cases ht:t∈ns
  ·rw[g1.1 ht,g2.1 (Lza.2 (.inr ht))]
  ·rw[g1.2 ht,g2.2 (λ c=>(Lza.1 c).elim (λ e=>hst e.symm) ht)]
def Sta (a b:List Nmd) (ha:a.length≤2000000) (hb:b.length≤2000000):Tot (λ k=>Cm k a b) (λ r=>r=nms (a,b)):=by
 unfold Cm
 have put:∀ {ns:List ByteArray} (x:Nmd),TS ns→ns.length≤5000000→Tot (λ k=>Ff k (ns.map mk0) x.1 []) (λ r=>r=(wt ns x.1).map mk0):=λ x ht hl=>(Dqa _ x.1 [] (by rw[Wc];omega) (by simp)).mono λ r hr=>by rw[hr,Dcb ht]
 refine Feb (Q:=λ r=>r=(b,(Q6 a []).map mk0)) ?_ ?_
 ·refine Fmb (L:=λ k i s=>Fn k a b s i) (Q:=λ r=>r=(b,(Q6 a []).map mk0)) a.length (λ j s=>∃ ns,s=ns.map mk0∧TS ns∧Q6 (a.drop j) ns=Q6 a []∧ns.length≤j) ?_ ?_ 0 [] (Vs _) ⟨[],rfl,List.Pairwise.nil,rfl,Vw _⟩
  ·rintro s ⟨ns,rfl,_,h,_⟩
   rw[Wi]at h
   simp (disch:=omega) only [Fn,dF]
   exact Fdb (by rw[← h];rfl)
  ·rintro j s hj ⟨ns,rfl,ht,h,hl⟩ next
   rw[Ap (d:=Gg) hj]at h
   simp (disch:=omega) only [Fn,dT,Vb,w64]
   refine Fpb (put (a.getD j Gg) ht (by omega)) ?_
   have:=Rya (l:=ns) (s:=(a.getD j Gg).1)
   exact next _ ⟨_,rfl,Qs ht,h,by omega⟩
 ·rintro r rfl
  have hla:(Q6 a []).length≤2000000:=by have:=Tq a [];rw[Vj]at this;omega
  have e:Q6 b (Q6 a [])=nms (a,b):=by unfold nms Q6;rw[Gob]
  refine Feb (Q:=λ r=>r=(nms (a,b)).map mk0) ?_ ?_
  ·refine Fmb (L:=λ k i s=>Fm k b s i) (Q:=λ r=>r=(nms (a,b)).map mk0) b.length (λ j s=>∃ ns,s=ns.map mk0∧TS ns∧Q6 (b.drop j) ns=nms (a,b)∧ns.length≤2000000+j) ?_ ?_ 0 _ (Vs _) ⟨_,rfl,Dxa _ _ List.Pairwise.nil,e,by omega⟩
   ·rintro s ⟨ns,rfl,_,h,_⟩
    rw[Wi]at h
    simp (disch:=omega) only [Fm,dF]
    exact Fdb (by rw[← h];rfl)
   ·rintro j s hj ⟨ns,rfl,ht,h,hl⟩ next
    rw[Ap (d:=Gg) hj]at h
    simp (disch:=omega) only [Fm,dT,Vb,w64]
    refine Fpb (put (b.getD j Gg) ht (by omega)) ?_
    have:=Rya (l:=ns) (s:=(b.getD j Gg).1)
    exact next _ ⟨_,rfl,Qs ht,h,by omega⟩
  ·rintro r rfl
   have hln:(nms (a,b)).length≤4000000:=by rw[← e];have:=Tq b (Q6 a []);omega
   refine Feb (Q:=λ r=>r=nms (a,b)) ?_ (by rintro r rfl;exact Fdb rfl)
   refine Fmb (L:=λ k i s=>Em k ((nms (a,b)).map mk0) s i) (Q:=λ r=>r=nms (a,b)) (nms (a,b)).length (λ j s=>s=(nms (a,b)).take j) ?_ ?_ 0 [] (Vs _) rfl
   ·rintro s rfl
    simp (disch:=omega) only [Em,Wc,dF,Yt]
    exact Fdb rfl
   ·rintro j s hj rfl next
    simp (disch:=omega) only [Em,Wc,dT,Vb,w64]
    refine Flb (by simp only[Vu,Vc,Vj];omega) (next _ ?_)
    rw[Wj hj,Vd,Fyb,Vk hj]
    rfl
def Sua (d:Dsk) (kp:List Bool) (hd:DG d) (hk:kp.length≤4000000000000):Tot (λ k=>Dc k d kp) (λ r=>r=Sp d kp):=by
 have hin:=Nz hd.1
 have g1:=(Af.1 (E3.1 hd.1).1).2.2
 have g2:=(Af.1 (E3.1 hd.1).2).2.2
 unfold Dc
 refine Fpb (Pu d hin.1.1 hin.1.2) ?_
 rw[hd.1]
 refine Ffb rfl (Fpb (Sta d.1 d.2 (by omega) (by omega)) ?_)
 have hn:(nms d).length≤120:=by
  have:=Tq (d.1++d.2) []
  rw[Vj,Ve]at this
  exact Zs this (by omega)
 refine Feb (Q:=λ r=>r=(Ss kp d.1 d.2 (nms d) 0,d,([],[]))) ?_ ?_
 ·refine Fmb (L:=λ k i s=>As k kp (nms d) s i d ([],[])) (Q:=λ r=>r=(Ss kp d.1 d.2 (nms d) 0,d,([],[]))) (nms d).length (λ j s=>s++Ss kp d.1 d.2 ((nms d).drop j) j=Ss kp d.1 d.2 (nms d) 0∧s.length≤j) ?_ ?_ 0 [] (Vs _) ⟨rfl,Vw _⟩
  ·rintro s ⟨h,_⟩
   rw[Wi,Ahb,Wq]at h
   simp (disch:=omega) only [As,dF]
   exact Fdb (by rw[h])
  ·rintro j s hj ⟨h,hs⟩ next
   rw[Ap (d:=O7) hj]at h
   rw[Wba,← Vp]at h
   simp (disch:=omega) only [As,dT,Vb,w64]
   have hl:=Agb (pk (bif kp.getD j false then d.1 else d.2) ((nms d).getD j O7))
   have nx:=next (s++pk1 (pk (bif kp.getD j false then d.1 else d.2) ((nms d).getD j O7))) ⟨h,by rw[Ve];omega⟩
   have e0:(nms d).getD j (⟨#[]⟩:ByteArray)=(nms d).getD j O7:=rfl
   rw[e0]
   refine Fkb (λ hc=>?_) (λ hc=>?_)
   ·refine Fhb (by omega) (Fjb (λ hk=>?_) (λ hk=>?_))
    ·rw[hk]at nx
     exact Dya (L:=λ k acc=>As k kp (nms d) acc ((j:Int)+1) d ([],[])) d.1 _ s (by omega) (by omega) nx
    ·rw[hk]at nx
     exact Dya (L:=λ k acc=>As k kp (nms d) acc ((j:Int)+1) d ([],[])) d.2 _ s (by omega) (by omega) nx
   ·have hk:kp.getD j false=false:=by rw[Vd,Zh (by omega)];rfl
    rw[hk]at nx
    exact Dya (L:=λ k acc=>As k kp (nms d) acc ((j:Int)+1) d ([],[])) d.2 _ s (by omega) (by omega) nx
 ·rintro r rfl
  have hp:=Akb kp d.1 d.2 (nms d) 0
  unfold Sp
  refine Fkb (λ h=>?_) (λ h=>?_)
  ·dsimp only at h
   rw[decide_eq_true (show (Ss kp d.1 d.2 (nms d) 0).length > 60 by omega)]
   refine Fpb (Li d hin.1.1) ?_
   exact Fdb rfl
  ·dsimp only at h
   have hc:decide ((Ss kp d.1 d.2 (nms d) 0).length > 60)=false:=decide_eq_false (by omega)
   have hg:=Sra (kp:=kp) hd
   unfold Sp at hg
   rw[hc]at hg ⊢
   rw[cond_false]at hg
   have hf:=(Nz hg.1).1.1.1
   refine Fpb (Oh _ hf) ?_
   refine Fpb (Oh _ hf) ?_
   exact Fdb rfl
def clS (o:Dsk×Int) (x:Nmd):Dsk×Int:=match Pc x.2 with
 |some _=>o
 |none=>((cut o.1.1 x.1,cut o.1.2 x.1),o.2+1)
def O3 (d:Dsk):Dsk×Int:=d.1.foldl clS (d,0)
def O6a {l:List Nmd} {s:ByteArray} (h:gt l s=none):cut l s=l:=by
 refine List.filter_eq_self.2 λ x hx=>?_
 cases ht:teq x.1 s with
 |false=>rfl
 |true=>exact absurd (Fe.1 ht) (N4.1 h x hx)
def Ddb {d:Dsk} {s:ByteArray} (h:DG d):DG (cut d.1 s,cut d.2 s):=⟨E3.2 ⟨W0 (E3.1 h.1).1,W0 (E3.1 h.1).2⟩,h.2.1.cut s,h.2.2.cut s⟩
def Alb {o:Dsk×Int} {x:Nmd} (h:DG o.1):DG (clS o x).1:=by
 unfold clS
 cases Pc x.2 with
 |some _=>exact h
 |none=>exact Ddb h
def Mja:∀ (l:List Nmd) (o:Dsk×Int),DG o.1→DG (l.foldl clS o).1
 |[],_,h=>h
 |_::l,_,h=>Mja l _ (Alb h)
def Wca {d:Dsk} (h:DG d):DG (O3 d).1:=Mja _ _ h
def Eda (l:List Nmd):List ByteArray:=(l.filter λ x=>(Pc x.2).isNone).map Prod.fst
def Aia:∀ (l:List Nmd) (o:Dsk×Int),DG o.1→((l.foldl clS o).2=o.2+((Eda l).length:Int))∧∀ t,(t∈Eda l→gt (l.foldl clS o).1.1 t=none∧gt (l.foldl clS o).1.2 t=none)∧(t∉Eda l→gt (l.foldl clS o).1.1 t=gt o.1.1 t∧gt (l.foldl clS o).1.2 t=gt o.1.2 t)
 |[],o,h=>⟨by simp[Eda],λ t=>⟨λ c=>by simp[Eda]at c,λ _=>⟨rfl,rfl⟩⟩⟩
 |x::l,o,h=>by
  obtain⟨h1,h2⟩:=Aia l (clS o x) (Alb h)
  rw[Zp]
  cases hx:Pc x.2 with
  |some f=>
   have e:Eda (x::l)=Eda l:=by unfold Eda;rw[Zz,hx];rfl
   have ec:clS o x=o:=by unfold clS;rw[hx]
   rw[e]
   rw[ec]at h1 h2 ⊢
   exact⟨h1,h2⟩
  |none=>
   have e:Eda (x::l)=x.1::Eda l:=by unfold Eda;rw[Zz,hx];rfl
   have ec:clS o x=((cut o.1.1 x.1,cut o.1.2 x.1),o.2+1):=by unfold clS;rw[hx]
   rw[e]
   rw[ec]at h1 h2 ⊢
   refine⟨by rw[h1,Vc];omega,λ t=>⟨λ ht=>?_,λ ht=>?_⟩⟩
   ·by_cases hb:t∈Eda l
    ·exact(h2 t).1 hb
    ·obtain⟨a1,a2⟩:=(h2 t).2 hb
     have:x.1=t:=by
      rcases Vl.1 ht with e|e
      ·exact e.symm
      ·exact absurd e hb
     rw[a1,a2,Tn (Mb h.1),Tn (Oo h.1),if_pos this,if_pos this]
     exact⟨rfl,rfl⟩
   ·obtain⟨a1,a2⟩:=(h2 t).2 (λ c=>ht (Vi _ c))
    have:x.1≠t:=λ e=>ht (by rw[← e];exact Za)
    rw[a1,a2,Tn (Mb h.1),Tn (Oo h.1),if_neg this,if_neg this]
    exact⟨rfl,rfl⟩
def Wda {d:Dsk} (hd:Aq d=true) {t:ByteArray}:t∈Eda d.1↔∃ b,gt d.1 t=some b∧Pc b=none:=by
 unfold Eda
 rw[Yu]
 constructor
 ·rintro⟨x,hx,rfl⟩
  obtain⟨h1,h2⟩:=H8b.1 hx
  exact⟨x.2,Jia (Mb hd) h1,by simpa using h2⟩
 ·rintro⟨b,h1,h2⟩
  exact⟨(t,b),H8b.2 ⟨Oi h1,by simp[h2]⟩,rfl⟩
def Sva (d:Dsk) (hd:DG d):Tot (λ k=>Ic k d) (λ r=>r=O3 d):=by
 have hin:=Nz hd.1
 have hl:=(Af.1 (E3.1 hd.1).1).2.2
 have hnk:=(Af.1 (E3.1 hd.1).1).2.1
 unfold Ic
 refine Fpb (Li d hin.1.1) ?_
 refine Feb (Q:=λ r=>r=((O3 d).2,([],[]),(O3 d).1)) ?_ (by rintro r rfl;exact Fdb rfl)
 refine Fmb (L:=λ k i (s:Dsk×Int)=>Hc k s.2 i d ([],[]) s.1) (Q:=λ r=>r=((O3 d).2,([],[]),(O3 d).1)) d.1.length (λ j s=>(d.1.drop j).foldl clS s=O3 d∧DG s.1∧0≤s.2∧s.2≤j) ?_ ?_ 0 (d,0) (Vs _) ⟨rfl,hd,Fvb 0,by simp⟩
 ·rintro s ⟨h,_⟩
  rw[Wi]at h
  simp (disch:=omega) only [Hc,dF]
  exact Fdb (by rw[← h];rfl)
 ·rintro j s hj ⟨h,hg,s0,s1⟩ next
  rw[Ap (d:=Gg) hj,Zp]at h
  have hsi:=Nz hg.1
  have hx:=A4 (d:=Gg) hj
  simp (disch:=omega) only [Hc,dT,Vb,w64]
  have e0:d.1.getD j ((⟨#[]⟩:ByteArray),([]:List Int))=d.1.getD j Gg:=rfl
  rw[e0]
  refine Fpb (Pu d hin.1.1 hin.1.2) ?_
  refine Fgb hd.1 (Fpb (Xf hin.1.1.1 hd.2.1 _) ?_)
  have hnm:=(Pv.1 (hnk _ hx)).1
  have hcg:=Alb (x:=d.1.getD j Gg) hg
  unfold clS at h hcg
  unfold lkD
  rw[Jia (Mb hd.1) hx]
  simp only
  cases hf:Pc (d.1.getD j Gg).2 with
  |some f=>
   rw[hf]at h
   exact Ffb rfl (next _ ⟨h,hg,s0,by omega⟩)
  |none=>
   rw[hf]at h hcg
   refine Fgb rfl (Fpb (Px hg.1 (Jh hnm)) ?_)
   have er:(rmD s.1 (d.1.getD j Gg).1).1=(cut s.1.1 (d.1.getD j Gg).1,s.1.2):=by
    unfold rmD
    cases hg1:gt s.1.1 (d.1.getD j Gg).1 with
    |none=>rw[O6a hg1];rfl
    |some b=>rfl
   have hrg:=S5a (s:=(d.1.getD j Gg).1) hg
   rw[er]at hrg ⊢
   refine Fpb (Qu hrg.1 hnm) ?_
   have es:(syD (cut s.1.1 (d.1.getD j Gg).1,s.1.2) (d.1.getD j Gg).1).1=(cut s.1.1 (d.1.getD j Gg).1,cut s.1.2 (d.1.getD j Gg).1):=by
    have e2:sy (cut s.1.1 (d.1.getD j Gg).1,s.1.2) (d.1.getD j Gg).1=cut s.1.2 (d.1.getD j Gg).1:=by
     unfold sy
     rw[Tn (Mb hg.1),if_pos rfl]
    unfold syD
    rw[e2,decide_eq_true (Af.1 (E3.1 hcg.1).2).2.2]
    rfl
   rw[es]
   exact next ((cut s.1.1 (d.1.getD j Gg).1,cut s.1.2 (d.1.getD j Gg).1),s.2+1) ⟨h,hcg,by dsimp only;omega,by dsimp only;omega⟩

def hI (d:Dsk) (out:List ByteArray) (x:Nmd):List ByteArray:=bif (lkD d x.1).2==0 then wt out x.1 else out
def Eea (l:List ByteArray) (s:ByteArray):Bool:=l.any λ y=>teq y s
def Mka {l:List ByteArray} {s:ByteArray}:Eea l s=true↔s∈l:=by
 unfold Eea
 rw[G5b]
 constructor
 ·rintro⟨x,hx,e⟩;rw[← Fe.1 e];exact hx
 ·intro h;exact⟨s,h,Fe.2 rfl⟩
def Mla (l:List ByteArray) (s:ByteArray) (hl:l.length≤1000000000):Tot (λ k=>Hg k l s) (λ r=>r=Eea l s):=by
 unfold Hg
 refine Feb (Q:=λ r=>r=bif Eea l s then .inl true else .inr ()) ?_ (by rintro r rfl;cases Eea l s<;>exact Fdb rfl)
 refine Fmb (L:=λ k i (_:Unit)=>Gx k l s i) (Q:=λ r=>r=bif Eea l s then .inl true else .inr ()) l.length (λ j _=>Eea (l.drop j) s=Eea l s) ?_ ?_ 0 () (Vs _) rfl
 ·intro _ h
  rw[Wi]at h
  simp (disch:=omega) only [Gx,dF,← h]
  exact Fdb rfl
 ·intro j _ hj h next
  rw[Ap (d:=O7) hj]at h
  unfold Eea at h
  rw[H2b]at h
  simp (disch:=omega) only [Gx,dT,Vb,w64]
  refine Fjb (λ hc=>Fdb ?_) (λ hc=>next () ?_)
  ·rw[show teq (l.getD j O7) s=true from hc,Ijb]at h
   unfold Eea
   rw[← h]
   rfl
  ·rw[show teq (l.getD j O7) s=false from hc,G9b]at h
   exact h
def Hra (l:List ByteArray):Nat→ByteArray→List ByteArray×Nat
 |0,_=>(l,0)
 |k+1,s=>bif tlt s (l.getD k O7) then Hra (l.set (k+1) (l.getD k O7)) k s else (l,k+1)
def Yaa (l:List ByteArray) (s:ByteArray):List ByteArray:=(Hra (l++[s]) l.length s).1.set (Hra (l++[s]) l.length s).2 s
def Aja:∀ (k:Nat) (l:List ByteArray) (s:ByteArray),(Hra l k s).1.length=l.length∧(Hra l k s).2≤k∧∀ y∈(Hra l k s).1,y∈l∨y=O7
 |0,_,_=>⟨rfl,Vw _,λ _ h => .inl h⟩
 |k+1,l,s=>by
  unfold Hra
  cases tlt s (l.getD k O7)
  ·exact⟨rfl,Vw _,λ _ h => .inl h⟩
  obtain⟨h1,h2,h3⟩:=Aja k (l.set (k+1) (l.getD k O7)) s
  rw[cond_true]
  refine⟨by rw[h1,Vx],by omega,λ y hy=>?_⟩
  rcases h3 y hy with h|h
  ·rcases Wo h with h|h
   ·exact .inl h
   ·by_cases hk:k<l.length
    ·rw[h];exact .inl (A4 hk)
    ·rw[h,Vd,Zh (by omega)];exact .inr rfl
  ·exact .inr h
def Wea (l:List ByteArray) (s:ByteArray):(Yaa l s).length=l.length+1:=by
 unfold Yaa
 rw[Vx,(Aja _ _ _).1,Ve]
 rfl
def Wfa {l:List ByteArray} {s y:ByteArray} (h:y∈Yaa l s):y∈l∨y=s∨y=O7:=by
 unfold Yaa at h
 rcases Wo h with h|h
 ·rcases (Aja _ _ _).2.2 y h with h|h
  ·rcases Vn.1 h with h|h
   ·exact .inl h
   ·exact .inr (.inl (Vt.1 h))
  ·exact .inr (.inr h)
 ·exact .inr (.inl h)
def hS1 (l:List Nmd) (j:Nat) (out:List ByteArray) (x:Nmd):List ByteArray:=bif (Pc x.2).isSome&&(!(Eea out x.1)&&(Rna l x.1==(j:Int))) then Yaa out x.1 else out
def hS (l:List Nmd):List Nmd→Nat→List ByteArray→List ByteArray
 |[],_,out=>out
 |x::r,j,out=>hS l r (j+1) (hS1 l j out x)
def O7a (d:Dsk):List ByteArray:=hS d.1 d.1 0 []
def Swa (l:List Nmd) (j:Nat) (out:List ByteArray) (x:Nmd):(hS1 l j out x).length≤out.length+1:=by
 unfold hS1
 cases (Pc x.2).isSome&&(!(Eea out x.1)&&(Rna l x.1==(j:Int))) with
 |false=>exact G0b _
 |true=>rw[cond_true,Wea];exact Vw _
def Deb (l:List Nmd) (hl:Ny l):∀ (r:List Nmd) (j:Nat) (out:List ByteArray),(∀ x∈r,x∈l)→(∀ y∈out,Kd y)→(hS l r j out).length≤out.length+r.length∧∀ y∈hS l r j out,Kd y
 |[],_,out,_,h=>⟨by simp[hS],h⟩
 |x::r,j,out,hm,h=>by
  have h2:=Swa l j out x
  obtain⟨a1,a2⟩:=Deb l hl r (j+1) (hS1 l j out x) (λ y hy=>hm y (Vi _ hy)) (λ y hy=>by
   unfold hS1 at hy
   cases hc:(Pc x.2).isSome&&(!(Eea out x.1)&&(Rna l x.1==(j:Int)))
   ·rw[hc]at hy;exact h y hy
   rw[hc]at hy
   rcases Wfa hy with hy|rfl|rfl
   ·exact h y hy
   ·exact hl x (hm x Za)
   ·unfold Kd;decide)
  refine⟨?_,a2⟩
  show (hS l r (j+1) (hS1 l j out x)).length≤_
  rw[Vc]
  omega
def Jra (a b:List Nmd) (j:Nat) (hj:j<a.length) (ha:a.length≤5000000):∀ (k:Nat) (x:List ByteArray),k<x.length→x.length≤5000000→
  Tot (λ n=>J3 n x (j:Int) (k:Int) (a,b)) (λ r=>r=((Hra x k (a.getD j Gg).1).1,(j:Int),((Hra x k (a.getD j Gg).1).2:Int),(a,b))):=by
 intro k
 induction k with
 |zero=>
  intro x hk hx
  refine Tot.succ ?_
  simp (disch:=omega) only [J3,dF]
  exact Fdb rfl
 |succ k ih=>
  intro x hk hx
  refine Tot.succ ?_
  have e1:((k+1:Nat):Int)-1=(k:Int):=by omega
  simp (disch:=omega) only [J3,dT,w64,e1,Vb]
  have e0:a.getD j ((⟨#[]⟩:ByteArray),([]:List Int))=a.getD j Gg:=rfl
  rw[e0]
  unfold Hra
  refine Fjb (λ h=>?_) (λ h=>?_)
  ·rw[Fya]at h
   rw[show tlt (a.getD j Gg).1 (x.getD k O7)=true from h,cond_true]
   exact ih _ (by rw[Vx];omega) (by rw[Vx];omega)
  ·rw[Fya]at h
   rw[show tlt (a.getD j Gg).1 (x.getD k O7)=false from h,cond_false]
   exact Fdb rfl
def Wga (d:Dsk) (hd:DIn d) (hb:DB d):Tot (λ k=>Gb k d) (λ r=>r=O7a d):=by
 have hl:=hd.2.1
 unfold Gb
 refine Feb (Q:=λ r=>r=O7a d) ?_ (by rintro r rfl;exact Fdb rfl)
 refine Fmb (L:=λ k i s=>Gl k s i d) (Q:=λ r=>r=O7a d) d.1.length (λ j s=>hS d.1 (d.1.drop j) j s=O7a d∧s.length≤j) ?_ ?_ 0 [] (Vs _) ⟨rfl,Vw _⟩
 ·rintro s ⟨h,_⟩
  rw[Wi]at h
  simp (disch:=omega) only [Gl,dF]
  exact Fdb h
 ·rintro j s hj ⟨h,hs⟩ next
  rw[Ap (d:=Gg) hj]at h
  have hlen:=Swa d.1 j s (d.1.getD j Gg)
  have nx:=next _ ⟨show hS d.1 (d.1.drop (j+1)) (j+1) (hS1 d.1 j s (d.1.getD j Gg))=O7a d from h,by omega⟩
  have hx:=A4 (d:=Gg) hj
  simp (disch:=omega) only [Gl,dT,Vb,w64]
  have e0:d.1.getD j ((⟨#[]⟩:ByteArray),([]:List Int))=d.1.getD j Gg:=rfl
  rw[e0]
  unfold hS1 at nx
  refine Fpb (Aaa _ (hb.1 _ hx) (hd.1.1.1.2 _ hx)) ?_
  unfold Nwa
  cases hf:Pc (d.1.getD j Gg).2 with
  |none=>
   rw[hf]at nx
   exact Fgb rfl nx
  |some f=>
   rw[hf]at nx
   refine Ffb rfl (Fpb (Mla s _ (by omega)) ?_)
   cases hc:Eea s (d.1.getD j Gg).1 with
   |true=>
    rw[hc]at nx
    exact Fgb rfl nx
   |false=>
    rw[hc]at nx
    refine Ffb rfl (Fpb (C5a d.1 _ (by omega)) ?_)
    cases he:Rna d.1 (d.1.getD j Gg).1==(j:Int) with
    |false=>
     rw[he]at nx
     exact Fgb (by unfold bne;rw[he];rfl) nx
    |true=>
     rw[he]at nx
     refine Ffb (by unfold bne;rw[he];rfl) (Flb (by simp only[Vc,Vj];omega) ?_)
     have hq:=Jra d.1 d.2 j hj (by omega) s.length (s++[(d.1.getD j Gg).1]) (by simp) (by simp only[Ve,Vc,Vj];omega)
     refine Feb hq ?_
     rintro r rfl
     obtain⟨w1,w2,_⟩:=Aja s.length (s++[(d.1.getD j Gg).1]) (d.1.getD j Gg).1
     rw[Ve]at w1
     simp only[Vc,Vj]at w1
     simp (disch:=omega) only [dT,Vb,w64]
     exact nx

def F1b (n:Nod):Nod×Int:=((n.1,(O3 n.2.1).1,n.2.2),(O3 n.2.1).2)
def Dza {n:Nod} (hn:NG n) {d:Dsk} (hd:DG d):NG (n.1,d,n.2.2):=by
 obtain⟨h1,h2,h3,h4,h5⟩:=B1.1 hn.1
 exact⟨B1.2 ⟨h1,h2,hd.1,h4,h5⟩,hd.2⟩
def Yba {n:Nod} (hn:NG n):NG (F1b n).1:=Dza hn (Wca hn.g)

def Jsa (v:BitVec 32) (b:Int):BitVec 32:=(v ^^^ ofInt 32 b)*16777619#32
def B5a (x:ByteArray):Nat→BitVec 32
 |0=>2166136261#32
 |n+1=>Jsa (B5a x n) (bt x (n:Int))
def O8a (x:ByteArray):Nat:=(B5a x x.size).toNat
def Fbb (v:BitVec 32):wrap .u32 ((v.toNat:Int)*16777619)=((v*16777619#32).toNat:Int):=by
 rw[IntKind.wrap_u32,BitVec.toNat_mul]
 show (v.toNat:Int)*16777619 % 4294967296=((v.toNat*16777619 % 4294967296:Nat):Int)
 omega
def Fcb (v:BitVec 32):wrap .i64 ((ofInt (IntKind.bits .i64) ((v.toNat:Int)*16777619) &&& ofInt (IntKind.bits .i64) 4294967295).toNat)=((v*16777619#32).toNat:Int):=by
 have h:=v.isLt
 rw[Hkb,show (v.toNat:Int)*16777619=((v.toNat*16777619:Nat):Int) by omega,Qq _ (by omega),show (ofInt (IntKind.bits .i64) 4294967295).toNat=2 ^ 32-1 from by decide,Hib,BitVec.toNat_mul]
 show wrap .i64 ((v.toNat*16777619 % 4294967296:Nat):Int)=((v.toNat*16777619 % 4294967296:Nat):Int)
 exact w64 (by omega) (by omega)
def Wha (x:ByteArray) (hx:x.size≤1000000000):Tot (λ k=>L9 k x) (λ r=>r=(O8a x:Int)):=by
 unfold L9
 refine Feb (Q:=λ r=>r=(O8a x:Int)) ?_ (by
  rintro r rfl
  have:=(B5a x x.size).isLt
  exact Fdb (w64 (n:=(O8a x:Int)) (by omega) (by show ((B5a x x.size).toNat:Int)≤_;omega)))
 refine Fmb (L:=λ k i (s:Int)=>Iv k x s i) (Q:=λ r=>r=(O8a x:Int)) x.size (λ j s=>s=((B5a x j).toNat:Int)) ?_ ?_ 0 _ (Vs _) rfl
 ·rintro s rfl
  simp (disch:=omega) only [Iv,dF]
  exact Fdb rfl
 ·rintro j s hj rfl next
  have hb:=Z9 x (j:Int)
  have e1:wrap .u32 (bt x (j:Int))=bt x (j:Int):=Go.IntWalk.u32_in _ ⟨by omega,by omega⟩
  simp (disch:=omega) only [Iv,dT,w64,e1,F9b (B5a x j) _ (bt x (j:Int)) rfl,Fbb]
  exact next _ rfl
def Wia (x:ByteArray) (hx:x.size≤1000000000):Tot (λ k=>La k x) (λ r=>r=(O8a x:Int)):=by
 unfold La
 refine Feb (Q:=λ r=>r=(O8a x:Int)) ?_ (by rintro r rfl;exact Fdb rfl)
 refine Fmb (L:=λ k i (s:Int)=>Iw k x s i) (Q:=λ r=>r=(O8a x:Int)) x.size (λ j s=>s=((B5a x j).toNat:Int)) ?_ ?_ 0 _ (Vs _) rfl
 ·rintro s rfl
  simp (disch:=omega) only [Iw,dF]
  exact Fdb rfl
 ·rintro j s hj rfl next
  have hb:=Z9 x (j:Int)
  have hx:wrap .i64 ((ofInt (IntKind.bits .i64) ((B5a x j).toNat:Int) ^^^ ofInt (IntKind.bits .i64) (bt x (j:Int))).toNat)=((B5a x j ^^^ ofInt 32 (bt x (j:Int))).toNat:Int):=by
   have:=E5b (B5a x j) (ofInt 32 (bt x (j:Int)))
   rwa [← M1a hb]at this
  simp (disch:=omega) only [Iw,dT,w64,hx,Fcb]
  exact next _ rfl
def V2 (r:Rng) (x:ByteArray):List Int:=r.2.getD (O8a x % r.2.length) []
def Dfb (a b:Nat):Int.tmod (a:Int) (b:Int)=((a % b:Nat):Int):=by
 rw[Gpb (by omega)]
 exact(Int.natCast_emod _ _).symm
def Wja (r:Rng) (x:ByteArray) (hr:RBd r) (hx:x.size≤1000000000):Tot (λ k=>Gq k r x) (λ y=>y=V2 r x):=by
 have hrl:=hr.1
 unfold Gq
 by_cases h0:r.2.length=0
 ·refine Fgb (by rw[h0];rfl) (Fdb ?_)
  unfold V2
  rw[Xs h0]
  rfl
 ·have hm:=Imb (O8a x) (show 0<r.2.length by omega)
  refine Ffb (by rw[beq_eq_false_iff_ne];omega) (Feb (Q:=λ y=>y=((O8a x % r.2.length:Nat):Int)) ?_ ?_)
  ·unfold Ke
   refine Fib (by omega) (Fpb (Wha x hx) ?_)
   exact Fib (by omega) (Fdb (Dfb _ _))
  ·rintro y rfl
   simp (disch:=omega) only [dT,Vb]
   have hp:=hr.2 _ (A4 (d:=[]) hm)
   rw[W1 _ (by omega)]
   exact Fdb rfl
def Xj (r:Rng) (x:ByteArray) (hr:RBd r) (hx:x.size≤1000000000):Tot (λ k=>Be k r x) (λ y=>y=V2 r x):=by
 have hrl:=hr.1
 unfold Be
 by_cases h0:r.2.length=0
 ·refine Fgb (by rw[h0];rfl) (Fdb ?_)
  unfold V2
  rw[Xs h0]
  rfl
 ·have hm:=Imb (O8a x) (show 0<r.2.length by omega)
  refine Ffb (by rw[beq_eq_false_iff_ne];omega) (Feb (Q:=λ y=>y=((O8a x % r.2.length:Nat):Int)) ?_ ?_)
  ·unfold Kf
   refine Fib (by omega) (Fpb (Wia x hx) ?_)
   exact Fib (by omega) (Fdb (Dfb _ _))
  ·rintro y rfl
   have hp:=hr.2 _ (A4 (d:=[]) hm)
   simp (disch:=omega) only [dT,Vb]
   exact Flb (by simp only[Vj];omega) (Fdb rfl)
def Wka {r:Rng} {l:List Dev} (h:Ik r l=true) (x:ByteArray):V2 r x∈r.2:=by
 obtain⟨_,_,h3,_⟩:=Cd.1 h
 exact A4 (d:=[]) (Imb _ (by omega))
def Aka {r:Rng} {l:List Dev} (h:Ik r l=true) (x:ByteArray):(V2 r x).Nodup∧((V2 r x).length:Int)=r.1∧∀ id∈V2 r x,∃ d,Ji l id=some d:=(Cd.1 h).2.2.2 _ (Wka h x)
def hoA (p zs:List Int) (z:Bool) (l:List Dev):List Int:=(l.filter λ d => !(Mr p d.1)&&(Mr zs d.2.1==z)).map (·.1)
def Rp (r:Rng) (l:List Dev) (x:ByteArray):List Int:=hoA (V2 r x) (Jv (V2 r x) l) false l++hoA (V2 r x) (Jv (V2 r x) l) true l
def E0a (p zs:List Int) (z:Bool) (l:List Dev):(hoA p zs z l).length≤l.length:=by
 unfold hoA
 rw[Wc]
 exact List.length_filter_le _ _
def Wla (p zs:List Int) (z:Bool) (d:Dev) (l:List Dev):hoA p zs z (d::l)=bif !(Mr p d.1)&&(Mr zs d.2.1==z) then d.1::hoA p zs z l else hoA p zs z l:=by
 unfold hoA
 rw[Zz]
 cases !(Mr p d.1)&&(Mr zs d.2.1==z)<;>rfl
def Ala (p zs:List Int) (l:List Dev) (hp:p.length≤2000000) (hz:zs.length≤2000000) (hl:l.length≤2000000) (out:List Int) (ho:out.length≤5000000) (t:Int):Tot (λ k=>Ce k l p zs out t 0) (λ y=>y=(l,p,zs,out++hoA p zs (t==1) l,t)):=by
 have m1:=E0a p zs (t==1) l
 refine Fmb (L:=λ k i (s:List Int)=>Ce k l p zs s t i) (Q:=λ y=>y=(l,p,zs,out++hoA p zs (t==1) l,t)) l.length (λ j s=>s++hoA p zs (t==1) (l.drop j)=out++hoA p zs (t==1) l) ?_ ?_ 0 out (Vs _) rfl
 ·rintro s e1
  rw[Wi]at e1
  simp (disch:=omega) only [Ce,dF]
  refine Fdb ?_
  rw[← e1]
  show _=(l,p,zs,s++[],t)
  rw[Wq]
 ·rintro j s hj e1 next
  have g1:=congrArg length e1
  rw[Ve,Ve]at g1
  rw[Ap (d:=Mv) hj,Wla]at e1
  obtain⟨d,ed⟩:∃ d:Dev,l.getD j Mv=d:=⟨_,rfl⟩
  rw[ed]at e1
  have e0:l.getD j ((0:Int),((0:Int),(0:Int)))=d:=ed
  simp (disch:=omega) only [Ce,dT,Vb,w64,e0]
  refine Fpb (Sn p d.1 (by omega)) ?_
  cases hp':Mr p d.1 with
  |true=>
   rw[hp']at e1
   exact Ffb rfl (next s e1)
  |false=>
   rw[hp']at e1
   refine Fgb rfl (Fpb (Sn zs d.2.1 (by omega)) ?_)
   cases hz':Mr zs d.2.1==(t==1) with
   |true=>
    rw[hz']at e1
    exact Fgb rfl (Flb (by simp only[Vc,Vj];omega) (next (s++[d.1]) (by rw[← e1];simp)))
   |false=>
    rw[hz']at e1
    exact Ffb rfl (next s e1)
def Wma (r:Rng) (l:List Dev) (x:ByteArray) (h:Ik r l=true) (hx:x.size≤1000000000):Tot (λ k=>Cj k r l x) (λ y=>y=Rp r l x):=by
 obtain⟨h1,h2,_,_⟩:=Cd.1 h
 obtain⟨_,p2,_⟩:=Aka h x
 obtain⟨_,_,_,h12⟩:=Fg.1 h1
 have hz:=Aga (V2 r x) l
 unfold Cj Rp
 refine Fpb (Xj r x (Lr h) hx) ?_
 generalize V2 r x=p at *
 refine Fpb (Gxa p l (by omega) (by omega)) ?_
 generalize Jv p l=zs at *
 have m1:=E0a p zs false l
 refine Feb (Q:=λ y=>y=hoA p zs false l++hoA p zs true l) ?_ (by rintro y rfl;exact Fdb rfl)
 refine Tot.succ ?_
 simp (disch:=omega) only [Ej,dT]
 refine Fpb (Ala p zs l (by omega) (by omega) (by omega) [] (by simp) 0) ?_
 refine Tot.succ ?_
 simp (disch:=omega) only [Ej,dT,w64,Vz]
 refine Fpb (Ala p zs l (by omega) (by omega) (by omega) (hoA p zs false l) (by omega) 1) ?_
 refine Tot.succ ?_
 simp (disch:=omega) only [Ej,dF,w64]
 exact Fdb rfl

end Go.Proofs.YtiiekghlhfbmmaaGreat.Vf
