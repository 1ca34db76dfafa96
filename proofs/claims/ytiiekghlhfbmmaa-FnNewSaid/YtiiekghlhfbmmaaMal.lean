import Derived.Test.YtiiekghlhfbmmaaMak
set_option linter.all false
namespace Go.Proofs.Ytiiekghlhfbmmaa.Vf
open Go
open List (length getD)
open Int (toNat)
open Go.IntKind (wrap)
open BitVec (ofInt)
def Yh:=@Bool.and_false
def Yt:=@List.mem_range
def Za:=@List.take_succ_eq_append_getElem
def Yla:=@Bool.or_false
def Yva:=@List.length_pos_of_mem
def Z3a:=@List.foldl_append
def A6b:=@List.range_succ
def A7b:=@BitVec.getLsbD_ushiftRight
def Ahb:=@List.length_erase_of_mem
def Arb:=@List.set_append_right
def Asb:=@List.all_append
def Atb:=@List.any_append
def Aub:=@List.any_nil

abbrev Dev:=Int×Int×Int
abbrev Rng:=Int×List (List Int)
def Hn:Dev:=((0:Int),((0:Int),(0:Int)))
def Gx (l:List Int) (n:Int):Bool:=l.any (· == n)
def Je {l:List Int} {n:Int}:Gx l n=true↔n∈l:=by
 unfold Gx
 rw[Y4a]
 constructor
 ·rintro⟨x,hx,e⟩;rw[← eq_of_beq e];exact hx
 ·intro h;exact⟨n,h,beq_self_eq_true n⟩
def Ph (l:List Int) (n:Int) (hl:l.length≤4000000000000000):Tot (λ k=>Ar k l n) (λ r=>r=Gx l n):=by
 unfold Ar
 refine Xpa (Q:=λ r=>r=bif Gx l n then .inl true else .inr ()) ?_ (by rintro r rfl;cases Gx l n<;>exact Xoa rfl)
 refine Xxa (L:=λ k i (_:Unit)=>Da k n l (l.length:Int) i) (Q:=λ r=>r=bif Gx l n then .inl true else .inr ()) l.length (λ j _=>Gx (l.drop j) n=Gx l n) ?_ ?_ 0 () (Vw _) rfl
 ·intro _ h
  rw[Wl]at h
  simp (disch:=omega) only [Da,dF,← h]
  exact Xoa rfl
 ·intro j _ hj h next
  rw[B8 (d:=0) hj]at h
  simp (disch:=omega) only [Da,dT,Vl,w64]
  unfold Gx at h
  rw[Z1a]at h
  refine Xua (λ hc=>Xoa ?_) (λ hc=>next () ?_)
  ·rw[hc,Zsa]at h
   unfold Gx
   rw[← h]
   rfl
  ·rw[hc,Y5a]at h
   exact h
def D4a (l:List Int) (n:Int) (hl:l.length≤4000000000000000):Tot (λ k=>Eo k l n) (λ r=>r=Gx l n):=by
 unfold Eo
 refine Xpa (Q:=λ r=>r=bif Gx l n then .inl true else .inr ()) ?_ (by rintro r rfl;cases Gx l n<;>exact Xoa rfl)
 refine Xxa (L:=λ k i (_:Unit)=>E8 k l n i) (Q:=λ r=>r=bif Gx l n then .inl true else .inr ()) l.length (λ j _=>Gx (l.drop j) n=Gx l n) ?_ ?_ 0 () (Vw _) rfl
 ·intro _ h
  rw[Wl]at h
  simp (disch:=omega) only [E8,dF,← h]
  exact Xoa rfl
 ·intro j _ hj h next
  rw[B8 (d:=0) hj]at h
  simp (disch:=omega) only [E8,dT,Vl,w64]
  unfold Gx at h
  rw[Z1a]at h
  refine Xua (λ hc=>Xoa ?_) (λ hc=>next () ?_)
  ·rw[hc,Zsa]at h
   unfold Gx
   rw[← h]
   rfl
  ·rw[hc,Y5a]at h
   exact h
def Gp (l:List Dev) (id:Int):Option Dev:=l.find? (λ d=>d.1==id)
def Xca:Option Dev→Dev×Bool
 |some d=>(d,true)
 |none=>(Hn,false)
def H0a {l:List Dev} {id:Int} {d:Dev} (h:Gp l id=some d):d∈l∧d.1=id:=⟨Adb h,eq_of_beq (List.find?_some (p:=λ d:Dev=>d.1==id) h)⟩
def Aqa (l:List Dev) (id:Int) (hl:l.length≤1000000000):Tot (λ k=>Ez k l id) (λ r=>r=Xca (Gp l id)):=by
 unfold Ez
 refine Xpa (Q:=λ r=>r=match Gp l id with|some d => .inl (true,d)|none => .inr (0,0,0)) ?_ (by rintro r rfl;cases Gp l id<;>exact Xoa rfl)
 refine Xxa (L:=λ k i (_:Unit)=>E5 k id l (l.length:Int) i (0,0,0)) (Q:=λ r=>r=match Gp l id with|some d => .inl (true,d)|none => .inr (0,0,0)) l.length (λ j _=>Gp (l.drop j) id=Gp l id) ?_ ?_ 0 () (Vw _) rfl
 ·intro _ h
  rw[Wl]at h
  simp (disch:=omega) only [E5,dF,← h]
  exact Xoa rfl
 ·intro j _ hj h next
  rw[B8 (d:=Hn) hj]at h
  unfold Gp at h
  rw[Yra]at h
  simp (disch:=omega) only [E5,dT,Vl,w64]
  refine Xua (λ hc=>Xoa ?_) (λ hc=>next () ?_)
  ·rw[show ((l.getD j Hn).1==id)=true from hc]at h
   unfold Gp
   rw[← h]
   rfl
  ·rw[show ((l.getD j Hn).1==id)=false from hc]at h
   exact h
def L2a (l:List Dev) (id:Int) (hl:l.length≤1000000000):Tot (λ k=>G0 k l id) (λ r=>r=Xca (Gp l id)):=by
 unfold G0
 refine Xpa (Q:=λ r=>r=match Gp l id with|some d => .inl (true,d)|none => .inr (0,0,0)) ?_ (by rintro r rfl;cases Gp l id<;>exact Xoa rfl)
 refine Xxa (L:=λ k i (_:Unit)=>E9 k l id i (0,0,0)) (Q:=λ r=>r=match Gp l id with|some d => .inl (true,d)|none => .inr (0,0,0)) l.length (λ j _=>Gp (l.drop j) id=Gp l id) ?_ ?_ 0 () (Vw _) rfl
 ·intro _ h
  rw[Wl]at h
  simp (disch:=omega) only [E9,dF,← h]
  exact Xoa rfl
 ·intro j _ hj h next
  rw[B8 (d:=Hn) hj]at h
  unfold Gp at h
  rw[Yra]at h
  simp (disch:=omega) only [E9,dT,Vl,w64]
  refine Xua (λ hc=>Xoa ?_) (λ hc=>next () ?_)
  ·rw[show ((l.getD j Hn).1==id)=true from hc]at h
   unfold Gp
   rw[← h]
   rfl
  ·rw[show ((l.getD j Hn).1==id)=false from hc]at h
   exact h
def S5 (d:Dev):Bool:=inR d.1 0 20&&(inR d.2.1 0 20&&inR d.2.2 1 1000)
def Q3:Option Int→List Dev→Bool
 |_,[]=>true
 |none,d::l=>S5 d&&Q3 (some d.1) l
 |some q,d::l=>S5 d&&(decide (q<d.1)&&Q3 (some d.1) l)
def Gi (l:List Dev):Bool:=Q3 none l&&inR (l.length:Int) 1 12
def Ara (l:List Dev):Nat→Option Int
 |0=>none
 |i+1=>some (l.getD i Hn).1
def Wx:∀ (p:Option Int) (l:List Dev),Q3 p l=true↔l.Pairwise (λ a b=>a.1<b.1)∧(∀ d∈l,S5 d=true)∧(∀ q,p=some q→∀ d∈l,q<d.1)
 |p,[]=>by cases p<;>simp[Q3]
 |none,d::l=>by
  simp only[Q3,Va,Wx (some d.1) l,Wb,Vk,forall_eq_or_imp,Vc]
  constructor
  ·rintro⟨h1,h2,h3,h4⟩;exact⟨⟨h4 _ rfl,h2⟩,⟨h1,h3⟩,λ q h=>by cases h⟩
  ·rintro⟨⟨h1,h2⟩,⟨h3,h4⟩,_⟩;exact⟨h3,h2,h4,λ q e=>by subst e;exact h1⟩
 |some q,d::l=>by
  simp only[Q3,Va,decide_eq_true_iff,Wx (some d.1) l,Wb,Vk,forall_eq_or_imp,Vc]
  constructor
  ·rintro⟨h1,hq,h2,h3,h4⟩
   exact⟨⟨h4 _ rfl,h2⟩,⟨h1,h3⟩,λ q' e=>by subst e;exact⟨hq,λ x hx=>by have:=h4 _ rfl x hx;omega⟩⟩
  ·rintro⟨⟨h1,h2⟩,⟨h3,h4⟩,h5⟩
   exact⟨h3,(h5 q rfl).1,h2,h4,λ q e=>by subst e;exact h1⟩
def Cv {l:List Dev}:Gi l=true↔l.Pairwise (λ a b=>a.1<b.1)∧(∀ d∈l,S5 d=true)∧1≤l.length∧l.length≤12:=by
 unfold Gi
 rw[Va,Wx,Fk]
 constructor
 ·rintro⟨⟨h1,h2,_⟩,h3,h4⟩;exact⟨h1,h2,by omega,by omega⟩
 ·rintro⟨h1,h2,h3,h4⟩;exact⟨⟨h1,h2,λ q h=>by cases h⟩,by omega,by omega⟩
def Gt {d:Dev}:S5 d=true↔(0≤d.1∧d.1≤20)∧(0≤d.2.1∧d.2.1≤20)∧1≤d.2.2∧d.2.2≤1000:=by
 unfold S5
 rw[Va,Va,Fk,Fk,Fk]
def Asa {l:List Dev} {j:Nat} (hj:j<l.length):Q3 (Ara l j) (l.drop j)=(S5 (l.getD j Hn)&&((bif decide (0<j) then decide ((l.getD (j-1) Hn).1<(l.getD j Hn).1) else true)&&Q3 (Ara l (j+1)) (l.drop (j+1)))):=by
 rw[B8 (d:=Hn) hj]
 cases j with
 |zero=>simp[Ara,Q3]
 |succ j=>simp[Ara,Q3]
def Wy (l:List Dev) (hl:l.length≤1000000000):Tot (λ k=>B1 k l) (λ r=>r=Gi l):=by
 unfold B1 Gi
 refine Xpa (Q:=λ r=>r=bif Q3 none l then .inr l else .inl false) ?_ ?_
 ·refine Xxa (L:=λ k i (_:Unit)=>Cn k l l (l.length:Int) i) (Q:=λ r=>r=bif Q3 none l then .inr l else .inl false) l.length (λ j _=>Q3 (Ara l j) (l.drop j)=Q3 none l) ?_ ?_ 0 () (Vw _) rfl
  ·intro _ h
   rw[Wl]at h
   have:Q3 none l=true:=by rw[← h];cases Ara l l.length<;>rfl
   simp (disch:=omega) only [Cn,dF,this]
   exact Xoa rfl
  ·intro j _ hj h next
   rw[Asa hj]at h
   simp (disch:=omega) only [Cn,dT,Vl,w64,O5,Vt]
   have e0:l.getD j ((0:Int),((0:Int),(0:Int)))=l.getD j Hn:=rfl
   rw[e0]
   have no:S5 (l.getD j Hn)=false→Q3 none l=false:=λ c=>by rw[← h,c];rfl
   unfold S5 at no h
   refine Xua (λ hc=>Xoa ?_) (λ h1=>Xua (λ hc=>Xoa ?_) (λ h2=>Xua (λ hc=>Xoa ?_) (λ h3=>?_)))
   ·rw[no (by rw[Vu]at hc;rw[hc];rfl)];rfl
   ·rw[no (by rw[Vu]at hc;rw[hc,Ys,Yh])];rfl
   ·rw[no (by rw[Vu]at hc;rw[hc,Yh,Yh])];rfl
   ·rw[Wm]at h1 h2 h3
    rw[h1,h2,h3]at h
    refine Xva (λ h0=>?_) (λ h0=>next () ?_)
    ·simp (disch:=omega) only [dT,w64,show toNat ((j:Int)-1)=j-1 by omega]
     rw[decide_eq_true (show 0<j by omega)]at h
     refine Xva (λ hc=>Xoa ?_) (λ hc=>next () ?_)
     ·have hc':¬ ((l.getD (j-1) Hn).1<(l.getD j Hn).1):=by
       have:(l.getD (j-1) Hn).1≥(l.getD j Hn).1:=hc
       omega
      rw[decide_eq_false hc']at h
      rw[← h];rfl
     ·have hc':(l.getD (j-1) Hn).1<(l.getD j Hn).1:=by
       have:¬ ((l.getD (j-1) Hn).1≥(l.getD j Hn).1):=hc
       omega
      rw[decide_eq_true hc']at h
      exact h
    ·rw[decide_eq_false (show ¬ 0<j by omega)]at h
     exact h
 ·rintro r rfl
  cases Q3 none l
  ·exact Xoa rfl
  simp only[cond_true,Yya,O5,Vt]
  exact Xoa rfl
def F6a (l:List Dev) (hl:l.length≤1000000000):Tot (λ k=>Bv k l) (λ r=>r=Gi l):=by
 unfold Bv Gi
 refine Xpa (Q:=λ r=>r=bif Q3 none l then .inr l else .inl false) ?_ ?_
 ·refine Xxa (L:=λ k i (_:Unit)=>Cp k l i) (Q:=λ r=>r=bif Q3 none l then .inr l else .inl false) l.length (λ j _=>Q3 (Ara l j) (l.drop j)=Q3 none l) ?_ ?_ 0 () (Vw _) rfl
  ·intro _ h
   rw[Wl]at h
   have:Q3 none l=true:=by rw[← h];cases Ara l l.length<;>rfl
   simp (disch:=omega) only [Cp,dF,this]
   exact Xoa rfl
  ·intro j _ hj h next
   rw[Asa hj]at h
   simp (disch:=omega) only [Cp,dT,Vl,w64,Exa,Vt]
   have e0:l.getD j ((0:Int),((0:Int),(0:Int)))=l.getD j Hn:=rfl
   rw[e0]
   have no:S5 (l.getD j Hn)=false→Q3 none l=false:=λ c=>by rw[← h,c];rfl
   unfold S5 at no h
   refine Xua (λ hc=>Xoa ?_) (λ h1=>Xua (λ hc=>Xoa ?_) (λ h2=>Xua (λ hc=>Xoa ?_) (λ h3=>?_)))
   ·rw[no (by rw[Vu]at hc;rw[hc];rfl)];rfl
   ·rw[no (by rw[Vu]at hc;rw[hc,Ys,Yh])];rfl
   ·rw[no (by rw[Vu]at hc;rw[hc,Yh,Yh])];rfl
   ·rw[Wm]at h1 h2 h3
    rw[h1,h2,h3]at h
    refine Xva (λ h0=>?_) (λ h0=>next () ?_)
    ·simp (disch:=omega) only [dT,w64,show toNat ((j:Int)-1)=j-1 by omega]
     rw[decide_eq_true (show 0<j by omega)]at h
     refine Xva (λ hc=>Xoa ?_) (λ hc=>next () ?_)
     ·have hc':¬ ((l.getD (j-1) Hn).1<(l.getD j Hn).1):=by
       have:(l.getD (j-1) Hn).1≥(l.getD j Hn).1:=hc
       omega
      rw[decide_eq_false hc']at h
      rw[← h];rfl
     ·have hc':(l.getD (j-1) Hn).1<(l.getD j Hn).1:=by
       have:¬ ((l.getD (j-1) Hn).1≥(l.getD j Hn).1):=hc
       omega
      rw[decide_eq_true hc']at h
      exact h
    ·rw[decide_eq_false (show ¬ 0<j by omega)]at h
     exact h
 ·rintro r rfl
  cases Q3 none l
  ·exact Xoa rfl
  simp only[cond_true,Yya,Exa,Vt]
  exact Xoa rfl
def Wz (l:List Dev) (out:List Int) (id:Int):List Int:=match Gp l id with
 |some d=>bif Gx out d.2.1 then out else out++[d.2.1]
 |none=>out
def Bm (ids:List Int) (l:List Dev):List Int:=ids.foldl (Wz l) []
def S6 (l:List Dev) (out:List Int) (id:Int):(Wz l out id).length≤out.length+1:=by
 unfold Wz
 cases Gp l id with
 |none=>exact Yna _
 |some d=>
  simp only
  cases Gx out d.2.1 with
  |true=>exact Yna _
  |false=>rw[cond_false,Vi];exact Vv _
def Ata (l:List Dev):∀ (ids out:List Int),(ids.foldl (Wz l) out).length≤out.length+ids.length
 |[],out=>by simp
 |id::ids,out=>by
  have h1:=Ata l ids (Wz l out id)
  have h2:=S6 l out id
  rw[Yl,Vh]
  omega
def L3a (ids:List Int) (l:List Dev) (hi:ids.length≤5000000) (hl:l.length≤5000000):Tot (λ k=>C9 k ids l) (λ r=>r=Bm ids l):=by
 unfold C9
 refine Xpa (Q:=λ r=>r=Bm ids l) ?_ (by rintro r rfl;exact Xoa rfl)
 refine Xxa (L:=λ k i s=>Be k l s ids (ids.length:Int) i) (Q:=λ r=>r=Bm ids l) ids.length (λ j s=>(ids.drop j).foldl (Wz l) s=Bm ids l∧s.length≤j) ?_ ?_ 0 [] (Vw _) ⟨rfl,Vv _⟩
 ·rintro s ⟨h,_⟩
  rw[Wl]at h
  simp (disch:=omega) only [Be,dF]
  exact Xoa h
 ·rintro j s hj ⟨h,hs⟩ next
  rw[B8 (d:=0) hj,Yl]at h
  simp (disch:=omega) only [Be,dT,Vl,w64]
  have hz:=S6 l s (ids.getD j 0)
  refine Y0a (Aqa l (ids.getD j 0) (by omega)) ?_
  unfold Wz at h hz
  cases hd:Gp l (ids.getD j 0) with
  |none=>
   rw[hd]at h
   exact Xqa rfl (next _ ⟨h,by omega⟩)
  |some d=>
   rw[hd]at h hz
   refine Xra rfl (Y0a (Ph s d.2.1 (by omega)) ?_)
   simp only at h hz
   cases hh:Gx s d.2.1 with
   |true=>
    rw[hh]at h
    exact Xqa rfl (next _ ⟨h,by omega⟩)
   |false=>
    rw[hh]at h hz
    exact Xra rfl (Xwa (by simp only[Vh,Vq];omega) (next _ ⟨h,by rw[cond_false]at hz;exact Zu hz (by omega)⟩))
def L4a (ids:List Int) (l:List Dev) (hi:ids.length≤5000000) (hl:l.length≤5000000):Tot (λ k=>Ca k ids l) (λ r=>r=Bm ids l):=by
 unfold Ca
 refine Xpa (Q:=λ r=>r=Bm ids l) ?_ (by rintro r rfl;exact Xoa rfl)
 refine Xxa (L:=λ k i s=>Bf k ids l s i) (Q:=λ r=>r=Bm ids l) ids.length (λ j s=>(ids.drop j).foldl (Wz l) s=Bm ids l∧s.length≤j) ?_ ?_ 0 [] (Vw _) ⟨rfl,Vv _⟩
 ·rintro s ⟨h,_⟩
  rw[Wl]at h
  simp (disch:=omega) only [Bf,dF]
  exact Xoa h
 ·rintro j s hj ⟨h,hs⟩ next
  rw[B8 (d:=0) hj,Yl]at h
  simp (disch:=omega) only [Bf,dT,Vl,w64]
  have hz:=S6 l s (ids.getD j 0)
  refine Y0a (L2a l (ids.getD j 0) (by omega)) ?_
  unfold Wz at h hz
  cases hd:Gp l (ids.getD j 0) with
  |none=>
   rw[hd]at h
   exact Xqa rfl (next _ ⟨h,by omega⟩)
  |some d=>
   rw[hd]at h hz
   refine Xra rfl (Y0a (D4a s d.2.1 (by omega)) ?_)
   simp only at h hz
   cases hh:Gx s d.2.1 with
   |true=>
    rw[hh]at h
    exact Xqa rfl (next _ ⟨h,by omega⟩)
   |false=>
    rw[hh]at h hz
    exact Xra rfl (Xwa (by simp only[Vh,Vq];omega) (next _ ⟨h,by rw[cond_false]at hz;exact Zu hz (by omega)⟩))

def S7 {l:List Int} {j:Nat} (hj:j<l.length) (h:(l.take j).Nodup) (hn:l.getD j 0∉l.take j):(l.take (j+1)).Nodup:=by
 rw[Za hj,Yk]
 rw[Vb,Vg hj,Yv]at hn
 exact⟨h,by simp,λ a ha b hb e=>by rw[Vp.1 hb]at e;subst e;exact hn ha⟩
def L5a {l:List Int} {j:Nat} (hj:j<l.length) (hn:l.getD j 0∈l.take j):¬ l.Nodup:=by
 intro h
 have h1:(l.take (j+1)).Nodup:=h.sublist (Afb _ _)
 rw[Za hj,Yk]at h1
 rw[Vb,Vg hj,Yv]at hn
 exact h1.2.2 _ hn _ (by simp) rfl
def L6a (l:List Int) (hl:l.length≤5000000):Tot (λ k=>Ep k l) (λ r=>r=decide l.Nodup):=by
 unfold Ep
 refine Xpa (Q:=λ r=>r=bif decide l.Nodup then .inr () else .inl false) ?_ (by rintro r rfl;cases decide l.Nodup<;>exact Xoa rfl)
 refine Xxa (L:=λ k i (_:Unit)=>Ec k l l (l.length:Int) i) (Q:=λ r=>r=bif decide l.Nodup then .inr () else .inl false) l.length (λ j _=>(l.take j).Nodup) ?_ ?_ 0 () (Vw _) (by simp)
 ·intro _ h
  rw[Zs]at h
  simp (disch:=omega) only [Ec,dF,decide_eq_true h]
  exact Xoa rfl
 ·intro j _ hj h next
  simp (disch:=omega) only [Ec,dT,Vl,w64]
  refine Y0a (Ph (l.take j) (l.getD j 0) (by rw[Vs];omega)) ?_
  refine Xua (λ hc=>Xoa ?_) (λ hc=>next () (S7 hj h (λ c=>by rw[Je.2 c]at hc;cases hc)))
  rw[decide_eq_false (L5a hj (Je.1 hc))]
  rfl
def RBd (r:Rng):Prop:=r.2.length≤2000000∧∀ p∈r.2,p.length≤2000000
def K7 (l:List Dev) (n:Int) (p:List Int):Bool:=(decide p.Nodup&&((p.length:Int)==n))&&p.all λ id=>(Gp l id).isSome
def Hd (r:Rng) (l:List Dev):Bool:=Gi l&&(inR r.1 1 5&&(inR (r.2.length:Int) 1 64&&r.2.all (K7 l r.1)))
def F7 {r:Rng} {l:List Dev}:Hd r l=true↔Gi l=true∧(1≤r.1∧r.1≤5)∧(1≤r.2.length∧r.2.length≤64)∧∀ p∈r.2,p.Nodup∧(p.length:Int)=r.1∧∀ id∈p,∃ d,Gp l id=some d:=by
 unfold Hd K7
 simp only[Va,Fk,We,decide_eq_true_iff,beq_iff_eq,Zh]
 constructor
 ·rintro⟨h1,h2,⟨h3,h4⟩,h5⟩;exact⟨h1,h2,⟨by omega,by omega⟩,λ p hp=>⟨(h5 p hp).1.1,(h5 p hp).1.2,(h5 p hp).2⟩⟩
 ·rintro⟨h1,h2,⟨h3,h4⟩,h5⟩;exact⟨h1,h2,⟨by omega,by omega⟩,λ p hp=>⟨⟨(h5 p hp).1,(h5 p hp).2.1⟩,(h5 p hp).2.2⟩⟩
def Spa {r:Rng} {l:List Dev} (h:Hd r l=true):RBd r:=by
 obtain⟨_,h2,h3,h4⟩:=F7.1 h
 exact⟨by omega,λ p hp=>by have:=(h4 p hp).2.1;omega⟩
def Ona (r:Rng) (l:List Dev) (hr:RBd r) (hl:l.length≤5000000):Tot (λ k=>Cd k r l) (λ b=>b=Hd r l):=by
 unfold Cd Hd
 refine Y0a (Wy l (by omega)) ?_
 cases hd:Gi l
 ·exact Xra rfl (Xoa rfl)
 have hrl:=hr.1
 simp only[Zb,cond_false,O5,Vt,Wd]
 cases inR r.1 1 5
 ·exact Xra rfl (Xoa rfl)
 refine Xqa rfl ?_
 cases inR (r.2.length:Int) 1 64
 ·exact Xra rfl (Xoa rfl)
 refine Xqa rfl (Xpa (Q:=λ b=>b=bif r.2.all (K7 l r.1) then .inr () else .inl false) ?_ (by rintro r' rfl;cases r.2.all (K7 l r.1)<;>exact Xoa rfl))
 refine Xxa (L:=λ k i (_:Unit)=>Dg k l r.2 (r.2.length:Int) i r) (Q:=λ b=>b=bif r.2.all (K7 l r.1) then .inr () else .inl false) r.2.length (λ j _=>(r.2.drop j).all (K7 l r.1)=r.2.all (K7 l r.1)) ?_ ?_ 0 () (Vw _) rfl
 ·intro _ h
  rw[Wl]at h
  simp (disch:=omega) only [Dg,dF,← h]
  exact Xoa rfl
 ·intro j _ hj h next
  rw[B8 (d:=[]) hj,Z2a]at h
  have hp:=hr.2 _ (A3 (d:=[]) hj)
  simp (disch:=omega) only [Dg,dT,Vl,w64]
  have no:K7 l r.1 (r.2.getD j [])=false→r.2.all (K7 l r.1)=false:=λ c=>by rw[← h,c];rfl
  unfold K7 at no h
  refine Xua (λ hc=>Xoa ?_) (λ h1=>Xpa (L6a (r.2.getD j []) (by omega)) ?_)
  ·have hc':(((r.2.getD j []).length:Int)==r.1)=false:=by simpa using hc
   rw[show r.2.all (K7 l r.1)=false from no (by rw[hc',Yh,Ys])]
   rfl
  ·have h1':(((r.2.getD j []).length:Int)==r.1)=true:=by simpa using h1
   rintro b rfl
   refine Xua (λ hc=>Xoa ?_) (λ h2=>?_)
   ·rw[show r.2.all (K7 l r.1)=false from no (by rw[Vu]at hc;rw[hc];rfl)]
    rfl
   ·rw[Wm]at h2
    generalize r.2.getD j []=p at *
    refine Xpa (Q:=λ b=>b=bif p.all (λ id=>(Gp l id).isSome) then .inr (l,r.2,(r.2.length:Int),(j:Int),r) else .inl false) ?_ ?_
    ·refine Xxa (L:=λ k i (_:Unit)=>Df k l r.2 (r.2.length:Int) (j:Int) p (p.length:Int) i r) (Q:=λ b=>b=bif p.all (λ id=>(Gp l id).isSome) then .inr (l,r.2,(r.2.length:Int),(j:Int),r) else .inl false) p.length (λ m _=>(p.drop m).all (λ id=>(Gp l id).isSome)=p.all (λ id=>(Gp l id).isSome)) ?_ ?_ 0 () (Vw _) rfl
     ·intro _ h
      rw[Wl]at h
      simp (disch:=omega) only [Df,dF,← h]
      exact Xoa rfl
     ·intro m _ hm h next
      rw[B8 (d:=0) hm,Z2a]at h
      simp (disch:=omega) only [Df,dT,Vl,w64]
      refine Y0a (Aqa l (p.getD m 0) (by omega)) ?_
      cases hd:Gp l (p.getD m 0) with
      |none=>exact Xra rfl (Xoa (by rw[← h,hd];rfl))
      |some d=>exact Xqa rfl (next () (by rw[hd]at h;exact h))
    ·rintro b rfl
     cases hc:p.all (λ id=>(Gp l id).isSome)
     ·exact Xoa (by rw[show r.2.all (K7 l r.1)=false from no (by rw[hc,Yh])];rfl)
     simp (disch:=omega) only [cond_true,Yya,w64]
     exact next () (by rw[h2,h1',hc]at h;exact h)
def Aua (l:List Int) (hl:l.length≤5000000):Eh l=some l:=by
 unfold Eh
 rw[bT (by simp only[Vq];omega),Wn]
def cnt (id n x:Int):Int:=bif x==id then n+1 else n
def Su (id n:Int) (p:List Int):Int:=p.foldl (cnt id) n
def Fg (r:Rng) (id:Int):Int:=r.2.foldl (Su id) 0
def X1 (id:Int):∀ (p:List Int) (n:Int),n≤Su id n p∧Su id n p≤n+p.length
 |[],n=>by simp[Su]
 |x::p,n=>by
  have h:=X1 id p (cnt id n x)
  unfold Su at h ⊢
  have hc:n≤cnt id n x∧cnt id n x≤n+1:=by unfold cnt;cases x==id<;>simp<;>omega
  rw[Yl,Vh]
  omega
def L7a (id:Int) (m:Nat):∀ (ps:List (List Int)) (n:Int),(∀ p∈ps,p.length≤m)→n≤ps.foldl (Su id) n∧ps.foldl (Su id) n≤n+(m*ps.length:Nat)
 |[],n,_=>by simp
 |p::ps,n,h=>by
  have h1:=L7a id m ps (Su id n p) (λ q hq=>h q (Vd _ hq))
  have h2:=X1 id p n
  have h3:=h p Yc
  rw[Yl,Vh,Nat.mul_succ]
  omega
def O9 {r:Rng} (hr:RBd r) (id:Int):0≤Fg r id∧Fg r id≤4000000000000:=by
 have h:=L7a id 2000000 r.2 0 hr.2
 have h2:=hr.1
 unfold Fg
 omega
def Ooa (r:Rng) (id:Int) (hr:RBd r):Tot (λ k=>F3 k r id) (λ x=>x=Fg r id):=by
 have hrl:=hr.1
 unfold F3
 refine Xpa (Q:=λ x=>x=Fg r id) ?_ (by rintro x rfl;exact Xoa rfl)
 refine Xxa (L:=λ k i s=>Db k id s r.2 (r.2.length:Int) i) (Q:=λ x=>x=Fg r id) r.2.length (λ j s=>(r.2.drop j).foldl (Su id) s=Fg r id∧0≤s∧s≤2000000*j) ?_ ?_ 0 0 (Vw _) ⟨rfl,by omega,by omega⟩
 ·rintro s ⟨h,_⟩
  rw[Wl]at h
  simp (disch:=omega) only [Db,dF]
  exact Xoa h
 ·rintro j s hj ⟨h,h0,h1⟩ next
  rw[B8 (d:=[]) hj,Yl]at h
  have hp:=hr.2 _ (A3 (d:=[]) hj)
  have hc:=X1 id (r.2.getD j []) s
  simp (disch:=omega) only [Db,dT,Vl]
  refine Xpa (Q:=λ x=>x=(id,Su id s (r.2.getD j []),r.2,(r.2.length:Int),(j:Int))) ?_ ?_
  ·generalize r.2.getD j []=p at *
   refine Xxa (L:=λ k i s=>Co k id s r.2 (r.2.length:Int) (j:Int) p (p.length:Int) i) (Q:=λ x=>x=(id,Su id s p,r.2,(r.2.length:Int),(j:Int))) p.length (λ m z=>Su id z (p.drop m)=Su id s p∧0≤z∧z≤2000000*j+m) ?_ ?_ 0 s (Vw _) ⟨rfl,h0,by omega⟩
   ·rintro z ⟨h,_⟩
    rw[Wl]at h
    simp (disch:=omega) only [Co,dF]
    exact Xoa (by rw[← h];rfl)
   ·rintro m z hm ⟨h,z0,z1⟩ next
    rw[B8 (d:=0) hm]at h
    simp (disch:=omega) only [Co,dT,Vl,w64]
    have h':Su id (cnt id z (p.getD m 0)) (p.drop (m+1))=Su id s p:=h
    unfold cnt at h'
    refine Xua (λ hc=>next _ ?_) (λ hc=>next _ ?_)
    ·rw[hc]at h';exact⟨h',by omega,by omega⟩
    ·rw[hc]at h';exact⟨h',by omega,by omega⟩
  ·rintro x rfl
   simp (disch:=omega) only [w64]
   exact next _ ⟨h,by omega,by omega⟩
def F7a (r:Rng) (id:Int) (hr:RBd r):Tot (λ k=>Cc k r id) (λ x=>x=Fg r id):=by
 have hrl:=hr.1
 unfold Cc
 refine Xpa (Q:=λ x=>x=Fg r id) ?_ (by rintro x rfl;exact Xoa rfl)
 refine Xxa (L:=λ k i s=>Dd k id s i r) (Q:=λ x=>x=Fg r id) r.2.length (λ j s=>(r.2.drop j).foldl (Su id) s=Fg r id∧0≤s∧s≤2000000*j) ?_ ?_ 0 0 (Vw _) ⟨rfl,by omega,by omega⟩
 ·rintro s ⟨h,_⟩
  rw[Wl]at h
  simp (disch:=omega) only [Dd,dF]
  exact Xoa h
 ·rintro j s hj ⟨h,h0,h1⟩ next
  rw[B8 (d:=[]) hj,Yl]at h
  have hp:=hr.2 _ (A3 (d:=[]) hj)
  have hc:=X1 id (r.2.getD j []) s
  simp (disch:=omega) only [Dd,dT]
  refine Xpa (Q:=λ x=>x=(id,Su id s (r.2.getD j []),(j:Int),r)) ?_ ?_
  ·refine Xxa (L:=λ k i s=>Cq k id s (j:Int) i r) (Q:=λ x=>x=(id,Su id s (r.2.getD j []),(j:Int),r)) (r.2.getD j []).length (λ m z=>Su id z ((r.2.getD j []).drop m)=Su id s (r.2.getD j [])∧0≤z∧z≤2000000*j+m) ?_ ?_ 0 s (Vw _) ⟨rfl,h0,by omega⟩
   ·rintro z ⟨h,_⟩
    rw[Wl]at h
    simp (disch:=omega) only [Cq,dT,dF,Vl]
    exact Xoa (by rw[← h];rfl)
   ·rintro m z hm ⟨h,z0,z1⟩ next
    rw[B8 (d:=0) hm]at h
    simp (disch:=omega) only [Cq,dT,Vl,w64]
    have h':Su id (cnt id z ((r.2.getD j []).getD m 0)) ((r.2.getD j []).drop (m+1))=Su id s (r.2.getD j []):=h
    unfold cnt at h'
    refine Xua (λ hc=>next _ ?_) (λ hc=>next _ ?_)
    ·rw[hc]at h';exact⟨h',by omega,by omega⟩
    ·rw[hc]at h';exact⟨h',by omega,by omega⟩
  ·rintro x rfl
   simp (disch:=omega) only [w64]
   exact next _ ⟨h,by omega,by omega⟩

def Wba {a w:Int} (h0:0≤a) (h1:a≤4000000000001) (w0:0≤w) (w1:w≤1000) : -9223372036854775808≤a*w∧a*w≤9223372036854775807:=by
 have e1:=Int.mul_nonneg h0 w0
 have e2:a*w≤4000000000001*1000:=Int.mul_le_mul h1 w1 w0 (by decide)
 omega
def Nb (r:Rng) (p zs:List Int) (a:Option (Dev×Bool)) (d:Dev):Option (Dev×Bool):=
 bif Gx p d.1 then a else match a with
 |none=>some (d,!(Gx zs d.2.1))
 |some (b,fr)=>bif (!(Gx zs d.2.1)&&!fr)||(((!(Gx zs d.2.1))==fr)&&decide ((Fg r d.1+1)*b.2.2<(Fg r b.1+1)*d.2.2)) then some (d,!(Gx zs d.2.1)) else some (b,fr)
def Il (r:Rng) (p:List Int) (l:List Dev):Option (Dev×Bool):=l.foldl (Nb r p (Bm p l)) none
def Ql (r:Rng) (p:List Int) (l:List Dev):Int:=match Il r p l with
 |some b=>b.1.1
 |none => -1
def F8a {r:Rng} {p zs:List Int} {l:List Dev} {a:Option (Dev×Bool)} {d:Dev} (ha:∀ b,a=some b→b.1∈l∧b.1.1∉p) (hd:d∈l):∀ b,Nb r p zs a d=some b→b.1∈l∧b.1.1∉p:=by
 intro b hb
 unfold Nb at hb
 cases hp:Gx p d.1
 case true=>rw[hp]at hb;exact ha b hb
 have hn:d.1∉p:=λ c=>by rw[Je.2 c]at hp;cases hp
 rw[hp,cond_false]at hb
 cases a with
 |none=>cases hb;exact⟨hd,hn⟩
 |some c=>
  obtain⟨c,fr⟩:=c
  simp only at hb
  cases hq:(!(Gx zs d.2.1)&&!fr)||(((!(Gx zs d.2.1))==fr)&&decide ((Fg r d.1+1)*c.2.2<(Fg r c.1+1)*d.2.2)) with
  |true=>rw[hq]at hb;cases hb;exact⟨hd,hn⟩
  |false=>rw[hq]at hb;cases hb;exact ha _ rfl
def F9a {r:Rng} {p zs:List Int} {l:List Dev}:∀ (m:List Dev) (a:Option (Dev×Bool)),(∀ b,a=some b→b.1∈l∧b.1.1∉p)→(∀ d∈m,d∈l)→∀ b,m.foldl (Nb r p zs) a=some b→b.1∈l∧b.1.1∉p
 |[],_,ha,_=>ha
 |d::m,_,ha,hm=>F9a m _ (F8a ha (hm d Yc)) (λ x hx=>hm x (Vd _ hx))
def Faa {r:Rng} {p:List Int} {l:List Dev} {b:Dev×Bool} (h:Il r p l=some b):b.1∈l∧b.1.1∉p:=F9a l none (λ b h=>by cases h) (λ _ h=>h) b h
def H1a {r:Rng} {p zs:List Int} {a:Option (Dev×Bool)} {d:Dev} (h:a.isSome=true∨d.1∉p):(Nb r p zs a d).isSome=true:=by
 unfold Nb
 cases hp:Gx p d.1 with
 |true=>
  rcases h with h|h
  ·exact h
  ·exact absurd (Je.1 hp) h
 |false=>
  cases a with
  |none=>rfl
  |some c=>
   obtain⟨c,fr⟩:=c
   simp only[cond_false]
   cases (!(Gx zs d.2.1)&&!fr)||(((!(Gx zs d.2.1))==fr)&&decide ((Fg r d.1+1)*c.2.2<(Fg r c.1+1)*d.2.2))<;>rfl
def U8 {r:Rng} {p zs:List Int}:∀ (m:List Dev) (a:Option (Dev×Bool)),(a.isSome=true∨∃ d∈m,d.1∉p)→(m.foldl (Nb r p zs) a).isSome=true
 |[],a,h=>by
  rcases h with h|⟨d,h,_⟩
  ·exact h
  ·cases h
 |d::m,a,h=>by
  refine U8 m _ ?_
  by_cases hd:a.isSome=true∨d.1∉p
  ·exact .inl (H1a hd)
  ·rcases h with h|⟨x,hx,hn⟩
   ·exact absurd (.inl h) hd
   ·rcases Vk.1 hx with rfl|hx
    ·exact absurd (.inr hn) hd
    ·exact .inr ⟨x,hx,hn⟩
def Opa {r:Rng} {p:List Int} {l:List Dev} (h:∃ d∈l,d.1∉p):∃ d∈l,Ql r p l=d.1∧d.1∉p:=by
 obtain⟨b,hb⟩:=Zh.1 (U8 (r:=r) (zs:=Bm p l) l none (.inr h))
 obtain⟨h1,h2⟩:=Faa hb
 exact⟨b.1,h1,by unfold Ql;rw[show Il r p l=some b from hb],h2⟩
def H2a (r:Rng) (p:List Int) (l:List Dev):(Il r p l=none∧Ql r p l = -1)∨∃ b,Il r p l=some b∧Ql r p l=b.1.1∧b.1∈l∧b.1.1∉p:=by
 cases h:Il r p l with
 |none=>exact .inl ⟨rfl,by unfold Ql;rw[h]⟩
 |some b=>exact .inr ⟨b,rfl,by unfold Ql;rw[h],Faa h⟩
def S8 (p:List Int) (l:List Dev):(Bm p l).length≤p.length:=by
 have:=Ata l p []
 rwa [Vq,Wg]at this
def bs (r:Rng):Option (Dev×Bool)→Int×Bool×Dev
 |some (b,fr)=>(Fg r b.1+1,fr,b)
 |none=>(0,false,-1,0,0)
def Oqa (r:Rng) (p:List Int) (l:List Dev) (hr:RBd r) (hp:p.length≤2000000) (hl:Gi l=true):Tot (λ k=>Fm k r p l) (λ x=>x=Ql r p l):=by
 obtain⟨_,hdv,_,h12⟩:=Cv.1 hl
 have hz:=S8 p l
 unfold Fm
 refine Y0a (Wy l (by omega)) ?_
 refine Xqa (by rw[hl];rfl) (Y0a (L3a p l (by omega) (by omega)) ?_)
 refine Xpa (Q:=λ x=>x=match Il r p l with|some b=>b.1|none=>(-1,0,0)) ?_ (by rintro x rfl;unfold Ql;cases Il r p l<;>exact Xoa rfl)
 refine Xxa (L:=λ k i (s:Int×Bool×Dev)=>An k (Bm p l) s.1 s.2.1 l (l.length:Int) i r p s.2.2) (Q:=λ x=>x=match Il r p l with|some b=>b.1|none=>(-1,0,0)) l.length
  (λ j s=>∃ a,s=bs r a∧(∀ b,a=some b→b.1∈l∧b.1.1∉p)∧(l.drop j).foldl (Nb r p (Bm p l)) a=Il r p l) ?_ ?_ 0 (0,false,-1,0,0) (Vw _) ⟨none,rfl,λ b h=>(by cases h),rfl⟩
 ·rintro s ⟨a,rfl,_,h⟩
  rw[Wl]at h
  simp (disch:=omega) only [An,dF]
  refine Xoa ?_
  rw[← h]
  cases a<;>rfl
 ·rintro j s hj ⟨a,rfl,ha,h⟩ next
  rw[B8 (d:=Hn) hj,Yl]at h
  have hd:=A3 (d:=Hn) hj
  obtain⟨d,ed⟩:∃ d:Dev,l.getD j Hn=d:=⟨_,rfl⟩
  rw[ed]at h hd
  have e0:l.getD j ((0:Int),((0:Int),(0:Int)))=d:=ed
  have ha':=F8a (r:=r) (p:=p) (zs:=Bm p l) ha hd
  obtain⟨_,_,w0,w1⟩:=Gt.1 (hdv _ hd)
  have l1:=O9 hr d.1
  simp (disch:=omega) only [An,dT,Vl,w64,e0]
  unfold Nb at h ha'
  refine Y0a (Ph p d.1 (by omega)) ?_
  cases hp':Gx p d.1 with
  |true=>
   rw[hp']at h
   exact Xra rfl (next _ ⟨a,rfl,ha,h⟩)
  |false=>
   rw[hp',cond_false]at h ha'
   refine Xqa rfl (Y0a (Ooa r d.1 hr) ?_)
   refine Y0a (Ph (Bm p l) d.2.1 (by omega)) ?_
   simp (disch:=omega) only [w64]
   have take:(∀ b,some (d,!(Gx (Bm p l) d.2.1))=some b→b.1∈l∧b.1.1∉p)→(l.drop (j+1)).foldl (Nb r p (Bm p l)) (some (d,!(Gx (Bm p l) d.2.1)))=Il r p l→Tot (λ k=>An k (Bm p l) (Fg r d.1+1) (!(Gx (Bm p l) d.2.1)) l (l.length:Int) ((j:Int)+1) r p d) (λ x=>x=match Il r p l with|some b=>b.1|none=>(-1,0,0)):=λ h1 h2=>next (Fg r d.1+1,!(Gx (Bm p l) d.2.1),d) ⟨_,rfl,h1,h2⟩
   cases a with
   |none=>exact Xsa (show (-1:Int)<0 by decide) (take ha' h)
   |some bf=>
    obtain⟨b,fr⟩:=bf
    have hb:b∈l:=(ha _ rfl).1
    obtain⟨⟨i0,_⟩,_,v0,v1⟩:=Gt.1 (hdv _ hb)
    have l2:=O9 hr b.1
    have m1:=Wba (a:=Fg r d.1+1) (w:=b.2.2) (by omega) (by omega) (by omega) v1
    have m2:=Wba (a:=Fg r b.1+1) (w:=d.2.2) (by omega) (by omega) (by omega) w1
    have stay:(l.drop (j+1)).foldl (Nb r p (Bm p l)) (some (b,fr))=Il r p l→Tot (λ k=>An k (Bm p l) (Fg r b.1+1) fr l (l.length:Int) ((j:Int)+1) r p b) (λ x=>x=match Il r p l with|some b=>b.1|none=>(-1,0,0)):=λ h2=>next (Fg r b.1+1,fr,b) ⟨some (b,fr),rfl,ha,h2⟩
    refine Xta (by show ¬ b.1<0;omega) ?_
    dsimp only at h ha'
    have eb:bs r (some (b,fr))=(Fg r b.1+1,fr,b):=rfl
    simp only[eb,w64 m1.1 m1.2,w64 m2.1 m2.2]
    have cmp:∀ {z:Bool},Gx (Bm p l) d.2.1=z→((!z)==fr)=true→(!z&&!fr)=false→Tot (λ k=>cond (decide ((Fg r d.1+1)*b.2.2<(Fg r b.1+1)*d.2.2)) (An k (Bm p l) (Fg r d.1+1) (!(Gx (Bm p l) d.2.1)) l (l.length:Int) ((j:Int)+1) r p d) (An k (Bm p l) (Fg r b.1+1) fr l (l.length:Int) ((j:Int)+1) r p b)) (λ x=>x=match Il r p l with|some b=>b.1|none=>(-1,0,0)):=by
     intro z hz e1 e2
     rw[hz]at h ha' take ⊢
     rw[e1,e2,Y5a,Wd]at h ha'
     refine Xua (λ hc=>?_) (λ hc=>?_)
     ·rw[hc]at h ha';exact take ha' h
     ·rw[hc]at h;exact stay h
    cases hz:Gx (Bm p l) d.2.1 with
    |false=>
     have cm:=cmp hz
     rw[hz]at h ha' take cm
     cases fr with
     |false=>exact Xra rfl (Xra rfl (take ha' h))
     |true=>exact Xra rfl (Xqa rfl (Xra rfl (cm rfl rfl)))
    |true=>
     have cm:=cmp hz
     rw[hz]at h ha' take cm
     cases fr with
     |false=>exact Xqa rfl (Xra rfl (cm rfl rfl))
     |true=>exact Xqa rfl (Xqa rfl (stay h))
def Ora (r:Rng) (p:List Int) (l:List Dev) (hr:RBd r) (hp:p.length≤2000000) (hl:Gi l=true):Tot (λ k=>Fn k r p l) (λ x=>x=Ql r p l):=by
 obtain⟨_,hdv,_,h12⟩:=Cv.1 hl
 have hz:=S8 p l
 unfold Fn
 refine Y0a (L4a p l (by omega) (by omega)) ?_
 refine Xpa (Q:=λ x=>∃ i:Int,x=(l,i)∧match Il r p l with|some b=>∃ n:Nat,i=(n:Int)∧n<l.length∧l.getD n Hn=b.1|none=>i = -1) ?_ ?_
 ·refine Xxa (L:=λ k i (s:Int×Bool)=>Ao k l (Bm p l) s.1 s.2 i r p) (Q:=λ x=>∃ i:Int,x=(l,i)∧match Il r p l with|some b=>∃ n:Nat,i=(n:Int)∧n<l.length∧l.getD n Hn=b.1|none=>i = -1) l.length
   (λ j s=>∃ a,(match a with|some (b,fr)=>s.2=fr∧∃ n:Nat,s.1=(n:Int)∧n<l.length∧l.getD n Hn=b|none=>s=(-1,false))∧(l.drop j).foldl (Nb r p (Bm p l)) a=Il r p l) ?_ ?_ 0 (-1,false) (Vw _) ⟨none,rfl,rfl⟩
  ·rintro⟨s1,s2⟩ ⟨a,hs,h⟩
   rw[Wl]at h
   simp (disch:=omega) only [Ao,dF]
   refine Xoa ⟨s1,rfl,?_⟩
   rw[← h]
   cases a with
   |none=>exact(Prod.mk.inj hs).1
   |some bf=>exact hs.2
  ·rintro j ⟨s1,s2⟩ hj ⟨a,hs,h⟩ next
   rw[B8 (d:=Hn) hj,Yl]at h
   have hd:=A3 (d:=Hn) hj
   obtain⟨d,ed⟩:∃ d:Dev,l.getD j Hn=d:=⟨_,rfl⟩
   rw[ed]at h hd
   have e0:l.getD j ((0:Int),((0:Int),(0:Int)))=d:=ed
   obtain⟨_,_,w0,w1⟩:=Gt.1 (hdv _ hd)
   have l1:=O9 hr d.1
   simp (disch:=omega) only [Ao,dT,Vl,w64,e0]
   refine Y0a (F6a l (by omega)) ?_
   refine Xra hl (Y0a (D4a p d.1 (by omega)) ?_)
   unfold Nb at h
   cases hp':Gx p d.1 with
   |true=>
    rw[hp']at h
    exact Xra rfl (next _ ⟨a,hs,h⟩)
   |false=>
    rw[hp',cond_false]at h
    refine Xqa rfl (Y0a (D4a (Bm p l) d.2.1 (by omega)) ?_)
    have take:∀ {z:Bool},(l.drop (j+1)).foldl (Nb r p (Bm p l)) (some (d,z))=Il r p l→Tot (λ k=>Ao k l (Bm p l) (j:Int) z ((j:Int)+1) r p) (λ x=>∃ i:Int,x=(l,i)∧match Il r p l with|some b=>∃ n:Nat,i=(n:Int)∧n<l.length∧l.getD n Hn=b.1|none=>i = -1):=λ {z} h2=>next ((j:Int),z) ⟨some (d,z),⟨rfl,j,rfl,hj,ed⟩,h2⟩
    cases a with
    |none=>
     obtain⟨rfl,rfl⟩:=Prod.mk.inj hs
     exact Xsa (by decide) (take h)
    |some bf=>
     obtain⟨b,fr⟩:=bf
     obtain⟨e1,n,e2,hn,e3⟩:=hs
     dsimp only at e1 e2
     subst e1 e2
     have hb:=A3 (d:=Hn) hn
     rw[e3]at hb
     obtain⟨⟨i0,_⟩,_,v0,v1⟩:=Gt.1 (hdv _ hb)
     have l2:=O9 hr b.1
     have m1:=Wba (a:=Fg r d.1+1) (w:=b.2.2) (by omega) (by omega) (by omega) v1
     have m2:=Wba (a:=Fg r b.1+1) (w:=d.2.2) (by omega) (by omega) (by omega) w1
     have stay:(l.drop (j+1)).foldl (Nb r p (Bm p l)) (some (b,s2))=Il r p l→Tot (λ k=>Ao k l (Bm p l) (n:Int) s2 ((j:Int)+1) r p) (λ x=>∃ i:Int,x=(l,i)∧match Il r p l with|some b=>∃ n:Nat,i=(n:Int)∧n<l.length∧l.getD n Hn=b.1|none=>i = -1):=λ h2=>next ((n:Int),s2) ⟨some (b,s2),⟨rfl,n,rfl,hn,e3⟩,h2⟩
     refine Xta (by omega) ?_
     have e4:l.getD n ((0:Int),((0:Int),(0:Int)))=b:=e3
     dsimp only at h
     have cmp:∀ {z:Bool},Gx (Bm p l) d.2.1=z→((!z)==s2)=true→(!z&&!s2)=false→Tot (λ k=>(Cc k r d.1).bind λ r5=>cond (decide ((0:Int)≤(n:Int))) (cond (decide ((n:Int)<(length l:Int))) (cond (decide ((0:Int)≤(n:Int))) (cond (decide ((n:Int)<(length l:Int))) ((Cc k r (getD l (toNat (n:Int)) ((0:Int),((0:Int),(0:Int)))).1).bind λ r8=>cond (decide ((wrap .i64 ((wrap .i64 (r5+1))*(getD l (toNat (n:Int)) ((0:Int),((0:Int),(0:Int)))).2.2))<(wrap .i64 ((wrap .i64 (r8+1))*d.2.2)))) (Ao k l (Bm p l) (j:Int) s2 ((j:Int)+1) r p) (Ao k l (Bm p l) (n:Int) s2 ((j:Int)+1) r p)) none) none) none) none) (λ x=>∃ i:Int,x=(l,i)∧match Il r p l with|some b=>∃ n:Nat,i=(n:Int)∧n<l.length∧l.getD n Hn=b.1|none=>i = -1):=by
      intro z hz e1 e2
      rw[hz,e1,e2,Y5a,Wd]at h
      refine Y0a (F7a r d.1 hr) ?_
      refine Xsa (by omega) (Xsa (by omega) (Xsa (by omega) (Xsa (by omega) ?_)))
      rw[Vl,e4]
      refine Y0a (F7a r b.1 hr) ?_
      rw[w64 (n:=Fg r d.1+1) (by omega) (by omega),w64 (n:=Fg r b.1+1) (by omega) (by omega),w64 m1.1 m1.2,w64 m2.1 m2.2]
      refine Xua (λ hc=>?_) (λ hc=>?_)
      ·rw[hc,cond_true]at h
       rw[show s2 = !z by rw[← eq_of_beq e1]]
       exact take h
      ·rw[hc]at h;exact stay h
     cases hz:Gx (Bm p l) d.2.1 with
     |false=>
      have cm:=cmp hz
      rw[hz]at h
      cases s2 with
      |false=>exact Xra rfl (Xra rfl (take h))
      |true=>exact Xra rfl (Xqa rfl (Xra rfl (cm rfl rfl)))
     |true=>
      have cm:=cmp hz
      rw[hz]at h
      cases s2 with
      |false=>exact Xqa rfl (Xra rfl (cm rfl rfl))
      |true=>exact Xqa rfl (Xqa rfl (stay h))
 ·rintro x ⟨i,rfl,hi⟩
  unfold Ql
  cases hb:Il r p l with
  |none=>
   rw[hb]at hi
   subst hi
   exact Xsa (show (-1:Int)<0 by decide) (Xoa rfl)
  |some b=>
   rw[hb]at hi
   obtain⟨n,rfl,hn,e⟩:=hi
   dsimp only
   refine Xta (by omega) (Xsa (by omega) (Xsa (by omega) (Xoa ?_)))
   rw[Vl,show l.getD n ((0:Int),((0:Int),(0:Int)))=b.1 from e]

def L8a {l:List Dev} (h:Gi l=true) {d:Dev} (hd:d∈l):Gp l d.1=some d:=by
 have hp:=(Cv.1 h).1
 clear h
 induction l with
 |nil=>cases hd
 |cons x l ih=>
  obtain⟨h1,h2⟩:=Wb.1 hp
  unfold Gp
  rw[Yra]
  rcases Vk.1 hd with rfl|hd
  ·rw[beq_self_eq_true]
  ·have:=h1 d hd
   rw[show (x.1==d.1)=false from beq_eq_false_iff_ne.2 (by omega)]
   exact ih hd h2
def Qoa:∀ (p:List Int) (l:List Dev),l.Pairwise (λ a b=>a.1<b.1)→p.length<l.length→∃ d∈l,d.1∉p
 |p,[],_,h=>by simp at h
 |p,d::l,hl,h=>by
  obtain⟨h1,h2⟩:=Wb.1 hl
  by_cases hd:d.1∈p
  ·have hlen:(p.erase d.1).length=p.length-1:=Ahb hd
   have hpos:=Yva hd
   rw[Vh]at h
   obtain⟨x,hx,hn⟩:=Qoa (p.erase d.1) l h2 (by omega)
   refine⟨x,Vd _ hx,λ c=>hn ?_⟩
   have:=h1 x hx
   exact(List.mem_erase_of_ne (by omega)).2 c
  ·exact⟨d,Yc,hd⟩
def H3a (l:List Dev) (n:Nat) (p:List Int):Prop:=p.Nodup∧p.length=n∧∀ id∈p,∃ d,Gp l id=some d
def L9a {r:Rng} {l:List Dev} {n:Nat} {p:List Int} (hl:Gi l=true) (h:H3a l n p) (hn:n<l.length):H3a l (n+1) (p++[Ql r p l]):=by
 obtain⟨h1,h2,h3⟩:=h
 obtain⟨d,hd,e,hne⟩:=Opa (r:=r) (Qoa p l (Cv.1 hl).1 (by omega))
 rw[e]
 refine⟨?_,by rw[Vi];simp[h2],λ id hid=>?_⟩
 ·rw[Yk]
  exact⟨h1,by simp,λ a ha b hb c=>by rw[Vp.1 hb]at c;subst c;exact hne ha⟩
 ·rcases Vm.1 hid with hid|hid
  ·exact h3 id hid
  ·rw[Vp.1 hid];exact⟨d,L8a hl hd⟩
def T4 (l:List Dev) (reps:Int) (ps:List (List Int)):Nat→List Int→List Int
 |0,p=>p
 |n+1,p=>T4 l reps ps n (p++[Ql (reps,ps++[p]) p l])
def Bga (l:List Dev) (reps:Int):Nat→List (List Int)→List (List Int)
 |0,ps=>ps
 |n+1,ps=>Bga l reps n (ps++[T4 l reps ps reps.toNat []])
def build (l:List Dev) (parts reps:Int):Rng×Bool:=bif Gi l&&(inR parts 1 64&&(inR reps 1 5&&!(decide (reps > (l.length:Int))))) then ((reps,Bga l reps parts.toNat []),true) else ((0,[]),false)
def Fba {l:List Dev} {reps:Int} {ps:List (List Int)} (hl:Gi l=true):∀ (n m:Nat) (p:List Int),H3a l m p→m+n≤l.length→H3a l (m+n) (T4 l reps ps n p)
 |0,_,_,h,_=>h
 |n+1,m,p,h,hm=>by
  have:=Fba (reps:=reps) (ps:=ps) hl n (m+1) _ (L9a (r:=(reps,ps++[p])) hl h (by omega)) (by omega)
  rwa [show m+1+n=m+(n+1) by omega]at this
def Laa {l:List Dev} {reps:Int} (hl:Gi l=true) (hr:reps≤(l.length:Int)):∀ (n:Nat) (ps:List (List Int)),(∀ p∈ps,H3a l reps.toNat p)→(Bga l reps n ps).length=ps.length+n∧∀ p∈Bga l reps n ps,H3a l reps.toNat p
 |0,ps,h=>⟨rfl,h⟩
 |n+1,ps,h=>by
  have hf:=Fba (reps:=reps) (ps:=ps) hl reps.toNat 0 [] ⟨List.nodup_nil,rfl,λ _ h=>by cases h⟩ (by omega)
  rw[Wg]at hf
  obtain⟨h1,h2⟩:=Laa hl hr n (ps++[T4 l reps ps reps.toNat []]) (λ p hp=>by
   rcases Vm.1 hp with hp|hp
   ·exact h p hp
   ·rw[Vp.1 hp];exact hf)
  refine⟨?_,h2⟩
  show (Bga l reps n _).length=_
  rw[h1,Vi]
  simp only[Vh,Vq]
  omega
def Qm {l:List Dev} {parts reps:Int} (h:(build l parts reps).2=true):Gi l=true∧Hd (build l parts reps).1 l=true∧(build l parts reps).1.1=reps∧((build l parts reps).1.2.length:Int)=parts:=by
 unfold build at h ⊢
 cases hc:Gi l&&(inR parts 1 64&&(inR reps 1 5&&!(decide (reps > (l.length:Int)))))
 ·rw[hc]at h;cases h
 rw[Va,Va,Va,Vu,decide_eq_false_iff_not,Fk,Fk]at hc
 obtain⟨h1,h2,h3,h4⟩:=hc
 obtain⟨b1,b2⟩:=Laa (reps:=reps) h1 (by omega) parts.toNat [] (λ p hp=>by cases hp)
 rw[Vq,Wg]at b1
 have b1':((Bga l reps parts.toNat []).length:Int)=parts:=by rw[b1];omega
 refine⟨h1,F7.2 ⟨h1,h3,⟨by show 1≤(Bga l reps parts.toNat []).length;omega,by show (Bga l reps parts.toNat []).length≤64;omega⟩,λ p hp=>?_⟩,rfl,b1'⟩
 obtain⟨c1,c2,c3⟩:=b2 p hp
 exact⟨c1,by rw[c2];show ((reps.toNat:Nat):Int)=reps;omega,c3⟩
def S9 {l:List Dev} {reps:Int} {ps:List (List Int)}:∀ (n:Nat) (p:List Int),(T4 l reps ps n p).length=p.length+n
 |0,_=>rfl
 |n+1,p=>by
  show (T4 l reps ps n _).length=_
  rw[S9 n,Vi]
  simp only[Vh,Vq]
  omega
def Ava {α:Type} (l:List α) (x d:α):(l++[x]).getD l.length d=x:=by
 rw[Vb,Ya (Vv _),Ywa]
 rfl
def Fca {α:Type} (l:List α) (x y:α):(l++[x]).set l.length y=l++[y]:=by
 rw[Arb _ _ (Vv _),Ywa]
 rfl
def Awa (l:List Dev) (parts reps:Int) (z:Rng) (hl:Gi l=true) (h0:0≤reps) (h5:reps≤5) (ps:List (List Int)) (hps:ps.length≤100) (hq:∀ q∈ps,q.length≤100):∀ (n:Nat) (p:List Int),p.length+n=reps.toNat→
  Tot (λ k=>Ea k l parts reps (ps.length:Int) (p.length:Int) z (reps,ps++[p])) (λ x=>x=(l,parts,reps,(ps.length:Int),z,(reps,ps++[T4 l reps ps n p]))):=by
 intro n
 induction n with
 |zero=>
  intro p hp
  refine Tot.succ ?_
  simp (disch:=omega) only [Ea,dF]
  exact Xoa rfl
 |succ n ih=>
  intro p hp
  refine Tot.succ ?_
  have hrb:RBd (reps,ps++[p]):=⟨by simp only[Vi,Vh,Vq];omega,λ q hq'=>by
   rcases Vm.1 hq' with h|h
   ·have:=hq q h;omega
   ·rw[Vp.1 h];omega⟩
  have hlen:(ps++[p]).length=ps.length+1:=by simp
  simp (disch:=omega) only [Ea,dT,Vl,w64,hlen,Ava,Fca]
  refine Y0a (Ora (reps,ps++[p]) p l hrb (by omega) hl) ?_
  refine Xra (decide_eq_true trivial) (Xwa (by simp only[Vh,Vq];omega) (Xra (decide_eq_true trivial) ?_))
  have:=ih (p++[Ql (reps,ps++[p]) p l]) (by simp only[Vi,Vh,Vq];omega)
  rw[show (((p++[Ql (reps,ps++[p]) p l]).length:Nat):Int)=(p.length:Int)+1 by simp]at this
  exact this
def Axa (l:List Dev) (parts reps:Int) (hll:l.length≤5000000):Tot (λ k=>D6 k l parts reps) (λ x=>x=build l parts reps):=by
 unfold D6 build
 refine Y0a (F6a l (by omega)) ?_
 cases hl:Gi l
 ·exact Xra rfl (Xoa rfl)
 simp only[Zb,cond_false,Exa,Vt,Wd]
 cases hp:inR parts 1 64
 ·exact Xra rfl (Xoa rfl)
 refine Xqa rfl ?_
 cases hr:inR reps 1 5
 ·exact Xra rfl (Xoa rfl)
 obtain⟨r1,r2⟩:=Fk.1 hr
 obtain⟨p1,p2⟩:=Fk.1 hp
 refine Xqa rfl ?_
 cases hc:decide (reps > (l.length:Int))
 case true=>exact Xra rfl (Xoa rfl)
 refine Xqa rfl (Xpa (Q:=λ x=>x=(((0:Int),([]:List (List Int))),(reps,Bga l reps parts.toNat []))) ?_ (by rintro x rfl;exact Xoa rfl))
 obtain⟨n,rfl⟩:∃ n:Nat,parts=(n:Int):=⟨parts.toNat,by omega⟩
 refine Xxa (L:=λ k i (s:Rng)=>Eb k l (n:Int) reps i (0,[]) s) (Q:=λ x=>x=(((0:Int),([]:List (List Int))),(reps,Bga l reps n []))) n (λ j s=>∃ ps,s=(reps,ps)∧ps.length=j∧(∀ q∈ps,q.length≤100)∧Bga l reps (n-j) ps=Bga l reps n []) ?_ ?_ 0 (reps,[]) (Vw _) ⟨[],rfl,rfl,λ q h=>(by cases h),rfl⟩
 ·rintro s ⟨ps,rfl,hps,_,h⟩
  rw[Ywa]at h
  simp (disch:=omega) only [Eb,dF]
  exact Xoa (by rw[← h];rfl)
 ·rintro j s hj ⟨ps,rfl,hps,hq,h⟩ next
  simp (disch:=omega) only [Eb,dT]
  refine Xwa (by simp only[Vh,Vq];omega) ?_
  have h9:=Awa l (n:Int) reps (0,[]) hl (by omega) r2 ps (by omega) hq reps.toNat [] (by simp)
  rw[hps]at h9
  refine Xpa h9 ?_
  rintro x rfl
  simp (disch:=omega) only [w64]
  refine next _ ⟨ps++[T4 l reps ps reps.toNat []],rfl,by rw[Vi,hps];rfl,λ q hq'=>?_,?_⟩
  ·rcases Vm.1 hq' with h'|h'
   ·exact hq q h'
   ·rw[Vp.1 h',S9,Vq];omega
  ·rw[show n-j=(n-(j+1))+1 by omega]at h
   exact h

def hv (r:Rng) (l:List Dev) (b id:Int):Bool:=match Gp l b with
 |none=>false
 |some x=>match Gp l id with
  |none=>false
  |some d=>(d.2.1==x.2.1)&&decide (Fg r id-Fg r b≥2)
def Wya (r:Rng) (l:List Dev) (p:List Int) (b:Int):Option Nat:=p.findIdx? (hv r l b)
def rb1 (l:List Dev) (s:Int×Rng) (j:Nat):Int×Rng:=match Wya s.2 l (s.2.2.getD j []) (Ql s.2 (s.2.2.getD j []) l) with
 |none=>s
 |some i=>(s.1+1,(s.2.1,s.2.2.set j ((s.2.2.getD j []).set i (Ql s.2 (s.2.2.getD j []) l))))
def rbs (l:List Dev) (r:Rng) (n:Nat):Int×Rng:=(List.range n).foldl (rb1 l) (0,r)
def H4a (r:Rng) (l:List Dev):Rng×Int:=((rbs l r r.2.length).2,(rbs l r r.2.length).1)
def Osa (l:List Dev) (r:Rng) (n:Nat):rbs l r (n+1)=rb1 l (rbs l r n) n:=by
 unfold rbs
 rw[A6b,Z3a]
 rfl
def Aya {r:Rng} {l:List Dev} {p:List Int} {i:Nat} (hl:Gi l=true) (h:Wya r l p (Ql r p l)=some i):i<p.length∧Ql r p l∉p∧0≤Ql r p l∧∃ d,Gp l (Ql r p l)=some d:=by
 obtain⟨h1,h2,_⟩:=Yka.1 h
 refine⟨h1,?_⟩
 unfold hv at h2
 cases hb:Gp l (Ql r p l) with
 |none=>rw[hb]at h2;cases h2
 |some d=>
  obtain⟨hd,he⟩:=H0a hb
  obtain⟨⟨i0,_⟩,_⟩:=Gt.1 ((Cv.1 hl).2.1 _ hd)
  refine⟨?_,by omega,d,rfl⟩
  rcases H2a r p l with⟨_,e⟩|⟨b,_,e,_,hn⟩
  ·omega
  ·rw[e];exact hn
def Lba {p:List Int} {b:Int} (h:p.Nodup) (hb:b∉p) (i:Nat):(p.set i b).Nodup:=by
 induction p generalizing i with
 |nil=>exact h
 |cons x p ih=>
  obtain⟨h1,h2⟩:=Yn.1 h
  cases i with
  |zero=>exact Yn.2 ⟨λ c=>hb (Vd _ c),h2⟩
  |succ i=>
   refine Yn.2 ⟨λ c=>?_,ih h2 (λ c=>hb (Vd _ c)) i⟩
   rcases Yq c with c|c
   ·exact h1 c
   ·exact hb (c ▸ Yc)
def Vda {l:List Dev} {s:Int×Rng} {j:Nat} (hj:j<s.2.2.length) (h:Hd s.2 l=true):Hd (rb1 l s j).2 l=true∧(rb1 l s j).2.1=s.2.1∧(rb1 l s j).2.2.length=s.2.2.length∧s.1≤(rb1 l s j).1∧(rb1 l s j).1≤s.1+1:=by
 unfold rb1
 obtain⟨h1,h2,h3,h4⟩:=F7.1 h
 cases hx:Wya s.2 l (s.2.2.getD j []) (Ql s.2 (s.2.2.getD j []) l) with
 |none=>exact⟨h,rfl,rfl,by dsimp only;omega,by dsimp only;omega⟩
 |some i=>
  obtain⟨b1,b2,_,b3⟩:=Aya h1 hx
  obtain⟨q1,q2,q3⟩:=h4 _ (A3 (d:=[]) hj)
  refine⟨F7.2 ⟨h1,h2,by dsimp only;rw[List.length_set];exact h3,λ p hp=>?_⟩,rfl,by dsimp only;rw[List.length_set],by dsimp only;omega,by dsimp only;omega⟩
  rcases Yq hp with hp|hp
  ·exact h4 p hp
  ·subst hp
   refine⟨Lba q1 b2 i,by rw[Wc];exact q2,λ id hid=>?_⟩
   rcases Yq hid with hid|hid
   ·exact q3 id hid
   ·rw[hid];exact b3
def Qpa {l:List Dev} {r:Rng} (h:Hd r l=true):∀ (n:Nat),n≤r.2.length→Hd (rbs l r n).2 l=true∧(rbs l r n).2.1=r.1∧(rbs l r n).2.2.length=r.2.length∧0≤(rbs l r n).1∧(rbs l r n).1≤n
 |0,_=>⟨h,rfl,rfl,Zna _,Zna _⟩
 |n+1,hn=>by
  obtain⟨h1,h2,h3,h4,h5⟩:=Qpa h n (by omega)
  obtain⟨g1,g2,g3,g4,g5⟩:=Vda (j:=n) (by omega) h1
  rw[Osa]
  exact⟨g1,by rw[g2,h2],by rw[g3,h3],by omega,by omega⟩
def Fda {r:Rng} {l:List Dev} (h:Hd r l=true):Hd (H4a r l).1 l=true∧(H4a r l).1.1=r.1∧(H4a r l).1.2.length=r.2.length∧0≤(H4a r l).2:=by
 obtain⟨h1,h2,h3,h4,_⟩:=Qpa h r.2.length (Vv _)
 exact⟨h1,h2,h3,h4⟩
def wgt (l:List Dev) (i:Nat) (w:Int):List Dev:=l.set i ((l.getD i Hn).1,(l.getD i Hn).2.1,w)
def X2 (l:List Dev) (i:Nat) (w:Int):(wgt l i w).map (·.1)=l.map (·.1):=by
 unfold wgt
 rw[List.map_set]
 by_cases hi:i<l.length
 ·have:(l.getD i Hn).1=(l.map (·.1)).getD i 0:=by
   simp only[Vb,Zy,Vg hi,A1b,Yv]
  rw[this,Vb,Vg (by simpa using hi),Yv]
  exact List.set_getElem_self _
 ·rw[List.set_eq_of_length_le (by simpa using hi)]
def Lz {l:List Dev} {id:Int}:(∃ d,Gp l id=some d)↔id∈l.map (·.1):=by
 unfold Gp
 rw[← Zh,List.find?_isSome,Yr]
 exact⟨λ ⟨x,h,e⟩=>⟨x,h,eq_of_beq e⟩,λ ⟨x,h,e⟩=>⟨x,h,beq_iff_eq.2 e⟩⟩
def Vea {l:List Dev} {i:Nat} {w:Int} (h:Gi l=true) (hi:i<l.length) (h1:1≤w) (h2:w≤1000):Gi (wgt l i w)=true:=by
 obtain⟨g1,g2,g3,g4⟩:=Cv.1 h
 refine Cv.2 ⟨?_,λ d hd=>?_,?_⟩
 ·have e:(l.map (·.1)).Pairwise (· < ·):=Zm.2 g1
  rw[← X2 l i w]at e
  exact Zm.1 e
 ·rcases Yq hd with hd|hd
  ·exact g2 d hd
  ·obtain⟨e1,e2,_⟩:=Gt.1 (g2 _ (A3 (d:=Hn) hi))
   subst hd
   exact Gt.2 ⟨e1,e2,h1,h2⟩
 ·unfold wgt
  rw[Wc]
  exact⟨g3,g4⟩
def Fea {r:Rng} {l:List Dev} {i:Nat} {w:Int} (h:Hd r l=true) (hi:i<l.length) (h1:1≤w) (h2:w≤1000):Hd r (wgt l i w)=true:=by
 obtain⟨g1,g2,g3,g4⟩:=F7.1 h
 refine F7.2 ⟨Vea g1 hi h1 h2,g2,g3,λ p hp=>?_⟩
 obtain⟨q1,q2,q3⟩:=g4 p hp
 exact⟨q1,q2,λ id hid=>by rw[Lz,X2,← Lz];exact q3 id hid⟩

def Lca (x:BitVec 32):(cst x).getLsbD 31=x.getLsbD 0:=by
 have h0:(x >>> 1).getLsbD 31=false:=by
  rw[A7b]
  exact BitVec.getLsbD_of_ge _ _ (by decide)
 unfold cst
 cases h:x.getLsbD 0 with
 |true=>
  rw[if_pos rfl,BitVec.getLsbD_xor,h0]
  decide
 |false=>
  rw[if_neg (by simp),h0]
def Pi {n:Nat} {x y c:BitVec n} (h:x ^^^ c=y ^^^ c):x=y:=by
 have:=congrArg (λ z=>z ^^^ c) h
 simpa[BitVec.xor_assoc] using this
def Sqa {x y:BitVec 32} (h:cst x=cst y):x=y:=by
 have h0:x.getLsbD 0=y.getLsbD 0:=by rw[← Lca,← Lca,h]
 have h1:x >>> 1=y >>> 1:=by
  unfold cst at h
  rw[h0]at h
  cases hb:y.getLsbD 0 with
  |true=>rw[hb,if_pos rfl,if_pos rfl]at h;exact Pi h
  |false=>rw[hb,if_neg (by simp),if_neg (by simp)]at h;exact h
 refine BitVec.eq_of_getLsbD_eq λ i hi=>?_
 cases i with
 |zero=>exact h0
 |succ i=>
  have:=congrArg (λ z=>z.getLsbD i) h1
  simpa[A7b,Y3a] using this
def Sa:∀ (n:Nat) {x y:BitVec 32},Cwa n x=Cwa n y→x=y
 |0,_,_,h=>h
 |n+1,_,_,h=>Sqa (Sa n h)
def Sra {x y:BitVec 32} {b:Int} (h:cby x b=cby y b):x=y:=Pi (Sa 8 h)
def Ota {x:BitVec 32} {a b:Int} (ha:0≤a∧a≤255) (hb:0≤b∧b≤255) (h:cby x a=cby x b):a=b:=by
 have h1:x ^^^ ofInt 32 a=x ^^^ ofInt 32 b:=Sa 8 h
 rw[Apb,Apb x]at h1
 have h2:=Pi h1
 rw[Qja ha,Qja hb,h2]
def Ffa:∀ (l:List Int) {x y:BitVec 32},l.foldl cby x=l.foldl cby y→x=y
 |[],_,_,h=>h
 |_::l,_,_,h=>Sra (Ffa l h)
def Qqa (l:List Int):0≤crc l∧crc l≤4294967295:=by
 unfold crc
 have:=(Tna l).isLt
 omega
def Ssa {l:List Int} {i:Nat} {y:Int} (hi:i<l.length) (hy:0≤y∧y≤255) (hb:Al l) (hne:y≠l.getD i 0):crc (l.set i y)≠crc l:=by
 intro h
 have h1:Tna (l.set i y)=Tna l:=Aqb (by unfold crc at h;omega)
 unfold Tna at h1
 have h2:=BitVec.not_inj.1 h1
 have e1:l.set i y=l.take i++y::l.drop (i+1):=by rw[Yia,if_pos hi]
 have e2:l=l.take i++l.getD i 0::l.drop (i+1):=by
  conv => { lhs;rw[← Wh i l] }
  rw[B8 (d:=0) hi]
 rw[e1,Z3a,Yl]at h2
 rw[e2]at h2
 rw[Z3a,Yl]at h2
 have e3:(l.take i++l.getD i 0::l.drop (i+1)).take i=l.take i:=by rw[← e2]
 have e4:(l.take i++l.getD i 0::l.drop (i+1)).drop (i+1)=l.drop (i+1):=by rw[← e2]
 rw[e3,e4]at h2
 exact hne (Ota hy (hb _ (A3 hi)) (Ffa _ h2))
def Vfa {a b:Int} (ha:0≤a∧a≤4294967295) (hb:0≤b∧b≤4294967295) (h:c4 a=c4 b):a=b:=by
 have e:∀ c:Int,0≤c→c4 c=[c/16777216 % 256,c/65536 % 256,c/256 % 256,c % 256]:=λ c hc=>by
  unfold c4
  rw[show (2:Int) ^ (min (toNat 24) (IntKind.bits .i64))=16777216 from by decide,show (2:Int) ^ (min (toNat 16) (IntKind.bits .i64))=65536 from by decide,show (2:Int) ^ (min (toNat 8) (IntKind.bits .i64))=256 from by decide,
   Yfa _ (by omega),Yfa _ (by omega),Yfa _ (by omega),Zga,Zga,Zga,Zga]
 rw[e a ha.1,e b hb.1]at h
 simp only[Yd,and_true]at h
 omega
def H5a {l m:List Int} {j:Nat} (h:j<l.length):(l++m).getD j 0=l.getD j 0:=by rw[Vb,Vb,Yf h]
def H6a {l m:List Int} {j:Nat} (h:l.length≤j):(l++m).getD j 0=m.getD (j-l.length) 0:=by rw[Vb,Vb,Ya h]
def Oua {f:Fil} (hf:Fq f=true) {n:Nat} (hn:n<8*(H3 f).length):Iw (J0 (H3 f) n)=none:=by
 cases hg:Iw (J0 (H3 f) n) with
 |none=>rfl
 |some g=>
  exfalso
  obtain⟨g1,_,g3⟩:=Kwa hg
  have hpb:=Pf f
  have hj:n/8<(H3 f).length:=by omega
  have hy:=F4a ((H3 f).getD (n/8) 0) (n % 8)
  have hne:=Oka (hpb _ (A3 (d:=0) hj)) (Nat.mod_lt n (show 0<8 by omega))
  unfold J0 at g3
  generalize Cza ((H3 f).getD (n/8) 0) (n % 8)=y at g3 hy hne
  generalize n/8=j at g3 hj hne
  have ef:H3 f=Kx f++c4 (crc (Kx f)):=by unfold H3;rw[hf];rfl
  have eg:H3 g=Kx g++c4 (crc (Kx g)):=by unfold H3;rw[g1];rfl
  have l4:∀ c,(c4 c).length=4:=λ c=>rfl
  rw[eg]at g3
  rw[ef]at g3 hj hne
  have hlen:(Kx g).length=(Kx f).length:=by
   have:=congrArg length g3
   rw[Wc,Vi,Vi,l4,l4]at this
   omega
  by_cases hjb:j<(Kx f).length
  ·rw[List.set_append_left _ _ hjb]at g3
   obtain⟨a1,a2⟩:=List.append_inj g3 (by rw[Wc];exact hlen)
   rw[H5a hjb]at hne
   have:=Vfa (Qqa _) (Qqa _) a2
   rw[a1]at this
   exact Ssa hjb hy (N8 f) hne this
  ·rw[Arb _ _ (by omega)]at g3
   obtain⟨a1,a2⟩:=List.append_inj g3 hlen
   rw[a1]at a2
   rw[H6a (by omega)]at hne
   rw[Vi,l4]at hj
   have:(c4 (crc (Kx f))).getD (j-(Kx f).length) 0=y:=by
    rw[a2,Vb,Zla (by rw[l4];omega),Yv]
   exact hne this.symm

def Lda (l:List Nmd) (ns:List ByteArray):List ByteArray:=l.foldl (λ ns x=>wt ns x.1) ns
def nms (d:Dsk):List ByteArray:=Lda (d.1++d.2) []
def pk1:Option Nmd→List Nmd
 |some x=>[x]
 |none=>[]
def U9 (kp:List Bool) (a b:List Nmd):List ByteArray→Nat→List Nmd
 |[],_=>[]
 |s::ns,i=>pk1 (pk (bif kp.getD i false then a else b) s)++U9 kp a b ns (i+1)
def Q4 (d:Dsk) (kp:List Bool):Dsk:=bif decide ((U9 kp d.1 d.2 (nms d) 0).length > 60) then d else (U9 kp d.1 d.2 (nms d) 0,U9 kp d.1 d.2 (nms d) 0)
def Fga:∀ (l:List Nmd) (ns:List ByteArray),TS ns→TS (Lda l ns)
 |[],_,h=>h
 |_::l,_,h=>Fga l _ (Ksa h)
def Aza:∀ (l:List Nmd) (ns:List ByteArray) (t:ByteArray),t∈Lda l ns↔(∃ x∈l,x.1=t)∨t∈ns
 |[],ns,t=>by simp[Lda]
 |x::l,ns,t=>by
  show t∈Lda l (wt ns x.1)↔_
  rw[Aza l,Qha]
  simp only[Vk,exists_eq_or_imp]
  constructor
  ·rintro (h|rfl|h)
   ·exact .inl (.inr h)
   ·exact .inl (.inl rfl)
   ·exact .inr h
  ·rintro ((h|h)|h)
   ·exact .inr (.inl h.symm)
   ·exact .inl h
   ·exact .inr (.inr h)
def Qra (d:Dsk):TS (nms d):=Fga _ _ List.Pairwise.nil
def Sta {d:Dsk} {t:ByteArray}:t∈nms d↔(gt d.1 t).isSome=true∨(gt d.2 t).isSome=true:=by
 have h:∀ l:List Nmd,(gt l t).isSome=true↔∃ x∈l,x.1=t:=λ l=>by
  cases hg:gt l t with
  |none=>
   constructor
   ·intro h;cases h
   ·rintro⟨x,hx,e⟩;exact absurd e (Iy.1 hg x hx)
  |some b=>simp only[Option.isSome_some,true_iff];exact⟨_,Ix hg,rfl⟩
 unfold nms
 rw[Aza,h,h]
 simp only[Vm,Zua,or_false]
 constructor
 ·rintro⟨x,h1|h1,h2⟩
  ·exact .inl ⟨x,h1,h2⟩
  ·exact .inr ⟨x,h1,h2⟩
 ·rintro (⟨x,h1,h2⟩|⟨x,h1,h2⟩)
  ·exact⟨x,.inl h1,h2⟩
  ·exact⟨x,.inr h1,h2⟩
def Sua (l:List Nmd) (s:ByteArray):pk l s=(gt l s).map λ b=>(s,b):=by
 unfold pk gt
 cases h:fnd l s with
 |none=>rfl
 |some i=>rw[A1b,← (U5 h).2]
def Sc (kp:List Bool) (a b:List Nmd):∀ (ns:List ByteArray) (i:Nat),((U9 kp a b ns i).map Prod.fst).Sublist ns
 |[],_=>List.Sublist.slnil
 |s::ns,i=>by
  unfold U9
  rw[Sua]
  cases gt (bif kp.getD i false then a else b) s with
  |none=>exact(Sc kp a b ns (i+1)).cons s
  |some c=>exact(Sc kp a b ns (i+1)).cons_cons s
def H7a {kp:List Bool} {a b:List Nmd} {ns:List ByteArray} {i:Nat} (h:TS ns):Bq (U9 kp a b ns i):=by
 have:=Zra (Sc kp a b ns i) h
 rwa [Zm]at this
def Lea {kp:List Bool} {a b:List Nmd}:∀ {ns:List ByteArray} {i:Nat} {x:Nmd},x∈U9 kp a b ns i→gt a x.1=some x.2∨gt b x.1=some x.2
 |[],_,_,h=>by cases h
 |s::ns,i,x,h=>by
  unfold U9 at h
  rw[Sua]at h
  rcases Vm.1 h with h|h
  ·cases hg:gt (bif kp.getD i false then a else b) s with
   |none=>rw[hg]at h;cases h
   |some c=>
    rw[hg]at h
    rw[Vp.1 h]
    cases hk:kp.getD i false with
    |true=>rw[hk]at hg;exact .inl hg
    |false=>rw[hk]at hg;exact .inr hg
  ·exact Lea h
def Qsa {kp:List Bool} {a b:List Nmd} {t:ByteArray}:∀ {ns:List ByteArray} {i:Nat},TS ns→t∈ns→∃ j,i≤j∧gt (U9 kp a b ns i) t=gt (bif kp.getD j false then a else b) t
 |[],_,_,h=>by cases h
 |s::ns,i,hs,h=>by
  obtain⟨h1,h2⟩:=Wb.1 hs
  have hn:∀ j,gt (U9 kp a b ns j) s=none:=λ j=>Iy.2 λ x hx e=>by
   have:=h1 x.1 ((Sc kp a b ns j).subset (Yp hx))
   rw[e,Es]at this
   cases this
  unfold U9
  rw[Sua]
  rcases Vk.1 h with rfl|h
  ·refine⟨i,Vv _,?_⟩
   cases hg:gt (bif kp.getD i false then a else b) t with
   |none=>exact hn _
   |some c=>
    show gt ((t,c)::U9 kp a b ns (i+1)) t=_
    rw[Cya,if_pos rfl]
  ·obtain⟨j,hj,e⟩:=Qsa (kp:=kp) (a:=a) (b:=b) (i:=i+1) h2 h
   refine⟨j,by omega,?_⟩
   rw[← e]
   have hst:s≠t:=λ e=>by
    have:=h1 t h
    rw[e,Es]at this
    cases this
   cases gt (bif kp.getD i false then a else b) s with
   |none=>rfl
   |some c=>
    show gt ((s,c)::U9 kp a b ns (i+1)) t=_
    rw[Cya,if_neg hst]
def Sva {d:Dsk} {kp:List Bool} (h:DG d):DG (Q4 d kp):=by
 unfold Q4
 cases hc:decide ((U9 kp d.1 d.2 (nms d) 0).length > 60)
 case true=>exact h
 have hl:=of_decide_eq_false hc
 have n1:=(Ap.1 (Ds.1 h.1).1).2.1
 have n2:=(Ap.1 (Ds.1 h.1).2).2.1
 have q:Fx (U9 kp d.1 d.2 (nms d) 0)=true:=Ap.2 ⟨H7a (Qra d),λ x hx=>(Lea hx).elim (λ e=>n1 _ (Ix e)) (λ e=>n2 _ (Ix e)),by omega⟩
 have b:LB (U9 kp d.1 d.2 (nms d) 0):=λ x hx=>(Lea hx).elim (λ e=>h.2.1.gt e) (λ e=>h.2.2.gt e)
 exact⟨Ds.2 ⟨q,q⟩,b,b⟩
def Lfa {d:Dsk} {kp:List Bool} (t:ByteArray):Q4 d kp=d∨((Q4 d kp).2=(Q4 d kp).1∧(gt (Q4 d kp).1 t=gt d.1 t∨gt (Q4 d kp).1 t=gt d.2 t)):=by
 unfold Q4
 cases hc:decide ((U9 kp d.1 d.2 (nms d) 0).length > 60)
 case true=>exact .inl rfl
 refine .inr ⟨rfl,?_⟩
 show gt (U9 kp d.1 d.2 (nms d) 0) t=_∨gt (U9 kp d.1 d.2 (nms d) 0) t=_
 by_cases ht:t∈nms d
 ·obtain⟨j,_,e⟩:=Qsa (kp:=kp) (a:=d.1) (b:=d.2) (i:=0) (Qra d) ht
  rw[e]
  cases kp.getD j false with
  |true=>exact .inl rfl
  |false=>exact .inr rfl
 ·have h1:gt d.1 t=none:=by
   cases hg:gt d.1 t with
   |none=>rfl
   |some b=>exact absurd (Sta.2 (.inl (by rw[hg];rfl))) ht
  left
  rw[h1]
  exact Iy.2 λ x hx e=>ht (by rw[← e];exact(Sc _ _ _ _ _).subset (Yp hx))

def clS (o:Dsk×Int) (x:Nmd):Dsk×Int:=match Iw x.2 with
 |some _=>o
 |none=>((cut o.1.1 x.1,cut o.1.2 x.1),o.2+1)
def L7 (d:Dsk):Dsk×Int:=d.1.foldl clS (d,0)
def Vga {d:Dsk} {s:ByteArray} (h:DG d):DG (cut d.1 s,cut d.2 s):=⟨Ds.2 ⟨Pu (Ds.1 h.1).1,Pu (Ds.1 h.1).2⟩,h.2.1.cut s,h.2.2.cut s⟩
def Vha {o:Dsk×Int} {x:Nmd} (h:DG o.1):DG (clS o x).1:=by
 unfold clS
 cases Iw x.2 with
 |some _=>exact h
 |none=>exact Vga h
def Fha:∀ (l:List Nmd) (o:Dsk×Int),DG o.1→DG (l.foldl clS o).1
 |[],_,h=>h
 |_::l,_,h=>Fha l _ (Vha h)
def Ova {d:Dsk} (h:DG d):DG (L7 d).1:=Fha _ _ h
def X3 (l:List Nmd):List ByteArray:=(l.filter λ x=>(Iw x.2).isNone).map Prod.fst
def Nc:∀ (l:List Nmd) (o:Dsk×Int),DG o.1→((l.foldl clS o).2=o.2+((X3 l).length:Int))∧∀ t,(t∈X3 l→gt (l.foldl clS o).1.1 t=none∧gt (l.foldl clS o).1.2 t=none)∧(t∉X3 l→gt (l.foldl clS o).1.1 t=gt o.1.1 t∧gt (l.foldl clS o).1.2 t=gt o.1.2 t)
 |[],o,h=>⟨by simp[X3],λ t=>⟨λ c=>by simp[X3]at c,λ _=>⟨rfl,rfl⟩⟩⟩
 |x::l,o,h=>by
  obtain⟨h1,h2⟩:=Nc l (clS o x) (Vha h)
  rw[Yl]
  cases hx:Iw x.2 with
  |some f=>
   have e:X3 (x::l)=X3 l:=by unfold X3;rw[Y7a,hx];rfl
   have ec:clS o x=o:=by unfold clS;rw[hx]
   rw[e]
   rw[ec]at h1 h2 ⊢
   exact⟨h1,h2⟩
  |none=>
   have e:X3 (x::l)=x.1::X3 l:=by unfold X3;rw[Y7a,hx];rfl
   have ec:clS o x=((cut o.1.1 x.1,cut o.1.2 x.1),o.2+1):=by unfold clS;rw[hx]
   rw[e]
   rw[ec]at h1 h2 ⊢
   refine⟨by rw[h1,Vh];omega,λ t=>⟨λ ht=>?_,λ ht=>?_⟩⟩
   ·by_cases hb:t∈X3 l
    ·exact(h2 t).1 hb
    ·obtain⟨a1,a2⟩:=(h2 t).2 hb
     have:x.1=t:=by
      rcases Vk.1 ht with e|e
      ·exact e.symm
      ·exact absurd e hb
     rw[a1,a2,O8 (H4 h.1),O8 (Jl h.1),if_pos this,if_pos this]
     exact⟨rfl,rfl⟩
   ·obtain⟨a1,a2⟩:=(h2 t).2 (λ c=>ht (Vd _ c))
    have:x.1≠t:=λ e=>ht (by rw[← e];exact Yc)
    rw[a1,a2,O8 (H4 h.1),O8 (Jl h.1),if_neg this,if_neg this]
    exact⟨rfl,rfl⟩
def Fia {d:Dsk} (hd:Ci d=true) {t:ByteArray}:t∈X3 d.1↔∃ b,gt d.1 t=some b∧Iw b=none:=by
 unfold X3
 rw[Yr]
 constructor
 ·rintro⟨x,hx,rfl⟩
  obtain⟨h1,h2⟩:=Yza.1 hx
  exact⟨x.2,Wu (H4 hd) h1,by simpa using h2⟩
 ·rintro⟨b,h1,h2⟩
  exact⟨(t,b),Yza.2 ⟨Ix h1,by simp[h2]⟩,rfl⟩

def Swa (d:Dsk):List ByteArray:=(d.1.filter λ x=>(Iw x.2).isSome).map Prod.fst
def hI (d:Dsk) (out:List ByteArray) (x:Nmd):List ByteArray:=bif (lkD d x.1).2==0 then wt out x.1 else out
def La (d:Dsk):List ByteArray:=d.1.foldl (hI d) []
def Qta (d:Dsk):∀ (l:List Nmd) (out:List ByteArray),(l.foldl (hI d) out).length≤out.length+l.length
 |[],out=>by simp
 |x::l,out=>by
  have h1:=Qta d l (hI d out x)
  have h2:(hI d out x).length≤out.length+1:=by
   unfold hI
   cases (lkD d x.1).2==0 with
   |false=>exact Yna _
   |true=>exact Qia
  rw[Yl,Vh]
  omega
def Owa (d:Dsk) (hd:DIn d) (hb:DB d):Tot (λ k=>Fp k d) (λ r=>r=La d):=by
 have hl:=hd.2.1
 unfold Fp
 refine Xpa (Q:=λ r=>r=La d) ?_ (by rintro r rfl;exact Xoa rfl)
 refine Xxa (L:=λ k i s=>Eu k s d.1 (d.1.length:Int) i d) (Q:=λ r=>r=La d) d.1.length (λ j s=>(d.1.drop j).foldl (hI d) s=La d∧s.length≤j) ?_ ?_ 0 [] (Vw _) ⟨rfl,Vv _⟩
 ·rintro s ⟨h,_⟩
  rw[Wl]at h
  simp (disch:=omega) only [Eu,dF]
  exact Xoa h
 ·rintro j s hj ⟨h,hs⟩ next
  rw[B8 (d:=Jd) hj,Yl]at h
  simp (disch:=omega) only [Eu,dT,Vl,w64]
  have e0:d.1.getD j ((⟨#[]⟩:ByteArray),([]:List Int))=d.1.getD j Jd:=rfl
  rw[e0]
  refine Y0a (Wv hd.1.1.1 hb.1 _) ?_
  unfold hI at h
  cases hc:(lkD d (d.1.getD j Jd).1).2==0 with
  |false=>
   rw[hc]at h
   exact Xqa rfl (next _ ⟨h,by omega⟩)
  |true=>
   rw[hc]at h
   refine Xra rfl (Y0a (Wt s _ (by omega)) ?_)
   have:=Qia (l:=s) (s:=(d.1.getD j Jd).1)
   exact next _ ⟨h,by omega⟩
def B0a {p:ByteArray→Bool}:∀ {l:List ByteArray},(∀ y∈l,p y=true)→l.takeWhile p=l
 |[],_=>rfl
 |x::l,h=>by rw[Zr,if_pos (h x Yc),B0a (λ y hy=>h y (Vd _ hy))]
def Sxa {l:List ByteArray} {s:ByteArray} (h:∀ y∈l,tlt y s=true):wt l s=l++[s]:=by
 have e:tpl l s=l.length:=by
  unfold tpl
  rw[B0a h]
 unfold wt
 rw[e,if_neg (by omega),Zs,Wl,Ym]
def Via {d:Dsk} (hs:Bq d.1) {x:Nmd} (hx:x∈d.1):((lkD d x.1).2==0)=(Iw x.2).isSome:=by
 unfold lkD
 rw[Wu hs hx]
 simp only
 cases Iw x.2<;>rfl
def Oxa {d:Dsk} (hs:Bq d.1):La d=Swa d:=by
 have key:∀ (l:List Nmd) (out:List ByteArray),(∀ x∈l,x∈d.1)→Bq l→(∀ y∈out,∀ x∈l,tlt y x.1=true)→l.foldl (hI d) out=out++(l.filter λ x=>(Iw x.2).isSome).map Prod.fst:=by
  intro l
  induction l with
  |nil=>intro out _ _ _;simp
  |cons x l ih=>
   intro out hm hsl ho
   obtain⟨h1,h2⟩:=Wb.1 hsl
   rw[Yl,Y7a]
   have hx:=Via hs (hm x Yc)
   unfold hI
   rw[hx]
   cases hf:(Iw x.2).isSome
   ·exact ih out (λ y hy=>hm y (Vd _ hy)) h2 (λ y hy z hz=>ho y hy z (Vd _ hz))
   rw[cond_true,Sxa (λ y hy=>ho y hy x Yc),if_pos rfl,Xs]
   have:=ih (out++[x.1]) (λ y hy=>hm y (Vd _ hy)) h2 (λ y hy z hz=>by
    rcases Vm.1 hy with hy|hy
    ·exact ho y hy z (Vd _ hz)
    ·rw[Vp.1 hy];exact h1 z hz)
   unfold hI at this
   rw[this,Vo]
   rfl
 unfold La Swa
 rw[key d.1 [] (λ _ h=>h) hs (λ y hy=>by cases hy),Wn]
def H8a (l:List ByteArray) (s:ByteArray):Bool:=l.any λ y=>teq y s
def Jf {l:List ByteArray} {s:ByteArray}:H8a l s=true↔s∈l:=by
 unfold H8a
 rw[Y4a]
 constructor
 ·rintro⟨x,hx,e⟩;rw[← B9.1 e];exact hx
 ·intro h;exact⟨s,h,B9.2 rfl⟩
def Toa (l:List ByteArray):Nat→ByteArray→List ByteArray×Nat
 |0,_=>(l,0)
 |k+1,s=>bif tlt s (l.getD k Jk) then Toa (l.set (k+1) (l.getD k Jk)) k s else (l,k+1)
def Wca (l:List ByteArray) (s:ByteArray):List ByteArray:=(Toa (l++[s]) l.length s).1.set (Toa (l++[s]) l.length s).2 s
def hS1 (l:List Nmd) (j:Nat) (out:List ByteArray) (x:Nmd):List ByteArray:=bif (Iw x.2).isSome&&(!(H8a out x.1)&&(Sia l x.1==(j:Int))) then Wca out x.1 else out
def hS (l:List Nmd):List Nmd→Nat→List ByteArray→List ByteArray
 |[],_,out=>out
 |x::r,j,out=>hS l r (j+1) (hS1 l j out x)

def Vja (n:Nod):Nod×Int:=((n.1,(L7 n.2.1).1,n.2.2),(L7 n.2.1).2)
def X4 {n:Nod} (hn:NG n) {d:Dsk} (hd:DG d):NG (n.1,d,n.2.2):=by
 obtain⟨h1,h2,h3,h4,h5⟩:=Bl.1 hn.1
 exact⟨Bl.2 ⟨h1,h2,hd.1,h4,h5⟩,hd.2⟩
def Lga {n:Nod} (hn:NG n):NG (Vja n).1:=X4 hn (Ova hn.g)

def T5 (v:BitVec 32) (b:Int):BitVec 32:=(v ^^^ ofInt 32 b)*16777619#32
def H9a (x:ByteArray):Nat→BitVec 32
 |0=>2166136261#32
 |n+1=>T5 (H9a x n) (bt x (n:Int))
def Oya (x:ByteArray):Nat:=(H9a x x.size).toNat
def Xma (v:BitVec 32):wrap .u32 ((v.toNat:Int)*16777619)=((v*16777619#32).toNat:Int):=by
 rw[IntKind.wrap_u32,BitVec.toNat_mul]
 show (v.toNat:Int)*16777619 % 4294967296=((v.toNat*16777619 % 4294967296:Nat):Int)
 omega
def Oza (x:ByteArray) (hx:x.size≤1000000000):Tot (λ k=>Gr k x) (λ r=>r=(Oya x:Int)):=by
 unfold Gr
 refine Xpa (Q:=λ r=>r=(Oya x:Int)) ?_ (by
  rintro r rfl
  have:=(H9a x x.size).isLt
  exact Xoa (w64 (n:=(Oya x:Int)) (by omega) (by show ((H9a x x.size).toNat:Int)≤_;omega)))
 refine Xxa (L:=λ k i (s:Int)=>Fe k x s i) (Q:=λ r=>r=(Oya x:Int)) x.size (λ j s=>s=((H9a x j).toNat:Int)) ?_ ?_ 0 _ (Vw _) rfl
 ·rintro s rfl
  simp (disch:=omega) only [Fe,dF]
  exact Xoa rfl
 ·rintro j s hj rfl next
  have hb:=Kga x (j:Int)
  have e1:wrap .u32 (bt x (j:Int))=bt x (j:Int):=Agb _ ⟨by omega,by omega⟩
  simp (disch:=omega) only [Fe,dT,w64,e1,Wta (H9a x j) _ (bt x (j:Int)) rfl,Xma]
  exact next _ rfl
def Pj (r:Rng) (x:ByteArray):List Int:=r.2.getD (Oya x % r.2.length) []
def Wza (a b:Nat):Int.tmod (a:Int) (b:Int)=((a % b:Nat):Int):=by
 rw[Yea (by omega)]
 exact(Int.natCast_emod _ _).symm
def Fja (r:Rng) (x:ByteArray) (hr:RBd r) (hx:x.size≤1000000000):Tot (λ k=>Bp k r x) (λ y=>y=Pj r x):=by
 have hrl:=hr.1
 unfold Bp
 by_cases h0:r.2.length=0
 ·refine Xra (by rw[h0];rfl) (Xoa ?_)
  unfold Pj
  rw[Wk h0]
  rfl
 ·have hm:=Nat.mod_lt (Oya x) (show 0<r.2.length by omega)
  refine Xqa (by rw[beq_eq_false_iff_ne];omega) (Xpa (Q:=λ y=>y=((Oya x % r.2.length:Nat):Int)) ?_ ?_)
  ·unfold G5
   refine Xta (by omega) (Y0a (Oza x hx) ?_)
   exact Xta (by omega) (Xoa (Wza _ _))
  ·rintro y rfl
   simp (disch:=omega) only [dT,Vl]
   have hp:=hr.2 _ (A3 (d:=[]) hm)
   rw[Aua _ (by omega)]
   exact Xoa rfl
def P0a {r:Rng} {l:List Dev} (h:Hd r l=true) (x:ByteArray):Pj r x∈r.2:=by
 obtain⟨_,_,h3,_⟩:=F7.1 h
 exact A3 (d:=[]) (Nat.mod_lt _ (by omega))
def Lha {r:Rng} {l:List Dev} (h:Hd r l=true) (x:ByteArray):(Pj r x).Nodup∧((Pj r x).length:Int)=r.1∧∀ id∈Pj r x,∃ d,Gp l id=some d:=(F7.1 h).2.2.2 _ (P0a h x)
def Haa (r:Rng) (x:ByteArray) (id:Int) (hr:RBd r) (hx:x.size≤1000000000):Tot (λ k=>Dl k r x id) (λ y=>y=Gx (Pj r x) id):=by
 unfold Dl
 refine Y0a (Fja r x hr hx) ?_
 have hp:(Pj r x).length≤2000000:=by
  unfold Pj
  by_cases hm:Oya x % r.2.length<r.2.length
  ·exact hr.2 _ (A3 (d:=[]) hm)
  ·rw[Vb,Ze (by omega)];exact Vw _
 exact Xpa (Ph _ _ (by omega)) (by rintro b rfl;exact Xoa rfl)
def hoA (p zs:List Int) (z:Bool) (l:List Dev):List Int:=(l.filter λ d => !(Gx p d.1)&&(Gx zs d.2.1==z)).map (·.1)
def P1a (r:Rng) (l:List Dev) (x:ByteArray):List Int:=hoA (Pj r x) (Bm (Pj r x) l) false l++hoA (Pj r x) (Bm (Pj r x) l) true l

section
variable {R:Type} {L:Nat→Int→Option (Sum Bool R)}
def Mt (p:Nat→Bool) (n:Nat):(List.range (n+1)).all p=((List.range n).all p&&p n):=by
 rw[A6b,Asb,Z2a,List.all_nil,Y9a]
def T6 (p:Nat→Bool) (n:Nat):(List.range (n+1)).any p=((List.range n).any p||p n):=by
 rw[A6b,Atb,Z1a,Aub,Yla]
def T7 {p:Nat→Bool} {m n:Nat} (h:m≤n) (hn:(List.range n).all p=true):(List.range m).all p=true:=by
 rw[We]at hn ⊢
 exact λ x hx=>hn x (Yt.2 (by have:=Yt.1 hx;omega))
def Xya (n:Nat) (p:Nat→Bool) (e:R) (hend:Tot (λ k=>L (k+1) (n:Int)) (λ r=>r = .inr e))
  (T5:∀ j,j<n→∀ (Q:Sum Bool R→Prop),(p j=false→Q (.inl false))→(p j=true→Tot (λ k=>L k ((j:Int)+1)) Q)→Tot (λ k=>L (k+1) (j:Int)) Q):
  Tot (λ k=>L k 0) (λ r=>r=bif (List.range n).all p then .inr e else .inl false):=by
 refine Xxa (L:=λ k i (_:Unit)=>L k i) (Q:=λ r=>r=bif (List.range n).all p then .inr e else .inl false) n (λ j _=>(List.range j).all p=true) ?_ ?_ 0 () (Vw _) rfl
 ·intro _ h
  rw[h]
  exact hend
 ·intro j _ hj h next
  refine T5 j hj _ (λ hp=>?_) (λ hp=>next () (by rw[Mt,h,hp];rfl))
  cases hc:(List.range n).all p
  ·rfl
  have:=T7 (show j+1≤n by omega) hc
  rw[Mt,hp,Yh]at this
  cases this
def Xza (n:Nat) (p:Nat→Bool) (e:R) (hend:Tot (λ k=>L (k+1) (n:Int)) (λ r=>r = .inr e))
  (T5:∀ j,j<n→∀ (Q:Sum Bool R→Prop),(p j=true→Q (.inl true))→(p j=false→Tot (λ k=>L k ((j:Int)+1)) Q)→Tot (λ k=>L (k+1) (j:Int)) Q):
  Tot (λ k=>L k 0) (λ r=>r=bif (List.range n).any p then .inl true else .inr e):=by
 refine Xxa (L:=λ k i (_:Unit)=>L k i) (Q:=λ r=>r=bif (List.range n).any p then .inl true else .inr e) n (λ j _=>(List.range j).any p=false) ?_ ?_ 0 () (Vw _) rfl
 ·intro _ h
  rw[h]
  exact hend
 ·intro j _ hj h next
  refine T5 j hj _ (λ hp=>?_) (λ hp=>next () (by rw[T6,h,hp];rfl))
  rw[Y4a.2 ⟨j,Yt.2 hj,hp⟩]
  rfl
end
def J1 {α:Type} (l:List α) (d:α) (p:α→Bool):l.all p=(List.range l.length).all λ j=>p (l.getD j d):=by
 rw[Zha,We,We]
 constructor
 ·intro h j hj
  exact h _ (A3 (Yt.1 hj))
 ·intro h x hx
  obtain⟨j,hj,rfl⟩:=Yx.1 hx
  have:=h j (Yt.2 hj)
  rwa [Vb,Vg hj,Yv]at this
def Sd {α:Type} (l:List α) (d:α) (p:α→Bool):l.any p=(List.range l.length).any λ j=>p (l.getD j d):=by
 rw[Zha,Y4a,Y4a]
 constructor
 ·rintro⟨x,hx,h⟩
  obtain⟨j,hj,rfl⟩:=Yx.1 hx
  exact⟨j,Yt.2 hj,by rwa [Vb,Vg hj,Yv]⟩
 ·rintro⟨j,hj,h⟩
  exact⟨_,A3 (Yt.1 hj),h⟩
abbrev Wri:=ByteArray×Fil×Bool
abbrev Wld:=List Dev×Rng×List Nod×Stp×List Wri×List ByteArray
def Bha:Wri:=((⟨#[]⟩:ByteArray),((((0:Int),((0:Int),(0:Int))),(false,[])),false))
def Oa (l:List ByteArray):Bool:=(List.range l.length).all λ j=>Cg (l.getD j Jk)&&(decide (j=0)||tlt (l.getD (j-1) Jk) (l.getD j Jk))
def D5a (c:Stp) (w:Wri):Bool:=Cg w.1&&(Fq w.2.1&&!(sle c w.2.1.1))
def P2a (c:Stp) (l:List Wri):Bool:=l.all (D5a c)&&decide ((l.length:Int)≤200)
def Mu (l:List Dev) (ns:List Nod):Bool:=((ns.length:Int)==(l.length:Int))&&(List.range ns.length).all λ j=>((ns.getD j A7).1==(l.getD j Hn).1)&&L6 (ns.getD j A7)
def Se (w:Wld):Bool:=Hd w.2.1 w.1&&(Mu w.1 w.2.2.1&&(Gg w.2.2.2.1&&(P2a w.2.2.2.1 w.2.2.2.2.1&&Oa w.2.2.2.2.2)))
def WIn (w:Wld):Prop:=RBd w.2.1∧w.1.length≤2000000∧(w.2.2.1.length≤2000000∧∀ n∈w.2.2.1,NIn n)∧(w.2.2.2.2.1.length≤2000000∧∀ x∈w.2.2.2.2.1,Pc x.1)∧(w.2.2.2.2.2.length≤2000000∧∀ s∈w.2.2.2.2.2,Pc s)
def P3a (w:Wld) (hw:WIn w):Tot (λ k=>Bc k w) (λ r=>r=P2a w.2.2.2.1 w.2.2.2.2.1):=by
 obtain⟨_,_,_,⟨h1,h2⟩,_⟩:=hw
 unfold Bc P2a
 refine Xpa (Q:=λ r=>r=bif w.2.2.2.2.1.all (D5a w.2.2.2.1) then .inr w else .inl false) ?_ (by
  rintro r rfl
  cases w.2.2.2.2.1.all (D5a w.2.2.2.1)<;>exact Xoa rfl)
 rw[J1 _ Bha]
 refine Xya (L:=λ k i=>C1 k w.2.2.2.2.1 (w.2.2.2.2.1.length:Int) i w) _ _ w ?_ ?_
 ·simp (disch:=omega) only [C1,dF]
  exact Xoa rfl
 ·intro j hj Q no yes
  have hs:=h2 _ (A3 (d:=Bha) hj)
  obtain⟨x,ex⟩:∃ x:Wri,w.2.2.2.2.1.getD j Bha=x:=⟨_,rfl⟩
  rw[ex]at hs
  simp only[ex]at no yes
  have e0:w.2.2.2.2.1.getD j ((⟨#[]⟩:ByteArray),((((0:Int),((0:Int),(0:Int))),(false,[])),false))=x:=ex
  simp (disch:=omega) only [C1,dT,Vl,w64,e0,F2a,Qh,Vt]
  unfold D5a at no yes
  refine Y0a (Qj x.1 hs) ?_
  refine Xua (λ hc=>Xoa (no ?_)) (λ h3=>Xua (λ hc=>Xoa (no ?_)) (λ h4=>Xua (λ hc=>Xoa (no ?_)) (λ h5=>yes ?_)))
  ·rw[Vu]at hc;rw[hc];rfl
  ·rw[Vu]at hc;rw[hc,Ys,Yh]
  ·rw[hc,Zb,Yh,Yh]
  ·rw[Wm]at h3 h4;rw[h3,h4,h5];rfl
def B1a (w:Wld) (hw:WIn w):Tot (λ k=>B2 k w.2.2.2.2.2 (w.2.2.2.2.2.length:Int) 0 w) (λ r=>r=bif Oa w.2.2.2.2.2 then .inr () else .inl false):=by
 obtain⟨_,_,_,_,h1,h2⟩:=hw
 unfold Oa
 refine Xya (L:=λ k i=>B2 k w.2.2.2.2.2 (w.2.2.2.2.2.length:Int) i w) _ _ () ?_ ?_
 ·simp (disch:=omega) only [B2,dF]
  exact Xoa rfl
 ·intro j hj Q no yes
  have hs:=h2 _ (A3 (d:=Jk) hj)
  have e0:∀ i,w.2.2.2.2.2.getD i (⟨#[]⟩:ByteArray)=w.2.2.2.2.2.getD i Jk:=λ _=>rfl
  simp (disch:=omega) only [B2,dT,Vl,w64,e0]
  refine Y0a (Qj _ hs) ?_
  refine Xua (λ hc=>Xoa (no ?_)) (λ h3=>Xva (λ h0=>?_) (λ h0=>yes ?_))
  ·rw[Vu]at hc;rw[hc];rfl
  ·simp (disch:=omega) only [dT,w64,show toNat ((j:Int)-1)=j-1 by omega]
   rw[Wm]at h3
   rw[h3,decide_eq_false (show ¬ j=0 by omega),Y5a,Wd]at no yes
   refine Xua (λ hc=>Xoa (no ?_)) (λ h4=>yes ?_)
   ·rw[Vu]at hc;exact hc
   ·rw[Wm]at h4;exact h4
  ·rw[Wm]at h3
   rw[h3,decide_eq_true (show j=0 by omega)]
   rfl
def D6a (w:Wld) (hw:WIn w) (hl:w.2.2.1.length=w.1.length):Tot (λ k=>C2 k w.2.2.1 (w.2.2.1.length:Int) 0 w) (λ r=>r=bif Mu w.1 w.2.2.1 then .inr w else .inl false):=by
 obtain⟨_,_,⟨h1,h2⟩,_⟩:=hw
 unfold Mu
 rw[show ((w.2.2.1.length:Int)==(w.1.length:Int))=true by rw[beq_iff_eq];omega,Wd]
 refine Xya (L:=λ k i=>C2 k w.2.2.1 (w.2.2.1.length:Int) i w) _ _ w ?_ ?_
 ·simp (disch:=omega) only [C2,dF]
  exact Xoa rfl
 ·intro j hj Q no yes
  have hs:=h2 _ (A3 (d:=A7) hj)
  obtain⟨x,ex⟩:∃ x:Nod,w.2.2.1.getD j A7=x:=⟨_,rfl⟩
  rw[ex]at hs no yes
  have e0:w.2.2.1.getD j ((0:Int),(([],[]),([],[])))=x:=ex
  have e1:w.1.getD j ((0:Int),((0:Int),(0:Int)))=w.1.getD j Hn:=rfl
  simp (disch:=omega) only [C2,dT,Vl,w64,e0,e1]
  refine Xua (λ hc=>Xoa (no ?_)) (λ h3=>Xpa (F5a x hs) ?_)
  ·rw[bne,Vu]at hc;rw[hc];rfl
  ·rw[bne,Wm]at h3
   rw[h3,Wd]at no yes
   rintro b rfl
   refine Xua (λ hc=>Xoa (no ?_)) (λ h4=>yes ?_)
   ·rw[Vu]at hc;exact hc
   ·rw[Wm]at h4;exact h4
def Sf (w:Wld) (hw:WIn w):Tot (λ k=>Au k w) (λ r=>r=Se w):=by
 unfold Au Se
 refine Y0a (Ona w.2.1 w.1 hw.1 (by have:=hw.2.1;omega)) ?_
 cases hr:Hd w.2.1 w.1
 ·exact Xra rfl (Xoa rfl)
 refine Xqa rfl ?_
 rw[Wd]
 by_cases hl:w.2.2.1.length=w.1.length
 ·refine Xqa (by rw[bne,hl,beq_self_eq_true];rfl) ?_
  simp only[Rp,Vt]
  cases hs:Gg w.2.2.2.1
  ·exact Xra rfl (Xoa (by rw[Ys,Yh]))
  refine Xqa rfl (Y0a (P3a w hw) ?_)
  cases hws:P2a w.2.2.2.1 w.2.2.2.2.1
  ·exact Xra rfl (Xoa (by rw[Ys,Yh,Yh]))
  refine Xqa rfl (Y0a (D6a w hw hl) ?_)
  cases Mu w.1 w.2.2.1
  ·exact Xoa rfl
  refine Y0a (B1a w hw) ?_
  cases Oa w.2.2.2.2.2<;>exact Xoa rfl
 ·have hn:((w.2.2.1.length:Int)==(w.1.length:Int))=false:=by rw[beq_eq_false_iff_ne];omega
  refine Xra (by rw[bne,hn];rfl) (Xoa ?_)
  unfold Mu
  rw[hn]
  rfl

def atN:List Nod→Int→Nat→List Int
 |[],_,_=>[]
 |n::ns,id,i=>bif n.1==id then (i:Int)::atN ns id (i+1) else atN ns id (i+1)
def Fka (n:Nod) (ns:List Nod) (id:Int) (i:Nat):atN (n::ns) id i=bif n.1==id then (i:Int)::atN ns id (i+1) else atN ns id (i+1):=rfl
def whr (ns:List Nod) (ids:List Int):List Int:=ids.flatMap λ id=>atN ns id 0
def D7a (id:Int):∀ (ns:List Nod) (i:Nat),(atN ns id i).length≤ns.length
 |[],_=>Vv _
 |n::ns,i=>by
  unfold atN
  have:=D7a id ns (i+1)
  cases n.1==id
  ·rw[cond_false,Vh];omega
  ·rw[cond_true,Vh,Vh];omega
def Lia (ns:List Nod):∀ (ids:List Int),(whr ns ids).length≤ids.length*ns.length
 |[]=>Vw _
 |id::ids=>by
  have h1:=D7a id ns 0
  have h2:=Lia ns ids
  unfold whr at h2 ⊢
  rw[Zoa,Vi,Vh,Nat.succ_mul]
  omega
def Fla {ns:List Nod} {ids:List Int} (h1:ns.length≤2000000) (h2:ids.length≤2000000):(whr ns ids).length≤4000000000000:=
 Zu (Lia ns ids) (Nat.mul_le_mul h2 h1)
def Fma (ns:List Nod) (id:Int) (ids:List Int):whr ns (id::ids)=atN ns id 0++whr ns ids:=Zoa
def T8 (w:Wld) (id:Int) (a b c:List Int) (m i0:Int) (out:List Int) (h1:w.2.2.1.length≤2000000) (ho:out.length≤4000000000000):
  Tot (λ k=>Bi k out id a m i0 w.2.2.1 (w.2.2.1.length:Int) 0 w) (λ r=>r=(out++atN w.2.2.1 id 0,a,m,i0,w)):=by
 have m1:=D7a id w.2.2.1 0
 refine Xxa (L:=λ k i (s:List Int)=>Bi k s id a m i0 w.2.2.1 (w.2.2.1.length:Int) i w) (Q:=λ r=>r=(out++atN w.2.2.1 id 0,a,m,i0,w)) w.2.2.1.length (λ j s=>s++atN (w.2.2.1.drop j) id j=out++atN w.2.2.1 id 0) ?_ ?_ 0 out (Vw _) rfl
 ·intro s h
  rw[Wl]at h
  simp (disch:=omega) only [Bi,dF]
  refine Xoa ?_
  rw[← h]
  show _=(s++[],a,m,i0,w)
  rw[Ym]
 ·intro j s hj h next
  have g:=congrArg length h
  rw[Vi,Vi]at g
  rw[B8 (d:=A7) hj,Fka]at h
  obtain⟨x,ex⟩:∃ x:Nod,w.2.2.1.getD j A7=x:=⟨_,rfl⟩
  rw[ex]at h
  have e0:w.2.2.1.getD j ((0:Int),(([],[]),([],[])))=x:=ex
  simp (disch:=omega) only [Bi,dT,Vl,w64,e0]
  cases hx:x.1==id with
  |true=>
   rw[hx,cond_true]at h
   refine Xra rfl (Xwa (by simp only[Vh,Vq];omega) (next (s++[(j:Int)]) ?_))
   rw[← h,Vo]
   rfl
  |false=>
   rw[hx,cond_false]at h
   refine Xqa rfl (next s h)
def D8a (w:Wld) (ids:List Int) (h1:w.2.2.1.length≤2000000) (h2:ids.length≤2000000):Tot (λ k=>Dw k w ids) (λ r=>r=whr w.2.2.1 ids):=by
 have m1:=Fla h1 h2
 unfold Dw
 refine Xpa (Q:=λ r=>r=whr w.2.2.1 ids) ?_ (by rintro r rfl;exact Xoa rfl)
 refine Xxa (L:=λ k i (s:List Int)=>Cm k s ids (ids.length:Int) i w) (Q:=λ r=>r=whr w.2.2.1 ids) ids.length (λ j s=>s++whr w.2.2.1 (ids.drop j)=whr w.2.2.1 ids) ?_ ?_ 0 [] (Vw _) rfl
 ·intro s h
  rw[Wl]at h
  simp (disch:=omega) only [Cm,dF]
  refine Xoa ?_
  rw[← h]
  exact(Ym s).symm
 ·intro j s hj h next
  have g:=congrArg length h
  rw[Vi]at g
  rw[B8 (d:=0) hj,Fma]at h
  simp (disch:=omega) only [Cm,dT,Vl,w64]
  refine Y0a (T8 w (ids.getD j 0) ids [] [] (ids.length:Int) (j:Int) s h1 (by omega)) ?_
  simp (disch:=omega) only [w64]
  exact next _ (by rw[Vo];exact h)
def X5 (id:Int):∀ (ns:List Nod) (i:Nat) (x:Int),x∈atN ns id i↔∃ j,j<ns.length∧(ns.getD j A7).1=id∧x=((i+j:Nat):Int)
 |[],i,x=>by simp[atN]
 |n::ns,i,x=>by
  have ih:=X5 id ns (i+1) x
  have tl:(∃ j,j<(n::ns).length∧((n::ns).getD j A7).1=id∧x=((i+j:Nat):Int))↔(n.1=id∧x=(i:Int))∨x∈atN ns id (i+1):=by
   rw[ih]
   constructor
   ·rintro⟨j,h1,h2,h3⟩
    cases j with
    |zero=>exact .inl ⟨h2,by omega⟩
    |succ j=>exact .inr ⟨j,by simpa using h1,by simpa using h2,by omega⟩
   ·rintro (⟨h1,h2⟩|⟨j,h1,h2,h3⟩)
    ·exact⟨0,by simp,h1,by omega⟩
    ·exact⟨j+1,by simpa using h1,by simpa using h2,by omega⟩
  rw[tl,Fka]
  cases hx:n.1==id with
  |true=>
   rw[cond_true,Vk,eq_of_beq hx]
   simp
  |false=>
   rw[cond_false]
   have:=beq_eq_false_iff_ne.1 hx
   simp[this]
def Pk {ns:List Nod} {ids:List Int} {x:Int}:x∈whr ns ids↔∃ j,j<ns.length∧(ns.getD j A7).1∈ids∧x=(j:Int):=by
 unfold whr
 rw[List.mem_flatMap]
 constructor
 ·rintro⟨id,h1,h2⟩
  obtain⟨j,h3,h4,h5⟩:=(X5 _ _ _ _).1 h2
  exact⟨j,h3,h4 ▸ h1,by omega⟩
 ·rintro⟨j,h3,h4,h5⟩
  exact⟨_,h4,(X5 _ _ _ _).2 ⟨j,h3,rfl,by omega⟩⟩
def X6 (w:Wld) (x:ByteArray):List Int:=whr w.2.2.1 (Pj w.2.1 x++P1a w.2.1 w.1 x)
def J4:ByteArray:=⟨#[108,105,115,116]⟩
def Em (w:Wld):List Int:=whr w.2.2.1 (Pj w.2.1 J4)
def Fna {r:Rng} (hr:RBd r) (x:ByteArray):(Pj r x).length≤2000000:=by
 unfold Pj
 by_cases hm:Oya x % r.2.length<r.2.length
 ·exact hr.2 _ (A3 (d:=[]) hm)
 ·rw[Vb,Ze (by omega)];exact Vw _
def D9a (w:Wld) (hr:RBd w.2.1) (hn:w.2.2.1.length≤2000000):Tot (λ k=>Ff k w) (λ r=>r=Em w):=by
 unfold Ff
 refine Y0a (Fja _ J4 hr (by decide)) ?_
 refine Y0a (D8a w _ hn (Fna hr _)) ?_
 exact Xoa rfl
def quo (n:Int):Int:=n/2+1
def rch (l:List Int) (i:Nat):Int:=bif decide (i<l.length)&&inR (l.getD i 0) 1 3 then l.getD i 0 else 0

def Sg (a b:Fil):Bool:=((a.1.1==b.1.1)&&((a.1.2.1==b.1.2.1)&&(a.1.2.2==b.1.2.2)))&&((a.2.1==b.2.1)&&((Hg a.2.2).toList==(Hg b.2.2).toList))
def B2a (a b:Fil):Cf a b=some (Sg a b):=by
 unfold Cf Sg
 cases (a.1.1==b.1.1)&&((a.1.2.1==b.1.2.1)&&(a.1.2.2==b.1.2.2))<;>cases a.2.1==b.2.1<;>rfl
def Sh {a b:Fil} (ha:Al a.2.2) (hb:Al b.2.2):Sg a b=true↔a=b:=by
 unfold Sg
 rw[Aja ha hb]
 obtain⟨⟨a1,a2,a3⟩,a4,a5⟩:=a
 obtain⟨⟨b1,b2,b3⟩,b4,b5⟩:=b
 simp only[Va,beq_iff_eq,decide_eq_true_iff,Vy]
def Lja (ws:List Wri) (s:ByteArray) (f:Fil):Bool:=ws.any λ x=>teq x.1 s&&Sg x.2.1 f
def Lka (w:Wld) (s:ByteArray) (f:Fil) (h:w.2.2.2.2.1.length≤2000000):Tot (λ k=>Ay k w s f) (λ r=>r=Lja w.2.2.2.2.1 s f):=by
 unfold Ay Lja
 refine Xpa (Q:=λ r=>r=bif w.2.2.2.2.1.any (λ x=>teq x.1 s&&Sg x.2.1 f) then .inl true else .inr ()) ?_ (by
  rintro r rfl
  cases w.2.2.2.2.1.any (λ x=>teq x.1 s&&Sg x.2.1 f)<;>exact Xoa rfl)
 rw[Sd _ Bha]
 refine Xza (L:=λ k i=>B4 k s w.2.2.2.2.1 (w.2.2.2.2.1.length:Int) i f) _ _ () ?_ ?_
 ·simp (disch:=omega) only [B4,dF]
  exact Xoa rfl
 ·intro j hj Q yes no
  obtain⟨x,ex⟩:∃ x:Wri,w.2.2.2.2.1.getD j Bha=x:=⟨_,rfl⟩
  simp only[ex]at no yes
  have e0:w.2.2.2.2.1.getD j ((⟨#[]⟩:ByteArray),((((0:Int),((0:Int),(0:Int))),(false,[])),false))=x:=ex
  simp (disch:=omega) only [B4,dT,Vl,w64,e0,B2a,Vt]
  refine Xua (λ h1=>Xua (λ h2=>Xoa (yes ?_)) (λ h2=>no ?_)) (λ h1=>no ?_)
  ·show ((x.1.toList==s.toList)&&Sg x.2.1 f)=true
   rw[h1,h2];rfl
  ·rw[h2,Yh]
  ·show ((x.1.toList==s.toList)&&Sg x.2.1 f)=false
   rw[h1];rfl
def Lla (ws:List Wri) (e:Nmd):Bool:=match Iw e.2 with
 |none=>true
 |some f=>Lja ws e.1 f
def Mi (w:Wld):Bool:=(List.range w.2.2.1.length).all λ j=>(w.2.2.1.getD j A7).2.1.1.all (Lla w.2.2.2.2.1)&&(w.2.2.1.getD j A7).2.1.2.all (Lla w.2.2.2.2.1)
def Daa (w:Wld) (hw:WIn w):Tot (λ k=>Ba k w) (λ r=>r=Mi w):=by
 obtain⟨_,_,⟨h1,h2⟩,⟨h3,_⟩,_⟩:=hw
 unfold Ba Mi
 refine Xpa (Q:=λ r=>r=bif (List.range w.2.2.1.length).all (λ j=>(w.2.2.1.getD j A7).2.1.1.all (Lla w.2.2.2.2.1)&&(w.2.2.1.getD j A7).2.1.2.all (Lla w.2.2.2.2.1)) then .inr () else .inl false) ?_ (by
  rintro r rfl
  cases (List.range w.2.2.1.length).all (λ j=>(w.2.2.1.getD j A7).2.1.1.all (Lla w.2.2.2.2.1)&&(w.2.2.1.getD j A7).2.1.2.all (Lla w.2.2.2.2.1))<;>exact Xoa rfl)
 refine Xya (L:=λ k i=>Ck k w.2.2.1 (w.2.2.1.length:Int) i w) _ _ () ?_ ?_
 ·simp (disch:=omega) only [Ck,dF]
  exact Xoa rfl
 ·intro j hj Q no yes
  have hm:=h2 _ (A3 (d:=A7) hj)
  obtain⟨x,ex⟩:∃ x:Nod,w.2.2.1.getD j A7=x:=⟨_,rfl⟩
  rw[ex]at hm no yes
  have e0:w.2.2.1.getD j ((0:Int),(([],[]),([],[])))=x:=ex
  obtain⟨⟨⟨⟨f1,f2⟩,_⟩,l1,l2⟩,b1,b2⟩:=hm.1
  have n0:([]:List (ByteArray×(List Int))).length=0:=rfl
  simp (disch:=omega) only [Ck,dT,Vl,w64,e0,Wn]
  refine Xwa (by rw[n0];omega) (Xwa (by omega) ?_)
  rw[← Asb]at no yes
  have hf:Sha (x.2.1.1++x.2.1.2):=⟨by rw[Vi];omega,λ y hy=>(Vm.1 hy).elim (f1.2 y) (f2.2 y)⟩
  have hb:LB (x.2.1.1++x.2.1.2):=λ y hy=>(Vm.1 hy).elim (b1 y) (b2 y)
  have hl:(x.2.1.1++x.2.1.2).length≤4000000:=by rw[Vi];omega
  generalize x.2.1.1++x.2.1.2=l at *
  refine Xpa (Q:=λ r=>r=bif l.all (Lla w.2.2.2.2.1) then .inr (w.2.2.1,(w.2.2.1.length:Int),(j:Int),w) else .inl false) ?_ ?_
  ·rw[J1 _ Jd]
   refine Xya (L:=λ k i=>C3 k w.2.2.1 (w.2.2.1.length:Int) (j:Int) l (l.length:Int) i w) _ _ (w.2.2.1,(w.2.2.1.length:Int),(j:Int),w) ?_ ?_
   ·simp (disch:=omega) only [C3,dF]
    exact Xoa rfl
   ·intro j hj Q no yes
    have hm:=A3 (d:=Jd) hj
    obtain⟨x,ex⟩:∃ x:Nmd,l.getD j Jd=x:=⟨_,rfl⟩
    rw[ex]at hm
    simp only[ex]at no yes
    have e0:l.getD j ((⟨#[]⟩:ByteArray),[])=x:=ex
    simp (disch:=omega) only [C3,dT,Vl,w64,e0]
    refine Y0a (Na x.2 (hb x hm) (hf.2 x hm)) ?_
    unfold Lla at no yes
    unfold Aia
    cases hg:Iw x.2 with
    |none=>rw[hg]at yes;exact Xqa rfl (yes rfl)
    |some f=>
     rw[hg]at yes no
     refine Xra rfl (Y0a (Lka w x.1 f h3) ?_)
     exact Y1a (λ hc=>Xoa (no hc)) yes
  ·rintro r rfl
   cases hc:l.all (Lla w.2.2.2.2.1)
   ·exact Xoa (no hc)
   simp (disch:=omega) only [cond_true,Yya,w64]
   exact yes hc

def P4a (a b:Row):Bool:=(a.1==b.1)&&((a.2.1.1==b.2.1.1)&&((a.2.1.2.1==b.2.1.2.1)&&((a.2.1.2.2==b.2.1.2.2)&&((a.2.2.1==b.2.2.1)&&(a.2.2.2==b.2.2.2)))))
def B3a {a b:Row}:P4a a b=true↔a=b:=by
 unfold P4a
 obtain⟨a0,⟨a1,a2,a3⟩,a4,a5⟩:=a
 obtain⟨b0,⟨b1,b2,b3⟩,b4,b5⟩:=b
 simp only[Qi,Va,beq_iff_eq,Vy,B9]
 constructor
 ·rintro⟨h0,h1,h2,h3,h4,h5⟩;exact⟨h0,⟨h1,h2,h3⟩,h4,h5⟩
 ·rintro⟨h0,⟨h1,h2,h3⟩,h4,h5⟩;exact⟨h0,h1,h2,h3,h4,h5⟩
def Im (ws:List Wri) (r:Row):Bool:=ws.any λ x=>P4a (T3 x.1 x.2.1) r
def Pl (w:Wld):Bool:=(List.range w.2.2.1.length).all λ j=>(w.2.2.1.getD j A7).2.2.1.all (Im w.2.2.2.2.1)&&(w.2.2.1.getD j A7).2.2.2.all (Im w.2.2.2.2.1)
def Mfa:Row:=((⟨#[]⟩:ByteArray),(((0:Int),((0:Int),(0:Int))),(false,(0:Int))))
def X7 (w:Wld) (ns:List Nod) (n m:Int) (l:List Row) (len i:Int) (r0:Row) (h:w.2.2.2.2.1.length≤2000000):Tot (λ k=>Bo k false ns n m l len i w.2.2.2.2.1 (w.2.2.2.2.1.length:Int) 0 w r0) (λ r=>r=(Im w.2.2.2.2.1 r0,ns,n,m,l,len,i,w)):=by
 refine Xxa (L:=λ k i' (s:Bool)=>Bo k s ns n m l len i w.2.2.2.2.1 (w.2.2.2.2.1.length:Int) i' w r0) (Q:=λ r=>r=(Im w.2.2.2.2.1 r0,ns,n,m,l,len,i,w)) w.2.2.2.2.1.length (λ j s=>(s||(w.2.2.2.2.1.drop j).any λ x=>P4a (T3 x.1 x.2.1) r0)=Im w.2.2.2.2.1 r0) ?_ ?_ 0 false (Vw _) (Y5a _)
 ·intro s hs
  rw[Wl,Aub,Yla]at hs
  simp (disch:=omega) only [Bo,dF]
  exact Xoa (by rw[hs])
 ·intro j s hj hs next
  cases s with
  |true=>
   rw[Zsa]at hs
   simp (disch:=omega) only [Bo,dT,w64,cond_true]
   exact next true (by rw[Zsa];exact hs)
  |false=>
   rw[B8 (d:=Bha) hj,Z1a,Y5a]at hs
   obtain⟨x,ex⟩:∃ x:Wri,w.2.2.2.2.1.getD j Bha=x:=⟨_,rfl⟩
   rw[ex]at hs
   have e0:w.2.2.2.2.1.getD j ((⟨#[]⟩:ByteArray),((((0:Int),((0:Int),(0:Int))),(false,[])),false))=x:=ex
   simp (disch:=omega) only [Bo,dT,Vl,w64,e0,cond_false,Gu,Vt]
   exact next _ hs
def Hba (w:Wld) (hw:WIn w):Tot (λ k=>Bh k w) (λ r=>r=Pl w):=by
 obtain⟨_,_,⟨h1,h2⟩,⟨h3,_⟩,_⟩:=hw
 unfold Bh Pl
 refine Xpa (Q:=λ r=>r=bif (List.range w.2.2.1.length).all (λ j=>(w.2.2.1.getD j A7).2.2.1.all (Im w.2.2.2.2.1)&&(w.2.2.1.getD j A7).2.2.2.all (Im w.2.2.2.2.1)) then .inr () else .inl false) ?_ (by
  rintro r rfl
  cases (List.range w.2.2.1.length).all (λ j=>(w.2.2.1.getD j A7).2.2.1.all (Im w.2.2.2.2.1)&&(w.2.2.1.getD j A7).2.2.2.all (Im w.2.2.2.2.1))<;>exact Xoa rfl)
 refine Xya (L:=λ k i=>Dj k w.2.2.1 (w.2.2.1.length:Int) i w) _ _ () ?_ ?_
 ·simp (disch:=omega) only [Dj,dF]
  exact Xoa rfl
 ·intro j hj Q no yes
  have hm:=h2 _ (A3 (d:=A7) hj)
  obtain⟨x,ex⟩:∃ x:Nod,w.2.2.1.getD j A7=x:=⟨_,rfl⟩
  rw[ex]at hm no yes
  have e0:w.2.2.1.getD j ((0:Int),(([],[]),([],[])))=x:=ex
  obtain⟨_,f1,f2⟩:=hm
  have g1:=f1.1
  have g2:=f2.1
  have ec:Ef x.2.2.1=some x.2.2.1:=by
   unfold Ef
   rw[bT (by simp only[Vq];omega),Wn]
  simp (disch:=omega) only [Dj,dT,Vl,w64,e0,ec,Vt]
  refine Xwa (by omega) ?_
  rw[← Asb]at no yes
  have hl:(x.2.2.1++x.2.2.2).length≤4000000:=by rw[Vi];omega
  generalize x.2.2.1++x.2.2.2=l at *
  refine Xpa (Q:=λ r=>r=bif l.all (Im w.2.2.2.2.1) then .inr (w.2.2.1,(w.2.2.1.length:Int),(j:Int),w) else .inl false) ?_ ?_
  ·rw[J1 _ Mfa]
   refine Xya (L:=λ k i=>Di k w.2.2.1 (w.2.2.1.length:Int) (j:Int) l (l.length:Int) i w) _ _ (w.2.2.1,(w.2.2.1.length:Int),(j:Int),w) ?_ ?_
   ·simp (disch:=omega) only [Di,dF]
    exact Xoa rfl
   ·intro i hi Q no yes
    have e1:l.getD i ((⟨#[]⟩:ByteArray),(((0:Int),((0:Int),(0:Int))),(false,(0:Int))))=l.getD i Mfa:=rfl
    simp (disch:=omega) only [Di,dT,Vl,e1]
    refine Y0a (X7 w _ _ _ l _ _ (l.getD i Mfa) h3) ?_
    simp (disch:=omega) only [w64]
    exact Y1a (λ hc=>Xoa (no hc)) yes
  ·rintro r rfl
   cases hc:l.all (Im w.2.2.2.2.1)
   ·exact Xoa (no hc)
   simp (disch:=omega) only [cond_true,Yya,w64]
   exact yes hc
def Dba (s:ByteArray) (st:Stp) (n:Nod):Bool:=match gt n.2.1.2 s with
 |none=>false
 |some b=>match Iw b with
  |none=>false
  |some f => !(sle f.1 st)
def Lma (w:Wld) (x:Wri):Bool := !x.2.2||(H8a w.2.2.2.2.2 x.1||w.2.2.1.any (Dba x.1 x.2.1.1))
def Hca (w:Wld):Bool:=w.2.2.2.2.1.all (Lma w)
def Sya (l:List Nmd) (s:ByteArray):(Sia l s<0∧gt l s=none)∨∃ i:Nat,Sia l s=(i:Int)∧i<l.length∧gt l s=some (l.getD i Jd).2:=by
 unfold Sia gt
 cases h:fnd l s with
 |none=>exact .inl ⟨by decide,rfl⟩
 |some i=>
  obtain⟨hi,_⟩:=Yka.1 h
  exact .inr ⟨i,rfl,hi,rfl⟩
def Lna (w:Wld) (hw:WIn w) (s:ByteArray) (st:Stp):Tot (λ k=>Er k w s st) (λ r=>r=w.2.2.1.any (Dba s st)):=by
 obtain⟨_,_,⟨h1,h2⟩,⟨h3,_⟩,_⟩:=hw
 unfold Er
 refine Xpa (Q:=λ r=>r=bif w.2.2.1.any (Dba s st) then .inl true else .inr ()) ?_ (by
  rintro r rfl
  cases w.2.2.1.any (Dba s st)<;>exact Xoa rfl)
 rw[Sd _ A7]
 refine Xza (L:=λ k i=>Cu k s w.2.2.1 (w.2.2.1.length:Int) i st) _ _ () ?_ ?_
 ·simp (disch:=omega) only [Cu,dF]
  exact Xoa rfl
 ·intro j hj Q yes no
  have hm:=h2 _ (A3 (d:=A7) hj)
  obtain⟨x,ex⟩:∃ x:Nod,w.2.2.1.getD j A7=x:=⟨_,rfl⟩
  rw[ex]at hm no yes
  have e0:w.2.2.1.getD j ((0:Int),(([],[]),([],[])))=x:=ex
  obtain⟨⟨⟨⟨f1,f2⟩,_⟩,l1,l2⟩,b1,b2⟩:=hm.1
  simp (disch:=omega) only [Cu,dT,Vl,w64,e0]
  unfold Dba at yes no
  refine Y0a (Qca x.2.1.2 s f2.1) ?_
  rcases Sya x.2.1.2 s with⟨hn,hg⟩|⟨i,e,hi,hg⟩
  ·rw[hg]at no
   exact Xsa hn (no rfl)
  ·rw[e]
   have hm:=A3 (d:=Jd) hi
   obtain⟨y,ey⟩:∃ y:Nmd,x.2.1.2.getD i Jd=y:=⟨_,rfl⟩
   rw[ey]at hm hg
   rw[hg]at no yes
   have e2:x.2.1.2.getD i ((⟨#[]⟩:ByteArray),[])=y:=ey
   refine Xta (by omega) ?_
   simp (disch:=omega) only [dT,Vl,e2]
   refine Y0a (Na y.2 (b2 y hm) (f2.2 y hm)) ?_
   unfold Aia
   cases hy:Iw y.2 with
   |none=>simp only[hy]at no;exact Xqa rfl (no trivial)
   |some f=>
    simp only[hy]at no yes
    simp only[Qh,Vt]
    exact Xra rfl (Xua (λ hc=>Xoa (yes hc)) (λ hc=>no hc))
def P5a (l:List ByteArray) (s:ByteArray) (hl:l.length≤1000000000):Tot (λ k=>Et k l s) (λ r=>r=H8a l s):=by
 unfold Et H8a
 refine Xpa (Q:=λ r=>r=bif l.any (λ y=>teq y s) then .inl true else .inr ()) ?_ (by
  rintro r rfl
  cases l.any (λ y=>teq y s)<;>exact Xoa rfl)
 rw[Sd _ Jk]
 refine Xza (L:=λ k i=>Cl k s l (l.length:Int) i) _ _ () ?_ ?_
 ·simp (disch:=omega) only [Cl,dF]
  exact Xoa rfl
 ·intro j hj Q yes no
  have e0:l.getD j (⟨#[]⟩:ByteArray)=l.getD j Jk:=rfl
  simp (disch:=omega) only [Cl,dT,Vl,w64,e0]
  exact Xua (λ hc=>Xoa (yes hc)) (λ hc=>no hc)
def P6a (w:Wld) (hw:WIn w):Tot (λ k=>Fo k w) (λ r=>r=Hca w):=by
 have hw':=hw
 obtain⟨_,_,⟨h1,h2⟩,⟨h3,_⟩,h5,_⟩:=hw'
 unfold Fo Hca
 refine Xpa (Q:=λ r=>r=bif w.2.2.2.2.1.all (Lma w) then .inr () else .inl false) ?_ (by
  rintro r rfl
  cases w.2.2.2.2.1.all (Lma w)<;>exact Xoa rfl)
 rw[J1 _ Bha]
 refine Xya (L:=λ k i=>Dv k w.2.2.2.2.1 (w.2.2.2.2.1.length:Int) i w) _ _ () ?_ ?_
 ·simp (disch:=omega) only [Dv,dF]
  exact Xoa rfl
 ·intro j hj Q no yes
  obtain⟨x,ex⟩:∃ x:Wri,w.2.2.2.2.1.getD j Bha=x:=⟨_,rfl⟩
  rw[ex]at no yes
  have e0:w.2.2.2.2.1.getD j ((⟨#[]⟩:ByteArray),((((0:Int),((0:Int),(0:Int))),(false,[])),false))=x:=ex
  simp (disch:=omega) only [Dv,dT,Vl,w64,e0]
  unfold Lma at no yes
  refine Xua (λ hk=>?_) (λ hk=>yes (by rw[hk];rfl))
  rw[hk,Zb,Y5a]at no yes
  refine Y0a (P5a _ x.1 (by omega)) ?_
  refine Xua (λ hh=>?_) (λ hh=>yes (by rw[Wm]at hh;rw[hh,Zsa]))
  rw[Vu]at hh
  rw[hh,Y5a]at no yes
  refine Y0a (Lna w hw x.1 x.2.1.1) ?_
  refine Xua (λ hc=>Xoa (no ?_)) (λ hc=>yes ?_)
  ·rw[Vu]at hc;exact hc
  ·rw[Wm]at hc;exact hc
def Mj (w:Wld):Bool:=(List.range w.2.2.2.2.1.length).all λ j => !(sle w.2.2.2.1 (w.2.2.2.2.1.getD j Bha).2.1.1)&&(decide (j=0)||sle (w.2.2.2.2.1.getD (j-1) Bha).2.1.1 (w.2.2.2.2.1.getD j Bha).2.1.1)
def Dca (w:Wld) (hw:WIn w):Tot (λ k=>Cb k w) (λ r=>r=Mj w):=by
 obtain⟨_,_,_,⟨h3,_⟩,h5,_⟩:=hw
 unfold Cb Mj
 generalize hP:(λ j => !(sle w.2.2.2.1 (w.2.2.2.2.1.getD j Bha).2.1.1)&&(decide (j=0)||sle (w.2.2.2.2.1.getD (j-1) Bha).2.1.1 (w.2.2.2.2.1.getD j Bha).2.1.1))=P
 refine Xpa (Q:=λ r=>r=bif (List.range w.2.2.2.2.1.length).all P then .inr () else .inl false) ?_ (by
  rintro r rfl
  cases (List.range w.2.2.2.2.1.length).all P<;>exact Xoa rfl)
 refine Xya (L:=λ k i=>C4 k w.2.2.2.2.1 (w.2.2.2.2.1.length:Int) i w) _ _ () ?_ ?_
 ·simp (disch:=omega) only [C4,dF]
  exact Xoa rfl
 ·intro j hj Q no yes
  subst hP
  dsimp only at no yes
  have e0:∀ i,w.2.2.2.2.1.getD i ((⟨#[]⟩:ByteArray),((((0:Int),((0:Int),(0:Int))),(false,[])),false))=w.2.2.2.2.1.getD i Bha:=λ _=>rfl
  simp (disch:=omega) only [C4,dT,Vl,w64,e0,Qh,Vt]
  refine Xua (λ hc=>Xoa (no (by rw[hc];rfl))) (λ hc=>?_)
  rw[hc,Zk,Wd]at no yes
  refine Xva (λ h0=>?_) (λ h0=>yes (by rw[decide_eq_true (show j=0 by omega)];rfl))
  simp (disch:=omega) only [dT,w64,show toNat ((j:Int)-1)=j-1 by omega]
  rw[decide_eq_false (show ¬ j=0 by omega),Y5a]at no yes
  refine Xua (λ hc=>Xoa (no ?_)) (λ hc=>yes ?_)
  ·rw[Vu]at hc;exact hc
  ·rw[Wm]at hc;exact hc
def P7a (w:Wld):Int:=bif Se w then (bif Mi w then (bif Pl w then (bif Hca w then (bif Mj w then 0 else 5) else 4) else 3) else 2) else 1
def P8a (w:Wld) (hw:WIn w):Tot (λ k=>Gy k w) (λ r=>r=P7a w):=by
 unfold Gy P7a
 refine Y0a (Sf w hw) ?_
 cases Se w
 ·exact Xra rfl (Xoa rfl)
 refine Xqa rfl (Y0a (Daa w hw) ?_)
 cases Mi w
 ·exact Xra rfl (Xoa rfl)
 refine Xqa rfl (Y0a (Hba w hw) ?_)
 cases Pl w
 ·exact Xra rfl (Xoa rfl)
 refine Xqa rfl (Y0a (P6a w hw) ?_)
 cases Hca w
 ·exact Xra rfl (Xoa rfl)
 refine Xqa rfl (Y0a (Dca w hw) ?_)
 cases Mj w with
 |false=>exact Xra rfl (Xoa rfl)
 |true=>exact Xqa rfl (Xoa rfl)

end Go.Proofs.Ytiiekghlhfbmmaa.Vf
