import Derived.Test.YtiiekghlhfbmmaaGreatMan
set_option linter.all false
namespace Go.Proofs.YtiiekghlhfbmmaaGreat.Vf
open Go
open List (length getD)
open Int (toNat)
open Go.IntKind (wrap)
open BitVec (ofInt)
def Zx:=@List.mem_range
def Gjb:=@List.pairwise_singleton
def Hmb:=@List.drop_append_of_le_length
def Hnb:=@List.take_append_of_le_length
def Hob:=@List.getElem_map
def Icb:=@Bool.or_false

section
variable {R:Type} {L:Nat→Int→Option (Sum Bool R)}
def Rz (p:Nat→Bool) (n:Nat):(List.range (n+1)).all p=((List.range n).all p&&p n):=by
 rw[Hxb,List.all_append,Fsb,List.all_nil,Fwb]
def B6a (p:Nat→Bool) (n:Nat):(List.range (n+1)).any p=((List.range n).any p||p n):=by
 rw[Hxb,List.any_append,H2b,List.any_nil,Icb]
def B7a {p:Nat→Bool} {m n:Nat} (h:m≤n) (hn:(List.range n).all p=true):(List.range m).all p=true:=by
 rw[Ys]at hn ⊢
 exact λ x hx=>hn x (Zx.2 (by have:=Zx.1 hx;omega))
def Fnb (n:Nat) (p:Nat→Bool) (e:R) (hend:Tot (λ k=>L (k+1) (n:Int)) (λ r=>r = .inr e))
  (Jsa:∀ j,j<n→∀ (Q:Sum Bool R→Prop),(p j=false→Q (.inl false))→(p j=true→Tot (λ k=>L k ((j:Int)+1)) Q)→Tot (λ k=>L (k+1) (j:Int)) Q):
  Tot (λ k=>L k 0) (λ r=>r=bif (List.range n).all p then .inr e else .inl false):=by
 refine Fmb (L:=λ k i (_:Unit)=>L k i) (Q:=λ r=>r=bif (List.range n).all p then .inr e else .inl false) n (λ j _=>(List.range j).all p=true) ?_ ?_ 0 () (Vs _) rfl
 ·intro _ h
  rw[h]
  exact hend
 ·intro j _ hj h next
  refine Jsa j hj _ (λ hp=>?_) (λ hp=>next () (by rw[Rz,h,hp];rfl))
  cases hc:(List.range n).all p
  ·rfl
  have:=B7a (show j+1≤n by omega) hc
  rw[Rz,hp,Yd]at this
  cases this
def Fob (n:Nat) (p:Nat→Bool) (e:R) (hend:Tot (λ k=>L (k+1) (n:Int)) (λ r=>r = .inr e))
  (Jsa:∀ j,j<n→∀ (Q:Sum Bool R→Prop),(p j=true→Q (.inl true))→(p j=false→Tot (λ k=>L k ((j:Int)+1)) Q)→Tot (λ k=>L (k+1) (j:Int)) Q):
  Tot (λ k=>L k 0) (λ r=>r=bif (List.range n).any p then .inl true else .inr e):=by
 refine Fmb (L:=λ k i (_:Unit)=>L k i) (Q:=λ r=>r=bif (List.range n).any p then .inl true else .inr e) n (λ j _=>(List.range j).any p=false) ?_ ?_ 0 () (Vs _) rfl
 ·intro _ h
  rw[h]
  exact hend
 ·intro j _ hj h next
  refine Jsa j hj _ (λ hp=>?_) (λ hp=>next () (by rw[B6a,h,hp];rfl))
  rw[G5b.2 ⟨j,Zx.2 hj,hp⟩]
  rfl
end
def H5a {α:Type} (l:List α) (d:α) (p:α→Bool):l.all p=(List.range l.length).all λ j=>p (l.getD j d):=by
 rw[Hwb,Ys,Ys]
 constructor
 ·intro h j hj
  exact h _ (A4 (Zx.1 hj))
 ·intro h x hx
  obtain⟨j,hj,rfl⟩:=Zl.1 hx
  have:=h j (Zx.2 hj)
  rwa [Vd,Vk hj,Yp]at this
def Sxa {α:Type} (l:List α) (d:α) (p:α→Bool):l.any p=(List.range l.length).any λ j=>p (l.getD j d):=by
 rw[Hwb,G5b,G5b]
 constructor
 ·rintro⟨x,hx,h⟩
  obtain⟨j,hj,rfl⟩:=Zl.1 hx
  exact⟨j,Zx.2 hj,by rwa [Vd,Vk hj,Yp]⟩
 ·rintro⟨j,hj,h⟩
  exact⟨_,A4 (Zx.1 hj),h⟩
abbrev Wri:=ByteArray×Fil×Bool
abbrev Wld:=List Dev×Rng×List Nod×Stp×List Wri×List ByteArray
def Sya:Wri:=((⟨#[]⟩:ByteArray),((((0:Int),((0:Int),(0:Int))),(false,[])),false))
def S4 (l:List ByteArray):Bool:=(List.range l.length).all λ j=>Bc (l.getD j O7)&&(decide (j=0)||tlt (l.getD (j-1) O7) (l.getD j O7))
def E1a (c:Stp) (w:Wri):Bool:=Bc w.1&&(H9 w.2.1&&!(sle c w.2.1.1))
def Wna (c:Stp) (l:List Wri):Bool:=l.all (E1a c)&&decide ((l.length:Int)≤200)
def R3 (l:List Dev) (ns:List Nod):Bool:=((ns.length:Int)==(l.length:Int))&&(List.range ns.length).all λ j=>((ns.getD j Ar).1==(l.getD j Mv).1)&&Lb (ns.getD j Ar)
def Py (w:Wld):Bool:=Ik w.2.1 w.1&&(R3 w.1 w.2.2.1&&(Ga w.2.2.2.1&&(Wna w.2.2.2.1 w.2.2.2.2.1&&S4 w.2.2.2.2.2)))
def WIn (w:Wld):Prop:=RBd w.2.1∧w.1.length≤2000000∧(w.2.2.1.length≤2000000∧∀ n∈w.2.2.1,NIn n)∧(w.2.2.2.2.1.length≤2000000∧∀ x∈w.2.2.2.2.1,Kd x.1)∧(w.2.2.2.2.2.length≤2000000∧∀ s∈w.2.2.2.2.2,Kd s)
def Woa (w:Wld) (hw:WIn w):Tot (λ k=>Df k w) (λ r=>r=Wna w.2.2.2.1 w.2.2.2.2.1):=by
 obtain⟨_,_,_,⟨h1,h2⟩,_⟩:=hw
 unfold Df Wna
 refine Feb (Q:=λ r=>r=bif w.2.2.2.2.1.all (E1a w.2.2.2.1) then .inr w else .inl false) ?_ (by
  rintro r rfl
  cases w.2.2.2.2.1.all (E1a w.2.2.2.1)<;>exact Fdb rfl)
 rw[H5a _ Sya]
 refine Fnb (L:=λ k i=>Eu k w.2.2.2.2.1 (w.2.2.2.2.1.length:Int) i w) _ _ w ?_ ?_
 ·simp (disch:=omega) only [Eu,dF]
  exact Fdb rfl
 ·intro j hj Q no yes
  have hs:=h2 _ (A4 (d:=Sya) hj)
  obtain⟨x,ex⟩:∃ x:Wri,w.2.2.2.2.1.getD j Sya=x:=⟨_,rfl⟩
  rw[ex]at hs
  simp only[ex]at no yes
  have e0:w.2.2.2.2.1.getD j ((⟨#[]⟩:ByteArray),((((0:Int),((0:Int),(0:Int))),(false,[])),false))=x:=ex
  simp (disch:=omega) only [Eu,dT,Vb,w64,e0,Vua,Lia,Vo]
  unfold E1a at no yes
  refine Fpb (Xb x.1 hs) ?_
  refine Fjb (λ hc=>Fdb (no ?_)) (λ h3=>Fjb (λ hc=>Fdb (no ?_)) (λ h4=>Fjb (λ hc=>Fdb (no ?_)) (λ h5=>yes ?_)))
  ·rw[Vv]at hc;rw[hc];rfl
  ·rw[Vv]at hc;rw[hc,Ze,Yd]
  ·rw[hc,Zd,Yd,Yd]
  ·rw[Wh]at h3 h4;rw[h3,h4,h5];rfl
def H6a (w:Wld) (hw:WIn w):Tot (λ k=>Cr k w.2.2.2.2.2 (w.2.2.2.2.2.length:Int) 0 w) (λ r=>r=bif S4 w.2.2.2.2.2 then .inr () else .inl false):=by
 obtain⟨_,_,_,_,h1,h2⟩:=hw
 unfold S4
 refine Fnb (L:=λ k i=>Cr k w.2.2.2.2.2 (w.2.2.2.2.2.length:Int) i w) _ _ () ?_ ?_
 ·simp (disch:=omega) only [Cr,dF]
  exact Fdb rfl
 ·intro j hj Q no yes
  have hs:=h2 _ (A4 (d:=O7) hj)
  have e0:∀ i,w.2.2.2.2.2.getD i (⟨#[]⟩:ByteArray)=w.2.2.2.2.2.getD i O7:=λ _=>rfl
  simp (disch:=omega) only [Cr,dT,Vb,w64,e0]
  refine Fpb (Xb _ hs) ?_
  refine Fjb (λ hc=>Fdb (no ?_)) (λ h3=>Fkb (λ h0=>?_) (λ h0=>yes ?_))
  ·rw[Vv]at hc;rw[hc];rfl
  ·simp (disch:=omega) only [dT,w64,show toNat ((j:Int)-1)=j-1 by omega]
   rw[Wh]at h3
   rw[h3,decide_eq_false (show ¬ j=0 by omega),G9b,Vy]at no yes
   refine Fjb (λ hc=>Fdb (no ?_)) (λ h4=>yes ?_)
   ·rw[Vv]at hc;exact hc
   ·rw[Wh]at h4;exact h4
  ·rw[Wh]at h3
   rw[h3,decide_eq_true (show j=0 by omega)]
   rfl
def H7a (w:Wld) (hw:WIn w):Tot (λ k=>Cs k 0 w) (λ r=>r=bif S4 w.2.2.2.2.2 then .inr () else .inl false):=by
 obtain⟨_,_,_,_,h1,h2⟩:=hw
 unfold S4
 refine Fnb (L:=λ k i=>Cs k i w) _ _ () ?_ ?_
 ·simp (disch:=omega) only [Cs,dF]
  exact Fdb rfl
 ·intro j hj Q no yes
  have hs:=h2 _ (A4 (d:=O7) hj)
  have e0:∀ i,w.2.2.2.2.2.getD i (⟨#[]⟩:ByteArray)=w.2.2.2.2.2.getD i O7:=λ _=>rfl
  simp (disch:=omega) only [Cs,dT,Vb,w64,e0]
  refine Fpb (Og _ hs) ?_
  refine Fjb (λ hc=>Fdb (no ?_)) (λ h3=>Fkb (λ h0=>?_) (λ h0=>yes ?_))
  ·rw[Vv]at hc;rw[hc];rfl
  ·simp (disch:=omega) only [dT,w64,show toNat ((j:Int)-1)=j-1 by omega]
   rw[Wh]at h3
   rw[h3,decide_eq_false (show ¬ j=0 by omega),G9b,Vy]at no yes
   refine Fjb (λ hc=>Fdb (no ?_)) (λ h4=>yes ?_)
   ·rw[Vv]at hc;exact hc
   ·rw[Wh]at h4;exact h4
  ·rw[Wh]at h3
   rw[h3,decide_eq_true (show j=0 by omega)]
   rfl
def Jta (w:Wld) (hw:WIn w) (hl:w.2.2.1.length=w.1.length):Tot (λ k=>Ew k w.2.2.1 (w.2.2.1.length:Int) 0 w) (λ r=>r=bif R3 w.1 w.2.2.1 then .inr w else .inl false):=by
 obtain⟨_,_,⟨h1,h2⟩,_⟩:=hw
 unfold R3
 rw[show ((w.2.2.1.length:Int)==(w.1.length:Int))=true by rw[beq_iff_eq];omega,Vy]
 refine Fnb (L:=λ k i=>Ew k w.2.2.1 (w.2.2.1.length:Int) i w) _ _ w ?_ ?_
 ·simp (disch:=omega) only [Ew,dF]
  exact Fdb rfl
 ·intro j hj Q no yes
  have hs:=h2 _ (A4 (d:=Ar) hj)
  obtain⟨x,ex⟩:∃ x:Nod,w.2.2.1.getD j Ar=x:=⟨_,rfl⟩
  rw[ex]at hs no yes
  have e0:w.2.2.1.getD j ((0:Int),(([],[]),([],[])))=x:=ex
  have e1:w.1.getD j ((0:Int),((0:Int),(0:Int)))=w.1.getD j Mv:=rfl
  simp (disch:=omega) only [Ew,dT,Vb,w64,e0,e1]
  refine Fjb (λ hc=>Fdb (no ?_)) (λ h3=>Feb (M4a x hs) ?_)
  ·rw[bne,Vv]at hc;rw[hc];rfl
  ·rw[bne,Wh]at h3
   rw[h3,Vy]at no yes
   rintro b rfl
   refine Fjb (λ hc=>Fdb (no ?_)) (λ h4=>yes ?_)
   ·rw[Vv]at hc;exact hc
   ·rw[Wh]at h4;exact h4
def Wpa (w:Wld) (hw:WIn w):Tot (λ k=>Dg k w) (λ r=>r=R3 w.1 w.2.2.1):=by
 obtain⟨_,_,⟨h1,h2⟩,_⟩:=hw
 unfold R3 Dg
 refine Fjb (λ hc=>Fdb ?_) (λ hl=>?_)
 ·rw[bne,Vv]at hc
  rw[hc];rfl
 ·rw[bne,Wh]at hl
  rw[hl,Vy]
  rw[beq_iff_eq]at hl
  refine Feb (Q:=λ r=>r=bif (List.range w.2.2.1.length).all (λ j=>((w.2.2.1.getD j Ar).1==(w.1.getD j Mv).1)&&Lb (w.2.2.1.getD j Ar)) then .inr () else .inl false) ?_ (by
   rintro r rfl
   cases (List.range w.2.2.1.length).all (λ j=>((w.2.2.1.getD j Ar).1==(w.1.getD j Mv).1)&&Lb (w.2.2.1.getD j Ar))<;>exact Fdb rfl)
  refine Fnb (L:=λ k i=>Ez k i w) _ _ () ?_ ?_
  ·simp (disch:=omega) only [Ez,dF]
   exact Fdb rfl
  ·intro j hj Q no yes
   have hs:=h2 _ (A4 (d:=Ar) hj)
   obtain⟨x,ex⟩:∃ x:Nod,w.2.2.1.getD j Ar=x:=⟨_,rfl⟩
   rw[ex]at hs no yes
   have e0:w.2.2.1.getD j ((0:Int),(([],[]),([],[])))=x:=ex
   have e1:w.1.getD j ((0:Int),((0:Int),(0:Int)))=w.1.getD j Mv:=rfl
   simp (disch:=omega) only [Ez,dT,Vb,w64,e0,e1]
   refine Fjb (λ hc=>Fdb (no ?_)) (λ h3=>Feb (Xg x hs) ?_)
   ·rw[bne,Vv]at hc;rw[hc];rfl
   ·rw[bne,Wh]at h3
    rw[h3,Vy]at no yes
    rintro b rfl
    refine Fjb (λ hc=>Fdb (no ?_)) (λ h4=>yes ?_)
    ·rw[Vv]at hc;exact hc
    ·rw[Wh]at h4;exact h4
def Sza (w:Wld) (hw:WIn w):Tot (λ k=>Da k w) (λ r=>r=Py w):=by
 unfold Da Py
 refine Fpb (W3a w.2.1 w.1 hw.1 (by have:=hw.2.1;omega)) ?_
 cases hr:Ik w.2.1 w.1
 ·exact Fgb rfl (Fdb rfl)
 refine Ffb rfl ?_
 rw[Vy]
 by_cases hl:w.2.2.1.length=w.1.length
 ·refine Ffb (by rw[bne,hl,beq_self_eq_true];rfl) ?_
  simp only[A0a,Vo]
  cases hs:Ga w.2.2.2.1
  ·exact Fgb rfl (Fdb (by rw[Ze,Yd]))
  refine Ffb rfl (Fpb (Woa w hw) ?_)
  cases hws:Wna w.2.2.2.1 w.2.2.2.2.1
  ·exact Fgb rfl (Fdb (by rw[Ze,Yd,Yd]))
  refine Ffb rfl (Fpb (Jta w hw hl) ?_)
  cases R3 w.1 w.2.2.1
  ·exact Fdb rfl
  refine Fpb (H6a w hw) ?_
  cases S4 w.2.2.2.2.2<;>exact Fdb rfl
 ·have hn:((w.2.2.1.length:Int)==(w.1.length:Int))=false:=by rw[beq_eq_false_iff_ne];omega
  refine Fgb (by rw[bne,hn];rfl) (Fdb ?_)
  unfold R3
  rw[hn]
  rfl
def T0a (w:Wld) (hw:WIn w):Tot (λ k=>Db k w) (λ r=>r=Py w):=by
 have hw':=hw
 obtain⟨_,_,_,⟨h1,h2⟩,_⟩:=hw'
 unfold Db Py
 refine Fpb (W4a w.2.1 w.1 hw.1 (by have:=hw.2.1;omega)) ?_
 cases hr:Ik w.2.1 w.1
 ·exact Fgb rfl (Fdb rfl)
 refine Ffb rfl (Fpb (Wpa w hw) ?_)
 rw[Vy]
 cases hn:R3 w.1 w.2.2.1
 ·exact Fgb rfl (Fdb rfl)
 refine Ffb rfl ?_
 simp only[Qp,Vo]
 cases hs:Ga w.2.2.2.1
 ·exact Fgb rfl (Fdb rfl)
 refine Ffb rfl ?_
 by_cases hl:(w.2.2.2.2.1.length:Int) > 200
 ·refine Fhb hl (Fdb ?_)
  unfold Wna
  rw[decide_eq_false (show ¬ (w.2.2.2.2.1.length:Int)≤200 by omega),Yd]
  rfl
 ·refine Fib hl (Feb (Q:=λ r=>r=bif w.2.2.2.2.1.all (E1a w.2.2.2.1) then .inr w else .inl false) ?_ ?_)
  ·rw[H5a _ Sya]
   refine Fnb (L:=λ k i=>Fx k i w) _ _ w ?_ ?_
   ·simp (disch:=omega) only [Fx,dF]
    exact Fdb rfl
   ·intro j hj Q no yes
    have hs:=h2 _ (A4 (d:=Sya) hj)
    obtain⟨x,ex⟩:∃ x:Wri,w.2.2.2.2.1.getD j Sya=x:=⟨_,rfl⟩
    rw[ex]at hs
    simp only[ex]at no yes
    have e0:w.2.2.2.2.1.getD j ((⟨#[]⟩:ByteArray),((((0:Int),((0:Int),(0:Int))),(false,[])),false))=x:=ex
    simp (disch:=omega) only [Fx,dT,Vb,w64,e0,Tm,Dfa,Vo]
    unfold E1a at no yes
    refine Fpb (Og x.1 hs) ?_
    refine Fjb (λ hc=>Fdb (no ?_)) (λ h3=>Fjb (λ hc=>Fdb (no ?_)) (λ h4=>Fjb (λ hc=>Fdb (no ?_)) (λ h5=>yes ?_)))
    ·rw[Vv]at hc;rw[hc];rfl
    ·rw[Vv]at hc;rw[hc,Ze,Yd]
    ·rw[hc,Zd,Yd,Yd]
    ·rw[Wh]at h3 h4;rw[h3,h4,h5];rfl
  ·rintro b rfl
   unfold Wna
   rw[decide_eq_true (show (w.2.2.2.2.1.length:Int)≤200 by omega),Fwb]
   cases w.2.2.2.2.1.all (E1a w.2.2.2.1)
   ·exact Fdb rfl
   refine Fpb (H7a w hw) ?_
   cases S4 w.2.2.2.2.2<;>exact Fdb rfl

def atN:List Nod→Int→Nat→List Int
 |[],_,_=>[]
 |n::ns,id,i=>bif n.1==id then (i:Int)::atN ns id (i+1) else atN ns id (i+1)
def E2a (n:Nod) (ns:List Nod) (id:Int) (i:Nat):atN (n::ns) id i=bif n.1==id then (i:Int)::atN ns id (i+1) else atN ns id (i+1):=rfl
def whr (ns:List Nod) (ids:List Int):List Int:=ids.flatMap λ id=>atN ns id 0
def E3a (id:Int):∀ (ns:List Nod) (i:Nat),(atN ns id i).length≤ns.length
 |[],_=>Vw _
 |n::ns,i=>by
  unfold atN
  have:=E3a id ns (i+1)
  cases n.1==id
  ·rw[cond_false,Vc];omega
  ·rw[cond_true,Vc,Vc];omega
def T1a (ns:List Nod):∀ (ids:List Int),(whr ns ids).length≤ids.length*ns.length
 |[]=>Vs _
 |id::ids=>by
  have h1:=E3a id ns 0
  have h2:=T1a ns ids
  unfold whr at h2 ⊢
  rw[Hdb,Ve,Vc,Nat.succ_mul]
  omega
def Pz {ns:List Nod} {ids:List Int} (h1:ns.length≤2000000) (h2:ids.length≤2000000):(whr ns ids).length≤4000000000000:=
 Zs (T1a ns ids) (Ipb h2 h1)
def E4a (ns:List Nod) (id:Int) (ids:List Int):whr ns (id::ids)=atN ns id 0++whr ns ids:=Hdb
def Amb (ns:List Nod) (a b:List Int):whr ns (a++b)=whr ns a++whr ns b:=List.flatMap_append
def B8a (w:Wld) (id:Int) (a b c:List Int) (m i0:Int) (out:List Int) (h1:w.2.2.1.length≤2000000) (ho:out.length≤4000000000000):
  Tot (λ k=>Dh k out id a m i0 w.2.2.1 (w.2.2.1.length:Int) 0 w) (λ r=>r=(out++atN w.2.2.1 id 0,a,m,i0,w)):=by
 have m1:=E3a id w.2.2.1 0
 refine Fmb (L:=λ k i (s:List Int)=>Dh k s id a m i0 w.2.2.1 (w.2.2.1.length:Int) i w) (Q:=λ r=>r=(out++atN w.2.2.1 id 0,a,m,i0,w)) w.2.2.1.length (λ j s=>s++atN (w.2.2.1.drop j) id j=out++atN w.2.2.1 id 0) ?_ ?_ 0 out (Vs _) rfl
 ·intro s h
  rw[Wi]at h
  simp (disch:=omega) only [Dh,dF]
  refine Fdb ?_
  rw[← h]
  show _=(s++[],a,m,i0,w)
  rw[Wq]
 ·intro j s hj h next
  have g:=congrArg length h
  rw[Ve,Ve]at g
  rw[Ap (d:=Ar) hj,E2a]at h
  obtain⟨x,ex⟩:∃ x:Nod,w.2.2.1.getD j Ar=x:=⟨_,rfl⟩
  rw[ex]at h
  have e0:w.2.2.1.getD j ((0:Int),(([],[]),([],[])))=x:=ex
  simp (disch:=omega) only [Dh,dT,Vb,w64,e0]
  cases hx:x.1==id with
  |true=>
   rw[hx,cond_true]at h
   refine Fgb rfl (Flb (by simp only[Vc,Vj];omega) (next (s++[(j:Int)]) ?_))
   rw[← h,Vp]
   rfl
  |false=>
   rw[hx,cond_false]at h
   refine Ffb rfl (next s h)
def Jua (w:Wld) (ids:List Int) (h1:w.2.2.1.length≤2000000) (h2:ids.length≤2000000):Tot (λ k=>Hk k w ids) (λ r=>r=whr w.2.2.1 ids):=by
 have m1:=Pz h1 h2
 unfold Hk
 refine Feb (Q:=λ r=>r=whr w.2.2.1 ids) ?_ (by rintro r rfl;exact Fdb rfl)
 refine Fmb (L:=λ k i (s:List Int)=>Fi k s ids (ids.length:Int) i w) (Q:=λ r=>r=whr w.2.2.1 ids) ids.length (λ j s=>s++whr w.2.2.1 (ids.drop j)=whr w.2.2.1 ids) ?_ ?_ 0 [] (Vs _) rfl
 ·intro s h
  rw[Wi]at h
  simp (disch:=omega) only [Fi,dF]
  refine Fdb ?_
  rw[← h]
  exact(Wq s).symm
 ·intro j s hj h next
  have g:=congrArg length h
  rw[Ve]at g
  rw[Ap (d:=0) hj,E4a]at h
  simp (disch:=omega) only [Fi,dT,Vb,w64]
  refine Fpb (B8a w (ids.getD j 0) ids [] [] (ids.length:Int) (j:Int) s h1 (by omega)) ?_
  simp (disch:=omega) only [w64]
  exact next _ (by rw[Vp];exact h)
def E5a (w:Wld) (ids:List Int) (n:Nat) (hn:n<ids.length) (out:List Int) (h1:w.2.2.1.length≤2000000) (ho:out.length≤4000000000000):
  Tot (λ k=>Cc k ids out (n:Int) 0 w) (λ r=>r=(ids,out++atN w.2.2.1 (ids.getD n 0) 0,(n:Int),w)):=by
 have m1:=E3a (ids.getD n 0) w.2.2.1 0
 refine Fmb (L:=λ k i (s:List Int)=>Cc k ids s (n:Int) i w) (Q:=λ r=>r=(ids,out++atN w.2.2.1 (ids.getD n 0) 0,(n:Int),w)) w.2.2.1.length (λ j s=>s++atN (w.2.2.1.drop j) (ids.getD n 0) j=out++atN w.2.2.1 (ids.getD n 0) 0) ?_ ?_ 0 out (Vs _) rfl
 ·intro s h
  rw[Wi]at h
  simp (disch:=omega) only [Cc,dF]
  refine Fdb ?_
  rw[← h]
  show _=(ids,s++[],(n:Int),w)
  rw[Wq]
 ·intro j s hj h next
  have g:=congrArg length h
  rw[Ve,Ve]at g
  rw[Ap (d:=Ar) hj,E2a]at h
  obtain⟨x,ex⟩:∃ x:Nod,w.2.2.1.getD j Ar=x:=⟨_,rfl⟩
  rw[ex]at h
  have e0:w.2.2.1.getD j ((0:Int),(([],[]),([],[])))=x:=ex
  simp (disch:=omega) only [Cc,dT,Vb,w64,e0]
  cases hx:x.1==ids.getD n 0 with
  |true=>
   rw[hx,cond_true]at h
   refine Fgb rfl (Flb (by simp only[Vc,Vj];omega) (next (s++[(j:Int)]) ?_))
   rw[← h,Vp]
   rfl
  |false=>
   rw[hx,cond_false]at h
   refine Ffb rfl (next s h)
def Rq (w:Wld) (ids:List Int) (h1:w.2.2.1.length≤2000000) (h2:ids.length≤2000000):Tot (λ k=>Bd k w ids) (λ r=>r=whr w.2.2.1 ids):=by
 have m1:=Pz h1 h2
 unfold Bd
 refine Feb (Q:=λ r=>r=whr w.2.2.1 ids) ?_ (by rintro r rfl;exact Fdb rfl)
 refine Fmb (L:=λ k i (s:List Int)=>Dj k ids s i w) (Q:=λ r=>r=whr w.2.2.1 ids) ids.length (λ j s=>s++whr w.2.2.1 (ids.drop j)=whr w.2.2.1 ids) ?_ ?_ 0 [] (Vs _) rfl
 ·intro s h
  rw[Wi]at h
  simp (disch:=omega) only [Dj,dF]
  refine Fdb ?_
  rw[← h]
  exact(Wq s).symm
 ·intro j s hj h next
  have g:=congrArg length h
  rw[Ve]at g
  rw[Ap (d:=0) hj,E4a]at h
  simp (disch:=omega) only [Dj,dT,Vb,w64]
  refine Fpb (E5a w ids j hj s h1 (by omega)) ?_
  simp (disch:=omega) only [w64]
  exact next _ (by rw[Vp];exact h)
def E6a (id:Int):∀ (ns:List Nod) (i:Nat) (x:Int),x∈atN ns id i↔∃ j,j<ns.length∧(ns.getD j Ar).1=id∧x=((i+j:Nat):Int)
 |[],i,x=>by simp[atN]
 |n::ns,i,x=>by
  have ih:=E6a id ns (i+1) x
  have tl:(∃ j,j<(n::ns).length∧((n::ns).getD j Ar).1=id∧x=((i+j:Nat):Int))↔(n.1=id∧x=(i:Int))∨x∈atN ns id (i+1):=by
   rw[ih]
   constructor
   ·rintro⟨j,h1,h2,h3⟩
    cases j with
    |zero=>exact .inl ⟨h2,by omega⟩
    |succ j=>exact .inr ⟨j,by simpa using h1,by simpa using h2,by omega⟩
   ·rintro (⟨h1,h2⟩|⟨j,h1,h2,h3⟩)
    ·exact⟨0,by simp,h1,by omega⟩
    ·exact⟨j+1,by simpa using h1,by simpa using h2,by omega⟩
  rw[tl,E2a]
  cases hx:n.1==id with
  |true=>
   rw[cond_true,Vl,eq_of_beq hx]
   simp
  |false=>
   rw[cond_false]
   have:=beq_eq_false_iff_ne.1 hx
   simp[this]
def E7a {ns:List Nod} {ids:List Int} {x:Int}:x∈whr ns ids↔∃ j,j<ns.length∧(ns.getD j Ar).1∈ids∧x=(j:Int):=by
 unfold whr
 rw[List.mem_flatMap]
 constructor
 ·rintro⟨id,h1,h2⟩
  obtain⟨j,h3,h4,h5⟩:=(E6a _ _ _ _).1 h2
  exact⟨j,h3,h4 ▸ h1,by omega⟩
 ·rintro⟨j,h3,h4,h5⟩
  exact⟨_,h4,(E6a _ _ _ _).2 ⟨j,h3,rfl,by omega⟩⟩
def Jw (w:Wld) (x:ByteArray):List Int:=whr w.2.2.1 (V2 w.2.1 x++Rp w.2.1 w.1 x)
def Xk:ByteArray:=⟨#[108,105,115,116]⟩
def D8 (w:Wld):List Int:=whr w.2.2.1 (V2 w.2.1 Xk)
def Tr {r:Rng} (hr:RBd r) (x:ByteArray):(V2 r x).length≤2000000:=by
 unfold V2
 by_cases hm:O8a x % r.2.length<r.2.length
 ·exact hr.2 _ (A4 (d:=[]) hm)
 ·rw[Vd,Zh (by omega)];exact Vs _
def W4 (r:Rng) (l:List Dev) (x:ByteArray):(Rp r l x).length≤l.length+l.length:=by
 unfold Rp
 rw[Ve]
 have h1:=E0a (V2 r x) (Jv (V2 r x) l) false l
 have h2:=E0a (V2 r x) (Jv (V2 r x) l) true l
 omega
def H8a (w:Wld) (x:ByteArray) (h:Ik w.2.1 w.1=true) (hn:w.2.2.1.length≤2000000) (hx:x.size≤1000000000):Tot (λ k=>Ek k w x) (λ r=>r=Jw w x):=by
 have h5:=(Cd.1 h).2.1
 have p2:=(Aka h x).2.1
 have h12:=(Fg.1 (Cd.1 h).1).2.2.2
 have hh:=W4 w.2.1 w.1 x
 unfold Ek Jw
 rw[Amb]
 refine Fpb (Xj _ x (Lr h) hx) ?_
 refine Fpb (Rq w _ hn (by omega)) ?_
 refine Fpb (Wma _ _ x h hx) ?_
 refine Fpb (Rq w _ hn (by omega)) ?_
 have l1:=Pz hn (show (V2 w.2.1 x).length≤2000000 by omega)
 have l2:=Pz hn (show (Rp w.2.1 w.1 x).length≤2000000 by omega)
 exact Flb (by omega) (Fdb rfl)
def Sq (w:Wld) (hr:RBd w.2.1) (hn:w.2.2.1.length≤2000000):Tot (λ k=>E4 k w) (λ r=>r=D8 w):=by
 unfold E4
 refine Fpb (Wja _ Xk hr (by decide)) ?_
 refine Fpb (Jua w _ hn (Tr hr _)) ?_
 exact Fdb rfl
def Ama (w:Wld) (hr:RBd w.2.1) (hn:w.2.2.1.length≤2000000):Tot (λ k=>Gk k w) (λ r=>r=D8 w):=by
 unfold Gk
 refine Fpb (Xj _ Xk hr (by decide)) ?_
 refine Fpb (Rq w _ hn (Tr hr _)) ?_
 exact Fdb rfl
def quo (n:Int):Int:=n/2+1
def Enb {n:Int} (h0:0≤n):Int.tdiv n 2=n/2:=Gqb h0
def Anb {n:Int} (h0:0≤n) (h1:n≤1000000000):Jo n=some (quo n):=by
 unfold Jo quo
 rw[Enb h0,w64 (n:=n/2) (by omega) (by omega),w64 (n:=n/2+1) (by omega) (by omega)]
def rch (l:List Int) (i:Nat):Int:=bif decide (i<l.length)&&inR (l.getD i 0) 1 3 then l.getD i 0 else 0
def Aob (l:List Int) (i:Nat):J5 l (i:Int)=some (rch l i):=by
 unfold J5 rch
 by_cases h:i<l.length
 ·simp (disch:=omega) only [dT,Vb,Th,Vo]
  rw[decide_eq_true h,Vy]
  cases inR (l.getD i 0) 1 3<;>rfl
 ·rw[dF (by omega),decide_eq_false h];rfl
def Jva (l:List Int) (i:Nat):C7 l (i:Int)=some (rch l i):=by
 unfold C7 rch
 by_cases h:i<l.length
 ·rw[dF (by omega)]
  simp (disch:=omega) only [dT,Vb,Nb,Vo]
  rw[decide_eq_true h,Vy]
  cases inR (l.getD i 0) 1 3<;>rfl
 ·rw[dT (by omega),decide_eq_false h];rfl

section
open Go
end

def Apb (a b:Row):Bool:=(a.1==b.1)&&((a.2.1.1==b.2.1.1)&&((a.2.1.2.1==b.2.1.2.1)&&((a.2.1.2.2==b.2.1.2.2)&&((a.2.2.1==b.2.2.1)&&(a.2.2.2==b.2.2.2)))))
def H9a {a b:Row}:Apb a b=true↔a=b:=by
 unfold Apb
 obtain⟨a0,⟨a1,a2,a3⟩,a4,a5⟩:=a
 obtain⟨b0,⟨b1,b2,b3⟩,b4,b5⟩:=b
 simp only[Xa,Va,beq_iff_eq,Wb,Fe]
 constructor
 ·rintro⟨h0,h1,h2,h3,h4,h5⟩;exact⟨h0,⟨h1,h2,h3⟩,h4,h5⟩
 ·rintro⟨h0,⟨h1,h2,h3⟩,h4,h5⟩;exact⟨h0,h1,h2,h3,h4,h5⟩
def Ana (ws:List Wri) (r:Row):Bool:=ws.any λ x=>Apb (Aca x.1 x.2.1) r

def run {α:Type} (st:α→Nat→α) (n:Nat) (a:α):α:=(List.range n).foldl st a
def Q0 {α:Type} (st:α→Nat→α) (n:Nat) (a:α):run st (n+1) a=st (run st n a) n:=by
 unfold run
 rw[Hxb,Gob]
 rfl
def Wqa {α:Type} {st:α→Nat→α} {a:α} {j n:Nat} (hj:j≤n) (h:∀ i,st (run st j a) i=run st j a):run st n a=run st j a:=by
 obtain⟨m,rfl⟩:=Nat.exists_eq_add_of_le hj
 induction m with
 |zero=>rfl
 |succ m ih=>rw[← Zf,Q0,ih (by omega),h]
def Mc {α:Type} {st:α→Nat→α} (P:Nat→α→Prop) {n:Nat} {a:α} (h0:P 0 a) (hs:∀ j b,j<n→P j b→P (j+1) (st b j)):P n (run st n a):=by
 have:∀ m,m≤n→P m (run st m a):=by
  intro m
  induction m with
  |zero=>intro _;exact h0
  |succ m ih=>intro hm;rw[Q0];exact hs m _ (by omega) (ih (by omega))
 exact this n (Vw _)
def NS (ns:List Nod):Prop:=ns.length≤2000000∧∀ n∈ns,NG n
def NS.set {ns:List Nod} (h:NS ns) {i:Nat} {n:Nod} (hn:NG n):NS (ns.set i n):=⟨by rw[Vx];exact h.1,λ m hm=>by
 rcases Wo hm with hm|rfl
 ·exact h.2 m hm
 ·exact hn⟩
def NS.get {ns:List Nod} (h:NS ns) {i:Nat} (hi:i<ns.length):NG (ns.getD i Ar):=h.2 _ (A4 hi)
abbrev wN (w:Wld) (ns:List Nod):Wld:=(w.1,w.2.1,ns,w.2.2.2)
def Ms (c:Stp) (t d:Int):Stp:=bif decide (t≤c.1) then (bif Ga (c.1,c.2.1+1,d) then (c.1,c.2.1+1,d) else c) else (bif Ga (t,0,d) then (t,0,d) else c)
def T2a {c:Stp} (hc:Ga c=true) (t d:Int):Gu c t d=some (Ms c t d):=by
 have h2:0≤c.2.1∧c.2.1≤1000000:=by
  unfold Ga at hc
  rw[Va,Va,Cy,Cy]at hc
  exact hc.2.1
 unfold Gu Ms
 rw[w64 (n:=c.2.1+1) (by omega) (by omega)]
 simp only[Qp,Vo]
 cases decide (t≤c.1) with
 |true=>cases Ga (c.1,c.2.1+1,d)<;>rfl
 |false=>cases Ga (t,0,d)<;>rfl
def E8a {c:Stp} (hc:Ga c=true) (t d:Int):Ga (Ms c t d)=true∧(Ms c t d=c∨sle c (Ms c t d)=true):=by
 unfold Ms
 by_cases h:t≤c.1
 ·rw[decide_eq_true h,cond_true]
  cases hs:Ga (c.1,c.2.1+1,d) with
  |true=>exact⟨hs,.inr (Pq.2 (.inr ⟨rfl,.inl (by show c.2.1<c.2.1+1;omega)⟩))⟩
  |false=>exact⟨hc,.inl rfl⟩
 ·rw[decide_eq_false h,cond_false]
  cases hs:Ga (t,0,d) with
  |true=>exact⟨hs,.inr (Pq.2 (.inl (by show c.1<t;omega)))⟩
  |false=>exact⟨hc,.inl rfl⟩
def wst (R:Int) (rc:List Int) (s:ByteArray) (f:Fil) (cs:List Int) (a:List Nod×Int×Int) (j:Nat):List Nod×Int×Int:=
 bif decide (a.2.1<R) then (bif rch rc j==0 then a else
  (a.1.set (cs.getD j 0).toNat (Ux (a.1.getD (cs.getD j 0).toNat Ar) s f (rch rc j != 3)).1,a.2.1+1,
   bif rch rc j==1&&((Ux (a.1.getD (cs.getD j 0).toNat Ar) s f (rch rc j != 3)).2==0||(Ux (a.1.getD (cs.getD j 0).toNat Ar) s f (rch rc j != 3)).2==1) then a.2.2+1 else a.2.2))
 else a
def wrN (w:Wld) (s:ByteArray) (f:Fil) (rc:List Int):List Nod×Int×Int:=run (wst w.2.1.1 rc s f (Jw w s)) (Jw w s).length (w.2.2.1,0,0)
def Aoa (w:Wld) (s:ByteArray) (f:Fil) (rc:List Int):Int×Wld:=
 (bif decide ((wrN w s f rc).2.2≥quo w.2.1.1) then 0 else 1,(w.1,w.2.1,(wrN w s f rc).1,w.2.2.2.1,w.2.2.2.2.1++[(s,f,decide ((wrN w s f rc).2.2≥quo w.2.1.1))],w.2.2.2.2.2))
def Sr {w:Wld} {s:ByteArray} {x:Int} (h:x∈Jw w s):0≤x∧x<(w.2.2.1.length:Int):=by
 obtain⟨j,h1,_,rfl⟩:=E7a.1 h
 omega
def Dgb {R:Int} {rc:List Int} {s:ByteArray} {f:Fil} {cs:List Int} {a:List Nod×Int×Int} {j m:Nat} (hs:Bc s=true) (hf:H9 f=true) (h:NS a.1∧a.1.length=m∧(0≤a.2.1∧a.2.1≤j)∧0≤a.2.2∧a.2.2≤j) (hc:(cs.getD j 0).toNat<m):
  let b:=wst R rc s f cs a j
  NS b.1∧b.1.length=m∧(0≤b.2.1∧b.2.1≤((j+1:Nat):Int))∧0≤b.2.2∧b.2.2≤((j+1:Nat):Int):=by
 obtain⟨h1,h2,h3,h4,h5⟩:=h
 intro b
 have hb:b=wst R rc s f cs a j:=rfl
 unfold wst at hb
 cases hR:decide (a.2.1<R)
 ·rw[hR,cond_false]at hb;rw[hb];exact⟨h1,h2,⟨h3.1,by omega⟩,h4,by omega⟩
 rw[hR,cond_true]at hb
 cases hr:rch rc j==0
 case true=>rw[hr,cond_true]at hb;rw[hb];exact⟨h1,h2,⟨h3.1,by omega⟩,h4,by omega⟩
 rw[hr,cond_false]at hb
 rw[hb]
 refine⟨h1.set (M6a (h1.get (by omega)) hs hf),by rw[List.length_set];exact h2,⟨by dsimp only;omega,by dsimp only;omega⟩,?_⟩
 dsimp only
 cases rch rc j==1&&((Ux (a.1.getD (cs.getD j 0).toNat Ar) s f (rch rc j != 3)).2==0||(Ux (a.1.getD (cs.getD j 0).toNat Ar) s f (rch rc j != 3)).2==1)
 ·exact⟨h4,by rw[cond_false];omega⟩
 ·exact⟨by rw[cond_true];omega,by rw[cond_true];omega⟩
def O9a (w:Wld) (s:ByteArray) (f:Fil) (rc:List Int) (hr:Ik w.2.1 w.1=true) (hn:NS w.2.2.1) (hs:Bc s=true) (hf:H9 f=true) (hw:w.2.2.2.2.1.length≤2000000):
  Tot (λ k=>C6 k w s f rc) (λ r=>r=Aoa w s f rc):=by
 have hsz:s.size≤1000000000:=by
  have:=Cy.1 (Va _ _ ▸ hs:_∧_).2
  omega
 obtain⟨_,hR,_⟩:=Cd.1 hr
 unfold C6 Aoa
 refine Fpb (H8a w s hr hn.1 hsz) ?_
 have hc:=λ x=>Sr (w:=w) (s:=s) (x:=x)
 have hcl:(Jw w s).length≤4000000000000:=by
  unfold Jw
  refine Pz hn.1 ?_
  have h5:=(Cd.1 hr).2.1
  have p2:=(Aka hr s).2.1
  have h12:=(Fg.1 (Cd.1 hr).1).2.2.2
  have hh:=W4 w.2.1 w.1 s
  rw[Ve];omega
 have hrun:wrN w s f rc=run (wst w.2.1.1 rc s f (Jw w s)) (Jw w s).length (w.2.2.1,0,0):=rfl
 have inv:∀ n,n≤(Jw w s).length→NS (run (wst w.2.1.1 rc s f (Jw w s)) n (w.2.2.1,0,0)).1∧(run (wst w.2.1.1 rc s f (Jw w s)) n (w.2.2.1,0,0)).1.length=w.2.2.1.length∧(0≤(run (wst w.2.1.1 rc s f (Jw w s)) n (w.2.2.1,0,0)).2.1∧(run (wst w.2.1.1 rc s f (Jw w s)) n (w.2.2.1,0,0)).2.1≤n)∧0≤(run (wst w.2.1.1 rc s f (Jw w s)) n (w.2.2.1,0,0)).2.2∧(run (wst w.2.1.1 rc s f (Jw w s)) n (w.2.2.1,0,0)).2.2≤n:=by
  intro n hn'
  refine Mc (λ j (b:List Nod×Int×Int)=>NS b.1∧b.1.length=w.2.2.1.length∧(0≤b.2.1∧b.2.1≤(j:Int))∧0≤b.2.2∧b.2.2≤(j:Int)) ⟨hn,rfl,⟨Fvb _,Fvb _⟩,Fvb _,Fvb _⟩ (λ j b hj hb=>Dgb hs hf hb ?_)
  have:=hc _ (A4 (d:=0) (show j<(Jw w s).length by omega))
  omega
 generalize hcs:Jw w s=cs at *
 refine Feb (Q:=λ r=>r=(s,(wrN w s f rc).2.2,wN w (wrN w s f rc).1,f)) ?_ ?_
 ·refine Fmb (L:=λ k i (a:List Nod×Int×Int)=>B4 k s rc cs a.2.1 a.2.2 i (wN w a.1) f) (Q:=λ r=>r=(s,(wrN w s f rc).2.2,wN w (wrN w s f rc).1,f)) cs.length (λ j a=>a=run (wst w.2.1.1 rc s f cs) j (w.2.2.1,0,0)) ?_ ?_ 0 (w.2.2.1,0,0) (Vs _) rfl
  ·rintro a rfl
   simp (disch:=omega) only [B4,dF]
   exact Fdb (by rw[hrun])
  ·rintro j a hj rfl next
   obtain⟨i1,i2,i3,i4,i5⟩:=inv j (by omega)
   rw[Q0]at next
   have hst:=Wqa (st:=wst w.2.1.1 rc s f cs) (a:=(w.2.2.1,(0:Int),(0:Int))) (j:=j) (n:=cs.length) (by omega)
   generalize run (wst w.2.1.1 rc s f cs) j (w.2.2.1,0,0)=a at *
   obtain⟨ns,o,g⟩:=a
   dsimp only at i1 i2 i3 i4 i5
   have hci:=hc _ (A4 (d:=0) hj)
   obtain⟨i,ei⟩:∃ i:Nat,cs.getD j 0=(i:Int):=⟨(cs.getD j 0).toNat,by omega⟩
   rw[ei]at hci
   unfold wst at next
   rw[ei,Vb]at next
   simp (disch:=omega) only [B4,dT,wN]
   refine Fkb (λ hR'=>?_) (λ hR'=>Fdb ?_)
   ·dsimp only at next
    rw[decide_eq_true hR']at next
    simp only[Jva,Vo]
    cases h0:rch rc j==0 with
    |true=>
     rw[h0]at next
     simp (disch:=omega) only [w64]
     exact Fgb rfl (next _ rfl)
    |false=>
     rw[h0]at next
     have e0:ns.getD i ((0:Int),(([],[]),([],[])))=ns.getD i Ar:=rfl
     simp (disch:=omega) only [dT,Vb,w64,ei,e0,cond_false]
     refine Fpb (Gqa (ns.getD i Ar) s f (rch rc j != 3) (Rs (i1.get (by omega))) (Jh hs)) ?_
     dsimp only at next ⊢
     generalize Ux (ns.getD i Ar) s f (rch rc j != 3)=p at *
     cases h1:rch rc j==1 with
     |false=>
      rw[h1]at next
      exact Ffb rfl (next _ rfl)
     |true=>
      rw[h1]at next
      refine Fgb rfl ?_
      cases h2:p.2==0
      case true=>rw[h2]at next;exact Fgb rfl (next _ rfl)
      rw[h2]at next
      refine Ffb rfl ?_
      cases h3:p.2==1 with
      |true=>rw[h3]at next;exact Fgb rfl (next _ rfl)
      |false=>rw[h3]at next;exact Ffb rfl (next _ rfl)
   ·rw[hrun,hst (λ i=>by unfold wst;dsimp only;rw[decide_eq_false hR'];rfl)]
 ·rintro r rfl
  obtain⟨_,_,_,h4,h5⟩:=inv cs.length (Vw _)
  dsimp only[wN]
  rw[Anb (by omega) (by omega)]
  have ec:Bp f=some f:=by
   have:=(K8.1 hf).2.1
   unfold Bp
   rw[bT (by simp only[Vj];omega),Vz]
  rw[ec]
  simp only[Vo]
  refine Flb (by simp only[Vc,Vj];omega) ?_
  cases decide ((wrN w s f rc).2.2≥quo w.2.1.1) with
  |true=>exact Fdb rfl
  |false=>exact Fdb rfl
def ask (w:Wld) (s:ByteArray) (f:Fil) (t:Int) (rc:List Int):Int×Wld:=
 bif !(Bc s) then (2,w) else bif decide ((f.2.2.length:Int) > 200) then (2,w) else bif !(inR t 0 1000000000) then (2,w) else
 bif (w.2.2.2.2.1.length:Int)==200 then (3,w) else
 bif (Ms w.2.2.2.1 t 0).1==w.2.2.2.1.1&&((Ms w.2.2.2.1 t 0).2.1==w.2.2.2.1.2.1&&(Ms w.2.2.2.1 t 0).2.2==w.2.2.2.1.2.2) then (3,w) else
 Aoa (w.1,w.2.1,w.2.2.1,Ms w.2.2.2.1 t 0,w.2.2.2.2) s (Ms w.2.2.2.1 t 0,f.2) rc
def T3a (w:Wld) (s:ByteArray) (f:Fil) (t:Int) (rc:List Int) (hr:Ik w.2.1 w.1=true) (hn:NS w.2.2.1) (hst:Ga w.2.2.2.1=true) (hs:Kd s) (hd:f.2.1=true→f.2.2=[]) (hw:w.2.2.2.2.1.length≤2000000):
  Tot (λ k=>Hb k w s f t rc) (λ r=>r=ask w s f t rc):=by
 unfold Hb ask
 refine Fpb (Og s hs) ?_
 cases hs':Bc s
 ·exact Fgb rfl (Fdb rfl)
 refine Ffb rfl ?_
 rw[Zd,cond_false]
 by_cases hl:(f.2.2.length:Int) > 200
 ·rw[decide_eq_true hl];exact Fgb rfl (Fdb rfl)
 ·rw[decide_eq_false hl,cond_false]
  refine Ffb rfl ?_
  simp only[Nb,T2a hst,Vo]
  cases inR t 0 1000000000
  ·exact Fgb rfl (Fdb rfl)
  refine Ffb rfl ?_
  rw[Zd,cond_false]
  cases (w.2.2.2.2.1.length:Int)==200
  case true=>exact Fgb rfl (Fdb rfl)
  refine Ffb rfl ?_
  rw[cond_false]
  cases (Ms w.2.2.2.1 t 0).1==w.2.2.2.1.1&&((Ms w.2.2.2.1 t 0).2.1==w.2.2.2.1.2.1&&(Ms w.2.2.2.1 t 0).2.2==w.2.2.2.1.2.2)
  case true=>exact Fgb rfl (Fdb rfl)
  refine Ffb rfl (Fpb (O9a (w.1,w.2.1,w.2.2.1,Ms w.2.2.2.1 t 0,w.2.2.2.2) s (Ms w.2.2.2.1 t 0,f.2) rc hr hn hs' (K8.2 ⟨(E8a hst t 0).1,by show f.2.2.length≤200;omega,hd⟩) hw) ?_)
  exact Fdb rfl
def pst (src:Int) (s:ByteArray) (f:Fil) (rc ps:List Int) (a:List Nod×Bool×Bool) (j:Nat):List Nod×Bool×Bool:=
 bif ps.getD j 0==src then (a.1,true,a.2.2) else bif rch rc j != 1 then (a.1,a.2.1,false) else
  (a.1.set (ps.getD j 0).toNat ((a.1.getD (ps.getD j 0).toNat Ar).1,(keep (a.1.getD (ps.getD j 0).toNat Ar).2.1 s f true).1,(a.1.getD (ps.getD j 0).toNat Ar).2.2),a.2.1,
   bif (keep (a.1.getD (ps.getD j 0).toNat Ar).2.1 s f true).2 != 0&&(keep (a.1.getD (ps.getD j 0).toNat Ar).2.1 s f true).2 != 1 then false else a.2.2)
def O4 (w:Wld) (s:ByteArray):List Int:=whr w.2.2.1 (V2 w.2.1 s)
def puN (w:Wld) (i:Nat) (s:ByteArray) (rc:List Int):List Nod×Bool×Bool:=run (pst (i:Int) s (lkD (w.2.2.1.getD i Ar).2.1 s).1 rc (O4 w s)) (O4 w s).length (w.2.2.1,false,true)
def F2b (n:Nod) (s:ByteArray):Nod:=(n.1,(syD (rmD n.2.1 s).1 s).1,n.2.2)
def E9a (w:Wld) (i:Nat) (s:ByteArray) (rc:List Int):Bool×Wld:=bif (lkD (w.2.2.1.getD i Ar).2.1 s).2 != 0 then (false,w) else
 (true,wN w (bif (puN w i s rc).2.2&&!(puN w i s rc).2.1 then (puN w i s rc).1.set i (F2b ((puN w i s rc).1.getD i Ar) s) else (puN w i s rc).1))
def Yca {n:Nod} (hn:NG n) {s:ByteArray} (hs:Bc s=true):NG (F2b n s):=Dza hn (Vxa (S5a hn.g) hs)
def Jwa {n:Nod} (hn:NG n) {s:ByteArray} {f:Fil} {sure:Bool}:NG (n.1,(keep n.2.1 s f sure).1,n.2.2):=Dza hn (Y1a hn.g)
def Yda {src:Int} {s:ByteArray} {f:Fil} {rc ps:List Int} {a:List Nod×Bool×Bool} {j m:Nat} (h:NS a.1∧a.1.length=m) (hc:(ps.getD j 0).toNat<m):NS (pst src s f rc ps a j).1∧(pst src s f rc ps a j).1.length=m:=by
 unfold pst
 cases ps.getD j 0==src
 case true=>exact h
 cases rch rc j != 1 with
 |true=>exact h
 |false=>exact⟨h.1.set (Jwa (h.1.get (by have:=h.2;omega))),by rw[cond_false,cond_false,Vx];exact h.2⟩
def Nq {w:Wld} {s:ByteArray} {x:Int} (h:x∈O4 w s):0≤x∧x<(w.2.2.1.length:Int):=by
 obtain⟨j,h1,_,rfl⟩:=E7a.1 h
 omega
def T4a {w:Wld} {s:ByteArray} (hr:Ik w.2.1 w.1=true) (hn:w.2.2.1.length≤2000000):(O4 w s).length≤4000000000000:=Pz hn (Tr (Lr hr) s)
def Dhb {w:Wld} {i:Nat} {s:ByteArray} {rc:List Int} (hn:NS w.2.2.1):NS (puN w i s rc).1∧(puN w i s rc).1.length=w.2.2.1.length:=
 Mc (λ _ (b:List Nod×Bool×Bool)=>NS b.1∧b.1.length=w.2.2.1.length) ⟨hn,rfl⟩ (λ j b hj hb=>Yda hb (by have:=Nq (A4 (d:=0) hj);omega))
def Wra (w:Wld) (i:Nat) (s:ByteArray) (rc:List Int) (hr:Ik w.2.1 w.1=true) (hn:NS w.2.2.1) (hi:i<w.2.2.1.length):Tot (λ k=>Co k w (i:Int) s rc) (λ r=>r=E9a w i s rc):=by
 have hni:=hn.get hi
 unfold Co E9a
 have e0:w.2.2.1.getD i ((0:Int),(([],[]),([],[])))=w.2.2.1.getD i Ar:=rfl
 simp (disch:=omega) only [dT,Vb,e0]
 have hin:=(Rs hni).1
 refine Fpb (Xf hin.1.1.1.1 hin.2.1 s) ?_
 cases hl:(lkD (w.2.2.1.getD i Ar).2.1 s).2 != 0
 case true=>exact Fgb rfl (Fdb rfl)
 refine Ffb rfl ?_
 rw[cond_false]
 have hlk:∃ b,gt (w.2.2.1.getD i Ar).2.1.1 s=some b:=by
  rw[bne,Wh,beq_iff_eq]at hl
  obtain⟨b,hb,_⟩:=Qv.1 (show lkD (w.2.2.1.getD i Ar).2.1 s=((lkD (w.2.2.1.getD i Ar).2.1 s).1,0) from by rw[← hl])
  exact⟨b,hb⟩
 have hs:Bc s=true:=S4a hni.g.1 (by obtain⟨b,hb⟩:=hlk;rw[hb];rfl)
 have hsz:s.size≤1000000000:=by
  have:=Cy.1 (Va _ _ ▸ hs:_∧_).2
  omega
 refine Fpb (Xj _ s (Lr hr) hsz) ?_
 refine Fpb (Rq w _ hn.1 (Tr (Lr hr) s)) ?_
 have hpl:=T4a (s:=s) hr hn.1
 have hc:=λ x=>Nq (w:=w) (s:=s) (x:=x)
 have hrun:puN w i s rc=run (pst (i:Int) s (lkD (w.2.2.1.getD i Ar).2.1 s).1 rc (O4 w s)) (O4 w s).length (w.2.2.1,false,true):=rfl
 obtain⟨p1,p2⟩:=Dhb (w:=w) (i:=i) (s:=s) (rc:=rc) hn
 have inv:∀ n,n≤(O4 w s).length→NS (run (pst (i:Int) s (lkD (w.2.2.1.getD i Ar).2.1 s).1 rc (O4 w s)) n (w.2.2.1,false,true)).1∧(run (pst (i:Int) s (lkD (w.2.2.1.getD i Ar).2.1 s).1 rc (O4 w s)) n (w.2.2.1,false,true)).1.length=w.2.2.1.length:=λ n hn'=>
  Mc (λ _ (b:List Nod×Bool×Bool)=>NS b.1∧b.1.length=w.2.2.1.length) ⟨hn,rfl⟩ (λ j b hj hb=>Yda hb (by have:=hc _ (A4 (d:=0) (show j<(O4 w s).length by omega));omega))
 rw[show whr w.2.2.1 (V2 w.2.1 s)=O4 w s from rfl]
 generalize (lkD (w.2.2.1.getD i Ar).2.1 s).1=f at *
 generalize O4 w s=ps at *
 refine Feb (Q:=λ r=>r=((i:Int),s,(puN w i s rc).2.1,(puN w i s rc).2.2,wN w (puN w i s rc).1)) ?_ ?_
 ·refine Fmb (L:=λ k j (a:List Nod×Bool×Bool)=>Bl k (i:Int) s rc ps a.2.1 a.2.2 j (wN w a.1) f) (Q:=λ r=>r=((i:Int),s,(puN w i s rc).2.1,(puN w i s rc).2.2,wN w (puN w i s rc).1)) ps.length (λ j a=>a=run (pst (i:Int) s f rc ps) j (w.2.2.1,false,true)) ?_ ?_ 0 (w.2.2.1,false,true) (Vs _) rfl
  ·rintro a rfl
   simp (disch:=omega) only [Bl,dF]
   exact Fdb (by rw[hrun])
  ·rintro j a hj rfl next
   obtain⟨i1,i2⟩:=inv j (by omega)
   rw[Q0]at next
   generalize run (pst (i:Int) s f rc ps) j (w.2.2.1,false,true)=a at *
   obtain⟨ns,o,g⟩:=a
   dsimp only at i1 i2
   have hci:=hc _ (A4 (d:=0) hj)
   obtain⟨m,em⟩:∃ m:Nat,ps.getD j 0=(m:Int):=⟨(ps.getD j 0).toNat,by omega⟩
   rw[em]at hci
   unfold pst at next
   rw[em,Vb]at next
   have e0:ns.getD m ((0:Int),(([],[]),([],[])))=ns.getD m Ar:=rfl
   simp (disch:=omega) only [Bl,dT,Vb,w64,em,wN]
   cases hz:(m:Int)==(i:Int) with
   |true=>
    rw[hz]at next
    exact Fgb rfl (next _ rfl)
   |false=>
    rw[hz]at next
    refine Ffb rfl ?_
    simp only[Jva,Vo]
    cases h1:rch rc j != 1 with
    |true=>
     rw[h1]at next
     exact Fgb rfl (next _ rfl)
    |false=>
     rw[h1]at next
     refine Ffb rfl ?_
     simp (disch:=omega) only [dT,Vb,e0]
     have hm:=Rs (i1.get (i:=m) (by omega))
     refine Fpb (M2a (ns.getD m Ar).2.1 s f true hm.1.1 hm.1.2.1 (Jh hs)) ?_
     dsimp only at next
     generalize keep (ns.getD m Ar).2.1 s f true=q at *
     cases h2:q.2 != 0
     ·rw[h2]at next;exact Ffb rfl (next _ rfl)
     rw[h2]at next
     refine Fgb rfl ?_
     cases h3:q.2 != 1 with
     |true=>rw[h3]at next;exact Fgb rfl (next _ rfl)
     |false=>rw[h3]at next;exact Ffb rfl (next _ rfl)
 ·rintro r rfl
  dsimp only[wN]
  generalize puN w i s rc=a at *
  obtain⟨ns,o,g⟩:=a
  dsimp only at p1 p2 ⊢
  cases g
  ·exact Ffb rfl (Fdb rfl)
  refine Fgb rfl ?_
  cases o
  case true=>exact Ffb rfl (Fdb rfl)
  refine Fgb rfl ?_
  have e0:ns.getD i ((0:Int),(([],[]),([],[])))=ns.getD i Ar:=rfl
  have hil:(i:Int)<(ns.length:Int):=by omega
  simp (disch:=omega) only [dT,Vb,e0]
  have hg:=(p1.get (i:=i) (by omega)).g
  refine Fpb (Px hg.1 (Jh hs)) ?_
  refine Fpb (Qu (S5a hg).1 hs) ?_
  exact Fdb rfl

def tk (n:Nod) (l:List Row):Bool×Nod:=bif decide ((Nl n.2.2.1 l).length > 60) then (false,n) else (true,(n.1,n.2.1,Nl n.2.2.1 l,n.2.2.2))
def Eob {n:Nod} {l:List Row} (hn:NG n) (hl:J7 l=true):NG (tk n l).2:=by
 obtain⟨h1,h2,h3,h4,h5⟩:=B1.1 hn.1
 unfold tk
 by_cases h:(Nl n.2.2.1 l).length > 60
 ·rw[decide_eq_true h];exact hn
 ·rw[decide_eq_false h]
  exact⟨B1.2 ⟨h1,h2,h3,Aba h4 hl (by omega),h5⟩,hn.2⟩
def gst (src:Int) (l:List Row) (self:Bool) (rc ls:List Int) (a:List Nod×Bool) (j:Nat):List Nod×Bool:=
 bif ls.getD j 0==src&&!self then a else bif rch rc j != 1 then (a.1,false) else
  (a.1.set (ls.getD j 0).toNat (tk (a.1.getD (ls.getD j 0).toNat Ar) l).2,bif (tk (a.1.getD (ls.getD j 0).toNat Ar) l).1 then a.2 else false)
def Kx (w:Wld) (src:Int) (l:List Row) (self:Bool) (rc:List Int):List Nod×Bool:=run (gst src l self rc (D8 w)) (D8 w).length (w.2.2.1,true)
def T5a {src:Int} {l:List Row} {self:Bool} {rc ls:List Int} {a:List Nod×Bool} {j m:Nat} (hl:J7 l=true) (h:NS a.1∧a.1.length=m) (hc:(ls.getD j 0).toNat<m):NS (gst src l self rc ls a j).1∧(gst src l self rc ls a j).1.length=m:=by
 unfold gst
 cases ls.getD j 0==src&&!self
 case true=>exact h
 cases rch rc j != 1 with
 |true=>exact h
 |false=>exact⟨h.1.set (Eob (h.1.get (by have:=h.2;omega)) hl),by rw[cond_false,cond_false,Vx];exact h.2⟩
def N6 {w:Wld} {x:Int} (h:x∈D8 w):0≤x∧x<(w.2.2.1.length:Int):=by
 obtain⟨j,h1,_,rfl⟩:=E7a.1 h
 omega
def O5 {w:Wld} (hr:RBd w.2.1) (hn:w.2.2.1.length≤2000000):(D8 w).length≤4000000000000:=Pz hn (Tr hr _)
def Tt {w:Wld} {src:Int} {l:List Row} {self:Bool} {rc:List Int} (hl:J7 l=true) (hn:NS w.2.2.1):NS (Kx w src l self rc).1∧(Kx w src l self rc).1.length=w.2.2.1.length:=
 Mc (λ _ (b:List Nod×Bool)=>NS b.1∧b.1.length=w.2.2.1.length) ⟨hn,rfl⟩ (λ j b hj hb=>T5a hl hb (by have:=N6 (A4 (d:=0) hj);omega))
def Mma (w:Wld) (src:Int) (l:List Row) (self:Bool) (rc:List Int) (hr:RBd w.2.1) (hn:NS w.2.2.1) (hl:J7 l=true):
  Tot (λ k=>Bs k w src l self rc) (λ r=>r=((Kx w src l self rc).2,wN w (Kx w src l self rc).1)):=by
 have hll:=(Uw hl).1
 unfold Bs
 refine Fpb (Ama w hr hn.1) ?_
 have hpl:=O5 hr hn.1
 have hc:=λ x=>N6 (w:=w) (x:=x)
 have hrun:Kx w src l self rc=run (gst src l self rc (D8 w)) (D8 w).length (w.2.2.1,true):=rfl
 have inv:∀ n,n≤(D8 w).length→NS (run (gst src l self rc (D8 w)) n (w.2.2.1,true)).1∧(run (gst src l self rc (D8 w)) n (w.2.2.1,true)).1.length=w.2.2.1.length:=λ n hn'=>
  Mc (λ _ (b:List Nod×Bool)=>NS b.1∧b.1.length=w.2.2.1.length) ⟨hn,rfl⟩ (λ j b hj hb=>T5a hl hb (by have:=hc _ (A4 (d:=0) (show j<(D8 w).length by omega));omega))
 generalize D8 w=ls at *
 refine Feb (Q:=λ r=>r=((Kx w src l self rc).2,wN w (Kx w src l self rc).1)) ?_ (by rintro r rfl;exact Fdb rfl)
 refine Fmb (L:=λ k j (a:List Nod×Bool)=>Ai k src l self rc ls a.2 j (wN w a.1)) (Q:=λ r=>r=((Kx w src l self rc).2,wN w (Kx w src l self rc).1)) ls.length (λ j a=>a=run (gst src l self rc ls) j (w.2.2.1,true)) ?_ ?_ 0 (w.2.2.1,true) (Vs _) rfl
 ·rintro a rfl
  simp (disch:=omega) only [Ai,dF]
  exact Fdb (by rw[hrun])
 ·rintro j a hj rfl next
  obtain⟨i1,i2⟩:=inv j (by omega)
  rw[Q0]at next
  generalize run (gst src l self rc ls) j (w.2.2.1,true)=a at *
  obtain⟨ns,g⟩:=a
  dsimp only at i1 i2
  have hci:=hc _ (A4 (d:=0) hj)
  obtain⟨m,em⟩:∃ m:Nat,ls.getD j 0=(m:Int):=⟨(ls.getD j 0).toNat,by omega⟩
  rw[em]at hci
  unfold gst at next
  rw[em,Vb]at next
  have e0:ns.getD m ((0:Int),(([],[]),([],[])))=ns.getD m Ar:=rfl
  have hm:=Rs (i1.get (i:=m) (by omega))
  have h12:=C9a (ns.getD m Ar) l hm.2.1.1 hll
  rw[show (bif decide ((Nl (ns.getD m Ar).2.2.1 l).length > 60) then (false,(ns.getD m Ar)) else (true,((ns.getD m Ar).1,(ns.getD m Ar).2.1,Nl (ns.getD m Ar).2.2.1 l,(ns.getD m Ar).2.2.2)))=tk (ns.getD m Ar) l from rfl]at h12
  have body:(bif (m:Int)==src&&!self then false else true)=true→Tot (λ k=>(C7 rc (j:Int)).bind λ r2=>cond (r2 != 1) (Ai k src l self rc ls false ((j:Int)+1) (wN w ns)) (cond (decide ((0:Int)≤(m:Int))) (cond (decide ((m:Int)<(length ns:Int))) ((Hn k (ns.getD m Ar) l).bind λ r5=>cond (!r5.1) (Ai k src l self rc ls false ((j:Int)+1) (wN w (ns.set m r5.2))) (Ai k src l self rc ls g ((j:Int)+1) (wN w (ns.set m r5.2)))) none) none)) (λ r=>r=((Kx w src l self rc).2,wN w (Kx w src l self rc).1)):=by
   intro hb
   have hb':((m:Int)==src&&!self)=false:=by
    cases hx:((m:Int)==src&&!self) with
    |false=>rfl
    |true=>rw[hx]at hb;cases hb
   rw[hb']at next
   simp only[Jva,Vo]
   cases h1:rch rc j != 1 with
   |true=>
    rw[h1]at next
    exact Fgb rfl (next _ rfl)
   |false=>
    rw[h1]at next
    refine Ffb rfl (Fhb (by omega) (Fhb (by omega) (Feb h12 ?_)))
    rintro q rfl
    dsimp only at next
    generalize tk (ns.getD m Ar) l=q at *
    cases h2:q.1 with
    |false=>rw[h2]at next;exact Fgb rfl (next _ rfl)
    |true=>rw[h2]at next;exact Ffb rfl (next _ rfl)
  simp (disch:=omega) only [Ai,dT,Vb,w64,em,e0]
  cases hz:(m:Int)==src with
  |true=>
   rw[hz]at next body
   refine Fgb rfl ?_
   cases self
   ·exact Fgb rfl (next _ rfl)
   refine Ffb rfl ?_
   have:=body rfl
   dsimp only[wN]at this ⊢
   simp (disch:=omega) only [dT]at this
   exact this
  |false=>
   rw[hz]at next body
   refine Ffb rfl ?_
   have:=body rfl
   dsimp only[wN]at this ⊢
   simp (disch:=omega) only [dT]at this
   exact this
def Oaa {r:Row} (h:Mo r=true):J7 [r]=true:=Kw.2 ⟨Gjb _ _,λ x hx=>by rw[Vt.1 hx];exact h,by simp⟩
def V3:J7 []=true:=Kw.2 ⟨List.Pairwise.nil,(λ _ hx=>nomatch hx),Vs _⟩
def Haa (n:Nod):Nod:=(n.1,n.2.1,[],n.2.2.2)
def Dib (n:Nod) (q:List Row):Nod:=(n.1,n.2.1,n.2.2.1,q)
def Mna {n:Nod} (hn:NG n):NG (Haa n):=by
 obtain⟨h1,h2,h3,h4,h5⟩:=B1.1 hn.1
 exact⟨B1.2 ⟨h1,h2,h3,V3,h5⟩,hn.2⟩
def Yea {n:Nod} {q:List Row} (hn:NG n) (h:∀ r∈q,Mo r=true) (hl:q.length≤60):NG (Dib n q):=by
 obtain⟨h1,h2,h3,h4,h5⟩:=B1.1 hn.1
 exact⟨B1.2 ⟨h,h2,h3,h4,hl⟩,hn.2⟩
def Mw (w:Wld) (i:Nat) (rc:List Int):List Nod×Bool:=Kx w (i:Int) (w.2.2.1.getD i Ar).2.2.1 false rc
def Mt (w:Wld) (i:Nat) (rc:List Int):Bool×Wld:=bif ((w.2.2.1.getD i Ar).2.2.1.length:Int)==0 then (false,w) else
 (true,wN w (bif (Mw w i rc).2&&!(Mr (D8 (wN w (Mw w i rc).1)) (i:Int)) then (Mw w i rc).1.set i (Haa ((Mw w i rc).1.getD i Ar)) else (Mw w i rc).1))
def Hba (w:Wld) (i:Nat) (rc:List Int) (hr:RBd w.2.1) (hn:NS w.2.2.1) (hi:i<w.2.2.1.length):Tot (λ k=>D6 k w (i:Int) rc) (λ r=>r=Mt w i rc):=by
 have hni:=hn.get hi
 have e0:w.2.2.1.getD i ((0:Int),(([],[]),([],[])))=w.2.2.1.getD i Ar:=rfl
 have hl:=(B1.1 hni.1).2.2.2.1
 unfold D6 Mt
 simp (disch:=omega) only [dT,Vb,e0]
 cases hz:((w.2.2.1.getD i Ar).2.2.1.length:Int)==0
 case true=>exact Fgb rfl (Fdb rfl)
 refine Ffb rfl (Fpb (Mma w (i:Int) _ false rc hr hn hl) ?_)
 obtain⟨p1,p2⟩:=Tt (w:=w) (src:=(i:Int)) (self:=false) (rc:=rc) hl hn
 rw[show Kx w (i:Int) (w.2.2.1.getD i Ar).2.2.1 false rc=Mw w i rc from rfl]at p1 p2 ⊢
 generalize Mw w i rc=a at *
 obtain⟨ns,g⟩:=a
 dsimp only at p1 p2 ⊢
 cases g
 ·exact Ffb rfl (Fdb rfl)
 refine Fgb rfl ?_
 refine Feb (Q:=λ r=>r=Mr (D8 (wN w ns)) (i:Int)) ?_ ?_
 ·unfold Iq
  refine Fpb (Ama (wN w ns) hr p1.1) ?_
  refine Fpb (Sn _ _ (by have:=O5 (w:=wN w ns) hr p1.1;omega)) ?_
  exact Fdb rfl
 ·rintro b rfl
  cases Mr (D8 (wN w ns)) (i:Int)
  case true=>exact Ffb rfl (Fdb rfl)
  have e1:ns.getD i ((0:Int),(([],[]),([],[])))=ns.getD i Ar:=rfl
  refine Fgb rfl ?_
  simp (disch:=omega) only [dT,Vb,e1]
  exact Fdb rfl
def O6 (w:Wld) (i:Nat) (rc:List Int):List Nod×Bool:=Kx w (i:Int) ((w.2.2.1.getD i Ar).2.2.2.take 1) true rc
def Ng (w:Wld) (i:Nat) (rc:List Int):Bool×Wld:=bif ((w.2.2.1.getD i Ar).2.2.2.length:Int)==0 then (false,w) else
 (true,wN w (bif (O6 w i rc).2 then (O6 w i rc).1.set i (Dib ((O6 w i rc).1.getD i Ar) ((w.2.2.1.getD i Ar).2.2.2.drop 1)) else (O6 w i rc).1))
def N7 {q:List Row} (h:∀ r∈q,Mo r=true):J7 (q.take 1)=true:=by
 cases q with
 |nil=>exact V3
 |cons r q=>exact Oaa (h r Za)
def Hca (w:Wld) (i:Nat) (rc:List Int) (hr:RBd w.2.1) (hn:NS w.2.2.1) (hi:i<w.2.2.1.length):Tot (λ k=>D5 k w (i:Int) rc) (λ r=>r=Ng w i rc):=by
 have hni:=hn.get hi
 have e0:w.2.2.1.getD i ((0:Int),(([],[]),([],[])))=w.2.2.1.getD i Ar:=rfl
 obtain⟨hq,_,_,_,hq60⟩:=B1.1 hni.1
 have hl:=N7 hq
 unfold D5 Ng
 simp (disch:=omega) only [dT,Vb,e0]
 cases hz:((w.2.2.1.getD i Ar).2.2.2.length:Int)==0
 case true=>exact Fgb rfl (Fdb rfl)
 have h1:=beq_eq_false_iff_ne.1 hz
 refine Ffb rfl (Fhb (by omega) (Fpb (Mma w (i:Int) _ true rc hr hn hl) ?_))
 obtain⟨p1,p2⟩:=Tt (w:=w) (src:=(i:Int)) (self:=true) (rc:=rc) hl hn
 rw[show Kx w (i:Int) ((w.2.2.1.getD i Ar).2.2.2.take (toNat 1)) true rc=O6 w i rc from rfl]
 rw[show Kx w (i:Int) ((w.2.2.1.getD i Ar).2.2.2.take 1) true rc=O6 w i rc from rfl]at p1 p2
 generalize O6 w i rc=a at *
 obtain⟨ns,g⟩:=a
 dsimp only at p1 p2 ⊢
 cases g
 ·exact Ffb rfl (Fdb rfl)
 refine Fgb rfl (Fhb (by omega) (Flb (by rw[Wf,Vj];omega) ?_))
 have e1:ns.getD i ((0:Int),(([],[]),([],[])))=ns.getD i Ar:=rfl
 simp (disch:=omega) only [dT,Vb,e1,Vz]
 exact Fdb rfl
def T6a:∀ (k:Nat) (l:List ByteArray) (s:ByteArray),k<l.length→∃ j,j≤k∧(Hra l k s).2=j∧(Hra l k s).1.set j s=l.take j++s::((l.take k).drop j++l.drop (k+1))∧(∀ y∈(l.take k).drop j,tlt s y=true)∧(0<j→tlt s (l.getD (j-1) O7)=false)
 |0,l,s,hk=>by
  refine⟨0,Vw _,rfl,?_,λ y hy=>by simp at hy,λ h=>by omega⟩
  cases l with
  |nil=>simp at hk
  |cons x l=>rfl
 |k+1,l,s,hk=>by
  unfold Hra
  cases hc:tlt s (l.getD k O7) with
  |false=>
   rw[cond_false]
   refine⟨k+1,Vw _,rfl,?_,λ y hy=>?_,λ _=>hc⟩
   ·rw[Gtb,Gib,Fxb,Vz]
    exact G6b .. |>.trans (if_pos hk)
   ·rw[Gtb,Gib,Fxb]at hy;cases hy
  |true=>
   rw[cond_true]
   obtain⟨j,h1,h2,h3,h4,h5⟩:=T6a k (l.set (k+1) (l.getD k O7)) s (by rw[Vx];omega)
   have t1:(l.set (k+1) (l.getD k O7)).take j=l.take j:=by rw[Htb (by omega)]
   have t2:(l.set (k+1) (l.getD k O7)).take k=l.take k:=by rw[Htb (by omega)]
   have t3:(l.set (k+1) (l.getD k O7)).drop (k+1)=l.getD k O7::l.drop (k+2):=by
    rw[Yx (by rw[Vx];exact hk),List.getElem_set_self,List.drop_set_of_lt (by omega)]
   have t4:l.take (k+1)=l.take k++[l.getD k O7]:=by
    rw[Wj (by omega),Vd,Vk (by omega),Yp]
   have hlk:(l.take k).length=k:=by rw[Vu];omega
   rw[t1,t2,t3]at h3
   rw[t2]at h4
   refine⟨j,by omega,h2,?_,λ y hy=>?_,λ h=>?_⟩
   ·rw[h3,t4,Hmb (by omega),Vp]
    rfl
   ·rw[t4,Hmb (by omega)]at hy
    rcases Vn.1 hy with hy|hy
    ·exact h4 y hy
    ·rw[Vt.1 hy];exact hc
   ·have:=h5 h
    rwa [Vd,Grb (by omega),← Vd]at this
def Cca {l:List ByteArray} {s:ByteArray}:∃ j,j≤l.length∧Yaa l s=l.take j++s::l.drop j∧(∀ y∈l.drop j,tlt s y=true)∧(0<j→tlt s (l.getD (j-1) O7)=false):=by
 obtain⟨j,h1,h2,h3,h4,h5⟩:=T6a l.length (l++[s]) s (by simp)
 have t1:(l++[s]).take l.length=l:=by rw[Hnb (Vw _),Yt]
 have t2:(l++[s]).drop (l.length+1)=[]:=H9b (by simp)
 have t3:(l++[s]).take j=l.take j:=Hnb h1
 rw[t1]at h4
 rw[t1,t2,t3,Wq]at h3
 refine⟨j,h1,?_,h4,λ h=>?_⟩
 ·unfold Yaa
  rw[h2,h3]
 ·have:=h5 h
  rwa [Vd,Yc (by omega),← Vd]at this
def spl (l:List ByteArray) (s:ByteArray):List ByteArray:=bif Eea l s then l else Yaa l s
def Eaa {l:List ByteArray} {s y:ByteArray}:y∈spl l s↔y=s∨y∈l:=by
 unfold spl
 cases h:Eea l s with
 |true=>
  have:=Mka.1 h
  exact⟨.inr,λ h=>h.elim (λ e=>e ▸ this) id⟩
 |false=>
  obtain⟨j,_,e,_⟩:=Cca (l:=l) (s:=s)
  rw[cond_false,e,Vn,Vl]
  conv=>rhs;rw[← Wm j l,Vn]
  constructor
  ·rintro (h|h|h)
   ·exact .inr (.inl h)
   ·exact .inl h
   ·exact .inr (.inr h)
  ·rintro (h|h|h)
   ·exact .inr (.inl h)
   ·exact .inl h
   ·exact .inr (.inr h)
def Cda {l:List ByteArray} {s:ByteArray} (h:TS l):TS (spl l s):=by
 unfold spl
 cases hh:Eea l s
 case true=>exact h
 have hn:s∉l:=λ c=>by rw[Mka.2 c]at hh;cases hh
 obtain⟨j,h1,e,h4,h5⟩:=Cca (l:=l) (s:=s)
 rw[cond_false,e]
 have hs:∀ y∈l.take j,tlt y s=true:=by
  intro y hy
  by_cases hj:0<j
  ·have hlast:l.getD (j-1) O7∈l:=A4 (by omega)
   have hlt:tlt (l.getD (j-1) O7) s=true:=by
    cases hc:tlt (l.getD (j-1) O7) s with
    |true=>rfl
    |false=>exact absurd (Z7 hc (h5 hj) ▸ hlast) hn
   obtain⟨i,hi,rfl⟩:=Zl.1 hy
   rw[Vu]at hi
   rw[List.getElem_take]
   by_cases hij:i=j-1
   ·subst hij
    rwa [Vd,Vk (by omega),Yp]at hlt
   ·have:=Ftb.1 h i (j-1) (by omega) (by omega) (by omega)
    rw[Vd,Vk (by omega),Yp]at hlt
    exact M7 this hlt
  ·rw[show j=0 by omega,Fxb]at hy;cases hy
 have hd:TS (l.drop j):=h.sublist (List.drop_sublist _ _)
 have ht:TS (l.take j):=h.sublist (I9b _ _)
 exact Zb.2 ⟨ht,Wg.2 ⟨h4,hd⟩,λ a ha b hb=>by
  rcases Vl.1 hb with rfl|hb
  ·exact hs a ha
  ·exact M7 (hs a ha) (h4 b hb)⟩
def T7a (l:List ByteArray) (s:ByteArray) (hl:l.length≤5000000):Tot (λ k=>Dd k l s) (λ r=>r=spl l s):=by
 unfold Dd spl
 refine Fpb (Mla l s (by omega)) ?_
 cases Eea l s
 case true=>exact Fgb rfl (Fdb rfl)
 have loop:∀ (k:Nat) (x:List ByteArray),k<x.length→x.length≤5000001→Tot (λ n=>Eo n s x (k:Int)) (λ r=>r=(s,(Hra x k s).1,((Hra x k s).2:Int))):=by
  intro k
  induction k with
  |zero=>
   intro x hk hx
   refine Tot.succ ?_
   simp (disch:=omega) only [Eo,dF]
   exact Fdb rfl
  |succ k ih=>
   intro x hk hx
   refine Tot.succ ?_
   have e1:((k+1:Nat):Int)-1=(k:Int):=by omega
   have e0:x.getD k (⟨#[]⟩:ByteArray)=x.getD k O7:=rfl
   simp (disch:=omega) only [Eo,dT,w64,e1,Vb,e0,Fya]
   unfold Hra
   refine Fjb (λ h=>?_) (λ h=>?_)
   ·rw[h,cond_true]
    exact ih _ (by rw[Vx];omega) (by rw[Vx];omega)
   ·rw[h,cond_false]
    exact Fdb rfl
 have n0:([]:List ByteArray).length=0:=rfl
 have n1:([s]:List ByteArray).length=1:=rfl
 have nl:(l++[s]).length=l.length+1:=by simp
 refine Ffb rfl (Flb (by rw[n0];omega) ?_)
 simp only[Vz]
 refine Flb (by rw[n1];omega) ?_
 rw[nl,w64 (n:=((l.length+1:Nat):Int)-1) (by omega) (by omega),show ((l.length+1:Nat):Int)-1=(l.length:Int) by omega]
 refine Fpb (loop l.length (l++[s]) (by omega) (by omega)) ?_
 obtain⟨i1,i2,_⟩:=Aja l.length (l++[s]) s
 simp (disch:=omega) only [dT,Vb]
 exact Fdb rfl

abbrev Evt:=Int×Int×ByteArray×List Int×Int×List Int
def E7b (e:Evt):Prop:=Kd e.2.2.1∧e.2.2.2.1.length≤1000000000∧(-9223372036854775808≤e.2.2.2.2.1∧e.2.2.2.2.1≤9223372036854775807)∧e.2.2.2.2.2.length≤4000000000000
def Hda (l:List Int):List Bool:=l.map (· == 1)
def crN (n:Nod) (kp:List Bool):Nod:=(n.1,Sp n.2.1 kp,n.2.2)
def Djb {n:Nod} {kp:List Bool} (hn:NG n):NG (crN n kp):=Dza hn (Sra hn.g)
def Aqb (w:Wld) (i:Nat) (s:ByteArray) (b:Int):Bool×Wld:=bif (Gra (w.2.2.1.getD i Ar) s b).2 then (true,(w.1,w.2.1,w.2.2.1.set i (Gra (w.2.2.1.getD i Ar) s b).1,w.2.2.2.1,w.2.2.2.2.1,spl w.2.2.2.2.2 s)) else (false,w)
def B9a (w:Wld) (e:Evt) (i:Nat):Bool×Wld:=
 bif e.1==3 then E9a w i e.2.2.1 e.2.2.2.2.2 else bif e.1==4 then Mt w i e.2.2.2.2.2 else bif e.1==5 then Ng w i e.2.2.2.2.2 else
 bif e.1==6 then (true,wN w (w.2.2.1.set i (F1b (w.2.2.1.getD i Ar)).1)) else
 bif e.1==7 then (true,wN w (w.2.2.1.set i (crN (w.2.2.1.getD i Ar) (Hda e.2.2.2.2.2)))) else Aqb w i e.2.2.1 e.2.2.2.2.1
def T8a (w:Wld) (e:Evt) (i:Nat) (hei:e.2.1=(i:Int)) (he:E7b e) (hr:Ik w.2.1 w.1=true) (hn:NS w.2.2.1) (hi:i<w.2.2.1.length) (hsp:w.2.2.2.2.2.length≤2000000):
  Tot (λ k=>Az k w e) (λ r=>r=B9a w e i):=by
 have hni:=hn.get hi
 have e0:w.2.2.1.getD i ((0:Int),(([],[]),([],[])))=w.2.2.1.getD i Ar:=rfl
 obtain⟨he1,he2,he3,he4⟩:=he
 unfold Az B9a
 cases e.1==3 with
 |true=>
  rw[hei]
  refine Fgb rfl (Fpb (Wra w i _ _ hr hn hi) ?_)
  exact Fdb rfl
 |false=>
  refine Ffb rfl ?_
  cases e.1==4 with
  |true=>
   rw[hei]
   refine Fgb rfl (Fpb (Hba w i _ (Lr hr) hn hi) ?_)
   exact Fdb rfl
  |false=>
   refine Ffb rfl ?_
   cases e.1==5 with
   |true=>
    rw[hei]
    refine Fgb rfl (Fpb (Hca w i _ (Lr hr) hn hi) ?_)
    exact Fdb rfl
   |false=>
    refine Ffb rfl ?_
    cases e.1==6 with
    |true=>
     refine Fgb rfl ?_
     simp (disch:=omega) only [hei,dT,Vb,e0]
     refine Fpb (Sva _ hni.g) ?_
     exact Fdb rfl
    |false=>
     refine Ffb rfl ?_
     cases e.1==7 with
     |true=>
      refine Fgb rfl (Feb (Q:=λ r=>r=(Hda e.2.2.2.2.2,w,e)) ?_ ?_)
      ·refine Fmb (L:=λ k j (s:List Bool)=>Cu k s j w e) (Q:=λ r=>r=(Hda e.2.2.2.2.2,w,e)) e.2.2.2.2.2.length (λ j s=>s=Hda (e.2.2.2.2.2.take j)) ?_ ?_ 0 [] (Vs _) rfl
       ·rintro s rfl
        simp (disch:=omega) only [Cu,dF]
        exact Fdb (by rw[Yt])
       ·rintro j s hj rfl next
        simp (disch:=omega) only [Cu,dT,Vb,w64]
        have hk:(Hda (e.2.2.2.2.2.take j)).length=j:=by unfold Hda;rw[Wc,Vu];omega
        refine Flb (by rw[hk,Hfb];omega) (next _ ?_)
        unfold Hda
        rw[Wj hj,G1b,Vd,Vk hj]
        rfl
      ·rintro r rfl
       simp (disch:=omega) only [hei,dT,Vb,e0]
       refine Fpb (Sua _ _ hni.g (by unfold Hda;rw[Wc];exact he4)) ?_
       exact Fdb rfl
     |false=>
      refine Ffb rfl ?_
      simp (disch:=omega) only [hei,dT,Vb,e0]
      refine Fpb (Sk _ _ _ (Rs hni) he3.2 he3.1) ?_
      unfold Aqb
      rw[cond_false,cond_false,cond_false,cond_false,cond_false]
      generalize Gra (w.2.2.1.getD i Ar) e.2.2.1 e.2.2.2.2.1=q
      cases h:q.2 with
      |true=>
       refine Fgb rfl (Fpb (T7a _ _ (by omega)) ?_)
       exact Fdb rfl
      |false=>exact Ffb rfl (Fdb rfl)
def Hea (w:Wld) (i wt:Int):Bool×Wld:=bif !(inR i 0 ((w.1.length:Int)-1)) then (false,w) else bif !(inR wt 1 1000) then (false,w) else
 (decide ((Jqa w.2.1 (wgt w.1 i.toNat wt)).2≥0),(wgt w.1 i.toNat wt,(Jqa w.2.1 (wgt w.1 i.toNat wt)).1,w.2.2))
def T9a (w:Wld) (i wt:Int) (hr:Ik w.2.1 w.1=true):Tot (λ k=>H0 k w i wt) (λ r=>r=Hea w i wt):=by
 have h12:=(Fg.1 (Cd.1 hr).1).2.2.2
 unfold H0 Hea
 rw[w64 (n:=(w.1.length:Int)-1) (by omega) (by omega)]
 simp only[Nb,Vo]
 cases h1:inR i 0 ((w.1.length:Int)-1)
 ·exact Fgb rfl (Fdb rfl)
 refine Ffb rfl ?_
 cases h2:inR wt 1 1000
 ·exact Fgb rfl (Fdb rfl)
 refine Ffb rfl ?_
 obtain⟨i0,i1⟩:=Cy.1 h1
 obtain⟨w0,w1⟩:=Cy.1 h2
 simp (disch:=omega) only [dT]
 refine Fpb (Soa (r:=w.2.1) (l:=wgt w.1 i.toNat wt) (Dwa hr (by omega) w0 w1)) ?_
 exact Fdb rfl
def Tza (r:Int×Wld):Bool×Wld:=bif r.1 != 2 then (r.1 != 3,r.2) else (false,r.2)
def doW (w:Wld) (e:Evt):Bool×Wld:=
 bif e.1==1 then Tza (ask w e.2.2.1 ((0,0,0),false,e.2.2.2.1) e.2.2.2.2.1 e.2.2.2.2.2) else
 bif e.1==2 then Tza (ask w e.2.2.1 ((0,0,0),true,[]) e.2.2.2.2.1 e.2.2.2.2.2) else
 bif e.1==3||(e.1==4||(e.1==5||(e.1==6||(e.1==7||e.1==8)))) then (bif inR e.2.1 0 ((w.2.2.1.length:Int)-1) then B9a w e e.2.1.toNat else (false,w)) else
 bif e.1==9 then Hea w e.2.1 e.2.2.2.2.1 else (false,w)
def Dkb (w:Wld) (e:Evt) (he:E7b e) (hr:Ik w.2.1 w.1=true) (hn:NS w.2.2.1) (hst:Ga w.2.2.2.1=true) (hw:w.2.2.2.2.1.length≤2000000) (hsp:w.2.2.2.2.2.length≤2000000):
  Tot (λ k=>Ih k w e) (λ r=>r=doW w e):=by
 have hnl:=hn.1
 have node:∀ {f:Nat→Option (Bool×Wld)} ,Tot (λ k=>(A6 e.2.1 0 (wrap .i64 ((length w.2.2.1:Int)-1))).bind λ r4=>cond r4 ((Az k w e).bind λ r5=>some (r5.1,r5.2)) (some (false,w))) (λ r=>r=bif inR e.2.1 0 ((w.2.2.1.length:Int)-1) then B9a w e e.2.1.toNat else (false,w)):=by
  intro f
  rw[w64 (n:=(w.2.2.1.length:Int)-1) (by omega) (by omega)]
  simp only[Nb,Vo]
  cases h1:inR e.2.1 0 ((w.2.2.1.length:Int)-1)
  ·exact Ffb rfl (Fdb rfl)
  obtain⟨i0,i1⟩:=Cy.1 h1
  refine Fgb rfl (Fpb (T8a w e e.2.1.toNat (by omega) he hr hn (by omega) hsp) ?_)
  exact Fdb rfl
 have answer:∀ (q:Int×Wld),Tot (λ _=>cond (q.1 != 2) (some (q.1 != 3,q.2)) (some (false,q.2))) (λ r=>r=Tza q):=by
  intro q
  unfold Tza
  cases q.1 != 2<;>exact Fdb rfl
 unfold Ih doW
 cases e.1==1 with
 |true=>
  refine Fgb rfl (Flb (by have:=he.2.1;rw[Vj];omega) (Fpb (T3a w e.2.2.1 ((0,0,0),false,e.2.2.2.1) e.2.2.2.2.1 e.2.2.2.2.2 hr hn hst he.1 (λ h=>by cases h) hw) ?_))
  exact answer _
 |false=>
  refine Ffb rfl ?_
  cases e.1==2 with
  |true=>
   refine Fgb rfl (Fpb (T3a w e.2.2.1 ((0,0,0),true,[]) e.2.2.2.2.1 e.2.2.2.2.2 hr hn hst he.1 (λ _=>rfl) hw) ?_)
   exact answer _
  |false=>
   refine Ffb rfl ?_
   cases e.1==3
   case true=>exact Fgb rfl (node (f:=λ _=>none))
   refine Ffb rfl ?_
   cases e.1==4
   case true=>exact Fgb rfl (node (f:=λ _=>none))
   refine Ffb rfl ?_
   cases e.1==5
   case true=>exact Fgb rfl (node (f:=λ _=>none))
   refine Ffb rfl ?_
   cases e.1==6
   case true=>exact Fgb rfl (node (f:=λ _=>none))
   refine Ffb rfl ?_
   cases e.1==7
   case true=>exact Fgb rfl (node (f:=λ _=>none))
   refine Ffb rfl ?_
   cases e.1==8
   case true=>exact Fgb rfl (node (f:=λ _=>none))
   refine Ffb rfl ?_
   cases e.1==9 with
   |true=>
    refine Fgb rfl (Fpb (T9a w _ _ hr) ?_)
    exact Fdb rfl
   |false=>exact Ffb rfl (Fdb rfl)

def Cea {a b c:Stp} (h1:sle a b=false) (h2:sle b c=false):sle a c=false:=by
 cases h:sle a c
 ·rfl
 have n1:¬ _:=λ k=>by rw[Pq.2 k]at h1;cases h1
 have n2:¬ _:=λ k=>by rw[Pq.2 k]at h2;cases h2
 have h3:=Pq.1 h
 omega
def Apa {a b:Stp} (h:sle a b=true):sle b a=false:=by
 cases h':sle b a
 ·rfl
 have h1:=Pq.1 h
 have h2:=Pq.1 h'
 omega
def Hfa (ws:List Wri):Prop:=∀ x∈ws,Bc x.1=true∧H9 x.2.1=true∧Aw x.2.1.2.2
def IsW (ws:List Wri) (s:ByteArray) (f:Fil):Prop:=∃ x∈ws,x.1=s∧x.2.1=f
def EO (ws:List Wri) (sp:List ByteArray) (s:ByteArray) (b:List Int):Prop:=∃ f,IsW ws s f∧(b=Lo f∨(s∈sp∧∃ n,n<8*(Lo f).length∧b=M8 (Lo f) n))
def ED (ws:List Wri) (sp:List ByteArray) (d:Dsk) (s:ByteArray):Prop:=
 (∀ b,gt d.1 s=some b→EO ws sp s b)∧(∀ b,gt d.2 s=some b→EO ws sp s b)∧
 (s∉sp→∀ b f,gt d.2 s=some b→Pc b=some f→∃ b' f',gt d.1 s=some b'∧Pc b'=some f'∧sle f'.1 f.1=false)
def DI (ws:List Wri) (sp:List ByteArray) (d:Dsk):Prop:=∀ s,ED ws sp d s
def HD (d:Dsk) (s:ByteArray) (st:Stp):Prop:=∃ b f,gt d.2 s=some b∧Pc b=some f∧sle f.1 st=false
def MO (sp:List ByteArray) (d d':Dsk):Prop:=∀ s,s∉sp→∀ st,HD d s st→HD d' s st
def IsW.good {ws:List Wri} (hw:Hfa ws) {s:ByteArray} {f:Fil} (h:IsW ws s f):Bc s=true∧H9 f=true∧Aw f.2.2:=by
 obtain⟨x,hx,rfl,rfl⟩:=h
 exact hw x hx
def EO.get {ws:List Wri} {sp:List ByteArray} (hw:Hfa ws) {s:ByteArray} {b:List Int} (h:EO ws sp s b) {f:Fil} (hf:Pc b=some f):IsW ws s f∧b=Lo f:=by
 obtain⟨g,h1,h2⟩:=h
 obtain⟨_,g2,g3⟩:=h1.good hw
 rcases h2 with rfl|⟨_,n,hn,rfl⟩
 ·rw[Xe g2 g3]at hf
  cases hf
  exact⟨h1,rfl⟩
 ·rw[Waa g2 hn]at hf;cases hf
def EO.fine {ws:List Wri} {sp:List ByteArray} (hw:Hfa ws) {s:ByteArray} {b:List Int} (h:EO ws sp s b) (hs:s∉sp):∃ f,Pc b=some f∧IsW ws s f:=by
 obtain⟨g,h1,h2⟩:=h
 obtain⟨_,g2,g3⟩:=h1.good hw
 rcases h2 with rfl|⟨h,_⟩
 ·exact⟨g,Xe g2 g3,h1⟩
 ·exact absurd h hs
def EO.mono {ws ws':List Wri} {sp sp':List ByteArray} (h1:∀ x∈ws,x∈ws') (h2:∀ s∈sp,s∈sp') {s:ByteArray} {b:List Int} (h:EO ws sp s b):EO ws' sp' s b:=by
 obtain⟨g,⟨x,hx,e⟩,h3⟩:=h
 refine⟨g,⟨x,h1 x hx,e⟩,?_⟩
 rcases h3 with h3|⟨h3,h4⟩
 ·exact .inl h3
 ·exact .inr ⟨h2 s h3,h4⟩
def ED.mono {ws ws':List Wri} {sp sp':List ByteArray} (h1:∀ x∈ws,x∈ws') (h2:∀ s∈sp,s∈sp') {d:Dsk} {s:ByteArray} (h:ED ws sp d s):ED ws' sp' d s:=
 ⟨λ b hb=>(h.1 b hb).mono h1 h2,λ b hb=>(h.2.1 b hb).mono h1 h2,λ hs=>h.2.2 (λ c=>hs (h2 s c))⟩
def DI.mono {ws ws':List Wri} {sp sp':List ByteArray} (h1:∀ x∈ws,x∈ws') (h2:∀ s∈sp,s∈sp') {d:Dsk} (h:DI ws sp d):DI ws' sp' d:=λ s=>(h s).mono h1 h2
def ED.same {ws:List Wri} {sp:List ByteArray} {d d':Dsk} {s:ByteArray} (h:ED ws sp d s) (e1:gt d'.1 s=gt d.1 s) (e2:gt d'.2 s=gt d.2 s):ED ws sp d' s:=by
 unfold ED
 rw[e1,e2]
 exact h
def HD.same {d d':Dsk} {s:ByteArray} {st:Stp} (h:HD d s st) (e2:gt d'.2 s=gt d.2 s):HD d' s st:=by
 unfold HD
 rw[e2]
 exact h
def MO.refl (sp:List ByteArray) (d:Dsk):MO sp d d:=λ _ _ _ h=>h
def MO.trans {sp:List ByteArray} {a b c:Dsk} (h1:MO sp a b) (h2:MO sp b c):MO sp a c:=λ s hs st h=>h2 s hs st (h1 s hs st h)
section
variable {ws:List Wri} {sp:List ByteArray} {d:Dsk} {s:ByteArray}
def ED.ge (h:ED ws sp d s) (hs:s∉sp) {st:Stp} (hh:HD d s st):∃ b f,gt d.1 s=some b∧Pc b=some f∧sle f.1 st=false:=by
 obtain⟨b,f,h1,h2,h3⟩:=hh
 obtain⟨b',f',h4,h5,h6⟩:=h.2.2 hs b f h1 h2
 exact⟨b',f',h4,h5,Cea h6 h3⟩
def Arb (hd:Aq d=true) (h:DI ws sp d):DI ws sp (d.1,sy d s):=by
 intro t
 by_cases ht:s=t
 ·subst ht
  have e:gt (sy d s) s=gt d.1 s:=by rw[Jla hd,if_pos rfl]
  refine⟨(h s).1,λ b hb=>(h s).1 b (by rw[← e];exact hb),λ hs b f hb hf=>⟨b,f,by rw[← e];exact hb,hf,P6 _⟩⟩
 ·exact(h t).same rfl (by show gt (sy d s) t=_;rw[Jla hd,if_neg ht])
def Dlb (hd:Aq d=true) (h:DI ws sp d):MO sp d (d.1,sy d s):=by
 intro t ht st hh
 by_cases hst:s=t
 ·subst hst
  obtain⟨b,f,h1,h2,h3⟩:=(h s).ge ht hh
  exact⟨b,f,by show gt (sy d s) s=_;rw[Jla hd,if_pos rfl,h1],h2,h3⟩
 ·exact hh.same (by show gt (sy d s) t=_;rw[Jla hd,if_neg hst])
def Epb (hw:Hfa ws) (hd:Aq d=true) (h:DI ws sp d) {f:Fil} (hf:IsW ws s f) (hn:∀ o,old d s=some o→sle o.1 f.1=true):DI ws sp (wr d.1 s (Lo f),d.2):=by
 intro t
 by_cases ht:s=t
 ·subst ht
  have e:gt (wr d.1 s (Lo f)) s=some (Lo f):=by rw[Jka (Mb hd),if_pos rfl]
  obtain⟨_,g2,g3⟩:=hf.good hw
  refine⟨λ b hb=>?_,(h s).2.1,λ hs b g hb hg=>⟨Lo f,f,e,Xe g2 g3,?_⟩⟩
  ·rw[show gt (wr d.1 s (Lo f)) s=some b from hb]at e
   cases e
   exact⟨f,hf,.inl rfl⟩
  ·obtain⟨b',f',k1,k2,k3⟩:=(h s).2.2 hs b g hb hg
   have:=hn f' (by unfold old;rw[k1];exact k2)
   exact Cea (Apa this) k3
 ·exact(h t).same (by show gt (wr d.1 s (Lo f)) t=_;rw[Jka (Mb hd),if_neg ht]) rfl
def Taa (hw:Hfa ws) (hd:DG d) (h:DI ws sp d) {f:Fil} {sure:Bool} (hf:IsW ws s f):DI ws sp (keep d s f sure).1∧MO sp d (keep d s f sure).1:=by
 obtain⟨g1,g2,g3⟩:=hf.good hw
 rw[Goa hd.1 g1 g2]
 rcases Uv (f:=f) (sure:=sure) hd g1 with k|⟨o,_,_,k,hg,h3⟩|⟨h1,h2,k,hg,h3⟩
 ·rw[k];exact⟨h,MO.refl _ _⟩
 ·rcases h3 with⟨_,h3⟩|⟨_,h3⟩
  ·rw[h3];exact⟨h,MO.refl _ _⟩
  ·rw[h3];exact⟨Arb hd.1 h,Dlb hd.1 h⟩
 ·have hw':=Epb hw hd.1 h hf h1
  rcases h3 with⟨_,h3⟩|⟨_,h3⟩
  ·rw[h3];exact⟨hw',λ t _ st hh=>hh.same rfl⟩
  ·rw[h3];exact⟨Arb h2.1 hw',(show MO sp d (wr d.1 s (Lo f),d.2) from λ t _ st hh=>hh.same rfl).trans (Dlb h2.1 hw')⟩
def Tba (hw:Hfa ws) (hd:DG d) {f:Fil} (hf:IsW ws s f) (hc:(keep d s f true).2=0∨(keep d s f true).2=1):HD (keep d s f true).1 s f.1:=by
 obtain⟨g1,g2,g3⟩:=hf.good hw
 rw[Goa hd.1 g1 g2]at hc ⊢
 obtain⟨o,g,b,ho,_,e,h1,h2,h3⟩:=S9a hd g1 g2 g3 hc
 rw[e]
 exact⟨b,g,by show gt (sy o s) s=_;rw[Jla ho.1,if_pos rfl,h1],h2,h3⟩
def Asb (hd:DG d) (h:DI ws sp d) (kp:List Bool):DI ws sp (Sp d kp):=by
 intro t
 rcases Ssa (d:=d) (kp:=kp) t with e|⟨e1,e2⟩
 ·rw[e];exact h t
 ·unfold ED
  rw[e1]
  have eo:∀ b,gt (Sp d kp).1 t=some b→EO ws sp t b:=by
   intro b hb
   rcases e2 with e2|e2
   ·exact(h t).1 b (by rw[← e2];exact hb)
   ·exact(h t).2.1 b (by rw[← e2];exact hb)
  exact⟨eo,eo,λ _ b f hb hf=>⟨b,f,hb,hf,P6 _⟩⟩
def Atb (hd:DG d) (h:DI ws sp d) (kp:List Bool):MO sp d (Sp d kp):=by
 intro t ht st hh
 rcases Ssa (d:=d) (kp:=kp) t with e|⟨e1,e2⟩
 ·rw[e];exact hh
 ·unfold HD
  rw[e1]
  rcases e2 with e2|e2
  ·rw[e2];exact(h t).ge ht hh
  ·rw[e2];exact hh
def Wsa (hw:Hfa ws) (hd:DG d) (h:DI ws sp d):DI ws sp (O3 d).1∧MO sp d (O3 d).1:=by
 obtain⟨_,hc⟩:=Aia d.1 (d,0) hd
 have hc':∀ t,(t∈Eda d.1→gt (O3 d).1.1 t=none∧gt (O3 d).1.2 t=none)∧(t∉Eda d.1→gt (O3 d).1.1 t=gt d.1 t∧gt (O3 d).1.2 t=gt d.2 t):=hc
 have hb:∀ t,t∈Eda d.1→t∈sp:=by
  intro t ht
  obtain⟨b,h1,h2⟩:=(Wda hd.1).1 ht
  by_cases hs:t∈sp
  ·exact hs
  ·obtain⟨f,hf,_⟩:=((h t).1 b h1).fine hw hs
   rw[hf]at h2;cases h2
 constructor
 ·intro t
  by_cases ht:t∈Eda d.1
  ·obtain⟨e1,e2⟩:=(hc' t).1 ht
   unfold ED
   rw[e1,e2]
   exact⟨λ b hb=>(by cases hb),λ b hb=>(by cases hb),λ _ b f hb=>(by cases hb)⟩
  ·obtain⟨e1,e2⟩:=(hc' t).2 ht
   exact(h t).same e1 e2
 ·intro t ht st hh
  exact hh.same ((hc' t).2 (λ c=>ht (hb t c))).2
def Dmb (hd:DG d) (h:DI ws sp d) (hs:Bc s=true):DI ws sp (syD (rmD d s).1 s).1∧∀ t,t≠s→∀ st,HD d t st→HD (syD (rmD d s).1 s).1 t st:=by
 have hr:DI ws sp (rmD d s).1∨True := .inr trivial
 unfold rmD
 cases hg:gt d.1 s with
 |none=>
  have e:(bif (none:Option (List Int)).isSome then ((cut d.1 s,d.2),true) else (d,false)).1=d:=rfl
  rw[e]
  unfold syD
  by_cases hl:(sy d s).length≤60
  ·rw[decide_eq_true hl]
   exact⟨Arb hd.1 h,λ t ht st hh=>hh.same (by show gt (sy d s) t=_;rw[Jla hd.1,if_neg (Gub ht)])⟩
  ·rw[decide_eq_false hl];exact⟨h,λ t ht st hh=>hh⟩
 |some b=>
  have e:(bif (some b:Option (List Int)).isSome then ((cut d.1 s,d.2),true) else (d,false)).1=(cut d.1 s,d.2):=rfl
  rw[e]
  have hd':Aq (cut d.1 s,d.2)=true:=E3.2 ⟨W0 (E3.1 hd.1).1,(E3.1 hd.1).2⟩
  have e1:∀ t,gt (cut d.1 s) t=if s=t then none else gt d.1 t:=λ t=>Tn (Mb hd.1)
  have e2:∀ t,gt (sy (cut d.1 s,d.2) s) t=if s=t then none else gt d.2 t:=λ t=>by
   rw[Jla hd']
   by_cases hst:s=t
   ·rw[if_pos hst,if_pos hst];show gt (cut d.1 s) s=none;rw[e1,if_pos rfl]
   ·rw[if_neg hst,if_neg hst]
  have hlen:(sy (cut d.1 s,d.2) s).length≤60:=by
   have:sy (cut d.1 s,d.2) s=cut d.2 s:=by
    unfold sy
    have:=e1 s
    rw[if_pos rfl]at this
    rw[show gt (cut d.1 s,d.2).1 s=none from this]
   rw[this]
   exact Zs Mq.length_le (Af.1 (E3.1 hd.1).2).2.2
  unfold syD
  rw[decide_eq_true hlen]
  constructor
  ·intro t
   show ED ws sp (cut d.1 s,sy (cut d.1 s,d.2) s) t
   by_cases hst:s=t
   ·unfold ED
    dsimp only
    rw[e1,e2,if_pos hst,if_pos hst]
    exact⟨λ b hb=>(by cases hb),λ b hb=>(by cases hb),λ _ b f hb=>(by cases hb)⟩
   ·exact(h t).same (by show gt (cut d.1 s) t=_;rw[e1,if_neg hst]) (by show gt (sy (cut d.1 s,d.2) s) t=_;rw[e2,if_neg hst])
  ·intro t ht st hh
   exact hh.same (by show gt (sy (cut d.1 s,d.2) s) t=_;rw[e2,if_neg (Gub ht)])
def Dnb (hw:Hfa ws) (hd:DG d) (h:DI ws sp d) {n:Int} (hl:(lkD d s).2=0) (hr:(Dra d s n).2=true) (sp':List ByteArray) (hsp:∀ t,t∈sp'↔t=s∨t∈sp):DI ws sp' (Dra d s n).1∧MO sp' d (Dra d s n).1∧∃ f,IsW ws s f:=by
 obtain⟨b,hb,hf⟩:=Qv.1 (show lkD d s=((lkD d s).1,0) by rw[← hl])
 obtain⟨hW,e⟩:=((h s).1 b hb).get hw hf
 have hsub:∀ t∈sp,t∈sp':=λ t ht=>(hsp t).2 (.inr ht)
 generalize (lkD d s).1=f at *
 unfold Dra at hr ⊢
 rw[hb]at hr ⊢
 dsimp only at hr ⊢
 cases hin:inR n 0 (8*(b.length:Int)-1)
 ·rw[hin]at hr;cases hr
 rw[cond_true]
 obtain⟨n0,n1⟩:=Cy.1 hin
 have hn:n.toNat<8*(Lo f).length:=by rw[← e];omega
 have e1:∀ t,gt (wr d.1 s (M8 b n.toNat)) t=if s=t then some (M8 b n.toNat) else gt d.1 t:=λ t=>Jka (Mb hd.1)
 have e2:∀ t,gt (bif decide (gt d.2 s=some b) then wr d.2 s (M8 b n.toNat) else d.2) t=if s=t∧gt d.2 s=some b then some (M8 b n.toNat) else gt d.2 t:=by
  intro t
  by_cases hg:gt d.2 s=some b
  ·rw[decide_eq_true hg,cond_true,Jka (Oo hd.1)]
   by_cases hst:s=t
   ·rw[if_pos hst,if_pos ⟨hst,hg⟩]
   ·rw[if_neg hst,if_neg (λ c=>hst c.1)]
  ·rw[decide_eq_false hg,cond_false,if_neg (λ c=>hg c.2)]
 have hflip:EO ws sp' s (M8 b n.toNat):=⟨f,hW,.inr ⟨(hsp s).2 (.inl rfl),n.toNat,hn,by rw[e]⟩⟩
 refine⟨λ t=>?_,λ t ht st hh=>?_,f,hW⟩
 ·by_cases hst:s=t
  ·subst hst
   refine⟨λ x hx=>?_,λ x hx=>?_,λ c=>absurd ((hsp s).2 (.inl rfl)) c⟩
   ·have:=e1 s
    rw[if_pos rfl]at this
    rw[show gt (wr d.1 s (M8 b n.toNat)) s=some x from hx]at this
    cases this
    exact hflip
   ·have:=e2 s
    rw[show gt (bif decide (gt d.2 s=some b) then wr d.2 s (M8 b n.toNat) else d.2) s=some x from hx]at this
    by_cases hg:gt d.2 s=some b
    ·rw[if_pos ⟨rfl,hg⟩]at this
     cases this
     exact hflip
    ·rw[if_neg (λ c=>hg c.2)]at this
     exact((h s).2.1 x this.symm).mono (λ _ h=>h) hsub
  ·refine((h t).mono (λ _ h=>h) hsub).same ?_ ?_
   ·show gt (wr d.1 s (M8 b n.toNat)) t=_
    rw[e1,if_neg hst]
   ·show gt (bif decide (gt d.2 s=some b) then wr d.2 s (M8 b n.toNat) else d.2) t=_
    rw[e2,if_neg (λ c=>hst c.1)]
 ·have hst:s≠t:=λ c=>ht ((hsp t).2 (.inl c.symm))
  exact hh.same (by show gt (bif decide (gt d.2 s=some b) then wr d.2 s (M8 b n.toNat) else d.2) t=_;rw[e2,if_neg (λ c=>hst c.1)])
end

def NI (ws:List Wri) (sp:List ByteArray) (n:Nod):Prop:=NG n∧DI ws sp n.2.1∧(∀ r∈n.2.2.1,Ana ws r=true)∧∀ r∈n.2.2.2,Ana ws r=true
def KN (ns:List Nod) (s:ByteArray) (st:Stp):Prop:=∃ i,i<ns.length∧HD (ns.getD i Ar).2.1 s st
def MS (sp:List ByteArray) (ns ns':List Nod):Prop:=∀ s,s∉sp→∀ st,KN ns s st→KN ns' s st
def Tu {ws:List Wri} {r:Row}:Ana ws r=true↔∃ x∈ws,Aca x.1 x.2.1=r:=by
 unfold Ana
 rw[G5b]
 exact⟨λ ⟨x,h1,h2⟩=>⟨x,h1,H9a.1 h2⟩,λ ⟨x,h1,h2⟩=>⟨x,h1,H9a.2 h2⟩⟩
def Cfa {ws ws':List Wri} (h:∀ x∈ws,x∈ws') {r:Row} (hr:Ana ws r=true):Ana ws' r=true:=by
 obtain⟨x,h1,h2⟩:=Tu.1 hr
 exact Tu.2 ⟨x,h x h1,h2⟩
def Wta {ws:List Wri} {s:ByteArray} {f:Fil} (h:IsW ws s f):Ana ws (Aca s f)=true:=by
 obtain⟨x,h1,rfl,rfl⟩:=h
 exact Tu.2 ⟨x,h1,rfl⟩
def NI.mono {ws ws':List Wri} {sp sp':List ByteArray} (h1:∀ x∈ws,x∈ws') (h2:∀ s∈sp,s∈sp') {n:Nod} (h:NI ws sp n):NI ws' sp' n:=
 ⟨h.1,h.2.1.mono h1 h2,λ r hr=>Cfa h1 (h.2.2.1 r hr),λ r hr=>Cfa h1 (h.2.2.2 r hr)⟩
def NR (ws:List Wri) (sp:List ByteArray) (ns ns':List Nod):Prop:=(∀ n∈ns',NI ws sp n)∧ns'.map (·.1)=ns.map (·.1)∧MS sp ns ns'
def NR.refl {ws:List Wri} {sp:List ByteArray} {ns:List Nod} (h:∀ n∈ns,NI ws sp n):NR ws sp ns ns:=⟨h,rfl,λ _ _ _ h=>h⟩
def NR.len {ws:List Wri} {sp:List ByteArray} {ns ns':List Nod} (h:NR ws sp ns ns'):ns'.length=ns.length:=by
 have:=congrArg length h.2.1
 rwa [Wc,Wc]at this
def Ld {α:Type} {l:List α} {i j:Nat} {x d:α} (hj:j<l.length):(l.set i x).getD j d=if i=j then x else l.getD j d:=by
 rw[Vd,List.getElem?_set]
 by_cases h:i=j
 ·subst h
  rw[if_pos rfl,if_pos rfl,if_pos hj]
  rfl
 ·rw[if_neg h,if_neg h,Vd]
def Jxa {ns:List Nod} {i:Nat} {n:Nod} (hi:i<ns.length) (h:n.1=(ns.getD i Ar).1):(ns.set i n).map (·.1)=ns.map (·.1):=by
 refine Idb (by simp) (λ j h1 h2=>?_)
 rw[Wc,Vx]at h1
 rw[Hob,Hob,Ieb]
 by_cases hij:i=j
 ·subst hij
  rw[if_pos rfl,h,Vd,Vk hi]
  rfl
 ·rw[if_neg hij]
def NR.set {ws:List Wri} {sp:List ByteArray} {ns ns':List Nod} (h:NR ws sp ns ns') {i:Nat} (hi:i<ns'.length) {n:Nod} (h1:NI ws sp n) (h2:n.1=(ns'.getD i Ar).1) (h3:MO sp (ns'.getD i Ar).2.1 n.2.1):NR ws sp ns (ns'.set i n):=by
 obtain⟨g1,g2,g3⟩:=h
 refine⟨λ m hm=>?_,by rw[Jxa hi h2,g2],λ s hs st hk=>?_⟩
 ·rcases Wo hm with hm|rfl
  ·exact g1 m hm
  ·exact h1
 ·obtain⟨j,hj,hd⟩:=g3 s hs st hk
  refine⟨j,by rw[Vx];exact hj,?_⟩
  rw[Ld hj]
  by_cases hij:i=j
  ·subst hij;rw[if_pos rfl];exact h3 s hs st hd
  ·rw[if_neg hij];exact hd
section
variable {ws:List Wri} {sp:List ByteArray} {n:Nod} {s:ByteArray} {f:Fil}
def Aub (hw:Hfa ws) (h:NI ws sp n) (hf:IsW ws s f) (sure:Bool):NI ws sp (Ux n s f sure).1∧(Ux n s f sure).1.1=n.1∧MO sp n.2.1 (Ux n s f sure).1.2.1:=by
 obtain⟨g1,g2,g3⟩:=hf.good hw
 obtain⟨h1,h2,h3,h4⟩:=h
 have hg:=M6a (sure:=sure) h1 g1 g2
 obtain⟨k1,k2⟩:=Taa (sure:=sure) hw h1.g h2 hf
 unfold Ux at hg ⊢
 cases hq:(n.2.2.2.length:Int)==60
 case true=>exact⟨⟨h1,h2,h3,h4⟩,rfl,MO.refl _ _⟩
 rw[hq]at hg
 refine⟨⟨hg,k1,h3,?_⟩,rfl,k2⟩
 show ∀ r∈bif (keep n.2.1 s f sure).2==0&&sure then n.2.2.2++[Aca s f] else n.2.2.2,Ana ws r=true
 cases (keep n.2.1 s f sure).2==0&&sure
 ·exact h4
 intro r hr
 rcases Vn.1 hr with hr|hr
 ·exact h4 r hr
 ·rw[Vt.1 hr];exact Wta hf
def Avb (hw:Hfa ws) (h:NI ws sp n) (hf:IsW ws s f) (hc:(Ux n s f true).2=0∨(Ux n s f true).2=1):HD (Ux n s f true).1.2.1 s f.1:=by
 unfold Ux at hc ⊢
 cases hq:((n.2.2.2.length:Int)==60) with
 |true=>rw[hq]at hc;rcases hc with hc|hc<;>cases hc
 |false=>rw[hq]at hc;exact Tba hw h.1.g hf hc
def Eqb (h:NI ws sp n) {l:List Row} (hl:J7 l=true) (hr:∀ r∈l,Ana ws r=true):NI ws sp (tk n l).2∧(tk n l).2.1=n.1∧(tk n l).2.2.1=n.2.1:=by
 obtain⟨h1,h2,h3,h4⟩:=h
 have hg:=Eob h1 hl
 unfold tk at hg ⊢
 cases hq:decide ((Nl n.2.2.1 l).length > 60)
 case true=>exact⟨⟨h1,h2,h3,h4⟩,rfl,rfl⟩
 rw[hq]at hg
 exact⟨⟨hg,h2,λ r hr'=>(Loa hr').elim (h3 r) (hr r),h4⟩,rfl,rfl⟩
end
def Dob {ws:List Wri} {sp:List ByteArray} {ns:List Nod} {R:Int} {rc:List Int} {s:ByteArray} {f:Fil} {cs:List Int} {a:List Nod×Int×Int} {j:Nat} (hw:Hfa ws) (hf:IsW ws s f)
  (h:NR ws sp ns a.1∧(s∉sp→a.2.2≥1→KN a.1 s f.1)∧a.2.2≥0) (hc:(cs.getD j 0).toNat<ns.length):
  NR ws sp ns (wst R rc s f cs a j).1∧(s∉sp→(wst R rc s f cs a j).2.2≥1→KN (wst R rc s f cs a j).1 s f.1)∧(wst R rc s f cs a j).2.2≥0:=by
 obtain⟨h1,h2,h3⟩:=h
 unfold wst
 cases decide (a.2.1<R)
 ·exact⟨h1,h2,h3⟩
 cases rch rc j==0
 case true=>exact⟨h1,h2,h3⟩
 rw[cond_true,cond_false]
 have hi:(cs.getD j 0).toNat<a.1.length:=by rw[h1.len];exact hc
 generalize (cs.getD j 0).toNat=i at *
 have hn:=h1.1 _ (A4 (d:=Ar) hi)
 obtain⟨p1,p2,p3⟩:=Aub hw hn hf (rch rc j != 3)
 refine⟨h1.set hi p1 p2 p3,λ hs hg=>?_,?_⟩
 ·cases hr:rch rc j==1&&((Ux (a.1.getD i Ar) s f (rch rc j != 3)).2==0||(Ux (a.1.getD i Ar) s f (rch rc j != 3)).2==1) with
  |true=>
   rw[Va,Fub,beq_iff_eq,beq_iff_eq,beq_iff_eq]at hr
   have e:(rch rc j != 3)=true:=by rw[hr.1];rfl
   rw[e]at hr ⊢
   refine⟨i,by rw[Vx];exact hi,?_⟩
   rw[Ld hi,if_pos rfl]
   exact Avb hw hn hf hr.2
  |false=>
   rw[hr]at hg
   obtain⟨m,hm,hd⟩:=h2 hs hg
   refine⟨m,by rw[Vx];exact hm,?_⟩
   rw[Ld hm]
   by_cases hij:i=m
   ·subst hij;rw[if_pos rfl];exact p3 s hs _ hd
   ·rw[if_neg hij];exact hd
 ·dsimp only
  cases rch rc j==1&&((Ux (a.1.getD i Ar) s f (rch rc j != 3)).2==0||(Ux (a.1.getD i Ar) s f (rch rc j != 3)).2==1)
  ·exact h3
  ·rw[cond_true];omega
def Dpb {ws:List Wri} {sp:List ByteArray} {w:Wld} {rc:List Int} {s:ByteArray} {f:Fil} (hw:Hfa ws) (hf:IsW ws s f) (hn:∀ n∈w.2.2.1,NI ws sp n):
  NR ws sp w.2.2.1 (wrN w s f rc).1∧(s∉sp→(wrN w s f rc).2.2≥1→KN (wrN w s f rc).1 s f.1)∧(wrN w s f rc).2.2≥0:=
 Mc (λ _ (a:List Nod×Int×Int)=>NR ws sp w.2.2.1 a.1∧(s∉sp→a.2.2≥1→KN a.1 s f.1)∧a.2.2≥0) ⟨NR.refl hn,λ _ h=>absurd h (show ¬ (0:Int)≥1 by omega),Fvb _⟩
  (λ j b hj hb=>Dob hw hf hb (by have:=Sr (A4 (d:=0) hj);omega))
def Dqb {ws:List Wri} {sp:List ByteArray} {ns:List Nod} {rc:List Int} {s:ByteArray} {f:Fil} {ps:List Int} {a:List Nod×Bool×Bool} {src j:Nat} (hw:Hfa ws) (hf:IsW ws s f) (hsrc:src<ns.length)
  (h:NR ws sp ns a.1∧(a.2.1=false→a.1.getD src Ar=ns.getD src Ar∧(a.2.2=true→0<j→∃ i,i≠src∧i<ns.length∧HD (a.1.getD i Ar).2.1 s f.1))) (hc:(ps.getD j 0).toNat<ns.length) (hc0:0≤ps.getD j 0):
  NR ws sp ns (pst (src:Int) s f rc ps a j).1∧((pst (src:Int) s f rc ps a j).2.1=false→(pst (src:Int) s f rc ps a j).1.getD src Ar=ns.getD src Ar∧((pst (src:Int) s f rc ps a j).2.2=true→0<j+1→∃ i,i≠src∧i<ns.length∧HD ((pst (src:Int) s f rc ps a j).1.getD i Ar).2.1 s f.1)):=by
 obtain⟨h1,h2⟩:=h
 unfold pst
 cases hz:ps.getD j 0==(src:Int)
 case true=>exact⟨h1,λ c=>by cases c⟩
 have hne:(ps.getD j 0).toNat≠src:=by
  have:=beq_eq_false_iff_ne.1 hz
  omega
 cases hr:rch rc j != 1
 case true=>exact⟨h1,λ c=>⟨(h2 c).1,λ c'=>by cases c'⟩⟩
 rw[cond_false,cond_false]
 have hi:(ps.getD j 0).toNat<a.1.length:=by rw[h1.len];exact hc
 generalize (ps.getD j 0).toNat=i at *
 have hn:=h1.1 _ (A4 (d:=Ar) hi)
 obtain⟨k1,k2⟩:=Taa (sure:=true) hw hn.1.g hn.2.1 hf
 refine⟨h1.set hi ⟨Jwa hn.1,k1,hn.2.2⟩ rfl k2,λ c=>⟨?_,λ c' _=>?_⟩⟩
 ·show (a.1.set i _).getD src Ar=_
  rw[Ld (by rw[h1.len];exact hsrc),if_neg hne]
  exact(h2 c).1
 ·refine⟨i,hne,hc,?_⟩
  show HD ((a.1.set i _).getD i Ar).2.1 s f.1
  rw[Ld hi,if_pos rfl]
  refine Tba hw hn.1.g hf ?_
  cases hk:(keep (a.1.getD i Ar).2.1 s f true).2 != 0&&(keep (a.1.getD i Ar).2.1 s f true).2 != 1 with
  |true=>
   have:(bif (keep (a.1.getD i Ar).2.1 s f true).2 != 0&&(keep (a.1.getD i Ar).2.1 s f true).2 != 1 then false else a.2.2)=true:=c'
   rw[hk]at this
   cases this
  |false=>
   rw[Iib,bne,bne,Wh,Wh,beq_iff_eq,beq_iff_eq]at hk
   exact hk
def Drb {ws:List Wri} {sp:List ByteArray} {w:Wld} {rc:List Int} {s:ByteArray} {i:Nat} (hw:Hfa ws) (hn:∀ n∈w.2.2.1,NI ws sp n) (hi:i<w.2.2.1.length) (hf:IsW ws s (lkD (w.2.2.1.getD i Ar).2.1 s).1):
  NR ws sp w.2.2.1 (puN w i s rc).1∧((puN w i s rc).2.1=false→(puN w i s rc).1.getD i Ar=w.2.2.1.getD i Ar∧((puN w i s rc).2.2=true→0<(O4 w s).length→∃ j,j≠i∧j<w.2.2.1.length∧HD ((puN w i s rc).1.getD j Ar).2.1 s (lkD (w.2.2.1.getD i Ar).2.1 s).1.1)):=
 Mc (λ n (a:List Nod×Bool×Bool)=>NR ws sp w.2.2.1 a.1∧(a.2.1=false→a.1.getD i Ar=w.2.2.1.getD i Ar∧(a.2.2=true→0<n→∃ j,j≠i∧j<w.2.2.1.length∧HD (a.1.getD j Ar).2.1 s (lkD (w.2.2.1.getD i Ar).2.1 s).1.1))) ⟨NR.refl hn,λ _=>⟨rfl,λ _ c=>absurd c (Nat.lt_irrefl _)⟩⟩
  (λ j b hj hb=>Dqb hw hf hi hb (by have:=Nq (A4 (d:=0) hj);omega) (Nq (A4 (d:=0) hj)).1)
def Tca {w:Wld} {s:ByteArray} (hr:Ik w.2.1 w.1=true) (hid:w.2.2.1.map (·.1)=w.1.map (·.1)):0<(O4 w s).length:=by
 obtain⟨_,p2,p3⟩:=Aka hr s
 have h5:=(Cd.1 hr).2.1
 obtain⟨id,hidm⟩:=Hlb (l:=V2 w.2.1 s) (by omega)
 have:=Qz.1 (p3 id hidm)
 rw[← hid]at this
 obtain⟨n,hn,rfl⟩:=Yu.1 this
 obtain⟨j,hj,rfl⟩:=Zl.1 hn
 have hm:(j:Int)∈O4 w s:=E7a.2 ⟨j,hj,by rw[Vd,Vk hj];exact hidm,rfl⟩
 exact Glb hm
def Moa {ws:List Wri} {sp:List ByteArray} {w:Wld} {rc:List Int} {s:ByteArray} {i:Nat} (hw:Hfa ws) (hn:∀ n∈w.2.2.1,NI ws sp n) (hi:i<w.2.2.1.length) (hr:Ik w.2.1 w.1=true) (hid:w.2.2.1.map (·.1)=w.1.map (·.1)):
  ∃ ns,(E9a w i s rc).2=wN w ns∧NR ws sp w.2.2.1 ns:=by
 have hni:=hn _ (A4 (d:=Ar) hi)
 unfold E9a
 cases hl:(lkD (w.2.2.1.getD i Ar).2.1 s).2 != 0
 case true=>exact⟨w.2.2.1,rfl,NR.refl hn⟩
 rw[bne,Wh,beq_iff_eq]at hl
 obtain⟨b,hb,hg⟩:=Qv.1 (show lkD (w.2.2.1.getD i Ar).2.1 s=((lkD (w.2.2.1.getD i Ar).2.1 s).1,0) from by rw[← hl])
 have hf:IsW ws s (lkD (w.2.2.1.getD i Ar).2.1 s).1:=(((hni.2.1 s).1 b hb).get hw hg).1
 obtain⟨h1,h2⟩:=Drb (rc:=rc) hw hn hi hf
 refine⟨_,rfl,?_⟩
 cases hc:(puN w i s rc).2.2&&!(puN w i s rc).2.1
 ·exact h1
 rw[Va,Vv]at hc
 obtain⟨h3,h4⟩:=h2 hc.2
 obtain⟨j,hj,hjl,hd⟩:=h4 hc.1 (Tca hr hid)
 rw[cond_true,h3]
 obtain⟨g1,_,_⟩:=hf.good hw
 have hi':i<(puN w i s rc).1.length:=by rw[h1.len];exact hi
 obtain⟨o1,o2⟩:=Dmb (s:=s) hni.1.g hni.2.1 g1
 refine⟨λ m hm=>?_,by rw[Jxa hi' (by rw[h3];rfl),h1.2.1],λ t ht st hk=>?_⟩
 ·rcases Wo hm with hm|rfl
  ·exact h1.1 m hm
  ·exact⟨Yca hni.1 g1,o1,hni.2.2⟩
 ·obtain⟨m,hm,hh⟩:=h1.2.2 t ht st hk
  by_cases hmi:m=i
  ·subst hmi
   rw[h3]at hh
   by_cases hts:t=s
   ·subst hts
    obtain⟨b',f',e1,e2,e3⟩:=(hni.2.1 t).ge ht hh
    rw[hb]at e1
    cases e1
    rw[hg]at e2
    cases e2
    obtain⟨c,g,k1,k2,k3⟩:=hd
    refine⟨j,by rw[Vx,h1.len];exact hjl,?_⟩
    rw[Ld (by rw[h1.len];exact hjl),if_neg (Gub hj)]
    exact⟨c,g,k1,k2,Cea k3 e3⟩
   ·refine⟨m,by rw[Vx];exact hm,?_⟩
    rw[Ld hm,if_pos rfl]
    exact o2 t hts st hh
  ·refine⟨m,by rw[Vx];exact hm,?_⟩
   rw[Ld hm,if_neg (Gub hmi)]
   exact hh
def Mpa {ws:List Wri} {sp:List ByteArray} {w:Wld} {src:Int} {l:List Row} {self:Bool} {rc:List Int} (hn:∀ n∈w.2.2.1,NI ws sp n) (hl:J7 l=true) (hr:∀ r∈l,Ana ws r=true):NR ws sp w.2.2.1 (Kx w src l self rc).1:=by
 refine Mc (λ _ (a:List Nod×Bool)=>NR ws sp w.2.2.1 a.1) (NR.refl hn) (λ j b hj hb=>?_)
 have hc:=N6 (A4 (d:=0) hj)
 unfold gst
 cases (D8 w).getD j 0==src&&!self
 case true=>exact hb
 cases rch rc j != 1
 case true=>exact hb
 have hi:((D8 w).getD j 0).toNat<b.1.length:=by rw[hb.len];omega
 obtain⟨t1,t2,t3⟩:=Eqb (hb.1 _ (A4 (d:=Ar) hi)) hl hr
 exact hb.set hi t1 t2 (by rw[t3];exact MO.refl _ _)
def Wua {ws:List Wri} {sp:List ByteArray} {w:Wld} {rc:List Int} {i:Nat} (hn:∀ n∈w.2.2.1,NI ws sp n) (hi:i<w.2.2.1.length):∃ ns,(Mt w i rc).2=wN w ns∧NR ws sp w.2.2.1 ns:=by
 have hni:=hn _ (A4 (d:=Ar) hi)
 have hl:=(B1.1 hni.1.1).2.2.2.1
 unfold Mt
 cases ((w.2.2.1.getD i Ar).2.2.1.length:Int)==0
 case true=>exact⟨w.2.2.1,rfl,NR.refl hn⟩
 refine⟨_,rfl,?_⟩
 have hg:NR ws sp w.2.2.1 (Mw w i rc).1:=Mpa hn hl hni.2.2.1
 cases (Mw w i rc).2&&!(Mr (D8 (wN w (Mw w i rc).1)) (i:Int))
 ·exact hg
 have hi':i<(Mw w i rc).1.length:=by rw[hg.len];exact hi
 have hm:=hg.1 _ (A4 (d:=Ar) hi')
 exact hg.set hi' ⟨Mna hm.1,hm.2.1,(λ _ h=>nomatch h),hm.2.2.2⟩ rfl (MO.refl _ _)
def Wva {ws:List Wri} {sp:List ByteArray} {w:Wld} {rc:List Int} {i:Nat} (hn:∀ n∈w.2.2.1,NI ws sp n) (hi:i<w.2.2.1.length):∃ ns,(Ng w i rc).2=wN w ns∧NR ws sp w.2.2.1 ns:=by
 have hni:=hn _ (A4 (d:=Ar) hi)
 obtain⟨hq,_,_,_,hq60⟩:=B1.1 hni.1.1
 unfold Ng
 cases ((w.2.2.1.getD i Ar).2.2.2.length:Int)==0
 case true=>exact⟨w.2.2.1,rfl,NR.refl hn⟩
 refine⟨_,rfl,?_⟩
 have hg:NR ws sp w.2.2.1 (O6 w i rc).1:=Mpa hn (N7 hq) (λ r hr=>hni.2.2.2 r (Gcb hr))
 cases (O6 w i rc).2
 ·exact hg
 have hi':i<(O6 w i rc).1.length:=by rw[hg.len];exact hi
 have hm:=hg.1 _ (A4 (d:=Ar) hi')
 exact hg.set hi' ⟨Yea hm.1 (λ r hr=>hq r (Zk hr)) (by rw[Wf];omega),hm.2.1,hm.2.2.1,λ r hr=>hni.2.2.2 r (Zk hr)⟩ rfl (MO.refl _ _)

structure WI (w:Wld):Prop where
 ring:Ik w.2.1 w.1=true
 ids:w.2.2.1.map (·.1)=w.1.map (·.1)
 nodes:∀ n∈w.2.2.1,NI w.2.2.2.2.1 w.2.2.2.2.2 n
 clk:Ga w.2.2.2.1=true
 wlen:w.2.2.2.2.1.length≤200
 wok:Hfa w.2.2.2.2.1
 wge:∀ x∈w.2.2.2.2.1,sle w.2.2.2.1 x.2.1.1=false
 asc:w.2.2.2.2.1.Pairwise (λ a b=>sle a.2.1.1 b.2.1.1=true)
 kept:∀ x∈w.2.2.2.2.1,x.2.2=true→x.1∉w.2.2.2.2.2→KN w.2.2.1 x.1 x.2.1.1
 sps:TS w.2.2.2.2.2
 spw:∀ s∈w.2.2.2.2.2,∃ x∈w.2.2.2.2.1,x.1=s
theorem Erb:LawfulBEq ByteArray := { eq_of_beq:=λ {a b} h=>Fe.1 (by rw[← Xa];exact h),rfl:=λ {a}=>by rw[Xa];exact Fe.2 rfl }
def Tv:∀ (p q:List ByteArray),p.Nodup→(∀ x∈p,x∈q)→p.length≤q.length
 |[],_,_,_=>Vs _
 |x::p,q,h,hs=>by
  haveI:=Erb
  obtain⟨h1,h2⟩:=Yq.1 h
  have hx:=hs x Za
  have hlen:(q.erase x).length=q.length-1:=H1b hx
  have hpos:=Glb hx
  have:=Tv p (q.erase x) h2 (λ y hy=>(Hqb (λ c=>by subst c;exact h1 hy)).2 (hs y (Vi _ hy)))
  rw[Vc]
  omega
namespace WI
variable {w:Wld}
def splen (h:WI w):w.2.2.2.2.2.length≤200:=by
 have hn:w.2.2.2.2.2.Nodup:=h.sps.imp (λ {a b} hab e=>by subst e;rw[Ig]at hab;cases hab)
 have:=Tv _ (w.2.2.2.2.1.map (·.1)) hn (λ s hs=>by
  obtain⟨x,hx,e⟩:=h.spw s hs
  exact Yu.2 ⟨x,hx,e⟩)
 rw[Wc]at this
 have:=h.wlen
 omega
def nlen (h:WI w):w.2.2.1.length=w.1.length:=by
 have:=congrArg length h.ids
 rwa [Wc,Wc]at this
def dlen (h:WI w):1≤w.1.length∧w.1.length≤12:=(Fg.1 (Cd.1 h.ring).1).2.2
def ns (h:WI w):NS w.2.2.1:=⟨by have:=h.nlen;have:=h.dlen;omega,λ n hn=>(h.nodes n hn).1⟩
def win (h:WI w):WIn w:=by
 have h1:=h.nlen
 have h2:=h.dlen
 have h3:=h.wlen
 have h4:=h.splen
 refine⟨Lr h.ring,by omega,⟨by omega,λ n hn=>Rs (h.nodes n hn).1⟩,⟨by omega,λ x hx=>Jh (h.wok x hx).1⟩,by omega,λ s hs=>?_⟩
 obtain⟨x,hx,e⟩:=h.spw s hs
 rw[← e]
 exact Jh (h.wok x hx).1
def other (h:WI w) {ns:List Nod} (hn:NR w.2.2.2.2.1 w.2.2.2.2.2 w.2.2.1 ns):WI (wN w ns):=
 ⟨h.ring,hn.2.1.trans h.ids,hn.1,h.clk,h.wlen,h.wok,h.wge,h.asc,λ x hx hk hs=>hn.2.2 _ hs _ (h.kept x hx hk hs),h.sps,h.spw⟩
def other' (h:WI w) {r:Bool×Wld} (hr:∃ ns,r.2=wN w ns∧NR w.2.2.2.2.1 w.2.2.2.2.2 w.2.2.1 ns):WI r.2:=by
 obtain⟨ns,e,hn⟩:=hr
 rw[e]
 exact h.other hn
def write (h:WI w) {s:ByteArray} {f:Fil} {rc:List Int} (hs:Bc s=true) (hf:H9 f=true) (hb:Aw f.2.2) (hc:sle w.2.2.2.1 f.1=true) (hl:w.2.2.2.2.1.length<200):WI (Aoa (w.1,w.2.1,w.2.2.1,f.1,w.2.2.2.2) s f rc).2:=by
 obtain⟨g1,g2,g3⟩:=Dpb (ws:=w.2.2.2.2.1++[(s,f,decide ((wrN (w.1,w.2.1,w.2.2.1,f.1,w.2.2.2.2) s f rc).2.2≥quo w.2.1.1))]) (sp:=w.2.2.2.2.2) (w:=(w.1,w.2.1,w.2.2.1,f.1,w.2.2.2.2)) (rc:=rc) (s:=s) (f:=f)
  (λ x hx=>by
   rcases Vn.1 hx with hx|hx
   ·exact h.wok x hx
   ·rw[Vt.1 hx];exact⟨hs,hf,hb⟩)
  ⟨_,Vn.2 (.inr (Vt.2 rfl)),rfl,rfl⟩
  (λ n hn=>(h.nodes n hn).mono (λ x hx=>Vn.2 (.inl hx)) (λ _ h=>h))
 unfold Aoa
 generalize wrN (w.1,w.2.1,w.2.2.1,f.1,w.2.2.2.2) s f rc=a at *
 have hq:quo w.2.1.1≥1:=by
  have:=(Cd.1 h.ring).2.1
  unfold quo
  omega
 exact {
  ring:=h.ring
  ids:=g1.2.1.trans h.ids
  nodes:=g1.1
  clk:=(K8.1 hf).1
  wlen:=by show (w.2.2.2.2.1++[_]).length≤200;rw[Ve];simp only[Vc,Vj];omega
  wok:=λ x hx=>by
   rcases Vn.1 hx with hx|hx
   ·exact h.wok x hx
   ·rw[Vt.1 hx];exact⟨hs,hf,hb⟩
  wge:=λ x hx=>by
   rcases Vn.1 hx with hx|hx
   ·exact Cea (Apa hc) (h.wge x hx)
   ·rw[Vt.1 hx];exact P6 _
  asc:=Zb.2 ⟨h.asc,Gjb _ _,λ x hx y hy=>by
   rw[Vt.1 hy]
   have:=h.wge x hx
   cases hxy:sle x.2.1.1 f.1
   case true=>rfl
   have:=Cea this hxy
   rw[this]at hc
   cases hc⟩
  kept:=λ x hx hk hsp=>by
   rcases Vn.1 hx with hx|hx
   ·exact g1.2.2 _ hsp _ (h.kept x hx hk hsp)
   ·rw[Vt.1 hx]at hk hsp ⊢
    have hk':a.2.2≥quo w.2.1.1:=of_decide_eq_true hk
    exact g2 hsp (by omega)
  sps:=h.sps
  spw:=λ s hs=>by
   obtain⟨x,hx,e⟩:=h.spw s hs
   exact⟨x,Vn.2 (.inl hx),e⟩ }
def ask (h:WI w) {s:ByteArray} {f:Fil} {t:Int} {rc:List Int} (hb:Aw f.2.2) (hd:f.2.1=true→f.2.2=[]):WI (ask w s f t rc).2:=by
 unfold Vf.ask
 cases hs:Bc s
 ·exact h
 rw[Zd,cond_false]
 by_cases hl:(f.2.2.length:Int) > 200
 ·rw[decide_eq_true hl];exact h
 ·rw[decide_eq_false hl,cond_false]
  cases inR t 0 1000000000
  ·exact h
  rw[Zd,cond_false]
  cases hw:(w.2.2.2.2.1.length:Int)==200
  case true=>exact h
  rw[cond_false]
  have hw':=beq_eq_false_iff_ne.1 hw
  have hwl:=h.wlen
  obtain⟨n1,n2⟩:=E8a h.clk t 0
  cases he:(Ms w.2.2.2.1 t 0).1==w.2.2.2.1.1&&((Ms w.2.2.2.1 t 0).2.1==w.2.2.2.1.2.1&&(Ms w.2.2.2.1 t 0).2.2==w.2.2.2.1.2.2)
  case true=>exact h
  rw[cond_false]
  have hlt:sle w.2.2.2.1 (Ms w.2.2.2.1 t 0)=true:=by
   rcases n2 with n2|n2
   ·rw[n2,beq_self_eq_true,beq_self_eq_true,beq_self_eq_true]at he;cases he
   ·exact n2
  exact h.write (f:=(Ms w.2.2.2.1 t 0,f.2)) hs (K8.2 ⟨n1,by show f.2.2.length≤200;omega,hd⟩) hb hlt (by omega)
def rot (h:WI w) {i:Nat} (hi:i<w.2.2.1.length) {s:ByteArray} {b:Int}:WI (Aqb w i s b).2:=by
 have hni:=h.nodes _ (A4 (d:=Ar) hi)
 unfold Aqb
 cases hr:(Gra (w.2.2.1.getD i Ar) s b).2
 ·exact h
 have hg:=M7a (s:=s) (b:=b) hni.1
 unfold Gra at hr hg ⊢
 cases hc:Lb (w.2.2.1.getD i Ar)&&((lkD (w.2.2.1.getD i Ar).2.1 s).2==0&&(Dra (w.2.2.1.getD i Ar).2.1 s b).2)
 ·rw[hc]at hr;cases hr
 rw[hc]at hg
 rw[Va,Va,beq_iff_eq]at hc
 obtain⟨d1,d2,f,hf⟩:=Dnb h.wok hni.1.g hni.2.1 hc.2.1 hc.2.2 (spl w.2.2.2.2.2 s) (λ t=>Eaa)
 have hsub:∀ t∈w.2.2.2.2.2,t∈spl w.2.2.2.2.2 s:=λ t ht=>Eaa.2 (.inr ht)
 have hN:NR w.2.2.2.2.1 (spl w.2.2.2.2.2 s) w.2.2.1 (w.2.2.1.set i ((w.2.2.1.getD i Ar).1,(Dra (w.2.2.1.getD i Ar).2.1 s b).1,(w.2.2.1.getD i Ar).2.2)):=
  (NR.refl (λ n hn=>(h.nodes n hn).mono (λ _ h=>h) hsub)).set hi ⟨hg,d1,hni.2.2⟩ rfl d2
 exact {
  ring:=h.ring
  ids:=hN.2.1.trans h.ids
  nodes:=hN.1
  clk:=h.clk
  wlen:=h.wlen
  wok:=h.wok
  wge:=h.wge
  asc:=h.asc
  kept:=λ x hx hk hs=>hN.2.2 _ hs _ (h.kept x hx hk (λ c=>hs (hsub _ c)))
  sps:=Cda h.sps
  spw:=λ t ht=>by
   rcases Eaa.1 ht with rfl|ht
   ·obtain⟨x,hx,e,_⟩:=hf
    exact⟨x,hx,e⟩
   ·exact h.spw t ht }
def node (h:WI w) {i:Nat} (hi:i<w.2.2.1.length) {e:Evt}:WI (B9a w e i).2:=by
 have hni:=h.nodes _ (A4 (d:=Ar) hi)
 unfold B9a
 cases e.1==3
 case true=>exact h.other' (Moa h.wok h.nodes hi h.ring h.ids)
 cases e.1==4
 case true=>exact h.other' (Wua h.nodes hi)
 cases e.1==5
 case true=>exact h.other' (Wva h.nodes hi)
 cases e.1==6 with
 |true=>
  obtain⟨c1,c2⟩:=Wsa h.wok hni.1.g hni.2.1
  exact h.other ((NR.refl h.nodes).set hi ⟨Yba hni.1,c1,hni.2.2⟩ rfl c2)
 |false=>
  cases e.1==7 with
  |true=>exact h.other ((NR.refl h.nodes).set hi ⟨Djb hni.1,Asb hni.1.g hni.2.1 _,hni.2.2⟩ rfl (Atb hni.1.g hni.2.1 _))
  |false=>exact h.rot hi
def weigh (h:WI w) {i t:Int}:WI (Hea w i t).2:=by
 unfold Hea
 cases h1:inR i 0 ((w.1.length:Int)-1)
 ·exact h
 cases h2:inR t 1 1000
 ·exact h
 obtain⟨i0,i1⟩:=Cy.1 h1
 obtain⟨w0,w1⟩:=Cy.1 h2
 exact⟨(Mha (Dwa h.ring (by omega) w0 w1)).1,h.ids.trans (Dva _ _ _).symm,h.nodes,h.clk,h.wlen,h.wok,h.wge,h.asc,h.kept,h.sps,h.spw⟩
def ev (h:WI w) {e:Evt} (hb:Aw e.2.2.2.1):WI (doW w e).2:=by
 have ae:∀ {q:Int×Wld},WI q.2→WI (Tza q).2:=λ {q} hq=>by
  unfold Tza
  cases q.1 != 2<;>exact hq
 unfold doW
 cases e.1==1
 case true=>exact ae (h.ask hb (λ c=>by cases c))
 cases e.1==2
 case true=>exact ae (h.ask Nc (λ _=>rfl))
 cases e.1==3||(e.1==4||(e.1==5||(e.1==6||(e.1==7||e.1==8)))) with
 |true=>
  cases hi:inR e.2.1 0 ((w.2.2.1.length:Int)-1)
  ·exact h
  have:=Cy.1 hi
  exact h.node (by omega)
 |false=>
  cases e.1==9 with
  |true=>exact h.weigh
  |false=>exact h
end WI

end Go.Proofs.YtiiekghlhfbmmaaGreat.Vf
