import Derived.Test.YtiiekghlhfbmmaaGreatMam
import Derived.Test.YtiiekghlhfbmmaaGreatMal
set_option linter.all false
namespace Go.Proofs.YtiiekghlhfbmmaaGreat.Vf
open Go
open List (length getD)
open Int (toNat)
open Go.IntKind (wrap)
open BitVec (ofInt)
def Wi:=@List.take_succ_eq_append_getElem
def Hqb:=@List.exists_mem_of_length_pos
def Hrb:=@List.foldl_append
def Hwb:=@List.length_pos_of_mem
def Iyb:=@List.length_erase_of_mem
def Jkb:=@List.mem_erase_of_ne
def Jqb:=@List.range_succ
def Jsb:=@BitVec.getLsbD_ushiftRight
def Kgb:=@List.set_append_right
def Klb:=@List.nodup_nil

abbrev Nod:=Int×Dsk×List Row×List Row
def qOk (l:List Row):Bool:=l.all N5
def N1 (n:Nod):Bool:=qOk n.2.2.2&&(inR n.1 0 20&&(Ay n.2.1&&(Js n.2.2.1&&decide ((n.2.2.2.length:Int)≤60))))
def RF (l:List Row):Prop:=l.length≤2000000∧U1 l
def NIn (n:Nod):Prop:=(DIn n.2.1∧DB n.2.1)∧RF n.2.2.1∧RF n.2.2.2
def NG (n:Nod):Prop:=N1 n=true∧DB n.2.1
def Bo {n:Nod}:N1 n=true↔(∀ r∈n.2.2.2,N5 r=true)∧(0≤n.1∧n.1≤20)∧Ay n.2.1=true∧Js n.2.2.1=true∧n.2.2.2.length≤60:=by
 unfold N1 qOk
 simp only[Va,Yg,F9,decide_eq_true_iff]
 constructor
 ·rintro⟨h1,h2,h3,h4,h5⟩;exact⟨h1,h2,h3,h4,by omega⟩
 ·rintro⟨h1,h2,h3,h4,h5⟩;exact⟨h1,h2,h3,h4,by omega⟩
def Efa {l:List Row} (h:Js l=true):RF l:=by
 obtain⟨_,h2,h3⟩:=Lh.1 h
 exact⟨by omega,λ r hr=>Ib (Cpa (h2 r hr))⟩
def Xb {n:Nod} (h:NG n):NIn n:=by
 obtain⟨h1,_,h3,h4,h5⟩:=Bo.1 h.1
 exact⟨⟨No h3,h.2⟩,Efa h4,by omega,λ r hr=>Ib (Cpa (h1 r hr))⟩
def NG.g {n:Nod} (h:NG n):DG n.2.1:=⟨(Bo.1 h.1).2.2.1,h.2⟩
def Mka (n:Nod) (hn:NIn n):Tot (λ k=>E5 k n) (λ r=>r=N1 n):=by
 obtain⟨i,⟨a,b⟩,ro,q⟩:=n
 obtain⟨⟨hd,_⟩,hr,hq⟩:=hn
 dsimp only at hd hr hq
 unfold E5
 have hl:=hq.1
 refine H2b (Q:=λ r=>r=bif qOk q then .inr (i,a,b,ro,q) else .inl false) ?_ ?_
 ·refine Hab (L:=λ k i' (_:Unit)=>Gr k q (q.length:Int) i' i a b ro q) (Q:=λ r=>r=bif qOk q then .inr (i,a,b,ro,q) else .inl false) q.length (λ j _=>(q.drop j).all N5=q.all N5) ?_ ?_ 0 () (Vp _) (by rw[Wo])
  ·intro _ hj
   rw[We]at hj
   simp only[Gr]
   exact H6b (by omega) (H1b (by unfold qOk;rw[← hj];rfl))
  ·intro j _ hj hi next
   simp only[Gr]
   rw[Ah (d:=L6) hj,I3b]at hi
   refine H5b (by omega) (H5b (by omega) (H5b (by omega) ?_))
   rw[Vc,w64 (n:=(j:Int)+1) (by omega) (by omega)]
   refine Hdb (Sfa (q.getD j L6) (hq.2 _ (A3 hj))) ?_
   cases hc:N5 (q.getD j L6) with
   |false=>exact H4b rfl (H1b (by unfold qOk;rw[← hi,hc];rfl))
   |true=>exact H3b rfl (next () (by rw[hc,Vx]at hi;exact hi))
 ·rintro r rfl
  unfold N1
  dsimp only
  cases qOk q
  ·exact H1b rfl
  simp only[cond_true,Ifb,Vx]
  refine Hdb (Heb (Q:=λ r=>r=inR i 0 20) (Tx _ _ _) rfl) ?_
  cases inR i 0 20
  ·exact H3b rfl (H1b rfl)
  refine H4b rfl (Hdb (Rx (a,b) hd.1.1 hd.1.2) ?_)
  cases Ay (a,b)
  ·exact H3b rfl (H1b rfl)
  refine H4b rfl (Hdb (M2a ro (by have:=hr.1;unfold Few;omega) hr.2) ?_)
  cases Js ro with
  |false=>exact H3b rfl (H1b rfl)
  |true=>exact H4b rfl (H1b rfl)
def Xda (n:Nod) (hn:NIn n):Tot (λ k=>G9 k n) (λ r=>r=N1 n):=by
 obtain⟨i,⟨a,b⟩,ro,q⟩:=n
 obtain⟨⟨hd,_⟩,hr,hq⟩:=hn
 dsimp only at hd hr hq
 unfold G9
 have hl:=hq.1
 refine H2b (Q:=λ r=>r=bif qOk q then .inr (i,a,b,ro,q) else .inl false) ?_ ?_
 ·refine Hab (L:=λ k i' (_:Unit)=>H2 k i' i a b ro q) (Q:=λ r=>r=bif qOk q then .inr (i,a,b,ro,q) else .inl false) q.length (λ j _=>(q.drop j).all N5=q.all N5) ?_ ?_ 0 () (Vp _) (by rw[Wo])
  ·intro _ hj
   rw[We]at hj
   simp only[H2]
   exact H6b (by omega) (H1b (by unfold qOk;rw[← hj];rfl))
  ·intro j _ hj hi next
   simp only[H2]
   rw[Ah (d:=L6) hj,I3b]at hi
   refine H5b (by omega) (H5b (by omega) (H5b (by omega) ?_))
   rw[Vc,w64 (n:=(j:Int)+1) (by omega) (by omega)]
   refine Hdb (Sga (q.getD j L6) (hq.2 _ (A3 hj))) ?_
   cases hc:N5 (q.getD j L6) with
   |false=>exact H4b rfl (H1b (by unfold qOk;rw[← hi,hc];rfl))
   |true=>exact H3b rfl (next () (by rw[hc,Vx]at hi;exact hi))
 ·rintro r rfl
  unfold N1
  dsimp only
  cases qOk q
  ·exact H1b rfl
  simp only[cond_true,Ifb,Vx]
  refine Hdb (Heb (Q:=λ r=>r=inR i 0 20) (Nz _ _ _) rfl) ?_
  cases inR i 0 20
  ·exact H3b rfl (H1b rfl)
  refine H4b rfl (Hdb (Q3 (a,b) hd.1.1 hd.1.2) ?_)
  cases Ay (a,b)
  ·exact H3b rfl (H1b rfl)
  refine H4b rfl (Hdb (Wua ro (by have:=hr.1;unfold Few;omega) hr.2) ?_)
  cases Js ro with
  |false=>exact H3b rfl (H1b rfl)
  |true=>exact H4b rfl (H1b rfl)
def Oj (n:Nod) (hn:NIn n):Tot (λ k=>Ca k n) (λ r=>r=n):=by
 unfold Ca
 have h1:=hn.2.1.1
 have h2:=hn.2.2.1
 refine Hdb (J5 n.2.1 hn.1.1.1.1) ?_
 refine Hdb (Heb (Q:=λ r=>r=n.2.2.1) (Tw _ (by unfold Few;omega)) rfl) ?_
 refine Hdb (Heb (Q:=λ r=>r=n.2.2.2) (Tw _ (by unfold Few;omega)) rfl) ?_
 exact H1b rfl
def H6a (n:Nod) (hn:NIn n):Tot (λ k=>J1 k n) (λ r=>r=n):=by
 unfold J1
 have h1:=hn.2.1.1
 have h2:=hn.2.2.1
 refine Hdb (Ll n.2.1 hn.1.1.1.1) ?_
 refine H9b (by simp only[Vk];omega) (H9b (by simp only[Vk];omega) (H1b ?_))
 rw[Vy,Vy]
def Oua (a b:List Row) (hf:a.length+b.length≤10000000000):Tot (λ k=>Ck k a b) (λ r=>r=Nj a b):=by
 unfold Ck
 refine H9b (by simp only[Vk];omega) ?_
 rw[Vy]
 refine H2b (Q:=λ r=>r=Nj a b) ?_ (by rintro r rfl;exact H1b rfl)
 refine Hab (L:=λ k i s=>Dq k b s i) (Q:=λ r=>r=Nj a b) b.length (λ i s=>Nj s (b.drop i)=Nj a b∧s.length≤a.length+i) ?_ ?_ 0 a (Vp _) ⟨by rw[Wo],Nat.le_add_right _ _⟩
 ·rintro s ⟨hs,_⟩
  rw[We]at hs
  simp only[Dq]
  exact H6b (by omega) (H1b hs)
 ·rintro i s hi ⟨hs,hl⟩ next
  simp only[Dq]
  refine H5b (by omega) (H5b (by omega) (H5b (by omega) ?_))
  rw[Vc,w64 (n:=(i:Int)+1) (by omega) (by omega)]
  rw[Ah (d:=L6) hi]at hs
  refine Hdb (Sca s (b.getD i L6) (by unfold Few;omega)) ?_
  have:=Sda s (b.getD i L6)
  exact next _ ⟨hs,by omega⟩
def Xea (n:Nod) (l:List Row):Nod×Bool:=bif N1 n&&Js l then (bif decide ((Nj n.2.2.1 l).length > 60) then (n,false) else ((n.1,n.2.1,Nj n.2.2.1 l,n.2.2.2),true)) else (n,false)
def K0a {a b:List Row} (ha:Js a=true) (hb:Js b=true) (h:(Nj a b).length≤60):Js (Nj a b)=true:=by
 obtain⟨a1,a2,_⟩:=Lh.1 ha
 obtain⟨b1,b2,_⟩:=Lh.1 hb
 exact Lh.2 ⟨N6 a1,λ r hr=>(E3a hr).elim (a2 r) (b2 r),h⟩
def Xfa (n:Nod) (l:List Row) (hn:NIn n) (hl:RF l):Tot (λ k=>Hy k n l) (λ r=>r=Xea n l):=by
 have h1:=hn.2.1.1
 have h2:=hl.1
 unfold Hy Xea
 refine Hdb (Oj n hn) ?_
 refine Hdb (Mka n hn) ?_
 cases N1 n
 ·exact H4b rfl (H1b rfl)
 refine H3b rfl (Hdb (M2a l (by unfold Few;omega) hl.2) ?_)
 cases Js l
 ·exact H4b rfl (H1b rfl)
 refine H3b rfl (Hdb (Ofa n.2.2.1 l (by omega)) ?_)
 refine H8b (λ h=>?_) (λ h=>?_)
 ·rw[decide_eq_true (show (Nj n.2.2.1 l).length > 60 by omega)]
  refine Hdb (Oj n hn) ?_
  exact H1b rfl
 ·rw[decide_eq_false (show ¬ (Nj n.2.2.1 l).length > 60 by omega)]
  exact H1b rfl
def Ova (n:Nod) (l:List Row) (h1:n.2.2.1.length≤2000000) (h2:l.length≤2000000):Tot (λ k=>S8 k n l) (λ r=>r=bif decide ((Nj n.2.2.1 l).length > 60) then (false,n) else (true,(n.1,n.2.1,Nj n.2.2.1 l,n.2.2.2))):=by
 unfold S8 Hp
 refine H2b (Oua n.2.2.1 l (by omega)) ?_
 rintro r rfl
 refine H8b (λ h=>?_) (λ h=>?_)
 ·rw[decide_eq_true (show (Nj n.2.2.1 l).length > 60 by omega)]
  exact H1b rfl
 ·rw[decide_eq_false (show ¬ (Nj n.2.2.1 l).length > 60 by omega)]
  exact H1b rfl
def Ua (s:ByteArray) (f:Fil):Row:=(s,f.1,f.2.1,(f.2.2.length:Int))
def Qg (n:Nod) (s:ByteArray) (f:Fil) (sure:Bool):Nod×Int:=bif (n.2.2.2.length:Int)==60 then (n,3) else
 ((n.1,(keep n.2.1 s f sure).1,n.2.2.1,bif (keep n.2.1 s f sure).2==0&&sure then n.2.2.2++[Ua s f] else n.2.2.2),(keep n.2.1 s f sure).2)
def Xga {s:ByteArray} {f:Fil} (hs:B0 s=true) (hf:F7 f=true):N5 (Ua s f)=true:=by
 obtain⟨h1,h2,h3⟩:=J8.1 hf
 unfold N5 Ua
 dsimp only
 rw[hs,h1,F9.2 ⟨by omega,by omega⟩]
 cases hd:f.2.1 with
 |false=>rfl
 |true=>rw[h3 hd];rfl
def Mla {n:Nod} {s:ByteArray} {f:Fil} {sure:Bool} (hn:NG n) (hs:B0 s=true) (hf:F7 f=true):NG (Qg n s f sure).1:=by
 obtain⟨h1,h2,h3,h4,h5⟩:=Bo.1 hn.1
 have hk:=Zha (s:=s) (f:=f) (sure:=sure) hn.g
 unfold Qg
 cases hl:((n.2.2.2.length:Int)==60)
 case true=>exact hn
 have hl':n.2.2.2.length≠60:=by
  intro e
  rw[e]at hl
  cases hl
 refine⟨Bo.2 ⟨?_,h2,hk.1,h4,?_⟩,hk.2⟩
 ·show ∀ r∈bif (keep n.2.1 s f sure).2==0&&sure then n.2.2.2++[Ua s f] else n.2.2.2,N5 r=true
  cases (keep n.2.1 s f sure).2==0&&sure
  ·exact h1
  intro r hr
  rcases Vn.1 hr with hr|hr
  ·exact h1 r hr
  ·rw[Vu.1 hr];exact Xga hs hf
 ·show (bif (keep n.2.1 s f sure).2==0&&sure then n.2.2.2++[Ua s f] else n.2.2.2).length≤60
  cases (keep n.2.1 s f sure).2==0&&sure with
  |false=>exact h5
  |true=>rw[cond_true,Ve];simp only[Vd,Vk];omega
def Tba (n:Nod) (s:ByteArray) (f:Fil) (sure:Bool) (hn:NIn n) (hs:Lb s):Tot (λ k=>Tc k n s f sure) (λ r=>r=((Qg n s f sure).2,(Qg n s f sure).1)):=by
 have h1:=hn.2.2.1
 unfold Tc Jm Qg
 cases (n.2.2.2.length:Int)==60 with
 |true=>exact H4b rfl (H1b rfl)
 |false=>
  refine H3b rfl (H2b (Mia n.2.1 s f sure hn.1.1 hn.1.2.1 hs) ?_)
  rintro r rfl
  cases (keep n.2.1 s f sure).2==0 with
  |false=>exact H3b rfl (H1b rfl)
  |true=>
   refine H4b rfl ?_
   cases sure with
   |false=>exact H3b rfl (H1b rfl)
   |true=>
    refine H4b rfl (H9b (by simp only[Vk];omega) ?_)
    refine H2b (Heb (Q:=λ r=>r=Ua s f) (show Ld s f=some (Ua s f) from rfl) rfl) ?_
    rintro r rfl
    refine H9b (by simp only[Ve,Vd,Vk];omega) (H1b ?_)
    rw[Vy]
    rfl
def I6a (n:Nod) (s:ByteArray) (b:Int):Nod×Bool:=bif N1 n&&((lkD n.2.1 s).2==0&&(F0a n.2.1 s b).2) then ((n.1,(F0a n.2.1 s b).1,n.2.2),true) else (n,false)
def Zia {n:Nod} {s:ByteArray} {b:Int} (hn:NG n):NG (I6a n s b).1:=by
 obtain⟨h1,h2,h3,h4,h5⟩:=Bo.1 hn.1
 have hr:=Epb (s:=s) (n:=b) hn.g
 unfold I6a
 cases N1 n&&((lkD n.2.1 s).2==0&&(F0a n.2.1 s b).2) with
 |false=>exact hn
 |true=>exact⟨Bo.2 ⟨h1,h2,hr.1,h4,h5⟩,hr.2⟩
def K1a (n:Nod) (s:ByteArray) (b:Int) (hn:NIn n) (h1:b≤9223372036854775807) (h0 : -9223372036854775808≤b):Tot (λ k=>J2 k n s b) (λ r=>r=I6a n s b):=by
 unfold J2 I6a
 refine Hdb (H6a n hn) ?_
 refine Hdb (Xv hn.1.1.1.1.1 hn.1.2.1 s) ?_
 refine Hdb (Xda n hn) ?_
 cases h:N1 n
 ·exact H4b rfl (H1b rfl)
 refine H3b rfl ?_
 cases hl:(lkD n.2.1 s).2==0
 ·exact H4b (by unfold bne;rw[hl];rfl) (H1b rfl)
 refine H3b (by unfold bne;rw[hl];rfl) (Hdb (C5b (NG.g ⟨h,hn.1.2⟩) h1 h0) ?_)
 cases (F0a n.2.1 s b).2 with
 |false=>exact H4b rfl (H1b rfl)
 |true=>exact H3b rfl (H1b rfl)
def A8:Nod:=((0:Int),(([]:List Nmd),([]:List Nmd)),([]:List Row),([]:List Row))
def K2a (i:Int):Iu i=some (bif inR i 0 20 then (i,([],[]),[],[]) else A8):=by
 unfold Iu
 rw[Nz]
 simp only[Vs]
 cases inR i 0 20<;>rfl

abbrev Dev:=Int×Int×Int
abbrev Rng:=Int×List (List Int)
def N9:Dev:=((0:Int),((0:Int),(0:Int)))
def Lm (l:List Int) (n:Int):Bool:=l.any (· == n)
def Ln {l:List Int} {n:Int}:Lm l n=true↔n∈l:=by
 unfold Lm
 rw[Hpb]
 constructor
 ·rintro⟨x,hx,e⟩;rw[← eq_of_beq e];exact hx
 ·intro h;exact⟨n,h,beq_self_eq_true n⟩
def Tca (l:List Int) (n:Int) (hl:l.length≤4000000000000000):Tot (λ k=>Hh k l n) (λ r=>r=Lm l n):=by
 unfold Hh
 refine H2b (Q:=λ r=>r=bif Lm l n then .inl true else .inr ()) ?_ (by rintro r rfl;cases Lm l n<;>exact H1b rfl)
 refine Hab (L:=λ k i (_:Unit)=>Gn k n l (l.length:Int) i) (Q:=λ r=>r=bif Lm l n then .inl true else .inr ()) l.length (λ j _=>Lm (l.drop j) n=Lm l n) ?_ ?_ 0 () (Vp _) rfl
 ·intro _ h
  rw[We]at h
  simp (disch:=omega) only [Gn,dF,← h]
  exact H1b rfl
 ·intro j _ hj h next
  rw[Ah (d:=0) hj]at h
  simp (disch:=omega) only [Gn,dT,Vc,w64]
  unfold Lm at h
  rw[I1b]at h
  refine H7b (λ hc=>H1b ?_) (λ hc=>next () ?_)
  ·rw[hc,Jxb]at h
   unfold Lm
   rw[← h]
   rfl
  ·rw[hc,I4b]at h
   exact h
def T0 (l:List Int) (n:Int) (hl:l.length≤4000000000000000):Tot (λ k=>Cg k l n) (λ r=>r=Lm l n):=by
 unfold Cg
 refine H2b (Q:=λ r=>r=bif Lm l n then .inl true else .inr ()) ?_ (by rintro r rfl;cases Lm l n<;>exact H1b rfl)
 refine Hab (L:=λ k i (_:Unit)=>I0 k l n i) (Q:=λ r=>r=bif Lm l n then .inl true else .inr ()) l.length (λ j _=>Lm (l.drop j) n=Lm l n) ?_ ?_ 0 () (Vp _) rfl
 ·intro _ h
  rw[We]at h
  simp (disch:=omega) only [I0,dF,← h]
  exact H1b rfl
 ·intro j _ hj h next
  rw[Ah (d:=0) hj]at h
  simp (disch:=omega) only [I0,dT,Vc,w64]
  unfold Lm at h
  rw[I1b]at h
  refine H7b (λ hc=>H1b ?_) (λ hc=>next () ?_)
  ·rw[hc,Jxb]at h
   unfold Lm
   rw[← h]
   rfl
  ·rw[hc,I4b]at h
   exact h
def Ke (l:List Dev) (id:Int):Option Dev:=l.find? (λ d=>d.1==id)
def Gcb:Option Dev→Dev×Bool
 |some d=>(d,true)
 |none=>(N9,false)
def W1 {l:List Dev} {id:Int} {d:Dev} (h:Ke l id=some d):d∈l∧d.1=id:=⟨K0b h,eq_of_beq (List.find?_some (p:=λ d:Dev=>d.1==id) h)⟩
def Tda (l:List Dev) (id:Int) (hl:l.length≤1000000000):Tot (λ k=>Jv k l id) (λ r=>r=Gcb (Ke l id)):=by
 unfold Jv
 refine H2b (Q:=λ r=>r=match Ke l id with|some d => .inl (true,d)|none => .inr (0,0,0)) ?_ (by rintro r rfl;cases Ke l id<;>exact H1b rfl)
 refine Hab (L:=λ k i (_:Unit)=>Hu k id l (l.length:Int) i (0,0,0)) (Q:=λ r=>r=match Ke l id with|some d => .inl (true,d)|none => .inr (0,0,0)) l.length (λ j _=>Ke (l.drop j) id=Ke l id) ?_ ?_ 0 () (Vp _) rfl
 ·intro _ h
  rw[We]at h
  simp (disch:=omega) only [Hu,dF,← h]
  exact H1b rfl
 ·intro j _ hj h next
  rw[Ah (d:=N9) hj]at h
  unfold Ke at h
  rw[Iab]at h
  simp (disch:=omega) only [Hu,dT,Vc,w64]
  refine H7b (λ hc=>H1b ?_) (λ hc=>next () ?_)
  ·rw[show ((l.getD j N9).1==id)=true from hc]at h
   unfold Ke
   rw[← h]
   rfl
  ·rw[show ((l.getD j N9).1==id)=false from hc]at h
   exact h
def Ub (l:List Dev) (id:Int) (hl:l.length≤1000000000):Tot (λ k=>G0 k l id) (λ r=>r=Gcb (Ke l id)):=by
 unfold G0
 refine H2b (Q:=λ r=>r=match Ke l id with|some d => .inl (true,d)|none => .inr (0,0,0)) ?_ (by rintro r rfl;cases Ke l id<;>exact H1b rfl)
 refine Hab (L:=λ k i (_:Unit)=>I1 k l id i (0,0,0)) (Q:=λ r=>r=match Ke l id with|some d => .inl (true,d)|none => .inr (0,0,0)) l.length (λ j _=>Ke (l.drop j) id=Ke l id) ?_ ?_ 0 () (Vp _) rfl
 ·intro _ h
  rw[We]at h
  simp (disch:=omega) only [I1,dF,← h]
  exact H1b rfl
 ·intro j _ hj h next
  rw[Ah (d:=N9) hj]at h
  unfold Ke at h
  rw[Iab]at h
  simp (disch:=omega) only [I1,dT,Vc,w64]
  refine H7b (λ hc=>H1b ?_) (λ hc=>next () ?_)
  ·rw[show ((l.getD j N9).1==id)=true from hc]at h
   unfold Ke
   rw[← h]
   rfl
  ·rw[show ((l.getD j N9).1==id)=false from hc]at h
   exact h
def Axa (d:Dev):Bool:=inR d.1 0 20&&(inR d.2.1 0 20&&inR d.2.2 1 1000)
def Xc:Option Int→List Dev→Bool
 |_,[]=>true
 |none,d::l=>Axa d&&Xc (some d.1) l
 |some q,d::l=>Axa d&&(decide (q<d.1)&&Xc (some d.1) l)
def Lo (l:List Dev):Bool:=Xc none l&&inR (l.length:Int) 1 12
def H7a (l:List Dev):Nat→Option Int
 |0=>none
 |i+1=>some (l.getD i N9).1
def Ega:∀ (p:Option Int) (l:List Dev),Xc p l=true↔l.Pairwise (λ a b=>a.1<b.1)∧(∀ d∈l,Axa d=true)∧(∀ q,p=some q→∀ d∈l,q<d.1)
 |p,[]=>by cases p<;>simp[Xc]
 |none,d::l=>by
  simp only[Xc,Va,Ega (some d.1) l,Wh,Vl,forall_eq_or_imp,Vg]
  constructor
  ·rintro⟨h1,h2,h3,h4⟩;exact⟨⟨h4 _ rfl,h2⟩,⟨h1,h3⟩,λ q h=>by cases h⟩
  ·rintro⟨⟨h1,h2⟩,⟨h3,h4⟩,_⟩;exact⟨h3,h2,h4,λ q e=>by subst e;exact h1⟩
 |some q,d::l=>by
  simp only[Xc,Va,decide_eq_true_iff,Ega (some d.1) l,Wh,Vl,forall_eq_or_imp,Vg]
  constructor
  ·rintro⟨h1,hq,h2,h3,h4⟩
   exact⟨⟨h4 _ rfl,h2⟩,⟨h1,h3⟩,λ q' e=>by subst e;exact⟨hq,λ x hx=>by have:=h4 _ rfl x hx;omega⟩⟩
  ·rintro⟨⟨h1,h2⟩,⟨h3,h4⟩,h5⟩
   exact⟨h3,(h5 q rfl).1,h2,h4,λ q e=>by subst e;exact h1⟩
def Fb {l:List Dev}:Lo l=true↔l.Pairwise (λ a b=>a.1<b.1)∧(∀ d∈l,Axa d=true)∧1≤l.length∧l.length≤12:=by
 unfold Lo
 rw[Va,Ega,F9]
 constructor
 ·rintro⟨⟨h1,h2,_⟩,h3,h4⟩;exact⟨h1,h2,by omega,by omega⟩
 ·rintro⟨h1,h2,h3,h4⟩;exact⟨⟨h1,h2,λ q h=>by cases h⟩,by omega,by omega⟩
def Ng {d:Dev}:Axa d=true↔(0≤d.1∧d.1≤20)∧(0≤d.2.1∧d.2.1≤20)∧1≤d.2.2∧d.2.2≤1000:=by
 unfold Axa
 rw[Va,Va,F9,F9,F9]
def H8a {l:List Dev} {j:Nat} (hj:j<l.length):Xc (H7a l j) (l.drop j)=(Axa (l.getD j N9)&&((bif decide (0<j) then decide ((l.getD (j-1) N9).1<(l.getD j N9).1) else true)&&Xc (H7a l (j+1)) (l.drop (j+1)))):=by
 rw[Ah (d:=N9) hj]
 cases j with
 |zero=>simp[H7a,Xc]
 |succ j=>simp[H7a,Xc]
def Xha (l:List Dev) (hl:l.length≤1000000000):Tot (λ k=>G5 k l) (λ r=>r=Lo l):=by
 unfold G5 Lo
 refine H2b (Q:=λ r=>r=bif Xc none l then .inr l else .inl false) ?_ ?_
 ·refine Hab (L:=λ k i (_:Unit)=>Fs k l l (l.length:Int) i) (Q:=λ r=>r=bif Xc none l then .inr l else .inl false) l.length (λ j _=>Xc (H7a l j) (l.drop j)=Xc none l) ?_ ?_ 0 () (Vp _) rfl
  ·intro _ h
   rw[We]at h
   have:Xc none l=true:=by rw[← h];cases H7a l l.length<;>rfl
   simp (disch:=omega) only [Fs,dF,this]
   exact H1b rfl
  ·intro j _ hj h next
   rw[H8a hj]at h
   simp (disch:=omega) only [Fs,dT,Vc,w64,Tx,Vs]
   have e0:l.getD j ((0:Int),((0:Int),(0:Int)))=l.getD j N9:=rfl
   rw[e0]
   have no:Axa (l.getD j N9)=false→Xc none l=false:=λ c=>by rw[← h,c];rfl
   unfold Axa at no h
   refine H7b (λ hc=>H1b ?_) (λ h1=>H7b (λ hc=>H1b ?_) (λ h2=>H7b (λ hc=>H1b ?_) (λ h3=>?_)))
   ·rw[no (by rw[Wa]at hc;rw[hc];rfl)];rfl
   ·rw[no (by rw[Wa]at hc;rw[hc,Yv,Wq])];rfl
   ·rw[no (by rw[Wa]at hc;rw[hc,Wq,Wq])];rfl
   ·rw[Yb]at h1 h2 h3
    rw[h1,h2,h3]at h
    refine H8b (λ h0=>?_) (λ h0=>next () ?_)
    ·simp (disch:=omega) only [dT,w64,show toNat ((j:Int)-1)=j-1 by omega]
     rw[decide_eq_true (show 0<j by omega)]at h
     refine H8b (λ hc=>H1b ?_) (λ hc=>next () ?_)
     ·have hc':¬ ((l.getD (j-1) N9).1<(l.getD j N9).1):=by
       have:(l.getD (j-1) N9).1≥(l.getD j N9).1:=hc
       omega
      rw[decide_eq_false hc']at h
      rw[← h];rfl
     ·have hc':(l.getD (j-1) N9).1<(l.getD j N9).1:=by
       have:¬ ((l.getD (j-1) N9).1≥(l.getD j N9).1):=hc
       omega
      rw[decide_eq_true hc']at h
      exact h
    ·rw[decide_eq_false (show ¬ 0<j by omega)]at h
     exact h
 ·rintro r rfl
  cases Xc none l
  ·exact H1b rfl
  simp only[cond_true,Ifb,Tx,Vs]
  exact H1b rfl
def Eha (l:List Dev) (hl:l.length≤1000000000):Tot (λ k=>Cm k l) (λ r=>r=Lo l):=by
 unfold Cm Lo
 refine H2b (Q:=λ r=>r=bif Xc none l then .inr l else .inl false) ?_ ?_
 ·refine Hab (L:=λ k i (_:Unit)=>Fv k l i) (Q:=λ r=>r=bif Xc none l then .inr l else .inl false) l.length (λ j _=>Xc (H7a l j) (l.drop j)=Xc none l) ?_ ?_ 0 () (Vp _) rfl
  ·intro _ h
   rw[We]at h
   have:Xc none l=true:=by rw[← h];cases H7a l l.length<;>rfl
   simp (disch:=omega) only [Fv,dF,this]
   exact H1b rfl
  ·intro j _ hj h next
   rw[H8a hj]at h
   simp (disch:=omega) only [Fv,dT,Vc,w64,Nz,Vs]
   have e0:l.getD j ((0:Int),((0:Int),(0:Int)))=l.getD j N9:=rfl
   rw[e0]
   have no:Axa (l.getD j N9)=false→Xc none l=false:=λ c=>by rw[← h,c];rfl
   unfold Axa at no h
   refine H7b (λ hc=>H1b ?_) (λ h1=>H7b (λ hc=>H1b ?_) (λ h2=>H7b (λ hc=>H1b ?_) (λ h3=>?_)))
   ·rw[no (by rw[Wa]at hc;rw[hc];rfl)];rfl
   ·rw[no (by rw[Wa]at hc;rw[hc,Yv,Wq])];rfl
   ·rw[no (by rw[Wa]at hc;rw[hc,Wq,Wq])];rfl
   ·rw[Yb]at h1 h2 h3
    rw[h1,h2,h3]at h
    refine H8b (λ h0=>?_) (λ h0=>next () ?_)
    ·simp (disch:=omega) only [dT,w64,show toNat ((j:Int)-1)=j-1 by omega]
     rw[decide_eq_true (show 0<j by omega)]at h
     refine H8b (λ hc=>H1b ?_) (λ hc=>next () ?_)
     ·have hc':¬ ((l.getD (j-1) N9).1<(l.getD j N9).1):=by
       have:(l.getD (j-1) N9).1≥(l.getD j N9).1:=hc
       omega
      rw[decide_eq_false hc']at h
      rw[← h];rfl
     ·have hc':(l.getD (j-1) N9).1<(l.getD j N9).1:=by
       have:¬ ((l.getD (j-1) N9).1≥(l.getD j N9).1):=hc
       omega
      rw[decide_eq_true hc']at h
      exact h
    ·rw[decide_eq_false (show ¬ 0<j by omega)]at h
     exact h
 ·rintro r rfl
  cases Xc none l
  ·exact H1b rfl
  simp only[cond_true,Ifb,Nz,Vs]
  exact H1b rfl
def K3a (l:List Dev) (out:List Int) (id:Int):List Int:=match Ke l id with
 |some d=>bif Lm out d.2.1 then out else out++[d.2.1]
 |none=>out
def Jc (ids:List Int) (l:List Dev):List Int:=ids.foldl (K3a l) []
def H9a (l:List Dev) (out:List Int) (id:Int):(K3a l out id).length≤out.length+1:=by
 unfold K3a
 cases Ke l id with
 |none=>exact Htb _
 |some d=>
  simp only
  cases Lm out d.2.1 with
  |true=>exact Htb _
  |false=>rw[cond_false,Ve];exact Vw _
def Haa (l:List Dev):∀ (ids out:List Int),(ids.foldl (K3a l) out).length≤out.length+ids.length
 |[],out=>by simp
 |id::ids,out=>by
  have h1:=Haa l ids (K3a l out id)
  have h2:=H9a l out id
  rw[Yr,Vd]
  omega
def Hba (ids:List Int) (l:List Dev) (hi:ids.length≤5000000) (hl:l.length≤5000000):Tot (λ k=>Cr k ids l) (λ r=>r=Jc ids l):=by
 unfold Cr
 refine H2b (Q:=λ r=>r=Jc ids l) ?_ (by rintro r rfl;exact H1b rfl)
 refine Hab (L:=λ k i s=>Dk k ids l s i) (Q:=λ r=>r=Jc ids l) ids.length (λ j s=>(ids.drop j).foldl (K3a l) s=Jc ids l∧s.length≤j) ?_ ?_ 0 [] (Vp _) ⟨rfl,Vw _⟩
 ·rintro s ⟨h,_⟩
  rw[We]at h
  simp (disch:=omega) only [Dk,dF]
  exact H1b h
 ·rintro j s hj ⟨h,hs⟩ next
  rw[Ah (d:=0) hj,Yr]at h
  simp (disch:=omega) only [Dk,dT,Vc,w64]
  have hz:=H9a l s (ids.getD j 0)
  refine Hdb (Ub l (ids.getD j 0) (by omega)) ?_
  unfold K3a at h hz
  cases hd:Ke l (ids.getD j 0) with
  |none=>
   rw[hd]at h
   exact H3b rfl (next _ ⟨h,by omega⟩)
  |some d=>
   rw[hd]at h hz
   refine H4b rfl (Hdb (T0 s d.2.1 (by omega)) ?_)
   simp only at h hz
   cases hh:Lm s d.2.1 with
   |true=>
    rw[hh]at h
    exact H3b rfl (next _ ⟨h,by omega⟩)
   |false=>
    rw[hh]at h hz
    exact H4b rfl (H9b (by simp only[Vd,Vk];omega) (next _ ⟨h,by rw[cond_false]at hz;exact Zw hz (by omega)⟩))

def Rb {l:List Int} {j:Nat} (hj:j<l.length) (h:(l.take j).Nodup) (hn:l.getD j 0∉l.take j):(l.take (j+1)).Nodup:=by
 rw[Wi hj,Yc]
 rw[Vb,Vj hj,Yu]at hn
 exact⟨h,by simp,λ a ha b hb e=>by rw[Vu.1 hb]at e;subst e;exact hn ha⟩
def Hca {l:List Int} {j:Nat} (hj:j<l.length) (hn:l.getD j 0∈l.take j):¬ l.Nodup:=by
 intro h
 have h1:(l.take (j+1)).Nodup:=h.sublist (K4b _ _)
 rw[Wi hj,Yc]at h1
 rw[Vb,Vj hj,Yu]at hn
 exact h1.2.2 _ hn _ (by simp) rfl
def Tea (l:List Int) (hl:l.length≤5000000):Tot (λ k=>I7 k l) (λ r=>r=decide l.Nodup):=by
 unfold I7
 refine H2b (Q:=λ r=>r=bif decide l.Nodup then .inr () else .inl false) ?_ (by rintro r rfl;cases decide l.Nodup<;>exact H1b rfl)
 refine Hab (L:=λ k i (_:Unit)=>Ht k l l (l.length:Int) i) (Q:=λ r=>r=bif decide l.Nodup then .inr () else .inl false) l.length (λ j _=>(l.take j).Nodup) ?_ ?_ 0 () (Vp _) (by simp)
 ·intro _ h
  rw[Yj]at h
  simp (disch:=omega) only [Ht,dF,decide_eq_true h]
  exact H1b rfl
 ·intro j _ hj h next
  simp (disch:=omega) only [Ht,dT,Vc,w64]
  refine Hdb (Tca (l.take j) (l.getD j 0) (by rw[Vq];omega)) ?_
  refine H7b (λ hc=>H1b ?_) (λ hc=>next () (Rb hj h (λ c=>by rw[Ln.2 c]at hc;cases hc)))
  rw[decide_eq_false (Hca hj (Ln.1 hc))]
  rfl
def Xia (l:List Int) (n:Int) (hl:l.length≤5000000):Tot (λ k=>Ga k l n) (λ r=>r=(decide l.Nodup&&((l.length:Int)==n))):=by
 unfold Ga
 refine H2b (Q:=λ r=>r=bif decide l.Nodup then .inr (n,l) else .inl false) ?_ (by rintro r rfl;cases decide l.Nodup<;>exact H1b rfl)
 refine Hab (L:=λ k i (_:Unit)=>H5 k n i l) (Q:=λ r=>r=bif decide l.Nodup then .inr (n,l) else .inl false) l.length (λ j _=>(l.take j).Nodup) ?_ ?_ 0 () (Vp _) (by simp)
 ·intro _ h
  rw[Yj]at h
  simp (disch:=omega) only [H5,dF,decide_eq_true h]
  exact H1b rfl
 ·intro j _ hj h next
  simp (disch:=omega) only [H5,dT,Vc,w64]
  refine Hdb (T0 (l.take j) (l.getD j 0) (by rw[Vq];omega)) ?_
  refine H7b (λ hc=>H1b ?_) (λ hc=>next () (Rb hj h (λ c=>by rw[Ln.2 c]at hc;cases hc)))
  rw[decide_eq_false (Hca hj (Ln.1 hc))]
  rfl
def RBd (r:Rng):Prop:=r.2.length≤2000000∧∀ p∈r.2,p.length≤2000000
def Pg (l:List Dev) (n:Int) (p:List Int):Bool:=(decide p.Nodup&&((p.length:Int)==n))&&p.all λ id=>(Ke l id).isSome
def J6 (r:Rng) (l:List Dev):Bool:=Lo l&&(inR r.1 1 5&&(inR (r.2.length:Int) 1 64&&r.2.all (Pg l r.1)))
def Bz {r:Rng} {l:List Dev}:J6 r l=true↔Lo l=true∧(1≤r.1∧r.1≤5)∧(1≤r.2.length∧r.2.length≤64)∧∀ p∈r.2,p.Nodup∧(p.length:Int)=r.1∧∀ id∈p,∃ d,Ke l id=some d:=by
 unfold J6 Pg
 simp only[Va,F9,Yg,decide_eq_true_iff,beq_iff_eq,Zl]
 constructor
 ·rintro⟨h1,h2,⟨h3,h4⟩,h5⟩;exact⟨h1,h2,⟨by omega,by omega⟩,λ p hp=>⟨(h5 p hp).1.1,(h5 p hp).1.2,(h5 p hp).2⟩⟩
 ·rintro⟨h1,h2,⟨h3,h4⟩,h5⟩;exact⟨h1,h2,⟨by omega,by omega⟩,λ p hp=>⟨⟨(h5 p hp).1,(h5 p hp).2.1⟩,(h5 p hp).2.2⟩⟩
def Ma {r:Rng} {l:List Dev} (h:J6 r l=true):RBd r:=by
 obtain⟨_,h2,h3,h4⟩:=Bz.1 h
 exact⟨by omega,λ p hp=>by have:=(h4 p hp).2.1;omega⟩
def Xja (r:Rng) (l:List Dev) (hr:RBd r) (hl:l.length≤5000000):Tot (λ k=>Ey k r l) (λ b=>b=J6 r l):=by
 unfold Ey J6
 refine Hdb (Xha l (by omega)) ?_
 cases hd:Lo l
 ·exact H4b rfl (H1b rfl)
 have hrl:=hr.1
 simp only[Yw,cond_false,Tx,Vs,Vx]
 cases inR r.1 1 5
 ·exact H4b rfl (H1b rfl)
 refine H3b rfl ?_
 cases inR (r.2.length:Int) 1 64
 ·exact H4b rfl (H1b rfl)
 refine H3b rfl (H2b (Q:=λ b=>b=bif r.2.all (Pg l r.1) then .inr () else .inl false) ?_ (by rintro r' rfl;cases r.2.all (Pg l r.1)<;>exact H1b rfl))
 refine Hab (L:=λ k i (_:Unit)=>Gq k l r.2 (r.2.length:Int) i r) (Q:=λ b=>b=bif r.2.all (Pg l r.1) then .inr () else .inl false) r.2.length (λ j _=>(r.2.drop j).all (Pg l r.1)=r.2.all (Pg l r.1)) ?_ ?_ 0 () (Vp _) rfl
 ·intro _ h
  rw[We]at h
  simp (disch:=omega) only [Gq,dF,← h]
  exact H1b rfl
 ·intro j _ hj h next
  rw[Ah (d:=[]) hj,I3b]at h
  have hp:=hr.2 _ (A3 (d:=[]) hj)
  simp (disch:=omega) only [Gq,dT,Vc,w64]
  have no:Pg l r.1 (r.2.getD j [])=false→r.2.all (Pg l r.1)=false:=λ c=>by rw[← h,c];rfl
  unfold Pg at no h
  refine H7b (λ hc=>H1b ?_) (λ h1=>H2b (Tea (r.2.getD j []) (by omega)) ?_)
  ·have hc':(((r.2.getD j []).length:Int)==r.1)=false:=by simpa using hc
   rw[show r.2.all (Pg l r.1)=false from no (by rw[hc',Wq,Yv])]
   rfl
  ·have h1':(((r.2.getD j []).length:Int)==r.1)=true:=by simpa using h1
   rintro b rfl
   refine H7b (λ hc=>H1b ?_) (λ h2=>?_)
   ·rw[show r.2.all (Pg l r.1)=false from no (by rw[Wa]at hc;rw[hc];rfl)]
    rfl
   ·rw[Yb]at h2
    generalize r.2.getD j []=p at *
    refine H2b (Q:=λ b=>b=bif p.all (λ id=>(Ke l id).isSome) then .inr (l,r.2,(r.2.length:Int),(j:Int),r) else .inl false) ?_ ?_
    ·refine Hab (L:=λ k i (_:Unit)=>Gp k l r.2 (r.2.length:Int) (j:Int) p (p.length:Int) i r) (Q:=λ b=>b=bif p.all (λ id=>(Ke l id).isSome) then .inr (l,r.2,(r.2.length:Int),(j:Int),r) else .inl false) p.length (λ m _=>(p.drop m).all (λ id=>(Ke l id).isSome)=p.all (λ id=>(Ke l id).isSome)) ?_ ?_ 0 () (Vp _) rfl
     ·intro _ h
      rw[We]at h
      simp (disch:=omega) only [Gp,dF,← h]
      exact H1b rfl
     ·intro m _ hm h next
      rw[Ah (d:=0) hm,I3b]at h
      simp (disch:=omega) only [Gp,dT,Vc,w64]
      refine Hdb (Tda l (p.getD m 0) (by omega)) ?_
      cases hd:Ke l (p.getD m 0) with
      |none=>exact H4b rfl (H1b (by rw[← h,hd];rfl))
      |some d=>exact H3b rfl (next () (by rw[hd]at h;exact h))
    ·rintro b rfl
     cases hc:p.all (λ id=>(Ke l id).isSome)
     ·exact H1b (by rw[show r.2.all (Pg l r.1)=false from no (by rw[hc,Wq])];rfl)
     simp (disch:=omega) only [cond_true,Ifb,w64]
     exact next () (by rw[h2,h1',hc]at h;exact h)
def Wy (l:List Int) (hl:l.length≤5000000):F4 l=some l:=by
 unfold F4
 rw[bT (by simp only[Vk];omega),Vy]
def Hda (r:Rng) (hr:RBd r):Tot (λ k=>D8 k r) (λ x=>x=r):=by
 have hrl:=hr.1
 unfold D8
 refine H2b (Q:=λ x=>x=((0,[]),r)) ?_ (by rintro x rfl;exact H1b rfl)
 refine Hab (L:=λ k i s=>Ec k r.2 (r.2.length:Int) i (0,[]) (r.1,s)) (Q:=λ x=>x=((0,[]),r)) r.2.length (λ j s=>s=r.2.take j) ?_ ?_ 0 [] (Vp _) rfl
 ·rintro s rfl
  simp (disch:=omega) only [Ec,dF,Yj]
  exact H1b rfl
 ·rintro j s hj rfl next
  have hp:=hr.2 _ (A3 (d:=[]) hj)
  simp (disch:=omega) only [Ec,dT,Vc,w64,Wy,Vs]
  refine H9b (by simp only[Vq,Vd,Vk];omega) (next _ ?_)
  rw[Wi hj,Vb,Vj hj,Yu]
def Hea (r:Rng) (hr:RBd r):Tot (λ k=>Jb k r) (λ x=>x=r):=by
 have hrl:=hr.1
 unfold Jb
 refine H2b (Q:=λ x=>x=((0,[]),r)) ?_ (by rintro x rfl;exact H1b rfl)
 refine Hab (L:=λ k i s=>H4 k i r (0,[]) (r.1,s)) (Q:=λ x=>x=((0,[]),r)) r.2.length (λ j s=>s=r.2.take j) ?_ ?_ 0 [] (Vp _) rfl
 ·rintro s rfl
  simp (disch:=omega) only [H4,dF,Yj]
  exact H1b rfl
 ·rintro j s hj rfl next
  have hp:=hr.2 _ (A3 (d:=[]) hj)
  simp (disch:=omega) only [H4,dT,Vc,w64]
  refine H9b (by simp only[Vk];omega) (H9b (by simp only[Vq,Vd,Vk];omega) (next _ ?_))
  rw[Wi hj,Vb,Vj hj,Yu,Vy]
def cnt (id n x:Int):Int:=bif x==id then n+1 else n
def K4a (id n:Int) (p:List Int):Int:=p.foldl (cnt id) n
def M7 (r:Rng) (id:Int):Int:=r.2.foldl (K4a id) 0
def K5a (id:Int):∀ (p:List Int) (n:Int),n≤K4a id n p∧K4a id n p≤n+p.length
 |[],n=>by simp[K4a]
 |x::p,n=>by
  have h:=K5a id p (cnt id n x)
  unfold K4a at h ⊢
  have hc:n≤cnt id n x∧cnt id n x≤n+1:=by unfold cnt;cases x==id<;>simp<;>omega
  rw[Yr,Vd]
  omega
def Tfa (id:Int) (m:Nat):∀ (ps:List (List Int)) (n:Int),(∀ p∈ps,p.length≤m)→n≤ps.foldl (K4a id) n∧ps.foldl (K4a id) n≤n+(m*ps.length:Nat)
 |[],n,_=>by simp
 |p::ps,n,h=>by
  have h1:=Tfa id m ps (K4a id n p) (λ q hq=>h q (Vh _ hq))
  have h2:=K5a id p n
  have h3:=h p Ya
  rw[Yr,Vd,Nat.mul_succ]
  omega
def Uc {r:Rng} (hr:RBd r) (id:Int):0≤M7 r id∧M7 r id≤4000000000000:=by
 have h:=Tfa id 2000000 r.2 0 hr.2
 have h2:=hr.1
 unfold M7
 omega
def Xw (r:Rng) (id:Int) (hr:RBd r):Tot (λ k=>Cn k r id) (λ x=>x=M7 r id):=by
 have hrl:=hr.1
 unfold Cn
 refine H2b (Q:=λ x=>x=M7 r id) ?_ (by rintro x rfl;exact H1b rfl)
 refine Hab (L:=λ k i s=>Gy k id s i r) (Q:=λ x=>x=M7 r id) r.2.length (λ j s=>(r.2.drop j).foldl (K4a id) s=M7 r id∧0≤s∧s≤2000000*j) ?_ ?_ 0 0 (Vp _) ⟨rfl,by omega,by omega⟩
 ·rintro s ⟨h,_⟩
  rw[We]at h
  simp (disch:=omega) only [Gy,dF]
  exact H1b h
 ·rintro j s hj ⟨h,h0,h1⟩ next
  rw[Ah (d:=[]) hj,Yr]at h
  have hp:=hr.2 _ (A3 (d:=[]) hj)
  have hc:=K5a id (r.2.getD j []) s
  simp (disch:=omega) only [Gy,dT]
  refine H2b (Q:=λ x=>x=(id,K4a id s (r.2.getD j []),(j:Int),r)) ?_ ?_
  ·refine Hab (L:=λ k i s=>Fw k id s (j:Int) i r) (Q:=λ x=>x=(id,K4a id s (r.2.getD j []),(j:Int),r)) (r.2.getD j []).length (λ m z=>K4a id z ((r.2.getD j []).drop m)=K4a id s (r.2.getD j [])∧0≤z∧z≤2000000*j+m) ?_ ?_ 0 s (Vp _) ⟨rfl,h0,by omega⟩
   ·rintro z ⟨h,_⟩
    rw[We]at h
    simp (disch:=omega) only [Fw,dT,dF,Vc]
    exact H1b (by rw[← h];rfl)
   ·rintro m z hm ⟨h,z0,z1⟩ next
    rw[Ah (d:=0) hm]at h
    simp (disch:=omega) only [Fw,dT,Vc,w64]
    have h':K4a id (cnt id z ((r.2.getD j []).getD m 0)) ((r.2.getD j []).drop (m+1))=K4a id s (r.2.getD j []):=h
    unfold cnt at h'
    refine H7b (λ hc=>next _ ?_) (λ hc=>next _ ?_)
    ·rw[hc]at h';exact⟨h',by omega,by omega⟩
    ·rw[hc]at h';exact⟨h',by omega,by omega⟩
  ·rintro x rfl
   simp (disch:=omega) only [w64]
   exact next _ ⟨h,by omega,by omega⟩

def Gpb {a w:Int} (h0:0≤a) (h1:a≤4000000000001) (w0:0≤w) (w1:w≤1000) : -9223372036854775808≤a*w∧a*w≤9223372036854775807:=by
 have e1:=Int.mul_nonneg h0 w0
 have e2:a*w≤4000000000001*1000:=Int.mul_le_mul h1 w1 w0 (by decide)
 omega
def Aya (r:Rng) (p zs:List Int) (a:Option (Dev×Bool)) (d:Dev):Option (Dev×Bool):=
 bif Lm p d.1 then a else match a with
 |none=>some (d,!(Lm zs d.2.1))
 |some (b,fr)=>bif (!(Lm zs d.2.1)&&!fr)||(((!(Lm zs d.2.1))==fr)&&decide ((M7 r d.1+1)*b.2.2<(M7 r b.1+1)*d.2.2)) then some (d,!(Lm zs d.2.1)) else some (b,fr)
def T1 (r:Rng) (p:List Int) (l:List Dev):Option (Dev×Bool):=l.foldl (Aya r p (Jc p l)) none
def Bpa (r:Rng) (p:List Int) (l:List Dev):Int:=match T1 r p l with
 |some b=>b.1.1
 |none => -1
def Xka {r:Rng} {p zs:List Int} {l:List Dev} {a:Option (Dev×Bool)} {d:Dev} (ha:∀ b,a=some b→b.1∈l∧b.1.1∉p) (hd:d∈l):∀ b,Aya r p zs a d=some b→b.1∈l∧b.1.1∉p:=by
 intro b hb
 unfold Aya at hb
 cases hp:Lm p d.1
 case true=>rw[hp]at hb;exact ha b hb
 have hn:d.1∉p:=λ c=>by rw[Ln.2 c]at hp;cases hp
 rw[hp,cond_false]at hb
 cases a with
 |none=>cases hb;exact⟨hd,hn⟩
 |some c=>
  obtain⟨c,fr⟩:=c
  simp only at hb
  cases hq:(!(Lm zs d.2.1)&&!fr)||(((!(Lm zs d.2.1))==fr)&&decide ((M7 r d.1+1)*c.2.2<(M7 r c.1+1)*d.2.2)) with
  |true=>rw[hq]at hb;cases hb;exact⟨hd,hn⟩
  |false=>rw[hq]at hb;cases hb;exact ha _ rfl
def Mma {r:Rng} {p zs:List Int} {l:List Dev}:∀ (m:List Dev) (a:Option (Dev×Bool)),(∀ b,a=some b→b.1∈l∧b.1.1∉p)→(∀ d∈m,d∈l)→∀ b,m.foldl (Aya r p zs) a=some b→b.1∈l∧b.1.1∉p
 |[],_,ha,_=>ha
 |d::m,_,ha,hm=>Mma m _ (Xka ha (hm d Ya)) (λ x hx=>hm x (Vh _ hx))
def Mna {r:Rng} {p:List Int} {l:List Dev} {b:Dev×Bool} (h:T1 r p l=some b):b.1∈l∧b.1.1∉p:=Mma l none (λ b h=>by cases h) (λ _ h=>h) b h
def Owa {r:Rng} {p zs:List Int} {a:Option (Dev×Bool)} {d:Dev} (h:a.isSome=true∨d.1∉p):(Aya r p zs a d).isSome=true:=by
 unfold Aya
 cases hp:Lm p d.1 with
 |true=>
  rcases h with h|h
  ·exact h
  ·exact absurd (Ln.1 hp) h
 |false=>
  cases a with
  |none=>rfl
  |some c=>
   obtain⟨c,fr⟩:=c
   simp only[cond_false]
   cases (!(Lm zs d.2.1)&&!fr)||(((!(Lm zs d.2.1))==fr)&&decide ((M7 r d.1+1)*c.2.2<(M7 r c.1+1)*d.2.2))<;>rfl
def Cua {r:Rng} {p zs:List Int}:∀ (m:List Dev) (a:Option (Dev×Bool)),(a.isSome=true∨∃ d∈m,d.1∉p)→(m.foldl (Aya r p zs) a).isSome=true
 |[],a,h=>by
  rcases h with h|⟨d,h,_⟩
  ·exact h
  ·cases h
 |d::m,a,h=>by
  refine Cua m _ ?_
  by_cases hd:a.isSome=true∨d.1∉p
  ·exact .inl (Owa hd)
  ·rcases h with h|⟨x,hx,hn⟩
   ·exact absurd (.inl h) hd
   ·rcases Vl.1 hx with rfl|hx
    ·exact absurd (.inr hn) hd
    ·exact .inr ⟨x,hx,hn⟩
def Xla {r:Rng} {p:List Int} {l:List Dev} (h:∃ d∈l,d.1∉p):∃ d∈l,Bpa r p l=d.1∧d.1∉p:=by
 obtain⟨b,hb⟩:=Zl.1 (Cua (r:=r) (zs:=Jc p l) l none (.inr h))
 obtain⟨h1,h2⟩:=Mna hb
 exact⟨b.1,h1,by unfold Bpa;rw[show T1 r p l=some b from hb],h2⟩
def Oxa (r:Rng) (p:List Int) (l:List Dev):(T1 r p l=none∧Bpa r p l = -1)∨∃ b,T1 r p l=some b∧Bpa r p l=b.1.1∧b.1∈l∧b.1.1∉p:=by
 cases h:T1 r p l with
 |none=>exact .inl ⟨rfl,by unfold Bpa;rw[h]⟩
 |some b=>exact .inr ⟨b,rfl,by unfold Bpa;rw[h],Mna h⟩
def Aza (p:List Int) (l:List Dev):(Jc p l).length≤p.length:=by
 have:=Haa l p []
 rwa [Vk,Wk]at this
def bs (r:Rng):Option (Dev×Bool)→Int×Bool×Dev
 |some (b,fr)=>(M7 r b.1+1,fr,b)
 |none=>(0,false,-1,0,0)
def Moa (r:Rng) (p:List Int) (l:List Dev) (hr:RBd r) (hp:p.length≤2000000) (hl:Lo l=true):Tot (λ k=>Hn k r p l) (λ x=>x=Bpa r p l):=by
 obtain⟨_,hdv,_,h12⟩:=Fb.1 hl
 have hz:=Aza p l
 unfold Hn
 refine Hdb (Hba p l (by omega) (by omega)) ?_
 refine H2b (Q:=λ x=>∃ i:Int,x=(l,i)∧match T1 r p l with|some b=>∃ n:Nat,i=(n:Int)∧n<l.length∧l.getD n N9=b.1|none=>i = -1) ?_ ?_
 ·refine Hab (L:=λ k i (s:Int×Bool)=>Bs k l (Jc p l) s.1 s.2 i r p) (Q:=λ x=>∃ i:Int,x=(l,i)∧match T1 r p l with|some b=>∃ n:Nat,i=(n:Int)∧n<l.length∧l.getD n N9=b.1|none=>i = -1) l.length
   (λ j s=>∃ a,(match a with|some (b,fr)=>s.2=fr∧∃ n:Nat,s.1=(n:Int)∧n<l.length∧l.getD n N9=b|none=>s=(-1,false))∧(l.drop j).foldl (Aya r p (Jc p l)) a=T1 r p l) ?_ ?_ 0 (-1,false) (Vp _) ⟨none,rfl,rfl⟩
  ·rintro⟨s1,s2⟩ ⟨a,hs,h⟩
   rw[We]at h
   simp (disch:=omega) only [Bs,dF]
   refine H1b ⟨s1,rfl,?_⟩
   rw[← h]
   cases a with
   |none=>exact(Prod.mk.inj hs).1
   |some bf=>exact hs.2
  ·rintro j ⟨s1,s2⟩ hj ⟨a,hs,h⟩ next
   rw[Ah (d:=N9) hj,Yr]at h
   have hd:=A3 (d:=N9) hj
   obtain⟨d,ed⟩:∃ d:Dev,l.getD j N9=d:=⟨_,rfl⟩
   rw[ed]at h hd
   have e0:l.getD j ((0:Int),((0:Int),(0:Int)))=d:=ed
   obtain⟨_,_,w0,w1⟩:=Ng.1 (hdv _ hd)
   have l1:=Uc hr d.1
   simp (disch:=omega) only [Bs,dT,Vc,w64,e0]
   refine Hdb (Eha l (by omega)) ?_
   refine H4b hl (Hdb (T0 p d.1 (by omega)) ?_)
   unfold Aya at h
   cases hp':Lm p d.1 with
   |true=>
    rw[hp']at h
    exact H4b rfl (next _ ⟨a,hs,h⟩)
   |false=>
    rw[hp',cond_false]at h
    refine H3b rfl (Hdb (T0 (Jc p l) d.2.1 (by omega)) ?_)
    have take:∀ {z:Bool},(l.drop (j+1)).foldl (Aya r p (Jc p l)) (some (d,z))=T1 r p l→Tot (λ k=>Bs k l (Jc p l) (j:Int) z ((j:Int)+1) r p) (λ x=>∃ i:Int,x=(l,i)∧match T1 r p l with|some b=>∃ n:Nat,i=(n:Int)∧n<l.length∧l.getD n N9=b.1|none=>i = -1):=λ {z} h2=>next ((j:Int),z) ⟨some (d,z),⟨rfl,j,rfl,hj,ed⟩,h2⟩
    cases a with
    |none=>
     obtain⟨rfl,rfl⟩:=Prod.mk.inj hs
     exact H5b (by decide) (take h)
    |some bf=>
     obtain⟨b,fr⟩:=bf
     obtain⟨e1,n,e2,hn,e3⟩:=hs
     dsimp only at e1 e2
     subst e1 e2
     have hb:=A3 (d:=N9) hn
     rw[e3]at hb
     obtain⟨⟨i0,_⟩,_,v0,v1⟩:=Ng.1 (hdv _ hb)
     have l2:=Uc hr b.1
     have m1:=Gpb (a:=M7 r d.1+1) (w:=b.2.2) (by omega) (by omega) (by omega) v1
     have m2:=Gpb (a:=M7 r b.1+1) (w:=d.2.2) (by omega) (by omega) (by omega) w1
     have stay:(l.drop (j+1)).foldl (Aya r p (Jc p l)) (some (b,s2))=T1 r p l→Tot (λ k=>Bs k l (Jc p l) (n:Int) s2 ((j:Int)+1) r p) (λ x=>∃ i:Int,x=(l,i)∧match T1 r p l with|some b=>∃ n:Nat,i=(n:Int)∧n<l.length∧l.getD n N9=b.1|none=>i = -1):=λ h2=>next ((n:Int),s2) ⟨some (b,s2),⟨rfl,n,rfl,hn,e3⟩,h2⟩
     refine H6b (by omega) ?_
     have e4:l.getD n ((0:Int),((0:Int),(0:Int)))=b:=e3
     dsimp only at h
     have cmp:∀ {z:Bool},Lm (Jc p l) d.2.1=z→((!z)==s2)=true→(!z&&!s2)=false→Tot (λ k=>(Cn k r d.1).bind λ r5=>cond (decide ((0:Int)≤(n:Int))) (cond (decide ((n:Int)<(length l:Int))) (cond (decide ((0:Int)≤(n:Int))) (cond (decide ((n:Int)<(length l:Int))) ((Cn k r (getD l (toNat (n:Int)) ((0:Int),((0:Int),(0:Int)))).1).bind λ r8=>cond (decide ((wrap .i64 ((wrap .i64 (r5+1))*(getD l (toNat (n:Int)) ((0:Int),((0:Int),(0:Int)))).2.2))<(wrap .i64 ((wrap .i64 (r8+1))*d.2.2)))) (Bs k l (Jc p l) (j:Int) s2 ((j:Int)+1) r p) (Bs k l (Jc p l) (n:Int) s2 ((j:Int)+1) r p)) none) none) none) none) (λ x=>∃ i:Int,x=(l,i)∧match T1 r p l with|some b=>∃ n:Nat,i=(n:Int)∧n<l.length∧l.getD n N9=b.1|none=>i = -1):=by
      intro z hz e1 e2
      rw[hz,e1,e2,I4b,Vx]at h
      refine Hdb (Xw r d.1 hr) ?_
      refine H5b (by omega) (H5b (by omega) (H5b (by omega) (H5b (by omega) ?_)))
      rw[Vc,e4]
      refine Hdb (Xw r b.1 hr) ?_
      rw[w64 (n:=M7 r d.1+1) (by omega) (by omega),w64 (n:=M7 r b.1+1) (by omega) (by omega),w64 m1.1 m1.2,w64 m2.1 m2.2]
      refine H7b (λ hc=>?_) (λ hc=>?_)
      ·rw[hc,cond_true]at h
       rw[show s2 = !z by rw[← eq_of_beq e1]]
       exact take h
      ·rw[hc]at h;exact stay h
     cases hz:Lm (Jc p l) d.2.1 with
     |false=>
      have cm:=cmp hz
      rw[hz]at h
      cases s2 with
      |false=>exact H4b rfl (H4b rfl (take h))
      |true=>exact H4b rfl (H3b rfl (H4b rfl (cm rfl rfl)))
     |true=>
      have cm:=cmp hz
      rw[hz]at h
      cases s2 with
      |false=>exact H3b rfl (H4b rfl (cm rfl rfl))
      |true=>exact H3b rfl (H3b rfl (stay h))
 ·rintro x ⟨i,rfl,hi⟩
  unfold Bpa
  cases hb:T1 r p l with
  |none=>
   rw[hb]at hi
   subst hi
   exact H5b (show (-1:Int)<0 by decide) (H1b rfl)
  |some b=>
   rw[hb]at hi
   obtain⟨n,rfl,hn,e⟩:=hi
   dsimp only
   refine H6b (by omega) (H5b (by omega) (H5b (by omega) (H1b ?_)))
   rw[Vc,show l.getD n ((0:Int),((0:Int),(0:Int)))=b.1 from e]

def Tga {l:List Dev} (h:Lo l=true) {d:Dev} (hd:d∈l):Ke l d.1=some d:=by
 have hp:=(Fb.1 h).1
 clear h
 induction l with
 |nil=>cases hd
 |cons x l ih=>
  obtain⟨h1,h2⟩:=Wh.1 hp
  unfold Ke
  rw[Iab]
  rcases Vl.1 hd with rfl|hd
  ·rw[beq_self_eq_true]
  ·have:=h1 d hd
   rw[show (x.1==d.1)=false from beq_eq_false_iff_ne.2 (by omega)]
   exact ih hd h2
def Zja:∀ (p:List Int) (l:List Dev),l.Pairwise (λ a b=>a.1<b.1)→p.length<l.length→∃ d∈l,d.1∉p
 |p,[],_,h=>by simp at h
 |p,d::l,hl,h=>by
  obtain⟨h1,h2⟩:=Wh.1 hl
  by_cases hd:d.1∈p
  ·have hlen:(p.erase d.1).length=p.length-1:=Iyb hd
   have hpos:=Hwb hd
   rw[Vd]at h
   obtain⟨x,hx,hn⟩:=Zja (p.erase d.1) l h2 (by omega)
   refine⟨x,Vh _ hx,λ c=>hn ?_⟩
   have:=h1 x hx
   exact(Jkb (by omega)).2 c
  ·exact⟨d,Ya,hd⟩
def Oya (l:List Dev) (n:Nat) (p:List Int):Prop:=p.Nodup∧p.length=n∧∀ id∈p,∃ d,Ke l id=some d
def Tha {r:Rng} {l:List Dev} {n:Nat} {p:List Int} (hl:Lo l=true) (h:Oya l n p) (hn:n<l.length):Oya l (n+1) (p++[Bpa r p l]):=by
 obtain⟨h1,h2,h3⟩:=h
 obtain⟨d,hd,e,hne⟩:=Xla (r:=r) (Zja p l (Fb.1 hl).1 (by omega))
 rw[e]
 refine⟨?_,by rw[Ve];simp[h2],λ id hid=>?_⟩
 ·rw[Yc]
  exact⟨h1,by simp,λ a ha b hb c=>by rw[Vu.1 hb]at c;subst c;exact hne ha⟩
 ·rcases Vn.1 hid with hid|hid
  ·exact h3 id hid
  ·rw[Vu.1 hid];exact⟨d,Tga hl hd⟩
def Hfa (l:List Dev) (reps:Int) (ps:List (List Int)):Nat→List Int→List Int
 |0,p=>p
 |n+1,p=>Hfa l reps ps n (p++[Bpa (reps,ps++[p]) p l])
def Pka (l:List Dev) (reps:Int):Nat→List (List Int)→List (List Int)
 |0,ps=>ps
 |n+1,ps=>Pka l reps n (ps++[Hfa l reps ps reps.toNat []])
def build (l:List Dev) (parts reps:Int):Rng×Bool:=bif Lo l&&(inR parts 1 64&&(inR reps 1 5&&!(decide (reps > (l.length:Int))))) then ((reps,Pka l reps parts.toNat []),true) else ((0,[]),false)
def Mpa {l:List Dev} {reps:Int} {ps:List (List Int)} (hl:Lo l=true):∀ (n m:Nat) (p:List Int),Oya l m p→m+n≤l.length→Oya l (m+n) (Hfa l reps ps n p)
 |0,_,_,h,_=>h
 |n+1,m,p,h,hm=>by
  have:=Mpa (reps:=reps) (ps:=ps) hl n (m+1) _ (Tha (r:=(reps,ps++[p])) hl h (by omega)) (by omega)
  rwa [show m+1+n=m+(n+1) by omega]at this
def Tia {l:List Dev} {reps:Int} (hl:Lo l=true) (hr:reps≤(l.length:Int)):∀ (n:Nat) (ps:List (List Int)),(∀ p∈ps,Oya l reps.toNat p)→(Pka l reps n ps).length=ps.length+n∧∀ p∈Pka l reps n ps,Oya l reps.toNat p
 |0,ps,h=>⟨rfl,h⟩
 |n+1,ps,h=>by
  have hf:=Mpa (reps:=reps) (ps:=ps) hl reps.toNat 0 [] ⟨Klb,rfl,λ _ h=>by cases h⟩ (by omega)
  rw[Wk]at hf
  obtain⟨h1,h2⟩:=Tia hl hr n (ps++[Hfa l reps ps reps.toNat []]) (λ p hp=>by
   rcases Vn.1 hp with hp|hp
   ·exact h p hp
   ·rw[Vu.1 hp];exact hf)
  refine⟨?_,h2⟩
  show (Pka l reps n _).length=_
  rw[h1,Ve]
  simp only[Vd,Vk]
  omega
def Mqa {l:List Dev} {parts reps:Int} (h:(build l parts reps).2=true):Lo l=true∧J6 (build l parts reps).1 l=true∧(build l parts reps).1.1=reps∧((build l parts reps).1.2.length:Int)=parts:=by
 unfold build at h ⊢
 cases hc:Lo l&&(inR parts 1 64&&(inR reps 1 5&&!(decide (reps > (l.length:Int)))))
 ·rw[hc]at h;cases h
 rw[Va,Va,Va,Wa,decide_eq_false_iff_not,F9,F9]at hc
 obtain⟨h1,h2,h3,h4⟩:=hc
 obtain⟨b1,b2⟩:=Tia (reps:=reps) h1 (by omega) parts.toNat [] (λ p hp=>by cases hp)
 rw[Vk,Wk]at b1
 have b1':((Pka l reps parts.toNat []).length:Int)=parts:=by rw[b1];omega
 refine⟨h1,Bz.2 ⟨h1,h3,⟨by show 1≤(Pka l reps parts.toNat []).length;omega,by show (Pka l reps parts.toNat []).length≤64;omega⟩,λ p hp=>?_⟩,rfl,b1'⟩
 obtain⟨c1,c2,c3⟩:=b2 p hp
 exact⟨c1,by rw[c2];show ((reps.toNat:Nat):Int)=reps;omega,c3⟩
def Hga {l:List Dev} {reps:Int} {ps:List (List Int)}:∀ (n:Nat) (p:List Int),(Hfa l reps ps n p).length=p.length+n
 |0,_=>rfl
 |n+1,p=>by
  show (Hfa l reps ps n _).length=_
  rw[Hga n,Ve]
  simp only[Vd,Vk]
  omega
def Tja {α:Type} (l:List α) (x d:α):(l++[x]).getD l.length d=x:=by
 rw[Vb,Yi (Vw _),Ieb]
 rfl
def Xma {α:Type} (l:List α) (x y:α):(l++[x]).set l.length y=l++[y]:=by
 rw[Kgb _ _ (Vw _),Ieb]
 rfl
def Hha (l:List Dev) (parts reps:Int) (z:Rng) (hl:Lo l=true) (h0:0≤reps) (h5:reps≤5) (ps:List (List Int)) (hps:ps.length≤100) (hq:∀ q∈ps,q.length≤100):∀ (n:Nat) (p:List Int),p.length+n=reps.toNat→
  Tot (λ k=>I2 k l parts reps (ps.length:Int) (p.length:Int) z (reps,ps++[p])) (λ x=>x=(l,parts,reps,(ps.length:Int),z,(reps,ps++[Hfa l reps ps n p]))):=by
 intro n
 induction n with
 |zero=>
  intro p hp
  refine Tot.succ ?_
  simp (disch:=omega) only [I2,dF]
  exact H1b rfl
 |succ n ih=>
  intro p hp
  refine Tot.succ ?_
  have hrb:RBd (reps,ps++[p]):=⟨by simp only[Ve,Vd,Vk];omega,λ q hq'=>by
   rcases Vn.1 hq' with h|h
   ·have:=hq q h;omega
   ·rw[Vu.1 h];omega⟩
  have hlen:(ps++[p]).length=ps.length+1:=by simp
  simp (disch:=omega) only [I2,dT,Vc,w64,hlen,Tja,Xma]
  refine Hdb (Moa (reps,ps++[p]) p l hrb (by omega) hl) ?_
  refine H4b (decide_eq_true trivial) (H9b (by simp only[Vd,Vk];omega) (H4b (decide_eq_true trivial) ?_))
  have:=ih (p++[Bpa (reps,ps++[p]) p l]) (by simp only[Ve,Vd,Vk];omega)
  rw[show (((p++[Bpa (reps,ps++[p]) p l]).length:Nat):Int)=(p.length:Int)+1 by simp]at this
  exact this
def Tka (l:List Dev) (parts reps:Int) (hll:l.length≤5000000):Tot (λ k=>Gj k l parts reps) (λ x=>x=build l parts reps):=by
 unfold Gj build
 refine Hdb (Eha l (by omega)) ?_
 cases hl:Lo l
 ·exact H4b rfl (H1b rfl)
 simp only[Yw,cond_false,Nz,Vs,Vx]
 cases hp:inR parts 1 64
 ·exact H4b rfl (H1b rfl)
 refine H3b rfl ?_
 cases hr:inR reps 1 5
 ·exact H4b rfl (H1b rfl)
 obtain⟨r1,r2⟩:=F9.1 hr
 obtain⟨p1,p2⟩:=F9.1 hp
 refine H3b rfl ?_
 cases hc:decide (reps > (l.length:Int))
 case true=>exact H4b rfl (H1b rfl)
 refine H3b rfl (H2b (Q:=λ x=>x=(((0:Int),([]:List (List Int))),(reps,Pka l reps parts.toNat []))) ?_ (by rintro x rfl;exact H1b rfl))
 obtain⟨n,rfl⟩:∃ n:Nat,parts=(n:Int):=⟨parts.toNat,by omega⟩
 refine Hab (L:=λ k i (s:Rng)=>I3 k l (n:Int) reps i (0,[]) s) (Q:=λ x=>x=(((0:Int),([]:List (List Int))),(reps,Pka l reps n []))) n (λ j s=>∃ ps,s=(reps,ps)∧ps.length=j∧(∀ q∈ps,q.length≤100)∧Pka l reps (n-j) ps=Pka l reps n []) ?_ ?_ 0 (reps,[]) (Vp _) ⟨[],rfl,rfl,λ q h=>(by cases h),rfl⟩
 ·rintro s ⟨ps,rfl,hps,_,h⟩
  rw[Ieb]at h
  simp (disch:=omega) only [I3,dF]
  exact H1b (by rw[← h];rfl)
 ·rintro j s hj ⟨ps,rfl,hps,hq,h⟩ next
  simp (disch:=omega) only [I3,dT]
  refine H9b (by simp only[Vd,Vk];omega) ?_
  have h9:=Hha l (n:Int) reps (0,[]) hl (by omega) r2 ps (by omega) hq reps.toNat [] (by simp)
  rw[hps]at h9
  refine H2b h9 ?_
  rintro x rfl
  simp (disch:=omega) only [w64]
  refine next _ ⟨ps++[Hfa l reps ps reps.toNat []],rfl,by rw[Ve,hps];rfl,λ q hq'=>?_,?_⟩
  ·rcases Vn.1 hq' with h'|h'
   ·exact hq q h'
   ·rw[Vu.1 h',Hga,Vk];omega
  ·rw[show n-j=(n-(j+1))+1 by omega]at h
   exact h

def Mra:∀ (p q:List Int),p.Nodup→(∀ x∈p,x∈q)→p.length≤q.length
 |[],_,_,_=>Vp _
 |x::p,q,h,hs=>by
  obtain⟨h1,h2⟩:=Yq.1 h
  have hx:=hs x Ya
  have hlen:(q.erase x).length=q.length-1:=Iyb hx
  have hpos:=Hwb hx
  have:=Mra p (q.erase x) h2 (λ y hy=>(Jkb (λ c=>by subst c;exact h1 hy)).2 (hs y (Vh _ hy)))
  rw[Vd]
  omega
def Tla {r:Rng} {l:List Dev} (h:J6 r l=true):r.1≤(l.length:Int):=by
 obtain⟨_,_,h3,h4⟩:=Bz.1 h
 obtain⟨p,hp⟩:=Hqb (show 0<r.2.length by omega)
 obtain⟨q1,q2,q3⟩:=h4 p hp
 have:=Mra p (l.map (·.1)) q1 (λ x hx=>by
  obtain⟨d,hd⟩:=q3 x hx
  obtain⟨hm,he⟩:=W1 hd
  exact Zb.2 ⟨d,hm,he⟩)
 rw[Wd]at this
 omega
def K6a {r:Rng} {l:List Dev} (h:J6 r l=true):Tot (λ k=>Je k r l) (λ b=>b=true):=by
 have hrp:=Tla h
 obtain⟨h1,h2,h3,h4⟩:=Bz.1 h
 obtain⟨_,_,_,h12⟩:=Fb.1 h1
 unfold Je
 refine Hdb (Eha l (by omega)) ?_
 refine H3b (by rw[h1];rfl) ?_
 simp only[Nz,Vs]
 refine H3b (by rw[F9.2 h2];rfl) (H6b (by omega) (H3b (by rw[F9.2 (by omega)];rfl) ?_))
 refine H2b (Q:=λ b=>b = .inr ()) ?_ (by rintro b rfl;exact H1b rfl)
 refine Hab (L:=λ k i (_:Unit)=>J3 k i r) (Q:=λ b=>b = .inr ()) r.2.length (λ _ _=>True) ?_ ?_ 0 () (Vp _) trivial
 ·intro _ _
  simp (disch:=omega) only [J3,dF]
  exact H1b rfl
 ·intro j _ hj _ next
  obtain⟨q1,q2,_⟩:=h4 _ (A3 (d:=[]) hj)
  simp (disch:=omega) only [J3,dT,Vc,w64]
  refine Hdb (Xia _ _ (by omega)) ?_
  exact H3b (by rw[decide_eq_true q1,q2];simp) (next () trivial)
def Xna (p:List Int) (l:List Dev) (h:∀ id∈p,∃ d,Ke l id=some d) (hp:p.length≤5000000) (hl:l.length≤5000000):Tot (λ k=>Gb k p l) (λ x=>x = -1):=by
 unfold Gb
 refine H2b (Q:=λ x=>x = .inr ()) ?_ (by rintro x rfl;exact H1b rfl)
 refine Hab (L:=λ k i (_:Unit)=>H6 k l i p) (Q:=λ x=>x = .inr ()) p.length (λ _ _=>True) ?_ ?_ 0 () (Vp _) trivial
 ·intro _ _
  simp (disch:=omega) only [H6,dF]
  exact H1b rfl
 ·intro j _ hj _ next
  simp (disch:=omega) only [H6,dT,Vc,w64]
  refine Hdb (Ub l _ (by omega)) ?_
  obtain⟨d,hd⟩:=h _ (A3 (d:=0) hj)
  exact H3b (by rw[hd];rfl) (next () trivial)
def hv (r:Rng) (l:List Dev) (b id:Int):Bool:=match Ke l b with
 |none=>false
 |some x=>match Ke l id with
  |none=>false
  |some d=>(d.2.1==x.2.1)&&decide (M7 r id-M7 r b≥2)
def Pla (r:Rng) (l:List Dev) (p:List Int) (b:Int):Option Nat:=p.findIdx? (hv r l b)
def oI:Option Nat→Int
 |some i=>(i:Int)
 |none => -1
def Hia {f:Int→Bool} {p:List Int} {j:Nat} (hj:j<p.length) (h:((p.drop j).findIdx? f).map (· + j)=p.findIdx? f):
  (f (p.getD j 0)=true→p.findIdx? f=some j)∧(f (p.getD j 0)=false→((p.drop (j+1)).findIdx? f).map (· + (j+1))=p.findIdx? f):=by
 rw[Ah (d:=0) hj,J3b]at h
 constructor
 ·intro c
  rw[if_pos c]at h
  rw[← h,Izb,Wk]
 ·intro c
  rw[if_neg (by rw[c];simp)]at h
  rw[← h,Option.map_map]
  congr 1
  funext x
  show x+(j+1)=x+1+j
  omega
def Tma (r:Rng) (p:List Int) (l:List Dev) (b:Int) (hr:RBd r) (hp:p.length≤2000000) (hl:l.length≤2000000):Tot (λ k=>Ev k r p l b) (λ x=>x=oI (Pla r l p b)):=by
 unfold Ev
 refine Hdb (Ub l b (by omega)) ?_
 refine H2b (Q:=λ x=>x=match Pla r l p b with|some i => .inl (i:Int)|none => .inr ()) ?_ (by rintro x rfl;cases Pla r l p b<;>exact H1b rfl)
 cases hb:Ke l b with
 |none=>
  have hn:Pla r l p b=none:=by unfold Pla;rw[K2b];intro x _;unfold hv;rw[hb]
  rw[hn]
  refine Tot.succ ?_
  by_cases hp0:(0:Int)<(p.length:Int)
  ·simp (disch:=omega) only [C9,dT,Gcb,cond_false]
   exact H1b rfl
  ·simp (disch:=omega) only [C9,dF]
   exact H1b rfl
 |some x=>
  have hvI:∀ id,hv r l b id=match Ke l id with|none=>false|some d=>(d.2.1==x.2.1)&&decide (M7 r id-M7 r b≥2):=λ id=>by unfold hv;rw[hb]
  refine Hab (L:=λ k i (_:Unit)=>C9 k l b true i r p x) (Q:=λ x=>x=match Pla r l p b with|some i => .inl (i:Int)|none => .inr ()) p.length (λ j _=>((p.drop j).findIdx? (hv r l b)).map (· + j)=p.findIdx? (hv r l b)) ?_ ?_ 0 () (Vp _) (by simp)
  ·intro _ h
   rw[We]at h
   have hn:Pla r l p b=none:=h.symm
   rw[hn]
   simp (disch:=omega) only [C9,dF]
   exact H1b rfl
  ·intro j _ hj h next
   obtain⟨k1,k2⟩:=Hia hj h
   simp (disch:=omega) only [C9,dT,Vc,w64,cond_true]
   generalize p.getD j 0=id at *
   refine Hdb (Ub l id (by omega)) ?_
   rw[hvI]at k1 k2
   cases hd:Ke l id with
   |none=>
    rw[hd]at k2
    exact H3b rfl (next () (k2 rfl))
   |some d=>
    rw[hd]at k1 k2
    obtain⟨_,e⟩:=W1 hd
    refine H4b rfl ?_
    cases hz:d.2.1==x.2.1
    ·exact H3b hz (next () (k2 (by simp only[hz,Yv])))
    refine H4b hz (Hdb (Xw r d.1 hr) ?_)
    refine Hdb (Xw r b hr) ?_
    have l1:=Uc hr d.1
    have l2:=Uc hr b
    simp (disch:=omega) only [w64]
    refine H8b (λ hc=>H1b ?_) (λ hc=>next () (k2 ?_))
    ·have hn:Pla r l p b=some j:=k1 (by simp only[hz,Vx];rw[← e];exact decide_eq_true hc)
     rw[hn]
    ·simp only[hz,Vx];rw[← e];exact decide_eq_false hc
def rb1 (l:List Dev) (s:Int×Rng) (j:Nat):Int×Rng:=match Pla s.2 l (s.2.2.getD j []) (Bpa s.2 (s.2.2.getD j []) l) with
 |none=>s
 |some i=>(s.1+1,(s.2.1,s.2.2.set j ((s.2.2.getD j []).set i (Bpa s.2 (s.2.2.getD j []) l))))
def rbs (l:List Dev) (r:Rng) (n:Nat):Int×Rng:=(List.range n).foldl (rb1 l) (0,r)
def K7a (r:Rng) (l:List Dev):Rng×Int:=((rbs l r r.2.length).2,(rbs l r r.2.length).1)
def Msa (l:List Dev) (r:Rng) (n:Nat):rbs l r (n+1)=rb1 l (rbs l r n) n:=by
 unfold rbs
 rw[Jqb,Hrb]
 rfl
def Wz {r:Rng} {l:List Dev} {p:List Int} {i:Nat} (hl:Lo l=true) (h:Pla r l p (Bpa r p l)=some i):i<p.length∧Bpa r p l∉p∧0≤Bpa r p l∧∃ d,Ke l (Bpa r p l)=some d:=by
 obtain⟨h1,h2,_⟩:=J4b.1 h
 refine⟨h1,?_⟩
 unfold hv at h2
 cases hb:Ke l (Bpa r p l) with
 |none=>rw[hb]at h2;cases h2
 |some d=>
  obtain⟨hd,he⟩:=W1 hb
  obtain⟨⟨i0,_⟩,_⟩:=Ng.1 ((Fb.1 hl).2.1 _ hd)
  refine⟨?_,by omega,d,rfl⟩
  rcases Oxa r p l with⟨_,e⟩|⟨b,_,e,_,hn⟩
  ·omega
  ·rw[e];exact hn
def Tna {p:List Int} {b:Int} (h:p.Nodup) (hb:b∉p) (i:Nat):(p.set i b).Nodup:=by
 induction p generalizing i with
 |nil=>exact h
 |cons x p ih=>
  obtain⟨h1,h2⟩:=Yq.1 h
  cases i with
  |zero=>exact Yq.2 ⟨λ c=>hb (Vh _ c),h2⟩
  |succ i=>
   refine Yq.2 ⟨λ c=>?_,ih h2 (λ c=>hb (Vh _ c)) i⟩
   rcases Ys c with c|c
   ·exact h1 c
   ·exact hb (c ▸ Ya)
def Eqb {l:List Dev} {s:Int×Rng} {j:Nat} (hj:j<s.2.2.length) (h:J6 s.2 l=true):J6 (rb1 l s j).2 l=true∧(rb1 l s j).2.1=s.2.1∧(rb1 l s j).2.2.length=s.2.2.length∧s.1≤(rb1 l s j).1∧(rb1 l s j).1≤s.1+1:=by
 unfold rb1
 obtain⟨h1,h2,h3,h4⟩:=Bz.1 h
 cases hx:Pla s.2 l (s.2.2.getD j []) (Bpa s.2 (s.2.2.getD j []) l) with
 |none=>exact⟨h,rfl,rfl,by dsimp only;omega,by dsimp only;omega⟩
 |some i=>
  obtain⟨b1,b2,_,b3⟩:=Wz h1 hx
  obtain⟨q1,q2,q3⟩:=h4 _ (A3 (d:=[]) hj)
  refine⟨Bz.2 ⟨h1,h2,by dsimp only;rw[List.length_set];exact h3,λ p hp=>?_⟩,rfl,by dsimp only;rw[List.length_set],by dsimp only;omega,by dsimp only;omega⟩
  rcases Ys hp with hp|hp
  ·exact h4 p hp
  ·subst hp
   refine⟨Tna q1 b2 i,by rw[Vv];exact q2,λ id hid=>?_⟩
   rcases Ys hid with hid|hid
   ·exact q3 id hid
   ·rw[hid];exact b3
def Mta {l:List Dev} {r:Rng} (h:J6 r l=true):∀ (n:Nat),n≤r.2.length→J6 (rbs l r n).2 l=true∧(rbs l r n).2.1=r.1∧(rbs l r n).2.2.length=r.2.length∧0≤(rbs l r n).1∧(rbs l r n).1≤n
 |0,_=>⟨h,rfl,rfl,Hnb _,Hnb _⟩
 |n+1,hn=>by
  obtain⟨h1,h2,h3,h4,h5⟩:=Mta h n (by omega)
  obtain⟨g1,g2,g3,g4,g5⟩:=Eqb (j:=n) (by omega) h1
  rw[Msa]
  exact⟨g1,by rw[g2,h2],by rw[g3,h3],by omega,by omega⟩
def Mua {r:Rng} {l:List Dev} (h:J6 r l=true):J6 (K7a r l).1 l=true∧(K7a r l).1.1=r.1∧(K7a r l).1.2.length=r.2.length∧0≤(K7a r l).2:=by
 obtain⟨h1,h2,h3,h4,_⟩:=Mta h r.2.length (Vw _)
 exact⟨h1,h2,h3,h4⟩
def Toa {r:Rng} {l:List Dev} (h:J6 r l=true):Tot (λ k=>Cl k r l) (λ x=>x=K7a r l):=by
 obtain⟨_,_,h64,_⟩:=Bz.1 h
 unfold Cl
 refine H2b (Hea r (Ma h)) ?_
 rintro x rfl
 refine H2b (K6a h) ?_
 rintro b rfl
 refine H3b rfl (H2b (Q:=λ y=>y=((rbs l x x.2.length).1,((0:Int),([]:List (List Int))),(rbs l x x.2.length).2)) ?_ (by rintro y rfl;exact H1b rfl))
 refine Hab (L:=λ k i (s:Int×Rng)=>B3 k l s.1 i (0,[]) s.2) (Q:=λ y=>y=((rbs l x x.2.length).1,((0:Int),([]:List (List Int))),(rbs l x x.2.length).2)) x.2.length (λ j s=>s=rbs l x j) ?_ ?_ 0 (0,x) (Vp _) rfl
 ·rintro s rfl
  obtain⟨_,_,g3,_⟩:=Mta h x.2.length (Vw _)
  simp (disch:=omega) only [B3,dF]
  exact H1b rfl
 ·rintro j s hj rfl next
  obtain⟨g1,g2,g3,g4,g5⟩:=Mta h j (by omega)
  rw[Msa]at next
  generalize rbs l x j=s at *
  obtain⟨c,r⟩:=s
  dsimp only at g1 g2 g3 g4 g5
  obtain⟨q0,_,_,q4⟩:=Bz.1 g1
  obtain⟨p1,p2,p3⟩:=q4 _ (A3 (d:=[]) (show j<r.2.length by omega))
  have hx2:=(Bz.1 h).2.1
  have l12:=(Fb.1 q0).2.2.2
  unfold rb1 at next
  dsimp only at next
  obtain⟨p,hp⟩:∃ p,r.2.getD j []=p:=⟨_,rfl⟩
  rw[hp]at p1 p2 p3
  simp only[hp]at next
  simp (disch:=omega) only [B3,dT,Vc,w64,hp]
  refine H2b (Xna p l p3 (by omega) (by omega)) ?_
  rintro x rfl
  refine H6b (by omega) (H2b (Moa r p l (Ma g1) (by omega) q0) ?_)
  rintro b rfl
  refine H2b (Tma r p l _ (Ma g1) (by omega) (by omega)) ?_
  rintro y rfl
  cases hi:Pla r l p (Bpa r p l) with
  |none=>
   rw[hi]at next
   exact H6b (by show ¬ ((-1:Int)≥0);omega) (next _ rfl)
  |some i=>
   obtain⟨b1,b2,b3,_⟩:=Wz q0 hi
   rw[hi]at next
   have e:oI (some i)=(i:Int):=rfl
   simp (disch:=omega) only [e,dT,Vc]
   exact next _ rfl
def wgt (l:List Dev) (i:Nat) (w:Int):List Dev:=l.set i ((l.getD i N9).1,(l.getD i N9).2.1,w)
def Eia (l:List Dev) (i:Nat) (w:Int):(wgt l i w).map (·.1)=l.map (·.1):=by
 unfold wgt
 rw[List.map_set]
 by_cases hi:i<l.length
 ·have:(l.getD i N9).1=(l.map (·.1)).getD i 0:=by
   simp only[Vb,Hgb,Vj hi,Izb,Yu]
  rw[this,Vb,Vj (by simpa using hi),Yu]
  exact List.set_getElem_self _
 ·rw[List.set_eq_of_length_le (by simpa using hi)]
def Rc {l:List Dev} {id:Int}:(∃ d,Ke l id=some d)↔id∈l.map (·.1):=by
 unfold Ke
 rw[← Zl,List.find?_isSome,Zb]
 exact⟨λ ⟨x,h,e⟩=>⟨x,h,eq_of_beq e⟩,λ ⟨x,h,e⟩=>⟨x,h,beq_iff_eq.2 e⟩⟩
def Erb {l:List Dev} {i:Nat} {w:Int} (h:Lo l=true) (hi:i<l.length) (h1:1≤w) (h2:w≤1000):Lo (wgt l i w)=true:=by
 obtain⟨g1,g2,g3,g4⟩:=Fb.1 h
 refine Fb.2 ⟨?_,λ d hd=>?_,?_⟩
 ·have e:(l.map (·.1)).Pairwise (· < ·):=Zm.2 g1
  rw[← Eia l i w]at e
  exact Zm.1 e
 ·rcases Ys hd with hd|hd
  ·exact g2 d hd
  ·obtain⟨e1,e2,_⟩:=Ng.1 (g2 _ (A3 (d:=N9) hi))
   subst hd
   exact Ng.2 ⟨e1,e2,h1,h2⟩
 ·unfold wgt
  rw[Vv]
  exact⟨g3,g4⟩
def Eja {r:Rng} {l:List Dev} {i:Nat} {w:Int} (h:J6 r l=true) (hi:i<l.length) (h1:1≤w) (h2:w≤1000):J6 r (wgt l i w)=true:=by
 obtain⟨g1,g2,g3,g4⟩:=Bz.1 h
 refine Bz.2 ⟨Erb g1 hi h1 h2,g2,g3,λ p hp=>?_⟩
 obtain⟨q1,q2,q3⟩:=g4 p hp
 exact⟨q1,q2,λ id hid=>by rw[Rc,Eia,← Rc];exact q3 id hid⟩

def Tpa (x:BitVec 32):(cst x).getLsbD 31=x.getLsbD 0:=by
 have h0:(x >>> 1).getLsbD 31=false:=by
  rw[Jsb]
  exact BitVec.getLsbD_of_ge _ _ (by decide)
 unfold cst
 cases h:x.getLsbD 0 with
 |true=>
  rw[if_pos rfl,BitVec.getLsbD_xor,h0]
  decide
 |false=>
  rw[if_neg (by simp),h0]
def W2 {n:Nat} {x y c:BitVec n} (h:x ^^^ c=y ^^^ c):x=y:=by
 have:=congrArg (λ z=>z ^^^ c) h
 simpa[BitVec.xor_assoc] using this
def C6b {x y:BitVec 32} (h:cst x=cst y):x=y:=by
 have h0:x.getLsbD 0=y.getLsbD 0:=by rw[← Tpa,← Tpa,h]
 have h1:x >>> 1=y >>> 1:=by
  unfold cst at h
  rw[h0]at h
  cases hb:y.getLsbD 0 with
  |true=>rw[hb,if_pos rfl,if_pos rfl]at h;exact W2 h
  |false=>rw[hb,if_neg (by simp),if_neg (by simp)]at h;exact h
 refine BitVec.eq_of_getLsbD_eq λ i hi=>?_
 cases i with
 |zero=>exact h0
 |succ i=>
  have:=congrArg (λ z=>z.getLsbD i) h1
  simpa[Jsb,Hfb] using this
def B0a:∀ (n:Nat) {x y:BitVec 32},Bna n x=Bna n y→x=y
 |0,_,_,h=>h
 |n+1,_,_,h=>C6b (B0a n h)
def C7b {x y:BitVec 32} {b:Int} (h:cby x b=cby y b):x=y:=W2 (B0a 8 h)
def Xoa {x:BitVec 32} {a b:Int} (ha:0≤a∧a≤255) (hb:0≤b∧b≤255) (h:cby x a=cby x b):a=b:=by
 have h1:x ^^^ ofInt 32 a=x ^^^ ofInt 32 b:=B0a 8 h
 rw[Keb,Keb x]at h1
 have h2:=W2 h1
 rw[Mha ha,Mha hb,h2]
def Mva:∀ (l:List Int) {x y:BitVec 32},l.foldl cby x=l.foldl cby y→x=y
 |[],_,_,h=>h
 |_::l,_,_,h=>C7b (Mva l h)
def Zka (l:List Int):0≤crc l∧crc l≤4294967295:=by
 unfold crc
 have:=(Dab l).isLt
 omega
def C8b {l:List Int} {i:Nat} {y:Int} (hi:i<l.length) (hy:0≤y∧y≤255) (hb:Al l) (hne:y≠l.getD i 0):crc (l.set i y)≠crc l:=by
 intro h
 have h1:Dab (l.set i y)=Dab l:=Kfb (by unfold crc at h;omega)
 unfold Dab at h1
 have h2:=BitVec.not_inj.1 h1
 have e1:l.set i y=l.take i++y::l.drop (i+1):=by rw[I2b,if_pos hi]
 have e2:l=l.take i++l.getD i 0::l.drop (i+1):=by
  conv => { lhs;rw[← Wl i l] }
  rw[Ah (d:=0) hi]
 rw[e1,Hrb,Yr]at h2
 rw[e2]at h2
 rw[Hrb,Yr]at h2
 have e3:(l.take i++l.getD i 0::l.drop (i+1)).take i=l.take i:=by rw[← e2]
 have e4:(l.take i++l.getD i 0::l.drop (i+1)).drop (i+1)=l.drop (i+1):=by rw[← e2]
 rw[e3,e4]at h2
 exact hne (Xoa hy (hb _ (A3 hi)) (Mva _ h2))
def Esb {a b:Int} (ha:0≤a∧a≤4294967295) (hb:0≤b∧b≤4294967295) (h:c4 a=c4 b):a=b:=by
 have e:∀ c:Int,0≤c→c4 c=[c/16777216 % 256,c/65536 % 256,c/256 % 256,c % 256]:=λ c hc=>by
  unfold c4
  rw[show (2:Int) ^ (min (toNat 24) (IntKind.bits .i64))=16777216 from by decide,show (2:Int) ^ (min (toNat 16) (IntKind.bits .i64))=65536 from by decide,show (2:Int) ^ (min (toNat 8) (IntKind.bits .i64))=256 from by decide,
   Hmb _ (by omega),Hmb _ (by omega),Hmb _ (by omega),J2b,J2b,J2b,J2b]
 rw[e a ha.1,e b hb.1]at h
 simp only[Yn,and_true]at h
 omega
def Oza {l m:List Int} {j:Nat} (h:j<l.length):(l++m).getD j 0=l.getD j 0:=by rw[Vb,Vb,Yf h]
def P0a {l m:List Int} {j:Nat} (h:l.length≤j):(l++m).getD j 0=m.getD (j-l.length) 0:=by rw[Vb,Vb,Yi h]
def Xpa {f:Fil} (hf:F7 f=true) {n:Nat} (hn:n<8*(Kg f).length):Ms (N8 (Kg f) n)=none:=by
 cases hg:Ms (N8 (Kg f) n) with
 |none=>rfl
 |some g=>
  exfalso
  obtain⟨g1,_,g3⟩:=T0a hg
  have hpb:=Ry f
  have hj:n/8<(Kg f).length:=by omega
  have hy:=Mja ((Kg f).getD (n/8) 0) (n % 8)
  have hne:=Xba (hpb _ (A3 (d:=0) hj)) (Kib n (show 0<8 by omega))
  unfold N8 at g3
  generalize Boa ((Kg f).getD (n/8) 0) (n % 8)=y at g3 hy hne
  generalize n/8=j at g3 hj hne
  have ef:Kg f=Ov f++c4 (crc (Ov f)):=by unfold Kg;rw[hf];rfl
  have eg:Kg g=Ov g++c4 (crc (Ov g)):=by unfold Kg;rw[g1];rfl
  have l4:∀ c,(c4 c).length=4:=λ c=>rfl
  rw[eg]at g3
  rw[ef]at g3 hj hne
  have hlen:(Ov g).length=(Ov f).length:=by
   have:=congrArg length g3
   rw[Vv,Ve,Ve,l4,l4]at this
   omega
  by_cases hjb:j<(Ov f).length
  ·rw[List.set_append_left _ _ hjb]at g3
   obtain⟨a1,a2⟩:=List.append_inj g3 (by rw[Vv];exact hlen)
   rw[Oza hjb]at hne
   have:=Esb (Zka _) (Zka _) a2
   rw[a1]at this
   exact C8b hjb hy (Q6 f) hne this
  ·rw[Kgb _ _ (by omega)]at g3
   obtain⟨a1,a2⟩:=List.append_inj g3 hlen
   rw[a1]at a2
   rw[P0a (by omega)]at hne
   rw[Ve,l4]at hj
   have:(c4 (crc (Ov f))).getD (j-(Ov f).length) 0=y:=by
    rw[a2,Vb,J7b (by rw[l4];omega),Yu]
   exact hne this.symm

def Ql (l:List Nmd) (ns:List ByteArray):List ByteArray:=l.foldl (λ ns x=>wt ns x.1) ns
def nms (d:Dsk):List ByteArray:=Ql (d.1++d.2) []
def pk1:Option Nmd→List Nmd
 |some x=>[x]
 |none=>[]
def C9b (o:Option Nmd):(pk1 o).length≤1:=by cases o<;>simp[pk1]
def T6 (kp:List Bool) (a b:List Nmd):List ByteArray→Nat→List Nmd
 |[],_=>[]
 |s::ns,i=>pk1 (pk (bif kp.getD i false then a else b) s)++T6 kp a b ns (i+1)
def Cab (kp:List Bool) (a b:List Nmd) (i:Nat):T6 kp a b [] i=[]:=rfl
def Xqa (kp:List Bool) (a b:List Nmd) (s:ByteArray) (ns:List ByteArray) (i:Nat):T6 kp a b (s::ns) i=pk1 (pk (bif kp.getD i false then a else b) s)++T6 kp a b ns (i+1):=rfl
def T2 (d:Dsk) (kp:List Bool):Dsk:=bif decide ((T6 kp d.1 d.2 (nms d) 0).length > 60) then d else (T6 kp d.1 d.2 (nms d) 0,T6 kp d.1 d.2 (nms d) 0)
def Eka:∀ (l:List Nmd) (ns:List ByteArray),TS ns→TS (Ql l ns)
 |[],_,h=>h
 |_::l,_,h=>Eka l _ (R9 h)
def Hja:∀ (l:List Nmd) (ns:List ByteArray) (t:ByteArray),t∈Ql l ns↔(∃ x∈l,x.1=t)∨t∈ns
 |[],ns,t=>by simp[Ql]
 |x::l,ns,t=>by
  show t∈Ql l (wt ns x.1)↔_
  rw[Hja l,Gza]
  simp only[Vl,exists_eq_or_imp]
  constructor
  ·rintro (h|rfl|h)
   ·exact .inl (.inr h)
   ·exact .inl (.inl rfl)
   ·exact .inr h
  ·rintro ((h|h)|h)
   ·exact .inr (.inl h.symm)
   ·exact .inl h
   ·exact .inr (.inr h)
def Ud:∀ (l:List Nmd) (ns:List ByteArray),(Ql l ns).length≤ns.length+l.length
 |[],_=>by simp[Ql]
 |x::l,ns=>by
  have h1:=Ud l (wt ns x.1)
  have h2:=H0a (l:=ns) (s:=x.1)
  show (Ql l (wt ns x.1)).length≤_
  rw[Vd]
  omega
def Zla (d:Dsk):TS (nms d):=Eka _ _ List.Pairwise.nil
def Cbb {d:Dsk} {t:ByteArray}:t∈nms d↔(gt d.1 t).isSome=true∨(gt d.2 t).isSome=true:=by
 have h:∀ l:List Nmd,(gt l t).isSome=true↔∃ x∈l,x.1=t:=λ l=>by
  cases hg:gt l t with
  |none=>
   constructor
   ·intro h;cases h
   ·rintro⟨x,hx,e⟩;exact absurd e (N7.1 hg x hx)
  |some b=>simp only[Option.isSome_some,true_iff];exact⟨_,O5 hg,rfl⟩
 unfold nms
 rw[Hja,h,h]
 simp only[Vn,Hjb,or_false]
 constructor
 ·rintro⟨x,h1|h1,h2⟩
  ·exact .inl ⟨x,h1,h2⟩
  ·exact .inr ⟨x,h1,h2⟩
 ·rintro (⟨x,h1,h2⟩|⟨x,h1,h2⟩)
  ·exact⟨x,.inl h1,h2⟩
  ·exact⟨x,.inr h1,h2⟩
def Ccb (l:List Nmd) (s:ByteArray):pk l s=(gt l s).map λ b=>(s,b):=by
 unfold pk gt
 cases h:fnd l s with
 |none=>rfl
 |some i=>rw[Izb,← (Nn h).2]
def W3 (kp:List Bool) (a b:List Nmd):∀ (ns:List ByteArray) (i:Nat),((T6 kp a b ns i).map Prod.fst).Sublist ns
 |[],_=>List.Sublist.slnil
 |s::ns,i=>by
  unfold T6
  rw[Ccb]
  cases gt (bif kp.getD i false then a else b) s with
  |none=>exact(W3 kp a b ns (i+1)).cons s
  |some c=>exact(W3 kp a b ns (i+1)).cons_cons s
def Cdb (kp:List Bool) (a b:List Nmd) (ns:List ByteArray) (i:Nat):(T6 kp a b ns i).length≤ns.length:=by
 have:=(W3 kp a b ns i).length_le
 rwa [Wd]at this
def P1a {kp:List Bool} {a b:List Nmd} {ns:List ByteArray} {i:Nat} (h:TS ns):D0 (T6 kp a b ns i):=by
 have:=Jdb (W3 kp a b ns i) h
 rwa [Zm]at this
def Tqa {kp:List Bool} {a b:List Nmd}:∀ {ns:List ByteArray} {i:Nat} {x:Nmd},x∈T6 kp a b ns i→gt a x.1=some x.2∨gt b x.1=some x.2
 |[],_,_,h=>by cases h
 |s::ns,i,x,h=>by
  unfold T6 at h
  rw[Ccb]at h
  rcases Vn.1 h with h|h
  ·cases hg:gt (bif kp.getD i false then a else b) s with
   |none=>rw[hg]at h;cases h
   |some c=>
    rw[hg]at h
    rw[Vu.1 h]
    cases hk:kp.getD i false with
    |true=>rw[hk]at hg;exact .inl hg
    |false=>rw[hk]at hg;exact .inr hg
  ·exact Tqa h
def Zma {kp:List Bool} {a b:List Nmd} {t:ByteArray}:∀ {ns:List ByteArray} {i:Nat},TS ns→t∈ns→∃ j,i≤j∧gt (T6 kp a b ns i) t=gt (bif kp.getD j false then a else b) t
 |[],_,_,h=>by cases h
 |s::ns,i,hs,h=>by
  obtain⟨h1,h2⟩:=Wh.1 hs
  have hn:∀ j,gt (T6 kp a b ns j) s=none:=λ j=>N7.2 λ x hx e=>by
   have:=h1 x.1 ((W3 kp a b ns j).subset (Yk hx))
   rw[e,Hs]at this
   cases this
  unfold T6
  rw[Ccb]
  rcases Vl.1 h with rfl|h
  ·refine⟨i,Vw _,?_⟩
   cases hg:gt (bif kp.getD i false then a else b) t with
   |none=>exact hn _
   |some c=>
    show gt ((t,c)::T6 kp a b ns (i+1)) t=_
    rw[Jwa,if_pos rfl]
  ·obtain⟨j,hj,e⟩:=Zma (kp:=kp) (a:=a) (b:=b) (i:=i+1) h2 h
   refine⟨j,by omega,?_⟩
   rw[← e]
   have hst:s≠t:=λ e=>by
    have:=h1 t h
    rw[e,Hs]at this
    cases this
   cases gt (bif kp.getD i false then a else b) s with
   |none=>rfl
   |some c=>
    show gt ((s,c)::T6 kp a b ns (i+1)) t=_
    rw[Jwa,if_neg hst]
def Tra {d:Dsk} {kp:List Bool} (h:DG d):DG (T2 d kp):=by
 unfold T2
 cases hc:decide ((T6 kp d.1 d.2 (nms d) 0).length > 60)
 case true=>exact h
 have hl:=of_decide_eq_false hc
 have n1:=(Ap.1 (E7.1 h.1).1).2.1
 have n2:=(Ap.1 (E7.1 h.1).2).2.1
 have q:Il (T6 kp d.1 d.2 (nms d) 0)=true:=Ap.2 ⟨P1a (Zla d),λ x hx=>(Tqa hx).elim (λ e=>n1 _ (O5 e)) (λ e=>n2 _ (O5 e)),by omega⟩
 have b:LB (T6 kp d.1 d.2 (nms d) 0):=λ x hx=>(Tqa hx).elim (λ e=>h.2.1.gt e) (λ e=>h.2.2.gt e)
 exact⟨E7.2 ⟨q,q⟩,b,b⟩
def Tsa {d:Dsk} {kp:List Bool} (t:ByteArray):T2 d kp=d∨((T2 d kp).2=(T2 d kp).1∧(gt (T2 d kp).1 t=gt d.1 t∨gt (T2 d kp).1 t=gt d.2 t)):=by
 unfold T2
 cases hc:decide ((T6 kp d.1 d.2 (nms d) 0).length > 60)
 case true=>exact .inl rfl
 refine .inr ⟨rfl,?_⟩
 show gt (T6 kp d.1 d.2 (nms d) 0) t=_∨gt (T6 kp d.1 d.2 (nms d) 0) t=_
 by_cases ht:t∈nms d
 ·obtain⟨j,_,e⟩:=Zma (kp:=kp) (a:=d.1) (b:=d.2) (i:=0) (Zla d) ht
  rw[e]
  cases kp.getD j false with
  |true=>exact .inl rfl
  |false=>exact .inr rfl
 ·have h1:gt d.1 t=none:=by
   cases hg:gt d.1 t with
   |none=>rfl
   |some b=>exact absurd (Cbb.2 (.inl (by rw[hg];rfl))) ht
  left
  rw[h1]
  exact N7.2 λ x hx e=>ht (by rw[← e];exact(W3 _ _ _ _ _).subset (Yk hx))
def Ela {R:Type} {L:Nat→List Nmd→Option R} {Q:R→Prop} (c:List Nmd) (s:ByteArray) (acc:List Nmd) (hc:c.length≤5000000) (ha:acc.length≤5000000) (next:Tot (λ k=>L k (acc++pk1 (pk c s))) Q):
  Tot (λ k=>(Cy k c s).bind λ r=>cond (decide (r≥0)) (cond (decide ((0:Int)≤r)) (cond (decide (r<(length c:Int))) (cond (Nat.ble ((length acc+length [getD c (toNat r) ((⟨#[]⟩:ByteArray),[])])*40) 140737488355328) (L k (acc++[getD c (toNat r) ((⟨#[]⟩:ByteArray),[])])) none) none) none) (L k acc)) Q:=by
 refine Hdb (Cqa c s (by omega)) ?_
 unfold pk at next
 unfold Gra
 cases h:fnd c s with
 |none=>
  rw[h]at next
  simp only[pk1,Wp]at next
  exact H6b (by decide) next
 |some i=>
  rw[h]at next
  have:=(Nn h).1
  simp only[Vc]
  exact H5b (by omega) (H5b (by omega) (H5b (by omega) (H9b (by simp only[Vd,Vk];omega) next)))

def mk0 (s:ByteArray):Nmd:=(s,[])
def W4 {ns:List ByteArray} (h:TS ns):D0 (ns.map mk0):=by
 unfold D0
 rw[Zm]
 exact h
def Zna {ns:List ByteArray} (h:TS ns) {t:ByteArray}:(t∈ns→gt (ns.map mk0) t=some [])∧(t∉ns→gt (ns.map mk0) t=none):=by
 refine⟨λ ht=>?_,λ ht=>N7.2 λ x hx e=>?_⟩
 ·exact Eca (W4 h) (x:=mk0 t) (Yk ht)
 ·obtain⟨s,hs,rfl⟩:=Zb.1 hx
  exact ht (by rw[← e];exact hs)
def Etb {ns:List ByteArray} (h:TS ns) (s:ByteArray):ptl (s,[]) false (ns.map mk0)=(wt ns s).map mk0:=by
 have h1:=W4 h
 rw[Vr _ h1]
 refine Zea (Pe (M4 h1) Wx) (W4 (R9 h)) λ t=>?_
 have e:=Eea h1 (s:=s) (t:=t) (b:=[])
 unfold wr at e
 rw[e]
 have g1:=Zna h (t:=t)
 have g2:=Zna (R9 (s:=s) h) (t:=t)
 by_cases hst:s=t
 ·rw[if_pos hst,g2.1 (Gza.2 (.inl hst.symm))]
 ·rw[if_neg hst]
  by_cases ht:t∈ns
  ·rw[g1.1 ht,g2.1 (Gza.2 (.inr ht))]
  ·rw[g1.2 ht,g2.2 (λ c=>(Gza.1 c).elim (λ e=>hst e.symm) ht)]
def Tta (a b:List Nmd) (ha:a.length≤2000000) (hb:b.length≤2000000):Tot (λ k=>Ch k a b) (λ r=>r=nms (a,b)):=by
 unfold Ch
 have put:∀ {ns:List ByteArray} (x:Nmd),TS ns→ns.length≤5000000→Tot (λ k=>Fa k (ns.map mk0) x.1 []) (λ r=>r=(wt ns x.1).map mk0):=λ x ht hl=>(E8a _ x.1 [] (by rw[Wd];omega) (by simp)).mono λ r hr=>by rw[hr,Etb ht]
 refine H2b (Q:=λ r=>r=(b,(Ql a []).map mk0)) ?_ ?_
 ·refine Hab (L:=λ k i s=>Fl k a b s i) (Q:=λ r=>r=(b,(Ql a []).map mk0)) a.length (λ j s=>∃ ns,s=ns.map mk0∧TS ns∧Ql (a.drop j) ns=Ql a []∧ns.length≤j) ?_ ?_ 0 [] (Vp _) ⟨[],rfl,List.Pairwise.nil,rfl,Vw _⟩
  ·rintro s ⟨ns,rfl,_,h,_⟩
   rw[We]at h
   simp (disch:=omega) only [Fl,dF]
   exact H1b (by rw[← h];rfl)
  ·rintro j s hj ⟨ns,rfl,ht,h,hl⟩ next
   rw[Ah (d:=Dc) hj]at h
   simp (disch:=omega) only [Fl,dT,Vc,w64]
   refine Hdb (put (a.getD j Dc) ht (by omega)) ?_
   have:=H0a (l:=ns) (s:=(a.getD j Dc).1)
   exact next _ ⟨_,rfl,R9 ht,h,by omega⟩
 ·rintro r rfl
  have hla:(Ql a []).length≤2000000:=by have:=Ud a [];rw[Vk]at this;omega
  have e:Ql b (Ql a [])=nms (a,b):=by unfold nms Ql;rw[Hrb]
  refine H2b (Q:=λ r=>r=(nms (a,b)).map mk0) ?_ ?_
  ·refine Hab (L:=λ k i s=>Fk k b s i) (Q:=λ r=>r=(nms (a,b)).map mk0) b.length (λ j s=>∃ ns,s=ns.map mk0∧TS ns∧Ql (b.drop j) ns=nms (a,b)∧ns.length≤2000000+j) ?_ ?_ 0 _ (Vp _) ⟨_,rfl,Eka _ _ List.Pairwise.nil,e,by omega⟩
   ·rintro s ⟨ns,rfl,_,h,_⟩
    rw[We]at h
    simp (disch:=omega) only [Fk,dF]
    exact H1b (by rw[← h];rfl)
   ·rintro j s hj ⟨ns,rfl,ht,h,hl⟩ next
    rw[Ah (d:=Dc) hj]at h
    simp (disch:=omega) only [Fk,dT,Vc,w64]
    refine Hdb (put (b.getD j Dc) ht (by omega)) ?_
    have:=H0a (l:=ns) (s:=(b.getD j Dc).1)
    exact next _ ⟨_,rfl,R9 ht,h,by omega⟩
  ·rintro r rfl
   have hln:(nms (a,b)).length≤4000000:=by rw[← e];have:=Ud b (Ql a []);omega
   refine H2b (Q:=λ r=>r=nms (a,b)) ?_ (by rintro r rfl;exact H1b rfl)
   refine Hab (L:=λ k i s=>Em k ((nms (a,b)).map mk0) s i) (Q:=λ r=>r=nms (a,b)) (nms (a,b)).length (λ j s=>s=(nms (a,b)).take j) ?_ ?_ 0 [] (Vp _) rfl
   ·rintro s rfl
    simp (disch:=omega) only [Em,Wd,dF,Yj]
    exact H1b rfl
   ·rintro j s hj rfl next
    simp (disch:=omega) only [Em,Wd,dT,Vc,w64]
    refine H9b (by simp only[Vq,Vd,Vk];omega) (next _ ?_)
    rw[Wi hj,Vb,Hgb,Vj hj]
    rfl
def Tua (d:Dsk) (kp:List Bool) (hd:DG d) (hk:kp.length≤4000000000000):Tot (λ k=>D9 k d kp) (λ r=>r=T2 d kp):=by
 have hin:=No hd.1
 have g1:=(Ap.1 (E7.1 hd.1).1).2.2
 have g2:=(Ap.1 (E7.1 hd.1).2).2.2
 unfold D9
 refine Hdb (Q3 d hin.1.1 hin.1.2) ?_
 rw[hd.1]
 refine H3b rfl (Hdb (Tta d.1 d.2 (by omega) (by omega)) ?_)
 have hn:(nms d).length≤120:=by
  have:=Ud (d.1++d.2) []
  rw[Vk,Ve]at this
  exact Zw this (by omega)
 refine H2b (Q:=λ r=>r=(T6 kp d.1 d.2 (nms d) 0,d,([],[]))) ?_ ?_
 ·refine Hab (L:=λ k i s=>Ar k kp (nms d) s i d ([],[])) (Q:=λ r=>r=(T6 kp d.1 d.2 (nms d) 0,d,([],[]))) (nms d).length (λ j s=>s++T6 kp d.1 d.2 ((nms d).drop j) j=T6 kp d.1 d.2 (nms d) 0∧s.length≤j) ?_ ?_ 0 [] (Vp _) ⟨rfl,Vw _⟩
  ·rintro s ⟨h,_⟩
   rw[We,Cab,Wp]at h
   simp (disch:=omega) only [Ar,dF]
   exact H1b (by rw[h])
  ·rintro j s hj ⟨h,hs⟩ next
   rw[Ah (d:=Mu) hj]at h
   rw[Xqa,← Vo]at h
   simp (disch:=omega) only [Ar,dT,Vc,w64]
   have hl:=C9b (pk (bif kp.getD j false then d.1 else d.2) ((nms d).getD j Mu))
   have nx:=next (s++pk1 (pk (bif kp.getD j false then d.1 else d.2) ((nms d).getD j Mu))) ⟨h,by rw[Ve];omega⟩
   have e0:(nms d).getD j (⟨#[]⟩:ByteArray)=(nms d).getD j Mu:=rfl
   rw[e0]
   refine H8b (λ hc=>?_) (λ hc=>?_)
   ·refine H5b (by omega) (H7b (λ hk=>?_) (λ hk=>?_))
    ·rw[hk]at nx
     exact Ela (L:=λ k acc=>Ar k kp (nms d) acc ((j:Int)+1) d ([],[])) d.1 _ s (by omega) (by omega) nx
    ·rw[hk]at nx
     exact Ela (L:=λ k acc=>Ar k kp (nms d) acc ((j:Int)+1) d ([],[])) d.2 _ s (by omega) (by omega) nx
   ·have hk:kp.getD j false=false:=by rw[Vb,Yx (by omega)];rfl
    rw[hk]at nx
    exact Ela (L:=λ k acc=>Ar k kp (nms d) acc ((j:Int)+1) d ([],[])) d.2 _ s (by omega) (by omega) nx
 ·rintro r rfl
  have hp:=Cdb kp d.1 d.2 (nms d) 0
  unfold T2
  refine H8b (λ h=>?_) (λ h=>?_)
  ·dsimp only at h
   rw[decide_eq_true (show (T6 kp d.1 d.2 (nms d) 0).length > 60 by omega)]
   refine Hdb (Ll d hin.1.1) ?_
   exact H1b rfl
  ·dsimp only at h
   have hc:decide ((T6 kp d.1 d.2 (nms d) 0).length > 60)=false:=decide_eq_false (by omega)
   have hg:=Tra (kp:=kp) hd
   unfold T2 at hg
   rw[hc]at hg ⊢
   rw[cond_false]at hg
   have hf:=(No hg.1).1.1.1
   refine Hdb (Oi _ hf) ?_
   refine Hdb (Oi _ hf) ?_
   exact H1b rfl
def clS (o:Dsk×Int) (x:Nmd):Dsk×Int:=match Ms x.2 with
 |some _=>o
 |none=>((cut o.1.1 x.1,cut o.1.2 x.1),o.2+1)
def Lq (d:Dsk):Dsk×Int:=d.1.foldl clS (d,0)
def P2a {l:List Nmd} {s:ByteArray} (h:gt l s=none):cut l s=l:=by
 refine List.filter_eq_self.2 λ x hx=>?_
 cases ht:teq x.1 s with
 |false=>rfl
 |true=>exact absurd (Cu.1 ht) (N7.1 h x hx)
def Eub {d:Dsk} {s:ByteArray} (h:DG d):DG (cut d.1 s,cut d.2 s):=⟨E7.2 ⟨Ww (E7.1 h.1).1,Ww (E7.1 h.1).2⟩,h.2.1.cut s,h.2.2.cut s⟩
def Xra {o:Dsk×Int} {x:Nmd} (h:DG o.1):DG (clS o x).1:=by
 unfold clS
 cases Ms x.2 with
 |some _=>exact h
 |none=>exact Eub h
def Mwa:∀ (l:List Nmd) (o:Dsk×Int),DG o.1→DG (l.foldl clS o).1
 |[],_,h=>h
 |_::l,_,h=>Mwa l _ (Xra h)
def Xsa {d:Dsk} (h:DG d):DG (Lq d).1:=Mwa _ _ h
def Ema (l:List Nmd):List ByteArray:=(l.filter λ x=>(Ms x.2).isNone).map Prod.fst
def T3:∀ (l:List Nmd) (o:Dsk×Int),DG o.1→((l.foldl clS o).2=o.2+((Ema l).length:Int))∧∀ t,(t∈Ema l→gt (l.foldl clS o).1.1 t=none∧gt (l.foldl clS o).1.2 t=none)∧(t∉Ema l→gt (l.foldl clS o).1.1 t=gt o.1.1 t∧gt (l.foldl clS o).1.2 t=gt o.1.2 t)
 |[],o,h=>⟨by simp[Ema],λ t=>⟨λ c=>by simp[Ema]at c,λ _=>⟨rfl,rfl⟩⟩⟩
 |x::l,o,h=>by
  obtain⟨h1,h2⟩:=T3 l (clS o x) (Xra h)
  rw[Yr]
  cases hx:Ms x.2 with
  |some f=>
   have e:Ema (x::l)=Ema l:=by unfold Ema;rw[Zza,hx];rfl
   have ec:clS o x=o:=by unfold clS;rw[hx]
   rw[e]
   rw[ec]at h1 h2 ⊢
   exact⟨h1,h2⟩
  |none=>
   have e:Ema (x::l)=x.1::Ema l:=by unfold Ema;rw[Zza,hx];rfl
   have ec:clS o x=((cut o.1.1 x.1,cut o.1.2 x.1),o.2+1):=by unfold clS;rw[hx]
   rw[e]
   rw[ec]at h1 h2 ⊢
   refine⟨by rw[h1,Vd];omega,λ t=>⟨λ ht=>?_,λ ht=>?_⟩⟩
   ·by_cases hb:t∈Ema l
    ·exact(h2 t).1 hb
    ·obtain⟨a1,a2⟩:=(h2 t).2 hb
     have:x.1=t:=by
      rcases Vl.1 ht with e|e
      ·exact e.symm
      ·exact absurd e hb
     rw[a1,a2,Sf (Ka h.1),Sf (O6 h.1),if_pos this,if_pos this]
     exact⟨rfl,rfl⟩
   ·obtain⟨a1,a2⟩:=(h2 t).2 (λ c=>ht (Vh _ c))
    have:x.1≠t:=λ e=>ht (by rw[← e];exact Ya)
    rw[a1,a2,Sf (Ka h.1),Sf (O6 h.1),if_neg this,if_neg this]
    exact⟨rfl,rfl⟩
def Mxa {d:Dsk} (hd:Ay d=true) {t:ByteArray}:t∈Ema d.1↔∃ b,gt d.1 t=some b∧Ms b=none:=by
 unfold Ema
 rw[Zb]
 constructor
 ·rintro⟨x,hx,rfl⟩
  obtain⟨h1,h2⟩:=Ibb.1 hx
  exact⟨x.2,Eca (Ka hd) h1,by simpa using h2⟩
 ·rintro⟨b,h1,h2⟩
  exact⟨(t,b),Ibb.2 ⟨O5 h1,by simp[h2]⟩,rfl⟩
def Tva (d:Dsk) (hd:DG d):Tot (λ k=>I8 k d) (λ r=>r=Lq d):=by
 have hin:=No hd.1
 have hl:=(Ap.1 (E7.1 hd.1).1).2.2
 unfold I8
 refine Hdb (J5 d hin.1.1) ?_
 refine Hdb (Rx d hin.1.1 hin.1.2) ?_
 rw[hd.1]
 refine H3b rfl (H2b (Q:=λ r=>r=((Lq d).2,([],[]),(Lq d).1)) ?_ (by rintro r rfl;exact H1b rfl))
 refine Hab (L:=λ k i (s:Dsk×Int)=>Hc k s.2 d.1 (d.1.length:Int) i ([],[]) s.1) (Q:=λ r=>r=((Lq d).2,([],[]),(Lq d).1)) d.1.length (λ j s=>(d.1.drop j).foldl clS s=Lq d∧DG s.1∧0≤s.2∧s.2≤j) ?_ ?_ 0 (d,0) (Vp _) ⟨rfl,hd,Hnb 0,by simp⟩
 ·rintro s ⟨h,_⟩
  rw[We]at h
  simp (disch:=omega) only [Hc,dF]
  exact H1b (by rw[← h];rfl)
 ·rintro j s hj ⟨h,hg,s0,s1⟩ next
  rw[Ah (d:=Dc) hj,Yr]at h
  have hsi:=No hg.1
  have hx:=A3 (d:=Dc) hj
  simp (disch:=omega) only [Hc,dT,Vc,w64]
  have e0:d.1.getD j ((⟨#[]⟩:ByteArray),([]:List Int))=d.1.getD j Dc:=rfl
  rw[e0]
  refine Hdb (Q8 _ (hd.2.1 _ hx) (hin.1.1.1.2 _ hx)) ?_
  have hcg:=Xra (x:=d.1.getD j Dc) hg
  unfold clS at h hcg
  unfold Sz
  cases hf:Ms (d.1.getD j Dc).2 with
  |some f=>
   rw[hf]at h
   exact H3b rfl (next _ ⟨h,hg,s0,by omega⟩)
  |none=>
   rw[hf]at h hcg
   refine H4b rfl (Hdb (U6 s.1.1 _ hsi.1.1.1.1) ?_)
   refine Hdb (U6 s.1.2 _ hsi.1.1.2.1) ?_
   rw[Q5 (Ka hg.1),Q5 (O6 hg.1)]
   exact next ((cut s.1.1 (d.1.getD j Dc).1,cut s.1.2 (d.1.getD j Dc).1),s.2+1) ⟨h,hcg,by dsimp only;omega,by dsimp only;omega⟩
def Twa (d:Dsk) (hd:DG d):Tot (λ k=>Ia k d) (λ r=>r=Lq d):=by
 have hin:=No hd.1
 have hl:=(Ap.1 (E7.1 hd.1).1).2.2
 have hnk:=(Ap.1 (E7.1 hd.1).1).2.1
 unfold Ia
 refine Hdb (Ll d hin.1.1) ?_
 refine H2b (Q:=λ r=>r=((Lq d).2,([],[]),(Lq d).1)) ?_ (by rintro r rfl;exact H1b rfl)
 refine Hab (L:=λ k i (s:Dsk×Int)=>Hf k s.2 i d ([],[]) s.1) (Q:=λ r=>r=((Lq d).2,([],[]),(Lq d).1)) d.1.length (λ j s=>(d.1.drop j).foldl clS s=Lq d∧DG s.1∧0≤s.2∧s.2≤j) ?_ ?_ 0 (d,0) (Vp _) ⟨rfl,hd,Hnb 0,by simp⟩
 ·rintro s ⟨h,_⟩
  rw[We]at h
  simp (disch:=omega) only [Hf,dF]
  exact H1b (by rw[← h];rfl)
 ·rintro j s hj ⟨h,hg,s0,s1⟩ next
  rw[Ah (d:=Dc) hj,Yr]at h
  have hsi:=No hg.1
  have hx:=A3 (d:=Dc) hj
  simp (disch:=omega) only [Hf,dT,Vc,w64]
  have e0:d.1.getD j ((⟨#[]⟩:ByteArray),([]:List Int))=d.1.getD j Dc:=rfl
  rw[e0]
  refine Hdb (Q3 d hin.1.1 hin.1.2) ?_
  refine H4b hd.1 (Hdb (Xv hin.1.1.1 hd.2.1 _) ?_)
  have hnm:=(Q4.1 (hnk _ hx)).1
  have hcg:=Xra (x:=d.1.getD j Dc) hg
  unfold clS at h hcg
  unfold lkD
  rw[Eca (Ka hd.1) hx]
  simp only
  cases hf:Ms (d.1.getD j Dc).2 with
  |some f=>
   rw[hf]at h
   exact H3b rfl (next _ ⟨h,hg,s0,by omega⟩)
  |none=>
   rw[hf]at h hcg
   refine H4b rfl (Hdb (Awa hg.1 (Ib hnm)) ?_)
   have er:(rmD s.1 (d.1.getD j Dc).1).1=(cut s.1.1 (d.1.getD j Dc).1,s.1.2):=by
    unfold rmD
    cases hg1:gt s.1.1 (d.1.getD j Dc).1 with
    |none=>rw[P2a hg1];rfl
    |some b=>rfl
   have hrg:=Xaa (s:=(d.1.getD j Dc).1) hg
   rw[er]at hrg ⊢
   refine Hdb (Ava hrg.1 hnm) ?_
   have es:(syD (cut s.1.1 (d.1.getD j Dc).1,s.1.2) (d.1.getD j Dc).1).1=(cut s.1.1 (d.1.getD j Dc).1,cut s.1.2 (d.1.getD j Dc).1):=by
    have e2:sy (cut s.1.1 (d.1.getD j Dc).1,s.1.2) (d.1.getD j Dc).1=cut s.1.2 (d.1.getD j Dc).1:=by
     unfold sy
     rw[Sf (Ka hg.1),if_pos rfl]
    unfold syD
    rw[e2,decide_eq_true (Ap.1 (E7.1 hcg.1).2).2.2]
    rfl
   rw[es]
   exact next ((cut s.1.1 (d.1.getD j Dc).1,cut s.1.2 (d.1.getD j Dc).1),s.2+1) ⟨h,hcg,by dsimp only;omega,by dsimp only;omega⟩

def Ceb (d:Dsk):List ByteArray:=(d.1.filter λ x=>(Ms x.2).isSome).map Prod.fst
def hI (d:Dsk) (out:List ByteArray) (x:Nmd):List ByteArray:=bif (lkD d x.1).2==0 then wt out x.1 else out
def Rd (d:Dsk):List ByteArray:=d.1.foldl (hI d) []
def Zoa (d:Dsk):∀ (l:List Nmd) (out:List ByteArray),(l.foldl (hI d) out).length≤out.length+l.length
 |[],out=>by simp
 |x::l,out=>by
  have h1:=Zoa d l (hI d out x)
  have h2:(hI d out x).length≤out.length+1:=by
   unfold hI
   cases (lkD d x.1).2==0 with
   |false=>exact Htb _
   |true=>exact H0a
  rw[Yr,Vd]
  omega
def Xta (d:Dsk) (hd:DIn d) (hb:DB d):Tot (λ k=>Ir k d) (λ r=>r=Rd d):=by
 have hl:=hd.2.1
 unfold Ir
 refine H2b (Q:=λ r=>r=Rd d) ?_ (by rintro r rfl;exact H1b rfl)
 refine Hab (L:=λ k i s=>Id k s d.1 (d.1.length:Int) i d) (Q:=λ r=>r=Rd d) d.1.length (λ j s=>(d.1.drop j).foldl (hI d) s=Rd d∧s.length≤j) ?_ ?_ 0 [] (Vp _) ⟨rfl,Vw _⟩
 ·rintro s ⟨h,_⟩
  rw[We]at h
  simp (disch:=omega) only [Id,dF]
  exact H1b h
 ·rintro j s hj ⟨h,hs⟩ next
  rw[Ah (d:=Dc) hj,Yr]at h
  simp (disch:=omega) only [Id,dT,Vc,w64]
  have e0:d.1.getD j ((⟨#[]⟩:ByteArray),([]:List Int))=d.1.getD j Dc:=rfl
  rw[e0]
  refine Hdb (Eda hd.1.1.1 hb.1 _) ?_
  unfold hI at h
  cases hc:(lkD d (d.1.getD j Dc).1).2==0 with
  |false=>
   rw[hc]at h
   exact H3b rfl (next _ ⟨h,by omega⟩)
  |true=>
   rw[hc]at h
   refine H4b rfl (Hdb (E9a s _ (by omega)) ?_)
   have:=H0a (l:=s) (s:=(d.1.getD j Dc).1)
   exact next _ ⟨h,by omega⟩
def Hka {p:ByteArray→Bool}:∀ {l:List ByteArray},(∀ y∈l,p y=true)→l.takeWhile p=l
 |[],_=>rfl
 |x::l,h=>by rw[Zp,if_pos (h x Ya),Hka (λ y hy=>h y (Vh _ hy))]
def Cfb {l:List ByteArray} {s:ByteArray} (h:∀ y∈l,tlt y s=true):wt l s=l++[s]:=by
 have e:tpl l s=l.length:=by
  unfold tpl
  rw[Hka h]
 unfold wt
 rw[e,if_neg (by omega),Yj,We,Wp]
def Evb {d:Dsk} (hs:D0 d.1) {x:Nmd} (hx:x∈d.1):((lkD d x.1).2==0)=(Ms x.2).isSome:=by
 unfold lkD
 rw[Eca hs hx]
 simp only
 cases Ms x.2<;>rfl
def Xua {d:Dsk} (hs:D0 d.1):Rd d=Ceb d:=by
 have key:∀ (l:List Nmd) (out:List ByteArray),(∀ x∈l,x∈d.1)→D0 l→(∀ y∈out,∀ x∈l,tlt y x.1=true)→l.foldl (hI d) out=out++(l.filter λ x=>(Ms x.2).isSome).map Prod.fst:=by
  intro l
  induction l with
  |nil=>intro out _ _ _;simp
  |cons x l ih=>
   intro out hm hsl ho
   obtain⟨h1,h2⟩:=Wh.1 hsl
   rw[Yr,Zza]
   have hx:=Evb hs (hm x Ya)
   unfold hI
   rw[hx]
   cases hf:(Ms x.2).isSome
   ·exact ih out (λ y hy=>hm y (Vh _ hy)) h2 (λ y hy z hz=>ho y hy z (Vh _ hz))
   rw[cond_true,Cfb (λ y hy=>ho y hy x Ya),if_pos rfl,Yd]
   have:=ih (out++[x.1]) (λ y hy=>hm y (Vh _ hy)) h2 (λ y hy z hz=>by
    rcases Vn.1 hy with hy|hy
    ·exact ho y hy z (Vh _ hz)
    ·rw[Vu.1 hy];exact h1 z hz)
   unfold hI at this
   rw[this,Vo]
   rfl
 unfold Rd Ceb
 rw[key d.1 [] (λ _ h=>h) hs (λ y hy=>by cases hy),Vy]
def Sg (l:List ByteArray) (s:ByteArray):Bool:=l.any λ y=>teq y s
def Ol {l:List ByteArray} {s:ByteArray}:Sg l s=true↔s∈l:=by
 unfold Sg
 rw[Hpb]
 constructor
 ·rintro⟨x,hx,e⟩;rw[← Cu.1 e];exact hx
 ·intro h;exact⟨s,h,Cu.2 rfl⟩
def Mya (l:List ByteArray) (s:ByteArray) (hl:l.length≤1000000000):Tot (λ k=>Hj k l s) (λ r=>r=Sg l s):=by
 unfold Hj
 refine H2b (Q:=λ r=>r=bif Sg l s then .inl true else .inr ()) ?_ (by rintro r rfl;cases Sg l s<;>exact H1b rfl)
 refine Hab (L:=λ k i (_:Unit)=>H3 k l s i) (Q:=λ r=>r=bif Sg l s then .inl true else .inr ()) l.length (λ j _=>Sg (l.drop j) s=Sg l s) ?_ ?_ 0 () (Vp _) rfl
 ·intro _ h
  rw[We]at h
  simp (disch:=omega) only [H3,dF,← h]
  exact H1b rfl
 ·intro j _ hj h next
  rw[Ah (d:=Mu) hj]at h
  unfold Sg at h
  rw[I1b]at h
  simp (disch:=omega) only [H3,dT,Vc,w64]
  refine H7b (λ hc=>H1b ?_) (λ hc=>next () ?_)
  ·rw[show teq (l.getD j Mu) s=true from hc,Jxb]at h
   unfold Sg
   rw[← h]
   rfl
  ·rw[show teq (l.getD j Mu) s=false from hc,I4b]at h
   exact h
def I7a (l:List ByteArray):Nat→ByteArray→List ByteArray×Nat
 |0,_=>(l,0)
 |k+1,s=>bif tlt s (l.getD k Mu) then I7a (l.set (k+1) (l.getD k Mu)) k s else (l,k+1)
def Zpa (l:List ByteArray) (s:ByteArray):List ByteArray:=(I7a (l++[s]) l.length s).1.set (I7a (l++[s]) l.length s).2 s
def B1a:∀ (k:Nat) (l:List ByteArray) (s:ByteArray),(I7a l k s).1.length=l.length∧(I7a l k s).2≤k∧∀ y∈(I7a l k s).1,y∈l∨y=Mu
 |0,_,_=>⟨rfl,Vw _,λ _ h => .inl h⟩
 |k+1,l,s=>by
  unfold I7a
  cases tlt s (l.getD k Mu)
  ·exact⟨rfl,Vw _,λ _ h => .inl h⟩
  obtain⟨h1,h2,h3⟩:=B1a k (l.set (k+1) (l.getD k Mu)) s
  rw[cond_true]
  refine⟨by rw[h1,Vv],by omega,λ y hy=>?_⟩
  rcases h3 y hy with h|h
  ·rcases Ys h with h|h
   ·exact .inl h
   ·by_cases hk:k<l.length
    ·rw[h];exact .inl (A3 hk)
    ·rw[h,Vb,Yx (by omega)];exact .inr rfl
  ·exact .inr h
def Xva (l:List ByteArray) (s:ByteArray):(Zpa l s).length=l.length+1:=by
 unfold Zpa
 rw[Vv,(B1a _ _ _).1,Ve]
 rfl
def Xwa {l:List ByteArray} {s y:ByteArray} (h:y∈Zpa l s):y∈l∨y=s∨y=Mu:=by
 unfold Zpa at h
 rcases Ys h with h|h
 ·rcases (B1a _ _ _).2.2 y h with h|h
  ·rcases Vn.1 h with h|h
   ·exact .inl h
   ·exact .inr (.inl (Vu.1 h))
  ·exact .inr (.inr h)
 ·exact .inr (.inl h)
def hS1 (l:List Nmd) (j:Nat) (out:List ByteArray) (x:Nmd):List ByteArray:=bif (Ms x.2).isSome&&(!(Sg out x.1)&&(Gra l x.1==(j:Int))) then Zpa out x.1 else out
def hS (l:List Nmd):List Nmd→Nat→List ByteArray→List ByteArray
 |[],_,out=>out
 |x::r,j,out=>hS l r (j+1) (hS1 l j out x)
def P3a (d:Dsk):List ByteArray:=hS d.1 d.1 0 []
def Txa (l:List Nmd) (j:Nat) (out:List ByteArray) (x:Nmd):(hS1 l j out x).length≤out.length+1:=by
 unfold hS1
 cases (Ms x.2).isSome&&(!(Sg out x.1)&&(Gra l x.1==(j:Int))) with
 |false=>exact Htb _
 |true=>rw[cond_true,Xva];exact Vw _
def Ewb (l:List Nmd) (hl:Pd l):∀ (r:List Nmd) (j:Nat) (out:List ByteArray),(∀ x∈r,x∈l)→(∀ y∈out,Lb y)→(hS l r j out).length≤out.length+r.length∧∀ y∈hS l r j out,Lb y
 |[],_,out,_,h=>⟨by simp[hS],h⟩
 |x::r,j,out,hm,h=>by
  have h2:=Txa l j out x
  obtain⟨a1,a2⟩:=Ewb l hl r (j+1) (hS1 l j out x) (λ y hy=>hm y (Vh _ hy)) (λ y hy=>by
   unfold hS1 at hy
   cases hc:(Ms x.2).isSome&&(!(Sg out x.1)&&(Gra l x.1==(j:Int)))
   ·rw[hc]at hy;exact h y hy
   rw[hc]at hy
   rcases Xwa hy with hy|rfl|rfl
   ·exact h y hy
   ·exact hl x (hm x Ya)
   ·unfold Lb;decide)
  refine⟨?_,a2⟩
  show (hS l r (j+1) (hS1 l j out x)).length≤_
  rw[Vd]
  omega
def K8a (a b:List Nmd) (j:Nat) (hj:j<a.length) (ha:a.length≤5000000):∀ (k:Nat) (x:List ByteArray),k<x.length→x.length≤5000000→
  Tot (λ n=>J4 n x (j:Int) (k:Int) (a,b)) (λ r=>r=((I7a x k (a.getD j Dc).1).1,(j:Int),((I7a x k (a.getD j Dc).1).2:Int),(a,b))):=by
 intro k
 induction k with
 |zero=>
  intro x hk hx
  refine Tot.succ ?_
  simp (disch:=omega) only [J4,dF]
  exact H1b rfl
 |succ k ih=>
  intro x hk hx
  refine Tot.succ ?_
  have e1:((k+1:Nat):Int)-1=(k:Int):=by omega
  simp (disch:=omega) only [J4,dT,w64,e1,Vc]
  have e0:a.getD j ((⟨#[]⟩:ByteArray),([]:List Int))=a.getD j Dc:=rfl
  rw[e0]
  unfold I7a
  refine H7b (λ h=>?_) (λ h=>?_)
  ·rw[Gja]at h
   rw[show tlt (a.getD j Dc).1 (x.getD k Mu)=true from h,cond_true]
   exact ih _ (by rw[Vv];omega) (by rw[Vv];omega)
  ·rw[Gja]at h
   rw[show tlt (a.getD j Dc).1 (x.getD k Mu)=false from h,cond_false]
   exact H1b rfl
def Xxa (d:Dsk) (hd:DIn d) (hb:DB d):Tot (λ k=>G4 k d) (λ r=>r=P3a d):=by
 have hl:=hd.2.1
 unfold G4
 refine H2b (Q:=λ r=>r=P3a d) ?_ (by rintro r rfl;exact H1b rfl)
 refine Hab (L:=λ k i s=>Gg k s i d) (Q:=λ r=>r=P3a d) d.1.length (λ j s=>hS d.1 (d.1.drop j) j s=P3a d∧s.length≤j) ?_ ?_ 0 [] (Vp _) ⟨rfl,Vw _⟩
 ·rintro s ⟨h,_⟩
  rw[We]at h
  simp (disch:=omega) only [Gg,dF]
  exact H1b h
 ·rintro j s hj ⟨h,hs⟩ next
  rw[Ah (d:=Dc) hj]at h
  have hlen:=Txa d.1 j s (d.1.getD j Dc)
  have nx:=next _ ⟨show hS d.1 (d.1.drop (j+1)) (j+1) (hS1 d.1 j s (d.1.getD j Dc))=P3a d from h,by omega⟩
  have hx:=A3 (d:=Dc) hj
  simp (disch:=omega) only [Gg,dT,Vc,w64]
  have e0:d.1.getD j ((⟨#[]⟩:ByteArray),([]:List Int))=d.1.getD j Dc:=rfl
  rw[e0]
  unfold hS1 at nx
  refine Hdb (Ata _ (hb.1 _ hx) (hd.1.1.1.2 _ hx)) ?_
  unfold Sz
  cases hf:Ms (d.1.getD j Dc).2 with
  |none=>
   rw[hf]at nx
   exact H4b rfl nx
  |some f=>
   rw[hf]at nx
   refine H3b rfl (Hdb (Mya s _ (by omega)) ?_)
   cases hc:Sg s (d.1.getD j Dc).1 with
   |true=>
    rw[hc]at nx
    exact H4b rfl nx
   |false=>
    rw[hc]at nx
    refine H3b rfl (Hdb (Cqa d.1 _ (by omega)) ?_)
    cases he:Gra d.1 (d.1.getD j Dc).1==(j:Int) with
    |false=>
     rw[he]at nx
     exact H4b (by unfold bne;rw[he];rfl) nx
    |true=>
     rw[he]at nx
     refine H3b (by unfold bne;rw[he];rfl) (H9b (by simp only[Vd,Vk];omega) ?_)
     have hq:=K8a d.1 d.2 j hj (by omega) s.length (s++[(d.1.getD j Dc).1]) (by simp) (by simp only[Ve,Vd,Vk];omega)
     refine H2b hq ?_
     rintro r rfl
     obtain⟨w1,w2,_⟩:=B1a s.length (s++[(d.1.getD j Dc).1]) (d.1.getD j Dc).1
     rw[Ve]at w1
     simp only[Vd,Vk]at w1
     simp (disch:=omega) only [dT,Vc,w64]
     exact nx

def Zqa (n:Nod):Nod×Int:=((n.1,(Lq n.2.1).1,n.2.2),(Lq n.2.1).2)
def Ena {n:Nod} (hn:NG n) {d:Dsk} (hd:DG d):NG (n.1,d,n.2.2):=by
 obtain⟨h1,h2,h3,h4,h5⟩:=Bo.1 hn.1
 exact⟨Bo.2 ⟨h1,h2,hd.1,h4,h5⟩,hd.2⟩
def Mza {n:Nod} (hn:NG n):NG (Zqa n).1:=Ena hn (Xsa hn.g)
def Tya (n:Nod) (hn:NG n):Tot (λ k=>Gv k n) (λ r=>r=Zqa n):=by
 unfold Gv
 refine Hdb (Oj n (Xb hn)) ?_
 refine Hdb (Tva n.2.1 hn.g) ?_
 exact H1b rfl
def B2a (l:List ByteArray) (s:ByteArray) (hl:l.length≤1000000000):Tot (λ k=>Gi k l s) (λ r=>r=Sg l s):=by
 unfold Gi
 refine H2b (Q:=λ r=>r=bif Sg l s then .inl true else .inr ()) ?_ (by rintro r rfl;cases Sg l s<;>exact H1b rfl)
 refine Hab (L:=λ k i (_:Unit)=>Ct k l s i) (Q:=λ r=>r=bif Sg l s then .inl true else .inr ()) l.length (λ j _=>Sg (l.drop j) s=Sg l s) ?_ ?_ 0 () (Vp _) rfl
 ·intro _ h
  rw[We]at h
  simp (disch:=omega) only [Ct,dF,← h]
  exact H1b rfl
 ·intro j _ hj h next
  rw[Ah (d:=Mu) hj]at h
  unfold Sg at h
  rw[I1b]at h
  simp (disch:=omega) only [Ct,dT,Vc,w64]
  refine H7b (λ hc=>H1b ?_) (λ hc=>next () ?_)
  ·rw[show teq (l.getD j Mu) s=true from hc,Jxb]at h
   unfold Sg
   rw[← h]
   rfl
  ·rw[show teq (l.getD j Mu) s=false from hc,I4b]at h
   exact h

end Go.Proofs.YtiiekghlhfbmmaaGreat.Vf
