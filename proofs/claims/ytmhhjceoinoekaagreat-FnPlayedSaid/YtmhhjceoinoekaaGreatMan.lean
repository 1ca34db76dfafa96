import Derived.Test.YtmhhjceoinoekaaGreatMam
import Derived.Test.YtmhhjceoinoekaaGreatMal
set_option linter.all false
namespace Go.Proofs.YtmhhjceoinoekaaGreat.Vf
open Go
open List (length getD)
open Int (toNat)
open Go.IntKind (wrap)
open BitVec (ofInt)
def Wk:=@List.take_succ_eq_append_getElem
def Ibb:=@List.foldl_append
def Igb:=@List.length_pos_of_mem
def Isb:=@List.length_erase_of_mem
def Jcb:=@List.exists_mem_of_length_pos
def Jhb:=@List.mem_erase_of_ne
def Job:=@List.range_succ
def Jpb:=@BitVec.getLsbD_ushiftRight
def Kdb:=@List.find?_cons
def Keb:=@List.set_append_right
def Kfb:=@List.set_getElem_self

abbrev Nod:=Int×Dsk×List Row×List Row
def qOk (l:List Row):Bool:=l.all Ou
def Na (n:Nod):Bool:=qOk n.2.2.2&&(inR n.1 0 20&&(B8 n.2.1&&(M8 n.2.2.1&&decide ((n.2.2.2.length:Int)≤60))))
def RF (l:List Row):Prop:=l.length≤2000000∧W6 l
def NIn (n:Nod):Prop:=(DIn n.2.1∧DB n.2.1)∧RF n.2.2.1∧RF n.2.2.2
def NG (n:Nod):Prop:=Na n=true∧DB n.2.1
def Dv {n:Nod}:Na n=true↔(∀ r∈n.2.2.2,Ou r=true)∧(0≤n.1∧n.1≤20)∧B8 n.2.1=true∧M8 n.2.2.1=true∧n.2.2.2.length≤60:=by
 unfold Na qOk
 simp only[Vb,Wm,Cf,decide_eq_true_iff]
 constructor
 ·rintro⟨h1,h2,h3,h4,h5⟩;exact⟨h1,h2,h3,h4,by omega⟩
 ·rintro⟨h1,h2,h3,h4,h5⟩;exact⟨h1,h2,h3,h4,by omega⟩
def Fqa {l:List Row} (h:M8 l=true):RF l:=by
 obtain⟨_,h2,h3⟩:=Pj.1 h
 exact⟨by omega,λ r hr=>J5 (E6a (h2 r hr))⟩
def Ug {n:Nod} (h:NG n):NIn n:=by
 obtain⟨h1,_,h3,h4,h5⟩:=Dv.1 h.1
 exact⟨⟨Oi h3,h.2⟩,Fqa h4,by omega,λ r hr=>J5 (E6a (h1 r hr))⟩
def NG.g {n:Nod} (h:NG n):DG n.2.1:=⟨(Dv.1 h.1).2.2.1,h.2⟩
def Wv (n:Nod) (hn:NIn n):Tot (λ k=>Bh k n) (λ r=>r=Na n):=by
 obtain⟨i,⟨a,b⟩,ro,q⟩:=n
 obtain⟨⟨hd,_⟩,hr,hq⟩:=hn
 dsimp only at hd hr hq
 unfold Bh
 have hl:=hq.1
 refine H4b (Q:=λ r=>r=bif qOk q then .inr (i,a,b,ro,q) else .inl false) ?_ ?_
 ·refine Hcb (L:=λ k i' (_:Unit)=>Hz k q (q.length:Int) i' i a b ro q) (Q:=λ r=>r=bif qOk q then .inr (i,a,b,ro,q) else .inl false) q.length (λ j _=>(q.drop j).all Ou=q.all Ou) ?_ ?_ 0 () (Vo _) (by rw[Wh])
  ·intro _ hj
   rw[Vz]at hj
   simp only[Hz]
   exact H8b (by omega) (H3b (by unfold qOk;rw[← hj];rfl))
  ·intro j _ hj hi next
   simp only[Hz]
   rw[Ad (d:=Mm) hj,I2b]at hi
   refine H7b (by omega) (H7b (by omega) (H7b (by omega) ?_))
   rw[Va,w64 (n:=(j:Int)+1) (by omega) (by omega)]
   refine Hfb (Tia (q.getD j Mm) (hq.2 _ (A3 hj))) ?_
   cases hc:Ou (q.getD j Mm) with
   |false=>exact H6b rfl (H3b (by unfold qOk;rw[← hi,hc];rfl))
   |true=>exact H5b rfl (next () (by rw[hc,Wd]at hi;exact hi))
 ·rintro r rfl
  unfold Na
  dsimp only
  cases qOk q
  ·exact H3b rfl
  simp only[cond_true,Hvb,Wd]
  refine Hfb (Hhb (Q:=λ r=>r=inR i 0 20) (Ru _ _ _) rfl) ?_
  cases inR i 0 20
  ·exact H5b rfl (H3b rfl)
  refine H6b rfl (Hfb (Q3 (a,b) hd.1.1 hd.1.2) ?_)
  cases B8 (a,b)
  ·exact H5b rfl (H3b rfl)
  refine H6b rfl (Hfb (Nma ro (by have:=hr.1;unfold Few;omega) hr.2) ?_)
  cases M8 ro with
  |false=>exact H5b rfl (H3b rfl)
  |true=>exact H6b rfl (H3b rfl)
def Yba (n:Nod) (hn:NIn n):Tot (λ k=>Hk k n) (λ r=>r=Na n):=by
 obtain⟨i,⟨a,b⟩,ro,q⟩:=n
 obtain⟨⟨hd,_⟩,hr,hq⟩:=hn
 dsimp only at hd hr hq
 unfold Hk
 have hl:=hq.1
 refine H4b (Q:=λ r=>r=bif qOk q then .inr (i,a,b,ro,q) else .inl false) ?_ ?_
 ·refine Hcb (L:=λ k i' (_:Unit)=>Ia k i' i a b ro q) (Q:=λ r=>r=bif qOk q then .inr (i,a,b,ro,q) else .inl false) q.length (λ j _=>(q.drop j).all Ou=q.all Ou) ?_ ?_ 0 () (Vo _) (by rw[Wh])
  ·intro _ hj
   rw[Vz]at hj
   simp only[Ia]
   exact H8b (by omega) (H3b (by unfold qOk;rw[← hj];rfl))
  ·intro j _ hj hi next
   simp only[Ia]
   rw[Ad (d:=Mm) hj,I2b]at hi
   refine H7b (by omega) (H7b (by omega) (H7b (by omega) ?_))
   rw[Va,w64 (n:=(j:Int)+1) (by omega) (by omega)]
   refine Hfb (Tja (q.getD j Mm) (hq.2 _ (A3 hj))) ?_
   cases hc:Ou (q.getD j Mm) with
   |false=>exact H6b rfl (H3b (by unfold qOk;rw[← hi,hc];rfl))
   |true=>exact H5b rfl (next () (by rw[hc,Wd]at hi;exact hi))
 ·rintro r rfl
  unfold Na
  dsimp only
  cases qOk q
  ·exact H3b rfl
  simp only[cond_true,Hvb,Wd]
  refine Hfb (Hhb (Q:=λ r=>r=inR i 0 20) (Pr _ _ _) rfl) ?_
  cases inR i 0 20
  ·exact H5b rfl (H3b rfl)
  refine H6b rfl (Hfb (Rh (a,b) hd.1.1 hd.1.2) ?_)
  cases B8 (a,b)
  ·exact H5b rfl (H3b rfl)
  refine H6b rfl (Hfb (Xta ro (by have:=hr.1;unfold Few;omega) hr.2) ?_)
  cases M8 ro with
  |false=>exact H5b rfl (H3b rfl)
  |true=>exact H6b rfl (H3b rfl)
def Nb (n:Nod) (hn:NIn n):Tot (λ k=>Aq k n) (λ r=>r=n):=by
 unfold Aq
 have h1:=hn.2.1.1
 have h2:=hn.2.2.1
 refine Hfb (J4 n.2.1 hn.1.1.1.1) ?_
 refine Hfb (Hhb (Q:=λ r=>r=n.2.2.1) (W2 _ (by unfold Few;omega)) rfl) ?_
 refine Hfb (Hhb (Q:=λ r=>r=n.2.2.2) (W2 _ (by unfold Few;omega)) rfl) ?_
 exact H3b rfl
def Z5 (n:Nod) (hn:NIn n):Tot (λ k=>Hs k n) (λ r=>r=n):=by
 unfold Hs
 have h1:=hn.2.1.1
 have h2:=hn.2.2.1
 refine Hfb (N3 n.2.1 hn.1.1.1.1) ?_
 refine Hbb (by simp only[Vj];omega) (Hbb (by simp only[Vj];omega) (H3b ?_))
 rw[Vx,Vx]
def Q2a (a b:List Row) (hf:a.length+b.length≤10000000000):Tot (λ k=>Cz k a b) (λ r=>r=X8 a b):=by
 unfold Cz
 refine Hbb (by simp only[Vj];omega) ?_
 rw[Vx]
 refine H4b (Q:=λ r=>r=X8 a b) ?_ (by rintro r rfl;exact H3b rfl)
 refine Hcb (L:=λ k i s=>Er k b s i) (Q:=λ r=>r=X8 a b) b.length (λ i s=>X8 s (b.drop i)=X8 a b∧s.length≤a.length+i) ?_ ?_ 0 a (Vo _) ⟨by rw[Wh],Nat.le_add_right _ _⟩
 ·rintro s ⟨hs,_⟩
  rw[Vz]at hs
  simp only[Er]
  exact H8b (by omega) (H3b hs)
 ·rintro i s hi ⟨hs,hl⟩ next
  simp only[Er]
  refine H7b (by omega) (H7b (by omega) (H7b (by omega) ?_))
  rw[Va,w64 (n:=(i:Int)+1) (by omega) (by omega)]
  rw[Ad (d:=Mm) hi]at hs
  refine Hfb (Tga s (b.getD i Mm) (by unfold Few;omega)) ?_
  have:=Tha s (b.getD i Mm)
  exact next _ ⟨hs,by omega⟩
def Yca (n:Nod) (l:List Row):Nod×Bool:=bif Na n&&M8 l then (bif decide ((X8 n.2.2.1 l).length > 60) then (n,false) else ((n.1,n.2.1,X8 n.2.2.1 l,n.2.2.2),true)) else (n,false)
def Lga {a b:List Row} (ha:M8 a=true) (hb:M8 b=true) (h:(X8 a b).length≤60):M8 (X8 a b)=true:=by
 obtain⟨a1,a2,_⟩:=Pj.1 ha
 obtain⟨b1,b2,_⟩:=Pj.1 hb
 exact Pj.2 ⟨Kxa a1,λ r hr=>(Nna hr).elim (a2 r) (b2 r),h⟩
def Yda (n:Nod) (l:List Row) (hn:NIn n) (hl:RF l):Tot (λ k=>Jb k n l) (λ r=>r=Yca n l):=by
 have h1:=hn.2.1.1
 have h2:=hl.1
 unfold Jb Yca
 refine Hfb (Nb n hn) ?_
 refine Hfb (Wv n hn) ?_
 cases Na n
 ·exact H6b rfl (H3b rfl)
 refine H5b rfl (Hfb (Nma l (by unfold Few;omega) hl.2) ?_)
 cases M8 l
 ·exact H6b rfl (H3b rfl)
 refine H5b rfl (Hfb (Pna n.2.2.1 l (by omega)) ?_)
 refine Hab (λ h=>?_) (λ h=>?_)
 ·rw[decide_eq_true (show (X8 n.2.2.1 l).length > 60 by omega)]
  refine Hfb (Nb n hn) ?_
  exact H3b rfl
 ·rw[decide_eq_false (show ¬ (X8 n.2.2.1 l).length > 60 by omega)]
  exact H3b rfl
def Q3a (n:Nod) (l:List Row) (h1:n.2.2.1.length≤2000000) (h2:l.length≤2000000):Tot (λ k=>Tr k n l) (λ r=>r=bif decide ((X8 n.2.2.1 l).length > 60) then (false,n) else (true,(n.1,n.2.1,X8 n.2.2.1 l,n.2.2.2))):=by
 unfold Tr Iz
 refine H4b (Q2a n.2.2.1 l (by omega)) ?_
 rintro r rfl
 refine Hab (λ h=>?_) (λ h=>?_)
 ·rw[decide_eq_true (show (X8 n.2.2.1 l).length > 60 by omega)]
  exact H3b rfl
 ·rw[decide_eq_false (show ¬ (X8 n.2.2.1 l).length > 60 by omega)]
  exact H3b rfl
def Ww (s:ByteArray) (f:Fil):Row:=(s,f.1,f.2.1,(f.2.2.length:Int))
def Tz (n:Nod) (s:ByteArray) (f:Fil) (sure:Bool):Nod×Int:=bif (n.2.2.2.length:Int)==60 then (n,3) else
 ((n.1,(keep n.2.1 s f sure).1,n.2.2.1,bif (keep n.2.1 s f sure).2==0&&sure then n.2.2.2++[Ww s f] else n.2.2.2),(keep n.2.1 s f sure).2)
def Fub (n:Nod) (s:ByteArray) (f:Fil) (sure:Bool):Nod×Int:=bif Na n&&(B2 s&&F8 f) then Tz n s f sure else (n,2)
def Yea {s:ByteArray} {f:Fil} (hs:B2 s=true) (hf:F8 f=true):Ou (Ww s f)=true:=by
 obtain⟨h1,h2,h3⟩:=K6.1 hf
 unfold Ou Ww
 dsimp only
 rw[hs,h1,Cf.2 ⟨by omega,by omega⟩]
 cases hd:f.2.1 with
 |false=>rfl
 |true=>rw[h3 hd];rfl
def Uca {n:Nod} {s:ByteArray} {f:Fil} {sure:Bool} (hn:NG n) (hs:B2 s=true) (hf:F8 f=true):NG (Tz n s f sure).1:=by
 obtain⟨h1,h2,h3,h4,h5⟩:=Dv.1 hn.1
 have hk:=Agb (s:=s) (f:=f) (sure:=sure) hn.g
 unfold Tz
 cases hl:((n.2.2.2.length:Int)==60)
 case true=>exact hn
 have hl':n.2.2.2.length≠60:=by
  intro e
  rw[e]at hl
  cases hl
 refine⟨Dv.2 ⟨?_,h2,hk.1,h4,?_⟩,hk.2⟩
 ·show ∀ r∈bif (keep n.2.1 s f sure).2==0&&sure then n.2.2.2++[Ww s f] else n.2.2.2,Ou r=true
  cases (keep n.2.1 s f sure).2==0&&sure
  ·exact h1
  intro r hr
  rcases Vq.1 hr with hr|hr
  ·exact h1 r hr
  ·rw[Vu.1 hr];exact Yea hs hf
 ·show (bif (keep n.2.1 s f sure).2==0&&sure then n.2.2.2++[Ww s f] else n.2.2.2).length≤60
  cases (keep n.2.1 s f sure).2==0&&sure with
  |false=>exact h5
  |true=>rw[cond_true,Ve];simp only[Vd,Vj];omega
def Uda (n:Nod) (s:ByteArray) (f:Fil) (sure:Bool) (hn:NIn n) (hs:Mo s):Tot (λ k=>Uu k n s f sure) (λ r=>r=((Tz n s f sure).2,(Tz n s f sure).1)):=by
 have h1:=hn.2.2.1
 unfold Uu Ls Tz
 cases (n.2.2.2.length:Int)==60 with
 |true=>exact H6b rfl (H3b rfl)
 |false=>
  refine H5b rfl (H4b (O5a n.2.1 s f sure hn.1.1 hn.1.2.1 hs) ?_)
  rintro r rfl
  cases (keep n.2.1 s f sure).2==0 with
  |false=>exact H5b rfl (H3b rfl)
  |true=>
   refine H6b rfl ?_
   cases sure with
   |false=>exact H5b rfl (H3b rfl)
   |true=>
    refine H6b rfl (Hbb (by simp only[Vj];omega) ?_)
    refine H4b (Hhb (Q:=λ r=>r=Ww s f) (show N0 s f=some (Ww s f) from rfl) rfl) ?_
    rintro r rfl
    refine Hbb (by simp only[Ve,Vd,Vj];omega) (H3b ?_)
    rw[Vx]
    rfl
def Cza (n:Nod) (s:ByteArray) (b:Int):Nod×Bool:=bif Na n&&((lkD n.2.1 s).2==0&&(Cya n.2.1 s b).2) then ((n.1,(Cya n.2.1 s b).1,n.2.2),true) else (n,false)
def Ahb {n:Nod} {s:ByteArray} {b:Int} (hn:NG n):NG (Cza n s b).1:=by
 obtain⟨h1,h2,h3,h4,h5⟩:=Dv.1 hn.1
 have hr:=F3b (s:=s) (n:=b) hn.g
 unfold Cza
 cases Na n&&((lkD n.2.1 s).2==0&&(Cya n.2.1 s b).2) with
 |false=>exact hn
 |true=>exact⟨Dv.2 ⟨h1,h2,hr.1,h4,h5⟩,hr.2⟩
def Lha (n:Nod) (s:ByteArray) (b:Int) (hn:NIn n) (h1:b≤9223372036854775807) (h0 : -9223372036854775808≤b):Tot (λ k=>Ks k n s b) (λ r=>r=Cza n s b):=by
 unfold Ks Cza
 refine Hfb (Z5 n hn) ?_
 refine Hfb (Asa hn.1.1.1.1.1 hn.1.2.1 s) ?_
 refine Hfb (Yba n hn) ?_
 cases h:Na n
 ·exact H6b rfl (H3b rfl)
 refine H5b rfl ?_
 cases hl:(lkD n.2.1 s).2==0
 ·exact H6b (by unfold bne;rw[hl];rfl) (H3b rfl)
 refine H5b (by unfold bne;rw[hl];rfl) (Hfb (Cob (NG.g ⟨h,hn.1.2⟩) h1 h0) ?_)
 cases (Cya n.2.1 s b).2 with
 |false=>exact H6b rfl (H3b rfl)
 |true=>exact H5b rfl (H3b rfl)
def Bb:Nod:=((0:Int),(([]:List Nmd),([]:List Nmd)),([]:List Row),([]:List Row))
def Lia (i:Int):Ku i=some (bif inR i 0 20 then (i,([],[]),[],[]) else Bb):=by
 unfold Ku
 rw[Pr]
 simp only[Vn]
 cases inR i 0 20<;>rfl

abbrev Dev:=Int×Int×Int
abbrev Rng:=Int×List (List Int)
def Oc:Dev:=((0:Int),((0:Int),(0:Int)))
def Oj (l:List Int) (n:Int):Bool:=l.any (· == n)
def Ti {l:List Int} {n:Int}:Oj l n=true↔n∈l:=by
 unfold Oj
 rw[Hkb]
 constructor
 ·rintro⟨x,hx,e⟩;rw[← eq_of_beq e];exact hx
 ·intro h;exact⟨n,h,beq_self_eq_true n⟩
def Uh (l:List Int) (n:Int) (hl:l.length≤4000000000000000):Tot (λ k=>Bx k l n) (λ r=>r=Oj l n):=by
 unfold Bx
 refine H4b (Q:=λ r=>r=bif Oj l n then .inl true else .inr ()) ?_ (by rintro r rfl;cases Oj l n<;>exact H3b rfl)
 refine Hcb (L:=λ k i (_:Unit)=>Hw k n l (l.length:Int) i) (Q:=λ r=>r=bif Oj l n then .inl true else .inr ()) l.length (λ j _=>Oj (l.drop j) n=Oj l n) ?_ ?_ 0 () (Vo _) rfl
 ·intro _ h
  rw[Vz]at h
  simp (disch:=omega) only [Hw,dF,← h]
  exact H3b rfl
 ·intro j _ hj h next
  rw[Ad (d:=0) hj]at h
  simp (disch:=omega) only [Hw,dT,Va,w64]
  unfold Oj at h
  rw[Itb]at h
  refine H9b (λ hc=>H3b ?_) (λ hc=>next () ?_)
  ·rw[hc,Irb]at h
   unfold Oj
   rw[← h]
   rfl
  ·rw[hc,Zu]at h
   exact h
def Ui (l:List Int) (n:Int) (hl:l.length≤4000000000000000):Tot (λ k=>Cs k l n) (λ r=>r=Oj l n):=by
 unfold Cs
 refine H4b (Q:=λ r=>r=bif Oj l n then .inl true else .inr ()) ?_ (by rintro r rfl;cases Oj l n<;>exact H3b rfl)
 refine Hcb (L:=λ k i (_:Unit)=>Je k l n i) (Q:=λ r=>r=bif Oj l n then .inl true else .inr ()) l.length (λ j _=>Oj (l.drop j) n=Oj l n) ?_ ?_ 0 () (Vo _) rfl
 ·intro _ h
  rw[Vz]at h
  simp (disch:=omega) only [Je,dF,← h]
  exact H3b rfl
 ·intro j _ hj h next
  rw[Ad (d:=0) hj]at h
  simp (disch:=omega) only [Je,dT,Va,w64]
  unfold Oj at h
  rw[Itb]at h
  refine H9b (λ hc=>H3b ?_) (λ hc=>next () ?_)
  ·rw[hc,Irb]at h
   unfold Oj
   rw[← h]
   rfl
  ·rw[hc,Zu]at h
   exact h
def Li (l:List Dev) (id:Int):Option Dev:=l.find? (λ d=>d.1==id)
def F4b:Option Dev→Dev×Bool
 |some d=>(d,true)
 |none=>(Oc,false)
def Xy {l:List Dev} {id:Int} {d:Dev} (h:Li l id=some d):d∈l∧d.1=id:=⟨List.mem_of_find?_eq_some h,eq_of_beq (List.find?_some (p:=λ d:Dev=>d.1==id) h)⟩
def Su (l:List Dev) (id:Int) (hl:l.length≤1000000000):Tot (λ k=>F9 k l id) (λ r=>r=F4b (Li l id)):=by
 unfold F9
 refine H4b (Q:=λ r=>r=match Li l id with|some d => .inl (true,d)|none => .inr (0,0,0)) ?_ (by rintro r rfl;cases Li l id<;>exact H3b rfl)
 refine Hcb (L:=λ k i (_:Unit)=>J7 k id l (l.length:Int) i (0,0,0)) (Q:=λ r=>r=match Li l id with|some d => .inl (true,d)|none => .inr (0,0,0)) l.length (λ j _=>Li (l.drop j) id=Li l id) ?_ ?_ 0 () (Vo _) rfl
 ·intro _ h
  rw[Vz]at h
  simp (disch:=omega) only [J7,dF,← h]
  exact H3b rfl
 ·intro j _ hj h next
  rw[Ad (d:=Oc) hj]at h
  unfold Li at h
  rw[Kdb]at h
  simp (disch:=omega) only [J7,dT,Va,w64]
  refine H9b (λ hc=>H3b ?_) (λ hc=>next () ?_)
  ·rw[show ((l.getD j Oc).1==id)=true from hc]at h
   unfold Li
   rw[← h]
   rfl
  ·rw[show ((l.getD j Oc).1==id)=false from hc]at h
   exact h
def Wx (l:List Dev) (id:Int) (hl:l.length≤1000000000):Tot (λ k=>He k l id) (λ r=>r=F4b (Li l id)):=by
 unfold He
 refine H4b (Q:=λ r=>r=match Li l id with|some d => .inl (true,d)|none => .inr (0,0,0)) ?_ (by rintro r rfl;cases Li l id<;>exact H3b rfl)
 refine Hcb (L:=λ k i (_:Unit)=>Jf k l id i (0,0,0)) (Q:=λ r=>r=match Li l id with|some d => .inl (true,d)|none => .inr (0,0,0)) l.length (λ j _=>Li (l.drop j) id=Li l id) ?_ ?_ 0 () (Vo _) rfl
 ·intro _ h
  rw[Vz]at h
  simp (disch:=omega) only [Jf,dF,← h]
  exact H3b rfl
 ·intro j _ hj h next
  rw[Ad (d:=Oc) hj]at h
  unfold Li at h
  rw[Kdb]at h
  simp (disch:=omega) only [Jf,dT,Va,w64]
  refine H9b (λ hc=>H3b ?_) (λ hc=>next () ?_)
  ·rw[show ((l.getD j Oc).1==id)=true from hc]at h
   unfold Li
   rw[← h]
   rfl
  ·rw[show ((l.getD j Oc).1==id)=false from hc]at h
   exact h
def Cea (d:Dev):Bool:=inR d.1 0 20&&(inR d.2.1 0 20&&inR d.2.2 1 1000)
def Aba:Option Int→List Dev→Bool
 |_,[]=>true
 |none,d::l=>Cea d&&Aba (some d.1) l
 |some q,d::l=>Cea d&&(decide (q<d.1)&&Aba (some d.1) l)
def Mr (l:List Dev):Bool:=Aba none l&&inR (l.length:Int) 1 12
def Ina (l:List Dev):Nat→Option Int
 |0=>none
 |i+1=>some (l.getD i Oc).1
def Fra:∀ (p:Option Int) (l:List Dev),Aba p l=true↔l.Pairwise (λ a b=>a.1<b.1)∧(∀ d∈l,Cea d=true)∧(∀ q,p=some q→∀ d∈l,q<d.1)
 |p,[]=>by cases p<;>simp[Aba]
 |none,d::l=>by
  simp only[Aba,Vb,Fra (some d.1) l,Wj,Vl,forall_eq_or_imp,Vg]
  constructor
  ·rintro⟨h1,h2,h3,h4⟩;exact⟨⟨h4 _ rfl,h2⟩,⟨h1,h3⟩,λ q h=>by cases h⟩
  ·rintro⟨⟨h1,h2⟩,⟨h3,h4⟩,_⟩;exact⟨h3,h2,h4,λ q e=>by subst e;exact h1⟩
 |some q,d::l=>by
  simp only[Aba,Vb,decide_eq_true_iff,Fra (some d.1) l,Wj,Vl,forall_eq_or_imp,Vg]
  constructor
  ·rintro⟨h1,hq,h2,h3,h4⟩
   exact⟨⟨h4 _ rfl,h2⟩,⟨h1,h3⟩,λ q' e=>by subst e;exact⟨hq,λ x hx=>by have:=h4 _ rfl x hx;omega⟩⟩
  ·rintro⟨⟨h1,h2⟩,⟨h3,h4⟩,h5⟩
   exact⟨h3,(h5 q rfl).1,h2,h4,λ q e=>by subst e;exact h1⟩
def Cu {l:List Dev}:Mr l=true↔l.Pairwise (λ a b=>a.1<b.1)∧(∀ d∈l,Cea d=true)∧1≤l.length∧l.length≤12:=by
 unfold Mr
 rw[Vb,Fra,Cf]
 constructor
 ·rintro⟨⟨h1,h2,_⟩,h3,h4⟩;exact⟨h1,h2,by omega,by omega⟩
 ·rintro⟨h1,h2,h3,h4⟩;exact⟨⟨h1,h2,λ q h=>by cases h⟩,by omega,by omega⟩
def Nw {d:Dev}:Cea d=true↔(0≤d.1∧d.1≤20)∧(0≤d.2.1∧d.2.1≤20)∧1≤d.2.2∧d.2.2≤1000:=by
 unfold Cea
 rw[Vb,Vb,Cf,Cf,Cf]
def Ioa {l:List Dev} {j:Nat} (hj:j<l.length):Aba (Ina l j) (l.drop j)=(Cea (l.getD j Oc)&&((bif decide (0<j) then decide ((l.getD (j-1) Oc).1<(l.getD j Oc).1) else true)&&Aba (Ina l (j+1)) (l.drop (j+1)))):=by
 rw[Ad (d:=Oc) hj]
 cases j with
 |zero=>simp[Ina,Aba]
 |succ j=>simp[Ina,Aba]
def Fsa (l:List Dev) (hl:l.length≤1000000000):Tot (λ k=>D6 k l) (λ r=>r=Mr l):=by
 unfold D6 Mr
 refine H4b (Q:=λ r=>r=bif Aba none l then .inr l else .inl false) ?_ ?_
 ·refine Hcb (L:=λ k i (_:Unit)=>Gz k l l (l.length:Int) i) (Q:=λ r=>r=bif Aba none l then .inr l else .inl false) l.length (λ j _=>Aba (Ina l j) (l.drop j)=Aba none l) ?_ ?_ 0 () (Vo _) rfl
  ·intro _ h
   rw[Vz]at h
   have:Aba none l=true:=by rw[← h];cases Ina l l.length<;>rfl
   simp (disch:=omega) only [Gz,dF,this]
   exact H3b rfl
  ·intro j _ hj h next
   rw[Ioa hj]at h
   simp (disch:=omega) only [Gz,dT,Va,w64,Ru,Vn]
   have e0:l.getD j ((0:Int),((0:Int),(0:Int)))=l.getD j Oc:=rfl
   rw[e0]
   have no:Cea (l.getD j Oc)=false→Aba none l=false:=λ c=>by rw[← h,c];rfl
   unfold Cea at no h
   refine H9b (λ hc=>H3b ?_) (λ h1=>H9b (λ hc=>H3b ?_) (λ h2=>H9b (λ hc=>H3b ?_) (λ h3=>?_)))
   ·rw[no (by rw[Vw]at hc;rw[hc];rfl)];rfl
   ·rw[no (by rw[Vw]at hc;rw[hc,Zt,Yt])];rfl
   ·rw[no (by rw[Vw]at hc;rw[hc,Yt,Yt])];rfl
   ·rw[Wo]at h1 h2 h3
    rw[h1,h2,h3]at h
    refine Hab (λ h0=>?_) (λ h0=>next () ?_)
    ·simp (disch:=omega) only [dT,w64,show toNat ((j:Int)-1)=j-1 by omega]
     rw[decide_eq_true (show 0<j by omega)]at h
     refine Hab (λ hc=>H3b ?_) (λ hc=>next () ?_)
     ·have hc':¬ ((l.getD (j-1) Oc).1<(l.getD j Oc).1):=by
       have:(l.getD (j-1) Oc).1≥(l.getD j Oc).1:=hc
       omega
      rw[decide_eq_false hc']at h
      rw[← h];rfl
     ·have hc':(l.getD (j-1) Oc).1<(l.getD j Oc).1:=by
       have:¬ ((l.getD (j-1) Oc).1≥(l.getD j Oc).1):=hc
       omega
      rw[decide_eq_true hc']at h
      exact h
    ·rw[decide_eq_false (show ¬ 0<j by omega)]at h
     exact h
 ·rintro r rfl
  cases Aba none l
  ·exact H3b rfl
  simp only[cond_true,Hvb,Ru,Vn]
  exact H3b rfl
def Fta (l:List Dev) (hl:l.length≤1000000000):Tot (λ k=>D7 k l) (λ r=>r=Mr l):=by
 unfold D7 Mr
 refine H4b (Q:=λ r=>r=bif Aba none l then .inr l else .inl false) ?_ ?_
 ·refine Hcb (L:=λ k i (_:Unit)=>H6 k l i) (Q:=λ r=>r=bif Aba none l then .inr l else .inl false) l.length (λ j _=>Aba (Ina l j) (l.drop j)=Aba none l) ?_ ?_ 0 () (Vo _) rfl
  ·intro _ h
   rw[Vz]at h
   have:Aba none l=true:=by rw[← h];cases Ina l l.length<;>rfl
   simp (disch:=omega) only [H6,dF,this]
   exact H3b rfl
  ·intro j _ hj h next
   rw[Ioa hj]at h
   simp (disch:=omega) only [H6,dT,Va,w64,Pr,Vn]
   have e0:l.getD j ((0:Int),((0:Int),(0:Int)))=l.getD j Oc:=rfl
   rw[e0]
   have no:Cea (l.getD j Oc)=false→Aba none l=false:=λ c=>by rw[← h,c];rfl
   unfold Cea at no h
   refine H9b (λ hc=>H3b ?_) (λ h1=>H9b (λ hc=>H3b ?_) (λ h2=>H9b (λ hc=>H3b ?_) (λ h3=>?_)))
   ·rw[no (by rw[Vw]at hc;rw[hc];rfl)];rfl
   ·rw[no (by rw[Vw]at hc;rw[hc,Zt,Yt])];rfl
   ·rw[no (by rw[Vw]at hc;rw[hc,Yt,Yt])];rfl
   ·rw[Wo]at h1 h2 h3
    rw[h1,h2,h3]at h
    refine Hab (λ h0=>?_) (λ h0=>next () ?_)
    ·simp (disch:=omega) only [dT,w64,show toNat ((j:Int)-1)=j-1 by omega]
     rw[decide_eq_true (show 0<j by omega)]at h
     refine Hab (λ hc=>H3b ?_) (λ hc=>next () ?_)
     ·have hc':¬ ((l.getD (j-1) Oc).1<(l.getD j Oc).1):=by
       have:(l.getD (j-1) Oc).1≥(l.getD j Oc).1:=hc
       omega
      rw[decide_eq_false hc']at h
      rw[← h];rfl
     ·have hc':(l.getD (j-1) Oc).1<(l.getD j Oc).1:=by
       have:¬ ((l.getD (j-1) Oc).1≥(l.getD j Oc).1):=hc
       omega
      rw[decide_eq_true hc']at h
      exact h
    ·rw[decide_eq_false (show ¬ 0<j by omega)]at h
     exact h
 ·rintro r rfl
  cases Aba none l
  ·exact H3b rfl
  simp only[cond_true,Hvb,Pr,Vn]
  exact H3b rfl
def Fua (l:List Dev) (out:List Int) (id:Int):List Int:=match Li l id with
 |some d=>bif Oj out d.2.1 then out else out++[d.2.1]
 |none=>out
def D9 (ids:List Int) (l:List Dev):List Int:=ids.foldl (Fua l) []
def Cfa (l:List Dev) (out:List Int) (id:Int):(Fua l out id).length≤out.length+1:=by
 unfold Fua
 cases Li l id with
 |none=>exact I5b _
 |some d=>
  simp only
  cases Oj out d.2.1 with
  |true=>exact I5b _
  |false=>rw[cond_false,Ve];exact Vv _
def Ipa (l:List Dev):∀ (ids out:List Int),(ids.foldl (Fua l) out).length≤out.length+ids.length
 |[],out=>by simp
 |id::ids,out=>by
  have h1:=Ipa l ids (Fua l out id)
  have h2:=Cfa l out id
  rw[Yv,Vd]
  omega
def Iqa (ids:List Int) (l:List Dev) (hi:ids.length≤5000000) (hl:l.length≤5000000):Tot (λ k=>Dl k ids l) (λ r=>r=D9 ids l):=by
 unfold Dl
 refine H4b (Q:=λ r=>r=D9 ids l) ?_ (by rintro r rfl;exact H3b rfl)
 refine Hcb (L:=λ k i s=>Eg k l s ids (ids.length:Int) i) (Q:=λ r=>r=D9 ids l) ids.length (λ j s=>(ids.drop j).foldl (Fua l) s=D9 ids l∧s.length≤j) ?_ ?_ 0 [] (Vo _) ⟨rfl,Vv _⟩
 ·rintro s ⟨h,_⟩
  rw[Vz]at h
  simp (disch:=omega) only [Eg,dF]
  exact H3b h
 ·rintro j s hj ⟨h,hs⟩ next
  rw[Ad (d:=0) hj,Yv]at h
  simp (disch:=omega) only [Eg,dT,Va,w64]
  have hz:=Cfa l s (ids.getD j 0)
  refine Hfb (Su l (ids.getD j 0) (by omega)) ?_
  unfold Fua at h hz
  cases hd:Li l (ids.getD j 0) with
  |none=>
   rw[hd]at h
   exact H5b rfl (next _ ⟨h,by omega⟩)
  |some d=>
   rw[hd]at h hz
   refine H6b rfl (Hfb (Uh s d.2.1 (by omega)) ?_)
   simp only at h hz
   cases hh:Oj s d.2.1 with
   |true=>
    rw[hh]at h
    exact H5b rfl (next _ ⟨h,by omega⟩)
   |false=>
    rw[hh]at h hz
    exact H6b rfl (Hbb (by simp only[Vd,Vj];omega) (next _ ⟨h,by rw[cond_false]at hz;exact Zl hz (by omega)⟩))
def Ira (ids:List Int) (l:List Dev) (hi:ids.length≤5000000) (hl:l.length≤5000000):Tot (λ k=>Dq k ids l) (λ r=>r=D9 ids l):=by
 unfold Dq
 refine H4b (Q:=λ r=>r=D9 ids l) ?_ (by rintro r rfl;exact H3b rfl)
 refine Hcb (L:=λ k i s=>Eo k ids l s i) (Q:=λ r=>r=D9 ids l) ids.length (λ j s=>(ids.drop j).foldl (Fua l) s=D9 ids l∧s.length≤j) ?_ ?_ 0 [] (Vo _) ⟨rfl,Vv _⟩
 ·rintro s ⟨h,_⟩
  rw[Vz]at h
  simp (disch:=omega) only [Eo,dF]
  exact H3b h
 ·rintro j s hj ⟨h,hs⟩ next
  rw[Ad (d:=0) hj,Yv]at h
  simp (disch:=omega) only [Eo,dT,Va,w64]
  have hz:=Cfa l s (ids.getD j 0)
  refine Hfb (Wx l (ids.getD j 0) (by omega)) ?_
  unfold Fua at h hz
  cases hd:Li l (ids.getD j 0) with
  |none=>
   rw[hd]at h
   exact H5b rfl (next _ ⟨h,by omega⟩)
  |some d=>
   rw[hd]at h hz
   refine H6b rfl (Hfb (Ui s d.2.1 (by omega)) ?_)
   simp only at h hz
   cases hh:Oj s d.2.1 with
   |true=>
    rw[hh]at h
    exact H5b rfl (next _ ⟨h,by omega⟩)
   |false=>
    rw[hh]at h hz
    exact H6b rfl (Hbb (by simp only[Vd,Vj];omega) (next _ ⟨h,by rw[cond_false]at hz;exact Zl hz (by omega)⟩))

def Sw {l:List Int} {j:Nat} (hj:j<l.length) (h:(l.take j).Nodup) (hn:l.getD j 0∉l.take j):(l.take (j+1)).Nodup:=by
 rw[Wk hj,Ym]
 rw[Vc,Vk hj,Yn]at hn
 exact⟨h,by simp,λ a ha b hb e=>by rw[Vu.1 hb]at e;subst e;exact hn ha⟩
def Isa {l:List Int} {j:Nat} (hj:j<l.length) (hn:l.getD j 0∈l.take j):¬ l.Nodup:=by
 intro h
 have h1:(l.take (j+1)).Nodup:=h.sublist (K0b _ _)
 rw[Wk hj,Ym]at h1
 rw[Vc,Vk hj,Yn]at hn
 exact h1.2.2 _ hn _ (by simp) rfl
def Ita (l:List Int) (hl:l.length≤5000000):Tot (λ k=>Ha k l) (λ r=>r=decide l.Nodup):=by
 unfold Ha
 refine H4b (Q:=λ r=>r=bif decide l.Nodup then .inr () else .inl false) ?_ (by rintro r rfl;cases decide l.Nodup<;>exact H3b rfl)
 refine Hcb (L:=λ k i (_:Unit)=>J6 k l l (l.length:Int) i) (Q:=λ r=>r=bif decide l.Nodup then .inr () else .inl false) l.length (λ j _=>(l.take j).Nodup) ?_ ?_ 0 () (Vo _) (by simp)
 ·intro _ h
  rw[Yo]at h
  simp (disch:=omega) only [J6,dF,decide_eq_true h]
  exact H3b rfl
 ·intro j _ hj h next
  simp (disch:=omega) only [J6,dT,Va,w64]
  refine Hfb (Uh (l.take j) (l.getD j 0) (by rw[Vs];omega)) ?_
  refine H9b (λ hc=>H3b ?_) (λ hc=>next () (Sw hj h (λ c=>by rw[Ti.2 c]at hc;cases hc)))
  rw[decide_eq_false (Isa hj (Ti.1 hc))]
  rfl
def Yfa (l:List Int) (n:Int) (hl:l.length≤5000000):Tot (λ k=>Hl k l n) (λ r=>r=(decide l.Nodup&&((l.length:Int)==n))):=by
 unfold Hl
 refine H4b (Q:=λ r=>r=bif decide l.Nodup then .inr (n,l) else .inl false) ?_ (by rintro r rfl;cases decide l.Nodup<;>exact H3b rfl)
 refine Hcb (L:=λ k i (_:Unit)=>Ib k n i l) (Q:=λ r=>r=bif decide l.Nodup then .inr (n,l) else .inl false) l.length (λ j _=>(l.take j).Nodup) ?_ ?_ 0 () (Vo _) (by simp)
 ·intro _ h
  rw[Yo]at h
  simp (disch:=omega) only [Ib,dF,decide_eq_true h]
  exact H3b rfl
 ·intro j _ hj h next
  simp (disch:=omega) only [Ib,dT,Va,w64]
  refine Hfb (Ui (l.take j) (l.getD j 0) (by rw[Vs];omega)) ?_
  refine H9b (λ hc=>H3b ?_) (λ hc=>next () (Sw hj h (λ c=>by rw[Ti.2 c]at hc;cases hc)))
  rw[decide_eq_false (Isa hj (Ti.1 hc))]
  rfl
def RBd (r:Rng):Prop:=r.2.length≤2000000∧∀ p∈r.2,p.length≤2000000
def Qx (l:List Dev) (n:Int) (p:List Int):Bool:=(decide p.Nodup&&((p.length:Int)==n))&&p.all λ id=>(Li l id).isSome
def Il (r:Rng) (l:List Dev):Bool:=Mr l&&(inR r.1 1 5&&(inR (r.2.length:Int) 1 64&&r.2.all (Qx l r.1)))
def B1 {r:Rng} {l:List Dev}:Il r l=true↔Mr l=true∧(1≤r.1∧r.1≤5)∧(1≤r.2.length∧r.2.length≤64)∧∀ p∈r.2,p.Nodup∧(p.length:Int)=r.1∧∀ id∈p,∃ d,Li l id=some d:=by
 unfold Il Qx
 simp only[Vb,Cf,Wm,decide_eq_true_iff,beq_iff_eq,Zn]
 constructor
 ·rintro⟨h1,h2,⟨h3,h4⟩,h5⟩;exact⟨h1,h2,⟨by omega,by omega⟩,λ p hp=>⟨(h5 p hp).1.1,(h5 p hp).1.2,(h5 p hp).2⟩⟩
 ·rintro⟨h1,h2,⟨h3,h4⟩,h5⟩;exact⟨h1,h2,⟨by omega,by omega⟩,λ p hp=>⟨⟨(h5 p hp).1,(h5 p hp).2.1⟩,(h5 p hp).2.2⟩⟩
def Mn {r:Rng} {l:List Dev} (h:Il r l=true):RBd r:=by
 obtain⟨_,h2,h3,h4⟩:=B1.1 h
 exact⟨by omega,λ p hp=>by have:=(h4 p hp).2.1;omega⟩
def Yga (r:Rng) (l:List Dev) (hr:RBd r) (hl:l.length≤5000000):Tot (λ k=>G4 k r l) (λ b=>b=Il r l):=by
 unfold G4 Il
 refine Hfb (Fsa l (by omega)) ?_
 cases hd:Mr l
 ·exact H6b rfl (H3b rfl)
 have hrl:=hr.1
 simp only[Za,cond_false,Ru,Vn,Wd]
 cases inR r.1 1 5
 ·exact H6b rfl (H3b rfl)
 refine H5b rfl ?_
 cases inR (r.2.length:Int) 1 64
 ·exact H6b rfl (H3b rfl)
 refine H5b rfl (H4b (Q:=λ b=>b=bif r.2.all (Qx l r.1) then .inr () else .inl false) ?_ (by rintro r' rfl;cases r.2.all (Qx l r.1)<;>exact H3b rfl))
 refine Hcb (L:=λ k i (_:Unit)=>Hy k l r.2 (r.2.length:Int) i r) (Q:=λ b=>b=bif r.2.all (Qx l r.1) then .inr () else .inl false) r.2.length (λ j _=>(r.2.drop j).all (Qx l r.1)=r.2.all (Qx l r.1)) ?_ ?_ 0 () (Vo _) rfl
 ·intro _ h
  rw[Vz]at h
  simp (disch:=omega) only [Hy,dF,← h]
  exact H3b rfl
 ·intro j _ hj h next
  rw[Ad (d:=[]) hj,I2b]at h
  have hp:=hr.2 _ (A3 (d:=[]) hj)
  simp (disch:=omega) only [Hy,dT,Va,w64]
  have no:Qx l r.1 (r.2.getD j [])=false→r.2.all (Qx l r.1)=false:=λ c=>by rw[← h,c];rfl
  unfold Qx at no h
  refine H9b (λ hc=>H3b ?_) (λ h1=>H4b (Ita (r.2.getD j []) (by omega)) ?_)
  ·have hc':(((r.2.getD j []).length:Int)==r.1)=false:=by simpa using hc
   rw[show r.2.all (Qx l r.1)=false from no (by rw[hc',Yt,Zt])]
   rfl
  ·have h1':(((r.2.getD j []).length:Int)==r.1)=true:=by simpa using h1
   rintro b rfl
   refine H9b (λ hc=>H3b ?_) (λ h2=>?_)
   ·rw[show r.2.all (Qx l r.1)=false from no (by rw[Vw]at hc;rw[hc];rfl)]
    rfl
   ·rw[Wo]at h2
    generalize r.2.getD j []=p at *
    refine H4b (Q:=λ b=>b=bif p.all (λ id=>(Li l id).isSome) then .inr (l,r.2,(r.2.length:Int),(j:Int),r) else .inl false) ?_ ?_
    ·refine Hcb (L:=λ k i (_:Unit)=>Hx k l r.2 (r.2.length:Int) (j:Int) p (p.length:Int) i r) (Q:=λ b=>b=bif p.all (λ id=>(Li l id).isSome) then .inr (l,r.2,(r.2.length:Int),(j:Int),r) else .inl false) p.length (λ m _=>(p.drop m).all (λ id=>(Li l id).isSome)=p.all (λ id=>(Li l id).isSome)) ?_ ?_ 0 () (Vo _) rfl
     ·intro _ h
      rw[Vz]at h
      simp (disch:=omega) only [Hx,dF,← h]
      exact H3b rfl
     ·intro m _ hm h next
      rw[Ad (d:=0) hm,I2b]at h
      simp (disch:=omega) only [Hx,dT,Va,w64]
      refine Hfb (Su l (p.getD m 0) (by omega)) ?_
      cases hd:Li l (p.getD m 0) with
      |none=>exact H6b rfl (H3b (by rw[← h,hd];rfl))
      |some d=>exact H5b rfl (next () (by rw[hd]at h;exact h))
    ·rintro b rfl
     cases hc:p.all (λ id=>(Li l id).isSome)
     ·exact H3b (by rw[show r.2.all (Qx l r.1)=false from no (by rw[hc,Yt])];rfl)
     simp (disch:=omega) only [cond_true,Hvb,w64]
     exact next () (by rw[h2,h1',hc]at h;exact h)
def Z6 (l:List Int) (hl:l.length≤5000000):C7 l=some l:=by
 unfold C7
 rw[bT (by simp only[Vj];omega),Vx]
def Z7 (r:Rng) (hr:RBd r):Tot (λ k=>Di k r) (λ x=>x=r):=by
 have hrl:=hr.1
 unfold Di
 refine H4b (Q:=λ x=>x=((0,[]),r)) ?_ (by rintro x rfl;exact H3b rfl)
 refine Hcb (L:=λ k i s=>Ea k r.2 (r.2.length:Int) i (0,[]) (r.1,s)) (Q:=λ x=>x=((0,[]),r)) r.2.length (λ j s=>s=r.2.take j) ?_ ?_ 0 [] (Vo _) rfl
 ·rintro s rfl
  simp (disch:=omega) only [Ea,dF,Yo]
  exact H3b rfl
 ·rintro j s hj rfl next
  have hp:=hr.2 _ (A3 (d:=[]) hj)
  simp (disch:=omega) only [Ea,dT,Va,w64,Z6,Vn]
  refine Hbb (by simp only[Vs,Vd,Vj];omega) (next _ ?_)
  rw[Wk hj,Vc,Vk hj,Yn]
def Z8 (r:Rng) (hr:RBd r):Tot (λ k=>Jy k r) (λ x=>x=r):=by
 have hrl:=hr.1
 unfold Jy
 refine H4b (Q:=λ x=>x=((0,[]),r)) ?_ (by rintro x rfl;exact H3b rfl)
 refine Hcb (L:=λ k i s=>H3 k i r (0,[]) (r.1,s)) (Q:=λ x=>x=((0,[]),r)) r.2.length (λ j s=>s=r.2.take j) ?_ ?_ 0 [] (Vo _) rfl
 ·rintro s rfl
  simp (disch:=omega) only [H3,dF,Yo]
  exact H3b rfl
 ·rintro j s hj rfl next
  have hp:=hr.2 _ (A3 (d:=[]) hj)
  simp (disch:=omega) only [H3,dT,Va,w64]
  refine Hbb (by simp only[Vj];omega) (Hbb (by simp only[Vs,Vd,Vj];omega) (next _ ?_))
  rw[Wk hj,Vc,Vk hj,Yn,Vx]
def cnt (id n x:Int):Int:=bif x==id then n+1 else n
def D0a (id n:Int) (p:List Int):Int:=p.foldl (cnt id) n
def Jm (r:Rng) (id:Int):Int:=r.2.foldl (D0a id) 0
def Fva (id:Int):∀ (p:List Int) (n:Int),n≤D0a id n p∧D0a id n p≤n+p.length
 |[],n=>by simp[D0a]
 |x::p,n=>by
  have h:=Fva id p (cnt id n x)
  unfold D0a at h ⊢
  have hc:n≤cnt id n x∧cnt id n x≤n+1:=by unfold cnt;cases x==id<;>simp<;>omega
  rw[Yv,Vd]
  omega
def Uea (id:Int) (m:Nat):∀ (ps:List (List Int)) (n:Int),(∀ p∈ps,p.length≤m)→n≤ps.foldl (D0a id) n∧ps.foldl (D0a id) n≤n+(m*ps.length:Nat)
 |[],n,_=>by simp
 |p::ps,n,h=>by
  have h1:=Uea id m ps (D0a id n p) (λ q hq=>h q (Vh _ hq))
  have h2:=Fva id p n
  have h3:=h p Yb
  rw[Yv,Vd,Nat.mul_succ]
  omega
def P5 {r:Rng} (hr:RBd r) (id:Int):0≤Jm r id∧Jm r id≤4000000000000:=by
 have h:=Uea id 2000000 r.2 0 hr.2
 have h2:=hr.1
 unfold Jm
 omega
def Fwa (r:Rng) (id:Int) (hr:RBd r):Tot (λ k=>Gf k r id) (λ x=>x=Jm r id):=by
 have hrl:=hr.1
 unfold Gf
 refine H4b (Q:=λ x=>x=Jm r id) ?_ (by rintro x rfl;exact H3b rfl)
 refine Hcb (L:=λ k i s=>I5 k id s r.2 (r.2.length:Int) i) (Q:=λ x=>x=Jm r id) r.2.length (λ j s=>(r.2.drop j).foldl (D0a id) s=Jm r id∧0≤s∧s≤2000000*j) ?_ ?_ 0 0 (Vo _) ⟨rfl,by omega,by omega⟩
 ·rintro s ⟨h,_⟩
  rw[Vz]at h
  simp (disch:=omega) only [I5,dF]
  exact H3b h
 ·rintro j s hj ⟨h,h0,h1⟩ next
  rw[Ad (d:=[]) hj,Yv]at h
  have hp:=hr.2 _ (A3 (d:=[]) hj)
  have hc:=Fva id (r.2.getD j []) s
  simp (disch:=omega) only [I5,dT,Va]
  refine H4b (Q:=λ x=>x=(id,D0a id s (r.2.getD j []),r.2,(r.2.length:Int),(j:Int))) ?_ ?_
  ·generalize r.2.getD j []=p at *
   refine Hcb (L:=λ k i s=>H2 k id s r.2 (r.2.length:Int) (j:Int) p (p.length:Int) i) (Q:=λ x=>x=(id,D0a id s p,r.2,(r.2.length:Int),(j:Int))) p.length (λ m z=>D0a id z (p.drop m)=D0a id s p∧0≤z∧z≤2000000*j+m) ?_ ?_ 0 s (Vo _) ⟨rfl,h0,by omega⟩
   ·rintro z ⟨h,_⟩
    rw[Vz]at h
    simp (disch:=omega) only [H2,dF]
    exact H3b (by rw[← h];rfl)
   ·rintro m z hm ⟨h,z0,z1⟩ next
    rw[Ad (d:=0) hm]at h
    simp (disch:=omega) only [H2,dT,Va,w64]
    have h':D0a id (cnt id z (p.getD m 0)) (p.drop (m+1))=D0a id s p:=h
    unfold cnt at h'
    refine H9b (λ hc=>next _ ?_) (λ hc=>next _ ?_)
    ·rw[hc]at h';exact⟨h',by omega,by omega⟩
    ·rw[hc]at h';exact⟨h',by omega,by omega⟩
  ·rintro x rfl
   simp (disch:=omega) only [w64]
   exact next _ ⟨h,by omega,by omega⟩
def Ata (r:Rng) (id:Int) (hr:RBd r):Tot (λ k=>D8 k r id) (λ x=>x=Jm r id):=by
 have hrl:=hr.1
 unfold D8
 refine H4b (Q:=λ x=>x=Jm r id) ?_ (by rintro x rfl;exact H3b rfl)
 refine Hcb (L:=λ k i s=>Id k id s i r) (Q:=λ x=>x=Jm r id) r.2.length (λ j s=>(r.2.drop j).foldl (D0a id) s=Jm r id∧0≤s∧s≤2000000*j) ?_ ?_ 0 0 (Vo _) ⟨rfl,by omega,by omega⟩
 ·rintro s ⟨h,_⟩
  rw[Vz]at h
  simp (disch:=omega) only [Id,dF]
  exact H3b h
 ·rintro j s hj ⟨h,h0,h1⟩ next
  rw[Ad (d:=[]) hj,Yv]at h
  have hp:=hr.2 _ (A3 (d:=[]) hj)
  have hc:=Fva id (r.2.getD j []) s
  simp (disch:=omega) only [Id,dT]
  refine H4b (Q:=λ x=>x=(id,D0a id s (r.2.getD j []),(j:Int),r)) ?_ ?_
  ·refine Hcb (L:=λ k i s=>H7 k id s (j:Int) i r) (Q:=λ x=>x=(id,D0a id s (r.2.getD j []),(j:Int),r)) (r.2.getD j []).length (λ m z=>D0a id z ((r.2.getD j []).drop m)=D0a id s (r.2.getD j [])∧0≤z∧z≤2000000*j+m) ?_ ?_ 0 s (Vo _) ⟨rfl,h0,by omega⟩
   ·rintro z ⟨h,_⟩
    rw[Vz]at h
    simp (disch:=omega) only [H7,dT,dF,Va]
    exact H3b (by rw[← h];rfl)
   ·rintro m z hm ⟨h,z0,z1⟩ next
    rw[Ad (d:=0) hm]at h
    simp (disch:=omega) only [H7,dT,Va,w64]
    have h':D0a id (cnt id z ((r.2.getD j []).getD m 0)) ((r.2.getD j []).drop (m+1))=D0a id s (r.2.getD j []):=h
    unfold cnt at h'
    refine H9b (λ hc=>next _ ?_) (λ hc=>next _ ?_)
    ·rw[hc]at h';exact⟨h',by omega,by omega⟩
    ·rw[hc]at h';exact⟨h',by omega,by omega⟩
  ·rintro x rfl
   simp (disch:=omega) only [w64]
   exact next _ ⟨h,by omega,by omega⟩

def Fvb {a w:Int} (h0:0≤a) (h1:a≤4000000000001) (w0:0≤w) (w1:w≤1000) : -9223372036854775808≤a*w∧a*w≤9223372036854775807:=by
 have e1:=Int.mul_nonneg h0 w0
 have e2:a*w≤4000000000001*1000:=Int.mul_le_mul h1 w1 w0 (by decide)
 omega
def Uj (r:Rng) (p zs:List Int) (a:Option (Dev×Bool)) (d:Dev):Option (Dev×Bool):=
 bif Oj p d.1 then a else match a with
 |none=>some (d,!(Oj zs d.2.1))
 |some (b,fr)=>bif (!(Oj zs d.2.1)&&!fr)||(((!(Oj zs d.2.1))==fr)&&decide ((Jm r d.1+1)*b.2.2<(Jm r b.1+1)*d.2.2)) then some (d,!(Oj zs d.2.1)) else some (b,fr)
def Pf (r:Rng) (p:List Int) (l:List Dev):Option (Dev×Bool):=l.foldl (Uj r p (D9 p l)) none
def Xz (r:Rng) (p:List Int) (l:List Dev):Int:=match Pf r p l with
 |some b=>b.1.1
 |none => -1
def O7a {r:Rng} {p zs:List Int} {l:List Dev} {a:Option (Dev×Bool)} {d:Dev} (ha:∀ b,a=some b→b.1∈l∧b.1.1∉p) (hd:d∈l):∀ b,Uj r p zs a d=some b→b.1∈l∧b.1.1∉p:=by
 intro b hb
 unfold Uj at hb
 cases hp:Oj p d.1
 case true=>rw[hp]at hb;exact ha b hb
 have hn:d.1∉p:=λ c=>by rw[Ti.2 c]at hp;cases hp
 rw[hp,cond_false]at hb
 cases a with
 |none=>cases hb;exact⟨hd,hn⟩
 |some c=>
  obtain⟨c,fr⟩:=c
  simp only at hb
  cases hq:(!(Oj zs d.2.1)&&!fr)||(((!(Oj zs d.2.1))==fr)&&decide ((Jm r d.1+1)*c.2.2<(Jm r c.1+1)*d.2.2)) with
  |true=>rw[hq]at hb;cases hb;exact⟨hd,hn⟩
  |false=>rw[hq]at hb;cases hb;exact ha _ rfl
def O8a {r:Rng} {p zs:List Int} {l:List Dev}:∀ (m:List Dev) (a:Option (Dev×Bool)),(∀ b,a=some b→b.1∈l∧b.1.1∉p)→(∀ d∈m,d∈l)→∀ b,m.foldl (Uj r p zs) a=some b→b.1∈l∧b.1.1∉p
 |[],_,ha,_=>ha
 |d::m,_,ha,hm=>O8a m _ (O7a ha (hm d Yb)) (λ x hx=>hm x (Vh _ hx))
def O9a {r:Rng} {p:List Int} {l:List Dev} {b:Dev×Bool} (h:Pf r p l=some b):b.1∈l∧b.1.1∉p:=O8a l none (λ b h=>by cases h) (λ _ h=>h) b h
def Q4a {r:Rng} {p zs:List Int} {a:Option (Dev×Bool)} {d:Dev} (h:a.isSome=true∨d.1∉p):(Uj r p zs a d).isSome=true:=by
 unfold Uj
 cases hp:Oj p d.1 with
 |true=>
  rcases h with h|h
  ·exact h
  ·exact absurd (Ti.1 hp) h
 |false=>
  cases a with
  |none=>rfl
  |some c=>
   obtain⟨c,fr⟩:=c
   simp only[cond_false]
   cases (!(Oj zs d.2.1)&&!fr)||(((!(Oj zs d.2.1))==fr)&&decide ((Jm r d.1+1)*c.2.2<(Jm r c.1+1)*d.2.2))<;>rfl
def Eda {r:Rng} {p zs:List Int}:∀ (m:List Dev) (a:Option (Dev×Bool)),(a.isSome=true∨∃ d∈m,d.1∉p)→(m.foldl (Uj r p zs) a).isSome=true
 |[],a,h=>by
  rcases h with h|⟨d,h,_⟩
  ·exact h
  ·cases h
 |d::m,a,h=>by
  refine Eda m _ ?_
  by_cases hd:a.isSome=true∨d.1∉p
  ·exact .inl (Q4a hd)
  ·rcases h with h|⟨x,hx,hn⟩
   ·exact absurd (.inl h) hd
   ·rcases Vl.1 hx with rfl|hx
    ·exact absurd (.inr hn) hd
    ·exact .inr ⟨x,hx,hn⟩
def Yha {r:Rng} {p:List Int} {l:List Dev} (h:∃ d∈l,d.1∉p):∃ d∈l,Xz r p l=d.1∧d.1∉p:=by
 obtain⟨b,hb⟩:=Zn.1 (Eda (r:=r) (zs:=D9 p l) l none (.inr h))
 obtain⟨h1,h2⟩:=O9a hb
 exact⟨b.1,h1,by unfold Xz;rw[show Pf r p l=some b from hb],h2⟩
def Q5a (r:Rng) (p:List Int) (l:List Dev):(Pf r p l=none∧Xz r p l = -1)∨∃ b,Pf r p l=some b∧Xz r p l=b.1.1∧b.1∈l∧b.1.1∉p:=by
 cases h:Pf r p l with
 |none=>exact .inl ⟨rfl,by unfold Xz;rw[h]⟩
 |some b=>exact .inr ⟨b,rfl,by unfold Xz;rw[h],O9a h⟩
def Rm (p:List Int) (l:List Dev):(D9 p l).length≤p.length:=by
 have:=Ipa l p []
 rwa [Vj,Wl]at this
def bs (r:Rng):Option (Dev×Bool)→Int×Bool×Dev
 |some (b,fr)=>(Jm r b.1+1,fr,b)
 |none=>(0,false,-1,0,0)
def Yia (r:Rng) (p:List Int) (l:List Dev) (hr:RBd r) (hp:p.length≤2000000) (hl:Mr l=true):Tot (λ k=>Jc k r p l) (λ x=>x=Xz r p l):=by
 obtain⟨_,hdv,_,h12⟩:=Cu.1 hl
 have hz:=Rm p l
 unfold Jc
 refine Hfb (Fsa l (by omega)) ?_
 refine H5b (by rw[hl];rfl) (Hfb (Iqa p l (by omega) (by omega)) ?_)
 refine H4b (Q:=λ x=>x=match Pf r p l with|some b=>b.1|none=>(-1,0,0)) ?_ (by rintro x rfl;unfold Xz;cases Pf r p l<;>exact H3b rfl)
 refine Hcb (L:=λ k i (s:Int×Bool×Dev)=>C1 k (D9 p l) s.1 s.2.1 l (l.length:Int) i r p s.2.2) (Q:=λ x=>x=match Pf r p l with|some b=>b.1|none=>(-1,0,0)) l.length
  (λ j s=>∃ a,s=bs r a∧(∀ b,a=some b→b.1∈l∧b.1.1∉p)∧(l.drop j).foldl (Uj r p (D9 p l)) a=Pf r p l) ?_ ?_ 0 (0,false,-1,0,0) (Vo _) ⟨none,rfl,λ b h=>(by cases h),rfl⟩
 ·rintro s ⟨a,rfl,_,h⟩
  rw[Vz]at h
  simp (disch:=omega) only [C1,dF]
  refine H3b ?_
  rw[← h]
  cases a<;>rfl
 ·rintro j s hj ⟨a,rfl,ha,h⟩ next
  rw[Ad (d:=Oc) hj,Yv]at h
  have hd:=A3 (d:=Oc) hj
  obtain⟨d,ed⟩:∃ d:Dev,l.getD j Oc=d:=⟨_,rfl⟩
  rw[ed]at h hd
  have e0:l.getD j ((0:Int),((0:Int),(0:Int)))=d:=ed
  have ha':=O7a (r:=r) (p:=p) (zs:=D9 p l) ha hd
  obtain⟨_,_,w0,w1⟩:=Nw.1 (hdv _ hd)
  have l1:=P5 hr d.1
  simp (disch:=omega) only [C1,dT,Va,w64,e0]
  unfold Uj at h ha'
  refine Hfb (Uh p d.1 (by omega)) ?_
  cases hp':Oj p d.1 with
  |true=>
   rw[hp']at h
   exact H6b rfl (next _ ⟨a,rfl,ha,h⟩)
  |false=>
   rw[hp',cond_false]at h ha'
   refine H5b rfl (Hfb (Fwa r d.1 hr) ?_)
   refine Hfb (Uh (D9 p l) d.2.1 (by omega)) ?_
   simp (disch:=omega) only [w64]
   have take:(∀ b,some (d,!(Oj (D9 p l) d.2.1))=some b→b.1∈l∧b.1.1∉p)→(l.drop (j+1)).foldl (Uj r p (D9 p l)) (some (d,!(Oj (D9 p l) d.2.1)))=Pf r p l→Tot (λ k=>C1 k (D9 p l) (Jm r d.1+1) (!(Oj (D9 p l) d.2.1)) l (l.length:Int) ((j:Int)+1) r p d) (λ x=>x=match Pf r p l with|some b=>b.1|none=>(-1,0,0)):=λ h1 h2=>next (Jm r d.1+1,!(Oj (D9 p l) d.2.1),d) ⟨_,rfl,h1,h2⟩
   cases a with
   |none=>exact H7b (show (-1:Int)<0 by decide) (take ha' h)
   |some bf=>
    obtain⟨b,fr⟩:=bf
    have hb:b∈l:=(ha _ rfl).1
    obtain⟨⟨i0,_⟩,_,v0,v1⟩:=Nw.1 (hdv _ hb)
    have l2:=P5 hr b.1
    have m1:=Fvb (a:=Jm r d.1+1) (w:=b.2.2) (by omega) (by omega) (by omega) v1
    have m2:=Fvb (a:=Jm r b.1+1) (w:=d.2.2) (by omega) (by omega) (by omega) w1
    have stay:(l.drop (j+1)).foldl (Uj r p (D9 p l)) (some (b,fr))=Pf r p l→Tot (λ k=>C1 k (D9 p l) (Jm r b.1+1) fr l (l.length:Int) ((j:Int)+1) r p b) (λ x=>x=match Pf r p l with|some b=>b.1|none=>(-1,0,0)):=λ h2=>next (Jm r b.1+1,fr,b) ⟨some (b,fr),rfl,ha,h2⟩
    refine H8b (by show ¬ b.1<0;omega) ?_
    dsimp only at h ha'
    have eb:bs r (some (b,fr))=(Jm r b.1+1,fr,b):=rfl
    simp only[eb,w64 m1.1 m1.2,w64 m2.1 m2.2]
    have cmp:∀ {z:Bool},Oj (D9 p l) d.2.1=z→((!z)==fr)=true→(!z&&!fr)=false→Tot (λ k=>cond (decide ((Jm r d.1+1)*b.2.2<(Jm r b.1+1)*d.2.2)) (C1 k (D9 p l) (Jm r d.1+1) (!(Oj (D9 p l) d.2.1)) l (l.length:Int) ((j:Int)+1) r p d) (C1 k (D9 p l) (Jm r b.1+1) fr l (l.length:Int) ((j:Int)+1) r p b)) (λ x=>x=match Pf r p l with|some b=>b.1|none=>(-1,0,0)):=by
     intro z hz e1 e2
     rw[hz]at h ha' take ⊢
     rw[e1,e2,Zu,Wd]at h ha'
     refine H9b (λ hc=>?_) (λ hc=>?_)
     ·rw[hc]at h ha';exact take ha' h
     ·rw[hc]at h;exact stay h
    cases hz:Oj (D9 p l) d.2.1 with
    |false=>
     have cm:=cmp hz
     rw[hz]at h ha' take cm
     cases fr with
     |false=>exact H6b rfl (H6b rfl (take ha' h))
     |true=>exact H6b rfl (H5b rfl (H6b rfl (cm rfl rfl)))
    |true=>
     have cm:=cmp hz
     rw[hz]at h ha' take cm
     cases fr with
     |false=>exact H5b rfl (H6b rfl (cm rfl rfl))
     |true=>exact H5b rfl (H5b rfl (stay h))
def Oaa (r:Rng) (p:List Int) (l:List Dev) (hr:RBd r) (hp:p.length≤2000000) (hl:Mr l=true):Tot (λ k=>J0 k r p l) (λ x=>x=Xz r p l):=by
 obtain⟨_,hdv,_,h12⟩:=Cu.1 hl
 have hz:=Rm p l
 unfold J0
 refine Hfb (Ira p l (by omega) (by omega)) ?_
 refine H4b (Q:=λ x=>∃ i:Int,x=(l,i)∧match Pf r p l with|some b=>∃ n:Nat,i=(n:Int)∧n<l.length∧l.getD n Oc=b.1|none=>i = -1) ?_ ?_
 ·refine Hcb (L:=λ k i (s:Int×Bool)=>C2 k l (D9 p l) s.1 s.2 i r p) (Q:=λ x=>∃ i:Int,x=(l,i)∧match Pf r p l with|some b=>∃ n:Nat,i=(n:Int)∧n<l.length∧l.getD n Oc=b.1|none=>i = -1) l.length
   (λ j s=>∃ a,(match a with|some (b,fr)=>s.2=fr∧∃ n:Nat,s.1=(n:Int)∧n<l.length∧l.getD n Oc=b|none=>s=(-1,false))∧(l.drop j).foldl (Uj r p (D9 p l)) a=Pf r p l) ?_ ?_ 0 (-1,false) (Vo _) ⟨none,rfl,rfl⟩
  ·rintro⟨s1,s2⟩ ⟨a,hs,h⟩
   rw[Vz]at h
   simp (disch:=omega) only [C2,dF]
   refine H3b ⟨s1,rfl,?_⟩
   rw[← h]
   cases a with
   |none=>exact(Prod.mk.inj hs).1
   |some bf=>exact hs.2
  ·rintro j ⟨s1,s2⟩ hj ⟨a,hs,h⟩ next
   rw[Ad (d:=Oc) hj,Yv]at h
   have hd:=A3 (d:=Oc) hj
   obtain⟨d,ed⟩:∃ d:Dev,l.getD j Oc=d:=⟨_,rfl⟩
   rw[ed]at h hd
   have e0:l.getD j ((0:Int),((0:Int),(0:Int)))=d:=ed
   obtain⟨_,_,w0,w1⟩:=Nw.1 (hdv _ hd)
   have l1:=P5 hr d.1
   simp (disch:=omega) only [C2,dT,Va,w64,e0]
   refine Hfb (Fta l (by omega)) ?_
   refine H6b hl (Hfb (Ui p d.1 (by omega)) ?_)
   unfold Uj at h
   cases hp':Oj p d.1 with
   |true=>
    rw[hp']at h
    exact H6b rfl (next _ ⟨a,hs,h⟩)
   |false=>
    rw[hp',cond_false]at h
    refine H5b rfl (Hfb (Ui (D9 p l) d.2.1 (by omega)) ?_)
    have take:∀ {z:Bool},(l.drop (j+1)).foldl (Uj r p (D9 p l)) (some (d,z))=Pf r p l→Tot (λ k=>C2 k l (D9 p l) (j:Int) z ((j:Int)+1) r p) (λ x=>∃ i:Int,x=(l,i)∧match Pf r p l with|some b=>∃ n:Nat,i=(n:Int)∧n<l.length∧l.getD n Oc=b.1|none=>i = -1):=λ {z} h2=>next ((j:Int),z) ⟨some (d,z),⟨rfl,j,rfl,hj,ed⟩,h2⟩
    cases a with
    |none=>
     obtain⟨rfl,rfl⟩:=Prod.mk.inj hs
     exact H7b (by decide) (take h)
    |some bf=>
     obtain⟨b,fr⟩:=bf
     obtain⟨e1,n,e2,hn,e3⟩:=hs
     dsimp only at e1 e2
     subst e1 e2
     have hb:=A3 (d:=Oc) hn
     rw[e3]at hb
     obtain⟨⟨i0,_⟩,_,v0,v1⟩:=Nw.1 (hdv _ hb)
     have l2:=P5 hr b.1
     have m1:=Fvb (a:=Jm r d.1+1) (w:=b.2.2) (by omega) (by omega) (by omega) v1
     have m2:=Fvb (a:=Jm r b.1+1) (w:=d.2.2) (by omega) (by omega) (by omega) w1
     have stay:(l.drop (j+1)).foldl (Uj r p (D9 p l)) (some (b,s2))=Pf r p l→Tot (λ k=>C2 k l (D9 p l) (n:Int) s2 ((j:Int)+1) r p) (λ x=>∃ i:Int,x=(l,i)∧match Pf r p l with|some b=>∃ n:Nat,i=(n:Int)∧n<l.length∧l.getD n Oc=b.1|none=>i = -1):=λ h2=>next ((n:Int),s2) ⟨some (b,s2),⟨rfl,n,rfl,hn,e3⟩,h2⟩
     refine H8b (by omega) ?_
     have e4:l.getD n ((0:Int),((0:Int),(0:Int)))=b:=e3
     dsimp only at h
     have cmp:∀ {z:Bool},Oj (D9 p l) d.2.1=z→((!z)==s2)=true→(!z&&!s2)=false→Tot (λ k=>(D8 k r d.1).bind λ r5=>cond (decide ((0:Int)≤(n:Int))) (cond (decide ((n:Int)<(length l:Int))) (cond (decide ((0:Int)≤(n:Int))) (cond (decide ((n:Int)<(length l:Int))) ((D8 k r (getD l (toNat (n:Int)) ((0:Int),((0:Int),(0:Int)))).1).bind λ r8=>cond (decide ((wrap .i64 ((wrap .i64 (r5+1))*(getD l (toNat (n:Int)) ((0:Int),((0:Int),(0:Int)))).2.2))<(wrap .i64 ((wrap .i64 (r8+1))*d.2.2)))) (C2 k l (D9 p l) (j:Int) s2 ((j:Int)+1) r p) (C2 k l (D9 p l) (n:Int) s2 ((j:Int)+1) r p)) none) none) none) none) (λ x=>∃ i:Int,x=(l,i)∧match Pf r p l with|some b=>∃ n:Nat,i=(n:Int)∧n<l.length∧l.getD n Oc=b.1|none=>i = -1):=by
      intro z hz e1 e2
      rw[hz,e1,e2,Zu,Wd]at h
      refine Hfb (Ata r d.1 hr) ?_
      refine H7b (by omega) (H7b (by omega) (H7b (by omega) (H7b (by omega) ?_)))
      rw[Va,e4]
      refine Hfb (Ata r b.1 hr) ?_
      rw[w64 (n:=Jm r d.1+1) (by omega) (by omega),w64 (n:=Jm r b.1+1) (by omega) (by omega),w64 m1.1 m1.2,w64 m2.1 m2.2]
      refine H9b (λ hc=>?_) (λ hc=>?_)
      ·rw[hc,cond_true]at h
       rw[show s2 = !z by rw[← eq_of_beq e1]]
       exact take h
      ·rw[hc]at h;exact stay h
     cases hz:Oj (D9 p l) d.2.1 with
     |false=>
      have cm:=cmp hz
      rw[hz]at h
      cases s2 with
      |false=>exact H6b rfl (H6b rfl (take h))
      |true=>exact H6b rfl (H5b rfl (H6b rfl (cm rfl rfl)))
     |true=>
      have cm:=cmp hz
      rw[hz]at h
      cases s2 with
      |false=>exact H5b rfl (H6b rfl (cm rfl rfl))
      |true=>exact H5b rfl (H5b rfl (stay h))
 ·rintro x ⟨i,rfl,hi⟩
  unfold Xz
  cases hb:Pf r p l with
  |none=>
   rw[hb]at hi
   subst hi
   exact H7b (show (-1:Int)<0 by decide) (H3b rfl)
  |some b=>
   rw[hb]at hi
   obtain⟨n,rfl,hn,e⟩:=hi
   dsimp only
   refine H8b (by omega) (H7b (by omega) (H7b (by omega) (H3b ?_)))
   rw[Va,show l.getD n ((0:Int),((0:Int),(0:Int)))=b.1 from e]

def Ufa {l:List Dev} (h:Mr l=true) {d:Dev} (hd:d∈l):Li l d.1=some d:=by
 have hp:=(Cu.1 h).1
 clear h
 induction l with
 |nil=>cases hd
 |cons x l ih=>
  obtain⟨h1,h2⟩:=Wj.1 hp
  unfold Li
  rw[Kdb]
  rcases Vl.1 hd with rfl|hd
  ·rw[beq_self_eq_true]
  ·have:=h1 d hd
   rw[show (x.1==d.1)=false from beq_eq_false_iff_ne.2 (by omega)]
   exact ih hd h2
def Aib:∀ (p:List Int) (l:List Dev),l.Pairwise (λ a b=>a.1<b.1)→p.length<l.length→∃ d∈l,d.1∉p
 |p,[],_,h=>by simp at h
 |p,d::l,hl,h=>by
  obtain⟨h1,h2⟩:=Wj.1 hl
  by_cases hd:d.1∈p
  ·have hlen:(p.erase d.1).length=p.length-1:=Isb hd
   have hpos:=Igb hd
   rw[Vd]at h
   obtain⟨x,hx,hn⟩:=Aib (p.erase d.1) l h2 (by omega)
   refine⟨x,Vh _ hx,λ c=>hn ?_⟩
   have:=h1 x hx
   exact(Jhb (by omega)).2 c
  ·exact⟨d,Yb,hd⟩
def Q6a (l:List Dev) (n:Nat) (p:List Int):Prop:=p.Nodup∧p.length=n∧∀ id∈p,∃ d,Li l id=some d
def Uga {r:Rng} {l:List Dev} {n:Nat} {p:List Int} (hl:Mr l=true) (h:Q6a l n p) (hn:n<l.length):Q6a l (n+1) (p++[Xz r p l]):=by
 obtain⟨h1,h2,h3⟩:=h
 obtain⟨d,hd,e,hne⟩:=Yha (r:=r) (Aib p l (Cu.1 hl).1 (by omega))
 rw[e]
 refine⟨?_,by rw[Ve];simp[h2],λ id hid=>?_⟩
 ·rw[Ym]
  exact⟨h1,by simp,λ a ha b hb c=>by rw[Vu.1 hb]at c;subst c;exact hne ha⟩
 ·rcases Vq.1 hid with hid|hid
  ·exact h3 id hid
  ·rw[Vu.1 hid];exact⟨d,Ufa hl hd⟩
def Iua (l:List Dev) (reps:Int) (ps:List (List Int)):Nat→List Int→List Int
 |0,p=>p
 |n+1,p=>Iua l reps ps n (p++[Xz (reps,ps++[p]) p l])
def Qsa (l:List Dev) (reps:Int):Nat→List (List Int)→List (List Int)
 |0,ps=>ps
 |n+1,ps=>Qsa l reps n (ps++[Iua l reps ps reps.toNat []])
def build (l:List Dev) (parts reps:Int):Rng×Bool:=bif Mr l&&(inR parts 1 64&&(inR reps 1 5&&!(decide (reps > (l.length:Int))))) then ((reps,Qsa l reps parts.toNat []),true) else ((0,[]),false)
def Oba {l:List Dev} {reps:Int} {ps:List (List Int)} (hl:Mr l=true):∀ (n m:Nat) (p:List Int),Q6a l m p→m+n≤l.length→Q6a l (m+n) (Iua l reps ps n p)
 |0,_,_,h,_=>h
 |n+1,m,p,h,hm=>by
  have:=Oba (reps:=reps) (ps:=ps) hl n (m+1) _ (Uga (r:=(reps,ps++[p])) hl h (by omega)) (by omega)
  rwa [show m+1+n=m+(n+1) by omega]at this
def Uha {l:List Dev} {reps:Int} (hl:Mr l=true) (hr:reps≤(l.length:Int)):∀ (n:Nat) (ps:List (List Int)),(∀ p∈ps,Q6a l reps.toNat p)→(Qsa l reps n ps).length=ps.length+n∧∀ p∈Qsa l reps n ps,Q6a l reps.toNat p
 |0,ps,h=>⟨rfl,h⟩
 |n+1,ps,h=>by
  have hf:=Oba (reps:=reps) (ps:=ps) hl reps.toNat 0 [] ⟨List.nodup_nil,rfl,λ _ h=>by cases h⟩ (by omega)
  rw[Wl]at hf
  obtain⟨h1,h2⟩:=Uha hl hr n (ps++[Iua l reps ps reps.toNat []]) (λ p hp=>by
   rcases Vq.1 hp with hp|hp
   ·exact h p hp
   ·rw[Vu.1 hp];exact hf)
  refine⟨?_,h2⟩
  show (Qsa l reps n _).length=_
  rw[h1,Ve]
  simp only[Vd,Vj]
  omega
def Oca {l:List Dev} {parts reps:Int} (h:(build l parts reps).2=true):Mr l=true∧Il (build l parts reps).1 l=true∧(build l parts reps).1.1=reps∧((build l parts reps).1.2.length:Int)=parts:=by
 unfold build at h ⊢
 cases hc:Mr l&&(inR parts 1 64&&(inR reps 1 5&&!(decide (reps > (l.length:Int)))))
 ·rw[hc]at h;cases h
 rw[Vb,Vb,Vb,Vw,decide_eq_false_iff_not,Cf,Cf]at hc
 obtain⟨h1,h2,h3,h4⟩:=hc
 obtain⟨b1,b2⟩:=Uha (reps:=reps) h1 (by omega) parts.toNat [] (λ p hp=>by cases hp)
 rw[Vj,Wl]at b1
 have b1':((Qsa l reps parts.toNat []).length:Int)=parts:=by rw[b1];omega
 refine⟨h1,B1.2 ⟨h1,h3,⟨by show 1≤(Qsa l reps parts.toNat []).length;omega,by show (Qsa l reps parts.toNat []).length≤64;omega⟩,λ p hp=>?_⟩,rfl,b1'⟩
 obtain⟨c1,c2,c3⟩:=b2 p hp
 exact⟨c1,by rw[c2];show ((reps.toNat:Nat):Int)=reps;omega,c3⟩
def Iva {l:List Dev} {reps:Int} {ps:List (List Int)}:∀ (n:Nat) (p:List Int),(Iua l reps ps n p).length=p.length+n
 |0,_=>rfl
 |n+1,p=>by
  show (Iua l reps ps n _).length=_
  rw[Iva n,Ve]
  simp only[Vd,Vj]
  omega
def Uia {α:Type} (l:List α) (x d:α):(l++[x]).getD l.length d=x:=by
 rw[Vc,Yf (Vv _),Idb]
 rfl
def Yja {α:Type} (l:List α) (x y:α):(l++[x]).set l.length y=l++[y]:=by
 rw[Keb _ _ (Vv _),Idb]
 rfl
def Iwa (l:List Dev) (parts reps:Int) (z:Rng) (hl:Mr l=true) (h0:0≤reps) (h5:reps≤5) (ps:List (List Int)) (hps:ps.length≤100) (hq:∀ q∈ps,q.length≤100):∀ (n:Nat) (p:List Int),p.length+n=reps.toNat→
  Tot (λ k=>Jh k l parts reps (ps.length:Int) (p.length:Int) z (reps,ps++[p])) (λ x=>x=(l,parts,reps,(ps.length:Int),z,(reps,ps++[Iua l reps ps n p]))):=by
 intro n
 induction n with
 |zero=>
  intro p hp
  refine Tot.succ ?_
  simp (disch:=omega) only [Jh,dF]
  exact H3b rfl
 |succ n ih=>
  intro p hp
  refine Tot.succ ?_
  have hrb:RBd (reps,ps++[p]):=⟨by simp only[Ve,Vd,Vj];omega,λ q hq'=>by
   rcases Vq.1 hq' with h|h
   ·have:=hq q h;omega
   ·rw[Vu.1 h];omega⟩
  have hlen:(ps++[p]).length=ps.length+1:=by simp
  simp (disch:=omega) only [Jh,dT,Va,w64,hlen,Uia,Yja]
  refine Hfb (Oaa (reps,ps++[p]) p l hrb (by omega) hl) ?_
  refine H6b (decide_eq_true trivial) (Hbb (by simp only[Vd,Vj];omega) (H6b (decide_eq_true trivial) ?_))
  have:=ih (p++[Xz (reps,ps++[p]) p l]) (by simp only[Ve,Vd,Vj];omega)
  rw[show (((p++[Xz (reps,ps++[p]) p l]).length:Nat):Int)=(p.length:Int)+1 by simp]at this
  exact this
def Uja (l:List Dev) (parts reps:Int) (hll:l.length≤5000000):Tot (λ k=>Hu k l parts reps) (λ x=>x=build l parts reps):=by
 unfold Hu build
 refine Hfb (Fta l (by omega)) ?_
 cases hl:Mr l
 ·exact H6b rfl (H3b rfl)
 simp only[Za,cond_false,Pr,Vn,Wd]
 cases hp:inR parts 1 64
 ·exact H6b rfl (H3b rfl)
 refine H5b rfl ?_
 cases hr:inR reps 1 5
 ·exact H6b rfl (H3b rfl)
 obtain⟨r1,r2⟩:=Cf.1 hr
 obtain⟨p1,p2⟩:=Cf.1 hp
 refine H5b rfl ?_
 cases hc:decide (reps > (l.length:Int))
 case true=>exact H6b rfl (H3b rfl)
 refine H5b rfl (H4b (Q:=λ x=>x=(((0:Int),([]:List (List Int))),(reps,Qsa l reps parts.toNat []))) ?_ (by rintro x rfl;exact H3b rfl))
 obtain⟨n,rfl⟩:∃ n:Nat,parts=(n:Int):=⟨parts.toNat,by omega⟩
 refine Hcb (L:=λ k i (s:Rng)=>Ji k l (n:Int) reps i (0,[]) s) (Q:=λ x=>x=(((0:Int),([]:List (List Int))),(reps,Qsa l reps n []))) n (λ j s=>∃ ps,s=(reps,ps)∧ps.length=j∧(∀ q∈ps,q.length≤100)∧Qsa l reps (n-j) ps=Qsa l reps n []) ?_ ?_ 0 (reps,[]) (Vo _) ⟨[],rfl,rfl,λ q h=>(by cases h),rfl⟩
 ·rintro s ⟨ps,rfl,hps,_,h⟩
  rw[Idb]at h
  simp (disch:=omega) only [Ji,dF]
  exact H3b (by rw[← h];rfl)
 ·rintro j s hj ⟨ps,rfl,hps,hq,h⟩ next
  simp (disch:=omega) only [Ji,dT]
  refine Hbb (by simp only[Vd,Vj];omega) ?_
  have h9:=Iwa l (n:Int) reps (0,[]) hl (by omega) r2 ps (by omega) hq reps.toNat [] (by simp)
  rw[hps]at h9
  refine H4b h9 ?_
  rintro x rfl
  simp (disch:=omega) only [w64]
  refine next _ ⟨ps++[Iua l reps ps reps.toNat []],rfl,by rw[Ve,hps];rfl,λ q hq'=>?_,?_⟩
  ·rcases Vq.1 hq' with h'|h'
   ·exact hq q h'
   ·rw[Vu.1 h',Iva,Vj];omega
  ·rw[show n-j=(n-(j+1))+1 by omega]at h
   exact h

def Oda:∀ (p q:List Int),p.Nodup→(∀ x∈p,x∈q)→p.length≤q.length
 |[],_,_,_=>Vo _
 |x::p,q,h,hs=>by
  obtain⟨h1,h2⟩:=Yu.1 h
  have hx:=hs x Yb
  have hlen:(q.erase x).length=q.length-1:=Isb hx
  have hpos:=Igb hx
  have:=Oda p (q.erase x) h2 (λ y hy=>(Jhb (λ c=>by subst c;exact h1 hy)).2 (hs y (Vh _ hy)))
  rw[Vd]
  omega
def Ixa {r:Rng} {l:List Dev} (h:Il r l=true):r.1≤(l.length:Int):=by
 obtain⟨_,_,h3,h4⟩:=B1.1 h
 obtain⟨p,hp⟩:=Jcb (show 0<r.2.length by omega)
 obtain⟨q1,q2,q3⟩:=h4 p hp
 have:=Oda p (l.map (·.1)) q1 (λ x hx=>by
  obtain⟨d,hd⟩:=q3 x hx
  obtain⟨hm,he⟩:=Xy hd
  exact Zc.2 ⟨d,hm,he⟩)
 rw[Wf]at this
 omega
def Lja {r:Rng} {l:List Dev} (h:Il r l=true):Tot (λ k=>Fy k r l) (λ b=>b=true):=by
 have hrp:=Ixa h
 obtain⟨h1,h2,h3,h4⟩:=B1.1 h
 obtain⟨_,_,_,h12⟩:=Cu.1 h1
 unfold Fy
 refine Hfb (Fsa l (by omega)) ?_
 refine H5b (by rw[h1];rfl) ?_
 simp only[Ru,Vn]
 refine H5b (by rw[Cf.2 h2];rfl) (H8b (by omega) (H5b (by rw[Cf.2 (by omega)];rfl) ?_))
 refine H4b (Q:=λ b=>b = .inr ()) ?_ (by rintro b rfl;exact H3b rfl)
 refine Hcb (L:=λ k i (_:Unit)=>Ge k r.2 (r.2.length:Int) i r) (Q:=λ b=>b = .inr ()) r.2.length (λ _ _=>True) ?_ ?_ 0 () (Vo _) trivial
 ·intro _ _
  simp (disch:=omega) only [Ge,dF]
  exact H3b rfl
 ·intro j _ hj _ next
  obtain⟨q1,q2,_⟩:=h4 _ (A3 (d:=[]) hj)
  simp (disch:=omega) only [Ge,dT,Va,w64]
  refine H5b (by rw[q2];simp) (Hfb (Ita _ (by omega)) ?_)
  exact H5b (by rw[decide_eq_true q1];rfl) (next () trivial)
def Lka {r:Rng} {l:List Dev} (h:Il r l=true):Tot (λ k=>La k r l) (λ b=>b=true):=by
 have hrp:=Ixa h
 obtain⟨h1,h2,h3,h4⟩:=B1.1 h
 obtain⟨_,_,_,h12⟩:=Cu.1 h1
 unfold La
 refine Hfb (Fta l (by omega)) ?_
 refine H5b (by rw[h1];rfl) ?_
 simp only[Pr,Vn]
 refine H5b (by rw[Cf.2 h2];rfl) (H8b (by omega) (H5b (by rw[Cf.2 (by omega)];rfl) ?_))
 refine H4b (Q:=λ b=>b = .inr ()) ?_ (by rintro b rfl;exact H3b rfl)
 refine Hcb (L:=λ k i (_:Unit)=>Kt k i r) (Q:=λ b=>b = .inr ()) r.2.length (λ _ _=>True) ?_ ?_ 0 () (Vo _) trivial
 ·intro _ _
  simp (disch:=omega) only [Kt,dF]
  exact H3b rfl
 ·intro j _ hj _ next
  obtain⟨q1,q2,_⟩:=h4 _ (A3 (d:=[]) hj)
  simp (disch:=omega) only [Kt,dT,Va,w64]
  refine Hfb (Yfa _ _ (by omega)) ?_
  exact H5b (by rw[decide_eq_true q1,q2];simp) (next () trivial)
def Yka (p:List Int) (l:List Dev) (h:∀ id∈p,∃ d,Li l id=some d) (hp:p.length≤5000000) (hl:l.length≤5000000):Tot (λ k=>Hm k p l) (λ x=>x = -1):=by
 unfold Hm
 refine H4b (Q:=λ x=>x = .inr ()) ?_ (by rintro x rfl;exact H3b rfl)
 refine Hcb (L:=λ k i (_:Unit)=>Ic k l i p) (Q:=λ x=>x = .inr ()) p.length (λ _ _=>True) ?_ ?_ 0 () (Vo _) trivial
 ·intro _ _
  simp (disch:=omega) only [Ic,dF]
  exact H3b rfl
 ·intro j _ hj _ next
  simp (disch:=omega) only [Ic,dT,Va,w64]
  refine Hfb (Wx l _ (by omega)) ?_
  obtain⟨d,hd⟩:=h _ (A3 (d:=0) hj)
  exact H5b (by rw[hd];rfl) (next () trivial)
def Yla (p:List Int) (l:List Dev) (h:∀ id∈p,∃ d,Li l id=some d) (hp:p.length≤5000000) (hl:l.length≤5000000):Tot (λ k=>L9 k p l) (λ x=>x = -1):=by
 unfold L9
 refine H4b (Q:=λ x=>x = .inr ()) ?_ (by rintro x rfl;exact H3b rfl)
 refine Hcb (L:=λ k i (_:Unit)=>Ki k l p (p.length:Int) i) (Q:=λ x=>x = .inr ()) p.length (λ _ _=>True) ?_ ?_ 0 () (Vo _) trivial
 ·intro _ _
  simp (disch:=omega) only [Ki,dF]
  exact H3b rfl
 ·intro j _ hj _ next
  simp (disch:=omega) only [Ki,dT,Va,w64]
  refine Hfb (Su l _ (by omega)) ?_
  obtain⟨d,hd⟩:=h _ (A3 (d:=0) hj)
  exact H5b (by rw[hd];rfl) (next () trivial)
def hv (r:Rng) (l:List Dev) (b id:Int):Bool:=match Li l b with
 |none=>false
 |some x=>match Li l id with
  |none=>false
  |some d=>(d.2.1==x.2.1)&&decide (Jm r id-Jm r b≥2)
def Fxa (r:Rng) (l:List Dev) (p:List Int) (b:Int):Option Nat:=p.findIdx? (hv r l b)
def oI:Option Nat→Int
 |some i=>(i:Int)
 |none => -1
def Z9 {f:Int→Bool} {p:List Int} {j:Nat} (hj:j<p.length) (h:((p.drop j).findIdx? f).map (· + j)=p.findIdx? f):
  (f (p.getD j 0)=true→p.findIdx? f=some j)∧(f (p.getD j 0)=false→((p.drop (j+1)).findIdx? f).map (· + (j+1))=p.findIdx? f):=by
 rw[Ad (d:=0) hj,Izb]at h
 constructor
 ·intro c
  rw[if_pos c]at h
  rw[← h,Iub,Wl]
 ·intro c
  rw[if_neg (by rw[c];simp)]at h
  rw[← h,Option.map_map]
  congr 1
  funext x
  show x+(j+1)=x+1+j
  omega
def Uka (r:Rng) (p:List Int) (l:List Dev) (b:Int) (hr:RBd r) (hp:p.length≤2000000) (hl:l.length≤2000000):Tot (λ k=>G0 k r p l b) (λ x=>x=oI (Fxa r l p b)):=by
 unfold G0
 refine Hfb (Wx l b (by omega)) ?_
 refine H4b (Q:=λ x=>x=match Fxa r l p b with|some i => .inl (i:Int)|none => .inr ()) ?_ (by rintro x rfl;cases Fxa r l p b<;>exact H3b rfl)
 cases hb:Li l b with
 |none=>
  have hn:Fxa r l p b=none:=by unfold Fxa;rw[Jyb];intro x _;unfold hv;rw[hb]
  rw[hn]
  refine Tot.succ ?_
  by_cases hp0:(0:Int)<(p.length:Int)
  ·simp (disch:=omega) only [Cl,dT,F4b,cond_false]
   exact H3b rfl
  ·simp (disch:=omega) only [Cl,dF]
   exact H3b rfl
 |some x=>
  have hvI:∀ id,hv r l b id=match Li l id with|none=>false|some d=>(d.2.1==x.2.1)&&decide (Jm r id-Jm r b≥2):=λ id=>by unfold hv;rw[hb]
  refine Hcb (L:=λ k i (_:Unit)=>Cl k l b true i r p x) (Q:=λ x=>x=match Fxa r l p b with|some i => .inl (i:Int)|none => .inr ()) p.length (λ j _=>((p.drop j).findIdx? (hv r l b)).map (· + j)=p.findIdx? (hv r l b)) ?_ ?_ 0 () (Vo _) (by simp)
  ·intro _ h
   rw[Vz]at h
   have hn:Fxa r l p b=none:=h.symm
   rw[hn]
   simp (disch:=omega) only [Cl,dF]
   exact H3b rfl
  ·intro j _ hj h next
   obtain⟨k1,k2⟩:=Z9 hj h
   simp (disch:=omega) only [Cl,dT,Va,w64,cond_true]
   generalize p.getD j 0=id at *
   refine Hfb (Wx l id (by omega)) ?_
   rw[hvI]at k1 k2
   cases hd:Li l id with
   |none=>
    rw[hd]at k2
    exact H5b rfl (next () (k2 rfl))
   |some d=>
    rw[hd]at k1 k2
    obtain⟨_,e⟩:=Xy hd
    refine H6b rfl ?_
    cases hz:d.2.1==x.2.1
    ·exact H5b hz (next () (k2 (by simp only[hz,Zt])))
    refine H6b hz (Hfb (Ata r d.1 hr) ?_)
    refine Hfb (Ata r b hr) ?_
    have l1:=P5 hr d.1
    have l2:=P5 hr b
    simp (disch:=omega) only [w64]
    refine Hab (λ hc=>H3b ?_) (λ hc=>next () (k2 ?_))
    ·have hn:Fxa r l p b=some j:=k1 (by simp only[hz,Wd];rw[← e];exact decide_eq_true hc)
     rw[hn]
    ·simp only[hz,Wd];rw[← e];exact decide_eq_false hc
def Ula (r:Rng) (p:List Int) (l:List Dev) (hr:RBd r) (hp:p.length≤2000000) (hl:Mr l=true) (hq:∀ id∈p,∃ d,Li l id=some d):Tot (λ k=>Jo k r p l) (λ x=>x=match Fxa r l p (Xz r p l) with|some i=>((i:Int),Xz r p l)|none=>(-1,-1)):=by
 obtain⟨_,_,_,h12⟩:=Cu.1 hl
 unfold Jo
 refine Hfb (Yia r p l hr hp hl) ?_
 generalize Xz r p l=b
 refine Hfb (Su l b (by omega)) ?_
 refine H4b (Q:=λ x=>x=match Fxa r l p b with|some i => .inl ((i:Int),b)|none => .inr ()) ?_ (by rintro x rfl;cases Fxa r l p b<;>exact H3b rfl)
 refine Hcb (L:=λ k i (_:Unit)=>Hc k l b (F4b (Li l b)).2 p (p.length:Int) i r (F4b (Li l b)).1) (Q:=λ x=>x=match Fxa r l p b with|some i => .inl ((i:Int),b)|none => .inr ()) p.length (λ j _=>((p.drop j).findIdx? (hv r l b)).map (· + j)=p.findIdx? (hv r l b)) ?_ ?_ 0 () (Vo _) (by simp)
 ·intro _ h
  rw[Vz]at h
  have hn:Fxa r l p b=none:=h.symm
  rw[hn]
  simp (disch:=omega) only [Hc,dF]
  exact H3b rfl
 ·intro j _ hj h next
  obtain⟨k1,k2⟩:=Z9 hj h
  have hid:=hq _ (A3 (d:=0) hj)
  simp (disch:=omega) only [Hc,dT,Va,w64]
  generalize p.getD j 0=id at *
  refine Hfb (Su l id (by omega)) ?_
  obtain⟨d,hd⟩:=hid
  cases hb:Li l b with
  |none=>
   have hnv:hv r l b id=false:=by unfold hv;rw[hb]
   have:=next () (k2 hnv)
   rw[hb]at this
   exact H5b rfl this
  |some x=>
   have hvI:hv r l b id=((d.2.1==x.2.1)&&decide (Jm r id-Jm r b≥2)):=by unfold hv;rw[hb,hd]
   rw[hvI]at k1 k2
   have next':=next ()
   rw[hb]at next'
   refine H6b rfl ?_
   rw[hd]
   cases hz:d.2.1==x.2.1
   ·exact H5b hz (next' (k2 (by simp only[hz,Zt])))
   refine H6b hz (Hfb (Fwa r id hr) ?_)
   refine Hfb (Fwa r b hr) ?_
   have l1:=P5 hr id
   have l2:=P5 hr b
   simp (disch:=omega) only [w64]
   refine Hab (λ hc=>H3b ?_) (λ hc=>next' (k2 ?_))
   ·have hn:Fxa r l p b=some j:=k1 (by simp only[hz,Wd];exact decide_eq_true hc)
    rw[hn]
   ·simp only[hz,Wd];exact decide_eq_false hc
def rb1 (l:List Dev) (s:Int×Rng) (j:Nat):Int×Rng:=match Fxa s.2 l (s.2.2.getD j []) (Xz s.2 (s.2.2.getD j []) l) with
 |none=>s
 |some i=>(s.1+1,(s.2.1,s.2.2.set j ((s.2.2.getD j []).set i (Xz s.2 (s.2.2.getD j []) l))))
def rbs (l:List Dev) (r:Rng) (n:Nat):Int×Rng:=(List.range n).foldl (rb1 l) (0,r)
def Fya (r:Rng) (l:List Dev):Rng×Int:=((rbs l r r.2.length).2,(rbs l r r.2.length).1)
def Fza (l:List Dev) (r:Rng) (n:Nat):rbs l r (n+1)=rb1 l (rbs l r n) n:=by
 unfold rbs
 rw[Job,Ibb]
 rfl
def Sx {r:Rng} {l:List Dev} {p:List Int} {i:Nat} (hl:Mr l=true) (h:Fxa r l p (Xz r p l)=some i):i<p.length∧Xz r p l∉p∧0≤Xz r p l∧∃ d,Li l (Xz r p l)=some d:=by
 obtain⟨h1,h2,_⟩:=I3b.1 h
 refine⟨h1,?_⟩
 unfold hv at h2
 cases hb:Li l (Xz r p l) with
 |none=>rw[hb]at h2;cases h2
 |some d=>
  obtain⟨hd,he⟩:=Xy hb
  obtain⟨⟨i0,_⟩,_⟩:=Nw.1 ((Cu.1 hl).2.1 _ hd)
  refine⟨?_,by omega,d,rfl⟩
  rcases Q5a r p l with⟨_,e⟩|⟨b,_,e,_,hn⟩
  ·omega
  ·rw[e];exact hn
def Uma {p:List Int} {b:Int} (h:p.Nodup) (hb:b∉p) (i:Nat):(p.set i b).Nodup:=by
 induction p generalizing i with
 |nil=>exact h
 |cons x p ih=>
  obtain⟨h1,h2⟩:=Yu.1 h
  cases i with
  |zero=>exact Yu.2 ⟨λ c=>hb (Vh _ c),h2⟩
  |succ i=>
   refine Yu.2 ⟨λ c=>?_,ih h2 (λ c=>hb (Vh _ c)) i⟩
   rcases Yk c with c|c
   ·exact h1 c
   ·exact hb (c ▸ Yb)
def F5b {l:List Dev} {s:Int×Rng} {j:Nat} (hj:j<s.2.2.length) (h:Il s.2 l=true):Il (rb1 l s j).2 l=true∧(rb1 l s j).2.1=s.2.1∧(rb1 l s j).2.2.length=s.2.2.length∧s.1≤(rb1 l s j).1∧(rb1 l s j).1≤s.1+1:=by
 unfold rb1
 obtain⟨h1,h2,h3,h4⟩:=B1.1 h
 cases hx:Fxa s.2 l (s.2.2.getD j []) (Xz s.2 (s.2.2.getD j []) l) with
 |none=>exact⟨h,rfl,rfl,by dsimp only;omega,by dsimp only;omega⟩
 |some i=>
  obtain⟨b1,b2,_,b3⟩:=Sx h1 hx
  obtain⟨q1,q2,q3⟩:=h4 _ (A3 (d:=[]) hj)
  refine⟨B1.2 ⟨h1,h2,by dsimp only;rw[List.length_set];exact h3,λ p hp=>?_⟩,rfl,by dsimp only;rw[List.length_set],by dsimp only;omega,by dsimp only;omega⟩
  rcases Yk hp with hp|hp
  ·exact h4 p hp
  ·subst hp
   refine⟨Uma q1 b2 i,by rw[Wb];exact q2,λ id hid=>?_⟩
   rcases Yk hid with hid|hid
   ·exact q3 id hid
   ·rw[hid];exact b3
def Iya {l:List Dev} {r:Rng} (h:Il r l=true):∀ (n:Nat),n≤r.2.length→Il (rbs l r n).2 l=true∧(rbs l r n).2.1=r.1∧(rbs l r n).2.2.length=r.2.length∧0≤(rbs l r n).1∧(rbs l r n).1≤n
 |0,_=>⟨h,rfl,rfl,Zr _,Zr _⟩
 |n+1,hn=>by
  obtain⟨h1,h2,h3,h4,h5⟩:=Iya h n (by omega)
  obtain⟨g1,g2,g3,g4,g5⟩:=F5b (j:=n) (by omega) h1
  rw[Fza]
  exact⟨g1,by rw[g2,h2],by rw[g3,h3],by omega,by omega⟩
def Aua {r:Rng} {l:List Dev} (h:Il r l=true):Il (Fya r l).1 l=true∧(Fya r l).1.1=r.1∧(Fya r l).1.2.length=r.2.length∧0≤(Fya r l).2:=by
 obtain⟨h1,h2,h3,h4,_⟩:=Iya h r.2.length (Vv _)
 exact⟨h1,h2,h3,h4⟩
def Una {r:Rng} {l:List Dev} (h:Il r l=true):Tot (λ k=>D0 k r l) (λ x=>x=Fya r l):=by
 obtain⟨_,_,h64,_⟩:=B1.1 h
 unfold D0
 refine H4b (Z8 r (Mn h)) ?_
 rintro x rfl
 refine H4b (Lka h) ?_
 rintro b rfl
 refine H5b rfl (H4b (Q:=λ y=>y=((rbs l x x.2.length).1,((0:Int),([]:List (List Int))),(rbs l x x.2.length).2)) ?_ (by rintro y rfl;exact H3b rfl))
 refine Hcb (L:=λ k i (s:Int×Rng)=>Bd k l s.1 i (0,[]) s.2) (Q:=λ y=>y=((rbs l x x.2.length).1,((0:Int),([]:List (List Int))),(rbs l x x.2.length).2)) x.2.length (λ j s=>s=rbs l x j) ?_ ?_ 0 (0,x) (Vo _) rfl
 ·rintro s rfl
  obtain⟨_,_,g3,_⟩:=Iya h x.2.length (Vv _)
  simp (disch:=omega) only [Bd,dF]
  exact H3b rfl
 ·rintro j s hj rfl next
  obtain⟨g1,g2,g3,g4,g5⟩:=Iya h j (by omega)
  rw[Fza]at next
  generalize rbs l x j=s at *
  obtain⟨c,r⟩:=s
  dsimp only at g1 g2 g3 g4 g5
  obtain⟨q0,_,_,q4⟩:=B1.1 g1
  obtain⟨p1,p2,p3⟩:=q4 _ (A3 (d:=[]) (show j<r.2.length by omega))
  have hx2:=(B1.1 h).2.1
  have l12:=(Cu.1 q0).2.2.2
  unfold rb1 at next
  dsimp only at next
  obtain⟨p,hp⟩:∃ p,r.2.getD j []=p:=⟨_,rfl⟩
  rw[hp]at p1 p2 p3
  simp only[hp]at next
  simp (disch:=omega) only [Bd,dT,Va,w64,hp]
  refine H4b (Yka p l p3 (by omega) (by omega)) ?_
  rintro x rfl
  refine H8b (by omega) (H4b (Oaa r p l (Mn g1) (by omega) q0) ?_)
  rintro b rfl
  refine H4b (Uka r p l _ (Mn g1) (by omega) (by omega)) ?_
  rintro y rfl
  cases hi:Fxa r l p (Xz r p l) with
  |none=>
   rw[hi]at next
   exact H8b (by show ¬ ((-1:Int)≥0);omega) (next _ rfl)
  |some i=>
   obtain⟨b1,b2,b3,_⟩:=Sx q0 hi
   rw[hi]at next
   have e:oI (some i)=(i:Int):=rfl
   simp (disch:=omega) only [e,dT,Va]
   exact next _ rfl
def Uoa {r:Rng} {l:List Dev} (h:Il r l=true):Tot (λ k=>Cw k r l) (λ x=>x=Fya r l):=by
 obtain⟨_,_,h64,_⟩:=B1.1 h
 unfold Cw
 refine H4b (Z7 r (Mn h)) ?_
 rintro x rfl
 refine H4b (Lja h) ?_
 rintro b rfl
 refine H5b rfl (H4b (Q:=λ y=>y=((rbs l x x.2.length).1,((0:Int),([]:List (List Int))),(rbs l x x.2.length).2)) ?_ (by rintro y rfl;exact H3b rfl))
 refine Hcb (L:=λ k i (s:Int×Rng)=>Bc k l s.1 (x.2.length:Int) i (0,[]) s.2) (Q:=λ y=>y=((rbs l x x.2.length).1,((0:Int),([]:List (List Int))),(rbs l x x.2.length).2)) x.2.length (λ j s=>s=rbs l x j) ?_ ?_ 0 (0,x) (Vo _) rfl
 ·rintro s rfl
  simp (disch:=omega) only [Bc,dF]
  exact H3b rfl
 ·rintro j s hj rfl next
  obtain⟨g1,g2,g3,g4,g5⟩:=Iya h j (by omega)
  rw[Fza]at next
  generalize rbs l x j=s at *
  obtain⟨c,r⟩:=s
  dsimp only at g1 g2 g3 g4 g5
  obtain⟨q0,_,_,q4⟩:=B1.1 g1
  obtain⟨p1,p2,p3⟩:=q4 _ (A3 (d:=[]) (show j<r.2.length by omega))
  have hx2:=(B1.1 h).2.1
  have l12:=(Cu.1 q0).2.2.2
  unfold rb1 at next
  dsimp only at next
  obtain⟨p,hp⟩:∃ p,r.2.getD j []=p:=⟨_,rfl⟩
  rw[hp]at p1 p2 p3
  simp only[hp]at next
  simp (disch:=omega) only [Bc,dT,Va,w64,hp]
  refine H4b (Yla p l p3 (by omega) (by omega)) ?_
  rintro x rfl
  refine H8b (by omega) (H4b (Ula r p l (Mn g1) (by omega) q0 p3) ?_)
  rintro y rfl
  cases hi:Fxa r l p (Xz r p l) with
  |none=>
   rw[hi]at next
   exact H8b (by show ¬ ((-1:Int)≥0);omega) (next _ rfl)
  |some i=>
   obtain⟨b1,b2,b3,_⟩:=Sx q0 hi
   rw[hi]at next
   simp (disch:=omega) only [dT,Va]
   exact next _ rfl
def wgt (l:List Dev) (i:Nat) (w:Int):List Dev:=l.set i ((l.getD i Oc).1,(l.getD i Oc).2.1,w)
def G0a (l:List Dev) (i:Nat) (w:Int):(wgt l i w).map (·.1)=l.map (·.1):=by
 unfold wgt
 rw[List.map_set]
 by_cases hi:i<l.length
 ·have:(l.getD i Oc).1=(l.map (·.1)).getD i 0:=by
   simp only[Vc,Hib,Vk hi,Iub,Yn]
  rw[this,Vc,Vk (by simpa using hi),Yn]
  exact Kfb _
 ·rw[List.set_eq_of_length_le (by simpa using hi)]
def Sy {l:List Dev} {id:Int}:(∃ d,Li l id=some d)↔id∈l.map (·.1):=by
 unfold Li
 rw[← Zn,List.find?_isSome,Zc]
 exact⟨λ ⟨x,h,e⟩=>⟨x,h,eq_of_beq e⟩,λ ⟨x,h,e⟩=>⟨x,h,beq_iff_eq.2 e⟩⟩
def F6b {l:List Dev} {i:Nat} {w:Int} (h:Mr l=true) (hi:i<l.length) (h1:1≤w) (h2:w≤1000):Mr (wgt l i w)=true:=by
 obtain⟨g1,g2,g3,g4⟩:=Cu.1 h
 refine Cu.2 ⟨?_,λ d hd=>?_,?_⟩
 ·have e:(l.map (·.1)).Pairwise (· < ·):=Hqb.2 g1
  rw[← G0a l i w]at e
  exact Hqb.1 e
 ·rcases Yk hd with hd|hd
  ·exact g2 d hd
  ·obtain⟨e1,e2,_⟩:=Nw.1 (g2 _ (A3 (d:=Oc) hi))
   subst hd
   exact Nw.2 ⟨e1,e2,h1,h2⟩
 ·unfold wgt
  rw[Wb]
  exact⟨g3,g4⟩
def Wy {r:Rng} {l:List Dev} {i:Nat} {w:Int} (h:Il r l=true) (hi:i<l.length) (h1:1≤w) (h2:w≤1000):Il r (wgt l i w)=true:=by
 obtain⟨g1,g2,g3,g4⟩:=B1.1 h
 refine B1.2 ⟨F6b g1 hi h1 h2,g2,g3,λ p hp=>?_⟩
 obtain⟨q1,q2,q3⟩:=g4 p hp
 exact⟨q1,q2,λ id hid=>by rw[Sy,G0a,← Sy];exact q3 id hid⟩

def Upa (x:BitVec 32):(cst x).getLsbD 31=x.getLsbD 0:=by
 have h0:(x >>> 1).getLsbD 31=false:=by
  rw[Jpb]
  exact BitVec.getLsbD_of_ge _ _ (by decide)
 unfold cst
 cases h:x.getLsbD 0 with
 |true=>
  rw[if_pos rfl,BitVec.getLsbD_xor,h0]
  decide
 |false=>
  rw[if_neg (by simp),h0]
def Y0 {n:Nat} {x y c:BitVec n} (h:x ^^^ c=y ^^^ c):x=y:=by
 have:=congrArg (λ z=>z ^^^ c) h
 simpa[BitVec.xor_assoc] using this
def Cpb {x y:BitVec 32} (h:cst x=cst y):x=y:=by
 have h0:x.getLsbD 0=y.getLsbD 0:=by rw[← Upa,← Upa,h]
 have h1:x >>> 1=y >>> 1:=by
  unfold cst at h
  rw[h0]at h
  cases hb:y.getLsbD 0 with
  |true=>rw[hb,if_pos rfl,if_pos rfl]at h;exact Y0 h
  |false=>rw[hb,if_neg (by simp),if_neg (by simp)]at h;exact h
 refine BitVec.eq_of_getLsbD_eq λ i hi=>?_
 cases i with
 |zero=>exact h0
 |succ i=>
  have:=congrArg (λ z=>z.getLsbD i) h1
  simpa[Jpb,Zza] using this
def Cga:∀ (n:Nat) {x y:BitVec 32},D8a n x=D8a n y→x=y
 |0,_,_,h=>h
 |n+1,_,_,h=>Cpb (Cga n h)
def Cqb {x y:BitVec 32} {b:Int} (h:cby x b=cby y b):x=y:=Y0 (Cga 8 h)
def Yma {x:BitVec 32} {a b:Int} (ha:0≤a∧a≤255) (hb:0≤b∧b≤255) (h:cby x a=cby x b):a=b:=by
 have h1:x ^^^ ofInt 32 a=x ^^^ ofInt 32 b:=Cga 8 h
 rw[Kbb,Kbb x]at h1
 have h2:=Y0 h1
 rw[O2a ha,O2a hb,h2]
def Oea:∀ (l:List Int) {x y:BitVec 32},l.foldl cby x=l.foldl cby y→x=y
 |[],_,_,h=>h
 |_::l,_,_,h=>Cqb (Oea l h)
def Ajb (l:List Int):0≤crc l∧crc l≤4294967295:=by
 unfold crc
 have:=(Dnb l).isLt
 omega
def Crb {l:List Int} {i:Nat} {y:Int} (hi:i<l.length) (hy:0≤y∧y≤255) (hb:Ao l) (hne:y≠l.getD i 0):crc (l.set i y)≠crc l:=by
 intro h
 have h1:Dnb (l.set i y)=Dnb l:=Kcb (by unfold crc at h;omega)
 unfold Dnb at h1
 have h2:=BitVec.not_inj.1 h1
 have e1:l.set i y=l.take i++y::l.drop (i+1):=by rw[I1b,if_pos hi]
 have e2:l=l.take i++l.getD i 0::l.drop (i+1):=by
  conv => { lhs;rw[← Wq i l] }
  rw[Ad (d:=0) hi]
 rw[e1,Ibb,Yv]at h2
 rw[e2]at h2
 rw[Ibb,Yv]at h2
 have e3:(l.take i++l.getD i 0::l.drop (i+1)).take i=l.take i:=by rw[← e2]
 have e4:(l.take i++l.getD i 0::l.drop (i+1)).drop (i+1)=l.drop (i+1):=by rw[← e2]
 rw[e3,e4]at h2
 exact hne (Yma hy (hb _ (A3 hi)) (Oea _ h2))
def F7b {a b:Int} (ha:0≤a∧a≤4294967295) (hb:0≤b∧b≤4294967295) (h:c4 a=c4 b):a=b:=by
 have e:∀ c:Int,0≤c→c4 c=[c/16777216 % 256,c/65536 % 256,c/256 % 256,c % 256]:=λ c hc=>by
  unfold c4
  rw[show (2:Int) ^ (min (toNat 24) (IntKind.bits .i64))=16777216 from by decide,show (2:Int) ^ (min (toNat 16) (IntKind.bits .i64))=65536 from by decide,show (2:Int) ^ (min (toNat 8) (IntKind.bits .i64))=256 from by decide,
   Hpb _ (by omega),Hpb _ (by omega),Hpb _ (by omega),Iyb,Iyb,Iyb,Iyb]
 rw[e a ha.1,e b hb.1]at h
 simp only[Yl,and_true]at h
 omega
def Q7a {l m:List Int} {j:Nat} (h:j<l.length):(l++m).getD j 0=l.getD j 0:=by rw[Vc,Vc,Yd h]
def Q8a {l m:List Int} {j:Nat} (h:l.length≤j):(l++m).getD j 0=m.getD (j-l.length) 0:=by rw[Vc,Vc,Yf h]
def Yna {f:Fil} (hf:F8 f=true) {n:Nat} (hn:n<8*(Mv f).length):On (O3 (Mv f) n)=none:=by
 cases hg:On (O3 (Mv f) n) with
 |none=>rfl
 |some g=>
  exfalso
  obtain⟨g1,_,g3⟩:=L9a hg
  have hpb:=Th f
  have hj:n/8<(Mv f).length:=by omega
  have hy:=O6a ((Mv f).getD (n/8) 0) (n % 8)
  have hne:=Y9a (hpb _ (A3 (d:=0) hj)) (K2b n (show 0<8 by omega))
  unfold O3 at g3
  generalize Aaa ((Mv f).getD (n/8) 0) (n % 8)=y at g3 hy hne
  generalize n/8=j at g3 hj hne
  have ef:Mv f=Qd f++c4 (crc (Qd f)):=by unfold Mv;rw[hf];rfl
  have eg:Mv g=Qd g++c4 (crc (Qd g)):=by unfold Mv;rw[g1];rfl
  have l4:∀ c,(c4 c).length=4:=λ c=>rfl
  rw[eg]at g3
  rw[ef]at g3 hj hne
  have hlen:(Qd g).length=(Qd f).length:=by
   have:=congrArg length g3
   rw[Wb,Ve,Ve,l4,l4]at this
   omega
  by_cases hjb:j<(Qd f).length
  ·rw[List.set_append_left _ _ hjb]at g3
   obtain⟨a1,a2⟩:=List.append_inj g3 (by rw[Wb];exact hlen)
   rw[Q7a hjb]at hne
   have:=F7b (Ajb _) (Ajb _) a2
   rw[a1]at this
   exact Crb hjb hy (Rk f) hne this
  ·rw[Keb _ _ (by omega)]at g3
   obtain⟨a1,a2⟩:=List.append_inj g3 hlen
   rw[a1]at a2
   rw[Q8a (by omega)]at hne
   rw[Ve,l4]at hj
   have:(c4 (crc (Qd f))).getD (j-(Qd f).length) 0=y:=by
    rw[a2,Vc,J5b (by rw[l4];omega),Yn]
   exact hne this.symm

def Rn (l:List Nmd) (ns:List ByteArray):List ByteArray:=l.foldl (λ ns x=>wt ns x.1) ns
def nms (d:Dsk):List ByteArray:=Rn (d.1++d.2) []
def pk1:Option Nmd→List Nmd
 |some x=>[x]
 |none=>[]
def Uqa (o:Option Nmd):(pk1 o).length≤1:=by cases o<;>simp[pk1]
def S4 (kp:List Bool) (a b:List Nmd):List ByteArray→Nat→List Nmd
 |[],_=>[]
 |s::ns,i=>pk1 (pk (bif kp.getD i false then a else b) s)++S4 kp a b ns (i+1)
def Ura (kp:List Bool) (a b:List Nmd) (i:Nat):S4 kp a b [] i=[]:=rfl
def Ofa (kp:List Bool) (a b:List Nmd) (s:ByteArray) (ns:List ByteArray) (i:Nat):S4 kp a b (s::ns) i=pk1 (pk (bif kp.getD i false then a else b) s)++S4 kp a b ns (i+1):=rfl
def Ro (d:Dsk) (kp:List Bool):Dsk:=bif decide ((S4 kp d.1 d.2 (nms d) 0).length > 60) then d else (S4 kp d.1 d.2 (nms d) 0,S4 kp d.1 d.2 (nms d) 0)
def G1a:∀ (l:List Nmd) (ns:List ByteArray),TS ns→TS (Rn l ns)
 |[],_,h=>h
 |_::l,_,h=>G1a l _ (Qu h)
def Iza:∀ (l:List Nmd) (ns:List ByteArray) (t:ByteArray),t∈Rn l ns↔(∃ x∈l,x.1=t)∨t∈ns
 |[],ns,t=>by simp[Rn]
 |x::l,ns,t=>by
  show t∈Rn l (wt ns x.1)↔_
  rw[Iza l,Ifa]
  simp only[Vl,exists_eq_or_imp]
  constructor
  ·rintro (h|rfl|h)
   ·exact .inl (.inr h)
   ·exact .inl (.inl rfl)
   ·exact .inr h
  ·rintro ((h|h)|h)
   ·exact .inr (.inl h.symm)
   ·exact .inl h
   ·exact .inr (.inr h)
def Sz:∀ (l:List Nmd) (ns:List ByteArray),(Rn l ns).length≤ns.length+l.length
 |[],_=>by simp[Rn]
 |x::l,ns=>by
  have h1:=Sz l (wt ns x.1)
  have h2:=O1a (l:=ns) (s:=x.1)
  show (Rn l (wt ns x.1)).length≤_
  rw[Vd]
  omega
def Akb (d:Dsk):TS (nms d):=G1a _ _ List.Pairwise.nil
def Csb {d:Dsk} {t:ByteArray}:t∈nms d↔(gt d.1 t).isSome=true∨(gt d.2 t).isSome=true:=by
 have h:∀ l:List Nmd,(gt l t).isSome=true↔∃ x∈l,x.1=t:=λ l=>by
  cases hg:gt l t with
  |none=>
   constructor
   ·intro h;cases h
   ·rintro⟨x,hx,e⟩;exact absurd e (Ox.1 hg x hx)
  |some b=>simp only[Option.isSome_some,true_iff];exact⟨_,Q5 hg,rfl⟩
 unfold nms
 rw[Iza,h,h]
 simp only[Vq,Hlb,or_false]
 constructor
 ·rintro⟨x,h1|h1,h2⟩
  ·exact .inl ⟨x,h1,h2⟩
  ·exact .inr ⟨x,h1,h2⟩
 ·rintro (⟨x,h1,h2⟩|⟨x,h1,h2⟩)
  ·exact⟨x,.inl h1,h2⟩
  ·exact⟨x,.inr h1,h2⟩
def Ctb (l:List Nmd) (s:ByteArray):pk l s=(gt l s).map λ b=>(s,b):=by
 unfold pk gt
 cases h:fnd l s with
 |none=>rfl
 |some i=>rw[Iub,← (Oa h).2]
def Y1 (kp:List Bool) (a b:List Nmd):∀ (ns:List ByteArray) (i:Nat),((S4 kp a b ns i).map Prod.fst).Sublist ns
 |[],_=>List.Sublist.slnil
 |s::ns,i=>by
  unfold S4
  rw[Ctb]
  cases gt (bif kp.getD i false then a else b) s with
  |none=>exact(Y1 kp a b ns (i+1)).cons s
  |some c=>exact(Y1 kp a b ns (i+1)).cons_cons s
def Usa (kp:List Bool) (a b:List Nmd) (ns:List ByteArray) (i:Nat):(S4 kp a b ns i).length≤ns.length:=by
 have:=(Y1 kp a b ns i).length_le
 rwa [Wf]at this
def Q9a {kp:List Bool} {a b:List Nmd} {ns:List ByteArray} {i:Nat} (h:TS ns):Hh (S4 kp a b ns i):=by
 have:=J9b (Y1 kp a b ns i) h
 rwa [Hqb]at this
def Uta {kp:List Bool} {a b:List Nmd}:∀ {ns:List ByteArray} {i:Nat} {x:Nmd},x∈S4 kp a b ns i→gt a x.1=some x.2∨gt b x.1=some x.2
 |[],_,_,h=>by cases h
 |s::ns,i,x,h=>by
  unfold S4 at h
  rw[Ctb]at h
  rcases Vq.1 h with h|h
  ·cases hg:gt (bif kp.getD i false then a else b) s with
   |none=>rw[hg]at h;cases h
   |some c=>
    rw[hg]at h
    rw[Vu.1 h]
    cases hk:kp.getD i false with
    |true=>rw[hk]at hg;exact .inl hg
    |false=>rw[hk]at hg;exact .inr hg
  ·exact Uta h
def Alb {kp:List Bool} {a b:List Nmd} {t:ByteArray}:∀ {ns:List ByteArray} {i:Nat},TS ns→t∈ns→∃ j,i≤j∧gt (S4 kp a b ns i) t=gt (bif kp.getD j false then a else b) t
 |[],_,_,h=>by cases h
 |s::ns,i,hs,h=>by
  obtain⟨h1,h2⟩:=Wj.1 hs
  have hn:∀ j,gt (S4 kp a b ns j) s=none:=λ j=>Ox.2 λ x hx e=>by
   have:=h1 x.1 ((Y1 kp a b ns j).subset (Ys hx))
   rw[e,Lh]at this
   cases this
  unfold S4
  rw[Ctb]
  rcases Vl.1 h with rfl|h
  ·refine⟨i,Vv _,?_⟩
   cases hg:gt (bif kp.getD i false then a else b) t with
   |none=>exact hn _
   |some c=>
    show gt ((t,c)::S4 kp a b ns (i+1)) t=_
    rw[Laa,if_pos rfl]
  ·obtain⟨j,hj,e⟩:=Alb (kp:=kp) (a:=a) (b:=b) (i:=i+1) h2 h
   refine⟨j,by omega,?_⟩
   rw[← e]
   have hst:s≠t:=λ e=>by
    have:=h1 t h
    rw[e,Lh]at this
    cases this
   cases gt (bif kp.getD i false then a else b) s with
   |none=>rfl
   |some c=>
    show gt ((s,c)::S4 kp a b ns (i+1)) t=_
    rw[Laa,if_neg hst]
def Lla {d:Dsk} {kp:List Bool} (h:DG d):DG (Ro d kp):=by
 unfold Ro
 cases hc:decide ((S4 kp d.1 d.2 (nms d) 0).length > 60)
 case true=>exact h
 have hl:=of_decide_eq_false hc
 have n1:=(Am.1 (E8.1 h.1).1).2.1
 have n2:=(Am.1 (E8.1 h.1).2).2.1
 have q:Ka (S4 kp d.1 d.2 (nms d) 0)=true:=Am.2 ⟨Q9a (Akb d),λ x hx=>(Uta hx).elim (λ e=>n1 _ (Q5 e)) (λ e=>n2 _ (Q5 e)),by omega⟩
 have b:LB (S4 kp d.1 d.2 (nms d) 0):=λ x hx=>(Uta hx).elim (λ e=>h.2.1.gt e) (λ e=>h.2.2.gt e)
 exact⟨E8.2 ⟨q,q⟩,b,b⟩
def Uua {d:Dsk} {kp:List Bool} (t:ByteArray):Ro d kp=d∨((Ro d kp).2=(Ro d kp).1∧(gt (Ro d kp).1 t=gt d.1 t∨gt (Ro d kp).1 t=gt d.2 t)):=by
 unfold Ro
 cases hc:decide ((S4 kp d.1 d.2 (nms d) 0).length > 60)
 case true=>exact .inl rfl
 refine .inr ⟨rfl,?_⟩
 show gt (S4 kp d.1 d.2 (nms d) 0) t=_∨gt (S4 kp d.1 d.2 (nms d) 0) t=_
 by_cases ht:t∈nms d
 ·obtain⟨j,_,e⟩:=Alb (kp:=kp) (a:=d.1) (b:=d.2) (i:=0) (Akb d) ht
  rw[e]
  cases kp.getD j false with
  |true=>exact .inl rfl
  |false=>exact .inr rfl
 ·have h1:gt d.1 t=none:=by
   cases hg:gt d.1 t with
   |none=>rfl
   |some b=>exact absurd (Csb.2 (.inl (by rw[hg];rfl))) ht
  left
  rw[h1]
  exact Ox.2 λ x hx e=>ht (by rw[← e];exact(Y1 _ _ _ _ _).subset (Ys hx))
def G2a {R:Type} {L:Nat→List Nmd→Option R} {Q:R→Prop} (c:List Nmd) (s:ByteArray) (acc:List Nmd) (hc:c.length≤5000000) (ha:acc.length≤5000000) (next:Tot (λ k=>L k (acc++pk1 (pk c s))) Q):
  Tot (λ k=>(Hb k c s).bind λ r=>cond (decide (r≥0)) (cond (decide ((0:Int)≤r)) (cond (decide (r<(length c:Int))) (cond (Nat.ble ((length acc+length [getD c (toNat r) ((⟨#[]⟩:ByteArray),[])])*40) 140737488355328) (L k (acc++[getD c (toNat r) ((⟨#[]⟩:ByteArray),[])])) none) none) none) (L k acc)) Q:=by
 refine Hfb (Z2 c s (by omega)) ?_
 unfold pk at next
 unfold Cxa
 cases h:fnd c s with
 |none=>
  rw[h]at next
  simp only[pk1,Wn]at next
  exact H8b (by decide) next
 |some i=>
  rw[h]at next
  have:=(Oa h).1
  simp only[Va]
  exact H7b (by omega) (H7b (by omega) (H7b (by omega) (Hbb (by simp only[Vd,Vj];omega) next)))
def G3a {R:Type} {L:Nat→List Nmd→Option R} {Q:R→Prop} (c:List Nmd) (s:ByteArray) (acc:List Nmd) (hc:c.length≤5000000) (ha:acc.length≤5000000) (next:Tot (λ k=>L k (acc++pk1 (pk c s))) Q):
  Tot (λ k=>(Dw k c s).bind λ r=>cond (decide (r≥0)) (cond (decide ((0:Int)≤r)) (cond (decide (r<(length c:Int))) (cond (Nat.ble ((length acc+length [getD c (toNat r) ((⟨#[]⟩:ByteArray),[])])*40) 140737488355328) (L k (acc++[getD c (toNat r) ((⟨#[]⟩:ByteArray),[])])) none) none) none) (L k acc)) Q:=by
 refine Hfb (E8a c s (by omega)) ?_
 unfold pk at next
 unfold Cxa
 cases h:fnd c s with
 |none=>
  rw[h]at next
  simp only[pk1,Wn]at next
  exact H8b (by decide) next
 |some i=>
  rw[h]at next
  have:=(Oa h).1
  simp only[Va]
  exact H7b (by omega) (H7b (by omega) (H7b (by omega) (Hbb (by simp only[Vd,Vj];omega) next)))
def Uva (d:Dsk) (kp:List Bool) (hd:DG d) (hk:kp.length≤4000000000000):Tot (λ k=>Cn k d kp) (λ r=>r=Ro d kp):=by
 have hin:=Oi hd.1
 have g1:=(Am.1 (E8.1 hd.1).1).2.2
 have g2:=(Am.1 (E8.1 hd.1).2).2.2
 unfold Cn
 refine Hfb (Q3 d hin.1.1 hin.1.2) ?_
 rw[hd.1]
 refine H5b rfl (Hbb (by simp only[Vj];omega) ?_)
 rw[Vx]
 refine Hbb (by omega) ?_
 have hm:(d.1++d.2).length≤120:=by rw[Ve];omega
 have hn:(nms d).length≤120:=by have:=Sz (d.1++d.2) [];rw[Vj]at this;exact Zl this (by omega)
 refine H4b (Q:=λ r=>r=(kp,nms d,d.1,d.2,[],[])) ?_ ?_
 ·refine Hcb (L:=λ k i s=>Fk k kp s (d.1++d.2) ((d.1++d.2).length:Int) i d.1 d.2 [] []) (Q:=λ r=>r=(kp,nms d,d.1,d.2,[],[])) (d.1++d.2).length (λ j s=>Rn ((d.1++d.2).drop j) s=nms d∧s.length≤j) ?_ ?_ 0 [] (Vo _) ⟨rfl,Vv _⟩
  ·rintro s ⟨h,_⟩
   rw[Vz]at h
   simp (disch:=omega) only [Fk,dF]
   exact H3b (by rw[← h];rfl)
  ·rintro j s hj ⟨h,hs⟩ next
   rw[Ad (d:=C3) hj]at h
   simp (disch:=omega) only [Fk,dT,Va,w64]
   refine Hfb (Wt s _ (by omega)) ?_
   have:=O1a (l:=s) (s:=((d.1++d.2).getD j C3).1)
   exact next _ ⟨h,by have e:(d.1++d.2).getD j ((⟨#[]⟩:ByteArray),([]:List Int))=(d.1++d.2).getD j C3:=rfl;rw[e];omega⟩
 ·rintro r rfl
  refine H4b (Q:=λ r=>r=(S4 kp d.1 d.2 (nms d) 0,d.1,d.2,[],[])) ?_ ?_
  ·refine Hcb (L:=λ k i s=>As k kp s (nms d) ((nms d).length:Int) i d.1 d.2 [] []) (Q:=λ r=>r=(S4 kp d.1 d.2 (nms d) 0,d.1,d.2,[],[])) (nms d).length (λ j s=>s++S4 kp d.1 d.2 ((nms d).drop j) j=S4 kp d.1 d.2 (nms d) 0∧s.length≤j) ?_ ?_ 0 [] (Vo _) ⟨rfl,Vv _⟩
   ·rintro s ⟨h,_⟩
    rw[Vz,Ura,Wn]at h
    simp (disch:=omega) only [As,dF]
    exact H3b (by rw[h])
   ·rintro j s hj ⟨h,hs⟩ next
    rw[Ad (d:=Nm) hj]at h
    rw[Ofa,← Vp]at h
    simp (disch:=omega) only [As,dT,Va,w64]
    have hl:=Uqa (pk (bif kp.getD j false then d.1 else d.2) ((nms d).getD j Nm))
    have nx:=next (s++pk1 (pk (bif kp.getD j false then d.1 else d.2) ((nms d).getD j Nm))) ⟨h,by rw[Ve];omega⟩
    have e0:(nms d).getD j (⟨#[]⟩:ByteArray)=(nms d).getD j Nm:=rfl
    rw[e0]
    refine Hab (λ hc=>?_) (λ hc=>?_)
    ·refine H7b (by omega) (H9b (λ hk=>?_) (λ hk=>?_))
     ·rw[hk]at nx
      exact G2a (L:=λ k acc=>As k kp acc (nms d) ((nms d).length:Int) ((j:Int)+1) d.1 d.2 [] []) d.1 _ s (by omega) (by omega) nx
     ·rw[hk]at nx
      exact G2a (L:=λ k acc=>As k kp acc (nms d) ((nms d).length:Int) ((j:Int)+1) d.1 d.2 [] []) d.2 _ s (by omega) (by omega) nx
    ·have hk:kp.getD j false=false:=by rw[Vc,Zf (by omega)];rfl
     rw[hk]at nx
     exact G2a (L:=λ k acc=>As k kp acc (nms d) ((nms d).length:Int) ((j:Int)+1) d.1 d.2 [] []) d.2 _ s (by omega) (by omega) nx
  ·rintro r rfl
   have hp:=Usa kp d.1 d.2 (nms d) 0
   unfold Ro
   refine Hab (λ h=>?_) (λ h=>?_)
   ·dsimp only at h
    rw[decide_eq_true (show (S4 kp d.1 d.2 (nms d) 0).length > 60 by omega)]
    refine Hfb (J4 (d.1,d.2) hin.1.1) ?_
    exact H3b rfl
   ·dsimp only at h
    have hc:decide ((S4 kp d.1 d.2 (nms d) 0).length > 60)=false:=decide_eq_false (by omega)
    have hg:=Lla (kp:=kp) hd
    unfold Ro at hg
    rw[hc]at hg ⊢
    rw[cond_false]at hg
    have hf:=(Oi hg.1).1.1.1
    refine Hfb (Pe _ hf) ?_
    refine Hfb (Pe _ hf) ?_
    exact H3b rfl

end Go.Proofs.YtmhhjceoinoekaaGreat.Vf
