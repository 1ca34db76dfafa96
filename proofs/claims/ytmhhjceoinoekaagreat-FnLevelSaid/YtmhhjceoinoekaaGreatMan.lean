import Derived.Test.YtmhhjceoinoekaaGreatMam
import Derived.Test.YtmhhjceoinoekaaGreatMal
set_option linter.all false
namespace Go.Proofs.YtmhhjceoinoekaaGreat.Vf
open Go
open List (length getD)
open Int (toNat)
open Go.IntKind (wrap)
open BitVec (ofInt)
def Wl:=@List.take_succ_eq_append_getElem
def Isb:=@List.foldl_append
def Ixb:=@List.length_pos_of_mem
def Jxb:=@List.length_erase_of_mem
def Kfb:=@List.exists_mem_of_length_pos
def Kkb:=@List.mem_erase_of_ne
def Krb:=@List.range_succ
def Ksb:=@BitVec.getLsbD_ushiftRight
def Lgb:=@List.set_append_right

abbrev Nod:=Int×Dsk×List Row×List Row
def qOk (l:List Row):Bool:=l.all Np
def O9 (n:Nod):Bool:=qOk n.2.2.2&&(inR n.1 0 20&&(Ay n.2.1&&(L5 n.2.2.1&&decide ((n.2.2.2.length:Int)≤60))))
def RF (l:List Row):Prop:=l.length≤2000000∧Uq l
def NIn (n:Nod):Prop:=(DIn n.2.1∧DB n.2.1)∧RF n.2.2.1∧RF n.2.2.2
def NG (n:Nod):Prop:=O9 n=true∧DB n.2.1
def C3 {n:Nod}:O9 n=true↔(∀ r∈n.2.2.2,Np r=true)∧(0≤n.1∧n.1≤20)∧Ay n.2.1=true∧L5 n.2.2.1=true∧n.2.2.2.length≤60:=by
 unfold O9 qOk
 simp only[Va,Wi,Fi,decide_eq_true_iff]
 constructor
 ·rintro⟨h1,h2,h3,h4,h5⟩;exact⟨h1,h2,h3,h4,by omega⟩
 ·rintro⟨h1,h2,h3,h4,h5⟩;exact⟨h1,h2,h3,h4,by omega⟩
def F8a {l:List Row} (h:L5 l=true):RF l:=by
 obtain⟨_,h2,h3⟩:=Na.1 h
 exact⟨by omega,λ r hr=>Iy (Dia (h2 r hr))⟩
def Y0 {n:Nod} (h:NG n):NIn n:=by
 obtain⟨h1,_,h3,h4,h5⟩:=C3.1 h.1
 exact⟨⟨Og h3,h.2⟩,F8a h4,by omega,λ r hr=>Iy (Dia (h1 r hr))⟩
def NG.g {n:Nod} (h:NG n):DG n.2.1:=⟨(C3.1 h.1).2.2.1,h.2⟩
def Noa (n:Nod) (hn:NIn n):Tot (λ k=>Eb k n) (λ r=>r=O9 n):=by
 obtain⟨i,⟨a,b⟩,ro,q⟩:=n
 obtain⟨⟨hd,_⟩,hr,hq⟩:=hn
 dsimp only at hd hr hq
 unfold Eb
 have hl:=hq.1
 refine I1b (Q:=λ r=>r=bif qOk q then .inr (i,a,b,ro,q) else .inl false) ?_ ?_
 ·refine I9b (L:=λ k i' (_:Unit)=>H3 k q (q.length:Int) i' i a b ro q) (Q:=λ r=>r=bif qOk q then .inr (i,a,b,ro,q) else .inl false) q.length (λ j _=>(q.drop j).all Np=q.all Np) ?_ ?_ 0 () (Vs _) (by rw[Wq])
  ·intro _ hj
   rw[We]at hj
   simp only[H3]
   exact I5b (by omega) (I0b (by unfold qOk;rw[← hj];rfl))
  ·intro j _ hj hi next
   simp only[H3]
   rw[Ai (d:=M0) hj,J3b]at hi
   refine I4b (by omega) (I4b (by omega) (I4b (by omega) ?_))
   rw[Vb,w64 (n:=(j:Int)+1) (by omega) (by omega)]
   refine Icb (Tfa (q.getD j M0) (hq.2 _ (A3 hj))) ?_
   cases hc:Np (q.getD j M0) with
   |false=>exact I3b rfl (I0b (by unfold qOk;rw[← hi,hc];rfl))
   |true=>exact I2b rfl (next () (by rw[hc,Vx]at hi;exact hi))
 ·rintro r rfl
  unfold O9
  dsimp only
  cases qOk q
  ·exact I0b rfl
  simp only[cond_true,Ipb,Vx]
  refine Icb (Ieb (Q:=λ r=>r=inR i 0 20) (Um _ _ _) rfl) ?_
  cases inR i 0 20
  ·exact I2b rfl (I0b rfl)
  refine I3b rfl (Icb (Sp (a,b) hd.1.1 hd.1.2) ?_)
  cases Ay (a,b)
  ·exact I2b rfl (I0b rfl)
  refine I3b rfl (Icb (N7a ro (by have:=hr.1;unfold Few;omega) hr.2) ?_)
  cases L5 ro with
  |false=>exact I2b rfl (I0b rfl)
  |true=>exact I3b rfl (I0b rfl)
def Yea (n:Nod) (hn:NIn n):Tot (λ k=>Gl k n) (λ r=>r=O9 n):=by
 obtain⟨i,⟨a,b⟩,ro,q⟩:=n
 obtain⟨⟨hd,_⟩,hr,hq⟩:=hn
 dsimp only at hd hr hq
 unfold Gl
 have hl:=hq.1
 refine I1b (Q:=λ r=>r=bif qOk q then .inr (i,a,b,ro,q) else .inl false) ?_ ?_
 ·refine I9b (L:=λ k i' (_:Unit)=>Hb k i' i a b ro q) (Q:=λ r=>r=bif qOk q then .inr (i,a,b,ro,q) else .inl false) q.length (λ j _=>(q.drop j).all Np=q.all Np) ?_ ?_ 0 () (Vs _) (by rw[Wq])
  ·intro _ hj
   rw[We]at hj
   simp only[Hb]
   exact I5b (by omega) (I0b (by unfold qOk;rw[← hj];rfl))
  ·intro j _ hj hi next
   simp only[Hb]
   rw[Ai (d:=M0) hj,J3b]at hi
   refine I4b (by omega) (I4b (by omega) (I4b (by omega) ?_))
   rw[Vb,w64 (n:=(j:Int)+1) (by omega) (by omega)]
   refine Icb (Tga (q.getD j M0) (hq.2 _ (A3 hj))) ?_
   cases hc:Np (q.getD j M0) with
   |false=>exact I3b rfl (I0b (by unfold qOk;rw[← hi,hc];rfl))
   |true=>exact I2b rfl (next () (by rw[hc,Vx]at hi;exact hi))
 ·rintro r rfl
  unfold O9
  dsimp only
  cases qOk q
  ·exact I0b rfl
  simp only[cond_true,Ipb,Vx]
  refine Icb (Ieb (Q:=λ r=>r=inR i 0 20) (Ov _ _ _) rfl) ?_
  cases inR i 0 20
  ·exact I2b rfl (I0b rfl)
  refine I3b rfl (Icb (Qu (a,b) hd.1.1 hd.1.2) ?_)
  cases Ay (a,b)
  ·exact I2b rfl (I0b rfl)
  refine I3b rfl (Icb (Xva ro (by have:=hr.1;unfold Few;omega) hr.2) ?_)
  cases L5 ro with
  |false=>exact I2b rfl (I0b rfl)
  |true=>exact I3b rfl (I0b rfl)
def Ph (n:Nod) (hn:NIn n):Tot (λ k=>Ce k n) (λ r=>r=n):=by
 unfold Ce
 have h1:=hn.2.1.1
 have h2:=hn.2.2.1
 refine Icb (Jn n.2.1 hn.1.1.1.1) ?_
 refine Icb (Ieb (Q:=λ r=>r=n.2.2.1) (Ul _ (by unfold Few;omega)) rfl) ?_
 refine Icb (Ieb (Q:=λ r=>r=n.2.2.2) (Ul _ (by unfold Few;omega)) rfl) ?_
 exact I0b rfl
def I5a (n:Nod) (hn:NIn n):Tot (λ k=>Ji k n) (λ r=>r=n):=by
 unfold Ji
 have h1:=hn.2.1.1
 have h2:=hn.2.2.1
 refine Icb (M7 n.2.1 hn.1.1.1.1) ?_
 refine I8b (by simp only[Vk];omega) (I8b (by simp only[Vk];omega) (I0b ?_))
 rw[Vy,Vy]
def Psa (a b:List Row) (hf:a.length+b.length≤10000000000):Tot (λ k=>Ck k a b) (λ r=>r=Ow a b):=by
 unfold Ck
 refine I8b (by simp only[Vk];omega) ?_
 rw[Vy]
 refine I1b (Q:=λ r=>r=Ow a b) ?_ (by rintro r rfl;exact I0b rfl)
 refine I9b (L:=λ k i s=>Dq k b s i) (Q:=λ r=>r=Ow a b) b.length (λ i s=>Ow s (b.drop i)=Ow a b∧s.length≤a.length+i) ?_ ?_ 0 a (Vs _) ⟨by rw[Wq],Nat.le_add_right _ _⟩
 ·rintro s ⟨hs,_⟩
  rw[We]at hs
  simp only[Dq]
  exact I5b (by omega) (I0b hs)
 ·rintro i s hi ⟨hs,hl⟩ next
  simp only[Dq]
  refine I4b (by omega) (I4b (by omega) (I4b (by omega) ?_))
  rw[Vb,w64 (n:=(i:Int)+1) (by omega) (by omega)]
  rw[Ai (d:=M0) hi]at hs
  refine Icb (Tca s (b.getD i M0) (by unfold Few;omega)) ?_
  have:=Tda s (b.getD i M0)
  exact next _ ⟨hs,by omega⟩
def Yfa (n:Nod) (l:List Row):Nod×Bool:=bif O9 n&&L5 l then (bif decide ((Ow n.2.2.1 l).length > 60) then (n,false) else ((n.1,n.2.1,Ow n.2.2.1 l,n.2.2.2),true)) else (n,false)
def L3a {a b:List Row} (ha:L5 a=true) (hb:L5 b=true) (h:(Ow a b).length≤60):L5 (Ow a b)=true:=by
 obtain⟨a1,a2,_⟩:=Na.1 ha
 obtain⟨b1,b2,_⟩:=Na.1 hb
 exact Na.2 ⟨Nq a1,λ r hr=>(Eya hr).elim (a2 r) (b2 r),h⟩
def Yga (n:Nod) (l:List Row) (hn:NIn n) (hl:RF l):Tot (λ k=>Im k n l) (λ r=>r=Yfa n l):=by
 have h1:=hn.2.1.1
 have h2:=hl.1
 unfold Im Yfa
 refine Icb (Ph n hn) ?_
 refine Icb (Noa n hn) ?_
 cases O9 n
 ·exact I3b rfl (I0b rfl)
 refine I2b rfl (Icb (N7a l (by unfold Few;omega) hl.2) ?_)
 cases L5 l
 ·exact I3b rfl (I0b rfl)
 refine I2b rfl (Icb (Pda n.2.2.1 l (by omega)) ?_)
 refine I7b (λ h=>?_) (λ h=>?_)
 ·rw[decide_eq_true (show (Ow n.2.2.1 l).length > 60 by omega)]
  refine Icb (Ph n hn) ?_
  exact I0b rfl
 ·rw[decide_eq_false (show ¬ (Ow n.2.2.1 l).length > 60 by omega)]
  exact I0b rfl
def Pta (n:Nod) (l:List Row) (h1:n.2.2.1.length≤2000000) (h2:l.length≤2000000):Tot (λ k=>Sz k n l) (λ r=>r=bif decide ((Ow n.2.2.1 l).length > 60) then (false,n) else (true,(n.1,n.2.1,Ow n.2.2.1 l,n.2.2.2))):=by
 unfold Sz I3
 refine I1b (Psa n.2.2.1 l (by omega)) ?_
 rintro r rfl
 refine I7b (λ h=>?_) (λ h=>?_)
 ·rw[decide_eq_true (show (Ow n.2.2.1 l).length > 60 by omega)]
  exact I0b rfl
 ·rw[decide_eq_false (show ¬ (Ow n.2.2.1 l).length > 60 by omega)]
  exact I0b rfl
def Y1 (s:ByteArray) (f:Fil):Row:=(s,f.1,f.2.1,(f.2.2.length:Int))
def Y2 (n:Nod) (s:ByteArray) (f:Fil) (sure:Bool):Nod×Int:=bif (n.2.2.2.length:Int)==60 then (n,3) else
 ((n.1,(keep n.2.1 s f sure).1,n.2.2.1,bif (keep n.2.1 s f sure).2==0&&sure then n.2.2.2++[Y1 s f] else n.2.2.2),(keep n.2.1 s f sure).2)
def Yha {s:ByteArray} {f:Fil} (hs:B5 s=true) (hf:Gc f=true):Np (Y1 s f)=true:=by
 obtain⟨h1,h2,h3⟩:=K7.1 hf
 unfold Np Y1
 dsimp only
 rw[hs,h1,Fi.2 ⟨by omega,by omega⟩]
 cases hd:f.2.1 with
 |false=>rfl
 |true=>rw[h3 hd];rfl
def U9a {n:Nod} {s:ByteArray} {f:Fil} {sure:Bool} (hn:NG n) (hs:B5 s=true) (hf:Gc f=true):NG (Y2 n s f sure).1:=by
 obtain⟨h1,h2,h3,h4,h5⟩:=C3.1 hn.1
 have hk:=Amb (s:=s) (f:=f) (sure:=sure) hn.g
 unfold Y2
 cases hl:((n.2.2.2.length:Int)==60)
 case true=>exact hn
 have hl':n.2.2.2.length≠60:=by
  intro e
  rw[e]at hl
  cases hl
 refine⟨C3.2 ⟨?_,h2,hk.1,h4,?_⟩,hk.2⟩
 ·show ∀ r∈bif (keep n.2.1 s f sure).2==0&&sure then n.2.2.2++[Y1 s f] else n.2.2.2,Np r=true
  cases (keep n.2.1 s f sure).2==0&&sure
  ·exact h1
  intro r hr
  rcases Vo.1 hr with hr|hr
  ·exact h1 r hr
  ·rw[Vu.1 hr];exact Yha hs hf
 ·show (bif (keep n.2.1 s f sure).2==0&&sure then n.2.2.2++[Y1 s f] else n.2.2.2).length≤60
  cases (keep n.2.1 s f sure).2==0&&sure with
  |false=>exact h5
  |true=>rw[cond_true,Ve];simp only[Vd,Vk];omega
def Uaa (n:Nod) (s:ByteArray) (f:Fil) (sure:Bool) (hn:NIn n) (hs:M1 s):Tot (λ k=>U2 k n s f sure) (λ r=>r=((Y2 n s f sure).2,(Y2 n s f sure).1)):=by
 have h1:=hn.2.2.1
 unfold U2 Kg Y2
 cases (n.2.2.2.length:Int)==60 with
 |true=>exact I3b rfl (I0b rfl)
 |false=>
  refine I2b rfl (I1b (Nma n.2.1 s f sure hn.1.1 hn.1.2.1 hs) ?_)
  rintro r rfl
  cases (keep n.2.1 s f sure).2==0 with
  |false=>exact I2b rfl (I0b rfl)
  |true=>
   refine I3b rfl ?_
   cases sure with
   |false=>exact I2b rfl (I0b rfl)
   |true=>
    refine I3b rfl (I8b (by simp only[Vk];omega) ?_)
    refine I1b (Ieb (Q:=λ r=>r=Y1 s f) (show M3 s f=some (Y1 s f) from rfl) rfl) ?_
    rintro r rfl
    refine I8b (by simp only[Ve,Vd,Vk];omega) (I0b ?_)
    rw[Vy]
    rfl
def L4a (n:Nod) (s:ByteArray) (b:Int):Nod×Bool:=bif O9 n&&((lkD n.2.1 s).2==0&&(J8a n.2.1 s b).2) then ((n.1,(J8a n.2.1 s b).1,n.2.2),true) else (n,false)
def Anb {n:Nod} {s:ByteArray} {b:Int} (hn:NG n):NG (L4a n s b).1:=by
 obtain⟨h1,h2,h3,h4,h5⟩:=C3.1 hn.1
 have hr:=Fob (s:=s) (n:=b) hn.g
 unfold L4a
 cases O9 n&&((lkD n.2.1 s).2==0&&(J8a n.2.1 s b).2) with
 |false=>exact hn
 |true=>exact⟨C3.2 ⟨h1,h2,hr.1,h4,h5⟩,hr.2⟩
def L5a (n:Nod) (s:ByteArray) (b:Int) (hn:NIn n) (h1:b≤9223372036854775807) (h0 : -9223372036854775808≤b):Tot (λ k=>Jj k n s b) (λ r=>r=L4a n s b):=by
 unfold Jj L4a
 refine Icb (I5a n hn) ?_
 refine Icb (Z9 hn.1.1.1.1.1 hn.1.2.1 s) ?_
 refine Icb (Yea n hn) ?_
 cases h:O9 n
 ·exact I3b rfl (I0b rfl)
 refine I2b rfl ?_
 cases hl:(lkD n.2.1 s).2==0
 ·exact I3b (by unfold bne;rw[hl];rfl) (I0b rfl)
 refine I2b (by unfold bne;rw[hl];rfl) (Icb (Czb (NG.g ⟨h,hn.1.2⟩) h1 h0) ?_)
 cases (J8a n.2.1 s b).2 with
 |false=>exact I3b rfl (I0b rfl)
 |true=>exact I2b rfl (I0b rfl)
def Ac:Nod:=((0:Int),(([]:List Nmd),([]:List Nmd)),([]:List Row),([]:List Row))
def L6a (i:Int):Jl i=some (bif inR i 0 20 then (i,([],[]),[],[]) else Ac):=by
 unfold Jl
 rw[Ov]
 simp only[Vp]
 cases inR i 0 20<;>rfl

abbrev Dev:=Int×Int×Int
abbrev Rng:=Int×List (List Int)
def Nv:Dev:=((0:Int),((0:Int),(0:Int)))
def Mb (l:List Int) (n:Int):Bool:=l.any (· == n)
def O5 {l:List Int} {n:Int}:Mb l n=true↔n∈l:=by
 unfold Mb
 rw[Ijb]
 constructor
 ·rintro⟨x,hx,e⟩;rw[← eq_of_beq e];exact hx
 ·intro h;exact⟨n,h,beq_self_eq_true n⟩
def F9a (l:List Int) (n:Int) (hl:l.length≤4000000000000000):Tot (λ k=>D5 k l n) (λ r=>r=Mb l n):=by
 unfold D5
 refine I1b (Q:=λ r=>r=bif Mb l n then .inl true else .inr ()) ?_ (by rintro r rfl;cases Mb l n<;>exact I0b rfl)
 refine I9b (L:=λ k i (_:Unit)=>H0 k n l (l.length:Int) i) (Q:=λ r=>r=bif Mb l n then .inl true else .inr ()) l.length (λ j _=>Mb (l.drop j) n=Mb l n) ?_ ?_ 0 () (Vs _) rfl
 ·intro _ h
  rw[We]at h
  simp (disch:=omega) only [H0,dF,← h]
  exact I0b rfl
 ·intro j _ hj h next
  rw[Ai (d:=0) hj]at h
  simp (disch:=omega) only [H0,dT,Vb,w64]
  unfold Mb at h
  rw[Jeb]at h
  refine I6b (λ hc=>I0b ?_) (λ hc=>next () ?_)
  ·rw[hc,Jwb]at h
   unfold Mb
   rw[← h]
   rfl
  ·rw[hc,Zza]at h
   exact h
def Tm (l:List Int) (n:Int) (hl:l.length≤4000000000000000):Tot (λ k=>Cg k l n) (λ r=>r=Mb l n):=by
 unfold Cg
 refine I1b (Q:=λ r=>r=bif Mb l n then .inl true else .inr ()) ?_ (by rintro r rfl;cases Mb l n<;>exact I0b rfl)
 refine I9b (L:=λ k i (_:Unit)=>Ie k l n i) (Q:=λ r=>r=bif Mb l n then .inl true else .inr ()) l.length (λ j _=>Mb (l.drop j) n=Mb l n) ?_ ?_ 0 () (Vs _) rfl
 ·intro _ h
  rw[We]at h
  simp (disch:=omega) only [Ie,dF,← h]
  exact I0b rfl
 ·intro j _ hj h next
  rw[Ai (d:=0) hj]at h
  simp (disch:=omega) only [Ie,dT,Vb,w64]
  unfold Mb at h
  rw[Jeb]at h
  refine I6b (λ hc=>I0b ?_) (λ hc=>next () ?_)
  ·rw[hc,Jwb]at h
   unfold Mb
   rw[← h]
   rfl
  ·rw[hc,Zza]at h
   exact h
def La (l:List Dev) (id:Int):Option Dev:=l.find? (λ d=>d.1==id)
def Hdb:Option Dev→Dev×Bool
 |some d=>(d,true)
 |none=>(Nv,false)
def X6 {l:List Dev} {id:Int} {d:Dev} (h:La l id=some d):d∈l∧d.1=id:=⟨Kzb h,eq_of_beq (List.find?_some (p:=λ d:Dev=>d.1==id) h)⟩
def Uba (l:List Dev) (id:Int) (hl:l.length≤1000000000):Tot (λ k=>Ks k l id) (λ r=>r=Hdb (La l id)):=by
 unfold Ks
 refine I1b (Q:=λ r=>r=match La l id with|some d => .inl (true,d)|none => .inr (0,0,0)) ?_ (by rintro r rfl;cases La l id<;>exact I0b rfl)
 refine I9b (L:=λ k i (_:Unit)=>Ib k id l (l.length:Int) i (0,0,0)) (Q:=λ r=>r=match La l id with|some d => .inl (true,d)|none => .inr (0,0,0)) l.length (λ j _=>La (l.drop j) id=La l id) ?_ ?_ 0 () (Vs _) rfl
 ·intro _ h
  rw[We]at h
  simp (disch:=omega) only [Ib,dF,← h]
  exact I0b rfl
 ·intro j _ hj h next
  rw[Ai (d:=Nv) hj]at h
  unfold La at h
  rw[Jab]at h
  simp (disch:=omega) only [Ib,dT,Vb,w64]
  refine I6b (λ hc=>I0b ?_) (λ hc=>next () ?_)
  ·rw[show ((l.getD j Nv).1==id)=true from hc]at h
   unfold La
   rw[← h]
   rfl
  ·rw[show ((l.getD j Nv).1==id)=false from hc]at h
   exact h
def Ux (l:List Dev) (id:Int) (hl:l.length≤1000000000):Tot (λ k=>Ge k l id) (λ r=>r=Hdb (La l id)):=by
 unfold Ge
 refine I1b (Q:=λ r=>r=match La l id with|some d => .inl (true,d)|none => .inr (0,0,0)) ?_ (by rintro r rfl;cases La l id<;>exact I0b rfl)
 refine I9b (L:=λ k i (_:Unit)=>Ig k l id i (0,0,0)) (Q:=λ r=>r=match La l id with|some d => .inl (true,d)|none => .inr (0,0,0)) l.length (λ j _=>La (l.drop j) id=La l id) ?_ ?_ 0 () (Vs _) rfl
 ·intro _ h
  rw[We]at h
  simp (disch:=omega) only [Ig,dF,← h]
  exact I0b rfl
 ·intro j _ hj h next
  rw[Ai (d:=Nv) hj]at h
  unfold La at h
  rw[Jab]at h
  simp (disch:=omega) only [Ig,dT,Vb,w64]
  refine I6b (λ hc=>I0b ?_) (λ hc=>next () ?_)
  ·rw[show ((l.getD j Nv).1==id)=true from hc]at h
   unfold La
   rw[← h]
   rfl
  ·rw[show ((l.getD j Nv).1==id)=false from hc]at h
   exact h
def Bma (d:Dev):Bool:=inR d.1 0 20&&(inR d.2.1 0 20&&inR d.2.2 1 1000)
def Y3:Option Int→List Dev→Bool
 |_,[]=>true
 |none,d::l=>Bma d&&Y3 (some d.1) l
 |some q,d::l=>Bma d&&(decide (q<d.1)&&Y3 (some d.1) l)
def M8 (l:List Dev):Bool:=Y3 none l&&inR (l.length:Int) 1 12
def I6a (l:List Dev):Nat→Option Int
 |0=>none
 |i+1=>some (l.getD i Nv).1
def Faa:∀ (p:Option Int) (l:List Dev),Y3 p l=true↔l.Pairwise (λ a b=>a.1<b.1)∧(∀ d∈l,Bma d=true)∧(∀ q,p=some q→∀ d∈l,q<d.1)
 |p,[]=>by cases p<;>simp[Y3]
 |none,d::l=>by
  simp only[Y3,Va,Faa (some d.1) l,Wh,Vl,forall_eq_or_imp,Vg]
  constructor
  ·rintro⟨h1,h2,h3,h4⟩;exact⟨⟨h4 _ rfl,h2⟩,⟨h1,h3⟩,λ q h=>by cases h⟩
  ·rintro⟨⟨h1,h2⟩,⟨h3,h4⟩,_⟩;exact⟨h3,h2,h4,λ q e=>by subst e;exact h1⟩
 |some q,d::l=>by
  simp only[Y3,Va,decide_eq_true_iff,Faa (some d.1) l,Wh,Vl,forall_eq_or_imp,Vg]
  constructor
  ·rintro⟨h1,hq,h2,h3,h4⟩
   exact⟨⟨h4 _ rfl,h2⟩,⟨h1,h3⟩,λ q' e=>by subst e;exact⟨hq,λ x hx=>by have:=h4 _ rfl x hx;omega⟩⟩
  ·rintro⟨⟨h1,h2⟩,⟨h3,h4⟩,h5⟩
   exact⟨h3,(h5 q rfl).1,h2,h4,λ q e=>by subst e;exact h1⟩
def Fl {l:List Dev}:M8 l=true↔l.Pairwise (λ a b=>a.1<b.1)∧(∀ d∈l,Bma d=true)∧1≤l.length∧l.length≤12:=by
 unfold M8
 rw[Va,Faa,Fi]
 constructor
 ·rintro⟨⟨h1,h2,_⟩,h3,h4⟩;exact⟨h1,h2,by omega,by omega⟩
 ·rintro⟨h1,h2,h3,h4⟩;exact⟨⟨h1,h2,λ q h=>by cases h⟩,by omega,by omega⟩
def Oa {d:Dev}:Bma d=true↔(0≤d.1∧d.1≤20)∧(0≤d.2.1∧d.2.1≤20)∧1≤d.2.2∧d.2.2≤1000:=by
 unfold Bma
 rw[Va,Va,Fi,Fi,Fi]
def I7a {l:List Dev} {j:Nat} (hj:j<l.length):Y3 (I6a l j) (l.drop j)=(Bma (l.getD j Nv)&&((bif decide (0<j) then decide ((l.getD (j-1) Nv).1<(l.getD j Nv).1) else true)&&Y3 (I6a l (j+1)) (l.drop (j+1)))):=by
 rw[Ai (d:=Nv) hj]
 cases j with
 |zero=>simp[I6a,Y3]
 |succ j=>simp[I6a,Y3]
def Yia (l:List Dev) (hl:l.length≤1000000000):Tot (λ k=>Gj k l) (λ r=>r=M8 l):=by
 unfold Gj M8
 refine I1b (Q:=λ r=>r=bif Y3 none l then .inr l else .inl false) ?_ ?_
 ·refine I9b (L:=λ k i (_:Unit)=>G5 k l l (l.length:Int) i) (Q:=λ r=>r=bif Y3 none l then .inr l else .inl false) l.length (λ j _=>Y3 (I6a l j) (l.drop j)=Y3 none l) ?_ ?_ 0 () (Vs _) rfl
  ·intro _ h
   rw[We]at h
   have:Y3 none l=true:=by rw[← h];cases I6a l l.length<;>rfl
   simp (disch:=omega) only [G5,dF,this]
   exact I0b rfl
  ·intro j _ hj h next
   rw[I7a hj]at h
   simp (disch:=omega) only [G5,dT,Vb,w64,Um,Vp]
   have e0:l.getD j ((0:Int),((0:Int),(0:Int)))=l.getD j Nv:=rfl
   rw[e0]
   have no:Bma (l.getD j Nv)=false→Y3 none l=false:=λ c=>by rw[← h,c];rfl
   unfold Bma at no h
   refine I6b (λ hc=>I0b ?_) (λ h1=>I6b (λ hc=>I0b ?_) (λ h2=>I6b (λ hc=>I0b ?_) (λ h3=>?_)))
   ·rw[no (by rw[Vw]at hc;rw[hc];rfl)];rfl
   ·rw[no (by rw[Vw]at hc;rw[hc,Ys,Ya])];rfl
   ·rw[no (by rw[Vw]at hc;rw[hc,Ya,Ya])];rfl
   ·rw[Wm]at h1 h2 h3
    rw[h1,h2,h3]at h
    refine I7b (λ h0=>?_) (λ h0=>next () ?_)
    ·simp (disch:=omega) only [dT,w64,show toNat ((j:Int)-1)=j-1 by omega]
     rw[decide_eq_true (show 0<j by omega)]at h
     refine I7b (λ hc=>I0b ?_) (λ hc=>next () ?_)
     ·have hc':¬ ((l.getD (j-1) Nv).1<(l.getD j Nv).1):=by
       have:(l.getD (j-1) Nv).1≥(l.getD j Nv).1:=hc
       omega
      rw[decide_eq_false hc']at h
      rw[← h];rfl
     ·have hc':(l.getD (j-1) Nv).1<(l.getD j Nv).1:=by
       have:¬ ((l.getD (j-1) Nv).1≥(l.getD j Nv).1):=hc
       omega
      rw[decide_eq_true hc']at h
      exact h
    ·rw[decide_eq_false (show ¬ 0<j by omega)]at h
     exact h
 ·rintro r rfl
  cases Y3 none l
  ·exact I0b rfl
  simp only[cond_true,Ipb,Um,Vp]
  exact I0b rfl
def Fba (l:List Dev) (hl:l.length≤1000000000):Tot (λ k=>Cp k l) (λ r=>r=M8 l):=by
 unfold Cp M8
 refine I1b (Q:=λ r=>r=bif Y3 none l then .inr l else .inl false) ?_ ?_
 ·refine I9b (L:=λ k i (_:Unit)=>Ga k l i) (Q:=λ r=>r=bif Y3 none l then .inr l else .inl false) l.length (λ j _=>Y3 (I6a l j) (l.drop j)=Y3 none l) ?_ ?_ 0 () (Vs _) rfl
  ·intro _ h
   rw[We]at h
   have:Y3 none l=true:=by rw[← h];cases I6a l l.length<;>rfl
   simp (disch:=omega) only [Ga,dF,this]
   exact I0b rfl
  ·intro j _ hj h next
   rw[I7a hj]at h
   simp (disch:=omega) only [Ga,dT,Vb,w64,Ov,Vp]
   have e0:l.getD j ((0:Int),((0:Int),(0:Int)))=l.getD j Nv:=rfl
   rw[e0]
   have no:Bma (l.getD j Nv)=false→Y3 none l=false:=λ c=>by rw[← h,c];rfl
   unfold Bma at no h
   refine I6b (λ hc=>I0b ?_) (λ h1=>I6b (λ hc=>I0b ?_) (λ h2=>I6b (λ hc=>I0b ?_) (λ h3=>?_)))
   ·rw[no (by rw[Vw]at hc;rw[hc];rfl)];rfl
   ·rw[no (by rw[Vw]at hc;rw[hc,Ys,Ya])];rfl
   ·rw[no (by rw[Vw]at hc;rw[hc,Ya,Ya])];rfl
   ·rw[Wm]at h1 h2 h3
    rw[h1,h2,h3]at h
    refine I7b (λ h0=>?_) (λ h0=>next () ?_)
    ·simp (disch:=omega) only [dT,w64,show toNat ((j:Int)-1)=j-1 by omega]
     rw[decide_eq_true (show 0<j by omega)]at h
     refine I7b (λ hc=>I0b ?_) (λ hc=>next () ?_)
     ·have hc':¬ ((l.getD (j-1) Nv).1<(l.getD j Nv).1):=by
       have:(l.getD (j-1) Nv).1≥(l.getD j Nv).1:=hc
       omega
      rw[decide_eq_false hc']at h
      rw[← h];rfl
     ·have hc':(l.getD (j-1) Nv).1<(l.getD j Nv).1:=by
       have:¬ ((l.getD (j-1) Nv).1≥(l.getD j Nv).1):=hc
       omega
      rw[decide_eq_true hc']at h
      exact h
    ·rw[decide_eq_false (show ¬ 0<j by omega)]at h
     exact h
 ·rintro r rfl
  cases Y3 none l
  ·exact I0b rfl
  simp only[cond_true,Ipb,Ov,Vp]
  exact I0b rfl
def L7a (l:List Dev) (out:List Int) (id:Int):List Int:=match La l id with
 |some d=>bif Mb out d.2.1 then out else out++[d.2.1]
 |none=>out
def Km (ids:List Int) (l:List Dev):List Int:=ids.foldl (L7a l) []
def I8a (l:List Dev) (out:List Int) (id:Int):(L7a l out id).length≤out.length+1:=by
 unfold L7a
 cases La l id with
 |none=>exact Iub _
 |some d=>
  simp only
  cases Mb out d.2.1 with
  |true=>exact Iub _
  |false=>rw[cond_false,Ve];exact Vv _
def I9a (l:List Dev):∀ (ids out:List Int),(ids.foldl (L7a l) out).length≤out.length+ids.length
 |[],out=>by simp
 |id::ids,out=>by
  have h1:=I9a l ids (L7a l out id)
  have h2:=I8a l out id
  rw[Yq,Vd]
  omega
def Iaa (ids:List Int) (l:List Dev) (hi:ids.length≤5000000) (hl:l.length≤5000000):Tot (λ k=>Cz k ids l) (λ r=>r=Km ids l):=by
 unfold Cz
 refine I1b (Q:=λ r=>r=Km ids l) ?_ (by rintro r rfl;exact I0b rfl)
 refine I9b (L:=λ k i s=>Dn k ids l s i) (Q:=λ r=>r=Km ids l) ids.length (λ j s=>(ids.drop j).foldl (L7a l) s=Km ids l∧s.length≤j) ?_ ?_ 0 [] (Vs _) ⟨rfl,Vv _⟩
 ·rintro s ⟨h,_⟩
  rw[We]at h
  simp (disch:=omega) only [Dn,dF]
  exact I0b h
 ·rintro j s hj ⟨h,hs⟩ next
  rw[Ai (d:=0) hj,Yq]at h
  simp (disch:=omega) only [Dn,dT,Vb,w64]
  have hz:=I8a l s (ids.getD j 0)
  refine Icb (Ux l (ids.getD j 0) (by omega)) ?_
  unfold L7a at h hz
  cases hd:La l (ids.getD j 0) with
  |none=>
   rw[hd]at h
   exact I2b rfl (next _ ⟨h,by omega⟩)
  |some d=>
   rw[hd]at h hz
   refine I3b rfl (Icb (Tm s d.2.1 (by omega)) ?_)
   simp only at h hz
   cases hh:Mb s d.2.1 with
   |true=>
    rw[hh]at h
    exact I2b rfl (next _ ⟨h,by omega⟩)
   |false=>
    rw[hh]at h hz
    exact I3b rfl (I8b (by simp only[Vd,Vk];omega) (next _ ⟨h,by rw[cond_false]at hz;exact Zw hz (by omega)⟩))

def S4 {l:List Int} {j:Nat} (hj:j<l.length) (h:(l.take j).Nodup) (hn:l.getD j 0∉l.take j):(l.take (j+1)).Nodup:=by
 rw[Wl hj,Yp]
 rw[Vc,Vj hj,Yv]at hn
 exact⟨h,by simp,λ a ha b hb e=>by rw[Vu.1 hb]at e;subst e;exact hn ha⟩
def Iba {l:List Int} {j:Nat} (hj:j<l.length) (hn:l.getD j 0∈l.take j):¬ l.Nodup:=by
 intro h
 have h1:(l.take (j+1)).Nodup:=h.sublist (L3b _ _)
 rw[Wl hj,Yp]at h1
 rw[Vc,Vj hj,Yv]at hn
 exact h1.2.2 _ hn _ (by simp) rfl
def Uca (l:List Int) (hl:l.length≤5000000):Tot (λ k=>It k l) (λ r=>r=decide l.Nodup):=by
 unfold It
 refine I1b (Q:=λ r=>r=bif decide l.Nodup then .inr () else .inl false) ?_ (by rintro r rfl;cases decide l.Nodup<;>exact I0b rfl)
 refine I9b (L:=λ k i (_:Unit)=>Ia k l l (l.length:Int) i) (Q:=λ r=>r=bif decide l.Nodup then .inr () else .inl false) l.length (λ j _=>(l.take j).Nodup) ?_ ?_ 0 () (Vs _) (by simp)
 ·intro _ h
  rw[Yr]at h
  simp (disch:=omega) only [Ia,dF,decide_eq_true h]
  exact I0b rfl
 ·intro j _ hj h next
  simp (disch:=omega) only [Ia,dT,Vb,w64]
  refine Icb (F9a (l.take j) (l.getD j 0) (by rw[Vq];omega)) ?_
  refine I6b (λ hc=>I0b ?_) (λ hc=>next () (S4 hj h (λ c=>by rw[O5.2 c]at hc;cases hc)))
  rw[decide_eq_false (Iba hj (O5.1 hc))]
  rfl
def Yja (l:List Int) (n:Int) (hl:l.length≤5000000):Tot (λ k=>Gn k l n) (λ r=>r=(decide l.Nodup&&((l.length:Int)==n))):=by
 unfold Gn
 refine I1b (Q:=λ r=>r=bif decide l.Nodup then .inr (n,l) else .inl false) ?_ (by rintro r rfl;cases decide l.Nodup<;>exact I0b rfl)
 refine I9b (L:=λ k i (_:Unit)=>Hd k n i l) (Q:=λ r=>r=bif decide l.Nodup then .inr (n,l) else .inl false) l.length (λ j _=>(l.take j).Nodup) ?_ ?_ 0 () (Vs _) (by simp)
 ·intro _ h
  rw[Yr]at h
  simp (disch:=omega) only [Hd,dF,decide_eq_true h]
  exact I0b rfl
 ·intro j _ hj h next
  simp (disch:=omega) only [Hd,dT,Vb,w64]
  refine Icb (Tm (l.take j) (l.getD j 0) (by rw[Vq];omega)) ?_
  refine I6b (λ hc=>I0b ?_) (λ hc=>next () (S4 hj h (λ c=>by rw[O5.2 c]at hc;cases hc)))
  rw[decide_eq_false (Iba hj (O5.1 hc))]
  rfl
def RBd (r:Rng):Prop:=r.2.length≤2000000∧∀ p∈r.2,p.length≤2000000
def Q9 (l:List Dev) (n:Int) (p:List Int):Bool:=(decide p.Nodup&&((p.length:Int)==n))&&p.all λ id=>(La l id).isSome
def Jo (r:Rng) (l:List Dev):Bool:=M8 l&&(inR r.1 1 5&&(inR (r.2.length:Int) 1 64&&r.2.all (Q9 l r.1)))
def C4 {r:Rng} {l:List Dev}:Jo r l=true↔M8 l=true∧(1≤r.1∧r.1≤5)∧(1≤r.2.length∧r.2.length≤64)∧∀ p∈r.2,p.Nodup∧(p.length:Int)=r.1∧∀ id∈p,∃ d,La l id=some d:=by
 unfold Jo Q9
 simp only[Va,Fi,Wi,decide_eq_true_iff,beq_iff_eq,Zm]
 constructor
 ·rintro⟨h1,h2,⟨h3,h4⟩,h5⟩;exact⟨h1,h2,⟨by omega,by omega⟩,λ p hp=>⟨(h5 p hp).1.1,(h5 p hp).1.2,(h5 p hp).2⟩⟩
 ·rintro⟨h1,h2,⟨h3,h4⟩,h5⟩;exact⟨h1,h2,⟨by omega,by omega⟩,λ p hp=>⟨⟨(h5 p hp).1,(h5 p hp).2.1⟩,(h5 p hp).2.2⟩⟩
def Mv {r:Rng} {l:List Dev} (h:Jo r l=true):RBd r:=by
 obtain⟨_,h2,h3,h4⟩:=C4.1 h
 exact⟨by omega,λ p hp=>by have:=(h4 p hp).2.1;omega⟩
def Yka (r:Rng) (l:List Dev) (hr:RBd r) (hl:l.length≤5000000):Tot (λ k=>Fa k r l) (λ b=>b=Jo r l):=by
 unfold Fa Jo
 refine Icb (Yia l (by omega)) ?_
 cases hd:M8 l
 ·exact I3b rfl (I0b rfl)
 have hrl:=hr.1
 simp only[Yx,cond_false,Um,Vp,Vx]
 cases inR r.1 1 5
 ·exact I3b rfl (I0b rfl)
 refine I2b rfl ?_
 cases inR (r.2.length:Int) 1 64
 ·exact I3b rfl (I0b rfl)
 refine I2b rfl (I1b (Q:=λ b=>b=bif r.2.all (Q9 l r.1) then .inr () else .inl false) ?_ (by rintro r' rfl;cases r.2.all (Q9 l r.1)<;>exact I0b rfl))
 refine I9b (L:=λ k i (_:Unit)=>H2 k l r.2 (r.2.length:Int) i r) (Q:=λ b=>b=bif r.2.all (Q9 l r.1) then .inr () else .inl false) r.2.length (λ j _=>(r.2.drop j).all (Q9 l r.1)=r.2.all (Q9 l r.1)) ?_ ?_ 0 () (Vs _) rfl
 ·intro _ h
  rw[We]at h
  simp (disch:=omega) only [H2,dF,← h]
  exact I0b rfl
 ·intro j _ hj h next
  rw[Ai (d:=[]) hj,J3b]at h
  have hp:=hr.2 _ (A3 (d:=[]) hj)
  simp (disch:=omega) only [H2,dT,Vb,w64]
  have no:Q9 l r.1 (r.2.getD j [])=false→r.2.all (Q9 l r.1)=false:=λ c=>by rw[← h,c];rfl
  unfold Q9 at no h
  refine I6b (λ hc=>I0b ?_) (λ h1=>I1b (Uca (r.2.getD j []) (by omega)) ?_)
  ·have hc':(((r.2.getD j []).length:Int)==r.1)=false:=by simpa using hc
   rw[show r.2.all (Q9 l r.1)=false from no (by rw[hc',Ya,Ys])]
   rfl
  ·have h1':(((r.2.getD j []).length:Int)==r.1)=true:=by simpa using h1
   rintro b rfl
   refine I6b (λ hc=>I0b ?_) (λ h2=>?_)
   ·rw[show r.2.all (Q9 l r.1)=false from no (by rw[Vw]at hc;rw[hc];rfl)]
    rfl
   ·rw[Wm]at h2
    generalize r.2.getD j []=p at *
    refine I1b (Q:=λ b=>b=bif p.all (λ id=>(La l id).isSome) then .inr (l,r.2,(r.2.length:Int),(j:Int),r) else .inl false) ?_ ?_
    ·refine I9b (L:=λ k i (_:Unit)=>H1 k l r.2 (r.2.length:Int) (j:Int) p (p.length:Int) i r) (Q:=λ b=>b=bif p.all (λ id=>(La l id).isSome) then .inr (l,r.2,(r.2.length:Int),(j:Int),r) else .inl false) p.length (λ m _=>(p.drop m).all (λ id=>(La l id).isSome)=p.all (λ id=>(La l id).isSome)) ?_ ?_ 0 () (Vs _) rfl
     ·intro _ h
      rw[We]at h
      simp (disch:=omega) only [H1,dF,← h]
      exact I0b rfl
     ·intro m _ hm h next
      rw[Ai (d:=0) hm,J3b]at h
      simp (disch:=omega) only [H1,dT,Vb,w64]
      refine Icb (Uba l (p.getD m 0) (by omega)) ?_
      cases hd:La l (p.getD m 0) with
      |none=>exact I3b rfl (I0b (by rw[← h,hd];rfl))
      |some d=>exact I2b rfl (next () (by rw[hd]at h;exact h))
    ·rintro b rfl
     cases hc:p.all (λ id=>(La l id).isSome)
     ·exact I0b (by rw[show r.2.all (Q9 l r.1)=false from no (by rw[hc,Ya])];rfl)
     simp (disch:=omega) only [cond_true,Ipb,w64]
     exact next () (by rw[h2,h1',hc]at h;exact h)
def Xm (l:List Int) (hl:l.length≤5000000):Ff l=some l:=by
 unfold Ff
 rw[bT (by simp only[Vk];omega),Vy]
def Ica (r:Rng) (hr:RBd r):Tot (λ k=>Dg k r) (λ x=>x=r):=by
 have hrl:=hr.1
 unfold Dg
 refine I1b (Q:=λ x=>x=((0,[]),r)) ?_ (by rintro x rfl;exact I0b rfl)
 refine I9b (L:=λ k i s=>Et k r.2 (r.2.length:Int) i (0,[]) (r.1,s)) (Q:=λ x=>x=((0,[]),r)) r.2.length (λ j s=>s=r.2.take j) ?_ ?_ 0 [] (Vs _) rfl
 ·rintro s rfl
  simp (disch:=omega) only [Et,dF,Yr]
  exact I0b rfl
 ·rintro j s hj rfl next
  have hp:=hr.2 _ (A3 (d:=[]) hj)
  simp (disch:=omega) only [Et,dT,Vb,w64,Xm,Vp]
  refine I8b (by simp only[Vq,Vd,Vk];omega) (next _ ?_)
  rw[Wl hj,Vc,Vj hj,Yv]
def Ida (r:Rng) (hr:RBd r):Tot (λ k=>Jt k r) (λ x=>x=r):=by
 have hrl:=hr.1
 unfold Jt
 refine I1b (Q:=λ x=>x=((0,[]),r)) ?_ (by rintro x rfl;exact I0b rfl)
 refine I9b (L:=λ k i s=>Hc k i r (0,[]) (r.1,s)) (Q:=λ x=>x=((0,[]),r)) r.2.length (λ j s=>s=r.2.take j) ?_ ?_ 0 [] (Vs _) rfl
 ·rintro s rfl
  simp (disch:=omega) only [Hc,dF,Yr]
  exact I0b rfl
 ·rintro j s hj rfl next
  have hp:=hr.2 _ (A3 (d:=[]) hj)
  simp (disch:=omega) only [Hc,dT,Vb,w64]
  refine I8b (by simp only[Vk];omega) (I8b (by simp only[Vq,Vd,Vk];omega) (next _ ?_))
  rw[Wl hj,Vc,Vj hj,Yv,Vy]
def cnt (id n x:Int):Int:=bif x==id then n+1 else n
def L8a (id n:Int) (p:List Int):Int:=p.foldl (cnt id) n
def Mr (r:Rng) (id:Int):Int:=r.2.foldl (L8a id) 0
def L9a (id:Int):∀ (p:List Int) (n:Int),n≤L8a id n p∧L8a id n p≤n+p.length
 |[],n=>by simp[L8a]
 |x::p,n=>by
  have h:=L9a id p (cnt id n x)
  unfold L8a at h ⊢
  have hc:n≤cnt id n x∧cnt id n x≤n+1:=by unfold cnt;cases x==id<;>simp<;>omega
  rw[Yq,Vd]
  omega
def Uda (id:Int) (m:Nat):∀ (ps:List (List Int)) (n:Int),(∀ p∈ps,p.length≤m)→n≤ps.foldl (L8a id) n∧ps.foldl (L8a id) n≤n+(m*ps.length:Nat)
 |[],n,_=>by simp
 |p::ps,n,h=>by
  have h1:=Uda id m ps (L8a id n p) (λ q hq=>h q (Vh _ hq))
  have h2:=L9a id p n
  have h3:=h p Yc
  rw[Yq,Vd,Nat.mul_succ]
  omega
def Uy {r:Rng} (hr:RBd r) (id:Int):0≤Mr r id∧Mr r id≤4000000000000:=by
 have h:=Uda id 2000000 r.2 0 hr.2
 have h2:=hr.1
 unfold Mr
 omega
def A0a (r:Rng) (id:Int) (hr:RBd r):Tot (λ k=>Cq k r id) (λ x=>x=Mr r id):=by
 have hrl:=hr.1
 unfold Cq
 refine I1b (Q:=λ x=>x=Mr r id) ?_ (by rintro x rfl;exact I0b rfl)
 refine I9b (L:=λ k i s=>Hf k id s i r) (Q:=λ x=>x=Mr r id) r.2.length (λ j s=>(r.2.drop j).foldl (L8a id) s=Mr r id∧0≤s∧s≤2000000*j) ?_ ?_ 0 0 (Vs _) ⟨rfl,by omega,by omega⟩
 ·rintro s ⟨h,_⟩
  rw[We]at h
  simp (disch:=omega) only [Hf,dF]
  exact I0b h
 ·rintro j s hj ⟨h,h0,h1⟩ next
  rw[Ai (d:=[]) hj,Yq]at h
  have hp:=hr.2 _ (A3 (d:=[]) hj)
  have hc:=L9a id (r.2.getD j []) s
  simp (disch:=omega) only [Hf,dT]
  refine I1b (Q:=λ x=>x=(id,L8a id s (r.2.getD j []),(j:Int),r)) ?_ ?_
  ·refine I9b (L:=λ k i s=>Gb k id s (j:Int) i r) (Q:=λ x=>x=(id,L8a id s (r.2.getD j []),(j:Int),r)) (r.2.getD j []).length (λ m z=>L8a id z ((r.2.getD j []).drop m)=L8a id s (r.2.getD j [])∧0≤z∧z≤2000000*j+m) ?_ ?_ 0 s (Vs _) ⟨rfl,h0,by omega⟩
   ·rintro z ⟨h,_⟩
    rw[We]at h
    simp (disch:=omega) only [Gb,dT,dF,Vb]
    exact I0b (by rw[← h];rfl)
   ·rintro m z hm ⟨h,z0,z1⟩ next
    rw[Ai (d:=0) hm]at h
    simp (disch:=omega) only [Gb,dT,Vb,w64]
    have h':L8a id (cnt id z ((r.2.getD j []).getD m 0)) ((r.2.getD j []).drop (m+1))=L8a id s (r.2.getD j []):=h
    unfold cnt at h'
    refine I6b (λ hc=>next _ ?_) (λ hc=>next _ ?_)
    ·rw[hc]at h';exact⟨h',by omega,by omega⟩
    ·rw[hc]at h';exact⟨h',by omega,by omega⟩
  ·rintro x rfl
   simp (disch:=omega) only [w64]
   exact next _ ⟨h,by omega,by omega⟩

def Hqb {a w:Int} (h0:0≤a) (h1:a≤4000000000001) (w0:0≤w) (w1:w≤1000) : -9223372036854775808≤a*w∧a*w≤9223372036854775807:=by
 have e1:=Int.mul_nonneg h0 w0
 have e2:a*w≤4000000000001*1000:=Int.mul_le_mul h1 w1 w0 (by decide)
 omega
def Bna (r:Rng) (p zs:List Int) (a:Option (Dev×Bool)) (d:Dev):Option (Dev×Bool):=
 bif Mb p d.1 then a else match a with
 |none=>some (d,!(Mb zs d.2.1))
 |some (b,fr)=>bif (!(Mb zs d.2.1)&&!fr)||(((!(Mb zs d.2.1))==fr)&&decide ((Mr r d.1+1)*b.2.2<(Mr r b.1+1)*d.2.2)) then some (d,!(Mb zs d.2.1)) else some (b,fr)
def Tn (r:Rng) (p:List Int) (l:List Dev):Option (Dev×Bool):=l.foldl (Bna r p (Km p l)) none
def Cia (r:Rng) (p:List Int) (l:List Dev):Int:=match Tn r p l with
 |some b=>b.1.1
 |none => -1
def Yla {r:Rng} {p zs:List Int} {l:List Dev} {a:Option (Dev×Bool)} {d:Dev} (ha:∀ b,a=some b→b.1∈l∧b.1.1∉p) (hd:d∈l):∀ b,Bna r p zs a d=some b→b.1∈l∧b.1.1∉p:=by
 intro b hb
 unfold Bna at hb
 cases hp:Mb p d.1
 case true=>rw[hp]at hb;exact ha b hb
 have hn:d.1∉p:=λ c=>by rw[O5.2 c]at hp;cases hp
 rw[hp,cond_false]at hb
 cases a with
 |none=>cases hb;exact⟨hd,hn⟩
 |some c=>
  obtain⟨c,fr⟩:=c
  simp only at hb
  cases hq:(!(Mb zs d.2.1)&&!fr)||(((!(Mb zs d.2.1))==fr)&&decide ((Mr r d.1+1)*c.2.2<(Mr r c.1+1)*d.2.2)) with
  |true=>rw[hq]at hb;cases hb;exact⟨hd,hn⟩
  |false=>rw[hq]at hb;cases hb;exact ha _ rfl
def Npa {r:Rng} {p zs:List Int} {l:List Dev}:∀ (m:List Dev) (a:Option (Dev×Bool)),(∀ b,a=some b→b.1∈l∧b.1.1∉p)→(∀ d∈m,d∈l)→∀ b,m.foldl (Bna r p zs) a=some b→b.1∈l∧b.1.1∉p
 |[],_,ha,_=>ha
 |d::m,_,ha,hm=>Npa m _ (Yla ha (hm d Yc)) (λ x hx=>hm x (Vh _ hx))
def Nqa {r:Rng} {p:List Int} {l:List Dev} {b:Dev×Bool} (h:Tn r p l=some b):b.1∈l∧b.1.1∉p:=Npa l none (λ b h=>by cases h) (λ _ h=>h) b h
def Pua {r:Rng} {p zs:List Int} {a:Option (Dev×Bool)} {d:Dev} (h:a.isSome=true∨d.1∉p):(Bna r p zs a d).isSome=true:=by
 unfold Bna
 cases hp:Mb p d.1 with
 |true=>
  rcases h with h|h
  ·exact h
  ·exact absurd (O5.1 hp) h
 |false=>
  cases a with
  |none=>rfl
  |some c=>
   obtain⟨c,fr⟩:=c
   simp only[cond_false]
   cases (!(Mb zs d.2.1)&&!fr)||(((!(Mb zs d.2.1))==fr)&&decide ((Mr r d.1+1)*c.2.2<(Mr r c.1+1)*d.2.2))<;>rfl
def Doa {r:Rng} {p zs:List Int}:∀ (m:List Dev) (a:Option (Dev×Bool)),(a.isSome=true∨∃ d∈m,d.1∉p)→(m.foldl (Bna r p zs) a).isSome=true
 |[],a,h=>by
  rcases h with h|⟨d,h,_⟩
  ·exact h
  ·cases h
 |d::m,a,h=>by
  refine Doa m _ ?_
  by_cases hd:a.isSome=true∨d.1∉p
  ·exact .inl (Pua hd)
  ·rcases h with h|⟨x,hx,hn⟩
   ·exact absurd (.inl h) hd
   ·rcases Vl.1 hx with rfl|hx
    ·exact absurd (.inr hn) hd
    ·exact .inr ⟨x,hx,hn⟩
def Yma {r:Rng} {p:List Int} {l:List Dev} (h:∃ d∈l,d.1∉p):∃ d∈l,Cia r p l=d.1∧d.1∉p:=by
 obtain⟨b,hb⟩:=Zm.1 (Doa (r:=r) (zs:=Km p l) l none (.inr h))
 obtain⟨h1,h2⟩:=Nqa hb
 exact⟨b.1,h1,by unfold Cia;rw[show Tn r p l=some b from hb],h2⟩
def Pva (r:Rng) (p:List Int) (l:List Dev):(Tn r p l=none∧Cia r p l = -1)∨∃ b,Tn r p l=some b∧Cia r p l=b.1.1∧b.1∈l∧b.1.1∉p:=by
 cases h:Tn r p l with
 |none=>exact .inl ⟨rfl,by unfold Cia;rw[h]⟩
 |some b=>exact .inr ⟨b,rfl,by unfold Cia;rw[h],Nqa h⟩
def Boa (p:List Int) (l:List Dev):(Km p l).length≤p.length:=by
 have:=I9a l p []
 rwa [Vk,Wk]at this
def bs (r:Rng):Option (Dev×Bool)→Int×Bool×Dev
 |some (b,fr)=>(Mr r b.1+1,fr,b)
 |none=>(0,false,-1,0,0)
def Nra (r:Rng) (p:List Int) (l:List Dev) (hr:RBd r) (hp:p.length≤2000000) (hl:M8 l=true):Tot (λ k=>I4 k r p l) (λ x=>x=Cia r p l):=by
 obtain⟨_,hdv,_,h12⟩:=Fl.1 hl
 have hz:=Boa p l
 unfold I4
 refine Icb (Iaa p l (by omega) (by omega)) ?_
 refine I1b (Q:=λ x=>∃ i:Int,x=(l,i)∧match Tn r p l with|some b=>∃ n:Nat,i=(n:Int)∧n<l.length∧l.getD n Nv=b.1|none=>i = -1) ?_ ?_
 ·refine I9b (L:=λ k i (s:Int×Bool)=>Bp k l (Km p l) s.1 s.2 i r p) (Q:=λ x=>∃ i:Int,x=(l,i)∧match Tn r p l with|some b=>∃ n:Nat,i=(n:Int)∧n<l.length∧l.getD n Nv=b.1|none=>i = -1) l.length
   (λ j s=>∃ a,(match a with|some (b,fr)=>s.2=fr∧∃ n:Nat,s.1=(n:Int)∧n<l.length∧l.getD n Nv=b|none=>s=(-1,false))∧(l.drop j).foldl (Bna r p (Km p l)) a=Tn r p l) ?_ ?_ 0 (-1,false) (Vs _) ⟨none,rfl,rfl⟩
  ·rintro⟨s1,s2⟩ ⟨a,hs,h⟩
   rw[We]at h
   simp (disch:=omega) only [Bp,dF]
   refine I0b ⟨s1,rfl,?_⟩
   rw[← h]
   cases a with
   |none=>exact(Prod.mk.inj hs).1
   |some bf=>exact hs.2
  ·rintro j ⟨s1,s2⟩ hj ⟨a,hs,h⟩ next
   rw[Ai (d:=Nv) hj,Yq]at h
   have hd:=A3 (d:=Nv) hj
   obtain⟨d,ed⟩:∃ d:Dev,l.getD j Nv=d:=⟨_,rfl⟩
   rw[ed]at h hd
   have e0:l.getD j ((0:Int),((0:Int),(0:Int)))=d:=ed
   obtain⟨_,_,w0,w1⟩:=Oa.1 (hdv _ hd)
   have l1:=Uy hr d.1
   simp (disch:=omega) only [Bp,dT,Vb,w64,e0]
   refine Icb (Fba l (by omega)) ?_
   refine I3b hl (Icb (Tm p d.1 (by omega)) ?_)
   unfold Bna at h
   cases hp':Mb p d.1 with
   |true=>
    rw[hp']at h
    exact I3b rfl (next _ ⟨a,hs,h⟩)
   |false=>
    rw[hp',cond_false]at h
    refine I2b rfl (Icb (Tm (Km p l) d.2.1 (by omega)) ?_)
    have take:∀ {z:Bool},(l.drop (j+1)).foldl (Bna r p (Km p l)) (some (d,z))=Tn r p l→Tot (λ k=>Bp k l (Km p l) (j:Int) z ((j:Int)+1) r p) (λ x=>∃ i:Int,x=(l,i)∧match Tn r p l with|some b=>∃ n:Nat,i=(n:Int)∧n<l.length∧l.getD n Nv=b.1|none=>i = -1):=λ {z} h2=>next ((j:Int),z) ⟨some (d,z),⟨rfl,j,rfl,hj,ed⟩,h2⟩
    cases a with
    |none=>
     obtain⟨rfl,rfl⟩:=Prod.mk.inj hs
     exact I4b (by decide) (take h)
    |some bf=>
     obtain⟨b,fr⟩:=bf
     obtain⟨e1,n,e2,hn,e3⟩:=hs
     dsimp only at e1 e2
     subst e1 e2
     have hb:=A3 (d:=Nv) hn
     rw[e3]at hb
     obtain⟨⟨i0,_⟩,_,v0,v1⟩:=Oa.1 (hdv _ hb)
     have l2:=Uy hr b.1
     have m1:=Hqb (a:=Mr r d.1+1) (w:=b.2.2) (by omega) (by omega) (by omega) v1
     have m2:=Hqb (a:=Mr r b.1+1) (w:=d.2.2) (by omega) (by omega) (by omega) w1
     have stay:(l.drop (j+1)).foldl (Bna r p (Km p l)) (some (b,s2))=Tn r p l→Tot (λ k=>Bp k l (Km p l) (n:Int) s2 ((j:Int)+1) r p) (λ x=>∃ i:Int,x=(l,i)∧match Tn r p l with|some b=>∃ n:Nat,i=(n:Int)∧n<l.length∧l.getD n Nv=b.1|none=>i = -1):=λ h2=>next ((n:Int),s2) ⟨some (b,s2),⟨rfl,n,rfl,hn,e3⟩,h2⟩
     refine I5b (by omega) ?_
     have e4:l.getD n ((0:Int),((0:Int),(0:Int)))=b:=e3
     dsimp only at h
     have cmp:∀ {z:Bool},Mb (Km p l) d.2.1=z→((!z)==s2)=true→(!z&&!s2)=false→Tot (λ k=>(Cq k r d.1).bind λ r5=>cond (decide ((0:Int)≤(n:Int))) (cond (decide ((n:Int)<(length l:Int))) (cond (decide ((0:Int)≤(n:Int))) (cond (decide ((n:Int)<(length l:Int))) ((Cq k r (getD l (toNat (n:Int)) ((0:Int),((0:Int),(0:Int)))).1).bind λ r8=>cond (decide ((wrap .i64 ((wrap .i64 (r5+1))*(getD l (toNat (n:Int)) ((0:Int),((0:Int),(0:Int)))).2.2))<(wrap .i64 ((wrap .i64 (r8+1))*d.2.2)))) (Bp k l (Km p l) (j:Int) s2 ((j:Int)+1) r p) (Bp k l (Km p l) (n:Int) s2 ((j:Int)+1) r p)) none) none) none) none) (λ x=>∃ i:Int,x=(l,i)∧match Tn r p l with|some b=>∃ n:Nat,i=(n:Int)∧n<l.length∧l.getD n Nv=b.1|none=>i = -1):=by
      intro z hz e1 e2
      rw[hz,e1,e2,Zza,Vx]at h
      refine Icb (A0a r d.1 hr) ?_
      refine I4b (by omega) (I4b (by omega) (I4b (by omega) (I4b (by omega) ?_)))
      rw[Vb,e4]
      refine Icb (A0a r b.1 hr) ?_
      rw[w64 (n:=Mr r d.1+1) (by omega) (by omega),w64 (n:=Mr r b.1+1) (by omega) (by omega),w64 m1.1 m1.2,w64 m2.1 m2.2]
      refine I6b (λ hc=>?_) (λ hc=>?_)
      ·rw[hc,cond_true]at h
       rw[show s2 = !z by rw[← eq_of_beq e1]]
       exact take h
      ·rw[hc]at h;exact stay h
     cases hz:Mb (Km p l) d.2.1 with
     |false=>
      have cm:=cmp hz
      rw[hz]at h
      cases s2 with
      |false=>exact I3b rfl (I3b rfl (take h))
      |true=>exact I3b rfl (I2b rfl (I3b rfl (cm rfl rfl)))
     |true=>
      have cm:=cmp hz
      rw[hz]at h
      cases s2 with
      |false=>exact I2b rfl (I3b rfl (cm rfl rfl))
      |true=>exact I2b rfl (I2b rfl (stay h))
 ·rintro x ⟨i,rfl,hi⟩
  unfold Cia
  cases hb:Tn r p l with
  |none=>
   rw[hb]at hi
   subst hi
   exact I4b (show (-1:Int)<0 by decide) (I0b rfl)
  |some b=>
   rw[hb]at hi
   obtain⟨n,rfl,hn,e⟩:=hi
   dsimp only
   refine I5b (by omega) (I4b (by omega) (I4b (by omega) (I0b ?_)))
   rw[Vb,show l.getD n ((0:Int),((0:Int),(0:Int)))=b.1 from e]

def Uea {l:List Dev} (h:M8 l=true) {d:Dev} (hd:d∈l):La l d.1=some d:=by
 have hp:=(Fl.1 h).1
 clear h
 induction l with
 |nil=>cases hd
 |cons x l ih=>
  obtain⟨h1,h2⟩:=Wh.1 hp
  unfold La
  rw[Jab]
  rcases Vl.1 hd with rfl|hd
  ·rw[beq_self_eq_true]
  ·have:=h1 d hd
   rw[show (x.1==d.1)=false from beq_eq_false_iff_ne.2 (by omega)]
   exact ih hd h2
def Aob:∀ (p:List Int) (l:List Dev),l.Pairwise (λ a b=>a.1<b.1)→p.length<l.length→∃ d∈l,d.1∉p
 |p,[],_,h=>by simp at h
 |p,d::l,hl,h=>by
  obtain⟨h1,h2⟩:=Wh.1 hl
  by_cases hd:d.1∈p
  ·have hlen:(p.erase d.1).length=p.length-1:=Jxb hd
   have hpos:=Ixb hd
   rw[Vd]at h
   obtain⟨x,hx,hn⟩:=Aob (p.erase d.1) l h2 (by omega)
   refine⟨x,Vh _ hx,λ c=>hn ?_⟩
   have:=h1 x hx
   exact(Kkb (by omega)).2 c
  ·exact⟨d,Yc,hd⟩
def Pwa (l:List Dev) (n:Nat) (p:List Int):Prop:=p.Nodup∧p.length=n∧∀ id∈p,∃ d,La l id=some d
def Ufa {r:Rng} {l:List Dev} {n:Nat} {p:List Int} (hl:M8 l=true) (h:Pwa l n p) (hn:n<l.length):Pwa l (n+1) (p++[Cia r p l]):=by
 obtain⟨h1,h2,h3⟩:=h
 obtain⟨d,hd,e,hne⟩:=Yma (r:=r) (Aob p l (Fl.1 hl).1 (by omega))
 rw[e]
 refine⟨?_,by rw[Ve];simp[h2],λ id hid=>?_⟩
 ·rw[Yp]
  exact⟨h1,by simp,λ a ha b hb c=>by rw[Vu.1 hb]at c;subst c;exact hne ha⟩
 ·rcases Vo.1 hid with hid|hid
  ·exact h3 id hid
  ·rw[Vu.1 hid];exact⟨d,Uea hl hd⟩
def Iea (l:List Dev) (reps:Int) (ps:List (List Int)):Nat→List Int→List Int
 |0,p=>p
 |n+1,p=>Iea l reps ps n (p++[Cia (reps,ps++[p]) p l])
def Qma (l:List Dev) (reps:Int):Nat→List (List Int)→List (List Int)
 |0,ps=>ps
 |n+1,ps=>Qma l reps n (ps++[Iea l reps ps reps.toNat []])
def build (l:List Dev) (parts reps:Int):Rng×Bool:=bif M8 l&&(inR parts 1 64&&(inR reps 1 5&&!(decide (reps > (l.length:Int))))) then ((reps,Qma l reps parts.toNat []),true) else ((0,[]),false)
def Nsa {l:List Dev} {reps:Int} {ps:List (List Int)} (hl:M8 l=true):∀ (n m:Nat) (p:List Int),Pwa l m p→m+n≤l.length→Pwa l (m+n) (Iea l reps ps n p)
 |0,_,_,h,_=>h
 |n+1,m,p,h,hm=>by
  have:=Nsa (reps:=reps) (ps:=ps) hl n (m+1) _ (Ufa (r:=(reps,ps++[p])) hl h (by omega)) (by omega)
  rwa [show m+1+n=m+(n+1) by omega]at this
def Uga {l:List Dev} {reps:Int} (hl:M8 l=true) (hr:reps≤(l.length:Int)):∀ (n:Nat) (ps:List (List Int)),(∀ p∈ps,Pwa l reps.toNat p)→(Qma l reps n ps).length=ps.length+n∧∀ p∈Qma l reps n ps,Pwa l reps.toNat p
 |0,ps,h=>⟨rfl,h⟩
 |n+1,ps,h=>by
  have hf:=Nsa (reps:=reps) (ps:=ps) hl reps.toNat 0 [] ⟨List.nodup_nil,rfl,λ _ h=>by cases h⟩ (by omega)
  rw[Wk]at hf
  obtain⟨h1,h2⟩:=Uga hl hr n (ps++[Iea l reps ps reps.toNat []]) (λ p hp=>by
   rcases Vo.1 hp with hp|hp
   ·exact h p hp
   ·rw[Vu.1 hp];exact hf)
  refine⟨?_,h2⟩
  show (Qma l reps n _).length=_
  rw[h1,Ve]
  simp only[Vd,Vk]
  omega
def Nta {l:List Dev} {parts reps:Int} (h:(build l parts reps).2=true):M8 l=true∧Jo (build l parts reps).1 l=true∧(build l parts reps).1.1=reps∧((build l parts reps).1.2.length:Int)=parts:=by
 unfold build at h ⊢
 cases hc:M8 l&&(inR parts 1 64&&(inR reps 1 5&&!(decide (reps > (l.length:Int)))))
 ·rw[hc]at h;cases h
 rw[Va,Va,Va,Vw,decide_eq_false_iff_not,Fi,Fi]at hc
 obtain⟨h1,h2,h3,h4⟩:=hc
 obtain⟨b1,b2⟩:=Uga (reps:=reps) h1 (by omega) parts.toNat [] (λ p hp=>by cases hp)
 rw[Vk,Wk]at b1
 have b1':((Qma l reps parts.toNat []).length:Int)=parts:=by rw[b1];omega
 refine⟨h1,C4.2 ⟨h1,h3,⟨by show 1≤(Qma l reps parts.toNat []).length;omega,by show (Qma l reps parts.toNat []).length≤64;omega⟩,λ p hp=>?_⟩,rfl,b1'⟩
 obtain⟨c1,c2,c3⟩:=b2 p hp
 exact⟨c1,by rw[c2];show ((reps.toNat:Nat):Int)=reps;omega,c3⟩
def Ifa {l:List Dev} {reps:Int} {ps:List (List Int)}:∀ (n:Nat) (p:List Int),(Iea l reps ps n p).length=p.length+n
 |0,_=>rfl
 |n+1,p=>by
  show (Iea l reps ps n _).length=_
  rw[Ifa n,Ve]
  simp only[Vd,Vk]
  omega
def Uha {α:Type} (l:List α) (x d:α):(l++[x]).getD l.length d=x:=by
 rw[Vc,Yh (Vv _),Jdb]
 rfl
def Yna {α:Type} (l:List α) (x y:α):(l++[x]).set l.length y=l++[y]:=by
 rw[Lgb _ _ (Vv _),Jdb]
 rfl
def Iga (l:List Dev) (parts reps:Int) (z:Rng) (hl:M8 l=true) (h0:0≤reps) (h5:reps≤5) (ps:List (List Int)) (hps:ps.length≤100) (hq:∀ q∈ps,q.length≤100):∀ (n:Nat) (p:List Int),p.length+n=reps.toNat→
  Tot (λ k=>Ii k l parts reps (ps.length:Int) (p.length:Int) z (reps,ps++[p])) (λ x=>x=(l,parts,reps,(ps.length:Int),z,(reps,ps++[Iea l reps ps n p]))):=by
 intro n
 induction n with
 |zero=>
  intro p hp
  refine Tot.succ ?_
  simp (disch:=omega) only [Ii,dF]
  exact I0b rfl
 |succ n ih=>
  intro p hp
  refine Tot.succ ?_
  have hrb:RBd (reps,ps++[p]):=⟨by simp only[Ve,Vd,Vk];omega,λ q hq'=>by
   rcases Vo.1 hq' with h|h
   ·have:=hq q h;omega
   ·rw[Vu.1 h];omega⟩
  have hlen:(ps++[p]).length=ps.length+1:=by simp
  simp (disch:=omega) only [Ii,dT,Vb,w64,hlen,Uha,Yna]
  refine Icb (Nra (reps,ps++[p]) p l hrb (by omega) hl) ?_
  refine I3b (decide_eq_true trivial) (I8b (by simp only[Vd,Vk];omega) (I3b (decide_eq_true trivial) ?_))
  have:=ih (p++[Cia (reps,ps++[p]) p l]) (by simp only[Ve,Vd,Vk];omega)
  rw[show (((p++[Cia (reps,ps++[p]) p l]).length:Nat):Int)=(p.length:Int)+1 by simp]at this
  exact this
def Uia (l:List Dev) (parts reps:Int) (hll:l.length≤5000000):Tot (λ k=>Gy k l parts reps) (λ x=>x=build l parts reps):=by
 unfold Gy build
 refine Icb (Fba l (by omega)) ?_
 cases hl:M8 l
 ·exact I3b rfl (I0b rfl)
 simp only[Yx,cond_false,Ov,Vp,Vx]
 cases hp:inR parts 1 64
 ·exact I3b rfl (I0b rfl)
 refine I2b rfl ?_
 cases hr:inR reps 1 5
 ·exact I3b rfl (I0b rfl)
 obtain⟨r1,r2⟩:=Fi.1 hr
 obtain⟨p1,p2⟩:=Fi.1 hp
 refine I2b rfl ?_
 cases hc:decide (reps > (l.length:Int))
 case true=>exact I3b rfl (I0b rfl)
 refine I2b rfl (I1b (Q:=λ x=>x=(((0:Int),([]:List (List Int))),(reps,Qma l reps parts.toNat []))) ?_ (by rintro x rfl;exact I0b rfl))
 obtain⟨n,rfl⟩:∃ n:Nat,parts=(n:Int):=⟨parts.toNat,by omega⟩
 refine I9b (L:=λ k i (s:Rng)=>Ij k l (n:Int) reps i (0,[]) s) (Q:=λ x=>x=(((0:Int),([]:List (List Int))),(reps,Qma l reps n []))) n (λ j s=>∃ ps,s=(reps,ps)∧ps.length=j∧(∀ q∈ps,q.length≤100)∧Qma l reps (n-j) ps=Qma l reps n []) ?_ ?_ 0 (reps,[]) (Vs _) ⟨[],rfl,rfl,λ q h=>(by cases h),rfl⟩
 ·rintro s ⟨ps,rfl,hps,_,h⟩
  rw[Jdb]at h
  simp (disch:=omega) only [Ij,dF]
  exact I0b (by rw[← h];rfl)
 ·rintro j s hj ⟨ps,rfl,hps,hq,h⟩ next
  simp (disch:=omega) only [Ij,dT]
  refine I8b (by simp only[Vd,Vk];omega) ?_
  have h9:=Iga l (n:Int) reps (0,[]) hl (by omega) r2 ps (by omega) hq reps.toNat [] (by simp)
  rw[hps]at h9
  refine I1b h9 ?_
  rintro x rfl
  simp (disch:=omega) only [w64]
  refine next _ ⟨ps++[Iea l reps ps reps.toNat []],rfl,by rw[Ve,hps];rfl,λ q hq'=>?_,?_⟩
  ·rcases Vo.1 hq' with h'|h'
   ·exact hq q h'
   ·rw[Vu.1 h',Ifa,Vk];omega
  ·rw[show n-j=(n-(j+1))+1 by omega]at h
   exact h

def Nua:∀ (p q:List Int),p.Nodup→(∀ x∈p,x∈q)→p.length≤q.length
 |[],_,_,_=>Vs _
 |x::p,q,h,hs=>by
  obtain⟨h1,h2⟩:=Yt.1 h
  have hx:=hs x Yc
  have hlen:(q.erase x).length=q.length-1:=Jxb hx
  have hpos:=Ixb hx
  have:=Nua p (q.erase x) h2 (λ y hy=>(Kkb (λ c=>by subst c;exact h1 hy)).2 (hs y (Vh _ hy)))
  rw[Vd]
  omega
def Uja {r:Rng} {l:List Dev} (h:Jo r l=true):r.1≤(l.length:Int):=by
 obtain⟨_,_,h3,h4⟩:=C4.1 h
 obtain⟨p,hp⟩:=Kfb (show 0<r.2.length by omega)
 obtain⟨q1,q2,q3⟩:=h4 p hp
 have:=Nua p (l.map (·.1)) q1 (λ x hx=>by
  obtain⟨d,hd⟩:=q3 x hx
  obtain⟨hm,he⟩:=X6 hd
  exact Zb.2 ⟨d,hm,he⟩)
 rw[Wd]at this
 omega
def Laa {r:Rng} {l:List Dev} (h:Jo r l=true):Tot (λ k=>Jw k r l) (λ b=>b=true):=by
 have hrp:=Uja h
 obtain⟨h1,h2,h3,h4⟩:=C4.1 h
 obtain⟨_,_,_,h12⟩:=Fl.1 h1
 unfold Jw
 refine Icb (Fba l (by omega)) ?_
 refine I2b (by rw[h1];rfl) ?_
 simp only[Ov,Vp]
 refine I2b (by rw[Fi.2 h2];rfl) (I5b (by omega) (I2b (by rw[Fi.2 (by omega)];rfl) ?_))
 refine I1b (Q:=λ b=>b = .inr ()) ?_ (by rintro b rfl;exact I0b rfl)
 refine I9b (L:=λ k i (_:Unit)=>Jk k i r) (Q:=λ b=>b = .inr ()) r.2.length (λ _ _=>True) ?_ ?_ 0 () (Vs _) trivial
 ·intro _ _
  simp (disch:=omega) only [Jk,dF]
  exact I0b rfl
 ·intro j _ hj _ next
  obtain⟨q1,q2,_⟩:=h4 _ (A3 (d:=[]) hj)
  simp (disch:=omega) only [Jk,dT,Vb,w64]
  refine Icb (Yja _ _ (by omega)) ?_
  exact I2b (by rw[decide_eq_true q1,q2];simp) (next () trivial)
def Yoa (p:List Int) (l:List Dev) (h:∀ id∈p,∃ d,La l id=some d) (hp:p.length≤5000000) (hl:l.length≤5000000):Tot (λ k=>Gp k p l) (λ x=>x = -1):=by
 unfold Gp
 refine I1b (Q:=λ x=>x = .inr ()) ?_ (by rintro x rfl;exact I0b rfl)
 refine I9b (L:=λ k i (_:Unit)=>He k l i p) (Q:=λ x=>x = .inr ()) p.length (λ _ _=>True) ?_ ?_ 0 () (Vs _) trivial
 ·intro _ _
  simp (disch:=omega) only [He,dF]
  exact I0b rfl
 ·intro j _ hj _ next
  simp (disch:=omega) only [He,dT,Vb,w64]
  refine Icb (Ux l _ (by omega)) ?_
  obtain⟨d,hd⟩:=h _ (A3 (d:=0) hj)
  exact I2b (by rw[hd];rfl) (next () trivial)
def hv (r:Rng) (l:List Dev) (b id:Int):Bool:=match La l b with
 |none=>false
 |some x=>match La l id with
  |none=>false
  |some d=>(d.2.1==x.2.1)&&decide (Mr r id-Mr r b≥2)
def Qna (r:Rng) (l:List Dev) (p:List Int) (b:Int):Option Nat:=p.findIdx? (hv r l b)
def oI:Option Nat→Int
 |some i=>(i:Int)
 |none => -1
def Iha {f:Int→Bool} {p:List Int} {j:Nat} (hj:j<p.length) (h:((p.drop j).findIdx? f).map (· + j)=p.findIdx? f):
  (f (p.getD j 0)=true→p.findIdx? f=some j)∧(f (p.getD j 0)=false→((p.drop (j+1)).findIdx? f).map (· + (j+1))=p.findIdx? f):=by
 rw[Ai (d:=0) hj,K2b]at h
 constructor
 ·intro c
  rw[if_pos c]at h
  rw[← h,Jyb,Wk]
 ·intro c
  rw[if_neg (by rw[c];simp)]at h
  rw[← h,Option.map_map]
  congr 1
  funext x
  show x+(j+1)=x+1+j
  omega
def Uka (r:Rng) (p:List Int) (l:List Dev) (b:Int) (hr:RBd r) (hp:p.length≤2000000) (hl:l.length≤2000000):Tot (λ k=>F7 k r p l b) (λ x=>x=oI (Qna r l p b)):=by
 unfold F7
 refine Icb (Ux l b (by omega)) ?_
 refine I1b (Q:=λ x=>x=match Qna r l p b with|some i => .inl (i:Int)|none => .inr ()) ?_ (by rintro x rfl;cases Qna r l p b<;>exact I0b rfl)
 cases hb:La l b with
 |none=>
  have hn:Qna r l p b=none:=by unfold Qna;rw[L1b];intro x _;unfold hv;rw[hb]
  rw[hn]
  refine Tot.succ ?_
  by_cases hp0:(0:Int)<(p.length:Int)
  ·simp (disch:=omega) only [C9,dT,Hdb,cond_false]
   exact I0b rfl
  ·simp (disch:=omega) only [C9,dF]
   exact I0b rfl
 |some x=>
  have hvI:∀ id,hv r l b id=match La l id with|none=>false|some d=>(d.2.1==x.2.1)&&decide (Mr r id-Mr r b≥2):=λ id=>by unfold hv;rw[hb]
  refine I9b (L:=λ k i (_:Unit)=>C9 k l b true i r p x) (Q:=λ x=>x=match Qna r l p b with|some i => .inl (i:Int)|none => .inr ()) p.length (λ j _=>((p.drop j).findIdx? (hv r l b)).map (· + j)=p.findIdx? (hv r l b)) ?_ ?_ 0 () (Vs _) (by simp)
  ·intro _ h
   rw[We]at h
   have hn:Qna r l p b=none:=h.symm
   rw[hn]
   simp (disch:=omega) only [C9,dF]
   exact I0b rfl
  ·intro j _ hj h next
   obtain⟨k1,k2⟩:=Iha hj h
   simp (disch:=omega) only [C9,dT,Vb,w64,cond_true]
   generalize p.getD j 0=id at *
   refine Icb (Ux l id (by omega)) ?_
   rw[hvI]at k1 k2
   cases hd:La l id with
   |none=>
    rw[hd]at k2
    exact I2b rfl (next () (k2 rfl))
   |some d=>
    rw[hd]at k1 k2
    obtain⟨_,e⟩:=X6 hd
    refine I3b rfl ?_
    cases hz:d.2.1==x.2.1
    ·exact I2b hz (next () (k2 (by simp only[hz,Ys])))
    refine I3b hz (Icb (A0a r d.1 hr) ?_)
    refine Icb (A0a r b hr) ?_
    have l1:=Uy hr d.1
    have l2:=Uy hr b
    simp (disch:=omega) only [w64]
    refine I7b (λ hc=>I0b ?_) (λ hc=>next () (k2 ?_))
    ·have hn:Qna r l p b=some j:=k1 (by simp only[hz,Vx];rw[← e];exact decide_eq_true hc)
     rw[hn]
    ·simp only[hz,Vx];rw[← e];exact decide_eq_false hc
def rb1 (l:List Dev) (s:Int×Rng) (j:Nat):Int×Rng:=match Qna s.2 l (s.2.2.getD j []) (Cia s.2 (s.2.2.getD j []) l) with
 |none=>s
 |some i=>(s.1+1,(s.2.1,s.2.2.set j ((s.2.2.getD j []).set i (Cia s.2 (s.2.2.getD j []) l))))
def rbs (l:List Dev) (r:Rng) (n:Nat):Int×Rng:=(List.range n).foldl (rb1 l) (0,r)
def Lba (r:Rng) (l:List Dev):Rng×Int:=((rbs l r r.2.length).2,(rbs l r r.2.length).1)
def Nva (l:List Dev) (r:Rng) (n:Nat):rbs l r (n+1)=rb1 l (rbs l r n) n:=by
 unfold rbs
 rw[Krb,Isb]
 rfl
def Xn {r:Rng} {l:List Dev} {p:List Int} {i:Nat} (hl:M8 l=true) (h:Qna r l p (Cia r p l)=some i):i<p.length∧Cia r p l∉p∧0≤Cia r p l∧∃ d,La l (Cia r p l)=some d:=by
 obtain⟨h1,h2,_⟩:=J4b.1 h
 refine⟨h1,?_⟩
 unfold hv at h2
 cases hb:La l (Cia r p l) with
 |none=>rw[hb]at h2;cases h2
 |some d=>
  obtain⟨hd,he⟩:=X6 hb
  obtain⟨⟨i0,_⟩,_⟩:=Oa.1 ((Fl.1 hl).2.1 _ hd)
  refine⟨?_,by omega,d,rfl⟩
  rcases Pva r p l with⟨_,e⟩|⟨b,_,e,_,hn⟩
  ·omega
  ·rw[e];exact hn
def Ula {p:List Int} {b:Int} (h:p.Nodup) (hb:b∉p) (i:Nat):(p.set i b).Nodup:=by
 induction p generalizing i with
 |nil=>exact h
 |cons x p ih=>
  obtain⟨h1,h2⟩:=Yt.1 h
  cases i with
  |zero=>exact Yt.2 ⟨λ c=>hb (Vh _ c),h2⟩
  |succ i=>
   refine Yt.2 ⟨λ c=>?_,ih h2 (λ c=>hb (Vh _ c)) i⟩
   rcases Yn c with c|c
   ·exact h1 c
   ·exact hb (c ▸ Yc)
def Fpb {l:List Dev} {s:Int×Rng} {j:Nat} (hj:j<s.2.2.length) (h:Jo s.2 l=true):Jo (rb1 l s j).2 l=true∧(rb1 l s j).2.1=s.2.1∧(rb1 l s j).2.2.length=s.2.2.length∧s.1≤(rb1 l s j).1∧(rb1 l s j).1≤s.1+1:=by
 unfold rb1
 obtain⟨h1,h2,h3,h4⟩:=C4.1 h
 cases hx:Qna s.2 l (s.2.2.getD j []) (Cia s.2 (s.2.2.getD j []) l) with
 |none=>exact⟨h,rfl,rfl,by dsimp only;omega,by dsimp only;omega⟩
 |some i=>
  obtain⟨b1,b2,_,b3⟩:=Xn h1 hx
  obtain⟨q1,q2,q3⟩:=h4 _ (A3 (d:=[]) hj)
  refine⟨C4.2 ⟨h1,h2,by dsimp only;rw[List.length_set];exact h3,λ p hp=>?_⟩,rfl,by dsimp only;rw[List.length_set],by dsimp only;omega,by dsimp only;omega⟩
  rcases Yn hp with hp|hp
  ·exact h4 p hp
  ·subst hp
   refine⟨Ula q1 b2 i,by rw[Wb];exact q2,λ id hid=>?_⟩
   rcases Yn hid with hid|hid
   ·exact q3 id hid
   ·rw[hid];exact b3
def Nwa {l:List Dev} {r:Rng} (h:Jo r l=true):∀ (n:Nat),n≤r.2.length→Jo (rbs l r n).2 l=true∧(rbs l r n).2.1=r.1∧(rbs l r n).2.2.length=r.2.length∧0≤(rbs l r n).1∧(rbs l r n).1≤n
 |0,_=>⟨h,rfl,rfl,Iob _,Iob _⟩
 |n+1,hn=>by
  obtain⟨h1,h2,h3,h4,h5⟩:=Nwa h n (by omega)
  obtain⟨g1,g2,g3,g4,g5⟩:=Fpb (j:=n) (by omega) h1
  rw[Nva]
  exact⟨g1,by rw[g2,h2],by rw[g3,h3],by omega,by omega⟩
def Nxa {r:Rng} {l:List Dev} (h:Jo r l=true):Jo (Lba r l).1 l=true∧(Lba r l).1.1=r.1∧(Lba r l).1.2.length=r.2.length∧0≤(Lba r l).2:=by
 obtain⟨h1,h2,h3,h4,_⟩:=Nwa h r.2.length (Vv _)
 exact⟨h1,h2,h3,h4⟩
def Uma {r:Rng} {l:List Dev} (h:Jo r l=true):Tot (λ k=>Cl k r l) (λ x=>x=Lba r l):=by
 obtain⟨_,_,h64,_⟩:=C4.1 h
 unfold Cl
 refine I1b (Ida r (Mv h)) ?_
 rintro x rfl
 refine I1b (Laa h) ?_
 rintro b rfl
 refine I2b rfl (I1b (Q:=λ y=>y=((rbs l x x.2.length).1,((0:Int),([]:List (List Int))),(rbs l x x.2.length).2)) ?_ (by rintro y rfl;exact I0b rfl))
 refine I9b (L:=λ k i (s:Int×Rng)=>B3 k l s.1 i (0,[]) s.2) (Q:=λ y=>y=((rbs l x x.2.length).1,((0:Int),([]:List (List Int))),(rbs l x x.2.length).2)) x.2.length (λ j s=>s=rbs l x j) ?_ ?_ 0 (0,x) (Vs _) rfl
 ·rintro s rfl
  obtain⟨_,_,g3,_⟩:=Nwa h x.2.length (Vv _)
  simp (disch:=omega) only [B3,dF]
  exact I0b rfl
 ·rintro j s hj rfl next
  obtain⟨g1,g2,g3,g4,g5⟩:=Nwa h j (by omega)
  rw[Nva]at next
  generalize rbs l x j=s at *
  obtain⟨c,r⟩:=s
  dsimp only at g1 g2 g3 g4 g5
  obtain⟨q0,_,_,q4⟩:=C4.1 g1
  obtain⟨p1,p2,p3⟩:=q4 _ (A3 (d:=[]) (show j<r.2.length by omega))
  have hx2:=(C4.1 h).2.1
  have l12:=(Fl.1 q0).2.2.2
  unfold rb1 at next
  dsimp only at next
  obtain⟨p,hp⟩:∃ p,r.2.getD j []=p:=⟨_,rfl⟩
  rw[hp]at p1 p2 p3
  simp only[hp]at next
  simp (disch:=omega) only [B3,dT,Vb,w64,hp]
  refine I1b (Yoa p l p3 (by omega) (by omega)) ?_
  rintro x rfl
  refine I5b (by omega) (I1b (Nra r p l (Mv g1) (by omega) q0) ?_)
  rintro b rfl
  refine I1b (Uka r p l _ (Mv g1) (by omega) (by omega)) ?_
  rintro y rfl
  cases hi:Qna r l p (Cia r p l) with
  |none=>
   rw[hi]at next
   exact I5b (by show ¬ ((-1:Int)≥0);omega) (next _ rfl)
  |some i=>
   obtain⟨b1,b2,b3,_⟩:=Xn q0 hi
   rw[hi]at next
   have e:oI (some i)=(i:Int):=rfl
   simp (disch:=omega) only [e,dT,Vb]
   exact next _ rfl
def wgt (l:List Dev) (i:Nat) (w:Int):List Dev:=l.set i ((l.getD i Nv).1,(l.getD i Nv).2.1,w)
def Fca (l:List Dev) (i:Nat) (w:Int):(wgt l i w).map (·.1)=l.map (·.1):=by
 unfold wgt
 rw[List.map_set]
 by_cases hi:i<l.length
 ·have:(l.getD i Nv).1=(l.map (·.1)).getD i 0:=by
   simp only[Vc,Igb,Vj hi,Jyb,Yv]
  rw[this,Vc,Vj (by simpa using hi),Yv]
  exact List.set_getElem_self _
 ·rw[List.set_eq_of_length_le (by simpa using hi)]
def S5 {l:List Dev} {id:Int}:(∃ d,La l id=some d)↔id∈l.map (·.1):=by
 unfold La
 rw[← Zm,List.find?_isSome,Zb]
 exact⟨λ ⟨x,h,e⟩=>⟨x,h,eq_of_beq e⟩,λ ⟨x,h,e⟩=>⟨x,h,beq_iff_eq.2 e⟩⟩
def Fqb {l:List Dev} {i:Nat} {w:Int} (h:M8 l=true) (hi:i<l.length) (h1:1≤w) (h2:w≤1000):M8 (wgt l i w)=true:=by
 obtain⟨g1,g2,g3,g4⟩:=Fl.1 h
 refine Fl.2 ⟨?_,λ d hd=>?_,?_⟩
 ·have e:(l.map (·.1)).Pairwise (· < ·):=Zn.2 g1
  rw[← Fca l i w]at e
  exact Zn.1 e
 ·rcases Yn hd with hd|hd
  ·exact g2 d hd
  ·obtain⟨e1,e2,_⟩:=Oa.1 (g2 _ (A3 (d:=Nv) hi))
   subst hd
   exact Oa.2 ⟨e1,e2,h1,h2⟩
 ·unfold wgt
  rw[Wb]
  exact⟨g3,g4⟩
def Fda {r:Rng} {l:List Dev} {i:Nat} {w:Int} (h:Jo r l=true) (hi:i<l.length) (h1:1≤w) (h2:w≤1000):Jo r (wgt l i w)=true:=by
 obtain⟨g1,g2,g3,g4⟩:=C4.1 h
 refine C4.2 ⟨Fqb g1 hi h1 h2,g2,g3,λ p hp=>?_⟩
 obtain⟨q1,q2,q3⟩:=g4 p hp
 exact⟨q1,q2,λ id hid=>by rw[S5,Fca,← S5];exact q3 id hid⟩

def Una (x:BitVec 32):(cst x).getLsbD 31=x.getLsbD 0:=by
 have h0:(x >>> 1).getLsbD 31=false:=by
  rw[Ksb]
  exact BitVec.getLsbD_of_ge _ _ (by decide)
 unfold cst
 cases h:x.getLsbD 0 with
 |true=>
  rw[if_pos rfl,BitVec.getLsbD_xor,h0]
  decide
 |false=>
  rw[if_neg (by simp),h0]
def X7 {n:Nat} {x y c:BitVec n} (h:x ^^^ c=y ^^^ c):x=y:=by
 have:=congrArg (λ z=>z ^^^ c) h
 simpa[BitVec.xor_assoc] using this
def D0b {x y:BitVec 32} (h:cst x=cst y):x=y:=by
 have h0:x.getLsbD 0=y.getLsbD 0:=by rw[← Una,← Una,h]
 have h1:x >>> 1=y >>> 1:=by
  unfold cst at h
  rw[h0]at h
  cases hb:y.getLsbD 0 with
  |true=>rw[hb,if_pos rfl,if_pos rfl]at h;exact X7 h
  |false=>rw[hb,if_neg (by simp),if_neg (by simp)]at h;exact h
 refine BitVec.eq_of_getLsbD_eq λ i hi=>?_
 cases i with
 |zero=>exact h0
 |succ i=>
  have:=congrArg (λ z=>z.getLsbD i) h1
  simpa[Ksb,Ifb] using this
def Bpa:∀ (n:Nat) {x y:BitVec 32},Cga n x=Cga n y→x=y
 |0,_,_,h=>h
 |n+1,_,_,h=>D0b (Bpa n h)
def D1b {x y:BitVec 32} {b:Int} (h:cby x b=cby y b):x=y:=X7 (Bpa 8 h)
def Ypa {x:BitVec 32} {a b:Int} (ha:0≤a∧a≤255) (hb:0≤b∧b≤255) (h:cby x a=cby x b):a=b:=by
 have h1:x ^^^ ofInt 32 a=x ^^^ ofInt 32 b:=Bpa 8 h
 rw[Leb,Leb x]at h1
 have h2:=X7 h1
 rw[Nla ha,Nla hb,h2]
def Nya:∀ (l:List Int) {x y:BitVec 32},l.foldl cby x=l.foldl cby y→x=y
 |[],_,_,h=>h
 |_::l,_,_,h=>D1b (Nya l h)
def Apb (l:List Int):0≤crc l∧crc l≤4294967295:=by
 unfold crc
 have:=(E8b l).isLt
 omega
def D2b {l:List Int} {i:Nat} {y:Int} (hi:i<l.length) (hy:0≤y∧y≤255) (hb:Ap l) (hne:y≠l.getD i 0):crc (l.set i y)≠crc l:=by
 intro h
 have h1:E8b (l.set i y)=E8b l:=Lfb (by unfold crc at h;omega)
 unfold E8b at h1
 have h2:=BitVec.not_inj.1 h1
 have e1:l.set i y=l.take i++y::l.drop (i+1):=by rw[J2b,if_pos hi]
 have e2:l=l.take i++l.getD i 0::l.drop (i+1):=by
  conv => { lhs;rw[← Wo i l] }
  rw[Ai (d:=0) hi]
 rw[e1,Isb,Yq]at h2
 rw[e2]at h2
 rw[Isb,Yq]at h2
 have e3:(l.take i++l.getD i 0::l.drop (i+1)).take i=l.take i:=by rw[← e2]
 have e4:(l.take i++l.getD i 0::l.drop (i+1)).drop (i+1)=l.drop (i+1):=by rw[← e2]
 rw[e3,e4]at h2
 exact hne (Ypa hy (hb _ (A3 hi)) (Nya _ h2))
def Frb {a b:Int} (ha:0≤a∧a≤4294967295) (hb:0≤b∧b≤4294967295) (h:c4 a=c4 b):a=b:=by
 have e:∀ c:Int,0≤c→c4 c=[c/16777216 % 256,c/65536 % 256,c/256 % 256,c % 256]:=λ c hc=>by
  unfold c4
  rw[show (2:Int) ^ (min (toNat 24) (IntKind.bits .i64))=16777216 from by decide,show (2:Int) ^ (min (toNat 16) (IntKind.bits .i64))=65536 from by decide,show (2:Int) ^ (min (toNat 8) (IntKind.bits .i64))=256 from by decide,
   Inb _ (by omega),Inb _ (by omega),Inb _ (by omega),K1b,K1b,K1b,K1b]
 rw[e a ha.1,e b hb.1]at h
 simp only[Yk,and_true]at h
 omega
def Pxa {l m:List Int} {j:Nat} (h:j<l.length):(l++m).getD j 0=l.getD j 0:=by rw[Vc,Vc,Ye h]
def Pya {l m:List Int} {j:Nat} (h:l.length≤j):(l++m).getD j 0=m.getD (j-l.length) 0:=by rw[Vc,Vc,Yh h]
def Yqa {f:Fil} (hf:Gc f=true) {n:Nat} (hn:n<8*(Lc f).length):Mq (Nu (Lc f) n)=none:=by
 cases hg:Mq (Nu (Lc f) n) with
 |none=>rfl
 |some g=>
  exfalso
  obtain⟨g1,_,g3⟩:=Kya hg
  have hpb:=Sq f
  have hj:n/8<(Lc f).length:=by omega
  have hy:=Nna ((Lc f).getD (n/8) 0) (n % 8)
  have hne:=Yca (hpb _ (A3 (d:=0) hj)) (Llb n (show 0<8 by omega))
  unfold Nu at g3
  generalize Cha ((Lc f).getD (n/8) 0) (n % 8)=y at g3 hy hne
  generalize n/8=j at g3 hj hne
  have ef:Lc f=Pp f++c4 (crc (Pp f)):=by unfold Lc;rw[hf];rfl
  have eg:Lc g=Pp g++c4 (crc (Pp g)):=by unfold Lc;rw[g1];rfl
  have l4:∀ c,(c4 c).length=4:=λ c=>rfl
  rw[eg]at g3
  rw[ef]at g3 hj hne
  have hlen:(Pp g).length=(Pp f).length:=by
   have:=congrArg length g3
   rw[Wb,Ve,Ve,l4,l4]at this
   omega
  by_cases hjb:j<(Pp f).length
  ·rw[List.set_append_left _ _ hjb]at g3
   obtain⟨a1,a2⟩:=List.append_inj g3 (by rw[Wb];exact hlen)
   rw[Pxa hjb]at hne
   have:=Frb (Apb _) (Apb _) a2
   rw[a1]at this
   exact D2b hjb hy (Qx f) hne this
  ·rw[Lgb _ _ (by omega)]at g3
   obtain⟨a1,a2⟩:=List.append_inj g3 hlen
   rw[a1]at a2
   rw[Pya (by omega)]at hne
   rw[Ve,l4]at hj
   have:(c4 (crc (Pp f))).getD (j-(Pp f).length) 0=y:=by
    rw[a2,Vc,K6b (by rw[l4];omega),Yv]
   exact hne this.symm

def Rd (l:List Nmd) (ns:List ByteArray):List ByteArray:=l.foldl (λ ns x=>wt ns x.1) ns
def nms (d:Dsk):List ByteArray:=Rd (d.1++d.2) []
def pk1:Option Nmd→List Nmd
 |some x=>[x]
 |none=>[]
def D3b (o:Option Nmd):(pk1 o).length≤1:=by cases o<;>simp[pk1]
def Tv (kp:List Bool) (a b:List Nmd):List ByteArray→Nat→List Nmd
 |[],_=>[]
 |s::ns,i=>pk1 (pk (bif kp.getD i false then a else b) s)++Tv kp a b ns (i+1)
def D4b (kp:List Bool) (a b:List Nmd) (i:Nat):Tv kp a b [] i=[]:=rfl
def Yra (kp:List Bool) (a b:List Nmd) (s:ByteArray) (ns:List ByteArray) (i:Nat):Tv kp a b (s::ns) i=pk1 (pk (bif kp.getD i false then a else b) s)++Tv kp a b ns (i+1):=rfl
def Tp (d:Dsk) (kp:List Bool):Dsk:=bif decide ((Tv kp d.1 d.2 (nms d) 0).length > 60) then d else (Tv kp d.1 d.2 (nms d) 0,Tv kp d.1 d.2 (nms d) 0)
def Fea:∀ (l:List Nmd) (ns:List ByteArray),TS ns→TS (Rd l ns)
 |[],_,h=>h
 |_::l,_,h=>Fea l _ (Rx h)
def Iia:∀ (l:List Nmd) (ns:List ByteArray) (t:ByteArray),t∈Rd l ns↔(∃ x∈l,x.1=t)∨t∈ns
 |[],ns,t=>by simp[Rd]
 |x::l,ns,t=>by
  show t∈Rd l (wt ns x.1)↔_
  rw[Iia l,Hxa]
  simp only[Vl,exists_eq_or_imp]
  constructor
  ·rintro (h|rfl|h)
   ·exact .inl (.inr h)
   ·exact .inl (.inl rfl)
   ·exact .inr h
  ·rintro ((h|h)|h)
   ·exact .inr (.inl h.symm)
   ·exact .inl h
   ·exact .inr (.inr h)
def Uz:∀ (l:List Nmd) (ns:List ByteArray),(Rd l ns).length≤ns.length+l.length
 |[],_=>by simp[Rd]
 |x::l,ns=>by
  have h1:=Uz l (wt ns x.1)
  have h2:=Hya (l:=ns) (s:=x.1)
  show (Rd l (wt ns x.1)).length≤_
  rw[Vd]
  omega
def Aqb (d:Dsk):TS (nms d):=Fea _ _ List.Pairwise.nil
def D5b {d:Dsk} {t:ByteArray}:t∈nms d↔(gt d.1 t).isSome=true∨(gt d.2 t).isSome=true:=by
 have h:∀ l:List Nmd,(gt l t).isSome=true↔∃ x∈l,x.1=t:=λ l=>by
  cases hg:gt l t with
  |none=>
   constructor
   ·intro h;cases h
   ·rintro⟨x,hx,e⟩;exact absurd e (Nt.1 hg x hx)
  |some b=>simp only[Option.isSome_some,true_iff];exact⟨_,Oz hg,rfl⟩
 unfold nms
 rw[Iia,h,h]
 simp only[Vo,Ikb,or_false]
 constructor
 ·rintro⟨x,h1|h1,h2⟩
  ·exact .inl ⟨x,h1,h2⟩
  ·exact .inr ⟨x,h1,h2⟩
 ·rintro (⟨x,h1,h2⟩|⟨x,h1,h2⟩)
  ·exact⟨x,.inl h1,h2⟩
  ·exact⟨x,.inr h1,h2⟩
def D6b (l:List Nmd) (s:ByteArray):pk l s=(gt l s).map λ b=>(s,b):=by
 unfold pk gt
 cases h:fnd l s with
 |none=>rfl
 |some i=>rw[Jyb,← (O7 h).2]
def X8 (kp:List Bool) (a b:List Nmd):∀ (ns:List ByteArray) (i:Nat),((Tv kp a b ns i).map Prod.fst).Sublist ns
 |[],_=>List.Sublist.slnil
 |s::ns,i=>by
  unfold Tv
  rw[D6b]
  cases gt (bif kp.getD i false then a else b) s with
  |none=>exact(X8 kp a b ns (i+1)).cons s
  |some c=>exact(X8 kp a b ns (i+1)).cons_cons s
def D7b (kp:List Bool) (a b:List Nmd) (ns:List ByteArray) (i:Nat):(Tv kp a b ns i).length≤ns.length:=by
 have:=(X8 kp a b ns i).length_le
 rwa [Wd]at this
def Pza {kp:List Bool} {a b:List Nmd} {ns:List ByteArray} {i:Nat} (h:TS ns):Da (Tv kp a b ns i):=by
 have:=Kcb (X8 kp a b ns i) h
 rwa [Zn]at this
def Uoa {kp:List Bool} {a b:List Nmd}:∀ {ns:List ByteArray} {i:Nat} {x:Nmd},x∈Tv kp a b ns i→gt a x.1=some x.2∨gt b x.1=some x.2
 |[],_,_,h=>by cases h
 |s::ns,i,x,h=>by
  unfold Tv at h
  rw[D6b]at h
  rcases Vo.1 h with h|h
  ·cases hg:gt (bif kp.getD i false then a else b) s with
   |none=>rw[hg]at h;cases h
   |some c=>
    rw[hg]at h
    rw[Vu.1 h]
    cases hk:kp.getD i false with
    |true=>rw[hk]at hg;exact .inl hg
    |false=>rw[hk]at hg;exact .inr hg
  ·exact Uoa h
def Arb {kp:List Bool} {a b:List Nmd} {t:ByteArray}:∀ {ns:List ByteArray} {i:Nat},TS ns→t∈ns→∃ j,i≤j∧gt (Tv kp a b ns i) t=gt (bif kp.getD j false then a else b) t
 |[],_,_,h=>by cases h
 |s::ns,i,hs,h=>by
  obtain⟨h1,h2⟩:=Wh.1 hs
  have hn:∀ j,gt (Tv kp a b ns j) s=none:=λ j=>Nt.2 λ x hx e=>by
   have:=h1 x.1 ((X8 kp a b ns j).subset (Yu hx))
   rw[e,I9]at this
   cases this
  unfold Tv
  rw[D6b]
  rcases Vl.1 h with rfl|h
  ·refine⟨i,Vv _,?_⟩
   cases hg:gt (bif kp.getD i false then a else b) t with
   |none=>exact hn _
   |some c=>
    show gt ((t,c)::Tv kp a b ns (i+1)) t=_
    rw[Kza,if_pos rfl]
  ·obtain⟨j,hj,e⟩:=Arb (kp:=kp) (a:=a) (b:=b) (i:=i+1) h2 h
   refine⟨j,by omega,?_⟩
   rw[← e]
   have hst:s≠t:=λ e=>by
    have:=h1 t h
    rw[e,I9]at this
    cases this
   cases gt (bif kp.getD i false then a else b) s with
   |none=>rfl
   |some c=>
    show gt ((s,c)::Tv kp a b ns (i+1)) t=_
    rw[Kza,if_neg hst]
def Upa {d:Dsk} {kp:List Bool} (h:DG d):DG (Tp d kp):=by
 unfold Tp
 cases hc:decide ((Tv kp d.1 d.2 (nms d) 0).length > 60)
 case true=>exact h
 have hl:=of_decide_eq_false hc
 have n1:=(Al.1 (E5.1 h.1).1).2.1
 have n2:=(Al.1 (E5.1 h.1).2).2.1
 have q:J8 (Tv kp d.1 d.2 (nms d) 0)=true:=Al.2 ⟨Pza (Aqb d),λ x hx=>(Uoa hx).elim (λ e=>n1 _ (Oz e)) (λ e=>n2 _ (Oz e)),by omega⟩
 have b:LB (Tv kp d.1 d.2 (nms d) 0):=λ x hx=>(Uoa hx).elim (λ e=>h.2.1.gt e) (λ e=>h.2.2.gt e)
 exact⟨E5.2 ⟨q,q⟩,b,b⟩
def Uqa {d:Dsk} {kp:List Bool} (t:ByteArray):Tp d kp=d∨((Tp d kp).2=(Tp d kp).1∧(gt (Tp d kp).1 t=gt d.1 t∨gt (Tp d kp).1 t=gt d.2 t)):=by
 unfold Tp
 cases hc:decide ((Tv kp d.1 d.2 (nms d) 0).length > 60)
 case true=>exact .inl rfl
 refine .inr ⟨rfl,?_⟩
 show gt (Tv kp d.1 d.2 (nms d) 0) t=_∨gt (Tv kp d.1 d.2 (nms d) 0) t=_
 by_cases ht:t∈nms d
 ·obtain⟨j,_,e⟩:=Arb (kp:=kp) (a:=d.1) (b:=d.2) (i:=0) (Aqb d) ht
  rw[e]
  cases kp.getD j false with
  |true=>exact .inl rfl
  |false=>exact .inr rfl
 ·have h1:gt d.1 t=none:=by
   cases hg:gt d.1 t with
   |none=>rfl
   |some b=>exact absurd (D5b.2 (.inl (by rw[hg];rfl))) ht
  left
  rw[h1]
  exact Nt.2 λ x hx e=>ht (by rw[← e];exact(X8 _ _ _ _ _).subset (Yu hx))
def Ffa {R:Type} {L:Nat→List Nmd→Option R} {Q:R→Prop} (c:List Nmd) (s:ByteArray) (acc:List Nmd) (hc:c.length≤5000000) (ha:acc.length≤5000000) (next:Tot (λ k=>L k (acc++pk1 (pk c s))) Q):
  Tot (λ k=>(D9 k c s).bind λ r=>cond (decide (r≥0)) (cond (decide ((0:Int)≤r)) (cond (decide (r<(length c:Int))) (cond (Nat.ble ((length acc+length [getD c (toNat r) ((⟨#[]⟩:ByteArray),[])])*40) 140737488355328) (L k (acc++[getD c (toNat r) ((⟨#[]⟩:ByteArray),[])])) none) none) none) (L k acc)) Q:=by
 refine Icb (Dka c s (by omega)) ?_
 unfold pk at next
 unfold Dja
 cases h:fnd c s with
 |none=>
  rw[h]at next
  simp only[pk1,Xs]at next
  exact I5b (by decide) next
 |some i=>
  rw[h]at next
  have:=(O7 h).1
  simp only[Vb]
  exact I4b (by omega) (I4b (by omega) (I4b (by omega) (I8b (by simp only[Vd,Vk];omega) next)))

def mk0 (s:ByteArray):Nmd:=(s,[])
def X9 {ns:List ByteArray} (h:TS ns):Da (ns.map mk0):=by
 unfold Da
 rw[Zn]
 exact h
def Asb {ns:List ByteArray} (h:TS ns) {t:ByteArray}:(t∈ns→gt (ns.map mk0) t=some [])∧(t∉ns→gt (ns.map mk0) t=none):=by
 refine⟨λ ht=>?_,λ ht=>Nt.2 λ x hx e=>?_⟩
 ·exact Bha (X9 h) (x:=mk0 t) (Yu ht)
 ·obtain⟨s,hs,rfl⟩:=Zb.1 hx
  exact ht (by rw[← e];exact hs)
def Fsb {ns:List ByteArray} (h:TS ns) (s:ByteArray):ptl (s,[]) false (ns.map mk0)=(wt ns s).map mk0:=by
 have h1:=X9 h
 rw[X3 _ h1]
 refine Ajb (Q7 (Mo h1) Xl) (X9 (Rx h)) λ t=>?_
 have e:=F7a h1 (s:=s) (t:=t) (b:=[])
 unfold wr at e
 rw[e]
 have g1:=Asb h (t:=t)
 have g2:=Asb (Rx (s:=s) h) (t:=t)
 by_cases hst:s=t
 ·rw[if_pos hst,g2.1 (Hxa.2 (.inl hst.symm))]
 ·rw[if_neg hst]
  by_cases ht:t∈ns
  ·rw[g1.1 ht,g2.1 (Hxa.2 (.inr ht))]
  ·rw[g1.2 ht,g2.2 (λ c=>(Hxa.1 c).elim (λ e=>hst e.symm) ht)]
def Ura (a b:List Nmd) (ha:a.length≤2000000) (hb:b.length≤2000000):Tot (λ k=>Ch k a b) (λ r=>r=nms (a,b)):=by
 unfold Ch
 have put:∀ {ns:List ByteArray} (x:Nmd),TS ns→ns.length≤5000000→Tot (λ k=>Fk k (ns.map mk0) x.1 []) (λ r=>r=(wt ns x.1).map mk0):=λ x ht hl=>(F3a _ x.1 [] (by rw[Wd];omega) (by simp)).mono λ r hr=>by rw[hr,Fsb ht]
 refine I1b (Q:=λ r=>r=(b,(Rd a []).map mk0)) ?_ ?_
 ·refine I9b (L:=λ k i s=>G0 k a b s i) (Q:=λ r=>r=(b,(Rd a []).map mk0)) a.length (λ j s=>∃ ns,s=ns.map mk0∧TS ns∧Rd (a.drop j) ns=Rd a []∧ns.length≤j) ?_ ?_ 0 [] (Vs _) ⟨[],rfl,List.Pairwise.nil,rfl,Vv _⟩
  ·rintro s ⟨ns,rfl,_,h,_⟩
   rw[We]at h
   simp (disch:=omega) only [G0,dF]
   exact I0b (by rw[← h];rfl)
  ·rintro j s hj ⟨ns,rfl,ht,h,hl⟩ next
   rw[Ai (d:=D8) hj]at h
   simp (disch:=omega) only [G0,dT,Vb,w64]
   refine Icb (put (a.getD j D8) ht (by omega)) ?_
   have:=Hya (l:=ns) (s:=(a.getD j D8).1)
   exact next _ ⟨_,rfl,Rx ht,h,by omega⟩
 ·rintro r rfl
  have hla:(Rd a []).length≤2000000:=by have:=Uz a [];rw[Vk]at this;omega
  have e:Rd b (Rd a [])=nms (a,b):=by unfold nms Rd;rw[Isb]
  refine I1b (Q:=λ r=>r=(nms (a,b)).map mk0) ?_ ?_
  ·refine I9b (L:=λ k i s=>Fz k b s i) (Q:=λ r=>r=(nms (a,b)).map mk0) b.length (λ j s=>∃ ns,s=ns.map mk0∧TS ns∧Rd (b.drop j) ns=nms (a,b)∧ns.length≤2000000+j) ?_ ?_ 0 _ (Vs _) ⟨_,rfl,Fea _ _ List.Pairwise.nil,e,by omega⟩
   ·rintro s ⟨ns,rfl,_,h,_⟩
    rw[We]at h
    simp (disch:=omega) only [Fz,dF]
    exact I0b (by rw[← h];rfl)
   ·rintro j s hj ⟨ns,rfl,ht,h,hl⟩ next
    rw[Ai (d:=D8) hj]at h
    simp (disch:=omega) only [Fz,dT,Vb,w64]
    refine Icb (put (b.getD j D8) ht (by omega)) ?_
    have:=Hya (l:=ns) (s:=(b.getD j D8).1)
    exact next _ ⟨_,rfl,Rx ht,h,by omega⟩
  ·rintro r rfl
   have hln:(nms (a,b)).length≤4000000:=by rw[← e];have:=Uz b (Rd a []);omega
   refine I1b (Q:=λ r=>r=nms (a,b)) ?_ (by rintro r rfl;exact I0b rfl)
   refine I9b (L:=λ k i s=>Eo k ((nms (a,b)).map mk0) s i) (Q:=λ r=>r=nms (a,b)) (nms (a,b)).length (λ j s=>s=(nms (a,b)).take j) ?_ ?_ 0 [] (Vs _) rfl
   ·rintro s rfl
    simp (disch:=omega) only [Eo,Wd,dF,Yr]
    exact I0b rfl
   ·rintro j s hj rfl next
    simp (disch:=omega) only [Eo,Wd,dT,Vb,w64]
    refine I8b (by simp only[Vq,Vd,Vk];omega) (next _ ?_)
    rw[Wl hj,Vc,Igb,Vj hj]
    rfl
def Usa (d:Dsk) (kp:List Bool) (hd:DG d) (hk:kp.length≤4000000000000):Tot (λ k=>De k d kp) (λ r=>r=Tp d kp):=by
 have hin:=Og hd.1
 have g1:=(Al.1 (E5.1 hd.1).1).2.2
 have g2:=(Al.1 (E5.1 hd.1).2).2.2
 unfold De
 refine Icb (Qu d hin.1.1 hin.1.2) ?_
 rw[hd.1]
 refine I2b rfl (Icb (Ura d.1 d.2 (by omega) (by omega)) ?_)
 have hn:(nms d).length≤120:=by
  have:=Uz (d.1++d.2) []
  rw[Vk,Ve]at this
  exact Zw this (by omega)
 refine I1b (Q:=λ r=>r=(Tv kp d.1 d.2 (nms d) 0,d,([],[]))) ?_ ?_
 ·refine I9b (L:=λ k i s=>As k kp (nms d) s i d ([],[])) (Q:=λ r=>r=(Tv kp d.1 d.2 (nms d) 0,d,([],[]))) (nms d).length (λ j s=>s++Tv kp d.1 d.2 ((nms d).drop j) j=Tv kp d.1 d.2 (nms d) 0∧s.length≤j) ?_ ?_ 0 [] (Vs _) ⟨rfl,Vv _⟩
  ·rintro s ⟨h,_⟩
   rw[We,D4b,Xs]at h
   simp (disch:=omega) only [As,dF]
   exact I0b (by rw[h])
  ·rintro j s hj ⟨h,hs⟩ next
   rw[Ai (d:=Ni) hj]at h
   rw[Yra,← Vn]at h
   simp (disch:=omega) only [As,dT,Vb,w64]
   have hl:=D3b (pk (bif kp.getD j false then d.1 else d.2) ((nms d).getD j Ni))
   have nx:=next (s++pk1 (pk (bif kp.getD j false then d.1 else d.2) ((nms d).getD j Ni))) ⟨h,by rw[Ve];omega⟩
   have e0:(nms d).getD j (⟨#[]⟩:ByteArray)=(nms d).getD j Ni:=rfl
   rw[e0]
   refine I7b (λ hc=>?_) (λ hc=>?_)
   ·refine I4b (by omega) (I6b (λ hk=>?_) (λ hk=>?_))
    ·rw[hk]at nx
     exact Ffa (L:=λ k acc=>As k kp (nms d) acc ((j:Int)+1) d ([],[])) d.1 _ s (by omega) (by omega) nx
    ·rw[hk]at nx
     exact Ffa (L:=λ k acc=>As k kp (nms d) acc ((j:Int)+1) d ([],[])) d.2 _ s (by omega) (by omega) nx
   ·have hk:kp.getD j false=false:=by rw[Vc,Za (by omega)];rfl
    rw[hk]at nx
    exact Ffa (L:=λ k acc=>As k kp (nms d) acc ((j:Int)+1) d ([],[])) d.2 _ s (by omega) (by omega) nx
 ·rintro r rfl
  have hp:=D7b kp d.1 d.2 (nms d) 0
  unfold Tp
  refine I7b (λ h=>?_) (λ h=>?_)
  ·dsimp only at h
   rw[decide_eq_true (show (Tv kp d.1 d.2 (nms d) 0).length > 60 by omega)]
   refine Icb (M7 d hin.1.1) ?_
   exact I0b rfl
  ·dsimp only at h
   have hc:decide ((Tv kp d.1 d.2 (nms d) 0).length > 60)=false:=decide_eq_false (by omega)
   have hg:=Upa (kp:=kp) hd
   unfold Tp at hg
   rw[hc]at hg ⊢
   rw[cond_false]at hg
   have hf:=(Og hg.1).1.1.1
   refine Icb (Pg _ hf) ?_
   refine Icb (Pg _ hf) ?_
   exact I0b rfl
def clS (o:Dsk×Int) (x:Nmd):Dsk×Int:=match Mq x.2 with
 |some _=>o
 |none=>((cut o.1.1 x.1,cut o.1.2 x.1),o.2+1)
def M9 (d:Dsk):Dsk×Int:=d.1.foldl clS (d,0)
def Q0a {l:List Nmd} {s:ByteArray} (h:gt l s=none):cut l s=l:=by
 refine List.filter_eq_self.2 λ x hx=>?_
 cases ht:teq x.1 s with
 |false=>rfl
 |true=>exact absurd (Cr.1 ht) (Nt.1 h x hx)
def Ftb {d:Dsk} {s:ByteArray} (h:DG d):DG (cut d.1 s,cut d.2 s):=⟨E5.2 ⟨Xk (E5.1 h.1).1,Xk (E5.1 h.1).2⟩,h.2.1.cut s,h.2.2.cut s⟩
def Ysa {o:Dsk×Int} {x:Nmd} (h:DG o.1):DG (clS o x).1:=by
 unfold clS
 cases Mq x.2 with
 |some _=>exact h
 |none=>exact Ftb h
def Nza:∀ (l:List Nmd) (o:Dsk×Int),DG o.1→DG (l.foldl clS o).1
 |[],_,h=>h
 |_::l,_,h=>Nza l _ (Ysa h)
def Yta {d:Dsk} (h:DG d):DG (M9 d).1:=Nza _ _ h
def Fga (l:List Nmd):List ByteArray:=(l.filter λ x=>(Mq x.2).isNone).map Prod.fst
def Tq:∀ (l:List Nmd) (o:Dsk×Int),DG o.1→((l.foldl clS o).2=o.2+((Fga l).length:Int))∧∀ t,(t∈Fga l→gt (l.foldl clS o).1.1 t=none∧gt (l.foldl clS o).1.2 t=none)∧(t∉Fga l→gt (l.foldl clS o).1.1 t=gt o.1.1 t∧gt (l.foldl clS o).1.2 t=gt o.1.2 t)
 |[],o,h=>⟨by simp[Fga],λ t=>⟨λ c=>by simp[Fga]at c,λ _=>⟨rfl,rfl⟩⟩⟩
 |x::l,o,h=>by
  obtain⟨h1,h2⟩:=Tq l (clS o x) (Ysa h)
  rw[Yq]
  cases hx:Mq x.2 with
  |some f=>
   have e:Fga (x::l)=Fga l:=by unfold Fga;rw[Zz,hx];rfl
   have ec:clS o x=o:=by unfold clS;rw[hx]
   rw[e]
   rw[ec]at h1 h2 ⊢
   exact⟨h1,h2⟩
  |none=>
   have e:Fga (x::l)=x.1::Fga l:=by unfold Fga;rw[Zz,hx];rfl
   have ec:clS o x=((cut o.1.1 x.1,cut o.1.2 x.1),o.2+1):=by unfold clS;rw[hx]
   rw[e]
   rw[ec]at h1 h2 ⊢
   refine⟨by rw[h1,Vd];omega,λ t=>⟨λ ht=>?_,λ ht=>?_⟩⟩
   ·by_cases hb:t∈Fga l
    ·exact(h2 t).1 hb
    ·obtain⟨a1,a2⟩:=(h2 t).2 hb
     have:x.1=t:=by
      rcases Vl.1 ht with e|e
      ·exact e.symm
      ·exact absurd e hb
     rw[a1,a2,T5 (Kr h.1),T5 (Od h.1),if_pos this,if_pos this]
     exact⟨rfl,rfl⟩
   ·obtain⟨a1,a2⟩:=(h2 t).2 (λ c=>ht (Vh _ c))
    have:x.1≠t:=λ e=>ht (by rw[← e];exact Yc)
    rw[a1,a2,T5 (Kr h.1),T5 (Od h.1),if_neg this,if_neg this]
    exact⟨rfl,rfl⟩
def O0a {d:Dsk} (hd:Ay d=true) {t:ByteArray}:t∈Fga d.1↔∃ b,gt d.1 t=some b∧Mq b=none:=by
 unfold Fga
 rw[Zb]
 constructor
 ·rintro⟨x,hx,rfl⟩
  obtain⟨h1,h2⟩:=Jjb.1 hx
  exact⟨x.2,Bha (Kr hd) h1,by simpa using h2⟩
 ·rintro⟨b,h1,h2⟩
  exact⟨(t,b),Jjb.2 ⟨Oz h1,by simp[h2]⟩,rfl⟩
def Uta (d:Dsk) (hd:DG d):Tot (λ k=>Ix k d) (λ r=>r=M9 d):=by
 have hin:=Og hd.1
 have hl:=(Al.1 (E5.1 hd.1).1).2.2
 unfold Ix
 refine Icb (Jn d hin.1.1) ?_
 refine Icb (Sp d hin.1.1 hin.1.2) ?_
 rw[hd.1]
 refine I2b rfl (I1b (Q:=λ r=>r=((M9 d).2,([],[]),(M9 d).1)) ?_ (by rintro r rfl;exact I0b rfl))
 refine I9b (L:=λ k i (s:Dsk×Int)=>Hu k s.2 d.1 (d.1.length:Int) i ([],[]) s.1) (Q:=λ r=>r=((M9 d).2,([],[]),(M9 d).1)) d.1.length (λ j s=>(d.1.drop j).foldl clS s=M9 d∧DG s.1∧0≤s.2∧s.2≤j) ?_ ?_ 0 (d,0) (Vs _) ⟨rfl,hd,Iob 0,by simp⟩
 ·rintro s ⟨h,_⟩
  rw[We]at h
  simp (disch:=omega) only [Hu,dF]
  exact I0b (by rw[← h];rfl)
 ·rintro j s hj ⟨h,hg,s0,s1⟩ next
  rw[Ai (d:=D8) hj,Yq]at h
  have hsi:=Og hg.1
  have hx:=A3 (d:=D8) hj
  simp (disch:=omega) only [Hu,dT,Vb,w64]
  have e0:d.1.getD j ((⟨#[]⟩:ByteArray),([]:List Int))=d.1.getD j D8:=rfl
  rw[e0]
  refine Icb (Ns _ (hd.2.1 _ hx) (hin.1.1.1.2 _ hx)) ?_
  have hcg:=Ysa (x:=d.1.getD j D8) hg
  unfold clS at h hcg
  unfold Rz
  cases hf:Mq (d.1.getD j D8).2 with
  |some f=>
   rw[hf]at h
   exact I2b rfl (next _ ⟨h,hg,s0,by omega⟩)
  |none=>
   rw[hf]at h hcg
   refine I3b rfl (Icb (Uu s.1.1 _ hsi.1.1.1.1) ?_)
   refine Icb (Uu s.1.2 _ hsi.1.1.2.1) ?_
   rw[Qw (Kr hg.1),Qw (Od hg.1)]
   exact next ((cut s.1.1 (d.1.getD j D8).1,cut s.1.2 (d.1.getD j D8).1),s.2+1) ⟨h,hcg,by dsimp only;omega,by dsimp only;omega⟩
def Uua (d:Dsk) (hd:DG d):Tot (λ k=>Iw k d) (λ r=>r=M9 d):=by
 have hin:=Og hd.1
 have hl:=(Al.1 (E5.1 hd.1).1).2.2
 have hnk:=(Al.1 (E5.1 hd.1).1).2.1
 unfold Iw
 refine Icb (M7 d hin.1.1) ?_
 refine I1b (Q:=λ r=>r=((M9 d).2,([],[]),(M9 d).1)) ?_ (by rintro r rfl;exact I0b rfl)
 refine I9b (L:=λ k i (s:Dsk×Int)=>Hr k s.2 i d ([],[]) s.1) (Q:=λ r=>r=((M9 d).2,([],[]),(M9 d).1)) d.1.length (λ j s=>(d.1.drop j).foldl clS s=M9 d∧DG s.1∧0≤s.2∧s.2≤j) ?_ ?_ 0 (d,0) (Vs _) ⟨rfl,hd,Iob 0,by simp⟩
 ·rintro s ⟨h,_⟩
  rw[We]at h
  simp (disch:=omega) only [Hr,dF]
  exact I0b (by rw[← h];rfl)
 ·rintro j s hj ⟨h,hg,s0,s1⟩ next
  rw[Ai (d:=D8) hj,Yq]at h
  have hsi:=Og hg.1
  have hx:=A3 (d:=D8) hj
  simp (disch:=omega) only [Hr,dT,Vb,w64]
  have e0:d.1.getD j ((⟨#[]⟩:ByteArray),([]:List Int))=d.1.getD j D8:=rfl
  rw[e0]
  refine Icb (Qu d hin.1.1 hin.1.2) ?_
  refine I3b hd.1 (Icb (Z9 hin.1.1.1 hd.2.1 _) ?_)
  have hnm:=(Qv.1 (hnk _ hx)).1
  have hcg:=Ysa (x:=d.1.getD j D8) hg
  unfold clS at h hcg
  unfold lkD
  rw[Bha (Kr hd.1) hx]
  simp only
  cases hf:Mq (d.1.getD j D8).2 with
  |some f=>
   rw[hf]at h
   exact I2b rfl (next _ ⟨h,hg,s0,by omega⟩)
  |none=>
   rw[hf]at h hcg
   refine I3b rfl (Icb (Bka hg.1 (Iy hnm)) ?_)
   have er:(rmD s.1 (d.1.getD j D8).1).1=(cut s.1.1 (d.1.getD j D8).1,s.1.2):=by
    unfold rmD
    cases hg1:gt s.1.1 (d.1.getD j D8).1 with
    |none=>rw[Q0a hg1];rfl
    |some b=>rfl
   have hrg:=Yba (s:=(d.1.getD j D8).1) hg
   rw[er]at hrg ⊢
   refine Icb (Bja hrg.1 hnm) ?_
   have es:(syD (cut s.1.1 (d.1.getD j D8).1,s.1.2) (d.1.getD j D8).1).1=(cut s.1.1 (d.1.getD j D8).1,cut s.1.2 (d.1.getD j D8).1):=by
    have e2:sy (cut s.1.1 (d.1.getD j D8).1,s.1.2) (d.1.getD j D8).1=cut s.1.2 (d.1.getD j D8).1:=by
     unfold sy
     rw[T5 (Kr hg.1),if_pos rfl]
    unfold syD
    rw[e2,decide_eq_true (Al.1 (E5.1 hcg.1).2).2.2]
    rfl
   rw[es]
   exact next ((cut s.1.1 (d.1.getD j D8).1,cut s.1.2 (d.1.getD j D8).1),s.2+1) ⟨h,hcg,by dsimp only;omega,by dsimp only;omega⟩

def D8b (d:Dsk):List ByteArray:=(d.1.filter λ x=>(Mq x.2).isSome).map Prod.fst
def hI (d:Dsk) (out:List ByteArray) (x:Nmd):List ByteArray:=bif (lkD d x.1).2==0 then wt out x.1 else out
def P8 (d:Dsk):List ByteArray:=d.1.foldl (hI d) []
def Uva (d:Dsk):∀ (l:List Nmd) (out:List ByteArray),(l.foldl (hI d) out).length≤out.length+l.length
 |[],out=>by simp
 |x::l,out=>by
  have h1:=Uva d l (hI d out x)
  have h2:(hI d out x).length≤out.length+1:=by
   unfold hI
   cases (lkD d x.1).2==0 with
   |false=>exact Iub _
   |true=>exact Hya
  rw[Yq,Vd]
  omega
def O1a (d:Dsk) (hd:DIn d) (hb:DB d):Tot (λ k=>I6 k d) (λ r=>r=P8 d):=by
 have hl:=hd.2.1
 unfold I6
 refine I1b (Q:=λ r=>r=P8 d) ?_ (by rintro r rfl;exact I0b rfl)
 refine I9b (L:=λ k i s=>J1 k s d.1 (d.1.length:Int) i d) (Q:=λ r=>r=P8 d) d.1.length (λ j s=>(d.1.drop j).foldl (hI d) s=P8 d∧s.length≤j) ?_ ?_ 0 [] (Vs _) ⟨rfl,Vv _⟩
 ·rintro s ⟨h,_⟩
  rw[We]at h
  simp (disch:=omega) only [J1,dF]
  exact I0b h
 ·rintro j s hj ⟨h,hs⟩ next
  rw[Ai (d:=D8) hj,Yq]at h
  simp (disch:=omega) only [J1,dT,Vb,w64]
  have e0:d.1.getD j ((⟨#[]⟩:ByteArray),([]:List Int))=d.1.getD j D8:=rfl
  rw[e0]
  refine Icb (Z8 hd.1.1.1 hb.1 _) ?_
  unfold hI at h
  cases hc:(lkD d (d.1.getD j D8).1).2==0 with
  |false=>
   rw[hc]at h
   exact I2b rfl (next _ ⟨h,by omega⟩)
  |true=>
   rw[hc]at h
   refine I3b rfl (Icb (F4a s _ (by omega)) ?_)
   have:=Hya (l:=s) (s:=(d.1.getD j D8).1)
   exact next _ ⟨h,by omega⟩
def Ija {p:ByteArray→Bool}:∀ {l:List ByteArray},(∀ y∈l,p y=true)→l.takeWhile p=l
 |[],_=>rfl
 |x::l,h=>by rw[Zq,if_pos (h x Yc),Ija (λ y hy=>h y (Vh _ hy))]
def D9b {l:List ByteArray} {s:ByteArray} (h:∀ y∈l,tlt y s=true):wt l s=l++[s]:=by
 have e:tpl l s=l.length:=by
  unfold tpl
  rw[Ija h]
 unfold wt
 rw[e,if_neg (by omega),Yr,We,Xs]
def Fub {d:Dsk} (hs:Da d.1) {x:Nmd} (hx:x∈d.1):((lkD d x.1).2==0)=(Mq x.2).isSome:=by
 unfold lkD
 rw[Bha hs hx]
 simp only
 cases Mq x.2<;>rfl
def Yua {d:Dsk} (hs:Da d.1):P8 d=D8b d:=by
 have key:∀ (l:List Nmd) (out:List ByteArray),(∀ x∈l,x∈d.1)→Da l→(∀ y∈out,∀ x∈l,tlt y x.1=true)→l.foldl (hI d) out=out++(l.filter λ x=>(Mq x.2).isSome).map Prod.fst:=by
  intro l
  induction l with
  |nil=>intro out _ _ _;simp
  |cons x l ih=>
   intro out hm hsl ho
   obtain⟨h1,h2⟩:=Wh.1 hsl
   rw[Yq,Zz]
   have hx:=Fub hs (hm x Yc)
   unfold hI
   rw[hx]
   cases hf:(Mq x.2).isSome
   ·exact ih out (λ y hy=>hm y (Vh _ hy)) h2 (λ y hy z hz=>ho y hy z (Vh _ hz))
   rw[cond_true,D9b (λ y hy=>ho y hy x Yc),if_pos rfl,Yg]
   have:=ih (out++[x.1]) (λ y hy=>hm y (Vh _ hy)) h2 (λ y hy z hz=>by
    rcases Vo.1 hy with hy|hy
    ·exact ho y hy z (Vh _ hz)
    ·rw[Vu.1 hy];exact h1 z hz)
   unfold hI at this
   rw[this,Vn]
   rfl
 unfold P8 D8b
 rw[key d.1 [] (λ _ h=>h) hs (λ y hy=>by cases hy),Vy]
def Y4 (l:List ByteArray) (s:ByteArray):Bool:=l.any λ y=>teq y s
def Pi {l:List ByteArray} {s:ByteArray}:Y4 l s=true↔s∈l:=by
 unfold Y4
 rw[Ijb]
 constructor
 ·rintro⟨x,hx,e⟩;rw[← Cr.1 e];exact hx
 ·intro h;exact⟨s,h,Cr.2 rfl⟩
def O2a (l:List ByteArray) (s:ByteArray) (hl:l.length≤1000000000):Tot (λ k=>Hy k l s) (λ r=>r=Y4 l s):=by
 unfold Hy
 refine I1b (Q:=λ r=>r=bif Y4 l s then .inl true else .inr ()) ?_ (by rintro r rfl;cases Y4 l s<;>exact I0b rfl)
 refine I9b (L:=λ k i (_:Unit)=>H7 k l s i) (Q:=λ r=>r=bif Y4 l s then .inl true else .inr ()) l.length (λ j _=>Y4 (l.drop j) s=Y4 l s) ?_ ?_ 0 () (Vs _) rfl
 ·intro _ h
  rw[We]at h
  simp (disch:=omega) only [H7,dF,← h]
  exact I0b rfl
 ·intro j _ hj h next
  rw[Ai (d:=Ni) hj]at h
  unfold Y4 at h
  rw[Jeb]at h
  simp (disch:=omega) only [H7,dT,Vb,w64]
  refine I6b (λ hc=>I0b ?_) (λ hc=>next () ?_)
  ·rw[show teq (l.getD j Ni) s=true from hc,Jwb]at h
   unfold Y4
   rw[← h]
   rfl
  ·rw[show teq (l.getD j Ni) s=false from hc,Zza]at h
   exact h
def J9a (l:List ByteArray):Nat→ByteArray→List ByteArray×Nat
 |0,_=>(l,0)
 |k+1,s=>bif tlt s (l.getD k Ni) then J9a (l.set (k+1) (l.getD k Ni)) k s else (l,k+1)
def Atb (l:List ByteArray) (s:ByteArray):List ByteArray:=(J9a (l++[s]) l.length s).1.set (J9a (l++[s]) l.length s).2 s
def Bqa:∀ (k:Nat) (l:List ByteArray) (s:ByteArray),(J9a l k s).1.length=l.length∧(J9a l k s).2≤k∧∀ y∈(J9a l k s).1,y∈l∨y=Ni
 |0,_,_=>⟨rfl,Vv _,λ _ h => .inl h⟩
 |k+1,l,s=>by
  unfold J9a
  cases tlt s (l.getD k Ni)
  ·exact⟨rfl,Vv _,λ _ h => .inl h⟩
  obtain⟨h1,h2,h3⟩:=Bqa k (l.set (k+1) (l.getD k Ni)) s
  rw[cond_true]
  refine⟨by rw[h1,Wb],by omega,λ y hy=>?_⟩
  rcases h3 y hy with h|h
  ·rcases Yn h with h|h
   ·exact .inl h
   ·by_cases hk:k<l.length
    ·rw[h];exact .inl (A3 hk)
    ·rw[h,Vc,Za (by omega)];exact .inr rfl
  ·exact .inr h
def Yva (l:List ByteArray) (s:ByteArray):(Atb l s).length=l.length+1:=by
 unfold Atb
 rw[Wb,(Bqa _ _ _).1,Ve]
 rfl
def Ywa {l:List ByteArray} {s y:ByteArray} (h:y∈Atb l s):y∈l∨y=s∨y=Ni:=by
 unfold Atb at h
 rcases Yn h with h|h
 ·rcases (Bqa _ _ _).2.2 y h with h|h
  ·rcases Vo.1 h with h|h
   ·exact .inl h
   ·exact .inr (.inl (Vu.1 h))
  ·exact .inr (.inr h)
 ·exact .inr (.inl h)
def hS1 (l:List Nmd) (j:Nat) (out:List ByteArray) (x:Nmd):List ByteArray:=bif (Mq x.2).isSome&&(!(Y4 out x.1)&&(Dja l x.1==(j:Int))) then Atb out x.1 else out
def hS (l:List Nmd):List Nmd→Nat→List ByteArray→List ByteArray
 |[],_,out=>out
 |x::r,j,out=>hS l r (j+1) (hS1 l j out x)
def Q1a (d:Dsk):List ByteArray:=hS d.1 d.1 0 []
def Uwa (l:List Nmd) (j:Nat) (out:List ByteArray) (x:Nmd):(hS1 l j out x).length≤out.length+1:=by
 unfold hS1
 cases (Mq x.2).isSome&&(!(Y4 out x.1)&&(Dja l x.1==(j:Int))) with
 |false=>exact Iub _
 |true=>rw[cond_true,Yva];exact Vv _
def Fvb (l:List Nmd) (hl:Q6 l):∀ (r:List Nmd) (j:Nat) (out:List ByteArray),(∀ x∈r,x∈l)→(∀ y∈out,M1 y)→(hS l r j out).length≤out.length+r.length∧∀ y∈hS l r j out,M1 y
 |[],_,out,_,h=>⟨by simp[hS],h⟩
 |x::r,j,out,hm,h=>by
  have h2:=Uwa l j out x
  obtain⟨a1,a2⟩:=Fvb l hl r (j+1) (hS1 l j out x) (λ y hy=>hm y (Vh _ hy)) (λ y hy=>by
   unfold hS1 at hy
   cases hc:(Mq x.2).isSome&&(!(Y4 out x.1)&&(Dja l x.1==(j:Int)))
   ·rw[hc]at hy;exact h y hy
   rw[hc]at hy
   rcases Ywa hy with hy|rfl|rfl
   ·exact h y hy
   ·exact hl x (hm x Yc)
   ·unfold M1;decide)
  refine⟨?_,a2⟩
  show (hS l r (j+1) (hS1 l j out x)).length≤_
  rw[Vd]
  omega
def Lca (a b:List Nmd) (j:Nat) (hj:j<a.length) (ha:a.length≤5000000):∀ (k:Nat) (x:List ByteArray),k<x.length→x.length≤5000000→
  Tot (λ n=>Jf n x (j:Int) (k:Int) (a,b)) (λ r=>r=((J9a x k (a.getD j D8).1).1,(j:Int),((J9a x k (a.getD j D8).1).2:Int),(a,b))):=by
 intro k
 induction k with
 |zero=>
  intro x hk hx
  refine Tot.succ ?_
  simp (disch:=omega) only [Jf,dF]
  exact I0b rfl
 |succ k ih=>
  intro x hk hx
  refine Tot.succ ?_
  have e1:((k+1:Nat):Int)-1=(k:Int):=by omega
  simp (disch:=omega) only [Jf,dT,w64,e1,Vb]
  have e0:a.getD j ((⟨#[]⟩:ByteArray),([]:List Int))=a.getD j D8:=rfl
  rw[e0]
  unfold J9a
  refine I6b (λ h=>?_) (λ h=>?_)
  ·rw[Hia]at h
   rw[show tlt (a.getD j D8).1 (x.getD k Ni)=true from h,cond_true]
   exact ih _ (by rw[Wb];omega) (by rw[Wb];omega)
  ·rw[Hia]at h
   rw[show tlt (a.getD j D8).1 (x.getD k Ni)=false from h,cond_false]
   exact I0b rfl
def Yxa (d:Dsk) (hd:DIn d) (hb:DB d):Tot (λ k=>Gi k d) (λ r=>r=Q1a d):=by
 have hl:=hd.2.1
 unfold Gi
 refine I1b (Q:=λ r=>r=Q1a d) ?_ (by rintro r rfl;exact I0b rfl)
 refine I9b (L:=λ k i s=>Gv k s i d) (Q:=λ r=>r=Q1a d) d.1.length (λ j s=>hS d.1 (d.1.drop j) j s=Q1a d∧s.length≤j) ?_ ?_ 0 [] (Vs _) ⟨rfl,Vv _⟩
 ·rintro s ⟨h,_⟩
  rw[We]at h
  simp (disch:=omega) only [Gv,dF]
  exact I0b h
 ·rintro j s hj ⟨h,hs⟩ next
  rw[Ai (d:=D8) hj]at h
  have hlen:=Uwa d.1 j s (d.1.getD j D8)
  have nx:=next _ ⟨show hS d.1 (d.1.drop (j+1)) (j+1) (hS1 d.1 j s (d.1.getD j D8))=Q1a d from h,by omega⟩
  have hx:=A3 (d:=D8) hj
  simp (disch:=omega) only [Gv,dT,Vb,w64]
  have e0:d.1.getD j ((⟨#[]⟩:ByteArray),([]:List Int))=d.1.getD j D8:=rfl
  rw[e0]
  unfold hS1 at nx
  refine Icb (Bga _ (hb.1 _ hx) (hd.1.1.1.2 _ hx)) ?_
  unfold Rz
  cases hf:Mq (d.1.getD j D8).2 with
  |none=>
   rw[hf]at nx
   exact I3b rfl nx
  |some f=>
   rw[hf]at nx
   refine I2b rfl (Icb (O2a s _ (by omega)) ?_)
   cases hc:Y4 s (d.1.getD j D8).1 with
   |true=>
    rw[hc]at nx
    exact I3b rfl nx
   |false=>
    rw[hc]at nx
    refine I2b rfl (Icb (Dka d.1 _ (by omega)) ?_)
    cases he:Dja d.1 (d.1.getD j D8).1==(j:Int) with
    |false=>
     rw[he]at nx
     exact I3b (by unfold bne;rw[he];rfl) nx
    |true=>
     rw[he]at nx
     refine I2b (by unfold bne;rw[he];rfl) (I8b (by simp only[Vd,Vk];omega) ?_)
     have hq:=Lca d.1 d.2 j hj (by omega) s.length (s++[(d.1.getD j D8).1]) (by simp) (by simp only[Ve,Vd,Vk];omega)
     refine I1b hq ?_
     rintro r rfl
     obtain⟨w1,w2,_⟩:=Bqa s.length (s++[(d.1.getD j D8).1]) (d.1.getD j D8).1
     rw[Ve]at w1
     simp only[Vd,Vk]at w1
     simp (disch:=omega) only [dT,Vb,w64]
     exact nx

def Dab (n:Nod):Nod×Int:=((n.1,(M9 n.2.1).1,n.2.2),(M9 n.2.1).2)
def Fha {n:Nod} (hn:NG n) {d:Dsk} (hd:DG d):NG (n.1,d,n.2.2):=by
 obtain⟨h1,h2,h3,h4,h5⟩:=C3.1 hn.1
 exact⟨C3.2 ⟨h1,h2,hd.1,h4,h5⟩,hd.2⟩
def O3a {n:Nod} (hn:NG n):NG (Dab n).1:=Fha hn (Yta hn.g)
def Uxa (n:Nod) (hn:NG n):Tot (λ k=>Hk k n) (λ r=>r=Dab n):=by
 unfold Hk
 refine Icb (Ph n (Y0 hn)) ?_
 refine Icb (Uta n.2.1 hn.g) ?_
 exact I0b rfl

end Go.Proofs.YtmhhjceoinoekaaGreat.Vf
