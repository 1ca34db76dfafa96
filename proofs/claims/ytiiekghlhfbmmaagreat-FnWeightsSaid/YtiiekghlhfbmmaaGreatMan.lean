import Derived.Test.YtiiekghlhfbmmaaGreatMam
import Derived.Test.YtiiekghlhfbmmaaGreatMal
set_option linter.all false
namespace Go.Proofs.YtiiekghlhfbmmaaGreat.Vf
open Go
open List (length getD)
open Int (toNat)
open Go.IntKind (wrap)
open BitVec (ofInt)
def Wi:=@List.take_succ_eq_append_getElem
def Kjb:=@List.foldl_append
def Kob:=@List.length_pos_of_mem
def Lqb:=@List.length_erase_of_mem
def M8b:=@List.exists_mem_of_length_pos
def Meb:=@List.mem_erase_of_ne
def Mlb:=@List.range_succ
def Mmb:=@BitVec.getLsbD_ushiftRight
def N9b:=@List.set_append_right

abbrev Nod:=Int×Dsk×List Row×List Row
def qOk (l:List Row):Bool:=l.all P9
def Po (n:Nod):Bool:=qOk n.2.2.2&&(inR n.1 0 20&&(B7 n.2.1&&(Mi n.2.2.1&&decide ((n.2.2.2.length:Int)≤60))))
def RF (l:List Row):Prop:=l.length≤2000000∧Xe l
def NIn (n:Nod):Prop:=(DIn n.2.1∧DB n.2.1)∧RF n.2.2.1∧RF n.2.2.2
def NG (n:Nod):Prop:=Po n=true∧DB n.2.1
def Cb {n:Nod}:Po n=true↔(∀ r∈n.2.2.2,P9 r=true)∧(0≤n.1∧n.1≤20)∧B7 n.2.1=true∧Mi n.2.2.1=true∧n.2.2.2.length≤60:=by
 unfold Po qOk;simp only[Va,Wj,Dt,decide_eq_true_iff];constructor
 ·rintro⟨h1,h2,h3,h4,h5⟩;exact⟨h1,h2,h3,h4,by omega⟩
 ·rintro⟨h1,h2,h3,h4,h5⟩;exact⟨h1,h2,h3,h4,by omega⟩
def Gwa {l:List Row} (h:Mi l=true):RF l:=by
 obtain⟨_,h2,h3⟩:=O3.1 h;exact⟨by omega,λ r hr=>K6 (F4a (h2 r hr))⟩
def Aya {n:Nod} (h:NG n):NIn n:=by
 obtain⟨h1,_,h3,h4,h5⟩:=Cb.1 h.1;exact⟨⟨Pw h3,h.2⟩,Gwa h4,by omega,λ r hr=>K6 (F4a (h1 r hr))⟩
def NG.g {n:Nod} (h:NG n):DG n.2.1:=⟨(Cb.1 h.1).2.2.1,h.2⟩
def P7a (n:Nod) (hn:NIn n):Tot (λ k=>Bn k n) (λ r=>r=Po n):=by
 obtain⟨i,⟨a,b⟩,ro,q⟩:=n;obtain⟨⟨hd,_⟩,hr,hq⟩:=hn;dsimp only at hd hr hq;unfold Bn;have hl:=hq.1;refine Jsb (Q:=λ r=>r=bif qOk q then .inr (i,a,b,ro,q) else .inl false) ?_ ?_
 ·refine K0b (L:=λ k i' (_:Unit)=>I5 k q (q.length:Int) i' i a b ro q) (Q:=λ r=>r=bif qOk q then .inr (i,a,b,ro,q) else .inl false) q.length (λ j _=>(q.drop j).all P9=q.all P9) ?_ ?_ 0 () (Vq _) (by rw[Yb])
  ·intro _ hj;rw[Vz]at hj;simp only[I5];exact Jwb (by omega) (Jrb (by unfold qOk;rw[← hj];rfl))
  ·intro j _ hj hi next;simp only[I5];rw[Aj (d:=Nh) hj,Kub]at hi;refine Jvb (by omega) (Jvb (by omega) (Jvb (by omega) ?_));rw[Vc,w64 (n:=(j:Int)+1) (by omega) (by omega)];refine K3b (V0a (q.getD j Nh) (hq.2 _ (A3 hj))) ?_
   cases hc:P9 (q.getD j Nh) with
   |false=>exact Jub rfl (Jrb (by unfold qOk;rw[← hi,hc];rfl))
   |true=>exact Jtb rfl (next () (by rw[hc,Vw]at hi;exact hi))
 ·rintro r rfl;unfold Po;dsimp only;cases qOk q
  ·exact Jrb rfl
  simp only[cond_true,Kgb,Vw];refine K3b (K5b (Q:=λ r=>r=inR i 0 20) (Sq _ _ _) rfl) ?_;cases inR i 0 20
  ·exact Jtb rfl (Jrb rfl)
  refine Jub rfl (K3b (U8 (a,b) hd.1.1 hd.1.2) ?_);cases B7 (a,b)
  ·exact Jtb rfl (Jrb rfl)
  refine Jub rfl (K3b (Oqa ro (by have:=hr.1;unfold Few;omega) hr.2) ?_)
  cases Mi ro with
  |false=>exact Jtb rfl (Jrb rfl)
  |true=>exact Jub rfl (Jrb rfl)
def A3b (n:Nod) (hn:NIn n):Tot (λ k=>Hr k n) (λ r=>r=Po n):=by
 obtain⟨i,⟨a,b⟩,ro,q⟩:=n;obtain⟨⟨hd,_⟩,hr,hq⟩:=hn;dsimp only at hd hr hq;unfold Hr;have hl:=hq.1;refine Jsb (Q:=λ r=>r=bif qOk q then .inr (i,a,b,ro,q) else .inl false) ?_ ?_
 ·refine K0b (L:=λ k i' (_:Unit)=>Ie k i' i a b ro q) (Q:=λ r=>r=bif qOk q then .inr (i,a,b,ro,q) else .inl false) q.length (λ j _=>(q.drop j).all P9=q.all P9) ?_ ?_ 0 () (Vq _) (by rw[Yb])
  ·intro _ hj;rw[Vz]at hj;simp only[Ie];exact Jwb (by omega) (Jrb (by unfold qOk;rw[← hj];rfl))
  ·intro j _ hj hi next;simp only[Ie];rw[Aj (d:=Nh) hj,Kub]at hi;refine Jvb (by omega) (Jvb (by omega) (Jvb (by omega) ?_));rw[Vc,w64 (n:=(j:Int)+1) (by omega) (by omega)];refine K3b (V1a (q.getD j Nh) (hq.2 _ (A3 hj))) ?_
   cases hc:P9 (q.getD j Nh) with
   |false=>exact Jub rfl (Jrb (by unfold qOk;rw[← hi,hc];rfl))
   |true=>exact Jtb rfl (next () (by rw[hc,Vw]at hi;exact hi))
 ·rintro r rfl;unfold Po;dsimp only;cases qOk q
  ·exact Jrb rfl
  simp only[cond_true,Kgb,Vw];refine K3b (K5b (Q:=λ r=>r=inR i 0 20) (Q9 _ _ _) rfl) ?_;cases inR i 0 20
  ·exact Jtb rfl (Jrb rfl)
  refine Jub rfl (K3b (Sd (a,b) hd.1.1 hd.1.2) ?_);cases B7 (a,b)
  ·exact Jtb rfl (Jrb rfl)
  refine Jub rfl (K3b (Zja ro (by have:=hr.1;unfold Few;omega) hr.2) ?_)
  cases Mi ro with
  |false=>exact Jtb rfl (Jrb rfl)
  |true=>exact Jub rfl (Jrb rfl)
def Qt (n:Nod) (hn:NIn n):Tot (λ k=>As k n) (λ r=>r=n):=by
 unfold As;have h1:=hn.2.1.1;have h2:=hn.2.2.1;refine K3b (Lc n.2.1 hn.1.1.1.1) ?_;refine K3b (K5b (Q:=λ r=>r=n.2.2.1) (Xb _ (by unfold Few;omega)) rfl) ?_;refine K3b (K5b (Q:=λ r=>r=n.2.2.2) (Xb _ (by unfold Few;omega)) rfl) ?_;exact Jrb rfl
def Jua (n:Nod) (hn:NIn n):Tot (λ k=>L7 k n) (λ r=>r=n):=by
 unfold L7;have h1:=hn.2.1.1;have h2:=hn.2.2.1;refine K3b (Nn n.2.1 hn.1.1.1.1) ?_;refine Jzb (by simp only[Vk];omega) (Jzb (by simp only[Vk];omega) (Jrb ?_));rw[Wa,Wa]
def Rca (a b:List Row) (hf:a.length+b.length≤10000000000):Tot (λ k=>Cy k a b) (λ r=>r=Qa a b):=by
 unfold Cy;refine Jzb (by simp only[Vk];omega) ?_;rw[Wa];refine Jsb (Q:=λ r=>r=Qa a b) ?_ (by rintro r rfl;exact Jrb rfl);refine K0b (L:=λ k i s=>Es k b s i) (Q:=λ r=>r=Qa a b) b.length (λ i s=>Qa s (b.drop i)=Qa a b∧s.length≤a.length+i) ?_ ?_ 0 a (Vq _) ⟨by rw[Yb],Nat.le_add_right _ _⟩
 ·rintro s ⟨hs,_⟩;rw[Vz]at hs;simp only[Es];exact Jwb (by omega) (Jrb hs)
 ·rintro i s hi ⟨hs,hl⟩ next;simp only[Es];refine Jvb (by omega) (Jvb (by omega) (Jvb (by omega) ?_));rw[Vc,w64 (n:=(i:Int)+1) (by omega) (by omega)];rw[Aj (d:=Nh) hi]at hs;refine K3b (Uxa s (b.getD i Nh) (by unfold Few;omega)) ?_;have:=Uya s (b.getD i Nh);exact next _ ⟨hs,by omega⟩
def A4b (n:Nod) (l:List Row):Nod×Bool:=bif Po n&&Mi l then (bif decide ((Qa n.2.2.1 l).length > 60) then (n,false) else ((n.1,n.2.1,Qa n.2.2.1 l,n.2.2.2),true)) else (n,false)
def Mpa {a b:List Row} (ha:Mi a=true) (hb:Mi b=true) (h:(Qa a b).length≤60):Mi (Qa a b)=true:=by
 obtain⟨a1,a2,_⟩:=O3.1 ha;obtain⟨b1,b2,_⟩:=O3.1 hb;exact O3.2 ⟨Pa a1,λ r hr=>(Gma hr).elim (a2 r) (b2 r),h⟩
def A5b (n:Nod) (l:List Row) (hn:NIn n) (hl:RF l):Tot (λ k=>Jj k n l) (λ r=>r=A4b n l):=by
 have h1:=hn.2.1.1;have h2:=hl.1;unfold Jj A4b;refine K3b (Qt n hn) ?_;refine K3b (P7a n hn) ?_;cases Po n
 ·exact Jub rfl (Jrb rfl)
 refine Jtb rfl (K3b (Oqa l (by unfold Few;omega) hl.2) ?_);cases Mi l
 ·exact Jub rfl (Jrb rfl)
 refine Jtb rfl (K3b (Qxa n.2.2.1 l (by omega)) ?_);refine Jyb (λ h=>?_) (λ h=>?_)
 ·rw[decide_eq_true (show (Qa n.2.2.1 l).length > 60 by omega)];refine K3b (Qt n hn) ?_;exact Jrb rfl
 ·rw[decide_eq_false (show ¬ (Qa n.2.2.1 l).length > 60 by omega)];exact Jrb rfl
def Rda (n:Nod) (l:List Row) (h1:n.2.2.1.length≤2000000) (h2:l.length≤2000000):Tot (λ k=>Uj k n l) (λ r=>r=bif decide ((Qa n.2.2.1 l).length > 60) then (false,n) else (true,(n.1,n.2.1,Qa n.2.2.1 l,n.2.2.2))):=by
 unfold Uj J8;refine Jsb (Rca n.2.2.1 l (by omega)) ?_;rintro r rfl;refine Jyb (λ h=>?_) (λ h=>?_)
 ·rw[decide_eq_true (show (Qa n.2.2.1 l).length > 60 by omega)];exact Jrb rfl
 ·rw[decide_eq_false (show ¬ (Qa n.2.2.1 l).length > 60 by omega)];exact Jrb rfl
def Aza (s:ByteArray) (f:Fil):Row:=(s,f.1,f.2.1,(f.2.2.length:Int))
def B0a (n:Nod) (s:ByteArray) (f:Fil) (sure:Bool):Nod×Int:=bif (n.2.2.2.length:Int)==60 then (n,3) else
 ((n.1,(keep n.2.1 s f sure).1,n.2.2.1,bif (keep n.2.1 s f sure).2==0&&sure then n.2.2.2++[Aza s f] else n.2.2.2),(keep n.2.1 s f sure).2)
def A6b {s:ByteArray} {f:Fil} (hs:Bi s=true) (hf:Hf f=true):P9 (Aza s f)=true:=by
 obtain⟨h1,h2,h3⟩:=Lu.1 hf;unfold P9 Aza;dsimp only;rw[hs,h1,Dt.2 ⟨by omega,by omega⟩]
 cases hd:f.2.1 with
 |false=>rfl
 |true=>rw[h3 hd];rfl
def Vua {n:Nod} {s:ByteArray} {f:Fil} {sure:Bool} (hn:NG n) (hs:Bi s=true) (hf:Hf f=true):NG (B0a n s f sure).1:=by
 obtain⟨h1,h2,h3,h4,h5⟩:=Cb.1 hn.1;have hk:=Cbb (s:=s) (f:=f) (sure:=sure) hn.g;unfold B0a;cases hl:((n.2.2.2.length:Int)==60)
 case true=>exact hn
 have hl':n.2.2.2.length≠60:=by
  intro e;rw[e]at hl;cases hl
 refine⟨Cb.2 ⟨?_,h2,hk.1,h4,?_⟩,hk.2⟩
 ·show ∀ r∈bif (keep n.2.1 s f sure).2==0&&sure then n.2.2.2++[Aza s f] else n.2.2.2,P9 r=true
  cases (keep n.2.1 s f sure).2==0&&sure
  ·exact h1
  intro r hr;rcases Vo.1 hr with hr|hr
  ·exact h1 r hr
  ·rw[Vu.1 hr];exact A6b hs hf
 ·show (bif (keep n.2.1 s f sure).2==0&&sure then n.2.2.2++[Aza s f] else n.2.2.2).length≤60
  cases (keep n.2.1 s f sure).2==0&&sure with
  |false=>exact h5
  |true=>rw[cond_true,Ve];simp only[Vd,Vk];omega
def Vva (n:Nod) (s:ByteArray) (f:Fil) (sure:Bool) (hn:NIn n) (hs:Ni s):Tot (λ k=>Wr k n s f sure) (λ r=>r=((B0a n s f sure).2,(B0a n s f sure).1)):=by
 have h1:=hn.2.2.1;unfold Wr M1 B0a
 cases (n.2.2.2.length:Int)==60 with
 |true=>exact Jub rfl (Jrb rfl)
 |false=>
  refine Jtb rfl (Jsb (P5a n.2.1 s f sure hn.1.1 hn.1.2.1 hs) ?_);rintro r rfl
  cases (keep n.2.1 s f sure).2==0 with
  |false=>exact Jtb rfl (Jrb rfl)
  |true=>
   refine Jub rfl ?_
   cases sure with
   |false=>exact Jtb rfl (Jrb rfl)
   |true=>
    refine Jub rfl (Jzb (by simp only[Vk];omega) ?_);refine Jsb (K5b (Q:=λ r=>r=Aza s f) (show Nj s f=some (Aza s f) from rfl) rfl) ?_;rintro r rfl;refine Jzb (by simp only[Ve,Vd,Vk];omega) (Jrb ?_);rw[Wa];rfl
def Mqa (n:Nod) (s:ByteArray) (b:Int):Nod×Bool:=bif Po n&&((lkD n.2.1 s).2==0&&(Kua n.2.1 s b).2) then ((n.1,(Kua n.2.1 s b).1,n.2.2),true) else (n,false)
def Ccb {n:Nod} {s:ByteArray} {b:Int} (hn:NG n):NG (Mqa n s b).1:=by
 obtain⟨h1,h2,h3,h4,h5⟩:=Cb.1 hn.1;have hr:=Hdb (s:=s) (n:=b) hn.g;unfold Mqa
 cases Po n&&((lkD n.2.1 s).2==0&&(Kua n.2.1 s b).2) with
 |false=>exact hn
 |true=>exact⟨Cb.2 ⟨h1,h2,hr.1,h4,h5⟩,hr.2⟩
def Mra (n:Nod) (s:ByteArray) (b:Int) (hn:NIn n) (h1:b≤9223372036854775807) (h0 : -9223372036854775808≤b):Tot (λ k=>L8 k n s b) (λ r=>r=Mqa n s b):=by
 unfold L8 Mqa;refine K3b (Jua n hn) ?_;refine K3b (Bka hn.1.1.1.1.1 hn.1.2.1 s) ?_;refine K3b (A3b n hn) ?_;cases h:Po n
 ·exact Jub rfl (Jrb rfl)
 refine Jtb rfl ?_;cases hl:(lkD n.2.1 s).2==0
 ·exact Jub (by unfold bne;rw[hl];rfl) (Jrb rfl)
 refine Jtb (by unfold bne;rw[hl];rfl) (K3b (Eob (NG.g ⟨h,hn.1.2⟩) h1 h0) ?_)
 cases (Kua n.2.1 s b).2 with
 |false=>exact Jub rfl (Jrb rfl)
 |true=>exact Jtb rfl (Jrb rfl)
def Ac:Nod:=((0:Int),(([]:List Nmd),([]:List Nmd)),([]:List Row),([]:List Row))
def Msa (i:Int):Ku i=some (bif inR i 0 20 then (i,([],[]),[],[]) else Ac):=by
 unfold Ku;rw[Q9];simp only[Vp]
 cases inR i 0 20<;>rfl

abbrev Dev:=Int×Int×Int
abbrev Rng:=Int×List (List Int)
def P4:Dev:=((0:Int),((0:Int),(0:Int)))
def M7 (l:List Int) (n:Int):Bool:=l.any (· == n)
def Nc {l:List Int} {n:Int}:M7 l n=true↔n∈l:=by
 unfold M7;rw[K9b];constructor
 ·rintro⟨x,hx,e⟩;rw[← eq_of_beq e];exact hx
 ·intro h;exact⟨n,h,beq_self_eq_true n⟩
def Tj (l:List Int) (n:Int) (hl:l.length≤4000000000000000):Tot (λ k=>Ap k l n) (λ r=>r=M7 l n):=by
 unfold Ap
 refine Jsb (Q:=λ r=>r=bif M7 l n then .inl true else .inr ()) ?_ (by rintro r rfl;cases M7 l n<;>exact Jrb rfl)
 refine K0b (L:=λ k i (_:Unit)=>I2 k n l (l.length:Int) i) (Q:=λ r=>r=bif M7 l n then .inl true else .inr ()) l.length (λ j _=>M7 (l.drop j) n=M7 l n) ?_ ?_ 0 () (Vq _) rfl
 ·intro _ h;rw[Vz]at h;simp (disch:=omega) only [I2,dF,← h];exact Jrb rfl
 ·intro j _ hj h next;rw[Aj (d:=0) hj]at h;simp (disch:=omega) only [I2,dT,Vc,w64];unfold M7 at h;rw[L5b]at h;refine Jxb (λ hc=>Jrb ?_) (λ hc=>next () ?_)
  ·rw[hc,Lpb]at h;unfold M7;rw[← h];rfl
  ·rw[hc,Zza]at h;exact h
def V8 (l:List Int) (n:Int) (hl:l.length≤4000000000000000):Tot (λ k=>Ct k l n) (λ r=>r=M7 l n):=by
 unfold Ct
 refine Jsb (Q:=λ r=>r=bif M7 l n then .inl true else .inr ()) ?_ (by rintro r rfl;cases M7 l n<;>exact Jrb rfl)
 refine K0b (L:=λ k i (_:Unit)=>Jl k l n i) (Q:=λ r=>r=bif M7 l n then .inl true else .inr ()) l.length (λ j _=>M7 (l.drop j) n=M7 l n) ?_ ?_ 0 () (Vq _) rfl
 ·intro _ h;rw[Vz]at h;simp (disch:=omega) only [Jl,dF,← h];exact Jrb rfl
 ·intro j _ hj h next;rw[Aj (d:=0) hj]at h;simp (disch:=omega) only [Jl,dT,Vc,w64];unfold M7 at h;rw[L5b]at h;refine Jxb (λ hc=>Jrb ?_) (λ hc=>next () ?_)
  ·rw[hc,Lpb]at h;unfold M7;rw[← h];rfl
  ·rw[hc,Zza]at h;exact h
def Lv (l:List Dev) (id:Int):Option Dev:=l.find? (λ d=>d.1==id)
def Heb:Option Dev→Dev×Bool
 |some d=>(d,true)
 |none=>(P4,false)
def A3a {l:List Dev} {id:Int} {d:Dev} (h:Lv l id=some d):d∈l∧d.1=id:=⟨Mtb h,eq_of_beq (List.find?_some (p:=λ d:Dev=>d.1==id) h)⟩
def Tk (l:List Dev) (id:Int) (hl:l.length≤1000000000):Tot (λ k=>Fb k l id) (λ r=>r=Heb (Lv l id)):=by
 unfold Fb
 refine Jsb (Q:=λ r=>r=match Lv l id with|some d => .inl (true,d)|none => .inr (0,0,0)) ?_ (by rintro r rfl;cases Lv l id<;>exact Jrb rfl)
 refine K0b (L:=λ k i (_:Unit)=>Jf k id l (l.length:Int) i (0,0,0)) (Q:=λ r=>r=match Lv l id with|some d => .inl (true,d)|none => .inr (0,0,0)) l.length (λ j _=>Lv (l.drop j) id=Lv l id) ?_ ?_ 0 () (Vq _) rfl
 ·intro _ h;rw[Vz]at h;simp (disch:=omega) only [Jf,dF,← h];exact Jrb rfl
 ·intro j _ hj h next;rw[Aj (d:=P4) hj]at h;unfold Lv at h;rw[L1b]at h;simp (disch:=omega) only [Jf,dT,Vc,w64];refine Jxb (λ hc=>Jrb ?_) (λ hc=>next () ?_)
  ·rw[show ((l.getD j P4).1==id)=true from hc]at h;unfold Lv;rw[← h];rfl
  ·rw[show ((l.getD j P4).1==id)=false from hc]at h;exact h
def Xl (l:List Dev) (id:Int) (hl:l.length≤1000000000):Tot (λ k=>Hh k l id) (λ r=>r=Heb (Lv l id)):=by
 unfold Hh
 refine Jsb (Q:=λ r=>r=match Lv l id with|some d => .inl (true,d)|none => .inr (0,0,0)) ?_ (by rintro r rfl;cases Lv l id<;>exact Jrb rfl)
 refine K0b (L:=λ k i (_:Unit)=>Jm k l id i (0,0,0)) (Q:=λ r=>r=match Lv l id with|some d => .inl (true,d)|none => .inr (0,0,0)) l.length (λ j _=>Lv (l.drop j) id=Lv l id) ?_ ?_ 0 () (Vq _) rfl
 ·intro _ h;rw[Vz]at h;simp (disch:=omega) only [Jm,dF,← h];exact Jrb rfl
 ·intro j _ hj h next;rw[Aj (d:=P4) hj]at h;unfold Lv at h;rw[L1b]at h;simp (disch:=omega) only [Jm,dT,Vc,w64];refine Jxb (λ hc=>Jrb ?_) (λ hc=>next () ?_)
  ·rw[show ((l.getD j P4).1==id)=true from hc]at h;unfold Lv;rw[← h];rfl
  ·rw[show ((l.getD j P4).1==id)=false from hc]at h;exact h
def D8a (d:Dev):Bool:=inR d.1 0 20&&(inR d.2.1 0 20&&inR d.2.2 1 1000)
def B1a:Option Int→List Dev→Bool
 |_,[]=>true
 |none,d::l=>D8a d&&B1a (some d.1) l
 |some q,d::l=>D8a d&&(decide (q<d.1)&&B1a (some d.1) l)
def N6 (l:List Dev):Bool:=B1a none l&&inR (l.length:Int) 1 12
def Jva (l:List Dev):Nat→Option Int
 |0=>none
 |i+1=>some (l.getD i P4).1
def Gxa:∀ (p:Option Int) (l:List Dev),B1a p l=true↔l.Pairwise (λ a b=>a.1<b.1)∧(∀ d∈l,D8a d=true)∧(∀ q,p=some q→∀ d∈l,q<d.1)
 |p,[]=>by cases p<;>simp[B1a]
 |none,d::l=>by
  simp only[B1a,Va,Gxa (some d.1) l,Wh,Vl,forall_eq_or_imp,Vg];constructor
  ·rintro⟨h1,h2,h3,h4⟩;exact⟨⟨h4 _ rfl,h2⟩,⟨h1,h3⟩,λ q h=>by cases h⟩
  ·rintro⟨⟨h1,h2⟩,⟨h3,h4⟩,_⟩;exact⟨h3,h2,h4,λ q e=>by subst e;exact h1⟩
 |some q,d::l=>by
  simp only[B1a,Va,decide_eq_true_iff,Gxa (some d.1) l,Wh,Vl,forall_eq_or_imp,Vg];constructor
  ·rintro⟨h1,hq,h2,h3,h4⟩;exact⟨⟨h4 _ rfl,h2⟩,⟨h1,h3⟩,λ q' e=>by subst e;exact⟨hq,λ x hx=>by have:=h4 _ rfl x hx;omega⟩⟩
  ·rintro⟨⟨h1,h2⟩,⟨h3,h4⟩,h5⟩;exact⟨h3,(h5 q rfl).1,h2,h4,λ q e=>by subst e;exact h1⟩
def Dz {l:List Dev}:N6 l=true↔l.Pairwise (λ a b=>a.1<b.1)∧(∀ d∈l,D8a d=true)∧1≤l.length∧l.length≤12:=by
 unfold N6;rw[Va,Gxa,Dt];constructor
 ·rintro⟨⟨h1,h2,_⟩,h3,h4⟩;exact⟨h1,h2,by omega,by omega⟩
 ·rintro⟨h1,h2,h3,h4⟩;exact⟨⟨h1,h2,λ q h=>by cases h⟩,by omega,by omega⟩
def Og {d:Dev}:D8a d=true↔(0≤d.1∧d.1≤20)∧(0≤d.2.1∧d.2.1≤20)∧1≤d.2.2∧d.2.2≤1000:=by
 unfold D8a;rw[Va,Va,Dt,Dt,Dt]
def Jwa {l:List Dev} {j:Nat} (hj:j<l.length):B1a (Jva l j) (l.drop j)=(D8a (l.getD j P4)&&((bif decide (0<j) then decide ((l.getD (j-1) P4).1<(l.getD j P4).1) else true)&&B1a (Jva l (j+1)) (l.drop (j+1)))):=by
 rw[Aj (d:=P4) hj]
 cases j with
 |zero=>simp[Jva,B1a]
 |succ j=>simp[Jva,B1a]
def Gya (l:List Dev) (hl:l.length≤1000000000):Tot (λ k=>D8 k l) (λ r=>r=N6 l):=by
 unfold D8 N6;refine Jsb (Q:=λ r=>r=bif B1a none l then .inr l else .inl false) ?_ ?_
 ·refine K0b (L:=λ k i (_:Unit)=>H5 k l l (l.length:Int) i) (Q:=λ r=>r=bif B1a none l then .inr l else .inl false) l.length (λ j _=>B1a (Jva l j) (l.drop j)=B1a none l) ?_ ?_ 0 () (Vq _) rfl
  ·intro _ h;rw[Vz]at h
   have:B1a none l=true:=by rw[← h];cases Jva l l.length<;>rfl
   simp (disch:=omega) only [H5,dF,this];exact Jrb rfl
  ·intro j _ hj h next;rw[Jwa hj]at h;simp (disch:=omega) only [H5,dT,Vc,w64,Sq,Vp];have e0:l.getD j ((0:Int),((0:Int),(0:Int)))=l.getD j P4:=rfl;rw[e0]
   have no:D8a (l.getD j P4)=false→B1a none l=false:=λ c=>by rw[← h,c];rfl
   unfold D8a at no h;refine Jxb (λ hc=>Jrb ?_) (λ h1=>Jxb (λ hc=>Jrb ?_) (λ h2=>Jxb (λ hc=>Jrb ?_) (λ h3=>?_)))
   ·rw[no (by rw[Vx]at hc;rw[hc];rfl)];rfl
   ·rw[no (by rw[Vx]at hc;rw[hc,Yt,Yc])];rfl
   ·rw[no (by rw[Vx]at hc;rw[hc,Yc,Yc])];rfl
   ·rw[Wl]at h1 h2 h3;rw[h1,h2,h3]at h;refine Jyb (λ h0=>?_) (λ h0=>next () ?_)
    ·simp (disch:=omega) only [dT,w64,show toNat ((j:Int)-1)=j-1 by omega];rw[decide_eq_true (show 0<j by omega)]at h;refine Jyb (λ hc=>Jrb ?_) (λ hc=>next () ?_)
     ·have hc':¬ ((l.getD (j-1) P4).1<(l.getD j P4).1):=by
       have:(l.getD (j-1) P4).1≥(l.getD j P4).1:=hc;omega
      rw[decide_eq_false hc']at h;rw[← h];rfl
     ·have hc':(l.getD (j-1) P4).1<(l.getD j P4).1:=by
       have:¬ ((l.getD (j-1) P4).1≥(l.getD j P4).1):=hc;omega
      rw[decide_eq_true hc']at h;exact h
    ·rw[decide_eq_false (show ¬ 0<j by omega)]at h;exact h
 ·rintro r rfl;cases B1a none l
  ·exact Jrb rfl
  simp only[cond_true,Kgb,Sq,Vp];exact Jrb rfl
def Gza (l:List Dev) (hl:l.length≤1000000000):Tot (λ k=>D9 k l) (λ r=>r=N6 l):=by
 unfold D9 N6;refine Jsb (Q:=λ r=>r=bif B1a none l then .inr l else .inl false) ?_ ?_
 ·refine K0b (L:=λ k i (_:Unit)=>H8 k l i) (Q:=λ r=>r=bif B1a none l then .inr l else .inl false) l.length (λ j _=>B1a (Jva l j) (l.drop j)=B1a none l) ?_ ?_ 0 () (Vq _) rfl
  ·intro _ h;rw[Vz]at h
   have:B1a none l=true:=by rw[← h];cases Jva l l.length<;>rfl
   simp (disch:=omega) only [H8,dF,this];exact Jrb rfl
  ·intro j _ hj h next;rw[Jwa hj]at h;simp (disch:=omega) only [H8,dT,Vc,w64,Q9,Vp];have e0:l.getD j ((0:Int),((0:Int),(0:Int)))=l.getD j P4:=rfl;rw[e0]
   have no:D8a (l.getD j P4)=false→B1a none l=false:=λ c=>by rw[← h,c];rfl
   unfold D8a at no h;refine Jxb (λ hc=>Jrb ?_) (λ h1=>Jxb (λ hc=>Jrb ?_) (λ h2=>Jxb (λ hc=>Jrb ?_) (λ h3=>?_)))
   ·rw[no (by rw[Vx]at hc;rw[hc];rfl)];rfl
   ·rw[no (by rw[Vx]at hc;rw[hc,Yt,Yc])];rfl
   ·rw[no (by rw[Vx]at hc;rw[hc,Yc,Yc])];rfl
   ·rw[Wl]at h1 h2 h3;rw[h1,h2,h3]at h;refine Jyb (λ h0=>?_) (λ h0=>next () ?_)
    ·simp (disch:=omega) only [dT,w64,show toNat ((j:Int)-1)=j-1 by omega];rw[decide_eq_true (show 0<j by omega)]at h;refine Jyb (λ hc=>Jrb ?_) (λ hc=>next () ?_)
     ·have hc':¬ ((l.getD (j-1) P4).1<(l.getD j P4).1):=by
       have:(l.getD (j-1) P4).1≥(l.getD j P4).1:=hc;omega
      rw[decide_eq_false hc']at h;rw[← h];rfl
     ·have hc':(l.getD (j-1) P4).1<(l.getD j P4).1:=by
       have:¬ ((l.getD (j-1) P4).1≥(l.getD j P4).1):=hc;omega
      rw[decide_eq_true hc']at h;exact h
    ·rw[decide_eq_false (show ¬ 0<j by omega)]at h;exact h
 ·rintro r rfl;cases B1a none l
  ·exact Jrb rfl
  simp only[cond_true,Kgb,Q9,Vp];exact Jrb rfl
def H0a (l:List Dev) (out:List Int) (id:Int):List Int:=match Lv l id with
 |some d=>bif M7 out d.2.1 then out else out++[d.2.1]
 |none=>out
def Du (ids:List Int) (l:List Dev):List Int:=ids.foldl (H0a l) []
def D9a (l:List Dev) (out:List Int) (id:Int):(H0a l out id).length≤out.length+1:=by
 unfold H0a
 cases Lv l id with
 |none=>exact Klb _
 |some d=>
  simp only
  cases M7 out d.2.1 with
  |true=>exact Klb _
  |false=>rw[cond_false,Ve];exact Vv _
def Jxa (l:List Dev):∀ (ids out:List Int),(ids.foldl (H0a l) out).length≤out.length+ids.length
 |[],out=>by simp
 |id::ids,out=>by
  have h1:=Jxa l ids (H0a l out id);have h2:=D9a l out id;rw[Ye,Vd];omega
def Vwa (ids:List Int) (l:List Dev) (hi:ids.length≤5000000) (hl:l.length≤5000000):Tot (λ k=>Dr k ids l) (λ r=>r=Du ids l):=by
 unfold Dr;refine Jsb (Q:=λ r=>r=Du ids l) ?_ (by rintro r rfl;exact Jrb rfl);refine K0b (L:=λ k i s=>Et k l s ids (ids.length:Int) i) (Q:=λ r=>r=Du ids l) ids.length (λ j s=>(ids.drop j).foldl (H0a l) s=Du ids l∧s.length≤j) ?_ ?_ 0 [] (Vq _) ⟨rfl,Vv _⟩
 ·rintro s ⟨h,_⟩;rw[Vz]at h;simp (disch:=omega) only [Et,dF];exact Jrb h
 ·rintro j s hj ⟨h,hs⟩ next;rw[Aj (d:=0) hj,Ye]at h;simp (disch:=omega) only [Et,dT,Vc,w64];have hz:=D9a l s (ids.getD j 0);refine K3b (Tk l (ids.getD j 0) (by omega)) ?_;unfold H0a at h hz
  cases hd:Lv l (ids.getD j 0) with
  |none=>
   rw[hd]at h;exact Jtb rfl (next _ ⟨h,by omega⟩)
  |some d=>
   rw[hd]at h hz;refine Jub rfl (K3b (Tj s d.2.1 (by omega)) ?_);simp only at h hz
   cases hh:M7 s d.2.1 with
   |true=>
    rw[hh]at h;exact Jtb rfl (next _ ⟨h,by omega⟩)
   |false=>
    rw[hh]at h hz;exact Jub rfl (Jzb (by simp only[Vd,Vk];omega) (next _ ⟨h,by rw[cond_false]at hz;exact Zt hz (by omega)⟩))
def Jya (ids:List Int) (l:List Dev) (hi:ids.length≤5000000) (hl:l.length≤5000000):Tot (λ k=>Dp k ids l) (λ r=>r=Du ids l):=by
 unfold Dp;refine Jsb (Q:=λ r=>r=Du ids l) ?_ (by rintro r rfl;exact Jrb rfl);refine K0b (L:=λ k i s=>El k ids l s i) (Q:=λ r=>r=Du ids l) ids.length (λ j s=>(ids.drop j).foldl (H0a l) s=Du ids l∧s.length≤j) ?_ ?_ 0 [] (Vq _) ⟨rfl,Vv _⟩
 ·rintro s ⟨h,_⟩;rw[Vz]at h;simp (disch:=omega) only [El,dF];exact Jrb h
 ·rintro j s hj ⟨h,hs⟩ next;rw[Aj (d:=0) hj,Ye]at h;simp (disch:=omega) only [El,dT,Vc,w64];have hz:=D9a l s (ids.getD j 0);refine K3b (Xl l (ids.getD j 0) (by omega)) ?_;unfold H0a at h hz
  cases hd:Lv l (ids.getD j 0) with
  |none=>
   rw[hd]at h;exact Jtb rfl (next _ ⟨h,by omega⟩)
  |some d=>
   rw[hd]at h hz;refine Jub rfl (K3b (V8 s d.2.1 (by omega)) ?_);simp only at h hz
   cases hh:M7 s d.2.1 with
   |true=>
    rw[hh]at h;exact Jtb rfl (next _ ⟨h,by omega⟩)
   |false=>
    rw[hh]at h hz;exact Jub rfl (Jzb (by simp only[Vd,Vk];omega) (next _ ⟨h,by rw[cond_false]at hz;exact Zt hz (by omega)⟩))

def Tl {l:List Int} {j:Nat} (hj:j<l.length) (h:(l.take j).Nodup) (hn:l.getD j 0∉l.take j):(l.take (j+1)).Nodup:=by
 rw[Wi hj,Yr];rw[Vb,Vj hj,Yo]at hn;exact⟨h,by simp,λ a ha b hb e=>by rw[Vu.1 hb]at e;subst e;exact hn ha⟩
def Jza {l:List Int} {j:Nat} (hj:j<l.length) (hn:l.getD j 0∈l.take j):¬ l.Nodup:=by
 intro h;have h1:(l.take (j+1)).Nodup:=h.sublist (Mxb _ _);rw[Wi hj,Yr]at h1;rw[Vb,Vj hj,Yo]at hn;exact h1.2.2 _ hn _ (by simp) rfl
def K0a (l:List Int) (hl:l.length≤5000000):Tot (λ k=>Hg k l) (λ r=>r=decide l.Nodup):=by
 unfold Hg
 refine Jsb (Q:=λ r=>r=bif decide l.Nodup then .inr () else .inl false) ?_ (by rintro r rfl;cases decide l.Nodup<;>exact Jrb rfl)
 refine K0b (L:=λ k i (_:Unit)=>Je k l l (l.length:Int) i) (Q:=λ r=>r=bif decide l.Nodup then .inr () else .inl false) l.length (λ j _=>(l.take j).Nodup) ?_ ?_ 0 () (Vq _) (by simp)
 ·intro _ h;rw[Yp]at h;simp (disch:=omega) only [Je,dF,decide_eq_true h];exact Jrb rfl
 ·intro j _ hj h next;simp (disch:=omega) only [Je,dT,Vc,w64];refine K3b (Tj (l.take j) (l.getD j 0) (by rw[Vt];omega)) ?_;refine Jxb (λ hc=>Jrb ?_) (λ hc=>next () (Tl hj h (λ c=>by rw[Nc.2 c]at hc;cases hc)));rw[decide_eq_false (Jza hj (Nc.1 hc))];rfl
def A7b (l:List Int) (n:Int) (hl:l.length≤5000000):Tot (λ k=>Hs k l n) (λ r=>r=(decide l.Nodup&&((l.length:Int)==n))):=by
 unfold Hs
 refine Jsb (Q:=λ r=>r=bif decide l.Nodup then .inr (n,l) else .inl false) ?_ (by rintro r rfl;cases decide l.Nodup<;>exact Jrb rfl)
 refine K0b (L:=λ k i (_:Unit)=>Ii k n i l) (Q:=λ r=>r=bif decide l.Nodup then .inr (n,l) else .inl false) l.length (λ j _=>(l.take j).Nodup) ?_ ?_ 0 () (Vq _) (by simp)
 ·intro _ h;rw[Yp]at h;simp (disch:=omega) only [Ii,dF,decide_eq_true h];exact Jrb rfl
 ·intro j _ hj h next;simp (disch:=omega) only [Ii,dT,Vc,w64];refine K3b (V8 (l.take j) (l.getD j 0) (by rw[Vt];omega)) ?_;refine Jxb (λ hc=>Jrb ?_) (λ hc=>next () (Tl hj h (λ c=>by rw[Nc.2 c]at hc;cases hc)));rw[decide_eq_false (Jza hj (Nc.1 hc))];rfl
def RBd (r:Rng):Prop:=r.2.length≤2000000∧∀ p∈r.2,p.length≤2000000
def Ro (l:List Dev) (n:Int) (p:List Int):Bool:=(decide p.Nodup&&((p.length:Int)==n))&&p.all λ id=>(Lv l id).isSome
def Jd (r:Rng) (l:List Dev):Bool:=N6 l&&(inR r.1 1 5&&(inR (r.2.length:Int) 1 64&&r.2.all (Ro l r.1)))
def Bh {r:Rng} {l:List Dev}:Jd r l=true↔N6 l=true∧(1≤r.1∧r.1≤5)∧(1≤r.2.length∧r.2.length≤64)∧∀ p∈r.2,p.Nodup∧(p.length:Int)=r.1∧∀ id∈p,∃ d,Lv l id=some d:=by
 unfold Jd Ro;simp only[Va,Dt,Wj,decide_eq_true_iff,beq_iff_eq,Zm];constructor
 ·rintro⟨h1,h2,⟨h3,h4⟩,h5⟩;exact⟨h1,h2,⟨by omega,by omega⟩,λ p hp=>⟨(h5 p hp).1.1,(h5 p hp).1.2,(h5 p hp).2⟩⟩
 ·rintro⟨h1,h2,⟨h3,h4⟩,h5⟩;exact⟨h1,h2,⟨by omega,by omega⟩,λ p hp=>⟨⟨(h5 p hp).1,(h5 p hp).2.1⟩,(h5 p hp).2.2⟩⟩
def N1 {r:Rng} {l:List Dev} (h:Jd r l=true):RBd r:=by
 obtain⟨_,h2,h3,h4⟩:=Bh.1 h;exact⟨by omega,λ p hp=>by have:=(h4 p hp).2.1;omega⟩
def A8b (r:Rng) (l:List Dev) (hr:RBd r) (hl:l.length≤5000000):Tot (λ k=>G8 k r l) (λ b=>b=Jd r l):=by
 unfold G8 Jd;refine K3b (Gya l (by omega)) ?_;cases hd:N6 l
 ·exact Jub rfl (Jrb rfl)
 have hrl:=hr.1;simp only[Yw,cond_false,Sq,Vp,Vw];cases inR r.1 1 5
 ·exact Jub rfl (Jrb rfl)
 refine Jtb rfl ?_;cases inR (r.2.length:Int) 1 64
 ·exact Jub rfl (Jrb rfl)
 refine Jtb rfl (Jsb (Q:=λ b=>b=bif r.2.all (Ro l r.1) then .inr () else .inl false) ?_ (by rintro r' rfl;cases r.2.all (Ro l r.1)<;>exact Jrb rfl))
 refine K0b (L:=λ k i (_:Unit)=>I4 k l r.2 (r.2.length:Int) i r) (Q:=λ b=>b=bif r.2.all (Ro l r.1) then .inr () else .inl false) r.2.length (λ j _=>(r.2.drop j).all (Ro l r.1)=r.2.all (Ro l r.1)) ?_ ?_ 0 () (Vq _) rfl
 ·intro _ h;rw[Vz]at h;simp (disch:=omega) only [I4,dF,← h];exact Jrb rfl
 ·intro j _ hj h next;rw[Aj (d:=[]) hj,Kub]at h;have hp:=hr.2 _ (A3 (d:=[]) hj);simp (disch:=omega) only [I4,dT,Vc,w64]
  have no:Ro l r.1 (r.2.getD j [])=false→r.2.all (Ro l r.1)=false:=λ c=>by rw[← h,c];rfl
  unfold Ro at no h;refine Jxb (λ hc=>Jrb ?_) (λ h1=>Jsb (K0a (r.2.getD j []) (by omega)) ?_)
  ·have hc':(((r.2.getD j []).length:Int)==r.1)=false:=by simpa using hc
   rw[show r.2.all (Ro l r.1)=false from no (by rw[hc',Yc,Yt])];rfl
  ·have h1':(((r.2.getD j []).length:Int)==r.1)=true:=by simpa using h1
   rintro b rfl;refine Jxb (λ hc=>Jrb ?_) (λ h2=>?_)
   ·rw[show r.2.all (Ro l r.1)=false from no (by rw[Vx]at hc;rw[hc];rfl)];rfl
   ·rw[Wl]at h2;generalize r.2.getD j []=p at *;refine Jsb (Q:=λ b=>b=bif p.all (λ id=>(Lv l id).isSome) then .inr (l,r.2,(r.2.length:Int),(j:Int),r) else .inl false) ?_ ?_
    ·refine K0b (L:=λ k i (_:Unit)=>I3 k l r.2 (r.2.length:Int) (j:Int) p (p.length:Int) i r) (Q:=λ b=>b=bif p.all (λ id=>(Lv l id).isSome) then .inr (l,r.2,(r.2.length:Int),(j:Int),r) else .inl false) p.length (λ m _=>(p.drop m).all (λ id=>(Lv l id).isSome)=p.all (λ id=>(Lv l id).isSome)) ?_ ?_ 0 () (Vq _) rfl
     ·intro _ h;rw[Vz]at h;simp (disch:=omega) only [I3,dF,← h];exact Jrb rfl
     ·intro m _ hm h next;rw[Aj (d:=0) hm,Kub]at h;simp (disch:=omega) only [I3,dT,Vc,w64];refine K3b (Tk l (p.getD m 0) (by omega)) ?_
      cases hd:Lv l (p.getD m 0) with
      |none=>exact Jub rfl (Jrb (by rw[← h,hd];rfl))
      |some d=>exact Jtb rfl (next () (by rw[hd]at h;exact h))
    ·rintro b rfl;cases hc:p.all (λ id=>(Lv l id).isSome)
     ·exact Jrb (by rw[show r.2.all (Ro l r.1)=false from no (by rw[hc,Yc])];rfl)
     simp (disch:=omega) only [cond_true,Kgb,w64];exact next () (by rw[h2,h1',hc]at h;exact h)
def Aka (l:List Int) (hl:l.length≤5000000):Cc l=some l:=by
 unfold Cc;rw[bT (by simp only[Vk];omega),Wa]
def Ala (r:Rng) (hr:RBd r):Tot (λ k=>Dk k r) (λ x=>x=r):=by
 have hrl:=hr.1;unfold Dk;refine Jsb (Q:=λ x=>x=((0,[]),r)) ?_ (by rintro x rfl;exact Jrb rfl);refine K0b (L:=λ k i s=>Ed k r.2 (r.2.length:Int) i (0,[]) (r.1,s)) (Q:=λ x=>x=((0,[]),r)) r.2.length (λ j s=>s=r.2.take j) ?_ ?_ 0 [] (Vq _) rfl
 ·rintro s rfl;simp (disch:=omega) only [Ed,dF,Yp];exact Jrb rfl
 ·rintro j s hj rfl next;have hp:=hr.2 _ (A3 (d:=[]) hj);simp (disch:=omega) only [Ed,dT,Vc,w64,Aka,Vp];refine Jzb (by simp only[Vt,Vd,Vk];omega) (next _ ?_);rw[Wi hj,Vb,Vj hj,Yo]
def K1a (r:Rng) (hr:RBd r):Tot (λ k=>Ll k r) (λ x=>x=r):=by
 have hrl:=hr.1;unfold Ll;refine Jsb (Q:=λ x=>x=((0,[]),r)) ?_ (by rintro x rfl;exact Jrb rfl);refine K0b (L:=λ k i s=>Ih k i r (0,[]) (r.1,s)) (Q:=λ x=>x=((0,[]),r)) r.2.length (λ j s=>s=r.2.take j) ?_ ?_ 0 [] (Vq _) rfl
 ·rintro s rfl;simp (disch:=omega) only [Ih,dF,Yp];exact Jrb rfl
 ·rintro j s hj rfl next;have hp:=hr.2 _ (A3 (d:=[]) hj);simp (disch:=omega) only [Ih,dT,Vc,w64];refine Jzb (by simp only[Vk];omega) (Jzb (by simp only[Vt,Vd,Vk];omega) (next _ ?_));rw[Wi hj,Vb,Vj hj,Yo,Wa]
def cnt (id n x:Int):Int:=bif x==id then n+1 else n
def Dua (id n:Int) (p:List Int):Int:=p.foldl (cnt id) n
def Jv (r:Rng) (id:Int):Int:=r.2.foldl (Dua id) 0
def H1a (id:Int):∀ (p:List Int) (n:Int),n≤Dua id n p∧Dua id n p≤n+p.length
 |[],n=>by simp[Dua]
 |x::p,n=>by
  have h:=H1a id p (cnt id n x);unfold Dua at h ⊢
  have hc:n≤cnt id n x∧cnt id n x≤n+1:=by unfold cnt;cases x==id<;>simp<;>omega
  rw[Ye,Vd];omega
def Vxa (id:Int) (m:Nat):∀ (ps:List (List Int)) (n:Int),(∀ p∈ps,p.length≤m)→n≤ps.foldl (Dua id) n∧ps.foldl (Dua id) n≤n+(m*ps.length:Nat)
 |[],n,_=>by simp
 |p::ps,n,h=>by
  have h1:=Vxa id m ps (Dua id n p) (λ q hq=>h q (Vh _ hq));have h2:=H1a id p n;have h3:=h p Ya;rw[Ye,Vd,Nat.mul_succ];omega
def Pp {r:Rng} (hr:RBd r) (id:Int):0≤Jv r id∧Jv r id≤4000000000000:=by
 have h:=Vxa id 2000000 r.2 0 hr.2;have h2:=hr.1;unfold Jv;omega
def H2a (r:Rng) (id:Int) (hr:RBd r):Tot (λ k=>H2 k r id) (λ x=>x=Jv r id):=by
 have hrl:=hr.1;unfold H2;refine Jsb (Q:=λ x=>x=Jv r id) ?_ (by rintro x rfl;exact Jrb rfl);refine K0b (L:=λ k i s=>Il k id s r.2 (r.2.length:Int) i) (Q:=λ x=>x=Jv r id) r.2.length (λ j s=>(r.2.drop j).foldl (Dua id) s=Jv r id∧0≤s∧s≤2000000*j) ?_ ?_ 0 0 (Vq _) ⟨rfl,by omega,by omega⟩
 ·rintro s ⟨h,_⟩;rw[Vz]at h;simp (disch:=omega) only [Il,dF];exact Jrb h
 ·rintro j s hj ⟨h,h0,h1⟩ next;rw[Aj (d:=[]) hj,Ye]at h;have hp:=hr.2 _ (A3 (d:=[]) hj);have hc:=H1a id (r.2.getD j []) s;simp (disch:=omega) only [Il,dT,Vc];refine Jsb (Q:=λ x=>x=(id,Dua id s (r.2.getD j []),r.2,(r.2.length:Int),(j:Int))) ?_ ?_
  ·generalize r.2.getD j []=p at *;refine K0b (L:=λ k i s=>He k id s r.2 (r.2.length:Int) (j:Int) p (p.length:Int) i) (Q:=λ x=>x=(id,Dua id s p,r.2,(r.2.length:Int),(j:Int))) p.length (λ m z=>Dua id z (p.drop m)=Dua id s p∧0≤z∧z≤2000000*j+m) ?_ ?_ 0 s (Vq _) ⟨rfl,h0,by omega⟩
   ·rintro z ⟨h,_⟩;rw[Vz]at h;simp (disch:=omega) only [He,dF];exact Jrb (by rw[← h];rfl)
   ·rintro m z hm ⟨h,z0,z1⟩ next;rw[Aj (d:=0) hm]at h;simp (disch:=omega) only [He,dT,Vc,w64];have h':Dua id (cnt id z (p.getD m 0)) (p.drop (m+1))=Dua id s p:=h;unfold cnt at h';refine Jxb (λ hc=>next _ ?_) (λ hc=>next _ ?_)
    ·rw[hc]at h';exact⟨h',by omega,by omega⟩
    ·rw[hc]at h';exact⟨h',by omega,by omega⟩
  ·rintro x rfl;simp (disch:=omega) only [w64];exact next _ ⟨h,by omega,by omega⟩
def Bla (r:Rng) (id:Int) (hr:RBd r):Tot (λ k=>Da k r id) (λ x=>x=Jv r id):=by
 have hrl:=hr.1;unfold Da;refine Jsb (Q:=λ x=>x=Jv r id) ?_ (by rintro x rfl;exact Jrb rfl);refine K0b (L:=λ k i s=>Ia k id s i r) (Q:=λ x=>x=Jv r id) r.2.length (λ j s=>(r.2.drop j).foldl (Dua id) s=Jv r id∧0≤s∧s≤2000000*j) ?_ ?_ 0 0 (Vq _) ⟨rfl,by omega,by omega⟩
 ·rintro s ⟨h,_⟩;rw[Vz]at h;simp (disch:=omega) only [Ia,dF];exact Jrb h
 ·rintro j s hj ⟨h,h0,h1⟩ next;rw[Aj (d:=[]) hj,Ye]at h;have hp:=hr.2 _ (A3 (d:=[]) hj);have hc:=H1a id (r.2.getD j []) s;simp (disch:=omega) only [Ia,dT];refine Jsb (Q:=λ x=>x=(id,Dua id s (r.2.getD j []),(j:Int),r)) ?_ ?_
  ·refine K0b (L:=λ k i s=>H9 k id s (j:Int) i r) (Q:=λ x=>x=(id,Dua id s (r.2.getD j []),(j:Int),r)) (r.2.getD j []).length (λ m z=>Dua id z ((r.2.getD j []).drop m)=Dua id s (r.2.getD j [])∧0≤z∧z≤2000000*j+m) ?_ ?_ 0 s (Vq _) ⟨rfl,h0,by omega⟩
   ·rintro z ⟨h,_⟩;rw[Vz]at h;simp (disch:=omega) only [H9,dT,dF,Vc];exact Jrb (by rw[← h];rfl)
   ·rintro m z hm ⟨h,z0,z1⟩ next;rw[Aj (d:=0) hm]at h;simp (disch:=omega) only [H9,dT,Vc,w64];have h':Dua id (cnt id z ((r.2.getD j []).getD m 0)) ((r.2.getD j []).drop (m+1))=Dua id s (r.2.getD j []):=h;unfold cnt at h';refine Jxb (λ hc=>next _ ?_) (λ hc=>next _ ?_)
    ·rw[hc]at h';exact⟨h',by omega,by omega⟩
    ·rw[hc]at h';exact⟨h',by omega,by omega⟩
  ·rintro x rfl;simp (disch:=omega) only [w64];exact next _ ⟨h,by omega,by omega⟩

def Ijb {a w:Int} (h0:0≤a) (h1:a≤4000000000001) (w0:0≤w) (w1:w≤1000) : -9223372036854775808≤a*w∧a*w≤9223372036854775807:=by
 have e1:=Int.mul_nonneg h0 w0;have e2:a*w≤4000000000001*1000:=Int.mul_le_mul h1 w1 w0 (by decide);omega
def V9 (r:Rng) (p zs:List Int) (a:Option (Dev×Bool)) (d:Dev):Option (Dev×Bool):=
 bif M7 p d.1 then a else match a with
 |none=>some (d,!(M7 zs d.2.1))
 |some (b,fr)=>bif (!(M7 zs d.2.1)&&!fr)||(((!(M7 zs d.2.1))==fr)&&decide ((Jv r d.1+1)*b.2.2<(Jv r b.1+1)*d.2.2)) then some (d,!(M7 zs d.2.1)) else some (b,fr)
def Q0 (r:Rng) (p:List Int) (l:List Dev):Option (Dev×Bool):=l.foldl (V9 r p (Du p l)) none
def Xx (r:Rng) (p:List Int) (l:List Dev):Int:=match Q0 r p l with
 |some b=>b.1.1
 |none => -1
def P8a {r:Rng} {p zs:List Int} {l:List Dev} {a:Option (Dev×Bool)} {d:Dev} (ha:∀ b,a=some b→b.1∈l∧b.1.1∉p) (hd:d∈l):∀ b,V9 r p zs a d=some b→b.1∈l∧b.1.1∉p:=by
 intro b hb;unfold V9 at hb;cases hp:M7 p d.1
 case true=>rw[hp]at hb;exact ha b hb
 have hn:d.1∉p:=λ c=>by rw[Nc.2 c]at hp;cases hp
 rw[hp,cond_false]at hb
 cases a with
 |none=>cases hb;exact⟨hd,hn⟩
 |some c=>
  obtain⟨c,fr⟩:=c;simp only at hb
  cases hq:(!(M7 zs d.2.1)&&!fr)||(((!(M7 zs d.2.1))==fr)&&decide ((Jv r d.1+1)*c.2.2<(Jv r c.1+1)*d.2.2)) with
  |true=>rw[hq]at hb;cases hb;exact⟨hd,hn⟩
  |false=>rw[hq]at hb;cases hb;exact ha _ rfl
def P9a {r:Rng} {p zs:List Int} {l:List Dev}:∀ (m:List Dev) (a:Option (Dev×Bool)),(∀ b,a=some b→b.1∈l∧b.1.1∉p)→(∀ d∈m,d∈l)→∀ b,m.foldl (V9 r p zs) a=some b→b.1∈l∧b.1.1∉p
 |[],_,ha,_=>ha
 |d::m,_,ha,hm=>P9a m _ (P8a ha (hm d Ya)) (λ x hx=>hm x (Vh _ hx))
def Paa {r:Rng} {p:List Int} {l:List Dev} {b:Dev×Bool} (h:Q0 r p l=some b):b.1∈l∧b.1.1∉p:=P9a l none (λ b h=>by cases h) (λ _ h=>h) b h
def Rea {r:Rng} {p zs:List Int} {a:Option (Dev×Bool)} {d:Dev} (h:a.isSome=true∨d.1∉p):(V9 r p zs a d).isSome=true:=by
 unfold V9
 cases hp:M7 p d.1 with
 |true=>
  rcases h with h|h
  ·exact h
  ·exact absurd (Nc.1 hp) h
 |false=>
  cases a with
  |none=>rfl
  |some c=>
   obtain⟨c,fr⟩:=c;simp only[cond_false]
   cases (!(M7 zs d.2.1)&&!fr)||(((!(M7 zs d.2.1))==fr)&&decide ((Jv r d.1+1)*c.2.2<(Jv r c.1+1)*d.2.2))<;>rfl
def Faa {r:Rng} {p zs:List Int}:∀ (m:List Dev) (a:Option (Dev×Bool)),(a.isSome=true∨∃ d∈m,d.1∉p)→(m.foldl (V9 r p zs) a).isSome=true
 |[],a,h=>by
  rcases h with h|⟨d,h,_⟩
  ·exact h
  ·cases h
 |d::m,a,h=>by
  refine Faa m _ ?_
  by_cases hd:a.isSome=true∨d.1∉p
  ·exact .inl (Rea hd)
  ·rcases h with h|⟨x,hx,hn⟩
   ·exact absurd (.inl h) hd
   ·rcases Vl.1 hx with rfl|hx
    ·exact absurd (.inr hn) hd
    ·exact .inr ⟨x,hx,hn⟩
def A9b {r:Rng} {p:List Int} {l:List Dev} (h:∃ d∈l,d.1∉p):∃ d∈l,Xx r p l=d.1∧d.1∉p:=by
 obtain⟨b,hb⟩:=Zm.1 (Faa (r:=r) (zs:=Du p l) l none (.inr h));obtain⟨h1,h2⟩:=Paa hb;exact⟨b.1,h1,by unfold Xx;rw[show Q0 r p l=some b from hb],h2⟩
def Rfa (r:Rng) (p:List Int) (l:List Dev):(Q0 r p l=none∧Xx r p l = -1)∨∃ b,Q0 r p l=some b∧Xx r p l=b.1.1∧b.1∈l∧b.1.1∉p:=by
 cases h:Q0 r p l with
 |none=>exact .inl ⟨rfl,by unfold Xx;rw[h]⟩
 |some b=>exact .inr ⟨b,rfl,by unfold Xx;rw[h],Paa h⟩
def Vr (p:List Int) (l:List Dev):(Du p l).length≤p.length:=by
 have:=Jxa l p [];rwa [Vk,Wm]at this
def bs (r:Rng):Option (Dev×Bool)→Int×Bool×Dev
 |some (b,fr)=>(Jv r b.1+1,fr,b)
 |none=>(0,false,-1,0,0)
def Aab (r:Rng) (p:List Int) (l:List Dev) (hr:RBd r) (hp:p.length≤2000000) (hl:N6 l=true):Tot (λ k=>Jq k r p l) (λ x=>x=Xx r p l):=by
 obtain⟨_,hdv,_,h12⟩:=Dz.1 hl;have hz:=Vr p l;unfold Jq;refine K3b (Gya l (by omega)) ?_;refine Jtb (by rw[hl];rfl) (K3b (Vwa p l (by omega) (by omega)) ?_)
 refine Jsb (Q:=λ x=>x=match Q0 r p l with|some b=>b.1|none=>(-1,0,0)) ?_ (by rintro x rfl;unfold Xx;cases Q0 r p l<;>exact Jrb rfl)
 refine K0b (L:=λ k i (s:Int×Bool×Dev)=>C5 k (Du p l) s.1 s.2.1 l (l.length:Int) i r p s.2.2) (Q:=λ x=>x=match Q0 r p l with|some b=>b.1|none=>(-1,0,0)) l.length
  (λ j s=>∃ a,s=bs r a∧(∀ b,a=some b→b.1∈l∧b.1.1∉p)∧(l.drop j).foldl (V9 r p (Du p l)) a=Q0 r p l) ?_ ?_ 0 (0,false,-1,0,0) (Vq _) ⟨none,rfl,λ b h=>(by cases h),rfl⟩
 ·rintro s ⟨a,rfl,_,h⟩;rw[Vz]at h;simp (disch:=omega) only [C5,dF];refine Jrb ?_;rw[← h]
  cases a<;>rfl
 ·rintro j s hj ⟨a,rfl,ha,h⟩ next;rw[Aj (d:=P4) hj,Ye]at h;have hd:=A3 (d:=P4) hj;obtain⟨d,ed⟩:∃ d:Dev,l.getD j P4=d:=⟨_,rfl⟩;rw[ed]at h hd;have e0:l.getD j ((0:Int),((0:Int),(0:Int)))=d:=ed;have ha':=P8a (r:=r) (p:=p) (zs:=Du p l) ha hd;obtain⟨_,_,w0,w1⟩:=Og.1 (hdv _ hd);have l1:=Pp hr d.1;simp (disch:=omega) only [C5,dT,Vc,w64,e0];unfold V9 at h ha';refine K3b (Tj p d.1 (by omega)) ?_
  cases hp':M7 p d.1 with
  |true=>
   rw[hp']at h;exact Jub rfl (next _ ⟨a,rfl,ha,h⟩)
  |false=>
   rw[hp',cond_false]at h ha';refine Jtb rfl (K3b (H2a r d.1 hr) ?_);refine K3b (Tj (Du p l) d.2.1 (by omega)) ?_;simp (disch:=omega) only [w64];have take:(∀ b,some (d,!(M7 (Du p l) d.2.1))=some b→b.1∈l∧b.1.1∉p)→(l.drop (j+1)).foldl (V9 r p (Du p l)) (some (d,!(M7 (Du p l) d.2.1)))=Q0 r p l→Tot (λ k=>C5 k (Du p l) (Jv r d.1+1) (!(M7 (Du p l) d.2.1)) l (l.length:Int) ((j:Int)+1) r p d) (λ x=>x=match Q0 r p l with|some b=>b.1|none=>(-1,0,0)):=λ h1 h2=>next (Jv r d.1+1,!(M7 (Du p l) d.2.1),d) ⟨_,rfl,h1,h2⟩
   cases a with
   |none=>exact Jvb (show (-1:Int)<0 by decide) (take ha' h)
   |some bf=>
    obtain⟨b,fr⟩:=bf;have hb:b∈l:=(ha _ rfl).1;obtain⟨⟨i0,_⟩,_,v0,v1⟩:=Og.1 (hdv _ hb);have l2:=Pp hr b.1;have m1:=Ijb (a:=Jv r d.1+1) (w:=b.2.2) (by omega) (by omega) (by omega) v1;have m2:=Ijb (a:=Jv r b.1+1) (w:=d.2.2) (by omega) (by omega) (by omega) w1;have stay:(l.drop (j+1)).foldl (V9 r p (Du p l)) (some (b,fr))=Q0 r p l→Tot (λ k=>C5 k (Du p l) (Jv r b.1+1) fr l (l.length:Int) ((j:Int)+1) r p b) (λ x=>x=match Q0 r p l with|some b=>b.1|none=>(-1,0,0)):=λ h2=>next (Jv r b.1+1,fr,b) ⟨some (b,fr),rfl,ha,h2⟩;refine Jwb (by show ¬ b.1<0;omega) ?_;dsimp only at h ha';have eb:bs r (some (b,fr))=(Jv r b.1+1,fr,b):=rfl;simp only[eb,w64 m1.1 m1.2,w64 m2.1 m2.2]
    have cmp:∀ {z:Bool},M7 (Du p l) d.2.1=z→((!z)==fr)=true→(!z&&!fr)=false→Tot (λ k=>cond (decide ((Jv r d.1+1)*b.2.2<(Jv r b.1+1)*d.2.2)) (C5 k (Du p l) (Jv r d.1+1) (!(M7 (Du p l) d.2.1)) l (l.length:Int) ((j:Int)+1) r p d) (C5 k (Du p l) (Jv r b.1+1) fr l (l.length:Int) ((j:Int)+1) r p b)) (λ x=>x=match Q0 r p l with|some b=>b.1|none=>(-1,0,0)):=by
     intro z hz e1 e2;rw[hz]at h ha' take ⊢;rw[e1,e2,Zza,Vw]at h ha';refine Jxb (λ hc=>?_) (λ hc=>?_)
     ·rw[hc]at h ha';exact take ha' h
     ·rw[hc]at h;exact stay h
    cases hz:M7 (Du p l) d.2.1 with
    |false=>
     have cm:=cmp hz;rw[hz]at h ha' take cm
     cases fr with
     |false=>exact Jub rfl (Jub rfl (take ha' h))
     |true=>exact Jub rfl (Jtb rfl (Jub rfl (cm rfl rfl)))
    |true=>
     have cm:=cmp hz;rw[hz]at h ha' take cm
     cases fr with
     |false=>exact Jtb rfl (Jub rfl (cm rfl rfl))
     |true=>exact Jtb rfl (Jtb rfl (stay h))
def Pba (r:Rng) (p:List Int) (l:List Dev) (hr:RBd r) (hp:p.length≤2000000) (hl:N6 l=true):Tot (λ k=>J6 k r p l) (λ x=>x=Xx r p l):=by
 obtain⟨_,hdv,_,h12⟩:=Dz.1 hl;have hz:=Vr p l;unfold J6;refine K3b (Jya p l (by omega) (by omega)) ?_;refine Jsb (Q:=λ x=>∃ i:Int,x=(l,i)∧match Q0 r p l with|some b=>∃ n:Nat,i=(n:Int)∧n<l.length∧l.getD n P4=b.1|none=>i = -1) ?_ ?_
 ·refine K0b (L:=λ k i (s:Int×Bool)=>C4 k l (Du p l) s.1 s.2 i r p) (Q:=λ x=>∃ i:Int,x=(l,i)∧match Q0 r p l with|some b=>∃ n:Nat,i=(n:Int)∧n<l.length∧l.getD n P4=b.1|none=>i = -1) l.length
   (λ j s=>∃ a,(match a with|some (b,fr)=>s.2=fr∧∃ n:Nat,s.1=(n:Int)∧n<l.length∧l.getD n P4=b|none=>s=(-1,false))∧(l.drop j).foldl (V9 r p (Du p l)) a=Q0 r p l) ?_ ?_ 0 (-1,false) (Vq _) ⟨none,rfl,rfl⟩
  ·rintro⟨s1,s2⟩ ⟨a,hs,h⟩;rw[Vz]at h;simp (disch:=omega) only [C4,dF];refine Jrb ⟨s1,rfl,?_⟩;rw[← h]
   cases a with
   |none=>exact(Prod.mk.inj hs).1
   |some bf=>exact hs.2
  ·rintro j ⟨s1,s2⟩ hj ⟨a,hs,h⟩ next;rw[Aj (d:=P4) hj,Ye]at h;have hd:=A3 (d:=P4) hj;obtain⟨d,ed⟩:∃ d:Dev,l.getD j P4=d:=⟨_,rfl⟩;rw[ed]at h hd;have e0:l.getD j ((0:Int),((0:Int),(0:Int)))=d:=ed;obtain⟨_,_,w0,w1⟩:=Og.1 (hdv _ hd);have l1:=Pp hr d.1;simp (disch:=omega) only [C4,dT,Vc,w64,e0];refine K3b (Gza l (by omega)) ?_;refine Jub hl (K3b (V8 p d.1 (by omega)) ?_);unfold V9 at h
   cases hp':M7 p d.1 with
   |true=>
    rw[hp']at h;exact Jub rfl (next _ ⟨a,hs,h⟩)
   |false=>
    rw[hp',cond_false]at h;refine Jtb rfl (K3b (V8 (Du p l) d.2.1 (by omega)) ?_);have take:∀ {z:Bool},(l.drop (j+1)).foldl (V9 r p (Du p l)) (some (d,z))=Q0 r p l→Tot (λ k=>C4 k l (Du p l) (j:Int) z ((j:Int)+1) r p) (λ x=>∃ i:Int,x=(l,i)∧match Q0 r p l with|some b=>∃ n:Nat,i=(n:Int)∧n<l.length∧l.getD n P4=b.1|none=>i = -1):=λ {z} h2=>next ((j:Int),z) ⟨some (d,z),⟨rfl,j,rfl,hj,ed⟩,h2⟩
    cases a with
    |none=>
     obtain⟨rfl,rfl⟩:=Prod.mk.inj hs;exact Jvb (by decide) (take h)
    |some bf=>
     obtain⟨b,fr⟩:=bf;obtain⟨e1,n,e2,hn,e3⟩:=hs;dsimp only at e1 e2;subst e1 e2;have hb:=A3 (d:=P4) hn;rw[e3]at hb;obtain⟨⟨i0,_⟩,_,v0,v1⟩:=Og.1 (hdv _ hb);have l2:=Pp hr b.1;have m1:=Ijb (a:=Jv r d.1+1) (w:=b.2.2) (by omega) (by omega) (by omega) v1;have m2:=Ijb (a:=Jv r b.1+1) (w:=d.2.2) (by omega) (by omega) (by omega) w1;have stay:(l.drop (j+1)).foldl (V9 r p (Du p l)) (some (b,s2))=Q0 r p l→Tot (λ k=>C4 k l (Du p l) (n:Int) s2 ((j:Int)+1) r p) (λ x=>∃ i:Int,x=(l,i)∧match Q0 r p l with|some b=>∃ n:Nat,i=(n:Int)∧n<l.length∧l.getD n P4=b.1|none=>i = -1):=λ h2=>next ((n:Int),s2) ⟨some (b,s2),⟨rfl,n,rfl,hn,e3⟩,h2⟩;refine Jwb (by omega) ?_;have e4:l.getD n ((0:Int),((0:Int),(0:Int)))=b:=e3;dsimp only at h
     have cmp:∀ {z:Bool},M7 (Du p l) d.2.1=z→((!z)==s2)=true→(!z&&!s2)=false→Tot (λ k=>(Da k r d.1).bind λ r5=>cond (decide ((0:Int)≤(n:Int))) (cond (decide ((n:Int)<(length l:Int))) (cond (decide ((0:Int)≤(n:Int))) (cond (decide ((n:Int)<(length l:Int))) ((Da k r (getD l (toNat (n:Int)) ((0:Int),((0:Int),(0:Int)))).1).bind λ r8=>cond (decide ((wrap .i64 ((wrap .i64 (r5+1))*(getD l (toNat (n:Int)) ((0:Int),((0:Int),(0:Int)))).2.2))<(wrap .i64 ((wrap .i64 (r8+1))*d.2.2)))) (C4 k l (Du p l) (j:Int) s2 ((j:Int)+1) r p) (C4 k l (Du p l) (n:Int) s2 ((j:Int)+1) r p)) none) none) none) none) (λ x=>∃ i:Int,x=(l,i)∧match Q0 r p l with|some b=>∃ n:Nat,i=(n:Int)∧n<l.length∧l.getD n P4=b.1|none=>i = -1):=by
      intro z hz e1 e2;rw[hz,e1,e2,Zza,Vw]at h;refine K3b (Bla r d.1 hr) ?_;refine Jvb (by omega) (Jvb (by omega) (Jvb (by omega) (Jvb (by omega) ?_)));rw[Vc,e4];refine K3b (Bla r b.1 hr) ?_;rw[w64 (n:=Jv r d.1+1) (by omega) (by omega),w64 (n:=Jv r b.1+1) (by omega) (by omega),w64 m1.1 m1.2,w64 m2.1 m2.2];refine Jxb (λ hc=>?_) (λ hc=>?_)
      ·rw[hc,cond_true]at h;rw[show s2 = !z by rw[← eq_of_beq e1]];exact take h
      ·rw[hc]at h;exact stay h
     cases hz:M7 (Du p l) d.2.1 with
     |false=>
      have cm:=cmp hz;rw[hz]at h
      cases s2 with
      |false=>exact Jub rfl (Jub rfl (take h))
      |true=>exact Jub rfl (Jtb rfl (Jub rfl (cm rfl rfl)))
     |true=>
      have cm:=cmp hz;rw[hz]at h
      cases s2 with
      |false=>exact Jtb rfl (Jub rfl (cm rfl rfl))
      |true=>exact Jtb rfl (Jtb rfl (stay h))
 ·rintro x ⟨i,rfl,hi⟩;unfold Xx
  cases hb:Q0 r p l with
  |none=>
   rw[hb]at hi;subst hi;exact Jvb (show (-1:Int)<0 by decide) (Jrb rfl)
  |some b=>
   rw[hb]at hi;obtain⟨n,rfl,hn,e⟩:=hi;dsimp only;refine Jwb (by omega) (Jvb (by omega) (Jvb (by omega) (Jrb ?_)));rw[Int.toNat_natCast,show l.getD n ((0:Int),((0:Int),(0:Int)))=b.1 from e]

def Vya {l:List Dev} (h:N6 l=true) {d:Dev} (hd:d∈l):Lv l d.1=some d:=by
 have hp:=(Dz.1 h).1;clear h
 induction l with
 |nil=>cases hd
 |cons x l ih=>
  obtain⟨h1,h2⟩:=Wh.1 hp;unfold Lv;rw[L1b];rcases Vl.1 hd with rfl|hd
  ·rw[beq_self_eq_true]
  ·have:=h1 d hd;rw[show (x.1==d.1)=false from beq_eq_false_iff_ne.2 (by omega)];exact ih hd h2
def Cdb:∀ (p:List Int) (l:List Dev),l.Pairwise (λ a b=>a.1<b.1)→p.length<l.length→∃ d∈l,d.1∉p
 |p,[],_,h=>by simp at h
 |p,d::l,hl,h=>by
  obtain⟨h1,h2⟩:=Wh.1 hl
  by_cases hd:d.1∈p
  ·have hlen:(p.erase d.1).length=p.length-1:=Lqb hd;have hpos:=Kob hd;rw[Vd]at h;obtain⟨x,hx,hn⟩:=Cdb (p.erase d.1) l h2 (by omega);refine⟨x,Vh _ hx,λ c=>hn ?_⟩;have:=h1 x hx;exact(Meb (by omega)).2 c
  ·exact⟨d,Ya,hd⟩
def Rga (l:List Dev) (n:Nat) (p:List Int):Prop:=p.Nodup∧p.length=n∧∀ id∈p,∃ d,Lv l id=some d
def Vza {r:Rng} {l:List Dev} {n:Nat} {p:List Int} (hl:N6 l=true) (h:Rga l n p) (hn:n<l.length):Rga l (n+1) (p++[Xx r p l]):=by
 obtain⟨h1,h2,h3⟩:=h;obtain⟨d,hd,e,hne⟩:=A9b (r:=r) (Cdb p l (Dz.1 hl).1 (by omega));rw[e];refine⟨?_,by rw[Ve];simp[h2],λ id hid=>?_⟩
 ·rw[Yr];exact⟨h1,by simp,λ a ha b hb c=>by rw[Vu.1 hb]at c;subst c;exact hne ha⟩
 ·rcases Vo.1 hid with hid|hid
  ·exact h3 id hid
  ·rw[Vu.1 hid];exact⟨d,Vya hl hd⟩
def K2a (l:List Dev) (reps:Int) (ps:List (List Int)):Nat→List Int→List Int
 |0,p=>p
 |n+1,p=>K2a l reps ps n (p++[Xx (reps,ps++[p]) p l])
def S7a (l:List Dev) (reps:Int):Nat→List (List Int)→List (List Int)
 |0,ps=>ps
 |n+1,ps=>S7a l reps n (ps++[K2a l reps ps reps.toNat []])
def build (l:List Dev) (parts reps:Int):Rng×Bool:=bif N6 l&&(inR parts 1 64&&(inR reps 1 5&&!(decide (reps > (l.length:Int))))) then ((reps,S7a l reps parts.toNat []),true) else ((0,[]),false)
def Pca {l:List Dev} {reps:Int} {ps:List (List Int)} (hl:N6 l=true):∀ (n m:Nat) (p:List Int),Rga l m p→m+n≤l.length→Rga l (m+n) (K2a l reps ps n p)
 |0,_,_,h,_=>h
 |n+1,m,p,h,hm=>by
  have:=Pca (reps:=reps) (ps:=ps) hl n (m+1) _ (Vza (r:=(reps,ps++[p])) hl h (by omega)) (by omega);rwa [show m+1+n=m+(n+1) by omega]at this
def W0a {l:List Dev} {reps:Int} (hl:N6 l=true) (hr:reps≤(l.length:Int)):∀ (n:Nat) (ps:List (List Int)),(∀ p∈ps,Rga l reps.toNat p)→(S7a l reps n ps).length=ps.length+n∧∀ p∈S7a l reps n ps,Rga l reps.toNat p
 |0,ps,h=>⟨rfl,h⟩
 |n+1,ps,h=>by
  have hf:=Pca (reps:=reps) (ps:=ps) hl reps.toNat 0 [] ⟨List.nodup_nil,rfl,λ _ h=>by cases h⟩ (by omega);rw[Wm]at hf
  obtain⟨h1,h2⟩:=W0a hl hr n (ps++[K2a l reps ps reps.toNat []]) (λ p hp=>by
   rcases Vo.1 hp with hp|hp
   ·exact h p hp
   ·rw[Vu.1 hp];exact hf)
  refine⟨?_,h2⟩;show (S7a l reps n _).length=_;rw[h1,Ve];simp only[Vd,Vk];omega
def Pda {l:List Dev} {parts reps:Int} (h:(build l parts reps).2=true):N6 l=true∧Jd (build l parts reps).1 l=true∧(build l parts reps).1.1=reps∧((build l parts reps).1.2.length:Int)=parts:=by
 unfold build at h ⊢;cases hc:N6 l&&(inR parts 1 64&&(inR reps 1 5&&!(decide (reps > (l.length:Int)))))
 ·rw[hc]at h;cases h
 rw[Va,Va,Va,Vx,decide_eq_false_iff_not,Dt,Dt]at hc;obtain⟨h1,h2,h3,h4⟩:=hc;obtain⟨b1,b2⟩:=W0a (reps:=reps) h1 (by omega) parts.toNat [] (λ p hp=>by cases hp);rw[Vk,Wm]at b1
 have b1':((S7a l reps parts.toNat []).length:Int)=parts:=by rw[b1];omega
 refine⟨h1,Bh.2 ⟨h1,h3,⟨by show 1≤(S7a l reps parts.toNat []).length;omega,by show (S7a l reps parts.toNat []).length≤64;omega⟩,λ p hp=>?_⟩,rfl,b1'⟩;obtain⟨c1,c2,c3⟩:=b2 p hp;exact⟨c1,by rw[c2];show ((reps.toNat:Nat):Int)=reps;omega,c3⟩
def K3a {l:List Dev} {reps:Int} {ps:List (List Int)}:∀ (n:Nat) (p:List Int),(K2a l reps ps n p).length=p.length+n
 |0,_=>rfl
 |n+1,p=>by
  show (K2a l reps ps n _).length=_;rw[K3a n,Ve];simp only[Vd,Vk];omega
def W1a {α:Type} (l:List α) (x d:α):(l++[x]).getD l.length d=x:=by
 rw[Vb,Yi (Vv _),L4b];rfl
def Abb {α:Type} (l:List α) (x y:α):(l++[x]).set l.length y=l++[y]:=by
 rw[N9b _ _ (Vv _),L4b];rfl
def K4a (l:List Dev) (parts reps:Int) (z:Rng) (hl:N6 l=true) (h0:0≤reps) (h5:reps≤5) (ps:List (List Int)) (hps:ps.length≤100) (hq:∀ q∈ps,q.length≤100):∀ (n:Nat) (p:List Int),p.length+n=reps.toNat→
  Tot (λ k=>Jn k l parts reps (ps.length:Int) (p.length:Int) z (reps,ps++[p])) (λ x=>x=(l,parts,reps,(ps.length:Int),z,(reps,ps++[K2a l reps ps n p]))):=by
 intro n
 induction n with
 |zero=>
  intro p hp;refine Tot.succ ?_;simp (disch:=omega) only [Jn,dF];exact Jrb rfl
 |succ n ih=>
  intro p hp;refine Tot.succ ?_
  have hrb:RBd (reps,ps++[p]):=⟨by simp only[Ve,Vd,Vk];omega,λ q hq'=>by
   rcases Vo.1 hq' with h|h
   ·have:=hq q h;omega
   ·rw[Vu.1 h];omega⟩
  have hlen:(ps++[p]).length=ps.length+1:=by simp
  simp (disch:=omega) only [Jn,dT,Vc,w64,hlen,W1a,Abb];refine K3b (Pba (reps,ps++[p]) p l hrb (by omega) hl) ?_;refine Jub (decide_eq_true trivial) (Jzb (by simp only[Vd,Vk];omega) (Jub (decide_eq_true trivial) ?_));have:=ih (p++[Xx (reps,ps++[p]) p l]) (by simp only[Ve,Vd,Vk];omega);rw[show (((p++[Xx (reps,ps++[p]) p l]).length:Nat):Int)=(p.length:Int)+1 by simp]at this;exact this
def W2a (l:List Dev) (parts reps:Int) (hll:l.length≤5000000):Tot (λ k=>Hy k l parts reps) (λ x=>x=build l parts reps):=by
 unfold Hy build;refine K3b (Gza l (by omega)) ?_;cases hl:N6 l
 ·exact Jub rfl (Jrb rfl)
 simp only[Yw,cond_false,Q9,Vp,Vw];cases hp:inR parts 1 64
 ·exact Jub rfl (Jrb rfl)
 refine Jtb rfl ?_;cases hr:inR reps 1 5
 ·exact Jub rfl (Jrb rfl)
 obtain⟨r1,r2⟩:=Dt.1 hr;obtain⟨p1,p2⟩:=Dt.1 hp;refine Jtb rfl ?_;cases hc:decide (reps > (l.length:Int))
 case true=>exact Jub rfl (Jrb rfl)
 refine Jtb rfl (Jsb (Q:=λ x=>x=(((0:Int),([]:List (List Int))),(reps,S7a l reps parts.toNat []))) ?_ (by rintro x rfl;exact Jrb rfl));obtain⟨n,rfl⟩:∃ n:Nat,parts=(n:Int):=⟨parts.toNat,by omega⟩;refine K0b (L:=λ k i (s:Rng)=>Jo k l (n:Int) reps i (0,[]) s) (Q:=λ x=>x=(((0:Int),([]:List (List Int))),(reps,S7a l reps n []))) n (λ j s=>∃ ps,s=(reps,ps)∧ps.length=j∧(∀ q∈ps,q.length≤100)∧S7a l reps (n-j) ps=S7a l reps n []) ?_ ?_ 0 (reps,[]) (Vq _) ⟨[],rfl,rfl,λ q h=>(by cases h),rfl⟩
 ·rintro s ⟨ps,rfl,hps,_,h⟩;rw[L4b]at h;simp (disch:=omega) only [Jo,dF];exact Jrb (by rw[← h];rfl)
 ·rintro j s hj ⟨ps,rfl,hps,hq,h⟩ next;simp (disch:=omega) only [Jo,dT];refine Jzb (by simp only[Vd,Vk];omega) ?_;have h9:=K4a l (n:Int) reps (0,[]) hl (by omega) r2 ps (by omega) hq reps.toNat [] (by simp);rw[hps]at h9;refine Jsb h9 ?_;rintro x rfl;simp (disch:=omega) only [w64];refine next _ ⟨ps++[K2a l reps ps reps.toNat []],rfl,by rw[Ve,hps];rfl,λ q hq'=>?_,?_⟩
  ·rcases Vo.1 hq' with h'|h'
   ·exact hq q h'
   ·rw[Vu.1 h',K3a,Vk];omega
  ·rw[show n-j=(n-(j+1))+1 by omega]at h;exact h

def Pea:∀ (p q:List Int),p.Nodup→(∀ x∈p,x∈q)→p.length≤q.length
 |[],_,_,_=>Vq _
 |x::p,q,h,hs=>by
  obtain⟨h1,h2⟩:=Yu.1 h;have hx:=hs x Ya;have hlen:(q.erase x).length=q.length-1:=Lqb hx;have hpos:=Kob hx;have:=Pea p (q.erase x) h2 (λ y hy=>(Meb (λ c=>by subst c;exact h1 hy)).2 (hs y (Vh _ hy)));rw[Vd];omega
def K5a {r:Rng} {l:List Dev} (h:Jd r l=true):r.1≤(l.length:Int):=by
 obtain⟨_,_,h3,h4⟩:=Bh.1 h;obtain⟨p,hp⟩:=M8b (show 0<r.2.length by omega);obtain⟨q1,q2,q3⟩:=h4 p hp
 have:=Pea p (l.map (·.1)) q1 (λ x hx=>by
  obtain⟨d,hd⟩:=q3 x hx;obtain⟨hm,he⟩:=A3a hd
  exact Zb.2 ⟨d,hm,he⟩)
 rw[Wd]at this;omega
def Mta {r:Rng} {l:List Dev} (h:Jd r l=true):Tot (λ k=>G6 k r l) (λ b=>b=true):=by
 have hrp:=K5a h;obtain⟨h1,h2,h3,h4⟩:=Bh.1 h;obtain⟨_,_,_,h12⟩:=Dz.1 h1;unfold G6;refine K3b (Gya l (by omega)) ?_;refine Jtb (by rw[h1];rfl) ?_;simp only[Sq,Vp];refine Jtb (by rw[Dt.2 h2];rfl) (Jwb (by omega) (Jtb (by rw[Dt.2 (by omega)];rfl) ?_));refine Jsb (Q:=λ b=>b = .inr ()) ?_ (by rintro b rfl;exact Jrb rfl);refine K0b (L:=λ k i (_:Unit)=>H1 k r.2 (r.2.length:Int) i r) (Q:=λ b=>b = .inr ()) r.2.length (λ _ _=>True) ?_ ?_ 0 () (Vq _) trivial
 ·intro _ _;simp (disch:=omega) only [H1,dF];exact Jrb rfl
 ·intro j _ hj _ next;obtain⟨q1,q2,_⟩:=h4 _ (A3 (d:=[]) hj);simp (disch:=omega) only [H1,dT,Vc,w64];refine Jtb (by rw[q2];simp) (K3b (K0a _ (by omega)) ?_);exact Jtb (by rw[decide_eq_true q1];rfl) (next () trivial)
def Mua {r:Rng} {l:List Dev} (h:Jd r l=true):Tot (λ k=>Ln k r l) (λ b=>b=true):=by
 have hrp:=K5a h;obtain⟨h1,h2,h3,h4⟩:=Bh.1 h;obtain⟨_,_,_,h12⟩:=Dz.1 h1;unfold Ln;refine K3b (Gza l (by omega)) ?_;refine Jtb (by rw[h1];rfl) ?_;simp only[Q9,Vp];refine Jtb (by rw[Dt.2 h2];rfl) (Jwb (by omega) (Jtb (by rw[Dt.2 (by omega)];rfl) ?_));refine Jsb (Q:=λ b=>b = .inr ()) ?_ (by rintro b rfl;exact Jrb rfl);refine K0b (L:=λ k i (_:Unit)=>L9 k i r) (Q:=λ b=>b = .inr ()) r.2.length (λ _ _=>True) ?_ ?_ 0 () (Vq _) trivial
 ·intro _ _;simp (disch:=omega) only [L9,dF];exact Jrb rfl
 ·intro j _ hj _ next;obtain⟨q1,q2,_⟩:=h4 _ (A3 (d:=[]) hj);simp (disch:=omega) only [L9,dT,Vc,w64];refine K3b (A7b _ _ (by omega)) ?_;exact Jtb (by rw[decide_eq_true q1,q2];simp) (next () trivial)
def Acb (p:List Int) (l:List Dev) (h:∀ id∈p,∃ d,Lv l id=some d) (hp:p.length≤5000000) (hl:l.length≤5000000):Tot (λ k=>Ht k p l) (λ x=>x = -1):=by
 unfold Ht;refine Jsb (Q:=λ x=>x = .inr ()) ?_ (by rintro x rfl;exact Jrb rfl);refine K0b (L:=λ k i (_:Unit)=>Ij k l i p) (Q:=λ x=>x = .inr ()) p.length (λ _ _=>True) ?_ ?_ 0 () (Vq _) trivial
 ·intro _ _;simp (disch:=omega) only [Ij,dF];exact Jrb rfl
 ·intro j _ hj _ next;simp (disch:=omega) only [Ij,dT,Vc,w64];refine K3b (Xl l _ (by omega)) ?_;obtain⟨d,hd⟩:=h _ (A3 (d:=0) hj);exact Jtb (by rw[hd];rfl) (next () trivial)
def Adb (p:List Int) (l:List Dev) (h:∀ id∈p,∃ d,Lv l id=some d) (hp:p.length≤5000000) (hl:l.length≤5000000):Tot (λ k=>Lo k p l) (λ x=>x = -1):=by
 unfold Lo;refine Jsb (Q:=λ x=>x = .inr ()) ?_ (by rintro x rfl;exact Jrb rfl);refine K0b (L:=λ k i (_:Unit)=>Lb k l p (p.length:Int) i) (Q:=λ x=>x = .inr ()) p.length (λ _ _=>True) ?_ ?_ 0 () (Vq _) trivial
 ·intro _ _;simp (disch:=omega) only [Lb,dF];exact Jrb rfl
 ·intro j _ hj _ next;simp (disch:=omega) only [Lb,dT,Vc,w64];refine K3b (Tk l _ (by omega)) ?_;obtain⟨d,hd⟩:=h _ (A3 (d:=0) hj);exact Jtb (by rw[hd];rfl) (next () trivial)
def hv (r:Rng) (l:List Dev) (b id:Int):Bool:=match Lv l b with
 |none=>false
 |some x=>match Lv l id with
  |none=>false
  |some d=>(d.2.1==x.2.1)&&decide (Jv r id-Jv r b≥2)
def Fba (r:Rng) (l:List Dev) (p:List Int) (b:Int):Option Nat:=p.findIdx? (hv r l b)
def oI:Option Nat→Int
 |some i=>(i:Int)
 |none => -1
def Ama {f:Int→Bool} {p:List Int} {j:Nat} (hj:j<p.length) (h:((p.drop j).findIdx? f).map (· + j)=p.findIdx? f):
  (f (p.getD j 0)=true→p.findIdx? f=some j)∧(f (p.getD j 0)=false→((p.drop (j+1)).findIdx? f).map (· + (j+1))=p.findIdx? f):=by
 rw[Aj (d:=0) hj,Lvb]at h;constructor
 ·intro c;rw[if_pos c]at h;rw[← h,Lrb,Wm]
 ·intro c;rw[if_neg (by rw[c];simp)]at h;rw[← h,Option.map_map];congr 1;funext x;show x+(j+1)=x+1+j;omega
def W3a (r:Rng) (p:List Int) (l:List Dev) (b:Int) (hr:RBd r) (hp:p.length≤2000000) (hl:l.length≤2000000):Tot (λ k=>G4 k r p l b) (λ x=>x=oI (Fba r l p b)):=by
 unfold G4;refine K3b (Xl l b (by omega)) ?_
 refine Jsb (Q:=λ x=>x=match Fba r l p b with|some i => .inl (i:Int)|none => .inr ()) ?_ (by rintro x rfl;cases Fba r l p b<;>exact Jrb rfl)
 cases hb:Lv l b with
 |none=>
  have hn:Fba r l p b=none:=by unfold Fba;rw[Mvb];intro x _;unfold hv;rw[hb]
  rw[hn];refine Tot.succ ?_
  by_cases hp0:(0:Int)<(p.length:Int)
  ·simp (disch:=omega) only [Cm,dT,Heb,cond_false];exact Jrb rfl
  ·simp (disch:=omega) only [Cm,dF];exact Jrb rfl
 |some x=>
  have hvI:∀ id,hv r l b id=match Lv l id with|none=>false|some d=>(d.2.1==x.2.1)&&decide (Jv r id-Jv r b≥2):=λ id=>by unfold hv;rw[hb]
  refine K0b (L:=λ k i (_:Unit)=>Cm k l b true i r p x) (Q:=λ x=>x=match Fba r l p b with|some i => .inl (i:Int)|none => .inr ()) p.length (λ j _=>((p.drop j).findIdx? (hv r l b)).map (· + j)=p.findIdx? (hv r l b)) ?_ ?_ 0 () (Vq _) (by simp)
  ·intro _ h;rw[Vz]at h;have hn:Fba r l p b=none:=h.symm;rw[hn];simp (disch:=omega) only [Cm,dF];exact Jrb rfl
  ·intro j _ hj h next;obtain⟨k1,k2⟩:=Ama hj h;simp (disch:=omega) only [Cm,dT,Vc,w64,cond_true];generalize p.getD j 0=id at *;refine K3b (Xl l id (by omega)) ?_;rw[hvI]at k1 k2
   cases hd:Lv l id with
   |none=>
    rw[hd]at k2;exact Jtb rfl (next () (k2 rfl))
   |some d=>
    rw[hd]at k1 k2;obtain⟨_,e⟩:=A3a hd;refine Jub rfl ?_;cases hz:d.2.1==x.2.1
    ·exact Jtb hz (next () (k2 (by simp only[hz,Yt])))
    refine Jub hz (K3b (Bla r d.1 hr) ?_);refine K3b (Bla r b hr) ?_;have l1:=Pp hr d.1;have l2:=Pp hr b;simp (disch:=omega) only [w64];refine Jyb (λ hc=>Jrb ?_) (λ hc=>next () (k2 ?_))
    ·have hn:Fba r l p b=some j:=k1 (by simp only[hz,Vw];rw[← e];exact decide_eq_true hc);rw[hn]
    ·simp only[hz,Vw];rw[← e];exact decide_eq_false hc
def W4a (r:Rng) (p:List Int) (l:List Dev) (hr:RBd r) (hp:p.length≤2000000) (hl:N6 l=true) (hq:∀ id∈p,∃ d,Lv l id=some d):Tot (λ k=>Jz k r p l) (λ x=>x=match Fba r l p (Xx r p l) with|some i=>((i:Int),Xx r p l)|none=>(-1,-1)):=by
 obtain⟨_,_,_,h12⟩:=Dz.1 hl;unfold Jz;refine K3b (Aab r p l hr hp hl) ?_;generalize Xx r p l=b;refine K3b (Tk l b (by omega)) ?_
 refine Jsb (Q:=λ x=>x=match Fba r l p b with|some i => .inl ((i:Int),b)|none => .inr ()) ?_ (by rintro x rfl;cases Fba r l p b<;>exact Jrb rfl)
 refine K0b (L:=λ k i (_:Unit)=>Hj k l b (Heb (Lv l b)).2 p (p.length:Int) i r (Heb (Lv l b)).1) (Q:=λ x=>x=match Fba r l p b with|some i => .inl ((i:Int),b)|none => .inr ()) p.length (λ j _=>((p.drop j).findIdx? (hv r l b)).map (· + j)=p.findIdx? (hv r l b)) ?_ ?_ 0 () (Vq _) (by simp)
 ·intro _ h;rw[Vz]at h;have hn:Fba r l p b=none:=h.symm;rw[hn];simp (disch:=omega) only [Hj,dF];exact Jrb rfl
 ·intro j _ hj h next;obtain⟨k1,k2⟩:=Ama hj h;have hid:=hq _ (A3 (d:=0) hj);simp (disch:=omega) only [Hj,dT,Vc,w64];generalize p.getD j 0=id at *;refine K3b (Tk l id (by omega)) ?_;obtain⟨d,hd⟩:=hid
  cases hb:Lv l b with
  |none=>
   have hnv:hv r l b id=false:=by unfold hv;rw[hb]
   have:=next () (k2 hnv);rw[hb]at this;exact Jtb rfl this
  |some x=>
   have hvI:hv r l b id=((d.2.1==x.2.1)&&decide (Jv r id-Jv r b≥2)):=by unfold hv;rw[hb,hd]
   rw[hvI]at k1 k2;have next':=next ();rw[hb]at next';refine Jub rfl ?_;rw[hd];cases hz:d.2.1==x.2.1
   ·exact Jtb hz (next' (k2 (by simp only[hz,Yt])))
   refine Jub hz (K3b (H2a r id hr) ?_);refine K3b (H2a r b hr) ?_;have l1:=Pp hr id;have l2:=Pp hr b;simp (disch:=omega) only [w64];refine Jyb (λ hc=>Jrb ?_) (λ hc=>next' (k2 ?_))
   ·have hn:Fba r l p b=some j:=k1 (by simp only[hz,Vw];exact decide_eq_true hc);rw[hn]
   ·simp only[hz,Vw];exact decide_eq_false hc
def rb1 (l:List Dev) (s:Int×Rng) (j:Nat):Int×Rng:=match Fba s.2 l (s.2.2.getD j []) (Xx s.2 (s.2.2.getD j []) l) with
 |none=>s
 |some i=>(s.1+1,(s.2.1,s.2.2.set j ((s.2.2.getD j []).set i (Xx s.2 (s.2.2.getD j []) l))))
def rbs (l:List Dev) (r:Rng) (n:Nat):Int×Rng:=(List.range n).foldl (rb1 l) (0,r)
def B2a (r:Rng) (l:List Dev):Rng×Int:=((rbs l r r.2.length).2,(rbs l r r.2.length).1)
def Bma (l:List Dev) (r:Rng) (n:Nat):rbs l r (n+1)=rb1 l (rbs l r n) n:=by
 unfold rbs;rw[Mlb,Kjb];rfl
def Tm {r:Rng} {l:List Dev} {p:List Int} {i:Nat} (hl:N6 l=true) (h:Fba r l p (Xx r p l)=some i):i<p.length∧Xx r p l∉p∧0≤Xx r p l∧∃ d,Lv l (Xx r p l)=some d:=by
 obtain⟨h1,h2,_⟩:=Kvb.1 h;refine⟨h1,?_⟩;unfold hv at h2
 cases hb:Lv l (Xx r p l) with
 |none=>rw[hb]at h2;cases h2
 |some d=>
  obtain⟨hd,he⟩:=A3a hb;obtain⟨⟨i0,_⟩,_⟩:=Og.1 ((Dz.1 hl).2.1 _ hd);refine⟨?_,by omega,d,rfl⟩;rcases Rfa r p l with⟨_,e⟩|⟨b,_,e,_,hn⟩
  ·omega
  ·rw[e];exact hn
def W5a {p:List Int} {b:Int} (h:p.Nodup) (hb:b∉p) (i:Nat):(p.set i b).Nodup:=by
 induction p generalizing i with
 |nil=>exact h
 |cons x p ih=>
  obtain⟨h1,h2⟩:=Yu.1 h
  cases i with
  |zero=>exact Yu.2 ⟨λ c=>hb (Vh _ c),h2⟩
  |succ i=>
   refine Yu.2 ⟨λ c=>?_,ih h2 (λ c=>hb (Vh _ c)) i⟩;rcases Ys c with c|c
   ·exact h1 c
   ·exact hb (c ▸ Ya)
def Hfb {l:List Dev} {s:Int×Rng} {j:Nat} (hj:j<s.2.2.length) (h:Jd s.2 l=true):Jd (rb1 l s j).2 l=true∧(rb1 l s j).2.1=s.2.1∧(rb1 l s j).2.2.length=s.2.2.length∧s.1≤(rb1 l s j).1∧(rb1 l s j).1≤s.1+1:=by
 unfold rb1;obtain⟨h1,h2,h3,h4⟩:=Bh.1 h
 cases hx:Fba s.2 l (s.2.2.getD j []) (Xx s.2 (s.2.2.getD j []) l) with
 |none=>exact⟨h,rfl,rfl,by dsimp only;omega,by dsimp only;omega⟩
 |some i=>
  obtain⟨b1,b2,_,b3⟩:=Tm h1 hx;obtain⟨q1,q2,q3⟩:=h4 _ (A3 (d:=[]) hj);refine⟨Bh.2 ⟨h1,h2,by dsimp only;rw[List.length_set];exact h3,λ p hp=>?_⟩,rfl,by dsimp only;rw[List.length_set],by dsimp only;omega,by dsimp only;omega⟩;rcases List.mem_or_eq_of_mem_set hp with hp|hp
  ·exact h4 p hp
  ·subst hp;refine⟨W5a q1 b2 i,by rw[Wc];exact q2,λ id hid=>?_⟩;rcases Ys hid with hid|hid
   ·exact q3 id hid
   ·rw[hid];exact b3
def Fca {l:List Dev} {r:Rng} (h:Jd r l=true):∀ (n:Nat),n≤r.2.length→Jd (rbs l r n).2 l=true∧(rbs l r n).2.1=r.1∧(rbs l r n).2.2.length=r.2.length∧0≤(rbs l r n).1∧(rbs l r n).1≤n
 |0,_=>⟨h,rfl,rfl,Keb _,Keb _⟩
 |n+1,hn=>by
  obtain⟨h1,h2,h3,h4,h5⟩:=Fca h n (by omega);obtain⟨g1,g2,g3,g4,g5⟩:=Hfb (j:=n) (by omega) h1;rw[Bma];exact⟨g1,by rw[g2,h2],by rw[g3,h3],by omega,by omega⟩
def Xm {r:Rng} {l:List Dev} (h:Jd r l=true):Jd (B2a r l).1 l=true∧(B2a r l).1.1=r.1∧(B2a r l).1.2.length=r.2.length∧0≤(B2a r l).2:=by
 obtain⟨h1,h2,h3,h4,_⟩:=Fca h r.2.length (Vv _);exact⟨h1,h2,h3,h4⟩
def W6a {r:Rng} {l:List Dev} (h:Jd r l=true):Tot (λ k=>Cz k r l) (λ x=>x=B2a r l):=by
 obtain⟨_,_,h64,_⟩:=Bh.1 h;unfold Cz;refine Jsb (K1a r (N1 h)) ?_;rintro x rfl;refine Jsb (Mua h) ?_;rintro b rfl;refine Jtb rfl (Jsb (Q:=λ y=>y=((rbs l x x.2.length).1,((0:Int),([]:List (List Int))),(rbs l x x.2.length).2)) ?_ (by rintro y rfl;exact Jrb rfl));refine K0b (L:=λ k i (s:Int×Rng)=>Be k l s.1 i (0,[]) s.2) (Q:=λ y=>y=((rbs l x x.2.length).1,((0:Int),([]:List (List Int))),(rbs l x x.2.length).2)) x.2.length (λ j s=>s=rbs l x j) ?_ ?_ 0 (0,x) (Vq _) rfl
 ·rintro s rfl;obtain⟨_,_,g3,_⟩:=Fca h x.2.length (Vv _);simp (disch:=omega) only [Be,dF];exact Jrb rfl
 ·rintro j s hj rfl next;obtain⟨g1,g2,g3,g4,g5⟩:=Fca h j (by omega);rw[Bma]at next;generalize rbs l x j=s at *;obtain⟨c,r⟩:=s;dsimp only at g1 g2 g3 g4 g5;obtain⟨q0,_,_,q4⟩:=Bh.1 g1;obtain⟨p1,p2,p3⟩:=q4 _ (A3 (d:=[]) (show j<r.2.length by omega));have hx2:=(Bh.1 h).2.1;have l12:=(Dz.1 q0).2.2.2;unfold rb1 at next;dsimp only at next;obtain⟨p,hp⟩:∃ p,r.2.getD j []=p:=⟨_,rfl⟩;rw[hp]at p1 p2 p3;simp only[hp]at next;simp (disch:=omega) only [Be,dT,Int.toNat_natCast,w64,hp];refine Jsb (Acb p l p3 (by omega) (by omega)) ?_;rintro x rfl;refine Jwb (by omega) (Jsb (Pba r p l (N1 g1) (by omega) q0) ?_);rintro b rfl;refine Jsb (W3a r p l _ (N1 g1) (by omega) (by omega)) ?_;rintro y rfl
  cases hi:Fba r l p (Xx r p l) with
  |none=>
   rw[hi]at next;exact Jwb (by show ¬ ((-1:Int)≥0);omega) (next _ rfl)
  |some i=>
   obtain⟨b1,b2,b3,_⟩:=Tm q0 hi;rw[hi]at next;have e:oI (some i)=(i:Int):=rfl;simp (disch:=omega) only [e,dT,Vc];exact next _ rfl
def W7a {r:Rng} {l:List Dev} (h:Jd r l=true):Tot (λ k=>D0 k r l) (λ x=>x=B2a r l):=by
 obtain⟨_,_,h64,_⟩:=Bh.1 h;unfold D0;refine Jsb (Ala r (N1 h)) ?_;rintro x rfl;refine Jsb (Mta h) ?_;rintro b rfl;refine Jtb rfl (Jsb (Q:=λ y=>y=((rbs l x x.2.length).1,((0:Int),([]:List (List Int))),(rbs l x x.2.length).2)) ?_ (by rintro y rfl;exact Jrb rfl));refine K0b (L:=λ k i (s:Int×Rng)=>Bf k l s.1 (x.2.length:Int) i (0,[]) s.2) (Q:=λ y=>y=((rbs l x x.2.length).1,((0:Int),([]:List (List Int))),(rbs l x x.2.length).2)) x.2.length (λ j s=>s=rbs l x j) ?_ ?_ 0 (0,x) (Vq _) rfl
 ·rintro s rfl;simp (disch:=omega) only [Bf,dF];exact Jrb rfl
 ·rintro j s hj rfl next;obtain⟨g1,g2,g3,g4,g5⟩:=Fca h j (by omega);rw[Bma]at next;generalize rbs l x j=s at *;obtain⟨c,r⟩:=s;dsimp only at g1 g2 g3 g4 g5;obtain⟨q0,_,_,q4⟩:=Bh.1 g1;obtain⟨p1,p2,p3⟩:=q4 _ (A3 (d:=[]) (show j<r.2.length by omega));have hx2:=(Bh.1 h).2.1;have l12:=(Dz.1 q0).2.2.2;unfold rb1 at next;dsimp only at next;obtain⟨p,hp⟩:∃ p,r.2.getD j []=p:=⟨_,rfl⟩;rw[hp]at p1 p2 p3;simp only[hp]at next;simp (disch:=omega) only [Bf,dT,Int.toNat_natCast,w64,hp];refine Jsb (Adb p l p3 (by omega) (by omega)) ?_;rintro x rfl;refine Jwb (by omega) (Jsb (W4a r p l (N1 g1) (by omega) q0 p3) ?_);rintro y rfl
  cases hi:Fba r l p (Xx r p l) with
  |none=>
   rw[hi]at next;exact Jwb (by show ¬ ((-1:Int)≥0);omega) (next _ rfl)
  |some i=>
   obtain⟨b1,b2,b3,_⟩:=Tm q0 hi;rw[hi]at next;simp (disch:=omega) only [dT,Vc];exact next _ rfl
def wgt (l:List Dev) (i:Nat) (w:Int):List Dev:=l.set i ((l.getD i P4).1,(l.getD i P4).2.1,w)
def H3a (l:List Dev) (i:Nat) (w:Int):(wgt l i w).map (·.1)=l.map (·.1):=by
 unfold wgt;rw[List.map_set]
 by_cases hi:i<l.length
 ·have:(l.getD i P4).1=(l.map (·.1)).getD i 0:=by
   simp only[Vb,K7b,Vj hi,Lrb,Yo]
  rw[this,Vb,Vj (by simpa using hi),Yo];exact List.set_getElem_self _
 ·rw[List.set_eq_of_length_le (by simpa using hi)]
def Tn {l:List Dev} {id:Int}:(∃ d,Lv l id=some d)↔id∈l.map (·.1):=by
 unfold Lv;rw[← Zm,List.find?_isSome,Zb];exact⟨λ ⟨x,h,e⟩=>⟨x,h,eq_of_beq e⟩,λ ⟨x,h,e⟩=>⟨x,h,beq_iff_eq.2 e⟩⟩
def Hgb {l:List Dev} {i:Nat} {w:Int} (h:N6 l=true) (hi:i<l.length) (h1:1≤w) (h2:w≤1000):N6 (wgt l i w)=true:=by
 obtain⟨g1,g2,g3,g4⟩:=Dz.1 h;refine Dz.2 ⟨?_,λ d hd=>?_,?_⟩
 ·have e:(l.map (·.1)).Pairwise (· < ·):=Zn.2 g1;rw[← H3a l i w]at e;exact Zn.1 e
 ·rcases Ys hd with hd|hd
  ·exact g2 d hd
  ·obtain⟨e1,e2,_⟩:=Og.1 (g2 _ (A3 (d:=P4) hi));subst hd;exact Og.2 ⟨e1,e2,h1,h2⟩
 ·unfold wgt;rw[Wc];exact⟨g3,g4⟩
def Ua {r:Rng} {l:List Dev} {i:Nat} {w:Int} (h:Jd r l=true) (hi:i<l.length) (h1:1≤w) (h2:w≤1000):Jd r (wgt l i w)=true:=by
 obtain⟨g1,g2,g3,g4⟩:=Bh.1 h;refine Bh.2 ⟨Hgb g1 hi h1 h2,g2,g3,λ p hp=>?_⟩;obtain⟨q1,q2,q3⟩:=g4 p hp;exact⟨q1,q2,λ id hid=>by rw[Tn,H3a,← Tn];exact q3 id hid⟩

def W8a (x:BitVec 32):(cst x).getLsbD 31=x.getLsbD 0:=by
 have h0:(x >>> 1).getLsbD 31=false:=by
  rw[Mmb];exact BitVec.getLsbD_of_ge _ _ (by decide)
 unfold cst
 cases h:x.getLsbD 0 with
 |true=>
  rw[if_pos rfl,BitVec.getLsbD_xor,h0]
  decide
 |false=>
  rw[if_neg (by simp),h0]
def A4a {n:Nat} {x y c:BitVec n} (h:x ^^^ c=y ^^^ c):x=y:=by
 have:=congrArg (λ z=>z ^^^ c) h
 simpa[BitVec.xor_assoc] using this
def Epb {x y:BitVec 32} (h:cst x=cst y):x=y:=by
 have h0:x.getLsbD 0=y.getLsbD 0:=by rw[← W8a,← W8a,h]
 have h1:x >>> 1=y >>> 1:=by
  unfold cst at h;rw[h0]at h
  cases hb:y.getLsbD 0 with
  |true=>rw[hb,if_pos rfl,if_pos rfl]at h;exact A4a h
  |false=>rw[hb,if_neg (by simp),if_neg (by simp)]at h;exact h
 refine BitVec.eq_of_getLsbD_eq λ i hi=>?_
 cases i with
 |zero=>exact h0
 |succ i=>
  have:=congrArg (λ z=>z.getLsbD i) h1
  simpa[Mmb,K6b] using this
def Daa:∀ (n:Nat) {x y:BitVec 32},E2a n x=E2a n y→x=y
 |0,_,_,h=>h
 |n+1,_,_,h=>Epb (Daa n h)
def Eqb {x y:BitVec 32} {b:Int} (h:cby x b=cby y b):x=y:=A4a (Daa 8 h)
def Aeb {x:BitVec 32} {a b:Int} (ha:0≤a∧a≤255) (hb:0≤b∧b≤255) (h:cby x a=cby x b):a=b:=by
 have h1:x ^^^ ofInt 32 a=x ^^^ ofInt 32 b:=Daa 8 h;rw[N7b,N7b x]at h1;have h2:=A4a h1;rw[P4a ha,P4a hb,h2]
def Pfa:∀ (l:List Int) {x y:BitVec 32},l.foldl cby x=l.foldl cby y→x=y
 |[],_,_,h=>h
 |_::l,_,_,h=>Eqb (Pfa l h)
def Ceb (l:List Int):0≤crc l∧crc l≤4294967295:=by
 unfold crc;have:=(Fxb l).isLt;omega
def Erb {l:List Int} {i:Nat} {y:Int} (hi:i<l.length) (hy:0≤y∧y≤255) (hb:An l) (hne:y≠l.getD i 0):crc (l.set i y)≠crc l:=by
 intro h;have h1:Fxb (l.set i y)=Fxb l:=N8b (by unfold crc at h;omega);unfold Fxb at h1;have h2:=BitVec.not_inj.1 h1
 have e1:l.set i y=l.take i++y::l.drop (i+1):=by rw[Ktb,if_pos hi]
 have e2:l=l.take i++l.getD i 0::l.drop (i+1):=by
  conv => { lhs;rw[← Wo i l] }
  rw[Aj (d:=0) hi]
 rw[e1,Kjb,Ye]at h2;rw[e2]at h2;rw[Kjb,Ye]at h2
 have e3:(l.take i++l.getD i 0::l.drop (i+1)).take i=l.take i:=by rw[← e2]
 have e4:(l.take i++l.getD i 0::l.drop (i+1)).drop (i+1)=l.drop (i+1):=by rw[← e2]
 rw[e3,e4]at h2;exact hne (Aeb hy (hb _ (A3 hi)) (Pfa _ h2))
def Hhb {a b:Int} (ha:0≤a∧a≤4294967295) (hb:0≤b∧b≤4294967295) (h:c4 a=c4 b):a=b:=by
 have e:∀ c:Int,0≤c→c4 c=[c/16777216 % 256,c/65536 % 256,c/256 % 256,c % 256]:=λ c hc=>by
  unfold c4
  rw[show (2:Int) ^ (min (toNat 24) (IntKind.bits .i64))=16777216 from by decide,show (2:Int) ^ (min (toNat 16) (IntKind.bits .i64))=65536 from by decide,show (2:Int) ^ (min (toNat 8) (IntKind.bits .i64))=256 from by decide,
   Kdb _ (by omega),Kdb _ (by omega),Kdb _ (by omega),Lub,Lub,Lub,Lub]
 rw[e a ha.1,e b hb.1]at h;simp only[Yl,and_true]at h;omega
def Rha {l m:List Int} {j:Nat} (h:j<l.length):(l++m).getD j 0=l.getD j 0:=by rw[Vb,Vb,Yf h]
def Ria {l m:List Int} {j:Nat} (h:l.length≤j):(l++m).getD j 0=m.getD (j-l.length) 0:=by rw[Vb,Vb,Yi h]
def Afb {f:Fil} (hf:Hf f=true) {n:Nat} (hn:n<8*(Mq f).length):O6 (Pe (Mq f) n)=none:=by
 cases hg:O6 (Pe (Mq f) n) with
 |none=>rfl
 |some g=>
  exfalso;obtain⟨g1,_,g3⟩:=Mka hg;have hpb:=U9 f
  have hj:n/8<(Mq f).length:=by omega
  have hy:=P6a ((Mq f).getD (n/8) 0) (n % 8);have hne:=A1b (hpb _ (A3 (d:=0) hj)) (Ndb n (show 0<8 by omega));unfold Pe at g3;generalize E3a ((Mq f).getD (n/8) 0) (n % 8)=y at g3 hy hne;generalize n/8=j at g3 hj hne
  have ef:Mq f=R4 f++c4 (crc (R4 f)):=by unfold Mq;rw[hf];rfl
  have eg:Mq g=R4 g++c4 (crc (R4 g)):=by unfold Mq;rw[g1];rfl
  have l4:∀ c,(c4 c).length=4:=λ c=>rfl;rw[eg]at g3;rw[ef]at g3 hj hne
  have hlen:(R4 g).length=(R4 f).length:=by
   have:=congrArg length g3;rw[Wc,Ve,Ve,l4,l4]at this;omega
  by_cases hjb:j<(R4 f).length
  ·rw[List.set_append_left _ _ hjb]at g3;obtain⟨a1,a2⟩:=List.append_inj g3 (by rw[Wc];exact hlen);rw[Rha hjb]at hne;have:=Hhb (Ceb _) (Ceb _) a2;rw[a1]at this;exact Erb hjb hy (Sg f) hne this
  ·rw[N9b _ _ (by omega)]at g3;obtain⟨a1,a2⟩:=List.append_inj g3 hlen;rw[a1]at a2;rw[Ria (by omega)]at hne;rw[Ve,l4]at hj
   have:(c4 (crc (R4 f))).getD (j-(R4 f).length) 0=y:=by
    rw[a2,Vb,Lzb (by rw[l4];omega),Yo]
   exact hne this.symm

def Sw (l:List Nmd) (ns:List ByteArray):List ByteArray:=l.foldl (λ ns x=>wt ns x.1) ns
def nms (d:Dsk):List ByteArray:=Sw (d.1++d.2) []
def pk1:Option Nmd→List Nmd
 |some x=>[x]
 |none=>[]
def Esb (o:Option Nmd):(pk1 o).length≤1:=by cases o<;>simp[pk1]
def W4 (kp:List Bool) (a b:List Nmd):List ByteArray→Nat→List Nmd
 |[],_=>[]
 |s::ns,i=>pk1 (pk (bif kp.getD i false then a else b) s)++W4 kp a b ns (i+1)
def Etb (kp:List Bool) (a b:List Nmd) (i:Nat):W4 kp a b [] i=[]:=rfl
def Agb (kp:List Bool) (a b:List Nmd) (s:ByteArray) (ns:List ByteArray) (i:Nat):W4 kp a b (s::ns) i=pk1 (pk (bif kp.getD i false then a else b) s)++W4 kp a b ns (i+1):=rfl
def W0 (d:Dsk) (kp:List Bool):Dsk:=bif decide ((W4 kp d.1 d.2 (nms d) 0).length > 60) then d else (W4 kp d.1 d.2 (nms d) 0,W4 kp d.1 d.2 (nms d) 0)
def H4a:∀ (l:List Nmd) (ns:List ByteArray),TS ns→TS (Sw l ns)
 |[],_,h=>h
 |_::l,_,h=>H4a l _ (Tg h)
def K6a:∀ (l:List Nmd) (ns:List ByteArray) (t:ByteArray),t∈Sw l ns↔(∃ x∈l,x.1=t)∨t∈ns
 |[],ns,t=>by simp[Sw]
 |x::l,ns,t=>by
  show t∈Sw l (wt ns x.1)↔_;rw[K6a l,Jma];simp only[Vl,exists_eq_or_imp];constructor
  ·rintro (h|rfl|h)
   ·exact .inl (.inr h)
   ·exact .inl (.inl rfl)
   ·exact .inr h
  ·rintro ((h|h)|h)
   ·exact .inr (.inl h.symm)
   ·exact .inl h
   ·exact .inr (.inr h)
def Xn:∀ (l:List Nmd) (ns:List ByteArray),(Sw l ns).length≤ns.length+l.length
 |[],_=>by simp[Sw]
 |x::l,ns=>by
  have h1:=Xn l (wt ns x.1);have h2:=Jna (l:=ns) (s:=x.1);show (Sw l (wt ns x.1)).length≤_;rw[Vd];omega
def Cfb (d:Dsk):TS (nms d):=H4a _ _ List.Pairwise.nil
def Eub {d:Dsk} {t:ByteArray}:t∈nms d↔(gt d.1 t).isSome=true∨(gt d.2 t).isSome=true:=by
 have h:∀ l:List Nmd,(gt l t).isSome=true↔∃ x∈l,x.1=t:=λ l=>by
  cases hg:gt l t with
  |none=>
   constructor
   ·intro h;cases h
   ·rintro⟨x,hx,e⟩;exact absurd e (Pd.1 hg x hx)
  |some b=>simp only[Option.isSome_some,true_iff];exact⟨_,Qd hg,rfl⟩
 unfold nms;rw[K6a,h,h];simp only[Vo,Kab,or_false];constructor
 ·rintro⟨x,h1|h1,h2⟩
  ·exact .inl ⟨x,h1,h2⟩
  ·exact .inr ⟨x,h1,h2⟩
 ·rintro (⟨x,h1,h2⟩|⟨x,h1,h2⟩)
  ·exact⟨x,.inl h1,h2⟩
  ·exact⟨x,.inr h1,h2⟩
def Evb (l:List Nmd) (s:ByteArray):pk l s=(gt l s).map λ b=>(s,b):=by
 unfold pk gt
 cases h:fnd l s with
 |none=>rfl
 |some i=>rw[Lrb,← (Pm h).2]
def A5a (kp:List Bool) (a b:List Nmd):∀ (ns:List ByteArray) (i:Nat),((W4 kp a b ns i).map Prod.fst).Sublist ns
 |[],_=>List.Sublist.slnil
 |s::ns,i=>by
  unfold W4;rw[Evb]
  cases gt (bif kp.getD i false then a else b) s with
  |none=>exact(A5a kp a b ns (i+1)).cons s
  |some c=>exact(A5a kp a b ns (i+1)).cons_cons s
def Ewb (kp:List Bool) (a b:List Nmd) (ns:List ByteArray) (i:Nat):(W4 kp a b ns i).length≤ns.length:=by
 have:=(A5a kp a b ns i).length_le;rwa [Wd]at this
def Rja {kp:List Bool} {a b:List Nmd} {ns:List ByteArray} {i:Nat} (h:TS ns):E4 (W4 kp a b ns i):=by
 have:=M5b (A5a kp a b ns i) h;rwa [Zn]at this
def W9a {kp:List Bool} {a b:List Nmd}:∀ {ns:List ByteArray} {i:Nat} {x:Nmd},x∈W4 kp a b ns i→gt a x.1=some x.2∨gt b x.1=some x.2
 |[],_,_,h=>by cases h
 |s::ns,i,x,h=>by
  unfold W4 at h;rw[Evb]at h;rcases Vo.1 h with h|h
  ·cases hg:gt (bif kp.getD i false then a else b) s with
   |none=>rw[hg]at h;cases h
   |some c=>
    rw[hg]at h;rw[Vu.1 h]
    cases hk:kp.getD i false with
    |true=>rw[hk]at hg;exact .inl hg
    |false=>rw[hk]at hg;exact .inr hg
  ·exact W9a h
def Cgb {kp:List Bool} {a b:List Nmd} {t:ByteArray}:∀ {ns:List ByteArray} {i:Nat},TS ns→t∈ns→∃ j,i≤j∧gt (W4 kp a b ns i) t=gt (bif kp.getD j false then a else b) t
 |[],_,_,h=>by cases h
 |s::ns,i,hs,h=>by
  obtain⟨h1,h2⟩:=Wh.1 hs
  have hn:∀ j,gt (W4 kp a b ns j) s=none:=λ j=>Pd.2 λ x hx e=>by
   have:=h1 x.1 ((A5a kp a b ns j).subset (Yv hx));rw[e,Jc]at this;cases this
  unfold W4;rw[Evb];rcases Vl.1 h with rfl|h
  ·refine⟨i,Vv _,?_⟩
   cases hg:gt (bif kp.getD i false then a else b) t with
   |none=>exact hn _
   |some c=>
    show gt ((t,c)::W4 kp a b ns (i+1)) t=_;rw[Mla,if_pos rfl]
  ·obtain⟨j,hj,e⟩:=Cgb (kp:=kp) (a:=a) (b:=b) (i:=i+1) h2 h;refine⟨j,by omega,?_⟩;rw[← e]
   have hst:s≠t:=λ e=>by
    have:=h1 t h;rw[e,Jc]at this;cases this
   cases gt (bif kp.getD i false then a else b) s with
   |none=>rfl
   |some c=>
    show gt ((s,c)::W4 kp a b ns (i+1)) t=_;rw[Mla,if_neg hst]
def Waa {d:Dsk} {kp:List Bool} (h:DG d):DG (W0 d kp):=by
 unfold W0;cases hc:decide ((W4 kp d.1 d.2 (nms d) 0).length > 60)
 case true=>exact h
 have hl:=of_decide_eq_false hc;have n1:=(Aq.1 (F6.1 h.1).1).2.1;have n2:=(Aq.1 (F6.1 h.1).2).2.1;have q:Kq (W4 kp d.1 d.2 (nms d) 0)=true:=Aq.2 ⟨Rja (Cfb d),λ x hx=>(W9a hx).elim (λ e=>n1 _ (Qd e)) (λ e=>n2 _ (Qd e)),by omega⟩;have b:LB (W4 kp d.1 d.2 (nms d) 0):=λ x hx=>(W9a hx).elim (λ e=>h.2.1.gt e) (λ e=>h.2.2.gt e);exact⟨F6.2 ⟨q,q⟩,b,b⟩
def Wba {d:Dsk} {kp:List Bool} (t:ByteArray):W0 d kp=d∨((W0 d kp).2=(W0 d kp).1∧(gt (W0 d kp).1 t=gt d.1 t∨gt (W0 d kp).1 t=gt d.2 t)):=by
 unfold W0;cases hc:decide ((W4 kp d.1 d.2 (nms d) 0).length > 60)
 case true=>exact .inl rfl
 refine .inr ⟨rfl,?_⟩;show gt (W4 kp d.1 d.2 (nms d) 0) t=_∨gt (W4 kp d.1 d.2 (nms d) 0) t=_
 by_cases ht:t∈nms d
 ·obtain⟨j,_,e⟩:=Cgb (kp:=kp) (a:=d.1) (b:=d.2) (i:=0) (Cfb d) ht;rw[e]
  cases kp.getD j false with
  |true=>exact .inl rfl
  |false=>exact .inr rfl
 ·have h1:gt d.1 t=none:=by
   cases hg:gt d.1 t with
   |none=>rfl
   |some b=>exact absurd (Eub.2 (.inl (by rw[hg];rfl))) ht
  left;rw[h1];exact Pd.2 λ x hx e=>ht (by rw[← e];exact(A5a _ _ _ _ _).subset (Yv hx))
def H5a {R:Type} {L:Nat→List Nmd→Option R} {Q:R→Prop} (c:List Nmd) (s:ByteArray) (acc:List Nmd) (hc:c.length≤5000000) (ha:acc.length≤5000000) (next:Tot (λ k=>L k (acc++pk1 (pk c s))) Q):
  Tot (λ k=>(E3 k c s).bind λ r=>cond (decide (r≥0)) (cond (decide ((0:Int)≤r)) (cond (decide (r<(length c:Int))) (cond (Nat.ble ((length acc+length [getD c (toNat r) ((⟨#[]⟩:ByteArray),[])])*40) 140737488355328) (L k (acc++[getD c (toNat r) ((⟨#[]⟩:ByteArray),[])])) none) none) none) (L k acc)) Q:=by
 refine K3b (F6a c s (by omega)) ?_;unfold pk at next;unfold F5a
 cases h:fnd c s with
 |none=>
  rw[h]at next;simp only[pk1,Wq]at next;exact Jwb (by decide) next
 |some i=>
  rw[h]at next;have:=(Pm h).1;simp only[Vc];exact Jvb (by omega) (Jvb (by omega) (Jvb (by omega) (Jzb (by simp only[Vd,Vk];omega) next)))

def mk0 (s:ByteArray):Nmd:=(s,[])
def A6a {ns:List ByteArray} (h:TS ns):E4 (ns.map mk0):=by
 unfold E4;rw[Zn];exact h
def Chb {ns:List ByteArray} (h:TS ns) {t:ByteArray}:(t∈ns→gt (ns.map mk0) t=some [])∧(t∉ns→gt (ns.map mk0) t=none):=by
 refine⟨λ ht=>?_,λ ht=>Pd.2 λ x hx e=>?_⟩
 ·exact D3a (A6a h) (x:=mk0 t) (Yv ht)
 ·obtain⟨s,hs,rfl⟩:=Zb.1 hx;exact ht (by rw[← e];exact hs)
def Hib {ns:List ByteArray} (h:TS ns) (s:ByteArray):ptl (s,[]) false (ns.map mk0)=(wt ns s).map mk0:=by
 have h1:=A6a h;rw[A0a _ h1];refine C8b (Rm (O4 h1) Aja) (A6a (Tg h)) λ t=>?_;have e:=Gva h1 (s:=s) (t:=t) (b:=[]);unfold wr at e;rw[e];have g1:=Chb h (t:=t);have g2:=Chb (Tg (s:=s) h) (t:=t)
 by_cases hst:s=t
 ·rw[if_pos hst,g2.1 (Jma.2 (.inl hst.symm))]
 ·rw[if_neg hst]
  by_cases ht:t∈ns
  ·rw[g1.1 ht,g2.1 (Jma.2 (.inr ht))]
  ·rw[g1.2 ht,g2.2 (λ c=>(Jma.1 c).elim (λ e=>hst e.symm) ht)]
def Wca (a b:List Nmd) (ha:a.length≤2000000) (hb:b.length≤2000000):Tot (λ k=>Cu k a b) (λ r=>r=nms (a,b)):=by
 unfold Cu
 have put:∀ {ns:List ByteArray} (x:Nmd),TS ns→ns.length≤5000000→Tot (λ k=>Gj k (ns.map mk0) x.1 []) (λ r=>r=(wt ns x.1).map mk0):=λ x ht hl=>(Gra _ x.1 [] (by rw[Wd];omega) (by simp)).mono λ r hr=>by rw[hr,Hib ht]
 refine Jsb (Q:=λ r=>r=(b,(Sw a []).map mk0)) ?_ ?_
 ·refine K0b (L:=λ k i s=>Gv k a b s i) (Q:=λ r=>r=(b,(Sw a []).map mk0)) a.length (λ j s=>∃ ns,s=ns.map mk0∧TS ns∧Sw (a.drop j) ns=Sw a []∧ns.length≤j) ?_ ?_ 0 [] (Vq _) ⟨[],rfl,List.Pairwise.nil,rfl,Vv _⟩
  ·rintro s ⟨ns,rfl,_,h,_⟩;rw[Vz]at h;simp (disch:=omega) only [Gv,dF];exact Jrb (by rw[← h];rfl)
  ·rintro j s hj ⟨ns,rfl,ht,h,hl⟩ next;rw[Aj (d:=Dy) hj]at h;simp (disch:=omega) only [Gv,dT,Vc,w64];refine K3b (put (a.getD j Dy) ht (by omega)) ?_;have:=Jna (l:=ns) (s:=(a.getD j Dy).1);exact next _ ⟨_,rfl,Tg ht,h,by omega⟩
 ·rintro r rfl
  have hla:(Sw a []).length≤2000000:=by have:=Xn a [];rw[Vk]at this;omega
  have e:Sw b (Sw a [])=nms (a,b):=by unfold nms Sw;rw[Kjb]
  refine Jsb (Q:=λ r=>r=(nms (a,b)).map mk0) ?_ ?_
  ·refine K0b (L:=λ k i s=>Gu k b s i) (Q:=λ r=>r=(nms (a,b)).map mk0) b.length (λ j s=>∃ ns,s=ns.map mk0∧TS ns∧Sw (b.drop j) ns=nms (a,b)∧ns.length≤2000000+j) ?_ ?_ 0 _ (Vq _) ⟨_,rfl,H4a _ _ List.Pairwise.nil,e,by omega⟩
   ·rintro s ⟨ns,rfl,_,h,_⟩;rw[Vz]at h;simp (disch:=omega) only [Gu,dF];exact Jrb (by rw[← h];rfl)
   ·rintro j s hj ⟨ns,rfl,ht,h,hl⟩ next;rw[Aj (d:=Dy) hj]at h;simp (disch:=omega) only [Gu,dT,Vc,w64];refine K3b (put (b.getD j Dy) ht (by omega)) ?_;have:=Jna (l:=ns) (s:=(b.getD j Dy).1);exact next _ ⟨_,rfl,Tg ht,h,by omega⟩
  ·rintro r rfl
   have hln:(nms (a,b)).length≤4000000:=by rw[← e];have:=Xn b (Sw a []);omega
   refine Jsb (Q:=λ r=>r=nms (a,b)) ?_ (by rintro r rfl;exact Jrb rfl);refine K0b (L:=λ k i s=>Ft k ((nms (a,b)).map mk0) s i) (Q:=λ r=>r=nms (a,b)) (nms (a,b)).length (λ j s=>s=(nms (a,b)).take j) ?_ ?_ 0 [] (Vq _) rfl
   ·rintro s rfl;simp (disch:=omega) only [Ft,Wd,dF,Yp];exact Jrb rfl
   ·rintro j s hj rfl next;simp (disch:=omega) only [Ft,Wd,dT,Vc,w64];refine Jzb (by simp only[Vt,Vd,Vk];omega) (next _ ?_);rw[Wi hj,Vb,K7b,Vj hj];rfl
def Wda (d:Dsk) (kp:List Bool) (hd:DG d) (hk:kp.length≤4000000000000):Tot (λ k=>E9 k d kp) (λ r=>r=W0 d kp):=by
 have hin:=Pw hd.1;have g1:=(Aq.1 (F6.1 hd.1).1).2.2;have g2:=(Aq.1 (F6.1 hd.1).2).2.2;unfold E9;refine K3b (Sd d hin.1.1 hin.1.2) ?_;rw[hd.1];refine Jtb rfl (K3b (Wca d.1 d.2 (by omega) (by omega)) ?_)
 have hn:(nms d).length≤120:=by
  have:=Xn (d.1++d.2) [];rw[Vk,Ve]at this;exact Zt this (by omega)
 refine Jsb (Q:=λ r=>r=(W4 kp d.1 d.2 (nms d) 0,d,([],[]))) ?_ ?_
 ·refine K0b (L:=λ k i s=>B1 k kp (nms d) s i d ([],[])) (Q:=λ r=>r=(W4 kp d.1 d.2 (nms d) 0,d,([],[]))) (nms d).length (λ j s=>s++W4 kp d.1 d.2 ((nms d).drop j) j=W4 kp d.1 d.2 (nms d) 0∧s.length≤j) ?_ ?_ 0 [] (Vq _) ⟨rfl,Vv _⟩
  ·rintro s ⟨h,_⟩;rw[Vz,Etb,Wq]at h;simp (disch:=omega) only [B1,dF];exact Jrb (by rw[h])
  ·rintro j s hj ⟨h,hs⟩ next;rw[Aj (d:=Oz) hj]at h;rw[Agb,← Vn]at h;simp (disch:=omega) only [B1,dT,Vc,w64];have hl:=Esb (pk (bif kp.getD j false then d.1 else d.2) ((nms d).getD j Oz));have nx:=next (s++pk1 (pk (bif kp.getD j false then d.1 else d.2) ((nms d).getD j Oz))) ⟨h,by rw[Ve];omega⟩;have e0:(nms d).getD j (⟨#[]⟩:ByteArray)=(nms d).getD j Oz:=rfl;rw[e0];refine Jyb (λ hc=>?_) (λ hc=>?_)
   ·refine Jvb (by omega) (Jxb (λ hk=>?_) (λ hk=>?_))
    ·rw[hk]at nx;exact H5a (L:=λ k acc=>B1 k kp (nms d) acc ((j:Int)+1) d ([],[])) d.1 _ s (by omega) (by omega) nx
    ·rw[hk]at nx;exact H5a (L:=λ k acc=>B1 k kp (nms d) acc ((j:Int)+1) d ([],[])) d.2 _ s (by omega) (by omega) nx
   ·have hk:kp.getD j false=false:=by rw[Vb,Za (by omega)];rfl
    rw[hk]at nx;exact H5a (L:=λ k acc=>B1 k kp (nms d) acc ((j:Int)+1) d ([],[])) d.2 _ s (by omega) (by omega) nx
 ·rintro r rfl;have hp:=Ewb kp d.1 d.2 (nms d) 0;unfold W0;refine Jyb (λ h=>?_) (λ h=>?_)
  ·dsimp only at h;rw[decide_eq_true (show (W4 kp d.1 d.2 (nms d) 0).length > 60 by omega)];refine K3b (Nn d hin.1.1) ?_;exact Jrb rfl
  ·dsimp only at h;have hc:decide ((W4 kp d.1 d.2 (nms d) 0).length > 60)=false:=decide_eq_false (by omega);have hg:=Waa (kp:=kp) hd;unfold W0 at hg;rw[hc]at hg ⊢;rw[cond_false]at hg;have hf:=(Pw hg.1).1.1.1;refine K3b (Qs _ hf) ?_;refine K3b (Qs _ hf) ?_;exact Jrb rfl
def clS (o:Dsk×Int) (x:Nmd):Dsk×Int:=match O6 x.2 with
 |some _=>o
 |none=>((cut o.1.1 x.1,cut o.1.2 x.1),o.2+1)
def No (d:Dsk):Dsk×Int:=d.1.foldl clS (d,0)
def Rka {l:List Nmd} {s:ByteArray} (h:gt l s=none):cut l s=l:=by
 refine List.filter_eq_self.2 λ x hx=>?_
 cases ht:teq x.1 s with
 |false=>rfl
 |true=>exact absurd (Db.1 ht) (Pd.1 h x hx)
def Hjb {d:Dsk} {s:ByteArray} (h:DG d):DG (cut d.1 s,cut d.2 s):=⟨F6.2 ⟨Aia (F6.1 h.1).1,Aia (F6.1 h.1).2⟩,h.2.1.cut s,h.2.2.cut s⟩
def Ahb {o:Dsk×Int} {x:Nmd} (h:DG o.1):DG (clS o x).1:=by
 unfold clS
 cases O6 x.2 with
 |some _=>exact h
 |none=>exact Hjb h
def Pga:∀ (l:List Nmd) (o:Dsk×Int),DG o.1→DG (l.foldl clS o).1
 |[],_,h=>h
 |_::l,_,h=>Pga l _ (Ahb h)
def Aib {d:Dsk} (h:DG d):DG (No d).1:=Pga _ _ h
def H6a (l:List Nmd):List ByteArray:=(l.filter λ x=>(O6 x.2).isNone).map Prod.fst
def W1:∀ (l:List Nmd) (o:Dsk×Int),DG o.1→((l.foldl clS o).2=o.2+((H6a l).length:Int))∧∀ t,(t∈H6a l→gt (l.foldl clS o).1.1 t=none∧gt (l.foldl clS o).1.2 t=none)∧(t∉H6a l→gt (l.foldl clS o).1.1 t=gt o.1.1 t∧gt (l.foldl clS o).1.2 t=gt o.1.2 t)
 |[],o,h=>⟨by simp[H6a],λ t=>⟨λ c=>by simp[H6a]at c,λ _=>⟨rfl,rfl⟩⟩⟩
 |x::l,o,h=>by
  obtain⟨h1,h2⟩:=W1 l (clS o x) (Ahb h);rw[Ye]
  cases hx:O6 x.2 with
  |some f=>
   have e:H6a (x::l)=H6a l:=by unfold H6a;rw[Zz,hx];rfl
   have ec:clS o x=o:=by unfold clS;rw[hx]
   rw[e];rw[ec]at h1 h2 ⊢;exact⟨h1,h2⟩
  |none=>
   have e:H6a (x::l)=x.1::H6a l:=by unfold H6a;rw[Zz,hx];rfl
   have ec:clS o x=((cut o.1.1 x.1,cut o.1.2 x.1),o.2+1):=by unfold clS;rw[hx]
   rw[e];rw[ec]at h1 h2 ⊢;refine⟨by rw[h1,Vd];omega,λ t=>⟨λ ht=>?_,λ ht=>?_⟩⟩
   ·by_cases hb:t∈H6a l
    ·exact(h2 t).1 hb
    ·obtain⟨a1,a2⟩:=(h2 t).2 hb
     have:x.1=t:=by
      rcases Vl.1 ht with e|e
      ·exact e.symm
      ·exact absurd e hb
     rw[a1,a2,Uq (Ma h.1),Uq (Pt h.1),if_pos this,if_pos this];exact⟨rfl,rfl⟩
   ·obtain⟨a1,a2⟩:=(h2 t).2 (λ c=>ht (Vh _ c));have:x.1≠t:=λ e=>ht (by rw[← e];exact Ya);rw[a1,a2,Uq (Ma h.1),Uq (Pt h.1),if_neg this,if_neg this];exact⟨rfl,rfl⟩
def Pha {d:Dsk} (hd:B7 d=true) {t:ByteArray}:t∈H6a d.1↔∃ b,gt d.1 t=some b∧O6 b=none:=by
 unfold H6a;rw[Zb];constructor
 ·rintro⟨x,hx,rfl⟩;obtain⟨h1,h2⟩:=Lbb.1 hx;exact⟨x.2,D3a (Ma hd) h1,by simpa using h2⟩
 ·rintro⟨b,h1,h2⟩;exact⟨(t,b),Lbb.2 ⟨Qd h1,by simp[h2]⟩,rfl⟩
def Wea (d:Dsk) (hd:DG d):Tot (λ k=>Jw k d) (λ r=>r=No d):=by
 have hin:=Pw hd.1;have hl:=(Aq.1 (F6.1 hd.1).1).2.2;unfold Jw;refine K3b (Lc d hin.1.1) ?_;refine K3b (U8 d hin.1.1 hin.1.2) ?_;rw[hd.1];refine Jtb rfl (Jsb (Q:=λ r=>r=((No d).2,([],[]),(No d).1)) ?_ (by rintro r rfl;exact Jrb rfl));refine K0b (L:=λ k i (s:Dsk×Int)=>Iv k s.2 d.1 (d.1.length:Int) i ([],[]) s.1) (Q:=λ r=>r=((No d).2,([],[]),(No d).1)) d.1.length (λ j s=>(d.1.drop j).foldl clS s=No d∧DG s.1∧0≤s.2∧s.2≤j) ?_ ?_ 0 (d,0) (Vq _) ⟨rfl,hd,Keb 0,by simp⟩
 ·rintro s ⟨h,_⟩;rw[Vz]at h;simp (disch:=omega) only [Iv,dF];exact Jrb (by rw[← h];rfl)
 ·rintro j s hj ⟨h,hg,s0,s1⟩ next;rw[Aj (d:=Dy) hj,Ye]at h;have hsi:=Pw hg.1;have hx:=A3 (d:=Dy) hj;simp (disch:=omega) only [Iv,dT,Vc,w64];have e0:d.1.getD j ((⟨#[]⟩:ByteArray),([]:List Int))=d.1.getD j Dy:=rfl;rw[e0];refine K3b (Pc _ (hd.2.1 _ hx) (hin.1.1.1.2 _ hx)) ?_;have hcg:=Ahb (x:=d.1.getD j Dy) hg;unfold clS at h hcg;unfold Ti
  cases hf:O6 (d.1.getD j Dy).2 with
  |some f=>
   rw[hf]at h;exact Jtb rfl (next _ ⟨h,hg,s0,by omega⟩)
  |none=>
   rw[hf]at h hcg;refine Jub rfl (K3b (Xi s.1.1 _ hsi.1.1.1.1) ?_);refine K3b (Xi s.1.2 _ hsi.1.1.2.1) ?_;rw[Sf (Ma hg.1),Sf (Pt hg.1)];exact next ((cut s.1.1 (d.1.getD j Dy).1,cut s.1.2 (d.1.getD j Dy).1),s.2+1) ⟨h,hcg,by dsimp only;omega,by dsimp only;omega⟩
def Wfa (d:Dsk) (hd:DG d):Tot (λ k=>Jy k d) (λ r=>r=No d):=by
 have hin:=Pw hd.1;have hl:=(Aq.1 (F6.1 hd.1).1).2.2;have hnk:=(Aq.1 (F6.1 hd.1).1).2.1;unfold Jy;refine K3b (Nn d hin.1.1) ?_;refine Jsb (Q:=λ r=>r=((No d).2,([],[]),(No d).1)) ?_ (by rintro r rfl;exact Jrb rfl);refine K0b (L:=λ k i (s:Dsk×Int)=>Iy k s.2 i d ([],[]) s.1) (Q:=λ r=>r=((No d).2,([],[]),(No d).1)) d.1.length (λ j s=>(d.1.drop j).foldl clS s=No d∧DG s.1∧0≤s.2∧s.2≤j) ?_ ?_ 0 (d,0) (Vq _) ⟨rfl,hd,Keb 0,by simp⟩
 ·rintro s ⟨h,_⟩;rw[Vz]at h;simp (disch:=omega) only [Iy,dF];exact Jrb (by rw[← h];rfl)
 ·rintro j s hj ⟨h,hg,s0,s1⟩ next;rw[Aj (d:=Dy) hj,Ye]at h;have hsi:=Pw hg.1;have hx:=A3 (d:=Dy) hj;simp (disch:=omega) only [Iy,dT,Vc,w64];have e0:d.1.getD j ((⟨#[]⟩:ByteArray),([]:List Int))=d.1.getD j Dy:=rfl;rw[e0];refine K3b (Sd d hin.1.1 hin.1.2) ?_;refine Jub hd.1 (K3b (Bka hin.1.1.1 hd.2.1 _) ?_);have hnm:=(Se.1 (hnk _ hx)).1;have hcg:=Ahb (x:=d.1.getD j Dy) hg;unfold clS at h hcg;unfold lkD;rw[D3a (Ma hd.1) hx];simp only
  cases hf:O6 (d.1.getD j Dy).2 with
  |some f=>
   rw[hf]at h;exact Jtb rfl (next _ ⟨h,hg,s0,by omega⟩)
  |none=>
   rw[hf]at h hcg;refine Jub rfl (K3b (D6a hg.1 (K6 hnm)) ?_)
   have er:(rmD s.1 (d.1.getD j Dy).1).1=(cut s.1.1 (d.1.getD j Dy).1,s.1.2):=by
    unfold rmD
    cases hg1:gt s.1.1 (d.1.getD j Dy).1 with
    |none=>rw[Rka hg1];rfl
    |some b=>rfl
   have hrg:=A0b (s:=(d.1.getD j Dy).1) hg;rw[er]at hrg ⊢;refine K3b (D5a hrg.1 hnm) ?_
   have es:(syD (cut s.1.1 (d.1.getD j Dy).1,s.1.2) (d.1.getD j Dy).1).1=(cut s.1.1 (d.1.getD j Dy).1,cut s.1.2 (d.1.getD j Dy).1):=by
    have e2:sy (cut s.1.1 (d.1.getD j Dy).1,s.1.2) (d.1.getD j Dy).1=cut s.1.2 (d.1.getD j Dy).1:=by
     unfold sy;rw[Uq (Ma hg.1),if_pos rfl]
    unfold syD;rw[e2,decide_eq_true (Aq.1 (F6.1 hcg.1).2).2.2];rfl
   rw[es];exact next ((cut s.1.1 (d.1.getD j Dy).1,cut s.1.2 (d.1.getD j Dy).1),s.2+1) ⟨h,hcg,by dsimp only;omega,by dsimp only;omega⟩

end Go.Proofs.YtiiekghlhfbmmaaGreat.Vf
