import Derived.Test.YtcpligincipmhaaMak
set_option linter.all false
namespace Go.Proofs.Ytcpligincipmhaa.Vf
open Go
open List (length getD)
open Int (toNat)
open Go.IntKind (wrap)
open BitVec (ofInt)
def Wi:=@List.take_succ_eq_append_getElem
def Zx:=@List.mem_range
def B6b:=@List.length_pos_of_mem
def Bsb:=@List.foldl_append
def Bub:=@List.pairwise_singleton
def Chb:=@List.length_erase_of_mem
def Cxb:=@List.drop_append_of_le_length
def Cyb:=@List.take_append_of_le_length
def D2b:=@List.mem_erase_of_ne
def D9b:=@BitVec.getLsbD_ushiftRight
def Dvb:=@List.set_append_right
def Dwb:=@List.range_succ
def Dxb:=@List.set_getElem_self
def E1b:=@List.nodup_nil

abbrev Nod:=Int×Dsk×List Row×List Row
def qOk (l:List Row):Bool:=l.all Kk
def Jg (n:Nod):Bool:=qOk n.2.2.2&&(inR n.1 0 20&&(Bx n.2.1&&(Hb n.2.2.1&&decide ((n.2.2.2.length:Int)≤60))))
def RF (l:List Row):Prop:=l.length≤2000000∧Xx l
def NIn (n:Nod):Prop:=(DIn n.2.1∧DB n.2.1)∧RF n.2.2.1∧RF n.2.2.2
def NG (n:Nod):Prop:=Jg n=true∧DB n.2.1
def Bn {n:Nod}:Jg n=true↔(∀ r∈n.2.2.2,Kk r=true)∧(0≤n.1∧n.1≤20)∧Bx n.2.1=true∧Hb n.2.2.1=true∧n.2.2.2.length≤60:=by
 unfold Jg qOk;simp only[Va,Yb,Fk,decide_eq_true_iff];constructor
 ·rintro⟨h1,h2,h3,h4,h5⟩;exact⟨h1,h2,h3,h4,by omega⟩
 ·rintro⟨h1,h2,h3,h4,h5⟩;exact⟨h1,h2,h3,h4,by omega⟩
def Ewa {l:List Row} (h:Hb l=true):RF l:=by
 obtain⟨_,h2,h3⟩:=Hp.1 h;exact⟨by omega,λ r hr=>Gg (V6 (h2 r hr))⟩
def Caa {n:Nod} (h:NG n):NIn n:=by
 obtain⟨h1,_,h3,h4,h5⟩:=Bn.1 h.1;exact⟨⟨Tg h3,h.2⟩,Ewa h4,by omega,λ r hr=>Gg (V6 (h1 r hr))⟩
def NG.g {n:Nod} (h:NG n):DG n.2.1:=⟨(Bn.1 h.1).2.2.1,h.2⟩
def Y8 (n:Nod) (hn:NIn n):Tot (λ k=>Bw k n) (λ r=>r=Jg n):=by
 obtain⟨i,⟨a,b⟩,ro,q⟩:=n;obtain⟨⟨hd,_⟩,hr,hq⟩:=hn;dsimp only at hd hr hq;unfold Bw;have hl:=hq.1;refine Arb (Q:=λ r=>r=bif qOk q then .inr (i,a,b,ro,q) else .inl false) ?_ ?_
 ·refine Azb (L:=λ k i' (_:Unit)=>Ec k q (q.length:Int) i' i a b ro q) (Q:=λ r=>r=bif qOk q then .inr (i,a,b,ro,q) else .inl false) q.length (λ j _=>(q.drop j).all Kk=q.all Kk) ?_ ?_ 0 () (Vw _) (by rw[Yu])
  ·intro _ hj;rw[Yt]at hj;simp only[Ec];exact Avb (by omega) (Aqb (by unfold qOk;rw[← hj];rfl))
  ·intro j _ hj hi next;simp only[Ec];rw[Co (d:=J3) hj,C3b]at hi;refine Aub (by omega) (Aub (by omega) (Aub (by omega) ?_));rw[Vm,w64 (n:=(j:Int)+1) (by omega) (by omega)];refine B1b (Moa (q.getD j J3) (hq.2 _ (A3 hj))) ?_
   cases hc:Kk (q.getD j J3) with
   |false=>exact Atb rfl (Aqb (by unfold qOk;rw[← hi,hc];rfl))
   |true=>exact Asb rfl (next () (by rw[hc,Wf]at hi;exact hi))
 ·rintro r rfl;unfold Jg;dsimp only;cases qOk q
  ·exact Aqb rfl
  simp only[cond_true,Ddb,Wf];refine B1b (B2b (Q:=λ r=>r=inR i 0 20) (My _ _ _) rfl) ?_;cases inR i 0 20
  ·exact Asb rfl (Aqb rfl)
  refine Atb rfl (B1b (Nn (a,b) hd.1.1 hd.1.2) ?_);cases Bx (a,b)
  ·exact Asb rfl (Aqb rfl)
  refine Atb rfl (B1b (Gta ro (by have:=hr.1;unfold Few;omega) hr.2) ?_)
  cases Hb ro with
  |false=>exact Asb rfl (Aqb rfl)
  |true=>exact Atb rfl (Aqb rfl)
def J7 (n:Nod) (hn:NIn n):Tot (λ k=>B7 k n) (λ r=>r=n):=by
 unfold B7;have h1:=hn.2.1.1;have h2:=hn.2.2.1;refine B1b (Fu n.2.1 hn.1.1.1.1) ?_;refine B1b (B2b (Q:=λ r=>r=n.2.2.1) (Ph _ (by unfold Few;omega)) rfl) ?_;refine B1b (B2b (Q:=λ r=>r=n.2.2.2) (Ph _ (by unfold Few;omega)) rfl) ?_;exact Aqb rfl
def R7a (n:Nod) (l:List Row):Nod×Bool:=bif Jg n&&Hb l then (bif decide ((Mb n.2.2.1 l).length > 60) then (n,false) else ((n.1,n.2.1,Mb n.2.2.1 l,n.2.2.2),true)) else (n,false)
def Exa {a b:List Row} (ha:Hb a=true) (hb:Hb b=true) (h:(Mb a b).length≤60):Hb (Mb a b)=true:=by
 obtain⟨a1,a2,_⟩:=Hp.1 ha;obtain⟨b1,b2,_⟩:=Hp.1 hb;exact Hp.2 ⟨Iw a1,λ r hr=>(Xy hr).elim (a2 r) (b2 r),h⟩
def R8a (n:Nod) (l:List Row) (hn:NIn n) (hl:RF l):Tot (λ k=>F7 k n l) (λ r=>r=R7a n l):=by
 have h1:=hn.2.1.1;have h2:=hl.1;unfold F7 R7a;refine B1b (J7 n hn) ?_;refine B1b (Y8 n hn) ?_;cases Jg n
 ·exact Atb rfl (Aqb rfl)
 refine Asb rfl (B1b (Gta l (by unfold Few;omega) hl.2) ?_);cases Hb l
 ·exact Atb rfl (Aqb rfl)
 refine Asb rfl (B1b (Ita n.2.2.1 l (by omega)) ?_);refine Axb (λ h=>?_) (λ h=>?_)
 ·rw[decide_eq_true (show (Mb n.2.2.1 l).length > 60 by omega)];refine B1b (J7 n hn) ?_;exact Aqb rfl
 ·rw[decide_eq_false (show ¬ (Mb n.2.2.1 l).length > 60 by omega)];exact Aqb rfl
def Rd (s:ByteArray) (f:Fil):Row:=(s,f.1,f.2.1,(f.2.2.length:Int))
def Oo (n:Nod) (s:ByteArray) (f:Fil) (sure:Bool):Nod×Int:=bif (n.2.2.2.length:Int)==60 then (n,3) else
 ((n.1,(keep n.2.1 s f sure).1,n.2.2.1,bif (keep n.2.1 s f sure).2==0&&sure then n.2.2.2++[Rd s f] else n.2.2.2),(keep n.2.1 s f sure).2)
def Zea (n:Nod) (s:ByteArray) (f:Fil) (sure:Bool):Nod×Int:=bif Jg n&&(B2 s&&De f) then Oo n s f sure else (n,2)
def R9a {s:ByteArray} {f:Fil} (hs:B2 s=true) (hf:De f=true):Kk (Rd s f)=true:=by
 obtain⟨h1,h2,h3⟩:=Gf.1 hf;unfold Kk Rd;dsimp only;rw[hs,h1,Fk.2 ⟨by omega,by omega⟩]
 cases hd:f.2.1 with
 |false=>rfl
 |true=>rw[h3 hd];rfl
def N7a {n:Nod} {s:ByteArray} {f:Fil} {sure:Bool} (hn:NG n) (hs:B2 s=true) (hf:De f=true):NG (Oo n s f sure).1:=by
 obtain⟨h1,h2,h3,h4,h5⟩:=Bn.1 hn.1;have hk:=Tga (s:=s) (f:=f) (sure:=sure) hn.g;unfold Oo;cases hl:((n.2.2.2.length:Int)==60)
 case true=>exact hn
 have hl':n.2.2.2.length≠60:=by
  intro e;rw[e]at hl;cases hl
 refine⟨Bn.2 ⟨?_,h2,hk.1,h4,?_⟩,hk.2⟩
 ·show ∀ r∈bif (keep n.2.1 s f sure).2==0&&sure then n.2.2.2++[Rd s f] else n.2.2.2,Kk r=true
  cases (keep n.2.1 s f sure).2==0&&sure
  ·exact h1
  intro r hr;rcases Vl.1 hr with hr|hr
  ·exact h1 r hr
  ·rw[Vp.1 hr];exact R9a hs hf
 ·show (bif (keep n.2.1 s f sure).2==0&&sure then n.2.2.2++[Rd s f] else n.2.2.2).length≤60
  cases (keep n.2.1 s f sure).2==0&&sure with
  |false=>exact h5
  |true=>rw[cond_true,Vi];simp only[Vh,Vs];omega
def N8a (n:Nod) (s:ByteArray) (b:Int):Nod×Bool:=bif Jg n&&((lkD n.2.1 s).2==0&&(J3a n.2.1 s b).2) then ((n.1,(J3a n.2.1 s b).1,n.2.2),true) else (n,false)
def Tha {n:Nod} {s:ByteArray} {b:Int} (hn:NG n):NG (N8a n s b).1:=by
 obtain⟨h1,h2,h3,h4,h5⟩:=Bn.1 hn.1;have hr:=Yia (s:=s) (n:=b) hn.g;unfold N8a
 cases Jg n&&((lkD n.2.1 s).2==0&&(J3a n.2.1 s b).2) with
 |false=>exact hn
 |true=>exact⟨Bn.2 ⟨h1,h2,hr.1,h4,h5⟩,hr.2⟩
def Ae:Nod:=((0:Int),(([]:List Nmd),([]:List Nmd)),([]:List Row),([]:List Row))

abbrev Dev:=Int×Int×Int
abbrev Rng:=Int×List (List Int)
def Ju:Dev:=((0:Int),((0:Int),(0:Int)))
def Hc (l:List Int) (n:Int):Bool:=l.any (· == n)
def Hr {l:List Int} {n:Int}:Hc l n=true↔n∈l:=by
 unfold Hc;rw[Cvb];constructor
 ·rintro⟨x,hx,e⟩;rw[← eq_of_beq e];exact hx
 ·intro h;exact⟨n,h,beq_self_eq_true n⟩
def Oh (l:List Int) (n:Int) (hl:l.length≤4000000000000000):Tot (λ k=>B9 k l n) (λ r=>r=Hc l n):=by
 unfold B9
 refine Arb (Q:=λ r=>r=bif Hc l n then .inl true else .inr ()) ?_ (by rintro r rfl;cases Hc l n<;>exact Aqb rfl)
 refine Azb (L:=λ k i (_:Unit)=>E8 k n l (l.length:Int) i) (Q:=λ r=>r=bif Hc l n then .inl true else .inr ()) l.length (λ j _=>Hc (l.drop j) n=Hc l n) ?_ ?_ 0 () (Vw _) rfl
 ·intro _ h;rw[Yt]at h;simp (disch:=omega) only [E8,dF,← h];exact Aqb rfl
 ·intro j _ hj h next;rw[Co (d:=0) hj]at h;simp (disch:=omega) only [E8,dT,Vm,w64];unfold Hc at h;rw[D3b]at h;refine Awb (λ hc=>Aqb ?_) (λ hc=>next () ?_)
  ·rw[hc,Bool.true_or]at h;unfold Hc;rw[← h];rfl
  ·rw[hc,Dmb]at h;exact h
def Ij (l:List Dev) (id:Int):Option Dev:=l.find? (λ d=>d.1==id)
def Aob:Option Dev→Dev×Bool
 |some d=>(d,true)
 |none=>(Ju,false)
def J4a {l:List Dev} {id:Int} {d:Dev} (h:Ij l id=some d):d∈l∧d.1=id:=⟨Dgb h,eq_of_beq (List.find?_some (p:=λ d:Dev=>d.1==id) h)⟩
def Cba (l:List Dev) (id:Int) (hl:l.length≤1000000000):Tot (λ k=>Fh k l id) (λ r=>r=Aob (Ij l id)):=by
 unfold Fh
 refine Arb (Q:=λ r=>r=match Ij l id with|some d => .inl (true,d)|none => .inr (0,0,0)) ?_ (by rintro r rfl;cases Ij l id<;>exact Aqb rfl)
 refine Azb (L:=λ k i (_:Unit)=>Ey k id l (l.length:Int) i (0,0,0)) (Q:=λ r=>r=match Ij l id with|some d => .inl (true,d)|none => .inr (0,0,0)) l.length (λ j _=>Ij (l.drop j) id=Ij l id) ?_ ?_ 0 () (Vw _) rfl
 ·intro _ h;rw[Yt]at h;simp (disch:=omega) only [Ey,dF,← h];exact Aqb rfl
 ·intro j _ hj h next;rw[Co (d:=Ju) hj]at h;unfold Ij at h;rw[C0b]at h;simp (disch:=omega) only [Ey,dT,Vm,w64];refine Awb (λ hc=>Aqb ?_) (λ hc=>next () ?_)
  ·rw[show ((l.getD j Ju).1==id)=true from hc]at h;unfold Ij;rw[← h];rfl
  ·rw[show ((l.getD j Ju).1==id)=false from hc]at h;exact h
def Y9 (d:Dev):Bool:=inR d.1 0 20&&(inR d.2.1 0 20&&inR d.2.2 1 1000)
def A7a:Option Int→List Dev→Bool
 |_,[]=>true
 |none,d::l=>Y9 d&&A7a (some d.1) l
 |some q,d::l=>Y9 d&&(decide (q<d.1)&&A7a (some d.1) l)
def Gk (l:List Dev):Bool:=A7a none l&&inR (l.length:Int) 1 12
def J5a (l:List Dev):Nat→Option Int
 |0=>none
 |i+1=>some (l.getD i Ju).1
def Yy:∀ (p:Option Int) (l:List Dev),A7a p l=true↔l.Pairwise (λ a b=>a.1<b.1)∧(∀ d∈l,Y9 d=true)∧(∀ q,p=some q→∀ d∈l,q<d.1)
 |p,[]=>by cases p<;>simp[A7a]
 |none,d::l=>by
  simp only[A7a,Va,Yy (some d.1) l,Wd,Vk,forall_eq_or_imp,Vc];constructor
  ·rintro⟨h1,h2,h3,h4⟩;exact⟨⟨h4 _ rfl,h2⟩,⟨h1,h3⟩,λ q h=>by cases h⟩
  ·rintro⟨⟨h1,h2⟩,⟨h3,h4⟩,_⟩;exact⟨h3,h2,h4,λ q e=>by subst e;exact h1⟩
 |some q,d::l=>by
  simp only[A7a,Va,decide_eq_true_iff,Yy (some d.1) l,Wd,Vk,forall_eq_or_imp,Vc];constructor
  ·rintro⟨h1,hq,h2,h3,h4⟩;exact⟨⟨h4 _ rfl,h2⟩,⟨h1,h3⟩,λ q' e=>by subst e;exact⟨hq,λ x hx=>by have:=h4 _ rfl x hx;omega⟩⟩
  ·rintro⟨⟨h1,h2⟩,⟨h3,h4⟩,h5⟩;exact⟨h3,(h5 q rfl).1,h2,h4,λ q e=>by subst e;exact h1⟩
def Dl {l:List Dev}:Gk l=true↔l.Pairwise (λ a b=>a.1<b.1)∧(∀ d∈l,Y9 d=true)∧1≤l.length∧l.length≤12:=by
 unfold Gk;rw[Va,Yy,Fk];constructor
 ·rintro⟨⟨h1,h2,_⟩,h3,h4⟩;exact⟨h1,h2,by omega,by omega⟩
 ·rintro⟨h1,h2,h3,h4⟩;exact⟨⟨h1,h2,λ q h=>by cases h⟩,by omega,by omega⟩
def I5 {d:Dev}:Y9 d=true↔(0≤d.1∧d.1≤20)∧(0≤d.2.1∧d.2.1≤20)∧1≤d.2.2∧d.2.2≤1000:=by
 unfold Y9;rw[Va,Va,Fk,Fk,Fk]
def N9a {l:List Dev} {j:Nat} (hj:j<l.length):A7a (J5a l j) (l.drop j)=(Y9 (l.getD j Ju)&&((bif decide (0<j) then decide ((l.getD (j-1) Ju).1<(l.getD j Ju).1) else true)&&A7a (J5a l (j+1)) (l.drop (j+1)))):=by
 rw[Co (d:=Ju) hj]
 cases j with
 |zero=>simp[J5a,A7a]
 |succ j=>simp[J5a,A7a]
def Yz (l:List Dev) (hl:l.length≤1000000000):Tot (λ k=>Bv k l) (λ r=>r=Gk l):=by
 unfold Bv Gk;refine Arb (Q:=λ r=>r=bif A7a none l then .inr l else .inl false) ?_ ?_
 ·refine Azb (L:=λ k i (_:Unit)=>Dp k l l (l.length:Int) i) (Q:=λ r=>r=bif A7a none l then .inr l else .inl false) l.length (λ j _=>A7a (J5a l j) (l.drop j)=A7a none l) ?_ ?_ 0 () (Vw _) rfl
  ·intro _ h;rw[Yt]at h
   have:A7a none l=true:=by rw[← h];cases J5a l l.length<;>rfl
   simp (disch:=omega) only [Dp,dF,this];exact Aqb rfl
  ·intro j _ hj h next;rw[N9a hj]at h;simp (disch:=omega) only [Dp,dT,Vm,w64,My,Vt];have e0:l.getD j ((0:Int),((0:Int),(0:Int)))=l.getD j Ju:=rfl;rw[e0]
   have no:Y9 (l.getD j Ju)=false→A7a none l=false:=λ c=>by rw[← h,c];rfl
   unfold Y9 at no h;refine Awb (λ hc=>Aqb ?_) (λ h1=>Awb (λ hc=>Aqb ?_) (λ h2=>Awb (λ hc=>Aqb ?_) (λ h3=>?_)))
   ·rw[no (by rw[Wa]at hc;rw[hc];rfl)];rfl
   ·rw[no (by rw[Wa]at hc;rw[hc,Ze,Yn])];rfl
   ·rw[no (by rw[Wa]at hc;rw[hc,Yn,Yn])];rfl
   ·rw[Yg]at h1 h2 h3;rw[h1,h2,h3]at h;refine Axb (λ h0=>?_) (λ h0=>next () ?_)
    ·simp (disch:=omega) only [dT,w64,show toNat ((j:Int)-1)=j-1 by omega];rw[decide_eq_true (show 0<j by omega)]at h;refine Axb (λ hc=>Aqb ?_) (λ hc=>next () ?_)
     ·have hc':¬ ((l.getD (j-1) Ju).1<(l.getD j Ju).1):=by
       have:(l.getD (j-1) Ju).1≥(l.getD j Ju).1:=hc;omega
      rw[decide_eq_false hc']at h;rw[← h];rfl
     ·have hc':(l.getD (j-1) Ju).1<(l.getD j Ju).1:=by
       have:¬ ((l.getD (j-1) Ju).1≥(l.getD j Ju).1):=hc;omega
      rw[decide_eq_true hc']at h;exact h
    ·rw[decide_eq_false (show ¬ 0<j by omega)]at h;exact h
 ·rintro r rfl;cases A7a none l
  ·exact Aqb rfl
  simp only[cond_true,Ddb,My,Vt];exact Aqb rfl
def Eya (l:List Dev) (out:List Int) (id:Int):List Int:=match Ij l id with
 |some d=>bif Hc out d.2.1 then out else out++[d.2.1]
 |none=>out
def Dw (ids:List Int) (l:List Dev):List Int:=ids.foldl (Eya l) []
def Cca (l:List Dev) (out:List Int) (id:Int):(Eya l out id).length≤out.length+1:=by
 unfold Eya
 cases Ij l id with
 |none=>exact Blb _
 |some d=>
  simp only
  cases Hc out d.2.1 with
  |true=>exact Blb _
  |false=>rw[cond_false,Vi];exact Vv _
def Cda (l:List Dev):∀ (ids out:List Int),(ids.foldl (Eya l) out).length≤out.length+ids.length
 |[],out=>by simp
 |id::ids,out=>by
  have h1:=Cda l ids (Eya l out id);have h2:=Cca l out id;rw[Yx,Vh];omega
def Cea (ids:List Int) (l:List Dev) (hi:ids.length≤5000000) (hl:l.length≤5000000):Tot (λ k=>C3 k ids l) (λ r=>r=Dw ids l):=by
 unfold C3;refine Arb (Q:=λ r=>r=Dw ids l) ?_ (by rintro r rfl;exact Aqb rfl);refine Azb (L:=λ k i s=>Ce k l s ids (ids.length:Int) i) (Q:=λ r=>r=Dw ids l) ids.length (λ j s=>(ids.drop j).foldl (Eya l) s=Dw ids l∧s.length≤j) ?_ ?_ 0 [] (Vw _) ⟨rfl,Vv _⟩
 ·rintro s ⟨h,_⟩;rw[Yt]at h;simp (disch:=omega) only [Ce,dF];exact Aqb h
 ·rintro j s hj ⟨h,hs⟩ next;rw[Co (d:=0) hj,Yx]at h;simp (disch:=omega) only [Ce,dT,Vm,w64];have hz:=Cca l s (ids.getD j 0);refine B1b (Cba l (ids.getD j 0) (by omega)) ?_;unfold Eya at h hz
  cases hd:Ij l (ids.getD j 0) with
  |none=>
   rw[hd]at h;exact Asb rfl (next _ ⟨h,by omega⟩)
  |some d=>
   rw[hd]at h hz;refine Atb rfl (B1b (Oh s d.2.1 (by omega)) ?_);simp only at h hz
   cases hh:Hc s d.2.1 with
   |true=>
    rw[hh]at h;exact Asb rfl (next _ ⟨h,by omega⟩)
   |false=>
    rw[hh]at h hz;exact Atb rfl (Ayb (by simp only[Vh,Vs];omega) (next _ ⟨h,by rw[cond_false]at hz;exact Zv hz (by omega)⟩))

def Tl {l:List Int} {j:Nat} (hj:j<l.length) (h:(l.take j).Nodup) (hn:l.getD j 0∉l.take j):(l.take (j+1)).Nodup:=by
 rw[Wi hj,Wq];rw[Vb,Vg hj,Wp]at hn;exact⟨h,by simp,λ a ha b hb e=>by rw[Vp.1 hb]at e;subst e;exact hn ha⟩
def Naa {l:List Int} {j:Nat} (hj:j<l.length) (hn:l.getD j 0∈l.take j):¬ l.Nodup:=by
 intro h;have h1:(l.take (j+1)).Nodup:=h.sublist (Dib _ _);rw[Wi hj,Wq]at h1;rw[Vb,Vg hj,Wp]at hn;exact h1.2.2 _ hn _ (by simp) rfl
def Nba (l:List Int) (hl:l.length≤5000000):Tot (λ k=>Fa k l) (λ r=>r=decide l.Nodup):=by
 unfold Fa
 refine Arb (Q:=λ r=>r=bif decide l.Nodup then .inr () else .inl false) ?_ (by rintro r rfl;cases decide l.Nodup<;>exact Aqb rfl)
 refine Azb (L:=λ k i (_:Unit)=>F4 k l l (l.length:Int) i) (Q:=λ r=>r=bif decide l.Nodup then .inr () else .inl false) l.length (λ j _=>(l.take j).Nodup) ?_ ?_ 0 () (Vw _) (by simp)
 ·intro _ h;rw[Zf]at h;simp (disch:=omega) only [F4,dF,decide_eq_true h];exact Aqb rfl
 ·intro j _ hj h next;simp (disch:=omega) only [F4,dT,Vm,w64];refine B1b (Oh (l.take j) (l.getD j 0) (by rw[Vq];omega)) ?_;refine Awb (λ hc=>Aqb ?_) (λ hc=>next () (Tl hj h (λ c=>by rw[Hr.2 c]at hc;cases hc)));rw[decide_eq_false (Naa hj (Hr.1 hc))];rfl
def RBd (r:Rng):Prop:=r.2.length≤2000000∧∀ p∈r.2,p.length≤2000000
def Lb (l:List Dev) (n:Int) (p:List Int):Bool:=(decide p.Nodup&&((p.length:Int)==n))&&p.all λ id=>(Ij l id).isSome
def Ga (r:Rng) (l:List Dev):Bool:=Gk l&&(inR r.1 1 5&&(inR (r.2.length:Int) 1 64&&r.2.all (Lb l r.1)))
def C2 {r:Rng} {l:List Dev}:Ga r l=true↔Gk l=true∧(1≤r.1∧r.1≤5)∧(1≤r.2.length∧r.2.length≤64)∧∀ p∈r.2,p.Nodup∧(p.length:Int)=r.1∧∀ id∈p,∃ d,Ij l id=some d:=by
 unfold Ga Lb;simp only[Va,Fk,Yb,decide_eq_true_iff,beq_iff_eq,Zl];constructor
 ·rintro⟨h1,h2,⟨h3,h4⟩,h5⟩;exact⟨h1,h2,⟨by omega,by omega⟩,λ p hp=>⟨(h5 p hp).1.1,(h5 p hp).1.2,(h5 p hp).2⟩⟩
 ·rintro⟨h1,h2,⟨h3,h4⟩,h5⟩;exact⟨h1,h2,⟨by omega,by omega⟩,λ p hp=>⟨⟨(h5 p hp).1,(h5 p hp).2.1⟩,(h5 p hp).2.2⟩⟩
def M4 {r:Rng} {l:List Dev} (h:Ga r l=true):RBd r:=by
 obtain⟨_,h2,h3,h4⟩:=C2.1 h;exact⟨by omega,λ p hp=>by have:=(h4 p hp).2.1;omega⟩
def Raa (r:Rng) (l:List Dev) (hr:RBd r) (hl:l.length≤5000000):Tot (λ k=>Df k r l) (λ b=>b=Ga r l):=by
 unfold Df Ga;refine B1b (Yz l (by omega)) ?_;cases hd:Gk l
 ·exact Atb rfl (Aqb rfl)
 have hrl:=hr.1;simp only[Za,cond_false,My,Vt,Wf];cases inR r.1 1 5
 ·exact Atb rfl (Aqb rfl)
 refine Asb rfl ?_;cases inR (r.2.length:Int) 1 64
 ·exact Atb rfl (Aqb rfl)
 refine Asb rfl (Arb (Q:=λ b=>b=bif r.2.all (Lb l r.1) then .inr () else .inl false) ?_ (by rintro r' rfl;cases r.2.all (Lb l r.1)<;>exact Aqb rfl))
 refine Azb (L:=λ k i (_:Unit)=>Eb k l r.2 (r.2.length:Int) i r) (Q:=λ b=>b=bif r.2.all (Lb l r.1) then .inr () else .inl false) r.2.length (λ j _=>(r.2.drop j).all (Lb l r.1)=r.2.all (Lb l r.1)) ?_ ?_ 0 () (Vw _) rfl
 ·intro _ h;rw[Yt]at h;simp (disch:=omega) only [Eb,dF,← h];exact Aqb rfl
 ·intro j _ hj h next;rw[Co (d:=[]) hj,C3b]at h;have hp:=hr.2 _ (A3 (d:=[]) hj);simp (disch:=omega) only [Eb,dT,Vm,w64]
  have no:Lb l r.1 (r.2.getD j [])=false→r.2.all (Lb l r.1)=false:=λ c=>by rw[← h,c];rfl
  unfold Lb at no h;refine Awb (λ hc=>Aqb ?_) (λ h1=>Arb (Nba (r.2.getD j []) (by omega)) ?_)
  ·have hc':(((r.2.getD j []).length:Int)==r.1)=false:=by simpa using hc
   rw[show r.2.all (Lb l r.1)=false from no (by rw[hc',Yn,Ze])];rfl
  ·have h1':(((r.2.getD j []).length:Int)==r.1)=true:=by simpa using h1
   rintro b rfl;refine Awb (λ hc=>Aqb ?_) (λ h2=>?_)
   ·rw[show r.2.all (Lb l r.1)=false from no (by rw[Wa]at hc;rw[hc];rfl)];rfl
   ·rw[Yg]at h2;generalize r.2.getD j []=p at *;refine Arb (Q:=λ b=>b=bif p.all (λ id=>(Ij l id).isSome) then .inr (l,r.2,(r.2.length:Int),(j:Int),r) else .inl false) ?_ ?_
    ·refine Azb (L:=λ k i (_:Unit)=>Ea k l r.2 (r.2.length:Int) (j:Int) p (p.length:Int) i r) (Q:=λ b=>b=bif p.all (λ id=>(Ij l id).isSome) then .inr (l,r.2,(r.2.length:Int),(j:Int),r) else .inl false) p.length (λ m _=>(p.drop m).all (λ id=>(Ij l id).isSome)=p.all (λ id=>(Ij l id).isSome)) ?_ ?_ 0 () (Vw _) rfl
     ·intro _ h;rw[Yt]at h;simp (disch:=omega) only [Ea,dF,← h];exact Aqb rfl
     ·intro m _ hm h next;rw[Co (d:=0) hm,C3b]at h;simp (disch:=omega) only [Ea,dT,Vm,w64];refine B1b (Cba l (p.getD m 0) (by omega)) ?_
      cases hd:Ij l (p.getD m 0) with
      |none=>exact Atb rfl (Aqb (by rw[← h,hd];rfl))
      |some d=>exact Asb rfl (next () (by rw[hd]at h;exact h))
    ·rintro b rfl;cases hc:p.all (λ id=>(Ij l id).isSome)
     ·exact Aqb (by rw[show r.2.all (Lb l r.1)=false from no (by rw[hc,Yn])];rfl)
     simp (disch:=omega) only [cond_true,Ddb,w64];exact next () (by rw[h2,h1',hc]at h;exact h)
def Qz (l:List Int) (hl:l.length≤5000000):Dh l=some l:=by
 unfold Dh;rw[bT (by simp only[Vs];omega),Wl]
def Cfa (r:Rng) (hr:RBd r):Tot (λ k=>Cb k r) (λ x=>x=r):=by
 have hrl:=hr.1;unfold Cb;refine Arb (Q:=λ x=>x=((0,[]),r)) ?_ (by rintro x rfl;exact Aqb rfl);refine Azb (L:=λ k i s=>D0 k r.2 (r.2.length:Int) i (0,[]) (r.1,s)) (Q:=λ x=>x=((0,[]),r)) r.2.length (λ j s=>s=r.2.take j) ?_ ?_ 0 [] (Vw _) rfl
 ·rintro s rfl;simp (disch:=omega) only [D0,dF,Zf];exact Aqb rfl
 ·rintro j s hj rfl next;have hp:=hr.2 _ (A3 (d:=[]) hj);simp (disch:=omega) only [D0,dT,Vm,w64,Qz,Vt];refine Ayb (by simp only[Vq,Vh,Vs];omega) (next _ ?_);rw[Wi hj,Vb,Vg hj,Wp]
def cnt (id n x:Int):Int:=bif x==id then n+1 else n
def Eza (id n:Int) (p:List Int):Int:=p.foldl (cnt id) n
def H0 (r:Rng) (id:Int):Int:=r.2.foldl (Eza id) 0
def F0a (id:Int):∀ (p:List Int) (n:Int),n≤Eza id n p∧Eza id n p≤n+p.length
 |[],n=>by simp[Eza]
 |x::p,n=>by
  have h:=F0a id p (cnt id n x);unfold Eza at h ⊢
  have hc:n≤cnt id n x∧cnt id n x≤n+1:=by unfold cnt;cases x==id<;>simp<;>omega
  rw[Yx,Vh];omega
def Nca (id:Int) (m:Nat):∀ (ps:List (List Int)) (n:Int),(∀ p∈ps,p.length≤m)→n≤ps.foldl (Eza id) n∧ps.foldl (Eza id) n≤n+(m*ps.length:Nat)
 |[],n,_=>by simp
 |p::ps,n,h=>by
  have h1:=Nca id m ps (Eza id n p) (λ q hq=>h q (Vd _ hq));have h2:=F0a id p n;have h3:=h p Wo;rw[Yx,Vh,Nat.mul_succ];omega
def Cga {r:Rng} (hr:RBd r) (id:Int):0≤H0 r id∧H0 r id≤4000000000000:=by
 have h:=Nca id 2000000 r.2 0 hr.2;have h2:=hr.1;unfold H0;omega
def Rba (r:Rng) (id:Int) (hr:RBd r):Tot (λ k=>Fi k r id) (λ x=>x=H0 r id):=by
 have hrl:=hr.1;unfold Fi;refine Arb (Q:=λ x=>x=H0 r id) ?_ (by rintro x rfl;exact Aqb rfl);refine Azb (L:=λ k i s=>E9 k id s r.2 (r.2.length:Int) i) (Q:=λ x=>x=H0 r id) r.2.length (λ j s=>(r.2.drop j).foldl (Eza id) s=H0 r id∧0≤s∧s≤2000000*j) ?_ ?_ 0 0 (Vw _) ⟨rfl,by omega,by omega⟩
 ·rintro s ⟨h,_⟩;rw[Yt]at h;simp (disch:=omega) only [E9,dF];exact Aqb h
 ·rintro j s hj ⟨h,h0,h1⟩ next;rw[Co (d:=[]) hj,Yx]at h;have hp:=hr.2 _ (A3 (d:=[]) hj);have hc:=F0a id (r.2.getD j []) s;simp (disch:=omega) only [E9,dT,Vm];refine Arb (Q:=λ x=>x=(id,Eza id s (r.2.getD j []),r.2,(r.2.length:Int),(j:Int))) ?_ ?_
  ·generalize r.2.getD j []=p at *;refine Azb (L:=λ k i s=>Dq k id s r.2 (r.2.length:Int) (j:Int) p (p.length:Int) i) (Q:=λ x=>x=(id,Eza id s p,r.2,(r.2.length:Int),(j:Int))) p.length (λ m z=>Eza id z (p.drop m)=Eza id s p∧0≤z∧z≤2000000*j+m) ?_ ?_ 0 s (Vw _) ⟨rfl,h0,by omega⟩
   ·rintro z ⟨h,_⟩;rw[Yt]at h;simp (disch:=omega) only [Dq,dF];exact Aqb (by rw[← h];rfl)
   ·rintro m z hm ⟨h,z0,z1⟩ next;rw[Co (d:=0) hm]at h;simp (disch:=omega) only [Dq,dT,Vm,w64];have h':Eza id (cnt id z (p.getD m 0)) (p.drop (m+1))=Eza id s p:=h;unfold cnt at h';refine Awb (λ hc=>next _ ?_) (λ hc=>next _ ?_)
    ·rw[hc]at h';exact⟨h',by omega,by omega⟩
    ·rw[hc]at h';exact⟨h',by omega,by omega⟩
  ·rintro x rfl;simp (disch:=omega) only [w64];exact next _ ⟨h,by omega,by omega⟩

def Adb {a w:Int} (h0:0≤a) (h1:a≤4000000000001) (w0:0≤w) (w1:w≤1000) : -9223372036854775808≤a*w∧a*w≤9223372036854775807:=by
 have e1:=Int.mul_nonneg h0 w0;have e2:a*w≤4000000000001*1000:=Int.mul_le_mul h1 w1 w0 (by decide);omega
def Tm (r:Rng) (p zs:List Int) (a:Option (Dev×Bool)) (d:Dev):Option (Dev×Bool):=
 bif Hc p d.1 then a else match a with
 |none=>some (d,!(Hc zs d.2.1))
 |some (b,fr)=>bif (!(Hc zs d.2.1)&&!fr)||(((!(Hc zs d.2.1))==fr)&&decide ((H0 r d.1+1)*b.2.2<(H0 r b.1+1)*d.2.2)) then some (d,!(Hc zs d.2.1)) else some (b,fr)
def Oi (r:Rng) (p:List Int) (l:List Dev):Option (Dev×Bool):=l.foldl (Tm r p (Dw p l)) none
def Vr (r:Rng) (p:List Int) (l:List Dev):Int:=match Oi r p l with
 |some b=>b.1.1
 |none => -1
def H3a {r:Rng} {p zs:List Int} {l:List Dev} {a:Option (Dev×Bool)} {d:Dev} (ha:∀ b,a=some b→b.1∈l∧b.1.1∉p) (hd:d∈l):∀ b,Tm r p zs a d=some b→b.1∈l∧b.1.1∉p:=by
 intro b hb;unfold Tm at hb;cases hp:Hc p d.1
 case true=>rw[hp]at hb;exact ha b hb
 have hn:d.1∉p:=λ c=>by rw[Hr.2 c]at hp;cases hp
 rw[hp,cond_false]at hb
 cases a with
 |none=>cases hb;exact⟨hd,hn⟩
 |some c=>
  obtain⟨c,fr⟩:=c;simp only at hb
  cases hq:(!(Hc zs d.2.1)&&!fr)||(((!(Hc zs d.2.1))==fr)&&decide ((H0 r d.1+1)*c.2.2<(H0 r c.1+1)*d.2.2)) with
  |true=>rw[hq]at hb;cases hb;exact⟨hd,hn⟩
  |false=>rw[hq]at hb;cases hb;exact ha _ rfl
def H4a {r:Rng} {p zs:List Int} {l:List Dev}:∀ (m:List Dev) (a:Option (Dev×Bool)),(∀ b,a=some b→b.1∈l∧b.1.1∉p)→(∀ d∈m,d∈l)→∀ b,m.foldl (Tm r p zs) a=some b→b.1∈l∧b.1.1∉p
 |[],_,ha,_=>ha
 |d::m,_,ha,hm=>H4a m _ (H3a ha (hm d Wo)) (λ x hx=>hm x (Vd _ hx))
def H5a {r:Rng} {p:List Int} {l:List Dev} {b:Dev×Bool} (h:Oi r p l=some b):b.1∈l∧b.1.1∉p:=H4a l none (λ b h=>by cases h) (λ _ h=>h) b h
def J6a {r:Rng} {p zs:List Int} {a:Option (Dev×Bool)} {d:Dev} (h:a.isSome=true∨d.1∉p):(Tm r p zs a d).isSome=true:=by
 unfold Tm
 cases hp:Hc p d.1 with
 |true=>
  rcases h with h|h
  ·exact h
  ·exact absurd (Hr.1 hp) h
 |false=>
  cases a with
  |none=>rfl
  |some c=>
   obtain⟨c,fr⟩:=c;simp only[cond_false]
   cases (!(Hc zs d.2.1)&&!fr)||(((!(Hc zs d.2.1))==fr)&&decide ((H0 r d.1+1)*c.2.2<(H0 r c.1+1)*d.2.2))<;>rfl
def W0 {r:Rng} {p zs:List Int}:∀ (m:List Dev) (a:Option (Dev×Bool)),(a.isSome=true∨∃ d∈m,d.1∉p)→(m.foldl (Tm r p zs) a).isSome=true
 |[],a,h=>by
  rcases h with h|⟨d,h,_⟩
  ·exact h
  ·cases h
 |d::m,a,h=>by
  refine W0 m _ ?_
  by_cases hd:a.isSome=true∨d.1∉p
  ·exact .inl (J6a hd)
  ·rcases h with h|⟨x,hx,hn⟩
   ·exact absurd (.inl h) hd
   ·rcases Vk.1 hx with rfl|hx
    ·exact absurd (.inr hn) hd
    ·exact .inr ⟨x,hx,hn⟩
def Rca {r:Rng} {p:List Int} {l:List Dev} (h:∃ d∈l,d.1∉p):∃ d∈l,Vr r p l=d.1∧d.1∉p:=by
 obtain⟨b,hb⟩:=Zl.1 (W0 (r:=r) (zs:=Dw p l) l none (.inr h));obtain⟨h1,h2⟩:=H5a hb;exact⟨b.1,h1,by unfold Vr;rw[show Oi r p l=some b from hb],h2⟩
def J7a (r:Rng) (p:List Int) (l:List Dev):(Oi r p l=none∧Vr r p l = -1)∨∃ b,Oi r p l=some b∧Vr r p l=b.1.1∧b.1∈l∧b.1.1∉p:=by
 cases h:Oi r p l with
 |none=>exact .inl ⟨rfl,by unfold Vr;rw[h]⟩
 |some b=>exact .inr ⟨b,rfl,by unfold Vr;rw[h],H5a h⟩
def Tn (p:List Int) (l:List Dev):(Dw p l).length≤p.length:=by
 have:=Cda l p [];rwa [Vs,Wg]at this
def bs (r:Rng):Option (Dev×Bool)→Int×Bool×Dev
 |some (b,fr)=>(H0 r b.1+1,fr,b)
 |none=>(0,false,-1,0,0)
def Rda (r:Rng) (p:List Int) (l:List Dev) (hr:RBd r) (hp:p.length≤2000000) (hl:Gk l=true):Tot (λ k=>G3 k r p l) (λ x=>x=Vr r p l):=by
 obtain⟨_,hdv,_,h12⟩:=Dl.1 hl;have hz:=Tn p l;unfold G3;refine B1b (Yz l (by omega)) ?_;refine Asb (by rw[hl];rfl) (B1b (Cea p l (by omega) (by omega)) ?_)
 refine Arb (Q:=λ x=>x=match Oi r p l with|some b=>b.1|none=>(-1,0,0)) ?_ (by rintro x rfl;unfold Vr;cases Oi r p l<;>exact Aqb rfl)
 refine Azb (L:=λ k i (s:Int×Bool×Dev)=>Ba k (Dw p l) s.1 s.2.1 l (l.length:Int) i r p s.2.2) (Q:=λ x=>x=match Oi r p l with|some b=>b.1|none=>(-1,0,0)) l.length
  (λ j s=>∃ a,s=bs r a∧(∀ b,a=some b→b.1∈l∧b.1.1∉p)∧(l.drop j).foldl (Tm r p (Dw p l)) a=Oi r p l) ?_ ?_ 0 (0,false,-1,0,0) (Vw _) ⟨none,rfl,λ b h=>(by cases h),rfl⟩
 ·rintro s ⟨a,rfl,_,h⟩;rw[Yt]at h;simp (disch:=omega) only [Ba,dF];refine Aqb ?_;rw[← h]
  cases a<;>rfl
 ·rintro j s hj ⟨a,rfl,ha,h⟩ next;rw[Co (d:=Ju) hj,Yx]at h;have hd:=A3 (d:=Ju) hj;obtain⟨d,ed⟩:∃ d:Dev,l.getD j Ju=d:=⟨_,rfl⟩;rw[ed]at h hd;have e0:l.getD j ((0:Int),((0:Int),(0:Int)))=d:=ed;have ha':=H3a (r:=r) (p:=p) (zs:=Dw p l) ha hd;obtain⟨_,_,w0,w1⟩:=I5.1 (hdv _ hd);have l1:=Cga hr d.1;simp (disch:=omega) only [Ba,dT,Vm,w64,e0];unfold Tm at h ha';refine B1b (Oh p d.1 (by omega)) ?_
  cases hp':Hc p d.1 with
  |true=>
   rw[hp']at h;exact Atb rfl (next _ ⟨a,rfl,ha,h⟩)
  |false=>
   rw[hp',cond_false]at h ha';refine Asb rfl (B1b (Rba r d.1 hr) ?_);refine B1b (Oh (Dw p l) d.2.1 (by omega)) ?_;simp (disch:=omega) only [w64];have take:(∀ b,some (d,!(Hc (Dw p l) d.2.1))=some b→b.1∈l∧b.1.1∉p)→(l.drop (j+1)).foldl (Tm r p (Dw p l)) (some (d,!(Hc (Dw p l) d.2.1)))=Oi r p l→Tot (λ k=>Ba k (Dw p l) (H0 r d.1+1) (!(Hc (Dw p l) d.2.1)) l (l.length:Int) ((j:Int)+1) r p d) (λ x=>x=match Oi r p l with|some b=>b.1|none=>(-1,0,0)):=λ h1 h2=>next (H0 r d.1+1,!(Hc (Dw p l) d.2.1),d) ⟨_,rfl,h1,h2⟩
   cases a with
   |none=>exact Aub (show (-1:Int)<0 by decide) (take ha' h)
   |some bf=>
    obtain⟨b,fr⟩:=bf;have hb:b∈l:=(ha _ rfl).1;obtain⟨⟨i0,_⟩,_,v0,v1⟩:=I5.1 (hdv _ hb);have l2:=Cga hr b.1;have m1:=Adb (a:=H0 r d.1+1) (w:=b.2.2) (by omega) (by omega) (by omega) v1;have m2:=Adb (a:=H0 r b.1+1) (w:=d.2.2) (by omega) (by omega) (by omega) w1;have stay:(l.drop (j+1)).foldl (Tm r p (Dw p l)) (some (b,fr))=Oi r p l→Tot (λ k=>Ba k (Dw p l) (H0 r b.1+1) fr l (l.length:Int) ((j:Int)+1) r p b) (λ x=>x=match Oi r p l with|some b=>b.1|none=>(-1,0,0)):=λ h2=>next (H0 r b.1+1,fr,b) ⟨some (b,fr),rfl,ha,h2⟩;refine Avb (by show ¬ b.1<0;omega) ?_;dsimp only at h ha';have eb:bs r (some (b,fr))=(H0 r b.1+1,fr,b):=rfl;simp only[eb,w64 m1.1 m1.2,w64 m2.1 m2.2]
    have cmp:∀ {z:Bool},Hc (Dw p l) d.2.1=z→((!z)==fr)=true→(!z&&!fr)=false→Tot (λ k=>cond (decide ((H0 r d.1+1)*b.2.2<(H0 r b.1+1)*d.2.2)) (Ba k (Dw p l) (H0 r d.1+1) (!(Hc (Dw p l) d.2.1)) l (l.length:Int) ((j:Int)+1) r p d) (Ba k (Dw p l) (H0 r b.1+1) fr l (l.length:Int) ((j:Int)+1) r p b)) (λ x=>x=match Oi r p l with|some b=>b.1|none=>(-1,0,0)):=by
     intro z hz e1 e2;rw[hz]at h ha' take ⊢;rw[e1,e2,Dmb,Wf]at h ha';refine Awb (λ hc=>?_) (λ hc=>?_)
     ·rw[hc]at h ha';exact take ha' h
     ·rw[hc]at h;exact stay h
    cases hz:Hc (Dw p l) d.2.1 with
    |false=>
     have cm:=cmp hz;rw[hz]at h ha' take cm
     cases fr with
     |false=>exact Atb rfl (Atb rfl (take ha' h))
     |true=>exact Atb rfl (Asb rfl (Atb rfl (cm rfl rfl)))
    |true=>
     have cm:=cmp hz;rw[hz]at h ha' take cm
     cases fr with
     |false=>exact Asb rfl (Atb rfl (cm rfl rfl))
     |true=>exact Asb rfl (Asb rfl (stay h))

def Nda {l:List Dev} (h:Gk l=true) {d:Dev} (hd:d∈l):Ij l d.1=some d:=by
 have hp:=(Dl.1 h).1;clear h
 induction l with
 |nil=>cases hd
 |cons x l ih=>
  obtain⟨h1,h2⟩:=Wd.1 hp;unfold Ij;rw[C0b];rcases Vk.1 hd with rfl|hd
  ·rw[beq_self_eq_true]
  ·have:=h1 d hd;rw[show (x.1==d.1)=false from beq_eq_false_iff_ne.2 (by omega)];exact ih hd h2
def Tia:∀ (p:List Int) (l:List Dev),l.Pairwise (λ a b=>a.1<b.1)→p.length<l.length→∃ d∈l,d.1∉p
 |p,[],_,h=>by simp at h
 |p,d::l,hl,h=>by
  obtain⟨h1,h2⟩:=Wd.1 hl
  by_cases hd:d.1∈p
  ·have hlen:(p.erase d.1).length=p.length-1:=Chb hd;have hpos:=B6b hd;rw[Vh]at h;obtain⟨x,hx,hn⟩:=Tia (p.erase d.1) l h2 (by omega);refine⟨x,Vd _ hx,λ c=>hn ?_⟩;have:=h1 x hx;exact(D2b (by omega)).2 c
  ·exact⟨d,Wo,hd⟩
def J8a (l:List Dev) (n:Nat) (p:List Int):Prop:=p.Nodup∧p.length=n∧∀ id∈p,∃ d,Ij l id=some d
def Nea {r:Rng} {l:List Dev} {n:Nat} {p:List Int} (hl:Gk l=true) (h:J8a l n p) (hn:n<l.length):J8a l (n+1) (p++[Vr r p l]):=by
 obtain⟨h1,h2,h3⟩:=h;obtain⟨d,hd,e,hne⟩:=Rca (r:=r) (Tia p l (Dl.1 hl).1 (by omega));rw[e];refine⟨?_,by rw[Vi];simp[h2],λ id hid=>?_⟩
 ·rw[Wq];exact⟨h1,by simp,λ a ha b hb c=>by rw[Vp.1 hb]at c;subst c;exact hne ha⟩
 ·rcases Vl.1 hid with hid|hid
  ·exact h3 id hid
  ·rw[Vp.1 hid];exact⟨d,Nda hl hd⟩
def Cha (l:List Dev) (reps:Int) (ps:List (List Int)):Nat→List Int→List Int
 |0,p=>p
 |n+1,p=>Cha l reps ps n (p++[Vr (reps,ps++[p]) p l])
def Jva (l:List Dev) (reps:Int):Nat→List (List Int)→List (List Int)
 |0,ps=>ps
 |n+1,ps=>Jva l reps n (ps++[Cha l reps ps reps.toNat []])
def build (l:List Dev) (parts reps:Int):Rng×Bool:=bif Gk l&&(inR parts 1 64&&(inR reps 1 5&&!(decide (reps > (l.length:Int))))) then ((reps,Jva l reps parts.toNat []),true) else ((0,[]),false)
def H6a {l:List Dev} {reps:Int} {ps:List (List Int)} (hl:Gk l=true):∀ (n m:Nat) (p:List Int),J8a l m p→m+n≤l.length→J8a l (m+n) (Cha l reps ps n p)
 |0,_,_,h,_=>h
 |n+1,m,p,h,hm=>by
  have:=H6a (reps:=reps) (ps:=ps) hl n (m+1) _ (Nea (r:=(reps,ps++[p])) hl h (by omega)) (by omega);rwa [show m+1+n=m+(n+1) by omega]at this
def Nfa {l:List Dev} {reps:Int} (hl:Gk l=true) (hr:reps≤(l.length:Int)):∀ (n:Nat) (ps:List (List Int)),(∀ p∈ps,J8a l reps.toNat p)→(Jva l reps n ps).length=ps.length+n∧∀ p∈Jva l reps n ps,J8a l reps.toNat p
 |0,ps,h=>⟨rfl,h⟩
 |n+1,ps,h=>by
  have hf:=H6a (reps:=reps) (ps:=ps) hl reps.toNat 0 [] ⟨E1b,rfl,λ _ h=>by cases h⟩ (by omega);rw[Wg]at hf
  obtain⟨h1,h2⟩:=Nfa hl hr n (ps++[Cha l reps ps reps.toNat []]) (λ p hp=>by
   rcases Vl.1 hp with hp|hp
   ·exact h p hp
   ·rw[Vp.1 hp];exact hf)
  refine⟨?_,h2⟩;show (Jva l reps n _).length=_;rw[h1,Vi];simp only[Vh,Vs];omega
def Rv {l:List Dev} {parts reps:Int} (h:(build l parts reps).2=true):Gk l=true∧Ga (build l parts reps).1 l=true∧(build l parts reps).1.1=reps∧((build l parts reps).1.2.length:Int)=parts:=by
 unfold build at h ⊢;cases hc:Gk l&&(inR parts 1 64&&(inR reps 1 5&&!(decide (reps > (l.length:Int)))))
 ·rw[hc]at h;cases h
 rw[Va,Va,Va,Wa,decide_eq_false_iff_not,Fk,Fk]at hc;obtain⟨h1,h2,h3,h4⟩:=hc;obtain⟨b1,b2⟩:=Nfa (reps:=reps) h1 (by omega) parts.toNat [] (λ p hp=>by cases hp);rw[Vs,Wg]at b1
 have b1':((Jva l reps parts.toNat []).length:Int)=parts:=by rw[b1];omega
 refine⟨h1,C2.2 ⟨h1,h3,⟨by show 1≤(Jva l reps parts.toNat []).length;omega,by show (Jva l reps parts.toNat []).length≤64;omega⟩,λ p hp=>?_⟩,rfl,b1'⟩;obtain⟨c1,c2,c3⟩:=b2 p hp;exact⟨c1,by rw[c2];show ((reps.toNat:Nat):Int)=reps;omega,c3⟩
def Cia {l:List Dev} {reps:Int} {ps:List (List Int)}:∀ (n:Nat) (p:List Int),(Cha l reps ps n p).length=p.length+n
 |0,_=>rfl
 |n+1,p=>by
  show (Cha l reps ps n _).length=_;rw[Cia n,Vi];simp only[Vh,Vs];omega
def Nga {α:Type} (l:List α) (x d:α):(l++[x]).getD l.length d=x:=by
 rw[Vb,Yd (Vv _),Ceb];rfl
def Rea {α:Type} (l:List α) (x y:α):(l++[x]).set l.length y=l++[y]:=by
 rw[Dvb _ _ (Vv _),Ceb];rfl

def H7a:∀ (p q:List Int),p.Nodup→(∀ x∈p,x∈q)→p.length≤q.length
 |[],_,_,_=>Vw _
 |x::p,q,h,hs=>by
  obtain⟨h1,h2⟩:=Yl.1 h;have hx:=hs x Wo;have hlen:(q.erase x).length=q.length-1:=Chb hx;have hpos:=B6b hx;have:=H7a p (q.erase x) h2 (λ y hy=>(D2b (λ c=>by subst c;exact h1 hy)).2 (hs y (Vd _ hy)));rw[Vh];omega
def hv (r:Rng) (l:List Dev) (b id:Int):Bool:=match Ij l b with
 |none=>false
 |some x=>match Ij l id with
  |none=>false
  |some d=>(d.2.1==x.2.1)&&decide (H0 r id-H0 r b≥2)
def A0b (r:Rng) (l:List Dev) (p:List Int) (b:Int):Option Nat:=p.findIdx? (hv r l b)
def rb1 (l:List Dev) (s:Int×Rng) (j:Nat):Int×Rng:=match A0b s.2 l (s.2.2.getD j []) (Vr s.2 (s.2.2.getD j []) l) with
 |none=>s
 |some i=>(s.1+1,(s.2.1,s.2.2.set j ((s.2.2.getD j []).set i (Vr s.2 (s.2.2.getD j []) l))))
def rbs (l:List Dev) (r:Rng) (n:Nat):Int×Rng:=(List.range n).foldl (rb1 l) (0,r)
def J9a (r:Rng) (l:List Dev):Rng×Int:=((rbs l r r.2.length).2,(rbs l r r.2.length).1)
def Rfa (l:List Dev) (r:Rng) (n:Nat):rbs l r (n+1)=rb1 l (rbs l r n) n:=by
 unfold rbs;rw[Dwb,Bsb];rfl
def Cja {r:Rng} {l:List Dev} {p:List Int} {i:Nat} (hl:Gk l=true) (h:A0b r l p (Vr r p l)=some i):i<p.length∧Vr r p l∉p∧0≤Vr r p l∧∃ d,Ij l (Vr r p l)=some d:=by
 obtain⟨h1,h2,_⟩:=Clb.1 h;refine⟨h1,?_⟩;unfold hv at h2
 cases hb:Ij l (Vr r p l) with
 |none=>rw[hb]at h2;cases h2
 |some d=>
  obtain⟨hd,he⟩:=J4a hb;obtain⟨⟨i0,_⟩,_⟩:=I5.1 ((Dl.1 hl).2.1 _ hd);refine⟨?_,by omega,d,rfl⟩;rcases J7a r p l with⟨_,e⟩|⟨b,_,e,_,hn⟩
  ·omega
  ·rw[e];exact hn
def Nha {p:List Int} {b:Int} (h:p.Nodup) (hb:b∉p) (i:Nat):(p.set i b).Nodup:=by
 induction p generalizing i with
 |nil=>exact h
 |cons x p ih=>
  obtain⟨h1,h2⟩:=Yl.1 h
  cases i with
  |zero=>exact Yl.2 ⟨λ c=>hb (Vd _ c),h2⟩
  |succ i=>
   refine Yl.2 ⟨λ c=>?_,ih h2 (λ c=>hb (Vd _ c)) i⟩;rcases Yw c with c|c
   ·exact h1 c
   ·exact hb (c ▸ Wo)
def Yja {l:List Dev} {s:Int×Rng} {j:Nat} (hj:j<s.2.2.length) (h:Ga s.2 l=true):Ga (rb1 l s j).2 l=true∧(rb1 l s j).2.1=s.2.1∧(rb1 l s j).2.2.length=s.2.2.length∧s.1≤(rb1 l s j).1∧(rb1 l s j).1≤s.1+1:=by
 unfold rb1;obtain⟨h1,h2,h3,h4⟩:=C2.1 h
 cases hx:A0b s.2 l (s.2.2.getD j []) (Vr s.2 (s.2.2.getD j []) l) with
 |none=>exact⟨h,rfl,rfl,by dsimp only;omega,by dsimp only;omega⟩
 |some i=>
  obtain⟨b1,b2,_,b3⟩:=Cja h1 hx;obtain⟨q1,q2,q3⟩:=h4 _ (A3 (d:=[]) hj);refine⟨C2.2 ⟨h1,h2,by dsimp only;rw[List.length_set];exact h3,λ p hp=>?_⟩,rfl,by dsimp only;rw[List.length_set],by dsimp only;omega,by dsimp only;omega⟩;rcases List.mem_or_eq_of_mem_set hp with hp|hp
  ·exact h4 p hp
  ·subst hp;refine⟨Nha q1 b2 i,by rw[Vu];exact q2,λ id hid=>?_⟩;rcases Yw hid with hid|hid
   ·exact q3 id hid
   ·rw[hid];exact b3
def Tja {l:List Dev} {r:Rng} (h:Ga r l=true):∀ (n:Nat),n≤r.2.length→Ga (rbs l r n).2 l=true∧(rbs l r n).2.1=r.1∧(rbs l r n).2.2.length=r.2.length∧0≤(rbs l r n).1∧(rbs l r n).1≤n
 |0,_=>⟨h,rfl,rfl,Zza _,Zza _⟩
 |n+1,hn=>by
  obtain⟨h1,h2,h3,h4,h5⟩:=Tja h n (by omega);obtain⟨g1,g2,g3,g4,g5⟩:=Yja (j:=n) (by omega) h1;rw[Rfa];exact⟨g1,by rw[g2,h2],by rw[g3,h3],by omega,by omega⟩
def H8a {r:Rng} {l:List Dev} (h:Ga r l=true):Ga (J9a r l).1 l=true∧(J9a r l).1.1=r.1∧(J9a r l).1.2.length=r.2.length∧0≤(J9a r l).2:=by
 obtain⟨h1,h2,h3,h4,_⟩:=Tja h r.2.length (Vv _);exact⟨h1,h2,h3,h4⟩
def wgt (l:List Dev) (i:Nat) (w:Int):List Dev:=l.set i ((l.getD i Ju).1,(l.getD i Ju).2.1,w)
def Z0 (l:List Dev) (i:Nat) (w:Int):(wgt l i w).map (·.1)=l.map (·.1):=by
 unfold wgt;rw[E3b]
 by_cases hi:i<l.length
 ·have:(l.getD i Ju).1=(l.map (·.1)).getD i 0:=by
   simp only[Vb,Zw,Vg hi,Cib,Wp]
  rw[this,Vb,Vg (by simpa using hi),Wp];exact Dxb _
 ·rw[List.set_eq_of_length_le (by simpa using hi)]
def Kd {l:List Dev} {id:Int}:(∃ d,Ij l id=some d)↔id∈l.map (·.1):=by
 unfold Ij;rw[← Zl,List.find?_isSome,Ys];exact⟨λ ⟨x,h,e⟩=>⟨x,h,eq_of_beq e⟩,λ ⟨x,h,e⟩=>⟨x,h,beq_iff_eq.2 e⟩⟩
def Yka {l:List Dev} {i:Nat} {w:Int} (h:Gk l=true) (hi:i<l.length) (h1:1≤w) (h2:w≤1000):Gk (wgt l i w)=true:=by
 obtain⟨g1,g2,g3,g4⟩:=Dl.1 h;refine Dl.2 ⟨?_,λ d hd=>?_,?_⟩
 ·have e:(l.map (·.1)).Pairwise (· < ·):=Zi.2 g1;rw[← Z0 l i w]at e;exact Zi.1 e
 ·rcases Yw hd with hd|hd
  ·exact g2 d hd
  ·obtain⟨e1,e2,_⟩:=I5.1 (g2 _ (A3 (d:=Ju) hi));subst hd;exact I5.2 ⟨e1,e2,h1,h2⟩
 ·unfold wgt;rw[Vu];exact⟨g3,g4⟩
def H9a {r:Rng} {l:List Dev} {i:Nat} {w:Int} (h:Ga r l=true) (hi:i<l.length) (h1:1≤w) (h2:w≤1000):Ga r (wgt l i w)=true:=by
 obtain⟨g1,g2,g3,g4⟩:=C2.1 h;refine C2.2 ⟨Yka g1 hi h1 h2,g2,g3,λ p hp=>?_⟩;obtain⟨q1,q2,q3⟩:=g4 p hp;exact⟨q1,q2,λ id hid=>by rw[Kd,Z0,← Kd];exact q3 id hid⟩

def Nia (x:BitVec 32):(cst x).getLsbD 31=x.getLsbD 0:=by
 have h0:(x >>> 1).getLsbD 31=false:=by
  rw[D9b];exact BitVec.getLsbD_of_ge _ _ (by decide)
 unfold cst
 cases h:x.getLsbD 0 with
 |true=>
  rw[if_pos rfl,BitVec.getLsbD_xor,h0]
  decide
 |false=>
  rw[if_neg (by simp),h0]
def Qm {n:Nat} {x y c:BitVec n} (h:x ^^^ c=y ^^^ c):x=y:=by
 have:=congrArg (λ z=>z ^^^ c) h
 simpa[BitVec.xor_assoc] using this
def Vqa {x y:BitVec 32} (h:cst x=cst y):x=y:=by
 have h0:x.getLsbD 0=y.getLsbD 0:=by rw[← Nia,← Nia,h]
 have h1:x >>> 1=y >>> 1:=by
  unfold cst at h;rw[h0]at h
  cases hb:y.getLsbD 0 with
  |true=>rw[hb,if_pos rfl,if_pos rfl]at h;exact Qm h
  |false=>rw[hb,if_neg (by simp),if_neg (by simp)]at h;exact h
 refine BitVec.eq_of_getLsbD_eq λ i hi=>?_
 cases i with
 |zero=>exact h0
 |succ i=>
  have:=congrArg (λ z=>z.getLsbD i) h1
  simpa[D9b,B4b] using this
def Tp:∀ (n:Nat) {x y:BitVec 32},Epa n x=Epa n y→x=y
 |0,_,_,h=>h
 |n+1,_,_,h=>Vqa (Tp n h)
def Vra {x y:BitVec 32} {b:Int} (h:cby x b=cby y b):x=y:=Qm (Tp 8 h)
def Rga {x:BitVec 32} {a b:Int} (ha:0≤a∧a≤255) (hb:0≤b∧b≤255) (h:cby x a=cby x b):a=b:=by
 have h1:x ^^^ ofInt 32 a=x ^^^ ofInt 32 b:=Tp 8 h;rw[Dtb,Dtb x]at h1;have h2:=Qm h1;rw[T9a ha,T9a hb,h2]
def Haa:∀ (l:List Int) {x y:BitVec 32},l.foldl cby x=l.foldl cby y→x=y
 |[],_,_,h=>h
 |_::l,_,_,h=>Vra (Haa l h)
def Tka (l:List Int):0≤crc l∧crc l≤4294967295:=by
 unfold crc;have:=(Wwa l).isLt;omega
def Vsa {l:List Int} {i:Nat} {y:Int} (hi:i<l.length) (hy:0≤y∧y≤255) (hb:Av l) (hne:y≠l.getD i 0):crc (l.set i y)≠crc l:=by
 intro h;have h1:Wwa (l.set i y)=Wwa l:=Dub (by unfold crc at h;omega);unfold Wwa at h1;have h2:=BitVec.not_inj.1 h1
 have e1:l.set i y=l.take i++y::l.drop (i+1):=by rw[Bib,if_pos hi]
 have e2:l=l.take i++l.getD i 0::l.drop (i+1):=by
  conv => { lhs;rw[← Wh i l] }
  rw[Co (d:=0) hi]
 rw[e1,Bsb,Yx]at h2;rw[e2]at h2;rw[Bsb,Yx]at h2
 have e3:(l.take i++l.getD i 0::l.drop (i+1)).take i=l.take i:=by rw[← e2]
 have e4:(l.take i++l.getD i 0::l.drop (i+1)).drop (i+1)=l.drop (i+1):=by rw[← e2]
 rw[e3,e4]at h2;exact hne (Rga hy (hb _ (A3 hi)) (Haa _ h2))
def Yla {a b:Int} (ha:0≤a∧a≤4294967295) (hb:0≤b∧b≤4294967295) (h:c4 a=c4 b):a=b:=by
 have e:∀ c:Int,0≤c→c4 c=[c/16777216 % 256,c/65536 % 256,c/256 % 256,c % 256]:=λ c hc=>by
  unfold c4
  rw[show (2:Int) ^ (min (toNat 24) (IntKind.bits .i64))=16777216 from by decide,show (2:Int) ^ (min (toNat 16) (IntKind.bits .i64))=65536 from by decide,show (2:Int) ^ (min (toNat 8) (IntKind.bits .i64))=256 from by decide,
   Bfb _ (by omega),Bfb _ (by omega),Bfb _ (by omega),Ckb,Ckb,Ckb,Ckb]
 rw[e a ha.1,e b hb.1]at h;simp only[Yh,and_true]at h;omega
def Jaa {l m:List Int} {j:Nat} (h:j<l.length):(l++m).getD j 0=l.getD j 0:=by rw[Vb,Vb,Yj h]
def Jba {l m:List Int} {j:Nat} (h:l.length≤j):(l++m).getD j 0=m.getD (j-l.length) 0:=by rw[Vb,Vb,Yd h]
def Rha {f:Fil} (hf:De f=true) {n:Nat} (hn:n<8*(Gc f).length):Je (Js (Gc f) n)=none:=by
 cases hg:Je (Js (Gc f) n) with
 |none=>rfl
 |some g=>
  exfalso;obtain⟨g1,_,g3⟩:=Y5 hg;have hpb:=Ql f
  have hj:n/8<(Gc f).length:=by omega
  have hy:=H2a ((Gc f).getD (n/8) 0) (n % 8);have hne:=R5a (hpb _ (A3 (d:=0) hj)) (Nat.mod_lt n (show 0<8 by omega));unfold Js at g3;generalize Eta ((Gc f).getD (n/8) 0) (n % 8)=y at g3 hy hne;generalize n/8=j at g3 hj hne
  have ef:Gc f=M0 f++c4 (crc (M0 f)):=by unfold Gc;rw[hf];rfl
  have eg:Gc g=M0 g++c4 (crc (M0 g)):=by unfold Gc;rw[g1];rfl
  have l4:∀ c,(c4 c).length=4:=λ c=>rfl;rw[eg]at g3;rw[ef]at g3 hj hne
  have hlen:(M0 g).length=(M0 f).length:=by
   have:=congrArg length g3;rw[Vu,Vi,Vi,l4,l4]at this;omega
  by_cases hjb:j<(M0 f).length
  ·rw[List.set_append_left _ _ hjb]at g3;obtain⟨a1,a2⟩:=List.append_inj g3 (by rw[Vu];exact hlen);rw[Jaa hjb]at hne;have:=Yla (Tka _) (Tka _) a2;rw[a1]at this;exact Vsa hjb hy (Og f) hne this
  ·rw[Dvb _ _ (by omega)]at g3;obtain⟨a1,a2⟩:=List.append_inj g3 hlen;rw[a1]at a2;rw[Jba (by omega)]at hne;rw[Vi,l4]at hj
   have:(c4 (crc (M0 f))).getD (j-(M0 f).length) 0=y:=by
    rw[a2,Vb,Bwb (by rw[l4];omega),Wp]
   exact hne this.symm

def Nja (l:List Nmd) (ns:List ByteArray):List ByteArray:=l.foldl (λ ns x=>wt ns x.1) ns
def nms (d:Dsk):List ByteArray:=Nja (d.1++d.2) []
def pk1:Option Nmd→List Nmd
 |some x=>[x]
 |none=>[]
def W1 (kp:List Bool) (a b:List Nmd):List ByteArray→Nat→List Nmd
 |[],_=>[]
 |s::ns,i=>pk1 (pk (bif kp.getD i false then a else b) s)++W1 kp a b ns (i+1)
def Re (d:Dsk) (kp:List Bool):Dsk:=bif decide ((W1 kp d.1 d.2 (nms d) 0).length > 60) then d else (W1 kp d.1 d.2 (nms d) 0,W1 kp d.1 d.2 (nms d) 0)
def Hba:∀ (l:List Nmd) (ns:List ByteArray),TS ns→TS (Nja l ns)
 |[],_,h=>h
 |_::l,_,h=>Hba l _ (N0a h)
def Cka:∀ (l:List Nmd) (ns:List ByteArray) (t:ByteArray),t∈Nja l ns↔(∃ x∈l,x.1=t)∨t∈ns
 |[],ns,t=>by simp[Nja]
 |x::l,ns,t=>by
  show t∈Nja l (wt ns x.1)↔_;rw[Cka l,T7a];simp only[Vk,exists_eq_or_imp];constructor
  ·rintro (h|rfl|h)
   ·exact .inl (.inr h)
   ·exact .inl (.inl rfl)
   ·exact .inr h
  ·rintro ((h|h)|h)
   ·exact .inr (.inl h.symm)
   ·exact .inl h
   ·exact .inr (.inr h)
def Tla (d:Dsk):TS (nms d):=Hba _ _ List.Pairwise.nil
def Vta {d:Dsk} {t:ByteArray}:t∈nms d↔(gt d.1 t).isSome=true∨(gt d.2 t).isSome=true:=by
 have h:∀ l:List Nmd,(gt l t).isSome=true↔∃ x∈l,x.1=t:=λ l=>by
  cases hg:gt l t with
  |none=>
   constructor
   ·intro h;cases h
   ·rintro⟨x,hx,e⟩;exact absurd e (Jr.1 hg x hx)
  |some b=>simp only[Option.isSome_some,true_iff];exact⟨_,Jf hg,rfl⟩
 unfold nms;rw[Cka,h,h];simp only[Vl,C8b,or_false];constructor
 ·rintro⟨x,h1|h1,h2⟩
  ·exact .inl ⟨x,h1,h2⟩
  ·exact .inr ⟨x,h1,h2⟩
 ·rintro (⟨x,h1,h2⟩|⟨x,h1,h2⟩)
  ·exact⟨x,.inl h1,h2⟩
  ·exact⟨x,.inr h1,h2⟩
def Vua (l:List Nmd) (s:ByteArray):pk l s=(gt l s).map λ b=>(s,b):=by
 unfold pk gt
 cases h:fnd l s with
 |none=>rfl
 |some i=>rw[Cib,← (Qw h).2]
def Tq (kp:List Bool) (a b:List Nmd):∀ (ns:List ByteArray) (i:Nat),((W1 kp a b ns i).map Prod.fst).Sublist ns
 |[],_=>List.Sublist.slnil
 |s::ns,i=>by
  unfold W1;rw[Vua]
  cases gt (bif kp.getD i false then a else b) s with
  |none=>exact(Tq kp a b ns (i+1)).cons s
  |some c=>exact(Tq kp a b ns (i+1)).cons_cons s
def Jca {kp:List Bool} {a b:List Nmd} {ns:List ByteArray} {i:Nat} (h:TS ns):Ct (W1 kp a b ns i):=by
 have:=Cub (Tq kp a b ns i) h;rwa [Zi]at this
def Nka {kp:List Bool} {a b:List Nmd}:∀ {ns:List ByteArray} {i:Nat} {x:Nmd},x∈W1 kp a b ns i→gt a x.1=some x.2∨gt b x.1=some x.2
 |[],_,_,h=>by cases h
 |s::ns,i,x,h=>by
  unfold W1 at h;rw[Vua]at h;rcases Vl.1 h with h|h
  ·cases hg:gt (bif kp.getD i false then a else b) s with
   |none=>rw[hg]at h;cases h
   |some c=>
    rw[hg]at h;rw[Vp.1 h]
    cases hk:kp.getD i false with
    |true=>rw[hk]at hg;exact .inl hg
    |false=>rw[hk]at hg;exact .inr hg
  ·exact Nka h
def Tma {kp:List Bool} {a b:List Nmd} {t:ByteArray}:∀ {ns:List ByteArray} {i:Nat},TS ns→t∈ns→∃ j,i≤j∧gt (W1 kp a b ns i) t=gt (bif kp.getD j false then a else b) t
 |[],_,_,h=>by cases h
 |s::ns,i,hs,h=>by
  obtain⟨h1,h2⟩:=Wd.1 hs
  have hn:∀ j,gt (W1 kp a b ns j) s=none:=λ j=>Jr.2 λ x hx e=>by
   have:=h1 x.1 ((Tq kp a b ns j).subset (Ye hx));rw[e,Eu]at this;cases this
  unfold W1;rw[Vua];rcases Vk.1 h with rfl|h
  ·refine⟨i,Vv _,?_⟩
   cases hg:gt (bif kp.getD i false then a else b) t with
   |none=>exact hn _
   |some c=>
    show gt ((t,c)::W1 kp a b ns (i+1)) t=_;rw[Tj,if_pos rfl]
  ·obtain⟨j,hj,e⟩:=Tma (kp:=kp) (a:=a) (b:=b) (i:=i+1) h2 h;refine⟨j,by omega,?_⟩;rw[← e]
   have hst:s≠t:=λ e=>by
    have:=h1 t h;rw[e,Eu]at this;cases this
   cases gt (bif kp.getD i false then a else b) s with
   |none=>rfl
   |some c=>
    show gt ((s,c)::W1 kp a b ns (i+1)) t=_;rw[Tj,if_neg hst]
def Vva {d:Dsk} {kp:List Bool} (h:DG d):DG (Re d kp):=by
 unfold Re;cases hc:decide ((W1 kp d.1 d.2 (nms d) 0).length > 60)
 case true=>exact h
 have hl:=of_decide_eq_false hc;have n1:=(B3.1 (Dv.1 h.1).1).2.1;have n2:=(B3.1 (Dv.1 h.1).2).2.1;have q:Gb (W1 kp d.1 d.2 (nms d) 0)=true:=B3.2 ⟨Jca (Tla d),λ x hx=>(Nka hx).elim (λ e=>n1 _ (Jf e)) (λ e=>n2 _ (Jf e)),by omega⟩;have b:LB (W1 kp d.1 d.2 (nms d) 0):=λ x hx=>(Nka hx).elim (λ e=>h.2.1.gt e) (λ e=>h.2.2.gt e);exact⟨Dv.2 ⟨q,q⟩,b,b⟩
def Nla {d:Dsk} {kp:List Bool} (t:ByteArray):Re d kp=d∨((Re d kp).2=(Re d kp).1∧(gt (Re d kp).1 t=gt d.1 t∨gt (Re d kp).1 t=gt d.2 t)):=by
 unfold Re;cases hc:decide ((W1 kp d.1 d.2 (nms d) 0).length > 60)
 case true=>exact .inl rfl
 refine .inr ⟨rfl,?_⟩;show gt (W1 kp d.1 d.2 (nms d) 0) t=_∨gt (W1 kp d.1 d.2 (nms d) 0) t=_
 by_cases ht:t∈nms d
 ·obtain⟨j,_,e⟩:=Tma (kp:=kp) (a:=d.1) (b:=d.2) (i:=0) (Tla d) ht;rw[e]
  cases kp.getD j false with
  |true=>exact .inl rfl
  |false=>exact .inr rfl
 ·have h1:gt d.1 t=none:=by
   cases hg:gt d.1 t with
   |none=>rfl
   |some b=>exact absurd (Vta.2 (.inl (by rw[hg];rfl))) ht
  left;rw[h1];exact Jr.2 λ x hx e=>ht (by rw[← e];exact(Tq _ _ _ _ _).subset (Ye hx))

def clS (o:Dsk×Int) (x:Nmd):Dsk×Int:=match Je x.2 with
 |some _=>o
 |none=>((cut o.1.1 x.1,cut o.1.2 x.1),o.2+1)
def It (d:Dsk):Dsk×Int:=d.1.foldl clS (d,0)
def Yma {d:Dsk} {s:ByteArray} (h:DG d):DG (cut d.1 s,cut d.2 s):=⟨Dv.2 ⟨Qy (Dv.1 h.1).1,Qy (Dv.1 h.1).2⟩,h.2.1.cut s,h.2.2.cut s⟩
def Vwa {o:Dsk×Int} {x:Nmd} (h:DG o.1):DG (clS o x).1:=by
 unfold clS
 cases Je x.2 with
 |some _=>exact h
 |none=>exact Yma h
def Hca:∀ (l:List Nmd) (o:Dsk×Int),DG o.1→DG (l.foldl clS o).1
 |[],_,h=>h
 |_::l,_,h=>Hca l _ (Vwa h)
def Ria {d:Dsk} (h:DG d):DG (It d).1:=Hca _ _ h
def Z1 (l:List Nmd):List ByteArray:=(l.filter λ x=>(Je x.2).isNone).map Prod.fst
def Oj:∀ (l:List Nmd) (o:Dsk×Int),DG o.1→((l.foldl clS o).2=o.2+((Z1 l).length:Int))∧∀ t,(t∈Z1 l→gt (l.foldl clS o).1.1 t=none∧gt (l.foldl clS o).1.2 t=none)∧(t∉Z1 l→gt (l.foldl clS o).1.1 t=gt o.1.1 t∧gt (l.foldl clS o).1.2 t=gt o.1.2 t)
 |[],o,h=>⟨by simp[Z1],λ t=>⟨λ c=>by simp[Z1]at c,λ _=>⟨rfl,rfl⟩⟩⟩
 |x::l,o,h=>by
  obtain⟨h1,h2⟩:=Oj l (clS o x) (Vwa h);rw[Yx]
  cases hx:Je x.2 with
  |some f=>
   have e:Z1 (x::l)=Z1 l:=by unfold Z1;rw[B5b,hx];rfl
   have ec:clS o x=o:=by unfold clS;rw[hx]
   rw[e];rw[ec]at h1 h2 ⊢;exact⟨h1,h2⟩
  |none=>
   have e:Z1 (x::l)=x.1::Z1 l:=by unfold Z1;rw[B5b,hx];rfl
   have ec:clS o x=((cut o.1.1 x.1,cut o.1.2 x.1),o.2+1):=by unfold clS;rw[hx]
   rw[e];rw[ec]at h1 h2 ⊢;refine⟨by rw[h1,Vh];omega,λ t=>⟨λ ht=>?_,λ ht=>?_⟩⟩
   ·by_cases hb:t∈Z1 l
    ·exact(h2 t).1 hb
    ·obtain⟨a1,a2⟩:=(h2 t).2 hb
     have:x.1=t:=by
      rcases Vk.1 ht with e|e
      ·exact e.symm
      ·exact absurd e hb
     rw[a1,a2,Pl (H6 h.1),Pl (Kl h.1),if_pos this,if_pos this];exact⟨rfl,rfl⟩
   ·obtain⟨a1,a2⟩:=(h2 t).2 (λ c=>ht (Vd _ c));have:x.1≠t:=λ e=>ht (by rw[← e];exact Wo);rw[a1,a2,Pl (H6 h.1),Pl (Kl h.1),if_neg this,if_neg this];exact⟨rfl,rfl⟩
def Hda {d:Dsk} (hd:Bx d=true) {t:ByteArray}:t∈Z1 d.1↔∃ b,gt d.1 t=some b∧Je b=none:=by
 unfold Z1;rw[Ys];constructor
 ·rintro⟨x,hx,rfl⟩;obtain⟨h1,h2⟩:=Bcb.1 hx;exact⟨x.2,Era (H6 hd) h1,by simpa using h2⟩
 ·rintro⟨b,h1,h2⟩;exact⟨(t,b),Bcb.2 ⟨Jf h1,by simp[h2]⟩,rfl⟩
def Nma (d:Dsk) (hd:DG d):Tot (λ k=>Fb k d) (λ r=>r=It d):=by
 have hin:=Tg hd.1;have hl:=(B3.1 (Dv.1 hd.1).1).2.2;unfold Fb;refine B1b (Fu d hin.1.1) ?_;refine B1b (Nn d hin.1.1 hin.1.2) ?_;rw[hd.1];refine Asb rfl (Arb (Q:=λ r=>r=((It d).2,([],[]),(It d).1)) ?_ (by rintro r rfl;exact Aqb rfl));refine Azb (L:=λ k i (s:Dsk×Int)=>Ek k s.2 d.1 (d.1.length:Int) i ([],[]) s.1) (Q:=λ r=>r=((It d).2,([],[]),(It d).1)) d.1.length (λ j s=>(d.1.drop j).foldl clS s=It d∧DG s.1∧0≤s.2∧s.2≤j) ?_ ?_ 0 (d,0) (Vw _) ⟨rfl,hd,Zza 0,by simp⟩
 ·rintro s ⟨h,_⟩;rw[Yt]at h;simp (disch:=omega) only [Ek,dF];exact Aqb (by rw[← h];rfl)
 ·rintro j s hj ⟨h,hg,s0,s1⟩ next;rw[Co (d:=Il) hj,Yx]at h;have hsi:=Tg hg.1;have hx:=A3 (d:=Il) hj;simp (disch:=omega) only [Ek,dT,Vm,w64];have e0:d.1.getD j ((⟨#[]⟩:ByteArray),([]:List Int))=d.1.getD j Il:=rfl;rw[e0];refine B1b (M3 _ (hd.2.1 _ hx) (hin.1.1.1.2 _ hx)) ?_;have hcg:=Vwa (x:=d.1.getD j Il) hg;unfold clS at h hcg;unfold Y4
  cases hf:Je (d.1.getD j Il).2 with
  |some f=>
   rw[hf]at h;exact Asb rfl (next _ ⟨h,hg,s0,by omega⟩)
  |none=>
   rw[hf]at h hcg;refine Atb rfl (B1b (Pk s.1.1 _ hsi.1.1.1.1) ?_);refine B1b (Pk s.1.2 _ hsi.1.1.2.1) ?_;rw[N0 (H6 hg.1),N0 (Kl hg.1)];exact next ((cut s.1.1 (d.1.getD j Il).1,cut s.1.2 (d.1.getD j Il).1),s.2+1) ⟨h,hcg,by dsimp only;omega,by dsimp only;omega⟩

def Vxa (d:Dsk):List ByteArray:=(d.1.filter λ x=>(Je x.2).isSome).map Prod.fst
def hI (d:Dsk) (out:List ByteArray) (x:Nmd):List ByteArray:=bif (lkD d x.1).2==0 then wt out x.1 else out
def Mc (d:Dsk):List ByteArray:=d.1.foldl (hI d) []
def Tna (d:Dsk):∀ (l:List Nmd) (out:List ByteArray),(l.foldl (hI d) out).length≤out.length+l.length
 |[],out=>by simp
 |x::l,out=>by
  have h1:=Tna d l (hI d out x)
  have h2:(hI d out x).length≤out.length+1:=by
   unfold hI
   cases (lkD d x.1).2==0 with
   |false=>exact Blb _
   |true=>exact T8a
  rw[Yx,Vh];omega
def Rja (d:Dsk) (hd:DIn d) (hb:DB d):Tot (λ k=>Ft k d) (λ r=>r=Mc d):=by
 have hl:=hd.2.1;unfold Ft;refine Arb (Q:=λ r=>r=Mc d) ?_ (by rintro r rfl;exact Aqb rfl);refine Azb (L:=λ k i s=>Fc k s d.1 (d.1.length:Int) i d) (Q:=λ r=>r=Mc d) d.1.length (λ j s=>(d.1.drop j).foldl (hI d) s=Mc d∧s.length≤j) ?_ ?_ 0 [] (Vw _) ⟨rfl,Vv _⟩
 ·rintro s ⟨h,_⟩;rw[Yt]at h;simp (disch:=omega) only [Fc,dF];exact Aqb h
 ·rintro j s hj ⟨h,hs⟩ next;rw[Co (d:=Il) hj,Yx]at h;simp (disch:=omega) only [Fc,dT,Vm,w64];have e0:d.1.getD j ((⟨#[]⟩:ByteArray),([]:List Int))=d.1.getD j Il:=rfl;rw[e0];refine B1b (Y6 hd.1.1.1 hb.1 _) ?_;unfold hI at h
  cases hc:(lkD d (d.1.getD j Il).1).2==0 with
  |false=>
   rw[hc]at h;exact Asb rfl (next _ ⟨h,by omega⟩)
  |true=>
   rw[hc]at h;refine Atb rfl (B1b (Y3 s _ (by omega)) ?_);have:=T8a (l:=s) (s:=(d.1.getD j Il).1);exact next _ ⟨h,by omega⟩
def Cla {p:ByteArray→Bool}:∀ {l:List ByteArray},(∀ y∈l,p y=true)→l.takeWhile p=l
 |[],_=>rfl
 |x::l,h=>by rw[Zo,if_pos (h x Wo),Cla (λ y hy=>h y (Vd _ hy))]
def Vya {l:List ByteArray} {s:ByteArray} (h:∀ y∈l,tlt y s=true):wt l s=l++[s]:=by
 have e:tpl l s=l.length:=by
  unfold tpl;rw[Cla h]
 unfold wt;rw[e,if_neg (by omega),Zf,Yt,Yc]
def Yna {d:Dsk} (hs:Ct d.1) {x:Nmd} (hx:x∈d.1):((lkD d x.1).2==0)=(Je x.2).isSome:=by
 unfold lkD;rw[Era hs hx];simp only
 cases Je x.2<;>rfl
def Rka {d:Dsk} (hs:Ct d.1):Mc d=Vxa d:=by
 have key:∀ (l:List Nmd) (out:List ByteArray),(∀ x∈l,x∈d.1)→Ct l→(∀ y∈out,∀ x∈l,tlt y x.1=true)→l.foldl (hI d) out=out++(l.filter λ x=>(Je x.2).isSome).map Prod.fst:=by
  intro l
  induction l with
  |nil=>intro out _ _ _;simp
  |cons x l ih=>
   intro out hm hsl ho;obtain⟨h1,h2⟩:=Wd.1 hsl;rw[Yx,B5b];have hx:=Yna hs (hm x Wo);unfold hI;rw[hx];cases hf:(Je x.2).isSome
   ·exact ih out (λ y hy=>hm y (Vd _ hy)) h2 (λ y hy z hz=>ho y hy z (Vd _ hz))
   rw[cond_true,Vya (λ y hy=>ho y hy x Wo),if_pos rfl,Xs]
   have:=ih (out++[x.1]) (λ y hy=>hm y (Vd _ hy)) h2 (λ y hy z hz=>by
    rcases Vl.1 hy with hy|hy
    ·exact ho y hy z (Vd _ hz)
    ·rw[Vp.1 hy];exact h1 z hz)
   unfold hI at this;rw[this,Vo];rfl
 unfold Mc Vxa;rw[key d.1 [] (λ _ h=>h) hs (λ y hy=>by cases hy),Wl]
def Rla (l:List ByteArray) (s:ByteArray):Bool:=l.any λ y=>teq y s
def M5 {l:List ByteArray} {s:ByteArray}:Rla l s=true↔s∈l:=by
 unfold Rla;rw[Cvb];constructor
 ·rintro⟨x,hx,e⟩;rw[← C8.1 e];exact hx
 ·intro h;exact⟨s,h,C8.2 rfl⟩
def Wxa (l:List ByteArray):Nat→ByteArray→List ByteArray×Nat
 |0,_=>(l,0)
 |k+1,s=>bif tlt s (l.getD k Li) then Wxa (l.set (k+1) (l.getD k Li)) k s else (l,k+1)
def Zfa (l:List ByteArray) (s:ByteArray):List ByteArray:=(Wxa (l++[s]) l.length s).1.set (Wxa (l++[s]) l.length s).2 s
def hS1 (l:List Nmd) (j:Nat) (out:List ByteArray) (x:Nmd):List ByteArray:=bif (Je x.2).isSome&&(!(Rla out x.1)&&(Vja l x.1==(j:Int))) then Zfa out x.1 else out
def hS (l:List Nmd):List Nmd→Nat→List ByteArray→List ByteArray
 |[],_,out=>out
 |x::r,j,out=>hS l r (j+1) (hS1 l j out x)

def F1a (n:Nod) (s:ByteArray) (f:Fil) (sure:Bool) (hn:NIn n) (hs:Kj s):Tot (λ k=>Fq k n s f sure) (λ r=>r=Zea n s f sure):=by
 have hq:=hn.2.2.1;unfold Fq Zea;refine B1b (J7 n hn) ?_;refine B1b (Y8 n hn) ?_;cases h1:Jg n
 ·exact Atb rfl (Aqb rfl)
 have h60:=(Bn.1 h1).2.2.2.2;refine Asb rfl (B1b (J4 s hs) ?_);cases B2 s
 ·exact Atb rfl (Aqb rfl)
 refine Asb rfl (B1b (B2b (Q:=λ r=>r=De f) (Rt f) rfl) ?_);cases De f
 ·exact Atb rfl (Aqb rfl)
 refine Asb rfl ?_;unfold Oo;refine Axb (λ h=>Aqb ?_) (λ h=>?_)
 ·rw[show ((n.2.2.2.length:Int)==60)=true from beq_iff_eq.2 (by omega)];rfl
 ·rw[show ((n.2.2.2.length:Int)==60)=false from beq_eq_false_iff_ne.2 (by omega)];refine B1b (H1a n.2.1 s f sure hn.1.1 hn.1.2.1 hs) ?_;cases (keep n.2.1 s f sure).2==0
  ·exact Asb rfl (Aqb rfl)
  refine Atb rfl ?_;cases sure
  ·exact Asb rfl (Aqb rfl)
  refine Atb rfl (B1b (B2b (Q:=λ r=>r=Rd s f) (show Hd s f=some (Rd s f) from rfl) rfl) ?_);exact Ayb (by simp only[Vh,Vs];omega) (Aqb rfl)
def Toa (n:Nod):Nod×Int:=((n.1,(It n.2.1).1,n.2.2),(It n.2.1).2)
def Z2 {n:Nod} (hn:NG n) {d:Dsk} (hd:DG d):NG (n.1,d,n.2.2):=by
 obtain⟨h1,h2,h3,h4,h5⟩:=Bn.1 hn.1;exact⟨Bn.2 ⟨h1,h2,hd.1,h4,h5⟩,hd.2⟩
def Hea {n:Nod} (hn:NG n):NG (Toa n).1:=Z2 hn (Ria hn.g)
def Nna (n:Nod) (hn:NG n):Tot (λ k=>Eh k n) (λ r=>r=Toa n):=by
 unfold Eh;refine B1b (J7 n (Caa hn)) ?_;refine B1b (Nma n.2.1 hn.g) ?_;exact Aqb rfl

def Cma (v:BitVec 32) (b:Int):BitVec 32:=(v ^^^ ofInt 32 b)*16777619#32
def Jda (x:ByteArray):Nat→BitVec 32
 |0=>2166136261#32
 |n+1=>Cma (Jda x n) (bt x (n:Int))
def Tpa (x:ByteArray):Nat:=(Jda x x.size).toNat
def Apb (v:BitVec 32):wrap .u32 ((v.toNat:Int)*16777619)=((v*16777619#32).toNat:Int):=by
 rw[IntKind.wrap_u32,BitVec.toNat_mul];show (v.toNat:Int)*16777619 % 4294967296=((v.toNat*16777619 % 4294967296:Nat):Int);omega
def Rma (x:ByteArray) (hx:x.size≤1000000000):Tot (λ k=>Ha k x) (λ r=>r=(Tpa x:Int)):=by
 unfold Ha
 refine Arb (Q:=λ r=>r=(Tpa x:Int)) ?_ (by
  rintro r rfl;have:=(Jda x x.size).isLt
  exact Aqb (w64 (n:=(Tpa x:Int)) (by omega) (by show ((Jda x x.size).toNat:Int)≤_;omega)))
 refine Azb (L:=λ k i (s:Int)=>Fn k x s i) (Q:=λ r=>r=(Tpa x:Int)) x.size (λ j s=>s=((Jda x j).toNat:Int)) ?_ ?_ 0 _ (Vw _) rfl
 ·rintro s rfl;simp (disch:=omega) only [Fn,dF];exact Aqb rfl
 ·rintro j s hj rfl next;have hb:=Mna x (j:Int);have e1:wrap .u32 (bt x (j:Int))=bt x (j:Int):=Djb _ ⟨by omega,by omega⟩;simp (disch:=omega) only [Fn,dT,w64,e1,Zva (Jda x j) _ (bt x (j:Int)) rfl,Apb];exact next _ rfl
def Km (r:Rng) (x:ByteArray):List Int:=r.2.getD (Tpa x % r.2.length) []
def A1b (a b:Nat):Int.tmod (a:Int) (b:Int)=((a % b:Nat):Int):=by
 rw[Beb (by omega)];exact(Int.natCast_emod _ _).symm
def Rw (r:Rng) (x:ByteArray) (hr:RBd r) (hx:x.size≤1000000000):Tot (λ k=>As k r x) (λ y=>y=Km r x):=by
 have hrl:=hr.1;unfold As
 by_cases h0:r.2.length=0
 ·refine Atb (by rw[h0];rfl) (Aqb ?_);unfold Km;rw[Wk h0];rfl
 ·have hm:=Nat.mod_lt (Tpa x) (show 0<r.2.length by omega);refine Asb (by rw[beq_eq_false_iff_ne];omega) (Arb (Q:=λ y=>y=((Tpa x % r.2.length:Nat):Int)) ?_ ?_)
  ·unfold Gl;refine Avb (by omega) (B1b (Rma x hx) ?_);exact Avb (by omega) (Aqb (A1b _ _))
  ·rintro y rfl;simp (disch:=omega) only [dT,Vm];have hp:=hr.2 _ (A3 (d:=[]) hm);rw[Qz _ (by omega)];exact Aqb rfl
def Rna {r:Rng} {l:List Dev} (h:Ga r l=true) (x:ByteArray):Km r x∈r.2:=by
 obtain⟨_,_,h3,_⟩:=C2.1 h;exact A3 (d:=[]) (Nat.mod_lt _ (by omega))
def M6 {r:Rng} {l:List Dev} (h:Ga r l=true) (x:ByteArray):(Km r x).Nodup∧((Km r x).length:Int)=r.1∧∀ id∈Km r x,∃ d,Ij l id=some d:=(C2.1 h).2.2.2 _ (Rna h x)
def hoA (p zs:List Int) (z:Bool) (l:List Dev):List Int:=(l.filter λ d => !(Hc p d.1)&&(Hc zs d.2.1==z)).map (·.1)
def I7 (r:Rng) (l:List Dev) (x:ByteArray):List Int:=hoA (Km r x) (Dw (Km r x) l) false l++hoA (Km r x) (Dw (Km r x) l) true l
def Z3 (p zs:List Int) (z:Bool) (l:List Dev):(hoA p zs z l).length≤l.length:=by
 unfold hoA;rw[Vz];exact List.length_filter_le _ _
def Roa (p zs:List Int) (z:Bool) (d:Dev) (l:List Dev):hoA p zs z (d::l)=bif !(Hc p d.1)&&(Hc zs d.2.1==z) then d.1::hoA p zs z l else hoA p zs z l:=by
 unfold hoA;rw[B5b]
 cases !(Hc p d.1)&&(Hc zs d.2.1==z)<;>rfl
def Rpa (r:Rng) (l:List Dev) (x:ByteArray) (h:Ga r l=true) (hx:x.size≤1000000000):Tot (λ k=>Bp k r l x) (λ y=>y=I7 r l x):=by
 obtain⟨h1,h2,_,_⟩:=C2.1 h;obtain⟨_,p2,_⟩:=M6 h x;obtain⟨_,_,_,h12⟩:=Dl.1 h1;have hz:=Tn (Km r x) l;unfold Bp I7;refine B1b (Rw r x (M4 h) hx) ?_;generalize Km r x=p at *;refine B1b (Cea p l (by omega) (by omega)) ?_;generalize Dw p l=zs at *;have m1:=Z3 p zs false l;have m2:=Z3 p zs true l;refine Arb (Q:=λ y=>y=(hoA p zs false l,hoA p zs true l)) ?_ (by rintro y rfl;exact Ayb (by dsimp only;omega) (Aqb rfl));refine Azb (L:=λ k i (s:List Int×List Int)=>C0 k p zs s.1 s.2 l (l.length:Int) i) (Q:=λ y=>y=(hoA p zs false l,hoA p zs true l)) l.length (λ j s=>s.1++hoA p zs false (l.drop j)=hoA p zs false l∧s.2++hoA p zs true (l.drop j)=hoA p zs true l) ?_ ?_ 0 ([],[]) (Nat.zero_le _) ⟨rfl,rfl⟩
 ·rintro s ⟨e1,e2⟩;rw[Yt]at e1 e2;simp (disch:=omega) only [C0,dF];refine Aqb ?_;rw[← e1,← e2];show _=(s.1++[],s.2++[]);rw[Yc,Yc]
 ·rintro j ⟨s1,s2⟩ hj ⟨e1,e2⟩ next;dsimp only at e1 e2 next ⊢;have g1:=congrArg length e1;have g2:=congrArg length e2;rw[List.length_append]at g1 g2;rw[Co (d:=Ju) hj,Roa]at e1 e2;obtain⟨d,ed⟩:∃ d:Dev,l.getD j Ju=d:=⟨_,rfl⟩;rw[ed]at e1 e2;have e0:l.getD j ((0:Int),((0:Int),(0:Int)))=d:=ed;simp (disch:=omega) only [C0,dT,Int.toNat_natCast,w64,e0];refine B1b (Oh p d.1 (by omega)) ?_
  cases hp:Hc p d.1 with
  |true=>
   rw[hp]at e1 e2;exact Atb rfl (next (s1,s2) ⟨e1,e2⟩)
  |false=>
   refine Asb rfl (B1b (Oh zs d.2.1 (by omega)) ?_)
   cases hz':Hc zs d.2.1 with
   |true=>
    rw[hp,hz']at e1 e2;exact Atb rfl (Ayb (by simp only[Vh,Vs];omega) (next (s1,s2++[d.1]) ⟨e1,by rw[← e2];simp⟩))
   |false=>
    rw[hp,hz']at e1 e2;exact Asb rfl (Ayb (by simp only[Vh,Vs];omega) (next (s1++[d.1],s2) ⟨by rw[← e1];simp,e2⟩))

section
variable {R:Type} {L:Nat→Int→Option (Sum Bool R)}
def Nx (p:Nat→Bool) (n:Nat):(List.range (n+1)).all p=((List.range n).all p&&p n):=by
 rw[Dwb,List.all_append,C3b,List.all_nil,B8b]
def Ub {p:Nat→Bool} {m n:Nat} (h:m≤n) (hn:(List.range n).all p=true):(List.range m).all p=true:=by
 rw[Yb]at hn ⊢;exact λ x hx=>hn x (Zx.2 (by have:=Zx.1 hx;omega))
def B0b (n:Nat) (p:Nat→Bool) (e:R) (hend:Tot (λ k=>L (k+1) (n:Int)) (λ r=>r = .inr e))
  (Cma:∀ j,j<n→∀ (Q:Sum Bool R→Prop),(p j=false→Q (.inl false))→(p j=true→Tot (λ k=>L k ((j:Int)+1)) Q)→Tot (λ k=>L (k+1) (j:Int)) Q):
  Tot (λ k=>L k 0) (λ r=>r=bif (List.range n).all p then .inr e else .inl false):=by
 refine Azb (L:=λ k i (_:Unit)=>L k i) (Q:=λ r=>r=bif (List.range n).all p then .inr e else .inl false) n (λ j _=>(List.range j).all p=true) ?_ ?_ 0 () (Vw _) rfl
 ·intro _ h;rw[h];exact hend
 ·intro j _ hj h next;refine Cma j hj _ (λ hp=>?_) (λ hp=>next () (by rw[Nx,h,hp];rfl));cases hc:(List.range n).all p
  ·rfl
  have:=Ub (show j+1≤n by omega) hc;rw[Nx,hp,Yn]at this;cases this
end
def Cna {α:Type} (l:List α) (d:α) (p:α→Bool):l.all p=(List.range l.length).all λ j=>p (l.getD j d):=by
 rw[C1b,Yb,Yb];constructor
 ·intro h j hj;exact h _ (A3 (Zx.1 hj))
 ·intro h x hx;obtain⟨j,hj,rfl⟩:=Yr.1 hx;have:=h j (Zx.2 hj);rwa [Vb,Vg hj,Wp]at this
abbrev Wri:=ByteArray×Fil×Bool
abbrev Wld:=List Dev×Rng×List Nod×Stp×List Wri×List ByteArray
def Wya:Wri:=((⟨#[]⟩:ByteArray),((((0:Int),((0:Int),(0:Int))),(false,[])),false))
def Pm (l:List ByteArray):Bool:=(List.range l.length).all λ j=>B2 (l.getD j Li)&&(decide (j=0)||tlt (l.getD (j-1) Li) (l.getD j Li))
def F2a (c:Stp) (w:Wri):Bool:=B2 w.1&&(De w.2.1&&!(sle c w.2.1.1))
def Rqa (c:Stp) (l:List Wri):Bool:=l.all (F2a c)&&decide ((l.length:Int)≤200)
def Ny (l:List Dev) (ns:List Nod):Bool:=((ns.length:Int)==(l.length:Int))&&(List.range ns.length).all λ j=>((ns.getD j Ae).1==(l.getD j Ju).1)&&Jg (ns.getD j Ae)
def Nr (w:Wld):Bool:=Ga w.2.1 w.1&&(Ny w.1 w.2.2.1&&(Fz w.2.2.2.1&&(Rqa w.2.2.2.1 w.2.2.2.2.1&&Pm w.2.2.2.2.2)))
def WIn (w:Wld):Prop:=RBd w.2.1∧w.1.length≤2000000∧(w.2.2.1.length≤2000000∧∀ n∈w.2.2.1,NIn n)∧(w.2.2.2.2.1.length≤2000000∧∀ x∈w.2.2.2.2.1,Kj x.1)∧(w.2.2.2.2.2.length≤2000000∧∀ s∈w.2.2.2.2.2,Kj s)
def Rra (w:Wld) (hw:WIn w):Tot (λ k=>Cc k w) (λ r=>r=Rqa w.2.2.2.1 w.2.2.2.2.1):=by
 obtain⟨_,_,_,⟨h1,h2⟩,_⟩:=hw;unfold Cc Rqa
 refine Arb (Q:=λ r=>r=bif w.2.2.2.2.1.all (F2a w.2.2.2.1) then .inr w else .inl false) ?_ (by
  rintro r rfl
  cases w.2.2.2.2.1.all (F2a w.2.2.2.1)<;>exact Aqb rfl)
 rw[Cna _ Wya];refine B0b (L:=λ k i=>D5 k w.2.2.2.2.1 (w.2.2.2.2.1.length:Int) i w) _ _ w ?_ ?_
 ·simp (disch:=omega) only [D5,dF];exact Aqb rfl
 ·intro j hj Q no yes;have hs:=h2 _ (A3 (d:=Wya) hj);obtain⟨x,ex⟩:∃ x:Wri,w.2.2.2.2.1.getD j Wya=x:=⟨_,rfl⟩;rw[ex]at hs;simp only[ex]at no yes;have e0:w.2.2.2.2.1.getD j ((⟨#[]⟩:ByteArray),((((0:Int),((0:Int),(0:Int))),(false,[])),false))=x:=ex;simp (disch:=omega) only [D5,dT,Vm,w64,e0,Rt,Xt,Vt];unfold F2a at no yes;refine B1b (J4 x.1 hs) ?_;refine Awb (λ hc=>Aqb (no ?_)) (λ h3=>Awb (λ hc=>Aqb (no ?_)) (λ h4=>Awb (λ hc=>Aqb (no ?_)) (λ h5=>yes ?_)))
  ·rw[Wa]at hc;rw[hc];rfl
  ·rw[Wa]at hc;rw[hc,Ze,Yn]
  ·rw[hc,Za,Yn,Yn]
  ·rw[Yg]at h3 h4;rw[h3,h4,h5];rfl
def Coa (w:Wld) (hw:WIn w):Tot (λ k=>Bz k w.2.2.2.2.2 (w.2.2.2.2.2.length:Int) 0 w) (λ r=>r=bif Pm w.2.2.2.2.2 then .inr () else .inl false):=by
 obtain⟨_,_,_,_,h1,h2⟩:=hw;unfold Pm;refine B0b (L:=λ k i=>Bz k w.2.2.2.2.2 (w.2.2.2.2.2.length:Int) i w) _ _ () ?_ ?_
 ·simp (disch:=omega) only [Bz,dF];exact Aqb rfl
 ·intro j hj Q no yes;have hs:=h2 _ (A3 (d:=Li) hj);have e0:∀ i,w.2.2.2.2.2.getD i (⟨#[]⟩:ByteArray)=w.2.2.2.2.2.getD i Li:=λ _=>rfl;simp (disch:=omega) only [Bz,dT,Vm,w64,e0];refine B1b (J4 _ hs) ?_;refine Awb (λ hc=>Aqb (no ?_)) (λ h3=>Axb (λ h0=>?_) (λ h0=>yes ?_))
  ·rw[Wa]at hc;rw[hc];rfl
  ·simp (disch:=omega) only [dT,w64,show toNat ((j:Int)-1)=j-1 by omega];rw[Yg]at h3;rw[h3,decide_eq_false (show ¬ j=0 by omega),Dmb,Wf]at no yes;refine Awb (λ hc=>Aqb (no ?_)) (λ h4=>yes ?_)
   ·rw[Wa]at hc;exact hc
   ·rw[Yg]at h4;exact h4
  ·rw[Yg]at h3;rw[h3,decide_eq_true (show j=0 by omega)];rfl
def F3a (w:Wld) (hw:WIn w) (hl:w.2.2.1.length=w.1.length):Tot (λ k=>D7 k w.2.2.1 (w.2.2.1.length:Int) 0 w) (λ r=>r=bif Ny w.1 w.2.2.1 then .inr w else .inl false):=by
 obtain⟨_,_,⟨h1,h2⟩,_⟩:=hw;unfold Ny;rw[show ((w.2.2.1.length:Int)==(w.1.length:Int))=true by rw[beq_iff_eq];omega,Wf];refine B0b (L:=λ k i=>D7 k w.2.2.1 (w.2.2.1.length:Int) i w) _ _ w ?_ ?_
 ·simp (disch:=omega) only [D7,dF];exact Aqb rfl
 ·intro j hj Q no yes;have hs:=h2 _ (A3 (d:=Ae) hj);obtain⟨x,ex⟩:∃ x:Nod,w.2.2.1.getD j Ae=x:=⟨_,rfl⟩;rw[ex]at hs no yes;have e0:w.2.2.1.getD j ((0:Int),(([],[]),([],[])))=x:=ex;have e1:w.1.getD j ((0:Int),((0:Int),(0:Int)))=w.1.getD j Ju:=rfl;simp (disch:=omega) only [D7,dT,Vm,w64,e0,e1];refine Awb (λ hc=>Aqb (no ?_)) (λ h3=>Arb (Y8 x hs) ?_)
  ·rw[bne,Wa]at hc;rw[hc];rfl
  ·rw[bne,Yg]at h3;rw[h3,Wf]at no yes;rintro b rfl;refine Awb (λ hc=>Aqb (no ?_)) (λ h4=>yes ?_)
   ·rw[Wa]at hc;exact hc
   ·rw[Yg]at h4;exact h4
def Tr (w:Wld) (hw:WIn w):Tot (λ k=>B6 k w) (λ r=>r=Nr w):=by
 unfold B6 Nr;refine B1b (Raa w.2.1 w.1 hw.1 (by have:=hw.2.1;omega)) ?_;cases hr:Ga w.2.1 w.1
 ·exact Atb rfl (Aqb rfl)
 refine Asb rfl ?_;rw[Wf]
 by_cases hl:w.2.2.1.length=w.1.length
 ·refine Asb (by rw[bne,hl,beq_self_eq_true];rfl) ?_;simp only[Pi,Vt];cases hs:Fz w.2.2.2.1
  ·exact Atb rfl (Aqb (by rw[Ze,Yn]))
  refine Asb rfl (B1b (Rra w hw) ?_);cases hws:Rqa w.2.2.2.1 w.2.2.2.2.1
  ·exact Atb rfl (Aqb (by rw[Ze,Yn,Yn]))
  refine Asb rfl (B1b (F3a w hw hl) ?_);cases Ny w.1 w.2.2.1
  ·exact Aqb rfl
  refine B1b (Coa w hw) ?_
  cases Pm w.2.2.2.2.2<;>exact Aqb rfl
 ·have hn:((w.2.2.1.length:Int)==(w.1.length:Int))=false:=by rw[beq_eq_false_iff_ne];omega
  refine Atb (by rw[bne,hn];rfl) (Aqb ?_);unfold Ny;rw[hn];rfl

def atN:List Nod→Int→Nat→List Int
 |[],_,_=>[]
 |n::ns,id,i=>bif n.1==id then (i:Int)::atN ns id (i+1) else atN ns id (i+1)
def Hfa (n:Nod) (ns:List Nod) (id:Int) (i:Nat):atN (n::ns) id i=bif n.1==id then (i:Int)::atN ns id (i+1) else atN ns id (i+1):=rfl
def whr (ns:List Nod) (ids:List Int):List Int:=ids.flatMap λ id=>atN ns id 0
def F4a (id:Int):∀ (ns:List Nod) (i:Nat),(atN ns id i).length≤ns.length
 |[],_=>Vv _
 |n::ns,i=>by
  unfold atN;have:=F4a id ns (i+1);cases n.1==id
  ·rw[cond_false,Vh];omega
  ·rw[cond_true,Vh,Vh];omega
def Noa (ns:List Nod):∀ (ids:List Int),(whr ns ids).length≤ids.length*ns.length
 |[]=>Vw _
 |id::ids=>by
  have h1:=F4a id ns 0;have h2:=Noa ns ids;unfold whr at h2 ⊢;rw[Cpb,Vi,Vh,Nat.succ_mul];omega
def Pn {ns:List Nod} {ids:List Int} (h1:ns.length≤2000000) (h2:ids.length≤2000000):(whr ns ids).length≤4000000000000:=
 Zv (Noa ns ids) (Nat.mul_le_mul h2 h1)
def Po (ns:List Nod) (id:Int) (ids:List Int):whr ns (id::ids)=atN ns id 0++whr ns ids:=Cpb
def F5a (ns:List Nod) (a b:List Int):whr ns (a++b)=whr ns a++whr ns b:=List.flatMap_append
def Uc (w:Wld) (id:Int) (a b c:List Int) (m i0:Int) (out:List Int) (h1:w.2.2.1.length≤2000000) (ho:out.length≤4000000000000):
  Tot (λ k=>Cj k out id a m i0 w.2.2.1 (w.2.2.1.length:Int) 0 w) (λ r=>r=(out++atN w.2.2.1 id 0,a,m,i0,w)):=by
 have m1:=F4a id w.2.2.1 0;refine Azb (L:=λ k i (s:List Int)=>Cj k s id a m i0 w.2.2.1 (w.2.2.1.length:Int) i w) (Q:=λ r=>r=(out++atN w.2.2.1 id 0,a,m,i0,w)) w.2.2.1.length (λ j s=>s++atN (w.2.2.1.drop j) id j=out++atN w.2.2.1 id 0) ?_ ?_ 0 out (Vw _) rfl
 ·intro s h;rw[Yt]at h;simp (disch:=omega) only [Cj,dF];refine Aqb ?_;rw[← h];show _=(s++[],a,m,i0,w);rw[Yc]
 ·intro j s hj h next;have g:=congrArg length h;rw[Vi,Vi]at g;rw[Co (d:=Ae) hj,Hfa]at h;obtain⟨x,ex⟩:∃ x:Nod,w.2.2.1.getD j Ae=x:=⟨_,rfl⟩;rw[ex]at h;have e0:w.2.2.1.getD j ((0:Int),(([],[]),([],[])))=x:=ex;simp (disch:=omega) only [Cj,dT,Vm,w64,e0]
  cases hx:x.1==id with
  |true=>
   rw[hx,cond_true]at h;refine Atb rfl (Ayb (by simp only[Vh,Vs];omega) (next (s++[(j:Int)]) ?_));rw[← h,Vo];rfl
  |false=>
   rw[hx,cond_false]at h;refine Asb rfl (next s h)
def Ol (w:Wld) (ids:List Int) (h1:w.2.2.1.length≤2000000) (h2:ids.length≤2000000):Tot (λ k=>Bm k w ids) (λ r=>r=whr w.2.2.1 ids):=by
 have m1:=Pn h1 h2;unfold Bm;refine Arb (Q:=λ r=>r=whr w.2.2.1 ids) ?_ (by rintro r rfl;exact Aqb rfl);refine Azb (L:=λ k i (s:List Int)=>Dn k s ids (ids.length:Int) i w) (Q:=λ r=>r=whr w.2.2.1 ids) ids.length (λ j s=>s++whr w.2.2.1 (ids.drop j)=whr w.2.2.1 ids) ?_ ?_ 0 [] (Vw _) rfl
 ·intro s h;rw[Yt]at h;simp (disch:=omega) only [Dn,dF];refine Aqb ?_;rw[← h];exact(Yc s).symm
 ·intro j s hj h next;have g:=congrArg length h;rw[Vi]at g;rw[Co (d:=0) hj,Po]at h;simp (disch:=omega) only [Dn,dT,Vm,w64];refine B1b (Uc w (ids.getD j 0) ids [] [] (ids.length:Int) (j:Int) s h1 (by omega)) ?_;simp (disch:=omega) only [w64];exact next _ (by rw[Vo];exact h)
def Qn (id:Int):∀ (ns:List Nod) (i:Nat) (x:Int),x∈atN ns id i↔∃ j,j<ns.length∧(ns.getD j Ae).1=id∧x=((i+j:Nat):Int)
 |[],i,x=>by simp[atN]
 |n::ns,i,x=>by
  have ih:=Qn id ns (i+1) x
  have tl:(∃ j,j<(n::ns).length∧((n::ns).getD j Ae).1=id∧x=((i+j:Nat):Int))↔(n.1=id∧x=(i:Int))∨x∈atN ns id (i+1):=by
   rw[ih];constructor
   ·rintro⟨j,h1,h2,h3⟩
    cases j with
    |zero=>exact .inl ⟨h2,by omega⟩
    |succ j=>exact .inr ⟨j,by simpa using h1,by simpa using h2,by omega⟩
   ·rintro (⟨h1,h2⟩|⟨j,h1,h2,h3⟩)
    ·exact⟨0,by simp,h1,by omega⟩
    ·exact⟨j+1,by simpa using h1,by simpa using h2,by omega⟩
  rw[tl,Hfa]
  cases hx:n.1==id with
  |true=>
   rw[cond_true,Vk,eq_of_beq hx];simp
  |false=>
   rw[cond_false];have:=beq_eq_false_iff_ne.1 hx;simp[this]
def Om {ns:List Nod} {ids:List Int} {x:Int}:x∈whr ns ids↔∃ j,j<ns.length∧(ns.getD j Ae).1∈ids∧x=(j:Int):=by
 unfold whr;rw[List.mem_flatMap];constructor
 ·rintro⟨id,h1,h2⟩;obtain⟨j,h3,h4,h5⟩:=(Qn _ _ _ _).1 h2;exact⟨j,h3,h4 ▸ h1,by omega⟩
 ·rintro⟨j,h3,h4,h5⟩;exact⟨_,h4,(Qn _ _ _ _).2 ⟨j,h3,rfl,by omega⟩⟩
def contacts (w:Wld) (x:ByteArray):List Int:=whr w.2.2.1 (Km w.2.1 x++I7 w.2.1 w.1 x)
def Lj:ByteArray:=⟨#[108,105,115,116]⟩
def C9 (w:Wld):List Int:=whr w.2.2.1 (Km w.2.1 Lj)
def Rx {r:Rng} (hr:RBd r) (x:ByteArray):(Km r x).length≤2000000:=by
 unfold Km
 by_cases hm:Tpa x % r.2.length<r.2.length
 ·exact hr.2 _ (A3 (d:=[]) hm)
 ·rw[Vb,Zd (by omega)];exact Vw _
def N3 (r:Rng) (l:List Dev) (x:ByteArray):(I7 r l x).length≤l.length+l.length:=by
 unfold I7;rw[Vi];have h1:=Z3 (Km r x) (Dw (Km r x) l) false l;have h2:=Z3 (Km r x) (Dw (Km r x) l) true l;omega
def R3 (w:Wld) (x:ByteArray) (h:Ga w.2.1 w.1=true) (hn:w.2.2.1.length≤2000000) (hx:x.size≤1000000000):Tot (λ k=>Bf k w x) (λ r=>r=(contacts w x,w)):=by
 have h5:=(C2.1 h).2.1;have p2:=(M6 h x).2.1;have h12:=(Dl.1 (C2.1 h).1).2.2.2;have hh:=N3 w.2.1 w.1 x;unfold Bf contacts;refine B1b (Rw _ x (M4 h) hx) ?_;refine B1b (Rpa _ _ x h hx) ?_;refine Ayb (by omega) (B1b (Ol w _ hn (by rw[Vi];omega)) ?_);exact Aqb rfl
def Tt (w:Wld) (hr:RBd w.2.1) (hn:w.2.2.1.length≤2000000):Tot (λ k=>E4 k w) (λ r=>r=C9 w):=by
 unfold E4;refine B1b (Rw _ Lj hr (by decide)) ?_;refine B1b (Ol w _ hn (Rx hr _)) ?_;exact Aqb rfl
def quo (n:Int):Int:=n/2+1
def A2b {n:Int} (h0:0≤n):Int.tdiv n 2=n/2:=D8b h0
def Vza {n:Int} (h0:0≤n) (h1:n≤1000000000):G8 n=some (quo n):=by
 unfold G8 quo;rw[A2b h0,w64 (n:=n/2) (by omega) (by omega),w64 (n:=n/2+1) (by omega) (by omega)]
def rch (l:List Int) (i:Nat):Int:=bif decide (i<l.length)&&inR (l.getD i 0) 1 3 then l.getD i 0 else 0
def Z4 (l:List Int) (i:Nat):Br l (i:Int)=some (rch l i):=by
 unfold Br rch
 by_cases h:i<l.length
 ·simp (disch:=omega) only [dT,Vm,My,Vt];rw[decide_eq_true h,Wf]
  cases inR (l.getD i 0) 1 3<;>rfl
 ·rw[dF (by omega),decide_eq_false h];rfl

def W0a (a b:Fil):Bool:=((a.1.1==b.1.1)&&((a.1.2.1==b.1.2.1)&&(a.1.2.2==b.1.2.2)))&&((a.2.1==b.2.1)&&((I8 a.2.2).toList==(I8 b.2.2).toList))
def Npa {a b:Fil} (ha:Av a.2.2) (hb:Av b.2.2):W0a a b=true↔a=b:=by
 unfold W0a;rw[C2a ha hb];obtain⟨⟨a1,a2,a3⟩,a4,a5⟩:=a;obtain⟨⟨b1,b2,b3⟩,b4,b5⟩:=b;simp only[Va,beq_iff_eq,decide_eq_true_iff,Vx]

def W1a (a b:Row):Bool:=(a.1==b.1)&&((a.2.1.1==b.2.1.1)&&((a.2.1.2.1==b.2.1.2.1)&&((a.2.1.2.2==b.2.1.2.2)&&((a.2.2.1==b.2.2.1)&&(a.2.2.2==b.2.2.2)))))
def Cpa {a b:Row}:W1a a b=true↔a=b:=by
 unfold W1a;obtain⟨a0,⟨a1,a2,a3⟩,a4,a5⟩:=a;obtain⟨b0,⟨b1,b2,b3⟩,b4,b5⟩:=b;simp only[Rr,Va,beq_iff_eq,Vx,C8];constructor
 ·rintro⟨h0,h1,h2,h3,h4,h5⟩;exact⟨h0,⟨h1,h2,h3⟩,h4,h5⟩
 ·rintro⟨h0,⟨h1,h2,h3⟩,h4,h5⟩;exact⟨h0,h1,h2,h3,h4,h5⟩
def Qo (ws:List Wri) (r:Row):Bool:=ws.any λ x=>W1a (Rd x.1 x.2.1) r
def Aeb:Row:=((⟨#[]⟩:ByteArray),(((0:Int),((0:Int),(0:Int))),(false,(0:Int))))

def run {α:Type} (st:α→Nat→α) (n:Nat) (a:α):α:=(List.range n).foldl st a
def Gt {α:Type} (st:α→Nat→α) (n:Nat) (a:α):run st (n+1) a=st (run st n a) n:=by
 unfold run;rw[Dwb,Bsb];rfl
def Z5 {α:Type} (st:α→Nat→α) (a:α):run st 0 a=a:=rfl
def Z6 {α:Type} {st:α→Nat→α} {a:α} {j n:Nat} (hj:j≤n) (h:∀ i,st (run st j a) i=run st j a):run st n a=run st j a:=by
 obtain⟨m,rfl⟩:=Nat.exists_eq_add_of_le hj
 induction m with
 |zero=>rfl
 |succ m ih=>rw[← Zk,Gt,ih (by omega),h]
def H7 {α:Type} {st:α→Nat→α} (P:Nat→α→Prop) {n:Nat} {a:α} (h0:P 0 a) (hs:∀ j b,j<n→P j b→P (j+1) (st b j)):P n (run st n a):=by
 have:∀ m,m≤n→P m (run st m a):=by
  intro m
  induction m with
  |zero=>intro _;exact h0
  |succ m ih=>intro hm;rw[Gt];exact hs m _ (by omega) (ih (by omega))
 exact this n (Vv _)
def NS (ns:List Nod):Prop:=ns.length≤2000000∧∀ n∈ns,NG n
def NS.set {ns:List Nod} (h:NS ns) {i:Nat} {n:Nod} (hn:NG n):NS (ns.set i n):=⟨by rw[Vu];exact h.1,λ m hm=>by
 rcases Yw hm with hm|rfl
 ·exact h.2 m hm
 ·exact hn⟩
def NS.get {ns:List Nod} (h:NS ns) {i:Nat} (hi:i<ns.length):NG (ns.getD i Ae):=h.2 _ (A3 hi)
abbrev wN (w:Wld) (ns:List Nod):Wld:=(w.1,w.2.1,ns,w.2.2.2)
def Ik (c:Stp) (t d:Int):Stp:=bif decide (t≤c.1) then (bif Fz (c.1,c.2.1+1,d) then (c.1,c.2.1+1,d) else c) else (bif Fz (t,0,d) then (t,0,d) else c)
def Z7 {c:Stp} (hc:Fz c=true) (t d:Int):Fz (Ik c t d)=true∧(Ik c t d=c∨sle c (Ik c t d)=true):=by
 unfold Ik
 by_cases h:t≤c.1
 ·rw[decide_eq_true h,cond_true]
  cases hs:Fz (c.1,c.2.1+1,d) with
  |true=>exact⟨hs,.inr (Ki.2 (.inr ⟨rfl,.inl (by show c.2.1<c.2.1+1;omega)⟩))⟩
  |false=>exact⟨hc,.inl rfl⟩
 ·rw[decide_eq_false h,cond_false]
  cases hs:Fz (t,0,d) with
  |true=>exact⟨hs,.inr (Ki.2 (.inl (by show c.1<t;omega)))⟩
  |false=>exact⟨hc,.inl rfl⟩
def wst (R:Int) (rc:List Int) (s:ByteArray) (f:Fil) (cs:List Int) (a:List Nod×Int×Int) (j:Nat):List Nod×Int×Int:=
 bif decide (a.2.1<R) then (bif rch rc j==0 then a else
  (a.1.set (cs.getD j 0).toNat (Oo (a.1.getD (cs.getD j 0).toNat Ae) s f (rch rc j != 3)).1,a.2.1+1,
   bif rch rc j==1&&((Oo (a.1.getD (cs.getD j 0).toNat Ae) s f (rch rc j != 3)).2==0||(Oo (a.1.getD (cs.getD j 0).toNat Ae) s f (rch rc j != 3)).2==1) then a.2.2+1 else a.2.2))
 else a
def wrN (w:Wld) (s:ByteArray) (f:Fil) (rc:List Int):List Nod×Int×Int:=run (wst w.2.1.1 rc s f (contacts w s)) (contacts w s).length (w.2.2.1,0,0)
def Nz (w:Wld) (s:ByteArray) (f:Fil) (rc:List Int):Int×Wld:=
 (bif decide ((wrN w s f rc).2.2≥quo w.2.1.1) then 0 else 1,(w.1,w.2.1,(wrN w s f rc).1,w.2.2.2.1,w.2.2.2.2.1++[(s,f,decide ((wrN w s f rc).2.2≥quo w.2.1.1))],w.2.2.2.2.2))
def H8 {w:Wld} {s:ByteArray} {x:Int} (h:x∈contacts w s):0≤x∧x<(w.2.2.1.length:Int):=by
 obtain⟨j,h1,_,rfl⟩:=Om.1 h;omega
def Yoa {R:Int} {rc:List Int} {s:ByteArray} {f:Fil} {cs:List Int} {a:List Nod×Int×Int} {j m:Nat} (hs:B2 s=true) (hf:De f=true) (h:NS a.1∧a.1.length=m∧(0≤a.2.1∧a.2.1≤j)∧0≤a.2.2∧a.2.2≤j) (hc:(cs.getD j 0).toNat<m):
  let b:=wst R rc s f cs a j
  NS b.1∧b.1.length=m∧(0≤b.2.1∧b.2.1≤((j+1:Nat):Int))∧0≤b.2.2∧b.2.2≤((j+1:Nat):Int):=by
 obtain⟨h1,h2,h3,h4,h5⟩:=h;intro b;have hb:b=wst R rc s f cs a j:=rfl;unfold wst at hb;cases hR:decide (a.2.1<R)
 ·rw[hR,cond_false]at hb;rw[hb];exact⟨h1,h2,⟨h3.1,by omega⟩,h4,by omega⟩
 rw[hR,cond_true]at hb;cases hr:rch rc j==0
 case true=>rw[hr,cond_true]at hb;rw[hb];exact⟨h1,h2,⟨h3.1,by omega⟩,h4,by omega⟩
 rw[hr,cond_false]at hb;rw[hb];refine⟨h1.set (N7a (h1.get (by omega)) hs hf),by rw[List.length_set];exact h2,⟨by dsimp only;omega,by dsimp only;omega⟩,?_⟩;dsimp only;cases rch rc j==1&&((Oo (a.1.getD (cs.getD j 0).toNat Ae) s f (rch rc j != 3)).2==0||(Oo (a.1.getD (cs.getD j 0).toNat Ae) s f (rch rc j != 3)).2==1)
 ·exact⟨h4,by rw[cond_false];omega⟩
 ·exact⟨by rw[cond_true];omega,by rw[cond_true];omega⟩
def ask (w:Wld) (s:ByteArray) (f:Fil) (t:Int) (rc:List Int):Int×Wld:=
 bif !(B2 s) then (2,w) else bif decide ((f.2.2.length:Int) > 200) then (2,w) else bif !(inR t 0 1000000000) then (2,w) else
 bif (w.2.2.2.2.1.length:Int)==200 then (3,w) else
 bif (Ik w.2.2.2.1 t 0).1==w.2.2.2.1.1&&((Ik w.2.2.2.1 t 0).2.1==w.2.2.2.1.2.1&&(Ik w.2.2.2.1 t 0).2.2==w.2.2.2.1.2.2) then (3,w) else
 Nz (w.1,w.2.1,w.2.2.1,Ik w.2.2.2.1 t 0,w.2.2.2.2) s (Ik w.2.2.2.1 t 0,f.2) rc
def pst (src:Int) (s:ByteArray) (f:Fil) (rc ps:List Int) (a:List Nod×Bool×Bool) (j:Nat):List Nod×Bool×Bool:=
 bif ps.getD j 0==src then (a.1,true,a.2.2) else bif rch rc j != 1 then (a.1,a.2.1,false) else
  (a.1.set (ps.getD j 0).toNat ((a.1.getD (ps.getD j 0).toNat Ae).1,(keep (a.1.getD (ps.getD j 0).toNat Ae).2.1 s f true).1,(a.1.getD (ps.getD j 0).toNat Ae).2.2),a.2.1,
   bif (keep (a.1.getD (ps.getD j 0).toNat Ae).2.1 s f true).2 != 0&&(keep (a.1.getD (ps.getD j 0).toNat Ae).2.1 s f true).2 != 1 then false else a.2.2)
def Hs (w:Wld) (s:ByteArray):List Int:=whr w.2.2.1 (Km w.2.1 s)
def puN (w:Wld) (i:Nat) (s:ByteArray) (rc:List Int):List Nod×Bool×Bool:=run (pst (i:Int) s (lkD (w.2.2.1.getD i Ae).2.1 s).1 rc (Hs w s)) (Hs w s).length (w.2.2.1,false,true)
def Wza (n:Nod) (s:ByteArray):Nod:=(n.1,(syD (rmD n.2.1 s).1 s).1,n.2.2)
def Md (w:Wld) (i:Nat) (s:ByteArray) (rc:List Int):Bool×Wld:=bif (lkD (w.2.2.1.getD i Ae).2.1 s).2 != 0 then (false,w) else
 (true,wN w (bif (puN w i s rc).2.2&&!(puN w i s rc).2.1 then (puN w i s rc).1.set i (Wza ((puN w i s rc).1.getD i Ae) s) else (puN w i s rc).1))
def Tqa {n:Nod} (hn:NG n) {s:ByteArray} (hs:B2 s=true):NG (Wza n s):=Z2 hn (Yea (Yfa hn.g) hs)
def Tu {n:Nod} (hn:NG n) {s:ByteArray} {f:Fil} {sure:Bool}:NG (n.1,(keep n.2.1 s f sure).1,n.2.2):=Z2 hn (Tga hn.g)
def Tra {src:Int} {s:ByteArray} {f:Fil} {rc ps:List Int} {a:List Nod×Bool×Bool} {j m:Nat} (h:NS a.1∧a.1.length=m) (hc:(ps.getD j 0).toNat<m):NS (pst src s f rc ps a j).1∧(pst src s f rc ps a j).1.length=m:=by
 unfold pst;cases ps.getD j 0==src
 case true=>exact h
 cases rch rc j != 1 with
 |true=>exact h
 |false=>exact⟨h.1.set (Tu (h.1.get (by have:=h.2;omega))),by rw[cond_false,cond_false,Vu];exact h.2⟩
def Ke {w:Wld} {s:ByteArray} {x:Int} (h:x∈Hs w s):0≤x∧x<(w.2.2.1.length:Int):=by
 obtain⟨j,h1,_,rfl⟩:=Om.1 h;omega
def Nqa {w:Wld} {s:ByteArray} (hr:Ga w.2.1 w.1=true) (hn:w.2.2.1.length≤2000000):(Hs w s).length≤4000000000000:=Pn hn (Rx (M4 hr) s)
def Ypa {w:Wld} {i:Nat} {s:ByteArray} {rc:List Int} (hn:NS w.2.2.1):NS (puN w i s rc).1∧(puN w i s rc).1.length=w.2.2.1.length:=
 H7 (λ _ (b:List Nod×Bool×Bool)=>NS b.1∧b.1.length=w.2.2.1.length) ⟨hn,rfl⟩ (λ j b hj hb=>Tra hb (by have:=Ke (A3 (d:=0) hj);omega))

def tk (n:Nod) (l:List Row):Bool×Nod:=bif decide ((Mb n.2.2.1 l).length > 60) then (false,n) else (true,(n.1,n.2.1,Mb n.2.2.1 l,n.2.2.2))
def A3b {n:Nod} {l:List Row} (hn:NG n) (hl:Hb l=true):NG (tk n l).2:=by
 obtain⟨h1,h2,h3,h4,h5⟩:=Bn.1 hn.1;unfold tk
 by_cases h:(Mb n.2.2.1 l).length > 60
 ·rw[decide_eq_true h];exact hn
 ·rw[decide_eq_false h];exact⟨Bn.2 ⟨h1,h2,h3,Exa h4 hl (by omega),h5⟩,hn.2⟩
def gst (src:Int) (l:List Row) (self:Bool) (rc ls:List Int) (a:List Nod×Bool) (j:Nat):List Nod×Bool:=
 bif ls.getD j 0==src&&!self then a else bif rch rc j != 1 then (a.1,false) else
  (a.1.set (ls.getD j 0).toNat (tk (a.1.getD (ls.getD j 0).toNat Ae) l).2,bif (tk (a.1.getD (ls.getD j 0).toNat Ae) l).1 then a.2 else false)
def Ia (w:Wld) (src:Int) (l:List Row) (self:Bool) (rc:List Int):List Nod×Bool:=run (gst src l self rc (C9 w)) (C9 w).length (w.2.2.1,true)
def Tsa {src:Int} {l:List Row} {self:Bool} {rc ls:List Int} {a:List Nod×Bool} {j m:Nat} (hl:Hb l=true) (h:NS a.1∧a.1.length=m) (hc:(ls.getD j 0).toNat<m):NS (gst src l self rc ls a j).1∧(gst src l self rc ls a j).1.length=m:=by
 unfold gst;cases ls.getD j 0==src&&!self
 case true=>exact h
 cases rch rc j != 1 with
 |true=>exact h
 |false=>exact⟨h.1.set (A3b (h.1.get (by have:=h.2;omega)) hl),by rw[cond_false,cond_false,Vu];exact h.2⟩
def Jl {w:Wld} {x:Int} (h:x∈C9 w):0≤x∧x<(w.2.2.1.length:Int):=by
 obtain⟨j,h1,_,rfl⟩:=Om.1 h;omega
def Tv {w:Wld} (hr:RBd w.2.1) (hn:w.2.2.1.length≤2000000):(C9 w).length≤4000000000000:=Pn hn (Rx hr _)
def Z8 {w:Wld} {src:Int} {l:List Row} {self:Bool} {rc:List Int} (hl:Hb l=true) (hn:NS w.2.2.1):NS (Ia w src l self rc).1∧(Ia w src l self rc).1.length=w.2.2.1.length:=
 H7 (λ _ (b:List Nod×Bool)=>NS b.1∧b.1.length=w.2.2.1.length) ⟨hn,rfl⟩ (λ j b hj hb=>Tsa hl hb (by have:=Jl (A3 (d:=0) hj);omega))
def Jea {r:Row} (h:Kk r=true):Hb [r]=true:=Hp.2 ⟨Bub _ _,λ x hx=>by rw[Vp.1 hx];exact h,by simp⟩
def Qp:Hb []=true:=Hp.2 ⟨List.Pairwise.nil,(λ _ hx=>nomatch hx),Vw _⟩
def Pp (n:Nod):Nod:=(n.1,n.2.1,[],n.2.2.2)
def W2a (n:Nod) (q:List Row):Nod:=(n.1,n.2.1,n.2.2.1,q)
def Hga {n:Nod} (hn:NG n):NG (Pp n):=by
 obtain⟨h1,h2,h3,h4,h5⟩:=Bn.1 hn.1;exact⟨Bn.2 ⟨h1,h2,h3,Qp,h5⟩,hn.2⟩
def Tta {n:Nod} {q:List Row} (hn:NG n) (h:∀ r∈q,Kk r=true) (hl:q.length≤60):NG (W2a n q):=by
 obtain⟨h1,h2,h3,h4,h5⟩:=Bn.1 hn.1;exact⟨Bn.2 ⟨h,h2,h3,h4,hl⟩,hn.2⟩
def I6 (w:Wld) (i:Nat) (rc:List Int):List Nod×Bool:=Ia w (i:Int) (w.2.2.1.getD i Ae).2.2.1 false rc
def Me (w:Wld) (i:Nat) (rc:List Int):Bool×Wld:=bif ((w.2.2.1.getD i Ae).2.2.1.length:Int)==0 then (false,w) else
 (true,wN w (bif (I6 w i rc).2&&!(Hc (C9 (wN w (I6 w i rc).1)) (i:Int)) then (I6 w i rc).1.set i (Pp ((I6 w i rc).1.getD i Ae)) else (I6 w i rc).1))
def Jb (w:Wld) (i:Nat) (rc:List Int):List Nod×Bool:=Ia w (i:Int) ((w.2.2.1.getD i Ae).2.2.2.take 1) true rc
def On (w:Wld) (i:Nat) (rc:List Int):Bool×Wld:=bif ((w.2.2.1.getD i Ae).2.2.2.length:Int)==0 then (false,w) else
 (true,wN w (bif (Jb w i rc).2 then (Jb w i rc).1.set i (W2a ((Jb w i rc).1.getD i Ae) ((w.2.2.1.getD i Ae).2.2.2.drop 1)) else (Jb w i rc).1))
def Jt {q:List Row} (h:∀ r∈q,Kk r=true):Hb (q.take 1)=true:=by
 cases q with
 |nil=>exact Qp
 |cons r q=>exact Jea (h r Wo)
def Nra:∀ (k:Nat) (l:List ByteArray) (s:ByteArray),k<l.length→∃ j,j≤k∧(Wxa l k s).2=j∧(Wxa l k s).1.set j s=l.take j++s::((l.take k).drop j++l.drop (k+1))∧(∀ y∈(l.take k).drop j,tlt s y=true)∧(0<j→tlt s (l.getD (j-1) Li)=false)
 |0,l,s,hk=>by
  refine⟨0,Vv _,rfl,?_,λ y hy=>by simp at hy,λ h=>by omega⟩
  cases l with
  |nil=>simp at hk
  |cons x l=>rfl
 |k+1,l,s,hk=>by
  unfold Wxa
  cases hc:tlt s (l.getD k Li) with
  |false=>
   rw[cond_false];refine⟨k+1,Vv _,rfl,?_,λ y hy=>?_,λ _=>hc⟩
   ·rw[C6b,Ceb,B7b,Wl];exact Bib .. |>.trans (if_pos hk)
   ·rw[C6b,Ceb,B7b]at hy;cases hy
  |true=>
   rw[cond_true];obtain⟨j,h1,h2,h3,h4,h5⟩:=Nra k (l.set (k+1) (l.getD k Li)) s (by rw[Vu];omega)
   have t1:(l.set (k+1) (l.getD k Li)).take j=l.take j:=by rw[D6b (by omega)]
   have t2:(l.set (k+1) (l.getD k Li)).take k=l.take k:=by rw[D6b (by omega)]
   have t3:(l.set (k+1) (l.getD k Li)).drop (k+1)=l.getD k Li::l.drop (k+2):=by
    rw[Zj (by rw[Vu];exact hk),List.getElem_set_self,List.drop_set_of_lt (by omega)]
   have t4:l.take (k+1)=l.take k++[l.getD k Li]:=by
    rw[Wi (by omega),Vb,Vg (by omega),Wp]
   have hlk:(l.take k).length=k:=by rw[Vq];omega
   rw[t1,t2,t3]at h3;rw[t2]at h4;refine⟨j,by omega,h2,?_,λ y hy=>?_,λ h=>?_⟩
   ·rw[h3,t4,Cxb (by omega),Vo];rfl
   ·rw[t4,Cxb (by omega)]at hy;rcases Vl.1 hy with hy|hy
    ·exact h4 y hy
    ·rw[Vp.1 hy];exact hc
   ·have:=h5 h;rwa [Vb,C4b (by omega),← Vb]at this
def W2 {l:List ByteArray} {s:ByteArray}:∃ j,j≤l.length∧Zfa l s=l.take j++s::l.drop j∧(∀ y∈l.drop j,tlt s y=true)∧(0<j→tlt s (l.getD (j-1) Li)=false):=by
 obtain⟨j,h1,h2,h3,h4,h5⟩:=Nra l.length (l++[s]) s (by simp)
 have t1:(l++[s]).take l.length=l:=by rw[Cyb (Vv _),Zf]
 have t2:(l++[s]).drop (l.length+1)=[]:=Cmb (by simp);have t3:(l++[s]).take j=l.take j:=Cyb h1;rw[t1]at h4;rw[t1,t2,t3,Yc]at h3;refine⟨j,h1,?_,h4,λ h=>?_⟩
 ·unfold Zfa;rw[h2,h3]
 ·have:=h5 h;rwa [Vb,Yj (by omega),← Vb]at this
def spl (l:List ByteArray) (s:ByteArray):List ByteArray:=bif Rla l s then l else Zfa l s
def Z9 {l:List ByteArray} {s y:ByteArray}:y∈spl l s↔y=s∨y∈l:=by
 unfold spl
 cases h:Rla l s with
 |true=>
  have:=M5.1 h;exact⟨.inr,λ h=>h.elim (λ e=>e ▸ this) id⟩
 |false=>
  obtain⟨j,_,e,_⟩:=W2 (l:=l) (s:=s);rw[cond_false,e,Vl,Vk]
  conv=>rhs;rw[← Wh j l,Vl]
  constructor
  ·rintro (h|h|h)
   ·exact .inr (.inl h)
   ·exact .inl h
   ·exact .inr (.inr h)
  ·rintro (h|h|h)
   ·exact .inr (.inl h)
   ·exact .inl h
   ·exact .inr (.inr h)
def W3 {l:List ByteArray} {s:ByteArray} (h:TS l):TS (spl l s):=by
 unfold spl;cases hh:Rla l s
 case true=>exact h
 have hn:s∉l:=λ c=>by rw[M5.2 c]at hh;cases hh
 obtain⟨j,h1,e,h4,h5⟩:=W2 (l:=l) (s:=s);rw[cond_false,e]
 have hs:∀ y∈l.take j,tlt y s=true:=by
  intro y hy
  by_cases hj:0<j
  ·have hlast:l.getD (j-1) Li∈l:=A3 (by omega)
   have hlt:tlt (l.getD (j-1) Li) s=true:=by
    cases hc:tlt (l.getD (j-1) Li) s with
    |true=>rfl
    |false=>exact absurd (T5 hc (h5 hj) ▸ hlast) hn
   obtain⟨i,hi,rfl⟩:=Yr.1 hy;rw[Vq]at hi;rw[Cqb]
   by_cases hij:i=j-1
   ·subst hij;rwa [Vb,Vg (by omega),Wp]at hlt
   ·have:=Yq.1 h i (j-1) (by omega) (by omega) (by omega);rw[Vb,Vg (by omega),Wp]at hlt;exact I3 this hlt
  ·rw[show j=0 by omega,B7b]at hy;cases hy
 have hd:TS (l.drop j):=h.sublist (List.drop_sublist _ _);have ht:TS (l.take j):=h.sublist (Dib _ _)
 exact Zg.2 ⟨ht,Wd.2 ⟨h4,hd⟩,λ a ha b hb=>by
  rcases Vk.1 hb with rfl|hb
  ·exact hs a ha
  ·exact I3 (hs a ha) (h4 b hb)⟩

abbrev Evt:=Int×Int×ByteArray×List Int×Int×List Int
def A4b (l:List Int):List Bool:=l.map (· == 1)
def crN (n:Nod) (kp:List Bool):Nod:=(n.1,Re n.2.1 kp,n.2.2)
def Yqa {n:Nod} {kp:List Bool} (hn:NG n):NG (crN n kp):=Z2 hn (Vva hn.g)
def Yra (w:Wld) (i:Nat) (s:ByteArray) (b:Int):Bool×Wld:=bif (N8a (w.2.2.1.getD i Ae) s b).2 then (true,(w.1,w.2.1,w.2.2.1.set i (N8a (w.2.2.1.getD i Ae) s b).1,w.2.2.2.1,w.2.2.2.2.1,spl w.2.2.2.2.2 s)) else (false,w)
def Nsa (w:Wld) (e:Evt) (i:Nat):Bool×Wld:=
 bif e.1==3 then Md w i e.2.2.1 e.2.2.2.2.2 else bif e.1==4 then Me w i e.2.2.2.2.2 else bif e.1==5 then On w i e.2.2.2.2.2 else
 bif e.1==6 then (true,wN w (w.2.2.1.set i (Toa (w.2.2.1.getD i Ae)).1)) else
 bif e.1==7 then (true,wN w (w.2.2.1.set i (crN (w.2.2.1.getD i Ae) (A4b e.2.2.2.2.2)))) else Yra w i e.2.2.1 e.2.2.2.2.1
def Nta (w:Wld) (i wt:Int):Bool×Wld:=bif !(inR i 0 ((w.1.length:Int)-1)) then (false,w) else bif !(inR wt 1 1000) then (false,w) else
 (decide ((J9a w.2.1 (wgt w.1 i.toNat wt)).2≥0),(wgt w.1 i.toNat wt,(J9a w.2.1 (wgt w.1 i.toNat wt)).1,w.2.2))
def X0a (r:Int×Wld):Bool×Wld:=bif r.1 != 2 then (r.1 != 3,r.2) else (false,r.2)
def doW (w:Wld) (e:Evt):Bool×Wld:=
 bif e.1==1 then X0a (ask w e.2.2.1 ((0,0,0),false,e.2.2.2.1) e.2.2.2.2.1 e.2.2.2.2.2) else
 bif e.1==2 then X0a (ask w e.2.2.1 ((0,0,0),true,[]) e.2.2.2.2.1 e.2.2.2.2.2) else
 bif e.1==3||(e.1==4||(e.1==5||(e.1==6||(e.1==7||e.1==8)))) then (bif inR e.2.1 0 ((w.2.2.1.length:Int)-1) then Nsa w e e.2.1.toNat else (false,w)) else
 bif e.1==9 then Nta w e.2.1 e.2.2.2.2.1 else (false,w)

end Go.Proofs.Ytcpligincipmhaa.Vf
