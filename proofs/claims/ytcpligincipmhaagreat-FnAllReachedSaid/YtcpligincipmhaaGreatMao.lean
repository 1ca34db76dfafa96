import Derived.Test.YtcpligincipmhaaGreatMan
import Derived.Test.YtcpligincipmhaaGreatMaj
set_option linter.all false
namespace Go.Proofs.YtcpligincipmhaaGreat.Vf
open Go
open List (length getD)
open Int (toNat)
open Go.IntKind (wrap)
open BitVec (ofInt)

def Dqa (l:List Dev) (parts reps:Int) (z:Rng) (hl:Hr l=true) (h0:0≤reps) (h5:reps≤5) (ps:List (List Int)) (hps:ps.length≤100) (hq:∀ q∈ps,q.length≤100):∀ (n:Nat) (p:List Int),p.length+n=reps.toNat→
  Tot (λ k=>Ff k l reps (ps.length:Int) parts (ps.length:Int) reps (p.length:Int) z (reps,ps++[p])) (λ x=>x=(l,reps,parts,(ps.length:Int),z,(reps,ps++[V8 l reps ps n p]))):=by
 intro n
 induction n with
 |zero=>
  intro p hp;refine Tot.succ ?_;simp (disch:=omega) only [Ff,dF];exact Brb rfl
 |succ n ih=>
  intro p hp;refine Tot.succ ?_
  have hrb:RBd (reps,ps++[p]):=⟨by simp only[Vi,Vh,Vq];omega,λ q hq'=>by
   rcases Vm.1 hq' with h|h
   ·have:=hq q h;omega
   ·rw[Vn.1 h];omega⟩
  have hlen:(ps++[p]).length=ps.length+1:=by simp
  simp (disch:=omega) only [Ff,dT,Vj,w64,hlen,D5a,Hua];refine C3b (S2a (reps,ps++[p]) p l hrb (by omega) hl) ?_;refine Bzb (by simp only[Vh,Vq];omega) ?_;have:=ih (p++[Sx (reps,ps++[p]) p l]) (by simp only[Vi,Vh,Vq];omega);rw[show (((p++[Sx (reps,ps++[p]) p l]).length:Nat):Int)=(p.length:Int)+1 by simp]at this;exact this
def Pca (l:List Dev) (parts reps:Int) (hll:l.length≤5000000):Tot (λ k=>Ee k l parts reps) (λ x=>x=build l parts reps):=by
 unfold Ee build;refine C3b (Ama l (by omega)) ?_;cases hl:Hr l
 ·exact Bub rfl (Brb rfl)
 simp only[Yt,cond_false,Nt,Vu,Wg];cases hp:inR parts 1 64
 ·exact Bub rfl (Brb rfl)
 refine Btb rfl ?_;cases hr:inR reps 1 5
 ·exact Bub rfl (Brb rfl)
 obtain⟨r1,r2⟩:=Fx.1 hr;obtain⟨p1,p2⟩:=Fx.1 hp;refine Btb rfl ?_;cases hc:decide (reps > (l.length:Int))
 case true=>exact Bub rfl (Brb rfl)
 refine Btb rfl (Bsb (Q:=λ x=>x=(((0:Int),([]:List (List Int))),(reps,Dua l reps parts.toNat []))) ?_ (by rintro x rfl;exact Brb rfl));obtain⟨n,rfl⟩:∃ n:Nat,parts=(n:Int):=⟨parts.toNat,by omega⟩;refine C0b (L:=λ k i (s:Rng)=>Fg k l reps (n:Int) i (0,[]) s) (Q:=λ x=>x=(((0:Int),([]:List (List Int))),(reps,Dua l reps n []))) n (λ j s=>∃ ps,s=(reps,ps)∧ps.length=j∧(∀ q∈ps,q.length≤100)∧Dua l reps (n-j) ps=Dua l reps n []) ?_ ?_ 0 (reps,[]) (Vv _) ⟨[],rfl,rfl,λ q h=>(by cases h),rfl⟩
 ·rintro s ⟨ps,rfl,hps,_,h⟩;rw[D1b]at h;simp (disch:=omega) only [Fg,dF];exact Brb (by rw[← h];rfl)
 ·rintro j s hj ⟨ps,rfl,hps,hq,h⟩ next;simp (disch:=omega) only [Fg,dT];refine Bzb (by simp only[Vh,Vq];omega) ?_;have h9:=Dqa l (n:Int) reps (0,[]) hl (by omega) r2 ps (by omega) hq reps.toNat [] (by simp);rw[hps]at h9;refine Bsb h9 ?_;rintro x rfl;simp (disch:=omega) only [w64];refine next _ ⟨ps++[V8 l reps ps reps.toNat []],rfl,by rw[Vi,hps];rfl,λ q hq'=>?_,?_⟩
  ·rcases Vm.1 hq' with h'|h'
   ·exact hq q h'
   ·rw[Vn.1 h',Uj,Vq];omega
  ·rw[show n-j=(n-(j+1))+1 by omega]at h;exact h
def Fxa (i:Int):G6 i=some (bif inR i 0 20 then (i,([],[]),[],[]) else A7):=by
 unfold G6;rw[Nt];simp only[Vu]
 cases inR i 0 20<;>rfl
def Dra (l:List Dev) (parts reps:Int) (hll:l.length≤5000000):Tot (λ k=>Ch k l parts reps) (λ r=>r=bif (build l parts reps).2 then Us l parts reps else I7a):=by
 unfold Ch;refine C3b (Pca l parts reps hll) ?_
 cases hb:(build l parts reps).2 with
 |false=>exact Bub rfl (Brb rfl)
 |true=>
 obtain⟨h1,_,_,_⟩:=Om hb;have h12:=(Dy.1 h1).2.2.2;refine Btb rfl (Bzb (by rw[Vq];omega) ?_);rw[Wn,cond_true];refine Bsb (Q:=λ r=>r=(I7a,Us l parts reps)) ?_ (by rintro r rfl;exact Brb rfl);refine C0b (L:=λ k i (s:List Nod)=>Db k l (l.length:Int) i I7a (l,(build l parts reps).1,s,(0,0,0),[],[])) (Q:=λ r=>r=(I7a,Us l parts reps)) l.length (λ j s=>s=(l.take j).map Ur) ?_ ?_ 0 [] (Vv _) rfl
 ·rintro s rfl;simp (disch:=omega) only [Db,dF];exact Brb (by rw[Yx];rfl)
 ·rintro j s hj rfl next;have hd:=A3 (d:=Je) hj;obtain⟨d,ed⟩:∃ d:Dev,l.getD j Je=d:=⟨_,rfl⟩;rw[ed]at hd;have e0:l.getD j ((0:Int),((0:Int),(0:Int)))=d:=ed
  have e1:l[j]=d:=by rw[← ed,Vb,Ve hj];rfl
  have hid:=(Ie.1 ((Dy.1 h1).2.1 d hd)).1;simp (disch:=omega) only [Db,dT,Vj,w64,e0,Fxa,Vu]
  have hl:((l.take j).map Ur).length=j:=by rw[Wc,Vs];omega
  rw[Fx.2 hid,cond_true];refine Bzb (by rw[hl];simp only[Vh,Vq];omega) (next _ ?_);rw[We hj,Ceb,e1];rfl
def Aza (l:List Dev) (parts reps:Int) (hll:l.length≤5000000) (hb:(build l parts reps).2=false):Tot (λ k=>Bx k l parts reps) (λ r=>r=I7a):=by
 unfold Bx;refine C3b (D7a l parts reps hll) ?_;exact Bzb (by rw[Vq];omega) (Bub (by rw[hb];rfl) (Brb rfl))
def Pda (c:Cur) (hc:Re c):Tot (λ k=>Hg k c) (λ r=>r.1.length≤6∧Re r.2):=by
 unfold Hg;refine Bsb (K1a c hc) ?_;rintro⟨l,c1⟩ ⟨hl,hn,k1⟩;dsimp only at hl hn k1 ⊢;obtain⟨x,c2,e2,x0,x1,_,k2⟩:=Kk c1 k1 (l.length:Int) (by omega);have x1:=x1 (by omega);refine C3b (C4b (Q:=λ r=>r=(x,c2)) e2 rfl) ?_;obtain⟨y,c3,e3,_,_,_,k3⟩:=Kk c2 k2 12 (by decide);refine C3b (C4b (Q:=λ r=>r=(y,c3)) e3 rfl) ?_;dsimp only;refine Bxb (λ _=>?_) (λ _=>Bxb (λ _=>?_) (λ _=>Bxb (λ _=>?_) (λ _=>Bxb (λ _=>?_) (λ _=>Brb ⟨hn.2,k3⟩))))
 ·obtain⟨v,c4,e4,_,k4⟩:=Mu c3 k3 [(-1),0,20,21] (by decide) (by decide);refine C3b (C4b (Q:=λ r=>r=(v,c4)) e4 rfl) ?_;exact Bvb x0 (Bvb x1 (Brb ⟨by dsimp only;rw[List.length_set];exact hn.2,k4⟩))
 ·obtain⟨v,c4,e4,_,k4⟩:=Mu c3 k3 [(-1),20,21] (by decide) (by decide);refine C3b (C4b (Q:=λ r=>r=(v,c4)) e4 rfl) ?_;exact Bvb x0 (Bvb x1 (Brb ⟨by dsimp only;rw[List.length_set];exact hn.2,k4⟩))
 ·obtain⟨v,c4,e4,_,k4⟩:=Mu c3 k3 [0,1000,1001] (by decide) (by decide);refine C3b (C4b (Q:=λ r=>r=(v,c4)) e4 rfl) ?_;exact Bvb x0 (Bvb x1 (Brb ⟨by dsimp only;rw[List.length_set];exact hn.2,k4⟩))
 ·exact Bvb (by omega) (Brb ⟨by dsimp only;rw[List.length_take];omega,k3⟩)

def X8a {cs:List Int} (h:cs.Nodup) {i j:Nat} (hi:i<cs.length) (hj:j<cs.length) (hij:i≠j) (h0:∀ x∈cs,0≤x):(cs.getD i 0).toNat≠(cs.getD j 0).toNat:=λ e=>by
 have a:=h0 _ (A3 (d:=0) hi);have b:=h0 _ (A3 (d:=0) hj)
 have e':cs.getD i 0=cs.getD j 0:=by omega
 rw[Vb,Vb,Ve hi,Ve hj]at e';rw[Wo,Wo]at e';rcases Nat.lt_or_gt_of_ne hij with hl|hl
 ·exact(Yn.1 h i j hi hj hl) e'
 ·exact(Yn.1 h j i hj hi hl) e'.symm

def Uxa (i:Int) (s:ByteArray) (f:Fil) (sure:Bool):Nod:=(i,([(s,H0 f)],bif sure then [(s,H0 f)] else []),[],bif sure then [M7 s f] else [])
def K8a (i:Int) {s:ByteArray} {f:Fil} (sure:Bool) (g1:B0 s=true) (g2:D8 f=true):Ll (i,([],[]),[],[]) s f sure=(Uxa i s f sure,0):=by
 have e1:wr [] s (H0 f)=[(s,H0 f)]:=rfl
 have e2:wrD ([],[]) s (H0 f)=(([(s,H0 f)],[]),true):=by
  unfold wrD;rw[decide_eq_true (show (H0 f).length≤400 by have:=Sw f;omega)];rfl
 have e3:sy (([(s,H0 f)],[]):Dsk) s=[(s,H0 f)]:=by
  unfold sy;rw[show gt (([(s,H0 f)],[]):Dsk).1 s=some (H0 f) by rw[Ue,if_pos rfl]];rfl
 have e5:kp1 ([],[]) s f=some ((([(s,H0 f)],[]):Dsk),0):=by
  unfold kp1;rw[e2];rfl
 have e6:keep ([],[]) s f sure=(([(s,H0 f)],bif sure then [(s,H0 f)] else []),0):=by
  rw[M5 dg0.1 g1 g2];unfold It;rw[e5];show kp2 ([],[]) s sure (([(s,H0 f)],[]),0)=_;cases sure
  ·rfl
  ·unfold kp2 syD;rw[e3];rfl
 unfold Ll Uxa;dsimp only;rw[e6]
 cases sure<;>rfl
def T0a {i:Int} {s:ByteArray} {f:Fil} {sure:Bool} (g2:D8 f=true) (g3:Aq f.2.2) (t:ByteArray):old (Uxa i s f sure).2.1 t=if s=t then some f else none:=by
 unfold Uxa old;show (gt [(s,H0 f)] t).bind K6=_;rw[Ue]
 by_cases h:s=t
 ·rw[if_pos h,if_pos h,Vu,My g2 g3]
 ·rw[if_neg h,if_neg h];rfl
def X9a {R:Int} {rc:List Int} {s:ByteArray} {f:Fil} {cs:List Int} {ns:List Nod} {q g v:Int} {j:Nat} (hq:q<R) (hv:rch rc j=v) (hv0:v≠0) (g1:B0 s=true) (g2:D8 f=true) (he:(ns.getD (cs.getD j 0).toNat A7).2=(([],[]),[],[])):
  wst R rc s f cs (ns,q,g) j=(ns.set (cs.getD j 0).toNat (Uxa (ns.getD (cs.getD j 0).toNat A7).1 s f (v != 3)),q+1,bif v==1 then g+1 else g):=by
 unfold wst;dsimp only;rw[decide_eq_true hq,hv,cond_true,show (v==0)=false from beq_eq_false_iff_ne.2 hv0,cond_false];have e:ns.getD (cs.getD j 0).toNat A7=((ns.getD (cs.getD j 0).toNat A7).1,([],[]),[],[]):=Prod.ext rfl he;generalize ns.getD (cs.getD j 0).toNat A7=n at *;rw[e,K8a n.1 (v != 3) g1 g2]
 cases v==1<;>rfl
def Pea {cs:List Int} {j:Nat} (hj:j<cs.length) (m:Int):Gp (cs.take (j+1)) m=(Gp (cs.take j) m||cs.getD j 0==m):=by
 rw[Cxb,Zt,H7,H7,We hj,Vm,Vn,beq_iff_eq,Vb,Ve hj,Wo];exact⟨λ h=>h.imp id Eq.symm,λ h=>h.imp id Eq.symm⟩
def Pfa {w:Wld} {s:ByteArray} {f:Fil} {rc:List Int} {v:Int} {K:Nat} (hK:w.2.1.1=(K:Int)) (hcs:(contacts w s).Nodup) (hKl:K≤(contacts w s).length) (hv0:v≠0) (hv:∀ j,j<K→rch rc j=v) (g1:B0 s=true) (g2:D8 f=true) (he:∀ m,m<w.2.2.1.length→(w.2.2.1.getD m A7).2=(([],[]),[],[])):
  (wrN w s f rc).2=((K:Int),bif v==1 then (K:Int) else 0)∧(wrN w s f rc).1.length=w.2.2.1.length∧
  ∀ m,m<w.2.2.1.length→(wrN w s f rc).1.getD m A7=bif Gp ((contacts w s).take K) (m:Int) then Uxa (w.2.2.1.getD m A7).1 s f (v != 3) else w.2.2.1.getD m A7:=by
 have hat:=λ x=>J4 (w:=w) (s:=s) (x:=x);unfold wrN;generalize contacts w s=cs at *;have h0:∀ x∈cs,0≤x:=λ x hx=>(hat x hx).1
 have hN:∀ j,j<cs.length→(cs.getD j 0).toNat<w.2.2.1.length:=λ j hj=>by have:=hat _ (A3 (d:=0) hj);omega
 have key:∀ j,j≤K→(run (wst w.2.1.1 rc s f cs) j (w.2.2.1,0,0)).2=((j:Int),bif v==1 then (j:Int) else 0)∧(run (wst w.2.1.1 rc s f cs) j (w.2.2.1,0,0)).1.length=w.2.2.1.length∧
   ∀ m,m<w.2.2.1.length→(run (wst w.2.1.1 rc s f cs) j (w.2.2.1,0,0)).1.getD m A7=bif Gp (cs.take j) (m:Int) then Uxa (w.2.2.1.getD m A7).1 s f (v != 3) else w.2.2.1.getD m A7:=by
  intro j
  induction j with
  |zero=>intro _;exact⟨by cases v==1<;>rfl,rfl,λ m _=>rfl⟩
  |succ j ih=>
   intro hj;obtain⟨i1,i2,i3⟩:=ih (by omega);rw[J1];generalize run (wst w.2.1.1 rc s f cs) j (w.2.2.1,0,0)=a at *;obtain⟨ns,q,g⟩:=a;dsimp only at i1 i2 i3;obtain⟨rfl,rfl⟩:=Prod.mk.inj i1;have hp:=hN j (by omega);have hc0:=h0 _ (A3 (d:=0) (show j<cs.length by omega))
   have hni:Gp (cs.take j) (((cs.getD j 0).toNat:Nat):Int)=false:=by
    cases hh:Gp (cs.take j) (((cs.getD j 0).toNat:Nat):Int) with
    |false=>rfl
    |true=>
     rw[H7,show (((cs.getD j 0).toNat:Nat):Int)=cs.getD j 0 by omega]at hh;obtain⟨i,hi,e⟩:=Yh.1 hh;rw[Vs]at hi;rw[D8b]at e;exact absurd (show (cs.getD i 0).toNat=(cs.getD j 0).toNat by rw[← e,Vb (i:=i),Ve (by omega),Wo]) (X8a hcs (by omega) (by omega) (by omega) h0)
   have hcur:=i3 _ hp;rw[hni,cond_false]at hcur;rw[X9a (v:=v) (by rw[hK];omega) (hv j (by omega)) hv0 g1 g2 (by rw[hcur];exact he _ hp)]
   refine⟨by cases v==1<;>simp,by show (ns.set _ _).length=_;rw[Vt];exact i2,λ m hm=>?_⟩
   show (ns.set (cs.getD j 0).toNat _).getD m A7=_;rw[Bl (show m<ns.length by omega),Pea (by omega)]
   by_cases e:(cs.getD j 0).toNat=m
   ·rw[if_pos e,hcur,e,show (cs.getD j 0==(m:Int))=true from beq_iff_eq.2 (by omega),Bool.or_true];rfl
   ·rw[if_neg e,i3 m hm,show (cs.getD j 0==(m:Int))=false from beq_eq_false_iff_ne.2 (by omega),C5b]
 obtain⟨k1,k2,k3⟩:=key K (Vw _)
 have hst:=Sha (st:=wst w.2.1.1 rc s f cs) (a:=(w.2.2.1,(0:Int),(0:Int))) (j:=K) (n:=cs.length) hKl (λ i=>by
  have hs0:∀ a:List Nod×Int×Int,a.2.1=(K:Int)→wst w.2.1.1 rc s f cs a i=a:=λ a ha=>by
   unfold wst;rw[ha,hK,decide_eq_false (show ¬ (K:Int)<(K:Int) by omega)];rfl
  exact hs0 _ (by rw[k1]))
 rw[hst];exact⟨k1,k2,k3⟩
def Xaa {ns:List Nod} {id:Int} (h:id∈ns.map (·.1)):1≤(atN ns id 0).length:=by
 obtain⟨n,hn,rfl⟩:=Yw.1 h;obtain⟨j,hj,e⟩:=Yh.1 hn;have:=(Rk n.1 ns 0 ((0+j:Nat):Int)).2 ⟨j,hj,by rw[Vb,Ve hj,Wo,e],rfl⟩;exact Cgb this
def Pga {ns:List Nod}:∀ {ids:List Int},(∀ i∈ids,i∈ns.map (·.1))→ids.length≤(whr ns ids).length
 |[],_=>Vv _
 |i::ids,h=>by
  rw[Sz,Vi,Vh];have:=Xaa (h i Wl);have:=Pga (ids:=ids) (λ x hx=>h x (Vd _ hx));omega
def WO.prims {w:Wld} (h:WO w) (s:ByteArray):((I0 w s).length:Int)=w.2.1.1∧(contacts w s).take (I0 w s).length=I0 w s∧(I0 w s).length≤(contacts w s).length:=by
 have p:=Pj h.ring s;have h1:=Fva h.nodup (N8 w.2.1 s);have h2:=Pga (ns:=w.2.2.1) (ids:=N8 w.2.1 s) (λ i hi=>by rw[h.ids];exact Lc.1 (p.2.2 i hi));have e:contacts w s=I0 w s++whr w.2.2.1 (Ld w.2.1 w.1 s):=Wta _ _ _;refine⟨?_,by rw[e,Dkb  rfl],by rw[e,Vi];omega⟩;have:=p.2.1;unfold I0;omega

def T1a {d:Dsk} {s:ByteArray} {f:Fil} (hd:DG d) (h:old d s=some f):B0 s=true∧D8 f=true∧Aq f.2.2:=by
 unfold old at h
 cases hg:gt d.1 s with
 |none=>rw[hg]at h;cases h
 |some b=>
  rw[hg]at h;have h1:=(B5.1 (Ea.1 hd.1).1).2.1 _ (K7 hg);unfold nOk at h1;rw[Va]at h1;exact⟨h1.1,Paa h⟩
def Fya {w:Wld} (h:WO w) {i:Nat} (hi:i<w.2.2.1.length) {s:ByteArray} {f:Fil} {rc:List Int} (hf:oN w.2.2.1 i s=some f) {T:Stp} (ht:Pra w.2.2.1 s T):
  NS (puN w i s rc).1∧(puN w i s rc).1.length=w.2.2.1.length∧Pra (puN w i s rc).1 s T∧(∀ t,t≠s→∀ m,m<w.2.2.1.length→oN (puN w i s rc).1 m t=oN w.2.2.1 m t)∧oN (puN w i s rc).1 i s=some f∧
  (puN w i s rc).2.1=inP w s i∧((puN w i s rc).2.2=true→∀ x∈I0 w s,x≠(i:Int)→∃ o,oN (puN w i s rc).1 x.toNat s=some o∧sle o.1 f.1=false):=by
 obtain⟨g1,g2,g3⟩:=T1a (h.ns.get hi).g hf
 have hlk:(lkD (w.2.2.1.getD i A7).2.1 s).1=f:=by rw[Fta hf]
 have hat:=λ x=>Jj (w:=w) (s:=s) (x:=x);have hns:=h.ns;have hT:=ht.1 i hi f hf;unfold puN inP;rw[hlk];generalize I0 w s=ps at *
 have key:=Hs (st:=pst (i:Int) s f rc ps) (n:=ps.length) (a:=(w.2.2.1,false,true)) (λ j (a:List Nod×Bool×Bool)=>NS a.1∧a.1.length=w.2.2.1.length∧Pra a.1 s T∧(∀ t,t≠s→∀ m,m<w.2.2.1.length→oN a.1 m t=oN w.2.2.1 m t)∧oN a.1 i s=some f∧
  a.2.1=Gp (ps.take j) (i:Int)∧(a.2.2=true→∀ x∈ps.take j,x≠(i:Int)→∃ o,oN a.1 x.toNat s=some o∧sle o.1 f.1=false)) ⟨hns,rfl,ht,λ _ _ _ _=>rfl,hf,rfl,λ _ x hx=>by rw[Zz]at hx;cases hx⟩ ?_
 ·rw[Yx]at key;exact key
 ·rintro j ⟨ns,o,g⟩ hj ⟨a1,a2,a3,a4,a5,a6,a7⟩;dsimp only at a1 a2 a3 a4 a5 a6 a7;have hpx:=hat _ (A3 (d:=0) hj);obtain⟨p,hp⟩:∃ p:Nat,ps.getD j 0=(p:Int):=⟨(ps.getD j 0).toNat,by omega⟩
  have e:ps[j]=(p:Int):=by rw[← hp,Vb,Ve hj];rfl
  have htk:∀ x:Int,Gp (ps.take (j+1)) x=(Gp (ps.take j) x||(p:Int)==x):=λ x=>by
   unfold Gp;rw[We hj,Ebb,e,D6b,F0b,C5b]
  have hmem:∀ x,x∈ps.take (j+1)→x∈ps.take j∨x=(p:Int):=λ x hx=>by
   rw[We hj,Vm,Vn,e]at hx;exact hx
  unfold pst;rw[hp,Vj]
  cases hpi:(p:Int)==(i:Int) with
  |true=>
   refine⟨a1,a2,a3,a4,a5,?_,λ hg x hx hne=>?_⟩
   ·show true=_;rw[htk,hpi,Bool.or_true]
   ·rcases hmem x hx with h|rfl
    ·exact a7 hg x h hne
    ·exact absurd (eq_of_beq hpi) hne
  |false=>
   rw[cond_false]
   cases rch rc j != 1 with
   |true=>
    refine⟨a1,a2,a3,a4,a5,?_,λ c=>by cases c⟩;show o=_;rw[a6,htk,hpi,C5b]
   |false=>
    have ne:p≠i:=by intro e;rw[e,beq_self_eq_true]at hpi;cases hpi
    have hpn:p<ns.length:=by omega
    have hni:=a1.get hpn;obtain⟨k1,k2,k3⟩:=Sza hni.g g1 g2 g3
    have eo:∀ m,m<w.2.2.1.length→∀ t,oN (ns.set p ((ns.getD p A7).1,(keep (ns.getD p A7).2.1 s f true).1,(ns.getD p A7).2.2)) m t=if p=m then old (keep (ns.getD p A7).2.1 s f true).1 t else oN ns m t:=λ m hm t=>by
     unfold oN;rw[Bl (by omega)]
     by_cases h:p=m
     ·rw[if_pos h,if_pos h]
     ·rw[if_neg h,if_neg h]
    refine⟨a1.set (Un hni),by show (ns.set _ _).length=_;rw[Vt];exact a2,a3.set hpn (k2.imp id λ ⟨q1,q2⟩=>⟨f,q1,hT,q2⟩),λ t hts m hm=>?_,?_,?_,λ hg x hx hne=>?_⟩
    ·show oN (ns.set p _) m t=_;rw[eo m hm t]
     by_cases h:p=m
     ·subst h;rw[if_pos rfl,k1 t hts];exact a4 t hts p hm
     ·rw[if_neg h];exact a4 t hts m hm
    ·show oN (ns.set p _) i s=_;rw[eo i hi s,if_neg ne];exact a5
    ·show o=_;rw[a6,htk,hpi,C5b]
    ·have hg':(bif (keep (ns.getD p A7).2.1 s f true).2 != 0&&(keep (ns.getD p A7).2.1 s f true).2 != 1 then false else g)=true:=hg
     have hg2:((keep (ns.getD p A7).2.1 s f true).2=0∨(keep (ns.getD p A7).2.1 s f true).2=1)∧g=true:=by
      cases hk:(keep (ns.getD p A7).2.1 s f true).2 != 0&&(keep (ns.getD p A7).2.1 s f true).2 != 1 with
      |true=>rw[hk]at hg';cases hg'
      |false=>
       rw[hk]at hg';rw[Dvb,bne,bne,Ye,Ye,beq_iff_eq,beq_iff_eq]at hk;exact⟨hk,hg'⟩
     show ∃ o,oN (ns.set p _) x.toNat s=some o∧_
     by_cases hxp:x=(p:Int)
     ·subst hxp;rw[Vj,eo p (by omega) s,if_pos rfl];exact k3 hg2.1
     ·have hxj:=(hmem x hx).resolve_right hxp;have hxa:=hat x (Zw hxj);obtain⟨y,y1,y2⟩:=a7 hg2.2 x hxj hne;rw[eo x.toNat (by omega) s,if_neg (λ c=>hxp (by omega))];exact⟨y,y1,y2⟩
def Pha (ns:List Nod) (s:ByteArray) (h:∃ i,i<ns.length∧∃ f,oN ns i s=some f):∃ T,Pra ns s T:=by
 have key:∀ k,k≤ns.length→(∃ i,i<k∧∃ f,oN ns i s=some f)→∃ T,(∀ m,m<k→∀ o,oN ns m s=some o→sle T o.1=false)∧∃ m,m<k∧∃ o,oN ns m s=some o∧o.1=T:=by
  intro k
  induction k with
  |zero=>rintro _ ⟨i,hi,_⟩;omega
  |succ k ih=>
   rintro hk ⟨i,hi,f,hf⟩
   by_cases hp:∃ i,i<k∧∃ f,oN ns i s=some f
   ·obtain⟨T,h1,m,hm,o,h2,h3⟩:=ih (by omega) hp
    cases hq:oN ns k s with
    |none=>exact⟨T,λ m hm o ho=>by
      by_cases e:m=k
      ·rw[e,hq]at ho;cases ho
      ·exact h1 m (by omega) o ho,m,by omega,o,h2,h3⟩
    |some g=>
     cases hs:sle T g.1 with
     |false=>exact⟨T,λ m hm o ho=>by
       by_cases e:m=k
       ·rw[e,hq]at ho;cases ho;exact hs
       ·exact h1 m (by omega) o ho,m,by omega,o,h2,h3⟩
     |true=>exact⟨g.1,λ m hm o ho=>by
       by_cases e:m=k
       ·rw[e,hq]at ho;cases ho;exact G5 _
       ·exact N4 (Ny hs) (h1 m (by omega) o ho),k,by omega,g,hq,rfl⟩
   ·have e:i=k:=by
     by_cases c:i=k
     ·exact c
     ·exact absurd ⟨i,by omega,f,hf⟩ hp
    subst e
    exact⟨f.1,λ m hm o ho=>by
     by_cases c:m=i
     ·subst c;rw[hf]at ho;cases ho;exact G5 _
     ·exact absurd ⟨m,by omega,o,ho⟩ hp,i,by omega,f,hf,rfl⟩
 exact key _ (Vw _) h
def Lat (ns ms:List Nod) (s:ByteArray):Prop:=(∀ T,Pra ns s T→Pra ms s T)∧((∀ m,m<ns.length→oN ns m s=none)→∀ m,m<ms.length→oN ms m s=none)
def Lat.refl (ns:List Nod) (s:ByteArray):Lat ns ns s:=⟨λ _ h=>h,λ h=>h⟩
def Lat.trans {a b c:List Nod} {s:ByteArray} (h1:Lat a b s) (h2:Lat b c s):Lat a c s:=⟨λ T h=>h2.1 T (h1.1 T h),λ h=>h2.2 (h1.2 h)⟩
def Lat.same {ns ms:List Nod} {s:ByteArray} (hl:ms.length=ns.length) (h:∀ m,m<ns.length→oN ms m s=oN ns m s):Lat ns ms s:=
 ⟨λ T ⟨h1,m,hm,o,h2,h3⟩=>⟨λ m hm o ho=>h1 m (by omega) o (by rw[← h m (by omega)];exact ho),m,by omega,o,by rw[h m hm];exact h2,h3⟩,λ hn m hm=>by rw[h m (by omega)];exact hn m (by omega)⟩
def Pia {w:Wld} (h:WO w) {i:Nat} (hi:i<w.2.2.1.length) (s:ByteArray) (rc:List Int) (t:ByteArray):Lat w.2.2.1 (N9 w i s rc).2.2.2.1 t:=by
 unfold N9;rw[Ifa]
 cases ho:oN w.2.2.1 i s with
 |none=>
  have e1:old (w.2.2.1.getD i A7).2.1 s=none:=ho;rw[e1];exact Lat.refl _ _
 |some f=>
  have e1:old (w.2.2.1.getD i A7).2.1 s=some f:=ho;rw[e1];show Lat w.2.2.1 (bif (puN w i s rc).2.2&&!(puN w i s rc).2.1 then (puN w i s rc).1.set i (Xva ((puN w i s rc).1.getD i A7) s) else (puN w i s rc).1) t
  have out:∀ ns:List Nod,NS ns→i<ns.length→oN ns i s=some f→∀ m,m<ns.length→∀ t,oN (ns.set i (Xva (ns.getD i A7) s)) m t=if i=m∧s=t then none else oN ns m t:=λ ns hns hin hs m hm t=>by
   unfold oN;rw[Bl hm]
   by_cases e:i=m
   ·subst e;rw[if_pos rfl];have hg:=(hns.get hin).g
    have hgs:(gt (ns.getD i A7).2.1.1 s).isSome=true:=by
     have hs':old (ns.getD i A7).2.1 s=some f:=hs;unfold old at hs'
     cases hq:gt (ns.getD i A7).2.1.1 s with
     |none=>rw[hq]at hs';cases hs'
     |some b=>rfl
    show old (syD (rmD (ns.getD i A7).2.1 s).1 s).1 t=_;rw[Ova hg hgs t]
    by_cases hst:s=t
    ·rw[if_pos hst,if_pos ⟨rfl,hst⟩]
    ·rw[if_neg hst,if_neg (λ c=>hst c.2)]
   ·rw[if_neg e,if_neg (λ c=>e c.1)]
  refine⟨λ T hT=>?_,λ hn=>?_⟩
  ·by_cases hts:t=s
   ·subst hts;obtain⟨p1,p2,p3,p4,p5,p6,p7⟩:=Fya (rc:=rc) h hi ho hT
    cases hc:(puN w i t rc).2.2&&!(puN w i t rc).2.1 with
    |false=>exact p3
    |true=>
     rw[Va,Vz]at hc;rw[cond_true];have eo:=out _ p1 (by omega) p5;obtain⟨h1,m,hm,o,h2,h3⟩:=p3;refine⟨λ m hm o hq=>?_,?_⟩
     ·rw[Vt]at hm;rw[eo m hm t]at hq
      by_cases c:i=m∧t=t
      ·rw[if_pos c]at hq;cases hq
      ·rw[if_neg c]at hq;exact h1 m hm o hq
     ·by_cases him:i=m
      ·subst him;rw[p5]at h2;obtain rfl:=D4b h2;obtain⟨x,hx⟩:=Cbb (Uq (s:=t) h.ring h.ids);have hxa:=Jj hx
       have hne:x≠(i:Int):=λ e=>by
        subst e;have:inP w t i=true:=H7.2 hx;rw[p6,this]at hc;cases hc.2
       obtain⟨y,y1,y2⟩:=p7 hc.1 x hx hne;refine⟨x.toNat,by rw[Vt];omega,y,?_,?_⟩
       ·rw[eo x.toNat (by omega) t,if_neg (λ c=>hne (by omega))];exact y1
       ·rw[h3]at y2;exact Uwa y2 (h1 x.toNat (by omega) y y1)
      ·refine⟨m,by rw[Vt];exact hm,o,?_,h3⟩;rw[eo m hm t,if_neg (λ c=>him c.1)];exact h2
   ·have hTs:∃ S,Pra w.2.2.1 s S:=Pha _ s ⟨i,hi,f,ho⟩;obtain⟨S,hS⟩:=hTs;obtain⟨p1,p2,p3,p4,p5,p6,p7⟩:=Fya (rc:=rc) h hi ho hS;refine(Lat.same (ns:=w.2.2.1) ?_ λ m hm=>?_).1 T hT
    ·cases (puN w i s rc).2.2&&!(puN w i s rc).2.1 with
     |false=>exact p2
     |true=>rw[cond_true,Vt];exact p2
    ·cases (puN w i s rc).2.2&&!(puN w i s rc).2.1 with
     |false=>exact p4 t hts m hm
     |true=>
      rw[cond_true,out _ p1 (by omega) p5 m (by omega) t,if_neg (λ c=>hts c.2.symm)];exact p4 t hts m hm
  ·by_cases hts:t=s
   ·subst hts;rw[hn i hi]at ho;cases ho
   ·obtain⟨S,hS⟩:=Pha w.2.2.1 s ⟨i,hi,f,ho⟩;obtain⟨p1,p2,p3,p4,p5,p6,p7⟩:=Fya (rc:=rc) h hi ho hS;refine(Lat.same (ns:=w.2.2.1) ?_ λ m hm=>?_).2 hn
    ·cases (puN w i s rc).2.2&&!(puN w i s rc).2.1 with
     |false=>exact p2
     |true=>rw[cond_true,Vt];exact p2
    ·cases (puN w i s rc).2.2&&!(puN w i s rc).2.1 with
     |false=>exact p4 t hts m hm
     |true=>
      rw[cond_true,out _ p1 (by omega) p5 m (by omega) t,if_neg (λ c=>hts c.2.symm)];exact p4 t hts m hm

def DS (ns ms:List Nod):Prop:=∀ m,(ms.getD m A7).2.1=(ns.getD m A7).2.1
def DS.set {ns ms:List Nod} (h:DS ns ms) {p:Nat} {x:Nod} (hx:x.2.1=(ms.getD p A7).2.1):DS ns (ms.set p x):=λ m=>by
 rw[← h m]
 by_cases hm:m<ms.length
 ·rw[Bl hm]
  by_cases e:p=m
  ·rw[if_pos e,hx,e]
  ·rw[if_neg e]
 ·rw[Vb,Vb,Yu (by rw[Vt];omega),Yu (by omega)]
def Ila (w:Wld) (src:Int) (l:List Row) (self:Bool) (rc:List Int):DS w.2.2.1 (I7 w src l self rc).1:=by
 unfold I7;refine Hs (λ _ (a:List Nod×Bool)=>DS w.2.2.1 a.1) (λ _=>rfl) λ j b hj hb=>?_;unfold gst
 cases (Ar w).getD j 0==src&&!self with
 |true=>exact hb
 |false=>
  cases rch rc j != 1 with
  |true=>exact hb
  |false=>
   refine hb.set ?_;unfold tk
   cases decide ((Ky (b.1.getD ((Ar w).getD j 0).toNat A7).2.2.1 l).length > 60)<;>rfl
def T2a (w:Wld) (i:Nat) (rc:List Int):DS w.2.2.1 (N1 w i rc).2.2.2.1:=by
 have h:=Ila w (i:Int) ((w.2.2.1.getD i A7).2.2.2.take 1) true rc;unfold N1
 cases ((w.2.2.1.getD i A7).2.2.2.length:Int)==0 with
 |true=>exact λ _=>rfl
 |false=>
  show DS w.2.2.1 (bif (Ih w i rc).2 then (Ih w i rc).1.set i (Sia ((Ih w i rc).1.getD i A7) ((w.2.2.1.getD i A7).2.2.2.drop 1)) else (Ih w i rc).1)
  cases (Ih w i rc).2 with
  |true=>exact DS.set h rfl
  |false=>exact h
def T3a (w:Wld) (i:Nat) (rc:List Int):DS w.2.2.1 (M9 w i rc).2.2.2.1:=by
 have h:=Ila w (i:Int) (w.2.2.1.getD i A7).2.2.1 false rc;unfold M9
 cases ((w.2.2.1.getD i A7).2.2.1.length:Int)==0 with
 |true=>exact λ _=>rfl
 |false=>
  show DS w.2.2.1 (bif (Ha w i rc).2&&!(Gp (Ar (wN w (Ha w i rc).1)) (i:Int)) then (Ha w i rc).1.set i (Oy ((Ha w i rc).1.getD i A7)) else (Ha w i rc).1)
  cases (Ha w i rc).2&&!(Gp (Ar (wN w (Ha w i rc).1)) (i:Int)) with
  |true=>exact DS.set h rfl
  |false=>exact h
def DS.lat {ns ms:List Nod} (h:DS ns ms) (hl:ms.length=ns.length) (s:ByteArray):Lat ns ms s:=Lat.same hl λ m _=>by unfold oN;rw[h m]
def Xba {w:Wld} (h:WO w) {i:Nat} (hi:i<w.2.2.1.length) (s:ByteArray):Lat w.2.2.1 (qtA w i).2.2.1 s:=Lat.same (Ida h hi).len λ m hm=>by
 show oN (w.2.2.1.set i (Uga (w.2.2.1.getD i A7)).1) m s=_;unfold oN;rw[Bl hm]
 by_cases e:i=m
 ·subst e;rw[if_pos rfl];exact Dla (h.ns.get hi).g s
 ·rw[if_neg e]
def Uw {i:Nat} (t:ByteArray):∀ (l:List ByteArray) {w:Wld},WO w→i<w.2.2.1.length→Lat w.2.2.1 (Jz w i l).2.2.1 t
 |[],w,_,_=>Lat.refl _ _
 |s::l,w,h,hi=>by
  have h1:=Opa h hi s D0;exact(Pia h hi s D0 t).trans (Uw t l (h1.wo h) (by rw[h1.len];exact hi))
def Ux {w:Wld} (h:WO w) {i:Nat} (hi:i<w.2.2.1.length) (t:ByteArray):∀ n,Lat w.2.2.1 (I1 w i n).2.2.1 t
 |0=>Lat.refl _ _
 |n+1=>by
  have h1:=Ma h hi n;have h2:=Oqa (h1.wo h) (i:=i) (by rw[h1.len];exact hi) D0;exact(Ux h hi t n).trans ((T2a (I1 w i n) i D0).lat h2.len t)
def Xca {w:Wld} (h:WO w) {i:Nat} (hi:i<w.2.2.1.length) (t:ByteArray):Lat w.2.2.1 (qtP w i).2.2.1 t:=by
 have h1:=Ida h hi;have a1:=Xba h hi t;have h1o:=h1.wo h;have h1l:=h1.len;unfold qtP;generalize N7 ((qtA w i).2.2.1.getD i A7).2.1=l;generalize qtA w i=u at *;exact a1.trans (Uw t l h1o (by omega))
def Xda {w:Wld} (h:WO w) {i:Nat} (hi:i<w.2.2.1.length) (t:ByteArray):Lat w.2.2.1 (qtN w i).2.2.1 t:=by
 have h2:=Osa h hi;have a2:=Xca h hi t;have h2o:=h2.wo h;have h2l:=h2.len;unfold qtN qtT;generalize qtP w i=u at *;generalize (u.2.2.1.getD i A7).2.2.2.length=n;have h3:=Ma h2o (i:=i) (by omega) n;have a3:=Ux h2o (i:=i) (by omega) t n;have h3o:=h3.wo h2o;have h3l:=h3.len;generalize I1 u i n=v at *;have h4:=Ora h3o (i:=i) (by omega) D0;exact(a2.trans a3).trans ((T3a v i D0).lat h4.len t)
def Pja {w:Wld} (h:WO w) (t:ByteArray):∀ k,k≤w.2.2.1.length→Lat w.2.2.1 (run qtN k w).2.2.1 t
 |0,_=>Lat.refl _ _
 |k+1,hk=>by
  have h1:=Ota h k (by omega);have:=Xda (h1.wo h) (i:=k) (by rw[h1.len];omega) t;rw[J1];exact(Pja h t k (by omega)).trans this
def Pka {w:Wld} (h:WO w) (t:ByteArray):Lat w.2.2.1 (Jk w).2.2.1 t:=Pja h t _ (Vw _)

def Pla {l:List Dev} {p n:Int} {s:ByteArray} {d:List Int} {rc:List Int} (hs:B0 s=true) (hd:d.length≤200):
  ask (Us l p n) s ((0,0,0),false,d) 5 rc=Nx (l,(build l p n).1,l.map Ur,(5,0,0),[],[]) s ((5,0,0),false,d) rc:=by
 unfold ask;rw[hs];dsimp only;rw[decide_eq_false (show ¬ (d.length:Int) > 200 by omega)];rfl
def Pma {w:Wld} (h:WO w) {s:ByteArray} (hex:∃ m,m<w.2.2.1.length∧∃ f,oN w.2.2.1 m s=some f):∃ m,m<(Jk w).2.2.1.length∧∃ f,oN (Jk w).2.2.1 m s=some f:=by
 obtain⟨T,hT⟩:=Pha w.2.2.1 s hex;obtain⟨_,m,hm,o,h2,_⟩:=(Pka h s).1 T hT;exact⟨m,hm,o,h2⟩
def RI.only {nm:List ByteArray} {z:Wld} (h:RI nm z.2.2.1.length z) {s:ByteArray} {f:Fil} {b:Bool} (hw:z.2.2.2.2.1=[(s,f,b)]) (hex:∃ m,m<z.2.2.1.length∧∃ f,oN z.2.2.1 m s=some f) {p:Nat} (hp:p<z.2.2.1.length):oN z.2.2.1 p s=bif inP z s p then some f else none:=by
 have isf:∀ m,m<z.2.2.1.length→∀ o,oN z.2.2.1 m s=some o→o=f:=λ m hm o ho=>by
  obtain⟨x,hx,_,e⟩:=ED.now h.wi.wok ((h.wi.nodes _ (A3 (d:=A7) hm)).2.1 s) ho;rw[hw,Vn]at hx;rw[hx]at e;exact e.symm
 cases hP:inP z s p with
 |false=>exact h.fo s p hp hP
 |true=>
  obtain⟨m,hm,o,ho⟩:=hex
  have hm':inP z s m=true:=by
   cases hq:inP z s m with
   |true=>rfl
   |false=>
    have:oN z.2.2.1 m s=none:=h.fo s m hm hq;rw[ho]at this;cases this
  obtain⟨y,hy,_⟩:=h.fi s m hm hm' o ho p hp hP;have hy':oN z.2.2.1 p s=some y:=hy;rw[hy',isf p hp y hy'];rfl
def K9a {w:Wld} (h:WI w) {s:ByteArray} {f:Fil} {b:Bool} (hw:w.2.2.2.2.1=[(s,f,b)]) (hex:∃ m,m<w.2.2.1.length∧∃ f,oN w.2.2.1 m s=some f):
  RI [s] (Jk w).2.2.1.length (Jk w)∧SW w (Jk w)∧∀ p,p<w.2.2.1.length→oN (Jk w).2.2.1 p s=bif inP w s p then some f else none:=by
 have hN:Xm [s] w.2.2.2.2.1:=⟨by simp only[Vh,Vq];omega,λ x hx=>by rw[hw,Vn]at hx;rw[hx];exact Vn.2 rfl⟩;obtain⟨r,sw⟩:=Sua h hN;refine⟨r,sw,λ p hp=>?_⟩;rw[r.only (by rw[sw.ws];exact hw) (Pma h.wo hex) (by rw[sw.len];exact hp),sw.inP]
def SW.contacts {w v:Wld} (h:SW w v) (s:ByteArray):contacts v s=contacts w s:=by
 obtain⟨ns,rfl,hn⟩:=h;exact Ut hn.2.1 _
def WO.inP_at {w:Wld} (h:WO w) {s:ByteArray} {j:Nat} (hj:j<(contacts w s).length):inP w s ((contacts w s).getD j 0).toNat=decide ((j:Int)<w.2.1.1):=by
 obtain⟨p1,p2,p3⟩:=h.prims s;have hn:=h.contacts_nodup s;have h0:=(J4 (A3 (d:=0) hj)).1;unfold inP;rw[show ((((contacts w s).getD j 0).toNat:Nat):Int)=(contacts w s).getD j 0 by omega,← p2,Cxb,H7,decide_eq_true_iff];generalize (contacts w s)=cs at *;generalize (I0 w s).length=K at *;constructor
 ·intro hm;obtain⟨i,hi,e⟩:=Yh.1 hm;rw[Vs]at hi;rw[D8b,Vb,Ve hj,Wo]at e
  have hji:i=j:=Eib λ c=>by
   rcases Nat.lt_or_gt_of_ne c with hl|hl
   ·exact(Yn.1 hn i j (by omega) hj hl) e
   ·exact(Yn.1 hn j i hj (by omega) hl) e.symm
  omega
 ·intro hlt;refine Yh.2 ⟨j,by rw[Vs];omega,?_⟩;rw[D8b,Vb,Ve hj,Wo]

def S4 (l:List Dev) (p n:Int) (s:ByteArray) (d:List Int) (rc:List Int):Wld:=(ask (Us l p n) s ((0,0,0),false,d) 5 rc).2
section
variable {l:List Dev} {p n:Int} {s:ByteArray} {d rc:List Int}
def Fza (hd:d.length≤200):D8 ((5,0,0),false,d)=true:=Gr.2 ⟨rfl,hd,λ c=>by cases c⟩
def Pna (hb:(build l p n).2=true) (hs:B0 s=true) (hd:d.length≤200) (hdb:Aq d):
  WI (S4 l p n s d rc)∧(S4 l p n s d rc).2.1.1=n∧(S4 l p n s d rc).1=l∧(S4 l p n s d rc).2.1=(build l p n).1∧(S4 l p n s d rc).2.2.1.length=l.length∧contacts (S4 l p n s d rc) s=contacts (Us l p n) s∧(S4 l p n s d rc).2.2.2.2.2=[]:=by
 have hw:=Fqa hb;have h1:=hw.ask (s:=s) (f:=((0,0,0),false,d)) (t:=5) (rc:=rc) hdb (λ c=>by cases c);have hr:=(Om hb).2.2.1;unfold S4;have hno:=Uma (w:=((l,(build l p n).1,l.map Ur,(5,0,0),[],[]):Wld)) (s:=s) (f:=((5,0,0),false,d)) (rc:=rc) hw.ns hs (Fza hd)
 have hl:(wrN (l,(build l p n).1,l.map Ur,(5,0,0),[],[]) s ((5,0,0),false,d) rc).1.length=l.length:=by
  have:=congrArg length hno.2;rw[Wc,Wc]at this;rw[this];exact Wc ..
 refine⟨h1,?_⟩;rw[Pla hs hd];exact⟨hr,rfl,rfl,hl,Ut hno.2 _,rfl⟩
def Ima {v:Int} (hb:(build l p n).2=true) (hs:B0 s=true) (hd:d.length≤200) (hdb:Aq d) (hv0:v≠0) (hv:∀ j:Nat,(j:Int)<n→rch rc j=v):
  (ask (Us l p n) s ((0,0,0),false,d) 5 rc).1=(bif v==1 then 0 else 1)∧(S4 l p n s d rc).2.2.2.2.1=[(s,((5,0,0),false,d),v==1)]∧
  ∀ m,m<(S4 l p n s d rc).2.2.1.length→(S4 l p n s d rc).2.2.1.getD m A7=bif inP (S4 l p n s d rc) s m then Uxa ((S4 l p n s d rc).2.2.1.getD m A7).1 s ((5,0,0),false,d) (v != 3) else (((S4 l p n s d rc).2.2.1.getD m A7).1,([],[]),[],[]):=by
 have hw:=Fqa hb;obtain⟨hd1,hring,hr,_⟩:=Om hb;obtain⟨i1,i2,_,i4,i5,i6,_⟩:=Pna (rc:=rc) hb hs hd hdb;have hR:=(Cb.1 hring).2.1;rw[hr]at hR;obtain⟨q1,q2,q3⟩:=hw.wo.prims s;obtain⟨q1',q2',_⟩:=i1.wo.prims s;have q1r:((I0 (Us l p n) s).length:Int)=n:=q1.trans hr;have hcn:=hw.wo.contacts_nodup s;obtain⟨k1,k2,k3⟩:=Pfa (w:=((l,(build l p n).1,l.map Ur,(5,0,0),[],[]):Wld)) (s:=s) (f:=((5,0,0),false,d)) (rc:=rc) (v:=v) (K:=(I0 (Us l p n) s).length) (by rw[q1r];exact hr) hcn q3 hv0 (λ j hj=>hv j (by omega)) hs (Fza hd) (λ m hm=>Dpa (l:=l) (parts:=p) (reps:=n) hm)
 have hq:quo n≤n∧1≤quo n:=by unfold quo;omega
 have e:Nx (l,(build l p n).1,l.map Ur,(5,0,0),[],[]) s ((5,0,0),false,d) rc=(bif v==1 then 0 else 1,(l,(build l p n).1,(wrN (l,(build l p n).1,l.map Ur,(5,0,0),[],[]) s ((5,0,0),false,d) rc).1,(5,0,0),[(s,((5,0,0),false,d),v==1)],[])):=by
  unfold Nx
  have hdec:decide ((wrN (l,(build l p n).1,l.map Ur,(5,0,0),[],[]) s ((5,0,0),false,d) rc).2.2≥quo (build l p n).1.1)=(v==1):=by
   rw[k1,hr,q1r]
   cases v==1 with
   |true=>exact decide_eq_true hq.1
   |false=>exact decide_eq_false (show ¬ (0:Int)≥quo n by omega)
  dsimp only;rw[hdec];rfl
 have hask:=Pla (l:=l) (p:=p) (n:=n) (rc:=rc) hs hd
 have hin:∀ m,inP (S4 l p n s d rc) s m=Gp ((contacts (Us l p n) s).take (I0 (Us l p n) s).length) (m:Int):=λ m=>by
  unfold inP;rw[← q2',i6];congr 2
  have:((I0 (S4 l p n s d rc) s).length:Int)=n:=by rw[q1',i2]
  omega
 have hf:S4 l p n s d rc=(l,(build l p n).1,(wrN (l,(build l p n).1,l.map Ur,(5,0,0),[],[]) s ((5,0,0),false,d) rc).1,(5,0,0),[(s,((5,0,0),false,d),v==1)],[]):=by
  unfold S4;rw[hask,e]
 refine⟨by rw[hask,e],by rw[hf],λ m hm=>?_⟩;rw[hin m];rw[i5]at hm;have h3:=k3 m (by show m<(l.map Ur).length;rw[Wc];exact hm);have hnn:=Dpa (l:=l) (parts:=p) (reps:=n) (m:=m) (by show m<(l.map Ur).length;rw[Wc];exact hm)
 have hfm:(S4 l p n s d rc).2.2.1.getD m A7=(wrN (l,(build l p n).1,l.map Ur,(5,0,0),[],[]) s ((5,0,0),false,d) rc).1.getD m A7:=by rw[hf]
 rw[hfm,h3];have hc:contacts ((l,(build l p n).1,l.map Ur,(5,0,0),[],[]):Wld) s=contacts (Us l p n) s:=rfl;rw[hc]
 cases Gp ((contacts (Us l p n) s).take (I0 (Us l p n) s).length) (m:Int) with
 |true=>rfl
 |false=>exact Prod.ext rfl hnn
def Xea {v:Int} (hb:(build l p n).2=true) (hs:B0 s=true) (hd:d.length≤200) (hdb:Aq d) (hv0:v≠0) (hv:∀ j:Nat,(j:Int)<n→rch rc j=v) {m:Nat} (hm:m<(S4 l p n s d rc).2.2.1.length) (t:ByteArray):
  oN (S4 l p n s d rc).2.2.1 m t=bif inP (S4 l p n s d rc) s m then (if s=t then some ((5,0,0),false,d) else none) else none:=by
 obtain⟨_,_,k⟩:=Ima (rc:=rc) hb hs hd hdb hv0 hv;unfold oN;rw[k m hm]
 cases inP (S4 l p n s d rc) s m with
 |true=>exact T0a (Fza hd) hdb t
 |false=>rfl
end

section
variable {l:List Dev} {p:Int} {rc:List Int}
end

section
open Go
end

end Go.Proofs.YtcpligincipmhaaGreat.Vf

section
set_option linter.unusedVariables false
set_option linter.unusedSimpArgs false
namespace Go.Proofs.YtcpligincipmhaaGreat.Pure
open Go Go.RowKit Go.Proofs.YtcpligincipmhaaGreat.Vf
abbrev Kj:ByteArray:=⟨#[99,97,116,47,49]⟩
abbrev A9b:ByteArray:=⟨#[99,97,116]⟩
abbrev W3:List Int:=[109,101,111,119]
abbrev Xfa:Fil:=((5,0,0),false,W3)
abbrev On:List Int:=[1,1,1,1,1,1]
theorem T1:B0 Kj=true:=by decide
theorem Ro:Aq W3:=by unfold Aq;decide
theorem Ina {j:Nat} (h:j<6):rch On j=1:=by
 match j,h with
 |0,_=>rfl
 |1,_=>rfl
 |2,_=>rfl
 |3,_=>rfl
 |4,_=>rfl
 |5,_=>rfl
theorem Xga (l:List Int) (n:Int) (hl:l.length≤1000000000):Tot (λ k=>J0 k l n) (λ r=>r=Gp l n):=by
 unfold J0 Gp
 refine Bsb (Q:=λ r=>r=bif l.any (· == n) then .inl true else .inr ()) ?_ (by
  rintro r rfl
  cases l.any (· == n)<;>exact Brb rfl)
 rw[O8a _ 0];refine C2b (L:=λ k i=>Gx k l n i) _ _ () ?_ ?_
 ·simp (disch:=omega) only [Gx,dF];exact Brb rfl
 ·intro j hj Q yes no;simp (disch:=omega) only [Gx,dT,Vj,w64];exact Bxb (λ h1=>Brb (yes h1)) (λ h1=>no h1)
theorem Poa {x:Wld} (h:WI x) (c:Int) (p:List Int) (hp:p.length≤3000000) (hg:∀ m,m<x.2.2.1.length→(oN x.2.2.1 m Kj).isSome=Gp p (x.2.2.1.getD m A7).1):
  Tot (λ k=>B4 k On c p 0 x) (λ r=>r = .inr (On,c,x)):=by
 have hn:=h.ns;refine C0b (L:=λ k j (_:Unit)=>B4 k On c p j x) (Q:=λ r=>r = .inr (On,c,x)) x.2.2.1.length (λ _ _=>True) ?_ ?_ 0 () (Vv _) trivial
 ·intro _ _;simp (disch:=omega) only [B4,dF];exact Brb rfl
 ·intro j _ hj _ next;have hnl:=hn.1;have hm:=Aja (hn.get hj);have hh:=hg j hj;have e0:x.2.2.1.getD j ((0:Int),(([],[]),([],[])))=x.2.2.1.getD j A7:=rfl;simp (disch:=omega) only [B4,dT,Vj,w64,e0];refine C3b (Aha hm.1.1.1.1.1 hm.1.2.1 Kj) (C3b (Xga p _ (by omega)) ?_);have e1:((lkD (x.2.2.1.getD j A7).2.1 Kj).2==0)=(oN x.2.2.1 j Kj).isSome:=A8b;rw[e1,hh,beq_self_eq_true];exact Btb rfl (next () trivial)
theorem Ppa {v:Wld} (h:WI v) (pre:ByteArray) (L:List Row) (hL:∀ p∈Ar v,(v.2.2.1.getD p.toNat A7).2.2.1=L) (hf:L.length≤60) (m0:Ky [] L=L) (m1:Ky L L=L) {Q:List ByteArray×Int→Prop}
  (hq:Tot (λ k=>Bq k L pre (⟨#[]⟩:ByteArray) 9) (λ r=>Q (r,0))):Tot (λ k=>B2 k v pre (⟨#[]⟩:ByteArray) 9 On) Q:=by
 have hw:=h.win;have h5:=h.wo.prim5 Ki;have hlist:Ar v=I0 v Ki:=rfl;have hpos:=Pn h.wo;unfold B2;refine Bsb (Um v hw) ?_;rintro _ rfl;refine Btb (by rw[h.rightB];rfl) (Bsb (Pm v hw.1 hw.2.2.1.1) ?_);rintro _ rfl;have hat:=λ x (hx:x∈Ar v)=>Jj (w:=v) (s:=Ki) (x:=x) hx;have hll:(Ar v).length≤5:=h5;have hnl:=hw.2.2.1.1;refine Bsb (Q:=λ r=>r=(pre,(⟨#[]⟩:ByteArray),9,L,((Ar v).length:Int))) ?_ ?_
 ·refine C0b (L:=λ k i (a:List Row×Int)=>Bm k pre (⟨#[]⟩:ByteArray) 9 On a.1 a.2 (Ar v) ((Ar v).length:Int) i v) (Q:=λ r=>r=(pre,(⟨#[]⟩:ByteArray),9,L,((Ar v).length:Int))) (Ar v).length (λ j a=>a=(bif decide (j=0) then [] else L,(j:Int))) ?_ ?_ 0 ([],0) (Vv _) rfl
  ·rintro a rfl;simp (disch:=omega) only [Bm,dF];exact Brb rfl
  ·rintro j a hj rfl next;have hx:=A3 (d:=0) hj;have h1:=hat _ hx;have h2:=hL _ hx;obtain⟨p,ep⟩:∃ p:Nat,(Ar v).getD j 0=(p:Int):=⟨((Ar v).getD j 0).toNat,by omega⟩;rw[ep]at h1 h2;rw[Vj]at h2;have e0:v.2.2.1.getD p ((0:Int),(([],[]),([],[])))=v.2.2.1.getD p A7:=rfl;simp (disch:=omega) only [Bm,dT,Vj,w64,ep,e0,Ata,Vu];refine Bub (by rw[Ina (by omega)];rfl) ?_;rw[h2]
   have hlen:(bif decide (j=0) then ([]:List Row) else L).length≤60:=by
    cases decide (j=0) with
    |true=>exact Vv _
    |false=>exact hf
   refine C3b (X8 _ L (by omega)) (next (Ky (bif decide (j=0) then [] else L) L,(j:Int)+1) ?_);rw[decide_eq_false (show ¬ j+1=0 by omega)];refine Prod.ext ?_ rfl
   cases decide (j=0) with
   |true=>exact m0
   |false=>exact m1
 rintro _ rfl;refine Btb (beq_eq_false_iff_ne.2 (by dsimp only;omega)) (Bsb hq ?_);intro r hr;exact Brb hr
theorem Xha (pre:ByteArray):Tot (λ k=>Bq k [] pre (⟨#[]⟩:ByteArray) 9) (λ r=>r=[]):=by
 unfold Bq;refine Bsb (Q:=λ r=>r=[]) ?_ (by rintro _ rfl;exact Brb rfl);refine Tot.succ ?_;exact Brb rfl
theorem Xia:Tot (λ k=>Bq k [M7 Kj Xfa] A9b (⟨#[]⟩:ByteArray) 9) (λ r=>r=[Kj]):=by
 unfold Bq;refine Bsb (Q:=λ r=>r=[Kj]) ?_ (by rintro _ rfl;exact Brb rfl);have e0:List.getD [M7 Kj Xfa] (Int.toNat 0) ((⟨#[]⟩:ByteArray),(((0:Int),((0:Int),(0:Int))),(false,(0:Int))))=(Kj,((5,0,0),false,4)):=rfl;have hl:(([M7 Kj Xfa]:List Row).length:Int)=1:=rfl
 have hp:Hj Kj A9b=some true:=by
  unfold Hj Dn Bu;have h1:(Kj.size:Int)=5:=rfl;have h2:(A9b.size:Int)=3:=rfl;simp only[h1,h2];show some (teq (ByteArray.extract Kj 0 3) A9b)=some true;have h3:teq (ByteArray.extract Kj 0 3) A9b=true:=C6.2 rfl;rw[h3]
 have hn:(!(Op.bytesLess Kj.toList (⟨#[]⟩:ByteArray).toList||Kj.toList==(⟨#[]⟩:ByteArray).toList))=true:=by
  have a0:∀ l:List UInt8,Op.bytesLess l []=false:=λ l=>by cases l<;>rfl
  have a1:tlt Kj ⟨#[]⟩=false:=by
   have e:(⟨#[]⟩:ByteArray).toList=[]:=by rw[E9b]
   unfold tlt;rw[e];exact a0 _
  have a2:teq Kj ⟨#[]⟩=false:=by
   cases h:teq Kj ⟨#[]⟩ with
   |false=>rfl
   |true=>exact absurd (congrArg ByteArray.size (C6.1 h)) (by decide)
  show (!(tlt Kj ⟨#[]⟩||teq Kj ⟨#[]⟩))=true;rw[a1,a2];rfl
 refine Tot.succ ?_;simp (disch:=omega) only [Bv,hl,dT,e0,hp,hn,Vu,w64];refine Bub rfl (Bub rfl (Bub rfl ?_));refine Bvb (by simp) (Bzb (by simp) ?_);refine Tot.succ ?_;simp (disch:=omega) only [Bv,w64,dF];exact Brb rfl
theorem T4a {L:List Row} {R:Row} (hs:Ay L) (h:∀ r∈L,r=R) (hn:L≠[]):L=[R]:=by
 match L,hs,h,hn with
 |[],_,_,hn=>exact absurd rfl hn
 |[r],_,h,_=>rw[h r (Vn.2 rfl)]
 |r::q::l,hs,h,_=>
  have e1:=h r Wl;have e2:=h q (Vd _ Wl);have:=(Wa.1 hs).1 q Wl;rw[e1,e2,Eg]at this;cases this
theorem FnAllReached:∀ (a0:List Int),Ty.fit ti (.sl 5 (.i .u8)) a0→∃ k,B9 k a0=some true:=by
 intro a0 _;refine Tot.law (f:=λ k=>B9 k a0) ?_;unfold B9 Jq;refine Bsb (Brb (Q:=λ b=>b=decide ((List.length a0:Int) > 1048576)) rfl) ?_;rintro b rfl;refine Byb (λ _=>Brb rfl) (λ hb=>?_);refine Bsb (Q:=λ r=>r.1.length≤6) ?_ ?_
 ·unfold Dm Fa;refine Bsb (Q:=λ r=>r.1.length≤6) ?_ (λ r hr=>Brb hr);refine Bsb (N2a a0 (by omega)) ?_;intro c hc;refine Bsb (Pda c hc) ?_;rintro⟨l,c1⟩ ⟨hl,k1⟩;dsimp only at hl k1 ⊢;obtain⟨x,c2,e2,_,k2⟩:=Mu c1 k1 [4,8,1,16,0,64,65] (by decide) (by decide);refine C3b (C4b (Q:=λ r=>r=(x,c2)) e2 rfl) ?_;obtain⟨y,c3,e3,_,k3⟩:=Mu c2 k2 [1,2,3,2,3,5,6,0] (by decide) (by decide);refine C3b (C4b (Q:=λ r=>r=(y,c3)) e3 rfl) ?_;exact Brb hl
 rintro⟨l,p,n⟩ hl;dsimp only at hl ⊢;refine Bsb (Dra l p n (by omega)) ?_;rintro _ rfl
 cases hbd:(build l p n).2 with
 |false=>
  rw[cond_false];refine Bsb (Aza l p n (by omega) hbd) ?_;rintro _ rfl;exact Btb rfl (Bub rfl (Brb rfl))
 |true=>
  rw[cond_true];refine Bsb (Dfa l p n hbd) ?_;rintro _ rfl;have hw:=Fqa hbd;have hpos:=hw.dlen;have hnl:=hw.nlen;have hd:Lz Kj:=H4 T1;refine Btb (by rw[bne,beq_self_eq_true];rfl) (Btb (by rw[beq_eq_false_iff_ne];omega) ?_);refine Bsb (Soa (hw.wo.wim (m:=200) (by decide) hw.splen) (by decide) Kj W3 5 On hd (by decide)) ?_;rintro _ rfl;have hR:=(Cb.1 hw.ring).2.1;have hRn:(Us l p n).2.1.1=n:=(Om hbd).2.2.1;rw[hRn]at hR;have hrc:∀ j:Nat,(j:Int)<n→rch On j=1:=λ j hj=>Ina (by omega);obtain⟨i1,i2,_,i4,i5,i6,_⟩:=Pna (rc:=On) (d:=W3) (s:=Kj) hbd T1 (by decide) Ro;obtain⟨k1,k2,k3⟩:=Ima (rc:=On) (d:=W3) (s:=Kj) (v:=1) hbd T1 (by decide) Ro (by decide) hrc;have k4:=λ m hm=>Xea (rc:=On) (d:=W3) (s:=Kj) (v:=1) hbd T1 (by decide) Ro (by decide) hrc (m:=m) hm Kj;have lr:LR (S4 l p n Kj W3 On):=A6b hw (λ x hx=>nomatch hx) (λ c=>by cases c)
  have hput:Ajb (Us l p n) Kj ((0,0,0),false,W3) 5 On=(S4 l p n Kj W3 On,0):=by
   unfold Ajb;rw[hw.rightB,cond_true,k1];rfl
  rw[hput];generalize S4 l p n Kj W3 On=x at *;refine Bsb (Qj x.2.1 Kj (Kw i1.ring) (by decide)) ?_;rintro _ rfl;have hpl:=Ql (Kw i1.ring) Kj;refine Bsb (Poa i1 0 (N8 x.2.1 Kj) (by omega) (λ m hm=>?_)) ?_
  ·rw[k4 m hm];have e:inP x Kj m=Gp (N8 x.2.1 Kj) (x.2.2.1.getD m A7).1:=Ica hm;rw[← e]
   cases inP x Kj m<;>rfl
  rintro _ rfl;dsimp only[Sum.elim];refine Bsb (Ppa i1 _ [] (λ q hq=>?_) (Nat.zero_le _) rfl rfl (Q:=λ r=>r=([],0)) ((Xha _).mono λ r hr=>by rw[hr])) ?_
  ·have hqa:=Jj (w:=x) (s:=Ki) hq;rw[k3 q.toNat (by omega)]
   cases inP x Kj q.toNat<;>rfl
  rintro _ rfl;refine Bsb (K5a (i1.wo.wim (m:=200) (by decide) i1.splen) (by decide)) ?_;rintro _ rfl
  have hr:Iea x=Jk x:=by unfold Iea;rw[i1.rightB];rfl
  rw[hr];have hp3:=i1.wo.prims Kj
  have hex:∃ m,m<x.2.2.1.length∧∃ f,oN x.2.2.1 m Kj=some f:=by
   have hc:0<(contacts x Kj).length:=by omega
   have c0:=J4 (A3 (d:=0) hc);have p0:=i1.wo.inP_at (s:=Kj) (j:=0) hc;rw[i2,decide_eq_true (by omega)]at p0;have o0:=k4 ((contacts x Kj).getD 0 0).toNat (by omega);rw[p0]at o0;exact⟨_,by omega,_,o0⟩
  obtain⟨r1,r2,_⟩:=K9a i1 k2 hex;have lz:=Sya i1 lr;have zw:=r1.wi;have hws:(Jk x).2.2.2.2.1=[(Kj,Xfa,true)]:=r2.ws.trans k2;generalize Jk x=z at *
  have hL:∀ q∈Ar z,(z.2.2.1.getD q.toNat A7).2.2.1=[M7 Kj Xfa]:=λ q hq=>by
   have hqa:=Jj (w:=z) (s:=Ki) hq
   have hql:q.toNat<z.2.2.1.length:=by omega
   have hin:inP z Ki q.toNat=true:=H7.2 (by rw[show ((q.toNat:Nat):Int)=q by omega];exact hq);have hni:=zw.nodes _ (A3 (d:=A7) hql);refine T4a hni.rows (λ r hr=>?_) ?_
   ·have:=hni.2.2.1 r hr;obtain⟨y,hy,e⟩:=Nz.1 this;rw[hws,Vn]at hy;rw[← e,hy]
   ·obtain⟨r,hr,_⟩:=r1.hasRow lz (x:=(Kj,Xfa,true)) (by rw[hws];exact Vn.2 rfl) rfl hql hin;intro c;rw[c]at hr;cases hr
  refine Bsb (Ppa zw _ [M7 Kj Xfa] hL (by simp) rfl (Pba (Ccb _ _)) (Q:=λ r=>r=([Kj],0)) (Xia.mono λ r hr=>by rw[hr])) ?_;rintro _ rfl;exact Bub rfl (Bub rfl (Bub rfl (Bvb (by decide) (Brb (C6.2 rfl)))))
end Go.Proofs.YtcpligincipmhaaGreat.Pure
end
