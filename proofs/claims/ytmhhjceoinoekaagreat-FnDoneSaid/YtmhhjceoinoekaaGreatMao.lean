import Derived.Test.YtmhhjceoinoekaaGreatMan
set_option linter.all false
namespace Go.Proofs.YtmhhjceoinoekaaGreat.Vf
open Go
open List (length getD)
open Int (toNat)
open Go.IntKind (wrap)
open BitVec (ofInt)
def I4b:=@List.mem_range
def Ijb:=@List.foldl_append
def Jbb:=@List.exists_mem_of_length_pos
def Job:=@BitVec.getLsbD_ushiftRight
def Khb:=@List.range_succ
def Kib:=@List.set_getElem_self

def Opa:∀ (p q:List Int),p.Nodup→(∀ x∈p,x∈q)→p.length≤q.length
 |[],_,_,_=>Vq _
 |x::p,q,h,hs=>by
  obtain⟨h1,h2⟩:=Yu.1 h
  have hx:=hs x Yk
  have hlen:(q.erase x).length=q.length-1:=Irb hx
  have hpos:=Ifb hx
  have:=Opa p (q.erase x) h2 (λ y hy=>(Jgb (λ c=>by subst c;exact h1 hy)).2 (hs y (Vj _ hy)))
  rw[Vc]
  omega
def Jba {r:Rng} {l:List Dev} (h:Hk r l=true):r.1≤(l.length:Int):=by
 obtain⟨_,_,h3,h4⟩:=B5.1 h
 obtain⟨p,hp⟩:=Jbb (show 0<r.2.length by omega)
 obtain⟨q1,q2,q3⟩:=h4 p hp
 have:=Opa p (l.map (·.1)) q1 (λ x hx=>by
  obtain⟨d,hd⟩:=q3 x hx
  obtain⟨hm,he⟩:=Y4 hd
  exact Zc.2 ⟨d,hm,he⟩)
 rw[We]at this
 omega
def Lua {r:Rng} {l:List Dev} (h:Hk r l=true):Tot (λ k=>G8 k r l) (λ b=>b=true):=by
 have hrp:=Jba h
 obtain⟨h1,h2,h3,h4⟩:=B5.1 h
 obtain⟨_,_,_,h12⟩:=Dc.1 h1
 unfold G8
 refine Hib (G4a l (by omega)) ?_
 refine H9b (by rw[h1];rfl) ?_
 simp only[S9,Vl]
 refine H9b (by rw[Cc.2 h2];rfl) (Hcb (by omega) (H9b (by rw[Cc.2 (by omega)];rfl) ?_))
 refine H8b (Q:=λ b=>b = .inr ()) ?_ (by rintro b rfl;exact H7b rfl)
 refine Hgb (L:=λ k i (_:Unit)=>H7 k r.2 (r.2.length:Int) i r) (Q:=λ b=>b = .inr ()) r.2.length (λ _ _=>True) ?_ ?_ 0 () (Vq _) trivial
 ·intro _ _
  simp (disch:=omega) only [H7,dF]
  exact H7b rfl
 ·intro j _ hj _ next
  obtain⟨q1,q2,_⟩:=h4 _ (A4 (d:=[]) hj)
  simp (disch:=omega) only [H7,dT,Vb,w64]
  refine H9b (by rw[q2];simp) (Hib (J7a _ (by omega)) ?_)
  exact H9b (by rw[decide_eq_true q1];rfl) (next () trivial)
def Lva {r:Rng} {l:List Dev} (h:Hk r l=true):Tot (λ k=>Le k r l) (λ b=>b=true):=by
 have hrp:=Jba h
 obtain⟨h1,h2,h3,h4⟩:=B5.1 h
 obtain⟨_,_,_,h12⟩:=Dc.1 h1
 unfold Le
 refine Hib (Axa l (by omega)) ?_
 refine H9b (by rw[h1];rfl) ?_
 simp only[Pe,Vl]
 refine H9b (by rw[Cc.2 h2];rfl) (Hcb (by omega) (H9b (by rw[Cc.2 (by omega)];rfl) ?_))
 refine H8b (Q:=λ b=>b = .inr ()) ?_ (by rintro b rfl;exact H7b rfl)
 refine Hgb (L:=λ k i (_:Unit)=>Ks k i r) (Q:=λ b=>b = .inr ()) r.2.length (λ _ _=>True) ?_ ?_ 0 () (Vq _) trivial
 ·intro _ _
  simp (disch:=omega) only [Ks,dF]
  exact H7b rfl
 ·intro j _ hj _ next
  obtain⟨q1,q2,_⟩:=h4 _ (A4 (d:=[]) hj)
  simp (disch:=omega) only [Ks,dT,Vb,w64]
  refine Hib (Oia _ _ (by omega)) ?_
  exact H9b (by rw[decide_eq_true q1,q2];simp) (next () trivial)
def Yra (p:List Int) (l:List Dev) (h:∀ id∈p,∃ d,Ki l id=some d) (hp:p.length≤5000000) (hl:l.length≤5000000):Tot (λ k=>Hp k p l) (λ x=>x = -1):=by
 unfold Hp
 refine H8b (Q:=λ x=>x = .inr ()) ?_ (by rintro x rfl;exact H7b rfl)
 refine Hgb (L:=λ k i (_:Unit)=>I6 k l i p) (Q:=λ x=>x = .inr ()) p.length (λ _ _=>True) ?_ ?_ 0 () (Vq _) trivial
 ·intro _ _
  simp (disch:=omega) only [I6,dF]
  exact H7b rfl
 ·intro j _ hj _ next
  simp (disch:=omega) only [I6,dT,Vb,w64]
  refine Hib (T6 l _ (by omega)) ?_
  obtain⟨d,hd⟩:=h _ (A4 (d:=0) hj)
  exact H9b (by rw[hd];rfl) (next () trivial)
def Ysa (p:List Int) (l:List Dev) (h:∀ id∈p,∃ d,Ki l id=some d) (hp:p.length≤5000000) (hl:l.length≤5000000):Tot (λ k=>Lh k p l) (λ x=>x = -1):=by
 unfold Lh
 refine H8b (Q:=λ x=>x = .inr ()) ?_ (by rintro x rfl;exact H7b rfl)
 refine Hgb (L:=λ k i (_:Unit)=>L5 k l p (p.length:Int) i) (Q:=λ x=>x = .inr ()) p.length (λ _ _=>True) ?_ ?_ 0 () (Vq _) trivial
 ·intro _ _
  simp (disch:=omega) only [L5,dF]
  exact H7b rfl
 ·intro j _ hj _ next
  simp (disch:=omega) only [L5,dT,Vb,w64]
  refine Hib (T5 l _ (by omega)) ?_
  obtain⟨d,hd⟩:=h _ (A4 (d:=0) hj)
  exact H9b (by rw[hd];rfl) (next () trivial)
def hv (r:Rng) (l:List Dev) (b id:Int):Bool:=match Ki l b with
 |none=>false
 |some x=>match Ki l id with
  |none=>false
  |some d=>(d.2.1==x.2.1)&&decide (Jt r id-Jt r b≥2)
def G8a (r:Rng) (l:List Dev) (p:List Int) (b:Int):Option Nat:=p.findIdx? (hv r l b)
def oI:Option Nat→Int
 |some i=>(i:Int)
 |none => -1
def A1a {f:Int→Bool} {p:List Int} {j:Nat} (hj:j<p.length) (h:((p.drop j).findIdx? f).map (· + j)=p.findIdx? f):
  (f (p.getD j 0)=true→p.findIdx? f=some j)∧(f (p.getD j 0)=false→((p.drop (j+1)).findIdx? f).map (· + (j+1))=p.findIdx? f):=by
 rw[Ah (d:=0) hj,Ixb]at h
 constructor
 ·intro c
  rw[if_pos c]at h
  rw[← h,Isb,Wk]
 ·intro c
  rw[if_neg (by rw[c];simp)]at h
  rw[← h,Option.map_map]
  congr 1
  funext x
  show x+(j+1)=x+1+j
  omega
def V7a (r:Rng) (p:List Int) (l:List Dev) (b:Int) (hr:RBd r) (hp:p.length≤2000000) (hl:l.length≤2000000):Tot (λ k=>G4 k r p l b) (λ x=>x=oI (G8a r l p b)):=by
 unfold G4
 refine Hib (T6 l b (by omega)) ?_
 refine H8b (Q:=λ x=>x=match G8a r l p b with|some i => .inl (i:Int)|none => .inr ()) ?_ (by rintro x rfl;cases G8a r l p b<;>exact H7b rfl)
 cases hb:Ki l b with
 |none=>
  have hn:G8a r l p b=none:=by unfold G8a;rw[Jxb];intro x _;unfold hv;rw[hb]
  rw[hn]
  refine Tot.succ ?_
  by_cases hp0:(0:Int)<(p.length:Int)
  ·simp (disch:=omega) only [Cw,dT,Fbb,cond_false]
   exact H7b rfl
  ·simp (disch:=omega) only [Cw,dF]
   exact H7b rfl
 |some x=>
  have hvI:∀ id,hv r l b id=match Ki l id with|none=>false|some d=>(d.2.1==x.2.1)&&decide (Jt r id-Jt r b≥2):=λ id=>by unfold hv;rw[hb]
  refine Hgb (L:=λ k i (_:Unit)=>Cw k l b true i r p x) (Q:=λ x=>x=match G8a r l p b with|some i => .inl (i:Int)|none => .inr ()) p.length (λ j _=>((p.drop j).findIdx? (hv r l b)).map (· + j)=p.findIdx? (hv r l b)) ?_ ?_ 0 () (Vq _) (by simp)
  ·intro _ h
   rw[Wa]at h
   have hn:G8a r l p b=none:=h.symm
   rw[hn]
   simp (disch:=omega) only [Cw,dF]
   exact H7b rfl
  ·intro j _ hj h next
   obtain⟨k1,k2⟩:=A1a hj h
   simp (disch:=omega) only [Cw,dT,Vb,w64,cond_true]
   generalize p.getD j 0=id at *
   refine Hib (T6 l id (by omega)) ?_
   rw[hvI]at k1 k2
   cases hd:Ki l id with
   |none=>
    rw[hd]at k2
    exact H9b rfl (next () (k2 rfl))
   |some d=>
    rw[hd]at k1 k2
    obtain⟨_,e⟩:=Y4 hd
    refine Hab rfl ?_
    cases hz:d.2.1==x.2.1
    ·exact H9b hz (next () (k2 (by simp only[hz,Zl])))
    refine Hab hz (Hib (Aya r d.1 hr) ?_)
    refine Hib (Aya r b hr) ?_
    have l1:=P9 hr d.1
    have l2:=P9 hr b
    simp (disch:=omega) only [w64]
    refine Heb (λ hc=>H7b ?_) (λ hc=>next () (k2 ?_))
    ·have hn:G8a r l p b=some j:=k1 (by simp only[hz,Vz];rw[← e];exact decide_eq_true hc)
     rw[hn]
    ·simp only[hz,Vz];rw[← e];exact decide_eq_false hc
def V8a (r:Rng) (p:List Int) (l:List Dev) (hr:RBd r) (hp:p.length≤2000000) (hl:Ms l=true) (hq:∀ id∈p,∃ d,Ki l id=some d):Tot (λ k=>Jy k r p l) (λ x=>x=match G8a r l p (Y5 r p l) with|some i=>((i:Int),Y5 r p l)|none=>(-1,-1)):=by
 obtain⟨_,_,_,h12⟩:=Dc.1 hl
 unfold Jy
 refine Hib (Ypa r p l hr hp hl) ?_
 generalize Y5 r p l=b
 refine Hib (T5 l b (by omega)) ?_
 refine H8b (Q:=λ x=>x=match G8a r l p b with|some i => .inl ((i:Int),b)|none => .inr ()) ?_ (by rintro x rfl;cases G8a r l p b<;>exact H7b rfl)
 refine Hgb (L:=λ k i (_:Unit)=>Hn k l b (Fbb (Ki l b)).2 p (p.length:Int) i r (Fbb (Ki l b)).1) (Q:=λ x=>x=match G8a r l p b with|some i => .inl ((i:Int),b)|none => .inr ()) p.length (λ j _=>((p.drop j).findIdx? (hv r l b)).map (· + j)=p.findIdx? (hv r l b)) ?_ ?_ 0 () (Vq _) (by simp)
 ·intro _ h
  rw[Wa]at h
  have hn:G8a r l p b=none:=h.symm
  rw[hn]
  simp (disch:=omega) only [Hn,dF]
  exact H7b rfl
 ·intro j _ hj h next
  obtain⟨k1,k2⟩:=A1a hj h
  have hid:=hq _ (A4 (d:=0) hj)
  simp (disch:=omega) only [Hn,dT,Vb,w64]
  generalize p.getD j 0=id at *
  refine Hib (T5 l id (by omega)) ?_
  obtain⟨d,hd⟩:=hid
  cases hb:Ki l b with
  |none=>
   have hnv:hv r l b id=false:=by unfold hv;rw[hb]
   have:=next () (k2 hnv)
   rw[hb]at this
   exact H9b rfl this
  |some x=>
   have hvI:hv r l b id=((d.2.1==x.2.1)&&decide (Jt r id-Jt r b≥2)):=by unfold hv;rw[hb,hd]
   rw[hvI]at k1 k2
   have next':=next ()
   rw[hb]at next'
   refine Hab rfl ?_
   rw[hd]
   cases hz:d.2.1==x.2.1
   ·exact H9b hz (next' (k2 (by simp only[hz,Zl])))
   refine Hab hz (Hib (G7a r id hr) ?_)
   refine Hib (G7a r b hr) ?_
   have l1:=P9 hr id
   have l2:=P9 hr b
   simp (disch:=omega) only [w64]
   refine Heb (λ hc=>H7b ?_) (λ hc=>next' (k2 ?_))
   ·have hn:G8a r l p b=some j:=k1 (by simp only[hz,Vz];exact decide_eq_true hc)
    rw[hn]
   ·simp only[hz,Vz];exact decide_eq_false hc
def rb1 (l:List Dev) (s:Int×Rng) (j:Nat):Int×Rng:=match G8a s.2 l (s.2.2.getD j []) (Y5 s.2 (s.2.2.getD j []) l) with
 |none=>s
 |some i=>(s.1+1,(s.2.1,s.2.2.set j ((s.2.2.getD j []).set i (Y5 s.2 (s.2.2.getD j []) l))))
def rbs (l:List Dev) (r:Rng) (n:Nat):Int×Rng:=(List.range n).foldl (rb1 l) (0,r)
def G9a (r:Rng) (l:List Dev):Rng×Int:=((rbs l r r.2.length).2,(rbs l r r.2.length).1)
def Gaa (l:List Dev) (r:Rng) (n:Nat):rbs l r (n+1)=rb1 l (rbs l r n) n:=by
 unfold rbs
 rw[Khb,Ijb]
 rfl
def T8 {r:Rng} {l:List Dev} {p:List Int} {i:Nat} (hl:Ms l=true) (h:G8a r l p (Y5 r p l)=some i):i<p.length∧Y5 r p l∉p∧0≤Y5 r p l∧∃ d,Ki l (Y5 r p l)=some d:=by
 obtain⟨h1,h2,_⟩:=Iyb.1 h
 refine⟨h1,?_⟩
 unfold hv at h2
 cases hb:Ki l (Y5 r p l) with
 |none=>rw[hb]at h2;cases h2
 |some d=>
  obtain⟨hd,he⟩:=Y4 hb
  obtain⟨⟨i0,_⟩,_⟩:=O5.1 ((Dc.1 hl).2.1 _ hd)
  refine⟨?_,by omega,d,rfl⟩
  rcases Qja r p l with⟨_,e⟩|⟨b,_,e,_,hn⟩
  ·omega
  ·rw[e];exact hn
def V9a {p:List Int} {b:Int} (h:p.Nodup) (hb:b∉p) (i:Nat):(p.set i b).Nodup:=by
 induction p generalizing i with
 |nil=>exact h
 |cons x p ih=>
  obtain⟨h1,h2⟩:=Yu.1 h
  cases i with
  |zero=>exact Yu.2 ⟨λ c=>hb (Vj _ c),h2⟩
  |succ i=>
   refine Yu.2 ⟨λ c=>?_,ih h2 (λ c=>hb (Vj _ c)) i⟩
   rcases Xs c with c|c
   ·exact h1 c
   ·exact hb (c ▸ Yk)
def Fcb {l:List Dev} {s:Int×Rng} {j:Nat} (hj:j<s.2.2.length) (h:Hk s.2 l=true):Hk (rb1 l s j).2 l=true∧(rb1 l s j).2.1=s.2.1∧(rb1 l s j).2.2.length=s.2.2.length∧s.1≤(rb1 l s j).1∧(rb1 l s j).1≤s.1+1:=by
 unfold rb1
 obtain⟨h1,h2,h3,h4⟩:=B5.1 h
 cases hx:G8a s.2 l (s.2.2.getD j []) (Y5 s.2 (s.2.2.getD j []) l) with
 |none=>exact⟨h,rfl,rfl,by dsimp only;omega,by dsimp only;omega⟩
 |some i=>
  obtain⟨b1,b2,_,b3⟩:=T8 h1 hx
  obtain⟨q1,q2,q3⟩:=h4 _ (A4 (d:=[]) hj)
  refine⟨B5.2 ⟨h1,h2,by dsimp only;rw[List.length_set];exact h3,λ p hp=>?_⟩,rfl,by dsimp only;rw[List.length_set],by dsimp only;omega,by dsimp only;omega⟩
  rcases Xs hp with hp|hp
  ·exact h4 p hp
  ·subst hp
   refine⟨V9a q1 b2 i,by rw[Vy];exact q2,λ id hid=>?_⟩
   rcases Xs hid with hid|hid
   ·exact q3 id hid
   ·rw[hid];exact b3
def Jca {l:List Dev} {r:Rng} (h:Hk r l=true):∀ (n:Nat),n≤r.2.length→Hk (rbs l r n).2 l=true∧(rbs l r n).2.1=r.1∧(rbs l r n).2.2.length=r.2.length∧0≤(rbs l r n).1∧(rbs l r n).1≤n
 |0,_=>⟨h,rfl,rfl,Zs _,Zs _⟩
 |n+1,hn=>by
  obtain⟨h1,h2,h3,h4,h5⟩:=Jca h n (by omega)
  obtain⟨g1,g2,g3,g4,g5⟩:=Fcb (j:=n) (by omega) h1
  rw[Gaa]
  exact⟨g1,by rw[g2,h2],by rw[g3,h3],by omega,by omega⟩
def Aza {r:Rng} {l:List Dev} (h:Hk r l=true):Hk (G9a r l).1 l=true∧(G9a r l).1.1=r.1∧(G9a r l).1.2.length=r.2.length∧0≤(G9a r l).2:=by
 obtain⟨h1,h2,h3,h4,_⟩:=Jca h r.2.length (Vv _)
 exact⟨h1,h2,h3,h4⟩
def Vaa {r:Rng} {l:List Dev} (h:Hk r l=true):Tot (λ k=>Df k r l) (λ x=>x=G9a r l):=by
 obtain⟨_,_,h64,_⟩:=B5.1 h
 unfold Df
 refine H8b (A0a r (Mt h)) ?_
 rintro x rfl
 refine H8b (Lva h) ?_
 rintro b rfl
 refine H9b rfl (H8b (Q:=λ y=>y=((rbs l x x.2.length).1,((0:Int),([]:List (List Int))),(rbs l x x.2.length).2)) ?_ (by rintro y rfl;exact H7b rfl))
 refine Hgb (L:=λ k i (s:Int×Rng)=>Be k l s.1 i (0,[]) s.2) (Q:=λ y=>y=((rbs l x x.2.length).1,((0:Int),([]:List (List Int))),(rbs l x x.2.length).2)) x.2.length (λ j s=>s=rbs l x j) ?_ ?_ 0 (0,x) (Vq _) rfl
 ·rintro s rfl
  obtain⟨_,_,g3,_⟩:=Jca h x.2.length (Vv _)
  simp (disch:=omega) only [Be,dF]
  exact H7b rfl
 ·rintro j s hj rfl next
  obtain⟨g1,g2,g3,g4,g5⟩:=Jca h j (by omega)
  rw[Gaa]at next
  generalize rbs l x j=s at *
  obtain⟨c,r⟩:=s
  dsimp only at g1 g2 g3 g4 g5
  obtain⟨q0,_,_,q4⟩:=B5.1 g1
  obtain⟨p1,p2,p3⟩:=q4 _ (A4 (d:=[]) (show j<r.2.length by omega))
  have hx2:=(B5.1 h).2.1
  have l12:=(Dc.1 q0).2.2.2
  unfold rb1 at next
  dsimp only at next
  obtain⟨p,hp⟩:∃ p,r.2.getD j []=p:=⟨_,rfl⟩
  rw[hp]at p1 p2 p3
  simp only[hp]at next
  simp (disch:=omega) only [Be,dT,Vb,w64,hp]
  refine H8b (Yra p l p3 (by omega) (by omega)) ?_
  rintro x rfl
  refine Hcb (by omega) (H8b (Oma r p l (Mt g1) (by omega) q0) ?_)
  rintro b rfl
  refine H8b (V7a r p l _ (Mt g1) (by omega) (by omega)) ?_
  rintro y rfl
  cases hi:G8a r l p (Y5 r p l) with
  |none=>
   rw[hi]at next
   exact Hcb (by show ¬ ((-1:Int)≥0);omega) (next _ rfl)
  |some i=>
   obtain⟨b1,b2,b3,_⟩:=T8 q0 hi
   rw[hi]at next
   have e:oI (some i)=(i:Int):=rfl
   simp (disch:=omega) only [e,dT,Vb]
   exact next _ rfl
def Vba {r:Rng} {l:List Dev} (h:Hk r l=true):Tot (λ k=>Dh k r l) (λ x=>x=G9a r l):=by
 obtain⟨_,_,h64,_⟩:=B5.1 h
 unfold Dh
 refine H8b (Z9 r (Mt h)) ?_
 rintro x rfl
 refine H8b (Lua h) ?_
 rintro b rfl
 refine H9b rfl (H8b (Q:=λ y=>y=((rbs l x x.2.length).1,((0:Int),([]:List (List Int))),(rbs l x x.2.length).2)) ?_ (by rintro y rfl;exact H7b rfl))
 refine Hgb (L:=λ k i (s:Int×Rng)=>Bf k l s.1 (x.2.length:Int) i (0,[]) s.2) (Q:=λ y=>y=((rbs l x x.2.length).1,((0:Int),([]:List (List Int))),(rbs l x x.2.length).2)) x.2.length (λ j s=>s=rbs l x j) ?_ ?_ 0 (0,x) (Vq _) rfl
 ·rintro s rfl
  simp (disch:=omega) only [Bf,dF]
  exact H7b rfl
 ·rintro j s hj rfl next
  obtain⟨g1,g2,g3,g4,g5⟩:=Jca h j (by omega)
  rw[Gaa]at next
  generalize rbs l x j=s at *
  obtain⟨c,r⟩:=s
  dsimp only at g1 g2 g3 g4 g5
  obtain⟨q0,_,_,q4⟩:=B5.1 g1
  obtain⟨p1,p2,p3⟩:=q4 _ (A4 (d:=[]) (show j<r.2.length by omega))
  have hx2:=(B5.1 h).2.1
  have l12:=(Dc.1 q0).2.2.2
  unfold rb1 at next
  dsimp only at next
  obtain⟨p,hp⟩:∃ p,r.2.getD j []=p:=⟨_,rfl⟩
  rw[hp]at p1 p2 p3
  simp only[hp]at next
  simp (disch:=omega) only [Bf,dT,Vb,w64,hp]
  refine H8b (Ysa p l p3 (by omega) (by omega)) ?_
  rintro x rfl
  refine Hcb (by omega) (H8b (V8a r p l (Mt g1) (by omega) q0 p3) ?_)
  rintro y rfl
  cases hi:G8a r l p (Y5 r p l) with
  |none=>
   rw[hi]at next
   exact Hcb (by show ¬ ((-1:Int)≥0);omega) (next _ rfl)
  |some i=>
   obtain⟨b1,b2,b3,_⟩:=T8 q0 hi
   rw[hi]at next
   simp (disch:=omega) only [dT,Vb]
   exact next _ rfl
def wgt (l:List Dev) (i:Nat) (w:Int):List Dev:=l.set i ((l.getD i Of).1,(l.getD i Of).2.1,w)
def Gba (l:List Dev) (i:Nat) (w:Int):(wgt l i w).map (·.1)=l.map (·.1):=by
 unfold wgt
 rw[List.map_set]
 by_cases hi:i<l.length
 ·have:(l.getD i Of).1=(l.map (·.1)).getD i 0:=by
   simp only[Ve,Hub,Vk hi,Isb,Yp]
  rw[this,Ve,Vk (by simpa using hi),Yp]
  exact Kib _
 ·rw[List.set_eq_of_length_le (by simpa using hi)]
def T9 {l:List Dev} {id:Int}:(∃ d,Ki l id=some d)↔id∈l.map (·.1):=by
 unfold Ki
 rw[← Zo,List.find?_isSome,Zc]
 exact⟨λ ⟨x,h,e⟩=>⟨x,h,eq_of_beq e⟩,λ ⟨x,h,e⟩=>⟨x,h,beq_iff_eq.2 e⟩⟩
def Fdb {l:List Dev} {i:Nat} {w:Int} (h:Ms l=true) (hi:i<l.length) (h1:1≤w) (h2:w≤1000):Ms (wgt l i w)=true:=by
 obtain⟨g1,g2,g3,g4⟩:=Dc.1 h
 refine Dc.2 ⟨?_,λ d hd=>?_,?_⟩
 ·have e:(l.map (·.1)).Pairwise (· < ·):=Hnb.2 g1
  rw[← Gba l i w]at e
  exact Hnb.1 e
 ·rcases Xs hd with hd|hd
  ·exact g2 d hd
  ·obtain⟨e1,e2,_⟩:=O5.1 (g2 _ (A4 (d:=Of) hi))
   subst hd
   exact O5.2 ⟨e1,e2,h1,h2⟩
 ·unfold wgt
  rw[Vy]
  exact⟨g3,g4⟩
def X5 {r:Rng} {l:List Dev} {i:Nat} {w:Int} (h:Hk r l=true) (hi:i<l.length) (h1:1≤w) (h2:w≤1000):Hk r (wgt l i w)=true:=by
 obtain⟨g1,g2,g3,g4⟩:=B5.1 h
 refine B5.2 ⟨Fdb g1 hi h1 h2,g2,g3,λ p hp=>?_⟩
 obtain⟨q1,q2,q3⟩:=g4 p hp
 exact⟨q1,q2,λ id hid=>by rw[T9,Gba,← T9];exact q3 id hid⟩

def Vca (x:BitVec 32):(cst x).getLsbD 31=x.getLsbD 0:=by
 have h0:(x >>> 1).getLsbD 31=false:=by
  rw[Job]
  exact BitVec.getLsbD_of_ge _ _ (by decide)
 unfold cst
 cases h:x.getLsbD 0 with
 |true=>
  rw[if_pos rfl,BitVec.getLsbD_xor,h0]
  decide
 |false=>
  rw[if_neg (by simp),h0]
def Y6 {n:Nat} {x y c:BitVec n} (h:x ^^^ c=y ^^^ c):x=y:=by
 have:=congrArg (λ z=>z ^^^ c) h
 simpa[BitVec.xor_assoc] using this
def Cub {x y:BitVec 32} (h:cst x=cst y):x=y:=by
 have h0:x.getLsbD 0=y.getLsbD 0:=by rw[← Vca,← Vca,h]
 have h1:x >>> 1=y >>> 1:=by
  unfold cst at h
  rw[h0]at h
  cases hb:y.getLsbD 0 with
  |true=>rw[hb,if_pos rfl,if_pos rfl]at h;exact Y6 h
  |false=>rw[hb,if_neg (by simp),if_neg (by simp)]at h;exact h
 refine BitVec.eq_of_getLsbD_eq λ i hi=>?_
 cases i with
 |zero=>exact h0
 |succ i=>
  have:=congrArg (λ z=>z.getLsbD i) h1
  simpa[Job,Zx] using this
def Cna:∀ (n:Nat) {x y:BitVec 32},Dfa n x=Dfa n y→x=y
 |0,_,_,h=>h
 |n+1,_,_,h=>Cub (Cna n h)
def Cvb {x y:BitVec 32} {b:Int} (h:cby x b=cby y b):x=y:=Y6 (Cna 8 h)
def Yta {x:BitVec 32} {a b:Int} (ha:0≤a∧a≤255) (hb:0≤b∧b≤255) (h:cby x a=cby x b):a=b:=by
 have h1:x ^^^ ofInt 32 a=x ^^^ ofInt 32 b:=Cna 8 h
 rw[Kdb,Kdb x]at h1
 have h2:=Y6 h1
 rw[Oaa ha,Oaa hb,h2]
def Oqa:∀ (l:List Int) {x y:BitVec 32},l.foldl cby x=l.foldl cby y→x=y
 |[],_,_,h=>h
 |_::l,_,_,h=>Cvb (Oqa l h)
def Apb (l:List Int):0≤crc l∧crc l≤4294967295:=by
 unfold crc
 have:=(Dub l).isLt
 omega
def Cwb {l:List Int} {i:Nat} {y:Int} (hi:i<l.length) (hy:0≤y∧y≤255) (hb:As l) (hne:y≠l.getD i 0):crc (l.set i y)≠crc l:=by
 intro h
 have h1:Dub (l.set i y)=Dub l:=Keb (by unfold crc at h;omega)
 unfold Dub at h1
 have h2:=BitVec.not_inj.1 h1
 have e1:l.set i y=l.take i++y::l.drop (i+1):=by rw[I0b,if_pos hi]
 have e2:l=l.take i++l.getD i 0::l.drop (i+1):=by
  conv => { lhs;rw[← Wo i l] }
  rw[Ah (d:=0) hi]
 rw[e1,Ijb,Za]at h2
 rw[e2]at h2
 rw[Ijb,Za]at h2
 have e3:(l.take i++l.getD i 0::l.drop (i+1)).take i=l.take i:=by rw[← e2]
 have e4:(l.take i++l.getD i 0::l.drop (i+1)).drop (i+1)=l.drop (i+1):=by rw[← e2]
 rw[e3,e4]at h2
 exact hne (Yta hy (hb _ (A4 hi)) (Oqa _ h2))
def Feb {a b:Int} (ha:0≤a∧a≤4294967295) (hb:0≤b∧b≤4294967295) (h:c4 a=c4 b):a=b:=by
 have e:∀ c:Int,0≤c→c4 c=[c/16777216 % 256,c/65536 % 256,c/256 % 256,c % 256]:=λ c hc=>by
  unfold c4
  rw[show (2:Int) ^ (min (toNat 24) (IntKind.bits .i64))=16777216 from by decide,show (2:Int) ^ (min (toNat 16) (IntKind.bits .i64))=65536 from by decide,show (2:Int) ^ (min (toNat 8) (IntKind.bits .i64))=256 from by decide,
   Hmb _ (by omega),Hmb _ (by omega),Hmb _ (by omega),Iwb,Iwb,Iwb,Iwb]
 rw[e a ha.1,e b hb.1]at h
 simp only[Yl,and_true]at h
 omega
def Qla {l m:List Int} {j:Nat} (h:j<l.length):(l++m).getD j 0=l.getD j 0:=by rw[Ve,Ve,Yc h]
def Qma {l m:List Int} {j:Nat} (h:l.length≤j):(l++m).getD j 0=m.getD (j-l.length) 0:=by rw[Ve,Ve,Ye h]
def Yua {f:Fil} (hf:Ee f=true) {n:Nat} (hn:n<8*(N1 f).length):Pf (O8 (N1 f) n)=none:=by
 cases hg:Pf (O8 (N1 f) n) with
 |none=>rfl
 |some g=>
  exfalso
  obtain⟨g1,_,g3⟩:=Uia hg
  have hpb:=R8 f
  have hj:n/8<(N1 f).length:=by omega
  have hy:=Ofa ((N1 f).getD (n/8) 0) (n % 8)
  have hne:=Yha (hpb _ (A4 (d:=0) hj)) (K1b n (show 0<8 by omega))
  unfold O8 at g3
  generalize Aca ((N1 f).getD (n/8) 0) (n % 8)=y at g3 hy hne
  generalize n/8=j at g3 hj hne
  have ef:N1 f=Qm f++c4 (crc (Qm f)):=by unfold N1;rw[hf];rfl
  have eg:N1 g=Qm g++c4 (crc (Qm g)):=by unfold N1;rw[g1];rfl
  have l4:∀ c,(c4 c).length=4:=λ c=>rfl
  rw[eg]at g3
  rw[ef]at g3 hj hne
  have hlen:(Qm g).length=(Qm f).length:=by
   have:=congrArg length g3
   rw[Vy,Vd,Vd,l4,l4]at this
   omega
  by_cases hjb:j<(Qm f).length
  ·rw[List.set_append_left _ _ hjb]at g3
   obtain⟨a1,a2⟩:=List.append_inj g3 (by rw[Vy];exact hlen)
   rw[Qla hjb]at hne
   have:=Feb (Apb _) (Apb _) a2
   rw[a1]at this
   exact Cwb hjb hy (Ru f) hne this
  ·rw[Kgb _ _ (by omega)]at g3
   obtain⟨a1,a2⟩:=List.append_inj g3 hlen
   rw[a1]at a2
   rw[Qma (by omega)]at hne
   rw[Vd,l4]at hj
   have:(c4 (crc (Qm f))).getD (j-(Qm f).length) 0=y:=by
    rw[a2,Ve,J3b (by rw[l4];omega),Yp]
   exact hne this.symm

def Ry (l:List Nmd) (ns:List ByteArray):List ByteArray:=l.foldl (λ ns x=>wt ns x.1) ns
def nms (d:Dsk):List ByteArray:=Ry (d.1++d.2) []
def pk1:Option Nmd→List Nmd
 |some x=>[x]
 |none=>[]
def Vda (o:Option Nmd):(pk1 o).length≤1:=by cases o<;>simp[pk1]
def Sg (kp:List Bool) (a b:List Nmd):List ByteArray→Nat→List Nmd
 |[],_=>[]
 |s::ns,i=>pk1 (pk (bif kp.getD i false then a else b) s)++Sg kp a b ns (i+1)
def Vea (kp:List Bool) (a b:List Nmd) (i:Nat):Sg kp a b [] i=[]:=rfl
def Ora (kp:List Bool) (a b:List Nmd) (s:ByteArray) (ns:List ByteArray) (i:Nat):Sg kp a b (s::ns) i=pk1 (pk (bif kp.getD i false then a else b) s)++Sg kp a b ns (i+1):=rfl
def Rz (d:Dsk) (kp:List Bool):Dsk:=bif decide ((Sg kp d.1 d.2 (nms d) 0).length > 60) then d else (Sg kp d.1 d.2 (nms d) 0,Sg kp d.1 d.2 (nms d) 0)
def Gca:∀ (l:List Nmd) (ns:List ByteArray),TS ns→TS (Ry l ns)
 |[],_,h=>h
 |_::l,_,h=>Gca l _ (R6 h)
def Jda:∀ (l:List Nmd) (ns:List ByteArray) (t:ByteArray),t∈Ry l ns↔(∃ x∈l,x.1=t)∨t∈ns
 |[],ns,t=>by simp[Ry]
 |x::l,ns,t=>by
  show t∈Ry l (wt ns x.1)↔_
  rw[Jda l,Iqa]
  simp only[Vm,exists_eq_or_imp]
  constructor
  ·rintro (h|rfl|h)
   ·exact .inl (.inr h)
   ·exact .inl (.inl rfl)
   ·exact .inr h
  ·rintro ((h|h)|h)
   ·exact .inr (.inl h.symm)
   ·exact .inl h
   ·exact .inr (.inr h)
def Ta:∀ (l:List Nmd) (ns:List ByteArray),(Ry l ns).length≤ns.length+l.length
 |[],_=>by simp[Ry]
 |x::l,ns=>by
  have h1:=Ta l (wt ns x.1)
  have h2:=O9a (l:=ns) (s:=x.1)
  show (Ry l (wt ns x.1)).length≤_
  rw[Vc]
  omega
def Aqb (d:Dsk):TS (nms d):=Gca _ _ List.Pairwise.nil
def Cxb {d:Dsk} {t:ByteArray}:t∈nms d↔(gt d.1 t).isSome=true∨(gt d.2 t).isSome=true:=by
 have h:∀ l:List Nmd,(gt l t).isSome=true↔∃ x∈l,x.1=t:=λ l=>by
  cases hg:gt l t with
  |none=>
   constructor
   ·intro h;cases h
   ·rintro⟨x,hx,e⟩;exact absurd e (P3.1 hg x hx)
  |some b=>simp only[Option.isSome_some,true_iff];exact⟨_,Qe hg,rfl⟩
 unfold nms
 rw[Jda,h,h]
 simp only[Vp,Zk,or_false]
 constructor
 ·rintro⟨x,h1|h1,h2⟩
  ·exact .inl ⟨x,h1,h2⟩
  ·exact .inr ⟨x,h1,h2⟩
 ·rintro (⟨x,h1,h2⟩|⟨x,h1,h2⟩)
  ·exact⟨x,.inl h1,h2⟩
  ·exact⟨x,.inr h1,h2⟩
def Cyb (l:List Nmd) (s:ByteArray):pk l s=(gt l s).map λ b=>(s,b):=by
 unfold pk gt
 cases h:fnd l s with
 |none=>rfl
 |some i=>rw[Isb,← (Oe h).2]
def Y7 (kp:List Bool) (a b:List Nmd):∀ (ns:List ByteArray) (i:Nat),((Sg kp a b ns i).map Prod.fst).Sublist ns
 |[],_=>List.Sublist.slnil
 |s::ns,i=>by
  unfold Sg
  rw[Cyb]
  cases gt (bif kp.getD i false then a else b) s with
  |none=>exact(Y7 kp a b ns (i+1)).cons s
  |some c=>exact(Y7 kp a b ns (i+1)).cons_cons s
def Vfa (kp:List Bool) (a b:List Nmd) (ns:List ByteArray) (i:Nat):(Sg kp a b ns i).length≤ns.length:=by
 have:=(Y7 kp a b ns i).length_le
 rwa [We]at this
def Qna {kp:List Bool} {a b:List Nmd} {ns:List ByteArray} {i:Nat} (h:TS ns):Ho (Sg kp a b ns i):=by
 have:=J7b (Y7 kp a b ns i) h
 rwa [Hnb]at this
def Vga {kp:List Bool} {a b:List Nmd}:∀ {ns:List ByteArray} {i:Nat} {x:Nmd},x∈Sg kp a b ns i→gt a x.1=some x.2∨gt b x.1=some x.2
 |[],_,_,h=>by cases h
 |s::ns,i,x,h=>by
  unfold Sg at h
  rw[Cyb]at h
  rcases Vp.1 h with h|h
  ·cases hg:gt (bif kp.getD i false then a else b) s with
   |none=>rw[hg]at h;cases h
   |some c=>
    rw[hg]at h
    rw[Vu.1 h]
    cases hk:kp.getD i false with
    |true=>rw[hk]at hg;exact .inl hg
    |false=>rw[hk]at hg;exact .inr hg
  ·exact Vga h
def Arb {kp:List Bool} {a b:List Nmd} {t:ByteArray}:∀ {ns:List ByteArray} {i:Nat},TS ns→t∈ns→∃ j,i≤j∧gt (Sg kp a b ns i) t=gt (bif kp.getD j false then a else b) t
 |[],_,_,h=>by cases h
 |s::ns,i,hs,h=>by
  obtain⟨h1,h2⟩:=Wh.1 hs
  have hn:∀ j,gt (Sg kp a b ns j) s=none:=λ j=>P3.2 λ x hx e=>by
   have:=h1 x.1 ((Y7 kp a b ns j).subset (Yr hx))
   rw[e,Lm]at this
   cases this
  unfold Sg
  rw[Cyb]
  rcases Vm.1 h with rfl|h
  ·refine⟨i,Vv _,?_⟩
   cases hg:gt (bif kp.getD i false then a else b) t with
   |none=>exact hn _
   |some c=>
    show gt ((t,c)::Sg kp a b ns (i+1)) t=_
    rw[Loa,if_pos rfl]
  ·obtain⟨j,hj,e⟩:=Arb (kp:=kp) (a:=a) (b:=b) (i:=i+1) h2 h
   refine⟨j,by omega,?_⟩
   rw[← e]
   have hst:s≠t:=λ e=>by
    have:=h1 t h
    rw[e,Lm]at this
    cases this
   cases gt (bif kp.getD i false then a else b) s with
   |none=>rfl
   |some c=>
    show gt ((s,c)::Sg kp a b ns (i+1)) t=_
    rw[Loa,if_neg hst]
def Lwa {d:Dsk} {kp:List Bool} (h:DG d):DG (Rz d kp):=by
 unfold Rz
 cases hc:decide ((Sg kp d.1 d.2 (nms d) 0).length > 60)
 case true=>exact h
 have hl:=of_decide_eq_false hc
 have n1:=(Ai.1 (E8.1 h.1).1).2.1
 have n2:=(Ai.1 (E8.1 h.1).2).2.1
 have q:Kh (Sg kp d.1 d.2 (nms d) 0)=true:=Ai.2 ⟨Qna (Aqb d),λ x hx=>(Vga hx).elim (λ e=>n1 _ (Qe e)) (λ e=>n2 _ (Qe e)),by omega⟩
 have b:LB (Sg kp d.1 d.2 (nms d) 0):=λ x hx=>(Vga hx).elim (λ e=>h.2.1.gt e) (λ e=>h.2.2.gt e)
 exact⟨E8.2 ⟨q,q⟩,b,b⟩
def Vha {d:Dsk} {kp:List Bool} (t:ByteArray):Rz d kp=d∨((Rz d kp).2=(Rz d kp).1∧(gt (Rz d kp).1 t=gt d.1 t∨gt (Rz d kp).1 t=gt d.2 t)):=by
 unfold Rz
 cases hc:decide ((Sg kp d.1 d.2 (nms d) 0).length > 60)
 case true=>exact .inl rfl
 refine .inr ⟨rfl,?_⟩
 show gt (Sg kp d.1 d.2 (nms d) 0) t=_∨gt (Sg kp d.1 d.2 (nms d) 0) t=_
 by_cases ht:t∈nms d
 ·obtain⟨j,_,e⟩:=Arb (kp:=kp) (a:=d.1) (b:=d.2) (i:=0) (Aqb d) ht
  rw[e]
  cases kp.getD j false with
  |true=>exact .inl rfl
  |false=>exact .inr rfl
 ·have h1:gt d.1 t=none:=by
   cases hg:gt d.1 t with
   |none=>rfl
   |some b=>exact absurd (Cxb.2 (.inl (by rw[hg];rfl))) ht
  left
  rw[h1]
  exact P3.2 λ x hx e=>ht (by rw[← e];exact(Y7 _ _ _ _ _).subset (Yr hx))
def Gda {R:Type} {L:Nat→List Nmd→Option R} {Q:R→Prop} (c:List Nmd) (s:ByteArray) (acc:List Nmd) (hc:c.length≤5000000) (ha:acc.length≤5000000) (next:Tot (λ k=>L k (acc++pk1 (pk c s))) Q):
  Tot (λ k=>(J0 k c s).bind λ r=>cond (decide (r≥0)) (cond (decide ((0:Int)≤r)) (cond (decide (r<(length c:Int))) (cond (Nat.ble ((length acc+length [getD c (toNat r) ((⟨#[]⟩:ByteArray),[])])*40) 140737488355328) (L k (acc++[getD c (toNat r) ((⟨#[]⟩:ByteArray),[])])) none) none) none) (L k acc)) Q:=by
 refine Hib (C8a c s (by omega)) ?_
 unfold pk at next
 unfold G0a
 cases h:fnd c s with
 |none=>
  rw[h]at next
  simp only[pk1,Wm]at next
  exact Hcb (by decide) next
 |some i=>
  rw[h]at next
  have:=(Oe h).1
  simp only[Vb]
  exact Hbb (by omega) (Hbb (by omega) (Hbb (by omega) (Hfb (by simp only[Vc,Vg];omega) next)))
def Gea {R:Type} {L:Nat→List Nmd→Option R} {Q:R→Prop} (c:List Nmd) (s:ByteArray) (acc:List Nmd) (hc:c.length≤5000000) (ha:acc.length≤5000000) (next:Tot (λ k=>L k (acc++pk1 (pk c s))) Q):
  Tot (λ k=>(Ec k c s).bind λ r=>cond (decide (r≥0)) (cond (decide ((0:Int)≤r)) (cond (decide (r<(length c:Int))) (cond (Nat.ble ((length acc+length [getD c (toNat r) ((⟨#[]⟩:ByteArray),[])])*40) 140737488355328) (L k (acc++[getD c (toNat r) ((⟨#[]⟩:ByteArray),[])])) none) none) none) (L k acc)) Q:=by
 refine Hib (Eha c s (by omega)) ?_
 unfold pk at next
 unfold G0a
 cases h:fnd c s with
 |none=>
  rw[h]at next
  simp only[pk1,Wm]at next
  exact Hcb (by decide) next
 |some i=>
  rw[h]at next
  have:=(Oe h).1
  simp only[Vb]
  exact Hbb (by omega) (Hbb (by omega) (Hbb (by omega) (Hfb (by simp only[Vc,Vg];omega) next)))
def Via (d:Dsk) (kp:List Bool) (hd:DG d) (hk:kp.length≤4000000000000):Tot (λ k=>D9 k d kp) (λ r=>r=Rz d kp):=by
 have hin:=Ng hd.1
 have g1:=(Ai.1 (E8.1 hd.1).1).2.2
 have g2:=(Ai.1 (E8.1 hd.1).2).2.2
 unfold D9
 refine Hib (Qc d hin.1.1 hin.1.2) ?_
 rw[hd.1]
 refine H9b rfl (Hfb (by simp only[Vg];omega) ?_)
 rw[Vx]
 refine Hfb (by omega) ?_
 have hm:(d.1++d.2).length≤120:=by rw[Vd];omega
 have hn:(nms d).length≤120:=by have:=Ta (d.1++d.2) [];rw[Vg]at this;exact Zm this (by omega)
 refine H8b (Q:=λ r=>r=(kp,nms d,d.1,d.2,[],[])) ?_ ?_
 ·refine Hgb (L:=λ k i s=>Fx k kp s (d.1++d.2) ((d.1++d.2).length:Int) i d.1 d.2 [] []) (Q:=λ r=>r=(kp,nms d,d.1,d.2,[],[])) (d.1++d.2).length (λ j s=>Ry ((d.1++d.2).drop j) s=nms d∧s.length≤j) ?_ ?_ 0 [] (Vq _) ⟨rfl,Vv _⟩
  ·rintro s ⟨h,_⟩
   rw[Wa]at h
   simp (disch:=omega) only [Fx,dF]
   exact H7b (by rw[← h];rfl)
  ·rintro j s hj ⟨h,hs⟩ next
   rw[Ah (d:=Dd) hj]at h
   simp (disch:=omega) only [Fx,dT,Vb,w64]
   refine Hib (Wy s _ (by omega)) ?_
   have:=O9a (l:=s) (s:=((d.1++d.2).getD j Dd).1)
   exact next _ ⟨h,by have e:(d.1++d.2).getD j ((⟨#[]⟩:ByteArray),([]:List Int))=(d.1++d.2).getD j Dd:=rfl;rw[e];omega⟩
 ·rintro r rfl
  refine H8b (Q:=λ r=>r=(Sg kp d.1 d.2 (nms d) 0,d.1,d.2,[],[])) ?_ ?_
  ·refine Hgb (L:=λ k i s=>Ax k kp s (nms d) ((nms d).length:Int) i d.1 d.2 [] []) (Q:=λ r=>r=(Sg kp d.1 d.2 (nms d) 0,d.1,d.2,[],[])) (nms d).length (λ j s=>s++Sg kp d.1 d.2 ((nms d).drop j) j=Sg kp d.1 d.2 (nms d) 0∧s.length≤j) ?_ ?_ 0 [] (Vq _) ⟨rfl,Vv _⟩
   ·rintro s ⟨h,_⟩
    rw[Wa,Vea,Wm]at h
    simp (disch:=omega) only [Ax,dF]
    exact H7b (by rw[h])
   ·rintro j s hj ⟨h,hs⟩ next
    rw[Ah (d:=On) hj]at h
    rw[Ora,← Vo]at h
    simp (disch:=omega) only [Ax,dT,Vb,w64]
    have hl:=Vda (pk (bif kp.getD j false then d.1 else d.2) ((nms d).getD j On))
    have nx:=next (s++pk1 (pk (bif kp.getD j false then d.1 else d.2) ((nms d).getD j On))) ⟨h,by rw[Vd];omega⟩
    have e0:(nms d).getD j (⟨#[]⟩:ByteArray)=(nms d).getD j On:=rfl
    rw[e0]
    refine Heb (λ hc=>?_) (λ hc=>?_)
    ·refine Hbb (by omega) (Hdb (λ hk=>?_) (λ hk=>?_))
     ·rw[hk]at nx
      exact Gda (L:=λ k acc=>Ax k kp acc (nms d) ((nms d).length:Int) ((j:Int)+1) d.1 d.2 [] []) d.1 _ s (by omega) (by omega) nx
     ·rw[hk]at nx
      exact Gda (L:=λ k acc=>Ax k kp acc (nms d) ((nms d).length:Int) ((j:Int)+1) d.1 d.2 [] []) d.2 _ s (by omega) (by omega) nx
    ·have hk:kp.getD j false=false:=by rw[Ve,Zf (by omega)];rfl
     rw[hk]at nx
     exact Gda (L:=λ k acc=>Ax k kp acc (nms d) ((nms d).length:Int) ((j:Int)+1) d.1 d.2 [] []) d.2 _ s (by omega) (by omega) nx
  ·rintro r rfl
   have hp:=Vfa kp d.1 d.2 (nms d) 0
   unfold Rz
   refine Heb (λ h=>?_) (λ h=>?_)
   ·dsimp only at h
    rw[decide_eq_true (show (Sg kp d.1 d.2 (nms d) 0).length > 60 by omega)]
    refine Hib (J7 (d.1,d.2) hin.1.1) ?_
    exact H7b rfl
   ·dsimp only at h
    have hc:decide ((Sg kp d.1 d.2 (nms d) 0).length > 60)=false:=decide_eq_false (by omega)
    have hg:=Lwa (kp:=kp) hd
    unfold Rz at hg
    rw[hc]at hg ⊢
    rw[cond_false]at hg
    have hf:=(Ng hg.1).1.1.1
    refine Hib (Pk _ hf) ?_
    refine Hib (Pk _ hf) ?_
    exact H7b rfl

def mk0 (s:ByteArray):Nmd:=(s,[])
def Y8 {ns:List ByteArray} (h:TS ns):Ho (ns.map mk0):=by
 unfold Ho
 rw[Hnb]
 exact h
def Asb {ns:List ByteArray} (h:TS ns) {t:ByteArray}:(t∈ns→gt (ns.map mk0) t=some [])∧(t∉ns→gt (ns.map mk0) t=none):=by
 refine⟨λ ht=>?_,λ ht=>P3.2 λ x hx e=>?_⟩
 ·exact Uka (Y8 h) (x:=mk0 t) (Yr ht)
 ·obtain⟨s,hs,rfl⟩:=Zc.1 hx
  exact ht (by rw[← e];exact hs)
def Ffb {ns:List ByteArray} (h:TS ns) (s:ByteArray):ptl (s,[]) false (ns.map mk0)=(wt ns s).map mk0:=by
 have h1:=Y8 h
 rw[Y1 _ h1]
 refine Ahb (Tu (P0 h1) Cca) (Y8 (R6 h)) λ t=>?_
 have e:=Lra h1 (s:=s) (t:=t) (b:=[])
 unfold wr at e
 rw[e]
 have g1:=Asb h (t:=t)
 have g2:=Asb (R6 (s:=s) h) (t:=t)
 by_cases hst:s=t
 ·rw[if_pos hst,g2.1 (Iqa.2 (.inl hst.symm))]
 ·rw[if_neg hst]
  by_cases ht:t∈ns
  ·rw[g1.1 ht,g2.1 (Iqa.2 (.inr ht))]
  ·rw[g1.2 ht,g2.2 (λ c=>(Iqa.1 c).elim (λ e=>hst e.symm) ht)]
def Vja (a b:List Nmd) (ha:a.length≤2000000) (hb:b.length≤2000000):Tot (λ k=>Db k a b) (λ r=>r=nms (a,b)):=by
 unfold Db
 have put:∀ {ns:List ByteArray} (x:Nmd),TS ns→ns.length≤5000000→Tot (λ k=>Gk k (ns.map mk0) x.1 []) (λ r=>r=(wt ns x.1).map mk0):=λ x ht hl=>(G2a _ x.1 [] (by rw[We];omega) (by simp)).mono λ r hr=>by rw[hr,Ffb ht]
 refine H8b (Q:=λ r=>r=(b,(Ry a []).map mk0)) ?_ ?_
 ·refine Hgb (L:=λ k i s=>Gw k a b s i) (Q:=λ r=>r=(b,(Ry a []).map mk0)) a.length (λ j s=>∃ ns,s=ns.map mk0∧TS ns∧Ry (a.drop j) ns=Ry a []∧ns.length≤j) ?_ ?_ 0 [] (Vq _) ⟨[],rfl,List.Pairwise.nil,rfl,Vv _⟩
  ·rintro s ⟨ns,rfl,_,h,_⟩
   rw[Wa]at h
   simp (disch:=omega) only [Gw,dF]
   exact H7b (by rw[← h];rfl)
  ·rintro j s hj ⟨ns,rfl,ht,h,hl⟩ next
   rw[Ah (d:=Dd) hj]at h
   simp (disch:=omega) only [Gw,dT,Vb,w64]
   refine Hib (put (a.getD j Dd) ht (by omega)) ?_
   have:=O9a (l:=ns) (s:=(a.getD j Dd).1)
   exact next _ ⟨_,rfl,R6 ht,h,by omega⟩
 ·rintro r rfl
  have hla:(Ry a []).length≤2000000:=by have:=Ta a [];rw[Vg]at this;omega
  have e:Ry b (Ry a [])=nms (a,b):=by unfold nms Ry;rw[Ijb]
  refine H8b (Q:=λ r=>r=(nms (a,b)).map mk0) ?_ ?_
  ·refine Hgb (L:=λ k i s=>Gv k b s i) (Q:=λ r=>r=(nms (a,b)).map mk0) b.length (λ j s=>∃ ns,s=ns.map mk0∧TS ns∧Ry (b.drop j) ns=nms (a,b)∧ns.length≤2000000+j) ?_ ?_ 0 _ (Vq _) ⟨_,rfl,Gca _ _ List.Pairwise.nil,e,by omega⟩
   ·rintro s ⟨ns,rfl,_,h,_⟩
    rw[Wa]at h
    simp (disch:=omega) only [Gv,dF]
    exact H7b (by rw[← h];rfl)
   ·rintro j s hj ⟨ns,rfl,ht,h,hl⟩ next
    rw[Ah (d:=Dd) hj]at h
    simp (disch:=omega) only [Gv,dT,Vb,w64]
    refine Hib (put (b.getD j Dd) ht (by omega)) ?_
    have:=O9a (l:=ns) (s:=(b.getD j Dd).1)
    exact next _ ⟨_,rfl,R6 ht,h,by omega⟩
  ·rintro r rfl
   have hln:(nms (a,b)).length≤4000000:=by rw[← e];have:=Ta b (Ry a []);omega
   refine H8b (Q:=λ r=>r=nms (a,b)) ?_ (by rintro r rfl;exact H7b rfl)
   refine Hgb (L:=λ k i s=>Fn k ((nms (a,b)).map mk0) s i) (Q:=λ r=>r=nms (a,b)) (nms (a,b)).length (λ j s=>s=(nms (a,b)).take j) ?_ ?_ 0 [] (Vq _) rfl
   ·rintro s rfl
    simp (disch:=omega) only [Fn,We,dF,Yt]
    exact H7b rfl
   ·rintro j s hj rfl next
    simp (disch:=omega) only [Fn,We,dT,Vb,w64]
    refine Hfb (by simp only[Vs,Vc,Vg];omega) (next _ ?_)
    rw[Wl hj,Ve,Hub,Vk hj]
    rfl
def Vka (d:Dsk) (kp:List Bool) (hd:DG d) (hk:kp.length≤4000000000000):Tot (λ k=>Ef k d kp) (λ r=>r=Rz d kp):=by
 have hin:=Ng hd.1
 have g1:=(Ai.1 (E8.1 hd.1).1).2.2
 have g2:=(Ai.1 (E8.1 hd.1).2).2.2
 unfold Ef
 refine Hib (Rq d hin.1.1 hin.1.2) ?_
 rw[hd.1]
 refine H9b rfl (Hib (Vja d.1 d.2 (by omega) (by omega)) ?_)
 have hn:(nms d).length≤120:=by
  have:=Ta (d.1++d.2) []
  rw[Vg,Vd]at this
  exact Zm this (by omega)
 refine H8b (Q:=λ r=>r=(Sg kp d.1 d.2 (nms d) 0,d,([],[]))) ?_ ?_
 ·refine Hgb (L:=λ k i s=>B1 k kp (nms d) s i d ([],[])) (Q:=λ r=>r=(Sg kp d.1 d.2 (nms d) 0,d,([],[]))) (nms d).length (λ j s=>s++Sg kp d.1 d.2 ((nms d).drop j) j=Sg kp d.1 d.2 (nms d) 0∧s.length≤j) ?_ ?_ 0 [] (Vq _) ⟨rfl,Vv _⟩
  ·rintro s ⟨h,_⟩
   rw[Wa,Vea,Wm]at h
   simp (disch:=omega) only [B1,dF]
   exact H7b (by rw[h])
  ·rintro j s hj ⟨h,hs⟩ next
   rw[Ah (d:=On) hj]at h
   rw[Ora,← Vo]at h
   simp (disch:=omega) only [B1,dT,Vb,w64]
   have hl:=Vda (pk (bif kp.getD j false then d.1 else d.2) ((nms d).getD j On))
   have nx:=next (s++pk1 (pk (bif kp.getD j false then d.1 else d.2) ((nms d).getD j On))) ⟨h,by rw[Vd];omega⟩
   have e0:(nms d).getD j (⟨#[]⟩:ByteArray)=(nms d).getD j On:=rfl
   rw[e0]
   refine Heb (λ hc=>?_) (λ hc=>?_)
   ·refine Hbb (by omega) (Hdb (λ hk=>?_) (λ hk=>?_))
    ·rw[hk]at nx
     exact Gea (L:=λ k acc=>B1 k kp (nms d) acc ((j:Int)+1) d ([],[])) d.1 _ s (by omega) (by omega) nx
    ·rw[hk]at nx
     exact Gea (L:=λ k acc=>B1 k kp (nms d) acc ((j:Int)+1) d ([],[])) d.2 _ s (by omega) (by omega) nx
   ·have hk:kp.getD j false=false:=by rw[Ve,Zf (by omega)];rfl
    rw[hk]at nx
    exact Gea (L:=λ k acc=>B1 k kp (nms d) acc ((j:Int)+1) d ([],[])) d.2 _ s (by omega) (by omega) nx
 ·rintro r rfl
  have hp:=Vfa kp d.1 d.2 (nms d) 0
  unfold Rz
  refine Heb (λ h=>?_) (λ h=>?_)
  ·dsimp only at h
   rw[decide_eq_true (show (Sg kp d.1 d.2 (nms d) 0).length > 60 by omega)]
   refine Hib (N8 d hin.1.1) ?_
   exact H7b rfl
  ·dsimp only at h
   have hc:decide ((Sg kp d.1 d.2 (nms d) 0).length > 60)=false:=decide_eq_false (by omega)
   have hg:=Lwa (kp:=kp) hd
   unfold Rz at hg
   rw[hc]at hg ⊢
   rw[cond_false]at hg
   have hf:=(Ng hg.1).1.1.1
   refine Hib (Qd _ hf) ?_
   refine Hib (Qd _ hf) ?_
   exact H7b rfl
def Czb {d:Dsk} {s:ByteArray} {n:Int} (h:DG d) (hn:n≤9223372036854775807) (hn0 : -9223372036854775808≤n):Tot (λ k=>M2 k d s n) (λ r=>r=D5a d s n):=by
 have hin:=Ng h.1
 unfold M2
 refine Hib (J7 d hin.1.1) ?_
 refine Hib (C8a d.1 s hin.1.1.1.1) ?_
 refine Hib (C8a d.2 s hin.1.1.2.1) ?_
 refine Hib (Qc d hin.1.1 hin.1.2) ?_
 rw[h.1]
 refine H9b rfl ?_
 unfold D5a
 unfold G0a
 cases hf:fnd d.1 s with
 |none=>
  have hg:gt d.1 s=none:=by unfold gt;rw[hf]
  rw[hg]
  exact Hbb (by decide) (H7b rfl)
 |some i=>
  have hg:gt d.1 s=some (d.1.getD i Dd).2:=by unfold gt;rw[hf]
  have hi:=(Oe hf).1
  have hnm:=(Oe hf).2
  have hb:=Upa h.1 hg
  rw[hg]
  have e0:d.1.getD i ((⟨#[]⟩:ByteArray),([]:List Int))=d.1.getD i Dd:=rfl
  simp only[Vb,e0]
  refine Hcb (by omega) ?_
  have out:∀ {b:Bool},inR n 0 (8*((d.1.getD i Dd).2.length:Int)-1)=b→b=false→(d,false)=bif inR n 0 (8*((d.1.getD i Dd).2.length:Int)-1) then ((wr d.1 s (O8 (d.1.getD i Dd).2 n.toNat),bif decide (gt d.2 s=some (d.1.getD i Dd).2) then wr d.2 s (O8 (d.1.getD i Dd).2 n.toNat) else d.2),true) else (d,false):=λ e e'=>by rw[e,e'];rfl
  refine Heb (λ hneg=>H7b (out rfl ?_)) (λ hneg=>?_)
  ·cases hc:inR n 0 (8*((d.1.getD i Dd).2.length:Int)-1) with
   |false=>rfl
   |true=>have:=Cc.1 hc;omega
  ·obtain⟨m,rfl⟩:∃ m:Nat,n=(m:Int):=⟨n.toNat,by omega⟩
   have et:wrap .i64 (Int.tdiv (m:Int) 8)=((m/8:Nat):Int):=by
    rw[Hlb (by omega),w64 (by omega) (by omega)]
    omega
   have eu:Int.tmod (m:Int) 8=((m % 8:Nat):Int):=by
    rw[Zv (by omega)]
    omega
   simp only[et,eu,Vb,Usa _ _ (K1b m (show 0<8 by omega))]
   refine Hbb (by omega) (Hbb (by omega) (Heb (λ hc=>H7b (out rfl ?_)) (λ hc=>?_)))
   ·cases hr:inR (m:Int) 0 (8*((d.1.getD i Dd).2.length:Int)-1) with
    |false=>rfl
    |true=>have:=Cc.1 hr;omega
   ·have hr:inR (m:Int) 0 (8*((d.1.getD i Dd).2.length:Int)-1)=true:=Cc.2 ⟨by omega,by omega⟩
    have hm8:m/8<(d.1.getD i Dd).2.length:=by omega
    rw[hr]
    refine Hcb (by omega) (Hbb (by omega) (Hbb (by omega) (Hbb (by omega) (Hbb (by omega) (Hbb (by omega) (Hbb (by omega) ?_))))))
    have ew':d.1.set i ((d.1.getD i Dd).1,(d.1.getD i Dd).2.set (m/8) (Aca ((d.1.getD i Dd).2.getD (m/8) 0) (m % 8)))=wr d.1 s (O8 (d.1.getD i Dd).2 m):=by rw[hnm];exact Iua (Nu h.1) hf _
    cases hf2:fnd d.2 s with
    |none=>
     have hg2:gt d.2 s=none:=by unfold gt;rw[hf2]
     rw[hg2]
     refine Hcb (by decide) (H7b ?_)
     rw[ew']
     rfl
    |some j=>
     have hg2:gt d.2 s=some (d.2.getD j Dd).2:=by unfold gt;rw[hf2]
     have hj:=(Oe hf2).1
     have hjn:=(Oe hf2).2
     have e1:d.2.getD j ((⟨#[]⟩:ByteArray),([]:List Int))=d.2.getD j Dd:=rfl
     rw[hg2]
     simp only[Vb,e1]
     refine Hbb (by omega) (Hbb (by omega) (Hbb (by omega) (Hbb (by omega) (Hbb (by omega) ?_))))
     rw[X1 (h.2.2.gt hg2) (h.2.1.gt hg)]
     refine Heb (λ he=>?_) (λ he=>?_)
     ·have hl2:(d.2.getD j Dd).2.length=(d.1.getD i Dd).2.length:=by rw[he]
      refine Hbb (by omega) (Hbb (by omega) (Hbb (by omega) (Hbb (by omega) (Hbb (by omega) (Hbb (by omega) (H7b ?_))))))
      have ew2:d.2.set j ((d.2.getD j Dd).1,(d.2.getD j Dd).2.set (m/8) (Aca ((d.2.getD j Dd).2.getD (m/8) 0) (m % 8)))=wr d.2 s (O8 (d.1.getD i Dd).2 m):=by
       rw[hjn,he]
       exact Iua (Qn h.1) hf2 _
      rw[ew',ew2,he,decide_eq_true rfl]
      rfl
     ·refine H7b ?_
      rw[ew',decide_eq_false (λ c=>he (Kab c))]
      rfl
def clS (o:Dsk×Int) (x:Nmd):Dsk×Int:=match Pf x.2 with
 |some _=>o
 |none=>((cut o.1.1 x.1,cut o.1.2 x.1),o.2+1)
def O6 (d:Dsk):Dsk×Int:=d.1.foldl clS (d,0)
def Qoa {l:List Nmd} {s:ByteArray} (h:gt l s=none):cut l s=l:=by
 refine List.filter_eq_self.2 λ x hx=>?_
 cases ht:teq x.1 s with
 |false=>rfl
 |true=>exact absurd (Lj.1 ht) (P3.1 h x hx)
def Fgb {d:Dsk} {s:ByteArray} (h:DG d):DG (cut d.1 s,cut d.2 s):=⟨E8.2 ⟨Z7 (E8.1 h.1).1,Z7 (E8.1 h.1).2⟩,h.2.1.cut s,h.2.2.cut s⟩
def Yva {o:Dsk×Int} {x:Nmd} (h:DG o.1):DG (clS o x).1:=by
 unfold clS
 cases Pf x.2 with
 |some _=>exact h
 |none=>exact Fgb h
def Osa:∀ (l:List Nmd) (o:Dsk×Int),DG o.1→DG (l.foldl clS o).1
 |[],_,h=>h
 |_::l,_,h=>Osa l _ (Yva h)
def Ywa {d:Dsk} (h:DG d):DG (O6 d).1:=Osa _ _ h
def Gna (l:List Nmd):List ByteArray:=(l.filter λ x=>(Pf x.2).isNone).map Prod.fst
def Coa:∀ (l:List Nmd) (o:Dsk×Int),DG o.1→((l.foldl clS o).2=o.2+((Gna l).length:Int))∧∀ t,(t∈Gna l→gt (l.foldl clS o).1.1 t=none∧gt (l.foldl clS o).1.2 t=none)∧(t∉Gna l→gt (l.foldl clS o).1.1 t=gt o.1.1 t∧gt (l.foldl clS o).1.2 t=gt o.1.2 t)
 |[],o,h=>⟨by simp[Gna],λ t=>⟨λ c=>by simp[Gna]at c,λ _=>⟨rfl,rfl⟩⟩⟩
 |x::l,o,h=>by
  obtain⟨h1,h2⟩:=Coa l (clS o x) (Yva h)
  rw[Za]
  cases hx:Pf x.2 with
  |some f=>
   have e:Gna (x::l)=Gna l:=by unfold Gna;rw[Hkb,hx];rfl
   have ec:clS o x=o:=by unfold clS;rw[hx]
   rw[e]
   rw[ec]at h1 h2 ⊢
   exact⟨h1,h2⟩
  |none=>
   have e:Gna (x::l)=x.1::Gna l:=by unfold Gna;rw[Hkb,hx];rfl
   have ec:clS o x=((cut o.1.1 x.1,cut o.1.2 x.1),o.2+1):=by unfold clS;rw[hx]
   rw[e]
   rw[ec]at h1 h2 ⊢
   refine⟨by rw[h1,Vc];omega,λ t=>⟨λ ht=>?_,λ ht=>?_⟩⟩
   ·by_cases hb:t∈Gna l
    ·exact(h2 t).1 hb
    ·obtain⟨a1,a2⟩:=(h2 t).2 hb
     have:x.1=t:=by
      rcases Vm.1 ht with e|e
      ·exact e.symm
      ·exact absurd e hb
     rw[a1,a2,X2 (Nu h.1),X2 (Qn h.1),if_pos this,if_pos this]
     exact⟨rfl,rfl⟩
   ·obtain⟨a1,a2⟩:=(h2 t).2 (λ c=>ht (Vj _ c))
    have:x.1≠t:=λ e=>ht (by rw[← e];exact Yk)
    rw[a1,a2,X2 (Nu h.1),X2 (Qn h.1),if_neg this,if_neg this]
    exact⟨rfl,rfl⟩
def Yxa {d:Dsk} (hd:An d=true) {t:ByteArray}:t∈Gna d.1↔∃ b,gt d.1 t=some b∧Pf b=none:=by
 unfold Gna
 rw[Zc]
 constructor
 ·rintro⟨x,hx,rfl⟩
  obtain⟨h1,h2⟩:=Izb.1 hx
  exact⟨x.2,Uka (Nu hd) h1,by simpa using h2⟩
 ·rintro⟨b,h1,h2⟩
  exact⟨(t,b),Izb.2 ⟨Qe h1,by simp[h2]⟩,rfl⟩
def Vla (d:Dsk) (hd:DG d):Tot (λ k=>Jx k d) (λ r=>r=O6 d):=by
 have hin:=Ng hd.1
 have hl:=(Ai.1 (E8.1 hd.1).1).2.2
 unfold Jx
 refine Hib (J7 d hin.1.1) ?_
 refine Hib (Qc d hin.1.1 hin.1.2) ?_
 rw[hd.1]
 refine H9b rfl (H8b (Q:=λ r=>r=((O6 d).2,([],[]),(O6 d).1)) ?_ (by rintro r rfl;exact H7b rfl))
 refine Hgb (L:=λ k i (s:Dsk×Int)=>Iv k s.2 d.1 (d.1.length:Int) i ([],[]) s.1) (Q:=λ r=>r=((O6 d).2,([],[]),(O6 d).1)) d.1.length (λ j s=>(d.1.drop j).foldl clS s=O6 d∧DG s.1∧0≤s.2∧s.2≤j) ?_ ?_ 0 (d,0) (Vq _) ⟨rfl,hd,Zs 0,by simp⟩
 ·rintro s ⟨h,_⟩
  rw[Wa]at h
  simp (disch:=omega) only [Iv,dF]
  exact H7b (by rw[← h];rfl)
 ·rintro j s hj ⟨h,hg,s0,s1⟩ next
  rw[Ah (d:=Dd) hj,Za]at h
  have hsi:=Ng hg.1
  have hx:=A4 (d:=Dd) hj
  simp (disch:=omega) only [Iv,dT,Vb,w64]
  have e0:d.1.getD j ((⟨#[]⟩:ByteArray),([]:List Int))=d.1.getD j Dd:=rfl
  rw[e0]
  refine Hib (Rw _ (hd.2.1 _ hx) (hin.1.1.1.2 _ hx)) ?_
  have hcg:=Yva (x:=d.1.getD j Dd) hg
  unfold clS at h hcg
  unfold Uq
  cases hf:Pf (d.1.getD j Dd).2 with
  |some f=>
   rw[hf]at h
   exact H9b rfl (next _ ⟨h,hg,s0,by omega⟩)
  |none=>
   rw[hf]at h hcg
   refine Hab rfl (Hib (Wx s.1.1 _ hsi.1.1.1.1) ?_)
   refine Hib (Wx s.1.2 _ hsi.1.1.2.1) ?_
   rw[Rs (Nu hg.1),Rs (Qn hg.1)]
   exact next ((cut s.1.1 (d.1.getD j Dd).1,cut s.1.2 (d.1.getD j Dd).1),s.2+1) ⟨h,hcg,by dsimp only;omega,by dsimp only;omega⟩
def Vma (d:Dsk) (hd:DG d):Tot (λ k=>Jw k d) (λ r=>r=O6 d):=by
 have hin:=Ng hd.1
 have hl:=(Ai.1 (E8.1 hd.1).1).2.2
 have hnk:=(Ai.1 (E8.1 hd.1).1).2.1
 unfold Jw
 refine Hib (N8 d hin.1.1) ?_
 refine H8b (Q:=λ r=>r=((O6 d).2,([],[]),(O6 d).1)) ?_ (by rintro r rfl;exact H7b rfl)
 refine Hgb (L:=λ k i (s:Dsk×Int)=>Iu k s.2 i d ([],[]) s.1) (Q:=λ r=>r=((O6 d).2,([],[]),(O6 d).1)) d.1.length (λ j s=>(d.1.drop j).foldl clS s=O6 d∧DG s.1∧0≤s.2∧s.2≤j) ?_ ?_ 0 (d,0) (Vq _) ⟨rfl,hd,Zs 0,by simp⟩
 ·rintro s ⟨h,_⟩
  rw[Wa]at h
  simp (disch:=omega) only [Iu,dF]
  exact H7b (by rw[← h];rfl)
 ·rintro j s hj ⟨h,hg,s0,s1⟩ next
  rw[Ah (d:=Dd) hj,Za]at h
  have hsi:=Ng hg.1
  have hx:=A4 (d:=Dd) hj
  simp (disch:=omega) only [Iu,dT,Vb,w64]
  have e0:d.1.getD j ((⟨#[]⟩:ByteArray),([]:List Int))=d.1.getD j Dd:=rfl
  rw[e0]
  refine Hib (Rq d hin.1.1 hin.1.2) ?_
  refine Hab hd.1 (Hib (Ava hin.1.1.1 hd.2.1 _) ?_)
  have hnm:=(Rr.1 (hnk _ hx)).1
  have hcg:=Yva (x:=d.1.getD j Dd) hg
  unfold clS at h hcg
  unfold lkD
  rw[Uka (Nu hd.1) hx]
  simp only
  cases hf:Pf (d.1.getD j Dd).2 with
  |some f=>
   rw[hf]at h
   exact H9b rfl (next _ ⟨h,hg,s0,by omega⟩)
  |none=>
   rw[hf]at h hcg
   refine Hab rfl (Hib (Ur hg.1 (J8 hnm)) ?_)
   have er:(rmD s.1 (d.1.getD j Dd).1).1=(cut s.1.1 (d.1.getD j Dd).1,s.1.2):=by
    unfold rmD
    cases hg1:gt s.1.1 (d.1.getD j Dd).1 with
    |none=>rw[Qoa hg1];rfl
    |some b=>rfl
   have hrg:=Uqa (s:=(d.1.getD j Dd).1) hg
   rw[er]at hrg ⊢
   refine Hib (X3 hrg.1 hnm) ?_
   have es:(syD (cut s.1.1 (d.1.getD j Dd).1,s.1.2) (d.1.getD j Dd).1).1=(cut s.1.1 (d.1.getD j Dd).1,cut s.1.2 (d.1.getD j Dd).1):=by
    have e2:sy (cut s.1.1 (d.1.getD j Dd).1,s.1.2) (d.1.getD j Dd).1=cut s.1.2 (d.1.getD j Dd).1:=by
     unfold sy
     rw[X2 (Nu hg.1),if_pos rfl]
    unfold syD
    rw[e2,decide_eq_true (Ai.1 (E8.1 hcg.1).2).2.2]
    rfl
   rw[es]
   exact next ((cut s.1.1 (d.1.getD j Dd).1,cut s.1.2 (d.1.getD j Dd).1),s.2+1) ⟨h,hcg,by dsimp only;omega,by dsimp only;omega⟩

def Gfa (l:List ByteArray) (s:ByteArray):Bool:=l.any λ y=>teq y s
def Ota {l:List ByteArray} {s:ByteArray}:Gfa l s=true↔s∈l:=by
 unfold Gfa
 rw[J9b]
 constructor
 ·rintro⟨x,hx,e⟩;rw[← Lj.1 e];exact hx
 ·intro h;exact⟨s,h,Lj.2 rfl⟩
def Oua (l:List ByteArray) (s:ByteArray) (hl:l.length≤1000000000):Tot (λ k=>Iy k l s) (λ r=>r=Gfa l s):=by
 unfold Iy
 refine H8b (Q:=λ r=>r=bif Gfa l s then .inl true else .inr ()) ?_ (by rintro r rfl;cases Gfa l s<;>exact H7b rfl)
 refine Hgb (L:=λ k i (_:Unit)=>Hz k l s i) (Q:=λ r=>r=bif Gfa l s then .inl true else .inr ()) l.length (λ j _=>Gfa (l.drop j) s=Gfa l s) ?_ ?_ 0 () (Vq _) rfl
 ·intro _ h
  rw[Wa]at h
  simp (disch:=omega) only [Hz,dF,← h]
  exact H7b rfl
 ·intro j _ hj h next
  rw[Ah (d:=On) hj]at h
  unfold Gfa at h
  rw[K2b]at h
  simp (disch:=omega) only [Hz,dT,Vb,w64]
  refine Hdb (λ hc=>H7b ?_) (λ hc=>next () ?_)
  ·rw[show teq (l.getD j On) s=true from hc,Kcb]at h
   unfold Gfa
   rw[← h]
   rfl
  ·rw[show teq (l.getD j On) s=false from hc,Hsb]at h
   exact h
def Jva (l:List ByteArray):Nat→ByteArray→List ByteArray×Nat
 |0,_=>(l,0)
 |k+1,s=>bif tlt s (l.getD k On) then Jva (l.set (k+1) (l.getD k On)) k s else (l,k+1)
def Atb (l:List ByteArray) (s:ByteArray):List ByteArray:=(Jva (l++[s]) l.length s).1.set (Jva (l++[s]) l.length s).2 s
def Cpa:∀ (k:Nat) (l:List ByteArray) (s:ByteArray),(Jva l k s).1.length=l.length∧(Jva l k s).2≤k∧∀ y∈(Jva l k s).1,y∈l∨y=On
 |0,_,_=>⟨rfl,Vv _,λ _ h => .inl h⟩
 |k+1,l,s=>by
  unfold Jva
  cases tlt s (l.getD k On)
  ·exact⟨rfl,Vv _,λ _ h => .inl h⟩
  obtain⟨h1,h2,h3⟩:=Cpa k (l.set (k+1) (l.getD k On)) s
  rw[cond_true]
  refine⟨by rw[h1,Vy],by omega,λ y hy=>?_⟩
  rcases h3 y hy with h|h
  ·rcases Xs h with h|h
   ·exact .inl h
   ·by_cases hk:k<l.length
    ·rw[h];exact .inl (A4 hk)
    ·rw[h,Ve,Zf (by omega)];exact .inr rfl
  ·exact .inr h
def Ova (l:List ByteArray) (s:ByteArray):(Atb l s).length=l.length+1:=by
 unfold Atb
 rw[Vy,(Cpa _ _ _).1,Vd]
 rfl
def Yya {l:List ByteArray} {s y:ByteArray} (h:y∈Atb l s):y∈l∨y=s∨y=On:=by
 unfold Atb at h
 rcases Xs h with h|h
 ·rcases (Cpa _ _ _).2.2 y h with h|h
  ·rcases Vp.1 h with h|h
   ·exact .inl h
   ·exact .inr (.inl (Vu.1 h))
  ·exact .inr (.inr h)
 ·exact .inr (.inl h)
def hS1 (l:List Nmd) (j:Nat) (out:List ByteArray) (x:Nmd):List ByteArray:=bif (Pf x.2).isSome&&(!(Gfa out x.1)&&(G0a l x.1==(j:Int))) then Atb out x.1 else out
def hS (l:List Nmd):List Nmd→Nat→List ByteArray→List ByteArray
 |[],_,out=>out
 |x::r,j,out=>hS l r (j+1) (hS1 l j out x)
def Qpa (d:Dsk):List ByteArray:=hS d.1 d.1 0 []
def Vna (l:List Nmd) (j:Nat) (out:List ByteArray) (x:Nmd):(hS1 l j out x).length≤out.length+1:=by
 unfold hS1
 cases (Pf x.2).isSome&&(!(Gfa out x.1)&&(G0a l x.1==(j:Int))) with
 |false=>exact Zg _
 |true=>rw[cond_true,Ova];exact Vv _
def Fhb (l:List Nmd) (hl:Q0 l):∀ (r:List Nmd) (j:Nat) (out:List ByteArray),(∀ x∈r,x∈l)→(∀ y∈out,Lo y)→(hS l r j out).length≤out.length+r.length∧∀ y∈hS l r j out,Lo y
 |[],_,out,_,h=>⟨by simp[hS],h⟩
 |x::r,j,out,hm,h=>by
  have h2:=Vna l j out x
  obtain⟨a1,a2⟩:=Fhb l hl r (j+1) (hS1 l j out x) (λ y hy=>hm y (Vj _ hy)) (λ y hy=>by
   unfold hS1 at hy
   cases hc:(Pf x.2).isSome&&(!(Gfa out x.1)&&(G0a l x.1==(j:Int)))
   ·rw[hc]at hy;exact h y hy
   rw[hc]at hy
   rcases Yya hy with hy|rfl|rfl
   ·exact h y hy
   ·exact hl x (hm x Yk)
   ·unfold Lo;decide)
  refine⟨?_,a2⟩
  show (hS l r (j+1) (hS1 l j out x)).length≤_
  rw[Vc]
  omega
def Lxa (a b:List Nmd) (j:Nat) (hj:j<a.length) (ha:a.length≤5000000):∀ (k:Nat) (x:List ByteArray),k<x.length→x.length≤5000000→
  Tot (λ n=>Ko n x (j:Int) (k:Int) (a,b)) (λ r=>r=((Jva x k (a.getD j Dd).1).1,(j:Int),((Jva x k (a.getD j Dd).1).2:Int),(a,b))):=by
 intro k
 induction k with
 |zero=>
  intro x hk hx
  refine Tot.succ ?_
  simp (disch:=omega) only [Ko,dF]
  exact H7b rfl
 |succ k ih=>
  intro x hk hx
  refine Tot.succ ?_
  have e1:((k+1:Nat):Int)-1=(k:Int):=by omega
  simp (disch:=omega) only [Ko,dT,w64,e1,Vb]
  have e0:a.getD j ((⟨#[]⟩:ByteArray),([]:List Int))=a.getD j Dd:=rfl
  rw[e0]
  unfold Jva
  refine Hdb (λ h=>?_) (λ h=>?_)
  ·rw[I8a]at h
   rw[show tlt (a.getD j Dd).1 (x.getD k On)=true from h,cond_true]
   exact ih _ (by rw[Vy];omega) (by rw[Vy];omega)
  ·rw[I8a]at h
   rw[show tlt (a.getD j Dd).1 (x.getD k On)=false from h,cond_false]
   exact H7b rfl
def Yza (d:Dsk) (hd:DIn d) (hb:DB d):Tot (λ k=>Gd k d) (λ r=>r=Qpa d):=by
 have hl:=hd.2.1
 unfold Gd
 refine H8b (Q:=λ r=>r=Qpa d) ?_ (by rintro r rfl;exact H7b rfl)
 refine Hgb (L:=λ k i s=>Ht k s i d) (Q:=λ r=>r=Qpa d) d.1.length (λ j s=>hS d.1 (d.1.drop j) j s=Qpa d∧s.length≤j) ?_ ?_ 0 [] (Vq _) ⟨rfl,Vv _⟩
 ·rintro s ⟨h,_⟩
  rw[Wa]at h
  simp (disch:=omega) only [Ht,dF]
  exact H7b h
 ·rintro j s hj ⟨h,hs⟩ next
  rw[Ah (d:=Dd) hj]at h
  have hlen:=Vna d.1 j s (d.1.getD j Dd)
  have nx:=next _ ⟨show hS d.1 (d.1.drop (j+1)) (j+1) (hS1 d.1 j s (d.1.getD j Dd))=Qpa d from h,by omega⟩
  have hx:=A4 (d:=Dd) hj
  simp (disch:=omega) only [Ht,dT,Vb,w64]
  have e0:d.1.getD j ((⟨#[]⟩:ByteArray),([]:List Int))=d.1.getD j Dd:=rfl
  rw[e0]
  unfold hS1 at nx
  refine Hib (Cfa _ (hb.1 _ hx) (hd.1.1.1.2 _ hx)) ?_
  unfold Uq
  cases hf:Pf (d.1.getD j Dd).2 with
  |none=>
   rw[hf]at nx
   exact Hab rfl nx
  |some f=>
   rw[hf]at nx
   refine H9b rfl (Hib (Oua s _ (by omega)) ?_)
   cases hc:Gfa s (d.1.getD j Dd).1 with
   |true=>
    rw[hc]at nx
    exact Hab rfl nx
   |false=>
    rw[hc]at nx
    refine H9b rfl (Hib (Eha d.1 _ (by omega)) ?_)
    cases he:G0a d.1 (d.1.getD j Dd).1==(j:Int) with
    |false=>
     rw[he]at nx
     exact Hab (by unfold bne;rw[he];rfl) nx
    |true=>
     rw[he]at nx
     refine H9b (by unfold bne;rw[he];rfl) (Hfb (by simp only[Vc,Vg];omega) ?_)
     have hq:=Lxa d.1 d.2 j hj (by omega) s.length (s++[(d.1.getD j Dd).1]) (by simp) (by simp only[Vd,Vc,Vg];omega)
     refine H8b hq ?_
     rintro r rfl
     obtain⟨w1,w2,_⟩:=Cpa s.length (s++[(d.1.getD j Dd).1]) (d.1.getD j Dd).1
     rw[Vd]at w1
     simp only[Vc,Vg]at w1
     simp (disch:=omega) only [dT,Vb,w64]
     exact nx

def Lya (n:Nod) (s:ByteArray) (f:Fil) (sure:Bool) (hn:NIn n) (hs:Lo s):Tot (λ k=>Ky k n s f sure) (λ r=>r=Amb n s f sure):=by
 have hq:=hn.2.2.1
 unfold Ky Amb
 refine Hib (Nh n hn) ?_
 refine Hib (X4 n hn) ?_
 cases h1:Mr n
 ·exact Hab rfl (H7b rfl)
 have h60:=(Cj.1 h1).2.2.2.2
 refine H9b rfl (Hib (Pi s hs) ?_)
 cases Az s
 ·exact Hab rfl (H7b rfl)
 refine H9b rfl (Hib (Hjb (Q:=λ r=>r=Ee f) (Asa f) rfl) ?_)
 cases Ee f
 ·exact Hab rfl (H7b rfl)
 refine H9b rfl ?_
 unfold U7
 refine Heb (λ h=>H7b ?_) (λ h=>?_)
 ·rw[show ((n.2.2.2.length:Int)==60)=true from beq_iff_eq.2 (by omega)]
  rfl
 ·rw[show ((n.2.2.2.length:Int)==60)=false from beq_eq_false_iff_ne.2 (by omega)]
  refine Hib (Oda n.2.1 s f sure hn.1.1 hn.1.2.1 hs) ?_
  cases (keep n.2.1 s f sure).2==0
  ·exact H9b rfl (H7b rfl)
  refine Hab rfl ?_
  cases sure
  ·exact H9b rfl (H7b rfl)
  refine Hab rfl (Hib (Hjb (Q:=λ r=>r=Y3 s f) (show N5 s f=some (Y3 s f) from rfl) rfl) ?_)
  exact Hfb (by simp only[Vc,Vg];omega) (H7b rfl)
def Lza (n:Nod) (s:ByteArray) (b:Int) (hn:NIn n) (h1:b≤9223372036854775807) (h0 : -9223372036854775808≤b):Tot (λ k=>Kz k n s b) (λ r=>r=D6a n s b):=by
 unfold Kz D6a
 refine Hib (Nh n hn) ?_
 refine Hib (Oca hn.1.1.1.1.1 hn.1.2.1 s) ?_
 refine Hib (X4 n hn) ?_
 cases h:Mr n
 ·exact Hab rfl (H7b rfl)
 refine H9b rfl ?_
 cases hl:(lkD n.2.1 s).2==0
 ·exact Hab (by unfold bne;rw[hl];rfl) (H7b rfl)
 refine H9b (by unfold bne;rw[hl];rfl) (Hib (Czb (NG.g ⟨h,hn.1.2⟩) h1 h0) ?_)
 refine H7b ?_
 cases hr:(D5a n.2.1 s b).2
 case true=>rfl
 have e:(D5a n.2.1 s b).1=n.2.1:=by
  unfold D5a at hr ⊢
  cases hg:gt n.2.1.1 s with
  |none=>rfl
  |some c=>
   rw[hg]at hr
   simp only at hr ⊢
   cases hc:inR b 0 (8*(c.length:Int)-1) with
   |false=>rfl
   |true=>rw[hc]at hr;cases hr
 rw[e]
 rfl
def Glb (n:Nod):Nod×Int:=((n.1,(O6 n.2.1).1,n.2.2),(O6 n.2.1).2)
def Voa (n:Nod) (kp:List Bool):Nod:=bif Mr n then (n.1,Rz n.2.1 kp,n.2.2) else n
def Gga {n:Nod} (hn:NG n) {d:Dsk} (hd:DG d):NG (n.1,d,n.2.2):=by
 obtain⟨h1,h2,h3,h4,h5⟩:=Cj.1 hn.1
 exact⟨Cj.2 ⟨h1,h2,hd.1,h4,h5⟩,hd.2⟩
def Aub {n:Nod} (hn:NG n):NG (Glb n).1:=Gga hn (Ywa hn.g)
def Vpa (n:Nod) (hn:NG n):Tot (λ k=>Ii k n) (λ r=>r=Glb n):=by
 unfold Ii
 refine Hib (Nh n (Se hn)) ?_
 refine Hib (Vla n.2.1 hn.g) ?_
 exact H7b rfl
def Vqa (n:Nod) (kp:List Bool) (hn:NIn n) (hk:kp.length≤4000000000000):Tot (λ k=>Ij k n kp) (λ r=>r=Voa n kp):=by
 unfold Ij Voa
 refine Hib (Nh n hn) ?_
 refine Hib (X4 n hn) ?_
 cases h:Mr n
 ·exact H9b rfl (H7b rfl)
 refine Hab rfl (Hib (Via n.2.1 kp (NG.g ⟨h,hn.1.2⟩) hk) ?_)
 exact H7b rfl

def Vra (v:BitVec 32) (b:Int):BitVec 32:=(v ^^^ ofInt 32 b)*16777619#32
def Dga (x:ByteArray):Nat→BitVec 32
 |0=>2166136261#32
 |n+1=>Vra (Dga x n) (bt x (n:Int))
def Qqa (x:ByteArray):Nat:=(Dga x x.size).toNat
def H5b (v:BitVec 32):wrap .u32 ((v.toNat:Int)*16777619)=((v*16777619#32).toNat:Int):=by
 rw[IntKind.wrap_u32,BitVec.toNat_mul]
 show (v.toNat:Int)*16777619 % 4294967296=((v.toNat*16777619 % 4294967296:Nat):Int)
 omega
def H6b (v:BitVec 32):wrap .i64 ((ofInt (IntKind.bits .i64) ((v.toNat:Int)*16777619) &&& ofInt (IntKind.bits .i64) 4294967295).toNat)=((v*16777619#32).toNat:Int):=by
 have h:=v.isLt
 rw[Imb,show (v.toNat:Int)*16777619=((v.toNat*16777619:Nat):Int) by omega,T3 _ (by omega),show (ofInt (IntKind.bits .i64) 4294967295).toNat=2 ^ 32-1 from by decide,J8b,BitVec.toNat_mul]
 show wrap .i64 ((v.toNat*16777619 % 4294967296:Nat):Int)=((v.toNat*16777619 % 4294967296:Nat):Int)
 exact w64 (by omega) (by omega)
def Z0a (x:ByteArray) (hx:x.size≤1000000000):Tot (λ k=>N4 k x) (λ r=>r=(Qqa x:Int)):=by
 unfold N4
 refine H8b (Q:=λ r=>r=(Qqa x:Int)) ?_ (by
  rintro r rfl
  have:=(Dga x x.size).isLt
  exact H7b (w64 (n:=(Qqa x:Int)) (by omega) (by show ((Dga x x.size).toNat:Int)≤_;omega)))
 refine Hgb (L:=λ k i (s:Int)=>Ku k x s i) (Q:=λ r=>r=(Qqa x:Int)) x.size (λ j s=>s=((Dga x j).toNat:Int)) ?_ ?_ 0 _ (Vq _) rfl
 ·rintro s rfl
  simp (disch:=omega) only [Ku,dF]
  exact H7b rfl
 ·rintro j s hj rfl next
  have hb:=C3a x (j:Int)
  have e1:wrap .u32 (bt x (j:Int))=bt x (j:Int):=K0b _ ⟨by omega,by omega⟩
  simp (disch:=omega) only [Ku,dT,w64,e1,Ggb (Dga x j) _ (bt x (j:Int)) rfl,H5b]
  exact next _ rfl
def Z1a (x:ByteArray) (hx:x.size≤1000000000):Tot (λ k=>N3 k x) (λ r=>r=(Qqa x:Int)):=by
 unfold N3
 refine H8b (Q:=λ r=>r=(Qqa x:Int)) ?_ (by rintro r rfl;exact H7b rfl)
 refine Hgb (L:=λ k i (s:Int)=>Kq k x s i) (Q:=λ r=>r=(Qqa x:Int)) x.size (λ j s=>s=((Dga x j).toNat:Int)) ?_ ?_ 0 _ (Vq _) rfl
 ·rintro s rfl
  simp (disch:=omega) only [Kq,dF]
  exact H7b rfl
 ·rintro j s hj rfl next
  have hb:=C3a x (j:Int)
  have hx:wrap .i64 ((ofInt (IntKind.bits .i64) ((Dga x j).toNat:Int) ^^^ ofInt (IntKind.bits .i64) (bt x (j:Int))).toNat)=((Dga x j ^^^ ofInt 32 (bt x (j:Int))).toNat:Int):=by
   have:=Fyb (Dga x j) (ofInt 32 (bt x (j:Int)))
   rwa [← Oaa hb]at this
  simp (disch:=omega) only [Kq,dT,w64,hx,H6b]
  exact next _ rfl
def X6 (r:Rng) (x:ByteArray):List Int:=r.2.getD (Qqa x % r.2.length) []
def Fib (a b:Nat):Int.tmod (a:Int) (b:Int)=((a % b:Nat):Int):=by
 rw[Zv (by omega)]
 exact(Int.natCast_emod _ _).symm
def B0a (r:Rng) (x:ByteArray) (hr:RBd r) (hx:x.size≤1000000000):Tot (λ k=>Br k r x) (λ y=>y=X6 r x):=by
 have hrl:=hr.1
 unfold Br
 by_cases h0:r.2.length=0
 ·refine Hab (by rw[h0];rfl) (H7b ?_)
  unfold X6
  rw[Wq h0]
  rfl
 ·have hm:=K1b (Qqa x) (show 0<r.2.length by omega)
  refine H9b (by rw[beq_eq_false_iff_ne];omega) (H8b (Q:=λ y=>y=((Qqa x % r.2.length:Nat):Int)) ?_ ?_)
  ·unfold Me
   refine Hcb (by omega) (Hib (Z0a x hx) ?_)
   exact Hcb (by omega) (H7b (Fib _ _))
  ·rintro y rfl
   simp (disch:=omega) only [dT,Vb]
   have hp:=hr.2 _ (A4 (d:=[]) hm)
   rw[Z8 _ (by omega)]
   exact H7b rfl
def B1a (r:Rng) (x:ByteArray) (hr:RBd r) (hx:x.size≤1000000000):Tot (λ k=>Bn k r x) (λ y=>y=X6 r x):=by
 have hrl:=hr.1
 unfold Bn
 by_cases h0:r.2.length=0
 ·refine Hab (by rw[h0];rfl) (H7b ?_)
  unfold X6
  rw[Wq h0]
  rfl
 ·have hm:=K1b (Qqa x) (show 0<r.2.length by omega)
  refine H9b (by rw[beq_eq_false_iff_ne];omega) (H8b (Q:=λ y=>y=((Qqa x % r.2.length:Nat):Int)) ?_ ?_)
  ·unfold Md
   refine Hcb (by omega) (Hib (Z1a x hx) ?_)
   exact Hcb (by omega) (H7b (Fib _ _))
  ·rintro y rfl
   have hp:=hr.2 _ (A4 (d:=[]) hm)
   simp (disch:=omega) only [dT,Vb]
   exact Hfb (by simp only[Vg];omega) (H7b rfl)
def Z2a {r:Rng} {l:List Dev} (h:Hk r l=true) (x:ByteArray):X6 r x∈r.2:=by
 obtain⟨_,_,h3,_⟩:=B5.1 h
 exact A4 (d:=[]) (K1b _ (by omega))
def Uv {r:Rng} {l:List Dev} (h:Hk r l=true) (x:ByteArray):(X6 r x).Nodup∧((X6 r x).length:Int)=r.1∧∀ id∈X6 r x,∃ d,Ki l id=some d:=(B5.1 h).2.2.2 _ (Z2a h x)
def hoA (p zs:List Int) (z:Bool) (l:List Dev):List Int:=(l.filter λ d => !(Oq p d.1)&&(Oq zs d.2.1==z)).map (·.1)
def Qf (r:Rng) (l:List Dev) (x:ByteArray):List Int:=hoA (X6 r x) (Dl (X6 r x) l) false l++hoA (X6 r x) (Dl (X6 r x) l) true l
def Y9 (p zs:List Int) (z:Bool) (l:List Dev):(hoA p zs z l).length≤l.length:=by
 unfold hoA
 rw[We]
 exact List.length_filter_le _ _
def Owa (p zs:List Int) (z:Bool) (d:Dev) (l:List Dev):hoA p zs z (d::l)=bif !(Oq p d.1)&&(Oq zs d.2.1==z) then d.1::hoA p zs z l else hoA p zs z l:=by
 unfold hoA
 rw[Hkb]
 cases !(Oq p d.1)&&(Oq zs d.2.1==z)<;>rfl
def Z3a (r:Rng) (l:List Dev) (x:ByteArray) (h:Hk r l=true) (hx:x.size≤1000000000):Tot (λ k=>Ei k r l x) (λ y=>y=Qf r l x):=by
 obtain⟨h1,h2,_,_⟩:=B5.1 h
 obtain⟨_,p2,_⟩:=Uv h x
 obtain⟨_,_,_,h12⟩:=Dc.1 h1
 have hz:=Rx (X6 r x) l
 unfold Ei Qf
 refine Hib (B0a r x (Mt h) hx) ?_
 generalize X6 r x=p at *
 refine Hib (J4a p l (by omega) (by omega)) ?_
 generalize Dl p l=zs at *
 have m1:=Y9 p zs false l
 have m2:=Y9 p zs true l
 refine H8b (Q:=λ y=>y=(hoA p zs false l,hoA p zs true l)) ?_ (by rintro y rfl;exact Hfb (by dsimp only;omega) (H7b rfl))
 refine Hgb (L:=λ k i (s:List Int×List Int)=>Dr k p zs s.1 s.2 l (l.length:Int) i) (Q:=λ y=>y=(hoA p zs false l,hoA p zs true l)) l.length (λ j s=>s.1++hoA p zs false (l.drop j)=hoA p zs false l∧s.2++hoA p zs true (l.drop j)=hoA p zs true l) ?_ ?_ 0 ([],[]) (Vq _) ⟨rfl,rfl⟩
 ·rintro s ⟨e1,e2⟩
  rw[Wa]at e1 e2
  simp (disch:=omega) only [Dr,dF]
  refine H7b ?_
  rw[← e1,← e2]
  show _=(s.1++[],s.2++[])
  rw[Wm,Wm]
 ·rintro j ⟨s1,s2⟩ hj ⟨e1,e2⟩ next
  dsimp only at e1 e2 next ⊢
  have g1:=congrArg length e1
  have g2:=congrArg length e2
  rw[Vd]at g1 g2
  rw[Ah (d:=Of) hj,Owa]at e1 e2
  obtain⟨d,ed⟩:∃ d:Dev,l.getD j Of=d:=⟨_,rfl⟩
  rw[ed]at e1 e2
  have e0:l.getD j ((0:Int),((0:Int),(0:Int)))=d:=ed
  simp (disch:=omega) only [Dr,dT,Vb,w64,e0]
  refine Hib (Us p d.1 (by omega)) ?_
  cases hp:Oq p d.1 with
  |true=>
   rw[hp]at e1 e2
   exact Hab rfl (next (s1,s2) ⟨e1,e2⟩)
  |false=>
   refine H9b rfl (Hib (Us zs d.2.1 (by omega)) ?_)
   cases hz':Oq zs d.2.1 with
   |true=>
    rw[hp,hz']at e1 e2
    exact Hab rfl (Hfb (by simp only[Vc,Vg];omega) (next (s1,s2++[d.1]) ⟨e1,by rw[← e2];simp⟩))
   |false=>
    rw[hp,hz']at e1 e2
    exact H9b rfl (Hfb (by simp only[Vc,Vg];omega) (next (s1++[d.1],s2) ⟨by rw[← e1];simp,e2⟩))
def Cqa (p zs:List Int) (l:List Dev) (hp:p.length≤2000000) (hz:zs.length≤2000000) (hl:l.length≤2000000) (out:List Int) (ho:out.length≤5000000) (t:Int):Tot (λ k=>Ct k l p zs out t 0) (λ y=>y=(l,p,zs,out++hoA p zs (t==1) l,t)):=by
 have m1:=Y9 p zs (t==1) l
 refine Hgb (L:=λ k i (s:List Int)=>Ct k l p zs s t i) (Q:=λ y=>y=(l,p,zs,out++hoA p zs (t==1) l,t)) l.length (λ j s=>s++hoA p zs (t==1) (l.drop j)=out++hoA p zs (t==1) l) ?_ ?_ 0 out (Vq _) rfl
 ·rintro s e1
  rw[Wa]at e1
  simp (disch:=omega) only [Ct,dF]
  refine H7b ?_
  rw[← e1]
  show _=(l,p,zs,s++[],t)
  rw[Wm]
 ·rintro j s hj e1 next
  have g1:=congrArg length e1
  rw[Vd,Vd]at g1
  rw[Ah (d:=Of) hj,Owa]at e1
  obtain⟨d,ed⟩:∃ d:Dev,l.getD j Of=d:=⟨_,rfl⟩
  rw[ed]at e1
  have e0:l.getD j ((0:Int),((0:Int),(0:Int)))=d:=ed
  simp (disch:=omega) only [Ct,dT,Vb,w64,e0]
  refine Hib (Ut p d.1 (by omega)) ?_
  cases hp':Oq p d.1 with
  |true=>
   rw[hp']at e1
   exact H9b rfl (next s e1)
  |false=>
   rw[hp']at e1
   refine Hab rfl (Hib (Ut zs d.2.1 (by omega)) ?_)
   cases hz':Oq zs d.2.1==(t==1) with
   |true=>
    rw[hz']at e1
    exact Hab rfl (Hfb (by simp only[Vc,Vg];omega) (next (s++[d.1]) (by rw[← e1];simp)))
   |false=>
    rw[hz']at e1
    exact H9b rfl (next s e1)
def Z4a (r:Rng) (l:List Dev) (x:ByteArray) (h:Hk r l=true) (hx:x.size≤1000000000):Tot (λ k=>D5 k r l x) (λ y=>y=Qf r l x):=by
 obtain⟨h1,h2,_,_⟩:=B5.1 h
 obtain⟨_,p2,_⟩:=Uv h x
 obtain⟨_,_,_,h12⟩:=Dc.1 h1
 have hz:=Rx (X6 r x) l
 unfold D5 Qf
 refine Hib (B1a r x (Mt h) hx) ?_
 generalize X6 r x=p at *
 refine Hib (J5a p l (by omega) (by omega)) ?_
 generalize Dl p l=zs at *
 have m1:=Y9 p zs false l
 refine H8b (Q:=λ y=>y=hoA p zs false l++hoA p zs true l) ?_ (by rintro y rfl;exact H7b rfl)
 refine Tot.succ ?_
 simp (disch:=omega) only [Fk,dT]
 refine Hib (Cqa p zs l (by omega) (by omega) (by omega) [] (by simp) 0) ?_
 refine Tot.succ ?_
 simp (disch:=omega) only [Fk,dT,w64,Vx]
 refine Hib (Cqa p zs l (by omega) (by omega) (by omega) (hoA p zs false l) (by omega) 1) ?_
 refine Tot.succ ?_
 simp (disch:=omega) only [Fk,dF,w64]
 exact H7b rfl

section
variable {R:Type} {L:Nat→Int→Option (Sum Bool R)}
def U8 (p:Nat→Bool) (n:Nat):(List.range (n+1)).all p=((List.range n).all p&&p n):=by
 rw[Khb,List.all_append,Hob,List.all_nil,Ibb]
def Dha {p:Nat→Bool} {m n:Nat} (h:m≤n) (hn:(List.range n).all p=true):(List.range m).all p=true:=by
 rw[Ys]at hn ⊢
 exact λ x hx=>hn x (I4b.2 (by have:=I4b.1 hx;omega))
def Hhb (n:Nat) (p:Nat→Bool) (e:R) (hend:Tot (λ k=>L (k+1) (n:Int)) (λ r=>r = .inr e))
  (Vra:∀ j,j<n→∀ (Q:Sum Bool R→Prop),(p j=false→Q (.inl false))→(p j=true→Tot (λ k=>L k ((j:Int)+1)) Q)→Tot (λ k=>L (k+1) (j:Int)) Q):
  Tot (λ k=>L k 0) (λ r=>r=bif (List.range n).all p then .inr e else .inl false):=by
 refine Hgb (L:=λ k i (_:Unit)=>L k i) (Q:=λ r=>r=bif (List.range n).all p then .inr e else .inl false) n (λ j _=>(List.range j).all p=true) ?_ ?_ 0 () (Vq _) rfl
 ·intro _ h
  rw[h]
  exact hend
 ·intro j _ hj h next
  refine Vra j hj _ (λ hp=>?_) (λ hp=>next () (by rw[U8,h,hp];rfl))
  cases hc:(List.range n).all p
  ·rfl
  have:=Dha (show j+1≤n by omega) hc
  rw[U8,hp,Yj]at this
  cases this
end
def Jea {α:Type} (l:List α) (d:α) (p:α→Bool):l.all p=(List.range l.length).all λ j=>p (l.getD j d):=by
 rw[Jnb,Ys,Ys]
 constructor
 ·intro h j hj
  exact h _ (A4 (I4b.1 hj))
 ·intro h x hx
  obtain⟨j,hj,rfl⟩:=Zz.1 hx
  have:=h j (I4b.2 hj)
  rwa [Ve,Vk hj,Yp]at this
abbrev Wri:=ByteArray×Fil×Bool
abbrev Wld:=List Dev×Rng×List Nod×Stp×List Wri×List ByteArray
def Vsa:Wri:=((⟨#[]⟩:ByteArray),((((0:Int),((0:Int),(0:Int))),(false,[])),false))
def U9 (l:List ByteArray):Bool:=(List.range l.length).all λ j=>Az (l.getD j On)&&(decide (j=0)||tlt (l.getD (j-1) On) (l.getD j On))
def Gha (c:Stp) (w:Wri):Bool:=Az w.1&&(Ee w.2.1&&!(sle c w.2.1.1))
def Z5a (c:Stp) (l:List Wri):Bool:=l.all (Gha c)&&decide ((l.length:Int)≤200)
def Tb (l:List Dev) (ns:List Nod):Bool:=((ns.length:Int)==(l.length:Int))&&(List.range ns.length).all λ j=>((ns.getD j C3).1==(l.getD j Of).1)&&Mr (ns.getD j C3)
def Yy (w:Wld):Bool:=Hk w.2.1 w.1&&(Tb w.1 w.2.2.1&&(Fj w.2.2.2.1&&(Z5a w.2.2.2.1 w.2.2.2.2.1&&U9 w.2.2.2.2.2)))
def WIn (w:Wld):Prop:=RBd w.2.1∧w.1.length≤2000000∧(w.2.2.1.length≤2000000∧∀ n∈w.2.2.1,NIn n)∧(w.2.2.2.2.1.length≤2000000∧∀ x∈w.2.2.2.2.1,Lo x.1)∧(w.2.2.2.2.2.length≤2000000∧∀ s∈w.2.2.2.2.2,Lo s)
def Z6a (w:Wld) (hw:WIn w):Tot (λ k=>Eh k w) (λ r=>r=Z5a w.2.2.2.1 w.2.2.2.2.1):=by
 obtain⟨_,_,_,⟨h1,h2⟩,_⟩:=hw
 unfold Eh Z5a
 refine H8b (Q:=λ r=>r=bif w.2.2.2.2.1.all (Gha w.2.2.2.1) then .inr w else .inl false) ?_ (by
  rintro r rfl
  cases w.2.2.2.2.1.all (Gha w.2.2.2.1)<;>exact H7b rfl)
 rw[Jea _ Vsa]
 refine Hhb (L:=λ k i=>Fq k w.2.2.2.2.1 (w.2.2.2.2.1.length:Int) i w) _ _ w ?_ ?_
 ·simp (disch:=omega) only [Fq,dF]
  exact H7b rfl
 ·intro j hj Q no yes
  have hs:=h2 _ (A4 (d:=Vsa) hj)
  obtain⟨x,ex⟩:∃ x:Wri,w.2.2.2.2.1.getD j Vsa=x:=⟨_,rfl⟩
  rw[ex]at hs
  simp only[ex]at no yes
  have e0:w.2.2.2.2.1.getD j ((⟨#[]⟩:ByteArray),((((0:Int),((0:Int),(0:Int))),(false,[])),false))=x:=ex
  simp (disch:=omega) only [Fq,dT,Vb,w64,e0,Asa,Aqa,Vl]
  unfold Gha at no yes
  refine Hib (Pi x.1 hs) ?_
  refine Hdb (λ hc=>H7b (no ?_)) (λ h3=>Hdb (λ hc=>H7b (no ?_)) (λ h4=>Hdb (λ hc=>H7b (no ?_)) (λ h5=>yes ?_)))
  ·rw[Vw]at hc;rw[hc];rfl
  ·rw[Vw]at hc;rw[hc,Zl,Yj]
  ·rw[hc,Yv,Yj,Yj]
  ·rw[Wi]at h3 h4;rw[h3,h4,h5];rfl
def Jfa (w:Wld) (hw:WIn w):Tot (λ k=>Dn k w.2.2.2.2.2 (w.2.2.2.2.2.length:Int) 0 w) (λ r=>r=bif U9 w.2.2.2.2.2 then .inr () else .inl false):=by
 obtain⟨_,_,_,_,h1,h2⟩:=hw
 unfold U9
 refine Hhb (L:=λ k i=>Dn k w.2.2.2.2.2 (w.2.2.2.2.2.length:Int) i w) _ _ () ?_ ?_
 ·simp (disch:=omega) only [Dn,dF]
  exact H7b rfl
 ·intro j hj Q no yes
  have hs:=h2 _ (A4 (d:=On) hj)
  have e0:∀ i,w.2.2.2.2.2.getD i (⟨#[]⟩:ByteArray)=w.2.2.2.2.2.getD i On:=λ _=>rfl
  simp (disch:=omega) only [Dn,dT,Vb,w64,e0]
  refine Hib (Pi _ hs) ?_
  refine Hdb (λ hc=>H7b (no ?_)) (λ h3=>Heb (λ h0=>?_) (λ h0=>yes ?_))
  ·rw[Vw]at hc;rw[hc];rfl
  ·simp (disch:=omega) only [dT,w64,show toNat ((j:Int)-1)=j-1 by omega]
   rw[Wi]at h3
   rw[h3,decide_eq_false (show ¬ j=0 by omega),Hsb,Vz]at no yes
   refine Hdb (λ hc=>H7b (no ?_)) (λ h4=>yes ?_)
   ·rw[Vw]at hc;exact hc
   ·rw[Wi]at h4;exact h4
  ·rw[Wi]at h3
   rw[h3,decide_eq_true (show j=0 by omega)]
   rfl
def Jga (w:Wld) (hw:WIn w):Tot (λ k=>Dt k 0 w) (λ r=>r=bif U9 w.2.2.2.2.2 then .inr () else .inl false):=by
 obtain⟨_,_,_,_,h1,h2⟩:=hw
 unfold U9
 refine Hhb (L:=λ k i=>Dt k i w) _ _ () ?_ ?_
 ·simp (disch:=omega) only [Dt,dF]
  exact H7b rfl
 ·intro j hj Q no yes
  have hs:=h2 _ (A4 (d:=On) hj)
  have e0:∀ i,w.2.2.2.2.2.getD i (⟨#[]⟩:ByteArray)=w.2.2.2.2.2.getD i On:=λ _=>rfl
  simp (disch:=omega) only [Dt,dT,Vb,w64,e0]
  refine Hib (Qb _ hs) ?_
  refine Hdb (λ hc=>H7b (no ?_)) (λ h3=>Heb (λ h0=>?_) (λ h0=>yes ?_))
  ·rw[Vw]at hc;rw[hc];rfl
  ·simp (disch:=omega) only [dT,w64,show toNat ((j:Int)-1)=j-1 by omega]
   rw[Wi]at h3
   rw[h3,decide_eq_false (show ¬ j=0 by omega),Hsb,Vz]at no yes
   refine Hdb (λ hc=>H7b (no ?_)) (λ h4=>yes ?_)
   ·rw[Vw]at hc;exact hc
   ·rw[Wi]at h4;exact h4
  ·rw[Wi]at h3
   rw[h3,decide_eq_true (show j=0 by omega)]
   rfl
def M0a (w:Wld) (hw:WIn w) (hl:w.2.2.1.length=w.1.length):Tot (λ k=>Ft k w.2.2.1 (w.2.2.1.length:Int) 0 w) (λ r=>r=bif Tb w.1 w.2.2.1 then .inr w else .inl false):=by
 obtain⟨_,_,⟨h1,h2⟩,_⟩:=hw
 unfold Tb
 rw[show ((w.2.2.1.length:Int)==(w.1.length:Int))=true by rw[beq_iff_eq];omega,Vz]
 refine Hhb (L:=λ k i=>Ft k w.2.2.1 (w.2.2.1.length:Int) i w) _ _ w ?_ ?_
 ·simp (disch:=omega) only [Ft,dF]
  exact H7b rfl
 ·intro j hj Q no yes
  have hs:=h2 _ (A4 (d:=C3) hj)
  obtain⟨x,ex⟩:∃ x:Nod,w.2.2.1.getD j C3=x:=⟨_,rfl⟩
  rw[ex]at hs no yes
  have e0:w.2.2.1.getD j ((0:Int),(([],[]),([],[])))=x:=ex
  have e1:w.1.getD j ((0:Int),((0:Int),(0:Int)))=w.1.getD j Of:=rfl
  simp (disch:=omega) only [Ft,dT,Vb,w64,e0,e1]
  refine Hdb (λ hc=>H7b (no ?_)) (λ h3=>H8b (X4 x hs) ?_)
  ·rw[bne,Vw]at hc;rw[hc];rfl
  ·rw[bne,Wi]at h3
   rw[h3,Vz]at no yes
   rintro b rfl
   refine Hdb (λ hc=>H7b (no ?_)) (λ h4=>yes ?_)
   ·rw[Vw]at hc;exact hc
   ·rw[Wi]at h4;exact h4
def Z7a (w:Wld) (hw:WIn w):Tot (λ k=>Ej k w) (λ r=>r=Tb w.1 w.2.2.1):=by
 obtain⟨_,_,⟨h1,h2⟩,_⟩:=hw
 unfold Tb Ej
 refine Hdb (λ hc=>H7b ?_) (λ hl=>?_)
 ·rw[bne,Vw]at hc
  rw[hc];rfl
 ·rw[bne,Wi]at hl
  rw[hl,Vz]
  rw[beq_iff_eq]at hl
  refine H8b (Q:=λ r=>r=bif (List.range w.2.2.1.length).all (λ j=>((w.2.2.1.getD j C3).1==(w.1.getD j Of).1)&&Mr (w.2.2.1.getD j C3)) then .inr () else .inl false) ?_ (by
   rintro r rfl
   cases (List.range w.2.2.1.length).all (λ j=>((w.2.2.1.getD j C3).1==(w.1.getD j Of).1)&&Mr (w.2.2.1.getD j C3))<;>exact H7b rfl)
  refine Hhb (L:=λ k i=>Fy k i w) _ _ () ?_ ?_
  ·simp (disch:=omega) only [Fy,dF]
   exact H7b rfl
  ·intro j hj Q no yes
   have hs:=h2 _ (A4 (d:=C3) hj)
   obtain⟨x,ex⟩:∃ x:Nod,w.2.2.1.getD j C3=x:=⟨_,rfl⟩
   rw[ex]at hs no yes
   have e0:w.2.2.1.getD j ((0:Int),(([],[]),([],[])))=x:=ex
   have e1:w.1.getD j ((0:Int),((0:Int),(0:Int)))=w.1.getD j Of:=rfl
   simp (disch:=omega) only [Fy,dT,Vb,w64,e0,e1]
   refine Hdb (λ hc=>H7b (no ?_)) (λ h3=>H8b (Awa x hs) ?_)
   ·rw[bne,Vw]at hc;rw[hc];rfl
   ·rw[bne,Wi]at h3
    rw[h3,Vz]at no yes
    rintro b rfl
    refine Hdb (λ hc=>H7b (no ?_)) (λ h4=>yes ?_)
    ·rw[Vw]at hc;exact hc
    ·rw[Wi]at h4;exact h4
def Jha (w:Wld) (hw:WIn w):Tot (λ k=>Cq k w) (λ r=>r=Yy w):=by
 unfold Cq Yy
 refine Hib (Yma w.2.1 w.1 hw.1 (by have:=hw.2.1;omega)) ?_
 cases hr:Hk w.2.1 w.1
 ·exact Hab rfl (H7b rfl)
 refine H9b rfl ?_
 rw[Vz]
 by_cases hl:w.2.2.1.length=w.1.length
 ·refine H9b (by rw[bne,hl,beq_self_eq_true];rfl) ?_
  simp only[Wu,Vl]
  cases hs:Fj w.2.2.2.1
  ·exact Hab rfl (H7b (by rw[Zl,Yj]))
  refine H9b rfl (Hib (Z6a w hw) ?_)
  cases hws:Z5a w.2.2.2.1 w.2.2.2.2.1
  ·exact Hab rfl (H7b (by rw[Zl,Yj,Yj]))
  refine H9b rfl (Hib (M0a w hw hl) ?_)
  cases Tb w.1 w.2.2.1
  ·exact H7b rfl
  refine Hib (Jfa w hw) ?_
  cases U9 w.2.2.2.2.2<;>exact H7b rfl
 ·have hn:((w.2.2.1.length:Int)==(w.1.length:Int))=false:=by rw[beq_eq_false_iff_ne];omega
  refine Hab (by rw[bne,hn];rfl) (H7b ?_)
  unfold Tb
  rw[hn]
  rfl
def Vta (w:Wld) (hw:WIn w):Tot (λ k=>Ed k w) (λ r=>r=Yy w):=by
 have hw':=hw
 obtain⟨_,_,_,⟨h1,h2⟩,_⟩:=hw'
 unfold Ed Yy
 refine Hib (Yna w.2.1 w.1 hw.1 (by have:=hw.2.1;omega)) ?_
 cases hr:Hk w.2.1 w.1
 ·exact Hab rfl (H7b rfl)
 refine H9b rfl (Hib (Z7a w hw) ?_)
 rw[Vz]
 cases hn:Tb w.1 w.2.2.1
 ·exact Hab rfl (H7b rfl)
 refine H9b rfl ?_
 simp only[T2,Vl]
 cases hs:Fj w.2.2.2.1
 ·exact Hab rfl (H7b rfl)
 refine H9b rfl ?_
 by_cases hl:(w.2.2.2.2.1.length:Int) > 200
 ·refine Hbb hl (H7b ?_)
  unfold Z5a
  rw[decide_eq_false (show ¬ (w.2.2.2.2.1.length:Int)≤200 by omega),Yj]
  rfl
 ·refine Hcb hl (H8b (Q:=λ r=>r=bif w.2.2.2.2.1.all (Gha w.2.2.2.1) then .inr w else .inl false) ?_ ?_)
  ·rw[Jea _ Vsa]
   refine Hhb (L:=λ k i=>Ha k i w) _ _ w ?_ ?_
   ·simp (disch:=omega) only [Ha,dF]
    exact H7b rfl
   ·intro j hj Q no yes
    have hs:=h2 _ (A4 (d:=Vsa) hj)
    obtain⟨x,ex⟩:∃ x:Wri,w.2.2.2.2.1.getD j Vsa=x:=⟨_,rfl⟩
    rw[ex]at hs
    simp only[ex]at no yes
    have e0:w.2.2.2.2.1.getD j ((⟨#[]⟩:ByteArray),((((0:Int),((0:Int),(0:Int))),(false,[])),false))=x:=ex
    simp (disch:=omega) only [Ha,dT,Vb,w64,e0,Wz,Fsa,Vl]
    unfold Gha at no yes
    refine Hib (Qb x.1 hs) ?_
    refine Hdb (λ hc=>H7b (no ?_)) (λ h3=>Hdb (λ hc=>H7b (no ?_)) (λ h4=>Hdb (λ hc=>H7b (no ?_)) (λ h5=>yes ?_)))
    ·rw[Vw]at hc;rw[hc];rfl
    ·rw[Vw]at hc;rw[hc,Zl,Yj]
    ·rw[hc,Yv,Yj,Yj]
    ·rw[Wi]at h3 h4;rw[h3,h4,h5];rfl
  ·rintro b rfl
   unfold Z5a
   rw[decide_eq_true (show (w.2.2.2.2.1.length:Int)≤200 by omega),Ibb]
   cases w.2.2.2.2.1.all (Gha w.2.2.2.1)
   ·exact H7b rfl
   refine Hib (Jga w hw) ?_
   cases U9 w.2.2.2.2.2<;>exact H7b rfl

def atN:List Nod→Int→Nat→List Int
 |[],_,_=>[]
 |n::ns,id,i=>bif n.1==id then (i:Int)::atN ns id (i+1) else atN ns id (i+1)
def Gia (n:Nod) (ns:List Nod) (id:Int) (i:Nat):atN (n::ns) id i=bif n.1==id then (i:Int)::atN ns id (i+1) else atN ns id (i+1):=rfl
def whr (ns:List Nod) (ids:List Int):List Int:=ids.flatMap λ id=>atN ns id 0
def Gja (id:Int):∀ (ns:List Nod) (i:Nat),(atN ns id i).length≤ns.length
 |[],_=>Vv _
 |n::ns,i=>by
  unfold atN
  have:=Gja id ns (i+1)
  cases n.1==id
  ·rw[cond_false,Vc];omega
  ·rw[cond_true,Vc,Vc];omega
def Vua (ns:List Nod):∀ (ids:List Int),(whr ns ids).length≤ids.length*ns.length
 |[]=>Vq _
 |id::ids=>by
  have h1:=Gja id ns 0
  have h2:=Vua ns ids
  unfold whr at h2 ⊢
  rw[J5b,Vd,Vc,Nat.succ_mul]
  omega
def Qg {ns:List Nod} {ids:List Int} (h1:ns.length≤2000000) (h2:ids.length≤2000000):(whr ns ids).length≤4000000000000:=
 Zm (Vua ns ids) (Jwb h2 h1)
def Oxa (ns:List Nod) (id:Int) (ids:List Int):whr ns (id::ids)=atN ns id 0++whr ns ids:=J5b
def D0b (ns:List Nod) (a b:List Int):whr ns (a++b)=whr ns a++whr ns b:=List.flatMap_append
def Dia (w:Wld) (id:Int) (a b c:List Int) (m i0:Int) (out:List Int) (h1:w.2.2.1.length≤2000000) (ho:out.length≤4000000000000):
  Tot (λ k=>Ey k out id a m i0 w.2.2.1 (w.2.2.1.length:Int) 0 w) (λ r=>r=(out++atN w.2.2.1 id 0,a,m,i0,w)):=by
 have m1:=Gja id w.2.2.1 0
 refine Hgb (L:=λ k i (s:List Int)=>Ey k s id a m i0 w.2.2.1 (w.2.2.1.length:Int) i w) (Q:=λ r=>r=(out++atN w.2.2.1 id 0,a,m,i0,w)) w.2.2.1.length (λ j s=>s++atN (w.2.2.1.drop j) id j=out++atN w.2.2.1 id 0) ?_ ?_ 0 out (Vq _) rfl
 ·intro s h
  rw[Wa]at h
  simp (disch:=omega) only [Ey,dF]
  refine H7b ?_
  rw[← h]
  show _=(s++[],a,m,i0,w)
  rw[Wm]
 ·intro j s hj h next
  have g:=congrArg length h
  rw[Vd,Vd]at g
  rw[Ah (d:=C3) hj,Gia]at h
  obtain⟨x,ex⟩:∃ x:Nod,w.2.2.1.getD j C3=x:=⟨_,rfl⟩
  rw[ex]at h
  have e0:w.2.2.1.getD j ((0:Int),(([],[]),([],[])))=x:=ex
  simp (disch:=omega) only [Ey,dT,Vb,w64,e0]
  cases hx:x.1==id with
  |true=>
   rw[hx,cond_true]at h
   refine Hab rfl (Hfb (by simp only[Vc,Vg];omega) (next (s++[(j:Int)]) ?_))
   rw[← h,Vo]
   rfl
  |false=>
   rw[hx,cond_false]at h
   refine H9b rfl (next s h)
def Uw (w:Wld) (ids:List Int) (h1:w.2.2.1.length≤2000000) (h2:ids.length≤2000000):Tot (λ k=>E3 k w ids) (λ r=>r=whr w.2.2.1 ids):=by
 have m1:=Qg h1 h2
 unfold E3
 refine H8b (Q:=λ r=>r=whr w.2.2.1 ids) ?_ (by rintro r rfl;exact H7b rfl)
 refine Hgb (L:=λ k i (s:List Int)=>H6 k s ids (ids.length:Int) i w) (Q:=λ r=>r=whr w.2.2.1 ids) ids.length (λ j s=>s++whr w.2.2.1 (ids.drop j)=whr w.2.2.1 ids) ?_ ?_ 0 [] (Vq _) rfl
 ·intro s h
  rw[Wa]at h
  simp (disch:=omega) only [H6,dF]
  refine H7b ?_
  rw[← h]
  exact(Wm s).symm
 ·intro j s hj h next
  have g:=congrArg length h
  rw[Vd]at g
  rw[Ah (d:=0) hj,Oxa]at h
  simp (disch:=omega) only [H6,dT,Vb,w64]
  refine Hib (Dia w (ids.getD j 0) ids [] [] (ids.length:Int) (j:Int) s h1 (by omega)) ?_
  simp (disch:=omega) only [w64]
  exact next _ (by rw[Vo];exact h)
def Gka (w:Wld) (ids:List Int) (n:Nat) (hn:n<ids.length) (out:List Int) (h1:w.2.2.1.length≤2000000) (ho:out.length≤4000000000000):
  Tot (λ k=>Cr k ids out (n:Int) 0 w) (λ r=>r=(ids,out++atN w.2.2.1 (ids.getD n 0) 0,(n:Int),w)):=by
 have m1:=Gja (ids.getD n 0) w.2.2.1 0
 refine Hgb (L:=λ k i (s:List Int)=>Cr k ids s (n:Int) i w) (Q:=λ r=>r=(ids,out++atN w.2.2.1 (ids.getD n 0) 0,(n:Int),w)) w.2.2.1.length (λ j s=>s++atN (w.2.2.1.drop j) (ids.getD n 0) j=out++atN w.2.2.1 (ids.getD n 0) 0) ?_ ?_ 0 out (Vq _) rfl
 ·intro s h
  rw[Wa]at h
  simp (disch:=omega) only [Cr,dF]
  refine H7b ?_
  rw[← h]
  show _=(ids,s++[],(n:Int),w)
  rw[Wm]
 ·intro j s hj h next
  have g:=congrArg length h
  rw[Vd,Vd]at g
  rw[Ah (d:=C3) hj,Gia]at h
  obtain⟨x,ex⟩:∃ x:Nod,w.2.2.1.getD j C3=x:=⟨_,rfl⟩
  rw[ex]at h
  have e0:w.2.2.1.getD j ((0:Int),(([],[]),([],[])))=x:=ex
  simp (disch:=omega) only [Cr,dT,Vb,w64,e0]
  cases hx:x.1==ids.getD n 0 with
  |true=>
   rw[hx,cond_true]at h
   refine Hab rfl (Hfb (by simp only[Vc,Vg];omega) (next (s++[(j:Int)]) ?_))
   rw[← h,Vo]
   rfl
  |false=>
   rw[hx,cond_false]at h
   refine H9b rfl (next s h)
def Tw (w:Wld) (ids:List Int) (h1:w.2.2.1.length≤2000000) (h2:ids.length≤2000000):Tot (λ k=>Bm k w ids) (λ r=>r=whr w.2.2.1 ids):=by
 have m1:=Qg h1 h2
 unfold Bm
 refine H8b (Q:=λ r=>r=whr w.2.2.1 ids) ?_ (by rintro r rfl;exact H7b rfl)
 refine Hgb (L:=λ k i (s:List Int)=>Ep k ids s i w) (Q:=λ r=>r=whr w.2.2.1 ids) ids.length (λ j s=>s++whr w.2.2.1 (ids.drop j)=whr w.2.2.1 ids) ?_ ?_ 0 [] (Vq _) rfl
 ·intro s h
  rw[Wa]at h
  simp (disch:=omega) only [Ep,dF]
  refine H7b ?_
  rw[← h]
  exact(Wm s).symm
 ·intro j s hj h next
  have g:=congrArg length h
  rw[Vd]at g
  rw[Ah (d:=0) hj,Oxa]at h
  simp (disch:=omega) only [Ep,dT,Vb,w64]
  refine Hib (Gka w ids j hj s h1 (by omega)) ?_
  simp (disch:=omega) only [w64]
  exact next _ (by rw[Vo];exact h)
def M1a (id:Int):∀ (ns:List Nod) (i:Nat) (x:Int),x∈atN ns id i↔∃ j,j<ns.length∧(ns.getD j C3).1=id∧x=((i+j:Nat):Int)
 |[],i,x=>by simp[atN]
 |n::ns,i,x=>by
  have ih:=M1a id ns (i+1) x
  have tl:(∃ j,j<(n::ns).length∧((n::ns).getD j C3).1=id∧x=((i+j:Nat):Int))↔(n.1=id∧x=(i:Int))∨x∈atN ns id (i+1):=by
   rw[ih]
   constructor
   ·rintro⟨j,h1,h2,h3⟩
    cases j with
    |zero=>exact .inl ⟨h2,by omega⟩
    |succ j=>exact .inr ⟨j,by simpa using h1,by simpa using h2,by omega⟩
   ·rintro (⟨h1,h2⟩|⟨j,h1,h2,h3⟩)
    ·exact⟨0,by simp,h1,by omega⟩
    ·exact⟨j+1,by simpa using h1,by simpa using h2,by omega⟩
  rw[tl,Gia]
  cases hx:n.1==id with
  |true=>
   rw[cond_true,Vm,eq_of_beq hx]
   simp
  |false=>
   rw[cond_false]
   have:=beq_eq_false_iff_ne.1 hx
   simp[this]
def Gla {ns:List Nod} {ids:List Int} {x:Int}:x∈whr ns ids↔∃ j,j<ns.length∧(ns.getD j C3).1∈ids∧x=(j:Int):=by
 unfold whr
 rw[List.mem_flatMap]
 constructor
 ·rintro⟨id,h1,h2⟩
  obtain⟨j,h3,h4,h5⟩:=(M1a _ _ _ _).1 h2
  exact⟨j,h3,h4 ▸ h1,by omega⟩
 ·rintro⟨j,h3,h4,h5⟩
  exact⟨_,h4,(M1a _ _ _ _).2 ⟨j,h3,rfl,by omega⟩⟩
def Ek (w:Wld) (x:ByteArray):List Int:=whr w.2.2.1 (X6 w.2.1 x++Qf w.2.1 w.1 x)
def Gmb:ByteArray:=⟨#[108,105,115,116]⟩
def Iq (w:Wld):List Int:=whr w.2.2.1 (X6 w.2.1 Gmb)
def Tx {r:Rng} (hr:RBd r) (x:ByteArray):(X6 r x).length≤2000000:=by
 unfold X6
 by_cases hm:Qqa x % r.2.length<r.2.length
 ·exact hr.2 _ (A4 (d:=[]) hm)
 ·rw[Ve,Zf (by omega)];exact Vq _
def Qh (r:Rng) (l:List Dev) (x:ByteArray):(Qf r l x).length≤l.length+l.length:=by
 unfold Qf
 rw[Vd]
 have h1:=Y9 (X6 r x) (Dl (X6 r x) l) false l
 have h2:=Y9 (X6 r x) (Dl (X6 r x) l) true l
 omega
def Jia (w:Wld) (x:ByteArray) (h:Hk w.2.1 w.1=true) (hn:w.2.2.1.length≤2000000) (hx:x.size≤1000000000):Tot (λ k=>D0 k w x) (λ r=>r=(Ek w x,w)):=by
 have h5:=(B5.1 h).2.1
 have p2:=(Uv h x).2.1
 have h12:=(Dc.1 (B5.1 h).1).2.2.2
 have hh:=Qh w.2.1 w.1 x
 unfold D0 Ek
 refine Hib (B0a _ x (Mt h) hx) ?_
 refine Hib (Z3a _ _ x h hx) ?_
 refine Hfb (by omega) (Hib (Uw w _ hn (by rw[Vd];omega)) ?_)
 exact H7b rfl
def Jja (w:Wld) (x:ByteArray) (h:Hk w.2.1 w.1=true) (hn:w.2.2.1.length≤2000000) (hx:x.size≤1000000000):Tot (λ k=>Fl k w x) (λ r=>r=Ek w x):=by
 have h5:=(B5.1 h).2.1
 have p2:=(Uv h x).2.1
 have h12:=(Dc.1 (B5.1 h).1).2.2.2
 have hh:=Qh w.2.1 w.1 x
 unfold Fl Ek
 rw[D0b]
 refine Hib (B1a _ x (Mt h) hx) ?_
 refine Hib (Tw w _ hn (by omega)) ?_
 refine Hib (Z4a _ _ x h hx) ?_
 refine Hib (Tw w _ hn (by omega)) ?_
 have l1:=Qg hn (show (X6 w.2.1 x).length≤2000000 by omega)
 have l2:=Qg hn (show (Qf w.2.1 w.1 x).length≤2000000 by omega)
 exact Hfb (by omega) (H7b rfl)
def Cra (w:Wld) (hr:RBd w.2.1) (hn:w.2.2.1.length≤2000000):Tot (λ k=>Hw k w) (λ r=>r=Iq w):=by
 unfold Hw
 refine Hib (B0a _ Gmb hr (by decide)) ?_
 refine Hib (Uw w _ hn (Tx hr _)) ?_
 exact H7b rfl
def Csa (w:Wld) (hr:RBd w.2.1) (hn:w.2.2.1.length≤2000000):Tot (λ k=>Hu k w) (λ r=>r=Iq w):=by
 unfold Hu
 refine Hib (B1a _ Gmb hr (by decide)) ?_
 refine Hib (Tw w _ hn (Tx hr _)) ?_
 exact H7b rfl
def quo (n:Int):Int:=n/2+1
def Fjb {n:Int} (h0:0≤n):Int.tdiv n 2=n/2:=Hlb h0
def D1b {n:Int} (h0:0≤n) (h1:n≤1000000000):M1 n=some (quo n):=by
 unfold M1 quo
 rw[Fjb h0,w64 (n:=n/2) (by omega) (by omega),w64 (n:=n/2+1) (by omega) (by omega)]
def D2b {n:Int} (h0:0≤n) (h1:n≤1000000000):Ls n=some (quo n):=by
 unfold Ls quo
 rw[Fjb h0,w64 (n:=n/2) (by omega) (by omega),w64 (n:=n/2+1) (by omega) (by omega)]
def rch (l:List Int) (i:Nat):Int:=bif decide (i<l.length)&&inR (l.getD i 0) 1 3 then l.getD i 0 else 0
def M2a (l:List Int) (i:Nat):F9 l (i:Int)=some (rch l i):=by
 unfold F9 rch
 by_cases h:i<l.length
 ·simp (disch:=omega) only [dT,Vb,S9,Vl]
  rw[decide_eq_true h,Vz]
  cases inR (l.getD i 0) 1 3<;>rfl
 ·rw[dF (by omega),decide_eq_false h];rfl
def M3a (l:List Int) (i:Nat):Ck l (i:Int)=some (rch l i):=by
 unfold Ck rch
 by_cases h:i<l.length
 ·rw[dF (by omega)]
  simp (disch:=omega) only [dT,Vb,Pe,Vl]
  rw[decide_eq_true h,Vz]
  cases inR (l.getD i 0) 1 3<;>rfl
 ·rw[dT (by omega),decide_eq_false h];rfl

section
open Go
end

def D3b (a b:Row):Bool:=(a.1==b.1)&&((a.2.1.1==b.2.1.1)&&((a.2.1.2.1==b.2.1.2.1)&&((a.2.1.2.2==b.2.1.2.2)&&((a.2.2.1==b.2.2.1)&&(a.2.2.2==b.2.2.2)))))
def Jka {a b:Row}:D3b a b=true↔a=b:=by
 unfold D3b
 obtain⟨a0,⟨a1,a2,a3⟩,a4,a5⟩:=a
 obtain⟨b0,⟨b1,b2,b3⟩,b4,b5⟩:=b
 simp only[Fva,Va,beq_iff_eq,Wb,Lj]
 constructor
 ·rintro⟨h0,h1,h2,h3,h4,h5⟩;exact⟨h0,⟨h1,h2,h3⟩,h4,h5⟩
 ·rintro⟨h0,⟨h1,h2,h3⟩,h4,h5⟩;exact⟨h0,h1,h2,h3,h4,h5⟩
def Dja (ws:List Wri) (r:Row):Bool:=ws.any λ x=>D3b (Y3 x.1 x.2.1) r

end Go.Proofs.YtmhhjceoinoekaaGreat.Vf
