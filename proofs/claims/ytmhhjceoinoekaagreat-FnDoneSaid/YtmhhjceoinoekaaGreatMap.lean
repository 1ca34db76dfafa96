import Derived.Test.YtmhhjceoinoekaaGreatMao
set_option linter.all false
namespace Go.Proofs.YtmhhjceoinoekaaGreat.Vf
open Go
open List (length getD)
open Int (toNat)
open Go.IntKind (wrap)
open BitVec (ofInt)
def J0b:=@List.pairwise_singleton
def Jcb:=@List.drop_append_of_le_length
def Jdb:=@List.take_append_of_le_length
def Jeb:=@List.getElem_map

def run {α:Type} (st:α→Nat→α) (n:Nat) (a:α):α:=(List.range n).foldl st a
def Pm {α:Type} (st:α→Nat→α) (n:Nat) (a:α):run st (n+1) a=st (run st n a) n:=by
 unfold run
 rw[Khb,Ijb]
 rfl
def Z8a {α:Type} {st:α→Nat→α} {a:α} {j n:Nat} (hj:j≤n) (h:∀ i,st (run st j a) i=run st j a):run st n a=run st j a:=by
 obtain⟨m,rfl⟩:=Nat.exists_eq_add_of_le hj
 induction m with
 |zero=>rfl
 |succ m ih=>rw[← Zh,Pm,ih (by omega),h]
def Nv {α:Type} {st:α→Nat→α} (P:Nat→α→Prop) {n:Nat} {a:α} (h0:P 0 a) (hs:∀ j b,j<n→P j b→P (j+1) (st b j)):P n (run st n a):=by
 have:∀ m,m≤n→P m (run st m a):=by
  intro m
  induction m with
  |zero=>intro _;exact h0
  |succ m ih=>intro hm;rw[Pm];exact hs m _ (by omega) (ih (by omega))
 exact this n (Vv _)
def NS (ns:List Nod):Prop:=ns.length≤2000000∧∀ n∈ns,NG n
def NS.set {ns:List Nod} (h:NS ns) {i:Nat} {n:Nod} (hn:NG n):NS (ns.set i n):=⟨by rw[Vy];exact h.1,λ m hm=>by
 rcases Xs hm with hm|rfl
 ·exact h.2 m hm
 ·exact hn⟩
def NS.get {ns:List Nod} (h:NS ns) {i:Nat} (hi:i<ns.length):NG (ns.getD i C3):=h.2 _ (A4 hi)
abbrev wN (w:Wld) (ns:List Nod):Wld:=(w.1,w.2.1,ns,w.2.2.2)
def L6 (c:Stp) (t d:Int):Stp:=bif decide (t≤c.1) then (bif Fj (c.1,c.2.1+1,d) then (c.1,c.2.1+1,d) else c) else (bif Fj (t,0,d) then (t,0,d) else c)
def Vva {c:Stp} (hc:Fj c=true) (t d:Int):I0 c t d=some (L6 c t d):=by
 have h2:0≤c.2.1∧c.2.1≤1000000:=by
  unfold Fj at hc
  rw[Va,Va,Cc,Cc]at hc
  exact hc.2.1
 unfold I0 L6
 rw[w64 (n:=c.2.1+1) (by omega) (by omega)]
 simp only[T2,Vl]
 cases decide (t≤c.1) with
 |true=>cases Fj (c.1,c.2.1+1,d)<;>rfl
 |false=>cases Fj (t,0,d)<;>rfl
def X7 {c:Stp} (hc:Fj c=true) (t d:Int):Fj (L6 c t d)=true∧(L6 c t d=c∨sle c (L6 c t d)=true):=by
 unfold L6
 by_cases h:t≤c.1
 ·rw[decide_eq_true h,cond_true]
  cases hs:Fj (c.1,c.2.1+1,d) with
  |true=>exact⟨hs,.inr (T1.2 (.inr ⟨rfl,.inl (by show c.2.1<c.2.1+1;omega)⟩))⟩
  |false=>exact⟨hc,.inl rfl⟩
 ·rw[decide_eq_false h,cond_false]
  cases hs:Fj (t,0,d) with
  |true=>exact⟨hs,.inr (T1.2 (.inl (by show c.1<t;omega)))⟩
  |false=>exact⟨hc,.inl rfl⟩
def wst (R:Int) (rc:List Int) (s:ByteArray) (f:Fil) (cs:List Int) (a:List Nod×Int×Int) (j:Nat):List Nod×Int×Int:=
 bif decide (a.2.1<R) then (bif rch rc j==0 then a else
  (a.1.set (cs.getD j 0).toNat (U7 (a.1.getD (cs.getD j 0).toNat C3) s f (rch rc j != 3)).1,a.2.1+1,
   bif rch rc j==1&&((U7 (a.1.getD (cs.getD j 0).toNat C3) s f (rch rc j != 3)).2==0||(U7 (a.1.getD (cs.getD j 0).toNat C3) s f (rch rc j != 3)).2==1) then a.2.2+1 else a.2.2))
 else a
def wrN (w:Wld) (s:ByteArray) (f:Fil) (rc:List Int):List Nod×Int×Int:=run (wst w.2.1.1 rc s f (Ek w s)) (Ek w s).length (w.2.2.1,0,0)
def X8 (w:Wld) (s:ByteArray) (f:Fil) (rc:List Int):Int×Wld:=
 (bif decide ((wrN w s f rc).2.2≥quo w.2.1.1) then 0 else 1,(w.1,w.2.1,(wrN w s f rc).1,w.2.2.2.1,w.2.2.2.2.1++[(s,f,decide ((wrN w s f rc).2.2≥quo w.2.1.1))],w.2.2.2.2.2))
def S4 {w:Wld} {s:ByteArray} {x:Int} (h:x∈Ek w s):0≤x∧x<(w.2.2.1.length:Int):=by
 obtain⟨j,h1,_,rfl⟩:=Gla.1 h
 omega
def Avb {R:Int} {rc:List Int} {s:ByteArray} {f:Fil} {cs:List Int} {a:List Nod×Int×Int} {j m:Nat} (hs:Az s=true) (hf:Ee f=true) (h:NS a.1∧a.1.length=m∧(0≤a.2.1∧a.2.1≤j)∧0≤a.2.2∧a.2.2≤j) (hc:(cs.getD j 0).toNat<m):
  let b:=wst R rc s f cs a j
  NS b.1∧b.1.length=m∧(0≤b.2.1∧b.2.1≤((j+1:Nat):Int))∧0≤b.2.2∧b.2.2≤((j+1:Nat):Int):=by
 obtain⟨h1,h2,h3,h4,h5⟩:=h
 intro b
 have hb:b=wst R rc s f cs a j:=rfl
 unfold wst at hb
 cases hR:decide (a.2.1<R)
 ·rw[hR,cond_false]at hb;rw[hb];exact⟨h1,h2,⟨h3.1,by omega⟩,h4,by omega⟩
 rw[hR,cond_true]at hb
 cases hr:rch rc j==0
 case true=>rw[hr,cond_true]at hb;rw[hb];exact⟨h1,h2,⟨h3.1,by omega⟩,h4,by omega⟩
 rw[hr,cond_false]at hb
 rw[hb]
 refine⟨h1.set (Oha (h1.get (by omega)) hs hf),by rw[List.length_set];exact h2,⟨by dsimp only;omega,by dsimp only;omega⟩,?_⟩
 dsimp only
 cases rch rc j==1&&((U7 (a.1.getD (cs.getD j 0).toNat C3) s f (rch rc j != 3)).2==0||(U7 (a.1.getD (cs.getD j 0).toNat C3) s f (rch rc j != 3)).2==1)
 ·exact⟨h4,by rw[cond_false];omega⟩
 ·exact⟨by rw[cond_true];omega,by rw[cond_true];omega⟩
def Qra (w:Wld) (s:ByteArray) (f:Fil) (rc:List Int) (hr:Hk w.2.1 w.1=true) (hn:NS w.2.2.1) (hs:Az s=true) (hf:Ee f=true) (hw:w.2.2.2.2.1.length≤2000000):
  Tot (λ k=>Ch k w s f rc) (λ r=>r=X8 w s f rc):=by
 have hsz:s.size≤1000000000:=by
  have:=Cc.1 (Va _ _ ▸ hs:_∧_).2
  omega
 obtain⟨_,hR,_⟩:=B5.1 hr
 unfold Ch X8
 refine Hib (Jja w s hr hn.1 hsz) ?_
 have hc:=λ x=>S4 (w:=w) (s:=s) (x:=x)
 have hcl:(Ek w s).length≤4000000000000:=by
  unfold Ek
  refine Qg hn.1 ?_
  have h5:=(B5.1 hr).2.1
  have p2:=(Uv hr s).2.1
  have h12:=(Dc.1 (B5.1 hr).1).2.2.2
  have hh:=Qh w.2.1 w.1 s
  rw[Vd];omega
 have hrun:wrN w s f rc=run (wst w.2.1.1 rc s f (Ek w s)) (Ek w s).length (w.2.2.1,0,0):=rfl
 have inv:∀ n,n≤(Ek w s).length→NS (run (wst w.2.1.1 rc s f (Ek w s)) n (w.2.2.1,0,0)).1∧(run (wst w.2.1.1 rc s f (Ek w s)) n (w.2.2.1,0,0)).1.length=w.2.2.1.length∧(0≤(run (wst w.2.1.1 rc s f (Ek w s)) n (w.2.2.1,0,0)).2.1∧(run (wst w.2.1.1 rc s f (Ek w s)) n (w.2.2.1,0,0)).2.1≤n)∧0≤(run (wst w.2.1.1 rc s f (Ek w s)) n (w.2.2.1,0,0)).2.2∧(run (wst w.2.1.1 rc s f (Ek w s)) n (w.2.2.1,0,0)).2.2≤n:=by
  intro n hn'
  refine Nv (λ j (b:List Nod×Int×Int)=>NS b.1∧b.1.length=w.2.2.1.length∧(0≤b.2.1∧b.2.1≤(j:Int))∧0≤b.2.2∧b.2.2≤(j:Int)) ⟨hn,rfl,⟨Zs _,Zs _⟩,Zs _,Zs _⟩ (λ j b hj hb=>Avb hs hf hb ?_)
  have:=hc _ (A4 (d:=0) (show j<(Ek w s).length by omega))
  omega
 generalize hcs:Ek w s=cs at *
 refine H8b (Q:=λ r=>r=(s,(wrN w s f rc).2.2,wN w (wrN w s f rc).1,f)) ?_ ?_
 ·refine Hgb (L:=λ k i (a:List Nod×Int×Int)=>Bd k s rc cs a.2.1 a.2.2 i (wN w a.1) f) (Q:=λ r=>r=(s,(wrN w s f rc).2.2,wN w (wrN w s f rc).1,f)) cs.length (λ j a=>a=run (wst w.2.1.1 rc s f cs) j (w.2.2.1,0,0)) ?_ ?_ 0 (w.2.2.1,0,0) (Vq _) rfl
  ·rintro a rfl
   simp (disch:=omega) only [Bd,dF]
   exact H7b (by rw[hrun])
  ·rintro j a hj rfl next
   obtain⟨i1,i2,i3,i4,i5⟩:=inv j (by omega)
   rw[Pm]at next
   have hst:=Z8a (st:=wst w.2.1.1 rc s f cs) (a:=(w.2.2.1,(0:Int),(0:Int))) (j:=j) (n:=cs.length) (by omega)
   generalize run (wst w.2.1.1 rc s f cs) j (w.2.2.1,0,0)=a at *
   obtain⟨ns,o,g⟩:=a
   dsimp only at i1 i2 i3 i4 i5
   have hci:=hc _ (A4 (d:=0) hj)
   obtain⟨i,ei⟩:∃ i:Nat,cs.getD j 0=(i:Int):=⟨(cs.getD j 0).toNat,by omega⟩
   rw[ei]at hci
   unfold wst at next
   rw[ei,Vb]at next
   simp (disch:=omega) only [Bd,dT,wN]
   refine Heb (λ hR'=>?_) (λ hR'=>H7b ?_)
   ·dsimp only at next
    rw[decide_eq_true hR']at next
    simp only[M3a,Vl]
    cases h0:rch rc j==0 with
    |true=>
     rw[h0]at next
     simp (disch:=omega) only [w64]
     exact Hab rfl (next _ rfl)
    |false=>
     rw[h0]at next
     have e0:ns.getD i ((0:Int),(([],[]),([],[])))=ns.getD i C3:=rfl
     simp (disch:=omega) only [dT,Vb,w64,ei,e0,cond_false]
     refine Hib (J0a (ns.getD i C3) s f (rch rc j != 3) (Se (i1.get (by omega))) (J8 hs)) ?_
     dsimp only at next ⊢
     generalize U7 (ns.getD i C3) s f (rch rc j != 3)=p at *
     cases h1:rch rc j==1 with
     |false=>
      rw[h1]at next
      exact H9b rfl (next _ rfl)
     |true=>
      rw[h1]at next
      refine Hab rfl ?_
      cases h2:p.2==0
      case true=>rw[h2]at next;exact Hab rfl (next _ rfl)
      rw[h2]at next
      refine H9b rfl ?_
      cases h3:p.2==1 with
      |true=>rw[h3]at next;exact Hab rfl (next _ rfl)
      |false=>rw[h3]at next;exact H9b rfl (next _ rfl)
   ·rw[hrun,hst (λ i=>by unfold wst;dsimp only;rw[decide_eq_false hR'];rfl)]
 ·rintro r rfl
  obtain⟨_,_,_,h4,h5⟩:=inv cs.length (Vv _)
  dsimp only[wN]
  rw[D2b (by omega) (by omega)]
  have ec:C2 f=some f:=by
   have:=(Ke.1 hf).2.1
   unfold C2
   rw[bT (by simp only[Vg];omega),Vx]
  rw[ec]
  simp only[Vl]
  refine Hfb (by simp only[Vc,Vg];omega) ?_
  cases decide ((wrN w s f rc).2.2≥quo w.2.1.1) with
  |true=>exact H7b rfl
  |false=>exact H7b rfl
def ask (w:Wld) (s:ByteArray) (f:Fil) (t:Int) (rc:List Int):Int×Wld:=
 bif !(Az s) then (2,w) else bif decide ((f.2.2.length:Int) > 200) then (2,w) else bif !(inR t 0 1000000000) then (2,w) else
 bif (w.2.2.2.2.1.length:Int)==200 then (3,w) else
 bif (L6 w.2.2.2.1 t 0).1==w.2.2.2.1.1&&((L6 w.2.2.2.1 t 0).2.1==w.2.2.2.1.2.1&&(L6 w.2.2.2.1 t 0).2.2==w.2.2.2.1.2.2) then (3,w) else
 X8 (w.1,w.2.1,w.2.2.1,L6 w.2.2.2.1 t 0,w.2.2.2.2) s (L6 w.2.2.2.1 t 0,f.2) rc
def Vwa (w:Wld) (s:ByteArray) (f:Fil) (t:Int) (rc:List Int) (hr:Hk w.2.1 w.1=true) (hn:NS w.2.2.1) (hst:Fj w.2.2.2.1=true) (hs:Lo s) (hd:f.2.1=true→f.2.2=[]) (hw:w.2.2.2.2.1.length≤2000000):
  Tot (λ k=>It k w s f t rc) (λ r=>r=ask w s f t rc):=by
 unfold It ask
 refine Hib (Qb s hs) ?_
 cases hs':Az s
 ·exact Hab rfl (H7b rfl)
 refine H9b rfl ?_
 rw[Yv,cond_false]
 by_cases hl:(f.2.2.length:Int) > 200
 ·rw[decide_eq_true hl];exact Hab rfl (H7b rfl)
 ·rw[decide_eq_false hl,cond_false]
  refine H9b rfl ?_
  simp only[Pe,Vva hst,Vl]
  cases inR t 0 1000000000
  ·exact Hab rfl (H7b rfl)
  refine H9b rfl ?_
  rw[Yv,cond_false]
  cases (w.2.2.2.2.1.length:Int)==200
  case true=>exact Hab rfl (H7b rfl)
  refine H9b rfl ?_
  rw[cond_false]
  cases (L6 w.2.2.2.1 t 0).1==w.2.2.2.1.1&&((L6 w.2.2.2.1 t 0).2.1==w.2.2.2.1.2.1&&(L6 w.2.2.2.1 t 0).2.2==w.2.2.2.1.2.2)
  case true=>exact Hab rfl (H7b rfl)
  refine H9b rfl (Hib (Qra (w.1,w.2.1,w.2.2.1,L6 w.2.2.2.1 t 0,w.2.2.2.2) s (L6 w.2.2.2.1 t 0,f.2) rc hr hn hs' (Ke.2 ⟨(X7 hst t 0).1,by show f.2.2.length≤200;omega,hd⟩) hw) ?_)
  exact H7b rfl
def pst (src:Int) (s:ByteArray) (f:Fil) (rc ps:List Int) (a:List Nod×Bool×Bool) (j:Nat):List Nod×Bool×Bool:=
 bif ps.getD j 0==src then (a.1,true,a.2.2) else bif rch rc j != 1 then (a.1,a.2.1,false) else
  (a.1.set (ps.getD j 0).toNat ((a.1.getD (ps.getD j 0).toNat C3).1,(keep (a.1.getD (ps.getD j 0).toNat C3).2.1 s f true).1,(a.1.getD (ps.getD j 0).toNat C3).2.2),a.2.1,
   bif (keep (a.1.getD (ps.getD j 0).toNat C3).2.1 s f true).2 != 0&&(keep (a.1.getD (ps.getD j 0).toNat C3).2.1 s f true).2 != 1 then false else a.2.2)
def Pn (w:Wld) (s:ByteArray):List Int:=whr w.2.2.1 (X6 w.2.1 s)
def puN (w:Wld) (i:Nat) (s:ByteArray) (rc:List Int):List Nod×Bool×Bool:=run (pst (i:Int) s (lkD (w.2.2.1.getD i C3).2.1 s).1 rc (Pn w s)) (Pn w s).length (w.2.2.1,false,true)
def Gzb (n:Nod) (s:ByteArray):Nod:=(n.1,(syD (rmD n.2.1 s).1 s).1,n.2.2)
def Cta (w:Wld) (i:Nat) (s:ByteArray) (rc:List Int):Bool×Wld:=bif (lkD (w.2.2.1.getD i C3).2.1 s).2 != 0 then (false,w) else
 (true,wN w (bif (puN w i s rc).2.2&&!(puN w i s rc).2.1 then (puN w i s rc).1.set i (Gzb ((puN w i s rc).1.getD i C3) s) else (puN w i s rc).1))
def Awb {n:Nod} (hn:NG n) {s:ByteArray} (hs:Az s=true):NG (Gzb n s):=Gga hn (Crb (Uqa hn.g) hs)
def M4a {n:Nod} (hn:NG n) {s:ByteArray} {f:Fil} {sure:Bool}:NG (n.1,(keep n.2.1 s f sure).1,n.2.2):=Gga hn (Akb hn.g)
def Vxa {src:Int} {s:ByteArray} {f:Fil} {rc ps:List Int} {a:List Nod×Bool×Bool} {j m:Nat} (h:NS a.1∧a.1.length=m) (hc:(ps.getD j 0).toNat<m):NS (pst src s f rc ps a j).1∧(pst src s f rc ps a j).1.length=m:=by
 unfold pst
 cases ps.getD j 0==src
 case true=>exact h
 cases rch rc j != 1 with
 |true=>exact h
 |false=>exact⟨h.1.set (M4a (h.1.get (by have:=h.2;omega))),by rw[cond_false,cond_false,Vy];exact h.2⟩
def Tz {w:Wld} {s:ByteArray} {x:Int} (h:x∈Pn w s):0≤x∧x<(w.2.2.1.length:Int):=by
 obtain⟨j,h1,_,rfl⟩:=Gla.1 h
 omega
def Jla {w:Wld} {s:ByteArray} (hr:Hk w.2.1 w.1=true) (hn:w.2.2.1.length≤2000000):(Pn w s).length≤4000000000000:=Qg hn (Tx (Mt hr) s)
def Axb {w:Wld} {i:Nat} {s:ByteArray} {rc:List Int} (hn:NS w.2.2.1):NS (puN w i s rc).1∧(puN w i s rc).1.length=w.2.2.1.length:=
 Nv (λ _ (b:List Nod×Bool×Bool)=>NS b.1∧b.1.length=w.2.2.1.length) ⟨hn,rfl⟩ (λ j b hj hb=>Vxa hb (by have:=Tz (A4 (d:=0) hj);omega))
def Z9a (w:Wld) (i:Nat) (s:ByteArray) (rc:List Int) (hr:Hk w.2.1 w.1=true) (hn:NS w.2.2.1) (hi:i<w.2.2.1.length):Tot (λ k=>De k w (i:Int) s rc) (λ r=>r=Cta w i s rc):=by
 have hni:=hn.get hi
 unfold De Cta
 have e0:w.2.2.1.getD i ((0:Int),(([],[]),([],[])))=w.2.2.1.getD i C3:=rfl
 simp (disch:=omega) only [dT,Vb,e0]
 have hin:=(Se hni).1
 refine Hib (Ava hin.1.1.1.1 hin.2.1 s) ?_
 cases hl:(lkD (w.2.2.1.getD i C3).2.1 s).2 != 0
 case true=>exact Hab rfl (H7b rfl)
 refine H9b rfl ?_
 rw[cond_false]
 have hlk:∃ b,gt (w.2.2.1.getD i C3).2.1.1 s=some b:=by
  rw[bne,Wi,beq_iff_eq]at hl
  obtain⟨b,hb,_⟩:=R9.1 (show lkD (w.2.2.1.getD i C3).2.1 s=((lkD (w.2.2.1.getD i C3).2.1 s).1,0) from by rw[← hl])
  exact⟨b,hb⟩
 have hs:Az s=true:=Qda hni.g.1 (by obtain⟨b,hb⟩:=hlk;rw[hb];rfl)
 have hsz:s.size≤1000000000:=by
  have:=Cc.1 (Va _ _ ▸ hs:_∧_).2
  omega
 refine Hib (B1a _ s (Mt hr) hsz) ?_
 refine Hib (Tw w _ hn.1 (Tx (Mt hr) s)) ?_
 have hpl:=Jla (s:=s) hr hn.1
 have hc:=λ x=>Tz (w:=w) (s:=s) (x:=x)
 have hrun:puN w i s rc=run (pst (i:Int) s (lkD (w.2.2.1.getD i C3).2.1 s).1 rc (Pn w s)) (Pn w s).length (w.2.2.1,false,true):=rfl
 obtain⟨p1,p2⟩:=Axb (w:=w) (i:=i) (s:=s) (rc:=rc) hn
 have inv:∀ n,n≤(Pn w s).length→NS (run (pst (i:Int) s (lkD (w.2.2.1.getD i C3).2.1 s).1 rc (Pn w s)) n (w.2.2.1,false,true)).1∧(run (pst (i:Int) s (lkD (w.2.2.1.getD i C3).2.1 s).1 rc (Pn w s)) n (w.2.2.1,false,true)).1.length=w.2.2.1.length:=λ n hn'=>
  Nv (λ _ (b:List Nod×Bool×Bool)=>NS b.1∧b.1.length=w.2.2.1.length) ⟨hn,rfl⟩ (λ j b hj hb=>Vxa hb (by have:=hc _ (A4 (d:=0) (show j<(Pn w s).length by omega));omega))
 rw[show whr w.2.2.1 (X6 w.2.1 s)=Pn w s from rfl]
 generalize (lkD (w.2.2.1.getD i C3).2.1 s).1=f at *
 generalize Pn w s=ps at *
 refine H8b (Q:=λ r=>r=((i:Int),s,(puN w i s rc).2.1,(puN w i s rc).2.2,wN w (puN w i s rc).1)) ?_ ?_
 ·refine Hgb (L:=λ k j (a:List Nod×Bool×Bool)=>C0 k (i:Int) s rc ps a.2.1 a.2.2 j (wN w a.1) f) (Q:=λ r=>r=((i:Int),s,(puN w i s rc).2.1,(puN w i s rc).2.2,wN w (puN w i s rc).1)) ps.length (λ j a=>a=run (pst (i:Int) s f rc ps) j (w.2.2.1,false,true)) ?_ ?_ 0 (w.2.2.1,false,true) (Vq _) rfl
  ·rintro a rfl
   simp (disch:=omega) only [C0,dF]
   exact H7b (by rw[hrun])
  ·rintro j a hj rfl next
   obtain⟨i1,i2⟩:=inv j (by omega)
   rw[Pm]at next
   generalize run (pst (i:Int) s f rc ps) j (w.2.2.1,false,true)=a at *
   obtain⟨ns,o,g⟩:=a
   dsimp only at i1 i2
   have hci:=hc _ (A4 (d:=0) hj)
   obtain⟨m,em⟩:∃ m:Nat,ps.getD j 0=(m:Int):=⟨(ps.getD j 0).toNat,by omega⟩
   rw[em]at hci
   unfold pst at next
   rw[em,Vb]at next
   have e0:ns.getD m ((0:Int),(([],[]),([],[])))=ns.getD m C3:=rfl
   simp (disch:=omega) only [C0,dT,Vb,w64,em,wN]
   cases hz:(m:Int)==(i:Int) with
   |true=>
    rw[hz]at next
    exact Hab rfl (next _ rfl)
   |false=>
    rw[hz]at next
    refine H9b rfl ?_
    simp only[M3a,Vl]
    cases h1:rch rc j != 1 with
    |true=>
     rw[h1]at next
     exact Hab rfl (next _ rfl)
    |false=>
     rw[h1]at next
     refine H9b rfl ?_
     simp (disch:=omega) only [dT,Vb,e0]
     have hm:=Se (i1.get (i:=m) (by omega))
     refine Hib (Oea (ns.getD m C3).2.1 s f true hm.1.1 hm.1.2.1 (J8 hs)) ?_
     dsimp only at next
     generalize keep (ns.getD m C3).2.1 s f true=q at *
     cases h2:q.2 != 0
     ·rw[h2]at next;exact H9b rfl (next _ rfl)
     rw[h2]at next
     refine Hab rfl ?_
     cases h3:q.2 != 1 with
     |true=>rw[h3]at next;exact Hab rfl (next _ rfl)
     |false=>rw[h3]at next;exact H9b rfl (next _ rfl)
 ·rintro r rfl
  dsimp only[wN]
  generalize puN w i s rc=a at *
  obtain⟨ns,o,g⟩:=a
  dsimp only at p1 p2 ⊢
  cases g
  ·exact H9b rfl (H7b rfl)
  refine Hab rfl ?_
  cases o
  case true=>exact H9b rfl (H7b rfl)
  refine Hab rfl ?_
  have e0:ns.getD i ((0:Int),(([],[]),([],[])))=ns.getD i C3:=rfl
  have hil:(i:Int)<(ns.length:Int):=by omega
  simp (disch:=omega) only [dT,Vb,e0]
  have hg:=(p1.get (i:=i) (by omega)).g
  refine Hib (Ur hg.1 (J8 hs)) ?_
  refine Hib (X3 (Uqa hg).1 hs) ?_
  exact H7b rfl

def tk (n:Nod) (l:List Row):Bool×Nod:=bif decide ((Uz n.2.2.1 l).length > 60) then (false,n) else (true,(n.1,n.2.1,Uz n.2.2.1 l,n.2.2.2))
def Gnb {n:Nod} {l:List Row} (hn:NG n) (hl:Lk l=true):NG (tk n l).2:=by
 obtain⟨h1,h2,h3,h4,h5⟩:=Cj.1 hn.1
 unfold tk
 by_cases h:(Uz n.2.2.1 l).length > 60
 ·rw[decide_eq_true h];exact hn
 ·rw[decide_eq_false h]
  exact⟨Cj.2 ⟨h1,h2,h3,Cia h4 hl (by omega),h5⟩,hn.2⟩
def gst (src:Int) (l:List Row) (self:Bool) (rc ls:List Int) (a:List Nod×Bool) (j:Nat):List Nod×Bool:=
 bif ls.getD j 0==src&&!self then a else bif rch rc j != 1 then (a.1,false) else
  (a.1.set (ls.getD j 0).toNat (tk (a.1.getD (ls.getD j 0).toNat C3) l).2,bif (tk (a.1.getD (ls.getD j 0).toNat C3) l).1 then a.2 else false)
def Nj (w:Wld) (src:Int) (l:List Row) (self:Bool) (rc:List Int):List Nod×Bool:=run (gst src l self rc (Iq w)) (Iq w).length (w.2.2.1,true)
def Vya {src:Int} {l:List Row} {self:Bool} {rc ls:List Int} {a:List Nod×Bool} {j m:Nat} (hl:Lk l=true) (h:NS a.1∧a.1.length=m) (hc:(ls.getD j 0).toNat<m):NS (gst src l self rc ls a j).1∧(gst src l self rc ls a j).1.length=m:=by
 unfold gst
 cases ls.getD j 0==src&&!self
 case true=>exact h
 cases rch rc j != 1 with
 |true=>exact h
 |false=>exact⟨h.1.set (Gnb (h.1.get (by have:=h.2;omega)) hl),by rw[cond_false,cond_false,Vy];exact h.2⟩
def Pp {w:Wld} {x:Int} (h:x∈Iq w):0≤x∧x<(w.2.2.1.length:Int):=by
 obtain⟨j,h1,_,rfl⟩:=Gla.1 h
 omega
def S5 {w:Wld} (hr:RBd w.2.1) (hn:w.2.2.1.length≤2000000):(Iq w).length≤4000000000000:=Qg hn (Tx hr _)
def B2a {w:Wld} {src:Int} {l:List Row} {self:Bool} {rc:List Int} (hl:Lk l=true) (hn:NS w.2.2.1):NS (Nj w src l self rc).1∧(Nj w src l self rc).1.length=w.2.2.1.length:=
 Nv (λ _ (b:List Nod×Bool)=>NS b.1∧b.1.length=w.2.2.1.length) ⟨hn,rfl⟩ (λ j b hj hb=>Vya hl hb (by have:=Pp (A4 (d:=0) hj);omega))
def Oya (w:Wld) (src:Int) (l:List Row) (self:Bool) (rc:List Int) (hr:RBd w.2.1) (hn:NS w.2.2.1) (hl:Lk l=true):
  Tot (λ k=>C5 k w src l self rc) (λ r=>r=((Nj w src l self rc).2,wN w (Nj w src l self rc).1)):=by
 have hll:=(Cha hl).1
 unfold C5
 refine Hib (Csa w hr hn.1) ?_
 have hpl:=S5 hr hn.1
 have hc:=λ x=>Pp (w:=w) (x:=x)
 have hrun:Nj w src l self rc=run (gst src l self rc (Iq w)) (Iq w).length (w.2.2.1,true):=rfl
 have inv:∀ n,n≤(Iq w).length→NS (run (gst src l self rc (Iq w)) n (w.2.2.1,true)).1∧(run (gst src l self rc (Iq w)) n (w.2.2.1,true)).1.length=w.2.2.1.length:=λ n hn'=>
  Nv (λ _ (b:List Nod×Bool)=>NS b.1∧b.1.length=w.2.2.1.length) ⟨hn,rfl⟩ (λ j b hj hb=>Vya hl hb (by have:=hc _ (A4 (d:=0) (show j<(Iq w).length by omega));omega))
 generalize Iq w=ls at *
 refine H8b (Q:=λ r=>r=((Nj w src l self rc).2,wN w (Nj w src l self rc).1)) ?_ (by rintro r rfl;exact H7b rfl)
 refine Hgb (L:=λ k j (a:List Nod×Bool)=>Ao k src l self rc ls a.2 j (wN w a.1)) (Q:=λ r=>r=((Nj w src l self rc).2,wN w (Nj w src l self rc).1)) ls.length (λ j a=>a=run (gst src l self rc ls) j (w.2.2.1,true)) ?_ ?_ 0 (w.2.2.1,true) (Vq _) rfl
 ·rintro a rfl
  simp (disch:=omega) only [Ao,dF]
  exact H7b (by rw[hrun])
 ·rintro j a hj rfl next
  obtain⟨i1,i2⟩:=inv j (by omega)
  rw[Pm]at next
  generalize run (gst src l self rc ls) j (w.2.2.1,true)=a at *
  obtain⟨ns,g⟩:=a
  dsimp only at i1 i2
  have hci:=hc _ (A4 (d:=0) hj)
  obtain⟨m,em⟩:∃ m:Nat,ls.getD j 0=(m:Int):=⟨(ls.getD j 0).toNat,by omega⟩
  rw[em]at hci
  unfold gst at next
  rw[em,Vb]at next
  have e0:ns.getD m ((0:Int),(([],[]),([],[])))=ns.getD m C3:=rfl
  have hm:=Se (i1.get (i:=m) (by omega))
  have h12:=Eoa (ns.getD m C3) l hm.2.1.1 hll
  rw[show (bif decide ((Uz (ns.getD m C3).2.2.1 l).length > 60) then (false,(ns.getD m C3)) else (true,((ns.getD m C3).1,(ns.getD m C3).2.1,Uz (ns.getD m C3).2.2.1 l,(ns.getD m C3).2.2.2)))=tk (ns.getD m C3) l from rfl]at h12
  have body:(bif (m:Int)==src&&!self then false else true)=true→Tot (λ k=>(Ck rc (j:Int)).bind λ r2=>cond (r2 != 1) (Ao k src l self rc ls false ((j:Int)+1) (wN w ns)) (cond (decide ((0:Int)≤(m:Int))) (cond (decide ((m:Int)<(length ns:Int))) ((J3 k (ns.getD m C3) l).bind λ r5=>cond (!r5.1) (Ao k src l self rc ls false ((j:Int)+1) (wN w (ns.set m r5.2))) (Ao k src l self rc ls g ((j:Int)+1) (wN w (ns.set m r5.2)))) none) none)) (λ r=>r=((Nj w src l self rc).2,wN w (Nj w src l self rc).1)):=by
   intro hb
   have hb':((m:Int)==src&&!self)=false:=by
    cases hx:((m:Int)==src&&!self) with
    |false=>rfl
    |true=>rw[hx]at hb;cases hb
   rw[hb']at next
   simp only[M3a,Vl]
   cases h1:rch rc j != 1 with
   |true=>
    rw[h1]at next
    exact Hab rfl (next _ rfl)
   |false=>
    rw[h1]at next
    refine H9b rfl (Hbb (by omega) (Hbb (by omega) (H8b h12 ?_)))
    rintro q rfl
    dsimp only at next
    generalize tk (ns.getD m C3) l=q at *
    cases h2:q.1 with
    |false=>rw[h2]at next;exact Hab rfl (next _ rfl)
    |true=>rw[h2]at next;exact H9b rfl (next _ rfl)
  simp (disch:=omega) only [Ao,dT,Vb,w64,em,e0]
  cases hz:(m:Int)==src with
  |true=>
   rw[hz]at next body
   refine Hab rfl ?_
   cases self
   ·exact Hab rfl (next _ rfl)
   refine H9b rfl ?_
   have:=body rfl
   dsimp only[wN]at this ⊢
   simp (disch:=omega) only [dT]at this
   exact this
  |false=>
   rw[hz]at next body
   refine H9b rfl ?_
   have:=body rfl
   dsimp only[wN]at this ⊢
   simp (disch:=omega) only [dT]at this
   exact this
def Qsa {r:Row} (h:Om r=true):Lk [r]=true:=Oy.2 ⟨J0b _ _,λ x hx=>by rw[Vu.1 hx];exact h,by simp⟩
def Yz:Lk []=true:=Oy.2 ⟨List.Pairwise.nil,(λ _ hx=>nomatch hx),Vq _⟩
def Vza (n:Nod):Nod:=(n.1,n.2.1,[],n.2.2.2)
def Gob (n:Nod) (q:List Row):Nod:=(n.1,n.2.1,n.2.2.1,q)
def Oza {n:Nod} (hn:NG n):NG (Vza n):=by
 obtain⟨h1,h2,h3,h4,h5⟩:=Cj.1 hn.1
 exact⟨Cj.2 ⟨h1,h2,h3,Yz,h5⟩,hn.2⟩
def Ayb {n:Nod} {q:List Row} (hn:NG n) (h:∀ r∈q,Om r=true) (hl:q.length≤60):NG (Gob n q):=by
 obtain⟨h1,h2,h3,h4,h5⟩:=Cj.1 hn.1
 exact⟨Cj.2 ⟨h,h2,h3,h4,hl⟩,hn.2⟩
def Sf (w:Wld) (i:Nat) (rc:List Int):List Nod×Bool:=Nj w (i:Int) (w.2.2.1.getD i C3).2.2.1 false rc
def Cua (w:Wld) (i:Nat) (rc:List Int):Bool×Wld:=bif ((w.2.2.1.getD i C3).2.2.1.length:Int)==0 then (false,w) else
 (true,wN w (bif (Sf w i rc).2&&!(Oq (Iq (wN w (Sf w i rc).1)) (i:Int)) then (Sf w i rc).1.set i (Vza ((Sf w i rc).1.getD i C3)) else (Sf w i rc).1))
def W0a (w:Wld) (i:Nat) (rc:List Int) (hr:RBd w.2.1) (hn:NS w.2.2.1) (hi:i<w.2.2.1.length):Tot (λ k=>I2 k w (i:Int) rc) (λ r=>r=Cua w i rc):=by
 have hni:=hn.get hi
 have e0:w.2.2.1.getD i ((0:Int),(([],[]),([],[])))=w.2.2.1.getD i C3:=rfl
 have hl:=(Cj.1 hni.1).2.2.2.1
 unfold I2 Cua
 simp (disch:=omega) only [dT,Vb,e0]
 cases hz:((w.2.2.1.getD i C3).2.2.1.length:Int)==0
 case true=>exact Hab rfl (H7b rfl)
 refine H9b rfl (Hib (Oya w (i:Int) _ false rc hr hn hl) ?_)
 obtain⟨p1,p2⟩:=B2a (w:=w) (src:=(i:Int)) (self:=false) (rc:=rc) hl hn
 rw[show Nj w (i:Int) (w.2.2.1.getD i C3).2.2.1 false rc=Sf w i rc from rfl]at p1 p2 ⊢
 generalize Sf w i rc=a at *
 obtain⟨ns,g⟩:=a
 dsimp only at p1 p2 ⊢
 cases g
 ·exact H9b rfl (H7b rfl)
 refine Hab rfl ?_
 refine H8b (Q:=λ r=>r=Oq (Iq (wN w ns)) (i:Int)) ?_ ?_
 ·unfold Kf
  refine Hib (Csa (wN w ns) hr p1.1) ?_
  refine Hib (Ut _ _ (by have:=S5 (w:=wN w ns) hr p1.1;omega)) ?_
  exact H7b rfl
 ·rintro b rfl
  cases Oq (Iq (wN w ns)) (i:Int)
  case true=>exact H9b rfl (H7b rfl)
  have e1:ns.getD i ((0:Int),(([],[]),([],[])))=ns.getD i C3:=rfl
  refine Hab rfl ?_
  simp (disch:=omega) only [dT,Vb,e1]
  exact H7b rfl
def Tc (w:Wld) (i:Nat) (rc:List Int):List Nod×Bool:=Nj w (i:Int) ((w.2.2.1.getD i C3).2.2.2.take 1) true rc
def Cva (w:Wld) (i:Nat) (rc:List Int):Bool×Wld:=bif ((w.2.2.1.getD i C3).2.2.2.length:Int)==0 then (false,w) else
 (true,wN w (bif (Tc w i rc).2 then (Tc w i rc).1.set i (Gob ((Tc w i rc).1.getD i C3) ((w.2.2.1.getD i C3).2.2.2.drop 1)) else (Tc w i rc).1))
def S6 {q:List Row} (h:∀ r∈q,Om r=true):Lk (q.take 1)=true:=by
 cases q with
 |nil=>exact Yz
 |cons r q=>exact Qsa (h r Yk)
def W1a (w:Wld) (i:Nat) (rc:List Int) (hr:RBd w.2.1) (hn:NS w.2.2.1) (hi:i<w.2.2.1.length):Tot (λ k=>I3 k w (i:Int) rc) (λ r=>r=Cva w i rc):=by
 have hni:=hn.get hi
 have e0:w.2.2.1.getD i ((0:Int),(([],[]),([],[])))=w.2.2.1.getD i C3:=rfl
 obtain⟨hq,_,_,_,hq60⟩:=Cj.1 hni.1
 have hl:=S6 hq
 unfold I3 Cva
 simp (disch:=omega) only [dT,Vb,e0]
 cases hz:((w.2.2.1.getD i C3).2.2.2.length:Int)==0
 case true=>exact Hab rfl (H7b rfl)
 have h1:=beq_eq_false_iff_ne.1 hz
 refine H9b rfl (Hbb (by omega) (Hib (Oya w (i:Int) _ true rc hr hn hl) ?_))
 obtain⟨p1,p2⟩:=B2a (w:=w) (src:=(i:Int)) (self:=true) (rc:=rc) hl hn
 rw[show Nj w (i:Int) ((w.2.2.1.getD i C3).2.2.2.take (toNat 1)) true rc=Tc w i rc from rfl]
 rw[show Nj w (i:Int) ((w.2.2.1.getD i C3).2.2.2.take 1) true rc=Tc w i rc from rfl]at p1 p2
 generalize Tc w i rc=a at *
 obtain⟨ns,g⟩:=a
 dsimp only at p1 p2 ⊢
 cases g
 ·exact H9b rfl (H7b rfl)
 refine Hab rfl (Hbb (by omega) (Hfb (by rw[Wd,Vg];omega) ?_))
 have e1:ns.getD i ((0:Int),(([],[]),([],[])))=ns.getD i C3:=rfl
 simp (disch:=omega) only [dT,Vb,e1,Vx]
 exact H7b rfl
def W2a:∀ (k:Nat) (l:List ByteArray) (s:ByteArray),k<l.length→∃ j,j≤k∧(Jva l k s).2=j∧(Jva l k s).1.set j s=l.take j++s::((l.take k).drop j++l.drop (k+1))∧(∀ y∈(l.take k).drop j,tlt s y=true)∧(0<j→tlt s (l.getD (j-1) On)=false)
 |0,l,s,hk=>by
  refine⟨0,Vv _,rfl,?_,λ y hy=>by simp at hy,λ h=>by omega⟩
  cases l with
  |nil=>simp at hk
  |cons x l=>rfl
 |k+1,l,s,hk=>by
  unfold Jva
  cases hc:tlt s (l.getD k On) with
  |false=>
   rw[cond_false]
   refine⟨k+1,Vv _,rfl,?_,λ y hy=>?_,λ _=>hc⟩
   ·rw[Idb,Iab,Htb,Vx]
    exact I0b .. |>.trans (if_pos hk)
   ·rw[Idb,Iab,Htb]at hy;cases hy
  |true=>
   rw[cond_true]
   obtain⟨j,h1,h2,h3,h4,h5⟩:=W2a k (l.set (k+1) (l.getD k On)) s (by rw[Vy];omega)
   have t1:(l.set (k+1) (l.getD k On)).take j=l.take j:=by rw[Jjb (by omega)]
   have t2:(l.set (k+1) (l.getD k On)).take k=l.take k:=by rw[Jjb (by omega)]
   have t3:(l.set (k+1) (l.getD k On)).drop (k+1)=l.getD k On::l.drop (k+2):=by
    rw[Zb (by rw[Vy];exact hk),List.getElem_set_self,List.drop_set_of_lt (by omega)]
   have t4:l.take (k+1)=l.take k++[l.getD k On]:=by
    rw[Wl (by omega),Ve,Vk (by omega),Yp]
   have hlk:(l.take k).length=k:=by rw[Vs];omega
   rw[t1,t2,t3]at h3
   rw[t2]at h4
   refine⟨j,by omega,h2,?_,λ y hy=>?_,λ h=>?_⟩
   ·rw[h3,t4,Jcb (by omega),Vo]
    rfl
   ·rw[t4,Jcb (by omega)]at hy
    rcases Vp.1 hy with hy|hy
    ·exact h4 y hy
    ·rw[Vu.1 hy];exact hc
   ·have:=h5 h
    rwa [Ve,Ikb (by omega),← Ve]at this
def Eqa {l:List ByteArray} {s:ByteArray}:∃ j,j≤l.length∧Atb l s=l.take j++s::l.drop j∧(∀ y∈l.drop j,tlt s y=true)∧(0<j→tlt s (l.getD (j-1) On)=false):=by
 obtain⟨j,h1,h2,h3,h4,h5⟩:=W2a l.length (l++[s]) s (by simp)
 have t1:(l++[s]).take l.length=l:=by rw[Jdb (Vv _),Yt]
 have t2:(l++[s]).drop (l.length+1)=[]:=J1b (by simp)
 have t3:(l++[s]).take j=l.take j:=Jdb h1
 rw[t1]at h4
 rw[t1,t2,t3,Wm]at h3
 refine⟨j,h1,?_,h4,λ h=>?_⟩
 ·unfold Atb
  rw[h2,h3]
 ·have:=h5 h
  rwa [Ve,Yc (by omega),← Ve]at this
def spl (l:List ByteArray) (s:ByteArray):List ByteArray:=bif Gfa l s then l else Atb l s
def Cwa {l:List ByteArray} {s y:ByteArray}:y∈spl l s↔y=s∨y∈l:=by
 unfold spl
 cases h:Gfa l s with
 |true=>
  have:=Ota.1 h
  exact⟨.inr,λ h=>h.elim (λ e=>e ▸ this) id⟩
 |false=>
  obtain⟨j,_,e,_⟩:=Eqa (l:=l) (s:=s)
  rw[cond_false,e,Vp,Vm]
  conv=>rhs;rw[← Wo j l,Vp]
  constructor
  ·rintro (h|h|h)
   ·exact .inr (.inl h)
   ·exact .inl h
   ·exact .inr (.inr h)
  ·rintro (h|h|h)
   ·exact .inr (.inl h)
   ·exact .inl h
   ·exact .inr (.inr h)
def D4b (l:List ByteArray) (s:ByteArray):(spl l s).length≤l.length+1:=by
 unfold spl
 cases Gfa l s with
 |true=>rw[cond_true];omega
 |false=>rw[cond_false,Ova];exact Vv _
def Z0 {l:List ByteArray} {s:ByteArray} (h:TS l):TS (spl l s):=by
 unfold spl
 cases hh:Gfa l s
 case true=>exact h
 have hn:s∉l:=λ c=>by rw[Ota.2 c]at hh;cases hh
 obtain⟨j,h1,e,h4,h5⟩:=Eqa (l:=l) (s:=s)
 rw[cond_false,e]
 have hs:∀ y∈l.take j,tlt y s=true:=by
  intro y hy
  by_cases hj:0<j
  ·have hlast:l.getD (j-1) On∈l:=A4 (by omega)
   have hlt:tlt (l.getD (j-1) On) s=true:=by
    cases hc:tlt (l.getD (j-1) On) s with
    |true=>rfl
    |false=>exact absurd (C0a hc (h5 hj) ▸ hlast) hn
   obtain⟨i,hi,rfl⟩:=Zz.1 hy
   rw[Vs]at hi
   rw[List.getElem_take]
   by_cases hij:i=j-1
   ·subst hij
    rwa [Ve,Vk (by omega),Yp]at hlt
   ·have:=Hpb.1 h i (j-1) (by omega) (by omega) (by omega)
    rw[Ve,Vk (by omega),Yp]at hlt
    exact O3 this hlt
  ·rw[show j=0 by omega,Htb]at hy;cases hy
 have hd:TS (l.drop j):=h.sublist (List.drop_sublist _ _)
 have ht:TS (l.take j):=h.sublist (Jzb _ _)
 exact Zd.2 ⟨ht,Wh.2 ⟨h4,hd⟩,λ a ha b hb=>by
  rcases Vm.1 hb with rfl|hb
  ·exact hs a ha
  ·exact O3 (hs a ha) (h4 b hb)⟩
def W3a (l:List ByteArray) (s:ByteArray) (hl:l.length≤5000000):Tot (λ k=>Eg k l s) (λ r=>r=spl l s):=by
 unfold Eg spl
 refine Hib (Oua l s (by omega)) ?_
 cases Gfa l s
 case true=>exact Hab rfl (H7b rfl)
 have loop:∀ (k:Nat) (x:List ByteArray),k<x.length→x.length≤5000001→Tot (λ n=>Fo n s x (k:Int)) (λ r=>r=(s,(Jva x k s).1,((Jva x k s).2:Int))):=by
  intro k
  induction k with
  |zero=>
   intro x hk hx
   refine Tot.succ ?_
   simp (disch:=omega) only [Fo,dF]
   exact H7b rfl
  |succ k ih=>
   intro x hk hx
   refine Tot.succ ?_
   have e1:((k+1:Nat):Int)-1=(k:Int):=by omega
   have e0:x.getD k (⟨#[]⟩:ByteArray)=x.getD k On:=rfl
   simp (disch:=omega) only [Fo,dT,w64,e1,Vb,e0,I8a]
   unfold Jva
   refine Hdb (λ h=>?_) (λ h=>?_)
   ·rw[h,cond_true]
    exact ih _ (by rw[Vy];omega) (by rw[Vy];omega)
   ·rw[h,cond_false]
    exact H7b rfl
 have n0:([]:List ByteArray).length=0:=rfl
 have n1:([s]:List ByteArray).length=1:=rfl
 have nl:(l++[s]).length=l.length+1:=by simp
 refine H9b rfl (Hfb (by rw[n0];omega) ?_)
 simp only[Vx]
 refine Hfb (by rw[n1];omega) ?_
 rw[nl,w64 (n:=((l.length+1:Nat):Int)-1) (by omega) (by omega),show ((l.length+1:Nat):Int)-1=(l.length:Int) by omega]
 refine Hib (loop l.length (l++[s]) (by omega) (by omega)) ?_
 obtain⟨i1,i2,_⟩:=Cpa l.length (l++[s]) s
 simp (disch:=omega) only [dT,Vb]
 exact H7b rfl

abbrev Evt:=Int×Int×ByteArray×List Int×Int×List Int
def Zaa (e:Evt):Prop:=Lo e.2.2.1∧e.2.2.2.1.length≤1000000000∧(-9223372036854775808≤e.2.2.2.2.1∧e.2.2.2.2.1≤9223372036854775807)∧e.2.2.2.2.2.length≤4000000000000
def Ux (l:List Int):List Bool:=l.map (· == 1)
def crN (n:Nod) (kp:List Bool):Nod:=(n.1,Rz n.2.1 kp,n.2.2)
def Fkb {n:Nod} {kp:List Bool} (hn:NG n):NG (crN n kp):=Gga hn (Lwa hn.g)
def Qta (w:Wld) (i:Nat) (s:ByteArray) (b:Int):Bool×Wld:=bif (D6a (w.2.2.1.getD i C3) s b).2 then (true,(w.1,w.2.1,w.2.2.1.set i (D6a (w.2.2.1.getD i C3) s b).1,w.2.2.2.1,w.2.2.2.2.1,spl w.2.2.2.2.2 s)) else (false,w)
def Q2 (w:Wld) (e:Evt) (i:Nat):Bool×Wld:=
 bif e.1==3 then Cta w i e.2.2.1 e.2.2.2.2.2 else bif e.1==4 then Cua w i e.2.2.2.2.2 else bif e.1==5 then Cva w i e.2.2.2.2.2 else
 bif e.1==6 then (true,wN w (w.2.2.1.set i (Glb (w.2.2.1.getD i C3)).1)) else
 bif e.1==7 then (true,wN w (w.2.2.1.set i (crN (w.2.2.1.getD i C3) (Ux e.2.2.2.2.2)))) else Qta w i e.2.2.1 e.2.2.2.2.1
def W4a (w:Wld) (e:Evt) (i:Nat) (hei:e.2.1=(i:Int)) (he:Zaa e) (hr:Hk w.2.1 w.1=true) (hn:NS w.2.2.1) (hi:i<w.2.2.1.length) (hsp:w.2.2.2.2.2.length≤2000000):
  Tot (λ k=>B8 k w e) (λ r=>r=Q2 w e i):=by
 have hni:=hn.get hi
 have e0:w.2.2.1.getD i ((0:Int),(([],[]),([],[])))=w.2.2.1.getD i C3:=rfl
 obtain⟨he1,he2,he3,he4⟩:=he
 unfold B8 Q2
 cases e.1==3 with
 |true=>
  rw[hei]
  refine Hab rfl (Hib (Z9a w i _ _ hr hn hi) ?_)
  exact H7b rfl
 |false=>
  refine H9b rfl ?_
  cases e.1==4 with
  |true=>
   rw[hei]
   refine Hab rfl (Hib (W0a w i _ (Mt hr) hn hi) ?_)
   exact H7b rfl
  |false=>
   refine H9b rfl ?_
   cases e.1==5 with
   |true=>
    rw[hei]
    refine Hab rfl (Hib (W1a w i _ (Mt hr) hn hi) ?_)
    exact H7b rfl
   |false=>
    refine H9b rfl ?_
    cases e.1==6 with
    |true=>
     refine Hab rfl ?_
     simp (disch:=omega) only [hei,dT,Vb,e0]
     refine Hib (Vma _ hni.g) ?_
     exact H7b rfl
    |false=>
     refine H9b rfl ?_
     cases e.1==7 with
     |true=>
      refine Hab rfl (H8b (Q:=λ r=>r=(Ux e.2.2.2.2.2,w,e)) ?_ ?_)
      ·refine Hgb (L:=λ k j (s:List Bool)=>Dw k s j w e) (Q:=λ r=>r=(Ux e.2.2.2.2.2,w,e)) e.2.2.2.2.2.length (λ j s=>s=Ux (e.2.2.2.2.2.take j)) ?_ ?_ 0 [] (Vq _) rfl
       ·rintro s rfl
        simp (disch:=omega) only [Dw,dF]
        exact H7b (by rw[Yt])
       ·rintro j s hj rfl next
        simp (disch:=omega) only [Dw,dT,Vb,w64]
        have hk:(Ux (e.2.2.2.2.2.take j)).length=j:=by unfold Ux;rw[We,Vs];omega
        refine Hfb (by rw[hk,Ihb];omega) (next _ ?_)
        unfold Ux
        rw[Wl hj,Hrb,Ve,Vk hj]
        rfl
      ·rintro r rfl
       simp (disch:=omega) only [hei,dT,Vb,e0]
       refine Hib (Vka _ _ hni.g (by unfold Ux;rw[We];exact he4)) ?_
       exact H7b rfl
     |false=>
      refine H9b rfl ?_
      simp (disch:=omega) only [hei,dT,Vb,e0]
      refine Hib (Cja _ _ _ (Se hni) he3.2 he3.1) ?_
      unfold Qta
      rw[cond_false,cond_false,cond_false,cond_false,cond_false]
      generalize D6a (w.2.2.1.getD i C3) e.2.2.1 e.2.2.2.2.1=q
      cases h:q.2 with
      |true=>
       refine Hab rfl (Hib (W3a _ _ (by omega)) ?_)
       exact H7b rfl
      |false=>exact H9b rfl (H7b rfl)
def Uy (w:Wld) (i wt:Int):Bool×Wld:=bif !(inR i 0 ((w.1.length:Int)-1)) then (false,w) else bif !(inR wt 1 1000) then (false,w) else
 (decide ((G9a w.2.1 (wgt w.1 i.toNat wt)).2≥0),(wgt w.1 i.toNat wt,(G9a w.2.1 (wgt w.1 i.toNat wt)).1,w.2.2))
def W5a (w:Wld) (i wt:Int) (hr:Hk w.2.1 w.1=true):Tot (λ k=>I8 k w i wt) (λ r=>r=Uy w i wt):=by
 have h12:=(Dc.1 (B5.1 hr).1).2.2.2
 unfold I8 Uy
 rw[w64 (n:=(w.1.length:Int)-1) (by omega) (by omega)]
 simp only[Pe,Vl]
 cases h1:inR i 0 ((w.1.length:Int)-1)
 ·exact Hab rfl (H7b rfl)
 refine H9b rfl ?_
 cases h2:inR wt 1 1000
 ·exact Hab rfl (H7b rfl)
 refine H9b rfl ?_
 obtain⟨i0,i1⟩:=Cc.1 h1
 obtain⟨w0,w1⟩:=Cc.1 h2
 simp (disch:=omega) only [dT]
 refine Hib (Vaa (r:=w.2.1) (l:=wgt w.1 i.toNat wt) (X5 hr (by omega) w0 w1)) ?_
 exact H7b rfl
def Goa (r:Int×Wld):Bool×Wld:=bif r.1 != 2 then (r.1 != 3,r.2) else (false,r.2)
def doW (w:Wld) (e:Evt):Bool×Wld:=
 bif e.1==1 then Goa (ask w e.2.2.1 ((0,0,0),false,e.2.2.2.1) e.2.2.2.2.1 e.2.2.2.2.2) else
 bif e.1==2 then Goa (ask w e.2.2.1 ((0,0,0),true,[]) e.2.2.2.2.1 e.2.2.2.2.2) else
 bif e.1==3||(e.1==4||(e.1==5||(e.1==6||(e.1==7||e.1==8)))) then (bif inR e.2.1 0 ((w.2.2.1.length:Int)-1) then Q2 w e e.2.1.toNat else (false,w)) else
 bif e.1==9 then Uy w e.2.1 e.2.2.2.2.1 else (false,w)
def Azb (w:Wld) (e:Evt) (he:Zaa e) (hr:Hk w.2.1 w.1=true) (hn:NS w.2.2.1) (hst:Fj w.2.2.2.1=true) (hw:w.2.2.2.2.1.length≤2000000) (hsp:w.2.2.2.2.2.length≤2000000):
  Tot (λ k=>Gx k w e) (λ r=>r=doW w e):=by
 have hnl:=hn.1
 have node:∀ {f:Nat→Option (Bool×Wld)} ,Tot (λ k=>(A9 e.2.1 0 (wrap .i64 ((length w.2.2.1:Int)-1))).bind λ r4=>cond r4 ((B8 k w e).bind λ r5=>some (r5.1,r5.2)) (some (false,w))) (λ r=>r=bif inR e.2.1 0 ((w.2.2.1.length:Int)-1) then Q2 w e e.2.1.toNat else (false,w)):=by
  intro f
  rw[w64 (n:=(w.2.2.1.length:Int)-1) (by omega) (by omega)]
  simp only[Pe,Vl]
  cases h1:inR e.2.1 0 ((w.2.2.1.length:Int)-1)
  ·exact H9b rfl (H7b rfl)
  obtain⟨i0,i1⟩:=Cc.1 h1
  refine Hab rfl (Hib (W4a w e e.2.1.toNat (by omega) he hr hn (by omega) hsp) ?_)
  exact H7b rfl
 have answer:∀ (q:Int×Wld),Tot (λ _=>cond (q.1 != 2) (some (q.1 != 3,q.2)) (some (false,q.2))) (λ r=>r=Goa q):=by
  intro q
  unfold Goa
  cases q.1 != 2<;>exact H7b rfl
 unfold Gx doW
 cases e.1==1 with
 |true=>
  refine Hab rfl (Hfb (by have:=he.2.1;rw[Vg];omega) (Hib (Vwa w e.2.2.1 ((0,0,0),false,e.2.2.2.1) e.2.2.2.2.1 e.2.2.2.2.2 hr hn hst he.1 (λ h=>by cases h) hw) ?_))
  exact answer _
 |false=>
  refine H9b rfl ?_
  cases e.1==2 with
  |true=>
   refine Hab rfl (Hib (Vwa w e.2.2.1 ((0,0,0),true,[]) e.2.2.2.2.1 e.2.2.2.2.2 hr hn hst he.1 (λ _=>rfl) hw) ?_)
   exact answer _
  |false=>
   refine H9b rfl ?_
   cases e.1==3
   case true=>exact Hab rfl (node (f:=λ _=>none))
   refine H9b rfl ?_
   cases e.1==4
   case true=>exact Hab rfl (node (f:=λ _=>none))
   refine H9b rfl ?_
   cases e.1==5
   case true=>exact Hab rfl (node (f:=λ _=>none))
   refine H9b rfl ?_
   cases e.1==6
   case true=>exact Hab rfl (node (f:=λ _=>none))
   refine H9b rfl ?_
   cases e.1==7
   case true=>exact Hab rfl (node (f:=λ _=>none))
   refine H9b rfl ?_
   cases e.1==8
   case true=>exact Hab rfl (node (f:=λ _=>none))
   refine H9b rfl ?_
   cases e.1==9 with
   |true=>
    refine Hab rfl (Hib (W5a w _ _ hr) ?_)
    exact H7b rfl
   |false=>exact H9b rfl (H7b rfl)

def Era {a b c:Stp} (h1:sle a b=false) (h2:sle b c=false):sle a c=false:=by
 cases h:sle a c
 ·rfl
 have n1:¬ _:=λ k=>by rw[T1.2 k]at h1;cases h1
 have n2:¬ _:=λ k=>by rw[T1.2 k]at h2;cases h2
 have h3:=T1.1 h
 omega
def X9 {a b:Stp} (h:sle a b=true):sle b a=false:=by
 cases h':sle b a
 ·rfl
 have h1:=T1.1 h
 have h2:=T1.1 h'
 omega
def Jma (ws:List Wri):Prop:=∀ x∈ws,Az x.1=true∧Ee x.2.1=true∧As x.2.1.2.2
def IsW (ws:List Wri) (s:ByteArray) (f:Fil):Prop:=∃ x∈ws,x.1=s∧x.2.1=f
def EO (ws:List Wri) (sp:List ByteArray) (s:ByteArray) (b:List Int):Prop:=∃ f,IsW ws s f∧(b=N1 f∨(s∈sp∧∃ n,n<8*(N1 f).length∧b=O8 (N1 f) n))
def ED (ws:List Wri) (sp:List ByteArray) (d:Dsk) (s:ByteArray):Prop:=
 (∀ b,gt d.1 s=some b→EO ws sp s b)∧(∀ b,gt d.2 s=some b→EO ws sp s b)∧
 (s∉sp→∀ b f,gt d.2 s=some b→Pf b=some f→∃ b' f',gt d.1 s=some b'∧Pf b'=some f'∧sle f'.1 f.1=false)
def DI (ws:List Wri) (sp:List ByteArray) (d:Dsk):Prop:=∀ s,ED ws sp d s
def HD (d:Dsk) (s:ByteArray) (st:Stp):Prop:=∃ b f,gt d.2 s=some b∧Pf b=some f∧sle f.1 st=false
def MO (sp:List ByteArray) (d d':Dsk):Prop:=∀ s,s∉sp→∀ st,HD d s st→HD d' s st
def IsW.good {ws:List Wri} (hw:Jma ws) {s:ByteArray} {f:Fil} (h:IsW ws s f):Az s=true∧Ee f=true∧As f.2.2:=by
 obtain⟨x,hx,rfl,rfl⟩:=h
 exact hw x hx
def EO.get {ws:List Wri} {sp:List ByteArray} (hw:Jma ws) {s:ByteArray} {b:List Int} (h:EO ws sp s b) {f:Fil} (hf:Pf b=some f):IsW ws s f∧b=N1 f:=by
 obtain⟨g,h1,h2⟩:=h
 obtain⟨_,g2,g3⟩:=h1.good hw
 rcases h2 with rfl|⟨_,n,hn,rfl⟩
 ·rw[Aua g2 g3]at hf
  cases hf
  exact⟨h1,rfl⟩
 ·rw[Yua g2 hn]at hf;cases hf
def EO.fine {ws:List Wri} {sp:List ByteArray} (hw:Jma ws) {s:ByteArray} {b:List Int} (h:EO ws sp s b) (hs:s∉sp):∃ f,Pf b=some f∧IsW ws s f:=by
 obtain⟨g,h1,h2⟩:=h
 obtain⟨_,g2,g3⟩:=h1.good hw
 rcases h2 with rfl|⟨h,_⟩
 ·exact⟨g,Aua g2 g3,h1⟩
 ·exact absurd h hs
def EO.mono {ws ws':List Wri} {sp sp':List ByteArray} (h1:∀ x∈ws,x∈ws') (h2:∀ s∈sp,s∈sp') {s:ByteArray} {b:List Int} (h:EO ws sp s b):EO ws' sp' s b:=by
 obtain⟨g,⟨x,hx,e⟩,h3⟩:=h
 refine⟨g,⟨x,h1 x hx,e⟩,?_⟩
 rcases h3 with h3|⟨h3,h4⟩
 ·exact .inl h3
 ·exact .inr ⟨h2 s h3,h4⟩
def ED.mono {ws ws':List Wri} {sp sp':List ByteArray} (h1:∀ x∈ws,x∈ws') (h2:∀ s∈sp,s∈sp') {d:Dsk} {s:ByteArray} (h:ED ws sp d s):ED ws' sp' d s:=
 ⟨λ b hb=>(h.1 b hb).mono h1 h2,λ b hb=>(h.2.1 b hb).mono h1 h2,λ hs=>h.2.2 (λ c=>hs (h2 s c))⟩
def DI.mono {ws ws':List Wri} {sp sp':List ByteArray} (h1:∀ x∈ws,x∈ws') (h2:∀ s∈sp,s∈sp') {d:Dsk} (h:DI ws sp d):DI ws' sp' d:=λ s=>(h s).mono h1 h2
def ED.same {ws:List Wri} {sp:List ByteArray} {d d':Dsk} {s:ByteArray} (h:ED ws sp d s) (e1:gt d'.1 s=gt d.1 s) (e2:gt d'.2 s=gt d.2 s):ED ws sp d' s:=by
 unfold ED
 rw[e1,e2]
 exact h
def HD.same {d d':Dsk} {s:ByteArray} {st:Stp} (h:HD d s st) (e2:gt d'.2 s=gt d.2 s):HD d' s st:=by
 unfold HD
 rw[e2]
 exact h
def MO.refl (sp:List ByteArray) (d:Dsk):MO sp d d:=λ _ _ _ h=>h
def MO.trans {sp:List ByteArray} {a b c:Dsk} (h1:MO sp a b) (h2:MO sp b c):MO sp a c:=λ s hs st h=>h2 s hs st (h1 s hs st h)
section
variable {ws:List Wri} {sp:List ByteArray} {d:Dsk} {s:ByteArray}
def ED.ge (h:ED ws sp d s) (hs:s∉sp) {st:Stp} (hh:HD d s st):∃ b f,gt d.1 s=some b∧Pf b=some f∧sle f.1 st=false:=by
 obtain⟨b,f,h1,h2,h3⟩:=hh
 obtain⟨b',f',h4,h5,h6⟩:=h.2.2 hs b f h1 h2
 exact⟨b',f',h4,h5,Era h6 h3⟩
def D5b (hd:An d=true) (h:DI ws sp d):DI ws sp (d.1,sy d s):=by
 intro t
 by_cases ht:s=t
 ·subst ht
  have e:gt (sy d s) s=gt d.1 s:=by rw[Lsa hd,if_pos rfl]
  refine⟨(h s).1,λ b hb=>(h s).1 b (by rw[← e];exact hb),λ hs b f hb hf=>⟨b,f,by rw[← e];exact hb,hf,N6 _⟩⟩
 ·exact(h t).same rfl (by show gt (sy d s) t=_;rw[Lsa hd,if_neg ht])
def Flb (hd:An d=true) (h:DI ws sp d):MO sp d (d.1,sy d s):=by
 intro t ht st hh
 by_cases hst:s=t
 ·subst hst
  obtain⟨b,f,h1,h2,h3⟩:=(h s).ge ht hh
  exact⟨b,f,by show gt (sy d s) s=_;rw[Lsa hd,if_pos rfl,h1],h2,h3⟩
 ·exact hh.same (by show gt (sy d s) t=_;rw[Lsa hd,if_neg hst])
def Gpb (hw:Jma ws) (hd:An d=true) (h:DI ws sp d) {f:Fil} (hf:IsW ws s f) (hn:∀ o,old d s=some o→sle o.1 f.1=true):DI ws sp (wr d.1 s (N1 f),d.2):=by
 intro t
 by_cases ht:s=t
 ·subst ht
  have e:gt (wr d.1 s (N1 f)) s=some (N1 f):=by rw[Lra (Nu hd),if_pos rfl]
  obtain⟨_,g2,g3⟩:=hf.good hw
  refine⟨λ b hb=>?_,(h s).2.1,λ hs b g hb hg=>⟨N1 f,f,e,Aua g2 g3,?_⟩⟩
  ·rw[show gt (wr d.1 s (N1 f)) s=some b from hb]at e
   cases e
   exact⟨f,hf,.inl rfl⟩
  ·obtain⟨b',f',k1,k2,k3⟩:=(h s).2.2 hs b g hb hg
   have:=hn f' (by unfold old;rw[k1];exact k2)
   exact Era (X9 this) k3
 ·exact(h t).same (by show gt (wr d.1 s (N1 f)) t=_;rw[Lra (Nu hd),if_neg ht]) rfl
def W6a (hw:Jma ws) (hd:DG d) (h:DI ws sp d) {f:Fil} {sure:Bool} (hf:IsW ws s f):DI ws sp (keep d s f sure).1∧MO sp d (keep d s f sure).1:=by
 obtain⟨g1,g2,g3⟩:=hf.good hw
 rw[Ixa hd.1 g1 g2]
 rcases Ena (f:=f) (sure:=sure) hd g1 with k|⟨o,_,_,k,hg,h3⟩|⟨h1,h2,k,hg,h3⟩
 ·rw[k];exact⟨h,MO.refl _ _⟩
 ·rcases h3 with⟨_,h3⟩|⟨_,h3⟩
  ·rw[h3];exact⟨h,MO.refl _ _⟩
  ·rw[h3];exact⟨D5b hd.1 h,Flb hd.1 h⟩
 ·have hw':=Gpb hw hd.1 h hf h1
  rcases h3 with⟨_,h3⟩|⟨_,h3⟩
  ·rw[h3];exact⟨hw',λ t _ st hh=>hh.same rfl⟩
  ·rw[h3];exact⟨D5b h2.1 hw',(show MO sp d (wr d.1 s (N1 f),d.2) from λ t _ st hh=>hh.same rfl).trans (Flb h2.1 hw')⟩
def W7a (hw:Jma ws) (hd:DG d) {f:Fil} (hf:IsW ws s f) (hc:(keep d s f true).2=0∨(keep d s f true).2=1):HD (keep d s f true).1 s f.1:=by
 obtain⟨g1,g2,g3⟩:=hf.good hw
 rw[Ixa hd.1 g1 g2]at hc ⊢
 obtain⟨o,g,b,ho,_,e,h1,h2,h3⟩:=Uva hd g1 g2 g3 hc
 rw[e]
 exact⟨b,g,by show gt (sy o s) s=_;rw[Lsa ho.1,if_pos rfl,h1],h2,h3⟩
def D6b (hd:DG d) (h:DI ws sp d) (kp:List Bool):DI ws sp (Rz d kp):=by
 intro t
 rcases Vha (d:=d) (kp:=kp) t with e|⟨e1,e2⟩
 ·rw[e];exact h t
 ·unfold ED
  rw[e1]
  have eo:∀ b,gt (Rz d kp).1 t=some b→EO ws sp t b:=by
   intro b hb
   rcases e2 with e2|e2
   ·exact(h t).1 b (by rw[← e2];exact hb)
   ·exact(h t).2.1 b (by rw[← e2];exact hb)
  exact⟨eo,eo,λ _ b f hb hf=>⟨b,f,hb,hf,N6 _⟩⟩
def D7b (hd:DG d) (h:DI ws sp d) (kp:List Bool):MO sp d (Rz d kp):=by
 intro t ht st hh
 rcases Vha (d:=d) (kp:=kp) t with e|⟨e1,e2⟩
 ·rw[e];exact hh
 ·unfold HD
  rw[e1]
  rcases e2 with e2|e2
  ·rw[e2];exact(h t).ge ht hh
  ·rw[e2];exact hh
def Zba (hw:Jma ws) (hd:DG d) (h:DI ws sp d):DI ws sp (O6 d).1∧MO sp d (O6 d).1:=by
 obtain⟨_,hc⟩:=Coa d.1 (d,0) hd
 have hc':∀ t,(t∈Gna d.1→gt (O6 d).1.1 t=none∧gt (O6 d).1.2 t=none)∧(t∉Gna d.1→gt (O6 d).1.1 t=gt d.1 t∧gt (O6 d).1.2 t=gt d.2 t):=hc
 have hb:∀ t,t∈Gna d.1→t∈sp:=by
  intro t ht
  obtain⟨b,h1,h2⟩:=(Yxa hd.1).1 ht
  by_cases hs:t∈sp
  ·exact hs
  ·obtain⟨f,hf,_⟩:=((h t).1 b h1).fine hw hs
   rw[hf]at h2;cases h2
 constructor
 ·intro t
  by_cases ht:t∈Gna d.1
  ·obtain⟨e1,e2⟩:=(hc' t).1 ht
   unfold ED
   rw[e1,e2]
   exact⟨λ b hb=>(by cases hb),λ b hb=>(by cases hb),λ _ b f hb=>(by cases hb)⟩
  ·obtain⟨e1,e2⟩:=(hc' t).2 ht
   exact(h t).same e1 e2
 ·intro t ht st hh
  exact hh.same ((hc' t).2 (λ c=>ht (hb t c))).2
def Fmb (hd:DG d) (h:DI ws sp d) (hs:Az s=true):DI ws sp (syD (rmD d s).1 s).1∧∀ t,t≠s→∀ st,HD d t st→HD (syD (rmD d s).1 s).1 t st:=by
 have hr:DI ws sp (rmD d s).1∨True := .inr trivial
 unfold rmD
 cases hg:gt d.1 s with
 |none=>
  have e:(bif (none:Option (List Int)).isSome then ((cut d.1 s,d.2),true) else (d,false)).1=d:=rfl
  rw[e]
  unfold syD
  by_cases hl:(sy d s).length≤60
  ·rw[decide_eq_true hl]
   exact⟨D5b hd.1 h,λ t ht st hh=>hh.same (by show gt (sy d s) t=_;rw[Lsa hd.1,if_neg (Itb ht)])⟩
  ·rw[decide_eq_false hl];exact⟨h,λ t ht st hh=>hh⟩
 |some b=>
  have e:(bif (some b:Option (List Int)).isSome then ((cut d.1 s,d.2),true) else (d,false)).1=(cut d.1 s,d.2):=rfl
  rw[e]
  have hd':An (cut d.1 s,d.2)=true:=E8.2 ⟨Z7 (E8.1 hd.1).1,(E8.1 hd.1).2⟩
  have e1:∀ t,gt (cut d.1 s) t=if s=t then none else gt d.1 t:=λ t=>X2 (Nu hd.1)
  have e2:∀ t,gt (sy (cut d.1 s,d.2) s) t=if s=t then none else gt d.2 t:=λ t=>by
   rw[Lsa hd']
   by_cases hst:s=t
   ·rw[if_pos hst,if_pos hst];show gt (cut d.1 s) s=none;rw[e1,if_pos rfl]
   ·rw[if_neg hst,if_neg hst]
  have hlen:(sy (cut d.1 s,d.2) s).length≤60:=by
   have:sy (cut d.1 s,d.2) s=cut d.2 s:=by
    unfold sy
    have:=e1 s
    rw[if_pos rfl]at this
    rw[show gt (cut d.1 s,d.2).1 s=none from this]
   rw[this]
   exact Zm Q1.length_le (Ai.1 (E8.1 hd.1).2).2.2
  unfold syD
  rw[decide_eq_true hlen]
  constructor
  ·intro t
   show ED ws sp (cut d.1 s,sy (cut d.1 s,d.2) s) t
   by_cases hst:s=t
   ·unfold ED
    dsimp only
    rw[e1,e2,if_pos hst,if_pos hst]
    exact⟨λ b hb=>(by cases hb),λ b hb=>(by cases hb),λ _ b f hb=>(by cases hb)⟩
   ·exact(h t).same (by show gt (cut d.1 s) t=_;rw[e1,if_neg hst]) (by show gt (sy (cut d.1 s,d.2) s) t=_;rw[e2,if_neg hst])
  ·intro t ht st hh
   exact hh.same (by show gt (sy (cut d.1 s,d.2) s) t=_;rw[e2,if_neg (Itb ht)])
def Fnb (hw:Jma ws) (hd:DG d) (h:DI ws sp d) {n:Int} (hl:(lkD d s).2=0) (hr:(D5a d s n).2=true) (sp':List ByteArray) (hsp:∀ t,t∈sp'↔t=s∨t∈sp):DI ws sp' (D5a d s n).1∧MO sp' d (D5a d s n).1∧∃ f,IsW ws s f:=by
 obtain⟨b,hb,hf⟩:=R9.1 (show lkD d s=((lkD d s).1,0) by rw[← hl])
 obtain⟨hW,e⟩:=((h s).1 b hb).get hw hf
 have hsub:∀ t∈sp,t∈sp':=λ t ht=>(hsp t).2 (.inr ht)
 generalize (lkD d s).1=f at *
 unfold D5a at hr ⊢
 rw[hb]at hr ⊢
 dsimp only at hr ⊢
 cases hin:inR n 0 (8*(b.length:Int)-1)
 ·rw[hin]at hr;cases hr
 rw[cond_true]
 obtain⟨n0,n1⟩:=Cc.1 hin
 have hn:n.toNat<8*(N1 f).length:=by rw[← e];omega
 have e1:∀ t,gt (wr d.1 s (O8 b n.toNat)) t=if s=t then some (O8 b n.toNat) else gt d.1 t:=λ t=>Lra (Nu hd.1)
 have e2:∀ t,gt (bif decide (gt d.2 s=some b) then wr d.2 s (O8 b n.toNat) else d.2) t=if s=t∧gt d.2 s=some b then some (O8 b n.toNat) else gt d.2 t:=by
  intro t
  by_cases hg:gt d.2 s=some b
  ·rw[decide_eq_true hg,cond_true,Lra (Qn hd.1)]
   by_cases hst:s=t
   ·rw[if_pos hst,if_pos ⟨hst,hg⟩]
   ·rw[if_neg hst,if_neg (λ c=>hst c.1)]
  ·rw[decide_eq_false hg,cond_false,if_neg (λ c=>hg c.2)]
 have hflip:EO ws sp' s (O8 b n.toNat):=⟨f,hW,.inr ⟨(hsp s).2 (.inl rfl),n.toNat,hn,by rw[e]⟩⟩
 refine⟨λ t=>?_,λ t ht st hh=>?_,f,hW⟩
 ·by_cases hst:s=t
  ·subst hst
   refine⟨λ x hx=>?_,λ x hx=>?_,λ c=>absurd ((hsp s).2 (.inl rfl)) c⟩
   ·have:=e1 s
    rw[if_pos rfl]at this
    rw[show gt (wr d.1 s (O8 b n.toNat)) s=some x from hx]at this
    cases this
    exact hflip
   ·have:=e2 s
    rw[show gt (bif decide (gt d.2 s=some b) then wr d.2 s (O8 b n.toNat) else d.2) s=some x from hx]at this
    by_cases hg:gt d.2 s=some b
    ·rw[if_pos ⟨rfl,hg⟩]at this
     cases this
     exact hflip
    ·rw[if_neg (λ c=>hg c.2)]at this
     exact((h s).2.1 x this.symm).mono (λ _ h=>h) hsub
  ·refine((h t).mono (λ _ h=>h) hsub).same ?_ ?_
   ·show gt (wr d.1 s (O8 b n.toNat)) t=_
    rw[e1,if_neg hst]
   ·show gt (bif decide (gt d.2 s=some b) then wr d.2 s (O8 b n.toNat) else d.2) t=_
    rw[e2,if_neg (λ c=>hst c.1)]
 ·have hst:s≠t:=λ c=>ht ((hsp t).2 (.inl c.symm))
  exact hh.same (by show gt (bif decide (gt d.2 s=some b) then wr d.2 s (O8 b n.toNat) else d.2) t=_;rw[e2,if_neg (λ c=>hst c.1)])
end

def NI (ws:List Wri) (sp:List ByteArray) (n:Nod):Prop:=NG n∧DI ws sp n.2.1∧(∀ r∈n.2.2.1,Dja ws r=true)∧∀ r∈n.2.2.2,Dja ws r=true
def KN (ns:List Nod) (s:ByteArray) (st:Stp):Prop:=∃ i,i<ns.length∧HD (ns.getD i C3).2.1 s st
def MS (sp:List ByteArray) (ns ns':List Nod):Prop:=∀ s,s∉sp→∀ st,KN ns s st→KN ns' s st
def Cxa {ws:List Wri} {r:Row}:Dja ws r=true↔∃ x∈ws,Y3 x.1 x.2.1=r:=by
 unfold Dja
 rw[J9b]
 exact⟨λ ⟨x,h1,h2⟩=>⟨x,h1,Jka.1 h2⟩,λ ⟨x,h1,h2⟩=>⟨x,h1,Jka.2 h2⟩⟩
def Esa {ws ws':List Wri} (h:∀ x∈ws,x∈ws') {r:Row} (hr:Dja ws r=true):Dja ws' r=true:=by
 obtain⟨x,h1,h2⟩:=Cxa.1 hr
 exact Cxa.2 ⟨x,h x h1,h2⟩
def Zca {ws:List Wri} {s:ByteArray} {f:Fil} (h:IsW ws s f):Dja ws (Y3 s f)=true:=by
 obtain⟨x,h1,rfl,rfl⟩:=h
 exact Cxa.2 ⟨x,h1,rfl⟩
def NI.mono {ws ws':List Wri} {sp sp':List ByteArray} (h1:∀ x∈ws,x∈ws') (h2:∀ s∈sp,s∈sp') {n:Nod} (h:NI ws sp n):NI ws' sp' n:=
 ⟨h.1,h.2.1.mono h1 h2,λ r hr=>Esa h1 (h.2.2.1 r hr),λ r hr=>Esa h1 (h.2.2.2 r hr)⟩
def NR (ws:List Wri) (sp:List ByteArray) (ns ns':List Nod):Prop:=(∀ n∈ns',NI ws sp n)∧ns'.map (·.1)=ns.map (·.1)∧MS sp ns ns'
def NR.refl {ws:List Wri} {sp:List ByteArray} {ns:List Nod} (h:∀ n∈ns,NI ws sp n):NR ws sp ns ns:=⟨h,rfl,λ _ _ _ h=>h⟩
def NR.len {ws:List Wri} {sp:List ByteArray} {ns ns':List Nod} (h:NR ws sp ns ns'):ns'.length=ns.length:=by
 have:=congrArg length h.2.1
 rwa [We,We]at this
def Ot {α:Type} {l:List α} {i j:Nat} {x d:α} (hj:j<l.length):(l.set i x).getD j d=if i=j then x else l.getD j d:=by
 rw[Ve,List.getElem?_set]
 by_cases h:i=j
 ·subst h
  rw[if_pos rfl,if_pos rfl,if_pos hj]
  rfl
 ·rw[if_neg h,if_neg h,Ve]
def M5a {ns:List Nod} {i:Nat} {n:Nod} (hi:i<ns.length) (h:n.1=(ns.getD i C3).1):(ns.set i n).map (·.1)=ns.map (·.1):=by
 refine K5b (by simp) (λ j h1 h2=>?_)
 rw[We,Vy]at h1
 rw[Jeb,Jeb,K6b]
 by_cases hij:i=j
 ·subst hij
  rw[if_pos rfl,h,Ve,Vk hi]
  rfl
 ·rw[if_neg hij]
def NR.set {ws:List Wri} {sp:List ByteArray} {ns ns':List Nod} (h:NR ws sp ns ns') {i:Nat} (hi:i<ns'.length) {n:Nod} (h1:NI ws sp n) (h2:n.1=(ns'.getD i C3).1) (h3:MO sp (ns'.getD i C3).2.1 n.2.1):NR ws sp ns (ns'.set i n):=by
 obtain⟨g1,g2,g3⟩:=h
 refine⟨λ m hm=>?_,by rw[M5a hi h2,g2],λ s hs st hk=>?_⟩
 ·rcases Xs hm with hm|rfl
  ·exact g1 m hm
  ·exact h1
 ·obtain⟨j,hj,hd⟩:=g3 s hs st hk
  refine⟨j,by rw[Vy];exact hj,?_⟩
  rw[Ot hj]
  by_cases hij:i=j
  ·subst hij;rw[if_pos rfl];exact h3 s hs st hd
  ·rw[if_neg hij];exact hd
section
variable {ws:List Wri} {sp:List ByteArray} {n:Nod} {s:ByteArray} {f:Fil}
def D8b (hw:Jma ws) (h:NI ws sp n) (hf:IsW ws s f) (sure:Bool):NI ws sp (U7 n s f sure).1∧(U7 n s f sure).1.1=n.1∧MO sp n.2.1 (U7 n s f sure).1.2.1:=by
 obtain⟨g1,g2,g3⟩:=hf.good hw
 obtain⟨h1,h2,h3,h4⟩:=h
 have hg:=Oha (sure:=sure) h1 g1 g2
 obtain⟨k1,k2⟩:=W6a (sure:=sure) hw h1.g h2 hf
 unfold U7 at hg ⊢
 cases hq:(n.2.2.2.length:Int)==60
 case true=>exact⟨⟨h1,h2,h3,h4⟩,rfl,MO.refl _ _⟩
 rw[hq]at hg
 refine⟨⟨hg,k1,h3,?_⟩,rfl,k2⟩
 show ∀ r∈bif (keep n.2.1 s f sure).2==0&&sure then n.2.2.2++[Y3 s f] else n.2.2.2,Dja ws r=true
 cases (keep n.2.1 s f sure).2==0&&sure
 ·exact h4
 intro r hr
 rcases Vp.1 hr with hr|hr
 ·exact h4 r hr
 ·rw[Vu.1 hr];exact Zca hf
def D9b (hw:Jma ws) (h:NI ws sp n) (hf:IsW ws s f) (hc:(U7 n s f true).2=0∨(U7 n s f true).2=1):HD (U7 n s f true).1.2.1 s f.1:=by
 unfold U7 at hc ⊢
 cases hq:((n.2.2.2.length:Int)==60) with
 |true=>rw[hq]at hc;rcases hc with hc|hc<;>cases hc
 |false=>rw[hq]at hc;exact W7a hw h.1.g hf hc
def Gqb (h:NI ws sp n) {l:List Row} (hl:Lk l=true) (hr:∀ r∈l,Dja ws r=true):NI ws sp (tk n l).2∧(tk n l).2.1=n.1∧(tk n l).2.2.1=n.2.1:=by
 obtain⟨h1,h2,h3,h4⟩:=h
 have hg:=Gnb h1 hl
 unfold tk at hg ⊢
 cases hq:decide ((Uz n.2.2.1 l).length > 60)
 case true=>exact⟨⟨h1,h2,h3,h4⟩,rfl,rfl⟩
 rw[hq]at hg
 exact⟨⟨hg,h2,λ r hr'=>(Nta hr').elim (h3 r) (hr r),h4⟩,rfl,rfl⟩
end
def Fob {ws:List Wri} {sp:List ByteArray} {ns:List Nod} {R:Int} {rc:List Int} {s:ByteArray} {f:Fil} {cs:List Int} {a:List Nod×Int×Int} {j:Nat} (hw:Jma ws) (hf:IsW ws s f)
  (h:NR ws sp ns a.1∧(s∉sp→a.2.2≥1→KN a.1 s f.1)∧a.2.2≥0) (hc:(cs.getD j 0).toNat<ns.length):
  NR ws sp ns (wst R rc s f cs a j).1∧(s∉sp→(wst R rc s f cs a j).2.2≥1→KN (wst R rc s f cs a j).1 s f.1)∧(wst R rc s f cs a j).2.2≥0:=by
 obtain⟨h1,h2,h3⟩:=h
 unfold wst
 cases decide (a.2.1<R)
 ·exact⟨h1,h2,h3⟩
 cases rch rc j==0
 case true=>exact⟨h1,h2,h3⟩
 rw[cond_true,cond_false]
 have hi:(cs.getD j 0).toNat<a.1.length:=by rw[h1.len];exact hc
 generalize (cs.getD j 0).toNat=i at *
 have hn:=h1.1 _ (A4 (d:=C3) hi)
 obtain⟨p1,p2,p3⟩:=D8b hw hn hf (rch rc j != 3)
 refine⟨h1.set hi p1 p2 p3,λ hs hg=>?_,?_⟩
 ·cases hr:rch rc j==1&&((U7 (a.1.getD i C3) s f (rch rc j != 3)).2==0||(U7 (a.1.getD i C3) s f (rch rc j != 3)).2==1) with
  |true=>
   rw[Va,Hqb,beq_iff_eq,beq_iff_eq,beq_iff_eq]at hr
   have e:(rch rc j != 3)=true:=by rw[hr.1];rfl
   rw[e]at hr ⊢
   refine⟨i,by rw[Vy];exact hi,?_⟩
   rw[Ot hi,if_pos rfl]
   exact D9b hw hn hf hr.2
  |false=>
   rw[hr]at hg
   obtain⟨m,hm,hd⟩:=h2 hs hg
   refine⟨m,by rw[Vy];exact hm,?_⟩
   rw[Ot hm]
   by_cases hij:i=m
   ·subst hij;rw[if_pos rfl];exact p3 s hs _ hd
   ·rw[if_neg hij];exact hd
 ·dsimp only
  cases rch rc j==1&&((U7 (a.1.getD i C3) s f (rch rc j != 3)).2==0||(U7 (a.1.getD i C3) s f (rch rc j != 3)).2==1)
  ·exact h3
  ·rw[cond_true];omega
def Fpb {ws:List Wri} {sp:List ByteArray} {w:Wld} {rc:List Int} {s:ByteArray} {f:Fil} (hw:Jma ws) (hf:IsW ws s f) (hn:∀ n∈w.2.2.1,NI ws sp n):
  NR ws sp w.2.2.1 (wrN w s f rc).1∧(s∉sp→(wrN w s f rc).2.2≥1→KN (wrN w s f rc).1 s f.1)∧(wrN w s f rc).2.2≥0:=
 Nv (λ _ (a:List Nod×Int×Int)=>NR ws sp w.2.2.1 a.1∧(s∉sp→a.2.2≥1→KN a.1 s f.1)∧a.2.2≥0) ⟨NR.refl hn,λ _ h=>absurd h (show ¬ (0:Int)≥1 by omega),Zs _⟩
  (λ j b hj hb=>Fob hw hf hb (by have:=S4 (A4 (d:=0) hj);omega))
def Fqb {ws:List Wri} {sp:List ByteArray} {ns:List Nod} {rc:List Int} {s:ByteArray} {f:Fil} {ps:List Int} {a:List Nod×Bool×Bool} {src j:Nat} (hw:Jma ws) (hf:IsW ws s f) (hsrc:src<ns.length)
  (h:NR ws sp ns a.1∧(a.2.1=false→a.1.getD src C3=ns.getD src C3∧(a.2.2=true→0<j→∃ i,i≠src∧i<ns.length∧HD (a.1.getD i C3).2.1 s f.1))) (hc:(ps.getD j 0).toNat<ns.length) (hc0:0≤ps.getD j 0):
  NR ws sp ns (pst (src:Int) s f rc ps a j).1∧((pst (src:Int) s f rc ps a j).2.1=false→(pst (src:Int) s f rc ps a j).1.getD src C3=ns.getD src C3∧((pst (src:Int) s f rc ps a j).2.2=true→0<j+1→∃ i,i≠src∧i<ns.length∧HD ((pst (src:Int) s f rc ps a j).1.getD i C3).2.1 s f.1)):=by
 obtain⟨h1,h2⟩:=h
 unfold pst
 cases hz:ps.getD j 0==(src:Int)
 case true=>exact⟨h1,λ c=>by cases c⟩
 have hne:(ps.getD j 0).toNat≠src:=by
  have:=beq_eq_false_iff_ne.1 hz
  omega
 cases hr:rch rc j != 1
 case true=>exact⟨h1,λ c=>⟨(h2 c).1,λ c'=>by cases c'⟩⟩
 rw[cond_false,cond_false]
 have hi:(ps.getD j 0).toNat<a.1.length:=by rw[h1.len];exact hc
 generalize (ps.getD j 0).toNat=i at *
 have hn:=h1.1 _ (A4 (d:=C3) hi)
 obtain⟨k1,k2⟩:=W6a (sure:=true) hw hn.1.g hn.2.1 hf
 refine⟨h1.set hi ⟨M4a hn.1,k1,hn.2.2⟩ rfl k2,λ c=>⟨?_,λ c' _=>?_⟩⟩
 ·show (a.1.set i _).getD src C3=_
  rw[Ot (by rw[h1.len];exact hsrc),if_neg hne]
  exact(h2 c).1
 ·refine⟨i,hne,hc,?_⟩
  show HD ((a.1.set i _).getD i C3).2.1 s f.1
  rw[Ot hi,if_pos rfl]
  refine W7a hw hn.1.g hf ?_
  cases hk:(keep (a.1.getD i C3).2.1 s f true).2 != 0&&(keep (a.1.getD i C3).2.1 s f true).2 != 1 with
  |true=>
   have:(bif (keep (a.1.getD i C3).2.1 s f true).2 != 0&&(keep (a.1.getD i C3).2.1 s f true).2 != 1 then false else a.2.2)=true:=c'
   rw[hk]at this
   cases this
  |false=>
   rw[Kbb,bne,bne,Wi,Wi,beq_iff_eq,beq_iff_eq]at hk
   exact hk
def Frb {ws:List Wri} {sp:List ByteArray} {w:Wld} {rc:List Int} {s:ByteArray} {i:Nat} (hw:Jma ws) (hn:∀ n∈w.2.2.1,NI ws sp n) (hi:i<w.2.2.1.length) (hf:IsW ws s (lkD (w.2.2.1.getD i C3).2.1 s).1):
  NR ws sp w.2.2.1 (puN w i s rc).1∧((puN w i s rc).2.1=false→(puN w i s rc).1.getD i C3=w.2.2.1.getD i C3∧((puN w i s rc).2.2=true→0<(Pn w s).length→∃ j,j≠i∧j<w.2.2.1.length∧HD ((puN w i s rc).1.getD j C3).2.1 s (lkD (w.2.2.1.getD i C3).2.1 s).1.1)):=
 Nv (λ n (a:List Nod×Bool×Bool)=>NR ws sp w.2.2.1 a.1∧(a.2.1=false→a.1.getD i C3=w.2.2.1.getD i C3∧(a.2.2=true→0<n→∃ j,j≠i∧j<w.2.2.1.length∧HD (a.1.getD j C3).2.1 s (lkD (w.2.2.1.getD i C3).2.1 s).1.1))) ⟨NR.refl hn,λ _=>⟨rfl,λ _ c=>absurd c (Nat.lt_irrefl _)⟩⟩
  (λ j b hj hb=>Fqb hw hf hi hb (by have:=Tz (A4 (d:=0) hj);omega) (Tz (A4 (d:=0) hj)).1)
def W8a {w:Wld} {s:ByteArray} (hr:Hk w.2.1 w.1=true) (hid:w.2.2.1.map (·.1)=w.1.map (·.1)):0<(Pn w s).length:=by
 obtain⟨_,p2,p3⟩:=Uv hr s
 have h5:=(B5.1 hr).2.1
 obtain⟨id,hidm⟩:=Jbb (l:=X6 w.2.1 s) (by omega)
 have:=T9.1 (p3 id hidm)
 rw[← hid]at this
 obtain⟨n,hn,rfl⟩:=Zc.1 this
 obtain⟨j,hj,rfl⟩:=Zz.1 hn
 have hm:(j:Int)∈Pn w s:=Gla.2 ⟨j,hj,by rw[Ve,Vk hj];exact hidm,rfl⟩
 exact Ifb hm
def Zda {ws:List Wri} {sp:List ByteArray} {w:Wld} {rc:List Int} {s:ByteArray} {i:Nat} (hw:Jma ws) (hn:∀ n∈w.2.2.1,NI ws sp n) (hi:i<w.2.2.1.length) (hr:Hk w.2.1 w.1=true) (hid:w.2.2.1.map (·.1)=w.1.map (·.1)):
  ∃ ns,(Cta w i s rc).2=wN w ns∧NR ws sp w.2.2.1 ns:=by
 have hni:=hn _ (A4 (d:=C3) hi)
 unfold Cta
 cases hl:(lkD (w.2.2.1.getD i C3).2.1 s).2 != 0
 case true=>exact⟨w.2.2.1,rfl,NR.refl hn⟩
 rw[bne,Wi,beq_iff_eq]at hl
 obtain⟨b,hb,hg⟩:=R9.1 (show lkD (w.2.2.1.getD i C3).2.1 s=((lkD (w.2.2.1.getD i C3).2.1 s).1,0) from by rw[← hl])
 have hf:IsW ws s (lkD (w.2.2.1.getD i C3).2.1 s).1:=(((hni.2.1 s).1 b hb).get hw hg).1
 obtain⟨h1,h2⟩:=Frb (rc:=rc) hw hn hi hf
 refine⟨_,rfl,?_⟩
 cases hc:(puN w i s rc).2.2&&!(puN w i s rc).2.1
 ·exact h1
 rw[Va,Vw]at hc
 obtain⟨h3,h4⟩:=h2 hc.2
 obtain⟨j,hj,hjl,hd⟩:=h4 hc.1 (W8a hr hid)
 rw[cond_true,h3]
 obtain⟨g1,_,_⟩:=hf.good hw
 have hi':i<(puN w i s rc).1.length:=by rw[h1.len];exact hi
 obtain⟨o1,o2⟩:=Fmb (s:=s) hni.1.g hni.2.1 g1
 refine⟨λ m hm=>?_,by rw[M5a hi' (by rw[h3];rfl),h1.2.1],λ t ht st hk=>?_⟩
 ·rcases Xs hm with hm|rfl
  ·exact h1.1 m hm
  ·exact⟨Awb hni.1 g1,o1,hni.2.2⟩
 ·obtain⟨m,hm,hh⟩:=h1.2.2 t ht st hk
  by_cases hmi:m=i
  ·subst hmi
   rw[h3]at hh
   by_cases hts:t=s
   ·subst hts
    obtain⟨b',f',e1,e2,e3⟩:=(hni.2.1 t).ge ht hh
    rw[hb]at e1
    cases e1
    rw[hg]at e2
    cases e2
    obtain⟨c,g,k1,k2,k3⟩:=hd
    refine⟨j,by rw[Vy,h1.len];exact hjl,?_⟩
    rw[Ot (by rw[h1.len];exact hjl),if_neg (Itb hj)]
    exact⟨c,g,k1,k2,Era k3 e3⟩
   ·refine⟨m,by rw[Vy];exact hm,?_⟩
    rw[Ot hm,if_pos rfl]
    exact o2 t hts st hh
  ·refine⟨m,by rw[Vy];exact hm,?_⟩
   rw[Ot hm,if_neg (Itb hmi)]
   exact hh
def P0a {ws:List Wri} {sp:List ByteArray} {w:Wld} {src:Int} {l:List Row} {self:Bool} {rc:List Int} (hn:∀ n∈w.2.2.1,NI ws sp n) (hl:Lk l=true) (hr:∀ r∈l,Dja ws r=true):NR ws sp w.2.2.1 (Nj w src l self rc).1:=by
 refine Nv (λ _ (a:List Nod×Bool)=>NR ws sp w.2.2.1 a.1) (NR.refl hn) (λ j b hj hb=>?_)
 have hc:=Pp (A4 (d:=0) hj)
 unfold gst
 cases (Iq w).getD j 0==src&&!self
 case true=>exact hb
 cases rch rc j != 1
 case true=>exact hb
 have hi:((Iq w).getD j 0).toNat<b.1.length:=by rw[hb.len];omega
 obtain⟨t1,t2,t3⟩:=Gqb (hb.1 _ (A4 (d:=C3) hi)) hl hr
 exact hb.set hi t1 t2 (by rw[t3];exact MO.refl _ _)
def Zea {ws:List Wri} {sp:List ByteArray} {w:Wld} {rc:List Int} {i:Nat} (hn:∀ n∈w.2.2.1,NI ws sp n) (hi:i<w.2.2.1.length):∃ ns,(Cua w i rc).2=wN w ns∧NR ws sp w.2.2.1 ns:=by
 have hni:=hn _ (A4 (d:=C3) hi)
 have hl:=(Cj.1 hni.1.1).2.2.2.1
 unfold Cua
 cases ((w.2.2.1.getD i C3).2.2.1.length:Int)==0
 case true=>exact⟨w.2.2.1,rfl,NR.refl hn⟩
 refine⟨_,rfl,?_⟩
 have hg:NR ws sp w.2.2.1 (Sf w i rc).1:=P0a hn hl hni.2.2.1
 cases (Sf w i rc).2&&!(Oq (Iq (wN w (Sf w i rc).1)) (i:Int))
 ·exact hg
 have hi':i<(Sf w i rc).1.length:=by rw[hg.len];exact hi
 have hm:=hg.1 _ (A4 (d:=C3) hi')
 exact hg.set hi' ⟨Oza hm.1,hm.2.1,(λ _ h=>nomatch h),hm.2.2.2⟩ rfl (MO.refl _ _)
def Zfa {ws:List Wri} {sp:List ByteArray} {w:Wld} {rc:List Int} {i:Nat} (hn:∀ n∈w.2.2.1,NI ws sp n) (hi:i<w.2.2.1.length):∃ ns,(Cva w i rc).2=wN w ns∧NR ws sp w.2.2.1 ns:=by
 have hni:=hn _ (A4 (d:=C3) hi)
 obtain⟨hq,_,_,_,hq60⟩:=Cj.1 hni.1.1
 unfold Cva
 cases ((w.2.2.1.getD i C3).2.2.2.length:Int)==0
 case true=>exact⟨w.2.2.1,rfl,NR.refl hn⟩
 refine⟨_,rfl,?_⟩
 have hg:NR ws sp w.2.2.1 (Tc w i rc).1:=P0a hn (S6 hq) (λ r hr=>hni.2.2.2 r (I5b hr))
 cases (Tc w i rc).2
 ·exact hg
 have hi':i<(Tc w i rc).1.length:=by rw[hg.len];exact hi
 have hm:=hg.1 _ (A4 (d:=C3) hi')
 exact hg.set hi' ⟨Ayb hm.1 (λ r hr=>hq r (Zn hr)) (by rw[Wd];omega),hm.2.1,hm.2.2.1,λ r hr=>hni.2.2.2 r (Zn hr)⟩ rfl (MO.refl _ _)

structure WI (w:Wld):Prop where
 ring:Hk w.2.1 w.1=true
 ids:w.2.2.1.map (·.1)=w.1.map (·.1)
 nodes:∀ n∈w.2.2.1,NI w.2.2.2.2.1 w.2.2.2.2.2 n
 clk:Fj w.2.2.2.1=true
 wlen:w.2.2.2.2.1.length≤200
 wok:Jma w.2.2.2.2.1
 wge:∀ x∈w.2.2.2.2.1,sle w.2.2.2.1 x.2.1.1=false
 asc:w.2.2.2.2.1.Pairwise (λ a b=>sle a.2.1.1 b.2.1.1=true)
 kept:∀ x∈w.2.2.2.2.1,x.2.2=true→x.1∉w.2.2.2.2.2→KN w.2.2.1 x.1 x.2.1.1
 sps:TS w.2.2.2.2.2
 spw:∀ s∈w.2.2.2.2.2,∃ x∈w.2.2.2.2.1,x.1=s
theorem Grb:LawfulBEq ByteArray := { eq_of_beq:=λ {a b} h=>Lj.1 (by rw[← Fva];exact h),rfl:=λ {a}=>by rw[Fva];exact Lj.2 rfl }
def Jna:∀ (p q:List ByteArray),p.Nodup→(∀ x∈p,x∈q)→p.length≤q.length
 |[],_,_,_=>Vq _
 |x::p,q,h,hs=>by
  haveI:=Grb
  obtain⟨h1,h2⟩:=Yu.1 h
  have hx:=hs x Yk
  have hlen:(q.erase x).length=q.length-1:=Irb hx
  have hpos:=Ifb hx
  have:=Jna p (q.erase x) h2 (λ y hy=>(Jgb (λ c=>by subst c;exact h1 hy)).2 (hs y (Vj _ hy)))
  rw[Vc]
  omega
namespace WI
variable {w:Wld}
def splen (h:WI w):w.2.2.2.2.2.length≤200:=by
 have hn:w.2.2.2.2.2.Nodup:=h.sps.imp (λ {a b} hab e=>by subst e;rw[Lm]at hab;cases hab)
 have:=Jna _ (w.2.2.2.2.1.map (·.1)) hn (λ s hs=>by
  obtain⟨x,hx,e⟩:=h.spw s hs
  exact Zc.2 ⟨x,hx,e⟩)
 rw[We]at this
 have:=h.wlen
 omega
def nlen (h:WI w):w.2.2.1.length=w.1.length:=by
 have:=congrArg length h.ids
 rwa [We,We]at this
def dlen (h:WI w):1≤w.1.length∧w.1.length≤12:=(Dc.1 (B5.1 h.ring).1).2.2
def ns (h:WI w):NS w.2.2.1:=⟨by have:=h.nlen;have:=h.dlen;omega,λ n hn=>(h.nodes n hn).1⟩
def win (h:WI w):WIn w:=by
 have h1:=h.nlen
 have h2:=h.dlen
 have h3:=h.wlen
 have h4:=h.splen
 refine⟨Mt h.ring,by omega,⟨by omega,λ n hn=>Se (h.nodes n hn).1⟩,⟨by omega,λ x hx=>J8 (h.wok x hx).1⟩,by omega,λ s hs=>?_⟩
 obtain⟨x,hx,e⟩:=h.spw s hs
 rw[← e]
 exact J8 (h.wok x hx).1
def other (h:WI w) {ns:List Nod} (hn:NR w.2.2.2.2.1 w.2.2.2.2.2 w.2.2.1 ns):WI (wN w ns):=
 ⟨h.ring,hn.2.1.trans h.ids,hn.1,h.clk,h.wlen,h.wok,h.wge,h.asc,λ x hx hk hs=>hn.2.2 _ hs _ (h.kept x hx hk hs),h.sps,h.spw⟩
def other' (h:WI w) {r:Bool×Wld} (hr:∃ ns,r.2=wN w ns∧NR w.2.2.2.2.1 w.2.2.2.2.2 w.2.2.1 ns):WI r.2:=by
 obtain⟨ns,e,hn⟩:=hr
 rw[e]
 exact h.other hn
def write (h:WI w) {s:ByteArray} {f:Fil} {rc:List Int} (hs:Az s=true) (hf:Ee f=true) (hb:As f.2.2) (hc:sle w.2.2.2.1 f.1=true) (hl:w.2.2.2.2.1.length<200):WI (X8 (w.1,w.2.1,w.2.2.1,f.1,w.2.2.2.2) s f rc).2:=by
 obtain⟨g1,g2,g3⟩:=Fpb (ws:=w.2.2.2.2.1++[(s,f,decide ((wrN (w.1,w.2.1,w.2.2.1,f.1,w.2.2.2.2) s f rc).2.2≥quo w.2.1.1))]) (sp:=w.2.2.2.2.2) (w:=(w.1,w.2.1,w.2.2.1,f.1,w.2.2.2.2)) (rc:=rc) (s:=s) (f:=f)
  (λ x hx=>by
   rcases Vp.1 hx with hx|hx
   ·exact h.wok x hx
   ·rw[Vu.1 hx];exact⟨hs,hf,hb⟩)
  ⟨_,Vp.2 (.inr (Vu.2 rfl)),rfl,rfl⟩
  (λ n hn=>(h.nodes n hn).mono (λ x hx=>Vp.2 (.inl hx)) (λ _ h=>h))
 unfold X8
 generalize wrN (w.1,w.2.1,w.2.2.1,f.1,w.2.2.2.2) s f rc=a at *
 have hq:quo w.2.1.1≥1:=by
  have:=(B5.1 h.ring).2.1
  unfold quo
  omega
 exact {
  ring:=h.ring
  ids:=g1.2.1.trans h.ids
  nodes:=g1.1
  clk:=(Ke.1 hf).1
  wlen:=by show (w.2.2.2.2.1++[_]).length≤200;rw[Vd];simp only[Vc,Vg];omega
  wok:=λ x hx=>by
   rcases Vp.1 hx with hx|hx
   ·exact h.wok x hx
   ·rw[Vu.1 hx];exact⟨hs,hf,hb⟩
  wge:=λ x hx=>by
   rcases Vp.1 hx with hx|hx
   ·exact Era (X9 hc) (h.wge x hx)
   ·rw[Vu.1 hx];exact N6 _
  asc:=Zd.2 ⟨h.asc,J0b _ _,λ x hx y hy=>by
   rw[Vu.1 hy]
   have:=h.wge x hx
   cases hxy:sle x.2.1.1 f.1
   case true=>rfl
   have:=Era this hxy
   rw[this]at hc
   cases hc⟩
  kept:=λ x hx hk hsp=>by
   rcases Vp.1 hx with hx|hx
   ·exact g1.2.2 _ hsp _ (h.kept x hx hk hsp)
   ·rw[Vu.1 hx]at hk hsp ⊢
    have hk':a.2.2≥quo w.2.1.1:=of_decide_eq_true hk
    exact g2 hsp (by omega)
  sps:=h.sps
  spw:=λ s hs=>by
   obtain⟨x,hx,e⟩:=h.spw s hs
   exact⟨x,Vp.2 (.inl hx),e⟩ }
def ask (h:WI w) {s:ByteArray} {f:Fil} {t:Int} {rc:List Int} (hb:As f.2.2) (hd:f.2.1=true→f.2.2=[]):WI (ask w s f t rc).2:=by
 unfold Vf.ask
 cases hs:Az s
 ·exact h
 rw[Yv,cond_false]
 by_cases hl:(f.2.2.length:Int) > 200
 ·rw[decide_eq_true hl];exact h
 ·rw[decide_eq_false hl,cond_false]
  cases inR t 0 1000000000
  ·exact h
  rw[Yv,cond_false]
  cases hw:(w.2.2.2.2.1.length:Int)==200
  case true=>exact h
  rw[cond_false]
  have hw':=beq_eq_false_iff_ne.1 hw
  have hwl:=h.wlen
  obtain⟨n1,n2⟩:=X7 h.clk t 0
  cases he:(L6 w.2.2.2.1 t 0).1==w.2.2.2.1.1&&((L6 w.2.2.2.1 t 0).2.1==w.2.2.2.1.2.1&&(L6 w.2.2.2.1 t 0).2.2==w.2.2.2.1.2.2)
  case true=>exact h
  rw[cond_false]
  have hlt:sle w.2.2.2.1 (L6 w.2.2.2.1 t 0)=true:=by
   rcases n2 with n2|n2
   ·rw[n2,beq_self_eq_true,beq_self_eq_true,beq_self_eq_true]at he;cases he
   ·exact n2
  exact h.write (f:=(L6 w.2.2.2.1 t 0,f.2)) hs (Ke.2 ⟨n1,by show f.2.2.length≤200;omega,hd⟩) hb hlt (by omega)
def rot (h:WI w) {i:Nat} (hi:i<w.2.2.1.length) {s:ByteArray} {b:Int}:WI (Qta w i s b).2:=by
 have hni:=h.nodes _ (A4 (d:=C3) hi)
 unfold Qta
 cases hr:(D6a (w.2.2.1.getD i C3) s b).2
 ·exact h
 have hg:=Uxa (s:=s) (b:=b) hni.1
 unfold D6a at hr hg ⊢
 cases hc:Mr (w.2.2.1.getD i C3)&&((lkD (w.2.2.1.getD i C3).2.1 s).2==0&&(D5a (w.2.2.1.getD i C3).2.1 s b).2)
 ·rw[hc]at hr;cases hr
 rw[hc]at hg
 rw[Va,Va,beq_iff_eq]at hc
 obtain⟨d1,d2,f,hf⟩:=Fnb h.wok hni.1.g hni.2.1 hc.2.1 hc.2.2 (spl w.2.2.2.2.2 s) (λ t=>Cwa)
 have hsub:∀ t∈w.2.2.2.2.2,t∈spl w.2.2.2.2.2 s:=λ t ht=>Cwa.2 (.inr ht)
 have hN:NR w.2.2.2.2.1 (spl w.2.2.2.2.2 s) w.2.2.1 (w.2.2.1.set i ((w.2.2.1.getD i C3).1,(D5a (w.2.2.1.getD i C3).2.1 s b).1,(w.2.2.1.getD i C3).2.2)):=
  (NR.refl (λ n hn=>(h.nodes n hn).mono (λ _ h=>h) hsub)).set hi ⟨hg,d1,hni.2.2⟩ rfl d2
 exact {
  ring:=h.ring
  ids:=hN.2.1.trans h.ids
  nodes:=hN.1
  clk:=h.clk
  wlen:=h.wlen
  wok:=h.wok
  wge:=h.wge
  asc:=h.asc
  kept:=λ x hx hk hs=>hN.2.2 _ hs _ (h.kept x hx hk (λ c=>hs (hsub _ c)))
  sps:=Z0 h.sps
  spw:=λ t ht=>by
   rcases Cwa.1 ht with rfl|ht
   ·obtain⟨x,hx,e,_⟩:=hf
    exact⟨x,hx,e⟩
   ·exact h.spw t ht }
def node (h:WI w) {i:Nat} (hi:i<w.2.2.1.length) {e:Evt}:WI (Q2 w e i).2:=by
 have hni:=h.nodes _ (A4 (d:=C3) hi)
 unfold Q2
 cases e.1==3
 case true=>exact h.other' (Zda h.wok h.nodes hi h.ring h.ids)
 cases e.1==4
 case true=>exact h.other' (Zea h.nodes hi)
 cases e.1==5
 case true=>exact h.other' (Zfa h.nodes hi)
 cases e.1==6 with
 |true=>
  obtain⟨c1,c2⟩:=Zba h.wok hni.1.g hni.2.1
  exact h.other ((NR.refl h.nodes).set hi ⟨Aub hni.1,c1,hni.2.2⟩ rfl c2)
 |false=>
  cases e.1==7 with
  |true=>exact h.other ((NR.refl h.nodes).set hi ⟨Fkb hni.1,D6b hni.1.g hni.2.1 _,hni.2.2⟩ rfl (D7b hni.1.g hni.2.1 _))
  |false=>exact h.rot hi
def weigh (h:WI w) {i t:Int}:WI (Uy w i t).2:=by
 unfold Uy
 cases h1:inR i 0 ((w.1.length:Int)-1)
 ·exact h
 cases h2:inR t 1 1000
 ·exact h
 obtain⟨i0,i1⟩:=Cc.1 h1
 obtain⟨w0,w1⟩:=Cc.1 h2
 exact⟨(Aza (X5 h.ring (by omega) w0 w1)).1,h.ids.trans (Gba _ _ _).symm,h.nodes,h.clk,h.wlen,h.wok,h.wge,h.asc,h.kept,h.sps,h.spw⟩
def ev (h:WI w) {e:Evt} (hb:As e.2.2.2.1):WI (doW w e).2:=by
 have ae:∀ {q:Int×Wld},WI q.2→WI (Goa q).2:=λ {q} hq=>by
  unfold Goa
  cases q.1 != 2<;>exact hq
 unfold doW
 cases e.1==1
 case true=>exact ae (h.ask hb (λ c=>by cases c))
 cases e.1==2
 case true=>exact ae (h.ask Oo (λ _=>rfl))
 cases e.1==3||(e.1==4||(e.1==5||(e.1==6||(e.1==7||e.1==8)))) with
 |true=>
  cases hi:inR e.2.1 0 ((w.2.2.1.length:Int)-1)
  ·exact h
  have:=Cc.1 hi
  exact h.node (by omega)
 |false=>
  cases e.1==9 with
  |true=>exact h.weigh
  |false=>exact h
end WI

def H0b (l:List Dev) (last:Int):Prop:=l.Pairwise (λ a b=>a.1<b.1)∧∀ d∈l,(0≤d.1∧d.1≤last)∧(0≤d.2.1∧d.2.1≤20)∧1≤d.2.2∧d.2.2≤1000
def W9a (z:Int) (hz:1≤z∧z≤20):∀ (n:Nat) (i:Int) (l:List Dev) (last:Int) (c:Cur),i=n→n≤6→E9 c→H0b l last→0≤last→last+2*n≤12→l.length+n≤6→
  Tot (λ k=>I9 k l z last i c) (λ r=>(∃ last,H0b r.1 last∧last≤20)∧r.1.length=l.length+n∧E9 r.2):=by
 intro n
 induction n with
 |zero=>
  rintro i l last c rfl _ hc h h0 h1 _
  refine Tot.succ ?_
  simp (disch:=omega) only [I9,dF]
  exact H7b ⟨⟨last,h,by omega⟩,rfl,hc⟩
 |succ n ih=>
  rintro i l last c rfl hn hc h h0 h1 hl
  refine Tot.succ ?_
  simp (disch:=omega) only [I9,dT]
  obtain⟨x,c1,e1,hx,k1⟩:=Mb c hc [1,1,2] (by decide) (by decide)
  obtain⟨y,c2,e2,y0,y1,_,k2⟩:=Ay c1 k1 z (by omega)
  obtain⟨v,c3,e3,hv,k3⟩:=Mb c2 k2 [1,1,1,2,10,100] (by decide) (by decide)
  have y1:=y1 (by omega)
  have hx':1≤x∧x≤2:=by
   simp only[Vm,Zk,or_false]at hx
   omega
  have hv':1≤v∧v≤1000:=by
   simp only[Vm,Zk,or_false]at hv
   omega
  refine Hib (Hjb (Q:=λ r=>r=(x,c1)) e1 rfl) ?_
  refine Hib (Hjb (Q:=λ r=>r=(y,c2)) e2 rfl) ?_
  refine Hib (Hjb (Q:=λ r=>r=(v,c3)) e3 rfl) ?_
  simp (disch:=omega) only [w64]
  refine Hfb (by simp only[Vc,Vg];omega) ?_
  refine(ih _ (l++[(last+x,y,v)]) (last+x) c3 (by omega) (by omega) k3 ⟨?_,?_⟩ (by omega) (by omega) (by rw[Vd];simp only[Vc,Vg];omega)).mono ?_
  ·refine Zd.2 ⟨h.1,J0b _ _,λ a ha b hb=>?_⟩
   rw[Vu.1 hb]
   have:=(h.2 a ha).1.2
   show a.1<last+x
   omega
  ·intro d hd
   rcases Vp.1 hd with hd|hd
   ·obtain⟨⟨a1,a2⟩,a3⟩:=h.2 d hd
    exact⟨⟨a1,by omega⟩,a3⟩
   ·rw[Vu.1 hd]
    exact⟨⟨by show 0≤last+x;omega,Zs _⟩,⟨y0,by show y≤20;omega⟩,hv'⟩
  ·rintro r ⟨g1,g2,g3⟩
   refine⟨g1,?_,g3⟩
   rw[g2,Vd]
   simp only[Vc,Vg]
   omega
def Qua (c:Cur) (hc:E9 c):Tot (λ k=>Hq k c) (λ r=>Ms r.1=true∧(2≤r.1.length∧r.1.length≤6)∧E9 r.2):=by
 unfold Hq
 obtain⟨x,c1,e1,x0,x1,_,k1⟩:=Ay c hc 4 (by decide)
 obtain⟨y,c2,e2,y0,y1,_,k2⟩:=Ay c1 k1 5 (by decide)
 have x1:=x1 (by decide)
 have y1:=y1 (by decide)
 refine Hib (Hjb (Q:=λ r=>r=(x,c1)) e1 rfl) ?_
 refine Hib (Hjb (Q:=λ r=>r=(y,c2)) e2 rfl) ?_
 simp (disch:=omega) only [w64]
 refine H8b (W9a (1+x) (by omega) (2+y).toNat (2+y) [] 0 c2 (by omega) (by omega) k2 ⟨List.Pairwise.nil,λ d hd=>(nomatch hd)⟩ (Zs _) (by omega) (by simp only[Vg];omega)) ?_
 rintro r ⟨⟨last,g1,g2⟩,g3,g4⟩
 rw[Vg]at g3
 exact H7b ⟨Dc.2 ⟨g1.1,λ d hd=>O5.2 ⟨⟨(g1.2 d hd).1.1,by have:=(g1.2 d hd).1.2;omega⟩,(g1.2 d hd).2⟩,by dsimp only;omega,by dsimp only;omega⟩,⟨by dsimp only;omega,by dsimp only;omega⟩,g4⟩
abbrev Jwa:Wld:=(([]:List Dev),((0:Int),([]:List (List Int))),([]:List Nod),((0:Int),((0:Int),(0:Int))),([]:List Wri),([]:List ByteArray))
def B0b (d:Dev):Nod:=(d.1,([],[]),[],[])
def G0b (l:List Dev) (parts reps:Int):Wld:=(l,(build l parts reps).1,l.map B0b,(0,0,0),[],[])
def Dab {ws:List Wri} {sp:List ByteArray} {l:List Dev} (h:Ms l=true) {d:Dev} (hd:d∈l):NI ws sp (B0b d):=by
 obtain⟨⟨i0,i1⟩,_⟩:=O5.1 ((Dc.1 h).2.1 d hd)
 refine⟨⟨Cj.2 ⟨(λ r hr=>nomatch hr),⟨i0,i1⟩,dg0.1,Yz,Vq _⟩,dg0.2⟩,λ s=>⟨λ b hb=>?_,λ b hb=>?_,λ _ b f hb=>?_⟩,(λ r hr=>nomatch hr),(λ r hr=>nomatch hr)⟩
 ·rw[show gt (B0b d).2.1.1 s=none from rfl]at hb;cases hb
 ·rw[show gt (B0b d).2.1.2 s=none from rfl]at hb;cases hb
 ·rw[show gt (B0b d).2.1.2 s=none from rfl]at hb;cases hb
def Dbb {l:List Dev} {parts reps:Int} (hb:(build l parts reps).2=true):WI (G0b l parts reps):=by
 obtain⟨h1,h2,_,_⟩:=Ooa hb
 exact {
  ring:=h2
  ids:=by show (l.map B0b).map (·.1)=_;rw[Igb];rfl
  nodes:=λ n hn=>by
   obtain⟨d,hd,rfl⟩:=Zc.1 hn
   exact Dab h1 hd
  clk:=rfl
  wlen:=Vq _
  wok:=λ x hx=>nomatch hx
  wge:=λ x hx=>nomatch hx
  asc:=List.Pairwise.nil
  kept:=λ x hx=>nomatch hx
  sps:=List.Pairwise.nil
  spw:=λ s hs=>nomatch hs }
def Joa (l:List Dev) (parts reps:Int) (hb:(build l parts reps).2=true):Tot (λ k=>D7 k l parts reps) (λ r=>r=G0b l parts reps):=by
 obtain⟨h1,_,_,_⟩:=Ooa hb
 have h12:=(Dc.1 h1).2.2.2
 unfold D7
 refine Hib (V6a l parts reps (by omega)) ?_
 refine Hfb (by rw[Vg];omega) (H9b (by rw[hb];rfl) ?_)
 rw[Vx]
 refine H8b (Q:=λ r=>r=(Jwa,G0b l parts reps)) ?_ (by rintro r rfl;exact H7b rfl)
 refine Hgb (L:=λ k i (s:List Nod)=>Fp k l i Jwa (l,(build l parts reps).1,s,(0,0,0),[],[])) (Q:=λ r=>r=(Jwa,G0b l parts reps)) l.length (λ j s=>s=(l.take j).map B0b) ?_ ?_ 0 [] (Vq _) rfl
 ·rintro s rfl
  simp (disch:=omega) only [Fp,dF]
  exact H7b (by rw[Yt];rfl)
 ·rintro j s hj rfl next
  have hd:=A4 (d:=Of) hj
  obtain⟨d,ed⟩:∃ d:Dev,l.getD j Of=d:=⟨_,rfl⟩
  rw[ed]at hd
  have e0:l.getD j ((0:Int),((0:Int),(0:Int)))=d:=ed
  have e1:l[j]=d:=by rw[← ed,Ve,Vk hj];rfl
  have hid:=(O5.1 ((Dc.1 h1).2.1 d hd)).1
  simp (disch:=omega) only [Fp,dT,Vb,w64,e0,Cka,Vl]
  have hl:((l.take j).map B0b).length=j:=by rw[We,Vs];omega
  rw[Cc.2 hid,cond_true]
  refine Hfb (by rw[hl];simp only[Vc,Vg];omega) (next _ ?_)
  rw[Wl hj,Hrb,e1]
  rfl
def Qva (c:Cur) (hc:E9 c):Tot (λ k=>Lu k c) (λ r=>WI r.1∧E9 r.2):=by
 unfold Lu
 refine H8b (Qua c hc) ?_
 rintro⟨l,c1⟩ ⟨hl,hn,k1⟩
 dsimp only at hl hn k1 ⊢
 obtain⟨x,c2,e2,hx,k2⟩:=Mb c1 k1 [3,2,3,1] (by decide) (by decide)
 obtain⟨y,c3,e3,hy,k3⟩:=Mb c2 k2 [4,2,8] (by decide) (by decide)
 have hx':1≤x∧x≤3:=by
  simp only[Vm,Zk,or_false]at hx
  omega
 have hy':1≤y∧y≤8:=by
  simp only[Vm,Zk,or_false]at hy
  omega
 have one:∀ n:Int,1≤n→n≤5→n≤(l.length:Int)→Tot (λ k=>(Aa c2 [4,2,8]).bind λ r3=>(D7 k l r3.1 n).bind λ r4=>some (r4,r3.2)) (λ r=>WI r.1∧E9 r.2):=by
  intro n n0 n5 nl
  have hb:(build l y n).2=true:=by
   unfold build
   rw[hl,Cc.2 (show 1≤y∧y≤64 by omega),Cc.2 (show 1≤n∧n≤5 by omega),decide_eq_false (show ¬ n > (l.length:Int) by omega)]
   rfl
  refine Hib (Hjb (Q:=λ r=>r=(y,c3)) e3 rfl) ?_
  refine Hib (Joa l y n hb) ?_
  exact H7b ⟨Dbb hb,k3⟩
 refine Hib (Hjb (Q:=λ r=>r=(x,c2)) e2 rfl) ?_
 exact Heb (λ h=>one (l.length:Int) (by omega) (by dsimp only at h;omega) (Int.le_refl _)) (λ h=>one x (by omega) (by omega) (by dsimp only at h;omega))
def Jpa (c:Cur) (hc:E9 c):Tot (λ k=>Du k c) (λ r=>r.1.length=6∧E9 r.2):=by
 unfold Du
 refine H8b (Q:=λ r=>r.1.length=6∧E9 r.2) ?_ (λ r h=>H7b h)
 refine Hgb (L:=λ k i (s:List Int×Cur)=>Gp k s.1 i s.2) (Q:=λ r=>r.1.length=6∧E9 r.2) 6 (λ j s=>s.1.length=j∧E9 s.2) ?_ ?_ 0 ([],c) (Vq _) ⟨rfl,hc⟩
 ·rintro s ⟨h1,h2⟩
  simp (disch:=omega) only [Gp,dF]
  exact H7b ⟨h1,h2⟩
 ·rintro j s hj ⟨h1,h2⟩ next
  obtain⟨x,c1,e1,_,k1⟩:=Mb s.2 h2 [1,1,1,1,0,2,3] (by decide) (by decide)
  simp (disch:=omega) only [Gp,dT,w64]
  refine Hib (Hjb (Q:=λ r=>r=(x,c1)) e1 rfl) ?_
  exact Hfb (by simp only[Vc,Vg];omega) (next (s.1++[x],c1) ⟨by rw[Vd,h1];rfl,k1⟩)
def M6a (c:Cur) (hc:E9 c):Tot (λ k=>Du k c) (λ r=>r.1.length≤6∧E9 r.2):=(Jpa c hc).mono λ r h=>⟨by have:=h.1;omega,h.2⟩
def Zga (r:Evt×Cur×Wld) (w:Wld):Prop:=Zaa r.1∧As r.1.2.2.2.1∧E9 r.2.1∧r.2.2=w
def Dcb {d:Dsk} (hd:DIn d) (hb:DB d):Tot (λ k=>Gd k d) (λ r=>r.length≤2000000∧∀ t∈r,Lo t):=by
 refine(Yza d hd hb).mono ?_
 rintro r rfl
 obtain⟨a1,a2⟩:=Fhb d.1 hd.1.2.1 d.1 0 [] (λ x hx=>hx) (λ y hy=>nomatch hy)
 have:=hd.2.1
 rw[Vg]at a1
 exact⟨by unfold Qpa;omega,a2⟩
def Xa (c:Cur) (w:Wld) (hc:E9 c) (hn1:1≤w.2.2.1.length) (hnl:w.2.2.1.length≤2000000) (hnn:∀ n∈w.2.2.1,NIn n):Tot (λ k=>Dm k c w w) (λ r=>Zga r w):=by
 unfold Dm
 obtain⟨i,c1,e1,i0,i1,_,k1⟩:=Ay c hc (w.2.2.1.length:Int) (by omega)
 have i1:=i1 (by omega)
 obtain⟨s,c2,e2,hs,k2⟩:=Py c1 k1
 have hs:=(Nf s hs).1
 refine Hib (Hjb (Q:=λ r=>r=(i,c1)) e1 rfl) ?_
 refine Hib (Hjb (Q:=λ r=>r=(s,c2)) e2 rfl) ?_
 refine H8b (M6a c2 k2) ?_
 rintro⟨rc,c3⟩ ⟨hrc,k3⟩
 dsimp only at hrc k3 ⊢
 obtain⟨n,c4,e4,_,_,_,k4⟩:=Ay c3 k3 20 (by decide)
 refine Hib (Hjb (Q:=λ r=>r=(n,c4)) e4 rfl) ?_
 dsimp only
 have ok:∀ (kd:Int) (s:ByteArray) (l:List Int) (x:Int) (c:Cur),Lo s→As l→l.length≤2000000 → -9223372036854775808≤x→x≤9223372036854775807→E9 c→Zga ((kd,i,s,l,x,rc),c,w) w:=λ kd s l x c h1 h2 h3 h4 h5 h6=>⟨⟨h1,by show l.length≤_;omega,⟨h4,h5⟩,by show rc.length≤_;omega⟩,h2,h6,rfl⟩
 have plain:∀ kd:Int,Tot (λ _=>some ((kd,i,s,([]:List Int),(0:Int),rc),c4,w)) (λ r=>Zga r w):=λ kd=>H7b (ok kd s [] 0 c4 hs Oo (Vq _) (by decide) (by decide) k4)
 have put:Tot (λ k=>(A3 c4 2).bind λ r5=>(Di k r5.2).bind λ r6=>some ((1,i,s,r6.1,wrap .i64 (w.2.2.2.1.1+r5.1),rc),r6.2,w)) (λ r=>Zga r w):=by
  obtain⟨x,c5,e5,x0,x1,_,k5⟩:=Ay c4 k4 2 (by decide)
  have x1:=x1 (by decide)
  refine Hib (Hjb (Q:=λ r=>r=(x,c5)) e5 rfl) ?_
  refine H8b (E6a c5 k5) ?_
  rintro⟨l,c6⟩ ⟨g1,g2,g3⟩
  dsimp only at g1 g2 g3 ⊢
  have hw:=E5a (w.2.2.2.1.1+x)
  exact H7b (ok 1 s l _ c6 hs g2 (by omega) hw.1 hw.2 g1)
 have drop:Tot (λ k=>(A3 c4 2).bind λ r17=>some ((2,i,s,([]:List Int),wrap .i64 (w.2.2.2.1.1+r17.1),rc),r17.2,w)) (λ r=>Zga r w):=by
  obtain⟨x,c5,e5,x0,x1,_,k5⟩:=Ay c4 k4 2 (by decide)
  have x1:=x1 (by decide)
  refine Hib (Hjb (Q:=λ r=>r=(x,c5)) e5 rfl) ?_
  have hw:=E5a (w.2.2.2.1.1+x)
  exact H7b (ok 2 s [] _ c5 hs Oo (Vq _) hw.1 hw.2 k5)
 have rot:Tot (λ k=>(A3 c4 60).bind λ r31=>some ((8,i,s,([]:List Int),r31.1,rc),r31.2,w)) (λ r=>Zga r w):=by
  obtain⟨x,c5,e5,x0,x1,_,k5⟩:=Ay c4 k4 60 (by decide)
  have x1:=x1 (by decide)
  refine Hib (Hjb (Q:=λ r=>r=(x,c5)) e5 rfl) ?_
  exact H7b (ok 8 s [] x c5 hs Oo (Vq _) (by omega) (by omega) k5)
 have ring:Tot (λ k=>(Aa c4 [1,2,10,1000]).bind λ r33=>some ((9,i,s,([]:List Int),r33.1,rc),r33.2,w)) (λ r=>Zga r w):=by
  obtain⟨x,c5,e5,hx,k5⟩:=Mb c4 k4 [1,2,10,1000] (by decide) (by decide)
  refine Hib (Hjb (Q:=λ r=>r=(x,c5)) e5 rfl) ?_
  have hx':1≤x∧x≤1000:=by
   simp only[Vm,Zk,or_false]at hx
   omega
  exact H7b (ok 9 s [] x c5 hs Oo (Vq _) (by omega) (by omega) k5)
 have push:Tot (λ k=>cond (decide ((0:Int)≤i)) (cond (decide (i<(length w.2.2.1:Int))) ((Gd k (getD w.2.2.1 (toNat i) ((0:Int),(([],[]),([],[])))).2.1).bind λ r20=>cond (decide ((length r20:Int) > 0)) ((A3 c4 (length r20:Int)).bind λ r21=>cond (decide ((0:Int)≤r21.1)) (cond (decide (r21.1<(length r20:Int))) (some ((3,i,(getD r20 (toNat r21.1) (⟨#[]⟩:ByteArray)),([]:List Int),0,rc),r21.2,w)) none) none) (some ((3,i,s,([]:List Int),0,rc),c4,w))) none) none) (λ r=>Zga r w):=by
  refine Hbb i0 (Hbb i1 ?_)
  have hm:=hnn _ (A4 (d:=C3) (show i.toNat<w.2.2.1.length by omega))
  refine H8b (Dcb hm.1.1 hm.1.2) ?_
  rintro l ⟨hl,hl'⟩
  refine Heb (λ h0=>?_) (λ h0=>plain 3)
  obtain⟨x,c5,e5,x0,x1,_,k5⟩:=Ay c4 k4 (l.length:Int) (by omega)
  have x1:=x1 (by omega)
  refine Hib (Hjb (Q:=λ r=>r=(x,c5)) e5 rfl) ?_
  exact Hbb x0 (Hbb x1 (H7b (ok 3 _ [] 0 c5 (hl' _ (A4 (d:=On) (show x.toNat<l.length by omega))) Oo (Vq _) (by decide) (by decide) k5)))
 refine Hdb (λ _=>put) (λ _=>?_)
 refine Hdb (λ _=>put) (λ _=>?_)
 refine Hdb (λ _=>put) (λ _=>?_)
 refine Hdb (λ _=>put) (λ _=>?_)
 refine Hdb (λ _=>put) (λ _=>?_)
 refine Hdb (λ _=>put) (λ _=>?_)
 refine Hdb (λ _=>drop) (λ _=>?_)
 refine Hdb (λ _=>drop) (λ _=>?_)
 refine Hdb (λ _=>push) (λ _=>?_)
 refine Hdb (λ _=>push) (λ _=>?_)
 refine Hdb (λ _=>push) (λ _=>?_)
 refine Hdb (λ _=>plain 5) (λ _=>?_)
 refine Hdb (λ _=>plain 5) (λ _=>?_)
 refine Hdb (λ _=>plain 4) (λ _=>?_)
 refine Hdb (λ _=>plain 6) (λ _=>?_)
 refine Hdb (λ _=>plain 7) (λ _=>?_)
 refine Hdb (λ _=>plain 7) (λ _=>?_)
 refine Hdb (λ _=>rot) (λ _=>?_)
 exact Hdb (λ _=>rot) (λ _=>ring)
def Jqa (c:Cur) (w:Wld) (hc:E9 c) (h:WI w):Tot (λ k=>Dm k c w w) (λ r=>Zga r w):=
 Xa c w hc (by have:=h.nlen;have:=h.dlen;omega) h.ns.1 h.win.2.2.1.2
def Ddb {w:Wld} (h:WI w) {e:Evt} (he:Zaa e):Tot (λ k=>Gx k w e) (λ r=>r=doW w e):=
 Azb w e he h.ring h.ns h.clk (by have:=h.wlen;omega) (by have:=h.splen;omega)
def Qwa:∀ (n:Nat) (i:Int) (c:Cur) (w:Wld),i=n→n≤1000→E9 c→WI w→Tot (λ k=>Gy k i c Jwa w) (λ r=>WI r.2.1∧E9 r.2.2):=by
 intro n
 induction n with
 |zero=>
  rintro i c w rfl _ hc h
  refine Tot.succ ?_
  simp (disch:=omega) only [Gy,dF]
  exact H7b ⟨h,hc⟩
 |succ n ih=>
  rintro i c w rfl hn hc h
  refine Tot.succ ?_
  simp (disch:=omega) only [Gy,dT]
  refine H8b (Jqa c w hc h) ?_
  rintro⟨e,c1,w1⟩ ⟨g1,g2,g3,g4⟩
  dsimp only at g1 g2 g3 g4 ⊢
  subst g4
  refine Hib (Ddb h g1) ?_
  rw[w64 (n:=((n+1:Nat):Int)-1) (by omega) (by omega)]
  exact ih _ c1 _ (by omega) (by omega) g3 (h.ev g2)
def M7a (c:Cur) (hc:E9 c) (n:Int) (hn:n≤1000):Tot (λ k=>G5 k c n) (λ r=>WI r.1∧E9 r.2):=by
 unfold G5
 refine H8b (Qva c hc) ?_
 rintro⟨w,c1⟩ ⟨h,k1⟩
 dsimp only at h k1 ⊢
 obtain⟨x,c2,e2,x0,x1,x2,k2⟩:=Ay c1 k1 n (by omega)
 refine Hib (Hjb (Q:=λ r=>r=(x,c2)) e2 rfl) ?_
 refine H8b (Qwa x.toNat x c2 w (by omega) (by by_cases h:0<n<;>omega) k2 h) ?_
 rintro r hr
 exact H7b hr
def Zha (a:List Int) (hb:(a.length:Int)≤1048576) (m:Int) (hm:3≤m∧m≤1000):∃ n,Lx a m=some n∧3≤n∧n≤m:=by
 unfold Lx
 rw[Hlb (by omega),w64 (n:=(a.length:Int)/12) (by omega) (by omega),w64 (n:=3+(a.length:Int)/12) (by omega) (by omega)]
 by_cases h:3+(a.length:Int)/12 > m
 ·exact⟨m,by rw[decide_eq_true h];rfl,hm.1,Zs _⟩
 ·exact⟨_,by rw[decide_eq_false h];rfl,by omega,by omega⟩

def WIm (m:Nat) (w:Wld):Prop:=RBd w.2.1∧w.1.length≤2000000∧(w.2.2.1.length≤2000000∧∀ n∈w.2.2.1,NIn n)∧(w.2.2.2.2.1.length≤m∧∀ x∈w.2.2.2.2.1,Lo x.1∧x.2.1.2.2.length≤2000000∧As x.2.1.2.2)∧(w.2.2.2.2.2.length≤m∧∀ s∈w.2.2.2.2.2,Lo s)
def WIm.win {m:Nat} {w:Wld} (h:WIm m w) (hm:m≤2000000):WIn w:=by
 obtain⟨h1,h2,⟨h3,h4⟩,⟨h5,h6⟩,h7,h8⟩:=h
 exact⟨h1,h2,⟨h3,h4⟩,⟨by omega,λ x hx=>(h6 x hx).1⟩,by omega,h8⟩
def WIm.more {m n:Nat} {w:Wld} (h:WIm m w) (hm:m≤n):WIm n w:=by
 obtain⟨h1,h2,h3,⟨h5,h6⟩,h7,h8⟩:=h
 exact⟨h1,h2,h3,⟨by omega,h6⟩,by omega,h8⟩
def WI.wim {w:Wld} (h:WI w):WIm 200 w:=by
 have hi:=h.win
 have h2:=h.dlen
 have h1:=h.nlen
 exact⟨hi.1,hi.2.1,hi.2.2.1,⟨h.wlen,λ x hx=>⟨J8 (h.wok x hx).1,by have:=(Ke.1 (h.wok x hx).2.1).2.1;omega,(h.wok x hx).2.2⟩⟩,h.splen,hi.2.2.2.2.2⟩
def Jra {f:Fil} (h:f.2.2.length≤2000000):C2 f=some f:=by
 unfold C2
 rw[bT (by simp only[Vg];omega),Vx]
def Xb {m:Nat} {w:Wld} (h:WIm m w) (hm:m≤2000000):Tot (λ k=>C8 k w) (λ r=>r=w):=by
 obtain⟨h1,h2,⟨h3,h4⟩,⟨h5,h6⟩,h7,h8⟩:=h
 unfold C8
 refine Hfb (by rw[Vg];omega) (Hib (A0a w.2.1 h1) ?_)
 refine Hfb (by rw[Vg];omega) ?_
 rw[Vx,Vx]
 refine H8b (Q:=λ r=>r=(w,Jwa,(w.1,w.2.1,w.2.2.1,w.2.2.2.1,[],w.2.2.2.2.2))) ?_ ?_
 ·refine Hgb (L:=λ k i (s:List Nod)=>H0 k i w Jwa (w.1,w.2.1,s,w.2.2.2.1,[],w.2.2.2.2.2)) (Q:=λ r=>r=(w,Jwa,(w.1,w.2.1,w.2.2.1,w.2.2.2.1,[],w.2.2.2.2.2))) w.2.2.1.length (λ j s=>s=w.2.2.1.take j) ?_ ?_ 0 [] (Vq _) rfl
  ·rintro s rfl
   simp (disch:=omega) only [H0,dF]
   exact H7b (by rw[Yt])
  ·rintro j s hj rfl next
   have hm:=h4 _ (A4 (d:=C3) hj)
   have e0:w.2.2.1.getD j ((0:Int),(([],[]),([],[])))=w.2.2.1.getD j C3:=rfl
   have hl:(w.2.2.1.take j).length=j:=by rw[Vs];omega
   simp (disch:=omega) only [H0,dT,Vb,w64,e0]
   refine Hib (P8 _ hm) ?_
   refine Hfb (by rw[hl];simp only[Vc,Vg];omega) (next _ ?_)
   rw[Wl hj,Ve,Vk hj]
   rfl
 ·rintro r rfl
  refine H8b (Q:=λ r=>r=(Jwa,w)) ?_ (by rintro r rfl;exact H7b rfl)
  refine Hgb (L:=λ k i (s:List Wri)=>Gz k i w Jwa (w.1,w.2.1,w.2.2.1,w.2.2.2.1,s,w.2.2.2.2.2)) (Q:=λ r=>r=(Jwa,w)) w.2.2.2.2.1.length (λ j s=>s=w.2.2.2.2.1.take j) ?_ ?_ 0 [] (Vq _) rfl
  ·rintro s rfl
   simp (disch:=omega) only [Gz,dF]
   exact H7b (by rw[Yt])
  ·rintro j s hj rfl next
   have hm:=(h6 _ (A4 (d:=Vsa) hj)).2.1
   have e0:w.2.2.2.2.1.getD j ((⟨#[]⟩:ByteArray),((((0:Int),((0:Int),(0:Int))),(false,[])),false))=w.2.2.2.2.1.getD j Vsa:=rfl
   have hl:(w.2.2.2.2.1.take j).length=j:=by rw[Vs];omega
   simp (disch:=omega) only [Gz,dT,Vb,w64,e0,Jra hm,Vl]
   refine Hfb (by rw[hl];simp only[Vc,Vg];omega) (next _ ?_)
   rw[Wl hj,Ve,Vk hj]
   rfl
def WIp (m:Nat) (w:Wld):Prop:=WIm m w∧1≤w.2.2.1.length
def P1a {m:Nat} {w:Wld} (h:WIp m w) {i:Nat} {n:Nod} (hn:NIn n):WIp m (w.1,w.2.1,w.2.2.1.set i n,w.2.2.2):=by
 obtain⟨⟨h1,h2,⟨h3,h4⟩,h5⟩,h0⟩:=h
 refine⟨⟨h1,h2,⟨by rw[Vy];exact h3,λ x hx=>?_⟩,h5⟩,by show 1≤(w.2.2.1.set i n).length;rw[Vy];exact h0⟩
 rcases Xs hx with hx|rfl
 ·exact h4 x hx
 ·exact hn
def Zia {m:Nat} {w:Wld} {c:Cur} (hc:E9 c) (h:WIp m w) (hm:m≤900):Tot (λ k=>H5 k c w w) (λ r=>WIp (m+1) r.1∧E9 r.2.1):=by
 have h':=h
 obtain⟨⟨h1,h2,⟨h3,h4⟩,⟨h5,h6⟩,h7,h8⟩,h0⟩:=h'
 have hw:WIp (m+1) w:=⟨h.1.more (Zg m),h.2⟩
 unfold H5
 refine H8b (Xb (w:=w) h.1 (by omega)) ?_
 rintro r rfl
 refine Hbb (by omega) ?_
 obtain⟨i,c1,e1,i0,i1,_,k1⟩:=Ay c hc (r.2.2.1.length:Int) (by omega)
 have i1:=i1 (by omega)
 refine H8b (Hjb (Q:=λ r=>r=(i,c1)) e1 rfl) ?_
 rintro _ rfl
 obtain⟨x,c2,e2,_,_,_,k2⟩:=Ay c1 k1 10 (by decide)
 refine H8b (Hjb (Q:=λ r=>r=(x,c2)) e2 rfl) ?_
 rintro _ rfl
 dsimp only
 refine Hdb (λ _=>?_) (λ _=>?_)
 ·obtain⟨y,c3,e3,_,k3⟩:=Mb c2 k2 [0,1,2,6] (by decide) (by decide)
  refine H8b (Hjb (Q:=λ r=>r=(y,c3)) e3 rfl) ?_
  rintro _ rfl
  exact H7b ⟨⟨⟨h1,hw.1.2⟩,h0⟩,k3⟩
 refine Hdb (λ _=>?_) (λ _=>?_)
 ·refine Hbb (by omega) (H8b (V0a c2 k2) ?_)
  rintro⟨n,c3⟩ ⟨g1,g2⟩
  exact Hbb i0 (Hbb i1 (H7b ⟨P1a hw g1,g2⟩))
 refine Hdb (λ _=>?_) (λ _=>?_)
 ·obtain⟨y,c3,e3,k3⟩:=Oga c2 k2
  refine H8b (Hjb (Q:=λ r=>r=(y,c3)) e3 rfl) ?_
  rintro _ rfl
  exact H7b ⟨hw,k3⟩
 refine Hdb (λ _=>?_) (λ _=>?_)
 ·refine Heb (λ _=>Hbb (by omega) (H7b ⟨⟨⟨h1,h2,⟨h3,h4⟩,⟨by dsimp only;rw[List.length_drop];omega,λ x hx=>h6 x (List.mem_of_mem_drop hx)⟩,by dsimp only;omega,h8⟩,h0⟩,k2⟩)) (λ _=>H7b ⟨hw,k2⟩)
 refine Hdb (λ _=>?_) (λ _=>?_)
 ·obtain⟨s,c3,e3,hs,k3⟩:=Rt c2 k2
  refine H8b (Hjb (Q:=λ r=>r=(s,c3)) e3 rfl) ?_
  rintro _ rfl
  refine H8b (Uta c3 k3) ?_
  rintro⟨f,c4⟩ ⟨⟨g0,g1⟩,k4⟩
  refine Hfb (by simp only[List.length_cons,List.length_nil];omega) (H7b ⟨⟨⟨h1,h2,⟨h3,h4⟩,⟨by dsimp only;rw[List.length_append];simp only[List.length_cons,List.length_nil];omega,λ x hx=>?_⟩,by dsimp only;omega,h8⟩,h0⟩,k4⟩)
  rcases Vp.1 hx with hx|hx
  ·exact h6 x hx
  ·rw[Vu.1 hx];exact⟨hs,g1,g0⟩
 refine Hdb (λ _=>?_) (λ _=>?_)
 ·obtain⟨s,c3,e3,hs,k3⟩:=Rt c2 k2
  refine H8b (Hjb (Q:=λ r=>r=(s,c3)) e3 rfl) ?_
  rintro _ rfl
  refine Hfb (by simp only[List.length_cons,List.length_nil];omega) (H7b ⟨⟨⟨h1,h2,⟨h3,h4⟩,⟨by dsimp only;omega,h6⟩,by dsimp only;rw[List.length_append];simp only[List.length_cons,List.length_nil];omega,λ x hx=>?_⟩,h0⟩,k3⟩)
  rcases Vp.1 hx with hx|hx
  ·exact h8 x hx
  ·rw[Vu.1 hx];exact hs
 refine Hdb (λ _=>?_) (λ _=>?_)
 ·have hm:=h4 _ (A4 (d:=C3) (show i.toNat<r.2.2.1.length by omega))
  refine Hbb (by omega) (Hbb i0 (Hbb i1 (H7b ⟨P1a hw ⟨⟨Ng dg0.1,dg0.2⟩,hm.2⟩,k2⟩)))
 refine Hdb (λ _=>?_) (λ _=>H7b ⟨hw,k2⟩)
 refine Heb (λ hd=>?_) (λ _=>H7b ⟨hw,k2⟩)
 obtain⟨y,c3,e3,_,k3⟩:=Mb c2 k2 [0,5,21] (by decide) (by decide)
 refine H8b (Hjb (Q:=λ r=>r=(y,c3)) e3 rfl) ?_
 rintro _ rfl
 exact Hbb (by omega) (H7b ⟨⟨⟨h1,by dsimp only;rw[List.length_set];exact h2,hw.1.2.2⟩,h0⟩,k3⟩)
def Qxa (c:Cur) (hc:E9 c) (n:Int) (hn:n≤1000):Tot (λ k=>Lw k c n) (λ r=>WIp 201 r.1∧E9 r.2):=by
 unfold Lw
 refine H8b (M7a c hc n hn) ?_
 rintro⟨w,c1⟩ ⟨h,k1⟩
 dsimp only at h k1 ⊢
 obtain⟨b,c2,e2,k2⟩:=Px c1 k1 8 (by decide)
 refine Hib (Hjb (Q:=λ r=>r=(b,c2)) e2 rfl) ?_
 refine Hdb (λ _=>?_) (λ _=>H7b ⟨⟨h.wim.more (by decide),by show 1≤w.2.2.1.length;have:=h.nlen;have:=h.dlen;omega⟩,k2⟩)
 refine H8b (Zia k2 (m:=200) ⟨h.wim,by have:=h.nlen;have:=h.dlen;omega⟩ (by decide)) ?_
 rintro r ⟨g1,g2⟩
 exact H7b ⟨g1,g2⟩

end Go.Proofs.YtmhhjceoinoekaaGreat.Vf
