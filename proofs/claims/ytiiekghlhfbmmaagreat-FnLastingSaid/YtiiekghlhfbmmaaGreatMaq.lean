import Derived.Test.YtiiekghlhfbmmaaGreatMap
import Derived.Test.YtiiekghlhfbmmaaGreatMak
set_option linter.all false
namespace Go.Proofs.YtiiekghlhfbmmaaGreat.Vf
open Go
open List (length getD)
open Int (toNat)
open Go.IntKind (wrap)
open BitVec (ofInt)

def Yha {nm:List ByteArray} {ws:List Wri} (hN:Bga nm ws) {a:List Row} (hs:Bj a) (h:∀ r∈a,W6 ws r=true):a.length≤60:=by
 have hp:(a.map (·.1)).Pairwise (λ a b=>tlt a b=true):=Zm.2 hs
 have hd:(a.map (·.1)).Nodup:=hp.imp (λ {a b} hab e=>by subst e;rw[Hs]at hab;cases hab)
 have:=Ui _ nm hd (λ s hs=>by
  obtain⟨r,hr,rfl⟩:=Zb.1 hs
  obtain⟨x,hx,rfl⟩:=Uh.1 (h r hr)
  exact hN.2 x hx)
 rw[Wd]at this
 have:=hN.1
 omega
def Poa (n:Nod) (l:List Row):Nod:=(n.1,n.2.1,Nj n.2.2.1 l,n.2.2.2)
def NI.rows {ws:List Wri} {sp:List ByteArray} {n:Nod} (h:NI ws sp n):Bj n.2.2.1:=(Lh.1 (Bo.1 h.1.1).2.2.2.1).1
def Aab {nm:List ByteArray} {ws:List Wri} {sp:List ByteArray} (hN:Bga nm ws) {n:Nod} (h:NI ws sp n) {l:List Row} (hr:∀ r∈l,W6 ws r=true):tk n l=(true,Poa n l):=by
 have h1:(Nj n.2.2.1 l).length≤60:=Yha hN (N6 h.rows) (λ r hr'=>(E3a hr').elim (h.2.2.1 r) (hr r))
 unfold tk
 rw[decide_eq_false (by omega)]
 rfl
def I0a {nm:List ByteArray} {w:Wld} (h:WI w) (hN:Bga nm w.2.2.2.2.1) {src:Int} {l:List Row} {self:Bool} (hl:Js l=true) (hr:∀ r∈l,W6 w.2.2.2.2.1 r=true):
  (Jt w src l self F3).2=true∧∀ m,m<w.2.2.1.length→(Jt w src l self F3).1.getD m A8=bif inP w O9 m&&!((m:Int)==src&&!self) then Poa (w.2.2.1.getD m A8) l else w.2.2.1.getD m A8:=by
 have h5:(Aw w).length≤5:=h.wo.prim5 O9
 have hat:=λ x=>Li (w:=w) (x:=x)
 have hls:=(Lh.1 hl).1
 unfold Jt inP
 rw[show Mi w O9=Aw w from rfl]
 generalize Aw w=ps at *
 have key:=Ku (st:=gst src l self F3 ps) (n:=ps.length) (a:=(w.2.2.1,true)) (λ j (a:List Nod×Bool)=>a.2=true∧NR w.2.2.2.2.1 w.2.2.2.2.2 w.2.2.1 a.1∧
  ∀ m,m<w.2.2.1.length→a.1.getD m A8=bif Lm (ps.take j) (m:Int)&&!((m:Int)==src&&!self) then Poa (w.2.2.1.getD m A8) l else w.2.2.1.getD m A8) ?_ ?_
 ·rw[Yj]at key
  exact⟨key.1,key.2.2⟩
 ·exact⟨rfl,NR.refl h.nodes,λ m _=>by
   show _=bif false&&_ then _ else _
   rw[Yv]
   rfl⟩
 ·rintro j ⟨ns,g⟩ hj ⟨a1,a3,a4⟩
  dsimp only at a1 a3 a4
  subst a1
  have hpx:=hat _ (A3 (d:=0) hj)
  obtain⟨p,hp⟩:∃ p:Nat,ps.getD j 0=(p:Int):=⟨(ps.getD j 0).toNat,by omega⟩
  have htk:∀ x:Int,Lm (ps.take (j+1)) x=(Lm (ps.take j) x||(p:Int)==x):=λ x=>by
   have e:ps[j]=(p:Int):=by rw[← hp,Vb,Vj hj];rfl
   unfold Lm
   rw[Wi hj,Jrb,e,I1b,Khb,I5b]
  have hnl:=a3.len
  have hpn:p<ns.length:=by omega
  have hni:=a3.1 _ (A3 (d:=A8) hpn)
  unfold gst
  rw[hp,Vc,Fcb (by omega),Aab hN hni hr]
  cases hpi:(p:Int)==src&&!self with
  |true=>
   refine⟨rfl,a3,λ m hm=>?_⟩
   show ns.getD m A8=_
   rw[a4 m hm,htk]
   by_cases hmp:p=m
   ·subst hmp
    rw[hpi,Yw,Wq,Wq]
   ·rw[show ((p:Int)==(m:Int))=false by rw[beq_eq_false_iff_ne];omega,I5b]
  |false=>
   have hnr:NI w.2.2.2.2.1 w.2.2.2.2.2 (Poa (ns.getD p A8) l):=by
    obtain⟨t1,_,_⟩:=F4b (n:=ns.getD p A8) hni hl hr
    rw[Aab hN hni hr]at t1
    exact t1
   refine⟨rfl,a3.set hpn hnr rfl (MO.refl _ _),λ m hm=>?_⟩
   show (ns.set p (Poa (ns.getD p A8) l)).getD m A8=_
   rw[Cz (show m<ns.length by omega),htk]
   by_cases hpm:p=m
   ·subst hpm
    rw[if_pos rfl,beq_self_eq_true,Bool.or_true,Vx,hpi,Zh,cond_true,a4 p hm,hpi,Zh,Zz]
    cases Lm (ps.take j) (p:Int) with
    |false=>rfl
    |true=>
     show Poa (Poa (w.2.2.1.getD p A8) l) l=Poa (w.2.2.1.getD p A8) l
     unfold Poa
     dsimp only
     rw[Sia (h.nodes _ (A3 (d:=A8) hm)).rows hls]
   ·rw[if_neg hpm,show ((p:Int)==(m:Int))=false by rw[beq_eq_false_iff_ne];omega,I5b]
    exact a4 m hm
def Nfa {n:Nod} (h:n.2.2.2=[]):n=Zua n []:=by
 obtain⟨a,b,c,d⟩:=n
 dsimp only at h
 subst h
 rfl
def Uya {nm:List ByteArray} {w:Wld} (h:WI w) (hN:Bga nm w.2.2.2.2.1) {i:Nat} (hi:i<w.2.2.1.length) {m:Nat} (hm:m<w.2.2.1.length):
  (Pi w i F3).2.2.2.1.getD m A8=Zua (bif inP w O9 m then Poa (w.2.2.1.getD m A8) ((w.2.2.1.getD i A8).2.2.2.take 1) else w.2.2.1.getD m A8) (bif decide (m=i) then (w.2.2.1.getD m A8).2.2.2.drop 1 else (w.2.2.1.getD m A8).2.2.2):=by
 have hni:=h.nodes _ (A3 (d:=A8) hi)
 have hq:=(Bo.1 hni.1.1).1
 unfold Pi
 cases hz:((w.2.2.1.getD i A8).2.2.2.length:Int)==0 with
 |true=>
  have e:(w.2.2.1.getD i A8).2.2.2=[]:=Wm (by have:=eq_of_beq hz;omega)
  rw[e]
  show w.2.2.1.getD m A8=_
  by_cases hmi:m=i
  ·subst hmi
   rw[decide_eq_true rfl,e]
   cases inP w O9 m with
   |true=>exact Nfa (n:=Poa (w.2.2.1.getD m A8) []) e
   |false=>exact Nfa e
  ·rw[decide_eq_false hmi]
   cases inP w O9 m<;>rfl
 |false=>
  obtain⟨g1,g2⟩:=I0a h hN (src:=(i:Int)) (self:=true) (Lx hq) (λ r hr=>hni.2.2.2 r (Hib hr))
  have gl:(Mb w i F3).1.length=w.2.2.1.length:=(Qc (Lx hq) h.ns).2
  rw[show Jt w (i:Int) ((w.2.2.1.getD i A8).2.2.2.take 1) true F3=Mb w i F3 from rfl]at g1 g2
  have g3:=g2 m hm
  rw[Yw,Wq,Zh,Zz]at g3
  show (bif (Mb w i F3).2 then (Mb w i F3).1.set i (Zua ((Mb w i F3).1.getD i A8) ((w.2.2.1.getD i A8).2.2.2.drop 1)) else (Mb w i F3).1).getD m A8=_
  rw[g1,cond_true,Cz (by omega)]
  by_cases hmi:i=m
  ·subst hmi
   rw[if_pos rfl,g3,decide_eq_true rfl,cond_true]
  ·rw[if_neg hmi,g3,decide_eq_false (λ e=>hmi e.symm),cond_false]
   cases inP w O9 m<;>rfl
def Uza {nm:List ByteArray} {w:Wld} (h:WI w) (hN:Bga nm w.2.2.2.2.1) {i:Nat} (hi:i<w.2.2.1.length) {m:Nat} (hm:m<w.2.2.1.length):
  (Ow w i F3).2.2.2.1.getD m A8=bif inP w O9 m&&!(decide (m=i)) then Poa (w.2.2.1.getD m A8) (w.2.2.1.getD i A8).2.2.1 else bif decide (m=i)&&!(inP w O9 i) then Ug (w.2.2.1.getD m A8) else w.2.2.1.getD m A8:=by
 have hni:=h.nodes _ (A3 (d:=A8) hi)
 have hro:=(Bo.1 hni.1.1).2.2.2.1
 unfold Ow
 cases hz:((w.2.2.1.getD i A8).2.2.1.length:Int)==0 with
 |true=>
  have e:(w.2.2.1.getD i A8).2.2.1=[]:=Wm (by have:=eq_of_beq hz;omega)
  rw[e]
  show w.2.2.1.getD m A8=_
  by_cases hmi:m=i
  ·subst hmi
   rw[decide_eq_true rfl,Yw,Wq,cond_false]
   cases inP w O9 m with
   |true=>rfl
   |false=>show _=Ug (w.2.2.1.getD m A8);unfold Ug;rw[← e]
  ·rw[decide_eq_false hmi]
   cases inP w O9 m<;>rfl
 |false=>
  obtain⟨g1,g2⟩:=I0a h hN (src:=(i:Int)) (self:=false) hro hni.2.2.1
  have gn:NR w.2.2.2.2.1 w.2.2.2.2.2 w.2.2.1 (Jt w (i:Int) (w.2.2.1.getD i A8).2.2.1 false F3).1:=Exa h.nodes hro hni.2.2.1
  rw[show Jt w (i:Int) (w.2.2.1.getD i A8).2.2.1 false F3=Lc w i F3 from rfl]at g1 g2 gn
  have gl:=gn.len
  have eL:Lm (Aw (wN w (Lc w i F3).1)) (i:Int)=inP w O9 i:=by
   unfold Aw inP Mi
   rw[show (wN w (Lc w i F3).1).2.2.1=(Lc w i F3).1 from rfl,Kka gn.2.1]
  have gq:∀ q:Nat,((q:Int)==(i:Int)&&!false)=decide (q=i):=λ q=>by
   rw[Zh,Zz]
   by_cases e:q=i
   ·rw[e,beq_self_eq_true,decide_eq_true rfl]
   ·rw[decide_eq_false e,beq_eq_false_iff_ne];omega
  have g3:=g2 m hm
  rw[gq]at g3
  show (bif (Lc w i F3).2&&!(Lm (Aw (wN w (Lc w i F3).1)) (i:Int)) then (Lc w i F3).1.set i (Ug ((Lc w i F3).1.getD i A8)) else (Lc w i F3).1).getD m A8=_
  rw[g1,Vx,eL]
  cases hin:inP w O9 i with
  |true=>
   rw[Yw,cond_false,g3,Wq,cond_false]
  |false=>
   rw[Zh,cond_true,Cz (by omega)]
   by_cases hmi:i=m
   ·subst hmi
    rw[if_pos rfl,decide_eq_true rfl,hin,Yv,cond_false,Vx,cond_true]
    rw[decide_eq_true rfl,hin,Yv,cond_false]at g3
    rw[g3]
   ·rw[if_neg hmi,g3,decide_eq_false (λ e=>hmi e.symm),Yv,cond_false]
def rN (ns:List Nod) (m:Nat) (t:ByteArray):Option Row:=Ic (ns.getD m A8).2.2.1 t
def InK.rows {k n:Nat} {P:Nat→Bool} {t:ByteArray}:∀ (q:List Row) {R:Nat→List Row},(∀ m,m<n→Bj (R m))→k≤n→(Nba k P (λ m=>Ic (R m) t)∧InK leR k n P (λ m=>Ic (R m) t))→
  Nba k P (λ m=>Ic (bif P m then Nj (R m) q else R m) t)∧InK leR k n P (λ m=>Ic (bif P m then Nj (R m) q else R m) t)
 |[],R,hs,hk,h=>by
  have e:(λ m=>Ic (bif P m then Nj (R m) [] else R m) t)=λ m=>Ic (R m) t:=by
   funext m
   cases P m<;>rfl
  rw[e]
  exact h
 |r::q,R,hs,hk,h=>by
  have e:∀ m,m<n→Ic (bif P m then mrg (R m) r else R m) t=bif teq r.1 t then gvC Pda P r (λ m=>Ic (R m) t) m else Ic (R m) t:=λ m hm=>by
   unfold gvC
   cases P m with
   |false=>cases teq r.1 t<;>rfl
   |true=>
    rw[cond_true,Gna (hs m hm) t]
    cases teq r.1 t with
    |false=>rfl
    |true=>dsimp only;cases Ic (R m) t<;>rfl
  have ih:=InK.rows q (R:=λ m=>bif P m then mrg (R m) r else R m) (P:=P) (t:=t) (k:=k) (n:=n) (λ m hm=>by
   cases P m with
   |true=>exact Rv (hs m hm)
   |false=>exact hs m hm) hk ?_
  ·have e2:(λ m=>Ic (bif P m then Nj (bif P m then mrg (R m) r else R m) q else (bif P m then mrg (R m) r else R m)) t)=λ m=>Ic (bif P m then Nj (R m) (r::q) else R m) t:=by
    funext m
    cases P m<;>rfl
   rw[← e2]
   exact ih
  ·cases ht:teq r.1 t with
   |true=>exact⟨h.1.gv.eq hk (λ m hm=>by rw[e m hm,ht];rfl),(h.2.gv (f:=r) Nca).eq hk (λ m hm=>by rw[e m hm,ht];rfl)⟩
   |false=>exact⟨h.1.eq hk (λ m hm=>by rw[e m hm,ht];rfl),h.2.eq hk (λ m hm=>by rw[e m hm,ht];rfl)⟩
def WI.give {w:Wld} (h:WI w) (m:Nat) (hm:m<w.2.2.1.length):Bj (w.2.2.1.getD m A8).2.2.1:=(h.nodes _ (A3 (d:=A8) hm)).rows
structure TA (w v:Wld) (i n:Nat):Prop where
 sw:SW w v
 di:∀ m,m<w.2.2.1.length→(v.2.2.1.getD m A8).2.1=(w.2.2.1.getD m A8).2.1
 ro:∀ m,m<w.2.2.1.length→(v.2.2.1.getD m A8).2.2.1=bif inP w O9 m then Nj (w.2.2.1.getD m A8).2.2.1 ((w.2.2.1.getD i A8).2.2.2.take n) else (w.2.2.1.getD m A8).2.2.1
 qu:∀ m,m<w.2.2.1.length→(v.2.2.1.getD m A8).2.2.2=bif decide (m=i) then (w.2.2.1.getD m A8).2.2.2.drop n else (w.2.2.1.getD m A8).2.2.2
def Baa {nm:List ByteArray} {w:Wld} (h:WI w) (hN:Bga nm w.2.2.2.2.1) {i:Nat} (hi:i<w.2.2.1.length):∀ n,TA w (Mc w i n) i n
 |0=>⟨SW.refl h,λ _ _=>rfl,λ m _=>by cases inP w O9 m<;>rfl,λ m _=>by cases decide (m=i)<;>rfl⟩
 |n+1=>by
  have ih:=Baa h hN hi n
  show TA w (Pi (Mc w i n) i F3).2 i (n+1)
  generalize Mc w i n=v at *
  have hv:=ih.sw.wi h
  have hl:=ih.sw.len
  have t1:=Uua hv (i:=i) (by omega)
  have t2:=λ m (hm:m<w.2.2.1.length)=>Uya hv (nm:=nm) (by rw[ih.sw.ws];exact hN) (i:=i) (by omega) (m:=m) (by omega)
  rw[ih.sw.inP]at t2
  refine⟨ih.sw.trans t1,λ m hm=>?_,λ m hm=>?_,λ m hm=>?_⟩
  ·rw[t2 m hm,← ih.di m hm]
   cases inP w O9 m<;>rfl
  ·rw[t2 m hm]
   have r1:=ih.ro m hm
   have q1:=ih.qu i hi
   rw[decide_eq_true rfl,cond_true]at q1
   rw[q1]
   cases hp:inP w O9 m with
   |false=>
    rw[hp,cond_false]at r1
    exact r1
   |true=>
    rw[hp,cond_true]at r1
    show Nj (v.2.2.1.getD m A8).2.2.1 _=Nj _ _
    rw[r1]
    unfold Nj
    rw[← Hrb,Kmb (i:=n) (j:=1)]
  ·rw[t2 m hm]
   show (bif decide (m=i) then (v.2.2.1.getD m A8).2.2.2.drop 1 else (v.2.2.1.getD m A8).2.2.2)=_
   rw[ih.qu m hm]
   cases decide (m=i) with
   |true=>rw[cond_true,cond_true,cond_true,Yt]
   |false=>rfl
structure RI (nm:List ByteArray) (k:Nat) (w:Wld):Prop where
 wi:WI w
 few:Bga nm w.2.2.2.2.1
 fo:∀ t,Nba k (inP w t) (λ m=>oN w.2.2.1 m t)
 fi:∀ t,InK leF k w.2.2.1.length (inP w t) (λ m=>oN w.2.2.1 m t)
 ro:∀ t,Nba k (inP w O9) (λ m=>rN w.2.2.1 m t)
 ri:∀ t,InK leR k w.2.2.1.length (inP w O9) (λ m=>rN w.2.2.1 m t)
 qe:∀ m,m<k→(w.2.2.1.getD m A8).2.2.2=[]
def RI.step {nm:List ByteArray} {w:Wld} {i:Nat} (h:RI nm i w) (hi:i<w.2.2.1.length):RI nm (i+1) (qtN w i)∧SW w (qtN w i):=by
 have s1:=A8b h.wi hi
 have o1:=λ m (hm:m<w.2.2.1.length) t=>Ffb h.wi h.few hi hm t
 have r1:=A9b w i
 have w1:=s1.wi h.wi
 have l1:=s1.len
 have p1:=s1.inP
 have f1:Bga nm (qtP w i).2.2.2.2.1:=by rw[s1.ws];exact h.few
 unfold qtN qtT
 generalize qtP w i=u at *
 have ta:=Baa w1 f1 (i:=i) (by omega) (u.2.2.1.getD i A8).2.2.2.length
 generalize Mc u i (u.2.2.1.getD i A8).2.2.2.length=v at *
 have w2:=ta.sw.wi w1
 have l2:=ta.sw.len
 have p2:=λ t=>(ta.sw.inP t).trans (p1 t)
 have f2:Bga nm v.2.2.2.2.1:=by rw[ta.sw.ws];exact f1
 have s3:=Uva w2 (i:=i) (by omega)
 have g3:=λ m (hm:m<w.2.2.1.length)=>Uza w2 f2 (i:=i) (by omega) (m:=m) (by omega)
 rw[p2]at g3
 have l3:=s3.len
 have p3:=λ t=>(s3.inP t).trans (p2 t)
 have f3:Bga nm (Ow v i F3).2.2.2.2.2.1:=by rw[s3.ws];exact f2
 have w3:=s3.wi w2
 have s4:=(s1.trans ta.sw).trans s3
 have eo:∀ t m,m<w.2.2.1.length→oN (Ow v i F3).2.2.2.1 m t=Pl Pk (inP w t) i (λ m=>oN w.2.2.1 m t) m:=λ t m hm=>by
  rw[← o1 m hm t]
  unfold oN
  rw[g3 m hm,← ta.di m (by omega)]
  cases inP w O9 m&&!(decide (m=i)) with
  |true=>rfl
  |false=>cases decide (m=i)&&!(inP w O9 i)<;>rfl
 have tv:∀ t,Nba i (inP w O9) (λ m=>rN v.2.2.1 m t)∧InK leR i w.2.2.1.length (inP w O9) (λ m=>rN v.2.2.1 m t):=λ t=>by
  have:=InK.rows (t:=t) (P:=inP w O9) (k:=i) (n:=w.2.2.1.length) (u.2.2.1.getD i A8).2.2.2 (R:=λ m=>(u.2.2.1.getD m A8).2.2.1) (λ m hm=>w1.give m (by omega)) (by omega) ⟨(h.ro t).eq (n:=w.2.2.1.length) (by omega) (λ m hm=>by
   unfold rN;rw[r1 m]),(h.ri t).eq (by omega) (λ m hm=>by unfold rN;rw[r1 m])⟩
  have e:∀ m,m<w.2.2.1.length→rN v.2.2.1 m t=Ic (bif inP w O9 m then Nj (u.2.2.1.getD m A8).2.2.1 (u.2.2.1.getD i A8).2.2.2 else (u.2.2.1.getD m A8).2.2.1) t:=λ m hm=>by
   have:=ta.ro m (by omega)
   rw[p1,Yj]at this
   unfold rN
   rw[this]
  exact⟨this.1.eq (n:=w.2.2.1.length) (by omega) e,this.2.eq (by omega) e⟩
 have er:∀ t m,m<w.2.2.1.length→rN (Ow v i F3).2.2.2.1 m t=Pl Pda (inP w O9) i (λ m=>rN v.2.2.1 m t) m:=λ t m hm=>by
  have hl:=Rw (w2.give m (by omega)) (w2.give i (by omega)) t
  unfold Pl rN
  rw[g3 m hm]
  dsimp only
  have hno:∀ n:Nod,Ic (Ug n).2.2.1 t=none:=λ _=>rfl
  cases hk:Ic (v.2.2.1.getD i A8).2.2.1 t with
  |none=>
   rw[hk]at hl
   dsimp only
   cases hc:inP w O9 m&&!(decide (m=i)) with
   |true=>
    show Ic (Nj (v.2.2.1.getD m A8).2.2.1 (v.2.2.1.getD i A8).2.2.1) t=_
    rw[hl]
    cases Ic (v.2.2.1.getD m A8).2.2.1 t<;>rfl
   |false=>
    rw[cond_false]
    by_cases hmi:m=i
    ·rw[decide_eq_true hmi,hmi,hk]
     cases inP w O9 i with
     |true=>exact hk
     |false=>rfl
    ·rw[decide_eq_false hmi];rfl
  |some r=>
   rw[hk]at hl
   dsimp only
   cases hc:inP w O9 m&&!(decide (m=i)) with
   |true=>
    show Ic (Nj (v.2.2.1.getD m A8).2.2.1 (v.2.2.1.getD i A8).2.2.1) t=_
    rw[hl]
    cases Ic (v.2.2.1.getD m A8).2.2.1 t<;>rfl
   |false=>
    rw[cond_false,cond_false]
    cases decide (m=i)&&!(inP w O9 i)<;>rfl
 refine⟨⟨w3,f3,λ t=>?_,λ t=>?_,λ t=>?_,λ t=>?_,λ m hm=>?_⟩,s4⟩
 ·rw[p3];exact(h.fo t).step.eq (n:=w.2.2.1.length) (by omega) (eo t)
 ·rw[p3,s4.len];exact((h.fi t).step Fdb).eq (by omega) (eo t)
 ·rw[p3];exact(tv t).1.step.eq (n:=w.2.2.1.length) (by omega) (er t)
 ·rw[p3,s4.len];exact((tv t).2.step Nca).eq (by omega) (er t)
 ·have e1:((Ow v i F3).2.2.2.1.getD m A8).2.2.2=(v.2.2.1.getD m A8).2.2.2:=by
   rw[g3 m (by omega)]
   cases inP w O9 m&&!(decide (m=i)) with
   |true=>rfl
   |false=>cases decide (m=i)&&!(inP w O9 i)<;>rfl
  rw[e1,ta.qu m (by omega)]
  by_cases hmi:m=i
  ·rw[decide_eq_true hmi,cond_true,hmi,We]
  ·rw[decide_eq_false hmi,cond_false,r1 m]
   exact h.qe m (by omega)
def Abb {nm:List ByteArray} {w:Wld} (h:WI w) (hN:Bga nm w.2.2.2.2.1):∀ k,k≤w.2.2.1.length→RI nm k (run qtN k w)∧SW w (run qtN k w)
 |0,_=>⟨⟨h,hN,λ _ m hm=>(by omega),λ _ q hq=>(by omega),λ _ m hm=>(by omega),λ _ q hq=>(by omega),λ m hm=>(by omega)⟩,SW.refl h⟩
 |k+1,hk=>by
  obtain⟨h1,h2⟩:=Abb h hN k (by omega)
  rw[Mm]
  have hl:=h2.len
  generalize run qtN k w=v at *
  obtain⟨h3,h4⟩:=h1.step (by omega)
  exact⟨h3,h2.trans h4⟩
def Nga {nm:List ByteArray} {w:Wld} (h:WI w) (hN:Bga nm w.2.2.2.2.1):RI nm (Qh w).2.2.1.length (Qh w)∧SW w (Qh w):=by
 obtain⟨h1,h2⟩:=Abb h hN _ (Vw _)
 have hl:=h2.len
 unfold Qh
 generalize run qtN w.2.2.1.length w=v at *
 rw[hl]
 exact⟨h1,h2⟩

def I1a {p zs:List Int} {z:Bool} {l:List Dev} (h:(l.map (·.1)).Nodup):(hoA p zs z l).Nodup:=by
 unfold hoA
 exact h.sublist (Isb.map _)
def V0a:∀ {l:List Dev} {a b:Dev},(l.map (·.1)).Nodup→a∈l→b∈l→a.1=b.1→a=b
 |[],_,_,_,h,_,_=>nomatch h
 |x::l,a,b,hn,ha,hb,e=>by
  rw[Yd,Yq]at hn
  rcases Vl.1 ha with ea|ha'
  ·rcases Vl.1 hb with eb|hb'
   ·rw[ea,eb]
   ·exact absurd (by rw[← ea,e];exact Yk hb') hn.1
  ·rcases Vl.1 hb with eb|hb'
   ·exact absurd (by rw[← eb,← e];exact Yk ha') hn.1
   ·exact V0a hn.2 ha' hb' e
def Bwa {r:Rng} {l:List Dev} {x:ByteArray} (h:(l.map (·.1)).Nodup) (hp:(Qm r x).Nodup):(Qm r x++Om r l x).Nodup:=by
 have mem:∀ {z:Bool} {i:Int},i∈hoA (Qm r x) (Jc (Qm r x) l) z l→Lm (Qm r x) i=false∧∃ d∈l,d.1=i∧Lm (Jc (Qm r x) l) d.2.1=z:=by
  intro z i hi
  unfold hoA at hi
  obtain⟨d,hd,rfl⟩:=Zb.1 hi
  obtain⟨h1,h2⟩:=Ibb.1 hd
  rw[Va,Wa,beq_iff_eq]at h2
  exact⟨h2.1,d,h1,rfl,h2.2⟩
 unfold Om
 rw[Yc,Yc]
 refine⟨hp,⟨I1a h,I1a h,λ a ha b hb e=>?_⟩,λ a ha b hb e=>?_⟩
 ·subst e
  obtain⟨_,d,hd,e1,z1⟩:=mem ha
  obtain⟨_,d',hd',e2,z2⟩:=mem hb
  rw[V0a h hd hd' (e1.trans e2.symm)]at z1
  rw[z1]at z2
  cases z2
 ·subst e
  rcases Vn.1 hb with hb|hb
  ·have:=(mem hb).1;rw[Ln.2 ha]at this;cases this
  ·have:=(mem hb).1;rw[Ln.2 ha]at this;cases this
def I2a {ns:List Nod} (h:(ns.map (·.1)).Nodup):∀ {ids:List Int},ids.Nodup→(whr ns ids).Nodup
 |[],_=>Klb
 |id::ids,hi=>by
  obtain⟨h1,h2⟩:=Yq.1 hi
  rw[Xy,Yc]
  refine⟨?_,I2a h h2,λ a ha b hb e=>?_⟩
  ·have:=Kla id ns 0 h
   match hq:atN ns id 0 with
   |[]=>exact Klb
   |[x]=>exact Igb _ _
   |x::y::l=>rw[hq,Vd,Vd]at this;omega
  ·subst e
   obtain⟨j,hj1,hj2,hj3⟩:=(B6a id ns 0 a).1 ha
   obtain⟨i,hi1,hi2,hi3⟩:=T4.1 hb
   have:i=j:=by omega
   subst this
   rw[hj2]at hi2
   exact h1 hi2
def WO.contacts_nodup {w:Wld} (h:WO w) (s:ByteArray):(Im w s).Nodup:=by
 have hd:(w.1.map (·.1)).Nodup:=by rw[← h.ids];exact h.nodup
 exact I2a h.nodup (Bwa hd (W5 h.ring s).1)
def CA (l:List Row) (s:ByteArray) (st:Stp):Prop:=∃ r∈l,r.1=s∧sle r.2.1 st=false
def CV (n:Nod) (l:List Row):Prop:=∀ s st,CA l s st→CA n.2.2.1 s st
def V1a {a b:Row} (h:leR a b):sle b.2.1 a.2.1=false:=by
 unfold leR at h
 have n1:¬ Kr b a=true:=by rw[h];decide
 rw[U2]at n1
 cases hs:sle b.2.1 a.2.1
 ·rfl
 have:=Ny.1 hs
 omega
def V2a {a b:List Row} (ha:Bj a) (hb:Bj b) {s:ByteArray} {st:Stp} (h:CA a s st∨CA b s st):CA (Nj a b) s st:=by
 have hm:=Rw ha hb s
 have fin:∀ y:Row,Ic (Nj a b) s=some y→sle y.2.1 st=false→CA (Nj a b) s st:=λ y h1 h2=>⟨y,(Ks h1).1,(Ks h1).2,h2⟩
 rcases h with⟨r,h1,rfl,h3⟩|⟨r,h1,rfl,h3⟩
 ·rw[Kt ha h1]at hm
  cases hq:Ic b r.1 with
  |none=>rw[hq]at hm;exact fin r hm h3
  |some z=>rw[hq]at hm;exact fin _ hm (Pj (V1a (Nca.ub r z)) h3)
 ·rw[Kt hb h1]at hm
  cases hq:Ic a r.1 with
  |none=>rw[hq]at hm;exact fin r hm h3
  |some z=>rw[hq]at hm;exact fin _ hm (Pj (V1a (Nca.up (some z) r)) h3)
def NG.rows {n:Nod} (h:NG n):Bj n.2.2.1:=(Lh.1 (Bo.1 h.1).2.2.2.1).1
def Gjb {n:Nod} {l:List Row} (hn:NG n) (hl:Js l=true):(tk n l).2.2.2.2=n.2.2.2∧CV (tk n l).2 n.2.2.1∧((tk n l).1=true→CV (tk n l).2 l):=by
 have hls:=(Lh.1 hl).1
 unfold tk
 cases decide ((Nj n.2.2.1 l).length > 60) with
 |true=>exact⟨rfl,λ _ _ h=>h,λ c=>by cases c⟩
 |false=>exact⟨rfl,λ s st h=>V2a hn.rows hls (.inl h),λ _ s st h=>V2a hn.rows hls (.inr h)⟩
def GR (ns ms:List Nod):Prop:=∀ m,(ms.getD m A8).2.2.2=(ns.getD m A8).2.2.2∧CV (ms.getD m A8) (ns.getD m A8).2.2.1
def GR.set {ns ms:List Nod} (h:GR ns ms) {i:Nat} {x:Nod} (hi:i<ms.length) (h1:x.2.2.2=(ms.getD i A8).2.2.2) (h2:CV x (ms.getD i A8).2.2.1):GR ns (ms.set i x):=λ m=>by
 by_cases hm:m<ms.length
 ·rw[Cz hm]
  by_cases e:i=m
  ·subst e
   rw[if_pos rfl]
   exact⟨h1.trans (h i).1,λ s st c=>h2 s st ((h i).2 s st c)⟩
  ·rw[if_neg e];exact h m
 ·have e:(ms.set i x).getD m A8=ms.getD m A8:=by
   rw[Vb,Vb,Yx (by rw[Vv];omega),Yx (by omega)]
  rw[e];exact h m
def Nha {w:Wld} {src:Int} {l:List Row} {self:Bool} {rc:List Int} (hl:Js l=true) (hn:NS w.2.2.1):
  GR w.2.2.1 (Jt w src l self rc).1∧((Jt w src l self rc).2=true→∀ x∈Aw w,(x==src&&!self)=false→CV ((Jt w src l self rc).1.getD x.toNat A8) l):=by
 have hat:=λ x=>Li (w:=w) (x:=x)
 unfold Jt
 generalize Aw w=ps at *
 have key:=Ku (st:=gst src l self rc ps) (n:=ps.length) (a:=(w.2.2.1,true)) (λ j (a:List Nod×Bool)=>NS a.1∧a.1.length=w.2.2.1.length∧GR w.2.2.1 a.1∧
  (a.2=true→∀ x∈ps.take j,(x==src&&!self)=false→CV (a.1.getD x.toNat A8) l)) ⟨hn,rfl,λ m=>⟨rfl,λ _ _ h=>h⟩,λ _ x hx=>by rw[Hob]at hx;cases hx⟩ ?_
 ·rw[Yj]at key
  exact key.2.2
 ·rintro j ⟨ns,g⟩ hj ⟨a1,a2,a3,a4⟩
  dsimp only at a1 a2 a3 a4
  have hpx:=hat _ (A3 (d:=0) hj)
  have htk:∀ x,x∈ps.take (j+1)→x∈ps.take j∨x=ps.getD j 0:=λ x hx=>by
   rw[Wi hj,Vn,Vu]at hx
   rw[Vb,Vj hj]
   exact hx
  unfold gst
  generalize ps.getD j 0=p at *
  have hp:p.toNat<ns.length:=by omega
  cases hps:p==src&&!self with
  |true=>
   refine⟨a1,a2,a3,λ hg x hx hs=>?_⟩
   rcases htk x hx with h|rfl
   ·exact a4 hg x h hs
   ·rw[hps]at hs;cases hs
  |false=>
   rw[cond_false]
   cases rch rc j != 1 with
   |true=>exact⟨a1,a2,a3,λ c=>by cases c⟩
   |false=>
    obtain⟨t1,t2,t3⟩:=Gjb (l:=l) (a1.get hp) hl
    refine⟨a1.set (Frb (a1.get hp) hl),by show (ns.set _ _).length=_;rw[Vv];exact a2,a3.set hp t1 t2,λ hg x hx hs=>?_⟩
    have hg':(tk (ns.getD p.toNat A8) l).1=true∧g=true:=by
     have:(bif (tk (ns.getD p.toNat A8) l).1 then g else false)=true:=hg
     cases h1:(tk (ns.getD p.toNat A8) l).1 with
     |true=>rw[h1]at this;exact⟨rfl,this⟩
     |false=>rw[h1]at this;cases this
    show CV ((ns.set p.toNat (tk (ns.getD p.toNat A8) l).2).getD x.toNat A8) l
    by_cases e:p.toNat=x.toNat
    ·rw[← e,Cz hp,if_pos rfl]
     exact t3 hg'.1
    ·rcases htk x hx with h|rfl
     ·have:=a4 hg'.2 x h hs
      have hxa:=hat x (Hib h)
      rw[Cz (by omega),if_neg e]
      exact this
     ·exact absurd rfl e
def RC (ns:List Nod) (s:ByteArray) (st:Stp):Prop:=∃ i,i<ns.length∧(CA (ns.getD i A8).2.2.1 s st∨CA (ns.getD i A8).2.2.2 s st)
def RC.rq {ns ms:List Nod} (h:RQ ns ms) (hl:ms.length=ns.length) {s:ByteArray} {st:Stp} (hr:RC ns s st):RC ms s st:=by
 obtain⟨i,h1,h2⟩:=hr
 refine⟨i,by omega,?_⟩
 rw[h i]
 exact h2
def Qd {w:Wld} (h:WO w):0<(Aw w).length:=Hqa h.ring h.ids
def Nia {w:Wld} (h:WO w) {i:Nat} (hi:i<w.2.2.1.length) {rc:List Int} {s:ByteArray} {st:Stp} (hr:RC w.2.2.1 s st):RC (Ow w i rc).2.2.2.1 s st:=by
 have hni:=h.ns.get hi
 have hro:=(Bo.1 hni.1).2.2.2.1
 unfold Ow
 cases ((w.2.2.1.getD i A8).2.2.1.length:Int)==0
 case true=>exact hr
 obtain⟨g1,g2⟩:=Nha (src:=(i:Int)) (self:=false) (rc:=rc) hro h.ns
 obtain⟨_,gl⟩:=Qc (w:=w) (src:=(i:Int)) (self:=false) (rc:=rc) hro h.ns
 rw[show Jt w (i:Int) (w.2.2.1.getD i A8).2.2.1 false rc=Lc w i rc from rfl]at g1 g2 gl
 obtain⟨m,m1,m2⟩:=hr
 have grown:RC (Lc w i rc).1 s st:=⟨m,by omega,m2.elim (λ c => .inl ((g1 m).2 s st c)) (λ c => .inr (by rw[(g1 m).1];exact c))⟩
 show RC (bif (Lc w i rc).2&&!(Lm (Aw (wN w (Lc w i rc).1)) (i:Int)) then (Lc w i rc).1.set i (Ug ((Lc w i rc).1.getD i A8)) else (Lc w i rc).1) s st
 cases hc:(Lc w i rc).2&&!(Lm (Aw (wN w (Lc w i rc).1)) (i:Int)) with
 |false=>exact grown
 |true=>
  rw[cond_true]
  rw[Va,Wa]at hc
  have eL:Aw (wN w (Lc w i rc).1)=Aw w:=by
   have e:=(Eza (w:=w) (src:=(i:Int)) (self:=false) (rc:=rc) hro h.ns).2
   unfold Aw
   exact Kka e _
  rw[eL]at hc
  by_cases hmi:m=i
  ·subst hmi
   rcases m2 with c|c
   ·obtain⟨x,hx⟩:=Hqb (Qd h)
    have hxa:=Li hx
    have hxi:(x==(m:Int))=false:=by
     cases hq:x==(m:Int) with
     |false=>rfl
     |true=>
      have:=eq_of_beq hq
      subst this
      rw[Ln.2 hx]at hc
      cases hc.2
    have cv:=g2 hc.1 x hx (by rw[hxi];rfl)
    have hne:m≠x.toNat:=by
     have:=beq_eq_false_iff_ne.1 hxi
     omega
    refine⟨x.toNat,by rw[Vv];omega,.inl ?_⟩
    rw[Cz (by omega),if_neg hne]
    exact cv s st c
   ·refine⟨m,by rw[Vv];omega,.inr ?_⟩
    rw[Cz (by omega),if_pos rfl]
    show CA ((Lc w m rc).1.getD m A8).2.2.2 s st
    rw[(g1 m).1]
    exact c
  ·refine⟨m,by rw[Vv];omega,?_⟩
   rw[Cz (by omega),if_neg (λ e=>hmi e.symm)]
   exact m2.elim (λ c => .inl ((g1 m).2 s st c)) (λ c => .inr (by rw[(g1 m).1];exact c))
def Nja {w:Wld} (h:WO w) {i:Nat} (hi:i<w.2.2.1.length) {rc:List Int} {s:ByteArray} {st:Stp} (hr:RC w.2.2.1 s st):RC (Pi w i rc).2.2.2.1 s st:=by
 have hni:=h.ns.get hi
 have hq:=(Bo.1 hni.1).1
 unfold Pi
 cases ((w.2.2.1.getD i A8).2.2.2.length:Int)==0
 case true=>exact hr
 obtain⟨g1,g2⟩:=Nha (src:=(i:Int)) (self:=true) (rc:=rc) (Lx hq) h.ns
 obtain⟨_,gl⟩:=Qc (w:=w) (src:=(i:Int)) (self:=true) (rc:=rc) (Lx hq) h.ns
 rw[show Jt w (i:Int) ((w.2.2.1.getD i A8).2.2.2.take 1) true rc=Mb w i rc from rfl]at g1 g2 gl
 obtain⟨m,m1,m2⟩:=hr
 have grown:RC (Mb w i rc).1 s st:=⟨m,by omega,m2.elim (λ c => .inl ((g1 m).2 s st c)) (λ c => .inr (by rw[(g1 m).1];exact c))⟩
 show RC (bif (Mb w i rc).2 then (Mb w i rc).1.set i (Zua ((Mb w i rc).1.getD i A8) ((w.2.2.1.getD i A8).2.2.2.drop 1)) else (Mb w i rc).1) s st
 cases hc:(Mb w i rc).2 with
 |false=>exact grown
 |true=>
  rw[cond_true]
  have Ls:∀ k,k<w.2.2.1.length→CA ((Mb w i rc).1.getD k A8).2.2.1 s st→RC ((Mb w i rc).1.set i (Zua ((Mb w i rc).1.getD i A8) ((w.2.2.1.getD i A8).2.2.2.drop 1))) s st:=λ k hk c=>by
   refine⟨k,by rw[Vv];omega,.inl ?_⟩
   rw[Cz (by omega)]
   by_cases e:i=k
   ·subst e;rw[if_pos rfl];exact c
   ·rw[if_neg e];exact c
  rcases m2 with c|c
  ·exact Ls m m1 ((g1 m).2 s st c)
  ·by_cases hmi:i=m
   ·subst hmi
    obtain⟨r,r1,r2,r3⟩:=c
    rw[← Wl 1 (w.2.2.1.getD i A8).2.2.2,Vn]at r1
    rcases r1 with r1|r1
    ·obtain⟨x,hx⟩:=Hqb (Qd h)
     have hxa:=Li hx
     exact Ls x.toNat (by omega) (g2 hc x hx (by rw[Yw,Wq]) s st ⟨r,r1,r2,r3⟩)
    ·refine⟨i,by rw[Vv];omega,.inr ?_⟩
     rw[Cz (by omega),if_pos rfl]
     exact⟨r,r1,r2,r3⟩
   ·refine⟨m,by rw[Vv];omega,.inr ?_⟩
    rw[Cz (by omega),if_neg hmi,(g1 m).1]
    exact c

def Fgb {n:Nod} {s:ByteArray} {f:Fil} {sure:Bool}:(Qg n s f sure).1.2.2.1=n.2.2.1∧(∀ t st,CA n.2.2.2 t st→CA (Qg n s f sure).1.2.2.2 t st)∧(sure=true→(Qg n s f sure).2=0→CA (Qg n s f sure).1.2.2.2 s f.1):=by
 unfold Qg
 cases (n.2.2.2.length:Int)==60
 case true=>exact⟨rfl,λ _ _ h=>h,λ _ h=>by cases h⟩
 refine⟨rfl,λ t st h=>?_,λ hs hc=>?_⟩
 ·show CA (bif (keep n.2.1 s f sure).2==0&&sure then n.2.2.2++[Ua s f] else n.2.2.2) t st
  cases (keep n.2.1 s f sure).2==0&&sure with
  |false=>exact h
  |true=>
   obtain⟨r,h1,h2⟩:=h
   exact⟨r,Vn.2 (.inl h1),h2⟩
 ·show CA (bif (keep n.2.1 s f sure).2==0&&sure then n.2.2.2++[Ua s f] else n.2.2.2) s f.1
  have hc':(keep n.2.1 s f sure).2=0:=hc
  rw[hc',hs]
  exact⟨Ua s f,Vn.2 (.inr (Vu.2 rfl)),rfl,Gk _⟩
def V3a {n:Nod} (hn:NG n) {s:ByteArray} {f:Fil} {sure:Bool} (hs:B0 s=true) (hf:F7 f=true) (hl:∀ o,old n.2.1 s=some o→sle o.1 f.1=true):(Qg n s f sure).2≠1:=by
 unfold Qg
 cases (n.2.2.2.length:Int)==60
 case true=>exact λ h=>by cases h
 show (keep n.2.1 s f sure).2≠1
 rw[U9 hn.g.1 hs hf]
 rcases Rz (f:=f) (sure:=sure) hn.g hs with k|⟨o,h1,h2,_⟩|⟨_,_,h3,_⟩
 ·rw[k];exact λ h=>by cases h
 ·rw[hl o h1]at h2;cases h2
 ·rw[h3];exact λ h=>by cases h
def Fhb {w:Wld} {s:ByteArray} {f:Fil} {rc:List Int} (hn:NS w.2.2.1) (hcs:(Im w s).Nodup) (hs:B0 s=true) (hf:F7 f=true)
  (hl:∀ m,m<w.2.2.1.length→∀ o,old (w.2.2.1.getD m A8).2.1 s=some o→sle o.1 f.1=true):
  (wrN w s f rc).1.length=w.2.2.1.length∧(∀ t st,RC w.2.2.1 t st→RC (wrN w s f rc).1 t st)∧((wrN w s f rc).2.2≥1→RC (wrN w s f rc).1 s f.1):=by
 have hat:=λ x=>Qa (w:=w) (s:=s) (x:=x)
 unfold wrN
 generalize Im w s=cs at *
 have key:=Ku (st:=wst w.2.1.1 rc s f cs) (n:=cs.length) (a:=(w.2.2.1,0,0)) (λ j (a:List Nod×Int×Int)=>NS a.1∧a.1.length=w.2.2.1.length∧(∀ i,j≤i→i<cs.length→a.1.getD (cs.getD i 0).toNat A8=w.2.2.1.getD (cs.getD i 0).toNat A8)∧
  (∀ t st,RC w.2.2.1 t st→RC a.1 t st)∧(a.2.2≥1→RC a.1 s f.1)) ⟨hn,rfl,λ _ _ _=>rfl,λ _ _ h=>h,λ h=>absurd h (show ¬ (0:Int)≥1 by omega)⟩ ?_
 ·exact⟨key.2.1,key.2.2.2.1,key.2.2.2.2⟩
 ·rintro j ⟨ns,q,g⟩ hj ⟨a1,a2,a3,a4,a5⟩
  dsimp only at a1 a2 a3 a4 a5
  have hpx:=hat _ (A3 (d:=0) hj)
  have a3':∀ i,j+1≤i→i<cs.length→ns.getD (cs.getD i 0).toNat A8=w.2.2.1.getD (cs.getD i 0).toNat A8:=λ i h1 h2=>a3 i (by omega) h2
  unfold wst
  cases decide (q<w.2.1.1)
  case false=>exact⟨a1,a2,a3',a4,a5⟩
  cases rch rc j==0
  case true=>exact⟨a1,a2,a3',a4,a5⟩
  rw[cond_true,cond_false]
  have hne:∀ i,j+1≤i→i<cs.length→(cs.getD j 0).toNat≠(cs.getD i 0).toNat:=λ i h1 h2 e=>by
   have hx:=hat _ (A3 (d:=0) h2)
   have e':cs.getD j 0=cs.getD i 0:=by omega
   rw[Vb,Vb,Vj hj,Vj h2]at e'
   exact(Zj.1 hcs j i hj h2 (by omega)) e'
  have hold:=a3 j (Vw _) hj
  have hp0:(cs.getD j 0).toNat<ns.length:=by omega
  generalize (cs.getD j 0).toNat=p at *
  have hp:p<ns.length:=hp0
  have hlp:∀ o,old (ns.getD p A8).2.1 s=some o→sle o.1 f.1=true:=by rw[hold];exact hl p (by omega)
  have hg:=a1.get hp
  obtain⟨q1,q2,q3⟩:=Fgb (n:=ns.getD p A8) (s:=s) (f:=f) (sure:=rch rc j != 3)
  have q4:=V3a (n:=ns.getD p A8) hg (sure:=rch rc j != 3) hs hf hlp
  have gr:∀ t st,RC ns t st→RC (ns.set p (Qg (ns.getD p A8) s f (rch rc j != 3)).1) t st:=λ t st ⟨m,m1,m2⟩=>by
   refine⟨m,by rw[Vv];exact m1,?_⟩
   rw[Cz m1]
   by_cases e:p=m
   ·subst e
    rw[if_pos rfl,q1]
    exact m2.imp id (q2 t st)
   ·rw[if_neg e];exact m2
  refine⟨a1.set (Mla (sure:=rch rc j != 3) hg hs hf),by show (ns.set _ _).length=_;rw[Vv];exact a2,λ i h1 h2=>?_,λ t st h=>gr t st (a4 t st h),λ hge=>?_⟩
  ·show (ns.set p _).getD _ A8=_
   have hx:=hat _ (A3 (d:=0) h2)
   rw[Cz (by omega),if_neg (hne i h1 h2)]
   exact a3' i h1 h2
  ·show RC (ns.set p (Qg (ns.getD p A8) s f (rch rc j != 3)).1) s f.1
   cases hr:rch rc j==1&&((Qg (ns.getD p A8) s f (rch rc j != 3)).2==0||(Qg (ns.getD p A8) s f (rch rc j != 3)).2==1) with
   |true=>
    rw[Va,Zy,beq_iff_eq,beq_iff_eq,beq_iff_eq]at hr
    have e:(rch rc j != 3)=true:=by rw[hr.1];rfl
    refine⟨p,by rw[Vv];exact hp,.inr ?_⟩
    rw[Cz hp,if_pos rfl]
    exact q3 e (hr.2.resolve_right q4)
   |false=>
    have:(bif rch rc j==1&&((Qg (ns.getD p A8) s f (rch rc j != 3)).2==0||(Qg (ns.getD p A8) s f (rch rc j != 3)).2==1) then g+1 else g)≥1:=hge
    rw[hr]at this
    exact gr s f.1 (a5 this)
def LR (w:Wld):Prop:=∀ x∈w.2.2.2.2.1,x.2.2=true→RC w.2.2.1 x.1 x.2.1.1
def LR.mono {w v:Wld} (h:LR w) (e:v.2.2.2.2.1=w.2.2.2.2.1) (hr:∀ s st,RC w.2.2.1 s st→RC v.2.2.1 s st):LR v:=λ x hx ha=>hr _ _ (h x (by rw[← e];exact hx) ha)
def Yia {w:Wld} (h:WI w) (hl:LR w) {s:ByteArray} {f:Fil} {rc:List Int} (hs:B0 s=true) (hf:F7 f=true) (hc:sle w.2.2.2.1 f.1=true):LR (Uf (w.1,w.2.1,w.2.2.1,f.1,w.2.2.2.2) s f rc).2:=by
 obtain⟨_,g1,g2⟩:=Fhb (w:=(w.1,w.2.1,w.2.2.1,f.1,w.2.2.2.2)) (rc:=rc) (s:=s) (f:=f) h.ns (h.wo.contacts_nodup s) hs hf (λ m hm o ho=>by
  obtain⟨x,hx,_,e⟩:=ED.now h.wok ((h.nodes _ (A3 (d:=A8) hm)).2.1 s) ho
  have:=h.wge x hx
  rw[e]at this
  cases hq:sle o.1 f.1 with
  |true=>rfl
  |false=>
   have:=Pj this hq
   rw[this]at hc
   cases hc)
 unfold Uf
 generalize wrN (w.1,w.2.1,w.2.2.1,f.1,w.2.2.2.2) s f rc=a at *
 intro x hx ha
 rcases Vn.1 hx with hx|hx
 ·exact g1 _ _ (hl x hx ha)
 ·rw[Vu.1 hx]at ha ⊢
  have hk:a.2.2≥quo w.2.1.1:=of_decide_eq_true ha
  have hq:quo w.2.1.1≥1:=by
   have:=(Bz.1 h.ring).2.1
   unfold quo
   omega
  exact g2 (by omega)
def Acb {w:Wld} (h:WI w) (hr:LR w) {s:ByteArray} {f:Fil} {t:Int} {rc:List Int} (hd:f.2.1=true→f.2.2=[]):LR (ask w s f t rc).2:=by
 unfold ask
 cases hs:B0 s
 ·exact hr
 rw[Yw,cond_false]
 by_cases hl:(f.2.2.length:Int) > 200
 ·rw[decide_eq_true hl];exact hr
 ·rw[decide_eq_false hl,cond_false]
  cases inR t 0 1000000000
  ·exact hr
  rw[Yw,cond_false]
  cases hw:(w.2.2.2.2.1.length:Int)==200
  case true=>exact hr
  rw[cond_false]
  obtain⟨n1,n2⟩:=Xz h.clk t 0
  cases he:(M5 w.2.2.2.1 t 0).1==w.2.2.2.1.1&&((M5 w.2.2.2.1 t 0).2.1==w.2.2.2.1.2.1&&(M5 w.2.2.2.1 t 0).2.2==w.2.2.2.1.2.2)
  case true=>exact hr
  rw[cond_false]
  have hlt:sle w.2.2.2.1 (M5 w.2.2.2.1 t 0)=true:=by
   rcases n2 with n2|n2
   ·rw[n2,beq_self_eq_true,beq_self_eq_true,beq_self_eq_true]at he;cases he
   ·exact n2
  exact Yia h hr (f:=(M5 w.2.2.2.1 t 0,f.2)) hs (J8.2 ⟨n1,by show f.2.2.length≤200;omega,hd⟩) hlt
def rq1 {ns:List Nod} {i:Nat} {x:Nod} (hx:x.2.2=(ns.getD i A8).2.2) {s:ByteArray} {st:Stp} (h:RC ns s st):RC (ns.set i x) s st:=h.rq ((show RQ ns ns from λ _=>rfl).set hx) Vv
def V4a {w:Wld} (h:WI w) {i:Nat} (hi:i<w.2.2.1.length) {s:ByteArray} {rc:List Int}:(Ph w i s rc).2.2.2.1.length=w.2.2.1.length:=by
 obtain⟨ns,e,hn⟩:=Y0 (rc:=rc) (s:=s) h.wok h.nodes hi h.ring h.ids
 rw[e]
 exact hn.len
def Gkb {w:Wld} (h:WI w) (hr:LR w) {e:Evt}:LR (doW w e).2:=by
 have ae:∀ {q:Int×Wld},LR q.2→LR (Pma q).2:=λ {q} hq=>by
  unfold Pma
  cases q.1 != 2<;>exact hq
 unfold doW
 cases e.1==1
 case true=>exact ae (Acb h hr (λ c=>by cases c))
 cases e.1==2
 case true=>exact ae (Acb h hr (λ _=>rfl))
 cases e.1==3||(e.1==4||(e.1==5||(e.1==6||(e.1==7||e.1==8)))) with
 |true=>
  cases hi:inR e.2.1 0 ((w.2.2.1.length:Int)-1)
  ·exact hr
  have:=F9.1 hi
  have hi':e.2.1.toNat<w.2.2.1.length:=by omega
  rw[cond_false,cond_false,cond_true,cond_true]
  generalize e.2.1.toNat=i at *
  refine hr.mono (N6a w e i) λ s st hc=>?_
  unfold B8a
  cases e.1==3
  case true=>exact hc.rq (Nda w i _ _) (V4a h hi')
  cases e.1==4
  case true=>exact Nia h.wo hi' hc
  cases e.1==5
  case true=>exact Nja h.wo hi' hc
  cases e.1==6
  case true=>exact rq1 (i:=i) (x:=(Zqa (w.2.2.1.getD i A8)).1) rfl hc
  cases e.1==7
  case true=>exact rq1 (i:=i) (x:=crN (w.2.2.1.getD i A8) (Eua e.2.2.2.2.2)) rfl hc
  unfold Zwa I6a
  rw[cond_false,cond_false,cond_false,cond_false,cond_false]
  cases N1 (w.2.2.1.getD i A8)&&((lkD (w.2.2.1.getD i A8).2.1 e.2.2.1).2==0&&(F0a (w.2.2.1.getD i A8).2.1 e.2.2.1 e.2.2.2.2.1).2) with
  |false=>exact hc
  |true=>exact rq1 (i:=i) (x:=((w.2.2.1.getD i A8).1,(F0a (w.2.2.1.getD i A8).2.1 e.2.2.1 e.2.2.2.2.1).1,(w.2.2.1.getD i A8).2.2)) rfl hc
 |false=>
  cases e.1==9
  case false=>exact hr
  rw[cond_false,cond_false,cond_false,cond_true]
  unfold Eva
  cases !(inR e.2.1 0 ((w.1.length:Int)-1))
  case true=>exact hr
  cases !(inR e.2.2.2.2.1 1 1000)<;>exact hr
def RG (w v:Wld):Prop:=∀ s st,RC w.2.2.1 s st→RC v.2.2.1 s st
def D2a {w:Wld} (h:WI w) {i:Nat} (hi:i<w.2.2.1.length):∀ n,SW w (Mc w i n)∧RG w (Mc w i n)
 |0=>⟨SW.refl h,λ _ _ h=>h⟩
 |n+1=>by
  obtain⟨h1,h2⟩:=D2a h hi n
  have hv:=h1.wi h
  have hl:=h1.len
  show SW w (Pi (Mc w i n) i F3).2∧RG w (Pi (Mc w i n) i F3).2
  generalize Mc w i n=v at *
  exact⟨h1.trans (Uua hv (by omega)),λ s st hc=>Nja hv.wo (by omega) (h2 s st hc)⟩
def Fib {w:Wld} (h:WI w) {i:Nat} (hi:i<w.2.2.1.length):SW w (qtN w i)∧RG w (qtN w i):=by
 have s1:=A8b h hi
 have g1:RG w (qtP w i):=λ s st hc=>hc.rq (A9b w i) s1.len
 have w1:=s1.wi h
 have l1:=s1.len
 unfold qtN qtT
 generalize qtP w i=u at *
 obtain⟨s2,g2⟩:=D2a w1 (i:=i) (by omega) (u.2.2.1.getD i A8).2.2.2.length
 generalize Mc u i (u.2.2.1.getD i A8).2.2.2.length=v at *
 have w2:=s2.wi w1
 have l2:=s2.len
 exact⟨(s1.trans s2).trans (Uva w2 (by omega)),λ s st hc=>Nia w2.wo (by omega) (g2 s st (g1 s st hc))⟩
def Adb {w:Wld} (h:WI w):∀ k,k≤w.2.2.1.length→SW w (run qtN k w)∧RG w (run qtN k w)
 |0,_=>⟨SW.refl h,λ _ _ h=>h⟩
 |k+1,hk=>by
  obtain⟨h1,h2⟩:=Adb h k (by omega)
  rw[Mm]
  have hl:=h1.len
  have hv:=h1.wi h
  generalize run qtN k w=v at *
  obtain⟨h3,h4⟩:=Fib hv (i:=k) (by omega)
  exact⟨h1.trans h3,λ s st hc=>h4 s st (h2 s st hc)⟩
def Nka {w:Wld} (h:WI w) (hr:LR w):LR (Qh w):=by
 obtain⟨h1,h2⟩:=Adb h _ (Vw _)
 exact hr.mono h1.ws h2

def V5a {w:Wld} (h:WI w) {s t:ByteArray} {f g:Fil} (hf:IsW w.2.2.2.2.1 s f) (hg:IsW w.2.2.2.2.1 t g) (e:f.1=g.1):f=g:=by
 obtain⟨x,hx,_,rfl⟩:=hf
 obtain⟨y,hy,_,rfl⟩:=hg
 obtain⟨i,hi,rfl⟩:=Ze.1 hx
 obtain⟨j,hj,rfl⟩:=Ze.1 hy
 have ha:=Zj.1 h.asc
 rcases Nat.lt_trichotomy i j with c|c|c
 ·have:=ha i j hi hj c
  rw[e,Gk]at this
  cases this
 ·subst c;rfl
 ·have:=ha j i hj hi c
  rw[e,Gk]at this
  cases this
def Fjb {a b:Stp} (h1:sle a b=false) (h2:sle b a=false):a=b:=by
 have n1:¬ sle a b=true:=by rw[h1];decide
 have n2:¬ sle b a=true:=by rw[h2];decide
 rw[Ny]at n1 n2
 obtain⟨a1,a2,a3⟩:=a
 obtain⟨b1,b2,b3⟩:=b
 dsimp only at n1 n2
 obtain rfl:a1=b1:=by omega
 obtain rfl:a2=b2:=by omega
 obtain rfl:a3=b3:=by omega
 rfl
def V6a {s:ByteArray} {f:Fil}:∀ (ns:List Nod) (a:Bool×Fil),(∀ n∈ns,((lkD n.2.1 s).2==0)=true→(lkD n.2.1 s).1=f)→(a.1=true→a.2=f)→(ns.foldl (Xd s) a).1=true→(ns.foldl (Xd s) a).2=f
 |[],a,_,h,h1=>h h1
 |n::ns,a,hn,h,h1=>by
  rw[Yr]at h1 ⊢
  refine V6a ns _ (λ m hm=>hn m (Vh _ hm)) ?_ h1
  have k:=hn n Ya
  unfold Xd
  cases hc:(lkD n.2.1 s).2==0 with
  |false=>exact h
  |true=>
   rw[cond_true]
   cases !a.1||sle a.2.1 (lkD n.2.1 s).1.1 with
   |true=>exact λ _=>k hc
   |false=>exact h
def Fkb {d:Dsk} {s:ByteArray}:((lkD d s).2==0)=(old d s).isSome:=by
 have:=Uqa (d:=d) (s:=s)
 unfold bne at this
 cases h:(lkD d s).2==0<;>cases h2:old d s<;>simp[h,h2]at this ⊢
section
variable {nm:List ByteArray} {w:Wld}
def RI.names (h:RI nm w.2.2.1.length w) {j:Nat} (hj:j<w.2.2.1.length) {s:ByteArray} (hs:(oN w.2.2.1 j s).isSome=true):lvN w s=true:=by
 obtain⟨f,hf⟩:=Zl.1 hs
 have hP:inP w s j=true:=by
  cases hp:inP w s j with
  |true=>rfl
  |false=>
   have e:oN w.2.2.1 j s=none:=h.fo s j hj hp
   rw[e]at hf
   cases hf
 have isw:∀ m,m<w.2.2.1.length→∀ g,oN w.2.2.1 m s=some g→IsW w.2.2.2.2.1 s g:=λ m hm g hg=>ED.now h.wi.wok ((h.wi.nodes _ (A3 (d:=A8) hm)).2.1 s) hg
 have all:∀ m,m<w.2.2.1.length→oN w.2.2.1 m s=bif inP w s m then some f else none:=λ m hm=>by
  cases hp:inP w s m with
  |false=>exact h.fo s m hm hp
  |true=>
   obtain⟨y,h1,h2⟩:=h.fi s j hj hP f hf m hm hp
   obtain⟨z,h3,h4⟩:=h.fi s m hm hp y h1 j hj hP
   have h3':oN w.2.2.1 j s=some z:=h3
   rw[hf]at h3'
   obtain rfl:=Ikb h3'
   have h1':oN w.2.2.1 m s=some y:=h1
   rw[h1',V5a h.wi (isw j hj f hf) (isw m hm y h1') (Fjb h4 h2)]
   rfl
 unfold lvN
 have hlk:∀ m,m<w.2.2.1.length→((lkD (w.2.2.1.getD m A8).2.1 s).2==0)=inP w s m∧(inP w s m=true→(lkD (w.2.2.1.getD m A8).2.1 s).1=f):=λ m hm=>by
  have a:=all m hm
  unfold oN at a
  refine⟨?_,λ hp=>?_⟩
  ·rw[Fkb,a]
   cases inP w s m<;>rfl
  ·rw[hp]at a
   rw[Kja a]
 have hl:(lat w.2.2.1 s).2=f:=by
  unfold lat
  refine V6a _ _ (λ n hn hc=>?_) (λ c=>by cases c) (Naa _ _ (.inr ⟨_,A3 (d:=A8) hj,by rw[(hlk j hj).1];exact hP⟩))
  obtain⟨m,hm,rfl⟩:=Ze.1 hn
  have e:w.2.2.1[m]=w.2.2.1.getD m A8:=by rw[Vb,Vj hm];rfl
  rw[e]at hc ⊢
  rw[(hlk m hm).1]at hc
  exact(hlk m hm).2 hc
 rw[hl,Hla _ A8,Yg]
 intro m hm
 have hm':=Zq.1 hm
 obtain⟨k1,k2⟩:=hlk m hm'
 have hb:=((isw j hj f hf).good h.wi.wok).2.2
 unfold lvE
 rw[← Yba hm',k1,show Lm (whr w.2.2.1 (Qm w.2.1 s)) (m:Int)=inP w s m from rfl]
 cases hp:inP w s m with
 |false=>rfl
 |true=>
  rw[k2 hp,(U3a hb hb).2 rfl]
  rfl
def RI.rows (h:RI nm w.2.2.1.length w) {j:Nat} (hj:j<w.2.2.1.length):Gub w j=true:=by
 unfold Gub A2b
 rw[h.qe j hj]
 have refl:∀ l:List Row,Uka l l=true:=λ l=>by
  unfold Uka
  rw[beq_self_eq_true,Vx,Yg]
  intro i _
  unfold Gtb
  rw[Xr,Cu.2 rfl,beq_self_eq_true,beq_self_eq_true,beq_self_eq_true,beq_self_eq_true,beq_self_eq_true]
  rfl
 show (true&&_)=true
 rw[Vx]
 have hp:Lm (Aw w) (j:Int)=inP w O9 j:=rfl
 cases hL:inP w O9 j with
 |false=>
  rw[hp,hL,cond_false,Ula]
  have e:(w.2.2.1.getD j A8).2.2.1=[]:=by
   cases hr:(w.2.2.1.getD j A8).2.2.1 with
   |nil=>rfl
   |cons r l=>
    have h1:rN w.2.2.1 j r.1=none:=h.ro r.1 j hj hL
    have h2:=Kt (h.wi.give j hj) (r:=r) (by rw[hr];exact Ya)
    unfold rN at h1
    rw[h1]at h2
    cases h2
  rw[e]
  rfl
 |true=>
  rw[hp,hL,cond_true]
  obtain⟨l0,l1,l2⟩:=Uma (hp.trans hL)
  obtain⟨p,ep⟩:∃ p:Nat,(Aw w).getD 0 0=(p:Int):=⟨((Aw w).getD 0 0).toNat,by omega⟩
  have hpP:inP w O9 p=true:=by
   show Lm (Aw w) (p:Int)=true
   rw[← ep]
   exact Ln.2 (A3 l0)
  rw[ep,Vc]
  have hpn:p<w.2.2.1.length:=by omega
  have e:(w.2.2.1.getD j A8).2.2.1=(w.2.2.1.getD p A8).2.2.1:=by
   refine Aha (h.wi.give j hj) (h.wi.give p hpn) λ t=>?_
   have one:∀ a b,a<w.2.2.1.length→b<w.2.2.1.length→inP w O9 a=true→inP w O9 b=true→∀ x,rN w.2.2.1 a t=some x→rN w.2.2.1 b t=some x:=λ a b ha hb pa pb x hx=>by
    obtain⟨y,h1,h2⟩:=h.ri t a ha pa x hx b hb pb
    obtain⟨z,h3,h4⟩:=h.ri t b hb pb y h1 a ha pa
    have h3':rN w.2.2.1 a t=some z:=h3
    rw[hx]at h3'
    obtain rfl:=Ikb h3'
    have h1':rN w.2.2.1 b t=some y:=h1
    rw[h1',Sha ((Cla _ hx).trans (Cla _ h1').symm) h4 h2]
   show rN w.2.2.1 j t=rN w.2.2.1 p t
   cases h1:rN w.2.2.1 j t with
   |some x=>exact(one j p hj hpn hL hpP x h1).symm
   |none=>
    cases h2:rN w.2.2.1 p t with
    |none=>rfl
    |some x=>rw[one p j hpn hj hpP hL x h2]at h1;cases h1
  rw[e]
  exact refl _
end

def WL (w:Wld):Prop:=WD w∧LR w
def Bxa (a:List Int) (hb:(a.length:Int)≤1048576):Tot (λ k=>Fz k a) WL:=
 Bva (λ _ h=>h.1.1) (λ _ _ h hb hn=>⟨h.1.ev hb hn,Gkb h.1.1 h.2⟩) (λ _ _ _ hb=>⟨⟨Cqb hb,λ x hx=>nomatch hx⟩,λ x hx=>nomatch hx⟩) a hb
def Aeb {s:ByteArray}:∀ (ns:List Nod) (a:Bool×Fil),(a.1=true→(ns.foldl (Xd s) a).1=true∧sle (ns.foldl (Xd s) a).2.1 a.2.1=false)∧
  ∀ n∈ns,((lkD n.2.1 s).2==0)=true→(ns.foldl (Xd s) a).1=true∧sle (ns.foldl (Xd s) a).2.1 (lkD n.2.1 s).1.1=false
 |[],a=>⟨λ h=>⟨h,Gk _⟩,λ n hn=>nomatch hn⟩
 |n::ns,a=>by
  rw[Yr]
  obtain⟨i1,i2⟩:=Aeb ns (Xd s a n)
  have k:(a.1=true→(Xd s a n).1=true∧sle (Xd s a n).2.1 a.2.1=false)∧(((lkD n.2.1 s).2==0)=true→(Xd s a n).1=true∧sle (Xd s a n).2.1 (lkD n.2.1 s).1.1=false):=by
   unfold Xd
   cases hc:(lkD n.2.1 s).2==0 with
   |false=>exact⟨λ h=>⟨h,Gk _⟩,λ h=>by cases h⟩
   |true=>
    rw[cond_true]
    cases ha:a.1 with
    |false=>exact⟨λ h=>(by cases h),λ _=>⟨rfl,Gk _⟩⟩
    |true=>
     cases hs:sle a.2.1 (lkD n.2.1 s).1.1 with
     |true=>exact⟨λ _=>⟨rfl,Re hs⟩,λ _=>⟨rfl,Gk _⟩⟩
     |false=>exact⟨λ _=>⟨ha,Gk _⟩,λ _=>⟨ha,hs⟩⟩
  have up:(Xd s a n).1=true→∀ {st:Stp},sle (Xd s a n).2.1 st=false→(ns.foldl (Xd s) (Xd s a n)).1=true∧sle (ns.foldl (Xd s) (Xd s a n)).2.1 st=false:=λ h st hs=>⟨(i1 h).1,Pj (i1 h).2 hs⟩
  refine⟨λ h=>up (k.1 h).1 (k.1 h).2,λ m hm hg=>?_⟩
  rcases Vl.1 hm with rfl|hm
  ·exact up (k.2 hg).1 (k.2 hg).2
  ·exact i2 m hm hg
def WI.lasts {w:Wld} (h:WI w) {x:Wri} (hx:x∈w.2.2.2.2.1) (ha:x.2.2=true) (hs:x.1∉w.2.2.2.2.2):(lat w.2.2.1 x.1).1=true∧sle (lat w.2.2.1 x.1).2.1 x.2.1.1=false:=by
 obtain⟨i,hi,hh⟩:=h.kept x hx ha hs
 have hm:=A3 (d:=A8) hi
 obtain⟨b,f,h1,h2,h3⟩:=((h.nodes _ hm).2.1 x.1).ge hs hh
 have ho:old (w.2.2.1.getD i A8).2.1 x.1=some f:=by unfold old;rw[h1];exact h2
 obtain⟨k1,k2⟩:=(Aeb (s:=x.1) w.2.2.1 (false,Sxa)).2 _ hm (by rw[Fkb,ho];rfl)
 rw[Kja ho]at k2
 exact⟨k1,Pj k2 h3⟩
def RI.listed {nm:List ByteArray} {w:Wld} (h:RI nm w.2.2.1.length w) (hr:LR w) {x:Wri} (hx:x∈w.2.2.2.2.1) (ha:x.2.2=true) {p:Nat} (hp:p<w.2.2.1.length) (hL:inP w O9 p=true):CA (w.2.2.1.getD p A8).2.2.1 x.1 x.2.1.1:=by
 obtain⟨i,hi,hc⟩:=hr x hx ha
 rw[h.qe i hi]at hc
 rcases hc with⟨r,h1,h2,h3⟩|⟨r,h1,_⟩
 ·have hl:rN w.2.2.1 i x.1=some r:=by rw[← h2];exact Kt (h.wi.give i hi) h1
  have hPi:inP w O9 i=true:=by
   cases hq:inP w O9 i with
   |true=>rfl
   |false=>
    have e:rN w.2.2.1 i x.1=none:=h.ro x.1 i hi hq
    rw[e]at hl
    cases hl
  obtain⟨y,h4,h5⟩:=h.ri x.1 i hi hPi r hl p hp hL
  have h4':Ic (w.2.2.1.getD p A8).2.2.1 x.1=some y:=h4
  exact⟨y,(Ks h4').1,(Ks h4').2,Pj (V1a h5) h3⟩
 ·cases h1
def I3a {nm:List ByteArray} {w:Wld} (h:WI w) (hN:Bga nm w.2.2.2.2.1) (hr:LR w):∀ n,SW w (Nk w n)∧LR (Nk w n)
 |0=>⟨SW.refl h,hr⟩
 |n+1=>by
  obtain⟨h1,h2⟩:=I3a h hN hr n
  exact⟨h1.trans (Nga (h1.wi h) (by rw[h1.ws];exact hN)).2,Nka (h1.wi h) h2⟩

end Go.Proofs.YtiiekghlhfbmmaaGreat.Vf

section
set_option linter.unusedVariables false
set_option linter.unusedSimpArgs false
namespace Go.Proofs.YtiiekghlhfbmmaaGreat.Pure
open Go Go.RowKit Go.Proofs.YtiiekghlhfbmmaaGreat.Vf
theorem B2a (l:List ByteArray) (s:ByteArray) (h:l.length≤1000000000):Tot (λ k=>Gi k l s) (λ r=>r=Sg l s):=by
 unfold Gi Sg
 refine H2b (Q:=λ r=>r=bif l.any (λ y=>teq y s) then .inl true else .inr ()) ?_ (by
  rintro r rfl
  cases l.any (λ y=>teq y s)<;>exact H1b rfl)
 rw[Tza _ Mu]
 refine Hcb (L:=λ k i=>Ct k l s i) _ _ () ?_ ?_
 ·simp (disch:=omega) only [Ct,dF]
  exact H1b rfl
 ·intro j hj Q yes no
  obtain⟨x,ex⟩:∃ x:ByteArray,l.getD j Mu=x:=⟨_,rfl⟩
  rw[ex]at no yes
  have e0:l.getD j (⟨#[]⟩:ByteArray)=x:=ex
  simp (disch:=omega) only [Ct,dT,Vc,w64,e0]
  exact H7b (λ h1=>H1b (yes h1)) (λ h1=>no h1)
def rp (x:Wri) (r:Row):Bool:=teq r.1 x.1&&!(sle r.2.1 x.2.1.1)
theorem Yja {α:Type} {p:α→Bool} {l:List α} {d:α} {j:Nat} (hj:j<l.length):(l.take (j+1)).any p=((l.take j).any p||p (l.getD j d)):=by
 rw[Wi hj,Jrb,I1b,Khb,I5b,Vb,Vj hj,Yu]
theorem Yka (w:Wld) (x:Wri) (l:List Row) (c:List Int) (i:Int) (h:l.length≤1000000000):Tot (λ k=>Bg k c i false l 0 w x) (λ r=>r=(c,i,l.any (rp x),w,x)):=by
 refine Hab (L:=λ k j (b:Bool)=>Bg k c i b l j w x) (Q:=λ r=>r=(c,i,l.any (rp x),w,x)) l.length (λ j b=>b=(l.take j).any (rp x)) ?_ ?_ 0 false (Vp _) rfl
 ·rintro b rfl
  simp (disch:=omega) only [Bg,dF]
  exact H1b (by rw[Yj])
 ·rintro j b hj hb next
  rw[Yja (d:=L6) hj,← hb]at next
  clear hb
  obtain⟨r,er⟩:∃ r:Row,l.getD j L6=r:=⟨_,rfl⟩
  rw[er]at next
  have e0:l.getD j ((⟨#[]⟩:ByteArray),(((0:Int),((0:Int),(0:Int))),(false,(0:Int))))=r:=er
  simp (disch:=omega) only [Bg,dT,Vc,w64,e0,Xq,Vs]
  unfold rp at next
  cases b with
  |true=>exact H4b rfl (next _ rfl)
  |false=>
   refine H3b rfl (H7b (λ h1=>?_) (λ h1=>?_))
   ·rw[show teq r.1 x.1=true from h1]at next
    exact next _ rfl
   ·rw[show teq r.1 x.1=false from h1]at next
    exact next _ rfl
theorem Yla {nm:List ByteArray} {v:Wld} (h:RI nm v.2.2.1.length v) (hr:LR v):Tot (λ k=>Bt k (Aw v) 0 v) (λ r=>r = .inr ()):=by
 have hw:=h.wi.win
 have hwl:=h.wi.wlen
 have hsl:=h.wi.splen
 have hL:=Qd h.wi.wo
 have hp:=A3 (d:=0) hL
 have hpi:=On (w:=v) (s:=O9) (x:=(Aw v).getD 0 0) hp
 obtain⟨p,ep⟩:∃ p:Nat,(Aw v).getD 0 0=(p:Int):=⟨((Aw v).getD 0 0).toNat,by omega⟩
 rw[ep]at hpi hp
 have hin:inP v O9 p=true:=Ln.2 hp
 have hpl:p<v.2.2.1.length:=by omega
 have hm:=hw.2.2.1.2 _ (A3 (d:=A8) hpl)
 have f1:Few (v.2.2.1.getD p A8).2.2.1:=by have:=hm.2.1.1;unfold Few;omega
 refine Hab (L:=λ k i (_:Unit)=>Bt k (Aw v) i v) (Q:=λ r=>r = .inr ()) v.2.2.2.2.1.length (λ _ _=>True) ?_ ?_ 0 () (Vp _) trivial
 ·intro _ _
  simp (disch:=omega) only [Bt,dF]
  exact H1b rfl
 ·intro j _ hj _ next
  have hx:=A3 (d:=Zra) hj
  obtain⟨x,ex⟩:∃ x:Wri,v.2.2.2.2.1.getD j Zra=x:=⟨_,rfl⟩
  rw[ex]at hx
  have e0:v.2.2.2.2.1.getD j ((⟨#[]⟩:ByteArray),((((0:Int),((0:Int),(0:Int))),(false,[])),false))=x:=ex
  have e1:v.2.2.1.getD p ((0:Int),(([],[]),([],[])))=v.2.2.1.getD p A8:=rfl
  have e2:Int.toNat 0=0:=rfl
  simp (disch:=omega) only [Bt,dT,Vc,w64,e0,e2,ep,e1]
  cases ha:x.2.2 with
  |false=>exact H4b rfl (next () trivial)
  |true=>
   refine H3b rfl (Hdb (Yka v x _ (Aw v) (j:Int) (by unfold Few at f1;have:=hm.2.1.1;omega)) ?_)
   have hrow:(v.2.2.1.getD p A8).2.2.1.any (rp x)=true:=by
    obtain⟨r,h1,h2,h3⟩:=h.listed hr hx ha hpl hin
    refine Hpb.2 ⟨r,h1,?_⟩
    unfold rp
    rw[h3,Zh,Zz]
    exact Cu.2 h2
   dsimp only
   rw[hrow]
   refine Hdb (Pba v hw x.1) (H3b rfl (Hdb (B2a _ x.1 (by omega)) ?_))
   simp (disch:=omega) only [w64]
   cases hh:Sg v.2.2.2.2.2 x.1 with
   |true=>exact H3b rfl (next () trivial)
   |false=>
    obtain⟨k1,k2⟩:=h.wi.lasts hx ha (λ c=>by rw[Ol.2 c]at hh;cases hh)
    refine H4b rfl (H3b (by rw[k1];rfl) ?_)
    simp only[Aqa,Vs]
    exact H3b k2 (next () trivial)
theorem FnLasting:∀ (a0:List Int),Ty.fit ti (.sl 5 (.i .u8)) a0→∃ k,C3 k a0=some true:=by
 intro a0 _
 refine Tot.law (f:=λ k=>C3 k a0) ?_
 unfold C3 Na
 refine H2b (H1b (Q:=λ b=>b=decide ((List.length a0:Int) > 1048576)) rfl) ?_
 rintro b rfl
 refine H8b (λ _=>H1b rfl) (λ hb=>?_)
 refine H2b (Bxa a0 (by omega)) ?_
 rintro w ⟨hd,hl⟩
 have h:=hd.1
 have hf:Bga Le w.2.2.2.2.1:=⟨by decide,hd.2⟩
 refine H2b (Kha (h.wo.wim (by decide) h.splen) (by decide) 3 (by decide)) ?_
 rintro _ rfl
 rw[h.rightB,cond_true]
 obtain⟨s2,l2⟩:=I3a h hf hl 2
 have w2:=s2.wi h
 have f2:Bga Le (Nk w 2).2.2.2.2.1:=by rw[s2.ws];exact hf
 rw[show Nk w 3=Qh (Nk w 2) from rfl]
 generalize Nk w 2=u at *
 obtain⟨r3,s3⟩:=Nga w2 f2
 have l3:=Nka w2 l2
 generalize Qh u=v at *
 have w3:=r3.wi
 refine H2b (T5 v w3.win.1 w3.ns.1) ?_
 rintro _ rfl
 have hdl:=w3.dlen
 have hnl:=w3.nlen
 have hL:=Qd w3.wo
 refine H3b (by rw[beq_eq_false_iff_ne];omega) (H3b (by rw[beq_eq_false_iff_ne];omega) (H2b (Yla r3 l3) ?_))
 rintro _ rfl
 exact H1b rfl
end Go.Proofs.YtiiekghlhfbmmaaGreat.Pure
end
