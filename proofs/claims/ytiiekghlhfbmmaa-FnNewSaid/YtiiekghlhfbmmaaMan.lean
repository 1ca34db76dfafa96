import Derived.Test.YtiiekghlhfbmmaaMam
import Derived.Test.YtiiekghlhfbmmaaMaj
set_option linter.all false
namespace Go.Proofs.Ytiiekghlhfbmmaa.Vf
open Go
open List (length getD)
open Int (toNat)
open Go.IntKind (wrap)
open BitVec (ofInt)

def Baa (nm:List ByteArray) (ws:List Wri):Prop:=nm.length≤60∧∀ x∈ws,x.1∈nm
def Ue {nm:List ByteArray} {l:List Nmd} (hs:Bq l) (h:∀ x∈l,x.1∈nm) (hn:nm.length≤60):l.length≤60:=by
 have hp:(l.map (·.1)).Pairwise (λ a b=>tlt a b=true):=Zm.2 hs
 have hd:(l.map (·.1)).Nodup:=hp.imp (λ {a b} hab e=>by subst e;rw[Es]at hab;cases hab)
 have:=Of _ nm hd (λ s hs=>by obtain⟨x,hx,rfl⟩:=Yr.1 hs;exact h x hx)
 rw[Wf]at this
 omega
def Qya {nm:List ByteArray} {l:List Nmd} {s:ByteArray} {b:List Int} (hl:Bq l) (h:∀ x∈l,x.1∈nm) (hs:s∈nm) (hn:nm.length≤60):(wr l s b).length≤60:=by
 have hso:Bq (wr l s b):=Mg (I7 hl) Ry
 refine Ue hso (λ x hx=>?_) hn
 have hg:=Wu hso hx
 rw[Apa hl]at hg
 by_cases e:s=x.1
 ·rw[← e];exact hs
 ·rw[if_neg e]at hg;exact h _ (Ix hg)
section
variable {nm:List ByteArray} {ws:List Wri} {sp:List ByteArray} {d:Dsk} {s:ByteArray} {f:Fil}
def Lxa (hN:Baa nm ws) (hf:IsW ws s f):s∈nm:=by
 obtain⟨x,hx,rfl,_⟩:=hf
 exact hN.2 x hx
def Pia (hN:Baa nm ws) (hd:Ci d=true) (h:DI ws sp d):(∀ x∈d.1,x.1∈nm)∧∀ x∈d.2,x.1∈nm:=by
 refine⟨λ x hx=>?_,λ x hx=>?_⟩
 ·obtain⟨f,hf,_⟩:=(h x.1).1 _ (Wu (H4 hd) hx)
  exact Lxa hN hf
 ·obtain⟨f,hf,_⟩:=(h x.1).2.1 _ (Wu (Jl hd) hx)
  exact Lxa hN hf
def K8 (o:Option Fil) (f:Fil):Fil:=match o with
 |some g=>bif sle g.1 f.1 then f else g
 |none=>f
def Dja (o:Option Fil) (f:Fil):K8 (some (K8 o f)) f=K8 o f:=by
 cases o with
 |none=>simp[K8]
 |some g=>cases h:sle g.1 f.1<;>simp[K8,h]
def Pja (hw:Uc ws) (hN:Baa nm ws) (hd:DG d) (h:DI ws sp d) (hf:IsW ws s f):
  ((keep d s f true).2=0∨(keep d s f true).2=1)∧∀ t,old (keep d s f true).1 t=if s=t then some (K8 (old d s) f) else old d t:=by
 obtain⟨g1,g2,g3⟩:=hf.good hw
 have hs:=Lxa hN hf
 obtain⟨n1,n2⟩:=Pia hN hd.1 h
 have l1:∀ b,(wr d.1 s b).length≤60:=λ b=>Qya (H4 hd.1) n1 hs hN.1
 have h2s:Bq d.2:=Jl hd.1
 have l2:∀ l:List Nmd,(sy (l,d.2) s).length≤60:=λ l=>by
  unfold sy
  cases gt l s with
  |some b=>exact Qya h2s n2 hs hN.1
  |none=>exact Ue (I7 h2s) (λ x hx=>n2 x (Yza.1 hx).1) hN.1
 rw[S4 hd.1 g1 g2]
 rcases Pg (f:=f) (sure:=true) hd g1 with k|⟨o,h1,h2,h3,_,h5⟩|⟨h1,_,h3,_,h5⟩
 ·exfalso
  have hwr:wrD d s (H3 f)=((wr d.1 s (H3 f),d.2),true):=by
   unfold wrD
   rw[decide_eq_true (show (H3 f).length≤400 by have:=F3a f;omega),decide_eq_true (l1 _)]
   rfl
  have hsy:∀ l:List Nmd,(syD (l,d.2) s).2=true:=λ l=>by
   unfold syD
   rw[decide_eq_true (l2 l)]
   rfl
  have k2:∀ (l:List Nmd) (c:Int),(kp2 d s true ((l,d.2),c)).2=c:=λ l c=>by
   unfold kp2
   rw[cond_true,hsy l]
   rfl
  have k3:=congrArg Prod.snd k
  unfold Iz kp1 at k3
  rw[hwr]at k3
  cases ho:old d s with
  |none=>
   rw[ho]at k3
   have:(kp2 d s true ((wr d.1 s (H3 f),d.2),0)).2=3:=k3
   rw[k2]at this
   cases this
  |some o=>
   rw[ho]at k3
   cases hc:sle o.1 f.1 with
   |true=>
    simp only[hc,cond_true]at k3
    rw[k2]at k3
    cases k3
   |false=>
    simp only[hc,cond_false]at k3
    have:(kp2 d s true ((d.1,d.2),1)).2=3:=k3
    rw[k2]at this
    cases this
 ·refine⟨.inr h3,λ t=>?_⟩
  rcases h5 with⟨c,_⟩|⟨_,e⟩
  ·cases c
  ·rw[e]
   show old d t=_
   by_cases hst:s=t
   ·subst hst
    rw[if_pos rfl,h1]
    simp[K8,h2]
   ·rw[if_neg hst]
 ·refine⟨.inl h3,λ t=>?_⟩
  rcases h5 with⟨c,_⟩|⟨_,e⟩
  ·cases c
  ·rw[e]
   show (gt (wr d.1 s (H3 f)) t).bind Iw=_
   rw[Apa (H4 hd.1)]
   by_cases hst:s=t
   ·rw[if_pos hst,if_pos hst,Vt,O7 g2 g3]
    cases ho:old d s with
    |none=>rfl
    |some o=>simp[K8,h1 o ho]
   ·rw[if_neg hst,if_neg hst]
    rfl
end
def T8a {d:Dsk} {s:ByteArray} (hd:DG d) (hg:(gt d.1 s).isSome=true) (t:ByteArray):old (syD (rmD d s).1 s).1 t=if s=t then none else old d t:=by
 have e1:(syD (rmD d s).1 s).1.1=cut d.1 s:=by
  have e:(rmD d s).1=(cut d.1 s,d.2):=by unfold rmD;rw[hg];rfl
  rw[e]
  unfold syD
  cases decide ((sy (cut d.1 s,d.2) s).length≤60)<;>rfl
 unfold old
 rw[e1,O8 (H4 hd.1)]
 by_cases h:s=t
 ·rw[if_pos h,if_pos h];rfl
 ·rw[if_neg h,if_neg h]
def Lya {d:Dsk} (hd:DG d) (t:ByteArray):old (L7 d).1 t=old d t:=by
 obtain⟨_,h⟩:=Nc d.1 (d,0) hd
 unfold old
 by_cases hb:t∈X3 d.1
 ·obtain⟨b,h1,h2⟩:=(Fia hd.1).1 hb
  rw[show gt (L7 d).1.1 t=none from ((h t).1 hb).1,h1,Vt,h2]
  rfl
 ·rw[show gt (L7 d).1.1 t=gt d.1 t from ((h t).2 hb).1]
def Lza {d:Dsk} {s:ByteArray}:((lkD d s).2 != 0)=(old d s).isNone:=by
 unfold lkD old
 cases gt d.1 s with
 |none=>rfl
 |some b=>cases h:Iw b<;>simp[h]
def M0a {d:Dsk} {s:ByteArray} {f:Fil} (h:old d s=some f):lkD d s=(f,0):=by
 unfold old at h
 cases hg:gt d.1 s with
 |none=>rw[hg]at h;cases h
 |some b=>rw[hg]at h;exact Ly.2 ⟨b,hg,h⟩
def M1a (id:Int):∀ {ns ms:List Nod} (i:Nat),ms.map (·.1)=ns.map (·.1)→atN ms id i=atN ns id i
 |[],[],_,_=>rfl
 |n::ns,m::ms,i,h=>by
  rw[Xs,Xs,Yd]at h
  unfold atN
  rw[h.1,M1a id (i+1) h.2]
 |[],_::_,_,h=>by cases h
 |_::_,[],_,h=>by cases h
def M2a {ns ms:List Nod} (h:ms.map (·.1)=ns.map (·.1)) (ids:List Int):whr ms ids=whr ns ids:=by
 unfold whr
 congr 1
 funext id
 exact M1a id 0 h
def M3a (id:Int):∀ (ns:List Nod) (i:Nat),(ns.map (·.1)).Nodup→(atN ns id i).length≤1
 |[],_,_=>Vw _
 |n::ns,i,h=>by
  rw[Xs,Yn]at h
  have ih:=M3a id ns (i+1) h.2
  unfold atN
  cases hx:n.1==id with
  |false=>exact ih
  |true=>
   have he:atN ns id (i+1)=[]:=by
    refine Zqa.2 λ x hx'=>?_
    obtain⟨j,h1,h2,_⟩:=(X5 id ns (i+1) x).1 hx'
    refine h.1 ?_
    rw[eq_of_beq hx,← h2]
    exact Yp (A3 h1)
   rw[cond_true,he]
   exact Vv _
def M4a {ns:List Nod} (h:(ns.map (·.1)).Nodup):∀ (ids:List Int),(whr ns ids).length≤ids.length
 |[]=>Vw _
 |id::ids=>by
  rw[Fma,Vi,Vh]
  have:=M3a id ns 0 h
  have:=M4a h ids
  omega
def WO.nodup {w:Wld} (h:WO w):(w.2.2.1.map (·.1)).Nodup:=by
 rw[h.ids]
 have hp:=(Cv.1 (F7.1 h.ring).1).1
 have hq:(w.1.map (·.1)).Pairwise (λ a b=>a<b):=Zm.2 hp
 exact hq.imp (λ {a b} hab e=>by omega)
def WO.prim5 {w:Wld} (h:WO w) (s:ByteArray):(Nd w s).length≤5:=by
 have h1:=M4a h.nodup (Pj w.2.1 s)
 have h2:=(Lha h.ring s).2.1
 have h3:=(F7.1 h.ring).2.1
 unfold Nd
 omega
def Vya {j:Nat} (h:j<12):rch Ey j=1:=by
 unfold rch
 rw[decide_eq_true (show j<Ey.length from h)]
 have:Ey.getD j 0=1:=by
  match j,h with
  |0,_|1,_|2,_|3,_|4,_|5,_|6,_|7,_|8,_|9,_|10,_|11,_=>rfl
 rw[this]
 rfl
def Ka {α:Type} (bs:Option α→α→α) (P:Nat→Bool) (i:Nat) (c:Nat→Option α) (m:Nat):Option α:=match c i with
 |none=>c m
 |some f=>bif P m&&!(decide (m=i)) then some (bs (c m) f) else bif decide (m=i)&&!(P i) then none else c m
def oN (ns:List Nod) (m:Nat) (t:ByteArray):Option Fil:=old (ns.getD m A7).2.1 t
def inP (w:Wld) (t:ByteArray) (m:Nat):Bool:=Gx (Nd w t) (m:Int)
def T9a {nm:List ByteArray} {w:Wld} (h:WI w) (hN:Baa nm w.2.2.2.2.1) {i:Nat} (hi:i<w.2.2.1.length) {s:ByteArray} {f:Fil} (hf:oN w.2.2.1 i s=some f):
  (puN w i s Ey).2.2=true∧(puN w i s Ey).2.1=inP w s i∧NR w.2.2.2.2.1 w.2.2.2.2.2 w.2.2.1 (puN w i s Ey).1∧
  ∀ m,m<w.2.2.1.length→∀ t,oN (puN w i s Ey).1 m t=bif teq s t&&(inP w s m&&!(decide (m=i))) then some (K8 (oN w.2.2.1 m s) f) else oN w.2.2.1 m t:=by
 have h5:=h.wo.prim5 s
 have hIW:IsW w.2.2.2.2.1 s f:=ED.now h.wok ((h.nodes _ (A3 (d:=A7) hi)).2.1 s) hf
 have hlk:(lkD (w.2.2.1.getD i A7).2.1 s).1=f:=by rw[M0a hf]
 have hat:=λ x=>Qn (w:=w) (s:=s) (x:=x)
 unfold puN inP
 rw[hlk]
 generalize Nd w s=ps at *
 have key:=Jm (st:=pst (i:Int) s f Ey ps) (n:=ps.length) (a:=(w.2.2.1,false,true)) (λ j (a:List Nod×Bool×Bool)=>a.2.2=true∧a.2.1=Gx (ps.take j) (i:Int)∧NR w.2.2.2.2.1 w.2.2.2.2.2 w.2.2.1 a.1∧
  ∀ m,m<w.2.2.1.length→∀ t,oN a.1 m t=bif teq s t&&(Gx (ps.take j) (m:Int)&&!(decide (m=i))) then some (K8 (oN w.2.2.1 m s) f) else oN w.2.2.1 m t) ?_ ?_
 ·rw[Zs]at key
  exact key
 ·exact⟨rfl,rfl,NR.refl h.nodes,λ m _ t=>by
   show _=bif teq s t&&(false&&_) then _ else _
   rw[Ys,Yh]
   rfl⟩
 ·rintro j ⟨ns,o,g⟩ hj ⟨a1,a2,a3,a4⟩
  dsimp only at a1 a2 a3 a4
  subst a1
  have hpx:=hat _ (A3 (d:=0) hj)
  obtain⟨p,hp⟩:∃ p:Nat,ps.getD j 0=(p:Int):=⟨(ps.getD j 0).toNat,by omega⟩
  have htk:∀ x:Int,Gx (ps.take (j+1)) x=(Gx (ps.take j) x||(p:Int)==x):=λ x=>by
   have e:ps[j]=(p:Int):=by rw[← hp,Vb,Vg hj];rfl
   unfold Gx
   rw[Za hj,Atb,e,Z1a,Aub,Yla]
  have hnl:=a3.len
  unfold pst
  rw[hp,Vl,Vya (by omega)]
  cases hpi:(p:Int)==(i:Int) with
  |true=>
   have e:p=i:=by have:=eq_of_beq hpi;omega
   refine⟨rfl,?_,a3,λ m hm t=>?_⟩
   ·show true=_
    rw[htk,hpi,Bool.or_true]
   ·show oN ns m t=_
    rw[a4 m hm t,htk,e]
    by_cases hmi:m=i
    ·rw[decide_eq_true hmi];simp
    ·rw[show ((i:Int)==(m:Int))=false by rw[beq_eq_false_iff_ne];omega,Yla]
  |false=>
   have e:p≠i:=by intro e;rw[e,beq_self_eq_true]at hpi;cases hpi
   have hpn:p<ns.length:=by omega
   have hni:=a3.1 _ (A3 (d:=A7) hpn)
   obtain⟨k1,k2⟩:=Pja h.wok hN hni.1.g hni.2.1 hIW
   obtain⟨d1,d2⟩:=Dfa (sure:=true) h.wok hni.1.g hni.2.1 hIW
   have hcode:((keep (ns.getD p A7).2.1 s f true).2 != 0&&(keep (ns.getD p A7).2.1 s f true).2 != 1)=false:=by
    rcases k1 with k|k<;>rw[k]<;>rfl
   refine⟨?_,?_,a3.set hpn ⟨Dda hni.1,d1,hni.2.2⟩ rfl d2,λ m hm t=>?_⟩
   ·show (bif ((keep (ns.getD p A7).2.1 s f true).2 != 0&&(keep (ns.getD p A7).2.1 s f true).2 != 1) then false else true)=true
    rw[hcode]
    rfl
   ·show o=_
    rw[a2,htk,hpi,Yla]
   ·show oN (ns.set p _) m t=_
    unfold oN
    rw[Fh (show m<ns.length by omega),htk]
    by_cases hpm:p=m
    ·subst hpm
     rw[if_pos rfl,beq_self_eq_true,Bool.or_true,Wd,decide_eq_false e,Zk,Y9a]
     show old (keep (ns.getD p A7).2.1 s f true).1 t=_
     rw[k2 t]
     have a4s:=a4 p hm s
     have a4t:=a4 p hm t
     unfold oN at a4s a4t
     rw[decide_eq_false e,Zk,Y9a]at a4s a4t
     by_cases hst:s=t
     ·subst hst
      rw[if_pos rfl,show teq s s=true from B9.2 rfl,cond_true,a4s,show teq s s=true from B9.2 rfl,Wd]
      cases Gx (ps.take j) (p:Int) with
      |true=>rw[cond_true,Dja]
      |false=>rfl
     ·have ht:teq s t=false:=by cases hq:teq s t with|false=>rfl|true=>exact absurd (B9.1 hq) hst
      rw[if_neg hst,ht,cond_false,a4t,ht,Ys,cond_false]
    ·rw[if_neg hpm,show ((p:Int)==(m:Int))=false by rw[beq_eq_false_iff_ne];omega,Yla]
     exact a4 m hm t
def WI.push {w:Wld} (h:WI w) {i:Nat} (hi:i<w.2.2.1.length) (s:ByteArray) (rc:List Int):WI (Ob w i s rc).2:=h.other' (X9 h.wok h.nodes hi h.ring h.ids)
def Pka {nm:List ByteArray} {w:Wld} (h:WI w) (hN:Baa nm w.2.2.2.2.1) {i:Nat} (hi:i<w.2.2.1.length) (s:ByteArray) {m:Nat} (hm:m<w.2.2.1.length) (t:ByteArray):
  oN (Ob w i s Ey).2.2.2.1 m t=bif teq s t then Ka K8 (inP w s) i (λ m=>oN w.2.2.1 m s) m else oN w.2.2.1 m t:=by
 have hst:∀ {t:ByteArray},teq s t=true→s=t:=λ h=>B9.1 h
 unfold Ob
 rw[Lza]
 cases ho:oN w.2.2.1 i s with
 |none=>
  have:old (w.2.2.1.getD i A7).2.1 s=none:=ho
  rw[this]
  show oN w.2.2.1 m t=_
  cases ht:teq s t with
  |false=>rfl
  |true=>rw[cond_true,← hst ht];unfold Ka;simp only[ho]
 |some f=>
  have e1:old (w.2.2.1.getD i A7).2.1 s=some f:=ho
  rw[e1]
  obtain⟨p1,p2,p3,p4⟩:=T9a h hN hi ho
  show oN (bif (puN w i s Ey).2.2&&!(puN w i s Ey).2.1 then (puN w i s Ey).1.set i (Wda ((puN w i s Ey).1.getD i A7) s) else (puN w i s Ey).1) m t=_
  rw[p1,p2,Wd]
  have hlen:=p3.len
  have T5:Ka K8 (inP w s) i (λ m=>oN w.2.2.1 m s) m=bif inP w s m&&!(decide (m=i)) then some (K8 (oN w.2.2.1 m s) f) else bif decide (m=i)&&!(inP w s i) then none else oN w.2.2.1 m s:=by
   unfold Ka
   simp only[ho]
  cases hin:inP w s i with
  |true=>
   rw[Zb,cond_false,p4 m hm t,T5,hin]
   cases ht:teq s t with
   |false=>rfl
   |true=>
    rw[hst ht,Wd,cond_true,Zb,Yh,cond_false]
  |false=>
   rw[Zk,cond_true,T5,hin]
   unfold oN
   rw[Fh (show m<(puN w i s Ey).1.length by omega)]
   by_cases hmi:i=m
   ·subst hmi
    rw[if_pos rfl,hin,Ys,cond_false,decide_eq_true rfl,Zk,Wd,cond_true]
    have hg:=(p3.1 _ (A3 (d:=A7) (show i<(puN w i s Ey).1.length by omega))).1.g
    have p4s:=p4 i hi s
    have p4t:=p4 i hi t
    rw[hin,Ys,Yh,cond_false]at p4s p4t
    have hgs:(gt ((puN w i s Ey).1.getD i A7).2.1.1 s).isSome=true:=by
     have:old ((puN w i s Ey).1.getD i A7).2.1 s=some f:=p4s.trans ho
     unfold old at this
     cases hq:gt ((puN w i s Ey).1.getD i A7).2.1.1 s with
     |none=>rw[hq]at this;cases this
     |some b=>rfl
    show old (syD (rmD ((puN w i s Ey).1.getD i A7).2.1 s).1 s).1 t=_
    rw[T8a hg hgs t]
    cases ht:teq s t with
    |true=>rw[if_pos (hst ht)];rfl
    |false=>
     rw[if_neg (λ e=>by rw[e,show teq t t=true from B9.2 rfl]at ht;cases ht)]
     exact p4t
   ·rw[if_neg hmi,decide_eq_false (λ e=>hmi e.symm)]
    have:=p4 m hm t
    unfold oN at this
    rw[this,decide_eq_false (λ e=>hmi e.symm)]
    cases ht:teq s t with
    |false=>rfl
    |true=>
     rw[hst ht,Wd,cond_true,Ys,cond_false]

structure BOk {α:Type} (bs:Option α→α→α) (le:α→α→Prop):Prop where
 rf:∀ a,le a a
 tr:∀ {a b c},le a b→le b c→le a c
 up:∀ o f,le f (bs o f)
 ub:∀ g f,le g (bs (some g) f)
 oo:∀ o f,bs o f=f∨o=some (bs o f)
def Fwa {α:Type} (k:Nat) (P:Nat→Bool) (c:Nat→Option α):Prop:=∀ m,m<k→P m=false→c m=none
def InK {α:Type} (le:α→α→Prop) (k n:Nat) (P:Nat→Bool) (c:Nat→Option α):Prop:=∀ q,q<k→P q=true→∀ x,c q=some x→∀ p,p<n→P p=true→∃ y,c p=some y∧le x y
section
variable {α:Type} {bs:Option α→α→α} {le:α→α→Prop} {P:Nat→Bool} {c c':Nat→Option α} {k n:Nat}
def Sm {i m:Nat} (h1:c i=c' i) (h2:c m=c' m):Ka bs P i c m=Ka bs P i c' m:=by
 unfold Ka
 rw[h1,h2]
def Fwa.eq (h:Fwa k P c) (hk:k≤n) (e:∀ m,m<n→c' m=c m):Fwa k P c':=λ m hm hp=>by rw[e m (by omega)];exact h m hm hp
def InK.eq (h:InK le k n P c) (hk:k≤n) (e:∀ m,m<n→c' m=c m):InK le k n P c':=λ q hq hp x hx p hp1 hp2=>by
 rw[e q (by omega)]at hx
 rw[e p hp1]
 exact h q hq hp x hx p hp1 hp2
def Fwa.step (h:Fwa k P c):Fwa (k+1) P (Ka bs P k c):=λ m hm hp=>by
 unfold Ka
 cases hk:c k with
 |none=>
  dsimp only
  by_cases e:m=k
  ·rw[e];exact hk
  ·exact h m (by omega) hp
 |some f=>
  dsimp only
  rw[hp,Ys,cond_false]
  by_cases e:m=k
  ·rw[decide_eq_true e,← e,hp];rfl
  ·rw[decide_eq_false e];exact h m (by omega) hp
def InK.step (hb:BOk bs le) (h:InK le k n P c):InK le (k+1) n P (Ka bs P k c):=by
 intro q hq hPq x hx p hp hPp
 cases hk:c k with
 |none=>
  have e:Ka bs P k c=c:=by funext m;unfold Ka;rw[hk]
  rw[e]at hx ⊢
  by_cases hqk:q=k
  ·rw[hqk,hk]at hx;cases hx
  ·exact h q (by omega) hPq x hx p hp hPp
 |some f=>
  have st:∀ m,P m=true→Ka bs P k c m=if m=k then some f else some (bs (c m) f):=λ m hm=>by
   unfold Ka
   rw[hk]
   dsimp only
   by_cases e:m=k
   ·rw[if_pos e,decide_eq_true e,← e,hm,e,hk];rfl
   ·rw[if_neg e,decide_eq_false e,hm];rfl
  rw[st q hPq]at hx
  rw[st p hPp]
  by_cases hqk:q=k
  ·rw[if_pos hqk]at hx
   obtain rfl:=Zfa hx
   by_cases hpk:p=k
   ·rw[if_pos hpk];exact⟨f,rfl,hb.rf f⟩
   ·rw[if_neg hpk];exact⟨_,rfl,hb.up _ f⟩
  ·rw[if_neg hqk]at hx
   cases hx
   rcases hb.oo (c q) f with e|e
   ·rw[e]
    by_cases hpk:p=k
    ·rw[if_pos hpk];exact⟨f,rfl,hb.rf f⟩
    ·rw[if_neg hpk];exact⟨_,rfl,hb.up _ f⟩
   ·obtain⟨y,h1,h2⟩:=h q (by omega) hPq _ e p hp hPp
    by_cases hpk:p=k
    ·rw[hpk,hk]at h1
     obtain rfl:=Zfa h1
     rw[if_pos hpk];exact⟨f,rfl,h2⟩
    ·rw[if_neg hpk,h1];exact⟨_,rfl,hb.tr h2 (hb.ub y f)⟩
def gvC {α:Type} (bs:Option α→α→α) (P:Nat→Bool) (f:α) (c:Nat→Option α) (m:Nat):Option α:=bif P m then some (bs (c m) f) else c m
def Fwa.gv {f:α} (h:Fwa k P c):Fwa k P (gvC bs P f c):=λ m hm hp=>by
 unfold gvC
 rw[hp]
 exact h m hm hp
def InK.gv {f:α} (hb:BOk bs le) (h:InK le k n P c):InK le k n P (gvC bs P f c):=by
 intro q hq hPq x hx p hp hPp
 unfold gvC at hx ⊢
 rw[hPq,cond_true]at hx
 rw[hPp,cond_true]
 cases hx
 rcases hb.oo (c q) f with e|e
 ·rw[e];exact⟨_,rfl,hb.up _ f⟩
 ·obtain⟨y,h1,h2⟩:=h q hq hPq _ e p hp hPp
  rw[h1];exact⟨_,rfl,hb.tr h2 (hb.ub y f)⟩
end
def leF (a b:Fil):Prop:=sle b.1 a.1=false
def Vza:BOk K8 leF where
 rf:=λ a=>G3 _
 tr:=λ h1 h2=>Pw h2 h1
 up:=λ o f=>by
  cases o with
  |none=>exact G3 _
  |some g=>cases h:sle g.1 f.1<;>simp[leF,K8,h,G3]
 ub:=λ g f=>by
  cases h:sle g.1 f.1<;>simp[leF,K8,h,G3]
  exact Od h
 oo:=λ o f=>by
  cases o with
  |none=>exact .inl rfl
  |some g=>cases h:sle g.1 f.1<;>simp[K8,h]
def leR (a b:Row):Prop:=Hx b a=false
def Hja (o:Option Row) (f:Row):Row:=match o with
 |some g=>mx g f
 |none=>f
def Og (a:Row):Hx a a=false:=by
 cases h:Hx a a
 ·rfl
 have:=N6 h
 rw[h]at this
 cases this
def Qza:BOk Hja leR where
 rf:=Og
 tr:=λ {a b c} h1 h2=>by
  unfold leR at *
  have n1:¬ Hx b a=true:=by rw[h1];decide
  have n2:¬ Hx c b=true:=by rw[h2];decide
  cases h:Hx c a
  ·rfl
  rw[O6]at n1 n2 h
  cases ha:a.2.2.1<;>cases hb:b.2.2.1<;>cases hc:c.2.2.1<;>simp only[ha,hb,hc]at h n1 n2<;>simp at h n1 n2<;>omega
 up:=λ o f=>by
  cases o with
  |none=>exact Og _
  |some g=>cases h:Hx g f<;>simp[leR,Hja,mx,h,Og]
 ub:=λ g f=>by
  cases h:Hx g f<;>simp[leR,Hja,mx,h,Og]
  exact N6 h
 oo:=λ o f=>by
  cases o with
  |none=>exact .inl rfl
  |some g=>cases h:Hx g f<;>simp[Hja,mx,h]
def NR.trans {ws:List Wri} {sp:List ByteArray} {a b c:List Nod} (h1:NR ws sp a b) (h2:NR ws sp b c):NR ws sp a c:=⟨h2.1,h2.2.1.trans h1.2.1,λ s hs st h=>h2.2.2 s hs st (h1.2.2 s hs st h)⟩
def SW (w v:Wld):Prop:=∃ ns,v=wN w ns∧NR w.2.2.2.2.1 w.2.2.2.2.2 w.2.2.1 ns
section
variable {w v u:Wld}
def SW.refl (h:WI w):SW w w:=⟨w.2.2.1,rfl,NR.refl h.nodes⟩
def SW.trans (h1:SW w v) (h2:SW v u):SW w u:=by
 obtain⟨a,rfl,ha⟩:=h1
 obtain⟨b,rfl,hb⟩:=h2
 exact⟨b,rfl,ha.trans hb⟩
def SW.wi (h:SW w v) (hw:WI w):WI v:=by
 obtain⟨ns,rfl,hn⟩:=h
 exact hw.other hn
def SW.len (h:SW w v):v.2.2.1.length=w.2.2.1.length:=by
 obtain⟨ns,rfl,hn⟩:=h
 exact hn.len
def SW.ws (h:SW w v):v.2.2.2.2.1=w.2.2.2.2.1:=by
 obtain⟨ns,rfl,hn⟩:=h
 rfl
def SW.inP (h:SW w v) (t:ByteArray):inP v t=inP w t:=by
 obtain⟨ns,rfl,hn⟩:=h
 funext m
 unfold Vf.inP Nd
 rw[show (wN w ns).2.2.1=ns from rfl,M2a hn.2.1]
def M5a (h:WI w) {i:Nat} (hi:i<w.2.2.1.length) (s:ByteArray):SW w (Ob w i s Ey).2:=X9 h.wok h.nodes hi h.ring h.ids
def Taa (h:WI w) {i:Nat} (hi:i<w.2.2.1.length):SW w (Sj w i Ey).2:=Fsa h.nodes hi
def Tba (h:WI w) {i:Nat} (hi:i<w.2.2.1.length):SW w (Oc w i Ey).2:=Fra h.nodes hi
def R0a (h:WI w) {i:Nat} (hi:i<w.2.2.1.length):SW w (qtA w i):=by
 have hni:=h.nodes _ (A3 (d:=A7) hi)
 obtain⟨c1,c2⟩:=Fqa h.wok hni.1.g hni.2.1
 exact⟨_,rfl,(NR.refl h.nodes).set hi ⟨Lga hni.1,c1,hni.2.2⟩ rfl c2⟩
end
def RQ (ns ms:List Nod):Prop:=∀ m,(ms.getD m A7).2.2=(ns.getD m A7).2.2
def RQ.set {ns ms:List Nod} (h:RQ ns ms) {p:Nat} {x:Nod} (hx:x.2.2=(ms.getD p A7).2.2):RQ ns (ms.set p x):=λ m=>by
 rw[← h m]
 by_cases hm:m<ms.length
 ·rw[Fh hm]
  by_cases e:p=m
  ·rw[if_pos e,hx,e]
  ·rw[if_neg e]
 ·rw[Vb,Vb,Ze (by rw[Wc];omega),Ze (by omega)]
def W0a (w:Wld) (i:Nat) (s:ByteArray) (rc:List Int):RQ w.2.2.1 (puN w i s rc).1:=by
 unfold puN
 refine Jm (λ _ (a:List Nod×Bool×Bool)=>RQ w.2.2.1 a.1) (λ _=>rfl) ?_
 rintro j ⟨ns,o,g⟩ hj a1
 dsimp only at a1
 unfold pst
 cases (Nd w s).getD j 0==(i:Int) with
 |true=>exact a1
 |false=>
  cases rch rc j != 1 with
  |true=>exact a1
  |false=>exact a1.set rfl
def Pla (w:Wld) (i:Nat) (s:ByteArray) (rc:List Int):RQ w.2.2.1 (Ob w i s rc).2.2.2.1:=by
 have h:=W0a w i s rc
 unfold Ob
 cases (lkD (w.2.2.1.getD i A7).2.1 s).2 != 0 with
 |true=>exact λ _=>rfl
 |false=>
  show RQ w.2.2.1 (bif (puN w i s rc).2.2&&!(puN w i s rc).2.1 then (puN w i s rc).1.set i (Wda ((puN w i s rc).1.getD i A7) s) else (puN w i s rc).1)
  cases (puN w i s rc).2.2&&!(puN w i s rc).2.1 with
  |true=>exact h.set rfl
  |false=>exact h
def M6a {s t:ByteArray} (h:s≠t):teq s t=false:=by
 cases hq:teq s t with
 |false=>rfl
 |true=>exact absurd (B9.1 hq) h
def Dka {l:List ByteArray} {t:ByteArray} (h:t∉l):H8a l t=false:=by
 cases hq:H8a l t with
 |false=>rfl
 |true=>exact absurd (Jf.1 hq) h
def Uf {i:Nat}:∀ (l:List ByteArray) {w:Wld},WI w→i<w.2.2.1.length→SW w (Pn w i l)
 |[],w,h,_=>SW.refl h
 |s::l,w,h,hi=>by
  have h1:=M5a h hi s
  exact h1.trans (Uf l (h1.wi h) (by rw[h1.len];exact hi))
def Ug {i:Nat}:∀ (l:List ByteArray) {w:Wld},RQ w.2.2.1 (Pn w i l).2.2.1
 |[],w=>λ _=>rfl
 |s::l,w=>λ m=>(Ug l m).trans (Pla w i s Ey m)
def Uh {nm:List ByteArray} {i:Nat} (t:ByteArray):∀ (l:List ByteArray) {w:Wld},WI w→Baa nm w.2.2.2.2.1→i<w.2.2.1.length→l.Nodup→∀ m,m<w.2.2.1.length→
  oN (Pn w i l).2.2.1 m t=bif H8a l t then Ka K8 (inP w t) i (λ m=>oN w.2.2.1 m t) m else oN w.2.2.1 m t
 |[],w,_,_,_,_,m,_=>rfl
 |s::l,w,h,hN,hi,hl,m,hm=>by
  have h1:=M5a h hi s
  obtain⟨hl1,hl2⟩:=Yn.1 hl
  have ih:=Uh (nm:=nm) t l (h1.wi h) (by rw[h1.ws];exact hN) (by rw[h1.len];exact hi) hl2 m (by rw[h1.len];exact hm)
  have pm:=λ m hm=>Pka h hN hi s (m:=m) hm t
  show oN (Pn (Ob w i s Ey).2 i l).2.2.1 m t=_
  rw[ih,h1.inP]
  by_cases ht:t∈l
  ·have hst:s≠t:=λ e=>hl1 (e ▸ ht)
   rw[Jf.2 ht,Jf.2 (Vd _ ht),cond_true,cond_true]
   refine Sm ?_ ?_
   ·show oN _ i t=_;rw[pm i hi,M6a hst];rfl
   ·show oN _ m t=_;rw[pm m hm,M6a hst];rfl
  ·rw[Dka ht,cond_false,pm m hm]
   by_cases hst:s=t
   ·subst hst
    rw[Jf.2 Yc,B9.2 rfl]
   ·rw[Dka (l:=s::l) (by rw[Vk];rintro (e|e);exact hst e.symm;exact ht e),M6a hst]
    rfl
def Hka {d:Dsk} (hd:Ci d=true):(La d).Nodup:=by
 rw[Oxa (H4 hd)]
 unfold Swa
 have h1:Bq (d.1.filter λ x=>(Iw x.2).isSome):=(H4 hd).sublist A5b
 have hp:((d.1.filter λ x=>(Iw x.2).isSome).map Prod.fst).Pairwise (λ a b=>tlt a b=true):=Zm.2 h1
 exact hp.imp (λ {a b} hab e=>by subst e;rw[Es]at hab;cases hab)
def M7a {d:Dsk} {t:ByteArray} (h:t∉La d):old d t=none:=by
 have h1:¬ T9 d t:=λ c=>h (Sk.2 c)
 have h2:=Lza (d:=d) (s:=t)
 unfold T9 at h1
 cases h3:old d t with
 |none=>rfl
 |some f=>
  rw[h3]at h2
  exact absurd (by simpa using h2) h1
def Fxa {w:Wld} (h:WI w) {i:Nat} (hi:i<w.2.2.1.length) {m:Nat} (hm:m<w.2.2.1.length) (t:ByteArray):oN (qtA w i).2.2.1 m t=oN w.2.2.1 m t:=by
 show oN (w.2.2.1.set i (Vja (w.2.2.1.getD i A7)).1) m t=_
 unfold oN
 rw[Fh hm]
 by_cases e:i=m
 ·subst e
  rw[if_pos rfl]
  exact Lya (h.nodes _ (A3 (d:=A7) hi)).1.g t
 ·rw[if_neg e]
def W1a {w:Wld} (h:WI w) {i:Nat} (hi:i<w.2.2.1.length):SW w (qtP w i):=by
 have h1:=R0a h hi
 exact h1.trans (Uf _ (h1.wi h) (by rw[h1.len];exact hi))
def W2a (w:Wld) (i:Nat):RQ w.2.2.1 (qtP w i).2.2.1:=λ m=>(Ug _ m).trans ((show RQ w.2.2.1 w.2.2.1 from λ _=>rfl).set (p:=i) (x:=(Vja (w.2.2.1.getD i A7)).1) rfl m)
def W3a {nm:List ByteArray} {w:Wld} (h:WI w) (hN:Baa nm w.2.2.2.2.1) {i:Nat} (hi:i<w.2.2.1.length) {m:Nat} (hm:m<w.2.2.1.length) (t:ByteArray):
  oN (qtP w i).2.2.1 m t=Ka K8 (inP w t) i (λ m=>oN w.2.2.1 m t) m:=by
 have h1:=R0a h hi
 have hi':i<(qtA w i).2.2.1.length:=by rw[h1.len];exact hi
 have hd:=((h1.wi h).nodes _ (A3 (d:=A7) hi')).1.g.1
 have k:=Uh (nm:=nm) t (La ((qtA w i).2.2.1.getD i A7).2.1) (h1.wi h) (by rw[h1.ws];exact hN) hi' (Hka hd) m (by rw[h1.len];exact hm)
 show oN (Pn (qtA w i) i _).2.2.1 m t=_
 rw[k,h1.inP]
 by_cases ht:t∈La ((qtA w i).2.2.1.getD i A7).2.1
 ·rw[Jf.2 ht]
  exact Sm (c:=λ m=>oN (qtA w i).2.2.1 m t) (c':=λ m=>oN w.2.2.1 m t) (Fxa h hi hi t) (Fxa h hi hm t)
 ·rw[Dka ht,cond_false,Fxa h hi hm t]
  have e:oN w.2.2.1 i t=none:=(Fxa h hi hi t).symm.trans (M7a ht)
  unfold Ka
  dsimp only
  rw[e]

def Pma {nm:List ByteArray} {ws:List Wri} (hN:Baa nm ws) {a:List Row} (hs:Aq a) (h:∀ r∈a,Im ws r=true):a.length≤60:=by
 have hp:(a.map (·.1)).Pairwise (λ a b=>tlt a b=true):=Zm.2 hs
 have hd:(a.map (·.1)).Nodup:=hp.imp (λ {a b} hab e=>by subst e;rw[Es]at hab;cases hab)
 have:=Of _ nm hd (λ s hs=>by
  obtain⟨r,hr,rfl⟩:=Yr.1 hs
  obtain⟨x,hx,rfl⟩:=Oe.1 (h r hr)
  exact hN.2 x hx)
 rw[Wf]at this
 have:=hN.1
 omega
def Hsa (n:Nod) (l:List Row):Nod:=(n.1,n.2.1,Oi n.2.2.1 l,n.2.2.2)
def NI.rows {ws:List Wri} {sp:List ByteArray} {n:Nod} (h:NI ws sp n):Aq n.2.2.1:=(Ha.1 (Bl.1 h.1.1).2.2.2.1).1
def R1a {nm:List ByteArray} {ws:List Wri} {sp:List ByteArray} (hN:Baa nm ws) {n:Nod} (h:NI ws sp n) {l:List Row} (hr:∀ r∈l,Im ws r=true):tk n l=(true,Hsa n l):=by
 have h1:(Oi n.2.2.1 l).length≤60:=Pma hN (I6 h.rows) (λ r hr'=>(W8 hr').elim (h.2.2.1 r) (hr r))
 unfold tk
 rw[decide_eq_false (by omega)]
 rfl
def Bba {nm:List ByteArray} {w:Wld} (h:WI w) (hN:Baa nm w.2.2.2.2.1) {src:Int} {l:List Row} {self:Bool} (hl:Hm l=true) (hr:∀ r∈l,Im w.2.2.2.2.1 r=true):
  (Nf w src l self Ey).2=true∧∀ m,m<w.2.2.1.length→(Nf w src l self Ey).1.getD m A7=bif inP w J4 m&&!((m:Int)==src&&!self) then Hsa (w.2.2.1.getD m A7) l else w.2.2.1.getD m A7:=by
 have h5:(Em w).length≤5:=h.wo.prim5 J4
 have hat:=λ x=>Ml (w:=w) (x:=x)
 have hls:=(Ha.1 hl).1
 unfold Nf inP
 rw[show Nd w J4=Em w from rfl]
 generalize Em w=ps at *
 have key:=Jm (st:=gst src l self Ey ps) (n:=ps.length) (a:=(w.2.2.1,true)) (λ j (a:List Nod×Bool)=>a.2=true∧NR w.2.2.2.2.1 w.2.2.2.2.2 w.2.2.1 a.1∧
  ∀ m,m<w.2.2.1.length→a.1.getD m A7=bif Gx (ps.take j) (m:Int)&&!((m:Int)==src&&!self) then Hsa (w.2.2.1.getD m A7) l else w.2.2.1.getD m A7) ?_ ?_
 ·rw[Zs]at key
  exact⟨key.1,key.2.2⟩
 ·exact⟨rfl,NR.refl h.nodes,λ m _=>by
   show _=bif false&&_ then _ else _
   rw[Ys]
   rfl⟩
 ·rintro j ⟨ns,g⟩ hj ⟨a1,a3,a4⟩
  dsimp only at a1 a3 a4
  subst a1
  have hpx:=hat _ (A3 (d:=0) hj)
  obtain⟨p,hp⟩:∃ p:Nat,ps.getD j 0=(p:Int):=⟨(ps.getD j 0).toNat,by omega⟩
  have htk:∀ x:Int,Gx (ps.take (j+1)) x=(Gx (ps.take j) x||(p:Int)==x):=λ x=>by
   have e:ps[j]=(p:Int):=by rw[← hp,Vb,Vg hj];rfl
   unfold Gx
   rw[Za hj,Atb,e,Z1a,Aub,Yla]
  have hnl:=a3.len
  have hpn:p<ns.length:=by omega
  have hni:=a3.1 _ (A3 (d:=A7) hpn)
  unfold gst
  rw[hp,Vl,Vya (by omega),R1a hN hni hr]
  cases hpi:(p:Int)==src&&!self with
  |true=>
   refine⟨rfl,a3,λ m hm=>?_⟩
   show ns.getD m A7=_
   rw[a4 m hm,htk]
   by_cases hmp:p=m
   ·subst hmp
    rw[hpi,Zb,Yh,Yh]
   ·rw[show ((p:Int)==(m:Int))=false by rw[beq_eq_false_iff_ne];omega,Yla]
  |false=>
   have hnr:NI w.2.2.2.2.1 w.2.2.2.2.2 (Hsa (ns.getD p A7) l):=by
    obtain⟨t1,_,_⟩:=Vpa (n:=ns.getD p A7) hni hl hr
    rw[R1a hN hni hr]at t1
    exact t1
   refine⟨rfl,a3.set hpn hnr rfl (MO.refl _ _),λ m hm=>?_⟩
   show (ns.set p (Hsa (ns.getD p A7) l)).getD m A7=_
   rw[Fh (show m<ns.length by omega),htk]
   by_cases hpm:p=m
   ·subst hpm
    rw[if_pos rfl,beq_self_eq_true,Bool.or_true,Wd,hpi,Zk,cond_true,a4 p hm,hpi,Zk,Y9a]
    cases Gx (ps.take j) (p:Int) with
    |false=>rfl
    |true=>
     show Hsa (Hsa (w.2.2.1.getD p A7) l) l=Hsa (w.2.2.1.getD p A7) l
     unfold Hsa
     dsimp only
     rw[Kja (h.nodes _ (A3 (d:=A7) hm)).rows hls]
   ·rw[if_neg hpm,show ((p:Int)==(m:Int))=false by rw[beq_eq_false_iff_ne];omega,Yla]
    exact a4 m hm
def Fya {n:Nod} (h:n.2.2.2=[]):n=Tpa n []:=by
 obtain⟨a,b,c,d⟩:=n
 dsimp only at h
 subst h
 rfl
def M8a {nm:List ByteArray} {w:Wld} (h:WI w) (hN:Baa nm w.2.2.2.2.1) {i:Nat} (hi:i<w.2.2.1.length) {m:Nat} (hm:m<w.2.2.1.length):
  (Sj w i Ey).2.2.2.1.getD m A7=Tpa (bif inP w J4 m then Hsa (w.2.2.1.getD m A7) ((w.2.2.1.getD i A7).2.2.2.take 1) else w.2.2.1.getD m A7) (bif decide (m=i) then (w.2.2.1.getD m A7).2.2.2.drop 1 else (w.2.2.1.getD m A7).2.2.2):=by
 have hni:=h.nodes _ (A3 (d:=A7) hi)
 have hq:=(Bl.1 hni.1.1).1
 unfold Sj
 cases hz:((w.2.2.1.getD i A7).2.2.2.length:Int)==0 with
 |true=>
  have e:(w.2.2.1.getD i A7).2.2.2=[]:=Wk (by have:=eq_of_beq hz;omega)
  rw[e]
  show w.2.2.1.getD m A7=_
  by_cases hmi:m=i
  ·subst hmi
   rw[decide_eq_true rfl,e]
   cases inP w J4 m with
   |true=>exact Fya (n:=Hsa (w.2.2.1.getD m A7) []) e
   |false=>exact Fya e
  ·rw[decide_eq_false hmi]
   cases inP w J4 m<;>rfl
 |false=>
  obtain⟨g1,g2⟩:=Bba h hN (src:=(i:Int)) (self:=true) (Ky hq) (λ r hr=>hni.2.2.2 r (Y8a hr))
  have gl:(Lb w i Ey).1.length=w.2.2.1.length:=(Paa (Ky hq) h.ns).2
  rw[show Nf w (i:Int) ((w.2.2.1.getD i A7).2.2.2.take 1) true Ey=Lb w i Ey from rfl]at g1 g2
  have g3:=g2 m hm
  rw[Zb,Yh,Zk,Y9a]at g3
  show (bif (Lb w i Ey).2 then (Lb w i Ey).1.set i (Tpa ((Lb w i Ey).1.getD i A7) ((w.2.2.1.getD i A7).2.2.2.drop 1)) else (Lb w i Ey).1).getD m A7=_
  rw[g1,cond_true,Fh (by omega)]
  by_cases hmi:i=m
  ·subst hmi
   rw[if_pos rfl,g3,decide_eq_true rfl,cond_true]
  ·rw[if_neg hmi,g3,decide_eq_false (λ e=>hmi e.symm),cond_false]
   cases inP w J4 m<;>rfl
def M9a {nm:List ByteArray} {w:Wld} (h:WI w) (hN:Baa nm w.2.2.2.2.1) {i:Nat} (hi:i<w.2.2.1.length) {m:Nat} (hm:m<w.2.2.1.length):
  (Oc w i Ey).2.2.2.1.getD m A7=bif inP w J4 m&&!(decide (m=i)) then Hsa (w.2.2.1.getD m A7) (w.2.2.1.getD i A7).2.2.1 else bif decide (m=i)&&!(inP w J4 i) then Pv (w.2.2.1.getD m A7) else w.2.2.1.getD m A7:=by
 have hni:=h.nodes _ (A3 (d:=A7) hi)
 have hro:=(Bl.1 hni.1.1).2.2.2.1
 unfold Oc
 cases hz:((w.2.2.1.getD i A7).2.2.1.length:Int)==0 with
 |true=>
  have e:(w.2.2.1.getD i A7).2.2.1=[]:=Wk (by have:=eq_of_beq hz;omega)
  rw[e]
  show w.2.2.1.getD m A7=_
  by_cases hmi:m=i
  ·subst hmi
   rw[decide_eq_true rfl,Zb,Yh,cond_false]
   cases inP w J4 m with
   |true=>rfl
   |false=>show _=Pv (w.2.2.1.getD m A7);unfold Pv;rw[← e]
  ·rw[decide_eq_false hmi]
   cases inP w J4 m<;>rfl
 |false=>
  obtain⟨g1,g2⟩:=Bba h hN (src:=(i:Int)) (self:=false) hro hni.2.2.1
  have gn:NR w.2.2.2.2.1 w.2.2.2.2.2 w.2.2.1 (Nf w (i:Int) (w.2.2.1.getD i A7).2.2.1 false Ey).1:=Xa h.nodes hro hni.2.2.1
  rw[show Nf w (i:Int) (w.2.2.1.getD i A7).2.2.1 false Ey=J2 w i Ey from rfl]at g1 g2 gn
  have gl:=gn.len
  have eL:Gx (Em (wN w (J2 w i Ey).1)) (i:Int)=inP w J4 i:=by
   unfold Em inP Nd
   rw[show (wN w (J2 w i Ey).1).2.2.1=(J2 w i Ey).1 from rfl,M2a gn.2.1]
  have gq:∀ q:Nat,((q:Int)==(i:Int)&&!false)=decide (q=i):=λ q=>by
   rw[Zk,Y9a]
   by_cases e:q=i
   ·rw[e,beq_self_eq_true,decide_eq_true rfl]
   ·rw[decide_eq_false e,beq_eq_false_iff_ne];omega
  have g3:=g2 m hm
  rw[gq]at g3
  show (bif (J2 w i Ey).2&&!(Gx (Em (wN w (J2 w i Ey).1)) (i:Int)) then (J2 w i Ey).1.set i (Pv ((J2 w i Ey).1.getD i A7)) else (J2 w i Ey).1).getD m A7=_
  rw[g1,Wd,eL]
  cases hin:inP w J4 i with
  |true=>
   rw[Zb,cond_false,g3,Yh,cond_false]
  |false=>
   rw[Zk,cond_true,Fh (by omega)]
   by_cases hmi:i=m
   ·subst hmi
    rw[if_pos rfl,decide_eq_true rfl,hin,Ys,cond_false,Wd,cond_true]
    rw[decide_eq_true rfl,hin,Ys,cond_false]at g3
    rw[g3]
   ·rw[if_neg hmi,g3,decide_eq_false (λ e=>hmi e.symm),Ys,cond_false]
def rN (ns:List Nod) (m:Nat) (t:ByteArray):Option Row:=F6 (ns.getD m A7).2.2.1 t
def InK.rows {k n:Nat} {P:Nat→Bool} {t:ByteArray}:∀ (q:List Row) {R:Nat→List Row},(∀ m,m<n→Aq (R m))→k≤n→(Fwa k P (λ m=>F6 (R m) t)∧InK leR k n P (λ m=>F6 (R m) t))→
  Fwa k P (λ m=>F6 (bif P m then Oi (R m) q else R m) t)∧InK leR k n P (λ m=>F6 (bif P m then Oi (R m) q else R m) t)
 |[],R,hs,hk,h=>by
  have e:(λ m=>F6 (bif P m then Oi (R m) [] else R m) t)=λ m=>F6 (R m) t:=by
   funext m
   cases P m<;>rfl
  rw[e]
  exact h
 |r::q,R,hs,hk,h=>by
  have e:∀ m,m<n→F6 (bif P m then mrg (R m) r else R m) t=bif teq r.1 t then gvC Hja P r (λ m=>F6 (R m) t) m else F6 (R m) t:=λ m hm=>by
   unfold gvC
   cases P m with
   |false=>cases teq r.1 t<;>rfl
   |true=>
    rw[cond_true,Aba (hs m hm) t]
    cases teq r.1 t with
    |false=>rfl
    |true=>dsimp only;cases F6 (R m) t<;>rfl
  have ih:=InK.rows q (R:=λ m=>bif P m then mrg (R m) r else R m) (P:=P) (t:=t) (k:=k) (n:=n) (λ m hm=>by
   cases P m with
   |true=>exact Mf (hs m hm)
   |false=>exact hs m hm) hk ?_
  ·have e2:(λ m=>F6 (bif P m then Oi (bif P m then mrg (R m) r else R m) q else (bif P m then mrg (R m) r else R m)) t)=λ m=>F6 (bif P m then Oi (R m) (r::q) else R m) t:=by
    funext m
    cases P m<;>rfl
   rw[← e2]
   exact ih
  ·cases ht:teq r.1 t with
   |true=>exact⟨h.1.gv.eq hk (λ m hm=>by rw[e m hm,ht];rfl),(h.2.gv (f:=r) Qza).eq hk (λ m hm=>by rw[e m hm,ht];rfl)⟩
   |false=>exact⟨h.1.eq hk (λ m hm=>by rw[e m hm,ht];rfl),h.2.eq hk (λ m hm=>by rw[e m hm,ht];rfl)⟩
def WI.give {w:Wld} (h:WI w) (m:Nat) (hm:m<w.2.2.1.length):Aq (w.2.2.1.getD m A7).2.2.1:=(h.nodes _ (A3 (d:=A7) hm)).rows
structure TA (w v:Wld) (i n:Nat):Prop where
 sw:SW w v
 di:∀ m,m<w.2.2.1.length→(v.2.2.1.getD m A7).2.1=(w.2.2.1.getD m A7).2.1
 ro:∀ m,m<w.2.2.1.length→(v.2.2.1.getD m A7).2.2.1=bif inP w J4 m then Oi (w.2.2.1.getD m A7).2.2.1 ((w.2.2.1.getD i A7).2.2.2.take n) else (w.2.2.1.getD m A7).2.2.1
 qu:∀ m,m<w.2.2.1.length→(v.2.2.1.getD m A7).2.2.2=bif decide (m=i) then (w.2.2.1.getD m A7).2.2.2.drop n else (w.2.2.1.getD m A7).2.2.2
def Sn {nm:List ByteArray} {w:Wld} (h:WI w) (hN:Baa nm w.2.2.2.2.1) {i:Nat} (hi:i<w.2.2.1.length):∀ n,TA w (Po w i n) i n
 |0=>⟨SW.refl h,λ _ _=>rfl,λ m _=>by cases inP w J4 m<;>rfl,λ m _=>by cases decide (m=i)<;>rfl⟩
 |n+1=>by
  have ih:=Sn h hN hi n
  show TA w (Sj (Po w i n) i Ey).2 i (n+1)
  generalize Po w i n=v at *
  have hv:=ih.sw.wi h
  have hl:=ih.sw.len
  have t1:=Taa hv (i:=i) (by omega)
  have t2:=λ m (hm:m<w.2.2.1.length)=>M8a hv (nm:=nm) (by rw[ih.sw.ws];exact hN) (i:=i) (by omega) (m:=m) (by omega)
  rw[ih.sw.inP]at t2
  refine⟨ih.sw.trans t1,λ m hm=>?_,λ m hm=>?_,λ m hm=>?_⟩
  ·rw[t2 m hm,← ih.di m hm]
   cases inP w J4 m<;>rfl
  ·rw[t2 m hm]
   have r1:=ih.ro m hm
   have q1:=ih.qu i hi
   rw[decide_eq_true rfl,cond_true]at q1
   rw[q1]
   cases hp:inP w J4 m with
   |false=>
    rw[hp,cond_false]at r1
    exact r1
   |true=>
    rw[hp,cond_true]at r1
    show Oi (v.2.2.1.getD m A7).2.2.1 _=Oi _ _
    rw[r1]
    unfold Oi
    rw[← Z3a,Axb (i:=n) (j:=1)]
  ·rw[t2 m hm]
   show (bif decide (m=i) then (v.2.2.1.getD m A7).2.2.2.drop 1 else (v.2.2.1.getD m A7).2.2.2)=_
   rw[ih.qu m hm]
   cases decide (m=i) with
   |true=>rw[cond_true,cond_true,cond_true,Yi]
   |false=>rfl
structure RI (nm:List ByteArray) (k:Nat) (w:Wld):Prop where
 wi:WI w
 few:Baa nm w.2.2.2.2.1
 fo:∀ t,Fwa k (inP w t) (λ m=>oN w.2.2.1 m t)
 fi:∀ t,InK leF k w.2.2.1.length (inP w t) (λ m=>oN w.2.2.1 m t)
 ro:∀ t,Fwa k (inP w J4) (λ m=>rN w.2.2.1 m t)
 ri:∀ t,InK leR k w.2.2.1.length (inP w J4) (λ m=>rN w.2.2.1 m t)
 qe:∀ m,m<k→(w.2.2.1.getD m A7).2.2.2=[]
def RI.step {nm:List ByteArray} {w:Wld} {i:Nat} (h:RI nm i w) (hi:i<w.2.2.1.length):RI nm (i+1) (qtN w i)∧SW w (qtN w i):=by
 have s1:=W1a h.wi hi
 have o1:=λ m (hm:m<w.2.2.1.length) t=>W3a h.wi h.few hi hm t
 have r1:=W2a w i
 have w1:=s1.wi h.wi
 have l1:=s1.len
 have p1:=s1.inP
 have f1:Baa nm (qtP w i).2.2.2.2.1:=by rw[s1.ws];exact h.few
 unfold qtN qtT
 generalize qtP w i=u at *
 have ta:=Sn w1 f1 (i:=i) (by omega) (u.2.2.1.getD i A7).2.2.2.length
 generalize Po u i (u.2.2.1.getD i A7).2.2.2.length=v at *
 have w2:=ta.sw.wi w1
 have l2:=ta.sw.len
 have p2:=λ t=>(ta.sw.inP t).trans (p1 t)
 have f2:Baa nm v.2.2.2.2.1:=by rw[ta.sw.ws];exact f1
 have s3:=Tba w2 (i:=i) (by omega)
 have g3:=λ m (hm:m<w.2.2.1.length)=>M9a w2 f2 (i:=i) (by omega) (m:=m) (by omega)
 rw[p2]at g3
 have l3:=s3.len
 have p3:=λ t=>(s3.inP t).trans (p2 t)
 have f3:Baa nm (Oc v i Ey).2.2.2.2.2.1:=by rw[s3.ws];exact f2
 have w3:=s3.wi w2
 have s4:=(s1.trans ta.sw).trans s3
 have eo:∀ t m,m<w.2.2.1.length→oN (Oc v i Ey).2.2.2.1 m t=Ka K8 (inP w t) i (λ m=>oN w.2.2.1 m t) m:=λ t m hm=>by
  rw[← o1 m hm t]
  unfold oN
  rw[g3 m hm,← ta.di m (by omega)]
  cases inP w J4 m&&!(decide (m=i)) with
  |true=>rfl
  |false=>cases decide (m=i)&&!(inP w J4 i)<;>rfl
 have tv:∀ t,Fwa i (inP w J4) (λ m=>rN v.2.2.1 m t)∧InK leR i w.2.2.1.length (inP w J4) (λ m=>rN v.2.2.1 m t):=λ t=>by
  have:=InK.rows (t:=t) (P:=inP w J4) (k:=i) (n:=w.2.2.1.length) (u.2.2.1.getD i A7).2.2.2 (R:=λ m=>(u.2.2.1.getD m A7).2.2.1) (λ m hm=>w1.give m (by omega)) (by omega) ⟨(h.ro t).eq (n:=w.2.2.1.length) (by omega) (λ m hm=>by
   unfold rN;rw[r1 m]),(h.ri t).eq (by omega) (λ m hm=>by unfold rN;rw[r1 m])⟩
  have e:∀ m,m<w.2.2.1.length→rN v.2.2.1 m t=F6 (bif inP w J4 m then Oi (u.2.2.1.getD m A7).2.2.1 (u.2.2.1.getD i A7).2.2.2 else (u.2.2.1.getD m A7).2.2.1) t:=λ m hm=>by
   have:=ta.ro m (by omega)
   rw[p1,Zs]at this
   unfold rN
   rw[this]
  exact⟨this.1.eq (n:=w.2.2.1.length) (by omega) e,this.2.eq (by omega) e⟩
 have er:∀ t m,m<w.2.2.1.length→rN (Oc v i Ey).2.2.2.1 m t=Ka Hja (inP w J4) i (λ m=>rN v.2.2.1 m t) m:=λ t m hm=>by
  have hl:=Pd (w2.give m (by omega)) (w2.give i (by omega)) t
  unfold Ka rN
  rw[g3 m hm]
  dsimp only
  have hno:∀ n:Nod,F6 (Pv n).2.2.1 t=none:=λ _=>rfl
  cases hk:F6 (v.2.2.1.getD i A7).2.2.1 t with
  |none=>
   rw[hk]at hl
   dsimp only
   cases hc:inP w J4 m&&!(decide (m=i)) with
   |true=>
    show F6 (Oi (v.2.2.1.getD m A7).2.2.1 (v.2.2.1.getD i A7).2.2.1) t=_
    rw[hl]
    cases F6 (v.2.2.1.getD m A7).2.2.1 t<;>rfl
   |false=>
    rw[cond_false]
    by_cases hmi:m=i
    ·rw[decide_eq_true hmi,hmi,hk]
     cases inP w J4 i with
     |true=>exact hk
     |false=>rfl
    ·rw[decide_eq_false hmi];rfl
  |some r=>
   rw[hk]at hl
   dsimp only
   cases hc:inP w J4 m&&!(decide (m=i)) with
   |true=>
    show F6 (Oi (v.2.2.1.getD m A7).2.2.1 (v.2.2.1.getD i A7).2.2.1) t=_
    rw[hl]
    cases F6 (v.2.2.1.getD m A7).2.2.1 t<;>rfl
   |false=>
    rw[cond_false,cond_false]
    cases decide (m=i)&&!(inP w J4 i)<;>rfl
 refine⟨⟨w3,f3,λ t=>?_,λ t=>?_,λ t=>?_,λ t=>?_,λ m hm=>?_⟩,s4⟩
 ·rw[p3];exact(h.fo t).step.eq (n:=w.2.2.1.length) (by omega) (eo t)
 ·rw[p3,s4.len];exact((h.fi t).step Vza).eq (by omega) (eo t)
 ·rw[p3];exact(tv t).1.step.eq (n:=w.2.2.1.length) (by omega) (er t)
 ·rw[p3,s4.len];exact((tv t).2.step Qza).eq (by omega) (er t)
 ·have e1:((Oc v i Ey).2.2.2.1.getD m A7).2.2.2=(v.2.2.1.getD m A7).2.2.2:=by
   rw[g3 m (by omega)]
   cases inP w J4 m&&!(decide (m=i)) with
   |true=>rfl
   |false=>cases decide (m=i)&&!(inP w J4 i)<;>rfl
  rw[e1,ta.qu m (by omega)]
  by_cases hmi:m=i
  ·rw[decide_eq_true hmi,cond_true,hmi,Wl]
  ·rw[decide_eq_false hmi,cond_false,r1 m]
   exact h.qe m (by omega)

def CA (l:List Row) (s:ByteArray) (st:Stp):Prop:=∃ r∈l,r.1=s∧sle r.2.1 st=false
def CV (n:Nod) (l:List Row):Prop:=∀ s st,CA l s st→CA n.2.2.1 s st
def W4a {a b:Row} (h:leR a b):sle b.2.1 a.2.1=false:=by
 unfold leR at h
 have n1:¬ Hx b a=true:=by rw[h];decide
 rw[O6]at n1
 cases hs:sle b.2.1 a.2.1
 ·rfl
 have:=Iv.1 hs
 omega
def NG.rows {n:Nod} (h:NG n):Aq n.2.2.1:=(Ha.1 (Bl.1 h.1).2.2.2.1).1
def GR (ns ms:List Nod):Prop:=∀ m,(ms.getD m A7).2.2.2=(ns.getD m A7).2.2.2∧CV (ms.getD m A7) (ns.getD m A7).2.2.1
def GR.set {ns ms:List Nod} (h:GR ns ms) {i:Nat} {x:Nod} (hi:i<ms.length) (h1:x.2.2.2=(ms.getD i A7).2.2.2) (h2:CV x (ms.getD i A7).2.2.1):GR ns (ms.set i x):=λ m=>by
 by_cases hm:m<ms.length
 ·rw[Fh hm]
  by_cases e:i=m
  ·subst e
   rw[if_pos rfl]
   exact⟨h1.trans (h i).1,λ s st c=>h2 s st ((h i).2 s st c)⟩
  ·rw[if_neg e];exact h m
 ·have e:(ms.set i x).getD m A7=ms.getD m A7:=by
   rw[Vb,Vb,Ze (by rw[Wc];omega),Ze (by omega)]
  rw[e];exact h m
def RC (ns:List Nod) (s:ByteArray) (st:Stp):Prop:=∃ i,i<ns.length∧(CA (ns.getD i A7).2.2.1 s st∨CA (ns.getD i A7).2.2.2 s st)

def LR (w:Wld):Prop:=∀ x∈w.2.2.2.2.1,x.2.2=true→RC w.2.2.1 x.1 x.2.1.1
def LR.mono {w v:Wld} (h:LR w) (e:v.2.2.2.2.1=w.2.2.2.2.1) (hr:∀ s st,RC w.2.2.1 s st→RC v.2.2.1 s st):LR v:=λ x hx ha=>hr _ _ (h x (by rw[← e];exact hx) ha)

def Maa {w:Wld} (h:WI w) {s t:ByteArray} {f g:Fil} (hf:IsW w.2.2.2.2.1 s f) (hg:IsW w.2.2.2.2.1 t g) (e:f.1=g.1):f=g:=by
 obtain⟨x,hx,_,rfl⟩:=hf
 obtain⟨y,hy,_,rfl⟩:=hg
 obtain⟨i,hi,rfl⟩:=Yx.1 hx
 obtain⟨j,hj,rfl⟩:=Yx.1 hy
 have ha:=Zg.1 h.asc
 rcases Nat.lt_trichotomy i j with c|c|c
 ·have:=ha i j hi hj c
  rw[e,G3]at this
  cases this
 ·subst c;rfl
 ·have:=ha j i hj hi c
  rw[e,G3]at this
  cases this
def W5a {a b:Stp} (h1:sle a b=false) (h2:sle b a=false):a=b:=by
 have n1:¬ sle a b=true:=by rw[h1];decide
 have n2:¬ sle b a=true:=by rw[h2];decide
 rw[Iv]at n1 n2
 obtain⟨a1,a2,a3⟩:=a
 obtain⟨b1,b2,b3⟩:=b
 dsimp only at n1 n2
 obtain rfl:a1=b1:=by omega
 obtain rfl:a2=b2:=by omega
 obtain rfl:a3=b3:=by omega
 rfl
def Mba {s:ByteArray} {f:Fil}:∀ (ns:List Nod) (a:Bool×Fil),(∀ n∈ns,((lkD n.2.1 s).2==0)=true→(lkD n.2.1 s).1=f)→(a.1=true→a.2=f)→(ns.foldl (Pga s) a).1=true→(ns.foldl (Pga s) a).2=f
 |[],a,_,h,h1=>h h1
 |n::ns,a,hn,h,h1=>by
  rw[Yl]at h1 ⊢
  refine Mba ns _ (λ m hm=>hn m (Vd _ hm)) ?_ h1
  have k:=hn n Yc
  unfold Pga
  cases hc:(lkD n.2.1 s).2==0 with
  |false=>exact h
  |true=>
   rw[cond_true]
   cases !a.1||sle a.2.1 (lkD n.2.1 s).1.1 with
   |true=>exact λ _=>k hc
   |false=>exact h
def W6a {d:Dsk} {s:ByteArray}:((lkD d s).2==0)=(old d s).isSome:=by
 have:=Lza (d:=d) (s:=s)
 unfold bne at this
 cases h:(lkD d s).2==0<;>cases h2:old d s<;>simp[h,h2]at this ⊢
section
variable {nm:List ByteArray} {w:Wld}
def RI.names (h:RI nm w.2.2.1.length w) {j:Nat} (hj:j<w.2.2.1.length) {s:ByteArray} (hs:(oN w.2.2.1 j s).isSome=true):lvN w s=true:=by
 obtain⟨f,hf⟩:=Zh.1 hs
 have hP:inP w s j=true:=by
  cases hp:inP w s j with
  |true=>rfl
  |false=>
   have e:oN w.2.2.1 j s=none:=h.fo s j hj hp
   rw[e]at hf
   cases hf
 have isw:∀ m,m<w.2.2.1.length→∀ g,oN w.2.2.1 m s=some g→IsW w.2.2.2.2.1 s g:=λ m hm g hg=>ED.now h.wi.wok ((h.wi.nodes _ (A3 (d:=A7) hm)).2.1 s) hg
 have all:∀ m,m<w.2.2.1.length→oN w.2.2.1 m s=bif inP w s m then some f else none:=λ m hm=>by
  cases hp:inP w s m with
  |false=>exact h.fo s m hm hp
  |true=>
   obtain⟨y,h1,h2⟩:=h.fi s j hj hP f hf m hm hp
   obtain⟨z,h3,h4⟩:=h.fi s m hm hp y h1 j hj hP
   have h3':oN w.2.2.1 j s=some z:=h3
   rw[hf]at h3'
   obtain rfl:=Zfa h3'
   have h1':oN w.2.2.1 m s=some y:=h1
   rw[h1',Maa h.wi (isw j hj f hf) (isw m hm y h1') (W5a h4 h2)]
   rfl
 unfold lvN
 have hlk:∀ m,m<w.2.2.1.length→((lkD (w.2.2.1.getD m A7).2.1 s).2==0)=inP w s m∧(inP w s m=true→(lkD (w.2.2.1.getD m A7).2.1 s).1=f):=λ m hm=>by
  have a:=all m hm
  unfold oN at a
  refine⟨?_,λ hp=>?_⟩
  ·rw[W6a,a]
   cases inP w s m<;>rfl
  ·rw[hp]at a
   rw[M0a a]
 have hl:(lat w.2.2.1 s).2=f:=by
  unfold lat
  refine Mba _ _ (λ n hn hc=>?_) (λ c=>by cases c) (Fua _ _ (.inr ⟨_,A3 (d:=A7) hj,by rw[(hlk j hj).1];exact hP⟩))
  obtain⟨m,hm,rfl⟩:=Yx.1 hn
  have e:w.2.2.1[m]=w.2.2.1.getD m A7:=by rw[Vb,Vg hm];rfl
  rw[e]at hc ⊢
  rw[(hlk m hm).1]at hc
  exact(hlk m hm).2 hc
 rw[hl,J1 _ A7,We]
 intro m hm
 have hm':=Yt.1 hm
 obtain⟨k1,k2⟩:=hlk m hm'
 have hb:=((isw j hj f hf).good h.wi.wok).2.2
 unfold lvE
 rw[← Pha hm',k1,show Gx (whr w.2.2.1 (Pj w.2.1 s)) (m:Int)=inP w s m from rfl]
 cases hp:inP w s m with
 |false=>rfl
 |true=>
  rw[k2 hp,(Sh hb hb).2 rfl]
  rfl
def RI.rows (h:RI nm w.2.2.1.length w) {j:Nat} (hj:j<w.2.2.1.length):T7a w j=true:=by
 unfold T7a Lva
 rw[h.qe j hj]
 have refl:∀ l:List Row,Dia l l=true:=λ l=>by
  unfold Dia
  rw[beq_self_eq_true,Wd,We]
  intro i _
  unfold Vwa
  rw[Qi,B9.2 rfl,beq_self_eq_true,beq_self_eq_true,beq_self_eq_true,beq_self_eq_true,beq_self_eq_true]
  rfl
 show (true&&_)=true
 rw[Wd]
 have hp:Gx (Em w) (j:Int)=inP w J4 j:=rfl
 cases hL:inP w J4 j with
 |false=>
  rw[hp,hL,cond_false,B8a]
  have e:(w.2.2.1.getD j A7).2.2.1=[]:=by
   cases hr:(w.2.2.1.getD j A7).2.2.1 with
   |nil=>rfl
   |cons r l=>
    have h1:rN w.2.2.1 j r.1=none:=h.ro r.1 j hj hL
    have h2:=H2 (h.wi.give j hj) (r:=r) (by rw[hr];exact Yc)
    unfold rN at h1
    rw[h1]at h2
    cases h2
  rw[e]
  rfl
 |true=>
  rw[hp,hL,cond_true]
  obtain⟨l0,l1,l2⟩:=B9a (hp.trans hL)
  obtain⟨p,ep⟩:∃ p:Nat,(Em w).getD 0 0=(p:Int):=⟨((Em w).getD 0 0).toNat,by omega⟩
  have hpP:inP w J4 p=true:=by
   show Gx (Em w) (p:Int)=true
   rw[← ep]
   exact Je.2 (A3 l0)
  rw[ep,Vl]
  have hpn:p<w.2.2.1.length:=by omega
  have e:(w.2.2.1.getD j A7).2.2.1=(w.2.2.1.getD p A7).2.2.1:=by
   refine Rq (h.wi.give j hj) (h.wi.give p hpn) λ t=>?_
   have one:∀ a b,a<w.2.2.1.length→b<w.2.2.1.length→inP w J4 a=true→inP w J4 b=true→∀ x,rN w.2.2.1 a t=some x→rN w.2.2.1 b t=some x:=λ a b ha hb pa pb x hx=>by
    obtain⟨y,h1,h2⟩:=h.ri t a ha pa x hx b hb pb
    obtain⟨z,h3,h4⟩:=h.ri t b hb pb y h1 a ha pa
    have h3':rN w.2.2.1 a t=some z:=h3
    rw[hx]at h3'
    obtain rfl:=Zfa h3'
    have h1':rN w.2.2.1 b t=some y:=h1
    rw[h1',Kia ((U0 _ hx).trans (U0 _ h1').symm) h4 h2]
   show rN w.2.2.1 j t=rN w.2.2.1 p t
   cases h1:rN w.2.2.1 j t with
   |some x=>exact(one j p hj hpn hL hpP x h1).symm
   |none=>
    cases h2:rN w.2.2.1 p t with
    |none=>rfl
    |some x=>rw[one p j hpn hj hpP hL x h2]at h1;cases h1
  rw[e]
  exact refl _
def RI.level (h:RI nm w.2.2.1.length w):Wea w=true:=by
 unfold Wea
 rw[Va,We,We]
 refine⟨λ j hj=>?_,λ j hj=>h.rows (Yt.1 hj)⟩
 have hj':=Yt.1 hj
 unfold Vxa
 rw[We]
 intro s hs
 refine h.names hj' ?_
 have:=Sk.1 hs
 unfold T9 at this
 rw[W6a]at this
 exact this
end

def RI.listed {nm:List ByteArray} {w:Wld} (h:RI nm w.2.2.1.length w) (hr:LR w) {x:Wri} (hx:x∈w.2.2.2.2.1) (ha:x.2.2=true) {p:Nat} (hp:p<w.2.2.1.length) (hL:inP w J4 p=true):CA (w.2.2.1.getD p A7).2.2.1 x.1 x.2.1.1:=by
 obtain⟨i,hi,hc⟩:=hr x hx ha
 rw[h.qe i hi]at hc
 rcases hc with⟨r,h1,h2,h3⟩|⟨r,h1,_⟩
 ·have hl:rN w.2.2.1 i x.1=some r:=by rw[← h2];exact H2 (h.wi.give i hi) h1
  have hPi:inP w J4 i=true:=by
   cases hq:inP w J4 i with
   |true=>rfl
   |false=>
    have e:rN w.2.2.1 i x.1=none:=h.ro x.1 i hi hq
    rw[e]at hl
    cases hl
  obtain⟨y,h4,h5⟩:=h.ri x.1 i hi hPi r hl p hp hL
  have h4':F6 (w.2.2.1.getD p A7).2.2.1 x.1=some y:=h4
  exact⟨y,(Hb h4').1,(Hb h4').2,Pw (W4a h5) h3⟩
 ·cases h1

section
open Go
end

section
open Go
end

section
open Go
end

def So {l:List Dev} {parts reps:Int} {m:Nat} (hm:m<(Sw l parts reps).2.2.1.length):((Sw l parts reps).2.2.1.getD m A7).2=(([],[]),[],[]):=by
 obtain⟨d,_,e⟩:=Yr.1 (show (Sw l parts reps).2.2.1.getD m A7∈l.map Dha from A3 hm)
 rw[← e]
 rfl
def Tca {l:List Dev} {parts reps:Int} (hb:(build l parts reps).2=true):RI [] (Sw l parts reps).2.2.1.length (Sw l parts reps):=by
 have ho:∀ m,m<(Sw l parts reps).2.2.1.length→∀ t,oN (Sw l parts reps).2.2.1 m t=none:=λ m hm t=>by
  unfold oN
  rw[So hm]
  rfl
 have hr:∀ m,m<(Sw l parts reps).2.2.1.length→∀ t,rN (Sw l parts reps).2.2.1 m t=none:=λ m hm t=>by
  unfold rN
  rw[So hm]
  rfl
 exact {
  wi:=T4a hb
  few:=⟨Vw _,λ x hx=>nomatch hx⟩
  fo:=λ t m hm _=>ho m hm t
  fi:=λ t q hq _ x hx=>by dsimp only at hx;rw[ho q hq t]at hx;cases hx
  ro:=λ t m hm _=>hr m hm t
  ri:=λ t q hq _ x hx=>by dsimp only at hx;rw[hr q hq t]at hx;cases hx
  qe:=λ m hm=>by rw[So hm] }
def X7a (ns:List Nod) (s:ByteArray) (T:Stp):Prop:=(∀ m,m<ns.length→∀ o,oN ns m s=some o→sle T o.1=false)∧∃ m,m<ns.length∧∃ o,oN ns m s=some o∧o.1=T
def X7a.set {ns:List Nod} {s:ByteArray} {T:Stp} (h:X7a ns s T) {p:Nat} (hp:p<ns.length) {x:Nod} (hx:old x.2.1 s=oN ns p s∨∃ f,old x.2.1 s=some f∧sle T f.1=false∧∀ o,oN ns p s=some o→sle o.1 f.1=true):X7a (ns.set p x) s T:=by
 have e:∀ m,m<ns.length→oN (ns.set p x) m s=if p=m then old x.2.1 s else oN ns m s:=λ m hm=>by
  unfold oN
  rw[Fh hm]
  by_cases h:p=m
  ·rw[if_pos h,if_pos h]
  ·rw[if_neg h,if_neg h]
 obtain⟨h1,m,hm,o,h2,h3⟩:=h
 refine⟨λ m hm o ho=>?_,m,by rw[Wc];exact hm,?_⟩
 ·rw[Wc]at hm
  rw[e m hm]at ho
  by_cases hpm:p=m
  ·rw[if_pos hpm]at ho
   rcases hx with hx|⟨f,hx,hf,_⟩
   ·rw[hx]at ho;exact h1 p hp o ho
   ·rw[hx]at ho;cases ho;exact hf
  ·rw[if_neg hpm]at ho;exact h1 m hm o ho
 ·rw[e m hm]
  by_cases hpm:p=m
  ·subst hpm
   rw[if_pos rfl]
   rcases hx with hx|⟨f,hx,hf,hl⟩
   ·rw[hx];exact⟨o,h2,h3⟩
   ·have:=hl o h2
    rw[h3,hf]at this
    cases this
  ·rw[if_neg hpm];exact⟨o,h2,h3⟩

def Bca (l:List Dev) (parts reps:Int) (z:Rng) (hl:Gi l=true) (h0:0≤reps) (h5:reps≤5) (ps:List (List Int)) (hps:ps.length≤100) (hq:∀ q∈ps,q.length≤100):∀ (n:Nat) (p:List Int),p.length+n=reps.toNat→
  Tot (λ k=>E6 k l reps (ps.length:Int) parts (ps.length:Int) reps (p.length:Int) z (reps,ps++[p])) (λ x=>x=(l,reps,parts,(ps.length:Int),z,(reps,ps++[T4 l reps ps n p]))):=by
 intro n
 induction n with
 |zero=>
  intro p hp
  refine Tot.succ ?_
  simp (disch:=omega) only [E6,dF]
  exact Xoa rfl
 |succ n ih=>
  intro p hp
  refine Tot.succ ?_
  have hrb:RBd (reps,ps++[p]):=⟨by simp only[Vi,Vh,Vq];omega,λ q hq'=>by
   rcases Vm.1 hq' with h|h
   ·have:=hq q h;omega
   ·rw[Vp.1 h];omega⟩
  have hlen:(ps++[p]).length=ps.length+1:=by simp
  simp (disch:=omega) only [E6,dT,Vl,w64,hlen,Ava,Fca]
  refine Y0a (Oqa (reps,ps++[p]) p l hrb (by omega) hl) ?_
  refine Xwa (by simp only[Vh,Vq];omega) ?_
  have:=ih (p++[Ql (reps,ps++[p]) p l]) (by simp only[Vi,Vh,Vq];omega)
  rw[show (((p++[Ql (reps,ps++[p]) p l]).length:Nat):Int)=(p.length:Int)+1 by simp]at this
  exact this
def Mca (l:List Dev) (parts reps:Int) (hll:l.length≤5000000):Tot (λ k=>D5 k l parts reps) (λ x=>x=build l parts reps):=by
 unfold D5 build
 refine Y0a (Wy l (by omega)) ?_
 cases hl:Gi l
 ·exact Xra rfl (Xoa rfl)
 simp only[Zb,cond_false,O5,Vt,Wd]
 cases hp:inR parts 1 64
 ·exact Xra rfl (Xoa rfl)
 refine Xqa rfl ?_
 cases hr:inR reps 1 5
 ·exact Xra rfl (Xoa rfl)
 obtain⟨r1,r2⟩:=Fk.1 hr
 obtain⟨p1,p2⟩:=Fk.1 hp
 refine Xqa rfl ?_
 cases hc:decide (reps > (l.length:Int))
 case true=>exact Xra rfl (Xoa rfl)
 refine Xqa rfl (Xpa (Q:=λ x=>x=(((0:Int),([]:List (List Int))),(reps,Bga l reps parts.toNat []))) ?_ (by rintro x rfl;exact Xoa rfl))
 obtain⟨n,rfl⟩:∃ n:Nat,parts=(n:Int):=⟨parts.toNat,by omega⟩
 refine Xxa (L:=λ k i (s:Rng)=>E7 k l reps (n:Int) i (0,[]) s) (Q:=λ x=>x=(((0:Int),([]:List (List Int))),(reps,Bga l reps n []))) n (λ j s=>∃ ps,s=(reps,ps)∧ps.length=j∧(∀ q∈ps,q.length≤100)∧Bga l reps (n-j) ps=Bga l reps n []) ?_ ?_ 0 (reps,[]) (Vw _) ⟨[],rfl,rfl,λ q h=>(by cases h),rfl⟩
 ·rintro s ⟨ps,rfl,hps,_,h⟩
  rw[Ywa]at h
  simp (disch:=omega) only [E7,dF]
  exact Xoa (by rw[← h];rfl)
 ·rintro j s hj ⟨ps,rfl,hps,hq,h⟩ next
  simp (disch:=omega) only [E7,dT]
  refine Xwa (by simp only[Vh,Vq];omega) ?_
  have h9:=Bca l (n:Int) reps (0,[]) hl (by omega) r2 ps (by omega) hq reps.toNat [] (by simp)
  rw[hps]at h9
  refine Xpa h9 ?_
  rintro x rfl
  simp (disch:=omega) only [w64]
  refine next _ ⟨ps++[T4 l reps ps reps.toNat []],rfl,by rw[Vi,hps];rfl,λ q hq'=>?_,?_⟩
  ·rcases Vm.1 hq' with h'|h'
   ·exact hq q h'
   ·rw[Vp.1 h',S9,Vq];omega
  ·rw[show n-j=(n-(j+1))+1 by omega]at h
   exact h
def Sp (i:Int):D0 i=some (bif inR i 0 20 then (i,([],[]),[],[]) else A7):=by
 unfold D0
 rw[O5]
 simp only[Vt]
 cases inR i 0 20<;>rfl
def Bda (l:List Dev) (parts reps:Int) (hll:l.length≤5000000):Tot (λ k=>Bb k l parts reps) (λ r=>r=bif (build l parts reps).2 then Sw l parts reps else Mga):=by
 unfold Bb
 refine Y0a (Mca l parts reps hll) ?_
 cases hb:(build l parts reps).2 with
 |false=>exact Xra rfl (Xoa rfl)
 |true=>
 obtain⟨h1,_,_,_⟩:=Qm hb
 have h12:=(Cv.1 h1).2.2.2
 refine Xqa rfl (Xwa (by rw[Vq];omega) ?_)
 rw[Wn,cond_true]
 refine Xpa (Q:=λ r=>r=(Mga,Sw l parts reps)) ?_ (by rintro r rfl;exact Xoa rfl)
 refine Xxa (L:=λ k i (s:List Nod)=>Bx k l (l.length:Int) i Mga (l,(build l parts reps).1,s,(0,0,0),[],[])) (Q:=λ r=>r=(Mga,Sw l parts reps)) l.length (λ j s=>s=(l.take j).map Dha) ?_ ?_ 0 [] (Vw _) rfl
 ·rintro s rfl
  simp (disch:=omega) only [Bx,dF]
  exact Xoa (by rw[Zs];rfl)
 ·rintro j s hj rfl next
  have hd:=A3 (d:=Hn) hj
  obtain⟨d,ed⟩:∃ d:Dev,l.getD j Hn=d:=⟨_,rfl⟩
  rw[ed]at hd
  have e0:l.getD j ((0:Int),((0:Int),(0:Int)))=d:=ed
  have e1:l[j]=d:=by rw[← ed,Vb,Vg hj];rfl
  have hid:=(Gt.1 ((Cv.1 h1).2.1 d hd)).1
  simp (disch:=omega) only [Bx,dT,Vl,w64,e0,Sp,Vt]
  have hl:((l.take j).map Dha).length=j:=by rw[Wf,Vs];omega
  rw[Fk.2 hid,cond_true]
  refine Xwa (by rw[hl];simp only[Vh,Vq];omega) (next _ ?_)
  rw[Za hj,Yca,e1]
  rfl
def Xc (l:List Dev) (parts reps:Int) (hll:l.length≤5000000) (hb:(build l parts reps).2=false):Tot (λ k=>Aw k l parts reps) (λ r=>r=Mga):=by
 unfold Aw
 refine Y0a (Axa l parts reps hll) ?_
 exact Xwa (by rw[Vq];omega) (Xra (by rw[hb];rfl) (Xoa rfl))
def Mda (c:Cur) (hc:Pa c):Tot (λ k=>G9 k c) (λ r=>r.1.length≤6∧Pa r.2):=by
 unfold G9
 refine Xpa (Hfa c hc) ?_
 rintro⟨l,c1⟩ ⟨hl,hn,k1⟩
 dsimp only at hl hn k1 ⊢
 obtain⟨x,c2,e2,x0,x1,_,k2⟩:=Io c1 k1 (l.length:Int) (by omega)
 have x1:=x1 (by omega)
 refine Y0a (Y2a (Q:=λ r=>r=(x,c2)) e2 rfl) ?_
 obtain⟨y,c3,e3,_,_,_,k3⟩:=Io c2 k2 12 (by decide)
 refine Y0a (Y2a (Q:=λ r=>r=(y,c3)) e3 rfl) ?_
 dsimp only
 refine Xua (λ _=>?_) (λ _=>Xua (λ _=>?_) (λ _=>Xua (λ _=>?_) (λ _=>Xua (λ _=>?_) (λ _=>Xoa ⟨hn.2,k3⟩))))
 ·obtain⟨v,c4,e4,_,k4⟩:=Ku c3 k3 [(-1),0,20,21] (by decide) (by decide)
  refine Y0a (Y2a (Q:=λ r=>r=(v,c4)) e4 rfl) ?_
  exact Xsa x0 (Xsa x1 (Xoa ⟨by dsimp only;rw[List.length_set];exact hn.2,k4⟩))
 ·obtain⟨v,c4,e4,_,k4⟩:=Ku c3 k3 [(-1),20,21] (by decide) (by decide)
  refine Y0a (Y2a (Q:=λ r=>r=(v,c4)) e4 rfl) ?_
  exact Xsa x0 (Xsa x1 (Xoa ⟨by dsimp only;rw[List.length_set];exact hn.2,k4⟩))
 ·obtain⟨v,c4,e4,_,k4⟩:=Ku c3 k3 [0,1000,1001] (by decide) (by decide)
  refine Y0a (Y2a (Q:=λ r=>r=(v,c4)) e4 rfl) ?_
  exact Xsa x0 (Xsa x1 (Xoa ⟨by dsimp only;rw[List.length_set];exact hn.2,k4⟩))
 ·exact Xsa (by omega) (Xoa ⟨by dsimp only;rw[List.length_take];omega,k3⟩)

end Go.Proofs.Ytiiekghlhfbmmaa.Vf

section
set_option linter.unusedVariables false
set_option linter.unusedSimpArgs false
namespace Go.Proofs.Ytiiekghlhfbmmaa.Pure
open Go Go.RowKit Go.Proofs.Ytiiekghlhfbmmaa.Vf
theorem Tda {l:List Dev} {p n:Int} (hb:(build l p n).2=true):Tot (λ k=>Ct k l 0 (Sw l p n)) (λ r=>r = .inr (Sw l p n)):=by
 obtain⟨h1,_,_,_⟩:=Qm hb
 have h12:=(Cv.1 h1).2.2.2
 have hlen:(Sw l p n).2.2.1.length=l.length:=Wf ..
 refine Xxa (L:=λ k i (_:Unit)=>Ct k l i (Sw l p n)) (Q:=λ r=>r = .inr (Sw l p n)) l.length (λ _ _=>True) ?_ ?_ 0 () (Vw _) trivial
 ·intro _ _
  simp (disch:=omega) only [Ct,dF]
  exact Xoa rfl
 ·intro j _ hj _ next
  have hd:=A3 (d:=Hn) hj
  have hid:=(Gt.1 ((Cv.1 h1).2.1 _ hd)).1
  have e0:l.getD j ((0:Int),((0:Int),(0:Int)))=l.getD j Hn:=rfl
  have e1:(Sw l p n).2.2.1.getD j ((0:Int),(([],[]),([],[])))=Dha (l.getD j Hn):=by
   show (l.map Dha).getD j _=_
   rw[Vb,Zy,Vb,Vg hj]
   rfl
  simp (disch:=omega) only [Ct,dT,Vl,w64,e0,e1,Sp,Vt]
  rw[Fk.2 hid,cond_true]
  refine Xqa (by rw[bne,show (Dha (l.getD j Hn)).1=(l.getD j Hn).1 from rfl,beq_self_eq_true];rfl) (Xqa rfl ?_)
  have hg:=(Lua (ws:=[]) (sp:=[]) h1 hd).1
  refine Y0a (F5a _ (Vca hg)) ?_
  exact Xqa (by rw[show ((l.getD j Hn).1,([],[]),[],[])=Dha (l.getD j Hn) from rfl,hg.1];rfl) (next () trivial)
theorem FnNew:∀ (a0:List Int),Ty.fit ti (.sl 5 (.i .u8)) a0→∃ k,F4 k a0=some true:=by
 intro a0 _
 refine Tot.law (f:=λ k=>F4 k a0) ?_
 unfold F4 I8
 refine Xpa (Xoa (Q:=λ b=>b=decide ((List.length a0:Int) > 1048576)) rfl) ?_
 rintro b rfl
 refine Xva (λ _=>Xoa rfl) (λ hb=>?_)
 refine Xpa (Q:=λ r=>r.1.length≤6) ?_ ?_
 ·unfold C8 Dz
  refine Xpa (Q:=λ r=>r.1.length≤6) ?_ (λ r hr=>Xoa hr)
  refine Xpa (Kda a0 (by omega)) ?_
  intro c hc
  refine Xpa (Mda c hc) ?_
  rintro⟨l,c1⟩ ⟨hl,k1⟩
  dsimp only at hl k1 ⊢
  obtain⟨x,c2,e2,_,k2⟩:=Ku c1 k1 [4,8,1,16,0,64,65] (by decide) (by decide)
  refine Y0a (Y2a (Q:=λ r=>r=(x,c2)) e2 rfl) ?_
  obtain⟨y,c3,e3,_,k3⟩:=Ku c2 k2 [1,2,3,2,3,5,6,0] (by decide) (by decide)
  refine Y0a (Y2a (Q:=λ r=>r=(y,c3)) e3 rfl) ?_
  exact Xoa hl
 rintro⟨l,p,n⟩ hl
 dsimp only at hl ⊢
 refine Xpa (Bda l p n (by omega)) ?_
 rintro _ rfl
 cases hbd:(build l p n).2 with
 |false=>
  rw[cond_false]
  refine Xpa (Xc l p n (by omega) hbd) ?_
  rintro _ rfl
  refine Xqa rfl (Xra rfl ?_)
  have hw0:WIn Mga:=by
   refine⟨⟨by decide,λ q hq=>nomatch hq⟩,by decide,⟨by decide,λ q hq=>nomatch hq⟩,⟨by decide,λ q hq=>nomatch hq⟩,by decide,λ q hq=>nomatch hq⟩
  refine Xpa (Sf Mga hw0) ?_
  rintro _ rfl
  exact Xoa rfl
 |true=>
  rw[cond_true]
  refine Xpa (B5a l p n hbd) ?_
  rintro _ rfl
  have hr:=Tca hbd
  have hw:=hr.wi
  have hpos:=hw.dlen
  have hnl:=hw.nlen
  refine Xqa (by rw[bne,beq_self_eq_true];rfl) (Xqa (by rw[beq_eq_false_iff_ne];omega) ?_)
  refine Xpa (Tda hbd) ?_
  rintro _ rfl
  refine Xpa (Sf _ hw.win) ?_
  rintro _ rfl
  refine Xra hw.rightB (Xpa (P8a _ hw.win) ?_)
  rintro _ rfl
  refine Xra (by rw[hw.safe];rfl) (Xpa (Lwa _ hw.win (λ n hn x hx=>by
   obtain⟨d,_,rfl⟩:=Yr.1 hn
   cases hx)) ?_)
  rintro _ rfl
  exact Xra hr.level (Xoa rfl)
end Go.Proofs.Ytiiekghlhfbmmaa.Pure
end
