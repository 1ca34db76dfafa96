import Derived.Test.YtmhhjceoinoekaaGreatMap
import Derived.Test.YtmhhjceoinoekaaGreatMak
set_option linter.all false
namespace Go.Proofs.YtmhhjceoinoekaaGreat.Vf
open Go
open List (length getD)
open Int (toNat)
open Go.IntKind (wrap)
open BitVec (ofInt)

def C2a (nm:List ByteArray) (ws:List Wri):Prop:=nm.length≤60∧∀ x∈ws,x.1∈nm
def Dua {nm:List ByteArray} {l:List Nmd} (hs:Da l) (h:∀ x∈l,x.1∈nm) (hn:nm.length≤60):l.length≤60:=by
 have hp:(l.map (·.1)).Pairwise (λ a b=>tlt a b=true):=Zn.2 hs
 have hd:(l.map (·.1)).Nodup:=hp.imp (λ {a b} hab e=>by subst e;rw[I9]at hab;cases hab)
 have:=V4 _ nm hd (λ s hs=>by obtain⟨x,hx,rfl⟩:=Zb.1 hs;exact h x hx)
 rw[Wd]at this
 omega
def B3b {nm:List ByteArray} {l:List Nmd} {s:ByteArray} {b:List Int} (hl:Da l) (h:∀ x∈l,x.1∈nm) (hs:s∈nm) (hn:nm.length≤60):(wr l s b).length≤60:=by
 have hso:Da (wr l s b):=Q7 (Mo hl) Xl
 refine Dua hso (λ x hx=>?_) hn
 have hg:=Bha hso hx
 rw[F7a hl]at hg
 by_cases e:s=x.1
 ·rw[← e];exact hs
 ·rw[if_neg e]at hg;exact h _ (Oz hg)
section
variable {nm:List ByteArray} {ws:List Wri} {sp:List ByteArray} {d:Dsk} {s:ByteArray} {f:Fil}
def Vqa (hN:C2a nm ws) (hf:IsW ws s f):s∈nm:=by
 obtain⟨x,hx,rfl,_⟩:=hf
 exact hN.2 x hx
def Zla (hN:C2a nm ws) (hd:Ay d=true) (h:DI ws sp d):(∀ x∈d.1,x.1∈nm)∧∀ x∈d.2,x.1∈nm:=by
 refine⟨λ x hx=>?_,λ x hx=>?_⟩
 ·obtain⟨f,hf,_⟩:=(h x.1).1 _ (Bha (Kr hd) hx)
  exact Vqa hN hf
 ·obtain⟨f,hf,_⟩:=(h x.1).2.1 _ (Bha (Od hd) hx)
  exact Vqa hN hf
def Qb (o:Option Fil) (f:Fil):Fil:=match o with
 |some g=>bif sle g.1 f.1 then f else g
 |none=>f
def Lqa (o:Option Fil) (f:Fil):Qb (some (Qb o f)) f=Qb o f:=by
 cases o with
 |none=>simp[Qb]
 |some g=>cases h:sle g.1 f.1<;>simp[Qb,h]
def Zma (hw:Dra ws) (hN:C2a nm ws) (hd:DG d) (h:DI ws sp d) (hf:IsW ws s f):
  ((keep d s f true).2=0∨(keep d s f true).2=1)∧∀ t,old (keep d s f true).1 t=if s=t then some (Qb (old d s) f) else old d t:=by
 obtain⟨g1,g2,g3⟩:=hf.good hw
 have hs:=Vqa hN hf
 obtain⟨n1,n2⟩:=Zla hN hd.1 h
 have l1:∀ b,(wr d.1 s b).length≤60:=λ b=>B3b (Kr hd.1) n1 hs hN.1
 have h2s:Da d.2:=Od hd.1
 have l2:∀ l:List Nmd,(sy (l,d.2) s).length≤60:=λ l=>by
  unfold sy
  cases gt l s with
  |some b=>exact B3b h2s n2 hs hN.1
  |none=>exact Dua (Mo h2s) (λ x hx=>n2 x (Jjb.1 hx).1) hN.1
 rw[Bla hd.1 g1 g2]
 rcases X5 (f:=f) (sure:=true) hd g1 with k|⟨o,h1,h2,h3,_,h5⟩|⟨h1,_,h3,_,h5⟩
 ·exfalso
  have hwr:wrD d s (Lc f)=((wr d.1 s (Lc f),d.2),true):=by
   unfold wrD
   rw[decide_eq_true (show (Lc f).length≤400 by have:=Z7 f;omega),decide_eq_true (l1 _)]
   rfl
  have hsy:∀ l:List Nmd,(syD (l,d.2) s).2=true:=λ l=>by
   unfold syD
   rw[decide_eq_true (l2 l)]
   rfl
  have k2:∀ (l:List Nmd) (c:Int),(kp2 d s true ((l,d.2),c)).2=c:=λ l c=>by
   unfold kp2
   rw[cond_true,hsy l]
   rfl
  have k3:=congrArg Prod.snd k
  unfold Mu kp1 at k3
  rw[hwr]at k3
  cases ho:old d s with
  |none=>
   rw[ho]at k3
   have:(kp2 d s true ((wr d.1 s (Lc f),d.2),0)).2=3:=k3
   rw[k2]at this
   cases this
  |some o=>
   rw[ho]at k3
   cases hc:sle o.1 f.1 with
   |true=>
    simp only[hc,cond_true]at k3
    rw[k2]at k3
    cases k3
   |false=>
    simp only[hc,cond_false]at k3
    have:(kp2 d s true ((d.1,d.2),1)).2=3:=k3
    rw[k2]at this
    cases this
 ·refine⟨.inr h3,λ t=>?_⟩
  rcases h5 with⟨c,_⟩|⟨_,e⟩
  ·cases c
  ·rw[e]
   show old d t=_
   by_cases hst:s=t
   ·subst hst
    rw[if_pos rfl,h1]
    simp[Qb,h2]
   ·rw[if_neg hst]
 ·refine⟨.inl h3,λ t=>?_⟩
  rcases h5 with⟨c,_⟩|⟨_,e⟩
  ·cases c
  ·rw[e]
   show (gt (wr d.1 s (Lc f)) t).bind Mq=_
   rw[F7a (Kr hd.1)]
   by_cases hst:s=t
   ·rw[if_pos hst,if_pos hst,Vp,Uv g2 g3]
    cases ho:old d s with
    |none=>rfl
    |some o=>simp[Qb,h1 o ho]
   ·rw[if_neg hst,if_neg hst]
    rfl
end
def Dub {d:Dsk} {s:ByteArray} (hd:DG d) (hg:(gt d.1 s).isSome=true) (t:ByteArray):old (syD (rmD d s).1 s).1 t=if s=t then none else old d t:=by
 have e1:(syD (rmD d s).1 s).1.1=cut d.1 s:=by
  have e:(rmD d s).1=(cut d.1 s,d.2):=by unfold rmD;rw[hg];rfl
  rw[e]
  unfold syD
  cases decide ((sy (cut d.1 s,d.2) s).length≤60)<;>rfl
 unfold old
 rw[e1,T5 (Kr hd.1)]
 by_cases h:s=t
 ·rw[if_pos h,if_pos h];rfl
 ·rw[if_neg h,if_neg h]
def Vra {d:Dsk} (hd:DG d) (t:ByteArray):old (M9 d).1 t=old d t:=by
 obtain⟨_,h⟩:=Tq d.1 (d,0) hd
 unfold old
 by_cases hb:t∈Fga d.1
 ·obtain⟨b,h1,h2⟩:=(O0a hd.1).1 hb
  rw[show gt (M9 d).1.1 t=none from ((h t).1 hb).1,h1,Vp,h2]
  rfl
 ·rw[show gt (M9 d).1.1 t=gt d.1 t from ((h t).2 hb).1]
def Vsa {d:Dsk} {s:ByteArray}:((lkD d s).2 != 0)=(old d s).isNone:=by
 unfold lkD old
 cases gt d.1 s with
 |none=>rfl
 |some b=>cases h:Mq b<;>simp[h]
def Vta {d:Dsk} {s:ByteArray} {f:Fil} (h:old d s=some f):lkD d s=(f,0):=by
 unfold old at h
 cases hg:gt d.1 s with
 |none=>rw[hg]at h;cases h
 |some b=>rw[hg]at h;exact P0.2 ⟨b,hg,h⟩
def Vua (id:Int):∀ {ns ms:List Nod} (i:Nat),ms.map (·.1)=ns.map (·.1)→atN ms id i=atN ns id i
 |[],[],_,_=>rfl
 |n::ns,m::ms,i,h=>by
  rw[Yg,Yg,Yk]at h
  unfold atN
  rw[h.1,Vua id (i+1) h.2]
 |[],_::_,_,h=>by cases h
 |_::_,[],_,h=>by cases h
def Vva {ns ms:List Nod} (h:ms.map (·.1)=ns.map (·.1)) (ids:List Int):whr ms ids=whr ns ids:=by
 unfold whr
 congr 1
 funext id
 exact Vua id 0 h
def Vwa (id:Int):∀ (ns:List Nod) (i:Nat),(ns.map (·.1)).Nodup→(atN ns id i).length≤1
 |[],_,_=>Vs _
 |n::ns,i,h=>by
  rw[Yg,Yt]at h
  have ih:=Vwa id ns (i+1) h.2
  unfold atN
  cases hx:n.1==id with
  |false=>exact ih
  |true=>
   have he:atN ns id (i+1)=[]:=by
    refine Kbb.2 λ x hx'=>?_
    obtain⟨j,h1,h2,_⟩:=(Fpa id ns (i+1) x).1 hx'
    refine h.1 ?_
    rw[eq_of_beq hx,← h2]
    exact Yu (A3 h1)
   rw[cond_true,he]
   exact Vv _
def Vxa {ns:List Nod} (h:(ns.map (·.1)).Nodup):∀ (ids:List Int),(whr ns ids).length≤ids.length
 |[]=>Vs _
 |id::ids=>by
  rw[Fna,Ve,Vd]
  have:=Vwa id ns 0 h
  have:=Vxa h ids
  omega
def WO.nodup {w:Wld} (h:WO w):(w.2.2.1.map (·.1)).Nodup:=by
 rw[h.ids]
 have hp:=(Fl.1 (C4.1 h.ring).1).1
 have hq:(w.1.map (·.1)).Pairwise (λ a b=>a<b):=Zn.2 hp
 exact hq.imp (λ {a b} hab e=>by omega)
def WO.prim5 {w:Wld} (h:WO w) (s:ByteArray):(N2 w s).length≤5:=by
 have h1:=Vxa h.nodup (R9 w.2.1 s)
 have h2:=(Bra h.ring s).2.1
 have h3:=(C4.1 h.ring).2.1
 unfold N2
 omega
def Gdb {j:Nat} (h:j<12):rch Fj j=1:=by
 unfold rch
 rw[decide_eq_true (show j<Fj.length from h)]
 have:Fj.getD j 0=1:=by
  match j,h with
  |0,_|1,_|2,_|3,_|4,_|5,_|6,_|7,_|8,_|9,_|10,_|11,_=>rfl
 rw[this]
 rfl
def Qc {α:Type} (bs:Option α→α→α) (P:Nat→Bool) (i:Nat) (c:Nat→Option α) (m:Nat):Option α:=match c i with
 |none=>c m
 |some f=>bif P m&&!(decide (m=i)) then some (bs (c m) f) else bif decide (m=i)&&!(P i) then none else c m
def oN (ns:List Nod) (m:Nat) (t:ByteArray):Option Fil:=old (ns.getD m Ac).2.1 t
def inP (w:Wld) (t:ByteArray) (m:Nat):Bool:=Mb (N2 w t) (m:Int)
def Dvb {nm:List ByteArray} {w:Wld} (h:WI w) (hN:C2a nm w.2.2.2.2.1) {i:Nat} (hi:i<w.2.2.1.length) {s:ByteArray} {f:Fil} (hf:oN w.2.2.1 i s=some f):
  (puN w i s Fj).2.2=true∧(puN w i s Fj).2.1=inP w s i∧NR w.2.2.2.2.1 w.2.2.2.2.2 w.2.2.1 (puN w i s Fj).1∧
  ∀ m,m<w.2.2.1.length→∀ t,oN (puN w i s Fj).1 m t=bif teq s t&&(inP w s m&&!(decide (m=i))) then some (Qb (oN w.2.2.1 m s) f) else oN w.2.2.1 m t:=by
 have h5:=h.wo.prim5 s
 have hIW:IsW w.2.2.2.2.1 s f:=ED.now h.wok ((h.nodes _ (A3 (d:=Ac) hi)).2.1 s) hf
 have hlk:(lkD (w.2.2.1.getD i Ac).2.1 s).1=f:=by rw[Vta hf]
 have hat:=λ x=>R4 (w:=w) (s:=s) (x:=x)
 unfold puN inP
 rw[hlk]
 generalize N2 w s=ps at *
 have key:=M5 (st:=pst (i:Int) s f Fj ps) (n:=ps.length) (a:=(w.2.2.1,false,true)) (λ j (a:List Nod×Bool×Bool)=>a.2.2=true∧a.2.1=Mb (ps.take j) (i:Int)∧NR w.2.2.2.2.1 w.2.2.2.2.2 w.2.2.1 a.1∧
  ∀ m,m<w.2.2.1.length→∀ t,oN a.1 m t=bif teq s t&&(Mb (ps.take j) (m:Int)&&!(decide (m=i))) then some (Qb (oN w.2.2.1 m s) f) else oN w.2.2.1 m t) ?_ ?_
 ·rw[Yr]at key
  exact key
 ·exact⟨rfl,rfl,NR.refl h.nodes,λ m _ t=>by
   show _=bif teq s t&&(false&&_) then _ else _
   rw[Ys,Ya]
   rfl⟩
 ·rintro j ⟨ns,o,g⟩ hj ⟨a1,a2,a3,a4⟩
  dsimp only at a1 a2 a3 a4
  subst a1
  have hpx:=hat _ (A3 (d:=0) hj)
  obtain⟨p,hp⟩:∃ p:Nat,ps.getD j 0=(p:Int):=⟨(ps.getD j 0).toNat,by omega⟩
  have htk:∀ x:Int,Mb (ps.take (j+1)) x=(Mb (ps.take j) x||(p:Int)==x):=λ x=>by
   have e:ps[j]=(p:Int):=by rw[← hp,Vc,Vj hj];rfl
   unfold Mb
   rw[Wl hj,Ljb,e,Jeb,Lkb,J5b]
  have hnl:=a3.len
  unfold pst
  rw[hp,Vb,Gdb (by omega)]
  cases hpi:(p:Int)==(i:Int) with
  |true=>
   have e:p=i:=by have:=eq_of_beq hpi;omega
   refine⟨rfl,?_,a3,λ m hm t=>?_⟩
   ·show true=_
    rw[htk,hpi,Bool.or_true]
   ·show oN ns m t=_
    rw[a4 m hm t,htk,e]
    by_cases hmi:m=i
    ·rw[decide_eq_true hmi];simp
    ·rw[show ((i:Int)==(m:Int))=false by rw[beq_eq_false_iff_ne];omega,J5b]
  |false=>
   have e:p≠i:=by intro e;rw[e,beq_self_eq_true]at hpi;cases hpi
   have hpn:p<ns.length:=by omega
   have hni:=a3.1 _ (A3 (d:=Ac) hpn)
   obtain⟨k1,k2⟩:=Zma h.wok hN hni.1.g hni.2.1 hIW
   obtain⟨d1,d2⟩:=Lja (sure:=true) h.wok hni.1.g hni.2.1 hIW
   have hcode:((keep (ns.getD p Ac).2.1 s f true).2 != 0&&(keep (ns.getD p Ac).2.1 s f true).2 != 1)=false:=by
    rcases k1 with k|k<;>rw[k]<;>rfl
   refine⟨?_,?_,a3.set hpn ⟨Fsa hni.1,d1,hni.2.2⟩ rfl d2,λ m hm t=>?_⟩
   ·show (bif ((keep (ns.getD p Ac).2.1 s f true).2 != 0&&(keep (ns.getD p Ac).2.1 s f true).2 != 1) then false else true)=true
    rw[hcode]
    rfl
   ·show o=_
    rw[a2,htk,hpi,J5b]
   ·show oN (ns.set p _) m t=_
    unfold oN
    rw[Jx (show m<ns.length by omega),htk]
    by_cases hpm:p=m
    ·subst hpm
     rw[if_pos rfl,beq_self_eq_true,Bool.or_true,Vx,decide_eq_false e,Zh,Iib]
     show old (keep (ns.getD p Ac).2.1 s f true).1 t=_
     rw[k2 t]
     have a4s:=a4 p hm s
     have a4t:=a4 p hm t
     unfold oN at a4s a4t
     rw[decide_eq_false e,Zh,Iib]at a4s a4t
     by_cases hst:s=t
     ·subst hst
      rw[if_pos rfl,show teq s s=true from Cr.2 rfl,cond_true,a4s,show teq s s=true from Cr.2 rfl,Vx]
      cases Mb (ps.take j) (p:Int) with
      |true=>rw[cond_true,Lqa]
      |false=>rfl
     ·have ht:teq s t=false:=by cases hq:teq s t with|false=>rfl|true=>exact absurd (Cr.1 hq) hst
      rw[if_neg hst,ht,cond_false,a4t,ht,Ys,cond_false]
    ·rw[if_neg hpm,show ((p:Int)==(m:Int))=false by rw[beq_eq_false_iff_ne];omega,J5b]
     exact a4 m hm t
def WI.push {w:Wld} (h:WI w) {i:Nat} (hi:i<w.2.2.1.length) (s:ByteArray) (rc:List Int):WI (R3 w i s rc).2:=h.other' (Fua h.wok h.nodes hi h.ring h.ids)
def Zna {nm:List ByteArray} {w:Wld} (h:WI w) (hN:C2a nm w.2.2.2.2.1) {i:Nat} (hi:i<w.2.2.1.length) (s:ByteArray) {m:Nat} (hm:m<w.2.2.1.length) (t:ByteArray):
  oN (R3 w i s Fj).2.2.2.1 m t=bif teq s t then Qc Qb (inP w s) i (λ m=>oN w.2.2.1 m s) m else oN w.2.2.1 m t:=by
 have hst:∀ {t:ByteArray},teq s t=true→s=t:=λ h=>Cr.1 h
 unfold R3
 rw[Vsa]
 cases ho:oN w.2.2.1 i s with
 |none=>
  have:old (w.2.2.1.getD i Ac).2.1 s=none:=ho
  rw[this]
  show oN w.2.2.1 m t=_
  cases ht:teq s t with
  |false=>rfl
  |true=>rw[cond_true,← hst ht];unfold Qc;simp only[ho]
 |some f=>
  have e1:old (w.2.2.1.getD i Ac).2.1 s=some f:=ho
  rw[e1]
  obtain⟨p1,p2,p3,p4⟩:=Dvb h hN hi ho
  show oN (bif (puN w i s Fj).2.2&&!(puN w i s Fj).2.1 then (puN w i s Fj).1.set i (Gqb ((puN w i s Fj).1.getD i Ac) s) else (puN w i s Fj).1) m t=_
  rw[p1,p2,Vx]
  have hlen:=p3.len
  have Cja:Qc Qb (inP w s) i (λ m=>oN w.2.2.1 m s) m=bif inP w s m&&!(decide (m=i)) then some (Qb (oN w.2.2.1 m s) f) else bif decide (m=i)&&!(inP w s i) then none else oN w.2.2.1 m s:=by
   unfold Qc
   simp only[ho]
  cases hin:inP w s i with
  |true=>
   rw[Yx,cond_false,p4 m hm t,Cja,hin]
   cases ht:teq s t with
   |false=>rfl
   |true=>
    rw[hst ht,Vx,cond_true,Yx,Ya,cond_false]
  |false=>
   rw[Zh,cond_true,Cja,hin]
   unfold oN
   rw[Jx (show m<(puN w i s Fj).1.length by omega)]
   by_cases hmi:i=m
   ·subst hmi
    rw[if_pos rfl,hin,Ys,cond_false,decide_eq_true rfl,Zh,Vx,cond_true]
    have hg:=(p3.1 _ (A3 (d:=Ac) (show i<(puN w i s Fj).1.length by omega))).1.g
    have p4s:=p4 i hi s
    have p4t:=p4 i hi t
    rw[hin,Ys,Ya,cond_false]at p4s p4t
    have hgs:(gt ((puN w i s Fj).1.getD i Ac).2.1.1 s).isSome=true:=by
     have:old ((puN w i s Fj).1.getD i Ac).2.1 s=some f:=p4s.trans ho
     unfold old at this
     cases hq:gt ((puN w i s Fj).1.getD i Ac).2.1.1 s with
     |none=>rw[hq]at this;cases this
     |some b=>rfl
    show old (syD (rmD ((puN w i s Fj).1.getD i Ac).2.1 s).1 s).1 t=_
    rw[Dub hg hgs t]
    cases ht:teq s t with
    |true=>rw[if_pos (hst ht)];rfl
    |false=>
     rw[if_neg (λ e=>by rw[e,show teq t t=true from Cr.2 rfl]at ht;cases ht)]
     exact p4t
   ·rw[if_neg hmi,decide_eq_false (λ e=>hmi e.symm)]
    have:=p4 m hm t
    unfold oN at this
    rw[this,decide_eq_false (λ e=>hmi e.symm)]
    cases ht:teq s t with
    |false=>rfl
    |true=>
     rw[hst ht,Vx,cond_true,Ys,cond_false]

structure BOk {α:Type} (bs:Option α→α→α) (le:α→α→Prop):Prop where
 rf:∀ a,le a a
 tr:∀ {a b c},le a b→le b c→le a c
 up:∀ o f,le f (bs o f)
 ub:∀ g f,le g (bs (some g) f)
 oo:∀ o f,bs o f=f∨o=some (bs o f)
def Oga {α:Type} (k:Nat) (P:Nat→Bool) (c:Nat→Option α):Prop:=∀ m,m<k→P m=false→c m=none
def InK {α:Type} (le:α→α→Prop) (k n:Nat) (P:Nat→Bool) (c:Nat→Option α):Prop:=∀ q,q<k→P q=true→∀ x,c q=some x→∀ p,p<n→P p=true→∃ y,c p=some y∧le x y
section
variable {α:Type} {bs:Option α→α→α} {le:α→α→Prop} {P:Nat→Bool} {c c':Nat→Option α} {k n:Nat}
def C3a {i m:Nat} (h1:c i=c' i) (h2:c m=c' m):Qc bs P i c m=Qc bs P i c' m:=by
 unfold Qc
 rw[h1,h2]
def Oga.eq (h:Oga k P c) (hk:k≤n) (e:∀ m,m<n→c' m=c m):Oga k P c':=λ m hm hp=>by rw[e m (by omega)];exact h m hm hp
def InK.eq (h:InK le k n P c) (hk:k≤n) (e:∀ m,m<n→c' m=c m):InK le k n P c':=λ q hq hp x hx p hp1 hp2=>by
 rw[e q (by omega)]at hx
 rw[e p hp1]
 exact h q hq hp x hx p hp1 hp2
def Oga.step (h:Oga k P c):Oga (k+1) P (Qc bs P k c):=λ m hm hp=>by
 unfold Qc
 cases hk:c k with
 |none=>
  dsimp only
  by_cases e:m=k
  ·rw[e];exact hk
  ·exact h m (by omega) hp
 |some f=>
  dsimp only
  rw[hp,Ys,cond_false]
  by_cases e:m=k
  ·rw[decide_eq_true e,← e,hp];rfl
  ·rw[decide_eq_false e];exact h m (by omega) hp
def InK.step (hb:BOk bs le) (h:InK le k n P c):InK le (k+1) n P (Qc bs P k c):=by
 intro q hq hPq x hx p hp hPp
 cases hk:c k with
 |none=>
  have e:Qc bs P k c=c:=by funext m;unfold Qc;rw[hk]
  rw[e]at hx ⊢
  by_cases hqk:q=k
  ·rw[hqk,hk]at hx;cases hx
  ·exact h q (by omega) hPq x hx p hp hPp
 |some f=>
  have st:∀ m,P m=true→Qc bs P k c m=if m=k then some f else some (bs (c m) f):=λ m hm=>by
   unfold Qc
   rw[hk]
   dsimp only
   by_cases e:m=k
   ·rw[if_pos e,decide_eq_true e,← e,hm,e,hk];rfl
   ·rw[if_neg e,decide_eq_false e,hm];rfl
  rw[st q hPq]at hx
  rw[st p hPp]
  by_cases hqk:q=k
  ·rw[if_pos hqk]at hx
   obtain rfl:=Jib hx
   by_cases hpk:p=k
   ·rw[if_pos hpk];exact⟨f,rfl,hb.rf f⟩
   ·rw[if_neg hpk];exact⟨_,rfl,hb.up _ f⟩
  ·rw[if_neg hqk]at hx
   cases hx
   rcases hb.oo (c q) f with e|e
   ·rw[e]
    by_cases hpk:p=k
    ·rw[if_pos hpk];exact⟨f,rfl,hb.rf f⟩
    ·rw[if_neg hpk];exact⟨_,rfl,hb.up _ f⟩
   ·obtain⟨y,h1,h2⟩:=h q (by omega) hPq _ e p hp hPp
    by_cases hpk:p=k
    ·rw[hpk,hk]at h1
     obtain rfl:=Jib h1
     rw[if_pos hpk];exact⟨f,rfl,h2⟩
    ·rw[if_neg hpk,h1];exact⟨_,rfl,hb.tr h2 (hb.ub y f)⟩
def gvC {α:Type} (bs:Option α→α→α) (P:Nat→Bool) (f:α) (c:Nat→Option α) (m:Nat):Option α:=bif P m then some (bs (c m) f) else c m
def Oga.gv {f:α} (h:Oga k P c):Oga k P (gvC bs P f c):=λ m hm hp=>by
 unfold gvC
 rw[hp]
 exact h m hm hp
def InK.gv {f:α} (hb:BOk bs le) (h:InK le k n P c):InK le k n P (gvC bs P f c):=by
 intro q hq hPq x hx p hp hPp
 unfold gvC at hx ⊢
 rw[hPq,cond_true]at hx
 rw[hPp,cond_true]
 cases hx
 rcases hb.oo (c q) f with e|e
 ·rw[e];exact⟨_,rfl,hb.up _ f⟩
 ·obtain⟨y,h1,h2⟩:=h q hq hPq _ e p hp hPp
  rw[h1];exact⟨_,rfl,hb.tr h2 (hb.ub y f)⟩
end
def leF (a b:Fil):Prop:=sle b.1 a.1=false
def Geb:BOk Qb leF where
 rf:=λ a=>Kx _
 tr:=λ h1 h2=>C0a h2 h1
 up:=λ o f=>by
  cases o with
  |none=>exact Kx _
  |some g=>cases h:sle g.1 f.1<;>simp[leF,Qb,h,Kx]
 ub:=λ g f=>by
  cases h:sle g.1 f.1<;>simp[leF,Qb,h,Kx]
  exact V2 h
 oo:=λ o f=>by
  cases o with
  |none=>exact .inl rfl
  |some g=>cases h:sle g.1 f.1<;>simp[Qb,h]
def leR (a b:Row):Prop:=Lr b a=false
def Qfa (o:Option Row) (f:Row):Row:=match o with
 |some g=>mx g f
 |none=>f
def V5 (a:Row):Lr a a=false:=by
 cases h:Lr a a
 ·rfl
 have:=Tj h
 rw[h]at this
 cases this
def B4b:BOk Qfa leR where
 rf:=V5
 tr:=λ {a b c} h1 h2=>by
  unfold leR at *
  have n1:¬ Lr b a=true:=by rw[h1];decide
  have n2:¬ Lr c b=true:=by rw[h2];decide
  cases h:Lr c a
  ·rfl
  rw[B4a]at n1 n2 h
  cases ha:a.2.2.1<;>cases hb:b.2.2.1<;>cases hc:c.2.2.1<;>simp only[ha,hb,hc]at h n1 n2<;>simp at h n1 n2<;>omega
 up:=λ o f=>by
  cases o with
  |none=>exact V5 _
  |some g=>cases h:Lr g f<;>simp[leR,Qfa,mx,h,V5]
 ub:=λ g f=>by
  cases h:Lr g f<;>simp[leR,Qfa,mx,h,V5]
  exact Tj h
 oo:=λ o f=>by
  cases o with
  |none=>exact .inl rfl
  |some g=>cases h:Lr g f<;>simp[Qfa,mx,h]
def NR.trans {ws:List Wri} {sp:List ByteArray} {a b c:List Nod} (h1:NR ws sp a b) (h2:NR ws sp b c):NR ws sp a c:=⟨h2.1,h2.2.1.trans h1.2.1,λ s hs st h=>h2.2.2 s hs st (h1.2.2 s hs st h)⟩
def SW (w v:Wld):Prop:=∃ ns,v=wN w ns∧NR w.2.2.2.2.1 w.2.2.2.2.2 w.2.2.1 ns
section
variable {w v u:Wld}
def SW.refl (h:WI w):SW w w:=⟨w.2.2.1,rfl,NR.refl h.nodes⟩
def SW.trans (h1:SW w v) (h2:SW v u):SW w u:=by
 obtain⟨a,rfl,ha⟩:=h1
 obtain⟨b,rfl,hb⟩:=h2
 exact⟨b,rfl,ha.trans hb⟩
def SW.wi (h:SW w v) (hw:WI w):WI v:=by
 obtain⟨ns,rfl,hn⟩:=h
 exact hw.other hn
def SW.len (h:SW w v):v.2.2.1.length=w.2.2.1.length:=by
 obtain⟨ns,rfl,hn⟩:=h
 exact hn.len
def SW.ws (h:SW w v):v.2.2.2.2.1=w.2.2.2.2.1:=by
 obtain⟨ns,rfl,hn⟩:=h
 rfl
def SW.inP (h:SW w v) (t:ByteArray):inP v t=inP w t:=by
 obtain⟨ns,rfl,hn⟩:=h
 funext m
 unfold Vf.inP N2
 rw[show (wN w ns).2.2.1=ns from rfl,Vva hn.2.1]
def Vya (h:WI w) {i:Nat} (hi:i<w.2.2.1.length) (s:ByteArray):SW w (R3 w i s Fj).2:=Fua h.wok h.nodes hi h.ring h.ids
def Dwb (h:WI w) {i:Nat} (hi:i<w.2.2.1.length):SW w (Sx w i Fj).2:=O9a h.nodes hi
def Dxb (h:WI w) {i:Nat} (hi:i<w.2.2.1.length):SW w (R6 w i Fj).2:=O8a h.nodes hi
def B5b (h:WI w) {i:Nat} (hi:i<w.2.2.1.length):SW w (qtA w i):=by
 have hni:=h.nodes _ (A3 (d:=Ac) hi)
 obtain⟨c1,c2⟩:=O7a h.wok hni.1.g hni.2.1
 exact⟨_,rfl,(NR.refl h.nodes).set hi ⟨O3a hni.1,c1,hni.2.2⟩ rfl c2⟩
end
def RQ (ns ms:List Nod):Prop:=∀ m,(ms.getD m Ac).2.2=(ns.getD m Ac).2.2
def RQ.set {ns ms:List Nod} (h:RQ ns ms) {p:Nat} {x:Nod} (hx:x.2.2=(ms.getD p Ac).2.2):RQ ns (ms.set p x):=λ m=>by
 rw[← h m]
 by_cases hm:m<ms.length
 ·rw[Jx hm]
  by_cases e:p=m
  ·rw[if_pos e,hx,e]
  ·rw[if_neg e]
 ·rw[Vc,Vc,Za (by rw[Wb];omega),Za (by omega)]
def Gfb (w:Wld) (i:Nat) (s:ByteArray) (rc:List Int):RQ w.2.2.1 (puN w i s rc).1:=by
 unfold puN
 refine M5 (λ _ (a:List Nod×Bool×Bool)=>RQ w.2.2.1 a.1) (λ _=>rfl) ?_
 rintro j ⟨ns,o,g⟩ hj a1
 dsimp only at a1
 unfold pst
 cases (N2 w s).getD j 0==(i:Int) with
 |true=>exact a1
 |false=>
  cases rch rc j != 1 with
  |true=>exact a1
  |false=>exact a1.set rfl
def Zoa (w:Wld) (i:Nat) (s:ByteArray) (rc:List Int):RQ w.2.2.1 (R3 w i s rc).2.2.2.1:=by
 have h:=Gfb w i s rc
 unfold R3
 cases (lkD (w.2.2.1.getD i Ac).2.1 s).2 != 0 with
 |true=>exact λ _=>rfl
 |false=>
  show RQ w.2.2.1 (bif (puN w i s rc).2.2&&!(puN w i s rc).2.1 then (puN w i s rc).1.set i (Gqb ((puN w i s rc).1.getD i Ac) s) else (puN w i s rc).1)
  cases (puN w i s rc).2.2&&!(puN w i s rc).2.1 with
  |true=>exact h.set rfl
  |false=>exact h
def Vza {s t:ByteArray} (h:s≠t):teq s t=false:=by
 cases hq:teq s t with
 |false=>rfl
 |true=>exact absurd (Cr.1 hq) h
def Lra {l:List ByteArray} {t:ByteArray} (h:t∉l):Y4 l t=false:=by
 cases hq:Y4 l t with
 |false=>rfl
 |true=>exact absurd (Pi.1 hq) h
def Dva {i:Nat}:∀ (l:List ByteArray) {w:Wld},WI w→i<w.2.2.1.length→SW w (P5 w i l)
 |[],w,h,_=>SW.refl h
 |s::l,w,h,hi=>by
  have h1:=Vya h hi s
  exact h1.trans (Dva l (h1.wi h) (by rw[h1.len];exact hi))
def Dwa {i:Nat}:∀ (l:List ByteArray) {w:Wld},RQ w.2.2.1 (P5 w i l).2.2.1
 |[],w=>λ _=>rfl
 |s::l,w=>λ m=>(Dwa l m).trans (Zoa w i s Fj m)
def Dxa {nm:List ByteArray} {i:Nat} (t:ByteArray):∀ (l:List ByteArray) {w:Wld},WI w→C2a nm w.2.2.2.2.1→i<w.2.2.1.length→l.Nodup→∀ m,m<w.2.2.1.length→
  oN (P5 w i l).2.2.1 m t=bif Y4 l t then Qc Qb (inP w t) i (λ m=>oN w.2.2.1 m t) m else oN w.2.2.1 m t
 |[],w,_,_,_,_,m,_=>rfl
 |s::l,w,h,hN,hi,hl,m,hm=>by
  have h1:=Vya h hi s
  obtain⟨hl1,hl2⟩:=Yt.1 hl
  have ih:=Dxa (nm:=nm) t l (h1.wi h) (by rw[h1.ws];exact hN) (by rw[h1.len];exact hi) hl2 m (by rw[h1.len];exact hm)
  have pm:=λ m hm=>Zna h hN hi s (m:=m) hm t
  show oN (P5 (R3 w i s Fj).2 i l).2.2.1 m t=_
  rw[ih,h1.inP]
  by_cases ht:t∈l
  ·have hst:s≠t:=λ e=>hl1 (e ▸ ht)
   rw[Pi.2 ht,Pi.2 (Vh _ ht),cond_true,cond_true]
   refine C3a ?_ ?_
   ·show oN _ i t=_;rw[pm i hi,Vza hst];rfl
   ·show oN _ m t=_;rw[pm m hm,Vza hst];rfl
  ·rw[Lra ht,cond_false,pm m hm]
   by_cases hst:s=t
   ·subst hst
    rw[Pi.2 Yc,Cr.2 rfl]
   ·rw[Lra (l:=s::l) (by rw[Vl];rintro (e|e);exact hst e.symm;exact ht e),Vza hst]
    rfl
def Qga {d:Dsk} (hd:Ay d=true):(P8 d).Nodup:=by
 rw[Yua (Kr hd)]
 unfold D8b
 have h1:Da (d.1.filter λ x=>(Mq x.2).isSome):=(Kr hd).sublist Kqb
 have hp:((d.1.filter λ x=>(Mq x.2).isSome).map Prod.fst).Pairwise (λ a b=>tlt a b=true):=Zn.2 h1
 exact hp.imp (λ {a b} hab e=>by subst e;rw[I9]at hab;cases hab)
def W0a {d:Dsk} {t:ByteArray} (h:t∉P8 d):old d t=none:=by
 have h1:¬ Cqa d t:=λ c=>h (C1a.2 c)
 have h2:=Vsa (d:=d) (s:=t)
 unfold Cqa at h1
 cases h3:old d t with
 |none=>rfl
 |some f=>
  rw[h3]at h2
  exact absurd (by simpa using h2) h1
def Oha {w:Wld} (h:WI w) {i:Nat} (hi:i<w.2.2.1.length) {m:Nat} (hm:m<w.2.2.1.length) (t:ByteArray):oN (qtA w i).2.2.1 m t=oN w.2.2.1 m t:=by
 show oN (w.2.2.1.set i (Dab (w.2.2.1.getD i Ac)).1) m t=_
 unfold oN
 rw[Jx hm]
 by_cases e:i=m
 ·subst e
  rw[if_pos rfl]
  exact Vra (h.nodes _ (A3 (d:=Ac) hi)).1.g t
 ·rw[if_neg e]
def Ggb {w:Wld} (h:WI w) {i:Nat} (hi:i<w.2.2.1.length):SW w (qtP w i):=by
 have h1:=B5b h hi
 exact h1.trans (Dva _ (h1.wi h) (by rw[h1.len];exact hi))
def Ghb (w:Wld) (i:Nat):RQ w.2.2.1 (qtP w i).2.2.1:=λ m=>(Dwa _ m).trans ((show RQ w.2.2.1 w.2.2.1 from λ _=>rfl).set (p:=i) (x:=(Dab (w.2.2.1.getD i Ac)).1) rfl m)
def Gib {nm:List ByteArray} {w:Wld} (h:WI w) (hN:C2a nm w.2.2.2.2.1) {i:Nat} (hi:i<w.2.2.1.length) {m:Nat} (hm:m<w.2.2.1.length) (t:ByteArray):
  oN (qtP w i).2.2.1 m t=Qc Qb (inP w t) i (λ m=>oN w.2.2.1 m t) m:=by
 have h1:=B5b h hi
 have hi':i<(qtA w i).2.2.1.length:=by rw[h1.len];exact hi
 have hd:=((h1.wi h).nodes _ (A3 (d:=Ac) hi')).1.g.1
 have k:=Dxa (nm:=nm) t (P8 ((qtA w i).2.2.1.getD i Ac).2.1) (h1.wi h) (by rw[h1.ws];exact hN) hi' (Qga hd) m (by rw[h1.len];exact hm)
 show oN (P5 (qtA w i) i _).2.2.1 m t=_
 rw[k,h1.inP]
 by_cases ht:t∈P8 ((qtA w i).2.2.1.getD i Ac).2.1
 ·rw[Pi.2 ht]
  exact C3a (c:=λ m=>oN (qtA w i).2.2.1 m t) (c':=λ m=>oN w.2.2.1 m t) (Oha h hi hi t) (Oha h hi hm t)
 ·rw[Lra ht,cond_false,Oha h hi hm t]
  have e:oN w.2.2.1 i t=none:=(Oha h hi hi t).symm.trans (W0a ht)
  unfold Qc
  dsimp only
  rw[e]

def Zpa {nm:List ByteArray} {ws:List Wri} (hN:C2a nm ws) {a:List Row} (hs:Bw a) (h:∀ r∈a,Ol ws r=true):a.length≤60:=by
 have hp:(a.map (·.1)).Pairwise (λ a b=>tlt a b=true):=Zn.2 hs
 have hd:(a.map (·.1)).Nodup:=hp.imp (λ {a b} hab e=>by subst e;rw[I9]at hab;cases hab)
 have:=V4 _ nm hd (λ s hs=>by
  obtain⟨r,hr,rfl⟩:=Zb.1 hs
  obtain⟨x,hx,rfl⟩:=V3.1 (h r hr)
  exact hN.2 x hx)
 rw[Wd]at this
 have:=hN.1
 omega
def Qoa (n:Nod) (l:List Row):Nod:=(n.1,n.2.1,Ow n.2.2.1 l,n.2.2.2)
def NI.rows {ws:List Wri} {sp:List ByteArray} {n:Nod} (h:NI ws sp n):Bw n.2.2.1:=(Na.1 (C3.1 h.1.1).2.2.2.1).1
def B6b {nm:List ByteArray} {ws:List Wri} {sp:List ByteArray} (hN:C2a nm ws) {n:Nod} (h:NI ws sp n) {l:List Row} (hr:∀ r∈l,Ol ws r=true):tk n l=(true,Qoa n l):=by
 have h1:(Ow n.2.2.1 l).length≤60:=Zpa hN (Nq h.rows) (λ r hr'=>(Eya hr').elim (h.2.2.1 r) (hr r))
 unfold tk
 rw[decide_eq_false (by omega)]
 rfl
def J4a {nm:List ByteArray} {w:Wld} (h:WI w) (hN:C2a nm w.2.2.2.2.1) {src:Int} {l:List Row} {self:Bool} (hl:L5 l=true) (hr:∀ r∈l,Ol w.2.2.2.2.1 r=true):
  (Lo w src l self Fj).2=true∧∀ m,m<w.2.2.1.length→(Lo w src l self Fj).1.getD m Ac=bif inP w Pq m&&!((m:Int)==src&&!self) then Qoa (w.2.2.1.getD m Ac) l else w.2.2.1.getD m Ac:=by
 have h5:(Bs w).length≤5:=h.wo.prim5 Pq
 have hat:=λ x=>Nw (w:=w) (x:=x)
 have hls:=(Na.1 hl).1
 unfold Lo inP
 rw[show N2 w Pq=Bs w from rfl]
 generalize Bs w=ps at *
 have key:=M5 (st:=gst src l self Fj ps) (n:=ps.length) (a:=(w.2.2.1,true)) (λ j (a:List Nod×Bool)=>a.2=true∧NR w.2.2.2.2.1 w.2.2.2.2.2 w.2.2.1 a.1∧
  ∀ m,m<w.2.2.1.length→a.1.getD m Ac=bif Mb (ps.take j) (m:Int)&&!((m:Int)==src&&!self) then Qoa (w.2.2.1.getD m Ac) l else w.2.2.1.getD m Ac) ?_ ?_
 ·rw[Yr]at key
  exact⟨key.1,key.2.2⟩
 ·exact⟨rfl,NR.refl h.nodes,λ m _=>by
   show _=bif false&&_ then _ else _
   rw[Ys]
   rfl⟩
 ·rintro j ⟨ns,g⟩ hj ⟨a1,a3,a4⟩
  dsimp only at a1 a3 a4
  subst a1
  have hpx:=hat _ (A3 (d:=0) hj)
  obtain⟨p,hp⟩:∃ p:Nat,ps.getD j 0=(p:Int):=⟨(ps.getD j 0).toNat,by omega⟩
  have htk:∀ x:Int,Mb (ps.take (j+1)) x=(Mb (ps.take j) x||(p:Int)==x):=λ x=>by
   have e:ps[j]=(p:Int):=by rw[← hp,Vc,Vj hj];rfl
   unfold Mb
   rw[Wl hj,Ljb,e,Jeb,Lkb,J5b]
  have hnl:=a3.len
  have hpn:p<ns.length:=by omega
  have hni:=a3.1 _ (A3 (d:=Ac) hpn)
  unfold gst
  rw[hp,Vb,Gdb (by omega),B6b hN hni hr]
  cases hpi:(p:Int)==src&&!self with
  |true=>
   refine⟨rfl,a3,λ m hm=>?_⟩
   show ns.getD m Ac=_
   rw[a4 m hm,htk]
   by_cases hmp:p=m
   ·subst hmp
    rw[hpi,Yx,Ya,Ya]
   ·rw[show ((p:Int)==(m:Int))=false by rw[beq_eq_false_iff_ne];omega,J5b]
  |false=>
   have hnr:NI w.2.2.2.2.1 w.2.2.2.2.2 (Qoa (ns.getD p Ac) l):=by
    obtain⟨t1,_,_⟩:=G3b (n:=ns.getD p Ac) hni hl hr
    rw[B6b hN hni hr]at t1
    exact t1
   refine⟨rfl,a3.set hpn hnr rfl (MO.refl _ _),λ m hm=>?_⟩
   show (ns.set p (Qoa (ns.getD p Ac) l)).getD m Ac=_
   rw[Jx (show m<ns.length by omega),htk]
   by_cases hpm:p=m
   ·subst hpm
    rw[if_pos rfl,beq_self_eq_true,Bool.or_true,Vx,hpi,Zh,cond_true,a4 p hm,hpi,Zh,Iib]
    cases Mb (ps.take j) (p:Int) with
    |false=>rfl
    |true=>
     show Qoa (Qoa (w.2.2.1.getD p Ac) l) l=Qoa (w.2.2.1.getD p Ac) l
     unfold Qoa
     dsimp only
     rw[Tia (h.nodes _ (A3 (d:=Ac) hm)).rows hls]
   ·rw[if_neg hpm,show ((p:Int)==(m:Int))=false by rw[beq_eq_false_iff_ne];omega,J5b]
    exact a4 m hm
def Oia {n:Nod} (h:n.2.2.2=[]):n=E9b n []:=by
 obtain⟨a,b,c,d⟩:=n
 dsimp only at h
 subst h
 rfl
def W1a {nm:List ByteArray} {w:Wld} (h:WI w) (hN:C2a nm w.2.2.2.2.1) {i:Nat} (hi:i<w.2.2.1.length) {m:Nat} (hm:m<w.2.2.1.length):
  (Sx w i Fj).2.2.2.1.getD m Ac=E9b (bif inP w Pq m then Qoa (w.2.2.1.getD m Ac) ((w.2.2.1.getD i Ac).2.2.2.take 1) else w.2.2.1.getD m Ac) (bif decide (m=i) then (w.2.2.1.getD m Ac).2.2.2.drop 1 else (w.2.2.1.getD m Ac).2.2.2):=by
 have hni:=h.nodes _ (A3 (d:=Ac) hi)
 have hq:=(C3.1 hni.1.1).1
 unfold Sx
 cases hz:((w.2.2.1.getD i Ac).2.2.2.length:Int)==0 with
 |true=>
  have e:(w.2.2.1.getD i Ac).2.2.2=[]:=Wn (by have:=eq_of_beq hz;omega)
  rw[e]
  show w.2.2.1.getD m Ac=_
  by_cases hmi:m=i
  ·subst hmi
   rw[decide_eq_true rfl,e]
   cases inP w Pq m with
   |true=>exact Oia (n:=Qoa (w.2.2.1.getD m Ac) []) e
   |false=>exact Oia e
  ·rw[decide_eq_false hmi]
   cases inP w Pq m<;>rfl
 |false=>
  obtain⟨g1,g2⟩:=J4a h hN (src:=(i:Int)) (self:=true) (Ny hq) (λ r hr=>hni.2.2.2 r (Iqb hr))
  have gl:(P4 w i Fj).1.length=w.2.2.1.length:=(V1 (Ny hq) h.ns).2
  rw[show Lo w (i:Int) ((w.2.2.1.getD i Ac).2.2.2.take 1) true Fj=P4 w i Fj from rfl]at g1 g2
  have g3:=g2 m hm
  rw[Yx,Ya,Zh,Iib]at g3
  show (bif (P4 w i Fj).2 then (P4 w i Fj).1.set i (E9b ((P4 w i Fj).1.getD i Ac) ((w.2.2.1.getD i Ac).2.2.2.drop 1)) else (P4 w i Fj).1).getD m Ac=_
  rw[g1,cond_true,Jx (by omega)]
  by_cases hmi:i=m
  ·subst hmi
   rw[if_pos rfl,g3,decide_eq_true rfl,cond_true]
  ·rw[if_neg hmi,g3,decide_eq_false (λ e=>hmi e.symm),cond_false]
   cases inP w Pq m<;>rfl
def W2a {nm:List ByteArray} {w:Wld} (h:WI w) (hN:C2a nm w.2.2.2.2.1) {i:Nat} (hi:i<w.2.2.1.length) {m:Nat} (hm:m<w.2.2.1.length):
  (R6 w i Fj).2.2.2.1.getD m Ac=bif inP w Pq m&&!(decide (m=i)) then Qoa (w.2.2.1.getD m Ac) (w.2.2.1.getD i Ac).2.2.1 else bif decide (m=i)&&!(inP w Pq i) then Xp (w.2.2.1.getD m Ac) else w.2.2.1.getD m Ac:=by
 have hni:=h.nodes _ (A3 (d:=Ac) hi)
 have hro:=(C3.1 hni.1.1).2.2.2.1
 unfold R6
 cases hz:((w.2.2.1.getD i Ac).2.2.1.length:Int)==0 with
 |true=>
  have e:(w.2.2.1.getD i Ac).2.2.1=[]:=Wn (by have:=eq_of_beq hz;omega)
  rw[e]
  show w.2.2.1.getD m Ac=_
  by_cases hmi:m=i
  ·subst hmi
   rw[decide_eq_true rfl,Yx,Ya,cond_false]
   cases inP w Pq m with
   |true=>rfl
   |false=>show _=Xp (w.2.2.1.getD m Ac);unfold Xp;rw[← e]
  ·rw[decide_eq_false hmi]
   cases inP w Pq m<;>rfl
 |false=>
  obtain⟨g1,g2⟩:=J4a h hN (src:=(i:Int)) (self:=false) hro hni.2.2.1
  have gn:NR w.2.2.2.2.1 w.2.2.2.2.2 w.2.2.1 (Lo w (i:Int) (w.2.2.1.getD i Ac).2.2.1 false Fj).1:=Fva h.nodes hro hni.2.2.1
  rw[show Lo w (i:Int) (w.2.2.1.getD i Ac).2.2.1 false Fj=Nx w i Fj from rfl]at g1 g2 gn
  have gl:=gn.len
  have eL:Mb (Bs (wN w (Nx w i Fj).1)) (i:Int)=inP w Pq i:=by
   unfold Bs inP N2
   rw[show (wN w (Nx w i Fj).1).2.2.1=(Nx w i Fj).1 from rfl,Vva gn.2.1]
  have gq:∀ q:Nat,((q:Int)==(i:Int)&&!false)=decide (q=i):=λ q=>by
   rw[Zh,Iib]
   by_cases e:q=i
   ·rw[e,beq_self_eq_true,decide_eq_true rfl]
   ·rw[decide_eq_false e,beq_eq_false_iff_ne];omega
  have g3:=g2 m hm
  rw[gq]at g3
  show (bif (Nx w i Fj).2&&!(Mb (Bs (wN w (Nx w i Fj).1)) (i:Int)) then (Nx w i Fj).1.set i (Xp ((Nx w i Fj).1.getD i Ac)) else (Nx w i Fj).1).getD m Ac=_
  rw[g1,Vx,eL]
  cases hin:inP w Pq i with
  |true=>
   rw[Yx,cond_false,g3,Ya,cond_false]
  |false=>
   rw[Zh,cond_true,Jx (by omega)]
   by_cases hmi:i=m
   ·subst hmi
    rw[if_pos rfl,decide_eq_true rfl,hin,Ys,cond_false,Vx,cond_true]
    rw[decide_eq_true rfl,hin,Ys,cond_false]at g3
    rw[g3]
   ·rw[if_neg hmi,g3,decide_eq_false (λ e=>hmi e.symm),Ys,cond_false]
def rN (ns:List Nod) (m:Nat) (t:ByteArray):Option Row:=J7 (ns.getD m Ac).2.2.1 t
def InK.rows {k n:Nat} {P:Nat→Bool} {t:ByteArray}:∀ (q:List Row) {R:Nat→List Row},(∀ m,m<n→Bw (R m))→k≤n→(Oga k P (λ m=>J7 (R m) t)∧InK leR k n P (λ m=>J7 (R m) t))→
  Oga k P (λ m=>J7 (bif P m then Ow (R m) q else R m) t)∧InK leR k n P (λ m=>J7 (bif P m then Ow (R m) q else R m) t)
 |[],R,hs,hk,h=>by
  have e:(λ m=>J7 (bif P m then Ow (R m) [] else R m) t)=λ m=>J7 (R m) t:=by
   funext m
   cases P m<;>rfl
  rw[e]
  exact h
 |r::q,R,hs,hk,h=>by
  have e:∀ m,m<n→J7 (bif P m then mrg (R m) r else R m) t=bif teq r.1 t then gvC Qfa P r (λ m=>J7 (R m) t) m else J7 (R m) t:=λ m hm=>by
   unfold gvC
   cases P m with
   |false=>cases teq r.1 t<;>rfl
   |true=>
    rw[cond_true,Hma (hs m hm) t]
    cases teq r.1 t with
    |false=>rfl
    |true=>dsimp only;cases J7 (R m) t<;>rfl
  have ih:=InK.rows q (R:=λ m=>bif P m then mrg (R m) r else R m) (P:=P) (t:=t) (k:=k) (n:=n) (λ m hm=>by
   cases P m with
   |true=>exact So (hs m hm)
   |false=>exact hs m hm) hk ?_
  ·have e2:(λ m=>J7 (bif P m then Ow (bif P m then mrg (R m) r else R m) q else (bif P m then mrg (R m) r else R m)) t)=λ m=>J7 (bif P m then Ow (R m) (r::q) else R m) t:=by
    funext m
    cases P m<;>rfl
   rw[← e2]
   exact ih
  ·cases ht:teq r.1 t with
   |true=>exact⟨h.1.gv.eq hk (λ m hm=>by rw[e m hm,ht];rfl),(h.2.gv (f:=r) B4b).eq hk (λ m hm=>by rw[e m hm,ht];rfl)⟩
   |false=>exact⟨h.1.eq hk (λ m hm=>by rw[e m hm,ht];rfl),h.2.eq hk (λ m hm=>by rw[e m hm,ht];rfl)⟩
def WI.give {w:Wld} (h:WI w) (m:Nat) (hm:m<w.2.2.1.length):Bw (w.2.2.1.getD m Ac).2.2.1:=(h.nodes _ (A3 (d:=Ac) hm)).rows
structure TA (w v:Wld) (i n:Nat):Prop where
 sw:SW w v
 di:∀ m,m<w.2.2.1.length→(v.2.2.1.getD m Ac).2.1=(w.2.2.1.getD m Ac).2.1
 ro:∀ m,m<w.2.2.1.length→(v.2.2.1.getD m Ac).2.2.1=bif inP w Pq m then Ow (w.2.2.1.getD m Ac).2.2.1 ((w.2.2.1.getD i Ac).2.2.2.take n) else (w.2.2.1.getD m Ac).2.2.1
 qu:∀ m,m<w.2.2.1.length→(v.2.2.1.getD m Ac).2.2.2=bif decide (m=i) then (w.2.2.1.getD m Ac).2.2.2.drop n else (w.2.2.1.getD m Ac).2.2.2
def C4a {nm:List ByteArray} {w:Wld} (h:WI w) (hN:C2a nm w.2.2.2.2.1) {i:Nat} (hi:i<w.2.2.1.length):∀ n,TA w (Pr w i n) i n
 |0=>⟨SW.refl h,λ _ _=>rfl,λ m _=>by cases inP w Pq m<;>rfl,λ m _=>by cases decide (m=i)<;>rfl⟩
 |n+1=>by
  have ih:=C4a h hN hi n
  show TA w (Sx (Pr w i n) i Fj).2 i (n+1)
  generalize Pr w i n=v at *
  have hv:=ih.sw.wi h
  have hl:=ih.sw.len
  have t1:=Dwb hv (i:=i) (by omega)
  have t2:=λ m (hm:m<w.2.2.1.length)=>W1a hv (nm:=nm) (by rw[ih.sw.ws];exact hN) (i:=i) (by omega) (m:=m) (by omega)
  rw[ih.sw.inP]at t2
  refine⟨ih.sw.trans t1,λ m hm=>?_,λ m hm=>?_,λ m hm=>?_⟩
  ·rw[t2 m hm,← ih.di m hm]
   cases inP w Pq m<;>rfl
  ·rw[t2 m hm]
   have r1:=ih.ro m hm
   have q1:=ih.qu i hi
   rw[decide_eq_true rfl,cond_true]at q1
   rw[q1]
   cases hp:inP w Pq m with
   |false=>
    rw[hp,cond_false]at r1
    exact r1
   |true=>
    rw[hp,cond_true]at r1
    show Ow (v.2.2.1.getD m Ac).2.2.1 _=Ow _ _
    rw[r1]
    unfold Ow
    rw[← Isb,Lob (i:=n) (j:=1)]
  ·rw[t2 m hm]
   show (bif decide (m=i) then (v.2.2.1.getD m Ac).2.2.2.drop 1 else (v.2.2.1.getD m Ac).2.2.2)=_
   rw[ih.qu m hm]
   cases decide (m=i) with
   |true=>rw[cond_true,cond_true,cond_true,Yo]
   |false=>rfl
structure RI (nm:List ByteArray) (k:Nat) (w:Wld):Prop where
 wi:WI w
 few:C2a nm w.2.2.2.2.1
 fo:∀ t,Oga k (inP w t) (λ m=>oN w.2.2.1 m t)
 fi:∀ t,InK leF k w.2.2.1.length (inP w t) (λ m=>oN w.2.2.1 m t)
 ro:∀ t,Oga k (inP w Pq) (λ m=>rN w.2.2.1 m t)
 ri:∀ t,InK leR k w.2.2.1.length (inP w Pq) (λ m=>rN w.2.2.1 m t)
 qe:∀ m,m<k→(w.2.2.1.getD m Ac).2.2.2=[]
def RI.step {nm:List ByteArray} {w:Wld} {i:Nat} (h:RI nm i w) (hi:i<w.2.2.1.length):RI nm (i+1) (qtN w i)∧SW w (qtN w i):=by
 have s1:=Ggb h.wi hi
 have o1:=λ m (hm:m<w.2.2.1.length) t=>Gib h.wi h.few hi hm t
 have r1:=Ghb w i
 have w1:=s1.wi h.wi
 have l1:=s1.len
 have p1:=s1.inP
 have f1:C2a nm (qtP w i).2.2.2.2.1:=by rw[s1.ws];exact h.few
 unfold qtN qtT
 generalize qtP w i=u at *
 have ta:=C4a w1 f1 (i:=i) (by omega) (u.2.2.1.getD i Ac).2.2.2.length
 generalize Pr u i (u.2.2.1.getD i Ac).2.2.2.length=v at *
 have w2:=ta.sw.wi w1
 have l2:=ta.sw.len
 have p2:=λ t=>(ta.sw.inP t).trans (p1 t)
 have f2:C2a nm v.2.2.2.2.1:=by rw[ta.sw.ws];exact f1
 have s3:=Dxb w2 (i:=i) (by omega)
 have g3:=λ m (hm:m<w.2.2.1.length)=>W2a w2 f2 (i:=i) (by omega) (m:=m) (by omega)
 rw[p2]at g3
 have l3:=s3.len
 have p3:=λ t=>(s3.inP t).trans (p2 t)
 have f3:C2a nm (R6 v i Fj).2.2.2.2.2.1:=by rw[s3.ws];exact f2
 have w3:=s3.wi w2
 have s4:=(s1.trans ta.sw).trans s3
 have eo:∀ t m,m<w.2.2.1.length→oN (R6 v i Fj).2.2.2.1 m t=Qc Qb (inP w t) i (λ m=>oN w.2.2.1 m t) m:=λ t m hm=>by
  rw[← o1 m hm t]
  unfold oN
  rw[g3 m hm,← ta.di m (by omega)]
  cases inP w Pq m&&!(decide (m=i)) with
  |true=>rfl
  |false=>cases decide (m=i)&&!(inP w Pq i)<;>rfl
 have tv:∀ t,Oga i (inP w Pq) (λ m=>rN v.2.2.1 m t)∧InK leR i w.2.2.1.length (inP w Pq) (λ m=>rN v.2.2.1 m t):=λ t=>by
  have:=InK.rows (t:=t) (P:=inP w Pq) (k:=i) (n:=w.2.2.1.length) (u.2.2.1.getD i Ac).2.2.2 (R:=λ m=>(u.2.2.1.getD m Ac).2.2.1) (λ m hm=>w1.give m (by omega)) (by omega) ⟨(h.ro t).eq (n:=w.2.2.1.length) (by omega) (λ m hm=>by
   unfold rN;rw[r1 m]),(h.ri t).eq (by omega) (λ m hm=>by unfold rN;rw[r1 m])⟩
  have e:∀ m,m<w.2.2.1.length→rN v.2.2.1 m t=J7 (bif inP w Pq m then Ow (u.2.2.1.getD m Ac).2.2.1 (u.2.2.1.getD i Ac).2.2.2 else (u.2.2.1.getD m Ac).2.2.1) t:=λ m hm=>by
   have:=ta.ro m (by omega)
   rw[p1,Yr]at this
   unfold rN
   rw[this]
  exact⟨this.1.eq (n:=w.2.2.1.length) (by omega) e,this.2.eq (by omega) e⟩
 have er:∀ t m,m<w.2.2.1.length→rN (R6 v i Fj).2.2.2.1 m t=Qc Qfa (inP w Pq) i (λ m=>rN v.2.2.1 m t) m:=λ t m hm=>by
  have hl:=X1 (w2.give m (by omega)) (w2.give i (by omega)) t
  unfold Qc rN
  rw[g3 m hm]
  dsimp only
  have hno:∀ n:Nod,J7 (Xp n).2.2.1 t=none:=λ _=>rfl
  cases hk:J7 (v.2.2.1.getD i Ac).2.2.1 t with
  |none=>
   rw[hk]at hl
   dsimp only
   cases hc:inP w Pq m&&!(decide (m=i)) with
   |true=>
    show J7 (Ow (v.2.2.1.getD m Ac).2.2.1 (v.2.2.1.getD i Ac).2.2.1) t=_
    rw[hl]
    cases J7 (v.2.2.1.getD m Ac).2.2.1 t<;>rfl
   |false=>
    rw[cond_false]
    by_cases hmi:m=i
    ·rw[decide_eq_true hmi,hmi,hk]
     cases inP w Pq i with
     |true=>exact hk
     |false=>rfl
    ·rw[decide_eq_false hmi];rfl
  |some r=>
   rw[hk]at hl
   dsimp only
   cases hc:inP w Pq m&&!(decide (m=i)) with
   |true=>
    show J7 (Ow (v.2.2.1.getD m Ac).2.2.1 (v.2.2.1.getD i Ac).2.2.1) t=_
    rw[hl]
    cases J7 (v.2.2.1.getD m Ac).2.2.1 t<;>rfl
   |false=>
    rw[cond_false,cond_false]
    cases decide (m=i)&&!(inP w Pq i)<;>rfl
 refine⟨⟨w3,f3,λ t=>?_,λ t=>?_,λ t=>?_,λ t=>?_,λ m hm=>?_⟩,s4⟩
 ·rw[p3];exact(h.fo t).step.eq (n:=w.2.2.1.length) (by omega) (eo t)
 ·rw[p3,s4.len];exact((h.fi t).step Geb).eq (by omega) (eo t)
 ·rw[p3];exact(tv t).1.step.eq (n:=w.2.2.1.length) (by omega) (er t)
 ·rw[p3,s4.len];exact((tv t).2.step B4b).eq (by omega) (er t)
 ·have e1:((R6 v i Fj).2.2.2.1.getD m Ac).2.2.2=(v.2.2.1.getD m Ac).2.2.2:=by
   rw[g3 m (by omega)]
   cases inP w Pq m&&!(decide (m=i)) with
   |true=>rfl
   |false=>cases decide (m=i)&&!(inP w Pq i)<;>rfl
  rw[e1,ta.qu m (by omega)]
  by_cases hmi:m=i
  ·rw[decide_eq_true hmi,cond_true,hmi,We]
  ·rw[decide_eq_false hmi,cond_false,r1 m]
   exact h.qe m (by omega)
def B7b {nm:List ByteArray} {w:Wld} (h:WI w) (hN:C2a nm w.2.2.2.2.1):∀ k,k≤w.2.2.1.length→RI nm k (run qtN k w)∧SW w (run qtN k w)
 |0,_=>⟨⟨h,hN,λ _ m hm=>(by omega),λ _ q hq=>(by omega),λ _ m hm=>(by omega),λ _ q hq=>(by omega),λ m hm=>(by omega)⟩,SW.refl h⟩
 |k+1,hk=>by
  obtain⟨h1,h2⟩:=B7b h hN k (by omega)
  rw[Nj]
  have hl:=h2.len
  generalize run qtN k w=v at *
  obtain⟨h3,h4⟩:=h1.step (by omega)
  exact⟨h3,h2.trans h4⟩
def Fya {nm:List ByteArray} {w:Wld} (h:WI w) (hN:C2a nm w.2.2.2.2.1):RI nm (Qa w).2.2.1.length (Qa w)∧SW w (Qa w):=by
 obtain⟨h1,h2⟩:=B7b h hN _ (Vv _)
 have hl:=h2.len
 unfold Qa
 generalize run qtN w.2.2.1.length w=v at *
 rw[hl]
 exact⟨h1,h2⟩

def W3a {w:Wld} (h:WI w) {s t:ByteArray} {f g:Fil} (hf:IsW w.2.2.2.2.1 s f) (hg:IsW w.2.2.2.2.1 t g) (e:f.1=g.1):f=g:=by
 obtain⟨x,hx,_,rfl⟩:=hf
 obtain⟨y,hy,_,rfl⟩:=hg
 obtain⟨i,hi,rfl⟩:=Zf.1 hx
 obtain⟨j,hj,rfl⟩:=Zf.1 hy
 have ha:=Zk.1 h.asc
 rcases Nat.lt_trichotomy i j with c|c|c
 ·have:=ha i j hi hj c
  rw[e,Kx]at this
  cases this
 ·subst c;rfl
 ·have:=ha j i hj hi c
  rw[e,Kx]at this
  cases this
def Gjb {a b:Stp} (h1:sle a b=false) (h2:sle b a=false):a=b:=by
 have n1:¬ sle a b=true:=by rw[h1];decide
 have n2:¬ sle b a=true:=by rw[h2];decide
 rw[Pn]at n1 n2
 obtain⟨a1,a2,a3⟩:=a
 obtain⟨b1,b2,b3⟩:=b
 dsimp only at n1 n2
 obtain rfl:a1=b1:=by omega
 obtain rfl:a2=b2:=by omega
 obtain rfl:a3=b3:=by omega
 rfl
def W4a {s:ByteArray} {f:Fil}:∀ (ns:List Nod) (a:Bool×Fil),(∀ n∈ns,((lkD n.2.1 s).2==0)=true→(lkD n.2.1 s).1=f)→(a.1=true→a.2=f)→(ns.foldl (Zia s) a).1=true→(ns.foldl (Zia s) a).2=f
 |[],a,_,h,h1=>h h1
 |n::ns,a,hn,h,h1=>by
  rw[Yq]at h1 ⊢
  refine W4a ns _ (λ m hm=>hn m (Vh _ hm)) ?_ h1
  have k:=hn n Yc
  unfold Zia
  cases hc:(lkD n.2.1 s).2==0 with
  |false=>exact h
  |true=>
   rw[cond_true]
   cases !a.1||sle a.2.1 (lkD n.2.1 s).1.1 with
   |true=>exact λ _=>k hc
   |false=>exact h
def Gkb {d:Dsk} {s:ByteArray}:((lkD d s).2==0)=(old d s).isSome:=by
 have:=Vsa (d:=d) (s:=s)
 unfold bne at this
 cases h:(lkD d s).2==0<;>cases h2:old d s<;>simp[h,h2]at this ⊢
section
variable {nm:List ByteArray} {w:Wld}
def RI.names (h:RI nm w.2.2.1.length w) {j:Nat} (hj:j<w.2.2.1.length) {s:ByteArray} (hs:(oN w.2.2.1 j s).isSome=true):lvN w s=true:=by
 obtain⟨f,hf⟩:=Zm.1 hs
 have hP:inP w s j=true:=by
  cases hp:inP w s j with
  |true=>rfl
  |false=>
   have e:oN w.2.2.1 j s=none:=h.fo s j hj hp
   rw[e]at hf
   cases hf
 have isw:∀ m,m<w.2.2.1.length→∀ g,oN w.2.2.1 m s=some g→IsW w.2.2.2.2.1 s g:=λ m hm g hg=>ED.now h.wi.wok ((h.wi.nodes _ (A3 (d:=Ac) hm)).2.1 s) hg
 have all:∀ m,m<w.2.2.1.length→oN w.2.2.1 m s=bif inP w s m then some f else none:=λ m hm=>by
  cases hp:inP w s m with
  |false=>exact h.fo s m hm hp
  |true=>
   obtain⟨y,h1,h2⟩:=h.fi s j hj hP f hf m hm hp
   obtain⟨z,h3,h4⟩:=h.fi s m hm hp y h1 j hj hP
   have h3':oN w.2.2.1 j s=some z:=h3
   rw[hf]at h3'
   obtain rfl:=Jib h3'
   have h1':oN w.2.2.1 m s=some y:=h1
   rw[h1',W3a h.wi (isw j hj f hf) (isw m hm y h1') (Gjb h4 h2)]
   rfl
 unfold lvN
 have hlk:∀ m,m<w.2.2.1.length→((lkD (w.2.2.1.getD m Ac).2.1 s).2==0)=inP w s m∧(inP w s m=true→(lkD (w.2.2.1.getD m Ac).2.1 s).1=f):=λ m hm=>by
  have a:=all m hm
  unfold oN at a
  refine⟨?_,λ hp=>?_⟩
  ·rw[Gkb,a]
   cases inP w s m<;>rfl
  ·rw[hp]at a
   rw[Vta a]
 have hl:(lat w.2.2.1 s).2=f:=by
  unfold lat
  refine W4a _ _ (λ n hn hc=>?_) (λ c=>by cases c) (Oea _ _ (.inr ⟨_,A3 (d:=Ac) hj,by rw[(hlk j hj).1];exact hP⟩))
  obtain⟨m,hm,rfl⟩:=Zf.1 hn
  have e:w.2.2.1[m]=w.2.2.1.getD m Ac:=by rw[Vc,Vj hm];rfl
  rw[e]at hc ⊢
  rw[(hlk m hm).1]at hc
  exact(hlk m hm).2 hc
 rw[hl,P3 _ Ac,Wi]
 intro m hm
 have hm':=Zc.1 hm
 obtain⟨k1,k2⟩:=hlk m hm'
 have hb:=((isw j hj f hf).good h.wi.wok).2.2
 unfold lvE
 rw[← Zja hm',k1,show Mb (whr w.2.2.1 (R9 w.2.1 s)) (m:Int)=inP w s m from rfl]
 cases hp:inP w s m with
 |false=>rfl
 |true=>
  rw[k2 hp,(Bya hb hb).2 rfl]
  rfl
def RI.rows (h:RI nm w.2.2.1.length w) {j:Nat} (hj:j<w.2.2.1.length):Dqb w j=true:=by
 unfold Dqb Vma
 rw[h.qe j hj]
 have refl:∀ l:List Row,Loa l l=true:=λ l=>by
  unfold Loa
  rw[beq_self_eq_true,Vx,Wi]
  intro i _
  unfold Gab
  rw[Z5,Cr.2 rfl,beq_self_eq_true,beq_self_eq_true,beq_self_eq_true,beq_self_eq_true,beq_self_eq_true]
  rfl
 show (true&&_)=true
 rw[Vx]
 have hp:Mb (Bs w) (j:Int)=inP w Pq j:=rfl
 cases hL:inP w Pq j with
 |false=>
  rw[hp,hL,cond_false,Iza]
  have e:(w.2.2.1.getD j Ac).2.2.1=[]:=by
   cases hr:(w.2.2.1.getD j Ac).2.2.1 with
   |nil=>rfl
   |cons r l=>
    have h1:rN w.2.2.1 j r.1=none:=h.ro r.1 j hj hL
    have h2:=N1 (h.wi.give j hj) (r:=r) (by rw[hr];exact Yc)
    unfold rN at h1
    rw[h1]at h2
    cases h2
  rw[e]
  rfl
 |true=>
  rw[hp,hL,cond_true]
  obtain⟨l0,l1,l2⟩:=J0a (hp.trans hL)
  obtain⟨p,ep⟩:∃ p:Nat,(Bs w).getD 0 0=(p:Int):=⟨((Bs w).getD 0 0).toNat,by omega⟩
  have hpP:inP w Pq p=true:=by
   show Mb (Bs w) (p:Int)=true
   rw[← ep]
   exact O5.2 (A3 l0)
  rw[ep,Vb]
  have hpn:p<w.2.2.1.length:=by omega
  have e:(w.2.2.1.getD j Ac).2.2.1=(w.2.2.1.getD p Ac).2.2.1:=by
   refine B5a (h.wi.give j hj) (h.wi.give p hpn) λ t=>?_
   have one:∀ a b,a<w.2.2.1.length→b<w.2.2.1.length→inP w Pq a=true→inP w Pq b=true→∀ x,rN w.2.2.1 a t=some x→rN w.2.2.1 b t=some x:=λ a b ha hb pa pb x hx=>by
    obtain⟨y,h1,h2⟩:=h.ri t a ha pa x hx b hb pb
    obtain⟨z,h3,h4⟩:=h.ri t b hb pb y h1 a ha pa
    have h3':rN w.2.2.1 a t=some z:=h3
    rw[hx]at h3'
    obtain rfl:=Jib h3'
    have h1':rN w.2.2.1 b t=some y:=h1
    rw[h1',Tha ((Dea _ hx).trans (Dea _ h1').symm) h4 h2]
   show rN w.2.2.1 j t=rN w.2.2.1 p t
   cases h1:rN w.2.2.1 j t with
   |some x=>exact(one j p hj hpn hL hpP x h1).symm
   |none=>
    cases h2:rN w.2.2.1 p t with
    |none=>rfl
    |some x=>rw[one p j hpn hj hpP hL x h2]at h1;cases h1
  rw[e]
  exact refl _
def RI.level (h:RI nm w.2.2.1.length w):Gtb w=true:=by
 unfold Gtb
 rw[Va,Wi,Wi]
 refine⟨λ j hj=>?_,λ j hj=>h.rows (Zc.1 hj)⟩
 have hj':=Zc.1 hj
 unfold Gbb
 rw[Wi]
 intro s hs
 refine h.names hj' ?_
 have:=C1a.1 hs
 unfold Cqa at this
 rw[Gkb]at this
 exact this
end

end Go.Proofs.YtmhhjceoinoekaaGreat.Vf

section
set_option linter.unusedVariables false
set_option linter.unusedSimpArgs false
namespace Go.Proofs.YtmhhjceoinoekaaGreat.Pure
open Go Go.RowKit Go.Proofs.YtmhhjceoinoekaaGreat.Vf
theorem B8b {w:Wld} (h:WD w):C2a Kw w.2.2.2.2.1:=⟨by decide,h.2⟩
theorem Htb {w:Wld} (h:WI w):Hlb w:=λ n hn x hx=>by
 have hd:=(h.nodes n hn).1.g.1
 have:=(Al.1 (E5.1 hd).1).2.1 x hx
 unfold nOk at this
 rw[Va]at this
 exact Vna this.1
theorem J5a {w:Wld} (h:WI w) (hN:C2a Kw w.2.2.2.2.1):∀ n,SW w (P6 w n)
 |0=>SW.refl h
 |n+1=>by
  have h1:=J5a h hN n
  exact h1.trans (Fya (h1.wi h) (by rw[h1.ws];exact hN)).2
theorem FnLevel:∀ (a0:List Int),Ty.fit ti (.sl 5 (.i .u8)) a0→∃ k,K5 k a0=some true:=by
 intro a0 _
 refine Tot.law (f:=λ k=>K5 k a0) ?_
 unfold K5 Nz
 refine I1b (I0b (Q:=λ b=>b=decide ((List.length a0:Int) > 1048576)) rfl) ?_
 rintro b rfl
 refine I7b (λ _=>I0b rfl) (λ hb=>?_)
 refine I1b (Cpa a0 (by omega)) ?_
 intro w hd
 have h:=hd.1
 have im:∀ {v:Wld},WI v→WIm 200 v:=λ hv=>hv.wo.wim (by decide) hv.splen
 refine I1b (Lpa (im h) (by decide) 3 (by decide)) ?_
 rintro _ rfl
 rw[h.rightB,cond_true]
 have s2:=J5a h (B8b hd) 2
 have w2:=s2.wi h
 have f2:C2a Kw (P6 w 2).2.2.2.2.1:=by rw[s2.ws];exact(B8b hd)
 rw[show P6 w 3=Qa (P6 w 2) from rfl]
 have l2:=s2.len
 generalize P6 w 2=u at *
 obtain⟨r3,s3⟩:=Fya w2 f2
 have l3:=s3.len
 have f3:C2a Kw (Qa u).2.2.2.2.1:=by rw[s3.ws];exact f2
 generalize Qa u=v at *
 have w3:=r3.wi
 refine I1b (J1a v w3.win (Htb w3)) ?_
 rintro _ rfl
 refine I3b r3.level ?_
 refine I1b (Z9a v w3.win) ?_
 rintro _ rfl
 refine I3b (by rw[w3.safe];rfl) (I3b (by rw[l3,l2,beq_self_eq_true]) ?_)
 refine I1b (Qea (im w3) (by decide)) ?_
 rintro _ rfl
 unfold Vpa
 rw[w3.rightB,cond_true]
 obtain⟨r4,s4⟩:=Fya w3 f3
 refine I1b (J1a _ r4.wi.win (Htb r4.wi)) ?_
 rintro _ rfl
 exact I0b r4.level
end Go.Proofs.YtmhhjceoinoekaaGreat.Pure
end
