import Derived.Test.YtiiekghlhfbmmaaGreatMap
import Derived.Test.YtiiekghlhfbmmaaGreatMak
set_option linter.all false
namespace Go.Proofs.YtiiekghlhfbmmaaGreat.Vf
open Go
open List (length getD)
open Int (toNat)
open Go.IntKind (wrap)
open BitVec (ofInt)

def Fsa (nm:List ByteArray) (ws:List Wri):Prop:=nm.length≤60∧∀ x∈ws,x.1∈nm
def Dla {nm:List ByteArray} {l:List Nmd} (hs:D5 l) (h:∀ x∈l,x.1∈nm) (hn:nm.length≤60):l.length≤60:=by
 have hp:(l.map (·.1)).Pairwise (λ a b=>tlt a b=true):=Zh.2 hs
 have hd:(l.map (·.1)).Nodup:=hp.imp (λ {a b} hab e=>by subst e;rw[G8]at hab;cases hab)
 have:=Q1 _ nm hd (λ s hs=>by obtain⟨x,hx,rfl⟩:=Yw.1 hs;exact h x hx)
 rw[Wc]at this
 omega
def B0b {nm:List ByteArray} {l:List Nmd} {s:ByteArray} {b:List Int} (hl:D5 l) (h:∀ x∈l,x.1∈nm) (hs:s∈nm) (hn:nm.length≤60):(wr l s b).length≤60:=by
 have hso:D5 (wr l s b):=Pv (Mg hl) Xc
 refine Dla hso (λ x hx=>?_) hn
 have hg:=Eza hso hx
 rw[C6a hl]at hg
 by_cases e:s=x.1
 ·rw[← e];exact hs
 ·rw[if_neg e]at hg;exact h _ (Ob hg)
section
variable {nm:List ByteArray} {ws:List Wri} {sp:List ByteArray} {d:Dsk} {s:ByteArray} {f:Fil}
def Vka (hN:Fsa nm ws) (hf:IsW ws s f):s∈nm:=by
 obtain⟨x,hx,rfl,_⟩:=hf
 exact hN.2 x hx
def Oia (hN:Fsa nm ws) (hd:Al d=true) (h:DI ws sp d):(∀ x∈d.1,x.1∈nm)∧∀ x∈d.2,x.1∈nm:=by
 refine⟨λ x hx=>?_,λ x hx=>?_⟩
 ·obtain⟨f,hf,_⟩:=(h x.1).1 _ (Eza (Kk hd) hx)
  exact Vka hN hf
 ·obtain⟨f,hf,_⟩:=(h x.1).2.1 _ (Eza (Oq hd) hx)
  exact Vka hN hf
def O6 (o:Option Fil) (f:Fil):Fil:=match o with
 |some g=>bif sle g.1 f.1 then f else g
 |none=>f
def Bna (o:Option Fil) (f:Fil):O6 (some (O6 o f)) f=O6 o f:=by
 cases o with
 |none=>simp[O6]
 |some g=>cases h:sle g.1 f.1<;>simp[O6,h]
def Zba (hw:Fna ws) (hN:Fsa nm ws) (hd:DG d) (h:DI ws sp d) (hf:IsW ws s f):
  ((keep d s f true).2=0∨(keep d s f true).2=1)∧∀ t,old (keep d s f true).1 t=if s=t then some (O6 (old d s) f) else old d t:=by
 obtain⟨g1,g2,g3⟩:=hf.good hw
 have hs:=Vka hN hf
 obtain⟨n1,n2⟩:=Oia hN hd.1 h
 have l1:∀ b,(wr d.1 s b).length≤60:=λ b=>B0b (Kk hd.1) n1 hs hN.1
 have h2s:D5 d.2:=Oq hd.1
 have l2:∀ l:List Nmd,(sy (l,d.2) s).length≤60:=λ l=>by
  unfold sy
  cases gt l s with
  |some b=>exact B0b h2s n2 hs hN.1
  |none=>exact Dla (Mg h2s) (λ x hx=>n2 x (Jxb.1 hx).1) hN.1
 rw[Uo hd.1 g1 g2]
 rcases Px (f:=f) (sure:=true) hd g1 with k|⟨o,h1,h2,h3,_,h5⟩|⟨h1,_,h3,_,h5⟩
 ·exfalso
  have hwr:wrD d s (Kh f)=((wr d.1 s (Kh f),d.2),true):=by
   unfold wrD
   rw[decide_eq_true (show (Kh f).length≤400 by have:=Qn f;omega),decide_eq_true (l1 _)]
   rfl
  have hsy:∀ l:List Nmd,(syD (l,d.2) s).2=true:=λ l=>by
   unfold syD
   rw[decide_eq_true (l2 l)]
   rfl
  have k2:∀ (l:List Nmd) (c:Int),(kp2 d s true ((l,d.2),c)).2=c:=λ l c=>by
   unfold kp2
   rw[cond_true,hsy l]
   rfl
  have k3:=congrArg Prod.snd k
  unfold Mh kp1 at k3
  rw[hwr]at k3
  cases ho:old d s with
  |none=>
   rw[ho]at k3
   have:(kp2 d s true ((wr d.1 s (Kh f),d.2),0)).2=3:=k3
   rw[k2]at this
   cases this
  |some o=>
   rw[ho]at k3
   cases hc:sle o.1 f.1 with
   |true=>
    simp only[hc,cond_true]at k3
    rw[k2]at k3
    cases k3
   |false=>
    simp only[hc,cond_false]at k3
    have:(kp2 d s true ((d.1,d.2),1)).2=3:=k3
    rw[k2]at this
    cases this
 ·refine⟨.inr h3,λ t=>?_⟩
  rcases h5 with⟨c,_⟩|⟨_,e⟩
  ·cases c
  ·rw[e]
   show old d t=_
   by_cases hst:s=t
   ·subst hst
    rw[if_pos rfl,h1]
    simp[O6,h2]
   ·rw[if_neg hst]
 ·refine⟨.inl h3,λ t=>?_⟩
  rcases h5 with⟨c,_⟩|⟨_,e⟩
  ·cases c
  ·rw[e]
   show (gt (wr d.1 s (Kh f)) t).bind Mz=_
   rw[C6a (Kk hd.1)]
   by_cases hst:s=t
   ·rw[if_pos hst,if_pos hst,Vm,Si g2 g3]
    cases ho:old d s with
    |none=>rfl
    |some o=>simp[O6,h1 o ho]
   ·rw[if_neg hst,if_neg hst]
    rfl
end
def Vla {d:Dsk} {s:ByteArray} (hd:DG d) (hg:(gt d.1 s).isSome=true) (t:ByteArray):old (syD (rmD d s).1 s).1 t=if s=t then none else old d t:=by
 have e1:(syD (rmD d s).1 s).1.1=cut d.1 s:=by
  have e:(rmD d s).1=(cut d.1 s,d.2):=by unfold rmD;rw[hg];rfl
  rw[e]
  unfold syD
  cases decide ((sy (cut d.1 s,d.2) s).length≤60)<;>rfl
 unfold old
 rw[e1,Sy (Kk hd.1)]
 by_cases h:s=t
 ·rw[if_pos h,if_pos h];rfl
 ·rw[if_neg h,if_neg h]
def Vma {d:Dsk} (hd:DG d) (t:ByteArray):old (Nk d).1 t=old d t:=by
 obtain⟨_,h⟩:=Tm d.1 (d,0) hd
 unfold old
 by_cases hb:t∈F9a d.1
 ·obtain⟨b,h1,h2⟩:=(O3a hd.1).1 hb
  rw[show gt (Nk d).1.1 t=none from ((h t).1 hb).1,h1,Vm,h2]
  rfl
 ·rw[show gt (Nk d).1.1 t=gt d.1 t from ((h t).2 hb).1]
def Oja {d:Dsk} {s:ByteArray}:((lkD d s).2 != 0)=(old d s).isNone:=by
 unfold lkD old
 cases gt d.1 s with
 |none=>rfl
 |some b=>cases h:Mz b<;>simp[h]
def Boa {d:Dsk} {s:ByteArray} {f:Fil} (h:old d s=some f):lkD d s=(f,0):=by
 unfold old at h
 cases hg:gt d.1 s with
 |none=>rw[hg]at h;cases h
 |some b=>rw[hg]at h;exact Ot.2 ⟨b,hg,h⟩
def Vna (id:Int):∀ {ns ms:List Nod} (i:Nat),ms.map (·.1)=ns.map (·.1)→atN ms id i=atN ns id i
 |[],[],_,_=>rfl
 |n::ns,m::ms,i,h=>by
  rw[Yg,Yg,Yl]at h
  unfold atN
  rw[h.1,Vna id (i+1) h.2]
 |[],_::_,_,h=>by cases h
 |_::_,[],_,h=>by cases h
def Voa {ns ms:List Nod} (h:ms.map (·.1)=ns.map (·.1)) (ids:List Int):whr ms ids=whr ns ids:=by
 unfold whr
 congr 1
 funext id
 exact Vna id 0 h
def Vpa (id:Int):∀ (ns:List Nod) (i:Nat),(ns.map (·.1)).Nodup→(atN ns id i).length≤1
 |[],_,_=>Vs _
 |n::ns,i,h=>by
  rw[Yg,Yt]at h
  have ih:=Vpa id ns (i+1) h.2
  unfold atN
  cases hx:n.1==id with
  |false=>exact ih
  |true=>
   have he:atN ns id (i+1)=[]:=by
    refine Kpb.2 λ x hx'=>?_
    obtain⟨j,h1,h2,_⟩:=(Fja id ns (i+1) x).1 hx'
    refine h.1 ?_
    rw[eq_of_beq hx,← h2]
    exact Yu (A4 h1)
   rw[cond_true,he]
   exact Vv _
def Vqa {ns:List Nod} (h:(ns.map (·.1)).Nodup):∀ (ids:List Int),(whr ns ids).length≤ids.length
 |[]=>Vs _
 |id::ids=>by
  rw[Fha,Ve,Vc]
  have:=Vpa id ns 0 h
  have:=Vqa h ids
  omega
def WO.nodup {w:Wld} (h:WO w):(w.2.2.1.map (·.1)).Nodup:=by
 rw[h.ids]
 have hp:=(Fc.1 (Cb.1 h.ring).1).1
 have hq:(w.1.map (·.1)).Pairwise (λ a b=>a<b):=Zh.2 hp
 exact hq.imp (λ {a b} hab e=>by omega)
def WO.prim5 {w:Wld} (h:WO w) (s:ByteArray):(Mp w s).length≤5:=by
 have h1:=Vqa h.nodup (Sp w.2.1 s)
 have h2:=(Bea h.ring s).2.1
 have h3:=(Cb.1 h.ring).2.1
 unfold Mp
 omega
def Gpb {j:Nat} (h:j<12):rch Ip j=1:=by
 unfold rch
 rw[decide_eq_true (show j<Ip.length from h)]
 have:Ip.getD j 0=1:=by
  match j,h with
  |0,_|1,_|2,_|3,_|4,_|5,_|6,_|7,_|8,_|9,_|10,_|11,_=>rfl
 rw[this]
 rfl
def Q2 {α:Type} (bs:Option α→α→α) (P:Nat→Bool) (i:Nat) (c:Nat→Option α) (m:Nat):Option α:=match c i with
 |none=>c m
 |some f=>bif P m&&!(decide (m=i)) then some (bs (c m) f) else bif decide (m=i)&&!(P i) then none else c m
def oN (ns:List Nod) (m:Nat) (t:ByteArray):Option Fil:=old (ns.getD m Ae).2.1 t
def inP (w:Wld) (t:ByteArray) (m:Nat):Bool:=Lh (Mp w t) (m:Int)
def Dsb {nm:List ByteArray} {w:Wld} (h:WI w) (hN:Fsa nm w.2.2.2.2.1) {i:Nat} (hi:i<w.2.2.1.length) {s:ByteArray} {f:Fil} (hf:oN w.2.2.1 i s=some f):
  (puN w i s Ip).2.2=true∧(puN w i s Ip).2.1=inP w s i∧NR w.2.2.2.2.1 w.2.2.2.2.2 w.2.2.1 (puN w i s Ip).1∧
  ∀ m,m<w.2.2.1.length→∀ t,oN (puN w i s Ip).1 m t=bif teq s t&&(inP w s m&&!(decide (m=i))) then some (O6 (oN w.2.2.1 m s) f) else oN w.2.2.1 m t:=by
 have h5:=h.wo.prim5 s
 have hIW:IsW w.2.2.2.2.1 s f:=ED.now h.wok ((h.nodes _ (A4 (d:=Ae) hi)).2.1 s) hf
 have hlk:(lkD (w.2.2.1.getD i Ae).2.1 s).1=f:=by rw[Boa hf]
 have hat:=λ x=>P8 (w:=w) (s:=s) (x:=x)
 unfold puN inP
 rw[hlk]
 generalize Mp w s=ps at *
 have key:=Mo (st:=pst (i:Int) s f Ip ps) (n:=ps.length) (a:=(w.2.2.1,false,true)) (λ j (a:List Nod×Bool×Bool)=>a.2.2=true∧a.2.1=Lh (ps.take j) (i:Int)∧NR w.2.2.2.2.1 w.2.2.2.2.2 w.2.2.1 a.1∧
  ∀ m,m<w.2.2.1.length→∀ t,oN a.1 m t=bif teq s t&&(Lh (ps.take j) (m:Int)&&!(decide (m=i))) then some (O6 (oN w.2.2.1 m s) f) else oN w.2.2.1 m t) ?_ ?_
 ·rw[Yi]at key
  exact key
 ·exact⟨rfl,rfl,NR.refl h.nodes,λ m _ t=>by
   show _=bif teq s t&&(false&&_) then _ else _
   rw[Ys,Wm]
   rfl⟩
 ·rintro j ⟨ns,o,g⟩ hj ⟨a1,a2,a3,a4⟩
  dsimp only at a1 a2 a3 a4
  subst a1
  have hpx:=hat _ (A4 (d:=0) hj)
  obtain⟨p,hp⟩:∃ p:Nat,ps.getD j 0=(p:Int):=⟨(ps.getD j 0).toNat,by omega⟩
  have htk:∀ x:Int,Lh (ps.take (j+1)) x=(Lh (ps.take j) x||(p:Int)==x):=λ x=>by
   have e:ps[j]=(p:Int):=by rw[← hp,Vb,Vk hj];rfl
   unfold Lh
   rw[Wi hj,L7b,e,Jsb,Lzb,Iwb]
  have hnl:=a3.len
  unfold pst
  rw[hp,Vd,Gpb (by omega)]
  cases hpi:(p:Int)==(i:Int) with
  |true=>
   have e:p=i:=by have:=eq_of_beq hpi;omega
   refine⟨rfl,?_,a3,λ m hm t=>?_⟩
   ·show true=_
    rw[htk,hpi,Bool.or_true]
   ·show oN ns m t=_
    rw[a4 m hm t,htk,e]
    by_cases hmi:m=i
    ·rw[decide_eq_true hmi];simp
    ·rw[show ((i:Int)==(m:Int))=false by rw[beq_eq_false_iff_ne];omega,Iwb]
  |false=>
   have e:p≠i:=by intro e;rw[e,beq_self_eq_true]at hpi;cases hpi
   have hpn:p<ns.length:=by omega
   have hni:=a3.1 _ (A4 (d:=Ae) hpn)
   obtain⟨k1,k2⟩:=Zba h.wok hN hni.1.g hni.2.1 hIW
   obtain⟨d1,d2⟩:=Lba (sure:=true) h.wok hni.1.g hni.2.1 hIW
   have hcode:((keep (ns.getD p Ae).2.1 s f true).2 != 0&&(keep (ns.getD p Ae).2.1 s f true).2 != 1)=false:=by
    rcases k1 with k|k<;>rw[k]<;>rfl
   refine⟨?_,?_,a3.set hpn ⟨Bka hni.1,d1,hni.2.2⟩ rfl d2,λ m hm t=>?_⟩
   ·show (bif ((keep (ns.getD p Ae).2.1 s f true).2 != 0&&(keep (ns.getD p Ae).2.1 s f true).2 != 1) then false else true)=true
    rw[hcode]
    rfl
   ·show o=_
    rw[a2,htk,hpi,Iwb]
   ·show oN (ns.set p _) m t=_
    unfold oN
    rw[Hs (show m<ns.length by omega),htk]
    by_cases hpm:p=m
    ·subst hpm
     rw[if_pos rfl,beq_self_eq_true,Bool.or_true,Vw,decide_eq_false e,Zg,Zz]
     show old (keep (ns.getD p Ae).2.1 s f true).1 t=_
     rw[k2 t]
     have a4s:=a4 p hm s
     have a4t:=a4 p hm t
     unfold oN at a4s a4t
     rw[decide_eq_false e,Zg,Zz]at a4s a4t
     by_cases hst:s=t
     ·subst hst
      rw[if_pos rfl,show teq s s=true from Cy.2 rfl,cond_true,a4s,show teq s s=true from Cy.2 rfl,Vw]
      cases Lh (ps.take j) (p:Int) with
      |true=>rw[cond_true,Bna]
      |false=>rfl
     ·have ht:teq s t=false:=by cases hq:teq s t with|false=>rfl|true=>exact absurd (Cy.1 hq) hst
      rw[if_neg hst,ht,cond_false,a4t,ht,Ys,cond_false]
    ·rw[if_neg hpm,show ((p:Int)==(m:Int))=false by rw[beq_eq_false_iff_ne];omega,Iwb]
     exact a4 m hm t
def WI.push {w:Wld} (h:WI w) {i:Nat} (hi:i<w.2.2.1.length) (s:ByteArray) (rc:List Int):WI (Lu w i s rc).2:=h.other' (Foa h.wok h.nodes hi h.ring h.ids)
def Zca {nm:List ByteArray} {w:Wld} (h:WI w) (hN:Fsa nm w.2.2.2.2.1) {i:Nat} (hi:i<w.2.2.1.length) (s:ByteArray) {m:Nat} (hm:m<w.2.2.1.length) (t:ByteArray):
  oN (Lu w i s Ip).2.2.2.1 m t=bif teq s t then Q2 O6 (inP w s) i (λ m=>oN w.2.2.1 m s) m else oN w.2.2.1 m t:=by
 have hst:∀ {t:ByteArray},teq s t=true→s=t:=λ h=>Cy.1 h
 unfold Lu
 rw[Oja]
 cases ho:oN w.2.2.1 i s with
 |none=>
  have:old (w.2.2.1.getD i Ae).2.1 s=none:=ho
  rw[this]
  show oN w.2.2.1 m t=_
  cases ht:teq s t with
  |false=>rfl
  |true=>rw[cond_true,← hst ht];unfold Q2;simp only[ho]
 |some f=>
  have e1:old (w.2.2.1.getD i Ae).2.1 s=some f:=ho
  rw[e1]
  obtain⟨p1,p2,p3,p4⟩:=Dsb h hN hi ho
  show oN (bif (puN w i s Ip).2.2&&!(puN w i s Ip).2.1 then (puN w i s Ip).1.set i (Gcb ((puN w i s Ip).1.getD i Ae) s) else (puN w i s Ip).1) m t=_
  rw[p1,p2,Vw]
  have hlen:=p3.len
  have C9a:Q2 O6 (inP w s) i (λ m=>oN w.2.2.1 m s) m=bif inP w s m&&!(decide (m=i)) then some (O6 (oN w.2.2.1 m s) f) else bif decide (m=i)&&!(inP w s i) then none else oN w.2.2.1 m s:=by
   unfold Q2
   simp only[ho]
  cases hin:inP w s i with
  |true=>
   rw[Yq,cond_false,p4 m hm t,C9a,hin]
   cases ht:teq s t with
   |false=>rfl
   |true=>
    rw[hst ht,Vw,cond_true,Yq,Wm,cond_false]
  |false=>
   rw[Zg,cond_true,C9a,hin]
   unfold oN
   rw[Hs (show m<(puN w i s Ip).1.length by omega)]
   by_cases hmi:i=m
   ·subst hmi
    rw[if_pos rfl,hin,Ys,cond_false,decide_eq_true rfl,Zg,Vw,cond_true]
    have hg:=(p3.1 _ (A4 (d:=Ae) (show i<(puN w i s Ip).1.length by omega))).1.g
    have p4s:=p4 i hi s
    have p4t:=p4 i hi t
    rw[hin,Ys,Wm,cond_false]at p4s p4t
    have hgs:(gt ((puN w i s Ip).1.getD i Ae).2.1.1 s).isSome=true:=by
     have:old ((puN w i s Ip).1.getD i Ae).2.1 s=some f:=p4s.trans ho
     unfold old at this
     cases hq:gt ((puN w i s Ip).1.getD i Ae).2.1.1 s with
     |none=>rw[hq]at this;cases this
     |some b=>rfl
    show old (syD (rmD ((puN w i s Ip).1.getD i Ae).2.1 s).1 s).1 t=_
    rw[Vla hg hgs t]
    cases ht:teq s t with
    |true=>rw[if_pos (hst ht)];rfl
    |false=>
     rw[if_neg (λ e=>by rw[e,show teq t t=true from Cy.2 rfl]at ht;cases ht)]
     exact p4t
   ·rw[if_neg hmi,decide_eq_false (λ e=>hmi e.symm)]
    have:=p4 m hm t
    unfold oN at this
    rw[this,decide_eq_false (λ e=>hmi e.symm)]
    cases ht:teq s t with
    |false=>rfl
    |true=>
     rw[hst ht,Vw,cond_true,Ys,cond_false]

structure BOk {α:Type} (bs:Option α→α→α) (le:α→α→Prop):Prop where
 rf:∀ a,le a a
 tr:∀ {a b c},le a b→le b c→le a c
 up:∀ o f,le f (bs o f)
 ub:∀ g f,le g (bs (some g) f)
 oo:∀ o f,bs o f=f∨o=some (bs o f)
def Oka {α:Type} (k:Nat) (P:Nat→Bool) (c:Nat→Option α):Prop:=∀ m,m<k→P m=false→c m=none
def InK {α:Type} (le:α→α→Prop) (k n:Nat) (P:Nat→Bool) (c:Nat→Option α):Prop:=∀ q,q<k→P q=true→∀ x,c q=some x→∀ p,p<n→P p=true→∃ y,c p=some y∧le x y
section
variable {α:Type} {bs:Option α→α→α} {le:α→α→Prop} {P:Nat→Bool} {c c':Nat→Option α} {k n:Nat}
def Bpa {i m:Nat} (h1:c i=c' i) (h2:c m=c' m):Q2 bs P i c m=Q2 bs P i c' m:=by
 unfold Q2
 rw[h1,h2]
def Oka.eq (h:Oka k P c) (hk:k≤n) (e:∀ m,m<n→c' m=c m):Oka k P c':=λ m hm hp=>by rw[e m (by omega)];exact h m hm hp
def InK.eq (h:InK le k n P c) (hk:k≤n) (e:∀ m,m<n→c' m=c m):InK le k n P c':=λ q hq hp x hx p hp1 hp2=>by
 rw[e q (by omega)]at hx
 rw[e p hp1]
 exact h q hq hp x hx p hp1 hp2
def Oka.step (h:Oka k P c):Oka (k+1) P (Q2 bs P k c):=λ m hm hp=>by
 unfold Q2
 cases hk:c k with
 |none=>
  dsimp only
  by_cases e:m=k
  ·rw[e];exact hk
  ·exact h m (by omega) hp
 |some f=>
  dsimp only
  rw[hp,Ys,cond_false]
  by_cases e:m=k
  ·rw[decide_eq_true e,← e,hp];rfl
  ·rw[decide_eq_false e];exact h m (by omega) hp
def InK.step (hb:BOk bs le) (h:InK le k n P c):InK le (k+1) n P (Q2 bs P k c):=by
 intro q hq hPq x hx p hp hPp
 cases hk:c k with
 |none=>
  have e:Q2 bs P k c=c:=by funext m;unfold Q2;rw[hk]
  rw[e]at hx ⊢
  by_cases hqk:q=k
  ·rw[hqk,hk]at hx;cases hx
  ·exact h q (by omega) hPq x hx p hp hPp
 |some f=>
  have st:∀ m,P m=true→Q2 bs P k c m=if m=k then some f else some (bs (c m) f):=λ m hm=>by
   unfold Q2
   rw[hk]
   dsimp only
   by_cases e:m=k
   ·rw[if_pos e,decide_eq_true e,← e,hm,e,hk];rfl
   ·rw[if_neg e,decide_eq_false e,hm];rfl
  rw[st q hPq]at hx
  rw[st p hPp]
  by_cases hqk:q=k
  ·rw[if_pos hqk]at hx
   obtain rfl:=Jwb hx
   by_cases hpk:p=k
   ·rw[if_pos hpk];exact⟨f,rfl,hb.rf f⟩
   ·rw[if_neg hpk];exact⟨_,rfl,hb.up _ f⟩
  ·rw[if_neg hqk]at hx
   cases hx
   rcases hb.oo (c q) f with e|e
   ·rw[e]
    by_cases hpk:p=k
    ·rw[if_pos hpk];exact⟨f,rfl,hb.rf f⟩
    ·rw[if_neg hpk];exact⟨_,rfl,hb.up _ f⟩
   ·obtain⟨y,h1,h2⟩:=h q (by omega) hPq _ e p hp hPp
    by_cases hpk:p=k
    ·rw[hpk,hk]at h1
     obtain rfl:=Jwb h1
     rw[if_pos hpk];exact⟨f,rfl,h2⟩
    ·rw[if_neg hpk,h1];exact⟨_,rfl,hb.tr h2 (hb.ub y f)⟩
def gvC {α:Type} (bs:Option α→α→α) (P:Nat→Bool) (f:α) (c:Nat→Option α) (m:Nat):Option α:=bif P m then some (bs (c m) f) else c m
def Oka.gv {f:α} (h:Oka k P c):Oka k P (gvC bs P f c):=λ m hm hp=>by
 unfold gvC
 rw[hp]
 exact h m hm hp
def InK.gv {f:α} (hb:BOk bs le) (h:InK le k n P c):InK le k n P (gvC bs P f c):=by
 intro q hq hPq x hx p hp hPp
 unfold gvC at hx ⊢
 rw[hPq,cond_true]at hx
 rw[hPp,cond_true]
 cases hx
 rcases hb.oo (c q) f with e|e
 ·rw[e];exact⟨_,rfl,hb.up _ f⟩
 ·obtain⟨y,h1,h2⟩:=h q hq hPq _ e p hp hPp
  rw[h1];exact⟨_,rfl,hb.tr h2 (hb.ub y f)⟩
end
def leF (a b:Fil):Prop:=sle b.1 a.1=false
def Vra:BOk O6 leF where
 rf:=λ a=>Jt _
 tr:=λ h1 h2=>Xi h2 h1
 up:=λ o f=>by
  cases o with
  |none=>exact Jt _
  |some g=>cases h:sle g.1 f.1<;>simp[leF,O6,h,Jt]
 ub:=λ g f=>by
  cases h:sle g.1 f.1<;>simp[leF,O6,h,Jt]
  exact Ut h
 oo:=λ o f=>by
  cases o with
  |none=>exact .inl rfl
  |some g=>cases h:sle g.1 f.1<;>simp[O6,h]
def leR (a b:Row):Prop:=M0 b a=false
def Qea (o:Option Row) (f:Row):Row:=match o with
 |some g=>mx g f
 |none=>f
def Uu (a:Row):M0 a a=false:=by
 cases h:M0 a a
 ·rfl
 have:=Tc h
 rw[h]at this
 cases this
def B1b:BOk Qea leR where
 rf:=Uu
 tr:=λ {a b c} h1 h2=>by
  unfold leR at *
  have n1:¬ M0 b a=true:=by rw[h1];decide
  have n2:¬ M0 c b=true:=by rw[h2];decide
  cases h:M0 c a
  ·rfl
  rw[Ug]at n1 n2 h
  cases ha:a.2.2.1<;>cases hb:b.2.2.1<;>cases hc:c.2.2.1<;>simp only[ha,hb,hc]at h n1 n2<;>simp at h n1 n2<;>omega
 up:=λ o f=>by
  cases o with
  |none=>exact Uu _
  |some g=>cases h:M0 g f<;>simp[leR,Qea,mx,h,Uu]
 ub:=λ g f=>by
  cases h:M0 g f<;>simp[leR,Qea,mx,h,Uu]
  exact Tc h
 oo:=λ o f=>by
  cases o with
  |none=>exact .inl rfl
  |some g=>cases h:M0 g f<;>simp[Qea,mx,h]
def NR.trans {ws:List Wri} {sp:List ByteArray} {a b c:List Nod} (h1:NR ws sp a b) (h2:NR ws sp b c):NR ws sp a c:=⟨h2.1,h2.2.1.trans h1.2.1,λ s hs st h=>h2.2.2 s hs st (h1.2.2 s hs st h)⟩
def SW (w v:Wld):Prop:=∃ ns,v=wN w ns∧NR w.2.2.2.2.1 w.2.2.2.2.2 w.2.2.1 ns
section
variable {w v u:Wld}
def SW.refl (h:WI w):SW w w:=⟨w.2.2.1,rfl,NR.refl h.nodes⟩
def SW.trans (h1:SW w v) (h2:SW v u):SW w u:=by
 obtain⟨a,rfl,ha⟩:=h1
 obtain⟨b,rfl,hb⟩:=h2
 exact⟨b,rfl,ha.trans hb⟩
def SW.wi (h:SW w v) (hw:WI w):WI v:=by
 obtain⟨ns,rfl,hn⟩:=h
 exact hw.other hn
def SW.len (h:SW w v):v.2.2.1.length=w.2.2.1.length:=by
 obtain⟨ns,rfl,hn⟩:=h
 exact hn.len
def SW.ws (h:SW w v):v.2.2.2.2.1=w.2.2.2.2.1:=by
 obtain⟨ns,rfl,hn⟩:=h
 rfl
def SW.inP (h:SW w v) (t:ByteArray):inP v t=inP w t:=by
 obtain⟨ns,rfl,hn⟩:=h
 funext m
 unfold Vf.inP Mp
 rw[show (wN w ns).2.2.1=ns from rfl,Voa hn.2.1]
def Vsa (h:WI w) {i:Nat} (hi:i<w.2.2.1.length) (s:ByteArray):SW w (Lu w i s Ip).2:=Foa h.wok h.nodes hi h.ring h.ids
def Dtb (h:WI w) {i:Nat} (hi:i<w.2.2.1.length):SW w (X2 w i Ip).2:=Oca h.nodes hi
def Dub (h:WI w) {i:Nat} (hi:i<w.2.2.1.length):SW w (Sq w i Ip).2:=Oba h.nodes hi
def B2b (h:WI w) {i:Nat} (hi:i<w.2.2.1.length):SW w (qtA w i):=by
 have hni:=h.nodes _ (A4 (d:=Ae) hi)
 obtain⟨c1,c2⟩:=Oaa h.wok hni.1.g hni.2.1
 exact⟨_,rfl,(NR.refl h.nodes).set hi ⟨Uva hni.1,c1,hni.2.2⟩ rfl c2⟩
end
def RQ (ns ms:List Nod):Prop:=∀ m,(ms.getD m Ae).2.2=(ns.getD m Ae).2.2
def RQ.set {ns ms:List Nod} (h:RQ ns ms) {p:Nat} {x:Nod} (hx:x.2.2=(ms.getD p Ae).2.2):RQ ns (ms.set p x):=λ m=>by
 rw[← h m]
 by_cases hm:m<ms.length
 ·rw[Hs hm]
  by_cases e:p=m
  ·rw[if_pos e,hx,e]
  ·rw[if_neg e]
 ·rw[Vb,Vb,Zf (by rw[Vy];omega),Zf (by omega)]
def Gqb (w:Wld) (i:Nat) (s:ByteArray) (rc:List Int):RQ w.2.2.1 (puN w i s rc).1:=by
 unfold puN
 refine Mo (λ _ (a:List Nod×Bool×Bool)=>RQ w.2.2.1 a.1) (λ _=>rfl) ?_
 rintro j ⟨ns,o,g⟩ hj a1
 dsimp only at a1
 unfold pst
 cases (Mp w s).getD j 0==(i:Int) with
 |true=>exact a1
 |false=>
  cases rch rc j != 1 with
  |true=>exact a1
  |false=>exact a1.set rfl
def Zda (w:Wld) (i:Nat) (s:ByteArray) (rc:List Int):RQ w.2.2.1 (Lu w i s rc).2.2.2.1:=by
 have h:=Gqb w i s rc
 unfold Lu
 cases (lkD (w.2.2.1.getD i Ae).2.1 s).2 != 0 with
 |true=>exact λ _=>rfl
 |false=>
  show RQ w.2.2.1 (bif (puN w i s rc).2.2&&!(puN w i s rc).2.1 then (puN w i s rc).1.set i (Gcb ((puN w i s rc).1.getD i Ae) s) else (puN w i s rc).1)
  cases (puN w i s rc).2.2&&!(puN w i s rc).2.1 with
  |true=>exact h.set rfl
  |false=>exact h
def Vta {s t:ByteArray} (h:s≠t):teq s t=false:=by
 cases hq:teq s t with
 |false=>rfl
 |true=>exact absurd (Cy.1 hq) h
def Lha {l:List ByteArray} {t:ByteArray} (h:t∉l):C8a l t=false:=by
 cases hq:C8a l t with
 |false=>rfl
 |true=>exact absurd (Qr.1 hq) h
def Dma {i:Nat}:∀ (l:List ByteArray) {w:Wld},WI w→i<w.2.2.1.length→SW w (X3 w i l)
 |[],w,h,_=>SW.refl h
 |s::l,w,h,hi=>by
  have h1:=Vsa h hi s
  exact h1.trans (Dma l (h1.wi h) (by rw[h1.len];exact hi))
def Dna {i:Nat}:∀ (l:List ByteArray) {w:Wld},RQ w.2.2.1 (X3 w i l).2.2.1
 |[],w=>λ _=>rfl
 |s::l,w=>λ m=>(Dna l m).trans (Zda w i s Ip m)
def Doa {nm:List ByteArray} {i:Nat} (t:ByteArray):∀ (l:List ByteArray) {w:Wld},WI w→Fsa nm w.2.2.2.2.1→i<w.2.2.1.length→l.Nodup→∀ m,m<w.2.2.1.length→
  oN (X3 w i l).2.2.1 m t=bif C8a l t then Q2 O6 (inP w t) i (λ m=>oN w.2.2.1 m t) m else oN w.2.2.1 m t
 |[],w,_,_,_,_,m,_=>rfl
 |s::l,w,h,hN,hi,hl,m,hm=>by
  have h1:=Vsa h hi s
  obtain⟨hl1,hl2⟩:=Yt.1 hl
  have ih:=Doa (nm:=nm) t l (h1.wi h) (by rw[h1.ws];exact hN) (by rw[h1.len];exact hi) hl2 m (by rw[h1.len];exact hm)
  have pm:=λ m hm=>Zca h hN hi s (m:=m) hm t
  show oN (X3 (Lu w i s Ip).2 i l).2.2.1 m t=_
  rw[ih,h1.inP]
  by_cases ht:t∈l
  ·have hst:s≠t:=λ e=>hl1 (e ▸ ht)
   rw[Qr.2 ht,Qr.2 (Vh _ ht),cond_true,cond_true]
   refine Bpa ?_ ?_
   ·show oN _ i t=_;rw[pm i hi,Vta hst];rfl
   ·show oN _ m t=_;rw[pm m hm,Vta hst];rfl
  ·rw[Lha ht,cond_false,pm m hm]
   by_cases hst:s=t
   ·subst hst
    rw[Qr.2 Yc,Cy.2 rfl]
   ·rw[Lha (l:=s::l) (by rw[Vl];rintro (e|e);exact hst e.symm;exact ht e),Vta hst]
    rfl
def Qfa {d:Dsk} (hd:Al d=true):(Faa d).Nodup:=by
 rw[Yra (Kk hd)]
 unfold D8b
 have h1:D5 (d.1.filter λ x=>(Mz x.2).isSome):=(Kk hd).sublist L5b
 have hp:((d.1.filter λ x=>(Mz x.2).isSome).map Prod.fst).Pairwise (λ a b=>tlt a b=true):=Zh.2 h1
 exact hp.imp (λ {a b} hab e=>by subst e;rw[G8]at hab;cases hab)
def Vua {d:Dsk} {t:ByteArray} (h:t∉Faa d):old d t=none:=by
 have h1:¬ Iua d t:=λ c=>h (Vfa.2 c)
 have h2:=Oja (d:=d) (s:=t)
 unfold Iua at h1
 cases h3:old d t with
 |none=>rfl
 |some f=>
  rw[h3]at h2
  exact absurd (by simpa using h2) h1
def Ola {w:Wld} (h:WI w) {i:Nat} (hi:i<w.2.2.1.length) {m:Nat} (hm:m<w.2.2.1.length) (t:ByteArray):oN (qtA w i).2.2.1 m t=oN w.2.2.1 m t:=by
 show oN (w.2.2.1.set i (G9b (w.2.2.1.getD i Ae)).1) m t=_
 unfold oN
 rw[Hs hm]
 by_cases e:i=m
 ·subst e
  rw[if_pos rfl]
  exact Vma (h.nodes _ (A4 (d:=Ae) hi)).1.g t
 ·rw[if_neg e]
def Grb {w:Wld} (h:WI w) {i:Nat} (hi:i<w.2.2.1.length):SW w (qtP w i):=by
 have h1:=B2b h hi
 exact h1.trans (Dma _ (h1.wi h) (by rw[h1.len];exact hi))
def Gsb (w:Wld) (i:Nat):RQ w.2.2.1 (qtP w i).2.2.1:=λ m=>(Dna _ m).trans ((show RQ w.2.2.1 w.2.2.1 from λ _=>rfl).set (p:=i) (x:=(G9b (w.2.2.1.getD i Ae)).1) rfl m)
def Gtb {nm:List ByteArray} {w:Wld} (h:WI w) (hN:Fsa nm w.2.2.2.2.1) {i:Nat} (hi:i<w.2.2.1.length) {m:Nat} (hm:m<w.2.2.1.length) (t:ByteArray):
  oN (qtP w i).2.2.1 m t=Q2 O6 (inP w t) i (λ m=>oN w.2.2.1 m t) m:=by
 have h1:=B2b h hi
 have hi':i<(qtA w i).2.2.1.length:=by rw[h1.len];exact hi
 have hd:=((h1.wi h).nodes _ (A4 (d:=Ae) hi')).1.g.1
 have k:=Doa (nm:=nm) t (Faa ((qtA w i).2.2.1.getD i Ae).2.1) (h1.wi h) (by rw[h1.ws];exact hN) hi' (Qfa hd) m (by rw[h1.len];exact hm)
 show oN (X3 (qtA w i) i _).2.2.1 m t=_
 rw[k,h1.inP]
 by_cases ht:t∈Faa ((qtA w i).2.2.1.getD i Ae).2.1
 ·rw[Qr.2 ht]
  exact Bpa (c:=λ m=>oN (qtA w i).2.2.1 m t) (c':=λ m=>oN w.2.2.1 m t) (Ola h hi hi t) (Ola h hi hm t)
 ·rw[Lha ht,cond_false,Ola h hi hm t]
  have e:oN w.2.2.1 i t=none:=(Ola h hi hi t).symm.trans (Vua ht)
  unfold Q2
  dsimp only
  rw[e]

def Zea {nm:List ByteArray} {ws:List Wri} (hN:Fsa nm ws) {a:List Row} (hs:Bo a) (h:∀ r∈a,Us ws r=true):a.length≤60:=by
 have hp:(a.map (·.1)).Pairwise (λ a b=>tlt a b=true):=Zh.2 hs
 have hd:(a.map (·.1)).Nodup:=hp.imp (λ {a b} hab e=>by subst e;rw[G8]at hab;cases hab)
 have:=Q1 _ nm hd (λ s hs=>by
  obtain⟨r,hr,rfl⟩:=Yw.1 hs
  obtain⟨x,hx,rfl⟩:=Rw.1 (h r hr)
  exact hN.2 x hx)
 rw[Wc]at this
 have:=hN.1
 omega
def Qra (n:Nod) (l:List Row):Nod:=(n.1,n.2.1,O9 n.2.2.1 l,n.2.2.2)
def NI.rows {ws:List Wri} {sp:List ByteArray} {n:Nod} (h:NI ws sp n):Bo n.2.2.1:=(Lv.1 (Bp.1 h.1.1).2.2.2.1).1
def B3b {nm:List ByteArray} {ws:List Wri} {sp:List ByteArray} (hN:Fsa nm ws) {n:Nod} (h:NI ws sp n) {l:List Row} (hr:∀ r∈l,Us ws r=true):tk n l=(true,Qra n l):=by
 have h1:(O9 n.2.2.1 l).length≤60:=Zea hN (Np h.rows) (λ r hr'=>(Eqa hr').elim (h.2.2.1 r) (hr r))
 unfold tk
 rw[decide_eq_false (by omega)]
 rfl
def Iva {nm:List ByteArray} {w:Wld} (h:WI w) (hN:Fsa nm w.2.2.2.2.1) {src:Int} {l:List Row} {self:Bool} (hl:Jq l=true) (hr:∀ r∈l,Us w.2.2.2.2.1 r=true):
  (Ns w src l self Ip).2=true∧∀ m,m<w.2.2.1.length→(Ns w src l self Ip).1.getD m Ae=bif inP w Pe m&&!((m:Int)==src&&!self) then Qra (w.2.2.1.getD m Ae) l else w.2.2.1.getD m Ae:=by
 have h5:(Fa w).length≤5:=h.wo.prim5 Pe
 have hat:=λ x=>Q0 (w:=w) (x:=x)
 have hls:=(Lv.1 hl).1
 unfold Ns inP
 rw[show Mp w Pe=Fa w from rfl]
 generalize Fa w=ps at *
 have key:=Mo (st:=gst src l self Ip ps) (n:=ps.length) (a:=(w.2.2.1,true)) (λ j (a:List Nod×Bool)=>a.2=true∧NR w.2.2.2.2.1 w.2.2.2.2.2 w.2.2.1 a.1∧
  ∀ m,m<w.2.2.1.length→a.1.getD m Ae=bif Lh (ps.take j) (m:Int)&&!((m:Int)==src&&!self) then Qra (w.2.2.1.getD m Ae) l else w.2.2.1.getD m Ae) ?_ ?_
 ·rw[Yi]at key
  exact⟨key.1,key.2.2⟩
 ·exact⟨rfl,NR.refl h.nodes,λ m _=>by
   show _=bif false&&_ then _ else _
   rw[Ys]
   rfl⟩
 ·rintro j ⟨ns,g⟩ hj ⟨a1,a3,a4⟩
  dsimp only at a1 a3 a4
  subst a1
  have hpx:=hat _ (A4 (d:=0) hj)
  obtain⟨p,hp⟩:∃ p:Nat,ps.getD j 0=(p:Int):=⟨(ps.getD j 0).toNat,by omega⟩
  have htk:∀ x:Int,Lh (ps.take (j+1)) x=(Lh (ps.take j) x||(p:Int)==x):=λ x=>by
   have e:ps[j]=(p:Int):=by rw[← hp,Vb,Vk hj];rfl
   unfold Lh
   rw[Wi hj,L7b,e,Jsb,Lzb,Iwb]
  have hnl:=a3.len
  have hpn:p<ns.length:=by omega
  have hni:=a3.1 _ (A4 (d:=Ae) hpn)
  unfold gst
  rw[hp,Vd,Gpb (by omega),B3b hN hni hr]
  cases hpi:(p:Int)==src&&!self with
  |true=>
   refine⟨rfl,a3,λ m hm=>?_⟩
   show ns.getD m Ae=_
   rw[a4 m hm,htk]
   by_cases hmp:p=m
   ·subst hmp
    rw[hpi,Yq,Wm,Wm]
   ·rw[show ((p:Int)==(m:Int))=false by rw[beq_eq_false_iff_ne];omega,Iwb]
  |false=>
   have hnr:NI w.2.2.2.2.1 w.2.2.2.2.2 (Qra (ns.getD p Ae) l):=by
    obtain⟨t1,_,_⟩:=Gib (n:=ns.getD p Ae) hni hl hr
    rw[B3b hN hni hr]at t1
    exact t1
   refine⟨rfl,a3.set hpn hnr rfl (MO.refl _ _),λ m hm=>?_⟩
   show (ns.set p (Qra (ns.getD p Ae) l)).getD m Ae=_
   rw[Hs (show m<ns.length by omega),htk]
   by_cases hpm:p=m
   ·subst hpm
    rw[if_pos rfl,beq_self_eq_true,Bool.or_true,Vw,hpi,Zg,cond_true,a4 p hm,hpi,Zg,Zz]
    cases Lh (ps.take j) (p:Int) with
    |false=>rfl
    |true=>
     show Qra (Qra (w.2.2.1.getD p Ae) l) l=Qra (w.2.2.1.getD p Ae) l
     unfold Qra
     dsimp only
     rw[Tfa (h.nodes _ (A4 (d:=Ae) hm)).rows hls]
   ·rw[if_neg hpm,show ((p:Int)==(m:Int))=false by rw[beq_eq_false_iff_ne];omega,Iwb]
    exact a4 m hm
def Oma {n:Nod} (h:n.2.2.2=[]):n=Elb n []:=by
 obtain⟨a,b,c,d⟩:=n
 dsimp only at h
 subst h
 rfl
def Vva {nm:List ByteArray} {w:Wld} (h:WI w) (hN:Fsa nm w.2.2.2.2.1) {i:Nat} (hi:i<w.2.2.1.length) {m:Nat} (hm:m<w.2.2.1.length):
  (X2 w i Ip).2.2.2.1.getD m Ae=Elb (bif inP w Pe m then Qra (w.2.2.1.getD m Ae) ((w.2.2.1.getD i Ae).2.2.2.take 1) else w.2.2.1.getD m Ae) (bif decide (m=i) then (w.2.2.1.getD m Ae).2.2.2.drop 1 else (w.2.2.1.getD m Ae).2.2.2):=by
 have hni:=h.nodes _ (A4 (d:=Ae) hi)
 have hq:=(Bp.1 hni.1.1).1
 unfold X2
 cases hz:((w.2.2.1.getD i Ae).2.2.2.length:Int)==0 with
 |true=>
  have e:(w.2.2.1.getD i Ae).2.2.2=[]:=Wn (by have:=eq_of_beq hz;omega)
  rw[e]
  show w.2.2.1.getD m Ae=_
  by_cases hmi:m=i
  ·subst hmi
   rw[decide_eq_true rfl,e]
   cases inP w Pe m with
   |true=>exact Oma (n:=Qra (w.2.2.1.getD m Ae) []) e
   |false=>exact Oma e
  ·rw[decide_eq_false hmi]
   cases inP w Pe m<;>rfl
 |false=>
  obtain⟨g1,g2⟩:=Iva h hN (src:=(i:Int)) (self:=true) (Ou hq) (λ r hr=>hni.2.2.2 r (J4b hr))
  have gl:(Pf w i Ip).1.length=w.2.2.1.length:=(Fla (Ou hq) h.ns).2
  rw[show Ns w (i:Int) ((w.2.2.1.getD i Ae).2.2.2.take 1) true Ip=Pf w i Ip from rfl]at g1 g2
  have g3:=g2 m hm
  rw[Yq,Wm,Zg,Zz]at g3
  show (bif (Pf w i Ip).2 then (Pf w i Ip).1.set i (Elb ((Pf w i Ip).1.getD i Ae) ((w.2.2.1.getD i Ae).2.2.2.drop 1)) else (Pf w i Ip).1).getD m Ae=_
  rw[g1,cond_true,Hs (by omega)]
  by_cases hmi:i=m
  ·subst hmi
   rw[if_pos rfl,g3,decide_eq_true rfl,cond_true]
  ·rw[if_neg hmi,g3,decide_eq_false (λ e=>hmi e.symm),cond_false]
   cases inP w Pe m<;>rfl
def Vwa {nm:List ByteArray} {w:Wld} (h:WI w) (hN:Fsa nm w.2.2.2.2.1) {i:Nat} (hi:i<w.2.2.1.length) {m:Nat} (hm:m<w.2.2.1.length):
  (Sq w i Ip).2.2.2.1.getD m Ae=bif inP w Pe m&&!(decide (m=i)) then Qra (w.2.2.1.getD m Ae) (w.2.2.1.getD i Ae).2.2.1 else bif decide (m=i)&&!(inP w Pe i) then Xh (w.2.2.1.getD m Ae) else w.2.2.1.getD m Ae:=by
 have hni:=h.nodes _ (A4 (d:=Ae) hi)
 have hro:=(Bp.1 hni.1.1).2.2.2.1
 unfold Sq
 cases hz:((w.2.2.1.getD i Ae).2.2.1.length:Int)==0 with
 |true=>
  have e:(w.2.2.1.getD i Ae).2.2.1=[]:=Wn (by have:=eq_of_beq hz;omega)
  rw[e]
  show w.2.2.1.getD m Ae=_
  by_cases hmi:m=i
  ·subst hmi
   rw[decide_eq_true rfl,Yq,Wm,cond_false]
   cases inP w Pe m with
   |true=>rfl
   |false=>show _=Xh (w.2.2.1.getD m Ae);unfold Xh;rw[← e]
  ·rw[decide_eq_false hmi]
   cases inP w Pe m<;>rfl
 |false=>
  obtain⟨g1,g2⟩:=Iva h hN (src:=(i:Int)) (self:=false) hro hni.2.2.1
  have gn:NR w.2.2.2.2.1 w.2.2.2.2.2 w.2.2.1 (Ns w (i:Int) (w.2.2.1.getD i Ae).2.2.1 false Ip).1:=Fpa h.nodes hro hni.2.2.1
  rw[show Ns w (i:Int) (w.2.2.1.getD i Ae).2.2.1 false Ip=O5 w i Ip from rfl]at g1 g2 gn
  have gl:=gn.len
  have eL:Lh (Fa (wN w (O5 w i Ip).1)) (i:Int)=inP w Pe i:=by
   unfold Fa inP Mp
   rw[show (wN w (O5 w i Ip).1).2.2.1=(O5 w i Ip).1 from rfl,Voa gn.2.1]
  have gq:∀ q:Nat,((q:Int)==(i:Int)&&!false)=decide (q=i):=λ q=>by
   rw[Zg,Zz]
   by_cases e:q=i
   ·rw[e,beq_self_eq_true,decide_eq_true rfl]
   ·rw[decide_eq_false e,beq_eq_false_iff_ne];omega
  have g3:=g2 m hm
  rw[gq]at g3
  show (bif (O5 w i Ip).2&&!(Lh (Fa (wN w (O5 w i Ip).1)) (i:Int)) then (O5 w i Ip).1.set i (Xh ((O5 w i Ip).1.getD i Ae)) else (O5 w i Ip).1).getD m Ae=_
  rw[g1,Vw,eL]
  cases hin:inP w Pe i with
  |true=>
   rw[Yq,cond_false,g3,Wm,cond_false]
  |false=>
   rw[Zg,cond_true,Hs (by omega)]
   by_cases hmi:i=m
   ·subst hmi
    rw[if_pos rfl,decide_eq_true rfl,hin,Ys,cond_false,Vw,cond_true]
    rw[decide_eq_true rfl,hin,Ys,cond_false]at g3
    rw[g3]
   ·rw[if_neg hmi,g3,decide_eq_false (λ e=>hmi e.symm),Ys,cond_false]
def rN (ns:List Nod) (m:Nat) (t:ByteArray):Option Row:=Iv (ns.getD m Ae).2.2.1 t
def InK.rows {k n:Nat} {P:Nat→Bool} {t:ByteArray}:∀ (q:List Row) {R:Nat→List Row},(∀ m,m<n→Bo (R m))→k≤n→(Oka k P (λ m=>Iv (R m) t)∧InK leR k n P (λ m=>Iv (R m) t))→
  Oka k P (λ m=>Iv (bif P m then O9 (R m) q else R m) t)∧InK leR k n P (λ m=>Iv (bif P m then O9 (R m) q else R m) t)
 |[],R,hs,hk,h=>by
  have e:(λ m=>Iv (bif P m then O9 (R m) [] else R m) t)=λ m=>Iv (R m) t:=by
   funext m
   cases P m<;>rfl
  rw[e]
  exact h
 |r::q,R,hs,hk,h=>by
  have e:∀ m,m<n→Iv (bif P m then mrg (R m) r else R m) t=bif teq r.1 t then gvC Qea P r (λ m=>Iv (R m) t) m else Iv (R m) t:=λ m hm=>by
   unfold gvC
   cases P m with
   |false=>cases teq r.1 t<;>rfl
   |true=>
    rw[cond_true,Hga (hs m hm) t]
    cases teq r.1 t with
    |false=>rfl
    |true=>dsimp only;cases Iv (R m) t<;>rfl
  have ih:=InK.rows q (R:=λ m=>bif P m then mrg (R m) r else R m) (P:=P) (t:=t) (k:=k) (n:=n) (λ m hm=>by
   cases P m with
   |true=>exact Pt (hs m hm)
   |false=>exact hs m hm) hk ?_
  ·have e2:(λ m=>Iv (bif P m then O9 (bif P m then mrg (R m) r else R m) q else (bif P m then mrg (R m) r else R m)) t)=λ m=>Iv (bif P m then O9 (R m) (r::q) else R m) t:=by
    funext m
    cases P m<;>rfl
   rw[← e2]
   exact ih
  ·cases ht:teq r.1 t with
   |true=>exact⟨h.1.gv.eq hk (λ m hm=>by rw[e m hm,ht];rfl),(h.2.gv (f:=r) B1b).eq hk (λ m hm=>by rw[e m hm,ht];rfl)⟩
   |false=>exact⟨h.1.eq hk (λ m hm=>by rw[e m hm,ht];rfl),h.2.eq hk (λ m hm=>by rw[e m hm,ht];rfl)⟩
def WI.give {w:Wld} (h:WI w) (m:Nat) (hm:m<w.2.2.1.length):Bo (w.2.2.1.getD m Ae).2.2.1:=(h.nodes _ (A4 (d:=Ae) hm)).rows
structure TA (w v:Wld) (i n:Nat):Prop where
 sw:SW w v
 di:∀ m,m<w.2.2.1.length→(v.2.2.1.getD m Ae).2.1=(w.2.2.1.getD m Ae).2.1
 ro:∀ m,m<w.2.2.1.length→(v.2.2.1.getD m Ae).2.2.1=bif inP w Pe m then O9 (w.2.2.1.getD m Ae).2.2.1 ((w.2.2.1.getD i Ae).2.2.2.take n) else (w.2.2.1.getD m Ae).2.2.1
 qu:∀ m,m<w.2.2.1.length→(v.2.2.1.getD m Ae).2.2.2=bif decide (m=i) then (w.2.2.1.getD m Ae).2.2.2.drop n else (w.2.2.1.getD m Ae).2.2.2
def Bqa {nm:List ByteArray} {w:Wld} (h:WI w) (hN:Fsa nm w.2.2.2.2.1) {i:Nat} (hi:i<w.2.2.1.length):∀ n,TA w (X4 w i n) i n
 |0=>⟨SW.refl h,λ _ _=>rfl,λ m _=>by cases inP w Pe m<;>rfl,λ m _=>by cases decide (m=i)<;>rfl⟩
 |n+1=>by
  have ih:=Bqa h hN hi n
  show TA w (X2 (X4 w i n) i Ip).2 i (n+1)
  generalize X4 w i n=v at *
  have hv:=ih.sw.wi h
  have hl:=ih.sw.len
  have t1:=Dtb hv (i:=i) (by omega)
  have t2:=λ m (hm:m<w.2.2.1.length)=>Vva hv (nm:=nm) (by rw[ih.sw.ws];exact hN) (i:=i) (by omega) (m:=m) (by omega)
  rw[ih.sw.inP]at t2
  refine⟨ih.sw.trans t1,λ m hm=>?_,λ m hm=>?_,λ m hm=>?_⟩
  ·rw[t2 m hm,← ih.di m hm]
   cases inP w Pe m<;>rfl
  ·rw[t2 m hm]
   have r1:=ih.ro m hm
   have q1:=ih.qu i hi
   rw[decide_eq_true rfl,cond_true]at q1
   rw[q1]
   cases hp:inP w Pe m with
   |false=>
    rw[hp,cond_false]at r1
    exact r1
   |true=>
    rw[hp,cond_true]at r1
    show O9 (v.2.2.1.getD m Ae).2.2.1 _=O9 _ _
    rw[r1]
    unfold O9
    rw[← Job,M3b (i:=n) (j:=1)]
  ·rw[t2 m hm]
   show (bif decide (m=i) then (v.2.2.1.getD m Ae).2.2.2.drop 1 else (v.2.2.1.getD m Ae).2.2.2)=_
   rw[ih.qu m hm]
   cases decide (m=i) with
   |true=>rw[cond_true,cond_true,cond_true,Yo]
   |false=>rfl
structure RI (nm:List ByteArray) (k:Nat) (w:Wld):Prop where
 wi:WI w
 few:Fsa nm w.2.2.2.2.1
 fo:∀ t,Oka k (inP w t) (λ m=>oN w.2.2.1 m t)
 fi:∀ t,InK leF k w.2.2.1.length (inP w t) (λ m=>oN w.2.2.1 m t)
 ro:∀ t,Oka k (inP w Pe) (λ m=>rN w.2.2.1 m t)
 ri:∀ t,InK leR k w.2.2.1.length (inP w Pe) (λ m=>rN w.2.2.1 m t)
 qe:∀ m,m<k→(w.2.2.1.getD m Ae).2.2.2=[]
def RI.step {nm:List ByteArray} {w:Wld} {i:Nat} (h:RI nm i w) (hi:i<w.2.2.1.length):RI nm (i+1) (qtN w i)∧SW w (qtN w i):=by
 have s1:=Grb h.wi hi
 have o1:=λ m (hm:m<w.2.2.1.length) t=>Gtb h.wi h.few hi hm t
 have r1:=Gsb w i
 have w1:=s1.wi h.wi
 have l1:=s1.len
 have p1:=s1.inP
 have f1:Fsa nm (qtP w i).2.2.2.2.1:=by rw[s1.ws];exact h.few
 unfold qtN qtT
 generalize qtP w i=u at *
 have ta:=Bqa w1 f1 (i:=i) (by omega) (u.2.2.1.getD i Ae).2.2.2.length
 generalize X4 u i (u.2.2.1.getD i Ae).2.2.2.length=v at *
 have w2:=ta.sw.wi w1
 have l2:=ta.sw.len
 have p2:=λ t=>(ta.sw.inP t).trans (p1 t)
 have f2:Fsa nm v.2.2.2.2.1:=by rw[ta.sw.ws];exact f1
 have s3:=Dub w2 (i:=i) (by omega)
 have g3:=λ m (hm:m<w.2.2.1.length)=>Vwa w2 f2 (i:=i) (by omega) (m:=m) (by omega)
 rw[p2]at g3
 have l3:=s3.len
 have p3:=λ t=>(s3.inP t).trans (p2 t)
 have f3:Fsa nm (Sq v i Ip).2.2.2.2.2.1:=by rw[s3.ws];exact f2
 have w3:=s3.wi w2
 have s4:=(s1.trans ta.sw).trans s3
 have eo:∀ t m,m<w.2.2.1.length→oN (Sq v i Ip).2.2.2.1 m t=Q2 O6 (inP w t) i (λ m=>oN w.2.2.1 m t) m:=λ t m hm=>by
  rw[← o1 m hm t]
  unfold oN
  rw[g3 m hm,← ta.di m (by omega)]
  cases inP w Pe m&&!(decide (m=i)) with
  |true=>rfl
  |false=>cases decide (m=i)&&!(inP w Pe i)<;>rfl
 have tv:∀ t,Oka i (inP w Pe) (λ m=>rN v.2.2.1 m t)∧InK leR i w.2.2.1.length (inP w Pe) (λ m=>rN v.2.2.1 m t):=λ t=>by
  have:=InK.rows (t:=t) (P:=inP w Pe) (k:=i) (n:=w.2.2.1.length) (u.2.2.1.getD i Ae).2.2.2 (R:=λ m=>(u.2.2.1.getD m Ae).2.2.1) (λ m hm=>w1.give m (by omega)) (by omega) ⟨(h.ro t).eq (n:=w.2.2.1.length) (by omega) (λ m hm=>by
   unfold rN;rw[r1 m]),(h.ri t).eq (by omega) (λ m hm=>by unfold rN;rw[r1 m])⟩
  have e:∀ m,m<w.2.2.1.length→rN v.2.2.1 m t=Iv (bif inP w Pe m then O9 (u.2.2.1.getD m Ae).2.2.1 (u.2.2.1.getD i Ae).2.2.2 else (u.2.2.1.getD m Ae).2.2.1) t:=λ m hm=>by
   have:=ta.ro m (by omega)
   rw[p1,Yi]at this
   unfold rN
   rw[this]
  exact⟨this.1.eq (n:=w.2.2.1.length) (by omega) e,this.2.eq (by omega) e⟩
 have er:∀ t m,m<w.2.2.1.length→rN (Sq v i Ip).2.2.2.1 m t=Q2 Qea (inP w Pe) i (λ m=>rN v.2.2.1 m t) m:=λ t m hm=>by
  have hl:=W7 (w2.give m (by omega)) (w2.give i (by omega)) t
  unfold Q2 rN
  rw[g3 m hm]
  dsimp only
  have hno:∀ n:Nod,Iv (Xh n).2.2.1 t=none:=λ _=>rfl
  cases hk:Iv (v.2.2.1.getD i Ae).2.2.1 t with
  |none=>
   rw[hk]at hl
   dsimp only
   cases hc:inP w Pe m&&!(decide (m=i)) with
   |true=>
    show Iv (O9 (v.2.2.1.getD m Ae).2.2.1 (v.2.2.1.getD i Ae).2.2.1) t=_
    rw[hl]
    cases Iv (v.2.2.1.getD m Ae).2.2.1 t<;>rfl
   |false=>
    rw[cond_false]
    by_cases hmi:m=i
    ·rw[decide_eq_true hmi,hmi,hk]
     cases inP w Pe i with
     |true=>exact hk
     |false=>rfl
    ·rw[decide_eq_false hmi];rfl
  |some r=>
   rw[hk]at hl
   dsimp only
   cases hc:inP w Pe m&&!(decide (m=i)) with
   |true=>
    show Iv (O9 (v.2.2.1.getD m Ae).2.2.1 (v.2.2.1.getD i Ae).2.2.1) t=_
    rw[hl]
    cases Iv (v.2.2.1.getD m Ae).2.2.1 t<;>rfl
   |false=>
    rw[cond_false,cond_false]
    cases decide (m=i)&&!(inP w Pe i)<;>rfl
 refine⟨⟨w3,f3,λ t=>?_,λ t=>?_,λ t=>?_,λ t=>?_,λ m hm=>?_⟩,s4⟩
 ·rw[p3];exact(h.fo t).step.eq (n:=w.2.2.1.length) (by omega) (eo t)
 ·rw[p3,s4.len];exact((h.fi t).step Vra).eq (by omega) (eo t)
 ·rw[p3];exact(tv t).1.step.eq (n:=w.2.2.1.length) (by omega) (er t)
 ·rw[p3,s4.len];exact((tv t).2.step B1b).eq (by omega) (er t)
 ·have e1:((Sq v i Ip).2.2.2.1.getD m Ae).2.2.2=(v.2.2.1.getD m Ae).2.2.2:=by
   rw[g3 m (by omega)]
   cases inP w Pe m&&!(decide (m=i)) with
   |true=>rfl
   |false=>cases decide (m=i)&&!(inP w Pe i)<;>rfl
  rw[e1,ta.qu m (by omega)]
  by_cases hmi:m=i
  ·rw[decide_eq_true hmi,cond_true,hmi,Wh]
  ·rw[decide_eq_false hmi,cond_false,r1 m]
   exact h.qe m (by omega)

def CA (l:List Row) (s:ByteArray) (st:Stp):Prop:=∃ r∈l,r.1=s∧sle r.2.1 st=false
def CV (n:Nod) (l:List Row):Prop:=∀ s st,CA l s st→CA n.2.2.1 s st
def Gub {a b:Row} (h:leR a b):sle b.2.1 a.2.1=false:=by
 unfold leR at h
 have n1:¬ M0 b a=true:=by rw[h];decide
 rw[Ug]at n1
 cases hs:sle b.2.1 a.2.1
 ·rfl
 have:=Om.1 hs
 omega
def NG.rows {n:Nod} (h:NG n):Bo n.2.2.1:=(Lv.1 (Bp.1 h.1).2.2.2.1).1
def GR (ns ms:List Nod):Prop:=∀ m,(ms.getD m Ae).2.2.2=(ns.getD m Ae).2.2.2∧CV (ms.getD m Ae) (ns.getD m Ae).2.2.1
def GR.set {ns ms:List Nod} (h:GR ns ms) {i:Nat} {x:Nod} (hi:i<ms.length) (h1:x.2.2.2=(ms.getD i Ae).2.2.2) (h2:CV x (ms.getD i Ae).2.2.1):GR ns (ms.set i x):=λ m=>by
 by_cases hm:m<ms.length
 ·rw[Hs hm]
  by_cases e:i=m
  ·subst e
   rw[if_pos rfl]
   exact⟨h1.trans (h i).1,λ s st c=>h2 s st ((h i).2 s st c)⟩
  ·rw[if_neg e];exact h m
 ·have e:(ms.set i x).getD m Ae=ms.getD m Ae:=by
   rw[Vb,Vb,Zf (by rw[Vy];omega),Zf (by omega)]
  rw[e];exact h m
def RC (ns:List Nod) (s:ByteArray) (st:Stp):Prop:=∃ i,i<ns.length∧(CA (ns.getD i Ae).2.2.1 s st∨CA (ns.getD i Ae).2.2.2 s st)

def LR (w:Wld):Prop:=∀ x∈w.2.2.2.2.1,x.2.2=true→RC w.2.2.1 x.1 x.2.1.1
def LR.mono {w v:Wld} (h:LR w) (e:v.2.2.2.2.1=w.2.2.2.2.1) (hr:∀ s st,RC w.2.2.1 s st→RC v.2.2.1 s st):LR v:=λ x hx ha=>hr _ _ (h x (by rw[← e];exact hx) ha)

def Vxa {w:Wld} (h:WI w) {s t:ByteArray} {f g:Fil} (hf:IsW w.2.2.2.2.1 s f) (hg:IsW w.2.2.2.2.1 t g) (e:f.1=g.1):f=g:=by
 obtain⟨x,hx,_,rfl⟩:=hf
 obtain⟨y,hy,_,rfl⟩:=hg
 obtain⟨i,hi,rfl⟩:=Zd.1 hx
 obtain⟨j,hj,rfl⟩:=Zd.1 hy
 have ha:=Zx.1 h.asc
 rcases Nat.lt_trichotomy i j with c|c|c
 ·have:=ha i j hi hj c
  rw[e,Jt]at this
  cases this
 ·subst c;rfl
 ·have:=ha j i hj hi c
  rw[e,Jt]at this
  cases this
def Gvb {a b:Stp} (h1:sle a b=false) (h2:sle b a=false):a=b:=by
 have n1:¬ sle a b=true:=by rw[h1];decide
 have n2:¬ sle b a=true:=by rw[h2];decide
 rw[Om]at n1 n2
 obtain⟨a1,a2,a3⟩:=a
 obtain⟨b1,b2,b3⟩:=b
 dsimp only at n1 n2
 obtain rfl:a1=b1:=by omega
 obtain rfl:a2=b2:=by omega
 obtain rfl:a3=b3:=by omega
 rfl
def Vya {s:ByteArray} {f:Fil}:∀ (ns:List Nod) (a:Bool×Fil),(∀ n∈ns,((lkD n.2.1 s).2==0)=true→(lkD n.2.1 s).1=f)→(a.1=true→a.2=f)→(ns.foldl (Drb s) a).1=true→(ns.foldl (Drb s) a).2=f
 |[],a,_,h,h1=>h h1
 |n::ns,a,hn,h,h1=>by
  rw[Zc]at h1 ⊢
  refine Vya ns _ (λ m hm=>hn m (Vh _ hm)) ?_ h1
  have k:=hn n Yc
  unfold Drb
  cases hc:(lkD n.2.1 s).2==0 with
  |false=>exact h
  |true=>
   rw[cond_true]
   cases !a.1||sle a.2.1 (lkD n.2.1 s).1.1 with
   |true=>exact λ _=>k hc
   |false=>exact h
def Dvb {d:Dsk} {s:ByteArray}:((lkD d s).2==0)=(old d s).isSome:=by
 have:=Oja (d:=d) (s:=s)
 unfold bne at this
 cases h:(lkD d s).2==0<;>cases h2:old d s<;>simp[h,h2]at this ⊢
section
variable {nm:List ByteArray} {w:Wld}
def RI.names (h:RI nm w.2.2.1.length w) {j:Nat} (hj:j<w.2.2.1.length) {s:ByteArray} (hs:(oN w.2.2.1 j s).isSome=true):lvN w s=true:=by
 obtain⟨f,hf⟩:=Zi.1 hs
 have hP:inP w s j=true:=by
  cases hp:inP w s j with
  |true=>rfl
  |false=>
   have e:oN w.2.2.1 j s=none:=h.fo s j hj hp
   rw[e]at hf
   cases hf
 have isw:∀ m,m<w.2.2.1.length→∀ g,oN w.2.2.1 m s=some g→IsW w.2.2.2.2.1 s g:=λ m hm g hg=>ED.now h.wi.wok ((h.wi.nodes _ (A4 (d:=Ae) hm)).2.1 s) hg
 have all:∀ m,m<w.2.2.1.length→oN w.2.2.1 m s=bif inP w s m then some f else none:=λ m hm=>by
  cases hp:inP w s m with
  |false=>exact h.fo s m hm hp
  |true=>
   obtain⟨y,h1,h2⟩:=h.fi s j hj hP f hf m hm hp
   obtain⟨z,h3,h4⟩:=h.fi s m hm hp y h1 j hj hP
   have h3':oN w.2.2.1 j s=some z:=h3
   rw[hf]at h3'
   obtain rfl:=Jwb h3'
   have h1':oN w.2.2.1 m s=some y:=h1
   rw[h1',Vxa h.wi (isw j hj f hf) (isw m hm y h1') (Gvb h4 h2)]
   rfl
 unfold lvN
 have hlk:∀ m,m<w.2.2.1.length→((lkD (w.2.2.1.getD m Ae).2.1 s).2==0)=inP w s m∧(inP w s m=true→(lkD (w.2.2.1.getD m Ae).2.1 s).1=f):=λ m hm=>by
  have a:=all m hm
  unfold oN at a
  refine⟨?_,λ hp=>?_⟩
  ·rw[Dvb,a]
   cases inP w s m<;>rfl
  ·rw[hp]at a
   rw[Boa a]
 have hl:(lat w.2.2.1 s).2=f:=by
  unfold lat
  refine Vya _ _ (λ n hn hc=>?_) (λ c=>by cases c) (Oga _ _ (.inr ⟨_,A4 (d:=Ae) hj,by rw[(hlk j hj).1];exact hP⟩))
  obtain⟨m,hm,rfl⟩:=Zd.1 hn
  have e:w.2.2.1[m]=w.2.2.1.getD m Ae:=by rw[Vb,Vk hm];rfl
  rw[e]at hc ⊢
  rw[(hlk m hm).1]at hc
  exact(hlk m hm).2 hc
 rw[hl,Bga _ Ae,Yr]
 intro m hm
 have hm':=Zy.1 hm
 obtain⟨k1,k2⟩:=hlk m hm'
 have hb:=((isw j hj f hf).good h.wi.wok).2.2
 unfold lvE
 rw[← Oha hm',k1,show Lh (whr w.2.2.1 (Sp w.2.1 s)) (m:Int)=inP w s m from rfl]
 cases hp:inP w s m with
 |false=>rfl
 |true=>
  rw[k2 hp,(V0a hb hb).2 rfl]
  rfl
def RI.rows (h:RI nm w.2.2.1.length w) {j:Nat} (hj:j<w.2.2.1.length):I9b w j=true:=by
 unfold I9b Azb
 rw[h.qe j hj]
 have refl:∀ l:List Row,Vga l l=true:=λ l=>by
  unfold Vga
  rw[beq_self_eq_true,Vw,Yr]
  intro i _
  unfold I8b
  rw[Y7,Cy.2 rfl,beq_self_eq_true,beq_self_eq_true,beq_self_eq_true,beq_self_eq_true,beq_self_eq_true]
  rfl
 show (true&&_)=true
 rw[Vw]
 have hp:Lh (Fa w) (j:Int)=inP w Pe j:=rfl
 cases hL:inP w Pe j with
 |false=>
  rw[hp,hL,cond_false,Vha]
  have e:(w.2.2.1.getD j Ae).2.2.1=[]:=by
   cases hr:(w.2.2.1.getD j Ae).2.2.1 with
   |nil=>rfl
   |cons r l=>
    have h1:rN w.2.2.1 j r.1=none:=h.ro r.1 j hj hL
    have h2:=M6 (h.wi.give j hj) (r:=r) (by rw[hr];exact Yc)
    unfold rN at h1
    rw[h1]at h2
    cases h2
  rw[e]
  rfl
 |true=>
  rw[hp,hL,cond_true]
  obtain⟨l0,l1,l2⟩:=Via (hp.trans hL)
  obtain⟨p,ep⟩:∃ p:Nat,(Fa w).getD 0 0=(p:Int):=⟨((Fa w).getD 0 0).toNat,by omega⟩
  have hpP:inP w Pe p=true:=by
   show Lh (Fa w) (p:Int)=true
   rw[← ep]
   exact Nw.2 (A4 l0)
  rw[ep,Vd]
  have hpn:p<w.2.2.1.length:=by omega
  have e:(w.2.2.1.getD j Ae).2.2.1=(w.2.2.1.getD p Ae).2.2.1:=by
   refine Aua (h.wi.give j hj) (h.wi.give p hpn) λ t=>?_
   have one:∀ a b,a<w.2.2.1.length→b<w.2.2.1.length→inP w Pe a=true→inP w Pe b=true→∀ x,rN w.2.2.1 a t=some x→rN w.2.2.1 b t=some x:=λ a b ha hb pa pb x hx=>by
    obtain⟨y,h1,h2⟩:=h.ri t a ha pa x hx b hb pb
    obtain⟨z,h3,h4⟩:=h.ri t b hb pb y h1 a ha pa
    have h3':rN w.2.2.1 a t=some z:=h3
    rw[hx]at h3'
    obtain rfl:=Jwb h3'
    have h1':rN w.2.2.1 b t=some y:=h1
    rw[h1',Tea ((D4a _ hx).trans (D4a _ h1').symm) h4 h2]
   show rN w.2.2.1 j t=rN w.2.2.1 p t
   cases h1:rN w.2.2.1 j t with
   |some x=>exact(one j p hj hpn hL hpP x h1).symm
   |none=>
    cases h2:rN w.2.2.1 p t with
    |none=>rfl
    |some x=>rw[one p j hpn hj hpP hL x h2]at h1;cases h1
  rw[e]
  exact refl _
end

def RI.listed {nm:List ByteArray} {w:Wld} (h:RI nm w.2.2.1.length w) (hr:LR w) {x:Wri} (hx:x∈w.2.2.2.2.1) (ha:x.2.2=true) {p:Nat} (hp:p<w.2.2.1.length) (hL:inP w Pe p=true):CA (w.2.2.1.getD p Ae).2.2.1 x.1 x.2.1.1:=by
 obtain⟨i,hi,hc⟩:=hr x hx ha
 rw[h.qe i hi]at hc
 rcases hc with⟨r,h1,h2,h3⟩|⟨r,h1,_⟩
 ·have hl:rN w.2.2.1 i x.1=some r:=by rw[← h2];exact M6 (h.wi.give i hi) h1
  have hPi:inP w Pe i=true:=by
   cases hq:inP w Pe i with
   |true=>rfl
   |false=>
    have e:rN w.2.2.1 i x.1=none:=h.ro x.1 i hi hq
    rw[e]at hl
    cases hl
  obtain⟨y,h4,h5⟩:=h.ri x.1 i hi hPi r hl p hp hL
  have h4':Iv (w.2.2.1.getD p Ae).2.2.1 x.1=some y:=h4
  exact⟨y,(Me h4').1,(Me h4').2,Xi (Gub h5) h3⟩
 ·cases h1

section
open Go
end

def Rm (d:Dsk) (s:ByteArray):Prop:=(cut d.1 s).length≤59∧(cut d.2 s).length≤59
def Lia {α:Type} {p:α→Bool} {l:List α} {x:α} (hx:p x=false) (a b:List α) (e:l=a++[x]++b):l.filter p=(a++b).filter p:=by
 rw[e,List.filter_append,List.filter_append,List.filter_append,List.filter_cons_of_neg (by rw[hx];decide),List.filter_nil,Wq]
def B4b (l:List Nmd) (s:ByteArray) (b:List Int):cut (wr l s b) s=cut l s:=by
 have e:cut (ins (cut l s) (s,b)) s=cut (cut l s) s:=by
  have h0:(λ x:Nmd => !(teq x.1 s)) (s,b)=false:=by
   show (!(teq s s))=false
   rw[Cy.2 rfl]
   rfl
  refine(Lia (p:=λ x:Nmd => !(teq x.1 s)) h0 ((cut l s).take (plc (cut l s) s)) ((cut l s).drop (plc (cut l s) s)) rfl).trans ?_
  rw[Wl]
  rfl
 exact e.trans Ksa
def B5b (d:Dsk) (s:ByteArray):cut (sy d s) s=cut d.2 s:=by
 unfold sy
 cases gt d.1 s with
 |some b=>exact B4b d.2 s b
 |none=>exact Ksa
def Ona {l:List Nmd} {s:ByteArray} (h:(cut l s).length≤59) (b:List Int):(wr l s b).length≤60:=by
 show (ins (cut l s) (s,b)).length≤60
 rw[Kra]
 omega
def Vza {d:Dsk} {s:ByteArray} {f:Fil} (hd:DG d) (hr:Rm d s) (g1:As s=true) (g2:D9 f=true) (g3:Ai f.2.2):
  ((keep d s f true).2=0∨(keep d s f true).2=1)∧Rm (keep d s f true).1 s∧∀ t,old (keep d s f true).1 t=if s=t then some (O6 (old d s) f) else old d t:=by
 have l1:∀ b,(wr d.1 s b).length≤60:=Ona hr.1
 have l2:∀ l:List Nmd,(sy (l,d.2) s).length≤60:=λ l=>by
  unfold sy
  cases gt l s with
  |some b=>exact Ona hr.2 b
  |none=>have:=hr.2;show (cut d.2 s).length≤60;omega
 rw[Uo hd.1 g1 g2]
 rcases Px (f:=f) (sure:=true) hd g1 with k|⟨o,h1,h2,h3,_,h5⟩|⟨h1,_,h3,_,h5⟩
 ·exfalso
  have hwr:wrD d s (Kh f)=((wr d.1 s (Kh f),d.2),true):=by
   unfold wrD
   rw[decide_eq_true (show (Kh f).length≤400 by have:=Qn f;omega),decide_eq_true (l1 _)]
   rfl
  have hsy:∀ l:List Nmd,(syD (l,d.2) s).2=true:=λ l=>by
   unfold syD
   rw[decide_eq_true (l2 l)]
   rfl
  have k2:∀ (l:List Nmd) (c:Int),(kp2 d s true ((l,d.2),c)).2=c:=λ l c=>by
   unfold kp2
   rw[cond_true,hsy l]
   rfl
  have k3:=congrArg Prod.snd k
  unfold Mh kp1 at k3
  rw[hwr]at k3
  cases ho:old d s with
  |none=>
   rw[ho]at k3
   have:(kp2 d s true ((wr d.1 s (Kh f),d.2),0)).2=3:=k3
   rw[k2]at this
   cases this
  |some o=>
   rw[ho]at k3
   cases hc:sle o.1 f.1 with
   |true=>
    simp only[hc,cond_true]at k3
    rw[k2]at k3
    cases k3
   |false=>
    simp only[hc,cond_false]at k3
    have:(kp2 d s true ((d.1,d.2),1)).2=3:=k3
    rw[k2]at this
    cases this
 ·rcases h5 with⟨c,_⟩|⟨_,e⟩
  ·cases c
  ·refine⟨.inr h3,?_,λ t=>?_⟩
   ·rw[e];exact⟨hr.1,by show (cut (sy d s) s).length≤59;rw[B5b];exact hr.2⟩
   ·rw[e]
    show old d t=_
    by_cases hst:s=t
    ·subst hst
     rw[if_pos rfl,h1]
     simp[O6,h2]
    ·rw[if_neg hst]
 ·rcases h5 with⟨c,_⟩|⟨_,e⟩
  ·cases c
  ·refine⟨.inl h3,?_,λ t=>?_⟩
   ·rw[e]
    refine⟨?_,?_⟩
    ·show (cut (wr d.1 s (Kh f)) s).length≤59
     rw[B4b];exact hr.1
    ·show (cut (sy (wr d.1 s (Kh f),d.2) s) s).length≤59
     rw[B5b];exact hr.2
   ·rw[e]
    show (gt (wr d.1 s (Kh f)) t).bind Mz=_
    rw[C6a (Kk hd.1)]
    by_cases hst:s=t
    ·rw[if_pos hst,if_pos hst,Vm,Si g2 g3]
     cases ho:old d s with
     |none=>rfl
     |some o=>simp[O6,h1 o ho]
    ·rw[if_neg hst,if_neg hst]
     rfl
def R5 (rc:List Int):Prop:=∀ j,j<5→rch rc j=1
def Iwa {b:List Int} {f:Fil} (h:Mz b=some f):D9 f=true∧Ai f.2.2:=⟨(Eya h).1,(Eya h).2.1⟩
def Zfa {w:Wld} (h:WO w) {i:Nat} (hi:i<w.2.2.1.length) {s:ByteArray} {f:Fil} {rc:List Int} (h5r:R5 rc) (hr:∀ m,m<w.2.2.1.length→Rm (w.2.2.1.getD m Ae).2.1 s) (hs:As s=true) (hf:oN w.2.2.1 i s=some f):
  (puN w i s rc).2.2=true∧(puN w i s rc).2.1=inP w s i∧(puN w i s rc).1.length=w.2.2.1.length∧NS (puN w i s rc).1∧
  ∀ m,m<w.2.2.1.length→oN (puN w i s rc).1 m s=bif inP w s m&&!(decide (m=i)) then some (O6 (oN w.2.2.1 m s) f) else oN w.2.2.1 m s:=by
 have h5:=h.prim5 s
 have hlk:(lkD (w.2.2.1.getD i Ae).2.1 s).1=f:=by rw[Boa hf]
 obtain⟨g2,g3⟩:D9 f=true∧Ai f.2.2:=by
  unfold oN old at hf
  cases hg:gt (w.2.2.1.getD i Ae).2.1.1 s with
  |none=>rw[hg]at hf;cases hf
  |some b=>rw[hg]at hf;exact Iwa hf
 have hat:=λ x=>P8 (w:=w) (s:=s) (x:=x)
 have hns:=h.ns
 unfold puN inP
 rw[hlk]
 generalize Mp w s=ps at *
 have key:=Mo (st:=pst (i:Int) s f rc ps) (n:=ps.length) (a:=(w.2.2.1,false,true)) (λ j (a:List Nod×Bool×Bool)=>a.2.2=true∧a.2.1=Lh (ps.take j) (i:Int)∧a.1.length=w.2.2.1.length∧NS a.1∧
  ∀ m,m<w.2.2.1.length→Rm (a.1.getD m Ae).2.1 s∧oN a.1 m s=bif Lh (ps.take j) (m:Int)&&!(decide (m=i)) then some (O6 (oN w.2.2.1 m s) f) else oN w.2.2.1 m s) ?_ ?_
 ·rw[Yi]at key
  exact⟨key.1,key.2.1,key.2.2.1,key.2.2.2.1,λ m hm=>(key.2.2.2.2 m hm).2⟩
 ·exact⟨rfl,rfl,rfl,hns,λ m hm=>⟨hr m hm,rfl⟩⟩
 ·rintro j ⟨ns,o,g⟩ hj ⟨a1,a2,a3,an,a4⟩
  dsimp only at a1 a2 a3 an a4
  subst a1
  have hpx:=hat _ (A4 (d:=0) hj)
  obtain⟨p,hp⟩:∃ p:Nat,ps.getD j 0=(p:Int):=⟨(ps.getD j 0).toNat,by omega⟩
  have htk:∀ x:Int,Lh (ps.take (j+1)) x=(Lh (ps.take j) x||(p:Int)==x):=λ x=>by
   have e:ps[j]=(p:Int):=by rw[← hp,Vb,Vk hj];rfl
   unfold Lh
   rw[Wi hj,L7b,e,Jsb,Lzb,Iwb]
  unfold pst
  rw[hp,Vd,h5r j (by omega)]
  cases hpi:(p:Int)==(i:Int) with
  |true=>
   have e:p=i:=by have:=eq_of_beq hpi;omega
   refine⟨rfl,?_,a3,an,λ m hm=>⟨(a4 m hm).1,?_⟩⟩
   ·show true=_
    rw[htk,hpi,Bool.or_true]
   ·show oN ns m s=_
    rw[(a4 m hm).2,htk,e]
    by_cases hmi:m=i
    ·rw[decide_eq_true hmi,Yq,Wm,Wm]
    ·rw[show ((i:Int)==(m:Int))=false by rw[beq_eq_false_iff_ne];omega,Iwb]
  |false=>
   have e:p≠i:=by intro e;rw[e,beq_self_eq_true]at hpi;cases hpi
   have hpn:p<ns.length:=by omega
   have hni:=an.get hpn
   obtain⟨k1,k3,k2⟩:=Vza hni.g (a4 p (by omega)).1 hs g2 g3
   have hcode:((keep (ns.getD p Ae).2.1 s f true).2 != 0&&(keep (ns.getD p Ae).2.1 s f true).2 != 1)=false:=by
    rcases k1 with k|k<;>rw[k]<;>rfl
   refine⟨?_,?_,by show (ns.set _ _).length=_;rw[Vy];exact a3,an.set (Bka hni),λ m hm=>?_⟩
   ·show (bif ((keep (ns.getD p Ae).2.1 s f true).2 != 0&&(keep (ns.getD p Ae).2.1 s f true).2 != 1) then false else true)=true
    rw[hcode]
    rfl
   ·show o=_
    rw[a2,htk,hpi,Iwb]
   ·show Rm ((ns.set p _).getD m Ae).2.1 s∧oN (ns.set p _) m s=_
    unfold oN
    rw[Hs (show m<ns.length by omega),htk]
    by_cases hpm:p=m
    ·subst hpm
     rw[if_pos rfl,beq_self_eq_true,Bool.or_true,Vw,decide_eq_false e,Zg,cond_true]
     refine⟨k3,?_⟩
     show old (keep (ns.getD p Ae).2.1 s f true).1 s=_
     rw[k2 s,if_pos rfl]
     have a4s:=(a4 p hm).2
     unfold oN at a4s
     rw[decide_eq_false e,Zg,Zz]at a4s
     rw[a4s]
     cases Lh (ps.take j) (p:Int) with
     |true=>rw[cond_true,Bna]
     |false=>rfl
    ·rw[if_neg hpm,show ((p:Int)==(m:Int))=false by rw[beq_eq_false_iff_ne];omega,Iwb]
     exact a4 m hm
def Qga {w:Wld} (h:WO w) {i:Nat} (hi:i<w.2.2.1.length) {s:ByteArray} {f:Fil} {rc:List Int} (h5r:R5 rc) (hr:∀ m,m<w.2.2.1.length→Rm (w.2.2.1.getD m Ae).2.1 s) (hs:As s=true) (hf:oN w.2.2.1 i s=some f):
  (∀ m,m<w.2.2.1.length→inP w s m=true→∃ g,oN (Lu w i s rc).2.2.2.1 m s=some g∧sle g.1 f.1=false)∧(oN (Lu w i s rc).2.2.2.1 i s).isSome=inP w s i:=by
 obtain⟨p1,p2,p3,p4,p5⟩:=Zfa h hi h5r hr hs hf
 have e1:old (w.2.2.1.getD i Ae).2.1 s=some f:=hf
 have e2:(Lu w i s rc).2.2.2.1=bif (puN w i s rc).2.2&&!(puN w i s rc).2.1 then (puN w i s rc).1.set i (Gcb ((puN w i s rc).1.getD i Ae) s) else (puN w i s rc).1:=by
  unfold Lu
  rw[Oja,e1]
  rfl
 rw[e2,p1,p2,Vw]
 have hi':=p5 i hi
 rw[decide_eq_true rfl,Yq,Wm,cond_false,hf]at hi'
 cases hin:inP w s i with
 |true=>
  rw[Yq,cond_false]
  refine⟨λ m hm hP=>?_,by rw[hi'];rfl⟩
  by_cases hmi:m=i
  ·subst hmi
   exact⟨f,hi',Jt _⟩
  ·rw[p5 m hm,hP,decide_eq_false hmi]
   exact⟨_,rfl,Vra.up _ f⟩
 |false=>
  rw[Zg,cond_true]
  refine⟨λ m hm hP=>?_,?_⟩
  ·have hmi:i≠m:=λ e=>by rw[e,hP]at hin;cases hin
   unfold oN
   rw[Hs (by omega),if_neg hmi]
   have:=p5 m hm
   rw[hP,decide_eq_false (λ e=>hmi e.symm)]at this
   exact⟨_,this,Vra.up _ f⟩
  ·unfold oN
   rw[Hs (by omega),if_pos rfl]
   have hg:=(p4.get (i:=i) (by omega)).g
   have hgs:(gt ((puN w i s rc).1.getD i Ae).2.1.1 s).isSome=true:=by
    have:old ((puN w i s rc).1.getD i Ae).2.1 s=some f:=hi'
    unfold old at this
    cases hq:gt ((puN w i s rc).1.getD i Ae).2.1.1 s with
    |none=>rw[hq]at this;cases this
    |some b=>rfl
   show (old (syD (rmD ((puN w i s rc).1.getD i Ae).2.1 s).1 s).1 s).isSome=false
   rw[Vla hg hgs s,if_pos rfl]
   rfl

section
open Go
end

def Ln (m:Nat) (d:Dsk):Prop:=d.1.length≤m∧d.2.length≤m
def Ro (m:Nat) (n:Nod):Prop:=Ln m n.2.1∧n.2.2.1.length≤m
def Ln.up {m k:Nat} {d:Dsk} (h:Ln m d) (hk:m≤k):Ln k d:=⟨by have:=h.1;omega,by have:=h.2;omega⟩
def Ro.up {m k:Nat} {n:Nod} (h:Ro m n) (hk:m≤k):Ro k n:=⟨h.1.up hk,by have:=h.2;omega⟩
def W0a (l:List Nmd) (s:ByteArray) (b:List Int):(wr l s b).length≤l.length+1:=by
 show (ins (cut l s) (s,b)).length≤_
 rw[Kra]
 have:=(Nc (l:=l) (s:=s)).length_le
 omega
def Dwb (d:Dsk) (s:ByteArray):(sy d s).length≤d.2.length+1:=by
 unfold sy
 cases gt d.1 s with
 |some b=>exact W0a d.2 s b
 |none=>have:=(Nc (l:=d.2) (s:=s)).length_le;show (cut d.2 s).length≤_;omega
def Gwb {m:Nat} {d:Dsk} {s:ByteArray} {b:List Int} (h:Ln m d):Ln (m+1) (wrD d s b).1:=by
 unfold wrD
 cases decide (b.length≤400)&&decide ((wr d.1 s b).length≤60) with
 |false=>exact h.up (by omega)
 |true=>exact⟨by have:=W0a d.1 s b;have:=h.1;show (wr d.1 s b).length≤_;omega,by have:=h.2;show d.2.length≤_;omega⟩
def Gxb {m:Nat} {d:Dsk} {s:ByteArray} (h:Ln m d):Ln (m+1) (syD d s).1:=by
 unfold syD
 cases decide ((sy d s).length≤60) with
 |false=>exact h.up (by omega)
 |true=>exact⟨by have:=h.1;show d.1.length≤_;omega,by have:=Dwb d s;have:=h.2;show (sy d s).length≤_;omega⟩
def Gyb {m:Nat} {d:Dsk} {s:ByteArray} (h:Ln m d):Ln (m+1) (rmD d s).1:=by
 unfold rmD
 cases (gt d.1 s).isSome with
 |false=>exact h.up (by omega)
 |true=>exact⟨by have:=(Nc (l:=d.1) (s:=s)).length_le;have:=h.1;show (cut d.1 s).length≤_;omega,by have:=h.2;show d.2.length≤_;omega⟩
def Dxb {m:Nat} {d:Dsk} {s:ByteArray} {f:Fil} {sure:Bool} (hd:DG d) (h:Ln m d):Ln (m+1) (keep d s f sure).1:=by
 unfold keep
 cases hc:Al d&&(As s&&D9 f) with
 |false=>exact h.up (by omega)
 |true=>
  rw[Va,Va]at hc
  rw[cond_true]
  have l1:Ln (m+1) (wr d.1 s (Kh f),d.2):=⟨by have:=W0a d.1 s (Kh f);have:=h.1;dsimp only;omega,by have:=h.2;dsimp only;omega⟩
  rcases Px (f:=f) (sure:=sure) hd hc.2.1 with k|⟨o,_,_,_,_,h5⟩|⟨_,_,_,_,h5⟩
  ·rw[k];exact h.up (by omega)
  ·rcases h5 with⟨_,e⟩|⟨_,e⟩<;>rw[e]
   ·exact h.up (by omega)
   ·exact⟨by have:=h.1;dsimp only;omega,by have:=Dwb d s;have:=h.2;dsimp only;omega⟩
  ·rcases h5 with⟨_,e⟩|⟨_,e⟩<;>rw[e]
   ·exact l1
   ·exact⟨l1.1,by have a:=Dwb (wr d.1 s (Kh f),d.2) s;have b:=h.2;dsimp only at a b ⊢;omega⟩
def Dyb {m:Nat} {d:Dsk} {s:ByteArray} {n:Int} (h:Ln m d):Ln (m+1) (F0a d s n).1:=by
 unfold F0a
 cases gt d.1 s with
 |none=>exact h.up (by omega)
 |some b=>
  dsimp only
  cases inR n 0 (8*(b.length:Int)-1) with
  |false=>exact h.up (by omega)
  |true=>
   refine⟨by have:=W0a d.1 s (Mw b n.toNat);have:=h.1;show (wr d.1 s (Mw b n.toNat)).length≤_;omega,?_⟩
   show (bif decide (gt d.2 s=some b) then wr d.2 s (Mw b n.toNat) else d.2).length≤m+1
   cases decide (gt d.2 s=some b) with
   |true=>have:=W0a d.2 s (Mw b n.toNat);have:=h.2;show (wr d.2 s (Mw b n.toNat)).length≤_;omega
   |false=>have:=h.2;show d.2.length≤_;omega
def Dzb {m:Nat} {n:Nod} {s:ByteArray} {f:Fil} {sure:Bool} (hn:NG n) (h:Ro m n):Ro (m+1) (Ekb n s f sure).1:=by
 unfold Ekb Wu
 cases Ly n&&(As s&&D9 f) with
 |false=>exact h.up (by omega)
 |true=>
  cases (n.2.2.2.length:Int)==60 with
  |true=>exact h.up (by omega)
  |false=>exact⟨Dxb hn.g h.1,by have:=h.2;show n.2.2.1.length≤_;omega⟩
def E0b {m:Nat} {n:Nod} {s:ByteArray} {b:Int} (h:Ro m n):Ro (m+1) (I4a n s b).1:=by
 unfold I4a
 cases Ly n&&((lkD n.2.1 s).2==0&&(F0a n.2.1 s b).2) with
 |false=>exact h.up (by omega)
 |true=>exact⟨Dyb h.1,by have:=h.2;show n.2.2.1.length≤_;omega⟩
def Ooa {m k:Nat} {n:Nod} {l:List Row} (h:Ro m n) (hl:l.length≤k):Ro (m+k) (Pya n l).1:=by
 unfold Pya
 cases Ly n&&Jq l with
 |false=>exact h.up (by omega)
 |true=>
  cases decide ((O9 n.2.2.1 l).length > 60) with
  |true=>exact h.up (by omega)
  |false=>exact⟨h.1.up (by omega),by have:=(Xva n.2.2.1 l).2;have:=h.2;show (O9 n.2.2.1 l).length≤_;omega⟩
def Qha:∀ (n:Nat) (i:Int) (c:Cur) (a0 a1:List Nmd) (d:Dsk) (m:Nat),i=n→n≤6→Bj c→DG d→Ln m d→
  Tot (λ k=>Am k i c.1 c.2.1 c.2.2 a0 a1 d.1 d.2) (λ r=>(DG (r.2.2.1,r.2.2.2.1)∧Ln (m+n) (r.2.2.1,r.2.2.2.1))∧Bj r.2.2.2.2):=by
 intro n
 induction n with
 |zero=>
  intro i c a0 a1 d m hi h6 hc hd hm
  refine Tot.succ ?_
  simp only[Am]
  exact Ilb (by omega) (Igb ⟨⟨hd,hm⟩,hc⟩)
 |succ n ih=>
  intro i c a0 a1 d m hi h6 hc hd hm
  refine Tot.succ ?_
  simp only[Am]
  refine Ikb (by omega) ?_
  rw[w64 (n:=i-1) (by omega) (by omega)]
  obtain⟨s,c1,e1,hs,k1⟩:=M5 c hc
  refine Isb (Itb (Q:=λ r=>r=(s,c1)) e1 rfl) ?_
  obtain⟨x,c2,e2,_,_,_,k2⟩:=Ad c1 k1 6 (by decide)
  refine Isb (Itb (Q:=λ r=>r=(x,c2)) e2 rfl) ?_
  dsimp only
  obtain⟨hsh,hsn⟩:=Ky s hs
  rw[show m+(n+1)=(m+1)+n by omega]
  have wr:Tot (λ k=>(C4 k c2).bind λ r5=>(Bb k r5.1).bind λ r6=>(B5 k (d.1,d.2) s r6).bind λ r7=>Am k (i-1) r5.2.1 r5.2.2.1 r5.2.2.2 a0 a1 r7.1.1 r7.1.2) (λ r=>(DG (r.2.2.1,r.2.2.2.1)∧Ln (m+1+n) (r.2.2.1,r.2.2.2.1))∧Bj r.2.2.2.2):=by
   refine Ihb (No c2 k2) (λ f hf=>?_)
   refine Isb (Qp f.1) ?_
   refine Isb (Wt hd.1 hsn (by have:=Qn f.1;omega)) ?_
   exact ih (i-1) f.2 a0 a1 _ _ (by omega) (by omega) hf.2 (Fyb hd hsn (Of _)) (Gwb hm)
  have sy:Tot (λ k=>(An k (d.1,d.2) s).bind λ r4=>Am k (i-1) c2.1 c2.2.1 c2.2.2 a0 a1 r4.1.1 r4.1.2) (λ r=>(DG (r.2.2.1,r.2.2.2.1)∧Ln (m+1+n) (r.2.2.1,r.2.2.2.1))∧Bj r.2.2.2.2):=by
   refine Isb (Rr hd.1 hsn) ?_
   exact ih (i-1) c2 a0 a1 _ _ (by omega) (by omega) k2 (Yba hd hsn) (Gxb hm)
  refine Imb (λ _=>?_) (λ _=>Imb (λ h=>Imb (λ _=>sy) (λ _=>wr)) (λ _=>Imb (λ _=>sy) (λ _=>wr)))
  refine Isb (Qq hd.1 hsh) ?_
  exact ih (i-1) c2 a0 a1 _ _ (by omega) (by omega) k2 (Pva hd) (Gyb hm)
def E1b (c:Cur) (hc:Bj c):Tot (λ k=>Dp k c) (λ r=>(DG r.1∧Ln 6 r.1)∧Bj r.2):=by
 unfold Dp
 obtain⟨x,c2,e2,h0,h1,_,k2⟩:=Ad c hc 7 (by decide)
 have h1:=h1 (by decide)
 refine Isb (Itb (Q:=λ r=>r=(x,c2)) e2 rfl) ?_
 exact Ihb (Qha x.toNat x c2 [] [] ([],[]) 0 (by omega) (by omega) k2 dg0 ⟨Vv _,Vv _⟩) (λ r hr=>Igb ⟨⟨hr.1.1,hr.1.2.up (by omega)⟩,hr.2⟩)
def Gzb (c:Cur) (hc:Bj c):Tot (λ k=>Ih k c) (λ r=>Ln 7 r.1):=by
 unfold Ih
 refine Ihb (E1b c hc) (λ d hd=>?_)
 obtain⟨⟨hd,hm⟩,k0⟩:=hd
 have hin:=Nd hd.1
 obtain⟨m1,m2⟩:=hm
 obtain⟨x,c2,e2,_,_,_,k2⟩:=Ad d.2 k0 12 (by decide)
 refine Isb (Itb (Q:=λ r=>r=(x,c2)) e2 rfl) ?_
 refine Imb (λ _=>?_) (λ _=>Imb (λ _=>?_) (λ _=>Igb ⟨by dsimp only;omega,by dsimp only;omega⟩))
 ·obtain⟨s,c3,e3,hs,k3⟩:=My c2 k2
  refine Isb (Itb (Q:=λ r=>r=(s,c3)) e3 rfl) ?_
  exact Iob (by simp only[List.length_cons,List.length_nil];omega) (Igb ⟨by simp only[List.length_append,List.length_cons,List.length_nil];omega,by dsimp only;omega⟩)
 ·obtain⟨s,c3,e3,hs,k3⟩:=My c2 k2
  refine Isb (Itb (Q:=λ r=>r=(s,c3)) e3 rfl) ?_
  obtain⟨y,c4,e4,y0,y1,_,k4⟩:=Ad c3 k3 2 (by decide)
  have y1:=y1 (by decide)
  refine Isb (Itb (Q:=λ r=>r=(y,c4)) e4 rfl) ?_
  dsimp only
  rw[w64 (n:=400+y) (by omega) (by omega)]
  exact Ikb rfl (Ikb (by omega) (Ikb (by omega) (Iob (by simp only[List.length_cons,List.length_nil];omega) (Igb ⟨by dsimp only;omega,by simp only[List.length_append,List.length_cons,List.length_nil];omega⟩))))
def Lja:∀ (m:Nat) (i:Int) (c:Cur) (z:Nod) (n:Nod) (q:Nat),i=m→m≤6→Bj c→NG n→Ro q n→
  Tot (λ k=>Cw k i c.1 c.2.1 c.2.2 z.1 z.2.1.1 z.2.1.2 z.2.2.1 z.2.2.2 n.1 n.2.1.1 n.2.1.2 n.2.2.1 n.2.2.2) (λ r=>∃ c' n',Bj c'∧(NG n'∧Ro (q+m) n')∧r=(c'.1,c'.2.1,c'.2.2,z.1,z.2.1.1,z.2.1.2,z.2.2.1,z.2.2.2,n'.1,n'.2.1.1,n'.2.1.2,n'.2.2.1,n'.2.2.2)):=by
 intro m
 induction m with
 |zero=>
  intro i c z n q hi h6 hc hn hq
  refine Tot.succ ?_
  simp only[Cw]
  exact Ilb (by omega) (Igb ⟨c,n,hc,⟨hn,hq⟩,rfl⟩)
 |succ m ih=>
  intro i c z n q hi h6 hc hn hq
  refine Tot.succ ?_
  simp only[Cw]
  refine Ikb (by omega) ?_
  rw[w64 (n:=i-1) (by omega) (by omega)]
  obtain⟨s,c1,e1,hs,k1⟩:=M5 c hc
  refine Isb (Itb (Q:=λ r=>r=(s,c1)) e1 rfl) ?_
  refine Ihb (No c1 k1) (λ f hf=>?_)
  obtain⟨b,c2,e2,k2⟩:=Ks f.2 hf.2 3 (by decide)
  refine Isb (Itb (Q:=λ r=>r=(b,c2)) e2 rfl) ?_
  refine Isb (B8a n s f.1 (!b) (Py hn) (Ky s hs).1) ?_
  rw[show q+(m+1)=(q+1)+m by omega]
  exact ih (i-1) c2 z _ _ (by omega) (by omega) k2 (Akb hn) (Dzb hn hq)
def Zga (c:Cur) (hc:Bj c):Tot (λ k=>D7 k c) (λ r=>(NG r.1∧Ro 11 r.1)∧Bj r.2):=by
 unfold D7
 obtain⟨x,c1,e1,x0,x1,_,k1⟩:=Ad c hc 6 (by decide)
 have x1:=x1 (by decide)
 refine Isb (Itb (Q:=λ r=>r=(x,c1)) e1 rfl) ?_
 refine Isb (Itb (Q:=λ r=>r=(x,([],[]),[],[])) (by rw[Ti,Co.2 ⟨by dsimp only;omega,by dsimp only;omega⟩];rfl) rfl) ?_
 obtain⟨y,c2,e2,y0,y1,_,k2⟩:=Ad c1 k1 6 (by decide)
 have y1:=y1 (by decide)
 refine Isb (Itb (Q:=λ r=>r=(y,c2)) e2 rfl) ?_
 have hn0:NG (x,(([]:List Nmd),([]:List Nmd)),([]:List Row),([]:List Row)):=⟨Bp.2 ⟨(by simp),⟨by dsimp only;omega,by dsimp only;omega⟩,(show Al ([],[])=true by decide),(show Jq []=true by decide),(by simp)⟩,λ x hx=>(by cases hx),λ x hx=>(by cases hx)⟩
 have hr0:Ro 0 (x,(([]:List Nmd),([]:List Nmd)),([]:List Row),([]:List Row)):=⟨⟨Vv _,Vv _⟩,Vv _⟩
 refine Ihb (Lja y.toNat y c2 Ae _ 0 (by omega) (by omega) k2 hn0 hr0) ?_
 rintro r ⟨c3,n,k3,⟨hn,hq⟩,rfl⟩
 have hq:Ro 5 n:=hq.up (by omega)
 have rot:∀ (n:Nod) (c:Cur),NG n→Ro 10 n→Bj c→Tot (λ k=>(B2 c).bind λ r9=>(A3 r9.2 40).bind λ r10=>(E4 k n r9.1 r10.1).bind λ r11=>some (r11.1,r10.2)) (λ r=>(NG r.1∧Ro 11 r.1)∧Bj r.2):=by
  intro n c hn hq hc
  obtain⟨s,c1,e1,hs,k1⟩:=M5 c hc
  refine Isb (Itb (Q:=λ r=>r=(s,c1)) e1 rfl) ?_
  obtain⟨x,c2,e2,x0,x1,_,k2⟩:=Ad c1 k1 40 (by decide)
  have x1:=x1 (by decide)
  refine Isb (Itb (Q:=λ r=>r=(x,c2)) e2 rfl) ?_
  refine Isb (Th n s x (Py hn) (by omega) (by omega)) ?_
  exact Igb ⟨⟨Nqa hn,E0b hq⟩,k2⟩
 obtain⟨b,c4,e4,k4⟩:=Ks c3 k3 2 (by decide)
 refine Isb (Itb (Q:=λ r=>r=(b,c4)) e4 rfl) ?_
 refine Imb (λ _=>?_) (λ _=>?_)
 ·refine Ihb (Tb c4 k4) ?_
  rintro⟨l,c5⟩ ⟨k5,hl,hl5⟩
  refine Isb (Noa n l (Py hn) (F2a (I5a hl (by dsimp only at hl5;omega)))) ?_
  obtain⟨b,c6,e6,k6⟩:=Ks c5 k5 3 (by decide)
  refine Isb (Itb (Q:=λ r=>r=(b,c6)) e6 rfl) ?_
  exact Imb (λ _=>rot _ c6 (F3a hn) (Ooa hq hl5) k6) (λ _=>Igb ⟨⟨F3a hn,(Ooa hq hl5).up (by omega)⟩,k6⟩)
 ·obtain⟨b,c6,e6,k6⟩:=Ks c4 k4 3 (by decide)
  refine Isb (Itb (Q:=λ r=>r=(b,c6)) e6 rfl) ?_
  exact Imb (λ _=>rot n c6 hn (hq.up (by omega)) k6) (λ _=>Igb ⟨⟨hn,hq.up (by omega)⟩,k6⟩)
def E2b (c:Cur) (hc:Bj c):Tot (λ k=>Eb k c) (λ r=>Ro 20 r.1):=by
 unfold Eb
 refine Ihb (Zga c hc) ?_
 rintro⟨n,c1⟩ ⟨⟨hg,hq⟩,k1⟩
 have hn:=Py hg
 have hq60:=(Bp.1 hg.1).2.2.2.2
 have hr:Ro 20 n:=hq.up (by omega)
 obtain⟨x,c2,e2,_,_,_,k2⟩:=Ad c1 k1 12 (by decide)
 refine Isb (Itb (Q:=λ r=>r=(x,c2)) e2 rfl) ?_
 refine Imb (λ _=>?_) (λ _=>Imb (λ _=>?_) (λ _=>Imb (λ _=>?_) (λ _=>Imb (λ _=>?_) (λ _=>Imb (λ _=>?_) (λ _=>Igb hr)))))
 ·obtain⟨y,c3,e3,_,k3⟩:=Jh c2 k2 [(-1),20,21] (by decide) (by decide)
  refine Isb (Itb (Q:=λ r=>r=(y,c3)) e3 rfl) ?_
  exact Igb hr
 ·refine Ihb (Gzb c2 k2) (λ r h=>Igb ⟨h.up (by omega),hr.2⟩)
 ·refine Ihb (X9 c2 k2) (λ r h=>Igb ⟨hr.1,by have:=h.2.1;dsimp only;omega⟩)
 ·obtain⟨s,c3,e3,hs,k3⟩:=My c2 k2
  refine Isb (Itb (Q:=λ r=>r=(s,c3)) e3 rfl) ?_
  exact Iob (by dsimp only at hq60 ⊢;simp only[List.length_cons,List.length_nil];omega) (Igb hr)
 ·refine Ihb (Dga Ae n (by unfold Kf;decide) 61 c2 n.2.2.2 (by omega) k2 hn.2.2 (by dsimp only at hq60;omega)) ?_
  rintro r ⟨c3,q,k3,hq,rfl⟩
  exact Igb hr
def RoW (w:Wld):Prop:=∀ n∈w.2.2.1,Ro 20 n
def B6b {ns:List Nod} (h:∀ n∈ns,Ro 20 n) {i:Nat} {x:Nod} (hx:Ro 20 x):∀ n∈ns.set i x,Ro 20 n:=λ n hn=>by
 rcases Xs hn with hn|rfl
 ·exact h n hn
 ·exact hx
def Hyb {m:Nat} {w:Wld} {c:Cur} (hc:Bj c) (h:WIp m w) (hm:m≤900) (hr:RoW w):Tot (λ k=>Dq k c w w) (λ r=>RoW r.1):=by
 have h':=h
 obtain⟨⟨h1,h2,⟨h3,h4⟩,⟨h5,h6⟩,h7,h8⟩,h0⟩:=h'
 unfold Dq
 refine Ihb (Rx (w:=w) h.1 (by omega)) ?_
 rintro r rfl
 refine Ikb (by omega) ?_
 obtain⟨i,c1,e1,i0,i1,_,k1⟩:=Ad c hc (r.2.2.1.length:Int) (by omega)
 have i1:=i1 (by omega)
 refine Ihb (Itb (Q:=λ r=>r=(i,c1)) e1 rfl) ?_
 rintro _ rfl
 obtain⟨x,c2,e2,_,_,_,k2⟩:=Ad c1 k1 10 (by decide)
 refine Ihb (Itb (Q:=λ r=>r=(x,c2)) e2 rfl) ?_
 rintro _ rfl
 dsimp only
 refine Imb (λ _=>?_) (λ _=>?_)
 ·obtain⟨y,c3,e3,_,k3⟩:=Jh c2 k2 [0,1,2,6] (by decide) (by decide)
  refine Ihb (Itb (Q:=λ r=>r=(y,c3)) e3 rfl) ?_
  rintro _ rfl
  exact Igb hr
 refine Imb (λ _=>?_) (λ _=>?_)
 ·refine Ikb (by omega) (Ihb (E2b c2 k2) ?_)
  rintro⟨n,c3⟩ g1
  exact Ikb i0 (Ikb i1 (Igb (B6b hr g1)))
 refine Imb (λ _=>?_) (λ _=>?_)
 ·obtain⟨y,c3,e3,k3⟩:=F1a c2 k2
  refine Ihb (Itb (Q:=λ r=>r=(y,c3)) e3 rfl) ?_
  rintro _ rfl
  exact Igb hr
 refine Imb (λ _=>?_) (λ _=>?_)
 ·exact Inb (λ _=>Ikb (by omega) (Igb hr)) (λ _=>Igb hr)
 refine Imb (λ _=>?_) (λ _=>?_)
 ·obtain⟨s,c3,e3,hs,k3⟩:=My c2 k2
  refine Ihb (Itb (Q:=λ r=>r=(s,c3)) e3 rfl) ?_
  rintro _ rfl
  refine Ihb (I0a c3 k3) ?_
  rintro⟨f,c4⟩ ⟨⟨g0,g1⟩,k4⟩
  exact Iob (by simp only[Vc,Vi];omega) (Igb hr)
 refine Imb (λ _=>?_) (λ _=>?_)
 ·obtain⟨s,c3,e3,hs,k3⟩:=My c2 k2
  refine Ihb (Itb (Q:=λ r=>r=(s,c3)) e3 rfl) ?_
  rintro _ rfl
  exact Iob (by simp only[Vc,Vi];omega) (Igb hr)
 refine Imb (λ _=>?_) (λ _=>?_)
 ·have hm:=hr _ (A4 (d:=Ae) (show i.toNat<r.2.2.1.length by omega))
  exact Ikb (by omega) (Ikb i0 (Ikb i1 (Igb (B6b hr ⟨⟨Vs _,Vs _⟩,hm.2⟩))))
 refine Imb (λ _=>?_) (λ _=>Igb hr)
 refine Inb (λ hd=>?_) (λ _=>Igb hr)
 obtain⟨y,c3,e3,_,k3⟩:=Jh c2 k2 [0,5,21] (by decide) (by decide)
 refine Ihb (Itb (Q:=λ r=>r=(y,c3)) e3 rfl) ?_
 rintro _ rfl
 exact Ikb (by omega) (Igb hr)
def Ixa {nm:List ByteArray} {l:List Nmd} (hs:D5 l) (h:∀ x∈l,x.1∈nm):l.length≤nm.length:=by
 have hp:(l.map (·.1)).Pairwise (λ a b=>tlt a b=true):=Zh.2 hs
 have hd:(l.map (·.1)).Nodup:=hp.imp (λ {a b} hab e=>by subst e;rw[G8]at hab;cases hab)
 have:=Q1 _ nm hd (λ s hs=>by obtain⟨x,hx,rfl⟩:=Yw.1 hs;exact h x hx)
 rwa [Wc]at this
def E3b {nm:List ByteArray} {ws:List Wri} (hN:∀ x∈ws,x.1∈nm) {a:List Row} (hs:Bo a) (h:∀ r∈a,Us ws r=true):a.length≤nm.length:=by
 have hp:(a.map (·.1)).Pairwise (λ a b=>tlt a b=true):=Zh.2 hs
 have hd:(a.map (·.1)).Nodup:=hp.imp (λ {a b} hab e=>by subst e;rw[G8]at hab;cases hab)
 have:=Q1 _ nm hd (λ s hs=>by
  obtain⟨r,hr,rfl⟩:=Yw.1 hs
  obtain⟨x,hx,rfl⟩:=Rw.1 (h r hr)
  exact hN x hx)
 rwa [Wc]at this
def WD.ro {w:Wld} (h:WD w):RoW w:=λ n hn=>by
 have hni:=h.1.nodes n hn
 have hF:Fsa Ld w.2.2.2.2.1:=⟨by decide,h.2⟩
 obtain⟨n1,n2⟩:=Oia hF hni.1.g.1 hni.2.1
 have a:=Ixa (Kk hni.1.g.1) n1
 have b:=Ixa (Oq hni.1.g.1) n2
 have c:=E3b h.2 hni.rows hni.2.2.1
 have e:Ld.length=6:=rfl
 exact⟨⟨by omega,by omega⟩,by omega⟩
def E4b (c:Cur) (hc:Bj c) (n:Int) (hn:n≤1000):Tot (λ k=>I5 k c n) (λ r=>RoW r.1):=by
 unfold I5
 refine Ihb (Xk (I:=WD) (λ _ h=>h.1) (λ _ _ h hb hn=>h.ev hb hn) (λ _ _ _ hb=>⟨Vda hb,λ x hx=>nomatch hx⟩) c hc n hn) ?_
 rintro⟨w,c1⟩ ⟨h,k1⟩
 dsimp only at h k1 ⊢
 obtain⟨b,c2,e2,k2⟩:=Ks c1 k1 8 (by decide)
 refine Isb (Itb (Q:=λ r=>r=(b,c2)) e2 rfl) ?_
 refine Imb (λ _=>?_) (λ _=>Igb h.ro)
 refine Ihb (Hyb k2 (m:=200) ⟨h.1.wim,by have:=h.1.nlen;have:=h.1.dlen;omega⟩ (by decide) h.ro) ?_
 intro r g
 exact Igb g

def H0b (ns:List Nod) (s:ByteArray) (T:Stp):Prop:=(∀ m,m<ns.length→∀ o,oN ns m s=some o→sle T o.1=false)∧∃ m,m<ns.length∧∃ o,oN ns m s=some o∧o.1=T
def H0b.set {ns:List Nod} {s:ByteArray} {T:Stp} (h:H0b ns s T) {p:Nat} (hp:p<ns.length) {x:Nod} (hx:old x.2.1 s=oN ns p s∨∃ f,old x.2.1 s=some f∧sle T f.1=false∧∀ o,oN ns p s=some o→sle o.1 f.1=true):H0b (ns.set p x) s T:=by
 have e:∀ m,m<ns.length→oN (ns.set p x) m s=if p=m then old x.2.1 s else oN ns m s:=λ m hm=>by
  unfold oN
  rw[Hs hm]
  by_cases h:p=m
  ·rw[if_pos h,if_pos h]
  ·rw[if_neg h,if_neg h]
 obtain⟨h1,m,hm,o,h2,h3⟩:=h
 refine⟨λ m hm o ho=>?_,m,by rw[Vy];exact hm,?_⟩
 ·rw[Vy]at hm
  rw[e m hm]at ho
  by_cases hpm:p=m
  ·rw[if_pos hpm]at ho
   rcases hx with hx|⟨f,hx,hf,_⟩
   ·rw[hx]at ho;exact h1 p hp o ho
   ·rw[hx]at ho;cases ho;exact hf
  ·rw[if_neg hpm]at ho;exact h1 m hm o ho
 ·rw[e m hm]
  by_cases hpm:p=m
  ·subst hpm
   rw[if_pos rfl]
   rcases hx with hx|⟨f,hx,hf,hl⟩
   ·rw[hx];exact⟨o,h2,h3⟩
   ·have:=hl o h2
    rw[h3,hf]at this
    cases this
  ·rw[if_neg hpm];exact⟨o,h2,h3⟩

def Zha {d:Dsk} {s:ByteArray} {f:Fil} (hd:DG d) (h:old d s=some f):As s=true∧D9 f=true∧Ai f.2.2:=by
 unfold old at h
 cases hg:gt d.1 s with
 |none=>rw[hg]at h;cases h
 |some b=>
  rw[hg]at h
  have h1:=(Aj.1 (Df.1 hd.1).1).2.1 _ (Ob hg)
  unfold nOk at h1
  rw[Va]at h1
  exact⟨h1.1,Iwa h⟩
def Lat (ns ms:List Nod) (s:ByteArray):Prop:=(∀ T,H0b ns s T→H0b ms s T)∧((∀ m,m<ns.length→oN ns m s=none)→∀ m,m<ms.length→oN ms m s=none)
def Lat.refl (ns:List Nod) (s:ByteArray):Lat ns ns s:=⟨λ _ h=>h,λ h=>h⟩
def Lat.trans {a b c:List Nod} {s:ByteArray} (h1:Lat a b s) (h2:Lat b c s):Lat a c s:=⟨λ T h=>h2.1 T (h1.1 T h),λ h=>h2.2 (h1.2 h)⟩
def Lat.same {ns ms:List Nod} {s:ByteArray} (hl:ms.length=ns.length) (h:∀ m,m<ns.length→oN ms m s=oN ns m s):Lat ns ms s:=
 ⟨λ T ⟨h1,m,hm,o,h2,h3⟩=>⟨λ m hm o ho=>h1 m (by omega) o (by rw[← h m (by omega)];exact ho),m,by omega,o,by rw[h m hm];exact h2,h3⟩,λ hn m hm=>by rw[h m (by omega)];exact hn m (by omega)⟩

def byH (w:Wld) (i:Int) (r:Bool×Wld):Wld×Bool:=bif Pz w&&inR i 0 ((w.2.2.1.length:Int)-1) then (bif r.1 then (r.2,true) else (w,false)) else (w,false)
def Fra {w:Wld} {i:Int} {r:Bool×Wld} (h:(byH w i r).2=true):Pz w=true∧0≤i∧i<(w.2.2.1.length:Int)∧r.1=true∧byH w i r=(r.2,true):=by
 unfold byH at h ⊢
 cases hk:Pz w&&inR i 0 ((w.2.2.1.length:Int)-1)
 ·rw[hk]at h;cases h
 rw[hk,cond_true]at h
 rw[cond_true]
 rw[Va,Co]at hk
 cases hr:r.1
 ·rw[hr]at h;cases h
 exact⟨hk.1,hk.2.1,by omega,rfl,rfl⟩
def W1a {w:Wld} {i:Int} {r:Bool×Wld} (h:(byH w i r).2=false):byH w i r=(w,false):=by
 unfold byH at h ⊢
 cases hk:Pz w&&inR i 0 ((w.2.2.1.length:Int)-1)
 ·rfl
 rw[hk,cond_true]at h
 rw[cond_true]
 cases hr:r.1
 ·rfl
 rw[hr]at h;cases h
def Qia {w:Wld} (hw:WIn w) (i:Int):Tot (λ k=>Jk k w i) (λ r=>r=(Pz w&&inR i 0 ((w.2.2.1.length:Int)-1))):=by
 have hl:=hw.2.2.1.1
 unfold Jk
 refine Ihb (Bha w hw) ?_
 rintro _ rfl
 cases Pz w with
 |false=>exact Iib rfl (Igb rfl)
 |true=>
  refine Ijb rfl ?_
  rw[w64 (n:=(w.2.2.1.length:Int)-1) (by omega) (by omega)]
  simp only[Ue,Vm]
  exact Igb rfl
def W2a {w:Wld} (hw:WIn w) (i:Int):Tot (λ k=>Hf k w i) (λ r=>r=(Pz w&&inR i 0 ((w.2.2.1.length:Int)-1))):=by
 have hl:=hw.2.2.1.1
 unfold Hf
 refine Ihb (Uya w hw) ?_
 rintro _ rfl
 cases Pz w with
 |false=>exact Iib rfl (Igb rfl)
 |true=>
  refine Ijb rfl ?_
  rw[w64 (n:=(w.2.2.1.length:Int)-1) (by omega) (by omega)]
  simp only[Nj,Vm]
  exact Igb rfl
section
variable {m:Nat} {w:Wld}
def Zia (h:WIm m w) (hm:m≤1999000) (i:Int) {f:Nat→Wld→Option (Bool×Wld)} {r:Bool×Wld} (hf:WO w→∀ j:Nat,i=(j:Int)→j<w.2.2.1.length→Tot (λ k=>f k w) (λ x=>x=r)):
  Tot (λ k=>(Aw k w).bind λ r1=>(Jk k w i).bind λ r2=>cond (!r2) ((Aw k w).bind λ r3=>some (r3,false)) ((f k r1).bind λ r4=>cond (!r4.1) ((Aw k w).bind λ r5=>some (r5,false)) (some (r4.2,true)))) (λ x=>x=byH w i r):=by
 have hw:=h.win (by omega)
 refine Ihb (Bma h (by omega)) ?_
 rintro v rfl
 refine Ihb (Qia hw i) ?_
 rintro _ rfl
 unfold byH
 cases hk:Pz v&&inR i 0 ((v.2.2.1.length:Int)-1) with
 |false=>
  refine Ijb rfl (Ihb (Bma h (by omega)) ?_)
  rintro _ rfl
  exact Igb rfl
 |true=>
  rw[Va,Co]at hk
  refine Iib rfl (Ihb (hf (h.wo hk.1) i.toNat (by omega) (by omega)) ?_)
  rintro r rfl
  cases hr:r.1 with
  |false=>
   refine Ijb rfl (Ihb (Bma h (by omega)) ?_)
   rintro _ rfl
   exact Igb rfl
  |true=>exact Iib rfl (Igb rfl)
def Zja (h:WIm m w) (hm:m≤1999000) (i:Int) {f:Nat→Wld→Option (Bool×Wld)} {r:Bool×Wld} (hf:WO w→∀ j:Nat,i=(j:Int)→j<w.2.2.1.length→Tot (λ k=>f k w) (λ x=>x=r)):
  Tot (λ k=>(B3 k w).bind λ r1=>(Hf k w i).bind λ r2=>cond (!r2) ((B3 k w).bind λ r3=>some (r3,false)) ((f k r1).bind λ r4=>cond (!r4.1) ((B3 k w).bind λ r5=>some (r5,false)) (some (r4.2,true)))) (λ x=>x=byH w i r):=by
 have hw:=h.win (by omega)
 refine Ihb (Rx h (by omega)) ?_
 rintro v rfl
 refine Ihb (W2a hw i) ?_
 rintro _ rfl
 unfold byH
 cases hk:Pz v&&inR i 0 ((v.2.2.1.length:Int)-1) with
 |false=>
  refine Ijb rfl (Ihb (Rx h (by omega)) ?_)
  rintro _ rfl
  exact Igb rfl
 |true=>
  rw[Va,Co]at hk
  refine Iib rfl (Ihb (hf (h.wo hk.1) i.toNat (by omega) (by omega)) ?_)
  rintro r rfl
  cases hr:r.1 with
  |false=>
   refine Ijb rfl (Ihb (Rx h (by omega)) ?_)
   rintro _ rfl
   exact Igb rfl
  |true=>exact Iib rfl (Igb rfl)
def Iya (h:WIm m w) (hm:m≤1999000) (i:Int) (s:ByteArray) (rc:List Int):Tot (λ k=>Ia k w i s rc) (λ r=>r=byH w i (Lu w i.toNat s rc)):=
 Zia h hm i (f:=λ k w=>Ah k w i s rc) (λ ho j e hj=>by subst e;exact Z7a w j s rc ho.ring ho.ns hj)
def W3a (h:WIm m w) (hm:m≤1999000) (i:Int) (s:ByteArray) (rc:List Int):Tot (λ k=>Iy k w i s rc) (λ r=>r=byH w i (Lu w i.toNat s rc)):=
 Zja h hm i (f:=λ k w=>Bf k w i s rc) (λ ho j e hj=>by subst e;exact O7a w j s rc ho.ring ho.ns hj)
end
def Qja (c:Cur) (hc:Bj c) (w:Wld) (hn:w.2.2.1.length≤2000000):∃ i c',Fu c w w=some (i,c',w)∧Bj c':=by
 obtain⟨b,c1,e1,k1⟩:=Ks c hc 12 (by decide)
 obtain⟨x,c2,e2,_,k2⟩:=Jh c1 k1 [(-1),12] (by decide) (by decide)
 obtain⟨y,c3,e3,_,_,_,k3⟩:=Ad c1 k1 (w.2.2.1.length:Int) (by omega)
 unfold Fu
 simp only[e1,e2,e3,Vm]
 cases b with
 |true=>exact⟨x,c2,rfl,k2⟩
 |false=>
  cases (w.2.2.1.length:Int)==0 with
  |true=>exact⟨x,c2,rfl,k2⟩
  |false=>exact⟨y,c3,rfl,k3⟩
def B7b (l:List Nmd):∀ (r:List Nmd) (j:Nat) (out:List ByteArray),(hS l r j out).length≤out.length+r.length
 |[],_,out=>Vv _
 |x::r,j,out=>by
  have h1:=B7b l r (j+1) (hS1 l j out x)
  have h2:=L6a l j out x
  show (hS l r (j+1) (hS1 l j out x)).length≤_
  rw[Vc]
  omega
def W4a (d:Dsk):(Fba d).length≤d.1.length:=by
 have:=B7b d.1 d.1 0 []
 rw[Vi,Wk]at this
 exact this
def E5b (c:Cur) (hc:Bj c) (n:Int) (hn:n≤1000):Tot (λ k=>I5 k c n) (λ r=>(WIp 201 r.1∧Bj r.2)∧RoW r.1):=(Qca c hc n hn).and (E4b c hc n hn)
def Iza (a:List Int) (hb:(a.length:Int)≤1048576):Tot (λ k=>Dr k a) (λ r=>WIp 201 r.1∧RoW r.1):=by
 unfold Dr
 refine Ihb (Tba a hb) ?_
 intro c hc
 obtain⟨n,e,n0,n1⟩:=Z5a a hb 24 (by decide)
 refine Ihb (Itb (Q:=λ r=>r=n) e rfl) ?_
 rintro _ rfl
 refine Ihb (E5b c hc _ (by omega)) ?_
 rintro⟨w,c1⟩ ⟨⟨hp,k1⟩,hr⟩
 dsimp only at hp k1 hr ⊢
 have hl:=hp.1.2.2.1.1
 obtain⟨i,c2,e2,k2⟩:=Qja c1 k1 w hl
 refine Ihb (Itb (Q:=λ r=>r=(i,c2,w)) e2 rfl) ?_
 rintro _ rfl
 obtain⟨s,c3,e3,_,k3⟩:=M5 c2 k2
 refine Ihb (Itb (Q:=λ r=>r=(s,c3)) e3 rfl) ?_
 rintro _ rfl
 have fin:∀ {c:Cur},Bj c→∀ t:ByteArray,Tot (λ k=>(Hk k c).bind λ r12=>some (w,i,t,r12.1)) (λ r=>WIp 201 r.1∧RoW r.1):=λ {c} kc t=>by
  refine Ihb (Qda c kc) ?_
  intro r _
  exact Igb ⟨hp,hr⟩
 dsimp only
 rw[w64 (n:=(w.2.2.1.length:Int)-1) (by omega) (by omega)]
 simp only[Nj,Vm]
 cases hi:inR i 0 ((w.2.2.1.length:Int)-1) with
 |false=>exact Iib rfl (fin k3 s)
 |true=>
  obtain⟨i0,i1⟩:=Co.1 hi
  have hm:=hp.1.2.2.1.2 _ (A4 (d:=Ae) (show i.toNat<w.2.2.1.length by omega))
  refine Ijb rfl (Ikb i0 (Ikb (by omega) (Ihb (O5a _ hm.1.1 hm.1.2) ?_)))
  rintro l rfl
  have hd:=hm.1.1.2.1
  have hlen:(Fba (w.2.2.1.getD i.toNat ((0:Int),(([],[]),([],[])))).2.1).length≤(w.2.2.1.getD i.toNat Ae).2.1.1.length:=W4a _
  refine Imb (λ hg=>?_) (λ _=>fin k3 s)
  obtain⟨b,c4,e4,k4⟩:=Ks c3 k3 4 (by decide)
  refine Ihb (Itb (Q:=λ r=>r=(b,c4)) e4 rfl) ?_
  rintro _ rfl
  have hg':=of_decide_eq_true hg
  obtain⟨y,c5,e5,y0,y1,_,k5⟩:=Ad c4 k4 ((Fba (w.2.2.1.getD i.toNat ((0:Int),(([],[]),([],[])))).2.1).length:Int) (by omega)
  have y1:=y1 (by omega)
  refine Imb (λ _=>?_) (λ _=>fin k4 s)
  refine Ihb (Itb (Q:=λ r=>r=(y,c5)) e5 rfl) ?_
  rintro _ rfl
  exact Ikb y0 (Ikb (by dsimp only;omega) (fin k5 _))
def Hzb {n:Nod} (h:Ro 20 n) (s:ByteArray):Rm n.2.1 s:=by
 have h1:(cut n.2.1.1 s).length≤n.2.1.1.length:=Ksb _ _
 have h2:(cut n.2.1.2 s).length≤n.2.1.2.length:=Ksb _ _
 have:=h.1.1
 have:=h.1.2
 exact⟨by omega,by omega⟩
def RoW.rm {w:Wld} (h:RoW w) (s:ByteArray) (m:Nat) (hm:m<w.2.2.1.length):Rm (w.2.2.1.getD m Ae).2.1 s:=Hzb (h _ (A4 hm)) s
def E6b:R5 [1,1,1,1,1]:=λ j hj=>by
 match j,hj with
 |0,_=>rfl
 |1,_=>rfl
 |2,_=>rfl
 |3,_=>rfl
 |4,_=>rfl
def E7b {ns ms:List Nod} (h:ms.map (·.1)=ns.map (·.1)) (k:Nat):(ms.getD k Ae).1=(ns.getD k Ae).1:=by
 have e:∀ l:List Nod,(l.getD k Ae).1=(l.map (·.1)).getD k 0:=λ l=>by
  rw[Vb,Vb,J0b]
  cases l[k]? <;> rfl
 rw[e,e,h]

end Go.Proofs.YtiiekghlhfbmmaaGreat.Vf

section
set_option linter.unusedVariables false
set_option linter.unusedSimpArgs false
namespace Go.Proofs.YtiiekghlhfbmmaaGreat.Pure
open Go Go.RowKit Go.Proofs.YtiiekghlhfbmmaaGreat.Vf
theorem W5a (l:List Int) (n:Int) (hl:l.length≤1000000000):Tot (λ k=>Ma k l n) (λ r=>r=Lh l n):=by
 unfold Ma Lh
 refine Ihb (Q:=λ r=>r=bif l.any (· == n) then .inl true else .inr ()) ?_ (by
  rintro r rfl
  cases l.any (· == n)<;>exact Igb rfl)
 rw[Uwa _ 0]
 refine Irb (L:=λ k i=>Kd k l n i) _ _ () ?_ ?_
 ·simp (disch:=omega) only [Kd,dF]
  exact Igb rfl
 ·intro j hj Q yes no
  simp (disch:=omega) only [Kd,dT,Vd,w64]
  exact Imb (λ h1=>Igb (yes h1)) (λ h1=>no h1)
theorem Zka {w x y:Wld} {i:Int} {s:ByteArray} {f:Fil} {p:List Int} (hp:p.length≤3000000) (hy:WO y) (h:∀ m,m<y.2.2.1.length→Lh p (y.2.2.1.getD m Ae).1=true→∃ g,oN y.2.2.1 m s=some g∧sle g.1 f.1=false):
  Tot (λ k=>Ca k i s p 0 w x y f) (λ r=>r = .inr (i,s,p,w,x,y)):=by
 have hn:=hy.ns
 refine Ipb (L:=λ k j (_:Unit)=>Ca k i s p j w x y f) (Q:=λ r=>r = .inr (i,s,p,w,x,y)) y.2.2.1.length (λ _ _=>True) ?_ ?_ 0 () (Vs _) trivial
 ·intro _ _
  simp (disch:=omega) only [Ca,dF]
  exact Igb rfl
 ·intro j _ hj _ next
  have hnl:=hn.1
  have hm:=Py (hn.get hj)
  have hh:=h j hj
  have e0:y.2.2.1.getD j ((0:Int),(([],[]),([],[])))=y.2.2.1.getD j Ae:=rfl
  simp (disch:=omega) only [Ca,dT,Vd,w64,e0]
  refine Isb (Y9 hm.1.1.1.1.1 hm.1.2.1 s) (Isb (W5a p _ (by omega)) ?_)
  cases hc:Lh p (y.2.2.1.getD j Ae).1 with
  |false=>exact Iib rfl (next () trivial)
  |true=>
   obtain⟨g,g1,g2⟩:=hh hc
   have hl:=Boa (show old (y.2.2.1.getD j Ae).2.1 s=some g from g1)
   refine Ijb rfl ?_
   rw[hl]
   simp only[Hua,Vm]
   exact Iib rfl (Iib g2 (next () trivial))
theorem W6a (w:Wld) (i:Nat) (s:ByteArray) (rc rd:List Int):(Lu w i s rc).1=(Lu w i s rd).1:=by
 unfold Lu
 cases (lkD (w.2.2.1.getD i Ae).2.1 s).2 != 0<;>rfl
theorem FnPushed:∀ (a0:List Int),Ty.fit ti (.sl 5 (.i .u8)) a0→∃ k,Ec k a0=some true:=by
 intro a0 _
 refine Tot.law (f:=λ k=>Ec k a0) ?_
 unfold Ec Nt
 refine Ihb (Igb (Q:=λ b=>b=decide ((List.length a0:Int) > 1048576)) rfl) ?_
 rintro b rfl
 refine Inb (λ _=>Igb rfl) (λ hb=>?_)
 refine Ihb (Iza a0 (by omega)) ?_
 rintro⟨w,i,s,rc⟩ ⟨hp,hro⟩
 dsimp only at hp hro ⊢
 have hm:=hp.1
 have hml:(201:Nat)≤1999000:=by decide
 refine Ihb (Iya hm hml i s rc) ?_
 rintro _ rfl
 refine Ihb (W3a hm hml i s rc) ?_
 rintro _ rfl
 refine Iib (by rw[beq_self_eq_true];rfl) ?_
 have same:(byH w i (Lu w i.toNat s [1,1,1,1,1])).2=(byH w i (Lu w i.toNat s rc)).2:=by
  unfold byH
  rw[W6a w i.toNat s [1,1,1,1,1] rc]
  cases Pz w&&inR i 0 ((w.2.2.1.length:Int)-1) with
  |false=>rfl
  |true=>cases (Lu w i.toNat s rc).1<;>rfl
 have hlen:(byH w i (Lu w i.toNat s rc)).1.2.2.1.length=w.2.2.1.length:=by
  cases hg:(byH w i (Lu w i.toNat s rc)).2 with
  |false=>rw[W1a hg]
  |true=>
   obtain⟨hk,i0,i1,_,e⟩:=Fra hg
   rw[e]
   exact(Lga (hm.wo hk) (show i.toNat<w.2.2.1.length by omega) s rc).len
 refine Iib (by rw[bne,hlen,beq_self_eq_true];rfl) (Ihb (Iya hm hml i s [1,1,1,1,1]) ?_)
 rintro _ rfl
 refine Iib (by rw[same,beq_self_eq_true];rfl) ?_
 cases hg:(byH w i (Lu w i.toNat s rc)).2 with
 |false=>exact Ijb rfl (Igb (by rw[same,hg];rfl))
 |true=>
  have hg2:(byH w i (Lu w i.toNat s [1,1,1,1,1])).2=true:=same.trans hg
  obtain⟨hk,i0,i1,hgd,e1⟩:=Fra hg
  obtain⟨_,_,_,_,e2⟩:=Fra hg2
  rw[e1,e2]
  obtain⟨n,rfl⟩:∃ n:Nat,i=(n:Int):=⟨i.toNat,by omega⟩
  have hn:n<w.2.2.1.length:=by omega
  have ho:=hm.wo hk
  have et:Int.toNat (n:Int)=n:=Vd n
  rw[et]at hgd ⊢
  have hold:∃ f,oN w.2.2.1 n s=some f:=by
   have h0:((lkD (w.2.2.1.getD n Ae).2.1 s).2==0)=true:=by
    unfold Lu at hgd
    cases hq:(lkD (w.2.2.1.getD n Ae).2.1 s).2==0 with
    |true=>rfl
    |false=>rw[bne,hq]at hgd;cases hgd
   rw[Dvb]at h0
   exact Zi.1 h0
  obtain⟨f,hf⟩:=hold
  have hni:=ho.ns.get hn
  have hnn:=Py hni
  obtain⟨hsn,_,_⟩:=Zha hni.g hf
  obtain⟨q1,q2⟩:=Qga ho hn E6b (hro.rm s) hsn hf
  have nx:=Lga ho hn s rc
  have ny:=Lga ho hn s [1,1,1,1,1]
  generalize (Lu w n s rc).2=x at *
  generalize (Lu w n s [1,1,1,1,1]).2=y at *
  have hx:=nx.wo ho
  have hy:=ny.wo ho
  have wx:=(hx.wim (m:=201) (by decide) (by rw[nx.sp];exact hm.2.2.2.2.1)).win (by decide)
  have wy:=(hy.wim (m:=201) (by decide) (by rw[ny.sp];exact hm.2.2.2.2.1)).win (by decide)
  have hyl:=ny.len
  have hpl:=Sm (Mn ho.ring) s
  have hids:∀ k,(y.2.2.1.getD k Ae).1=(w.2.2.1.getD k Ae).1:=E7b (by obtain⟨ns,e,h2⟩:=ny;rw[e];exact h2.2)
  have hinp:∀ k,k<w.2.2.1.length→Lh (Sp w.2.1 s) (w.2.2.1.getD k Ae).1=inP w s k:=λ k hk=>(Oha hk).symm
  refine Iib rfl (Ikb (by omega) (Ikb (by omega) (Ihb (Y9 hnn.1.1.1.1.1 hnn.1.2.1 s) ?_)))
  rintro _ rfl
  rw[Boa (show old (w.2.2.1.getD n Ae).2.1 s=some f from hf)]
  refine Ihb (O6a _ s (Mn ho.ring) (Vja hsn)) ?_
  rintro _ rfl
  dsimp only
  refine Ihb (Zka (w:=w) (x:=x) (i:=(n:Int)) (f:=f) (by omega) hy (λ m hm' hc=>?_)) ?_
  ·rw[hids,hinp m (by omega)]at hc
   exact q1 m (by omega) hc
  rintro _ rfl
  dsimp only[Sum.elim]
  have hyn:=Py (hy.ns.get (show n<y.2.2.1.length by omega))
  refine Ikb (by omega) (Ikb (by omega) (Ihb (Y9 hyn.1.1.1.1.1 hyn.1.2.1 s) ?_))
  rintro _ rfl
  refine Ikb (by omega) (Ikb (by omega) (Ihb (W5a _ _ (by omega)) ?_))
  rintro _ rfl
  refine Ijb ?_ (Ihb (Bha x wx) ?_)
  ·rw[Dvb]
   show ((oN y.2.2.1 n s).isSome==Lh (Sp w.2.1 s) (w.2.2.1.getD n Ae).1)=true
   rw[q2,hinp n hn,beq_self_eq_true]
  rintro _ rfl
  refine Ijb hx.ok (Ihb (Bha y wy) ?_)
  rintro _ rfl
  exact Igb hy.ok
end Go.Proofs.YtiiekghlhfbmmaaGreat.Pure
end
