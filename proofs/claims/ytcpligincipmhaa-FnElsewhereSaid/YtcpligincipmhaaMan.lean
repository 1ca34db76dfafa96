import Derived.Test.YtcpligincipmhaaMam
import Derived.Test.YtcpligincipmhaaMaj
set_option linter.all false
namespace Go.Proofs.Ytcpligincipmhaa.Vf
open Go
open List (length getD)
open Int (toNat)
open Go.IntKind (wrap)
open BitVec (ofInt)
def Bab:=@Bool.or_false
def Dyb:=@List.any_append
def E4b:=@List.any_nil

def W5 (nm:List ByteArray) (ws:List Wri):Prop:=nm.length≤60∧∀ x∈ws,x.1∈nm
def W6 {nm:List ByteArray} {l:List Nmd} (hs:Ct l) (h:∀ x∈l,x.1∈nm) (hn:nm.length≤60):l.length≤60:=by
 have hp:(l.map (·.1)).Pairwise (λ a b=>tlt a b=true):=Zi.2 hs;have hd:(l.map (·.1)).Nodup:=hp.imp (λ {a b} hab e=>by subst e;rw[Eu]at hab;cases hab);have:=Pr _ nm hd (λ s hs=>by obtain⟨x,hx,rfl⟩:=Ys.1 hs;exact h x hx);rw[Vz]at this;omega
def Txa {nm:List ByteArray} {l:List Nmd} {s:ByteArray} {b:List Int} (hl:Ct l) (h:∀ x∈l,x.1∈nm) (hs:s∈nm) (hn:nm.length≤60):(wr l s b).length≤60:=by
 have hso:Ct (wr l s b):=No (Iy hl) Th;refine W6 hso (λ x hx=>?_) hn;have hg:=Era hso hx;rw[Y7 hl]at hg
 by_cases e:s=x.1
 ·rw[← e];exact hs
 ·rw[if_neg e]at hg;exact h _ (Jf hg)
section
variable {nm:List ByteArray} {ws:List Wri} {sp:List ByteArray} {d:Dsk} {s:ByteArray} {f:Fil}
def Oaa (hN:W5 nm ws) (hf:IsW ws s f):s∈nm:=by
 obtain⟨x,hx,rfl,_⟩:=hf;exact hN.2 x hx
def S0a (hN:W5 nm ws) (hd:Bx d=true) (h:DI ws sp d):(∀ x∈d.1,x.1∈nm)∧∀ x∈d.2,x.1∈nm:=by
 refine⟨λ x hx=>?_,λ x hx=>?_⟩
 ·obtain⟨f,hf,_⟩:=(h x.1).1 _ (Era (H6 hd) hx);exact Oaa hN hf
 ·obtain⟨f,hf,_⟩:=(h x.1).2.1 _ (Era (Kl hd) hx);exact Oaa hN hf
def Ld (o:Option Fil) (f:Fil):Fil:=match o with
 |some g=>bif sle g.1 f.1 then f else g
 |none=>f
def Faa (o:Option Fil) (f:Fil):Ld (some (Ld o f)) f=Ld o f:=by
 cases o with
 |none=>simp[Ld]
 |some g=>cases h:sle g.1 f.1<;>simp[Ld,h]
def S1a (hw:A0a ws) (hN:W5 nm ws) (hd:DG d) (h:DI ws sp d) (hf:IsW ws s f):
  ((keep d s f true).2=0∨(keep d s f true).2=1)∧∀ t,old (keep d s f true).1 t=if s=t then some (Ld (old d s) f) else old d t:=by
 obtain⟨g1,g2,g3⟩:=hf.good hw;have hs:=Oaa hN hf;obtain⟨n1,n2⟩:=S0a hN hd.1 h;have l1:∀ b,(wr d.1 s b).length≤60:=λ b=>Txa (H6 hd.1) n1 hs hN.1;have h2s:Ct d.2:=Kl hd.1
 have l2:∀ l:List Nmd,(sy (l,d.2) s).length≤60:=λ l=>by
  unfold sy
  cases gt l s with
  |some b=>exact Txa h2s n2 hs hN.1
  |none=>exact W6 (Iy h2s) (λ x hx=>n2 x (Bcb.1 hx).1) hN.1
 rw[N2 hd.1 g1 g2];rcases Np (f:=f) (sure:=true) hd g1 with k|⟨o,h1,h2,h3,_,h5⟩|⟨h1,_,h3,_,h5⟩
 ·exfalso
  have hwr:wrD d s (Gc f)=((wr d.1 s (Gc f),d.2),true):=by
   unfold wrD;rw[decide_eq_true (show (Gc f).length≤400 by have:=Ru f;omega),decide_eq_true (l1 _)];rfl
  have hsy:∀ l:List Nmd,(syD (l,d.2) s).2=true:=λ l=>by
   unfold syD;rw[decide_eq_true (l2 l)];rfl
  have k2:∀ (l:List Nmd) (c:Int),(kp2 d s true ((l,d.2),c)).2=c:=λ l c=>by
   unfold kp2;rw[cond_true,hsy l];rfl
  have k3:=congrArg Prod.snd k;unfold Ii kp1 at k3;rw[hwr]at k3
  cases ho:old d s with
  |none=>
   rw[ho]at k3;have:(kp2 d s true ((wr d.1 s (Gc f),d.2),0)).2=3:=k3;rw[k2]at this;cases this
  |some o=>
   rw[ho]at k3
   cases hc:sle o.1 f.1 with
   |true=>
    simp only[hc,cond_true]at k3;rw[k2]at k3;cases k3
   |false=>
    simp only[hc,cond_false]at k3;have:(kp2 d s true ((d.1,d.2),1)).2=3:=k3;rw[k2]at this;cases this
 ·refine⟨.inr h3,λ t=>?_⟩;rcases h5 with⟨c,_⟩|⟨_,e⟩
  ·cases c
  ·rw[e];show old d t=_
   by_cases hst:s=t
   ·subst hst;rw[if_pos rfl,h1];simp[Ld,h2]
   ·rw[if_neg hst]
 ·refine⟨.inl h3,λ t=>?_⟩;rcases h5 with⟨c,_⟩|⟨_,e⟩
  ·cases c
  ·rw[e];show (gt (wr d.1 s (Gc f)) t).bind Je=_;rw[Y7 (H6 hd.1)]
   by_cases hst:s=t
   ·rw[if_pos hst,if_pos hst,Vt,M2 g2 g3]
    cases ho:old d s with
    |none=>rfl
    |some o=>simp[Ld,h1 o ho]
   ·rw[if_neg hst,if_neg hst];rfl
end
def Oba {d:Dsk} {s:ByteArray} (hd:DG d) (hg:(gt d.1 s).isSome=true) (t:ByteArray):old (syD (rmD d s).1 s).1 t=if s=t then none else old d t:=by
 have e1:(syD (rmD d s).1 s).1.1=cut d.1 s:=by
  have e:(rmD d s).1=(cut d.1 s,d.2):=by unfold rmD;rw[hg];rfl
  rw[e];unfold syD
  cases decide ((sy (cut d.1 s,d.2) s).length≤60)<;>rfl
 unfold old;rw[e1,Pl (H6 hd.1)]
 by_cases h:s=t
 ·rw[if_pos h,if_pos h];rfl
 ·rw[if_neg h,if_neg h]
def Cya {d:Dsk} (hd:DG d) (t:ByteArray):old (It d).1 t=old d t:=by
 obtain⟨_,h⟩:=Oj d.1 (d,0) hd;unfold old
 by_cases hb:t∈Z1 d.1
 ·obtain⟨b,h1,h2⟩:=(Hda hd.1).1 hb;rw[show gt (It d).1.1 t=none from ((h t).1 hb).1,h1,Vt,h2];rfl
 ·rw[show gt (It d).1.1 t=gt d.1 t from ((h t).2 hb).1]
def Hra {d:Dsk} {s:ByteArray}:((lkD d s).2 != 0)=(old d s).isNone:=by
 unfold lkD old
 cases gt d.1 s with
 |none=>rfl
 |some b=>cases h:Je b<;>simp[h]
def A3a {d:Dsk} {s:ByteArray} {f:Fil} (h:old d s=some f):lkD d s=(f,0):=by
 unfold old at h
 cases hg:gt d.1 s with
 |none=>rw[hg]at h;cases h
 |some b=>rw[hg]at h;exact La.2 ⟨b,hg,h⟩
def Oca (id:Int):∀ {ns ms:List Nod} (i:Nat),ms.map (·.1)=ns.map (·.1)→atN ms id i=atN ns id i
 |[],[],_,_=>rfl
 |n::ns,m::ms,i,h=>by
  rw[Xs,Xs,Yh]at h;unfold atN;rw[h.1,Oca id (i+1) h.2]
 |[],_::_,_,h=>by cases h
 |_::_,[],_,h=>by cases h
def A4a {ns ms:List Nod} (h:ms.map (·.1)=ns.map (·.1)) (ids:List Int):whr ms ids=whr ns ids:=by
 unfold whr;congr 1;funext id;exact Oca id 0 h
def Fba (id:Int):∀ (ns:List Nod) (i:Nat),(ns.map (·.1)).Nodup→(atN ns id i).length≤1
 |[],_,_=>Vw _
 |n::ns,i,h=>by
  rw[Xs,Yl]at h;have ih:=Fba id ns (i+1) h.2;unfold atN
  cases hx:n.1==id with
  |false=>exact ih
  |true=>
   have he:atN ns id (i+1)=[]:=by
    refine Csb.2 λ x hx'=>?_;obtain⟨j,h1,h2,_⟩:=(Qn id ns (i+1) x).1 hx';refine h.1 ?_;rw[eq_of_beq hx,← h2];exact Ye (A3 h1)
   rw[cond_true,he];exact Vv _
def Fca {ns:List Nod} (h:(ns.map (·.1)).Nodup):∀ (ids:List Int),(whr ns ids).length≤ids.length
 |[]=>Vw _
 |id::ids=>by
  rw[Po,Vi,Vh];have:=Fba id ns 0 h;have:=Fca h ids;omega
def WO.nodup {w:Wld} (h:WO w):(w.2.2.1.map (·.1)).Nodup:=by
 rw[h.ids];have hp:=(Dl.1 (C2.1 h.ring).1).1;have hq:(w.1.map (·.1)).Pairwise (λ a b=>a<b):=Zi.2 hp;exact hq.imp (λ {a b} hab e=>by omega)
def WO.prim5 {w:Wld} (h:WO w) (s:ByteArray):(Hs w s).length≤5:=by
 have h1:=Fca h.nodup (Km w.2.1 s);have h2:=(M6 h.ring s).2.1;have h3:=(C2.1 h.ring).2.1;unfold Hs;omega
def Z2a {j:Nat} (h:j<12):rch Cy j=1:=by
 unfold rch;rw[decide_eq_true (show j<Cy.length from h)]
 have:Cy.getD j 0=1:=by
  match j,h with
  |0,_|1,_|2,_|3,_|4,_|5,_|6,_|7,_|8,_|9,_|10,_|11,_=>rfl
 rw[this];rfl
def Le {α:Type} (bs:Option α→α→α) (P:Nat→Bool) (i:Nat) (c:Nat→Option α) (m:Nat):Option α:=match c i with
 |none=>c m
 |some f=>bif P m&&!(decide (m=i)) then some (bs (c m) f) else bif decide (m=i)&&!(P i) then none else c m
def oN (ns:List Nod) (m:Nat) (t:ByteArray):Option Fil:=old (ns.getD m Ae).2.1 t
def inP (w:Wld) (t:ByteArray) (m:Nat):Bool:=Hc (Hs w t) (m:Int)
def Wea {nm:List ByteArray} {w:Wld} (h:WI w) (hN:W5 nm w.2.2.2.2.1) {i:Nat} (hi:i<w.2.2.1.length) {s:ByteArray} {f:Fil} (hf:oN w.2.2.1 i s=some f):
  (puN w i s Cy).2.2=true∧(puN w i s Cy).2.1=inP w s i∧NR w.2.2.2.2.1 w.2.2.2.2.2 w.2.2.1 (puN w i s Cy).1∧
  ∀ m,m<w.2.2.1.length→∀ t,oN (puN w i s Cy).1 m t=bif teq s t&&(inP w s m&&!(decide (m=i))) then some (Ld (oN w.2.2.1 m s) f) else oN w.2.2.1 m t:=by
 have h5:=h.wo.prim5 s;have hIW:IsW w.2.2.2.2.1 s f:=ED.now h.wok ((h.nodes _ (A3 (d:=Ae) hi)).2.1 s) hf
 have hlk:(lkD (w.2.2.1.getD i Ae).2.1 s).1=f:=by rw[A3a hf]
 have hat:=λ x=>Ke (w:=w) (s:=s) (x:=x);unfold puN inP;rw[hlk];generalize Hs w s=ps at *
 have key:=H7 (st:=pst (i:Int) s f Cy ps) (n:=ps.length) (a:=(w.2.2.1,false,true)) (λ j (a:List Nod×Bool×Bool)=>a.2.2=true∧a.2.1=Hc (ps.take j) (i:Int)∧NR w.2.2.2.2.1 w.2.2.2.2.2 w.2.2.1 a.1∧
  ∀ m,m<w.2.2.1.length→∀ t,oN a.1 m t=bif teq s t&&(Hc (ps.take j) (m:Int)&&!(decide (m=i))) then some (Ld (oN w.2.2.1 m s) f) else oN w.2.2.1 m t) ?_ ?_
 ·rw[Zf]at key;exact key
 ·exact⟨rfl,rfl,NR.refl h.nodes,λ m _ t=>by
   show _=bif teq s t&&(false&&_) then _ else _
   rw[Ze,Yn]
   rfl⟩
 ·rintro j ⟨ns,o,g⟩ hj ⟨a1,a2,a3,a4⟩;dsimp only at a1 a2 a3 a4;subst a1;have hpx:=hat _ (A3 (d:=0) hj);obtain⟨p,hp⟩:∃ p:Nat,ps.getD j 0=(p:Int):=⟨(ps.getD j 0).toNat,by omega⟩
  have htk:∀ x:Int,Hc (ps.take (j+1)) x=(Hc (ps.take j) x||(p:Int)==x):=λ x=>by
   have e:ps[j]=(p:Int):=by rw[← hp,Vb,Vg hj];rfl
   unfold Hc;rw[Wi hj,Dyb,e,D3b,E4b,Bab]
  have hnl:=a3.len;unfold pst;rw[hp,Vm,Z2a (by omega)]
  cases hpi:(p:Int)==(i:Int) with
  |true=>
   have e:p=i:=by have:=eq_of_beq hpi;omega
   refine⟨rfl,?_,a3,λ m hm t=>?_⟩
   ·show true=_;rw[htk,hpi,Bool.or_true]
   ·show oN ns m t=_;rw[a4 m hm t,htk,e]
    by_cases hmi:m=i
    ·rw[decide_eq_true hmi];simp
    ·rw[show ((i:Int)==(m:Int))=false by rw[beq_eq_false_iff_ne];omega,Bab]
  |false=>
   have e:p≠i:=by intro e;rw[e,beq_self_eq_true]at hpi;cases hpi
   have hpn:p<ns.length:=by omega
   have hni:=a3.1 _ (A3 (d:=Ae) hpn);obtain⟨k1,k2⟩:=S1a h.wok hN hni.1.g hni.2.1 hIW;obtain⟨d1,d2⟩:=F6a (sure:=true) h.wok hni.1.g hni.2.1 hIW
   have hcode:((keep (ns.getD p Ae).2.1 s f true).2 != 0&&(keep (ns.getD p Ae).2.1 s f true).2 != 1)=false:=by
    rcases k1 with k|k<;>rw[k]<;>rfl
   refine⟨?_,?_,a3.set hpn ⟨Tu hni.1,d1,hni.2.2⟩ rfl d2,λ m hm t=>?_⟩
   ·show (bif ((keep (ns.getD p Ae).2.1 s f true).2 != 0&&(keep (ns.getD p Ae).2.1 s f true).2 != 1) then false else true)=true;rw[hcode];rfl
   ·show o=_;rw[a2,htk,hpi,Bab]
   ·show oN (ns.set p _) m t=_;unfold oN;rw[Dx (show m<ns.length by omega),htk]
    by_cases hpm:p=m
    ·subst hpm;rw[if_pos rfl,beq_self_eq_true,Bool.or_true,Wf,decide_eq_false e,Zs,B8b];show old (keep (ns.getD p Ae).2.1 s f true).1 t=_;rw[k2 t];have a4s:=a4 p hm s;have a4t:=a4 p hm t;unfold oN at a4s a4t;rw[decide_eq_false e,Zs,B8b]at a4s a4t
     by_cases hst:s=t
     ·subst hst;rw[if_pos rfl,show teq s s=true from C8.2 rfl,cond_true,a4s,show teq s s=true from C8.2 rfl,Wf]
      cases Hc (ps.take j) (p:Int) with
      |true=>rw[cond_true,Faa]
      |false=>rfl
     ·have ht:teq s t=false:=by cases hq:teq s t with|false=>rfl|true=>exact absurd (C8.1 hq) hst
      rw[if_neg hst,ht,cond_false,a4t,ht,Ze,cond_false]
    ·rw[if_neg hpm,show ((p:Int)==(m:Int))=false by rw[beq_eq_false_iff_ne];omega,Bab];exact a4 m hm t
def WI.push {w:Wld} (h:WI w) {i:Nat} (hi:i<w.2.2.1.length) (s:ByteArray) (rc:List Int):WI (Md w i s rc).2:=h.other' (A1a h.wok h.nodes hi h.ring h.ids)
def S2a {nm:List ByteArray} {w:Wld} (h:WI w) (hN:W5 nm w.2.2.2.2.1) {i:Nat} (hi:i<w.2.2.1.length) (s:ByteArray) {m:Nat} (hm:m<w.2.2.1.length) (t:ByteArray):
  oN (Md w i s Cy).2.2.2.1 m t=bif teq s t then Le Ld (inP w s) i (λ m=>oN w.2.2.1 m s) m else oN w.2.2.1 m t:=by
 have hst:∀ {t:ByteArray},teq s t=true→s=t:=λ h=>C8.1 h;unfold Md;rw[Hra]
 cases ho:oN w.2.2.1 i s with
 |none=>
  have:old (w.2.2.1.getD i Ae).2.1 s=none:=ho;rw[this];show oN w.2.2.1 m t=_
  cases ht:teq s t with
  |false=>rfl
  |true=>rw[cond_true,← hst ht];unfold Le;simp only[ho]
 |some f=>
  have e1:old (w.2.2.1.getD i Ae).2.1 s=some f:=ho;rw[e1];obtain⟨p1,p2,p3,p4⟩:=Wea h hN hi ho;show oN (bif (puN w i s Cy).2.2&&!(puN w i s Cy).2.1 then (puN w i s Cy).1.set i (Wza ((puN w i s Cy).1.getD i Ae) s) else (puN w i s Cy).1) m t=_;rw[p1,p2,Wf];have hlen:=p3.len
  have Cma:Le Ld (inP w s) i (λ m=>oN w.2.2.1 m s) m=bif inP w s m&&!(decide (m=i)) then some (Ld (oN w.2.2.1 m s) f) else bif decide (m=i)&&!(inP w s i) then none else oN w.2.2.1 m s:=by
   unfold Le;simp only[ho]
  cases hin:inP w s i with
  |true=>
   rw[Za,cond_false,p4 m hm t,Cma,hin]
   cases ht:teq s t with
   |false=>rfl
   |true=>
    rw[hst ht,Wf,cond_true,Za,Yn,cond_false]
  |false=>
   rw[Zs,cond_true,Cma,hin];unfold oN;rw[Dx (show m<(puN w i s Cy).1.length by omega)]
   by_cases hmi:i=m
   ·subst hmi;rw[if_pos rfl,hin,Ze,cond_false,decide_eq_true rfl,Zs,Wf,cond_true];have hg:=(p3.1 _ (A3 (d:=Ae) (show i<(puN w i s Cy).1.length by omega))).1.g;have p4s:=p4 i hi s;have p4t:=p4 i hi t;rw[hin,Ze,Yn,cond_false]at p4s p4t
    have hgs:(gt ((puN w i s Cy).1.getD i Ae).2.1.1 s).isSome=true:=by
     have:old ((puN w i s Cy).1.getD i Ae).2.1 s=some f:=p4s.trans ho;unfold old at this
     cases hq:gt ((puN w i s Cy).1.getD i Ae).2.1.1 s with
     |none=>rw[hq]at this;cases this
     |some b=>rfl
    show old (syD (rmD ((puN w i s Cy).1.getD i Ae).2.1 s).1 s).1 t=_;rw[Oba hg hgs t]
    cases ht:teq s t with
    |true=>rw[if_pos (hst ht)];rfl
    |false=>
     rw[if_neg (λ e=>by rw[e,show teq t t=true from C8.2 rfl]at ht;cases ht)];exact p4t
   ·rw[if_neg hmi,decide_eq_false (λ e=>hmi e.symm)];have:=p4 m hm t;unfold oN at this;rw[this,decide_eq_false (λ e=>hmi e.symm)]
    cases ht:teq s t with
    |false=>rfl
    |true=>
     rw[hst ht,Wf,cond_true,Ze,cond_false]

structure BOk {α:Type} (bs:Option α→α→α) (le:α→α→Prop):Prop where
 rf:∀ a,le a a
 tr:∀ {a b c},le a b→le b c→le a c
 up:∀ o f,le f (bs o f)
 ub:∀ g f,le g (bs (some g) f)
 oo:∀ o f,bs o f=f∨o=some (bs o f)
def Hsa {α:Type} (k:Nat) (P:Nat→Bool) (c:Nat→Option α):Prop:=∀ m,m<k→P m=false→c m=none
def InK {α:Type} (le:α→α→Prop) (k n:Nat) (P:Nat→Bool) (c:Nat→Option α):Prop:=∀ q,q<k→P q=true→∀ x,c q=some x→∀ p,p<n→P p=true→∃ y,c p=some y∧le x y
section
variable {α:Type} {bs:Option α→α→α} {le:α→α→Prop} {P:Nat→Bool} {c c':Nat→Option α} {k n:Nat}
def Tw {i m:Nat} (h1:c i=c' i) (h2:c m=c' m):Le bs P i c m=Le bs P i c' m:=by
 unfold Le;rw[h1,h2]
def Hsa.eq (h:Hsa k P c) (hk:k≤n) (e:∀ m,m<n→c' m=c m):Hsa k P c':=λ m hm hp=>by rw[e m (by omega)];exact h m hm hp
def InK.eq (h:InK le k n P c) (hk:k≤n) (e:∀ m,m<n→c' m=c m):InK le k n P c':=λ q hq hp x hx p hp1 hp2=>by
 rw[e q (by omega)]at hx;rw[e p hp1];exact h q hq hp x hx p hp1 hp2
def Hsa.ostep (h:Hsa k P c):Hsa (k+1) P (Le bs P k c):=λ m hm hp=>by
 unfold Le
 cases hk:c k with
 |none=>
  dsimp only
  by_cases e:m=k
  ·rw[e];exact hk
  ·exact h m (by omega) hp
 |some f=>
  dsimp only;rw[hp,Bool.false_and,cond_false]
  by_cases e:m=k
  ·rw[decide_eq_true e,← e,hp];rfl
  ·rw[decide_eq_false e];exact h m (by omega) hp
def InK.istep (hb:BOk bs le) (h:InK le k n P c):InK le (k+1) n P (Le bs P k c):=by
 intro q hq hPq x hx p hp hPp
 cases hk:c k with
 |none=>
  have e:Le bs P k c=c:=by funext m;unfold Le;rw[hk]
  rw[e]at hx ⊢
  by_cases hqk:q=k
  ·rw[hqk,hk]at hx;cases hx
  ·exact h q (by omega) hPq x hx p hp hPp
 |some f=>
  have st:∀ m,P m=true→Le bs P k c m=if m=k then some f else some (bs (c m) f):=λ m hm=>by
   unfold Le;rw[hk];dsimp only
   by_cases e:m=k
   ·rw[if_pos e,decide_eq_true e,← e,hm,e,hk];rfl
   ·rw[if_neg e,decide_eq_false e,hm];rfl
  rw[st q hPq]at hx;rw[st p hPp]
  by_cases hqk:q=k
  ·rw[if_pos hqk]at hx;obtain rfl:=Bzb hx
   by_cases hpk:p=k
   ·rw[if_pos hpk];exact⟨f,rfl,hb.rf f⟩
   ·rw[if_neg hpk];exact⟨_,rfl,hb.up _ f⟩
  ·rw[if_neg hqk]at hx;cases hx;rcases hb.oo (c q) f with e|e
   ·rw[e]
    by_cases hpk:p=k
    ·rw[if_pos hpk];exact⟨f,rfl,hb.rf f⟩
    ·rw[if_neg hpk];exact⟨_,rfl,hb.up _ f⟩
   ·obtain⟨y,h1,h2⟩:=h q (by omega) hPq _ e p hp hPp
    by_cases hpk:p=k
    ·rw[hpk,hk]at h1;obtain rfl:=Bzb h1;rw[if_pos hpk];exact⟨f,rfl,h2⟩
    ·rw[if_neg hpk,h1];exact⟨_,rfl,hb.tr h2 (hb.ub y f)⟩
def gvC {α:Type} (bs:Option α→α→α) (P:Nat→Bool) (f:α) (c:Nat→Option α) (m:Nat):Option α:=bif P m then some (bs (c m) f) else c m
def Hsa.gv {f:α} (h:Hsa k P c):Hsa k P (gvC bs P f c):=λ m hm hp=>by
 unfold gvC;rw[hp];exact h m hm hp
def InK.gv {f:α} (hb:BOk bs le) (h:InK le k n P c):InK le k n P (gvC bs P f c):=by
 intro q hq hPq x hx p hp hPp;unfold gvC at hx ⊢;rw[hPq,cond_true]at hx;rw[hPp,cond_true];cases hx;rcases hb.oo (c q) f with e|e
 ·rw[e];exact⟨_,rfl,hb.up _ f⟩
 ·obtain⟨y,h1,h2⟩:=h q hq hPq _ e p hp hPp;rw[h1];exact⟨_,rfl,hb.tr h2 (hb.ub y f)⟩
end
def leF (a b:Fil):Prop:=sle b.1 a.1=false
def Z3a:BOk Ld leF where
 rf:=λ a=>Fx _
 tr:=λ h1 h2=>R4 h2 h1
 up:=λ o f=>by
  cases o with
  |none=>exact Fx _
  |some g=>cases h:sle g.1 f.1<;>simp[leF,Ld,h,Fx]
 ub:=λ g f=>by
  cases h:sle g.1 f.1<;>simp[leF,Ld,h,Fx]
  exact N4 h
 oo:=λ o f=>by
  cases o with
  |none=>exact .inl rfl
  |some g=>cases h:sle g.1 f.1<;>simp[Ld,h]
def leR (a b:Row):Prop:=Hk b a=false
def Jla (o:Option Row) (f:Row):Row:=match o with
 |some g=>mx g f
 |none=>f
def Pt (a:Row):Hk a a=false:=by
 cases h:Hk a a
 ·rfl
 have:=Oe h;rw[h]at this;cases this
def Tya:BOk Jla leR where
 rf:=Pt
 tr:=λ {a b c} h1 h2=>by
  unfold leR at *
  have n1:¬ Hk b a=true:=by rw[h1];decide
  have n2:¬ Hk c b=true:=by rw[h2];decide
  cases h:Hk c a
  ·rfl
  rw[T7]at n1 n2 h
  cases ha:a.2.2.1<;>cases hb:b.2.2.1<;>cases hc:c.2.2.1<;>simp only[ha,hb,hc]at h n1 n2<;>simp at h n1 n2<;>omega
 up:=λ o f=>by
  cases o with
  |none=>exact Pt _
  |some g=>cases h:Hk g f<;>simp[leR,Jla,mx,h,Pt]
 ub:=λ g f=>by
  cases h:Hk g f<;>simp[leR,Jla,mx,h,Pt]
  exact Oe h
 oo:=λ o f=>by
  cases o with
  |none=>exact .inl rfl
  |some g=>cases h:Hk g f<;>simp[Jla,mx,h]
def NR.trans {ws:List Wri} {sp:List ByteArray} {a b c:List Nod} (h1:NR ws sp a b) (h2:NR ws sp b c):NR ws sp a c:=⟨h2.1,h2.2.1.trans h1.2.1,λ s hs st h=>h2.2.2 s hs st (h1.2.2 s hs st h)⟩
def SW (w v:Wld):Prop:=∃ ns,v=wN w ns∧NR w.2.2.2.2.1 w.2.2.2.2.2 w.2.2.1 ns
section
variable {w v u:Wld}
def SW.refl (h:WI w):SW w w:=⟨w.2.2.1,rfl,NR.refl h.nodes⟩
def SW.trans (h1:SW w v) (h2:SW v u):SW w u:=by
 obtain⟨a,rfl,ha⟩:=h1;obtain⟨b,rfl,hb⟩:=h2;exact⟨b,rfl,ha.trans hb⟩
def SW.wi (h:SW w v) (hw:WI w):WI v:=by
 obtain⟨ns,rfl,hn⟩:=h;exact hw.other hn
def SW.len (h:SW w v):v.2.2.1.length=w.2.2.1.length:=by
 obtain⟨ns,rfl,hn⟩:=h;exact hn.len
def SW.ws (h:SW w v):v.2.2.2.2.1=w.2.2.2.2.1:=by
 obtain⟨ns,rfl,hn⟩:=h;rfl
def SW.inP (h:SW w v) (t:ByteArray):inP v t=inP w t:=by
 obtain⟨ns,rfl,hn⟩:=h;funext m;unfold Vf.inP Hs;rw[show (wN w ns).2.2.1=ns from rfl,A4a hn.2.1]
def Oda (h:WI w) {i:Nat} (hi:i<w.2.2.1.length) (s:ByteArray):SW w (Md w i s Cy).2:=A1a h.wok h.nodes hi h.ring h.ids
def Wfa (h:WI w) {i:Nat} (hi:i<w.2.2.1.length):SW w (On w i Cy).2:=Hja h.nodes hi
def Wga (h:WI w) {i:Nat} (hi:i<w.2.2.1.length):SW w (Me w i Cy).2:=Hia h.nodes hi
def Tza (h:WI w) {i:Nat} (hi:i<w.2.2.1.length):SW w (qtA w i):=by
 have hni:=h.nodes _ (A3 (d:=Ae) hi);obtain⟨c1,c2⟩:=Hha h.wok hni.1.g hni.2.1;exact⟨_,rfl,(NR.refl h.nodes).set hi ⟨Hea hni.1,c1,hni.2.2⟩ rfl c2⟩
end
def RQ (ns ms:List Nod):Prop:=∀ m,(ms.getD m Ae).2.2=(ns.getD m Ae).2.2
def RQ.set {ns ms:List Nod} (h:RQ ns ms) {p:Nat} {x:Nod} (hx:x.2.2=(ms.getD p Ae).2.2):RQ ns (ms.set p x):=λ m=>by
 rw[← h m]
 by_cases hm:m<ms.length
 ·rw[Dx hm]
  by_cases e:p=m
  ·rw[if_pos e,hx,e]
  ·rw[if_neg e]
 ·rw[Vb,Vb,Zd (by rw[Vu];omega),Zd (by omega)]
def Z4a (w:Wld) (i:Nat) (s:ByteArray) (rc:List Int):RQ w.2.2.1 (puN w i s rc).1:=by
 unfold puN;refine H7 (λ _ (a:List Nod×Bool×Bool)=>RQ w.2.2.1 a.1) (λ _=>rfl) ?_;rintro j ⟨ns,o,g⟩ hj a1;dsimp only at a1;unfold pst
 cases (Hs w s).getD j 0==(i:Int) with
 |true=>exact a1
 |false=>
  cases rch rc j != 1 with
  |true=>exact a1
  |false=>exact a1.set rfl
def S3a (w:Wld) (i:Nat) (s:ByteArray) (rc:List Int):RQ w.2.2.1 (Md w i s rc).2.2.2.1:=by
 have h:=Z4a w i s rc;unfold Md
 cases (lkD (w.2.2.1.getD i Ae).2.1 s).2 != 0 with
 |true=>exact λ _=>rfl
 |false=>
  show RQ w.2.2.1 (bif (puN w i s rc).2.2&&!(puN w i s rc).2.1 then (puN w i s rc).1.set i (Wza ((puN w i s rc).1.getD i Ae) s) else (puN w i s rc).1)
  cases (puN w i s rc).2.2&&!(puN w i s rc).2.1 with
  |true=>exact h.set rfl
  |false=>exact h
def Oea {s t:ByteArray} (h:s≠t):teq s t=false:=by
 cases hq:teq s t with
 |false=>rfl
 |true=>exact absurd (C8.1 hq) h
def Fda {l:List ByteArray} {t:ByteArray} (h:t∉l):Rla l t=false:=by
 cases hq:Rla l t with
 |false=>rfl
 |true=>exact absurd (M5.1 hq) h
def W7 {i:Nat}:∀ (l:List ByteArray) {w:Wld},WI w→i<w.2.2.1.length→SW w (Jc w i l)
 |[],w,h,_=>SW.refl h
 |s::l,w,h,hi=>by
  have h1:=Oda h hi s;exact h1.trans (W7 l (h1.wi h) (by rw[h1.len];exact hi))
def W8 {i:Nat}:∀ (l:List ByteArray) {w:Wld},RQ w.2.2.1 (Jc w i l).2.2.1
 |[],w=>λ _=>rfl
 |s::l,w=>λ m=>(W8 l m).trans (S3a w i s Cy m)
def W9 {nm:List ByteArray} {i:Nat} (t:ByteArray):∀ (l:List ByteArray) {w:Wld},WI w→W5 nm w.2.2.2.2.1→i<w.2.2.1.length→l.Nodup→∀ m,m<w.2.2.1.length→
  oN (Jc w i l).2.2.1 m t=bif Rla l t then Le Ld (inP w t) i (λ m=>oN w.2.2.1 m t) m else oN w.2.2.1 m t
 |[],w,_,_,_,_,m,_=>rfl
 |s::l,w,h,hN,hi,hl,m,hm=>by
  have h1:=Oda h hi s;obtain⟨hl1,hl2⟩:=Yl.1 hl;have ih:=W9 (nm:=nm) t l (h1.wi h) (by rw[h1.ws];exact hN) (by rw[h1.len];exact hi) hl2 m (by rw[h1.len];exact hm);have pm:=λ m hm=>S2a h hN hi s (m:=m) hm t;show oN (Jc (Md w i s Cy).2 i l).2.2.1 m t=_;rw[ih,h1.inP]
  by_cases ht:t∈l
  ·have hst:s≠t:=λ e=>hl1 (e ▸ ht);rw[M5.2 ht,M5.2 (Vd _ ht),cond_true,cond_true];refine Tw ?_ ?_
   ·show oN _ i t=_;rw[pm i hi,Oea hst];rfl
   ·show oN _ m t=_;rw[pm m hm,Oea hst];rfl
  ·rw[Fda ht,cond_false,pm m hm]
   by_cases hst:s=t
   ·subst hst;rw[M5.2 Wo,C8.2 rfl]
   ·rw[Fda (l:=s::l) (by rw[Vk];rintro (e|e);exact hst e.symm;exact ht e),Oea hst];rfl
def Jma {d:Dsk} (hd:Bx d=true):(Mc d).Nodup:=by
 rw[Rka (H6 hd)];unfold Vxa;have h1:Ct (d.1.filter λ x=>(Je x.2).isSome):=(H6 hd).sublist Cbb;have hp:((d.1.filter λ x=>(Je x.2).isSome).map Prod.fst).Pairwise (λ a b=>tlt a b=true):=Zi.2 h1;exact hp.imp (λ {a b} hab e=>by subst e;rw[Eu]at hab;cases hab)
def Ofa {d:Dsk} {t:ByteArray} (h:t∉Mc d):old d t=none:=by
 have h1:¬ Cua d t:=λ c=>h (O0a.2 c);have h2:=Hra (d:=d) (s:=t);unfold Cua at h1
 cases h3:old d t with
 |none=>rfl
 |some f=>
  rw[h3]at h2;exact absurd (by simpa using h2) h1
def Hta {w:Wld} (h:WI w) {i:Nat} (hi:i<w.2.2.1.length) {m:Nat} (hm:m<w.2.2.1.length) (t:ByteArray):oN (qtA w i).2.2.1 m t=oN w.2.2.1 m t:=by
 show oN (w.2.2.1.set i (Toa (w.2.2.1.getD i Ae)).1) m t=_;unfold oN;rw[Dx hm]
 by_cases e:i=m
 ·subst e;rw[if_pos rfl];exact Cya (h.nodes _ (A3 (d:=Ae) hi)).1.g t
 ·rw[if_neg e]
def Z5a {w:Wld} (h:WI w) {i:Nat} (hi:i<w.2.2.1.length):SW w (qtP w i):=by
 have h1:=Tza h hi;exact h1.trans (W7 _ (h1.wi h) (by rw[h1.len];exact hi))
def Z6a (w:Wld) (i:Nat):RQ w.2.2.1 (qtP w i).2.2.1:=λ m=>(W8 _ m).trans ((show RQ w.2.2.1 w.2.2.1 from λ _=>rfl).set (p:=i) (x:=(Toa (w.2.2.1.getD i Ae)).1) rfl m)
def Z7a {nm:List ByteArray} {w:Wld} (h:WI w) (hN:W5 nm w.2.2.2.2.1) {i:Nat} (hi:i<w.2.2.1.length) {m:Nat} (hm:m<w.2.2.1.length) (t:ByteArray):
  oN (qtP w i).2.2.1 m t=Le Ld (inP w t) i (λ m=>oN w.2.2.1 m t) m:=by
 have h1:=Tza h hi
 have hi':i<(qtA w i).2.2.1.length:=by rw[h1.len];exact hi
 have hd:=((h1.wi h).nodes _ (A3 (d:=Ae) hi')).1.g.1;have k:=W9 (nm:=nm) t (Mc ((qtA w i).2.2.1.getD i Ae).2.1) (h1.wi h) (by rw[h1.ws];exact hN) hi' (Jma hd) m (by rw[h1.len];exact hm);show oN (Jc (qtA w i) i _).2.2.1 m t=_;rw[k,h1.inP]
 by_cases ht:t∈Mc ((qtA w i).2.2.1.getD i Ae).2.1
 ·rw[M5.2 ht];exact Tw (c:=λ m=>oN (qtA w i).2.2.1 m t) (c':=λ m=>oN w.2.2.1 m t) (Hta h hi hi t) (Hta h hi hm t)
 ·rw[Fda ht,cond_false,Hta h hi hm t];have e:oN w.2.2.1 i t=none:=(Hta h hi hi t).symm.trans (Ofa ht);unfold Le;dsimp only;rw[e]

def S4a {nm:List ByteArray} {ws:List Wri} (hN:W5 nm ws) {a:List Row} (hs:Be a) (h:∀ r∈a,Qo ws r=true):a.length≤60:=by
 have hp:(a.map (·.1)).Pairwise (λ a b=>tlt a b=true):=Zi.2 hs;have hd:(a.map (·.1)).Nodup:=hp.imp (λ {a b} hab e=>by subst e;rw[Eu]at hab;cases hab)
 have:=Pr _ nm hd (λ s hs=>by
  obtain⟨r,hr,rfl⟩:=Ys.1 hs;obtain⟨x,hx,rfl⟩:=Pq.1 (h r hr)
  exact hN.2 x hx)
 rw[Vz]at this;have:=hN.1;omega
def Jwa (n:Nod) (l:List Row):Nod:=(n.1,n.2.1,Mb n.2.2.1 l,n.2.2.2)
def NI.rows {ws:List Wri} {sp:List ByteArray} {n:Nod} (h:NI ws sp n):Be n.2.2.1:=(Hp.1 (Bn.1 h.1.1).2.2.2.1).1
def U0a {nm:List ByteArray} {ws:List Wri} {sp:List ByteArray} (hN:W5 nm ws) {n:Nod} (h:NI ws sp n) {l:List Row} (hr:∀ r∈l,Qo ws r=true):tk n l=(true,Jwa n l):=by
 have h1:(Mb n.2.2.1 l).length≤60:=S4a hN (Iw h.rows) (λ r hr'=>(Xy hr').elim (h.2.2.1 r) (hr r));unfold tk;rw[decide_eq_false (by omega)];rfl
def Cza {nm:List ByteArray} {w:Wld} (h:WI w) (hN:W5 nm w.2.2.2.2.1) {src:Int} {l:List Row} {self:Bool} (hl:Hb l=true) (hr:∀ r∈l,Qo w.2.2.2.2.1 r=true):
  (Ia w src l self Cy).2=true∧∀ m,m<w.2.2.1.length→(Ia w src l self Cy).1.getD m Ae=bif inP w Lj m&&!((m:Int)==src&&!self) then Jwa (w.2.2.1.getD m Ae) l else w.2.2.1.getD m Ae:=by
 have h5:(C9 w).length≤5:=h.wo.prim5 Lj;have hat:=λ x=>Jl (w:=w) (x:=x);have hls:=(Hp.1 hl).1;unfold Ia inP;rw[show Hs w Lj=C9 w from rfl];generalize C9 w=ps at *
 have key:=H7 (st:=gst src l self Cy ps) (n:=ps.length) (a:=(w.2.2.1,true)) (λ j (a:List Nod×Bool)=>a.2=true∧NR w.2.2.2.2.1 w.2.2.2.2.2 w.2.2.1 a.1∧
  ∀ m,m<w.2.2.1.length→a.1.getD m Ae=bif Hc (ps.take j) (m:Int)&&!((m:Int)==src&&!self) then Jwa (w.2.2.1.getD m Ae) l else w.2.2.1.getD m Ae) ?_ ?_
 ·rw[Zf]at key;exact⟨key.1,key.2.2⟩
 ·exact⟨rfl,NR.refl h.nodes,λ m _=>by
   show _=bif false&&_ then _ else _
   rw[Ze]
   rfl⟩
 ·rintro j ⟨ns,g⟩ hj ⟨a1,a3,a4⟩;dsimp only at a1 a3 a4;subst a1;have hpx:=hat _ (A3 (d:=0) hj);obtain⟨p,hp⟩:∃ p:Nat,ps.getD j 0=(p:Int):=⟨(ps.getD j 0).toNat,by omega⟩
  have htk:∀ x:Int,Hc (ps.take (j+1)) x=(Hc (ps.take j) x||(p:Int)==x):=λ x=>by
   have e:ps[j]=(p:Int):=by rw[← hp,Vb,Vg hj];rfl
   unfold Hc;rw[Wi hj,Dyb,e,D3b,E4b,Bab]
  have hnl:=a3.len
  have hpn:p<ns.length:=by omega
  have hni:=a3.1 _ (A3 (d:=Ae) hpn);unfold gst;rw[hp,Vm,Z2a (by omega),U0a hN hni hr]
  cases hpi:(p:Int)==src&&!self with
  |true=>
   refine⟨rfl,a3,λ m hm=>?_⟩;show ns.getD m Ae=_;rw[a4 m hm,htk]
   by_cases hmp:p=m
   ·subst hmp;rw[hpi,Za,Yn,Yn]
   ·rw[show ((p:Int)==(m:Int))=false by rw[beq_eq_false_iff_ne];omega,Bab]
  |false=>
   have hnr:NI w.2.2.2.2.1 w.2.2.2.2.2 (Jwa (ns.getD p Ae) l):=by
    obtain⟨t1,_,_⟩:=Yva (n:=ns.getD p Ae) hni hl hr;rw[U0a hN hni hr]at t1;exact t1
   refine⟨rfl,a3.set hpn hnr rfl (MO.refl _ _),λ m hm=>?_⟩;show (ns.set p (Jwa (ns.getD p Ae) l)).getD m Ae=_;rw[Dx (show m<ns.length by omega),htk]
   by_cases hpm:p=m
   ·subst hpm;rw[if_pos rfl,beq_self_eq_true,Bool.or_true,Wf,hpi,Zs,cond_true,a4 p hm,hpi,Zs,B8b]
    cases Hc (ps.take j) (p:Int) with
    |false=>rfl
    |true=>
     show Jwa (Jwa (w.2.2.1.getD p Ae) l) l=Jwa (w.2.2.1.getD p Ae) l;unfold Jwa;dsimp only;rw[Mqa (h.nodes _ (A3 (d:=Ae) hm)).rows hls]
   ·rw[if_neg hpm,show ((p:Int)==(m:Int))=false by rw[beq_eq_false_iff_ne];omega,Bab];exact a4 m hm
def Hua {n:Nod} (h:n.2.2.2=[]):n=W2a n []:=by
 obtain⟨a,b,c,d⟩:=n;dsimp only at h;subst h;rfl
def Oga {nm:List ByteArray} {w:Wld} (h:WI w) (hN:W5 nm w.2.2.2.2.1) {i:Nat} (hi:i<w.2.2.1.length) {m:Nat} (hm:m<w.2.2.1.length):
  (On w i Cy).2.2.2.1.getD m Ae=W2a (bif inP w Lj m then Jwa (w.2.2.1.getD m Ae) ((w.2.2.1.getD i Ae).2.2.2.take 1) else w.2.2.1.getD m Ae) (bif decide (m=i) then (w.2.2.1.getD m Ae).2.2.2.drop 1 else (w.2.2.1.getD m Ae).2.2.2):=by
 have hni:=h.nodes _ (A3 (d:=Ae) hi);have hq:=(Bn.1 hni.1.1).1;unfold On
 cases hz:((w.2.2.1.getD i Ae).2.2.2.length:Int)==0 with
 |true=>
  have e:(w.2.2.1.getD i Ae).2.2.2=[]:=Wk (by have:=eq_of_beq hz;omega);rw[e];show w.2.2.1.getD m Ae=_
  by_cases hmi:m=i
  ·subst hmi;rw[decide_eq_true rfl,e]
   cases inP w Lj m with
   |true=>exact Hua (n:=Jwa (w.2.2.1.getD m Ae) []) e
   |false=>exact Hua e
  ·rw[decide_eq_false hmi]
   cases inP w Lj m<;>rfl
 |false=>
  obtain⟨g1,g2⟩:=Cza h hN (src:=(i:Int)) (self:=true) (Jt hq) (λ r hr=>hni.2.2.2 r (B3b hr));have gl:(Jb w i Cy).1.length=w.2.2.1.length:=(Z8 (Jt hq) h.ns).2;rw[show Ia w (i:Int) ((w.2.2.1.getD i Ae).2.2.2.take 1) true Cy=Jb w i Cy from rfl]at g1 g2;have g3:=g2 m hm;rw[Za,Yn,Zs,B8b]at g3;show (bif (Jb w i Cy).2 then (Jb w i Cy).1.set i (W2a ((Jb w i Cy).1.getD i Ae) ((w.2.2.1.getD i Ae).2.2.2.drop 1)) else (Jb w i Cy).1).getD m Ae=_;rw[g1,cond_true,Dx (by omega)]
  by_cases hmi:i=m
  ·subst hmi;rw[if_pos rfl,g3,decide_eq_true rfl,cond_true]
  ·rw[if_neg hmi,g3,decide_eq_false (λ e=>hmi e.symm),cond_false]
   cases inP w Lj m<;>rfl
def Oha {nm:List ByteArray} {w:Wld} (h:WI w) (hN:W5 nm w.2.2.2.2.1) {i:Nat} (hi:i<w.2.2.1.length) {m:Nat} (hm:m<w.2.2.1.length):
  (Me w i Cy).2.2.2.1.getD m Ae=bif inP w Lj m&&!(decide (m=i)) then Jwa (w.2.2.1.getD m Ae) (w.2.2.1.getD i Ae).2.2.1 else bif decide (m=i)&&!(inP w Lj i) then Pp (w.2.2.1.getD m Ae) else w.2.2.1.getD m Ae:=by
 have hni:=h.nodes _ (A3 (d:=Ae) hi);have hro:=(Bn.1 hni.1.1).2.2.2.1;unfold Me
 cases hz:((w.2.2.1.getD i Ae).2.2.1.length:Int)==0 with
 |true=>
  have e:(w.2.2.1.getD i Ae).2.2.1=[]:=Wk (by have:=eq_of_beq hz;omega);rw[e];show w.2.2.1.getD m Ae=_
  by_cases hmi:m=i
  ·subst hmi;rw[decide_eq_true rfl,Za,Yn,cond_false]
   cases inP w Lj m with
   |true=>rfl
   |false=>show _=Pp (w.2.2.1.getD m Ae);unfold Pp;rw[← e]
  ·rw[decide_eq_false hmi]
   cases inP w Lj m<;>rfl
 |false=>
  obtain⟨g1,g2⟩:=Cza h hN (src:=(i:Int)) (self:=false) hro hni.2.2.1;have gn:NR w.2.2.2.2.1 w.2.2.2.2.2 w.2.2.1 (Ia w (i:Int) (w.2.2.1.getD i Ae).2.2.1 false Cy).1:=A2a h.nodes hro hni.2.2.1;rw[show Ia w (i:Int) (w.2.2.1.getD i Ae).2.2.1 false Cy=I6 w i Cy from rfl]at g1 g2 gn;have gl:=gn.len
  have eL:Hc (C9 (wN w (I6 w i Cy).1)) (i:Int)=inP w Lj i:=by
   unfold C9 inP Hs;rw[show (wN w (I6 w i Cy).1).2.2.1=(I6 w i Cy).1 from rfl,A4a gn.2.1]
  have gq:∀ q:Nat,((q:Int)==(i:Int)&&!false)=decide (q=i):=λ q=>by
   rw[Zs,B8b]
   by_cases e:q=i
   ·rw[e,beq_self_eq_true,decide_eq_true rfl]
   ·rw[decide_eq_false e,beq_eq_false_iff_ne];omega
  have g3:=g2 m hm;rw[gq]at g3;show (bif (I6 w i Cy).2&&!(Hc (C9 (wN w (I6 w i Cy).1)) (i:Int)) then (I6 w i Cy).1.set i (Pp ((I6 w i Cy).1.getD i Ae)) else (I6 w i Cy).1).getD m Ae=_;rw[g1,Wf,eL]
  cases hin:inP w Lj i with
  |true=>
   rw[Za,cond_false,g3,Yn,cond_false]
  |false=>
   rw[Zs,cond_true,Dx (by omega)]
   by_cases hmi:i=m
   ·subst hmi;rw[if_pos rfl,decide_eq_true rfl,hin,Ze,cond_false,Wf,cond_true];rw[decide_eq_true rfl,hin,Ze,cond_false]at g3;rw[g3]
   ·rw[if_neg hmi,g3,decide_eq_false (λ e=>hmi e.symm),Ze,cond_false]
def rN (ns:List Nod) (m:Nat) (t:ByteArray):Option Row:=Fl (ns.getD m Ae).2.2.1 t
def InK.rows {k n:Nat} {P:Nat→Bool} {t:ByteArray}:∀ (q:List Row) {R:Nat→List Row},(∀ m,m<n→Be (R m))→k≤n→(Hsa k P (λ m=>Fl (R m) t)∧InK leR k n P (λ m=>Fl (R m) t))→
  Hsa k P (λ m=>Fl (bif P m then Mb (R m) q else R m) t)∧InK leR k n P (λ m=>Fl (bif P m then Mb (R m) q else R m) t)
 |[],R,hs,hk,h=>by
  have e:(λ m=>Fl (bif P m then Mb (R m) [] else R m) t)=λ m=>Fl (R m) t:=by
   funext m
   cases P m<;>rfl
  rw[e];exact h
 |r::q,R,hs,hk,h=>by
  have e:∀ m,m<n→Fl (bif P m then mrg (R m) r else R m) t=bif teq r.1 t then gvC Jla P r (λ m=>Fl (R m) t) m else Fl (R m) t:=λ m hm=>by
   unfold gvC
   cases P m with
   |false=>cases teq r.1 t<;>rfl
   |true=>
    rw[cond_true,Bta (hs m hm) t]
    cases teq r.1 t with
    |false=>rfl
    |true=>dsimp only;cases Fl (R m) t<;>rfl
  have ih:=InK.rows q (R:=λ m=>bif P m then mrg (R m) r else R m) (P:=P) (t:=t) (k:=k) (n:=n) (λ m hm=>by
   cases P m with
   |true=>exact Nm (hs m hm)
   |false=>exact hs m hm) hk ?_
  ·have e2:(λ m=>Fl (bif P m then Mb (bif P m then mrg (R m) r else R m) q else (bif P m then mrg (R m) r else R m)) t)=λ m=>Fl (bif P m then Mb (R m) (r::q) else R m) t:=by
    funext m
    cases P m<;>rfl
   rw[← e2];exact ih
  ·cases ht:teq r.1 t with
   |true=>exact⟨h.1.gv.eq hk (λ m hm=>by rw[e m hm,ht];rfl),(h.2.gv (f:=r) Tya).eq hk (λ m hm=>by rw[e m hm,ht];rfl)⟩
   |false=>exact⟨h.1.eq hk (λ m hm=>by rw[e m hm,ht];rfl),h.2.eq hk (λ m hm=>by rw[e m hm,ht];rfl)⟩
def WI.give {w:Wld} (h:WI w) (m:Nat) (hm:m<w.2.2.1.length):Be (w.2.2.1.getD m Ae).2.2.1:=(h.nodes _ (A3 (d:=Ae) hm)).rows
structure TA (w v:Wld) (i n:Nat):Prop where
 sw:SW w v
 di:∀ m,m<w.2.2.1.length→(v.2.2.1.getD m Ae).2.1=(w.2.2.1.getD m Ae).2.1
 ro:∀ m,m<w.2.2.1.length→(v.2.2.1.getD m Ae).2.2.1=bif inP w Lj m then Mb (w.2.2.1.getD m Ae).2.2.1 ((w.2.2.1.getD i Ae).2.2.2.take n) else (w.2.2.1.getD m Ae).2.2.1
 qu:∀ m,m<w.2.2.1.length→(v.2.2.1.getD m Ae).2.2.2=bif decide (m=i) then (w.2.2.1.getD m Ae).2.2.2.drop n else (w.2.2.1.getD m Ae).2.2.2
def Tx {nm:List ByteArray} {w:Wld} (h:WI w) (hN:W5 nm w.2.2.2.2.1) {i:Nat} (hi:i<w.2.2.1.length):∀ n,TA w (Iz w i n) i n
 |0=>⟨SW.refl h,λ _ _=>rfl,λ m _=>by cases inP w Lj m<;>rfl,λ m _=>by cases decide (m=i)<;>rfl⟩
 |n+1=>by
  have ih:=Tx h hN hi n;show TA w (On (Iz w i n) i Cy).2 i (n+1);generalize Iz w i n=v at *;have hv:=ih.sw.wi h;have hl:=ih.sw.len;have t1:=Wfa hv (i:=i) (by omega);have t2:=λ m (hm:m<w.2.2.1.length)=>Oga hv (nm:=nm) (by rw[ih.sw.ws];exact hN) (i:=i) (by omega) (m:=m) (by omega);rw[ih.sw.inP]at t2;refine⟨ih.sw.trans t1,λ m hm=>?_,λ m hm=>?_,λ m hm=>?_⟩
  ·rw[t2 m hm,← ih.di m hm]
   cases inP w Lj m<;>rfl
  ·rw[t2 m hm];have r1:=ih.ro m hm;have q1:=ih.qu i hi;rw[decide_eq_true rfl,cond_true]at q1;rw[q1]
   cases hp:inP w Lj m with
   |false=>
    rw[hp,cond_false]at r1;exact r1
   |true=>
    rw[hp,cond_true]at r1;show Mb (v.2.2.1.getD m Ae).2.2.1 _=Mb _ _;rw[r1];unfold Mb;rw[← Bsb,E2b (i:=n) (j:=1)]
  ·rw[t2 m hm];show (bif decide (m=i) then (v.2.2.1.getD m Ae).2.2.2.drop 1 else (v.2.2.1.getD m Ae).2.2.2)=_;rw[ih.qu m hm]
   cases decide (m=i) with
   |true=>rw[cond_true,cond_true,cond_true,Ym]
   |false=>rfl
structure RI (nm:List ByteArray) (k:Nat) (w:Wld):Prop where
 wi:WI w
 few:W5 nm w.2.2.2.2.1
 fo:∀ t,Hsa k (inP w t) (λ m=>oN w.2.2.1 m t)
 fi:∀ t,InK leF k w.2.2.1.length (inP w t) (λ m=>oN w.2.2.1 m t)
 ro:∀ t,Hsa k (inP w Lj) (λ m=>rN w.2.2.1 m t)
 ri:∀ t,InK leR k w.2.2.1.length (inP w Lj) (λ m=>rN w.2.2.1 m t)
 qe:∀ m,m<k→(w.2.2.1.getD m Ae).2.2.2=[]
def RI.rstep {nm:List ByteArray} {w:Wld} {i:Nat} (h:RI nm i w) (hi:i<w.2.2.1.length):RI nm (i+1) (qtN w i)∧SW w (qtN w i):=by
 have s1:=Z5a h.wi hi;have o1:=λ m (hm:m<w.2.2.1.length) t=>Z7a h.wi h.few hi hm t;have r1:=Z6a w i;have w1:=s1.wi h.wi;have l1:=s1.len;have p1:=s1.inP
 have f1:W5 nm (qtP w i).2.2.2.2.1:=by rw[s1.ws];exact h.few
 unfold qtN qtT;generalize qtP w i=u at *;have ta:=Tx w1 f1 (i:=i) (by omega) (u.2.2.1.getD i Ae).2.2.2.length;generalize Iz u i (u.2.2.1.getD i Ae).2.2.2.length=v at *;have w2:=ta.sw.wi w1;have l2:=ta.sw.len;have p2:=λ t=>(ta.sw.inP t).trans (p1 t)
 have f2:W5 nm v.2.2.2.2.1:=by rw[ta.sw.ws];exact f1
 have s3:=Wga w2 (i:=i) (by omega);have g3:=λ m (hm:m<w.2.2.1.length)=>Oha w2 f2 (i:=i) (by omega) (m:=m) (by omega);rw[p2]at g3;have l3:=s3.len;have p3:=λ t=>(s3.inP t).trans (p2 t)
 have f3:W5 nm (Me v i Cy).2.2.2.2.2.1:=by rw[s3.ws];exact f2
 have w3:=s3.wi w2;have s4:=(s1.trans ta.sw).trans s3
 have eo:∀ t m,m<w.2.2.1.length→oN (Me v i Cy).2.2.2.1 m t=Le Ld (inP w t) i (λ m=>oN w.2.2.1 m t) m:=λ t m hm=>by
  rw[← o1 m hm t];unfold oN;rw[g3 m hm,← ta.di m (by omega)]
  cases inP w Lj m&&!(decide (m=i)) with
  |true=>rfl
  |false=>cases decide (m=i)&&!(inP w Lj i)<;>rfl
 have tv:∀ t,Hsa i (inP w Lj) (λ m=>rN v.2.2.1 m t)∧InK leR i w.2.2.1.length (inP w Lj) (λ m=>rN v.2.2.1 m t):=λ t=>by
  have:=InK.rows (t:=t) (P:=inP w Lj) (k:=i) (n:=w.2.2.1.length) (u.2.2.1.getD i Ae).2.2.2 (R:=λ m=>(u.2.2.1.getD m Ae).2.2.1) (λ m hm=>w1.give m (by omega)) (by omega) ⟨(h.ro t).eq (n:=w.2.2.1.length) (by omega) (λ m hm=>by
   unfold rN;rw[r1 m]),(h.ri t).eq (by omega) (λ m hm=>by unfold rN;rw[r1 m])⟩
  have e:∀ m,m<w.2.2.1.length→rN v.2.2.1 m t=Fl (bif inP w Lj m then Mb (u.2.2.1.getD m Ae).2.2.1 (u.2.2.1.getD i Ae).2.2.2 else (u.2.2.1.getD m Ae).2.2.1) t:=λ m hm=>by
   have:=ta.ro m (by omega);rw[p1,Zf]at this;unfold rN;rw[this]
  exact⟨this.1.eq (n:=w.2.2.1.length) (by omega) e,this.2.eq (by omega) e⟩
 have er:∀ t m,m<w.2.2.1.length→rN (Me v i Cy).2.2.2.1 m t=Le Jla (inP w Lj) i (λ m=>rN v.2.2.1 m t) m:=λ t m hm=>by
  have hl:=Qj (w2.give m (by omega)) (w2.give i (by omega)) t;unfold Le rN;rw[g3 m hm];dsimp only;have hno:∀ n:Nod,Fl (Pp n).2.2.1 t=none:=λ _=>rfl
  cases hk:Fl (v.2.2.1.getD i Ae).2.2.1 t with
  |none=>
   rw[hk]at hl;dsimp only
   cases hc:inP w Lj m&&!(decide (m=i)) with
   |true=>
    show Fl (Mb (v.2.2.1.getD m Ae).2.2.1 (v.2.2.1.getD i Ae).2.2.1) t=_;rw[hl]
    cases Fl (v.2.2.1.getD m Ae).2.2.1 t<;>rfl
   |false=>
    rw[cond_false]
    by_cases hmi:m=i
    ·rw[decide_eq_true hmi,hmi,hk]
     cases inP w Lj i with
     |true=>exact hk
     |false=>rfl
    ·rw[decide_eq_false hmi];rfl
  |some r=>
   rw[hk]at hl;dsimp only
   cases hc:inP w Lj m&&!(decide (m=i)) with
   |true=>
    show Fl (Mb (v.2.2.1.getD m Ae).2.2.1 (v.2.2.1.getD i Ae).2.2.1) t=_;rw[hl]
    cases Fl (v.2.2.1.getD m Ae).2.2.1 t<;>rfl
   |false=>
    rw[cond_false,cond_false]
    cases decide (m=i)&&!(inP w Lj i)<;>rfl
 refine⟨⟨w3,f3,λ t=>?_,λ t=>?_,λ t=>?_,λ t=>?_,λ m hm=>?_⟩,s4⟩
 ·rw[p3];exact(h.fo t).ostep.eq (n:=w.2.2.1.length) (by omega) (eo t)
 ·rw[p3,s4.len];exact((h.fi t).istep Z3a).eq (by omega) (eo t)
 ·rw[p3];exact(tv t).1.ostep.eq (n:=w.2.2.1.length) (by omega) (er t)
 ·rw[p3,s4.len];exact((tv t).2.istep Tya).eq (by omega) (er t)
 ·have e1:((Me v i Cy).2.2.2.1.getD m Ae).2.2.2=(v.2.2.1.getD m Ae).2.2.2:=by
   rw[g3 m (by omega)]
   cases inP w Lj m&&!(decide (m=i)) with
   |true=>rfl
   |false=>cases decide (m=i)&&!(inP w Lj i)<;>rfl
  rw[e1,ta.qu m (by omega)]
  by_cases hmi:m=i
  ·rw[decide_eq_true hmi,cond_true,hmi,Yt]
  ·rw[decide_eq_false hmi,cond_false,r1 m];exact h.qe m (by omega)
def U1a {nm:List ByteArray} {w:Wld} (h:WI w) (hN:W5 nm w.2.2.2.2.1):∀ k,k≤w.2.2.1.length→RI nm k (run qtN k w)∧SW w (run qtN k w)
 |0,_=>⟨⟨h,hN,λ _ m hm=>(by omega),λ _ q hq=>(by omega),λ _ m hm=>(by omega),λ _ q hq=>(by omega),λ m hm=>(by omega)⟩,SW.refl h⟩
 |k+1,hk=>by
  obtain⟨h1,h2⟩:=U1a h hN k (by omega);rw[Gt];have hl:=h2.len;generalize run qtN k w=v at *;obtain⟨h3,h4⟩:=h1.rstep (by omega);exact⟨h3,h2.trans h4⟩
def S5a {nm:List ByteArray} {w:Wld} (h:WI w) (hN:W5 nm w.2.2.2.2.1):RI nm (Hv w).2.2.1.length (Hv w)∧SW w (Hv w):=by
 obtain⟨h1,h2⟩:=U1a h hN _ (Vv _);have hl:=h2.len;unfold Hv;generalize run qtN w.2.2.1.length w=v at *;rw[hl];exact⟨h1,h2⟩

def D0a {p zs:List Int} {z:Bool} {l:List Dev} (h:(l.map (·.1)).Nodup):(hoA p zs z l).Nodup:=by
 unfold hoA;exact h.sublist (Cbb.map _)
def Oia:∀ {l:List Dev} {a b:Dev},(l.map (·.1)).Nodup→a∈l→b∈l→a.1=b.1→a=b
 |[],_,_,_,h,_,_=>nomatch h
 |x::l,a,b,hn,ha,hb,e=>by
  rw[Xs,Yl]at hn;rcases Vk.1 ha with ea|ha'
  ·rcases Vk.1 hb with eb|hb'
   ·rw[ea,eb]
   ·exact absurd (by rw[← ea,e];exact Ye hb') hn.1
  ·rcases Vk.1 hb with eb|hb'
   ·exact absurd (by rw[← eb,← e];exact Ye ha') hn.1
   ·exact Oia hn.2 ha' hb' e
def Ue {r:Rng} {l:List Dev} {x:ByteArray} (h:(l.map (·.1)).Nodup) (hp:(Km r x).Nodup):(Km r x++I7 r l x).Nodup:=by
 have mem:∀ {z:Bool} {i:Int},i∈hoA (Km r x) (Dw (Km r x) l) z l→Hc (Km r x) i=false∧∃ d∈l,d.1=i∧Hc (Dw (Km r x) l) d.2.1=z:=by
  intro z i hi;unfold hoA at hi;obtain⟨d,hd,rfl⟩:=Ys.1 hi;obtain⟨h1,h2⟩:=Bcb.1 hd;rw[Va,Wa,beq_iff_eq]at h2;exact⟨h2.1,d,h1,rfl,h2.2⟩
 unfold I7;rw[Wq,Wq];refine⟨hp,⟨D0a h,D0a h,λ a ha b hb e=>?_⟩,λ a ha b hb e=>?_⟩
 ·subst e;obtain⟨_,d,hd,e1,z1⟩:=mem ha;obtain⟨_,d',hd',e2,z2⟩:=mem hb;rw[Oia h hd hd' (e1.trans e2.symm)]at z1;rw[z1]at z2;cases z2
 ·subst e;rcases Vl.1 hb with hb|hb
  ·have:=(mem hb).1;rw[Hr.2 ha]at this;cases this
  ·have:=(mem hb).1;rw[Hr.2 ha]at this;cases this
def D1a {ns:List Nod} (h:(ns.map (·.1)).Nodup):∀ {ids:List Int},ids.Nodup→(whr ns ids).Nodup
 |[],_=>E1b
 |id::ids,hi=>by
  obtain⟨h1,h2⟩:=Yl.1 hi;rw[Po,Wq];refine⟨?_,D1a h h2,λ a ha b hb e=>?_⟩
  ·have:=Fba id ns 0 h
   match hq:atN ns id 0 with
   |[]=>exact E1b
   |[x]=>exact Bub _ _
   |x::y::l=>rw[hq,Vh,Vh]at this;omega
  ·subst e;obtain⟨j,hj1,hj2,hj3⟩:=(Qn id ns 0 a).1 ha;obtain⟨i,hi1,hi2,hi3⟩:=Om.1 hb
   have:i=j:=by omega
   subst this;rw[hj2]at hi2;exact h1 hi2
def WO.contacts_nodup {w:Wld} (h:WO w) (s:ByteArray):(contacts w s).Nodup:=by
 have hd:(w.1.map (·.1)).Nodup:=by rw[← h.ids];exact h.nodup
 exact D1a h.nodup (Ue hd (M6 h.ring s).1)
def NG.rows {n:Nod} (h:NG n):Be n.2.2.1:=(Hp.1 (Bn.1 h.1).2.2.2.1).1

section
open Go
end

def Oja {w:Wld} (h:WI w) {s t:ByteArray} {f g:Fil} (hf:IsW w.2.2.2.2.1 s f) (hg:IsW w.2.2.2.2.1 t g) (e:f.1=g.1):f=g:=by
 obtain⟨x,hx,_,rfl⟩:=hf;obtain⟨y,hy,_,rfl⟩:=hg;obtain⟨i,hi,rfl⟩:=Yr.1 hx;obtain⟨j,hj,rfl⟩:=Yr.1 hy;have ha:=Yq.1 h.asc;rcases Nat.lt_trichotomy i j with c|c|c
 ·have:=ha i j hi hj c;rw[e,Fx]at this;cases this
 ·subst c;rfl
 ·have:=ha j i hj hi c;rw[e,Fx]at this;cases this
def U2a {a b:Stp} (h1:sle a b=false) (h2:sle b a=false):a=b:=by
 have n1:¬ sle a b=true:=by rw[h1];decide
 have n2:¬ sle b a=true:=by rw[h2];decide
 rw[Ki]at n1 n2;obtain⟨a1,a2,a3⟩:=a;obtain⟨b1,b2,b3⟩:=b;dsimp only at n1 n2
 obtain rfl:a1=b1:=by omega
 obtain rfl:a2=b2:=by omega
 obtain rfl:a3=b3:=by omega
 rfl
def Oka {s:ByteArray} {f:Fil}:∀ (ns:List Nod) (a:Bool×Fil),(∀ n∈ns,((lkD n.2.1 s).2==0)=true→(lkD n.2.1 s).1=f)→(a.1=true→a.2=f)→(ns.foldl (Ud s) a).1=true→(ns.foldl (Ud s) a).2=f
 |[],a,_,h,h1=>h h1
 |n::ns,a,hn,h,h1=>by
  rw[Yx]at h1 ⊢;refine Oka ns _ (λ m hm=>hn m (Vd _ hm)) ?_ h1;have k:=hn n Wo;unfold Ud
  cases hc:(lkD n.2.1 s).2==0 with
  |false=>exact h
  |true=>
   rw[cond_true]
   cases !a.1||sle a.2.1 (lkD n.2.1 s).1.1 with
   |true=>exact λ _=>k hc
   |false=>exact h
def Z8a {d:Dsk} {s:ByteArray}:((lkD d s).2==0)=(old d s).isSome:=by
 have:=Hra (d:=d) (s:=s);unfold bne at this
 cases h:(lkD d s).2==0<;>cases h2:old d s<;>simp[h,h2]at this ⊢
section
variable {nm:List ByteArray} {w:Wld}
def RI.names (h:RI nm w.2.2.1.length w) {j:Nat} (hj:j<w.2.2.1.length) {s:ByteArray} (hs:(oN w.2.2.1 j s).isSome=true):lvN w s=true:=by
 obtain⟨f,hf⟩:=Zl.1 hs
 have hP:inP w s j=true:=by
  cases hp:inP w s j with
  |true=>rfl
  |false=>
   have e:oN w.2.2.1 j s=none:=h.fo s j hj hp;rw[e]at hf;cases hf
 have isw:∀ m,m<w.2.2.1.length→∀ g,oN w.2.2.1 m s=some g→IsW w.2.2.2.2.1 s g:=λ m hm g hg=>ED.now h.wi.wok ((h.wi.nodes _ (A3 (d:=Ae) hm)).2.1 s) hg
 have all:∀ m,m<w.2.2.1.length→oN w.2.2.1 m s=bif inP w s m then some f else none:=λ m hm=>by
  cases hp:inP w s m with
  |false=>exact h.fo s m hm hp
  |true=>
   obtain⟨y,h1,h2⟩:=h.fi s j hj hP f hf m hm hp;obtain⟨z,h3,h4⟩:=h.fi s m hm hp y h1 j hj hP;have h3':oN w.2.2.1 j s=some z:=h3;rw[hf]at h3';obtain rfl:=Bzb h3';have h1':oN w.2.2.1 m s=some y:=h1;rw[h1',Oja h.wi (isw j hj f hf) (isw m hm y h1') (U2a h4 h2)];rfl
 unfold lvN
 have hlk:∀ m,m<w.2.2.1.length→((lkD (w.2.2.1.getD m Ae).2.1 s).2==0)=inP w s m∧(inP w s m=true→(lkD (w.2.2.1.getD m Ae).2.1 s).1=f):=λ m hm=>by
  have a:=all m hm;unfold oN at a;refine⟨?_,λ hp=>?_⟩
  ·rw[Z8a,a]
   cases inP w s m<;>rfl
  ·rw[hp]at a;rw[A3a a]
 have hl:(lat w.2.2.1 s).2=f:=by
  unfold lat;refine Oka _ _ (λ n hn hc=>?_) (λ c=>by cases c) (Hoa _ _ (.inr ⟨_,A3 (d:=Ae) hj,by rw[(hlk j hj).1];exact hP⟩));obtain⟨m,hm,rfl⟩:=Yr.1 hn
  have e:w.2.2.1[m]=w.2.2.1.getD m Ae:=by rw[Vb,Vg hm];rfl
  rw[e]at hc ⊢;rw[(hlk m hm).1]at hc;exact(hlk m hm).2 hc
 rw[hl,Cna _ Ae,Yb];intro m hm;have hm':=Zx.1 hm;obtain⟨k1,k2⟩:=hlk m hm';have hb:=((isw j hj f hf).good h.wi.wok).2.2;unfold lvE;rw[← Rwa hm',k1,show Hc (whr w.2.2.1 (Km w.2.1 s)) (m:Int)=inP w s m from rfl]
 cases hp:inP w s m with
 |false=>rfl
 |true=>
  rw[k2 hp,(Npa hb hb).2 rfl];rfl
def RI.rows (h:RI nm w.2.2.1.length w) {j:Nat} (hj:j<w.2.2.1.length):Ahb w j=true:=by
 unfold Ahb Tva;rw[h.qe j hj]
 have refl:∀ l:List Row,O1a l l=true:=λ l=>by
  unfold O1a;rw[beq_self_eq_true,Wf,Yb];intro i _;unfold Agb;rw[Rr,C8.2 rfl,beq_self_eq_true,beq_self_eq_true,beq_self_eq_true,beq_self_eq_true,beq_self_eq_true];rfl
 show (true&&_)=true;rw[Wf];have hp:Hc (C9 w) (j:Int)=inP w Lj j:=rfl
 cases hL:inP w Lj j with
 |false=>
  rw[hp,hL,cond_false,O2a]
  have e:(w.2.2.1.getD j Ae).2.2.1=[]:=by
   cases hr:(w.2.2.1.getD j Ae).2.2.1 with
   |nil=>rfl
   |cons r l=>
    have h1:rN w.2.2.1 j r.1=none:=h.ro r.1 j hj hL;have h2:=I4 (h.wi.give j hj) (r:=r) (by rw[hr];exact Wo);unfold rN at h1;rw[h1]at h2;cases h2
  rw[e];rfl
 |true=>
  rw[hp,hL,cond_true];obtain⟨l0,l1,l2⟩:=O3a (hp.trans hL);obtain⟨p,ep⟩:∃ p:Nat,(C9 w).getD 0 0=(p:Int):=⟨((C9 w).getD 0 0).toNat,by omega⟩
  have hpP:inP w Lj p=true:=by
   show Hc (C9 w) (p:Int)=true;rw[← ep];exact Hr.2 (A3 l0)
  rw[ep,Vm]
  have hpn:p<w.2.2.1.length:=by omega
  have e:(w.2.2.1.getD j Ae).2.2.1=(w.2.2.1.getD p Ae).2.2.1:=by
   refine T8 (h.wi.give j hj) (h.wi.give p hpn) λ t=>?_
   have one:∀ a b,a<w.2.2.1.length→b<w.2.2.1.length→inP w Lj a=true→inP w Lj b=true→∀ x,rN w.2.2.1 a t=some x→rN w.2.2.1 b t=some x:=λ a b ha hb pa pb x hx=>by
    obtain⟨y,h1,h2⟩:=h.ri t a ha pa x hx b hb pb;obtain⟨z,h3,h4⟩:=h.ri t b hb pb y h1 a ha pa;have h3':rN w.2.2.1 a t=some z:=h3;rw[hx]at h3';obtain rfl:=Bzb h3';have h1':rN w.2.2.1 b t=some y:=h1;rw[h1',Mpa ((V2 _ hx).trans (V2 _ h1').symm) h4 h2]
   show rN w.2.2.1 j t=rN w.2.2.1 p t
   cases h1:rN w.2.2.1 j t with
   |some x=>exact(one j p hj hpn hL hpP x h1).symm
   |none=>
    cases h2:rN w.2.2.1 p t with
    |none=>rfl
    |some x=>rw[one p j hpn hj hpP hL x h2]at h1;cases h1
  rw[e];exact refl _
end

section
open Go
end

section
open Go
end

def Ola {b:List Int} {f:Fil} (h:Je b=some f):De f=true∧Av f.2.2:=⟨(Y5 h).1,(Y5 h).2.1⟩

section
open Go
end

def D2a {l:List Dev} {parts reps:Int} {m:Nat} (hm:m<(Pw l parts reps).2.2.1.length):((Pw l parts reps).2.2.1.getD m Ae).2=(([],[]),[],[]):=by
 obtain⟨d,_,e⟩:=Ys.1 (show (Pw l parts reps).2.2.1.getD m Ae∈l.map Ps from A3 hm);rw[← e];rfl
def P2a (ns:List Nod) (s:ByteArray) (T:Stp):Prop:=(∀ m,m<ns.length→∀ o,oN ns m s=some o→sle T o.1=false)∧∃ m,m<ns.length∧∃ o,oN ns m s=some o∧o.1=T
def S6a {d:Dsk} {s:ByteArray} {f:Fil} (hd:DG d) (g1:B2 s=true) (g2:De f=true) (g3:Av f.2.2):
  (∀ t,t≠s→old (keep d s f true).1 t=old d t)∧(old (keep d s f true).1 s=old d s∨(old (keep d s f true).1 s=some f∧∀ o,old d s=some o→sle o.1 f.1=true))∧
  ((keep d s f true).2=0∨(keep d s f true).2=1→∃ o,old (keep d s f true).1 s=some o∧sle o.1 f.1=false):=by
 rw[N2 hd.1 g1 g2];rcases Np (f:=f) (sure:=true) hd g1 with k|⟨o,h1,h2,h3,_,h5⟩|⟨h1,_,h3,_,h5⟩
 ·rw[k]
  exact⟨λ _ _=>rfl,.inl rfl,λ h=>by rcases h with h|h<;>cases h⟩
 ·rcases h5 with⟨c,_⟩|⟨_,e⟩
  ·cases c
  ·rw[e];exact⟨λ _ _=>rfl,.inl rfl,λ _=>⟨o,h1,h2⟩⟩
 ·rcases h5 with⟨c,_⟩|⟨_,e⟩
  ·cases c
  ·have ho:∀ t,old (Ii d s f true).1 t=if s=t then some f else old d t:=λ t=>by
    rw[e];show (gt (wr d.1 s (Gc f)) t).bind Je=_;rw[Y7 (H6 hd.1)]
    by_cases hst:s=t
    ·rw[if_pos hst,if_pos hst,Vt,M2 g2 g3]
    ·rw[if_neg hst,if_neg hst];rfl
   exact⟨λ t ht=>by rw[ho t,if_neg (λ e=>ht e.symm)],.inr ⟨by rw[ho s,if_pos rfl],h1⟩,λ _=>⟨f,by rw[ho s,if_pos rfl],Fx _⟩⟩
def P2a.set {ns:List Nod} {s:ByteArray} {T:Stp} (h:P2a ns s T) {p:Nat} (hp:p<ns.length) {x:Nod} (hx:old x.2.1 s=oN ns p s∨∃ f,old x.2.1 s=some f∧sle T f.1=false∧∀ o,oN ns p s=some o→sle o.1 f.1=true):P2a (ns.set p x) s T:=by
 have e:∀ m,m<ns.length→oN (ns.set p x) m s=if p=m then old x.2.1 s else oN ns m s:=λ m hm=>by
  unfold oN;rw[Dx hm]
  by_cases h:p=m
  ·rw[if_pos h,if_pos h]
  ·rw[if_neg h,if_neg h]
 obtain⟨h1,m,hm,o,h2,h3⟩:=h;refine⟨λ m hm o ho=>?_,m,by rw[Vu];exact hm,?_⟩
 ·rw[Vu]at hm;rw[e m hm]at ho
  by_cases hpm:p=m
  ·rw[if_pos hpm]at ho;rcases hx with hx|⟨f,hx,hf,_⟩
   ·rw[hx]at ho;exact h1 p hp o ho
   ·rw[hx]at ho;cases ho;exact hf
  ·rw[if_neg hpm]at ho;exact h1 m hm o ho
 ·rw[e m hm]
  by_cases hpm:p=m
  ·subst hpm;rw[if_pos rfl];rcases hx with hx|⟨f,hx,hf,hl⟩
   ·rw[hx];exact⟨o,h2,h3⟩
   ·have:=hl o h2;rw[h3,hf]at this;cases this
  ·rw[if_neg hpm];exact⟨o,h2,h3⟩

def D3a (l:List Dev) (parts reps:Int) (z:Rng) (hl:Gk l=true) (h0:0≤reps) (h5:reps≤5) (ps:List (List Int)) (hps:ps.length≤100) (hq:∀ q∈ps,q.length≤100):∀ (n:Nat) (p:List Int),p.length+n=reps.toNat→
  Tot (λ k=>Ez k l reps (ps.length:Int) parts (ps.length:Int) reps (p.length:Int) z (reps,ps++[p])) (λ x=>x=(l,reps,parts,(ps.length:Int),z,(reps,ps++[Cha l reps ps n p]))):=by
 intro n
 induction n with
 |zero=>
  intro p hp;refine Tot.succ ?_;simp (disch:=omega) only [Ez,dF];exact Aqb rfl
 |succ n ih=>
  intro p hp;refine Tot.succ ?_
  have hrb:RBd (reps,ps++[p]):=⟨by simp only[Vi,Vh,Vs];omega,λ q hq'=>by
   rcases Vl.1 hq' with h|h
   ·have:=hq q h;omega
   ·rw[Vp.1 h];omega⟩
  have hlen:(ps++[p]).length=ps.length+1:=by simp
  simp (disch:=omega) only [Ez,dT,Vm,w64,hlen,Nga,Rea];refine B1b (Rda (reps,ps++[p]) p l hrb (by omega) hl) ?_;refine Ayb (by simp only[Vh,Vs];omega) ?_;have:=ih (p++[Vr (reps,ps++[p]) p l]) (by simp only[Vi,Vh,Vs];omega);rw[show (((p++[Vr (reps,ps++[p]) p l]).length:Nat):Int)=(p.length:Int)+1 by simp]at this;exact this
def Oma (l:List Dev) (parts reps:Int) (hll:l.length≤5000000):Tot (λ k=>E5 k l parts reps) (λ x=>x=build l parts reps):=by
 unfold E5 build;refine B1b (Yz l (by omega)) ?_;cases hl:Gk l
 ·exact Atb rfl (Aqb rfl)
 simp only[Za,cond_false,My,Vt,Wf];cases hp:inR parts 1 64
 ·exact Atb rfl (Aqb rfl)
 refine Asb rfl ?_;cases hr:inR reps 1 5
 ·exact Atb rfl (Aqb rfl)
 obtain⟨r1,r2⟩:=Fk.1 hr;obtain⟨p1,p2⟩:=Fk.1 hp;refine Asb rfl ?_;cases hc:decide (reps > (l.length:Int))
 case true=>exact Atb rfl (Aqb rfl)
 refine Asb rfl (Arb (Q:=λ x=>x=(((0:Int),([]:List (List Int))),(reps,Jva l reps parts.toNat []))) ?_ (by rintro x rfl;exact Aqb rfl));obtain⟨n,rfl⟩:∃ n:Nat,parts=(n:Int):=⟨parts.toNat,by omega⟩;refine Azb (L:=λ k i (s:Rng)=>F3 k l reps (n:Int) i (0,[]) s) (Q:=λ x=>x=(((0:Int),([]:List (List Int))),(reps,Jva l reps n []))) n (λ j s=>∃ ps,s=(reps,ps)∧ps.length=j∧(∀ q∈ps,q.length≤100)∧Jva l reps (n-j) ps=Jva l reps n []) ?_ ?_ 0 (reps,[]) (Vw _) ⟨[],rfl,rfl,λ q h=>(by cases h),rfl⟩
 ·rintro s ⟨ps,rfl,hps,_,h⟩;rw[Ceb]at h;simp (disch:=omega) only [F3,dF];exact Aqb (by rw[← h];rfl)
 ·rintro j s hj ⟨ps,rfl,hps,hq,h⟩ next;simp (disch:=omega) only [F3,dT];refine Ayb (by simp only[Vh,Vs];omega) ?_;have h9:=D3a l (n:Int) reps (0,[]) hl (by omega) r2 ps (by omega) hq reps.toNat [] (by simp);rw[hps]at h9;refine Arb h9 ?_;rintro x rfl;simp (disch:=omega) only [w64];refine next _ ⟨ps++[Cha l reps ps reps.toNat []],rfl,by rw[Vi,hps];rfl,λ q hq'=>?_,?_⟩
  ·rcases Vl.1 hq' with h'|h'
   ·exact hq q h'
   ·rw[Vp.1 h',Cia,Vs];omega
  ·rw[show n-j=(n-(j+1))+1 by omega]at h;exact h
def Fea (i:Int):Fm i=some (bif inR i 0 20 then (i,([],[]),[],[]) else Ae):=by
 unfold Fm;rw[My];simp only[Vt]
 cases inR i 0 20<;>rfl
def D4a (l:List Dev) (parts reps:Int) (hll:l.length≤5000000):Tot (λ k=>Ca k l parts reps) (λ r=>r=bif (build l parts reps).2 then Pw l parts reps else P0a):=by
 unfold Ca;refine B1b (Oma l parts reps hll) ?_
 cases hb:(build l parts reps).2 with
 |false=>exact Atb rfl (Aqb rfl)
 |true=>
 obtain⟨h1,_,_,_⟩:=Rv hb;have h12:=(Dl.1 h1).2.2.2;refine Asb rfl (Ayb (by rw[Vs];omega) ?_);rw[Wl,cond_true];refine Arb (Q:=λ r=>r=(P0a,Pw l parts reps)) ?_ (by rintro r rfl;exact Aqb rfl);refine Azb (L:=λ k i (s:List Nod)=>Cz k l (l.length:Int) i P0a (l,(build l parts reps).1,s,(0,0,0),[],[])) (Q:=λ r=>r=(P0a,Pw l parts reps)) l.length (λ j s=>s=(l.take j).map Ps) ?_ ?_ 0 [] (Vw _) rfl
 ·rintro s rfl;simp (disch:=omega) only [Cz,dF];exact Aqb (by rw[Zf];rfl)
 ·rintro j s hj rfl next;have hd:=A3 (d:=Ju) hj;obtain⟨d,ed⟩:∃ d:Dev,l.getD j Ju=d:=⟨_,rfl⟩;rw[ed]at hd;have e0:l.getD j ((0:Int),((0:Int),(0:Int)))=d:=ed
  have e1:l[j]=d:=by rw[← ed,Vb,Vg hj];rfl
  have hid:=(I5.1 ((Dl.1 h1).2.1 d hd)).1;simp (disch:=omega) only [Cz,dT,Vm,w64,e0,Fea,Vt]
  have hl:((l.take j).map Ps).length=j:=by rw[Vz,Vq];omega
  rw[Fk.2 hid,cond_true];refine Ayb (by rw[hl];simp only[Vh,Vs];omega) (next _ ?_);rw[Wi hj,Bqb,e1];rfl

def Wha {cs:List Int} (h:cs.Nodup) {i j:Nat} (hi:i<cs.length) (hj:j<cs.length) (hij:i≠j) (h0:∀ x∈cs,0≤x):(cs.getD i 0).toNat≠(cs.getD j 0).toNat:=λ e=>by
 have a:=h0 _ (A3 (d:=0) hi);have b:=h0 _ (A3 (d:=0) hj)
 have e':cs.getD i 0=cs.getD j 0:=by omega
 rw[Vb,Vb,Vg hi,Vg hj]at e';rw[Wp,Wp]at e';rcases Nat.lt_or_gt_of_ne hij with hl|hl
 ·exact(Yq.1 h i j hi hj hl) e'
 ·exact(Yq.1 h j i hj hi hl) e'.symm

def S7a (i:Int) (s:ByteArray) (f:Fil) (sure:Bool):Nod:=(i,([(s,Gc f)],bif sure then [(s,Gc f)] else []),[],bif sure then [Rd s f] else [])
def Jna (i:Int) {s:ByteArray} {f:Fil} (sure:Bool) (g1:B2 s=true) (g2:De f=true):Oo (i,([],[]),[],[]) s f sure=(S7a i s f sure,0):=by
 have e1:wr [] s (Gc f)=[(s,Gc f)]:=rfl
 have e2:wrD ([],[]) s (Gc f)=(([(s,Gc f)],[]),true):=by
  unfold wrD;rw[decide_eq_true (show (Gc f).length≤400 by have:=Ru f;omega)];rfl
 have e3:sy (([(s,Gc f)],[]):Dsk) s=[(s,Gc f)]:=by
  unfold sy;rw[show gt (([(s,Gc f)],[]):Dsk).1 s=some (Gc f) by rw[Tj,if_pos rfl]];rfl
 have e5:kp1 ([],[]) s f=some ((([(s,Gc f)],[]):Dsk),0):=by
  unfold kp1;rw[e2];rfl
 have e6:keep ([],[]) s f sure=(([(s,Gc f)],bif sure then [(s,Gc f)] else []),0):=by
  rw[N2 dg0.1 g1 g2];unfold Ii;rw[e5];show kp2 ([],[]) s sure (([(s,Gc f)],[]),0)=_;cases sure
  ·rfl
  ·unfold kp2 syD;rw[e3];rfl
 unfold Oo S7a;dsimp only;rw[e6]
 cases sure<;>rfl
def S8a {i:Int} {s:ByteArray} {f:Fil} {sure:Bool} (g2:De f=true) (g3:Av f.2.2) (t:ByteArray):old (S7a i s f sure).2.1 t=if s=t then some f else none:=by
 unfold S7a old;show (gt [(s,Gc f)] t).bind Je=_;rw[Tj]
 by_cases h:s=t
 ·rw[if_pos h,if_pos h,Vt,M2 g2 g3]
 ·rw[if_neg h,if_neg h];rfl
def Wia {R:Int} {rc:List Int} {s:ByteArray} {f:Fil} {cs:List Int} {ns:List Nod} {q g v:Int} {j:Nat} (hq:q<R) (hv:rch rc j=v) (hv0:v≠0) (g1:B2 s=true) (g2:De f=true) (he:(ns.getD (cs.getD j 0).toNat Ae).2=(([],[]),[],[])):
  wst R rc s f cs (ns,q,g) j=(ns.set (cs.getD j 0).toNat (S7a (ns.getD (cs.getD j 0).toNat Ae).1 s f (v != 3)),q+1,bif v==1 then g+1 else g):=by
 unfold wst;dsimp only;rw[decide_eq_true hq,hv,cond_true,show (v==0)=false from beq_eq_false_iff_ne.2 hv0,cond_false];have e:ns.getD (cs.getD j 0).toNat Ae=((ns.getD (cs.getD j 0).toNat Ae).1,([],[]),[],[]):=Prod.ext rfl he;generalize ns.getD (cs.getD j 0).toNat Ae=n at *;rw[e,Jna n.1 (v != 3) g1 g2]
 cases v==1<;>rfl
def Ona {ns:List Nod} {id:Int} (h:id∈ns.map (·.1)):1≤(atN ns id 0).length:=by
 obtain⟨n,hn,rfl⟩:=Ys.1 h;obtain⟨j,hj,e⟩:=Yr.1 hn;have:=(Qn n.1 ns 0 ((0+j:Nat):Int)).2 ⟨j,hj,by rw[Vb,Vg hj,Wp,e],rfl⟩;exact B6b this
def Ooa {ns:List Nod}:∀ {ids:List Int},(∀ i∈ids,i∈ns.map (·.1))→ids.length≤(whr ns ids).length
 |[],_=>Vw _
 |i::ids,h=>by
  rw[Po,Vi,Vh];have:=Ona (h i Wo);have:=Ooa (ids:=ids) (λ x hx=>h x (Vd _ hx));omega
def WO.prims {w:Wld} (h:WO w) (s:ByteArray):((Hs w s).length:Int)=w.2.1.1∧(contacts w s).take (Hs w s).length=Hs w s∧(Hs w s).length≤(contacts w s).length:=by
 have p:=M6 h.ring s;have h1:=Fca h.nodup (Km w.2.1 s);have h2:=Ooa (ns:=w.2.2.1) (ids:=Km w.2.1 s) (λ i hi=>by rw[h.ids];exact Kd.1 (p.2.2 i hi));have e:contacts w s=Hs w s++whr w.2.2.1 (I7 w.2.1 w.1 s):=F5a _ _ _;refine⟨?_,by rw[e,Cjb  rfl],by rw[e,Vi];omega⟩;have:=p.2.1;unfold Hs;omega
def WO.more {w:Wld} (h:WO w) (s:ByteArray) (hd:w.2.1.1<(w.1.length:Int)):w.2.1.1<((contacts w s).length:Int):=by
 have p:=M6 h.ring s
 have hn:(w.1.map (·.1)).Nodup:=by rw[← h.ids];exact h.nodup
 have e:contacts w s=Hs w s++whr w.2.2.1 (I7 w.2.1 w.1 s):=F5a _ _ _
 have hex:∃ i∈w.1.map (·.1),i∉Km w.2.1 s:=by
  refine Bmb λ c=>?_;have:=H7a (w.1.map (·.1)) (Km w.2.1 s) hn (λ x hx=>Bmb λ hx'=>c ⟨x,hx,hx'⟩);rw[Vz]at this;omega
 obtain⟨i,hi,hni⟩:=hex;obtain⟨d,hd1,rfl⟩:=Ys.1 hi
 have hp:Hc (Km w.2.1 s) d.1=false:=by
  cases hh:Hc (Km w.2.1 s) d.1 with
  |false=>rfl
  |true=>exact absurd (Hr.1 hh) hni
 have hin:d.1∈I7 w.2.1 w.1 s:=by
  unfold I7;rw[Vl]
  have one:∀ z,Hc (Dw (Km w.2.1 s) w.1) d.2.1=z→d.1∈hoA (Km w.2.1 s) (Dw (Km w.2.1 s) w.1) z w.1:=λ z hz=>by
   unfold hoA;refine Ye (Bcb.2 ⟨hd1,?_⟩);rw[hp,hz,beq_self_eq_true];rfl
  cases hz:Hc (Dw (Km w.2.1 s) w.1) d.2.1 with
  |false=>exact .inl (one _ hz)
  |true=>exact .inr (one _ hz)
 obtain⟨a,b,eab⟩:=List.append_of_mem hin
 have h3:1≤(whr w.2.2.1 (I7 w.2.1 w.1 s)).length:=by
  rw[eab,F5a,Po,Vi,Vi];have:=Ona (ns:=w.2.2.1) (id:=d.1) (by rw[h.ids];exact hi);omega
 have:=(h.prims s).1;rw[e,Vi];omega

def S9a {d:Dsk} {s:ByteArray} {f:Fil} (hd:DG d) (h:old d s=some f):B2 s=true∧De f=true∧Av f.2.2:=by
 unfold old at h
 cases hg:gt d.1 s with
 |none=>rw[hg]at h;cases h
 |some b=>
  rw[hg]at h;have h1:=(B3.1 (Dv.1 hd.1).1).2.1 _ (Jf hg);unfold nOk at h1;rw[Va]at h1;exact⟨h1.1,Ola h⟩
def Ffa {w:Wld} (h:WO w) {i:Nat} (hi:i<w.2.2.1.length) {s:ByteArray} {f:Fil} {rc:List Int} (hf:oN w.2.2.1 i s=some f) {T:Stp} (ht:P2a w.2.2.1 s T):
  NS (puN w i s rc).1∧(puN w i s rc).1.length=w.2.2.1.length∧P2a (puN w i s rc).1 s T∧(∀ t,t≠s→∀ m,m<w.2.2.1.length→oN (puN w i s rc).1 m t=oN w.2.2.1 m t)∧oN (puN w i s rc).1 i s=some f∧
  (puN w i s rc).2.1=inP w s i∧((puN w i s rc).2.2=true→∀ x∈Hs w s,x≠(i:Int)→∃ o,oN (puN w i s rc).1 x.toNat s=some o∧sle o.1 f.1=false):=by
 obtain⟨g1,g2,g3⟩:=S9a (h.ns.get hi).g hf
 have hlk:(lkD (w.2.2.1.getD i Ae).2.1 s).1=f:=by rw[A3a hf]
 have hat:=λ x=>Ke (w:=w) (s:=s) (x:=x);have hns:=h.ns;have hT:=ht.1 i hi f hf;unfold puN inP;rw[hlk];generalize Hs w s=ps at *
 have key:=H7 (st:=pst (i:Int) s f rc ps) (n:=ps.length) (a:=(w.2.2.1,false,true)) (λ j (a:List Nod×Bool×Bool)=>NS a.1∧a.1.length=w.2.2.1.length∧P2a a.1 s T∧(∀ t,t≠s→∀ m,m<w.2.2.1.length→oN a.1 m t=oN w.2.2.1 m t)∧oN a.1 i s=some f∧
  a.2.1=Hc (ps.take j) (i:Int)∧(a.2.2=true→∀ x∈ps.take j,x≠(i:Int)→∃ o,oN a.1 x.toNat s=some o∧sle o.1 f.1=false)) ⟨hns,rfl,ht,λ _ _ _ _=>rfl,hf,rfl,λ _ x hx=>by rw[B7b]at hx;cases hx⟩ ?_
 ·rw[Zf]at key;exact key
 ·rintro j ⟨ns,o,g⟩ hj ⟨a1,a2,a3,a4,a5,a6,a7⟩;dsimp only at a1 a2 a3 a4 a5 a6 a7;have hpx:=hat _ (A3 (d:=0) hj);obtain⟨p,hp⟩:∃ p:Nat,ps.getD j 0=(p:Int):=⟨(ps.getD j 0).toNat,by omega⟩
  have e:ps[j]=(p:Int):=by rw[← hp,Vb,Vg hj];rfl
  have htk:∀ x:Int,Hc (ps.take (j+1)) x=(Hc (ps.take j) x||(p:Int)==x):=λ x=>by
   unfold Hc;rw[Wi hj,Dyb,e,D3b,E4b,Bab]
  have hmem:∀ x,x∈ps.take (j+1)→x∈ps.take j∨x=(p:Int):=λ x hx=>by
   rw[Wi hj,Vl,Vp,e]at hx;exact hx
  unfold pst;rw[hp,Vm]
  cases hpi:(p:Int)==(i:Int) with
  |true=>
   refine⟨a1,a2,a3,a4,a5,?_,λ hg x hx hne=>?_⟩
   ·show true=_;rw[htk,hpi,Bool.or_true]
   ·rcases hmem x hx with h|rfl
    ·exact a7 hg x h hne
    ·exact absurd (eq_of_beq hpi) hne
  |false=>
   rw[cond_false]
   cases rch rc j != 1 with
   |true=>
    refine⟨a1,a2,a3,a4,a5,?_,λ c=>by cases c⟩;show o=_;rw[a6,htk,hpi,Bab]
   |false=>
    have ne:p≠i:=by intro e;rw[e,beq_self_eq_true]at hpi;cases hpi
    have hpn:p<ns.length:=by omega
    have hni:=a1.get hpn;obtain⟨k1,k2,k3⟩:=S6a hni.g g1 g2 g3
    have eo:∀ m,m<w.2.2.1.length→∀ t,oN (ns.set p ((ns.getD p Ae).1,(keep (ns.getD p Ae).2.1 s f true).1,(ns.getD p Ae).2.2)) m t=if p=m then old (keep (ns.getD p Ae).2.1 s f true).1 t else oN ns m t:=λ m hm t=>by
     unfold oN;rw[Dx (by omega)]
     by_cases h:p=m
     ·rw[if_pos h,if_pos h]
     ·rw[if_neg h,if_neg h]
    refine⟨a1.set (Tu hni),by show (ns.set _ _).length=_;rw[Vu];exact a2,a3.set hpn (k2.imp id λ ⟨q1,q2⟩=>⟨f,q1,hT,q2⟩),λ t hts m hm=>?_,?_,?_,λ hg x hx hne=>?_⟩
    ·show oN (ns.set p _) m t=_;rw[eo m hm t]
     by_cases h:p=m
     ·subst h;rw[if_pos rfl,k1 t hts];exact a4 t hts p hm
     ·rw[if_neg h];exact a4 t hts m hm
    ·show oN (ns.set p _) i s=_;rw[eo i hi s,if_neg ne];exact a5
    ·show o=_;rw[a6,htk,hpi,Bab]
    ·have hg':(bif (keep (ns.getD p Ae).2.1 s f true).2 != 0&&(keep (ns.getD p Ae).2.1 s f true).2 != 1 then false else g)=true:=hg
     have hg2:((keep (ns.getD p Ae).2.1 s f true).2=0∨(keep (ns.getD p Ae).2.1 s f true).2=1)∧g=true:=by
      cases hk:(keep (ns.getD p Ae).2.1 s f true).2 != 0&&(keep (ns.getD p Ae).2.1 s f true).2 != 1 with
      |true=>rw[hk]at hg';cases hg'
      |false=>
       rw[hk]at hg';rw[Ctb,bne,bne,Yg,Yg,beq_iff_eq,beq_iff_eq]at hk;exact⟨hk,hg'⟩
     show ∃ o,oN (ns.set p _) x.toNat s=some o∧_
     by_cases hxp:x=(p:Int)
     ·subst hxp;rw[Vm,eo p (by omega) s,if_pos rfl];exact k3 hg2.1
     ·have hxj:=(hmem x hx).resolve_right hxp;have hxa:=hat x (B3b hxj);obtain⟨y,y1,y2⟩:=a7 hg2.2 x hxj hne;rw[eo x.toNat (by omega) s,if_neg (λ c=>hxp (by omega))];exact⟨y,y1,y2⟩
def Opa (ns:List Nod) (s:ByteArray) (h:∃ i,i<ns.length∧∃ f,oN ns i s=some f):∃ T,P2a ns s T:=by
 have key:∀ k,k≤ns.length→(∃ i,i<k∧∃ f,oN ns i s=some f)→∃ T,(∀ m,m<k→∀ o,oN ns m s=some o→sle T o.1=false)∧∃ m,m<k∧∃ o,oN ns m s=some o∧o.1=T:=by
  intro k
  induction k with
  |zero=>rintro _ ⟨i,hi,_⟩;omega
  |succ k ih=>
   rintro hk ⟨i,hi,f,hf⟩
   by_cases hp:∃ i,i<k∧∃ f,oN ns i s=some f
   ·obtain⟨T,h1,m,hm,o,h2,h3⟩:=ih (by omega) hp
    cases hq:oN ns k s with
    |none=>exact⟨T,λ m hm o ho=>by
      by_cases e:m=k
      ·rw[e,hq]at ho;cases ho
      ·exact h1 m (by omega) o ho,m,by omega,o,h2,h3⟩
    |some g=>
     cases hs:sle T g.1 with
     |false=>exact⟨T,λ m hm o ho=>by
       by_cases e:m=k
       ·rw[e,hq]at ho;cases ho;exact hs
       ·exact h1 m (by omega) o ho,m,by omega,o,h2,h3⟩
     |true=>exact⟨g.1,λ m hm o ho=>by
       by_cases e:m=k
       ·rw[e,hq]at ho;cases ho;exact Fx _
       ·exact R4 (N4 hs) (h1 m (by omega) o ho),k,by omega,g,hq,rfl⟩
   ·have e:i=k:=by
     by_cases c:i=k
     ·exact c
     ·exact absurd ⟨i,by omega,f,hf⟩ hp
    subst e
    exact⟨f.1,λ m hm o ho=>by
     by_cases c:m=i
     ·subst c;rw[hf]at ho;cases ho;exact Fx _
     ·exact absurd ⟨m,by omega,o,ho⟩ hp,i,by omega,f,hf,rfl⟩
 exact key _ (Vv _) h
def Lat (ns ms:List Nod) (s:ByteArray):Prop:=(∀ T,P2a ns s T→P2a ms s T)∧((∀ m,m<ns.length→oN ns m s=none)→∀ m,m<ms.length→oN ms m s=none)
def Lat.refl (ns:List Nod) (s:ByteArray):Lat ns ns s:=⟨λ _ h=>h,λ h=>h⟩
def Lat.trans {a b c:List Nod} {s:ByteArray} (h1:Lat a b s) (h2:Lat b c s):Lat a c s:=⟨λ T h=>h2.1 T (h1.1 T h),λ h=>h2.2 (h1.2 h)⟩
def Lat.same {ns ms:List Nod} {s:ByteArray} (hl:ms.length=ns.length) (h:∀ m,m<ns.length→oN ms m s=oN ns m s):Lat ns ms s:=
 ⟨λ T ⟨h1,m,hm,o,h2,h3⟩=>⟨λ m hm o ho=>h1 m (by omega) o (by rw[← h m (by omega)];exact ho),m,by omega,o,by rw[h m hm];exact h2,h3⟩,λ hn m hm=>by rw[h m (by omega)];exact hn m (by omega)⟩
def Oqa {w:Wld} (h:WO w) {i:Nat} (hi:i<w.2.2.1.length) (s:ByteArray) (rc:List Int) (t:ByteArray):Lat w.2.2.1 (Md w i s rc).2.2.2.1 t:=by
 unfold Md;rw[Hra]
 cases ho:oN w.2.2.1 i s with
 |none=>
  have e1:old (w.2.2.1.getD i Ae).2.1 s=none:=ho;rw[e1];exact Lat.refl _ _
 |some f=>
  have e1:old (w.2.2.1.getD i Ae).2.1 s=some f:=ho;rw[e1];show Lat w.2.2.1 (bif (puN w i s rc).2.2&&!(puN w i s rc).2.1 then (puN w i s rc).1.set i (Wza ((puN w i s rc).1.getD i Ae) s) else (puN w i s rc).1) t
  have out:∀ ns:List Nod,NS ns→i<ns.length→oN ns i s=some f→∀ m,m<ns.length→∀ t,oN (ns.set i (Wza (ns.getD i Ae) s)) m t=if i=m∧s=t then none else oN ns m t:=λ ns hns hin hs m hm t=>by
   unfold oN;rw[Dx hm]
   by_cases e:i=m
   ·subst e;rw[if_pos rfl];have hg:=(hns.get hin).g
    have hgs:(gt (ns.getD i Ae).2.1.1 s).isSome=true:=by
     have hs':old (ns.getD i Ae).2.1 s=some f:=hs;unfold old at hs'
     cases hq:gt (ns.getD i Ae).2.1.1 s with
     |none=>rw[hq]at hs';cases hs'
     |some b=>rfl
    show old (syD (rmD (ns.getD i Ae).2.1 s).1 s).1 t=_;rw[Oba hg hgs t]
    by_cases hst:s=t
    ·rw[if_pos hst,if_pos ⟨rfl,hst⟩]
    ·rw[if_neg hst,if_neg (λ c=>hst c.2)]
   ·rw[if_neg e,if_neg (λ c=>e c.1)]
  refine⟨λ T hT=>?_,λ hn=>?_⟩
  ·by_cases hts:t=s
   ·subst hts;obtain⟨p1,p2,p3,p4,p5,p6,p7⟩:=Ffa (rc:=rc) h hi ho hT
    cases hc:(puN w i t rc).2.2&&!(puN w i t rc).2.1 with
    |false=>exact p3
    |true=>
     rw[Va,Wa]at hc;rw[cond_true];have eo:=out _ p1 (by omega) p5;obtain⟨h1,m,hm,o,h2,h3⟩:=p3;refine⟨λ m hm o hq=>?_,?_⟩
     ·rw[Vu]at hm;rw[eo m hm t]at hq
      by_cases c:i=m∧t=t
      ·rw[if_pos c]at hq;cases hq
      ·rw[if_neg c]at hq;exact h1 m hm o hq
     ·by_cases him:i=m
      ·subst him;rw[p5]at h2;obtain rfl:=Bzb h2;obtain⟨x,hx⟩:=D0b (Cqa (s:=t) h.ring h.ids);have hxa:=Ke hx
       have hne:x≠(i:Int):=λ e=>by
        subst e;have:inP w t i=true:=Hr.2 hx;rw[p6,this]at hc;cases hc.2
       obtain⟨y,y1,y2⟩:=p7 hc.1 x hx hne;refine⟨x.toNat,by rw[Vu];omega,y,?_,?_⟩
       ·rw[eo x.toNat (by omega) t,if_neg (λ c=>hne (by omega))];exact y1
       ·rw[h3]at y2;exact U2a y2 (h1 x.toNat (by omega) y y1)
      ·refine⟨m,by rw[Vu];exact hm,o,?_,h3⟩;rw[eo m hm t,if_neg (λ c=>him c.1)];exact h2
   ·have hTs:∃ S,P2a w.2.2.1 s S:=Opa _ s ⟨i,hi,f,ho⟩;obtain⟨S,hS⟩:=hTs;obtain⟨p1,p2,p3,p4,p5,p6,p7⟩:=Ffa (rc:=rc) h hi ho hS;refine(Lat.same (ns:=w.2.2.1) ?_ λ m hm=>?_).1 T hT
    ·cases (puN w i s rc).2.2&&!(puN w i s rc).2.1 with
     |false=>exact p2
     |true=>rw[cond_true,Vu];exact p2
    ·cases (puN w i s rc).2.2&&!(puN w i s rc).2.1 with
     |false=>exact p4 t hts m hm
     |true=>
      rw[cond_true,out _ p1 (by omega) p5 m (by omega) t,if_neg (λ c=>hts c.2.symm)];exact p4 t hts m hm
  ·by_cases hts:t=s
   ·subst hts;rw[hn i hi]at ho;cases ho
   ·obtain⟨S,hS⟩:=Opa w.2.2.1 s ⟨i,hi,f,ho⟩;obtain⟨p1,p2,p3,p4,p5,p6,p7⟩:=Ffa (rc:=rc) h hi ho hS;refine(Lat.same (ns:=w.2.2.1) ?_ λ m hm=>?_).2 hn
    ·cases (puN w i s rc).2.2&&!(puN w i s rc).2.1 with
     |false=>exact p2
     |true=>rw[cond_true,Vu];exact p2
    ·cases (puN w i s rc).2.2&&!(puN w i s rc).2.1 with
     |false=>exact p4 t hts m hm
     |true=>
      rw[cond_true,out _ p1 (by omega) p5 m (by omega) t,if_neg (λ c=>hts c.2.symm)];exact p4 t hts m hm

def DS (ns ms:List Nod):Prop:=∀ m,(ms.getD m Ae).2.1=(ns.getD m Ae).2.1
def DS.set {ns ms:List Nod} (h:DS ns ms) {p:Nat} {x:Nod} (hx:x.2.1=(ms.getD p Ae).2.1):DS ns (ms.set p x):=λ m=>by
 rw[← h m]
 by_cases hm:m<ms.length
 ·rw[Dx hm]
  by_cases e:p=m
  ·rw[if_pos e,hx,e]
  ·rw[if_neg e]
 ·rw[Vb,Vb,Zd (by rw[Vu];omega),Zd (by omega)]
def Hva (w:Wld) (src:Int) (l:List Row) (self:Bool) (rc:List Int):DS w.2.2.1 (Ia w src l self rc).1:=by
 unfold Ia;refine H7 (λ _ (a:List Nod×Bool)=>DS w.2.2.1 a.1) (λ _=>rfl) λ j b hj hb=>?_;unfold gst
 cases (C9 w).getD j 0==src&&!self with
 |true=>exact hb
 |false=>
  cases rch rc j != 1 with
  |true=>exact hb
  |false=>
   refine hb.set ?_;unfold tk
   cases decide ((Mb (b.1.getD ((C9 w).getD j 0).toNat Ae).2.2.1 l).length > 60)<;>rfl
def Saa (w:Wld) (i:Nat) (rc:List Int):DS w.2.2.1 (On w i rc).2.2.2.1:=by
 have h:=Hva w (i:Int) ((w.2.2.1.getD i Ae).2.2.2.take 1) true rc;unfold On
 cases ((w.2.2.1.getD i Ae).2.2.2.length:Int)==0 with
 |true=>exact λ _=>rfl
 |false=>
  show DS w.2.2.1 (bif (Jb w i rc).2 then (Jb w i rc).1.set i (W2a ((Jb w i rc).1.getD i Ae) ((w.2.2.1.getD i Ae).2.2.2.drop 1)) else (Jb w i rc).1)
  cases (Jb w i rc).2 with
  |true=>exact DS.set h rfl
  |false=>exact h
def Sba (w:Wld) (i:Nat) (rc:List Int):DS w.2.2.1 (Me w i rc).2.2.2.1:=by
 have h:=Hva w (i:Int) (w.2.2.1.getD i Ae).2.2.1 false rc;unfold Me
 cases ((w.2.2.1.getD i Ae).2.2.1.length:Int)==0 with
 |true=>exact λ _=>rfl
 |false=>
  show DS w.2.2.1 (bif (I6 w i rc).2&&!(Hc (C9 (wN w (I6 w i rc).1)) (i:Int)) then (I6 w i rc).1.set i (Pp ((I6 w i rc).1.getD i Ae)) else (I6 w i rc).1)
  cases (I6 w i rc).2&&!(Hc (C9 (wN w (I6 w i rc).1)) (i:Int)) with
  |true=>exact DS.set h rfl
  |false=>exact h
def DS.lat {ns ms:List Nod} (h:DS ns ms) (hl:ms.length=ns.length) (s:ByteArray):Lat ns ms s:=Lat.same hl λ m _=>by unfold oN;rw[h m]
def Wja {w:Wld} (h:WO w) {i:Nat} (hi:i<w.2.2.1.length) (s:ByteArray):Lat w.2.2.1 (qtA w i).2.2.1 s:=Lat.same (Hpa h hi).len λ m hm=>by
 show oN (w.2.2.1.set i (Toa (w.2.2.1.getD i Ae)).1) m s=_;unfold oN;rw[Dx hm]
 by_cases e:i=m
 ·subst e;rw[if_pos rfl];exact Cya (h.ns.get hi).g s
 ·rw[if_neg e]
def Tz {i:Nat} (t:ByteArray):∀ (l:List ByteArray) {w:Wld},WO w→i<w.2.2.1.length→Lat w.2.2.1 (Jc w i l).2.2.1 t
 |[],w,_,_=>Lat.refl _ _
 |s::l,w,h,hi=>by
  have h1:=O5a h hi s Cy;exact(Oqa h hi s Cy t).trans (Tz t l (h1.wo h) (by rw[h1.len];exact hi))
def U0 {w:Wld} (h:WO w) {i:Nat} (hi:i<w.2.2.1.length) (t:ByteArray):∀ n,Lat w.2.2.1 (Iz w i n).2.2.1 t
 |0=>Lat.refl _ _
 |n+1=>by
  have h1:=Lc h hi n;have h2:=O6a (h1.wo h) (i:=i) (by rw[h1.len];exact hi) Cy;exact(U0 h hi t n).trans ((Saa (Iz w i n) i Cy).lat h2.len t)
def Wka {w:Wld} (h:WO w) {i:Nat} (hi:i<w.2.2.1.length) (t:ByteArray):Lat w.2.2.1 (qtP w i).2.2.1 t:=by
 have h1:=Hpa h hi;have a1:=Wja h hi t;have h1o:=h1.wo h;have h1l:=h1.len;unfold qtP;generalize Mc ((qtA w i).2.2.1.getD i Ae).2.1=l;generalize qtA w i=u at *;exact a1.trans (Tz t l h1o (by omega))
def Wla {w:Wld} (h:WO w) {i:Nat} (hi:i<w.2.2.1.length) (t:ByteArray):Lat w.2.2.1 (qtN w i).2.2.1 t:=by
 have h2:=O8a h hi;have a2:=Wka h hi t;have h2o:=h2.wo h;have h2l:=h2.len;unfold qtN qtT;generalize qtP w i=u at *;generalize (u.2.2.1.getD i Ae).2.2.2.length=n;have h3:=Lc h2o (i:=i) (by omega) n;have a3:=U0 h2o (i:=i) (by omega) t n;have h3o:=h3.wo h2o;have h3l:=h3.len;generalize Iz u i n=v at *;have h4:=O7a h3o (i:=i) (by omega) Cy;exact(a2.trans a3).trans ((Sba v i Cy).lat h4.len t)
def Ora {w:Wld} (h:WO w) (t:ByteArray):∀ k,k≤w.2.2.1.length→Lat w.2.2.1 (run qtN k w).2.2.1 t
 |0,_=>Lat.refl _ _
 |k+1,hk=>by
  have h1:=O9a h k (by omega);have:=Wla (h1.wo h) (i:=k) (by rw[h1.len];omega) t;rw[Gt];exact(Ora h t k (by omega)).trans this
def Osa {w:Wld} (h:WO w) (t:ByteArray):Lat w.2.2.1 (Hv w).2.2.1 t:=Ora h t _ (Vv _)

def Ota {l:List Dev} {p n:Int} {s:ByteArray} {d:List Int} {rc:List Int} (hs:B2 s=true) (hd:d.length≤200):
  ask (Pw l p n) s ((0,0,0),false,d) 5 rc=Nz (l,(build l p n).1,l.map Ps,(5,0,0),[],[]) s ((5,0,0),false,d) rc:=by
 unfold ask;rw[hs];dsimp only;rw[decide_eq_false (show ¬ (d.length:Int) > 200 by omega)];rfl
def Oua {w:Wld} (h:WO w) {s:ByteArray} (hex:∃ m,m<w.2.2.1.length∧∃ f,oN w.2.2.1 m s=some f):∃ m,m<(Hv w).2.2.1.length∧∃ f,oN (Hv w).2.2.1 m s=some f:=by
 obtain⟨T,hT⟩:=Opa w.2.2.1 s hex;obtain⟨_,m,hm,o,h2,_⟩:=(Osa h s).1 T hT;exact⟨m,hm,o,h2⟩
def RI.only {nm:List ByteArray} {z:Wld} (h:RI nm z.2.2.1.length z) {s:ByteArray} {f:Fil} {b:Bool} (hw:z.2.2.2.2.1=[(s,f,b)]) (hex:∃ m,m<z.2.2.1.length∧∃ f,oN z.2.2.1 m s=some f) {p:Nat} (hp:p<z.2.2.1.length):oN z.2.2.1 p s=bif inP z s p then some f else none:=by
 have isf:∀ m,m<z.2.2.1.length→∀ o,oN z.2.2.1 m s=some o→o=f:=λ m hm o ho=>by
  obtain⟨x,hx,_,e⟩:=ED.now h.wi.wok ((h.wi.nodes _ (A3 (d:=Ae) hm)).2.1 s) ho;rw[hw,Vp]at hx;rw[hx]at e;exact e.symm
 cases hP:inP z s p with
 |false=>exact h.fo s p hp hP
 |true=>
  obtain⟨m,hm,o,ho⟩:=hex
  have hm':inP z s m=true:=by
   cases hq:inP z s m with
   |true=>rfl
   |false=>
    have:oN z.2.2.1 m s=none:=h.fo s m hm hq;rw[ho]at this;cases this
  obtain⟨y,hy,_⟩:=h.fi s m hm hm' o ho p hp hP;have hy':oN z.2.2.1 p s=some y:=hy;rw[hy',isf p hp y hy'];rfl
def Joa {w:Wld} (h:WI w) {s:ByteArray} {f:Fil} {b:Bool} (hw:w.2.2.2.2.1=[(s,f,b)]) (hex:∃ m,m<w.2.2.1.length∧∃ f,oN w.2.2.1 m s=some f):
  RI [s] (Hv w).2.2.1.length (Hv w)∧SW w (Hv w)∧∀ p,p<w.2.2.1.length→oN (Hv w).2.2.1 p s=bif inP w s p then some f else none:=by
 have hN:W5 [s] w.2.2.2.2.1:=⟨by simp only[Vh,Vs];omega,λ x hx=>by rw[hw,Vp]at hx;rw[hx];exact Vp.2 rfl⟩;obtain⟨r,sw⟩:=S5a h hN;refine⟨r,sw,λ p hp=>?_⟩;rw[r.only (by rw[sw.ws];exact hw) (Oua h.wo hex) (by rw[sw.len];exact hp),sw.inP]
def SW.contacts {w v:Wld} (h:SW w v) (s:ByteArray):contacts v s=contacts w s:=by
 obtain⟨ns,rfl,hn⟩:=h;exact A4a hn.2.1 _
def Ova {s:ByteArray} {n:Nod} {f:Fil} (h:old n.2.1 s=some f) (a:Bool×Fil):Ud s a n=bif !a.1||sle a.2.1 f.1 then (true,f) else a:=by
 unfold Ud;rw[A3a h];rfl
def D5a {s:ByteArray} {n:Nod} (h:old n.2.1 s=none) (a:Bool×Fil):Ud s a n=a:=by
 unfold Ud;rw[Z8a,h];rfl
def D6a {R:Int} {rc:List Int} {s:ByteArray} {ns:List Nod} {cs:List Int} {a:Int×Int×Bool×Fil} (h:¬ a.1<R) (i:Nat):Cva R rc s ns cs a i=a:=by
 unfold Cva;rw[decide_eq_false h];rfl
def Hwa {R:Int} {rc:List Int} {s:ByteArray} {ns:List Nod} {cs:List Int} {a:Int×Int×Bool×Fil} {i:Nat} (h:a.1<R) (hr:rch rc i=1):Cva R rc s ns cs a i=(a.1+1,a.2.1+1,Ud s a.2.2 (ns.getD (cs.getD i 0).toNat Ae)):=by
 unfold Cva;rw[decide_eq_true h,hr];rfl
def Owa {R:Int} {rc:List Int} {s:ByteArray} {ns:List Nod} {cs:List Int} {a:Int×Int×Bool×Fil} {i:Nat} (hr:rch rc i=0):Cva R rc s ns cs a i=a:=by
 unfold Cva;rw[hr]
 cases decide (a.1<R)<;>rfl
def D7a {w:Wld} {s:ByteArray} {rc:List Int} (hR:w.2.1.1=1) (hl:1≤(contacts w s).length) (hr:rch rc 0=1):gtR w s rc=(1,1,Ud s (false,Pv) (w.2.2.1.getD ((contacts w s).getD 0 0).toNat Ae)):=by
 unfold gtR;generalize contacts w s=cs at *
 have e:run (Cva w.2.1.1 rc s w.2.2.1 cs) 1 (0,0,false,Pv)=(1,1,Ud s (false,Pv) (w.2.2.1.getD (cs.getD 0 0).toNat Ae)):=by
  rw[Gt,Z5,Hwa (by rw[hR];decide) hr];rfl
 rw[Z6 (j:=1) hl (λ i=>by rw[e];exact D6a (by rw[hR];dsimp only;omega) i),e]
def Wr {w:Wld} {s:ByteArray} {rc:List Int} (hR:w.2.1.1=1) (hl:2≤(contacts w s).length) (hr0:rch rc 0=0) (hr:rch rc 1=1):gtR w s rc=(1,1,Ud s (false,Pv) (w.2.2.1.getD ((contacts w s).getD 1 0).toNat Ae)):=by
 unfold gtR;generalize contacts w s=cs at *
 have e:run (Cva w.2.1.1 rc s w.2.2.1 cs) 2 (0,0,false,Pv)=(1,1,Ud s (false,Pv) (w.2.2.1.getD (cs.getD 1 0).toNat Ae)):=by
  rw[Gt,Gt,Z5,Owa hr0,Hwa (by rw[hR];decide) hr];rfl
 rw[Z6 (j:=2) hl (λ i=>by rw[e];exact D6a (by rw[hR];dsimp only;omega) i),e]
def WO.inP_at {w:Wld} (h:WO w) {s:ByteArray} {j:Nat} (hj:j<(contacts w s).length):inP w s ((contacts w s).getD j 0).toNat=decide ((j:Int)<w.2.1.1):=by
 obtain⟨p1,p2,p3⟩:=h.prims s;have hn:=h.contacts_nodup s;have h0:=(H8 (A3 (d:=0) hj)).1;unfold inP;rw[show ((((contacts w s).getD j 0).toNat:Nat):Int)=(contacts w s).getD j 0 by omega,← p2,C1b,Hr,decide_eq_true_iff];generalize (contacts w s)=cs at *;generalize (Hs w s).length=K at *;constructor
 ·intro hm;obtain⟨i,hi,e⟩:=Yr.1 hm;rw[Vq]at hi;rw[Cqb,Vb,Vg hj,Wp]at e
  have hji:i=j:=Bmb λ c=>by
   rcases Nat.lt_or_gt_of_ne c with hl|hl
   ·exact(Yq.1 hn i j (by omega) hj hl) e
   ·exact(Yq.1 hn j i hj (by omega) hl) e.symm
  omega
 ·intro hlt;refine Yr.2 ⟨j,by rw[Vq];omega,?_⟩;rw[Cqb,Vb,Vg hj,Wp]

def U5 (l:List Dev) (p n:Int) (s:ByteArray) (d:List Int) (rc:List Int):Wld:=(ask (Pw l p n) s ((0,0,0),false,d) 5 rc).2
section
variable {l:List Dev} {p n:Int} {s:ByteArray} {d rc:List Int}
def Oxa (hd:d.length≤200):De ((5,0,0),false,d)=true:=Gf.2 ⟨rfl,hd,λ c=>by cases c⟩
def Fga (hb:(build l p n).2=true) (hs:B2 s=true) (hd:d.length≤200) (hdb:Av d):
  WI (U5 l p n s d rc)∧(U5 l p n s d rc).2.1.1=n∧(U5 l p n s d rc).1=l∧(U5 l p n s d rc).2.1=(build l p n).1∧(U5 l p n s d rc).2.2.1.length=l.length∧contacts (U5 l p n s d rc) s=contacts (Pw l p n) s∧(U5 l p n s d rc).2.2.2.2.2=[]:=by
 have hw:=F8a hb;have h1:=hw.ask (s:=s) (f:=((0,0,0),false,d)) (t:=5) (rc:=rc) hdb (λ c=>by cases c);have hr:=(Rv hb).2.2.1;unfold U5;have hno:=Tua (w:=((l,(build l p n).1,l.map Ps,(5,0,0),[],[]):Wld)) (s:=s) (f:=((5,0,0),false,d)) (rc:=rc) hw.ns hs (Oxa hd)
 have hl:(wrN (l,(build l p n).1,l.map Ps,(5,0,0),[],[]) s ((5,0,0),false,d) rc).1.length=l.length:=by
  have:=congrArg length hno.2;rw[Vz,Vz]at this;rw[this];exact Vz ..
 refine⟨h1,?_⟩;rw[Ota hs hd];exact⟨hr,rfl,rfl,hl,A4a hno.2 _,rfl⟩
end

abbrev Ht:ByteArray:=⟨#[100,111,103]⟩
abbrev Jw:List Int:=[119,111,111,102]
abbrev D8a:Fil:=((5,0,0),false,Jw)
def J5:B2 Ht=true:=by decide
def Nq:Av Jw:=by unfold Av;decide
def Oya:De D8a=true:=Oxa (by decide)
section
variable {l:List Dev} {p:Int} {rc:List Int}
def Hxa (hb:(build l p 1).2=true) (h2:2≤l.length) (hr0:rch rc 0=0) (hr1:rch rc 1=1):
  (ask (Pw l p 1) Ht ((0,0,0),false,Jw) 5 rc).1=0∧(U5 l p 1 Ht Jw rc).2.2.2.2.1=[(Ht,D8a,true)]∧2≤(contacts (U5 l p 1 Ht Jw rc) Ht).length∧
  ∀ m,m<(U5 l p 1 Ht Jw rc).2.2.1.length→oN (U5 l p 1 Ht Jw rc).2.2.1 m Ht=bif decide (m=((contacts (U5 l p 1 Ht Jw rc) Ht).getD 1 0).toNat) then some D8a else none:=by
 have hw:=F8a hb;obtain⟨hd1,hring,hr,_⟩:=Rv hb;obtain⟨i1,i2,_,i4,i5,i6,_⟩:=Fga (rc:=rc) (d:=Jw) (s:=Ht) hb J5 (by decide) Nq;rw[i6]
 have hm:2≤(contacts (Pw l p 1) Ht).length:=by
  have h1:(Pw l p 1).2.1.1=1:=hr;have:=hw.wo.more Ht (by rw[h1];show (1:Int)<(l.length:Int);omega);rw[h1]at this;omega
 have hcat:=(H8 (A3 (d:=0) (show 1<(contacts (Pw l p 1) Ht).length by omega)));have hlen:(Pw l p 1).2.2.1.length=l.length:=Vz ..
 have hwr:wrN (l,(build l p 1).1,l.map Ps,(5,0,0),[],[]) Ht D8a rc=((l.map Ps).set ((contacts (Pw l p 1) Ht).getD 1 0).toNat (S7a ((l.map Ps).getD ((contacts (Pw l p 1) Ht).getD 1 0).toNat Ae).1 Ht D8a true),1,1):=by
  unfold wrN;have hc:contacts ((l,(build l p 1).1,l.map Ps,(5,0,0),[],[]):Wld) Ht=contacts (Pw l p 1) Ht:=rfl;rw[hc];generalize contacts (Pw l p 1) Ht=cs at *;dsimp only;rw[hr]
  have e0:wst 1 rc Ht D8a cs (l.map Ps,0,0) 0=(l.map Ps,0,0):=by
   unfold wst;rw[hr0];rfl
  have e1:run (wst 1 rc Ht D8a cs) 2 (l.map Ps,0,0)=((l.map Ps).set (cs.getD 1 0).toNat (S7a ((l.map Ps).getD (cs.getD 1 0).toNat Ae).1 Ht D8a true),1,1):=by
   rw[Gt,Gt,Z5,e0,Wia (R:=1) (ns:=l.map Ps) (q:=0) (g:=0) (v:=1) (by decide) hr1 (by decide) J5 Oya (D2a (l:=l) (parts:=p) (reps:=1) (m:=(cs.getD 1 0).toNat) (by omega))];rfl
  rw[Z6 (j:=2) hm (λ i=>by rw[e1];rfl),e1]
 have e:Nz (l,(build l p 1).1,l.map Ps,(5,0,0),[],[]) Ht D8a rc=(0,(l,(build l p 1).1,(l.map Ps).set ((contacts (Pw l p 1) Ht).getD 1 0).toNat (S7a ((l.map Ps).getD ((contacts (Pw l p 1) Ht).getD 1 0).toNat Ae).1 Ht D8a true),(5,0,0),[(Ht,D8a,true)],[])):=by
  unfold Nz;rw[hwr];dsimp only;rw[hr];rfl
 have hask:ask (Pw l p 1) Ht ((0,0,0),false,Jw) 5 rc=Nz (l,(build l p 1).1,l.map Ps,(5,0,0),[],[]) Ht D8a rc:=Ota J5 (by decide)
 have hf:U5 l p 1 Ht Jw rc=(l,(build l p 1).1,(l.map Ps).set ((contacts (Pw l p 1) Ht).getD 1 0).toNat (S7a ((l.map Ps).getD ((contacts (Pw l p 1) Ht).getD 1 0).toNat Ae).1 Ht D8a true),(5,0,0),[(Ht,D8a,true)],[]):=by
  unfold U5;rw[hask,e]
 refine⟨by rw[hask,e],by rw[hf],hm,λ m hm'=>?_⟩;rw[i5]at hm'
 have hmn:m<(l.map Ps).length:=by rw[Vz];exact hm'
 rw[hf];unfold oN;dsimp only;rw[Dx hmn]
 by_cases e:((contacts (Pw l p 1) Ht).getD 1 0).toNat=m
 ·rw[if_pos e,decide_eq_true e.symm,S8a Oya Nq,if_pos rfl];rfl
 ·rw[if_neg e,decide_eq_false (λ c=>e c.symm)];have:=D2a (l:=l) (parts:=p) (reps:=1) (m:=m) hmn;show old ((Pw l p 1).2.2.1.getD m Ae).2.1 Ht=none;rw[this];rfl
def Hya {w:Wld} {rc:List Int} (h:WI w) {s:ByteArray} (hs:B2 s=true) {q:Int} {f:Fil} (hq:q≠0) (hr:gtR w s rc=(q,q,true,f)) (hd:f.2.1=false):P1a w s rc=(f,0):=by
 unfold P1a;rw[h.rightB,hs,Bool.and_self,cond_true,hr];unfold gtW;dsimp only;rw[beq_eq_false_iff_ne.2 hq,hd];rfl
def Hza {w:Wld} {rc:List Int} (h:WI w) {s:ByteArray} (hs:B2 s=true) {q:Int} {f:Fil} (hq:q≠0) (hr:gtR w s rc=(q,q,false,f)):P1a w s rc=(Pv,4):=by
 unfold P1a;rw[h.rightB,hs,Bool.and_self,cond_true,hr];unfold gtW;dsimp only;rw[beq_eq_false_iff_ne.2 hq];rfl
def U3a {s:ByteArray} {n:Nod} {f:Fil} (h:old n.2.1 s=some f):Ud s (false,Pv) n=(true,f):=by
 rw[Ova h];rfl
def Sca (hb:(build l p 1).2=true) (h2:2≤l.length) (hr0:rch rc 0=0) (hr1:rch rc 1=1) {r1:List Int} (hq:rch r1 0=1):
  P1a (U5 l p 1 Ht Jw rc) Ht rc=(D8a,0)∧P1a (U5 l p 1 Ht Jw rc) Ht r1=(Pv,4)∧WI (Hv (U5 l p 1 Ht Jw rc))∧
  P1a (Hv (U5 l p 1 Ht Jw rc)) Ht r1=(D8a,0)∧P1a (Hv (U5 l p 1 Ht Jw rc)) Ht rc=(Pv,4):=by
 obtain⟨i1,i2,_,i4,i5,i6,_⟩:=Fga (rc:=rc) (d:=Jw) (s:=Ht) hb J5 (by decide) Nq;obtain⟨_,k2,k3,k4⟩:=Hxa hb h2 hr0 hr1;generalize U5 l p 1 Ht Jw rc=x at *;have c0:=H8 (A3 (d:=0) (show 0<(contacts x Ht).length by omega));have c1:=H8 (A3 (d:=0) (show 1<(contacts x Ht).length by omega));have hne:=Wha (i1.wo.contacts_nodup Ht) (i:=0) (j:=1) (by omega) (by omega) (by decide) (λ y hy=>(H8 hy).1);have p0:=i1.wo.inP_at (s:=Ht) (j:=0) (by omega);have p1:=i1.wo.inP_at (s:=Ht) (j:=1) (by omega);rw[i2]at p0 p1;have o0:=k4 ((contacts x Ht).getD 0 0).toNat (by omega);have o1:=k4 ((contacts x Ht).getD 1 0).toNat (by omega);rw[decide_eq_false hne]at o0;rw[decide_eq_true rfl]at o1;obtain⟨r1',r2,r3⟩:=Joa i1 k2 ⟨_,by omega,_,o1⟩;have z0:=r3 ((contacts x Ht).getD 0 0).toNat (by omega);have z1:=r3 ((contacts x Ht).getD 1 0).toNat (by omega);rw[p0]at z0;rw[p1]at z1;have zw:=r1'.wi;have zc:=r2.contacts Ht
 have zr:(Hv x).2.1.1=1:=by obtain⟨ns,e,_⟩:=r2;rw[e];exact i2
 refine⟨Hya i1 J5 (by decide) (q:=1) ?_ rfl,Hza i1 J5 (by decide) (q:=1) (f:=Pv) ?_,zw,Hya zw J5 (by decide) (q:=1) ?_ rfl,Hza zw J5 (by decide) (q:=1) (f:=Pv) ?_⟩
 ·rw[Wr i2 k3 hr0 hr1,U3a o1]
 ·rw[D7a i2 (by omega) hq,D5a o0]
 ·rw[D7a zr (by rw[zc];omega) hq,zc,U3a z0]
 ·rw[Wr zr (by rw[zc];omega) hr0 hr1,zc,D5a z1]
end

def Wma {l:List Dev} {i:Nat} {z w:Int} (h:Gk l=true) (hi:i<l.length) (z0:0≤z) (z1:z≤20) (h1:1≤w) (h2:w≤1000):Gk (l.set i ((l.getD i Ju).1,z,w))=true:=by
 obtain⟨g1,g2,g3,g4⟩:=Dl.1 h
 have e0:(l.set i ((l.getD i Ju).1,z,w)).map (·.1)=l.map (·.1):=by
  rw[E3b]
  have:(l.getD i Ju).1=(l.map (·.1)).getD i 0:=by
   simp only[Vb,Zw,Vg hi,Cib,Wp]
  rw[this,Vb,Vg (by simpa using hi),Wp];exact Dxb _
 refine Dl.2 ⟨?_,λ d hd=>?_,?_⟩
 ·have e:(l.map (·.1)).Pairwise (· < ·):=Zi.2 g1;rw[← e0]at e;exact Zi.1 e
 ·rcases Yw hd with hd|hd
  ·exact g2 d hd
  ·obtain⟨e1,e2,_⟩:=I5.1 (g2 _ (A3 (d:=Ju) hi));subst hd;exact I5.2 ⟨e1,⟨z0,z1⟩,h1,h2⟩
 ·rw[Vu];exact⟨g3,g4⟩
def A5a (a:List Int) (hb:(a.length:Int)≤1048576):Tot (λ k=>Bs k a) (λ l=>Gk l=true∧2≤l.length∧l.length≤6):=by
 unfold Bs;refine Arb (Mja a hb) ?_;intro c hc;refine Arb (Jfa c hc) ?_;rintro⟨l,c1⟩ ⟨hl,hn,k1⟩;dsimp only at hl hn k1 ⊢;obtain⟨w,c2,e2,hw,_⟩:=Xr c1 k1 [1,7,1000] (by decide) (by decide);refine Arb (B2b (Q:=λ r=>r=(w,c2)) e2 rfl) ?_;rintro _ rfl
 have hw1:1≤w∧w≤1000:=by
  simp only[Vk,C8b,or_false]at hw;omega
 refine Arb (Q:=λ l=>Gk l=true∧2≤l.length∧l.length≤6) ?_ (λ r hr=>Aqb hr);obtain⟨n,en⟩:∃ n,l.length=n:=⟨_,rfl⟩;refine Azb (L:=λ k i (s:List Dev)=>Cd k s w i) (Q:=λ l=>Gk l=true∧2≤l.length∧l.length≤6) n (λ j s=>Gk s=true∧s.length=n) ?_ ?_ 0 l (Vw _) ⟨hl,en⟩
 ·rintro s ⟨h1,h2⟩;simp (disch:=omega) only [Cd,dF];exact Aqb ⟨h1,by omega,by omega⟩
 ·rintro j s hj ⟨h1,h2⟩ next
  have hjs:j<s.length:=by omega
  have e0:s.getD j ((0:Int),((0:Int),(0:Int)))=s.getD j Ju:=rfl
  have hl2:(s.set j ((s.getD j Ju).1,3,(s.getD j Ju).2.2)).length=n:=by rw[Vu];exact h2
  have e1:(s.set j ((s.getD j Ju).1,3,(s.getD j Ju).2.2)).getD j ((0:Int),((0:Int),(0:Int)))=((s.getD j Ju).1,3,(s.getD j Ju).2.2):=by
   rw[Vb,Bwb hjs];rfl
  simp (disch:=omega) only [Cd,dT,Vm,w64,e0,hl2,e1,List.set_set];exact next _ ⟨Wma h1 hjs (by decide) (by decide) hw1.1 hw1.2,by rw[Vu];exact h2⟩
def Jpa {l:List Dev} {r:Int} (hl:Gk l=true) (h0:1≤r) (h1:r≤5) (h2:r≤(l.length:Int)):(build l 4 r).2=true:=by
 unfold build;rw[hl,Fk.2 ⟨h0,h1⟩,decide_eq_false (show ¬ r > (l.length:Int) by omega)];rfl
def A6a (f:Fil) (h:f.2.2.length≤1000000000000):Tot (λ k=>Em k f f) (λ r=>r=true):=by
 refine(C8a f f h).mono ?_;rintro r rfl;exact decide_eq_true rfl

end Go.Proofs.Ytcpligincipmhaa.Vf

section
set_option linter.unusedVariables false
set_option linter.unusedSimpArgs false
namespace Go.Proofs.Ytcpligincipmhaa.Pure
open Go Go.RowKit Go.Proofs.Ytcpligincipmhaa.Vf
theorem FnElsewhere:∀ (a0:List Int),Ty.fit ti (.sl 5 (.i .u8)) a0→∃ k,Du k a0=some true:=by
 intro a0 _;refine Tot.law (f:=λ k=>Du k a0) ?_;unfold Du J0;refine Arb (Aqb (Q:=λ b=>b=decide ((List.length a0:Int) > 1048576)) rfl) ?_;rintro b rfl;refine Axb (λ _=>Aqb rfl) (λ hb=>?_);refine Arb (A5a a0 (by omega)) ?_;rintro l ⟨hl,h2,h6⟩;have hbd:(build l 4 1).2=true:=Jpa hl (by decide) (by decide) (by omega);refine Arb (D4a l 4 1 (by omega)) ?_;rintro _ rfl;rw[hbd,cond_true];have hw:=F8a hbd;have hd:Kj Ht:=Gg J5;refine Arb (Rza (hw.wo.wim (m:=200) (by decide) hw.splen) (by decide) Ht Jw 5 [0,1,1,1,1,1,1,1] hd (by decide)) ?_;rintro _ rfl;obtain⟨x,e⟩:∃ x,x=U5 l 4 1 Ht Jw [0,1,1,1,1,1,1,1]:=⟨_,rfl⟩
 have hput:Zga (Pw l 4 1) Ht ((0,0,0),false,Jw) 5 [0,1,1,1,1,1,1,1]=(x,0):=by
  unfold Zga;rw[hw.rightB,cond_true,(Hxa (rc:=[0,1,1,1,1,1,1,1]) hbd h2 rfl rfl).1,e];rfl
 obtain⟨g1,g2,zw,g3,g4⟩:=Sca (rc:=[0,1,1,1,1,1,1,1]) hbd h2 rfl rfl (r1:=[1]) rfl;have i1:=(Fga (rc:=[0,1,1,1,1,1,1,1]) (d:=Jw) (s:=Ht) hbd J5 (by decide) Nq).1;rw[← e]at g1 g2 zw g3 g4 i1;rw[hput];refine Arb (Ry x Ht _ i1.win hd) ?_;rintro _ rfl;refine Arb (Ry x Ht _ i1.win hd) ?_;rintro _ rfl;refine Arb (Jka (i1.wo.wim (m:=200) (by decide) i1.splen) (by decide)) ?_;rintro _ rfl
 have hr:Hqa x=Hv x:=by unfold Hqa;rw[i1.rightB];rfl
 rw[hr];refine Arb (Ry (Hv x) Ht _ zw.win hd) ?_;rintro _ rfl;refine Arb (Ry (Hv x) Ht _ zw.win hd) ?_;rintro _ rfl;rw[g1,g2,g3,g4];have hlen:(Pw l 4 1).2.2.1.length=l.length:=Vz ..;refine Atb (by rw[hlen,beq_self_eq_true]) (Atb rfl (Atb rfl (Atb rfl (Atb rfl (Atb rfl (Arb (A6a D8a (by decide)) ?_))))));rintro _ rfl;exact Atb rfl (Aqb (C8.2 rfl))
end Go.Proofs.Ytcpligincipmhaa.Pure
end
