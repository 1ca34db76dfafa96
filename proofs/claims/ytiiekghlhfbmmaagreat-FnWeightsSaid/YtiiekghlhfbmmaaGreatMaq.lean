import Derived.Test.YtiiekghlhfbmmaaGreatMap
import Derived.Test.YtiiekghlhfbmmaaGreatMak
set_option linter.all false
namespace Go.Proofs.YtiiekghlhfbmmaaGreat.Vf
open Go
open List (length getD)
open Int (toNat)
open Go.IntKind (wrap)
open BitVec (ofInt)

def Gi:List Int:=[1,1,1,1,1,1,1,1,1,1,1,1]
def Qh (w:Wld) (i:Nat) (l:List ByteArray):Wld:=l.foldl (λ w s=>(Sj w i s Gi).2) w
def R6 (w:Wld) (i:Nat):Nat→Wld
 |0=>w
 |n+1=>(Ug (R6 w i n) i Gi).2
def qtA (w:Wld) (i:Nat):Wld:=wN w (w.2.2.1.set i (Ezb (w.2.2.1.getD i Ac)).1)
def qtP (w:Wld) (i:Nat):Wld:=Qh (qtA w i) i (Qk ((qtA w i).2.2.1.getD i Ac).2.1)
def qtT (w:Wld) (i:Nat):Wld:=R6 (qtP w i) i ((qtP w i).2.2.1.getD i Ac).2.2.2.length
def qtN (w:Wld) (i:Nat):Wld:=(Sn (qtT w i) i Gi).2
def Ut (w:Wld):Wld:=run qtN w.2.2.1.length w
def Qi (w:Wld):Nat→Wld
 |0=>w
 |n+1=>Ut (Qi w n)
def Koa:Tot (λ k=>Iu k) (λ r=>r=Gi):=by
 unfold Iu;refine Jsb (Q:=λ r=>r=Gi) ?_ (by rintro r rfl;exact Jrb rfl);refine K0b (L:=λ k i (s:List Int)=>Fm k s i) (Q:=λ r=>r=Gi) 12 (λ j s=>s=List.replicate j 1) ?_ ?_ 0 [] (Vq _) rfl
 ·rintro s rfl;simp (disch:=omega) only [Fm,dF];exact Jrb rfl
 ·rintro j s hj rfl next;simp (disch:=omega) only [Fm,dT,w64];refine Jzb (by rw[N4b];simp only[Vd,Vk];omega) (next _ ?_);rw[List.replicate_succ']
def NW (w v:Wld):Prop:=∃ ns,v=wN w ns∧NO w.2.2.1 ns
def NW.refl {w:Wld} (h:WO w):NW w w:=⟨w.2.2.1,rfl,h.ns,rfl⟩
def NW.trans {u v w:Wld} (h1:NW u v) (h2:NW v w):NW u w:=by
 obtain⟨a,rfl,ha⟩:=h1;obtain⟨b,rfl,hb⟩:=h2;exact⟨b,rfl,hb.1,hb.2.trans ha.2⟩
def NW.wo {w v:Wld} (h:NW w v) (hw:WO w):WO v:=by
 obtain⟨ns,rfl,hn⟩:=h;exact hw.other hn
def NW.len {w v:Wld} (h:NW w v):v.2.2.1.length=w.2.2.1.length:=by
 obtain⟨ns,rfl,hn⟩:=h;exact hn.len
def Fgb {w:Wld} (h:WO w) {i:Nat} (hi:i<w.2.2.1.length) (s:ByteArray) (rc:List Int):NW w (Sj w i s rc).2:=Pra h.ns hi
def Fhb {w:Wld} (h:WO w) {i:Nat} (hi:i<w.2.2.1.length) (rc:List Int):NW w (Ug w i rc).2:=Pua h.ns hi
def Fib {w:Wld} (h:WO w) {i:Nat} (hi:i<w.2.2.1.length) (rc:List Int):NW w (Sn w i rc).2:=Pta h.ns hi
def Cqb {w:Wld} (h:WO w) {i:Nat} (hi:i<w.2.2.1.length):NW w (qtA w i):=⟨_,rfl,NO.set ⟨h.ns,rfl⟩ hi (Pka (h.ns.get hi)) rfl⟩
def Aba {i:Nat}:∀ (l:List ByteArray) {w:Wld},WO w→i<w.2.2.1.length→NW w (Qh w i l)
 |[],w,h,_=>NW.refl h
 |s::l,w,h,hi=>by
  have h1:=Fgb h hi s Gi;exact h1.trans (Aba l (h1.wo h) (by rw[h1.len];exact hi))
def Aca {i:Nat} {w:Wld} (h:WO w) (hi:i<w.2.2.1.length):∀ n,NW w (R6 w i n)
 |0=>NW.refl h
 |n+1=>by
  have h1:=Aca h hi n;exact h1.trans (Fhb (h1.wo h) (by rw[h1.len];exact hi) Gi)
def Crb {w:Wld} (h:WO w) {i:Nat} (hi:i<w.2.2.1.length):NW w (qtP w i):=by
 have h1:=Cqb h hi;exact h1.trans (Aba _ (h1.wo h) (by rw[h1.len];exact hi))
def Csb {w:Wld} (h:WO w) {i:Nat} (hi:i<w.2.2.1.length):NW w (qtT w i):=by
 have h1:=Crb h hi;exact h1.trans (Aca (h1.wo h) (by rw[h1.len];exact hi) _)
def I2b {w:Wld} (h:WO w) {i:Nat} (hi:i<w.2.2.1.length):NW w (qtN w i):=by
 have h1:=Csb h hi;exact h1.trans (Fib (h1.wo h) (by rw[h1.len];exact hi) Gi)
def Xba {w:Wld} (h:WO w):∀ n,n≤w.2.2.1.length→NW w (run qtN n w)
 |0,_=>NW.refl h
 |n+1,hn=>by
  have h1:=Xba h n (by omega);rw[P0];exact h1.trans (I2b (h1.wo h) (by rw[h1.len];omega))
def B8b {w:Wld} (h:WO w):NW w (Ut w):=Xba h _ (Vv _)
def Kpa {w:Wld} (h:WO w):∀ n,NW w (Qi w n)
 |0=>NW.refl h
 |n+1=>by
  have h1:=Kpa h n;exact h1.trans (B8b (h1.wo h))
def NW.sp {w v:Wld} (h:NW w v):v.2.2.2.2.2=w.2.2.2.2.2:=by obtain⟨ns,rfl,_⟩:=h;rfl
def Rya {w:Wld} (h:WO w):Tot (λ k=>Am k w) (λ r=>r=Ut w):=by
 have hnl:=h.ns.1;unfold Am;refine Jsb Koa ?_;rintro _ rfl;refine Jsb (Q:=λ r=>r=Ut w) ?_ (by rintro r rfl;exact Jrb rfl);refine K0b (L:=λ k i (v:Wld)=>C3 k Gi (w.2.2.1.length:Int) i v) (Q:=λ r=>r=Ut w) w.2.2.1.length (λ j v=>v=run qtN j w) ?_ ?_ 0 w (Vq _) rfl
 ·rintro v rfl;simp (disch:=omega) only [C3,dF];exact Jrb rfl
 ·rintro j v hj rfl next;rw[P0]at next;have hn:=Xba h j (by omega);have hv:=hn.wo h;have hl:=hn.len;generalize run qtN j w=v at *
  have hj':j<v.2.2.1.length:=by omega
  have e0:v.2.2.1.getD j ((0:Int),(([],[]),([],[])))=v.2.2.1.getD j Ac:=rfl;simp (disch:=omega) only [C3,dT,Vc,e0];refine Jsb (Wia _ (hv.ns.get hj')) ?_;rintro _ rfl;have e1:∀ ns:List Nod,ns.getD j ((0:Int),(([],[]),([],[])))=ns.getD j Ac:=λ _=>rfl;have hsl:(v.2.2.1.set j (Ezb (v.2.2.1.getD j Ac)).1).length=v.2.2.1.length:=Wc ..;have hA:=Cqb hv hj';have hAo:=hA.wo hv;have hAl:=hA.len;refine Jvb (by rw[hsl];omega) ?_;show Tot (λ k=>(J5 k ((qtA v j).2.2.1.getD j Ac).2.1).bind λ r6=>(Bl k Gi (j:Int) (w.2.2.1.length:Int) (j:Int) r6 (length r6:Int) 0 (qtA v j)).bind _) _;have hg:=Aya (hAo.ns.get (i:=j) (by omega));refine Jsb (Pia _ hg.1.1 hg.1.2) ?_;rintro _ rfl
  have hpl:(Qk ((qtA v j).2.2.1.getD j Ac).2.1).length≤2000000:=by
   have a:=Wga ((qtA v j).2.2.1.getD j Ac).2.1 ((qtA v j).2.2.1.getD j Ac).2.1.1 [];rw[Vk]at a;have:=hg.1.1.2.1;unfold Qk;omega
  have hP:=Crb hv hj';have hPo:=hP.wo hv;have hPl:=hP.len;refine Jsb (Q:=λ r=>r=(Gi,(j:Int),(w.2.2.1.length:Int),(j:Int),qtP v j)) ?_ ?_
  ·have hfull:qtP v j=Qh (qtA v j) j (Qk ((qtA v j).2.2.1.getD j Ac).2.1):=rfl;rw[hfull];generalize Qk ((qtA v j).2.2.1.getD j Ac).2.1=l at *;refine K0b (L:=λ k i (u:Wld)=>Bl k Gi (j:Int) (w.2.2.1.length:Int) (j:Int) l (l.length:Int) i u) (Q:=λ r=>r=(Gi,(j:Int),(w.2.2.1.length:Int),(j:Int),Qh (qtA v j) j l)) l.length (λ i u=>u=Qh (qtA v j) j (l.take i)) ?_ ?_ 0 _ (Vq _) rfl
   ·rintro u rfl;simp (disch:=omega) only [Bl,dF];exact Jrb (by rw[Yp])
   ·rintro i u hi rfl next;have hq:=Aba (i:=j) (l.take i) hAo (by omega);have hqo:=hq.wo hAo;have hql:=hq.len;have e2:l.getD i (⟨#[]⟩:ByteArray)=l.getD i Oz:=rfl;simp (disch:=omega) only [Bl,dT,Vc,w64,e2];refine Jsb (B4b _ j _ Gi hqo.ring hqo.ns (by omega)) ?_;rintro _ rfl;refine next _ ?_;unfold Qh;rw[Wi hi,Kjb,Vb,Vj hi];rfl
  ·rintro _ rfl;simp (disch:=omega) only [dT,Vc,e1];have hT:=Csb hv hj';have hTo:=hT.wo hv;have hTl:=hT.len;have hq60:=(Cb.1 (hPo.ns.get (i:=j) (by omega)).1).2.2.2.2;refine Jsb (Q:=λ r=>r=(Gi,(j:Int),(w.2.2.1.length:Int),(j:Int),qtT v j)) ?_ ?_
   ·have hfull:qtT v j=R6 (qtP v j) j ((qtP v j).2.2.1.getD j Ac).2.2.2.length:=rfl;rw[hfull];generalize ((qtP v j).2.2.1.getD j Ac).2.2.2.length=q at *;refine K0b (L:=λ k i (u:Wld)=>Bs k Gi (j:Int) (w.2.2.1.length:Int) (j:Int) (q:Int) i u) (Q:=λ r=>r=(Gi,(j:Int),(w.2.2.1.length:Int),(j:Int),R6 (qtP v j) j q)) q (λ i u=>u=R6 (qtP v j) j i) ?_ ?_ 0 _ (Vq _) rfl
    ·rintro u rfl;simp (disch:=omega) only [Bs,dF];exact Jrb rfl
    ·rintro i u hi rfl next;have hq:=Aca hPo (i:=j) (by omega) i;have hqo:=hq.wo hPo;have hql:=hq.len;simp (disch:=omega) only [Bs,dT,w64];refine Jsb (X6a _ j Gi (N1 hqo.ring) hqo.ns (by omega)) ?_;rintro _ rfl;exact next _ rfl
   ·rintro _ rfl;refine Jsb (X5a (qtT v j) j Gi (N1 hTo.ring) hTo.ns (by omega)) ?_;rintro _ rfl;simp (disch:=omega) only [w64];exact next _ rfl
def N8a {m:Nat} {w:Wld} (h:WIm m w) (hm:m≤1999000) (n:Nat) (hn:n≤20):Tot (λ k=>Ho k w (n:Int)) (λ r=>r=bif A7a w then Qi w n else w):=by
 have hw:=h.win (by omega);unfold Ho;refine Jsb (Kja h (by omega)) ?_;rintro w rfl;simp only[Sq,Vp];refine Jub (Dt.2 ⟨by omega,by omega⟩) (Jsb (Dfa w hw) ?_);rintro b rfl
 cases hk:A7a w with
 |false=>exact Jtb rfl (Jrb rfl)
 |true=>
  have ho:=h.wo hk;refine Jub rfl (Jsb (Q:=λ r=>r=(Rsa,Qi w n)) ?_ (by rintro _ rfl;exact Jrb rfl));refine K0b (L:=λ k i (v:Wld)=>I8 k (n:Int) i Rsa v) (Q:=λ r=>r=(Rsa,Qi w n)) n (λ j v=>v=Qi w j) ?_ ?_ 0 w (Vq _) rfl
  ·rintro v rfl;simp (disch:=omega) only [I8,dF];exact Jrb rfl
  ·rintro j v hj rfl next;simp (disch:=omega) only [I8,dT,w64];refine Jsb (Rya ((Kpa ho j).wo ho)) ?_;rintro _ rfl;exact next _ rfl

def Dva (nm:List ByteArray) (ws:List Wri):Prop:=nm.length≤60∧∀ x∈ws,x.1∈nm
def Fha {nm:List ByteArray} {l:List Nmd} (hs:E4 l) (h:∀ x∈l,x.1∈nm) (hn:nm.length≤60):l.length≤60:=by
 have hp:(l.map (·.1)).Pairwise (λ a b=>tlt a b=true):=Zn.2 hs;have hd:(l.map (·.1)).Nodup:=hp.imp (λ {a b} hab e=>by subst e;rw[Jc]at hab;cases hab);have:=Xt _ nm hd (λ s hs=>by obtain⟨x,hx,rfl⟩:=Zb.1 hs;exact h x hx);rw[Wd]at this;omega
def Ctb {nm:List ByteArray} {l:List Nmd} {s:ByteArray} {b:List Int} (hl:E4 l) (h:∀ x∈l,x.1∈nm) (hs:s∈nm) (hn:nm.length≤60):(wr l s b).length≤60:=by
 have hso:E4 (wr l s b):=Rm (O4 hl) Aja;refine Fha hso (λ x hx=>?_) hn;have hg:=D3a hso hx;rw[Gva hl]at hg
 by_cases e:s=x.1
 ·rw[← e];exact hs
 ·rw[if_neg e]at hg;exact h _ (Qd hg)
section
variable {nm:List ByteArray} {ws:List Wri} {sp:List ByteArray} {d:Dsk} {s:ByteArray} {f:Fil}
def Xca (hN:Dva nm ws) (hf:IsW ws s f):s∈nm:=by
 obtain⟨x,hx,rfl,_⟩:=hf;exact hN.2 x hx
def B9b (hN:Dva nm ws) (hd:B7 d=true) (h:DI ws sp d):(∀ x∈d.1,x.1∈nm)∧∀ x∈d.2,x.1∈nm:=by
 refine⟨λ x hx=>?_,λ x hx=>?_⟩
 ·obtain⟨f,hf,_⟩:=(h x.1).1 _ (D3a (Ma hd) hx);exact Xca hN hf
 ·obtain⟨f,hf,_⟩:=(h x.1).2.1 _ (D3a (Pt hd) hx);exact Xca hN hf
def Rp (o:Option Fil) (f:Fil):Fil:=match o with
 |some g=>bif sle g.1 f.1 then f else g
 |none=>f
def N9a (o:Option Fil) (f:Fil):Rp (some (Rp o f)) f=Rp o f:=by
 cases o with
 |none=>simp[Rp]
 |some g=>cases h:sle g.1 f.1<;>simp[Rp,h]
def Bab (hw:Ffa ws) (hN:Dva nm ws) (hd:DG d) (h:DI ws sp d) (hf:IsW ws s f):
  ((keep d s f true).2=0∨(keep d s f true).2=1)∧∀ t,old (keep d s f true).1 t=if s=t then some (Rp (old d s) f) else old d t:=by
 obtain⟨g1,g2,g3⟩:=hf.good hw;have hs:=Xca hN hf;obtain⟨n1,n2⟩:=B9b hN hd.1 h;have l1:∀ b,(wr d.1 s b).length≤60:=λ b=>Ctb (Ma hd.1) n1 hs hN.1;have h2s:E4 d.2:=Pt hd.1
 have l2:∀ l:List Nmd,(sy (l,d.2) s).length≤60:=λ l=>by
  unfold sy
  cases gt l s with
  |some b=>exact Ctb h2s n2 hs hN.1
  |none=>exact Fha (O4 h2s) (λ x hx=>n2 x (Lbb.1 hx).1) hN.1
 rw[D7a hd.1 g1 g2];rcases A2a (f:=f) (sure:=true) hd g1 with k|⟨o,h1,h2,h3,_,h5⟩|⟨h1,_,h3,_,h5⟩
 ·exfalso
  have hwr:wrD d s (Mq f)=((wr d.1 s (Mq f),d.2),true):=by
   unfold wrD;rw[decide_eq_true (show (Mq f).length≤400 by have:=Bia f;omega),decide_eq_true (l1 _)];rfl
  have hsy:∀ l:List Nmd,(syD (l,d.2) s).2=true:=λ l=>by
   unfold syD;rw[decide_eq_true (l2 l)];rfl
  have k2:∀ (l:List Nmd) (c:Int),(kp2 d s true ((l,d.2),c)).2=c:=λ l c=>by
   unfold kp2;rw[cond_true,hsy l];rfl
  have k3:=congrArg Prod.snd k;unfold O9 kp1 at k3;rw[hwr]at k3
  cases ho:old d s with
  |none=>
   rw[ho]at k3;have:(kp2 d s true ((wr d.1 s (Mq f),d.2),0)).2=3:=k3;rw[k2]at this;cases this
  |some o=>
   rw[ho]at k3
   cases hc:sle o.1 f.1 with
   |true=>
    simp only[hc,cond_true]at k3;rw[k2]at k3;cases k3
   |false=>
    simp only[hc,cond_false]at k3;have:(kp2 d s true ((d.1,d.2),1)).2=3:=k3;rw[k2]at this;cases this
 ·refine⟨.inr h3,λ t=>?_⟩;rcases h5 with⟨c,_⟩|⟨_,e⟩
  ·cases c
  ·rw[e];show old d t=_
   by_cases hst:s=t
   ·subst hst;rw[if_pos rfl,h1];simp[Rp,h2]
   ·rw[if_neg hst]
 ·refine⟨.inl h3,λ t=>?_⟩;rcases h5 with⟨c,_⟩|⟨_,e⟩
  ·cases c
  ·rw[e];show (gt (wr d.1 s (Mq f)) t).bind O6=_;rw[Gva (Ma hd.1)]
   by_cases hst:s=t
   ·rw[if_pos hst,if_pos hst,Vp,Xj g2 g3]
    cases ho:old d s with
    |none=>rfl
    |some o=>simp[Rp,h1 o ho]
   ·rw[if_neg hst,if_neg hst];rfl
end
def Fjb {d:Dsk} {s:ByteArray} (hd:DG d) (hg:(gt d.1 s).isSome=true) (t:ByteArray):old (syD (rmD d s).1 s).1 t=if s=t then none else old d t:=by
 have e1:(syD (rmD d s).1 s).1.1=cut d.1 s:=by
  have e:(rmD d s).1=(cut d.1 s,d.2):=by unfold rmD;rw[hg];rfl
  rw[e];unfold syD
  cases decide ((sy (cut d.1 s,d.2) s).length≤60)<;>rfl
 unfold old;rw[e1,Uq (Ma hd.1)]
 by_cases h:s=t
 ·rw[if_pos h,if_pos h];rfl
 ·rw[if_neg h,if_neg h]
def Xda {d:Dsk} (hd:DG d) (t:ByteArray):old (No d).1 t=old d t:=by
 obtain⟨_,h⟩:=W1 d.1 (d,0) hd;unfold old
 by_cases hb:t∈H6a d.1
 ·obtain⟨b,h1,h2⟩:=(Pha hd.1).1 hb;rw[show gt (No d).1.1 t=none from ((h t).1 hb).1,h1,Vp,h2];rfl
 ·rw[show gt (No d).1.1 t=gt d.1 t from ((h t).2 hb).1]
def Xea {d:Dsk} {s:ByteArray}:((lkD d s).2 != 0)=(old d s).isNone:=by
 unfold lkD old
 cases gt d.1 s with
 |none=>rfl
 |some b=>cases h:O6 b<;>simp[h]
def Xfa {d:Dsk} {s:ByteArray} {f:Fil} (h:old d s=some f):lkD d s=(f,0):=by
 unfold old at h
 cases hg:gt d.1 s with
 |none=>rw[hg]at h;cases h
 |some b=>rw[hg]at h;exact Qe.2 ⟨b,hg,h⟩
def Xga (id:Int):∀ {ns ms:List Nod} (i:Nat),ms.map (·.1)=ns.map (·.1)→atN ms id i=atN ns id i
 |[],[],_,_=>rfl
 |n::ns,m::ms,i,h=>by
  rw[Yh,Yh,Yl]at h;unfold atN;rw[h.1,Xga id (i+1) h.2]
 |[],_::_,_,h=>by cases h
 |_::_,[],_,h=>by cases h
def Xha {ns ms:List Nod} (h:ms.map (·.1)=ns.map (·.1)) (ids:List Int):whr ms ids=whr ns ids:=by
 unfold whr;congr 1;funext id;exact Xga id 0 h
def Xia (id:Int):∀ (ns:List Nod) (i:Nat),(ns.map (·.1)).Nodup→(atN ns id i).length≤1
 |[],_,_=>Vq _
 |n::ns,i,h=>by
  rw[Yh,Yu]at h;have ih:=Xia id ns (i+1) h.2;unfold atN
  cases hx:n.1==id with
  |false=>exact ih
  |true=>
   have he:atN ns id (i+1)=[]:=by
    refine M4b.2 λ x hx'=>?_;obtain⟨j,h1,h2,_⟩:=(Hfa id ns (i+1) x).1 hx';refine h.1 ?_;rw[eq_of_beq hx,← h2];exact Yv (A3 h1)
   rw[cond_true,he];exact Vv _
def Xja {ns:List Nod} (h:(ns.map (·.1)).Nodup):∀ (ids:List Int),(whr ns ids).length≤ids.length
 |[]=>Vq _
 |id::ids=>by
  rw[Hda,Ve,Vd];have:=Xia id ns 0 h;have:=Xja h ids;omega
def WO.nodup {w:Wld} (h:WO w):(w.2.2.1.map (·.1)).Nodup:=by
 rw[h.ids];have hp:=(Dz.1 (Bh.1 h.ring).1).1;have hq:(w.1.map (·.1)).Pairwise (λ a b=>a<b):=Zn.2 hp;exact hq.imp (λ {a b} hab e=>by omega)
def WO.prim5 {w:Wld} (h:WO w) (s:ByteArray):(Oh w s).length≤5:=by
 have h1:=Xja h.nodup (Sr w.2.1 s);have h2:=(Dca h.ring s).2.1;have h3:=(Bh.1 h.ring).2.1;unfold Oh;omega
def I3b {j:Nat} (h:j<12):rch Gi j=1:=by
 unfold rch;rw[decide_eq_true (show j<Gi.length from h)]
 have:Gi.getD j 0=1:=by
  match j,h with
  |0,_|1,_|2,_|3,_|4,_|5,_|6,_|7,_|8,_|9,_|10,_|11,_=>rfl
 rw[this];rfl
def Rq {α:Type} (bs:Option α→α→α) (P:Nat→Bool) (i:Nat) (c:Nat→Option α) (m:Nat):Option α:=match c i with
 |none=>c m
 |some f=>bif P m&&!(decide (m=i)) then some (bs (c m) f) else bif decide (m=i)&&!(P i) then none else c m
def oN (ns:List Nod) (m:Nat) (t:ByteArray):Option Fil:=old (ns.getD m Ac).2.1 t
def inP (w:Wld) (t:ByteArray) (m:Nat):Bool:=M7 (Oh w t) (m:Int)
def Fkb {nm:List ByteArray} {w:Wld} (h:WI w) (hN:Dva nm w.2.2.2.2.1) {i:Nat} (hi:i<w.2.2.1.length) {s:ByteArray} {f:Fil} (hf:oN w.2.2.1 i s=some f):
  (puN w i s Gi).2.2=true∧(puN w i s Gi).2.1=inP w s i∧NR w.2.2.2.2.1 w.2.2.2.2.2 w.2.2.1 (puN w i s Gi).1∧
  ∀ m,m<w.2.2.1.length→∀ t,oN (puN w i s Gi).1 m t=bif teq s t&&(inP w s m&&!(decide (m=i))) then some (Rp (oN w.2.2.1 m s) f) else oN w.2.2.1 m t:=by
 have h5:=h.wo.prim5 s;have hIW:IsW w.2.2.2.2.1 s f:=ED.now h.wok ((h.nodes _ (A3 (d:=Ac) hi)).2.1 s) hf
 have hlk:(lkD (w.2.2.1.getD i Ac).2.1 s).1=f:=by rw[Xfa hf]
 have hat:=λ x=>Sk (w:=w) (s:=s) (x:=x);unfold puN inP;rw[hlk];generalize Oh w s=ps at *
 have key:=Nl (st:=pst (i:Int) s f Gi ps) (n:=ps.length) (a:=(w.2.2.1,false,true)) (λ j (a:List Nod×Bool×Bool)=>a.2.2=true∧a.2.1=M7 (ps.take j) (i:Int)∧NR w.2.2.2.2.1 w.2.2.2.2.2 w.2.2.1 a.1∧
  ∀ m,m<w.2.2.1.length→∀ t,oN a.1 m t=bif teq s t&&(M7 (ps.take j) (m:Int)&&!(decide (m=i))) then some (Rp (oN w.2.2.1 m s) f) else oN w.2.2.1 m t) ?_ ?_
 ·rw[Yp]at key;exact key
 ·exact⟨rfl,rfl,NR.refl h.nodes,λ m _ t=>by
   show _=bif teq s t&&(false&&_) then _ else _
   rw[Yt,Yc]
   rfl⟩
 ·rintro j ⟨ns,o,g⟩ hj ⟨a1,a2,a3,a4⟩;dsimp only at a1 a2 a3 a4;subst a1;have hpx:=hat _ (A3 (d:=0) hj);obtain⟨p,hp⟩:∃ p:Nat,ps.getD j 0=(p:Int):=⟨(ps.getD j 0).toNat,by omega⟩
  have htk:∀ x:Int,M7 (ps.take (j+1)) x=(M7 (ps.take j) x||(p:Int)==x):=λ x=>by
   have e:ps[j]=(p:Int):=by rw[← hp,Vb,Vj hj];rfl
   unfold M7;rw[Wi hj,Nbb,e,L5b,Ncb,Kwb]
  have hnl:=a3.len;unfold pst;rw[hp,Vc,I3b (by omega)]
  cases hpi:(p:Int)==(i:Int) with
  |true=>
   have e:p=i:=by have:=eq_of_beq hpi;omega
   refine⟨rfl,?_,a3,λ m hm t=>?_⟩
   ·show true=_;rw[htk,hpi,Bool.or_true]
   ·show oN ns m t=_;rw[a4 m hm t,htk,e]
    by_cases hmi:m=i
    ·rw[decide_eq_true hmi];simp
    ·rw[show ((i:Int)==(m:Int))=false by rw[beq_eq_false_iff_ne];omega,Kwb]
  |false=>
   have e:p≠i:=by intro e;rw[e,beq_self_eq_true]at hpi;cases hpi
   have hpn:p<ns.length:=by omega
   have hni:=a3.1 _ (A3 (d:=Ac) hpn);obtain⟨k1,k2⟩:=Bab h.wok hN hni.1.g hni.2.1 hIW;obtain⟨d1,d2⟩:=N2a (sure:=true) h.wok hni.1.g hni.2.1 hIW
   have hcode:((keep (ns.getD p Ac).2.1 s f true).2 != 0&&(keep (ns.getD p Ac).2.1 s f true).2 != 1)=false:=by
    rcases k1 with k|k<;>rw[k]<;>rfl
   refine⟨?_,?_,a3.set hpn ⟨Hia hni.1,d1,hni.2.2⟩ rfl d2,λ m hm t=>?_⟩
   ·show (bif ((keep (ns.getD p Ac).2.1 s f true).2 != 0&&(keep (ns.getD p Ac).2.1 s f true).2 != 1) then false else true)=true;rw[hcode];rfl
   ·show o=_;rw[a2,htk,hpi,Kwb]
   ·show oN (ns.set p _) m t=_;unfold oN;rw[Ld (show m<ns.length by omega),htk]
    by_cases hpm:p=m
    ·subst hpm;rw[if_pos rfl,beq_self_eq_true,Bool.or_true,Vw,decide_eq_false e,Zk,Kfb];show old (keep (ns.getD p Ac).2.1 s f true).1 t=_;rw[k2 t];have a4s:=a4 p hm s;have a4t:=a4 p hm t;unfold oN at a4s a4t;rw[decide_eq_false e,Zk,Kfb]at a4s a4t
     by_cases hst:s=t
     ·subst hst;rw[if_pos rfl,show teq s s=true from Db.2 rfl,cond_true,a4s,show teq s s=true from Db.2 rfl,Vw]
      cases M7 (ps.take j) (p:Int) with
      |true=>rw[cond_true,N9a]
      |false=>rfl
     ·have ht:teq s t=false:=by cases hq:teq s t with|false=>rfl|true=>exact absurd (Db.1 hq) hst
      rw[if_neg hst,ht,cond_false,a4t,ht,Yt,cond_false]
    ·rw[if_neg hpm,show ((p:Int)==(m:Int))=false by rw[beq_eq_false_iff_ne];omega,Kwb];exact a4 m hm t
def WI.push {w:Wld} (h:WI w) {i:Nat} (hi:i<w.2.2.1.length) (s:ByteArray) (rc:List Int):WI (Sj w i s rc).2:=h.other' (Hka h.wok h.nodes hi h.ring h.ids)
def Bbb {nm:List ByteArray} {w:Wld} (h:WI w) (hN:Dva nm w.2.2.2.2.1) {i:Nat} (hi:i<w.2.2.1.length) (s:ByteArray) {m:Nat} (hm:m<w.2.2.1.length) (t:ByteArray):
  oN (Sj w i s Gi).2.2.2.1 m t=bif teq s t then Rq Rp (inP w s) i (λ m=>oN w.2.2.1 m s) m else oN w.2.2.1 m t:=by
 have hst:∀ {t:ByteArray},teq s t=true→s=t:=λ h=>Db.1 h;unfold Sj;rw[Xea]
 cases ho:oN w.2.2.1 i s with
 |none=>
  have:old (w.2.2.1.getD i Ac).2.1 s=none:=ho;rw[this];show oN w.2.2.1 m t=_
  cases ht:teq s t with
  |false=>rfl
  |true=>rw[cond_true,← hst ht];unfold Rq;simp only[ho]
 |some f=>
  have e1:old (w.2.2.1.getD i Ac).2.1 s=some f:=ho;rw[e1];obtain⟨p1,p2,p3,p4⟩:=Fkb h hN hi ho;show oN (bif (puN w i s Gi).2.2&&!(puN w i s Gi).2.1 then (puN w i s Gi).1.set i (Ikb ((puN w i s Gi).1.getD i Ac) s) else (puN w i s Gi).1) m t=_;rw[p1,p2,Vw];have hlen:=p3.len
  have E4a:Rq Rp (inP w s) i (λ m=>oN w.2.2.1 m s) m=bif inP w s m&&!(decide (m=i)) then some (Rp (oN w.2.2.1 m s) f) else bif decide (m=i)&&!(inP w s i) then none else oN w.2.2.1 m s:=by
   unfold Rq;simp only[ho]
  cases hin:inP w s i with
  |true=>
   rw[Yw,cond_false,p4 m hm t,E4a,hin]
   cases ht:teq s t with
   |false=>rfl
   |true=>
    rw[hst ht,Vw,cond_true,Yw,Yc,cond_false]
  |false=>
   rw[Zk,cond_true,E4a,hin];unfold oN;rw[Ld (show m<(puN w i s Gi).1.length by omega)]
   by_cases hmi:i=m
   ·subst hmi;rw[if_pos rfl,hin,Yt,cond_false,decide_eq_true rfl,Zk,Vw,cond_true];have hg:=(p3.1 _ (A3 (d:=Ac) (show i<(puN w i s Gi).1.length by omega))).1.g;have p4s:=p4 i hi s;have p4t:=p4 i hi t;rw[hin,Yt,Yc,cond_false]at p4s p4t
    have hgs:(gt ((puN w i s Gi).1.getD i Ac).2.1.1 s).isSome=true:=by
     have:old ((puN w i s Gi).1.getD i Ac).2.1 s=some f:=p4s.trans ho;unfold old at this
     cases hq:gt ((puN w i s Gi).1.getD i Ac).2.1.1 s with
     |none=>rw[hq]at this;cases this
     |some b=>rfl
    show old (syD (rmD ((puN w i s Gi).1.getD i Ac).2.1 s).1 s).1 t=_;rw[Fjb hg hgs t]
    cases ht:teq s t with
    |true=>rw[if_pos (hst ht)];rfl
    |false=>
     rw[if_neg (λ e=>by rw[e,show teq t t=true from Db.2 rfl]at ht;cases ht)];exact p4t
   ·rw[if_neg hmi,decide_eq_false (λ e=>hmi e.symm)];have:=p4 m hm t;unfold oN at this;rw[this,decide_eq_false (λ e=>hmi e.symm)]
    cases ht:teq s t with
    |false=>rfl
    |true=>
     rw[hst ht,Vw,cond_true,Yt,cond_false]

structure BOk {α:Type} (bs:Option α→α→α) (le:α→α→Prop):Prop where
 rf:∀ a,le a a
 tr:∀ {a b c},le a b→le b c→le a c
 up:∀ o f,le f (bs o f)
 ub:∀ g f,le g (bs (some g) f)
 oo:∀ o f,bs o f=f∨o=some (bs o f)
def Pxa {α:Type} (k:Nat) (P:Nat→Bool) (c:Nat→Option α):Prop:=∀ m,m<k→P m=false→c m=none
def InK {α:Type} (le:α→α→Prop) (k n:Nat) (P:Nat→Bool) (c:Nat→Option α):Prop:=∀ q,q<k→P q=true→∀ x,c q=some x→∀ p,p<n→P p=true→∃ y,c p=some y∧le x y
section
variable {α:Type} {bs:Option α→α→α} {le:α→α→Prop} {P:Nat→Bool} {c c':Nat→Option α} {k n:Nat}
def Dna {i m:Nat} (h1:c i=c' i) (h2:c m=c' m):Rq bs P i c m=Rq bs P i c' m:=by
 unfold Rq;rw[h1,h2]
def Pxa.eq (h:Pxa k P c) (hk:k≤n) (e:∀ m,m<n→c' m=c m):Pxa k P c':=λ m hm hp=>by rw[e m (by omega)];exact h m hm hp
def InK.eq (h:InK le k n P c) (hk:k≤n) (e:∀ m,m<n→c' m=c m):InK le k n P c':=λ q hq hp x hx p hp1 hp2=>by
 rw[e q (by omega)]at hx;rw[e p hp1];exact h q hq hp x hx p hp1 hp2
def Pxa.ostep (h:Pxa k P c):Pxa (k+1) P (Rq bs P k c):=λ m hm hp=>by
 unfold Rq
 cases hk:c k with
 |none=>
  dsimp only
  by_cases e:m=k
  ·rw[e];exact hk
  ·exact h m (by omega) hp
 |some f=>
  dsimp only;rw[hp,Bool.false_and,cond_false]
  by_cases e:m=k
  ·rw[decide_eq_true e,← e,hp];rfl
  ·rw[decide_eq_false e];exact h m (by omega) hp
def InK.istep (hb:BOk bs le) (h:InK le k n P c):InK le (k+1) n P (Rq bs P k c):=by
 intro q hq hPq x hx p hp hPp
 cases hk:c k with
 |none=>
  have e:Rq bs P k c=c:=by funext m;unfold Rq;rw[hk]
  rw[e]at hx ⊢
  by_cases hqk:q=k
  ·rw[hqk,hk]at hx;cases hx
  ·exact h q (by omega) hPq x hx p hp hPp
 |some f=>
  have st:∀ m,P m=true→Rq bs P k c m=if m=k then some f else some (bs (c m) f):=λ m hm=>by
   unfold Rq;rw[hk];dsimp only
   by_cases e:m=k
   ·rw[if_pos e,decide_eq_true e,← e,hm,e,hk];rfl
   ·rw[if_neg e,decide_eq_false e,hm];rfl
  rw[st q hPq]at hx;rw[st p hPp]
  by_cases hqk:q=k
  ·rw[if_pos hqk]at hx;obtain rfl:=L9b hx
   by_cases hpk:p=k
   ·rw[if_pos hpk];exact⟨f,rfl,hb.rf f⟩
   ·rw[if_neg hpk];exact⟨_,rfl,hb.up _ f⟩
  ·rw[if_neg hqk]at hx;cases hx;rcases hb.oo (c q) f with e|e
   ·rw[e]
    by_cases hpk:p=k
    ·rw[if_pos hpk];exact⟨f,rfl,hb.rf f⟩
    ·rw[if_neg hpk];exact⟨_,rfl,hb.up _ f⟩
   ·obtain⟨y,h1,h2⟩:=h q (by omega) hPq _ e p hp hPp
    by_cases hpk:p=k
    ·rw[hpk,hk]at h1;obtain rfl:=L9b h1;rw[if_pos hpk];exact⟨f,rfl,h2⟩
    ·rw[if_neg hpk,h1];exact⟨_,rfl,hb.tr h2 (hb.ub y f)⟩
def gvC {α:Type} (bs:Option α→α→α) (P:Nat→Bool) (f:α) (c:Nat→Option α) (m:Nat):Option α:=bif P m then some (bs (c m) f) else c m
def Pxa.gv {f:α} (h:Pxa k P c):Pxa k P (gvC bs P f c):=λ m hm hp=>by
 unfold gvC;rw[hp];exact h m hm hp
def InK.gv {f:α} (hb:BOk bs le) (h:InK le k n P c):InK le k n P (gvC bs P f c):=by
 intro q hq hPq x hx p hp hPp;unfold gvC at hx ⊢;rw[hPq,cond_true]at hx;rw[hPp,cond_true];cases hx;rcases hb.oo (c q) f with e|e
 ·rw[e];exact⟨_,rfl,hb.up _ f⟩
 ·obtain⟨y,h1,h2⟩:=h q hq hPq _ e p hp hPp;rw[h1];exact⟨_,rfl,hb.tr h2 (hb.ub y f)⟩
end
def leF (a b:Fil):Prop:=sle b.1 a.1=false
def I4b:BOk Rp leF where
 rf:=λ a=>N0 _
 tr:=λ h1 h2=>Dla h2 h1
 up:=λ o f=>by
  cases o with
  |none=>exact N0 _
  |some g=>cases h:sle g.1 f.1<;>simp[leF,Rp,h,N0]
 ub:=λ g f=>by
  cases h:sle g.1 f.1<;>simp[leF,Rp,h,N0]
  exact Xq h
 oo:=λ o f=>by
  cases o with
  |none=>exact .inl rfl
  |some g=>cases h:sle g.1 f.1<;>simp[Rp,h]
def leR (a b:Row):Prop:=N3 b a=false
def Rza (o:Option Row) (f:Row):Row:=match o with
 |some g=>mx g f
 |none=>f
def Xu (a:Row):N3 a a=false:=by
 cases h:N3 a a
 ·rfl
 have:=V5 h;rw[h]at this;cases this
def Cub:BOk Rza leR where
 rf:=Xu
 tr:=λ {a b c} h1 h2=>by
  unfold leR at *
  have n1:¬ N3 b a=true:=by rw[h1];decide
  have n2:¬ N3 c b=true:=by rw[h2];decide
  cases h:N3 c a
  ·rfl
  rw[Cqa]at n1 n2 h
  cases ha:a.2.2.1<;>cases hb:b.2.2.1<;>cases hc:c.2.2.1<;>simp only[ha,hb,hc]at h n1 n2<;>simp at h n1 n2<;>omega
 up:=λ o f=>by
  cases o with
  |none=>exact Xu _
  |some g=>cases h:N3 g f<;>simp[leR,Rza,mx,h,Xu]
 ub:=λ g f=>by
  cases h:N3 g f<;>simp[leR,Rza,mx,h,Xu]
  exact V5 h
 oo:=λ o f=>by
  cases o with
  |none=>exact .inl rfl
  |some g=>cases h:N3 g f<;>simp[Rza,mx,h]
def NR.trans {ws:List Wri} {sp:List ByteArray} {a b c:List Nod} (h1:NR ws sp a b) (h2:NR ws sp b c):NR ws sp a c:=⟨h2.1,h2.2.1.trans h1.2.1,λ s hs st h=>h2.2.2 s hs st (h1.2.2 s hs st h)⟩
def SW (w v:Wld):Prop:=∃ ns,v=wN w ns∧NR w.2.2.2.2.1 w.2.2.2.2.2 w.2.2.1 ns
section
variable {w v u:Wld}
def SW.refl (h:WI w):SW w w:=⟨w.2.2.1,rfl,NR.refl h.nodes⟩
def SW.trans (h1:SW w v) (h2:SW v u):SW w u:=by
 obtain⟨a,rfl,ha⟩:=h1;obtain⟨b,rfl,hb⟩:=h2;exact⟨b,rfl,ha.trans hb⟩
def SW.wi (h:SW w v) (hw:WI w):WI v:=by
 obtain⟨ns,rfl,hn⟩:=h;exact hw.other hn
def SW.len (h:SW w v):v.2.2.1.length=w.2.2.1.length:=by
 obtain⟨ns,rfl,hn⟩:=h;exact hn.len
def SW.ws (h:SW w v):v.2.2.2.2.1=w.2.2.2.2.1:=by
 obtain⟨ns,rfl,hn⟩:=h;rfl
def SW.inP (h:SW w v) (t:ByteArray):inP v t=inP w t:=by
 obtain⟨ns,rfl,hn⟩:=h;funext m;unfold Vf.inP Oh;rw[show (wN w ns).2.2.1=ns from rfl,Xha hn.2.1]
def Xka (h:WI w) {i:Nat} (hi:i<w.2.2.1.length) (s:ByteArray):SW w (Sj w i s Gi).2:=Hka h.wok h.nodes hi h.ring h.ids
def Flb (h:WI w) {i:Nat} (hi:i<w.2.2.1.length):SW w (Ug w i Gi).2:=Pqa h.nodes hi
def Fmb (h:WI w) {i:Nat} (hi:i<w.2.2.1.length):SW w (Sn w i Gi).2:=Ppa h.nodes hi
def Cvb (h:WI w) {i:Nat} (hi:i<w.2.2.1.length):SW w (qtA w i):=by
 have hni:=h.nodes _ (A3 (d:=Ac) hi);obtain⟨c1,c2⟩:=Poa h.wok hni.1.g hni.2.1;exact⟨_,rfl,(NR.refl h.nodes).set hi ⟨Pka hni.1,c1,hni.2.2⟩ rfl c2⟩
end
def RQ (ns ms:List Nod):Prop:=∀ m,(ms.getD m Ac).2.2=(ns.getD m Ac).2.2
def RQ.set {ns ms:List Nod} (h:RQ ns ms) {p:Nat} {x:Nod} (hx:x.2.2=(ms.getD p Ac).2.2):RQ ns (ms.set p x):=λ m=>by
 rw[← h m]
 by_cases hm:m<ms.length
 ·rw[Ld hm]
  by_cases e:p=m
  ·rw[if_pos e,hx,e]
  ·rw[if_neg e]
 ·rw[Vb,Vb,Za (by rw[Wc];omega),Za (by omega)]
def I5b (w:Wld) (i:Nat) (s:ByteArray) (rc:List Int):RQ w.2.2.1 (puN w i s rc).1:=by
 unfold puN;refine Nl (λ _ (a:List Nod×Bool×Bool)=>RQ w.2.2.1 a.1) (λ _=>rfl) ?_;rintro j ⟨ns,o,g⟩ hj a1;dsimp only at a1;unfold pst
 cases (Oh w s).getD j 0==(i:Int) with
 |true=>exact a1
 |false=>
  cases rch rc j != 1 with
  |true=>exact a1
  |false=>exact a1.set rfl
def Bcb (w:Wld) (i:Nat) (s:ByteArray) (rc:List Int):RQ w.2.2.1 (Sj w i s rc).2.2.2.1:=by
 have h:=I5b w i s rc;unfold Sj
 cases (lkD (w.2.2.1.getD i Ac).2.1 s).2 != 0 with
 |true=>exact λ _=>rfl
 |false=>
  show RQ w.2.2.1 (bif (puN w i s rc).2.2&&!(puN w i s rc).2.1 then (puN w i s rc).1.set i (Ikb ((puN w i s rc).1.getD i Ac) s) else (puN w i s rc).1)
  cases (puN w i s rc).2.2&&!(puN w i s rc).2.1 with
  |true=>exact h.set rfl
  |false=>exact h
def Xla {s t:ByteArray} (h:s≠t):teq s t=false:=by
 cases hq:teq s t with
 |false=>rfl
 |true=>exact absurd (Db.1 hq) h
def Naa {l:List ByteArray} {t:ByteArray} (h:t∉l):B3a l t=false:=by
 cases hq:B3a l t with
 |false=>rfl
 |true=>exact absurd (Qu.1 hq) h
def Fia {i:Nat}:∀ (l:List ByteArray) {w:Wld},WI w→i<w.2.2.1.length→SW w (Qh w i l)
 |[],w,h,_=>SW.refl h
 |s::l,w,h,hi=>by
  have h1:=Xka h hi s;exact h1.trans (Fia l (h1.wi h) (by rw[h1.len];exact hi))
def Fja {i:Nat}:∀ (l:List ByteArray) {w:Wld},RQ w.2.2.1 (Qh w i l).2.2.1
 |[],w=>λ _=>rfl
 |s::l,w=>λ m=>(Fja l m).trans (Bcb w i s Gi m)
def Fka {nm:List ByteArray} {i:Nat} (t:ByteArray):∀ (l:List ByteArray) {w:Wld},WI w→Dva nm w.2.2.2.2.1→i<w.2.2.1.length→l.Nodup→∀ m,m<w.2.2.1.length→
  oN (Qh w i l).2.2.1 m t=bif B3a l t then Rq Rp (inP w t) i (λ m=>oN w.2.2.1 m t) m else oN w.2.2.1 m t
 |[],w,_,_,_,_,m,_=>rfl
 |s::l,w,h,hN,hi,hl,m,hm=>by
  have h1:=Xka h hi s;obtain⟨hl1,hl2⟩:=Yu.1 hl;have ih:=Fka (nm:=nm) t l (h1.wi h) (by rw[h1.ws];exact hN) (by rw[h1.len];exact hi) hl2 m (by rw[h1.len];exact hm);have pm:=λ m hm=>Bbb h hN hi s (m:=m) hm t;show oN (Qh (Sj w i s Gi).2 i l).2.2.1 m t=_;rw[ih,h1.inP]
  by_cases ht:t∈l
  ·have hst:s≠t:=λ e=>hl1 (e ▸ ht);rw[Qu.2 ht,Qu.2 (Vh _ ht),cond_true,cond_true];refine Dna ?_ ?_
   ·show oN _ i t=_;rw[pm i hi,Xla hst];rfl
   ·show oN _ m t=_;rw[pm m hm,Xla hst];rfl
  ·rw[Naa ht,cond_false,pm m hm]
   by_cases hst:s=t
   ·subst hst;rw[Qu.2 Ya,Db.2 rfl]
   ·rw[Naa (l:=s::l) (by rw[Vl];rintro (e|e);exact hst e.symm;exact ht e),Xla hst];rfl
def S0a {d:Dsk} (hd:B7 d=true):(Qk d).Nodup:=by
 rw[Ajb (Ma hd)];unfold Exb;have h1:E4 (d.1.filter λ x=>(O6 x.2).isSome):=(Ma hd).sublist Mkb;have hp:((d.1.filter λ x=>(O6 x.2).isSome).map Prod.fst).Pairwise (λ a b=>tlt a b=true):=Zn.2 h1;exact hp.imp (λ {a b} hab e=>by subst e;rw[Jc]at hab;cases hab)
def Xma {d:Dsk} {t:ByteArray} (h:t∉Qk d):old d t=none:=by
 have h1:¬ Eca d t:=λ c=>h (Dma.2 c);have h2:=Xea (d:=d) (s:=t);unfold Eca at h1
 cases h3:old d t with
 |none=>rfl
 |some f=>
  rw[h3]at h2;exact absurd (by simpa using h2) h1
def Pya {w:Wld} (h:WI w) {i:Nat} (hi:i<w.2.2.1.length) {m:Nat} (hm:m<w.2.2.1.length) (t:ByteArray):oN (qtA w i).2.2.1 m t=oN w.2.2.1 m t:=by
 show oN (w.2.2.1.set i (Ezb (w.2.2.1.getD i Ac)).1) m t=_;unfold oN;rw[Ld hm]
 by_cases e:i=m
 ·subst e;rw[if_pos rfl];exact Xda (h.nodes _ (A3 (d:=Ac) hi)).1.g t
 ·rw[if_neg e]
def I6b {w:Wld} (h:WI w) {i:Nat} (hi:i<w.2.2.1.length):SW w (qtP w i):=by
 have h1:=Cvb h hi;exact h1.trans (Fia _ (h1.wi h) (by rw[h1.len];exact hi))
def I7b (w:Wld) (i:Nat):RQ w.2.2.1 (qtP w i).2.2.1:=λ m=>(Fja _ m).trans ((show RQ w.2.2.1 w.2.2.1 from λ _=>rfl).set (p:=i) (x:=(Ezb (w.2.2.1.getD i Ac)).1) rfl m)
def I8b {nm:List ByteArray} {w:Wld} (h:WI w) (hN:Dva nm w.2.2.2.2.1) {i:Nat} (hi:i<w.2.2.1.length) {m:Nat} (hm:m<w.2.2.1.length) (t:ByteArray):
  oN (qtP w i).2.2.1 m t=Rq Rp (inP w t) i (λ m=>oN w.2.2.1 m t) m:=by
 have h1:=Cvb h hi
 have hi':i<(qtA w i).2.2.1.length:=by rw[h1.len];exact hi
 have hd:=((h1.wi h).nodes _ (A3 (d:=Ac) hi')).1.g.1;have k:=Fka (nm:=nm) t (Qk ((qtA w i).2.2.1.getD i Ac).2.1) (h1.wi h) (by rw[h1.ws];exact hN) hi' (S0a hd) m (by rw[h1.len];exact hm);show oN (Qh (qtA w i) i _).2.2.1 m t=_;rw[k,h1.inP]
 by_cases ht:t∈Qk ((qtA w i).2.2.1.getD i Ac).2.1
 ·rw[Qu.2 ht];exact Dna (c:=λ m=>oN (qtA w i).2.2.1 m t) (c':=λ m=>oN w.2.2.1 m t) (Pya h hi hi t) (Pya h hi hm t)
 ·rw[Naa ht,cond_false,Pya h hi hm t];have e:oN w.2.2.1 i t=none:=(Pya h hi hi t).symm.trans (Xma ht);unfold Rq;dsimp only;rw[e]

def Bdb {nm:List ByteArray} {ws:List Wri} (hN:Dva nm ws) {a:List Row} (hs:C7 a) (h:∀ r∈a,Q1 ws r=true):a.length≤60:=by
 have hp:(a.map (·.1)).Pairwise (λ a b=>tlt a b=true):=Zn.2 hs;have hd:(a.map (·.1)).Nodup:=hp.imp (λ {a b} hab e=>by subst e;rw[Jc]at hab;cases hab)
 have:=Xt _ nm hd (λ s hs=>by
  obtain⟨r,hr,rfl⟩:=Zb.1 hs;obtain⟨x,hx,rfl⟩:=Xr.1 (h r hr)
  exact hN.2 x hx)
 rw[Wd]at this;have:=hN.1;omega
def S9a (n:Nod) (l:List Row):Nod:=(n.1,n.2.1,Qa n.2.2.1 l,n.2.2.2)
def NI.rows {ws:List Wri} {sp:List ByteArray} {n:Nod} (h:NI ws sp n):C7 n.2.2.1:=(O3.1 (Cb.1 h.1.1).2.2.2.1).1
def Cwb {nm:List ByteArray} {ws:List Wri} {sp:List ByteArray} (hN:Dva nm ws) {n:Nod} (h:NI ws sp n) {l:List Row} (hr:∀ r∈l,Q1 ws r=true):tk n l=(true,S9a n l):=by
 have h1:(Qa n.2.2.1 l).length≤60:=Bdb hN (Pa h.rows) (λ r hr'=>(Gma hr').elim (h.2.2.1 r) (hr r));unfold tk;rw[decide_eq_false (by omega)];rfl
def Kqa {nm:List ByteArray} {w:Wld} (h:WI w) (hN:Dva nm w.2.2.2.2.1) {src:Int} {l:List Row} {self:Bool} (hl:Mi l=true) (hr:∀ r∈l,Q1 w.2.2.2.2.1 r=true):
  (N2 w src l self Gi).2=true∧∀ m,m<w.2.2.1.length→(N2 w src l self Gi).1.getD m Ac=bif inP w R5 m&&!((m:Int)==src&&!self) then S9a (w.2.2.1.getD m Ac) l else w.2.2.1.getD m Ac:=by
 have h5:(C6 w).length≤5:=h.wo.prim5 R5;have hat:=λ x=>Pf (w:=w) (x:=x);have hls:=(O3.1 hl).1;unfold N2 inP;rw[show Oh w R5=C6 w from rfl];generalize C6 w=ps at *
 have key:=Nl (st:=gst src l self Gi ps) (n:=ps.length) (a:=(w.2.2.1,true)) (λ j (a:List Nod×Bool)=>a.2=true∧NR w.2.2.2.2.1 w.2.2.2.2.2 w.2.2.1 a.1∧
  ∀ m,m<w.2.2.1.length→a.1.getD m Ac=bif M7 (ps.take j) (m:Int)&&!((m:Int)==src&&!self) then S9a (w.2.2.1.getD m Ac) l else w.2.2.1.getD m Ac) ?_ ?_
 ·rw[Yp]at key;exact⟨key.1,key.2.2⟩
 ·exact⟨rfl,NR.refl h.nodes,λ m _=>by
   show _=bif false&&_ then _ else _
   rw[Yt]
   rfl⟩
 ·rintro j ⟨ns,g⟩ hj ⟨a1,a3,a4⟩;dsimp only at a1 a3 a4;subst a1;have hpx:=hat _ (A3 (d:=0) hj);obtain⟨p,hp⟩:∃ p:Nat,ps.getD j 0=(p:Int):=⟨(ps.getD j 0).toNat,by omega⟩
  have htk:∀ x:Int,M7 (ps.take (j+1)) x=(M7 (ps.take j) x||(p:Int)==x):=λ x=>by
   have e:ps[j]=(p:Int):=by rw[← hp,Vb,Vj hj];rfl
   unfold M7;rw[Wi hj,Nbb,e,L5b,Ncb,Kwb]
  have hnl:=a3.len
  have hpn:p<ns.length:=by omega
  have hni:=a3.1 _ (A3 (d:=Ac) hpn);unfold gst;rw[hp,Vc,I3b (by omega),Cwb hN hni hr]
  cases hpi:(p:Int)==src&&!self with
  |true=>
   refine⟨rfl,a3,λ m hm=>?_⟩;show ns.getD m Ac=_;rw[a4 m hm,htk]
   by_cases hmp:p=m
   ·subst hmp;rw[hpi,Yw,Yc,Yc]
   ·rw[show ((p:Int)==(m:Int))=false by rw[beq_eq_false_iff_ne];omega,Kwb]
  |false=>
   have hnr:NI w.2.2.2.2.1 w.2.2.2.2.2 (S9a (ns.getD p Ac) l):=by
    obtain⟨t1,_,_⟩:=Htb (n:=ns.getD p Ac) hni hl hr;rw[Cwb hN hni hr]at t1;exact t1
   refine⟨rfl,a3.set hpn hnr rfl (MO.refl _ _),λ m hm=>?_⟩;show (ns.set p (S9a (ns.getD p Ac) l)).getD m Ac=_;rw[Ld (show m<ns.length by omega),htk]
   by_cases hpm:p=m
   ·subst hpm;rw[if_pos rfl,beq_self_eq_true,Bool.or_true,Vw,hpi,Zk,cond_true,a4 p hm,hpi,Zk,Kfb]
    cases M7 (ps.take j) (p:Int) with
    |false=>rfl
    |true=>
     show S9a (S9a (w.2.2.1.getD p Ac) l) l=S9a (w.2.2.1.getD p Ac) l;unfold S9a;dsimp only;rw[V3a (h.nodes _ (A3 (d:=Ac) hm)).rows hls]
   ·rw[if_neg hpm,show ((p:Int)==(m:Int))=false by rw[beq_eq_false_iff_ne];omega,Kwb];exact a4 m hm
def Pza {n:Nod} (h:n.2.2.2=[]):n=Fyb n []:=by
 obtain⟨a,b,c,d⟩:=n;dsimp only at h;subst h;rfl
def Xna {nm:List ByteArray} {w:Wld} (h:WI w) (hN:Dva nm w.2.2.2.2.1) {i:Nat} (hi:i<w.2.2.1.length) {m:Nat} (hm:m<w.2.2.1.length):
  (Ug w i Gi).2.2.2.1.getD m Ac=Fyb (bif inP w R5 m then S9a (w.2.2.1.getD m Ac) ((w.2.2.1.getD i Ac).2.2.2.take 1) else w.2.2.1.getD m Ac) (bif decide (m=i) then (w.2.2.1.getD m Ac).2.2.2.drop 1 else (w.2.2.1.getD m Ac).2.2.2):=by
 have hni:=h.nodes _ (A3 (d:=Ac) hi);have hq:=(Cb.1 hni.1.1).1;unfold Ug
 cases hz:((w.2.2.1.getD i Ac).2.2.2.length:Int)==0 with
 |true=>
  have e:(w.2.2.1.getD i Ac).2.2.2=[]:=Wn (by have:=eq_of_beq hz;omega);rw[e];show w.2.2.1.getD m Ac=_
  by_cases hmi:m=i
  ·subst hmi;rw[decide_eq_true rfl,e]
   cases inP w R5 m with
   |true=>exact Pza (n:=S9a (w.2.2.1.getD m Ac) []) e
   |false=>exact Pza e
  ·rw[decide_eq_false hmi]
   cases inP w R5 m<;>rfl
 |false=>
  obtain⟨g1,g2⟩:=Kqa h hN (src:=(i:Int)) (self:=true) (Ph hq) (λ r hr=>hni.2.2.2 r (Khb hr));have gl:(Qg w i Gi).1.length=w.2.2.1.length:=(Xp (Ph hq) h.ns).2;rw[show N2 w (i:Int) ((w.2.2.1.getD i Ac).2.2.2.take 1) true Gi=Qg w i Gi from rfl]at g1 g2;have g3:=g2 m hm;rw[Yw,Yc,Zk,Kfb]at g3;show (bif (Qg w i Gi).2 then (Qg w i Gi).1.set i (Fyb ((Qg w i Gi).1.getD i Ac) ((w.2.2.1.getD i Ac).2.2.2.drop 1)) else (Qg w i Gi).1).getD m Ac=_;rw[g1,cond_true,Ld (by omega)]
  by_cases hmi:i=m
  ·subst hmi;rw[if_pos rfl,g3,decide_eq_true rfl,cond_true]
  ·rw[if_neg hmi,g3,decide_eq_false (λ e=>hmi e.symm),cond_false]
   cases inP w R5 m<;>rfl
def Xoa {nm:List ByteArray} {w:Wld} (h:WI w) (hN:Dva nm w.2.2.2.2.1) {i:Nat} (hi:i<w.2.2.1.length) {m:Nat} (hm:m<w.2.2.1.length):
  (Sn w i Gi).2.2.2.1.getD m Ac=bif inP w R5 m&&!(decide (m=i)) then S9a (w.2.2.1.getD m Ac) (w.2.2.1.getD i Ac).2.2.1 else bif decide (m=i)&&!(inP w R5 i) then Aoa (w.2.2.1.getD m Ac) else w.2.2.1.getD m Ac:=by
 have hni:=h.nodes _ (A3 (d:=Ac) hi);have hro:=(Cb.1 hni.1.1).2.2.2.1;unfold Sn
 cases hz:((w.2.2.1.getD i Ac).2.2.1.length:Int)==0 with
 |true=>
  have e:(w.2.2.1.getD i Ac).2.2.1=[]:=Wn (by have:=eq_of_beq hz;omega);rw[e];show w.2.2.1.getD m Ac=_
  by_cases hmi:m=i
  ·subst hmi;rw[decide_eq_true rfl,Yw,Yc,cond_false]
   cases inP w R5 m with
   |true=>rfl
   |false=>show _=Aoa (w.2.2.1.getD m Ac);unfold Aoa;rw[← e]
  ·rw[decide_eq_false hmi]
   cases inP w R5 m<;>rfl
 |false=>
  obtain⟨g1,g2⟩:=Kqa h hN (src:=(i:Int)) (self:=false) hro hni.2.2.1;have gn:NR w.2.2.2.2.1 w.2.2.2.2.2 w.2.2.1 (N2 w (i:Int) (w.2.2.1.getD i Ac).2.2.1 false Gi).1:=Hla h.nodes hro hni.2.2.1;rw[show N2 w (i:Int) (w.2.2.1.getD i Ac).2.2.1 false Gi=Pg w i Gi from rfl]at g1 g2 gn;have gl:=gn.len
  have eL:M7 (C6 (wN w (Pg w i Gi).1)) (i:Int)=inP w R5 i:=by
   unfold C6 inP Oh;rw[show (wN w (Pg w i Gi).1).2.2.1=(Pg w i Gi).1 from rfl,Xha gn.2.1]
  have gq:∀ q:Nat,((q:Int)==(i:Int)&&!false)=decide (q=i):=λ q=>by
   rw[Zk,Kfb]
   by_cases e:q=i
   ·rw[e,beq_self_eq_true,decide_eq_true rfl]
   ·rw[decide_eq_false e,beq_eq_false_iff_ne];omega
  have g3:=g2 m hm;rw[gq]at g3;show (bif (Pg w i Gi).2&&!(M7 (C6 (wN w (Pg w i Gi).1)) (i:Int)) then (Pg w i Gi).1.set i (Aoa ((Pg w i Gi).1.getD i Ac)) else (Pg w i Gi).1).getD m Ac=_;rw[g1,Vw,eL]
  cases hin:inP w R5 i with
  |true=>
   rw[Yw,cond_false,g3,Yc,cond_false]
  |false=>
   rw[Zk,cond_true,Ld (by omega)]
   by_cases hmi:i=m
   ·subst hmi;rw[if_pos rfl,decide_eq_true rfl,hin,Yt,cond_false,Vw,cond_true];rw[decide_eq_true rfl,hin,Yt,cond_false]at g3;rw[g3]
   ·rw[if_neg hmi,g3,decide_eq_false (λ e=>hmi e.symm),Yt,cond_false]
def rN (ns:List Nod) (m:Nat) (t:ByteArray):Option Row:=Ko (ns.getD m Ac).2.2.1 t
def InK.rows {k n:Nat} {P:Nat→Bool} {t:ByteArray}:∀ (q:List Row) {R:Nat→List Row},(∀ m,m<n→C7 (R m))→k≤n→(Pxa k P (λ m=>Ko (R m) t)∧InK leR k n P (λ m=>Ko (R m) t))→
  Pxa k P (λ m=>Ko (bif P m then Qa (R m) q else R m) t)∧InK leR k n P (λ m=>Ko (bif P m then Qa (R m) q else R m) t)
 |[],R,hs,hk,h=>by
  have e:(λ m=>Ko (bif P m then Qa (R m) [] else R m) t)=λ m=>Ko (R m) t:=by
   funext m
   cases P m<;>rfl
  rw[e];exact h
 |r::q,R,hs,hk,h=>by
  have e:∀ m,m<n→Ko (bif P m then mrg (R m) r else R m) t=bif teq r.1 t then gvC Rza P r (λ m=>Ko (R m) t) m else Ko (R m) t:=λ m hm=>by
   unfold gvC
   cases P m with
   |false=>cases teq r.1 t<;>rfl
   |true=>
    rw[cond_true,Jba (hs m hm) t]
    cases teq r.1 t with
    |false=>rfl
    |true=>dsimp only;cases Ko (R m) t<;>rfl
  have ih:=InK.rows q (R:=λ m=>bif P m then mrg (R m) r else R m) (P:=P) (t:=t) (k:=k) (n:=n) (λ m hm=>by
   cases P m with
   |true=>exact U7 (hs m hm)
   |false=>exact hs m hm) hk ?_
  ·have e2:(λ m=>Ko (bif P m then Qa (bif P m then mrg (R m) r else R m) q else (bif P m then mrg (R m) r else R m)) t)=λ m=>Ko (bif P m then Qa (R m) (r::q) else R m) t:=by
    funext m
    cases P m<;>rfl
   rw[← e2];exact ih
  ·cases ht:teq r.1 t with
   |true=>exact⟨h.1.gv.eq hk (λ m hm=>by rw[e m hm,ht];rfl),(h.2.gv (f:=r) Cub).eq hk (λ m hm=>by rw[e m hm,ht];rfl)⟩
   |false=>exact⟨h.1.eq hk (λ m hm=>by rw[e m hm,ht];rfl),h.2.eq hk (λ m hm=>by rw[e m hm,ht];rfl)⟩
def WI.give {w:Wld} (h:WI w) (m:Nat) (hm:m<w.2.2.1.length):C7 (w.2.2.1.getD m Ac).2.2.1:=(h.nodes _ (A3 (d:=Ac) hm)).rows
structure TA (w v:Wld) (i n:Nat):Prop where
 sw:SW w v
 di:∀ m,m<w.2.2.1.length→(v.2.2.1.getD m Ac).2.1=(w.2.2.1.getD m Ac).2.1
 ro:∀ m,m<w.2.2.1.length→(v.2.2.1.getD m Ac).2.2.1=bif inP w R5 m then Qa (w.2.2.1.getD m Ac).2.2.1 ((w.2.2.1.getD i Ac).2.2.2.take n) else (w.2.2.1.getD m Ac).2.2.1
 qu:∀ m,m<w.2.2.1.length→(v.2.2.1.getD m Ac).2.2.2=bif decide (m=i) then (w.2.2.1.getD m Ac).2.2.2.drop n else (w.2.2.1.getD m Ac).2.2.2
def Doa {nm:List ByteArray} {w:Wld} (h:WI w) (hN:Dva nm w.2.2.2.2.1) {i:Nat} (hi:i<w.2.2.1.length):∀ n,TA w (R6 w i n) i n
 |0=>⟨SW.refl h,λ _ _=>rfl,λ m _=>by cases inP w R5 m<;>rfl,λ m _=>by cases decide (m=i)<;>rfl⟩
 |n+1=>by
  have ih:=Doa h hN hi n;show TA w (Ug (R6 w i n) i Gi).2 i (n+1);generalize R6 w i n=v at *;have hv:=ih.sw.wi h;have hl:=ih.sw.len;have t1:=Flb hv (i:=i) (by omega);have t2:=λ m (hm:m<w.2.2.1.length)=>Xna hv (nm:=nm) (by rw[ih.sw.ws];exact hN) (i:=i) (by omega) (m:=m) (by omega);rw[ih.sw.inP]at t2;refine⟨ih.sw.trans t1,λ m hm=>?_,λ m hm=>?_,λ m hm=>?_⟩
  ·rw[t2 m hm,← ih.di m hm]
   cases inP w R5 m<;>rfl
  ·rw[t2 m hm];have r1:=ih.ro m hm;have q1:=ih.qu i hi;rw[decide_eq_true rfl,cond_true]at q1;rw[q1]
   cases hp:inP w R5 m with
   |false=>
    rw[hp,cond_false]at r1;exact r1
   |true=>
    rw[hp,cond_true]at r1;show Qa (v.2.2.1.getD m Ac).2.2.1 _=Qa _ _;rw[r1];unfold Qa;rw[← Kjb,Ngb (i:=n) (j:=1)]
  ·rw[t2 m hm];show (bif decide (m=i) then (v.2.2.1.getD m Ac).2.2.2.drop 1 else (v.2.2.1.getD m Ac).2.2.2)=_;rw[ih.qu m hm]
   cases decide (m=i) with
   |true=>rw[cond_true,cond_true,cond_true,Yq]
   |false=>rfl
structure RI (nm:List ByteArray) (k:Nat) (w:Wld):Prop where
 wi:WI w
 few:Dva nm w.2.2.2.2.1
 fo:∀ t,Pxa k (inP w t) (λ m=>oN w.2.2.1 m t)
 fi:∀ t,InK leF k w.2.2.1.length (inP w t) (λ m=>oN w.2.2.1 m t)
 ro:∀ t,Pxa k (inP w R5) (λ m=>rN w.2.2.1 m t)
 ri:∀ t,InK leR k w.2.2.1.length (inP w R5) (λ m=>rN w.2.2.1 m t)
 qe:∀ m,m<k→(w.2.2.1.getD m Ac).2.2.2=[]
def RI.rstep {nm:List ByteArray} {w:Wld} {i:Nat} (h:RI nm i w) (hi:i<w.2.2.1.length):RI nm (i+1) (qtN w i)∧SW w (qtN w i):=by
 have s1:=I6b h.wi hi;have o1:=λ m (hm:m<w.2.2.1.length) t=>I8b h.wi h.few hi hm t;have r1:=I7b w i;have w1:=s1.wi h.wi;have l1:=s1.len;have p1:=s1.inP
 have f1:Dva nm (qtP w i).2.2.2.2.1:=by rw[s1.ws];exact h.few
 unfold qtN qtT;generalize qtP w i=u at *;have ta:=Doa w1 f1 (i:=i) (by omega) (u.2.2.1.getD i Ac).2.2.2.length;generalize R6 u i (u.2.2.1.getD i Ac).2.2.2.length=v at *;have w2:=ta.sw.wi w1;have l2:=ta.sw.len;have p2:=λ t=>(ta.sw.inP t).trans (p1 t)
 have f2:Dva nm v.2.2.2.2.1:=by rw[ta.sw.ws];exact f1
 have s3:=Fmb w2 (i:=i) (by omega);have g3:=λ m (hm:m<w.2.2.1.length)=>Xoa w2 f2 (i:=i) (by omega) (m:=m) (by omega);rw[p2]at g3;have l3:=s3.len;have p3:=λ t=>(s3.inP t).trans (p2 t)
 have f3:Dva nm (Sn v i Gi).2.2.2.2.2.1:=by rw[s3.ws];exact f2
 have w3:=s3.wi w2;have s4:=(s1.trans ta.sw).trans s3
 have eo:∀ t m,m<w.2.2.1.length→oN (Sn v i Gi).2.2.2.1 m t=Rq Rp (inP w t) i (λ m=>oN w.2.2.1 m t) m:=λ t m hm=>by
  rw[← o1 m hm t];unfold oN;rw[g3 m hm,← ta.di m (by omega)]
  cases inP w R5 m&&!(decide (m=i)) with
  |true=>rfl
  |false=>cases decide (m=i)&&!(inP w R5 i)<;>rfl
 have tv:∀ t,Pxa i (inP w R5) (λ m=>rN v.2.2.1 m t)∧InK leR i w.2.2.1.length (inP w R5) (λ m=>rN v.2.2.1 m t):=λ t=>by
  have:=InK.rows (t:=t) (P:=inP w R5) (k:=i) (n:=w.2.2.1.length) (u.2.2.1.getD i Ac).2.2.2 (R:=λ m=>(u.2.2.1.getD m Ac).2.2.1) (λ m hm=>w1.give m (by omega)) (by omega) ⟨(h.ro t).eq (n:=w.2.2.1.length) (by omega) (λ m hm=>by
   unfold rN;rw[r1 m]),(h.ri t).eq (by omega) (λ m hm=>by unfold rN;rw[r1 m])⟩
  have e:∀ m,m<w.2.2.1.length→rN v.2.2.1 m t=Ko (bif inP w R5 m then Qa (u.2.2.1.getD m Ac).2.2.1 (u.2.2.1.getD i Ac).2.2.2 else (u.2.2.1.getD m Ac).2.2.1) t:=λ m hm=>by
   have:=ta.ro m (by omega);rw[p1,Yp]at this;unfold rN;rw[this]
  exact⟨this.1.eq (n:=w.2.2.1.length) (by omega) e,this.2.eq (by omega) e⟩
 have er:∀ t m,m<w.2.2.1.length→rN (Sn v i Gi).2.2.2.1 m t=Rq Rza (inP w R5) i (λ m=>rN v.2.2.1 m t) m:=λ t m hm=>by
  have hl:=Z8 (w2.give m (by omega)) (w2.give i (by omega)) t;unfold Rq rN;rw[g3 m hm];dsimp only;have hno:∀ n:Nod,Ko (Aoa n).2.2.1 t=none:=λ _=>rfl
  cases hk:Ko (v.2.2.1.getD i Ac).2.2.1 t with
  |none=>
   rw[hk]at hl;dsimp only
   cases hc:inP w R5 m&&!(decide (m=i)) with
   |true=>
    show Ko (Qa (v.2.2.1.getD m Ac).2.2.1 (v.2.2.1.getD i Ac).2.2.1) t=_;rw[hl]
    cases Ko (v.2.2.1.getD m Ac).2.2.1 t<;>rfl
   |false=>
    rw[cond_false]
    by_cases hmi:m=i
    ·rw[decide_eq_true hmi,hmi,hk]
     cases inP w R5 i with
     |true=>exact hk
     |false=>rfl
    ·rw[decide_eq_false hmi];rfl
  |some r=>
   rw[hk]at hl;dsimp only
   cases hc:inP w R5 m&&!(decide (m=i)) with
   |true=>
    show Ko (Qa (v.2.2.1.getD m Ac).2.2.1 (v.2.2.1.getD i Ac).2.2.1) t=_;rw[hl]
    cases Ko (v.2.2.1.getD m Ac).2.2.1 t<;>rfl
   |false=>
    rw[cond_false,cond_false]
    cases decide (m=i)&&!(inP w R5 i)<;>rfl
 refine⟨⟨w3,f3,λ t=>?_,λ t=>?_,λ t=>?_,λ t=>?_,λ m hm=>?_⟩,s4⟩
 ·rw[p3];exact(h.fo t).ostep.eq (n:=w.2.2.1.length) (by omega) (eo t)
 ·rw[p3,s4.len];exact((h.fi t).istep I4b).eq (by omega) (eo t)
 ·rw[p3];exact(tv t).1.ostep.eq (n:=w.2.2.1.length) (by omega) (er t)
 ·rw[p3,s4.len];exact((tv t).2.istep Cub).eq (by omega) (er t)
 ·have e1:((Sn v i Gi).2.2.2.1.getD m Ac).2.2.2=(v.2.2.1.getD m Ac).2.2.2:=by
   rw[g3 m (by omega)]
   cases inP w R5 m&&!(decide (m=i)) with
   |true=>rfl
   |false=>cases decide (m=i)&&!(inP w R5 i)<;>rfl
  rw[e1,ta.qu m (by omega)]
  by_cases hmi:m=i
  ·rw[decide_eq_true hmi,cond_true,hmi,Vz]
  ·rw[decide_eq_false hmi,cond_false,r1 m];exact h.qe m (by omega)
def Cxb {nm:List ByteArray} {w:Wld} (h:WI w) (hN:Dva nm w.2.2.2.2.1):∀ k,k≤w.2.2.1.length→RI nm k (run qtN k w)∧SW w (run qtN k w)
 |0,_=>⟨⟨h,hN,λ _ m hm=>(by omega),λ _ q hq=>(by omega),λ _ m hm=>(by omega),λ _ q hq=>(by omega),λ m hm=>(by omega)⟩,SW.refl h⟩
 |k+1,hk=>by
  obtain⟨h1,h2⟩:=Cxb h hN k (by omega);rw[P0];have hl:=h2.len;generalize run qtN k w=v at *;obtain⟨h3,h4⟩:=h1.rstep (by omega);exact⟨h3,h2.trans h4⟩
def Q0a {nm:List ByteArray} {w:Wld} (h:WI w) (hN:Dva nm w.2.2.2.2.1):RI nm (Ut w).2.2.1.length (Ut w)∧SW w (Ut w):=by
 obtain⟨h1,h2⟩:=Cxb h hN _ (Vv _);have hl:=h2.len;unfold Ut;generalize run qtN w.2.2.1.length w=v at *;rw[hl];exact⟨h1,h2⟩

def NG.rows {n:Nod} (h:NG n):C7 n.2.2.1:=(O3.1 (Cb.1 h.1).2.2.2.1).1

section
open Go
end

def Xpa {w:Wld} (h:WI w) {s t:ByteArray} {f g:Fil} (hf:IsW w.2.2.2.2.1 s f) (hg:IsW w.2.2.2.2.1 t g) (e:f.1=g.1):f=g:=by
 obtain⟨x,hx,_,rfl⟩:=hf;obtain⟨y,hy,_,rfl⟩:=hg;obtain⟨i,hi,rfl⟩:=Zf.1 hx;obtain⟨j,hj,rfl⟩:=Zf.1 hy;have ha:=Zj.1 h.asc;rcases Nat.lt_trichotomy i j with c|c|c
 ·have:=ha i j hi hj c;rw[e,N0]at this;cases this
 ·subst c;rfl
 ·have:=ha j i hj hi c;rw[e,N0]at this;cases this
def I9b {a b:Stp} (h1:sle a b=false) (h2:sle b a=false):a=b:=by
 have n1:¬ sle a b=true:=by rw[h1];decide
 have n2:¬ sle b a=true:=by rw[h2];decide
 rw[Qz]at n1 n2;obtain⟨a1,a2,a3⟩:=a;obtain⟨b1,b2,b3⟩:=b;dsimp only at n1 n2
 obtain rfl:a1=b1:=by omega
 obtain rfl:a2=b2:=by omega
 obtain rfl:a3=b3:=by omega
 rfl
def Xqa {s:ByteArray} {f:Fil}:∀ (ns:List Nod) (a:Bool×Fil),(∀ n∈ns,((lkD n.2.1 s).2==0)=true→(lkD n.2.1 s).1=f)→(a.1=true→a.2=f)→(ns.foldl (B6b s) a).1=true→(ns.foldl (B6b s) a).2=f
 |[],a,_,h,h1=>h h1
 |n::ns,a,hn,h,h1=>by
  rw[Ye]at h1 ⊢;refine Xqa ns _ (λ m hm=>hn m (Vh _ hm)) ?_ h1;have k:=hn n Ya;unfold B6b
  cases hc:(lkD n.2.1 s).2==0 with
  |false=>exact h
  |true=>
   rw[cond_true]
   cases !a.1||sle a.2.1 (lkD n.2.1 s).1.1 with
   |true=>exact λ _=>k hc
   |false=>exact h
def Iab {d:Dsk} {s:ByteArray}:((lkD d s).2==0)=(old d s).isSome:=by
 have:=Xea (d:=d) (s:=s);unfold bne at this
 cases h:(lkD d s).2==0<;>cases h2:old d s<;>simp[h,h2]at this ⊢
section
variable {nm:List ByteArray} {w:Wld}
def RI.names (h:RI nm w.2.2.1.length w) {j:Nat} (hj:j<w.2.2.1.length) {s:ByteArray} (hs:(oN w.2.2.1 j s).isSome=true):lvN w s=true:=by
 obtain⟨f,hf⟩:=Zm.1 hs
 have hP:inP w s j=true:=by
  cases hp:inP w s j with
  |true=>rfl
  |false=>
   have e:oN w.2.2.1 j s=none:=h.fo s j hj hp;rw[e]at hf;cases hf
 have isw:∀ m,m<w.2.2.1.length→∀ g,oN w.2.2.1 m s=some g→IsW w.2.2.2.2.1 s g:=λ m hm g hg=>ED.now h.wi.wok ((h.wi.nodes _ (A3 (d:=Ac) hm)).2.1 s) hg
 have all:∀ m,m<w.2.2.1.length→oN w.2.2.1 m s=bif inP w s m then some f else none:=λ m hm=>by
  cases hp:inP w s m with
  |false=>exact h.fo s m hm hp
  |true=>
   obtain⟨y,h1,h2⟩:=h.fi s j hj hP f hf m hm hp;obtain⟨z,h3,h4⟩:=h.fi s m hm hp y h1 j hj hP;have h3':oN w.2.2.1 j s=some z:=h3;rw[hf]at h3';obtain rfl:=L9b h3';have h1':oN w.2.2.1 m s=some y:=h1;rw[h1',Xpa h.wi (isw j hj f hf) (isw m hm y h1') (I9b h4 h2)];rfl
 unfold lvN
 have hlk:∀ m,m<w.2.2.1.length→((lkD (w.2.2.1.getD m Ac).2.1 s).2==0)=inP w s m∧(inP w s m=true→(lkD (w.2.2.1.getD m Ac).2.1 s).1=f):=λ m hm=>by
  have a:=all m hm;unfold oN at a;refine⟨?_,λ hp=>?_⟩
  ·rw[Iab,a]
   cases inP w s m<;>rfl
  ·rw[hp]at a;rw[Xfa a]
 have hl:(lat w.2.2.1 s).2=f:=by
  unfold lat;refine Xqa _ _ (λ n hn hc=>?_) (λ c=>by cases c) (Pva _ _ (.inr ⟨_,A3 (d:=Ac) hj,by rw[(hlk j hj).1];exact hP⟩));obtain⟨m,hm,rfl⟩:=Zf.1 hn
  have e:w.2.2.1[m]=w.2.2.1.getD m Ac:=by rw[Vb,Vj hm];rfl
  rw[e]at hc ⊢;rw[(hlk m hm).1]at hc;exact(hlk m hm).2 hc
 rw[hl,Qf _ Ac,Wj];intro m hm;have hm':=Zc.1 hm;obtain⟨k1,k2⟩:=hlk m hm';have hb:=((isw j hj f hf).good h.wi.wok).2.2;unfold lvE;rw[← B7b hm',k1,show M7 (whr w.2.2.1 (Sr w.2.1 s)) (m:Int)=inP w s m from rfl]
 cases hp:inP w s m with
 |false=>rfl
 |true=>
  rw[k2 hp,(Dja hb hb).2 rfl];rfl
def RI.rows (h:RI nm w.2.2.1.length w) {j:Nat} (hj:j<w.2.2.1.length):Ffb w j=true:=by
 unfold Ffb X8a;rw[h.qe j hj]
 have refl:∀ l:List Row,N7a l l=true:=λ l=>by
  unfold N7a;rw[beq_self_eq_true,Vw,Wj];intro i _;unfold I0b;rw[Bga,Db.2 rfl,beq_self_eq_true,beq_self_eq_true,beq_self_eq_true,beq_self_eq_true,beq_self_eq_true];rfl
 show (true&&_)=true;rw[Vw];have hp:M7 (C6 w) (j:Int)=inP w R5 j:=rfl
 cases hL:inP w R5 j with
 |false=>
  rw[hp,hL,cond_false,Kma]
  have e:(w.2.2.1.getD j Ac).2.2.1=[]:=by
   cases hr:(w.2.2.1.getD j Ac).2.2.1 with
   |nil=>rfl
   |cons r l=>
    have h1:rN w.2.2.1 j r.1=none:=h.ro r.1 j hj hL;have h2:=Of (h.wi.give j hj) (r:=r) (by rw[hr];exact Ya);unfold rN at h1;rw[h1]at h2;cases h2
  rw[e];rfl
 |true=>
  rw[hp,hL,cond_true];obtain⟨l0,l1,l2⟩:=Kna (hp.trans hL);obtain⟨p,ep⟩:∃ p:Nat,(C6 w).getD 0 0=(p:Int):=⟨((C6 w).getD 0 0).toNat,by omega⟩
  have hpP:inP w R5 p=true:=by
   show M7 (C6 w) (p:Int)=true;rw[← ep];exact Nc.2 (A3 l0)
  rw[ep,Vc]
  have hpn:p<w.2.2.1.length:=by omega
  have e:(w.2.2.1.getD j Ac).2.2.1=(w.2.2.1.getD p Ac).2.2.1:=by
   refine Cra (h.wi.give j hj) (h.wi.give p hpn) λ t=>?_
   have one:∀ a b,a<w.2.2.1.length→b<w.2.2.1.length→inP w R5 a=true→inP w R5 b=true→∀ x,rN w.2.2.1 a t=some x→rN w.2.2.1 b t=some x:=λ a b ha hb pa pb x hx=>by
    obtain⟨y,h1,h2⟩:=h.ri t a ha pa x hx b hb pb;obtain⟨z,h3,h4⟩:=h.ri t b hb pb y h1 a ha pa;have h3':rN w.2.2.1 a t=some z:=h3;rw[hx]at h3';obtain rfl:=L9b h3';have h1':rN w.2.2.1 b t=some y:=h1;rw[h1',V2a ((F0a _ hx).trans (F0a _ h1').symm) h4 h2]
   show rN w.2.2.1 j t=rN w.2.2.1 p t
   cases h1:rN w.2.2.1 j t with
   |some x=>exact(one j p hj hpn hL hpP x h1).symm
   |none=>
    cases h2:rN w.2.2.1 p t with
    |none=>rfl
    |some x=>rw[one p j hpn hj hpP hL x h2]at h1;cases h1
  rw[e];exact refl _
def RI.level (h:RI nm w.2.2.1.length w):Imb w=true:=by
 unfold Imb;rw[Va,Wj,Wj];refine⟨λ j hj=>?_,λ j hj=>h.rows (Zc.1 hj)⟩;have hj':=Zc.1 hj;unfold I1b;rw[Wj];intro s hs;refine h.names hj' ?_;have:=Dma.1 hs;unfold Eca at this;rw[Iab]at this;exact this
end

section
open Go
end

def One (p q:List Int):Prop:=q=p∨∃ i b,q=p.set i b
def Beb {l:List Dev} {s:Int×Rng} {j k:Nat} (hk:k<s.2.2.length):(k≠j→(rb1 l s j).2.2.getD k []=s.2.2.getD k [])∧One (s.2.2.getD k []) ((rb1 l s j).2.2.getD k []):=by
 unfold rb1
 cases hx:Fba s.2 l (s.2.2.getD j []) (Xx s.2 (s.2.2.getD j []) l) with
 |none=>exact⟨λ _=>rfl,.inl rfl⟩
 |some i=>
  dsimp only;rw[Ld hk]
  by_cases e:j=k
  ·subst e;rw[if_pos rfl];exact⟨λ c=>absurd rfl c,.inr ⟨i,_,rfl⟩⟩
  ·rw[if_neg e];exact⟨λ _=>rfl,.inl rfl⟩
def Q1a {l:List Dev} {r:Rng} (h:Jd r l=true) {k:Nat} (hk:k<r.2.length):∀ n,n≤r.2.length→(n≤k→(rbs l r n).2.2.getD k []=r.2.getD k [])∧One (r.2.getD k []) ((rbs l r n).2.2.getD k [])
 |0,_=>⟨λ _=>rfl,.inl rfl⟩
 |n+1,hn=>by
  obtain⟨i1,i2⟩:=Q1a h hk n (by omega);obtain⟨_,_,h3,_⟩:=Fca h n (by omega);obtain⟨p1,p2⟩:=Beb (l:=l) (s:=rbs l r n) (j:=n) (k:=k) (by rw[h3];exact hk);rw[Bma];refine⟨λ c=>(p1 (by omega)).trans (i1 (by omega)),?_⟩
  by_cases e:k=n
  ·rw[i1 (by omega)]at p2;exact p2
  ·rw[p1 e];exact i2
def S1a {l:List Dev} {r:Rng} (h:Jd r l=true) {k:Nat} (hk:k<r.2.length):One (r.2.getD k []) ((B2a r l).1.2.getD k []):=(Q1a h hk _ (Vv _)).2
def mvd (p q:List Int):Nat:=p.countP λ x => !(M7 q x)
def Bfb (p:List Int):mvd p p=0:=List.countP_eq_zero.2 λ x hx=>by rw[Nc.2 hx];simp
def Xra (b:Int):∀ (p:List Int) (i:Nat),mvd p (p.set i b)≤1
 |[],_=>by show 0≤1;omega
 |x::p,0=>by
  have h:p.countP (λ y => !(M7 (b::p) y))=0:=List.countP_eq_zero.2 λ y hy=>by rw[Nc.2 (Vh _ hy)];simp
  show (x::p).countP (λ y => !(M7 (b::p) y))≤1;rw[List.countP_cons,h]
  cases !(M7 (b::p) x)<;>simp
 |x::p,i+1=>by
  have ih:=Xra b p i;show (x::p).countP (λ y => !(M7 (x::p.set i b) y))≤1;rw[List.countP_cons,Nc.2 Ya]
  have:=List.countP_mono_left (l:=p) (p:=λ y => !(M7 (x::p.set i b) y)) (q:=λ y => !(M7 (p.set i b) y)) (λ y _ hy=>by
   rw[Vx]at hy ⊢
   cases hq:M7 (p.set i b) y with
   |false=>rfl
   |true=>rw[Nc.2 (Vh _ (Nc.1 hq))]at hy;cases hy)
  unfold mvd at ih;simp only[Yw,Xs,if_false];omega
def One.moved {p q:List Int} (h:One p q):mvd p q≤1:=by
 rcases h with rfl|⟨i,b,rfl⟩
 ·rw[Bfb];omega
 ·exact Xra b p i

section
open Go
end

section
open Go
end

def Fla {w:Wld} (h:WO w) {i t:Int} (hi:inR i 0 ((w.1.length:Int)-1)=true) (ht:inR t 1 1000=true):Uh w i t=(true,(wgt w.1 i.toNat t,(B2a w.2.1 (wgt w.1 i.toNat t)).1,w.2.2)):=by
 obtain⟨i0,i1⟩:=Dt.1 hi;obtain⟨t0,t1⟩:=Dt.1 ht;obtain⟨_,_,_,h4⟩:=Xm (Ua h.ring (show i.toNat<w.1.length by omega) t0 t1);unfold Uh;rw[hi,ht,decide_eq_true h4];rfl

end Go.Proofs.YtiiekghlhfbmmaaGreat.Vf

section
set_option linter.unusedVariables false
set_option linter.unusedSimpArgs false
namespace Go.Proofs.YtiiekghlhfbmmaaGreat.Pure
open Go Go.RowKit Go.Proofs.YtiiekghlhfbmmaaGreat.Vf
theorem Ibb {a:List Int} (h:An a) (hb:(a.length:Int)≤1048576) (i:Nat) (hi:i≤100):∃ v,Pr a (i:Int)=some v∧0≤v∧v≤255:=by
 unfold Pr
 by_cases hl:i<a.length
 ·have hx:=h _ (A3 (d:=0) hl);refine⟨a.getD i 0,?_,hx⟩;simp (disch:=omega) only [dT,Vc,w64]
 ·refine⟨Int.tmod ((i:Int)*31+(a.length:Int)*7) 256,?_,Int.tmod_nonneg _ (by omega),by have:=Int.tmod_lt_of_pos ((i:Int)*31+(a.length:Int)*7) (show (0:Int)<256 by decide);omega⟩;simp (disch:=omega) only [dF,w64]
theorem Icb (A B:Rng) (i:Nat) (hi:i<B.2.length) (p:List Int) (hp:p.length≤1000) (hq:(B.2.getD i []).length≤1000):
  Tot (λ k=>Hk k 0 (i:Int) p (p.length:Int) 0 A B) (λ r=>r=((mvd p (B.2.getD i []):Int),(i:Int),A,B)):=by
 refine K0b (L:=λ k j (c:Int)=>Hk k c (i:Int) p (p.length:Int) j A B) (Q:=λ r=>r=((mvd p (B.2.getD i []):Int),(i:Int),A,B)) p.length (λ j c=>c=(((p.take j).countP λ x => !(M7 (B.2.getD i []) x):Nat):Int)∧c≤j) ?_ ?_ 0 0 (Vq _) ⟨rfl,Keb _⟩
 ·rintro c ⟨rfl,_⟩;simp (disch:=omega) only [Hk,dF];exact Jrb (by rw[Yp];rfl)
 ·rintro j c hj ⟨hc,hcj⟩ next
  have hc0:0≤c:=by omega
  rw[Wi hj,List.countP_append]at next
  have eg:p[j]=p.getD j 0:=by rw[Vb,Vj hj,Yo]
  rw[eg]at next;simp (disch:=omega) only [Hk,dT,Vc,w64];refine K3b (Tj _ (p.getD j 0) (by omega)) ?_
  have e1:∀ b:Bool,M7 (B.2.getD i []) (p.getD j 0)=b→(([p.getD j 0].countP λ x => !(M7 (B.2.getD i []) x):Nat):Int)=bif b then 0 else 1:=λ b hb=>by
   rw[List.countP_cons,List.countP_nil,hb]
   cases b<;>rfl
  cases hh:M7 (B.2.getD i []) (p.getD j 0) with
  |true=>
   refine Jtb rfl (next c ⟨?_,by omega⟩);have:=e1 true hh;rw[cond_true]at this;omega
  |false=>
   refine Jub rfl (next (c+1) ⟨?_,by omega⟩);have:=e1 false hh;rw[cond_false]at this;omega
theorem Xsa (R:Int) (p q:List Int) (hp:p.length≤1000) (hq:q.length≤1000):Tot (λ k=>Hz k (R,[p]) (R,[q])) (λ r=>r=(mvd p q:Int)):=by
 unfold Hz;refine Jsb (Q:=λ r=>r=(mvd p q:Int)) ?_ (by rintro r rfl;exact Jrb rfl);have h6:=Icb (R,[p]) (R,[q]) 0 (by simp) p hp (by exact hq);have hl:∀ x:List Int,([x].length:Int)=1:=λ x=>rfl;have g0:∀ x:List Int,List.getD [x] (Int.toNat 0) []=x:=λ x=>rfl;have hmv:mvd p q≤p.length:=List.countP_le_length;refine Tot.succ ?_;simp (disch:=omega) only [Km,hl,dT,g0];refine K3b h6 ?_;refine Tot.succ ?_;simp (disch:=omega) only [Km,hl,w64,dF];exact Jrb rfl
theorem Q2a {α:Type} {l:List α} {j:Nat} (hj:j<l.length) (d:α):List.drop j (List.take (j+1) l)=[l.getD j d]:=by
 rw[Wi hj,List.drop_left' (by rw[Vt];omega),Vb,Vj hj,Yo]
theorem Jeb {w x:Wld} (hr:RBd w.2.1) (hrx:RBd x.2.1) (hl:x.2.1.2.length=w.2.1.2.length) (ho:∀ j,j<w.2.1.2.length→mvd (w.2.1.2.getD j []) (x.2.1.2.getD j [])≤1) (h5:∀ p∈w.2.1.2,p.length≤1000) (h6:∀ p∈x.2.1.2,p.length≤1000):
  Tot (λ k=>Dj k 0 w x) (λ r=>r = .inr x):=by
 have hb:=hr.1;refine K0b (L:=λ k i (_:Unit)=>Dj k i w x) (Q:=λ r=>r = .inr x) w.2.1.2.length (λ _ _=>True) ?_ ?_ 0 () (Vq _) trivial
 ·intro _ _;simp (disch:=omega) only [Dj,dF];exact Jrb rfl
 ·intro j _ hj _ next;have hm:=ho j hj;have hp:=h5 _ (A3 (d:=[]) hj);have hq:=h6 _ (A3 (d:=[]) (show j<x.2.1.2.length by omega))
  have e1:Int.toNat ((j:Int)+1)=j+1:=by omega
  simp (disch:=omega) only [Dj,dT,Vc,w64,e1];rw[Q2a hj [],Q2a (show j<x.2.1.2.length by omega) []];refine K3b (Xsa _ _ _ hp hq) (Jtb (decide_eq_false (by omega)) (next () trivial))
theorem Jqb {w:Wld} (h:WI w):Jdb w:=λ n hn x hx=>by
 have hd:=(h.nodes n hn).1.g.1;have:=(Aq.1 (F6.1 hd).1).2.1 x hx;unfold nOk at this;rw[Va]at this;exact Xaa this.1
theorem Kra {w:Wld} (h:WI w) (hN:Dva Mz w.2.2.2.2.1):∀ n,SW w (Qi w n)
 |0=>SW.refl h
 |n+1=>by
  have h1:=Kra h hN n;exact h1.trans (Q0a (h1.wi h) (by rw[h1.ws];exact hN)).2
theorem Idb {w:Wld} (h:WI w) {i t:Int} (hi:inR i 0 ((w.1.length:Int)-1)=true) (ht:inR t 1 1000=true):Tot (λ k=>Q4 k w (9,i,(⟨#[]⟩:ByteArray),([]:List Int),t,([]:List Int))) (λ r=>r=((Uh w i t).2,true)):=by
 have hnl:=h.nlen;have hns:=h.ns.1;unfold Q4;refine Jsb (Kja (h.wo.wim (m:=200) (by decide) h.splen) (by decide)) ?_;rintro w rfl;refine Jsb (Dfa w h.win) ?_;rintro _ rfl;refine Jtb (by rw[h.rightB];rfl) (Jsb (Q:=λ r=>r=Uh w i t) ?_ ?_)
 ·unfold Im;refine Jtb rfl (Jtb rfl (Jsb (Q:=λ r=>r=Uh w i t) ?_ (λ r hr=>Jrb hr)));unfold Bd;rw[w64 (n:=(w.2.2.1.length:Int)-1) (by omega) (by omega),hnl];simp only[Sq,Vp];refine Jtb (by rw[hi];rfl) (Jtb rfl (Jtb rfl (Jtb rfl (Jtb rfl (Jtb rfl (Jtb rfl (Jub rfl (Jsb (X7a w i t h.ring hi) (λ r hr=>Jrb hr)))))))))
 ·rintro _ rfl;rw[Fla h.wo hi ht];exact Jtb rfl (Jrb rfl)
theorem FnWeights:∀ (a0:List Int),Ty.fit ti (.sl 5 (.i .u8)) a0→∃ k,Dx k a0=some true:=by
 intro a0 hfit
 have hby:An a0:=λ x hx=>by
  have:=hfit.2 x hx;have h1:(decide (IntKind.min .u8≤x)&&decide (x≤IntKind.max .u8))=true:=this;rw[Va,decide_eq_true_iff,decide_eq_true_iff]at h1;exact h1
 refine Tot.law (f:=λ k=>Dx k a0) ?_;unfold Dx Pi;refine Jsb (Jrb (Q:=λ b=>b=decide ((List.length a0:Int) > 1048576)) rfl) ?_;rintro b rfl;refine Jyb (λ _=>Jrb rfl) (λ hb=>?_);refine Jsb (Eba a0 (by omega)) ?_;intro w hd;have h:=hd.1;have hdl:=h.dlen;obtain⟨u,eu,u0,u1⟩:=Ibb hby (by omega) 2 (by decide);obtain⟨v,ev,v0,v1⟩:=Ibb hby (by omega) 3 (by decide);refine Jsb (K5b (Q:=λ r=>r=u) eu rfl) ?_;rintro u rfl;refine Jtb (decide_eq_false (by omega)) (Jsb (K5b (Q:=λ r=>r=v) ev rfl) ?_);rintro v rfl;rw[w64 (n:=1+v) (by omega) (by omega)];have t0:=Int.tmod_nonneg (w.1.length:Int) u0;have t1:=Int.tmod_lt_of_pos u (show (0:Int)<(w.1.length:Int) by omega);generalize Int.tmod u (w.1.length:Int)=i at *;have hi:inR i 0 ((w.1.length:Int)-1)=true:=Dt.2 ⟨t0,by omega⟩;have ht:inR (1+v) 1 1000=true:=Dt.2 ⟨by omega,by omega⟩;refine Jsb (Idb h hi ht) ?_;rintro _ rfl
 have hx:=hd.ev (e:=(9,i,(⟨#[]⟩:ByteArray),[],1+v,[])) (λ y hy=>nomatch hy) (λ c=>by rcases c with c|c<;>cases c)
 have hdo:doW w (9,i,(⟨#[]⟩:ByteArray),[],1+v,[])=Uh w i (1+v):=rfl;rw[hdo]at hx;rw[Fla h.wo hi ht]at hx ⊢;have hwr:Jd w.2.1 (wgt w.1 i.toNat (1+v))=true:=Ua h.ring (by omega) (by omega) (by omega);obtain⟨_,_,hlen,_⟩:=Xm hwr;have hone:=λ j (hj:j<w.2.1.2.length)=>(S1a hwr hj).moved;have x1:=hx.1
 have p5:∀ {z:Wld},WI z→∀ p∈z.2.1.2,p.length≤1000:=λ hz p hp=>by
  have:=(Bh.1 hz.ring).2.2.2 p hp;have:=(Bh.1 hz.ring).2.1;omega
 refine Jtb rfl (Jtb (by dsimp only;rw[bne,hlen,beq_self_eq_true];rfl) (Jsb (Jeb (N1 h.ring) (N1 x1.ring) hlen hone (p5 h) (p5 x1)) ?_));rintro _ rfl;dsimp only[Sum.elim];generalize ((wgt w.1 i.toNat (1+v),(B2a w.2.1 (wgt w.1 i.toNat (1+v))).1,w.2.2):Wld)=z at *;refine Jsb (Ayb _ x1.win) ?_;rintro _ rfl;refine Jub (by rw[x1.safe];rfl) ?_;refine Jsb (N8a (x1.wo.wim (by decide) x1.splen) (by decide) 3 (by decide)) ?_;rintro _ rfl;rw[x1.rightB,cond_true];have hf:Dva Mz z.2.2.2.2.1:=⟨by decide,hx.2⟩;have s2:=Kra x1 hf 2;have w2:=s2.wi x1
 have f2:Dva Mz (Qi z 2).2.2.2.2.1:=by rw[s2.ws];exact hf
 rw[show Qi z 3=Ut (Qi z 2) from rfl];generalize Qi z 2=y at *;obtain⟨r3,s3⟩:=Q0a w2 f2;refine Jsb (X9a _ r3.wi.win (Jqb r3.wi)) ?_;rintro _ rfl;exact Jrb r3.level
end Go.Proofs.YtiiekghlhfbmmaaGreat.Pure
end
