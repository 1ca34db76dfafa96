import Derived.Test.YtmhhjceoinoekaaGreatMap
import Derived.Test.YtmhhjceoinoekaaGreatMak
set_option linter.all false
namespace Go.Proofs.YtmhhjceoinoekaaGreat.Vf
open Go
open List (length getD)
open Int (toNat)
open Go.IntKind (wrap)
open BitVec (ofInt)

def Waa {c:Stp} (hc:Fj c=true) (t d:Int):Ie c t d=some (L6 c t d):=by
 have h2:0≤c.2.1∧c.2.1≤1000000:=by
  unfold Fj at hc
  rw[Va,Va,Cc,Cc]at hc
  exact hc.2.1
 unfold Ie L6
 rw[w64 (n:=c.2.1+1) (by omega) (by omega)]
 simp only[Wu,Vl]
 cases decide (t≤c.1) with
 |true=>cases Fj (c.1,c.2.1+1,d)<;>rfl
 |false=>cases Fj (t,0,d)<;>rfl
def A2a {f:Fil} (h:f.2.2.length≤1000000000):Gg f=some f:=by
 unfold Gg
 rw[Nq _ (by omega)]
 rfl
def Wba {n:Nod} {s:ByteArray} {f:Fil} {sure:Bool} (hn:NG n) (hs:Az s=true) (hf:Ee f=true):Amb n s f sure=U7 n s f sure:=by
 unfold Amb
 rw[hn.1,hs,hf]
 rfl
def Qya {n:Nod} (r:Int) (s:ByteArray) (f:Fil) (g:Int) (hn:NG n) (hs:Az s=true) (hf:Ee f=true) (h0:0≤g) (h1:g≤9000000000000):
  Tot (λ k=>E6 k n r s f g) (λ x=>x=((U7 n s f (r != 3)).1,s,f,bif r==1&&((U7 n s f (r != 3)).2==0||(U7 n s f (r != 3)).2==1) then g+1 else g)):=by
 unfold E6
 refine Hib (Lya n s f (r != 3) (Se hn) (J8 hs)) ?_
 rw[Wba hn hs hf,w64 (n:=g+1) (by omega) (by omega)]
 generalize U7 n s f (r != 3)=p
 cases r==1
 ·exact H9b rfl (H7b rfl)
 refine Hab rfl ?_
 cases p.2==0
 case true=>exact Hab rfl (H7b rfl)
 refine H9b rfl ?_
 cases p.2==1 with
 |true=>exact Hab rfl (H7b rfl)
 |false=>exact H9b rfl (H7b rfl)
def Zja (w:Wld) (s:ByteArray) (f:Fil) (rc:List Int) (hr:Hk w.2.1 w.1=true) (hn:NS w.2.2.1) (hs:Az s=true) (hf:Ee f=true):
  Tot (λ k=>Ac k w s rc true s f 0) (λ r=>r=(wN w (wrN w s f rc).1,s,f,(wrN w s f rc).2.2)):=by
 have hsz:s.size≤1000000000:=by
  have:=Cc.1 (Va _ _ ▸ hs:_∧_).2
  omega
 obtain⟨_,hR,_⟩:=B5.1 hr
 unfold Ac
 refine Hib (Jia w s hr hn.1 hsz) ?_
 have hc:=λ x=>S4 (w:=w) (s:=s) (x:=x)
 have hcl:(Ek w s).length≤4000000000000:=by
  unfold Ek
  refine Qg hn.1 ?_
  have h5:=(B5.1 hr).2.1
  have p2:=(Uv hr s).2.1
  have h12:=(Dc.1 (B5.1 hr).1).2.2.2
  have hh:=Qh w.2.1 w.1 s
  rw[Vd];omega
 have hrun:wrN w s f rc=run (wst w.2.1.1 rc s f (Ek w s)) (Ek w s).length (w.2.2.1,0,0):=rfl
 have inv:∀ n,n≤(Ek w s).length→NS (run (wst w.2.1.1 rc s f (Ek w s)) n (w.2.2.1,0,0)).1∧(run (wst w.2.1.1 rc s f (Ek w s)) n (w.2.2.1,0,0)).1.length=w.2.2.1.length∧(0≤(run (wst w.2.1.1 rc s f (Ek w s)) n (w.2.2.1,0,0)).2.1∧(run (wst w.2.1.1 rc s f (Ek w s)) n (w.2.2.1,0,0)).2.1≤n)∧0≤(run (wst w.2.1.1 rc s f (Ek w s)) n (w.2.2.1,0,0)).2.2∧(run (wst w.2.1.1 rc s f (Ek w s)) n (w.2.2.1,0,0)).2.2≤n:=by
  intro n hn'
  refine Nv (λ j (b:List Nod×Int×Int)=>NS b.1∧b.1.length=w.2.2.1.length∧(0≤b.2.1∧b.2.1≤(j:Int))∧0≤b.2.2∧b.2.2≤(j:Int)) ⟨hn,rfl,⟨Zs _,Zs _⟩,Zs _,Zs _⟩ (λ j b hj hb=>Avb hs hf hb ?_)
  have:=hc _ (A4 (d:=0) (show j<(Ek w s).length by omega))
  omega
 generalize hcs:Ek w s=cs at *
 refine H8b (Q:=λ r=>r=(wN w (wrN w s f rc).1,s,f,(wrN w s f rc).2.2)) ?_ (by rintro r rfl;exact H7b rfl)
 refine Hgb (L:=λ k i (a:List Nod×Int×Int)=>Ae k rc a.2.1 cs (cs.length:Int) i (wN w a.1) s f a.2.2) (Q:=λ r=>r=(wN w (wrN w s f rc).1,s,f,(wrN w s f rc).2.2)) cs.length (λ j a=>a=run (wst w.2.1.1 rc s f cs) j (w.2.2.1,0,0)) ?_ ?_ 0 (w.2.2.1,0,0) (Vq _) rfl
 ·rintro a rfl
  simp (disch:=omega) only [Ae,dF]
  exact H7b (by rw[hrun])
 ·rintro j a hj rfl next
  obtain⟨i1,i2,i3,i4,i5⟩:=inv j (by omega)
  rw[Pm]at next
  generalize run (wst w.2.1.1 rc s f cs) j (w.2.2.1,0,0)=a at *
  obtain⟨ns,o,g⟩:=a
  dsimp only at i1 i2 i3 i4 i5
  have hci:=hc _ (A4 (d:=0) hj)
  obtain⟨i,ei⟩:∃ i:Nat,cs.getD j 0=(i:Int):=⟨(cs.getD j 0).toNat,by omega⟩
  rw[ei]at hci
  unfold wst at next
  rw[ei,Vb]at next
  dsimp only at next
  have e0:ns.getD i ((0:Int),(([],[]),([],[])))=ns.getD i C3:=rfl
  simp (disch:=omega) only [Ae,dT,wN,Vb,w64,ei,e0,M2a,Vl]
  cases h0:rch rc j==0 with
  |true=>
   refine H9b (by rw[bne,h0];rfl) ?_
   rw[h0]at next
   refine next (ns,o,g) ?_
   cases decide (o<w.2.1.1)<;>rfl
  |false=>
   refine Hab (by rw[bne,h0];rfl) ?_
   rw[h0]at next
   refine Heb (λ hR'=>?_) (λ hR'=>?_)
   ·rw[decide_eq_true hR']at next
    refine Hib (Qya (rch rc j) s f g (i1.get (by omega)) hs hf i4 (by omega)) ?_
    exact next _ rfl
   ·rw[decide_eq_false hR']at next
    exact next _ rfl
def Wca (w:Wld) (s:ByteArray) (f:Fil) (t:Int) (rc:List Int) (hr:Hk w.2.1 w.1=true) (hn:NS w.2.2.1) (hst:Fj w.2.2.2.1=true) (hs:Lo s) (hd:f.2.1=true→f.2.2=[]) (hw:w.2.2.2.2.1.length≤200):
  Tot (λ k=>Cv k w s f t rc) (λ r=>r=ask w s f t rc):=by
 unfold Cv ask
 refine Hib (Pi s hs) ?_
 cases hs':Az s
 ·exact Hab rfl (H7b rfl)
 refine H9b rfl ?_
 rw[Yv,cond_false]
 by_cases hl:(f.2.2.length:Int) > 200
 ·rw[decide_eq_true hl];exact Hab rfl (H7b rfl)
 ·rw[decide_eq_false hl,cond_false]
  refine H9b rfl ?_
  simp only[S9,Waa hst,Vl]
  cases inR t 0 1000000000
  ·exact Hab rfl (H7b rfl)
  refine H9b rfl ?_
  rw[Yv,cond_false]
  by_cases h200:w.2.2.2.2.1.length=200
  ·rw[show ((w.2.2.2.2.1.length:Int)==200)=true by rw[beq_iff_eq];omega]
   exact Hbb (by omega) (H7b rfl)
  ·rw[show ((w.2.2.2.2.1.length:Int)==200)=false by rw[beq_eq_false_iff_ne];omega,cond_false]
   refine Hcb (by omega) ?_
   cases (L6 w.2.2.2.1 t 0).1==w.2.2.2.1.1&&((L6 w.2.2.2.1 t 0).2.1==w.2.2.2.1.2.1&&(L6 w.2.2.2.1 t 0).2.2==w.2.2.2.1.2.2)
   case true=>exact Hab rfl (H7b rfl)
   rw[cond_false]
   have hfo:Ee (L6 w.2.2.2.1 t 0,f.2)=true:=Ke.2 ⟨(X7 hst t 0).1,by show f.2.2.length≤200;omega,hd⟩
   refine H9b rfl (Hib (Zja (w.1,w.2.1,w.2.2.1,L6 w.2.2.2.1 t 0,w.2.2.2.2) s (L6 w.2.2.2.1 t 0,f.2) rc hr hn hs' hfo) ?_)
   have h5:=(B5.1 hr).2.1
   dsimp only[wN]
   rw[D1b (by omega) (by omega),A2a (f:=(L6 w.2.2.2.1 t 0,f.2)) (show f.2.2.length≤_ by omega)]
   simp only[Vl]
   refine Hfb (by simp only[Vc,Vg];omega) ?_
   unfold X8
   cases decide ((wrN (w.1,w.2.1,w.2.2.1,L6 w.2.2.2.1 t 0,w.2.2.2.2) s (L6 w.2.2.2.1 t 0,f.2) rc).2.2≥quo w.2.1.1) with
   |true=>exact H7b rfl
   |false=>exact H7b rfl

def Zka (w:Wld) (i:Nat) (s:ByteArray) (rc:List Int) (hr:Hk w.2.1 w.1=true) (hn:NS w.2.2.1) (hi:i<w.2.2.1.length):Tot (λ k=>Am k w (i:Int) s rc) (λ r=>r=Cta w i s rc):=by
 have hni:=hn.get hi
 unfold Am Cta
 have e0:w.2.2.1.getD i ((0:Int),(([],[]),([],[])))=w.2.2.1.getD i C3:=rfl
 simp (disch:=omega) only [dT,Vb,e0]
 have hin:=(Se hni).1
 refine Hib (Oca hin.1.1.1.1 hin.2.1 s) ?_
 cases hl:(lkD (w.2.2.1.getD i C3).2.1 s).2 != 0
 case true=>exact Hab rfl (H7b rfl)
 refine H9b rfl ?_
 rw[cond_false]
 have hlk:∃ b,gt (w.2.2.1.getD i C3).2.1.1 s=some b:=by
  rw[bne,Wi,beq_iff_eq]at hl
  obtain⟨b,hb,_⟩:=R9.1 (show lkD (w.2.2.1.getD i C3).2.1 s=((lkD (w.2.2.1.getD i C3).2.1 s).1,0) from by rw[← hl])
  exact⟨b,hb⟩
 have hs:Az s=true:=Qda hni.g.1 (by obtain⟨b,hb⟩:=hlk;rw[hb];rfl)
 have hsz:s.size≤1000000000:=by
  have:=Cc.1 (Va _ _ ▸ hs:_∧_).2
  omega
 refine Hib (B0a _ s (Mt hr) hsz) ?_
 refine Hib (Uw w _ hn.1 (Tx (Mt hr) s)) ?_
 have hpl:=Jla (s:=s) hr hn.1
 have hc:=λ x=>Tz (w:=w) (s:=s) (x:=x)
 have hrun:puN w i s rc=run (pst (i:Int) s (lkD (w.2.2.1.getD i C3).2.1 s).1 rc (Pn w s)) (Pn w s).length (w.2.2.1,false,true):=rfl
 obtain⟨p1,p2⟩:=Axb (w:=w) (i:=i) (s:=s) (rc:=rc) hn
 have inv:∀ n,n≤(Pn w s).length→NS (run (pst (i:Int) s (lkD (w.2.2.1.getD i C3).2.1 s).1 rc (Pn w s)) n (w.2.2.1,false,true)).1∧(run (pst (i:Int) s (lkD (w.2.2.1.getD i C3).2.1 s).1 rc (Pn w s)) n (w.2.2.1,false,true)).1.length=w.2.2.1.length:=λ n hn'=>
  Nv (λ _ (b:List Nod×Bool×Bool)=>NS b.1∧b.1.length=w.2.2.1.length) ⟨hn,rfl⟩ (λ j b hj hb=>Vxa hb (by have:=hc _ (A4 (d:=0) (show j<(Pn w s).length by omega));omega))
 rw[show whr w.2.2.1 (X6 w.2.1 s)=Pn w s from rfl]
 generalize (lkD (w.2.2.1.getD i C3).2.1 s).1=f at *
 generalize Pn w s=ps at *
 refine H8b (Q:=λ r=>r=((i:Int),s,(puN w i s rc).2.2,(puN w i s rc).2.1,wN w (puN w i s rc).1)) ?_ ?_
 ·refine Hgb (L:=λ k j (a:List Nod×Bool×Bool)=>Af k (i:Int) s rc a.2.2 a.2.1 ps (ps.length:Int) j (wN w a.1) f) (Q:=λ r=>r=((i:Int),s,(puN w i s rc).2.2,(puN w i s rc).2.1,wN w (puN w i s rc).1)) ps.length (λ j a=>a=run (pst (i:Int) s f rc ps) j (w.2.2.1,false,true)) ?_ ?_ 0 (w.2.2.1,false,true) (Vq _) rfl
  ·rintro a rfl
   simp (disch:=omega) only [Af,dF]
   exact H7b (by rw[hrun])
  ·rintro j a hj rfl next
   obtain⟨i1,i2⟩:=inv j (by omega)
   rw[Pm]at next
   generalize run (pst (i:Int) s f rc ps) j (w.2.2.1,false,true)=a at *
   obtain⟨ns,o,g⟩:=a
   dsimp only at i1 i2
   have hci:=hc _ (A4 (d:=0) hj)
   obtain⟨m,em⟩:∃ m:Nat,ps.getD j 0=(m:Int):=⟨(ps.getD j 0).toNat,by omega⟩
   rw[em]at hci
   unfold pst at next
   rw[em,Vb]at next
   have e0:ns.getD m ((0:Int),(([],[]),([],[])))=ns.getD m C3:=rfl
   simp (disch:=omega) only [Af,dT,Vb,w64,em,wN,e0]
   cases hz:(m:Int)==(i:Int) with
   |true=>
    rw[hz]at next
    exact Hab rfl (next _ rfl)
   |false=>
    rw[hz]at next
    refine H9b rfl ?_
    simp only[M2a,Vl]
    cases h1:rch rc j != 1 with
    |true=>
     rw[h1]at next
     exact Hab rfl (next _ rfl)
    |false=>
     rw[h1]at next
     refine H9b rfl ?_
     have hm:=Se (i1.get (i:=m) (by omega))
     refine Hib (Oda (ns.getD m C3).2.1 s f true hm.1.1 hm.1.2.1 (J8 hs)) ?_
     dsimp only at next ⊢
     generalize keep (ns.getD m C3).2.1 s f true=q at *
     cases g with
     |false=>
      refine H9b rfl (next (ns.set m ((ns.getD m C3).1,q.1,(ns.getD m C3).2.2),o,false) ?_)
      cases q.2 != 0&&q.2 != 1<;>rfl
     |true=>
      refine Hab rfl ?_
      cases h2:q.2==0
      case true=>rw[bne,h2]at next;exact Hab rfl (next _ rfl)
      rw[bne,h2]at next
      refine H9b rfl ?_
      cases h3:q.2==1 with
      |true=>rw[bne,h3]at next;exact next _ rfl
      |false=>rw[bne,h3]at next;exact next _ rfl
 ·rintro r rfl
  dsimp only[wN]
  generalize puN w i s rc=a at *
  obtain⟨ns,o,g⟩:=a
  dsimp only at p1 p2 ⊢
  cases o with
  |true=>
   refine H9b rfl (H7b ?_)
   rw[Yv,Yj]
   rfl
  |false=>
   refine Hab rfl ?_
   cases g
   ·exact H9b rfl (H7b rfl)
   refine Hab rfl ?_
   have e0:ns.getD i ((0:Int),(([],[]),([],[])))=ns.getD i C3:=rfl
   simp (disch:=omega) only [dT,Vb,e0]
   have hg:=(p1.get (i:=i) (by omega)).g
   refine Hib (Lpa hg.1) ?_
   refine Hib (Isa (Uqa hg).1 hs) ?_
   exact H7b rfl
def Zla {n:Nod} {l:List Row} (hn:NG n) (hl:Lk l=true):Iza n l=((tk n l).2,(tk n l).1):=by
 unfold Iza tk
 rw[hn.1,hl]
 cases decide ((Uz n.2.2.1 l).length > 60)<;>rfl
def Jsa (w:Wld) (src:Int) (l:List Row) (rc:List Int) (hr:RBd w.2.1) (hn:NS w.2.2.1) (hl:Lk l=true):
  Tot (λ k=>Aw k w l rc src) (λ r=>r=((Nj w src l false rc).2,wN w (Nj w src l false rc).1)):=by
 have hll:=Cha hl
 unfold Aw
 refine Hib (Cra w hr hn.1) ?_
 have hpl:=S5 hr hn.1
 have hc:=λ x=>Pp (w:=w) (x:=x)
 have hrun:Nj w src l false rc=run (gst src l false rc (Iq w)) (Iq w).length (w.2.2.1,true):=rfl
 have inv:∀ n,n≤(Iq w).length→NS (run (gst src l false rc (Iq w)) n (w.2.2.1,true)).1∧(run (gst src l false rc (Iq w)) n (w.2.2.1,true)).1.length=w.2.2.1.length:=λ n hn'=>
  Nv (λ _ (b:List Nod×Bool)=>NS b.1∧b.1.length=w.2.2.1.length) ⟨hn,rfl⟩ (λ j b hj hb=>Vya hl hb (by have:=hc _ (A4 (d:=0) (show j<(Iq w).length by omega));omega))
 generalize Iq w=ls at *
 refine H8b (Q:=λ r=>r=((Nj w src l false rc).2,wN w (Nj w src l false rc).1)) ?_ (by rintro r rfl;exact H7b rfl)
 refine Hgb (L:=λ k j (a:List Nod×Bool)=>B6 k l rc src a.2 ls (ls.length:Int) j (wN w a.1)) (Q:=λ r=>r=((Nj w src l false rc).2,wN w (Nj w src l false rc).1)) ls.length (λ j a=>a=run (gst src l false rc ls) j (w.2.2.1,true)) ?_ ?_ 0 (w.2.2.1,true) (Vq _) rfl
 ·rintro a rfl
  simp (disch:=omega) only [B6,dF]
  exact H7b (by rw[hrun])
 ·rintro j a hj rfl next
  obtain⟨i1,i2⟩:=inv j (by omega)
  rw[Pm]at next
  generalize run (gst src l false rc ls) j (w.2.2.1,true)=a at *
  obtain⟨ns,g⟩:=a
  dsimp only at i1 i2
  have hci:=hc _ (A4 (d:=0) hj)
  obtain⟨m,em⟩:∃ m:Nat,ls.getD j 0=(m:Int):=⟨(ls.getD j 0).toNat,by omega⟩
  rw[em]at hci
  unfold gst at next
  rw[em,Vb,Ieb,Ibb]at next
  have e0:ns.getD m ((0:Int),(([],[]),([],[])))=ns.getD m C3:=rfl
  have hm:=i1.get (i:=m) (by omega)
  simp (disch:=omega) only [B6,dT,Vb,w64,em,e0,wN]
  cases hz:(m:Int)==src with
  |true=>
   rw[hz]at next
   exact Hab rfl (next _ rfl)
  |false=>
   rw[hz]at next
   refine H9b rfl ?_
   simp only[M2a,Vl]
   cases h1:rch rc j != 1 with
   |true=>
    rw[h1]at next
    exact Hab rfl (next _ rfl)
   |false=>
    rw[h1]at next
    refine H9b rfl (Hib (Yja (ns.getD m C3) l (Se hm) hll) ?_)
    rw[Zla hm hl]
    dsimp only at next ⊢
    generalize tk (ns.getD m C3) l=q at *
    cases g with
    |false=>
     refine H9b rfl (next (ns.set m q.2,false) ?_)
     cases q.1<;>rfl
    |true=>
     refine Hab rfl (next (ns.set m q.2,q.1) ?_)
     cases q.1<;>rfl

def B1b:∀ {l m:List ByteArray},TS l→TS m→(∀ y,y∈l↔y∈m)→l=m
 |[],[],_,_,_=>rfl
 |[],y::m,_,_,h=>absurd ((h y).2 Yk) (by simp)
 |x::l,[],_,_,h=>absurd ((h x).1 Yk) (by simp)
 |x::l,y::m,hl,hm,h=>by
  obtain⟨l1,l2⟩:=Wh.1 hl
  obtain⟨m1,m2⟩:=Wh.1 hm
  have e:x=y:=by
   rcases Vm.1 ((h x).1 Yk) with e|hx
   ·exact e
   ·rcases Vm.1 ((h y).2 Yk) with e|hy
    ·exact e.symm
    ·have:=Wr (m1 x hx)
     rw[l1 y hy]at this
     cases this
  subst e
  refine congrArg _ (B1b l2 m2 λ z=>⟨λ hz=>?_,λ hz=>?_⟩)
  ·rcases Vm.1 ((h z).1 (Vj _ hz)) with e|hz'
   ·subst e;have:=l1 z hz;rw[Lm]at this;cases this
   ·exact hz'
  ·rcases Vm.1 ((h z).2 (Vj _ hz)) with e|hz'
   ·subst e;have:=m1 z hz;rw[Lm]at this;cases this
   ·exact hz'
def Fsb {l:List ByteArray} (h:TS l) (s:ByteArray):wt l s=spl l s:=B1b (R6 h) (Z0 h) λ y=>by rw[Iqa,Cwa]
def Td {l:List Row} (h:l.length≤2000000000):Aq l=some l:=by
 unfold Aq
 rw[bT (by simp only[Vg];omega),Vx]
def Qza (w:Wld) (src:Int) (l:List Row) (rc:List Int):Nj w (-1) l false rc=Nj w src l true rc:=by
 unfold Nj
 refine Nv (λ n (a:List Nod×Bool)=>a=run (gst src l true rc (Iq w)) n (w.2.2.1,true)) rfl (λ j b hj hb=>?_)
 rw[Pm,← hb]
 have:=(Pp (A4 (d:=0) hj)).1
 unfold gst
 rw[show ((Iq w).getD j 0 == -1)=false by rw[beq_eq_false_iff_ne];omega,Yv,Yj,Zl]
def M8a (w:Wld) (src:Int) (l:List Row) (self:Bool) (rc:List Int) (m:Nat):((Nj w src l self rc).1.getD m C3).2.2.2=(w.2.2.1.getD m C3).2.2.2:=by
 unfold Nj
 refine Nv (λ n (a:List Nod×Bool)=>(a.1.getD m C3).2.2.2=(w.2.2.1.getD m C3).2.2.2) rfl (λ j b hj hb=>?_)
 unfold gst
 cases (Iq w).getD j 0==src&&!self
 case true=>exact hb
 cases rch rc j != 1
 case true=>exact hb
 rw[cond_false,cond_false]
 generalize ((Iq w).getD j 0).toNat=i
 show ((b.1.set i (tk (b.1.getD i C3) l).2).getD m C3).2.2.2=_
 by_cases hm:m<b.1.length
 ·rw[Ot hm]
  by_cases hi:i=m
  ·subst hi
   rw[if_pos rfl,← hb]
   unfold tk
   cases decide ((Uz (b.1.getD i C3).2.2.1 l).length > 60)<;>rfl
  ·rw[if_neg hi];exact hb
 ·rw[Ve,Zf (by rw[Vy];omega)]
  rw[Ve,Zf (by omega)]at hb
  exact hb
def Wda (w:Wld) (i:Nat) (rc:List Int) (hr:RBd w.2.1) (hn:NS w.2.2.1) (hi:i<w.2.2.1.length):Tot (λ k=>Ca k w (i:Int) rc) (λ r=>r=Cua w i rc):=by
 have hni:=hn.get hi
 have e0:w.2.2.1.getD i ((0:Int),(([],[]),([],[])))=w.2.2.1.getD i C3:=rfl
 have hl:=(Cj.1 hni.1).2.2.2.1
 have hll:=(Cha hl).1
 unfold Ca Cua
 simp (disch:=omega) only [dT,Vb,e0,Td (show (w.2.2.1.getD i C3).2.2.1.length≤2000000000 by omega),Vl]
 cases hz:((w.2.2.1.getD i C3).2.2.1.length:Int)==0
 case true=>exact Hab rfl (H7b rfl)
 refine H9b rfl (Hib (Jsa w (i:Int) _ rc hr hn hl) ?_)
 obtain⟨p1,p2⟩:=B2a (w:=w) (src:=(i:Int)) (self:=false) (rc:=rc) hl hn
 rw[show Nj w (i:Int) (w.2.2.1.getD i C3).2.2.1 false rc=Sf w i rc from rfl]at p1 p2 ⊢
 generalize Sf w i rc=a at *
 obtain⟨ns,g⟩:=a
 dsimp only at p1 p2 ⊢
 cases g
 ·exact H9b rfl (H7b rfl)
 refine Hab rfl (Hib (Cra (wN w ns) hr p1.1) ?_)
 refine Hib (Us _ _ (by have:=S5 (w:=wN w ns) hr p1.1;omega)) ?_
 cases Oq (Iq (wN w ns)) (i:Int)
 case true=>exact H9b rfl (H7b rfl)
 have e1:ns.getD i ((0:Int),(([],[]),([],[])))=ns.getD i C3:=rfl
 refine Hab rfl ?_
 simp (disch:=omega) only [dT,Vb,e1]
 exact H7b rfl
def Wea (w:Wld) (i:Nat) (rc:List Int) (hr:RBd w.2.1) (hn:NS w.2.2.1) (hi:i<w.2.2.1.length):Tot (λ k=>Ci k w (i:Int) rc) (λ r=>r=Cva w i rc):=by
 have hni:=hn.get hi
 have e0:w.2.2.1.getD i ((0:Int),(([],[]),([],[])))=w.2.2.1.getD i C3:=rfl
 obtain⟨hq,_,_,_,hq60⟩:=Cj.1 hni.1
 have hl:=S6 hq
 unfold Ci Cva
 simp (disch:=omega) only [dT,Vb,e0]
 cases hz:((w.2.2.1.getD i C3).2.2.2.length:Int)==0
 case true=>exact Hab rfl (H7b rfl)
 have h1:=beq_eq_false_iff_ne.1 hz
 refine H9b rfl (Hbb (by omega) ?_)
 rw[show List.take (toNat 1) (w.2.2.1.getD i C3).2.2.2=List.take 1 (w.2.2.1.getD i C3).2.2.2 from rfl,Td (by rw[Vs];omega)]
 simp only[Vl]
 refine Hib (Jsa w (-1) _ rc hr hn hl) ?_
 rw[Qza w (i:Int)]
 obtain⟨p1,p2⟩:=B2a (w:=w) (src:=(i:Int)) (self:=true) (rc:=rc) hl hn
 have hqu:=M8a w (i:Int) ((w.2.2.1.getD i C3).2.2.2.take 1) true rc i
 rw[show Nj w (i:Int) ((w.2.2.1.getD i C3).2.2.2.take 1) true rc=Tc w i rc from rfl]at p1 p2 hqu ⊢
 generalize Tc w i rc=a at *
 obtain⟨ns,g⟩:=a
 dsimp only at p1 p2 hqu ⊢
 cases g
 ·exact H9b rfl (H7b rfl)
 have e1:ns.getD i ((0:Int),(([],[]),([],[])))=ns.getD i C3:=rfl
 refine Hab rfl ?_
 simp (disch:=omega) only [dT,Vb,e1,hqu]
 rw[show List.drop (toNat 1) (w.2.2.1.getD i C3).2.2.2=List.drop 1 (w.2.2.1.getD i C3).2.2.2 from rfl,Td (by rw[Wd];omega)]
 exact H7b rfl

def NO (ns ms:List Nod):Prop:=NS ms∧ms.map (·.1)=ns.map (·.1)
def NO.len {ns ms:List Nod} (h:NO ns ms):ms.length=ns.length:=by
 have:=congrArg length h.2
 rwa [We,We]at this
def NO.set {ns ms:List Nod} (h:NO ns ms) {i:Nat} {n:Nod} (hi:i<ms.length) (hn:NG n) (e:n.1=(ms.getD i C3).1):NO ns (ms.set i n):=⟨h.1.set hn,(M5a hi e).trans h.2⟩
def Deb (n:Nod) (s:ByteArray) (f:Fil) (sure:Bool):(U7 n s f sure).1.1=n.1:=by
 unfold U7
 cases (n.2.2.2.length:Int)==60 with
 |true=>rfl
 |false=>rfl
def Gsb (n:Nod) (l:List Row):(tk n l).2.1=n.1:=by
 unfold tk
 cases decide ((Uz n.2.2.1 l).length > 60)<;>rfl
def Dfb (n:Nod) (s:ByteArray) (b:Int):(D6a n s b).1.1=n.1:=by
 unfold D6a
 cases Mr n&&((lkD n.2.1 s).2==0&&(D5a n.2.1 s b).2)<;>rfl
def B2b {w:Wld} {s:ByteArray} {f:Fil} {rc:List Int} (hn:NS w.2.2.1) (hs:Az s=true) (hf:Ee f=true):NO w.2.2.1 (wrN w s f rc).1:=by
 unfold wrN
 refine Nv (λ _ (a:List Nod×Int×Int)=>NO w.2.2.1 a.1) ⟨hn,rfl⟩ (λ j a hj h=>?_)
 have hc:=S4 (A4 (d:=0) hj)
 have hl:=h.len
 unfold wst
 cases decide (a.2.1<w.2.1.1)
 ·exact h
 rw[cond_true]
 cases rch rc j==0 with
 |true=>exact h
 |false=>exact h.set (by omega) (Oha (h.1.get (by omega)) hs hf) (Deb _ _ _ _)
def Ftb {w:Wld} {i:Nat} {s:ByteArray} {rc:List Int} (hn:NS w.2.2.1):NO w.2.2.1 (puN w i s rc).1:=by
 unfold puN
 refine Nv (λ _ (a:List Nod×Bool×Bool)=>NO w.2.2.1 a.1) ⟨hn,rfl⟩ (λ j a hj h=>?_)
 have hc:=Tz (A4 (d:=0) hj)
 have hl:=h.len
 unfold pst
 cases (Pn w s).getD j 0==(i:Int)
 case true=>exact h
 rw[cond_false]
 cases rch rc j != 1 with
 |true=>exact h
 |false=>exact h.set (by omega) (M4a (h.1.get (by omega))) rfl
def P2a {w:Wld} {i:Nat} {s:ByteArray} {rc:List Int} (hn:NS w.2.2.1) (hi:i<w.2.2.1.length):∃ ns,(Cta w i s rc).2=wN w ns∧NO w.2.2.1 ns:=by
 unfold Cta
 cases hl:(lkD (w.2.2.1.getD i C3).2.1 s).2 != 0
 case true=>exact⟨w.2.2.1,rfl,hn,rfl⟩
 have h:=Ftb (i:=i) (s:=s) (rc:=rc) hn
 have hlen:=h.len
 have hs:Az s=true:=by
  rw[bne,Wi,beq_iff_eq]at hl
  obtain⟨b,hb,_⟩:=R9.1 (show lkD (w.2.2.1.getD i C3).2.1 s=((lkD (w.2.2.1.getD i C3).2.1 s).1,0) from by rw[← hl])
  exact Qda (hn.get hi).g.1 (by rw[hb];rfl)
 refine⟨_,rfl,?_⟩
 cases (puN w i s rc).2.2&&!(puN w i s rc).2.1 with
 |false=>exact h
 |true=>exact h.set (by omega) (Awb (h.1.get (by omega)) hs) rfl
def P3a {w:Wld} {src:Int} {l:List Row} {self:Bool} {rc:List Int} (hl:Lk l=true) (hn:NS w.2.2.1):NO w.2.2.1 (Nj w src l self rc).1:=by
 unfold Nj
 refine Nv (λ _ (a:List Nod×Bool)=>NO w.2.2.1 a.1) ⟨hn,rfl⟩ (λ j a hj h=>?_)
 have hc:=Pp (A4 (d:=0) hj)
 have hlen:=h.len
 unfold gst
 cases (Iq w).getD j 0==src&&!self
 case true=>exact h
 rw[cond_false]
 cases rch rc j != 1 with
 |true=>exact h
 |false=>exact h.set (by omega) (Gnb (h.1.get (by omega)) hl) (Gsb _ _)
def P4a {w:Wld} {i:Nat} {rc:List Int} (hn:NS w.2.2.1) (hi:i<w.2.2.1.length):∃ ns,(Cua w i rc).2=wN w ns∧NO w.2.2.1 ns:=by
 have h:=P3a (w:=w) (src:=(i:Int)) (self:=false) (rc:=rc) (Cj.1 (hn.get hi).1).2.2.2.1 hn
 have hlen:=h.len
 unfold Cua
 cases ((w.2.2.1.getD i C3).2.2.1.length:Int)==0
 case true=>exact⟨w.2.2.1,rfl,hn,rfl⟩
 refine⟨_,rfl,?_⟩
 show NO w.2.2.1 (bif (Sf w i rc).2&&_ then (Sf w i rc).1.set i (Vza ((Sf w i rc).1.getD i C3)) else (Sf w i rc).1)
 unfold Sf
 cases (Nj w (i:Int) (w.2.2.1.getD i C3).2.2.1 false rc).2&&_ with
 |false=>exact h
 |true=>exact h.set (by omega) (Oza (h.1.get (by omega))) rfl
def P5a {w:Wld} {i:Nat} {rc:List Int} (hn:NS w.2.2.1) (hi:i<w.2.2.1.length):∃ ns,(Cva w i rc).2=wN w ns∧NO w.2.2.1 ns:=by
 have hq:=Cj.1 (hn.get hi).1
 have h:=P3a (w:=w) (src:=(i:Int)) (self:=true) (rc:=rc) (S6 hq.1) hn
 have hlen:=h.len
 unfold Cva
 cases ((w.2.2.1.getD i C3).2.2.2.length:Int)==0
 case true=>exact⟨w.2.2.1,rfl,hn,rfl⟩
 refine⟨_,rfl,?_⟩
 show NO w.2.2.1 (bif (Tc w i rc).2 then (Tc w i rc).1.set i (Gob ((Tc w i rc).1.getD i C3) ((w.2.2.1.getD i C3).2.2.2.drop 1)) else (Tc w i rc).1)
 unfold Tc
 cases (Nj w (i:Int) ((w.2.2.1.getD i C3).2.2.2.take 1) true rc).2 with
 |false=>exact h
 |true=>exact h.set (by omega) (Ayb (h.1.get (by omega)) (λ r hr=>hq.1 r (Zn hr)) (by rw[Wd];omega)) rfl
structure WO (w:Wld):Prop where
 ring:Hk w.2.1 w.1=true
 ids:w.2.2.1.map (·.1)=w.1.map (·.1)
 ns:NS w.2.2.1
 clk:Fj w.2.2.2.1=true
 wlen:w.2.2.2.2.1.length≤200
 wok:Jma w.2.2.2.2.1
 wge:∀ x∈w.2.2.2.2.1,sle w.2.2.2.1 x.2.1.1=false
 sps:TS w.2.2.2.2.2
 spn:∀ s∈w.2.2.2.2.2,Az s=true
def WI.wo {w:Wld} (h:WI w):WO w:=⟨h.ring,h.ids,h.ns,h.clk,h.wlen,h.wok,h.wge,h.sps,λ s hs=>by
 obtain⟨x,hx,e⟩:=h.spw s hs
 rw[← e]
 exact(h.wok x hx).1⟩
namespace WO
variable {w:Wld}
def nlen (h:WO w):w.2.2.1.length=w.1.length:=by
 have:=congrArg length h.ids
 rwa [We,We]at this
def dlen (h:WO w):1≤w.1.length∧w.1.length≤12:=(Dc.1 (B5.1 h.ring).1).2.2
def other (h:WO w) {ns:List Nod} (hn:NO w.2.2.1 ns):WO (wN w ns):=⟨h.ring,hn.2.trans h.ids,hn.1,h.clk,h.wlen,h.wok,h.wge,h.sps,h.spn⟩
def other' (h:WO w) {r:Bool×Wld} (hr:∃ ns,r.2=wN w ns∧NO w.2.2.1 ns):WO r.2:=by
 obtain⟨ns,e,hn⟩:=hr
 rw[e]
 exact h.other hn
def write (h:WO w) {s:ByteArray} {f:Fil} {rc:List Int} (hs:Az s=true) (hf:Ee f=true) (hb:As f.2.2) (hc:sle w.2.2.2.1 f.1=true) (hl:w.2.2.2.2.1.length<200):WO (X8 (w.1,w.2.1,w.2.2.1,f.1,w.2.2.2.2) s f rc).2:=by
 have g:=B2b (w:=(w.1,w.2.1,w.2.2.1,f.1,w.2.2.2.2)) (rc:=rc) h.ns hs hf
 unfold X8
 generalize wrN (w.1,w.2.1,w.2.2.1,f.1,w.2.2.2.2) s f rc=a at *
 exact {
  ring:=h.ring
  ids:=g.2.trans h.ids
  ns:=g.1
  clk:=(Ke.1 hf).1
  wlen:=by show (w.2.2.2.2.1++[_]).length≤200;rw[Vd];simp only[Vc,Vg];omega
  wok:=λ x hx=>by
   rcases Vp.1 hx with hx|hx
   ·exact h.wok x hx
   ·rw[Vu.1 hx];exact⟨hs,hf,hb⟩
  wge:=λ x hx=>by
   rcases Vp.1 hx with hx|hx
   ·exact Era (X9 hc) (h.wge x hx)
   ·rw[Vu.1 hx];exact N6 _
  sps:=h.sps
  spn:=h.spn }
def ask (h:WO w) {s:ByteArray} {f:Fil} {t:Int} {rc:List Int} (hb:As f.2.2) (hd:f.2.1=true→f.2.2=[]):WO (ask w s f t rc).2:=by
 unfold Vf.ask
 cases hs:Az s
 ·exact h
 rw[Yv,cond_false]
 by_cases hl:(f.2.2.length:Int) > 200
 ·rw[decide_eq_true hl];exact h
 ·rw[decide_eq_false hl,cond_false]
  cases inR t 0 1000000000
  ·exact h
  rw[Yv,cond_false]
  cases hw:(w.2.2.2.2.1.length:Int)==200
  case true=>exact h
  rw[cond_false]
  have hw':=beq_eq_false_iff_ne.1 hw
  have hwl:=h.wlen
  obtain⟨n1,n2⟩:=X7 h.clk t 0
  cases he:(L6 w.2.2.2.1 t 0).1==w.2.2.2.1.1&&((L6 w.2.2.2.1 t 0).2.1==w.2.2.2.1.2.1&&(L6 w.2.2.2.1 t 0).2.2==w.2.2.2.1.2.2)
  case true=>exact h
  rw[cond_false]
  have hlt:sle w.2.2.2.1 (L6 w.2.2.2.1 t 0)=true:=by
   rcases n2 with n2|n2
   ·rw[n2,beq_self_eq_true,beq_self_eq_true,beq_self_eq_true]at he;cases he
   ·exact n2
  exact h.write (f:=(L6 w.2.2.2.1 t 0,f.2)) hs (Ke.2 ⟨n1,by show f.2.2.length≤200;omega,hd⟩) hb hlt (by omega)
def rot (h:WO w) {i:Nat} (hi:i<w.2.2.1.length) {s:ByteArray} {b:Int}:WO (Qta w i s b).2:=by
 have hg:=h.ns.get hi
 unfold Qta
 cases hr:(D6a (w.2.2.1.getD i C3) s b).2
 ·exact h
 have hn:NO w.2.2.1 (w.2.2.1.set i (D6a (w.2.2.1.getD i C3) s b).1):=NO.set ⟨h.ns,rfl⟩ hi (Uxa hg) (Dfb _ _ _)
 have hs:Az s=true:=by
  unfold D6a at hr
  cases hc:Mr (w.2.2.1.getD i C3)&&((lkD (w.2.2.1.getD i C3).2.1 s).2==0&&(D5a (w.2.2.1.getD i C3).2.1 s b).2)
  ·rw[hc]at hr;cases hr
  rw[Va,Va,beq_iff_eq]at hc
  obtain⟨b,hb,_⟩:=R9.1 (show lkD (w.2.2.1.getD i C3).2.1 s=((lkD (w.2.2.1.getD i C3).2.1 s).1,0) from by rw[← hc.2.1])
  exact Qda hg.g.1 (by rw[hb];rfl)
 exact⟨h.ring,hn.2.trans h.ids,hn.1,h.clk,h.wlen,h.wok,h.wge,Z0 h.sps,λ t ht=>by
  rcases Cwa.1 ht with rfl|ht
  ·exact hs
  ·exact h.spn t ht⟩
def node (h:WO w) {i:Nat} (hi:i<w.2.2.1.length) {e:Evt}:WO (Q2 w e i).2:=by
 have hg:=h.ns.get hi
 unfold Q2
 cases e.1==3
 case true=>exact h.other' (P2a h.ns hi)
 cases e.1==4
 case true=>exact h.other' (P4a h.ns hi)
 cases e.1==5
 case true=>exact h.other' (P5a h.ns hi)
 cases e.1==6
 case true=>exact h.other (NO.set ⟨h.ns,rfl⟩ hi (Aub hg) rfl)
 cases e.1==7 with
 |true=>exact h.other (NO.set ⟨h.ns,rfl⟩ hi (Fkb hg) rfl)
 |false=>exact h.rot hi
def weigh (h:WO w) {i t:Int}:WO (Uy w i t).2:=by
 unfold Uy
 cases h1:inR i 0 ((w.1.length:Int)-1)
 ·exact h
 cases h2:inR t 1 1000
 ·exact h
 obtain⟨i0,i1⟩:=Cc.1 h1
 obtain⟨w0,w1⟩:=Cc.1 h2
 exact⟨(Aza (X5 h.ring (by omega) w0 w1)).1,h.ids.trans (Gba _ _ _).symm,h.ns,h.clk,h.wlen,h.wok,h.wge,h.sps,h.spn⟩
def ev (h:WO w) {e:Evt} (hb:As e.2.2.2.1):WO (doW w e).2:=by
 have ae:∀ {q:Int×Wld},WO q.2→WO (Goa q).2:=λ {q} hq=>by
  unfold Goa
  cases q.1 != 2<;>exact hq
 unfold doW
 cases e.1==1
 case true=>exact ae (h.ask hb (λ c=>by cases c))
 cases e.1==2
 case true=>exact ae (h.ask Oo (λ _=>rfl))
 cases e.1==3||(e.1==4||(e.1==5||(e.1==6||(e.1==7||e.1==8)))) with
 |true=>
  cases hi:inR e.2.1 0 ((w.2.2.1.length:Int)-1)
  ·exact h
  have:=Cc.1 hi
  exact h.node (by omega)
 |false=>
  cases e.1==9 with
  |true=>exact h.weigh
  |false=>exact h
def nods (h:WO w):Tb w.1 w.2.2.1=true:=by
 have hl:=h.nlen
 unfold Tb
 rw[show ((w.2.2.1.length:Int)==(w.1.length:Int))=true by rw[beq_iff_eq];omega,Vz,Ys]
 intro j hj
 have hj':=I4b.1 hj
 rw[Va,beq_iff_eq]
 refine⟨?_,(h.ns.get hj').1⟩
 have e1:(w.2.2.1.getD j C3).1=(w.2.2.1.map (·.1)).getD j 0:=by
  rw[Ve,Ve,Hub,Vk hj'];rfl
 have e2:(w.1.getD j Of).1=(w.1.map (·.1)).getD j 0:=by
  rw[Ve,Ve,Hub,Vk (by omega)];rfl
 rw[e1,e2,h.ids]
def ok (h:WO w):Yy w=true:=by
 unfold Yy
 have a2:Z5a w.2.2.2.1 w.2.2.2.2.1=true:=by
  unfold Z5a
  rw[Va,Ys]
  refine⟨λ x hx=>?_,decide_eq_true (by have:=h.wlen;omega)⟩
  unfold Gha
  rw[(h.wok x hx).1,(h.wok x hx).2.1,h.wge x hx]
  rfl
 have a3:U9 w.2.2.2.2.2=true:=by
  unfold U9
  rw[Ys]
  intro j hj
  have hj':=I4b.1 hj
  rw[Va,Hqb]
  refine⟨h.spn _ (A4 hj'),?_⟩
  by_cases h0:j=0
  ·exact .inl (decide_eq_true h0)
  ·right
   have:=Hpb.1 h.sps (j-1) j (by omega) hj' (by omega)
   rwa [Ve,Ve,Vk hj',Vk (by omega)]
 rw[h.ring,h.nods,h.clk,a2,a3]
 rfl
end WO
def Gtb {l:List ByteArray} (h:∀ j,0<j→j<l.length→tlt (l.getD (j-1) On) (l.getD j On)=true):TS l:=by
 induction l with
 |nil=>exact List.Pairwise.nil
 |cons x l ih=>
  have ht:TS l:=ih (λ j h0 hj=>by
   have:=h (j+1) (by omega) (by simpa using hj)
   obtain⟨m,rfl⟩:∃ m,j=m+1:=⟨j-1,by omega⟩
   simpa using this)
  refine Wh.2 ⟨λ y hy=>?_,ht⟩
  cases l with
  |nil=>cases hy
  |cons z l=>
   have hz:tlt x z=true:=by have:=h 1 (by omega) (by simp);simpa using this
   rcases Vm.1 hy with rfl|hy
   ·exact hz
   ·exact O3 hz ((Wh.1 ht).1 y hy)
def Gub {w:Wld} (h:Yy w=true) (hn:∀ n∈w.2.2.1,DB n.2.1) (hb:∀ x∈w.2.2.2.2.1,As x.2.1.2.2):WO w:=by
 unfold Yy at h
 simp only[Va]at h
 obtain⟨h1,h2,h3,h4,h5⟩:=h
 unfold Tb at h2
 rw[Va,beq_iff_eq,Ys]at h2
 obtain⟨hl,h2⟩:=h2
 have hd:=(Dc.1 (B5.1 h1).1).2.2
 have hnode:∀ j,j<w.2.2.1.length→(w.2.2.1.getD j C3).1=(w.1.getD j Of).1∧Mr (w.2.2.1.getD j C3)=true:=λ j hj=>by
  have:=h2 j (I4b.2 hj)
  rwa [Va,beq_iff_eq]at this
 unfold Z5a at h4
 rw[Va,Ys,decide_eq_true_iff]at h4
 unfold U9 at h5
 rw[Ys]at h5
 have hsp:∀ j,j<w.2.2.2.2.2.length→Az (w.2.2.2.2.2.getD j On)=true∧(j=0∨tlt (w.2.2.2.2.2.getD (j-1) On) (w.2.2.2.2.2.getD j On)=true):=λ j hj=>by
  have:=h5 j (I4b.2 hj)
  rwa [Va,Hqb,decide_eq_true_iff]at this
 have hx:∀ x∈w.2.2.2.2.1,Az x.1=true∧Ee x.2.1=true∧sle w.2.2.2.1 x.2.1.1=false:=λ x hx=>by
  have:=h4.1 x hx
  unfold Gha at this
  rwa [Va,Va,Vw]at this
 refine⟨h1,?_,⟨by omega,λ n hm=>?_⟩,h3,by omega,λ x hm=>⟨(hx x hm).1,(hx x hm).2.1,hb x hm⟩,λ x hm=>(hx x hm).2.2,Gtb (λ j h0 hj=>?_),λ s hs=>?_⟩
 ·refine K5b (by rw[We,We];omega) (λ j a b=>?_)
  rw[We]at a b
  have:=(hnode j a).1
  rw[Ve,Ve,Vk a,Vk b]at this
  rw[Jeb,Jeb]
  exact this
 ·obtain⟨j,hj,rfl⟩:=Zz.1 hm
  have:=(hnode j hj).2
  rw[Ve,Vk hj]at this
  exact⟨this,hn _ hm⟩
 ·rcases (hsp j hj).2 with h|h
  ·omega
  ·exact h
 ·obtain⟨j,hj,rfl⟩:=Zz.1 hs
  have:=(hsp j hj).1
  rwa [Ve,Vk hj]at this

def Wfa (w:Wld) (i t:Int) (hr:Hk w.2.1 w.1=true) (hi:inR i 0 ((w.1.length:Int)-1)=true):Tot (λ k=>E7 k w i t) (λ r=>r=Uy w i t):=by
 unfold E7 Uy
 rw[hi]
 simp only[S9,Vl]
 cases h2:inR t 1 1000
 ·exact Hab rfl (H7b rfl)
 refine H9b rfl ?_
 obtain⟨i0,i1⟩:=Cc.1 hi
 obtain⟨w0,w1⟩:=Cc.1 h2
 simp (disch:=omega) only [dT]
 have hg:=X5 (r:=w.2.1) hr (i:=i.toNat) (by omega) w0 w1
 refine Hib (Vba (r:=w.2.1) (l:=wgt w.1 i.toNat t) hg) ?_
 refine H7b ?_
 rw[decide_eq_true (show (G9a w.2.1 (wgt w.1 i.toNat t)).2≥0 from (Aza hg).2.2.2)]
 rfl
def Wga (w:Wld) (e:Evt) (he:Zaa e) (h:WO w) (hsl:w.2.2.2.2.2.length≤2000000) (h12:e.1≠1∧e.1≠2):Tot (λ k=>B7 k w e) (λ r=>r=doW w e):=by
 have hr:=h.ring
 have hn:=h.ns
 have hnl:=hn.1
 have hlen:=h.nlen
 obtain⟨he1,he2,he3,he4⟩:=he
 unfold B7 doW
 rw[w64 (n:=(w.2.2.1.length:Int)-1) (by omega) (by omega),show (e.1==1)=false from beq_eq_false_iff_ne.2 h12.1,show (e.1==2)=false from beq_eq_false_iff_ne.2 h12.2,cond_false,cond_false]
 simp only[S9,Vl]
 cases h1:inR e.2.1 0 ((w.2.2.1.length:Int)-1) with
 |false=>
  refine Hab rfl (H7b ?_)
  have:(Uy w e.2.1 e.2.2.2.2.1)=(false,w):=by
   unfold Uy
   rw[← hlen,h1]
   rfl
  rw[this]
  cases e.1==3||(e.1==4||(e.1==5||(e.1==6||(e.1==7||e.1==8))))<;>cases e.1==9<;>rfl
 |true=>
  obtain⟨i0,i1⟩:=Cc.1 h1
  obtain⟨i,hei⟩:∃ i:Nat,e.2.1=(i:Int):=⟨e.2.1.toNat,by omega⟩
  have hi:i<w.2.2.1.length:=by omega
  have hni:=hn.get hi
  have e0:w.2.2.1.getD i ((0:Int),(([],[]),([],[])))=w.2.2.1.getD i C3:=rfl
  refine H9b rfl ?_
  rw[hei,Vb]
  cases c3:e.1==3 with
  |true=>
   refine Hab rfl (Hib (Zka w i _ _ hr hn hi) ?_)
   exact H7b (by unfold Q2;rw[c3];rfl)
  |false=>
   refine H9b rfl ?_
   cases c4:e.1==4 with
   |true=>
    refine Hab rfl (Hib (Wda w i _ (Mt hr) hn hi) ?_)
    exact H7b (by unfold Q2;rw[c3,c4];rfl)
   |false=>
    refine H9b rfl ?_
    cases c5:e.1==5 with
    |true=>
     refine Hab rfl (Hib (Wea w i _ (Mt hr) hn hi) ?_)
     exact H7b (by unfold Q2;rw[c3,c4,c5];rfl)
    |false=>
     refine H9b rfl ?_
     cases c6:e.1==6 with
     |true=>
      refine Hab rfl ?_
      simp (disch:=omega) only [dT,Vb,e0]
      refine Hib (Vpa _ hni) ?_
      exact H7b (by unfold Q2;rw[c3,c4,c5,c6];rfl)
     |false=>
      refine H9b rfl ?_
      cases c7:e.1==7 with
      |true=>
       refine Hab rfl (H8b (Q:=λ r=>r=((i:Int),Ux e.2.2.2.2.2,w)) ?_ ?_)
       ·refine Hgb (L:=λ k j (s:List Bool)=>Bu k (i:Int) s e.2.2.2.2.2 (e.2.2.2.2.2.length:Int) j w) (Q:=λ r=>r=((i:Int),Ux e.2.2.2.2.2,w)) e.2.2.2.2.2.length (λ j s=>s=Ux (e.2.2.2.2.2.take j)) ?_ ?_ 0 [] (Vq _) rfl
        ·rintro s rfl
         simp (disch:=omega) only [Bu,dF]
         exact H7b (by rw[Yt])
        ·rintro j s hj rfl next
         simp (disch:=omega) only [Bu,dT,Vb,w64]
         have hk:(Ux (e.2.2.2.2.2.take j)).length=j:=by unfold Ux;rw[We,Vs];omega
         refine Hfb (by rw[hk,Ihb];omega) (next _ ?_)
         unfold Ux
         rw[Wl hj,Hrb,Ve,Vk hj]
         rfl
       ·rintro r rfl
        simp (disch:=omega) only [dT,Vb,e0]
        refine Hib (Vqa _ _ (Se hni) (by unfold Ux;rw[We];exact he4)) ?_
        refine H7b ?_
        unfold Q2 Voa
        rw[c3,c4,c5,c6,c7,hni.1]
        rfl
      |false=>
       refine H9b rfl ?_
       cases c8:e.1==8 with
       |true=>
        refine Hab rfl ?_
        simp (disch:=omega) only [dT,Vb,e0]
        refine Hib (Lza _ _ _ (Se hni) he3.2 he3.1) ?_
        have hR:Q2 w e i=Qta w i e.2.2.1 e.2.2.2.2.1:=by unfold Q2;rw[c3,c4,c5,c6,c7];rfl
        cases hq:(D6a (w.2.2.1.getD i C3) e.2.2.1 e.2.2.2.2.1).2 with
        |true=>
         refine Hab rfl (Hib (Wy _ _ (by omega)) ?_)
         refine H7b ?_
         show _=Q2 w e i
         rw[hR,Fsb h.sps]
         unfold Qta
         rw[hq]
         rfl
        |false=>
         refine H9b rfl (H7b ?_)
         show _=Q2 w e i
         rw[hR]
         unfold Qta
         rw[hq,cond_false]
         have:(D6a (w.2.2.1.getD i C3) e.2.2.1 e.2.2.2.2.1).1=w.2.2.1.getD i C3:=by
          unfold D6a at hq ⊢
          cases hc:Mr (w.2.2.1.getD i C3)&&((lkD (w.2.2.1.getD i C3).2.1 e.2.2.1).2==0&&(D5a (w.2.2.1.getD i C3).2.1 e.2.2.1 e.2.2.2.2.1).2) with
          |true=>rw[hc]at hq;cases hq
          |false=>rfl
         rw[this,Ve,Vk hi,Yp,Kib]
       |false=>
        refine H9b rfl ?_
        cases c9:e.1==9 with
        |true=>
         refine Hab rfl (Hib (Wfa w _ _ hr (by rw[← hlen,← hei];exact h1)) ?_)
         exact H7b rfl
        |false=>exact H9b rfl (H7b rfl)
def Dgb (w:Wld) (e:Evt) (he:Zaa e) (h:WO w) (hsl:w.2.2.2.2.2.length≤2000000):Tot (λ k=>H9 k w e) (λ r=>r=doW w e):=by
 have answer:∀ (q:Int×Wld),Tot (λ _=>cond (q.1 != 2) (some (q.1 != 3,q.2)) (some (false,q.2))) (λ r=>r=Goa q):=by
  intro q
  unfold Goa
  cases q.1 != 2<;>exact H7b rfl
 unfold H9
 cases c1:e.1==1 with
 |true=>
  rw[Nq _ (by have:=he.2.1;omega)]
  simp only[Vl]
  refine Hab rfl (Hib (Wca w e.2.2.1 ((0,0,0),false,e.2.2.2.1) e.2.2.2.2.1 e.2.2.2.2.2 h.ring h.ns h.clk he.1 (λ h=>by cases h) h.wlen) ?_)
  unfold doW
  rw[c1]
  exact answer _
 |false=>
  refine H9b rfl ?_
  cases c2:e.1==2 with
  |true=>
   refine Hab rfl (Hib (Wca w e.2.2.1 ((0,0,0),true,[]) e.2.2.2.2.1 e.2.2.2.2.2 h.ring h.ns h.clk he.1 (λ _=>rfl) h.wlen) ?_)
   unfold doW
   rw[c1,c2]
   exact answer _
  |false=>
   refine H9b rfl (Hib (Wga w e he h hsl ⟨beq_eq_false_iff_ne.1 c1,beq_eq_false_iff_ne.1 c2⟩) ?_)
   exact H7b rfl

def M9a (w:Wld) (s:ByteArray) (f:Fil) (t:Int) (rc:List Int):(ask w s f t rc).1=0∨(ask w s f t rc).1=1∨(((ask w s f t rc).1=2∨(ask w s f t rc).1=3)∧(ask w s f t rc).2=w):=by
 unfold ask
 cases !(Az s)
 case true=>exact .inr (.inr ⟨.inl rfl,rfl⟩)
 rw[cond_false]
 cases decide ((f.2.2.length:Int) > 200)
 case true=>exact .inr (.inr ⟨.inl rfl,rfl⟩)
 rw[cond_false]
 cases !(inR t 0 1000000000)
 case true=>exact .inr (.inr ⟨.inl rfl,rfl⟩)
 rw[cond_false]
 cases (w.2.2.2.2.1.length:Int)==200
 case true=>exact .inr (.inr ⟨.inr rfl,rfl⟩)
 rw[cond_false]
 cases (L6 w.2.2.2.1 t 0).1==w.2.2.2.1.1&&((L6 w.2.2.2.1 t 0).2.1==w.2.2.2.1.2.1&&(L6 w.2.2.2.1 t 0).2.2==w.2.2.2.1.2.2)
 case true=>exact .inr (.inr ⟨.inr rfl,rfl⟩)
 rw[cond_false]
 unfold X8
 cases decide ((wrN (w.1,w.2.1,w.2.2.1,L6 w.2.2.2.1 t 0,w.2.2.2.2) s (L6 w.2.2.2.1 t 0,f.2) rc).2.2≥quo (w.1,w.2.1,w.2.2.1,L6 w.2.2.2.1 t 0,w.2.2.2.2).2.1.1) with
 |true=>exact .inl rfl
 |false=>exact .inr (.inl rfl)
def Eta {w:Wld} {s:ByteArray} {f:Fil} {t:Int} {rc:List Int} (h:(Goa (ask w s f t rc)).1=false):(Goa (ask w s f t rc)).2=w:=by
 have key:=M9a w s f t rc
 unfold Goa at h ⊢
 generalize ask w s f t rc=q at *
 rcases key with k|k|⟨k|k,e⟩
 ·rw[k]at h;cases h
 ·rw[k]at h;cases h
 ·rw[k];exact e
 ·rw[k];exact e
def Maa {w:Wld} {e:Evt} {i:Nat} (h:(Q2 w e i).1=false):(Q2 w e i).2=w:=by
 unfold Q2 at h ⊢
 cases h3:e.1==3 with
 |true=>
  rw[h3,cond_true]at h
  rw[cond_true]
  unfold Cta at h ⊢
  cases hl:(lkD (w.2.2.1.getD i C3).2.1 e.2.2.1).2 != 0 with
  |true=>rfl
  |false=>rw[hl]at h;cases h
 |false=>
  rw[h3,cond_false]at h
  rw[cond_false]
  cases h4:e.1==4 with
  |true=>
   rw[h4,cond_true]at h
   rw[cond_true]
   unfold Cua at h ⊢
   cases hl:((w.2.2.1.getD i C3).2.2.1.length:Int)==0 with
   |true=>rfl
   |false=>rw[hl]at h;cases h
  |false=>
   rw[h4,cond_false]at h
   rw[cond_false]
   cases h5:e.1==5 with
   |true=>
    rw[h5,cond_true]at h
    rw[cond_true]
    unfold Cva at h ⊢
    cases hl:((w.2.2.1.getD i C3).2.2.2.length:Int)==0 with
    |true=>rfl
    |false=>rw[hl]at h;cases h
   |false=>
    rw[h5,cond_false]at h
    rw[cond_false]
    cases h6:e.1==6
    case true=>rw[h6]at h;cases h
    rw[h6,cond_false]at h
    rw[cond_false]
    cases h7:e.1==7
    case true=>rw[h7]at h;cases h
    rw[h7,cond_false]at h
    rw[cond_false]
    unfold Qta at h ⊢
    cases hl:(D6a (w.2.2.1.getD i C3) e.2.2.1 e.2.2.2.2.1).2 with
    |true=>rw[hl]at h;cases h
    |false=>rfl
def Cya {w:Wld} {e:Evt} (hr:Hk w.2.1 w.1=true) (h:(doW w e).1=false):(doW w e).2=w:=by
 unfold doW at h ⊢
 cases h1:e.1==1
 case true=>rw[h1,cond_true]at h;rw[cond_true];exact Eta h
 rw[h1,cond_false]at h
 rw[cond_false]
 cases h2:e.1==2
 case true=>rw[h2,cond_true]at h;rw[cond_true];exact Eta h
 rw[h2,cond_false]at h
 rw[cond_false]
 cases h3:e.1==3||(e.1==4||(e.1==5||(e.1==6||(e.1==7||e.1==8)))) with
 |true=>
  rw[h3,cond_true]at h
  rw[cond_true]
  cases hi:inR e.2.1 0 ((w.2.2.1.length:Int)-1) with
  |true=>rw[hi,cond_true]at h;rw[cond_true];exact Maa h
  |false=>rfl
 |false=>
  rw[h3,cond_false]at h
  rw[cond_false]
  cases h9:e.1==9 with
  |true=>
   rw[h9,cond_true]at h
   rw[cond_true]
   unfold Uy at h ⊢
   cases a1:inR e.2.1 0 ((w.1.length:Int)-1)
   ·rfl
   cases a2:inR e.2.2.2.2.1 1 1000
   ·rfl
   rw[a1,a2]at h
   obtain⟨i0,i1⟩:=Cc.1 a1
   obtain⟨w0,w1⟩:=Cc.1 a2
   have:=(Aza (X5 hr (i:=e.2.1.toNat) (by omega) w0 w1)).2.2.2
   exact absurd this (of_decide_eq_false h)
  |false=>rfl
def Dhb {w:Wld} {e:Evt}:(doW w e).2.2.2.2.2.2.length≤w.2.2.2.2.2.length+1:=by
 have ha:∀ (s:ByteArray) (f:Fil) (t:Int) (rc:List Int),(Goa (ask w s f t rc)).2.2.2.2.2.2=w.2.2.2.2.2:=by
  intro s f t rc
  have e1:∀ q:Int×Wld,(Goa q).2=q.2:=λ q=>by unfold Goa;cases q.1 != 2<;>rfl
  rw[e1]
  unfold ask
  cases !(Az s)
  case true=>rfl
  cases decide ((f.2.2.length:Int) > 200)
  case true=>rfl
  cases !(inR t 0 1000000000)
  case true=>rfl
  cases (w.2.2.2.2.1.length:Int)==200 with
  |true=>rfl
  |false=>cases (L6 w.2.2.2.1 t 0).1==w.2.2.2.1.1&&((L6 w.2.2.2.1 t 0).2.1==w.2.2.2.1.2.1&&(L6 w.2.2.2.1 t 0).2.2==w.2.2.2.1.2.2)<;>rfl
 unfold doW
 cases e.1==1
 case true=>rw[cond_true,ha];omega
 cases e.1==2
 case true=>rw[cond_false,cond_true,ha];omega
 rw[cond_false,cond_false]
 cases e.1==3||(e.1==4||(e.1==5||(e.1==6||(e.1==7||e.1==8)))) with
 |true=>
  rw[cond_true]
  cases inR e.2.1 0 ((w.2.2.1.length:Int)-1)
  ·exact Zg _
  rw[cond_true]
  unfold Q2
  cases e.1==3
  case true=>rw[cond_true];unfold Cta;cases (lkD (w.2.2.1.getD e.2.1.toNat C3).2.1 e.2.2.1).2 != 0<;>exact Zg _
  rw[cond_false]
  cases e.1==4
  case true=>rw[cond_true];unfold Cua;cases ((w.2.2.1.getD e.2.1.toNat C3).2.2.1.length:Int)==0<;>exact Zg _
  rw[cond_false]
  cases e.1==5
  case true=>rw[cond_true];unfold Cva;cases ((w.2.2.1.getD e.2.1.toNat C3).2.2.2.length:Int)==0<;>exact Zg _
  rw[cond_false]
  cases e.1==6
  case true=>exact Zg _
  rw[cond_false]
  cases e.1==7
  case true=>exact Zg _
  rw[cond_false]
  unfold Qta
  cases (D6a (w.2.2.1.getD e.2.1.toNat C3) e.2.2.1 e.2.2.2.2.1).2 with
  |true=>exact D4b _ _
  |false=>exact Zg _
 |false=>
  rw[cond_false]
  cases e.1==9 with
  |true=>
   rw[cond_true]
   unfold Uy
   cases inR e.2.1 0 ((w.1.length:Int)-1) with
   |false=>exact Zg _
   |true=>cases inR e.2.2.2.2.1 1 1000<;>exact Zg _
  |false=>exact Zg _

def WIm.wo {m:Nat} {w:Wld} (h:WIm m w) (hk:Yy w=true):WO w:=Gub hk (λ n hn=>(h.2.2.1.2 n hn).1.2) (λ x hx=>(h.2.2.2.1.2 x hx).2.2)
def WO.wim {w:Wld} (h:WO w) {m:Nat} (h2:200≤m) (hs:w.2.2.2.2.2.length≤m):WIm m w:=
 ⟨Mt h.ring,by have:=h.dlen;omega,⟨h.ns.1,λ n hn=>Se (h.ns.2 n hn)⟩,⟨by have:=h.wlen;omega,λ x hx=>⟨J8 (h.wok x hx).1,by have:=(Ke.1 (h.wok x hx).2.1).2.1;omega,(h.wok x hx).2.2⟩⟩,hs,λ s hs=>J8 (h.spn s hs)⟩
def Cza {m:Nat} {w:Wld} (h:WIm m w) (hm:m≤2000000):Tot (λ k=>Bq k w) (λ r=>r=w):=by
 obtain⟨h1,h2,⟨h3,h4⟩,⟨h5,h6⟩,h7,h8⟩:=h
 unfold Bq
 refine Hfb (by rw[Vg];omega) (Hib (Z9 w.2.1 h1) ?_)
 refine Hfb (by rw[Vg];omega) ?_
 rw[Vx,Vx]
 refine H8b (Q:=λ r=>r=(w,Jwa,(w.1,w.2.1,w.2.2.1,w.2.2.2.1,[],w.2.2.2.2.2))) ?_ ?_
 ·refine Hgb (L:=λ k i (s:List Nod)=>Ew k w.2.2.1 (w.2.2.1.length:Int) i w Jwa (w.1,w.2.1,s,w.2.2.2.1,[],w.2.2.2.2.2)) (Q:=λ r=>r=(w,Jwa,(w.1,w.2.1,w.2.2.1,w.2.2.2.1,[],w.2.2.2.2.2))) w.2.2.1.length (λ j s=>s=w.2.2.1.take j) ?_ ?_ 0 [] (Vq _) rfl
  ·rintro s rfl
   simp (disch:=omega) only [Ew,dF]
   exact H7b (by rw[Yt])
  ·rintro j s hj rfl next
   have hm:=h4 _ (A4 (d:=C3) hj)
   have e0:w.2.2.1.getD j ((0:Int),(([],[]),([],[])))=w.2.2.1.getD j C3:=rfl
   have hl:(w.2.2.1.take j).length=j:=by rw[Vs];omega
   simp (disch:=omega) only [Ew,dT,Vb,w64,e0]
   refine Hib (Nh _ hm) ?_
   refine Hfb (by rw[hl];simp only[Vc,Vg];omega) (next _ ?_)
   rw[Wl hj,Ve,Vk hj]
   rfl
 ·rintro r rfl
  refine H8b (Q:=λ r=>r=(Jwa,w)) ?_ (by rintro r rfl;exact H7b rfl)
  refine Hgb (L:=λ k i (s:List Wri)=>Ev k w.2.2.2.2.1 (w.2.2.2.2.1.length:Int) i Jwa (w.1,w.2.1,w.2.2.1,w.2.2.2.1,s,w.2.2.2.2.2)) (Q:=λ r=>r=(Jwa,w)) w.2.2.2.2.1.length (λ j s=>s=w.2.2.2.2.1.take j) ?_ ?_ 0 [] (Vq _) rfl
  ·rintro s rfl
   simp (disch:=omega) only [Ev,dF]
   exact H7b (by rw[Yt])
  ·rintro j s hj rfl next
   have hm:=(h6 _ (A4 (d:=Vsa) hj)).2.1
   have e0:w.2.2.2.2.1.getD j ((⟨#[]⟩:ByteArray),((((0:Int),((0:Int),(0:Int))),(false,[])),false))=w.2.2.2.2.1.getD j Vsa:=rfl
   have hl:(w.2.2.2.2.1.take j).length=j:=by rw[Vs];omega
   simp (disch:=omega) only [Ev,dT,Vb,w64,e0,A2a (f:=(w.2.2.2.2.1.getD j Vsa).2.1) (by omega),Vl]
   refine Hfb (by rw[hl];simp only[Vc,Vg];omega) (next _ ?_)
   rw[Wl hj,Ve,Vk hj]
   rfl
def doA (w:Wld) (e:Evt):Wld×Bool:=bif Yy w then ((doW w e).2,(doW w e).1) else (w,false)
def Dib {m:Nat} {w:Wld} {e:Evt} (h:WIm m w) (hm:m≤1999000) (he:Zaa e):Tot (λ k=>Pr k w e) (λ r=>r=doA w e):=by
 have hw:=h.win (by omega)
 have hsl:=h.2.2.2.2.1
 unfold Pr doA
 refine H8b (Cza h (by omega)) ?_
 rintro r rfl
 refine H8b (Jha r hw) ?_
 rintro b rfl
 cases hk:Yy r with
 |false=>
  refine Hab rfl (H8b (Cza h (by omega)) ?_)
  rintro _ rfl
  exact H7b rfl
 |true=>
  have ho:=h.wo hk
  refine H9b rfl (H8b (Dgb r e he ho (by omega)) ?_)
  rintro _ rfl
  cases hc:(doW r e).1
  case true=>exact H9b rfl (H7b rfl)
  refine Hab rfl (H8b (Cza h (by omega)) ?_)
  rintro w rfl
  exact H7b (by rw[cond_true,Cya ho.ring hc])
def Djb {m:Nat} {w:Wld} {e:Evt} (h:WIm m w) (hm:m≤1999000) (he:Zaa e):Tot (λ k=>Ps k w e) (λ r=>r=doA w e):=by
 have hw:=h.win (by omega)
 have hsl:=h.2.2.2.2.1
 have hwl:=h.2.2.2.1.1
 unfold Ps doA
 refine H8b (Xb h (by omega)) ?_
 rintro r rfl
 refine H8b (Vta r hw) ?_
 rintro b rfl
 cases hk:Yy r with
 |false=>
  refine Hab rfl (H8b (Xb h (by omega)) ?_)
  rintro _ rfl
  exact H7b rfl
 |true=>
  have ho:=h.wo hk
  refine H9b rfl (H8b (Azb r e he ho.ring ho.ns ho.clk (by omega) (by omega)) ?_)
  rintro _ rfl
  cases hc:(doW r e).1
  case true=>exact H9b rfl (H7b rfl)
  refine Hab rfl (H8b (Xb h (by omega)) ?_)
  rintro w rfl
  exact H7b (by rw[cond_true,Cya ho.ring hc])
def Gma (w v:Wld):Prop:=v.2.2.1.length=w.2.2.1.length∧w.2.2.2.2.1.length≤v.2.2.2.2.1.length∧sle v.2.2.2.1 w.2.2.2.1=false
def Gma.nodes {w:Wld} {ns:List Nod} (h:ns.length=w.2.2.1.length):Gma w (wN w ns):=⟨h,Vv _,N6 _⟩
def Gma.nodes' {w:Wld} {r:Bool×Wld} (h:∃ ns,r.2=wN w ns∧NO w.2.2.1 ns):Gma w r.2:=by
 obtain⟨ns,e,hn⟩:=h
 rw[e]
 exact Gma.nodes hn.len
def P6a {w:Wld} (h:WO w) {s:ByteArray} {f:Fil} {t:Int} {rc:List Int} (hd:f.2.1=true→f.2.2=[]):Gma w (ask w s f t rc).2:=by
 have hz:Gma w w:=⟨rfl,Vv _,N6 _⟩
 unfold ask
 cases hs:Az s
 ·exact hz
 rw[Yv,cond_false]
 by_cases hl:(f.2.2.length:Int) > 200
 ·rw[decide_eq_true hl];exact hz
 ·rw[decide_eq_false hl,cond_false]
  cases inR t 0 1000000000
  ·exact hz
  rw[Yv,cond_false]
  cases (w.2.2.2.2.1.length:Int)==200
  case true=>exact hz
  rw[cond_false]
  obtain⟨n1,n2⟩:=X7 h.clk t 0
  cases (L6 w.2.2.2.1 t 0).1==w.2.2.2.1.1&&((L6 w.2.2.2.1 t 0).2.1==w.2.2.2.1.2.1&&(L6 w.2.2.2.1 t 0).2.2==w.2.2.2.1.2.2)
  case true=>exact hz
  have g:=B2b (w:=(w.1,w.2.1,w.2.2.1,L6 w.2.2.2.1 t 0,w.2.2.2.2)) (s:=s) (f:=(L6 w.2.2.2.1 t 0,f.2)) (rc:=rc) h.ns hs (Ke.2 ⟨n1,by show f.2.2.length≤200;omega,hd⟩)
  refine⟨g.len,by show _≤(w.2.2.2.2.1++[_]).length;rw[Vd];omega,?_⟩
  show sle (L6 w.2.2.2.1 t 0) w.2.2.2.1=false
  rcases n2 with n2|n2
  ·rw[n2];exact N6 _
  ·exact X9 n2
def Zma {w:Wld} (h:WO w) {e:Evt}:Gma w (doW w e).2:=by
 have hz:Gma w w:=⟨rfl,Vv _,N6 _⟩
 have ae:∀ {q:Int×Wld},Gma w q.2→Gma w (Goa q).2:=λ {q} hq=>by
  unfold Goa
  cases q.1 != 2<;>exact hq
 unfold doW
 cases e.1==1
 case true=>exact ae (P6a h (λ c=>by cases c))
 cases e.1==2
 case true=>exact ae (P6a h (λ _=>rfl))
 cases e.1==3||(e.1==4||(e.1==5||(e.1==6||(e.1==7||e.1==8)))) with
 |true=>
  cases hi:inR e.2.1 0 ((w.2.2.1.length:Int)-1)
  ·exact hz
  have:=Cc.1 hi
  have hi':e.2.1.toNat<w.2.2.1.length:=by omega
  show Gma w (Q2 w e e.2.1.toNat).2
  unfold Q2
  cases e.1==3
  case true=>exact Gma.nodes' (P2a h.ns hi')
  cases e.1==4
  case true=>exact Gma.nodes' (P4a h.ns hi')
  cases e.1==5
  case true=>exact Gma.nodes' (P5a h.ns hi')
  cases e.1==6
  case true=>exact Gma.nodes (Vy ..)
  cases e.1==7
  case true=>exact Gma.nodes (Vy ..)
  show Gma w (Qta w e.2.1.toNat e.2.2.1 e.2.2.2.2.1).2
  unfold Qta
  cases (D6a (w.2.2.1.getD e.2.1.toNat C3) e.2.2.1 e.2.2.2.2.1).2 with
  |true=>exact⟨Vy ..,Vv _,N6 _⟩
  |false=>exact hz
 |false=>
  cases e.1==9 with
  |true=>
   show Gma w (Uy w e.2.1 e.2.2.2.2.1).2
   unfold Uy
   cases inR e.2.1 0 ((w.1.length:Int)-1) with
   |false=>exact hz
   |true=>cases inR e.2.2.2.2.1 1 1000<;>exact hz
  |false=>exact hz

end Go.Proofs.YtmhhjceoinoekaaGreat.Vf

section
set_option linter.unusedVariables false
set_option linter.unusedSimpArgs false
namespace Go.Proofs.YtmhhjceoinoekaaGreat.Pure
open Go Go.RowKit Go.Proofs.YtmhhjceoinoekaaGreat.Vf
theorem R0a (a:List Int) (hb:(a.length:Int)≤1048576):Tot (λ k=>Ly k a) (λ r=>WIp 201 r.1∧Zaa r.2∧As r.2.2.2.2.1):=by
 unfold Ly
 refine H8b (Tra a hb) ?_
 intro c hc
 obtain⟨n,e,n0,n1⟩:=Zha a hb 20 (by decide)
 refine H8b (Hjb (Q:=λ r=>r=n) e rfl) ?_
 rintro _ rfl
 refine H8b (Qxa c hc _ (by omega)) ?_
 rintro⟨w,c1⟩ ⟨h,k1⟩
 dsimp only at h k1 ⊢
 obtain⟨x,c2,e2,_,_,_,k2⟩:=Ay c1 k1 11 (by decide)
 refine H8b (Hjb (Q:=λ r=>r=(x,c2)) e2 rfl) ?_
 rintro _ rfl
 have hn:=h.2
 refine Hbb (by omega) (H8b (Xa c2 w k2 hn h.1.2.2.1.1 h.1.2.2.1.2) ?_)
 rintro⟨ev,c3,w1⟩ ⟨g1,g2,g3,g4⟩
 dsimp only at g1 g2 g3 g4 ⊢
 subst g4
 obtain⟨y,c4,e4,_,_,_,k4⟩:=Ay c3 g3 8 (by decide)
 refine H8b (Hjb (Q:=λ r=>r=(y,c4)) e4 rfl) ?_
 rintro _ rfl
 dsimp only
 refine Hdb (λ _=>?_) (λ _=>Hdb (λ _=>?_) (λ _=>Hdb (λ _=>?_) (λ _=>H7b ⟨h,g1,g2⟩)))
 ·obtain⟨z,c5,e5,_,_,_,k5⟩:=Ay c4 k4 11 (by decide)
  refine H8b (Hjb (Q:=λ r=>r=(z,c5)) e5 rfl) ?_
  rintro _ rfl
  exact H7b ⟨h,g1,g2⟩
 ·obtain⟨z,c5,e5,_,k5⟩:=Mb c4 k4 [(-1),12,0] (by decide) (by decide)
  refine H8b (Hjb (Q:=λ r=>r=(z,c5)) e5 rfl) ?_
  rintro _ rfl
  exact H7b ⟨h,g1,g2⟩
 ·obtain⟨z,c5,e5,hz,k5⟩:=Mb c4 k4 [(-1),1000000001,0] (by decide) (by decide)
  refine H8b (Hjb (Q:=λ r=>r=(z,c5)) e5 rfl) ?_
  rintro _ rfl
  have hz' : -1≤z∧z≤1000000001:=by
   simp only[Vm,Zk,or_false]at hz
   omega
  exact H7b ⟨h,⟨g1.1,g1.2.1,⟨by dsimp only;omega,by dsimp only;omega⟩,g1.2.2.2⟩,g2⟩
theorem FnDone:∀ (a0:List Int),Ty.fit ti (.sl 5 (.i .u8)) a0→∃ k,Mf k a0=some true:=by
 intro a0 _
 refine Tot.law (f:=λ k=>Mf k a0) ?_
 unfold Mf P4
 refine H8b (H7b (Q:=λ b=>b=decide ((List.length a0:Int) > 1048576)) rfl) ?_
 rintro b rfl
 refine Heb (λ _=>H7b rfl) (λ hb=>?_)
 refine H8b (R0a a0 (by omega)) ?_
 rintro⟨w,e⟩ ⟨h,he,hd⟩
 dsimp only at h he hd ⊢
 refine H8b (Dib h.1 (by decide) he) ?_
 rintro _ rfl
 refine H8b (Djb h.1 (by decide) he) ?_
 rintro _ rfl
 refine H9b (by rw[beq_self_eq_true];rfl) ?_
 unfold doA
 cases hk:Yy w with
 |false=>
  rw[cond_false]
  dsimp only
  exact Hcb (by omega) (H9b (by rw[bne,beq_self_eq_true];rfl) (Hab rfl (Hab (beq_self_eq_true _) (Hab (by rw[beq_self_eq_true,beq_self_eq_true,beq_self_eq_true];rfl) (H7b (beq_self_eq_true _))))))
 |true=>
  rw[cond_true]
  dsimp only
  have ho:=h.1.wo hk
  obtain⟨g1,g2,g3⟩:=Zma ho (e:=e)
  refine Hcb (by omega) (H9b (by rw[bne,show (((doW w e).2.2.2.1.length:Int)==(w.2.2.1.length:Int))=true from by rw[beq_iff_eq];omega];rfl) ?_)
  cases hc:(doW w e).1 with
  |false=>
   have hf:=Cya ho.ring hc
   rw[hf]
   exact Hab rfl (Hab (beq_self_eq_true _) (Hab (by rw[beq_self_eq_true,beq_self_eq_true,beq_self_eq_true];rfl) (H7b (beq_self_eq_true _))))
  |true=>
   have ho':=ho.ev (e:=e) hd
   have hsp:=Dhb (w:=w) (e:=e)
   have hsl:=h.1.2.2.2.2.1
   refine H9b rfl (H8b (Jha _ ((ho'.wim (m:=300) (by decide) (by omega)).win (by decide))) ?_)
   rintro _ rfl
   refine Hab ho'.ok ?_
   simp only[Aqa,Vl]
   exact H7b (by rw[g3];rfl)
end Go.Proofs.YtmhhjceoinoekaaGreat.Pure
end
