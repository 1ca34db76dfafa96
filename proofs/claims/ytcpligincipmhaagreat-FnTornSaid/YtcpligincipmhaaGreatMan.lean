import Derived.Test.YtcpligincipmhaaGreatMam
import Derived.Test.YtcpligincipmhaaGreatMaj
set_option linter.all false
namespace Go.Proofs.YtcpligincipmhaaGreat.Vf
open Go
open List (length getD)
open Int (toNat)
open Go.IntKind (wrap)
open BitVec (ofInt)

def Nva {c:Stp} (hc:Gr c=true) (t d:Int):Eu c t d=some (I3 c t d):=by
 have h2:0≤c.2.1∧c.2.1≤1000000:=by
  unfold Gr at hc;rw[Va,Va,Dl,Dl]at hc;exact hc.2.1
 unfold Eu I3;rw[w64 (n:=c.2.1+1) (by omega) (by omega)];simp only[Pr,Vt]
 cases decide (t≤c.1) with
 |true=>cases Gr (c.1,c.2.1+1,d)<;>rfl
 |false=>cases Gr (t,0,d)<;>rfl
def Rg {f:Fil} (h:f.2.2.length≤1000000000):Dt f=some f:=by
 unfold Dt;rw[Hw _ (by omega)];rfl
def Nwa {n:Nod} {s:ByteArray} {f:Fil} {sure:Bool} (hn:NG n) (hs:Bc s=true) (hf:Dw f=true):Y3a n s f sure=Oz n s f sure:=by
 unfold Y3a;rw[hn.1,hs,hf];rfl
def J6a {n:Nod} (r:Int) (s:ByteArray) (f:Fil) (g:Int) (hn:NG n) (hs:Bc s=true) (hf:Dw f=true) (h0:0≤g) (h1:g≤9000000000000):
  Tot (λ k=>Cc k n r s f g) (λ x=>x=((Oz n s f (r != 3)).1,s,f,bif r==1&&((Oz n s f (r != 3)).2==0||(Oz n s f (r != 3)).2==1) then g+1 else g)):=by
 unfold Cc;refine Zsa (F0a n s f (r != 3) (Z5 hn) (Hb hs)) ?_;rw[Nwa hn hs hf,w64 (n:=g+1) (by omega) (by omega)];generalize Oz n s f (r != 3)=p;cases r==1
 ·exact Zia rfl (Zga rfl)
 refine Zja rfl ?_;cases p.2==0
 case true=>exact Zja rfl (Zga rfl)
 refine Zia rfl ?_
 cases p.2==1 with
 |true=>exact Zja rfl (Zga rfl)
 |false=>exact Zia rfl (Zga rfl)
def Rfa (w:Wld) (s:ByteArray) (f:Fil) (rc:List Int) (hr:Gw w.2.1 w.1=true) (hn:NS w.2.2.1) (hs:Bc s=true) (hf:Dw f=true):
  Tot (λ k=>A7 k w s rc true s f 0) (λ r=>r=(wN w (wrN w s f rc).1,s,f,(wrN w s f rc).2.2)):=by
 have hsz:s.size≤1000000000:=by
  have:=Dl.1 (Va _ _ ▸ hs:_∧_).2;omega
 obtain⟨_,hR,_⟩:=Bp.1 hr;unfold A7;refine Zsa (Cta w s hr hn.1 hsz) ?_;have hc:=λ x=>Jf (w:=w) (s:=s) (x:=x)
 have hcl:(Bi w s).length≤4000000000000:=by
  unfold Bi;refine Sd hn.1 ?_;have h5:=(Bp.1 hr).2.1;have p2:=(Qu hr s).2.1;have h12:=(D7.1 (Bp.1 hr).1).2.2.2;have hh:=Rf w.2.1 w.1 s;rw[Vi];omega
 have hrun:wrN w s f rc=run (wst w.2.1.1 rc s f (Bi w s)) (Bi w s).length (w.2.2.1,0,0):=rfl
 have inv:∀ n,n≤(Bi w s).length→NS (run (wst w.2.1.1 rc s f (Bi w s)) n (w.2.2.1,0,0)).1∧(run (wst w.2.1.1 rc s f (Bi w s)) n (w.2.2.1,0,0)).1.length=w.2.2.1.length∧(0≤(run (wst w.2.1.1 rc s f (Bi w s)) n (w.2.2.1,0,0)).2.1∧(run (wst w.2.1.1 rc s f (Bi w s)) n (w.2.2.1,0,0)).2.1≤n)∧0≤(run (wst w.2.1.1 rc s f (Bi w s)) n (w.2.2.1,0,0)).2.2∧(run (wst w.2.1.1 rc s f (Bi w s)) n (w.2.2.1,0,0)).2.2≤n:=by
  intro n hn';refine Je (λ j (b:List Nod×Int×Int)=>NS b.1∧b.1.length=w.2.2.1.length∧(0≤b.2.1∧b.2.1≤(j:Int))∧0≤b.2.2∧b.2.2≤(j:Int)) ⟨hn,rfl,⟨Abb _,Abb _⟩,Abb _,Abb _⟩ (λ j b hj hb=>Xka hs hf hb ?_);have:=hc _ (A3 (d:=0) (show j<(Bi w s).length by omega));omega
 generalize hcs:Bi w s=cs at *;refine Zha (Q:=λ r=>r=(wN w (wrN w s f rc).1,s,f,(wrN w s f rc).2.2)) ?_ (by rintro r rfl;exact Zga rfl);refine Zpa (L:=λ k i (a:List Nod×Int×Int)=>Aa k rc a.2.1 cs (cs.length:Int) i (wN w a.1) s f a.2.2) (Q:=λ r=>r=(wN w (wrN w s f rc).1,s,f,(wrN w s f rc).2.2)) cs.length (λ j a=>a=run (wst w.2.1.1 rc s f cs) j (w.2.2.1,0,0)) ?_ ?_ 0 (w.2.2.1,0,0) (Vu _) rfl
 ·rintro a rfl;simp (disch:=omega) only [Aa,dF];exact Zga (by rw[hrun])
 ·rintro j a hj rfl next;obtain⟨i1,i2,i3,i4,i5⟩:=inv j (by omega);rw[Jl]at next;generalize run (wst w.2.1.1 rc s f cs) j (w.2.2.1,0,0)=a at *;obtain⟨ns,o,g⟩:=a;dsimp only at i1 i2 i3 i4 i5;have hci:=hc _ (A3 (d:=0) hj);obtain⟨i,ei⟩:∃ i:Nat,cs.getD j 0=(i:Int):=⟨(cs.getD j 0).toNat,by omega⟩;rw[ei]at hci;unfold wst at next;rw[ei,Int.toNat_natCast]at next;dsimp only at next;have e0:ns.getD i ((0:Int),(([],[]),([],[])))=ns.getD i Bb:=rfl;simp (disch:=omega) only [Aa,dT,wN,Int.toNat_natCast,w64,ei,e0,F6a,Option.bind_some]
  cases h0:rch rc j==0 with
  |true=>
   refine Zia (by rw[bne,h0];rfl) ?_;rw[h0]at next;refine next (ns,o,g) ?_
   cases decide (o<w.2.1.1)<;>rfl
  |false=>
   refine Zja (by rw[bne,h0];rfl) ?_;rw[h0]at next;refine Zna (λ hR'=>?_) (λ hR'=>?_)
   ·rw[decide_eq_true hR']at next;refine Zsa (J6a (rch rc j) s f g (i1.get (by omega)) hs hf i4 (by omega)) ?_;exact next _ rfl
   ·rw[decide_eq_false hR']at next;exact next _ rfl
def Fda (w:Wld) (s:ByteArray) (f:Fil) (t:Int) (rc:List Int) (hr:Gw w.2.1 w.1=true) (hn:NS w.2.2.1) (hst:Gr w.2.2.2.1=true) (hs:L8 s) (hd:f.2.1=true→f.2.2=[]) (hw:w.2.2.2.2.1.length≤200):
  Tot (λ k=>B0 k w s f t rc) (λ r=>r=ask w s f t rc):=by
 unfold B0 ask;refine Zsa (Ju s hs) ?_;cases hs':Bc s
 ·exact Zja rfl (Zga rfl)
 refine Zia rfl ?_;rw[Zk,cond_false]
 by_cases hl:(f.2.2.length:Int) > 200
 ·rw[decide_eq_true hl];exact Zja rfl (Zga rfl)
 ·rw[decide_eq_false hl,cond_false];refine Zia rfl ?_;simp only[Ku,Nva hst,Vt];cases inR t 0 1000000000
  ·exact Zja rfl (Zga rfl)
  refine Zia rfl ?_;rw[Zk,cond_false]
  by_cases h200:w.2.2.2.2.1.length=200
  ·rw[show ((w.2.2.2.2.1.length:Int)==200)=true by rw[beq_iff_eq];omega];exact Zka (by omega) (Zga rfl)
  ·rw[show ((w.2.2.2.2.1.length:Int)==200)=false by rw[beq_eq_false_iff_ne];omega,cond_false];refine Zla (by omega) ?_;cases (I3 w.2.2.2.1 t 0).1==w.2.2.2.1.1&&((I3 w.2.2.2.1 t 0).2.1==w.2.2.2.1.2.1&&(I3 w.2.2.2.1 t 0).2.2==w.2.2.2.1.2.2)
   case true=>exact Zja rfl (Zga rfl)
   rw[cond_false];have hfo:Dw (I3 w.2.2.2.1 t 0,f.2)=true:=Ha.2 ⟨(A8a hst t 0).1,by show f.2.2.length≤200;omega,hd⟩;refine Zia rfl (Zsa (Rfa (w.1,w.2.1,w.2.2.1,I3 w.2.2.2.1 t 0,w.2.2.2.2) s (I3 w.2.2.2.1 t 0,f.2) rc hr hn hs' hfo) ?_);have h5:=(Bp.1 hr).2.1;dsimp only[wN];rw[V5a (by omega) (by omega),Rg (f:=(I3 w.2.2.2.1 t 0,f.2)) (show f.2.2.length≤_ by omega)];simp only[Option.bind_some];refine Zoa (by simp only[List.length_cons,List.length_nil];omega) ?_;unfold O9
   cases decide ((wrN (w.1,w.2.1,w.2.2.1,I3 w.2.2.2.1 t 0,w.2.2.2.2) s (I3 w.2.2.2.1 t 0,f.2) rc).2.2≥quo w.2.1.1) with
   |true=>exact Zga rfl
   |false=>exact Zga rfl

def Rga (w:Wld) (i:Nat) (s:ByteArray) (rc:List Int) (hr:Gw w.2.1 w.1=true) (hn:NS w.2.2.1) (hi:i<w.2.2.1.length):Tot (λ k=>Af k w (i:Int) s rc) (λ r=>r=A9a w i s rc):=by
 have hni:=hn.get hi;unfold Af A9a;have e0:w.2.2.1.getD i ((0:Int),(([],[]),([],[])))=w.2.2.1.getD i Bb:=rfl;simp (disch:=omega) only [dT,Vj,e0];have hin:=(Z5 hni).1;refine Zsa (Z3 hin.1.1.1.1 hin.2.1 s) ?_;cases hl:(lkD (w.2.2.1.getD i Bb).2.1 s).2 != 0
 case true=>exact Zja rfl (Zga rfl)
 refine Zia rfl ?_;rw[cond_false]
 have hlk:∃ b,gt (w.2.2.1.getD i Bb).2.1.1 s=some b:=by
  rw[bne,Ye,beq_iff_eq]at hl;obtain⟨b,hb,_⟩:=Lx.1 (show lkD (w.2.2.1.getD i Bb).2.1 s=((lkD (w.2.2.1.getD i Bb).2.1 s).1,0) from by rw[← hl]);exact⟨b,hb⟩
 have hs:Bc s=true:=Qja hni.g.1 (by obtain⟨b,hb⟩:=hlk;rw[hb];rfl)
 have hsz:s.size≤1000000000:=by
  have:=Dl.1 (Va _ _ ▸ hs:_∧_).2;omega
 refine Zsa (Sc _ s (Ka hr) hsz) ?_;refine Zsa (Ow w _ hn.1 (Sf (Ka hr) s)) ?_;have hpl:=Nla (s:=s) hr hn.1;have hc:=λ x=>Pz (w:=w) (s:=s) (x:=x);have hrun:puN w i s rc=run (pst (i:Int) s (lkD (w.2.2.1.getD i Bb).2.1 s).1 rc (J7 w s)) (J7 w s).length (w.2.2.1,false,true):=rfl;obtain⟨p1,p2⟩:=Xla (w:=w) (i:=i) (s:=s) (rc:=rc) hn
 have inv:∀ n,n≤(J7 w s).length→NS (run (pst (i:Int) s (lkD (w.2.2.1.getD i Bb).2.1 s).1 rc (J7 w s)) n (w.2.2.1,false,true)).1∧(run (pst (i:Int) s (lkD (w.2.2.1.getD i Bb).2.1 s).1 rc (J7 w s)) n (w.2.2.1,false,true)).1.length=w.2.2.1.length:=λ n hn'=>
  Je (λ _ (b:List Nod×Bool×Bool)=>NS b.1∧b.1.length=w.2.2.1.length) ⟨hn,rfl⟩ (λ j b hj hb=>T2a hb (by have:=hc _ (A3 (d:=0) (show j<(J7 w s).length by omega));omega))
 rw[show whr w.2.2.1 (Ou w.2.1 s)=J7 w s from rfl];generalize (lkD (w.2.2.1.getD i Bb).2.1 s).1=f at *;generalize J7 w s=ps at *;refine Zha (Q:=λ r=>r=((i:Int),s,(puN w i s rc).2.2,(puN w i s rc).2.1,wN w (puN w i s rc).1)) ?_ ?_
 ·refine Zpa (L:=λ k j (a:List Nod×Bool×Bool)=>Ad k (i:Int) s rc a.2.2 a.2.1 ps (ps.length:Int) j (wN w a.1) f) (Q:=λ r=>r=((i:Int),s,(puN w i s rc).2.2,(puN w i s rc).2.1,wN w (puN w i s rc).1)) ps.length (λ j a=>a=run (pst (i:Int) s f rc ps) j (w.2.2.1,false,true)) ?_ ?_ 0 (w.2.2.1,false,true) (Vu _) rfl
  ·rintro a rfl;simp (disch:=omega) only [Ad,dF];exact Zga (by rw[hrun])
  ·rintro j a hj rfl next;obtain⟨i1,i2⟩:=inv j (by omega);rw[Jl]at next;generalize run (pst (i:Int) s f rc ps) j (w.2.2.1,false,true)=a at *;obtain⟨ns,o,g⟩:=a;dsimp only at i1 i2;have hci:=hc _ (A3 (d:=0) hj);obtain⟨m,em⟩:∃ m:Nat,ps.getD j 0=(m:Int):=⟨(ps.getD j 0).toNat,by omega⟩;rw[em]at hci;unfold pst at next;rw[em,Int.toNat_natCast]at next;have e0:ns.getD m ((0:Int),(([],[]),([],[])))=ns.getD m Bb:=rfl;simp (disch:=omega) only [Ad,dT,Int.toNat_natCast,w64,em,wN,e0]
   cases hz:(m:Int)==(i:Int) with
   |true=>
    rw[hz]at next;exact Zja rfl (next _ rfl)
   |false=>
    rw[hz]at next;refine Zia rfl ?_;simp only[F6a,Vt]
    cases h1:rch rc j != 1 with
    |true=>
     rw[h1]at next;exact Zja rfl (next _ rfl)
    |false=>
     rw[h1]at next;refine Zia rfl ?_;have hm:=Z5 (i1.get (i:=m) (by omega));refine Zsa (H3a (ns.getD m Bb).2.1 s f true hm.1.1 hm.1.2.1 (Hb hs)) ?_;dsimp only at next ⊢;generalize keep (ns.getD m Bb).2.1 s f true=q at *
     cases g with
     |false=>
      refine Zia rfl (next (ns.set m ((ns.getD m Bb).1,q.1,(ns.getD m Bb).2.2),o,false) ?_)
      cases q.2 != 0&&q.2 != 1<;>rfl
     |true=>
      refine Zja rfl ?_;cases h2:q.2==0
      case true=>rw[bne,h2]at next;exact Zja rfl (next _ rfl)
      rw[bne,h2]at next;refine Zia rfl ?_
      cases h3:q.2==1 with
      |true=>rw[bne,h3]at next;exact next _ rfl
      |false=>rw[bne,h3]at next;exact next _ rfl
 ·rintro r rfl;dsimp only[wN];generalize puN w i s rc=a at *;obtain⟨ns,o,g⟩:=a;dsimp only at p1 p2 ⊢
  cases o with
  |true=>
   refine Zia rfl (Zga ?_);rw[Zk,Ze];rfl
  |false=>
   refine Zja rfl ?_;cases g
   ·exact Zia rfl (Zga rfl)
   refine Zja rfl ?_;have e0:ns.getD i ((0:Int),(([],[]),([],[])))=ns.getD i Bb:=rfl;simp (disch:=omega) only [dT,Vj,e0];have hg:=(p1.get (i:=i) (by omega)).g;refine Zsa (Era hg.1) ?_;refine Zsa (Cda (Xda hg).1 hs) ?_;exact Zga rfl
def Rha {n:Nod} {l:List Row} (hn:NG n) (hl:I1 l=true):Qna n l=((tk n l).2,(tk n l).1):=by
 unfold Qna tk;rw[hn.1,hl]
 cases decide ((C2a n.2.2.1 l).length > 60)<;>rfl
def Cza (w:Wld) (src:Int) (l:List Row) (rc:List Int) (hr:RBd w.2.1) (hn:NS w.2.2.1) (hl:I1 l=true):
  Tot (λ k=>Aj k w l rc src) (λ r=>r=((Ke w src l false rc).2,wN w (Ke w src l false rc).1)):=by
 have hll:=Eua hl;unfold Aj;refine Zsa (U7 w hr hn.1) ?_;have hpl:=U8 hr hn.1;have hc:=λ x=>Lz (w:=w) (x:=x);have hrun:Ke w src l false rc=run (gst src l false rc (H8 w)) (H8 w).length (w.2.2.1,true):=rfl
 have inv:∀ n,n≤(H8 w).length→NS (run (gst src l false rc (H8 w)) n (w.2.2.1,true)).1∧(run (gst src l false rc (H8 w)) n (w.2.2.1,true)).1.length=w.2.2.1.length:=λ n hn'=>
  Je (λ _ (b:List Nod×Bool)=>NS b.1∧b.1.length=w.2.2.1.length) ⟨hn,rfl⟩ (λ j b hj hb=>T3a hl hb (by have:=hc _ (A3 (d:=0) (show j<(H8 w).length by omega));omega))
 generalize H8 w=ls at *;refine Zha (Q:=λ r=>r=((Ke w src l false rc).2,wN w (Ke w src l false rc).1)) ?_ (by rintro r rfl;exact Zga rfl);refine Zpa (L:=λ k j (a:List Nod×Bool)=>As k l rc src a.2 ls (ls.length:Int) j (wN w a.1)) (Q:=λ r=>r=((Ke w src l false rc).2,wN w (Ke w src l false rc).1)) ls.length (λ j a=>a=run (gst src l false rc ls) j (w.2.2.1,true)) ?_ ?_ 0 (w.2.2.1,true) (Vu _) rfl
 ·rintro a rfl;simp (disch:=omega) only [As,dF];exact Zga (by rw[hrun])
 ·rintro j a hj rfl next;obtain⟨i1,i2⟩:=inv j (by omega);rw[Jl]at next;generalize run (gst src l false rc ls) j (w.2.2.1,true)=a at *;obtain⟨ns,g⟩:=a;dsimp only at i1 i2;have hci:=hc _ (A3 (d:=0) hj);obtain⟨m,em⟩:∃ m:Nat,ls.getD j 0=(m:Int):=⟨(ls.getD j 0).toNat,by omega⟩;rw[em]at hci;unfold gst at next;rw[em,Int.toNat_natCast,Bool.not_false,Bool.and_true]at next;have e0:ns.getD m ((0:Int),(([],[]),([],[])))=ns.getD m Bb:=rfl;have hm:=i1.get (i:=m) (by omega);simp (disch:=omega) only [As,dT,Int.toNat_natCast,w64,em,e0,wN]
  cases hz:(m:Int)==src with
  |true=>
   rw[hz]at next;exact Zja rfl (next _ rfl)
  |false=>
   rw[hz]at next;refine Zia rfl ?_;simp only[F6a,Vt]
   cases h1:rch rc j != 1 with
   |true=>
    rw[h1]at next;exact Zja rfl (next _ rfl)
   |false=>
    rw[h1]at next;refine Zia rfl (Zsa (Qoa (ns.getD m Bb) l (Z5 hm) hll) ?_);rw[Rha hm hl];dsimp only at next ⊢;generalize tk (ns.getD m Bb) l=q at *
    cases g with
    |false=>
     refine Zia rfl (next (ns.set m q.2,false) ?_)
     cases q.1<;>rfl
    |true=>
     refine Zja rfl (next (ns.set m q.2,q.1) ?_)
     cases q.1<;>rfl

def T5a:∀ {l m:List ByteArray},TS l→TS m→(∀ y,y∈l↔y∈m)→l=m
 |[],[],_,_,_=>rfl
 |[],y::m,_,_,h=>absurd ((h y).2 Yd) (by simp)
 |x::l,[],_,_,h=>absurd ((h x).1 Yd) (by simp)
 |x::l,y::m,hl,hm,h=>by
  obtain⟨l1,l2⟩:=Wd.1 hl;obtain⟨m1,m2⟩:=Wd.1 hm
  have e:x=y:=by
   rcases Vl.1 ((h x).1 Yd) with e|hx
   ·exact e
   ·rcases Vl.1 ((h y).2 Yd) with e|hy
    ·exact e.symm
    ·have:=Po (m1 x hx);rw[l1 y hy]at this;cases this
  subst e;refine congrArg _ (T5a l2 m2 λ z=>⟨λ hz=>?_,λ hz=>?_⟩)
  ·rcases Vl.1 ((h z).1 (Vg _ hz)) with e|hz'
   ·subst e;have:=l1 z hz;rw[Gy]at this;cases this
   ·exact hz'
  ·rcases Vl.1 ((h z).2 (Vg _ hz)) with e|hz'
   ·subst e;have:=m1 z hz;rw[Gy]at this;cases this
   ·exact hz'
def Xua {l:List ByteArray} (h:TS l) (s:ByteArray):wt l s=spl l s:=T5a (C8a h) (Qy h) λ y=>by rw[Sja,U9]
def Nd {l:List Row} (h:l.length≤2000000000):Ac l=some l:=by
 unfold Ac;rw[bT (by simp only[Vs];omega),Wk]
def J7a (w:Wld) (src:Int) (l:List Row) (rc:List Int):Ke w (-1) l false rc=Ke w src l true rc:=by
 unfold Ke;refine Je (λ n (a:List Nod×Bool)=>a=run (gst src l true rc (H8 w)) n (w.2.2.1,true)) rfl (λ j b hj hb=>?_);rw[Jl,← hb];have:=(Lz (A3 (d:=0) hj)).1;unfold gst;rw[show ((H8 w).getD j 0 == -1)=false by rw[beq_eq_false_iff_ne];omega,Zk,Ze,Zwa]
def Fea (w:Wld) (src:Int) (l:List Row) (self:Bool) (rc:List Int) (m:Nat):((Ke w src l self rc).1.getD m Bb).2.2.2=(w.2.2.1.getD m Bb).2.2.2:=by
 unfold Ke;refine Je (λ n (a:List Nod×Bool)=>(a.1.getD m Bb).2.2.2=(w.2.2.1.getD m Bb).2.2.2) rfl (λ j b hj hb=>?_);unfold gst;cases (H8 w).getD j 0==src&&!self
 case true=>exact hb
 cases rch rc j != 1
 case true=>exact hb
 rw[cond_false,cond_false];generalize ((H8 w).getD j 0).toNat=i;show ((b.1.set i (tk (b.1.getD i Bb) l).2).getD m Bb).2.2.2=_
 by_cases hm:m<b.1.length
 ·rw[Ib hm]
  by_cases hi:i=m
  ·subst hi;rw[if_pos rfl,← hb];unfold tk
   cases decide ((C2a (b.1.getD i Bb).2.2.1 l).length > 60)<;>rfl
  ·rw[if_neg hi];exact hb
 ·rw[Vb,Zo (by rw[Wa];omega)];rw[Vb,Zo (by omega)]at hb;exact hb
def Nxa (w:Wld) (i:Nat) (rc:List Int) (hr:RBd w.2.1) (hn:NS w.2.2.1) (hi:i<w.2.2.1.length):Tot (λ k=>Bh k w (i:Int) rc) (λ r=>r=Cwa w i rc):=by
 have hni:=hn.get hi;have e0:w.2.2.1.getD i ((0:Int),(([],[]),([],[])))=w.2.2.1.getD i Bb:=rfl;have hl:=(Cf.1 hni.1).2.2.2.1;have hll:=(Eua hl).1;unfold Bh Cwa;simp (disch:=omega) only [dT,Vj,e0,Nd (show (w.2.2.1.getD i Bb).2.2.1.length≤2000000000 by omega),Vt];cases hz:((w.2.2.1.getD i Bb).2.2.1.length:Int)==0
 case true=>exact Zja rfl (Zga rfl)
 refine Zia rfl (Zsa (Cza w (i:Int) _ rc hr hn hl) ?_);obtain⟨p1,p2⟩:=Hia (w:=w) (src:=(i:Int)) (self:=false) (rc:=rc) hl hn;rw[show Ke w (i:Int) (w.2.2.1.getD i Bb).2.2.1 false rc=Nw w i rc from rfl]at p1 p2 ⊢;generalize Nw w i rc=a at *;obtain⟨ns,g⟩:=a;dsimp only at p1 p2 ⊢;cases g
 ·exact Zia rfl (Zga rfl)
 refine Zja rfl (Zsa (U7 (wN w ns) hr p1.1) ?_);refine Zsa (Oo _ _ (by have:=U8 (w:=wN w ns) hr p1.1;omega)) ?_;cases Jj (H8 (wN w ns)) (i:Int)
 case true=>exact Zia rfl (Zga rfl)
 have e1:ns.getD i ((0:Int),(([],[]),([],[])))=ns.getD i Bb:=rfl;refine Zja rfl ?_;simp (disch:=omega) only [dT,Vj,e1];exact Zga rfl
def Nya (w:Wld) (i:Nat) (rc:List Int) (hr:RBd w.2.1) (hn:NS w.2.2.1) (hi:i<w.2.2.1.length):Tot (λ k=>Bl k w (i:Int) rc) (λ r=>r=Cxa w i rc):=by
 have hni:=hn.get hi;have e0:w.2.2.1.getD i ((0:Int),(([],[]),([],[])))=w.2.2.1.getD i Bb:=rfl;obtain⟨hq,_,_,_,hq60⟩:=Cf.1 hni.1;have hl:=Ox hq;unfold Bl Cxa;simp (disch:=omega) only [dT,Vj,e0];cases hz:((w.2.2.1.getD i Bb).2.2.2.length:Int)==0
 case true=>exact Zja rfl (Zga rfl)
 have h1:=beq_eq_false_iff_ne.1 hz;refine Zia rfl (Zka (by omega) ?_);rw[show List.take (toNat 1) (w.2.2.1.getD i Bb).2.2.2=List.take 1 (w.2.2.1.getD i Bb).2.2.2 from rfl,Nd (by rw[List.length_take];omega)];simp only[Option.bind_some];refine Zsa (Cza w (-1) _ rc hr hn hl) ?_;rw[J7a w (i:Int)];obtain⟨p1,p2⟩:=Hia (w:=w) (src:=(i:Int)) (self:=true) (rc:=rc) hl hn;have hqu:=Fea w (i:Int) ((w.2.2.1.getD i Bb).2.2.2.take 1) true rc i;rw[show Ke w (i:Int) ((w.2.2.1.getD i Bb).2.2.2.take 1) true rc=Q0 w i rc from rfl]at p1 p2 hqu ⊢;generalize Q0 w i rc=a at *;obtain⟨ns,g⟩:=a;dsimp only at p1 p2 hqu ⊢;cases g
 ·exact Zia rfl (Zga rfl)
 have e1:ns.getD i ((0:Int),(([],[]),([],[])))=ns.getD i Bb:=rfl;refine Zja rfl ?_;simp (disch:=omega) only [dT,Vj,e1,hqu];rw[show List.drop (toNat 1) (w.2.2.1.getD i Bb).2.2.2=List.drop 1 (w.2.2.1.getD i Bb).2.2.2 from rfl,Nd (by rw[We];omega)];exact Zga rfl

def NO (ns ms:List Nod):Prop:=NS ms∧ms.map (·.1)=ns.map (·.1)
def NO.len {ns ms:List Nod} (h:NO ns ms):ms.length=ns.length:=by
 have:=congrArg length h.2;rwa [Vz,Vz]at this
def NO.set {ns ms:List Nod} (h:NO ns ms) {i:Nat} {n:Nod} (hi:i<ms.length) (hn:NG n) (e:n.1=(ms.getD i Bb).1):NO ns (ms.set i n):=⟨h.1.set hn,(Fba hi e).trans h.2⟩
def Vda (n:Nod) (s:ByteArray) (f:Fil) (sure:Bool):(Oz n s f sure).1.1=n.1:=by
 unfold Oz
 cases (n.2.2.2.length:Int)==60 with
 |true=>rfl
 |false=>rfl
def Yza (n:Nod) (l:List Row):(tk n l).2.1=n.1:=by
 unfold tk
 cases decide ((C2a n.2.2.1 l).length > 60)<;>rfl
def Vea (n:Nod) (s:ByteArray) (b:Int):(Cha n s b).1.1=n.1:=by
 unfold Cha
 cases J0 n&&((lkD n.2.1 s).2==0&&(Z4 n.2.1 s b).2)<;>rfl
def T6a {w:Wld} {s:ByteArray} {f:Fil} {rc:List Int} (hn:NS w.2.2.1) (hs:Bc s=true) (hf:Dw f=true):NO w.2.2.1 (wrN w s f rc).1:=by
 unfold wrN;refine Je (λ _ (a:List Nod×Int×Int)=>NO w.2.2.1 a.1) ⟨hn,rfl⟩ (λ j a hj h=>?_);have hc:=Jf (A3 (d:=0) hj);have hl:=h.len;unfold wst;cases decide (a.2.1<w.2.1.1)
 ·exact h
 rw[cond_true]
 cases rch rc j==0 with
 |true=>exact h
 |false=>exact h.set (by omega) (Mra (h.1.get (by omega)) hs hf) (Vda _ _ _ _)
def Xva {w:Wld} {i:Nat} {s:ByteArray} {rc:List Int} (hn:NS w.2.2.1):NO w.2.2.1 (puN w i s rc).1:=by
 unfold puN;refine Je (λ _ (a:List Nod×Bool×Bool)=>NO w.2.2.1 a.1) ⟨hn,rfl⟩ (λ j a hj h=>?_);have hc:=Pz (A3 (d:=0) hj);have hl:=h.len;unfold pst;cases (J7 w s).getD j 0==(i:Int)
 case true=>exact h
 rw[cond_false]
 cases rch rc j != 1 with
 |true=>exact h
 |false=>exact h.set (by omega) (Faa (h.1.get (by omega))) rfl
def Ria {w:Wld} {i:Nat} {s:ByteArray} {rc:List Int} (hn:NS w.2.2.1) (hi:i<w.2.2.1.length):∃ ns,(A9a w i s rc).2=wN w ns∧NO w.2.2.1 ns:=by
 unfold A9a;cases hl:(lkD (w.2.2.1.getD i Bb).2.1 s).2 != 0
 case true=>exact⟨w.2.2.1,rfl,hn,rfl⟩
 have h:=Xva (i:=i) (s:=s) (rc:=rc) hn;have hlen:=h.len
 have hs:Bc s=true:=by
  rw[bne,Ye,beq_iff_eq]at hl;obtain⟨b,hb,_⟩:=Lx.1 (show lkD (w.2.2.1.getD i Bb).2.1 s=((lkD (w.2.2.1.getD i Bb).2.1 s).1,0) from by rw[← hl]);exact Qja (hn.get hi).g.1 (by rw[hb];rfl)
 refine⟨_,rfl,?_⟩
 cases (puN w i s rc).2.2&&!(puN w i s rc).2.1 with
 |false=>exact h
 |true=>exact h.set (by omega) (T1a (h.1.get (by omega)) hs) rfl
def Hma {w:Wld} {src:Int} {l:List Row} {self:Bool} {rc:List Int} (hl:I1 l=true) (hn:NS w.2.2.1):NO w.2.2.1 (Ke w src l self rc).1:=by
 unfold Ke;refine Je (λ _ (a:List Nod×Bool)=>NO w.2.2.1 a.1) ⟨hn,rfl⟩ (λ j a hj h=>?_);have hc:=Lz (A3 (d:=0) hj);have hlen:=h.len;unfold gst;cases (H8 w).getD j 0==src&&!self
 case true=>exact h
 rw[cond_false]
 cases rch rc j != 1 with
 |true=>exact h
 |false=>exact h.set (by omega) (Yua (h.1.get (by omega)) hl) (Yza _ _)
def Rja {w:Wld} {i:Nat} {rc:List Int} (hn:NS w.2.2.1) (hi:i<w.2.2.1.length):∃ ns,(Cwa w i rc).2=wN w ns∧NO w.2.2.1 ns:=by
 have h:=Hma (w:=w) (src:=(i:Int)) (self:=false) (rc:=rc) (Cf.1 (hn.get hi).1).2.2.2.1 hn;have hlen:=h.len;unfold Cwa;cases ((w.2.2.1.getD i Bb).2.2.1.length:Int)==0
 case true=>exact⟨w.2.2.1,rfl,hn,rfl⟩
 refine⟨_,rfl,?_⟩;show NO w.2.2.1 (bif (Nw w i rc).2&&_ then (Nw w i rc).1.set i (Nma ((Nw w i rc).1.getD i Bb)) else (Nw w i rc).1);unfold Nw
 cases (Ke w (i:Int) (w.2.2.1.getD i Bb).2.2.1 false rc).2&&_ with
 |false=>exact h
 |true=>exact h.set (by omega) (Hja (h.1.get (by omega))) rfl
def Rka {w:Wld} {i:Nat} {rc:List Int} (hn:NS w.2.2.1) (hi:i<w.2.2.1.length):∃ ns,(Cxa w i rc).2=wN w ns∧NO w.2.2.1 ns:=by
 have hq:=Cf.1 (hn.get hi).1;have h:=Hma (w:=w) (src:=(i:Int)) (self:=true) (rc:=rc) (Ox hq.1) hn;have hlen:=h.len;unfold Cxa;cases ((w.2.2.1.getD i Bb).2.2.2.length:Int)==0
 case true=>exact⟨w.2.2.1,rfl,hn,rfl⟩
 refine⟨_,rfl,?_⟩;show NO w.2.2.1 (bif (Q0 w i rc).2 then (Q0 w i rc).1.set i (Yva ((Q0 w i rc).1.getD i Bb) ((w.2.2.1.getD i Bb).2.2.2.drop 1)) else (Q0 w i rc).1);unfold Q0
 cases (Ke w (i:Int) ((w.2.2.1.getD i Bb).2.2.2.take 1) true rc).2 with
 |false=>exact h
 |true=>exact h.set (by omega) (T4a (h.1.get (by omega)) (λ r hr=>hq.1 r (Zl hr)) (by rw[We];omega)) rfl
structure WO (w:Wld):Prop where
 ring:Gw w.2.1 w.1=true
 ids:w.2.2.1.map (·.1)=w.1.map (·.1)
 ns:NS w.2.2.1
 clk:Gr w.2.2.2.1=true
 wlen:w.2.2.2.2.1.length≤200
 wok:Afa w.2.2.2.2.1
 wge:∀ x∈w.2.2.2.2.1,sle w.2.2.2.1 x.2.1.1=false
 sps:TS w.2.2.2.2.2
 spn:∀ s∈w.2.2.2.2.2,Bc s=true
def WI.wo {w:Wld} (h:WI w):WO w:=⟨h.ring,h.ids,h.ns,h.clk,h.wlen,h.wok,h.wge,h.sps,λ s hs=>by
 obtain⟨x,hx,e⟩:=h.spw s hs;rw[← e]
 exact(h.wok x hx).1⟩
namespace WO
variable {w:Wld}
def nlen (h:WO w):w.2.2.1.length=w.1.length:=by
 have:=congrArg length h.ids;rwa [Vz,Vz]at this
def dlen (h:WO w):1≤w.1.length∧w.1.length≤12:=(D7.1 (Bp.1 h.ring).1).2.2
def other (h:WO w) {ns:List Nod} (hn:NO w.2.2.1 ns):WO (wN w ns):=⟨h.ring,hn.2.trans h.ids,hn.1,h.clk,h.wlen,h.wok,h.wge,h.sps,h.spn⟩
def other' (h:WO w) {r:Bool×Wld} (hr:∃ ns,r.2=wN w ns∧NO w.2.2.1 ns):WO r.2:=by
 obtain⟨ns,e,hn⟩:=hr;rw[e];exact h.other hn
def write (h:WO w) {s:ByteArray} {f:Fil} {rc:List Int} (hs:Bc s=true) (hf:Dw f=true) (hb:Ax f.2.2) (hc:sle w.2.2.2.1 f.1=true) (hl:w.2.2.2.2.1.length<200):WO (O9 (w.1,w.2.1,w.2.2.1,f.1,w.2.2.2.2) s f rc).2:=by
 have g:=T6a (w:=(w.1,w.2.1,w.2.2.1,f.1,w.2.2.2.2)) (rc:=rc) h.ns hs hf;unfold O9;generalize wrN (w.1,w.2.1,w.2.2.1,f.1,w.2.2.2.2) s f rc=a at *
 exact {
  ring:=h.ring
  ids:=g.2.trans h.ids
  ns:=g.1
  clk:=(Ha.1 hf).1
  wlen:=by show (w.2.2.2.2.1++[_]).length≤200;rw[Vi];simp only[Vh,Vs];omega
  wok:=λ x hx=>by
   rcases Vm.1 hx with hx|hx
   ·exact h.wok x hx
   ·rw[Vq.1 hx];exact⟨hs,hf,hb⟩
  wge:=λ x hx=>by
   rcases Vm.1 hx with hx|hx
   ·exact X2 (Ua hc) (h.wge x hx)
   ·rw[Vq.1 hx];exact Ls _
  sps:=h.sps
  spn:=h.spn }
def ask (h:WO w) {s:ByteArray} {f:Fil} {t:Int} {rc:List Int} (hb:Ax f.2.2) (hd:f.2.1=true→f.2.2=[]):WO (ask w s f t rc).2:=by
 unfold Vf.ask;cases hs:Bc s
 ·exact h
 rw[Zk,cond_false]
 by_cases hl:(f.2.2.length:Int) > 200
 ·rw[decide_eq_true hl];exact h
 ·rw[decide_eq_false hl,cond_false];cases inR t 0 1000000000
  ·exact h
  rw[Zk,cond_false];cases hw:(w.2.2.2.2.1.length:Int)==200
  case true=>exact h
  rw[cond_false];have hw':=beq_eq_false_iff_ne.1 hw;have hwl:=h.wlen;obtain⟨n1,n2⟩:=A8a h.clk t 0;cases he:(I3 w.2.2.2.1 t 0).1==w.2.2.2.1.1&&((I3 w.2.2.2.1 t 0).2.1==w.2.2.2.1.2.1&&(I3 w.2.2.2.1 t 0).2.2==w.2.2.2.1.2.2)
  case true=>exact h
  rw[cond_false]
  have hlt:sle w.2.2.2.1 (I3 w.2.2.2.1 t 0)=true:=by
   rcases n2 with n2|n2
   ·rw[n2,beq_self_eq_true,beq_self_eq_true,beq_self_eq_true]at he;cases he
   ·exact n2
  exact h.write (f:=(I3 w.2.2.2.1 t 0,f.2)) hs (Ha.2 ⟨n1,by show f.2.2.length≤200;omega,hd⟩) hb hlt (by omega)
def rot (h:WO w) {i:Nat} (hi:i<w.2.2.1.length) {s:ByteArray} {b:Int}:WO (Raa w i s b).2:=by
 have hg:=h.ns.get hi;unfold Raa;cases hr:(Cha (w.2.2.1.getD i Bb) s b).2
 ·exact h
 have hn:NO w.2.2.1 (w.2.2.1.set i (Cha (w.2.2.1.getD i Bb) s b).1):=NO.set ⟨h.ns,rfl⟩ hi (Sua hg) (Vea _ _ _)
 have hs:Bc s=true:=by
  unfold Cha at hr;cases hc:J0 (w.2.2.1.getD i Bb)&&((lkD (w.2.2.1.getD i Bb).2.1 s).2==0&&(Z4 (w.2.2.1.getD i Bb).2.1 s b).2)
  ·rw[hc]at hr;cases hr
  rw[Va,Va,beq_iff_eq]at hc;obtain⟨b,hb,_⟩:=Lx.1 (show lkD (w.2.2.1.getD i Bb).2.1 s=((lkD (w.2.2.1.getD i Bb).2.1 s).1,0) from by rw[← hc.2.1]);exact Qja hg.g.1 (by rw[hb];rfl)
 exact⟨h.ring,hn.2.trans h.ids,hn.1,h.clk,h.wlen,h.wok,h.wge,Qy h.sps,λ t ht=>by
  rcases U9.1 ht with rfl|ht
  ·exact hs
  ·exact h.spn t ht⟩
def node (h:WO w) {i:Nat} (hi:i<w.2.2.1.length) {e:Evt}:WO (Mj w e i).2:=by
 have hg:=h.ns.get hi;unfold Mj;cases e.1==3
 case true=>exact h.other' (Ria h.ns hi)
 cases e.1==4
 case true=>exact h.other' (Rja h.ns hi)
 cases e.1==5
 case true=>exact h.other' (Rka h.ns hi)
 cases e.1==6
 case true=>exact h.other (NO.set ⟨h.ns,rfl⟩ hi (Sza hg) rfl)
 cases e.1==7 with
 |true=>exact h.other (NO.set ⟨h.ns,rfl⟩ hi (Xma hg) rfl)
 |false=>exact h.rot hi
def weigh (h:WO w) {i t:Int}:WO (Us w i t).2:=by
 unfold Us;cases h1:inR i 0 ((w.1.length:Int)-1)
 ·exact h
 cases h2:inR t 1 1000
 ·exact h
 obtain⟨i0,i1⟩:=Dl.1 h1;obtain⟨w0,w1⟩:=Dl.1 h2;exact⟨(S9 (Sa h.ring (by omega) w0 w1)).1,h.ids.trans (Z9 _ _ _).symm,h.ns,h.clk,h.wlen,h.wok,h.wge,h.sps,h.spn⟩
def ev (h:WO w) {e:Evt} (hb:Ax e.2.2.2.1):WO (doW w e).2:=by
 have ae:∀ {q:Int×Wld},WO q.2→WO (Noa q).2:=λ {q} hq=>by
  unfold Noa
  cases q.1 != 2<;>exact hq
 unfold doW;cases e.1==1
 case true=>exact ae (h.ask hb (λ c=>by cases c))
 cases e.1==2
 case true=>exact ae (h.ask Tw (λ _=>rfl))
 cases e.1==3||(e.1==4||(e.1==5||(e.1==6||(e.1==7||e.1==8)))) with
 |true=>
  cases hi:inR e.2.1 0 ((w.2.2.1.length:Int)-1)
  ·exact h
  have:=Dl.1 hi;exact h.node (by omega)
 |false=>
  cases e.1==9 with
  |true=>exact h.weigh
  |false=>exact h
def nods (h:WO w):O8 w.1 w.2.2.1=true:=by
 have hl:=h.nlen;unfold O8;rw[show ((w.2.2.1.length:Int)==(w.1.length:Int))=true by rw[beq_iff_eq];omega,Wn,Wg];intro j hj;have hj':=Zf.1 hj;rw[Va,beq_iff_eq];refine⟨?_,(h.ns.get hj').1⟩
 have e1:(w.2.2.1.getD j Bb).1=(w.2.2.1.map (·.1)).getD j 0:=by
  rw[Vb,Vb,Zw,Ve hj'];rfl
 have e2:(w.1.getD j Kg).1=(w.1.map (·.1)).getD j 0:=by
  rw[Vb,Vb,Zw,Ve (by omega)];rfl
 rw[e1,e2,h.ids]
def ok (h:WO w):Ov w=true:=by
 unfold Ov
 have a2:R2a w.2.2.2.1 w.2.2.2.2.1=true:=by
  unfold R2a;rw[Va,Wg];refine⟨λ x hx=>?_,decide_eq_true (by have:=h.wlen;omega)⟩;unfold F3a;rw[(h.wok x hx).1,(h.wok x hx).2.1,h.wge x hx];rfl
 have a3:Py w.2.2.2.2.2=true:=by
  unfold Py;rw[Wg];intro j hj;have hj':=Zf.1 hj;rw[Va,Zp];refine⟨h.spn _ (A3 hj'),?_⟩
  by_cases h0:j=0
  ·exact .inl (decide_eq_true h0)
  ·right;have:=Yp.1 h.sps (j-1) j (by omega) hj' (by omega);rwa [Vb,Vb,Ve hj',Ve (by omega)]
 rw[h.ring,h.nods,h.clk,a2,a3];rfl
end WO
def Z0a {l:List ByteArray} (h:∀ j,0<j→j<l.length→tlt (l.getD (j-1) Ki) (l.getD j Ki)=true):TS l:=by
 induction l with
 |nil=>exact List.Pairwise.nil
 |cons x l ih=>
  have ht:TS l:=ih (λ j h0 hj=>by
   have:=h (j+1) (by omega) (by simpa using hj);obtain⟨m,rfl⟩:∃ m,j=m+1:=⟨j-1,by omega⟩
   simpa using this)
  refine Wd.2 ⟨λ y hy=>?_,ht⟩
  cases l with
  |nil=>cases hy
  |cons z l=>
   have hz:tlt x z=true:=by have:=h 1 (by omega) (by simp);simpa using this
   rcases Vl.1 hy with rfl|hy
   ·exact hz
   ·exact Iq hz ((Wd.1 ht).1 y hy)
def Z1a {w:Wld} (h:Ov w=true) (hn:∀ n∈w.2.2.1,DB n.2.1) (hb:∀ x∈w.2.2.2.2.1,Ax x.2.1.2.2):WO w:=by
 unfold Ov at h;simp only[Va]at h;obtain⟨h1,h2,h3,h4,h5⟩:=h;unfold O8 at h2;rw[Va,beq_iff_eq,Wg]at h2;obtain⟨hl,h2⟩:=h2;have hd:=(D7.1 (Bp.1 h1).1).2.2
 have hnode:∀ j,j<w.2.2.1.length→(w.2.2.1.getD j Bb).1=(w.1.getD j Kg).1∧J0 (w.2.2.1.getD j Bb)=true:=λ j hj=>by
  have:=h2 j (Zf.2 hj);rwa [Va,beq_iff_eq]at this
 unfold R2a at h4;rw[Va,Wg,decide_eq_true_iff]at h4;unfold Py at h5;rw[Wg]at h5
 have hsp:∀ j,j<w.2.2.2.2.2.length→Bc (w.2.2.2.2.2.getD j Ki)=true∧(j=0∨tlt (w.2.2.2.2.2.getD (j-1) Ki) (w.2.2.2.2.2.getD j Ki)=true):=λ j hj=>by
  have:=h5 j (Zf.2 hj);rwa [Va,Zp,decide_eq_true_iff]at this
 have hx:∀ x∈w.2.2.2.2.1,Bc x.1=true∧Dw x.2.1=true∧sle w.2.2.2.1 x.2.1.1=false:=λ x hx=>by
  have:=h4.1 x hx;unfold F3a at this;rwa [Va,Va,Vy]at this
 refine⟨h1,?_,⟨by omega,λ n hm=>?_⟩,h3,by omega,λ x hm=>⟨(hx x hm).1,(hx x hm).2.1,hb x hm⟩,λ x hm=>(hx x hm).2.2,Z0a (λ j h0 hj=>?_),λ s hs=>?_⟩
 ·refine Cgb (by rw[Vz,Vz];omega) (λ j a b=>?_);rw[Vz]at a b;have:=(hnode j a).1;rw[Vb,Vb,Ve a,Ve b]at this;rw[Bpb,Bpb];exact this
 ·obtain⟨j,hj,rfl⟩:=Yq.1 hm;have:=(hnode j hj).2;rw[Vb,Ve hj]at this;exact⟨this,hn _ hm⟩
 ·rcases (hsp j hj).2 with h|h
  ·omega
  ·exact h
 ·obtain⟨j,hj,rfl⟩:=Yq.1 hs;have:=(hsp j hj).1;rwa [Vb,Ve hj]at this

def Nza (w:Wld) (i t:Int) (hr:Gw w.2.1 w.1=true) (hi:inR i 0 ((w.1.length:Int)-1)=true):Tot (λ k=>Cd k w i t) (λ r=>r=Us w i t):=by
 unfold Cd Us;rw[hi];simp only[Ku,Vt];cases h2:inR t 1 1000
 ·exact Zja rfl (Zga rfl)
 refine Zia rfl ?_;obtain⟨i0,i1⟩:=Dl.1 hi;obtain⟨w0,w1⟩:=Dl.1 h2;simp (disch:=omega) only [dT];have hg:=Sa (r:=w.2.1) hr (i:=i.toNat) (by omega) w0 w1;refine Zsa (N3a (r:=w.2.1) (l:=wgt w.1 i.toNat t) hg) ?_;refine Zga ?_;rw[decide_eq_true (show (Cpa w.2.1 (wgt w.1 i.toNat t)).2≥0 from (S9 hg).2.2.2)];rfl
def O0a (w:Wld) (e:Evt) (he:Y5a e) (h:WO w) (hsl:w.2.2.2.2.2.length≤2000000) (h12:e.1≠1∧e.1≠2):Tot (λ k=>Au k w e) (λ r=>r=doW w e):=by
 have hr:=h.ring;have hn:=h.ns;have hnl:=hn.1;have hlen:=h.nlen;obtain⟨he1,he2,he3,he4⟩:=he;unfold Au doW;rw[w64 (n:=(w.2.2.1.length:Int)-1) (by omega) (by omega),show (e.1==1)=false from beq_eq_false_iff_ne.2 h12.1,show (e.1==2)=false from beq_eq_false_iff_ne.2 h12.2,cond_false,cond_false];simp only[Ku,Vt]
 cases h1:inR e.2.1 0 ((w.2.2.1.length:Int)-1) with
 |false=>
  refine Zja rfl (Zga ?_)
  have:(Us w e.2.1 e.2.2.2.2.1)=(false,w):=by
   unfold Us;rw[← hlen,h1];rfl
  rw[this]
  cases e.1==3||(e.1==4||(e.1==5||(e.1==6||(e.1==7||e.1==8))))<;>cases e.1==9<;>rfl
 |true=>
  obtain⟨i0,i1⟩:=Dl.1 h1;obtain⟨i,hei⟩:∃ i:Nat,e.2.1=(i:Int):=⟨e.2.1.toNat,by omega⟩
  have hi:i<w.2.2.1.length:=by omega
  have hni:=hn.get hi;have e0:w.2.2.1.getD i ((0:Int),(([],[]),([],[])))=w.2.2.1.getD i Bb:=rfl;refine Zia rfl ?_;rw[hei,Vj]
  cases c3:e.1==3 with
  |true=>
   refine Zja rfl (Zsa (Rga w i _ _ hr hn hi) ?_);exact Zga (by unfold Mj;rw[c3];rfl)
  |false=>
   refine Zia rfl ?_
   cases c4:e.1==4 with
   |true=>
    refine Zja rfl (Zsa (Nxa w i _ (Ka hr) hn hi) ?_);exact Zga (by unfold Mj;rw[c3,c4];rfl)
   |false=>
    refine Zia rfl ?_
    cases c5:e.1==5 with
    |true=>
     refine Zja rfl (Zsa (Nya w i _ (Ka hr) hn hi) ?_);exact Zga (by unfold Mj;rw[c3,c4,c5];rfl)
    |false=>
     refine Zia rfl ?_
     cases c6:e.1==6 with
     |true=>
      refine Zja rfl ?_;simp (disch:=omega) only [dT,Vj,e0];refine Zsa (Nca _ hni) ?_;exact Zga (by unfold Mj;rw[c3,c4,c5,c6];rfl)
     |false=>
      refine Zia rfl ?_
      cases c7:e.1==7 with
      |true=>
       refine Zja rfl (Zha (Q:=λ r=>r=((i:Int),Hh e.2.2.2.2.2,w)) ?_ ?_)
       ·refine Zpa (L:=λ k j (s:List Bool)=>B7 k (i:Int) s e.2.2.2.2.2 (e.2.2.2.2.2.length:Int) j w) (Q:=λ r=>r=((i:Int),Hh e.2.2.2.2.2,w)) e.2.2.2.2.2.length (λ j s=>s=Hh (e.2.2.2.2.2.take j)) ?_ ?_ 0 [] (Vu _) rfl
        ·rintro s rfl;simp (disch:=omega) only [B7,dF];exact Zga (by rw[Zv])
        ·rintro j s hj rfl next;simp (disch:=omega) only [B7,dT,Vj,w64]
         have hk:(Hh (e.2.2.2.2.2.take j)).length=j:=by unfold Hh;rw[Vz,Vp];omega
         refine Zoa (by rw[hk,Bhb];omega) (next _ ?_);unfold Hh;rw[Yj hj,A1b,Vb,Ve hj];rfl
       ·rintro r rfl;simp (disch:=omega) only [dT,Vj,e0];refine Zsa (Nda _ _ (Z5 hni) (by unfold Hh;rw[Vz];exact he4)) ?_;refine Zga ?_;unfold Mj Nba;rw[c3,c4,c5,c6,c7,hni.1];rfl
      |false=>
       refine Zia rfl ?_
       cases c8:e.1==8 with
       |true=>
        refine Zja rfl ?_;simp (disch:=omega) only [dT,Vj,e0];refine Zsa (F1a _ _ _ (Z5 hni) he3.2 he3.1) ?_
        have hR:Mj w e i=Raa w i e.2.2.1 e.2.2.2.2.1:=by unfold Mj;rw[c3,c4,c5,c6,c7];rfl
        cases hq:(Cha (w.2.2.1.getD i Bb) e.2.2.1 e.2.2.2.2.1).2 with
        |true=>
         refine Zja rfl (Zsa (Pt _ _ (by omega)) ?_);refine Zga ?_;show _=Mj w e i;rw[hR,Xua h.sps];unfold Raa;rw[hq];rfl
        |false=>
         refine Zia rfl (Zga ?_);show _=Mj w e i;rw[hR];unfold Raa;rw[hq,cond_false]
         have:(Cha (w.2.2.1.getD i Bb) e.2.2.1 e.2.2.2.2.1).1=w.2.2.1.getD i Bb:=by
          unfold Cha at hq ⊢
          cases hc:J0 (w.2.2.1.getD i Bb)&&((lkD (w.2.2.1.getD i Bb).2.1 e.2.2.1).2==0&&(Z4 (w.2.2.1.getD i Bb).2.1 e.2.2.1 e.2.2.2.2.1).2) with
          |true=>rw[hc]at hq;cases hq
          |false=>rfl
         rw[this,Vb,Ve hi,Wh,Bkb]
       |false=>
        refine Zia rfl ?_
        cases c9:e.1==9 with
        |true=>
         refine Zja rfl (Zsa (Nza w _ _ hr (by rw[← hlen,← hei];exact h1)) ?_);exact Zga rfl
        |false=>exact Zia rfl (Zga rfl)
def Vfa (w:Wld) (e:Evt) (he:Y5a e) (h:WO w) (hsl:w.2.2.2.2.2.length≤2000000):Tot (λ k=>E5 k w e) (λ r=>r=doW w e):=by
 have answer:∀ (q:Int×Wld),Tot (λ _=>cond (q.1 != 2) (some (q.1 != 3,q.2)) (some (false,q.2))) (λ r=>r=Noa q):=by
  intro q;unfold Noa
  cases q.1 != 2<;>exact Zga rfl
 unfold E5
 cases c1:e.1==1 with
 |true=>
  rw[Hw _ (by have:=he.2.1;omega)];simp only[Vt];refine Zja rfl (Zsa (Fda w e.2.2.1 ((0,0,0),false,e.2.2.2.1) e.2.2.2.2.1 e.2.2.2.2.2 h.ring h.ns h.clk he.1 (λ h=>by cases h) h.wlen) ?_);unfold doW;rw[c1];exact answer _
 |false=>
  refine Zia rfl ?_
  cases c2:e.1==2 with
  |true=>
   refine Zja rfl (Zsa (Fda w e.2.2.1 ((0,0,0),true,[]) e.2.2.2.2.1 e.2.2.2.2.2 h.ring h.ns h.clk he.1 (λ _=>rfl) h.wlen) ?_);unfold doW;rw[c1,c2];exact answer _
  |false=>
   refine Zia rfl (Zsa (O0a w e he h hsl ⟨beq_eq_false_iff_ne.1 c1,beq_eq_false_iff_ne.1 c2⟩) ?_);exact Zga rfl

def Ffa (w:Wld) (s:ByteArray) (f:Fil) (t:Int) (rc:List Int):(ask w s f t rc).1=0∨(ask w s f t rc).1=1∨(((ask w s f t rc).1=2∨(ask w s f t rc).1=3)∧(ask w s f t rc).2=w):=by
 unfold ask;cases !(Bc s)
 case true=>exact .inr (.inr ⟨.inl rfl,rfl⟩)
 rw[cond_false];cases decide ((f.2.2.length:Int) > 200)
 case true=>exact .inr (.inr ⟨.inl rfl,rfl⟩)
 rw[cond_false];cases !(inR t 0 1000000000)
 case true=>exact .inr (.inr ⟨.inl rfl,rfl⟩)
 rw[cond_false];cases (w.2.2.2.2.1.length:Int)==200
 case true=>exact .inr (.inr ⟨.inr rfl,rfl⟩)
 rw[cond_false];cases (I3 w.2.2.2.1 t 0).1==w.2.2.2.1.1&&((I3 w.2.2.2.1 t 0).2.1==w.2.2.2.1.2.1&&(I3 w.2.2.2.1 t 0).2.2==w.2.2.2.1.2.2)
 case true=>exact .inr (.inr ⟨.inr rfl,rfl⟩)
 rw[cond_false];unfold O9
 cases decide ((wrN (w.1,w.2.1,w.2.2.1,I3 w.2.2.2.1 t 0,w.2.2.2.2) s (I3 w.2.2.2.1 t 0,f.2) rc).2.2≥quo (w.1,w.2.1,w.2.2.1,I3 w.2.2.2.1 t 0,w.2.2.2.2).2.1.1) with
 |true=>exact .inl rfl
 |false=>exact .inr (.inl rfl)
def X5 {w:Wld} {s:ByteArray} {f:Fil} {t:Int} {rc:List Int} (h:(Noa (ask w s f t rc)).1=false):(Noa (ask w s f t rc)).2=w:=by
 have key:=Ffa w s f t rc;unfold Noa at h ⊢;generalize ask w s f t rc=q at *;rcases key with k|k|⟨k|k,e⟩
 ·rw[k]at h;cases h
 ·rw[k]at h;cases h
 ·rw[k];exact e
 ·rw[k];exact e
def Fga {w:Wld} {e:Evt} {i:Nat} (h:(Mj w e i).1=false):(Mj w e i).2=w:=by
 unfold Mj at h ⊢
 cases h3:e.1==3 with
 |true=>
  rw[h3,cond_true]at h;rw[cond_true];unfold A9a at h ⊢
  cases hl:(lkD (w.2.2.1.getD i Bb).2.1 e.2.2.1).2 != 0 with
  |true=>rfl
  |false=>rw[hl]at h;cases h
 |false=>
  rw[h3,cond_false]at h;rw[cond_false]
  cases h4:e.1==4 with
  |true=>
   rw[h4,cond_true]at h;rw[cond_true];unfold Cwa at h ⊢
   cases hl:((w.2.2.1.getD i Bb).2.2.1.length:Int)==0 with
   |true=>rfl
   |false=>rw[hl]at h;cases h
  |false=>
   rw[h4,cond_false]at h;rw[cond_false]
   cases h5:e.1==5 with
   |true=>
    rw[h5,cond_true]at h;rw[cond_true];unfold Cxa at h ⊢
    cases hl:((w.2.2.1.getD i Bb).2.2.2.length:Int)==0 with
    |true=>rfl
    |false=>rw[hl]at h;cases h
   |false=>
    rw[h5,cond_false]at h;rw[cond_false];cases h6:e.1==6
    case true=>rw[h6]at h;cases h
    rw[h6,cond_false]at h;rw[cond_false];cases h7:e.1==7
    case true=>rw[h7]at h;cases h
    rw[h7,cond_false]at h;rw[cond_false];unfold Raa at h ⊢
    cases hl:(Cha (w.2.2.1.getD i Bb) e.2.2.1 e.2.2.2.2.1).2 with
    |true=>rw[hl]at h;cases h
    |false=>rfl
def O1a {w:Wld} {e:Evt} (hr:Gw w.2.1 w.1=true) (h:(doW w e).1=false):(doW w e).2=w:=by
 unfold doW at h ⊢;cases h1:e.1==1
 case true=>rw[h1,cond_true]at h;rw[cond_true];exact X5 h
 rw[h1,cond_false]at h;rw[cond_false];cases h2:e.1==2
 case true=>rw[h2,cond_true]at h;rw[cond_true];exact X5 h
 rw[h2,cond_false]at h;rw[cond_false]
 cases h3:e.1==3||(e.1==4||(e.1==5||(e.1==6||(e.1==7||e.1==8)))) with
 |true=>
  rw[h3,cond_true]at h;rw[cond_true]
  cases hi:inR e.2.1 0 ((w.2.2.1.length:Int)-1) with
  |true=>rw[hi,cond_true]at h;rw[cond_true];exact Fga h
  |false=>rfl
 |false=>
  rw[h3,cond_false]at h;rw[cond_false]
  cases h9:e.1==9 with
  |true=>
   rw[h9,cond_true]at h;rw[cond_true];unfold Us at h ⊢;cases a1:inR e.2.1 0 ((w.1.length:Int)-1)
   ·rfl
   cases a2:inR e.2.2.2.2.1 1 1000
   ·rfl
   rw[a1,a2]at h;obtain⟨i0,i1⟩:=Dl.1 a1;obtain⟨w0,w1⟩:=Dl.1 a2;have:=(S9 (Sa hr (i:=e.2.1.toNat) (by omega) w0 w1)).2.2.2;exact absurd this (of_decide_eq_false h)
  |false=>rfl

def WIm.wo {m:Nat} {w:Wld} (h:WIm m w) (hk:Ov w=true):WO w:=Z1a hk (λ n hn=>(h.2.2.1.2 n hn).1.2) (λ x hx=>(h.2.2.2.1.2 x hx).2.2)
def WO.wim {w:Wld} (h:WO w) {m:Nat} (h2:200≤m) (hs:w.2.2.2.2.2.length≤m):WIm m w:=
 ⟨Ka h.ring,by have:=h.dlen;omega,⟨h.ns.1,λ n hn=>Z5 (h.ns.2 n hn)⟩,⟨by have:=h.wlen;omega,λ x hx=>⟨Hb (h.wok x hx).1,by have:=(Ha.1 (h.wok x hx).2.1).2.1;omega,(h.wok x hx).2.2⟩⟩,hs,λ s hs=>Hb (h.spn s hs)⟩
def Q1 {m:Nat} {w:Wld} (h:WIm m w) (hm:m≤2000000):Tot (λ k=>Aq k w) (λ r=>r=w):=by
 obtain⟨h1,h2,⟨h3,h4⟩,⟨h5,h6⟩,h7,h8⟩:=h;unfold Aq;refine Zoa (by rw[Vs];omega) (Zsa (Rd w.2.1 h1) ?_);refine Zoa (by rw[Vs];omega) ?_;rw[Wk,Wk];refine Zha (Q:=λ r=>r=(w,Oga,(w.1,w.2.1,w.2.2.1,w.2.2.2.1,[],w.2.2.2.2.2))) ?_ ?_
 ·refine Zpa (L:=λ k i (s:List Nod)=>Co k w.2.2.1 (w.2.2.1.length:Int) i w Oga (w.1,w.2.1,s,w.2.2.2.1,[],w.2.2.2.2.2)) (Q:=λ r=>r=(w,Oga,(w.1,w.2.1,w.2.2.1,w.2.2.2.1,[],w.2.2.2.2.2))) w.2.2.1.length (λ j s=>s=w.2.2.1.take j) ?_ ?_ 0 [] (Vu _) rfl
  ·rintro s rfl;simp (disch:=omega) only [Co,dF];exact Zga (by rw[Zv])
  ·rintro j s hj rfl next;have hm:=h4 _ (A3 (d:=Bb) hj);have e0:w.2.2.1.getD j ((0:Int),(([],[]),([],[])))=w.2.2.1.getD j Bb:=rfl
   have hl:(w.2.2.1.take j).length=j:=by rw[Vp];omega
   simp (disch:=omega) only [Co,dT,Vj,w64,e0];refine Zsa (I9 _ hm) ?_;refine Zoa (by rw[hl];simp only[Vh,Vs];omega) (next _ ?_);rw[Yj hj,Vb,Ve hj];rfl
 ·rintro r rfl;refine Zha (Q:=λ r=>r=(Oga,w)) ?_ (by rintro r rfl;exact Zga rfl);refine Zpa (L:=λ k i (s:List Wri)=>Cn k w.2.2.2.2.1 (w.2.2.2.2.1.length:Int) i Oga (w.1,w.2.1,w.2.2.1,w.2.2.2.1,s,w.2.2.2.2.2)) (Q:=λ r=>r=(Oga,w)) w.2.2.2.2.1.length (λ j s=>s=w.2.2.2.2.1.take j) ?_ ?_ 0 [] (Vu _) rfl
  ·rintro s rfl;simp (disch:=omega) only [Cn,dF];exact Zga (by rw[Zv])
  ·rintro j s hj rfl next;have hm:=(h6 _ (A3 (d:=A5a) hj)).2.1;have e0:w.2.2.2.2.1.getD j ((⟨#[]⟩:ByteArray),((((0:Int),((0:Int),(0:Int))),(false,[])),false))=w.2.2.2.2.1.getD j A5a:=rfl
   have hl:(w.2.2.2.2.1.take j).length=j:=by rw[Vp];omega
   simp (disch:=omega) only [Cn,dT,Vj,w64,e0,Rg (f:=(w.2.2.2.2.1.getD j A5a).2.1) (by omega),Vt];refine Zoa (by rw[hl];simp only[Vh,Vs];omega) (next _ ?_);rw[Yj hj,Vb,Ve hj];rfl
def doA (w:Wld) (e:Evt):Wld×Bool:=bif Ov w then ((doW w e).2,(doW w e).1) else (w,false)
def O2a {m:Nat} {w:Wld} {e:Evt} (h:WIm m w) (hm:m≤1999000) (he:Y5a e):Tot (λ k=>Jo k w e) (λ r=>r=doA w e):=by
 have hw:=h.win (by omega);have hsl:=h.2.2.2.2.1;unfold Jo doA;refine Zha (Q1 h (by omega)) ?_;rintro r rfl;refine Zha (U5 r hw) ?_;rintro b rfl
 cases hk:Ov r with
 |false=>
  refine Zja rfl (Zha (Q1 h (by omega)) ?_);rintro _ rfl;exact Zga rfl
 |true=>
  have ho:=h.wo hk;refine Zia rfl (Zha (Vfa r e he ho (by omega)) ?_);rintro _ rfl;cases hc:(doW r e).1
  case true=>exact Zia rfl (Zga rfl)
  refine Zja rfl (Zha (Q1 h (by omega)) ?_);rintro w rfl;exact Zga (by rw[cond_true,O1a ho.ring hc])

def Oha (s:ByteArray) (a:Bool×Fil) (n:Nod):Bool×Fil:=bif (lkD n.2.1 s).2==0 then (bif !a.1||sle a.2.1 (lkD n.2.1 s).1.1 then (true,(lkD n.2.1 s).1) else a) else a
def lat (ns:List Nod) (s:ByteArray):Bool×Fil:=ns.foldl (Oha s) (false,Epa)
def D0a {s:ByteArray} {a:Bool×Fil} {n:Nod} (h:a.1=true∨((lkD n.2.1 s).2==0)=true):(Oha s a n).1=true:=by
 unfold Oha
 cases hc:(lkD n.2.1 s).2==0 with
 |false=>
  rw[hc]at h;rcases h with h|h
  ·exact h
  ·cases h
 |true=>
  rw[cond_true]
  cases ha:a.1 with
  |false=>rfl
  |true=>cases hs:sle a.2.1 (lkD n.2.1 s).1.1<;>simp[ha]
def Aaa {s:ByteArray}:∀ (ns:List Nod) (a:Bool×Fil),(a.1=true∨∃ n∈ns,((lkD n.2.1 s).2==0)=true)→(ns.foldl (Oha s) a).1=true
 |[],a,h=>by
  rcases h with h|⟨n,hn,_⟩
  ·exact h
  ·cases hn
 |n::ns,a,h=>by
  rw[Zc];refine Aaa ns _ ?_;rcases h with h|⟨m,hm,hg⟩
  ·exact .inl (D0a (.inl h))
  ·rcases Vl.1 hm with rfl|hm
   ·exact .inl (D0a (.inr hg))
   ·exact .inr ⟨m,hm,hg⟩
def Qz (w:Wld) (hw:WIn w) (s:ByteArray):Tot (λ k=>Bv k w s) (λ r=>r=((lat w.2.2.1 s).2,(lat w.2.2.1 s).1)):=by
 obtain⟨_,_,⟨h1,h2⟩,_⟩:=hw;unfold Bv;refine Zha (Q:=λ r=>r=((lat w.2.2.1 s).1,Epa,(lat w.2.2.1 s).2)) ?_ (by rintro r rfl;exact Zga rfl);refine Zpa (L:=λ k i (a:Bool×Fil)=>Bq k s a.1 w.2.2.1 (w.2.2.1.length:Int) i Epa a.2) (Q:=λ r=>r=((lat w.2.2.1 s).1,Epa,(lat w.2.2.1 s).2)) w.2.2.1.length (λ j a=>(w.2.2.1.drop j).foldl (Oha s) a=lat w.2.2.1 s) ?_ ?_ 0 (false,Epa) (Vu _) rfl
 ·rintro a h;rw[Yk]at h;simp (disch:=omega) only [Bq,dF];exact Zga (by rw[← h];rfl)
 ·rintro j ⟨b,f⟩ hj h next;rw[Bs (d:=Bb) hj,Zc]at h;have nx:=next _ h;have hm:=h2 _ (A3 (d:=Bb) hj);obtain⟨n,en⟩:∃ n:Nod,w.2.2.1.getD j Bb=n:=⟨_,rfl⟩;rw[en]at hm nx;have e0:w.2.2.1.getD j ((0:Int),(([],[]),([],[])))=n:=en;simp (disch:=omega) only [Bq,dT,Vj,w64,e0];refine Zsa (Z3 hm.1.1.1.1.1 hm.1.2.1 s) ?_;unfold Oha at nx;cases hc:(lkD n.2.1 s).2==0
  ·rw[hc]at nx;exact Zia rfl nx
  rw[hc]at nx;refine Zja rfl ?_;cases b
  ·exact Zja rfl nx
  refine Zia rfl ?_;simp only[C9a,Option.bind_some];dsimp only at nx ⊢
  cases hs:sle f.1 (lkD n.2.1 s).1.1 with
  |true=>rw[hs]at nx;exact Zja rfl nx
  |false=>rw[hs]at nx;exact Zia rfl nx

section
open Go
end

def Y6a (w:Wld) (s:ByteArray) (f:Fil) (t:Int) (rc:List Int):Wld×Int:=bif Ov w then ((ask w s f t rc).2,(ask w s f t rc).1) else (w,2)
def Rla {m:Nat} {w:Wld} (h:WIm m w) (hm:m≤1999000) (s:ByteArray) (l:List Int) (t:Int) (rc:List Int) (hs:L8 s) (hl:l.length≤1000000000):Tot (λ k=>Ey k w s l t rc) (λ r=>r=Y6a w s ((0,0,0),false,l) t rc):=by
 have hw:=h.win (by omega);unfold Ey Y6a;refine Zha (Q1 h (by omega)) ?_;rintro r rfl;refine Zha (U5 r hw) ?_;rintro b rfl;cases hk:Ov r
 ·exact Zja rfl (Zga rfl)
 have ho:=h.wo hk;rw[Hw l (by omega)];simp only[Vt];refine Zia rfl (Zha (Fda r s ((0,0,0),false,l) t rc ho.ring ho.ns ho.clk hs (λ c=>by cases c) ho.wlen) ?_);rintro _ rfl;exact Zga rfl

section
open Go
end

section
variable {nm:List ByteArray} {ws:List Wri} {sp:List ByteArray} {d:Dsk} {s:ByteArray} {f:Fil}
end
def Xwa {d:Dsk} {s:ByteArray}:((lkD d s).2 != 0)=(old d s).isNone:=by
 unfold lkD old
 cases gt d.1 s with
 |none=>rfl
 |some b=>cases h:La b<;>simp[h]
def Vga {d:Dsk} {s:ByteArray} {f:Fil} (h:old d s=some f):lkD d s=(f,0):=by
 unfold old at h
 cases hg:gt d.1 s with
 |none=>rw[hg]at h;cases h
 |some b=>rw[hg]at h;exact Lx.2 ⟨b,hg,h⟩
def O3a (id:Int):∀ {ns ms:List Nod} (i:Nat),ms.map (·.1)=ns.map (·.1)→atN ms id i=atN ns id i
 |[],[],_,_=>rfl
 |n::ns,m::ms,i,h=>by
  rw[Ya,Ya,Yf]at h;unfold atN;rw[h.1,O3a id (i+1) h.2]
 |[],_::_,_,h=>by cases h
 |_::_,[],_,h=>by cases h
def Vha {ns ms:List Nod} (h:ms.map (·.1)=ns.map (·.1)) (ids:List Int):whr ms ids=whr ns ids:=by
 unfold whr;congr 1;funext id;exact O3a id 0 h
def Fha (id:Int):∀ (ns:List Nod) (i:Nat),(ns.map (·.1)).Nodup→(atN ns id i).length≤1
 |[],_,_=>Vu _
 |n::ns,i,h=>by
  rw[Ya,Yn]at h;have ih:=Fha id ns (i+1) h.2;unfold atN
  cases hx:n.1==id with
  |false=>exact ih
  |true=>
   have he:atN ns id (i+1)=[]:=by
    refine Bib.2 λ x hx'=>?_;obtain⟨j,h1,h2,_⟩:=(Qv id ns (i+1) x).1 hx';refine h.1 ?_;rw[eq_of_beq hx,← h2];exact Yl (A3 h1)
   rw[cond_true,he];exact Vv _
def O4a {ns:List Nod} (h:(ns.map (·.1)).Nodup):∀ (ids:List Int),(whr ns ids).length≤ids.length
 |[]=>Vu _
 |id::ids=>by
  rw[Se,Vi,Vh];have:=Fha id ns 0 h;have:=O4a h ids;omega
def WO.nodup {w:Wld} (h:WO w):(w.2.2.1.map (·.1)).Nodup:=by
 rw[h.ids];have hp:=(D7.1 (Bp.1 h.ring).1).1;have hq:(w.1.map (·.1)).Pairwise (λ a b=>a<b):=Zr.2 hp;exact hq.imp (λ {a b} hab e=>by omega)
def oN (ns:List Nod) (m:Nat) (t:ByteArray):Option Fil:=old (ns.getD m Bb).2.1 t
def inP (w:Wld) (t:ByteArray) (m:Nat):Bool:=Jj (J7 w t) (m:Int)
def WI.push {w:Wld} (h:WI w) {i:Nat} (hi:i<w.2.2.1.length) (s:ByteArray) (rc:List Int):WI (A9a w i s rc).2:=h.other' (Hka h.wok h.nodes hi h.ring h.ids)

section
variable {α:Type} {bs:Option α→α→α} {le:α→α→Prop} {P:Nat→Bool} {c c':Nat→Option α} {k n:Nat}
end
def NR.trans {ws:List Wri} {sp:List ByteArray} {a b c:List Nod} (h1:NR ws sp a b) (h2:NR ws sp b c):NR ws sp a c:=⟨h2.1,h2.2.1.trans h1.2.1,λ s hs st h=>h2.2.2 s hs st (h1.2.2 s hs st h)⟩
section
variable {w v u:Wld}
end

def NI.rows {ws:List Wri} {sp:List ByteArray} {n:Nod} (h:NI ws sp n):Ga n.2.2.1:=(Iz.1 (Cf.1 h.1.1).2.2.2.1).1
def WI.give {w:Wld} (h:WI w) (m:Nat) (hm:m<w.2.2.1.length):Ga (w.2.2.1.getD m Bb).2.2.1:=(h.nodes _ (A3 (d:=Bb) hm)).rows

def D1a {p zs:List Int} {z:Bool} {l:List Dev} (h:(l.map (·.1)).Nodup):(hoA p zs z l).Nodup:=by
 unfold hoA;exact h.sublist (Bxb.map _)
def O5a:∀ {l:List Dev} {a b:Dev},(l.map (·.1)).Nodup→a∈l→b∈l→a.1=b.1→a=b
 |[],_,_,_,h,_,_=>nomatch h
 |x::l,a,b,hn,ha,hb,e=>by
  rw[Ya,Yn]at hn;rcases Vl.1 ha with ea|ha'
  ·rcases Vl.1 hb with eb|hb'
   ·rw[ea,eb]
   ·exact absurd (by rw[← ea,e];exact Yl hb') hn.1
  ·rcases Vl.1 hb with eb|hb'
   ·exact absurd (by rw[← eb,← e];exact Yl ha') hn.1
   ·exact O5a hn.2 ha' hb' e
def Uu {r:Rng} {l:List Dev} {x:ByteArray} (h:(l.map (·.1)).Nodup) (hp:(Ou r x).Nodup):(Ou r x++Kz r l x).Nodup:=by
 have mem:∀ {z:Bool} {i:Int},i∈hoA (Ou r x) (Ff (Ou r x) l) z l→Jj (Ou r x) i=false∧∃ d∈l,d.1=i∧Jj (Ff (Ou r x) l) d.2.1=z:=by
  intro z i hi;unfold hoA at hi;obtain⟨d,hd,rfl⟩:=Yt.1 hi;obtain⟨h1,h2⟩:=Aqb.1 hd;rw[Va,Vy,beq_iff_eq]at h2;exact⟨h2.1,d,h1,rfl,h2.2⟩
 unfold Kz;rw[Wo,Wo];refine⟨hp,⟨D1a h,D1a h,λ a ha b hb e=>?_⟩,λ a ha b hb e=>?_⟩
 ·subst e;obtain⟨_,d,hd,e1,z1⟩:=mem ha;obtain⟨_,d',hd',e2,z2⟩:=mem hb;rw[O5a h hd hd' (e1.trans e2.symm)]at z1;rw[z1]at z2;cases z2
 ·subst e;rcases Vm.1 hb with hb|hb
  ·have:=(mem hb).1;rw[Jk.2 ha]at this;cases this
  ·have:=(mem hb).1;rw[Jk.2 ha]at this;cases this
def D2a {ns:List Nod} (h:(ns.map (·.1)).Nodup):∀ {ids:List Int},ids.Nodup→(whr ns ids).Nodup
 |[],_=>Csb
 |id::ids,hi=>by
  obtain⟨h1,h2⟩:=Yn.1 hi;rw[Se,Wo];refine⟨?_,D2a h h2,λ a ha b hb e=>?_⟩
  ·have:=Fha id ns 0 h
   match hq:atN ns id 0 with
   |[]=>exact Csb
   |[x]=>exact Akb _ _
   |x::y::l=>rw[hq,Vh,Vh]at this;omega
  ·subst e;obtain⟨j,hj1,hj2,hj3⟩:=(Qv id ns 0 a).1 ha;obtain⟨i,hi1,hi2,hi3⟩:=U6.1 hb
   have:i=j:=by omega
   subst this;rw[hj2]at hi2;exact h1 hi2
def WO.contacts_nodup {w:Wld} (h:WO w) (s:ByteArray):(Bi w s).Nodup:=by
 have hd:(w.1.map (·.1)).Nodup:=by rw[← h.ids];exact h.nodup
 exact D2a h.nodup (Uu hd (Qu h.ring s).1)
def NG.rows {n:Nod} (h:NG n):Ga n.2.2.1:=(Iz.1 (Cf.1 h.1).2.2.2.1).1

section
open Go
end

def Rma {d:Dsk} {s:ByteArray}:((lkD d s).2==0)=(old d s).isSome:=by
 have:=Xwa (d:=d) (s:=s);unfold bne at this
 cases h:(lkD d s).2==0<;>cases h2:old d s<;>simp[h,h2]at this ⊢
section
variable {nm:List ByteArray} {w:Wld}
end

section
open Go
end

section
open Go
end

section
open Go
end

section
open Go
end

def D3a {l:List Dev} {parts reps:Int} {m:Nat} (hm:m<(X4 l parts reps).2.2.1.length):((X4 l parts reps).2.2.1.getD m Bb).2=(([],[]),[],[]):=by
 obtain⟨d,_,e⟩:=Yt.1 (show (X4 l parts reps).2.2.1.getD m Bb∈l.map Ut from A3 hm);rw[← e];rfl

def D4a (l:List Dev) (parts reps:Int) (z:Rng) (hl:H6 l=true) (h0:0≤reps) (h5:reps≤5) (ps:List (List Int)) (hps:ps.length≤100) (hq:∀ q∈ps,q.length≤100):∀ (n:Nat) (p:List Int),p.length+n=reps.toNat→
  Tot (λ k=>Fl k l reps (ps.length:Int) parts (ps.length:Int) reps (p.length:Int) z (reps,ps++[p])) (λ x=>x=(l,reps,parts,(ps.length:Int),z,(reps,ps++[Cma l reps ps n p]))):=by
 intro n
 induction n with
 |zero=>
  intro p hp;refine Tot.succ ?_;simp (disch:=omega) only [Fl,dF];exact Zga rfl
 |succ n ih=>
  intro p hp;refine Tot.succ ?_
  have hrb:RBd (reps,ps++[p]):=⟨by simp only[Vi,Vh,Vs];omega,λ q hq'=>by
   rcases Vm.1 hq' with h|h
   ·have:=hq q h;omega
   ·rw[Vq.1 h];omega⟩
  have hlen:(ps++[p]).length=ps.length+1:=by simp
  simp (disch:=omega) only [Fl,dT,Vj,w64,hlen,Mya,Qsa];refine Zsa (H8a (reps,ps++[p]) p l hrb (by omega) hl) ?_;refine Zoa (by simp only[Vh,Vs];omega) ?_;have:=ih (p++[S7 (reps,ps++[p]) p l]) (by simp only[Vi,Vh,Vs];omega);rw[show (((p++[S7 (reps,ps++[p]) p l]).length:Nat):Int)=(p.length:Int)+1 by simp]at this;exact this
def O6a (l:List Dev) (parts reps:Int) (hll:l.length≤5000000):Tot (λ k=>El k l parts reps) (λ x=>x=build l parts reps):=by
 unfold El build;refine Zsa (S6 l (by omega)) ?_;cases hl:H6 l
 ·exact Zja rfl (Zga rfl)
 simp only[Zk,cond_false,Ku,Vt,Wn];cases hp:inR parts 1 64
 ·exact Zja rfl (Zga rfl)
 refine Zia rfl ?_;cases hr:inR reps 1 5
 ·exact Zja rfl (Zga rfl)
 obtain⟨r1,r2⟩:=Dl.1 hr;obtain⟨p1,p2⟩:=Dl.1 hp;refine Zia rfl ?_;cases hc:decide (reps > (l.length:Int))
 case true=>exact Zja rfl (Zga rfl)
 refine Zia rfl (Zha (Q:=λ x=>x=(((0:Int),([]:List (List Int))),(reps,Jga l reps parts.toNat []))) ?_ (by rintro x rfl;exact Zga rfl));obtain⟨n,rfl⟩:∃ n:Nat,parts=(n:Int):=⟨parts.toNat,by omega⟩;refine Zpa (L:=λ k i (s:Rng)=>Fm k l reps (n:Int) i (0,[]) s) (Q:=λ x=>x=(((0:Int),([]:List (List Int))),(reps,Jga l reps n []))) n (λ j s=>∃ ps,s=(reps,ps)∧ps.length=j∧(∀ q∈ps,q.length≤100)∧Jga l reps (n-j) ps=Jga l reps n []) ?_ ?_ 0 (reps,[]) (Vu _) ⟨[],rfl,rfl,λ q h=>(by cases h),rfl⟩
 ·rintro s ⟨ps,rfl,hps,_,h⟩;rw[B3b]at h;simp (disch:=omega) only [Fm,dF];exact Zga (by rw[← h];rfl)
 ·rintro j s hj ⟨ps,rfl,hps,hq,h⟩ next;simp (disch:=omega) only [Fm,dT];refine Zoa (by simp only[Vh,Vs];omega) ?_;have h9:=D4a l (n:Int) reps (0,[]) hl (by omega) r2 ps (by omega) hq reps.toNat [] (by simp);rw[hps]at h9;refine Zha h9 ?_;rintro x rfl;simp (disch:=omega) only [w64];refine next _ ⟨ps++[Cma l reps ps reps.toNat []],rfl,by rw[Vi,hps];rfl,λ q hq'=>?_,?_⟩
  ·rcases Vm.1 hq' with h'|h'
   ·exact hq q h'
   ·rw[Vq.1 h',Cna,Vs];omega
  ·rw[show n-j=(n-(j+1))+1 by omega]at h;exact h
def Fia (i:Int):Gb i=some (bif inR i 0 20 then (i,([],[]),[],[]) else Bb):=by
 unfold Gb;rw[Ku];simp only[Vt]
 cases inR i 0 20<;>rfl
def D5a (l:List Dev) (parts reps:Int) (hll:l.length≤5000000):Tot (λ k=>Ch k l parts reps) (λ r=>r=bif (build l parts reps).2 then X4 l parts reps else Oga):=by
 unfold Ch;refine Zsa (O6a l parts reps hll) ?_
 cases hb:(build l parts reps).2 with
 |false=>exact Zja rfl (Zga rfl)
 |true=>
 obtain⟨h1,_,_,_⟩:=S8 hb;have h12:=(D7.1 h1).2.2.2;refine Zia rfl (Zoa (by rw[Vs];omega) ?_);rw[Wk,cond_true];refine Zha (Q:=λ r=>r=(Oga,X4 l parts reps)) ?_ (by rintro r rfl;exact Zga rfl);refine Zpa (L:=λ k i (s:List Nod)=>Da k l (l.length:Int) i Oga (l,(build l parts reps).1,s,(0,0,0),[],[])) (Q:=λ r=>r=(Oga,X4 l parts reps)) l.length (λ j s=>s=(l.take j).map Ut) ?_ ?_ 0 [] (Vu _) rfl
 ·rintro s rfl;simp (disch:=omega) only [Da,dF];exact Zga (by rw[Zv];rfl)
 ·rintro j s hj rfl next;have hd:=A3 (d:=Kg) hj;obtain⟨d,ed⟩:∃ d:Dev,l.getD j Kg=d:=⟨_,rfl⟩;rw[ed]at hd;have e0:l.getD j ((0:Int),((0:Int),(0:Int)))=d:=ed
  have e1:l[j]=d:=by rw[← ed,Vb,Ve hj];rfl
  have hid:=(Ir.1 ((D7.1 h1).2.1 d hd)).1;simp (disch:=omega) only [Da,dT,Vj,w64,e0,Fia,Vt]
  have hl:((l.take j).map Ut).length=j:=by rw[Vz,Vp];omega
  rw[Dl.2 hid,cond_true];refine Zoa (by rw[hl];simp only[Vh,Vs];omega) (next _ ?_);rw[Yj hj,A1b,e1];rfl

def Via {cs:List Int} (h:cs.Nodup) {i j:Nat} (hi:i<cs.length) (hj:j<cs.length) (hij:i≠j) (h0:∀ x∈cs,0≤x):(cs.getD i 0).toNat≠(cs.getD j 0).toNat:=λ e=>by
 have a:=h0 _ (A3 (d:=0) hi);have b:=h0 _ (A3 (d:=0) hj)
 have e':cs.getD i 0=cs.getD j 0:=by omega
 rw[Vb,Vb,Ve hi,Ve hj]at e';rw[Wh,Wh]at e';rcases Nat.lt_or_gt_of_ne hij with hl|hl
 ·exact(Yp.1 h i j hi hj hl) e'
 ·exact(Yp.1 h j i hj hi hl) e'.symm

def T7a (i:Int) (s:ByteArray) (f:Fil) (sure:Bool):Nod:=(i,([(s,Hf f)],bif sure then [(s,Hf f)] else []),[],bif sure then [Qr s f] else [])
def J8a (i:Int) {s:ByteArray} {f:Fil} (sure:Bool) (g1:Bc s=true) (g2:Dw f=true):Oz (i,([],[]),[],[]) s f sure=(T7a i s f sure,0):=by
 have e1:wr [] s (Hf f)=[(s,Hf f)]:=rfl
 have e2:wrD ([],[]) s (Hf f)=(([(s,Hf f)],[]),true):=by
  unfold wrD;rw[decide_eq_true (show (Hf f).length≤400 by have:=Z2 f;omega)];rfl
 have e3:sy (([(s,Hf f)],[]):Dsk) s=[(s,Hf f)]:=by
  unfold sy;rw[show gt (([(s,Hf f)],[]):Dsk).1 s=some (Hf f) by rw[Tv,if_pos rfl]];rfl
 have e5:kp1 ([],[]) s f=some ((([(s,Hf f)],[]):Dsk),0):=by
  unfold kp1;rw[e2];rfl
 have e6:keep ([],[]) s f sure=(([(s,Hf f)],bif sure then [(s,Hf f)] else []),0):=by
  rw[Tx dg0.1 g1 g2];unfold J8;rw[e5];show kp2 ([],[]) s sure (([(s,Hf f)],[]),0)=_;cases sure
  ·rfl
  ·unfold kp2 syD;rw[e3];rfl
 unfold Oz T7a;dsimp only;rw[e6]
 cases sure<;>rfl
def Hna {i:Int} {s:ByteArray} {f:Fil} {sure:Bool} (g2:Dw f=true) (g3:Ax f.2.2) (t:ByteArray):old (T7a i s f sure).2.1 t=if s=t then some f else none:=by
 unfold T7a old;show (gt [(s,Hf f)] t).bind La=_;rw[Tv]
 by_cases h:s=t
 ·rw[if_pos h,if_pos h,Vt,Pu g2 g3]
 ·rw[if_neg h,if_neg h];rfl
def Vja {R:Int} {rc:List Int} {s:ByteArray} {f:Fil} {cs:List Int} {ns:List Nod} {q g v:Int} {j:Nat} (hq:q<R) (hv:rch rc j=v) (hv0:v≠0) (g1:Bc s=true) (g2:Dw f=true) (he:(ns.getD (cs.getD j 0).toNat Bb).2=(([],[]),[],[])):
  wst R rc s f cs (ns,q,g) j=(ns.set (cs.getD j 0).toNat (T7a (ns.getD (cs.getD j 0).toNat Bb).1 s f (v != 3)),q+1,bif v==1 then g+1 else g):=by
 unfold wst;dsimp only;rw[decide_eq_true hq,hv,cond_true,show (v==0)=false from beq_eq_false_iff_ne.2 hv0,cond_false];have e:ns.getD (cs.getD j 0).toNat Bb=((ns.getD (cs.getD j 0).toNat Bb).1,([],[]),[],[]):=Prod.ext rfl he;generalize ns.getD (cs.getD j 0).toNat Bb=n at *;rw[e,J8a n.1 (v != 3) g1 g2]
 cases v==1<;>rfl
def O7a {cs:List Int} {j:Nat} (hj:j<cs.length) (m:Int):Jj (cs.take (j+1)) m=(Jj (cs.take j) m||cs.getD j 0==m):=by
 rw[Arb,Zp,Jk,Jk,Yj hj,Vm,Vq,beq_iff_eq,Vb,Ve hj,Wh];exact⟨λ h=>h.imp id Eq.symm,λ h=>h.imp id Eq.symm⟩
def O8a {w:Wld} {s:ByteArray} {f:Fil} {rc:List Int} {v:Int} {K:Nat} (hK:w.2.1.1=(K:Int)) (hcs:(Bi w s).Nodup) (hKl:K≤(Bi w s).length) (hv0:v≠0) (hv:∀ j,j<K→rch rc j=v) (g1:Bc s=true) (g2:Dw f=true) (he:∀ m,m<w.2.2.1.length→(w.2.2.1.getD m Bb).2=(([],[]),[],[])):
  (wrN w s f rc).2=((K:Int),bif v==1 then (K:Int) else 0)∧(wrN w s f rc).1.length=w.2.2.1.length∧
  ∀ m,m<w.2.2.1.length→(wrN w s f rc).1.getD m Bb=bif Jj ((Bi w s).take K) (m:Int) then T7a (w.2.2.1.getD m Bb).1 s f (v != 3) else w.2.2.1.getD m Bb:=by
 have hat:=λ x=>Jf (w:=w) (s:=s) (x:=x);unfold wrN;generalize Bi w s=cs at *;have h0:∀ x∈cs,0≤x:=λ x hx=>(hat x hx).1
 have hN:∀ j,j<cs.length→(cs.getD j 0).toNat<w.2.2.1.length:=λ j hj=>by have:=hat _ (A3 (d:=0) hj);omega
 have key:∀ j,j≤K→(run (wst w.2.1.1 rc s f cs) j (w.2.2.1,0,0)).2=((j:Int),bif v==1 then (j:Int) else 0)∧(run (wst w.2.1.1 rc s f cs) j (w.2.2.1,0,0)).1.length=w.2.2.1.length∧
   ∀ m,m<w.2.2.1.length→(run (wst w.2.1.1 rc s f cs) j (w.2.2.1,0,0)).1.getD m Bb=bif Jj (cs.take j) (m:Int) then T7a (w.2.2.1.getD m Bb).1 s f (v != 3) else w.2.2.1.getD m Bb:=by
  intro j
  induction j with
  |zero=>intro _;exact⟨by cases v==1<;>rfl,rfl,λ m _=>rfl⟩
  |succ j ih=>
   intro hj;obtain⟨i1,i2,i3⟩:=ih (by omega);rw[Jl];generalize run (wst w.2.1.1 rc s f cs) j (w.2.2.1,0,0)=a at *;obtain⟨ns,q,g⟩:=a;dsimp only at i1 i2 i3;obtain⟨rfl,rfl⟩:=Prod.mk.inj i1;have hp:=hN j (by omega);have hc0:=h0 _ (A3 (d:=0) (show j<cs.length by omega))
   have hni:Jj (cs.take j) (((cs.getD j 0).toNat:Nat):Int)=false:=by
    cases hh:Jj (cs.take j) (((cs.getD j 0).toNat:Nat):Int) with
    |false=>rfl
    |true=>
     rw[Jk,show (((cs.getD j 0).toNat:Nat):Int)=cs.getD j 0 by omega]at hh;obtain⟨i,hi,e⟩:=Yq.1 hh;rw[Vp]at hi;rw[Aub]at e;exact absurd (show (cs.getD i 0).toNat=(cs.getD j 0).toNat by rw[← e,Vb (i:=i),Ve (by omega),Wh]) (Via hcs (by omega) (by omega) (by omega) h0)
   have hcur:=i3 _ hp;rw[hni,cond_false]at hcur;rw[Vja (v:=v) (by rw[hK];omega) (hv j (by omega)) hv0 g1 g2 (by rw[hcur];exact he _ hp)]
   refine⟨by cases v==1<;>simp,by show (ns.set _ _).length=_;rw[Wa];exact i2,λ m hm=>?_⟩
   show (ns.set (cs.getD j 0).toNat _).getD m Bb=_;rw[Ib (show m<ns.length by omega),O7a (by omega)]
   by_cases e:(cs.getD j 0).toNat=m
   ·rw[if_pos e,hcur,e,show (cs.getD j 0==(m:Int))=true from beq_iff_eq.2 (by omega),Bool.or_true];rfl
   ·rw[if_neg e,i3 m hm,show (cs.getD j 0==(m:Int))=false from beq_eq_false_iff_ne.2 (by omega),Ctb]
 obtain⟨k1,k2,k3⟩:=key K (Vv _)
 have hst:=R9a (st:=wst w.2.1.1 rc s f cs) (a:=(w.2.2.1,(0:Int),(0:Int))) (j:=K) (n:=cs.length) hKl (λ i=>by
  have hs0:∀ a:List Nod×Int×Int,a.2.1=(K:Int)→wst w.2.1.1 rc s f cs a i=a:=λ a ha=>by
   unfold wst;rw[ha,hK,decide_eq_false (show ¬ (K:Int)<(K:Int) by omega)];rfl
  exact hs0 _ (by rw[k1]))
 rw[hst];exact⟨k1,k2,k3⟩
def Vka {ns:List Nod} {id:Int} (h:id∈ns.map (·.1)):1≤(atN ns id 0).length:=by
 obtain⟨n,hn,rfl⟩:=Yt.1 h;obtain⟨j,hj,e⟩:=Yq.1 hn;have:=(Qv n.1 ns 0 ((0+j:Nat):Int)).2 ⟨j,hj,by rw[Vb,Ve hj,Wh,e],rfl⟩;exact A3b this
def O9a {ns:List Nod}:∀ {ids:List Int},(∀ i∈ids,i∈ns.map (·.1))→ids.length≤(whr ns ids).length
 |[],_=>Vu _
 |i::ids,h=>by
  rw[Se,Vi,Vh];have:=Vka (h i Yd);have:=O9a (ids:=ids) (λ x hx=>h x (Vg _ hx));omega
def WO.prims {w:Wld} (h:WO w) (s:ByteArray):((J7 w s).length:Int)=w.2.1.1∧(Bi w s).take (J7 w s).length=J7 w s∧(J7 w s).length≤(Bi w s).length:=by
 have p:=Qu h.ring s;have h1:=O4a h.nodup (Ou w.2.1 s);have h2:=O9a (ns:=w.2.2.1) (ids:=Ou w.2.1 s) (λ i hi=>by rw[h.ids];exact Ky.1 (p.2.2 i hi));have e:Bi w s=J7 w s++whr w.2.2.1 (Kz w.2.1 w.1 s):=V4a _ _ _;refine⟨?_,by rw[e,B8b  rfl],by rw[e,Vi];omega⟩;have:=p.2.1;unfold J7;omega

section
open Go
end

def Fja {s:ByteArray}:∀ (ns:List Nod) (a:Bool×Fil),ns.foldl (Oha s) a=a∨∃ n∈ns,((lkD n.2.1 s).2==0)=true∧ns.foldl (Oha s) a=(true,(lkD n.2.1 s).1)
 |[],a => .inl rfl
 |n::ns,a=>by
  rw[Zc];rcases Fja ns (Oha s a n) with e|⟨m,hm,h1,h2⟩
  ·rw[e];unfold Oha
   cases hc:(lkD n.2.1 s).2==0 with
   |false=>exact .inl rfl
   |true=>
    rw[cond_true]
    cases !a.1||sle a.2.1 (lkD n.2.1 s).1.1 with
    |false=>exact .inl rfl
    |true=>exact .inr ⟨n,Yd,hc,rfl⟩
  ·exact .inr ⟨m,Vg _ hm,h1,h2⟩
def Xxa {ns:List Nod} {s:ByteArray} (h:∀ m,m<ns.length→oN ns m s=none):lat ns s=(false,Epa):=by
 rcases Fja (s:=s) ns (false,Epa) with e|⟨n,hn,g1,_⟩
 ·exact e
 ·obtain⟨j,hj,rfl⟩:=Yq.1 hn
  have e:ns[j]=ns.getD j Bb:=by rw[Vb,Ve hj];rfl
  rw[e,Rma]at g1;have:=h j hj;unfold oN at this;rw[this]at g1;cases g1

def Oaa {l:List Dev} {p n:Int} {s:ByteArray} {d:List Int} {rc:List Int} (hs:Bc s=true) (hd:d.length≤200):
  ask (X4 l p n) s ((0,0,0),false,d) 5 rc=O9 (l,(build l p n).1,l.map Ut,(5,0,0),[],[]) s ((5,0,0),false,d) rc:=by
 unfold ask;rw[hs];dsimp only;rw[decide_eq_false (show ¬ (d.length:Int) > 200 by omega)];rfl
def WO.inP_at {w:Wld} (h:WO w) {s:ByteArray} {j:Nat} (hj:j<(Bi w s).length):inP w s ((Bi w s).getD j 0).toNat=decide ((j:Int)<w.2.1.1):=by
 obtain⟨p1,p2,p3⟩:=h.prims s;have hn:=h.contacts_nodup s;have h0:=(Jf (A3 (d:=0) hj)).1;unfold inP;rw[show ((((Bi w s).getD j 0).toNat:Nat):Int)=(Bi w s).getD j 0 by omega,← p2,Arb,Jk,decide_eq_true_iff];generalize (Bi w s)=cs at *;generalize (J7 w s).length=K at *;constructor
 ·intro hm;obtain⟨i,hi,e⟩:=Yq.1 hm;rw[Vp]at hi;rw[Aub,Vb,Ve hj,Wh]at e
  have hji:i=j:=C7b λ c=>by
   rcases Nat.lt_or_gt_of_ne c with hl|hl
   ·exact(Yp.1 hn i j (by omega) hj hl) e
   ·exact(Yp.1 hn j i hj (by omega) hl) e.symm
  omega
 ·intro hlt;refine Yq.2 ⟨j,by rw[Vp];omega,?_⟩;rw[Aub,Vb,Ve hj,Wh]

def Oy (l:List Dev) (p n:Int) (s:ByteArray) (d:List Int) (rc:List Int):Wld:=(ask (X4 l p n) s ((0,0,0),false,d) 5 rc).2
section
variable {l:List Dev} {p n:Int} {s:ByteArray} {d rc:List Int}
def Aba (hd:d.length≤200):Dw ((5,0,0),false,d)=true:=Ha.2 ⟨rfl,hd,λ c=>by cases c⟩
def Oba (hb:(build l p n).2=true) (hs:Bc s=true) (hd:d.length≤200) (hdb:Ax d):
  WI (Oy l p n s d rc)∧(Oy l p n s d rc).2.1.1=n∧(Oy l p n s d rc).1=l∧(Oy l p n s d rc).2.1=(build l p n).1∧(Oy l p n s d rc).2.2.1.length=l.length∧Bi (Oy l p n s d rc) s=Bi (X4 l p n) s∧(Oy l p n s d rc).2.2.2.2.2=[]:=by
 have hw:=Fca hb;have h1:=hw.ask (s:=s) (f:=((0,0,0),false,d)) (t:=5) (rc:=rc) hdb (λ c=>by cases c);have hr:=(S8 hb).2.2.1;unfold Oy;have hno:=T6a (w:=((l,(build l p n).1,l.map Ut,(5,0,0),[],[]):Wld)) (s:=s) (f:=((5,0,0),false,d)) (rc:=rc) hw.ns hs (Aba hd)
 have hl:(wrN (l,(build l p n).1,l.map Ut,(5,0,0),[],[]) s ((5,0,0),false,d) rc).1.length=l.length:=by
  have:=congrArg length hno.2;rw[Vz,Vz]at this;rw[this];exact Vz ..
 refine⟨h1,?_⟩;rw[Oaa hs hd];exact⟨hr,rfl,rfl,hl,Vha hno.2 _,rfl⟩
def Hoa {v:Int} (hb:(build l p n).2=true) (hs:Bc s=true) (hd:d.length≤200) (hdb:Ax d) (hv0:v≠0) (hv:∀ j:Nat,(j:Int)<n→rch rc j=v):
  (ask (X4 l p n) s ((0,0,0),false,d) 5 rc).1=(bif v==1 then 0 else 1)∧(Oy l p n s d rc).2.2.2.2.1=[(s,((5,0,0),false,d),v==1)]∧
  ∀ m,m<(Oy l p n s d rc).2.2.1.length→(Oy l p n s d rc).2.2.1.getD m Bb=bif inP (Oy l p n s d rc) s m then T7a ((Oy l p n s d rc).2.2.1.getD m Bb).1 s ((5,0,0),false,d) (v != 3) else (((Oy l p n s d rc).2.2.1.getD m Bb).1,([],[]),[],[]):=by
 have hw:=Fca hb;obtain⟨hd1,hring,hr,_⟩:=S8 hb;obtain⟨i1,i2,_,i4,i5,i6,_⟩:=Oba (rc:=rc) hb hs hd hdb;have hR:=(Bp.1 hring).2.1;rw[hr]at hR;obtain⟨q1,q2,q3⟩:=hw.wo.prims s;obtain⟨q1',q2',_⟩:=i1.wo.prims s;have q1r:((J7 (X4 l p n) s).length:Int)=n:=q1.trans hr;have hcn:=hw.wo.contacts_nodup s;obtain⟨k1,k2,k3⟩:=O8a (w:=((l,(build l p n).1,l.map Ut,(5,0,0),[],[]):Wld)) (s:=s) (f:=((5,0,0),false,d)) (rc:=rc) (v:=v) (K:=(J7 (X4 l p n) s).length) (by rw[q1r];exact hr) hcn q3 hv0 (λ j hj=>hv j (by omega)) hs (Aba hd) (λ m hm=>D3a (l:=l) (parts:=p) (reps:=n) hm)
 have hq:quo n≤n∧1≤quo n:=by unfold quo;omega
 have e:O9 (l,(build l p n).1,l.map Ut,(5,0,0),[],[]) s ((5,0,0),false,d) rc=(bif v==1 then 0 else 1,(l,(build l p n).1,(wrN (l,(build l p n).1,l.map Ut,(5,0,0),[],[]) s ((5,0,0),false,d) rc).1,(5,0,0),[(s,((5,0,0),false,d),v==1)],[])):=by
  unfold O9
  have hdec:decide ((wrN (l,(build l p n).1,l.map Ut,(5,0,0),[],[]) s ((5,0,0),false,d) rc).2.2≥quo (build l p n).1.1)=(v==1):=by
   rw[k1,hr,q1r]
   cases v==1 with
   |true=>exact decide_eq_true hq.1
   |false=>exact decide_eq_false (show ¬ (0:Int)≥quo n by omega)
  dsimp only;rw[hdec];rfl
 have hask:=Oaa (l:=l) (p:=p) (n:=n) (rc:=rc) hs hd
 have hin:∀ m,inP (Oy l p n s d rc) s m=Jj ((Bi (X4 l p n) s).take (J7 (X4 l p n) s).length) (m:Int):=λ m=>by
  unfold inP;rw[← q2',i6];congr 2
  have:((J7 (Oy l p n s d rc) s).length:Int)=n:=by rw[q1',i2]
  omega
 have hf:Oy l p n s d rc=(l,(build l p n).1,(wrN (l,(build l p n).1,l.map Ut,(5,0,0),[],[]) s ((5,0,0),false,d) rc).1,(5,0,0),[(s,((5,0,0),false,d),v==1)],[]):=by
  unfold Oy;rw[hask,e]
 refine⟨by rw[hask,e],by rw[hf],λ m hm=>?_⟩;rw[hin m];rw[i5]at hm;have h3:=k3 m (by show m<(l.map Ut).length;rw[Vz];exact hm);have hnn:=D3a (l:=l) (parts:=p) (reps:=n) (m:=m) (by show m<(l.map Ut).length;rw[Vz];exact hm)
 have hfm:(Oy l p n s d rc).2.2.1.getD m Bb=(wrN (l,(build l p n).1,l.map Ut,(5,0,0),[],[]) s ((5,0,0),false,d) rc).1.getD m Bb:=by rw[hf]
 rw[hfm,h3];have hc:Bi ((l,(build l p n).1,l.map Ut,(5,0,0),[],[]):Wld) s=Bi (X4 l p n) s:=rfl;rw[hc]
 cases Jj ((Bi (X4 l p n) s).take (J7 (X4 l p n) s).length) (m:Int) with
 |true=>rfl
 |false=>exact Prod.ext rfl hnn
def Vla {v:Int} (hb:(build l p n).2=true) (hs:Bc s=true) (hd:d.length≤200) (hdb:Ax d) (hv0:v≠0) (hv:∀ j:Nat,(j:Int)<n→rch rc j=v) {m:Nat} (hm:m<(Oy l p n s d rc).2.2.1.length) (t:ByteArray):
  oN (Oy l p n s d rc).2.2.1 m t=bif inP (Oy l p n s d rc) s m then (if s=t then some ((5,0,0),false,d) else none) else none:=by
 obtain⟨_,_,k⟩:=Hoa (rc:=rc) hb hs hd hdb hv0 hv;unfold oN;rw[k m hm]
 cases inP (Oy l p n s d rc) s m with
 |true=>exact Hna (Aba hd) hdb t
 |false=>rfl
end
def crA (w:Wld) (kp:List Bool) (j:Nat):Wld:=run (λ w i=>wN w (w.2.2.1.set i (crN (w.2.2.1.getD i Bb) kp))) j w
def Uc {w:Wld} (h:WI w) {rc:List Int}:∀ j,j≤w.2.2.1.length→WI (crA w (Hh rc) j)∧(crA w (Hh rc) j).2.2.1.length=w.2.2.1.length∧(crA w (Hh rc) j).2.2.2=w.2.2.2∧
  (∀ m,m<w.2.2.1.length→(crA w (Hh rc) j).2.2.1.getD m Bb=bif decide (m<j) then crN (w.2.2.1.getD m Bb) (Hh rc) else w.2.2.1.getD m Bb)∧
  (j<w.2.2.1.length→∀ x1 x2 x3,doW (crA w (Hh rc) j) (7,(j:Int),x1,x2,x3,rc)=(true,crA w (Hh rc) (j+1)))
 |0,_=>⟨h,rfl,rfl,λ m _=>rfl,λ hj x1 x2 x3=>by
   unfold crA;rw[Jl,R8a];unfold doW Mj;dsimp only;rw[Dl.2 ⟨by omega,by omega⟩]
   rfl⟩
 |j+1,hj=>by
  obtain⟨h1,h2,h3,h4,h5⟩:=Uc h (rc:=rc) j (by omega);have e:=h5 (by omega) ⟨#[]⟩ [] 0
  have hw:WI (crA w (Hh rc) (j+1)):=by
   have:=h1.ev (e:=(7,(j:Int),⟨#[]⟩,[],0,rc)) (λ x hx=>nomatch hx);rw[e]at this;exact this
  have es:crA w (Hh rc) (j+1)=wN (crA w (Hh rc) j) ((crA w (Hh rc) j).2.2.1.set j (crN ((crA w (Hh rc) j).2.2.1.getD j Bb) (Hh rc))):=by
   unfold crA;rw[Jl]
  have hl:(crA w (Hh rc) (j+1)).2.2.1.length=w.2.2.1.length:=by
   rw[es];show ((crA w (Hh rc) j).2.2.1.set _ _).length=_;rw[Wa];exact h2
  refine⟨hw,hl,by rw[es];exact h3,λ m hm=>?_,λ hj' x1 x2 x3=>?_⟩
  ·rw[es];show ((crA w (Hh rc) j).2.2.1.set _ _).getD m Bb=_;rw[Ib (by omega)]
   by_cases e:j=m
   ·subst e;rw[if_pos rfl,h4 j hm,decide_eq_false (show ¬ j<j by omega),decide_eq_true (show j<j+1 by omega)];rfl
   ·rw[if_neg e,h4 m hm]
    by_cases hm':m<j
    ·rw[decide_eq_true hm',decide_eq_true (show m<j+1 by omega)]
    ·rw[decide_eq_false hm',decide_eq_false (show ¬ m<j+1 by omega)]
  ·have es2:crA w (Hh rc) (j+1+1)=wN (crA w (Hh rc) (j+1)) ((crA w (Hh rc) (j+1)).2.2.1.set (j+1) (crN ((crA w (Hh rc) (j+1)).2.2.1.getD (j+1) Bb) (Hh rc))):=by
    unfold crA;rw[Jl]
   rw[es2];generalize crA w (Hh rc) (j+1)=v at *;unfold doW Mj;dsimp only;rw[Dl.2 ⟨by omega,by omega⟩];rfl
def Oca {s:ByteArray} {b:List Int}:Kj ([(s,b)],[]) []=([],[]):=by
 have e:nms (([(s,b)],[]):Dsk)=[s]:=rfl;unfold Kj;rw[e];rfl
def Rna {s:ByteArray} {b:List Int}:Kj ([(s,b)],[]) [true]=([(s,b)],[(s,b)]):=by
 have e:nms (([(s,b)],[]):Dsk)=[s]:=rfl
 have e2:pk [(s,b)] s=some (s,b):=by
  rw[Ura,if_pos (G9.2 rfl)]
 unfold Kj;rw[e]
 have e3:Ot [true] [(s,b)] [] [s] 0=[(s,b)]:=by
  rw[Hda,N5a];show pk1 (pk [(s,b)] s)++[]=_;rw[e2];rfl
 dsimp only;rw[e3];rfl

abbrev M1:ByteArray:=⟨#[100,111,103]⟩
abbrev Nx:List Int:=[119,111,111,102]
abbrev Vza:Fil:=((5,0,0),false,Nx)
def Sg:Bc M1=true:=by decide
def Nv:Ax Nx:=by unfold Ax;decide
def Vma:Dw Vza=true:=Aba (by decide)
def Roa {ns:List Nod} {s:ByteArray} {f:Fil} (h1:∀ m,m<ns.length→∀ o,oN ns m s=some o→o=f) (h2:∃ m,m<ns.length∧oN ns m s=some f):lat ns s=(true,f):=by
 obtain⟨m,hm,ho⟩:=h2;have ht:(lat ns s).1=true:=Aaa (s:=s) ns (false,Epa) (.inr ⟨_,A3 (d:=Bb) hm,by rw[Rma];unfold oN at ho;rw[ho];rfl⟩);rcases Fja (s:=s) ns (false,Epa) with e|⟨n,hn,g1,e⟩
 ·have e':lat ns s=(false,Epa):=e;rw[e']at ht;cases ht
 ·have e':lat ns s=(true,(lkD n.2.1 s).1):=e;obtain⟨j,hj,rfl⟩:=Yq.1 hn;rw[Rma]at g1;obtain⟨o,ho'⟩:=Zh.1 g1;rw[e',Vga ho'];have:=h1 j hj o (by unfold oN;rw[Vb,Ve hj];exact ho');rw[this]
section
variable {l:List Dev} {p:Int} {rc:List Int}
def Rpa (hb:(build l p 2).2=true) (hr:∀ j:Nat,(j:Int)<2→rch rc j=3):
  (ask (X4 l p 2) M1 ((0,0,0),false,Nx) 5 rc).1=1∧WI (Oy l p 2 M1 Nx rc)∧(lat (Oy l p 2 M1 Nx rc).2.2.1 M1).1=true∧
  (lat (crA (Oy l p 2 M1 Nx rc) (Hh []) (Oy l p 2 M1 Nx rc).2.2.1.length).2.2.1 M1).1=false∧
  lat (crA (Oy l p 2 M1 Nx rc) (Hh [1]) (Oy l p 2 M1 Nx rc).2.2.1.length).2.2.1 M1=(true,Vza):=by
 obtain⟨i1,i2,_,i4,i5,i6,_⟩:=Oba (rc:=rc) (d:=Nx) (s:=M1) hb Sg (by decide) Nv;obtain⟨k1,_,k3⟩:=Hoa (rc:=rc) (d:=Nx) (s:=M1) (v:=3) hb Sg (by decide) Nv (by decide) hr;have k4:=λ m hm=>Vla (rc:=rc) (d:=Nx) (s:=M1) (v:=3) hb Sg (by decide) Nv (by decide) hr (m:=m) hm M1;refine⟨k1,i1,?_⟩;generalize Oy l p 2 M1 Nx rc=x at *;have hp:=i1.wo.prims M1;rw[i2]at hp
 have hc:0<(Bi x M1).length:=by omega
 have c0:=Jf (A3 (d:=0) hc);have p0:=i1.wo.inP_at (s:=M1) (j:=0) hc;rw[i2]at p0;have o0:=k4 ((Bi x M1).getD 0 0).toNat (by omega);rw[p0]at o0;obtain⟨_,l2,_,l4,_⟩:=Uc i1 (rc:=[]) x.2.2.1.length (Vv _);obtain⟨_,t2,_,t4,_⟩:=Uc i1 (rc:=[1]) x.2.2.1.length (Vv _)
 have oT:∀ m,m<x.2.2.1.length→oN (crA x (Hh [1]) x.2.2.1.length).2.2.1 m M1=bif inP x M1 m then some Vza else none:=λ m hm=>by
  unfold oN;rw[t4 m hm,decide_eq_true hm,cond_true,k3 m hm]
  cases inP x M1 m with
  |false=>rfl
  |true=>
   show old (Kj ([(M1,Hf Vza)],[]) [true]) M1=some Vza;rw[Rna];exact Hna (i:=0) (sure:=true) Vma Nv M1
 refine⟨?_,?_,?_⟩
 ·exact Aaa (s:=M1) x.2.2.1 (false,Epa) (.inr ⟨_,A3 (d:=Bb) (show ((Bi x M1).getD 0 0).toNat<x.2.2.1.length by omega),by rw[Rma];unfold oN at o0;rw[o0];rfl⟩)
 ·rw[Xxa (λ m hm=>?_)];rw[l2]at hm;unfold oN;rw[l4 m hm,decide_eq_true hm,cond_true,k3 m hm]
  cases inP x M1 m with
  |false=>rfl
  |true=>
   show old (Kj ([(M1,Hf Vza)],[]) []) M1=none;rw[Oca];rfl
 ·refine Roa (λ m hm o ho=>?_) ⟨((Bi x M1).getD 0 0).toNat,by omega,?_⟩
  ·rw[oT m (by omega)]at ho
   cases hi:inP x M1 m with
   |false=>rw[hi]at ho;cases ho
   |true=>rw[hi]at ho;exact(Ckb ho).symm
  ·rw[oT _ (by omega),p0];rfl
end

def Vna {l:List Dev} {i:Nat} {z w:Int} (h:H6 l=true) (hi:i<l.length) (z0:0≤z) (z1:z≤20) (h1:1≤w) (h2:w≤1000):H6 (l.set i ((l.getD i Kg).1,z,w))=true:=by
 obtain⟨g1,g2,g3,g4⟩:=D7.1 h
 have e0:(l.set i ((l.getD i Kg).1,z,w)).map (·.1)=l.map (·.1):=by
  rw[Cvb]
  have:(l.getD i Kg).1=(l.map (·.1)).getD i 0:=by
   simp only[Vb,Zw,Ve hi,Aob,Wh]
  rw[this,Vb,Ve (by simpa using hi),Wh];exact Bkb _
 refine D7.2 ⟨?_,λ d hd=>?_,?_⟩
 ·have e:(l.map (·.1)).Pairwise (· < ·):=Zr.2 g1;rw[← e0]at e;exact Zr.1 e
 ·rcases Ys hd with hd|hd
  ·exact g2 d hd
  ·obtain⟨e1,e2,_⟩:=Ir.1 (g2 _ (A3 (d:=Kg) hi));subst hd;exact Ir.2 ⟨e1,⟨z0,z1⟩,h1,h2⟩
 ·rw[Wa];exact⟨g3,g4⟩
def Aca (a:List Int) (hb:(a.length:Int)≤1048576):Tot (λ k=>Bw k a) (λ l=>H6 l=true∧2≤l.length∧l.length≤6):=by
 unfold Bw;refine Zha (M3a a hb) ?_;intro c hc;refine Zha (J5a c hc) ?_;rintro⟨l,c1⟩ ⟨hl,hn,k1⟩;dsimp only at hl hn k1 ⊢;obtain⟨w,c2,e2,hw,_⟩:=Y5 c1 k1 [1,7,1000] (by decide) (by decide);refine Zha (Zua (Q:=λ r=>r=(w,c2)) e2 rfl) ?_;rintro _ rfl
 have hw1:1≤w∧w≤1000:=by
  simp only[Vl,B0b,or_false]at hw;omega
 refine Zha (Q:=λ l=>H6 l=true∧2≤l.length∧l.length≤6) ?_ (λ r hr=>Zga hr);obtain⟨n,en⟩:∃ n,l.length=n:=⟨_,rfl⟩;refine Zpa (L:=λ k i (s:List Dev)=>Cr k s w i) (Q:=λ l=>H6 l=true∧2≤l.length∧l.length≤6) n (λ j s=>H6 s=true∧s.length=n) ?_ ?_ 0 l (Vu _) ⟨hl,en⟩
 ·rintro s ⟨h1,h2⟩;simp (disch:=omega) only [Cr,dF];exact Zga ⟨h1,by omega,by omega⟩
 ·rintro j s hj ⟨h1,h2⟩ next
  have hjs:j<s.length:=by omega
  have e0:s.getD j ((0:Int),((0:Int),(0:Int)))=s.getD j Kg:=rfl
  have hl2:(s.set j ((s.getD j Kg).1,3,(s.getD j Kg).2.2)).length=n:=by rw[Wa];exact h2
  have e1:(s.set j ((s.getD j Kg).1,3,(s.getD j Kg).2.2)).getD j ((0:Int),((0:Int),(0:Int)))=((s.getD j Kg).1,3,(s.getD j Kg).2.2):=by
   rw[Vb,Amb hjs];rfl
  simp (disch:=omega) only [Cr,dT,Vj,w64,e0,hl2,e1,List.set_set];exact next _ ⟨Vna h1 hjs (by decide) (by decide) hw1.1 hw1.2,by rw[Wa];exact h2⟩
def J9a {l:List Dev} {r:Int} (hl:H6 l=true) (h0:1≤r) (h1:r≤5) (h2:r≤(l.length:Int)):(build l 4 r).2=true:=by
 unfold build;rw[hl,Dl.2 ⟨h0,h1⟩,decide_eq_false (show ¬ r > (l.length:Int) by omega)];rfl

end Go.Proofs.YtcpligincipmhaaGreat.Vf

section
set_option linter.unusedVariables false
set_option linter.unusedSimpArgs false
namespace Go.Proofs.YtcpligincipmhaaGreat.Pure
open Go Go.RowKit Go.Proofs.YtcpligincipmhaaGreat.Vf
theorem Rqa {x:Wld} (h:WI x) (c:Int) (b:Bool):Tot (λ k=>Dk k c b 0 x x x) (λ r=>r=(c,b,crA x (Hh []) x.2.2.1.length,crA x (Hh [1]) x.2.2.1.length)):=by
 have hn:=h.ns.1;refine Zpa (L:=λ k i (s:Wld×Wld)=>Dk k c b i x s.1 s.2) (Q:=λ r=>r=(c,b,crA x (Hh []) x.2.2.1.length,crA x (Hh [1]) x.2.2.1.length)) x.2.2.1.length (λ j s=>s=(crA x (Hh []) j,crA x (Hh [1]) j)) ?_ ?_ 0 (x,x) (Vu _) rfl
 ·rintro s rfl;simp (disch:=omega) only [Dk,dF];exact Zga rfl
 ·rintro j s hj rfl next;obtain⟨a1,_,_,_,a5⟩:=Uc h (rc:=[]) j (by omega);obtain⟨b1,_,_,_,b5⟩:=Uc h (rc:=[1]) j (by omega);have ev:∀ rc:List Int,rc.length≤10→Y5a (7,(j:Int),(⟨#[]⟩:ByteArray),([]:List Int),(0:Int),rc):=λ rc hrc=>⟨show (⟨#[]⟩:ByteArray).size≤_ by decide,by simp,⟨by dsimp only;omega,by dsimp only;omega⟩,by dsimp only;omega⟩
  have d1:doA (crA x (Hh []) j) (7,(j:Int),(⟨#[]⟩:ByteArray),([]:List Int),(0:Int),([]:List Int))=(crA x (Hh []) (j+1),true):=by
   unfold doA;rw[a1.rightB,cond_true,a5 hj]
  have d2:doA (crA x (Hh [1]) j) (7,(j:Int),(⟨#[]⟩:ByteArray),([]:List Int),(0:Int),[1])=(crA x (Hh [1]) (j+1),true):=by
   unfold doA;rw[b1.rightB,cond_true,b5 hj]
  simp (disch:=omega) only [Dk,dT,w64];refine Zha (O2a (a1.wo.wim (m:=200) (by decide) a1.splen) (by decide) (ev [] (by decide))) ?_;rintro _ rfl;refine Zha (O2a (b1.wo.wim (m:=200) (by decide) b1.splen) (by decide) (ev [1] (by decide))) ?_;rintro _ rfl;rw[d1,d2];exact next (_,_) rfl
theorem FnTorn:∀ (a0:List Int),Ty.fit ti (.sl 5 (.i .u8)) a0→∃ k,Fe k a0=some true:=by
 intro a0 _;refine Tot.law (f:=λ k=>Fe k a0) ?_;unfold Fe Jg;refine Zha (Zga (Q:=λ b=>b=decide ((List.length a0:Int) > 1048576)) rfl) ?_;rintro b rfl;refine Zna (λ _=>Zga rfl) (λ hb=>?_);refine Zha (Aca a0 (by omega)) ?_;rintro l ⟨hl,h2,h6⟩;have hbd:(build l 4 2).2=true:=J9a hl (by decide) (by decide) (by omega);refine Zha (D5a l 4 2 (by omega)) ?_;rintro _ rfl;rw[hbd,cond_true];have hw:=Fca hbd;have hd:L8 M1:=Hb Sg;refine Zha (Rla (hw.wo.wim (m:=200) (by decide) hw.splen) (by decide) M1 Nx 5 [3,3] hd (by decide)) ?_;rintro _ rfl
 have hrc:∀ j:Nat,(j:Int)<2→rch [3,3] j=3:=λ j hj=>by
  match j,hj with
  |0,_=>rfl
  |1,_=>rfl
  |j+2,h=>exact absurd h (by omega)
 obtain⟨t1,t2,t3,t4,t5⟩:=Rpa (rc:=[3,3]) hbd hrc;obtain⟨x,e⟩:∃ x,x=Oy l 4 2 M1 Nx [3,3]:=⟨_,rfl⟩
 have hput:Y6a (X4 l 4 2) M1 ((0,0,0),false,Nx) 5 [3,3]=(x,1):=by
  unfold Y6a;rw[hw.rightB,cond_true,t1,e];rfl
 rw[← e]at t2 t3 t4 t5;rw[hput];refine Zha (Qz x t2.win M1) ?_;rintro _ rfl;rw[t3];refine Zha (Rqa t2 1 true) ?_;rintro _ rfl;have w1:=(Uc t2 (rc:=[]) x.2.2.1.length (Nat.le_refl _)).1;have w2:=(Uc t2 (rc:=[1]) x.2.2.1.length (Nat.le_refl _)).1;refine Zha (Qz _ w1.win M1) ?_;rintro _ rfl;refine Zha (Qz _ w2.win M1) ?_;rintro _ rfl;dsimp only;rw[t4,t5];refine Zja rfl (Zja rfl (Zja rfl (Zja rfl (Zja (G9.2 rfl) (Zha (Hha _ w1.win) ?_)))));rintro _ rfl;refine Zja (by rw[w1.safe];rfl) (Zha (Hha _ w2.win) ?_);rintro _ rfl;exact Zga (by rw[w2.safe];rfl)
end Go.Proofs.YtcpligincipmhaaGreat.Pure
end
