import Derived.Test.YtcpligincipmhaaGreatMam
set_option linter.all false
namespace Go.Proofs.YtcpligincipmhaaGreat.Vf
open Go
open List (length getD)
open Int (toNat)
open Go.IntKind (wrap)
open BitVec (ofInt)
def Czb:=@Bool.or_false
def Fob:=@List.any_append
def Fvb:=@List.any_nil

def Iwa (w:Wld) (i:Nat) (s:ByteArray) (rc:List Int) (hr:Gb w.2.1 w.1=true) (hn:NS w.2.2.1) (hi:i<w.2.2.1.length):Tot (λ k=>Ad k w (i:Int) s rc) (λ r=>r=N2 w i s rc):=by
 have hni:=hn.get hi;unfold Ad N2;have e0:w.2.2.1.getD i ((0:Int),(([],[]),([],[])))=w.2.2.1.getD i A8:=rfl;simp (disch:=omega) only [dT,Vj,e0];have hin:=(St hni).1;refine Cqb (Oy hin.1.1.1.1 hin.2.1 s) ?_;cases hl:(lkD (w.2.2.1.getD i A8).2.1 s).2 != 0
 case true=>exact Cib rfl (Cfb rfl)
 refine Chb rfl ?_;rw[cond_false]
 have hlk:∃ b,gt (w.2.2.1.getD i A8).2.1.1 s=some b:=by
  rw[bne,Yg,beq_iff_eq]at hl;obtain⟨b,hb,_⟩:=M7.1 (show lkD (w.2.2.1.getD i A8).2.1 s=((lkD (w.2.2.1.getD i A8).2.1 s).1,0) from by rw[← hl]);exact⟨b,hb⟩
 have hs:B8 s=true:=Sma hni.g.1 (by obtain⟨b,hb⟩:=hlk;rw[hb];rfl)
 have hsz:s.size≤1000000000:=by
  have:=Dg.1 (Va _ _ ▸ hs:_∧_).2;omega
 refine Cqb (Th _ s (Jp hr) hsz) ?_;refine Cqb (Pv w _ hn.1 (Tj (Jp hr) s)) ?_;have hpl:=P7a (s:=s) hr hn.1;have hc:=λ x=>Lj (w:=w) (s:=s) (x:=x);have hrun:puN w i s rc=run (pst (i:Int) s (lkD (w.2.2.1.getD i A8).2.1 s).1 rc (I1 w s)) (I1 w s).length (w.2.2.1,false,true):=rfl;obtain⟨p1,p2⟩:=Aeb (w:=w) (i:=i) (s:=s) (rc:=rc) hn
 have inv:∀ n,n≤(I1 w s).length→NS (run (pst (i:Int) s (lkD (w.2.2.1.getD i A8).2.1 s).1 rc (I1 w s)) n (w.2.2.1,false,true)).1∧(run (pst (i:Int) s (lkD (w.2.2.1.getD i A8).2.1 s).1 rc (I1 w s)) n (w.2.2.1,false,true)).1.length=w.2.2.1.length:=λ n hn'=>
  Hz (λ _ (b:List Nod×Bool×Bool)=>NS b.1∧b.1.length=w.2.2.1.length) ⟨hn,rfl⟩ (λ j b hj hb=>V8a hb (by have:=hc _ (A3 (d:=0) (show j<(I1 w s).length by omega));omega))
 rw[show whr w.2.2.1 (O5 w.2.1 s)=I1 w s from rfl];generalize (lkD (w.2.2.1.getD i A8).2.1 s).1=f at *;generalize I1 w s=ps at *;refine Cgb (Q:=λ r=>r=((i:Int),s,(puN w i s rc).2.2,(puN w i s rc).2.1,wN w (puN w i s rc).1)) ?_ ?_
 ·refine Cob (L:=λ k j (a:List Nod×Bool×Bool)=>Ai k (i:Int) s rc a.2.2 a.2.1 ps (ps.length:Int) j (wN w a.1) f) (Q:=λ r=>r=((i:Int),s,(puN w i s rc).2.2,(puN w i s rc).2.1,wN w (puN w i s rc).1)) ps.length (λ j a=>a=run (pst (i:Int) s f rc ps) j (w.2.2.1,false,true)) ?_ ?_ 0 (w.2.2.1,false,true) (Vu _) rfl
  ·rintro a rfl;simp (disch:=omega) only [Ai,dF];exact Cfb (by rw[hrun])
  ·rintro j a hj rfl next;obtain⟨i1,i2⟩:=inv j (by omega);rw[I7]at next;generalize run (pst (i:Int) s f rc ps) j (w.2.2.1,false,true)=a at *;obtain⟨ns,o,g⟩:=a;dsimp only at i1 i2;have hci:=hc _ (A3 (d:=0) hj);obtain⟨m,em⟩:∃ m:Nat,ps.getD j 0=(m:Int):=⟨(ps.getD j 0).toNat,by omega⟩;rw[em]at hci;unfold pst at next;rw[em,Int.toNat_natCast]at next;have e0:ns.getD m ((0:Int),(([],[]),([],[])))=ns.getD m A8:=rfl;simp (disch:=omega) only [Ai,dT,Int.toNat_natCast,w64,em,wN,e0]
   cases hz:(m:Int)==(i:Int) with
   |true=>
    rw[hz]at next;exact Cib rfl (next _ rfl)
   |false=>
    rw[hz]at next;refine Chb rfl ?_;simp only[B9a,Vt]
    cases h1:rch rc j != 1 with
    |true=>
     rw[h1]at next;exact Cib rfl (next _ rfl)
    |false=>
     rw[h1]at next;refine Chb rfl ?_;have hm:=St (i1.get (i:=m) (by omega));refine Cqb (Iba (ns.getD m A8).2.1 s f true hm.1.1 hm.1.2.1 (Hb hs)) ?_;dsimp only at next ⊢;generalize keep (ns.getD m A8).2.1 s f true=q at *
     cases g with
     |false=>
      refine Chb rfl (next (ns.set m ((ns.getD m A8).1,q.1,(ns.getD m A8).2.2),o,false) ?_)
      cases q.2 != 0&&q.2 != 1<;>rfl
     |true=>
      refine Cib rfl ?_;cases h2:q.2==0
      case true=>rw[bne,h2]at next;exact Cib rfl (next _ rfl)
      rw[bne,h2]at next;refine Chb rfl ?_
      cases h3:q.2==1 with
      |true=>rw[bne,h3]at next;exact next _ rfl
      |false=>rw[bne,h3]at next;exact next _ rfl
 ·rintro r rfl;dsimp only[wN];generalize puN w i s rc=a at *;obtain⟨ns,o,g⟩:=a;dsimp only at p1 p2 ⊢
  cases o with
  |true=>
   refine Chb rfl (Cfb ?_);rw[Zb,Yp];rfl
  |false=>
   refine Cib rfl ?_;cases g
   ·exact Chb rfl (Cfb rfl)
   refine Cib rfl ?_;have e0:ns.getD i ((0:Int),(([],[]),([],[])))=ns.getD i A8:=rfl;simp (disch:=omega) only [dT,Vj,e0];have hg:=(p1.get (i:=i) (by omega)).g;refine Cqb (G0a hg.1) ?_;refine Cqb (Dfa (A5b hg).1 hs) ?_;exact Cfb rfl
def Tca {n:Nod} {l:List Row} (hn:NG n) (hl:I4 l=true):Sqa n l=((tk n l).2,(tk n l).1):=by
 unfold Sqa tk;rw[hn.1,hl]
 cases decide ((N8 n.2.2.1 l).length > 60)<;>rfl
def E2a (w:Wld) (src:Int) (l:List Row) (rc:List Int) (hr:RBd w.2.1) (hn:NS w.2.2.1) (hl:I4 l=true):
  Tot (λ k=>Ap k w l rc src) (λ r=>r=((J5 w src l false rc).2,wN w (J5 w src l false rc).1)):=by
 have hll:=G3a hl;unfold Ap;refine Cqb (V7 w hr hn.1) ?_;have hpl:=V9 hr hn.1;have hc:=λ x=>Kj (w:=w) (x:=x);have hrun:J5 w src l false rc=run (gst src l false rc (Cm w)) (Cm w).length (w.2.2.1,true):=rfl
 have inv:∀ n,n≤(Cm w).length→NS (run (gst src l false rc (Cm w)) n (w.2.2.1,true)).1∧(run (gst src l false rc (Cm w)) n (w.2.2.1,true)).1.length=w.2.2.1.length:=λ n hn'=>
  Hz (λ _ (b:List Nod×Bool)=>NS b.1∧b.1.length=w.2.2.1.length) ⟨hn,rfl⟩ (λ j b hj hb=>V9a hl hb (by have:=hc _ (A3 (d:=0) (show j<(Cm w).length by omega));omega))
 generalize Cm w=ls at *;refine Cgb (Q:=λ r=>r=((J5 w src l false rc).2,wN w (J5 w src l false rc).1)) ?_ (by rintro r rfl;exact Cfb rfl);refine Cob (L:=λ k j (a:List Nod×Bool)=>B0 k l rc src a.2 ls (ls.length:Int) j (wN w a.1)) (Q:=λ r=>r=((J5 w src l false rc).2,wN w (J5 w src l false rc).1)) ls.length (λ j a=>a=run (gst src l false rc ls) j (w.2.2.1,true)) ?_ ?_ 0 (w.2.2.1,true) (Vu _) rfl
 ·rintro a rfl;simp (disch:=omega) only [B0,dF];exact Cfb (by rw[hrun])
 ·rintro j a hj rfl next;obtain⟨i1,i2⟩:=inv j (by omega);rw[I7]at next;generalize run (gst src l false rc ls) j (w.2.2.1,true)=a at *;obtain⟨ns,g⟩:=a;dsimp only at i1 i2;have hci:=hc _ (A3 (d:=0) hj);obtain⟨m,em⟩:∃ m:Nat,ls.getD j 0=(m:Int):=⟨(ls.getD j 0).toNat,by omega⟩;rw[em]at hci;unfold gst at next;rw[em,Int.toNat_natCast,Bool.not_false,Bool.and_true]at next;have e0:ns.getD m ((0:Int),(([],[]),([],[])))=ns.getD m A8:=rfl;have hm:=i1.get (i:=m) (by omega);simp (disch:=omega) only [B0,dT,Int.toNat_natCast,w64,em,e0,wN]
  cases hz:(m:Int)==src with
  |true=>
   rw[hz]at next;exact Cib rfl (next _ rfl)
  |false=>
   rw[hz]at next;refine Chb rfl ?_;simp only[B9a,Vt]
   cases h1:rch rc j != 1 with
   |true=>
    rw[h1]at next;exact Cib rfl (next _ rfl)
   |false=>
    rw[h1]at next;refine Chb rfl (Cqb (Sra (ns.getD m A8) l (St hm) hll) ?_);rw[Tca hm hl];dsimp only at next ⊢;generalize tk (ns.getD m A8) l=q at *
    cases g with
    |false=>
     refine Chb rfl (next (ns.set m q.2,false) ?_)
     cases q.1<;>rfl
    |true=>
     refine Cib rfl (next (ns.set m q.2,q.1) ?_)
     cases q.1<;>rfl

def Vba:∀ {l m:List ByteArray},TS l→TS m→(∀ y,y∈l↔y∈m)→l=m
 |[],[],_,_,_=>rfl
 |[],y::m,_,_,h=>absurd ((h y).2 Wj) (by simp)
 |x::l,[],_,_,h=>absurd ((h x).1 Wj) (by simp)
 |x::l,y::m,hl,hm,h=>by
  obtain⟨l1,l2⟩:=Wa.1 hl;obtain⟨m1,m2⟩:=Wa.1 hm
  have e:x=y:=by
   rcases Vk.1 ((h x).1 Wj) with e|hx
   ·exact e
   ·rcases Vk.1 ((h y).2 Wj) with e|hy
    ·exact e.symm
    ·have:=Nw (m1 x hx);rw[l1 y hy]at this;cases this
  subst e;refine congrArg _ (Vba l2 m2 λ z=>⟨λ hz=>?_,λ hz=>?_⟩)
  ·rcases Vk.1 ((h z).1 (Vd _ hz)) with e|hz'
   ·subst e;have:=l1 z hz;rw[Ek]at this;cases this
   ·exact hz'
  ·rcases Vk.1 ((h z).2 (Vd _ hz)) with e|hz'
   ·subst e;have:=m1 z hz;rw[Ek]at this;cases this
   ·exact hz'
def Aob {l:List ByteArray} (h:TS l) (s:ByteArray):wt l s=spl l s:=Vba (Daa h) (S4 h) λ y=>by rw[Oca,Vr]
def Ob {l:List Row} (h:l.length≤2000000000):Am l=some l:=by
 unfold Am;rw[bT (by simp only[Vs];omega),Wn]
def Ksa (w:Wld) (src:Int) (l:List Row) (rc:List Int):J5 w (-1) l false rc=J5 w src l true rc:=by
 unfold J5;refine Hz (λ n (a:List Nod×Bool)=>a=run (gst src l true rc (Cm w)) n (w.2.2.1,true)) rfl (λ j b hj hb=>?_);rw[I7,← hb];have:=(Kj (A3 (d:=0) hj)).1;unfold gst;rw[show ((Cm w).getD j 0 == -1)=false by rw[beq_eq_false_iff_ne];omega,Zb,Yp,Zc]
def Gia (w:Wld) (src:Int) (l:List Row) (self:Bool) (rc:List Int) (m:Nat):((J5 w src l self rc).1.getD m A8).2.2.2=(w.2.2.1.getD m A8).2.2.2:=by
 unfold J5;refine Hz (λ n (a:List Nod×Bool)=>(a.1.getD m A8).2.2.2=(w.2.2.1.getD m A8).2.2.2) rfl (λ j b hj hb=>?_);unfold gst;cases (Cm w).getD j 0==src&&!self
 case true=>exact hb
 cases rch rc j != 1
 case true=>exact hb
 rw[cond_false,cond_false];generalize ((Cm w).getD j 0).toNat=i;show ((b.1.set i (tk (b.1.getD i A8) l).2).getD m A8).2.2.2=_
 by_cases hm:m<b.1.length
 ·rw[E5 hm]
  by_cases hi:i=m
  ·subst hi;rw[if_pos rfl,← hb];unfold tk
   cases decide ((N8 (b.1.getD i A8).2.2.1 l).length > 60)<;>rfl
  ·rw[if_neg hi];exact hb
 ·rw[Vb,Yx (by rw[Vv];omega)];rw[Vb,Yx (by omega)]at hb;exact hb
def E3a (w:Wld) (i:Nat) (rc:List Int) (hr:RBd w.2.1) (hn:NS w.2.2.1) (hi:i<w.2.2.1.length):Tot (λ k=>As k w (i:Int) rc) (λ r=>r=N3 w i rc):=by
 have hni:=hn.get hi;have e0:w.2.2.1.getD i ((0:Int),(([],[]),([],[])))=w.2.2.1.getD i A8:=rfl;have hl:=(Bx.1 hni.1).2.2.2.1;have hll:=(G3a hl).1;unfold As N3;simp (disch:=omega) only [dT,Vj,e0,Ob (show (w.2.2.1.getD i A8).2.2.1.length≤2000000000 by omega),Vt];cases hz:((w.2.2.1.getD i A8).2.2.1.length:Int)==0
 case true=>exact Cib rfl (Cfb rfl)
 refine Chb rfl (Cqb (E2a w (i:Int) _ rc hr hn hl) ?_);obtain⟨p1,p2⟩:=Bba (w:=w) (src:=(i:Int)) (self:=false) (rc:=rc) hl hn;rw[show J5 w (i:Int) (w.2.2.1.getD i A8).2.2.1 false rc=J2 w i rc from rfl]at p1 p2 ⊢;generalize J2 w i rc=a at *;obtain⟨ns,g⟩:=a;dsimp only at p1 p2 ⊢;cases g
 ·exact Chb rfl (Cfb rfl)
 refine Cib rfl (Cqb (V7 (wN w ns) hr p1.1) ?_);refine Cqb (Ps _ _ (by have:=V9 (w:=wN w ns) hr p1.1;omega)) ?_;cases Hr (Cm (wN w ns)) (i:Int)
 case true=>exact Chb rfl (Cfb rfl)
 have e1:ns.getD i ((0:Int),(([],[]),([],[])))=ns.getD i A8:=rfl;refine Cib rfl ?_;simp (disch:=omega) only [dT,Vj,e1];exact Cfb rfl
def E4a (w:Wld) (i:Nat) (rc:List Int) (hr:RBd w.2.1) (hn:NS w.2.2.1) (hi:i<w.2.2.1.length):Tot (λ k=>B1 k w (i:Int) rc) (λ r=>r=P3 w i rc):=by
 have hni:=hn.get hi;have e0:w.2.2.1.getD i ((0:Int),(([],[]),([],[])))=w.2.2.1.getD i A8:=rfl;obtain⟨hq,_,_,_,hq60⟩:=Bx.1 hni.1;have hl:=Ku hq;unfold B1 P3;simp (disch:=omega) only [dT,Vj,e0];cases hz:((w.2.2.1.getD i A8).2.2.2.length:Int)==0
 case true=>exact Cib rfl (Cfb rfl)
 have h1:=beq_eq_false_iff_ne.1 hz;refine Chb rfl (Cjb (by omega) ?_);rw[show List.take (toNat 1) (w.2.2.1.getD i A8).2.2.2=List.take 1 (w.2.2.1.getD i A8).2.2.2 from rfl,Ob (by rw[List.length_take];omega)];simp only[Option.bind_some];refine Cqb (E2a w (-1) _ rc hr hn hl) ?_;rw[Ksa w (i:Int)];obtain⟨p1,p2⟩:=Bba (w:=w) (src:=(i:Int)) (self:=true) (rc:=rc) hl hn;have hqu:=Gia w (i:Int) ((w.2.2.1.getD i A8).2.2.2.take 1) true rc i;rw[show J5 w (i:Int) ((w.2.2.1.getD i A8).2.2.2.take 1) true rc=K6 w i rc from rfl]at p1 p2 hqu ⊢;generalize K6 w i rc=a at *;obtain⟨ns,g⟩:=a;dsimp only at p1 p2 hqu ⊢;cases g
 ·exact Chb rfl (Cfb rfl)
 have e1:ns.getD i ((0:Int),(([],[]),([],[])))=ns.getD i A8:=rfl;refine Cib rfl ?_;simp (disch:=omega) only [dT,Vj,e1,hqu];rw[show List.drop (toNat 1) (w.2.2.1.getD i A8).2.2.2=List.drop 1 (w.2.2.1.getD i A8).2.2.2 from rfl,Ob (by rw[We];omega)];exact Cfb rfl

def NO (ns ms:List Nod):Prop:=NS ms∧ms.map (·.1)=ns.map (·.1)
def NO.len {ns ms:List Nod} (h:NO ns ms):ms.length=ns.length:=by
 have:=congrArg length h.2;rwa [Vz,Vz]at this
def NO.set {ns ms:List Nod} (h:NO ns ms) {i:Nat} {n:Nod} (hi:i<ms.length) (hn:NG n) (e:n.1=(ms.getD i A8).1):NO ns (ms.set i n):=⟨h.1.set hn,(Gfa hi e).trans h.2⟩
def Xwa (n:Nod) (s:ByteArray) (f:Fil) (sure:Bool):(Py n s f sure).1.1=n.1:=by
 unfold Py
 cases (n.2.2.2.length:Int)==60 with
 |true=>rfl
 |false=>rfl
def Bxb (n:Nod) (l:List Row):(tk n l).2.1=n.1:=by
 unfold tk
 cases decide ((N8 n.2.2.1 l).length > 60)<;>rfl
def Xxa (n:Nod) (s:ByteArray) (b:Int):(Aza n s b).1.1=n.1:=by
 unfold Aza
 cases J0 n&&((lkD n.2.1 s).2==0&&(Qq n.2.1 s b).2)<;>rfl
def Vca {w:Wld} {s:ByteArray} {f:Fil} {rc:List Int} (hn:NS w.2.2.1) (hs:B8 s=true) (hf:Ds f=true):NO w.2.2.1 (wrN w s f rc).1:=by
 unfold wrN;refine Hz (λ _ (a:List Nod×Int×Int)=>NO w.2.2.1 a.1) ⟨hn,rfl⟩ (λ j a hj h=>?_);have hc:=I0 (A3 (d:=0) hj);have hl:=h.len;unfold wst;cases decide (a.2.1<w.2.1.1)
 ·exact h
 rw[cond_true]
 cases rch rc j==0 with
 |true=>exact h
 |false=>exact h.set (by omega) (Oka (h.1.get (by omega)) hs hf) (Xwa _ _ _ _)
def Apb {w:Wld} {i:Nat} {s:ByteArray} {rc:List Int} (hn:NS w.2.2.1):NO w.2.2.1 (puN w i s rc).1:=by
 unfold puN;refine Hz (λ _ (a:List Nod×Bool×Bool)=>NO w.2.2.1 a.1) ⟨hn,rfl⟩ (λ j a hj h=>?_);have hc:=Lj (A3 (d:=0) hj);have hl:=h.len;unfold pst;cases (I1 w s).getD j 0==(i:Int)
 case true=>exact h
 rw[cond_false]
 cases rch rc j != 1 with
 |true=>exact h
 |false=>exact h.set (by omega) (V8 (h.1.get (by omega))) rfl
def Ixa {w:Wld} {i:Nat} {s:ByteArray} {rc:List Int} (hn:NS w.2.2.1) (hi:i<w.2.2.1.length):∃ ns,(N2 w i s rc).2=wN w ns∧NO w.2.2.1 ns:=by
 unfold N2;cases hl:(lkD (w.2.2.1.getD i A8).2.1 s).2 != 0
 case true=>exact⟨w.2.2.1,rfl,hn,rfl⟩
 have h:=Apb (i:=i) (s:=s) (rc:=rc) hn;have hlen:=h.len
 have hs:B8 s=true:=by
  rw[bne,Yg,beq_iff_eq]at hl;obtain⟨b,hb,_⟩:=M7.1 (show lkD (w.2.2.1.getD i A8).2.1 s=((lkD (w.2.2.1.getD i A8).2.1 s).1,0) from by rw[← hl]);exact Sma (hn.get hi).g.1 (by rw[hb];rfl)
 refine⟨_,rfl,?_⟩
 cases (puN w i s rc).2.2&&!(puN w i s rc).2.1 with
 |false=>exact h
 |true=>exact h.set (by omega) (V7a (h.1.get (by omega)) hs) rfl
def Iya {w:Wld} {src:Int} {l:List Row} {self:Bool} {rc:List Int} (hl:I4 l=true) (hn:NS w.2.2.1):NO w.2.2.1 (J5 w src l self rc).1:=by
 unfold J5;refine Hz (λ _ (a:List Nod×Bool)=>NO w.2.2.1 a.1) ⟨hn,rfl⟩ (λ j a hj h=>?_);have hc:=Kj (A3 (d:=0) hj);have hlen:=h.len;unfold gst;cases (Cm w).getD j 0==src&&!self
 case true=>exact h
 rw[cond_false]
 cases rch rc j != 1 with
 |true=>exact h
 |false=>exact h.set (by omega) (Bub (h.1.get (by omega)) hl) (Bxb _ _)
def Iza {w:Wld} {i:Nat} {rc:List Int} (hn:NS w.2.2.1) (hi:i<w.2.2.1.length):∃ ns,(N3 w i rc).2=wN w ns∧NO w.2.2.1 ns:=by
 have h:=Iya (w:=w) (src:=(i:Int)) (self:=false) (rc:=rc) (Bx.1 (hn.get hi).1).2.2.2.1 hn;have hlen:=h.len;unfold N3;cases ((w.2.2.1.getD i A8).2.2.1.length:Int)==0
 case true=>exact⟨w.2.2.1,rfl,hn,rfl⟩
 refine⟨_,rfl,?_⟩;show NO w.2.2.1 (bif (J2 w i rc).2&&_ then (J2 w i rc).1.set i (Qv ((J2 w i rc).1.getD i A8)) else (J2 w i rc).1);unfold J2
 cases (J5 w (i:Int) (w.2.2.1.getD i A8).2.2.1 false rc).2&&_ with
 |false=>exact h
 |true=>exact h.set (by omega) (Isa (h.1.get (by omega))) rfl
def J0a {w:Wld} {i:Nat} {rc:List Int} (hn:NS w.2.2.1) (hi:i<w.2.2.1.length):∃ ns,(P3 w i rc).2=wN w ns∧NO w.2.2.1 ns:=by
 have hq:=Bx.1 (hn.get hi).1;have h:=Iya (w:=w) (src:=(i:Int)) (self:=true) (rc:=rc) (Ku hq.1) hn;have hlen:=h.len;unfold P3;cases ((w.2.2.1.getD i A8).2.2.2.length:Int)==0
 case true=>exact⟨w.2.2.1,rfl,hn,rfl⟩
 refine⟨_,rfl,?_⟩;show NO w.2.2.1 (bif (K6 w i rc).2 then (K6 w i rc).1.set i (Xpa ((K6 w i rc).1.getD i A8) ((w.2.2.1.getD i A8).2.2.2.drop 1)) else (K6 w i rc).1);unfold K6
 cases (J5 w (i:Int) ((w.2.2.1.getD i A8).2.2.2.take 1) true rc).2 with
 |false=>exact h
 |true=>exact h.set (by omega) (Vaa (h.1.get (by omega)) (λ r hr=>hq.1 r (Zp hr)) (by rw[We];omega)) rfl
structure WO (w:Wld):Prop where
 ring:Gb w.2.1 w.1=true
 ids:w.2.2.1.map (·.1)=w.1.map (·.1)
 ns:NS w.2.2.1
 clk:Gw w.2.2.2.1=true
 wlen:w.2.2.2.2.1.length≤200
 wok:Bca w.2.2.2.2.1
 wge:∀ x∈w.2.2.2.2.1,sle w.2.2.2.1 x.2.1.1=false
 sps:TS w.2.2.2.2.2
 spn:∀ s∈w.2.2.2.2.2,B8 s=true
def WI.wo {w:Wld} (h:WI w):WO w:=⟨h.ring,h.ids,h.ns,h.clk,h.wlen,h.wok,h.wge,h.sps,λ s hs=>by
 obtain⟨x,hx,e⟩:=h.spw s hs;rw[← e]
 exact(h.wok x hx).1⟩
namespace WO
variable {w:Wld}
def nlen (h:WO w):w.2.2.1.length=w.1.length:=by
 have:=congrArg length h.ids;rwa [Vz,Vz]at this
def dlen (h:WO w):1≤w.1.length∧w.1.length≤12:=(D7.1 (Bl.1 h.ring).1).2.2
def other (h:WO w) {ns:List Nod} (hn:NO w.2.2.1 ns):WO (wN w ns):=⟨h.ring,hn.2.trans h.ids,hn.1,h.clk,h.wlen,h.wok,h.wge,h.sps,h.spn⟩
def other' (h:WO w) {r:Bool×Wld} (hr:∃ ns,r.2=wN w ns∧NO w.2.2.1 ns):WO r.2:=by
 obtain⟨ns,e,hn⟩:=hr;rw[e];exact h.other hn
def write (h:WO w) {s:ByteArray} {f:Fil} {rc:List Int} (hs:B8 s=true) (hf:Ds f=true) (hb:Ax f.2.2) (hc:sle w.2.2.2.1 f.1=true) (hl:w.2.2.2.2.1.length<200):WO (Pc (w.1,w.2.1,w.2.2.1,f.1,w.2.2.2.2) s f rc).2:=by
 have g:=Vca (w:=(w.1,w.2.1,w.2.2.1,f.1,w.2.2.2.2)) (rc:=rc) h.ns hs hf;unfold Pc;generalize wrN (w.1,w.2.1,w.2.2.1,f.1,w.2.2.2.2) s f rc=a at *
 exact {
  ring:=h.ring
  ids:=g.2.trans h.ids
  ns:=g.1
  clk:=(Ha.1 hf).1
  wlen:=by show (w.2.2.2.2.1++[_]).length≤200;rw[Vi];simp only[Vh,Vs];omega
  wok:=λ x hx=>by
   rcases Vm.1 hx with hx|hx
   ·exact h.wok x hx
   ·rw[Vp.1 hx];exact⟨hs,hf,hb⟩
  wge:=λ x hx=>by
   rcases Vm.1 hx with hx|hx
   ·exact Sj (Oa hc) (h.wge x hx)
   ·rw[Vp.1 hx];exact Gu _
  sps:=h.sps
  spn:=h.spn }
def ask (h:WO w) {s:ByteArray} {f:Fil} {t:Int} {rc:List Int} (hb:Ax f.2.2) (hd:f.2.1=true→f.2.2=[]):WO (ask w s f t rc).2:=by
 unfold Vf.ask;cases hs:B8 s
 ·exact h
 rw[Zb,cond_false]
 by_cases hl:(f.2.2.length:Int) > 200
 ·rw[decide_eq_true hl];exact h
 ·rw[decide_eq_false hl,cond_false];cases inR t 0 1000000000
  ·exact h
  rw[Zb,cond_false];cases hw:(w.2.2.2.2.1.length:Int)==200
  case true=>exact h
  rw[cond_false];have hw':=beq_eq_false_iff_ne.1 hw;have hwl:=h.wlen;obtain⟨n1,n2⟩:=Baa h.clk t 0;cases he:(I9 w.2.2.2.1 t 0).1==w.2.2.2.1.1&&((I9 w.2.2.2.1 t 0).2.1==w.2.2.2.1.2.1&&(I9 w.2.2.2.1 t 0).2.2==w.2.2.2.1.2.2)
  case true=>exact h
  rw[cond_false]
  have hlt:sle w.2.2.2.1 (I9 w.2.2.2.1 t 0)=true:=by
   rcases n2 with n2|n2
   ·rw[n2,beq_self_eq_true,beq_self_eq_true,beq_self_eq_true]at he;cases he
   ·exact n2
  exact h.write (f:=(I9 w.2.2.2.1 t 0,f.2)) hs (Ha.2 ⟨n1,by show f.2.2.length≤200;omega,hd⟩) hb hlt (by omega)
def rot (h:WO w) {i:Nat} (hi:i<w.2.2.1.length) {s:ByteArray} {b:Int}:WO (Qia w i s b).2:=by
 have hg:=h.ns.get hi;unfold Qia;cases hr:(Aza (w.2.2.1.getD i A8) s b).2
 ·exact h
 have hn:NO w.2.2.1 (w.2.2.1.set i (Aza (w.2.2.1.getD i A8) s b).1):=NO.set ⟨h.ns,rfl⟩ hi (Uza hg) (Xxa _ _ _)
 have hs:B8 s=true:=by
  unfold Aza at hr;cases hc:J0 (w.2.2.1.getD i A8)&&((lkD (w.2.2.1.getD i A8).2.1 s).2==0&&(Qq (w.2.2.1.getD i A8).2.1 s b).2)
  ·rw[hc]at hr;cases hr
  rw[Va,Va,beq_iff_eq]at hc;obtain⟨b,hb,_⟩:=M7.1 (show lkD (w.2.2.1.getD i A8).2.1 s=((lkD (w.2.2.1.getD i A8).2.1 s).1,0) from by rw[← hc.2.1]);exact Sma hg.g.1 (by rw[hb];rfl)
 exact⟨h.ring,hn.2.trans h.ids,hn.1,h.clk,h.wlen,h.wok,h.wge,S4 h.sps,λ t ht=>by
  rcases Vr.1 ht with rfl|ht
  ·exact hs
  ·exact h.spn t ht⟩
def node (h:WO w) {i:Nat} (hi:i<w.2.2.1.length) {e:Evt}:WO (Nb w e i).2:=by
 have hg:=h.ns.get hi;unfold Nb;cases e.1==3
 case true=>exact h.other' (Ixa h.ns hi)
 cases e.1==4
 case true=>exact h.other' (Iza h.ns hi)
 cases e.1==5
 case true=>exact h.other' (J0a h.ns hi)
 cases e.1==6
 case true=>exact h.other (NO.set ⟨h.ns,rfl⟩ hi (Ipa hg) rfl)
 cases e.1==7 with
 |true=>exact h.other (NO.set ⟨h.ns,rfl⟩ hi (Afb hg) rfl)
 |false=>exact h.rot hi
def weigh (h:WO w) {i t:Int}:WO (Wy w i t).2:=by
 unfold Wy;cases h1:inR i 0 ((w.1.length:Int)-1)
 ·exact h
 cases h2:inR t 1 1000
 ·exact h
 obtain⟨i0,i1⟩:=Dg.1 h1;obtain⟨w0,w1⟩:=Dg.1 h2;exact⟨(Tf (Tg h.ring (by omega) w0 w1)).1,h.ids.trans (B3a _ _ _).symm,h.ns,h.clk,h.wlen,h.wok,h.wge,h.sps,h.spn⟩
def ev (h:WO w) {e:Evt} (hb:Ax e.2.2.2.1):WO (doW w e).2:=by
 have ae:∀ {q:Int×Wld},WO q.2→WO (P9a q).2:=λ {q} hq=>by
  unfold P9a
  cases q.1 != 2<;>exact hq
 unfold doW;cases e.1==1
 case true=>exact ae (h.ask hb (λ c=>by cases c))
 cases e.1==2
 case true=>exact ae (h.ask V2 (λ _=>rfl))
 cases e.1==3||(e.1==4||(e.1==5||(e.1==6||(e.1==7||e.1==8)))) with
 |true=>
  cases hi:inR e.2.1 0 ((w.2.2.1.length:Int)-1)
  ·exact h
  have:=Dg.1 hi;exact h.node (by omega)
 |false=>
  cases e.1==9 with
  |true=>exact h.weigh
  |false=>exact h
def nods (h:WO w):Pb w.1 w.2.2.1=true:=by
 have hl:=h.nlen;unfold Pb;rw[show ((w.2.2.1.length:Int)==(w.1.length:Int))=true by rw[beq_iff_eq];omega,Wf,Yc];intro j hj;have hj':=Zy.1 hj;rw[Va,beq_iff_eq];refine⟨?_,(h.ns.get hj').1⟩
 have e1:(w.2.2.1.getD j A8).1=(w.2.2.1.map (·.1)).getD j 0:=by
  rw[Vb,Vb,Zx,Vg hj'];rfl
 have e2:(w.1.getD j Kw).1=(w.1.map (·.1)).getD j 0:=by
  rw[Vb,Vb,Zx,Vg (by omega)];rfl
 rw[e1,e2,h.ids]
def ok (h:WO w):Na w=true:=by
 unfold Na
 have a2:T7a w.2.2.2.1 w.2.2.2.2.1=true:=by
  unfold T7a;rw[Va,Yc];refine⟨λ x hx=>?_,decide_eq_true (by have:=h.wlen;omega)⟩;unfold Gba;rw[(h.wok x hx).1,(h.wok x hx).2.1,h.wge x hx];rfl
 have a3:Qt w.2.2.2.2.2=true:=by
  unfold Qt;rw[Yc];intro j hj;have hj':=Zy.1 hj;rw[Va,Zw];refine⟨h.spn _ (A3 hj'),?_⟩
  by_cases h0:j=0
  ·exact .inl (decide_eq_true h0)
  ·right;have:=Ys.1 h.sps (j-1) j (by omega) hj' (by omega);rwa [Vb,Vb,Vg hj',Vg (by omega)]
 rw[h.ring,h.nods,h.clk,a2,a3];rfl
end WO
def Byb {l:List ByteArray} (h:∀ j,0<j→j<l.length→tlt (l.getD (j-1) Le) (l.getD j Le)=true):TS l:=by
 induction l with
 |nil=>exact List.Pairwise.nil
 |cons x l ih=>
  have ht:TS l:=ih (λ j h0 hj=>by
   have:=h (j+1) (by omega) (by simpa using hj);obtain⟨m,rfl⟩:∃ m,j=m+1:=⟨j-1,by omega⟩
   simpa using this)
  refine Wa.2 ⟨λ y hy=>?_,ht⟩
  cases l with
  |nil=>cases hy
  |cons z l=>
   have hz:tlt x z=true:=by have:=h 1 (by omega) (by simp);simpa using this
   rcases Vk.1 hy with rfl|hy
   ·exact hz
   ·exact Iy hz ((Wa.1 ht).1 y hy)
def Bzb {w:Wld} (h:Na w=true) (hn:∀ n∈w.2.2.1,DB n.2.1) (hb:∀ x∈w.2.2.2.2.1,Ax x.2.1.2.2):WO w:=by
 unfold Na at h;simp only[Va]at h;obtain⟨h1,h2,h3,h4,h5⟩:=h;unfold Pb at h2;rw[Va,beq_iff_eq,Yc]at h2;obtain⟨hl,h2⟩:=h2;have hd:=(D7.1 (Bl.1 h1).1).2.2
 have hnode:∀ j,j<w.2.2.1.length→(w.2.2.1.getD j A8).1=(w.1.getD j Kw).1∧J0 (w.2.2.1.getD j A8)=true:=λ j hj=>by
  have:=h2 j (Zy.2 hj);rwa [Va,beq_iff_eq]at this
 unfold T7a at h4;rw[Va,Yc,decide_eq_true_iff]at h4;unfold Qt at h5;rw[Yc]at h5
 have hsp:∀ j,j<w.2.2.2.2.2.length→B8 (w.2.2.2.2.2.getD j Le)=true∧(j=0∨tlt (w.2.2.2.2.2.getD (j-1) Le) (w.2.2.2.2.2.getD j Le)=true):=λ j hj=>by
  have:=h5 j (Zy.2 hj);rwa [Va,Zw,decide_eq_true_iff]at this
 have hx:∀ x∈w.2.2.2.2.1,B8 x.1=true∧Ds x.2.1=true∧sle w.2.2.2.1 x.2.1.1=false:=λ x hx=>by
  have:=h4.1 x hx;unfold Gba at this;rwa [Va,Va,Wb]at this
 refine⟨h1,?_,⟨by omega,λ n hm=>?_⟩,h3,by omega,λ x hm=>⟨(hx x hm).1,(hx x hm).2.1,hb x hm⟩,λ x hm=>(hx x hm).2.2,Byb (λ j h0 hj=>?_),λ s hs=>?_⟩
 ·refine Ffb (by rw[Vz,Vz];omega) (λ j a b=>?_);rw[Vz]at a b;have:=(hnode j a).1;rw[Vb,Vb,Vg a,Vg b]at this;rw[Erb,Erb];exact this
 ·obtain⟨j,hj,rfl⟩:=Yn.1 hm;have:=(hnode j hj).2;rw[Vb,Vg hj]at this;exact⟨this,hn _ hm⟩
 ·rcases (hsp j hj).2 with h|h
  ·omega
  ·exact h
 ·obtain⟨j,hj,rfl⟩:=Yn.1 hs;have:=(hsp j hj).1;rwa [Vb,Vg hj]at this

def Pea (w:Wld) (i t:Int) (hr:Gb w.2.1 w.1=true) (hi:inR i 0 ((w.1.length:Int)-1)=true):Tot (λ k=>Cl k w i t) (λ r=>r=Wy w i t):=by
 unfold Cl Wy;rw[hi];simp only[Lc,Vt];cases h2:inR t 1 1000
 ·exact Cib rfl (Cfb rfl)
 refine Chb rfl ?_;obtain⟨i0,i1⟩:=Dg.1 hi;obtain⟨w0,w1⟩:=Dg.1 h2;simp (disch:=omega) only [dT];have hg:=Tg (r:=w.2.1) hr (i:=i.toNat) (by omega) w0 w1;refine Cqb (Owa (r:=w.2.1) (l:=wgt w.1 i.toNat t) hg) ?_;refine Cfb ?_;rw[decide_eq_true (show (Dra w.2.1 (wgt w.1 i.toNat t)).2≥0 from (Tf hg).2.2.2)];rfl
def Pfa (w:Wld) (e:Evt) (he:B7b e) (h:WO w) (hsl:w.2.2.2.2.2.length≤2000000) (h12:e.1≠1∧e.1≠2):Tot (λ k=>B2 k w e) (λ r=>r=doW w e):=by
 have hr:=h.ring;have hn:=h.ns;have hnl:=hn.1;have hlen:=h.nlen;obtain⟨he1,he2,he3,he4⟩:=he;unfold B2 doW;rw[w64 (n:=(w.2.2.1.length:Int)-1) (by omega) (by omega),show (e.1==1)=false from beq_eq_false_iff_ne.2 h12.1,show (e.1==2)=false from beq_eq_false_iff_ne.2 h12.2,cond_false,cond_false];simp only[Lc,Vt]
 cases h1:inR e.2.1 0 ((w.2.2.1.length:Int)-1) with
 |false=>
  refine Cib rfl (Cfb ?_)
  have:(Wy w e.2.1 e.2.2.2.2.1)=(false,w):=by
   unfold Wy;rw[← hlen,h1];rfl
  rw[this]
  cases e.1==3||(e.1==4||(e.1==5||(e.1==6||(e.1==7||e.1==8))))<;>cases e.1==9<;>rfl
 |true=>
  obtain⟨i0,i1⟩:=Dg.1 h1;obtain⟨i,hei⟩:∃ i:Nat,e.2.1=(i:Int):=⟨e.2.1.toNat,by omega⟩
  have hi:i<w.2.2.1.length:=by omega
  have hni:=hn.get hi;have e0:w.2.2.1.getD i ((0:Int),(([],[]),([],[])))=w.2.2.1.getD i A8:=rfl;refine Chb rfl ?_;rw[hei,Vj]
  cases c3:e.1==3 with
  |true=>
   refine Cib rfl (Cqb (Iwa w i _ _ hr hn hi) ?_);exact Cfb (by unfold Nb;rw[c3];rfl)
  |false=>
   refine Chb rfl ?_
   cases c4:e.1==4 with
   |true=>
    refine Cib rfl (Cqb (E3a w i _ (Jp hr) hn hi) ?_);exact Cfb (by unfold Nb;rw[c3,c4];rfl)
   |false=>
    refine Chb rfl ?_
    cases c5:e.1==5 with
    |true=>
     refine Cib rfl (Cqb (E4a w i _ (Jp hr) hn hi) ?_);exact Cfb (by unfold Nb;rw[c3,c4,c5];rfl)
    |false=>
     refine Chb rfl ?_
     cases c6:e.1==6 with
     |true=>
      refine Cib rfl ?_;simp (disch:=omega) only [dT,Vj,e0];refine Cqb (Dva _ hni) ?_;exact Cfb (by unfold Nb;rw[c3,c4,c5,c6];rfl)
     |false=>
      refine Chb rfl ?_
      cases c7:e.1==7 with
      |true=>
       refine Cib rfl (Cgb (Q:=λ r=>r=((i:Int),E0a e.2.2.2.2.2,w)) ?_ ?_)
       ·refine Cob (L:=λ k j (s:List Bool)=>Bh k (i:Int) s e.2.2.2.2.2 (e.2.2.2.2.2.length:Int) j w) (Q:=λ r=>r=((i:Int),E0a e.2.2.2.2.2,w)) e.2.2.2.2.2.length (λ j s=>s=E0a (e.2.2.2.2.2.take j)) ?_ ?_ 0 [] (Vu _) rfl
        ·rintro s rfl;simp (disch:=omega) only [Bh,dF];exact Cfb (by rw[Zf])
        ·rintro j s hj rfl next;simp (disch:=omega) only [Bh,dT,Vj,w64]
         have hk:(E0a (e.2.2.2.2.2.take j)).length=j:=by unfold E0a;rw[Vz,Vq];omega
         refine Cnb (by rw[hk,Eib];omega) (next _ ?_);unfold E0a;rw[Wg hj,D2b,Vb,Vg hj];rfl
       ·rintro r rfl;simp (disch:=omega) only [dT,Vj,e0];refine Cqb (P4a _ _ (St hni) (by unfold E0a;rw[Vz];exact he4)) ?_;refine Cfb ?_;unfold Nb P3a;rw[c3,c4,c5,c6,c7,hni.1];rfl
      |false=>
       refine Chb rfl ?_
       cases c8:e.1==8 with
       |true=>
        refine Cib rfl ?_;simp (disch:=omega) only [dT,Vj,e0];refine Cqb (Gaa _ _ _ (St hni) he3.2 he3.1) ?_
        have hR:Nb w e i=Qia w i e.2.2.1 e.2.2.2.2.1:=by unfold Nb;rw[c3,c4,c5,c6,c7];rfl
        cases hq:(Aza (w.2.2.1.getD i A8) e.2.2.1 e.2.2.2.2.1).2 with
        |true=>
         refine Cib rfl (Cqb (Mu _ _ (by omega)) ?_);refine Cfb ?_;show _=Nb w e i;rw[hR,Aob h.sps];unfold Qia;rw[hq];rfl
        |false=>
         refine Chb rfl (Cfb ?_);show _=Nb w e i;rw[hR];unfold Qia;rw[hq,cond_false]
         have:(Aza (w.2.2.1.getD i A8) e.2.2.1 e.2.2.2.2.1).1=w.2.2.1.getD i A8:=by
          unfold Aza at hq ⊢
          cases hc:J0 (w.2.2.1.getD i A8)&&((lkD (w.2.2.1.getD i A8).2.1 e.2.2.1).2==0&&(Qq (w.2.2.1.getD i A8).2.1 e.2.2.1 e.2.2.2.2.1).2) with
          |true=>rw[hc]at hq;cases hq
          |false=>rfl
         rw[this,Vb,Vg hi,Wm,Emb]
       |false=>
        refine Chb rfl ?_
        cases c9:e.1==9 with
        |true=>
         refine Cib rfl (Cqb (Pea w _ _ hr (by rw[← hlen,← hei];exact h1)) ?_);exact Cfb rfl
        |false=>exact Chb rfl (Cfb rfl)
def Xya (w:Wld) (e:Evt) (he:B7b e) (h:WO w) (hsl:w.2.2.2.2.2.length≤2000000):Tot (λ k=>Eb k w e) (λ r=>r=doW w e):=by
 have answer:∀ (q:Int×Wld),Tot (λ _=>cond (q.1 != 2) (some (q.1 != 3,q.2)) (some (false,q.2))) (λ r=>r=P9a q):=by
  intro q;unfold P9a
  cases q.1 != 2<;>exact Cfb rfl
 unfold Eb
 cases c1:e.1==1 with
 |true=>
  rw[Hx _ (by have:=he.2.1;omega)];simp only[Vt];refine Cib rfl (Cqb (Gha w e.2.2.1 ((0,0,0),false,e.2.2.2.1) e.2.2.2.2.1 e.2.2.2.2.2 h.ring h.ns h.clk he.1 (λ h=>by cases h) h.wlen) ?_);unfold doW;rw[c1];exact answer _
 |false=>
  refine Chb rfl ?_
  cases c2:e.1==2 with
  |true=>
   refine Cib rfl (Cqb (Gha w e.2.2.1 ((0,0,0),true,[]) e.2.2.2.2.1 e.2.2.2.2.2 h.ring h.ns h.clk he.1 (λ _=>rfl) h.wlen) ?_);unfold doW;rw[c1,c2];exact answer _
  |false=>
   refine Chb rfl (Cqb (Pfa w e he h hsl ⟨beq_eq_false_iff_ne.1 c1,beq_eq_false_iff_ne.1 c2⟩) ?_);exact Cfb rfl

def Gja (w:Wld) (s:ByteArray) (f:Fil) (t:Int) (rc:List Int):(ask w s f t rc).1=0∨(ask w s f t rc).1=1∨(((ask w s f t rc).1=2∨(ask w s f t rc).1=3)∧(ask w s f t rc).2=w):=by
 unfold ask;cases !(B8 s)
 case true=>exact .inr (.inr ⟨.inl rfl,rfl⟩)
 rw[cond_false];cases decide ((f.2.2.length:Int) > 200)
 case true=>exact .inr (.inr ⟨.inl rfl,rfl⟩)
 rw[cond_false];cases !(inR t 0 1000000000)
 case true=>exact .inr (.inr ⟨.inl rfl,rfl⟩)
 rw[cond_false];cases (w.2.2.2.2.1.length:Int)==200
 case true=>exact .inr (.inr ⟨.inr rfl,rfl⟩)
 rw[cond_false];cases (I9 w.2.2.2.1 t 0).1==w.2.2.2.1.1&&((I9 w.2.2.2.1 t 0).2.1==w.2.2.2.1.2.1&&(I9 w.2.2.2.1 t 0).2.2==w.2.2.2.1.2.2)
 case true=>exact .inr (.inr ⟨.inr rfl,rfl⟩)
 rw[cond_false];unfold Pc
 cases decide ((wrN (w.1,w.2.1,w.2.2.1,I9 w.2.2.2.1 t 0,w.2.2.2.2) s (I9 w.2.2.2.1 t 0,f.2) rc).2.2≥quo (w.1,w.2.1,w.2.2.1,I9 w.2.2.2.1 t 0,w.2.2.2.2).2.1.1) with
 |true=>exact .inl rfl
 |false=>exact .inr (.inl rfl)
def Y4 {w:Wld} {s:ByteArray} {f:Fil} {t:Int} {rc:List Int} (h:(P9a (ask w s f t rc)).1=false):(P9a (ask w s f t rc)).2=w:=by
 have key:=Gja w s f t rc;unfold P9a at h ⊢;generalize ask w s f t rc=q at *;rcases key with k|k|⟨k|k,e⟩
 ·rw[k]at h;cases h
 ·rw[k]at h;cases h
 ·rw[k];exact e
 ·rw[k];exact e
def Gka {w:Wld} {e:Evt} {i:Nat} (h:(Nb w e i).1=false):(Nb w e i).2=w:=by
 unfold Nb at h ⊢
 cases h3:e.1==3 with
 |true=>
  rw[h3,cond_true]at h;rw[cond_true];unfold N2 at h ⊢
  cases hl:(lkD (w.2.2.1.getD i A8).2.1 e.2.2.1).2 != 0 with
  |true=>rfl
  |false=>rw[hl]at h;cases h
 |false=>
  rw[h3,cond_false]at h;rw[cond_false]
  cases h4:e.1==4 with
  |true=>
   rw[h4,cond_true]at h;rw[cond_true];unfold N3 at h ⊢
   cases hl:((w.2.2.1.getD i A8).2.2.1.length:Int)==0 with
   |true=>rfl
   |false=>rw[hl]at h;cases h
  |false=>
   rw[h4,cond_false]at h;rw[cond_false]
   cases h5:e.1==5 with
   |true=>
    rw[h5,cond_true]at h;rw[cond_true];unfold P3 at h ⊢
    cases hl:((w.2.2.1.getD i A8).2.2.2.length:Int)==0 with
    |true=>rfl
    |false=>rw[hl]at h;cases h
   |false=>
    rw[h5,cond_false]at h;rw[cond_false];cases h6:e.1==6
    case true=>rw[h6]at h;cases h
    rw[h6,cond_false]at h;rw[cond_false];cases h7:e.1==7
    case true=>rw[h7]at h;cases h
    rw[h7,cond_false]at h;rw[cond_false];unfold Qia at h ⊢
    cases hl:(Aza (w.2.2.1.getD i A8) e.2.2.1 e.2.2.2.2.1).2 with
    |true=>rw[hl]at h;cases h
    |false=>rfl
def Pga {w:Wld} {e:Evt} (hr:Gb w.2.1 w.1=true) (h:(doW w e).1=false):(doW w e).2=w:=by
 unfold doW at h ⊢;cases h1:e.1==1
 case true=>rw[h1,cond_true]at h;rw[cond_true];exact Y4 h
 rw[h1,cond_false]at h;rw[cond_false];cases h2:e.1==2
 case true=>rw[h2,cond_true]at h;rw[cond_true];exact Y4 h
 rw[h2,cond_false]at h;rw[cond_false]
 cases h3:e.1==3||(e.1==4||(e.1==5||(e.1==6||(e.1==7||e.1==8)))) with
 |true=>
  rw[h3,cond_true]at h;rw[cond_true]
  cases hi:inR e.2.1 0 ((w.2.2.1.length:Int)-1) with
  |true=>rw[hi,cond_true]at h;rw[cond_true];exact Gka h
  |false=>rfl
 |false=>
  rw[h3,cond_false]at h;rw[cond_false]
  cases h9:e.1==9 with
  |true=>
   rw[h9,cond_true]at h;rw[cond_true];unfold Wy at h ⊢;cases a1:inR e.2.1 0 ((w.1.length:Int)-1)
   ·rfl
   cases a2:inR e.2.2.2.2.1 1 1000
   ·rfl
   rw[a1,a2]at h;obtain⟨i0,i1⟩:=Dg.1 a1;obtain⟨w0,w1⟩:=Dg.1 a2;have:=(Tf (Tg hr (i:=e.2.1.toNat) (by omega) w0 w1)).2.2.2;exact absurd this (of_decide_eq_false h)
  |false=>rfl

def WIm.wo {m:Nat} {w:Wld} (h:WIm m w) (hk:Na w=true):WO w:=Bzb hk (λ n hn=>(h.2.2.1.2 n hn).1.2) (λ x hx=>(h.2.2.2.1.2 x hx).2.2)
def WO.wim {w:Wld} (h:WO w) {m:Nat} (h2:200≤m) (hs:w.2.2.2.2.2.length≤m):WIm m w:=
 ⟨Jp h.ring,by have:=h.dlen;omega,⟨h.ns.1,λ n hn=>St (h.ns.2 n hn)⟩,⟨by have:=h.wlen;omega,λ x hx=>⟨Hb (h.wok x hx).1,by have:=(Ha.1 (h.wok x hx).2.1).2.1;omega,(h.wok x hx).2.2⟩⟩,hs,λ s hs=>Hb (h.spn s hs)⟩
def Oc {m:Nat} {w:Wld} (h:WIm m w) (hm:m≤2000000):Tot (λ k=>Al k w) (λ r=>r=w):=by
 obtain⟨h1,h2,⟨h3,h4⟩,⟨h5,h6⟩,h7,h8⟩:=h;unfold Al;refine Cnb (by rw[Vs];omega) (Cqb (Sh w.2.1 h1) ?_);refine Cnb (by rw[Vs];omega) ?_;rw[Wn,Wn];refine Cgb (Q:=λ r=>r=(w,Qja,(w.1,w.2.1,w.2.2.1,w.2.2.2.1,[],w.2.2.2.2.2))) ?_ ?_
 ·refine Cob (L:=λ k i (s:List Nod)=>Cw k w.2.2.1 (w.2.2.1.length:Int) i w Qja (w.1,w.2.1,s,w.2.2.2.1,[],w.2.2.2.2.2)) (Q:=λ r=>r=(w,Qja,(w.1,w.2.1,w.2.2.1,w.2.2.2.1,[],w.2.2.2.2.2))) w.2.2.1.length (λ j s=>s=w.2.2.1.take j) ?_ ?_ 0 [] (Vu _) rfl
  ·rintro s rfl;simp (disch:=omega) only [Cw,dF];exact Cfb (by rw[Zf])
  ·rintro j s hj rfl next;have hm:=h4 _ (A3 (d:=A8) hj);have e0:w.2.2.1.getD j ((0:Int),(([],[]),([],[])))=w.2.2.1.getD j A8:=rfl
   have hl:(w.2.2.1.take j).length=j:=by rw[Vq];omega
   simp (disch:=omega) only [Cw,dT,Vj,w64,e0];refine Cqb (Ig _ hm) ?_;refine Cnb (by rw[hl];simp only[Vh,Vs];omega) (next _ ?_);rw[Wg hj,Vb,Vg hj];rfl
 ·rintro r rfl;refine Cgb (Q:=λ r=>r=(Qja,w)) ?_ (by rintro r rfl;exact Cfb rfl);refine Cob (L:=λ k i (s:List Wri)=>Cv k w.2.2.2.2.1 (w.2.2.2.2.1.length:Int) i Qja (w.1,w.2.1,w.2.2.1,w.2.2.2.1,s,w.2.2.2.2.2)) (Q:=λ r=>r=(Qja,w)) w.2.2.2.2.1.length (λ j s=>s=w.2.2.2.2.1.take j) ?_ ?_ 0 [] (Vu _) rfl
  ·rintro s rfl;simp (disch:=omega) only [Cv,dF];exact Cfb (by rw[Zf])
  ·rintro j s hj rfl next;have hm:=(h6 _ (A3 (d:=Ypa) hj)).2.1;have e0:w.2.2.2.2.1.getD j ((⟨#[]⟩:ByteArray),((((0:Int),((0:Int),(0:Int))),(false,[])),false))=w.2.2.2.2.1.getD j Ypa:=rfl
   have hl:(w.2.2.2.2.1.take j).length=j:=by rw[Vq];omega
   simp (disch:=omega) only [Cv,dT,Vj,w64,e0,Sk (f:=(w.2.2.2.2.1.getD j Ypa).2.1) (by omega),Vt];refine Cnb (by rw[hl];simp only[Vh,Vs];omega) (next _ ?_);rw[Wg hj,Vb,Vg hj];rfl
def doA (w:Wld) (e:Evt):Wld×Bool:=bif Na w then ((doW w e).2,(doW w e).1) else (w,false)
def Xza {m:Nat} {w:Wld} {e:Evt} (h:WIm m w) (hm:m≤1999000) (he:B7b e):Tot (λ k=>Kl k w e) (λ r=>r=doA w e):=by
 have hw:=h.win (by omega);have hsl:=h.2.2.2.2.1;unfold Kl doA;refine Cgb (Oc h (by omega)) ?_;rintro r rfl;refine Cgb (O7 r hw) ?_;rintro b rfl
 cases hk:Na r with
 |false=>
  refine Cib rfl (Cgb (Oc h (by omega)) ?_);rintro _ rfl;exact Cfb rfl
 |true=>
  have ho:=h.wo hk;refine Chb rfl (Cgb (Xya r e he ho (by omega)) ?_);rintro _ rfl;cases hc:(doW r e).1
  case true=>exact Chb rfl (Cfb rfl)
  refine Cib rfl (Cgb (Oc h (by omega)) ?_);rintro w rfl;exact Cfb (by rw[cond_true,Pga ho.ring hc])

def X1 (s:ByteArray) (a:Bool×Fil) (n:Nod):Bool×Fil:=bif (lkD n.2.1 s).2==0 then (bif !a.1||sle a.2.1 (lkD n.2.1 s).1.1 then (true,(lkD n.2.1 s).1) else a) else a
def lat (ns:List Nod) (s:ByteArray):Bool×Fil:=ns.foldl (X1 s) (false,Xy)
def E5a {s:ByteArray} {a:Bool×Fil} {n:Nod} (h:a.1=true∨((lkD n.2.1 s).2==0)=true):(X1 s a n).1=true:=by
 unfold X1
 cases hc:(lkD n.2.1 s).2==0 with
 |false=>
  rw[hc]at h;rcases h with h|h
  ·exact h
  ·cases h
 |true=>
  rw[cond_true]
  cases ha:a.1 with
  |false=>rfl
  |true=>cases hs:sle a.2.1 (lkD n.2.1 s).1.1<;>simp[ha]
def J1a {s:ByteArray}:∀ (ns:List Nod) (a:Bool×Fil),(a.1=true∨∃ n∈ns,((lkD n.2.1 s).2==0)=true)→(ns.foldl (X1 s) a).1=true
 |[],a,h=>by
  rcases h with h|⟨n,hn,_⟩
  ·exact h
  ·cases hn
 |n::ns,a,h=>by
  rw[Za];refine J1a ns _ ?_;rcases h with h|⟨m,hm,hg⟩
  ·exact .inl (E5a (.inl h))
  ·rcases Vk.1 hm with rfl|hm
   ·exact .inl (E5a (.inr hg))
   ·exact .inr ⟨m,hm,hg⟩
def lvE (s:ByteArray) (p:List Int) (f:Fil) (n:Nod):Bool:=bif Hr p n.1 then ((lkD n.2.1 s).2==0)&&Xna (lkD n.2.1 s).1 f else !((lkD n.2.1 s).2==0)
def lvN (w:Wld) (s:ByteArray):Bool:=w.2.2.1.all (lvE s (O5 w.2.1 s) (lat w.2.2.1 s).2)
def Tda {ns:List Nod} {p:List Int} {j:Nat} (hj:j<ns.length):Hr (whr ns p) (j:Int)=Hr p (ns.getD j A8).1:=by
 rw[Dhb,Hy,Hy,Pw];constructor
 ·rintro⟨i,h1,h2,h3⟩
  obtain rfl:j=i:=by omega
  exact h2
 ·intro h;exact⟨j,hj,h,rfl⟩
def E6a (d:Dsk) (s:ByteArray):Prop:=((lkD d s).2==0)=true
def Tea {d:Dsk} {s:ByteArray}:E6a d s↔∃ i,fnd d.1 s=some i∧(Ka (d.1.getD i Hg).2).isSome=true:=by
 unfold E6a lkD gt
 cases h:fnd d.1 s with
 |none=>simp
 |some i=>
  simp only[Vc];constructor
  ·intro hg;refine⟨i,rfl,?_⟩
   cases hf:Ka (d.1.getD i Hg).2 with
   |none=>simp only[hf]at hg;cases hg
   |some f=>rfl
  ·rintro⟨j,rfl,hg⟩
   cases hf:Ka (d.1.getD i Hg).2 with
   |none=>rw[hf]at hg;cases hg
   |some f=>rfl
def Pha {d:Dsk} {s:ByteArray}:s∈N9 d↔E6a d s:=by
 have key:∀ (l:List Nmd) (out:List ByteArray),s∈l.foldl (hI d) out↔s∈out∨∃ x∈l,x.1=s∧E6a d s:=by
  intro l
  induction l with
  |nil=>intro out;simp
  |cons x l ih=>
   intro out;rw[Za,ih]
   have hx:s∈hI d out x↔s∈out∨(x.1=s∧E6a d s):=by
    unfold hI
    cases hc:(lkD d x.1).2==0 with
    |false=>
     rw[cond_false];refine⟨.inl,?_⟩;rintro (h|⟨rfl,h⟩)
     ·exact h
     ·unfold E6a at h;rw[hc]at h;cases h
    |true=>
     rw[cond_true,Oca];constructor
     ·rintro (rfl|h)
      ·exact .inr ⟨rfl,hc⟩
      ·exact .inl h
     ·rintro (h|⟨h,_⟩)
      ·exact .inr h
      ·exact .inl h.symm
   rw[hx];constructor
   ·rintro ((h|h)|⟨y,hy,h⟩)
    ·exact .inl h
    ·exact .inr ⟨x,Wj,h⟩
    ·exact .inr ⟨y,Vd _ hy,h⟩
   ·rintro (h|⟨y,hy,h⟩)
    ·exact .inl (.inl h)
    ·rcases Vk.1 hy with rfl|hy
     ·exact .inl (.inr h)
     ·exact .inr ⟨y,hy,h⟩
 unfold N9;rw[key];constructor
 ·rintro (h|⟨x,_,_,h⟩)
  ·cases h
  ·exact h
 ·intro h;obtain⟨i,hi,_⟩:=Tea.1 h;have:=M5 hi;exact .inr ⟨_,A3 (d:=Hg) this.1,this.2,h⟩
def C6b (a b:Row):Bool:=(a.1==b.1)&&((a.2.1.1==b.2.1.1)&&((a.2.1.2.1==b.2.1.2.1)&&((a.2.1.2.2==b.2.1.2.2)&&((a.2.2.1==b.2.2.1)&&(a.2.2.2==b.2.2.2)))))
def Pia (a b:List Row):Bool:=((a.length:Int)==(b.length:Int))&&(List.range a.length).all λ j=>C6b (a.getD j C4b) (b.getD j C4b)
def Vda (w:Wld) (j:Nat):List Row:=bif Hr (Cm w) (j:Int) then (w.2.2.1.getD ((Cm w).getD 0 0).toNat A8).2.2.1 else []
def C7b (w:Wld) (j:Nat):Bool := !(decide (((w.2.2.1.getD j A8).2.2.2.length:Int) > 0))&&Pia (w.2.2.1.getD j A8).2.2.1 (Vda w j)
def Pja (a:List Row):Pia a [] = !(decide ((a.length:Int) > 0)):=by
 unfold Pia
 cases a with
 |nil=>rfl
 |cons x l=>
  rw[decide_eq_true (show ((x::l).length:Int) > 0 by rw[Vh];omega),show (((x::l).length:Int)==(([]:List Row).length:Int))=false by rw[beq_eq_false_iff_ne,Vh,Vs];omega];rfl
def Pka {w:Wld} {j:Int} (h:Hr (Cm w) j=true):0<(Cm w).length∧0≤(Cm w).getD 0 0∧(Cm w).getD 0 0<(w.2.2.1.length:Int):=by
 have hm:=Hy.1 h;have h0:=Cwb hm;obtain⟨i,h1,_,h3⟩:=Pw.1 (show (Cm w).getD 0 0∈whr w.2.2.1 (O5 w.2.1 Md) from A3 h0);exact⟨h0,by omega,by omega⟩

def J2a (R:Int) (rc:List Int) (s:ByteArray) (ns:List Nod) (cs:List Int) (a:Int×Int×Bool×Fil) (j:Nat):Int×Int×Bool×Fil:=
 bif decide (a.1<R) then (bif rch rc j==0 then a else (a.1+1,bif rch rc j==1 then (a.2.1+1,X1 s a.2.2 (ns.getD (cs.getD j 0).toNat A8)) else a.2)) else a
def gtR (w:Wld) (s:ByteArray) (rc:List Int):Int×Int×Bool×Fil:=run (J2a w.2.1.1 rc s w.2.2.1 (contacts w s)) (contacts w s).length (0,0,false,Xy)
def gtW (r:Int×Int×Bool×Fil):Fil×Int:=bif r.2.1==0 then (Xy,1) else bif !r.2.2.1 then (Xy,4) else bif r.2.2.2.2.1 then (Xy,5) else (r.2.2.2,0)
def Aqb (w:Wld) (s:ByteArray) (rc:List Int):Fil×Int:=bif Na w&&B8 s then gtW (gtR w s rc) else (Xy,2)
def Y0a {R:Int} {rc:List Int} {s:ByteArray} {ns:List Nod} {cs:List Int} {a:Int×Int×Bool×Fil} {j:Nat} (h:(0≤a.1∧a.1≤j)∧0≤a.2.1∧a.2.1≤j):let b:=J2a R rc s ns cs a j
  (0≤b.1∧b.1≤((j+1:Nat):Int))∧0≤b.2.1∧b.2.1≤((j+1:Nat):Int):=by
 obtain⟨⟨h1,h2⟩,h3,h4⟩:=h;intro b;have hb:b=J2a R rc s ns cs a j:=rfl;unfold J2a at hb;cases hR:decide (a.1<R)
 ·rw[hR,cond_false]at hb;rw[hb];exact⟨⟨h1,by omega⟩,h3,by omega⟩
 rw[hR,cond_true]at hb;cases hr:rch rc j==0
 case true=>rw[hr,cond_true]at hb;rw[hb];exact⟨⟨h1,by omega⟩,h3,by omega⟩
 rw[hr,cond_false]at hb;rw[hb]
 cases rch rc j==1 with
 |true=>exact⟨⟨by dsimp only;omega,by dsimp only;omega⟩,by rw[cond_true];dsimp only;omega,by rw[cond_true];dsimp only;omega⟩
 |false=>exact⟨⟨by dsimp only;omega,by dsimp only;omega⟩,by rw[cond_false];exact h3,by rw[cond_false];dsimp only;omega⟩
def Y1a (w:Wld) (s:ByteArray) (rc:List Int) (n:Nat):let b:=run (J2a w.2.1.1 rc s w.2.2.1 (contacts w s)) n (0,0,false,Xy)
  (0≤b.1∧b.1≤(n:Int))∧0≤b.2.1∧b.2.1≤(n:Int):=
 Hz (λ j (b:Int×Int×Bool×Fil)=>(0≤b.1∧b.1≤(j:Int))∧0≤b.2.1∧b.2.1≤(j:Int)) ⟨⟨Zza _,Zza _⟩,Zza _,Zza _⟩ (λ j b _ hb=>Y0a hb)
def E7a {w:Wld} {s:ByteArray} (hr:Gb w.2.1 w.1=true) (hn:w.2.2.1.length≤2000000):(contacts w s).length≤4000000000000:=by
 unfold contacts;refine Qu hn ?_;have h5:=(Bl.1 hr).2.1;have p2:=(O6 hr s).2.1;have h12:=(D7.1 (Bl.1 hr).1).2.2.2;have hh:=O8 w.2.1 w.1 s;rw[Vi];omega
def Pla {s:ByteArray} (h:B8 s=true):s.size≤1000000000:=by
 have:=Dg.1 (Va _ _ ▸ h:_∧_).2;omega
def Tfa {n:Nod} (hn:NIn n) (how g:Int) (s:ByteArray) (a:Bool×Fil) (h0:0≤g) (h1:g≤9000000000000):
  Tot (λ k=>Bz k n how g s a.1 a.2) (λ r=>r=bif how==1 then (g+1,s,(X1 s a n).1,(X1 s a n).2) else (g,s,a.1,a.2)):=by
 unfold Bz X1;cases hh:how==1
 ·exact Cib (by rw[bne,hh];rfl) (Cfb rfl)
 refine Chb (by rw[bne,hh];rfl) (Cqb (Oy hn.1.1.1.1.1 hn.1.2.1 s) ?_);rw[w64 (n:=g+1) (by omega) (by omega)];cases (lkD n.2.1 s).2==0
 ·exact Chb rfl (Cfb rfl)
 refine Cib rfl ?_;obtain⟨b,f⟩:=a;cases b
 ·exact Cib rfl (Cfb rfl)
 refine Chb rfl ?_;simp only[Dba,Vt]
 cases sle f.1 (lkD n.2.1 s).1.1 with
 |true=>exact Cib rfl (Cfb rfl)
 |false=>exact Chb rfl (Cfb rfl)
def Kta (w:Wld) (s:ByteArray) (rc:List Int) (hr:Gb w.2.1 w.1=true) (hn:w.2.2.1.length≤2000000) (hni:∀ n∈w.2.2.1,NIn n) (hs:B8 s=true):
  Tot (λ k=>A7 k w s rc true 0 s false Xy) (λ r=>r=(w,(gtR w s rc).2.1,s,(gtR w s rc).2.2.1,(gtR w s rc).2.2.2)):=by
 have hcl:=E7a (s:=s) hr hn;have h5:=(Bl.1 hr).2.1;unfold A7;refine Cqb (O9 w s hr hn (Pla hs)) ?_;have hc:=λ x=>I0 (w:=w) (s:=s) (x:=x);have hrun:gtR w s rc=run (J2a w.2.1.1 rc s w.2.2.1 (contacts w s)) (contacts w s).length (0,0,false,Xy):=rfl;have inv:=Y1a w s rc;generalize hcs:contacts w s=cs at *;refine Cgb (Q:=λ r=>r=(w,(gtR w s rc).2.1,s,(gtR w s rc).2.2.1,(gtR w s rc).2.2.2)) ?_ (by rintro r rfl;exact Cfb rfl);refine Cob (L:=λ k i (a:Int×Int×Bool×Fil)=>A9 k rc a.1 cs (cs.length:Int) i w a.2.1 s a.2.2.1 a.2.2.2) (Q:=λ r=>r=(w,(gtR w s rc).2.1,s,(gtR w s rc).2.2.1,(gtR w s rc).2.2.2)) cs.length (λ j a=>a=run (J2a w.2.1.1 rc s w.2.2.1 cs) j (0,0,false,Xy)) ?_ ?_ 0 (0,0,false,Xy) (Vu _) rfl
 ·rintro a rfl;simp (disch:=omega) only [A9,dF];exact Cfb (by rw[hrun])
 ·rintro j a hj rfl next;obtain⟨⟨i1,i2⟩,i3,i4⟩:=inv j;rw[I7]at next;generalize run (J2a w.2.1.1 rc s w.2.2.1 cs) j (0,0,false,Xy)=a at *;obtain⟨o,g,a⟩:=a;dsimp only at i1 i2 i3 i4;have hci:=hc _ (A3 (d:=0) hj);obtain⟨i,ei⟩:∃ i:Nat,cs.getD j 0=(i:Int):=⟨(cs.getD j 0).toNat,by omega⟩;rw[ei]at hci;unfold J2a at next;rw[ei,Int.toNat_natCast]at next;dsimp only at next;have e0:w.2.2.1.getD i ((0:Int),(([],[]),([],[])))=w.2.2.1.getD i A8:=rfl;simp (disch:=omega) only [A9,dT,Int.toNat_natCast,w64,ei,e0,B9a,Option.bind_some]
  cases h0:rch rc j==0 with
  |true=>
   refine Chb (by rw[bne,h0];rfl) ?_;rw[h0]at next;refine next (o,g,a) ?_
   cases decide (o<w.2.1.1)<;>rfl
  |false=>
   refine Cib (by rw[bne,h0];rfl) ?_;rw[h0]at next;refine Cmb (λ hR'=>?_) (λ hR'=>?_)
   ·rw[decide_eq_true hR']at next;refine Cqb (Tfa (hni _ (A3 (d:=A8) (show i<w.2.2.1.length by omega))) (rch rc j) g s a i3 (by omega)) ?_
    cases h1:rch rc j==1 with
    |true=>rw[h1]at next;exact next _ rfl
    |false=>rw[h1]at next;exact next _ rfl
   ·rw[decide_eq_false hR']at next;exact next _ rfl
def Tga (w:Wld) (s:ByteArray) (rc:List Int) (hw:WIn w) (hs:Ky s):Tot (λ k=>F4 k w s rc) (λ r=>r=Aqb w s rc):=by
 unfold F4 Aqb;refine Cqb (O7 w hw) ?_;cases hk:Na w
 ·exact Cib rfl (Cfb rfl)
 refine Chb rfl (Cqb (Jv s hs) ?_);cases hn:B8 s
 ·exact Cib rfl (Cfb rfl)
 have hr:Gb w.2.1 w.1=true:=by
  unfold Na at hk;exact(Va _ _ ▸ hk:_∧_).1
 refine Chb rfl (Cqb (Kta w s rc hr hw.2.2.1.1 hw.2.2.1.2 hn) ?_);unfold gtW;dsimp only;cases (gtR w s rc).2.1==0
 case true=>exact Cib rfl (Cfb rfl)
 refine Chb rfl ?_;cases (gtR w s rc).2.2.1
 ·exact Cib rfl (Cfb rfl)
 refine Chb rfl ?_
 cases (gtR w s rc).2.2.2.2.1 with
 |true=>exact Cib rfl (Cfb rfl)
 |false=>exact Chb rfl (Cfb rfl)

def B8b (w:Wld) (s:ByteArray) (f:Fil) (t:Int) (rc:List Int):Wld×Int:=bif Na w then ((ask w s f t rc).2,(ask w s f t rc).1) else (w,2)
def Tha {m:Nat} {w:Wld} (h:WIm m w) (hm:m≤1999000) (s:ByteArray) (l:List Int) (t:Int) (rc:List Int) (hs:Ky s) (hl:l.length≤1000000000):Tot (λ k=>F8 k w s l t rc) (λ r=>r=B8b w s ((0,0,0),false,l) t rc):=by
 have hw:=h.win (by omega);unfold F8 B8b;refine Cgb (Oc h (by omega)) ?_;rintro r rfl;refine Cgb (O7 r hw) ?_;rintro b rfl;cases hk:Na r
 ·exact Cib rfl (Cfb rfl)
 have ho:=h.wo hk;rw[Hx l (by omega)];simp only[Vt];refine Chb rfl (Cgb (Gha r s ((0,0,0),false,l) t rc ho.ring ho.ns ho.clk hs (λ c=>by cases c) ho.wlen) ?_);rintro _ rfl;exact Cfb rfl

def Dh:List Int:=[1,1,1,1,1,1,1,1,1,1,1,1]
def K7 (w:Wld) (i:Nat) (l:List ByteArray):Wld:=l.foldl (λ w s=>(N2 w i s Dh).2) w
def Jq (w:Wld) (i:Nat):Nat→Wld
 |0=>w
 |n+1=>(P3 (Jq w i n) i Dh).2
def qtA (w:Wld) (i:Nat):Wld:=wN w (w.2.2.1.set i (V5a (w.2.2.1.getD i A8)).1)
def qtP (w:Wld) (i:Nat):Wld:=K7 (qtA w i) i (N9 ((qtA w i).2.2.1.getD i A8).2.1)
def qtT (w:Wld) (i:Nat):Wld:=Jq (qtP w i) i ((qtP w i).2.2.1.getD i A8).2.2.2.length
def qtN (w:Wld) (i:Nat):Wld:=(N3 (qtT w i) i Dh).2
def J3 (w:Wld):Wld:=run qtN w.2.2.1.length w
def E8a:Tot (λ k=>Fc k) (λ r=>r=Dh):=by
 unfold Fc;refine Cgb (Q:=λ r=>r=Dh) ?_ (by rintro r rfl;exact Cfb rfl);refine Cob (L:=λ k i (s:List Int)=>Dm k s i) (Q:=λ r=>r=Dh) 12 (λ j s=>s=List.replicate j 1) ?_ ?_ 0 [] (Vu _) rfl
 ·rintro s rfl;simp (disch:=omega) only [Dm,dF];exact Cfb rfl
 ·rintro j s hj rfl next;simp (disch:=omega) only [Dm,dT,w64];refine Cnb (by rw[Fib];simp only[Vh,Vs];omega) (next _ ?_);rw[List.replicate_succ']
def NW (w v:Wld):Prop:=∃ ns,v=wN w ns∧NO w.2.2.1 ns
def NW.refl {w:Wld} (h:WO w):NW w w:=⟨w.2.2.1,rfl,h.ns,rfl⟩
def NW.trans {u v w:Wld} (h1:NW u v) (h2:NW v w):NW u w:=by
 obtain⟨a,rfl,ha⟩:=h1;obtain⟨b,rfl,hb⟩:=h2;exact⟨b,rfl,hb.1,hb.2.trans ha.2⟩
def NW.wo {w v:Wld} (h:NW w v) (hw:WO w):WO v:=by
 obtain⟨ns,rfl,hn⟩:=h;exact hw.other hn
def NW.len {w v:Wld} (h:NW w v):v.2.2.1.length=w.2.2.1.length:=by
 obtain⟨ns,rfl,hn⟩:=h;exact hn.len
def Pma {w:Wld} (h:WO w) {i:Nat} (hi:i<w.2.2.1.length) (s:ByteArray) (rc:List Int):NW w (N2 w i s rc).2:=Ixa h.ns hi
def Pna {w:Wld} (h:WO w) {i:Nat} (hi:i<w.2.2.1.length) (rc:List Int):NW w (P3 w i rc).2:=J0a h.ns hi
def Poa {w:Wld} (h:WO w) {i:Nat} (hi:i<w.2.2.1.length) (rc:List Int):NW w (N3 w i rc).2:=Iza h.ns hi
def J3a {w:Wld} (h:WO w) {i:Nat} (hi:i<w.2.2.1.length):NW w (qtA w i):=⟨_,rfl,NO.set ⟨h.ns,rfl⟩ hi (Ipa (h.ns.get hi)) rfl⟩
def S5 {i:Nat}:∀ (l:List ByteArray) {w:Wld},WO w→i<w.2.2.1.length→NW w (K7 w i l)
 |[],w,h,_=>NW.refl h
 |s::l,w,h,hi=>by
  have h1:=Pma h hi s Dh;exact h1.trans (S5 l (h1.wo h) (by rw[h1.len];exact hi))
def M9 {i:Nat} {w:Wld} (h:WO w) (hi:i<w.2.2.1.length):∀ n,NW w (Jq w i n)
 |0=>NW.refl h
 |n+1=>by
  have h1:=M9 h hi n;exact h1.trans (Pna (h1.wo h) (by rw[h1.len];exact hi) Dh)
def Ppa {w:Wld} (h:WO w) {i:Nat} (hi:i<w.2.2.1.length):NW w (qtP w i):=by
 have h1:=J3a h hi;exact h1.trans (S5 _ (h1.wo h) (by rw[h1.len];exact hi))
def Vea {w:Wld} (h:WO w) {i:Nat} (hi:i<w.2.2.1.length):NW w (qtT w i):=by
 have h1:=Ppa h hi;exact h1.trans (M9 (h1.wo h) (by rw[h1.len];exact hi) _)
def Arb {w:Wld} (h:WO w) {i:Nat} (hi:i<w.2.2.1.length):NW w (qtN w i):=by
 have h1:=Vea h hi;exact h1.trans (Poa (h1.wo h) (by rw[h1.len];exact hi) Dh)
def J4a {w:Wld} (h:WO w):∀ n,n≤w.2.2.1.length→NW w (run qtN n w)
 |0,_=>NW.refl h
 |n+1,hn=>by
  have h1:=J4a h n (by omega);rw[I7];exact h1.trans (Arb (h1.wo h) (by rw[h1.len];omega))
def J5a {w:Wld} (h:WO w):NW w (J3 w):=J4a h _ (Vw _)
def NW.sp {w v:Wld} (h:NW w v):v.2.2.2.2.2=w.2.2.2.2.2:=by obtain⟨ns,rfl,_⟩:=h;rfl
def Kua {w:Wld} (h:WO w):Tot (λ k=>Aj k w) (λ r=>r=J3 w):=by
 have hnl:=h.ns.1;unfold Aj;refine Cgb E8a ?_;rintro _ rfl;refine Cgb (Q:=λ r=>r=J3 w) ?_ (by rintro r rfl;exact Cfb rfl);refine Cob (L:=λ k i (v:Wld)=>Bp k Dh (w.2.2.1.length:Int) i v) (Q:=λ r=>r=J3 w) w.2.2.1.length (λ j v=>v=run qtN j w) ?_ ?_ 0 w (Vu _) rfl
 ·rintro v rfl;simp (disch:=omega) only [Bp,dF];exact Cfb rfl
 ·rintro j v hj rfl next;rw[I7]at next;have hn:=J4a h j (by omega);have hv:=hn.wo h;have hl:=hn.len;generalize run qtN j w=v at *
  have hj':j<v.2.2.1.length:=by omega
  have e0:v.2.2.1.getD j ((0:Int),(([],[]),([],[])))=v.2.2.1.getD j A8:=rfl;simp (disch:=omega) only [Bp,dT,Vj,e0];refine Cgb (Dva _ (hv.ns.get hj')) ?_;rintro _ rfl;have e1:∀ ns:List Nod,ns.getD j ((0:Int),(([],[]),([],[])))=ns.getD j A8:=λ _=>rfl;have hsl:(v.2.2.1.set j (V5a (v.2.2.1.getD j A8)).1).length=v.2.2.1.length:=Vv ..;have hA:=J3a hv hj';have hAo:=hA.wo hv;have hAl:=hA.len;refine Cjb (by rw[hsl];omega) ?_;show Tot (λ k=>(Gl k ((qtA v j).2.2.1.getD j A8).2.1).bind λ r6=>(Be k Dh (j:Int) (w.2.2.1.length:Int) (j:Int) r6 (length r6:Int) 0 (qtA v j)).bind _) _;have hg:=St (hAo.ns.get (i:=j) (by omega));refine Cgb (T0a _ hg.1.1 hg.1.2) ?_;rintro _ rfl
  have hpl:(N9 ((qtA v j).2.2.1.getD j A8).2.1).length≤2000000:=by
   have a:=V4a ((qtA v j).2.2.1.getD j A8).2.1 ((qtA v j).2.2.1.getD j A8).2.1.1 [];rw[Vs]at a;have:=hg.1.1.2.1;unfold N9;omega
  have hP:=Ppa hv hj';have hPo:=hP.wo hv;have hPl:=hP.len;refine Cgb (Q:=λ r=>r=(Dh,(j:Int),(w.2.2.1.length:Int),(j:Int),qtP v j)) ?_ ?_
  ·have hfull:qtP v j=K7 (qtA v j) j (N9 ((qtA v j).2.2.1.getD j A8).2.1):=rfl;rw[hfull];generalize N9 ((qtA v j).2.2.1.getD j A8).2.1=l at *;refine Cob (L:=λ k i (u:Wld)=>Be k Dh (j:Int) (w.2.2.1.length:Int) (j:Int) l (l.length:Int) i u) (Q:=λ r=>r=(Dh,(j:Int),(w.2.2.1.length:Int),(j:Int),K7 (qtA v j) j l)) l.length (λ i u=>u=K7 (qtA v j) j (l.take i)) ?_ ?_ 0 _ (Vu _) rfl
   ·rintro u rfl;simp (disch:=omega) only [Be,dF];exact Cfb (by rw[Zf])
   ·rintro i u hi rfl next;have hq:=S5 (i:=j) (l.take i) hAo (by omega);have hqo:=hq.wo hAo;have hql:=hq.len;have e2:l.getD i (⟨#[]⟩:ByteArray)=l.getD i Le:=rfl;simp (disch:=omega) only [Be,dT,Vj,w64,e2];refine Cgb (Iwa _ j _ Dh hqo.ring hqo.ns (by omega)) ?_;rintro _ rfl;refine next _ ?_;unfold K7;rw[Wg hi,Dib,Vb,Vg hi];rfl
  ·rintro _ rfl;simp (disch:=omega) only [dT,Vj,e1];have hT:=Vea hv hj';have hTo:=hT.wo hv;have hTl:=hT.len;have hq60:=(Bx.1 (hPo.ns.get (i:=j) (by omega)).1).2.2.2.2;refine Cgb (Q:=λ r=>r=(Dh,(j:Int),(w.2.2.1.length:Int),(j:Int),qtT v j)) ?_ ?_
   ·have hfull:qtT v j=Jq (qtP v j) j ((qtP v j).2.2.1.getD j A8).2.2.2.length:=rfl;rw[hfull];generalize ((qtP v j).2.2.1.getD j A8).2.2.2.length=q at *;refine Cob (L:=λ k i (u:Wld)=>Bg k Dh (j:Int) (w.2.2.1.length:Int) (j:Int) (q:Int) i u) (Q:=λ r=>r=(Dh,(j:Int),(w.2.2.1.length:Int),(j:Int),Jq (qtP v j) j q)) q (λ i u=>u=Jq (qtP v j) j i) ?_ ?_ 0 _ (Vu _) rfl
    ·rintro u rfl;simp (disch:=omega) only [Bg,dF];exact Cfb rfl
    ·rintro i u hi rfl next;have hq:=M9 hPo (i:=j) (by omega) i;have hqo:=hq.wo hPo;have hql:=hq.len;simp (disch:=omega) only [Bg,dT,w64];refine Cgb (E4a _ j Dh (Jp hqo.ring) hqo.ns (by omega)) ?_;rintro _ rfl;exact next _ rfl
   ·rintro _ rfl;refine Cgb (E3a (qtT v j) j Dh (Jp hTo.ring) hTo.ns (by omega)) ?_;rintro _ rfl;simp (disch:=omega) only [w64];exact next _ rfl
def J6a (w:Wld):Wld:=bif Na w then J3 w else w
def Kva {m:Nat} {w:Wld} (h:WIm m w) (hm:m≤1999000):Tot (λ k=>Hm k w) (λ r=>r=J6a w):=by
 have hw:=h.win (by omega);unfold Hm J6a;refine Cgb (Oc h (by omega)) ?_;rintro w rfl;refine Cgb (O7 w hw) ?_;rintro b rfl
 cases hk:Na w with
 |false=>exact Chb rfl (Cfb rfl)
 |true=>
  refine Cib rfl (Cgb (Kua (h.wo hk)) ?_);rintro _ rfl;exact Cfb rfl

def Y5 (nm:List ByteArray) (ws:List Wri):Prop:=nm.length≤60∧∀ x∈ws,x.1∈nm
def Y6 {nm:List ByteArray} {l:List Nmd} (hs:Db l) (h:∀ x∈l,x.1∈nm) (hn:nm.length≤60):l.length≤60:=by
 have hp:(l.map (·.1)).Pairwise (λ a b=>tlt a b=true):=Zi.2 hs;have hd:(l.map (·.1)).Nodup:=hp.imp (λ {a b} hab e=>by subst e;rw[Ek]at hab;cases hab);have:=Qx _ nm hd (λ s hs=>by obtain⟨x,hx,rfl⟩:=Yt.1 hs;exact h x hx);rw[Vz]at this;omega
def Vfa {nm:List ByteArray} {l:List Nmd} {s:ByteArray} {b:List Int} (hl:Db l) (h:∀ x∈l,x.1∈nm) (hs:s∈nm) (hn:nm.length≤60):(wr l s b).length≤60:=by
 have hso:Db (wr l s b):=Ox (Jn hl) Uz;refine Y6 hso (λ x hx=>?_) hn;have hg:=Fza hso hx;rw[Wv hl]at hg
 by_cases e:s=x.1
 ·rw[← e];exact hs
 ·rw[if_neg e]at hg;exact h _ (Kd hg)
section
variable {nm:List ByteArray} {ws:List Wri} {sp:List ByteArray} {d:Dsk} {s:ByteArray} {f:Fil}
def Pqa (hN:Y5 nm ws) (hf:IsW ws s f):s∈nm:=by
 obtain⟨x,hx,rfl,_⟩:=hf;exact hN.2 x hx
def Tia (hN:Y5 nm ws) (hd:C9 d=true) (h:DI ws sp d):(∀ x∈d.1,x.1∈nm)∧∀ x∈d.2,x.1∈nm:=by
 refine⟨λ x hx=>?_,λ x hx=>?_⟩
 ·obtain⟨f,hf,_⟩:=(h x.1).1 _ (Fza (Hq hd) hx);exact Pqa hN hf
 ·obtain⟨f,hf,_⟩:=(h x.1).2.1 _ (Fza (Kt hd) hx);exact Pqa hN hf
def Ma (o:Option Fil) (f:Fil):Fil:=match o with
 |some g=>bif sle g.1 f.1 then f else g
 |none=>f
def Gla (o:Option Fil) (f:Fil):Ma (some (Ma o f)) f=Ma o f:=by
 cases o with
 |none=>simp[Ma]
 |some g=>cases h:sle g.1 f.1<;>simp[Ma,h]
def Tja (hw:Bca ws) (hN:Y5 nm ws) (hd:DG d) (h:DI ws sp d) (hf:IsW ws s f):
  ((keep d s f true).2=0∨(keep d s f true).2=1)∧∀ t,old (keep d s f true).1 t=if s=t then some (Ma (old d s) f) else old d t:=by
 obtain⟨g1,g2,g3⟩:=hf.good hw;have hs:=Pqa hN hf;obtain⟨n1,n2⟩:=Tia hN hd.1 h;have l1:∀ b,(wr d.1 s b).length≤60:=λ b=>Vfa (Hq hd.1) n1 hs hN.1;have h2s:Db d.2:=Kt hd.1
 have l2:∀ l:List Nmd,(sy (l,d.2) s).length≤60:=λ l=>by
  unfold sy
  cases gt l s with
  |some b=>exact Vfa h2s n2 hs hN.1
  |none=>exact Y6 (Jn h2s) (λ x hx=>n2 x (Dfb.1 hx).1) hN.1
 rw[O3 hd.1 g1 g2];rcases Oz (f:=f) (sure:=true) hd g1 with k|⟨o,h1,h2,h3,_,h5⟩|⟨h1,_,h3,_,h5⟩
 ·exfalso
  have hwr:wrD d s (G5 f)=((wr d.1 s (G5 f),d.2),true):=by
   unfold wrD;rw[decide_eq_true (show (G5 f).length≤400 by have:=Tb f;omega),decide_eq_true (l1 _)];rfl
  have hsy:∀ l:List Nmd,(syD (l,d.2) s).2=true:=λ l=>by
   unfold syD;rw[decide_eq_true (l2 l)];rfl
  have k2:∀ (l:List Nmd) (c:Int),(kp2 d s true ((l,d.2),c)).2=c:=λ l c=>by
   unfold kp2;rw[cond_true,hsy l];rfl
  have k3:=congrArg Prod.snd k;unfold Jc kp1 at k3;rw[hwr]at k3
  cases ho:old d s with
  |none=>
   rw[ho]at k3;have:(kp2 d s true ((wr d.1 s (G5 f),d.2),0)).2=3:=k3;rw[k2]at this;cases this
  |some o=>
   rw[ho]at k3
   cases hc:sle o.1 f.1 with
   |true=>
    simp only[hc,cond_true]at k3;rw[k2]at k3;cases k3
   |false=>
    simp only[hc,cond_false]at k3;have:(kp2 d s true ((d.1,d.2),1)).2=3:=k3;rw[k2]at this;cases this
 ·refine⟨.inr h3,λ t=>?_⟩;rcases h5 with⟨c,_⟩|⟨_,e⟩
  ·cases c
  ·rw[e];show old d t=_
   by_cases hst:s=t
   ·subst hst;rw[if_pos rfl,h1];simp[Ma,h2]
   ·rw[if_neg hst]
 ·refine⟨.inl h3,λ t=>?_⟩;rcases h5 with⟨c,_⟩|⟨_,e⟩
  ·cases c
  ·rw[e];show (gt (wr d.1 s (G5 f)) t).bind Ka=_;rw[Wv (Hq hd.1)]
   by_cases hst:s=t
   ·rw[if_pos hst,if_pos hst,Vt,Mx g2 g3]
    cases ho:old d s with
    |none=>rfl
    |some o=>simp[Ma,h1 o ho]
   ·rw[if_neg hst,if_neg hst];rfl
end
def Pra {d:Dsk} {s:ByteArray} (hd:DG d) (hg:(gt d.1 s).isSome=true) (t:ByteArray):old (syD (rmD d s).1 s).1 t=if s=t then none else old d t:=by
 have e1:(syD (rmD d s).1 s).1.1=cut d.1 s:=by
  have e:(rmD d s).1=(cut d.1 s,d.2):=by unfold rmD;rw[hg];rfl
  rw[e];unfold syD
  cases decide ((sy (cut d.1 s,d.2) s).length≤60)<;>rfl
 unfold old;rw[e1,Qp (Hq hd.1)]
 by_cases h:s=t
 ·rw[if_pos h,if_pos h];rfl
 ·rw[if_neg h,if_neg h]
def E9a {d:Dsk} (hd:DG d) (t:ByteArray):old (Ji d).1 t=old d t:=by
 obtain⟨_,h⟩:=Pu d.1 (d,0) hd;unfold old
 by_cases hb:t∈B6a d.1
 ·obtain⟨b,h1,h2⟩:=(Ioa hd.1).1 hb;rw[show gt (Ji d).1.1 t=none from ((h t).1 hb).1,h1,Vt,h2];rfl
 ·rw[show gt (Ji d).1.1 t=gt d.1 t from ((h t).2 hb).1]
def J7a {d:Dsk} {s:ByteArray}:((lkD d s).2 != 0)=(old d s).isNone:=by
 unfold lkD old
 cases gt d.1 s with
 |none=>rfl
 |some b=>cases h:Ka b<;>simp[h]
def Px {d:Dsk} {s:ByteArray} {f:Fil} (h:old d s=some f):lkD d s=(f,0):=by
 unfold old at h
 cases hg:gt d.1 s with
 |none=>rw[hg]at h;cases h
 |some b=>rw[hg]at h;exact M7.2 ⟨b,hg,h⟩
def Psa (id:Int):∀ {ns ms:List Nod} (i:Nat),ms.map (·.1)=ns.map (·.1)→atN ms id i=atN ns id i
 |[],[],_,_=>rfl
 |n::ns,m::ms,i,h=>by
  rw[Ya,Ya,Yh]at h;unfold atN;rw[h.1,Psa id (i+1) h.2]
 |[],_::_,_,h=>by cases h
 |_::_,[],_,h=>by cases h
def S6 {ns ms:List Nod} (h:ms.map (·.1)=ns.map (·.1)) (ids:List Int):whr ms ids=whr ns ids:=by
 unfold whr;congr 1;funext id;exact Psa id 0 h
def Gma (id:Int):∀ (ns:List Nod) (i:Nat),(ns.map (·.1)).Nodup→(atN ns id i).length≤1
 |[],_,_=>Vu _
 |n::ns,i,h=>by
  rw[Ya,Yl]at h;have ih:=Gma id ns (i+1) h.2;unfold atN
  cases hx:n.1==id with
  |false=>exact ih
  |true=>
   have he:atN ns id (i+1)=[]:=by
    refine Ejb.2 λ x hx'=>?_;obtain⟨j,h1,h2,_⟩:=(Rx id ns (i+1) x).1 hx';refine h.1 ?_;rw[eq_of_beq hx,← h2];exact Ym (A3 h1)
   rw[cond_true,he];exact Vw _
def Gna {ns:List Nod} (h:(ns.map (·.1)).Nodup):∀ (ids:List Int),(whr ns ids).length≤ids.length
 |[]=>Vu _
 |id::ids=>by
  rw[Ti,Vi,Vh];have:=Gma id ns 0 h;have:=Gna h ids;omega
def WO.nodup {w:Wld} (h:WO w):(w.2.2.1.map (·.1)).Nodup:=by
 rw[h.ids];have hp:=(D7.1 (Bl.1 h.ring).1).1;have hq:(w.1.map (·.1)).Pairwise (λ a b=>a<b):=Zi.2 hp;exact hq.imp (λ {a b} hab e=>by omega)
def WO.prim5 {w:Wld} (h:WO w) (s:ByteArray):(I1 w s).length≤5:=by
 have h1:=Gna h.nodup (O5 w.2.1 s);have h2:=(O6 h.ring s).2.1;have h3:=(Bl.1 h.ring).2.1;unfold I1;omega
def Asb {j:Nat} (h:j<12):rch Dh j=1:=by
 unfold rch;rw[decide_eq_true (show j<Dh.length from h)]
 have:Dh.getD j 0=1:=by
  match j,h with
  |0,_|1,_|2,_|3,_|4,_|5,_|6,_|7,_|8,_|9,_|10,_|11,_=>rfl
 rw[this];rfl
def Mb {α:Type} (bs:Option α→α→α) (P:Nat→Bool) (i:Nat) (c:Nat→Option α) (m:Nat):Option α:=match c i with
 |none=>c m
 |some f=>bif P m&&!(decide (m=i)) then some (bs (c m) f) else bif decide (m=i)&&!(P i) then none else c m
def oN (ns:List Nod) (m:Nat) (t:ByteArray):Option Fil:=old (ns.getD m A8).2.1 t
def inP (w:Wld) (t:ByteArray) (m:Nat):Bool:=Hr (I1 w t) (m:Int)
def Y2a {nm:List ByteArray} {w:Wld} (h:WI w) (hN:Y5 nm w.2.2.2.2.1) {i:Nat} (hi:i<w.2.2.1.length) {s:ByteArray} {f:Fil} (hf:oN w.2.2.1 i s=some f):
  (puN w i s Dh).2.2=true∧(puN w i s Dh).2.1=inP w s i∧NR w.2.2.2.2.1 w.2.2.2.2.2 w.2.2.1 (puN w i s Dh).1∧
  ∀ m,m<w.2.2.1.length→∀ t,oN (puN w i s Dh).1 m t=bif teq s t&&(inP w s m&&!(decide (m=i))) then some (Ma (oN w.2.2.1 m s) f) else oN w.2.2.1 m t:=by
 have h5:=h.wo.prim5 s;have hIW:IsW w.2.2.2.2.1 s f:=ED.now h.wok ((h.nodes _ (A3 (d:=A8) hi)).2.1 s) hf
 have hlk:(lkD (w.2.2.1.getD i A8).2.1 s).1=f:=by rw[Px hf]
 have hat:=λ x=>Lj (w:=w) (s:=s) (x:=x);unfold puN inP;rw[hlk];generalize I1 w s=ps at *
 have key:=Hz (st:=pst (i:Int) s f Dh ps) (n:=ps.length) (a:=(w.2.2.1,false,true)) (λ j (a:List Nod×Bool×Bool)=>a.2.2=true∧a.2.1=Hr (ps.take j) (i:Int)∧NR w.2.2.2.2.1 w.2.2.2.2.2 w.2.2.1 a.1∧
  ∀ m,m<w.2.2.1.length→∀ t,oN a.1 m t=bif teq s t&&(Hr (ps.take j) (m:Int)&&!(decide (m=i))) then some (Ma (oN w.2.2.1 m s) f) else oN w.2.2.1 m t) ?_ ?_
 ·rw[Zf]at key;exact key
 ·exact⟨rfl,rfl,NR.refl h.nodes,λ m _ t=>by
   show _=bif teq s t&&(false&&_) then _ else _
   rw[Zc,Yp]
   rfl⟩
 ·rintro j ⟨ns,o,g⟩ hj ⟨a1,a2,a3,a4⟩;dsimp only at a1 a2 a3 a4;subst a1;have hpx:=hat _ (A3 (d:=0) hj);obtain⟨p,hp⟩:∃ p:Nat,ps.getD j 0=(p:Int):=⟨(ps.getD j 0).toNat,by omega⟩
  have htk:∀ x:Int,Hr (ps.take (j+1)) x=(Hr (ps.take j) x||(p:Int)==x):=λ x=>by
   have e:ps[j]=(p:Int):=by rw[← hp,Vb,Vg hj];rfl
   unfold Hr;rw[Wg hj,Fob,e,Eub,Fvb,Czb]
  have hnl:=a3.len;unfold pst;rw[hp,Vj,Asb (by omega)]
  cases hpi:(p:Int)==(i:Int) with
  |true=>
   have e:p=i:=by have:=eq_of_beq hpi;omega
   refine⟨rfl,?_,a3,λ m hm t=>?_⟩
   ·show true=_;rw[htk,hpi,Bool.or_true]
   ·show oN ns m t=_;rw[a4 m hm t,htk,e]
    by_cases hmi:m=i
    ·rw[decide_eq_true hmi];simp
    ·rw[show ((i:Int)==(m:Int))=false by rw[beq_eq_false_iff_ne];omega,Czb]
  |false=>
   have e:p≠i:=by intro e;rw[e,beq_self_eq_true]at hpi;cases hpi
   have hpn:p<ns.length:=by omega
   have hni:=a3.1 _ (A3 (d:=A8) hpn);obtain⟨k1,k2⟩:=Tja h.wok hN hni.1.g hni.2.1 hIW;obtain⟨d1,d2⟩:=Gea (sure:=true) h.wok hni.1.g hni.2.1 hIW
   have hcode:((keep (ns.getD p A8).2.1 s f true).2 != 0&&(keep (ns.getD p A8).2.1 s f true).2 != 1)=false:=by
    rcases k1 with k|k<;>rw[k]<;>rfl
   refine⟨?_,?_,a3.set hpn ⟨V8 hni.1,d1,hni.2.2⟩ rfl d2,λ m hm t=>?_⟩
   ·show (bif ((keep (ns.getD p A8).2.1 s f true).2 != 0&&(keep (ns.getD p A8).2.1 s f true).2 != 1) then false else true)=true;rw[hcode];rfl
   ·show o=_;rw[a2,htk,hpi,Czb]
   ·show oN (ns.set p _) m t=_;unfold oN;rw[E5 (show m<ns.length by omega),htk]
    by_cases hpm:p=m
    ·subst hpm;rw[if_pos rfl,beq_self_eq_true,Bool.or_true,Wf,decide_eq_false e,Zs,Cyb];show old (keep (ns.getD p A8).2.1 s f true).1 t=_;rw[k2 t];have a4s:=a4 p hm s;have a4t:=a4 p hm t;unfold oN at a4s a4t;rw[decide_eq_false e,Zs,Cyb]at a4s a4t
     by_cases hst:s=t
     ·subst hst;rw[if_pos rfl,show teq s s=true from Cn.2 rfl,cond_true,a4s,show teq s s=true from Cn.2 rfl,Wf]
      cases Hr (ps.take j) (p:Int) with
      |true=>rw[cond_true,Gla]
      |false=>rfl
     ·have ht:teq s t=false:=by cases hq:teq s t with|false=>rfl|true=>exact absurd (Cn.1 hq) hst
      rw[if_neg hst,ht,cond_false,a4t,ht,Zc,cond_false]
    ·rw[if_neg hpm,show ((p:Int)==(m:Int))=false by rw[beq_eq_false_iff_ne];omega,Czb];exact a4 m hm t
def WI.push {w:Wld} (h:WI w) {i:Nat} (hi:i<w.2.2.1.length) (s:ByteArray) (rc:List Int):WI (N2 w i s rc).2:=h.other' (Bda h.wok h.nodes hi h.ring h.ids)
def Tka {nm:List ByteArray} {w:Wld} (h:WI w) (hN:Y5 nm w.2.2.2.2.1) {i:Nat} (hi:i<w.2.2.1.length) (s:ByteArray) {m:Nat} (hm:m<w.2.2.1.length) (t:ByteArray):
  oN (N2 w i s Dh).2.2.2.1 m t=bif teq s t then Mb Ma (inP w s) i (λ m=>oN w.2.2.1 m s) m else oN w.2.2.1 m t:=by
 have hst:∀ {t:ByteArray},teq s t=true→s=t:=λ h=>Cn.1 h;unfold N2;rw[J7a]
 cases ho:oN w.2.2.1 i s with
 |none=>
  have:old (w.2.2.1.getD i A8).2.1 s=none:=ho;rw[this];show oN w.2.2.1 m t=_
  cases ht:teq s t with
  |false=>rfl
  |true=>rw[cond_true,← hst ht];unfold Mb;simp only[ho]
 |some f=>
  have e1:old (w.2.2.1.getD i A8).2.1 s=some f:=ho;rw[e1];obtain⟨p1,p2,p3,p4⟩:=Y2a h hN hi ho;show oN (bif (puN w i s Dh).2.2&&!(puN w i s Dh).2.1 then (puN w i s Dh).1.set i (Yqa ((puN w i s Dh).1.getD i A8) s) else (puN w i s Dh).1) m t=_;rw[p1,p2,Wf];have hlen:=p3.len
  have Dwa:Mb Ma (inP w s) i (λ m=>oN w.2.2.1 m s) m=bif inP w s m&&!(decide (m=i)) then some (Ma (oN w.2.2.1 m s) f) else bif decide (m=i)&&!(inP w s i) then none else oN w.2.2.1 m s:=by
   unfold Mb;simp only[ho]
  cases hin:inP w s i with
  |true=>
   rw[Zb,cond_false,p4 m hm t,Dwa,hin]
   cases ht:teq s t with
   |false=>rfl
   |true=>
    rw[hst ht,Wf,cond_true,Zb,Yp,cond_false]
  |false=>
   rw[Zs,cond_true,Dwa,hin];unfold oN;rw[E5 (show m<(puN w i s Dh).1.length by omega)]
   by_cases hmi:i=m
   ·subst hmi;rw[if_pos rfl,hin,Zc,cond_false,decide_eq_true rfl,Zs,Wf,cond_true];have hg:=(p3.1 _ (A3 (d:=A8) (show i<(puN w i s Dh).1.length by omega))).1.g;have p4s:=p4 i hi s;have p4t:=p4 i hi t;rw[hin,Zc,Yp,cond_false]at p4s p4t
    have hgs:(gt ((puN w i s Dh).1.getD i A8).2.1.1 s).isSome=true:=by
     have:old ((puN w i s Dh).1.getD i A8).2.1 s=some f:=p4s.trans ho;unfold old at this
     cases hq:gt ((puN w i s Dh).1.getD i A8).2.1.1 s with
     |none=>rw[hq]at this;cases this
     |some b=>rfl
    show old (syD (rmD ((puN w i s Dh).1.getD i A8).2.1 s).1 s).1 t=_;rw[Pra hg hgs t]
    cases ht:teq s t with
    |true=>rw[if_pos (hst ht)];rfl
    |false=>
     rw[if_neg (λ e=>by rw[e,show teq t t=true from Cn.2 rfl]at ht;cases ht)];exact p4t
   ·rw[if_neg hmi,decide_eq_false (λ e=>hmi e.symm)];have:=p4 m hm t;unfold oN at this;rw[this,decide_eq_false (λ e=>hmi e.symm)]
    cases ht:teq s t with
    |false=>rfl
    |true=>
     rw[hst ht,Wf,cond_true,Zc,cond_false]

structure BOk {α:Type} (bs:Option α→α→α) (le:α→α→Prop):Prop where
 rf:∀ a,le a a
 tr:∀ {a b c},le a b→le b c→le a c
 up:∀ o f,le f (bs o f)
 ub:∀ g f,le g (bs (some g) f)
 oo:∀ o f,bs o f=f∨o=some (bs o f)
def J8a {α:Type} (k:Nat) (P:Nat→Bool) (c:Nat→Option α):Prop:=∀ m,m<k→P m=false→c m=none
def InK {α:Type} (le:α→α→Prop) (k n:Nat) (P:Nat→Bool) (c:Nat→Option α):Prop:=∀ q,q<k→P q=true→∀ x,c q=some x→∀ p,p<n→P p=true→∃ y,c p=some y∧le x y
section
variable {α:Type} {bs:Option α→α→α} {le:α→α→Prop} {P:Nat→Bool} {c c':Nat→Option α} {k n:Nat}
def W0 {i m:Nat} (h1:c i=c' i) (h2:c m=c' m):Mb bs P i c m=Mb bs P i c' m:=by
 unfold Mb;rw[h1,h2]
def J8a.eq (h:J8a k P c) (hk:k≤n) (e:∀ m,m<n→c' m=c m):J8a k P c':=λ m hm hp=>by rw[e m (by omega)];exact h m hm hp
def InK.eq (h:InK le k n P c) (hk:k≤n) (e:∀ m,m<n→c' m=c m):InK le k n P c':=λ q hq hp x hx p hp1 hp2=>by
 rw[e q (by omega)]at hx;rw[e p hp1];exact h q hq hp x hx p hp1 hp2
def J8a.ostep (h:J8a k P c):J8a (k+1) P (Mb bs P k c):=λ m hm hp=>by
 unfold Mb
 cases hk:c k with
 |none=>
  dsimp only
  by_cases e:m=k
  ·rw[e];exact hk
  ·exact h m (by omega) hp
 |some f=>
  dsimp only;rw[hp,Bool.false_and,cond_false]
  by_cases e:m=k
  ·rw[decide_eq_true e,← e,hp];rfl
  ·rw[decide_eq_false e];exact h m (by omega) hp
def InK.istep (hb:BOk bs le) (h:InK le k n P c):InK le (k+1) n P (Mb bs P k c):=by
 intro q hq hPq x hx p hp hPp
 cases hk:c k with
 |none=>
  have e:Mb bs P k c=c:=by funext m;unfold Mb;rw[hk]
  rw[e]at hx ⊢
  by_cases hqk:q=k
  ·rw[hqk,hk]at hx;cases hx
  ·exact h q (by omega) hPq x hx p hp hPp
 |some f=>
  have st:∀ m,P m=true→Mb bs P k c m=if m=k then some f else some (bs (c m) f):=λ m hm=>by
   unfold Mb;rw[hk];dsimp only
   by_cases e:m=k
   ·rw[if_pos e,decide_eq_true e,← e,hm,e,hk];rfl
   ·rw[if_neg e,decide_eq_false e,hm];rfl
  rw[st q hPq]at hx;rw[st p hPp]
  by_cases hqk:q=k
  ·rw[if_pos hqk]at hx;obtain rfl:=Deb hx
   by_cases hpk:p=k
   ·rw[if_pos hpk];exact⟨f,rfl,hb.rf f⟩
   ·rw[if_neg hpk];exact⟨_,rfl,hb.up _ f⟩
  ·rw[if_neg hqk]at hx;cases hx;rcases hb.oo (c q) f with e|e
   ·rw[e]
    by_cases hpk:p=k
    ·rw[if_pos hpk];exact⟨f,rfl,hb.rf f⟩
    ·rw[if_neg hpk];exact⟨_,rfl,hb.up _ f⟩
   ·obtain⟨y,h1,h2⟩:=h q (by omega) hPq _ e p hp hPp
    by_cases hpk:p=k
    ·rw[hpk,hk]at h1;obtain rfl:=Deb h1;rw[if_pos hpk];exact⟨f,rfl,h2⟩
    ·rw[if_neg hpk,h1];exact⟨_,rfl,hb.tr h2 (hb.ub y f)⟩
def gvC {α:Type} (bs:Option α→α→α) (P:Nat→Bool) (f:α) (c:Nat→Option α) (m:Nat):Option α:=bif P m then some (bs (c m) f) else c m
def J8a.gv {f:α} (h:J8a k P c):J8a k P (gvC bs P f c):=λ m hm hp=>by
 unfold gvC;rw[hp];exact h m hm hp
def InK.gv {f:α} (hb:BOk bs le) (h:InK le k n P c):InK le k n P (gvC bs P f c):=by
 intro q hq hPq x hx p hp hPp;unfold gvC at hx ⊢;rw[hPq,cond_true]at hx;rw[hPp,cond_true];cases hx;rcases hb.oo (c q) f with e|e
 ·rw[e];exact⟨_,rfl,hb.up _ f⟩
 ·obtain⟨y,h1,h2⟩:=h q hq hPq _ e p hp hPp;rw[h1];exact⟨_,rfl,hb.tr h2 (hb.ub y f)⟩
end
def leF (a b:Fil):Prop:=sle b.1 a.1=false
def Atb:BOk Ma leF where
 rf:=λ a=>Gu _
 tr:=λ h1 h2=>Sj h2 h1
 up:=λ o f=>by
  cases o with
  |none=>exact Gu _
  |some g=>cases h:sle g.1 f.1<;>simp[leF,Ma,h,Gu]
 ub:=λ g f=>by
  cases h:sle g.1 f.1<;>simp[leF,Ma,h,Gu]
  exact Oa h
 oo:=λ o f=>by
  cases o with
  |none=>exact .inl rfl
  |some g=>cases h:sle g.1 f.1<;>simp[Ma,h]
def leR (a b:Row):Prop:=Ie b a=false
def Kwa (o:Option Row) (f:Row):Row:=match o with
 |some g=>mx g f
 |none=>f
def Qy (a:Row):Ie a a=false:=by
 cases h:Ie a a
 ·rfl
 have:=Pp h;rw[h]at this;cases this
def Vga:BOk Kwa leR where
 rf:=Qy
 tr:=λ {a b c} h1 h2=>by
  unfold leR at *
  have n1:¬ Ie b a=true:=by rw[h1];decide
  have n2:¬ Ie c b=true:=by rw[h2];decide
  cases h:Ie c a
  ·rfl
  rw[Uo]at n1 n2 h
  cases ha:a.2.2.1<;>cases hb:b.2.2.1<;>cases hc:c.2.2.1<;>simp only[ha,hb,hc]at h n1 n2<;>simp at h n1 n2<;>omega
 up:=λ o f=>by
  cases o with
  |none=>exact Qy _
  |some g=>cases h:Ie g f<;>simp[leR,Kwa,mx,h,Qy]
 ub:=λ g f=>by
  cases h:Ie g f<;>simp[leR,Kwa,mx,h,Qy]
  exact Pp h
 oo:=λ o f=>by
  cases o with
  |none=>exact .inl rfl
  |some g=>cases h:Ie g f<;>simp[Kwa,mx,h]
def NR.trans {ws:List Wri} {sp:List ByteArray} {a b c:List Nod} (h1:NR ws sp a b) (h2:NR ws sp b c):NR ws sp a c:=⟨h2.1,h2.2.1.trans h1.2.1,λ s hs st h=>h2.2.2 s hs st (h1.2.2 s hs st h)⟩
def SW (w v:Wld):Prop:=∃ ns,v=wN w ns∧NR w.2.2.2.2.1 w.2.2.2.2.2 w.2.2.1 ns
section
variable {w v u:Wld}
def SW.refl (h:WI w):SW w w:=⟨w.2.2.1,rfl,NR.refl h.nodes⟩
def SW.trans (h1:SW w v) (h2:SW v u):SW w u:=by
 obtain⟨a,rfl,ha⟩:=h1;obtain⟨b,rfl,hb⟩:=h2;exact⟨b,rfl,ha.trans hb⟩
def SW.wi (h:SW w v) (hw:WI w):WI v:=by
 obtain⟨ns,rfl,hn⟩:=h;exact hw.other hn
def SW.len (h:SW w v):v.2.2.1.length=w.2.2.1.length:=by
 obtain⟨ns,rfl,hn⟩:=h;exact hn.len
def SW.ws (h:SW w v):v.2.2.2.2.1=w.2.2.2.2.1:=by
 obtain⟨ns,rfl,hn⟩:=h;rfl
def SW.inP (h:SW w v) (t:ByteArray):inP v t=inP w t:=by
 obtain⟨ns,rfl,hn⟩:=h;funext m;unfold Vf.inP I1;rw[show (wN w ns).2.2.1=ns from rfl,S6 hn.2.1]
def Pta (h:WI w) {i:Nat} (hi:i<w.2.2.1.length) (s:ByteArray):SW w (N2 w i s Dh).2:=Bda h.wok h.nodes hi h.ring h.ids
def Y3a (h:WI w) {i:Nat} (hi:i<w.2.2.1.length):SW w (P3 w i Dh).2:=Iva h.nodes hi
def Y4a (h:WI w) {i:Nat} (hi:i<w.2.2.1.length):SW w (N3 w i Dh).2:=Iua h.nodes hi
def Vha (h:WI w) {i:Nat} (hi:i<w.2.2.1.length):SW w (qtA w i):=by
 have hni:=h.nodes _ (A3 (d:=A8) hi);obtain⟨c1,c2⟩:=Ita h.wok hni.1.g hni.2.1;exact⟨_,rfl,(NR.refl h.nodes).set hi ⟨Ipa hni.1,c1,hni.2.2⟩ rfl c2⟩
end
def RQ (ns ms:List Nod):Prop:=∀ m,(ms.getD m A8).2.2=(ns.getD m A8).2.2
def RQ.set {ns ms:List Nod} (h:RQ ns ms) {p:Nat} {x:Nod} (hx:x.2.2=(ms.getD p A8).2.2):RQ ns (ms.set p x):=λ m=>by
 rw[← h m]
 by_cases hm:m<ms.length
 ·rw[E5 hm]
  by_cases e:p=m
  ·rw[if_pos e,hx,e]
  ·rw[if_neg e]
 ·rw[Vb,Vb,Yx (by rw[Vv];omega),Yx (by omega)]
def Aub (w:Wld) (i:Nat) (s:ByteArray) (rc:List Int):RQ w.2.2.1 (puN w i s rc).1:=by
 unfold puN;refine Hz (λ _ (a:List Nod×Bool×Bool)=>RQ w.2.2.1 a.1) (λ _=>rfl) ?_;rintro j ⟨ns,o,g⟩ hj a1;dsimp only at a1;unfold pst
 cases (I1 w s).getD j 0==(i:Int) with
 |true=>exact a1
 |false=>
  cases rch rc j != 1 with
  |true=>exact a1
  |false=>exact a1.set rfl
def Tla (w:Wld) (i:Nat) (s:ByteArray) (rc:List Int):RQ w.2.2.1 (N2 w i s rc).2.2.2.1:=by
 have h:=Aub w i s rc;unfold N2
 cases (lkD (w.2.2.1.getD i A8).2.1 s).2 != 0 with
 |true=>exact λ _=>rfl
 |false=>
  show RQ w.2.2.1 (bif (puN w i s rc).2.2&&!(puN w i s rc).2.1 then (puN w i s rc).1.set i (Yqa ((puN w i s rc).1.getD i A8) s) else (puN w i s rc).1)
  cases (puN w i s rc).2.2&&!(puN w i s rc).2.1 with
  |true=>exact h.set rfl
  |false=>exact h
def Pua {s t:ByteArray} (h:s≠t):teq s t=false:=by
 cases hq:teq s t with
 |false=>rfl
 |true=>exact absurd (Cn.1 hq) h
def Goa {l:List ByteArray} {t:ByteArray} (h:t∉l):T2a l t=false:=by
 cases hq:T2a l t with
 |false=>rfl
 |true=>exact absurd (Mz.1 hq) h
def Y7 {i:Nat}:∀ (l:List ByteArray) {w:Wld},WI w→i<w.2.2.1.length→SW w (K7 w i l)
 |[],w,h,_=>SW.refl h
 |s::l,w,h,hi=>by
  have h1:=Pta h hi s;exact h1.trans (Y7 l (h1.wi h) (by rw[h1.len];exact hi))
def Y8 {i:Nat}:∀ (l:List ByteArray) {w:Wld},RQ w.2.2.1 (K7 w i l).2.2.1
 |[],w=>λ _=>rfl
 |s::l,w=>λ m=>(Y8 l m).trans (Tla w i s Dh m)
def Y9 {nm:List ByteArray} {i:Nat} (t:ByteArray):∀ (l:List ByteArray) {w:Wld},WI w→Y5 nm w.2.2.2.2.1→i<w.2.2.1.length→l.Nodup→∀ m,m<w.2.2.1.length→
  oN (K7 w i l).2.2.1 m t=bif T2a l t then Mb Ma (inP w t) i (λ m=>oN w.2.2.1 m t) m else oN w.2.2.1 m t
 |[],w,_,_,_,_,m,_=>rfl
 |s::l,w,h,hN,hi,hl,m,hm=>by
  have h1:=Pta h hi s;obtain⟨hl1,hl2⟩:=Yl.1 hl;have ih:=Y9 (nm:=nm) t l (h1.wi h) (by rw[h1.ws];exact hN) (by rw[h1.len];exact hi) hl2 m (by rw[h1.len];exact hm);have pm:=λ m hm=>Tka h hN hi s (m:=m) hm t;show oN (K7 (N2 w i s Dh).2 i l).2.2.1 m t=_;rw[ih,h1.inP]
  by_cases ht:t∈l
  ·have hst:s≠t:=λ e=>hl1 (e ▸ ht);rw[Mz.2 ht,Mz.2 (Vd _ ht),cond_true,cond_true];refine W0 ?_ ?_
   ·show oN _ i t=_;rw[pm i hi,Pua hst];rfl
   ·show oN _ m t=_;rw[pm m hm,Pua hst];rfl
  ·rw[Goa ht,cond_false,pm m hm]
   by_cases hst:s=t
   ·subst hst;rw[Mz.2 Wj,Cn.2 rfl]
   ·rw[Goa (l:=s::l) (by rw[Vk];rintro (e|e);exact hst e.symm;exact ht e),Pua hst];rfl
def Kxa {d:Dsk} (hd:C9 d=true):(N9 d).Nodup:=by
 rw[T1a (Hq hd)];unfold Xja;have h1:Db (d.1.filter λ x=>(Ka x.2).isSome):=(Hq hd).sublist E3b;have hp:((d.1.filter λ x=>(Ka x.2).isSome).map Prod.fst).Pairwise (λ a b=>tlt a b=true):=Zi.2 h1;exact hp.imp (λ {a b} hab e=>by subst e;rw[Ek]at hab;cases hab)
def Pva {d:Dsk} {t:ByteArray} (h:t∉N9 d):old d t=none:=by
 have h1:¬ E6a d t:=λ c=>h (Pha.2 c);have h2:=J7a (d:=d) (s:=t);unfold E6a at h1
 cases h3:old d t with
 |none=>rfl
 |some f=>
  rw[h3]at h2;exact absurd (by simpa using h2) h1
def J9a {w:Wld} (h:WI w) {i:Nat} (hi:i<w.2.2.1.length) {m:Nat} (hm:m<w.2.2.1.length) (t:ByteArray):oN (qtA w i).2.2.1 m t=oN w.2.2.1 m t:=by
 show oN (w.2.2.1.set i (V5a (w.2.2.1.getD i A8)).1) m t=_;unfold oN;rw[E5 hm]
 by_cases e:i=m
 ·subst e;rw[if_pos rfl];exact E9a (h.nodes _ (A3 (d:=A8) hi)).1.g t
 ·rw[if_neg e]
def Avb {w:Wld} (h:WI w) {i:Nat} (hi:i<w.2.2.1.length):SW w (qtP w i):=by
 have h1:=Vha h hi;exact h1.trans (Y7 _ (h1.wi h) (by rw[h1.len];exact hi))
def Awb (w:Wld) (i:Nat):RQ w.2.2.1 (qtP w i).2.2.1:=λ m=>(Y8 _ m).trans ((show RQ w.2.2.1 w.2.2.1 from λ _=>rfl).set (p:=i) (x:=(V5a (w.2.2.1.getD i A8)).1) rfl m)
def Axb {nm:List ByteArray} {w:Wld} (h:WI w) (hN:Y5 nm w.2.2.2.2.1) {i:Nat} (hi:i<w.2.2.1.length) {m:Nat} (hm:m<w.2.2.1.length) (t:ByteArray):
  oN (qtP w i).2.2.1 m t=Mb Ma (inP w t) i (λ m=>oN w.2.2.1 m t) m:=by
 have h1:=Vha h hi
 have hi':i<(qtA w i).2.2.1.length:=by rw[h1.len];exact hi
 have hd:=((h1.wi h).nodes _ (A3 (d:=A8) hi')).1.g.1;have k:=Y9 (nm:=nm) t (N9 ((qtA w i).2.2.1.getD i A8).2.1) (h1.wi h) (by rw[h1.ws];exact hN) hi' (Kxa hd) m (by rw[h1.len];exact hm);show oN (K7 (qtA w i) i _).2.2.1 m t=_;rw[k,h1.inP]
 by_cases ht:t∈N9 ((qtA w i).2.2.1.getD i A8).2.1
 ·rw[Mz.2 ht];exact W0 (c:=λ m=>oN (qtA w i).2.2.1 m t) (c':=λ m=>oN w.2.2.1 m t) (J9a h hi hi t) (J9a h hi hm t)
 ·rw[Goa ht,cond_false,J9a h hi hm t];have e:oN w.2.2.1 i t=none:=(J9a h hi hi t).symm.trans (Pva ht);unfold Mb;dsimp only;rw[e]

def Tma {nm:List ByteArray} {ws:List Wri} (hN:Y5 nm ws) {a:List Row} (hs:Bq a) (h:∀ r∈a,Ry ws r=true):a.length≤60:=by
 have hp:(a.map (·.1)).Pairwise (λ a b=>tlt a b=true):=Zi.2 hs;have hd:(a.map (·.1)).Nodup:=hp.imp (λ {a b} hab e=>by subst e;rw[Ek]at hab;cases hab)
 have:=Qx _ nm hd (λ s hs=>by
  obtain⟨r,hr,rfl⟩:=Yt.1 hs;obtain⟨x,hx,rfl⟩:=Qw.1 (h r hr)
  exact hN.2 x hx)
 rw[Vz]at this;have:=hN.1;omega
def L7a (n:Nod) (l:List Row):Nod:=(n.1,n.2.1,N8 n.2.2.1 l,n.2.2.2)
def NI.rows {ws:List Wri} {sp:List ByteArray} {n:Nod} (h:NI ws sp n):Bq n.2.2.1:=(Im.1 (Bx.1 h.1.1).2.2.2.1).1
def Via {nm:List ByteArray} {ws:List Wri} {sp:List ByteArray} (hN:Y5 nm ws) {n:Nod} (h:NI ws sp n) {l:List Row} (hr:∀ r∈l,Ry ws r=true):tk n l=(true,L7a n l):=by
 have h1:(N8 n.2.2.1 l).length≤60:=Tma hN (Jl h.rows) (λ r hr'=>(Asa hr').elim (h.2.2.1 r) (hr r));unfold tk;rw[decide_eq_false (by omega)];rfl
def Eaa {nm:List ByteArray} {w:Wld} (h:WI w) (hN:Y5 nm w.2.2.2.2.1) {src:Int} {l:List Row} {self:Bool} (hl:I4 l=true) (hr:∀ r∈l,Ry w.2.2.2.2.1 r=true):
  (J5 w src l self Dh).2=true∧∀ m,m<w.2.2.1.length→(J5 w src l self Dh).1.getD m A8=bif inP w Md m&&!((m:Int)==src&&!self) then L7a (w.2.2.1.getD m A8) l else w.2.2.1.getD m A8:=by
 have h5:(Cm w).length≤5:=h.wo.prim5 Md;have hat:=λ x=>Kj (w:=w) (x:=x);have hls:=(Im.1 hl).1;unfold J5 inP;rw[show I1 w Md=Cm w from rfl];generalize Cm w=ps at *
 have key:=Hz (st:=gst src l self Dh ps) (n:=ps.length) (a:=(w.2.2.1,true)) (λ j (a:List Nod×Bool)=>a.2=true∧NR w.2.2.2.2.1 w.2.2.2.2.2 w.2.2.1 a.1∧
  ∀ m,m<w.2.2.1.length→a.1.getD m A8=bif Hr (ps.take j) (m:Int)&&!((m:Int)==src&&!self) then L7a (w.2.2.1.getD m A8) l else w.2.2.1.getD m A8) ?_ ?_
 ·rw[Zf]at key;exact⟨key.1,key.2.2⟩
 ·exact⟨rfl,NR.refl h.nodes,λ m _=>by
   show _=bif false&&_ then _ else _
   rw[Zc]
   rfl⟩
 ·rintro j ⟨ns,g⟩ hj ⟨a1,a3,a4⟩;dsimp only at a1 a3 a4;subst a1;have hpx:=hat _ (A3 (d:=0) hj);obtain⟨p,hp⟩:∃ p:Nat,ps.getD j 0=(p:Int):=⟨(ps.getD j 0).toNat,by omega⟩
  have htk:∀ x:Int,Hr (ps.take (j+1)) x=(Hr (ps.take j) x||(p:Int)==x):=λ x=>by
   have e:ps[j]=(p:Int):=by rw[← hp,Vb,Vg hj];rfl
   unfold Hr;rw[Wg hj,Fob,e,Eub,Fvb,Czb]
  have hnl:=a3.len
  have hpn:p<ns.length:=by omega
  have hni:=a3.1 _ (A3 (d:=A8) hpn);unfold gst;rw[hp,Vj,Asb (by omega),Via hN hni hr]
  cases hpi:(p:Int)==src&&!self with
  |true=>
   refine⟨rfl,a3,λ m hm=>?_⟩;show ns.getD m A8=_;rw[a4 m hm,htk]
   by_cases hmp:p=m
   ·subst hmp;rw[hpi,Zb,Yp,Yp]
   ·rw[show ((p:Int)==(m:Int))=false by rw[beq_eq_false_iff_ne];omega,Czb]
  |false=>
   have hnr:NI w.2.2.2.2.1 w.2.2.2.2.2 (L7a (ns.getD p A8) l):=by
    obtain⟨t1,_,_⟩:=Ajb (n:=ns.getD p A8) hni hl hr;rw[Via hN hni hr]at t1;exact t1
   refine⟨rfl,a3.set hpn hnr rfl (MO.refl _ _),λ m hm=>?_⟩;show (ns.set p (L7a (ns.getD p A8) l)).getD m A8=_;rw[E5 (show m<ns.length by omega),htk]
   by_cases hpm:p=m
   ·subst hpm;rw[if_pos rfl,beq_self_eq_true,Bool.or_true,Wf,hpi,Zs,cond_true,a4 p hm,hpi,Zs,Cyb]
    cases Hr (ps.take j) (p:Int) with
    |false=>rfl
    |true=>
     show L7a (L7a (w.2.2.1.getD p A8) l) l=L7a (w.2.2.1.getD p A8) l;unfold L7a;dsimp only;rw[O1a (h.nodes _ (A3 (d:=A8) hm)).rows hls]
   ·rw[if_neg hpm,show ((p:Int)==(m:Int))=false by rw[beq_eq_false_iff_ne];omega,Czb];exact a4 m hm
def Jaa {n:Nod} (h:n.2.2.2=[]):n=Xpa n []:=by
 obtain⟨a,b,c,d⟩:=n;dsimp only at h;subst h;rfl
def Pwa {nm:List ByteArray} {w:Wld} (h:WI w) (hN:Y5 nm w.2.2.2.2.1) {i:Nat} (hi:i<w.2.2.1.length) {m:Nat} (hm:m<w.2.2.1.length):
  (P3 w i Dh).2.2.2.1.getD m A8=Xpa (bif inP w Md m then L7a (w.2.2.1.getD m A8) ((w.2.2.1.getD i A8).2.2.2.take 1) else w.2.2.1.getD m A8) (bif decide (m=i) then (w.2.2.1.getD m A8).2.2.2.drop 1 else (w.2.2.1.getD m A8).2.2.2):=by
 have hni:=h.nodes _ (A3 (d:=A8) hi);have hq:=(Bx.1 hni.1.1).1;unfold P3
 cases hz:((w.2.2.1.getD i A8).2.2.2.length:Int)==0 with
 |true=>
  have e:(w.2.2.1.getD i A8).2.2.2=[]:=Wl (by have:=eq_of_beq hz;omega);rw[e];show w.2.2.1.getD m A8=_
  by_cases hmi:m=i
  ·subst hmi;rw[decide_eq_true rfl,e]
   cases inP w Md m with
   |true=>exact Jaa (n:=L7a (w.2.2.1.getD m A8) []) e
   |false=>exact Jaa e
  ·rw[decide_eq_false hmi]
   cases inP w Md m<;>rfl
 |false=>
  obtain⟨g1,g2⟩:=Eaa h hN (src:=(i:Int)) (self:=true) (Ku hq) (λ r hr=>hni.2.2.2 r (Csb hr));have gl:(K6 w i Dh).1.length=w.2.2.1.length:=(Bba (Ku hq) h.ns).2;rw[show J5 w (i:Int) ((w.2.2.1.getD i A8).2.2.2.take 1) true Dh=K6 w i Dh from rfl]at g1 g2;have g3:=g2 m hm;rw[Zb,Yp,Zs,Cyb]at g3;show (bif (K6 w i Dh).2 then (K6 w i Dh).1.set i (Xpa ((K6 w i Dh).1.getD i A8) ((w.2.2.1.getD i A8).2.2.2.drop 1)) else (K6 w i Dh).1).getD m A8=_;rw[g1,cond_true,E5 (by omega)]
  by_cases hmi:i=m
  ·subst hmi;rw[if_pos rfl,g3,decide_eq_true rfl,cond_true]
  ·rw[if_neg hmi,g3,decide_eq_false (λ e=>hmi e.symm),cond_false]
   cases inP w Md m<;>rfl
def Pxa {nm:List ByteArray} {w:Wld} (h:WI w) (hN:Y5 nm w.2.2.2.2.1) {i:Nat} (hi:i<w.2.2.1.length) {m:Nat} (hm:m<w.2.2.1.length):
  (N3 w i Dh).2.2.2.1.getD m A8=bif inP w Md m&&!(decide (m=i)) then L7a (w.2.2.1.getD m A8) (w.2.2.1.getD i A8).2.2.1 else bif decide (m=i)&&!(inP w Md i) then Qv (w.2.2.1.getD m A8) else w.2.2.1.getD m A8:=by
 have hni:=h.nodes _ (A3 (d:=A8) hi);have hro:=(Bx.1 hni.1.1).2.2.2.1;unfold N3
 cases hz:((w.2.2.1.getD i A8).2.2.1.length:Int)==0 with
 |true=>
  have e:(w.2.2.1.getD i A8).2.2.1=[]:=Wl (by have:=eq_of_beq hz;omega);rw[e];show w.2.2.1.getD m A8=_
  by_cases hmi:m=i
  ·subst hmi;rw[decide_eq_true rfl,Zb,Yp,cond_false]
   cases inP w Md m with
   |true=>rfl
   |false=>show _=Qv (w.2.2.1.getD m A8);unfold Qv;rw[← e]
  ·rw[decide_eq_false hmi]
   cases inP w Md m<;>rfl
 |false=>
  obtain⟨g1,g2⟩:=Eaa h hN (src:=(i:Int)) (self:=false) hro hni.2.2.1;have gn:NR w.2.2.2.2.1 w.2.2.2.2.2 w.2.2.1 (J5 w (i:Int) (w.2.2.1.getD i A8).2.2.1 false Dh).1:=Bea h.nodes hro hni.2.2.1;rw[show J5 w (i:Int) (w.2.2.1.getD i A8).2.2.1 false Dh=J2 w i Dh from rfl]at g1 g2 gn;have gl:=gn.len
  have eL:Hr (Cm (wN w (J2 w i Dh).1)) (i:Int)=inP w Md i:=by
   unfold Cm inP I1;rw[show (wN w (J2 w i Dh).1).2.2.1=(J2 w i Dh).1 from rfl,S6 gn.2.1]
  have gq:∀ q:Nat,((q:Int)==(i:Int)&&!false)=decide (q=i):=λ q=>by
   rw[Zs,Cyb]
   by_cases e:q=i
   ·rw[e,beq_self_eq_true,decide_eq_true rfl]
   ·rw[decide_eq_false e,beq_eq_false_iff_ne];omega
  have g3:=g2 m hm;rw[gq]at g3;show (bif (J2 w i Dh).2&&!(Hr (Cm (wN w (J2 w i Dh).1)) (i:Int)) then (J2 w i Dh).1.set i (Qv ((J2 w i Dh).1.getD i A8)) else (J2 w i Dh).1).getD m A8=_;rw[g1,Wf,eL]
  cases hin:inP w Md i with
  |true=>
   rw[Zb,cond_false,g3,Yp,cond_false]
  |false=>
   rw[Zs,cond_true,E5 (by omega)]
   by_cases hmi:i=m
   ·subst hmi;rw[if_pos rfl,decide_eq_true rfl,hin,Zc,cond_false,Wf,cond_true];rw[decide_eq_true rfl,hin,Zc,cond_false]at g3;rw[g3]
   ·rw[if_neg hmi,g3,decide_eq_false (λ e=>hmi e.symm),Zc,cond_false]
def rN (ns:List Nod) (m:Nat) (t:ByteArray):Option Row:=Ge (ns.getD m A8).2.2.1 t
def InK.rows {k n:Nat} {P:Nat→Bool} {t:ByteArray}:∀ (q:List Row) {R:Nat→List Row},(∀ m,m<n→Bq (R m))→k≤n→(J8a k P (λ m=>Ge (R m) t)∧InK leR k n P (λ m=>Ge (R m) t))→
  J8a k P (λ m=>Ge (bif P m then N8 (R m) q else R m) t)∧InK leR k n P (λ m=>Ge (bif P m then N8 (R m) q else R m) t)
 |[],R,hs,hk,h=>by
  have e:(λ m=>Ge (bif P m then N8 (R m) [] else R m) t)=λ m=>Ge (R m) t:=by
   funext m
   cases P m<;>rfl
  rw[e];exact h
 |r::q,R,hs,hk,h=>by
  have e:∀ m,m<n→Ge (bif P m then mrg (R m) r else R m) t=bif teq r.1 t then gvC Kwa P r (λ m=>Ge (R m) t) m else Ge (R m) t:=λ m hm=>by
   unfold gvC
   cases P m with
   |false=>cases teq r.1 t<;>rfl
   |true=>
    rw[cond_true,D3a (hs m hm) t]
    cases teq r.1 t with
    |false=>rfl
    |true=>dsimp only;cases Ge (R m) t<;>rfl
  have ih:=InK.rows q (R:=λ m=>bif P m then mrg (R m) r else R m) (P:=P) (t:=t) (k:=k) (n:=n) (λ m hm=>by
   cases P m with
   |true=>exact Ow (hs m hm)
   |false=>exact hs m hm) hk ?_
  ·have e2:(λ m=>Ge (bif P m then N8 (bif P m then mrg (R m) r else R m) q else (bif P m then mrg (R m) r else R m)) t)=λ m=>Ge (bif P m then N8 (R m) (r::q) else R m) t:=by
    funext m
    cases P m<;>rfl
   rw[← e2];exact ih
  ·cases ht:teq r.1 t with
   |true=>exact⟨h.1.gv.eq hk (λ m hm=>by rw[e m hm,ht];rfl),(h.2.gv (f:=r) Vga).eq hk (λ m hm=>by rw[e m hm,ht];rfl)⟩
   |false=>exact⟨h.1.eq hk (λ m hm=>by rw[e m hm,ht];rfl),h.2.eq hk (λ m hm=>by rw[e m hm,ht];rfl)⟩
def WI.give {w:Wld} (h:WI w) (m:Nat) (hm:m<w.2.2.1.length):Bq (w.2.2.1.getD m A8).2.2.1:=(h.nodes _ (A3 (d:=A8) hm)).rows
structure TA (w v:Wld) (i n:Nat):Prop where
 sw:SW w v
 di:∀ m,m<w.2.2.1.length→(v.2.2.1.getD m A8).2.1=(w.2.2.1.getD m A8).2.1
 ro:∀ m,m<w.2.2.1.length→(v.2.2.1.getD m A8).2.2.1=bif inP w Md m then N8 (w.2.2.1.getD m A8).2.2.1 ((w.2.2.1.getD i A8).2.2.2.take n) else (w.2.2.1.getD m A8).2.2.1
 qu:∀ m,m<w.2.2.1.length→(v.2.2.1.getD m A8).2.2.2=bif decide (m=i) then (w.2.2.1.getD m A8).2.2.2.drop n else (w.2.2.1.getD m A8).2.2.2
def W1 {nm:List ByteArray} {w:Wld} (h:WI w) (hN:Y5 nm w.2.2.2.2.1) {i:Nat} (hi:i<w.2.2.1.length):∀ n,TA w (Jq w i n) i n
 |0=>⟨SW.refl h,λ _ _=>rfl,λ m _=>by cases inP w Md m<;>rfl,λ m _=>by cases decide (m=i)<;>rfl⟩
 |n+1=>by
  have ih:=W1 h hN hi n;show TA w (P3 (Jq w i n) i Dh).2 i (n+1);generalize Jq w i n=v at *;have hv:=ih.sw.wi h;have hl:=ih.sw.len;have t1:=Y3a hv (i:=i) (by omega);have t2:=λ m (hm:m<w.2.2.1.length)=>Pwa hv (nm:=nm) (by rw[ih.sw.ws];exact hN) (i:=i) (by omega) (m:=m) (by omega);rw[ih.sw.inP]at t2;refine⟨ih.sw.trans t1,λ m hm=>?_,λ m hm=>?_,λ m hm=>?_⟩
  ·rw[t2 m hm,← ih.di m hm]
   cases inP w Md m<;>rfl
  ·rw[t2 m hm];have r1:=ih.ro m hm;have q1:=ih.qu i hi;rw[decide_eq_true rfl,cond_true]at q1;rw[q1]
   cases hp:inP w Md m with
   |false=>
    rw[hp,cond_false]at r1;exact r1
   |true=>
    rw[hp,cond_true]at r1;show N8 (v.2.2.1.getD m A8).2.2.1 _=N8 _ _;rw[r1];unfold N8;rw[← Dib,Fsb (i:=n) (j:=1)]
  ·rw[t2 m hm];show (bif decide (m=i) then (v.2.2.1.getD m A8).2.2.2.drop 1 else (v.2.2.1.getD m A8).2.2.2)=_;rw[ih.qu m hm]
   cases decide (m=i) with
   |true=>rw[cond_true,cond_true,cond_true,Yo]
   |false=>rfl
structure RI (nm:List ByteArray) (k:Nat) (w:Wld):Prop where
 wi:WI w
 few:Y5 nm w.2.2.2.2.1
 fo:∀ t,J8a k (inP w t) (λ m=>oN w.2.2.1 m t)
 fi:∀ t,InK leF k w.2.2.1.length (inP w t) (λ m=>oN w.2.2.1 m t)
 ro:∀ t,J8a k (inP w Md) (λ m=>rN w.2.2.1 m t)
 ri:∀ t,InK leR k w.2.2.1.length (inP w Md) (λ m=>rN w.2.2.1 m t)
 qe:∀ m,m<k→(w.2.2.1.getD m A8).2.2.2=[]
def RI.rstep {nm:List ByteArray} {w:Wld} {i:Nat} (h:RI nm i w) (hi:i<w.2.2.1.length):RI nm (i+1) (qtN w i)∧SW w (qtN w i):=by
 have s1:=Avb h.wi hi;have o1:=λ m (hm:m<w.2.2.1.length) t=>Axb h.wi h.few hi hm t;have r1:=Awb w i;have w1:=s1.wi h.wi;have l1:=s1.len;have p1:=s1.inP
 have f1:Y5 nm (qtP w i).2.2.2.2.1:=by rw[s1.ws];exact h.few
 unfold qtN qtT;generalize qtP w i=u at *;have ta:=W1 w1 f1 (i:=i) (by omega) (u.2.2.1.getD i A8).2.2.2.length;generalize Jq u i (u.2.2.1.getD i A8).2.2.2.length=v at *;have w2:=ta.sw.wi w1;have l2:=ta.sw.len;have p2:=λ t=>(ta.sw.inP t).trans (p1 t)
 have f2:Y5 nm v.2.2.2.2.1:=by rw[ta.sw.ws];exact f1
 have s3:=Y4a w2 (i:=i) (by omega);have g3:=λ m (hm:m<w.2.2.1.length)=>Pxa w2 f2 (i:=i) (by omega) (m:=m) (by omega);rw[p2]at g3;have l3:=s3.len;have p3:=λ t=>(s3.inP t).trans (p2 t)
 have f3:Y5 nm (N3 v i Dh).2.2.2.2.2.1:=by rw[s3.ws];exact f2
 have w3:=s3.wi w2;have s4:=(s1.trans ta.sw).trans s3
 have eo:∀ t m,m<w.2.2.1.length→oN (N3 v i Dh).2.2.2.1 m t=Mb Ma (inP w t) i (λ m=>oN w.2.2.1 m t) m:=λ t m hm=>by
  rw[← o1 m hm t];unfold oN;rw[g3 m hm,← ta.di m (by omega)]
  cases inP w Md m&&!(decide (m=i)) with
  |true=>rfl
  |false=>cases decide (m=i)&&!(inP w Md i)<;>rfl
 have tv:∀ t,J8a i (inP w Md) (λ m=>rN v.2.2.1 m t)∧InK leR i w.2.2.1.length (inP w Md) (λ m=>rN v.2.2.1 m t):=λ t=>by
  have:=InK.rows (t:=t) (P:=inP w Md) (k:=i) (n:=w.2.2.1.length) (u.2.2.1.getD i A8).2.2.2 (R:=λ m=>(u.2.2.1.getD m A8).2.2.1) (λ m hm=>w1.give m (by omega)) (by omega) ⟨(h.ro t).eq (n:=w.2.2.1.length) (by omega) (λ m hm=>by
   unfold rN;rw[r1 m]),(h.ri t).eq (by omega) (λ m hm=>by unfold rN;rw[r1 m])⟩
  have e:∀ m,m<w.2.2.1.length→rN v.2.2.1 m t=Ge (bif inP w Md m then N8 (u.2.2.1.getD m A8).2.2.1 (u.2.2.1.getD i A8).2.2.2 else (u.2.2.1.getD m A8).2.2.1) t:=λ m hm=>by
   have:=ta.ro m (by omega);rw[p1,Zf]at this;unfold rN;rw[this]
  exact⟨this.1.eq (n:=w.2.2.1.length) (by omega) e,this.2.eq (by omega) e⟩
 have er:∀ t m,m<w.2.2.1.length→rN (N3 v i Dh).2.2.2.1 m t=Mb Kwa (inP w Md) i (λ m=>rN v.2.2.1 m t) m:=λ t m hm=>by
  have hl:=Rr (w2.give m (by omega)) (w2.give i (by omega)) t;unfold Mb rN;rw[g3 m hm];dsimp only;have hno:∀ n:Nod,Ge (Qv n).2.2.1 t=none:=λ _=>rfl
  cases hk:Ge (v.2.2.1.getD i A8).2.2.1 t with
  |none=>
   rw[hk]at hl;dsimp only
   cases hc:inP w Md m&&!(decide (m=i)) with
   |true=>
    show Ge (N8 (v.2.2.1.getD m A8).2.2.1 (v.2.2.1.getD i A8).2.2.1) t=_;rw[hl]
    cases Ge (v.2.2.1.getD m A8).2.2.1 t<;>rfl
   |false=>
    rw[cond_false]
    by_cases hmi:m=i
    ·rw[decide_eq_true hmi,hmi,hk]
     cases inP w Md i with
     |true=>exact hk
     |false=>rfl
    ·rw[decide_eq_false hmi];rfl
  |some r=>
   rw[hk]at hl;dsimp only
   cases hc:inP w Md m&&!(decide (m=i)) with
   |true=>
    show Ge (N8 (v.2.2.1.getD m A8).2.2.1 (v.2.2.1.getD i A8).2.2.1) t=_;rw[hl]
    cases Ge (v.2.2.1.getD m A8).2.2.1 t<;>rfl
   |false=>
    rw[cond_false,cond_false]
    cases decide (m=i)&&!(inP w Md i)<;>rfl
 refine⟨⟨w3,f3,λ t=>?_,λ t=>?_,λ t=>?_,λ t=>?_,λ m hm=>?_⟩,s4⟩
 ·rw[p3];exact(h.fo t).ostep.eq (n:=w.2.2.1.length) (by omega) (eo t)
 ·rw[p3,s4.len];exact((h.fi t).istep Atb).eq (by omega) (eo t)
 ·rw[p3];exact(tv t).1.ostep.eq (n:=w.2.2.1.length) (by omega) (er t)
 ·rw[p3,s4.len];exact((tv t).2.istep Vga).eq (by omega) (er t)
 ·have e1:((N3 v i Dh).2.2.2.1.getD m A8).2.2.2=(v.2.2.1.getD m A8).2.2.2:=by
   rw[g3 m (by omega)]
   cases inP w Md m&&!(decide (m=i)) with
   |true=>rfl
   |false=>cases decide (m=i)&&!(inP w Md i)<;>rfl
  rw[e1,ta.qu m (by omega)]
  by_cases hmi:m=i
  ·rw[decide_eq_true hmi,cond_true,hmi,Ye]
  ·rw[decide_eq_false hmi,cond_false,r1 m];exact h.qe m (by omega)
def Vja {nm:List ByteArray} {w:Wld} (h:WI w) (hN:Y5 nm w.2.2.2.2.1):∀ k,k≤w.2.2.1.length→RI nm k (run qtN k w)∧SW w (run qtN k w)
 |0,_=>⟨⟨h,hN,λ _ m hm=>(by omega),λ _ q hq=>(by omega),λ _ m hm=>(by omega),λ _ q hq=>(by omega),λ m hm=>(by omega)⟩,SW.refl h⟩
 |k+1,hk=>by
  obtain⟨h1,h2⟩:=Vja h hN k (by omega);rw[I7];have hl:=h2.len;generalize run qtN k w=v at *;obtain⟨h3,h4⟩:=h1.rstep (by omega);exact⟨h3,h2.trans h4⟩
def Tna {nm:List ByteArray} {w:Wld} (h:WI w) (hN:Y5 nm w.2.2.2.2.1):RI nm (J3 w).2.2.1.length (J3 w)∧SW w (J3 w):=by
 obtain⟨h1,h2⟩:=Vja h hN _ (Vw _);have hl:=h2.len;unfold J3;generalize run qtN w.2.2.1.length w=v at *;rw[hl];exact⟨h1,h2⟩

end Go.Proofs.YtcpligincipmhaaGreat.Vf
