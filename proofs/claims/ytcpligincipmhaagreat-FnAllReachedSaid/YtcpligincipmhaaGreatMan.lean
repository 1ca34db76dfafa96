import Derived.Test.YtcpligincipmhaaGreatMam
set_option linter.all false
namespace Go.Proofs.YtcpligincipmhaaGreat.Vf
open Go
open List (length getD)
open Int (toNat)
open Go.IntKind (wrap)
open BitVec (ofInt)

def NO (ns ms:List Nod):Prop:=NS ms∧ms.map (·.1)=ns.map (·.1)
def NO.len {ns ms:List Nod} (h:NO ns ms):ms.length=ns.length:=by
 have:=congrArg length h.2;rwa [Wc,Wc]at this
def NO.set {ns ms:List Nod} (h:NO ns ms) {i:Nat} {n:Nod} (hi:i<ms.length) (hn:NG n) (e:n.1=(ms.getD i A7).1):NO ns (ms.set i n):=⟨h.1.set hn,(Fpa hi e).trans h.2⟩
def X4a (n:Nod) (s:ByteArray) (f:Fil) (sure:Bool):(Ll n s f sure).1.1=n.1:=by
 unfold Ll
 cases (n.2.2.2.length:Int)==60 with
 |true=>rfl
 |false=>rfl
def B8b (n:Nod) (l:List Row):(tk n l).2.1=n.1:=by
 unfold tk
 cases decide ((Ky n.2.2.1 l).length > 60)<;>rfl
def X5a (n:Nod) (s:ByteArray) (b:Int):(Nsa n s b).1.1=n.1:=by
 unfold Nsa
 cases K8 n&&((lkD n.2.1 s).2==0&&(Jqa n.2.1 s b).2)<;>rfl
def Uma {w:Wld} {s:ByteArray} {f:Fil} {rc:List Int} (hn:NS w.2.2.1) (hs:B0 s=true) (hf:D8 f=true):NO w.2.2.1 (wrN w s f rc).1:=by
 unfold wrN;refine Hs (λ _ (a:List Nod×Int×Int)=>NO w.2.2.1 a.1) ⟨hn,rfl⟩ (λ j a hj h=>?_);have hc:=J4 (A3 (d:=0) hj);have hl:=h.len;unfold wst;cases decide (a.2.1<w.2.1.1)
 ·exact h
 rw[cond_true]
 cases rch rc j==0 with
 |true=>exact h
 |false=>exact h.set (by omega) (Hna (h.1.get (by omega)) hs hf) (X4a _ _ _ _)
def Zxa {w:Wld} {i:Nat} {s:ByteArray} {rc:List Int} (hn:NS w.2.2.1):NO w.2.2.1 (puN w i s rc).1:=by
 unfold puN;refine Hs (λ _ (a:List Nod×Bool×Bool)=>NO w.2.2.1 a.1) ⟨hn,rfl⟩ (λ j a hj h=>?_);have hc:=Jj (A3 (d:=0) hj);have hl:=h.len;unfold pst;cases (I0 w s).getD j 0==(i:Int)
 case true=>exact h
 rw[cond_false]
 cases rch rc j != 1 with
 |true=>exact h
 |false=>exact h.set (by omega) (Un (h.1.get (by omega))) rfl
def I8a {w:Wld} {i:Nat} {s:ByteArray} {rc:List Int} (hn:NS w.2.2.1) (hi:i<w.2.2.1.length):∃ ns,(N9 w i s rc).2=wN w ns∧NO w.2.2.1 ns:=by
 unfold N9;cases hl:(lkD (w.2.2.1.getD i A7).2.1 s).2 != 0
 case true=>exact⟨w.2.2.1,rfl,hn,rfl⟩
 have h:=Zxa (i:=i) (s:=s) (rc:=rc) hn;have hlen:=h.len
 have hs:B0 s=true:=by
  rw[bne,Ye,beq_iff_eq]at hl;obtain⟨b,hb,_⟩:=M4.1 (show lkD (w.2.2.1.getD i A7).2.1 s=((lkD (w.2.2.1.getD i A7).2.1 s).1,0) from by rw[← hl]);exact Rsa (hn.get hi).g.1 (by rw[hb];rfl)
 refine⟨_,rfl,?_⟩
 cases (puN w i s rc).2.2&&!(puN w i s rc).2.1 with
 |false=>exact h
 |true=>exact h.set (by omega) (Uia (h.1.get (by omega)) hs) rfl
def Aya {w:Wld} {src:Int} {l:List Row} {self:Bool} {rc:List Int} (hl:Ho l=true) (hn:NS w.2.2.1):NO w.2.2.1 (I7 w src l self rc).1:=by
 unfold I7;refine Hs (λ _ (a:List Nod×Bool)=>NO w.2.2.1 a.1) ⟨hn,rfl⟩ (λ j a hj h=>?_);have hc:=Io (A3 (d:=0) hj);have hlen:=h.len;unfold gst;cases (Ar w).getD j 0==src&&!self
 case true=>exact h
 rw[cond_false]
 cases rch rc j != 1 with
 |true=>exact h
 |false=>exact h.set (by omega) (Aib (h.1.get (by omega)) hl) (B8b _ _)
def I9a {w:Wld} {i:Nat} {rc:List Int} (hn:NS w.2.2.1) (hi:i<w.2.2.1.length):∃ ns,(M9 w i rc).2=wN w ns∧NO w.2.2.1 ns:=by
 have h:=Aya (w:=w) (src:=(i:Int)) (self:=false) (rc:=rc) (Bj.1 (hn.get hi).1).2.2.2.1 hn;have hlen:=h.len;unfold M9;cases ((w.2.2.1.getD i A7).2.2.1.length:Int)==0
 case true=>exact⟨w.2.2.1,rfl,hn,rfl⟩
 refine⟨_,rfl,?_⟩;show NO w.2.2.1 (bif (Ha w i rc).2&&_ then (Ha w i rc).1.set i (Oy ((Ha w i rc).1.getD i A7)) else (Ha w i rc).1);unfold Ha
 cases (I7 w (i:Int) (w.2.2.1.getD i A7).2.2.1 false rc).2&&_ with
 |false=>exact h
 |true=>exact h.set (by omega) (I3a (h.1.get (by omega))) rfl
def Iaa {w:Wld} {i:Nat} {rc:List Int} (hn:NS w.2.2.1) (hi:i<w.2.2.1.length):∃ ns,(N1 w i rc).2=wN w ns∧NO w.2.2.1 ns:=by
 have hq:=Bj.1 (hn.get hi).1;have h:=Aya (w:=w) (src:=(i:Int)) (self:=true) (rc:=rc) (J5 hq.1) hn;have hlen:=h.len;unfold N1;cases ((w.2.2.1.getD i A7).2.2.2.length:Int)==0
 case true=>exact⟨w.2.2.1,rfl,hn,rfl⟩
 refine⟨_,rfl,?_⟩;show NO w.2.2.1 (bif (Ih w i rc).2 then (Ih w i rc).1.set i (Sia ((Ih w i rc).1.getD i A7) ((w.2.2.1.getD i A7).2.2.2.drop 1)) else (Ih w i rc).1);unfold Ih
 cases (I7 w (i:Int) ((w.2.2.1.getD i A7).2.2.2.take 1) true rc).2 with
 |false=>exact h
 |true=>exact h.set (by omega) (Ula (h.1.get (by omega)) (λ r hr=>hq.1 r (Zq hr)) (by rw[Wf];omega)) rfl
structure WO (w:Wld):Prop where
 ring:Hb w.2.1 w.1=true
 ids:w.2.2.1.map (·.1)=w.1.map (·.1)
 ns:NS w.2.2.1
 clk:Gj w.2.2.2.1=true
 wlen:w.2.2.2.2.1.length≤200
 wok:Ava w.2.2.2.2.1
 wge:∀ x∈w.2.2.2.2.1,sle w.2.2.2.1 x.2.1.1=false
 sps:TS w.2.2.2.2.2
 spn:∀ s∈w.2.2.2.2.2,B0 s=true
def WI.wo {w:Wld} (h:WI w):WO w:=⟨h.ring,h.ids,h.ns,h.clk,h.wlen,h.wok,h.wge,h.sps,λ s hs=>by
 obtain⟨x,hx,e⟩:=h.spw s hs;rw[← e]
 exact(h.wok x hx).1⟩
namespace WO
variable {w:Wld}
def nlen (h:WO w):w.2.2.1.length=w.1.length:=by
 have:=congrArg length h.ids;rwa [Wc,Wc]at this
def dlen (h:WO w):1≤w.1.length∧w.1.length≤12:=(Dy.1 (Cb.1 h.ring).1).2.2
def other (h:WO w) {ns:List Nod} (hn:NO w.2.2.1 ns):WO (wN w ns):=⟨h.ring,hn.2.trans h.ids,hn.1,h.clk,h.wlen,h.wok,h.wge,h.sps,h.spn⟩
def other' (h:WO w) {r:Bool×Wld} (hr:∃ ns,r.2=wN w ns∧NO w.2.2.1 ns):WO r.2:=by
 obtain⟨ns,e,hn⟩:=hr;rw[e];exact h.other hn
def write (h:WO w) {s:ByteArray} {f:Fil} {rc:List Int} (hs:B0 s=true) (hf:D8 f=true) (hb:Aq f.2.2) (hc:sle w.2.2.2.1 f.1=true) (hl:w.2.2.2.2.1.length<200):WO (Nx (w.1,w.2.1,w.2.2.1,f.1,w.2.2.2.2) s f rc).2:=by
 have g:=Uma (w:=(w.1,w.2.1,w.2.2.1,f.1,w.2.2.2.2)) (rc:=rc) h.ns hs hf;unfold Nx;generalize wrN (w.1,w.2.1,w.2.2.1,f.1,w.2.2.2.2) s f rc=a at *
 exact {
  ring:=h.ring
  ids:=g.2.trans h.ids
  ns:=g.1
  clk:=(Gr.1 hf).1
  wlen:=by show (w.2.2.2.2.1++[_]).length≤200;rw[Vi];simp only[Vh,Vq];omega
  wok:=λ x hx=>by
   rcases Vm.1 hx with hx|hx
   ·exact h.wok x hx
   ·rw[Vn.1 hx];exact⟨hs,hf,hb⟩
  wge:=λ x hx=>by
   rcases Vm.1 hx with hx|hx
   ·exact N4 (Ny hc) (h.wge x hx)
   ·rw[Vn.1 hx];exact G5 _
  sps:=h.sps
  spn:=h.spn }
def ask (h:WO w) {s:ByteArray} {f:Fil} {t:Int} {rc:List Int} (hb:Aq f.2.2) (hd:f.2.1=true→f.2.2=[]):WO (ask w s f t rc).2:=by
 unfold Vf.ask;cases hs:B0 s
 ·exact h
 rw[Yt,cond_false]
 by_cases hl:(f.2.2.length:Int) > 200
 ·rw[decide_eq_true hl];exact h
 ·rw[decide_eq_false hl,cond_false];cases inR t 0 1000000000
  ·exact h
  rw[Yt,cond_false];cases hw:(w.2.2.2.2.1.length:Int)==200
  case true=>exact h
  rw[cond_false];have hw':=beq_eq_false_iff_ne.1 hw;have hwl:=h.wlen;obtain⟨n1,n2⟩:=T0 h.clk t 0;cases he:(Ig w.2.2.2.1 t 0).1==w.2.2.2.1.1&&((Ig w.2.2.2.1 t 0).2.1==w.2.2.2.1.2.1&&(Ig w.2.2.2.1 t 0).2.2==w.2.2.2.1.2.2)
  case true=>exact h
  rw[cond_false]
  have hlt:sle w.2.2.2.1 (Ig w.2.2.2.1 t 0)=true:=by
   rcases n2 with n2|n2
   ·rw[n2,beq_self_eq_true,beq_self_eq_true,beq_self_eq_true]at he;cases he
   ·exact n2
  exact h.write (f:=(Ig w.2.2.2.1 t 0,f.2)) hs (Gr.2 ⟨n1,by show f.2.2.length≤200;omega,hd⟩) hb hlt (by omega)
def rot (h:WO w) {i:Nat} (hi:i<w.2.2.1.length) {s:ByteArray} {b:Int}:WO (Zoa w i s b).2:=by
 have hg:=h.ns.get hi;unfold Zoa;cases hr:(Nsa (w.2.2.1.getD i A7) s b).2
 ·exact h
 have hn:NO w.2.2.1 (w.2.2.1.set i (Nsa (w.2.2.1.getD i A7) s b).1):=NO.set ⟨h.ns,rfl⟩ hi (U9a hg) (X5a _ _ _)
 have hs:B0 s=true:=by
  unfold Nsa at hr;cases hc:K8 (w.2.2.1.getD i A7)&&((lkD (w.2.2.1.getD i A7).2.1 s).2==0&&(Jqa (w.2.2.1.getD i A7).2.1 s b).2)
  ·rw[hc]at hr;cases hr
  rw[Va,Va,beq_iff_eq]at hc;obtain⟨b,hb,_⟩:=M4.1 (show lkD (w.2.2.1.getD i A7).2.1 s=((lkD (w.2.2.1.getD i A7).2.1 s).1,0) from by rw[← hc.2.1]);exact Rsa hg.g.1 (by rw[hb];rfl)
 exact⟨h.ring,hn.2.trans h.ids,hn.1,h.clk,h.wlen,h.wok,h.wge,Xk h.sps,λ t ht=>by
  rcases Aua.1 ht with rfl|ht
  ·exact hs
  ·exact h.spn t ht⟩
def node (h:WO w) {i:Nat} (hi:i<w.2.2.1.length) {e:Evt}:WO (Oda w e i).2:=by
 have hg:=h.ns.get hi;unfold Oda;cases e.1==3
 case true=>exact h.other' (I8a h.ns hi)
 cases e.1==4
 case true=>exact h.other' (I9a h.ns hi)
 cases e.1==5
 case true=>exact h.other' (Iaa h.ns hi)
 cases e.1==6
 case true=>exact h.other (NO.set ⟨h.ns,rfl⟩ hi (I1a hg) rfl)
 cases e.1==7 with
 |true=>exact h.other (NO.set ⟨h.ns,rfl⟩ hi (Zna hg) rfl)
 |false=>exact h.rot hi
def weigh (h:WO w) {i t:Int}:WO (Oea w i t).2:=by
 unfold Oea;cases h1:inR i 0 ((w.1.length:Int)-1)
 ·exact h
 cases h2:inR t 1 1000
 ·exact h
 obtain⟨i0,i1⟩:=Fx.1 h1;obtain⟨w0,w1⟩:=Fx.1 h2;exact⟨(Hva (Hwa h.ring (by omega) w0 w1)).1,h.ids.trans (Apa _ _ _).symm,h.ns,h.clk,h.wlen,h.wok,h.wge,h.sps,h.spn⟩
def ev (h:WO w) {e:Evt} (hb:Aq e.2.2.2.1):WO (doW w e).2:=by
 have ae:∀ {q:Int×Wld},WO q.2→WO (Xwa q).2:=λ {q} hq=>by
  unfold Xwa
  cases q.1 != 2<;>exact hq
 unfold doW;cases e.1==1
 case true=>exact ae (h.ask hb (λ c=>by cases c))
 cases e.1==2
 case true=>exact ae (h.ask Uf (λ _=>rfl))
 cases e.1==3||(e.1==4||(e.1==5||(e.1==6||(e.1==7||e.1==8)))) with
 |true=>
  cases hi:inR e.2.1 0 ((w.2.2.1.length:Int)-1)
  ·exact h
  have:=Fx.1 hi;exact h.node (by omega)
 |false=>
  cases e.1==9 with
  |true=>exact h.weigh
  |false=>exact h
def nods (h:WO w):Ox w.1 w.2.2.1=true:=by
 have hl:=h.nlen;unfold Ox;rw[show ((w.2.2.1.length:Int)==(w.1.length:Int))=true by rw[beq_iff_eq];omega,Wg,Yd];intro j hj;have hj':=Zp.1 hj;rw[Va,beq_iff_eq];refine⟨?_,(h.ns.get hj').1⟩
 have e1:(w.2.2.1.getD j A7).1=(w.2.2.1.map (·.1)).getD j 0:=by
  rw[Vb,Vb,C8b,Ve hj'];rfl
 have e2:(w.1.getD j Je).1=(w.1.map (·.1)).getD j 0:=by
  rw[Vb,Vb,C8b,Ve (by omega)];rfl
 rw[e1,e2,h.ids]
def ok (h:WO w):Rj w=true:=by
 unfold Rj
 have a2:Sfa w.2.2.2.1 w.2.2.2.2.1=true:=by
  unfold Sfa;rw[Va,Yd];refine⟨λ x hx=>?_,decide_eq_true (by have:=h.wlen;omega)⟩;unfold Fla;rw[(h.wok x hx).1,(h.wok x hx).2.1,h.wge x hx];rfl
 have a3:Qk w.2.2.2.2.2=true:=by
  unfold Qk;rw[Yd];intro j hj;have hj':=Zp.1 hj;rw[Va,Zt];refine⟨h.spn _ (A3 hj'),?_⟩
  by_cases h0:j=0
  ·exact .inl (decide_eq_true h0)
  ·right;have:=Yn.1 h.sps (j-1) j (by omega) hj' (by omega);rwa [Vb,Vb,Ve hj',Ve (by omega)]
 rw[h.ring,h.nods,h.clk,a2,a3];rfl
end WO
def B9b {l:List ByteArray} (h:∀ j,0<j→j<l.length→tlt (l.getD (j-1) Me) (l.getD j Me)=true):TS l:=by
 induction l with
 |nil=>exact List.Pairwise.nil
 |cons x l ih=>
  have ht:TS l:=ih (λ j h0 hj=>by
   have:=h (j+1) (by omega) (by simpa using hj);obtain⟨m,rfl⟩:∃ m,j=m+1:=⟨j-1,by omega⟩
   simpa using this)
  refine Wa.2 ⟨λ y hy=>?_,ht⟩
  cases l with
  |nil=>cases hy
  |cons z l=>
   have hz:tlt x z=true:=by have:=h 1 (by omega) (by simp);simpa using this
   rcases Vl.1 hy with rfl|hy
   ·exact hz
   ·exact Iz hz ((Wa.1 ht).1 y hy)
def Bab {w:Wld} (h:Rj w=true) (hn:∀ n∈w.2.2.1,DB n.2.1) (hb:∀ x∈w.2.2.2.2.1,Aq x.2.1.2.2):WO w:=by
 unfold Rj at h;simp only[Va]at h;obtain⟨h1,h2,h3,h4,h5⟩:=h;unfold Ox at h2;rw[Va,beq_iff_eq,Yd]at h2;obtain⟨hl,h2⟩:=h2;have hd:=(Dy.1 (Cb.1 h1).1).2.2
 have hnode:∀ j,j<w.2.2.1.length→(w.2.2.1.getD j A7).1=(w.1.getD j Je).1∧K8 (w.2.2.1.getD j A7)=true:=λ j hj=>by
  have:=h2 j (Zp.2 hj);rwa [Va,beq_iff_eq]at this
 unfold Sfa at h4;rw[Va,Yd,decide_eq_true_iff]at h4;unfold Qk at h5;rw[Yd]at h5
 have hsp:∀ j,j<w.2.2.2.2.2.length→B0 (w.2.2.2.2.2.getD j Me)=true∧(j=0∨tlt (w.2.2.2.2.2.getD (j-1) Me) (w.2.2.2.2.2.getD j Me)=true):=λ j hj=>by
  have:=h5 j (Zp.2 hj);rwa [Va,Zt,decide_eq_true_iff]at this
 have hx:∀ x∈w.2.2.2.2.1,B0 x.1=true∧D8 x.2.1=true∧sle w.2.2.2.1 x.2.1.1=false:=λ x hx=>by
  have:=h4.1 x hx;unfold Fla at this;rwa [Va,Va,Vz]at this
 refine⟨h1,?_,⟨by omega,λ n hm=>?_⟩,h3,by omega,λ x hm=>⟨(hx x hm).1,(hx x hm).2.1,hb x hm⟩,λ x hm=>(hx x hm).2.2,B9b (λ j h0 hj=>?_),λ s hs=>?_⟩
 ·refine Erb (by rw[Wc,Wc];omega) (λ j a b=>?_);rw[Wc]at a b;have:=(hnode j a).1;rw[Vb,Vb,Ve a,Ve b]at this;rw[E2b,E2b];exact this
 ·obtain⟨j,hj,rfl⟩:=Yh.1 hm;have:=(hnode j hj).2;rw[Vb,Ve hj]at this;exact⟨this,hn _ hm⟩
 ·rcases (hsp j hj).2 with h|h
  ·omega
  ·exact h
 ·obtain⟨j,hj,rfl⟩:=Yh.1 hs;have:=(hsp j hj).1;rwa [Vb,Ve hj]at this

section
open Go
end

section
open Go
end

def WIm.wo {m:Nat} {w:Wld} (h:WIm m w) (hk:Rj w=true):WO w:=Bab hk (λ n hn=>(h.2.2.1.2 n hn).1.2) (λ x hx=>(h.2.2.2.1.2 x hx).2.2)
def WO.wim {w:Wld} (h:WO w) {m:Nat} (h2:200≤m) (hs:w.2.2.2.2.2.length≤m):WIm m w:=
 ⟨Kw h.ring,by have:=h.dlen;omega,⟨h.ns.1,λ n hn=>Aja (h.ns.2 n hn)⟩,⟨by have:=h.wlen;omega,λ x hx=>⟨H4 (h.wok x hx).1,by have:=(Gr.1 (h.wok x hx).2.1).2.1;omega,(h.wok x hx).2.2⟩⟩,hs,λ s hs=>H4 (h.spn s hs)⟩
def Dha {m:Nat} {w:Wld} (h:WIm m w) (hm:m≤2000000):Tot (λ k=>Aw k w) (λ r=>r=w):=by
 obtain⟨h1,h2,⟨h3,h4⟩,⟨h5,h6⟩,h7,h8⟩:=h;unfold Aw;refine Bzb (by rw[Vq];omega) (C3b (D4a w.2.1 h1) ?_);refine Bzb (by rw[Vq];omega) ?_;rw[Wn,Wn];refine Bsb (Q:=λ r=>r=(w,I7a,(w.1,w.2.1,w.2.2.1,w.2.2.2.1,[],w.2.2.2.2.2))) ?_ ?_
 ·refine C0b (L:=λ k i (s:List Nod)=>Cq k w.2.2.1 (w.2.2.1.length:Int) i w I7a (w.1,w.2.1,s,w.2.2.2.1,[],w.2.2.2.2.2)) (Q:=λ r=>r=(w,I7a,(w.1,w.2.1,w.2.2.1,w.2.2.2.1,[],w.2.2.2.2.2))) w.2.2.1.length (λ j s=>s=w.2.2.1.take j) ?_ ?_ 0 [] (Vv _) rfl
  ·rintro s rfl;simp (disch:=omega) only [Cq,dF];exact Brb (by rw[Yx])
  ·rintro j s hj rfl next;have hm:=h4 _ (A3 (d:=A7) hj);have e0:w.2.2.1.getD j ((0:Int),(([],[]),([],[])))=w.2.2.1.getD j A7:=rfl
   have hl:(w.2.2.1.take j).length=j:=by rw[Vs];omega
   simp (disch:=omega) only [Cq,dT,Vj,w64,e0];refine C3b (Jv _ hm) ?_;refine Bzb (by rw[hl];simp only[Vh,Vq];omega) (next _ ?_);rw[We hj,Vb,Ve hj];rfl
 ·rintro r rfl;refine Bsb (Q:=λ r=>r=(I7a,w)) ?_ (by rintro r rfl;exact Brb rfl);refine C0b (L:=λ k i (s:List Wri)=>Cp k w.2.2.2.2.1 (w.2.2.2.2.1.length:Int) i I7a (w.1,w.2.1,w.2.2.1,w.2.2.2.1,s,w.2.2.2.2.2)) (Q:=λ r=>r=(I7a,w)) w.2.2.2.2.1.length (λ j s=>s=w.2.2.2.2.1.take j) ?_ ?_ 0 [] (Vv _) rfl
  ·rintro s rfl;simp (disch:=omega) only [Cp,dF];exact Brb (by rw[Yx])
  ·rintro j s hj rfl next;have hm:=(h6 _ (A3 (d:=Xua) hj)).2.1;have e0:w.2.2.2.2.1.getD j ((⟨#[]⟩:ByteArray),((((0:Int),((0:Int),(0:Int))),(false,[])),false))=w.2.2.2.2.1.getD j Xua:=rfl
   have hl:(w.2.2.2.2.1.take j).length=j:=by rw[Vs];omega
   simp (disch:=omega) only [Cp,dT,Vj,w64,e0,Rz (f:=(w.2.2.2.2.1.getD j Xua).2.1) (by omega),Vu];refine Bzb (by rw[hl];simp only[Vh,Vq];omega) (next _ ?_);rw[We hj,Vb,Ve hj];rfl

def X6a (s:ByteArray) (a:Bool×Fil) (n:Nod):Bool×Fil:=bif (lkD n.2.1 s).2==0 then (bif !a.1||sle a.2.1 (lkD n.2.1 s).1.1 then (true,(lkD n.2.1 s).1) else a) else a
def lat (ns:List Nod) (s:ByteArray):Bool×Fil:=ns.foldl (X6a s) (false,Z1a)
def Dia {s:ByteArray} {a:Bool×Fil} {n:Nod} (h:a.1=true∨((lkD n.2.1 s).2==0)=true):(X6a s a n).1=true:=by
 unfold X6a
 cases hc:(lkD n.2.1 s).2==0 with
 |false=>
  rw[hc]at h;rcases h with h|h
  ·exact h
  ·cases h
 |true=>
  rw[cond_true]
  cases ha:a.1 with
  |false=>rfl
  |true=>cases hs:sle a.2.1 (lkD n.2.1 s).1.1<;>simp[ha]
def Iba {s:ByteArray}:∀ (ns:List Nod) (a:Bool×Fil),(a.1=true∨∃ n∈ns,((lkD n.2.1 s).2==0)=true)→(ns.foldl (X6a s) a).1=true
 |[],a,h=>by
  rcases h with h|⟨n,hn,_⟩
  ·exact h
  ·cases hn
 |n::ns,a,h=>by
  rw[Ys];refine Iba ns _ ?_;rcases h with h|⟨m,hm,hg⟩
  ·exact .inl (Dia (.inl h))
  ·rcases Vl.1 hm with rfl|hm
   ·exact .inl (Dia (.inr hg))
   ·exact .inr ⟨m,hm,hg⟩
def lvE (s:ByteArray) (p:List Int) (f:Fil) (n:Nod):Bool:=bif Gp p n.1 then ((lkD n.2.1 s).2==0)&&Wva (lkD n.2.1 s).1 f else !((lkD n.2.1 s).2==0)
def lvN (w:Wld) (s:ByteArray):Bool:=w.2.2.1.all (lvE s (N8 w.2.1 s) (lat w.2.2.1 s).2)
def Ica {ns:List Nod} {p:List Int} {j:Nat} (hj:j<ns.length):Gp (whr ns p) (j:Int)=Gp p (ns.getD j A7).1:=by
 rw[Cxb,H7,H7,Pl];constructor
 ·rintro⟨i,h1,h2,h3⟩
  obtain rfl:j=i:=by omega
  exact h2
 ·intro h;exact⟨j,hj,h,rfl⟩
def Dja (d:Dsk) (s:ByteArray):Prop:=((lkD d s).2==0)=true
def Sna {d:Dsk} {s:ByteArray}:Dja d s↔∃ i,fnd d.1 s=some i∧(K6 (d.1.getD i Jd).2).isSome=true:=by
 unfold Dja lkD gt
 cases h:fnd d.1 s with
 |none=>simp
 |some i=>
  simp only[Vc];constructor
  ·intro hg;refine⟨i,rfl,?_⟩
   cases hf:K6 (d.1.getD i Jd).2 with
   |none=>simp only[hf]at hg;cases hg
   |some f=>rfl
  ·rintro⟨j,rfl,hg⟩
   cases hf:K6 (d.1.getD i Jd).2 with
   |none=>rw[hf]at hg;cases hg
   |some f=>rfl
def Ola {d:Dsk} {s:ByteArray}:s∈N7 d↔Dja d s:=by
 have key:∀ (l:List Nmd) (out:List ByteArray),s∈l.foldl (hI d) out↔s∈out∨∃ x∈l,x.1=s∧Dja d s:=by
  intro l
  induction l with
  |nil=>intro out;simp
  |cons x l ih=>
   intro out;rw[Ys,ih]
   have hx:s∈hI d out x↔s∈out∨(x.1=s∧Dja d s):=by
    unfold hI
    cases hc:(lkD d x.1).2==0 with
    |false=>
     rw[cond_false];refine⟨.inl,?_⟩;rintro (h|⟨rfl,h⟩)
     ·exact h
     ·unfold Dja at h;rw[hc]at h;cases h
    |true=>
     rw[cond_true,Tza];constructor
     ·rintro (rfl|h)
      ·exact .inr ⟨rfl,hc⟩
      ·exact .inl h
     ·rintro (h|⟨h,_⟩)
      ·exact .inr h
      ·exact .inl h.symm
   rw[hx];constructor
   ·rintro ((h|h)|⟨y,hy,h⟩)
    ·exact .inl h
    ·exact .inr ⟨x,Wl,h⟩
    ·exact .inr ⟨y,Vd _ hy,h⟩
   ·rintro (h|⟨y,hy,h⟩)
    ·exact .inl (.inl h)
    ·rcases Vl.1 hy with rfl|hy
     ·exact .inl (.inr h)
     ·exact .inr ⟨y,hy,h⟩
 unfold N7;rw[key];constructor
 ·rintro (h|⟨x,_,_,h⟩)
  ·cases h
  ·exact h
 ·intro h;obtain⟨i,hi,_⟩:=Sna.1 h;have:=Ru hi;exact .inr ⟨_,A3 (d:=Jd) this.1,this.2,h⟩
def Bib (a b:Row):Bool:=(a.1==b.1)&&((a.2.1.1==b.2.1.1)&&((a.2.1.2.1==b.2.1.2.1)&&((a.2.1.2.2==b.2.1.2.2)&&((a.2.2.1==b.2.2.1)&&(a.2.2.2==b.2.2.2)))))
def Oma (a b:List Row):Bool:=((a.length:Int)==(b.length:Int))&&(List.range a.length).all λ j=>Bib (a.getD j Bgb) (b.getD j Bgb)
def Una (w:Wld) (j:Nat):List Row:=bif Gp (Ar w) (j:Int) then (w.2.2.1.getD ((Ar w).getD 0 0).toNat A7).2.2.1 else []
def Bjb (w:Wld) (j:Nat):Bool := !(decide (((w.2.2.1.getD j A7).2.2.2.length:Int) > 0))&&Oma (w.2.2.1.getD j A7).2.2.1 (Una w j)
def Ona (a:List Row):Oma a [] = !(decide ((a.length:Int) > 0)):=by
 unfold Oma
 cases a with
 |nil=>rfl
 |cons x l=>
  rw[decide_eq_true (show ((x::l).length:Int) > 0 by rw[Vh];omega),show (((x::l).length:Int)==(([]:List Row).length:Int))=false by rw[beq_eq_false_iff_ne,Vh,Vq];omega];rfl
def Ooa {w:Wld} {j:Int} (h:Gp (Ar w) j=true):0<(Ar w).length∧0≤(Ar w).getD 0 0∧(Ar w).getD 0 0<(w.2.2.1.length:Int):=by
 have hm:=H7.1 h;have h0:=Cgb hm;obtain⟨i,h1,_,h3⟩:=Pl.1 (show (Ar w).getD 0 0∈whr w.2.2.1 (N8 w.2.1 Ki) from A3 h0);exact⟨h0,by omega,by omega⟩

section
open Go
end

def Ajb (w:Wld) (s:ByteArray) (f:Fil) (t:Int) (rc:List Int):Wld×Int:=bif Rj w then ((ask w s f t rc).2,(ask w s f t rc).1) else (w,2)
def Soa {m:Nat} {w:Wld} (h:WIm m w) (hm:m≤1999000) (s:ByteArray) (l:List Int) (t:Int) (rc:List Int) (hs:Lz s) (hl:l.length≤1000000000):Tot (λ k=>Ev k w s l t rc) (λ r=>r=Ajb w s ((0,0,0),false,l) t rc):=by
 have hw:=h.win (by omega);unfold Ev Ajb;refine Bsb (Dha h (by omega)) ?_;rintro r rfl;refine Bsb (Um r hw) ?_;rintro b rfl;cases hk:Rj r
 ·exact Bub rfl (Brb rfl)
 have ho:=h.wo hk;rw[Im l (by omega)];simp only[Vu];refine Btb rfl (Bsb (X3a r s ((0,0,0),false,l) t rc ho.ring ho.ns ho.clk hs (λ c=>by cases c) ho.wlen) ?_);rintro _ rfl;exact Brb rfl

def D0:List Int:=[1,1,1,1,1,1,1,1,1,1,1,1]
def Jz (w:Wld) (i:Nat) (l:List ByteArray):Wld:=l.foldl (λ w s=>(N9 w i s D0).2) w
def I1 (w:Wld) (i:Nat):Nat→Wld
 |0=>w
 |n+1=>(N1 (I1 w i n) i D0).2
def qtA (w:Wld) (i:Nat):Wld:=wN w (w.2.2.1.set i (Uga (w.2.2.1.getD i A7)).1)
def qtP (w:Wld) (i:Nat):Wld:=Jz (qtA w i) i (N7 ((qtA w i).2.2.1.getD i A7).2.1)
def qtT (w:Wld) (i:Nat):Wld:=I1 (qtP w i) i ((qtP w i).2.2.1.getD i A7).2.2.2.length
def qtN (w:Wld) (i:Nat):Wld:=(M9 (qtT w i) i D0).2
def Jk (w:Wld):Wld:=run qtN w.2.2.1.length w
def Dka:Tot (λ k=>Ez k) (λ r=>r=D0):=by
 unfold Ez;refine Bsb (Q:=λ r=>r=D0) ?_ (by rintro r rfl;exact Brb rfl);refine C0b (L:=λ k i (s:List Int)=>Di k s i) (Q:=λ r=>r=D0) 12 (λ j s=>s=List.replicate j 1) ?_ ?_ 0 [] (Vv _) rfl
 ·rintro s rfl;simp (disch:=omega) only [Di,dF];exact Brb rfl
 ·rintro j s hj rfl next;simp (disch:=omega) only [Di,dT,w64];refine Bzb (by rw[Evb];simp only[Vh,Vq];omega) (next _ ?_);rw[List.replicate_succ']
def NW (w v:Wld):Prop:=∃ ns,v=wN w ns∧NO w.2.2.1 ns
def NW.refl {w:Wld} (h:WO w):NW w w:=⟨w.2.2.1,rfl,h.ns,rfl⟩
def NW.trans {u v w:Wld} (h1:NW u v) (h2:NW v w):NW u w:=by
 obtain⟨a,rfl,ha⟩:=h1;obtain⟨b,rfl,hb⟩:=h2;exact⟨b,rfl,hb.1,hb.2.trans ha.2⟩
def NW.wo {w v:Wld} (h:NW w v) (hw:WO w):WO v:=by
 obtain⟨ns,rfl,hn⟩:=h;exact hw.other hn
def NW.len {w v:Wld} (h:NW w v):v.2.2.1.length=w.2.2.1.length:=by
 obtain⟨ns,rfl,hn⟩:=h;exact hn.len
def Opa {w:Wld} (h:WO w) {i:Nat} (hi:i<w.2.2.1.length) (s:ByteArray) (rc:List Int):NW w (N9 w i s rc).2:=I8a h.ns hi
def Oqa {w:Wld} (h:WO w) {i:Nat} (hi:i<w.2.2.1.length) (rc:List Int):NW w (N1 w i rc).2:=Iaa h.ns hi
def Ora {w:Wld} (h:WO w) {i:Nat} (hi:i<w.2.2.1.length) (rc:List Int):NW w (M9 w i rc).2:=I9a h.ns hi
def Ida {w:Wld} (h:WO w) {i:Nat} (hi:i<w.2.2.1.length):NW w (qtA w i):=⟨_,rfl,NO.set ⟨h.ns,rfl⟩ hi (I1a (h.ns.get hi)) rfl⟩
def Rn {i:Nat}:∀ (l:List ByteArray) {w:Wld},WO w→i<w.2.2.1.length→NW w (Jz w i l)
 |[],w,h,_=>NW.refl h
 |s::l,w,h,hi=>by
  have h1:=Opa h hi s D0;exact h1.trans (Rn l (h1.wo h) (by rw[h1.len];exact hi))
def Ma {i:Nat} {w:Wld} (h:WO w) (hi:i<w.2.2.1.length):∀ n,NW w (I1 w i n)
 |0=>NW.refl h
 |n+1=>by
  have h1:=Ma h hi n;exact h1.trans (Oqa (h1.wo h) (by rw[h1.len];exact hi) D0)
def Osa {w:Wld} (h:WO w) {i:Nat} (hi:i<w.2.2.1.length):NW w (qtP w i):=by
 have h1:=Ida h hi;exact h1.trans (Rn _ (h1.wo h) (by rw[h1.len];exact hi))
def Uoa {w:Wld} (h:WO w) {i:Nat} (hi:i<w.2.2.1.length):NW w (qtT w i):=by
 have h1:=Osa h hi;exact h1.trans (Ma (h1.wo h) (by rw[h1.len];exact hi) _)
def Zya {w:Wld} (h:WO w) {i:Nat} (hi:i<w.2.2.1.length):NW w (qtN w i):=by
 have h1:=Uoa h hi;exact h1.trans (Ora (h1.wo h) (by rw[h1.len];exact hi) D0)
def Ota {w:Wld} (h:WO w):∀ n,n≤w.2.2.1.length→NW w (run qtN n w)
 |0,_=>NW.refl h
 |n+1,hn=>by
  have h1:=Ota h n (by omega);rw[J1];exact h1.trans (Zya (h1.wo h) (by rw[h1.len];omega))
def NW.sp {w v:Wld} (h:NW w v):v.2.2.2.2.2=w.2.2.2.2.2:=by obtain⟨ns,rfl,_⟩:=h;rfl
def K4a {w:Wld} (h:WO w):Tot (λ k=>Ae k w) (λ r=>r=Jk w):=by
 have hnl:=h.ns.1;unfold Ae;refine Bsb Dka ?_;rintro _ rfl;refine Bsb (Q:=λ r=>r=Jk w) ?_ (by rintro r rfl;exact Brb rfl);refine C0b (L:=λ k i (v:Wld)=>Bi k D0 (w.2.2.1.length:Int) i v) (Q:=λ r=>r=Jk w) w.2.2.1.length (λ j v=>v=run qtN j w) ?_ ?_ 0 w (Vv _) rfl
 ·rintro v rfl;simp (disch:=omega) only [Bi,dF];exact Brb rfl
 ·rintro j v hj rfl next;rw[J1]at next;have hn:=Ota h j (by omega);have hv:=hn.wo h;have hl:=hn.len;generalize run qtN j w=v at *
  have hj':j<v.2.2.1.length:=by omega
  have e0:v.2.2.1.getD j ((0:Int),(([],[]),([],[])))=v.2.2.1.getD j A7:=rfl;simp (disch:=omega) only [Bi,dT,Vj,e0];refine Bsb (O7a _ (hv.ns.get hj')) ?_;rintro _ rfl;have e1:∀ ns:List Nod,ns.getD j ((0:Int),(([],[]),([],[])))=ns.getD j A7:=λ _=>rfl;have hsl:(v.2.2.1.set j (Uga (v.2.2.1.getD j A7)).1).length=v.2.2.1.length:=Vt ..;have hA:=Ida hv hj';have hAo:=hA.wo hv;have hAl:=hA.len;refine Bvb (by rw[hsl];omega) ?_;show Tot (λ k=>(Gd k ((qtA v j).2.2.1.getD j A7).2.1).bind λ r6=>(B3 k D0 (j:Int) (w.2.2.1.length:Int) (j:Int) r6 (length r6:Int) 0 (qtA v j)).bind _) _;have hg:=Aja (hAo.ns.get (i:=j) (by omega));refine Bsb (S8a _ hg.1.1 hg.1.2) ?_;rintro _ rfl
  have hpl:(N7 ((qtA v j).2.2.1.getD j A7).2.1).length≤2000000:=by
   have a:=Ufa ((qtA v j).2.2.1.getD j A7).2.1 ((qtA v j).2.2.1.getD j A7).2.1.1 [];rw[Vq]at a;have:=hg.1.1.2.1;unfold N7;omega
  have hP:=Osa hv hj';have hPo:=hP.wo hv;have hPl:=hP.len;refine Bsb (Q:=λ r=>r=(D0,(j:Int),(w.2.2.1.length:Int),(j:Int),qtP v j)) ?_ ?_
  ·have hfull:qtP v j=Jz (qtA v j) j (N7 ((qtA v j).2.2.1.getD j A7).2.1):=rfl;rw[hfull];generalize N7 ((qtA v j).2.2.1.getD j A7).2.1=l at *;refine C0b (L:=λ k i (u:Wld)=>B3 k D0 (j:Int) (w.2.2.1.length:Int) (j:Int) l (l.length:Int) i u) (Q:=λ r=>r=(D0,(j:Int),(w.2.2.1.length:Int),(j:Int),Jz (qtA v j) j l)) l.length (λ i u=>u=Jz (qtA v j) j (l.take i)) ?_ ?_ 0 _ (Vv _) rfl
   ·rintro u rfl;simp (disch:=omega) only [B3,dF];exact Brb (by rw[Yx])
   ·rintro i u hi rfl next;have hq:=Rn (i:=j) (l.take i) hAo (by omega);have hqo:=hq.wo hAo;have hql:=hq.len;have e2:l.getD i (⟨#[]⟩:ByteArray)=l.getD i Me:=rfl;simp (disch:=omega) only [B3,dT,Vj,w64,e2];refine Bsb (Sla _ j _ D0 hqo.ring hqo.ns (by omega)) ?_;rintro _ rfl;refine next _ ?_;unfold Jz;rw[We hi,Cyb,Vb,Ve hi];rfl
  ·rintro _ rfl;simp (disch:=omega) only [dT,Vj,e1];have hT:=Uoa hv hj';have hTo:=hT.wo hv;have hTl:=hT.len;have hq60:=(Bj.1 (hPo.ns.get (i:=j) (by omega)).1).2.2.2.2;refine Bsb (Q:=λ r=>r=(D0,(j:Int),(w.2.2.1.length:Int),(j:Int),qtT v j)) ?_ ?_
   ·have hfull:qtT v j=I1 (qtP v j) j ((qtP v j).2.2.1.getD j A7).2.2.2.length:=rfl;rw[hfull];generalize ((qtP v j).2.2.1.getD j A7).2.2.2.length=q at *;refine C0b (L:=λ k i (u:Wld)=>B6 k D0 (j:Int) (w.2.2.1.length:Int) (j:Int) (q:Int) i u) (Q:=λ r=>r=(D0,(j:Int),(w.2.2.1.length:Int),(j:Int),I1 (qtP v j) j q)) q (λ i u=>u=I1 (qtP v j) j i) ?_ ?_ 0 _ (Vv _) rfl
    ·rintro u rfl;simp (disch:=omega) only [B6,dF];exact Brb rfl
    ·rintro i u hi rfl next;have hq:=Ma hPo (i:=j) (by omega) i;have hqo:=hq.wo hPo;have hql:=hq.len;simp (disch:=omega) only [B6,dT,w64];refine Bsb (Oka _ j D0 (Kw hqo.ring) hqo.ns (by omega)) ?_;rintro _ rfl;exact next _ rfl
   ·rintro _ rfl;refine Bsb (Oja (qtT v j) j D0 (Kw hTo.ring) hTo.ns (by omega)) ?_;rintro _ rfl;simp (disch:=omega) only [w64];exact next _ rfl
def Iea (w:Wld):Wld:=bif Rj w then Jk w else w
def K5a {m:Nat} {w:Wld} (h:WIm m w) (hm:m≤1999000):Tot (λ k=>Hk k w) (λ r=>r=Iea w):=by
 have hw:=h.win (by omega);unfold Hk Iea;refine Bsb (Dha h (by omega)) ?_;rintro w rfl;refine Bsb (Um w hw) ?_;rintro b rfl
 cases hk:Rj w with
 |false=>exact Btb rfl (Brb rfl)
 |true=>
  refine Bub rfl (Bsb (K4a (h.wo hk)) ?_);rintro _ rfl;exact Brb rfl

def Xm (nm:List ByteArray) (ws:List Wri):Prop:=nm.length≤60∧∀ x∈ws,x.1∈nm
def Xn {nm:List ByteArray} {l:List Nmd} (hs:Cz l) (h:∀ x∈l,x.1∈nm) (hn:nm.length≤60):l.length≤60:=by
 have hp:(l.map (·.1)).Pairwise (λ a b=>tlt a b=true):=Zo.2 hs;have hd:(l.map (·.1)).Nodup:=hp.imp (λ {a b} hab e=>by subst e;rw[Eg]at hab;cases hab);have:=Qn _ nm hd (λ s hs=>by obtain⟨x,hx,rfl⟩:=Yw.1 hs;exact h x hx);rw[Wc]at this;omega
def Upa {nm:List ByteArray} {l:List Nmd} {s:ByteArray} {b:List Int} (hl:Cz l) (h:∀ x∈l,x.1∈nm) (hs:s∈nm) (hn:nm.length≤60):(wr l s b).length≤60:=by
 have hso:Cz (wr l s b):=Ol (Jp hl) Uc;refine Xn hso (λ x hx=>?_) hn;have hg:=Fba hso hx;rw[Aia hl]at hg
 by_cases e:s=x.1
 ·rw[← e];exact hs
 ·rw[if_neg e]at hg;exact h _ (K7 hg)
section
variable {nm:List ByteArray} {ws:List Wri} {sp:List ByteArray} {d:Dsk} {s:ByteArray} {f:Fil}
def Oua (hN:Xm nm ws) (hf:IsW ws s f):s∈nm:=by
 obtain⟨x,hx,rfl,_⟩:=hf;exact hN.2 x hx
def Spa (hN:Xm nm ws) (hd:C7 d=true) (h:DI ws sp d):(∀ x∈d.1,x.1∈nm)∧∀ x∈d.2,x.1∈nm:=by
 refine⟨λ x hx=>?_,λ x hx=>?_⟩
 ·obtain⟨f,hf,_⟩:=(h x.1).1 _ (Fba (Hy hd) hx);exact Oua hN hf
 ·obtain⟨f,hf,_⟩:=(h x.1).2.1 _ (Fba (Lk hd) hx);exact Oua hN hf
def Mb (o:Option Fil) (f:Fil):Fil:=match o with
 |some g=>bif sle g.1 f.1 then f else g
 |none=>f
def Fsa (o:Option Fil) (f:Fil):Mb (some (Mb o f)) f=Mb o f:=by
 cases o with
 |none=>simp[Mb]
 |some g=>cases h:sle g.1 f.1<;>simp[Mb,h]
def Sqa (hw:Ava ws) (hN:Xm nm ws) (hd:DG d) (h:DI ws sp d) (hf:IsW ws s f):
  ((keep d s f true).2=0∨(keep d s f true).2=1)∧∀ t,old (keep d s f true).1 t=if s=t then some (Mb (old d s) f) else old d t:=by
 obtain⟨g1,g2,g3⟩:=hf.good hw;have hs:=Oua hN hf;obtain⟨n1,n2⟩:=Spa hN hd.1 h;have l1:∀ b,(wr d.1 s b).length≤60:=λ b=>Upa (Hy hd.1) n1 hs hN.1;have h2s:Cz d.2:=Lk hd.1
 have l2:∀ l:List Nmd,(sy (l,d.2) s).length≤60:=λ l=>by
  unfold sy
  cases gt l s with
  |some b=>exact Upa h2s n2 hs hN.1
  |none=>exact Xn (Jp h2s) (λ x hx=>n2 x (Cvb.1 hx).1) hN.1
 rw[M5 hd.1 g1 g2];rcases M6 (f:=f) (sure:=true) hd g1 with k|⟨o,h1,h2,h3,_,h5⟩|⟨h1,_,h3,_,h5⟩
 ·exfalso
  have hwr:wrD d s (H0 f)=((wr d.1 s (H0 f),d.2),true):=by
   unfold wrD;rw[decide_eq_true (show (H0 f).length≤400 by have:=Sw f;omega),decide_eq_true (l1 _)];rfl
  have hsy:∀ l:List Nmd,(syD (l,d.2) s).2=true:=λ l=>by
   unfold syD;rw[decide_eq_true (l2 l)];rfl
  have k2:∀ (l:List Nmd) (c:Int),(kp2 d s true ((l,d.2),c)).2=c:=λ l c=>by
   unfold kp2;rw[cond_true,hsy l];rfl
  have k3:=congrArg Prod.snd k;unfold It kp1 at k3;rw[hwr]at k3
  cases ho:old d s with
  |none=>
   rw[ho]at k3;have:(kp2 d s true ((wr d.1 s (H0 f),d.2),0)).2=3:=k3;rw[k2]at this;cases this
  |some o=>
   rw[ho]at k3
   cases hc:sle o.1 f.1 with
   |true=>
    simp only[hc,cond_true]at k3;rw[k2]at k3;cases k3
   |false=>
    simp only[hc,cond_false]at k3;have:(kp2 d s true ((d.1,d.2),1)).2=3:=k3;rw[k2]at this;cases this
 ·refine⟨.inr h3,λ t=>?_⟩;rcases h5 with⟨c,_⟩|⟨_,e⟩
  ·cases c
  ·rw[e];show old d t=_
   by_cases hst:s=t
   ·subst hst;rw[if_pos rfl,h1];simp[Mb,h2]
   ·rw[if_neg hst]
 ·refine⟨.inl h3,λ t=>?_⟩;rcases h5 with⟨c,_⟩|⟨_,e⟩
  ·cases c
  ·rw[e];show (gt (wr d.1 s (H0 f)) t).bind K6=_;rw[Aia (Hy hd.1)]
   by_cases hst:s=t
   ·rw[if_pos hst,if_pos hst,Vu,My g2 g3]
    cases ho:old d s with
    |none=>rfl
    |some o=>simp[Mb,h1 o ho]
   ·rw[if_neg hst,if_neg hst];rfl
end
def Ova {d:Dsk} {s:ByteArray} (hd:DG d) (hg:(gt d.1 s).isSome=true) (t:ByteArray):old (syD (rmD d s).1 s).1 t=if s=t then none else old d t:=by
 have e1:(syD (rmD d s).1 s).1.1=cut d.1 s:=by
  have e:(rmD d s).1=(cut d.1 s,d.2):=by unfold rmD;rw[hg];rfl
  rw[e];unfold syD
  cases decide ((sy (cut d.1 s,d.2) s).length≤60)<;>rfl
 unfold old;rw[e1,Qh (Hy hd.1)]
 by_cases h:s=t
 ·rw[if_pos h,if_pos h];rfl
 ·rw[if_neg h,if_neg h]
def Dla {d:Dsk} (hd:DG d) (t:ByteArray):old (Jm d).1 t=old d t:=by
 obtain⟨_,h⟩:=Pi d.1 (d,0) hd;unfold old
 by_cases hb:t∈Aqa d.1
 ·obtain⟨b,h1,h2⟩:=(I0a hd.1).1 hb;rw[show gt (Jm d).1.1 t=none from ((h t).1 hb).1,h1,Vu,h2];rfl
 ·rw[show gt (Jm d).1.1 t=gt d.1 t from ((h t).2 hb).1]
def Ifa {d:Dsk} {s:ByteArray}:((lkD d s).2 != 0)=(old d s).isNone:=by
 unfold lkD old
 cases gt d.1 s with
 |none=>rfl
 |some b=>cases h:K6 b<;>simp[h]
def Fta {d:Dsk} {s:ByteArray} {f:Fil} (h:old d s=some f):lkD d s=(f,0):=by
 unfold old at h
 cases hg:gt d.1 s with
 |none=>rw[hg]at h;cases h
 |some b=>rw[hg]at h;exact M4.2 ⟨b,hg,h⟩
def Owa (id:Int):∀ {ns ms:List Nod} (i:Nat),ms.map (·.1)=ns.map (·.1)→atN ms id i=atN ns id i
 |[],[],_,_=>rfl
 |n::ns,m::ms,i,h=>by
  rw[Yb,Yb,Yj]at h;unfold atN;rw[h.1,Owa id (i+1) h.2]
 |[],_::_,_,h=>by cases h
 |_::_,[],_,h=>by cases h
def Ut {ns ms:List Nod} (h:ms.map (·.1)=ns.map (·.1)) (ids:List Int):whr ms ids=whr ns ids:=by
 unfold whr;congr 1;funext id;exact Owa id 0 h
def Fua (id:Int):∀ (ns:List Nod) (i:Nat),(ns.map (·.1)).Nodup→(atN ns id i).length≤1
 |[],_,_=>Vv _
 |n::ns,i,h=>by
  rw[Yb,Yr]at h;have ih:=Fua id ns (i+1) h.2;unfold atN
  cases hx:n.1==id with
  |false=>exact ih
  |true=>
   have he:atN ns id (i+1)=[]:=by
    refine Dub.2 λ x hx'=>?_;obtain⟨j,h1,h2,_⟩:=(Rk id ns (i+1) x).1 hx';refine h.1 ?_;rw[eq_of_beq hx,← h2];exact Yo (A3 h1)
   rw[cond_true,he];exact Vw _
def Fva {ns:List Nod} (h:(ns.map (·.1)).Nodup):∀ (ids:List Int),(whr ns ids).length≤ids.length
 |[]=>Vv _
 |id::ids=>by
  rw[Sz,Vi,Vh];have:=Fua id ns 0 h;have:=Fva h ids;omega
def WO.nodup {w:Wld} (h:WO w):(w.2.2.1.map (·.1)).Nodup:=by
 rw[h.ids];have hp:=(Dy.1 (Cb.1 h.ring).1).1;have hq:(w.1.map (·.1)).Pairwise (λ a b=>a<b):=Zo.2 hp;exact hq.imp (λ {a b} hab e=>by omega)
def WO.prim5 {w:Wld} (h:WO w) (s:ByteArray):(I0 w s).length≤5:=by
 have h1:=Fva h.nodup (N8 w.2.1 s);have h2:=(Pj h.ring s).2.1;have h3:=(Cb.1 h.ring).2.1;unfold I0;omega
def A0b {j:Nat} (h:j<12):rch D0 j=1:=by
 unfold rch;rw[decide_eq_true (show j<D0.length from h)]
 have:D0.getD j 0=1:=by
  match j,h with
  |0,_|1,_|2,_|3,_|4,_|5,_|6,_|7,_|8,_|9,_|10,_|11,_=>rfl
 rw[this];rfl
def Mc {α:Type} (bs:Option α→α→α) (P:Nat→Bool) (i:Nat) (c:Nat→Option α) (m:Nat):Option α:=match c i with
 |none=>c m
 |some f=>bif P m&&!(decide (m=i)) then some (bs (c m) f) else bif decide (m=i)&&!(P i) then none else c m
def oN (ns:List Nod) (m:Nat) (t:ByteArray):Option Fil:=old (ns.getD m A7).2.1 t
def inP (w:Wld) (t:ByteArray) (m:Nat):Bool:=Gp (I0 w t) (m:Int)
def X7a {nm:List ByteArray} {w:Wld} (h:WI w) (hN:Xm nm w.2.2.2.2.1) {i:Nat} (hi:i<w.2.2.1.length) {s:ByteArray} {f:Fil} (hf:oN w.2.2.1 i s=some f):
  (puN w i s D0).2.2=true∧(puN w i s D0).2.1=inP w s i∧NR w.2.2.2.2.1 w.2.2.2.2.2 w.2.2.1 (puN w i s D0).1∧
  ∀ m,m<w.2.2.1.length→∀ t,oN (puN w i s D0).1 m t=bif teq s t&&(inP w s m&&!(decide (m=i))) then some (Mb (oN w.2.2.1 m s) f) else oN w.2.2.1 m t:=by
 have h5:=h.wo.prim5 s;have hIW:IsW w.2.2.2.2.1 s f:=ED.now h.wok ((h.nodes _ (A3 (d:=A7) hi)).2.1 s) hf
 have hlk:(lkD (w.2.2.1.getD i A7).2.1 s).1=f:=by rw[Fta hf]
 have hat:=λ x=>Jj (w:=w) (s:=s) (x:=x);unfold puN inP;rw[hlk];generalize I0 w s=ps at *
 have key:=Hs (st:=pst (i:Int) s f D0 ps) (n:=ps.length) (a:=(w.2.2.1,false,true)) (λ j (a:List Nod×Bool×Bool)=>a.2.2=true∧a.2.1=Gp (ps.take j) (i:Int)∧NR w.2.2.2.2.1 w.2.2.2.2.2 w.2.2.1 a.1∧
  ∀ m,m<w.2.2.1.length→∀ t,oN a.1 m t=bif teq s t&&(Gp (ps.take j) (m:Int)&&!(decide (m=i))) then some (Mb (oN w.2.2.1 m s) f) else oN w.2.2.1 m t) ?_ ?_
 ·rw[Yx]at key;exact key
 ·exact⟨rfl,rfl,NR.refl h.nodes,λ m _ t=>by
   show _=bif teq s t&&(false&&_) then _ else _
   rw[Zb,Xs]
   rfl⟩
 ·rintro j ⟨ns,o,g⟩ hj ⟨a1,a2,a3,a4⟩;dsimp only at a1 a2 a3 a4;subst a1;have hpx:=hat _ (A3 (d:=0) hj);obtain⟨p,hp⟩:∃ p:Nat,ps.getD j 0=(p:Int):=⟨(ps.getD j 0).toNat,by omega⟩
  have htk:∀ x:Int,Gp (ps.take (j+1)) x=(Gp (ps.take j) x||(p:Int)==x):=λ x=>by
   have e:ps[j]=(p:Int):=by rw[← hp,Vb,Ve hj];rfl
   unfold Gp;rw[We hj,Ebb,e,D6b,F0b,C5b]
  have hnl:=a3.len;unfold pst;rw[hp,Vj,A0b (by omega)]
  cases hpi:(p:Int)==(i:Int) with
  |true=>
   have e:p=i:=by have:=eq_of_beq hpi;omega
   refine⟨rfl,?_,a3,λ m hm t=>?_⟩
   ·show true=_;rw[htk,hpi,Bool.or_true]
   ·show oN ns m t=_;rw[a4 m hm t,htk,e]
    by_cases hmi:m=i
    ·rw[decide_eq_true hmi];simp
    ·rw[show ((i:Int)==(m:Int))=false by rw[beq_eq_false_iff_ne];omega,C5b]
  |false=>
   have e:p≠i:=by intro e;rw[e,beq_self_eq_true]at hpi;cases hpi
   have hpn:p<ns.length:=by omega
   have hni:=a3.1 _ (A3 (d:=A7) hpn);obtain⟨k1,k2⟩:=Sqa h.wok hN hni.1.g hni.2.1 hIW;obtain⟨d1,d2⟩:=Foa (sure:=true) h.wok hni.1.g hni.2.1 hIW
   have hcode:((keep (ns.getD p A7).2.1 s f true).2 != 0&&(keep (ns.getD p A7).2.1 s f true).2 != 1)=false:=by
    rcases k1 with k|k<;>rw[k]<;>rfl
   refine⟨?_,?_,a3.set hpn ⟨Un hni.1,d1,hni.2.2⟩ rfl d2,λ m hm t=>?_⟩
   ·show (bif ((keep (ns.getD p A7).2.1 s f true).2 != 0&&(keep (ns.getD p A7).2.1 s f true).2 != 1) then false else true)=true;rw[hcode];rfl
   ·show o=_;rw[a2,htk,hpi,C5b]
   ·show oN (ns.set p _) m t=_;unfold oN;rw[Bl (show m<ns.length by omega),htk]
    by_cases hpm:p=m
    ·subst hpm;rw[if_pos rfl,beq_self_eq_true,Bool.or_true,Wg,decide_eq_false e,Zu,C9b];show old (keep (ns.getD p A7).2.1 s f true).1 t=_;rw[k2 t];have a4s:=a4 p hm s;have a4t:=a4 p hm t;unfold oN at a4s a4t;rw[decide_eq_false e,Zu,C9b]at a4s a4t
     by_cases hst:s=t
     ·subst hst;rw[if_pos rfl,show teq s s=true from C6.2 rfl,cond_true,a4s,show teq s s=true from C6.2 rfl,Wg]
      cases Gp (ps.take j) (p:Int) with
      |true=>rw[cond_true,Fsa]
      |false=>rfl
     ·have ht:teq s t=false:=by cases hq:teq s t with|false=>rfl|true=>exact absurd (C6.1 hq) hst
      rw[if_neg hst,ht,cond_false,a4t,ht,Zb,cond_false]
    ·rw[if_neg hpm,show ((p:Int)==(m:Int))=false by rw[beq_eq_false_iff_ne];omega,C5b];exact a4 m hm t
def WI.push {w:Wld} (h:WI w) {i:Nat} (hi:i<w.2.2.1.length) (s:ByteArray) (rc:List Int):WI (N9 w i s rc).2:=h.other' (Awa h.wok h.nodes hi h.ring h.ids)
def Sra {nm:List ByteArray} {w:Wld} (h:WI w) (hN:Xm nm w.2.2.2.2.1) {i:Nat} (hi:i<w.2.2.1.length) (s:ByteArray) {m:Nat} (hm:m<w.2.2.1.length) (t:ByteArray):
  oN (N9 w i s D0).2.2.2.1 m t=bif teq s t then Mc Mb (inP w s) i (λ m=>oN w.2.2.1 m s) m else oN w.2.2.1 m t:=by
 have hst:∀ {t:ByteArray},teq s t=true→s=t:=λ h=>C6.1 h;unfold N9;rw[Ifa]
 cases ho:oN w.2.2.1 i s with
 |none=>
  have:old (w.2.2.1.getD i A7).2.1 s=none:=ho;rw[this];show oN w.2.2.1 m t=_
  cases ht:teq s t with
  |false=>rfl
  |true=>rw[cond_true,← hst ht];unfold Mc;simp only[ho]
 |some f=>
  have e1:old (w.2.2.1.getD i A7).2.1 s=some f:=ho;rw[e1];obtain⟨p1,p2,p3,p4⟩:=X7a h hN hi ho;show oN (bif (puN w i s D0).2.2&&!(puN w i s D0).2.1 then (puN w i s D0).1.set i (Xva ((puN w i s D0).1.getD i A7) s) else (puN w i s D0).1) m t=_;rw[p1,p2,Wg];have hlen:=p3.len
  have V9:Mc Mb (inP w s) i (λ m=>oN w.2.2.1 m s) m=bif inP w s m&&!(decide (m=i)) then some (Mb (oN w.2.2.1 m s) f) else bif decide (m=i)&&!(inP w s i) then none else oN w.2.2.1 m s:=by
   unfold Mc;simp only[ho]
  cases hin:inP w s i with
  |true=>
   rw[Yt,cond_false,p4 m hm t,V9,hin]
   cases ht:teq s t with
   |false=>rfl
   |true=>
    rw[hst ht,Wg,cond_true,Yt,Xs,cond_false]
  |false=>
   rw[Zu,cond_true,V9,hin];unfold oN;rw[Bl (show m<(puN w i s D0).1.length by omega)]
   by_cases hmi:i=m
   ·subst hmi;rw[if_pos rfl,hin,Zb,cond_false,decide_eq_true rfl,Zu,Wg,cond_true];have hg:=(p3.1 _ (A3 (d:=A7) (show i<(puN w i s D0).1.length by omega))).1.g;have p4s:=p4 i hi s;have p4t:=p4 i hi t;rw[hin,Zb,Xs,cond_false]at p4s p4t
    have hgs:(gt ((puN w i s D0).1.getD i A7).2.1.1 s).isSome=true:=by
     have:old ((puN w i s D0).1.getD i A7).2.1 s=some f:=p4s.trans ho;unfold old at this
     cases hq:gt ((puN w i s D0).1.getD i A7).2.1.1 s with
     |none=>rw[hq]at this;cases this
     |some b=>rfl
    show old (syD (rmD ((puN w i s D0).1.getD i A7).2.1 s).1 s).1 t=_;rw[Ova hg hgs t]
    cases ht:teq s t with
    |true=>rw[if_pos (hst ht)];rfl
    |false=>
     rw[if_neg (λ e=>by rw[e,show teq t t=true from C6.2 rfl]at ht;cases ht)];exact p4t
   ·rw[if_neg hmi,decide_eq_false (λ e=>hmi e.symm)];have:=p4 m hm t;unfold oN at this;rw[this,decide_eq_false (λ e=>hmi e.symm)]
    cases ht:teq s t with
    |false=>rfl
    |true=>
     rw[hst ht,Wg,cond_true,Zb,cond_false]

structure BOk {α:Type} (bs:Option α→α→α) (le:α→α→Prop):Prop where
 rf:∀ a,le a a
 tr:∀ {a b c},le a b→le b c→le a c
 up:∀ o f,le f (bs o f)
 ub:∀ g f,le g (bs (some g) f)
 oo:∀ o f,bs o f=f∨o=some (bs o f)
def Iga {α:Type} (k:Nat) (P:Nat→Bool) (c:Nat→Option α):Prop:=∀ m,m<k→P m=false→c m=none
def InK {α:Type} (le:α→α→Prop) (k n:Nat) (P:Nat→Bool) (c:Nat→Option α):Prop:=∀ q,q<k→P q=true→∀ x,c q=some x→∀ p,p<n→P p=true→∃ y,c p=some y∧le x y
section
variable {α:Type} {bs:Option α→α→α} {le:α→α→Prop} {P:Nat→Bool} {c c':Nat→Option α} {k n:Nat}
def Uu {i m:Nat} (h1:c i=c' i) (h2:c m=c' m):Mc bs P i c m=Mc bs P i c' m:=by
 unfold Mc;rw[h1,h2]
def Iga.eq (h:Iga k P c) (hk:k≤n) (e:∀ m,m<n→c' m=c m):Iga k P c':=λ m hm hp=>by rw[e m (by omega)];exact h m hm hp
def InK.eq (h:InK le k n P c) (hk:k≤n) (e:∀ m,m<n→c' m=c m):InK le k n P c':=λ q hq hp x hx p hp1 hp2=>by
 rw[e q (by omega)]at hx;rw[e p hp1];exact h q hq hp x hx p hp1 hp2
def Iga.ostep (h:Iga k P c):Iga (k+1) P (Mc bs P k c):=λ m hm hp=>by
 unfold Mc
 cases hk:c k with
 |none=>
  dsimp only
  by_cases e:m=k
  ·rw[e];exact hk
  ·exact h m (by omega) hp
 |some f=>
  dsimp only;rw[hp,Bool.false_and,cond_false]
  by_cases e:m=k
  ·rw[decide_eq_true e,← e,hp];rfl
  ·rw[decide_eq_false e];exact h m (by omega) hp
def InK.istep (hb:BOk bs le) (h:InK le k n P c):InK le (k+1) n P (Mc bs P k c):=by
 intro q hq hPq x hx p hp hPp
 cases hk:c k with
 |none=>
  have e:Mc bs P k c=c:=by funext m;unfold Mc;rw[hk]
  rw[e]at hx ⊢
  by_cases hqk:q=k
  ·rw[hqk,hk]at hx;cases hx
  ·exact h q (by omega) hPq x hx p hp hPp
 |some f=>
  have st:∀ m,P m=true→Mc bs P k c m=if m=k then some f else some (bs (c m) f):=λ m hm=>by
   unfold Mc;rw[hk];dsimp only
   by_cases e:m=k
   ·rw[if_pos e,decide_eq_true e,← e,hm,e,hk];rfl
   ·rw[if_neg e,decide_eq_false e,hm];rfl
  rw[st q hPq]at hx;rw[st p hPp]
  by_cases hqk:q=k
  ·rw[if_pos hqk]at hx;obtain rfl:=D4b hx
   by_cases hpk:p=k
   ·rw[if_pos hpk];exact⟨f,rfl,hb.rf f⟩
   ·rw[if_neg hpk];exact⟨_,rfl,hb.up _ f⟩
  ·rw[if_neg hqk]at hx;cases hx;rcases hb.oo (c q) f with e|e
   ·rw[e]
    by_cases hpk:p=k
    ·rw[if_pos hpk];exact⟨f,rfl,hb.rf f⟩
    ·rw[if_neg hpk];exact⟨_,rfl,hb.up _ f⟩
   ·obtain⟨y,h1,h2⟩:=h q (by omega) hPq _ e p hp hPp
    by_cases hpk:p=k
    ·rw[hpk,hk]at h1;obtain rfl:=D4b h1;rw[if_pos hpk];exact⟨f,rfl,h2⟩
    ·rw[if_neg hpk,h1];exact⟨_,rfl,hb.tr h2 (hb.ub y f)⟩
def gvC {α:Type} (bs:Option α→α→α) (P:Nat→Bool) (f:α) (c:Nat→Option α) (m:Nat):Option α:=bif P m then some (bs (c m) f) else c m
def Iga.gv {f:α} (h:Iga k P c):Iga k P (gvC bs P f c):=λ m hm hp=>by
 unfold gvC;rw[hp];exact h m hm hp
def InK.gv {f:α} (hb:BOk bs le) (h:InK le k n P c):InK le k n P (gvC bs P f c):=by
 intro q hq hPq x hx p hp hPp;unfold gvC at hx ⊢;rw[hPq,cond_true]at hx;rw[hPp,cond_true];cases hx;rcases hb.oo (c q) f with e|e
 ·rw[e];exact⟨_,rfl,hb.up _ f⟩
 ·obtain⟨y,h1,h2⟩:=h q hq hPq _ e p hp hPp;rw[h1];exact⟨_,rfl,hb.tr h2 (hb.ub y f)⟩
end
def leF (a b:Fil):Prop:=sle b.1 a.1=false
def A1b:BOk Mb leF where
 rf:=λ a=>G5 _
 tr:=λ h1 h2=>N4 h2 h1
 up:=λ o f=>by
  cases o with
  |none=>exact G5 _
  |some g=>cases h:sle g.1 f.1<;>simp[leF,Mb,h,G5]
 ub:=λ g f=>by
  cases h:sle g.1 f.1<;>simp[leF,Mb,h,G5]
  exact Ny h
 oo:=λ o f=>by
  cases o with
  |none=>exact .inl rfl
  |some g=>cases h:sle g.1 f.1<;>simp[Mb,h]
def leR (a b:Row):Prop:=I6 b a=false
def K6a (o:Option Row) (f:Row):Row:=match o with
 |some g=>mx g f
 |none=>f
def Qo (a:Row):I6 a a=false:=by
 cases h:I6 a a
 ·rfl
 have:=Pc h;rw[h]at this;cases this
def Iha:BOk K6a leR where
 rf:=Qo
 tr:=λ {a b c} h1 h2=>by
  unfold leR at *
  have n1:¬ I6 b a=true:=by rw[h1];decide
  have n2:¬ I6 c b=true:=by rw[h2];decide
  cases h:I6 c a
  ·rfl
  rw[Qd]at n1 n2 h
  cases ha:a.2.2.1<;>cases hb:b.2.2.1<;>cases hc:c.2.2.1<;>simp only[ha,hb,hc]at h n1 n2<;>simp at h n1 n2<;>omega
 up:=λ o f=>by
  cases o with
  |none=>exact Qo _
  |some g=>cases h:I6 g f<;>simp[leR,K6a,mx,h,Qo]
 ub:=λ g f=>by
  cases h:I6 g f<;>simp[leR,K6a,mx,h,Qo]
  exact Pc h
 oo:=λ o f=>by
  cases o with
  |none=>exact .inl rfl
  |some g=>cases h:I6 g f<;>simp[K6a,mx,h]
def NR.trans {ws:List Wri} {sp:List ByteArray} {a b c:List Nod} (h1:NR ws sp a b) (h2:NR ws sp b c):NR ws sp a c:=⟨h2.1,h2.2.1.trans h1.2.1,λ s hs st h=>h2.2.2 s hs st (h1.2.2 s hs st h)⟩
def SW (w v:Wld):Prop:=∃ ns,v=wN w ns∧NR w.2.2.2.2.1 w.2.2.2.2.2 w.2.2.1 ns
section
variable {w v u:Wld}
def SW.refl (h:WI w):SW w w:=⟨w.2.2.1,rfl,NR.refl h.nodes⟩
def SW.trans (h1:SW w v) (h2:SW v u):SW w u:=by
 obtain⟨a,rfl,ha⟩:=h1;obtain⟨b,rfl,hb⟩:=h2;exact⟨b,rfl,ha.trans hb⟩
def SW.wi (h:SW w v) (hw:WI w):WI v:=by
 obtain⟨ns,rfl,hn⟩:=h;exact hw.other hn
def SW.len (h:SW w v):v.2.2.1.length=w.2.2.1.length:=by
 obtain⟨ns,rfl,hn⟩:=h;exact hn.len
def SW.ws (h:SW w v):v.2.2.2.2.1=w.2.2.2.2.1:=by
 obtain⟨ns,rfl,hn⟩:=h;rfl
def SW.inP (h:SW w v) (t:ByteArray):inP v t=inP w t:=by
 obtain⟨ns,rfl,hn⟩:=h;funext m;unfold Vf.inP I0;rw[show (wN w ns).2.2.1=ns from rfl,Ut hn.2.1]
def Oxa (h:WI w) {i:Nat} (hi:i<w.2.2.1.length) (s:ByteArray):SW w (N9 w i s D0).2:=Awa h.wok h.nodes hi h.ring h.ids
def Oya (h:WI w) {i:Nat} (hi:i<w.2.2.1.length):SW w (N1 w i D0).2:=I6a h.nodes hi
def Oza (h:WI w) {i:Nat} (hi:i<w.2.2.1.length):SW w (M9 w i D0).2:=I5a h.nodes hi
def Uqa (h:WI w) {i:Nat} (hi:i<w.2.2.1.length):SW w (qtA w i):=by
 have hni:=h.nodes _ (A3 (d:=A7) hi);obtain⟨c1,c2⟩:=I4a h.wok hni.1.g hni.2.1;exact⟨_,rfl,(NR.refl h.nodes).set hi ⟨I1a hni.1,c1,hni.2.2⟩ rfl c2⟩
end
def RQ (ns ms:List Nod):Prop:=∀ m,(ms.getD m A7).2.2=(ns.getD m A7).2.2
def RQ.set {ns ms:List Nod} (h:RQ ns ms) {p:Nat} {x:Nod} (hx:x.2.2=(ms.getD p A7).2.2):RQ ns (ms.set p x):=λ m=>by
 rw[← h m]
 by_cases hm:m<ms.length
 ·rw[Bl hm]
  by_cases e:p=m
  ·rw[if_pos e,hx,e]
  ·rw[if_neg e]
 ·rw[Vb,Vb,Yu (by rw[Vt];omega),Yu (by omega)]
def A2b (w:Wld) (i:Nat) (s:ByteArray) (rc:List Int):RQ w.2.2.1 (puN w i s rc).1:=by
 unfold puN;refine Hs (λ _ (a:List Nod×Bool×Bool)=>RQ w.2.2.1 a.1) (λ _=>rfl) ?_;rintro j ⟨ns,o,g⟩ hj a1;dsimp only at a1;unfold pst
 cases (I0 w s).getD j 0==(i:Int) with
 |true=>exact a1
 |false=>
  cases rch rc j != 1 with
  |true=>exact a1
  |false=>exact a1.set rfl
def Ssa (w:Wld) (i:Nat) (s:ByteArray) (rc:List Int):RQ w.2.2.1 (N9 w i s rc).2.2.2.1:=by
 have h:=A2b w i s rc;unfold N9
 cases (lkD (w.2.2.1.getD i A7).2.1 s).2 != 0 with
 |true=>exact λ _=>rfl
 |false=>
  show RQ w.2.2.1 (bif (puN w i s rc).2.2&&!(puN w i s rc).2.1 then (puN w i s rc).1.set i (Xva ((puN w i s rc).1.getD i A7) s) else (puN w i s rc).1)
  cases (puN w i s rc).2.2&&!(puN w i s rc).2.1 with
  |true=>exact h.set rfl
  |false=>exact h
def P0a {s t:ByteArray} (h:s≠t):teq s t=false:=by
 cases hq:teq s t with
 |false=>rfl
 |true=>exact absurd (C6.1 hq) h
def Fwa {l:List ByteArray} {t:ByteArray} (h:t∉l):Saa l t=false:=by
 cases hq:Saa l t with
 |false=>rfl
 |true=>exact absurd (N0.1 hq) h
def Xo {i:Nat}:∀ (l:List ByteArray) {w:Wld},WI w→i<w.2.2.1.length→SW w (Jz w i l)
 |[],w,h,_=>SW.refl h
 |s::l,w,h,hi=>by
  have h1:=Oxa h hi s;exact h1.trans (Xo l (h1.wi h) (by rw[h1.len];exact hi))
def Xp {i:Nat}:∀ (l:List ByteArray) {w:Wld},RQ w.2.2.1 (Jz w i l).2.2.1
 |[],w=>λ _=>rfl
 |s::l,w=>λ m=>(Xp l m).trans (Ssa w i s D0 m)
def Xq {nm:List ByteArray} {i:Nat} (t:ByteArray):∀ (l:List ByteArray) {w:Wld},WI w→Xm nm w.2.2.2.2.1→i<w.2.2.1.length→l.Nodup→∀ m,m<w.2.2.1.length→
  oN (Jz w i l).2.2.1 m t=bif Saa l t then Mc Mb (inP w t) i (λ m=>oN w.2.2.1 m t) m else oN w.2.2.1 m t
 |[],w,_,_,_,_,m,_=>rfl
 |s::l,w,h,hN,hi,hl,m,hm=>by
  have h1:=Oxa h hi s;obtain⟨hl1,hl2⟩:=Yr.1 hl;have ih:=Xq (nm:=nm) t l (h1.wi h) (by rw[h1.ws];exact hN) (by rw[h1.len];exact hi) hl2 m (by rw[h1.len];exact hm);have pm:=λ m hm=>Sra h hN hi s (m:=m) hm t;show oN (Jz (N9 w i s D0).2 i l).2.2.1 m t=_;rw[ih,h1.inP]
  by_cases ht:t∈l
  ·have hst:s≠t:=λ e=>hl1 (e ▸ ht);rw[N0.2 ht,N0.2 (Vd _ ht),cond_true,cond_true];refine Uu ?_ ?_
   ·show oN _ i t=_;rw[pm i hi,P0a hst];rfl
   ·show oN _ m t=_;rw[pm m hm,P0a hst];rfl
  ·rw[Fwa ht,cond_false,pm m hm]
   by_cases hst:s=t
   ·subst hst;rw[N0.2 Wl,C6.2 rfl]
   ·rw[Fwa (l:=s::l) (by rw[Vl];rintro (e|e);exact hst e.symm;exact ht e),P0a hst];rfl
def K7a {d:Dsk} (hd:C7 d=true):(N7 d).Nodup:=by
 rw[S9a (Hy hd)];unfold Wra;have h1:Cz (d.1.filter λ x=>(K6 x.2).isSome):=(Hy hd).sublist Dfb;have hp:((d.1.filter λ x=>(K6 x.2).isSome).map Prod.fst).Pairwise (λ a b=>tlt a b=true):=Zo.2 h1;exact hp.imp (λ {a b} hab e=>by subst e;rw[Eg]at hab;cases hab)
def P1a {d:Dsk} {t:ByteArray} (h:t∉N7 d):old d t=none:=by
 have h1:¬ Dja d t:=λ c=>h (Ola.2 c);have h2:=Ifa (d:=d) (s:=t);unfold Dja at h1
 cases h3:old d t with
 |none=>rfl
 |some f=>
  rw[h3]at h2;exact absurd (by simpa using h2) h1
def Iia {w:Wld} (h:WI w) {i:Nat} (hi:i<w.2.2.1.length) {m:Nat} (hm:m<w.2.2.1.length) (t:ByteArray):oN (qtA w i).2.2.1 m t=oN w.2.2.1 m t:=by
 show oN (w.2.2.1.set i (Uga (w.2.2.1.getD i A7)).1) m t=_;unfold oN;rw[Bl hm]
 by_cases e:i=m
 ·subst e;rw[if_pos rfl];exact Dla (h.nodes _ (A3 (d:=A7) hi)).1.g t
 ·rw[if_neg e]
def Ura {w:Wld} (h:WI w) {i:Nat} (hi:i<w.2.2.1.length):SW w (qtP w i):=by
 have h1:=Uqa h hi;exact h1.trans (Xo _ (h1.wi h) (by rw[h1.len];exact hi))
def Usa (w:Wld) (i:Nat):RQ w.2.2.1 (qtP w i).2.2.1:=λ m=>(Xp _ m).trans ((show RQ w.2.2.1 w.2.2.1 from λ _=>rfl).set (p:=i) (x:=(Uga (w.2.2.1.getD i A7)).1) rfl m)
def A3b {nm:List ByteArray} {w:Wld} (h:WI w) (hN:Xm nm w.2.2.2.2.1) {i:Nat} (hi:i<w.2.2.1.length) {m:Nat} (hm:m<w.2.2.1.length) (t:ByteArray):
  oN (qtP w i).2.2.1 m t=Mc Mb (inP w t) i (λ m=>oN w.2.2.1 m t) m:=by
 have h1:=Uqa h hi
 have hi':i<(qtA w i).2.2.1.length:=by rw[h1.len];exact hi
 have hd:=((h1.wi h).nodes _ (A3 (d:=A7) hi')).1.g.1;have k:=Xq (nm:=nm) t (N7 ((qtA w i).2.2.1.getD i A7).2.1) (h1.wi h) (by rw[h1.ws];exact hN) hi' (K7a hd) m (by rw[h1.len];exact hm);show oN (Jz (qtA w i) i _).2.2.1 m t=_;rw[k,h1.inP]
 by_cases ht:t∈N7 ((qtA w i).2.2.1.getD i A7).2.1
 ·rw[N0.2 ht];exact Uu (c:=λ m=>oN (qtA w i).2.2.1 m t) (c':=λ m=>oN w.2.2.1 m t) (Iia h hi hi t) (Iia h hi hm t)
 ·rw[Fwa ht,cond_false,Iia h hi hm t];have e:oN w.2.2.1 i t=none:=(Iia h hi hi t).symm.trans (P1a ht);unfold Mc;dsimp only;rw[e]

def Sta {nm:List ByteArray} {ws:List Wri} (hN:Xm nm ws) {a:List Row} (hs:Ay a) (h:∀ r∈a,Rl ws r=true):a.length≤60:=by
 have hp:(a.map (·.1)).Pairwise (λ a b=>tlt a b=true):=Zo.2 hs;have hd:(a.map (·.1)).Nodup:=hp.imp (λ {a b} hab e=>by subst e;rw[Eg]at hab;cases hab)
 have:=Qn _ nm hd (λ s hs=>by
  obtain⟨r,hr,rfl⟩:=Yw.1 hs;obtain⟨x,hx,rfl⟩:=Nz.1 (h r hr)
  exact hN.2 x hx)
 rw[Wc]at this;have:=hN.1;omega
def Kfa (n:Nod) (l:List Row):Nod:=(n.1,n.2.1,Ky n.2.2.1 l,n.2.2.2)
def NI.rows {ws:List Wri} {sp:List ByteArray} {n:Nod} (h:NI ws sp n):Ay n.2.2.1:=(I5.1 (Bj.1 h.1.1).2.2.2.1).1
def Uta {nm:List ByteArray} {ws:List Wri} {sp:List ByteArray} (hN:Xm nm ws) {n:Nod} (h:NI ws sp n) {l:List Row} (hr:∀ r∈l,Rl ws r=true):tk n l=(true,Kfa n l):=by
 have h1:(Ky n.2.2.1 l).length≤60:=Sta hN (J3 h.rows) (λ r hr'=>(Aaa hr').elim (h.2.2.1 r) (hr r));unfold tk;rw[decide_eq_false (by omega)];rfl
def Dma {nm:List ByteArray} {w:Wld} (h:WI w) (hN:Xm nm w.2.2.2.2.1) {src:Int} {l:List Row} {self:Bool} (hl:Ho l=true) (hr:∀ r∈l,Rl w.2.2.2.2.1 r=true):
  (I7 w src l self D0).2=true∧∀ m,m<w.2.2.1.length→(I7 w src l self D0).1.getD m A7=bif inP w Ki m&&!((m:Int)==src&&!self) then Kfa (w.2.2.1.getD m A7) l else w.2.2.1.getD m A7:=by
 have h5:(Ar w).length≤5:=h.wo.prim5 Ki;have hat:=λ x=>Io (w:=w) (x:=x);have hls:=(I5.1 hl).1;unfold I7 inP;rw[show I0 w Ki=Ar w from rfl];generalize Ar w=ps at *
 have key:=Hs (st:=gst src l self D0 ps) (n:=ps.length) (a:=(w.2.2.1,true)) (λ j (a:List Nod×Bool)=>a.2=true∧NR w.2.2.2.2.1 w.2.2.2.2.2 w.2.2.1 a.1∧
  ∀ m,m<w.2.2.1.length→a.1.getD m A7=bif Gp (ps.take j) (m:Int)&&!((m:Int)==src&&!self) then Kfa (w.2.2.1.getD m A7) l else w.2.2.1.getD m A7) ?_ ?_
 ·rw[Yx]at key;exact⟨key.1,key.2.2⟩
 ·exact⟨rfl,NR.refl h.nodes,λ m _=>by
   show _=bif false&&_ then _ else _
   rw[Zb]
   rfl⟩
 ·rintro j ⟨ns,g⟩ hj ⟨a1,a3,a4⟩;dsimp only at a1 a3 a4;subst a1;have hpx:=hat _ (A3 (d:=0) hj);obtain⟨p,hp⟩:∃ p:Nat,ps.getD j 0=(p:Int):=⟨(ps.getD j 0).toNat,by omega⟩
  have htk:∀ x:Int,Gp (ps.take (j+1)) x=(Gp (ps.take j) x||(p:Int)==x):=λ x=>by
   have e:ps[j]=(p:Int):=by rw[← hp,Vb,Ve hj];rfl
   unfold Gp;rw[We hj,Ebb,e,D6b,F0b,C5b]
  have hnl:=a3.len
  have hpn:p<ns.length:=by omega
  have hni:=a3.1 _ (A3 (d:=A7) hpn);unfold gst;rw[hp,Vj,A0b (by omega),Uta hN hni hr]
  cases hpi:(p:Int)==src&&!self with
  |true=>
   refine⟨rfl,a3,λ m hm=>?_⟩;show ns.getD m A7=_;rw[a4 m hm,htk]
   by_cases hmp:p=m
   ·subst hmp;rw[hpi,Yt,Xs,Xs]
   ·rw[show ((p:Int)==(m:Int))=false by rw[beq_eq_false_iff_ne];omega,C5b]
  |false=>
   have hnr:NI w.2.2.2.2.1 w.2.2.2.2.2 (Kfa (ns.getD p A7) l):=by
    obtain⟨t1,_,_⟩:=Zsa (n:=ns.getD p A7) hni hl hr;rw[Uta hN hni hr]at t1;exact t1
   refine⟨rfl,a3.set hpn hnr rfl (MO.refl _ _),λ m hm=>?_⟩;show (ns.set p (Kfa (ns.getD p A7) l)).getD m A7=_;rw[Bl (show m<ns.length by omega),htk]
   by_cases hpm:p=m
   ·subst hpm;rw[if_pos rfl,beq_self_eq_true,Bool.or_true,Wg,hpi,Zu,cond_true,a4 p hm,hpi,Zu,C9b]
    cases Gp (ps.take j) (p:Int) with
    |false=>rfl
    |true=>
     show Kfa (Kfa (w.2.2.1.getD p A7) l) l=Kfa (w.2.2.1.getD p A7) l;unfold Kfa;dsimp only;rw[N9a (h.nodes _ (A3 (d:=A7) hm)).rows hls]
   ·rw[if_neg hpm,show ((p:Int)==(m:Int))=false by rw[beq_eq_false_iff_ne];omega,C5b];exact a4 m hm
def Ija {n:Nod} (h:n.2.2.2=[]):n=Sia n []:=by
 obtain⟨a,b,c,d⟩:=n;dsimp only at h;subst h;rfl
def P2a {nm:List ByteArray} {w:Wld} (h:WI w) (hN:Xm nm w.2.2.2.2.1) {i:Nat} (hi:i<w.2.2.1.length) {m:Nat} (hm:m<w.2.2.1.length):
  (N1 w i D0).2.2.2.1.getD m A7=Sia (bif inP w Ki m then Kfa (w.2.2.1.getD m A7) ((w.2.2.1.getD i A7).2.2.2.take 1) else w.2.2.1.getD m A7) (bif decide (m=i) then (w.2.2.1.getD m A7).2.2.2.drop 1 else (w.2.2.1.getD m A7).2.2.2):=by
 have hni:=h.nodes _ (A3 (d:=A7) hi);have hq:=(Bj.1 hni.1.1).1;unfold N1
 cases hz:((w.2.2.1.getD i A7).2.2.2.length:Int)==0 with
 |true=>
  have e:(w.2.2.1.getD i A7).2.2.2=[]:=Wk (by have:=eq_of_beq hz;omega);rw[e];show w.2.2.1.getD m A7=_
  by_cases hmi:m=i
  ·subst hmi;rw[decide_eq_true rfl,e]
   cases inP w Ki m with
   |true=>exact Ija (n:=Kfa (w.2.2.1.getD m A7) []) e
   |false=>exact Ija e
  ·rw[decide_eq_false hmi]
   cases inP w Ki m<;>rfl
 |false=>
  obtain⟨g1,g2⟩:=Dma h hN (src:=(i:Int)) (self:=true) (J5 hq) (λ r hr=>hni.2.2.2 r (Zw hr));have gl:(Ih w i D0).1.length=w.2.2.1.length:=(Qm (J5 hq) h.ns).2;rw[show I7 w (i:Int) ((w.2.2.1.getD i A7).2.2.2.take 1) true D0=Ih w i D0 from rfl]at g1 g2;have g3:=g2 m hm;rw[Yt,Xs,Zu,C9b]at g3;show (bif (Ih w i D0).2 then (Ih w i D0).1.set i (Sia ((Ih w i D0).1.getD i A7) ((w.2.2.1.getD i A7).2.2.2.drop 1)) else (Ih w i D0).1).getD m A7=_;rw[g1,cond_true,Bl (by omega)]
  by_cases hmi:i=m
  ·subst hmi;rw[if_pos rfl,g3,decide_eq_true rfl,cond_true]
  ·rw[if_neg hmi,g3,decide_eq_false (λ e=>hmi e.symm),cond_false]
   cases inP w Ki m<;>rfl
def P3a {nm:List ByteArray} {w:Wld} (h:WI w) (hN:Xm nm w.2.2.2.2.1) {i:Nat} (hi:i<w.2.2.1.length) {m:Nat} (hm:m<w.2.2.1.length):
  (M9 w i D0).2.2.2.1.getD m A7=bif inP w Ki m&&!(decide (m=i)) then Kfa (w.2.2.1.getD m A7) (w.2.2.1.getD i A7).2.2.1 else bif decide (m=i)&&!(inP w Ki i) then Oy (w.2.2.1.getD m A7) else w.2.2.1.getD m A7:=by
 have hni:=h.nodes _ (A3 (d:=A7) hi);have hro:=(Bj.1 hni.1.1).2.2.2.1;unfold M9
 cases hz:((w.2.2.1.getD i A7).2.2.1.length:Int)==0 with
 |true=>
  have e:(w.2.2.1.getD i A7).2.2.1=[]:=Wk (by have:=eq_of_beq hz;omega);rw[e];show w.2.2.1.getD m A7=_
  by_cases hmi:m=i
  ·subst hmi;rw[decide_eq_true rfl,Yt,Xs,cond_false]
   cases inP w Ki m with
   |true=>rfl
   |false=>show _=Oy (w.2.2.1.getD m A7);unfold Oy;rw[← e]
  ·rw[decide_eq_false hmi]
   cases inP w Ki m<;>rfl
 |false=>
  obtain⟨g1,g2⟩:=Dma h hN (src:=(i:Int)) (self:=false) hro hni.2.2.1;have gn:NR w.2.2.2.2.1 w.2.2.2.2.2 w.2.2.1 (I7 w (i:Int) (w.2.2.1.getD i A7).2.2.1 false D0).1:=Axa h.nodes hro hni.2.2.1;rw[show I7 w (i:Int) (w.2.2.1.getD i A7).2.2.1 false D0=Ha w i D0 from rfl]at g1 g2 gn;have gl:=gn.len
  have eL:Gp (Ar (wN w (Ha w i D0).1)) (i:Int)=inP w Ki i:=by
   unfold Ar inP I0;rw[show (wN w (Ha w i D0).1).2.2.1=(Ha w i D0).1 from rfl,Ut gn.2.1]
  have gq:∀ q:Nat,((q:Int)==(i:Int)&&!false)=decide (q=i):=λ q=>by
   rw[Zu,C9b]
   by_cases e:q=i
   ·rw[e,beq_self_eq_true,decide_eq_true rfl]
   ·rw[decide_eq_false e,beq_eq_false_iff_ne];omega
  have g3:=g2 m hm;rw[gq]at g3;show (bif (Ha w i D0).2&&!(Gp (Ar (wN w (Ha w i D0).1)) (i:Int)) then (Ha w i D0).1.set i (Oy ((Ha w i D0).1.getD i A7)) else (Ha w i D0).1).getD m A7=_;rw[g1,Wg,eL]
  cases hin:inP w Ki i with
  |true=>
   rw[Yt,cond_false,g3,Xs,cond_false]
  |false=>
   rw[Zu,cond_true,Bl (by omega)]
   by_cases hmi:i=m
   ·subst hmi;rw[if_pos rfl,decide_eq_true rfl,hin,Zb,cond_false,Wg,cond_true];rw[decide_eq_true rfl,hin,Zb,cond_false]at g3;rw[g3]
   ·rw[if_neg hmi,g3,decide_eq_false (λ e=>hmi e.symm),Zb,cond_false]
def rN (ns:List Nod) (m:Nat) (t:ByteArray):Option Row:=Fs (ns.getD m A7).2.2.1 t
def InK.rows {k n:Nat} {P:Nat→Bool} {t:ByteArray}:∀ (q:List Row) {R:Nat→List Row},(∀ m,m<n→Ay (R m))→k≤n→(Iga k P (λ m=>Fs (R m) t)∧InK leR k n P (λ m=>Fs (R m) t))→
  Iga k P (λ m=>Fs (bif P m then Ky (R m) q else R m) t)∧InK leR k n P (λ m=>Fs (bif P m then Ky (R m) q else R m) t)
 |[],R,hs,hk,h=>by
  have e:(λ m=>Fs (bif P m then Ky (R m) [] else R m) t)=λ m=>Fs (R m) t:=by
   funext m
   cases P m<;>rfl
  rw[e];exact h
 |r::q,R,hs,hk,h=>by
  have e:∀ m,m<n→Fs (bif P m then mrg (R m) r else R m) t=bif teq r.1 t then gvC K6a P r (λ m=>Fs (R m) t) m else Fs (R m) t:=λ m hm=>by
   unfold gvC
   cases P m with
   |false=>cases teq r.1 t<;>rfl
   |true=>
    rw[cond_true,Cla (hs m hm) t]
    cases teq r.1 t with
    |false=>rfl
    |true=>dsimp only;cases Fs (R m) t<;>rfl
  have ih:=InK.rows q (R:=λ m=>bif P m then mrg (R m) r else R m) (P:=P) (t:=t) (k:=k) (n:=n) (λ m hm=>by
   cases P m with
   |true=>exact Oi (hs m hm)
   |false=>exact hs m hm) hk ?_
  ·have e2:(λ m=>Fs (bif P m then Ky (bif P m then mrg (R m) r else R m) q else (bif P m then mrg (R m) r else R m)) t)=λ m=>Fs (bif P m then Ky (R m) (r::q) else R m) t:=by
    funext m
    cases P m<;>rfl
   rw[← e2];exact ih
  ·cases ht:teq r.1 t with
   |true=>exact⟨h.1.gv.eq hk (λ m hm=>by rw[e m hm,ht];rfl),(h.2.gv (f:=r) Iha).eq hk (λ m hm=>by rw[e m hm,ht];rfl)⟩
   |false=>exact⟨h.1.eq hk (λ m hm=>by rw[e m hm,ht];rfl),h.2.eq hk (λ m hm=>by rw[e m hm,ht];rfl)⟩
def WI.give {w:Wld} (h:WI w) (m:Nat) (hm:m<w.2.2.1.length):Ay (w.2.2.1.getD m A7).2.2.1:=(h.nodes _ (A3 (d:=A7) hm)).rows
structure TA (w v:Wld) (i n:Nat):Prop where
 sw:SW w v
 di:∀ m,m<w.2.2.1.length→(v.2.2.1.getD m A7).2.1=(w.2.2.1.getD m A7).2.1
 ro:∀ m,m<w.2.2.1.length→(v.2.2.1.getD m A7).2.2.1=bif inP w Ki m then Ky (w.2.2.1.getD m A7).2.2.1 ((w.2.2.1.getD i A7).2.2.2.take n) else (w.2.2.1.getD m A7).2.2.1
 qu:∀ m,m<w.2.2.1.length→(v.2.2.1.getD m A7).2.2.2=bif decide (m=i) then (w.2.2.1.getD m A7).2.2.2.drop n else (w.2.2.1.getD m A7).2.2.2
def Uv {nm:List ByteArray} {w:Wld} (h:WI w) (hN:Xm nm w.2.2.2.2.1) {i:Nat} (hi:i<w.2.2.1.length):∀ n,TA w (I1 w i n) i n
 |0=>⟨SW.refl h,λ _ _=>rfl,λ m _=>by cases inP w Ki m<;>rfl,λ m _=>by cases decide (m=i)<;>rfl⟩
 |n+1=>by
  have ih:=Uv h hN hi n;show TA w (N1 (I1 w i n) i D0).2 i (n+1);generalize I1 w i n=v at *;have hv:=ih.sw.wi h;have hl:=ih.sw.len;have t1:=Oya hv (i:=i) (by omega);have t2:=λ m (hm:m<w.2.2.1.length)=>P2a hv (nm:=nm) (by rw[ih.sw.ws];exact hN) (i:=i) (by omega) (m:=m) (by omega);rw[ih.sw.inP]at t2;refine⟨ih.sw.trans t1,λ m hm=>?_,λ m hm=>?_,λ m hm=>?_⟩
  ·rw[t2 m hm,← ih.di m hm]
   cases inP w Ki m<;>rfl
  ·rw[t2 m hm];have r1:=ih.ro m hm;have q1:=ih.qu i hi;rw[decide_eq_true rfl,cond_true]at q1;rw[q1]
   cases hp:inP w Ki m with
   |false=>
    rw[hp,cond_false]at r1;exact r1
   |true=>
    rw[hp,cond_true]at r1;show Ky (v.2.2.1.getD m A7).2.2.1 _=Ky _ _;rw[r1];unfold Ky;rw[← Cyb,F4b (i:=n) (j:=1)]
  ·rw[t2 m hm];show (bif decide (m=i) then (v.2.2.1.getD m A7).2.2.2.drop 1 else (v.2.2.1.getD m A7).2.2.2)=_;rw[ih.qu m hm]
   cases decide (m=i) with
   |true=>rw[cond_true,cond_true,cond_true,Yp]
   |false=>rfl
structure RI (nm:List ByteArray) (k:Nat) (w:Wld):Prop where
 wi:WI w
 few:Xm nm w.2.2.2.2.1
 fo:∀ t,Iga k (inP w t) (λ m=>oN w.2.2.1 m t)
 fi:∀ t,InK leF k w.2.2.1.length (inP w t) (λ m=>oN w.2.2.1 m t)
 ro:∀ t,Iga k (inP w Ki) (λ m=>rN w.2.2.1 m t)
 ri:∀ t,InK leR k w.2.2.1.length (inP w Ki) (λ m=>rN w.2.2.1 m t)
 qe:∀ m,m<k→(w.2.2.1.getD m A7).2.2.2=[]
def RI.rstep {nm:List ByteArray} {w:Wld} {i:Nat} (h:RI nm i w) (hi:i<w.2.2.1.length):RI nm (i+1) (qtN w i)∧SW w (qtN w i):=by
 have s1:=Ura h.wi hi;have o1:=λ m (hm:m<w.2.2.1.length) t=>A3b h.wi h.few hi hm t;have r1:=Usa w i;have w1:=s1.wi h.wi;have l1:=s1.len;have p1:=s1.inP
 have f1:Xm nm (qtP w i).2.2.2.2.1:=by rw[s1.ws];exact h.few
 unfold qtN qtT;generalize qtP w i=u at *;have ta:=Uv w1 f1 (i:=i) (by omega) (u.2.2.1.getD i A7).2.2.2.length;generalize I1 u i (u.2.2.1.getD i A7).2.2.2.length=v at *;have w2:=ta.sw.wi w1;have l2:=ta.sw.len;have p2:=λ t=>(ta.sw.inP t).trans (p1 t)
 have f2:Xm nm v.2.2.2.2.1:=by rw[ta.sw.ws];exact f1
 have s3:=Oza w2 (i:=i) (by omega);have g3:=λ m (hm:m<w.2.2.1.length)=>P3a w2 f2 (i:=i) (by omega) (m:=m) (by omega);rw[p2]at g3;have l3:=s3.len;have p3:=λ t=>(s3.inP t).trans (p2 t)
 have f3:Xm nm (M9 v i D0).2.2.2.2.2.1:=by rw[s3.ws];exact f2
 have w3:=s3.wi w2;have s4:=(s1.trans ta.sw).trans s3
 have eo:∀ t m,m<w.2.2.1.length→oN (M9 v i D0).2.2.2.1 m t=Mc Mb (inP w t) i (λ m=>oN w.2.2.1 m t) m:=λ t m hm=>by
  rw[← o1 m hm t];unfold oN;rw[g3 m hm,← ta.di m (by omega)]
  cases inP w Ki m&&!(decide (m=i)) with
  |true=>rfl
  |false=>cases decide (m=i)&&!(inP w Ki i)<;>rfl
 have tv:∀ t,Iga i (inP w Ki) (λ m=>rN v.2.2.1 m t)∧InK leR i w.2.2.1.length (inP w Ki) (λ m=>rN v.2.2.1 m t):=λ t=>by
  have:=InK.rows (t:=t) (P:=inP w Ki) (k:=i) (n:=w.2.2.1.length) (u.2.2.1.getD i A7).2.2.2 (R:=λ m=>(u.2.2.1.getD m A7).2.2.1) (λ m hm=>w1.give m (by omega)) (by omega) ⟨(h.ro t).eq (n:=w.2.2.1.length) (by omega) (λ m hm=>by
   unfold rN;rw[r1 m]),(h.ri t).eq (by omega) (λ m hm=>by unfold rN;rw[r1 m])⟩
  have e:∀ m,m<w.2.2.1.length→rN v.2.2.1 m t=Fs (bif inP w Ki m then Ky (u.2.2.1.getD m A7).2.2.1 (u.2.2.1.getD i A7).2.2.2 else (u.2.2.1.getD m A7).2.2.1) t:=λ m hm=>by
   have:=ta.ro m (by omega);rw[p1,Yx]at this;unfold rN;rw[this]
  exact⟨this.1.eq (n:=w.2.2.1.length) (by omega) e,this.2.eq (by omega) e⟩
 have er:∀ t m,m<w.2.2.1.length→rN (M9 v i D0).2.2.2.1 m t=Mc K6a (inP w Ki) i (λ m=>rN v.2.2.1 m t) m:=λ t m hm=>by
  have hl:=M0 (w2.give m (by omega)) (w2.give i (by omega)) t;unfold Mc rN;rw[g3 m hm];dsimp only;have hno:∀ n:Nod,Fs (Oy n).2.2.1 t=none:=λ _=>rfl
  cases hk:Fs (v.2.2.1.getD i A7).2.2.1 t with
  |none=>
   rw[hk]at hl;dsimp only
   cases hc:inP w Ki m&&!(decide (m=i)) with
   |true=>
    show Fs (Ky (v.2.2.1.getD m A7).2.2.1 (v.2.2.1.getD i A7).2.2.1) t=_;rw[hl]
    cases Fs (v.2.2.1.getD m A7).2.2.1 t<;>rfl
   |false=>
    rw[cond_false]
    by_cases hmi:m=i
    ·rw[decide_eq_true hmi,hmi,hk]
     cases inP w Ki i with
     |true=>exact hk
     |false=>rfl
    ·rw[decide_eq_false hmi];rfl
  |some r=>
   rw[hk]at hl;dsimp only
   cases hc:inP w Ki m&&!(decide (m=i)) with
   |true=>
    show Fs (Ky (v.2.2.1.getD m A7).2.2.1 (v.2.2.1.getD i A7).2.2.1) t=_;rw[hl]
    cases Fs (v.2.2.1.getD m A7).2.2.1 t<;>rfl
   |false=>
    rw[cond_false,cond_false]
    cases decide (m=i)&&!(inP w Ki i)<;>rfl
 refine⟨⟨w3,f3,λ t=>?_,λ t=>?_,λ t=>?_,λ t=>?_,λ m hm=>?_⟩,s4⟩
 ·rw[p3];exact(h.fo t).ostep.eq (n:=w.2.2.1.length) (by omega) (eo t)
 ·rw[p3,s4.len];exact((h.fi t).istep A1b).eq (by omega) (eo t)
 ·rw[p3];exact(tv t).1.ostep.eq (n:=w.2.2.1.length) (by omega) (er t)
 ·rw[p3,s4.len];exact((tv t).2.istep Iha).eq (by omega) (er t)
 ·have e1:((M9 v i D0).2.2.2.1.getD m A7).2.2.2=(v.2.2.1.getD m A7).2.2.2:=by
   rw[g3 m (by omega)]
   cases inP w Ki m&&!(decide (m=i)) with
   |true=>rfl
   |false=>cases decide (m=i)&&!(inP w Ki i)<;>rfl
  rw[e1,ta.qu m (by omega)]
  by_cases hmi:m=i
  ·rw[decide_eq_true hmi,cond_true,hmi,Wm]
  ·rw[decide_eq_false hmi,cond_false,r1 m];exact h.qe m (by omega)
def Uua {nm:List ByteArray} {w:Wld} (h:WI w) (hN:Xm nm w.2.2.2.2.1):∀ k,k≤w.2.2.1.length→RI nm k (run qtN k w)∧SW w (run qtN k w)
 |0,_=>⟨⟨h,hN,λ _ m hm=>(by omega),λ _ q hq=>(by omega),λ _ m hm=>(by omega),λ _ q hq=>(by omega),λ m hm=>(by omega)⟩,SW.refl h⟩
 |k+1,hk=>by
  obtain⟨h1,h2⟩:=Uua h hN k (by omega);rw[J1];have hl:=h2.len;generalize run qtN k w=v at *;obtain⟨h3,h4⟩:=h1.rstep (by omega);exact⟨h3,h2.trans h4⟩
def Sua {nm:List ByteArray} {w:Wld} (h:WI w) (hN:Xm nm w.2.2.2.2.1):RI nm (Jk w).2.2.1.length (Jk w)∧SW w (Jk w):=by
 obtain⟨h1,h2⟩:=Uua h hN _ (Vw _);have hl:=h2.len;unfold Jk;generalize run qtN w.2.2.1.length w=v at *;rw[hl];exact⟨h1,h2⟩

def Dna {p zs:List Int} {z:Bool} {l:List Dev} (h:(l.map (·.1)).Nodup):(hoA p zs z l).Nodup:=by
 unfold hoA;exact h.sublist (Dfb.map _)
def P4a:∀ {l:List Dev} {a b:Dev},(l.map (·.1)).Nodup→a∈l→b∈l→a.1=b.1→a=b
 |[],_,_,_,h,_,_=>nomatch h
 |x::l,a,b,hn,ha,hb,e=>by
  rw[Yb,Yr]at hn;rcases Vl.1 ha with ea|ha'
  ·rcases Vl.1 hb with eb|hb'
   ·rw[ea,eb]
   ·exact absurd (by rw[← ea,e];exact Yo hb') hn.1
  ·rcases Vl.1 hb with eb|hb'
   ·exact absurd (by rw[← eb,← e];exact Yo ha') hn.1
   ·exact P4a hn.2 ha' hb' e
def W2 {r:Rng} {l:List Dev} {x:ByteArray} (h:(l.map (·.1)).Nodup) (hp:(N8 r x).Nodup):(N8 r x++Ld r l x).Nodup:=by
 have mem:∀ {z:Bool} {i:Int},i∈hoA (N8 r x) (C2 (N8 r x) l) z l→Gp (N8 r x) i=false∧∃ d∈l,d.1=i∧Gp (C2 (N8 r x) l) d.2.1=z:=by
  intro z i hi;unfold hoA at hi;obtain⟨d,hd,rfl⟩:=Yw.1 hi;obtain⟨h1,h2⟩:=Cvb.1 hd;rw[Va,Vz,beq_iff_eq]at h2;exact⟨h2.1,d,h1,rfl,h2.2⟩
 unfold Ld;rw[Ya,Ya];refine⟨hp,⟨Dna h,Dna h,λ a ha b hb e=>?_⟩,λ a ha b hb e=>?_⟩
 ·subst e;obtain⟨_,d,hd,e1,z1⟩:=mem ha;obtain⟨_,d',hd',e2,z2⟩:=mem hb;rw[P4a h hd hd' (e1.trans e2.symm)]at z1;rw[z1]at z2;cases z2
 ·subst e;rcases Vm.1 hb with hb|hb
  ·have:=(mem hb).1;rw[H7.2 ha]at this;cases this
  ·have:=(mem hb).1;rw[H7.2 ha]at this;cases this
def Doa {ns:List Nod} (h:(ns.map (·.1)).Nodup):∀ {ids:List Int},ids.Nodup→(whr ns ids).Nodup
 |[],_=>F3b
 |id::ids,hi=>by
  obtain⟨h1,h2⟩:=Yr.1 hi;rw[Sz,Ya];refine⟨?_,Doa h h2,λ a ha b hb e=>?_⟩
  ·have:=Fua id ns 0 h
   match hq:atN ns id 0 with
   |[]=>exact F3b
   |[x]=>exact Ccb _ _
   |x::y::l=>rw[hq,Vh,Vh]at this;omega
  ·subst e;obtain⟨j,hj1,hj2,hj3⟩:=(Rk id ns 0 a).1 ha;obtain⟨i,hi1,hi2,hi3⟩:=Pl.1 hb
   have:i=j:=by omega
   subst this;rw[hj2]at hi2;exact h1 hi2
def WO.contacts_nodup {w:Wld} (h:WO w) (s:ByteArray):(contacts w s).Nodup:=by
 have hd:(w.1.map (·.1)).Nodup:=by rw[← h.ids];exact h.nodup
 exact Doa h.nodup (W2 hd (Pj h.ring s).1)
def CA (l:List Row) (s:ByteArray) (st:Stp):Prop:=∃ r∈l,r.1=s∧sle r.2.1 st=false
def CV (n:Nod) (l:List Row):Prop:=∀ s st,CA l s st→CA n.2.2.1 s st
def P5a {a b:Row} (h:leR a b):sle b.2.1 a.2.1=false:=by
 unfold leR at h
 have n1:¬ I6 b a=true:=by rw[h];decide
 rw[Qd]at n1;cases hs:sle b.2.1 a.2.1
 ·rfl
 have:=Ks.1 hs;omega
def P6a {a b:List Row} (ha:Ay a) (hb:Ay b) {s:ByteArray} {st:Stp} (h:CA a s st∨CA b s st):CA (Ky a b) s st:=by
 have hm:=M0 ha hb s;have fin:∀ y:Row,Fs (Ky a b) s=some y→sle y.2.1 st=false→CA (Ky a b) s st:=λ y h1 h2=>⟨y,(Hp h1).1,(Hp h1).2,h2⟩;rcases h with⟨r,h1,rfl,h3⟩|⟨r,h1,rfl,h3⟩
 ·rw[Hq ha h1]at hm
  cases hq:Fs b r.1 with
  |none=>rw[hq]at hm;exact fin r hm h3
  |some z=>rw[hq]at hm;exact fin _ hm (N4 (P5a (Iha.ub r z)) h3)
 ·rw[Hq hb h1]at hm
  cases hq:Fs a r.1 with
  |none=>rw[hq]at hm;exact fin r hm h3
  |some z=>rw[hq]at hm;exact fin _ hm (N4 (P5a (Iha.up (some z) r)) h3)
def NG.rows {n:Nod} (h:NG n):Ay n.2.2.1:=(I5.1 (Bj.1 h.1).2.2.2.1).1
def Bbb {n:Nod} {l:List Row} (hn:NG n) (hl:Ho l=true):(tk n l).2.2.2.2=n.2.2.2∧CV (tk n l).2 n.2.2.1∧((tk n l).1=true→CV (tk n l).2 l):=by
 have hls:=(I5.1 hl).1;unfold tk
 cases decide ((Ky n.2.2.1 l).length > 60) with
 |true=>exact⟨rfl,λ _ _ h=>h,λ c=>by cases c⟩
 |false=>exact⟨rfl,λ s st h=>P6a hn.rows hls (.inl h),λ _ s st h=>P6a hn.rows hls (.inr h)⟩
def GR (ns ms:List Nod):Prop:=∀ m,(ms.getD m A7).2.2.2=(ns.getD m A7).2.2.2∧CV (ms.getD m A7) (ns.getD m A7).2.2.1
def GR.set {ns ms:List Nod} (h:GR ns ms) {i:Nat} {x:Nod} (hi:i<ms.length) (h1:x.2.2.2=(ms.getD i A7).2.2.2) (h2:CV x (ms.getD i A7).2.2.1):GR ns (ms.set i x):=λ m=>by
 by_cases hm:m<ms.length
 ·rw[Bl hm]
  by_cases e:i=m
  ·subst e;rw[if_pos rfl];exact⟨h1.trans (h i).1,λ s st c=>h2 s st ((h i).2 s st c)⟩
  ·rw[if_neg e];exact h m
 ·have e:(ms.set i x).getD m A7=ms.getD m A7:=by
   rw[Vb,Vb,Yu (by rw[Vt];omega),Yu (by omega)]
  rw[e];exact h m
def Ika {w:Wld} {src:Int} {l:List Row} {self:Bool} {rc:List Int} (hl:Ho l=true) (hn:NS w.2.2.1):
  GR w.2.2.1 (I7 w src l self rc).1∧((I7 w src l self rc).2=true→∀ x∈Ar w,(x==src&&!self)=false→CV ((I7 w src l self rc).1.getD x.toNat A7) l):=by
 have hat:=λ x=>Io (w:=w) (x:=x);unfold I7;generalize Ar w=ps at *
 have key:=Hs (st:=gst src l self rc ps) (n:=ps.length) (a:=(w.2.2.1,true)) (λ j (a:List Nod×Bool)=>NS a.1∧a.1.length=w.2.2.1.length∧GR w.2.2.1 a.1∧
  (a.2=true→∀ x∈ps.take j,(x==src&&!self)=false→CV (a.1.getD x.toNat A7) l)) ⟨hn,rfl,λ m=>⟨rfl,λ _ _ h=>h⟩,λ _ x hx=>by rw[Zz]at hx;cases hx⟩ ?_
 ·rw[Yx]at key;exact key.2.2
 ·rintro j ⟨ns,g⟩ hj ⟨a1,a2,a3,a4⟩;dsimp only at a1 a2 a3 a4;have hpx:=hat _ (A3 (d:=0) hj)
  have htk:∀ x,x∈ps.take (j+1)→x∈ps.take j∨x=ps.getD j 0:=λ x hx=>by
   rw[We hj,Vm,Vn]at hx;rw[Vb,Ve hj];exact hx
  unfold gst;generalize ps.getD j 0=p at *
  have hp:p.toNat<ns.length:=by omega
  cases hps:p==src&&!self with
  |true=>
   refine⟨a1,a2,a3,λ hg x hx hs=>?_⟩;rcases htk x hx with h|rfl
   ·exact a4 hg x h hs
   ·rw[hps]at hs;cases hs
  |false=>
   rw[cond_false]
   cases rch rc j != 1 with
   |true=>exact⟨a1,a2,a3,λ c=>by cases c⟩
   |false=>
    obtain⟨t1,t2,t3⟩:=Bbb (l:=l) (a1.get hp) hl;refine⟨a1.set (Aib (a1.get hp) hl),by show (ns.set _ _).length=_;rw[Vt];exact a2,a3.set hp t1 t2,λ hg x hx hs=>?_⟩
    have hg':(tk (ns.getD p.toNat A7) l).1=true∧g=true:=by
     have:(bif (tk (ns.getD p.toNat A7) l).1 then g else false)=true:=hg
     cases h1:(tk (ns.getD p.toNat A7) l).1 with
     |true=>rw[h1]at this;exact⟨rfl,this⟩
     |false=>rw[h1]at this;cases this
    show CV ((ns.set p.toNat (tk (ns.getD p.toNat A7) l).2).getD x.toNat A7) l
    by_cases e:p.toNat=x.toNat
    ·rw[← e,Bl hp,if_pos rfl];exact t3 hg'.1
    ·rcases htk x hx with h|rfl
     ·have:=a4 hg'.2 x h hs;have hxa:=hat x (Zw h);rw[Bl (by omega),if_neg e];exact this
     ·exact absurd rfl e
def RC (ns:List Nod) (s:ByteArray) (st:Stp):Prop:=∃ i,i<ns.length∧(CA (ns.getD i A7).2.2.1 s st∨CA (ns.getD i A7).2.2.2 s st)
def RC.rq {ns ms:List Nod} (h:RQ ns ms) (hl:ms.length=ns.length) {s:ByteArray} {st:Stp} (hr:RC ns s st):RC ms s st:=by
 obtain⟨i,h1,h2⟩:=hr;refine⟨i,by omega,?_⟩;rw[h i];exact h2
def Pn {w:Wld} (h:WO w):0<(Ar w).length:=Uq h.ring h.ids
def Sva {w:Wld} (h:WO w) {i:Nat} (hi:i<w.2.2.1.length) {rc:List Int} {s:ByteArray} {st:Stp} (hr:RC w.2.2.1 s st):RC (M9 w i rc).2.2.2.1 s st:=by
 have hni:=h.ns.get hi;have hro:=(Bj.1 hni.1).2.2.2.1;unfold M9;cases ((w.2.2.1.getD i A7).2.2.1.length:Int)==0
 case true=>exact hr
 obtain⟨g1,g2⟩:=Ika (src:=(i:Int)) (self:=false) (rc:=rc) hro h.ns;obtain⟨_,gl⟩:=Qm (w:=w) (src:=(i:Int)) (self:=false) (rc:=rc) hro h.ns;rw[show I7 w (i:Int) (w.2.2.1.getD i A7).2.2.1 false rc=Ha w i rc from rfl]at g1 g2 gl;obtain⟨m,m1,m2⟩:=hr;have grown:RC (Ha w i rc).1 s st:=⟨m,by omega,m2.elim (λ c => .inl ((g1 m).2 s st c)) (λ c => .inr (by rw[(g1 m).1];exact c))⟩;show RC (bif (Ha w i rc).2&&!(Gp (Ar (wN w (Ha w i rc).1)) (i:Int)) then (Ha w i rc).1.set i (Oy ((Ha w i rc).1.getD i A7)) else (Ha w i rc).1) s st
 cases hc:(Ha w i rc).2&&!(Gp (Ar (wN w (Ha w i rc).1)) (i:Int)) with
 |false=>exact grown
 |true=>
  rw[cond_true];rw[Va,Vz]at hc
  have eL:Ar (wN w (Ha w i rc).1)=Ar w:=by
   have e:=(Aya (w:=w) (src:=(i:Int)) (self:=false) (rc:=rc) hro h.ns).2;unfold Ar;exact Ut e _
  rw[eL]at hc
  by_cases hmi:m=i
  ·subst hmi;rcases m2 with c|c
   ·obtain⟨x,hx⟩:=Cbb (Pn h);have hxa:=Io hx
    have hxi:(x==(m:Int))=false:=by
     cases hq:x==(m:Int) with
     |false=>rfl
     |true=>
      have:=eq_of_beq hq;subst this;rw[H7.2 hx]at hc;cases hc.2
    have cv:=g2 hc.1 x hx (by rw[hxi];rfl)
    have hne:m≠x.toNat:=by
     have:=beq_eq_false_iff_ne.1 hxi;omega
    refine⟨x.toNat,by rw[Vt];omega,.inl ?_⟩;rw[Bl (by omega),if_neg hne];exact cv s st c
   ·refine⟨m,by rw[Vt];omega,.inr ?_⟩;rw[Bl (by omega),if_pos rfl];show CA ((Ha w m rc).1.getD m A7).2.2.2 s st;rw[(g1 m).1];exact c
  ·refine⟨m,by rw[Vt];omega,?_⟩;rw[Bl (by omega),if_neg (λ e=>hmi e.symm)];exact m2.elim (λ c => .inl ((g1 m).2 s st c)) (λ c => .inr (by rw[(g1 m).1];exact c))
def Swa {w:Wld} (h:WO w) {i:Nat} (hi:i<w.2.2.1.length) {rc:List Int} {s:ByteArray} {st:Stp} (hr:RC w.2.2.1 s st):RC (N1 w i rc).2.2.2.1 s st:=by
 have hni:=h.ns.get hi;have hq:=(Bj.1 hni.1).1;unfold N1;cases ((w.2.2.1.getD i A7).2.2.2.length:Int)==0
 case true=>exact hr
 obtain⟨g1,g2⟩:=Ika (src:=(i:Int)) (self:=true) (rc:=rc) (J5 hq) h.ns;obtain⟨_,gl⟩:=Qm (w:=w) (src:=(i:Int)) (self:=true) (rc:=rc) (J5 hq) h.ns;rw[show I7 w (i:Int) ((w.2.2.1.getD i A7).2.2.2.take 1) true rc=Ih w i rc from rfl]at g1 g2 gl;obtain⟨m,m1,m2⟩:=hr;have grown:RC (Ih w i rc).1 s st:=⟨m,by omega,m2.elim (λ c => .inl ((g1 m).2 s st c)) (λ c => .inr (by rw[(g1 m).1];exact c))⟩;show RC (bif (Ih w i rc).2 then (Ih w i rc).1.set i (Sia ((Ih w i rc).1.getD i A7) ((w.2.2.1.getD i A7).2.2.2.drop 1)) else (Ih w i rc).1) s st
 cases hc:(Ih w i rc).2 with
 |false=>exact grown
 |true=>
  rw[cond_true]
  have It:∀ k,k<w.2.2.1.length→CA ((Ih w i rc).1.getD k A7).2.2.1 s st→RC ((Ih w i rc).1.set i (Sia ((Ih w i rc).1.getD i A7) ((w.2.2.1.getD i A7).2.2.2.drop 1))) s st:=λ k hk c=>by
   refine⟨k,by rw[Vt];omega,.inl ?_⟩;rw[Bl (by omega)]
   by_cases e:i=k
   ·subst e;rw[if_pos rfl];exact c
   ·rw[if_neg e];exact c
  rcases m2 with c|c
  ·exact It m m1 ((g1 m).2 s st c)
  ·by_cases hmi:i=m
   ·subst hmi;obtain⟨r,r1,r2,r3⟩:=c;rw[← Wh 1 (w.2.2.1.getD i A7).2.2.2,Vm]at r1;rcases r1 with r1|r1
    ·obtain⟨x,hx⟩:=Cbb (Pn h);have hxa:=Io hx;exact It x.toNat (by omega) (g2 hc x hx (by rw[Yt,Xs]) s st ⟨r,r1,r2,r3⟩)
    ·refine⟨i,by rw[Vt];omega,.inr ?_⟩;rw[Bl (by omega),if_pos rfl];exact⟨r,r1,r2,r3⟩
   ·refine⟨m,by rw[Vt];omega,.inr ?_⟩;rw[Bl (by omega),if_neg hmi,(g1 m).1];exact c

def A4b {n:Nod} {s:ByteArray} {f:Fil} {sure:Bool}:(Ll n s f sure).1.2.2.1=n.2.2.1∧(∀ t st,CA n.2.2.2 t st→CA (Ll n s f sure).1.2.2.2 t st)∧(sure=true→(Ll n s f sure).2=0→CA (Ll n s f sure).1.2.2.2 s f.1):=by
 unfold Ll;cases (n.2.2.2.length:Int)==60
 case true=>exact⟨rfl,λ _ _ h=>h,λ _ h=>by cases h⟩
 refine⟨rfl,λ t st h=>?_,λ hs hc=>?_⟩
 ·show CA (bif (keep n.2.1 s f sure).2==0&&sure then n.2.2.2++[M7 s f] else n.2.2.2) t st
  cases (keep n.2.1 s f sure).2==0&&sure with
  |false=>exact h
  |true=>
   obtain⟨r,h1,h2⟩:=h;exact⟨r,Vm.2 (.inl h1),h2⟩
 ·show CA (bif (keep n.2.1 s f sure).2==0&&sure then n.2.2.2++[M7 s f] else n.2.2.2) s f.1;have hc':(keep n.2.1 s f sure).2=0:=hc;rw[hc',hs];exact⟨M7 s f,Vm.2 (.inr (Vn.2 rfl)),rfl,G5 _⟩
def P7a {n:Nod} (hn:NG n) {s:ByteArray} {f:Fil} {sure:Bool} (hs:B0 s=true) (hf:D8 f=true) (hl:∀ o,old n.2.1 s=some o→sle o.1 f.1=true):(Ll n s f sure).2≠1:=by
 unfold Ll;cases (n.2.2.2.length:Int)==60
 case true=>exact λ h=>by cases h
 show (keep n.2.1 s f sure).2≠1;rw[M5 hn.g.1 hs hf];rcases M6 (f:=f) (sure:=sure) hn.g hs with k|⟨o,h1,h2,_⟩|⟨_,_,h3,_⟩
 ·rw[k];exact λ h=>by cases h
 ·rw[hl o h1]at h2;cases h2
 ·rw[h3];exact λ h=>by cases h
def A5b {w:Wld} {s:ByteArray} {f:Fil} {rc:List Int} (hn:NS w.2.2.1) (hcs:(contacts w s).Nodup) (hs:B0 s=true) (hf:D8 f=true)
  (hl:∀ m,m<w.2.2.1.length→∀ o,old (w.2.2.1.getD m A7).2.1 s=some o→sle o.1 f.1=true):
  (wrN w s f rc).1.length=w.2.2.1.length∧(∀ t st,RC w.2.2.1 t st→RC (wrN w s f rc).1 t st)∧((wrN w s f rc).2.2≥1→RC (wrN w s f rc).1 s f.1):=by
 have hat:=λ x=>J4 (w:=w) (s:=s) (x:=x);unfold wrN;generalize contacts w s=cs at *
 have key:=Hs (st:=wst w.2.1.1 rc s f cs) (n:=cs.length) (a:=(w.2.2.1,0,0)) (λ j (a:List Nod×Int×Int)=>NS a.1∧a.1.length=w.2.2.1.length∧(∀ i,j≤i→i<cs.length→a.1.getD (cs.getD i 0).toNat A7=w.2.2.1.getD (cs.getD i 0).toNat A7)∧
  (∀ t st,RC w.2.2.1 t st→RC a.1 t st)∧(a.2.2≥1→RC a.1 s f.1)) ⟨hn,rfl,λ _ _ _=>rfl,λ _ _ h=>h,λ h=>absurd h (show ¬ (0:Int)≥1 by omega)⟩ ?_
 ·exact⟨key.2.1,key.2.2.2.1,key.2.2.2.2⟩
 ·rintro j ⟨ns,q,g⟩ hj ⟨a1,a2,a3,a4,a5⟩;dsimp only at a1 a2 a3 a4 a5;have hpx:=hat _ (A3 (d:=0) hj);have a3':∀ i,j+1≤i→i<cs.length→ns.getD (cs.getD i 0).toNat A7=w.2.2.1.getD (cs.getD i 0).toNat A7:=λ i h1 h2=>a3 i (by omega) h2;unfold wst;cases decide (q<w.2.1.1)
  case false=>exact⟨a1,a2,a3',a4,a5⟩
  cases rch rc j==0
  case true=>exact⟨a1,a2,a3',a4,a5⟩
  rw[cond_true,cond_false]
  have hne:∀ i,j+1≤i→i<cs.length→(cs.getD j 0).toNat≠(cs.getD i 0).toNat:=λ i h1 h2 e=>by
   have hx:=hat _ (A3 (d:=0) h2)
   have e':cs.getD j 0=cs.getD i 0:=by omega
   rw[Vb,Vb,Ve hj,Ve h2]at e';exact(Yn.1 hcs j i hj h2 (by omega)) e'
  have hold:=a3 j (Vw _) hj
  have hp0:(cs.getD j 0).toNat<ns.length:=by omega
  generalize (cs.getD j 0).toNat=p at *;have hp:p<ns.length:=hp0
  have hlp:∀ o,old (ns.getD p A7).2.1 s=some o→sle o.1 f.1=true:=by rw[hold];exact hl p (by omega)
  have hg:=a1.get hp;obtain⟨q1,q2,q3⟩:=A4b (n:=ns.getD p A7) (s:=s) (f:=f) (sure:=rch rc j != 3);have q4:=P7a (n:=ns.getD p A7) hg (sure:=rch rc j != 3) hs hf hlp
  have gr:∀ t st,RC ns t st→RC (ns.set p (Ll (ns.getD p A7) s f (rch rc j != 3)).1) t st:=λ t st ⟨m,m1,m2⟩=>by
   refine⟨m,by rw[Vt];exact m1,?_⟩;rw[Bl m1]
   by_cases e:p=m
   ·subst e;rw[if_pos rfl,q1];exact m2.imp id (q2 t st)
   ·rw[if_neg e];exact m2
  refine⟨a1.set (Hna (sure:=rch rc j != 3) hg hs hf),by show (ns.set _ _).length=_;rw[Vt];exact a2,λ i h1 h2=>?_,λ t st h=>gr t st (a4 t st h),λ hge=>?_⟩
  ·show (ns.set p _).getD _ A7=_;have hx:=hat _ (A3 (d:=0) h2);rw[Bl (by omega),if_neg (hne i h1 h2)];exact a3' i h1 h2
  ·show RC (ns.set p (Ll (ns.getD p A7) s f (rch rc j != 3)).1) s f.1
   cases hr:rch rc j==1&&((Ll (ns.getD p A7) s f (rch rc j != 3)).2==0||(Ll (ns.getD p A7) s f (rch rc j != 3)).2==1) with
   |true=>
    rw[Va,Zt,beq_iff_eq,beq_iff_eq,beq_iff_eq]at hr
    have e:(rch rc j != 3)=true:=by rw[hr.1];rfl
    refine⟨p,by rw[Vt];exact hp,.inr ?_⟩;rw[Bl hp,if_pos rfl];exact q3 e (hr.2.resolve_right q4)
   |false=>
    have:(bif rch rc j==1&&((Ll (ns.getD p A7) s f (rch rc j != 3)).2==0||(Ll (ns.getD p A7) s f (rch rc j != 3)).2==1) then g+1 else g)≥1:=hge;rw[hr]at this;exact gr s f.1 (a5 this)
def LR (w:Wld):Prop:=∀ x∈w.2.2.2.2.1,x.2.2=true→RC w.2.2.1 x.1 x.2.1.1
def LR.mono {w v:Wld} (h:LR w) (e:v.2.2.2.2.1=w.2.2.2.2.1) (hr:∀ s st,RC w.2.2.1 s st→RC v.2.2.1 s st):LR v:=λ x hx ha=>hr _ _ (h x (by rw[← e];exact hx) ha)
def Sxa {w:Wld} (h:WI w) (hl:LR w) {s:ByteArray} {f:Fil} {rc:List Int} (hs:B0 s=true) (hf:D8 f=true) (hc:sle w.2.2.2.1 f.1=true):LR (Nx (w.1,w.2.1,w.2.2.1,f.1,w.2.2.2.2) s f rc).2:=by
 obtain⟨_,g1,g2⟩:=A5b (w:=(w.1,w.2.1,w.2.2.1,f.1,w.2.2.2.2)) (rc:=rc) (s:=s) (f:=f) h.ns (h.wo.contacts_nodup s) hs hf (λ m hm o ho=>by
  obtain⟨x,hx,_,e⟩:=ED.now h.wok ((h.nodes _ (A3 (d:=A7) hm)).2.1 s) ho;have:=h.wge x hx;rw[e]at this
  cases hq:sle o.1 f.1 with
  |true=>rfl
  |false=>
   have:=N4 this hq;rw[this]at hc
   cases hc)
 unfold Nx;generalize wrN (w.1,w.2.1,w.2.2.1,f.1,w.2.2.2.2) s f rc=a at *;intro x hx ha;rcases Vm.1 hx with hx|hx
 ·exact g1 _ _ (hl x hx ha)
 ·rw[Vn.1 hx]at ha ⊢;have hk:a.2.2≥quo w.2.1.1:=of_decide_eq_true ha
  have hq:quo w.2.1.1≥1:=by
   have:=(Cb.1 h.ring).2.1;unfold quo;omega
  exact g2 (by omega)
def A6b {w:Wld} (h:WI w) (hr:LR w) {s:ByteArray} {f:Fil} {t:Int} {rc:List Int} (hd:f.2.1=true→f.2.2=[]):LR (ask w s f t rc).2:=by
 unfold ask;cases hs:B0 s
 ·exact hr
 rw[Yt,cond_false]
 by_cases hl:(f.2.2.length:Int) > 200
 ·rw[decide_eq_true hl];exact hr
 ·rw[decide_eq_false hl,cond_false];cases inR t 0 1000000000
  ·exact hr
  rw[Yt,cond_false];cases hw:(w.2.2.2.2.1.length:Int)==200
  case true=>exact hr
  rw[cond_false];obtain⟨n1,n2⟩:=T0 h.clk t 0;cases he:(Ig w.2.2.2.1 t 0).1==w.2.2.2.1.1&&((Ig w.2.2.2.1 t 0).2.1==w.2.2.2.1.2.1&&(Ig w.2.2.2.1 t 0).2.2==w.2.2.2.1.2.2)
  case true=>exact hr
  rw[cond_false]
  have hlt:sle w.2.2.2.1 (Ig w.2.2.2.1 t 0)=true:=by
   rcases n2 with n2|n2
   ·rw[n2,beq_self_eq_true,beq_self_eq_true,beq_self_eq_true]at he;cases he
   ·exact n2
  exact Sxa h hr (f:=(Ig w.2.2.2.1 t 0,f.2)) hs (Gr.2 ⟨n1,by show f.2.2.length≤200;omega,hd⟩) hlt
def RG (w v:Wld):Prop:=∀ s st,RC w.2.2.1 s st→RC v.2.2.1 s st
def Xr {w:Wld} (h:WI w) {i:Nat} (hi:i<w.2.2.1.length):∀ n,SW w (I1 w i n)∧RG w (I1 w i n)
 |0=>⟨SW.refl h,λ _ _ h=>h⟩
 |n+1=>by
  obtain⟨h1,h2⟩:=Xr h hi n;have hv:=h1.wi h;have hl:=h1.len;show SW w (N1 (I1 w i n) i D0).2∧RG w (N1 (I1 w i n) i D0).2;generalize I1 w i n=v at *;exact⟨h1.trans (Oya hv (by omega)),λ s st hc=>Swa hv.wo (by omega) (h2 s st hc)⟩
def A7b {w:Wld} (h:WI w) {i:Nat} (hi:i<w.2.2.1.length):SW w (qtN w i)∧RG w (qtN w i):=by
 have s1:=Ura h hi;have g1:RG w (qtP w i):=λ s st hc=>hc.rq (Usa w i) s1.len;have w1:=s1.wi h;have l1:=s1.len;unfold qtN qtT;generalize qtP w i=u at *;obtain⟨s2,g2⟩:=Xr w1 (i:=i) (by omega) (u.2.2.1.getD i A7).2.2.2.length;generalize I1 u i (u.2.2.1.getD i A7).2.2.2.length=v at *;have w2:=s2.wi w1;have l2:=s2.len;exact⟨(s1.trans s2).trans (Oza w2 (by omega)),λ s st hc=>Sva w2.wo (by omega) (g2 s st (g1 s st hc))⟩
def Uva {w:Wld} (h:WI w):∀ k,k≤w.2.2.1.length→SW w (run qtN k w)∧RG w (run qtN k w)
 |0,_=>⟨SW.refl h,λ _ _ h=>h⟩
 |k+1,hk=>by
  obtain⟨h1,h2⟩:=Uva h k (by omega);rw[J1];have hl:=h1.len;have hv:=h1.wi h;generalize run qtN k w=v at *;obtain⟨h3,h4⟩:=A7b hv (i:=k) (by omega);exact⟨h1.trans h3,λ s st hc=>h4 s st (h2 s st hc)⟩
def Sya {w:Wld} (h:WI w) (hr:LR w):LR (Jk w):=by
 obtain⟨h1,h2⟩:=Uva h _ (Vw _);exact hr.mono h1.ws h2

def P8a {w:Wld} (h:WI w) {s t:ByteArray} {f g:Fil} (hf:IsW w.2.2.2.2.1 s f) (hg:IsW w.2.2.2.2.1 t g) (e:f.1=g.1):f=g:=by
 obtain⟨x,hx,_,rfl⟩:=hf;obtain⟨y,hy,_,rfl⟩:=hg;obtain⟨i,hi,rfl⟩:=Yh.1 hx;obtain⟨j,hj,rfl⟩:=Yh.1 hy;have ha:=Yn.1 h.asc;rcases Nat.lt_trichotomy i j with c|c|c
 ·have:=ha i j hi hj c;rw[e,G5]at this;cases this
 ·subst c;rfl
 ·have:=ha j i hj hi c;rw[e,G5]at this;cases this
def Uwa {a b:Stp} (h1:sle a b=false) (h2:sle b a=false):a=b:=by
 have n1:¬ sle a b=true:=by rw[h1];decide
 have n2:¬ sle b a=true:=by rw[h2];decide
 rw[Ks]at n1 n2;obtain⟨a1,a2,a3⟩:=a;obtain⟨b1,b2,b3⟩:=b;dsimp only at n1 n2
 obtain rfl:a1=b1:=by omega
 obtain rfl:a2=b2:=by omega
 obtain rfl:a3=b3:=by omega
 rfl
def P9a {s:ByteArray} {f:Fil}:∀ (ns:List Nod) (a:Bool×Fil),(∀ n∈ns,((lkD n.2.1 s).2==0)=true→(lkD n.2.1 s).1=f)→(a.1=true→a.2=f)→(ns.foldl (X6a s) a).1=true→(ns.foldl (X6a s) a).2=f
 |[],a,_,h,h1=>h h1
 |n::ns,a,hn,h,h1=>by
  rw[Ys]at h1 ⊢;refine P9a ns _ (λ m hm=>hn m (Vd _ hm)) ?_ h1;have k:=hn n Wl;unfold X6a
  cases hc:(lkD n.2.1 s).2==0 with
  |false=>exact h
  |true=>
   rw[cond_true]
   cases !a.1||sle a.2.1 (lkD n.2.1 s).1.1 with
   |true=>exact λ _=>k hc
   |false=>exact h
def A8b {d:Dsk} {s:ByteArray}:((lkD d s).2==0)=(old d s).isSome:=by
 have:=Ifa (d:=d) (s:=s);unfold bne at this
 cases h:(lkD d s).2==0<;>cases h2:old d s<;>simp[h,h2]at this ⊢
section
variable {nm:List ByteArray} {w:Wld}
def RI.names (h:RI nm w.2.2.1.length w) {j:Nat} (hj:j<w.2.2.1.length) {s:ByteArray} (hs:(oN w.2.2.1 j s).isSome=true):lvN w s=true:=by
 obtain⟨f,hf⟩:=Zk.1 hs
 have hP:inP w s j=true:=by
  cases hp:inP w s j with
  |true=>rfl
  |false=>
   have e:oN w.2.2.1 j s=none:=h.fo s j hj hp;rw[e]at hf;cases hf
 have isw:∀ m,m<w.2.2.1.length→∀ g,oN w.2.2.1 m s=some g→IsW w.2.2.2.2.1 s g:=λ m hm g hg=>ED.now h.wi.wok ((h.wi.nodes _ (A3 (d:=A7) hm)).2.1 s) hg
 have all:∀ m,m<w.2.2.1.length→oN w.2.2.1 m s=bif inP w s m then some f else none:=λ m hm=>by
  cases hp:inP w s m with
  |false=>exact h.fo s m hm hp
  |true=>
   obtain⟨y,h1,h2⟩:=h.fi s j hj hP f hf m hm hp;obtain⟨z,h3,h4⟩:=h.fi s m hm hp y h1 j hj hP;have h3':oN w.2.2.1 j s=some z:=h3;rw[hf]at h3';obtain rfl:=D4b h3';have h1':oN w.2.2.1 m s=some y:=h1;rw[h1',P8a h.wi (isw j hj f hf) (isw m hm y h1') (Uwa h4 h2)];rfl
 unfold lvN
 have hlk:∀ m,m<w.2.2.1.length→((lkD (w.2.2.1.getD m A7).2.1 s).2==0)=inP w s m∧(inP w s m=true→(lkD (w.2.2.1.getD m A7).2.1 s).1=f):=λ m hm=>by
  have a:=all m hm;unfold oN at a;refine⟨?_,λ hp=>?_⟩
  ·rw[A8b,a]
   cases inP w s m<;>rfl
  ·rw[hp]at a;rw[Fta a]
 have hl:(lat w.2.2.1 s).2=f:=by
  unfold lat;refine P9a _ _ (λ n hn hc=>?_) (λ c=>by cases c) (Iba _ _ (.inr ⟨_,A3 (d:=A7) hj,by rw[(hlk j hj).1];exact hP⟩));obtain⟨m,hm,rfl⟩:=Yh.1 hn
  have e:w.2.2.1[m]=w.2.2.1.getD m A7:=by rw[Vb,Ve hm];rfl
  rw[e]at hc ⊢;rw[(hlk m hm).1]at hc;exact(hlk m hm).2 hc
 rw[hl,Dba _ A7,Yd];intro m hm;have hm':=Zp.1 hm;obtain⟨k1,k2⟩:=hlk m hm';have hb:=((isw j hj f hf).good h.wi.wok).2.2;unfold lvE;rw[← Ica hm',k1,show Gp (whr w.2.2.1 (N8 w.2.1 s)) (m:Int)=inP w s m from rfl]
 cases hp:inP w s m with
 |false=>rfl
 |true=>
  rw[k2 hp,(Oaa hb hb).2 rfl];rfl
def RI.rows (h:RI nm w.2.2.1.length w) {j:Nat} (hj:j<w.2.2.1.length):Bjb w j=true:=by
 unfold Bjb Una;rw[h.qe j hj]
 have refl:∀ l:List Row,Oma l l=true:=λ l=>by
  unfold Oma;rw[beq_self_eq_true,Wg,Yd];intro i _;unfold Bib;rw[Ss,C6.2 rfl,beq_self_eq_true,beq_self_eq_true,beq_self_eq_true,beq_self_eq_true,beq_self_eq_true];rfl
 show (true&&_)=true;rw[Wg];have hp:Gp (Ar w) (j:Int)=inP w Ki j:=rfl
 cases hL:inP w Ki j with
 |false=>
  rw[hp,hL,cond_false,Ona]
  have e:(w.2.2.1.getD j A7).2.2.1=[]:=by
   cases hr:(w.2.2.1.getD j A7).2.2.1 with
   |nil=>rfl
   |cons r l=>
    have h1:rN w.2.2.1 j r.1=none:=h.ro r.1 j hj hL;have h2:=Hq (h.wi.give j hj) (r:=r) (by rw[hr];exact Wl);unfold rN at h1;rw[h1]at h2;cases h2
  rw[e];rfl
 |true=>
  rw[hp,hL,cond_true];obtain⟨l0,l1,l2⟩:=Ooa (hp.trans hL);obtain⟨p,ep⟩:∃ p:Nat,(Ar w).getD 0 0=(p:Int):=⟨((Ar w).getD 0 0).toNat,by omega⟩
  have hpP:inP w Ki p=true:=by
   show Gp (Ar w) (p:Int)=true;rw[← ep];exact H7.2 (A3 l0)
  rw[ep,Vj]
  have hpn:p<w.2.2.1.length:=by omega
  have e:(w.2.2.1.getD j A7).2.2.1=(w.2.2.1.getD p A7).2.2.1:=by
   refine Qe (h.wi.give j hj) (h.wi.give p hpn) λ t=>?_
   have one:∀ a b,a<w.2.2.1.length→b<w.2.2.1.length→inP w Ki a=true→inP w Ki b=true→∀ x,rN w.2.2.1 a t=some x→rN w.2.2.1 b t=some x:=λ a b ha hb pa pb x hx=>by
    obtain⟨y,h1,h2⟩:=h.ri t a ha pa x hx b hb pb;obtain⟨z,h3,h4⟩:=h.ri t b hb pb y h1 a ha pa;have h3':rN w.2.2.1 a t=some z:=h3;rw[hx]at h3';obtain rfl:=D4b h3';have h1':rN w.2.2.1 b t=some y:=h1;rw[h1',N8a ((X9 _ hx).trans (X9 _ h1').symm) h4 h2]
   show rN w.2.2.1 j t=rN w.2.2.1 p t
   cases h1:rN w.2.2.1 j t with
   |some x=>exact(one j p hj hpn hL hpP x h1).symm
   |none=>
    cases h2:rN w.2.2.1 p t with
    |none=>rfl
    |some x=>rw[one p j hpn hj hpP hL x h2]at h1;cases h1
  rw[e];exact refl _
end

def RI.hasRow {nm:List ByteArray} {w:Wld} (h:RI nm w.2.2.1.length w) (hr:LR w) {x:Wri} (hx:x∈w.2.2.2.2.1) (ha:x.2.2=true) {p:Nat} (hp:p<w.2.2.1.length) (hL:inP w Ki p=true):CA (w.2.2.1.getD p A7).2.2.1 x.1 x.2.1.1:=by
 obtain⟨i,hi,hc⟩:=hr x hx ha;rw[h.qe i hi]at hc;rcases hc with⟨r,h1,h2,h3⟩|⟨r,h1,_⟩
 ·have hl:rN w.2.2.1 i x.1=some r:=by rw[← h2];exact Hq (h.wi.give i hi) h1
  have hPi:inP w Ki i=true:=by
   cases hq:inP w Ki i with
   |true=>rfl
   |false=>
    have e:rN w.2.2.1 i x.1=none:=h.ro x.1 i hi hq;rw[e]at hl;cases hl
  obtain⟨y,h4,h5⟩:=h.ri x.1 i hi hPi r hl p hp hL;have h4':Fs (w.2.2.1.getD p A7).2.2.1 x.1=some y:=h4;exact⟨y,(Hp h4').1,(Hp h4').2,N4 (P5a h5) h3⟩
 ·cases h1

section
open Go
end

def Paa {b:List Int} {f:Fil} (h:K6 b=some f):D8 f=true∧Aq f.2.2:=⟨(Aga h).1,(Aga h).2.1⟩

def Pba {a:List Row} (h:Ay a):Ky a a=a:=Qe (J3 h) h λ s=>by
 rw[M0 h h]
 cases Fs a s with
 |none=>rfl
 |some b=>show some (mx b b)=some b;unfold mx;cases I6 b b<;>rfl

def Dpa {l:List Dev} {parts reps:Int} {m:Nat} (hm:m<(Us l parts reps).2.2.1.length):((Us l parts reps).2.2.1.getD m A7).2=(([],[]),[],[]):=by
 obtain⟨d,_,e⟩:=Yw.1 (show (Us l parts reps).2.2.1.getD m A7∈l.map Ur from A3 hm);rw[← e];rfl
def Pra (ns:List Nod) (s:ByteArray) (T:Stp):Prop:=(∀ m,m<ns.length→∀ o,oN ns m s=some o→sle T o.1=false)∧∃ m,m<ns.length∧∃ o,oN ns m s=some o∧o.1=T
def Sza {d:Dsk} {s:ByteArray} {f:Fil} (hd:DG d) (g1:B0 s=true) (g2:D8 f=true) (g3:Aq f.2.2):
  (∀ t,t≠s→old (keep d s f true).1 t=old d t)∧(old (keep d s f true).1 s=old d s∨(old (keep d s f true).1 s=some f∧∀ o,old d s=some o→sle o.1 f.1=true))∧
  ((keep d s f true).2=0∨(keep d s f true).2=1→∃ o,old (keep d s f true).1 s=some o∧sle o.1 f.1=false):=by
 rw[M5 hd.1 g1 g2];rcases M6 (f:=f) (sure:=true) hd g1 with k|⟨o,h1,h2,h3,_,h5⟩|⟨h1,_,h3,_,h5⟩
 ·rw[k]
  exact⟨λ _ _=>rfl,.inl rfl,λ h=>by rcases h with h|h<;>cases h⟩
 ·rcases h5 with⟨c,_⟩|⟨_,e⟩
  ·cases c
  ·rw[e];exact⟨λ _ _=>rfl,.inl rfl,λ _=>⟨o,h1,h2⟩⟩
 ·rcases h5 with⟨c,_⟩|⟨_,e⟩
  ·cases c
  ·have ho:∀ t,old (It d s f true).1 t=if s=t then some f else old d t:=λ t=>by
    rw[e];show (gt (wr d.1 s (H0 f)) t).bind K6=_;rw[Aia (Hy hd.1)]
    by_cases hst:s=t
    ·rw[if_pos hst,if_pos hst,Vu,My g2 g3]
    ·rw[if_neg hst,if_neg hst];rfl
   exact⟨λ t ht=>by rw[ho t,if_neg (λ e=>ht e.symm)],.inr ⟨by rw[ho s,if_pos rfl],h1⟩,λ _=>⟨f,by rw[ho s,if_pos rfl],G5 _⟩⟩
def Pra.set {ns:List Nod} {s:ByteArray} {T:Stp} (h:Pra ns s T) {p:Nat} (hp:p<ns.length) {x:Nod} (hx:old x.2.1 s=oN ns p s∨∃ f,old x.2.1 s=some f∧sle T f.1=false∧∀ o,oN ns p s=some o→sle o.1 f.1=true):Pra (ns.set p x) s T:=by
 have e:∀ m,m<ns.length→oN (ns.set p x) m s=if p=m then old x.2.1 s else oN ns m s:=λ m hm=>by
  unfold oN;rw[Bl hm]
  by_cases h:p=m
  ·rw[if_pos h,if_pos h]
  ·rw[if_neg h,if_neg h]
 obtain⟨h1,m,hm,o,h2,h3⟩:=h;refine⟨λ m hm o ho=>?_,m,by rw[Vt];exact hm,?_⟩
 ·rw[Vt]at hm;rw[e m hm]at ho
  by_cases hpm:p=m
  ·rw[if_pos hpm]at ho;rcases hx with hx|⟨f,hx,hf,_⟩
   ·rw[hx]at ho;exact h1 p hp o ho
   ·rw[hx]at ho;cases ho;exact hf
  ·rw[if_neg hpm]at ho;exact h1 m hm o ho
 ·rw[e m hm]
  by_cases hpm:p=m
  ·subst hpm;rw[if_pos rfl];rcases hx with hx|⟨f,hx,hf,hl⟩
   ·rw[hx];exact⟨o,h2,h3⟩
   ·have:=hl o h2;rw[h3,hf]at this;cases this
  ·rw[if_neg hpm];exact⟨o,h2,h3⟩

end Go.Proofs.YtcpligincipmhaaGreat.Vf
