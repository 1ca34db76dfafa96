import Derived.Test.YtmhhjceoinoekaaGreatMap
import Derived.Test.YtmhhjceoinoekaaGreatMak
set_option linter.all false
namespace Go.Proofs.YtmhhjceoinoekaaGreat.Vf
open Go
open List (length getD)
open Int (toNat)
open Go.IntKind (wrap)
open BitVec (ofInt)

def NO (ns ms:List Nod):Prop:=NS ms∧ms.map (·.1)=ns.map (·.1)
def NO.len {ns ms:List Nod} (h:NO ns ms):ms.length=ns.length:=by
 have:=congrArg length h.2
 rwa [Wf,Wf]at this
def NO.set {ns ms:List Nod} (h:NO ns ms) {i:Nat} {n:Nod} (hi:i<ms.length) (hn:NG n) (e:n.1=(ms.getD i Bb).1):NO ns (ms.set i n):=⟨h.1.set hn,(Lza hi e).trans h.2⟩
def D8b (n:Nod) (s:ByteArray) (f:Fil) (sure:Bool):(Tz n s f sure).1.1=n.1:=by
 unfold Tz
 cases (n.2.2.2.length:Int)==60 with
 |true=>rfl
 |false=>rfl
def Gob (n:Nod) (l:List Row):(tk n l).2.1=n.1:=by
 unfold tk
 cases decide ((X8 n.2.2.1 l).length > 60)<;>rfl
def D9b (n:Nod) (s:ByteArray) (b:Int):(Cza n s b).1.1=n.1:=by
 unfold Cza
 cases Na n&&((lkD n.2.1 s).2==0&&(Cya n.2.1 s b).2)<;>rfl
def Axb {w:Wld} {s:ByteArray} {f:Fil} {rc:List Int} (hn:NS w.2.2.1) (hs:B2 s=true) (hf:F8 f=true):NO w.2.2.1 (wrN w s f rc).1:=by
 unfold wrN
 refine Np (λ _ (a:List Nod×Int×Int)=>NO w.2.2.1 a.1) ⟨hn,rfl⟩ (λ j a hj h=>?_)
 have hc:=Rp (A3 (d:=0) hj)
 have hl:=h.len
 unfold wst
 cases decide (a.2.1<w.2.1.1)
 ·exact h
 rw[cond_true]
 cases rch rc j==0 with
 |true=>exact h
 |false=>exact h.set (by omega) (Uca (h.1.get (by omega)) hs hf) (D8b _ _ _ _)
def Fnb {w:Wld} {i:Nat} {s:ByteArray} {rc:List Int} (hn:NS w.2.2.1):NO w.2.2.1 (puN w i s rc).1:=by
 unfold puN
 refine Np (λ _ (a:List Nod×Bool×Bool)=>NO w.2.2.1 a.1) ⟨hn,rfl⟩ (λ j a hj h=>?_)
 have hc:=Tn (A3 (d:=0) hj)
 have hl:=h.len
 unfold pst
 cases (Ph w s).getD j 0==(i:Int)
 case true=>exact h
 rw[cond_false]
 cases rch rc j != 1 with
 |true=>exact h
 |false=>exact h.set (by omega) (Lya (h.1.get (by omega))) rfl
def Ona {w:Wld} {i:Nat} {s:ByteArray} {rc:List Int} (hn:NS w.2.2.1) (hi:i<w.2.2.1.length):∃ ns,(Cna w i s rc).2=wN w ns∧NO w.2.2.1 ns:=by
 unfold Cna
 cases hl:(lkD (w.2.2.1.getD i Bb).2.1 s).2 != 0
 case true=>exact⟨w.2.2.1,rfl,hn,rfl⟩
 have h:=Fnb (i:=i) (s:=s) (rc:=rc) hn
 have hlen:=h.len
 have hs:B2 s=true:=by
  rw[bne,Wo,beq_iff_eq]at hl
  obtain⟨b,hb,_⟩:=Qw.1 (show lkD (w.2.2.1.getD i Bb).2.1 s=((lkD (w.2.2.1.getD i Bb).2.1 s).1,0) from by rw[← hl])
  exact Q1a (hn.get hi).g.1 (by rw[hb];rfl)
 refine⟨_,rfl,?_⟩
 cases (puN w i s rc).2.2&&!(puN w i s rc).2.1 with
 |false=>exact h
 |true=>exact h.set (by omega) (Aqb (h.1.get (by omega)) hs) rfl
def Ooa {w:Wld} {src:Int} {l:List Row} {self:Bool} {rc:List Int} (hl:M8 l=true) (hn:NS w.2.2.1):NO w.2.2.1 (Nc w src l self rc).1:=by
 unfold Nc
 refine Np (λ _ (a:List Nod×Bool)=>NO w.2.2.1 a.1) ⟨hn,rfl⟩ (λ j a hj h=>?_)
 have hc:=Pl (A3 (d:=0) hj)
 have hlen:=h.len
 unfold gst
 cases (Im w).getD j 0==src&&!self
 case true=>exact h
 rw[cond_false]
 cases rch rc j != 1 with
 |true=>exact h
 |false=>exact h.set (by omega) (Gjb (h.1.get (by omega)) hl) (Gob _ _)
def Opa {w:Wld} {i:Nat} {rc:List Int} (hn:NS w.2.2.1) (hi:i<w.2.2.1.length):∃ ns,(Coa w i rc).2=wN w ns∧NO w.2.2.1 ns:=by
 have h:=Ooa (w:=w) (src:=(i:Int)) (self:=false) (rc:=rc) (Dv.1 (hn.get hi).1).2.2.2.1 hn
 have hlen:=h.len
 unfold Coa
 cases ((w.2.2.1.getD i Bb).2.2.1.length:Int)==0
 case true=>exact⟨w.2.2.1,rfl,hn,rfl⟩
 refine⟨_,rfl,?_⟩
 show NO w.2.2.1 (bif (Ry w i rc).2&&_ then (Ry w i rc).1.set i (Vfa ((Ry w i rc).1.getD i Bb)) else (Ry w i rc).1)
 unfold Ry
 cases (Nc w (i:Int) (w.2.2.1.getD i Bb).2.2.1 false rc).2&&_ with
 |false=>exact h
 |true=>exact h.set (by omega) (Ola (h.1.get (by omega))) rfl
def Oqa {w:Wld} {i:Nat} {rc:List Int} (hn:NS w.2.2.1) (hi:i<w.2.2.1.length):∃ ns,(Cpa w i rc).2=wN w ns∧NO w.2.2.1 ns:=by
 have hq:=Dv.1 (hn.get hi).1
 have h:=Ooa (w:=w) (src:=(i:Int)) (self:=true) (rc:=rc) (Rr hq.1) hn
 have hlen:=h.len
 unfold Cpa
 cases ((w.2.2.1.getD i Bb).2.2.2.length:Int)==0
 case true=>exact⟨w.2.2.1,rfl,hn,rfl⟩
 refine⟨_,rfl,?_⟩
 show NO w.2.2.1 (bif (T0 w i rc).2 then (T0 w i rc).1.set i (Gkb ((T0 w i rc).1.getD i Bb) ((w.2.2.1.getD i Bb).2.2.2.drop 1)) else (T0 w i rc).1)
 unfold T0
 cases (Nc w (i:Int) ((w.2.2.1.getD i Bb).2.2.2.take 1) true rc).2 with
 |false=>exact h
 |true=>exact h.set (by omega) (Asb (h.1.get (by omega)) (λ r hr=>hq.1 r (Zm hr)) (by rw[We];omega)) rfl
structure WO (w:Wld):Prop where
 ring:Il w.2.1 w.1=true
 ids:w.2.2.1.map (·.1)=w.1.map (·.1)
 ns:NS w.2.2.1
 clk:Ga w.2.2.2.1=true
 wlen:w.2.2.2.2.1.length≤200
 wok:Gia w.2.2.2.2.1
 wge:∀ x∈w.2.2.2.2.1,sle w.2.2.2.1 x.2.1.1=false
 sps:TS w.2.2.2.2.2
 spn:∀ s∈w.2.2.2.2.2,B2 s=true
def WI.wo {w:Wld} (h:WI w):WO w:=⟨h.ring,h.ids,h.ns,h.clk,h.wlen,h.wok,h.wge,h.sps,λ s hs=>by
 obtain⟨x,hx,e⟩:=h.spw s hs
 rw[← e]
 exact(h.wok x hx).1⟩
namespace WO
variable {w:Wld}
def nlen (h:WO w):w.2.2.1.length=w.1.length:=by
 have:=congrArg length h.ids
 rwa [Wf,Wf]at this
def dlen (h:WO w):1≤w.1.length∧w.1.length≤12:=(Cu.1 (B1.1 h.ring).1).2.2
def other (h:WO w) {ns:List Nod} (hn:NO w.2.2.1 ns):WO (wN w ns):=⟨h.ring,hn.2.trans h.ids,hn.1,h.clk,h.wlen,h.wok,h.wge,h.sps,h.spn⟩
def other' (h:WO w) {r:Bool×Wld} (hr:∃ ns,r.2=wN w ns∧NO w.2.2.1 ns):WO r.2:=by
 obtain⟨ns,e,hn⟩:=hr
 rw[e]
 exact h.other hn
def write (h:WO w) {s:ByteArray} {f:Fil} {rc:List Int} (hs:B2 s=true) (hf:F8 f=true) (hb:Ao f.2.2) (hc:sle w.2.2.2.1 f.1=true) (hl:w.2.2.2.2.1.length<200):WO (X4 (w.1,w.2.1,w.2.2.1,f.1,w.2.2.2.2) s f rc).2:=by
 have g:=Axb (w:=(w.1,w.2.1,w.2.2.1,f.1,w.2.2.2.2)) (rc:=rc) h.ns hs hf
 unfold X4
 generalize wrN (w.1,w.2.1,w.2.2.1,f.1,w.2.2.2.2) s f rc=a at *
 exact {
  ring:=h.ring
  ids:=g.2.trans h.ids
  ns:=g.1
  clk:=(K6.1 hf).1
  wlen:=by show (w.2.2.2.2.1++[_]).length≤200;rw[Ve];simp only[Vd,Vj];omega
  wok:=λ x hx=>by
   rcases Vq.1 hx with hx|hx
   ·exact h.wok x hx
   ·rw[Vu.1 hx];exact⟨hs,hf,hb⟩
  wge:=λ x hx=>by
   rcases Vq.1 hx with hx|hx
   ·exact Efa (X5 hc) (h.wge x hx)
   ·rw[Vu.1 hx];exact N1 _
  sps:=h.sps
  spn:=h.spn }
def ask (h:WO w) {s:ByteArray} {f:Fil} {t:Int} {rc:List Int} (hb:Ao f.2.2) (hd:f.2.1=true→f.2.2=[]):WO (ask w s f t rc).2:=by
 unfold Vf.ask
 cases hs:B2 s
 ·exact h
 rw[Za,cond_false]
 by_cases hl:(f.2.2.length:Int) > 200
 ·rw[decide_eq_true hl];exact h
 ·rw[decide_eq_false hl,cond_false]
  cases inR t 0 1000000000
  ·exact h
  rw[Za,cond_false]
  cases hw:(w.2.2.2.2.1.length:Int)==200
  case true=>exact h
  rw[cond_false]
  have hw':=beq_eq_false_iff_ne.1 hw
  have hwl:=h.wlen
  obtain⟨n1,n2⟩:=X3 h.clk t 0
  cases he:(Kw w.2.2.2.1 t 0).1==w.2.2.2.1.1&&((Kw w.2.2.2.1 t 0).2.1==w.2.2.2.1.2.1&&(Kw w.2.2.2.1 t 0).2.2==w.2.2.2.1.2.2)
  case true=>exact h
  rw[cond_false]
  have hlt:sle w.2.2.2.1 (Kw w.2.2.2.1 t 0)=true:=by
   rcases n2 with n2|n2
   ·rw[n2,beq_self_eq_true,beq_self_eq_true,beq_self_eq_true]at he;cases he
   ·exact n2
  exact h.write (f:=(Kw w.2.2.2.1 t 0,f.2)) hs (K6.2 ⟨n1,by show f.2.2.length≤200;omega,hd⟩) hb hlt (by omega)
def rot (h:WO w) {i:Nat} (hi:i<w.2.2.1.length) {s:ByteArray} {b:Int}:WO (Qha w i s b).2:=by
 have hg:=h.ns.get hi
 unfold Qha
 cases hr:(Cza (w.2.2.1.getD i Bb) s b).2
 ·exact h
 have hn:NO w.2.2.1 (w.2.2.1.set i (Cza (w.2.2.1.getD i Bb) s b).1):=NO.set ⟨h.ns,rfl⟩ hi (Ahb hg) (D9b _ _ _)
 have hs:B2 s=true:=by
  unfold Cza at hr
  cases hc:Na (w.2.2.1.getD i Bb)&&((lkD (w.2.2.1.getD i Bb).2.1 s).2==0&&(Cya (w.2.2.1.getD i Bb).2.1 s b).2)
  ·rw[hc]at hr;cases hr
  rw[Vb,Vb,beq_iff_eq]at hc
  obtain⟨b,hb,_⟩:=Qw.1 (show lkD (w.2.2.1.getD i Bb).2.1 s=((lkD (w.2.2.1.getD i Bb).2.1 s).1,0) from by rw[← hc.2.1])
  exact Q1a hg.g.1 (by rw[hb];rfl)
 exact⟨h.ring,hn.2.trans h.ids,hn.1,h.clk,h.wlen,h.wok,h.wge,Y7 h.sps,λ t ht=>by
  rcases Cqa.1 ht with rfl|ht
  ·exact hs
  ·exact h.spn t ht⟩
def node (h:WO w) {i:Nat} (hi:i<w.2.2.1.length) {e:Evt}:WO (Pi w e i).2:=by
 have hg:=h.ns.get hi
 unfold Pi
 cases e.1==3
 case true=>exact h.other' (Ona h.ns hi)
 cases e.1==4
 case true=>exact h.other' (Opa h.ns hi)
 cases e.1==5
 case true=>exact h.other' (Oqa h.ns hi)
 cases e.1==6
 case true=>exact h.other (NO.set ⟨h.ns,rfl⟩ hi (Aob hg) rfl)
 cases e.1==7 with
 |true=>exact h.other (NO.set ⟨h.ns,rfl⟩ hi (Fdb hg) rfl)
 |false=>exact h.rot hi
def weigh (h:WO w) {i t:Int}:WO (Un w i t).2:=by
 unfold Un
 cases h1:inR i 0 ((w.1.length:Int)-1)
 ·exact h
 cases h2:inR t 1 1000
 ·exact h
 obtain⟨i0,i1⟩:=Cf.1 h1
 obtain⟨w0,w1⟩:=Cf.1 h2
 exact⟨(Aua (Wy h.ring (by omega) w0 w1)).1,h.ids.trans (G0a _ _ _).symm,h.ns,h.clk,h.wlen,h.wok,h.wge,h.sps,h.spn⟩
def ev (h:WO w) {e:Evt} (hb:Ao e.2.2.2.1):WO (doW w e).2:=by
 have ae:∀ {q:Int×Wld},WO q.2→WO (J7a q).2:=λ {q} hq=>by
  unfold J7a
  cases q.1 != 2<;>exact hq
 unfold doW
 cases e.1==1
 case true=>exact ae (h.ask hb (λ c=>by cases c))
 cases e.1==2
 case true=>exact ae (h.ask P4 (λ _=>rfl))
 cases e.1==3||(e.1==4||(e.1==5||(e.1==6||(e.1==7||e.1==8)))) with
 |true=>
  cases hi:inR e.2.1 0 ((w.2.2.1.length:Int)-1)
  ·exact h
  have:=Cf.1 hi
  exact h.node (by omega)
 |false=>
  cases e.1==9 with
  |true=>exact h.weigh
  |false=>exact h
def nods (h:WO w):U1 w.1 w.2.2.1=true:=by
 have hl:=h.nlen
 unfold U1
 rw[show ((w.2.2.1.length:Int)==(w.1.length:Int))=true by rw[beq_iff_eq];omega,Wd,Wm]
 intro j hj
 have hj':=Zg.1 hj
 rw[Vb,beq_iff_eq]
 refine⟨?_,(h.ns.get hj').1⟩
 have e1:(w.2.2.1.getD j Bb).1=(w.2.2.1.map (·.1)).getD j 0:=by
  rw[Vc,Vc,Hib,Vk hj'];rfl
 have e2:(w.1.getD j Oc).1=(w.1.map (·.1)).getD j 0:=by
  rw[Vc,Vc,Hib,Vk (by omega)];rfl
 rw[e1,e2,h.ids]
def ok (h:WO w):Y4 w=true:=by
 unfold Y4
 have a2:Yza w.2.2.2.1 w.2.2.2.2.1=true:=by
  unfold Yza
  rw[Vb,Wm]
  refine⟨λ x hx=>?_,decide_eq_true (by have:=h.wlen;omega)⟩
  unfold Lqa
  rw[(h.wok x hx).1,(h.wok x hx).2.1,h.wge x hx]
  rfl
 have a3:X2 w.2.2.2.2.2=true:=by
  unfold X2
  rw[Wm]
  intro j hj
  have hj':=Zg.1 hj
  rw[Vb,Zz]
  refine⟨h.spn _ (A3 hj'),?_⟩
  by_cases h0:j=0
  ·exact .inl (decide_eq_true h0)
  ·right
   have:=Zk.1 h.sps (j-1) j (by omega) hj' (by omega)
   rwa [Vc,Vc,Vk hj',Vk (by omega)]
 rw[h.ring,h.nods,h.clk,a2,a3]
 rfl
end WO
def Gpb {l:List ByteArray} (h:∀ j,0<j→j<l.length→tlt (l.getD (j-1) Nm) (l.getD j Nm)=true):TS l:=by
 induction l with
 |nil=>exact List.Pairwise.nil
 |cons x l ih=>
  have ht:TS l:=ih (λ j h0 hj=>by
   have:=h (j+1) (by omega) (by simpa using hj)
   obtain⟨m,rfl⟩:∃ m,j=m+1:=⟨j-1,by omega⟩
   simpa using this)
  refine Wj.2 ⟨λ y hy=>?_,ht⟩
  cases l with
  |nil=>cases hy
  |cons z l=>
   have hz:tlt x z=true:=by have:=h 1 (by omega) (by simp);simpa using this
   rcases Vl.1 hy with rfl|hy
   ·exact hz
   ·exact Nu hz ((Wj.1 ht).1 y hy)
def Gqb {w:Wld} (h:Y4 w=true) (hn:∀ n∈w.2.2.1,DB n.2.1) (hb:∀ x∈w.2.2.2.2.1,Ao x.2.1.2.2):WO w:=by
 unfold Y4 at h
 simp only[Vb]at h
 obtain⟨h1,h2,h3,h4,h5⟩:=h
 unfold U1 at h2
 rw[Vb,beq_iff_eq,Wm]at h2
 obtain⟨hl,h2⟩:=h2
 have hd:=(Cu.1 (B1.1 h1).1).2.2
 have hnode:∀ j,j<w.2.2.1.length→(w.2.2.1.getD j Bb).1=(w.1.getD j Oc).1∧Na (w.2.2.1.getD j Bb)=true:=λ j hj=>by
  have:=h2 j (Zg.2 hj)
  rwa [Vb,beq_iff_eq]at this
 unfold Yza at h4
 rw[Vb,Wm,decide_eq_true_iff]at h4
 unfold X2 at h5
 rw[Wm]at h5
 have hsp:∀ j,j<w.2.2.2.2.2.length→B2 (w.2.2.2.2.2.getD j Nm)=true∧(j=0∨tlt (w.2.2.2.2.2.getD (j-1) Nm) (w.2.2.2.2.2.getD j Nm)=true):=λ j hj=>by
  have:=h5 j (Zg.2 hj)
  rwa [Vb,Zz,decide_eq_true_iff]at this
 have hx:∀ x∈w.2.2.2.2.1,B2 x.1=true∧F8 x.2.1=true∧sle w.2.2.2.1 x.2.1.1=false:=λ x hx=>by
  have:=h4.1 x hx
  unfold Lqa at this
  rwa [Vb,Vb,Vw]at this
 refine⟨h1,?_,⟨by omega,λ n hm=>?_⟩,h3,by omega,λ x hm=>⟨(hx x hm).1,(hx x hm).2.1,hb x hm⟩,λ x hm=>(hx x hm).2.2,Gpb (λ j h0 hj=>?_),λ s hs=>?_⟩
 ·refine K5b (by rw[Wf,Wf];omega) (λ j a b=>?_)
  rw[Wf]at a b
  have:=(hnode j a).1
  rw[Vc,Vc,Vk a,Vk b]at this
  rw[Jfb,Jfb]
  exact this
 ·obtain⟨j,hj,rfl⟩:=Zx.1 hm
  have:=(hnode j hj).2
  rw[Vc,Vk hj]at this
  exact⟨this,hn _ hm⟩
 ·rcases (hsp j hj).2 with h|h
  ·omega
  ·exact h
 ·obtain⟨j,hj,rfl⟩:=Zx.1 hs
  have:=(hsp j hj).1
  rwa [Vc,Vk hj]at this

def Vya (w:Wld) (i t:Int) (hr:Il w.2.1 w.1=true) (hi:inR i 0 ((w.1.length:Int)-1)=true):Tot (λ k=>Dp k w i t) (λ r=>r=Un w i t):=by
 unfold Dp Un
 rw[hi]
 simp only[Ru,Vn]
 cases h2:inR t 1 1000
 ·exact H6b rfl (H3b rfl)
 refine H5b rfl ?_
 obtain⟨i0,i1⟩:=Cf.1 hi
 obtain⟨w0,w1⟩:=Cf.1 h2
 simp (disch:=omega) only [dT]
 have hg:=Wy (r:=w.2.1) hr (i:=i.toNat) (by omega) w0 w1
 refine Hfb (Uoa (r:=w.2.1) (l:=wgt w.1 i.toNat t) hg) ?_
 refine H3b ?_
 rw[decide_eq_true (show (Fya w.2.1 (wgt w.1 i.toNat t)).2≥0 from (Aua hg).2.2.2)]
 rfl
def Vza (w:Wld) (e:Evt) (he:Atb e) (h:WO w) (hsl:w.2.2.2.2.2.length≤2000000) (h12:e.1≠1∧e.1≠2):Tot (λ k=>B4 k w e) (λ r=>r=doW w e):=by
 have hr:=h.ring
 have hn:=h.ns
 have hnl:=hn.1
 have hlen:=h.nlen
 obtain⟨he1,he2,he3,he4⟩:=he
 unfold B4 doW
 rw[w64 (n:=(w.2.2.1.length:Int)-1) (by omega) (by omega),show (e.1==1)=false from beq_eq_false_iff_ne.2 h12.1,show (e.1==2)=false from beq_eq_false_iff_ne.2 h12.2,cond_false,cond_false]
 simp only[Ru,Vn]
 cases h1:inR e.2.1 0 ((w.2.2.1.length:Int)-1) with
 |false=>
  refine H6b rfl (H3b ?_)
  have:(Un w e.2.1 e.2.2.2.2.1)=(false,w):=by
   unfold Un
   rw[← hlen,h1]
   rfl
  rw[this]
  cases e.1==3||(e.1==4||(e.1==5||(e.1==6||(e.1==7||e.1==8))))<;>cases e.1==9<;>rfl
 |true=>
  obtain⟨i0,i1⟩:=Cf.1 h1
  obtain⟨i,hei⟩:∃ i:Nat,e.2.1=(i:Int):=⟨e.2.1.toNat,by omega⟩
  have hi:i<w.2.2.1.length:=by omega
  have hni:=hn.get hi
  have e0:w.2.2.1.getD i ((0:Int),(([],[]),([],[])))=w.2.2.1.getD i Bb:=rfl
  refine H5b rfl ?_
  rw[hei,Va]
  cases c3:e.1==3 with
  |true=>
   refine H6b rfl (Hfb (Zha w i _ _ hr hn hi) ?_)
   exact H3b (by unfold Pi;rw[c3];rfl)
  |false=>
   refine H5b rfl ?_
   cases c4:e.1==4 with
   |true=>
    refine H6b rfl (Hfb (Vwa w i _ (Mn hr) hn hi) ?_)
    exact H3b (by unfold Pi;rw[c3,c4];rfl)
   |false=>
    refine H5b rfl ?_
    cases c5:e.1==5 with
    |true=>
     refine H6b rfl (Hfb (Vxa w i _ (Mn hr) hn hi) ?_)
     exact H3b (by unfold Pi;rw[c3,c4,c5];rfl)
    |false=>
     refine H5b rfl ?_
     cases c6:e.1==6 with
     |true=>
      refine H6b rfl ?_
      simp (disch:=omega) only [dT,Va,e0]
      refine Hfb (V2a _ hni) ?_
      exact H3b (by unfold Pi;rw[c3,c4,c5,c6];rfl)
     |false=>
      refine H5b rfl ?_
      cases c7:e.1==7 with
      |true=>
       refine H6b rfl (H4b (Q:=λ r=>r=((i:Int),Um e.2.2.2.2.2,w)) ?_ ?_)
       ·refine Hcb (L:=λ k j (s:List Bool)=>Bo k (i:Int) s e.2.2.2.2.2 (e.2.2.2.2.2.length:Int) j w) (Q:=λ r=>r=((i:Int),Um e.2.2.2.2.2,w)) e.2.2.2.2.2.length (λ j s=>s=Um (e.2.2.2.2.2.take j)) ?_ ?_ 0 [] (Vo _) rfl
        ·rintro s rfl
         simp (disch:=omega) only [Bo,dF]
         exact H3b (by rw[Yo])
        ·rintro j s hj rfl next
         simp (disch:=omega) only [Bo,dT,Va,w64]
         have hk:(Um (e.2.2.2.2.2.take j)).length=j:=by unfold Um;rw[Wf,Vs];omega
         refine Hbb (by rw[hk,Hrb];omega) (next _ ?_)
         unfold Um
         rw[Wk hj,Hsb,Vc,Vk hj]
         rfl
       ·rintro r rfl
        simp (disch:=omega) only [dT,Va,e0]
        refine Hfb (V3a _ _ (Ug hni) (by unfold Um;rw[Wf];exact he4)) ?_
        refine H3b ?_
        unfold Pi V1a
        rw[c3,c4,c5,c6,c7,hni.1]
        rfl
      |false=>
       refine H5b rfl ?_
       cases c8:e.1==8 with
       |true=>
        refine H6b rfl ?_
        simp (disch:=omega) only [dT,Va,e0]
        refine Hfb (Loa _ _ _ (Ug hni) he3.2 he3.1) ?_
        have hR:Pi w e i=Qha w i e.2.2.1 e.2.2.2.2.1:=by unfold Pi;rw[c3,c4,c5,c6,c7];rfl
        cases hq:(Cza (w.2.2.1.getD i Bb) e.2.2.1 e.2.2.2.2.1).2 with
        |true=>
         refine H6b rfl (Hfb (Wt _ _ (by omega)) ?_)
         refine H3b ?_
         show _=Pi w e i
         rw[hR,Fmb h.sps]
         unfold Qha
         rw[hq]
         rfl
        |false=>
         refine H5b rfl (H3b ?_)
         show _=Pi w e i
         rw[hR]
         unfold Qha
         rw[hq,cond_false]
         have:(Cza (w.2.2.1.getD i Bb) e.2.2.1 e.2.2.2.2.1).1=w.2.2.1.getD i Bb:=by
          unfold Cza at hq ⊢
          cases hc:Na (w.2.2.1.getD i Bb)&&((lkD (w.2.2.1.getD i Bb).2.1 e.2.2.1).2==0&&(Cya (w.2.2.1.getD i Bb).2.1 e.2.2.1 e.2.2.2.2.1).2) with
          |true=>rw[hc]at hq;cases hq
          |false=>rfl
         rw[this,Vc,Vk hi,Yn,Kfb]
       |false=>
        refine H5b rfl ?_
        cases c9:e.1==9 with
        |true=>
         refine H6b rfl (Hfb (Vya w _ _ hr (by rw[← hlen,← hei];exact h1)) ?_)
         exact H3b rfl
        |false=>exact H5b rfl (H3b rfl)
def Dab (w:Wld) (e:Evt) (he:Atb e) (h:WO w) (hsl:w.2.2.2.2.2.length≤2000000):Tot (λ k=>Gg k w e) (λ r=>r=doW w e):=by
 have answer:∀ (q:Int×Wld),Tot (λ _=>cond (q.1 != 2) (some (q.1 != 3,q.2)) (some (false,q.2))) (λ r=>r=J7a q):=by
  intro q
  unfold J7a
  cases q.1 != 2<;>exact H3b rfl
 unfold Gg
 cases c1:e.1==1 with
 |true=>
  rw[Nk _ (by have:=he.2.1;omega)]
  simp only[Vn]
  refine H6b rfl (Hfb (Vva w e.2.2.1 ((0,0,0),false,e.2.2.2.1) e.2.2.2.2.1 e.2.2.2.2.2 h.ring h.ns h.clk he.1 (λ h=>by cases h) h.wlen) ?_)
  unfold doW
  rw[c1]
  exact answer _
 |false=>
  refine H5b rfl ?_
  cases c2:e.1==2 with
  |true=>
   refine H6b rfl (Hfb (Vva w e.2.2.1 ((0,0,0),true,[]) e.2.2.2.2.1 e.2.2.2.2.2 h.ring h.ns h.clk he.1 (λ _=>rfl) h.wlen) ?_)
   unfold doW
   rw[c1,c2]
   exact answer _
  |false=>
   refine H5b rfl (Hfb (Vza w e he h hsl ⟨beq_eq_false_iff_ne.1 c1,beq_eq_false_iff_ne.1 c2⟩) ?_)
   exact H3b rfl

def M3a (w:Wld) (s:ByteArray) (f:Fil) (t:Int) (rc:List Int):(ask w s f t rc).1=0∨(ask w s f t rc).1=1∨(((ask w s f t rc).1=2∨(ask w s f t rc).1=3)∧(ask w s f t rc).2=w):=by
 unfold ask
 cases !(B2 s)
 case true=>exact .inr (.inr ⟨.inl rfl,rfl⟩)
 rw[cond_false]
 cases decide ((f.2.2.length:Int) > 200)
 case true=>exact .inr (.inr ⟨.inl rfl,rfl⟩)
 rw[cond_false]
 cases !(inR t 0 1000000000)
 case true=>exact .inr (.inr ⟨.inl rfl,rfl⟩)
 rw[cond_false]
 cases (w.2.2.2.2.1.length:Int)==200
 case true=>exact .inr (.inr ⟨.inr rfl,rfl⟩)
 rw[cond_false]
 cases (Kw w.2.2.2.1 t 0).1==w.2.2.2.1.1&&((Kw w.2.2.2.1 t 0).2.1==w.2.2.2.1.2.1&&(Kw w.2.2.2.1 t 0).2.2==w.2.2.2.1.2.2)
 case true=>exact .inr (.inr ⟨.inr rfl,rfl⟩)
 rw[cond_false]
 unfold X4
 cases decide ((wrN (w.1,w.2.1,w.2.2.1,Kw w.2.2.2.1 t 0,w.2.2.2.2) s (Kw w.2.2.2.1 t 0,f.2) rc).2.2≥quo (w.1,w.2.1,w.2.2.1,Kw w.2.2.2.1 t 0,w.2.2.2.2).2.1.1) with
 |true=>exact .inl rfl
 |false=>exact .inr (.inl rfl)
def Eha {w:Wld} {s:ByteArray} {f:Fil} {t:Int} {rc:List Int} (h:(J7a (ask w s f t rc)).1=false):(J7a (ask w s f t rc)).2=w:=by
 have key:=M3a w s f t rc
 unfold J7a at h ⊢
 generalize ask w s f t rc=q at *
 rcases key with k|k|⟨k|k,e⟩
 ·rw[k]at h;cases h
 ·rw[k]at h;cases h
 ·rw[k];exact e
 ·rw[k];exact e
def M4a {w:Wld} {e:Evt} {i:Nat} (h:(Pi w e i).1=false):(Pi w e i).2=w:=by
 unfold Pi at h ⊢
 cases h3:e.1==3 with
 |true=>
  rw[h3,cond_true]at h
  rw[cond_true]
  unfold Cna at h ⊢
  cases hl:(lkD (w.2.2.1.getD i Bb).2.1 e.2.2.1).2 != 0 with
  |true=>rfl
  |false=>rw[hl]at h;cases h
 |false=>
  rw[h3,cond_false]at h
  rw[cond_false]
  cases h4:e.1==4 with
  |true=>
   rw[h4,cond_true]at h
   rw[cond_true]
   unfold Coa at h ⊢
   cases hl:((w.2.2.1.getD i Bb).2.2.1.length:Int)==0 with
   |true=>rfl
   |false=>rw[hl]at h;cases h
  |false=>
   rw[h4,cond_false]at h
   rw[cond_false]
   cases h5:e.1==5 with
   |true=>
    rw[h5,cond_true]at h
    rw[cond_true]
    unfold Cpa at h ⊢
    cases hl:((w.2.2.1.getD i Bb).2.2.2.length:Int)==0 with
    |true=>rfl
    |false=>rw[hl]at h;cases h
   |false=>
    rw[h5,cond_false]at h
    rw[cond_false]
    cases h6:e.1==6
    case true=>rw[h6]at h;cases h
    rw[h6,cond_false]at h
    rw[cond_false]
    cases h7:e.1==7
    case true=>rw[h7]at h;cases h
    rw[h7,cond_false]at h
    rw[cond_false]
    unfold Qha at h ⊢
    cases hl:(Cza (w.2.2.1.getD i Bb) e.2.2.1 e.2.2.2.2.1).2 with
    |true=>rw[hl]at h;cases h
    |false=>rfl
def W0a {w:Wld} {e:Evt} (hr:Il w.2.1 w.1=true) (h:(doW w e).1=false):(doW w e).2=w:=by
 unfold doW at h ⊢
 cases h1:e.1==1
 case true=>rw[h1,cond_true]at h;rw[cond_true];exact Eha h
 rw[h1,cond_false]at h
 rw[cond_false]
 cases h2:e.1==2
 case true=>rw[h2,cond_true]at h;rw[cond_true];exact Eha h
 rw[h2,cond_false]at h
 rw[cond_false]
 cases h3:e.1==3||(e.1==4||(e.1==5||(e.1==6||(e.1==7||e.1==8)))) with
 |true=>
  rw[h3,cond_true]at h
  rw[cond_true]
  cases hi:inR e.2.1 0 ((w.2.2.1.length:Int)-1) with
  |true=>rw[hi,cond_true]at h;rw[cond_true];exact M4a h
  |false=>rfl
 |false=>
  rw[h3,cond_false]at h
  rw[cond_false]
  cases h9:e.1==9 with
  |true=>
   rw[h9,cond_true]at h
   rw[cond_true]
   unfold Un at h ⊢
   cases a1:inR e.2.1 0 ((w.1.length:Int)-1)
   ·rfl
   cases a2:inR e.2.2.2.2.1 1 1000
   ·rfl
   rw[a1,a2]at h
   obtain⟨i0,i1⟩:=Cf.1 a1
   obtain⟨w0,w1⟩:=Cf.1 a2
   have:=(Aua (Wy hr (i:=e.2.1.toNat) (by omega) w0 w1)).2.2.2
   exact absurd this (of_decide_eq_false h)
  |false=>rfl
def Rz (w:Wld) (l:List Evt):Wld:=l.foldl (λ w e=>(doW w e).2) w
def WO.play {w:Wld} (h:WO w) {l:List Evt} (hl:∀ e∈l,Ao e.2.2.2.1):WO (Rz w l):=by
 unfold Rz
 induction l generalizing w with
 |nil=>exact h
 |cons e l ih=>exact ih (h.ev (hl e Yb)) (λ x hx=>hl x (Vh _ hx))
def WI.play {w:Wld} (h:WI w) {l:List Evt} (hl:∀ e∈l,Ao e.2.2.2.1):WI (Rz w l):=by
 unfold Rz
 induction l generalizing w with
 |nil=>exact h
 |cons e l ih=>exact ih (h.ev (hl e Yb)) (λ x hx=>hl x (Vh _ hx))

def WIm.wo {m:Nat} {w:Wld} (h:WIm m w) (hk:Y4 w=true):WO w:=Gqb hk (λ n hn=>(h.2.2.1.2 n hn).1.2) (λ x hx=>(h.2.2.2.1.2 x hx).2.2)
def WO.wim {w:Wld} (h:WO w) {m:Nat} (h2:200≤m) (hs:w.2.2.2.2.2.length≤m):WIm m w:=
 ⟨Mn h.ring,by have:=h.dlen;omega,⟨h.ns.1,λ n hn=>Ug (h.ns.2 n hn)⟩,⟨by have:=h.wlen;omega,λ x hx=>⟨J5 (h.wok x hx).1,by have:=(K6.1 (h.wok x hx).2.1).2.1;omega,(h.wok x hx).2.2⟩⟩,hs,λ s hs=>J5 (h.spn s hs)⟩
def X6 {m:Nat} {w:Wld} (h:WIm m w) (hm:m≤2000000):Tot (λ k=>Aw k w) (λ r=>r=w):=by
 obtain⟨h1,h2,⟨h3,h4⟩,⟨h5,h6⟩,h7,h8⟩:=h
 unfold Aw
 refine Hbb (by rw[Vj];omega) (Hfb (Z7 w.2.1 h1) ?_)
 refine Hbb (by rw[Vj];omega) ?_
 rw[Vx,Vx]
 refine H4b (Q:=λ r=>r=(w,Gda,(w.1,w.2.1,w.2.2.1,w.2.2.2.1,[],w.2.2.2.2.2))) ?_ ?_
 ·refine Hcb (L:=λ k i (s:List Nod)=>Ee k w.2.2.1 (w.2.2.1.length:Int) i w Gda (w.1,w.2.1,s,w.2.2.2.1,[],w.2.2.2.2.2)) (Q:=λ r=>r=(w,Gda,(w.1,w.2.1,w.2.2.1,w.2.2.2.1,[],w.2.2.2.2.2))) w.2.2.1.length (λ j s=>s=w.2.2.1.take j) ?_ ?_ 0 [] (Vo _) rfl
  ·rintro s rfl
   simp (disch:=omega) only [Ee,dF]
   exact H3b (by rw[Yo])
  ·rintro j s hj rfl next
   have hm:=h4 _ (A3 (d:=Bb) hj)
   have e0:w.2.2.1.getD j ((0:Int),(([],[]),([],[])))=w.2.2.1.getD j Bb:=rfl
   have hl:(w.2.2.1.take j).length=j:=by rw[Vs];omega
   simp (disch:=omega) only [Ee,dT,Va,w64,e0]
   refine Hfb (Nb _ hm) ?_
   refine Hbb (by rw[hl];simp only[Vd,Vj];omega) (next _ ?_)
   rw[Wk hj,Vc,Vk hj]
   rfl
 ·rintro r rfl
  refine H4b (Q:=λ r=>r=(Gda,w)) ?_ (by rintro r rfl;exact H3b rfl)
  refine Hcb (L:=λ k i (s:List Wri)=>Ed k w.2.2.2.2.1 (w.2.2.2.2.1.length:Int) i Gda (w.1,w.2.1,w.2.2.1,w.2.2.2.1,s,w.2.2.2.2.2)) (Q:=λ r=>r=(Gda,w)) w.2.2.2.2.1.length (λ j s=>s=w.2.2.2.2.1.take j) ?_ ?_ 0 [] (Vo _) rfl
  ·rintro s rfl
   simp (disch:=omega) only [Ed,dF]
   exact H3b (by rw[Yo])
  ·rintro j s hj rfl next
   have hm:=(h6 _ (A3 (d:=Dca) hj)).2.1
   have e0:w.2.2.2.2.1.getD j ((⟨#[]⟩:ByteArray),((((0:Int),((0:Int),(0:Int))),(false,[])),false))=w.2.2.2.2.1.getD j Dca:=rfl
   have hl:(w.2.2.2.2.1.take j).length=j:=by rw[Vs];omega
   simp (disch:=omega) only [Ed,dT,Va,w64,e0,A0a (f:=(w.2.2.2.2.1.getD j Dca).2.1) (by omega),Vn]
   refine Hbb (by rw[hl];simp only[Vd,Vj];omega) (next _ ?_)
   rw[Wk hj,Vc,Vk hj]
   rfl
def doA (w:Wld) (e:Evt):Wld×Bool:=bif Y4 w then ((doW w e).2,(doW w e).1) else (w,false)
def W1a {m:Nat} {w:Wld} {e:Evt} (h:WIm m w) (hm:m≤1999000) (he:Atb e):Tot (λ k=>Of k w e) (λ r=>r=doA w e):=by
 have hw:=h.win (by omega)
 have hsl:=h.2.2.2.2.1
 unfold Of doA
 refine H4b (X6 h (by omega)) ?_
 rintro r rfl
 refine H4b (J1a r hw) ?_
 rintro b rfl
 cases hk:Y4 r with
 |false=>
  refine H6b rfl (H4b (X6 h (by omega)) ?_)
  rintro _ rfl
  exact H3b rfl
 |true=>
  have ho:=h.wo hk
  refine H5b rfl (H4b (Dab r e he ho (by omega)) ?_)
  rintro _ rfl
  cases hc:(doW r e).1
  case true=>exact H5b rfl (H3b rfl)
  refine H6b rfl (H4b (X6 h (by omega)) ?_)
  rintro w rfl
  exact H3b (by rw[cond_true,W0a ho.ring hc])
def Gga (w v:Wld):Prop:=v.2.2.1.length=w.2.2.1.length∧w.2.2.2.2.1.length≤v.2.2.2.2.1.length∧sle v.2.2.2.1 w.2.2.2.1=false
def Gga.nodes {w:Wld} {ns:List Nod} (h:ns.length=w.2.2.1.length):Gga w (wN w ns):=⟨h,Vv _,N1 _⟩
def Gga.nodes' {w:Wld} {r:Bool×Wld} (h:∃ ns,r.2=wN w ns∧NO w.2.2.1 ns):Gga w r.2:=by
 obtain⟨ns,e,hn⟩:=h
 rw[e]
 exact Gga.nodes hn.len
def Ora {w:Wld} (h:WO w) {s:ByteArray} {f:Fil} {t:Int} {rc:List Int} (hd:f.2.1=true→f.2.2=[]):Gga w (ask w s f t rc).2:=by
 have hz:Gga w w:=⟨rfl,Vv _,N1 _⟩
 unfold ask
 cases hs:B2 s
 ·exact hz
 rw[Za,cond_false]
 by_cases hl:(f.2.2.length:Int) > 200
 ·rw[decide_eq_true hl];exact hz
 ·rw[decide_eq_false hl,cond_false]
  cases inR t 0 1000000000
  ·exact hz
  rw[Za,cond_false]
  cases (w.2.2.2.2.1.length:Int)==200
  case true=>exact hz
  rw[cond_false]
  obtain⟨n1,n2⟩:=X3 h.clk t 0
  cases (Kw w.2.2.2.1 t 0).1==w.2.2.2.1.1&&((Kw w.2.2.2.1 t 0).2.1==w.2.2.2.1.2.1&&(Kw w.2.2.2.1 t 0).2.2==w.2.2.2.1.2.2)
  case true=>exact hz
  have g:=Axb (w:=(w.1,w.2.1,w.2.2.1,Kw w.2.2.2.1 t 0,w.2.2.2.2)) (s:=s) (f:=(Kw w.2.2.2.1 t 0,f.2)) (rc:=rc) h.ns hs (K6.2 ⟨n1,by show f.2.2.length≤200;omega,hd⟩)
  refine⟨g.len,by show _≤(w.2.2.2.2.1++[_]).length;rw[Ve];omega,?_⟩
  show sle (Kw w.2.2.2.1 t 0) w.2.2.2.1=false
  rcases n2 with n2|n2
  ·rw[n2];exact N1 _
  ·exact X5 n2
def Zja {w:Wld} (h:WO w) {e:Evt}:Gga w (doW w e).2:=by
 have hz:Gga w w:=⟨rfl,Vv _,N1 _⟩
 have ae:∀ {q:Int×Wld},Gga w q.2→Gga w (J7a q).2:=λ {q} hq=>by
  unfold J7a
  cases q.1 != 2<;>exact hq
 unfold doW
 cases e.1==1
 case true=>exact ae (Ora h (λ c=>by cases c))
 cases e.1==2
 case true=>exact ae (Ora h (λ _=>rfl))
 cases e.1==3||(e.1==4||(e.1==5||(e.1==6||(e.1==7||e.1==8)))) with
 |true=>
  cases hi:inR e.2.1 0 ((w.2.2.1.length:Int)-1)
  ·exact hz
  have:=Cf.1 hi
  have hi':e.2.1.toNat<w.2.2.1.length:=by omega
  show Gga w (Pi w e e.2.1.toNat).2
  unfold Pi
  cases e.1==3
  case true=>exact Gga.nodes' (Ona h.ns hi')
  cases e.1==4
  case true=>exact Gga.nodes' (Opa h.ns hi')
  cases e.1==5
  case true=>exact Gga.nodes' (Oqa h.ns hi')
  cases e.1==6
  case true=>exact Gga.nodes (Wb ..)
  cases e.1==7
  case true=>exact Gga.nodes (Wb ..)
  show Gga w (Qha w e.2.1.toNat e.2.2.1 e.2.2.2.2.1).2
  unfold Qha
  cases (Cza (w.2.2.1.getD e.2.1.toNat Bb) e.2.2.1 e.2.2.2.2.1).2 with
  |true=>exact⟨Wb ..,Vv _,N1 _⟩
  |false=>exact hz
 |false=>
  cases e.1==9 with
  |true=>
   show Gga w (Un w e.2.1 e.2.2.2.2.1).2
   unfold Un
   cases inR e.2.1 0 ((w.1.length:Int)-1) with
   |false=>exact hz
   |true=>cases inR e.2.2.2.2.1 1 1000<;>exact hz
  |false=>exact hz

end Go.Proofs.YtmhhjceoinoekaaGreat.Vf

section
set_option linter.unusedVariables false
set_option linter.unusedSimpArgs false
namespace Go.Proofs.YtmhhjceoinoekaaGreat.Pure
open Go Go.RowKit Go.Proofs.YtmhhjceoinoekaaGreat.Vf
def Fob:Evt:=((0:Int),((0:Int),((⟨#[]⟩:ByteArray),([],((0:Int),[])))))
def EvL (l:List Evt):Prop:=∀ e∈l,Atb e∧Ao e.2.2.2.1
theorem M5a (w:Wld):∀ (n:Nat) (i:Int) (l:List Evt) (x:Wld) (c:Cur),i=n→l.length+n≤100→Mz c→WI x→EvL l→
  Tot (λ k=>Fs k l i Gda w x c) (λ r=>r.2.2=w∧r.1.length≤100∧EvL r.1):=by
 intro n
 induction n with
 |zero=>
  rintro i l x c rfl hl hc h he
  refine Tot.succ ?_
  simp (disch:=omega) only [Fs,dF]
  exact H3b ⟨rfl,by dsimp only;omega,he⟩
 |succ n ih=>
  rintro i l x c rfl hl hc h he
  refine Tot.succ ?_
  simp (disch:=omega) only [Fs,dT]
  refine H4b (Jba c x hc h) ?_
  rintro⟨e,c1,w1⟩ ⟨g1,g2,g3,g4⟩
  dsimp only at g1 g2 g3 g4 ⊢
  subst g4
  refine H4b (D7b h g1) ?_
  rintro r rfl
  refine Hbb (by rw[Hrb];omega) ?_
  rw[w64 (n:=((n+1:Nat):Int)-1) (by omega) (by omega)]
  refine ih _ _ _ _ (by omega) (by rw[Ve,Hrb];omega) g3 (h.ev g2) (λ y hy=>?_)
  rcases Vq.1 hy with hy|hy
  ·exact he y hy
  ·rw[Vu.1 hy];exact⟨g1,g2⟩
theorem Jea (a:List Int) (hb:(a.length:Int)≤1048576):Tot (λ k=>E7 k a) (λ r=>WI r.1∧r.2.length≤100∧EvL r.2):=by
 unfold E7
 refine H4b (Tca a hb) ?_
 intro c hc
 refine H4b (Qja c hc) ?_
 rintro⟨w,c1⟩ ⟨h,k1⟩
 dsimp only at h k1 ⊢
 refine H4b (Vsa h.wim (by decide)) ?_
 rintro _ rfl
 obtain⟨n,e,n0,n1⟩:=Zfa a hb 24 (by decide)
 refine H4b (Hhb (Q:=λ r=>r=n) e rfl) ?_
 rintro n rfl
 obtain⟨x,c2,e2,x0,x1,_,k2⟩:=Lz c1 k1 n (by omega)
 have x1:=x1 (by omega)
 refine H4b (Hhb (Q:=λ r=>r=(x,c2)) e2 rfl) ?_
 rintro _ rfl
 refine H4b (M5a _ x.toNat x [] _ c2 (by omega) (by rw[Vj];omega) k2 h (λ _ hy=>nomatch hy)) ?_
 rintro r ⟨g1,g2,g3⟩
 exact H3b ⟨by dsimp only;rw[g1];exact h,g2,g3⟩
theorem Jfa {w:Wld} {l:List Evt} {j:Nat} (hj:j<l.length):Rz w (l.take (j+1))=(doW (Rz w (l.take j)) (l.getD j Fob)).2:=by
 unfold Rz
 rw[Wk hj,Ibb,Vc,Vk hj]
 rfl
theorem W2a {w:Wld} (h:WI w) {l:List Evt} (hl:EvL l):(Rz w l).2.2.1.length=w.2.2.1.length:=by
 unfold Rz
 induction l generalizing w with
 |nil=>rfl
 |cons e l ih=>
  rw[Yv,ih (h.ev (hl e Yb).2) (λ y hy=>hl y (Vh _ hy))]
  exact(Zja h.wo).1
theorem W3a {w:Wld} (h:WI w) {l:List Evt} (hl:EvL l) (j:Nat):WI (Rz w (l.take j)):=h.play (λ e he=>(hl e (Htb he)).2)
theorem Ayb {w:Wld} (h:WI w) (e:Evt):(doA w e).1=(doW w e).2:=by
 unfold doA
 rw[h.rightB]
 rfl
theorem Zka {w:Wld} (h:WI w) {l:List Evt} (hn:l.length≤100) (hl:EvL l):Tot (λ k=>Lb k w l) (λ r=>r=Rz w l):=by
 unfold Lb
 refine H4b (X6 h.wim (by decide)) ?_
 rintro w rfl
 refine H4b (Q:=λ r=>r=(Gda,Rz w l)) ?_ (by rintro r rfl;exact H3b rfl)
 refine Hcb (L:=λ k i (v:Wld)=>Jt k l (l.length:Int) i Gda v) (Q:=λ r=>r=(Gda,Rz w l)) l.length (λ j v=>v=Rz w (l.take j)) ?_ ?_ 0 _ (Vo _) rfl
 ·rintro v rfl
  simp (disch:=omega) only [Jt,dF]
  exact H3b (by rw[Yo])
 ·rintro j v hj rfl next
  have hw:=W3a h hl j
  have he:=hl _ (A3 (d:=Fob) hj)
  have e0:l.getD j ((0:Int),((0:Int),((⟨#[]⟩:ByteArray),([],((0:Int),[])))))=l.getD j Fob:=rfl
  simp (disch:=omega) only [Jt,dT,Va,w64,e0]
  refine H4b (W1a hw.wim (by decide) he.1) ?_
  rintro _ rfl
  exact next _ (by rw[Ayb hw,Jfa hj])
theorem Dbb {w all:Wld} (h:WI w) {l:List Evt} (hn:l.length≤100) (hl:EvL l):Tot (λ k=>Eb k l 0 w all w) (λ r=>r=(w,all,Rz w l)):=by
 refine Hcb (L:=λ k i (v:Wld)=>Eb k l i w all v) (Q:=λ r=>r=(w,all,Rz w l)) l.length (λ j v=>v=Rz w (l.take j)) ?_ ?_ 0 _ (Vo _) rfl
 ·rintro v rfl
  simp (disch:=omega) only [Eb,dF]
  exact H3b (by rw[Yo])
 ·rintro j v hj rfl next
  have hw:=W3a h hl j
  have he:=hl _ (A3 (d:=Fob) hj)
  have e0:l.getD j ((0:Int),((0:Int),((⟨#[]⟩:ByteArray),([],((0:Int),[])))))=l.getD j Fob:=rfl
  simp (disch:=omega) only [Eb,dT,Va,w64,e0]
  refine H4b (W1a hw.wim (by decide) he.1) ?_
  rintro _ rfl
  exact next _ (by rw[Ayb hw,Jfa hj])
theorem W4a {v:Wld} (h:WI v):Tot (λ k=>Dh k 0 v v) (λ r=>r = .inr v):=by
 have hnl:=h.ns.1
 refine Hcb (L:=λ k i (_:Unit)=>Dh k i v v) (Q:=λ r=>r = .inr v) v.2.2.1.length (λ _ _=>True) ?_ ?_ 0 () (Vo _) trivial
 ·intro _ _
  simp (disch:=omega) only [Dh,dF]
  exact H3b rfl
 ·intro j _ hj _ next
  have hm:=Ug (h.ns.2 _ (A3 (d:=Bb) hj))
  have e0:v.2.2.1.getD j ((0:Int),(([],[]),([],[])))=v.2.2.1.getD j Bb:=rfl
  simp (disch:=omega) only [Dh,dT,Va,w64,e0]
  refine H4b (Ws _ _ hm.1.1.1.1.1) ?_
  rintro _ rfl
  refine H5b (by rw[decide_eq_true rfl];rfl) (H4b (Ws _ _ hm.1.1.1.1.2) ?_)
  rintro _ rfl
  have f1:Few (v.2.2.1.getD j Bb).2.2.1:=by have:=hm.2.1.1;unfold Few;omega
  have f2:Few (v.2.2.1.getD j Bb).2.2.2:=by have:=hm.2.2.1;unfold Few;omega
  refine H5b (by rw[decide_eq_true rfl];rfl) (H4b (Z1 _ _ f1 f1) ?_)
  rintro _ rfl
  refine H5b (by rw[decide_eq_true rfl];rfl) (H4b (Z1 _ _ f2 f2) ?_)
  rintro _ rfl
  exact H5b (by rw[decide_eq_true rfl];rfl) (next () trivial)
theorem FnPlayed:∀ (a0:List Int),Ty.fit ti (.sl 5 (.i .u8)) a0→∃ k,Ds k a0=some true:=by
 intro a0 _
 refine Tot.law (f:=λ k=>Ds k a0) ?_
 unfold Ds Oy
 refine H4b (H3b (Q:=λ b=>b=decide ((List.length a0:Int) > 1048576)) rfl) ?_
 rintro b rfl
 refine Hab (λ _=>H3b rfl) (λ hb=>?_)
 refine H4b (Jea a0 (by omega)) ?_
 rintro⟨w,l⟩ ⟨h,hn,hl⟩
 dsimp only at h hn hl ⊢
 refine H4b (Zka h hn hl) ?_
 rintro _ rfl
 refine H4b (Dbb h hn hl) ?_
 rintro _ rfl
 have hv:=h.play (λ e he=>(hl e he).2)
 have hlen:=W2a h hl
 generalize Rz w l=v at *
 have hsp:=hv.splen
 refine H5b (by rw[bne,beq_self_eq_true];rfl) (H5b (by rw[beq_self_eq_true,beq_self_eq_true,beq_self_eq_true];rfl) (H4b (G6a _ _ (by dsimp only;omega)) ?_))
 rintro _ rfl
 refine H5b (by rw[decide_eq_true rfl];rfl) (H5b (by dsimp only;rw[hlen,bne,beq_self_eq_true];rfl) (H4b (W4a hv) ?_))
 rintro _ rfl
 refine H4b (Z5a v hv.win) ?_
 rintro _ rfl
 exact H3b (by rw[hv.safe];rfl)
end Go.Proofs.YtmhhjceoinoekaaGreat.Pure
end
