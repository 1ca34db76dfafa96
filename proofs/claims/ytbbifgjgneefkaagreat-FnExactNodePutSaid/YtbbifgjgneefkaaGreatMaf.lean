import Derived.Test.YtbbifgjgneefkaaGreatMae
import Derived.Laws.MakeOwn
import Derived.Laws.OwnMore
import Derived.Laws.IdiomStrings
import Derived.Lib.AppendStr
set_option linter.all false
namespace Go.Proofs.YtbbifgjgneefkaaGreat.Vf
open Go
open List (length getD)
open Int (toNat)
open Go.IntKind (wrap)
open BitVec (ofInt)
def Roa:=@List.map_append
def S6a:=@List.getElem?_map
def Sfa:=@Result.ok.injEq
def Soa:=@Array.mapM_eq_mapM_toList
def Swa:=@Nat.mod_eq_of_lt
def T1a:=@List.foldl_cons
def T2a:=@List.length_singleton
def T3a:=@List.length_replicate
def T4a:=@List.take_left'

section
attribute [local irreducible] C H
section
variable {X:Cx} {S S':Sit} {a:Act} {E:En} {A:Ab} {o:Oper} {R:Type} {Kc:List Up→Option R} {r:R}
def Ah.names (K:Ah X S a) (h:Nat→List Nat→Option Lab) (hno:∀ n q,h n q≠some .no):Ah X { S with O:=atO S.O h } a∧Ct S { S with O:=atO S.O h }:=by
 have L:Ct S { S with O:=atO S.O h }:=⟨λ _=>Vq _,λ _ _=>rfl,λ p v e r xs' h _=>⟨xs',h,rfl⟩,λ _ _=>rfl,λ k hk=>⟨Am hk (by simp),rfl⟩,Ct.box_of (λ _ _ _ h=>h) (λ k b h=>⟨Am h (by simp),rfl⟩),λ p _ hd=>⟨hd,λ _ _ _ h=>h,λ k hk=>⟨.inl (Am hk (by simp)),rfl⟩⟩,λ _ _=>rfl⟩
 exact⟨K.ghost _ _ (λ k e=>Am e (by simp)) (λ k e1 e2=>e1 (Am e2 (by simp))) (λ k e=>Am e (by simp)) (λ k b e=>Am e (by simp)) (λ _ _ e=>e)
  (λ l=>(K.at_ l).later L (λ p k e=>⟨Am e (by simp),rfl⟩)),L⟩
def Ama (i:Nat):Nat→List Nat→Option Lab:=λ n _=>if n=i then some .fz else none
def Mh {P:Program} {S:Sit} {i:Nat} {q:Nat→List Nat}:∀ {l:List Lf} {j:Nat} {us:List Value},A3 l=true→A5 P S (λ n => .tm i (q n)) j l us→Hw (Ha P (λ k=>atO S.O (Ama i) k = .fz) S.w) (l.map Iu) us
 |[],_,[],_,_ => .nil
 |[],_,_::_,_,h=>h.elim
 |_::_,_,[],_,h=>h.elim
 |x::l,j,u::us,hst,h=>by
  have hfz:∀ k,S.O k = .fz→atO S.O (Ama i) k = .fz:=λ k hk=>Am hk (by simp)
  cases x with
  |sc v=>exact .cons h.1 (Mh (by simpa[A3] using hst) h.2)
  |fz e r xs=>exact .cons (Ty.rep_mono (t := .sl e r) hfz (λ _ _=>rfl) _ _ h.1) (Mh (by simpa[A3] using hst) h.2)
  |own e r xs=>
   refine .cons ?_ (Mh (by simpa[A3] using hst) h.2);have h1:Cs P S.O S.w (.tm i (q j)) e r xs u:=h.1;exact h1.reads (O':=λ k=>atO S.O (Ama i) k) hfz (λ k hk=>G6 hk (by simp[Ama]))
  |_=>simp[A3]at hst
def Iv:∀ {m:List Lf},Lt m=true→A3 m=true
 |[],_=>rfl
 |x::m,h=>by
  cases x<;>first|(simp[Lt]at h;done)|(simp only[Lt]at h;simp only[A3];exact Iv h)
def Ki {P:Program} {f:Nat→Lab}:∀ {l:List Lf} {j:Nat} {us:List Value},A3 l=true→A5 P S f j l us→∀ u∈us,u.oneCell'=true
 |[],_,[],_,_=>by simp
 |[],_,_::_,_,h=>h.elim
 |_::_,_,[],_,h=>h.elim
 |x::l,j,u::us,hst,h=>by
  intro v hv;rcases Vk.1 hv with rfl|hv
  ·cases x with
   |sc w=>
    obtain⟨rfl,h2⟩:=h.1;unfold X5 at h2
    split at h2<;>first|rfl|cases h2
   |fz e r xs=>
    obtain⟨ad,cap,e1⟩:=Pi (X:=⟨P,λ _ => .no,S.w,λ _=>(0,0),0,0,λ _=>undef⟩) h.1;rw[e1];rfl
   |own e r xs=>
    obtain⟨ad,cap,e1⟩:=Nc (X:=⟨P,λ _ => .no,S.w,λ _=>(0,0),0,0,λ _=>undef⟩) h.1;rw[e1];rfl
   |_=>simp[A3]at hst
  ·refine Ki (l:=l) (us:=us) ?_ h.2 v hv
   cases x<;>first|(simp[A3]at hst;done)|simpa[A3] using hst
def Eoa {X:Cx} {S:Sit} {A:Ab} (hg:S.g=get A) {f:Nat→Lab}:∀ {l:List Lf} {j:Nat} {us:List Value},F6 A l=true→A5 X.P S f j l us→(∀ u∈us,u.oneCell'=true)∧∀ k,.hd k∉l
 |[],_,[],_,_=>by simp
 |[],_,_::_,_,h=>h.elim
 |_::_,_,[],_,h=>h.elim
 |x::l,j,u::us,hst,h=>by
  have rest:F6 A l=true:=by
   cases x<;>first|(simp[F6]at hst;done)|(simp only[F6,Va]at hst;exact hst.2)|simpa[F6] using hst
  obtain⟨r1,r2⟩:=Eoa hg rest h.2;refine⟨λ v hv=>?_,λ k hk=>?_⟩
  ·rcases Vk.1 hv with hv|hv
   ·rw[hv];have one:A3 [x]=true→u.oneCell'=true:=λ hs=>Ki (P:=X.P) (S:=S) (f:=f) (l:=[x]) (j:=j) (us:=[u]) hs ⟨h.1,trivial⟩ u (by simp)
    cases x with
    |da p v pi e r xs=>
     simp only[F6,Va]at hst;obtain⟨ad,cap,e1⟩:=U4 (X:=X) h.1 (by rw[hg];exact Vb hst.1);rw[e1];rfl
    |sc w=>exact one rfl
    |fz e r xs=>exact one rfl
    |own e r xs=>exact one rfl
    |_=>simp[F6]at hst
   ·exact r1 v hv
  ·rcases Vk.1 hk with rfl|hk
   ·simp[F6]at hst
   ·exact r2 k hk
def Ge {s:Sv} {u:Value} {us:List Value} (hs:Nf s u us) (hnt:∀ vs,s ≠ .tup vs) (h1:∀ v∈us,v.oneCell'=true):u.cells=us.toArray:=by
 cases s with
 |agg l=>have:u = .agg us.toArray:=hs;rw[this];rfl
 |one x=>
  have:us=[u]:=hs;subst this;have:=h1 u (by simp)
  cases u<;>first|(simp[Value.oneCell']at this;done)|rfl
 |tup vs=>exact absurd rfl (hnt vs)
def L5 {s:Sv} {T:TypeId} {t:TI} {l:List Lf} (hl:l.length=(parts s).length) (h:l.length=t.ty.sz) (ht:TOk X.P T t):∀ vs,s ≠ .tup vs:=by
 intro vs e;subst e
 have:∀ t:Ty,0<t.sz:=by intro t;induction t<;>simp[Ty.sz]<;>omega
 have:=this t.ty;simp[parts]at hl;simp[hl]at h;omega
def Jk {P:Program} {w:World} {T:TypeId} {t:TI} {x y:Operand} {k o':Nat} {us:List Value} {c:Array Value} {e:TypeId} {u:Value} (ht:TOk P T t) (ho:o.op = .store T x y) (hx:a.eval x = .pointer (some ⟨k,o',none⟩)) (hy:a.eval y=u) (hu:u.cells=us.toArray)
  (hl:us.length=t.ty.sz) (hc:w.heap[k]? = some (.cells c e (0,0))) (hle:o'+us.length≤c.size) (h1:∀ v∈us,v.oneCell'=true):
  (execOp a.eval o).run P w = .ok .skip (w.setRow k (c.toList.take o'++us++c.toList.drop (o'+us.length)).toArray):=by
 have hst:=run_storeCells_at P k o' e us 0 c w hc (by simpa using hle) h1;simp only[Yu]at hst;unfold execOp;simp only[ho,hx,hy,Instr.storeAt,Instr.sureAddr,Vx,Wn,Vw,storeVar,hu,Hb (Ky ht),Ria];rw[if_neg (by simp[hl])];simp[hst]
def Ana {s:Sv} {b off:Nat} {m:List Lf} (hm:m.length=(parts s).length) (hnt:∀ vs,s ≠ .tup vs):∀ j,j<m.length→Ql b off 0 (pth s j)=some (.pl (C b (off+j)) []):=by
 intro j hj
 cases s with
 |one x=>
  have:j=0:=by simp[parts]at hm;omega
  subst this;rfl
 |agg l=>rfl
 |tup vs=>exact absurd rfl (hnt vs)
def Uf {y:Operand} {s:Sv} {ts:List Ty} {m:List Lf} {us:List Up} (h:N7 A y s ts=some (m,us)):m.length=(parts s).length:=by
 unfold N7 at h;split at h
 ·rename_i m0 vs0 ht;cases hst:A3 m0
  ·rw[hst]at h;simp at h
  rw[hst]at h;simp only[cond_true,Vc,Vu]at h;obtain⟨rfl,_⟩:=h;exact(Ia _ _ ht).1
 ·cases h
def I7 {m:List Lf} (h:A3 m=true):∀ k,.hd k∉m:=by
 induction m with
 |nil=>simp
 |cons x l ih=>
  intro k hk;rcases Vk.1 hk with rfl|hk
  ·simp[A3]at h
  ·exact ih (by cases x<;>first|(simp[A3]at h;done)|simpa[A3] using h) k hk
def Xm {p:Nat}:∀ (U:List Up) (A0:Ab),Doa p U=true→get (ups A0 U) p=get A0 p
 |[],A0,_=>rfl
 |u::U,A0,hU=>by
  simp only[Doa,Va,Wi]at hU;show get (ups (up A0 u) U) p=_;rw[Xm U _ hU.2,Il,Aa];intro e2;rw[e2]at hU;simp at hU
def O0a.setAll {P:Program} {G:Nat→Prop} {w:World} {l m:List Lf} {cs us:List Value} {off:Nat} (h:Hw (Ha P G w) l cs) (hm:Hw (Ha P G w) m us):
  Hw (Ha P G w) (Vf.setAll l off m) (cs.take off++us++cs.drop (off+us.length)):=by
 unfold Vf.setAll;rw[hm.len];exact((h.take off).append hm).append (h.drop _)
def Epa {P:Program} {O:Nat→Lab} {w:World} {p:Nat} {e:TypeId} {r':Ty} {xs:List r'.den} {u:Value} {k cap i off:Nat} {cur:Array Value} {m:List Lf} {us:List Value} {z:r'.den}
  (hno:Hh r'=true) (h:Cs P O w (.pl p []) e r' xs u) (hu:u = .slice (some ⟨k,0,none⟩) xs.length cap) (hc:w.heap[k]? = some (.cells cur e (0,0))) (hk:O k = .pl p []) (hi:i<xs.length) (hm:Hw (Ha P (λ k=>O k = .fz) w) m us)
  (hz:mkW r' (Vf.setAll (lvs r' (xs.getD i r'.dflt)) off m)=some z) (hle:off+us.length≤r'.sz):
  i*r'.sz+off+us.length≤cur.size∧Cs P O (w.setRow k (cur.toList.take (i*r'.sz+off)++us++cur.toList.drop (i*r'.sz+off+us.length)).toArray) (.pl p []) e r' (xs.set i z) u:=by
 rw[Cs.flat hno];obtain⟨hs,cs,hrow,hrows,hb⟩:=(Cs.flat hno).1 h;rcases Da hrow with⟨e1,_⟩|⟨k',cap',cur',e1,hcur,h1,h2,h3,h4⟩
 ·rw[hu]at e1;cases e1
 ·rw[hu]at e1;cases e1;rw[hc]at hcur;cases hcur;have hlt:(i+1)*r'.sz≤xs.length*r'.sz:=Wa _ hi;have hcl:cs.length=xs.length*r'.sz:=hrow.1;have hcap:xs.length*r'.sz≤cap*r'.sz:=Wa _ h1;rw[Yh,Ym]at hlt;have hget:=hrows.get (Ty.rep_len r') i (xs.getD i r'.dflt) (by rw[Vn,Vs hi];rfl);have hnew:=Pf hz (O0a.setAll (off:=off) (Jf _ _ _ hget) hm);have hrows2:=hrows.set (Ty.rep_len r') i z _ hi hnew;rw[← Kia (by omega) (by omega)]at hrows2;refine⟨by omega,hs,_,⟨?_,.inr ⟨k,cap,_,by rw[Yl];exact hu,Wf _,setRow_heap _ _ _ _ _ _ hc,by rw[Yl];exact h1,h2,?_,?_⟩⟩,hrows2.mono (λ x c=>Ty.rep_mono (λ _ h=>h) (λ j hj=>setRow_other _ _ _ _ (λ e=>by have:O k = .fz:=e ▸ hj;rw[hk]at this;cases this)) r' x c),hb⟩
  ·simp only[Vh,Vl,Vy,Yl];omega
  ·simp only[Ria,Vh,Vl,Vy,Yi];omega
  ·rw[Yl,← h4];exact Pm (n:=xs.length*r'.sz) (by omega) (by have h9:cur.toList.length=cur.size:=Yi;omega)
def Ah.rewrite (K:Ah X S a) {p n k:Nat} {e:TypeId} {r':Ty} {xs ys:List r'.den} {w':World} (hno:Hh r'=true) (hp:S.g p=(n,.one (.own e r' xs))) (hk:S.O k = .pl p []) (hold:∀ j o',S.O j=o'→o' ≠ .pl p []→w'.heap[j]? = S.w.heap[j]?)
  (hsz:w'.heap.size=S.w.heap.size) (h1:w'.os=S.w.os) (h2:w'.tape=S.w.tape) (h3:w'.output=S.w.output) (hown:Cs X.P S.O w' (.pl p []) e r' ys (S.ph p)) (hlen:ys.length=xs.length):
  Ah X { S with g:=upd S.g p (n,.one (.own e r' ys)),w:=w' } a∧({ S with g:=upd S.g p (n,.one (.own e r' ys)),w:=w' }:Sit).g=upd S.g p (n,.one (.own e r' ys)):=by
 have L:Ct S { S with g:=upd S.g p (n,.one (.own e r' ys)),w:=w' }:=by
  refine⟨λ q=>?_,λ _ _=>rfl,λ q v e2 r2 xs' hq hv=>?_,λ _ _=>rfl,λ j hj=>⟨hj,hold j _ hj (by simp)⟩,Ct.box_of (λ b m hv hh=>?_) (λ j b h=>⟨h,hold j _ h (by simp)⟩),λ q hv hd=>?_,λ _ _=>rfl⟩
  ·show _≤(upd S.g p _ q).1
   by_cases h:q=p
   ·subst h;rw[A9,hp];exact Vq _
   ·rw[Aa _ _ h];exact Vq _
  ·have hq':upd S.g p (n,.one (.own e r' ys)) q=(v,.one (.own e2 r2 xs')):=hq
   by_cases h:q=p
   ·subst h;rw[A9]at hq';cases hq';exact⟨xs,hp,hlen.symm⟩
   ·rw[Aa _ _ h]at hq';exact⟨xs',hq',rfl⟩
  ·have hb:H b≠p:=λ e=>by subst e;rw[hp]at hh;cases hh
   exact(congrArg Prod.snd (Aa _ _ hb)).trans hh
  ·have h:q≠p:=λ e=>by subst e;rw[hp]at hd;simp[Xd,I0a,hno]at hd
   have e1:({ S with g:=upd S.g p (n,.one (.own e r' ys)),w:=w' }:Sit).g q=S.g q:=Aa _ _ h;rw[e1];exact⟨hd,λ _ _ _ h=>h,λ k hk=>⟨.inl hk,hold k _ hk (by simp[h])⟩⟩
 have F:=K.fr;refine⟨⟨K.nt,λ j hj=>by rw[show ({ S with g:=upd S.g p (n,.one (.own e r' ys)),w:=w' }:Sit).w=w' from rfl,hsz];exact K.lt j hj,λ l=>?_,λ b m hb=>?_,λ b m hb=>?_,K.sl,K.sz,K.df,⟨h1.trans F.os,h2.trans F.tape,h3.trans F.out,by rw[show ({ S with g:=upd S.g p (n,.one (.own e r' ys)),w:=w' }:Sit).w=w' from rfl,hsz];exact F.size,λ j hj h0=>?_,λ j hj h0=>?_,λ j b hj h0=>?_⟩,K.io⟩,rfl⟩
 ·show Gi X.P _ l (upd S.g p _ l).2 _
  by_cases h:l=p
  ·subst h;rw[A9];exact hown
  ·rw[Aa _ _ h];exact(K.at_ l).later L (λ q j hj=>⟨hj,hold j _ hj (by simp[h])⟩)
 ·have hne:H b≠p:=by
   intro e2;have:(upd S.g p (n,.one (.own e r' ys)) (H b)).2 = .one (.hd m):=hb;rw[e2,A9]at this;cases this
  have hb':(S.g (H b)).2 = .one (.hd m):=by
   have:(upd S.g p (n,.one (.own e r' ys)) (H b)).2 = .one (.hd m):=hb;rwa [Aa _ _ hne]at this
  obtain⟨hn,c,e1,e2,e3,e4⟩:=K.box b m hb';exact⟨hn,c,e1,(hold _ _ e3 (by simp)).trans e2,e3,e4⟩
 ·have hne:H b≠p:=by
   intro e2;have:(upd S.g p (n,.one (.own e r' ys)) (H b)).2 = .one (.hd m):=hb;rw[e2,A9]at this;cases this
  have hb':(S.g (H b)).2 = .one (.hd m):=by
   have:(upd S.g p (n,.one (.own e r' ys)) (H b)).2 = .one (.hd m):=hb;rwa [Aa _ _ hne]at this
  exact K.rgn b m hb'
 ·obtain⟨f1,f2⟩:=F.no j hj h0;exact⟨f1,(hold j _ f1 (by simp)).trans f2⟩
 ·obtain⟨f1,f2⟩:=F.fz j hj h0;exact⟨f1,(hold j _ f1 (by simp)).trans f2⟩
 ·obtain⟨f1,c,c',e1,f,f2,f3,f4,f5⟩:=F.bx j b hj h0;exact⟨f1,c,c',e1,f,f2,(hold j _ f1 (by simp)).trans f3,f4,f5⟩
def Iga (hE:Gx X E) (K:Ah X S a) (hg:S.g=get A) {T:TypeId} {x y:Operand} (ho:o.op = .store T x y) (hod:o.dst=none) (h:Ai E o A Kc=some r):Fw X o a S.w A Kc r:=by
 unfold Ai at h;rw[ho,hod]at h;simp only at h
 have skip:∀ {S2:Sit} {w:World} {A':Ab},(execOp a.eval o).run X.P w = .ok .skip S2.w→Ah X S2 a→S2.g=get A'→E7a X o a w A':=by
  intro S2 w A' hr K2 hg2;refine E8a hr ?_ hg2;rw[hod];exact K2
 split at h
 ·rename_i ti b v off s hti hsx hsy;obtain⟨pl,hsv⟩:=Fc hE K hg hsx;have hlf:Af X.P S (.pl pl []) (.bp b v off) (a.eval x):=hsv
  cases hmv:mvO E y with
  |true=>
   rw[hmv,cond_true]at h;split at h
   ·rename_i m vs hgive;split at h
    ·rename_i n hd hp;rw[csi]at h;obtain⟨hq,h⟩:=h;simp only[Va]at hq;obtain⟨⟨q1,q3⟩,q4⟩:=hq
     have hnv:n=v:=by simpa using q1
     have hle:off+ti.ty.sz≤hd:=Ve q4;have hlen:m.length=ti.ty.sz:=Vb q3;subst hnv;have ht:=hE.ti _ _ hti;have hnt:=L5 (X:=X) (s:=s) (Uf hgive) hlen ht
     have hh:(S.g (H b)).2 = .one (.hd hd):=by rw[hg,hp]
     obtain⟨S1,K1,g1,G1,q2,_,us,hsh,hls⟩:=Aka hE K hg (.inl hsy) hnt hgive 0
     have hh1:(S1.g (H b)).2 = .one (.hd hd):=by rw[G1.heads b hd hh];exact hh
     obtain⟨_,c,e,c1,c2,c3,c4⟩:=K1.box b hd hh1
     have hpt:a.eval x = .pointer (some ⟨(S1.bb b).1,(S1.bb b).2+off,none⟩):=by rw[G1.bb];exact hlf.2 (by rw[hg,hp])
     have hul:=hls.len;have hone:=Ki q2 hls;obtain⟨K2,L2⟩:=K1.cells (b:=b) (off:=off) hh1 (by rw[hlen];exact hle) c1 hls (Ana (Uf hgive) hnt) (I7 q2);have hr:=Jk (w:=S1.w) ht ho hpt rfl (Ge hsh hnt hone) (hul.trans hlen) c1 (by omega) hone;refine⟨_,h,skip (by rw[← G1.w];exact hr) K2 ?_⟩;show Ji S1.g b off _=_;rw[Ae,Gz,← g1]
    ·cases h
   ·cases h
  |false=>
  rw[hmv,cond_false]at h;split at h
  ·rename_i n hd hp;rw[csi]at h;obtain⟨hq,h⟩:=h;simp only[Va]at hq;obtain⟨⟨⟨q1,q2⟩,q3⟩,q4⟩:=hq
   have hnv:n=v:=by simpa using q1
   have hle:off+ti.ty.sz≤hd:=Ve q4;have hlen:((parts s).map (Hn A)).length=ti.ty.sz:=Vb q3;subst hnv;have ht:=hE.ti _ _ hti;have hnt:=L5 (X:=X) (s:=s) (by simp) hlen ht
   have hh:(S.g (H b)).2 = .one (.hd hd):=by rw[hg,hp]
   obtain⟨S1,K1,g1,w1,b1,p1,L1,x1,heads,_,us,hsh,hls⟩:=Ega hE K hg hsy hnt 0
   have hh1:(S1.g (H b)).2 = .one (.hd hd):=by rw[(heads b).2 hd hh];exact hh
   obtain⟨_,c,e,c1,c2,c3,c4⟩:=K1.box b hd hh1
   have hpt:a.eval x = .pointer (some ⟨(S1.bb b).1,(S1.bb b).2+off,none⟩):=by rw[b1];exact hlf.2 (by rw[hg,hp])
   have hul:=hls.len;obtain⟨hone,hnohd⟩:=Eoa g1 q2 hls;obtain⟨K2,L2⟩:=K1.cells (b:=b) (off:=off) hh1 (by rw[hlen];exact hle) c1 hls (Ana (by simp) hnt) hnohd;have hr:=Jk (w:=S1.w) ht ho hpt rfl (Ge hsh hnt hone) (hul.trans hlen) c1 (by omega) hone;refine⟨_,h,skip (by rw[← w1];exact hr) K2 ?_⟩;show Ji S1.g b off _=_;rw[Ae,Gz,← g1]
  ·cases h
 ·rename_i ti p v i off s hti hsx hsy;obtain⟨pl,hsv⟩:=Fc hE K hg hsx;have hlf:Af X.P S (.pl pl []) (.ep p v i off) (a.eval x):=hsv;split at h
  ·rename_i n e r' xs hp;rw[csi]at h;obtain⟨hq,h⟩:=h;simp only[Va]at hq;obtain⟨⟨⟨⟨⟨q1,hno⟩,q2⟩,q3⟩,q4⟩,q5⟩:=hq
   have hnv:n=v:=by simpa using q1
   have hlen:((parts s).map λ x=>Iu (Hn A x)).length=ti.ty.sz:=Vb q3;have hle:off+((parts s).map λ x=>Iu (Hn A x)).length≤r'.sz:=Ve q4;subst hnv;split at h
   ·rename_i z hz;have ht:=hE.ti _ _ hti;have hnt:=L5 (X:=X) (s:=s) (by simp) hlen ht;obtain⟨S1,K1,g1,w1,b1,p1,L1,x1,heads,_,us,hsh,hls⟩:=Ega hE K hg hsy hnt 0;have hul:=hls.len;have hone:=Ki q2 hls;have hrep:=Mh q2 hls;rw[Rla]at hrep;rw[Yk]at hul hlen hle
    obtain⟨K2,L2⟩:=K1.names (Ama 0) (by intro n q;unfold Ama;split<;>simp)
    have L12:=L1.trans L2
    have hp2:({ S1 with O:=atO S1.O (Ama 0) }:Sit).g p=(n,.one (.own e r' xs)):=by
     show S1.g p=_;rw[g1,Xm _ _ q5,hp]
    have hlf2:Af X.P { S1 with O:=atO S1.O (Ama 0) } .fz (.ep p n i off) (a.eval x):=(Af.relab (lab' := .fz) rfl hlf).later L12 (λ k hk=>L12.fz k hk);obtain⟨k,_,cur,cap,e1,_,_,hi,e4,e5,e6⟩:=Aha K2 hno hp2 hlf2
    have hown:Cs X.P (atO S1.O (Ama 0)) S1.w (.pl p []) e r' xs (S1.ph p):=by
     have h0:=K2.at_ p;rw[hp2]at h0;exact h0
    obtain⟨hsz,hown3⟩:=Epa (us:=us) hno hown e4 e5 e6 hi hrep hz (by omega);have hr:=Jk (w:=S1.w) ht ho e1 rfl (Ge hsh hnt hone) (by omega) e5 hsz hone;have hold:∀ j,j≠k→(S1.w.setRow k (cur.toList.take (i.toNat*r'.sz+off)++us++cur.toList.drop (i.toNat*r'.sz+off+us.length)).toArray).heap[j]? = S1.w.heap[j]? := λ j hj=>setRow_other _ _ _ _ hj;have hne:∀ j o',atO S1.O (Ama 0) j=o'→o' ≠ .pl p []→(S1.w.setRow k (cur.toList.take (i.toNat*r'.sz+off)++us++cur.toList.drop (i.toNat*r'.sz+off+us.length)).toArray).heap[j]? = S1.w.heap[j]? := λ j o' hj ho'=>hold j (λ e=>ho' (by rw[← hj,e];exact e6));obtain⟨K3,g3⟩:=K2.rewrite hno hp2 e6 hne (by simp[World.setRow]) rfl rfl rfl hown3 (by simp);refine⟨_,h,skip (by rw[← w1];exact hr) K3 ?_⟩;rw[g3,Ae,Kt,← g1];show upd S1.g p _=_;congr 1;have:S1.g p=(n,.one (.own e r' xs)):=hp2;rw[this]
   ·cases h
  ·cases h
 ·rename_i ti p v q e r1 xs i off s hti hsx hsy;obtain⟨pl,hsv⟩:=Fc hE K hg hsx;obtain⟨hd',hda,hdp⟩:Af X.P S (.pl pl []) (.dp p v (some q) e r1 xs i off) (a.eval x):=hsv;split at h
  ·rename_i m us hgive;split at h
   ·rename_i n E0 R0 XS hp;rw[csi]at h;obtain⟨hq,h⟩:=h;simp only[Va]at hq;obtain⟨⟨⟨⟨⟨q1,q2⟩,q3⟩,q4⟩,q5⟩,q6⟩:=hq;have hnv:n=v:=Vb q1;have hlen:m.length=ti.ty.sz:=Vb q3;have hle:off+m.length≤r1.sz:=Ve q4;subst hnv;split at h
    ·rename_i z hz;split at h
     ·rename_i XS' hput;have ht:=hE.ti _ _ hti;have hnt:=L5 (X:=X) (s:=s) (Ot hgive) hlen ht;obtain⟨S1,K1,g1,G1,uv,hsh,hl⟩:=Ela hE K hg hsy hnt hgive 0
      have hp0:S.g p=(n,.one (.own E0 R0 XS)):=by rw[hg,hp]
      have hp1:S1.g p=(n,.one (.own E0 R0 XS)):=by rw[g1,Xm _ _ q5,hp]
      obtain⟨k,j,cur,e0,e1,e2,e3,K3⟩:=Cga (u:=a.eval x) K1 hp1 (hda.later G1.later) (hdp (by rw[hp0])) q6 q2 hl (Ema hnt (Ot hgive)) hz hle hput;have hone:=Ki (Iv q2) hl;have hul:=hl.len;have hr:=Jk (w:=S1.w) ht ho e1 rfl (Ge hsh hnt hone) (hul.trans hlen) e2 e3 hone;refine⟨_,h,skip (by rw[← G1.w];exact hr) K3 ?_⟩;show upd S1.g p _=_;rw[Ae,A8,← g1,hp1]
     ·cases h
    ·cases h
   ·cases h
  ·cases h
 ·cases h
end
end

section
attribute [local irreducible] C H
section
variable {X:Cx} {S S':Sit} {a:Act} {E:En} {A:Ab} {o:Oper} {R:Type} {Kc:List Up→Option R} {r:R}
def Mi:∀ t:Ty,(Qo t).length=t.sz
 |.i _=>rfl
 |.b=>rfl
 |.s=>rfl
 |.sl _ _=>rfl
 |.ow _ _=>rfl
 |.pr x y=>by show (Qo x++Qo y).length=x.sz+y.sz;rw[Vh,Mi x,Mi y]
def He:∀ t:Ty,A3 (Qo t)=true
 |.i _=>rfl
 |.b=>rfl
 |.s=>rfl
 |.sl _ _=>rfl
 |.ow _ _=>rfl
 |.pr x y=>by
  have app:∀ l m,A3 l=true→A3 m=true→A3 (l++m)=true:=by
   intro l m hl hm
   induction l with
   |nil=>exact hm
   |cons x l ih=>cases x<;>first|(simp[A3]at hl;done)|exact ih (by simpa[A3] using hl)
  exact app _ _ (He x) (He y)
def Mj {P:Program}:∀ (t:Ty),szB P t=true→∀ (f:Nat→Lab) (j:Nat),A5 P S f j (Qo t) (Dk t)
 |.i _,_,_,_=>⟨⟨rfl,rfl⟩,trivial⟩
 |.b,_,_,_=>⟨⟨rfl,rfl⟩,trivial⟩
 |.s,_,_,_=>⟨⟨rfl,rfl⟩,trivial⟩
 |.sl e r,h,f,j=>⟨S4 (by simp only[szB,Va,beq_iff_eq]at h;exact h.1),trivial⟩
 |.ow e r,h,f,j=>⟨S4 (by simp only[szB,Va,beq_iff_eq]at h;exact h.1),trivial⟩
 |.pr x y,h,f,j=>by
  simp[szB]at h;exact A5.app (Mj x h.1 f j) (Mj y h.2 f _)
def Ml {P:Program} {w:World} {T:TypeId} {t:TI} (h:TOk P T t):∃ v,(zeroValue T).run P w = .ok v w∧v.cells=(Dk t.ty).toArray∧(if t.ag then v = .agg (Dk t.ty).toArray else Dk t.ty=[v]):=by
 obtain⟨i,h1,h2,h3,h4,h5⟩:=h.info;refine⟨if t.ag then .agg (Dk t.ty).toArray else (Dk t.ty).headD undef,?_,?_,?_⟩
 ·simp[zeroValue,typeInfo,h1,h4]
 ·cases ha:t.ag
  case true=>rfl
  rw[if_neg (by simp)];have h6:=h5 ha;have hone:=Ki (S:=⟨λ _ => .no,λ _=>(0,0),λ _=>(0,.one .dead),λ _=>undef,w⟩) (He t.ty) (Mj t.ty h.sz (λ _ => .no) 0);generalize (Dk t.ty).headD undef=v at h6;rw[h6]at hone ⊢;have:=hone v (by simp)
  cases v<;>first|(simp[Value.oneCell']at this;done)|rfl
 ·cases ha:t.ag with
  |true=>rfl
  |false=>exact h5 ha
def Eqa (K:Ah X S a) {A1:Ab} (hg:S.g=get A1) {T:TypeId} {m:List Lf} {us:List Value} {q:Nat→List Nat} {d:Nat} (hd:d<X.nt) (hl:A5 X.P S (λ j => .tm 0 (q j)) 0 m us)
  (hq:∀ j,j<m.length→Ql d 0 0 (q j)=some (.pl (C d (0+j)) [])) (hm:m.length<999) (hst:∀ k,.hd k∉m) (hnp:X.np≤d):
  ∃ S',Ah X S' (a.put (some d) (.pointer (some ⟨S.w.heap.size,0,none⟩)))∧S'.w=S.w.alloc (.cells us.toArray T)∧
   S'.g=get (ups A1 (⟨H d,false,.one (.hd m.length)⟩::Bo d 0 m++[⟨d,false,.one (.bp d ((get A1 (H d)).1+1) 0)⟩])):=by
 have hlen:=hl.len;have hd1:d<1000:=Wm hd K.nt
 obtain⟨K1,L1⟩:=K.grow (w':=S.w.alloc (.cells us.toArray T)) (row:=none) (O':=λ k=>if k=S.w.heap.size then .tm 1 [] else S.O k) (World.grownBy_alloc _ _ _) (by simp)
  (λ k hk _=>by show (if k=S.w.heap.size then _ else _)=_;rw[if_neg (by omega)])
  (λ k hk=>by
   show k<(S.w.heap.push _).size;rw[Array.size_push]
   by_cases h:k=S.w.heap.size
   ·omega
   ·simp only[h,if_false]at hk;have:=K.lt k hk
    omega)
 have hl1:A5 X.P (Og S (S.w.alloc (.cells us.toArray T)) (λ k=>if k=S.w.heap.size then .tm 1 [] else S.O k)) (λ j => .tm 0 (q j)) 0 m us:=by
  refine hl.imp (λ j x u hx=>hx.later L1 (λ k hk=>?_));have hkl:k<S.w.heap.size:=K.lt k (by simp[hk]);refine⟨?_,heap_alloc_old _ _ _ hkl⟩;show (if k=S.w.heap.size then _ else _)=_;rw[if_neg (by omega)];exact hk
 obtain⟨K2,L2⟩:=K1.newbox (d:=d) (k:=S.w.heap.size) (o:=0) (n0:=1) (l0:=[]) (by show (if _ then _ else _)=_;rw[if_pos rfl]) (by decide) K.fr.size (heap_alloc_new _ _) (by simp[hlen]) (by intro j hj;simp) hl1 hq hm hst hnp hd1
 have hv:((Wz (Og S (S.w.alloc (.cells us.toArray T)) (λ k=>if k=S.w.heap.size then .tm 1 [] else S.O k)) d S.w.heap.size 0 m us).g (H d)).1=(S.g (H d)).1+1:=by
  show (Ji (upd S.g (H d) _) d 0 m (H d)).1=_;unfold Ji;rw[if_neg (E9 (by omega)),A9];rfl
 have K3:=K2.put0 hd (.one (.bp d ((S.g (H d)).1+1) 0)) (.pointer (some ⟨S.w.heap.size,0,none⟩)) 0 rfl ⟨by rw[hv];exact Vq _,λ _=>by
  show Value.pointer _ = .pointer (some ⟨(upd S.bb d (S.w.heap.size,0) d).1,(upd S.bb d (S.w.heap.size,0) d).2+0,none⟩)
  rw[A9]⟩
 have e1:(Wz (Og S (S.w.alloc (.cells us.toArray T)) (λ k=>if k=S.w.heap.size then .tm 1 [] else S.O k)) d S.w.heap.size 0 m us).g=get (ups A1 (⟨H d,false,.one (.hd m.length)⟩::Bo d 0 m)):=by
  show Ji (upd S.g (H d) ((S.g (H d)).1+1,.one (.hd m.length))) d 0 m=get (ups (up A1 ⟨H d,false,.one (.hd m.length)⟩) (Bo d 0 m));rw[Gz,Il,← hg];rfl
 refine⟨_,K3,rfl,?_⟩;show upd (Wz (Og S (S.w.alloc (.cells us.toArray T)) (λ k=>if k=S.w.heap.size then .tm 1 [] else S.O k)) d S.w.heap.size 0 m us).g d _=_;rw[Ae,A8,← e1,← hg]
def Iha (hE:Gx X E) (K:Ah X S a) (hg:S.g=get A) {T:TypeId} {d:Nat} (ho:o.op = .alloc T) (hod:o.dst=some d) (hd:d<X.nt) (h:Ai E o A Kc=some r):Fw X o a S.w A Kc r:=by
 unfold Ai at h;rw[ho,hod]at h;simp only at h;split at h
 ·rename_i ti hti;obtain⟨hq,h⟩:=cs h;simp only[Va]at hq;have hlt:ti.ty.sz<999:=Ve hq.1;have hnp:X.np≤d:=hE.np ▸ (Ve hq.2);have ht:=hE.ti _ _ hti;obtain⟨v,h1,h2,_⟩:=Ml (w:=S.w) ht;obtain⟨S',K',w',g'⟩:=Eqa K hg (T:=T) (m:=Qo ti.ty) (us:=Dk ti.ty) (q:=λ j=>[j]) hd (Mj ti.ty ht.sz _ 0) (λ j hj=>rfl) (by rw[Mi];exact hlt) (I7 (He _)) hnp;rw[Mi]at g';refine⟨_,h,Ac (S:=S') (v := .pointer (some ⟨S.w.heap.size,0,none⟩)) ?_ (by rw[hod];exact K') g'⟩;rw[w'];unfold execOp;simp[ho,Instr.alloc,h1,newVar,newRow,h2]
 ·cases h
def Mm:∀ {l:List Lf},Dc A l=true→Db l=false
 |[],_=>rfl
 |x::l,h=>by
  have rest:Dc A l=true:=by
   cases x<;>first|(simp[Dc]at h;done)|(simp only[Dc,Va]at h;exact h.2)|simpa[Dc] using h
  cases x<;>first|(simp[Dc]at h;done)|exact Mm (l:=l) rest
def Era (K:Ah X S a) (hg:S.g=get A) {f:Nat→Lab}:∀ {l:List Lf} {j:Nat} {us:List Value},Dc A l=true→A5 X.P S f j l us→(∀ u∈us,u.oneCell'=true)∧∀ k,.hd k∉l
 |[],_,[],_,_=>by simp
 |[],_,_::_,_,h=>h.elim
 |_::_,_,[],_,h=>h.elim
 |x::l,j,u::us,hst,h=>by
  have rest:Dc A l=true:=by
   cases x<;>first|(simp[Dc]at hst;done)|(simp only[Dc,Va]at hst;exact hst.2)|simpa[Dc] using hst
  obtain⟨r1,r2⟩:=Era K hg rest h.2;refine⟨λ v hv=>?_,λ k hk=>?_⟩
  ·rcases Vk.1 hv with hv|hv
   ·rw[hv];have one:A3 [x]=true→u.oneCell'=true:=λ hs=>Ki (P:=X.P) (S:=S) (f:=f) (l:=[x]) (j:=j) (us:=[u]) hs ⟨h.1,trivial⟩ u (by simp)
    cases x with
    |al p v=>
     simp only[Dc,Va]at hst;obtain⟨lab',h4⟩:=Lv K hg h.1;have h3:=hst.1;split at h3
     ·rename_i hs;rw[hs]at h4;obtain⟨ad,cap,e1⟩:=Nc (X:=X) h4;rw[e1];rfl
     ·rename_i hs;rw[hs]at h4;obtain⟨ad,cap,e1⟩:=Pi (X:=X) h4;rw[e1];rfl
     ·cases h3
    |sc w=>exact one rfl
    |fz e r xs=>exact one rfl
    |_=>simp[Dc]at hst
   ·exact r1 v hv
  ·rcases Vk.1 hk with rfl|hk
   ·simp[Dc]at hst
   ·exact r2 k hk
def O1a (hE:Gx X E) (K:Ah X S a) (hg:S.g=get A) {T:TypeId} {x:Operand} {d:Nat} (ho:o.op = .box T x) (hod:o.dst=some d) (hd:d<X.nt) (h:Ai E o A Kc=some r):Fw X o a S.w A Kc r:=by
 unfold Ai at h;rw[ho,hod]at h;simp only at h;split at h
 ·rename_i ti s hti hs
  cases hmv:mvO E x with
  |true=>
   rw[hmv,cond_true]at h;obtain⟨hq,h⟩:=cs h;simp only[Va]at hq;obtain⟨⟨⟨q1,q2⟩,q3⟩,q4⟩:=hq;have hnp:X.np≤d:=hE.np ▸ (Ve q4);have hlt:ti.ty.sz<999:=Ve q3;have hlen:(parts s).length=ti.ty.sz:=Vb q2;have ht:=hE.ti _ _ hti;have hnt:=L5 (X:=X) (s:=s) rfl hlen ht;obtain⟨pl,hsv⟩:=Fc hE K hg hs;have hown:=Mm q1
   obtain⟨us,hsh,hls⟩:∃ us,Nf s (a.eval x) us∧A5 X.P S (λ n => .tm 0 (pth s n)) 0 (parts s) us:=by
    cases s with
    |one y=>exact⟨[_],rfl,A5.relab (f:=λ _ => .pl pl []) (xs:=[y]) hown ⟨hsv,trivial⟩⟩
    |agg l=>
     obtain⟨us,e1,e2⟩:=hsv;exact⟨us,e1,e2.relab hown⟩
    |tup vs=>exact absurd rfl (hnt vs)
   obtain⟨hone,hnohd⟩:=Era K hg q1 hls;obtain⟨S',K',w',g'⟩:=Eqa K hg (T:=T) hd hls (Ana rfl hnt) (by rw[hlen];exact hlt) hnohd hnp;rw[hlen]at g';refine⟨_,h,Ac (S:=S') (v := .pointer (some ⟨S.w.heap.size,0,none⟩)) ?_ (by rw[hod];exact K') g'⟩;rw[w'];unfold execOp;simp[ho,Instr.box,newVar,newRow,Ge hsh hnt hone]
  |false=>
  rw[hmv,cond_false]at h;obtain⟨hq,h⟩:=cs h;simp only[Va]at hq;obtain⟨⟨⟨q1,q2⟩,q3⟩,q4⟩:=hq;have hnp:X.np≤d:=hE.np ▸ (Ve q4);have hlt:ti.ty.sz<999:=Ve q3;have hlen:((parts s).map (Hn A)).length=ti.ty.sz:=Vb q2;have ht:=hE.ti _ _ hti;have hnt:=L5 (X:=X) (s:=s) (by simp) hlen ht;obtain⟨S1,K1,g1,w1,b1,p1,L1,x1,heads,_,us,hsh,hls⟩:=Ega hE K hg hs hnt 0;obtain⟨S',K',w',g'⟩:=Eqa K1 g1 (T:=T) hd hls (Ana (by simp) hnt) (by rw[hlen];exact hlt) (I7 q1) hnp
  have hv:(get (ups A (H7 A (parts s)++gone x s)) (H d)).1=(get A (H d)).1:=by rw[← g1,← hg];exact(heads d).1
  rw[hv,hlen,← Ae]at g';refine⟨_,h,Ac (S:=S') (v := .pointer (some ⟨S1.w.heap.size,0,none⟩)) ?_ (by rw[hod];exact K') g'⟩;rw[w',w1];unfold execOp;simp[ho,Instr.box,newVar,newRow,Ge hsh hnt (Ki q1 hls)]
 ·cases h
def Aoa:∀ (us:List Value) (n off:Nat) (cells:Array Value),off+n+us.length≤cells.size→
  (us.zipIdx n).foldl (λ cs (x:Value×Nat)=>cs.setIfInBounds (off+x.2) x.1) cells=(cells.toList.take (off+n)++us++cells.toList.drop (off+n+us.length)).toArray
 |[],n,off,cells,h=>by simp
 |c::us,n,off,cells,h=>by
  simp only[Vg]at h;simp only[List.zipIdx_cons,T1a];rw[Aoa us (n+1) off _ (by simp;omega)]
  have hlt:off+n<cells.toList.length:=by rw[Yi];omega
  congr 1;rw[Array.toList_setIfInBounds]
  have e1:(cells.toList.set (off+n) c).take (off+(n+1))=cells.toList.take (off+n)++[c]:=by
   rw[← Ys,List.take_add_one,List.getElem?_set_self hlt,List.take_set_of_le (Vq _)];rfl
  have e2:(cells.toList.set (off+n) c).drop (off+(n+1)+us.length)=cells.toList.drop (off+n+(c::us).length):=by
   rw[List.drop_set_of_lt (by omega)];congr 1;simp only[Vg];omega
  rw[e1,e2];simp
def Mn {place:Nat→Option (Nat×Nat)} {cells:Array Value} {i off z:Nat} {v:Value} {us:List Value} {rest:List (Nat×Value)} (hp:place i=some (off,z)) (hv:v.cells=us.toArray) (hz:us.length=z) (hle:off+z≤cells.size):
  Instr.fill place cells ((i,v)::rest)=Instr.fill place (cells.toList.take off++us++cells.toList.drop (off+z)).toArray rest:=by
 subst hz;have hf:=Aoa us 0 off cells (by omega);simp only[Yu]at hf;simp only[Instr.fill,hp,hv,Ria];rw[if_neg (by simp;omega)];congr 1;rw[← hf];simp
def Po (off:Nat):Nat→List Nat→Option Lab:=λ n q=>if n=1 then (match q with
 |[]=>some (.tm 0 [off])
 |[j]=>some (.tm 0 [off+j])
 |_=>none) else none
def Iia (off:Nat):∀ n q,Po off n q≠some .no:=by
 intro n q;unfold Po;split
 ·split<;>simp
 ·simp
def Lqa {s:Sv} {off:Nat} {m:List Lf} (hm:m.length=(parts s).length) (hnt:∀ vs,s ≠ .tup vs):∀ j,j<m.length→Po off 1 (pth s j)=some (.tm 0 [off+j]):=by
 intro j hj
 cases s with
 |one x=>
  have:j=0:=by simp[parts]at hm;omega
  subst this;rfl
 |agg l=>rfl
 |tup vs=>exact absurd rfl (hnt vs)
def Esa {s:Sv} {m:List Lf} {z:Nat} (hm:m.length=(parts s).length) (h:m.length=z) (hz:0<z):∀ vs,s ≠ .tup vs:=by
 intro vs e;subst e;simp[parts]at hm;simp[hm]at h;omega
def Pp (hE:Gx X E) {T:TypeId} {t:TI} (ht:TOk X.P T t) {fs:Array Field} (hfs:I1 X.P fs.toList t.fo=true) (places:List (Nat×Nat)) (hpl:∀ i o,nth t.fo i=some o→places[i]? = some (o.1,o.2.1)):
  ∀ (ps:List (Nat×Operand)) {S:Sit} {A:Ab} {l:List Lf} {us0:List Up} {cs:List Value} {l':List Lf} {us':List Up},Ah X S a→S.g=get A→A5 X.P S (λ j => .tm 0 [j]) 0 l cs→A3 l=true→Iy E A t l us0 ps=some (l',us')→
  ∃ S' U cs',us'=us0++U∧Ah X S' a∧S'.g=get (ups A U)∧S'.w=S.w∧A5 X.P S' (λ j => .tm 0 [j]) 0 l' cs'∧l'.length=l.length∧
   Instr.fill (places.toArray[·]?) cs.toArray (ps.map λ p=>(p.1,a.eval p.2))=some cs'.toArray
 |[],S,A,l,us0,cs,l',us',K,hg,hl,hst,h=>by
  simp only[Iy,Vc,Vu]at h;obtain⟨rfl,rfl⟩:=h;exact⟨S,[],cs,by simp,K,hg,rfl,hl,rfl,rfl⟩
 |(i,x)::ps,S,A,l,us0,cs,l',us',K,hg,hl,hst,h=>by
  simp only[Iy]at h;split at h
  ·cases h
  ·rename_i off z ag hn;have hpi:=hpl i _ hn;obtain⟨fd,_,_,_,hz0,_⟩:=Ku hfs hn;simp only at hz0;have hlen:=hl.len;split at h
   ·-- the literal nil
    rw[csi]at h;obtain⟨hb,h⟩:=h;have hz1:z=1:=Vb hb;subst hz1;split at h
    ·rename_i e r' hleaf;rw[Fy]at hleaf;have hoff:off<l.length:=(Wh.1 hleaf).1
     have hl2:A5 X.P S (λ j => .tm 0 [j]) 0 l (cs.take off++[.slice none 0 0]++cs.drop (off+1)):=by
      have hsz:Pd X.P e r'.sz:=by
       obtain⟨x',u',e1,_,_,e4⟩:=hl.at off hoff;rw[Vn,hleaf]at e1;simp only[Zc]at e1;subst e1;exact Cs.top e4 |>.1
      have h1:=A5.setAll (P:=X.P) (S:=S) (f:=λ j => .tm 0 [j]) (l:=l) (us:=cs) (m:=[.own e r' []]) (ms:=[.slice none 0 0]) (off:=off) (hl.take off) ⟨S4 hsz,trivial⟩ (by have:=hl.drop (off+1);rwa [Wb]at this) (by simp only[T2a];omega)
      have h2:Vf.setAll l off [.own e r' []]=l:=by
       unfold Vf.setAll;rw[Vs hoff]at hleaf;simp only[Vc]at hleaf;rw[← hleaf];simp only[T2a,Vj,Yb];rw[← Yj hoff,Wo]
      rw[h2]at h1;exact h1
     obtain⟨S',U,cs',e1,K',g',w',l1,l2,hf⟩:=Pp hE ht hfs places hpl ps K hg hl2 hst h;refine⟨S',U,cs',e1,K',g',w',l1,l2,?_⟩;rw[Yd,Mn (us:=[.slice none 0 0]) (off:=off) (z:=1) (by simpa using hpi) rfl rfl (by simp;omega)];exact hf
    ·cases h
   ·split at h
    ·rename_i s hs;rw[csi]at h;obtain⟨hq,h⟩:=h;simp only[Va]at hq;obtain⟨⟨q1,q2⟩,q3⟩:=hq;have hmz:((parts s).map (Hn A)).length=z:=Vb q2;have hle:off+z≤l.length:=Ve q3;have hnt:=Esa (s:=s) (by simp) hmz hz0;obtain⟨S1,K1,g1,w1,b1,p1,L1,x1,heads,tms,us,hsh,hls⟩:=Ega hE K hg hs hnt 1;obtain⟨K2,L2⟩:=K1.names (Po off) (Iia off);have hone:=Ki q1 hls;have hul:=hls.len
     have old:∀ j x u,Af X.P S (.tm 0 [j]) x u→Af X.P { S1 with O:=atO S1.O (Po off) } (.tm 0 [j]) x u:=λ j x u hx=>
      (tms 0 [j] x u hx).later L2 (λ k hk=>⟨I6 hk (by simp[Po]),rfl⟩)
     have hl2:=A5.setAll (P:=X.P) (S := { S1 with O:=atO S1.O (Po off) }) (f:=λ j => .tm 0 [j]) (l:=l) (us:=cs) (m:=(parts s).map (Hn A)) (ms:=us) (off:=off)
      ((hl.take off).imp (λ j x u hx=>old j x u hx))
      (by
       have h1:A5 X.P { S1 with O:=atO S1.O (Po off) } (λ j => .tm 0 [off+j]) 0 ((parts s).map (Hn A)) us:=by
        refine A5.impAt (λ n _ n2 x u hx=>?_) hls;exact hx.later L2 (λ k hk=>⟨G6 hk (Lqa (m:=(parts s).map (Hn A)) (by simp) hnt n (by omega)),rfl⟩)
       have shiftBack:∀ (m:List Lf) (us:List Value) (i:Nat),A5 X.P { S1 with O:=atO S1.O (Po off) } (λ j => .tm 0 [off+j]) i m us→A5 X.P { S1 with O:=atO S1.O (Po off) } (λ j => .tm 0 [j]) (off+i) m us:=by
        intro m
        induction m with
        |nil=>intro us i h;cases us<;>first|trivial|exact h.elim
        |cons x m ih=>
         intro us i h
         cases us with
         |nil=>exact h.elim
         |cons u us=>exact⟨h.1,ih us (i+1) h.2⟩
       exact shiftBack _ _ 0 h1)
      (by
       have:=(hl.drop (off+((parts s).map (Hn A)).length)).imp (S' := { S1 with O:=atO S1.O (Po off) }) (f':=λ j => .tm 0 [j]) (λ j x u hx=>old j x u hx)
       rwa [Wb]at this) (by rw[hmz];exact hle)
     have hst2:A3 (Vf.setAll l off ((parts s).map (Hn A)))=true:=by
      have tk:∀ (l:List Lf) n,A3 l=true→A3 (l.take n)=true:=by
       intro l
       induction l with
       |nil=>intro n _;cases n<;>rfl
       |cons x l ih=>
        intro n h
        cases n with
        |zero=>rfl
        |succ n=>cases x<;>first|(simp[A3]at h;done)|exact ih n (by simpa[A3] using h)
      have dr:∀ (l:List Lf) n,A3 l=true→A3 (l.drop n)=true:=by
       intro l
       induction l with
       |nil=>intro n _;cases n<;>rfl
       |cons x l ih=>
        intro n h
        cases n with
        |zero=>exact h
        |succ n=>cases x<;>first|(simp[A3]at h;done)|exact ih n (by simpa[A3] using h)
      have app:∀ l m,A3 l=true→A3 m=true→A3 (l++m)=true:=by
       intro l m hl hm
       induction l with
       |nil=>exact hm
       |cons x l ih=>cases x<;>first|(simp[A3]at hl;done)|exact ih (by simpa[A3] using hl)
      exact app _ _ (app _ _ (tk _ _ hst) q1) (dr _ _ hst)
     obtain⟨S',U,cs',e1,K',g',w',l1,l2,hf⟩:=Pp hE ht hfs places hpl ps K2 g1 hl2 hst2 h;refine⟨S',(H7 A (parts s)++gone x s)++U,cs',by rw[e1,Vj],K',by rw[Ae];exact g',w'.trans w1,l1,l2.trans ?_,?_⟩
     ·unfold Vf.setAll;simp only[Vh,Vl,Vy];omega
     ·rw[Yd,Mn (us:=us) (off:=off) (z:=z) (by simpa using hpi) (Ge hsh hnt hone) (hul.trans hmz) (by simp;omega)];rw[hmz]at hf;exact hf
    ·cases h
def R5 {P:Program} {w:World}:∀ (fs:List Field) (os:List (Nat×Nat×Bool)),I1 P fs os=true→(fs.mapM (λ f=>do pure (f.offset,← sizeOf f.type):Field→Sem (Nat×Nat))).run P w = .ok (os.map λ o=>(o.1,o.2.1)) w
 |[],[],_=>rfl
 |[],_::_,h=>by simp[I1]at h
 |_::_,[],h=>by simp[I1]at h
 |f::fs,o::os,h=>by
  simp only[I1,Va]at h;obtain⟨⟨⟨⟨⟨h1,h2⟩,_⟩,_⟩,_⟩,h5⟩:=h
  have e1:f.offset=o.1:=by simpa using h1
  have e2:(P.info? f.type).map (λ i=>i.size)=some o.2.1:=by simpa using h2
  rw[List.mapM_cons];simp only[Vx,Hb e2,Vw,Wn,R5 fs os h5,e1,Yd]
def Ija (hE:Gx X E) (K:Ah X S a) (hg:S.g=get A) {T:TypeId} {ps:Array (Nat×Operand)} {d:Nat} (ho:o.op = .build T ps) (hod:o.dst=some d) (hd:d<X.nt) (h:Ai E o A Kc=some r):Fw X o a S.w A Kc r:=by
 unfold Ai at h;rw[ho,hod]at h;simp only at h;split at h
 ·rename_i ti hti;split at h
  ·rename_i l us hb;obtain⟨hag,h⟩:=cs h;have ht:=hE.ti _ _ hti;obtain⟨fs,hu,hfs⟩:=Pj ht hag;obtain⟨v,z1,z2,z3⟩:=Ml (w:=S.w) ht;obtain⟨S1,U,cs',e1,K1,g1,w1,l1,_,hf⟩:=Pp hE ht hfs (ti.fo.map λ o=>(o.1,o.2.1)) (λ i o' hi=>by rw[Fy]at hi;rw[S6a,hi];rfl) ps.toList K hg (Mj ti.ty ht.sz (λ j => .tm 0 [j]) 0) (He _) hb;simp only[Wc]at e1;subst e1
   let hh:Nat→List Nat→Option Lab:=λ n q=>if n=0 then some (.pl d q) else none
   have L2:=Dy S1 hh d (K.lt0 hd) (.agg l) (.agg cs'.toArray);have hsv:Gi X.P (Hq S1 hh d (.agg l) (.agg cs'.toArray)) d (.agg l) (.agg cs'.toArray):=⟨cs',rfl,l1.imp (λ j x u hx=>hx.later L2 (λ k hk=>⟨G6 hk (by simp[hh]),rfl⟩))⟩
   have K2:=K1.put hd hh (by intro n q p hp;simp only[hh]at hp;split at hp<;>first|(cases hp;exact⟨q,rfl⟩)|cases hp) _ _ hsv
   refine⟨_,h,Ac (S:=Hq S1 hh d (.agg l) (.agg cs'.toArray)) ?_ (by rw[hod];exact K2) ?_⟩
   ·show _=Result.ok _ S1.w;rw[w1];unfold execOp;simp only[ho,Vx];unfold Instr.build;simp only[Vx,z1,Vw,run_underlying hu,z2];have hm:=R5 (P:=X.P) (w:=S.w) fs.toList ti.fo hfs
    have hm2:(fs.mapM (λ f=>do pure (f.offset,← sizeOf f.type):Field→Sem (Nat×Nat))).run X.P S.w = .ok (ti.fo.map λ o=>(o.1,o.2.1)).toArray S.w:=by
     rw[Soa,Sem.run_map,hm];rfl
    simp only[Vx,Wn]at hm2 ⊢;rw[hm2];simp only[Vw]
    have e2:(ps.map λ x=>(x.1,a.eval x.2)).toList=ps.toList.map λ p=>(p.1,a.eval p.2):=by simp
    rw[e2,hf];rfl
   ·show upd S1.g d _=_;rw[Ae,A8,← g1]
  ·cases h
 ·cases h
end
end

section
attribute [local irreducible] C H
section
variable {X:Cx} {S S':Sit} {a:Act} {E:En} {A:Ab} {o:Oper} {R:Type} {Kc:List Up→Option R} {r:R}
def Jx:∀ t:Ty,0<t.sz
 |.i _=>Nat.one_pos
 |.b=>Nat.one_pos
 |.s=>Nat.one_pos
 |.sl _ _=>Nat.one_pos
 |.ow _ _=>Nat.one_pos
 |.pr x y=>by have:=Jx x;show 0<x.sz+y.sz;omega
def Sf {P:Program} {G:Nat→Prop} {w:World}:∀ (t:Ty) (x:t.den) (vs:List Value),t.rep P G w x vs→∀ u∈vs,u.oneCell'=true
 |.i _,_,_,h=>by subst h;simp[Value.oneCell']
 |.b,_,_,h=>by subst h;simp[Value.oneCell']
 |.s,_,_,h=>by subst h;simp[Value.oneCell']
 |.sl _ _,_,_,⟨v,e,_,ad,cap,cs,e2,_⟩=>by subst e e2;simp[Value.oneCell']
 |.ow _ _,_,_,⟨v,e,_,ad,cap,cs,e2,_⟩=>by subst e e2;simp[Value.oneCell']
 |.pr x y,p,_,⟨c,d,e,h1,h2⟩=>by
  subst e;intro u hu;rcases Vo.1 hu with h|h
  ·exact Sf x p.1 c h1 u h
  ·exact Sf y p.2 d h2 u h
def Rows.all {α:Type} {R':α→List Value→Prop} {Q:Value→Prop} (hR:∀ x c,R' x c→∀ u∈c,Q u):∀ {xs:List α} {cs:List Value},Rows R' xs cs→∀ u∈cs,Q u
 |[],_,h=>by simp only[Rows]at h;subst h;simp
 |_::_,_,⟨c,d,e,h1,h2⟩=>by
  subst e;intro u hu;rcases Vo.1 hu with h|h
  ·exact hR _ _ h1 u h
  ·exact h2.all hR u h
def Ow (K:Ah X S a) {A1:Ab} (hg:S.g=get A1) {d:Nat} (hd:d<X.nt) {w':World} {row:Option Nat} {e:TypeId} {r':Ty} {xs:List r'.den} {v:Value} {cs:List Value} {b2:List Nat} (hw:S.w.grownBy w' row) (hrow:∀ k,row=some k→∃ n q,S.O k = .tm n q)
  (hsz:Pd X.P e r'.sz) (hown:w'.ownsRow 0 e r'.sz v xs.length cs) (hrows:C0 (λ x c b=>r'.dep X.P (λ k=>S.O k = .fz) S.w x c b) xs cs b2) (hn:b2.Nodup) (hb:∀ k∈b2,∃ q,S.O k = .tm 0 q) (hb2:∀ k∈b2,row≠some k∧v.ownBlock≠some k)
  (hv:∀ k,v.ownBlock=some k→row=some k∨S.w.heap.size≤k):
  ∃ S',Ah X S' (a.put (some d) v)∧S'.w=w'∧S'.g=get (ups A1 [⟨d,false,.one (.own e r' xs)⟩]):=by
 obtain⟨K1,L1⟩:=K.grow (w':=w') (row:=row) (O':=λ k=>if v.ownBlock=some k then .tm 0 [] else S.O k) hw hrow
  (λ k hk hnt=>by
   show (if v.ownBlock=some k then _ else _)=_;rw[if_neg];intro e1;rcases hv k e1 with h|h
   ·obtain⟨n,q,h2⟩:=hrow k h;exact hnt n q h2
   ·omega)
  (λ k hk=>by
   by_cases h:v.ownBlock=some k
   ·exact(hown.lt k h).2
   ·simp only[h,if_false]at hk
    exact Wm (K.lt k hk) hw.size)
 let O1:Nat→Lab:=λ k=>if v.ownBlock=some k then .tm 0 [] else S.O k
 let hh:Nat→List Nat→Option Lab:=λ n q=>if n=0 then some (.pl d []) else none
 have L2:=Dy (Og S w' O1) hh d (K.lt0 hd) (.one (.own e r' xs)) v
 have hlab:∀ k∈v.ownBlock.toList++b2,(Hq (Og S w' O1) hh d (.one (.own e r' xs)) v).O k = .pl d []:=λ k hk=>by
  have h1:∃ q,O1 k = .tm 0 q:=by
   rcases Vo.1 hk with hk|hk
   ·refine⟨[],if_pos ?_⟩
    cases hvb:v.ownBlock with
    |none=>rw[hvb]at hk;simp at hk
    |some j=>rw[hvb]at hk;simp at hk;rw[hk]
   ·obtain⟨q,hq⟩:=hb k hk;exact⟨q,(if_neg (hb2 k hk).2).trans hq⟩
  obtain⟨q,hq⟩:=h1;exact G6 (h:=hh) hq (by simp[hh])
 have hown1:Cs X.P (Hq (Og S w' O1) hh d (.one (.own e r' xs)) v).O w' (.pl d []) e r' xs v:=by
  refine⟨v.ownBlock.toList++b2,⟨v,cs,b2,rfl,hsz,hown,hrows.mono (λ x c b hbb h=>Ty.dep_mono (λ k hk=>(L2.fz k (L1.fz k hk).1).1) (λ k hk=>(L1.fz k hk).2) r' x c b (λ k hk=>?_) h),rfl⟩,?_,hlab⟩
  ·have hk2:=hbb k hk;obtain⟨q,hq⟩:=hb k hk2;exact hw.block k (K.lt k (by rw[hq];simp)) (λ e=>(hb2 k hk2).1 e.symm)
  ·rw[Yc]
   refine⟨by cases v.ownBlock<;>simp,hn,λ k hk k' hk' e=>?_⟩
   subst e
   cases hvb:v.ownBlock with
   |none=>rw[hvb]at hk;simp at hk
   |some j=>
    rw[hvb]at hk;simp at hk;exact(hb2 k hk').2 (by rw[hvb,hk])
 have K2:=K1.put hd hh (by intro n q p hp;simp only[hh]at hp;split at hp<;>first|(cases hp;exact⟨[],rfl⟩)|cases hp) (.one (.own e r' xs)) v hown1
 refine⟨_,K2,rfl,?_⟩;show upd S.g d _=_;rw[A8,← hg];rfl
def Eta (K:Ah X S a) {A1:Ab} (hg:S.g=get A1) {d:Nat} (hd:d<X.nt) {w':World} {row:Option Nat} {e:TypeId} {r':Ty} {xs:List r'.den} {v:Value} {cs:List Value} (hno:Hh r'=true) (hw:S.w.grownBy w' row) (hrow:∀ k,row=some k→∃ n q,S.O k = .tm n q)
  (hsz:Pd X.P e r'.sz) (hown:w'.ownsRow 0 e r'.sz v xs.length cs) (hrows:Rows (λ x c=>r'.rep X.P (λ k=>S.O k = .fz) S.w x c) xs cs) (hv:∀ k,v.ownBlock=some k→row=some k∨S.w.heap.size≤k):
  ∃ S',Ah X S' (a.put (some d) v)∧S'.w=w'∧S'.g=get (ups A1 [⟨d,false,.one (.own e r' xs)⟩]):=
 Ow K hg hd hw hrow hsz hown ((C0.flat (λ x c b=>Ty.dep_flat r' x c b hno)).2 ⟨hrows,rfl⟩) (by simp) (by simp) (by simp) hv
def Lz:∀ (t t':Ty),Od t t'=true→Dk t=Dk t'
 |.i k,.i k',h=>by simp[Od]at h;subst h;rfl
 |.b,.b,_=>rfl
 |.s,.s,_=>rfl
 |.sl _ _,.sl _ _,_=>rfl
 |.sl _ _,.ow _ _,_=>rfl
 |.ow _ _,.sl _ _,_=>rfl
 |.ow _ _,.ow _ _,_=>rfl
 |.pr x y,.pr x' y',h=>by
  simp only[Od,Va]at h;show Dk x++Dk y=_;rw[Lz x x' h.1,Lz y y' h.2];rfl
 |.i _,.b,h | .i _,.s,h | .i _,.sl _ _,h | .i _,.ow _ _,h | .i _,.pr _ _,h=>by simp[Od]at h
 |.b,.i _,h | .b,.s,h | .b,.sl _ _,h | .b,.ow _ _,h | .b,.pr _ _,h=>by simp[Od]at h
 |.s,.i _,h | .s,.b,h | .s,.sl _ _,h | .s,.ow _ _,h | .s,.pr _ _,h=>by simp[Od]at h
 |.sl _ _,.i _,h | .sl _ _,.b,h | .sl _ _,.s,h | .sl _ _,.pr _ _,h=>by simp[Od]at h
 |.ow _ _,.i _,h | .ow _ _,.b,h | .ow _ _,.s,h | .ow _ _,.pr _ _,h=>by simp[Od]at h
 |.pr _ _,.i _,h | .pr _ _,.b,h | .pr _ _,.s,h | .pr _ _,.sl _ _,h | .pr _ _,.ow _ _,h=>by simp[Od]at h
def Sg {P:Program} {G:Nat→Prop} {w:World}:∀ (t:Ty),szB P t=true→t.rep P G w t.dflt (Dk t)
 |.i _,_=>rfl
 |.b,_=>rfl
 |.s,_=>rfl
 |.sl e r,h=>by
  simp only[szB,Va,beq_iff_eq]at h;exact⟨_,rfl,h.1,none,0,[],rfl,Vq _,rfl,λ h=>absurd rfl h⟩
 |.ow e r,h=>by
  simp only[szB,Va,beq_iff_eq]at h;exact⟨_,rfl,h.1,none,0,[],rfl,Vq _,rfl,λ h=>absurd rfl h⟩
 |.pr x y,h=>by
  simp only[szB,Va]at h;exact⟨_,_,rfl,Sg x h.1,Sg y h.2⟩
def L6:∀ t:Ty,Dk (shp t)=Dk t
 |.i _=>rfl
 |.b=>rfl
 |.s=>rfl
 |.sl _ _=>rfl
 |.ow _ _=>rfl
 |.pr x y=>by show Dk (shp x)++Dk (shp y)=Dk x++Dk y;rw[L6 x,L6 y]
def Nh {P:Program}:∀ t:Ty,szB P (shp t)=szB P t
 |.i _=>rfl
 |.b=>rfl
 |.s=>rfl
 |.sl e r=>by show (_&&szB P (shp r))=(_&&szB P r);rw[Nh r,Ho r]
 |.ow e r=>by show (_&&szB P (shp r))=(_&&szB P r);rw[Nh r,Ho r]
 |.pr x y=>by show (szB P (shp x)&&szB P (shp y))=_;rw[Nh x,Nh y];rfl
def Sh {P:Program} {G:Nat→Prop} {w:World}:∀ (t:Ty),szB P t=true→t.dep P G w t.dflt (Dk t) []
 |.i _,_=>⟨rfl,rfl⟩
 |.b,_=>⟨rfl,rfl⟩
 |.s,_=>⟨rfl,rfl⟩
 |.sl e r,h=>⟨Sg (.sl e r) h,rfl⟩
 |.ow e r,h=>by
  simp only[szB,Va,beq_iff_eq]at h;exact⟨_,[],[],rfl,h.1,World.ownsRow_nil _ _ _ _,⟨rfl,rfl⟩,rfl⟩
 |.pr x y,h=>by
  simp only[szB,Va]at h;exact⟨_,_,[],[],rfl,rfl,Sh x h.1,Sh y h.2⟩
def C0.replicate {α:Type} {R:α→List Value→List Nat→Prop} {x:α} {c:List Value} (h:R x c []):∀ n,C0 R (List.replicate n x) (List.replicate n c).flatten []
 |0=>by simp[C0]
 |n+1=>⟨c,_,[],[],by simp[Rra],rfl,h,C0.replicate h n⟩
def Eua (l:List Value) (hl:0<l.length):∀ n,(madeCells l.toArray (n*l.length)).toList=(List.replicate n l).flatten:=by
 have key:∀ n,(List.range (n*l.length)).map (λ j=>l.toArray[j % l.toArray.size]!)=(List.replicate n l).flatten:=by
  intro n
  induction n with
  |zero=>simp
  |succ n ih=>
   rw[Yh,Ym,Zd,List.range_add,Roa,Rla,Rra,List.flatten_cons,← ih];congr 1
   ·apply List.ext_getElem
    ·simp
    ·intro i h1 h2;simp at h1;simp[Swa h1,h1]
   ·apply Zn;intro j _;simp
 intro n;rw[← key n];simp[madeCells]
def Ug (hE:Gx X E) (K:Ah X S a) (hg:S.g=get A) {T:TypeId} {x y:Operand} {d:Nat} (ho:o.op = .makeSlice T x y) (hod:o.dst=some d) (hd:d<X.nt) (h:Ai E o A Kc=some r):Fw X o a S.w A Kc r:=by
 unfold Ai at h;rw[ho,hod]at h;simp only at h;split at h
 ·rename_i e r' by_ fo n m hT hx hy;have ex:=(Io hE K hg hx).1;have ey:=(Io hE K hg hy).1;split at h
  ·rename_i te hte;rw[csi]at h;obtain⟨hq,h⟩:=h;simp only[Va,decide_eq_true_eq]at hq;obtain⟨hz,rfl⟩:=hq
   by_cases h0:0≤n
   ·by_cases hb:n*te.by_≤140737488355328
    ·simp only[h0,hb,decide_true,cond_true]at h;have hTk:=hE.ti _ _ hT;have hek:=hE.ti _ _ hte
     have hu:X.P.underlying T=some (.slice e):=by
      have:=hTk.desc;unfold Nb at this
      split at this<;>simp_all
     have hszs:=hTk.sz;simp only[szB,Va,beq_iff_eq]at hszs;obtain⟨i,i1,i2,i3,i4,i5⟩:=hek.info;obtain⟨z,z1,z2,z3⟩:=Ml (w:=S.w) hek
     have iz:i.zero=some z:=by
      simp only[zeroValue,typeInfo,Vx,run_program,Vw,i1,Wn]at z1;rw[i4]at z1 ⊢;simp only[Wn,Sfa,and_true]at z1;rw[z1]
     have hsame:=Lz _ _ hz
     have hsz1:i.size=r'.sz:=by
      have:=hszs.1;rw[i1]at this
      simpa using this
     have hb1:(i.bytes:Int)*n≤281474976710656:=by rw[i3,Int.mul_comm];omega
     have h63:n≤140737488355328:=by
      have h1:(1:Int)≤te.by_:=by have:=hek.by0;omega
      have:=Int.mul_le_mul_of_nonneg_left h1 h0;rw[Int.mul_one]at this;omega
     have hr:=run_make (P:=X.P) S.w T e i z hu i1 iz .i64 .i64 n n h0 (Int.le_refl _) hb1 (by omega)
     have key:∀ r2:Ty,shp r2=shp r'→Kc [⟨d,false,.one (.own e r2 (List.replicate n.toNat r2.dflt))⟩]=some r→Fw X o a S.w A Kc r:=by
      intro r2 hs2 hk
      have hsz2:r2.sz=r'.sz:=by rw[← Ho r2,hs2,Ho r']
      have hzc2:Dk r2=Dk r':=by rw[← L6 r2,hs2,L6 r']
      have hszb2:szB X.P r2=true:=by rw[← Nh r2,hs2,Nh r'];exact hszs.2
      have hcl:(Dk r2).length=r2.sz:=J1 r2
      have hflat:(madeCells z.cells (n.toNat*i.size)).toList=(List.replicate n.toNat (Dk r2)).flatten:=by
       rw[z2,hsame,hsz1,← hzc2,← hsz2,← hcl];exact Eua _ (by rw[hcl];exact Jx r2) _
      obtain⟨S',K',w',g'⟩:=Ow K hg hd (w':=S.w.alloc (.cells (madeCells z.cells (n.toNat*i.size)) e)) (row:=none) (e:=e) (r':=r2) (xs:=List.replicate n.toNat r2.dflt) (v := .slice (some ⟨S.w.heap.size,0,none⟩) n.toNat n.toNat)
       (cs:=(madeCells z.cells (n.toNat*i.size)).toList) (b2:=[]) (World.grownBy_alloc _ _ _) (by simp) (by rw[hsz2];exact hszs.1)
       (by rw[T3a];exact World.ownsRow_lit S.w _ n.toNat (Wf _) (by simp only[maxLen];omega) (by rw[size_madeCells,hsz1,hsz2]))
       (by rw[hflat];exact C0.replicate (Sh r2 hszb2) _) (by simp) (by simp) (by simp) (by
        intro k hk;simp only[Value.ownBlock,Vc]at hk
        exact .inr (Rva hk))
      refine⟨_,hk,Ac (S:=S') (v := .slice (some ⟨S.w.heap.size,0,none⟩) n.toNat n.toNat) ?_ (by rw[hod];exact K') g'⟩;rw[w'];unfold execOp;simp[ho,ex,ey,hr]
     split at h
     ·exact key r' rfl h
     ·rename_i r2 _
      by_cases hs2:shp r2=shp r'
      ·simp only[hs2,decide_true,cond_true]at h;exact key r2 hs2 h
      ·simp[hs2]at h
    ·simp[h0,hb]at h
   ·simp[h0]at h
  ·cases h
 ·cases h
def Apa (hE:Gx X E) {e:TypeId} {r':Ty} (N:Nat):∀ (ps:List (Nat×Operand)) {S:Sit} {A:Ab} {i:Nat} {ys:List r'.den} {us':List Up} {zs:List r'.den} {cs:List Value},Ah X S a→S.g=get A→Tp E A e r' i ps=some (ys,us')→zs.length=i→
  Rows (λ x c=>r'.rep X.P (λ k=>S.O k = .fz) S.w x c) zs (cs.take (i*r'.sz))→cs.length=N*r'.sz→i+ps.length≤N→
  ∃ S',∃ cs':List Value,Ah X S' a∧S'.g=get (ups A us')∧S'.w=S.w∧ys.length=ps.length∧cs'.length=N*r'.sz∧Rows (λ x c=>r'.rep X.P (λ k=>S'.O k = .fz) S'.w x c) (zs++ys) (cs'.take ((i+ps.length)*r'.sz))∧
   Instr.fill (λ j=>some (j*r'.sz,r'.sz)) cs.toArray (ps.map λ p=>(p.1,a.eval p.2))=some cs'.toArray
 |[],S,A,i,ys,us',zs,cs,K,hg,h,hi,hz,hcl,hN=>by
  simp only[Tp,Vc,Vu]at h;obtain⟨rfl,rfl⟩:=h;exact⟨S,cs,K,hg,rfl,rfl,hcl,by simpa using hz,rfl⟩
 |(j,x)::ps,S,A,i,ys,us',zs,cs,K,hg,h,hi,hz,hcl,hN=>by
  simp only[Tp]at h;cases hb:Nat.beq i j
  ·rw[hb]at h;simp at h
  rw[hb,cond_true]at h;have hij:i=j:=Vb hb;subst hij;split at h
  ·rename_i s hs;cases hst:A3 ((parts s).map (Hn A))
   ·rw[hst]at h;simp at h
   rw[hst,cond_true]at h;split at h
   ·rename_i y hy;split at h
    ·rename_i ys1 us1 hrec;cases h
     have hnt:∀ vs,s ≠ .tup vs:=by
      intro vs e1;subst e1
      have:∀ t:Ty,mkT t []=none:=by intro t;induction t<;>simp_all [mkT]
      simp[parts,mkW,this]at hy
     obtain⟨S1,K1,g1,w1,b1,p1,L1,x1,heads,tms,us,hsh,hls⟩:=Ega hE K hg hs hnt 0
     obtain⟨K2,L2⟩:=K1.names (Ama 0) (by intro n q;unfold Ama;split<;>simp)
     have hrep:=Mh hst hls;rw[Rla]at hrep;have hyr:=Pf hy hrep;have hul:=Ty.rep_len _ _ _ hyr;have hone:=Ki hst hls
     have hle:i*r'.sz+r'.sz≤cs.length:=by
      rw[hcl];have:=Wa r'.sz (show i+1≤N by simp only[Vg]at hN;omega);rw[Yh,Ym]at this;exact this
     have hz2:Rows (λ x c=>r'.rep X.P (λ k=>({ S1 with O:=atO S1.O (Ama 0) }:Sit).O k = .fz) ({ S1 with O:=atO S1.O (Ama 0) }:Sit).w x c) (zs++[y]) ((cs.take (i*r'.sz)++us++cs.drop (i*r'.sz+r'.sz)).take ((i+1)*r'.sz)):=by
      have e1:(cs.take (i*r'.sz)++us++cs.drop (i*r'.sz+r'.sz)).take ((i+1)*r'.sz)=cs.take (i*r'.sz)++us:=by
       rw[T4a (by rw[Vh,Vl,hul,Yh,Ym];omega)]
      rw[e1];refine Rows.append (hz.mono (λ x c=>Ty.rep_mono (λ k hk=>(L2.fz k (L1.fz k hk).1).1) (λ k hk=>by show S1.w.heap[k]? = _;rw[w1]) r' x c)) ⟨us,[],by simp,hyr,rfl⟩
     obtain⟨S',cs',K',g',w',l1,l2,l3,hf⟩:=Apa hE N ps K2 (by show S1.g=_;exact g1) hrec (by simp[hi]) hz2 (by
      simp only[Vh,Vl,Vy,hul];omega) (by simp only[Vg]at hN;omega)
     refine⟨S',cs',K',by rw[Ae];exact g',w'.trans w1,by simp[l1],l2,?_,?_⟩
     ·rw[Vj,Yb]at l3;rw[Vg,show i+(ps.length+1)=i+1+ps.length by omega];exact l3
     ·rw[Yd,Mn (us:=us) (off:=i*r'.sz) (z:=r'.sz) rfl (Ge hsh hnt hone) hul (by simpa using hle)];exact hf
    ·cases h
   ·cases h
  ·cases h
def Aqa (hE:Gx X E) {e:TypeId} {r':Ty} (N:Nat) (hall:Eh r'=true):∀ (ps:List (Nat×Operand)) {S:Sit} {A:Ab} {i:Nat} {ys:List r'.den} {us':List Up} {zs:List r'.den} {cs:List Value} {bz:List Nat},Ah X S a→S.g=get A→Tq E A e r' i ps=some (ys,us')→zs.length=i→
  C0 (λ x c b=>r'.dep X.P (λ k=>S.O k = .fz) S.w x c b) zs (cs.take (i*r'.sz)) bz→bz.Nodup→(∀ k∈bz,∃ n q,1000≤n∧n<1000+i∧S.O k = .tm n q)→cs.length=N*r'.sz→i+ps.length≤N→
  ∃ S',∃ cs':List Value,∃ b2,Ah X S' a∧S'.g=get (ups A us')∧S'.w=S.w∧ys.length=ps.length∧cs'.length=N*r'.sz∧C0 (λ x c b=>r'.dep X.P (λ k=>S'.O k = .fz) S'.w x c b) (zs++ys) (cs'.take ((i+ps.length)*r'.sz)) b2∧
   b2.Nodup∧(∀ k∈b2,∃ n q,1000≤n∧n<1000+(i+ps.length)∧S'.O k = .tm n q)∧Instr.fill (λ j=>some (j*r'.sz,r'.sz)) cs.toArray (ps.map λ p=>(p.1,a.eval p.2))=some cs'.toArray
 |[],S,A,i,ys,us',zs,cs,bz,K,hg,h,hi,hz,hbn,hbl,hcl,hN=>by
  simp only[Tq,Vc,Vu]at h;obtain⟨rfl,rfl⟩:=h;exact⟨S,cs,bz,K,hg,rfl,rfl,hcl,by simpa using hz,hbn,by simpa using hbl,rfl⟩
 |(j,x)::ps,S,A,i,ys,us',zs,cs,bz,K,hg,h,hi,hz,hbn,hbl,hcl,hN=>by
  simp only[Tq]at h;cases hb:Nat.beq i j
  ·rw[hb]at h;simp at h
  rw[hb,cond_true]at h;have hij:i=j:=Vb hb;subst hij;split at h
  ·rename_i s hs;split at h
   ·rename_i m us0 hgive;cases hst:Lt m
    ·rw[hst]at h;simp at h
    rw[hst,cond_true]at h;split at h
    ·rename_i y hy;split at h
     ·rename_i ys1 us1 hrec;cases h
      have hnt:∀ vs,s ≠ .tup vs:=by
       intro vs e1;subst e1
       have h1:∀ t:Ty,mkT t []=none:=by intro t;induction t<;>simp_all [mkT]
       have h2:=Ot hgive;have:m=[]:=Xs (by simpa[parts] using h2);subst this;simp[mkW,h1]at hy
      obtain⟨S1,K1,g1,G1,us,hsh,hls⟩:=Ela hE K hg hs hnt hgive (1000+i);obtain⟨mb,m1,m2,m3⟩:=L3 hst hls (Ema hnt (Ot hgive));have hyr:=Sd hall hy m1;have hul:=Ty.dep_len _ _ _ _ hyr;have hone:=Ki (Iv hst) hls
      have hle:i*r'.sz+r'.sz≤cs.length:=by
       rw[hcl];have:=Wa r'.sz (show i+1≤N by simp only[Vg]at hN;omega);rw[Yh,Ym]at this;exact this
      have hbl1:∀ k∈bz,∃ n q,1000≤n∧n<1000+i∧S1.O k = .tm n q:=λ k hk=>by
       obtain⟨n,q,h1,h2,h3⟩:=hbl k hk;exact⟨n,q,h1,h2,G1.tm n q k h3⟩
      have hz1:C0 (λ x c b=>r'.dep X.P (λ k=>S1.O k = .fz) S1.w x c b) zs (cs.take (i*r'.sz)) bz:=hz.mono (λ x c b _ h=>Ty.dep_mono (λ k hk=>(G1.later.fz k hk).1) (λ k _=>by rw[G1.w]) r' x c b (λ k _=>by rw[G1.w]) h)
      have hz2:C0 (λ x c b=>r'.dep X.P (λ k=>S1.O k = .fz) S1.w x c b) (zs++[y]) ((cs.take (i*r'.sz)++us++cs.drop (i*r'.sz+r'.sz)).take ((i+1)*r'.sz)) (bz++mb):=by
       have e1:(cs.take (i*r'.sz)++us++cs.drop (i*r'.sz+r'.sz)).take ((i+1)*r'.sz)=cs.take (i*r'.sz)++us:=by
        rw[T4a (by rw[Vh,Vl,hul,Yh,Ym];omega)]
       rw[e1];exact hz1.append ⟨us,[],mb,[],by simp,by simp,hyr,rfl,rfl⟩
      have hbn2:(bz++mb).Nodup:=by
       rw[Yc];refine⟨hbn,m2,λ k hk k' hk' e=>?_⟩;subst e;obtain⟨n,q,_,h2,h3⟩:=hbl1 k hk;obtain⟨n',_,_,h4⟩:=m3 k hk';rw[h3]at h4;cases h4;omega
      have hbl2:∀ k∈bz++mb,∃ n q,1000≤n∧n<1000+(i+1)∧S1.O k = .tm n q:=λ k hk=>by
       rcases Vo.1 hk with hk|hk
       ·obtain⟨n,q,h1,h2,h3⟩:=hbl1 k hk;exact⟨n,q,h1,by omega,h3⟩
       ·obtain⟨n',_,_,h4⟩:=m3 k hk;exact⟨_,_,by omega,by omega,h4⟩
      obtain⟨S',cs',b2,K',g',w',l1,l2,l3,l4,l5,hf⟩:=Aqa hE N hall ps K1 g1 hrec (by simp[hi]) hz2 hbn2 hbl2 (by
       simp only[Vh,Vl,Vy,hul];omega) (by simp only[Vg]at hN;omega)
      refine⟨S',cs',b2,K',by rw[Ae];exact g',w'.trans G1.w,by simp[l1],l2,?_,l4,?_,?_⟩
      ·rw[Vj,Yb]at l3;rw[Vg,show i+(ps.length+1)=i+1+ps.length by omega];exact l3
      ·rw[Vg,show i+(ps.length+1)=i+1+ps.length by omega];exact l5
      ·rw[Yd,Mn (us:=us) (off:=i*r'.sz) (z:=r'.sz) rfl (Ge hsh hnt hone) hul (by simpa using hle)];exact hf
     ·cases h
    ·cases h
   ·cases h
  ·cases h
def Si (hE:Gx X E) (K:Ah X S a) (hg:S.g=get A) {T:TypeId} {n d:Nat} {ps:Array (Nat×Operand)} (ho:o.op = .buildSlice T n ps) (hod:o.dst=some d) (hd:d<X.nt) (h:Ai E o A Kc=some r):Fw X o a S.w A Kc r:=by
 unfold Ai at h;rw[ho,hod]at h;simp only at h;split at h
 ·rename_i e r' by_ fo hT;obtain⟨hq,h⟩:=cs h;simp only[Va]at hq;have hn:n=ps.size:=Vb hq.1.1;have hle:n*r'.sz≤16777216:=Ve hq.1.2;obtain⟨te,hte⟩:=Rta.1 hq.2;have hTk:=hE.ti _ _ hT;have hek:=hE.ti _ _ hte
  have hu:X.P.underlying T=some (.slice e):=by
   have:=hTk.desc;unfold Nb at this
   split at this<;>simp_all
  have hszs:=hTk.sz;simp only[szB,Va,beq_iff_eq]at hszs;obtain⟨z,z1,z2,z3⟩:=Ml (w:=S.w) hek
  have hps:ps.toList.length=n:=by rw[hn];simp
  have fin:∀ {r2:Ty} {ys:List r2.den} {us:List Up},r2.sz=r'.sz→Kc (us++[⟨d,false,.one (.own e r2 ys)⟩])=some r→
    (∀ cs:List Value,cs.length=n*r2.sz→∃ (S1:Sit) (cs':List Value) (b2:List Nat),Ah X S1 a∧S1.g=get (ups A us)∧S1.w=S.w∧ys.length=n∧cs'.length=n*r2.sz∧C0 (λ x c b=>r2.dep X.P (λ k=>S1.O k = .fz) S1.w x c b) ys cs' b2∧
     b2.Nodup∧(∀ k∈b2,∃ q,S1.O k = .tm 0 q)∧Instr.fill (λ j=>some (j*r2.sz,r2.sz)) cs.toArray (ps.toList.map λ p=>(p.1,a.eval p.2))=some cs'.toArray)→Fw X o a S.w A Kc r:=by
   intro r2 ys us hsz2 hk hrows;rw[← hsz2]at hle hszs
   have run:∀ zero:Array Value,((if n*r2.sz=0 then pure #[] else do pure (← zeroValue e).cells:Sem (Array Value)).run X.P S.w = .ok zero S.w)→Fw X o a S.w A Kc r:=by
    intro zero hzero;obtain⟨S1,cs',b2,K1,g1,w1,l1,l2,l3,l4,l5,hf⟩:=hrows ((Array.range (n*r2.sz)).map (zero[· % zero.size]!)).toList (by simp)
    obtain⟨S',K',w',g'⟩:=Ow K1 g1 hd (w':=S1.w.alloc (.cells cs'.toArray e)) (row:=none) (e:=e) (r':=r2) (xs:=ys) (v := .slice (some ⟨S1.w.heap.size,0,none⟩) n n)
     (cs:=cs'.toArray.toList) (World.grownBy_alloc _ _ _) (by simp) hszs.1
     (by rw[l1];exact World.ownsRow_lit S1.w _ n (Wf _) (by
      have h1:=Jx r2;have h2:n*1≤n*r2.sz:=Nat.mul_le_mul_left _ h1
      simp only[maxLen];omega) (by simpa using l2))
     l3 l4 l5 (by
      intro k hk;refine⟨by simp,λ e1=>?_⟩;simp only[Value.ownBlock,Vc]at e1;obtain⟨q,hq⟩:=l5 k hk;have:=K1.lt k (by rw[hq];simp)
      omega) (by
      intro k hk;simp only[Value.ownBlock,Vc]at hk
      exact .inr (Rva hk))
    rw[← Ae]at g';refine⟨_,hk,Ac (S:=S') (v := .slice (some ⟨S1.w.heap.size,0,none⟩) n n) ?_ (by rw[hod];exact K') g'⟩;rw[w',w1];unfold execOp;simp only[ho,Vx];unfold Instr.buildSlice;simp only[Vx,run_underlying hu,Vw,Hb hszs.1];rw[if_neg (by omega)]
    have e2:(ps.map λ x=>(x.1,a.eval x.2)).toList=ps.toList.map λ p=>(p.1,a.eval p.2):=by simp
    simp only[Array.toArray_toList]at hf
    by_cases hz0:n*r2.sz=0
    ·rw[if_pos hz0]at hzero ⊢;simp only[Wn,Sfa,and_true]at hzero;subst hzero;simp only[Vx,Wn,Vw,e2,hf];simp[newRow]
    ·rw[if_neg hz0]at hzero ⊢;simp only[Vx,Wn,z1,Vw,Sfa,and_true]at hzero;subst hzero;simp only[Vx,Wn,z1,Vw,e2,hf];simp[newRow]
   by_cases hz:n*r2.sz=0
   ·exact run #[] (by rw[if_pos hz];rfl)
   ·exact run z.cells (by rw[if_neg hz];simp[z1])
  split at h
  ·obtain⟨hno,h⟩:=cs h;split at h
   ·rename_i ys us hrows;refine fin rfl h (λ cs hcs=>?_);obtain⟨S1,cs',K1,g1,w1,l1,l2,l3,hf⟩:=Apa hE n ps.toList (zs:=[]) (cs:=cs) K hg hrows rfl (by simp[Rows]) hcs (by simp[hn]);simp only[Wc,Wb]at l3;rw[hps]at l1 l3;rw[Zb (by omega)]at l3;exact⟨S1,cs',[],K1,g1,w1,l1,l2,(C0.flat (λ x c b=>Ty.dep_flat r' x c b hno)).2 ⟨l3,rfl⟩,by simp,by simp,hf⟩
   ·cases h
  ·rename_i r2 _;obtain⟨hq2,h⟩:=cs h;simp only[Va,decide_eq_true_eq]at hq2
   have hsz2:r2.sz=r'.sz:=by rw[← Ho r2,hq2.1,Ho r']
   split at h
   ·rename_i ys us hrows;refine fin hsz2 h (λ cs hcs=>?_);obtain⟨S1,cs',b2,K1,g1,w1,l1,l2,l3,l4,l5,hf⟩:=Aqa hE n hq2.2 ps.toList (zs:=[]) (bz:=[]) (cs:=cs) K hg hrows rfl (by simp[C0]) (by simp) (by simp) hcs (by simp[hn]);simp only[Wc,Wb]at l3;rw[hps]at l1 l3;rw[Zb (by omega)]at l3
    obtain⟨K2,L2⟩:=K1.names (λ n _=>if 1000≤n then some (.tm 0 []) else none) (by intro n q;split<;>simp)
    refine⟨_,cs',b2,K2,g1,w1,l1,l2,l3.mono (λ x c b _ h=>Ty.dep_mono (λ k hk=>(L2.fz k hk).1) (λ _ _=>rfl) r2 x c b (λ _ _=>rfl) h),l4,λ k hk=>?_,hf⟩;obtain⟨m,q,m1,_,m2⟩:=l5 k hk;exact⟨[],G6 m2 (by simp[m1])⟩
   ·cases h
 ·cases h
end
end

section
attribute [local irreducible] C H
section
variable {X:Cx} {S S':Sit} {a:Act} {E:En} {A:Ab} {o:Oper} {R:Type} {Kc:List Up→Option R} {r:R}
def Lra {P:Program} {w:World} {t ty e:TypeId} {i:TypeInfo} {z:Value} {size:Nat} (ht:P.underlying t=some (.slice e)) (hi:P.info? e=some i) (hz:i.zero=some z)
  (hsize:i.size=size) {v:Value} {n:Nat} {xs:List Value} (hown:w.ownsRow 0 e size v n xs)
  {ad:Addr} {m c:Nat} {Qk:List Value} (hl:Qk.length=m*size) (hnews:∀ j u,Qk[j]? = some u→w.cell? (ad.add j)=some u) (h1:∀ u∈Qk,u.oneCell'=true)
  (h63:n+m≤maxLen) (hbytes:(n+m)*i.bytes≤140737488355328) {v':Value} {w':World} (hr:(Builtin.append_ #[t,t] ty #[v,.slice (some ad) m c]).run P w = .ok v' w')
  (hnil:v' = .slice none 0 0↔v = .slice none 0 0∧m=0):∀ k,v'.ownBlock=some k→v.ownBlock=some k∨w.heap.size≤k:=by
 subst hsize
 have hsmall:n+m≤9223372036854775807:=by simp only[maxLen]at h63;omega
 intro k hk;rcases Da hown with⟨rfl,hn,rfl⟩|⟨k0,cap,cur,rfl,hg,hc1,hc2,hc3,hc4⟩
 ·by_cases hm:m=0
  ·rw[hnil.2 ⟨rfl,hm⟩]at hk;simp[Value.ownBlock]at hk
  ·subst hn;have h2:=run_append_nil (P:=P) w t ty e i z ht hi hz ad m c Qk hl hnews (by omega) (by omega) (by have hb:=hbytes;simp only[Wb]at hb;omega);rw[h2]at hr;cases hr;simp only[Value.ownBlock,Vc]at hk;exact .inr (Rva hk)
 ·by_cases hroom:n+m≤cap
  ·have hfit:n*i.size+Qk.length≤cur.size:=by rw[hl,hc3,← Yh];exact Wa _ hroom
   have h2:=run_append_room (P:=P) w t ty e i ht hi k0 n cap cur hg ad m c Qk hl hnews h1 hroom hfit;rw[h2]at hr;cases hr;exact .inl hk
  ·have holds:∀ j u,xs[j]? = some u→w.cell? ((⟨k0,0,none⟩:Addr).add j)=some u:=hown.cells (g:=k0) rfl;have h2:=run_append_grow (P:=P) w t ty e i z ht hi hz ⟨k0,0,none⟩ n cap xs hown.1 holds ad m c Qk hl hnews (by omega) (by omega) (growslice_fits (by omega) hbytes);rw[h2]at hr;cases hr;simp only[Value.ownBlock,Vc]at hk;exact .inr (Rva hk)
def Xn {P:Program} {w:World} {t u ty e:TypeId} {i:TypeInfo} (ht:P.underlying t=some (.slice e)) (hu:P.underlying u=some .string) (hi:P.info? e=some i) (hz:i.zero=some (.int .u8 0))
  (hsize:i.size=1) (hby:i.bytes=1) {v:Value} {n:Nat} {xs:List Value} (hown:w.ownsRow 0 e 1 v n xs) {s:ByteArray}
  (h63:n+s.size≤maxLen) (hbytes:n+s.size≤140737488355328) {v':Value} {w':World} (hr:(Builtin.append_ #[t,u] ty #[v,.string s]).run P w = .ok v' w')
  (hnil:v' = .slice none 0 0↔v = .slice none 0 0∧s.size=0):∀ k,v'.ownBlock=some k→v.ownBlock=some k∨w.heap.size≤k:=by
 have hsmall:n+s.size≤9223372036854775807:=by simp only[maxLen]at h63;omega
 intro k hk;rcases Da hown with⟨rfl,hn,rfl⟩|⟨k0,cap,cur,rfl,hg,hc1,hc2,hc3,hc4⟩
 ·by_cases hm:s.size=0
  ·rw[hnil.2 ⟨rfl,hm⟩]at hk;simp[Value.ownBlock]at hk
  ·subst hn;have h2:=run_append_nil_string (P:=P) w t u ty e i _ ht hu hi hz s (by omega) (by omega) (by rw[hby];omega);rw[h2]at hr;cases hr;simp only[Value.ownBlock,Vc]at hk;exact .inr (Rva hk)
 ·by_cases hroom:n+s.size≤cap
  ·have h2:=Go.Lib.run_append_room_string (P:=P) w t u ty e i ht hu hi hsize k0 n cap cur hg s hroom (by rw[hc3];omega);rw[h2]at hr;cases hr;exact .inl hk
  ·have holds:∀ j u,xs[j]? = some u→w.cell? ((⟨k0,0,none⟩:Addr).add j)=some u:=hown.cells (g:=k0) rfl;have h2:=Go.Lib.run_append_grow_string (P:=P) w t u ty e i _ ht hu hi hz ⟨k0,0,none⟩ n cap xs (by rw[hsize];exact hown.1) holds s (by omega) (by omega) (growslice_fits (by omega) (by rw[hby];omega));rw[h2]at hr;cases hr;simp only[Value.ownBlock,Vc]at hk;exact .inr (Rva hk)
def Id {P:Program} {w w':World} {T T':TypeId} {x y:Operand} {c:Call} (ho:o.op = .call c) (hc:c.callee = .builtin .append) (hT:c.argTypes.toList=[T,T']) (hx:c.args.toList=[x,y]) {v:Value}
  (hr:(Builtin.append_ #[T,T'] o.type #[a.eval x,a.eval y]).run P w = .ok v w'):(execOp a.eval o).run P w = .ok (.value v) w':=by
 have e1:c.args = #[x,y]:=by rw[← hx]
 have e2:c.argTypes = #[T,T']:=by rw[← hT]
 unfold execOp;simp[ho,resolve,hc,e1,e2,invoke,builtin,hr]
def Ara (hE:Gx X E) (K:Ah X S a) (hg:S.g=get A) {T:TypeId} {x:Operand} {u:Lf} {e:TypeId} {r':Ty} {xs:List r'.den} (hs:opT E T A x=some (.one u)) (hu:H9 A u = .own e r' xs):
  ∃ S1,Ah X S1 a∧S1.g=get (ups A (Qv u x))∧S1.w=S.w∧Ct S S1∧Cs X.P S1.O S1.w (.tm 0 []) e r' xs (a.eval x)∧(∀ n q z v,Af X.P S (.tm n q) z v→Af X.P S1 (.tm n q) z v)∧S1.bb=S.bb∧S1.ph=S.ph∧(∀ b n,(S.g (H b)).2 = .one (.hd n)→S1.g (H b)=S.g (H b)):=by
 obtain⟨l,hl⟩:=Fc hE K hg hs;have hlf:Af X.P S (.pl l []) u (a.eval x):=hl
 by_cases hal:∃ p v,u = .al p v
 ·obtain⟨p,v,rfl⟩:=hal;obtain⟨p',v',e1,hp⟩:=Kx hu (by intro e r xs h;cases h);cases e1;obtain⟨K1,g1,g2⟩:=Im K p 0;have he:a.eval x=S.ph p:=hlf.2 (by rw[hg,hp]);refine⟨_,K1,?_,rfl,Hp S p 0,?_,g2,rfl,rfl,λ b n hn=>Aa _ _ (λ e1=>by rw[e1,hg,hp]at hn;cases hn)⟩
  ·show upd S.g p _=_;rw[show Qv (.al p v) x=[⟨p,false,.one .dead⟩] from rfl,A8,← hg]
  ·have:=K.at_ p;rw[hg,hp]at this;rw[he];exact g1 [] (.own e r' xs) _ this
 ·have hne:∀ p v,u = .al p v→False:=λ p v h=>hal ⟨p,v,h⟩;have hu':=Afa hu hne;subst hu';rcases I5 hE K hg hs with⟨t,rfl,ht,hst,het,hok⟩|⟨hnt,y',ey,hy'⟩
  ·obtain⟨K1,g1,g2⟩:=Im K t 0;refine⟨_,K1,?_,rfl,Hp S t 0,g1 [] (.own e r' xs) _ hok,g2,rfl,rfl,λ b n hn=>Aa _ _ (λ e1=>by rw[e1,← hst]at hn;cases hn)⟩;show upd S.g t _=_;rw[show Qv (.own e r' xs) (.tmp t)=[⟨t,false,.one .dead⟩] from rfl,A8,← hg]
  ·cases ey;refine⟨S,K,?_,rfl,.refl S,hy' (.tm 0 []),λ _ _ _ _ h=>h,rfl,rfl,λ _ _ _=>rfl⟩
   cases x<;>first|exact hg|exact absurd rfl (hnt _)
def Kja {lab:Lab} {e':TypeId} {r':Ty} {ys:List r'.den} {u:Value} (h:Af X.P S lab (.fz e' r' ys) u):
  ∃ ad cap cs,u = .slice ad ys.length cap∧Rows (λ x c=>r'.rep X.P (λ k=>S.O k = .fz) S.w x c) ys cs∧(ys≠[]→∃ k o,ad=some ⟨k,o,none⟩∧Ck S.w k o cs):=by
 obtain⟨v,e1,_,ad,cap,cs,e2,_,hrows,hne⟩:=h;cases e1;refine⟨ad,cap,cs,e2,hrows,λ hn=>?_⟩;obtain⟨k,o',e3,_,e4⟩:=hne hn;exact⟨k,o',e3,e4⟩
def Eva {lab:Lab} {e':TypeId} {r':Ty} {ys:List r'.den} {u:Value} (hno:Hh r'=true) (h:Cs X.P S.O S.w lab e' r' ys u):
  ∃ ad cap cs,u = .slice ad ys.length cap∧Rows (λ x c=>r'.rep X.P (λ k=>S.O k = .fz) S.w x c) ys cs∧(ys≠[]→∃ k o,ad=some ⟨k,o,none⟩∧Ck S.w k o cs):=by
 obtain⟨_,cs,hrow,hrows,_⟩:=(Cs.flat hno).1 h;rcases Da hrow with⟨e1,e2,rfl⟩|⟨k,cap,cur,e1,hc,_,_,_,ht⟩
 ·refine⟨none,0,[],by rw[e1,e2],hrows,λ hn=>absurd (Xs e2) hn⟩
 ·exact⟨_,cap,cs,e1,hrows,λ _=>⟨k,0,rfl,Gb hc ht⟩⟩
def Kka {p v:Nat} {pi:Option (List (Int×Nat))} {e':TypeId} {r':Ty} {ys:List r'.den} {u:Value} (hno:Hh r'=true) (hv:(S.g p).1=v) (h:Dka X.P S p v pi e' r' ys u):
  ∃ ad cap cs,u = .slice ad ys.length cap∧Rows (λ x c=>r'.rep X.P (λ k=>S.O k = .fz) S.w x c) ys cs∧(ys≠[]→∃ k o,ad=some ⟨k,o,none⟩∧Ck S.w k o cs):=by
 obtain⟨_,_,h2⟩:=h;obtain⟨_,⟨_,ad,cap,cs,bs,e1,_,hrows,_,hne⟩,_⟩:=h2 hv;refine⟨ad,cap,cs,e1,((C0.flat (λ x c b=>Ty.dep_flat r' x c b hno)).1 hrows).1,λ hn=>?_⟩;obtain⟨k,o',e3,_,e4⟩:=hne hn;exact⟨k,o',e3,e4⟩
def O2a (K:Ah X S a) (hg:S.g=get A) {lab:Lab} {x:Lf} {e':TypeId} {r':Ty} {ys:List r'.den} {u:Value} (h:Af X.P S lab x u) (hs:X6 A x=some ⟨e',r',ys⟩):
  ∃ ad cap cs,u = .slice ad ys.length cap∧Rows (λ x c=>r'.rep X.P (λ k=>S.O k = .fz) S.w x c) ys cs∧(ys≠[]→∃ k o,ad=some ⟨k,o,none⟩∧Ck S.w k o cs):=by
 unfold X6 at hs;split at hs
 ·rename_i p v pi e r xs;cases hq:(Nat.beq (get A p).1 v&&Hh r)
  ·rw[hq]at hs;simp at hs
  rw[hq]at hs;simp only[cond_true,Vc,Sl.mk.injEq]at hs;obtain⟨rfl,rfl,h3⟩:=hs;cases h3;simp only[Va]at hq;exact Kka hq.2 (by rw[hg];exact Vb hq.1) h
 ·obtain⟨lab',h'⟩:=Lv K hg h;split at hs
  ·rename_i e r xs hsn;rw[hsn]at h';simp only[Vc,Sl.mk.injEq]at hs;obtain⟨rfl,rfl,h3⟩:=hs;cases h3;exact Kja h'
  ·rename_i e r xs hsn;rw[hsn]at h';cases hq:Hh r
   ·rw[hq]at hs;simp at hs
   rw[hq]at hs;simp only[cond_true,Vc,Sl.mk.injEq]at hs;obtain⟨rfl,rfl,h3⟩:=hs;cases h3;exact Eva hq h'
  ·cases hs
def Asa {P:Program} {T:TypeId} {t:TI} (w:World) (h:TOk P T t):∃ i z,P.info? T=some i∧i.zero=some z∧i.size=t.ty.sz∧i.bytes=t.by_∧z.cells=(Dk t.ty).toArray∧(t.ag=false→Dk t.ty=[z]):=by
 obtain⟨i,i1,i2,i3,i4,i5⟩:=h.info;obtain⟨z,z1,z2,z3⟩:=Ml (w:=w) h
 have iz:i.zero=some z:=by
  simp only[zeroValue,typeInfo,Vx,run_program,Vw,i1,Wn]at z1;rw[i4]at z1 ⊢;simp only[Wn,Sfa,and_true]at z1;rw[z1]
 exact⟨i,z,i1,iz,i2,i3,z2,λ ha=>by rw[ha]at z3;simpa using z3⟩
def Ni {P:Program} {G:Nat→Prop} {w:World}:∀ l:List UInt8,Rows (λ x c=>Ty.rep P G w (.i .u8) x c) (l.map λ b=>(b.toNat:Int)) (l.map λ b=>Value.int .u8 b.toNat)
 |[]=>rfl
 |b::l=>⟨[_],_,rfl,rfl,Ni l⟩
def Ewa {P:Program} {w:World} {T ty e:TypeId} {te:TI} {sz:Nat} (hu:P.underlying T=some (.slice e)) (hek:TOk P e te) (hsz:Pd P e sz) {v u:Value} {n m cap:Nat} {cs ds:List Value} {ad:Option Addr} (hrow:w.ownsRow 0 e sz v n cs) (ev:u = .slice ad m cap)
  (hdl:ds.length=m*sz) (hdone:∀ u∈ds,u.oneCell'=true) (hne:m≠0→∃ k o,ad=some ⟨k,o,none⟩∧Ck w k o ds) (hle:(n+m)*te.by_≤140737488355328) (hpos:0<sz):
  ∃ v' w',(Builtin.append_ #[T,T] ty #[v,u]).run P w = .ok v' w'∧w'.ownsRow 0 e sz v' (n+m) (cs++ds)∧w.grownBy w' v.ownBlock∧∀ k,v'.ownBlock=some k→v.ownBlock=some k∨w.heap.size≤k:=by
 obtain⟨i,z,i1,iz,i2,i3,z2,_⟩:=Asa w hek
 have hsize:i.size=sz:=by
  have:=hsz;unfold Pd at this;rw[i1]at this
  simpa using this
 have h63:n+m≤maxLen:=by
  have h1:=hek.by0;have h2:(n+m)*1≤(n+m)*te.by_:=Nat.mul_le_mul_left _ h1;simp only[maxLen];omega
 subst ev
 cases ad with
 |none=>
  have hm0:m=0:=by
   by_cases hm:m=0
   ·exact hm
   ·obtain⟨k,o',e1,_⟩:=hne hm;cases e1
  subst hm0;have hd0:ds=[]:=Xs (by simpa using hdl);subst hd0
  have hcap:(Builtin.append_ #[T,T] ty #[v,.slice none 0 cap]).run P w = .ok v w:=by
   rcases Da hrow with⟨e1,_⟩|⟨k,cap',cur,e1,_,hle',_⟩
   ·rw[e1];simp[Builtin.append_,run_underlying hu,sizeOf,typeInfo,i1,Builtin.lenOf,Builtin.firstCells]
   ·rw[e1];simp[Builtin.append_,run_underlying hu,sizeOf,typeInfo,i1,Builtin.lenOf,Builtin.firstCells,hle',storeCells]
  refine⟨_,_,hcap,by simpa using hrow,⟨rfl,rfl,rfl,Vq _,λ _ _ _=>rfl⟩,λ k hk => .inl hk⟩
 |some ad=>
  have hnews:∀ j u,ds[j]? = some u→w.cell? (ad.add j)=some u:=by
   intro j u hj
   have hm:m≠0:=by
    intro e1;subst e1;have:ds=[]:=Xs (by simpa using hdl);subst this;simp at hj
   obtain⟨k,o',e1,e2⟩:=hne hm;cases e1;rw[Hx];exact e2 j u hj
  obtain⟨v',w',hr,ho',hgr,hnil⟩:=run_append_own (P:=P) w 0 T ty e i z sz te.by_ hu i1 iz hsize i3 (by rw[z2,Ria,J1,← i2,hsize]) hpos v n cs hrow ad m cap ds hdl hnews hdone h63 hle (Wf _);exact⟨v',w',hr,ho',hgr,Lra hu i1 iz hsize hrow hdl hnews hdone h63 (by rw[i3];exact hle) hr hnil⟩
def Lsa {P:Program} {G:Nat→Prop} {w:World} (t:Ty) (x:t.den) (c:List Value) (b:List Nat) (h:t.dep P G w x c b):∀ u∈c,u.oneCell'=true:=
 Sf (G:=λ k=>G k∨k∈b) t x c (Ty.dep_rep (λ _ h => .inl h) t x c b (λ _ h => .inr h) h)
def Poa (P:Program) (S:Sit) (r2:Ty) (ys:List r2.den) (v:Value):Prop:=
 ∃ ad cap cy b2,v = .slice ad ys.length cap∧C0 (λ x c b=>r2.dep P (λ k=>S.O k = .fz) S.w x c b) ys cy b2∧b2.Nodup∧(∀ k∈b2,S.O k = .tm 0 [])∧(ys.length≠0→∃ k o,ad=some ⟨k,o,none⟩∧Ck S.w k o cy)
def Ika {r2:Ty} {e:TypeId} {ys:List r2.den} {v:Value} (h:Cs X.P S.O S.w (.tm 0 []) e r2 ys v):Poa X.P S r2 ys v:=by
 obtain⟨by_,⟨vy,cy,b2,ey,hszy,hrowy,hrowsy,eby⟩,hny,hby⟩:=h;simp only[Wq,and_true]at ey;subst ey eby;rw[Yc]at hny;rcases Da hrowy with⟨e1,e2,_⟩|⟨k,cap,cur,e1,hc,_,_,_,ht⟩
 ·exact⟨none,0,cy,b2,by rw[e1,e2],hrowsy,hny.2.1,λ k hk=>hby k (Vi _ hk),λ h=>absurd e2 h⟩
 ·exact⟨_,cap,cy,b2,e1,hrowsy,hny.2.1,λ k hk=>hby k (Vi _ hk),λ _=>⟨k,0,rfl,Gb hc ht⟩⟩
def Ila {r' r2:Ty} {e:TypeId} {ys:List r'.den} {ys2:List r2.den} {v:Value} (hc:Li r2 r' ys=some ys2) (h:Qq X.P S.O S.w (.tm 0 []) e r' ys 0 v):Poa X.P S r2 ys2 v:=by
 obtain⟨_,ad,cap,cs,bs,⟨e1,_⟩,e2,e3,e4,e5,e6⟩:=h;rw[We,Zh,We]at e3;unfold Li at hc;split at hc
 ·rename_i hr;subst hr;cases hc
  exact⟨ad,cap,cs,bs,e1,e3,e4,e5,λ hn=>by
   obtain⟨k,o',g1,_,g2⟩:=e6 hn
   exact⟨k,o',g1,g2⟩⟩
 ·split at hc
  ·cases ys with
   |cons=>cases hc
   |nil=>
    cases hc;exact⟨ad,cap,[],[],e1,⟨rfl,rfl⟩,by simp,by simp,λ hn=>absurd rfl hn⟩
  ·cases hc
def Ima (hE:Gx X E) (K:Ah X S a) (hg:S.g=get A) {T:TypeId} {x:Operand} {u:Lf} {e:TypeId} {r':Ty} {xs:List r'.den} {m:Nat} (hs:opT E T A x=some (.one u)) (hu:H9 A u = .par e r' xs m):
  ∃ S1,Ah X S1 a∧S1.g=get (ups A (Qv u x))∧S1.w=S.w∧Qq X.P S1.O S1.w (.tm 0 []) e r' xs m (a.eval x)∧(∀ n q z v,Af X.P S (.tm n q) z v→Af X.P S1 (.tm n q) z v):=by
 have hne:u = .par e r' xs m:=by
  cases u<;>first|exact hu|(simp only[H9]at hu;cases hu;done)|skip
  simp only[H9]at hu;split at hu
  ·rename_i n v _ _ _ _
   revert hu
   generalize Nat.beq _ _=bb
   cases bb<;>intro hu<;>cases hu
  ·revert hu
   generalize Nat.beq _ _=bb
   cases bb<;>intro hu<;>cases hu
  ·cases hu
 subst hne;rcases I5 hE K hg hs with⟨t,rfl,ht,hst,het,hok⟩|⟨hnt,y',ey,hy'⟩
 ·obtain⟨K1,g1,g2⟩:=Im K t 0;refine⟨_,K1,?_,rfl,g1 [] (.par e r' xs m) _ hok,g2⟩;show upd S.g t _=_;rw[show Qv (.par e r' xs m) (.tmp t)=[⟨t,false,.one .dead⟩] from rfl,A8,← hg]
 ·cases ey;refine⟨S,K,?_,rfl,hy' (.tm 0 []),λ _ _ _ _ h=>h⟩
  cases x<;>first|exact hg|exact absurd rfl (hnt _)
def Ata {S1:Sit} (hE:Gx X E) {A1:Ab} {U2:List Up} {c:Call} (ho:o.op = .call c) (hc:c.callee = .builtin .append) {T:TypeId} {x y:Operand} (hT:c.argTypes.toList=[T,T]) (hx:c.args.toList=[x,y]) {d:Nat} (hod:o.dst=some d) (hdl:d<X.nt) {e:TypeId} {r' r2:Ty} {xs:List r'.den} {xs2 ys2:List r2.den} {te:TI}
  (K1:Ah X S1 a) (g1:S1.g=get A1) (hown:Cs X.P S1.O S1.w (.tm 0 []) e r' xs (a.eval x)) (hcx:Li r2 r' xs=some xs2) (hte:E.ti e=some te) (q2:Lj E T e=true) (hle:(xs2.length+ys2.length)*te.by_≤140737488355328)
  (hsrc0:∀ S2,Ah X S2 a→S2.g=get A1→∃ S3,Ah X S3 a∧S3.g=get (ups A1 U2)∧S3.w=S2.w∧(∀ n q z v,Af X.P S2 (.tm n q) z v→Af X.P S3 (.tm n q) z v)∧Poa X.P S3 r2 ys2 (a.eval y)):E7a X o a S1.w (ups (ups A1 U2) [⟨d,false,.one (.own e r2 (xs2++ys2))⟩]):=by
 obtain⟨K2,L2⟩:=K1.names (λ n _=>if n=0 then some (.tm 1 []) else none) (by intro n q;split<;>simp)
 have hown2:Af X.P { S1 with O:=atO S1.O (λ n _=>if n=0 then some (.tm 1 []) else none) } (.tm 1 []) (.own e r' xs) (a.eval x):=
  Af.later (P:=X.P) (x := .own e r' xs) (lab := .tm 0 []) (lab' := .tm 1 []) L2 hown (λ k hk=>⟨G6 hk (by simp),rfl⟩)
 obtain⟨S3,K3,g3,w3,tms3,ad,cap,cy,b2,ev,hrowsy,hny,hby,hne⟩:=hsrc0 _ K2 (by show S1.g=_;exact g1);have hown3:Cs X.P S3.O S3.w (.tm 1 []) e r' xs (a.eval x):=tms3 1 [] (.own e r' xs) _ hown2;have hown4:=hown3.cast hcx;obtain⟨bx,⟨vx,cx,b1,ex,hszx,hrowx,hrowsx,ebx⟩,hnx,hbx⟩:=hown4;simp only[Wq,and_true]at ex;subst ex ebx;have hu:=Gd q2 hE.ti;have hek:=hE.ti _ _ hte;have hdone:∀ u∈cy,u.oneCell'=true:=(hrowsy.rows (R':=λ _ c=>∀ u∈c,u.oneCell'=true) (λ x c b _ h=>Lsa r2 x c b h)).all (λ _ _ h=>h);obtain⟨v',w',hr,ho',hgr,hnew⟩:=Ewa (ty:=o.type) hu hek hszx hrowx ev (hrowsy.len (Ty.dep_len r2)) hdone hne hle (Jx r2);rw[← Vh]at ho'
 obtain⟨K4,L4⟩:=K3.names (λ n _=>if n=1 then some (.tm 0 [1]) else none) (by intro n q;split<;>simp)
 have h1:∀ k∈(a.eval x).ownBlock.toList++b1,atO S3.O (λ n _=>if n=1 then some (.tm 0 [1]) else none) k = .tm 0 [1]:=λ k hk=>G6 (hbx k hk) (by simp);have h0:∀ k∈b2,atO S3.O (λ n _=>if n=1 then some (.tm 0 [1]) else none) k = .tm 0 []:=λ k hk=>I6 (hby k hk) (by simp)
 have hvx:∀ k,(a.eval x).ownBlock=some k→k∈(a.eval x).ownBlock.toList++b1:=λ k hk=>by rw[hk];simp
 rw[Yc]at hnx
 have hnb:(b1++b2).Nodup:=by
  rw[Yc];refine⟨hnx.2.1,hny,λ k hk k' hk' e9=>?_⟩;subst e9;have e5:=h1 k (Vi _ hk);rw[h0 k hk']at e5;cases e5
 obtain⟨S',K',ew,g'⟩:=Ow K4 (A1:=ups A1 U2) (by show S3.g=_;exact g3) hdl (w':=w') (row:=(a.eval x).ownBlock) (e:=e) (r':=r2) (xs:=xs2++ys2) (v:=v') (cs:=cx++cy) (b2:=b1++b2) hgr
  (λ k hk=>⟨0,[1],h1 k (hvx k hk)⟩) hszx ho' ((hrowsx.append hrowsy).mono (λ x c b _ h=>Ty.dep_mono (λ k hk=>(L4.fz k hk).1) (λ _ _=>rfl) r2 x c b (λ _ _=>rfl) h)) hnb
  (λ k hk=>by
   rcases Vo.1 hk with hk|hk
   ·exact⟨_,h1 k (Vi _ hk)⟩
   ·exact⟨_,h0 k hk⟩)
  (λ k hk=>by
   have hnr:(a.eval x).ownBlock≠some k:=λ e9=>by
    rcases Vo.1 hk with hk|hk
    ·exact hnx.2.2 k (by rw[e9];simp) k hk rfl
    ·have e5:=h1 k (hvx k e9);rw[h0 k hk]at e5;cases e5
   refine⟨hnr,λ e9=>?_⟩;rcases hnew k e9 with h9|h9
   ·exact hnr h9
   ·have hlt:k<S3.w.heap.size:=K4.lt k (by
     rcases Vo.1 hk with hk|hk
     ·show atO S3.O _ k≠_;rw[h1 k (Vi _ hk)];simp
     ·show atO S3.O _ k≠_
      rw[h0 k hk];simp)
    omega) hnew
 have hw3:S3.w=S1.w:=w3;exact Ac (S:=S') (v:=v') (by rw[ew,← hw3];exact Id ho hc hT hx hr) (by rw[hod];exact K') g'
def Exa (hE:Gx X E) (K:Ah X S a) (hg:S.g=get A) {c:Call} (ho:o.op = .call c) (hc:c.callee = .builtin .append) (hd:∀ d,o.dst=some d→d<X.nt) (h:Ai E o A Kc=some r):Fw X o a S.w A Kc r:=by
 unfold Ai at h;rw[ho]at h;simp only[hc]at h;split at h
 ·rename_i T T' x y d hT hx hod;have hdl:=hd d hod;split at h
  ·rename_i u w hsu hsw;split at h
   ·rename_i e r' xs hsu';obtain⟨S1,K1,g1,w1,L1,hown,tms,_⟩:=Ara hE K hg hsu hsu';split at h
    ·-- all that is in it is Lt
     rename_i r2 _;split at h
     ·rename_i w2 hsw2;split at h
      ·rename_i e' r3 ys xs2 te hsn hcx hte;split at h
       ·rename_i ys2 hcy;rw[csi]at h;obtain⟨hq,h⟩:=h;rw[csi]at h;obtain⟨hq2,h⟩:=h;simp only[Va]at hq;obtain⟨⟨⟨q0,q1⟩,q2⟩,q3⟩:=hq;have he:e=e':=Vb q1;have hTT:T=T':=Vb q3;subst he;have hle:(xs2.length+ys2.length)*te.by_≤140737488355328:=Ve hq2
        have hg':=Ata (o:=o) hE (U2:=Qv w2 y) ho hc (by rw[hT,← hTT]) hx hod hdl K1 g1 hown hcx hte q2 hle (λ S2 K2 g2=>by
         obtain⟨S3,K3,g3,w3,_,hsrc,tms3,_⟩:=Ara hE K2 g2 hsw2 hsn
         exact⟨S3,K3,g3,w3,tms3,Ika (hsrc.cast hcy)⟩)
        rw[← Ae,← Ae,w1]at hg';exact⟨_,h,hg'⟩
       ·cases h
      ·-- a part of a list
       rename_i e' r3 ys m xs2 te hsn hcx hte;split at h
       ·rename_i ys2 hcy;rw[csi]at h;obtain⟨hq,h⟩:=h;rw[csi]at h;obtain⟨hq2,h⟩:=h;simp only[Va]at hq;obtain⟨hm0,⟨⟨q0,q1⟩,q2⟩,q3⟩:=hq;have he:e=e':=Vb q1;have hTT:T=T':=Vb q3;have hm:m=0:=Vb hm0;subst he hm;have hle:(xs2.length+ys2.length)*te.by_≤140737488355328:=Ve hq2
        have hg':=Ata (o:=o) hE (U2:=Qv w2 y) ho hc (by rw[hT,← hTT]) hx hod hdl K1 g1 hown hcx hte q2 hle (λ S2 K2 g2=>by
         obtain⟨S3,K3,g3,w3,hsrc,tms3⟩:=Ima hE K2 g2 hsw2 hsn
         exact⟨S3,K3,g3,w3,tms3,Ila hcy hsrc⟩)
        rw[← Ae,← Ae,w1]at hg';exact⟨_,h,hg'⟩
       ·cases h
      ·cases h
     ·cases h
    ·cases hno:Hh r' with
     |false=>rw[hno]at h;simp at h
     |true=>
     rw[hno,cond_true]at h;obtain⟨hsz,cs,hrow,hrows,hlab⟩:=(Cs.flat hno).1 hown;obtain⟨lw,hlw⟩:=Fc hE K hg hsw;have hlw':Af X.P S (.pl lw []) w (a.eval y):=hlw;split at h
     ·rename_i e' r'' ys hasl;split at h
      ·rename_i ys' te hcast hte;rw[csi]at h;obtain⟨hq,h⟩:=h;rw[csi]at h;obtain⟨hq2,h⟩:=h;simp only[Va]at hq;obtain⟨⟨q1,q2⟩,q3⟩:=hq;have he:e=e':=Vb q1;have hTT:T=T':=Vb q3;subst he hTT;have hle:(xs.length+ys'.length)*te.by_≤140737488355328:=Ve hq2;have hu:=Gd q2 hE.ti;have hek:=hE.ti _ _ hte;obtain⟨ad,cap,ds,ev,hdrows0,hne0⟩:=O2a K hg hlw' hasl;obtain⟨hdrows,hylen⟩:=Qz hcast hdrows0;have hdl2:=hdrows.len (Ty.rep_len r');have hdone:∀ u∈ds,u.oneCell'=true:=hdrows.all (Sf r');have hdrows1:Rows (λ x c=>r'.rep X.P (λ k=>S1.O k = .fz) S1.w x c) ys' ds:=hdrows.mono (λ x c=>Ty.rep_mono (λ k hk=>(L1.fz k hk).1) (λ k hk=>(L1.fz k hk).2) r' x c)
       obtain⟨v',w',hr,ho',hgr,hnew⟩:=Ewa (ty:=o.type) (w:=S1.w) (u:=a.eval y) (ad:=ad) (cap:=cap) hu hek hsz hrow (by rw[ev,hylen]) hdl2 hdone (λ hm=>by
        obtain⟨k,o',e1,e2⟩:=hne0 (λ e3=>hm (by rw[hylen,e3,Vp]))
        exact⟨k,o',e1,by rw[w1];exact e2⟩) hle (Jx r')
       rw[← Vh]at ho';obtain⟨S',K',ew,g'⟩:=Eta K1 g1 hdl hno hgr (λ k hk=>⟨0,[],hlab k hk⟩) hsz ho' (hrows.append hdrows1) hnew;rw[← Ae]at g';exact⟨_,h,Ac (S:=S') (v:=v') (by rw[ew,← w1];exact Id ho hc hT hx hr) (by rw[hod];exact K') g'⟩
      ·cases h
     ·split at h
      ·rename_i s _;split at h
       ·rename_i ys fo hcast hte;rw[csi]at h;obtain⟨hq,h⟩:=h;simp only[Va]at hq;obtain⟨⟨q2,q3⟩,q4⟩:=hq;have hle:(xs.length+s.size)*1≤140737488355328:=Ve q4;rw[Nat.mul_one]at hle;have hu:=Gd q2 hE.ti;have hus:=Oo q3 hE.ti;have hek:=hE.ti _ _ hte;have ev:a.eval y = .string s:=hlw'.1;obtain⟨i,z,i1,iz,i2,i3,_,z3⟩:=Asa S.w hek
        have hz:z = .int .u8 0:=by
         have:=z3 rfl;simp only[Dk,Wq,and_true]at this;exact this.symm
        subst hz
        have h63:xs.length+s.size≤maxLen:=by simp only[maxLen];omega
        have hsz1:r'.sz=1:=by
         have:=hsz;unfold Pd at this;rw[i1]at this;simp only[T0a,Vc]at this;rw[← this];exact i2
        rw[hsz1]at hrow;obtain⟨v',w',hr,ho',hgr,hnil⟩:=Go.Lib.run_append_own_string (P:=X.P) S1.w 0 T T' o.type e i hu hus i1 iz i2 i3 (a.eval x) xs.length cs hrow s h63 hle (Wf _)
        have hbl:(bytesOf s).length=s.size:=by simp[bytesOf]
        have hnew:=Xn hu hus i1 iz i2 i3 hrow h63 hle hr hnil;obtain⟨hrows2,hl2⟩:=Qz (P:=X.P) (G:=λ k=>S1.O k = .fz) (w:=S1.w) hcast (Ni s.data.toList)
        have hlen2:xs.length+s.size=(xs++ys).length:=by rw[Vh,hl2,hbl]
        rw[hlen2,← hsz1]at ho';obtain⟨S',K',ew,g'⟩:=Eta K1 g1 hdl hno hgr (λ k hk=>⟨0,[],hlab k hk⟩) hsz ho' (hrows.append hrows2) hnew;rw[← Ae]at g';exact⟨_,h,Ac (S:=S') (v:=v') (by rw[ew,← w1];exact Id ho hc hT hx (by rw[ev];exact hr)) (by rw[hod];exact K') g'⟩
       ·cases h
      ·cases h
   ·cases h
  ·cases h
 ·cases h
def Hg {P:Program} {w w':World} {T T':TypeId} {x:Operand} {u v:Value} (ho:o.op = .convert T T' x) (he:a.eval x=u) (hr:(convert T T' u).run P w = .ok v w'):(execOp a.eval o).run P w = .ok (.value v) w':=by
 unfold execOp;simp[ho,he,hr]
def Aua {P:Program} {T:TypeId} {k:IntKind} {by_:Nat} {fo:List (Nat×Nat×Bool)} (h:TOk P T ⟨.i k,false,by_,fo⟩):P.underlying T=some (.int k):=by
 have:=h.desc;unfold Nb at this
 split at this<;>simp_all
def J5 {P:Program} {T:TypeId} {by_:Nat} {fo:List (Nat×Nat×Bool)} (h:TOk P T ⟨.s,false,by_,fo⟩):P.underlying T=some .string:=by
 have:=h.desc;unfold Nb at this
 split at this<;>simp_all
def J6 {P:Program} {T e:TypeId} {by_:Nat} {fo:List (Nat×Nat×Bool)} (h:TOk P T ⟨.sl e (.i .u8),false,by_,fo⟩):P.underlying T=some (.slice e)∧P.underlying e=some (.int .u8):=by
 have hu:P.underlying T=some (.slice e):=by
  have:=h.desc;unfold Nb at this
  split at this<;>simp_all
 refine⟨hu,?_⟩;have:=h.desc;rw[hu]at this;simp only[Nb,Nta,Va]at this;obtain⟨_,h2⟩:=this;split at h2
 ·rename_i k' hk;simp at h2;rw[hk,← h2]
 ·cases h2
def Mo {P:Program} {G:Nat→Prop} {w:World}:∀ (xs:List Int) (cs:List Value),Rows (λ x c=>Ty.rep P G w (.i .u8) x c) xs cs→cs=xs.map (Value.int .u8)
 |[],_,h=>h
 |x::xs,_,⟨c,d,e,h1,h2⟩=>by
  have h1':c=[.int .u8 x]:=h1;rw[e,h1',Mo xs d h2];rfl
def Jl {P:Program} {w:World} {T T' e:TypeId} {xs:List Int} {ad:Option Addr} {cap:Nat} {cs:List Value} (hT:P.underlying T=some (.slice e)) (he:P.underlying e=some (.int .u8)) (hT':P.underlying T'=some .string)
  (hcs:cs=xs.map (Value.int .u8)) (hne:xs≠[]→∃ k o,ad=some ⟨k,o,none⟩∧Ck w k o cs):(convert T T' (.slice ad xs.length cap)).run P w = .ok (.string (H0 xs)) w:=by
 rw[run_convert_bytes_string w T T' e ad xs.length cap hT he hT']
 cases ad with
 |none=>
  have:xs=[]:=by
   by_cases hx:xs=[]
   ·exact hx
   ·obtain⟨k,o',e1,_⟩:=hne hx;cases e1
  subst this;simp[Conv.bytesToString,H0];rfl
 |some ad=>
  have hl:(loadCells ad xs.length).run P w = .ok (xs.map (Value.int .u8)).toArray w:=by
   by_cases hx:xs=[]
   ·subst hx;rfl
   ·obtain⟨k,o',e1,e2⟩:=hne hx;cases e1;have:=run_loadCells_list (P:=P) w ⟨k,o',none⟩ cs (λ j v hj=>by rw[Hx];exact e2 j v hj);rw[hcs]at this
    simpa using this
  rw[run_bytesToString w _ xs.length cap xs hl,foldl_push_bytes];simp[H0,ByteArray.empty,ByteArray.emptyWithCapacity];rfl
def Lta (K:Ah X S a) (hg:S.g=get A) {lab:Lab} {y:Lf} {u:Value} (h:Af X.P S lab y u):
  (∃ lab',Af X.P S lab' (Ru A y) u)∨∃ p v pi e r,∃ xs:List (Ty.den r),y = .da p v pi e r xs∧(S.g p).1=v∧Ru A y = .fz e r xs:=by
 unfold Ru;split
 ·rename_i p v pi e r xs
  cases hq:Nat.beq (get A p).1 v with
  |false=>exact .inl ⟨lab,trivial⟩
  |true=>exact .inr ⟨p,v,pi,e,r,xs,rfl,by rw[hg];exact Vb hq,rfl⟩
 ·exact .inl (Lv K hg h)
def Eya (hE:Gx X E) (K:Ah X S a) (hg:S.g=get A) {T T':TypeId} {x:Operand} {d:Nat} {U:List Up} (ho:o.op = .convert T T' x) (hod:o.dst=some d) (hd:d<X.nt) (hi:O4 E A T T' x d=some U) (h:Kc U=some r):Fw X o a S.w A Kc r:=by
 unfold O4 at hi;split at hi
 ·rename_i t;split at hi
  ·rename_i e xs e' by0 fo hs hT;cases hb:Nat.beq T T'&&(Nat.beq e e'&&Nat.blt 0 xs.length)
   ·rw[hb]at hi;cases hi
   rw[hb,cond_true]at hi;cases hi;rw[Va,Va]at hb;obtain⟨b1,b2,b3⟩:=hb;have hTT:T=T':=Vb b1;have hee:e=e':=Vb b2;have hpos:0<xs.length:=Ve b3;subst hTT;subst hee;rcases I5 hE K hg hs with⟨t',ht',htl,hst,he,_⟩|⟨hnt,_⟩
   ·cases ht'
    have hown:Cs X.P S.O S.w (.pl t []) e (.i .u8) xs (S.ph t):=by have:=K.at_ t;rw[← hst]at this;exact this
    obtain⟨hsz,cs,⟨hcl,hrow⟩,hrows,hlab⟩:=(Cs.flat rfl).1 hown;rcases hrow with⟨_,h0⟩|⟨g,cap,cur,ev,_,hh,hn,_,hcs,htk⟩
    ·exact absurd h0 (by omega)
    have hg0:S.O g = .pl t []:=hlab g (by rw[ev];rfl)
    have hgs:g<S.w.heap.size:=by
     rcases Rua g S.w.heap.size with hlt|hge
     ·exact hlt
     ·rw[Array.getElem?_eq_none hge]at hh;cases hh
    obtain⟨u1,u2⟩:=J6 (hE.ti _ _ hT)
    have hsh:S.w.shape? g=some (e,cur.size):=by unfold World.shape?;rw[hh]
    have hr:(convert T T (.slice (some ⟨g,0,none⟩) xs.length cap)).run X.P S.w = .ok (.slice (some ⟨g,0,none⟩) xs.length cap) (S.w.freeze ⟨g,cur.size,none⟩ 1):=by
     simp[convert,run_underlying u1,run_underlying u2,markStringish,hsh]
    obtain⟨w',ew⟩:∃ w',w'=S.w.freeze ⟨g,cur.size,none⟩ 1:=⟨_,rfl⟩
    have hfr:w' = { S.w with heap:=S.w.heap.modify g fun
      |.cells c elem (lo,hi) => .cells c elem (if lo==hi then (cur.size,cur.size+1) else (min lo cur.size,max hi (cur.size+1)))
      |o=>o }:=by rw[ew];rfl
    rw[← ew]at hr
    have hoth:∀ j,g≠j→w'.heap[j]? = S.w.heap[j]? := λ j hj=>by
     rw[hfr];show (S.w.heap.modify g _)[j]? = _;rw[Array.getElem?_modify,if_neg hj]
    have hnew:w'.heap[g]? = some (.cells cur e (cur.size,cur.size+1)):=by
     rw[hfr];show (S.w.heap.modify g _)[g]? = _;rw[Array.getElem?_modify,if_pos rfl,hh];rfl
    have hsize:w'.heap.size=S.w.heap.size:=by rw[hfr];show (S.w.heap.modify g _).size=_;rw[Array.size_modify]
    have K1:=(Im K t 0).1;have hO1:(Hz S t 0).O g = .tm 0 []:=E6a hg0
    obtain⟨K2,L2⟩:=K1.grow (w':=w') (row:=some g) (O':=λ k=>if k=g then .fz else (Hz S t 0).O k) ⟨by rw[hfr];rfl,by rw[hfr];rfl,by rw[hfr];rfl,by rw[hsize];exact Vq _,λ k hk hkg=>hoth k (λ c=>hkg (by rw[c]))⟩
     (λ k hk=>⟨0,[],by cases hk;exact hO1⟩)
     (λ k hk hnt=>by
      show (if k=g then Lab.fz else _)=_
      rw[if_neg (λ c=>by subst c;exact hnt 0 [] hO1)])
     (λ k hk=>by
      show k<w'.heap.size;rw[hsize]
      by_cases hkg:k=g
      ·rw[hkg];exact hgs
      ·simp only[hkg,if_false]at hk
       exact K1.lt k hk)
    have hcell:Ck w' g 0 cs:=by
     intro j u hj;simp only[World.cell?,hnew,Wb];rw[← htk,Wg]at hj;split at hj
     ·simpa using hj
     ·cases hj
    have hsv:Gi X.P (Og (Hz S t 0) w' (λ k=>if k=g then .fz else (Hz S t 0).O k)) 0 (.one (.fz e (.i .u8) xs)) (.slice (some ⟨g,0,none⟩) xs.length cap):=by
     refine⟨_,rfl,hsz,_,cap,cs,rfl,hn,hrows,λ _=>⟨g,0,rfl,?_,hcell⟩⟩;show (if _ then _ else _)=_;rw[if_pos rfl]
    have K3:=K2.put0 hd _ _ 0 rfl hsv;refine⟨_,h,Ac (S:=Hq (Og (Hz S t 0) w' (λ k=>if k=g then .fz else (Hz S t 0).O k)) (λ _ _=>none) d (.one (.fz e (.i .u8) xs)) (.slice (some ⟨g,0,none⟩) xs.length cap)) (Hg ho (he.trans ev) hr) (by rw[hod];exact K3) ?_⟩;show upd (upd S.g t ((S.g t).1+1,.one .dead)) d _=_;rw[show ups A [⟨t,false,.one .dead⟩,⟨d,false,.one (.fz e (.i .u8) xs)⟩]=ups (ups A [⟨t,false,.one .dead⟩]) [⟨d,false,.one (.fz e (.i .u8) xs)⟩] from rfl,A8,A8,← hg];rfl
   ·exact absurd rfl (hnt t)
  ·cases hi
 ·cases hi
def Cha (hE:Gx X E) (K:Ah X S a) (hg:S.g=get A) {T T':TypeId} {x:Operand} {d:Nat} (ho:o.op = .convert T T' x) (hod:o.dst=some d) (hd:d<X.nt) (h:Ai E o A Kc=some r):Fw X o a S.w A Kc r:=by
 unfold Ai at h;rw[ho,hod]at h;simp only at h
 cases hi:O4 E A T T' x d with
 |some U=>
  rw[hi]at h;exact Eya hE K hg ho hod hd hi h
 |none=>
 rw[hi]at h;simp only at h;split at h
 ·rename_i y hs;obtain⟨l,hl⟩:=Fc hE K hg hs;rcases Lta K hg (show Af X.P S (.pl l []) y (a.eval x) from hl) with⟨lab',hl'⟩|⟨p,v,pi,e,r0,xs,rfl,hv,hvw⟩
  rotate_left 1
  ·rw[hvw]at h;unfold conv at h;split at h
   ·rename_i hy;simp at hy
   ·rename_i hy;simp at hy
   ·rename_i e0 b0 f0 b f e' xs' hT hT' hy;rw[csi]at h;obtain⟨hq,h⟩:=h;simp only[Sv.one.injEq]at hy;cases hy;obtain⟨ad,cap,cs,e1,hrows,hne⟩:=Kka rfl hv hl;obtain⟨u1,u2⟩:=J6 (hE.ti _ _ hT);exact K5 K hg hod hd rfl (Hg ho e1 (Jl u1 u2 (J5 (hE.ti _ _ hT')) (Mo _ _ hrows) hne)) h
   ·rename_i hy;simp at hy
   ·rename_i hy;simp at hy
   ·cases h
  unfold conv at h;split at h
  ·rename_i k0 b0 f0 k b f k1 n hT hT' hy;simp only[Sv.one.injEq]at hy;rw[hy]at hl';have e1:a.eval x = .int k1 n:=hl'.1;refine K5 K hg hod hd rfl (Hg ho e1 ?_) h;simp[convert,run_underlying (Aua (hE.ti _ _ hT)),run_underlying (Aua (hE.ti _ _ hT')),Conv.intToInt]
  ·rename_i b0 f0 b f s hT hT' hy;simp only[Sv.one.injEq]at hy;rw[hy]at hl';have e1:a.eval x = .string s:=hl'.1;refine K5 K hg hod hd rfl (Hg ho e1 ?_) h;simp[convert,run_underlying (J5 (hE.ti _ _ hT)),run_underlying (J5 (hE.ti _ _ hT'))]
  ·rename_i e b0 f0 b f e' xs hT hT' hy;rw[csi]at h;obtain⟨hq,h⟩:=h;simp only[Sv.one.injEq]at hy;rw[hy]at hl';obtain⟨ad,cap,cs,e1,hrows,hne⟩:=Kja hl';obtain⟨u1,u2⟩:=J6 (hE.ti _ _ hT);exact K5 K hg hod hd rfl (Hg ho e1 (Jl u1 u2 (J5 (hE.ti _ _ hT')) (Mo _ _ hrows) hne)) h
  ·rename_i e b0 f0 b f e' xs hT hT' hy;rw[csi]at h;obtain⟨hq,h⟩:=h;simp only[Sv.one.injEq]at hy;rw[hy]at hl';obtain⟨ad,cap,cs,e1,hrows,hne⟩:=Eva rfl hl';obtain⟨u1,u2⟩:=J6 (hE.ti _ _ hT);exact K5 K hg hod hd rfl (Hg ho e1 (Jl u1 u2 (J5 (hE.ti _ _ hT')) (Mo _ _ hrows) hne)) h
  ·rename_i b0 f0 e b f s hT hT' hy;rw[csi]at h;obtain⟨hq,h⟩:=h;simp only[Sv.one.injEq]at hy;rw[hy]at hl';have e1:a.eval x = .string s:=hl'.1;obtain⟨u1,u2⟩:=J6 (hE.ti _ _ hT');have hr:=run_bytes_of_string (P:=X.P) S.w T T' e s (J5 (hE.ti _ _ hT)) u1 u2;have hszs:=(hE.ti _ _ hT').sz;simp only[szB,Va,beq_iff_eq]at hszs;generalize hob:Obj.cells (bytesRow s (grownCap S.w s.size 0 e)) e ((bytesRow s (grownCap S.w s.size 0 e)).size,(bytesRow s (grownCap S.w s.size 0 e)).size+1)=ob at hr
   obtain⟨K1,L1⟩:=K.grow (w':=S.w.drew.alloc ob) (row:=none) (O':=λ k=>if k=S.w.heap.size then .fz else S.O k) ⟨rfl,rfl,rfl,by simp,λ k hk _=>heap_alloc_old S.w.drew ob k hk⟩ (by simp)
    (λ k hk _=>by show (if k=S.w.heap.size then _ else _)=_;rw[if_neg (by omega)])
    (λ k hk=>by
     show k<(S.w.heap.push _).size;rw[Array.size_push]
     by_cases h:k=S.w.heap.size
     ·omega
     ·simp only[h,if_false]at hk;have:=K.lt k hk
      omega)
   have hcell:Ck (S.w.drew.alloc ob) S.w.heap.size 0 (s.data.toList.map λ b=>Value.int .u8 b.toNat):=by
    intro j u hj;have hb:(S.w.drew.alloc ob).heap[S.w.heap.size]? = some ob:=heap_alloc_new S.w.drew ob;subst hob
    have hjl:j<s.data.toList.length:=by
     rcases Rua j s.data.toList.length with h|h
     ·exact h
     ·rw[Rma (by simpa using h)]at hj;cases hj
    simp only[World.cell?,hb,Wb];simp only[bytesRow];rw[Array.getElem?_append_left (by simpa using hjl)]
    simpa using hj
   have hbl:(bytesOf s).length=s.size:=by simp[bytesOf]
   have hsv:Gi X.P (Og S (S.w.drew.alloc ob) (λ k=>if k=S.w.heap.size then .fz else S.O k)) 0 (.one (.fz e (.i .u8) (bytesOf s))) (.slice (some ⟨S.w.heap.size,0,none⟩) s.size (grownCap S.w s.size 0 e)):=by
    refine⟨_,rfl,hszs.1,_,grownCap S.w s.size 0 e,_,by rw[hbl],by rw[hbl];exact grownCap_ge _ _ _ _,Ni s.data.toList,λ _=>⟨_,0,rfl,?_,hcell⟩⟩;show (if _ then _ else _)=_;rw[if_pos rfl]
   have K2:=K1.put0 hd _ _ 0 rfl hsv;refine⟨_,h,Ac (S:=Hq (Og S (S.w.drew.alloc ob) (λ k=>if k=S.w.heap.size then .fz else S.O k)) (λ _ _=>none) d (.one (.fz e (.i .u8) (bytesOf s))) (.slice (some ⟨S.w.heap.size,0,none⟩) s.size (grownCap S.w s.size 0 e))) (Hg ho e1 hr) (by rw[hod];exact K2) ?_⟩;show upd S.g d _=_;rw[A8,← hg];rfl
  ·cases h
 ·cases h
end
end

end Go.Proofs.YtbbifgjgneefkaaGreat.Vf
