import Derived.Test.YtbbifgjgneefkaaMad
set_option linter.all false
namespace Go.Proofs.Ytbbifgjgneefkaa.Vf
open Go
open List (length getD)
open Int (toNat)
open Go.IntKind (wrap)
open BitVec (ofInt)
def Owa:=@Bool.or_eq_true
def P5a:=@Nat.beq_refl
def Pca:=@Ne.symm

section
attribute [local irreducible] C H
section
variable {X:Cx} {S S':Sit} {a:Act} {E:En} {A:Ab} {o:Oper} {R:Type} {Kc:List Up→Option R} {r:R}
def Ah.retm (K:Ah X S a) (O':Nat→Lab) (h:∀ k o,S.O k=o→(∀ n q,o ≠ .tm n q)→O' k=o):Ah X { S with O:=O' } a∧Ci S { S with O:=O' }:=by
 have L:Ci S { S with O:=O' }:=⟨λ _=>Vo _,λ _ _=>rfl,λ p v e r xs' h _=>⟨xs',h,rfl⟩,λ _ _=>rfl,λ k hk=>⟨h k _ hk (by simp),rfl⟩,Ci.box_of (λ _ _ _ h=>h) (λ k b hk=>⟨h k _ hk (by simp),rfl⟩),λ p _ hd=>⟨hd,λ _ _ _ h=>h,λ k hk=>⟨.inl (h k _ hk (by simp)),rfl⟩⟩,λ _ _=>rfl⟩
 exact⟨K.ghost _ _ (λ k e=>h k _ e (by simp)) (λ k e1 e2=>e1 (h k _ e2 (by simp))) (λ k e=>h k _ e (by simp)) (λ k b e=>h k _ e (by simp)) (λ _ _ e=>e)
  (λ l=>(K.at_ l).later L (λ p k e=>⟨h k _ e (by simp),rfl⟩)),L⟩
def Lla (K:Ah X S a) {i:Nat} {q:List Nat} {e:TypeId} {r r':Ty} {xs:List r'.den} {ys:List r.den} {u:Value} (hno:Gd r=true) (hc:K7 r r' xs=some ys) (h:Ch X.P S.O S.w (.tm i q) e r' xs u):
  ∃ O',(∀ k,S.O k ≠ .tm i q→O' k=S.O k)∧Ah X { S with O:=O' } a∧Ci S { S with O:=O' }∧Ch X.P O' S.w (.tm i q) e r ys u:=by
 obtain⟨bs,⟨v,cs,b2,ev,hs,ho,hd,eb⟩,hn,hk⟩:=h;simp only[Wp,and_true]at ev;subst ev
 let O':Nat→Lab:=λ k=>if k∈b2 then .fz else S.O k
 have hlab:∀ k∈b2,S.O k = .tm i q:=λ k hk2=>hk k (by rw[eb];exact Vi _ hk2);have hO:∀ k,S.O k ≠ .tm i q→O' k=S.O k:=λ k h1=>if_neg (λ h2=>h1 (hlab k h2));obtain⟨K1,L1⟩:=K.retm O' (λ k o h1 h2=>(hO k (by rw[h1];exact h2 i q)).trans h1);refine⟨O',hO,K1,L1,(Ch.flat hno).2 ?_⟩;obtain⟨e1,rfl⟩:=Ly hc
 have hsz:r'.sz=r.sz:=by rw[← Gl r',e1,Gl r]
 have hf:∀ k,S.O k = .fz→O' k = .fz:=λ k h1=>(hO k (by rw[h1];simp)).trans h1;refine⟨by rw[← hsz];exact hs,cs,by rw[← hsz,Yj];exact ho,?_,λ k h1=>?_⟩
 ·have hr:Rows (λ x c=>r'.rep X.P (λ k=>O' k = .fz) S.w x c) xs cs:=hd.rows (λ x c b hb h=>Ty.dep_rep hf r' x c b (λ k hk=>if_pos (hb k hk)) h);exact hr.map (λ x c hx=>(C5a e1 x c).1 hx)
 ·have h2:k∉b2:=λ h3=>by
   rw[eb,h1]at hn;simp only[Option.toList_some,Ya,Ys]at hn;exact hn.1 h3
  exact(if_neg h2).trans (hk k (by rw[eb,h1];simp))
structure Ce (X:Cx) (S S':Sit) (ex:Nat→List Nat→Prop):Prop where
 w:S'.w=S.w
 bb:S'.bb=S.bb
 ph:S'.ph=S.ph
 later:Ci S S'
 bx:∀ b k,S.O k = .bx b→S'.O k = .bx b
 heads:∀ b n,(S.g (H b)).2 = .one (.hd n)→S'.g (H b)=S.g (H b)
 tms:∀ n q x u,¬ ex n q→Af X.P S (.tm n q) x u→Af X.P S' (.tm n q) x u
 tm:∀ n q k,¬ ex n q→S.O k = .tm n q→S'.O k = .tm n q
def Ce.trans {S1 S2:Sit} {e1 e2 e3:Nat→List Nat→Prop} (h1:∀ n q,e1 n q→e3 n q) (h2:∀ n q,e2 n q→e3 n q) (h:Ce X S S1 e1) (h':Ce X S1 S2 e2):Ce X S S2 e3:=
 ⟨h'.w.trans h.w,h'.bb.trans h.bb,h'.ph.trans h.ph,h.later.trans h'.later,λ b k e=>h'.bx b k (h.bx b k e),λ b n e=>by
  have e1:=h.heads b n e
  exact(h'.heads b n (by rw[e1];exact e)).trans e1,λ n q x u hn hx=>h'.tms n q x u (λ h=>hn (h2 n q h)) (h.tms n q x u (λ h=>hn (h1 n q h)) hx),λ n q k hn hk=>h'.tm n q k (λ h=>hn (h2 n q h)) (h.tm n q k (λ h=>hn (h1 n q h)) hk)⟩
def Ce.refl (S:Sit) (ex:Nat→List Nat→Prop):Ce X S S ex:=⟨rfl,rfl,rfl,.refl S,λ _ _ h=>h,λ _ _ _=>rfl,λ _ _ _ _ _ h=>h,λ _ _ _ _ h=>h⟩
def J1.x {ex:Nat→List Nat→Prop} (h:J1 X S S'):Ce X S S' ex:=⟨h.w,h.bb,h.ph,h.later,h.bx,h.heads,λ n q x u _ hx=>h.tms n q x u hx,λ n q k _ hk=>h.tm n q k hk⟩
def Xf (K:Ah X S a) {i:Nat} {q:List Nat} {e:TypeId} {r:Ty} {x y:Lf} {u:Value} (ha:P9 e r x=some y) (h:Af X.P S (.tm i q) x u):
  ∃ S',Ah X S' a∧S'.g=S.g∧Ce X S S' (λ n q'=>n=i∧q'=q)∧Af X.P S' (.tm i q) y u:=by
 unfold P9 at ha;split at ha
 ·rename_i e' r' xs;rw[csi]at ha;obtain⟨hb,ha⟩:=ha;have he:e=e':=Vb hb;subst he;split at ha
  ·rename_i ys hys;cases ha;exact⟨S,K,rfl,.refl S _,Ch.cast hys h⟩
  ·rw[csi]at ha;obtain⟨hno,ha⟩:=ha;split at ha
   ·rename_i ys hys;cases ha;obtain⟨O',h1,K1,L1,h2⟩:=Lla K hno hys h;have hO:∀ k n q',¬ (n=i∧q'=q)→S.O k = .tm n q'→O' k = .tm n q':=λ k n q' hn hk=>(h1 k (by rw[hk];intro e1;cases e1;exact hn ⟨rfl,rfl⟩)).trans hk;exact⟨_,K1,rfl,⟨rfl,rfl,rfl,L1,λ b k hk=>(h1 k (by rw[hk];simp)).trans hk,λ _ _ _=>rfl,λ n q' x u hn hx=>hx.later L1 (λ k hk=>⟨hO k n q' hn hk,rfl⟩),λ n q' k hn hk=>hO k n q' hn hk⟩,h2⟩
   ·cases ha
 ·cases ha
def H6:∀ (ts:List Ty) (l:List Lf) {A:Ab} {m:List Lf} {us:List Up},Ck A ts l=some (m,us)→m.length=l.length∧ts.length=l.length
 |[],[],A,m,us,h=>by
  simp only[Ck,Vc,Vu]at h;obtain⟨rfl,_⟩:=h;exact⟨rfl,rfl⟩
 |[],_::_,A,m,us,h=>by simp[Ck]at h
 |t::ts,[],A,m,us,h=>by cases t<;>simp[Ck]at h
 |t::ts,x::l,A,m,us,h=>by
  have rest:∀ {A:Ab} {m':List Lf} {us':List Up},Ck A ts l=some (m',us')→m'.length=l.length∧ts.length=l.length:=λ h=>H6 ts l h
  cases t with
  |ow e r=>
   simp only[Ck]at h;split at h
   ·split at h
    ·rename_i hr;cases h;simp[rest hr]
    ·cases h
   ·cases h
  |_=>
   simp only[Ck]at h;split at h
   ·rename_i hr;cases h;simp[rest hr]
   ·cases h
def Ic {x:Lf} {l:List Lf} (h:A3 (x::l)=true):A3 l=true∧((∃ v,x = .sc v)∨(∃ e r,∃ xs:List (Ty.den r),x = .fz e r xs)∨∃ e r,∃ xs:List (Ty.den r),x = .own e r xs):=by
 cases x<;>first|(simp[A3]at h;done)|skip
 ·exact⟨by simpa[A3] using h,.inl ⟨_,rfl⟩⟩
 ·exact⟨by simpa[A3] using h,.inr (.inl ⟨_,_,_,rfl⟩)⟩
 ·exact⟨by simpa[A3] using h,.inr (.inr ⟨_,_,_,rfl⟩)⟩
def J2 (i:Nat) (path:Nat→List Nat):∀ (ts:List Ty) (l:List Lf) {S:Sit} {A:Ab} {j:Nat} {us:List Value} {m:List Lf} {vs:List Up},Ah X S a→S.g=get A→Ck A ts l=some (m,vs)→A3 m=true→A5 X.P S (λ n => .tm i (path n)) j l us→
  (∀ n n',j≤n→n<j+l.length→j≤n'→n'<j+l.length→path n=path n'→n=n')→
  ∃ S',Ah X S' a∧S'.g=get (ups A vs)∧Ce X S S' (λ n q=>n=i∧∃ k,j≤k∧k<j+l.length∧q=path k)∧A5 X.P S' (λ n => .tm i (path n)) j m us
 |[],[],S,A,j,[],m,vs,K,hg,h,_,_,_=>by
  simp only[Ck,Vc,Vu]at h;obtain⟨rfl,rfl⟩:=h;exact⟨S,K,hg,.refl S _,trivial⟩
 |[],[],S,A,j,_::_,m,vs,K,hg,h,_,hl,_=>hl.elim
 |[],_::_,S,A,j,us,m,vs,K,hg,h,_,hl,_=>by simp[Ck]at h
 |t::_,[],S,A,j,us,m,vs,K,hg,h,_,hl,_=>by cases t<;>simp[Ck]at h
 |_::_,_::_,S,A,j,[],m,vs,K,hg,h,_,hl,_=>hl.elim
 |t::ts,x::l,S,A,j,u::us,m,vs,K,hg,h,hst,hl,hi=>by
  have go:∀ {y:Lf} {v0 vs':List Up} {m':List Lf} {S1:Sit},m=y::m'→vs=v0++vs'→Ck (ups A v0) ts l=some (m',vs')→Ah X S1 a→S1.g=get (ups A v0)→Ce X S S1 (λ n q=>n=i∧q=path j)→Af X.P S1 (.tm i (path j)) y u→
    ∃ S',Ah X S' a∧S'.g=get (ups A vs)∧Ce X S S' (λ n q=>n=i∧∃ k,j≤k∧k<j+(x::l).length∧q=path k)∧A5 X.P S' (λ n => .tm i (path n)) j m (u::us):=by
   intro y v0 vs' m' S1 e1 e2 hrec K1 g1 G1 hy;subst e1 e2
   have hrest:A5 X.P S1 (λ n => .tm i (path n)) (j+1) l us:=A5.impAt (λ n n1 n2 x u hx=>G1.tms _ _ _ _ (λ h=>by
    have:=hi n j (by omega) (by simp only[Vg];omega) (Vo _) (by simp only[Vg];omega) h.2
    omega) hx) hl.2
   obtain⟨S2,K2,g2,G2,hl2⟩:=J2 i path ts l K1 g1 hrec (Ic hst).1 hrest (λ n n' a1 a2 a3 a4 e=>hi n n' (by omega) (by simp only[Vg];omega) (by omega) (by simp only[Vg];omega) e);refine⟨S2,K2,by rw[Ae];exact g2,Ce.trans (λ n q h=>⟨h.1,j,Vo _,by simp only[Vg];omega,h.2⟩) (λ n q h=>?_) G1 G2,G2.tms _ _ _ _ (λ h=>?_) hy,hl2⟩
   ·obtain⟨h1,k,k1,k2,k3⟩:=h;exact⟨h1,k,by omega,by simp only[Vg];omega,k3⟩
   ·obtain⟨_,k,k1,k2,k3⟩:=h;have:=hi j k (Vo _) (by simp only[Vg];omega) (by omega) (by simp only[Vg];omega) k3;omega
  have h0:Af X.P S (.tm i (path j)) x u:=hl.1
  have plain:Ck A (t::ts) (x::l)=(match Ck (ups A (N3 A x)) ts l with|some (m,us)=>some (Hn (Gk A x)::m,N3 A x++us)|none=>none)→
    ∃ S',Ah X S' a∧S'.g=get (ups A vs)∧Ce X S S' (λ n q=>n=i∧∃ k,j≤k∧k<j+(x::l).length∧q=path k)∧A5 X.P S' (λ n => .tm i (path n)) j m (u::us):=by
   intro hpl;rw[hpl]at h;split at h
   ·rename_i m' vs' hrec;cases h;obtain⟨hst1,hst2⟩:=Ic hst
    cases x with
    |al p v=>
     have hk:Gk A (.al p v)=Hn (G5 A (.al p v)):=rfl
     by_cases hown:∃ e r,∃ xs:List (Ty.den r),get A p=(v,.one (.own e r xs))
     ·obtain⟨e,r',xs,hp⟩:=hown
      have hc:N3 A (.al p v)=[⟨p,true,.one (.fz e r' xs)⟩]:=by simp[N3,hp]
      have hs:Hn (Gk A (.al p v)) = .fz e r' xs:=by simp[Gk,G5,hp,Hn]
      rw[hc]at hrec;rw[hc,hs]at go ⊢
      have hSp:(S.g p).2 = .one (.own e r' xs):=by rw[hg,hp]
      obtain⟨K1,_,hf⟩:=Nr K hSp;have E1:=Sn K hSp
      have g1:(frS S p e r' xs).g=get (ups A [⟨p,true,.one (.fz e r' xs)⟩]):=by
       show upd S.g p _=_;rw[Jc,← hg]
      refine go rfl rfl hrec K1 g1 ⟨rfl,rfl,rfl,E1.later,λ b k hk=>E1.bx b k hk,λ b n hn=>Aa _ _ (λ e1=>by rw[e1,hSp]at hn;cases hn),λ n q x u _ hx=>hx.later E1.later (λ k hk=>⟨E1.tm n q k hk,rfl⟩),λ n q k _ hk=>E1.tm n q k hk⟩ ?_;rw[h0.2 (by rw[hg,hp])];exact Af.relab (lab' := .tm i (path j)) rfl hf
     ·have hc:N3 A (.al p v)=[]:=by
       simp only[N3];split
       ·rename_i n e r' xs hp;cases hb:Nat.beq n v
        ·rfl
        have:n=v:=by simpa using hb
        subst this;exact absurd ⟨e,r',xs,hp⟩ hown
       ·rfl
      rw[hc]at hrec;rw[hc]at go ⊢;refine go rfl rfl hrec K hg (.refl S _) ?_;rw[hk]at hst2 ⊢;simp only[G5]at hst2 ⊢;split
      ·rename_i n e r' xs hp;cases hb:Nat.beq n v
       ·exact trivial
       have:n=v:=by simpa using hb
       subst this;exact absurd ⟨e,r',xs,hp⟩ hown
      ·rename_i n e r' xs hp;cases hb:Nat.beq n v
       ·exact trivial
       have hnv:n=v:=by simpa using hb
       subst hnv;rw[cond_true];have h3:=K.at_ p;rw[hg,hp,← h0.2 (by rw[hg,hp])]at h3;exact Af.relab (x := .fz e r' xs) (lab := .pl p []) (lab' := .tm i (path j)) rfl h3
      ·exact trivial
    |own e r' xs=>
     obtain⟨K1,L1⟩:=K.retm (atO S.O (λ n q=>if n=i∧q=path j then some .fz else none)) (λ k o e1 ho=>Al e1 ho);have hO:∀ n q k,¬ (n=i∧q=path j)→S.O k = .tm n q→atO S.O (λ n q=>if n=i∧q=path j then some .fz else none) k = .tm n q:=λ n q k hn hk=>H1 hk (if_neg hn);refine go (v0:=[]) rfl rfl hrec K1 hg ⟨rfl,rfl,rfl,L1,λ b k hk=>Al hk (by simp),λ _ _ _=>rfl,λ n q x u hn hx=>hx.later L1 (λ k hk=>⟨hO n q k hn hk,rfl⟩),λ n q k hn hk=>hO n q k hn hk⟩ ?_;exact Ch.reads (O':=atO S.O (λ n q=>if n=i∧q=path j then some .fz else none)) h0 (λ k hk=>Al hk (by simp)) (λ k hk=>F3 hk (if_pos ⟨rfl,rfl⟩))
    |sc v=>exact go (v0:=[]) rfl rfl hrec K hg (.refl S _) h0
    |fz e r' xs=>exact go (v0:=[]) rfl rfl hrec K hg (.refl S _) h0
    |_=>rcases hst2 with⟨_,e1⟩|⟨_,_,_,e1⟩|⟨_,_,_,e1⟩<;>simp[Gk,Hn]at e1
   ·cases h
  cases t with
  |ow e r=>
   simp only[Ck]at h;split at h
   ·rename_i y hy;split at h
    ·rename_i m' vs' hrec;cases h
     by_cases hal:∃ p v,x = .al p v
     ·obtain⟨p,v,rfl⟩:=hal
      have hown:∃ e' r',∃ xs:List (Ty.den r'),G5 A (.al p v) = .own e' r' xs:=by
       generalize G5 A (.al p v)=z at hy;unfold P9 at hy;split at hy
       ·exact⟨_,_,_,rfl⟩
       ·cases hy
      obtain⟨e',r',xs,hsn⟩:=hown;obtain⟨p',v',e0,hp⟩:=Jf hsn (λ e r xs hy=>by cases hy);cases e0;rw[hsn]at hy;have he:u=S.ph p:=h0.2 (by rw[hg,hp])
      let f:List Nat→Option (List Nat):=λ q=>match q with|[]=>some (path j)|_=>none
      have L1:=Ht S p i f (.one .dead);obtain⟨K1,h1,h2⟩:=Qj K p i f (.one .dead) (by simp) trivial
      have hown:Af X.P S (.pl p []) (.own e' r' xs) (S.ph p):=by have:=K.at_ p;rw[hg,hp]at this;exact this
      have hown1:=h1 [] (path j) _ _ rfl hown
      have g1:(Lv S p i f (.one .dead)).g=get (ups A (U8 (.al p v))):=by
       show upd S.g p _=get (ups A [⟨p,false,.one .dead⟩]);rw[A7,← hg]
      have G1:Ce X S (Lv S p i f (.one .dead)) (λ n q=>n=i∧q=path j):=⟨rfl,rfl,rfl,L1,λ b k hk=>(F4 (by simp[hk])).trans hk,λ b n hn=>Aa _ _ (λ e1=>by rw[e1,hg,hp]at hn;cases hn),λ n q x u _ hx=>h2 n q x u hx,λ n q k _ hk=>(F4 (by simp[hk])).trans hk⟩;obtain⟨S2,K2,g2,G2,hy2⟩:=Xf K1 hy hown1;exact go rfl rfl hrec K2 (g2.trans g1) (Ce.trans (λ _ _ h=>h) (λ _ _ h=>h) G1 G2) (by rw[he];exact hy2)
     ·have ht:U8 x=[]:=by cases x<;>first|rfl|exact absurd ⟨_,_,rfl⟩ hal
      have hsn:G5 A x=x:=by cases x<;>first|rfl|exact absurd ⟨_,_,rfl⟩ hal
      rw[hsn]at hy;rw[ht]at hrec;rw[ht]at go ⊢;obtain⟨S2,K2,g2,G2,hy2⟩:=Xf K hy h0;exact go rfl rfl hrec K2 (g2.trans hg) G2 hy2
    ·cases h
   ·cases h
  |_=>exact plain rfl
def G5a {s:Sv} {l:List Lf} (hnt:∀ vs,s ≠ .tup vs) (hl:l=parts s):∀ n n',0≤n→n<0+l.length→0≤n'→n'<0+l.length→pth s n=pth s n'→n=n':=by
 intro n n' _ h1 _ h2 e;subst hl
 cases s with
 |one x=>simp only[parts,Vg,Vs]at h1 h2;omega
 |agg l=>simpa[pth] using e
 |tup vs=>exact absurd rfl (hnt vs)
def Xg (hE:Fo X E) (K:Ah X S a) (hg:S.g=get A) {T:TypeId} {y:Operand} {s:Sv} {ts:List Ty} {m:List Lf} {vs:List Up} (hs:(opT E T A y=some s∨∃ x,s = .one x∧(∀ t,y ≠ .tmp t)∧∀ lab,Af X.P S lab x (a.eval y))) (hnt:∀ vs,s ≠ .tup vs) (h:Lw A y s ts=some (m,vs)) (i:Nat):
  ∃ S',Ah X S' a∧S'.g=get (ups A vs)∧Ce X S S' (λ n _=>n=i)∧A3 m=true∧m.length=ts.length∧∃ us,M3 s (a.eval y) us∧A5 X.P S' (λ n => .tm i (pth s n)) 0 m us:=by
 unfold Lw at h;split at h
 ·rename_i m0 vs0 ht
  cases hst:A3 m0 with
  |false=>rw[hst]at h;simp at h
  |true=>
  rw[hst]at h;simp only[cond_true,Vc,Vu]at h;obtain⟨rfl,rfl⟩:=h
  have none1:∀ x,s = .one x→(∀ t,y ≠ .tmp t)→(∀ lab,Af X.P S lab x (a.eval y))→∃ S1,Ah X S1 a∧S1.g=get (ups A (gone y s))∧J1 X S S1∧∃ us,M3 s (a.eval y) us∧A5 X.P S1 (λ n => .tm i (pth s n)) 0 (parts s) us:=by
   intro x e hnt' hx;subst e
   have hgo:gone y (.one x)=[]:=by
    unfold gone;split
    ·exact absurd rfl (hnt' _)
    ·rfl
   exact⟨S,K,by rw[hgo];exact hg,.refl S,[_],rfl,hx _,trivial⟩
  have first:∃ S1,Ah X S1 a∧S1.g=get (ups A (gone y s))∧J1 X S S1∧∃ us,M3 s (a.eval y) us∧A5 X.P S1 (λ n => .tm i (pth s n)) 0 (parts s) us:=by
   rcases hs with hs|⟨x,e,hnt',hx⟩
   ·rcases H0 hE K hg hs with⟨t,rfl,htl,hst,het,hok⟩|⟨hnt',x,e,hx⟩
    ·cases ho:Hr s with
     |false=>
      have hgo:gone (.tmp t) s=[]:=by simp[gone,ho]
      refine⟨S,K,by rw[hgo];exact hg,.refl S,?_⟩
      cases s with
      |tup vs=>exact absurd rfl (hnt vs)
      |one x=>exact⟨[_],rfl,(A5.relab (f:=λ _ => .pl t []) ho ⟨hok,trivial⟩)⟩
      |agg l=>
       obtain⟨us,e1,hl⟩:=hok;exact⟨us,e1,hl.relab ho⟩
     |true=>
      have hgo:gone (.tmp t) s=[⟨t,false,.one .dead⟩]:=by simp[gone,ho]
      obtain⟨K1,h1,h2⟩:=Hh K t i;have G1:J1 X S (Gw S t i):=⟨rfl,rfl,rfl,Gn S t i,λ b k hk=>(Ec (by simp[hk])).trans hk,λ b n hn=>Aa _ _ (λ e1=>by rw[e1,← hst]at hn;subst hn;simp[Hr,Cm]at ho),h2,λ n q k hk=>(Ec (by simp[hk])).trans hk⟩;refine⟨_,K1,?_,G1,?_⟩
      ·rw[hgo,A7,← hg];rfl
      ·cases s with
       |tup vs=>exact absurd rfl (hnt vs)
       |one x=>exact⟨[_],rfl,h1 [] x _ hok,trivial⟩
       |agg l=>
        obtain⟨us,e1,hl⟩:=hok;exact⟨us,e1,hl.imp (λ n x u hx=>h1 [n] x u hx)⟩
    ·exact none1 x e hnt' hx
   ·exact none1 x e hnt' hx
  obtain⟨S1,K1,g1,G1,us,hsh,hl⟩:=first
  obtain⟨S2,K2,g2,G2,hl2⟩:=J2 i (pth s) ts (parts s) K1 g1 ht hst hl (G5a hnt rfl);obtain⟨l1,l2⟩:=H6 _ _ ht;exact⟨S2,K2,by rw[Ae];exact g2,Ce.trans (λ n q h=>h) (λ n q h=>h.1) (J1.x (ex:=λ n _=>n=i) G1) G2,hst,by rw[l1,← l2],us,hsh,hl2⟩
 ·cases h
def Qq (hE:Fo X E) (K:Ah X S a) (hg:S.g=get A) {T:TypeId} {y:Operand} {s:Sv} {t:Ty} {m:List Lf} {vs:List Up} (hs:(opT E T A y=some s∨∃ x,s = .one x∧(∀ t,y ≠ .tmp t)∧∀ lab,Af X.P S lab x (a.eval y))) (hnt:∀ vs,s ≠ .tup vs) (h:Kt A y s t=some (m,vs)) (i:Nat):
  ∃ S',Ah X S' a∧S'.g=get (ups A vs)∧Ce X S S' (λ n _=>n=i)∧A3 m=true∧m.length=t.sz∧∃ us,M3 s (a.eval y) us∧A5 X.P S' (λ n => .tm i (pth s n)) 0 m us:=by
 rw[← G9];exact Xg hE K hg hs hnt h i
def N7 (K:Ah X S a) (hg:S.g=get A) {b v:Nat} {t t':Ty} {m:List Lf} {vs:List Up} (h:Ka A b v t t'=some (m,vs)) (i:Nat):
  (S.g (H b)).1=v∧(S.g (H b)).2 = .one (.hd t.sz)∧t'.sz=t.sz∧A3 m=true∧m.length=t.sz∧
  ∃ S',Ah X S' a∧S'.g=get (ups A vs)∧Ce X S S' (λ n _=>n=i)∧A5 X.P S' (λ n => .tm i [n]) 0 m ((List.range t.sz).map λ j=>S.ph (C b (0+j))):=by
 unfold Ka at h;split at h
 ·rename_i n hd hp;obtain⟨hq,h⟩:=cs h;simp only[Va]at hq;obtain⟨⟨q1,q2⟩,q3⟩:=hq;have e1:n=v:=Vb q1;have e2:hd=t.sz:=Vb q2;have e3:hd=t'.sz:=Vb q3;split at h
  ·rename_i l us hx;cases hst:A3 l
   ·rw[hst]at h;simp at h
   rw[hst]at h;simp only[cond_true,Vc,Vu]at h;obtain⟨rfl,rfl⟩:=h;obtain⟨c1,c2,c3⟩:=Jh K hg b hd 0;obtain⟨S2,K2,g2,G2,hl2⟩:=J2 i (λ n=>[n]) (Dx t) (cellsOf A b 0 hd) K hg hx hst (c3 _ 0) (λ n n' _ _ _ _ e=>by simpa using e);obtain⟨l1,l2⟩:=H6 _ _ hx;rw[e2]at hl2;exact⟨by rw[hg,hp];exact e1,by rw[hg,hp,e2],by omega,hst,by rw[l1,c1,e2],S2,K2,g2,Ce.trans (λ n q h=>h) (λ n q h=>h.1) (Ce.refl S (λ n _=>n=i)) G2,hl2⟩
  ·cases h
 ·cases h
end
end

section
attribute [local irreducible] C H
def Bs.split {α:Type} {R:α→List Value→List Nat→Prop} {n:Nat} (hn:∀ x c b,R x c b→c.length=n) (d:α):∀ {xs:List α} {cs:List Value} {bs:List Nat} (_:Bs R xs cs bs) (i:Nat) (_:i<xs.length),
  ∃ b1 bi b2,bs=b1++(bi++b2)∧Bs R (xs.take i) (cs.take (i*n)) b1∧R (xs.getD i d) ((cs.drop (i*n)).take n) bi∧Bs R (xs.drop (i+1)) (cs.drop (i*n+n)) b2
 |[],_,_,_,i,hi=>absurd hi (by simp)
 |x::xs,cs,bs,⟨c,d',b1,b2,e,eb,h1,h2⟩,0,_=>by
  subst e eb;have hl:=hn _ _ _ h1;refine⟨[],b1,b2,rfl,by simp[Bs],?_,?_⟩
  ·simp only[Zh,Wj];rw[← hl,Oya];exact h1
  ·simp only[Zh,Wb];rw[← hl,Yw];exact h2
 |x::xs,cs,bs,⟨c,d',b1,b2,e,eb,h1,h2⟩,i+1,hi=>by
  subst e eb;have hl:=hn _ _ _ h1;obtain⟨b3,bi,b4,e3,r1,r2,r3⟩:=h2.split hn d i (by simpa using hi)
  have em:(i+1)*n=c.length+i*n:=by rw[hl,Yg,Yk,Zd]
  refine⟨b1++b3,bi,b4,by rw[e3,Vj],⟨c,_,b1,b3,?_,rfl,h1,r1⟩,?_,?_⟩
  ·rw[em,Ze]
  ·rw[em,← Wn,Yw];exact r2
  ·rw[em,Yr c.length,List.drop_length_add_append];exact r3
def Sr {P:Program} {S:Sit}:∀ {l:List Lf} {us:List Value} {bs:List Nat} (j0:Nat),Fl P (λ k=>S.O k = .fz) S.w l us bs→bs.Nodup→
  ∃ f:Nat→Option Nat,(∀ k,k∉bs→f k=none)∧(∀ k∈bs,∃ j,f k=some j∧j0≤j∧j<j0+l.length)∧
   ∀ (S':Sit) (lab:Nat→Lab),S'.w=S.w→(∀ k,S.O k = .fz→S'.O k = .fz)→(∀ k j,f k=some j→S'.O k=lab j)→A5 P S' lab j0 l us
 |[],us,bs,j0,h,_=>by
  obtain⟨rfl,rfl⟩:=h;exact⟨λ _=>none,λ _ _=>rfl,by simp,λ _ _ _ _ _=>trivial⟩
 |x::l,us,bs,j0,⟨u,us',b1,b2,e1,e2,h1,h2⟩,hn=>by
  subst e1 e2;rw[Yb]at hn;obtain⟨n1,n2,n3⟩:=hn;obtain⟨f,f1,f2,f3⟩:=Sr (j0+1) h2 n2
  have hb:∀ k j,f k=some j→k∉b1:=λ k j hk h'=>by
   by_cases hk2:k∈b2
   ·exact n3 k h' k hk2 rfl
   ·rw[f1 k hk2]at hk;cases hk
  refine⟨λ k=>if k∈b1 then some j0 else f k,λ k hk=>?_,λ k hk=>?_,λ S' lab hw hf hl=>⟨?_,f3 S' lab hw hf (λ k j hk=>hl k j ((if_neg (hb k j hk)).trans hk))⟩⟩
  ·exact(if_neg (λ h=>hk (Vt _ h))).trans (f1 k (λ h=>hk (Vi _ h)))
  ·rcases Vm.1 hk with h|h
   ·exact⟨j0,if_pos h,Vo _,by simp⟩
   ·obtain⟨j,h3,h4,h5⟩:=f2 k h;exact⟨j,(if_neg (hb k j h3)).trans h3,by omega,by simp only[Vg];omega⟩
  ·cases x with
   |sc v=>exact⟨h1.1,h1.2.1⟩
   |own e r xs=>exact⟨b1,Ty.dep_mono hf (λ k _=>by rw[hw]) (.ow e r) xs [u] b1 (λ k _=>by rw[hw]) h1,n1,λ k hk=>hl k j0 (if_pos hk)⟩
   |_=>exact h1.elim
def N8:∀ (t:Ty) (x:t.den),Gd t=true→A4 t x=lvs t x
 |.i _,_,_=>rfl
 |.b,_,_=>rfl
 |.s,_,_=>rfl
 |.sl _ _,_,_=>rfl
 |.ow _ _,_,h=>by simp[Gd]at h
 |.pr x y,p,h=>by
  simp only[Gd,Va]at h;show A4 x p.1++A4 y p.2=lvs x p.1++lvs y p.2;rw[N8 x p.1 h.1,N8 y p.2 h.2]
section
variable {X:Cx} {S S':Sit} {a:Act} {E:En} {A:Ab} {o:Oper} {R:Type} {Kc:List Up→Option R} {r:R}
def Jca {P:Program} {S:Sit} {r:Ty} (hr:Gd r=true∨Dh r=true) {x:r.den} {c:List Value} {bs:List Nat} (h:r.dep P (λ k=>S.O k = .fz) S.w x c bs) (hn:bs.Nodup):
  ∃ f:Nat→Option Nat,(∀ k,k∉bs→f k=none)∧(∀ k∈bs,∃ j,f k=some j∧j<r.sz)∧
   ∀ (S':Sit) (lab:Nat→Lab),S'.w=S.w→(∀ k,S.O k = .fz→S'.O k = .fz)→(∀ k j,f k=some j→S'.O k=lab j)→A5 P S' lab 0 (A4 r x) c:=by
 rcases hr with hr|hr
 ·obtain⟨h1,rfl⟩:=(Ty.dep_flat r x c bs hr).1 h;refine⟨λ _=>none,λ _ _=>rfl,by simp,λ S' lab hw hf _=>?_⟩;rw[N8 r x hr];exact A5.ofRep (I8 r x c (Ty.rep_mono hf (λ k _=>by rw[hw]) r x c h1)) lab 0
 ·obtain⟨f,f1,f2,f3⟩:=Sr 0 (Hx r x c bs hr h) hn;exact⟨f,f1,λ k hk=>by obtain⟨j,h1,_,h2⟩:=f2 k hk;exact⟨j,h1,by rw[F5]at h2;omega⟩,f3⟩
def Mxa (g:Nat→Nat×Sv) (p B:Nat) (e:TypeId) (r:Ty) (xs:List r.den) (i:Int) (l:List Lf):Nat→Nat×Sv:=λ q=>
 if q=p then ((g p).1+1,.one (.opn e r xs i B ((g (H B)).1+1))) else if q=H B then ((g (H B)).1+1,.one (.hd r.sz)) else
 if C B 0≤q∧q<C B 0+l.length then ((g q).1+1,.one (l.getD (q-C B 0) .dead)) else g q
def G6a {p B:Nat} {e:TypeId} {r:Ty} {xs:List r.den} {i:Int} {l:List Lf} (hpH:p≠H B) (hpC:¬ (C B 0≤p∧p<C B 0+l.length)) (hl:l.length≤999):
  get (ups A (⟨p,false,.one (.opn e r xs i B ((get A (H B)).1+1))⟩::⟨H B,false,.one (.hd r.sz)⟩::Bi B 0 l))=Mxa (get A) p B e r xs i l:=by
 have hHC:¬ (C B 0≤H B∧H B<C B 0+l.length):=D9 (by omega)
 have e1:get (ups A (⟨p,false,.one (.opn e r xs i B ((get A (H B)).1+1))⟩::⟨H B,false,.one (.hd r.sz)⟩::Bi B 0 l))=Ib (upd (upd (get A) p ((get A p).1+1,.one (.opn e r xs i B ((get A (H B)).1+1)))) (H B) ((get A (H B)).1+1,.one (.hd r.sz))) B 0 l:=by
  show get (ups (up (up A ⟨p,false,.one (.opn e r xs i B ((get A (H B)).1+1))⟩) ⟨H B,false,.one (.hd r.sz)⟩) (Bi B 0 l))=_;rw[Fq,Hg,Hg];simp only[cond_false];rw[Aa _ _ (Pca hpH)]
 rw[e1];funext q;unfold Mxa Ib
 by_cases h2:C B 0≤q∧q<C B 0+l.length
 ·have h3:q≠p:=λ e=>hpC (e ▸ h2);have h4:q≠H B:=λ e=>hHC (e ▸ h2);rw[if_pos h2,Aa _ _ h4,Aa _ _ h3,if_neg h3,if_neg h4,if_pos h2]
 ·rw[if_neg h2]
  by_cases h3:q=p
  ·subst h3;rw[Aa _ _ hpH,A8,if_pos rfl]
  ·rw[if_neg h3]
   by_cases h4:q=H B
   ·subst h4;rw[A8,if_pos rfl]
   ·rw[Aa _ _ h4,Aa _ _ h3,if_neg h4,if_neg h2]
def Cna (K:Ah X S a) {p v B:Nat} {e:TypeId} {r:Ty} {xs:List r.den} {i:Int} (hB:2000≤B) (hB3:B<3000) (hp:S.g p=(v,.one (.own e r xs))) (hpH:p≠H B) (hpC:¬ (C B 0≤p∧p<C B 0+r.sz)) (hr:Gd r=true∨Dh r=true) (hz:r.sz<999)
  (i0:0≤i) (i1:i.toNat<xs.length):
  ∃ S' k cap,Ah X S' a∧S'.g=Mxa S.g p B e r xs i (A4 r (xs.getD i.toNat r.dflt))∧S'.w=S.w∧S.ph p = .slice (some ⟨k,0,none⟩) xs.length cap∧S'.bb B=(k,i.toNat*r.sz)∧(∀ q,¬ (C B 0≤q∧q<C B 0+r.sz)→S'.ph q=S.ph q):=by
 have hown:Ch X.P S.O S.w (.pl p []) e r xs (S.ph p):=by have:=K.at_ p;rw[hp]at this;exact this
 obtain⟨bs,⟨u,cs,b0,eu,hs,ho,hrows,eb⟩,hnd,hlab⟩:=hown;simp only[Wp,and_true]at eu;subst eu;rcases Cl ho with⟨_,e1,_⟩|⟨k,cap,cur,hph,hc,h1,h2,h3,h4⟩
 ·omega
 rw[hph]at ho eb;simp only[Value.ownBlock,Option.toList_some,Ya]at eb;obtain⟨b1,bi,b2,e2,r1,r2,r3⟩:=hrows.split (Ty.dep_len r) r.dflt i.toNat i1;subst e2 eb;have hki:k∉b1++(bi++b2):=(Ys.1 hnd).1;have hnd2:=(Ys.1 hnd).2;rw[Yb]at hnd2;obtain⟨n1,n2,n3⟩:=hnd2;rw[Yb]at n2;obtain⟨n4,n5,n6⟩:=n2;have hlk:S.O k = .pl p []:=hlab k (by simp);have hl1:∀ j∈b1,S.O j = .pl p []:=λ j hj=>hlab j (by simp[hj]);have hli:∀ j∈bi,S.O j = .pl p []:=λ j hj=>hlab j (by simp[hj]);have hl2:∀ j∈b2,S.O j = .pl p []:=λ j hj=>hlab j (by simp[hj]);obtain⟨f,f1,f2,f3⟩:=Jca (P:=X.P) (S:=S) hr r2 n4;generalize hrow:(cs.drop (i.toNat*r.sz)).take r.sz=row at r2 f3;have hrl:row.length=r.sz:=Ty.dep_len _ _ _ _ r2
 let O':Nat→Lab:=λ j=>if j=k then .bx B else match f j with
  |some n => .pl (C B n) []
  |none=>S.O j
 have hfn:∀ j n,f j=some n→j∈bi:=λ j n h=>Classical.byContradiction λ h'=>by rw[f1 j h']at h;cases h
 have hOk:O' k = .bx B:=if_pos rfl
 have hOi:∀ j n,f j=some n→O' j = .pl (C B n) []:=λ j n h=>by
  have h5:j≠k:=λ e=>hki (by rw[← e];simp[hfn j n h]);show (if j=k then _ else _)=_;rw[if_neg h5,h]
 have hOo:∀ j o',S.O j=o'→o' ≠ .pl p []→O' j=o':=λ j o' h ho'=>by
  have h5:j≠k:=λ e=>ho' (by rw[← h,e,hlk]);have h6:f j=none:=f1 j (λ hj=>ho' (by rw[← h,hli j hj]));show (if j=k then _ else _)=_;rw[if_neg h5,h6];exact h
 have hOb:∀ j,j∈b1∨j∈b2→O' j = .pl p []:=λ j hj=>by
  have h5:j≠k:=λ e=>hki (by rw[← e];rcases hj with hj|hj<;>simp[hj])
  have h6:f j=none:=f1 j (λ hj'=>by
   rcases hj with hj|hj
   ·exact n3 j hj j (by simp[hj']) rfl
   ·exact n6 j hj' j hj rfl)
  show (if j=k then _ else _)=_;rw[if_neg h5,h6];rcases hj with hj|hj
  ·exact hl1 j hj
  ·exact hl2 j hj
 let S':Sit:=⟨O',upd S.bb B (k,i.toNat*r.sz),Mxa S.g p B e r xs i (A4 r (xs.getD i.toNat r.dflt)),G8 S.ph B 0 row,S.w⟩
 have hll:(A4 r (xs.getD i.toNat r.dflt)).length=r.sz:=F5 _ _;have gp:S'.g p=((S.g p).1+1,.one (.opn e r xs i B ((S.g (H B)).1+1))):=if_pos rfl
 have gH:S'.g (H B)=((S.g (H B)).1+1,.one (.hd r.sz)):=by
  show (if H B=p then _ else _)=_;rw[if_neg (Pca hpH),if_pos rfl]
 have hHC:¬ (C B 0≤H B∧H B<C B 0+r.sz):=D9 (by omega)
 have gC:∀ q,C B 0≤q∧q<C B 0+r.sz→S'.g q=((S.g q).1+1,.one ((A4 r (xs.getD i.toNat r.dflt)).getD (q-C B 0) .dead)):=λ q hq=>by
  show (if q=p then _ else _)=_;rw[if_neg (λ h:q=p=>hpC (h ▸ hq)),if_neg (λ h:q=H B=>hHC (h ▸ hq)),if_pos (by rw[hll];exact hq)]
 have gO:∀ q,q≠p→q≠H B→¬ (C B 0≤q∧q<C B 0+r.sz)→S'.g q=S.g q:=λ q q2 q3 q4=>by
  show (if q=p then _ else _)=_;rw[if_neg q2,if_neg q3,if_neg (by rw[hll];exact q4)]
 have same:∀ q,(S'.g q).1=(S.g q).1→S'.g q=S.g q∧q≠p∧q≠H B∧¬ (C B 0≤q∧q<C B 0+r.sz):=λ q hq=>by
  have q2:q≠p:=λ e=>by rw[e,gp]at hq;simp at hq
  have q3:q≠H B:=λ e=>by rw[e,gH]at hq;simp at hq
  have q4:¬ (C B 0≤q∧q<C B 0+r.sz):=λ e=>by rw[gC q e]at hq;simp at hq
  exact⟨gO q q2 q3 q4,q2,q3,q4⟩
 have phO:∀ q,¬ (C B 0≤q∧q<C B 0+r.sz)→S'.ph q=S.ph q:=λ q hq=>by
  show G8 S.ph B 0 row q=_;unfold G8;rw[if_neg (by rw[hrl];exact hq)]
 have L:Ci S S':=by
  refine⟨λ q=>?_,λ q hq=>phO q (same q hq).2.2.2,λ q v' e' r' xs' hq hv=>?_,λ b hb=>?_,λ j hj=>⟨hOo j _ hj (by simp),rfl⟩,λ b n hb hh hO=>?_,λ q hq hdp=>?_,λ q hq=>phO q (by unfold C;omega)⟩
  ·by_cases q2:q=p
   ·rw[q2,gp];exact Zj _
   by_cases q3:q=H B
   ·rw[q3,gH];exact Zj _
   by_cases q4:C B 0≤q∧q<C B 0+r.sz
   ·rw[gC q q4];exact Zj _
   ·rw[gO q q2 q3 q4];exact Vo _
  ·have:=(same q (by rw[hq];exact hv.symm)).1;rw[this]at hq;exact⟨xs',hq,rfl⟩
  ·have h5:b≠B:=λ e=>(same _ hb).2.2.1 (by rw[e]);exact Aa _ _ h5
  ·have h5:=(same _ hb).1;refine⟨by rw[h5];exact hh,hOo _ _ hO (by simp),λ c e' f' hc'=>⟨c,hc',rfl,λ _ _=>rfl⟩⟩
  ·obtain⟨h5,q2,_⟩:=same q hq;rw[h5];exact⟨hdp,λ _ _ _ h=>h,λ j hj=>⟨.inl (hOo j _ hj (by simp[q2])),rfl⟩⟩
 have hcell:∀ j,j<r.sz→cur[i.toNat*r.sz+j]? = row[j]? := λ j hj=>by
  rw[← hrow,Wd,if_pos hj,Xs,← h4,Wd,Yv];have:(i.toNat+1)*r.sz≤xs.length*r.sz:=Wa _ i1;rw[Yg,Yk]at this;rw[if_pos (by omega)]
 have hfit:i.toNat*r.sz+r.sz≤cur.size:=by
  have h5:(i.toNat+1)*r.sz≤xs.length*r.sz:=Wa _ i1;have h6:xs.length*r.sz≤cap*r.sz:=Wa _ h1;rw[Yg,Yk]at h5;omega
 refine⟨S',k,cap,⟨K.nt,λ j hj=>?_,λ l=>?_,λ b n hb=>?_,λ b n hb=>?_,λ t ht=>?_,K.sz,K.df,K.fr.relab (λ j h=>hOo j _ h (by simp)) (λ j h=>hOo j _ h (by simp)) (λ j b h=>hOo j _ h (by simp)),λ q hq=>(phO q (by unfold C;omega)).trans (K.io q hq)⟩,rfl,rfl,hph,A8 _ _ _,phO⟩
 ·-- blocks
  refine K.lt j (λ e=>hj (hOo j _ e (by simp)))
 ·show Fi X.P S' l (S'.g l).2 (S'.ph l)
  by_cases q2:l=p
  ·rw[q2,gp,phO p hpC,hph];refine⟨by rw[gH];exact Vo _,⟨hs,i0,i1,k,cap,rfl⟩,λ _=>⟨k,cap,cur,b1,b2,rfl,hs,hc,⟨h1,h2,h3⟩,⟨i0,i1⟩,A8 _ _ _,hOk,by rw[gH],?_,?_,?_,λ j hj=>hOb j (Vm.1 hj)⟩⟩
   ·have h5:cs.take (i.toNat*r.sz)=cur.toList.take (i.toNat*r.sz):=by
     rw[← h4,Zm,Zf (Wa _ (Nat.le_of_lt i1))]
    rw[h5]at r1;exact r1.mono (λ x c b hb h=>Ty.dep_mono (λ j hj=>hOo j _ hj (by simp)) (λ _ _=>rfl) r x c b (λ _ _=>rfl) h)
   ·rw[h4];exact r3.mono (λ x c b hb h=>Ty.dep_mono (λ j hj=>hOo j _ hj (by simp)) (λ _ _=>rfl) r x c b (λ _ _=>rfl) h)
   ·rw[Yb];exact⟨n1,n5,λ x hx y hy=>n3 x hx y (Vi _ hy)⟩
  by_cases q3:l=H B
  ·rw[q3,gH];trivial
  by_cases q4:C B 0≤l∧l<C B 0+r.sz
  ·rw[gC l q4];have h5:=f3 S' (λ n => .pl (C B n) []) rfl (λ j hj=>hOo j _ hj (by simp)) hOi;obtain⟨x,u',w1,w2,w3,w4⟩:=h5.at (l-C B 0) (by rw[hll];omega)
   have w5:S'.ph l=u':=by
    show G8 S.ph B 0 row l=_;unfold G8;rw[if_pos (by rw[hrl];exact q4),w2]
   rw[w1,w5];rw[Wb]at w4
   have w6:C B (l-C B 0)=l:=by
    have:C B (l-C B 0)=C B 0+(l-C B 0):=by unfold C;omega
    omega
   rw[w6]at w4;exact w4
  ·rw[gO l q2 q3 q4,phO l q4];exact(K.at_ l).later L (λ q j hj=>⟨hOo j _ hj (by simp[q2]),rfl⟩)
 ·by_cases hbB:b=B
  ·subst hbB;rw[gH]at hb;cases hb;refine⟨hz,cur,e,?_,?_,?_,λ j hj=>?_⟩
   ·show S.w.heap[(upd S.bb b (k,i.toNat*r.sz) b).1]? = _;rw[A8];exact hc
   ·show O' (upd S.bb b (k,i.toNat*r.sz) b).1=_;rw[A8];exact hOk
   ·show (upd S.bb b (k,i.toNat*r.sz) b).2+_≤_;rw[A8];exact hfit
   ·show cur[(upd S.bb b (k,i.toNat*r.sz) b).2+j]? = some (G8 S.ph b 0 row (C b j));rw[A8,hcell j hj];unfold G8
    have h2':C b 0≤C b j∧C b j<C b 0+row.length:=by unfold C;omega
    rw[if_pos h2',show C b j-C b 0=j by unfold C;omega,Vn,Vp (by omega)];rfl
  ·have hne:H b≠H B:=λ e=>hbB (Qg e);have h6:¬ (C B 0≤H b∧H b<C B 0+r.sz):=D9 (by omega)
   have h7:H b≠p:=λ e=>by rw[e,gp]at hb;cases hb
   rw[gO _ h7 hne h6]at hb;obtain⟨g1,c1,e2,g2,g3,g4,g5⟩:=K.box b n hb;have hbb:S'.bb b=S.bb b:=Aa _ _ hbB;rw[hbb];refine⟨g1,c1,e2,g2,hOo _ _ g3 (by simp),g4,λ j hj=>?_⟩;rw[phO _ (Kf (by omega) (by omega) hbB)];exact g5 j hj
 ·by_cases hbB:b=B
  ·subst hbB;refine⟨λ h=>absurd h (by omega),λ h=>absurd h (by unfold Cx.pb;omega),λ _ hlt b' h0=>?_,hB3⟩
   have h5:X.O0 k = .bx b':=by
    have:X.O0 (upd S.bb b (k,i.toNat*r.sz) b).1 = .bx b':=h0;rwa [A8]at this
   have h6:k<X.w0.heap.size:=by
    have:(upd S.bb b (k,i.toNat*r.sz) b).1<X.w0.heap.size:=hlt;rwa [A8]at this
   have:=(K.fr.bx k b' h6 h5).1;rw[hlk]at this;cases this
  ·have hne:H b≠H B:=λ e=>hbB (Qg e);have h6:¬ (C B 0≤H b∧H b<C B 0+r.sz):=D9 (by omega)
   have h7:H b≠p:=λ e=>by rw[e,gp]at hb;cases hb
   rw[gO _ h7 hne h6]at hb;have hbb:S'.bb b=S.bb b:=Aa _ _ hbB;rw[hbb];exact K.rgn b n hb
 ·show a.tmps.getD t undef=S'.ph t;rw[phO t (H8 (Wi ht K.nt))];exact K.sl t ht
end
end

section
attribute [local irreducible] C H
def Jda {p B:Nat} (h:Nat.beq (p/1000) (B+1)=false) {n:Nat} (hn:n≤999):p≠H B∧¬ (C B 0≤p∧p<C B 0+n):=by
 have h1:p/1000≠B+1:=λ e=>by rw[e,P5a]at h;cases h
 refine⟨λ e=>h1 ?_,λ ⟨h2,h3⟩=>h1 ?_⟩
 ·rw[e];unfold H;omega
 ·have:C B 0=1000*(B+1):=by unfold C;omega
  omega
section
variable {X:Cx} {S S':Sit} {a:Act} {E:En} {A:Ab} {o:Oper} {R:Type} {Kc:List Up→Option R} {r:R}
def L5 (K:Ah X S a) (hg:S.g=get A) {p v B:Nat} {e:TypeId} {r:Ty} {xs:List r.den} {i:Int} {us:List Up} (hp:S.g p=(v,.one (.own e r xs))) (h:Ku A B p e r xs i=some us):
  ∃ S' k cap,Ah X S' a∧S'.g=get (ups A us)∧S'.w=S.w∧S.ph p = .slice (some ⟨k,0,none⟩) xs.length cap∧S'.bb B=(k,i.toNat*r.sz)∧(∀ q,q<1000→S'.ph q=S.ph q)∧(S'.g (H B)).1=(S.g (H B)).1+1∧
   (∀ q,q<1000→q≠p→S'.g q=S.g q):=by
 unfold Ku at h;obtain⟨hq,h⟩:=cs h;simp only[Va,Owa,Wk]at hq;obtain⟨⟨⟨q1,q2⟩,q3⟩,q4⟩:=hq;have hz:r.sz<999:=Vd q2;have hB:2000≤B:=Vd q4.1;have hB3:B<3000:=Vd q4.2
 by_cases h0:0≤i
 ·by_cases h1:i<(xs.length:Int)
  ·simp only[h0,h1,decide_true,cond_true,Vc]at h;subst h;obtain⟨hpH,hpC⟩:=Jda q3 (n:=r.sz) (by omega);obtain⟨S',k,cap,K',g',w',ph',bb',pq⟩:=Cna K hB hB3 hp hpH hpC q1 hz h0 (by omega);have hl:(A4 r (xs.getD i.toNat r.dflt)).length=r.sz:=F5 _ _
   have hg':S'.g=get (ups A (⟨p,false,.one (.opn e r xs i B ((get A (H B)).1+1))⟩::⟨H B,false,.one (.hd r.sz)⟩::Bi B 0 (A4 r (xs.getD i.toNat r.dflt)))):=by
    rw[G6a hpH (by rw[hl];exact hpC) (by omega),← hg,g']
   refine⟨S',k,cap,K',hg',w',ph',bb',λ q hq=>pq q (H8 hq),?_,λ q hq hne=>?_⟩
   ·rw[g'];show (if H B=p then _ else _:Nat×Sv).1=_;rw[if_neg (Pca hpH),if_pos rfl]
   ·rw[g'];show (if q=p then _ else _:Nat×Sv)=_;rw[if_neg hne,if_neg (λ e=>by have:=Lea B;omega),if_neg (H8 hq)]
  ·simp[h0,h1]at h
 ·simp[h0]at h
def Ah.point (K:Ah X S a) {d:Nat} (hd:d<X.nt) {z:Lf} (hz:Af X.P S (.pl d []) z (S.ph d)) (hown:z.isOwn=false) (hnh:∀ n,z ≠ .hd n):Ah X { S with g:=upd S.g d ((S.g d).1+1,.one z) } a:=by
 have hd1:d<1000:=Wi hd K.nt
 have hdH:∀ b,H b≠d:=λ b e=>by have:=Lea b;omega
 have L:Ci S { S with g:=upd S.g d ((S.g d).1+1,.one z) }:=by
  refine⟨λ p=>?_,λ _ _=>rfl,λ p v e r xs' hp hv=>?_,λ _ _=>rfl,λ k h=>⟨h,rfl⟩,Ci.box_of (λ b n hv hh=>?_) (λ _ _ h=>⟨h,rfl⟩),λ p hp hdp=>?_,λ _ _=>rfl⟩
  ·by_cases h:p=d
   ·subst h;show _≤(upd S.g p _ p).1;rw[A8];exact Zj _
   ·show _≤(upd S.g d _ p).1;rw[Aa _ _ h];exact Vo _
  ·have hp':upd S.g d ((S.g d).1+1,.one z) p=(v,.one (.own e r xs')):=hp
   by_cases h:p=d
   ·subst h;rw[A8]at hp';simp only[Vu]at hp';omega
   ·rw[Aa _ _ h]at hp';exact⟨xs',hp',rfl⟩
  ·exact(congrArg Prod.snd (Aa _ _ (hdH b))).trans hh
  ·have hp':(upd S.g d ((S.g d).1+1,.one z) p).1=(S.g p).1:=hp
   have h:p≠d:=λ e=>by subst e;rw[A8]at hp';simp at hp'
   have e1:({ S with g:=upd S.g d ((S.g d).1+1,.one z) }:Sit).g p=S.g p:=Aa _ _ h;rw[e1];exact⟨hdp,λ _ _ _ h=>h,λ k hk=>⟨.inl hk,rfl⟩⟩
 refine K.ghost S.O _ (λ _ h=>h) (λ _ h=>h) (λ _ h=>h) (λ _ _ h=>h) (λ b n h=>?_) (λ l=>?_)
 ·rwa [Aa _ _ (hdH b)]at h
 ·by_cases h:l=d
  ·subst h;show Fi X.P _ l (upd S.g l _ l).2 _;rw[A8];exact Af.later L hz (λ k hk=>⟨hk,rfl⟩)
  ·show Fi X.P _ l (upd S.g d _ l).2 _;rw[Aa _ _ h];exact(K.at_ l).later L (λ p k hk=>⟨hk,rfl⟩)
def G7a (K:Ah X S a) (hg:S.g=get A) {p t B:Nat} {us:List Up} (h:Fqa A p t B=some us):∃ S',Ah X S' a∧S'.g=get (ups A us)∧S'.w=S.w:=by
 unfold Fqa at h;split at h
 ·rename_i e r xs k i hp _;obtain⟨S',_,_,K',g',w',_⟩:=L5 K hg (p:=p) (v:=(S.g p).1) (by rw[← hg]at hp;rw[← hp]) h;exact⟨S',K',g',w'⟩
 ·cases h
def Xh (K:Ah X S a) (hg:S.g=get A) {d B:Nat} (hd:d<X.nt) {us:List Up} (h:Aaa A d B=some us):∃ S',Ah X S' a∧S'.g=get (ups A us)∧S'.w=S.w:=by
 have hd1:d<1000:=Wi hd K.nt;have hat:=K.at_ d
 have go:∀ {p v:Nat} {e:TypeId} {r:Ty} {xs:List r.den} {i:Int} {off:Nat} {us0:List Up},S.g p=(v,.one (.own e r xs))→p≠d→Ku A B p e r xs i=some us0→us=us0++[⟨d,false,.one (.bp B ((get A (H B)).1+1) off)⟩]→
   (∀ k cap,S.ph p = .slice (some ⟨k,0,none⟩) xs.length cap→S.ph d = .pointer (some ⟨k,i.toNat*r.sz+off,none⟩))→∃ S',Ah X S' a∧S'.g=get (ups A us)∧S'.w=S.w:=by
  intro p v e r xs i off us0 hp hpd ho hus hpt;obtain⟨S',k,cap,K',g',w',ph',bb',pq,gH,gq⟩:=L5 K hg hp ho
  have hz:Af X.P S' (.pl d []) (.bp B ((S.g (H B)).1+1) off) (S'.ph d):=by
   refine⟨by rw[gH];exact Vo _,λ _=>?_⟩;rw[pq d hd1,hpt k cap ph',bb']
  refine⟨_,K'.point hd hz rfl (by simp),?_,w'⟩;show upd S'.g d _=_;rw[hus,Ae,A7,← g',← hg]
 unfold Aaa at h;split at h
 ·rename_i p v i off hd2
  have hat':Af X.P S (.pl d []) (.ep p v i off) (S.ph d):=by rw[hg,hd2]at hat;exact hat
  split at h
  ·rename_i n e r xs hp;rw[csi]at h;obtain⟨hq,h⟩:=h;simp only[Va,Wk]at hq;obtain⟨⟨q1,q2⟩,q3⟩:=hq;have hnv:n=v:=Vb q1;subst hnv
   have hpd:p≠d:=λ e=>by rw[e,P5a]at q3;cases q3
   split at h
   ·rename_i us0 ho;simp only[Vc]at h
    have hp':S.g p=(n,.one (.own e r xs)):=by rw[hg,hp]
    refine go hp' hpd ho h.symm (λ k cap hk=>?_);obtain⟨_,_,k',cap',e1,e2⟩:=hat'.2 e r xs hp';rw[hk]at e1;cases e1;exact e2
   ·cases h
  ·cases h
 ·rename_i p v e0 r0 xs0 i off hd2
  have hat':Af X.P S (.pl d []) (.dp p v (some []) e0 r0 xs0 i off) (S.ph d):=by rw[hg,hd2]at hat;exact hat
  split at h
  ·rename_i n e r xs hp;rw[csi]at h;obtain⟨hq,h⟩:=h;simp only[Va,Wk]at hq;obtain⟨⟨q1,q2⟩,q3⟩:=hq;have hnv:n=v:=Vb q1;subst hnv
   have hpd:p≠d:=λ e=>by rw[e,P5a]at q3;cases q3
   split at h
   ·rename_i us0 ho;simp only[Vc]at h
    have hp':S.g p=(n,.one (.own e r xs)):=by rw[hg,hp]
    have hv:(S.g p).1=n:=by rw[hp']
    refine go hp' hpd ho h.symm (λ k cap hk=>?_);obtain⟨hh,hda,hdp⟩:=hat';obtain⟨_,_,k',o',cap',e1,e2⟩:=hdp hv;obtain⟨_,_,hpath⟩:=hda.2.2 hv;obtain⟨f1,f2⟩:=hpath [] rfl e r xs (by rw[hp']);simp only[X7,Vc]at f1;cases f1;have f3:hh=S.ph p:=f2;rw[f3,hk]at e1;cases e1;rw[e2,Wb]
   ·cases h
  ·cases h
 ·cases h
def Bs.set3 {α:Type} {R:α→List Value→List Nat→Prop} {xs:List α} {i:Nat} {z:α} {c1 c c2:List Value} {b1 bi b2:List Nat} (hi:i<xs.length) (h1:Bs R (xs.take i) c1 b1) (h:R z c bi) (h2:Bs R (xs.drop (i+1)) c2 b2):
  Bs R (xs.set i z) (c1++(c++c2)) (b1++(bi++b2)):=by
 rw[List.set_eq_take_append_cons_drop,if_pos hi];exact h1.append ⟨c,c2,bi,b2,rfl,rfl,h,h2⟩
def G8a (K:Ah X S a) (hg:S.g=get A) {p:Nat} {us:List Up} (h:Bva A p=some us):∃ S',Ah X S' a∧S'.g=get (ups A us)∧S'.w=S.w:=by
 unfold Bva at h;split at h
 ·rename_i e0 r0 xs0 i0 b v hop0;split at h
  ·rename_i l us1 hgive;obtain⟨_,_,_,hst,hlen,S1,K1,g1,G1,hls⟩:=N7 K hg hgive 7;split at h
   ·rename_i e r xs i b' v' hop;rw[csi]at h;obtain⟨hq,h⟩:=h;simp only[Va]at hq;obtain⟨⟨⟨⟨q1,q2⟩,q3⟩,q5⟩,q4⟩:=hq;have hbb':b=b':=Vb q1;subst hbb';have hb2:2000≤b:=Vd q3
    have hv:(S1.g (H b)).1=v':=by rw[g1];exact Vb q2
    split at h
    ·rename_i z hz;simp only[Vc]at h
     have hat:Af X.P S1 (.pl p []) (.opn e r xs i b v') (S1.ph p):=by have:=K1.at_ p;rw[g1,hop]at this;exact this
     obtain⟨_,_,hopn⟩:=hat;obtain⟨k,cap,cur,b1,b2,h1,h2,h3,⟨h4,h5,h6⟩,⟨i0,i1⟩,h8,h9,h10,h11,h12,h13,h14⟩:=hopn hv;obtain⟨hn,c,e',x1,x2,x3,x4⟩:=K1.box b r.sz h10;rw[h8]at x1 x2 x3 x4;rw[h3]at x1;cases x1
     have hrl:((List.range r0.sz).map λ j=>S.ph (C b (0+j))).length=l.length:=by rw[Yj,List.length_range,hlen]
     have hzl:l.length=r.sz:=Vb q5
     have hr0:r0.sz=r.sz:=by omega
     generalize hrow:(List.range r0.sz).map (λ j=>S.ph (C b (0+j)))=row at hls hrl
     have hrow2:row=(cur.toList.drop (i.toNat*r.sz)).take r.sz:=by
      refine Pba λ j=>?_;rw[Wd,Xs]
      by_cases hj:j<r.sz
      ·have e1:cur.toList[i.toNat*r.sz+j]? = cur[i.toNat*r.sz+j]? := Yv;have e2:cur[i.toNat*r.sz+j]? = some (S1.ph (C b j)):=x4 j hj;rw[if_pos hj,e1,e2,G1.ph,← hrow];simp[hr0,hj]
      ·rw[if_neg hj,Ova (by omega)]
     have hdep:∃ bi,r.dep X.P (λ k=>S1.O k = .fz) S1.w z row bi∧bi.Nodup∧∀ k∈bi,∃ q,S1.O k = .tm 7 q:=by
      rcases Owa _ _ ▸ q4 with q|q
      ·simp only[Va,Wk]at q
       have hrep:Gu (G6 X.P (λ k=>S1.O k = .fz) S1.w) l row:=by
        have key:∀ (l:List Lf) (j:Nat) (us:List Value),A3 l=true→Cm l=false→A5 X.P S1 (λ n => .tm 7 [n]) j l us→Gu (G6 X.P (λ k=>S1.O k = .fz) S1.w) l us:=by
         intro l
         induction l with
         |nil=>intro j us _ _ h;cases us<;>first|exact .nil|exact h.elim
         |cons x l ih=>
          intro j us hs ho h
          cases us with
          |nil=>exact h.elim
          |cons u us=>
           cases x with
           |sc v=>exact .cons h.1 (ih _ _ (by simpa[A3] using hs) (by simpa[Cm] using ho) h.2)
           |fz e r xs=>exact .cons h.1 (ih _ _ (by simpa[A3] using hs) (by simpa[Cm] using ho) h.2)
           |own e r xs=>simp[Cm]at ho
           |_=>simp[A3]at hs
        exact key l 0 row hst q.2 hls
       exact⟨[],(Ty.dep_flat r z row [] q.1).2 ⟨Np hz hrep,rfl⟩,by simp,by simp⟩
      ·simp only[Va]at q;obtain⟨mb,m1,m2,m3⟩:=Ji q.2 hls (λ n n' _ _ _ _ e=>by simpa using e);exact⟨mb,Qp q.1 hz m1,m2,λ k hk=>by obtain⟨n,_,_,h⟩:=m3 k hk;exact⟨_,h⟩⟩
     obtain⟨bi,hd1,hd2,hd3⟩:=hdep
     let O':Nat→Lab:=λ j=>if j=k then .pl p [] else match S1.O j with
      |.tm 7 _ => .pl p []
      |o=>o
     have hOk:O' k = .pl p []:=if_pos rfl
     have hOn:∀ j o',S1.O j=o'→j≠k→(∀ q,o' ≠ .tm 7 q)→O' j=o':=λ j o' hj h3 h2=>by
      show (if j=k then _ else _)=_;rw[if_neg h3,hj]
      cases o'<;>first|rfl|skip
      rename_i n q
      by_cases hn7:n=7
      ·subst hn7;exact absurd rfl (h2 q)
      ·split
       ·rename_i heq;simp only[Lab.tm.injEq]at heq;exact absurd heq.1 hn7
       ·rfl
     have hOo:∀ j o',S1.O j=o'→o' ≠ .bx b→(∀ q,o' ≠ .tm 7 q)→O' j=o':=λ j o' hj h1 h2=>hOn j o' hj (λ e=>h1 (by rw[← hj,e,h9])) h2
     have hO7:∀ j q,S1.O j = .tm 7 q→O' j = .pl p []:=λ j q hj=>by
      have h3:j≠k:=λ e=>by rw[e,h9]at hj;cases hj
      show (if j=k then _ else _)=_;rw[if_neg h3,hj];rfl
     let g':=upd (upd S1.g (H b) ((S1.g (H b)).1+1,.one .dead)) p ((S1.g p).1+1,.one (.own e r (xs.set i.toNat z)))
     have hpH:p≠H b:=λ e=>by rw[e,← g1,h10]at hop;cases hop
     let S':Sit := { S1 with O:=O',g:=g' }
     have gp:S'.g p=((S1.g p).1+1,.one (.own e r (xs.set i.toNat z))):=A8 _ _ _;have gH:S'.g (H b)=((S1.g (H b)).1+1,.one .dead):=(Aa _ _ (Pca hpH)).trans (A8 _ _ _);have gO:∀ q,q≠p→q≠H b→S'.g q=S1.g q:=λ q q1 q2=>(Aa _ _ q1).trans (Aa _ _ q2)
     have same:∀ q,(S'.g q).1=(S1.g q).1→S'.g q=S1.g q∧q≠p∧q≠H b:=λ q hq=>by
      have q1:q≠p:=λ e=>by rw[e,gp]at hq;simp at hq
      have q2:q≠H b:=λ e=>by rw[e,gH]at hq;simp at hq
      exact⟨gO q q1 q2,q1,q2⟩
     have hfz:∀ j,S1.O j = .fz→O' j = .fz:=λ j hj=>hOo j _ hj (by simp) (by simp)
     have L:Ci S1 S':=by
      refine⟨λ q=>?_,λ _ _=>rfl,λ q v2 e2 r2 xs' hq hv2=>?_,λ _ _=>rfl,λ j hj=>⟨hfz j hj,rfl⟩,λ b3 n hb hh hO=>?_,λ q hq hdp=>?_,λ _ _=>rfl⟩
      ·by_cases q1:q=p
       ·rw[q1,gp];exact Zj _
       by_cases q2:q=H b
       ·rw[q2,gH];exact Zj _
       ·rw[gO q q1 q2];exact Vo _
      ·have:=(same q (by rw[hq];exact hv2.symm)).1;rw[this]at hq;exact⟨xs',hq,rfl⟩
      ·obtain⟨s1,_,s2⟩:=same _ hb;have hb3:b3≠b:=λ e=>s2 (by rw[e]);exact⟨by rw[s1];exact hh,hOo _ _ hO (by simp[hb3]) (by simp),λ c e' f' hc'=>⟨c,hc',rfl,λ _ _=>rfl⟩⟩
      ·obtain⟨s1,_,_⟩:=same q hq;rw[s1];exact⟨hdp,λ _ _ _ h=>h,λ j hj=>⟨.inl (hOo j _ hj (by simp) (by simp)),rfl⟩⟩
     have hnd:(k::(b1++(bi++b2))).Nodup:=by
      rw[Yb]at h13;obtain⟨n1,n2,n3⟩:=h13;rw[Ys,Yb,Yb]
      have hk1:∀ j∈b1++b2,j≠k:=λ j hj e=>by have:=h14 j hj;rw[e,h9]at this;cases this
      refine⟨λ hk=>?_,n1,⟨hd2,n2,λ x hx y hy e=>?_⟩,λ x hx y hy e=>?_⟩
      ·rcases Vm.1 hk with hk|hk
       ·exact hk1 k (Vt _ hk) rfl
       ·rcases Vm.1 hk with hk|hk
        ·obtain⟨q,hq⟩:=hd3 k hk;rw[h9]at hq;cases hq
        ·exact hk1 k (Vi _ hk) rfl
      ·obtain⟨q,hq⟩:=hd3 x hx;have:=h14 y (Vi _ hy);rw[← e,hq]at this;cases this
      ·rcases Vm.1 hy with hy|hy
       ·obtain⟨q,hq⟩:=hd3 y hy;have:=h14 x (Vt _ hx);rw[e,hq]at this;cases this
       ·exact n3 x hx y hy e
     have hown:Ch X.P O' S1.w (.pl p []) e r (xs.set i.toNat z) (S1.ph p):=by
      have hcs:cur.toList.take (xs.length*r.sz)=cur.toList.take (i.toNat*r.sz)++(row++(cur.toList.take (xs.length*r.sz)).drop (i.toNat*r.sz+r.sz)):=by
       have hle:(i.toNat+1)*r.sz≤xs.length*r.sz:=Wa _ i1;rw[Yg,Yk]at hle
       have e1:cur.toList.take (i.toNat*r.sz)=(cur.toList.take (xs.length*r.sz)).take (i.toNat*r.sz):=by rw[Zm,Zf (by omega)]
       have e2:row=((cur.toList.take (xs.length*r.sz)).drop (i.toNat*r.sz)).take r.sz:=by
        rw[hrow2];refine Pba λ j=>?_;rw[Wd,Wd];split
        ·rw[Xs,Xs,Wd,if_pos (by omega)]
        ·rfl
       rw[e1,e2,← Wn];rw[Wm,Wm]
      refine⟨k::(b1++(bi++b2)),⟨S1.ph p,cur.toList.take (xs.length*r.sz),b1++(bi++b2),rfl,h2,⟨?_,.inr ⟨k,cap,cur,by rw[Yl];exact h1,Wh _,h3,by rw[Yl];exact h4,h5,h6,by rw[Yl]⟩⟩,?_,?_⟩,hnd,λ j hj=>?_⟩
      ·have e1:cur.toList.length=cur.size:=Yh;rw[Vl,Yl,e1];have:=Wa r.sz h4;omega
      ·rw[hcs];have mono:∀ {x:r.den} {c:List Value} {d:List Nat},r.dep X.P (λ k=>S1.O k = .fz) S1.w x c d→r.dep X.P (λ k=>O' k = .fz) S1.w x c d:=λ h=>Ty.dep_mono hfz (λ _ _=>rfl) r _ _ _ (λ _ _=>rfl) h;exact Bs.set3 i1 (h11.mono (λ x c d _ h=>mono h)) (mono hd1) (h12.mono (λ x c d _ h=>mono h))
      ·rw[h1];rfl
      ·rcases Vk.1 hj with rfl|hj
       ·exact hOk
       ·rcases Vm.1 hj with hj|hj
        ·exact hOo j _ (h14 j (Vt _ hj)) (by simp) (by simp)
        ·rcases Vm.1 hj with hj|hj
         ·obtain⟨q,hq⟩:=hd3 j hj;exact hO7 j q hq
         ·exact hOo j _ (h14 j (Vi _ hj)) (by simp) (by simp)
     refine⟨S',⟨K1.nt,λ j hj=>?_,λ q=>?_,λ b3 n hb=>?_,λ b3 n hb=>?_,K1.sl,K1.sz,K1.df,⟨K1.fr.os,K1.fr.tape,K1.fr.out,K1.fr.size,λ j hj h0=>?_,λ j hj h0=>?_,λ j b3 hj h0=>?_⟩,K1.io⟩,?_,G1.w⟩
     ·exact K1.lt j (λ e=>hj (hOo j _ e (by simp) (by simp)))
     ·show Fi X.P S' q (S'.g q).2 (S1.ph q)
      by_cases q1:q=p
      ·rw[q1,gp];exact hown
      by_cases q2:q=H b
      ·rw[q2,gH];trivial
      ·rw[gO q q1 q2];exact(K1.at_ q).later L (λ w j hj=>⟨hOo j _ hj (by simp) (by simp),rfl⟩)
     ·have hb3:b3≠b:=λ e=>by rw[e,gH]at hb;cases hb
      have hbp:H b3≠p:=λ e=>by rw[e,gp]at hb;cases hb
      rw[gO _ hbp (λ e=>hb3 (Qg e))]at hb;obtain⟨y1,c1,e1,y2,y3,y4,y5⟩:=K1.box b3 n hb;exact⟨y1,c1,e1,y2,hOo _ _ y3 (by simp[hb3]) (by simp),y4,y5⟩
     ·have hb3:b3≠b:=λ e=>by rw[e,gH]at hb;cases hb
      have hbp:H b3≠p:=λ e=>by rw[e,gp]at hb;cases hb
      rw[gO _ hbp (λ e=>hb3 (Qg e))]at hb;exact K1.rgn b3 n hb
     ·obtain⟨f1,f2⟩:=K1.fr.no j hj h0;exact⟨hOo j _ f1 (by simp) (by simp),f2⟩
     ·obtain⟨f1,f2⟩:=K1.fr.fz j hj h0;exact⟨hOo j _ f1 (by simp) (by simp),f2⟩
     ·obtain⟨f1,rest⟩:=K1.fr.bx j b3 hj h0;refine⟨hOn j _ f1 (λ e=>?_) (by simp),rest⟩;rw[e]at hj h0;exact(K1.rgn b r.sz h10).2.2.1 hb2 (by rw[h8];exact hj) b3 (by rw[h8];exact h0)
     ·show upd (upd S1.g (H b) _) p _=_;rw[← h,Ae];show _=get (ups (up (ups A us1) ⟨H b,false,.one .dead⟩) [⟨p,false,.one (.own e r (xs.set i.toNat z))⟩]);rw[A7,Hg,← g1];simp only[cond_false];rw[Aa _ _ hpH]
    ·cases h
   ·cases h
  ·cases h
 ·cases h
def L6 {R:Type} {B p:Nat} {e:TypeId} {r:Ty} {xs:List r.den} {i:Int} {K:List Up→Option R} {Z:Option R} {y:R} (h:Ni A B p e r xs i K Z=some y):Z=some y∨∃ us,Ku A B p e r xs i=some us∧K us=some y:=by
 unfold Ni at h;unfold Ku;cases h1:((Gd r||Dh r)&&Nat.blt r.sz 999&&!(Nat.beq (p/1000) (B+1))&&(Nat.ble 2000 B&&Nat.blt B 3000))
 ·rw[h1,cond_false]at h;exact .inl h
 rw[h1,cond_true]at h;cases h2:decide (0≤i)
 ·rw[h2]at h;simp at h
 rw[h2,cond_true]at h;cases h3:decide (i<(xs.length:Int))
 ·rw[h3]at h;simp at h
 rw[h3,cond_true]at h;exact .inr ⟨_,rfl,h⟩
def G9a (K:Ah X S a) (hg:S.g=get A) {p n B:Nat} {e:TypeId} {r':Ty} {xs:List r'.den} {k:Nat} (hB:B<3000) (hp0:p≠C B 0) (hp1:p≠C B 1) (hpg:S.g p=(n,.one (.own e r' xs))) (hH:(S.g (H B)).2 = .one .dead) (hkx:k≤xs.length):
  ∃ S',Ah X S' a∧S'.g=get (ups A [⟨C B 0,false,.one (.par e r' (xs.take k) 0)⟩,⟨C B 1,false,.one (.par e r' xs k)⟩,⟨p,false,.one (.two (C B 0) ((get A (C B 0)).1+1) ((get A (C B 1)).1+1))⟩])∧S'.w=S.w:=by
 have hown:Ch X.P S.O S.w (.pl p []) e r' xs (S.ph p):=by have:=K.at_ p;rw[hpg]at this;exact this
 obtain⟨bs,⟨u,cs,b2,ev,hsz,hro,hd2,eb⟩,hnd,hk⟩:=hown;simp only[Wp,and_true]at ev
 have hshape:∃ ad cap,S.ph p = .slice ad xs.length cap∧xs.length≤cap∧cs.length=xs.length*r'.sz∧(xs.length≠0→∃ k o,ad=some ⟨k,o,none⟩∧u.ownBlock=some k∧C8 S.w k o cs):=by
  rw[ev];rcases Cl hro with⟨e1,e2,e3⟩|⟨k,cap,cur,e1,hc,g1,g2,g3,g4⟩
  ·exact⟨none,0,by rw[e1,e2],by omega,by rw[e3,e2];simp,λ hne=>absurd e2 hne⟩
  ·exact⟨_,cap,e1,g1,hd2.len (Ty.dep_len r'),λ _=>⟨k,0,rfl,by rw[e1];rfl,F8 hc g4⟩⟩
 obtain⟨ad,cap,e1,hcap,hclen,hne⟩:=hshape;obtain⟨bA,bB,rfl,hA,hB2⟩:=hd2.halves (Ty.dep_len r') k;subst eb;rw[Yb]at hnd;obtain⟨_,hnd2,hnd3⟩:=hnd;rw[Yb]at hnd2;obtain⟨hnA,hnB,hnAB⟩:=hnd2
 have labs:∀ k,(u.ownBlock=some k∨k∈bA∨k∈bB)→S.O k = .pl p []:=λ k hkk=>hk k (by
  rcases hkk with h|h|h
  ·rw[h];simp
  ·simp[h]
  ·simp[h])
 have h01:C B 0≠C B 1:=by unfold C;omega
 have hC3:C B 0<3001000∧C B 1<3001000∧1000≤C B 0∧1000≤C B 1:=by unfold C;omega
 have hHC:∀ b,H b≠C B 0∧H b≠C B 1:=λ b=>by unfold H C;omega
 let O1:Nat→Lab:=λ k=>if u.ownBlock=some k then .fz else if k∈bA then .pl (C B 0) [] else if k∈bB then .pl (C B 1) [] else S.O k
 have same:∀ k,S.O k ≠ .pl p []→O1 k=S.O k:=λ k hkk=>by
  show (if _ then _ else _)=_;rw[if_neg (λ h=>hkk (labs k (.inl h))),if_neg (λ h=>hkk (labs k (.inr (.inl h)))),if_neg (λ h=>hkk (labs k (.inr (.inr h))))]
 have fzs:∀ k,S.O k = .fz→O1 k = .fz:=λ k hkk=>(same k (by rw[hkk];simp)).trans hkk
 have kA:∀ k∈bA,O1 k = .pl (C B 0) []:=λ k hkk=>by
  show (if _ then _ else _)=_;rw[if_neg (λ h=>hnd3 k (by rw[h];simp) k (Vt _ hkk) rfl),if_pos hkk]
 have kB:∀ k∈bB,O1 k = .pl (C B 1) []:=λ k hkk=>by
  show (if _ then _ else _)=_;rw[if_neg (λ h=>hnd3 k (by rw[h];simp) k (Vi _ hkk) rfl),if_neg (λ h=>hnAB k h k hkk rfl),if_pos hkk]
 have kO:∀ k,u.ownBlock=some k→O1 k = .fz:=λ k hkk=>if_pos hkk;have knew:∀ k,S.O k = .no→O1 k = .no:=λ k h=>(same k (by rw[h];simp)).trans h
 let G:Nat→Nat×Sv:=upd (upd (upd S.g (C B 0) ((S.g (C B 0)).1+1,.one (.par e r' (xs.take k) 0))) (C B 1) ((S.g (C B 1)).1+1,.one (.par e r' xs k))) p (n+1,.one (.two (C B 0) ((S.g (C B 0)).1+1) ((S.g (C B 1)).1+1)))
 let PH:Nat→Value:=upd (upd S.ph (C B 0) (.slice ad k cap)) (C B 1) (S.ph p)
 have gp:G p=(n+1,.one (.two (C B 0) ((S.g (C B 0)).1+1) ((S.g (C B 1)).1+1))):=A8 _ _ _
 have g1:G (C B 1)=((S.g (C B 1)).1+1,.one (.par e r' xs k)):=by
  show upd _ p _ (C B 1)=_;rw[Aa _ _ (Pca hp1),A8]
 have g0:G (C B 0)=((S.g (C B 0)).1+1,.one (.par e r' (xs.take k) 0)):=by
  show upd _ p _ (C B 0)=_;rw[Aa _ _ (Pca hp0),Aa _ _ h01,A8]
 have gO:∀ q,q≠p→q≠C B 0→q≠C B 1→G q=S.g q:=λ q h1 h2 h3=>by
  show upd _ p _ q=_;rw[Aa _ _ h1,Aa _ _ h3,Aa _ _ h2]
 have phO:∀ q,q≠C B 0→q≠C B 1→PH q=S.ph q:=λ q h2 h3=>by
  show upd _ (C B 1) _ q=_;rw[Aa _ _ h3,Aa _ _ h2]
 have ph0:PH (C B 0) = .slice ad k cap:=by
  show upd _ (C B 1) _ (C B 0)=_;rw[Aa _ _ h01,A8]
 have ph1:PH (C B 1)=S.ph p:=A8 _ _ _
 have chg:∀ q,(G q).1=(S.g q).1→q≠p∧q≠C B 0∧q≠C B 1:=λ q hq=>
  ⟨λ e=>by rw[e,gp,hpg]at hq;simp at hq,λ e=>by rw[e,g0]at hq;simp at hq,λ e=>by rw[e,g1]at hq;simp at hq⟩
 have L:Ci S ⟨O1,S.bb,G,PH,S.w⟩:=by
  refine⟨λ q=>?_,λ q hq=>?_,λ q v' e' r'' xs' hp' hv'=>?_,λ _ _=>rfl,λ k hkk=>⟨fzs k hkk,rfl⟩,Ci.box_of (λ b m hv' hb=>?_) (λ k b hkk=>⟨(same k (by rw[hkk];simp)).trans hkk,rfl⟩),λ q hv' hdp=>?_,λ q hq=>?_⟩
  ·show _≤(G q).1
   by_cases h1:q=p
   ·rw[h1,gp,hpg];exact Zj _
   by_cases h2:q=C B 0
   ·rw[h2,g0];exact Zj _
   by_cases h3:q=C B 1
   ·rw[h3,g1];exact Zj _
   rw[gO q h1 h2 h3];exact Vo _
  ·obtain⟨_,h2,h3⟩:=chg q hq;exact phO q h2 h3
  ·have hp'':G q=(v',.one (.own e' r'' xs')):=hp'
   have hv'':(G q).1=(S.g q).1:=by rw[hp'',hv']
   obtain⟨h1,h2,h3⟩:=chg q hv'';rw[gO q h1 h2 h3]at hp'';exact⟨xs',hp'',rfl⟩
  ·obtain⟨h1,h2,h3⟩:=chg (H b) hv';show (G (H b)).2=_;rw[gO _ h1 h2 h3];exact hb
  ·obtain⟨h1,h2,h3⟩:=chg q hv';have e9:(⟨O1,S.bb,G,PH,S.w⟩:Sit).g q=S.g q:=gO q h1 h2 h3;rw[e9];exact⟨hdp,λ _ _ _ h=>h,λ k hkk=>⟨.inl ((same k (by rw[hkk];simp[h1])).trans hkk),rfl⟩⟩
  ·exact phO q (by omega) (by omega)
 have hlen:(xs.take k).length=k:=by rw[Vl];omega
 have hd:∀ b m,(G (H b)).2 = .one (.hd m)→b≠B∧(S.g (H b)).2 = .one (.hd m):=λ b m hb=>by
  have hpb:H b≠p:=λ e=>by rw[e,gp]at hb;cases hb
  rw[gO _ hpb (hHC b).1 (hHC b).2]at hb;exact⟨λ e=>(by rw[e,hH]at hb;cases hb),hb⟩
 refine⟨⟨O1,S.bb,G,PH,S.w⟩,⟨K.nt,λ j hj=>?_,λ q=>?_,λ b m hb=>?_,λ b m hb=>K.rgn b m (hd b m hb).2,λ t ht=>?_,K.sz,K.df,K.fr.relab knew fzs (λ k b h=>(same k (by rw[h];simp)).trans h),λ q hq=>?_⟩,?_,rfl⟩
 ·refine K.lt j (λ e9=>hj ?_);exact knew j e9
 ·show Fi X.P _ q (G q).2 (PH q)
  by_cases h1:q=p
  ·subst h1;rw[gp,phO q hp0 hp1];exact⟨by show _≤(G (C B 0)).1;rw[g0];exact Vo _,by show _≤(G (C B 0+1)).1;rw[show C B 0+1=C B 1 by unfold C;omega,g1];exact Vo _,ad,xs.length,cap,e1,hcap,λ _=>⟨k,hkx,ph0⟩,λ _=>by show PH (C B 0+1)=_;rw[show C B 0+1=C B 1 by unfold C;omega];exact ph1⟩
  by_cases h2:q=C B 0
  ·subst h2;rw[g0,ph0];refine⟨hsz,ad,cap,cs.take (k*r'.sz),bA,⟨by rw[hlen],by rw[hlen];omega⟩,?_,?_,hnA,kA,λ hn=>?_⟩
   ·rw[hlen,Vl,hclen];have:=Wa r'.sz hkx;omega
   ·rw[Wj,Zh,Wj];exact hA.mono (λ x c b hb hx=>Ty.dep_mono (λ k hk=>fzs k hk) (λ _ _=>rfl) r' x c b (λ _ _=>rfl) hx)
   ·obtain⟨k',o',q1,q2,q3⟩:=hne (by rw[hlen]at hn;omega);refine⟨k',o',q1,kO k' q2,λ j u hj=>q3 j u ?_⟩;rw[Wd]at hj;split at hj
    ·exact hj
    ·cases hj
  by_cases h3:q=C B 1
  ·subst h3;rw[g1,ph1];refine⟨hsz,ad,cap,cs,bB,⟨e1,hcap⟩,hclen,hB2.mono (λ x c b hb hx=>Ty.dep_mono (λ k hk=>fzs k hk) (λ _ _=>rfl) r' x c b (λ _ _=>rfl) hx),hnB,kB,λ hn=>?_⟩;obtain⟨k',o',q1,q2,q3⟩:=hne hn;exact⟨k',o',q1,kO k' q2,q3⟩
  rw[gO q h1 h2 h3,phO q h2 h3];exact(K.at_ q).later L (λ w j hj=>⟨(same j (by rw[hj];simp[h1])).trans hj,rfl⟩)
 ·obtain⟨hbB,hb'⟩:=hd b m hb;obtain⟨y1,c1,e2,y2,y3,y4,y5⟩:=K.box b m hb';refine⟨y1,c1,e2,y2,(same _ (by rw[y3];simp)).trans y3,y4,λ j hj=>?_⟩;show _=some (PH (C b j))
  have hcc:C b j≠C B 0∧C b j≠C B 1:=by unfold C;omega
  rw[phO _ hcc.1 hcc.2];exact y5 j hj
 ·show _=PH t;have:t<1000:=Wi ht K.nt;rw[phO t (by omega) (by omega)];exact K.sl t ht
 ·show PH q=_;rw[phO q (by omega) (by omega)];exact K.io q hq
 ·show G=_;rw[show ∀ u1 u2 u3,ups A [u1,u2,u3]=ups (ups (ups A [u1]) [u2]) [u3] from λ _ _ _=>rfl,A7,A7,A7,← hg];show upd _ p _=upd _ p _;rw[Aa _ _ hp1,Aa _ _ hp0,Aa _ _ (Pca h01),hpg]
def Gaa {R:Type} {K':Ab→Option R} {y:R} (hE:Fo X E) (g:Gh) (K:Ah X S a) (hg:S.g=get A) (h:Nj E A K' g=some y):∃ A' S',K' A'=some y∧Ah X S' a∧S'.g=get A'∧S'.w=S.w:=by
 have keep:K' A=some y→∃ A' S',K' A'=some y∧Ah X S' a∧S'.g=get A'∧S'.w=S.w:=λ h=>⟨A,S,h,K,hg,rfl⟩
 cases g with
 |cl p=>
  simp only[Nj]at h;split at h
  ·rename_i us hus;obtain⟨S1,K1,g1,w1⟩:=G8a K hg hus;exact⟨_,S1,h,K1,g1,w1⟩
  ·exact keep h
 |op p t B=>
  simp only[Nj]at h;cases hb:Nat.blt t E.nt
  ·rw[hb,cond_false]at h;exact keep h
  rw[hb,cond_true]at h;split at h
  ·rename_i e r xs k i hp ht;rcases L6 h with h|⟨us,hus,h⟩
   ·exact keep h
   ·have:Fqa A p t B=some us:=by unfold Fqa;rw[hp,ht];exact hus
    obtain⟨S1,K1,g1,w1⟩:=G7a K hg this;exact⟨_,S1,h,K1,g1,w1⟩
  ·exact keep h
 |sp p t B=>
  simp only[Nj]at h;cases hb:(Nat.blt t E.nt&&(Nat.ble 2000 B&&Nat.blt B 3000)&&!(Nat.beq p (C B 0))&&!(Nat.beq p (C B 1)))
  ·rw[hb,cond_false]at h;exact keep h
  rw[hb,cond_true]at h;simp only[Va,Wk]at hb;obtain⟨⟨⟨_,_,b3⟩,b4⟩,b5⟩:=hb;split at h
  ·rename_i n e r xs k i hp ht hH;cases hao:Dh r
   ·rw[hao,cond_false]at h;exact keep h
   rw[hao,cond_true]at h;rw[csi]at h;obtain⟨hq,h⟩:=h;simp only[Va,decide_eq_true_eq]at hq;obtain⟨S1,K1,g1,w1⟩:=G9a K hg (p:=p) (n:=n) (B:=B) (e:=e) (r':=r) (xs:=xs) (k:=i.toNat) (Vd b3) (λ e=>by rw[e,P5a]at b4;cases b4) (λ e=>by rw[e,P5a]at b5;cases b5) (by rw[hg,hp]) (by rw[hg,hH]) (by omega);exact⟨_,S1,h,K1,g1,w1⟩
  ·exact keep h
 |oc p i B=>
  simp only[Nj]at h;split at h
  ·rename_i e r xs hp;rcases L6 h with h|⟨us,hus,h⟩
   ·exact keep h
   ·obtain⟨S1,_,_,K1,g1,w1,_⟩:=L5 K hg (p:=p) (v:=(S.g p).1) (by rw[← hg]at hp;rw[← hp]) hus;exact⟨_,S1,h,K1,g1,w1⟩
  ·exact keep h
 |od d B=>
  simp only[Nj]at h;cases hb:Nat.blt d E.nt
  ·rw[hb,cond_false]at h;exact keep h
  have hd:d<X.nt:=hE.nt ▸ (Vd hb:d+1≤E.nt);rw[hb,cond_true]at h;split at h
  ·rename_i p v i off hp;split at h
   ·rename_i n e r xs hpp;cases hq:(Nat.beq n v&&Gd r&&!(Nat.beq p d))
    ·rw[hq,cond_false]at h;exact keep h
    rw[hq,cond_true]at h;rcases L6 h with h|⟨us,hus,h⟩
    ·exact keep h
    ·have:Aaa A d B=some (us++[⟨d,false,.one (.bp B ((get A (H B)).1+1) off)⟩]):=by unfold Aaa;simp only[hp,hpp,hq,cond_true,hus]
     obtain⟨S1,K1,g1,w1⟩:=Xh K hg hd this;exact⟨_,S1,h,K1,g1,w1⟩
   ·exact keep h
  ·rename_i p v e0 r0 xs0 i off hp;split at h
   ·rename_i n e r xs hpp;cases hq:(Nat.beq n v&&!(Gd r)&&!(Nat.beq p d))
    ·rw[hq,cond_false]at h;exact keep h
    rw[hq,cond_true]at h;rcases L6 h with h|⟨us,hus,h⟩
    ·exact keep h
    ·have:Aaa A d B=some (us++[⟨d,false,.one (.bp B ((get A (H B)).1+1) off)⟩]):=by unfold Aaa;simp only[hp,hpp,hq,cond_true,hus]
     obtain⟨S1,K1,g1,w1⟩:=Xh K hg hd this;exact⟨_,S1,h,K1,g1,w1⟩
   ·exact keep h
  ·exact keep h
def Hy {R:Type} {K':Ab→Option R} {y:R} (hE:Fo X E):∀ (l:List Gh) {S:Sit} {A:Ab},Ah X S a→S.g=get A→I6 E l A K'=some y→∃ A' S',K' A'=some y∧Ah X S' a∧S'.g=get A'∧S'.w=S.w
 |[],S,A,K,hg,h=>⟨A,S,h,K,hg,rfl⟩
 |g::l,S,A,K,hg,h=>by
  obtain⟨A1,S1,h1,K1,g1,w1⟩:=Gaa hE g K hg h;obtain⟨A2,S2,h2,K2,g2,w2⟩:=Hy hE l K1 g1 h1;exact⟨A2,S2,h2,K2,g2,w2.trans w1⟩
end
end

section
attribute [local irreducible] C H
section
variable {X:Cx} {S S':Sit} {a:Act} {E:En} {A:Ab} {o:Oper} {R:Type} {Kc:List Up→Option R} {r:R}
def Ss (hE:Fo X E) (K:Ah X S a) (hg:S.g=get A) {T:TypeId} {x i:Operand} {d:Nat} (ho:o.op = .indexAddr T x i) (hod:o.dst=some d) (hd:d<X.nt) (hopn:E.opn d=true) (h:Ai E o A Kc=some r):Er X o a S.w A Kc r:=by
 unfold Ai at h;rw[ho,hod]at h;simp only[hopn,cond_true]at h;split at h
 ·rename_i p v k n hs hn;have ei:=(Hi hE K hg hn).1;obtain⟨l,hl⟩:=Ed hE K hg hs;have hl':Af X.P S (.pl l []) (.al p v) (a.eval x):=hl;split at h
  ·rename_i m e r' xs hp;rw[csi]at h;obtain⟨hq,h⟩:=h;simp only[Va,Wk]at hq;obtain⟨⟨q1,q2⟩,q3⟩:=hq;have hmv:m=v:=Vb q1;subst hmv
   have hpd:p≠d:=λ e=>by rw[e,P5a]at q3;cases q3
   rcases L6 h with h|⟨us,hus,h⟩
   ·cases h
   ·have hp':S.g p=(m,.one (.own e r' xs)):=by rw[hg,hp]
    have he:a.eval x=S.ph p:=hl'.2 (by rw[hp'])
    have hown:Ch X.P S.O S.w (.pl p []) e r' xs (S.ph p):=by have:=K.at_ p;rw[hp']at this;exact this
    have hb:0≤n∧n<(xs.length:Int):=by
     unfold Ku at hus;generalize ((Gd r'||Dh r')&&Nat.blt r'.sz 999&&!(Nat.beq (p/1000) (2000+d+1))&&(Nat.ble 2000 (2000+d)&&Nat.blt (2000+d) 3000))=bb at hus;cases bb
     ·simp at hus
     rw[cond_true]at hus
     by_cases h0:0≤n
     ·by_cases h1:n<(xs.length:Int)
      ·exact⟨h0,h1⟩
      ·simp[h0,h1]at hus
     ·simp[h0]at hus
    obtain⟨S',k',cap,K',g',w',ph',bb',pq,gH,gq⟩:=L5 K hg hp' hus;have hr:=Fw (w:=S.w) (Fb q2 hE.ti) hown.top.1 ho (he.trans ph') ei hb.1 hb.2;rw[Wb,← w']at hr
    have hsv:Fi X.P S' 0 (.one (.bp (2000+d) ((S.g (H (2000+d))).1+1) 0)) (.pointer (some ⟨k',n.toNat*r'.sz,none⟩)):=by
     refine⟨by rw[gH];exact Vo _,λ _=>?_⟩;rw[bb'];rfl
    have K2:=K'.put0 hd _ _ 0 rfl hsv;refine⟨_,h,?_⟩;rw[← w'];refine Ac (S:=Gp S' (λ _ _=>none) d _ _) hr (by rw[hod];exact K2) ?_;show upd S'.g d _=_;rw[Ae,A7,← g',← hg]
  ·cases h
 ·cases h
end
end

section
attribute [local irreducible] C H
section
variable {X:Cx} {S S':Sit} {a:Act} {E:En} {A:Ab} {o:Oper} {R:Type} {Kc:List Up→Option R} {r:R}
def Ah.names (K:Ah X S a) (h:Nat→List Nat→Option Lab) (hno:∀ n q,h n q≠some .no):Ah X { S with O:=atO S.O h } a∧Ci S { S with O:=atO S.O h }:=by
 have L:Ci S { S with O:=atO S.O h }:=⟨λ _=>Vo _,λ _ _=>rfl,λ p v e r xs' h _=>⟨xs',h,rfl⟩,λ _ _=>rfl,λ k hk=>⟨Al hk (by simp),rfl⟩,Ci.box_of (λ _ _ _ h=>h) (λ k b h=>⟨Al h (by simp),rfl⟩),λ p _ hd=>⟨hd,λ _ _ _ h=>h,λ k hk=>⟨.inl (Al hk (by simp)),rfl⟩⟩,λ _ _=>rfl⟩
 exact⟨K.ghost _ _ (λ k e=>Al e (by simp)) (λ k e1 e2=>e1 (Al e2 (by simp))) (λ k e=>Al e (by simp)) (λ k b e=>Al e (by simp)) (λ _ _ e=>e)
  (λ l=>(K.at_ l).later L (λ p k e=>⟨Al e (by simp),rfl⟩)),L⟩
def Xi (i:Nat):Nat→List Nat→Option Lab:=λ n _=>if n=i then some .fz else none
def L7 {P:Program} {S:Sit} {i:Nat} {q:Nat→List Nat}:∀ {l:List Lf} {j:Nat} {us:List Value},A3 l=true→A5 P S (λ n => .tm i (q n)) j l us→Gu (G6 P (λ k=>atO S.O (Xi i) k = .fz) S.w) (l.map Hn) us
 |[],_,[],_,_ => .nil
 |[],_,_::_,_,h=>h.elim
 |_::_,_,[],_,h=>h.elim
 |x::l,j,u::us,hst,h=>by
  have hfz:∀ k,S.O k = .fz→atO S.O (Xi i) k = .fz:=λ k hk=>Al hk (by simp)
  cases x with
  |sc v=>exact .cons h.1 (L7 (by simpa[A3] using hst) h.2)
  |fz e r xs=>exact .cons (Ty.rep_mono (t := .sl e r) hfz (λ _ _=>rfl) _ _ h.1) (L7 (by simpa[A3] using hst) h.2)
  |own e r xs=>
   refine .cons ?_ (L7 (by simpa[A3] using hst) h.2);have h1:Ch P S.O S.w (.tm i (q j)) e r xs u:=h.1;exact h1.reads (O':=λ k=>atO S.O (Xi i) k) hfz (λ k hk=>F3 hk (by simp[Xi]))
  |_=>simp[A3]at hst
def Ho:∀ {m:List Lf},K8 m=true→A3 m=true
 |[],_=>rfl
 |x::m,h=>by
  cases x<;>first|(simp[K8]at h;done)|(simp only[K8]at h;simp only[A3];exact Ho h)
def J3 {P:Program} {f:Nat→Lab}:∀ {l:List Lf} {j:Nat} {us:List Value},A3 l=true→A5 P S f j l us→∀ u∈us,u.oneCell'=true
 |[],_,[],_,_=>by simp
 |[],_,_::_,_,h=>h.elim
 |_::_,_,[],_,h=>h.elim
 |x::l,j,u::us,hst,h=>by
  intro v hv;rcases Vk.1 hv with rfl|hv
  ·cases x with
   |sc w=>
    obtain⟨rfl,h2⟩:=h.1;unfold U6 at h2
    split at h2<;>first|rfl|cases h2
   |fz e r xs=>
    obtain⟨ad,cap,e1⟩:=Ns (X:=⟨P,λ _ => .no,S.w,λ _=>(0,0),0,0,λ _=>undef⟩) h.1;rw[e1];rfl
   |own e r xs=>
    obtain⟨ad,cap,e1⟩:=M1 (X:=⟨P,λ _ => .no,S.w,λ _=>(0,0),0,0,λ _=>undef⟩) h.1;rw[e1];rfl
   |_=>simp[A3]at hst
  ·refine J3 (l:=l) (us:=us) ?_ h.2 v hv
   cases x<;>first|(simp[A3]at hst;done)|simpa[A3] using hst
def Coa {X:Cx} {S:Sit} {A:Ab} (hg:S.g=get A) {f:Nat→Lab}:∀ {l:List Lf} {j:Nat} {us:List Value},E7 A l=true→A5 X.P S f j l us→(∀ u∈us,u.oneCell'=true)∧∀ k,.hd k∉l
 |[],_,[],_,_=>by simp
 |[],_,_::_,_,h=>h.elim
 |_::_,_,[],_,h=>h.elim
 |x::l,j,u::us,hst,h=>by
  have rest:E7 A l=true:=by
   cases x<;>first|(simp[E7]at hst;done)|(simp only[E7,Va]at hst;exact hst.2)|simpa[E7] using hst
  obtain⟨r1,r2⟩:=Coa hg rest h.2;refine⟨λ v hv=>?_,λ k hk=>?_⟩
  ·rcases Vk.1 hv with hv|hv
   ·rw[hv];have one:A3 [x]=true→u.oneCell'=true:=λ hs=>J3 (P:=X.P) (S:=S) (f:=f) (l:=[x]) (j:=j) (us:=[u]) hs ⟨h.1,trivial⟩ u (by simp)
    cases x with
    |da p v pi e r xs=>
     simp only[E7,Va]at hst;obtain⟨ad,cap,e1⟩:=Sh (X:=X) h.1 (by rw[hg];exact Vb hst.1);rw[e1];rfl
    |sc w=>exact one rfl
    |fz e r xs=>exact one rfl
    |own e r xs=>exact one rfl
    |_=>simp[E7]at hst
   ·exact r1 v hv
  ·rcases Vk.1 hk with rfl|hk
   ·simp[E7]at hst
   ·exact r2 k hk
def Fc {s:Sv} {u:Value} {us:List Value} (hs:M3 s u us) (hnt:∀ vs,s ≠ .tup vs) (h1:∀ v∈us,v.oneCell'=true):u.cells=us.toArray:=by
 cases s with
 |agg l=>have:u = .agg us.toArray:=hs;rw[this];rfl
 |one x=>
  have:us=[u]:=hs;subst this;have:=h1 u (by simp)
  cases u<;>first|(simp[Value.oneCell']at this;done)|rfl
 |tup vs=>exact absurd rfl (hnt vs)
def Jj {s:Sv} {T:TypeId} {t:TI} {l:List Lf} (hl:l.length=(parts s).length) (h:l.length=t.ty.sz) (ht:TOk X.P T t):∀ vs,s ≠ .tup vs:=by
 intro vs e;subst e
 have:∀ t:Ty,0<t.sz:=by intro t;induction t<;>simp[Ty.sz]<;>omega
 have:=this t.ty;simp[parts]at hl;simp[hl]at h;omega
def Id {P:Program} {w:World} {T:TypeId} {t:TI} {x y:Operand} {k o':Nat} {us:List Value} {c:Array Value} {e:TypeId} {u:Value} (ht:TOk P T t) (ho:o.op = .store T x y) (hx:a.eval x = .pointer (some ⟨k,o',none⟩)) (hy:a.eval y=u) (hu:u.cells=us.toArray)
  (hl:us.length=t.ty.sz) (hc:w.heap[k]? = some (.cells c e (0,0))) (hle:o'+us.length≤c.size) (h1:∀ v∈us,v.oneCell'=true):
  (execOp a.eval o).run P w = .ok .skip (w.setRow k (c.toList.take o'++us++c.toList.drop (o'+us.length)).toArray):=by
 have hst:=run_storeCells_at P k o' e us 0 c w hc (by simpa using hle) h1;simp only[Yt]at hst;unfold execOp;simp only[ho,hx,hy,Instr.storeAt,Instr.sureAddr,Vw,Wl,Vv,storeVar,hu,G7 (Jg ht),Oqa];rw[if_neg (by simp[hl])];simp[hst]
def Xj {s:Sv} {b off:Nat} {m:List Lf} (hm:m.length=(parts s).length) (hnt:∀ vs,s ≠ .tup vs):∀ j,j<m.length→P5 b off 0 (pth s j)=some (.pl (C b (off+j)) []):=by
 intro j hj
 cases s with
 |one x=>
  have:j=0:=by simp[parts]at hm;omega
  subst this;rfl
 |agg l=>rfl
 |tup vs=>exact absurd rfl (hnt vs)
def St {y:Operand} {s:Sv} {ts:List Ty} {m:List Lf} {us:List Up} (h:Lw A y s ts=some (m,us)):m.length=(parts s).length:=by
 unfold Lw at h;split at h
 ·rename_i m0 vs0 ht;cases hst:A3 m0
  ·rw[hst]at h;simp at h
  rw[hst]at h;simp only[cond_true,Vc,Vu]at h;obtain⟨rfl,_⟩:=h;exact(H6 _ _ ht).1
 ·cases h
def H2 {m:List Lf} (h:A3 m=true):∀ k,.hd k∉m:=by
 induction m with
 |nil=>simp
 |cons x l ih=>
  intro k hk;rcases Vk.1 hk with rfl|hk
  ·simp[A3]at h
  ·exact ih (by cases x<;>first|(simp[A3]at h;done)|simpa[A3] using h) k hk
def Un {p:Nat}:∀ (U:List Up) (A0:Ab),Boa p U=true→get (ups A0 U) p=get A0 p
 |[],A0,_=>rfl
 |u::U,A0,hU=>by
  simp only[Boa,Va,Wk]at hU;show get (ups (up A0 u) U) p=_;rw[Un U _ hU.2,Hg,Aa];intro e2;rw[e2]at hU;simp at hU
def Lma.setAll {P:Program} {G:Nat→Prop} {w:World} {l m:List Lf} {cs us:List Value} {off:Nat} (h:Gu (G6 P G w) l cs) (hm:Gu (G6 P G w) m us):
  Gu (G6 P G w) (Vf.setAll l off m) (cs.take off++us++cs.drop (off+us.length)):=by
 unfold Vf.setAll;rw[hm.len];exact((h.take off).append hm).append (h.drop _)
def Cpa {P:Program} {O:Nat→Lab} {w:World} {p:Nat} {e:TypeId} {r':Ty} {xs:List r'.den} {u:Value} {k cap i off:Nat} {cur:Array Value} {m:List Lf} {us:List Value} {z:r'.den}
  (hno:Gd r'=true) (h:Ch P O w (.pl p []) e r' xs u) (hu:u = .slice (some ⟨k,0,none⟩) xs.length cap) (hc:w.heap[k]? = some (.cells cur e (0,0))) (hk:O k = .pl p []) (hi:i<xs.length) (hm:Gu (G6 P (λ k=>O k = .fz) w) m us)
  (hz:mkW r' (Vf.setAll (lvs r' (xs.getD i r'.dflt)) off m)=some z) (hle:off+us.length≤r'.sz):
  i*r'.sz+off+us.length≤cur.size∧Ch P O (w.setRow k (cur.toList.take (i*r'.sz+off)++us++cur.toList.drop (i*r'.sz+off+us.length)).toArray) (.pl p []) e r' (xs.set i z) u:=by
 rw[Ch.flat hno];obtain⟨hs,cs,hrow,hrows,hb⟩:=(Ch.flat hno).1 h;rcases Cl hrow with⟨e1,_⟩|⟨k',cap',cur',e1,hcur,h1,h2,h3,h4⟩
 ·rw[hu]at e1;cases e1
 ·rw[hu]at e1;cases e1;rw[hc]at hcur;cases hcur;have hlt:(i+1)*r'.sz≤xs.length*r'.sz:=Wa _ hi;have hcl:cs.length=xs.length*r'.sz:=hrow.1;have hcap:xs.length*r'.sz≤cap*r'.sz:=Wa _ h1;rw[Yg,Yk]at hlt;have hget:=hrows.get (Ty.rep_len r') i (xs.getD i r'.dflt) (by rw[Vn,Vp hi];rfl);have hnew:=Np hz (Lma.setAll (off:=off) (I8 _ _ _ hget) hm);have hrows2:=hrows.set (Ty.rep_len r') i z _ hi hnew;rw[← I3a (by omega) (by omega)]at hrows2;refine⟨by omega,hs,_,⟨?_,.inr ⟨k,cap,_,by rw[Yl];exact hu,Wh _,setRow_heap _ _ _ _ _ _ hc,by rw[Yl];exact h1,h2,?_,?_⟩⟩,hrows2.mono (λ x c=>Ty.rep_mono (λ _ h=>h) (λ j hj=>setRow_other _ _ _ _ (λ e=>by have:O k = .fz:=e ▸ hj;rw[hk]at this;cases this)) r' x c),hb⟩
  ·simp only[Vh,Vl,Vx,Yl];omega
  ·simp only[Oqa,Vh,Vl,Vx,Yh];omega
  ·rw[Yl,← h4];exact Nw (n:=xs.length*r'.sz) (by omega) (by have h9:cur.toList.length=cur.size:=Yh;omega)
def Ah.rewrite (K:Ah X S a) {p n k:Nat} {e:TypeId} {r':Ty} {xs ys:List r'.den} {w':World} (hno:Gd r'=true) (hp:S.g p=(n,.one (.own e r' xs))) (hk:S.O k = .pl p []) (hold:∀ j o',S.O j=o'→o' ≠ .pl p []→w'.heap[j]? = S.w.heap[j]?)
  (hsz:w'.heap.size=S.w.heap.size) (h1:w'.os=S.w.os) (h2:w'.tape=S.w.tape) (h3:w'.output=S.w.output) (hown:Ch X.P S.O w' (.pl p []) e r' ys (S.ph p)) (hlen:ys.length=xs.length):
  Ah X { S with g:=upd S.g p (n,.one (.own e r' ys)),w:=w' } a∧({ S with g:=upd S.g p (n,.one (.own e r' ys)),w:=w' }:Sit).g=upd S.g p (n,.one (.own e r' ys)):=by
 have L:Ci S { S with g:=upd S.g p (n,.one (.own e r' ys)),w:=w' }:=by
  refine⟨λ q=>?_,λ _ _=>rfl,λ q v e2 r2 xs' hq hv=>?_,λ _ _=>rfl,λ j hj=>⟨hj,hold j _ hj (by simp)⟩,Ci.box_of (λ b m hv hh=>?_) (λ j b h=>⟨h,hold j _ h (by simp)⟩),λ q hv hd=>?_,λ _ _=>rfl⟩
  ·show _≤(upd S.g p _ q).1
   by_cases h:q=p
   ·subst h;rw[A8,hp];exact Vo _
   ·rw[Aa _ _ h];exact Vo _
  ·have hq':upd S.g p (n,.one (.own e r' ys)) q=(v,.one (.own e2 r2 xs')):=hq
   by_cases h:q=p
   ·subst h;rw[A8]at hq';cases hq';exact⟨xs,hp,hlen.symm⟩
   ·rw[Aa _ _ h]at hq';exact⟨xs',hq',rfl⟩
  ·have hb:H b≠p:=λ e=>by subst e;rw[hp]at hh;cases hh
   exact(congrArg Prod.snd (Aa _ _ hb)).trans hh
  ·have h:q≠p:=λ e=>by subst e;rw[hp]at hd;simp[Ue,Fva,hno]at hd
   have e1:({ S with g:=upd S.g p (n,.one (.own e r' ys)),w:=w' }:Sit).g q=S.g q:=Aa _ _ h;rw[e1];exact⟨hd,λ _ _ _ h=>h,λ k hk=>⟨.inl hk,hold k _ hk (by simp[h])⟩⟩
 have F:=K.fr;refine⟨⟨K.nt,λ j hj=>by rw[show ({ S with g:=upd S.g p (n,.one (.own e r' ys)),w:=w' }:Sit).w=w' from rfl,hsz];exact K.lt j hj,λ l=>?_,λ b m hb=>?_,λ b m hb=>?_,K.sl,K.sz,K.df,⟨h1.trans F.os,h2.trans F.tape,h3.trans F.out,by rw[show ({ S with g:=upd S.g p (n,.one (.own e r' ys)),w:=w' }:Sit).w=w' from rfl,hsz];exact F.size,λ j hj h0=>?_,λ j hj h0=>?_,λ j b hj h0=>?_⟩,K.io⟩,rfl⟩
 ·show Fi X.P _ l (upd S.g p _ l).2 _
  by_cases h:l=p
  ·subst h;rw[A8];exact hown
  ·rw[Aa _ _ h];exact(K.at_ l).later L (λ q j hj=>⟨hj,hold j _ hj (by simp[h])⟩)
 ·have hne:H b≠p:=by
   intro e2;have:(upd S.g p (n,.one (.own e r' ys)) (H b)).2 = .one (.hd m):=hb;rw[e2,A8]at this;cases this
  have hb':(S.g (H b)).2 = .one (.hd m):=by
   have:(upd S.g p (n,.one (.own e r' ys)) (H b)).2 = .one (.hd m):=hb;rwa [Aa _ _ hne]at this
  obtain⟨hn,c,e1,e2,e3,e4⟩:=K.box b m hb';exact⟨hn,c,e1,(hold _ _ e3 (by simp)).trans e2,e3,e4⟩
 ·have hne:H b≠p:=by
   intro e2;have:(upd S.g p (n,.one (.own e r' ys)) (H b)).2 = .one (.hd m):=hb;rw[e2,A8]at this;cases this
  have hb':(S.g (H b)).2 = .one (.hd m):=by
   have:(upd S.g p (n,.one (.own e r' ys)) (H b)).2 = .one (.hd m):=hb;rwa [Aa _ _ hne]at this
  exact K.rgn b m hb'
 ·obtain⟨f1,f2⟩:=F.no j hj h0;exact⟨f1,(hold j _ f1 (by simp)).trans f2⟩
 ·obtain⟨f1,f2⟩:=F.fz j hj h0;exact⟨f1,(hold j _ f1 (by simp)).trans f2⟩
 ·obtain⟨f1,c,c',e1,f,f2,f3,f4,f5⟩:=F.bx j b hj h0;exact⟨f1,c,c',e1,f,f2,(hold j _ f1 (by simp)).trans f3,f4,f5⟩
def Gba (hE:Fo X E) (K:Ah X S a) (hg:S.g=get A) {T:TypeId} {x y:Operand} (ho:o.op = .store T x y) (hod:o.dst=none) (h:Ai E o A Kc=some r):Er X o a S.w A Kc r:=by
 unfold Ai at h;rw[ho,hod]at h;simp only at h
 have skip:∀ {S2:Sit} {w:World} {A':Ab},(execOp a.eval o).run X.P w = .ok .skip S2.w→Ah X S2 a→S2.g=get A'→C7a X o a w A':=by
  intro S2 w A' hr K2 hg2;refine C8a hr ?_ hg2;rw[hod];exact K2
 split at h
 ·rename_i ti b v off s hti hsx hsy;obtain⟨pl,hsv⟩:=Ed hE K hg hsx;have hlf:Af X.P S (.pl pl []) (.bp b v off) (a.eval x):=hsv
  cases hmv:mvO E y with
  |true=>
   rw[hmv,cond_true]at h;split at h
   ·rename_i m vs hgive;split at h
    ·rename_i n hd hp;rw[csi]at h;obtain⟨hq,h⟩:=h;simp only[Va]at hq;obtain⟨⟨q1,q3⟩,q4⟩:=hq
     have hnv:n=v:=by simpa using q1
     have hle:off+ti.ty.sz≤hd:=Vd q4;have hlen:m.length=ti.ty.sz:=Vb q3;subst hnv;have ht:=hE.ti _ _ hti;have hnt:=Jj (X:=X) (s:=s) (St hgive) hlen ht
     have hh:(S.g (H b)).2 = .one (.hd hd):=by rw[hg,hp]
     obtain⟨S1,K1,g1,G1,q2,_,us,hsh,hls⟩:=Xg hE K hg (.inl hsy) hnt hgive 0
     have hh1:(S1.g (H b)).2 = .one (.hd hd):=by rw[G1.heads b hd hh];exact hh
     obtain⟨_,c,e,c1,c2,c3,c4⟩:=K1.box b hd hh1
     have hpt:a.eval x = .pointer (some ⟨(S1.bb b).1,(S1.bb b).2+off,none⟩):=by rw[G1.bb];exact hlf.2 (by rw[hg,hp])
     have hul:=hls.len;have hone:=J3 q2 hls;obtain⟨K2,L2⟩:=K1.cells (b:=b) (off:=off) hh1 (by rw[hlen];exact hle) c1 hls (Xj (St hgive) hnt) (H2 q2);have hr:=Id (w:=S1.w) ht ho hpt rfl (Fc hsh hnt hone) (hul.trans hlen) c1 (by omega) hone;refine⟨_,h,skip (by rw[← G1.w];exact hr) K2 ?_⟩;show Ib S1.g b off _=_;rw[Ae,Fq,← g1]
    ·cases h
   ·cases h
  |false=>
  rw[hmv,cond_false]at h;split at h
  ·rename_i n hd hp;rw[csi]at h;obtain⟨hq,h⟩:=h;simp only[Va]at hq;obtain⟨⟨⟨q1,q2⟩,q3⟩,q4⟩:=hq
   have hnv:n=v:=by simpa using q1
   have hle:off+ti.ty.sz≤hd:=Vd q4;have hlen:((parts s).map (Gk A)).length=ti.ty.sz:=Vb q3;subst hnv;have ht:=hE.ti _ _ hti;have hnt:=Jj (X:=X) (s:=s) (by simp) hlen ht
   have hh:(S.g (H b)).2 = .one (.hd hd):=by rw[hg,hp]
   obtain⟨S1,K1,g1,w1,b1,p1,L1,x1,heads,_,us,hsh,hls⟩:=Cga hE K hg hsy hnt 0
   have hh1:(S1.g (H b)).2 = .one (.hd hd):=by rw[(heads b).2 hd hh];exact hh
   obtain⟨_,c,e,c1,c2,c3,c4⟩:=K1.box b hd hh1
   have hpt:a.eval x = .pointer (some ⟨(S1.bb b).1,(S1.bb b).2+off,none⟩):=by rw[b1];exact hlf.2 (by rw[hg,hp])
   have hul:=hls.len;obtain⟨hone,hnohd⟩:=Coa g1 q2 hls;obtain⟨K2,L2⟩:=K1.cells (b:=b) (off:=off) hh1 (by rw[hlen];exact hle) c1 hls (Xj (by simp) hnt) hnohd;have hr:=Id (w:=S1.w) ht ho hpt rfl (Fc hsh hnt hone) (hul.trans hlen) c1 (by omega) hone;refine⟨_,h,skip (by rw[← w1];exact hr) K2 ?_⟩;show Ib S1.g b off _=_;rw[Ae,Fq,← g1]
  ·cases h
 ·rename_i ti p v i off s hti hsx hsy;obtain⟨pl,hsv⟩:=Ed hE K hg hsx;have hlf:Af X.P S (.pl pl []) (.ep p v i off) (a.eval x):=hsv;split at h
  ·rename_i n e r' xs hp;rw[csi]at h;obtain⟨hq,h⟩:=h;simp only[Va]at hq;obtain⟨⟨⟨⟨⟨q1,hno⟩,q2⟩,q3⟩,q4⟩,q5⟩:=hq
   have hnv:n=v:=by simpa using q1
   have hlen:((parts s).map λ x=>Hn (Gk A x)).length=ti.ty.sz:=Vb q3;have hle:off+((parts s).map λ x=>Hn (Gk A x)).length≤r'.sz:=Vd q4;subst hnv;split at h
   ·rename_i z hz;have ht:=hE.ti _ _ hti;have hnt:=Jj (X:=X) (s:=s) (by simp) hlen ht;obtain⟨S1,K1,g1,w1,b1,p1,L1,x1,heads,_,us,hsh,hls⟩:=Cga hE K hg hsy hnt 0;have hul:=hls.len;have hone:=J3 q2 hls;have hrep:=L7 q2 hls;rw[Oua]at hrep;rw[Yj]at hul hlen hle
    obtain⟨K2,L2⟩:=K1.names (Xi 0) (by intro n q;unfold Xi;split<;>simp)
    have L12:=L1.trans L2
    have hp2:({ S1 with O:=atO S1.O (Xi 0) }:Sit).g p=(n,.one (.own e r' xs)):=by
     show S1.g p=_;rw[g1,Un _ _ q5,hp]
    have hlf2:Af X.P { S1 with O:=atO S1.O (Xi 0) } .fz (.ep p n i off) (a.eval x):=(Af.relab (lab' := .fz) rfl hlf).later L12 (λ k hk=>L12.fz k hk);obtain⟨k,_,cur,cap,e1,_,_,hi,e4,e5,e6⟩:=Xd K2 hno hp2 hlf2
    have hown:Ch X.P (atO S1.O (Xi 0)) S1.w (.pl p []) e r' xs (S1.ph p):=by
     have h0:=K2.at_ p;rw[hp2]at h0;exact h0
    obtain⟨hsz,hown3⟩:=Cpa (us:=us) hno hown e4 e5 e6 hi hrep hz (by omega);have hr:=Id (w:=S1.w) ht ho e1 rfl (Fc hsh hnt hone) (by omega) e5 hsz hone;have hold:∀ j,j≠k→(S1.w.setRow k (cur.toList.take (i.toNat*r'.sz+off)++us++cur.toList.drop (i.toNat*r'.sz+off+us.length)).toArray).heap[j]? = S1.w.heap[j]? := λ j hj=>setRow_other _ _ _ _ hj;have hne:∀ j o',atO S1.O (Xi 0) j=o'→o' ≠ .pl p []→(S1.w.setRow k (cur.toList.take (i.toNat*r'.sz+off)++us++cur.toList.drop (i.toNat*r'.sz+off+us.length)).toArray).heap[j]? = S1.w.heap[j]? := λ j o' hj ho'=>hold j (λ e=>ho' (by rw[← hj,e];exact e6));obtain⟨K3,g3⟩:=K2.rewrite hno hp2 e6 hne (by simp[World.setRow]) rfl rfl rfl hown3 (by simp);refine⟨_,h,skip (by rw[← w1];exact hr) K3 ?_⟩;rw[g3,Ae,Jc,← g1];show upd S1.g p _=_;congr 1;have:S1.g p=(n,.one (.own e r' xs)):=hp2;rw[this]
   ·cases h
  ·cases h
 ·rename_i ti p v q e r1 xs i off s hti hsx hsy;obtain⟨pl,hsv⟩:=Ed hE K hg hsx;obtain⟨hd',hda,hdp⟩:Af X.P S (.pl pl []) (.dp p v (some q) e r1 xs i off) (a.eval x):=hsv;split at h
  ·rename_i m us hgive;split at h
   ·rename_i n E0 R0 XS hp;rw[csi]at h;obtain⟨hq,h⟩:=h;simp only[Va]at hq;obtain⟨⟨⟨⟨⟨q1,q2⟩,q3⟩,q4⟩,q5⟩,q6⟩:=hq;have hnv:n=v:=Vb q1;have hlen:m.length=ti.ty.sz:=Vb q3;have hle:off+m.length≤r1.sz:=Vd q4;subst hnv;split at h
    ·rename_i z hz;split at h
     ·rename_i XS' hput;have ht:=hE.ti _ _ hti;have hnt:=Jj (X:=X) (s:=s) (N6 hgive) hlen ht;obtain⟨S1,K1,g1,G1,uv,hsh,hl⟩:=Cla hE K hg hsy hnt hgive 0
      have hp0:S.g p=(n,.one (.own E0 R0 XS)):=by rw[hg,hp]
      have hp1:S1.g p=(n,.one (.own E0 R0 XS)):=by rw[g1,Un _ _ q5,hp]
      obtain⟨k,j,cur,e0,e1,e2,e3,K3⟩:=Aha (u:=a.eval x) K1 hp1 (hda.later G1.later) (hdp (by rw[hp0])) q6 q2 hl (Cma hnt (N6 hgive)) hz hle hput;have hone:=J3 (Ho q2) hl;have hul:=hl.len;have hr:=Id (w:=S1.w) ht ho e1 rfl (Fc hsh hnt hone) (hul.trans hlen) e2 e3 hone;refine⟨_,h,skip (by rw[← G1.w];exact hr) K3 ?_⟩;show upd S1.g p _=_;rw[Ae,A7,← g1,hp1]
     ·cases h
    ·cases h
   ·cases h
  ·cases h
 ·cases h
end
end

end Go.Proofs.Ytbbifgjgneefkaa.Vf
