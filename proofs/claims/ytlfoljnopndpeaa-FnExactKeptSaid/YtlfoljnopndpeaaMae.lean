import Derived.Test.YtlfoljnopndpeaaMad
set_option linter.unusedVariables false
set_option linter.unusedSimpArgs false
namespace Go.Proofs.Ytlfoljnopndpeaa.Vf
open Go

section
attribute [local irreducible] C H
section
variable {X:Cx} {S S':Sit} {a:Act} {E:En} {A:Ab} {o:Oper} {R:Type} {Kc:List Up→Option R} {r:R}
theorem Ae.retm (K:Ae X S a) (O':Nat→Lab) (h:∀ k o,S.O k=o→(∀ n q,o ≠ .tm n q)→O' k=o):Ae X { S with O:=O' } a∧Cq S { S with O:=O' }:=by
 have L:Cq S { S with O:=O' }:=⟨λ _=>Nat.le_refl _,λ _ _=>rfl,λ p v e r xs' h _=>⟨xs',h,rfl⟩,λ _ _=>rfl,λ k hk=>⟨h k _ hk (by simp),rfl⟩,Cq.box_of (λ _ _ _ h=>h) (λ k b hk=>⟨h k _ hk (by simp),rfl⟩),λ p _ hd=>⟨hd,λ _ _ _ h=>h,λ k hk=>⟨.inl (h k _ hk (by simp)),rfl⟩⟩⟩
 exact ⟨K.ghost _ _ (λ k e=>h k _ e (by simp)) (λ k e1 e2=>e1 (h k _ e2 (by simp))) (λ k e=>h k _ e (by simp)) (λ k b e=>h k _ e (by simp)) (λ _ _ e=>e)
  (λ l=>(K.at_ l).later L (λ p k e=>⟨h k _ e (by simp),rfl⟩)),L⟩
theorem K3a (K:Ae X S a) {i:Nat} {q:List Nat} {e:TypeId} {r r':Ty} {xs:List r'.den} {ys:List r.den} {u:Value} (hno:Fu r=true) (hc:Kd r r' xs=some ys) (h:D5 X.P S.O S.w (.tm i q) e r' xs u):
  ∃ O',(∀ k,S.O k ≠ .tm i q→O' k=S.O k)∧Ae X { S with O:=O' } a∧Cq S { S with O:=O' }∧D5 X.P O' S.w (.tm i q) e r ys u:=by
 obtain ⟨bs,⟨v,cs,b2,ev,hs,ho,hd,eb⟩,hn,hk⟩:=h
 simp only [List.cons.injEq,and_true] at ev
 subst ev
 let O':Nat→Lab:=λ k=>if k∈b2 then .fz else S.O k
 have hlab:∀ k∈b2,S.O k = .tm i q:=λ k hk2=>hk k (by rw [eb]; exact List.mem_append_right _ hk2)
 have hO:∀ k,S.O k ≠ .tm i q→O' k=S.O k:=λ k h1=>if_neg (λ h2=>h1 (hlab k h2))
 obtain ⟨K1,L1⟩:=K.retm O' (λ k o h1 h2=>(hO k (by rw [h1]; exact h2 i q)).trans h1)
 refine ⟨O',hO,K1,L1,(D5.flat hno).2 ?_⟩
 obtain ⟨e1,rfl⟩:=M0 hc
 have hsz:r'.sz=r.sz:=by rw [← Gz r',e1,Gz r]
 have hf:∀ k,S.O k = .fz→O' k = .fz:=λ k h1=>(hO k (by rw [h1]; simp)).trans h1
 refine ⟨by rw [← hsz]; exact hs,cs,by rw [← hsz,List.length_map]; exact ho,?_,λ k h1=>?_⟩
 ·have hr:Rows (λ x c=>r'.rep X.P (λ k=>O' k = .fz) S.w x c) xs cs:=hd.rows (λ x c b hb h=>Ty.dep_rep hf r' x c b (λ k hk=>if_pos (hb k hk)) h)
  exact hr.map (λ x c hx=>(Bea e1 x c).1 hx)
 ·have h2:k∉b2:=λ h3=>by
   rw [eb,h1] at hn
   simp only [Option.toList_some,List.singleton_append,List.nodup_cons] at hn
   exact hn.1 h3
  exact (if_neg h2).trans (hk k (by rw [eb,h1]; simp))
structure De (X:Cx) (S S':Sit) (ex:Nat→List Nat→Prop):Prop where
 w:S'.w=S.w
 bb:S'.bb=S.bb
 ph:S'.ph=S.ph
 later:Cq S S'
 bx:∀ b k,S.O k = .bx b→S'.O k = .bx b
 heads:∀ b n,(S.g (H b)).2 = .one (.hd n)→S'.g (H b)=S.g (H b)
 tms:∀ n q x u,¬ ex n q→Ai X.P S (.tm n q) x u→Ai X.P S' (.tm n q) x u
 tm:∀ n q k,¬ ex n q→S.O k = .tm n q→S'.O k = .tm n q
theorem De.trans {S1 S2:Sit} {e1 e2 e3:Nat→List Nat→Prop} (h1:∀ n q,e1 n q→e3 n q) (h2:∀ n q,e2 n q→e3 n q) (h:De X S S1 e1) (h':De X S1 S2 e2):De X S S2 e3:=
 ⟨h'.w.trans h.w,h'.bb.trans h.bb,h'.ph.trans h.ph,h.later.trans h'.later,λ b k e=>h'.bx b k (h.bx b k e),λ b n e=>by
  have e1:=h.heads b n e
  exact (h'.heads b n (by rw [e1]; exact e)).trans e1,λ n q x u hn hx=>h'.tms n q x u (λ h=>hn (h2 n q h)) (h.tms n q x u (λ h=>hn (h1 n q h)) hx),λ n q k hn hk=>h'.tm n q k (λ h=>hn (h2 n q h)) (h.tm n q k (λ h=>hn (h1 n q h)) hk)⟩
theorem De.refl (S:Sit) (ex:Nat→List Nat→Prop):De X S S ex:=⟨rfl,rfl,rfl,.refl S,λ _ _ h=>h,λ _ _ _=>rfl,λ _ _ _ _ _ h=>h,λ _ _ _ _ h=>h⟩
theorem J7.x {ex:Nat→List Nat→Prop} (h:J7 X S S'):De X S S' ex:=⟨h.w,h.bb,h.ph,h.later,h.bx,h.heads,λ n q x u _ hx=>h.tms n q x u hx,λ n q k _ hk=>h.tm n q k hk⟩
theorem W7 (K:Ae X S a) {i:Nat} {q:List Nat} {e:TypeId} {r:Ty} {x y:Lf} {u:Value} (ha:Th e r x=some y) (h:Ai X.P S (.tm i q) x u):
  ∃ S',Ae X S' a∧S'.g=S.g∧De X S S' (λ n q'=>n=i∧q'=q)∧Ai X.P S' (.tm i q) y u:=by
 unfold Th at ha
 split at ha
 ·rename_i e' r' xs
  cases hb:Nat.beq e e' with
  |false=>rw [hb] at ha; simp at ha
  |true=>
   rw [hb,cond_true] at ha
   have he:e=e':=Nat.eq_of_beq_eq_true hb
   subst he
   split at ha
   ·rename_i ys hys
    simp only [Option.some.injEq] at ha
    subst ha
    exact ⟨S,K,rfl,.refl S _,D5.cast hys h⟩
   ·cases hno:Fu r with
    |false=>rw [hno] at ha; simp at ha
    |true=>
     rw [hno,cond_true] at ha
     split at ha
     ·rename_i ys hys
      simp only [Option.some.injEq] at ha
      subst ha
      obtain ⟨O',h1,K1,L1,h2⟩:=K3a K hno hys h
      have hO:∀ k n q',¬ (n=i∧q'=q)→S.O k = .tm n q'→O' k = .tm n q':=λ k n q' hn hk=>(h1 k (by rw [hk]; intro e1; cases e1; exact hn ⟨rfl,rfl⟩)).trans hk
      exact ⟨_,K1,rfl,⟨rfl,rfl,rfl,L1,λ b k hk=>(h1 k (by rw [hk]; simp)).trans hk,λ _ _ _=>rfl,λ n q' x u hn hx=>hx.later L1 (λ k hk=>⟨hO k n q' hn hk,rfl⟩),λ n q' k hn hk=>hO k n q' hn hk⟩,h2⟩
     ·cases ha
 ·cases ha
theorem I4:∀ (ts:List Ty) (l:List Lf) {A:Ab} {m:List Lf} {us:List Up},Dd A ts l=some (m,us)→m.length=l.length∧ts.length=l.length
 |[],[],A,m,us,h=>by
  simp only [Dd,Option.some.injEq,Prod.mk.injEq] at h
  obtain ⟨rfl,_⟩:=h
  exact ⟨rfl,rfl⟩
 |[],_::_,A,m,us,h=>by simp [Dd] at h
 |t::ts,[],A,m,us,h=>by cases t<;>simp [Dd] at h
 |t::ts,x::l,A,m,us,h=>by
  have rest:∀ {A:Ab} {m':List Lf} {us':List Up},Dd A ts l=some (m',us')→m'.length=l.length∧ts.length=l.length:=λ h=>I4 ts l h
  cases t with
  |ow e r=>
   simp only [Dd] at h
   split at h
   ·split at h
    ·rename_i hr
     simp only [Option.some.injEq,Prod.mk.injEq] at h
     obtain ⟨rfl,_⟩:=h
     simp [rest hr]
    ·cases h
   ·cases h
  |_=>
   simp only [Dd] at h
   split at h
   ·rename_i hr
    simp only [Option.some.injEq,Prod.mk.injEq] at h
    obtain ⟨rfl,_⟩:=h
    simp [rest hr]
   ·cases h
theorem Ij {x:Lf} {l:List Lf} (h:A3 (x::l)=true):A3 l=true∧((∃ v,x = .sc v)∨(∃ e r,∃ xs:List (Ty.den r),x = .fz e r xs)∨∃ e r,∃ xs:List (Ty.den r),x = .own e r xs):=by
 cases x<;>first|(simp [A3] at h; done)|skip
 ·exact ⟨by simpa [A3] using h,.inl ⟨_,rfl⟩⟩
 ·exact ⟨by simpa [A3] using h,.inr (.inl ⟨_,_,_,rfl⟩)⟩
 ·exact ⟨by simpa [A3] using h,.inr (.inr ⟨_,_,_,rfl⟩)⟩
theorem Nn (i:Nat) (path:Nat→List Nat):∀ (ts:List Ty) (l:List Lf) {S:Sit} {A:Ab} {j:Nat} {us:List Value} {m:List Lf} {vs:List Up},Ae X S a→S.g=get A→Dd A ts l=some (m,vs)→A3 m=true→A5 X.P S (λ n => .tm i (path n)) j l us→
  (∀ n n',j≤n→n<j+l.length→j≤n'→n'<j+l.length→path n=path n'→n=n')→
  ∃ S',Ae X S' a∧S'.g=get (ups A vs)∧De X S S' (λ n q=>n=i∧∃ k,j≤k∧k<j+l.length∧q=path k)∧A5 X.P S' (λ n => .tm i (path n)) j m us
 |[],[],S,A,j,[],m,vs,K,hg,h,_,_,_=>by
  simp only [Dd,Option.some.injEq,Prod.mk.injEq] at h
  obtain ⟨rfl,rfl⟩:=h
  exact ⟨S,K,hg,.refl S _,trivial⟩
 |[],[],S,A,j,_::_,m,vs,K,hg,h,_,hl,_=>hl.elim
 |[],_::_,S,A,j,us,m,vs,K,hg,h,_,hl,_=>by simp [Dd] at h
 |t::_,[],S,A,j,us,m,vs,K,hg,h,_,hl,_=>by cases t<;>simp [Dd] at h
 |_::_,_::_,S,A,j,[],m,vs,K,hg,h,_,hl,_=>hl.elim
 |t::ts,x::l,S,A,j,u::us,m,vs,K,hg,h,hst,hl,hi=>by
  have go:∀ {y:Lf} {v0 vs':List Up} {m':List Lf} {S1:Sit},m=y::m'→vs=v0++vs'→Dd (ups A v0) ts l=some (m',vs')→Ae X S1 a→S1.g=get (ups A v0)→De X S S1 (λ n q=>n=i∧q=path j)→Ai X.P S1 (.tm i (path j)) y u→
    ∃ S',Ae X S' a∧S'.g=get (ups A vs)∧De X S S' (λ n q=>n=i∧∃ k,j≤k∧k<j+(x::l).length∧q=path k)∧A5 X.P S' (λ n => .tm i (path n)) j m (u::us):=by
   intro y v0 vs' m' S1 e1 e2 hrec K1 g1 G1 hy
   subst e1 e2
   have hrest:A5 X.P S1 (λ n => .tm i (path n)) (j+1) l us:=A5.impAt (λ n n1 n2 x u hx=>G1.tms _ _ _ _ (λ h=>by
    have:=hi n j (by omega) (by simp only [List.length_cons]; omega) (Nat.le_refl _) (by simp only [List.length_cons]; omega) h.2
    omega) hx) hl.2
   obtain ⟨S2,K2,g2,G2,hl2⟩:=Nn i path ts l K1 g1 hrec (Ij hst).1 hrest (λ n n' a1 a2 a3 a4 e=>hi n n' (by omega) (by simp only [List.length_cons]; omega) (by omega) (by simp only [List.length_cons]; omega) e)
   refine ⟨S2,K2,by rw [Ad]; exact g2,De.trans (λ n q h=>⟨h.1,j,Nat.le_refl _,by simp only [List.length_cons]; omega,h.2⟩) (λ n q h=>?_) G1 G2,G2.tms _ _ _ _ (λ h=>?_) hy,hl2⟩
   ·obtain ⟨h1,k,k1,k2,k3⟩:=h
    exact ⟨h1,k,by omega,by simp only [List.length_cons]; omega,k3⟩
   ·obtain ⟨_,k,k1,k2,k3⟩:=h
    have:=hi j k (Nat.le_refl _) (by simp only [List.length_cons]; omega) (by omega) (by simp only [List.length_cons]; omega) k3
    omega
  have h0:Ai X.P S (.tm i (path j)) x u:=hl.1
  have plain:Dd A (t::ts) (x::l)=(match Dd (ups A (Mu A x)) ts l with|some (m,us)=>some (Hh (Fy A x)::m,Mu A x++us)|none=>none)→
    ∃ S',Ae X S' a∧S'.g=get (ups A vs)∧De X S S' (λ n q=>n=i∧∃ k,j≤k∧k<j+(x::l).length∧q=path k)∧A5 X.P S' (λ n => .tm i (path n)) j m (u::us):=by
   intro hpl
   rw [hpl] at h
   split at h
   ·rename_i m' vs' hrec
    simp only [Option.some.injEq,Prod.mk.injEq] at h
    obtain ⟨rfl,rfl⟩:=h
    obtain ⟨hst1,hst2⟩:=Ij hst
    cases x with
    |al p v=>
     have hk:Fy A (.al p v)=Hh (Gp A (.al p v)):=rfl
     by_cases hown:∃ e r,∃ xs:List (Ty.den r),get A p=(v,.one (.own e r xs))
     ·obtain ⟨e,r',xs,hp⟩:=hown
      have hc:Mu A (.al p v)=[⟨p,true,.one (.fz e r' xs)⟩]:=by simp [Mu,hp]
      have hs:Hh (Fy A (.al p v)) = .fz e r' xs:=by simp [Fy,Gp,hp,Hh]
      rw [hc] at hrec
      rw [hc,hs] at go ⊢
      have hSp:(S.g p).2 = .one (.own e r' xs):=by rw [hg,hp]
      obtain ⟨K1,_,hf⟩:=Ng K hSp
      have E1:=Ru K hSp
      have g1:(frS S p e r' xs).g=get (ups A [⟨p,true,.one (.fz e r' xs)⟩]):=by
       show upd S.g p _=_
       rw [Ji,← hg]
      refine go rfl rfl hrec K1 g1 ⟨rfl,rfl,rfl,E1.later,λ b k hk=>E1.bx b k hk,λ b n hn=>Ac _ _ (λ e1=>by rw [e1,hSp] at hn; cases hn),λ n q x u _ hx=>hx.later E1.later (λ k hk=>⟨E1.tm n q k hk,rfl⟩),λ n q k _ hk=>E1.tm n q k hk⟩ ?_
      rw [h0.2 (by rw [hg,hp])]
      exact Ai.relab (lab' := .tm i (path j)) rfl hf
     ·have hc:Mu A (.al p v)=[]:=by
       simp only [Mu]
       split
       ·rename_i n e r' xs hp
        cases hb:Nat.beq n v with
        |false=>rfl
        |true=>
         have:n=v:=by simpa using hb
         subst this
         exact absurd ⟨e,r',xs,hp⟩ hown
       ·rfl
      rw [hc] at hrec
      rw [hc] at go ⊢
      refine go rfl rfl hrec K hg (.refl S _) ?_
      rw [hk] at hst2 ⊢
      simp only [Gp] at hst2 ⊢
      split
      ·rename_i n e r' xs hp
       cases hb:Nat.beq n v with
       |false=>exact trivial
       |true=>
        have:n=v:=by simpa using hb
        subst this
        exact absurd ⟨e,r',xs,hp⟩ hown
      ·rename_i n e r' xs hp
       cases hb:Nat.beq n v with
       |false=>exact trivial
       |true=>
        have hnv:n=v:=by simpa using hb
        subst hnv
        rw [cond_true]
        have h3:=K.at_ p
        rw [hg,hp,← h0.2 (by rw [hg,hp])] at h3
        exact Ai.relab (x := .fz e r' xs) (lab := .pl p []) (lab' := .tm i (path j)) rfl h3
      ·exact trivial
    |own e r' xs=>
     obtain ⟨K1,L1⟩:=K.retm (atO S.O (λ n q=>if n=i∧q=path j then some .fz else none)) (λ k o e1 ho=>Ah e1 ho)
     have hO:∀ n q k,¬ (n=i∧q=path j)→S.O k = .tm n q→atO S.O (λ n q=>if n=i∧q=path j then some .fz else none) k = .tm n q:=λ n q k hn hk=>Hq hk (if_neg hn)
     refine go (v0:=[]) rfl rfl hrec K1 hg ⟨rfl,rfl,rfl,L1,λ b k hk=>Ah hk (by simp),λ _ _ _=>rfl,λ n q x u hn hx=>hx.later L1 (λ k hk=>⟨hO n q k hn hk,rfl⟩),λ n q k hn hk=>hO n q k hn hk⟩ ?_
     exact D5.reads (O':=atO S.O (λ n q=>if n=i∧q=path j then some .fz else none)) h0 (λ k hk=>Ah hk (by simp)) (λ k hk=>Fw hk (if_pos ⟨rfl,rfl⟩))
    |sc v=>exact go (v0:=[]) rfl rfl hrec K hg (.refl S _) h0
    |fz e r' xs=>exact go (v0:=[]) rfl rfl hrec K hg (.refl S _) h0
    |_=>rcases hst2 with ⟨_,e1⟩|⟨_,_,_,e1⟩|⟨_,_,_,e1⟩<;>simp [Fy,Hh] at e1
   ·cases h
  cases t with
  |ow e r=>
   simp only [Dd] at h
   split at h
   ·rename_i y hy
    split at h
    ·rename_i m' vs' hrec
     simp only [Option.some.injEq,Prod.mk.injEq] at h
     obtain ⟨rfl,rfl⟩:=h
     by_cases hal:∃ p v,x = .al p v
     ·obtain ⟨p,v,rfl⟩:=hal
      have hown:∃ e' r',∃ xs:List (Ty.den r'),Gp A (.al p v) = .own e' r' xs:=by
       generalize Gp A (.al p v)=z at hy
       unfold Th at hy
       split at hy
       ·exact ⟨_,_,_,rfl⟩
       ·cases hy
      obtain ⟨e',r',xs,hsn⟩:=hown
      obtain ⟨p',v',e0,hp⟩:=Jk hsn (λ e r xs hy=>by cases hy)
      cases e0
      rw [hsn] at hy
      have he:u=S.ph p:=h0.2 (by rw [hg,hp])
      let f:List Nat→Option (List Nat):=λ q=>match q with|[]=>some (path j)|_=>none
      have L1:=I0 S p i f (.one .dead)
      obtain ⟨K1,h1,h2⟩:=Q8 K p i f (.one .dead) (by simp) trivial
      have hown:Ai X.P S (.pl p []) (.own e' r' xs) (S.ph p):=by have:=K.at_ p; rw [hg,hp] at this; exact this
      have hown1:=h1 [] (path j) _ _ rfl hown
      have g1:(Lu S p i f (.one .dead)).g=get (ups A (Ti (.al p v))):=by
       show upd S.g p _=get (ups A [⟨p,false,.one .dead⟩])
       rw [A8,← hg]
      have G1:De X S (Lu S p i f (.one .dead)) (λ n q=>n=i∧q=path j):=⟨rfl,rfl,rfl,L1,λ b k hk=>(Fi (by simp [hk])).trans hk,λ b n hn=>Ac _ _ (λ e1=>by rw [e1,hg,hp] at hn; cases hn),λ n q x u _ hx=>h2 n q x u hx,λ n q k _ hk=>(Fi (by simp [hk])).trans hk⟩
      obtain ⟨S2,K2,g2,G2,hy2⟩:=W7 K1 hy hown1
      exact go rfl rfl hrec K2 (g2.trans g1) (De.trans (λ _ _ h=>h) (λ _ _ h=>h) G1 G2) (by rw [he]; exact hy2)
     ·have ht:Ti x=[]:=by cases x<;>first|rfl|exact absurd ⟨_,_,rfl⟩ hal
      have hsn:Gp A x=x:=by cases x<;>first|rfl|exact absurd ⟨_,_,rfl⟩ hal
      rw [hsn] at hy
      rw [ht] at hrec
      rw [ht] at go ⊢
      obtain ⟨S2,K2,g2,G2,hy2⟩:=W7 K hy h0
      exact go rfl rfl hrec K2 (g2.trans hg) G2 hy2
    ·cases h
   ·cases h
  |_=>exact plain rfl
theorem Fba {s:Sv} {l:List Lf} (hnt:∀ vs,s ≠ .tup vs) (hl:l=parts s):∀ n n',0≤n→n<0+l.length→0≤n'→n'<0+l.length→pth s n=pth s n'→n=n':=by
 intro n n' _ h1 _ h2 e
 subst hl
 cases s with
 |one x=>simp only [parts,List.length_cons,List.length_nil] at h1 h2; omega
 |agg l=>simpa [pth] using e
 |tup vs=>exact absurd rfl (hnt vs)
theorem W8 (hE:Gj X E) (K:Ae X S a) (hg:S.g=get A) {T:TypeId} {y:Operand} {s:Sv} {ts:List Ty} {m:List Lf} {vs:List Up} (hs:(opT E T A y=some s∨∃ x,s = .one x∧(∀ t,y ≠ .tmp t)∧∀ lab,Ai X.P S lab x (a.eval y))) (hnt:∀ vs,s ≠ .tup vs) (h:Lw A y s ts=some (m,vs)) (i:Nat):
  ∃ S',Ae X S' a∧S'.g=get (ups A vs)∧De X S S' (λ n _=>n=i)∧A3 m=true∧m.length=ts.length∧∃ us,Ms s (a.eval y) us∧A5 X.P S' (λ n => .tm i (pth s n)) 0 m us:=by
 unfold Lw at h
 split at h
 ·rename_i m0 vs0 ht
  cases hst:A3 m0 with
  |false=>rw [hst] at h; simp at h
  |true=>
  rw [hst] at h
  simp only [cond_true,Option.some.injEq,Prod.mk.injEq] at h
  obtain ⟨rfl,rfl⟩:=h
  have none1:∀ x,s = .one x→(∀ t,y ≠ .tmp t)→(∀ lab,Ai X.P S lab x (a.eval y))→∃ S1,Ae X S1 a∧S1.g=get (ups A (gone y s))∧J7 X S S1∧∃ us,Ms s (a.eval y) us∧A5 X.P S1 (λ n => .tm i (pth s n)) 0 (parts s) us:=by
   intro x e hnt' hx
   subst e
   have hgo:gone y (.one x)=[]:=by
    unfold gone
    split
    ·exact absurd rfl (hnt' _)
    ·rfl
   exact ⟨S,K,by rw [hgo]; exact hg,.refl S,[_],rfl,hx _,trivial⟩
  have first:∃ S1,Ae X S1 a∧S1.g=get (ups A (gone y s))∧J7 X S S1∧∃ us,Ms s (a.eval y) us∧A5 X.P S1 (λ n => .tm i (pth s n)) 0 (parts s) us:=by
   rcases hs with hs|⟨x,e,hnt',hx⟩
   ·rcases Hz hE K hg hs with ⟨t,rfl,htl,hst,het,hok⟩|⟨hnt',x,e,hx⟩
    ·cases ho:Hx s with
     |false=>
      have hgo:gone (.tmp t) s=[]:=by simp [gone,ho]
      refine ⟨S,K,by rw [hgo]; exact hg,.refl S,?_⟩
      cases s with
      |tup vs=>exact absurd rfl (hnt vs)
      |one x=>exact ⟨[_],rfl,(A5.relab (f:=λ _ => .pl t []) ho ⟨hok,trivial⟩)⟩
      |agg l=>
       obtain ⟨us,e1,hl⟩:=hok
       exact ⟨us,e1,hl.relab ho⟩
     |true=>
      have hgo:gone (.tmp t) s=[⟨t,false,.one .dead⟩]:=by simp [gone,ho]
      obtain ⟨K1,h1,h2⟩:=K5 K t i
      have G1:J7 X S (Jw S t i):=⟨rfl,rfl,rfl,H1 S t i,λ b k hk=>(Ei (by simp [hk])).trans hk,λ b n hn=>Ac _ _ (λ e1=>by rw [e1,← hst] at hn; subst hn; simp [Hx,Ct] at ho),h2,λ n q k hk=>(Ei (by simp [hk])).trans hk⟩
      refine ⟨_,K1,?_,G1,?_⟩
      ·rw [hgo,A8,← hg]; rfl
      ·cases s with
       |tup vs=>exact absurd rfl (hnt vs)
       |one x=>exact ⟨[_],rfl,h1 [] x _ hok,trivial⟩
       |agg l=>
        obtain ⟨us,e1,hl⟩:=hok
        exact ⟨us,e1,hl.imp (λ n x u hx=>h1 [n] x u hx)⟩
    ·exact none1 x e hnt' hx
   ·exact none1 x e hnt' hx
  obtain ⟨S1,K1,g1,G1,us,hsh,hl⟩:=first
  obtain ⟨S2,K2,g2,G2,hl2⟩:=Nn i (pth s) ts (parts s) K1 g1 ht hst hl (Fba hnt rfl)
  obtain ⟨l1,l2⟩:=I4 _ _ ht
  exact ⟨S2,K2,by rw [Ad]; exact g2,De.trans (λ n q h=>h) (λ n q h=>h.1) (J7.x (ex:=λ n _=>n=i) G1) G2,hst,by rw [l1,← l2],us,hsh,hl2⟩
 ·cases h
theorem W9 (hE:Gj X E) (K:Ae X S a) (hg:S.g=get A) {T:TypeId} {y:Operand} {s:Sv} {t:Ty} {m:List Lf} {vs:List Up} (hs:(opT E T A y=some s∨∃ x,s = .one x∧(∀ t,y ≠ .tmp t)∧∀ lab,Ai X.P S lab x (a.eval y))) (hnt:∀ vs,s ≠ .tup vs) (h:Lx A y s t=some (m,vs)) (i:Nat):
  ∃ S',Ae X S' a∧S'.g=get (ups A vs)∧De X S S' (λ n _=>n=i)∧A3 m=true∧m.length=t.sz∧∃ us,Ms s (a.eval y) us∧A5 X.P S' (λ n => .tm i (pth s n)) 0 m us:=by
 rw [← Hk]
 exact W8 hE K hg hs hnt h i
theorem Mz (K:Ae X S a) (hg:S.g=get A) {b v:Nat} {t t':Ty} {m:List Lf} {vs:List Up} (h:Ke A b v t t'=some (m,vs)) (i:Nat):
  (S.g (H b)).1=v∧(S.g (H b)).2 = .one (.hd t.sz)∧t'.sz=t.sz∧A3 m=true∧m.length=t.sz∧
  ∃ S',Ae X S' a∧S'.g=get (ups A vs)∧De X S S' (λ n _=>n=i)∧A5 X.P S' (λ n => .tm i [n]) 0 m ((List.range t.sz).map λ j=>S.ph (C b (0+j))):=by
 unfold Ke at h
 split at h
 ·rename_i n hd hp
  cases hq:(Nat.beq n v&&Nat.beq hd t.sz&&Nat.beq hd t'.sz) with
  |false=>rw [hq] at h; simp at h
  |true=>
   rw [hq,cond_true] at h
   simp only [Bool.and_eq_true] at hq
   obtain ⟨⟨q1,q2⟩,q3⟩:=hq
   have e1:n=v:=Nat.eq_of_beq_eq_true q1
   have e2:hd=t.sz:=Nat.eq_of_beq_eq_true q2
   have e3:hd=t'.sz:=Nat.eq_of_beq_eq_true q3
   split at h
   ·rename_i l us hx
    cases hst:A3 l with
    |false=>rw [hst] at h; simp at h
    |true=>
     rw [hst] at h
     simp only [cond_true,Option.some.injEq,Prod.mk.injEq] at h
     obtain ⟨rfl,rfl⟩:=h
     obtain ⟨c1,c2,c3⟩:=Jm K hg b hd 0
     obtain ⟨S2,K2,g2,G2,hl2⟩:=Nn i (λ n=>[n]) (Fm t) (cellsOf A b 0 hd) K hg hx hst (c3 _ 0) (λ n n' _ _ _ _ e=>by simpa using e)
     obtain ⟨l1,l2⟩:=I4 _ _ hx
     rw [e2] at hl2
     exact ⟨by rw [hg,hp]; exact e1,by rw [hg,hp,e2],by omega,hst,by rw [l1,c1,e2],S2,K2,g2,De.trans (λ n q h=>h) (λ n q h=>h.1) (De.refl S (λ n _=>n=i)) G2,hl2⟩
   ·cases h
 ·cases h
end
end

section
attribute [local irreducible] C H
theorem Cb.split {α:Type} {R:α→List Value→List Nat→Prop} {n:Nat} (hn:∀ x c b,R x c b→c.length=n) (d:α):∀ {xs:List α} {cs:List Value} {bs:List Nat} (_:Cb R xs cs bs) (i:Nat) (_:i<xs.length),
  ∃ b1 bi b2,bs=b1++(bi++b2)∧Cb R (xs.take i) (cs.take (i * n)) b1∧R (xs.getD i d) ((cs.drop (i * n)).take n) bi∧Cb R (xs.drop (i+1)) (cs.drop (i * n+n)) b2
 |[],_,_,_,i,hi=>absurd hi (by simp)
 |x::xs,cs,bs,⟨c,d',b1,b2,e,eb,h1,h2⟩,0,_=>by
  subst e eb
  have hl:=hn _ _ _ h1
  refine ⟨[],b1,b2,rfl,by simp [Cb],?_,?_⟩
  ·simp only [Nat.zero_mul,List.drop_zero]
   rw [← hl,List.take_left]
   exact h1
  ·simp only [Nat.zero_mul,Nat.zero_add]
   rw [← hl,List.drop_left]
   exact h2
 |x::xs,cs,bs,⟨c,d',b1,b2,e,eb,h1,h2⟩,i+1,hi=>by
  subst e eb
  have hl:=hn _ _ _ h1
  obtain ⟨b3,bi,b4,e3,r1,r2,r3⟩:=h2.split hn d i (by simpa using hi)
  have em:(i+1) * n=c.length+i * n:=by rw [hl,Nat.add_mul,Nat.one_mul,Nat.add_comm]
  refine ⟨b1++b3,bi,b4,by rw [e3,List.append_assoc],⟨c,_,b1,b3,?_,rfl,h1,r1⟩,?_,?_⟩
  ·rw [em,List.take_length_add_append]
  ·rw [em,← List.drop_drop,List.drop_left]
   exact r2
  ·rw [em,Nat.add_assoc c.length,List.drop_length_add_append]
   exact r3
theorem Ry {P:Program} {S:Sit}:∀ {l:List Lf} {us:List Value} {bs:List Nat} (j0:Nat),Fx P (λ k=>S.O k = .fz) S.w l us bs→bs.Nodup→
  ∃ f:Nat→Option Nat,(∀ k,k∉bs→f k=none)∧(∀ k∈bs,∃ j,f k=some j∧j0≤j∧j<j0+l.length)∧
   ∀ (S':Sit) (lab:Nat→Lab),S'.w=S.w→(∀ k,S.O k = .fz→S'.O k = .fz)→(∀ k j,f k=some j→S'.O k=lab j)→A5 P S' lab j0 l us
 |[],us,bs,j0,h,_=>by
  obtain ⟨rfl,rfl⟩:=h
  exact ⟨λ _=>none,λ _ _=>rfl,by simp,λ _ _ _ _ _=>trivial⟩
 |x::l,us,bs,j0,⟨u,us',b1,b2,e1,e2,h1,h2⟩,hn=>by
  subst e1 e2
  rw [List.nodup_append] at hn
  obtain ⟨n1,n2,n3⟩:=hn
  obtain ⟨f,f1,f2,f3⟩:=Ry (j0+1) h2 n2
  have hb:∀ k j,f k=some j→k∉b1:=λ k j hk h'=>by
   by_cases hk2:k∈b2
   ·exact n3 k h' k hk2 rfl
   ·rw [f1 k hk2] at hk; cases hk
  refine ⟨λ k=>if k∈b1 then some j0 else f k,λ k hk=>?_,λ k hk=>?_,λ S' lab hw hf hl=>⟨?_,f3 S' lab hw hf (λ k j hk=>hl k j ((if_neg (hb k j hk)).trans hk))⟩⟩
  ·exact (if_neg (λ h=>hk (List.mem_append_left _ h))).trans (f1 k (λ h=>hk (List.mem_append_right _ h)))
  ·rcases List.mem_append.1 hk with h|h
   ·exact ⟨j0,if_pos h,Nat.le_refl _,by simp⟩
   ·obtain ⟨j,h3,h4,h5⟩:=f2 k h
    exact ⟨j,(if_neg (hb k j h3)).trans h3,by omega,by simp only [List.length_cons]; omega⟩
  ·cases x with
   |sc v=>exact ⟨h1.1,h1.2.1⟩
   |own e r xs=>exact ⟨b1,Ty.dep_mono hf (λ k _=>by rw [hw]) (.ow e r) xs [u] b1 (λ k _=>by rw [hw]) h1,n1,λ k hk=>hl k j0 (if_pos hk)⟩
   |_=>exact h1.elim
theorem N0:∀ (t:Ty) (x:t.den),Fu t=true→A4 t x=lvs t x
 |.i _,_,_=>rfl
 |.b,_,_=>rfl
 |.s,_,_=>rfl
 |.sl _ _,_,_=>rfl
 |.ow _ _,_,h=>by simp [Fu] at h
 |.pr x y,p,h=>by
  simp only [Fu,Bool.and_eq_true] at h
  show A4 x p.1++A4 y p.2=lvs x p.1++lvs y p.2
  rw [N0 x p.1 h.1,N0 y p.2 h.2]
section
variable {X:Cx} {S S':Sit} {a:Act} {E:En} {A:Ab} {o:Oper} {R:Type} {Kc:List Up→Option R} {r:R}
theorem I6a {P:Program} {S:Sit} {r:Ty} (hr:Fu r=true∨Cs r=true) {x:r.den} {c:List Value} {bs:List Nat} (h:r.dep P (λ k=>S.O k = .fz) S.w x c bs) (hn:bs.Nodup):
  ∃ f:Nat→Option Nat,(∀ k,k∉bs→f k=none)∧(∀ k∈bs,∃ j,f k=some j∧j<r.sz)∧
   ∀ (S':Sit) (lab:Nat→Lab),S'.w=S.w→(∀ k,S.O k = .fz→S'.O k = .fz)→(∀ k j,f k=some j→S'.O k=lab j)→A5 P S' lab 0 (A4 r x) c:=by
 rcases hr with hr|hr
 ·obtain ⟨h1,rfl⟩:=(Ty.dep_flat r x c bs hr).1 h
  refine ⟨λ _=>none,λ _ _=>rfl,by simp,λ S' lab hw hf _=>?_⟩
  rw [N0 r x hr]
  exact A5.ofRep (Ig r x c (Ty.rep_mono hf (λ k _=>by rw [hw]) r x c h1)) lab 0
 ·obtain ⟨f,f1,f2,f3⟩:=Ry 0 (I3 r x c bs hr h) hn
  exact ⟨f,f1,λ k hk=>by obtain ⟨j,h1,_,h2⟩:=f2 k hk; exact ⟨j,h1,by rw [Fj] at h2; omega⟩,f3⟩
def Laa (g:Nat→Nat×Sv) (p B:Nat) (e:TypeId) (r:Ty) (xs:List r.den) (i:Int) (l:List Lf):Nat→Nat×Sv:=λ q=>
 if q=p then ((g p).1+1,.one (.opn e r xs i B ((g (H B)).1+1))) else if q=H B then ((g (H B)).1+1,.one (.hd r.sz)) else
 if C B 0≤q∧q<C B 0+l.length then ((g q).1+1,.one (l.getD (q - C B 0) .dead)) else g q
theorem Fca {p B:Nat} {e:TypeId} {r:Ty} {xs:List r.den} {i:Int} {l:List Lf} (hpH:p≠H B) (hpC:¬ (C B 0≤p∧p<C B 0+l.length)) (hl:l.length≤999):
  get (ups A (⟨p,false,.one (.opn e r xs i B ((get A (H B)).1+1))⟩::⟨H B,false,.one (.hd r.sz)⟩::B2 B 0 l))=Laa (get A) p B e r xs i l:=by
 have hHC:¬ (C B 0≤H B∧H B<C B 0+l.length):=D9 (by omega)
 have e1:get (ups A (⟨p,false,.one (.opn e r xs i B ((get A (H B)).1+1))⟩::⟨H B,false,.one (.hd r.sz)⟩::B2 B 0 l))=Ii (upd (upd (get A) p ((get A p).1+1,.one (.opn e r xs i B ((get A (H B)).1+1)))) (H B) ((get A (H B)).1+1,.one (.hd r.sz))) B 0 l:=by
  show get (ups (up (up A ⟨p,false,.one (.opn e r xs i B ((get A (H B)).1+1))⟩) ⟨H B,false,.one (.hd r.sz)⟩) (B2 B 0 l))=_
  rw [G4,Hp,Hp]
  simp only [cond_false]
  rw [Ac _ _ (Ne.symm hpH)]
 rw [e1]
 funext q
 unfold Laa Ii
 by_cases h2:C B 0≤q∧q<C B 0+l.length
 ·have h3:q≠p:=λ e=>hpC (e ▸ h2)
  have h4:q≠H B:=λ e=>hHC (e ▸ h2)
  rw [if_pos h2,Ac _ _ h4,Ac _ _ h3,if_neg h3,if_neg h4,if_pos h2]
 ·rw [if_neg h2]
  by_cases h3:q=p
  ·subst h3
   rw [Ac _ _ hpH,A7,if_pos rfl]
  ·rw [if_neg h3]
   by_cases h4:q=H B
   ·subst h4; rw [A7,if_pos rfl]
   ·rw [Ac _ _ h4,Ac _ _ h3,if_neg h4,if_neg h2]
theorem Bta (K:Ae X S a) {p v B:Nat} {e:TypeId} {r:Ty} {xs:List r.den} {i:Int} (hB:2000≤B) (hp:S.g p=(v,.one (.own e r xs))) (hpH:p≠H B) (hpC:¬ (C B 0≤p∧p<C B 0+r.sz)) (hr:Fu r=true∨Cs r=true) (hz:r.sz<999)
  (i0:0≤i) (i1:i.toNat<xs.length):
  ∃ S' k cap,Ae X S' a∧S'.g=Laa S.g p B e r xs i (A4 r (xs.getD i.toNat r.dflt))∧S'.w=S.w∧S.ph p = .slice (some ⟨k,0,none⟩) xs.length cap∧S'.bb B=(k,i.toNat * r.sz)∧(∀ q,¬ (C B 0≤q∧q<C B 0+r.sz)→S'.ph q=S.ph q):=by
 have hown:D5 X.P S.O S.w (.pl p []) e r xs (S.ph p):=by have:=K.at_ p; rw [hp] at this; exact this
 obtain ⟨bs,⟨u,cs,b0,eu,hs,ho,hrows,eb⟩,hnd,hlab⟩:=hown
 simp only [List.cons.injEq,and_true] at eu
 subst eu
 rcases D0 ho with ⟨_,e1,_⟩|⟨k,cap,cur,hph,hc,h1,h2,h3,h4⟩
 ·omega
 rw [hph] at ho eb
 simp only [Value.ownBlock,Option.toList_some,List.singleton_append] at eb
 obtain ⟨b1,bi,b2,e2,r1,r2,r3⟩:=hrows.split (Ty.dep_len r) r.dflt i.toNat i1
 subst e2 eb
 have hki:k∉b1++(bi++b2):=(List.nodup_cons.1 hnd).1
 have hnd2:=(List.nodup_cons.1 hnd).2
 rw [List.nodup_append] at hnd2
 obtain ⟨n1,n2,n3⟩:=hnd2
 rw [List.nodup_append] at n2
 obtain ⟨n4,n5,n6⟩:=n2
 have hlk:S.O k = .pl p []:=hlab k (by simp)
 have hl1:∀ j∈b1,S.O j = .pl p []:=λ j hj=>hlab j (by simp [hj])
 have hli:∀ j∈bi,S.O j = .pl p []:=λ j hj=>hlab j (by simp [hj])
 have hl2:∀ j∈b2,S.O j = .pl p []:=λ j hj=>hlab j (by simp [hj])
 obtain ⟨f,f1,f2,f3⟩:=I6a (P:=X.P) (S:=S) hr r2 n4
 generalize hrow:(cs.drop (i.toNat * r.sz)).take r.sz=row at r2 f3
 have hrl:row.length=r.sz:=Ty.dep_len _ _ _ _ r2
 let O':Nat→Lab:=λ j=>if j=k then .bx B else match f j with
  |some n => .pl (C B n) []
  |none=>S.O j
 have hfn:∀ j n,f j=some n→j∈bi:=λ j n h=>Classical.byContradiction λ h'=>by rw [f1 j h'] at h; cases h
 have hOk:O' k = .bx B:=if_pos rfl
 have hOi:∀ j n,f j=some n→O' j = .pl (C B n) []:=λ j n h=>by
  have h5:j≠k:=λ e=>hki (by rw [← e]; simp [hfn j n h])
  show (if j=k then _ else _)=_
  rw [if_neg h5,h]
 have hOo:∀ j o',S.O j=o'→o' ≠ .pl p []→O' j=o':=λ j o' h ho'=>by
  have h5:j≠k:=λ e=>ho' (by rw [← h,e,hlk])
  have h6:f j=none:=f1 j (λ hj=>ho' (by rw [← h,hli j hj]))
  show (if j=k then _ else _)=_
  rw [if_neg h5,h6]
  exact h
 have hOb:∀ j,j∈b1∨j∈b2→O' j = .pl p []:=λ j hj=>by
  have h5:j≠k:=λ e=>hki (by rw [← e]; rcases hj with hj|hj<;>simp [hj])
  have h6:f j=none:=f1 j (λ hj'=>by
   rcases hj with hj|hj
   ·exact n3 j hj j (by simp [hj']) rfl
   ·exact n6 j hj' j hj rfl)
  show (if j=k then _ else _)=_
  rw [if_neg h5,h6]
  rcases hj with hj|hj
  ·exact hl1 j hj
  ·exact hl2 j hj
 let S':Sit:=⟨O',upd S.bb B (k,i.toNat * r.sz),Laa S.g p B e r xs i (A4 r (xs.getD i.toNat r.dflt)),Gw S.ph B 0 row,S.w⟩
 have hll:(A4 r (xs.getD i.toNat r.dflt)).length=r.sz:=Fj _ _
 have gp:S'.g p=((S.g p).1+1,.one (.opn e r xs i B ((S.g (H B)).1+1))):=if_pos rfl
 have gH:S'.g (H B)=((S.g (H B)).1+1,.one (.hd r.sz)):=by
  show (if H B=p then _ else _)=_
  rw [if_neg (Ne.symm hpH),if_pos rfl]
 have hHC:¬ (C B 0≤H B∧H B<C B 0+r.sz):=D9 (by omega)
 have gC:∀ q,C B 0≤q∧q<C B 0+r.sz→S'.g q=((S.g q).1+1,.one ((A4 r (xs.getD i.toNat r.dflt)).getD (q - C B 0) .dead)):=λ q hq=>by
  show (if q=p then _ else _)=_
  rw [if_neg (λ h:q=p=>hpC (h ▸ hq)),if_neg (λ h:q=H B=>hHC (h ▸ hq)),if_pos (by rw [hll]; exact hq)]
 have gO:∀ q,q≠p→q≠H B→¬ (C B 0≤q∧q<C B 0+r.sz)→S'.g q=S.g q:=λ q q2 q3 q4=>by
  show (if q=p then _ else _)=_
  rw [if_neg q2,if_neg q3,if_neg (by rw [hll]; exact q4)]
 have same:∀ q,(S'.g q).1=(S.g q).1→S'.g q=S.g q∧q≠p∧q≠H B∧¬ (C B 0≤q∧q<C B 0+r.sz):=λ q hq=>by
  have q2:q≠p:=λ e=>by rw [e,gp] at hq; simp at hq
  have q3:q≠H B:=λ e=>by rw [e,gH] at hq; simp at hq
  have q4:¬ (C B 0≤q∧q<C B 0+r.sz):=λ e=>by rw [gC q e] at hq; simp at hq
  exact ⟨gO q q2 q3 q4,q2,q3,q4⟩
 have phO:∀ q,¬ (C B 0≤q∧q<C B 0+r.sz)→S'.ph q=S.ph q:=λ q hq=>by
  show Gw S.ph B 0 row q=_
  unfold Gw
  rw [if_neg (by rw [hrl]; exact hq)]
 have L:Cq S S':=by
  refine ⟨λ q=>?_,λ q hq=>phO q (same q hq).2.2.2,λ q v' e' r' xs' hq hv=>?_,λ b hb=>?_,λ j hj=>⟨hOo j _ hj (by simp),rfl⟩,λ b n hb hh hO=>?_,λ q hq hdp=>?_⟩
  ·by_cases q2:q=p
   ·rw [q2,gp]; exact Nat.le_succ _
   by_cases q3:q=H B
   ·rw [q3,gH]; exact Nat.le_succ _
   by_cases q4:C B 0≤q∧q<C B 0+r.sz
   ·rw [gC q q4]; exact Nat.le_succ _
   ·rw [gO q q2 q3 q4]; exact Nat.le_refl _
  ·have:=(same q (by rw [hq]; exact hv.symm)).1
   rw [this] at hq
   exact ⟨xs',hq,rfl⟩
  ·have h5:b≠B:=λ e=>(same _ hb).2.2.1 (by rw [e])
   exact Ac _ _ h5
  ·have h5:=(same _ hb).1
   refine ⟨by rw [h5]; exact hh,hOo _ _ hO (by simp),λ c e' f' hc'=>⟨c,hc',rfl,λ _ _=>rfl⟩⟩
  ·obtain ⟨h5,q2,_⟩:=same q hq
   rw [h5]
   exact ⟨hdp,λ _ _ _ h=>h,λ j hj=>⟨.inl (hOo j _ hj (by simp [q2])),rfl⟩⟩
 have hcell:∀ j,j<r.sz→cur[i.toNat * r.sz+j]? = row[j]? := λ j hj=>by
  rw [← hrow,List.getElem?_take,if_pos hj,List.getElem?_drop,← h4,List.getElem?_take,Array.getElem?_toList]
  have:(i.toNat+1) * r.sz≤xs.length * r.sz:=Nat.mul_le_mul_right _ i1
  rw [Nat.add_mul,Nat.one_mul] at this
  rw [if_pos (by omega)]
 have hfit:i.toNat * r.sz+r.sz≤cur.size:=by
  have h5:(i.toNat+1) * r.sz≤xs.length * r.sz:=Nat.mul_le_mul_right _ i1
  have h6:xs.length * r.sz≤cap * r.sz:=Nat.mul_le_mul_right _ h1
  rw [Nat.add_mul,Nat.one_mul] at h5
  omega
 refine ⟨S',k,cap,⟨K.nt,λ j hj=>?_,λ l=>?_,λ b n hb=>?_,λ b n hb=>?_,λ t ht=>?_,K.sz,K.df,K.fr.relab (λ j h=>hOo j _ h (by simp)) (λ j h=>hOo j _ h (by simp)) (λ j b h=>hOo j _ h (by simp))⟩,rfl,rfl,hph,A7 _ _ _,phO⟩
 ·-- blocks
  refine K.lt j (λ e=>hj (hOo j _ e (by simp)))
 ·show G6 X.P S' l (S'.g l).2 (S'.ph l)
  by_cases q2:l=p
  ·rw [q2,gp,phO p hpC,hph]
   refine ⟨by rw [gH]; exact Nat.le_refl _,⟨hs,i0,i1,k,cap,rfl⟩,λ _=>⟨k,cap,cur,b1,b2,rfl,hs,hc,⟨h1,h2,h3⟩,⟨i0,i1⟩,A7 _ _ _,hOk,by rw [gH],?_,?_,?_,λ j hj=>hOb j (List.mem_append.1 hj)⟩⟩
   ·have h5:cs.take (i.toNat * r.sz)=cur.toList.take (i.toNat * r.sz):=by
     rw [← h4,List.take_take,Nat.min_eq_left (Nat.mul_le_mul_right _ (Nat.le_of_lt i1))]
    rw [h5] at r1
    exact r1.mono (λ x c b hb h=>Ty.dep_mono (λ j hj=>hOo j _ hj (by simp)) (λ _ _=>rfl) r x c b (λ _ _=>rfl) h)
   ·rw [h4]
    exact r3.mono (λ x c b hb h=>Ty.dep_mono (λ j hj=>hOo j _ hj (by simp)) (λ _ _=>rfl) r x c b (λ _ _=>rfl) h)
   ·rw [List.nodup_append]
    exact ⟨n1,n5,λ x hx y hy=>n3 x hx y (List.mem_append_right _ hy)⟩
  by_cases q3:l=H B
  ·rw [q3,gH]; trivial
  by_cases q4:C B 0≤l∧l<C B 0+r.sz
  ·rw [gC l q4]
   have h5:=f3 S' (λ n => .pl (C B n) []) rfl (λ j hj=>hOo j _ hj (by simp)) hOi
   obtain ⟨x,u',w1,w2,w3,w4⟩:=h5.at (l - C B 0) (by rw [hll]; omega)
   have w5:S'.ph l=u':=by
    show Gw S.ph B 0 row l=_
    unfold Gw
    rw [if_pos (by rw [hrl]; exact q4),w2]
   rw [w1,w5]
   rw [Nat.zero_add] at w4
   have w6:C B (l - C B 0)=l:=by
    have:C B (l - C B 0)=C B 0+(l - C B 0):=by unfold C; omega
    omega
   rw [w6] at w4
   exact w4
  ·rw [gO l q2 q3 q4,phO l q4]
   exact (K.at_ l).later L (λ q j hj=>⟨hOo j _ hj (by simp [q2]),rfl⟩)
 ·by_cases hbB:b=B
  ·subst hbB
   rw [gH] at hb
   cases hb
   refine ⟨hz,cur,e,?_,?_,?_,λ j hj=>?_⟩
   ·show S.w.heap[(upd S.bb b (k,i.toNat * r.sz) b).1]? = _
    rw [A7]; exact hc
   ·show O' (upd S.bb b (k,i.toNat * r.sz) b).1=_
    rw [A7]; exact hOk
   ·show (upd S.bb b (k,i.toNat * r.sz) b).2+_≤_
    rw [A7]; exact hfit
   ·show cur[(upd S.bb b (k,i.toNat * r.sz) b).2+j]? = some (Gw S.ph b 0 row (C b j))
    rw [A7,hcell j hj]
    unfold Gw
    have h2':C b 0≤C b j∧C b j<C b 0+row.length:=by unfold C; omega
    rw [if_pos h2',show C b j - C b 0=j by unfold C; omega,List.getD_eq_getElem?_getD,List.getElem?_eq_getElem (by omega)]
    rfl
  ·have hne:H b≠H B:=λ e=>hbB (Q5 e)
   have h6:¬ (C B 0≤H b∧H b<C B 0+r.sz):=D9 (by omega)
   have h7:H b≠p:=λ e=>by rw [e,gp] at hb; cases hb
   rw [gO _ h7 hne h6] at hb
   obtain ⟨g1,c1,e2,g2,g3,g4,g5⟩:=K.box b n hb
   have hbb:S'.bb b=S.bb b:=Ac _ _ hbB
   rw [hbb]
   refine ⟨g1,c1,e2,g2,hOo _ _ g3 (by simp),g4,λ j hj=>?_⟩
   rw [phO _ (Ki (by omega) (by omega) hbB)]
   exact g5 j hj
 ·by_cases hbB:b=B
  ·subst hbB
   refine ⟨λ h=>absurd h (by omega),λ h=>absurd h (by unfold Cx.pb; omega),λ _ hlt b' h0=>?_⟩
   have h5:X.O0 k = .bx b':=by
    have:X.O0 (upd S.bb b (k,i.toNat * r.sz) b).1 = .bx b':=h0
    rwa [A7] at this
   have h6:k<X.w0.heap.size:=by
    have:(upd S.bb b (k,i.toNat * r.sz) b).1<X.w0.heap.size:=hlt
    rwa [A7] at this
   have:=(K.fr.bx k b' h6 h5).1
   rw [hlk] at this
   cases this
  ·have hne:H b≠H B:=λ e=>hbB (Q5 e)
   have h6:¬ (C B 0≤H b∧H b<C B 0+r.sz):=D9 (by omega)
   have h7:H b≠p:=λ e=>by rw [e,gp] at hb; cases hb
   rw [gO _ h7 hne h6] at hb
   have hbb:S'.bb b=S.bb b:=Ac _ _ hbB
   rw [hbb]
   exact K.rgn b n hb
 ·show a.tmps.getD t undef=S'.ph t
  rw [phO t (Hj (Nat.lt_of_lt_of_le ht K.nt))]
  exact K.sl t ht
end
end

section
attribute [local irreducible] C H
theorem I7a {p B:Nat} (h:Nat.beq (p / 1000) (B+1)=false) {n:Nat} (hn:n≤999):p≠H B∧¬ (C B 0≤p∧p<C B 0+n):=by
 have h1:p / 1000≠B+1:=λ e=>by rw [e,Nat.beq_refl] at h; cases h
 refine ⟨λ e=>h1 ?_,λ ⟨h2,h3⟩=>h1 ?_⟩
 ·rw [e]; unfold H; omega
 ·have:C B 0=1000 * (B+1):=by unfold C; omega
  omega
section
variable {X:Cx} {S S':Sit} {a:Act} {E:En} {A:Ab} {o:Oper} {R:Type} {Kc:List Up→Option R} {r:R}
theorem L8 (K:Ae X S a) (hg:S.g=get A) {p v B:Nat} {e:TypeId} {r:Ty} {xs:List r.den} {i:Int} {us:List Up} (hp:S.g p=(v,.one (.own e r xs))) (h:Kx A B p e r xs i=some us):
  ∃ S' k cap,Ae X S' a∧S'.g=get (ups A us)∧S'.w=S.w∧S.ph p = .slice (some ⟨k,0,none⟩) xs.length cap∧S'.bb B=(k,i.toNat * r.sz)∧(∀ q,q<1000→S'.ph q=S.ph q)∧(S'.g (H B)).1=(S.g (H B)).1+1∧
   (∀ q,q<1000→q≠p→S'.g q=S.g q):=by
 unfold Kx at h
 cases hq:((Fu r || Cs r)&&Nat.blt r.sz 999 && !(Nat.beq (p / 1000) (B+1))&&Nat.ble 2000 B) with
 |false=>rw [hq] at h; simp at h
 |true=>
  rw [hq,cond_true] at h
  simp only [Bool.and_eq_true,Bool.or_eq_true,Bool.not_eq_true'] at hq
  obtain ⟨⟨⟨q1,q2⟩,q3⟩,q4⟩:=hq
  have hz:r.sz<999:=Nat.le_of_ble_eq_true q2
  have hB:2000≤B:=Nat.le_of_ble_eq_true q4
  by_cases h0:0≤i
  ·by_cases h1:i<(xs.length:Int)
   ·simp only [h0,h1,decide_true,cond_true,Option.some.injEq] at h
    subst h
    obtain ⟨hpH,hpC⟩:=I7a q3 (n:=r.sz) (by omega)
    obtain ⟨S',k,cap,K',g',w',ph',bb',pq⟩:=Bta K hB hp hpH hpC q1 hz h0 (by omega)
    have hl:(A4 r (xs.getD i.toNat r.dflt)).length=r.sz:=Fj _ _
    have hg':S'.g=get (ups A (⟨p,false,.one (.opn e r xs i B ((get A (H B)).1+1))⟩::⟨H B,false,.one (.hd r.sz)⟩::B2 B 0 (A4 r (xs.getD i.toNat r.dflt)))):=by
     rw [Fca hpH (by rw [hl]; exact hpC) (by omega),← hg,g']
    refine ⟨S',k,cap,K',hg',w',ph',bb',λ q hq=>pq q (Hj hq),?_,λ q hq hne=>?_⟩
    ·rw [g']
     show (if H B=p then _ else _:Nat×Sv).1=_
     rw [if_neg (Ne.symm hpH),if_pos rfl]
    ·rw [g']
     show (if q=p then _ else _:Nat×Sv)=_
     rw [if_neg hne,if_neg (λ e=>by have:=Jva B; omega),if_neg (Hj hq)]
   ·simp [h0,h1] at h
  ·simp [h0] at h
theorem Ae.point (K:Ae X S a) {d:Nat} (hd:d<X.nt) {z:Lf} (hz:Ai X.P S (.pl d []) z (S.ph d)) (hown:z.isOwn=false) (hnh:∀ n,z ≠ .hd n):Ae X { S with g:=upd S.g d ((S.g d).1+1,.one z) } a:=by
 have hd1:d<1000:=Nat.lt_of_lt_of_le hd K.nt
 have hdH:∀ b,H b≠d:=λ b e=>by have:=Jva b; omega
 have L:Cq S { S with g:=upd S.g d ((S.g d).1+1,.one z) }:=by
  refine ⟨λ p=>?_,λ _ _=>rfl,λ p v e r xs' hp hv=>?_,λ _ _=>rfl,λ k h=>⟨h,rfl⟩,Cq.box_of (λ b n hv hh=>?_) (λ _ _ h=>⟨h,rfl⟩),λ p hp hdp=>?_⟩
  ·by_cases h:p=d
   ·subst h; show _≤(upd S.g p _ p).1; rw [A7]; exact Nat.le_succ _
   ·show _≤(upd S.g d _ p).1; rw [Ac _ _ h]; exact Nat.le_refl _
  ·have hp':upd S.g d ((S.g d).1+1,.one z) p=(v,.one (.own e r xs')):=hp
   by_cases h:p=d
   ·subst h; rw [A7] at hp'; simp only [Prod.mk.injEq] at hp'; omega
   ·rw [Ac _ _ h] at hp'; exact ⟨xs',hp',rfl⟩
  ·exact (congrArg Prod.snd (Ac _ _ (hdH b))).trans hh
  ·have hp':(upd S.g d ((S.g d).1+1,.one z) p).1=(S.g p).1:=hp
   have h:p≠d:=λ e=>by subst e; rw [A7] at hp'; simp at hp'
   have e1:({ S with g:=upd S.g d ((S.g d).1+1,.one z) }:Sit).g p=S.g p:=Ac _ _ h
   rw [e1]
   exact ⟨hdp,λ _ _ _ h=>h,λ k hk=>⟨.inl hk,rfl⟩⟩
 refine K.ghost S.O _ (λ _ h=>h) (λ _ h=>h) (λ _ h=>h) (λ _ _ h=>h) (λ b n h=>?_) (λ l=>?_)
 ·rwa [Ac _ _ (hdH b)] at h
 ·by_cases h:l=d
  ·subst h
   show G6 X.P _ l (upd S.g l _ l).2 _
   rw [A7]
   exact Ai.later L hz (λ k hk=>⟨hk,rfl⟩)
  ·show G6 X.P _ l (upd S.g d _ l).2 _
   rw [Ac _ _ h]
   exact (K.at_ l).later L (λ p k hk=>⟨hk,rfl⟩)
theorem Fda (K:Ae X S a) (hg:S.g=get A) {p t B:Nat} {us:List Up} (h:Eua A p t B=some us):∃ S',Ae X S' a∧S'.g=get (ups A us)∧S'.w=S.w:=by
 unfold Eua at h
 split at h
 ·rename_i e r xs k i hp _
  obtain ⟨S',_,_,K',g',w',_⟩:=L8 K hg (p:=p) (v:=(S.g p).1) (by rw [← hg] at hp; rw [← hp]) h
  exact ⟨S',K',g',w'⟩
 ·cases h
theorem Wr (K:Ae X S a) (hg:S.g=get A) {d B:Nat} (hd:d<X.nt) {us:List Up} (h:Y6 A d B=some us):∃ S',Ae X S' a∧S'.g=get (ups A us)∧S'.w=S.w:=by
 have hd1:d<1000:=Nat.lt_of_lt_of_le hd K.nt
 have hat:=K.at_ d
 have go:∀ {p v:Nat} {e:TypeId} {r:Ty} {xs:List r.den} {i:Int} {off:Nat} {us0:List Up},S.g p=(v,.one (.own e r xs))→p≠d→Kx A B p e r xs i=some us0→us=us0++[⟨d,false,.one (.bp B ((get A (H B)).1+1) off)⟩]→
   (∀ k cap,S.ph p = .slice (some ⟨k,0,none⟩) xs.length cap→S.ph d = .pointer (some ⟨k,i.toNat * r.sz+off,none⟩))→∃ S',Ae X S' a∧S'.g=get (ups A us)∧S'.w=S.w:=by
  intro p v e r xs i off us0 hp hpd ho hus hpt
  obtain ⟨S',k,cap,K',g',w',ph',bb',pq,gH,gq⟩:=L8 K hg hp ho
  have hz:Ai X.P S' (.pl d []) (.bp B ((S.g (H B)).1+1) off) (S'.ph d):=by
   refine ⟨by rw [gH]; exact Nat.le_refl _,λ _=>?_⟩
   rw [pq d hd1,hpt k cap ph',bb']
  refine ⟨_,K'.point hd hz rfl (by simp),?_,w'⟩
  show upd S'.g d _=_
  rw [hus,Ad,A8,← g',← hg]
 unfold Y6 at h
 split at h
 ·rename_i p v i off hd2
  have hat':Ai X.P S (.pl d []) (.ep p v i off) (S.ph d):=by rw [hg,hd2] at hat; exact hat
  split at h
  ·rename_i n e r xs hp
   cases hq:(Nat.beq n v&&Fu r && !(Nat.beq p d)) with
   |false=>rw [hq] at h; simp at h
   |true=>
    rw [hq,cond_true] at h
    simp only [Bool.and_eq_true,Bool.not_eq_true'] at hq
    obtain ⟨⟨q1,q2⟩,q3⟩:=hq
    have hnv:n=v:=Nat.eq_of_beq_eq_true q1
    subst hnv
    have hpd:p≠d:=λ e=>by rw [e,Nat.beq_refl] at q3; cases q3
    split at h
    ·rename_i us0 ho
     simp only [Option.some.injEq] at h
     have hp':S.g p=(n,.one (.own e r xs)):=by rw [hg,hp]
     refine go hp' hpd ho h.symm (λ k cap hk=>?_)
     obtain ⟨_,_,k',cap',e1,e2⟩:=hat'.2 e r xs hp'
     rw [hk] at e1
     cases e1
     exact e2
    ·cases h
  ·cases h
 ·rename_i p v e0 r0 xs0 i off hd2
  have hat':Ai X.P S (.pl d []) (.dp p v (some []) e0 r0 xs0 i off) (S.ph d):=by rw [hg,hd2] at hat; exact hat
  split at h
  ·rename_i n e r xs hp
   cases hq:(Nat.beq n v && !(Fu r) && !(Nat.beq p d)) with
   |false=>rw [hq] at h; simp at h
   |true=>
    rw [hq,cond_true] at h
    simp only [Bool.and_eq_true,Bool.not_eq_true'] at hq
    obtain ⟨⟨q1,q2⟩,q3⟩:=hq
    have hnv:n=v:=Nat.eq_of_beq_eq_true q1
    subst hnv
    have hpd:p≠d:=λ e=>by rw [e,Nat.beq_refl] at q3; cases q3
    split at h
    ·rename_i us0 ho
     simp only [Option.some.injEq] at h
     have hp':S.g p=(n,.one (.own e r xs)):=by rw [hg,hp]
     have hv:(S.g p).1=n:=by rw [hp']
     refine go hp' hpd ho h.symm (λ k cap hk=>?_)
     obtain ⟨hh,hda,hdp⟩:=hat'
     obtain ⟨_,_,k',o',cap',e1,e2⟩:=hdp hv
     obtain ⟨_,_,hpath⟩:=hda.2.2 hv
     obtain ⟨f1,f2⟩:=hpath [] rfl e r xs (by rw [hp'])
     simp only [Vr,Option.some.injEq] at f1
     cases f1
     have f3:hh=S.ph p:=f2
     rw [f3,hk] at e1
     cases e1
     rw [e2,Nat.zero_add]
    ·cases h
  ·cases h
 ·cases h
theorem Cb.set3 {α:Type} {R:α→List Value→List Nat→Prop} {xs:List α} {i:Nat} {z:α} {c1 c c2:List Value} {b1 bi b2:List Nat} (hi:i<xs.length) (h1:Cb R (xs.take i) c1 b1) (h:R z c bi) (h2:Cb R (xs.drop (i+1)) c2 b2):
  Cb R (xs.set i z) (c1++(c++c2)) (b1++(bi++b2)):=by
 rw [List.set_eq_take_append_cons_drop,if_pos hi]
 exact h1.append ⟨c,c2,bi,b2,rfl,rfl,h,h2⟩
theorem Fea (K:Ae X S a) (hg:S.g=get A) {p:Nat} {us:List Up} (h:B7a A p=some us):∃ S',Ae X S' a∧S'.g=get (ups A us)∧S'.w=S.w:=by
 unfold B7a at h
 split at h
 ·rename_i e0 r0 xs0 i0 b v hop0
  split at h
  ·rename_i l us1 hgive
   obtain ⟨_,_,_,hst,hlen,S1,K1,g1,G1,hls⟩:=Mz K hg hgive 7
   split at h
   ·rename_i e r xs i b' v' hop
    cases hq:(Nat.beq b b'&&Nat.beq (get (ups A us1) (H b)).1 v'&&Nat.ble 2000 b&&Nat.beq l.length r.sz&&((Fu r && !(Ct l)) || (Cs r&&Ix l))) with
    |false=>rw [hq] at h; simp at h
    |true=>
     rw [hq,cond_true] at h
     simp only [Bool.and_eq_true] at hq
     obtain ⟨⟨⟨⟨q1,q2⟩,q3⟩,q5⟩,q4⟩:=hq
     have hbb':b=b':=Nat.eq_of_beq_eq_true q1
     subst hbb'
     have hb2:2000≤b:=Nat.le_of_ble_eq_true q3
     have hv:(S1.g (H b)).1=v':=by rw [g1]; exact Nat.eq_of_beq_eq_true q2
     split at h
     ·rename_i z hz
      simp only [Option.some.injEq] at h
      have hat:Ai X.P S1 (.pl p []) (.opn e r xs i b v') (S1.ph p):=by have:=K1.at_ p; rw [g1,hop] at this; exact this
      obtain ⟨_,_,hopn⟩:=hat
      obtain ⟨k,cap,cur,b1,b2,h1,h2,h3,⟨h4,h5,h6⟩,⟨i0,i1⟩,h8,h9,h10,h11,h12,h13,h14⟩:=hopn hv
      obtain ⟨hn,c,e',x1,x2,x3,x4⟩:=K1.box b r.sz h10
      rw [h8] at x1 x2 x3 x4
      rw [h3] at x1
      cases x1
      have hrl:((List.range r0.sz).map λ j=>S.ph (C b (0+j))).length=l.length:=by rw [List.length_map,List.length_range,hlen]
      have hzl:l.length=r.sz:=Nat.eq_of_beq_eq_true q5
      have hr0:r0.sz=r.sz:=by omega
      generalize hrow:(List.range r0.sz).map (λ j=>S.ph (C b (0+j)))=row at hls hrl
      have hrow2:row=(cur.toList.drop (i.toNat * r.sz)).take r.sz:=by
       refine List.ext_getElem? λ j=>?_
       rw [List.getElem?_take,List.getElem?_drop]
       by_cases hj:j<r.sz
       ·have e1:cur.toList[i.toNat * r.sz+j]? = cur[i.toNat * r.sz+j]? := Array.getElem?_toList
        have e2:cur[i.toNat * r.sz+j]? = some (S1.ph (C b j)):=x4 j hj
        rw [if_pos hj,e1,e2,G1.ph,← hrow]
        simp [hr0,hj]
       ·rw [if_neg hj,List.getElem?_eq_none (by omega)]
      have hdep:∃ bi,r.dep X.P (λ k=>S1.O k = .fz) S1.w z row bi∧bi.Nodup∧∀ k∈bi,∃ q,S1.O k = .tm 7 q:=by
       rcases Bool.or_eq_true _ _ ▸ q4 with q|q
       ·simp only [Bool.and_eq_true,Bool.not_eq_true'] at q
        have hrep:H5 (Ge X.P (λ k=>S1.O k = .fz) S1.w) l row:=by
         have key:∀ (l:List Lf) (j:Nat) (us:List Value),A3 l=true→Ct l=false→A5 X.P S1 (λ n => .tm 7 [n]) j l us→H5 (Ge X.P (λ k=>S1.O k = .fz) S1.w) l us:=by
          intro l
          induction l with
          |nil=>intro j us _ _ h; cases us<;>first|exact .nil|exact h.elim
          |cons x l ih=>
           intro j us hs ho h
           cases us with
           |nil=>exact h.elim
           |cons u us=>
            cases x with
            |sc v=>exact .cons h.1 (ih _ _ (by simpa [A3] using hs) (by simpa [Ct] using ho) h.2)
            |fz e r xs=>exact .cons h.1 (ih _ _ (by simpa [A3] using hs) (by simpa [Ct] using ho) h.2)
            |own e r xs=>simp [Ct] at ho
            |_=>simp [A3] at hs
         exact key l 0 row hst q.2 hls
        exact ⟨[],(Ty.dep_flat r z row [] q.1).2 ⟨Nd hz hrep,rfl⟩,by simp,by simp⟩
       ·simp only [Bool.and_eq_true] at q
        obtain ⟨mb,m1,m2,m3⟩:=Jn q.2 hls (λ n n' _ _ _ _ e=>by simpa using e)
        exact ⟨mb,Qe q.1 hz m1,m2,λ k hk=>by obtain ⟨n,_,_,h⟩:=m3 k hk; exact ⟨_,h⟩⟩
      obtain ⟨bi,hd1,hd2,hd3⟩:=hdep
      let O':Nat→Lab:=λ j=>if j=k then .pl p [] else match S1.O j with
       |.tm 7 _ => .pl p []
       |o=>o
      have hOk:O' k = .pl p []:=if_pos rfl
      have hOn:∀ j o',S1.O j=o'→j≠k→(∀ q,o' ≠ .tm 7 q)→O' j=o':=λ j o' hj h3 h2=>by
       show (if j=k then _ else _)=_
       rw [if_neg h3,hj]
       cases o'<;>first|rfl|skip
       rename_i n q
       by_cases hn7:n=7
       ·subst hn7; exact absurd rfl (h2 q)
       ·split
        ·rename_i heq
         simp only [Lab.tm.injEq] at heq
         exact absurd heq.1 hn7
        ·rfl
      have hOo:∀ j o',S1.O j=o'→o' ≠ .bx b→(∀ q,o' ≠ .tm 7 q)→O' j=o':=λ j o' hj h1 h2=>hOn j o' hj (λ e=>h1 (by rw [← hj,e,h9])) h2
      have hO7:∀ j q,S1.O j = .tm 7 q→O' j = .pl p []:=λ j q hj=>by
       have h3:j≠k:=λ e=>by rw [e,h9] at hj; cases hj
       show (if j=k then _ else _)=_
       rw [if_neg h3,hj]
       rfl
      let g':=upd (upd S1.g (H b) ((S1.g (H b)).1+1,.one .dead)) p ((S1.g p).1+1,.one (.own e r (xs.set i.toNat z)))
      have hpH:p≠H b:=λ e=>by rw [e,← g1,h10] at hop; cases hop
      let S':Sit := { S1 with O:=O',g:=g' }
      have gp:S'.g p=((S1.g p).1+1,.one (.own e r (xs.set i.toNat z))):=A7 _ _ _
      have gH:S'.g (H b)=((S1.g (H b)).1+1,.one .dead):=(Ac _ _ (Ne.symm hpH)).trans (A7 _ _ _)
      have gO:∀ q,q≠p→q≠H b→S'.g q=S1.g q:=λ q q1 q2=>(Ac _ _ q1).trans (Ac _ _ q2)
      have same:∀ q,(S'.g q).1=(S1.g q).1→S'.g q=S1.g q∧q≠p∧q≠H b:=λ q hq=>by
       have q1:q≠p:=λ e=>by rw [e,gp] at hq; simp at hq
       have q2:q≠H b:=λ e=>by rw [e,gH] at hq; simp at hq
       exact ⟨gO q q1 q2,q1,q2⟩
      have hfz:∀ j,S1.O j = .fz→O' j = .fz:=λ j hj=>hOo j _ hj (by simp) (by simp)
      have L:Cq S1 S':=by
       refine ⟨λ q=>?_,λ _ _=>rfl,λ q v2 e2 r2 xs' hq hv2=>?_,λ _ _=>rfl,λ j hj=>⟨hfz j hj,rfl⟩,λ b3 n hb hh hO=>?_,λ q hq hdp=>?_⟩
       ·by_cases q1:q=p
        ·rw [q1,gp]; exact Nat.le_succ _
        by_cases q2:q=H b
        ·rw [q2,gH]; exact Nat.le_succ _
        ·rw [gO q q1 q2]; exact Nat.le_refl _
       ·have:=(same q (by rw [hq]; exact hv2.symm)).1
        rw [this] at hq
        exact ⟨xs',hq,rfl⟩
       ·obtain ⟨s1,_,s2⟩:=same _ hb
        have hb3:b3≠b:=λ e=>s2 (by rw [e])
        exact ⟨by rw [s1]; exact hh,hOo _ _ hO (by simp [hb3]) (by simp),λ c e' f' hc'=>⟨c,hc',rfl,λ _ _=>rfl⟩⟩
       ·obtain ⟨s1,_,_⟩:=same q hq
        rw [s1]
        exact ⟨hdp,λ _ _ _ h=>h,λ j hj=>⟨.inl (hOo j _ hj (by simp) (by simp)),rfl⟩⟩
      have hnd:(k::(b1++(bi++b2))).Nodup:=by
       rw [List.nodup_append] at h13
       obtain ⟨n1,n2,n3⟩:=h13
       rw [List.nodup_cons,List.nodup_append,List.nodup_append]
       have hk1:∀ j∈b1++b2,j≠k:=λ j hj e=>by have:=h14 j hj; rw [e,h9] at this; cases this
       refine ⟨λ hk=>?_,n1,⟨hd2,n2,λ x hx y hy e=>?_⟩,λ x hx y hy e=>?_⟩
       ·rcases List.mem_append.1 hk with hk|hk
        ·exact hk1 k (List.mem_append_left _ hk) rfl
        ·rcases List.mem_append.1 hk with hk|hk
         ·obtain ⟨q,hq⟩:=hd3 k hk
          rw [h9] at hq; cases hq
         ·exact hk1 k (List.mem_append_right _ hk) rfl
       ·obtain ⟨q,hq⟩:=hd3 x hx
        have:=h14 y (List.mem_append_right _ hy)
        rw [← e,hq] at this; cases this
       ·rcases List.mem_append.1 hy with hy|hy
        ·obtain ⟨q,hq⟩:=hd3 y hy
         have:=h14 x (List.mem_append_left _ hx)
         rw [e,hq] at this; cases this
        ·exact n3 x hx y hy e
      have hown:D5 X.P O' S1.w (.pl p []) e r (xs.set i.toNat z) (S1.ph p):=by
       have hcs:cur.toList.take (xs.length * r.sz)=cur.toList.take (i.toNat * r.sz)++(row++(cur.toList.take (xs.length * r.sz)).drop (i.toNat * r.sz+r.sz)):=by
        have hle:(i.toNat+1) * r.sz≤xs.length * r.sz:=Nat.mul_le_mul_right _ i1
        rw [Nat.add_mul,Nat.one_mul] at hle
        have e1:cur.toList.take (i.toNat * r.sz)=(cur.toList.take (xs.length * r.sz)).take (i.toNat * r.sz):=by rw [List.take_take,Nat.min_eq_left (by omega)]
        have e2:row=((cur.toList.take (xs.length * r.sz)).drop (i.toNat * r.sz)).take r.sz:=by
         rw [hrow2]
         refine List.ext_getElem? λ j=>?_
         rw [List.getElem?_take,List.getElem?_take]
         split
         ·rw [List.getElem?_drop,List.getElem?_drop,List.getElem?_take,if_pos (by omega)]
         ·rfl
        rw [e1,e2,← List.drop_drop]
        rw [List.take_append_drop,List.take_append_drop]
       refine ⟨k::(b1++(bi++b2)),⟨S1.ph p,cur.toList.take (xs.length * r.sz),b1++(bi++b2),rfl,h2,⟨?_,.inr ⟨k,cap,cur,by rw [List.length_set]; exact h1,Nat.zero_le _,h3,by rw [List.length_set]; exact h4,h5,h6,by rw [List.length_set]⟩⟩,?_,?_⟩,hnd,λ j hj=>?_⟩
       ·have e1:cur.toList.length=cur.size:=Array.length_toList
        rw [List.length_take,List.length_set,e1]
        have:=Nat.mul_le_mul_right r.sz h4
        omega
       ·rw [hcs]
        have mono:∀ {x:r.den} {c:List Value} {d:List Nat},r.dep X.P (λ k=>S1.O k = .fz) S1.w x c d→r.dep X.P (λ k=>O' k = .fz) S1.w x c d:=λ h=>Ty.dep_mono hfz (λ _ _=>rfl) r _ _ _ (λ _ _=>rfl) h
        exact Cb.set3 i1 (h11.mono (λ x c d _ h=>mono h)) (mono hd1) (h12.mono (λ x c d _ h=>mono h))
       ·rw [h1]; rfl
       ·rcases List.mem_cons.1 hj with rfl|hj
        ·exact hOk
        ·rcases List.mem_append.1 hj with hj|hj
         ·exact hOo j _ (h14 j (List.mem_append_left _ hj)) (by simp) (by simp)
         ·rcases List.mem_append.1 hj with hj|hj
          ·obtain ⟨q,hq⟩:=hd3 j hj
           exact hO7 j q hq
          ·exact hOo j _ (h14 j (List.mem_append_right _ hj)) (by simp) (by simp)
      refine ⟨S',⟨K1.nt,λ j hj=>?_,λ q=>?_,λ b3 n hb=>?_,λ b3 n hb=>?_,K1.sl,K1.sz,K1.df,⟨K1.fr.os,K1.fr.tape,K1.fr.out,K1.fr.size,λ j hj h0=>?_,λ j hj h0=>?_,λ j b3 hj h0=>?_⟩⟩,?_,G1.w⟩
      ·exact K1.lt j (λ e=>hj (hOo j _ e (by simp) (by simp)))
      ·show G6 X.P S' q (S'.g q).2 (S1.ph q)
       by_cases q1:q=p
       ·rw [q1,gp]; exact hown
       by_cases q2:q=H b
       ·rw [q2,gH]; trivial
       ·rw [gO q q1 q2]
        exact (K1.at_ q).later L (λ w j hj=>⟨hOo j _ hj (by simp) (by simp),rfl⟩)
      ·have hb3:b3≠b:=λ e=>by rw [e,gH] at hb; cases hb
       have hbp:H b3≠p:=λ e=>by rw [e,gp] at hb; cases hb
       rw [gO _ hbp (λ e=>hb3 (Q5 e))] at hb
       obtain ⟨y1,c1,e1,y2,y3,y4,y5⟩:=K1.box b3 n hb
       exact ⟨y1,c1,e1,y2,hOo _ _ y3 (by simp [hb3]) (by simp),y4,y5⟩
      ·have hb3:b3≠b:=λ e=>by rw [e,gH] at hb; cases hb
       have hbp:H b3≠p:=λ e=>by rw [e,gp] at hb; cases hb
       rw [gO _ hbp (λ e=>hb3 (Q5 e))] at hb
       exact K1.rgn b3 n hb
      ·obtain ⟨f1,f2⟩:=K1.fr.no j hj h0
       exact ⟨hOo j _ f1 (by simp) (by simp),f2⟩
      ·obtain ⟨f1,f2⟩:=K1.fr.fz j hj h0
       exact ⟨hOo j _ f1 (by simp) (by simp),f2⟩
      ·obtain ⟨f1,rest⟩:=K1.fr.bx j b3 hj h0
       refine ⟨hOn j _ f1 (λ e=>?_) (by simp),rest⟩
       rw [e] at hj h0
       exact (K1.rgn b r.sz h10).2.2 hb2 (by rw [h8]; exact hj) b3 (by rw [h8]; exact h0)
      ·show upd (upd S1.g (H b) _) p _=_
       rw [← h,Ad]
       show _=get (ups (up (ups A us1) ⟨H b,false,.one .dead⟩) [⟨p,false,.one (.own e r (xs.set i.toNat z))⟩])
       rw [A8,Hp,← g1]
       simp only [cond_false]
       rw [Ac _ _ hpH]
     ·cases h
   ·cases h
  ·cases h
 ·cases h
theorem L9 {R:Type} {B p:Nat} {e:TypeId} {r:Ty} {xs:List r.den} {i:Int} {K:List Up→Option R} {Z:Option R} {y:R} (h:N9 A B p e r xs i K Z=some y):Z=some y∨∃ us,Kx A B p e r xs i=some us∧K us=some y:=by
 unfold N9 at h
 unfold Kx
 cases h1:((Fu r || Cs r)&&Nat.blt r.sz 999 && !(Nat.beq (p / 1000) (B+1))&&Nat.ble 2000 B) with
 |false=>rw [h1,cond_false] at h; exact .inl h
 |true=>
  rw [h1,cond_true] at h
  cases h2:decide (0≤i) with
  |false=>rw [h2] at h; simp at h
  |true=>
   rw [h2,cond_true] at h
   cases h3:decide (i<(xs.length:Int)) with
   |false=>rw [h3] at h; simp at h
   |true=>
    rw [h3,cond_true] at h
    exact .inr ⟨_,rfl,h⟩
theorem Ffa {R:Type} {K':Ab→Option R} {y:R} (hE:Gj X E) (g:Gh) (K:Ae X S a) (hg:S.g=get A) (h:P7 E A K' g=some y):∃ A' S',K' A'=some y∧Ae X S' a∧S'.g=get A'∧S'.w=S.w:=by
 have keep:K' A=some y→∃ A' S',K' A'=some y∧Ae X S' a∧S'.g=get A'∧S'.w=S.w:=λ h=>⟨A,S,h,K,hg,rfl⟩
 cases g with
 |cl p=>
  simp only [P7] at h
  split at h
  ·rename_i us hus
   obtain ⟨S1,K1,g1,w1⟩:=Fea K hg hus
   exact ⟨_,S1,h,K1,g1,w1⟩
  ·exact keep h
 |op p t B=>
  simp only [P7] at h
  cases hb:Nat.blt t E.nt with
  |false=>rw [hb,cond_false] at h; exact keep h
  |true=>
   rw [hb,cond_true] at h
   split at h
   ·rename_i e r xs k i hp ht
    rcases L9 h with h|⟨us,hus,h⟩
    ·exact keep h
    ·have:Eua A p t B=some us:=by unfold Eua; rw [hp,ht]; exact hus
     obtain ⟨S1,K1,g1,w1⟩:=Fda K hg this
     exact ⟨_,S1,h,K1,g1,w1⟩
   ·exact keep h
 |oc p i B=>
  simp only [P7] at h
  split at h
  ·rename_i e r xs hp
   rcases L9 h with h|⟨us,hus,h⟩
   ·exact keep h
   ·obtain ⟨S1,_,_,K1,g1,w1,_⟩:=L8 K hg (p:=p) (v:=(S.g p).1) (by rw [← hg] at hp; rw [← hp]) hus
    exact ⟨_,S1,h,K1,g1,w1⟩
  ·exact keep h
 |od d B=>
  simp only [P7] at h
  cases hb:Nat.blt d E.nt with
  |false=>rw [hb,cond_false] at h; exact keep h
  |true=>
   have hd:d<X.nt:=hE.nt ▸ (Nat.le_of_ble_eq_true hb:d+1≤E.nt)
   rw [hb,cond_true] at h
   split at h
   ·rename_i p v i off hp
    split at h
    ·rename_i n e r xs hpp
     cases hq:(Nat.beq n v&&Fu r && !(Nat.beq p d)) with
     |false=>rw [hq,cond_false] at h; exact keep h
     |true=>
      rw [hq,cond_true] at h
      rcases L9 h with h|⟨us,hus,h⟩
      ·exact keep h
      ·have:Y6 A d B=some (us++[⟨d,false,.one (.bp B ((get A (H B)).1+1) off)⟩]):=by unfold Y6; simp only [hp,hpp,hq,cond_true,hus]
       obtain ⟨S1,K1,g1,w1⟩:=Wr K hg hd this
       exact ⟨_,S1,h,K1,g1,w1⟩
    ·exact keep h
   ·rename_i p v e0 r0 xs0 i off hp
    split at h
    ·rename_i n e r xs hpp
     cases hq:(Nat.beq n v && !(Fu r) && !(Nat.beq p d)) with
     |false=>rw [hq,cond_false] at h; exact keep h
     |true=>
      rw [hq,cond_true] at h
      rcases L9 h with h|⟨us,hus,h⟩
      ·exact keep h
      ·have:Y6 A d B=some (us++[⟨d,false,.one (.bp B ((get A (H B)).1+1) off)⟩]):=by unfold Y6; simp only [hp,hpp,hq,cond_true,hus]
       obtain ⟨S1,K1,g1,w1⟩:=Wr K hg hd this
       exact ⟨_,S1,h,K1,g1,w1⟩
    ·exact keep h
   ·exact keep h
theorem I5 {R:Type} {K':Ab→Option R} {y:R} (hE:Gj X E):∀ (l:List Gh) {S:Sit} {A:Ab},Ae X S a→S.g=get A→Id E l A K'=some y→∃ A' S',K' A'=some y∧Ae X S' a∧S'.g=get A'∧S'.w=S.w
 |[],S,A,K,hg,h=>⟨A,S,h,K,hg,rfl⟩
 |g::l,S,A,K,hg,h=>by
  obtain ⟨A1,S1,h1,K1,g1,w1⟩:=Ffa hE g K hg h
  obtain ⟨A2,S2,h2,K2,g2,w2⟩:=I5 hE l K1 g1 h1
  exact ⟨A2,S2,h2,K2,g2,w2.trans w1⟩
end
end

section
attribute [local irreducible] C H
section
variable {X:Cx} {S S':Sit} {a:Act} {E:En} {A:Ab} {o:Oper} {R:Type} {Kc:List Up→Option R} {r:R}
theorem Rz (hE:Gj X E) (K:Ae X S a) (hg:S.g=get A) {T:TypeId} {x i:Operand} {d:Nat} (ho:o.op = .indexAddr T x i) (hod:o.dst=some d) (hd:d<X.nt) (hopn:E.opn d=true) (h:Aa E o A Kc=some r):Fh X o a S.w A Kc r:=by
 unfold Aa at h
 rw [ho,hod] at h
 simp only [hopn,cond_true] at h
 split at h
 ·rename_i p v k n hs hn
  have ei:=(Hr hE K hg hn).1
  obtain ⟨l,hl⟩:=El hE K hg hs
  have hl':Ai X.P S (.pl l []) (.al p v) (a.eval x):=hl
  split at h
  ·rename_i m e r' xs hp
   cases hq:(Nat.beq m v&&H6 E T e && !(Nat.beq p d)) with
   |false=>rw [hq] at h; simp at h
   |true=>
    rw [hq,cond_true] at h
    simp only [Bool.and_eq_true,Bool.not_eq_true'] at hq
    obtain ⟨⟨q1,q2⟩,q3⟩:=hq
    have hmv:m=v:=Nat.eq_of_beq_eq_true q1
    subst hmv
    have hpd:p≠d:=λ e=>by rw [e,Nat.beq_refl] at q3; cases q3
    rcases L9 h with h|⟨us,hus,h⟩
    ·cases h
    ·have hp':S.g p=(m,.one (.own e r' xs)):=by rw [hg,hp]
     have he:a.eval x=S.ph p:=hl'.2 (by rw [hp'])
     have hown:D5 X.P S.O S.w (.pl p []) e r' xs (S.ph p):=by have:=K.at_ p; rw [hp'] at this; exact this
     have hb:0≤n∧n<(xs.length:Int):=by
      unfold Kx at hus
      generalize ((Fu r' || Cs r')&&Nat.blt r'.sz 999 && !(Nat.beq (p / 1000) (2000+d+1))&&Nat.ble 2000 (2000+d))=bb at hus
      cases bb with
      |false=>simp at hus
      |true=>
       rw [cond_true] at hus
       by_cases h0:0≤n
       ·by_cases h1:n<(xs.length:Int)
        ·exact ⟨h0,h1⟩
        ·simp [h0,h1] at hus
       ·simp [h0] at hus
     obtain ⟨S',k',cap,K',g',w',ph',bb',pq,gH,gq⟩:=L8 K hg hp' hus
     have hr:=G9 (w:=S.w) (G3 q2 hE.ti) hown.top.1 ho (he.trans ph') ei hb.1 hb.2
     rw [Nat.zero_add,← w'] at hr
     have hsv:G6 X.P S' 0 (.one (.bp (2000+d) ((S.g (H (2000+d))).1+1) 0)) (.pointer (some ⟨k',n.toNat * r'.sz,none⟩)):=by
      refine ⟨by rw [gH]; exact Nat.le_refl _,λ _=>?_⟩
      rw [bb']
      rfl
     have K2:=K'.put0 hd _ _ 0 rfl hsv
     refine ⟨_,h,?_⟩
     rw [← w']
     refine A9 (S:=He S' (λ _ _=>none) d _ _) hr (by rw [hod]; exact K2) ?_
     show upd S'.g d _=_
     rw [Ad,A8,← g',← hg]
  ·cases h
 ·cases h
end
end

section
attribute [local irreducible] C H
section
variable {X:Cx} {S S':Sit} {a:Act} {E:En} {A:Ab} {o:Oper} {R:Type} {Kc:List Up→Option R} {r:R}
theorem Ae.names (K:Ae X S a) (h:Nat→List Nat→Option Lab) (hno:∀ n q,h n q≠some .no):Ae X { S with O:=atO S.O h } a∧Cq S { S with O:=atO S.O h }:=by
 have L:Cq S { S with O:=atO S.O h }:=⟨λ _=>Nat.le_refl _,λ _ _=>rfl,λ p v e r xs' h _=>⟨xs',h,rfl⟩,λ _ _=>rfl,λ k hk=>⟨Ah hk (by simp),rfl⟩,Cq.box_of (λ _ _ _ h=>h) (λ k b h=>⟨Ah h (by simp),rfl⟩),λ p _ hd=>⟨hd,λ _ _ _ h=>h,λ k hk=>⟨.inl (Ah hk (by simp)),rfl⟩⟩⟩
 exact ⟨K.ghost _ _ (λ k e=>Ah e (by simp)) (λ k e1 e2=>e1 (Ah e2 (by simp))) (λ k e=>Ah e (by simp)) (λ k b e=>Ah e (by simp)) (λ _ _ e=>e)
  (λ l=>(K.at_ l).later L (λ p k e=>⟨Ah e (by simp),rfl⟩)),L⟩
def Ws (i:Nat):Nat→List Nat→Option Lab:=λ n _=>if n=i then some .fz else none
theorem La {P:Program} {S:Sit} {i:Nat} {q:Nat→List Nat}:∀ {l:List Lf} {j:Nat} {us:List Value},A3 l=true→A5 P S (λ n => .tm i (q n)) j l us→H5 (Ge P (λ k=>atO S.O (Ws i) k = .fz) S.w) (l.map Hh) us
 |[],_,[],_,_ => .nil
 |[],_,_::_,_,h=>h.elim
 |_::_,_,[],_,h=>h.elim
 |x::l,j,u::us,hst,h=>by
  have hfz:∀ k,S.O k = .fz→atO S.O (Ws i) k = .fz:=λ k hk=>Ah hk (by simp)
  cases x with
  |sc v=>exact .cons h.1 (La (by simpa [A3] using hst) h.2)
  |fz e r xs=>exact .cons (Ty.rep_mono (t := .sl e r) hfz (λ _ _=>rfl) _ _ h.1) (La (by simpa [A3] using hst) h.2)
  |own e r xs=>
   refine .cons ?_ (La (by simpa [A3] using hst) h.2)
   have h1:D5 P S.O S.w (.tm i (q j)) e r xs u:=h.1
   exact h1.reads (O':=λ k=>atO S.O (Ws i) k) hfz (λ k hk=>Fw hk (by simp [Ws]))
  |_=>simp [A3] at hst
theorem Hu:∀ {m:List Lf},Ix m=true→A3 m=true
 |[],_=>rfl
 |x::m,h=>by
  cases x<;>first|(simp [Ix] at h; done)|(simp only [Ix] at h; simp only [A3]; exact Hu h)
theorem J8 {P:Program} {f:Nat→Lab}:∀ {l:List Lf} {j:Nat} {us:List Value},A3 l=true→A5 P S f j l us→∀ u∈us,u.oneCell'=true
 |[],_,[],_,_=>by simp
 |[],_,_::_,_,h=>h.elim
 |_::_,_,[],_,h=>h.elim
 |x::l,j,u::us,hst,h=>by
  intro v hv
  rcases List.mem_cons.1 hv with rfl|hv
  ·cases x with
   |sc w=>
    obtain ⟨rfl,h2⟩:=h.1
    unfold V9 at h2
    split at h2<;>first|rfl|cases h2
   |fz e r xs=>
    obtain ⟨ad,cap,e1⟩:=Nh (X:=⟨P,λ _ => .no,S.w,λ _=>(0,0),0,0⟩) h.1
    rw [e1]; rfl
   |own e r xs=>
    obtain ⟨ad,cap,e1⟩:=M3 (X:=⟨P,λ _ => .no,S.w,λ _=>(0,0),0,0⟩) h.1
    rw [e1]; rfl
   |_=>simp [A3] at hst
  ·refine J8 (l:=l) (us:=us) ?_ h.2 v hv
   cases x<;>first|(simp [A3] at hst; done)|simpa [A3] using hst
theorem Bua {X:Cx} {S:Sit} {A:Ab} (hg:S.g=get A) {f:Nat→Lab}:∀ {l:List Lf} {j:Nat} {us:List Value},Dg A l=true→A5 X.P S f j l us→(∀ u∈us,u.oneCell'=true)∧∀ k,.hd k∉l
 |[],_,[],_,_=>by simp
 |[],_,_::_,_,h=>h.elim
 |_::_,_,[],_,h=>h.elim
 |x::l,j,u::us,hst,h=>by
  have rest:Dg A l=true:=by
   cases x<;>first|(simp [Dg] at hst; done)|(simp only [Dg,Bool.and_eq_true] at hst; exact hst.2)|simpa [Dg] using hst
  obtain ⟨r1,r2⟩:=Bua hg rest h.2
  refine ⟨λ v hv=>?_,λ k hk=>?_⟩
  ·rcases List.mem_cons.1 hv with hv|hv
   ·rw [hv]
    have one:A3 [x]=true→u.oneCell'=true:=λ hs=>J8 (P:=X.P) (S:=S) (f:=f) (l:=[x]) (j:=j) (us:=[u]) hs ⟨h.1,trivial⟩ u (by simp)
    cases x with
    |da p v pi e r xs=>
     simp only [Dg,Bool.and_eq_true] at hst
     obtain ⟨ad,cap,e1⟩:=Rp (X:=X) h.1 (by rw [hg]; exact Nat.eq_of_beq_eq_true hst.1)
     rw [e1]; rfl
    |sc w=>exact one rfl
    |fz e r xs=>exact one rfl
    |own e r xs=>exact one rfl
    |_=>simp [Dg] at hst
   ·exact r1 v hv
  ·rcases List.mem_cons.1 hk with rfl|hk
   ·simp [Dg] at hst
   ·exact r2 k hk
theorem Fn {s:Sv} {u:Value} {us:List Value} (hs:Ms s u us) (hnt:∀ vs,s ≠ .tup vs) (h1:∀ v∈us,v.oneCell'=true):u.cells=us.toArray:=by
 cases s with
 |agg l=>have:u = .agg us.toArray:=hs; rw [this]; rfl
 |one x=>
  have:us=[u]:=hs
  subst this
  have:=h1 u (by simp)
  cases u<;>first|(simp [Value.oneCell'] at this; done)|rfl
 |tup vs=>exact absurd rfl (hnt vs)
theorem Jo {s:Sv} {T:TypeId} {t:TI} {l:List Lf} (hl:l.length=(parts s).length) (h:l.length=t.ty.sz) (ht:TOk X.P T t):∀ vs,s ≠ .tup vs:=by
 intro vs e
 subst e
 have:∀ t:Ty,0<t.sz:=by intro t; induction t<;>simp [Ty.sz]<;>omega
 have:=this t.ty
 simp [parts] at hl
 simp [hl] at h
 omega
theorem Ik {P:Program} {w:World} {T:TypeId} {t:TI} {x y:Operand} {k o':Nat} {us:List Value} {c:Array Value} {e:TypeId} {u:Value} (ht:TOk P T t) (ho:o.op = .store T x y) (hx:a.eval x = .pointer (some ⟨k,o',none⟩)) (hy:a.eval y=u) (hu:u.cells=us.toArray)
  (hl:us.length=t.ty.sz) (hc:w.heap[k]? = some (.cells c e (0,0))) (hle:o'+us.length≤c.size) (h1:∀ v∈us,v.oneCell'=true):
  (execOp a.eval o).run P w = .ok .skip (w.setRow k (c.toList.take o'++us++c.toList.drop (o'+us.length)).toArray):=by
 have hst:=run_storeCells_at P k o' e us 0 c w hc (by simpa using hle) h1
 simp only [Nat.add_zero] at hst
 unfold execOp
 simp only [ho,hx,hy,Instr.storeAt,Instr.sureAddr,Sem.run_bind,Sem.run_pure,Result.andThen_ok,storeVar,hu,Gf (Jl ht),List.size_toArray]
 rw [if_neg (by simp [hl])]
 simp [hst]
theorem Wt {s:Sv} {b off:Nat} {m:List Lf} (hm:m.length=(parts s).length) (hnt:∀ vs,s ≠ .tup vs):∀ j,j<m.length→Oq b off 0 (pth s j)=some (.pl (C b (off+j)) []):=by
 intro j hj
 cases s with
 |one x=>
  have:j=0:=by simp [parts] at hm; omega
  subst this
  rfl
 |agg l=>rfl
 |tup vs=>exact absurd rfl (hnt vs)
theorem S4 {y:Operand} {s:Sv} {ts:List Ty} {m:List Lf} {us:List Up} (h:Lw A y s ts=some (m,us)):m.length=(parts s).length:=by
 unfold Lw at h
 split at h
 ·rename_i m0 vs0 ht
  cases hst:A3 m0 with
  |false=>rw [hst] at h; simp at h
  |true=>
   rw [hst] at h
   simp only [cond_true,Option.some.injEq,Prod.mk.injEq] at h
   obtain ⟨rfl,_⟩:=h
   exact (I4 _ _ ht).1
 ·cases h
theorem Hg {m:List Lf} (h:A3 m=true):∀ k,.hd k∉m:=by
 induction m with
 |nil=>simp
 |cons x l ih=>
  intro k hk
  rcases List.mem_cons.1 hk with rfl|hk
  ·simp [A3] at h
  ·exact ih (by cases x<;>first|(simp [A3] at h; done)|simpa [A3] using h) k hk
theorem U1 {p:Nat}:∀ (U:List Up) (A0:Ab),Q1 p U=true→get (ups A0 U) p=get A0 p
 |[],A0,_=>rfl
 |u::U,A0,hU=>by
  simp only [Q1,Bool.and_eq_true,Bool.not_eq_true'] at hU
  show get (ups (up A0 u) U) p=_
  rw [U1 U _ hU.2,Hp,Ac]
  intro e2
  rw [e2] at hU
  simp at hU
theorem K4a.setAll {P:Program} {G:Nat→Prop} {w:World} {l m:List Lf} {cs us:List Value} {off:Nat} (h:H5 (Ge P G w) l cs) (hm:H5 (Ge P G w) m us):
  H5 (Ge P G w) (Vf.setAll l off m) (cs.take off++us++cs.drop (off+us.length)):=by
 unfold Vf.setAll
 rw [hm.len]
 exact ((h.take off).append hm).append (h.drop _)
theorem Bva {P:Program} {O:Nat→Lab} {w:World} {p:Nat} {e:TypeId} {r':Ty} {xs:List r'.den} {u:Value} {k cap i off:Nat} {cur:Array Value} {m:List Lf} {us:List Value} {z:r'.den}
  (hno:Fu r'=true) (h:D5 P O w (.pl p []) e r' xs u) (hu:u = .slice (some ⟨k,0,none⟩) xs.length cap) (hc:w.heap[k]? = some (.cells cur e (0,0))) (hk:O k = .pl p []) (hi:i<xs.length) (hm:H5 (Ge P (λ k=>O k = .fz) w) m us)
  (hz:mkW r' (Vf.setAll (lvs r' (xs.getD i r'.dflt)) off m)=some z) (hle:off+us.length≤r'.sz):
  i * r'.sz+off+us.length≤cur.size∧D5 P O (w.setRow k (cur.toList.take (i * r'.sz+off)++us++cur.toList.drop (i * r'.sz+off+us.length)).toArray) (.pl p []) e r' (xs.set i z) u:=by
 rw [D5.flat hno]
 obtain ⟨hs,cs,hrow,hrows,hb⟩:=(D5.flat hno).1 h
 rcases D0 hrow with ⟨e1,_⟩|⟨k',cap',cur',e1,hcur,h1,h2,h3,h4⟩
 ·rw [hu] at e1; cases e1
 ·rw [hu] at e1
  cases e1
  rw [hc] at hcur
  cases hcur
  have hlt:(i+1) * r'.sz≤xs.length * r'.sz:=Nat.mul_le_mul_right _ hi
  have hcl:cs.length=xs.length * r'.sz:=hrow.1
  have hcap:xs.length * r'.sz≤cap * r'.sz:=Nat.mul_le_mul_right _ h1
  rw [Nat.add_mul,Nat.one_mul] at hlt
  have hget:=hrows.get (Ty.rep_len r') i (xs.getD i r'.dflt) (by rw [List.getD_eq_getElem?_getD,List.getElem?_eq_getElem hi]; rfl)
  have hnew:=Nd hz (K4a.setAll (off:=off) (Ig _ _ _ hget) hm)
  have hrows2:=hrows.set (Ty.rep_len r') i z _ hi hnew
  rw [← H7a (by omega) (by omega)] at hrows2
  refine ⟨by omega,hs,_,⟨?_,.inr ⟨k,cap,_,by rw [List.length_set]; exact hu,Nat.zero_le _,setRow_heap _ _ _ _ _ _ hc,by rw [List.length_set]; exact h1,h2,?_,?_⟩⟩,hrows2.mono (λ x c=>Ty.rep_mono (λ _ h=>h) (λ j hj=>setRow_other _ _ _ _ (λ e=>by have:O k = .fz:=e ▸ hj; rw [hk] at this; cases this)) r' x c),hb⟩
  ·simp only [List.length_append,List.length_take,List.length_drop,List.length_set]
   omega
  ·simp only [List.size_toArray,List.length_append,List.length_take,List.length_drop,Array.length_toList]
   omega
  ·rw [List.length_set,← h4]
   exact Nl (n:=xs.length * r'.sz) (by omega) (by have h9:cur.toList.length=cur.size:=Array.length_toList; omega)
theorem Ae.rewrite (K:Ae X S a) {p n k:Nat} {e:TypeId} {r':Ty} {xs ys:List r'.den} {w':World} (hno:Fu r'=true) (hp:S.g p=(n,.one (.own e r' xs))) (hk:S.O k = .pl p []) (hold:∀ j o',S.O j=o'→o' ≠ .pl p []→w'.heap[j]? = S.w.heap[j]?)
  (hsz:w'.heap.size=S.w.heap.size) (h1:w'.os=S.w.os) (h2:w'.tape=S.w.tape) (h3:w'.output=S.w.output) (hown:D5 X.P S.O w' (.pl p []) e r' ys (S.ph p)) (hlen:ys.length=xs.length):
  Ae X { S with g:=upd S.g p (n,.one (.own e r' ys)),w:=w' } a∧({ S with g:=upd S.g p (n,.one (.own e r' ys)),w:=w' }:Sit).g=upd S.g p (n,.one (.own e r' ys)):=by
 have L:Cq S { S with g:=upd S.g p (n,.one (.own e r' ys)),w:=w' }:=by
  refine ⟨λ q=>?_,λ _ _=>rfl,λ q v e2 r2 xs' hq hv=>?_,λ _ _=>rfl,λ j hj=>⟨hj,hold j _ hj (by simp)⟩,Cq.box_of (λ b m hv hh=>?_) (λ j b h=>⟨h,hold j _ h (by simp)⟩),λ q hv hd=>?_⟩
  ·show _≤(upd S.g p _ q).1
   by_cases h:q=p
   ·subst h; rw [A7,hp]; exact Nat.le_refl _
   ·rw [Ac _ _ h]; exact Nat.le_refl _
  ·have hq':upd S.g p (n,.one (.own e r' ys)) q=(v,.one (.own e2 r2 xs')):=hq
   by_cases h:q=p
   ·subst h
    rw [A7] at hq'
    cases hq'
    exact ⟨xs,hp,hlen.symm⟩
   ·rw [Ac _ _ h] at hq'
    exact ⟨xs',hq',rfl⟩
  ·have hb:H b≠p:=λ e=>by subst e; rw [hp] at hh; cases hh
   exact (congrArg Prod.snd (Ac _ _ hb)).trans hh
  ·have h:q≠p:=λ e=>by subst e; rw [hp] at hd; simp [Tq,F0a,hno] at hd
   have e1:({ S with g:=upd S.g p (n,.one (.own e r' ys)),w:=w' }:Sit).g q=S.g q:=Ac _ _ h
   rw [e1]
   exact ⟨hd,λ _ _ _ h=>h,λ k hk=>⟨.inl hk,hold k _ hk (by simp [h])⟩⟩
 have F:=K.fr
 refine ⟨⟨K.nt,λ j hj=>by rw [show ({ S with g:=upd S.g p (n,.one (.own e r' ys)),w:=w' }:Sit).w=w' from rfl,hsz]; exact K.lt j hj,λ l=>?_,λ b m hb=>?_,λ b m hb=>?_,K.sl,K.sz,K.df,⟨h1.trans F.os,h2.trans F.tape,h3.trans F.out,by rw [show ({ S with g:=upd S.g p (n,.one (.own e r' ys)),w:=w' }:Sit).w=w' from rfl,hsz]; exact F.size,λ j hj h0=>?_,λ j hj h0=>?_,λ j b hj h0=>?_⟩⟩,rfl⟩
 ·show G6 X.P _ l (upd S.g p _ l).2 _
  by_cases h:l=p
  ·subst h; rw [A7]; exact hown
  ·rw [Ac _ _ h]
   exact (K.at_ l).later L (λ q j hj=>⟨hj,hold j _ hj (by simp [h])⟩)
 ·have hne:H b≠p:=by
   intro e2
   have:(upd S.g p (n,.one (.own e r' ys)) (H b)).2 = .one (.hd m):=hb
   rw [e2,A7] at this
   cases this
  have hb':(S.g (H b)).2 = .one (.hd m):=by
   have:(upd S.g p (n,.one (.own e r' ys)) (H b)).2 = .one (.hd m):=hb
   rwa [Ac _ _ hne] at this
  obtain ⟨hn,c,e1,e2,e3,e4⟩:=K.box b m hb'
  exact ⟨hn,c,e1,(hold _ _ e3 (by simp)).trans e2,e3,e4⟩
 ·have hne:H b≠p:=by
   intro e2
   have:(upd S.g p (n,.one (.own e r' ys)) (H b)).2 = .one (.hd m):=hb
   rw [e2,A7] at this
   cases this
  have hb':(S.g (H b)).2 = .one (.hd m):=by
   have:(upd S.g p (n,.one (.own e r' ys)) (H b)).2 = .one (.hd m):=hb
   rwa [Ac _ _ hne] at this
  exact K.rgn b m hb'
 ·obtain ⟨f1,f2⟩:=F.no j hj h0
  exact ⟨f1,(hold j _ f1 (by simp)).trans f2⟩
 ·obtain ⟨f1,f2⟩:=F.fz j hj h0
  exact ⟨f1,(hold j _ f1 (by simp)).trans f2⟩
 ·obtain ⟨f1,c,c',e1,f,f2,f3,f4,f5⟩:=F.bx j b hj h0
  exact ⟨f1,c,c',e1,f,f2,(hold j _ f1 (by simp)).trans f3,f4,f5⟩
theorem Fga (hE:Gj X E) (K:Ae X S a) (hg:S.g=get A) {T:TypeId} {x y:Operand} (ho:o.op = .store T x y) (hod:o.dst=none) (h:Aa E o A Kc=some r):Fh X o a S.w A Kc r:=by
 unfold Aa at h
 rw [ho,hod] at h
 simp only at h
 have skip:∀ {S2:Sit} {w:World} {A':Ab},(execOp a.eval o).run X.P w = .ok .skip S2.w→Ae X S2 a→S2.g=get A'→F3a X o a w A':=by
  intro S2 w A' hr K2 hg2
  refine Bfa hr ?_ hg2
  rw [hod]
  exact K2
 split at h
 ·rename_i ti b v off s hti hsx hsy
  obtain ⟨pl,hsv⟩:=El hE K hg hsx
  have hlf:Ai X.P S (.pl pl []) (.bp b v off) (a.eval x):=hsv
  cases hmv:mvO E y with
  |true=>
   rw [hmv,cond_true] at h
   split at h
   ·rename_i m vs hgive
    split at h
    ·rename_i n hd hp
     cases hq:(Nat.beq n v&&Nat.beq m.length ti.ty.sz&&Nat.ble (off+ti.ty.sz) hd) with
     |false=>rw [hq] at h; simp at h
     |true=>
      rw [hq,cond_true] at h
      simp only [Bool.and_eq_true] at hq
      obtain ⟨⟨q1,q3⟩,q4⟩:=hq
      have hnv:n=v:=by simpa using q1
      have hle:off+ti.ty.sz≤hd:=Nat.le_of_ble_eq_true q4
      have hlen:m.length=ti.ty.sz:=Nat.eq_of_beq_eq_true q3
      subst hnv
      have ht:=hE.ti _ _ hti
      have hnt:=Jo (X:=X) (s:=s) (S4 hgive) hlen ht
      have hh:(S.g (H b)).2 = .one (.hd hd):=by rw [hg,hp]
      obtain ⟨S1,K1,g1,G1,q2,_,us,hsh,hls⟩:=W8 hE K hg (.inl hsy) hnt hgive 0
      have hh1:(S1.g (H b)).2 = .one (.hd hd):=by rw [G1.heads b hd hh]; exact hh
      obtain ⟨_,c,e,c1,c2,c3,c4⟩:=K1.box b hd hh1
      have hpt:a.eval x = .pointer (some ⟨(S1.bb b).1,(S1.bb b).2+off,none⟩):=by rw [G1.bb]; exact hlf.2 (by rw [hg,hp])
      have hul:=hls.len
      have hone:=J8 q2 hls
      obtain ⟨K2,L2⟩:=K1.cells (b:=b) (off:=off) hh1 (by rw [hlen]; exact hle) c1 hls (Wt (S4 hgive) hnt) (Hg q2)
      have hr:=Ik (w:=S1.w) ht ho hpt rfl (Fn hsh hnt hone) (hul.trans hlen) c1 (by omega) hone
      refine ⟨_,h,skip (by rw [← G1.w]; exact hr) K2 ?_⟩
      show Ii S1.g b off _=_
      rw [Ad,G4,← g1]
    ·cases h
   ·cases h
  |false=>
  rw [hmv,cond_false] at h
  split at h
  ·rename_i n hd hp
   cases hq:(Nat.beq n v&&Dg (ups A (Fv A (parts s)++gone y s)) ((parts s).map (Fy A))&&Nat.beq ((parts s).map (Fy A)).length ti.ty.sz&&Nat.ble (off+ti.ty.sz) hd) with
   |false=>rw [hq] at h; simp at h
   |true=>
    rw [hq,cond_true] at h
    simp only [Bool.and_eq_true] at hq
    obtain ⟨⟨⟨q1,q2⟩,q3⟩,q4⟩:=hq
    have hnv:n=v:=by simpa using q1
    have hle:off+ti.ty.sz≤hd:=Nat.le_of_ble_eq_true q4
    have hlen:((parts s).map (Fy A)).length=ti.ty.sz:=Nat.eq_of_beq_eq_true q3
    subst hnv
    have ht:=hE.ti _ _ hti
    have hnt:=Jo (X:=X) (s:=s) (by simp) hlen ht
    have hh:(S.g (H b)).2 = .one (.hd hd):=by rw [hg,hp]
    obtain ⟨S1,K1,g1,w1,b1,p1,L1,x1,heads,_,us,hsh,hls⟩:=Bma hE K hg hsy hnt 0
    have hh1:(S1.g (H b)).2 = .one (.hd hd):=by rw [(heads b).2 hd hh]; exact hh
    obtain ⟨_,c,e,c1,c2,c3,c4⟩:=K1.box b hd hh1
    have hpt:a.eval x = .pointer (some ⟨(S1.bb b).1,(S1.bb b).2+off,none⟩):=by rw [b1]; exact hlf.2 (by rw [hg,hp])
    have hul:=hls.len
    obtain ⟨hone,hnohd⟩:=Bua g1 q2 hls
    obtain ⟨K2,L2⟩:=K1.cells (b:=b) (off:=off) hh1 (by rw [hlen]; exact hle) c1 hls (Wt (by simp) hnt) hnohd
    have hr:=Ik (w:=S1.w) ht ho hpt rfl (Fn hsh hnt hone) (hul.trans hlen) c1 (by omega) hone
    refine ⟨_,h,skip (by rw [← w1]; exact hr) K2 ?_⟩
    show Ii S1.g b off _=_
    rw [Ad,G4,← g1]
  ·cases h
 ·rename_i ti p v i off s hti hsx hsy
  obtain ⟨pl,hsv⟩:=El hE K hg hsx
  have hlf:Ai X.P S (.pl pl []) (.ep p v i off) (a.eval x):=hsv
  split at h
  ·rename_i n e r' xs hp
   cases hq:(Nat.beq n v&&Fu r'&&A3 ((parts s).map (Fy A))&&Nat.beq ((parts s).map λ x=>Hh (Fy A x)).length ti.ty.sz&&Nat.ble (off+((parts s).map λ x=>Hh (Fy A x)).length) r'.sz&&Q1 p (Fv A (parts s)++gone y s)) with
   |false=>rw [hq] at h; simp at h
   |true=>
    rw [hq,cond_true] at h
    simp only [Bool.and_eq_true] at hq
    obtain ⟨⟨⟨⟨⟨q1,hno⟩,q2⟩,q3⟩,q4⟩,q5⟩:=hq
    have hnv:n=v:=by simpa using q1
    have hlen:((parts s).map λ x=>Hh (Fy A x)).length=ti.ty.sz:=Nat.eq_of_beq_eq_true q3
    have hle:off+((parts s).map λ x=>Hh (Fy A x)).length≤r'.sz:=Nat.le_of_ble_eq_true q4
    subst hnv
    split at h
    ·rename_i z hz
     have ht:=hE.ti _ _ hti
     have hnt:=Jo (X:=X) (s:=s) (by simp) hlen ht
     obtain ⟨S1,K1,g1,w1,b1,p1,L1,x1,heads,_,us,hsh,hls⟩:=Bma hE K hg hsy hnt 0
     have hul:=hls.len
     have hone:=J8 q2 hls
     have hrep:=La q2 hls
     rw [List.map_map] at hrep
     rw [List.length_map] at hul hlen hle
     obtain ⟨K2,L2⟩:=K1.names (Ws 0) (by intro n q; unfold Ws; split<;>simp)
     have L12:=L1.trans L2
     have hp2:({ S1 with O:=atO S1.O (Ws 0) }:Sit).g p=(n,.one (.own e r' xs)):=by
      show S1.g p=_
      rw [g1,U1 _ _ q5,hp]
     have hlf2:Ai X.P { S1 with O:=atO S1.O (Ws 0) } .fz (.ep p n i off) (a.eval x):=(Ai.relab (lab' := .fz) rfl hlf).later L12 (λ k hk=>L12.fz k hk)
     obtain ⟨k,_,cur,cap,e1,_,_,hi,e4,e5,e6⟩:=W5 K2 hno hp2 hlf2
     have hown:D5 X.P (atO S1.O (Ws 0)) S1.w (.pl p []) e r' xs (S1.ph p):=by
      have h0:=K2.at_ p
      rw [hp2] at h0
      exact h0
     obtain ⟨hsz,hown3⟩:=Bva (us:=us) hno hown e4 e5 e6 hi hrep hz (by omega)
     have hr:=Ik (w:=S1.w) ht ho e1 rfl (Fn hsh hnt hone) (by omega) e5 hsz hone
     have hold:∀ j,j≠k→(S1.w.setRow k (cur.toList.take (i.toNat * r'.sz+off)++us++cur.toList.drop (i.toNat * r'.sz+off+us.length)).toArray).heap[j]? = S1.w.heap[j]? := λ j hj=>setRow_other _ _ _ _ hj
     have hne:∀ j o',atO S1.O (Ws 0) j=o'→o' ≠ .pl p []→(S1.w.setRow k (cur.toList.take (i.toNat * r'.sz+off)++us++cur.toList.drop (i.toNat * r'.sz+off+us.length)).toArray).heap[j]? = S1.w.heap[j]? := λ j o' hj ho'=>hold j (λ e=>ho' (by rw [← hj,e]; exact e6))
     obtain ⟨K3,g3⟩:=K2.rewrite hno hp2 e6 hne (by simp [World.setRow]) rfl rfl rfl hown3 (by simp)
     refine ⟨_,h,skip (by rw [← w1]; exact hr) K3 ?_⟩
     rw [g3,Ad,Ji,← g1]
     show upd S1.g p _=_
     congr 1
     have:S1.g p=(n,.one (.own e r' xs)):=hp2
     rw [this]
    ·cases h
  ·cases h
 ·rename_i ti p v q e r1 xs i off s hti hsx hsy
  obtain ⟨pl,hsv⟩:=El hE K hg hsx
  obtain ⟨hd',hda,hdp⟩:Ai X.P S (.pl pl []) (.dp p v (some q) e r1 xs i off) (a.eval x):=hsv
  split at h
  ·rename_i m us hgive
   split at h
   ·rename_i n E0 R0 XS hp
    cases hq:(Nat.beq n v&&Ix m&&Nat.beq m.length ti.ty.sz&&Nat.ble (off+m.length) r1.sz&&Q1 p us&&Cs R0) with
    |false=>rw [hq] at h; simp at h
    |true=>
     rw [hq,cond_true] at h
     simp only [Bool.and_eq_true] at hq
     obtain ⟨⟨⟨⟨⟨q1,q2⟩,q3⟩,q4⟩,q5⟩,q6⟩:=hq
     have hnv:n=v:=Nat.eq_of_beq_eq_true q1
     have hlen:m.length=ti.ty.sz:=Nat.eq_of_beq_eq_true q3
     have hle:off+m.length≤r1.sz:=Nat.le_of_ble_eq_true q4
     subst hnv
     split at h
     ·rename_i z hz
      split at h
      ·rename_i XS' hput
       have ht:=hE.ti _ _ hti
       have hnt:=Jo (X:=X) (s:=s) (My hgive) hlen ht
       obtain ⟨S1,K1,g1,G1,uv,hsh,hl⟩:=Bra hE K hg hsy hnt hgive 0
       have hp0:S.g p=(n,.one (.own E0 R0 XS)):=by rw [hg,hp]
       have hp1:S1.g p=(n,.one (.own E0 R0 XS)):=by rw [g1,U1 _ _ q5,hp]
       obtain ⟨k,j,cur,e0,e1,e2,e3,K3⟩:=Z0 (u:=a.eval x) K1 hp1 (hda.later G1.later) (hdp (by rw [hp0])) q6 q2 hl (Bsa hnt (My hgive)) hz hle hput
       have hone:=J8 (Hu q2) hl
       have hul:=hl.len
       have hr:=Ik (w:=S1.w) ht ho e1 rfl (Fn hsh hnt hone) (hul.trans hlen) e2 e3 hone
       refine ⟨_,h,skip (by rw [← G1.w]; exact hr) K3 ?_⟩
       show upd S1.g p _=_
       rw [Ad,A8,← g1,hp1]
      ·cases h
     ·cases h
   ·cases h
  ·cases h
 ·cases h
end
end

section
attribute [local irreducible] C H
section
variable {X:Cx} {S S':Sit} {a:Act} {E:En} {A:Ab} {o:Oper} {R:Type} {Kc:List Up→Option R} {r:R}
theorem Lb:∀ t:Ty,(Ov t).length=t.sz
 |.i _=>rfl
 |.b=>rfl
 |.s=>rfl
 |.sl _ _=>rfl
 |.ow _ _=>rfl
 |.pr x y=>by show (Ov x++Ov y).length=x.sz+y.sz; rw [List.length_append,Lb x,Lb y]
theorem Gg:∀ t:Ty,A3 (Ov t)=true
 |.i _=>rfl
 |.b=>rfl
 |.s=>rfl
 |.sl _ _=>rfl
 |.ow _ _=>rfl
 |.pr x y=>by
  have app:∀ l m,A3 l=true→A3 m=true→A3 (l++m)=true:=by
   intro l m hl hm
   induction l with
   |nil=>exact hm
   |cons x l ih=>cases x<;>first|(simp [A3] at hl; done)|exact ih (by simpa [A3] using hl)
  exact app _ _ (Gg x) (Gg y)
theorem Lc {P:Program}:∀ (t:Ty),szB P t=true→∀ (f:Nat→Lab) (j:Nat),A5 P S f j (Ov t) (Cp t)
 |.i _,_,_,_=>⟨⟨rfl,rfl⟩,trivial⟩
 |.b,_,_,_=>⟨⟨rfl,rfl⟩,trivial⟩
 |.s,_,_,_=>⟨⟨rfl,rfl⟩,trivial⟩
 |.sl e r,h,f,j=>⟨Q6 (by simp only [szB,Bool.and_eq_true,beq_iff_eq] at h; exact h.1),trivial⟩
 |.ow e r,h,f,j=>⟨Q6 (by simp only [szB,Bool.and_eq_true,beq_iff_eq] at h; exact h.1),trivial⟩
 |.pr x y,h,f,j=>by
  simp [szB] at h
  exact A5.app (Lc x h.1 f j) (Lc y h.2 f _)
theorem Ld {P:Program} {w:World} {T:TypeId} {t:TI} (h:TOk P T t):∃ v,(zeroValue T).run P w = .ok v w∧v.cells=(Cp t.ty).toArray∧(if t.ag then v = .agg (Cp t.ty).toArray else Cp t.ty=[v]):=by
 obtain ⟨i,h1,h2,h3,h4,h5⟩:=h.info
 refine ⟨if t.ag then .agg (Cp t.ty).toArray else (Cp t.ty).headD undef,?_,?_,?_⟩
 ·simp [zeroValue,typeInfo,h1,h4]
 ·cases ha:t.ag with
  |true=>rfl
  |false=>
   rw [if_neg (by simp)]
   have h6:=h5 ha
   have hone:=J8 (S:=⟨λ _ => .no,λ _=>(0,0),λ _=>(0,.one .dead),λ _=>undef,w⟩) (Gg t.ty) (Lc t.ty h.sz (λ _ => .no) 0)
   generalize (Cp t.ty).headD undef=v at h6
   rw [h6] at hone ⊢
   have:=hone v (by simp)
   cases v<;>first|(simp [Value.oneCell'] at this; done)|rfl
 ·cases ha:t.ag with
  |true=>rfl
  |false=>exact h5 ha
theorem Bwa (K:Ae X S a) {A1:Ab} (hg:S.g=get A1) {T:TypeId} {m:List Lf} {us:List Value} {q:Nat→List Nat} {d:Nat} (hd:d<X.nt) (hl:A5 X.P S (λ j => .tm 0 (q j)) 0 m us)
  (hq:∀ j,j<m.length→Oq d 0 0 (q j)=some (.pl (C d (0+j)) [])) (hm:m.length<999) (hst:∀ k,.hd k∉m) (hnp:X.np≤d):
  ∃ S',Ae X S' (a.put (some d) (.pointer (some ⟨S.w.heap.size,0,none⟩)))∧S'.w=S.w.alloc (.cells us.toArray T)∧
   S'.g=get (ups A1 (⟨H d,false,.one (.hd m.length)⟩::B2 d 0 m++[⟨d,false,.one (.bp d ((get A1 (H d)).1+1) 0)⟩])):=by
 have hlen:=hl.len
 have hd1:d<1000:=Nat.lt_of_lt_of_le hd K.nt
 obtain ⟨K1,L1⟩:=K.grow (w':=S.w.alloc (.cells us.toArray T)) (row:=none) (O':=λ k=>if k=S.w.heap.size then .tm 1 [] else S.O k) (World.grownBy_alloc _ _ _) (by simp)
  (λ k hk _=>by show (if k=S.w.heap.size then _ else _)=_; rw [if_neg (by omega)])
  (λ k hk=>by
   show k<(S.w.heap.push _).size
   rw [Array.size_push]
   by_cases h:k=S.w.heap.size
   ·omega
   ·simp only [h,if_false] at hk
    have:=K.lt k hk
    omega)
 have hl1:A5 X.P (Oy S (S.w.alloc (.cells us.toArray T)) (λ k=>if k=S.w.heap.size then .tm 1 [] else S.O k)) (λ j => .tm 0 (q j)) 0 m us:=by
  refine hl.imp (λ j x u hx=>hx.later L1 (λ k hk=>?_))
  have hkl:k<S.w.heap.size:=K.lt k (by simp [hk])
  refine ⟨?_,heap_alloc_old _ _ _ hkl⟩
  show (if k=S.w.heap.size then _ else _)=_
  rw [if_neg (by omega)]
  exact hk
 obtain ⟨K2,L2⟩:=K1.newbox (d:=d) (k:=S.w.heap.size) (o:=0) (n0:=1) (l0:=[]) (by show (if _ then _ else _)=_; rw [if_pos rfl]) (by decide) K.fr.size (heap_alloc_new _ _) (by simp [hlen]) (by intro j hj; simp) hl1 hq hm hst hnp hd1
 have hv:((Tb (Oy S (S.w.alloc (.cells us.toArray T)) (λ k=>if k=S.w.heap.size then .tm 1 [] else S.O k)) d S.w.heap.size 0 m us).g (H d)).1=(S.g (H d)).1+1:=by
  show (Ii (upd S.g (H d) _) d 0 m (H d)).1=_
  unfold Ii
  rw [if_neg (D9 (by omega)),A7]
  rfl
 have K3:=K2.put0 hd (.one (.bp d ((S.g (H d)).1+1) 0)) (.pointer (some ⟨S.w.heap.size,0,none⟩)) 0 rfl ⟨by rw [hv]; exact Nat.le_refl _,λ _=>by
  show Value.pointer _ = .pointer (some ⟨(upd S.bb d (S.w.heap.size,0) d).1,(upd S.bb d (S.w.heap.size,0) d).2+0,none⟩)
  rw [A7]⟩
 have e1:(Tb (Oy S (S.w.alloc (.cells us.toArray T)) (λ k=>if k=S.w.heap.size then .tm 1 [] else S.O k)) d S.w.heap.size 0 m us).g=get (ups A1 (⟨H d,false,.one (.hd m.length)⟩::B2 d 0 m)):=by
  show Ii (upd S.g (H d) ((S.g (H d)).1+1,.one (.hd m.length))) d 0 m=get (ups (up A1 ⟨H d,false,.one (.hd m.length)⟩) (B2 d 0 m))
  rw [G4,Hp,← hg]
  rfl
 refine ⟨_,K3,rfl,?_⟩
 show upd (Tb (Oy S (S.w.alloc (.cells us.toArray T)) (λ k=>if k=S.w.heap.size then .tm 1 [] else S.O k)) d S.w.heap.size 0 m us).g d _=_
 rw [Ad,A8,← e1,← hg]
theorem Fha (hE:Gj X E) (K:Ae X S a) (hg:S.g=get A) {T:TypeId} {d:Nat} (ho:o.op = .alloc T) (hod:o.dst=some d) (hd:d<X.nt) (h:Aa E o A Kc=some r):Fh X o a S.w A Kc r:=by
 unfold Aa at h
 rw [ho,hod] at h
 simp only at h
 split at h
 ·rename_i ti hti
  cases hq:(Nat.blt ti.ty.sz 999&&Nat.ble E.np d) with
  |false=>rw [hq] at h; simp at h
  |true=>
   rw [hq,cond_true] at h
   simp only [Bool.and_eq_true] at hq
   have hlt:ti.ty.sz<999:=Nat.le_of_ble_eq_true hq.1
   have hnp:X.np≤d:=hE.np ▸ (Nat.le_of_ble_eq_true hq.2)
   have ht:=hE.ti _ _ hti
   obtain ⟨v,h1,h2,_⟩:=Ld (w:=S.w) ht
   obtain ⟨S',K',w',g'⟩:=Bwa K hg (T:=T) (m:=Ov ti.ty) (us:=Cp ti.ty) (q:=λ j=>[j]) hd (Lc ti.ty ht.sz _ 0) (λ j hj=>rfl) (by rw [Lb]; exact hlt) (Hg (Gg _)) hnp
   rw [Lb] at g'
   refine ⟨_,h,A9 (S:=S') (v := .pointer (some ⟨S.w.heap.size,0,none⟩)) ?_ (by rw [hod]; exact K') g'⟩
   rw [w']
   unfold execOp
   simp [ho,Instr.alloc,h1,newVar,newRow,h2]
 ·cases h
theorem Le:∀ {l:List Lf},Bm A l=true→Ct l=false
 |[],_=>rfl
 |x::l,h=>by
  have rest:Bm A l=true:=by
   cases x<;>first|(simp [Bm] at h; done)|(simp only [Bm,Bool.and_eq_true] at h; exact h.2)|simpa [Bm] using h
  cases x<;>first|(simp [Bm] at h; done)|exact Le (l:=l) rest
theorem Bxa (K:Ae X S a) (hg:S.g=get A) {f:Nat→Lab}:∀ {l:List Lf} {j:Nat} {us:List Value},Bm A l=true→A5 X.P S f j l us→(∀ u∈us,u.oneCell'=true)∧∀ k,.hd k∉l
 |[],_,[],_,_=>by simp
 |[],_,_::_,_,h=>h.elim
 |_::_,_,[],_,h=>h.elim
 |x::l,j,u::us,hst,h=>by
  have rest:Bm A l=true:=by
   cases x<;>first|(simp [Bm] at hst; done)|(simp only [Bm,Bool.and_eq_true] at hst; exact hst.2)|simpa [Bm] using hst
  obtain ⟨r1,r2⟩:=Bxa K hg rest h.2
  refine ⟨λ v hv=>?_,λ k hk=>?_⟩
  ·rcases List.mem_cons.1 hv with hv|hv
   ·rw [hv]
    have one:A3 [x]=true→u.oneCell'=true:=λ hs=>J8 (P:=X.P) (S:=S) (f:=f) (l:=[x]) (j:=j) (us:=[u]) hs ⟨h.1,trivial⟩ u (by simp)
    cases x with
    |al p v=>
     simp only [Bm,Bool.and_eq_true] at hst
     obtain ⟨lab',h4⟩:=Kg K hg h.1
     have h3:=hst.1
     split at h3
     ·rename_i hs
      rw [hs] at h4
      obtain ⟨ad,cap,e1⟩:=M3 (X:=X) h4
      rw [e1]; rfl
     ·rename_i hs
      rw [hs] at h4
      obtain ⟨ad,cap,e1⟩:=Nh (X:=X) h4
      rw [e1]; rfl
     ·cases h3
    |sc w=>exact one rfl
    |fz e r xs=>exact one rfl
    |_=>simp [Bm] at hst
   ·exact r1 v hv
  ·rcases List.mem_cons.1 hk with rfl|hk
   ·simp [Bm] at hst
   ·exact r2 k hk
theorem K5a (hE:Gj X E) (K:Ae X S a) (hg:S.g=get A) {T:TypeId} {x:Operand} {d:Nat} (ho:o.op = .box T x) (hod:o.dst=some d) (hd:d<X.nt) (h:Aa E o A Kc=some r):Fh X o a S.w A Kc r:=by
 unfold Aa at h
 rw [ho,hod] at h
 simp only at h
 split at h
 ·rename_i ti s hti hs
  cases hmv:mvO E x with
  |true=>
   rw [hmv,cond_true] at h
   cases hq:(Bm A (parts s)&&Nat.beq (parts s).length ti.ty.sz&&Nat.blt ti.ty.sz 999&&Nat.ble E.np d) with
   |false=>rw [hq] at h; simp at h
   |true=>
    rw [hq,cond_true] at h
    simp only [Bool.and_eq_true] at hq
    obtain ⟨⟨⟨q1,q2⟩,q3⟩,q4⟩:=hq
    have hnp:X.np≤d:=hE.np ▸ (Nat.le_of_ble_eq_true q4)
    have hlt:ti.ty.sz<999:=Nat.le_of_ble_eq_true q3
    have hlen:(parts s).length=ti.ty.sz:=Nat.eq_of_beq_eq_true q2
    have ht:=hE.ti _ _ hti
    have hnt:=Jo (X:=X) (s:=s) rfl hlen ht
    obtain ⟨pl,hsv⟩:=El hE K hg hs
    have hown:=Le q1
    obtain ⟨us,hsh,hls⟩:∃ us,Ms s (a.eval x) us∧A5 X.P S (λ n => .tm 0 (pth s n)) 0 (parts s) us:=by
     cases s with
     |one y=>exact ⟨[_],rfl,A5.relab (f:=λ _ => .pl pl []) (xs:=[y]) hown ⟨hsv,trivial⟩⟩
     |agg l=>
      obtain ⟨us,e1,e2⟩:=hsv
      exact ⟨us,e1,e2.relab hown⟩
     |tup vs=>exact absurd rfl (hnt vs)
    obtain ⟨hone,hnohd⟩:=Bxa K hg q1 hls
    obtain ⟨S',K',w',g'⟩:=Bwa K hg (T:=T) hd hls (Wt rfl hnt) (by rw [hlen]; exact hlt) hnohd hnp
    rw [hlen] at g'
    refine ⟨_,h,A9 (S:=S') (v := .pointer (some ⟨S.w.heap.size,0,none⟩)) ?_ (by rw [hod]; exact K') g'⟩
    rw [w']
    unfold execOp
    simp [ho,Instr.box,newVar,newRow,Fn hsh hnt hone]
  |false=>
  rw [hmv,cond_false] at h
  cases hq:(A3 ((parts s).map (Fy A))&&Nat.beq ((parts s).map (Fy A)).length ti.ty.sz&&Nat.blt ti.ty.sz 999&&Nat.ble E.np d) with
  |false=>rw [hq] at h; simp at h
  |true=>
   rw [hq,cond_true] at h
   simp only [Bool.and_eq_true] at hq
   obtain ⟨⟨⟨q1,q2⟩,q3⟩,q4⟩:=hq
   have hnp:X.np≤d:=hE.np ▸ (Nat.le_of_ble_eq_true q4)
   have hlt:ti.ty.sz<999:=Nat.le_of_ble_eq_true q3
   have hlen:((parts s).map (Fy A)).length=ti.ty.sz:=Nat.eq_of_beq_eq_true q2
   have ht:=hE.ti _ _ hti
   have hnt:=Jo (X:=X) (s:=s) (by simp) hlen ht
   obtain ⟨S1,K1,g1,w1,b1,p1,L1,x1,heads,_,us,hsh,hls⟩:=Bma hE K hg hs hnt 0
   obtain ⟨S',K',w',g'⟩:=Bwa K1 g1 (T:=T) hd hls (Wt (by simp) hnt) (by rw [hlen]; exact hlt) (Hg q1) hnp
   have hv:(get (ups A (Fv A (parts s)++gone x s)) (H d)).1=(get A (H d)).1:=by rw [← g1,← hg]; exact (heads d).1
   rw [hv,hlen,← Ad] at g'
   refine ⟨_,h,A9 (S:=S') (v := .pointer (some ⟨S1.w.heap.size,0,none⟩)) ?_ (by rw [hod]; exact K') g'⟩
   rw [w',w1]
   unfold execOp
   simp [ho,Instr.box,newVar,newRow,Fn hsh hnt (J8 q1 hls)]
 ·cases h
theorem Wu:∀ (us:List Value) (n off:Nat) (cells:Array Value),off+n+us.length≤cells.size→
  (us.zipIdx n).foldl (λ cs (x:Value×Nat)=>cs.setIfInBounds (off+x.2) x.1) cells=(cells.toList.take (off+n)++us++cells.toList.drop (off+n+us.length)).toArray
 |[],n,off,cells,h=>by simp
 |c::us,n,off,cells,h=>by
  simp only [List.length_cons] at h
  simp only [List.zipIdx_cons,List.foldl_cons]
  rw [Wu us (n+1) off _ (by simp; omega)]
  have hlt:off+n<cells.toList.length:=by rw [Array.length_toList]; omega
  congr 1
  rw [Array.toList_setIfInBounds]
  have e1:(cells.toList.set (off+n) c).take (off+(n+1))=cells.toList.take (off+n)++[c]:=by
   rw [← Nat.add_assoc,List.take_add_one,List.getElem?_set_self hlt,List.take_set_of_le (Nat.le_refl _)]
   rfl
  have e2:(cells.toList.set (off+n) c).drop (off+(n+1)+us.length)=cells.toList.drop (off+n+(c::us).length):=by
   rw [List.drop_set_of_lt (by omega)]
   congr 1
   simp only [List.length_cons]
   omega
  rw [e1,e2]
  simp
theorem Lh {place:Nat→Option (Nat×Nat)} {cells:Array Value} {i off z:Nat} {v:Value} {us:List Value} {rest:List (Nat×Value)} (hp:place i=some (off,z)) (hv:v.cells=us.toArray) (hz:us.length=z) (hle:off+z≤cells.size):
  Instr.fill place cells ((i,v)::rest)=Instr.fill place (cells.toList.take off++us++cells.toList.drop (off+z)).toArray rest:=by
 subst hz
 have hf:=Wu us 0 off cells (by omega)
 simp only [Nat.add_zero] at hf
 simp only [Instr.fill,hp,hv,List.size_toArray]
 rw [if_neg (by simp; omega)]
 congr 1
 rw [← hf]
 simp
def No (off:Nat):Nat→List Nat→Option Lab:=λ n q=>if n=1 then (match q with
 |[]=>some (.tm 0 [off])
 |[j]=>some (.tm 0 [off+j])
 |_=>none) else none
theorem Fia (off:Nat):∀ n q,No off n q≠some .no:=by
 intro n q
 unfold No
 split
 ·split<;>simp
 ·simp
theorem I8a {s:Sv} {off:Nat} {m:List Lf} (hm:m.length=(parts s).length) (hnt:∀ vs,s ≠ .tup vs):∀ j,j<m.length→No off 1 (pth s j)=some (.tm 0 [off+j]):=by
 intro j hj
 cases s with
 |one x=>
  have:j=0:=by simp [parts] at hm; omega
  subst this
  rfl
 |agg l=>rfl
 |tup vs=>exact absurd rfl (hnt vs)
theorem Bya {s:Sv} {m:List Lf} {z:Nat} (hm:m.length=(parts s).length) (h:m.length=z) (hz:0<z):∀ vs,s ≠ .tup vs:=by
 intro vs e
 subst e
 simp [parts] at hm
 simp [hm] at h
 omega
theorem Np (hE:Gj X E) {T:TypeId} {t:TI} (ht:TOk X.P T t) {fs:Array Field} (hfs:Hb X.P fs.toList t.fo=true) (places:List (Nat×Nat)) (hpl:∀ i o,nth t.fo i=some o→places[i]? = some (o.1,o.2.1)):
  ∀ (ps:List (Nat×Operand)) {S:Sit} {A:Ab} {l:List Lf} {us0:List Up} {cs:List Value} {l':List Lf} {us':List Up},Ae X S a→S.g=get A→A5 X.P S (λ j => .tm 0 [j]) 0 l cs→A3 l=true→Hy E A t l us0 ps=some (l',us')→
  ∃ S' U cs',us'=us0++U∧Ae X S' a∧S'.g=get (ups A U)∧S'.w=S.w∧A5 X.P S' (λ j => .tm 0 [j]) 0 l' cs'∧l'.length=l.length∧
   Instr.fill (places.toArray[·]?) cs.toArray (ps.map λ p=>(p.1,a.eval p.2))=some cs'.toArray
 |[],S,A,l,us0,cs,l',us',K,hg,hl,hst,h=>by
  simp only [Hy,Option.some.injEq,Prod.mk.injEq] at h
  obtain ⟨rfl,rfl⟩:=h
  exact ⟨S,[],cs,by simp,K,hg,rfl,hl,rfl,rfl⟩
 |(i,x)::ps,S,A,l,us0,cs,l',us',K,hg,hl,hst,h=>by
  simp only [Hy] at h
  split at h
  ·cases h
  ·rename_i off z ag hn
   have hpi:=hpl i _ hn
   obtain ⟨fd,_,_,_,hz0,_⟩:=Jj hfs hn
   simp only at hz0
   have hlen:=hl.len
   split at h
   ·-- the literal nil
    cases hb:Nat.beq z 1 with
    |false=>rw [hb] at h; simp at h
    |true=>
     rw [hb,cond_true] at h
     have hz1:z=1:=Nat.eq_of_beq_eq_true hb
     subst hz1
     split at h
     ·rename_i e r' hleaf
      rw [Fl] at hleaf
      have hoff:off<l.length:=(List.getElem?_eq_some_iff.1 hleaf).1
      have hl2:A5 X.P S (λ j => .tm 0 [j]) 0 l (cs.take off++[.slice none 0 0]++cs.drop (off+1)):=by
       have hsz:Oo X.P e r'.sz:=by
        obtain ⟨x',u',e1,_,_,e4⟩:=hl.at off hoff
        rw [List.getD_eq_getElem?_getD,hleaf] at e1
        simp only [Option.getD_some] at e1
        subst e1
        exact D5.top e4 |>.1
       have h1:=A5.setAll (P:=X.P) (S:=S) (f:=λ j => .tm 0 [j]) (l:=l) (us:=cs) (m:=[.own e r' []]) (ms:=[.slice none 0 0]) (off:=off) (hl.take off) ⟨Q6 hsz,trivial⟩ (by have:=hl.drop (off+1); rwa [Nat.zero_add] at this) (by simp only [List.length_singleton]; omega)
       have h2:Vf.setAll l off [.own e r' []]=l:=by
        unfold Vf.setAll
        rw [List.getElem?_eq_getElem hoff] at hleaf
        simp only [Option.some.injEq] at hleaf
        rw [← hleaf]
        simp only [List.length_singleton,List.append_assoc,List.singleton_append]
        rw [← List.drop_eq_getElem_cons hoff,List.take_append_drop]
       rw [h2] at h1
       exact h1
      obtain ⟨S',U,cs',e1,K',g',w',l1,l2,hf⟩:=Np hE ht hfs places hpl ps K hg hl2 hst h
      refine ⟨S',U,cs',e1,K',g',w',l1,l2,?_⟩
      rw [List.map_cons,Lh (us:=[.slice none 0 0]) (off:=off) (z:=1) (by simpa using hpi) rfl rfl (by simp; omega)]
      exact hf
     ·cases h
   ·split at h
    ·rename_i s hs
     cases hq:(A3 ((parts s).map (Fy A))&&Nat.beq ((parts s).map (Fy A)).length z&&Nat.ble (off+z) l.length) with
     |false=>rw [hq] at h; simp at h
     |true=>
      rw [hq,cond_true] at h
      simp only [Bool.and_eq_true] at hq
      obtain ⟨⟨q1,q2⟩,q3⟩:=hq
      have hmz:((parts s).map (Fy A)).length=z:=Nat.eq_of_beq_eq_true q2
      have hle:off+z≤l.length:=Nat.le_of_ble_eq_true q3
      have hnt:=Bya (s:=s) (by simp) hmz hz0
      obtain ⟨S1,K1,g1,w1,b1,p1,L1,x1,heads,tms,us,hsh,hls⟩:=Bma hE K hg hs hnt 1
      obtain ⟨K2,L2⟩:=K1.names (No off) (Fia off)
      have hone:=J8 q1 hls
      have hul:=hls.len
      have old:∀ j x u,Ai X.P S (.tm 0 [j]) x u→Ai X.P { S1 with O:=atO S1.O (No off) } (.tm 0 [j]) x u:=λ j x u hx=>
       (tms 0 [j] x u hx).later L2 (λ k hk=>⟨Hq hk (by simp [No]),rfl⟩)
      have hl2:=A5.setAll (P:=X.P) (S := { S1 with O:=atO S1.O (No off) }) (f:=λ j => .tm 0 [j]) (l:=l) (us:=cs) (m:=(parts s).map (Fy A)) (ms:=us) (off:=off)
       ((hl.take off).imp (λ j x u hx=>old j x u hx))
       (by
        have h1:A5 X.P { S1 with O:=atO S1.O (No off) } (λ j => .tm 0 [off+j]) 0 ((parts s).map (Fy A)) us:=by
         refine A5.impAt (λ n _ n2 x u hx=>?_) hls
         exact hx.later L2 (λ k hk=>⟨Fw hk (I8a (m:=(parts s).map (Fy A)) (by simp) hnt n (by omega)),rfl⟩)
        have shiftBack:∀ (m:List Lf) (us:List Value) (i:Nat),A5 X.P { S1 with O:=atO S1.O (No off) } (λ j => .tm 0 [off+j]) i m us→A5 X.P { S1 with O:=atO S1.O (No off) } (λ j => .tm 0 [j]) (off+i) m us:=by
         intro m
         induction m with
         |nil=>intro us i h; cases us<;>first|trivial|exact h.elim
         |cons x m ih=>
          intro us i h
          cases us with
          |nil=>exact h.elim
          |cons u us=>exact ⟨h.1,ih us (i+1) h.2⟩
        exact shiftBack _ _ 0 h1)
       (by
        have:=(hl.drop (off+((parts s).map (Fy A)).length)).imp (S' := { S1 with O:=atO S1.O (No off) }) (f':=λ j => .tm 0 [j]) (λ j x u hx=>old j x u hx)
        rwa [Nat.zero_add] at this) (by rw [hmz]; exact hle)
      have hst2:A3 (Vf.setAll l off ((parts s).map (Fy A)))=true:=by
       have tk:∀ (l:List Lf) n,A3 l=true→A3 (l.take n)=true:=by
        intro l
        induction l with
        |nil=>intro n _; cases n<;>rfl
        |cons x l ih=>
         intro n h
         cases n with
         |zero=>rfl
         |succ n=>cases x<;>first|(simp [A3] at h; done)|exact ih n (by simpa [A3] using h)
       have dr:∀ (l:List Lf) n,A3 l=true→A3 (l.drop n)=true:=by
        intro l
        induction l with
        |nil=>intro n _; cases n<;>rfl
        |cons x l ih=>
         intro n h
         cases n with
         |zero=>exact h
         |succ n=>cases x<;>first|(simp [A3] at h; done)|exact ih n (by simpa [A3] using h)
       have app:∀ l m,A3 l=true→A3 m=true→A3 (l++m)=true:=by
        intro l m hl hm
        induction l with
        |nil=>exact hm
        |cons x l ih=>cases x<;>first|(simp [A3] at hl; done)|exact ih (by simpa [A3] using hl)
       exact app _ _ (app _ _ (tk _ _ hst) q1) (dr _ _ hst)
      obtain ⟨S',U,cs',e1,K',g',w',l1,l2,hf⟩:=Np hE ht hfs places hpl ps K2 g1 hl2 hst2 h
      refine ⟨S',(Fv A (parts s)++gone x s)++U,cs',by rw [e1,List.append_assoc],K',by rw [Ad]; exact g',w'.trans w1,l1,l2.trans ?_,?_⟩
      ·unfold Vf.setAll
       simp only [List.length_append,List.length_take,List.length_drop]
       omega
      ·rw [List.map_cons,Lh (us:=us) (off:=off) (z:=z) (by simpa using hpi) (Fn hsh hnt hone) (hul.trans hmz) (by simp; omega)]
       rw [hmz] at hf
       exact hf
    ·cases h
theorem Pc {P:Program} {w:World}:∀ (fs:List Field) (os:List (Nat×Nat×Bool)),Hb P fs os=true→(fs.mapM (λ f=>do pure (f.offset,← sizeOf f.type):Field→Sem (Nat×Nat))).run P w = .ok (os.map λ o=>(o.1,o.2.1)) w
 |[],[],_=>rfl
 |[],_::_,h=>by simp [Hb] at h
 |_::_,[],h=>by simp [Hb] at h
 |f::fs,o::os,h=>by
  simp only [Hb,Bool.and_eq_true] at h
  obtain ⟨⟨⟨⟨⟨h1,h2⟩,_⟩,_⟩,_⟩,h5⟩:=h
  have e1:f.offset=o.1:=by simpa using h1
  have e2:(P.info? f.type).map (λ i=>i.size)=some o.2.1:=by simpa using h2
  rw [List.mapM_cons]
  simp only [Sem.run_bind,Gf e2,Result.andThen_ok,Sem.run_pure,Pc fs os h5,e1,List.map_cons]
theorem Fja (hE:Gj X E) (K:Ae X S a) (hg:S.g=get A) {T:TypeId} {ps:Array (Nat×Operand)} {d:Nat} (ho:o.op = .build T ps) (hod:o.dst=some d) (hd:d<X.nt) (h:Aa E o A Kc=some r):Fh X o a S.w A Kc r:=by
 unfold Aa at h
 rw [ho,hod] at h
 simp only at h
 split at h
 ·rename_i ti hti
  split at h
  ·rename_i l us hb
   cases hag:ti.ag with
   |false=>rw [hag] at h; simp at h
   |true=>
    rw [hag,cond_true] at h
    have ht:=hE.ti _ _ hti
    obtain ⟨fs,hu,hfs⟩:=Ni ht hag
    obtain ⟨v,z1,z2,z3⟩:=Ld (w:=S.w) ht
    obtain ⟨S1,U,cs',e1,K1,g1,w1,l1,_,hf⟩:=Np hE ht hfs (ti.fo.map λ o=>(o.1,o.2.1)) (λ i o' hi=>by rw [Fl] at hi; rw [List.getElem?_map,hi]; rfl) ps.toList K hg (Lc ti.ty ht.sz (λ j => .tm 0 [j]) 0) (Gg _) hb
    simp only [List.nil_append] at e1
    subst e1
    let hh:Nat→List Nat→Option Lab:=λ n q=>if n=0 then some (.pl d q) else none
    have L2:=Df S1 hh d (.agg l) (.agg cs'.toArray)
    have hsv:G6 X.P (He S1 hh d (.agg l) (.agg cs'.toArray)) d (.agg l) (.agg cs'.toArray):=⟨cs',rfl,l1.imp (λ j x u hx=>hx.later L2 (λ k hk=>⟨Fw hk (by simp [hh]),rfl⟩))⟩
    have K2:=K1.put hd hh (by intro n q p hp; simp only [hh] at hp; split at hp<;>first|(cases hp; exact ⟨q,rfl⟩)|cases hp) _ _ hsv
    refine ⟨_,h,A9 (S:=He S1 hh d (.agg l) (.agg cs'.toArray)) ?_ (by rw [hod]; exact K2) ?_⟩
    ·show _=Result.ok _ S1.w
     rw [w1]
     unfold execOp
     simp only [ho,Sem.run_bind]
     unfold Instr.build
     simp only [Sem.run_bind,z1,Result.andThen_ok,run_underlying hu,z2]
     have hm:=Pc (P:=X.P) (w:=S.w) fs.toList ti.fo hfs
     have hm2:(fs.mapM (λ f=>do pure (f.offset,← sizeOf f.type):Field→Sem (Nat×Nat))).run X.P S.w = .ok (ti.fo.map λ o=>(o.1,o.2.1)).toArray S.w:=by
      rw [Array.mapM_eq_mapM_toList,Sem.run_map,hm]
      rfl
     simp only [Sem.run_bind,Sem.run_pure] at hm2 ⊢
     rw [hm2]
     simp only [Result.andThen_ok]
     have e2:(ps.map λ x=>(x.1,a.eval x.2)).toList=ps.toList.map λ p=>(p.1,a.eval p.2):=by simp
     rw [e2,hf]
     rfl
    ·show upd S1.g d _=_
     rw [Ad,A8,← g1]
  ·cases h
 ·cases h
end
end

end Go.Proofs.Ytlfoljnopndpeaa.Vf
