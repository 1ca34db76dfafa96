import Derived.Test.YtlfoljnopndpeaaGreatMah
set_option linter.unusedVariables false
set_option linter.unusedSimpArgs false
namespace Go.Proofs.YtlfoljnopndpeaaGreat.Vf
open Go

section
attribute [local irreducible] C H
section
variable {X:Cx} {S S1 S2:Sit} {a:Act} {E:En} {A:Ab}
theorem Hva {l0:List Lf} (K:Ah X S a) (hg:S.g=get A) (K1:Ah X S1 a) (E1:Tg X S S1) (P1:∀ p v,Lf.al p v∈l0→∀ n e r,∀ xs:List (Ty.den r),get A p=(n,.one (.own e r xs))→n=v→S1.g p=(n,.one (.fz e r xs)))
  (f:Nat→Lab) (hf:∀ n k,S.O k=f n→S1.O k=f n):∀ (l:List Lf),(∀ x∈l,x∈l0)→∀ j us,A5 X.P S f j l us→A5 X.P S1 f j (l.map (Jy A)) us
 |[],_,_,[],_=>trivial
 |[],_,_,_::_,h=>h.elim
 |_::_,_,_,[],h=>h.elim
 |x::l,hm,j,u::us,h=>by
  refine ⟨?_,Hva K hg K1 E1 P1 f hf l (λ z hz=>hm z (List.mem_cons_of_mem _ hz)) (j+1) us h.2⟩
  have h1:Al X.P S (f j) x u:=h.1
  cases x with
  |al p v=>
   show Al X.P S1 (f j) (Lx (Ky A (.al p v))) u
   simp only [Ky]
   split
   ·rename_i n e r' xs hp
    cases hb:Nat.beq n v with
    |false=>exact trivial
    |true=>
     have hnv:n=v:=by simpa using hb
     subst hnv
     rw [cond_true]
     show Al X.P S1 (f j) (.fz e r' xs) u
     have h2:=P1 p n (hm _ (by simp)) n e r' xs hp rfl
     have h3:=K1.at_ p
     rw [h2,E1.ph,← h1.2 (by rw [hg,hp])] at h3
     exact Al.relab (lab := .pl p []) rfl h3
   ·rename_i n e r' xs hp
    cases hb:Nat.beq n v with
    |false=>exact trivial
    |true=>
     have hnv:n=v:=by simpa using hb
     subst hnv
     rw [cond_true]
     show Al X.P S1 (f j) (.fz e r' xs) u
     have h3:=K.at_ p
     rw [hg,hp,← h1.2 (by rw [hg,hp])] at h3
     have h4:Al X.P S (.pl p []) (.fz e r' xs) u:=h3
     exact (Al.relab (lab':=f j) rfl h4).later E1.later (λ k hk=>⟨hf j k hk,by rw [E1.w]⟩)
   ·exact trivial
  |_=>exact h1.later E1.later (λ k hk=>⟨hf j k hk,by rw [E1.w]⟩)
theorem Qn:∀ l:List Lf,Ev l=false→Ev (l.map (Jy A))=false
 |[],_=>rfl
 |x::l,h=>by
  have hc:∀ z:Lf,Ev (Lx z::l.map (Jy A))=Ev (l.map (Jy A)):=by intro z; cases z<;>rfl
  cases x with
  |own e r xs=>simp [Ev] at h
  |opn e r xs i b v=>simp [Ev] at h
  |al p v=>rw [List.map_cons]; exact (hc _).trans (Qn l (by simpa [Ev] using h))
  |_=>exact Qn l (by simpa [Ev] using h)
theorem Nr {P:Program} {S:Sit} {f:Nat→Lab}:∀ {l:List Lf} {j:Nat} {us:List Value},A3 l=true→Ev l=false→A5 P S f j l us→Lk (Km P (λ k=>S.O k = .fz) S.w) l us
 |[],_,[],_,_,_ => .nil
 |[],_,_::_,_,_,h=>h.elim
 |_::_,_,[],_,_,h=>h.elim
 |x::l,j,u::us,hs,ho,h=>by
  cases x with
  |sc v=>exact .cons h.1 (Nr (by simpa [A3] using hs) (by simpa [Ev] using ho) h.2)
  |fz e r xs=>exact .cons h.1 (Nr (by simpa [A3] using hs) (by simpa [Ev] using ho) h.2)
  |own e r xs=>simp [Ev] at ho
  |_=>simp [A3] at hs
theorem Osa (hE:Ks X E) (K:Ah X S a) (hg:S.g=get A) {x:Nat} (hx:Nat.blt x E.nt=true) {k:RK} {t:Ty} {l:List Lf} {us:List Up} (i:Nat) (hk:k ≠ .ptr) (h:Aza E.np A k t (.tmp x) (get A x).2=some (l,us)) {y:t.den} (hy:mkW t l=some y):
  ∃ S',Ah X S' a∧S'.g=get (ups A us)∧G9 X S S' (λ n _=>n=i)∧
   ∃ vs,(if Qu k then a.eval (.tmp x) = .agg vs.toArray else vs=[a.eval (.tmp x)])∧A5 X.P S' (λ n => .tm i (if Qu k then [n] else [])) 0 (A4 t y) vs:=by
 have hop:opT E 0 A (.tmp x)=some (get A x).2:=by show (bif Nat.blt x E.nt then some (get A x).2 else none)=_; rw [hx]; rfl
 have h':(bif Jz (Qu k) (get A x).2 then Q7 A (.tmp x) (get A x).2 t else none)=some (l,us):=by
  unfold Aza at h
  cases k<;>first|exact h|exact absurd rfl hk
 cases hq:Jz (Qu k) (get A x).2 with
 |false=>rw [hq] at h'; simp at h'
 |true=>
  rw [hq,cond_true] at h'
  obtain ⟨S1,K1,g1,G,h2,_,vs,hsh,hl⟩:=Cwa hE K hg (.inl hop) (Hea hq) h' i
  have hp:=Hja hq
  simp only [hp] at hl
  exact ⟨S1,K1,g1,G,vs,U0 hq hsh,Od (U4 h') hy hl⟩
theorem Ah.unbox (K:Ah X S a) (hb0:∀ k b,X.O0 k = .bx b→b<X.np∨1500≤b) {b n:Nat} (hh:(S.g (H b)).2 = .one (.hd n)) (hnp:X.np≤b) (hb1:b<1000) (j:Nat):
  Ah X { S with O:=λ k=>if k=(S.bb b).1 then .tm j [] else S.O k,g:=upd S.g (H b) ((S.g (H b)).1+1,.one .dead) } a∧
  Es S { S with O:=λ k=>if k=(S.bb b).1 then .tm j [] else S.O k,g:=upd S.g (H b) ((S.g (H b)).1+1,.one .dead) }:=by
 obtain ⟨hn,c,e,e1,e2,e3,e4⟩:=K.box b n hh
 have hnew:X.w0.heap.size≤(S.bb b).1:=by
  rcases Nat.lt_or_ge (S.bb b).1 X.w0.heap.size with h|h
  ·have:=hb0 _ _ ((K.rgn b n hh).1 (by omega) h).1
   omega
  ·exact h
 have keep:∀ k o,S.O k=o→o ≠ .bx b→(if k=(S.bb b).1 then Lab.tm j [] else S.O k)=o:=λ k o' h ho=>by
  rw [if_neg (λ e=>ho (by rw [← h,e,e2]))]
  exact h
 have hbk:∀ b' n',b'≠b→(S.g (H b')).2 = .one (.hd n')→(S.bb b').1≠(S.bb b).1:=λ b' n' hne hb' e5=>by
  obtain ⟨_,_,_,_,g4,_⟩:=K.box b' n' hb'
  rw [e5,e2] at g4
  simp only [Lab.bx.injEq] at g4
  exact hne g4.symm
 have gne:∀ p,p≠H b→({ S with O:=λ k=>if k=(S.bb b).1 then .tm j [] else S.O k,g:=upd S.g (H b) ((S.g (H b)).1+1,.one .dead) }:Sit).g p=S.g p:=λ p h=>Ad _ _ h
 have gsm:({ S with O:=λ k=>if k=(S.bb b).1 then .tm j [] else S.O k,g:=upd S.g (H b) ((S.g (H b)).1+1,.one .dead) }:Sit).g (H b)=((S.g (H b)).1+1,.one .dead):=A6 _ _ _
 have L:Es S { S with O:=λ k=>if k=(S.bb b).1 then .tm j [] else S.O k,g:=upd S.g (H b) ((S.g (H b)).1+1,.one .dead) }:=by
  refine ⟨λ p=>?_,λ _ _=>rfl,λ p v e r xs' hp hv=>?_,λ _ _=>rfl,λ k hk=>⟨keep k _ hk (by simp),rfl⟩,λ b' n' hv hb' hO=>?_,λ p hv hd=>?_⟩
  ·by_cases h:p=H b
   ·subst h; rw [gsm]; exact Nat.le_succ _
   ·rw [gne p h]; exact Nat.le_refl _
  ·by_cases h:p=H b
   ·subst h; rw [gsm] at hp; cases hp
   ·rw [gne p h] at hp; exact ⟨xs',hp,rfl⟩
  ·have hne:b'≠b:=λ e=>by subst e; rw [gsm] at hv; simp at hv
   refine ⟨by rw [gne _ (λ e=>hne (Uv e))]; exact hb',?_,λ c e f h=>⟨c,h,rfl,λ _ _=>rfl⟩⟩
   show (if (S.bb b').1=(S.bb b).1 then Lab.tm j [] else S.O (S.bb b').1)=_
   rw [if_neg (hbk b' n' hne hb')]
   exact hO
  ·have h:p≠H b:=λ e=>by subst e; rw [hh] at hd; simp [B1a,Kja] at hd
   rw [gne p h]
   exact ⟨hd,λ _ _ _ h=>h,λ k hk=>⟨.inl (keep k _ hk (by simp)),rfl⟩⟩
 have F:=K.fr
 have hd:∀ b' n',(({ S with O:=λ k=>if k=(S.bb b).1 then .tm j [] else S.O k,g:=upd S.g (H b) ((S.g (H b)).1+1,.one .dead) }:Sit).g (H b')).2 = .one (.hd n')→b'≠b∧(S.g (H b')).2 = .one (.hd n'):=λ b' n' hb'=>by
  have hne:b'≠b:=λ e=>by subst e; rw [gsm] at hb'; cases hb'
  exact ⟨hne,by rw [gne _ (λ e=>hne (Uv e))] at hb'; exact hb'⟩
 refine ⟨⟨K.nt,λ k hk=>?_,λ l=>?_,λ b' n' hb'=>?_,λ b' n' hb'=>K.rgn b' n' (hd b' n' hb').2,K.sl,K.sz,K.df,⟨F.os,F.tape,F.out,F.size,λ k hk h0=>?_,λ k hk h0=>?_,λ k b' hk h0=>?_⟩⟩,L⟩
 ·by_cases h:k=(S.bb b).1
  ·exact K.lt k (by rw [h,e2]; simp)
  ·have hk':(if k=(S.bb b).1 then Lab.tm j [] else S.O k) ≠ .no:=hk
   rw [if_neg h] at hk'
   exact K.lt k hk'
 ·by_cases h:l=H b
  ·subst h; rw [gsm]; trivial
  ·rw [gne l h]
   exact (K.at_ l).later L (λ p k hk=>⟨keep k _ hk (by simp),rfl⟩)
 ·obtain ⟨hne,hb2⟩:=hd b' n' hb'
  obtain ⟨g1,c1,g2,g3,g4,g5,g6⟩:=K.box b' n' hb2
  exact ⟨g1,c1,g2,g3,keep _ _ g4 (by simp [hne]),g5,g6⟩
 ·obtain ⟨f1,f2⟩:=F.no k hk h0
  exact ⟨keep k _ f1 (by simp),f2⟩
 ·obtain ⟨f1,f2⟩:=F.fz k hk h0
  exact ⟨keep k _ f1 (by simp),f2⟩
 ·obtain ⟨f1,rest⟩:=F.bx k b' hk h0
  refine ⟨?_,rest⟩
  show (if k=(S.bb b).1 then Lab.tm j [] else S.O k)=_
  rw [if_neg (by omega)]
  exact f1
theorem Ota (hE:Ks X E) (K:Ah X S a) (hg:S.g=get A) (hb0:∀ k b,X.O0 k = .bx b→b<X.np∨1500≤b) {x:Nat} (hx:Nat.blt x E.nt=true) {t:Ty} {l:List Lf} {us:List Up} (i:Nat) (h:Aza E.np A .ptr t (.tmp x) (get A x).2=some (l,us)) {y:t.den} (hy:mkW t l=some y):
  ∃ S',Ah X S' a∧S'.g=get (ups A us)∧S'.w=S.w∧Es S S'∧(∀ n q z v,Al X.P S (.tm n q) z v→Al X.P S' (.tm n q) z v)∧(∀ n q k,S.O k = .tm n q→S'.O k = .tm n q)∧Nq X.P S' X.w0.heap.size i .ptr (A4 t y) (a.eval (.tmp x)):=by
 have hop:opT E 0 A (.tmp x)=some (get A x).2:=by show (bif Nat.blt x E.nt then some (get A x).2 else none)=_; rw [hx]; rfl
 unfold Aza at h
 simp only at h
 split at h
 ·rename_i b v hs
  rw [hs] at hop
  split at h
  ·rename_i n m hp
   cases hq:(Nat.beq n v&&(Nat.ble E.np b&&Nat.blt b 1000)&&Js t&&Nat.beq m t.sz&&Nat.blt m 999&&A3 ((cellsOf A b 0 m).map (Jy A))) with
   |false=>rw [hq] at h; simp at h
   |true=>
    rw [hq] at h
    simp only [cond_true,Option.some.injEq,Prod.mk.injEq] at h
    obtain ⟨rfl,rfl⟩:=h
    simp only [Bool.and_eq_true] at hq
    obtain ⟨⟨⟨⟨⟨q1,q2,q7⟩,q3⟩,q4⟩,q5⟩,q6⟩:=hq
    have hnv:n=v:=by simpa using q1
    have hm:m=t.sz:=Nat.eq_of_beq_eq_true q4
    have hlt:m<999:=Nat.le_of_ble_eq_true q5
    have hnp:X.np≤b:=hE.np ▸ (Nat.le_of_ble_eq_true q2)
    have hb1:b<1000:=Nat.le_of_ble_eq_true q7
    subst hnv
    obtain ⟨pl,hl⟩:=Ii hE K hg hop
    have hlf:Al X.P S (.pl pl []) (.bp b n 0) (a.eval (.tmp x)):=hl
    have hu:=hlf.2 (by rw [hg,hp])
    obtain ⟨S1,K1,g1,E1,F1,P1⟩:=V2 (X:=X) (a:=a) (A:=A) (cellsOf A b 0 m) K hg (λ p => .inl rfl)
    obtain ⟨c1,c2,c3⟩:=O7 K hg b m 0
    have hkept:=Hva K hg K1 E1 P1 (λ _ => .fz) (λ n k hk=>(E1.later.fz k hk).1) (cellsOf A b 0 m) (λ _ h=>h) 0 _ (c3 (λ _ => .fz) 0)
    have hrep:=Nr q6 (Qn _ c2) hkept
    have hh:(S.g (H b)).2 = .one (.hd m):=by rw [hg,hp]
    have hh1:(S1.g (H b)).2 = .one (.hd m):=by
     rcases F1 (H b) with h1|⟨n',e,r',xs,h1,h2⟩
     ·rw [h1,hp]
     ·rw [hp] at h1; cases h1
    obtain ⟨_,c,e,e1,e2,e3,e4⟩:=K1.box b m hh1
    have hnew:X.w0.heap.size≤(S1.bb b).1:=by
     rcases Nat.lt_or_ge (S1.bb b).1 X.w0.heap.size with h|h
     ·have:=hb0 _ _ ((K1.rgn b m hh1).1 (by omega) h).1
      omega
     ·exact h
    obtain ⟨K2,L2⟩:=K1.unbox hb0 hh1 hnp hb1 (i+500)
    have hll:(A4 t y).length=m:=by rw [I1,hm]
    have htm:∀ n q k,S1.O k = .tm n q→(if k=(S1.bb b).1 then Lab.tm (i+500) [] else S1.O k) = .tm n q:=λ n q k hk=>by
     rw [if_neg (λ e=>by rw [e,e2] at hk; cases hk)]
     exact hk
    refine ⟨_,K2,?_,E1.w,E1.later.trans L2,λ n q z v hz=>(hz.later E1.later (λ k hk=>⟨E1.tm n q k hk,by rw [E1.w]⟩)).later L2 (λ k hk=>⟨htm n q k hk,rfl⟩),λ n q k hk=>htm n q k (E1.tm n q k hk),(S1.bb b).1,(S1.bb b).2,c,e,(List.range m).map (λ j=>S.ph (C b (0+j))),?_,e1,hnew,if_pos rfl,by rw [hll]; exact e3,by rw [hll]; exact hlt,λ j hj=>?_,?_⟩
    ·show upd S1.g (H b) _=_
     rw [Af]
     show _=get (up (ups A (Jt A (cellsOf A b 0 m))) ⟨H b,false,.one .dead⟩)
     rw [M5,← g1]
     rfl
    ·rw [E1.bb]; exact hu
    ·rw [hll] at hj
     rw [e4 j hj,E1.ph]
     simp [hj]
    ·exact U1 (G:=λ k=>S1.O k = .fz) (λ k hk=>(L2.fz k hk).1) hy q3 hrep _ _
  ·cases h
 ·cases h
end
end

section
attribute [local irreducible] C H
theorem Bia {P:Program} {w:World} {T:TypeId} {t:TI} {k o':Nat} {cs:List Value} (ht:TOk P T t) (ha:t.ag=true) (hc:Ei w k o' cs) (hl:cs.length=t.ty.sz):
  (loadVar T ⟨k,o',none⟩).run P w = .ok (.agg cs.toArray) w:=by
 obtain ⟨d,hd,hagg⟩:=B7a ht
 rw [ha] at hagg
 have hc':∀ j v,cs[j]? = some v→w.cell? (Addr.add ⟨k,o',none⟩ j)=some v:=λ j v hj=>by rw [Lv]; exact hc j v hj
 have hlc:=run_loadCells_list (P:=P) w ⟨k,o',none⟩ cs hc'
 simp only [Sem.run_bind,Sem.run_pure,Result.andThen_ok,loadVar,Mx hd hagg,if_true,Ko (O6 ht),← hl,hlc]
def Ns (a:Act):ResultVar→Sem Value
 |.tmp t=>pure (a.tmps.getD t undef)
 |.cell x t=>do loadVar t (← asAddr (a.tmps.getD x undef))
section
variable {X:Cx} {S S1 S2:Sit} {a:Act} {E:En} {A:Ab}
theorem Lda (hE:Ks X E) (K:Ah X S a) (hg:S.g=get A) {x:Nat} (hx:Nat.blt x E.nt=true) {T:TypeId} {ti:TI} (hT:E.ti T=some ti) (hag:ti.ag=true) {t:Ty} (hsz:ti.ty.sz=t.sz) {l:List Lf} {us:List Up} (i:Nat)
  (h:B0a A t (get A x).2=some (l,us)) {y:t.den} (hy:mkW t l=some y):
  ∃ S',Ah X S' a∧S'.g=get (ups A us)∧G9 X S S' (λ n _=>n=i)∧
   ∃ vs,(Ns a (.cell x T)).run X.P S.w = .ok (.agg vs.toArray) S.w∧A5 X.P S' (λ n => .tm i [n]) 0 (A4 t y) vs:=by
 have hop:opT E 0 A (.tmp x)=some (get A x).2:=by show (bif Nat.blt x E.nt then some (get A x).2 else none)=_; rw [hx]; rfl
 unfold B0a at h
 split at h
 ·rename_i b v hs
  rw [hs] at hop
  obtain ⟨pl,hl⟩:=Ii hE K hg hop
  have hlf:Al X.P S (.pl pl []) (.bp b v 0) (a.eval (.tmp x)):=hl
  obtain ⟨g1,g2,_,_,g5,S1,K1,g6,G,hls⟩:=Rg K hg h i
  have hu:=hlf.2 g1
  obtain ⟨hm9,c,e,e1,e2,e3,e4⟩:=K.box b _ g2
  have hcells:Ei S.w (S.bb b).1 (S.bb b).2 ((List.range t.sz).map λ i=>S.ph (C b (0+i))):=by
   intro j u hj
   have hj':j<t.sz:=by
    have:=(List.getElem?_eq_some_iff.1 hj).1
    simpa using this
   have:u=S.ph (C b j):=by simpa [hj'] using hj.symm
   rw [this]
   simp [World.cell?,e1,e4 j hj']
  have hrun:(Ns a (.cell x T)).run X.P S.w = .ok (.agg ((List.range t.sz).map λ i=>S.ph (C b (0+i))).toArray) S.w:=by
   have hu':a.tmps.getD x undef = .pointer (some ⟨(S.bb b).1,(S.bb b).2+0,none⟩):=hu
   unfold Ns
   simp only [hu',asAddr,Sem.run_bind,Sem.run_pure,Result.andThen_ok,Nat.add_zero]
   exact Bia (hE.ti T ti hT) hag hcells (by rw [hsz]; simp)
  exact ⟨S1,K1,g6,G,_,hrun,Od (Qk h) hy hls⟩
 ·cases h
def Kp (i n:Nat):Prop:=n<i∨500≤n
theorem Nq.keep {P:Program} {n0 i:Nat} {k:RK} {l:List Lf} {u:Value} (hw:S2.w=S1.w) (hi:∀ q z v,Al P S1 (.tm i q) z v→Al P S2 (.tm i q) z v) (ho:∀ q k,S1.O k = .tm (i+500) q→S2.O k = .tm (i+500) q) (h:Nq P S1 n0 i k l u):Nq P S2 n0 i k l u:=by
 cases k with
 |one=>exact A5.impM (λ x hx n u h=>hi _ _ u h) h
 |agg=>
  obtain ⟨us,e,h⟩:=h
  exact ⟨us,e,h.impM (λ x hx n u h=>hi _ _ u h)⟩
 |ptr=>
  obtain ⟨k,o,c,e,us,h1,h2,h3,h4,h5,h6,h7,h8⟩:=h
  exact ⟨k,o,c,e,us,h1,by rw [hw]; exact h2,h3,ho _ _ h4,h5,h6,h7,h8.impM (λ x hx n u h=>hi _ _ u h)⟩
theorem Hwa (hE:Ks X E) (hb0:∀ k b,X.O0 k = .bx b→b<X.np∨1500≤b):∀ (rs:List (RK×Ty)) (rv:List ResultVar) {S:Sit} {A:Ab} {ls ls':List (List Lf)} {us:List Up} (i:Nat),Ah X S a→S.g=get A→i+rs.length<500→Rs E A rs rv=some (ls,us)→Mk (rs.map Prod.snd) ls ls'→
  ∃ S' vs,Ah X S' a∧S'.g=get (ups A us)∧S'.w=S.w∧Es S S'∧(∀ n q z v,Kp i n→Al X.P S (.tm n q) z v→Al X.P S' (.tm n q) z v)∧(∀ n q k,Kp i n→S.O k = .tm n q→S'.O k = .tm n q)∧L5 X.P S' X.w0.heap.size i rs ls' vs∧Lk (λ r v=>(Ns a r).run X.P S.w = .ok v S.w) rv vs
 |[],[],S,A,ls,ls',us,i,K,hg,_,h,hm=>by
  simp only [Rs,Option.some.injEq,Prod.mk.injEq] at h
  obtain ⟨rfl,rfl⟩:=h
  refine ⟨S,[],K,hg,rfl,.refl S,λ _ _ _ _ _ h=>h,λ _ _ _ _ h=>h,?_,.nil⟩
  cases ls' with
  |nil=>rfl
  |cons=>exact hm.elim
 |[],_::_,S,A,ls,ls',us,i,K,hg,_,h,hm=>by simp [Rs] at h
 |(k,t)::ks,[],S,A,ls,ls',us,i,K,hg,_,h,hm=>by cases k<;>simp [Rs] at h
 |(k,t)::ks,r::rs,S,A,ls,ls',us,i,K,hg,hi,h,hm=>by
  simp only [List.length_cons] at hi
  have rest:∀ {l:List Lf} {u:List Up} {ls2:List (List Lf)} {us2:List Up} {S1:Sit} {y:t.den} {v:Value},mkW t l=some y→Ah X S1 a→S1.g=get (ups A u)→S1.w=S.w→Es S S1→(∀ n q z v,n≠i→Al X.P S (.tm n q) z v→Al X.P S1 (.tm n q) z v)→(∀ n q k,n≠i→S.O k = .tm n q→S1.O k = .tm n q)→
    Nq X.P S1 X.w0.heap.size i k (A4 t y) v→(Ns a r).run X.P S.w = .ok v S.w→Rs E (ups A u) ks rs=some (ls2,us2)→(∃ ls2',ls'=A4 t y::ls2'∧Mk (ks.map Prod.snd) ls2 ls2')→us=u++us2→
    ∃ S' vs,Ah X S' a∧S'.g=get (ups A us)∧S'.w=S.w∧Es S S'∧(∀ n q z v,Kp i n→Al X.P S (.tm n q) z v→Al X.P S' (.tm n q) z v)∧(∀ n q k,Kp i n→S.O k = .tm n q→S'.O k = .tm n q)∧L5 X.P S' X.w0.heap.size i ((k,t)::ks) ls' vs∧Lk (λ r v=>(Ns a r).run X.P S.w = .ok v S.w) (r::rs) vs:=by
   intro l u ls2 us2 S1 y v hy K1 g1 w1 L1 t1 o1 hres hrun hr2 hmk hus
   obtain ⟨ls2',rfl,hmk⟩:=hmk
   subst hus
   obtain ⟨S',vs,K',g',w',L',t',o',hall,hruns⟩:=Hwa hE hb0 ks rs (i+1) K1 g1 (by omega) hr2 hmk
   have hk1:∀ n,Kp i n→Kp (i+1) n∧n≠i:=λ n h=>by unfold Kp at *; omega
   refine ⟨S',v::vs,K',by rw [Af]; exact g',w'.trans w1,L1.trans L',λ n q z v hn hz=>t' n q z v (hk1 n hn).1 (t1 n q z v (hk1 n hn).2 hz),λ n q k hn hk=>o' n q k (hk1 n hn).1 (o1 n q k (hk1 n hn).2 hk),⟨hres.keep w' (λ q z v=>t' i q z v (by unfold Kp; omega)) (λ q k=>o' _ q k (by unfold Kp; omega)),hall⟩,.cons hrun ?_⟩
   rw [w1] at hruns
   exact hruns
  cases ls' with
  |nil=>cases ls<;>exact hm.elim
  |cons l' ls2'=>
   cases ls with
   |nil=>exact hm.elim
   |cons l ls2=>
    obtain ⟨⟨y,hy,rfl⟩,hmk⟩:=hm
    cases r with
    |tmp x=>
     have h':(bif Nat.blt x E.nt then (match Aza E.np A k t (.tmp x) (get A x).2 with
      |some (l,u)=>(match Rs E (ups A u) ks rs with
       |some (ls,us)=>some (l::ls,u++us)
       |none=>none)
      |none=>none) else none)=some (l::ls2,us):=by
      unfold Rs at h
      cases k<;>exact h
     cases hx:Nat.blt x E.nt with
     |false=>rw [hx] at h'; simp at h'
     |true=>
      rw [hx,cond_true] at h'
      split at h'
      ·rename_i l1 u1 hr1
       split at h'
       ·rename_i l2 u2 hr2
        simp only [Option.some.injEq,Prod.mk.injEq,List.cons.injEq] at h'
        obtain ⟨⟨rfl,rfl⟩,rfl⟩:=h'
        by_cases hk:k = .ptr
        ·subst hk
         obtain ⟨S1,K1,g1,w1,L1,t1,o1,hres⟩:=Ota hE K hg hb0 hx i hr1 hy
         exact rest hy K1 g1 w1 L1 (λ n q z v _=>t1 n q z v) (λ n q k _=>o1 n q k) hres rfl hr2 ⟨ls2',rfl,hmk⟩ rfl
        ·obtain ⟨S1,K1,g1,G,vs,e1,e2⟩:=Osa hE K hg hx i hk hr1 hy
         refine rest hy K1 g1 G.w G.later (λ n q z v hn=>G.tms n q z v hn) (λ n q k hn=>G.tm n q k hn) ?_ (v:=a.eval (.tmp x)) rfl hr2 ⟨ls2',rfl,hmk⟩ rfl
         cases k with
         |ptr=>exact absurd rfl hk
         |one=>
          simp only [Qu,Bool.false_eq_true,if_false] at e1 e2
          subst e1
          exact e2
         |agg=>
          simp only [Qu,if_true] at e1 e2
          exact ⟨vs,e1,e2⟩
       ·cases h'
      ·cases h'
    |cell x T=>
     cases k with
     |one=>simp [Rs] at h
     |ptr=>simp [Rs] at h
     |agg=>
      unfold Rs at h
      cases hx:Nat.blt x E.nt with
      |false=>rw [hx] at h; simp at h
      |true=>
       cases hT:E.ti T with
       |none=>rw [hT] at h; simp at h
       |some ti=>
        cases hag:ti.ag&&Nat.beq ti.ty.sz t.sz with
        |false=>rw [hT,hx] at h; simp [hag] at h
        |true=>
         rw [hT,hx] at h
         simp only [hag,Bool.and_self,cond_true] at h
         simp only [Bool.and_eq_true] at hag
         split at h
         ·rename_i l1 u1 hr1
          split at h
          ·rename_i l2 u2 hr2
           simp only [Option.some.injEq,Prod.mk.injEq,List.cons.injEq] at h
           obtain ⟨⟨rfl,rfl⟩,rfl⟩:=h
           obtain ⟨S1,K1,g1,G,vs,hrun,e2⟩:=Lda hE K hg hx hT hag.1 (Nat.eq_of_beq_eq_true hag.2) i hr1 hy
           exact rest hy K1 g1 G.w G.later (λ n q z v hn=>G.tms n q z v hn) (λ n q k hn=>G.tm n q k hn) ⟨vs,rfl,e2⟩ hrun hr2 ⟨ls2',rfl,hmk⟩ rfl
          ·cases h
         ·cases h
def szs:List Par→Bool
 |[]=>true
 |.ptr t t'::ps=>Nat.beq t.sz t'.sz&&szs ps
 |.hid t t'::ps=>Nat.beq t.sz t'.sz&&szs ps
 |_::ps=>szs ps
theorem Qsa {X:Cx} {i n:Nat} (hn:X.np≤1000) (h:i<n) (h2:n - X.np<500):X.pb (bid X.np i):=by
 unfold Cx.pb bid
 cases h3:Nat.blt i X.np with
 |true=>
  have h1:i<X.np:=Nat.le_of_ble_eq_true h3
  rw [cond_true]
  omega
 |false=>rw [cond_false]; omega
theorem Bja (hE:Ks X E) (hnp:X.np≤1000) (hu:∀ k b,X.O0 k = .bx b→∀ k',X.O0 k' = .bx b→k'=k) {hs:List Value}:∀ (ps:List Par) {S:Sit} {A:Ab} {ls ls' la:List (List Lf)} {us:List Value} (i:Nat),Ah X S a→S.g=get A→i+ps.length - X.np<500→szs ps=true→Kha X.np A i ps=some ls→Mk (L7 ps) ls ls'→
  Mo X.P (bare X.O0 X.w0) X.rg X.np hs i ps la us→
  ∃ S',Ah X S' a∧S'.w=S.w∧Es S S'∧(∀ n q z v,n<1001+i→Al X.P S (.tm n q) z v→Al X.P S' (.tm n q) z v)∧(∀ n q k,n<1001+i→S.O k = .tm n q→S'.O k = .tm n q)∧Mb X.P S' i ps us ls'
 |[],S,A,ls,ls',la,us,i,K,hg,hn,hz,h,hm,ha=>by
  refine ⟨S,K,rfl,.refl S,λ _ _ _ _ _ h=>h,λ _ _ _ _ h=>h,?_⟩
  simp only [Kha,Option.some.injEq] at h
  subst h
  cases ls' with
  |nil=>rfl
  |cons=>exact hm.elim
 |p::ps,S,A,ls,ls',la,us,i,K,hg,hn,hz,h,hm,ha=>by
  cases la with
  |nil=>exact ha.elim
  |cons l0 la=>
   cases us with
   |nil=>exact ha.elim
   |cons u us=>
    simp only [List.length_cons] at hn
    obtain ⟨ha1,ha2⟩:=ha
    have skip:szs ps=true→Kha X.np A (i+1) ps=some ls→Mk (L7 ps) ls ls'→(∀ {S':Sit},Mb X.P S' (i+1) ps us ls'→Mb X.P S' i (p::ps) (u::us) ls')→
      ∃ S',Ah X S' a∧S'.w=S.w∧Es S S'∧(∀ n q z v,n<1001+i→Al X.P S (.tm n q) z v→Al X.P S' (.tm n q) z v)∧(∀ n q k,n<1001+i→S.O k = .tm n q→S'.O k = .tm n q)∧Mb X.P S' i (p::ps) (u::us) ls':=by
     intro hz h hm hb
     obtain ⟨S',K',w',L',t',o',b'⟩:=Bja hE hnp hu ps (i+1) K hg (by omega) hz h hm ha2
     exact ⟨S',K',w',L',λ n q z v hn=>t' n q z v (by omega),λ n q k hn=>o' n q k (by omega),hb b'⟩
    have box:∀ {t t':Ty},(Nat.beq t.sz t'.sz&&szs ps)=true→Tx X.P (bare X.O0 X.w0) X.rg (bid X.np i) t l0 u→(match O0a A (bid X.np i) t' with
      |some (l,us)=>(match Kha X.np (ups A us) (i+1) ps with
       |some ls=>some (l::ls)
       |none=>none)
      |none=>none)=some ls→Mk (t'::L7 ps) ls ls'→(∀ {S':Sit} {l':List Lf} {ls2:List (List Lf)},ls'=l'::ls2→Tz X.P S' i t' l' u→Mb X.P S' (i+1) ps us ls2→Mb X.P S' i (p::ps) (u::us) ls')→
      ∃ S',Ah X S' a∧S'.w=S.w∧Es S S'∧(∀ n q z v,n<1001+i→Al X.P S (.tm n q) z v→Al X.P S' (.tm n q) z v)∧(∀ n q k,n<1001+i→S.O k = .tm n q→S'.O k = .tm n q)∧Mb X.P S' i (p::ps) (u::us) ls':=by
     intro t t' hz ha1 h hm hb
     simp only [Bool.and_eq_true] at hz
     have hsz:t.sz=t'.sz:=Nat.eq_of_beq_eq_true hz.1
     split at h
     ·rename_i l1 us1 hgive
      split at h
      ·rename_i ls2 h2
       cases h
       cases ls' with
       |nil=>exact hm.elim
       |cons l' ls2'=>
        obtain ⟨⟨y,hy,rfl⟩,hmk⟩:=hm
        obtain ⟨g1,g2,_,_,g5,S1,K1,g6,G,hls⟩:=Rg K hg hgive (1001+i)
        obtain ⟨S2,K2,w2,L2,t2,o2,b2⟩:=Bja hE hnp hu ps (i+1) K1 g6 (by omega) hz.2 h2 hmk ha2
        obtain ⟨hm9,c,e,e1,e2,e3,e4⟩:=K.box _ _ g2
        obtain ⟨r1,r2,_⟩:=K.rgn _ _ g2
        have hpb:X.pb (bid X.np i):=Qsa (n:=i+(ps.length+1)) hnp (by omega) hn
        obtain ⟨r3,r4,r5⟩:=r1 (N4a (n:=i+(ps.length+1)) (by omega) hnp hn) (r2 hpb)
        obtain ⟨k,o,c0,e0,vs,rfl,f2,f3,f4,f5,f6,f7,f8,f9⟩:=ha1
        have hk:(S.bb (bid X.np i)).1=k:=hu k _ f3 _ r3
        rw [f4] at r4 r5
        simp only at r4 r5
        have ho:(S.bb (bid X.np i)).2=o:=by omega
        refine ⟨S2,K2,w2.trans G.w,G.later.trans L2,λ n q z v hn hz=>t2 n q z v (by omega) (G.tms n q z v (by omega) hz),λ n q k hn hk=>o2 n q k (by omega) (G.tm n q k (by omega) hk),hb rfl ⟨k,o,c,e,(List.range t'.sz).map (λ j=>S.ph (C (bid X.np i) (0+j))),rfl,?_,I1 t' y,λ j hj=>?_,?_⟩ b2⟩
        ·rw [w2,G.w,← hk]; exact e1
        ·rw [← ho,e4 j hj]
         simp [hj]
        ·exact (Od (Qk hgive) hy hls).impM (λ z hz n u hu=>t2 _ _ z u (by omega) hu)
      ·cases h
     ·cases h
    cases p with
    |val ag t=>exact skip hz h hm (λ h=>h)
    |vw t h0=>exact skip hz h hm (λ h=>h)
    |rd t=>exact skip hz h hm (λ h=>h)
    |fn F m=>exact skip hz h hm (λ h=>h)
    |ptr t t'=>exact box hz ha1.2 h hm (λ e h1 h2=>by subst e; exact ⟨h1,h2⟩)
    |hid t t'=>exact box hz ha1.2 h hm (λ e h1 h2=>by subst e; exact ⟨h1,h2⟩)
end
end

section
attribute [local irreducible] C H
theorem Dga {P:Program} {w:World} {a:Act}:∀ {rv:List ResultVar} {vs:List Value},Lk (λ r v=>(Ns a r).run P w = .ok v w) rv vs→(rv.mapM (Ns a)).run P w = .ok vs w
 |_,_,.nil=>rfl
 |_,_,.cons h hs=>by
  rw [List.mapM_cons]
  simp only [Sem.run_bind,h,Result.andThen_ok,Dga hs,Sem.run_pure]
theorem Bka {P:Program} {w:World} {a:Act} {fn:Func} {vs:List Value} (h:Lk (λ r v=>(Ns a r).run P w = .ok v w) fn.results.toList vs):
  (results fn a.tmps).run P w = .ok (if h:vs.length=1 then vs[0] else .tuple vs.toArray) w:=by
 refine Eq.trans (b:=(do let vs ← fn.results.mapM (Ns a); pure (if h:vs.size=1 then vs[0] else .tuple vs):Sem Value).run P w) ?_ ?_
 ·unfold results
  refine congrArg (λ (f:ResultVar→Sem Value)=>Sem.run P (do let vs ← fn.results.mapM f; pure (if h:vs.size=1 then vs[0] else Value.tuple vs):Sem Value) w) (?_:_=Ns a)
  funext x
  cases x<;>rfl
 rw [Array.mapM_eq_mapM_toList]
 simp only [map_eq_pure_bind,Sem.run_bind,Dga h,Result.andThen_ok,Sem.run_pure]
 simp
theorem Bla:∀ (ts us:List Ty) (x:Den (ts++us)) (ls ls':List (List Lf)),ls.length=ts.length→Mk (ts++us) (ls++ls') (Cn (ts++us) x)→
  Mk ts ls ((Cn (ts++us) x).take ts.length)∧Mk us ls' ((Cn (ts++us) x).drop ts.length)
 |[],us,x,[],ls',_,h=>⟨trivial,h⟩
 |[],us,x,_::_,ls',hl,h=>by simp at hl
 |t::ts,us,x,[],ls',hl,h=>by simp at hl
 |t::ts,us,x,l::ls,ls',hl,h=>by
  have key:∀ (ts us:List Ty) (ls ls' lx:List (List Lf)),ls.length=ts.length→Mk (ts++us) (ls++ls') lx→Mk ts ls (lx.take ts.length)∧Mk us ls' (lx.drop ts.length):=by
   intro ts
   induction ts with
   |nil=>
    intro us ls ls' lx hl h
    cases ls with
    |nil=>exact ⟨trivial,h⟩
    |cons=>simp at hl
   |cons t ts ih=>
    intro us ls ls' lx hl h
    cases ls with
    |nil=>simp at hl
    |cons l ls=>
     cases lx with
     |nil=>exact h.elim
     |cons lx1 lx=>
      obtain ⟨h1,h2⟩:=ih us ls ls' lx (by simpa using hl) h.2
      exact ⟨⟨h.1,h1⟩,h2⟩
  exact key (t::ts) us (l::ls) ls' _ hl h
theorem W4 {E:En}:∀ (rs:List (RK×Ty)) (rv:List ResultVar) (A:Ab) (ls:List (List Lf)) (us:List Up),Rs E A rs rv=some (ls,us)→ls.length=rs.length
 |[],[],A,ls,us,h=>by
  simp only [Rs,Option.some.injEq,Prod.mk.injEq] at h
  obtain ⟨rfl,rfl⟩:=h
  rfl
 |[],_::_,A,ls,us,h=>by simp [Rs] at h
 |(k,t)::ks,[],A,ls,us,h=>by cases k<;>simp [Rs] at h
 |(k,t)::ks,.tmp x::rs,A,ls,us,h=>by
  have h':(bif Nat.blt x E.nt then (match Aza E.np A k t (.tmp x) (get A x).2 with
   |some (l,u)=>(match Rs E (ups A u) ks rs with
    |some (ls,us)=>some (l::ls,u++us)
    |none=>none)
   |none=>none) else none)=some (ls,us):=by
   unfold Rs at h
   cases k<;>exact h
  cases hx:Nat.blt x E.nt with
  |false=>rw [hx] at h'; simp at h'
  |true=>
   rw [hx,cond_true] at h'
   split at h'
   ·split at h'
    ·rename_i hr
     simp only [Option.some.injEq,Prod.mk.injEq] at h'
     obtain ⟨rfl,rfl⟩:=h'
     simp [W4 ks rs _ _ _ hr]
    ·cases h'
   ·cases h'
 |(.agg,t)::ks,.cell x T::rs,A,ls,us,h=>by
  unfold Rs at h
  generalize (Nat.blt x E.nt&&(match E.ti T with|some ti=>ti.ag&&Nat.beq ti.ty.sz t.sz|none=>false))=bb at h
  cases bb with
  |false=>simp at h
  |true=>
   rw [cond_true] at h
   split at h
   ·split at h
    ·rename_i hr
     simp only [Option.some.injEq,Prod.mk.injEq] at h
     obtain ⟨rfl,rfl⟩:=h
     simp [W4 ks rs _ _ _ hr]
    ·cases h
   ·cases h
 |(.one,t)::ks,.cell x T::rs,A,ls,us,h=>by simp [Rs] at h
 |(.ptr,t)::ks,.cell x T::rs,A,ls,us,h=>by simp [Rs] at h
theorem Jd.of {P:Program} {S:Sit} {n0:Nat} {rs:List (RK×Ty)} {ls:List (List Lf)} {vs:List Value} (h:L5 P S n0 1 rs ls vs) (ll:List (List Lf)):Jd P S n0 rs (ls++ll) (if h:vs.length=1 then vs[0] else .tuple vs.toArray):=by
 have len:∀ (rs:List (RK×Ty)) (i:Nat) (ls:List (List Lf)) (vs:List Value),L5 P S n0 i rs ls vs→vs.length=rs.length:=by
  intro rs
  induction rs with
  |nil=>intro i ls vs h; (have:vs=[]:=by (cases ls<;>exact h)); subst this; rfl
  |cons r rs ih=>
   intro i ls vs h
   cases ls with
   |nil=>exact h.elim
   |cons l ls=>
    cases vs with
    |nil=>exact h.elim
    |cons v vs=>simp [ih _ _ _ h.2]
 have ext:∀ (rs:List (RK×Ty)) (i:Nat) (ls:List (List Lf)) (vs:List Value),L5 P S n0 i rs ls vs→L5 P S n0 i rs (ls++ll) vs:=by
  intro rs
  induction rs with
  |nil=>intro i ls vs h; (have:vs=[]:=by (cases ls<;>exact h)); subst this; cases (ls++ll)<;>rfl
  |cons r rs ih=>
   intro i ls vs h
   cases ls with
   |nil=>exact h.elim
   |cons l ls=>
    cases vs with
    |nil=>exact h.elim
    |cons v vs=>exact ⟨h.1,ih _ _ _ h.2⟩
 have hl:=len rs 1 ls vs h
 have he:=ext rs 1 ls vs h
 unfold Jd
 split
 ·rename_i r
  have h1:vs.length=1:=hl
  obtain ⟨v,rfl⟩:=List.length_eq_one_iff.1 h1
  cases ls with
  |nil=>exact h.elim
  |cons l ls=>exact ⟨l,ls++ll,rfl,h.1⟩
 ·rename_i hne
  refine ⟨vs,?_,he⟩
  rw [dif_neg]
  intro h1
  rw [hl] at h1
  obtain ⟨r,hr⟩:=List.length_eq_one_iff.1 h1
  exact hne r hr
def Bma (en:Ent):Bool:=Lm en.nv 0 en.ps&&szs en.ps&&Nat.blt (en.ps.length - en.nv) 500&&Nat.blt en.rs.length 400
theorem F1a {P:Program} {f:FuncId} {fn:Func} {c:Code} {en:Ent} {E:En} (hf:P.funcs[f]? = some fn) (hb:fn.body=some c) (hnt:fn.ntmps≤1000) (hps:en.nv≤fn.ntmps)
  (hV:∀ X:Cx,X.P=P→X.nt=fn.ntmps→X.np=en.nv→Sf X E) (hD:∀ X:Cx,X.P=P→X.nt=fn.ntmps→X.np=en.nv→Z2 X E) (hL:∀ X:Cx,X.P=P→X.nt=fn.ntmps→X.np=en.nv→M2 X E c)
  (hpl:Bma en=true) (heq:∀ x,Gma E c fn.results.toList en x=en.run x):Oha P f en:=by
 intro x r hr w O rg us hlt hbx hargs
 rw [← heq] at hr
 unfold Bma at hpl
 simp only [Bool.and_eq_true] at hpl
 obtain ⟨⟨⟨hp1,hp2⟩,hp3⟩,hp4⟩:=hpl
 have hp3:en.ps.length - en.nv<500:=Nat.le_of_ble_eq_true hp3
 have hp4:en.rs.length<400:=Nat.le_of_ble_eq_true hp4
 let X:Cx:=⟨P,O,w,rg,fn.ntmps,en.nv⟩
 have hsol:=Ki (en.ps.map Par.ty) x
 have K0:Ah X (S0 en.nv en.ps (Cn _ x) us O w) ⟨(us.take en.nv).toArray++Array.replicate (fn.ntmps - (us.take en.nv).toArray.size) undef,[]⟩:=
  Lca hnt hlt (λ k b h=>(hbx k b h).2.1) hargs hsol hps hp1 hp3
 refine calls_of_wp hf hb ?_
 refine Z4 (X:=X) (S:=S0 en.nv en.ps (Cn _ x) us O w) (hV X rfl rfl rfl) (hD X rfl rfl rfl) c (hL X rfl rfl rfl) K0 rfl hr ?_
 intro e S a A K hg h
 have hE:=(hV X rfl rfl rfl).en
 have hb0:∀ k b,O k = .bx b→b<en.nv∨1500≤b:=λ k b hk=>by
  obtain ⟨i,h1,h2⟩:=(hbx k b hk).1
  subst h2
  unfold bid
  cases h3:Nat.blt i en.nv with
  |true=>exact .inl (Nat.le_of_ble_eq_true h3)
  |false=>rw [cond_false]; exact .inr (by omega)
 have fin:Mu E (E.gh 1000000) A (λ A=>match Rs E A en.rs fn.results.toList with
   |some (ls,us)=>(match Kha en.nv (ups A us) 0 en.ps with
    |some bs=>Q5 (en.rs.map Prod.snd++L7 en.ps) (ls++bs)
    |none=>none)
   |none=>none)=some r→bodyPost P fn (λ e w'=>∃ v O',e = .returned v∧Fr O w rg O' w'∧(∀ k,O' k ≠ .no→k<w'.heap.size)∧Jd P (bare O' w') w.heap.size en.rs (Cn _ r) v∧Mb P (bare O' w') 0 en.ps us ((Cn _ r).drop en.rs.length)) .ret a S.w:=by
  intro h
  obtain ⟨A,S0',h,K,hg,w0'⟩:=Mm hE _ K hg h
  rw [← w0']
  split at h
  ·rename_i ls1 us1 h1
   split at h
   ·rename_i bs h2
    have hmk:=Rj _ _ _ h
    have hlen:=W4 _ _ _ _ _ h1
    obtain ⟨m1,m2⟩:=Bla (en.rs.map Prod.snd) (L7 en.ps) r ls1 bs (by simpa using hlen) hmk
    rw [List.length_map] at m1 m2
    obtain ⟨S1,vs,K1,g1,w1,L1,_,_,hall,hruns⟩:=Hwa hE hb0 en.rs fn.results.toList 1 K hg (by omega) h1 m1
    obtain ⟨S2,K2,w2,L2,t2,o2,hback⟩:=Bja hE (show en.nv≤1000 by omega) (λ k b hk=>(hbx k b hk).2.2) en.ps 0 K1 g1 (by show 0+en.ps.length - en.nv<500; omega) hp2 h2 m2 hargs
    have hsolr:=Ki _ r
    have hall2:L5 P (bare S2.O S2.w) w.heap.size 1 en.rs ((Cn _ r).take en.rs.length) vs:=by
     have key:∀ (rs:List (RK×Ty)) (i:Nat) (ls:List (List Lf)) (us:List Value),i+rs.length<500→(∀ l∈ls,∀ y∈l,J3 y=true)→L5 P S1 w.heap.size i rs ls us→L5 P (bare S2.O S2.w) w.heap.size i rs ls us:=by
      intro rs
      induction rs with
      |nil=>intro i ls us _ _ h; exact h
      |cons r rs ih=>
       intro i ls us hi hs h
       simp only [List.length_cons] at hi
       cases ls with
       |nil=>exact h.elim
       |cons l ls=>
        cases us with
        |nil=>exact h.elim
        |cons u us=>
         refine ⟨?_,ih (i+1) ls us (by omega) (λ l hl=>hs l (List.mem_cons_of_mem _ hl)) h.2⟩
         have hl:∀ q z v,J3 z=true→Al P S1 (.tm i q) z v→Al P (bare S2.O S2.w) (.tm i q) z v:=λ q z v hz hv=>Al.bare (S1:=S2) hz rfl (λ k hk=>hk) (λ k hk=>hk) (t2 i q z v (by omega) hv)
         have h1:=h.1
         generalize r.1=k at h1 ⊢
         cases k with
         |one=>exact A5.impM (λ x hx n u h=>hl _ _ u (hs l (by simp) x hx) h) h1
         |agg=>
          obtain ⟨us,e,h⟩:=h1
          exact ⟨us,e,h.impM (λ x hx n u h=>hl _ _ u (hs l (by simp) x hx) h)⟩
         |ptr=>
          obtain ⟨k,o,c,e,us,h1,h2,h3,h4,h5,h6,h7,h8⟩:=h1
          exact ⟨k,o,c,e,us,h1,by show S2.w.heap[k]? = _; rw [w2]; exact h2,h3,o2 _ _ _ (by omega) h4,h5,h6,h7,h8.impM (λ x hx n u h=>hl _ _ u (hs l (by simp) x hx) h)⟩
     exact key _ _ _ _ (by omega) (λ l hl=>hsolr l (List.mem_of_mem_take hl)) hall
    have hback2:Mb P (bare S2.O S2.w) 0 en.ps us ((Cn _ r).drop en.rs.length):=by
     have one:∀ {i:Nat} {t':Ty} {l:List Lf} {u:Value},(∀ y∈l,J3 y=true)→Tz P S2 i t' l u→Tz P (bare S2.O S2.w) i t' l u:=by
      rintro i t' l u hs ⟨k,o,c,e,vs,q1,q2,q3,q4,q5⟩
      exact ⟨k,o,c,e,vs,q1,q2,q3,q4,q5.impM (λ y hy n u hu=>Al.bare (S1:=S2) (hs y hy) rfl (λ k hk=>hk) (λ k hk=>hk) hu)⟩
     have key:∀ (ps:List Par) (i:Nat) (us:List Value) (ls:List (List Lf)),(∀ l∈ls,∀ y∈l,J3 y=true)→Mb P S2 i ps us ls→Mb P (bare S2.O S2.w) i ps us ls:=by
      intro ps
      induction ps with
      |nil=>intro i us ls _ h; exact h
      |cons p ps ih=>
       intro i us ls hs h
       cases p<;>cases us<;>first|exact h.elim|skip
       all_goals first|exact ih _ _ _ hs h|skip
       all_goals
        cases ls with
        |nil=>exact h.elim
        |cons l ls=>exact ⟨one (hs l (by simp)) h.1,ih _ _ _ (λ l hl=>hs l (List.mem_cons_of_mem _ hl)) h.2⟩
     exact key _ _ _ _ (λ l hl=>hsolr l (List.mem_of_mem_drop hl)) hback
    have hres:=Jd.of hall2 ((Cn _ r).drop en.rs.length)
    rw [List.take_append_drop] at hres
    have hw:S2.w=S0'.w:=w2.trans w1
    rw [hw] at hres hback2
    refine ⟨K.df,_,Bka hruns,_,S2.O,rfl,?_,?_,hres,hback2⟩
    ·rw [← hw]; exact K2.fr
    ·rw [← hw]; exact K2.lt
   ·cases h
  ·cases h
 cases e with
 |exit i=>cases h
 |normal=>exact fin h
 |ret=>exact fin h
end

section
attribute [local irreducible] C H
def Ag (A A':Ab) (F:List Nat):Prop:=∀ p∈F,get A' p=get A p
def RB (A:Ab) (F:List Nat) (b lo:Nat):Prop:=H b∈F∧∀ n,(get A (H b)).2 = .one (.hd n)→∀ j,lo≤j→j<n→C b j∈F∧∀ p v,(get A (C b j)).2 = .one (.al p v)→p∈F
def RL (A:Ab) (F:List Nat):Lf→Prop
 |.al p _=>p∈F
 |.ep p _ _ _=>p∈F
 |.da p _ _ _ _ _=>p∈F
 |.dp p _ _ _ _ _ _ _=>p∈F
 |.bp b _ off=>RB A F b off
 |.fn _ bs=>∀ c∈bs,RB A F c.1 0
 |_=>True
def RX (A:Ab) (F:List Nat):Operand→Prop
 |.tmp t=>t∈F∧∀ y∈parts (get A t).2,RL A F y
 |_=>True
def Nt (u:Up):Prop:=u.s = .one .dead∨∃ e r,∃ xs:List (Ty.den r),u.s = .one (.fz e r xs)
section
variable {E:En} {A A':Ab} {F:List Nat} {o:Oper} {R:Type} {Kc:List Up→Option R} {r:R}
theorem Hxa {b:Nat}:∀ {n j:Nat},(∀ p∈rdC A b j n,p∈F)→∀ i,i<n→C b (j+i)∈F∧∀ p v,(get A (C b (j+i))).2 = .one (.al p v)→p∈F
 |0,j,h,i,hi=>by omega
 |n+1,j,h,i,hi=>by
  unfold rdC at h
  cases i with
  |zero=>
   refine ⟨h _ (by simp),λ p v hp=>h p ?_⟩
   rw [Nat.add_zero] at hp
   rw [hp]
   simp
  |succ i=>
   rw [show j+(i+1)=j+1+i by omega]
   exact Hxa (n:=n) (j:=j+1) (λ p hp=>h p (List.mem_cons_of_mem _ (List.mem_append_right _ hp))) i (by omega)
theorem Hya {b lo:Nat} (h:∀ p∈H b::(match (get A (H b)).2 with | .one (.hd n)=>rdC A b lo (n - lo)|_=>[]),p∈F):RB A F b lo:=by
 refine ⟨h _ (by simp),λ n hn j hl hj=>?_⟩
 rw [hn] at h
 have:=Hxa (A:=A) (F:=F) (b:=b) (n:=n - lo) (j:=lo) (λ p hp=>h p (List.mem_cons_of_mem _ hp)) (j - lo) (by omega)
 rwa [show lo+(j - lo)=j by omega] at this
theorem Qta {y:Lf} (h:∀ p∈rdL A y,p∈F):RL A F y:=by
 cases y with
 |al p v=>exact h p (by simp [rdL])
 |ep p v i off=>exact h p (by simp [rdL])
 |da p v pi e r xs=>exact h p (by simp [rdL])
 |dp p v pi e r xs i off=>exact h p (by simp [rdL])
 |bp b v off=>exact Hya h
 |fn f bs=>exact λ c hc=>Hya (lo:=0) λ p hp=>h p (List.mem_flatMap.2 ⟨c,hc,hp⟩)
 |_=>trivial
theorem Hza:∀ {l:List Lf},(∀ p∈Ria A l,p∈F)→∀ y∈l,RL A F y
 |[],_,y,hy=>by simp at hy
 |z::l,h,y,hy=>by
  unfold Ria at h
  rcases List.mem_cons.1 hy with rfl|hy
  ·exact Qta λ p hp=>h p (List.mem_append_left _ hp)
  ·exact Hza (λ p hp=>h p (List.mem_append_right _ hp)) y hy
theorem Qua {x:Operand} (h:∀ p∈rdO A x,p∈F):RX A F x:=by
 cases x with
 |tmp t=>
  unfold rdO at h
  exact ⟨h t (by simp),Hza λ p hp=>h p (List.mem_cons_of_mem _ hp)⟩
 |_=>trivial
theorem Bna:∀ {l:List Operand},(∀ p∈Mua A l,p∈F)→∀ x∈l,RX A F x
 |[],_,y,hy=>by simp at hy
 |z::l,h,y,hy=>by
  unfold Mua at h
  rcases List.mem_cons.1 hy with rfl|hy
  ·exact Qua λ p hp=>h p (List.mem_append_left _ hp)
  ·exact Bna (λ p hp=>h p (List.mem_append_right _ hp)) y hy
theorem Si (A:Ab) (u:Up) (p:Nat):get (up A u) p=if p=u.l then ((bif u.keep then (get A u.l).1 else (get A u.l).1+1),u.s) else get A p:=by
 rw [M5]
 unfold upd
 rfl
theorem Ag.up (h:Ag A A' F) (u:Up):Ag (up A u) (up A' u) F:=by
 intro p hp
 rw [Si,Si]
 by_cases e:p=u.l
 ·subst e
  rw [if_pos rfl,if_pos rfl,h _ hp]
 ·rw [if_neg e,if_neg e,h _ hp]
theorem Ag.ups:∀ {U:List Up} {A A':Ab},Ag A A' F→Ag (ups A U) (ups A' U) F
 |[],_,_,h=>h
 |u::U,_,_,h=>Ag.ups (U:=U) (h.up u)
theorem RB.up {b lo:Nat} (h:RB A F b lo) {u:Up} (hu:Nt u):RB (Vf.up A u) F b lo:=by
 have key:∀ q,(get (Vf.up A u) q).2=(get A q).2∨(get (Vf.up A u) q).2=u.s:=by
  intro q
  rw [Si]
  by_cases e:q=u.l
  ·rw [if_pos e]; exact .inr rfl
  ·rw [if_neg e]; exact .inl rfl
 refine ⟨h.1,λ n hn j hlo hj=>?_⟩
 have hn':(get A (H b)).2 = .one (.hd n):=by
  rcases key (H b) with k|k
  ·rw [← k]; exact hn
  ·rw [k] at hn
   rcases hu with hu|⟨e,r,xs,hu⟩<;>rw [hu] at hn<;>cases hn
 obtain ⟨h1,h2⟩:=h.2 n hn' j hlo hj
 refine ⟨h1,λ p v hp=>?_⟩
 rcases key (C b j) with k|k
 ·exact h2 p v (by rw [← k]; exact hp)
 ·rw [k] at hp
  rcases hu with hu|⟨e,r,xs,hu⟩<;>rw [hu] at hp<;>cases hp
theorem RB.ups {b lo:Nat}:∀ {U:List Up} {A:Ab},RB A F b lo→(∀ u∈U,Nt u)→RB (Vf.ups A U) F b lo
 |[],_,h,_=>h
 |u::U,_,h,hu=>RB.ups (U:=U) (h.up (hu u (by simp))) (λ v hv=>hu v (List.mem_cons_of_mem _ hv))
theorem RL.up {y:Lf} (h:RL A F y) {u:Up} (hu:Nt u):RL (Vf.up A u) F y:=by
 cases y with
 |al p v=>exact h
 |ep p v i off=>exact h
 |da p v pi e r xs=>exact h
 |dp p v pi e r xs i off=>exact h
 |bp b v off=>exact RB.up h hu
 |fn f bs=>exact λ c hc=>(h c hc).up hu
 |_=>trivial
theorem RX.up {x:Operand} (h:RX A F x) {u:Up} (hu:Nt u):RX (Vf.up A u) F x:=by
 cases x with
 |tmp t=>
  refine ⟨h.1,λ y hy=>?_⟩
  rw [Si] at hy
  by_cases e:t=u.l
  ·rw [if_pos e] at hy
   rcases hu with hu|⟨e',r,xs,hu⟩
   ·rw [hu] at hy
    simp only [parts,List.mem_singleton] at hy
    subst hy
    trivial
   ·rw [hu] at hy
    simp only [parts,List.mem_singleton] at hy
    subst hy
    trivial
  ·rw [if_neg e] at hy
   exact (h.2 y hy).up hu
 |_=>trivial
theorem RX.ups {x:Operand}:∀ {U:List Up} {A:Ab},RX A F x→(∀ u∈U,Nt u)→RX (Vf.ups A U) F x
 |[],_,h,_=>h
 |u::U,_,h,hu=>RX.ups (U:=U) (h.up (hu u (by simp))) (λ v hv=>hu v (List.mem_cons_of_mem _ hv))
theorem Ai {x:Operand} {T:TypeId} (h:Ag A A' F) (hx:RX A F x):opT E T A' x=opT E T A x:=by
 cases x with
 |tmp t=>show (bif Nat.blt t E.nt then some (get A' t).2 else none)=(bif Nat.blt t E.nt then some (get A t).2 else none); rw [h t hx.1]
 |const v=>
  unfold opT
  cases v<;>first|rfl|skip
  rename_i a b c
  cases a<;>cases b<;>cases c<;>rfl
 |func f=>rfl
 |global g=>rfl
theorem Nu {x:Operand} {T:TypeId} {s:Sv} (hx:RX A F x) (h:opT E T A x=some s):∀ y∈parts s,RL A F y:=by
 unfold opT at h
 split at h
 ·rename_i t
  cases hb:Nat.blt t E.nt with
  |false=>simp [hb] at h
  |true=>
   simp only [hb,cond_true,Option.some.injEq] at h
   rw [← h]
   exact hx.2
 ·split at h
  ·simp only [Option.some.injEq] at h
   subst h
   intro y hy
   simp only [parts,List.mem_singleton] at hy
   subst hy
   trivial
  ·cases h
 ·rename_i v _
  cases hs:Cla v with
  |false=>simp [hs] at h
  |true=>
   simp only [hs,cond_true,Option.some.injEq] at h
   subst h
   intro y hy
   simp only [parts,List.mem_singleton] at hy
   subst hy
   trivial
 ·simp only [Option.some.injEq] at h
  subst h
  intro y hy
  simp only [parts,List.mem_singleton] at hy
  subst hy
  trivial
 ·cases h
theorem I8 {x:Operand} {T:TypeId} {y:Lf} (hx:RX A F x) (h:opT E T A x=some (.one y)):RL A F y:=Nu hx h y (by simp [parts])
def AL (F:List Nat):Lf→Prop
 |.al p _=>p∈F
 |_=>True
theorem RL.al {y:Lf} (h:RL A F y):AL F y:=by
 cases y<;>first|trivial|exact h
theorem G0 {y:Lf} (h:Ag A A' F) (hy:AL F y):Ky A' y=Ky A y:=by
 cases y with
 |al p v=>simp only [Ky]; rw [h p hy]
 |_=>rfl
theorem I0a {y:Lf} (h:Ag A A' F) (hy:RL A F y):Tn A' y=Tn A y:=by
 cases y with
 |da p v pi e r xs=>simp only [Tn]; rw [h p hy]
 |_=>exact G0 h hy.al
theorem Lea (h:Ag A A' F) {l:List Lf} (hy:∀ y∈l,RL A F y):l.map (λ y=>Lx (Tn A' y))=l.map (λ y=>Lx (Tn A y)):=List.map_congr_left λ y hm=>by rw [I0a h (hy y hm)]
theorem Dha {y:Lf} (h:Ag A A' F) (hy:RL A F y):Ara A' y=Ara A y:=by
 cases y with
 |da p v pi e r xs=>simp only [Ara]; rw [h p hy]
 |_=>simp only [Ara,G0 h hy.al]
theorem Sj:∀ {l:List Lf} {A A':Ab},Ag A A' F→(∀ y∈l,AL F y)→Kz A' l=Kz A l
 |[],_,_,_,_=>rfl
 |y::l,A,A',h,hy=>by
  have h1:AL F y:=hy y (by simp)
  have h2:∀ z∈l,AL F z:=λ z hz=>hy z (List.mem_cons_of_mem _ hz)
  cases y with
  |al p v=>
   unfold Kz
   rw [G0 h h1,Sj (h.up ⟨p,false,.one .dead⟩) h2]
  |_=>simp only [Kz,Sj h h2]
theorem I1a {x:Operand} {s:Sv} (h:Ag A A' F) (hy:∀ y∈parts s,AL F y):G4a A' x s=G4a A x s:=by
 unfold G4a
 rw [Sj (h.ups (U:=gone x s)) hy]
theorem Boa {y:Lf} (h:Ag A A' F) (hy:AL F y):Jy A' y=Jy A y:=by
 cases y with
 |al p v=>show Lx (Ky A' (.al p v))=Lx (Ky A (.al p v)); rw [G0 h hy]
 |_=>rfl
theorem Bpa {y:Lf} (h:Ag A A' F) (hy:AL F y):Rb A' y=Rb A y:=by
 cases y with
 |al p v=>simp only [Rb]; rw [h p hy]
 |_=>rfl
theorem Oe (h:Ag A A' F):∀ {l:List Lf},(∀ y∈l,AL F y)→Jt A' l=Jt A l
 |[],_=>rfl
 |y::l,hy=>by
  unfold Jt
  rw [Bpa h (hy y (by simp)),Oe h (λ z hz=>hy z (List.mem_cons_of_mem _ hz))]
theorem Pt (h:Ag A A' F) {l:List Lf} (hy:∀ y∈l,AL F y):l.map (Jy A')=l.map (Jy A):=List.map_congr_left λ y hm=>Boa h (hy y hm)
theorem Dia (h:Ag A A' F) {l:List Lf} (hy:∀ y∈l,AL F y):l.map (λ y=>Lx (Jy A' y))=l.map (λ y=>Lx (Jy A y)):=List.map_congr_left λ y hm=>by rw [Boa h (hy y hm)]
theorem W5 {y:Lf} (h:Ag A A' F) (hy:RL A F y):Pd A' y=Pd A y:=by
 cases y with
 |bp b v n=>show Nat.beq (get A' (H b)).1 v=Nat.beq (get A (H b)).1 v; rw [h _ hy.1]
 |ep p v i n=>simp only [Pd]; rw [h p hy]
 |dp p v pi e r xs i n=>show Nat.beq (get A' p).1 v=Nat.beq (get A p).1 v; rw [h p hy]
 |_=>rfl
theorem Qo (h:Ag A A' F) {b:Nat}:∀ {n j:Nat},(∀ i,i<n→C b (j+i)∈F)→cellsOf A' b j n=cellsOf A b j n
 |0,_,_=>rfl
 |n+1,j,hc=>by
  unfold cellsOf
  rw [h (C b j) (by simpa using hc 0 (by omega)),Qo h (λ i hi=>by have:=hc (i+1) (by omega); rwa [show j+(i+1)=j+1+i by omega] at this)]
theorem U6 {b:Nat}:∀ {n j:Nat},(∀ i,i<n→C b (j+i)∈F∧∀ p v,(get A (C b (j+i))).2 = .one (.al p v)→p∈F)→∀ y∈cellsOf A b j n,AL F y
 |0,_,_,y,hy=>by simp [cellsOf] at hy
 |n+1,j,hc,y,hy=>by
  unfold cellsOf at hy
  rcases List.mem_cons.1 hy with hy|hy
  ·obtain ⟨c1,c2⟩:=hc 0 (by omega)
   rw [Nat.add_zero] at c1 c2
   split at hy
   ·subst hy; exact c1
   ·subst hy; exact c1
   ·rename_i hp
    subst hy
    cases y with
    |al p v=>exact c2 p v (by rw [hp])
    |_=>trivial
   ·subst hy; trivial
  ·refine U6 (n:=n) (j:=j+1) (λ i hi=>?_) y hy
   have:=hc (i+1) (by omega)
   rwa [show j+(i+1)=j+1+i by omega] at this
end
end

section
attribute [local irreducible] C H
def Loc {R:Type} (E:En) (o:Oper) (A:Ab) (F:List Nat) (Kc:List Up→Option R) (r:R):Prop:=
 ∃ U,Kc U=some r∧∀ A',Ag A A' F→∀ {R':Type} (K':List Up→Option R'),Ac E o A' K'=K' U
section
variable {E:En} {A A':Ab} {F:List Nat} {o:Oper} {R:Type} {Kc:List Up→Option R} {r:R}
theorem F2a {op:BinOp} {k:IntKind} {x y:Int} {Kv:Value→Option R} (h:Qt op k x y Kv=some r):∃ v,Kv v=some r∧∀ {R':Type} (K':Value→Option R'),Qt op k x y K'=K' v:=by
 cases op
 case quo=>
  simp only [Qt] at h ⊢
  cases hy:decide (y=0) with
  |true=>rw [hy] at h; simp at h
  |false=>rw [hy] at h; exact ⟨_,h,λ K'=>rfl⟩
 case rem=>
  simp only [Qt] at h ⊢
  cases hy:decide (y=0) with
  |true=>rw [hy] at h; simp at h
  |false=>rw [hy] at h; exact ⟨_,h,λ K'=>rfl⟩
 all_goals first|exact ⟨_,h,λ K'=>rfl⟩|(simp [Qt] at h; done)
theorem F3a {op:BinOp} {x y:ByteArray} {Kv:Value→Option R} (h:Tp op x y Kv=some r):∃ v,Kv v=some r∧∀ {R':Type} (K':Value→Option R'),Tp op x y K'=K' v:=by
 cases op
 case add=>
  simp only [Tp] at h ⊢
  cases hy:Nat.ble (x.size+y.size) 9223372036854775807 with
  |false=>rw [hy] at h; simp at h
  |true=>rw [hy] at h; exact ⟨_,h,λ K'=>rfl⟩
 all_goals first|exact ⟨_,h,λ K'=>rfl⟩|(simp [Tp] at h; done)
theorem Oua {op:BinOp} {t:Option TI} {e:Bool} {x y:Sv} {Kv:Value→Option R} (h:bop op t e x y Kv=some r):∃ v,Kv v=some r∧∀ {R':Type} (K':Value→Option R'),bop op t e x y K'=K' v:=by
 unfold bop at h
 split at h
 ·rename_i k a k' b
  split at h
  ·cases hb:decide (b<0) with
   |true=>rw [hb] at h; simp at h
   |false=>rw [hb] at h; exact ⟨_,h,λ K'=>by unfold bop; simp only [hb,cond_false]⟩
  ·cases hb:decide (b<0) with
   |true=>rw [hb] at h; simp at h
   |false=>rw [hb] at h; exact ⟨_,h,λ K'=>by unfold bop; simp only [hb,cond_false]⟩
  ·rename_i n1 n2
   cases hb:decide (k=k') with
   |false=>rw [hb] at h; simp at h
   |true=>
    rw [hb,cond_true] at h
    obtain ⟨v,h1,h2⟩:=F2a h
    refine ⟨v,h1,λ K'=>?_⟩
    unfold bop
    cases op<;>first|exact (n1 rfl).elim|exact (n2 rfl).elim|(simp only [hb,cond_true]; exact h2 K')
 ·obtain ⟨v,h1,h2⟩:=F3a h
  exact ⟨v,h1,λ K'=>h2 K'⟩
 ·rename_i a b
  split at h
  ·exact ⟨_,h,λ K'=>rfl⟩
  ·exact ⟨_,h,λ K'=>rfl⟩
  ·cases h
 ·rename_i l l'
  cases hb:(e&&Mt l&&Mt l'&&(Ly t l&&Ly t l')) with
  |false=>rw [hb] at h; simp at h
  |true=>
   rw [hb,cond_true] at h
   split at h
   ·split at h
    ·rename_i b he
     exact ⟨_,h,λ K'=>by unfold bop; simp only [hb,cond_true,he]⟩
    ·cases h
   ·split at h
    ·rename_i b he
     exact ⟨_,h,λ K'=>by unfold bop; simp only [hb,cond_true,he]⟩
    ·cases h
   ·cases h
 ·cases h
theorem Ova {op:UnOp} {x:Sv} {Kv:Value→Option R} (h:uop op x Kv=some r):∃ v,Kv v=some r∧∀ {R':Type} (K':Value→Option R'),uop op x K'=K' v:=by
 unfold uop at h
 split at h
 ·exact ⟨_,h,λ K'=>rfl⟩
 ·exact ⟨_,h,λ K'=>rfl⟩
 ·exact ⟨_,h,λ K'=>rfl⟩
 ·cases h
theorem Lfa {t t':Option TI} {x:Sv} {Kv:Sv→Option R} (h:conv t t' x Kv=some r):∃ v,Kv v=some r∧∀ {R':Type} (K':Sv→Option R'),conv t t' x K'=K' v:=by
 unfold conv at h
 split at h
 ·exact ⟨_,h,λ K'=>rfl⟩
 ·exact ⟨_,h,λ K'=>rfl⟩
 ·rename_i e _ _ _ _ e' xs
  cases hb:Nat.beq e e' with
  |false=>rw [hb] at h; simp at h
  |true=>rw [hb] at h; exact ⟨_,h,λ K'=>by unfold conv; simp only [hb,cond_true]⟩
 ·rename_i e _ _ _ _ e' xs
  cases hb:Nat.beq e e' with
  |false=>rw [hb] at h; simp at h
  |true=>rw [hb] at h; exact ⟨_,h,λ K'=>by unfold conv; simp only [hb,cond_true]⟩
 ·rename_i s
  cases hb:Nat.ble s.size 140737488355328 with
  |false=>rw [hb] at h; simp at h
  |true=>rw [hb] at h; exact ⟨_,h,λ K'=>by unfold conv; simp only [hb,cond_true]⟩
 ·cases h
theorem U7 {mx:Bool}:∀ {l:List Sv} {k:IntKind} {x:Int} {Kv:Value→Option R},Ol mx l k x Kv=some r→∃ v,Kv v=some r∧∀ {R':Type} (K':Value→Option R'),Ol mx l k x K'=K' v:=by
 intro l
 induction l with
 |nil=>intro k x Kv h; exact ⟨_,h,λ K'=>rfl⟩
 |cons s l ih=>
  intro k x Kv h
  unfold Ol at h
  split at h
  ·rename_i heq; cases heq
  ·rename_i k0 x0 K0 l9 k9 x9 K9 k' y l0 heq
   cases heq
   cases hb:decide (k0=k') with
   |false=>rw [hb] at h; simp at h
   |true=>
    rw [hb,cond_true] at h
    obtain ⟨v,h1,h2⟩:=ih h
    exact ⟨v,h1,λ K'=>by conv => { lhs; unfold Ol }; simp only [hb,cond_true]; exact h2 K'⟩
  ·cases h
theorem M9 {lo hi:Option Int} {n:Nat} {Kv:Unit→Option R} (h:Ana lo hi n Kv=some r):Kv ()=some r∧∀ {R':Type} (K':Unit→Option R'),Ana lo hi n K'=K' ():=by
 unfold Ana at h
 split at h
 ·exact ⟨h,λ K'=>rfl⟩
 ·rename_i l
  cases h1:decide (0≤l) with
  |false=>rw [h1] at h; simp at h
  |true=>
   rw [h1,cond_true] at h
   cases h2:decide (l≤(n:Int)) with
   |false=>rw [h2] at h; simp at h
   |true=>rw [h2,cond_true] at h; exact ⟨h,λ K'=>by unfold Ana; simp only [h1,h2,cond_true]⟩
 ·rename_i l
  cases h1:decide (0≤l) with
  |false=>rw [h1] at h; simp at h
  |true=>
   rw [h1,cond_true] at h
   cases h2:decide (l≤(n:Int)) with
   |false=>rw [h2] at h; simp at h
   |true=>rw [h2,cond_true] at h; exact ⟨h,λ K'=>by unfold Ana; simp only [h1,h2,cond_true]⟩
 ·rename_i l u
  cases h1:decide (0≤l) with
  |false=>rw [h1] at h; simp at h
  |true=>
   rw [h1,cond_true] at h
   cases h2:decide (l≤u) with
   |false=>rw [h2] at h; simp at h
   |true=>
    rw [h2,cond_true] at h
    cases h3:decide (u≤(n:Int)) with
    |false=>rw [h3] at h; simp at h
    |true=>rw [h3,cond_true] at h; exact ⟨h,λ K'=>by unfold Ana; simp only [h1,h2,h3,cond_true]⟩
theorem I2a {op:BinOp} {T T':TypeId} {x y:Operand} {d:Nat} (ho:o.op = .binOp op T x y T') (hod:o.dst=some d) (hx:RX A F x) (hy:RX A F y) (h:Ac E o A Kc=some r):Loc E o A F Kc r:=by
 unfold Ac at h
 rw [ho,hod] at h
 simp only at h
 split at h
 ·rename_i s s' hs hs'
  obtain ⟨v,h1,h2⟩:=Oua h
  refine ⟨_,h1,λ A' hA R' K'=>?_⟩
  unfold Ac
  rw [ho,hod]
  simp only [Ai hA hx,Ai hA hy,hs,hs']
  exact h2 _
 ·cases h
theorem Lga {op:UnOp} {T:TypeId} {x:Operand} {d:Nat} (ho:o.op = .unOp op T x) (hod:o.dst=some d) (hx:RX A F x) (h:Ac E o A Kc=some r):Loc E o A F Kc r:=by
 unfold Ac at h
 rw [ho,hod] at h
 simp only at h
 split at h
 ·rename_i s hs
  obtain ⟨v,h1,h2⟩:=Ova h
  refine ⟨_,h1,λ A' hA R' K'=>?_⟩
  unfold Ac
  rw [ho,hod]
  simp only [Ai hA hx,hs]
  exact h2 _
 ·cases h
theorem Bqa {T T':TypeId} {x:Operand} {d:Nat} (ho:o.op = .convert T T' x) (hod:o.dst=some d) (hx:RX A F x) (h:Ac E o A Kc=some r):Loc E o A F Kc r:=by
 unfold Ac at h
 rw [ho,hod] at h
 simp only at h
 split at h
 ·rename_i y hs
  obtain ⟨v,h1,h2⟩:=Lfa h
  refine ⟨_,h1,λ A' hA R' K'=>?_⟩
  unfold Ac
  rw [ho,hod]
  simp only [Ai hA hx,hs,I0a hA (I8 hx hs)]
  exact h2 _
 ·cases h
theorem Lha {x:Operand} {d:Nat} (ho:o.op = .move x) (hod:o.dst=some d) (hx:∀ t,x = .tmp t→t∈F) (h:Ac E o A Kc=some r):Loc E o A F Kc r:=by
 have hag:∀ A',Ag A A' F→∀ T,opT E T A' x=opT E T A x:=by
  intro A' hA T
  cases x with
  |tmp t=>show (bif Nat.blt t E.nt then some (get A' t).2 else none)=(bif Nat.blt t E.nt then some (get A t).2 else none); rw [hA t (hx t rfl)]
  |const v=>exact Ai hA (x := .const v) trivial
  |func f=>rfl
  |global g=>rfl
 unfold Ac at h
 rw [ho,hod] at h
 simp only at h
 split at h
 ·rename_i s hs
  split at h
  ·rename_i t e r' xs
   cases hn:(E.nm t && !(E.mv d)) with
   |true=>
    rw [hn,cond_true] at h
    refine ⟨_,h,λ A' hA R' K'=>?_⟩
    unfold Ac
    rw [ho,hod]
    simp only [hag A' hA,hs,hn,cond_true,hA t (hx t rfl)]
   |false=>
    rw [hn,cond_false] at h
    refine ⟨_,h,λ A' hA R' K'=>?_⟩
    unfold Ac
    rw [ho,hod]
    simp only [hag A' hA,hs,hn,cond_false]
  ·rename_i hne
   refine ⟨_,h,λ A' hA R' K'=>?_⟩
   unfold Ac
   rw [ho,hod]
   simp only [hag A' hA,hs]
 ·cases h
theorem F4a {x:Operand} {d:Nat} (ho:o.op = .assign x) (hod:o.dst=some d) (hx:RX A F x) (h:Ac E o A Kc=some r):Loc E o A F Kc r:=by
 unfold Ac at h
 rw [ho,hod] at h
 simp only at h
 split at h
 ·rename_i p v hs
  have hp:p∈F:=I8 hx hs
  split at h
  ·rename_i n e r' xs hg
   cases hn:Nat.beq n v with
   |false=>rw [hn] at h; simp at h
   |true=>
    rw [hn,cond_true] at h
    cases hr:E.res d with
    |true=>
     rw [hr,cond_true] at h
     refine ⟨_,h,λ A' hA R' K'=>?_⟩
     unfold Ac
     rw [ho,hod]
     simp only [Ai hA hx,hs,hA p hp,hg,hn,hr,cond_true]
    |false=>
     rw [hr,cond_false] at h
     refine ⟨_,h,λ A' hA R' K'=>?_⟩
     unfold Ac
     rw [ho,hod]
     simp only [Ai hA hx,hs,hA p hp,hg,hn,hr,cond_true,cond_false]
  ·rename_i n e r' xs hg
   cases hn:Nat.beq n v with
   |false=>rw [hn] at h; simp at h
   |true=>
    rw [hn,cond_true] at h
    refine ⟨_,h,λ A' hA R' K'=>?_⟩
    unfold Ac
    rw [ho,hod]
    simp only [Ai hA hx,hs,hA p hp,hg,hn,cond_true]
  ·cases h
 ·rename_i s hne hs
  refine ⟨_,h,λ A' hA R' K'=>?_⟩
  unfold Ac
  rw [ho,hod]
  simp only [Ai hA hx,hs]
 ·cases h
theorem Lia {c x y:Operand} {d:Nat} (ho:o.op = .pick c x y) (hod:o.dst=some d) (hc:RX A F c) (hx:RX A F x) (hy:RX A F y) (h:Ac E o A Kc=some r):Loc E o A F Kc r:=by
 unfold Ac at h
 rw [ho,hod] at h
 simp only at h
 split at h
 ·rename_i b hs
  cases b with
  |true=>
   rw [cond_true] at h
   split at h
   ·rename_i u hu
    refine ⟨_,h,λ A' hA R' K'=>?_⟩
    unfold Ac
    rw [ho,hod]
    simp only [Ai hA hc,Ai hA hx,hs,hu,cond_true]
   ·cases h
  |false=>
   rw [cond_false] at h
   split at h
   ·rename_i u hu
    refine ⟨_,h,λ A' hA R' K'=>?_⟩
    unfold Ac
    rw [ho,hod]
    simp only [Ai hA hc,Ai hA hy,hs,hu,cond_false]
   ·cases h
 ·cases h
def RP (A:Ab) (F:List Nat):Operand→Prop
 |.tmp t=>t∈F∧∀ y∈parts (get A t).2,(∀ b v n,y = .bp b v n→H b∈F)∧(∀ p v i n,y = .ep p v i n→p∈F)∧(∀ p v pi e r,∀ xs:List (Ty.den r),∀ i n,y = .dp p v pi e r xs i n→p∈F)
 |_=>True
theorem Dja:∀ {l:List Lf},(∀ p∈Pza l,p∈F)→∀ y∈l,(∀ b v n,y = .bp b v n→H b∈F)∧(∀ p v i n,y = .ep p v i n→p∈F)∧(∀ p v pi e r,∀ xs:List (Ty.den r),∀ i n,y = .dp p v pi e r xs i n→p∈F)
 |[],_,y,hy=>by simp at hy
 |z::l,h,y,hy=>by
  unfold Pza at h
  rcases List.mem_cons.1 hy with rfl|hy
  ·refine ⟨λ b v n e=>h _ (List.mem_append_left _ ?_),λ p v i n e=>h _ (List.mem_append_left _ ?_),λ p v pi e0 r xs i n e=>h _ (List.mem_append_left _ ?_)⟩<;>(subst e; simp [rdH])
  ·exact Dja (λ p hp=>h p (List.mem_append_right _ hp)) y hy
theorem N5a {x:Operand} (h:∀ p∈rdP A x,p∈F):RP A F x:=by
 cases x with
 |tmp t=>
  have h:∀ p∈t::Pza (parts (get A t).2),p∈F:=h
  exact ⟨h t (by simp),Dja λ p hp=>h p (List.mem_cons_of_mem _ hp)⟩
 |_=>trivial
theorem RP.opT {x:Operand} {T:TypeId} (hA:Ag A A' F) (hx:RP A F x):Vf.opT E T A' x=Vf.opT E T A x:=by
 cases x with
 |tmp t=>show (bif Nat.blt t E.nt then some (get A' t).2 else none)=(bif Nat.blt t E.nt then some (get A t).2 else none); rw [hA t hx.1]
 |const v=>exact Ai hA (x := .const v) trivial
 |func f=>rfl
 |global g=>rfl
theorem RP.live {x:Operand} {T:TypeId} {y:Lf} (hA:Ag A A' F) (hx:RP A F x) (h:Vf.opT E T A x=some (.one y)):Pd A' y=Pd A y:=by
 cases x with
 |tmp t=>
  have h:(bif Nat.blt t E.nt then some (get A t).2 else none)=some (.one y):=h
  cases hb:Nat.blt t E.nt with
  |false=>rw [hb] at h; simp at h
  |true=>
   rw [hb] at h
   simp only [cond_true,Option.some.injEq] at h
   obtain ⟨h1,h2,h3⟩:=hx.2 y (by rw [h]; simp [parts])
   cases y with
   |bp b v n=>show Nat.beq (get A' (H b)).1 v=Nat.beq (get A (H b)).1 v; rw [hA _ (h1 b v n rfl)]
   |ep p v i n=>simp only [Pd]; rw [hA _ (h2 p v i n rfl)]
   |dp p v pi e r xs i n=>show Nat.beq (get A' p).1 v=Nat.beq (get A p).1 v; rw [hA _ (h3 p v pi e r xs i n rfl)]
   |_=>rfl
 |const v=>exact W5 hA (I8 (x := .const v) (F:=F) trivial h)
 |func f=>exact W5 hA (I8 (x := .func f) (F:=F) trivial h)
 |global g=>exact W5 hA (I8 (x := .global g) (F:=F) trivial h)
theorem Z7 {x:Operand} {d:Nat} (ho:o.op = .nilCheck x) (hod:o.dst=some d) (hx:RP A F x) (h:Ac E o A Kc=some r):Loc E o A F Kc r:=by
 unfold Ac at h
 rw [ho,hod] at h
 simp only at h
 split at h
 ·rename_i y hs
  cases hl:Pd A y with
  |false=>rw [hl] at h; simp at h
  |true=>
   rw [hl,cond_true] at h
   refine ⟨_,h,λ A' hA R' K'=>?_⟩
   unfold Ac
   rw [ho,hod]
   simp only [hx.opT hA,hs,hx.live hA hs,hl,cond_true]
 ·cases h
theorem W6 {T:TypeId} {x:Operand} {j d:Nat} (ho:o.op = .fieldAddr T x j) (hod:o.dst=some d) (hx:RP A F x) (h:Ac E o A Kc=some r):Loc E o A F Kc r:=by
 unfold Ac at h
 rw [ho,hod] at h
 simp only at h
 split at h
 ·rename_i ti y hT hs
  split at h
  ·rename_i f hf
   cases hl:(ti.ag&&Pd A y) with
   |false=>rw [hl] at h; simp at h
   |true=>
    rw [hl,cond_true] at h
    refine ⟨_,h,λ A' hA R' K'=>?_⟩
    unfold Ac
    rw [ho,hod]
    simp only [hT,hx.opT hA,hs,hf,hx.live hA hs,hl,cond_true]
  ·cases h
 ·cases h
theorem Bra {t j d:Nat} (ho:o.op = .extract (.tmp t) j) (hod:o.dst=some d) (ht:t∈F) (h:Ac E o A Kc=some r):Loc E o A F Kc r:=by
 unfold Ac at h
 rw [ho,hod] at h
 simp only at h
 cases hb:Nat.blt t E.nt with
 |false=>rw [hb] at h; simp at h
 |true=>
  rw [hb,cond_true] at h
  split at h
  ·rename_i vs hg
   split at h
   ·rename_i ag l hn
    split at h
    ·rename_i s hs
     cases hw:Ev l with
     |true=>
      rw [hw,cond_true] at h
      refine ⟨_,h,λ A' hA R' K'=>?_⟩
      unfold Ac
      rw [ho,hod]
      simp only [hb,cond_true,hA t ht,hg,hn,hs,hw]
     |false=>
      rw [hw,cond_false] at h
      refine ⟨_,h,λ A' hA R' K'=>?_⟩
      unfold Ac
      rw [ho,hod]
      simp only [hb,cond_true,hA t ht,hg,hn,hs,hw,cond_false]
    ·cases h
   ·cases h
  ·cases h
theorem I3a {T:TypeId} {t j d:Nat} (ho:o.op = .field T (.tmp t) j) (hod:o.dst=some d) (ht:t∈F) (h:Ac E o A Kc=some r):Loc E o A F Kc r:=by
 unfold Ac at h
 rw [ho,hod] at h
 simp only at h
 split at h
 ·rename_i ti l hT hg
  split at h
  ·rename_i off z ag hn
   split at h
   ·rename_i s hs
    cases hb:(ti.ag&&Nat.blt t E.nt&&Nat.ble (off+z) l.length) with
    |false=>rw [hb] at h; simp at h
    |true=>
     rw [hb,cond_true] at h
     cases hw:Ev ((l.drop off).take z) with
     |true=>
      rw [hw,cond_true] at h
      refine ⟨_,h,λ A' hA R' K'=>?_⟩
      unfold Ac
      rw [ho,hod]
      simp only [hT,hA t ht,hg,hn,hs,hb,hw,cond_true]
     |false=>
      rw [hw,cond_false] at h
      refine ⟨_,h,λ A' hA R' K'=>?_⟩
      unfold Ac
      rw [ho,hod]
      simp only [hT,hA t ht,hg,hn,hs,hb,hw,cond_true,cond_false]
   ·cases h
  ·cases h
 ·cases h
theorem I4a {T:TypeId} {d:Nat} (ho:o.op = .alloc T) (hod:o.dst=some d) (hH:H d∈F) (h:Ac E o A Kc=some r):Loc E o A F Kc r:=by
 unfold Ac at h
 rw [ho,hod] at h
 simp only at h
 split at h
 ·rename_i ti hT
  cases hb:(Nat.blt ti.ty.sz 999&&Nat.ble E.np d) with
  |false=>rw [hb] at h; simp at h
  |true=>
   rw [hb,cond_true] at h
   refine ⟨_,h,λ A' hA R' K'=>?_⟩
   unfold Ac
   rw [ho,hod]
   simp only [hT,hb,cond_true,hA _ hH]
 ·cases h
theorem RL.als {s:Sv} (h:∀ y∈parts s,RL A F y):∀ y∈parts s,AL F y:=λ y hy=>(h y hy).al
theorem Qv (hA:Ag A A' F):∀ {l:List Lf},(∀ y∈l,AL F y)→Cp A' l=Cp A l
 |[],_=>rfl
 |y::l,h=>by
  have ih:=Qv hA (l:=l) (λ z hz=>h z (List.mem_cons_of_mem _ hz))
  cases y with
  |al p v=>simp only [Cp,ih,G0 hA (h (.al p v) (by simp))]
  |_=>simp only [Cp,ih]
theorem Owa {T:TypeId} {x:Operand} {d:Nat} (ho:o.op = .box T x) (hod:o.dst=some d) (hH:H d∈F) (hx:RX A F x) (h:Ac E o A Kc=some r):Loc E o A F Kc r:=by
 unfold Ac at h
 rw [ho,hod] at h
 simp only at h
 split at h
 ·rename_i ti s hT hs
  have hal:=RL.als (Nu hx hs)
  cases hmv:mvO E x with
  |true=>
   rw [hmv,cond_true] at h
   cases hb:(Cp A (parts s)&&Nat.beq (parts s).length ti.ty.sz&&Nat.blt ti.ty.sz 999&&Nat.ble E.np d) with
   |false=>rw [hb] at h; simp at h
   |true=>
    rw [hb,cond_true] at h
    refine ⟨_,h,λ A' hA R' K'=>?_⟩
    unfold Ac
    rw [ho,hod]
    simp only [hT,Ai hA hx,hs,hmv,Qv hA hal,hb,cond_true,hA _ hH]
  |false=>
  rw [hmv,cond_false] at h
  cases hb:(A3 ((parts s).map (Jy A))&&Nat.beq ((parts s).map (Jy A)).length ti.ty.sz&&Nat.blt ti.ty.sz 999&&Nat.ble E.np d) with
  |false=>rw [hb] at h; simp at h
  |true=>
   rw [hb,cond_true] at h
   refine ⟨_,h,λ A' hA R' K'=>?_⟩
   unfold Ac
   rw [ho,hod]
   simp only [hT,Ai hA hx,hs,hmv,cond_false,Pt hA hal,hb,cond_true,Oe hA hal,hA _ hH]
 ·cases h
theorem Lja {T:TypeId} {x:Operand} {d:Nat} (ho:o.op = .load T x) (hod:o.dst=some d) (hx:RX A F x) (h:Ac E o A Kc=some r):Loc E o A F Kc r:=by
 unfold Ac at h
 rw [ho,hod] at h
 simp only at h
 split at h
 ·rename_i ti b v off hT hs
  obtain ⟨h1,h2⟩:RL A F (.bp b v off):=I8 hx hs
  split at h
  ·rename_i n m hg
   cases hb:(Nat.beq n v&&Nat.ble (off+ti.ty.sz) m) with
   |false=>rw [hb] at h; simp at h
   |true=>
    rw [hb,cond_true] at h
    have hle:off+ti.ty.sz≤m:=by
     simp only [Bool.and_eq_true] at hb
     exact Nat.le_of_ble_eq_true hb.2
    have hcell:∀ i,i<ti.ty.sz→C b (off+i)∈F:=λ i hi=>(h2 m (by rw [hg]) (off+i) (by omega) (by omega)).1
    split at h
    ·rename_i s hp
     refine ⟨_,h,λ A' hA R' K'=>?_⟩
     unfold Ac
     rw [ho,hod]
     simp only [hT,Ai hA hx,hs,hA _ h1,hg,hb,cond_true,Qo hA hcell,hp]
    ·cases h
  ·cases h
 ·rename_i ti p v i off hT hs
  have hp:p∈F:=I8 hx hs
  split at h
  ·rename_i n e r' xs hg
   cases hb:(Nat.beq n v&&Js r'&&Nat.ble (off+ti.ty.sz) r'.sz) with
   |false=>rw [hb] at h; simp at h
   |true=>
    rw [hb,cond_true] at h
    split at h
    ·rename_i s hp2
     refine ⟨_,h,λ A' hA R' K'=>?_⟩
     unfold Ac
     rw [ho,hod]
     simp only [hT,Ai hA hx,hs,hA _ hp,hg,hb,cond_true,hp2]
    ·cases h
  ·cases h
 ·rename_i ti p v pi e0 r' xs i off hT hs
  have hp:p∈F:=I8 hx hs
  cases hb:(Nat.beq (get A p).1 v&&Nat.ble (off+ti.ty.sz) r'.sz) with
  |false=>rw [hb] at h; simp at h
  |true=>
   rw [hb,cond_true] at h
   split at h
   ·rename_i s hp2
    refine ⟨_,h,λ A' hA R' K'=>?_⟩
    unfold Ac
    rw [ho,hod]
    simp only [hT,Ai hA hx,hs,hA _ hp,hb,cond_true,hp2]
   ·cases h
 ·rename_i ti r' x' off hT hs
  cases hb:Nat.ble (off+ti.ty.sz) r'.sz with
  |false=>rw [hb] at h; simp at h
  |true=>
   rw [hb,cond_true] at h
   split at h
   ·rename_i s hp2
    refine ⟨_,h,λ A' hA R' K'=>?_⟩
    unfold Ac
    rw [ho,hod]
    simp only [hT,Ai hA hx,hs,hb,cond_true,hp2]
   ·cases h
 ·cases h
theorem Qw (h:Ag A A' F):∀ {l:List Lf},(∀ p v pi e r,∀ xs:List (Ty.den r),Lf.da p v pi e r xs∈l→p∈F)→Gk A' l=Gk A l
 |[],_=>rfl
 |y::l,hp=>by
  have ih:=Qw h (l:=l) (λ p v pi e r xs hm=>hp p v pi e r xs (List.mem_cons_of_mem _ hm))
  cases y with
  |da p v pi e r xs=>simp only [Gk,ih,h p (hp p v pi e r xs (by simp))]
  |_=>simp only [Gk,ih]
theorem Oxa {l:List Lf} (h:∀ y∈l,RL A F y):∀ p v pi e r,∀ xs:List (Ty.den r),Lf.da p v pi e r xs∈l.map (Jy A)→p∈F:=by
 intro p v pi e r xs hm
 obtain ⟨y,hy,he⟩:=List.mem_map.1 hm
 cases y with
 |da p' v' pi' e' r' xs'=>
  simp only [Jy,Lf.da.injEq] at he
  have:=h _ hy
  rw [he.1] at this
  exact this
 |al q w=>
  exfalso
  simp only [Jy] at he
  have h1:∀ z:Lf,(∀ p v pi e r,∀ xs:List (Ty.den r),z ≠ .da p v pi e r xs)→∀ p v pi e r,∀ xs:List (Ty.den r),Lx z ≠ .da p v pi e r xs:=by
   intro z hz p v pi e r xs
   cases z<;>simp [Lx]
   exact λ e1 e2 e3 e4 e5 e6=>hz _ _ _ _ _ _ rfl
  refine h1 (Ky A (.al q w)) ?_ _ _ _ _ _ _ he
  intro p v pi e r xs
  simp only [Ky]
  split
  ·rename_i n _ _ _ _
   cases Nat.beq n w<;>simp
  ·rename_i n _ _ _ _
   cases Nat.beq n w<;>simp
  ·simp
 |_=>simp [Jy] at he
theorem Nv:∀ {ts:List Ty} {l:List Lf} {A A':Ab},Ag A A' F→(∀ y∈l,AL F y)→G6 A' ts l=G6 A ts l
 |[],[],_,_,_,_=>rfl
 |[],_::_,_,_,_,_=>rfl
 |t::ts,[],_,_,_,_=>by cases t<;>rfl
 |t::ts,x::l,A,A',hA,hy=>by
  have hx:AL F x:=hy x (by simp)
  have hl:∀ y∈l,AL F y:=λ y hm=>hy y (List.mem_cons_of_mem _ hm)
  cases t<;>simp only [G6,G0 hA hx,Boa hA hx,Bpa hA hx,Nv (hA.ups (U:=Aua x)) hl,Nv (hA.ups (U:=Rb A x)) hl]
theorem I5a (hA:Ag A A' F):∀ {l:List Lf},(∀ y∈l,AL F y)→Nwa A' l=Nwa A l
 |[],_=>rfl
 |y::l,h=>by simp only [Nwa,G0 hA (h y (by simp)),I5a hA (λ z hz=>h z (List.mem_cons_of_mem _ hz))]
theorem Lka {x:Operand} {s:Sv} (hA:Ag A A' F) (hal:∀ y∈parts s,AL F y):Q6 A' x s (Nwa (ups A' (gone x s)) (parts s))=Q6 A x s (Nwa (ups A (gone x s)) (parts s)):=by
 have hA1:=hA.ups (U:=gone x s)
 unfold Q6
 rw [I5a hA1 hal,Nv hA1 hal]
theorem I6a {T:TypeId} {x y:Operand} (ho:o.op = .store T x y) (hod:o.dst=none) (hx:RX A F x) (hy:RX A F y) (h:Ac E o A Kc=some r):Loc E o A F Kc r:=by
 unfold Ac at h
 rw [ho,hod] at h
 simp only at h
 split at h
 ·rename_i ti b v off s hT hs hs2
  obtain ⟨h1,h2⟩:RL A F (.bp b v off):=I8 hx hs
  have hal:=RL.als (Nu hy hs2)
  cases hmv:mvO E y with
  |true=>
   rw [hmv,cond_true] at h
   split at h
   ·rename_i m vs hgive
    split at h
    ·rename_i n hd hg
     cases hb:(Nat.beq n v&&Nat.beq m.length ti.ty.sz&&Nat.ble (off+ti.ty.sz) hd) with
     |false=>rw [hb] at h; simp at h
     |true=>
      rw [hb,cond_true] at h
      refine ⟨_,h,λ A' hA R' K'=>?_⟩
      unfold Ac
      rw [ho,hod]
      simp only [hT,Ai hA hx,hs,Ai hA hy,hs2,hmv,Lka hA hal,hgive,hA _ h1,hg,hb,cond_true]
    ·cases h
   ·cases h
  |false=>
  rw [hmv,cond_false] at h
  split at h
  ·rename_i n m hg
   cases hb:(Nat.beq n v&&Gk (ups A (Jt A (parts s)++gone y s)) ((parts s).map (Jy A))&&Nat.beq ((parts s).map (Jy A)).length ti.ty.sz&&Nat.ble (off+ti.ty.sz) m) with
   |false=>rw [hb] at h; simp at h
   |true=>
    rw [hb,cond_true] at h
    refine ⟨_,h,λ A' hA R' K'=>?_⟩
    unfold Ac
    rw [ho,hod]
    simp only [hT,Ai hA hx,hs,Ai hA hy,hs2,hmv,cond_false,hA _ h1,hg,Pt hA hal,Oe hA hal,Qw (hA.ups (U:=Jt A (parts s)++gone y s)) (Oxa (Nu hy hs2)),hb,cond_true]
  ·cases h
 ·rename_i ti p v i off s hT hs hs2
  have hp:p∈F:=I8 hx hs
  have hal:=RL.als (Nu hy hs2)
  split at h
  ·rename_i n e r' xs hg
   cases hb:(Nat.beq n v&&Js r'&&A3 ((parts s).map (Jy A))&&Nat.beq ((parts s).map (λ x=>Lx (Jy A x))).length ti.ty.sz&&Nat.ble (off+((parts s).map (λ x=>Lx (Jy A x))).length) r'.sz&&Ur p (Jt A (parts s)++gone y s)) with
   |false=>rw [hb] at h; simp at h
   |true=>
    rw [hb,cond_true] at h
    split at h
    ·rename_i z hz
     refine ⟨_,h,λ A' hA R' K'=>?_⟩
     unfold Ac
     rw [ho,hod]
     simp only [hT,Ai hA hx,hs,Ai hA hy,hs2,hA _ hp,hg,Pt hA hal,Dia hA hal,hb,cond_true,Oe hA hal,hz]
    ·cases h
  ·cases h
 ·rename_i ti p v q e r1 xs i off s hT hs hs2
  have hp:p∈F:=I8 hx hs
  have hal:=RL.als (Nu hy hs2)
  split at h
  ·rename_i m us hgive
   split at h
   ·rename_i n E0 R0 XS hg
    cases hb:(Nat.beq n v&&Nc m&&Nat.beq m.length ti.ty.sz&&Nat.ble (off+m.length) r1.sz&&Ur p us&&Eu R0) with
    |false=>rw [hb] at h; simp at h
    |true=>
     rw [hb,cond_true] at h
     split at h
     ·rename_i z hz
      split at h
      ·rename_i XS' hput
       refine ⟨_,h,λ A' hA R' K'=>?_⟩
       unfold Ac
       rw [ho,hod]
       simp only [hT,Ai hA hx,hs,Ai hA hy,hs2,I1a hA hal,hgive,hA _ hp,hg,hb,cond_true,hz,hput]
      ·cases h
     ·cases h
   ·cases h
  ·cases h
 ·cases h
end
end

end Go.Proofs.YtlfoljnopndpeaaGreat.Vf
