import Derived.Test.YtlfoljnopndpeaaMaf
set_option linter.unusedVariables false
set_option linter.unusedSimpArgs false
namespace Go.Proofs.Ytlfoljnopndpeaa.Vf
open Go

section
attribute [local irreducible] C H
def Ot:List Ty→List Lf→Prop
 |.ow _ _::ts,_::l=>Ot ts l
 |_::ts,x::l=>x.isOwn=false∧Ot ts l
 |[],[]=>True
 |_,_=>False
theorem Z5 (z:Lf):(Hh z).isOwn=false:=by cases z<;>rfl
theorem Io:∀ (ts:List Ty) (l:List Lf) {A:Ab} {m:List Lf} {us:List Up},Dd A ts l=some (m,us)→Ot ts m
 |[],[],A,m,us,h=>by
  simp only [Dd,Option.some.injEq,Prod.mk.injEq] at h
  obtain ⟨rfl,_⟩:=h
  trivial
 |[],_::_,A,m,us,h=>by simp [Dd] at h
 |t::ts,[],A,m,us,h=>by cases t<;>simp [Dd] at h
 |t::ts,x::l,A,m,us,h=>by
  cases t with
  |ow e r=>
   simp only [Dd] at h
   split at h
   ·split at h
    ·rename_i hr
     simp only [Option.some.injEq,Prod.mk.injEq] at h
     obtain ⟨rfl,_⟩:=h
     exact Io ts l hr
    ·cases h
   ·cases h
  |_=>
   simp only [Dd] at h
   split at h
   ·rename_i hr
    simp only [Option.some.injEq,Prod.mk.injEq] at h
    obtain ⟨rfl,_⟩:=h
    exact ⟨Z5 _,Io ts l hr⟩
   ·cases h
theorem Pj {A:Ab} {x:Operand} {s:Sv} {t:Ty} {m:List Lf} {us:List Up} (h:Lx A x s t=some (m,us)):Ot (Fm t) m:=by
 unfold Lx Lw at h
 split at h
 ·rename_i m0 vs0 ht
  cases hst:A3 m0 with
  |false=>rw [hst] at h; simp at h
  |true=>
   rw [hst] at h
   simp only [cond_true,Option.some.injEq,Prod.mk.injEq] at h
   obtain ⟨rfl,rfl⟩:=h
   exact Io _ _ ht
 ·cases h
theorem Ma {A:Ab} {b v:Nat} {t t':Ty} {m:List Lf} {us:List Up} (h:Ke A b v t t'=some (m,us)):Ot (Fm t) m:=by
 unfold Ke at h
 split at h
 ·rename_i n hd hp
  cases hq:(Nat.beq n v&&Nat.beq hd t.sz&&Nat.beq hd t'.sz) with
  |false=>rw [hq] at h; simp at h
  |true=>
   rw [hq,cond_true] at h
   split at h
   ·rename_i l us0 hx
    cases hst:A3 l with
    |false=>rw [hst] at h; simp at h
    |true=>
     rw [hst] at h
     simp only [cond_true,Option.some.injEq,Prod.mk.injEq] at h
     obtain ⟨rfl,rfl⟩:=h
     exact Io _ _ hx
   ·cases h
 ·cases h
theorem Fna {P:Program} {S:Sit} {f:Nat→Lab}:∀ (t:Ty) (ts:List Ty) (l l':List Lf) (x:t.den) (j:Nat) (us:List Value),Ot (Fm t++ts) l→mkT t l=some (x,l')→A5 P S f j l us→A5 P S f j (A4 t x++l') us∧Ot ts l':=by
 intro t
 induction t with
 |pr p q ihp ihq=>
  intro ts l l' x j us h hm hl
  simp only [Fm,List.append_assoc] at h
  simp only [mkT] at hm
  split at hm
  ·rename_i y l1 h1
   split at hm
   ·rename_i z l2 h2
    simp only [Option.some.injEq,Prod.mk.injEq] at hm
    obtain ⟨rfl,rfl⟩:=hm
    obtain ⟨h3,h4⟩:=ihp _ _ _ _ j us h h1 hl
    have key:∀ (a:List Lf) (j:Nat) (us:List Value),A5 P S f j (a++l1) us→A5 P S f j (a++(A4 q z++l2)) us∧Ot ts l2:=by
     intro a
     induction a with
     |nil=>intro j us h5; exact ihq _ _ _ _ j us h4 h2 h5
     |cons b a ih=>
      intro j us h5
      cases us with
      |nil=>exact h5.elim
      |cons u us=>exact ⟨⟨h5.1,(ih (j+1) us h5.2).1⟩,(ih (j+1) us h5.2).2⟩
    have h5:=key _ j us h3
    rw [← List.append_assoc] at h5
    exact h5
   ·cases hm
  ·cases hm
 |ow e r _=>
  intro ts l l' x j us hf hm hl
  cases l with
  |nil=>simp [mkT] at hm
  |cons z l=>
   cases us with
   |nil=>exact hl.elim
   |cons u us=>
    cases z<;>first|(simp [mkT] at hm; done)|skip
    rename_i e' r' xs
    simp only [mkT] at hm
    cases hb:Nat.beq e e' with
    |false=>rw [hb] at hm; simp at hm
    |true=>
     rw [hb,cond_true] at hm
     have he:e=e':=Nat.eq_of_beq_eq_true hb
     subst he
     split at hm
     ·rename_i ys hys
      simp only [Option.some.injEq,Prod.mk.injEq] at hm
      obtain ⟨rfl,rfl⟩:=hm
      exact ⟨⟨D5.cast hys hl.1,hl.2⟩,hf⟩
     ·cases hm
 |sl e r _=>
  intro ts l l' x j us hf hm hl
  cases l with
  |nil=>simp [mkT] at hm
  |cons z l=>
   cases us with
   |nil=>exact hl.elim
   |cons u us=>
    obtain ⟨hz,hf⟩:z.isOwn=false∧Ot ts l:=hf
    cases z<;>first|(simp [mkT] at hm; done)|(simp [Lf.isOwn] at hz; done)|skip
    rename_i e' r' xs
    simp only [mkT] at hm
    cases hb:Nat.beq e e' with
    |false=>rw [hb] at hm; simp at hm
    |true=>
     rw [hb,cond_true] at hm
     have he:e=e':=Nat.eq_of_beq_eq_true hb
     subst he
     split at hm
     ·rename_i ys hys
      simp only [Option.some.injEq,Prod.mk.injEq] at hm
      obtain ⟨rfl,rfl⟩:=hm
      exact ⟨⟨L6 hys hl.1,hl.2⟩,hf⟩
     ·cases hm
 |i k=>
  intro ts l l' x j us hf hm hl
  cases l with
  |nil=>simp [mkT] at hm
  |cons z l=>
   cases z<;>first|(simp [mkT] at hm; done)|skip
   rename_i v
   cases v<;>first|(simp [mkT] at hm; done)|skip
   rename_i k' n
   simp only [mkT] at hm
   by_cases hk:k=k'
   ·subst hk
    simp at hm
    obtain ⟨rfl,rfl⟩:=hm
    exact ⟨hl,hf.2⟩
   ·simp [hk] at hm
 |b=>
  intro ts l l' x j us hf hm hl
  cases l with
  |nil=>simp [mkT] at hm
  |cons z l=>
   cases z<;>first|(simp [mkT] at hm; done)|skip
   rename_i v
   cases v<;>first|(simp [mkT] at hm; done)|skip
   simp [mkT] at hm
   obtain ⟨rfl,rfl⟩:=hm
   exact ⟨hl,hf.2⟩
 |s=>
  intro ts l l' x j us hf hm hl
  cases l with
  |nil=>simp [mkT] at hm
  |cons z l=>
   cases z<;>first|(simp [mkT] at hm; done)|skip
   rename_i v
   cases v<;>first|(simp [mkT] at hm; done)|skip
   simp [mkT] at hm
   obtain ⟨rfl,rfl⟩:=hm
   exact ⟨hl,hf.2⟩
theorem Js {P:Program} {S:Sit} {f:Nat→Lab} {t:Ty} {l:List Lf} {x:t.den} {j:Nat} {us:List Value} (hf:Ot (Fm t) l) (h:mkW t l=some x) (hl:A5 P S f j l us):A5 P S f j (A4 t x) us:=by
 unfold mkW at h
 split at h
 ·rename_i y hy
  cases h
  have:=(Fna t [] l [] _ j us (by rw [List.append_nil]; exact hf) hy hl).1
  rwa [List.append_nil] at this
 ·cases h
theorem Kaa {Q:Nat→Lf→Value→Prop} (hqo:∀ j e r r' (xs:List (Ty.den r')) (ys:List (Ty.den r)) u,Mp r r' xs=some ys→Q j (.own e r' xs) u→Q j (.own e r ys) u) (hqf:∀ j e r r' (xs:List (Ty.den r')) (ys:List (Ty.den r)) u,Kd r r' xs=some ys→Q j (.fz e r' xs) u→Q j (.fz e r ys) u):∀ (t:Ty) (ts:List Ty) (l l':List Lf) (x:t.den) (j:Nat) (us:List Value),Ot (Fm t++ts) l→mkT t l=some (x,l')→Qj Q j l us→Qj Q j (A4 t x++l') us∧Ot ts l':=by
 intro t
 induction t with
 |pr p q ihp ihq=>
  intro ts l l' x j us h hm hl
  simp only [Fm,List.append_assoc] at h
  simp only [mkT] at hm
  split at hm
  ·rename_i y l1 h1
   split at hm
   ·rename_i z l2 h2
    simp only [Option.some.injEq,Prod.mk.injEq] at hm
    obtain ⟨rfl,rfl⟩:=hm
    obtain ⟨h3,h4⟩:=ihp _ _ _ _ j us h h1 hl
    have key:∀ (a:List Lf) (j:Nat) (us:List Value),Qj Q j (a++l1) us→Qj Q j (a++(A4 q z++l2)) us∧Ot ts l2:=by
     intro a
     induction a with
     |nil=>intro j us h5; exact ihq _ _ _ _ j us h4 h2 h5
     |cons b a ih=>
      intro j us h5
      cases us with
      |nil=>exact h5.elim
      |cons u us=>exact ⟨⟨h5.1,(ih (j+1) us h5.2).1⟩,(ih (j+1) us h5.2).2⟩
    have h5:=key _ j us h3
    rw [← List.append_assoc] at h5
    exact h5
   ·cases hm
  ·cases hm
 |ow e r _=>
  intro ts l l' x j us hf hm hl
  cases l with
  |nil=>simp [mkT] at hm
  |cons z l=>
   cases us with
   |nil=>exact hl.elim
   |cons u us=>
    cases z<;>first|(simp [mkT] at hm; done)|skip
    rename_i e' r' xs
    simp only [mkT] at hm
    cases hb:Nat.beq e e' with
    |false=>rw [hb] at hm; simp at hm
    |true=>
     rw [hb,cond_true] at hm
     have he:e=e':=Nat.eq_of_beq_eq_true hb
     subst he
     split at hm
     ·rename_i ys hys
      simp only [Option.some.injEq,Prod.mk.injEq] at hm
      obtain ⟨rfl,rfl⟩:=hm
      exact ⟨⟨hqo _ _ _ _ _ _ _ hys hl.1,hl.2⟩,hf⟩
     ·cases hm
 |sl e r _=>
  intro ts l l' x j us hf hm hl
  cases l with
  |nil=>simp [mkT] at hm
  |cons z l=>
   cases us with
   |nil=>exact hl.elim
   |cons u us=>
    obtain ⟨hz,hf⟩:z.isOwn=false∧Ot ts l:=hf
    cases z<;>first|(simp [mkT] at hm; done)|(simp [Lf.isOwn] at hz; done)|skip
    rename_i e' r' xs
    simp only [mkT] at hm
    cases hb:Nat.beq e e' with
    |false=>rw [hb] at hm; simp at hm
    |true=>
     rw [hb,cond_true] at hm
     have he:e=e':=Nat.eq_of_beq_eq_true hb
     subst he
     split at hm
     ·rename_i ys hys
      simp only [Option.some.injEq,Prod.mk.injEq] at hm
      obtain ⟨rfl,rfl⟩:=hm
      exact ⟨⟨hqf _ _ _ _ _ _ _ hys hl.1,hl.2⟩,hf⟩
     ·cases hm
 |i k=>
  intro ts l l' x j us hf hm hl
  cases l with
  |nil=>simp [mkT] at hm
  |cons z l=>
   cases z<;>first|(simp [mkT] at hm; done)|skip
   rename_i v
   cases v<;>first|(simp [mkT] at hm; done)|skip
   rename_i k' n
   simp only [mkT] at hm
   by_cases hk:k=k'
   ·subst hk
    simp at hm
    obtain ⟨rfl,rfl⟩:=hm
    exact ⟨hl,hf.2⟩
   ·simp [hk] at hm
 |b=>
  intro ts l l' x j us hf hm hl
  cases l with
  |nil=>simp [mkT] at hm
  |cons z l=>
   cases z<;>first|(simp [mkT] at hm; done)|skip
   rename_i v
   cases v<;>first|(simp [mkT] at hm; done)|skip
   simp [mkT] at hm
   obtain ⟨rfl,rfl⟩:=hm
   exact ⟨hl,hf.2⟩
 |s=>
  intro ts l l' x j us hf hm hl
  cases l with
  |nil=>simp [mkT] at hm
  |cons z l=>
   cases z<;>first|(simp [mkT] at hm; done)|skip
   rename_i v
   cases v<;>first|(simp [mkT] at hm; done)|skip
   simp [mkT] at hm
   obtain ⟨rfl,rfl⟩:=hm
   exact ⟨hl,hf.2⟩
theorem Kba {Q:Nat→Lf→Value→Prop} (hqo:∀ j e r r' (xs:List (Ty.den r')) (ys:List (Ty.den r)) u,Mp r r' xs=some ys→Q j (.own e r' xs) u→Q j (.own e r ys) u) (hqf:∀ j e r r' (xs:List (Ty.den r')) (ys:List (Ty.den r)) u,Kd r r' xs=some ys→Q j (.fz e r' xs) u→Q j (.fz e r ys) u) {t:Ty} {l:List Lf} {x:t.den} {j:Nat} {us:List Value} (hf:Ot (Fm t) l) (h:mkW t l=some x) (hl:Qj Q j l us):Qj Q j (A4 t x) us:=by
 unfold mkW at h
 split at h
 ·rename_i y hy
  cases h
  have:=(Kaa hqo hqf t [] l [] _ j us (by rw [List.append_nil]; exact hf) hy hl).1
  rwa [List.append_nil] at this
 ·cases h
theorem Z6 {r:Ty} (xs:List r.den):Kd r r xs=some xs:=by
 unfold Kd
 rw [dif_pos rfl]
 rfl
theorem Z7 {r:Ty} (xs:List r.den):Mp r r xs=some xs:=by
 unfold Mp
 rw [dif_pos rfl]
theorem Mb:∀ (t:Ty) (x:t.den) (l:List Lf),mkT t (A4 t x++l)=some (x,l)
 |.i _,_,_=>by simp [A4,mkT]
 |.b,_,_=>by simp [A4,mkT]
 |.s,_,_=>by simp [A4,mkT]
 |.sl _ _,_,_=>by simp [A4,mkT,Z6]
 |.ow _ _,_,_=>by simp [A4,mkT,Z7]
 |.pr x y,p,l=>by
  show mkT (.pr x y) ((A4 x p.1++A4 y p.2)++l)=_
  rw [List.append_assoc]
  simp only [mkT]
  rw [Mb x p.1]
  simp only
  rw [Mb y p.2]
theorem Z8 (t:Ty) (x:t.den):mkW t (A4 t x)=some x:=by
 unfold mkW
 have:=Mb t x []
 rw [List.append_nil] at this
 rw [this]
def Ns (S:Sit) (b:Nat×Nat):Value := .pointer (some ⟨(S.bb b.1).1,(S.bb b.1).2+0,none⟩)
def nmV (i:Nat):Nat:=10+2 * i
def nmB (B:Nat):Nat:=11+2 * B
def Iea (P:Program) (S:Sit) (B:Nat) (t t':Ty) (l:List Lf) (u:Value) (bs:List (Nat×Nat)):Prop:=
 ∃ b,bs=[(b,B)]∧u = .pointer (some ⟨(S.bb b).1,(S.bb b).2,none⟩)∧(S.g (H b)).2 = .one (.hd t.sz)∧t'.sz=t.sz∧l.length=t.sz∧A3 l=true∧Ot (Fm t) l∧
  A5 P S (λ j => .tm (nmB B) [j]) 0 l ((List.range t.sz).map λ j=>S.ph (C b (0+j)))
def Kca (P:Program) (S:Sit) (cb hb:List (Nat×Nat)) (nv i:Nat):Par→List Lf→Value→List (Nat×Nat)→Prop
 |.vw t h,l,u,bs=>bs=[]∧nv≤h∧l.length=t.sz∧Ot (Fm t) l∧∃ c vs,nth hb (h - nv)=some c∧(S.g (H c.1)).2 = .one (.hd t.sz)∧u = .agg vs.toArray∧Qj (Z2 P S (λ j=>S.ph (C c.1 j))) 0 l vs
 |.val ag t,l,u,bs=>bs=[]∧A3 l=true∧Ot (Fm t) l∧∃ us,(if ag then u = .agg us.toArray else us=[u])∧A5 P S (λ n => .tm (nmV i) (if ag then [n] else [])) 0 l us
 |.ptr t t',l,u,bs=>Iea P S (bid nv i) t t' l u bs
 |.hid t t',l,u,bs=>Iea P S (bid nv i) t t' l u bs
 |.rd t,l,u,bs=>bs=[]∧∃ r x k o cs,l=lvs r x∧shp r=shp t∧Fu t=true∧u = .pointer (some ⟨k,o,none⟩)∧S.O k = .fz∧r.rep P (λ k=>S.O k = .fz) S.w x cs∧Co S.w k o cs
 |.fn F m,_,u,bs=>bs=[]∧m=cb.length∧u = .func (.func F) #[] (cb.map (Ns S)).toArray
def U5 (P:Program) (S:Sit) (cb hb:List (Nat×Nat)) (nv:Nat):Nat→List Par→List (List Lf)→List Value→List (Nat×Nat)→Prop
 |_,[],[],[],bs=>bs=[]
 |i,p::ps,l::ls,u::us,bs=>∃ b1 b2,bs=b1++b2∧Kca P S cb hb nv i p l u b1∧U5 P S cb hb nv (i+1) ps ls us b2
 |_,_,_,_,_=>False
theorem C7a {nv i j:Nat} (hn:nv≤1000) (h:bid nv i=bid nv j):i=j:=by
 unfold bid at h
 cases h1:Nat.blt i nv<;>cases h2:Nat.blt j nv<;>rw [h1,h2] at h<;>simp only [cond_true,cond_false] at h
 ·have h3:¬ i<nv:=λ h'=>by rw [show Nat.blt i nv=true from Nat.ble_eq_true_of_le h'] at h1; cases h1
  have h4:¬ j<nv:=λ h'=>by rw [show Nat.blt j nv=true from Nat.ble_eq_true_of_le h'] at h2; cases h2
  omega
 ·have h4:j<nv:=Nat.le_of_ble_eq_true h2
  omega
 ·have h4:i<nv:=Nat.le_of_ble_eq_true h1
  omega
 ·exact h
section
variable {X:Cx} {S S1 S2:Sit} {a:Act} {E:En} {A:Ab} {o:Oper} {R:Type} {Kc:List Up→Option R} {r:R}
def exA (nv i:Nat):Nat→List Nat→Prop:=λ n _=>∃ j,i≤j∧(n=nmV j∨n=nmB (bid nv j))
theorem C8a {nv i j:Nat} (hn:nv≤1000) (h:j<i) (q:List Nat):¬ exA nv i (nmV j) q∧¬ exA nv i (nmB (bid nv j)) q:=by
 refine ⟨λ ⟨k,h1,h2⟩=>?_,λ ⟨k,h1,h2⟩=>?_⟩
 ·unfold nmV nmB at h2
  omega
 ·unfold nmV nmB at h2
  rcases h2 with h2|h2
  ·omega
  ·have:bid nv j=bid nv k:=by omega
   have:=C7a hn this
   omega
theorem Qj.imp {Q Q':Nat→Lf→Value→Prop} (h:∀ j x u,Q j x u→Q' j x u):∀ {l:List Lf} {j:Nat} {us:List Value},Qj Q j l us→Qj Q' j l us
 |[],_,[],_=>trivial
 |[],_,_::_,h'=>h'.elim
 |_::_,_,[],h'=>h'.elim
 |_::_,j,_::_,h'=>⟨h _ _ _ h'.1,Qj.imp h h'.2⟩
theorem Z2.later {P:Program} {S S':Sit} {w w':Nat→Value} {j:Nat} {x:Lf} {u:Value} (hw:w'=w) (hl:∀ x u,B3a x=true→Ai P S .fz x u→Ai P S' .fz x u) (h:Z2 P S w j x u):Z2 P S' w' j x u:=by
 subst hw
 cases x<;>first|exact h|exact ⟨h.1,hl _ _ h.1 h.2⟩
theorem Kca.stay {cb hb:List (Nat×Nat)} {nv i j:Nat} {p:Par} {l:List Lf} {u:Value} {bs:List (Nat×Nat)} (hn:nv≤1000) (h:De X S S1 (exA nv i)) (hj:j<i) (hp:Kca X.P S cb hb nv j p l u bs):Kca X.P S1 cb hb nv j p l u bs:=by
 have hfz:∀ k,S.O k = .fz→S1.O k = .fz:=λ k hk=>(h.later.fz k hk).1
 have box:∀ {t t':Ty},Iea X.P S (bid nv j) t t' l u bs→Iea X.P S1 (bid nv j) t t' l u bs:=by
  rintro t t' ⟨b,h1,h2,h3,h4,h5,h6,h7,h8⟩
  refine ⟨b,h1,by rw [h.bb]; exact h2,by rw [h.heads b _ h3]; exact h3,h4,h5,h6,h7,?_⟩
  rw [h.ph]
  exact h8.imp (λ n x u hx=>h.tms _ _ _ _ (C8a hn hj _).2 hx)
 cases p with
 |vw t h0=>
  obtain ⟨h1,h2,h3,h4,c,vs,h5,h6,h7,h8⟩:=hp
  refine ⟨h1,h2,h3,h4,c,vs,h5,by rw [h.heads c.1 _ h6]; exact h6,h7,h8.imp (λ j x u hx=>hx.later (by rw [h.ph]) (λ x u hs hx=>?_))⟩
  exact Ai.later h.later hx (λ k hk=>⟨hfz k hk,by rw [h.w]⟩)
 |val ag t=>
  obtain ⟨h1,h2,h3,us,h4,h5⟩:=hp
  exact ⟨h1,h2,h3,us,h4,h5.imp (λ n x u hx=>h.tms _ _ _ _ (C8a hn hj _).1 hx)⟩
 |ptr t t'=>exact box hp
 |hid t t'=>exact box hp
 |rd t=>
  obtain ⟨h1,r',x,k,o',cs,h2,h3,h4,h5,h6,h7,h8⟩:=hp
  exact ⟨h1,r',x,k,o',cs,h2,h3,h4,h5,hfz k h6,Ty.rep_mono hfz (λ k _=>by rw [h.w]) r' x cs h7,h8.mono (by rw [h.w])⟩
 |fn F m=>
  obtain ⟨h1,h2,h3⟩:=hp
  refine ⟨h1,h2,?_⟩
  have:Ns S1=Ns S:=by funext b; unfold Ns; rw [h.bb]
  rw [this]
  exact h3
theorem C9a:∀ {l m:List (Nat×Nat)},H0a l m=true→l=m
 |[],[],_=>rfl
 |[],_::_,h=>by simp [H0a] at h
 |_::_,[],h=>by simp [H0a] at h
 |(a1,a2)::l,(b1,b2)::m,h=>by
  simp only [H0a,Bool.and_eq_true] at h
  have e1:a1=b1:=Nat.eq_of_beq_eq_true h.1.1
  have e2:a2=b2:=Nat.eq_of_beq_eq_true h.1.2
  rw [e1,e2,C9a h.2]
theorem Nt (hg:S.g=get A):∀ {bs:List (Nat×Nat)} {us:List Value},Nf S bs us→Hc A bs=true→us=bs.map (Ns S)
 |[],us,h,_=>h
 |c::bs,us,⟨u,us',e,⟨h1,h2⟩,h3⟩,ha=>by
  simp only [Hc,Bool.and_eq_true] at ha
  have e1:(S.g (H c.1)).1=c.2:=by rw [hg]; exact Nat.eq_of_beq_eq_true ha.1
  subst e
  rw [List.map_cons,Nt hg h3 ha.2,h2 e1]
  rfl
theorem Caa {ag:Bool} {s:Sv} (h:Fz ag s=true):∀ n,pth s n=if ag then [n] else []:=by
 intro n
 cases s with
 |tup vs=>simp [Fz,Awa] at h
 |one z=>cases ag<;>simp [Fz,Awa] at h ⊢; rfl
 |agg z=>cases ag<;>simp [Fz,Awa] at h ⊢; rfl
theorem Foa {x:Operand} {b v off:Nat} {t:Ty} {m:List Lf} {us:List Up} (h:Lx A x (.one (.bp b v off)) t=some (m,us)):False:=by
 unfold Lx Lw at h
 split at h
 ·rename_i m0 vs0 ht
  have hm:m0=[.bp b v off]∨False:=by
   have e1:parts (.one (.bp b v off))=[.bp b v off]:=rfl
   rw [e1] at ht
   generalize Fm t=ts at ht
   cases ts with
   |nil=>simp [Dd] at ht
   |cons t ts=>
    cases ts with
    |cons t2 ts=>
     obtain ⟨_,h2⟩:=I4 _ _ ht
     simp at h2
    |nil=>
     cases t<;>first|(simp [Dd,Th,Gp] at ht; done)|skip
     all_goals
      simp [Dd,Mu,Fy,Hh] at ht
      exact .inl ht.1.symm
  rcases hm with rfl|h0
  ·simp [A3] at h
  ·exact h0
 ·cases h
theorem U6 {A:Ab} {S:Sit} {X:Cx} {a:Act} (K:Ae X S a) (hg:S.g=get A) {b l0:Nat}:∀ (ts:List Ty) {j:Nat} {l m:List Lf} {us:List Value},Tj A b j ts l=some m→A5 X.P S (λ n => .pl l0 [n]) j l us→
  Ot ts m∧m.length=ts.length∧Qj (Z2 X.P S (λ j=>S.ph (C b j))) j m us
 |[],j,[],m,us,h,hl=>by
  simp only [Tj,Option.some.injEq] at h
  subst h
  cases us with
  |nil=>exact ⟨trivial,rfl,trivial⟩
  |cons=>exact hl.elim
 |[],j,_::_,m,us,h,hl=>by simp [Tj] at h
 |t::ts,j,[],m,us,h,hl=>by cases t<;>simp [Tj] at h
 |t::ts,j,x::l,m,us,h,hl=>by
  cases us with
  |nil=>exact hl.elim
  |cons u us=>
   have share:∀ {m':List Lf},B3a (Gp A x)=true→Tj A b (j+1) ts l=some m'→(∀ m'',Ot (t::ts) (Gp A x::m'')↔((Gp A x).isOwn=false∧Ot ts m''))→Ot (t::ts) (Gp A x::m')∧(Gp A x::m').length=(t::ts).length∧Qj (Z2 X.P S (λ j=>S.ph (C b j))) j (Gp A x::m') (u::us):=by
    intro m' hs hr hf
    obtain ⟨h1,h2,h3⟩:=U6 K hg ts hr hl.2
    obtain ⟨lab',h4⟩:=Kg K hg hl.1
    refine ⟨(hf m').2 ⟨by cases hx:Gp A x<;>rw [hx] at hs<;>first|rfl|simp [B3a] at hs,h1⟩,by simp [h2],?_,h3⟩
    have h5:Ai X.P S .fz (Gp A x) u:=by
     cases hx:Gp A x<;>rw [hx] at hs h4<;>first|exact Ai.relab (lab' := .fz) rfl h4|simp [B3a] at hs
    cases hx:Gp A x<;>rw [hx] at hs h5<;>first|exact ⟨rfl,h5⟩|simp [B3a] at hs
   cases t with
   |ow e r=>
    cases x<;>first|(simp [Tj] at h; done)|skip
    rename_i p v
    simp only [Tj] at h
    cases hq:(Nat.beq p (C b j)&&Nat.beq (get A p).1 v) with
    |false=>rw [hq] at h; simp at h
    |true=>
     rw [hq,cond_true] at h
     simp only [Bool.and_eq_true] at hq
     split at h
     ·rename_i y hy
      split at h
      ·rename_i m' hr
       simp only [Option.some.injEq] at h
       subst h
       obtain ⟨h1,h2,h3⟩:=U6 K hg ts hr hl.2
       have hal:Ai X.P S (.pl l0 [j]) (.al p v) u:=hl.1
       have hu:=hal.2 (by rw [hg]; exact Nat.eq_of_beq_eq_true hq.2)
       have hyo:∃ ys,y = .own e r ys:=by
        unfold Th at hy
        split at hy
        ·generalize Nat.beq e _=bb at hy
         cases bb with
         |false=>simp at hy
         |true=>
          rw [cond_true] at hy
          split at hy
          ·simp only [Option.some.injEq] at hy
           exact ⟨_,hy.symm⟩
          ·cases hno:Fu r with
           |false=>rw [hno] at hy; simp at hy
           |true=>
            rw [hno,cond_true] at hy
            split at hy
            ·simp only [Option.some.injEq] at hy
             exact ⟨_,hy.symm⟩
            ·cases hy
        ·cases hy
       obtain ⟨ys,rfl⟩:=hyo
       refine ⟨h1,by simp [h2],?_,h3⟩
       show u=S.ph (C b j)
       rw [hu,Nat.eq_of_beq_eq_true hq.1]
      ·cases h
     ·cases h
   |_=>
    simp only [Tj] at h
    cases hs:B3a (Gp A x) with
    |false=>rw [hs] at h; simp at h
    |true=>
     rw [hs,cond_true] at h
     split at h
     ·rename_i m' hr
      simp only [Option.some.injEq] at h
      subst h
      exact share hs hr (λ m''=>Iff.rfl)
     ·cases h
theorem Fpa (hE:Gj X E) (K:Ae X S a) (hg:S.g=get A) {cb hb:List (Nat×Nat)} {nv i:Nat} {x:Operand} {s:Sv} {v:Value} {p:Par} {l:List Lf} {us:List Up} {bs:List Nat} (hx:(∃ T,opT E T A x=some s∧v=a.eval x)∨(∃ h:Nat×Nat,s = .one (.bp h.1 h.2 0)∧v=Ns S h)) (h:Mq A cb hb nv x p s=some (l,us,bs)):
  ∃ S1 bp,Ae X S1 a∧S1.g=get (ups A us)∧De X S S1 (exA nv i)∧bp.map Prod.fst=bs∧Kca X.P S1 cb hb nv i p l v bp:=by
 have box:∀ {t t':Ty} {b w:Nat},s = .one (.bp b w 0)→(match Ke A b w t t' with|some (m,us)=>some (m,us,[b])|none=>none)=some (l,us,bs)→∃ S1 bp,Ae X S1 a∧S1.g=get (ups A us)∧De X S S1 (exA nv i)∧bp.map Prod.fst=bs∧Iea X.P S1 (bid nv i) t t' l v bp:=by
  intro t t' b w hs h
  split at h
  ·rename_i m us' hgive
   cases h
   obtain ⟨g1,g2,g3,g4,g5,S1,K1,g6,G,hl⟩:=Mz K hg hgive (nmB (bid nv i))
   refine ⟨S1,[(b,bid nv i)],K1,g6,De.trans (λ n q h=>h) (λ n q h=>⟨i,Nat.le_refl _,.inr h⟩) (De.refl S (exA nv i)) G,rfl,b,rfl,?_,by rw [G.heads b _ g2]; exact g2,g3,g5,g4,Ma hgive,by rw [G.ph]; exact hl⟩
   rw [G.bb]
   rcases hx with ⟨T,h1,rfl⟩|⟨h',h1,rfl⟩
   ·obtain ⟨pl,h2⟩:=El hE K hg h1
    rw [hs] at h2
    have h3:Ai X.P S (.pl pl []) (.bp b w 0) (a.eval x):=h2
    exact h3.2 g1
   ·rw [hs] at h1
    simp only [Sv.one.injEq,Lf.bp.injEq] at h1
    unfold Ns
    rw [← h1.1]
    rfl
  ·cases h
 unfold Mq at h
 split at h
 ·rename_i t h0 ys
  split at h
  ·rename_i c hc
   split at h
   ·rename_i n m hp
    cases hq:(Nat.ble nv h0&&Nat.beq n c.2&&Nat.beq m t.sz) with
    |false=>rw [hq] at h; simp at h
    |true=>
     rw [hq,cond_true] at h
     simp only [Bool.and_eq_true] at hq
     split at h
     ·rename_i l0 hvw
      cases h
      rcases hx with ⟨T,h1,rfl⟩|⟨h',h1,_⟩
      ·obtain ⟨pl,h2⟩:=El hE K hg h1
       obtain ⟨vs,e1,e2⟩:∃ us:List Value,a.eval x = .agg us.toArray∧A5 X.P S (λ j => .pl pl [j]) 0 ys us:=h2
       obtain ⟨f1,f2,f3⟩:=U6 K hg _ hvw e2
       exact ⟨S,[],K,hg,De.refl S _,rfl,rfl,Nat.le_of_ble_eq_true hq.1.1,by rw [f2,Hk],f1,c,vs,hc,by rw [hg,hp,Nat.eq_of_beq_eq_true hq.2],e1,f3⟩
      ·cases h1
     ·cases h
   ·cases h
  ·cases h
 ·rename_i ag t
  cases hq:Fz ag s with
  |false=>rw [hq] at h; simp at h
  |true=>
   rw [hq,cond_true] at h
   split at h
   ·rename_i m us' hgive
    cases h
    rcases hx with ⟨T,h1,rfl⟩|⟨h',h1,_⟩
    ·obtain ⟨S1,K1,g1,G,h2,_,vs,hsh,hl⟩:=W9 hE K hg (.inl h1) (C5a hq) hgive (nmV i)
     have hp:=Caa hq
     simp only [hp] at hl
     exact ⟨S1,[],K1,g1,De.trans (λ n q h=>h) (λ n q h=>⟨i,Nat.le_refl _,.inl h⟩) (De.refl S (exA nv i)) G,rfl,rfl,h2,Pj hgive,vs,Pf hq hsh,hl⟩
    ·rw [h1] at hgive
     exact (Foa hgive).elim
   ·cases h
 ·exact box rfl h
 ·exact box rfl h
 ·rename_i t r' y
  cases hq:(decide (shp r'=shp t)&&Fu t) with
  |false=>rw [hq] at h; simp at h
  |true=>
   rw [hq] at h
   simp only [cond_true,Option.some.injEq,Prod.mk.injEq] at h
   obtain ⟨rfl,rfl,rfl⟩:=h
   simp only [Bool.and_eq_true,decide_eq_true_eq] at hq
   rcases hx with ⟨T,h1,rfl⟩|⟨h',h1,_⟩
   ·obtain ⟨pl,h2⟩:=El hE K hg h1
    obtain ⟨k,o',cs,e1,e2,e3,e4⟩:Ai X.P S (.pl pl []) (.fp r' y 0) (a.eval x):=h2
    exact ⟨S,[],K,hg,De.refl S _,rfl,rfl,r',y,k,o',cs,rfl,hq.1,hq.2,e1,e2,e3,e4⟩
   ·cases h1
 ·rename_i F m F' bs'
  cases hq:(Nat.beq F F'&&Nat.beq m bs'.length&&H0a bs' cb&&Hc A bs') with
  |false=>rw [hq] at h; simp at h
  |true=>
   rw [hq] at h
   simp only [cond_true,Option.some.injEq,Prod.mk.injEq] at h
   obtain ⟨rfl,rfl,rfl⟩:=h
   simp only [Bool.and_eq_true] at hq
   obtain ⟨⟨⟨q1,q2⟩,q3⟩,q4⟩:=hq
   have e1:F=F':=Nat.eq_of_beq_eq_true q1
   have e2:m=bs'.length:=Nat.eq_of_beq_eq_true q2
   have e3:=C9a q3
   subst e1 e3
   rcases hx with ⟨T,h1,rfl⟩|⟨h',h1,_⟩
   ·obtain ⟨pl,h2⟩:=El hE K hg h1
    obtain ⟨us',e4,e5⟩:Ai X.P S (.pl pl []) (.fn F bs') (a.eval x):=h2
    have e6:=Nt hg e5 q4
    subst e6
    exact ⟨S,[],K,hg,De.refl S _,rfl,rfl,e2,e4⟩
   ·cases h1
 ·cases h
theorem S7 (hE:Gj X E) {cb hb:List (Nat×Nat)} {nv:Nat} (hn:nv≤1000):∀ (ps:List Par) {xs:List (TypeId×Operand)} {hs:List (Nat×Nat)} {S:Sit} {A:Ab} {ls:List (List Lf)} {us:List Up} {bs:List Nat} (i:Nat),Ae X S a→S.g=get A→Hd E cb hb nv A xs hs ps=some (ls,us,bs)→
  ∃ S1 bp,Ae X S1 a∧S1.g=get (ups A us)∧De X S S1 (exA nv i)∧bp.map Prod.fst=bs∧U5 X.P S1 cb hb nv i ps ls (xs.map (λ x=>a.eval x.2)++hs.map (Ns S)) bp
 |[],xs,hs,S,A,ls,us,bs,i,K,hg,h=>by
  cases xs with
  |cons=>simp [Hd] at h
  |nil=>
   cases hs with
   |cons=>simp [Hd] at h
   |nil=>
    simp only [Hd,Option.some.injEq,Prod.mk.injEq] at h
    obtain ⟨rfl,rfl,rfl⟩:=h
    exact ⟨S,[],K,hg,De.refl S _,rfl,rfl⟩
 |p::ps,xs,hs,S,A,ls,us,bs,i,K,hg,h=>by
  have go:∀ {x:Operand} {s:Sv} {v:Value} {xs':List (TypeId×Operand)} {hs':List (Nat×Nat)} {l:List Lf} {u:List Up} {b:List Nat} {ls1:List (List Lf)} {us1:List Up} {bs1:List Nat},((∃ T,opT E T A x=some s∧v=a.eval x)∨(∃ h:Nat×Nat,s = .one (.bp h.1 h.2 0)∧v=Ns S h))→Mq A cb hb nv x p s=some (l,u,b)→Hd E cb hb nv (ups A u) xs' hs' ps=some (ls1,us1,bs1)→
    ∃ S1 bp,Ae X S1 a∧S1.g=get (ups A (u++us1))∧De X S S1 (exA nv i)∧bp.map Prod.fst=b++bs1∧U5 X.P S1 cb hb nv i (p::ps) (l::ls1) (v::(xs'.map (λ x=>a.eval x.2)++hs'.map (Ns S))) bp:=by
   intro x s v xs' hs' l u b ls1 us1 bs1 hx h1 h2
   obtain ⟨S1,b1,K1,g1,G1,e1,p1⟩:=Fpa (nv:=nv) (i:=i) hE K hg hx h1
   obtain ⟨S2,b2,K2,g2,G2,e2,p2⟩:=S7 hE hn ps (i+1) K1 g1 h2
   have hpv:Ns S1=Ns S:=by funext b; unfold Ns; rw [G1.bb]
   rw [hpv] at p2
   exact ⟨S2,b1++b2,K2,by rw [Ad]; exact g2,De.trans (λ _ _ h=>h) (λ n q ⟨j,h1,h2⟩=>⟨j,by omega,h2⟩) G1 G2,by rw [List.map_append,e1,e2],b1,b2,rfl,p1.stay hn G2 (by omega),p2⟩
  cases xs with
  |cons x xs=>
   simp only [Hd] at h
   split at h
   ·rename_i s hs1
    split at h
    ·rename_i l u b hb
     split at h
     ·rename_i ls1 us1 bs1 hrec
      cases h
      exact go (.inl ⟨x.1,hs1,rfl⟩) hb hrec
     ·cases h
    ·cases h
   ·cases h
  |nil=>
   cases hs with
   |nil=>simp [Hd] at h
   |cons h0 hs=>
    simp only [Hd] at h
    split at h
    ·rename_i l u b hb
     split at h
     ·rename_i ls1 us1 bs1 hrec
      cases h
      exact go (xs':=[]) (.inr ⟨h0,rfl,rfl⟩) hb hrec
     ·cases h
    ·cases h
end
end

section
attribute [local irreducible] C H
def lkF:List (Nat×Nat)→Nat→Option Nat
 |[],_=>none
 |c::l,x=>if c.1=x then some c.2 else lkF l x
def lkS:List (Nat×Nat)→Nat→Option Nat
 |[],_=>none
 |c::l,x=>if c.2=x then some c.1 else lkS l x
theorem U7:∀ {l:List (Nat×Nat)} {b B:Nat},lkF l b=some B→(b,B)∈l
 |[],_,_,h=>by simp [lkF] at h
 |c::l,b,B,h=>by
  simp only [lkF] at h
  split at h
  ·rename_i e
   simp only [Option.some.injEq] at h
   rw [← e,← h]
   exact List.mem_cons_self
  ·exact List.mem_cons_of_mem _ (U7 h)
theorem X3:∀ {l:List (Nat×Nat)} {b B:Nat},(l.map Prod.fst).Nodup→(b,B)∈l→lkF l b=some B
 |[],_,_,_,h=>by simp at h
 |c::l,b,B,hn,h=>by
  rw [List.map_cons,List.nodup_cons] at hn
  simp only [lkF]
  rcases List.mem_cons.1 h with rfl|h
  ·rw [if_pos rfl]
  ·rw [if_neg (λ e=>hn.1 (by rw [e]; exact List.mem_map_of_mem h))]
   exact X3 hn.2 h
theorem S8:∀ {l:List (Nat×Nat)} {b B:Nat},(l.map Prod.snd).Nodup→(b,B)∈l→lkS l B=some b
 |[],_,_,_,h=>by simp at h
 |c::l,b,B,hn,h=>by
  rw [List.map_cons,List.nodup_cons] at hn
  simp only [lkS]
  rcases List.mem_cons.1 h with rfl|h
  ·rw [if_pos rfl]
  ·rw [if_neg (λ e=>hn.1 (by rw [e]; exact List.mem_map_of_mem h))]
   exact S8 hn.2 h
theorem Ifa:∀ {l:List (Nat×Nat)} {b b' B:Nat},(l.map Prod.snd).Nodup→(b,B)∈l→(b',B)∈l→b=b':=λ hn h h'=>by
 have e1:=S8 hn h
 rw [S8 hn h'] at e1
 simpa using e1.symm
theorem S9:∀ {l:List Nat},N8 l=true→l.Nodup
 |[],_=>by simp
 |b::l,h=>by
  simp only [N8,Bool.and_eq_true,Bool.not_eq_true',List.any_eq_false] at h
  rw [List.nodup_cons]
  exact ⟨λ hb=>h.1 b hb (by rw [Nat.beq_refl]),S9 h.2⟩
def K6 (S:Sit) (L:List (Nat×Nat)):Nat→Lab:=λ k=>match S.O k with
 |.fz => .fz
 |.tm n q=>if n<10 then .no else if n % 2=0 then .pl ((n - 10) / 2) q else (match q with
  |[j] => .pl (C ((n - 11) / 2) j) []
  |_ => .no)
 |.bx b=>(match lkF L b with
  |some B=>if k=(S.bb b).1 then .bx B else .no
  |none => .no)
 |_ => .no
def Iga (S:Sit) (L:List (Nat×Nat)):Nat→Nat×Nat:=λ B=>match lkS L B with
 |some b=>((S.bb b).2,match (S.g (H b)).2 with | .one (.hd n)=>n|_=>0)
 |none=>(0,0)
def Jja:Lab→Bool
 |.tm _ _=>true
 |_=>false
def nmO:Lab→Lab
 |.fz => .fz
 |.tm n q => .tm n q
 |.no => .no
 |_ => .tm 99999 []
def Aza (S:Sit) (O':Nat→Lab):Nat→Lab:=λ k=>if k<S.w.heap.size∧Jja (S.O k)=false then S.O k else nmO (O' k)
section
variable {X:Cx} {S S1 S2:Sit} {a:Act} {E:En} {A:Ab} {o:Oper} {R:Type} {Kc:List Up→Option R} {r:R}
theorem Ip {S:Sit} {L:List (Nat×Nat)} {k:Nat} (h:S.O k = .fz):K6 S L k = .fz:=by simp [K6,h]
theorem Cba {S:Sit} {L:List (Nat×Nat)} {k b B:Nat} (h:S.O k = .bx b) (hl:lkF L b=some B) (hk:k=(S.bb b).1):K6 S L k = .bx B:=by
 unfold K6; rw [h]; simp [hl,← hk]
theorem Kda {S:Sit} {L:List (Nat×Nat)} {k i:Nat} {q:List Nat} (h:S.O k = .tm (nmV i) q):K6 S L k = .pl i q:=by
 unfold K6 nmV at *
 rw [h]
 simp only
 rw [if_neg (by omega),if_pos (by omega),show (10+2 * i - 10) / 2=i by omega]
theorem Kea {S:Sit} {L:List (Nat×Nat)} {k B j:Nat} (h:S.O k = .tm (nmB B) [j]):K6 S L k = .pl (C B j) []:=by
 unfold K6 nmB at *
 rw [h]
 simp only
 rw [if_neg (by omega),if_neg (by omega),show (11+2 * B - 11) / 2=B by omega]
theorem Gi:∀ {m:List Lf},A3 m=true→∀ y∈m,F8 y=true
 |[],_=>by simp
 |x::m,h=>by
  intro y hy
  obtain ⟨h1,h2⟩:=Ij h
  rcases List.mem_cons.1 hy with rfl|hy
  ·rcases h2 with ⟨_,rfl⟩|⟨_,_,_,rfl⟩|⟨_,_,_,rfl⟩<;>rfl
  ·exact Gi h1 y hy
theorem K7:∀ l:List Lf,(∀ y∈l,F8 y=true)→A3 l=true
 |[],_=>rfl
 |x::l,h=>by
  have h1:=h x (by simp)
  have h2:=K7 l (λ y hy=>h y (List.mem_cons_of_mem _ hy))
  cases x<;>first|(simp [F8] at h1; done)|simpa [A3] using h2
theorem Qk {P:Program} {S:Sit} {cb:List (Nat×Nat)} {nv:Nat} (hn:nv≤1000):∀ (ps:List Par) {i:Nat} {ls:List (List Lf)} {us:List Value} {bp:List (Nat×Nat)},U5 P S cb cb nv i ps ls us bp→
  (∀ c∈bp,∃ j,i≤j∧j<i+ps.length∧c.2=bid nv j)∧(bp.map Prod.snd).Nodup∧(∀ c∈bp,∃ n,(S.g (H c.1)).2 = .one (.hd n))∧us.length=ps.length
 |[],i,[],[],bp,h=>by
  have:bp=[]:=h
  subst this
  exact ⟨by simp,by simp,by simp,rfl⟩
 |[],i,_::_,_,_,h=>h.elim
 |[],i,[],_::_,_,h=>h.elim
 |p::ps,i,[],_,_,h=>h.elim
 |p::ps,i,_::_,[],_,h=>h.elim
 |p::ps,i,l::ls,u::us,bp,h=>by
  obtain ⟨b1,b2,rfl,h1,h2⟩:=h
  obtain ⟨i1,i2,i3,i4⟩:=Qk hn ps h2
  have h3:b1=[]∨∃ b,b1=[(b,bid nv i)]∧∃ n,(S.g (H b)).2 = .one (.hd n):=by
   cases p with
   |val ag t=>exact .inl h1.1
   |vw t h0=>exact .inl h1.1
   |rd t=>exact .inl h1.1
   |fn F m=>exact .inl h1.1
   |ptr t t'=>obtain ⟨b,e,_,h4,_⟩:=h1; exact .inr ⟨b,e,_,h4⟩
   |hid t t'=>obtain ⟨b,e,_,h4,_⟩:=h1; exact .inr ⟨b,e,_,h4⟩
  have i1':∀ c∈b2,∃ j,i≤j∧j<i+(p::ps).length∧c.2=bid nv j:=λ c hc=>by
   obtain ⟨j,j1,j2,j3⟩:=i1 c hc
   exact ⟨j,by omega,by simp only [List.length_cons]; omega,j3⟩
  rcases h3 with rfl|⟨b,rfl,n,hb⟩
  ·exact ⟨i1',i2,i3,by simp [i4]⟩
  ·refine ⟨λ c hc=>?_,?_,λ c hc=>?_,by simp [i4]⟩
   ·rcases List.mem_cons.1 hc with rfl|hc
    ·exact ⟨i,Nat.le_refl _,by simp only [List.length_cons]; omega,rfl⟩
    ·exact i1' c hc
   ·rw [List.singleton_append,List.map_cons,List.nodup_cons]
    refine ⟨λ hm=>?_,i2⟩
    obtain ⟨c,hc,e⟩:=List.mem_map.1 hm
    obtain ⟨j,j1,j2,j3⟩:=i1 c hc
    rw [j3] at e
    have:=C7a hn e
    omega
   ·rcases List.mem_cons.1 hc with rfl|hc
    ·exact ⟨n,hb⟩
    ·exact i3 c hc
theorem Cca (K:Ae X S a) {cb L:List (Nat×Nat)} {nv:Nat} (hn1:(L.map Prod.fst).Nodup) (hn2:(L.map Prod.snd).Nodup):∀ (ps:List Par) {i:Nat} {ls ls':List (List Lf)} {us:List Value} {bp:List (Nat×Nat)},U5 X.P S cb cb nv i ps ls us bp→Mk (ps.map Par.ty) ls ls'→(∀ c∈bp,c∈L)→H7 nv i ps=true→
  I7 X.P (bare (K6 S L) S.w) (Iga S L) nv (cb.map (Ns S)) i ps ls' us
 |[],i,[],[],[],bp,_,_,_,_=>trivial
 |[],i,[],_::_,_,bp,_,hm,_,_=>hm.elim
 |[],i,_::_,_,_,bp,h,_,_,_=>h.elim
 |[],i,[],[],_::_,bp,h,_,_,_=>h.elim
 |p::ps,i,[],_,_,bp,h,_,_,_=>h.elim
 |p::ps,i,_::_,_,[],bp,h,_,_,_=>h.elim
 |p::ps,i,l::ls,[],_::_,bp,_,hm,_,_=>hm.elim
 |p::ps,i,l::ls,l'::ls',u::us,bp,h,hm,hb,hp=>by
  obtain ⟨b1,b2,rfl,h1,h2⟩:=h
  obtain ⟨⟨y,hy,rfl⟩,hm2⟩:=hm
  have hp2:H7 nv (i+1) ps=true:=by cases p<;>simp only [H7,Bool.and_eq_true] at hp<;>exact hp.2
  refine ⟨?_,Cca K hn1 hn2 ps h2 hm2 (λ b hb'=>hb b (List.mem_append_right _ hb')) hp2⟩
  have box:∀ {t t':Ty} {y:t.den},mkW t l=some y→Iea X.P S (bid nv i) t t' l u b1→Pd X.P (bare (K6 S L) S.w) (Iga S L) (bid nv i) t (A4 t y) u:=by
   rintro t t' y hy ⟨b,e1,e2,e3,e4,e5,e6,e7,e8⟩
   have hL:(b,bid nv i)∈L:=hb _ (by rw [e1]; simp)
   obtain ⟨g1,c,e,g2,g3,g4,g5⟩:=K.box b _ e3
   refine ⟨(S.bb b).1,(S.bb b).2,c,e,(List.range t.sz).map (λ j=>S.ph (C b (0+j))),e2,g2,?_,?_,g4,g1,Ec t y,λ j hj=>?_,?_⟩
   ·exact Cba g3 (X3 hn1 hL) rfl
   ·show Iga S L _=_
    unfold Iga
    rw [S8 hn2 hL]
    simp only [e3]
   ·rw [g5 j hj]
    simp [hj]
   ·have h3:A5 X.P (bare (K6 S L) S.w) (λ j => .pl (C (bid nv i) j) []) 0 l ((List.range t.sz).map λ j=>S.ph (C b (0+j))):=
     A5.impS (S1:=S) (Gi e6) (λ n x u hx h=>Ai.bare (S1:=S) (S2:=bare (K6 S L) S.w) (lab := .tm (nmB (bid nv i)) [n]) hx rfl (λ k hk=>Ip hk) (λ k hk=>Kea hk) h) e8
    exact Js e7 hy h3
  cases p with
  |vw t h0=>
   obtain ⟨_,e1,e2,e3,c,vs,e4,e5,e6,e7⟩:=h1
   obtain ⟨g1,cc,e,g2,g3,g4,g5⟩:=K.box c.1 _ e5
   refine ⟨e1,vs,(S.bb c.1).1,(S.bb c.1).2,cc,e,e6,?_,g2,g1,Ec t y,?_⟩
   ·rw [Fl] at e4
    rw [List.getElem?_map,e4]
    rfl
   ·have hcell:∀ j,j<t.sz→cc.getD ((S.bb c.1).2+j) undef=S.ph (C c.1 j):=λ j hj=>by
     have:=g5 j hj
     simp [Array.getD_eq_getD_getElem?,this]
    have h2:=Kba (Q:=λ j x u=>j<t.sz→Z2 X.P S (λ j=>S.ph (C c.1 j)) j x u) ?_ ?_ e3 hy (j:=0) (us:=vs) (Qj.imp (Q:=Z2 X.P S (λ j=>S.ph (C c.1 j))) (Q':=λ j x u=>j<t.sz→Z2 X.P S (λ j=>S.ph (C c.1 j)) j x u) (λ j x u h _=>h) e7)
    ·have key:∀ (l:List Lf) (j:Nat) (us:List Value),j+l.length≤t.sz→Qj (λ j x u=>j<t.sz→Z2 X.P S (λ j=>S.ph (C c.1 j)) j x u) j l us→Qj (Z2 X.P (bare (K6 S L) S.w) (λ j=>cc.getD ((S.bb c.1).2+j) undef)) j l us:=by
      intro l
      induction l with
      |nil=>intro j us _ h; cases us<;>first|trivial|exact h.elim
      |cons x l ih=>
       intro j us hj h
       simp only [List.length_cons] at hj
       cases us with
       |nil=>exact h.elim
       |cons u us=>
        refine ⟨?_,ih (j+1) us (by omega) h.2⟩
        have h3:=h.1 (by omega)
        cases x<;>first|(show u=cc.getD ((S.bb c.1).2+j) undef; rw [hcell j (by omega)]; exact h3)|(refine ⟨h3.1,?_⟩; have h4:=h3.1; simp [B3a] at h4; done)|skip
        ·exact ⟨rfl,Ai.bare (S1:=S) (S2:=bare (K6 S L) S.w) rfl rfl (λ k hk=>Ip hk) (λ k hk=>Ip hk) h3.2⟩
        ·exact ⟨rfl,Ai.bare (S1:=S) (S2:=bare (K6 S L) S.w) rfl rfl (λ k hk=>Ip hk) (λ k hk=>Ip hk) h3.2⟩
     exact key _ _ _ (by rw [Ec]; show 0+t.sz≤t.sz; omega) h2
    ·intro j e r r' xs ys u _ h hj
     exact h hj
    ·intro j e r r' xs ys u hc h hj
     exact ⟨rfl,L6 hc (h hj).2⟩
  |val ag t=>
   obtain ⟨_,e2,e3,vs,e4,e5⟩:=h1
   refine ⟨vs,e4,Js e3 hy ?_⟩
   exact A5.impS (S1:=S) (Gi e2) (λ n x u hx h=>Ai.bare (S1:=S) (S2:=bare (K6 S L) S.w) hx rfl (λ k hk=>Ip hk) (λ k hk=>Kda hk) h) e5
  |ptr t t'=>
   simp only [H7,Bool.and_eq_true] at hp
   exact ⟨Nat.le_of_ble_eq_true hp.1,box hy h1⟩
  |hid t t'=>
   simp only [H7,Bool.and_eq_true] at hp
   exact ⟨Nat.le_of_ble_eq_true hp.1,box hy h1⟩
  |rd t=>
   obtain ⟨_,r',x,k,o',cs,rfl,e3,e4,e5,e6,e7,e8⟩:=h1
   have h3:=Nd hy (Ig r' x cs e7)
   exact ⟨y,k,o',cs,Z8 t y,e5,Ip e6,Ty.rep_mono (λ k hk=>Ip hk) (λ _ _=>rfl) t y cs h3,e8⟩
  |fn F m=>
   obtain ⟨_,e2,e3⟩:=h1
   exact ⟨e3,by rw [List.length_map,e2]⟩
theorem Kfa (K:Ae X S a) {cb L:List (Nat×Nat)} {nv:Nat} (hn:nv≤1000) {ps:List Par} {ls:List (List Lf)} {us:List Value} (h:U5 X.P S cb cb nv 0 ps ls us L):
  ∀ k b,K6 S L k = .bx b→K7a nv ps.length b∧(∃ c e f,S.w.heap[k]? = some (.cells c e f))∧∀ k',K6 S L k' = .bx b→k'=k:=by
 obtain ⟨i1,i2,i3,_⟩:=Qk hn ps h
 have key:∀ k B,K6 S L k = .bx B→∃ b,(b,B)∈L∧k=(S.bb b).1:=by
  intro k B hk
  unfold K6 at hk
  split at hk
  ·cases hk
  ·split at hk
   ·cases hk
   ·split at hk
    ·cases hk
    ·split at hk<;>cases hk
  ·split at hk
   ·rename_i b heq _ B' hl
    split at hk
    ·rename_i hkb
     cases hk
     exact ⟨b,U7 hl,hkb⟩
    ·cases hk
   ·cases hk
  ·cases hk
 intro k B hk
 obtain ⟨b,hb,hkb⟩:=key k B hk
 obtain ⟨n,hh⟩:=i3 _ hb
 obtain ⟨_,c,e,g2,_⟩:=K.box b n hh
 obtain ⟨j,_,j2,j3⟩:=i1 _ hb
 refine ⟨⟨j,by omega,j3⟩,⟨c,e,(0,0),by rw [hkb]; exact g2⟩,λ k' hk'=>?_⟩
 obtain ⟨b',hb',hkb'⟩:=key k' B hk'
 rw [hkb,hkb',Ifa i2 hb hb']
theorem Z9 {S:Sit} {L:List (Nat×Nat)} {rg:Nat→Nat×Nat} {O':Nat→Lab} {w':World} (hF:Fr (K6 S L) S.w rg O' w'):
  (∀ k,k<S.w.heap.size→Jja (S.O k)=false→Aza S O' k=S.O k∧((∀ c∈L,k≠(S.bb c.1).1)→w'.heap[k]? = S.w.heap[k]?))∧
  (∀ k,O' k = .fz→Aza S O' k = .fz)∧(∀ k n q,O' k = .tm n q→Aza S O' k = .tm n q):=by
 have cases3:∀ k,k<S.w.heap.size→Jja (S.O k)=false→(O' k = .fz∧S.O k = .fz∧w'.heap[k]? = S.w.heap[k]?)∨(O' k = .no∧w'.heap[k]? = S.w.heap[k]?)∨(∃ c∈L,O' k = .bx c.2∧k=(S.bb c.1).1):=by
  intro k hk ht
  have no:K6 S L k = .no→(O' k = .no∧w'.heap[k]? = S.w.heap[k]?):=λ h=>hF.no k hk h
  cases hO:S.O k with
  |fz=>
   have:=hF.fz k hk (Ip hO)
   exact .inl ⟨this.1,rfl,this.2⟩
  |no=>exact .inr (.inl (no (by simp [K6,hO])))
  |pl l p=>exact .inr (.inl (no (by simp [K6,hO])))
  |tm n q=>rw [hO] at ht; simp [Jja] at ht
  |bx b=>
   cases hl:lkF L b with
   |none=>exact .inr (.inl (no (by simp [K6,hO,hl])))
   |some B=>
    by_cases hb:k=(S.bb b).1
    ·have h2:K6 S L k = .bx B:=by
      unfold K6
      rw [hO]
      simp only
      rw [hl]
      exact if_pos hb
     exact .inr (.inr ⟨(b,B),U7 hl,(hF.bx k B hk h2).1,hb⟩)
    ·refine .inr (.inl (no ?_))
     unfold K6
     rw [hO]
     simp only
     rw [hl]
     exact if_neg hb
 refine ⟨λ k hk ht=>⟨by unfold Aza; rw [if_pos ⟨hk,ht⟩],λ hnb=>?_⟩,λ k hk=>?_,λ k n q hk=>?_⟩
 ·rcases cases3 k hk ht with h|h|⟨c,h1,_,h2⟩
  ·exact h.2.2
  ·exact h.2
  ·exact absurd h2 (hnb c h1)
 ·unfold Aza
  split
  ·rename_i hc
   rcases cases3 k hc.1 hc.2 with h|h|⟨c,_,h,_⟩
   ·exact h.2.1
   ·rw [hk] at h; cases h.1
   ·rw [hk] at h; cases h
  ·rw [hk]; rfl
 ·unfold Aza
  split
  ·rename_i hc
   rcases cases3 k hc.1 hc.2 with h|h|⟨c,_,h,_⟩
   ·rw [hk] at h; cases h.1
   ·rw [hk] at h; cases h.1
   ·rw [hk] at h; cases h
  ·rw [hk]; rfl
theorem Kga (w w':World) (hsz:w.heap.size≤w'.heap.size):∀ ks:List Nat,∃ w1:World,w1 = { w' with heap:=w1.heap }∧w1.heap.size=w'.heap.size∧(∀ k∈ks,k<w.heap.size→w1.heap[k]? = w.heap[k]?)∧∀ k,k∉ks→w1.heap[k]? = w'.heap[k]?
 |[]=>⟨w',rfl,rfl,by simp,λ _ _=>rfl⟩
 |k0::ks=>by
  obtain ⟨w1,h1,h2,h3,h4⟩:=Kga w w' hsz ks
  by_cases hk:k0<w.heap.size
  ·refine ⟨{ w' with heap:=w1.heap.setIfInBounds k0 w.heap[k0] },rfl,by simp [h2],λ k hm hkl=>?_,λ k hm=>?_⟩
   ·show (w1.heap.setIfInBounds k0 w.heap[k0])[k]? = _
    by_cases e:k=k0
    ·subst e
     rw [Array.getElem?_setIfInBounds_self,if_pos (by omega),Array.getElem?_eq_getElem hk]
    ·rw [Array.getElem?_setIfInBounds_ne (Ne.symm e)]
     exact h3 k ((List.mem_cons.1 hm).resolve_left e) hkl
   ·show (w1.heap.setIfInBounds k0 w.heap[k0])[k]? = _
    rw [Array.getElem?_setIfInBounds_ne (λ e=>hm (by rw [e]; exact List.mem_cons_self))]
    exact h4 k (λ h=>hm (List.mem_cons_of_mem _ h))
  ·refine ⟨w1,h1,h2,λ k hm hkl=>?_,λ k hm=>h4 k (λ h=>hm (List.mem_cons_of_mem _ h))⟩
   rcases List.mem_cons.1 hm with rfl|hm
   ·exact absurd hkl hk
   ·exact h3 k hm hkl
structure Bk where
 b:Nat
 n:Nat
 l:List Lf
 us:List Value
def Bk.Ok (P:Program) (S:Sit) (w':World) (d:Bk):Prop:=
 ∃ c c' e,(S.g (H d.b)).2 = .one (.hd d.l.length)∧S.w.heap[(S.bb d.b).1]? = some (.cells c e (0,0))∧w'.heap[(S.bb d.b).1]? = some (.cells c' e (0,0))∧c'.size=c.size∧
  (∀ i,(i<(S.bb d.b).2∨(S.bb d.b).2+d.l.length≤i)→c'[i]? = c[i]?)∧(∀ j,j<d.l.length→c'[(S.bb d.b).2+j]? = d.us[j]?)∧A3 d.l=true∧A5 P S (λ j => .tm d.n [j]) 0 d.l d.us
theorem X4 {w':World}:∀ (D:List Bk) {S:Sit} {A:Ab},Ae X S a→S.g=get A→(∀ d∈D,d.Ok X.P S w')→(D.map Bk.b).Nodup→(D.map Bk.n).Nodup→(∀ d∈D,1001≤d.n∧d.n<5000)→(∀ k,(∀ d∈D,k≠(S.bb d.b).1)→w'.heap[k]? = S.w.heap[k]?)→S.w = { w' with heap:=S.w.heap }→
  ∃ S',Ae X S' a∧S'.g=get (ups A (D.flatMap λ d=>B2 d.b 0 d.l))∧S'.w=w'∧(∀ k,S.O k = .fz→S'.O k = .fz)∧(∀ n q k,0<n→n<1001→S.O k = .tm n q→S'.O k = .tm n q)∧(∀ n q x u,0<n→n<1001→F8 x=true→Ai X.P S (.tm n q) x u→Ai X.P S' (.tm n q) x u)
 |[],S,A,K,hg,_,_,_,_,hh,hw=>by
  have e1:w'.heap=S.w.heap:=Array.ext_getElem? λ k=>hh k (by simp)
  refine ⟨S,K,hg,?_,λ _ h=>h,λ _ _ _ _ _ h=>h,λ _ _ _ _ _ _ _ h=>h⟩
  rw [hw,← e1]
 |d::D,S,A,K,hg,hD,hb,hn,hr,hh,hw=>by
  obtain ⟨c,c',e,d1,d2,d3,d4,d5,d6,d7,d8⟩:=hD d (by simp)
  rw [List.map_cons,List.nodup_cons] at hb hn
  obtain ⟨r1,r2⟩:=hr d (by simp)
  let hh0:Nat→List Nat→Option Lab:=λ n q=>if n=d.n then some (.tm 0 q) else if n=0 then some (.tm 99998 q) else none
  obtain ⟨K1,L1⟩:=K.names hh0 (by
   intro n q
   simp only [hh0]
   split
   ·simp
   ·split<;>simp)
  have keep1:∀ n q k,n≠d.n→n≠0→S.O k = .tm n q→atO S.O hh0 k = .tm n q:=λ n q k h1 h2 hk=>Hq hk (by simp [hh0,h1,h2])
  have hl0:A5 X.P { S with O:=atO S.O hh0 } (λ j => .tm 0 [j]) 0 d.l d.us:=d8.imp (λ j x u hx=>hx.later L1 (λ k hk=>⟨Fw hk (by simp [hh0]),rfl⟩))
  have hul:=d8.len
  obtain ⟨hn9,c0,e0,b1,b2,b3,b4⟩:=K.box d.b d.l.length d1
  rw [d2] at b1
  cases b1
  obtain ⟨K2,L2⟩:=K1.cells (b:=d.b) (n:=d.l.length) (off:=0) (q:=λ j=>[j]) d1 (by omega) d2 hl0 (λ j hj=>rfl) (Hg d7)
  generalize hwS:({ S with O:=atO S.O hh0 }:Sit).w.setRow (({ S with O:=atO S.O hh0 }:Sit).bb d.b).1 (c.toList.take ((({ S with O:=atO S.O hh0 }:Sit).bb d.b).2+0)++d.us++c.toList.drop ((({ S with O:=atO S.O hh0 }:Sit).bb d.b).2+0+d.us.length)).toArray=w2 at K2 L2
  have hwS':S.w.setRow (S.bb d.b).1 (c.toList.take ((S.bb d.b).2+0)++d.us++c.toList.drop ((S.bb d.b).2+0+d.us.length)).toArray=w2:=hwS
  have harr:(c.toList.take ((S.bb d.b).2+0)++d.us++c.toList.drop ((S.bb d.b).2+0+d.us.length)).toArray=c':=by
   refine Array.ext_getElem? λ j=>?_
   have hct:c.toList.length=c.size:=Array.length_toList
   have ht:(c.toList.take ((S.bb d.b).2+0)).length=(S.bb d.b).2:=by rw [List.length_take,hct]; omega
   rw [List.getElem?_toArray]
   have hcj:∀ i,c.toList[i]? = c[i]? := λ i=>Array.getElem?_toList
   by_cases h1:j<(S.bb d.b).2
   ·rw [List.append_assoc,List.getElem?_append_left (by omega),List.getElem?_take,if_pos (by omega),hcj]
    exact (d5 j (.inl h1)).symm
   ·by_cases h2:j<(S.bb d.b).2+d.l.length
    ·rw [List.getElem?_append_left (by rw [List.length_append,ht]; omega),List.getElem?_append_right (by omega),ht]
     have:=d6 (j - (S.bb d.b).2) (by omega)
     rw [show (S.bb d.b).2+(j - (S.bb d.b).2)=j by omega] at this
     exact this.symm
    ·rw [List.getElem?_append_right (by rw [List.length_append,ht]; omega),List.length_append,ht,List.getElem?_drop,hcj,hul]
     rw [show (S.bb d.b).2+0+d.l.length+(j - ((S.bb d.b).2+d.l.length))=j by omega]
     exact (d5 j (.inr (by omega))).symm
  have hw2k:w2.heap[(S.bb d.b).1]? = w'.heap[(S.bb d.b).1]?:=by
   rw [← hwS',setRow_heap _ _ _ _ _ _ d2,harr,d3]
  have hw2o:∀ k,k≠(S.bb d.b).1→w2.heap[k]? = S.w.heap[k]? := λ k hk=>by rw [← hwS']; exact setRow_other _ _ _ _ hk
  have keep2:∀ n q k,n≠d.n→n≠0→S.O k = .tm n q→(Qd { S with O:=atO S.O hh0 } (Oq d.b 0) d.b 0 d.l d.us w2).O k = .tm n q:=λ n q k h1 h2 hk=>
   Hq (h:=Oq d.b 0) (keep1 n q k h1 h2 hk) (by simp [Oq,h2])
  have hdist:∀ d'∈D,d'.b≠d.b∧d'.n≠d.n:=λ d' hd'=>⟨λ e=>hb.1 (by rw [← e]; exact List.mem_map_of_mem hd'),λ e=>hn.1 (by rw [← e]; exact List.mem_map_of_mem hd')⟩
  have hblk:∀ d'∈D,(S.bb d'.b).1≠(S.bb d.b).1:=λ d' hd' e1=>by
   obtain ⟨c1,c1',e2,x1,_⟩:=hD d' (List.mem_cons_of_mem _ hd')
   obtain ⟨_,_,_,_,y2,_⟩:=K.box d'.b _ x1
   rw [e1,b2] at y2
   simp only [Option.some.injEq,Lab.bx.injEq] at y2
   exact (hdist d' hd').1 y2.symm
  have hsame:∀ n q x u,n≠d.n→n≠0→F8 x=true→Ai X.P S (.tm n q) x u→Ai X.P (Qd { S with O:=atO S.O hh0 } (Oq d.b 0) d.b 0 d.l d.us w2) (.tm n q) x u:=λ n q x u h1 h2 _ hx=>
   (hx.later L1 (lab' := .tm n q) (λ k hk=>⟨keep1 n q k h1 h2 hk,rfl⟩)).later L2 (λ k hk=>by
    have hk':atO S.O hh0 k = .tm n q:=hk
    refine ⟨Hq (h:=Oq d.b 0) hk' (by simp [Oq,h2]),hw2o k (λ e1=>?_)⟩
    rw [e1] at hk'
    rw [Ah b2 (by simp)] at hk'
    cases hk')
  obtain ⟨S3,K3,g3,w3,o3,t3,s3⟩:=X4 D (A:=ups A (B2 d.b 0 d.l)) K2 (by
   show Ii S.g d.b 0 d.l=_
   rw [G4,← hg]) (λ d' hd'=>by
   obtain ⟨c1,c1',e2,x1,x2,x3,x4,x5,x6,x7,x8⟩:=hD d' (List.mem_cons_of_mem _ hd')
   obtain ⟨z1,z2⟩:=hr d' (List.mem_cons_of_mem _ hd')
   refine ⟨c1,c1',e2,?_,(hw2o _ (hblk d' hd')).trans x2,x3,x4,x5,x6,x7,?_⟩
   ·show (Ii S.g d.b 0 d.l (H d'.b)).2=_
    unfold Ii
    rw [if_neg (D9 (by omega))]
    exact x1
   ·exact A5.impS (Gi x7) (λ n x u hx h=>hsame _ _ x u (hdist d' hd').2 (by omega) hx h) x8) hb.2 hn.2 (λ d' hd'=>hr d' (List.mem_cons_of_mem _ hd')) (λ k hk=>by
   by_cases h1:k=(S.bb d.b).1
   ·rw [h1]; exact hw2k.symm
   ·show w'.heap[k]? = w2.heap[k]?
    rw [hw2o k h1]
    exact hh k (λ d' hd'=>by
     rcases List.mem_cons.1 hd' with rfl|hd'
     ·exact h1
     ·exact hk d' hd')) (by
   have h5:w2 = { S.w with heap:=w2.heap }:=by rw [← hwS']; rfl
   have h6:({ S.w with heap:=w2.heap }:World) = { w' with heap:=w2.heap }:=by rw [hw]
   exact h5.trans h6)
  refine ⟨S3,K3,?_,w3,λ k hk=>o3 k (Ah (h:=Oq d.b 0) (Ah hk (by simp)) (by simp)),λ n q k h1 h2 hk=>t3 n q k h1 h2 (keep2 n q k (by omega) (by omega) hk),λ n q x u h1 h2 hx h=>s3 n q x u h1 h2 hx (hsame n q x u (by omega) (by omega) hx h)⟩
  rw [g3,List.flatMap_cons,Ad]
theorem Ql {P:Program} {S Sb:Sit} {cb:List (Nat×Nat)} {nv:Nat}:∀ (ps:List Par) {i:Nat} {ls lb:List (List Lf)} {us:List Value} {bp:List (Nat×Nat)} {ws:List Up},U5 P S cb cb nv i ps ls us bp→Hv P Sb i ps us lb→(∀ l∈lb,∀ y∈l,F8 y=true)→Y5 (bp.map Prod.fst) lb=some ws→
  ∃ D:List Bk,D.map Bk.b=bp.map Prod.fst∧ws=D.flatMap (λ d=>B2 d.b 0 d.l)∧(D.map Bk.n).Nodup∧
   ∀ d∈D,∃ j B t c e,i≤j∧j<i+ps.length∧d.n=1001+j∧(d.b,B)∈bp∧(S.g (H d.b)).2 = .one (.hd t)∧d.l.length=t∧A3 d.l=true∧Sb.w.heap[(S.bb d.b).1]? = some (.cells c e (0,0))∧(∀ j,j<t→c[(S.bb d.b).2+j]? = d.us[j]?)∧A5 P Sb (λ j => .tm d.n [j]) 0 d.l d.us
 |[],i,[],lb,[],bp,ws,h,hb,_,hw=>by
  have e1:bp=[]:=h
  have e2:lb=[]:=hb
  subst e1 e2
  simp only [List.map_nil,Y5,Option.some.injEq] at hw
  subst hw
  exact ⟨[],rfl,rfl,by simp,by simp⟩
 |[],i,_::_,_,_,_,_,h,_,_,_=>h.elim
 |[],i,[],_,_::_,_,_,h,_,_,_=>h.elim
 |p::ps,i,[],_,_,_,_,h,_,_,_=>h.elim
 |p::ps,i,_::_,_,[],_,_,h,_,_,_=>h.elim
 |p::ps,i,l::ls,lb,u::us,bp,ws,h,hb,hs,hw=>by
  obtain ⟨b1,b2,rfl,h1,h2⟩:=h
  have skip:b1=[]→Hv P Sb (i+1) ps us lb→∃ D:List Bk,D.map Bk.b=(b1++b2).map Prod.fst∧ws=D.flatMap (λ d=>B2 d.b 0 d.l)∧(D.map Bk.n).Nodup∧
   ∀ d∈D,∃ j B t c e,i≤j∧j<i+(p::ps).length∧d.n=1001+j∧(d.b,B)∈b1++b2∧(S.g (H d.b)).2 = .one (.hd t)∧d.l.length=t∧A3 d.l=true∧Sb.w.heap[(S.bb d.b).1]? = some (.cells c e (0,0))∧(∀ j,j<t→c[(S.bb d.b).2+j]? = d.us[j]?)∧A5 P Sb (λ j => .tm d.n [j]) 0 d.l d.us:=by
   intro e1 hb2
   subst e1
   rw [List.nil_append] at hw ⊢
   obtain ⟨D,h3,h4,h5,h6⟩:=Ql ps h2 hb2 hs hw
   exact ⟨D,h3,h4,h5,λ d hd=>by
    obtain ⟨j,B,t,c,e,j1,j2,rest⟩:=h6 d hd
    exact ⟨j,B,t,c,e,by omega,by simp only [List.length_cons]; omega,rest⟩⟩
  have box:∀ {t t':Ty} {lb':List (List Lf)} {l':List Lf},lb=l'::lb'→Iea P S (bid nv i) t t' l u b1→Pe P Sb i t' l' u→Hv P Sb (i+1) ps us lb'→∃ D:List Bk,D.map Bk.b=(b1++b2).map Prod.fst∧ws=D.flatMap (λ d=>B2 d.b 0 d.l)∧(D.map Bk.n).Nodup∧
   ∀ d∈D,∃ j B t c e,i≤j∧j<i+(p::ps).length∧d.n=1001+j∧(d.b,B)∈b1++b2∧(S.g (H d.b)).2 = .one (.hd t)∧d.l.length=t∧A3 d.l=true∧Sb.w.heap[(S.bb d.b).1]? = some (.cells c e (0,0))∧(∀ j,j<t→c[(S.bb d.b).2+j]? = d.us[j]?)∧A5 P Sb (λ j => .tm d.n [j]) 0 d.l d.us:=by
   rintro t t' lb' l' rfl ⟨b,e1,e2,e3,e4,_⟩ ⟨k,o',c,e,vs,f1,f2,f3,f4,f5⟩ hb2
   subst e1
   rw [e2] at f1
   cases f1
   simp only [List.singleton_append,List.map_cons,Y5] at hw
   split at hw
   ·rename_i ws' hws'
    simp only [Option.some.injEq] at hw
    subst hw
    obtain ⟨D,h3,h4,h5,h6⟩:=Ql ps h2 hb2 (λ l hl=>hs l (List.mem_cons_of_mem _ hl)) hws'
    refine ⟨⟨b,1001+i,l',vs⟩::D,by simp [h3],by rw [List.flatMap_cons,h4],?_,λ d hd=>?_⟩
    ·rw [List.map_cons,List.nodup_cons]
     refine ⟨λ hm=>?_,h5⟩
     obtain ⟨d,hd,e5⟩:=List.mem_map.1 hm
     obtain ⟨j,_,_,_,_,j1,_,j3,_⟩:=h6 d hd
     have e6:d.n=1001+i:=e5
     omega
    ·rcases List.mem_cons.1 hd with rfl|hd
     ·exact ⟨i,bid nv i,t.sz,c,e,Nat.le_refl _,by simp only [List.length_cons]; omega,rfl,by simp,e3,by rw [f3,e4],K7 _ (hs l' (by simp)),f2,λ j hj=>f4 j (by omega),f5⟩
     ·obtain ⟨j,B,t,c,e,j1,j2,j3,j4,rest⟩:=h6 d hd
      exact ⟨j,B,t,c,e,by omega,by simp only [List.length_cons]; omega,j3,List.mem_cons_of_mem _ j4,rest⟩
   ·cases hw
  cases p with
  |val ag t=>exact skip h1.1 hb
  |vw t h0=>exact skip h1.1 hb
  |rd t=>exact skip h1.1 hb
  |fn F m=>exact skip h1.1 hb
  |ptr t t'=>
   cases lb with
   |nil=>exact hb.elim
   |cons l' lb'=>exact box rfl h1 hb.1 hb.2
  |hid t t'=>
   cases lb with
   |nil=>exact hb.elim
   |cons l' lb'=>exact box rfl h1 hb.1 hb.2
theorem Iha (hE:Gj X E) (K:Ae X S a) (hg:S.g=get A) {xs:List (TypeId×Operand)} {cs cb:List (Nat×Nat)} {f:FuncId} {en:Ent} (hrun:(execOp a.eval o).run X.P S.w = .ok (.enter f (xs.map (λ x=>a.eval x.2)++cs.map (Ns S)).toArray) S.w) (hd:∀ d,o.dst=some d→d<X.nt)
  (hco:A6 X.P f en) (hnv:en.nv=xs.length+cs.length) (hp:B6a E en.rs o.dst=true) (hn:en.nv≤1000) (hps:H7 en.nv 0 en.ps=true) (hlen:en.ps.length≤2000) (hrl:en.rs.length≤400)
  (h:(match Hd E cb cb en.nv A xs (cs++cb) en.ps with
  |none=>none
  |some (ls,us,bs)=>bif N8 bs then (match Lv _ ls with
   |none=>none
   |some x=>(en.run x).bind λ r=>
    match Y5 bs ((Bj _ r).drop en.rs.length) with
    |none=>none
    |some ws=>match Kf (ups (ups A us) ws) en.rs (shL E o.dst (Bj _ r)) o.dst with
     |none=>none
     |some rs=>Kc (us++(ws++rs))) else none)=some r):Fh X o a S.w A Kc r:=by
 have hnp:∀ d',o.dst=some d'→Gv en.rs=true→X.np≤d':=λ d' h1 h2=>by
  have:=hp
  unfold B6a at this
  rw [h1,h2] at this
  exact hE.np ▸ (Nat.le_of_ble_eq_true (by simpa using this))
 split at h
 ·cases h
 ·rename_i ls us bs hargs
  cases hnd:N8 bs with
  |false=>rw [hnd] at h; simp at h
  |true=>
   rw [hnd,cond_true] at h
   split at h
   ·cases h
   ·rename_i x hx
    cases hrun':en.run x with
    |none=>rw [hrun'] at h; simp at h
    |some y=>
     rw [hrun'] at h
     simp only [Option.bind_some] at h
     split at h
     ·cases h
     ·rename_i ws hws
      split at h
      ·cases h
      ·rename_i rs hrs
       obtain ⟨S1,L,K1,g1,G1,hLb,p1⟩:=S7 (X:=X) (a:=a) hE hn en.ps 0 K hg hargs
       have hpv:Ns S1=Ns S:=by funext b; unfold Ns; rw [G1.bb]
       obtain ⟨i1,i2,i3,i4⟩:=Qk hn en.ps p1
       have hn1:(L.map Prod.fst).Nodup:=by rw [hLb]; exact S9 hnd
       have hok:=Cca K1 hn1 i2 en.ps p1 (N2 _ _ _ hx) (λ _ h=>h) hps
       have hdrop:(xs.map (λ x=>a.eval x.2)++(cs++cb).map (Ns S)).drop en.nv=cb.map (Ns S1):=by
        rw [hpv,hnv,List.map_append,← List.append_assoc,List.drop_left' (by simp)]
       have htake:(xs.map (λ x=>a.eval x.2)++(cs++cb).map (Ns S)).take en.nv=xs.map (λ x=>a.eval x.2)++cs.map (Ns S):=by
        rw [hnv,List.map_append,← List.append_assoc,List.take_left' (by simp)]
       have hs:=hco.sound x y hrun' S1.w (K6 S1 L) (Iga S1 L) _ (λ k hk=>K1.lt k (λ e=>hk (by simp [K6,e]))) (Kfa K1 hn p1) (by rw [hdrop]; exact hok)
       rw [htake] at hs
       refine ⟨_,h,Ph hrun (M9 (by rw [← G1.w]; exact hs) ?_)⟩
       rintro e w' ⟨v,O',rfl,hF,hlt,hres,hback⟩
       refine ⟨v,rfl,?_⟩
       obtain ⟨a1,a2,a3⟩:=Z9 hF
       have hlt2:∀ k,Aza S1 O' k ≠ .no→k<w'.heap.size:=λ k hk=>by
        by_cases hkl:k<S1.w.heap.size
        ·exact Nat.lt_of_lt_of_le hkl hF.size
        ·refine hlt k (λ e=>hk ?_)
         unfold Aza
         rw [if_neg (λ h=>hkl h.1),e]
         rfl
       have hnt:∀ k,(∀ n q,S1.O k ≠ .tm n q)→Jja (S1.O k)=false:=λ k hk=>by
        cases hO:S1.O k<;>first|rfl|exact absurd hO (hk _ _)
       have hsol:=Ga (en.rs.map Prod.snd++Gu en.ps) y
       rw [← hLb] at hws
       obtain ⟨D,D1,D2,D3,D4⟩:=Ql en.ps p1 hback (λ l hl=>hsol l (List.mem_of_mem_drop hl)) hws
       obtain ⟨w1,r1,r2,r3,r4⟩:=Kga S1.w w' hF.size (L.map λ c=>(S1.bb c.1).1)
       have hblk:∀ k,k<S1.w.heap.size→Jja (S1.O k)=false→w1.heap[k]? = S1.w.heap[k]? := λ k hk ht=>by
        by_cases hm:k∈L.map λ c=>(S1.bb c.1).1
        ·exact r3 k hm hk
        ·rw [r4 k hm]
         exact (a1 k hk ht).2 (λ c hc e=>hm (by rw [e]; exact List.mem_map_of_mem (f:=λ c:Nat×Nat=>(S1.bb c.1).1) hc))
       have ros:w1.os=w'.os:=by rw [r1]
       have rtape:w1.tape=w'.tape:=by rw [r1]
       have rout:w1.output=w'.output:=by rw [r1]
       obtain ⟨K2,L2⟩:=K1.world (w':=w1) (O':=Aza S1 O') (λ k hk ht=>⟨(a1 k hk (hnt k ht)).1,hblk k hk (hnt k ht)⟩) (ros.trans hF.os) (rtape.trans hF.tape) (rout.trans hF.out) (by rw [r2]; exact hF.size) (λ k hk=>by rw [r2]; exact hlt2 k hk)
       have hbr:∀ {n:Nat} {q:List Nat} {x:Lf} {u:Value},F8 x=true→Ai X.P (bare O' w') (.tm n q) x u→Ai X.P (Oy S1 w1 (Aza S1 O')) (.tm n q) x u:=by
        intro n q x u hx hu
        have hno:∀ k,(O' k = .fz∨O' k = .tm n q)→w1.heap[k]? = w'.heap[k]? := λ k hk=>by
         by_cases hm:k∈L.map λ c=>(S1.bb c.1).1
         ·exfalso
          obtain ⟨c,hc,rfl⟩:=List.mem_map.1 hm
          obtain ⟨m,hm1⟩:=i3 c hc
          obtain ⟨_,cc,ee,g2,g3,_⟩:=K1.box c.1 m hm1
          have hcal:K6 S1 L (S1.bb c.1).1 = .bx c.2:=Cba g3 (X3 hn1 (show (c.1,c.2)∈L from hc)) rfl
          have:=(hF.bx _ _ (K1.lt _ (by rw [g3]; simp)) hcal).1
          rcases hk with hk|hk<;>rw [this] at hk<;>cases hk
         ·exact r4 k hm
        cases x with
        |sc v=>exact hu
        |fz e r xs=>exact Ty.rep_mono (t := .sl e r) (λ k hk=>a2 k hk) (λ k hk=>hno k (.inl hk)) _ _ hu
        |own e r xs=>exact D5.later (O':=Aza S1 O') (w':=w1) hu (λ k hk=>⟨a2 k hk,hno k (.inl hk)⟩) (λ k hk=>⟨a3 k n q hk,hno k (.inr hk)⟩)
        |_=>simp [F8] at hx
       have hDok:∀ d∈D,d.Ok X.P (Oy S1 w1 (Aza S1 O')) w':=λ d hd'=>by
        obtain ⟨j,B,t,c',e',j1,j2,j3,j4,j5,j6,j7,j8,j9,j10⟩:=D4 d hd'
        obtain ⟨g0,c0,e0,g2,g3,g4,g5⟩:=K1.box d.b _ j5
        have hcal:K6 S1 L (S1.bb d.b).1 = .bx B:=Cba g3 (X3 hn1 j4) rfl
        have hkl:=K1.lt _ (show S1.O (S1.bb d.b).1 ≠ .no by rw [g3]; simp)
        obtain ⟨_,c1,c2,e7,ff,x2,x3,x4,x5⟩:=hF.bx _ _ hkl hcal
        rw [g2] at x2
        cases x2
        have j8':w'.heap[(S1.bb d.b).1]? = some (.cells c' e'):=j8
        rw [x3] at j8'
        cases j8'
        have hrg:Iga S1 L B=((S1.bb d.b).2,t):=by
         unfold Iga
         rw [S8 i2 j4]
         simp only [j5]
        rw [hrg] at x5
        refine ⟨c0,_,_,by rw [j6]; exact j5,?_,x3,x4,λ i hi=>x5 i (by rw [j6] at hi; exact hi),λ j hj=>j9 j (by omega),j7,?_⟩
        ·show w1.heap[(S1.bb d.b).1]? = _
         rw [hblk _ hkl (by rw [g3]; rfl)]
         exact g2
        ·exact A5.impS (Gi j7) (λ n x u hx hu=>hbr hx hu) j10
       obtain ⟨S2,K3,g3,w3,o3,t3,s3⟩:=X4 (w':=w') D (A:=ups A us) K2 g1 hDok (by rw [D1]; exact hn1) D3 (λ d hd'=>by
        obtain ⟨j,_,_,_,_,_,j2,j3,_⟩:=D4 d hd'
        exact ⟨by omega,by omega⟩) (λ k hk=>(r4 k (λ hm=>by
        obtain ⟨c,hc,hce⟩:=List.mem_map.1 hm
        have:c.1∈D.map Bk.b:=by rw [D1]; exact List.mem_map_of_mem hc
        obtain ⟨d,hd',hde⟩:=List.mem_map.1 this
        refine hk d hd' ?_
        rw [← hce,← hde]
        rfl)).symm) r1
       have hnames:∀ (n:Nat) (q:List Nat) (x:Lf) (u:Value),0<n→n<1001→F8 x=true→Ai X.P (bare O' w') (.tm n q) x u→Ai X.P S2 (.tm n q) x u:=λ n q x u h1 h2 hx hu=>s3 n q x u h1 h2 hx (hbr hx hu)
       have hlb:∀ n q k,0<n→n<1001→O' k = .tm n q→S2.O k = .tm n q:=λ n q k h1 h2 hk=>t3 n q k h1 h2 (a3 k n q hk)
       have hres1:Fk X.P S2 S1.w.heap.size en.rs (Bj _ y) v:=by
        have one:∀ {i:Nat} {k:RK} {l:List Lf} {u:Value},0<i→i<500→(∀ z∈l,F8 z=true)→J9 X.P (bare O' w') S1.w.heap.size i k l u→J9 X.P S2 S1.w.heap.size i k l u:=by
         intro i k l u h1 h2 hz h
         cases k with
         |one=>exact A5.impM (λ x hx n u h=>hnames _ _ x u h1 (by omega) (hz x hx) h) h
         |agg=>
          obtain ⟨us,e,h⟩:=h
          exact ⟨us,e,h.impM (λ x hx n u h=>hnames _ _ x u h1 (by omega) (hz x hx) h)⟩
         |ptr=>
          obtain ⟨k,o',c,e,us,e1,e2,e3,e4,e5,e6,e7,h⟩:=h
          exact ⟨k,o',c,e,us,e1,by rw [w3]; exact e2,e3,hlb _ _ _ (by omega) (by omega) e4,e5,e6,e7,h.impM (λ x hx n u h=>hnames _ _ x u h1 (by omega) (hz x hx) h)⟩
        have all:∀ (rs:List (RK×Ty)) {i:Nat} {ls:List (List Lf)} {us:List Value},0<i→i+rs.length<500→(∀ l∈ls,∀ z∈l,F8 z=true)→Gr X.P (bare O' w') S1.w.heap.size i rs ls us→Gr X.P S2 S1.w.heap.size i rs ls us:=by
         intro rs
         induction rs with
         |nil=>intro i ls us _ _ _ h; exact h
         |cons r rs ih=>
          intro i ls us h1 h2 hz h
          cases ls with
          |nil=>exact h.elim
          |cons l ls=>
           cases us with
           |nil=>exact h.elim
           |cons u us=>
            simp only [List.length_cons] at h2
            exact ⟨one h1 (by omega) (hz l (by simp)) h.1,ih (by omega) (by omega) (λ l hl=>hz l (List.mem_cons_of_mem _ hl)) h.2⟩
        unfold Fk at hres ⊢
        split at hres
        ·obtain ⟨l,ls',e1,h5⟩:=hres
         exact ⟨l,ls',e1,one (by omega) (by omega) (hsol l (by rw [e1]; simp)) h5⟩
        ·obtain ⟨us',e1,h5⟩:=hres
         exact ⟨us',e1,all en.rs (by omega) (by omega) hsol h5⟩
       obtain ⟨S3,K4,w4,g4⟩:=X1 (E:=E) K3 g3 (λ _=>hrl) hd K1.fr.size (Ga _ y) hnp hres1 (by rw [← D2]; exact hrs)
       refine ⟨S3,w4.trans w3,K4,?_⟩
       rw [g4,← D2,Ad,Ad]
theorem Cda {α β:Type}:∀ {l:List α} {m:List β},m.length≤l.length→(l.zip m).map Prod.snd=m
 |_,[],_=>by simp
 |[],_::_,h=>by simp at h
 |_::l,_::m,h=>by simp [Cda (l:=l) (m:=m) (by simpa using h)]
theorem Qm:∀ {Ts:List TypeId} {xs:List Operand} {ss:List Sv},Ly E Ts A xs=some ss→xs.length≤Ts.length
 |_,[],_,_=>Nat.zero_le _
 |[],_::_,_,h=>by simp [Ly] at h
 |T::Ts,x::xs,ss,h=>by
  simp only [Ly] at h
  split at h
  ·split at h
   ·rename_i hr
    simp only [List.length_cons]
    have:=Qm hr
    omega
   ·cases h
  ·cases h
theorem X5 (hE:Gj X E) (K:Ae X S a) (hg:S.g=get A) {Ts:List TypeId} {xs:List Operand} {cs:List (Nat×Nat)} {f:FuncId} {en:Ent} {ss:List Sv} (hrun:(execOp a.eval o).run X.P S.w = .ok (.enter f (xs.map a.eval++cs.map (Ns S)).toArray) S.w) (hd:∀ d,o.dst=some d→d<X.nt)
  (hco:A6 X.P f en) (hss:Ly E Ts A xs=some ss) (h:Q2 E A en (Ts.zip xs) cs ss o.dst Kc=some r):Fh X o a S.w A Kc r:=by
 unfold Q2 at h
 have hz:=Cda (Qm hss)
 have hzl:(Ts.zip xs).length=xs.length:=by
  rw [List.length_zip]
  have:=Qm hss
  omega
 cases hnv:Nat.beq en.nv ((Ts.zip xs).length+cs.length) with
 |false=>rw [hnv] at h; simp at h
 |true=>
  rw [hnv,cond_true] at h
  have hnv':en.nv=xs.length+cs.length:=by rw [← hzl]; exact Nat.eq_of_beq_eq_true hnv
  cases hl:(J0 en.ps&&On en.rs&&cs.isEmpty) with
  |true=>
   rw [hl,cond_true] at h
   simp only [Bool.and_eq_true,List.isEmpty_iff] at hl
   obtain ⟨⟨l1,l2⟩,l3⟩:=hl
   subst l3
   simp only [List.map_nil,List.append_nil] at hrun
   exact Ida hE K hg hrun hd hco (by simpa using hnv') (Tv hE K hg hss) l1 l2 h
  |false=>
   rw [hl,cond_false] at h
   cases hp:(B6a E en.rs o.dst&&(Nat.ble en.nv 1000&&H7 en.nv 0 en.ps&&Nat.ble en.rs.length 400&&Nat.ble en.ps.length 2000)) with
   |false=>rw [hp] at h; simp at h
   |true=>
    rw [hp,cond_true] at h
    simp only [Bool.and_eq_true] at hp
    obtain ⟨p1,⟨⟨p2,p3⟩,p4⟩,p5⟩:=hp
    refine Iha (xs:=Ts.zip xs) (cs:=cs) (cb:=B4a ss++Rb A en.ps ss) hE K hg ?_ hd hco (by rw [hzl]; exact hnv') p1 (Nat.le_of_ble_eq_true p2) p3 (Nat.le_of_ble_eq_true p5) (Nat.le_of_ble_eq_true p4) h
    have e1:(Ts.zip xs).map (λ x=>a.eval x.2)=xs.map a.eval:=by
     rw [← hz,List.map_map]
     rw [hz]
     rfl
    rw [e1]
    exact hrun
theorem Iia (hE:Gj X E) (hcall:∀ f en,E.call f=some en→A6 X.P f en) (K:Ae X S a) (hg:S.g=get A) {c:Call} {f:FuncId} (ho:o.op = .call c) (hc:c.callee = .value (.func f)) (hd:∀ d,o.dst=some d→d<X.nt)
  (h:Aa E o A Kc=some r):Fh X o a S.w A Kc r:=by
 unfold Aa at h
 rw [ho] at h
 simp only [hc] at h
 split at h
 ·rename_i en ss he hss
  have hco:=hcall f en he
  exact X5 hE K hg (by simpa using C6a (w:=S.w) ho hc hco) hd hco hss h
 ·cases h
theorem Fqa (hE:Gj X E) (hcall:∀ f en,E.call f=some en→A6 X.P f en) (K:Ae X S a) (hg:S.g=get A) {c:Call} {t:Nat} (ho:o.op = .call c) (hc:c.callee = .value (.tmp t)) (hd:∀ d,o.dst=some d→d<X.nt)
  (h:Aa E o A Kc=some r):Fh X o a S.w A Kc r:=by
 unfold Aa at h
 rw [ho] at h
 simp only [hc] at h
 split at h
 ·rename_i f bs hs
  split at h
  ·rename_i en ss he hss
   cases hal:Hc A bs with
   |false=>rw [hal] at h; simp at h
   |true=>
    rw [hal,cond_true] at h
    have hco:=hcall f en he
    obtain ⟨pl,h2⟩:=El hE K hg hs
    obtain ⟨us,e1,e2⟩:Ai X.P S (.pl pl []) (.fn f bs) (a.eval (.tmp t)):=h2
    have e3:=Nt hg e2 hal
    subst e3
    exact X5 hE K hg (Z4 (w:=S.w) ho hc e1 hco) hd hco hss h
  ·cases h
 ·cases h
theorem X6 (hE:Gj X E) (K:Ae X S a) (hg:S.g=get A):∀ {xs:List Operand} {bs:List (Nat×Nat)},Rf E A xs=some bs→Nf S bs (xs.map a.eval)
 |[],bs,h=>by
  simp only [Rf,Option.some.injEq] at h
  subst h
  rfl
 |x::l,bs,h=>by
  simp only [Rf] at h
  split at h
  ·rename_i b v hx
   split at h
   ·rename_i bs' hr
    simp only [Option.some.injEq] at h
    subst h
    obtain ⟨pl,h2⟩:=El hE K hg hx
    exact ⟨_,_,rfl,h2,X6 hE K hg hr⟩
   ·cases h
  ·cases h
theorem U8 (hE:Gj X E) (K:Ae X S a) (hg:S.g=get A) {f:FuncId} {x y:Array Operand} {d:Nat} (ho:o.op = .makeFunc (.func f) x y) (hod:o.dst=some d) (hd:d<X.nt) (h:Aa E o A Kc=some r):Fh X o a S.w A Kc r:=by
 unfold Aa at h
 rw [ho,hod] at h
 simp only at h
 split at h
 ·rename_i bs hx hy
  have ex:x = #[]:=by
   apply Array.ext'
   simpa using hx
  subst ex
  have hsv:G6 X.P S 0 (.one (.fn f bs)) (.func (.func f) #[] (y.toList.map a.eval).toArray):=⟨_,rfl,X6 hE K hg hy⟩
  have K2:=K.put0 hd _ _ 0 rfl hsv
  refine ⟨_,h,A9 (S:=He S (λ _ _=>none) d _ _) (v := .func (.func f) #[] (y.toList.map a.eval).toArray) ?_ (by rw [hod]; exact K2) ?_⟩
  ·show _=Result.ok _ S.w
   have e1:y.map a.eval=(y.toList.map a.eval).toArray:=by
    apply Array.ext'
    simp
   unfold execOp
   simp [ho,Instr.makeFunc,e1]
  ·show upd S.g d _=_
   rw [A8,← hg]
 ·cases h
end
end

section
attribute [local irreducible] C H
structure Nu (X:Cx) (E:En):Prop where
 en:Gj X E
 call:∀ f en,E.call f=some en→A6 X.P f en
section
variable {X:Cx} {S S1 S2:Sit} {a:Act} {E:En} {A:Ab} {o:Oper} {R:Type} {Kc:List Up→Option R} {r:R}
theorem Cea (hV:Nu X E) (K:Ae X S a) (hg:S.g=get A) (hd:∀ d,o.dst=some d→d<X.nt) (h:Aa E o A Kc=some r):Fh X o a S.w A Kc r:=by
 have hE:=hV.en
 cases ho:o.op with
 |call c=>
  cases hc:c.callee with
  |builtin b=>
   cases b with
   |len=>exact K1a hE K hg ho hc hd h
   |min=>exact Rr hE K hg false ho hc hd h
   |max=>exact Rr hE K hg true ho hc hd h
   |append=>exact C3a hE K hg ho hc hd h
   |_=>unfold Aa at h; rw [ho] at h; simp only [hc] at h; cases h
  |value f=>
   cases f with
   |func f=>exact Iia hE hV.call K hg ho hc hd h
   |tmp t=>exact Fqa hE hV.call K hg ho hc hd h
   |_=>unfold Aa at h; rw [ho] at h; simp only [hc] at h; cases h
  |invoke x m=>unfold Aa at h; rw [ho] at h; simp only [hc] at h; cases h
 |makeFunc fn x y=>cases fn with
  |func f=>cases hod:o.dst with
   |none=>unfold Aa at h; rw [ho,hod] at h; cases h
   |some d=>exact U8 hE K hg ho hod (hd d hod) h
  |_=>unfold Aa at h; rw [ho] at h; cases hod:o.dst<;>(rw [hod] at h; cases h)
 |store T x y=>
  cases hod:o.dst with
  |none=>exact Fga hE K hg ho hod h
  |some d=>unfold Aa at h; rw [ho,hod] at h; cases h
 |move x=>cases hod:o.dst with
  |none=>unfold Aa at h; rw [ho,hod] at h; cases h
  |some d=>exact Hza hE K hg ho hod (hd d hod) h
 |assign x=>cases hod:o.dst with
  |none=>unfold Aa at h; rw [ho,hod] at h; cases h
  |some d=>exact Bia hE K hg ho hod (hd d hod) h
 |pick c x y=>cases hod:o.dst with
  |none=>unfold Aa at h; rw [ho,hod] at h; cases h
  |some d=>exact I1a hE K hg ho hod (hd d hod) h
 |binOp op T x y T'=>cases hod:o.dst with
  |none=>unfold Aa at h; rw [ho,hod] at h; cases h
  |some d=>exact F4a hE K hg ho hod (hd d hod) h
 |unOp op T x=>cases hod:o.dst with
  |none=>unfold Aa at h; rw [ho,hod] at h; cases h
  |some d=>exact I0a hE K hg ho hod (hd d hod) h
 |convert T T' x=>cases hod:o.dst with
  |none=>unfold Aa at h; rw [ho,hod] at h; cases h
  |some d=>exact Z1 hE K hg ho hod (hd d hod) h
 |nilCheck x=>cases hod:o.dst with
  |none=>unfold Aa at h; rw [ho,hod] at h; cases h
  |some d=>exact Tw hE K hg ho hod (hd d hod) h
 |extract x j=>cases hod:o.dst with
  |none=>unfold Aa at h; rw [ho,hod] at h; cases x<;>cases h
  |some d=>cases x with
   |tmp t=>exact Y8 hE K hg ho hod (hd d hod) h
   |_=>unfold Aa at h; rw [ho,hod] at h; cases h
 |field T x j=>cases hod:o.dst with
  |none=>unfold Aa at h; rw [ho,hod] at h; cases x<;>cases h
  |some d=>cases x with
   |tmp t=>exact F7a hE K hg ho hod (hd d hod) h
   |_=>unfold Aa at h; rw [ho,hod] at h; cases h
 |build T ps=>cases hod:o.dst with
  |none=>unfold Aa at h; rw [ho,hod] at h; cases h
  |some d=>exact Fja hE K hg ho hod (hd d hod) h
 |alloc T=>cases hod:o.dst with
  |none=>unfold Aa at h; rw [ho,hod] at h; cases h
  |some d=>exact Fha hE K hg ho hod (hd d hod) h
 |box T x=>cases hod:o.dst with
  |none=>unfold Aa at h; rw [ho,hod] at h; cases h
  |some d=>exact K5a hE K hg ho hod (hd d hod) h
 |load T x=>cases hod:o.dst with
  |none=>unfold Aa at h; rw [ho,hod] at h; cases h
  |some d=>exact I3a hE K hg ho hod (hd d hod) h
 |fieldAddr T x j=>cases hod:o.dst with
  |none=>unfold Aa at h; rw [ho,hod] at h; cases h
  |some d=>exact Rs hE K hg ho hod (hd d hod) h
 |indexAddr T x i=>cases hod:o.dst with
  |none=>unfold Aa at h; rw [ho,hod] at h; cases h
  |some d=>
   cases hop:E.opn d with
   |true=>exact Rz hE K hg ho hod (hd d hod) hop h
   |false=>exact Rt hE K hg ho hod (hd d hod) hop h
 |index T x i=>cases hod:o.dst with
  |none=>unfold Aa at h; rw [ho,hod] at h; cases h
  |some d=>exact F5a hE K hg ho hod (hd d hod) h
 |slice T x lo hi mx=>cases hod:o.dst with
  |none=>unfold Aa at h; rw [ho,hod] at h; cases mx<;>cases h
  |some d=>cases mx with
   |none=>exact F8a hE K hg ho hod (hd d hod) h
   |some m=>unfold Aa at h; rw [ho,hod] at h; cases h
 |buildSlice T n ps=>cases hod:o.dst with
  |none=>unfold Aa at h; rw [ho,hod] at h; cases h
  |some d=>exact Qi hE K hg ho hod (hd d hod) h
 |makeSlice T x y=>cases hod:o.dst with
  |none=>unfold Aa at h; rw [ho,hod] at h; cases h
  |some d=>exact S5 hE K hg ho hod (hd d hod) h
 |_=>unfold Aa at h; rw [ho] at h; cases hod:o.dst<;>(rw [hod] at h; cases h)
theorem Haa (hE:Gj X E) (K:Ae X S a) (hg:S.g=get A) (hd:Ow E o=true):∃ S',Ae X S' (a.put o.dst undef)∧S'.g=get (Ky o A)∧S'.w=S.w:=by
 unfold Ky
 unfold Ow at hd
 cases hod:o.dst with
 |none=>exact ⟨S,K,hg,rfl⟩
 |some d=>
  rw [hod] at hd
  have hdl:d<X.nt:=hE.nt ▸ (Nat.le_of_ble_eq_true hd:d+1≤E.nt)
  refine ⟨_,K.put0 hdl (.one .un) undef 0 rfl rfl,?_,rfl⟩
  show upd S.g d _=_
  rw [Hp,← hg]
  rfl
def M7a (X:Cx) (Q:Exit→Act→World→Prop) (K:Ab→Option R) (r:R):Prop:=∀ S a A,Ae X S a→S.g=get A→K A=some r→Q .normal a S.w
theorem Nv {A:Ab} {d n:Nat} {v:Bool} (h:get A d=(n,.one (.sc (.bool v)))):get (lit A d n v)=get A:=by
 funext k
 unfold lit
 simp only [get]
 by_cases hk:k=d
 ·subst hk; simp [h]
 ·have:Nat.beq d k=false:=by
   cases hb:Nat.beq d k with
   |false=>rfl
   |true=>exact absurd (Nat.eq_of_beq_eq_true hb).symm hk
  simp [this]
theorem Qn (hV:Nu X E) {ops:Array Oper} {Q:Exit→Act→World→Prop}:∀ (l:List Nat) {S:Sit} {a:Act} {A:Ab} {K:Ab→Option R} {r:R},Ae X S a→S.g=get A→Na E ops.toList l A K=some r→M7a X Q K r→wpOps X.P ops Q l a S.w
 |[],S,a,A,K,r,hK,hg,h,hQ=>hQ S a A hK hg h
 |i::l,S,a,A,K,r,hK,hg,h,hQ=>by
  rw [wpOps_cons]
  unfold Na at h
  rw [Fl] at h
  unfold wpOp
  split at h
  ·cases h
  ·rename_i o ho
   have ho':ops[i]? = some o:=by simpa using ho
   rw [ho']
   simp only
   cases hd:Ow E o with
   |false=>rw [hd] at h; simp at h
   |true=>
    rw [hd,cond_true] at h
    have hdl:∀ d,o.dst=some d→d<X.nt:=λ d hod=>by
     unfold Ow at hd
     rw [hod] at hd
     exact hV.en.nt ▸ (Nat.le_of_ble_eq_true hd:d+1≤E.nt)
    have go:∀ {A:Ab},S.g=get A→Aa E o A (λ U=>Na E ops.toList l (ups A U) K)=some r→o.wp X.P a S.w (wpOps X.P ops Q l) Q:=by
     intro A hg h
     obtain ⟨U,hU,hgo⟩:=Cea hV hK hg hdl h
     exact hgo _ _ (λ S' a' K' g'=>Qn hV l K' g' hU hQ)
    have skip:∀ {A:Ab},S.g=get A→Na E ops.toList l (Ky o A) K=some r→wpOps X.P ops Q l (a.put o.dst undef) S.w:=by
     intro A hg h
     obtain ⟨S',K',g',w'⟩:=Haa hV.en hK hg hd
     rw [← w']
     exact Qn hV l K' g' h hQ
    split at h
    ·rename_i hgd
     have hw:Region.wanted o (yielded ops a.tmps)=true:=by unfold Region.wanted; rw [hgd]
     rw [if_pos hw]
     exact .inl (go hg h)
    ·rename_i j want hgd
     split at h
     ·cases h
     ·rename_i dj hdj
      have hdj':(ops[j]?).bind (·.dst)=some dj:=by
       unfold B8a at hdj
       rw [Fl] at hdj
       have:ops.toList[j]? = ops[j]? := by simp
       rw [this] at hdj
       cases hj:ops[j]? with
       |none=>rw [hj] at hdj; cases hdj
       |some oj=>rw [hj] at hdj; simpa using hdj
      cases hb:Nat.blt dj E.nt with
      |false=>rw [hb] at h; simp at h
      |true=>
       rw [hb,cond_true] at h
       have hjl:dj<X.nt:=hV.en.nt ▸ (Nat.le_of_ble_eq_true hb:dj+1≤E.nt)
       have htm:a.tmps[dj]? = some (S.ph dj):=by
        have h1:=hK.sl dj hjl
        have h2:dj<a.tmps.size:=by rw [hK.sz]; exact hjl
        rw [← h1,Array.getD_eq_getD_getElem?,Array.getElem?_eq_getElem h2]
        rfl
       have hy:yielded ops a.tmps j=(match S.ph dj with | .bool b=>some b|_=>none):=by
        unfold yielded
        rw [hdj',Option.bind_some,htm]
        cases S.ph dj<;>rfl
       have hwd:Region.wanted o (yielded ops a.tmps)=((match S.ph dj with | .bool b=>some b|_=>none)==some want):=by
        unfold Region.wanted
        rw [hgd]
        simp only
        rw [hy]
       split at h
       ·rename_i n b hgt
        have hph:S.ph dj = .bool b:=by
         have:=hK.at_ dj
         rw [hg,hgt] at this
         exact this.1
        rw [hph] at hwd
        have hgl:S.g=get (lit A dj n b):=by rw [Nv hgt]; exact hg
        cases b with
        |true=>
         rw [cond_true] at h
         cases want with
         |true=>
          rw [cond_true] at h
          rw [if_pos (by rw [hwd]; rfl)]
          exact .inl (go hgl h)
         |false=>
          rw [cond_false] at h
          rw [if_neg (by rw [hwd]; decide)]
          exact skip hgl h
        |false=>
         rw [cond_false] at h
         cases want with
         |true=>
          rw [cond_true] at h
          rw [if_neg (by rw [hwd]; decide)]
          exact skip hgl h
         |false=>
          rw [cond_false] at h
          rw [if_pos (by rw [hwd]; rfl)]
          exact .inl (go hgl h)
       ·rename_i n hgt
        have hph:S.ph dj=undef:=by
         have:=hK.at_ dj
         rw [hg,hgt] at this
         exact this
        rw [hph] at hwd
        rw [if_neg (by rw [hwd]; simp [undef])]
        exact skip hg h
       ·cases h
end
end

section
attribute [local irreducible] C H
def X7:Ex→Exit
 |.normal => .normal
 |.exit i => .exit i
 |.ret => .ret
theorem Lga {J:Nat→Prop}:∀ n,J n→∃ m,J m∧(∀ k,J k→m≤k):=by
 intro n
 induction n using Nat.strongRecOn with
 |_ n ih=>
  intro hn
  by_cases h:∃ m,m<n∧J m
  ·obtain ⟨m,hm,hj⟩:=h
   exact ih m hm hj
  ·exact ⟨n,hn,λ k hk=>Nat.le_of_not_lt (λ hlt=>h ⟨k,hlt,hk⟩)⟩
open Classical in
theorem Zv {P:Program} {c:Code} {Q:Exit→Act→World→Prop} (J:Nat→Act→World→Prop) {n:Nat} {a:Act} {w:World} (h0:J n a w)
  (round:∀ n a w,J n a w→c.wp P (Exit.then (λ a' w'=>∃ m,m<n∧J m a' w') Q) a w):(Code.loop c).wp P Q a w:=by
 let μ:Act→World→Nat:=λ a w=>if h:∃ m,J m a w∧(∀ k,J k a w→m≤k) then Classical.choose h else 0
 have hμ:∀ a w n,J n a w→J (μ a w) a w∧(∀ k,J k a w→μ a w≤k):=by
  intro a w n hn
  have h:=Lga (J:=λ m=>J m a w) n hn
  have e:μ a w=Classical.choose h:=by simp only [μ]; rw [dif_pos h]
  rw [e]
  exact Classical.choose_spec h
 refine wp_loop (λ a w=>∃ n,J n a w) μ ⟨n,h0⟩ ?_
 rintro a w ⟨n,hn⟩
 obtain ⟨h1,h2⟩:=hμ a w n hn
 refine wp_mono (round (μ a w) a w h1) ?_
 intro e a' w' hq
 cases e<;>first|exact hq|skip
 obtain ⟨m,hm,hj⟩:=hq
 refine ⟨⟨m,hj⟩,Nat.lt_of_le_of_lt ((hμ a' w' m hj).2 m hj) hm⟩
section
variable {X:Cx} {S S1 S2:Sit} {a:Act} {E:En} {A:Ab} {o:Oper} {R:Type} {Kc:List Up→Option R} {r:R}
def Hn (O:Nat→Lab) (vs:List (Nat×Ty)):Nat→Lab:=λ k=>match O k with
 |.pl p []=>if L5 vs p then .pl p [] else .fz
 |o=>o
theorem H3 {O:Nat→Lab} {vs:List (Nat×Ty)} {k:Nat} {o:Lab} (h:O k=o) (ho:∀ p,o ≠ .pl p []):Hn O vs k=o:=by
 unfold Hn
 rw [h]
 cases o<;>first|rfl|skip
 rename_i l p
 cases p<;>first|rfl|exact absurd rfl (ho _)
theorem Qo {P:Program} {S:Sit} {lab:Lab} {t:Ty} {z:Lf} {x:t.den} {y:Lf} {u:Value} (hw:mkW t [z]=some x) (hy:A4 t x=[y]) (hz:Ai P S lab z u) (ho:Jha t=true∨z.isOwn=false):Ai P S lab y u:=by
 cases t with
 |pr p q=>
  have h1:=Ec (.pr p q) x
  rw [hy] at h1
  have:=Iw p
  have:=Iw q
  have h2:1=p.sz+q.sz:=h1
  omega
 |ow e r=>
  have h1:A5 P S (λ _=>lab) 0 (A4 (.ow e r) x) [u]:=Js (by trivial) hw ⟨hz,trivial⟩
  rw [hy] at h1
  exact h1.1
 |i k=>
  cases z<;>first|(simp [mkW,mkT] at hw; done)|skip
  rename_i v
  cases v<;>first|(simp [mkW,mkT] at hw; done)|skip
  rename_i k' n
  unfold mkW at hw
  simp only [mkT] at hw
  by_cases hk:k=k'
  ·subst hk
   simp only [decide_true,cond_true,Option.some.injEq] at hw
   subst hw
   simp only [A4,List.cons.injEq,and_true] at hy
   subst hy
   exact hz
  ·simp [hk] at hw
 |b=>
  cases z<;>first|(simp [mkW,mkT] at hw; done)|skip
  rename_i v
  cases v<;>first|(simp [mkW,mkT] at hw; done)|skip
  unfold mkW at hw
  simp only [mkT,Option.some.injEq] at hw
  subst hw
  simp only [A4,List.cons.injEq,and_true] at hy
  subst hy
  exact hz
 |s=>
  cases z<;>first|(simp [mkW,mkT] at hw; done)|skip
  rename_i v
  cases v<;>first|(simp [mkW,mkT] at hw; done)|skip
  unfold mkW at hw
  simp only [mkT,Option.some.injEq] at hw
  subst hw
  simp only [A4,List.cons.injEq,and_true] at hy
  subst hy
  exact hz
 |sl e r=>
  simp only [A4,List.cons.injEq,and_true] at hy
  subst hy
  cases z<;>first|(simp [mkW,mkT] at hw; done)|skip
  ·rename_i e' r' xs
   unfold mkW at hw
   simp only [mkT] at hw
   cases hb:Nat.beq e e' with
   |false=>rw [hb] at hw; simp at hw
   |true=>
    rw [hb,cond_true] at hw
    have he:e=e':=Nat.eq_of_beq_eq_true hb
    subst he
    cases hc:Kd r r' xs with
    |none=>rw [hc] at hw; simp at hw
    |some ys=>
     rw [hc] at hw
     simp only [Option.some.injEq] at hw
     subst hw
     exact L6 hc hz
  ·simp [Jha,Lf.isOwn] at ho
theorem Zw {vs:List (Nat×Ty)} {l:Nat} {t:Ty} (hm:(l,t)∈vs) (ht:Jha t=true):L5 vs l=true:=by
 unfold L5
 rw [List.any_eq_true]
 refine ⟨(l,t),hm,?_⟩
 cases t<;>first|(simp [Jha] at ht; done)|simp
theorem Ija (K:Ae X S a) (hg:S.g=get A) {all:List (Nat×Ty)} {l:Nat} {t:Ty} {x:t.den} (hm:(l,t)∈all) (h:Eva A all l t=some x):
  ∀ y,A4 t x=[y]→Ai X.P { S with O:=Hn S.O all } (.pl l []) y (S.ph l):=by
 intro y hy
 have hfz:∀ k,S.O k = .fz→Hn S.O all k = .fz:=λ k hk=>H3 hk (by simp)
 have L:Cq S { S with O:=Hn S.O all }:=⟨λ _=>Nat.le_refl _,λ _ _=>rfl,λ p v e r xs' h _=>⟨xs',h,rfl⟩,λ _ _=>rfl,λ k hk=>⟨hfz k hk,rfl⟩,Cq.box_of (λ _ _ _ h=>h) (λ k b h=>⟨H3 h (by simp),rfl⟩),λ p _ hd=>⟨hd,λ _ _ _ h=>h,λ k hk=>by
  refine ⟨?_,rfl⟩
  cases hkp:L5 all p with
  |true=>exact .inl (by show Hn S.O all k=_; unfold Hn; rw [hk]; simp [hkp])
  |false=>exact .inr (by show Hn S.O all k=_; unfold Hn; rw [hk]; simp [hkp])⟩⟩
 have hat:=K.at_ l
 rw [hg] at hat
 have frz:∀ (p:Nat) (e:TypeId) (r:Ty) (xs:List r.den),L5 all p=false→D5 X.P S.O S.w (.pl p []) e r xs (S.ph p)→Ai X.P { S with O:=Hn S.O all } .fz (.fz e r xs) (S.ph p):=by
  intro p e r xs hk ho
  exact ho.reads (O':=Hn S.O all) hfz (λ k hkk=>by
   unfold Hn
   rw [hkk]
   simp [hk])
 unfold Eva at h
 split at h
 ·rename_i p v hgl
  rw [hgl] at hat
  have hat':Ai X.P S (.pl l []) (.al p v) (S.ph l):=hat
  cases hk:L5 all p with
  |true=>rw [hk] at h; simp at h
  |false=>
   rw [hk,cond_false] at h
   have hz:Ai X.P { S with O:=Hn S.O all } .fz (Hh (Gp A (.al p v))) (S.ph l):=by
    simp only [Gp]
    split
    ·rename_i n e r xs hp
     cases hb:Nat.beq n v with
     |false=>exact trivial
     |true=>
      have hnv:n=v:=by simpa using hb
      subst hnv
      rw [cond_true,hat'.2 (by rw [hg,hp])]
      have h3:=K.at_ p
      rw [hg,hp] at h3
      exact frz p e r xs hk h3
    ·rename_i n e r xs hp
     cases hb:Nat.beq n v with
     |false=>exact trivial
     |true=>
      have hnv:n=v:=by simpa using hb
      subst hnv
      rw [cond_true,hat'.2 (by rw [hg,hp])]
      have h3:=K.at_ p
      rw [hg,hp] at h3
      exact Ty.rep_mono (t := .sl e r) hfz (λ _ _=>rfl) _ _ h3
    ·exact trivial
   have hno:(Hh (Gp A (.al p v))).isOwn=false:=by cases Gp A (.al p v)<;>rfl
   have:=Qo h hy hz (.inr hno)
   have hyo:y.isOwn=false:=by
    cases t<;>first|(simp [A4] at hy; subst hy; rfl)|skip
    ·cases hs:Hh (Gp A (.al p v)) with
     |own e r xs=>rw [hs] at hno; simp [Lf.isOwn] at hno
     |_=>rw [hs] at h; simp [mkW,mkT] at h
    ·rename_i p q
     have h1:=Ec (.pr p q) x
     rw [hy] at h1
     have:=Iw p
     have:=Iw q
     have h2:1=p.sz+q.sz:=h1
     omega
   exact this.relab hyo
 ·rename_i e r xs hgl
  rw [hgl] at hat
  have hat':D5 X.P S.O S.w (.pl l []) e r xs (S.ph l):=hat
  cases hot:Jha t with
  |true=>
   rw [hot,cond_true] at h
   have hkl:=Zw hm hot
   have hz:Ai X.P { S with O:=Hn S.O all } (.pl l []) (.own e r xs) (S.ph l):=Ai.later (x := .own e r xs) L hat (λ k hk=>⟨by show Hn S.O all k=_; unfold Hn; rw [hk]; simp [hkl],rfl⟩)
   exact Qo h hy hz (.inl hot)
  |false=>
   rw [hot,cond_false] at h
   cases hk:L5 all l with
   |true=>rw [hk] at h; simp at h
   |false=>
    rw [hk,cond_false] at h
    have:=Qo h hy (Ai.relab (lab' := .pl l []) rfl (frz l e r xs hk hat')) (.inr rfl)
    exact this
 ·rename_i z _ hno hgl
  rw [hgl] at hat
  have hat':Ai X.P S (.pl l []) z (S.ph l):=hat
  have hzo:z.isOwn=false:=by
   cases z<;>first|rfl|exact (hno _ _ _ rfl).elim|skip
   exfalso
   cases t<;>first|(simp [mkW,mkT] at h; done)|skip
   rename_i p q
   have h1:=Ec (.pr p q) x
   rw [hy] at h1
   have:=Iw p
   have:=Iw q
   have h2:1=p.sz+q.sz:=h1
   omega
  have hz:Ai X.P { S with O:=Hn S.O all } (.pl l []) z (S.ph l):=(Ai.relab (lab' := .fz) hzo hat').later (lab' := .fz) L (λ k hk=>⟨hfz k hk,rfl⟩) |>.relab hzo
  exact Qo h hy hz (.inr hzo)
 ·cases h
end
end

section
attribute [local irreducible] C H
section
variable {X:Cx} {S S1 S2:Sit} {a:Act} {E:En} {A:Ab} {o:Oper} {R:Type} {Kc:List Up→Option R} {r:R}
theorem Mc {Q:Nat→Nat×Sv→Prop} (h0:∀ l,Q l (0,.one .dead)):∀ (B:Ab),(∀ e∈B,Q e.1 e.2)→∀ l,Q l (get B l)
 |[],_,l=>h0 l
 |(k,n,s)::B,h,l=>by
  simp only [get]
  cases hb:Nat.beq k l with
  |true=>
   have:k=l:=Nat.eq_of_beq_eq_true hb
   subst this
   exact h (k,n,s) (by simp)
  |false=>exact Mc h0 B (λ e he=>h e (List.mem_cons_of_mem _ he)) l
theorem N3 (A:Ab) (all:List (Nat×Ty)):∀ (t:Ty) (l:Nat) (x:t.den),Jia A all l t=some x→
  ∀ e∈Bca l t x,∃ t',∃ z:t'.den,∃ y,(e.1,t')∈Ewa l t∧Eva A all e.1 t'=some z∧A4 t' z=[y]∧e.2=(0,.one y)
 |.pr ta tb,l,x,h=>by
  intro e he
  simp only [Jia] at h
  split at h
  ·rename_i x1 h1
   split at h
   ·rename_i x2 h2
    cases h
    rcases List.mem_append.1 he with he|he
    ·obtain ⟨t',z,y,g1,g2⟩:=N3 A all ta l x1 h1 e he
     exact ⟨t',z,y,List.mem_append_left _ g1,g2⟩
    ·obtain ⟨t',z,y,g1,g2⟩:=N3 A all tb (l+ta.sz) x2 h2 e he
     exact ⟨t',z,y,List.mem_append_right _ g1,g2⟩
   ·cases h
  ·cases h
 |.i k,l,x,h=>λ e he=>by rw [List.mem_singleton.1 he]; exact ⟨.i k,x,_,List.mem_singleton.2 rfl,h,rfl,rfl⟩
 |.b,l,x,h=>λ e he=>by rw [List.mem_singleton.1 he]; exact ⟨.b,x,_,List.mem_singleton.2 rfl,h,rfl,rfl⟩
 |.s,l,x,h=>λ e he=>by rw [List.mem_singleton.1 he]; exact ⟨.s,x,_,List.mem_singleton.2 rfl,h,rfl,rfl⟩
 |.sl q r,l,x,h=>λ e he=>by rw [List.mem_singleton.1 he]; exact ⟨.sl q r,x,_,List.mem_singleton.2 rfl,h,rfl,rfl⟩
 |.ow q r,l,x,h=>λ e he=>by rw [List.mem_singleton.1 he]; exact ⟨.ow q r,x,_,List.mem_singleton.2 rfl,h,rfl,rfl⟩
theorem Sa:∀ (vs:List (Nat×Ty)) (all:List (Nat×Ty)) (x:Den (vs.map Prod.snd)),Exa A all vs=some x→
  ∀ e∈Rg vs x,∃ t,∃ z:t.den,∃ y,(e.1,t)∈Q3 vs∧Eva A all e.1 t=some z∧A4 t z=[y]∧e.2=(0,.one y)
 |[],_,_,_=>by simp [Rg]
 |[v],all,x,h=>λ e he=>by
  obtain ⟨t,z,y,h1,h2⟩:=N3 A all v.2 v.1 x h e he
  exact ⟨t,z,y,List.mem_append_left _ h1,h2⟩
 |v::w::l,all,x,h=>by
  simp only [Exa] at h
  split at h
  ·rename_i x1 hx1
   split at h
   ·rename_i x2 hx2
    cases h
    intro e he
    rcases List.mem_append.1 he with he|he
    ·obtain ⟨t,z,y,h1,h2⟩:=N3 A all v.2 v.1 x1 hx1 e he
     exact ⟨t,z,y,List.mem_append_left _ h1,h2⟩
    ·obtain ⟨t,z,y,h1,h2,h3,h4⟩:=Sa (w::l) all x2 hx2 e he
     exact ⟨t,z,y,List.mem_append_right _ h1,h2,h3,h4⟩
   ·cases h
  ·cases h
theorem N4:∀ (cs:List (Nat×Lf)),Era A cs=true→∀ c∈cs,
  (∃ b off v,c.2 = .bp b 0 off∧(get A c.1).2 = .one (.bp b v off)∧(get A (H b)).1=v)∨(∃ m,c.2 = .hd m∧(get A c.1).2 = .one (.hd m))∨
   ∃ F bs bs',c.2 = .fn F bs∧(get A c.1).2 = .one (.fn F bs')∧Tm bs bs'=true∧Hc A bs'=true
 |[],_,c,hc=>by simp at hc
 |(l,z)::cs,h,c,hc=>by
  cases z with
  |bp b v0 off=>
   simp only [Era,Bool.and_eq_true] at h
   obtain ⟨h1,h2⟩:=h
   rcases List.mem_cons.1 hc with rfl|hc
   ·split at h1
    ·rename_i n b' v off' hg
     simp only [Bool.and_eq_true] at h1
     obtain ⟨⟨⟨e1,e2⟩,e3⟩,e4⟩:=h1
     have e1:v0=0:=Nat.eq_of_beq_eq_true e1
     have e2:b=b':=Nat.eq_of_beq_eq_true e2
     have e3:off=off':=Nat.eq_of_beq_eq_true e3
     subst e1 e2 e3
     split at e4
     ·rename_i n' m' hh
      have:n'=v:=Nat.eq_of_beq_eq_true e4
      refine .inl ⟨b,off,v,rfl,by rw [hg],by rw [hh,this]⟩
     ·cases e4
    ·cases h1
   ·exact N4 cs h2 c hc
  |hd m=>
   simp only [Era,Bool.and_eq_true] at h
   obtain ⟨h1,h2⟩:=h
   rcases List.mem_cons.1 hc with rfl|hc
   ·split at h1
    ·rename_i n m' hg
     have:m=m':=Nat.eq_of_beq_eq_true h1
     subst this
     exact .inr (.inl ⟨m,rfl,by rw [hg]⟩)
    ·cases h1
   ·exact N4 cs h2 c hc
  |fn F bs=>
   simp only [Era,Bool.and_eq_true] at h
   obtain ⟨h1,h2⟩:=h
   rcases List.mem_cons.1 hc with rfl|hc
   ·split at h1
    ·rename_i n F' bs' hg
     simp only [Bool.and_eq_true] at h1
     have e1:F=F':=Nat.eq_of_beq_eq_true h1.1.1
     subst e1
     exact .inr (.inr ⟨F,bs,bs',rfl,by rw [hg],h1.1.2,h1.2⟩)
    ·cases h1
   ·exact N4 cs h2 c hc
  |_=>simp [Era] at h
theorem Cfa {S S':Sit} {A:Ab} (hg:S.g=get A) (hb:S'.bb=S.bb):∀ {bs bs':List (Nat×Nat)} {us:List Value},Tm bs bs'=true→Hc A bs'=true→Nf S bs' us→Nf S' bs us
 |[],[],us,_,_,h=>h
 |[],_::_,_,h,_,_=>by simp [Tm] at h
 |_::_,[],_,h,_,_=>by simp [Tm] at h
 |a::bs,c::bs',us,hs,ha,h=>by
  obtain ⟨u,us',e,⟨h1,h2⟩,h3⟩:=h
  simp only [Tm,Bool.and_eq_true] at hs
  simp only [Hc,Bool.and_eq_true] at ha
  have e1:a.1=c.1:=Nat.eq_of_beq_eq_true hs.1.1
  have e2:a.2=0:=Nat.eq_of_beq_eq_true hs.1.2
  refine ⟨u,us',e,⟨by rw [e2]; exact Nat.zero_le _,λ _=>?_⟩,Cfa hg hb hs.2 ha.2 h3⟩
  rw [hb,e1]
  exact h2 (by rw [hg]; exact Nat.eq_of_beq_eq_true ha.1)
theorem Sc {v:R9} {x:v.den} {e:Nat×Nat×Sv} (h:e∈Mr v x):e∈Rg v.vs x∨∃ c∈v.cs,e=(c.1,0,.one c.2):=by
 rcases List.mem_append.1 h with h|h
 ·exact .inl h
 ·obtain ⟨c,hc,rfl⟩:=List.mem_map.1 h
  exact .inr ⟨c,hc,rfl⟩
theorem Cga (K:Ae X S a) (hg:S.g=get A) {v:R9} {x:v.den} (h:Hta v A=some x):∃ S',Ae X S' a∧S'.g=get (Mr v x)∧S'.w=S.w:=by
 unfold Hta at h
 cases hc:Era A v.cs with
 |false=>rw [hc] at h; simp at h
 |true=>
  rw [hc,cond_true] at h
  have hfz:∀ k,S.O k = .fz→Hn S.O (Q3 v.vs) k = .fz:=λ k hk=>H3 hk (by simp)
  have hmem:=Sa v.vs (Q3 v.vs) x h
  have hcm:=N4 v.cs hc
  refine ⟨{ S with O:=Hn S.O (Q3 v.vs),g:=get (Mr v x) },K.ghost _ _ (λ k e=>H3 e (by simp)) (λ k e1 e2=>e1 (H3 e2 (by simp))) hfz (λ k b e=>H3 e (by simp)) (λ b n hb=>?_) ?_,rfl,rfl⟩
  ·-- a box that is Fy was one
   have key:∀ l,(∀ n,(get (Mr v x) l).2 = .one (.hd n)→(S.g l).2 = .one (.hd n)):=by
    refine Mc (Q:=λ l s=>∀ n,s.2 = .one (.hd n)→(S.g l).2 = .one (.hd n)) (λ l n hn=>by cases hn) _ (λ e he n hn=>?_)
    rcases Sc he with he|⟨c,hcc,rfl⟩
    ·obtain ⟨t,z,y,_,_,h3,h4⟩:=hmem e he
     rw [h4] at hn
     have hy:=Gt t z y (by rw [h3]; simp)
     simp only [Sv.one.injEq] at hn
     rw [hn] at hy
     simp [F8] at hy
    ·rcases hcm c hcc with ⟨b',off,v',e1,_⟩|⟨m,e1,e2⟩|⟨F,bs,bs',e1,_⟩
     rotate_left 2
     ·rw [e1] at hn; cases hn
     ·rw [e1] at hn; cases hn
     ·rw [e1] at hn
      cases hn
      rw [hg]
      exact e2
   exact key _ n hb
  ·refine Mc (Q:=λ l s=>G6 X.P { S with O:=Hn S.O (Q3 v.vs),g:=get (Mr v x) } l s.2 (S.ph l)) (λ l=>trivial) _ (λ e he=>?_)
   rcases Sc he with he|⟨c,hcc,rfl⟩
   ·obtain ⟨t,z,y,h1,h2,h3,h4⟩:=hmem e he
    rw [h4]
    have hy:=Gt t z y (by rw [h3]; simp)
    exact Ai.bare (S1 := { S with O:=Hn S.O (Q3 v.vs) }) hy rfl (λ k hk=>hk) (λ k hk=>hk) (Ija K hg h1 h2 y h3)
   ·rcases hcm c hcc with ⟨b',off,v',e1,e2,e3⟩|⟨m,e1,e2⟩|⟨F,bs,bs',e1,e2,e3,e4⟩
    rotate_left 2
    ·rw [e1]
     have hat:=K.at_ c.1
     rw [hg,e2] at hat
     obtain ⟨us,h5,h6⟩:Ai X.P S (.pl c.1 []) (.fn F bs') (S.ph c.1):=hat
     exact ⟨us,h5,Cfa (S' := { S with O:=Hn S.O (Q3 v.vs),g:=get (Mr v x) }) hg rfl e3 e4 h6⟩
    ·rw [e1]
     have hat:=K.at_ c.1
     rw [hg,e2] at hat
     have hat':Ai X.P S (.pl c.1 []) (.bp b' v' off) (S.ph c.1):=hat
     refine ⟨Nat.zero_le _,λ _=>hat'.2 (by rw [hg]; exact e3)⟩
    ·rw [e1]
     trivial
def Lha (X:Cx) (Q:Exit→Act→World→Prop) (K:Ex→Ab→Option R) (r:R):Prop:=∀ e S a A,Ae X S a→S.g=get A→K e A=some r→Q (X7 e) a S.w
def Sd (X:Cx) (L:Lp) (c:Code):Prop:=∀ x y,L.run x=some y→∀ S a,Ae X S a→S.g=get (Mr L.ins x)→∀ Q:Exit→Act→World→Prop,
 (∀ e A S' a',Hua (λ e A=>some (e,A)) L.alts y=some (e,A)→Ae X S' a'→S'.g=get A→Q (X7 e) a' S'.w)→(Code.loop c).wp X.P Q a S.w
def Hm (X:Cx) (E:En):Code→Prop
 |.seq a b=>Hm X E a∧Hm X E b
 |.cond _ a b=>Hm X E a∧Hm X E b
 |.block _ c=>Hm X E c
 |.loop c=>∀ L,E.lp (first c)=some L→Sd X L c
 |_=>True
def Se (X:Cx) (E:En):Prop:=∀ {R:Type} (id:Nat) (ops:Array Oper) (Q:Exit→Act→World→Prop) (S:Sit) (a:Act) (A:Ab) (K:Ab→Option R) (r:R),Ae X S a→S.g=get A→H3a E ops.toList A K=some r→M7a X Q K r→(Code.region id ops true).wp X.P Q a S.w
theorem Sf {K:Ex→Ab→Option R}:∀ (l:List (Ex×R9)) (y:Eta l) (r:R),Hua K l y=some r→∃ e A,Hua (λ e A=>some (e,A)) l y=some (e,A)∧K e A=some r
 |[],y,_,_=>nomatch y
 |[b],y,r,h=>⟨_,_,rfl,h⟩
 |b::b2::l,.inl y,r,h=>⟨_,_,rfl,h⟩
 |b::b2::l,.inr z,r,h=>Sf (b2::l) z r h
theorem Fra {A:Ab} {c:Operand} {b:Bool} (h:opT E 0 A c=some (.one (.sc (.bool b)))):get (L9a E A c b)=get A:=by
 cases c with
 |tmp t=>
  unfold L9a
  cases E.rf with
  |false=>rfl
  |true=>
   have h:(bif Nat.blt t E.nt then some (get A t).2 else none)=some (.one (.sc (.bool b))):=h
   cases hb:Nat.blt t E.nt with
   |false=>rw [hb] at h; cases h
   |true=>
    rw [hb,cond_true,Option.some.injEq] at h
    funext l
    show (bif Nat.beq t l then _ else get A l)=get A l
    cases hl:Nat.beq t l with
    |false=>rfl
    |true=>
     rw [← Nat.eq_of_beq_eq_true hl,cond_true,cond_true,← h]
 |_=>rfl
theorem Sg (hV:Nu X E) (hD:Se X E):∀ (c:Code) {S:Sit} {a:Act} {A:Ab} {Q:Exit→Act→World→Prop} {R:Type} {K:Ex→Ab→Option R} {r:R},Hm X E c→Ae X S a→S.g=get A→Ho E c A K=some r→Lha X Q K r→c.wp X.P Q a S.w:=by
 intro c
 induction c with
 |skip=>intro S a A Q R K r hL hK hg h hQ; exact wp_skip (hQ .normal S a A hK hg h)
 |region id ops draw=>
  intro S a A Q R K r hL hK hg h hQ
  unfold Ho at h
  obtain ⟨A1,S1,h,K1,g1,w1⟩:=I5 hV.en _ hK hg h
  rw [← w1]
  cases draw with
  |true=>exact hD id ops Q S1 a A1 _ r K1 g1 h (λ S' a' A' K' g' h'=>hQ .normal S' a' A' K' g' h')
  |false=>exact wp_region (Qn hV _ K1 g1 h (λ S' a' A' K' g' h'=>hQ .normal S' a' A' K' g' h'))
 |seq x y ihx ihy=>
  intro S a A Q R K r hL hK hg h hQ
  unfold Ho at h
  refine wp_seq (ihx hL.1 hK hg h (λ e S' a' A' K' g' h'=>?_))
  cases e with
  |normal=>exact ihy hL.2 K' g' h' hQ
  |exit i=>exact hQ (.exit i) S' a' A' K' g' h'
  |ret=>exact hQ .ret S' a' A' K' g' h'
 |cond x y z ihy ihz=>
  intro S a A Q R K r hL hK hg h hQ
  unfold Ho at h
  split at h
  ·rename_i b hx
   have e1:=(Hr hV.en hK hg hx).1
   have hg2:=hg.trans (Fra hx).symm
   cases b with
   |true=>exact wp_cond_true e1 (ihy hL.1 hK hg2 h hQ)
   |false=>exact wp_cond_false e1 (ihz hL.2 hK hg2 h hQ)
  ·cases h
 |block id c ih=>
  intro S a A Q R K r hL hK hg h hQ
  unfold Ho at h
  refine wp_block (ih hL hK hg h (λ e S' a' A' K' g' h'=>?_))
  cases e with
  |normal=>exact hQ .normal S' a' A' K' g' h'
  |exit i=>
   show (if i=id then Q .normal a' S'.w else Q (.exit i) a' S'.w)
   simp only at h'
   cases hb:Nat.beq i id with
   |true=>
    rw [hb,cond_true] at h'
    rw [if_pos (Nat.eq_of_beq_eq_true hb)]
    exact hQ .normal S' a' A' K' g' h'
   |false=>
    rw [hb,cond_false] at h'
    rw [if_neg (λ e=>by rw [e] at hb; simp at hb)]
    exact hQ (.exit i) S' a' A' K' g' h'
  |ret=>exact hQ .ret S' a' A' K' g' h'
 |loop c ih=>
  intro S a A Q R K r hL hK hg h hQ
  unfold Ho at h
  split at h
  ·rename_i L hLp
   obtain ⟨A0,S0,h,hK,hg,w0⟩:=I5 hV.en _ hK hg h
   rw [← w0]
   split at h
   ·rename_i x hx
    cases hr:L.run x with
    |none=>rw [hr] at h; simp at h
    |some y=>
     rw [hr] at h
     simp only [Option.bind_some] at h
     obtain ⟨S1,K1,g1,w1⟩:=Cga hK hg hx
     rw [← w1]
     obtain ⟨e0,A0,h0,h1⟩:=Sf L.alts y r h
     refine hL L hLp x y hr S1 a K1 g1 Q (λ e A' S' a' h2 K' g'=>?_)
     rw [h0] at h2
     cases h2
     exact hQ _ S' a' _ K' g' h1
   ·cases h
  ·cases h
 |exit id=>intro S a A Q R K r hL hK hg h hQ; exact wp_exit (hQ (.exit id) S a A hK hg h)
 |ret=>intro S a A Q R K r hL hK hg h hQ; exact wp_ret (hQ .ret S a A hK hg h)
 |_=>intro S a A Q R K r hL hK hg h hQ; unfold Ho at h; cases h
end
end

section
attribute [local irreducible] C H
section
variable {X:Cx} {E:En} {A:Ab}
theorem Hba {e e':Ex} (h:exB e e'=true):e=e':=by
 cases e<;>cases e'<;>first|rfl|(simp [exB] at h; done)|skip
 simp only [exB] at h
 rw [Nat.eq_of_beq_eq_true h]
theorem X8 {e:Ex} {A:Ab}:∀ (l:List (Ex×R9)) (y:Eta l),Y7 e A l=some y→∃ v,∃ z:v.den,Hua (λ e A=>some (e,A)) l y=some (e,Mr v z)∧Hta v A=some z
 |[],y,_=>nomatch y
 |[b],y,h=>by
  simp only [Y7] at h
  cases hb:exB e b.1 with
  |false=>rw [hb] at h; simp at h
  |true=>
   rw [hb,cond_true] at h
   exact ⟨b.2,y,by rw [Hba hb]; rfl,h⟩
 |b::b2::l,y,h=>by
  simp only [Y7] at h
  cases hb:exB e b.1 with
  |true=>
   rw [hb,cond_true] at h
   split at h
   ·rename_i x hx
    cases h
    exact ⟨b.2,x,by rw [Hba hb]; rfl,hx⟩
   ·cases h
  |false=>
   rw [hb,cond_false] at h
   split at h
   ·rename_i x hx
    cases h
    exact X8 (b2::l) x hx
   ·cases h
theorem Ika {ins:R9} {alts:List (Ex×R9)} {f:Nat→ins.den→Option (Eta alts)} {En':Nat→En} {c:Code} (h0:∀ x,f 0 x=none) (hs:∀ k x,Bda (En' k) ⟨ins,alts,f k⟩ c x=f (k+1) x)
  (hV:∀ k,Nu X (En' k)) (hD:∀ k,Se X (En' k)) (hL:∀ k,Hm X (En' k) c):∀ k,Sd X ⟨ins,alts,f k⟩ c:=by
 intro k x y hy S a K hg Q hQ
 let J:Nat→Act→World→Prop:=λ n a w=>∃ x y S,f n x=some y∧Ae X S a∧S.g=get (Mr ins x)∧S.w=w∧
  (∀ e A S' a',Hua (λ e A=>some (e,A)) alts y=some (e,A)→Ae X S' a'→S'.g=get A→Q (X7 e) a' S'.w)
 refine Zv J (n:=k) ⟨x,y,S,hy,K,hg,rfl,hQ⟩ ?_
 rintro n a w ⟨x,y,S,hy,K,hg,rfl,hQ⟩
 cases n with
 |zero=>rw [h0] at hy; cases hy
 |succ m=>
  rw [← hs] at hy
  unfold Bda at hy
  refine Sg (hV m) (hD m) c (hL m) K hg hy (λ e S' a' A' K' g' h'=>?_)
  have ends:∀ {e:Ex},Id (En' m) ((En' m).gh (1000001+first c)) A' (λ A=>Y7 e A alts)=some y→Q (X7 e) a' S'.w:=by
   intro e h
   obtain ⟨A',S2,h,K',g',w2⟩:=I5 (hV m).en _ K' g' h
   rw [← w2]
   obtain ⟨v,z,h1,h2⟩:=X8 alts y h
   obtain ⟨S1,K1,g1,w1⟩:=Cga K' g' h2
   rw [← w1]
   exact hQ e _ S1 a' h1 K1 g1
  cases e with
  |normal=>
   obtain ⟨A',S2,h',K',g',w2⟩:=I5 (hV m).en _ K' g' h'
   split at h'
   ·rename_i x' hx'
    obtain ⟨S1,K1,g1,w1⟩:=Cga K' g' hx'
    exact ⟨m,Nat.lt_succ_self m,x',y,S1,h',K1,g1,w1.trans w2,hQ⟩
   ·cases h'
  |exit i=>exact ends h'
  |ret=>exact ends h'
end
end

end Go.Proofs.Ytlfoljnopndpeaa.Vf
