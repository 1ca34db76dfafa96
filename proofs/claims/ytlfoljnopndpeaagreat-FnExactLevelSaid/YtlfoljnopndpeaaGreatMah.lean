import Derived.Test.YtlfoljnopndpeaaGreatMag
set_option linter.unusedVariables false
set_option linter.unusedSimpArgs false
namespace Go.Proofs.YtlfoljnopndpeaaGreat.Vf
open Go

section
attribute [local irreducible] C H
def lkF:List (Nat×Nat)→Nat→Option Nat
 |[],_=>none
 |c::l,x=>if c.1=x then some c.2 else lkF l x
def lkS:List (Nat×Nat)→Nat→Option Nat
 |[],_=>none
 |c::l,x=>if c.2=x then some c.1 else lkS l x
theorem Bga:∀ {l:List (Nat×Nat)} {b B:Nat},lkF l b=some B→(b,B)∈l
 |[],_,_,h=>by simp [lkF] at h
 |c::l,b,B,h=>by
  simp only [lkF] at h
  split at h
  ·rename_i e
   simp only [Option.some.injEq] at h
   rw [← e,← h]
   exact List.mem_cons_self
  ·exact List.mem_cons_of_mem _ (Bga h)
theorem D8a:∀ {l:List (Nat×Nat)} {b B:Nat},(l.map Prod.fst).Nodup→(b,B)∈l→lkF l b=some B
 |[],_,_,_,h=>by simp at h
 |c::l,b,B,hn,h=>by
  rw [List.map_cons,List.nodup_cons] at hn
  simp only [lkF]
  rcases List.mem_cons.1 h with rfl|h
  ·rw [if_pos rfl]
  ·rw [if_neg (λ e=>hn.1 (by rw [e]; exact List.mem_map_of_mem h))]
   exact D8a hn.2 h
theorem Y9:∀ {l:List (Nat×Nat)} {b B:Nat},(l.map Prod.snd).Nodup→(b,B)∈l→lkS l B=some b
 |[],_,_,_,h=>by simp at h
 |c::l,b,B,hn,h=>by
  rw [List.map_cons,List.nodup_cons] at hn
  simp only [lkS]
  rcases List.mem_cons.1 h with rfl|h
  ·rw [if_pos rfl]
  ·rw [if_neg (λ e=>hn.1 (by rw [e]; exact List.mem_map_of_mem h))]
   exact Y9 hn.2 h
theorem Oka:∀ {l:List (Nat×Nat)} {b b' B:Nat},(l.map Prod.snd).Nodup→(b,B)∈l→(b',B)∈l→b=b':=λ hn h h'=>by
 have e1:=Y9 hn h
 rw [Y9 hn h'] at e1
 simpa using e1.symm
theorem Yy:∀ {l:List Nat},Rp l=true→l.Nodup
 |[],_=>by simp
 |b::l,h=>by
  simp only [Rp,Bool.and_eq_true,Bool.not_eq_true',List.any_eq_false] at h
  rw [List.nodup_cons]
  exact ⟨λ hb=>h.1 b hb (by rw [Nat.beq_refl]),Yy h.2⟩
def Oo (S:Sit) (L:List (Nat×Nat)):Nat→Lab:=λ k=>match S.O k with
 |.fz => .fz
 |.tm n q=>if n<10 then .no else if n % 2=0 then .pl ((n - 10) / 2) q else (match q with
  |[j] => .pl (C ((n - 11) / 2) j) []
  |_ => .no)
 |.bx b=>(match lkF L b with
  |some B=>if k=(S.bb b).1 then .bx B else .no
  |none => .no)
 |_ => .no
def Ola (S:Sit) (L:List (Nat×Nat)):Nat→Nat×Nat:=λ B=>match lkS L B with
 |some b=>((S.bb b).2,match (S.g (H b)).2 with | .one (.hd n)=>n|_=>0)
 |none=>(0,0)
def Pua:Lab→Bool
 |.tm _ _=>true
 |_=>false
def nmO:Lab→Lab
 |.fz => .fz
 |.tm n q => .tm n q
 |.no => .no
 |_ => .tm 99999 []
def G8a (S:Sit) (O':Nat→Lab):Nat→Lab:=λ k=>if k<S.w.heap.size∧Pua (S.O k)=false then S.O k else nmO (O' k)
section
variable {X:Cx} {S S1 S2:Sit} {a:Act} {E:En} {A:Ab} {o:Oper} {R:Type} {Kc:List Up→Option R} {r:R}
theorem N4 {S:Sit} {L:List (Nat×Nat)} {k:Nat} (h:S.O k = .fz):Oo S L k = .fz:=by simp [Oo,h]
theorem Hka {S:Sit} {L:List (Nat×Nat)} {k b B:Nat} (h:S.O k = .bx b) (hl:lkF L b=some B) (hk:k=(S.bb b).1):Oo S L k = .bx B:=by
 unfold Oo; rw [h]; simp [hl,← hk]
theorem Qna {S:Sit} {L:List (Nat×Nat)} {k i:Nat} {q:List Nat} (h:S.O k = .tm (nmV i) q):Oo S L k = .pl i q:=by
 unfold Oo nmV at *
 rw [h]
 simp only
 rw [if_neg (by omega),if_pos (by omega),show (10+2 * i - 10) / 2=i by omega]
theorem Qoa {S:Sit} {L:List (Nat×Nat)} {k B j:Nat} (h:S.O k = .tm (nmB B) [j]):Oo S L k = .pl (C B j) []:=by
 unfold Oo nmB at *
 rw [h]
 simp only
 rw [if_neg (by omega),if_neg (by omega),show (11+2 * B - 11) / 2=B by omega]
theorem Kr:∀ {m:List Lf},A3 m=true→∀ y∈m,J3 y=true
 |[],_=>by simp
 |x::m,h=>by
  intro y hy
  obtain ⟨h1,h2⟩:=Mz h
  rcases List.mem_cons.1 hy with rfl|hy
  ·rcases h2 with ⟨_,rfl⟩|⟨_,_,_,rfl⟩|⟨_,_,_,rfl⟩<;>rfl
  ·exact Kr h1 y hy
theorem Oq:∀ l:List Lf,(∀ y∈l,J3 y=true)→A3 l=true
 |[],_=>rfl
 |x::l,h=>by
  have h1:=h x (by simp)
  have h2:=Oq l (λ y hy=>h y (List.mem_cons_of_mem _ hy))
  cases x<;>first|(simp [J3] at h1; done)|simpa [A3] using h2
theorem Vr {P:Program} {S:Sit} {cb:List (Nat×Nat)} {nv:Nat} (hn:nv≤1000):∀ (ps:List Par) {i:Nat} {ls:List (List Lf)} {us:List Value} {bp:List (Nat×Nat)},Bea P S cb cb nv i ps ls us bp→
  (∀ c∈bp,∃ j,i≤j∧j<i+ps.length∧c.2=bid nv j)∧(bp.map Prod.snd).Nodup∧(∀ c∈bp,∃ n,(S.g (H c.1)).2 = .one (.hd n))∧us.length=ps.length
 |[],i,[],[],bp,h=>by
  have:bp=[]:=h
  subst this
  exact ⟨by simp,by simp,by simp,rfl⟩
 |[],i,_::_,_,_,h=>h.elim
 |[],i,[],_::_,_,h=>h.elim
 |p::ps,i,[],_,_,h=>h.elim
 |p::ps,i,_::_,[],_,h=>h.elim
 |p::ps,i,l::ls,u::us,bp,h=>by
  obtain ⟨b1,b2,rfl,h1,h2⟩:=h
  obtain ⟨i1,i2,i3,i4⟩:=Vr hn ps h2
  have h3:b1=[]∨∃ b,b1=[(b,bid nv i)]∧∃ n,(S.g (H b)).2 = .one (.hd n):=by
   cases p with
   |val ag t=>exact .inl h1.1
   |vw t h0=>exact .inl h1.1
   |rd t=>exact .inl h1.1
   |fn F m=>exact .inl h1.1
   |ptr t t'=>obtain ⟨b,e,_,h4,_⟩:=h1; exact .inr ⟨b,e,_,h4⟩
   |hid t t'=>obtain ⟨b,e,_,h4,_⟩:=h1; exact .inr ⟨b,e,_,h4⟩
  have i1':∀ c∈b2,∃ j,i≤j∧j<i+(p::ps).length∧c.2=bid nv j:=λ c hc=>by
   obtain ⟨j,j1,j2,j3⟩:=i1 c hc
   exact ⟨j,by omega,by simp only [List.length_cons]; omega,j3⟩
  rcases h3 with rfl|⟨b,rfl,n,hb⟩
  ·exact ⟨i1',i2,i3,by simp [i4]⟩
  ·refine ⟨λ c hc=>?_,?_,λ c hc=>?_,by simp [i4]⟩
   ·rcases List.mem_cons.1 hc with rfl|hc
    ·exact ⟨i,Nat.le_refl _,by simp only [List.length_cons]; omega,rfl⟩
    ·exact i1' c hc
   ·rw [List.singleton_append,List.map_cons,List.nodup_cons]
    refine ⟨λ hm=>?_,i2⟩
    obtain ⟨c,hc,e⟩:=List.mem_map.1 hm
    obtain ⟨j,j1,j2,j3⟩:=i1 c hc
    rw [j3] at e
    have:=Hga hn e
    omega
   ·rcases List.mem_cons.1 hc with rfl|hc
    ·exact ⟨n,hb⟩
    ·exact i3 c hc
theorem Hla (K:Ah X S a) {cb L:List (Nat×Nat)} {nv:Nat} (hn1:(L.map Prod.fst).Nodup) (hn2:(L.map Prod.snd).Nodup):∀ (ps:List Par) {i:Nat} {ls ls':List (List Lf)} {us:List Value} {bp:List (Nat×Nat)},Bea X.P S cb cb nv i ps ls us bp→Mk (ps.map Par.ty) ls ls'→(∀ c∈bp,c∈L)→Lm nv i ps=true→
  Mo X.P (bare (Oo S L) S.w) (Ola S L) nv (cb.map (Sd S)) i ps ls' us
 |[],i,[],[],[],bp,_,_,_,_=>trivial
 |[],i,[],_::_,_,bp,_,hm,_,_=>hm.elim
 |[],i,_::_,_,_,bp,h,_,_,_=>h.elim
 |[],i,[],[],_::_,bp,h,_,_,_=>h.elim
 |p::ps,i,[],_,_,bp,h,_,_,_=>h.elim
 |p::ps,i,_::_,_,[],bp,h,_,_,_=>h.elim
 |p::ps,i,l::ls,[],_::_,bp,_,hm,_,_=>hm.elim
 |p::ps,i,l::ls,l'::ls',u::us,bp,h,hm,hb,hp=>by
  obtain ⟨b1,b2,rfl,h1,h2⟩:=h
  obtain ⟨⟨y,hy,rfl⟩,hm2⟩:=hm
  have hp2:Lm nv (i+1) ps=true:=by cases p<;>simp only [Lm,Bool.and_eq_true] at hp<;>exact hp.2
  refine ⟨?_,Hla K hn1 hn2 ps h2 hm2 (λ b hb'=>hb b (List.mem_append_right _ hb')) hp2⟩
  have box:∀ {t t':Ty} {y:t.den},mkW t l=some y→Oja X.P S (bid nv i) t t' l u b1→Tx X.P (bare (Oo S L) S.w) (Ola S L) (bid nv i) t (A4 t y) u:=by
   rintro t t' y hy ⟨b,e1,e2,e3,e4,e5,e6,e7,e8⟩
   have hL:(b,bid nv i)∈L:=hb _ (by rw [e1]; simp)
   obtain ⟨g1,c,e,g2,g3,g4,g5⟩:=K.box b _ e3
   refine ⟨(S.bb b).1,(S.bb b).2,c,e,(List.range t.sz).map (λ j=>S.ph (C b (0+j))),e2,g2,?_,?_,g4,g1,I1 t y,λ j hj=>?_,?_⟩
   ·exact Hka g3 (D8a hn1 hL) rfl
   ·show Ola S L _=_
    unfold Ola
    rw [Y9 hn2 hL]
    simp only [e3]
   ·rw [g5 j hj]
    simp [hj]
   ·have h3:A5 X.P (bare (Oo S L) S.w) (λ j => .pl (C (bid nv i) j) []) 0 l ((List.range t.sz).map λ j=>S.ph (C b (0+j))):=
     A5.impS (S1:=S) (Kr e6) (λ n x u hx h=>Al.bare (S1:=S) (S2:=bare (Oo S L) S.w) (lab := .tm (nmB (bid nv i)) [n]) hx rfl (λ k hk=>N4 hk) (λ k hk=>Qoa hk) h) e8
    exact Od e7 hy h3
  cases p with
  |vw t h0=>
   obtain ⟨_,e1,e2,e3,c,vs,e4,e5,e6,e7⟩:=h1
   obtain ⟨g1,cc,e,g2,g3,g4,g5⟩:=K.box c.1 _ e5
   refine ⟨e1,vs,(S.bb c.1).1,(S.bb c.1).2,cc,e,e6,?_,g2,g1,I1 t y,?_⟩
   ·rw [Jf] at e4
    rw [List.getElem?_map,e4]
    rfl
   ·have hcell:∀ j,j<t.sz→cc.getD ((S.bb c.1).2+j) undef=S.ph (C c.1 j):=λ j hj=>by
     have:=g5 j hj
     simp [Array.getD_eq_getD_getElem?,this]
    have h2:=Qla (Q:=λ j x u=>j<t.sz→Era X.P S (λ j=>S.ph (C c.1 j)) j x u) ?_ ?_ e3 hy (j:=0) (us:=vs) (V9.imp (Q:=Era X.P S (λ j=>S.ph (C c.1 j))) (Q':=λ j x u=>j<t.sz→Era X.P S (λ j=>S.ph (C c.1 j)) j x u) (λ j x u h _=>h) e7)
    ·have key:∀ (l:List Lf) (j:Nat) (us:List Value),j+l.length≤t.sz→V9 (λ j x u=>j<t.sz→Era X.P S (λ j=>S.ph (C c.1 j)) j x u) j l us→V9 (Era X.P (bare (Oo S L) S.w) (λ j=>cc.getD ((S.bb c.1).2+j) undef)) j l us:=by
      intro l
      induction l with
      |nil=>intro j us _ h; cases us<;>first|trivial|exact h.elim
      |cons x l ih=>
       intro j us hj h
       simp only [List.length_cons] at hj
       cases us with
       |nil=>exact h.elim
       |cons u us=>
        refine ⟨?_,ih (j+1) us (by omega) h.2⟩
        have h3:=h.1 (by omega)
        cases x<;>first|(show u=cc.getD ((S.bb c.1).2+j) undef; rw [hcell j (by omega)]; exact h3)|(refine ⟨h3.1,?_⟩; have h4:=h3.1; simp [Gba] at h4; done)|skip
        ·exact ⟨rfl,Al.bare (S1:=S) (S2:=bare (Oo S L) S.w) rfl rfl (λ k hk=>N4 hk) (λ k hk=>N4 hk) h3.2⟩
        ·exact ⟨rfl,Al.bare (S1:=S) (S2:=bare (Oo S L) S.w) rfl rfl (λ k hk=>N4 hk) (λ k hk=>N4 hk) h3.2⟩
     exact key _ _ _ (by rw [I1]; show 0+t.sz≤t.sz; omega) h2
    ·intro j e r r' xs ys u _ h hj
     exact h hj
    ·intro j e r r' xs ys u hc h hj
     exact ⟨rfl,Pi hc (h hj).2⟩
  |val ag t=>
   obtain ⟨_,e2,e3,vs,e4,e5⟩:=h1
   refine ⟨vs,e4,Od e3 hy ?_⟩
   exact A5.impS (S1:=S) (Kr e2) (λ n x u hx h=>Al.bare (S1:=S) (S2:=bare (Oo S L) S.w) hx rfl (λ k hk=>N4 hk) (λ k hk=>Qna hk) h) e5
  |ptr t t'=>
   simp only [Lm,Bool.and_eq_true] at hp
   exact ⟨Nat.le_of_ble_eq_true hp.1,box hy h1⟩
  |hid t t'=>
   simp only [Lm,Bool.and_eq_true] at hp
   exact ⟨Nat.le_of_ble_eq_true hp.1,box hy h1⟩
  |rd t=>
   obtain ⟨_,r',x,k,o',cs,rfl,e3,e4,e5,e6,e7,e8⟩:=h1
   have h3:=Ru hy (Mw r' x cs e7)
   exact ⟨y,k,o',cs,Exa t y,e5,N4 e6,Ty.rep_mono (λ k hk=>N4 hk) (λ _ _=>rfl) t y cs h3,e8⟩
  |fn F m=>
   obtain ⟨_,e2,e3⟩:=h1
   exact ⟨e3,by rw [List.length_map,e2]⟩
theorem Qpa (K:Ah X S a) {cb L:List (Nat×Nat)} {nv:Nat} (hn:nv≤1000) {ps:List Par} {ls:List (List Lf)} {us:List Value} (h:Bea X.P S cb cb nv 0 ps ls us L):
  ∀ k b,Oo S L k = .bx b→Qha nv ps.length b∧(∃ c e f,S.w.heap[k]? = some (.cells c e f))∧∀ k',Oo S L k' = .bx b→k'=k:=by
 obtain ⟨i1,i2,i3,_⟩:=Vr hn ps h
 have key:∀ k B,Oo S L k = .bx B→∃ b,(b,B)∈L∧k=(S.bb b).1:=by
  intro k B hk
  unfold Oo at hk
  split at hk
  ·cases hk
  ·split at hk
   ·cases hk
   ·split at hk
    ·cases hk
    ·split at hk<;>cases hk
  ·split at hk
   ·rename_i b heq _ B' hl
    split at hk
    ·rename_i hkb
     cases hk
     exact ⟨b,Bga hl,hkb⟩
    ·cases hk
   ·cases hk
  ·cases hk
 intro k B hk
 obtain ⟨b,hb,hkb⟩:=key k B hk
 obtain ⟨n,hh⟩:=i3 _ hb
 obtain ⟨_,c,e,g2,_⟩:=K.box b n hh
 obtain ⟨j,_,j2,j3⟩:=i1 _ hb
 refine ⟨⟨j,by omega,j3⟩,⟨c,e,(0,0),by rw [hkb]; exact g2⟩,λ k' hk'=>?_⟩
 obtain ⟨b',hb',hkb'⟩:=key k' B hk'
 rw [hkb,hkb',Oka i2 hb hb']
theorem Eya {S:Sit} {L:List (Nat×Nat)} {rg:Nat→Nat×Nat} {O':Nat→Lab} {w':World} (hF:Fr (Oo S L) S.w rg O' w'):
  (∀ k,k<S.w.heap.size→Pua (S.O k)=false→G8a S O' k=S.O k∧((∀ c∈L,k≠(S.bb c.1).1)→w'.heap[k]? = S.w.heap[k]?))∧
  (∀ k,O' k = .fz→G8a S O' k = .fz)∧(∀ k n q,O' k = .tm n q→G8a S O' k = .tm n q):=by
 have cases3:∀ k,k<S.w.heap.size→Pua (S.O k)=false→(O' k = .fz∧S.O k = .fz∧w'.heap[k]? = S.w.heap[k]?)∨(O' k = .no∧w'.heap[k]? = S.w.heap[k]?)∨(∃ c∈L,O' k = .bx c.2∧k=(S.bb c.1).1):=by
  intro k hk ht
  have no:Oo S L k = .no→(O' k = .no∧w'.heap[k]? = S.w.heap[k]?):=λ h=>hF.no k hk h
  cases hO:S.O k with
  |fz=>
   have:=hF.fz k hk (N4 hO)
   exact .inl ⟨this.1,rfl,this.2⟩
  |no=>exact .inr (.inl (no (by simp [Oo,hO])))
  |pl l p=>exact .inr (.inl (no (by simp [Oo,hO])))
  |tm n q=>rw [hO] at ht; simp [Pua] at ht
  |bx b=>
   cases hl:lkF L b with
   |none=>exact .inr (.inl (no (by simp [Oo,hO,hl])))
   |some B=>
    by_cases hb:k=(S.bb b).1
    ·have h2:Oo S L k = .bx B:=by
      unfold Oo
      rw [hO]
      simp only
      rw [hl]
      exact if_pos hb
     exact .inr (.inr ⟨(b,B),Bga hl,(hF.bx k B hk h2).1,hb⟩)
    ·refine .inr (.inl (no ?_))
     unfold Oo
     rw [hO]
     simp only
     rw [hl]
     exact if_neg hb
 refine ⟨λ k hk ht=>⟨by unfold G8a; rw [if_pos ⟨hk,ht⟩],λ hnb=>?_⟩,λ k hk=>?_,λ k n q hk=>?_⟩
 ·rcases cases3 k hk ht with h|h|⟨c,h1,_,h2⟩
  ·exact h.2.2
  ·exact h.2
  ·exact absurd h2 (hnb c h1)
 ·unfold G8a
  split
  ·rename_i hc
   rcases cases3 k hc.1 hc.2 with h|h|⟨c,_,h,_⟩
   ·exact h.2.1
   ·rw [hk] at h; cases h.1
   ·rw [hk] at h; cases h
  ·rw [hk]; rfl
 ·unfold G8a
  split
  ·rename_i hc
   rcases cases3 k hc.1 hc.2 with h|h|⟨c,_,h,_⟩
   ·rw [hk] at h; cases h.1
   ·rw [hk] at h; cases h.1
   ·rw [hk] at h; cases h
  ·rw [hk]; rfl
theorem Qqa (w w':World) (hsz:w.heap.size≤w'.heap.size):∀ ks:List Nat,∃ w1:World,w1 = { w' with heap:=w1.heap }∧w1.heap.size=w'.heap.size∧(∀ k∈ks,k<w.heap.size→w1.heap[k]? = w.heap[k]?)∧∀ k,k∉ks→w1.heap[k]? = w'.heap[k]?
 |[]=>⟨w',rfl,rfl,by simp,λ _ _=>rfl⟩
 |k0::ks=>by
  obtain ⟨w1,h1,h2,h3,h4⟩:=Qqa w w' hsz ks
  by_cases hk:k0<w.heap.size
  ·refine ⟨{ w' with heap:=w1.heap.setIfInBounds k0 w.heap[k0] },rfl,by simp [h2],λ k hm hkl=>?_,λ k hm=>?_⟩
   ·show (w1.heap.setIfInBounds k0 w.heap[k0])[k]? = _
    by_cases e:k=k0
    ·subst e
     rw [Array.getElem?_setIfInBounds_self,if_pos (by omega),Array.getElem?_eq_getElem hk]
    ·rw [Array.getElem?_setIfInBounds_ne (Ne.symm e)]
     exact h3 k ((List.mem_cons.1 hm).resolve_left e) hkl
   ·show (w1.heap.setIfInBounds k0 w.heap[k0])[k]? = _
    rw [Array.getElem?_setIfInBounds_ne (λ e=>hm (by rw [e]; exact List.mem_cons_self))]
    exact h4 k (λ h=>hm (List.mem_cons_of_mem _ h))
  ·refine ⟨w1,h1,h2,λ k hm hkl=>?_,λ k hm=>h4 k (λ h=>hm (List.mem_cons_of_mem _ h))⟩
   rcases List.mem_cons.1 hm with rfl|hm
   ·exact absurd hkl hk
   ·exact h3 k hm hkl
structure Bk where
 b:Nat
 n:Nat
 l:List Lf
 us:List Value
def Bk.Ok (P:Program) (S:Sit) (w':World) (d:Bk):Prop:=
 ∃ c c' e,(S.g (H d.b)).2 = .one (.hd d.l.length)∧S.w.heap[(S.bb d.b).1]? = some (.cells c e (0,0))∧w'.heap[(S.bb d.b).1]? = some (.cells c' e (0,0))∧c'.size=c.size∧
  (∀ i,(i<(S.bb d.b).2∨(S.bb d.b).2+d.l.length≤i)→c'[i]? = c[i]?)∧(∀ j,j<d.l.length→c'[(S.bb d.b).2+j]? = d.us[j]?)∧A3 d.l=true∧A5 P S (λ j => .tm d.n [j]) 0 d.l d.us
theorem D9a {w':World}:∀ (D:List Bk) {S:Sit} {A:Ab},Ah X S a→S.g=get A→(∀ d∈D,d.Ok X.P S w')→(D.map Bk.b).Nodup→(D.map Bk.n).Nodup→(∀ d∈D,1001≤d.n∧d.n<5000)→(∀ k,(∀ d∈D,k≠(S.bb d.b).1)→w'.heap[k]? = S.w.heap[k]?)→S.w = { w' with heap:=S.w.heap }→
  ∃ S',Ah X S' a∧S'.g=get (ups A (D.flatMap λ d=>Bm d.b 0 d.l))∧S'.w=w'∧(∀ k,S.O k = .fz→S'.O k = .fz)∧(∀ n q k,0<n→n<1001→S.O k = .tm n q→S'.O k = .tm n q)∧(∀ n q x u,0<n→n<1001→J3 x=true→Al X.P S (.tm n q) x u→Al X.P S' (.tm n q) x u)
 |[],S,A,K,hg,_,_,_,_,hh,hw=>by
  have e1:w'.heap=S.w.heap:=Array.ext_getElem? λ k=>hh k (by simp)
  refine ⟨S,K,hg,?_,λ _ h=>h,λ _ _ _ _ _ h=>h,λ _ _ _ _ _ _ _ h=>h⟩
  rw [hw,← e1]
 |d::D,S,A,K,hg,hD,hb,hn,hr,hh,hw=>by
  obtain ⟨c,c',e,d1,d2,d3,d4,d5,d6,d7,d8⟩:=hD d (by simp)
  rw [List.map_cons,List.nodup_cons] at hb hn
  obtain ⟨r1,r2⟩:=hr d (by simp)
  let hh0:Nat→List Nat→Option Lab:=λ n q=>if n=d.n then some (.tm 0 q) else if n=0 then some (.tm 99998 q) else none
  obtain ⟨K1,L1⟩:=K.names hh0 (by
   intro n q
   simp only [hh0]
   split
   ·simp
   ·split<;>simp)
  have keep1:∀ n q k,n≠d.n→n≠0→S.O k = .tm n q→atO S.O hh0 k = .tm n q:=λ n q k h1 h2 hk=>M6 hk (by simp [hh0,h1,h2])
  have hl0:A5 X.P { S with O:=atO S.O hh0 } (λ j => .tm 0 [j]) 0 d.l d.us:=d8.imp (λ j x u hx=>hx.later L1 (λ k hk=>⟨Jw hk (by simp [hh0]),rfl⟩))
  have hul:=d8.len
  obtain ⟨hn9,c0,e0,b1,b2,b3,b4⟩:=K.box d.b d.l.length d1
  rw [d2] at b1
  cases b1
  obtain ⟨K2,L2⟩:=K1.cells (b:=d.b) (n:=d.l.length) (off:=0) (q:=λ j=>[j]) d1 (by omega) d2 hl0 (λ j hj=>rfl) (Lw d7)
  generalize hwS:({ S with O:=atO S.O hh0 }:Sit).w.setRow (({ S with O:=atO S.O hh0 }:Sit).bb d.b).1 (c.toList.take ((({ S with O:=atO S.O hh0 }:Sit).bb d.b).2+0)++d.us++c.toList.drop ((({ S with O:=atO S.O hh0 }:Sit).bb d.b).2+0+d.us.length)).toArray=w2 at K2 L2
  have hwS':S.w.setRow (S.bb d.b).1 (c.toList.take ((S.bb d.b).2+0)++d.us++c.toList.drop ((S.bb d.b).2+0+d.us.length)).toArray=w2:=hwS
  have harr:(c.toList.take ((S.bb d.b).2+0)++d.us++c.toList.drop ((S.bb d.b).2+0+d.us.length)).toArray=c':=by
   refine Array.ext_getElem? λ j=>?_
   have hct:c.toList.length=c.size:=Array.length_toList
   have ht:(c.toList.take ((S.bb d.b).2+0)).length=(S.bb d.b).2:=by rw [List.length_take,hct]; omega
   rw [List.getElem?_toArray]
   have hcj:∀ i,c.toList[i]? = c[i]? := λ i=>Array.getElem?_toList
   by_cases h1:j<(S.bb d.b).2
   ·rw [List.append_assoc,List.getElem?_append_left (by omega),List.getElem?_take,if_pos (by omega),hcj]
    exact (d5 j (.inl h1)).symm
   ·by_cases h2:j<(S.bb d.b).2+d.l.length
    ·rw [List.getElem?_append_left (by rw [List.length_append,ht]; omega),List.getElem?_append_right (by omega),ht]
     have:=d6 (j - (S.bb d.b).2) (by omega)
     rw [show (S.bb d.b).2+(j - (S.bb d.b).2)=j by omega] at this
     exact this.symm
    ·rw [List.getElem?_append_right (by rw [List.length_append,ht]; omega),List.length_append,ht,List.getElem?_drop,hcj,hul]
     rw [show (S.bb d.b).2+0+d.l.length+(j - ((S.bb d.b).2+d.l.length))=j by omega]
     exact (d5 j (.inr (by omega))).symm
  have hw2k:w2.heap[(S.bb d.b).1]? = w'.heap[(S.bb d.b).1]?:=by
   rw [← hwS',setRow_heap _ _ _ _ _ _ d2,harr,d3]
  have hw2o:∀ k,k≠(S.bb d.b).1→w2.heap[k]? = S.w.heap[k]? := λ k hk=>by rw [← hwS']; exact setRow_other _ _ _ _ hk
  have keep2:∀ n q k,n≠d.n→n≠0→S.O k = .tm n q→(V3 { S with O:=atO S.O hh0 } (Ta d.b 0) d.b 0 d.l d.us w2).O k = .tm n q:=λ n q k h1 h2 hk=>
   M6 (h:=Ta d.b 0) (keep1 n q k h1 h2 hk) (by simp [Ta,h2])
  have hdist:∀ d'∈D,d'.b≠d.b∧d'.n≠d.n:=λ d' hd'=>⟨λ e=>hb.1 (by rw [← e]; exact List.mem_map_of_mem hd'),λ e=>hn.1 (by rw [← e]; exact List.mem_map_of_mem hd')⟩
  have hblk:∀ d'∈D,(S.bb d'.b).1≠(S.bb d.b).1:=λ d' hd' e1=>by
   obtain ⟨c1,c1',e2,x1,_⟩:=hD d' (List.mem_cons_of_mem _ hd')
   obtain ⟨_,_,_,_,y2,_⟩:=K.box d'.b _ x1
   rw [e1,b2] at y2
   simp only [Option.some.injEq,Lab.bx.injEq] at y2
   exact (hdist d' hd').1 y2.symm
  have hsame:∀ n q x u,n≠d.n→n≠0→J3 x=true→Al X.P S (.tm n q) x u→Al X.P (V3 { S with O:=atO S.O hh0 } (Ta d.b 0) d.b 0 d.l d.us w2) (.tm n q) x u:=λ n q x u h1 h2 _ hx=>
   (hx.later L1 (lab' := .tm n q) (λ k hk=>⟨keep1 n q k h1 h2 hk,rfl⟩)).later L2 (λ k hk=>by
    have hk':atO S.O hh0 k = .tm n q:=hk
    refine ⟨M6 (h:=Ta d.b 0) hk' (by simp [Ta,h2]),hw2o k (λ e1=>?_)⟩
    rw [e1] at hk'
    rw [Aj b2 (by simp)] at hk'
    cases hk')
  obtain ⟨S3,K3,g3,w3,o3,t3,s3⟩:=D9a D (A:=ups A (Bm d.b 0 d.l)) K2 (by
   show My S.g d.b 0 d.l=_
   rw [K7,← hg]) (λ d' hd'=>by
   obtain ⟨c1,c1',e2,x1,x2,x3,x4,x5,x6,x7,x8⟩:=hD d' (List.mem_cons_of_mem _ hd')
   obtain ⟨z1,z2⟩:=hr d' (List.mem_cons_of_mem _ hd')
   refine ⟨c1,c1',e2,?_,(hw2o _ (hblk d' hd')).trans x2,x3,x4,x5,x6,x7,?_⟩
   ·show (My S.g d.b 0 d.l (H d'.b)).2=_
    unfold My
    rw [if_neg (Fz (by omega))]
    exact x1
   ·exact A5.impS (Kr x7) (λ n x u hx h=>hsame _ _ x u (hdist d' hd').2 (by omega) hx h) x8) hb.2 hn.2 (λ d' hd'=>hr d' (List.mem_cons_of_mem _ hd')) (λ k hk=>by
   by_cases h1:k=(S.bb d.b).1
   ·rw [h1]; exact hw2k.symm
   ·show w'.heap[k]? = w2.heap[k]?
    rw [hw2o k h1]
    exact hh k (λ d' hd'=>by
     rcases List.mem_cons.1 hd' with rfl|hd'
     ·exact h1
     ·exact hk d' hd')) (by
   have h5:w2 = { S.w with heap:=w2.heap }:=by rw [← hwS']; rfl
   have h6:({ S.w with heap:=w2.heap }:World) = { w' with heap:=w2.heap }:=by rw [hw]
   exact h5.trans h6)
  refine ⟨S3,K3,?_,w3,λ k hk=>o3 k (Aj (h:=Ta d.b 0) (Aj hk (by simp)) (by simp)),λ n q k h1 h2 hk=>t3 n q k h1 h2 (keep2 n q k (by omega) (by omega) hk),λ n q x u h1 h2 hx h=>s3 n q x u h1 h2 hx (hsame n q x u (by omega) (by omega) hx h)⟩
  rw [g3,List.flatMap_cons,Af]
theorem W0 {P:Program} {S Sb:Sit} {cb:List (Nat×Nat)} {nv:Nat}:∀ (ps:List Par) {i:Nat} {ls lb:List (List Lf)} {us:List Value} {bp:List (Nat×Nat)} {ws:List Up},Bea P S cb cb nv i ps ls us bp→Mb P Sb i ps us lb→(∀ l∈lb,∀ y∈l,J3 y=true)→Eia (bp.map Prod.fst) lb=some ws→
  ∃ D:List Bk,D.map Bk.b=bp.map Prod.fst∧ws=D.flatMap (λ d=>Bm d.b 0 d.l)∧(D.map Bk.n).Nodup∧
   ∀ d∈D,∃ j B t c e,i≤j∧j<i+ps.length∧d.n=1001+j∧(d.b,B)∈bp∧(S.g (H d.b)).2 = .one (.hd t)∧d.l.length=t∧A3 d.l=true∧Sb.w.heap[(S.bb d.b).1]? = some (.cells c e (0,0))∧(∀ j,j<t→c[(S.bb d.b).2+j]? = d.us[j]?)∧A5 P Sb (λ j => .tm d.n [j]) 0 d.l d.us
 |[],i,[],lb,[],bp,ws,h,hb,_,hw=>by
  have e1:bp=[]:=h
  have e2:lb=[]:=hb
  subst e1 e2
  simp only [List.map_nil,Eia,Option.some.injEq] at hw
  subst hw
  exact ⟨[],rfl,rfl,by simp,by simp⟩
 |[],i,_::_,_,_,_,_,h,_,_,_=>h.elim
 |[],i,[],_,_::_,_,_,h,_,_,_=>h.elim
 |p::ps,i,[],_,_,_,_,h,_,_,_=>h.elim
 |p::ps,i,_::_,_,[],_,_,h,_,_,_=>h.elim
 |p::ps,i,l::ls,lb,u::us,bp,ws,h,hb,hs,hw=>by
  obtain ⟨b1,b2,rfl,h1,h2⟩:=h
  have skip:b1=[]→Mb P Sb (i+1) ps us lb→∃ D:List Bk,D.map Bk.b=(b1++b2).map Prod.fst∧ws=D.flatMap (λ d=>Bm d.b 0 d.l)∧(D.map Bk.n).Nodup∧
   ∀ d∈D,∃ j B t c e,i≤j∧j<i+(p::ps).length∧d.n=1001+j∧(d.b,B)∈b1++b2∧(S.g (H d.b)).2 = .one (.hd t)∧d.l.length=t∧A3 d.l=true∧Sb.w.heap[(S.bb d.b).1]? = some (.cells c e (0,0))∧(∀ j,j<t→c[(S.bb d.b).2+j]? = d.us[j]?)∧A5 P Sb (λ j => .tm d.n [j]) 0 d.l d.us:=by
   intro e1 hb2
   subst e1
   rw [List.nil_append] at hw ⊢
   obtain ⟨D,h3,h4,h5,h6⟩:=W0 ps h2 hb2 hs hw
   exact ⟨D,h3,h4,h5,λ d hd=>by
    obtain ⟨j,B,t,c,e,j1,j2,rest⟩:=h6 d hd
    exact ⟨j,B,t,c,e,by omega,by simp only [List.length_cons]; omega,rest⟩⟩
  have box:∀ {t t':Ty} {lb':List (List Lf)} {l':List Lf},lb=l'::lb'→Oja P S (bid nv i) t t' l u b1→Tz P Sb i t' l' u→Mb P Sb (i+1) ps us lb'→∃ D:List Bk,D.map Bk.b=(b1++b2).map Prod.fst∧ws=D.flatMap (λ d=>Bm d.b 0 d.l)∧(D.map Bk.n).Nodup∧
   ∀ d∈D,∃ j B t c e,i≤j∧j<i+(p::ps).length∧d.n=1001+j∧(d.b,B)∈b1++b2∧(S.g (H d.b)).2 = .one (.hd t)∧d.l.length=t∧A3 d.l=true∧Sb.w.heap[(S.bb d.b).1]? = some (.cells c e (0,0))∧(∀ j,j<t→c[(S.bb d.b).2+j]? = d.us[j]?)∧A5 P Sb (λ j => .tm d.n [j]) 0 d.l d.us:=by
   rintro t t' lb' l' rfl ⟨b,e1,e2,e3,e4,_⟩ ⟨k,o',c,e,vs,f1,f2,f3,f4,f5⟩ hb2
   subst e1
   rw [e2] at f1
   cases f1
   simp only [List.singleton_append,List.map_cons,Eia] at hw
   split at hw
   ·rename_i ws' hws'
    simp only [Option.some.injEq] at hw
    subst hw
    obtain ⟨D,h3,h4,h5,h6⟩:=W0 ps h2 hb2 (λ l hl=>hs l (List.mem_cons_of_mem _ hl)) hws'
    refine ⟨⟨b,1001+i,l',vs⟩::D,by simp [h3],by rw [List.flatMap_cons,h4],?_,λ d hd=>?_⟩
    ·rw [List.map_cons,List.nodup_cons]
     refine ⟨λ hm=>?_,h5⟩
     obtain ⟨d,hd,e5⟩:=List.mem_map.1 hm
     obtain ⟨j,_,_,_,_,j1,_,j3,_⟩:=h6 d hd
     have e6:d.n=1001+i:=e5
     omega
    ·rcases List.mem_cons.1 hd with rfl|hd
     ·exact ⟨i,bid nv i,t.sz,c,e,Nat.le_refl _,by simp only [List.length_cons]; omega,rfl,by simp,e3,by rw [f3,e4],Oq _ (hs l' (by simp)),f2,λ j hj=>f4 j (by omega),f5⟩
     ·obtain ⟨j,B,t,c,e,j1,j2,j3,j4,rest⟩:=h6 d hd
      exact ⟨j,B,t,c,e,by omega,by simp only [List.length_cons]; omega,j3,List.mem_cons_of_mem _ j4,rest⟩
   ·cases hw
  cases p with
  |val ag t=>exact skip h1.1 hb
  |vw t h0=>exact skip h1.1 hb
  |rd t=>exact skip h1.1 hb
  |fn F m=>exact skip h1.1 hb
  |ptr t t'=>
   cases lb with
   |nil=>exact hb.elim
   |cons l' lb'=>exact box rfl h1 hb.1 hb.2
  |hid t t'=>
   cases lb with
   |nil=>exact hb.elim
   |cons l' lb'=>exact box rfl h1 hb.1 hb.2
theorem Oma (hE:Ks X E) (K:Ah X S a) (hg:S.g=get A) {xs:List (TypeId×Operand)} {cs cb:List (Nat×Nat)} {f:FuncId} {en:Ent} (hrun:(execOp a.eval o).run X.P S.w = .ok (.enter f (xs.map (λ x=>a.eval x.2)++cs.map (Sd S)).toArray) S.w) (hd:∀ d,o.dst=some d→d<X.nt)
  (hco:Mp X.P f en) (hnv:en.nv=xs.length+cs.length) (hp:Gea E en.rs o.dst=true) (hn:en.nv≤1000) (hps:Lm en.nv 0 en.ps=true) (hlen:en.ps.length≤2000) (hrl:en.rs.length≤400)
  (h:(match Lt E cb cb en.nv A xs (cs++cb) en.ps with
  |none=>none
  |some (ls,us,bs)=>bif Rp bs then (match Q5 _ ls with
   |none=>none
   |some x=>(en.run x).bind λ r=>
    match Eia bs ((Cn _ r).drop en.rs.length) with
    |none=>none
    |some ws=>match Ox (ups (ups A us) ws) en.rs (shL E o.dst (Cn _ r)) o.dst with
     |none=>none
     |some rs=>Kc (us++(ws++rs))) else none)=some r):Ja X o a S.w A Kc r:=by
 have hnp:∀ d',o.dst=some d'→L8 en.rs=true→X.np≤d':=λ d' h1 h2=>by
  have:=hp
  unfold Gea at this
  rw [h1,h2] at this
  exact hE.np ▸ (Nat.le_of_ble_eq_true (by simpa using this))
 split at h
 ·cases h
 ·rename_i ls us bs hargs
  cases hnd:Rp bs with
  |false=>rw [hnd] at h; simp at h
  |true=>
   rw [hnd,cond_true] at h
   split at h
   ·cases h
   ·rename_i x hx
    cases hrun':en.run x with
    |none=>rw [hrun'] at h; simp at h
    |some y=>
     rw [hrun'] at h
     simp only [Option.bind_some] at h
     split at h
     ·cases h
     ·rename_i ws hws
      split at h
      ·cases h
      ·rename_i rs hrs
       obtain ⟨S1,L,K1,g1,G1,hLb,p1⟩:=Y8 (X:=X) (a:=a) hE hn en.ps 0 K hg hargs
       have hpv:Sd S1=Sd S:=by funext b; unfold Sd; rw [G1.bb]
       obtain ⟨i1,i2,i3,i4⟩:=Vr hn en.ps p1
       have hn1:(L.map Prod.fst).Nodup:=by rw [hLb]; exact Yy hnd
       have hok:=Hla K1 hn1 i2 en.ps p1 (Rj _ _ _ hx) (λ _ h=>h) hps
       have hdrop:(xs.map (λ x=>a.eval x.2)++(cs++cb).map (Sd S)).drop en.nv=cb.map (Sd S1):=by
        rw [hpv,hnv,List.map_append,← List.append_assoc,List.drop_left' (by simp)]
       have htake:(xs.map (λ x=>a.eval x.2)++(cs++cb).map (Sd S)).take en.nv=xs.map (λ x=>a.eval x.2)++cs.map (Sd S):=by
        rw [hnv,List.map_append,← List.append_assoc,List.take_left' (by simp)]
       have hs:=hco.sound x y hrun' S1.w (Oo S1 L) (Ola S1 L) _ (λ k hk=>K1.lt k (λ e=>hk (by simp [Oo,e]))) (Qpa K1 hn p1) (by rw [hdrop]; exact hok)
       rw [htake] at hs
       refine ⟨_,h,U2 hrun (Qj (by rw [← G1.w]; exact hs) ?_)⟩
       rintro e w' ⟨v,O',rfl,hF,hlt,hres,hback⟩
       refine ⟨v,rfl,?_⟩
       obtain ⟨a1,a2,a3⟩:=Eya hF
       have hlt2:∀ k,G8a S1 O' k ≠ .no→k<w'.heap.size:=λ k hk=>by
        by_cases hkl:k<S1.w.heap.size
        ·exact Nat.lt_of_lt_of_le hkl hF.size
        ·refine hlt k (λ e=>hk ?_)
         unfold G8a
         rw [if_neg (λ h=>hkl h.1),e]
         rfl
       have hnt:∀ k,(∀ n q,S1.O k ≠ .tm n q)→Pua (S1.O k)=false:=λ k hk=>by
        cases hO:S1.O k<;>first|rfl|exact absurd hO (hk _ _)
       have hsol:=Ki (en.rs.map Prod.snd++L7 en.ps) y
       rw [← hLb] at hws
       obtain ⟨D,D1,D2,D3,D4⟩:=W0 en.ps p1 hback (λ l hl=>hsol l (List.mem_of_mem_drop hl)) hws
       obtain ⟨w1,r1,r2,r3,r4⟩:=Qqa S1.w w' hF.size (L.map λ c=>(S1.bb c.1).1)
       have hblk:∀ k,k<S1.w.heap.size→Pua (S1.O k)=false→w1.heap[k]? = S1.w.heap[k]? := λ k hk ht=>by
        by_cases hm:k∈L.map λ c=>(S1.bb c.1).1
        ·exact r3 k hm hk
        ·rw [r4 k hm]
         exact (a1 k hk ht).2 (λ c hc e=>hm (by rw [e]; exact List.mem_map_of_mem (f:=λ c:Nat×Nat=>(S1.bb c.1).1) hc))
       have ros:w1.os=w'.os:=by rw [r1]
       have rtape:w1.tape=w'.tape:=by rw [r1]
       have rout:w1.output=w'.output:=by rw [r1]
       obtain ⟨K2,L2⟩:=K1.world (w':=w1) (O':=G8a S1 O') (λ k hk ht=>⟨(a1 k hk (hnt k ht)).1,hblk k hk (hnt k ht)⟩) (ros.trans hF.os) (rtape.trans hF.tape) (rout.trans hF.out) (by rw [r2]; exact hF.size) (λ k hk=>by rw [r2]; exact hlt2 k hk)
       have hbr:∀ {n:Nat} {q:List Nat} {x:Lf} {u:Value},J3 x=true→Al X.P (bare O' w') (.tm n q) x u→Al X.P (Th S1 w1 (G8a S1 O')) (.tm n q) x u:=by
        intro n q x u hx hu
        have hno:∀ k,(O' k = .fz∨O' k = .tm n q)→w1.heap[k]? = w'.heap[k]? := λ k hk=>by
         by_cases hm:k∈L.map λ c=>(S1.bb c.1).1
         ·exfalso
          obtain ⟨c,hc,rfl⟩:=List.mem_map.1 hm
          obtain ⟨m,hm1⟩:=i3 c hc
          obtain ⟨_,cc,ee,g2,g3,_⟩:=K1.box c.1 m hm1
          have hcal:Oo S1 L (S1.bb c.1).1 = .bx c.2:=Hka g3 (D8a hn1 (show (c.1,c.2)∈L from hc)) rfl
          have:=(hF.bx _ _ (K1.lt _ (by rw [g3]; simp)) hcal).1
          rcases hk with hk|hk<;>rw [this] at hk<;>cases hk
         ·exact r4 k hm
        cases x with
        |sc v=>exact hu
        |fz e r xs=>exact Ty.rep_mono (t := .sl e r) (λ k hk=>a2 k hk) (λ k hk=>hno k (.inl hk)) _ _ hu
        |own e r xs=>exact F7.later (O':=G8a S1 O') (w':=w1) hu (λ k hk=>⟨a2 k hk,hno k (.inl hk)⟩) (λ k hk=>⟨a3 k n q hk,hno k (.inr hk)⟩)
        |_=>simp [J3] at hx
       have hDok:∀ d∈D,d.Ok X.P (Th S1 w1 (G8a S1 O')) w':=λ d hd'=>by
        obtain ⟨j,B,t,c',e',j1,j2,j3,j4,j5,j6,j7,j8,j9,j10⟩:=D4 d hd'
        obtain ⟨g0,c0,e0,g2,g3,g4,g5⟩:=K1.box d.b _ j5
        have hcal:Oo S1 L (S1.bb d.b).1 = .bx B:=Hka g3 (D8a hn1 j4) rfl
        have hkl:=K1.lt _ (show S1.O (S1.bb d.b).1 ≠ .no by rw [g3]; simp)
        obtain ⟨_,c1,c2,e7,ff,x2,x3,x4,x5⟩:=hF.bx _ _ hkl hcal
        rw [g2] at x2
        cases x2
        have j8':w'.heap[(S1.bb d.b).1]? = some (.cells c' e'):=j8
        rw [x3] at j8'
        cases j8'
        have hrg:Ola S1 L B=((S1.bb d.b).2,t):=by
         unfold Ola
         rw [Y9 i2 j4]
         simp only [j5]
        rw [hrg] at x5
        refine ⟨c0,_,_,by rw [j6]; exact j5,?_,x3,x4,λ i hi=>x5 i (by rw [j6] at hi; exact hi),λ j hj=>j9 j (by omega),j7,?_⟩
        ·show w1.heap[(S1.bb d.b).1]? = _
         rw [hblk _ hkl (by rw [g3]; rfl)]
         exact g2
        ·exact A5.impS (Kr j7) (λ n x u hx hu=>hbr hx hu) j10
       obtain ⟨S2,K3,g3,w3,o3,t3,s3⟩:=D9a (w':=w') D (A:=ups A us) K2 g1 hDok (by rw [D1]; exact hn1) D3 (λ d hd'=>by
        obtain ⟨j,_,_,_,_,_,j2,j3,_⟩:=D4 d hd'
        exact ⟨by omega,by omega⟩) (λ k hk=>(r4 k (λ hm=>by
        obtain ⟨c,hc,hce⟩:=List.mem_map.1 hm
        have:c.1∈D.map Bk.b:=by rw [D1]; exact List.mem_map_of_mem hc
        obtain ⟨d,hd',hde⟩:=List.mem_map.1 this
        refine hk d hd' ?_
        rw [← hce,← hde]
        rfl)).symm) r1
       have hnames:∀ (n:Nat) (q:List Nat) (x:Lf) (u:Value),0<n→n<1001→J3 x=true→Al X.P (bare O' w') (.tm n q) x u→Al X.P S2 (.tm n q) x u:=λ n q x u h1 h2 hx hu=>s3 n q x u h1 h2 hx (hbr hx hu)
       have hlb:∀ n q k,0<n→n<1001→O' k = .tm n q→S2.O k = .tm n q:=λ n q k h1 h2 hk=>t3 n q k h1 h2 (a3 k n q hk)
       have hres1:Jd X.P S2 S1.w.heap.size en.rs (Cn _ y) v:=by
        have one:∀ {i:Nat} {k:RK} {l:List Lf} {u:Value},0<i→i<500→(∀ z∈l,J3 z=true)→Nq X.P (bare O' w') S1.w.heap.size i k l u→Nq X.P S2 S1.w.heap.size i k l u:=by
         intro i k l u h1 h2 hz h
         cases k with
         |one=>exact A5.impM (λ x hx n u h=>hnames _ _ x u h1 (by omega) (hz x hx) h) h
         |agg=>
          obtain ⟨us,e,h⟩:=h
          exact ⟨us,e,h.impM (λ x hx n u h=>hnames _ _ x u h1 (by omega) (hz x hx) h)⟩
         |ptr=>
          obtain ⟨k,o',c,e,us,e1,e2,e3,e4,e5,e6,e7,h⟩:=h
          exact ⟨k,o',c,e,us,e1,by rw [w3]; exact e2,e3,hlb _ _ _ (by omega) (by omega) e4,e5,e6,e7,h.impM (λ x hx n u h=>hnames _ _ x u h1 (by omega) (hz x hx) h)⟩
        have all:∀ (rs:List (RK×Ty)) {i:Nat} {ls:List (List Lf)} {us:List Value},0<i→i+rs.length<500→(∀ l∈ls,∀ z∈l,J3 z=true)→L5 X.P (bare O' w') S1.w.heap.size i rs ls us→L5 X.P S2 S1.w.heap.size i rs ls us:=by
         intro rs
         induction rs with
         |nil=>intro i ls us _ _ _ h; exact h
         |cons r rs ih=>
          intro i ls us h1 h2 hz h
          cases ls with
          |nil=>exact h.elim
          |cons l ls=>
           cases us with
           |nil=>exact h.elim
           |cons u us=>
            simp only [List.length_cons] at h2
            exact ⟨one h1 (by omega) (hz l (by simp)) h.1,ih (by omega) (by omega) (λ l hl=>hz l (List.mem_cons_of_mem _ hl)) h.2⟩
        unfold Jd at hres ⊢
        split at hres
        ·obtain ⟨l,ls',e1,h5⟩:=hres
         exact ⟨l,ls',e1,one (by omega) (by omega) (hsol l (by rw [e1]; simp)) h5⟩
        ·obtain ⟨us',e1,h5⟩:=hres
         exact ⟨us',e1,all en.rs (by omega) (by omega) hsol h5⟩
       obtain ⟨S3,K4,w4,g4⟩:=D6a (E:=E) K3 g3 (λ _=>hrl) hd K1.fr.size (Ki _ y) hnp hres1 (by rw [← D2]; exact hrs)
       refine ⟨S3,w4.trans w3,K4,?_⟩
       rw [g4,← D2,Af,Af]
theorem Hma {α β:Type}:∀ {l:List α} {m:List β},m.length≤l.length→(l.zip m).map Prod.snd=m
 |_,[],_=>by simp
 |[],_::_,h=>by simp at h
 |_::l,_::m,h=>by simp [Hma (l:=l) (m:=m) (by simpa using h)]
theorem W1:∀ {Ts:List TypeId} {xs:List Operand} {ss:List Sv},Q8 E Ts A xs=some ss→xs.length≤Ts.length
 |_,[],_,_=>Nat.zero_le _
 |[],_::_,_,h=>by simp [Q8] at h
 |T::Ts,x::xs,ss,h=>by
  simp only [Q8] at h
  split at h
  ·split at h
   ·rename_i hr
    simp only [List.length_cons]
    have:=W1 hr
    omega
   ·cases h
  ·cases h
theorem Daa (hE:Ks X E) (K:Ah X S a) (hg:S.g=get A) {Ts:List TypeId} {xs:List Operand} {cs:List (Nat×Nat)} {f:FuncId} {en:Ent} {ss:List Sv} (hrun:(execOp a.eval o).run X.P S.w = .ok (.enter f (xs.map a.eval++cs.map (Sd S)).toArray) S.w) (hd:∀ d,o.dst=some d→d<X.nt)
  (hco:Mp X.P f en) (hss:Q8 E Ts A xs=some ss) (h:Us E A en (Ts.zip xs) cs ss o.dst Kc=some r):Ja X o a S.w A Kc r:=by
 unfold Us at h
 have hz:=Hma (W1 hss)
 have hzl:(Ts.zip xs).length=xs.length:=by
  rw [List.length_zip]
  have:=W1 hss
  omega
 cases hnv:Nat.beq en.nv ((Ts.zip xs).length+cs.length) with
 |false=>rw [hnv] at h; simp at h
 |true=>
  rw [hnv,cond_true] at h
  have hnv':en.nv=xs.length+cs.length:=by rw [← hzl]; exact Nat.eq_of_beq_eq_true hnv
  cases hl:(Nh en.ps&&T8 en.rs&&cs.isEmpty) with
  |true=>
   rw [hl,cond_true] at h
   simp only [Bool.and_eq_true,List.isEmpty_iff] at hl
   obtain ⟨⟨l1,l2⟩,l3⟩:=hl
   subst l3
   simp only [List.map_nil,List.append_nil] at hrun
   exact Oia hE K hg hrun hd hco (by simpa using hnv') (B5a hE K hg hss) l1 l2 h
  |false=>
   rw [hl,cond_false] at h
   cases hp:(Gea E en.rs o.dst&&(Nat.ble en.nv 1000&&Lm en.nv 0 en.ps&&Nat.ble en.rs.length 400&&Nat.ble en.ps.length 2000)) with
   |false=>rw [hp] at h; simp at h
   |true=>
    rw [hp,cond_true] at h
    simp only [Bool.and_eq_true] at hp
    obtain ⟨p1,⟨⟨p2,p3⟩,p4⟩,p5⟩:=hp
    refine Oma (xs:=Ts.zip xs) (cs:=cs) (cb:=Gca ss++Xf A en.ps ss) hE K hg ?_ hd hco (by rw [hzl]; exact hnv') p1 (Nat.le_of_ble_eq_true p2) p3 (Nat.le_of_ble_eq_true p5) (Nat.le_of_ble_eq_true p4) h
    have e1:(Ts.zip xs).map (λ x=>a.eval x.2)=xs.map a.eval:=by
     rw [← hz,List.map_map]
     rw [hz]
     rfl
    rw [e1]
    exact hrun
theorem Ona (hE:Ks X E) (hcall:∀ f en,E.call f=some en→Mp X.P f en) (K:Ah X S a) (hg:S.g=get A) {c:Call} {f:FuncId} (ho:o.op = .call c) (hc:c.callee = .value (.func f)) (hd:∀ d,o.dst=some d→d<X.nt)
  (h:Ac E o A Kc=some r):Ja X o a S.w A Kc r:=by
 unfold Ac at h
 rw [ho] at h
 simp only [hc] at h
 split at h
 ·rename_i en ss he hss
  have hco:=hcall f en he
  exact Daa hE K hg (by simpa using Hfa (w:=S.w) ho hc hco) hd hco hss h
 ·cases h
theorem L9a (hE:Ks X E) (hcall:∀ f en,E.call f=some en→Mp X.P f en) (K:Ah X S a) (hg:S.g=get A) {c:Call} {t:Nat} (ho:o.op = .call c) (hc:c.callee = .value (.tmp t)) (hd:∀ d,o.dst=some d→d<X.nt)
  (h:Ac E o A Kc=some r):Ja X o a S.w A Kc r:=by
 unfold Ac at h
 rw [ho] at h
 simp only [hc] at h
 split at h
 ·rename_i f bs hs
  split at h
  ·rename_i en ss he hss
   cases hal:Ls A bs with
   |false=>rw [hal] at h; simp at h
   |true=>
    rw [hal,cond_true] at h
    have hco:=hcall f en he
    obtain ⟨pl,h2⟩:=Ii hE K hg hs
    obtain ⟨us,e1,e2⟩:Al X.P S (.pl pl []) (.fn f bs) (a.eval (.tmp t)):=h2
    have e3:=Se hg e2 hal
    subst e3
    exact Daa hE K hg (Eta (w:=S.w) ho hc e1 hco) hd hco hss h
  ·cases h
 ·cases h
theorem Dba (hE:Ks X E) (K:Ah X S a) (hg:S.g=get A):∀ {xs:List Operand} {bs:List (Nat×Nat)},Xj E A xs=some bs→Rv S bs (xs.map a.eval)
 |[],bs,h=>by
  simp only [Xj,Option.some.injEq] at h
  subst h
  rfl
 |x::l,bs,h=>by
  simp only [Xj] at h
  split at h
  ·rename_i b v hx
   split at h
   ·rename_i bs' hr
    simp only [Option.some.injEq] at h
    subst h
    obtain ⟨pl,h2⟩:=Ii hE K hg hx
    exact ⟨_,_,rfl,h2,Dba hE K hg hr⟩
   ·cases h
  ·cases h
theorem Bha (hE:Ks X E) (K:Ah X S a) (hg:S.g=get A) {f:FuncId} {x y:Array Operand} {d:Nat} (ho:o.op = .makeFunc (.func f) x y) (hod:o.dst=some d) (hd:d<X.nt) (h:Ac E o A Kc=some r):Ja X o a S.w A Kc r:=by
 unfold Ac at h
 rw [ho,hod] at h
 simp only at h
 split at h
 ·rename_i bs hx hy
  have ex:x = #[]:=by
   apply Array.ext'
   simpa using hx
  subst ex
  have hsv:Ka X.P S 0 (.one (.fn f bs)) (.func (.func f) #[] (y.toList.map a.eval).toArray):=⟨_,rfl,Dba hE K hg hy⟩
  have K2:=K.put0 hd _ _ 0 rfl hsv
  refine ⟨_,h,A8 (S:=Lu S (λ _ _=>none) d _ _) (v := .func (.func f) #[] (y.toList.map a.eval).toArray) ?_ (by rw [hod]; exact K2) ?_⟩
  ·show _=Result.ok _ S.w
   have e1:y.map a.eval=(y.toList.map a.eval).toArray:=by
    apply Array.ext'
    simp
   unfold execOp
   simp [ho,Instr.makeFunc,e1]
  ·show upd S.g d _=_
   rw [A7,← hg]
 ·cases h
end
end

section
attribute [local irreducible] C H
structure Sf (X:Cx) (E:En):Prop where
 en:Ks X E
 call:∀ f en,E.call f=some en→Mp X.P f en
section
variable {X:Cx} {S S1 S2:Sit} {a:Act} {E:En} {A:Ab} {o:Oper} {R:Type} {Kc:List Up→Option R} {r:R}
theorem Hna (hV:Sf X E) (K:Ah X S a) (hg:S.g=get A) (hd:∀ d,o.dst=some d→d<X.nt) (h:Ac E o A Kc=some r):Ja X o a S.w A Kc r:=by
 have hE:=hV.en
 cases ho:o.op with
 |call c=>
  cases hc:c.callee with
  |builtin b=>
   cases b with
   |len=>exact Qba hE K hg ho hc hd h
   |min=>exact Xw hE K hg false ho hc hd h
   |max=>exact Xw hE K hg true ho hc hd h
   |append=>exact Hca hE K hg ho hc hd h
   |_=>unfold Ac at h; rw [ho] at h; simp only [hc] at h; cases h
  |value f=>
   cases f with
   |func f=>exact Ona hE hV.call K hg ho hc hd h
   |tmp t=>exact L9a hE hV.call K hg ho hc hd h
   |_=>unfold Ac at h; rw [ho] at h; simp only [hc] at h; cases h
  |invoke x m=>unfold Ac at h; rw [ho] at h; simp only [hc] at h; cases h
 |makeFunc fn x y=>cases fn with
  |func f=>cases hod:o.dst with
   |none=>unfold Ac at h; rw [ho,hod] at h; cases h
   |some d=>exact Bha hE K hg ho hod (hd d hod) h
  |_=>unfold Ac at h; rw [ho] at h; cases hod:o.dst<;>(rw [hod] at h; cases h)
 |store T x y=>
  cases hod:o.dst with
  |none=>exact Kza hE K hg ho hod h
  |some d=>unfold Ac at h; rw [ho,hod] at h; cases h
 |move x=>cases hod:o.dst with
  |none=>unfold Ac at h; rw [ho,hod] at h; cases h
  |some d=>exact O4a hE K hg ho hod (hd d hod) h
 |assign x=>cases hod:o.dst with
  |none=>unfold Ac at h; rw [ho,hod] at h; cases h
  |some d=>exact Gra hE K hg ho hod (hd d hod) h
 |pick c x y=>cases hod:o.dst with
  |none=>unfold Ac at h; rw [ho,hod] at h; cases h
  |some d=>exact O6a hE K hg ho hod (hd d hod) h
 |binOp op T x y T'=>cases hod:o.dst with
  |none=>unfold Ac at h; rw [ho,hod] at h; cases h
  |some d=>exact Kna hE K hg ho hod (hd d hod) h
 |unOp op T x=>cases hod:o.dst with
  |none=>unfold Ac at h; rw [ho,hod] at h; cases h
  |some d=>exact O5a hE K hg ho hod (hd d hod) h
 |convert T T' x=>cases hod:o.dst with
  |none=>unfold Ac at h; rw [ho,hod] at h; cases h
  |some d=>exact Eqa hE K hg ho hod (hd d hod) h
 |nilCheck x=>cases hod:o.dst with
  |none=>unfold Ac at h; rw [ho,hod] at h; cases h
  |some d=>exact B6a hE K hg ho hod (hd d hod) h
 |extract x j=>cases hod:o.dst with
  |none=>unfold Ac at h; rw [ho,hod] at h; cases x<;>cases h
  |some d=>cases x with
   |tmp t=>exact Ela hE K hg ho hod (hd d hod) h
   |_=>unfold Ac at h; rw [ho,hod] at h; cases h
 |field T x j=>cases hod:o.dst with
  |none=>unfold Ac at h; rw [ho,hod] at h; cases x<;>cases h
  |some d=>cases x with
   |tmp t=>exact Kqa hE K hg ho hod (hd d hod) h
   |_=>unfold Ac at h; rw [ho,hod] at h; cases h
 |build T ps=>cases hod:o.dst with
  |none=>unfold Ac at h; rw [ho,hod] at h; cases h
  |some d=>exact L2a hE K hg ho hod (hd d hod) h
 |alloc T=>cases hod:o.dst with
  |none=>unfold Ac at h; rw [ho,hod] at h; cases h
  |some d=>exact L0a hE K hg ho hod (hd d hod) h
 |box T x=>cases hod:o.dst with
  |none=>unfold Ac at h; rw [ho,hod] at h; cases h
  |some d=>exact Qfa hE K hg ho hod (hd d hod) h
 |load T x=>cases hod:o.dst with
  |none=>unfold Ac at h; rw [ho,hod] at h; cases h
  |some d=>exact O8a hE K hg ho hod (hd d hod) h
 |fieldAddr T x j=>cases hod:o.dst with
  |none=>unfold Ac at h; rw [ho,hod] at h; cases h
  |some d=>exact Xx hE K hg ho hod (hd d hod) h
 |indexAddr T x i=>cases hod:o.dst with
  |none=>unfold Ac at h; rw [ho,hod] at h; cases h
  |some d=>
   cases hop:E.opn d with
   |true=>exact Y4 hE K hg ho hod (hd d hod) hop h
   |false=>exact Xy hE K hg ho hod (hd d hod) hop h
 |index T x i=>cases hod:o.dst with
  |none=>unfold Ac at h; rw [ho,hod] at h; cases h
  |some d=>exact Koa hE K hg ho hod (hd d hod) h
 |slice T x lo hi mx=>cases hod:o.dst with
  |none=>unfold Ac at h; rw [ho,hod] at h; cases mx<;>cases h
  |some d=>cases mx with
   |none=>exact Kra hE K hg ho hod (hd d hod) h
   |some m=>unfold Ac at h; rw [ho,hod] at h; cases h
 |buildSlice T n ps=>cases hod:o.dst with
  |none=>unfold Ac at h; rw [ho,hod] at h; cases h
  |some d=>exact V8 hE K hg ho hod (hd d hod) h
 |makeSlice T x y=>cases hod:o.dst with
  |none=>unfold Ac at h; rw [ho,hod] at h; cases h
  |some d=>exact Y6 hE K hg ho hod (hd d hod) h
 |_=>unfold Ac at h; rw [ho] at h; cases hod:o.dst<;>(rw [hod] at h; cases h)
theorem N2a (hE:Ks X E) (K:Ah X S a) (hg:S.g=get A) (hd:Tf E o=true):∃ S',Ah X S' (a.put o.dst undef)∧S'.g=get (Pf o A)∧S'.w=S.w:=by
 unfold Pf
 unfold Tf at hd
 cases hod:o.dst with
 |none=>exact ⟨S,K,hg,rfl⟩
 |some d=>
  rw [hod] at hd
  have hdl:d<X.nt:=hE.nt ▸ (Nat.le_of_ble_eq_true hd:d+1≤E.nt)
  refine ⟨_,K.put0 hdl (.one .un) undef 0 rfl rfl,?_,rfl⟩
  show upd S.g d _=_
  rw [M5,← hg]
  rfl
def Sha (X:Cx) (Q:Exit→Act→World→Prop) (K:Ab→Option R) (r:R):Prop:=∀ S a A,Ah X S a→S.g=get A→K A=some r→Q .normal a S.w
theorem Sg {A:Ab} {d n:Nat} {v:Bool} (h:get A d=(n,.one (.sc (.bool v)))):get (lit A d n v)=get A:=by
 funext k
 unfold lit
 simp only [get]
 by_cases hk:k=d
 ·subst hk; simp [h]
 ·have:Nat.beq d k=false:=by
   cases hb:Nat.beq d k with
   |false=>rfl
   |true=>exact absurd (Nat.eq_of_beq_eq_true hb).symm hk
  simp [this]
theorem W2 (hV:Sf X E) {ops:Array Oper} {Q:Exit→Act→World→Prop}:∀ (l:List Nat) {S:Sit} {a:Act} {A:Ab} {K:Ab→Option R} {r:R},Ah X S a→S.g=get A→Rr E ops.toList l A K=some r→Sha X Q K r→wpOps X.P ops Q l a S.w
 |[],S,a,A,K,r,hK,hg,h,hQ=>hQ S a A hK hg h
 |i::l,S,a,A,K,r,hK,hg,h,hQ=>by
  rw [wpOps_cons]
  unfold Rr at h
  rw [Jf] at h
  unfold wpOp
  split at h
  ·cases h
  ·rename_i o ho
   have ho':ops[i]? = some o:=by simpa using ho
   rw [ho']
   simp only
   cases hd:Tf E o with
   |false=>rw [hd] at h; simp at h
   |true=>
    rw [hd,cond_true] at h
    have hdl:∀ d,o.dst=some d→d<X.nt:=λ d hod=>by
     unfold Tf at hd
     rw [hod] at hd
     exact hV.en.nt ▸ (Nat.le_of_ble_eq_true hd:d+1≤E.nt)
    have go:∀ {A:Ab},S.g=get A→Ac E o A (λ U=>Rr E ops.toList l (ups A U) K)=some r→o.wp X.P a S.w (wpOps X.P ops Q l) Q:=by
     intro A hg h
     obtain ⟨U,hU,hgo⟩:=Hna hV hK hg hdl h
     exact hgo _ _ (λ S' a' K' g'=>W2 hV l K' g' hU hQ)
    have skip:∀ {A:Ab},S.g=get A→Rr E ops.toList l (Pf o A) K=some r→wpOps X.P ops Q l (a.put o.dst undef) S.w:=by
     intro A hg h
     obtain ⟨S',K',g',w'⟩:=N2a hV.en hK hg hd
     rw [← w']
     exact W2 hV l K' g' h hQ
    split at h
    ·rename_i hgd
     have hw:Region.wanted o (yielded ops a.tmps)=true:=by unfold Region.wanted; rw [hgd]
     rw [if_pos hw]
     exact .inl (go hg h)
    ·rename_i j want hgd
     split at h
     ·cases h
     ·rename_i dj hdj
      have hdj':(ops[j]?).bind (·.dst)=some dj:=by
       unfold Gga at hdj
       rw [Jf] at hdj
       have:ops.toList[j]? = ops[j]? := by simp
       rw [this] at hdj
       cases hj:ops[j]? with
       |none=>rw [hj] at hdj; cases hdj
       |some oj=>rw [hj] at hdj; simpa using hdj
      cases hb:Nat.blt dj E.nt with
      |false=>rw [hb] at h; simp at h
      |true=>
       rw [hb,cond_true] at h
       have hjl:dj<X.nt:=hV.en.nt ▸ (Nat.le_of_ble_eq_true hb:dj+1≤E.nt)
       have htm:a.tmps[dj]? = some (S.ph dj):=by
        have h1:=hK.sl dj hjl
        have h2:dj<a.tmps.size:=by rw [hK.sz]; exact hjl
        rw [← h1,Array.getD_eq_getD_getElem?,Array.getElem?_eq_getElem h2]
        rfl
       have hy:yielded ops a.tmps j=(match S.ph dj with | .bool b=>some b|_=>none):=by
        unfold yielded
        rw [hdj',Option.bind_some,htm]
        cases S.ph dj<;>rfl
       have hwd:Region.wanted o (yielded ops a.tmps)=((match S.ph dj with | .bool b=>some b|_=>none)==some want):=by
        unfold Region.wanted
        rw [hgd]
        simp only
        rw [hy]
       split at h
       ·rename_i n b hgt
        have hph:S.ph dj = .bool b:=by
         have:=hK.at_ dj
         rw [hg,hgt] at this
         exact this.1
        rw [hph] at hwd
        have hgl:S.g=get (lit A dj n b):=by rw [Sg hgt]; exact hg
        cases b with
        |true=>
         rw [cond_true] at h
         cases want with
         |true=>
          rw [cond_true] at h
          rw [if_pos (by rw [hwd]; rfl)]
          exact .inl (go hgl h)
         |false=>
          rw [cond_false] at h
          rw [if_neg (by rw [hwd]; decide)]
          exact skip hgl h
        |false=>
         rw [cond_false] at h
         cases want with
         |true=>
          rw [cond_true] at h
          rw [if_neg (by rw [hwd]; decide)]
          exact skip hgl h
         |false=>
          rw [cond_false] at h
          rw [if_pos (by rw [hwd]; rfl)]
          exact .inl (go hgl h)
       ·rename_i n hgt
        have hph:S.ph dj=undef:=by
         have:=hK.at_ dj
         rw [hg,hgt] at this
         exact this
        rw [hph] at hwd
        rw [if_neg (by rw [hwd]; simp [undef])]
        exact skip hg h
       ·cases h
end
end

section
attribute [local irreducible] C H
def Dca:Ex→Exit
 |.normal => .normal
 |.exit i => .exit i
 |.ret => .ret
theorem Rsa {J:Nat→Prop}:∀ n,J n→∃ m,J m∧(∀ k,J k→m≤k):=by
 intro n
 induction n using Nat.strongRecOn with
 |_ n ih=>
  intro hn
  by_cases h:∃ m,m<n∧J m
  ·obtain ⟨m,hm,hj⟩:=h
   exact ih m hm hj
  ·exact ⟨n,hn,λ k hk=>Nat.le_of_not_lt (λ hlt=>h ⟨k,hlt,hk⟩)⟩
open Classical in
theorem Eza {P:Program} {c:Code} {Q:Exit→Act→World→Prop} (J:Nat→Act→World→Prop) {n:Nat} {a:Act} {w:World} (h0:J n a w)
  (round:∀ n a w,J n a w→c.wp P (Exit.then (λ a' w'=>∃ m,m<n∧J m a' w') Q) a w):(Code.loop c).wp P Q a w:=by
 let μ:Act→World→Nat:=λ a w=>if h:∃ m,J m a w∧(∀ k,J k a w→m≤k) then Classical.choose h else 0
 have hμ:∀ a w n,J n a w→J (μ a w) a w∧(∀ k,J k a w→μ a w≤k):=by
  intro a w n hn
  have h:=Rsa (J:=λ m=>J m a w) n hn
  have e:μ a w=Classical.choose h:=by simp only [μ]; rw [dif_pos h]
  rw [e]
  exact Classical.choose_spec h
 refine wp_loop (λ a w=>∃ n,J n a w) μ ⟨n,h0⟩ ?_
 rintro a w ⟨n,hn⟩
 obtain ⟨h1,h2⟩:=hμ a w n hn
 refine wp_mono (round (μ a w) a w h1) ?_
 intro e a' w' hq
 cases e<;>first|exact hq|skip
 obtain ⟨m,hm,hj⟩:=hq
 refine ⟨⟨m,hj⟩,Nat.lt_of_le_of_lt ((hμ a' w' m hj).2 m hj) hm⟩
section
variable {X:Cx} {S S1 S2:Sit} {a:Act} {E:En} {A:Ab} {o:Oper} {R:Type} {Kc:List Up→Option R} {r:R}
def M3 (O:Nat→Lab) (vs:List (Nat×Ty)):Nat→Lab:=λ k=>match O k with
 |.pl p []=>if Ph vs p then .pl p [] else .fz
 |o=>o
theorem Li {O:Nat→Lab} {vs:List (Nat×Ty)} {k:Nat} {o:Lab} (h:O k=o) (ho:∀ p,o ≠ .pl p []):M3 O vs k=o:=by
 unfold M3
 rw [h]
 cases o<;>first|rfl|skip
 rename_i l p
 cases p<;>first|rfl|exact absurd rfl (ho _)
theorem W3 {P:Program} {S:Sit} {lab:Lab} {t:Ty} {z:Lf} {x:t.den} {y:Lf} {u:Value} (hw:mkW t [z]=some x) (hy:A4 t x=[y]) (hz:Al P S lab z u) (ho:Psa t=true∨z.isOwn=false):Al P S lab y u:=by
 cases t with
 |pr p q=>
  have h1:=I1 (.pr p q) x
  rw [hy] at h1
  have:=Nb p
  have:=Nb q
  have h2:1=p.sz+q.sz:=h1
  omega
 |ow e r=>
  have h1:A5 P S (λ _=>lab) 0 (A4 (.ow e r) x) [u]:=Od (by trivial) hw ⟨hz,trivial⟩
  rw [hy] at h1
  exact h1.1
 |i k=>
  cases z<;>first|(simp [mkW,mkT] at hw; done)|skip
  rename_i v
  cases v<;>first|(simp [mkW,mkT] at hw; done)|skip
  rename_i k' n
  unfold mkW at hw
  simp only [mkT] at hw
  by_cases hk:k=k'
  ·subst hk
   simp only [decide_true,cond_true,Option.some.injEq] at hw
   subst hw
   simp only [A4,List.cons.injEq,and_true] at hy
   subst hy
   exact hz
  ·simp [hk] at hw
 |b=>
  cases z<;>first|(simp [mkW,mkT] at hw; done)|skip
  rename_i v
  cases v<;>first|(simp [mkW,mkT] at hw; done)|skip
  unfold mkW at hw
  simp only [mkT,Option.some.injEq] at hw
  subst hw
  simp only [A4,List.cons.injEq,and_true] at hy
  subst hy
  exact hz
 |s=>
  cases z<;>first|(simp [mkW,mkT] at hw; done)|skip
  rename_i v
  cases v<;>first|(simp [mkW,mkT] at hw; done)|skip
  unfold mkW at hw
  simp only [mkT,Option.some.injEq] at hw
  subst hw
  simp only [A4,List.cons.injEq,and_true] at hy
  subst hy
  exact hz
 |sl e r=>
  simp only [A4,List.cons.injEq,and_true] at hy
  subst hy
  cases z<;>first|(simp [mkW,mkT] at hw; done)|skip
  ·rename_i e' r' xs
   unfold mkW at hw
   simp only [mkT] at hw
   cases hb:Nat.beq e e' with
   |false=>rw [hb] at hw; simp at hw
   |true=>
    rw [hb,cond_true] at hw
    have he:e=e':=Nat.eq_of_beq_eq_true hb
    subst he
    cases hc:Ov r r' xs with
    |none=>rw [hc] at hw; simp at hw
    |some ys=>
     rw [hc] at hw
     simp only [Option.some.injEq] at hw
     subst hw
     exact Pi hc hz
  ·simp [Psa,Lf.isOwn] at ho
theorem F0a {vs:List (Nat×Ty)} {l:Nat} {t:Ty} (hm:(l,t)∈vs) (ht:Psa t=true):Ph vs l=true:=by
 unfold Ph
 rw [List.any_eq_true]
 refine ⟨(l,t),hm,?_⟩
 cases t<;>first|(simp [Psa] at ht; done)|simp
theorem Ooa (K:Ah X S a) (hg:S.g=get A) {all:List (Nat×Ty)} {l:Nat} {t:Ty} {x:t.den} (hm:(l,t)∈all) (h:Kea A all l t=some x):
  ∀ y,A4 t x=[y]→Al X.P { S with O:=M3 S.O all } (.pl l []) y (S.ph l):=by
 intro y hy
 have hfz:∀ k,S.O k = .fz→M3 S.O all k = .fz:=λ k hk=>Li hk (by simp)
 have L:Es S { S with O:=M3 S.O all }:=⟨λ _=>Nat.le_refl _,λ _ _=>rfl,λ p v e r xs' h _=>⟨xs',h,rfl⟩,λ _ _=>rfl,λ k hk=>⟨hfz k hk,rfl⟩,Es.box_of (λ _ _ _ h=>h) (λ k b h=>⟨Li h (by simp),rfl⟩),λ p _ hd=>⟨hd,λ _ _ _ h=>h,λ k hk=>by
  refine ⟨?_,rfl⟩
  cases hkp:Ph all p with
  |true=>exact .inl (by show M3 S.O all k=_; unfold M3; rw [hk]; simp [hkp])
  |false=>exact .inr (by show M3 S.O all k=_; unfold M3; rw [hk]; simp [hkp])⟩⟩
 have hat:=K.at_ l
 rw [hg] at hat
 have frz:∀ (p:Nat) (e:TypeId) (r:Ty) (xs:List r.den),Ph all p=false→F7 X.P S.O S.w (.pl p []) e r xs (S.ph p)→Al X.P { S with O:=M3 S.O all } .fz (.fz e r xs) (S.ph p):=by
  intro p e r xs hk ho
  exact ho.reads (O':=M3 S.O all) hfz (λ k hkk=>by
   unfold M3
   rw [hkk]
   simp [hk])
 unfold Kea at h
 split at h
 ·rename_i p v hgl
  rw [hgl] at hat
  have hat':Al X.P S (.pl l []) (.al p v) (S.ph l):=hat
  cases hk:Ph all p with
  |true=>rw [hk] at h; simp at h
  |false=>
   rw [hk,cond_false] at h
   have hz:Al X.P { S with O:=M3 S.O all } .fz (Lx (Ky A (.al p v))) (S.ph l):=by
    simp only [Ky]
    split
    ·rename_i n e r xs hp
     cases hb:Nat.beq n v with
     |false=>exact trivial
     |true=>
      have hnv:n=v:=by simpa using hb
      subst hnv
      rw [cond_true,hat'.2 (by rw [hg,hp])]
      have h3:=K.at_ p
      rw [hg,hp] at h3
      exact frz p e r xs hk h3
    ·rename_i n e r xs hp
     cases hb:Nat.beq n v with
     |false=>exact trivial
     |true=>
      have hnv:n=v:=by simpa using hb
      subst hnv
      rw [cond_true,hat'.2 (by rw [hg,hp])]
      have h3:=K.at_ p
      rw [hg,hp] at h3
      exact Ty.rep_mono (t := .sl e r) hfz (λ _ _=>rfl) _ _ h3
    ·exact trivial
   have hno:(Lx (Ky A (.al p v))).isOwn=false:=by cases Ky A (.al p v)<;>rfl
   have:=W3 h hy hz (.inr hno)
   have hyo:y.isOwn=false:=by
    cases t<;>first|(simp [A4] at hy; subst hy; rfl)|skip
    ·cases hs:Lx (Ky A (.al p v)) with
     |own e r xs=>rw [hs] at hno; simp [Lf.isOwn] at hno
     |_=>rw [hs] at h; simp [mkW,mkT] at h
    ·rename_i p q
     have h1:=I1 (.pr p q) x
     rw [hy] at h1
     have:=Nb p
     have:=Nb q
     have h2:1=p.sz+q.sz:=h1
     omega
   exact this.relab hyo
 ·rename_i e r xs hgl
  rw [hgl] at hat
  have hat':F7 X.P S.O S.w (.pl l []) e r xs (S.ph l):=hat
  cases hot:Psa t with
  |true=>
   rw [hot,cond_true] at h
   have hkl:=F0a hm hot
   have hz:Al X.P { S with O:=M3 S.O all } (.pl l []) (.own e r xs) (S.ph l):=Al.later (x := .own e r xs) L hat (λ k hk=>⟨by show M3 S.O all k=_; unfold M3; rw [hk]; simp [hkl],rfl⟩)
   exact W3 h hy hz (.inl hot)
  |false=>
   rw [hot,cond_false] at h
   cases hk:Ph all l with
   |true=>rw [hk] at h; simp at h
   |false=>
    rw [hk,cond_false] at h
    have:=W3 h hy (Al.relab (lab' := .pl l []) rfl (frz l e r xs hk hat')) (.inr rfl)
    exact this
 ·rename_i z _ hno hgl
  rw [hgl] at hat
  have hat':Al X.P S (.pl l []) z (S.ph l):=hat
  have hzo:z.isOwn=false:=by
   cases z<;>first|rfl|exact (hno _ _ _ rfl).elim|skip
   exfalso
   cases t<;>first|(simp [mkW,mkT] at h; done)|skip
   rename_i p q
   have h1:=I1 (.pr p q) x
   rw [hy] at h1
   have:=Nb p
   have:=Nb q
   have h2:1=p.sz+q.sz:=h1
   omega
  have hz:Al X.P { S with O:=M3 S.O all } (.pl l []) z (S.ph l):=(Al.relab (lab' := .fz) hzo hat').later (lab' := .fz) L (λ k hk=>⟨hfz k hk,rfl⟩) |>.relab hzo
  exact W3 h hy hz (.inr hzo)
 ·cases h
end
end

section
attribute [local irreducible] C H
section
variable {X:Cx} {S S1 S2:Sit} {a:Act} {E:En} {A:Ab} {o:Oper} {R:Type} {Kc:List Up→Option R} {r:R}
theorem Qm {Q:Nat→Nat×Sv→Prop} (h0:∀ l,Q l (0,.one .dead)):∀ (B:Ab),(∀ e∈B,Q e.1 e.2)→∀ l,Q l (get B l)
 |[],_,l=>h0 l
 |(k,n,s)::B,h,l=>by
  simp only [get]
  cases hb:Nat.beq k l with
  |true=>
   have:k=l:=Nat.eq_of_beq_eq_true hb
   subst this
   exact h (k,n,s) (by simp)
  |false=>exact Qm h0 B (λ e he=>h e (List.mem_cons_of_mem _ he)) l
theorem Rk (A:Ab) (all:List (Nat×Ty)):∀ (t:Ty) (l:Nat) (x:t.den),Pta A all l t=some x→
  ∀ e∈Gka l t x,∃ t',∃ z:t'.den,∃ y,(e.1,t')∈Kfa l t∧Kea A all e.1 t'=some z∧A4 t' z=[y]∧e.2=(0,.one y)
 |.pr ta tb,l,x,h=>by
  intro e he
  simp only [Pta] at h
  split at h
  ·rename_i x1 h1
   split at h
   ·rename_i x2 h2
    cases h
    rcases List.mem_append.1 he with he|he
    ·obtain ⟨t',z,y,g1,g2⟩:=Rk A all ta l x1 h1 e he
     exact ⟨t',z,y,List.mem_append_left _ g1,g2⟩
    ·obtain ⟨t',z,y,g1,g2⟩:=Rk A all tb (l+ta.sz) x2 h2 e he
     exact ⟨t',z,y,List.mem_append_right _ g1,g2⟩
   ·cases h
  ·cases h
 |.i k,l,x,h=>λ e he=>by rw [List.mem_singleton.1 he]; exact ⟨.i k,x,_,List.mem_singleton.2 rfl,h,rfl,rfl⟩
 |.b,l,x,h=>λ e he=>by rw [List.mem_singleton.1 he]; exact ⟨.b,x,_,List.mem_singleton.2 rfl,h,rfl,rfl⟩
 |.s,l,x,h=>λ e he=>by rw [List.mem_singleton.1 he]; exact ⟨.s,x,_,List.mem_singleton.2 rfl,h,rfl,rfl⟩
 |.sl q r,l,x,h=>λ e he=>by rw [List.mem_singleton.1 he]; exact ⟨.sl q r,x,_,List.mem_singleton.2 rfl,h,rfl,rfl⟩
 |.ow q r,l,x,h=>λ e he=>by rw [List.mem_singleton.1 he]; exact ⟨.ow q r,x,_,List.mem_singleton.2 rfl,h,rfl,rfl⟩
theorem Yz:∀ (vs:List (Nat×Ty)) (all:List (Nat×Ty)) (x:Den (vs.map Prod.snd)),Kga A all vs=some x→
  ∀ e∈Xk vs x,∃ t,∃ z:t.den,∃ y,(e.1,t)∈Ut vs∧Kea A all e.1 t=some z∧A4 t z=[y]∧e.2=(0,.one y)
 |[],_,_,_=>by simp [Xk]
 |[v],all,x,h=>λ e he=>by
  obtain ⟨t,z,y,h1,h2⟩:=Rk A all v.2 v.1 x h e he
  exact ⟨t,z,y,List.mem_append_left _ h1,h2⟩
 |v::w::l,all,x,h=>by
  simp only [Kga] at h
  split at h
  ·rename_i x1 hx1
   split at h
   ·rename_i x2 hx2
    cases h
    intro e he
    rcases List.mem_append.1 he with he|he
    ·obtain ⟨t,z,y,h1,h2⟩:=Rk A all v.2 v.1 x1 hx1 e he
     exact ⟨t,z,y,List.mem_append_left _ h1,h2⟩
    ·obtain ⟨t,z,y,h1,h2,h3,h4⟩:=Yz (w::l) all x2 hx2 e he
     exact ⟨t,z,y,List.mem_append_right _ h1,h2,h3,h4⟩
   ·cases h
  ·cases h
theorem Rl:∀ (cs:List (Nat×Lf)),Kaa A cs=true→∀ c∈cs,
  (∃ b off v,c.2 = .bp b 0 off∧(get A c.1).2 = .one (.bp b v off)∧(get A (H b)).1=v)∨(∃ m,c.2 = .hd m∧(get A c.1).2 = .one (.hd m))∨
   ∃ F bs bs',c.2 = .fn F bs∧(get A c.1).2 = .one (.fn F bs')∧Aya bs bs'=true∧Ls A bs'=true
 |[],_,c,hc=>by simp at hc
 |(l,z)::cs,h,c,hc=>by
  cases z with
  |bp b v0 off=>
   simp only [Kaa,Bool.and_eq_true] at h
   obtain ⟨h1,h2⟩:=h
   rcases List.mem_cons.1 hc with rfl|hc
   ·split at h1
    ·rename_i n b' v off' hg
     simp only [Bool.and_eq_true] at h1
     obtain ⟨⟨⟨e1,e2⟩,e3⟩,e4⟩:=h1
     have e1:v0=0:=Nat.eq_of_beq_eq_true e1
     have e2:b=b':=Nat.eq_of_beq_eq_true e2
     have e3:off=off':=Nat.eq_of_beq_eq_true e3
     subst e1 e2 e3
     split at e4
     ·rename_i n' m' hh
      have:n'=v:=Nat.eq_of_beq_eq_true e4
      refine .inl ⟨b,off,v,rfl,by rw [hg],by rw [hh,this]⟩
     ·cases e4
    ·cases h1
   ·exact Rl cs h2 c hc
  |hd m=>
   simp only [Kaa,Bool.and_eq_true] at h
   obtain ⟨h1,h2⟩:=h
   rcases List.mem_cons.1 hc with rfl|hc
   ·split at h1
    ·rename_i n m' hg
     have:m=m':=Nat.eq_of_beq_eq_true h1
     subst this
     exact .inr (.inl ⟨m,rfl,by rw [hg]⟩)
    ·cases h1
   ·exact Rl cs h2 c hc
  |fn F bs=>
   simp only [Kaa,Bool.and_eq_true] at h
   obtain ⟨h1,h2⟩:=h
   rcases List.mem_cons.1 hc with rfl|hc
   ·split at h1
    ·rename_i n F' bs' hg
     simp only [Bool.and_eq_true] at h1
     have e1:F=F':=Nat.eq_of_beq_eq_true h1.1.1
     subst e1
     exact .inr (.inr ⟨F,bs,bs',rfl,by rw [hg],h1.1.2,h1.2⟩)
    ·cases h1
   ·exact Rl cs h2 c hc
  |_=>simp [Kaa] at h
theorem Hoa {S S':Sit} {A:Ab} (hg:S.g=get A) (hb:S'.bb=S.bb):∀ {bs bs':List (Nat×Nat)} {us:List Value},Aya bs bs'=true→Ls A bs'=true→Rv S bs' us→Rv S' bs us
 |[],[],us,_,_,h=>h
 |[],_::_,_,h,_,_=>by simp [Aya] at h
 |_::_,[],_,h,_,_=>by simp [Aya] at h
 |a::bs,c::bs',us,hs,ha,h=>by
  obtain ⟨u,us',e,⟨h1,h2⟩,h3⟩:=h
  simp only [Aya,Bool.and_eq_true] at hs
  simp only [Ls,Bool.and_eq_true] at ha
  have e1:a.1=c.1:=Nat.eq_of_beq_eq_true hs.1.1
  have e2:a.2=0:=Nat.eq_of_beq_eq_true hs.1.2
  refine ⟨u,us',e,⟨by rw [e2]; exact Nat.zero_le _,λ _=>?_⟩,Hoa hg hb hs.2 ha.2 h3⟩
  rw [hb,e1]
  exact h2 (by rw [hg]; exact Nat.eq_of_beq_eq_true ha.1)
theorem Z0 {v:Xd} {x:v.den} {e:Nat×Nat×Sv} (h:e∈R4 v x):e∈Xk v.vs x∨∃ c∈v.cs,e=(c.1,0,.one c.2):=by
 rcases List.mem_append.1 h with h|h
 ·exact .inl h
 ·obtain ⟨c,hc,rfl⟩:=List.mem_map.1 h
  exact .inr ⟨c,hc,rfl⟩
theorem Hpa (K:Ah X S a) (hg:S.g=get A) {v:Xd} {x:v.den} (h:Nya v A=some x):∃ S',Ah X S' a∧S'.g=get (R4 v x)∧S'.w=S.w:=by
 unfold Nya at h
 cases hc:Kaa A v.cs with
 |false=>rw [hc] at h; simp at h
 |true=>
  rw [hc,cond_true] at h
  have hfz:∀ k,S.O k = .fz→M3 S.O (Ut v.vs) k = .fz:=λ k hk=>Li hk (by simp)
  have hmem:=Yz v.vs (Ut v.vs) x h
  have hcm:=Rl v.cs hc
  refine ⟨{ S with O:=M3 S.O (Ut v.vs),g:=get (R4 v x) },K.ghost _ _ (λ k e=>Li e (by simp)) (λ k e1 e2=>e1 (Li e2 (by simp))) hfz (λ k b e=>Li e (by simp)) (λ b n hb=>?_) ?_,rfl,rfl⟩
  ·-- a box that is Jy was one
   have key:∀ l,(∀ n,(get (R4 v x) l).2 = .one (.hd n)→(S.g l).2 = .one (.hd n)):=by
    refine Qm (Q:=λ l s=>∀ n,s.2 = .one (.hd n)→(S.g l).2 = .one (.hd n)) (λ l n hn=>by cases hn) _ (λ e he n hn=>?_)
    rcases Z0 he with he|⟨c,hcc,rfl⟩
    ·obtain ⟨t,z,y,_,_,h3,h4⟩:=hmem e he
     rw [h4] at hn
     have hy:=L6 t z y (by rw [h3]; simp)
     simp only [Sv.one.injEq] at hn
     rw [hn] at hy
     simp [J3] at hy
    ·rcases hcm c hcc with ⟨b',off,v',e1,_⟩|⟨m,e1,e2⟩|⟨F,bs,bs',e1,_⟩
     rotate_left 2
     ·rw [e1] at hn; cases hn
     ·rw [e1] at hn; cases hn
     ·rw [e1] at hn
      cases hn
      rw [hg]
      exact e2
   exact key _ n hb
  ·refine Qm (Q:=λ l s=>Ka X.P { S with O:=M3 S.O (Ut v.vs),g:=get (R4 v x) } l s.2 (S.ph l)) (λ l=>trivial) _ (λ e he=>?_)
   rcases Z0 he with he|⟨c,hcc,rfl⟩
   ·obtain ⟨t,z,y,h1,h2,h3,h4⟩:=hmem e he
    rw [h4]
    have hy:=L6 t z y (by rw [h3]; simp)
    exact Al.bare (S1 := { S with O:=M3 S.O (Ut v.vs) }) hy rfl (λ k hk=>hk) (λ k hk=>hk) (Ooa K hg h1 h2 y h3)
   ·rcases hcm c hcc with ⟨b',off,v',e1,e2,e3⟩|⟨m,e1,e2⟩|⟨F,bs,bs',e1,e2,e3,e4⟩
    rotate_left 2
    ·rw [e1]
     have hat:=K.at_ c.1
     rw [hg,e2] at hat
     obtain ⟨us,h5,h6⟩:Al X.P S (.pl c.1 []) (.fn F bs') (S.ph c.1):=hat
     exact ⟨us,h5,Hoa (S' := { S with O:=M3 S.O (Ut v.vs),g:=get (R4 v x) }) hg rfl e3 e4 h6⟩
    ·rw [e1]
     have hat:=K.at_ c.1
     rw [hg,e2] at hat
     have hat':Al X.P S (.pl c.1 []) (.bp b' v' off) (S.ph c.1):=hat
     refine ⟨Nat.zero_le _,λ _=>hat'.2 (by rw [hg]; exact e3)⟩
    ·rw [e1]
     trivial
def Rta (X:Cx) (Q:Exit→Act→World→Prop) (K:Ex→Ab→Option R) (r:R):Prop:=∀ e S a A,Ah X S a→S.g=get A→K e A=some r→Q (Dca e) a S.w
def Z1 (X:Cx) (L:Lp) (c:Code):Prop:=∀ x y,L.run x=some y→∀ S a,Ah X S a→S.g=get (R4 L.ins x)→∀ Q:Exit→Act→World→Prop,
 (∀ e A S' a',Nza (λ e A=>some (e,A)) L.alts y=some (e,A)→Ah X S' a'→S'.g=get A→Q (Dca e) a' S'.w)→(Code.loop c).wp X.P Q a S.w
def M2 (X:Cx) (E:En):Code→Prop
 |.seq a b=>M2 X E a∧M2 X E b
 |.cond _ a b=>M2 X E a∧M2 X E b
 |.block _ c=>M2 X E c
 |.loop c=>∀ L,E.lp (first c)=some L→Z1 X L c
 |_=>True
def Z2 (X:Cx) (E:En):Prop:=∀ {R:Type} (id:Nat) (ops:Array Oper) (Q:Exit→Act→World→Prop) (S:Sit) (a:Act) (A:Ab) (K:Ab→Option R) (r:R),Ah X S a→S.g=get A→Mwa E ops.toList A K=some r→Sha X Q K r→(Code.region id ops true).wp X.P Q a S.w
theorem Z3 {K:Ex→Ab→Option R}:∀ (l:List (Ex×Xd)) (y:Kca l) (r:R),Nza K l y=some r→∃ e A,Nza (λ e A=>some (e,A)) l y=some (e,A)∧K e A=some r
 |[],y,_,_=>nomatch y
 |[b],y,r,h=>⟨_,_,rfl,h⟩
 |b::b2::l,.inl y,r,h=>⟨_,_,rfl,h⟩
 |b::b2::l,.inr z,r,h=>Z3 (b2::l) z r h
theorem Laa {A:Ab} {c:Operand} {b:Bool} (h:opT E 0 A c=some (.one (.sc (.bool b)))):get (Rja E A c b)=get A:=by
 cases c with
 |tmp t=>
  unfold Rja
  cases E.rf with
  |false=>rfl
  |true=>
   have h:(bif Nat.blt t E.nt then some (get A t).2 else none)=some (.one (.sc (.bool b))):=h
   cases hb:Nat.blt t E.nt with
   |false=>rw [hb] at h; cases h
   |true=>
    rw [hb,cond_true,Option.some.injEq] at h
    funext l
    show (bif Nat.beq t l then _ else get A l)=get A l
    cases hl:Nat.beq t l with
    |false=>rfl
    |true=>
     rw [← Nat.eq_of_beq_eq_true hl,cond_true,cond_true,← h]
 |_=>rfl
theorem Z4 (hV:Sf X E) (hD:Z2 X E):∀ (c:Code) {S:Sit} {a:Act} {A:Ab} {Q:Exit→Act→World→Prop} {R:Type} {K:Ex→Ab→Option R} {r:R},M2 X E c→Ah X S a→S.g=get A→M4 E c A K=some r→Rta X Q K r→c.wp X.P Q a S.w:=by
 intro c
 induction c with
 |skip=>intro S a A Q R K r hL hK hg h hQ; exact wp_skip (hQ .normal S a A hK hg h)
 |region id ops draw=>
  intro S a A Q R K r hL hK hg h hQ
  unfold M4 at h
  obtain ⟨A1,S1,h,K1,g1,w1⟩:=Mm hV.en _ hK hg h
  rw [← w1]
  cases draw with
  |true=>exact hD id ops Q S1 a A1 _ r K1 g1 h (λ S' a' A' K' g' h'=>hQ .normal S' a' A' K' g' h')
  |false=>exact wp_region (W2 hV _ K1 g1 h (λ S' a' A' K' g' h'=>hQ .normal S' a' A' K' g' h'))
 |seq x y ihx ihy=>
  intro S a A Q R K r hL hK hg h hQ
  unfold M4 at h
  refine wp_seq (ihx hL.1 hK hg h (λ e S' a' A' K' g' h'=>?_))
  cases e with
  |normal=>exact ihy hL.2 K' g' h' hQ
  |exit i=>exact hQ (.exit i) S' a' A' K' g' h'
  |ret=>exact hQ .ret S' a' A' K' g' h'
 |cond x y z ihy ihz=>
  intro S a A Q R K r hL hK hg h hQ
  unfold M4 at h
  split at h
  ·rename_i b hx
   have e1:=(M7 hV.en hK hg hx).1
   have hg2:=hg.trans (Laa hx).symm
   cases b with
   |true=>exact wp_cond_true e1 (ihy hL.1 hK hg2 h hQ)
   |false=>exact wp_cond_false e1 (ihz hL.2 hK hg2 h hQ)
  ·cases h
 |block id c ih=>
  intro S a A Q R K r hL hK hg h hQ
  unfold M4 at h
  refine wp_block (ih hL hK hg h (λ e S' a' A' K' g' h'=>?_))
  cases e with
  |normal=>exact hQ .normal S' a' A' K' g' h'
  |exit i=>
   show (if i=id then Q .normal a' S'.w else Q (.exit i) a' S'.w)
   simp only at h'
   cases hb:Nat.beq i id with
   |true=>
    rw [hb,cond_true] at h'
    rw [if_pos (Nat.eq_of_beq_eq_true hb)]
    exact hQ .normal S' a' A' K' g' h'
   |false=>
    rw [hb,cond_false] at h'
    rw [if_neg (λ e=>by rw [e] at hb; simp at hb)]
    exact hQ (.exit i) S' a' A' K' g' h'
  |ret=>exact hQ .ret S' a' A' K' g' h'
 |loop c ih=>
  intro S a A Q R K r hL hK hg h hQ
  unfold M4 at h
  split at h
  ·rename_i L hLp
   obtain ⟨A0,S0,h,hK,hg,w0⟩:=Mm hV.en _ hK hg h
   rw [← w0]
   split at h
   ·rename_i x hx
    cases hr:L.run x with
    |none=>rw [hr] at h; simp at h
    |some y=>
     rw [hr] at h
     simp only [Option.bind_some] at h
     obtain ⟨S1,K1,g1,w1⟩:=Hpa hK hg hx
     rw [← w1]
     obtain ⟨e0,A0,h0,h1⟩:=Z3 L.alts y r h
     refine hL L hLp x y hr S1 a K1 g1 Q (λ e A' S' a' h2 K' g'=>?_)
     rw [h0] at h2
     cases h2
     exact hQ _ S' a' _ K' g' h1
   ·cases h
  ·cases h
 |exit id=>intro S a A Q R K r hL hK hg h hQ; exact wp_exit (hQ (.exit id) S a A hK hg h)
 |ret=>intro S a A Q R K r hL hK hg h hQ; exact wp_ret (hQ .ret S a A hK hg h)
 |_=>intro S a A Q R K r hL hK hg h hQ; unfold M4 at h; cases h
end
end

section
attribute [local irreducible] C H
section
variable {X:Cx} {E:En} {A:Ab}
theorem N3a {e e':Ex} (h:exB e e'=true):e=e':=by
 cases e<;>cases e'<;>first|rfl|(simp [exB] at h; done)|skip
 simp only [exB] at h
 rw [Nat.eq_of_beq_eq_true h]
theorem Dda {e:Ex} {A:Ab}:∀ (l:List (Ex×Xd)) (y:Kca l),Eka e A l=some y→∃ v,∃ z:v.den,Nza (λ e A=>some (e,A)) l y=some (e,R4 v z)∧Nya v A=some z
 |[],y,_=>nomatch y
 |[b],y,h=>by
  simp only [Eka] at h
  cases hb:exB e b.1 with
  |false=>rw [hb] at h; simp at h
  |true=>
   rw [hb,cond_true] at h
   exact ⟨b.2,y,by rw [N3a hb]; rfl,h⟩
 |b::b2::l,y,h=>by
  simp only [Eka] at h
  cases hb:exB e b.1 with
  |true=>
   rw [hb,cond_true] at h
   split at h
   ·rename_i x hx
    cases h
    exact ⟨b.2,x,by rw [N3a hb]; rfl,hx⟩
   ·cases h
  |false=>
   rw [hb,cond_false] at h
   split at h
   ·rename_i x hx
    cases h
    exact Dda (b2::l) x hx
   ·cases h
theorem Opa {ins:Xd} {alts:List (Ex×Xd)} {f:Nat→ins.den→Option (Kca alts)} {En':Nat→En} {c:Code} (h0:∀ x,f 0 x=none) (hs:∀ k x,Gla (En' k) ⟨ins,alts,f k⟩ c x=f (k+1) x)
  (hV:∀ k,Sf X (En' k)) (hD:∀ k,Z2 X (En' k)) (hL:∀ k,M2 X (En' k) c):∀ k,Z1 X ⟨ins,alts,f k⟩ c:=by
 intro k x y hy S a K hg Q hQ
 let J:Nat→Act→World→Prop:=λ n a w=>∃ x y S,f n x=some y∧Ah X S a∧S.g=get (R4 ins x)∧S.w=w∧
  (∀ e A S' a',Nza (λ e A=>some (e,A)) alts y=some (e,A)→Ah X S' a'→S'.g=get A→Q (Dca e) a' S'.w)
 refine Eza J (n:=k) ⟨x,y,S,hy,K,hg,rfl,hQ⟩ ?_
 rintro n a w ⟨x,y,S,hy,K,hg,rfl,hQ⟩
 cases n with
 |zero=>rw [h0] at hy; cases hy
 |succ m=>
  rw [← hs] at hy
  unfold Gla at hy
  refine Z4 (hV m) (hD m) c (hL m) K hg hy (λ e S' a' A' K' g' h'=>?_)
  have ends:∀ {e:Ex},Mu (En' m) ((En' m).gh (1000001+first c)) A' (λ A=>Eka e A alts)=some y→Q (Dca e) a' S'.w:=by
   intro e h
   obtain ⟨A',S2,h,K',g',w2⟩:=Mm (hV m).en _ K' g' h
   rw [← w2]
   obtain ⟨v,z,h1,h2⟩:=Dda alts y h
   obtain ⟨S1,K1,g1,w1⟩:=Hpa K' g' h2
   rw [← w1]
   exact hQ e _ S1 a' h1 K1 g1
  cases e with
  |normal=>
   obtain ⟨A',S2,h',K',g',w2⟩:=Mm (hV m).en _ K' g' h'
   split at h'
   ·rename_i x' hx'
    obtain ⟨S1,K1,g1,w1⟩:=Hpa K' g' hx'
    exact ⟨m,Nat.lt_succ_self m,x',y,S1,h',K1,g1,w1.trans w2,hQ⟩
   ·cases h'
  |exit i=>exact ends h'
  |ret=>exact ends h'
end
end

def uix (nv b:Nat):Nat:=if b<1500 then b else nv+(b - 1500)
def bbS (nv:Nat) (us:List Value):Nat→Nat×Nat:=λ b=>match us[uix nv b]? with
 |some (.pointer (some ad))=>(ad.block,ad.off)
 |_=>(0,0)
def phS (nv:Nat) (us:List Value) (w:World):Nat→Value:=λ p=>if p<1000 then (us.take nv).getD p undef else (w.cell? ⟨(bbS nv us (p / 1000 - 1)).1,(bbS nv us (p / 1000 - 1)).2+p % 1000,none⟩).getD undef
def S0 (nv:Nat) (ps:List Par) (ls:List (List Lf)) (us:List Value) (O:Nat→Lab) (w:World):Sit:=⟨O,bbS nv us,get (Kk nv 0 ps ls),phS nv us w,w⟩
theorem Oqa {nv i:Nat} (hn:nv≤1000):uix nv (bid nv i)=i:=by
 unfold uix bid
 cases h:Nat.blt i nv with
 |true=>
  have h1:i<nv:=Nat.le_of_ble_eq_true h
  rw [cond_true,if_pos (by omega)]
 |false=>
  have h1:¬ i<nv:=λ h2=>by rw [show Nat.blt i nv=true from Nat.ble_eq_true_of_le h2] at h; cases h
  rw [cond_false,if_neg (by omega)]
  omega
theorem Hqa {nv i:Nat} (h:i<nv):bid nv i=i:=by
 unfold bid
 rw [show Nat.blt i nv=true from Nat.ble_eq_true_of_le h]
 rfl
theorem N4a {nv i n:Nat} (h:i<n) (hn:nv≤1000) (h2:n - nv<500):bid nv i<2000:=by
 unfold bid
 cases h3:Nat.blt i nv with
 |true=>
  have h1:i<nv:=Nat.le_of_ble_eq_true h3
  rw [cond_true]
  omega
 |false=>rw [cond_false]; omega
theorem Ora {b j:Nat} (h:j<999):C b j / 1000 - 1=b∧C b j % 1000=j∧¬ C b j<1000:=by unfold C; omega
theorem Hra:∀ (b j:Nat) (l:List Lf) (A:Ab),∀ e∈ups A (Bm b j l),e∈A∨∃ n v x,l[n]? = some x∧e=(C b (j+n),v,.one x)
 |b,j,[],A,e,h => .inl h
 |b,j,x::l,A,e,h=>by
  rcases Hra b (j+1) l (up A ⟨C b j,false,.one x⟩) e h with h|⟨n,v,y,h1,h2⟩
  ·rcases List.mem_cons.1 h with h|h
   ·exact .inr ⟨0,_,x,rfl,by rw [Nat.add_zero]; exact h⟩
   ·exact .inl h
  ·exact .inr ⟨n+1,v,y,by simpa using h1,by rw [show j+(n+1)=j+1+n by omega]; exact h2⟩
def Pva (B n:Nat) (l:List Lf) (e:Nat×Nat×Sv):Prop:=e=(H B,0,.one (.hd n))∨∃ n v x,l[n]? = some x∧e=(C B n,v,.one x)
theorem U5:∀ (b j:Nat) (l:List Lf),∀ e∈Xl b j l,∃ n v x,l[n]? = some x∧e=(C b (j+n),v,.one x)
 |b,j,[],e,h=>by simp [Xl] at h
 |b,j,x::l,e,h=>by
  rcases List.mem_cons.1 h with h|h
  ·exact ⟨0,_,x,rfl,by rw [Nat.add_zero]; exact h⟩
  ·obtain ⟨n,v,y,h1,h2⟩:=U5 b (j+1) l e h
   exact ⟨n+1,v,y,by simpa using h1,by rw [show j+(n+1)=j+1+n by omega]; exact h2⟩
def Qra (nv i:Nat):Par→List Lf→Nat×Nat×Sv→Prop
 |.vw _ h,l,e=>e=(i,0,.agg (vwL (bid nv h) 0 l))
 |.val ag t,l,e=>e=(i,0,(bif ag then .agg l else .one (Q2a l)))
 |.ptr t _,l,e=>e=(i,0,.one (.bp i 0 0))∨Pva (bid nv i) t.sz l e
 |.hid t _,l,e=>Pva (bid nv i) t.sz l e
 |.rd t,l,e=>∃ x,mkW t l=some x∧e=(i,0,.one (.fp t x 0))
 |.fn F m,_,e=>e=(i,0,.one (.fn F ((List.range m).map λ j=>(bid nv (nv+j),0))))
theorem Hsa {B n:Nat} {l:List Lf} {R:Ab} {e:Nat×Nat×Sv} (he:e∈(H B,0,Sv.one (.hd n))::(Xl B 0 l++R)):Pva B n l e∨e∈R:=by
 rcases List.mem_cons.1 he with he|he
 ·exact .inl (.inl he)
 ·rcases List.mem_append.1 he with he|he
  ·obtain ⟨n,v,x,g1,g2⟩:=U5 B 0 l e he
   exact .inl (.inr ⟨n,v,x,g1,by rw [g2,Nat.zero_add]⟩)
  ·exact .inr he
theorem Lba {B n:Nat} {l:List Lf} {R:Ab} {e:Nat×Nat×Sv} (he:e∈(H B,0,Sv.one (.hd n))::(ups [] (Bm B 0 l)++R)):Pva B n l e∨e∈R:=by
 rcases List.mem_cons.1 he with he|he
 ·exact .inl (.inl he)
 ·rcases List.mem_append.1 he with he|he
  ·rcases Hra B 0 l [] e he with he|⟨n,v,x,g1,g2⟩
   ·cases he
   ·exact .inl (.inr ⟨n,v,x,g1,by rw [g2,Nat.zero_add]⟩)
  ·exact .inr he
theorem Z5 {P:Program} {S:Sit} {rg:Nat→Nat×Nat} {nv:Nat} {hs:List Value}:∀ (ps:List Par) (i:Nat) (ls:List (List Lf)) (us:List Value),Mo P S rg nv hs i ps ls us→∀ e∈Kk nv i ps ls,
  ∃ j p l u,us[j]? = some u∧ps[j]? = some p∧l∈ls∧Esa P S rg nv hs (i+j) p l u∧Qra nv (i+j) p l e
 |[],i,[],[],_,e,he=>by simp [Kk] at he
 |[],i,[],_::_,h,_,_=>h.elim
 |[],i,_::_,_,h,_,_=>h.elim
 |_::_,i,[],_,h,_,_=>h.elim
 |_::_,i,_::_,[],h,_,_=>h.elim
 |p::ps,i,l::ls,u::us,h,e,he=>by
  obtain ⟨h1,h2⟩:=h
  have here:Qra nv i p l e→∃ j p' l' u',(u::us)[j]? = some u'∧(p::ps)[j]? = some p'∧l'∈l::ls∧Esa P S rg nv hs (i+j) p' l' u'∧Qra nv (i+j) p' l' e:=λ he=>⟨0,p,l,u,rfl,rfl,by simp,h1,he⟩
  have rest:e∈Kk nv (i+1) ps ls→∃ j p' l' u',(u::us)[j]? = some u'∧(p::ps)[j]? = some p'∧l'∈l::ls∧Esa P S rg nv hs (i+j) p' l' u'∧Qra nv (i+j) p' l' e:=λ he=>by
   obtain ⟨j,p',l',u',g1,g2,g3,g4,g5⟩:=Z5 ps (i+1) ls us h2 e he
   refine ⟨j+1,p',l',u',by simpa using g1,by simpa using g2,List.mem_cons_of_mem _ g3,?_⟩
   rw [show i+(j+1)=i+1+j by omega]
   exact ⟨g4,g5⟩
  cases p with
  |val ag t=>
   have he':e=(i,0,(bif ag then .agg l else .one (Q2a l)))∨e∈Kk nv (i+1) ps ls:=List.mem_cons.1 he
   rcases he' with he|he
   ·exact here he
   ·exact rest he
  |ptr t t'=>
   have he':e∈(i,0,Sv.one (.bp i 0 0))::(H i,0,Sv.one (.hd t.sz))::(ups [] (Bm i 0 l)++Kk nv (i+1) ps ls):=he
   rcases List.mem_cons.1 he' with he|he
   ·exact here (.inl he)
   ·rcases Lba he with he|he
    ·exact here (.inr (by rw [Hqa h1.1]; exact he))
    ·exact rest he
  |vw t h0=>
   have he':e∈(i,0,Sv.agg (vwL (bid nv h0) 0 l))::Kk nv (i+1) ps ls:=he
   rcases List.mem_cons.1 he' with he|he
   ·exact here he
   ·exact rest he
  |hid t t'=>
   rcases Hsa he with he|he
   ·exact here he
   ·exact rest he
  |rd t=>
   have he':e∈(match mkW t l with
    |some x=>(i,0,Sv.one (.fp t x 0))::Kk nv (i+1) ps ls
    |none=>Kk nv (i+1) ps ls):=he
   split at he'
   ·rename_i x hx
    rcases List.mem_cons.1 he' with he|he
    ·exact here ⟨x,hx,he⟩
    ·exact rest he
   ·exact rest he'
  |fn F m=>
   have he':e∈(i,0,Sv.one (.fn F ((List.range m).map λ j=>(bid nv (nv+j),0))))::Kk nv (i+1) ps ls:=he
   rcases List.mem_cons.1 he' with he|he
   ·exact here he
   ·exact rest he
theorem Dea {P:Program} {S:Sit} {rg:Nat→Nat×Nat} {nv:Nat} {hs:List Value}:∀ (ps:List Par) (i:Nat) (ls:List (List Lf)) (us:List Value),Mo P S rg nv hs i ps ls us→us.length=ps.length
 |[],i,[],[],_=>rfl
 |[],i,[],_::_,h=>h.elim
 |[],i,_::_,_,h=>h.elim
 |_::_,i,[],_,h=>h.elim
 |_::_,i,_::_,[],h=>h.elim
 |_::ps,i,_::ls,_::us,h=>by simp [Dea ps (i+1) ls us h.2]
theorem Mo.at {P:Program} {S:Sit} {rg:Nat→Nat×Nat} {nv:Nat} {hs:List Value}:∀ {ps:List Par} {i:Nat} {ls:List (List Lf)} {us:List Value} {j:Nat} {p:Par},Mo P S rg nv hs i ps ls us→ps[j]? = some p→∃ l u,us[j]? = some u∧Esa P S rg nv hs (i+j) p l u
 |[],i,_,_,j,p,_,hj=>by simp at hj
 |_::_,i,[],_,_,_,h,_=>h.elim
 |_::_,i,_::_,[],_,_,h,_=>h.elim
 |q::ps,i,l::ls,u::us,0,p,h,hj=>by
  simp only [List.getElem?_cons_zero,Option.some.injEq] at hj
  subst hj
  exact ⟨l,u,rfl,h.1⟩
 |q::ps,i,l::ls,u::us,j+1,p,h,hj=>by
  obtain ⟨l',u',h1,h2⟩:=Mo.at (j:=j) (p:=p) h.2 (by simpa using hj)
  exact ⟨l',u',by simpa using h1,by rw [show i+(j+1)=i+1+j by omega]; exact h2⟩
def Hta:Par→Bool
 |.hid _ _=>true
 |_=>false
theorem Sh {nv:Nat}:∀ {ps:List Par} {i j:Nat} {p:Par},Lm nv i ps=true→ps[j]? = some p→if Hta p then nv≤i+j else i+j<nv
 |[],_,_,_,_,h=>by simp at h
 |q::ps,i,0,p,h,hj=>by
  simp only [List.getElem?_cons_zero,Option.some.injEq] at hj
  subst hj
  cases q<;>simp only [Lm,Bool.and_eq_true] at h<;>simp only [Hta,Bool.false_eq_true,if_false,if_true]<;>exact Nat.le_of_ble_eq_true h.1
 |q::ps,i,j+1,p,h,hj=>by
  have h2:Lm nv (i+1) ps=true:=by cases q<;>simp only [Lm,Bool.and_eq_true] at h<;>exact h.2
  have:=Sh (i:=i+1) (j:=j) (p:=p) h2 (by simpa using hj)
  rw [show i+(j+1)=i+1+j by omega]
  exact this
theorem A5.get {P:Program} {S:Sit} {f:Nat→Lab} {l:List Lf} {us:List Value} {n:Nat} {x:Lf} (h:A5 P S f 0 l us) (hx:l[n]? = some x):∃ u,us[n]? = some u∧Al P S (f n) x u:=by
 have hn:n<l.length:=(List.getElem?_eq_some_iff.1 hx).1
 obtain ⟨x',u',e1,_,e3,e4⟩:=h.at n hn
 rw [List.getD_eq_getElem?_getD,hx] at e1
 simp only [Option.getD_some] at e1
 subst e1
 rw [Nat.zero_add] at e4
 exact ⟨u',e3,e4⟩
theorem Z6 {nv j:Nat} {us:List Value} {k o:Nat} (hn:nv≤1000) (h:us[j]? = some (.pointer (some ⟨k,o,none⟩))):bbS nv us (bid nv j)=(k,o):=by
 unfold bbS
 rw [Oqa hn,h]
theorem Dfa {P:Program} {O:Nat→Lab} {w:World} {rg:Nat→Nat×Nat} {nv:Nat} {hs:List Value} {ps:List Par} {ls:List (List Lf)} {us:List Value} (hn9:nv≤1000)
  (hmem:∀ e∈Kk nv 0 ps ls,∃ j p l u,us[j]? = some u∧ps[j]? = some p∧l∈ls∧Esa P (bare O w) rg nv hs (0+j) p l u∧Qra nv (0+j) p l e)
  (hsol:∀ l∈ls,∀ y∈l,J3 y=true) (e:Nat×Nat×Sv) (he:e∈Kk nv 0 ps ls) (b n:Nat) (hb:e.1=H b) (hn:e.2.2 = .one (.hd n)):
  ∃ (j k o:Nat) (c:Array Value) (e0:TypeId) (vs:List Value),j<ps.length∧b=bid nv j∧bbS nv us b=(k,o)∧w.heap[k]? = some (.cells c e0 (0,0))∧O k = .bx b∧rg b=(o,n)∧o+n≤c.size∧n<999∧(∀ i,i<n→c[o+i]? = vs[i]?)∧n≤vs.length:=by
 obtain ⟨j,p,l,u,g1,g2,g3,g4,g5⟩:=hmem e he
 simp only [Nat.zero_add] at g4 g5
 have hj:j<ps.length:=(List.getElem?_eq_some_iff.1 g2).1
 have box:∀ {t:Ty},Tx P (bare O w) rg (bid nv j) t l u→Pva (bid nv j) t.sz l e→∃ (j k o:Nat) (c:Array Value) (e0:TypeId) (vs:List Value),j<ps.length∧b=bid nv j∧bbS nv us b=(k,o)∧w.heap[k]? = some (.cells c e0 (0,0))∧O k = .bx b∧rg b=(o,n)∧o+n≤c.size∧n<999∧(∀ i,i<n→c[o+i]? = vs[i]?)∧n≤vs.length:=by
  rintro t ⟨k,o,c,e0,vs,rfl,f2,f3,f4,f5,f6,f7,f8,f9⟩ g5
  have hbb:=Z6 hn9 g1
  rcases g5 with rfl|⟨i,v,x,hx,rfl⟩
  ·have hjb:bid nv j=b:=Uv hb
   subst hjb
   simp only [Sv.one.injEq,Lf.hd.injEq] at hn
   subst hn
   have hvl:=f9.len
   exact ⟨j,k,o,c,e0,vs,hj,rfl,hbb,f2,f3,f4,f5,f6,f8,by omega⟩
  ·have:=hsol _ g3 x (List.mem_of_getElem? hx)
   simp only [Sv.one.injEq] at hn
   rw [hn] at this
   simp [J3] at this
 cases p with
 |val ag t=>
  have g5:e=(j,0,(bif ag then .agg l else .one (Q2a l))):=g5
  subst g5
  cases ag with
  |true=>cases hn
  |false=>
   simp only [cond_false,Sv.one.injEq] at hn
   cases l with
   |nil=>cases hn
   |cons x l=>
    cases l with
    |cons y l=>cases hn
    |nil=>
     have:=hsol _ g3 x (by simp)
     have hx:x = .hd n:=hn
     rw [hx] at this
     simp [J3] at this
 |vw t h0=>
  have g5:e=_:=g5
  subst g5
  cases hn
 |ptr t t'=>
  rcases g5 with rfl|g5
  ·cases hn
  ·exact box g4.2 g5
 |hid t t'=>exact box g4.2 g5
 |rd t=>
  obtain ⟨x,_,rfl⟩:=g5
  cases hn
 |fn F m=>
  have g5:e=_:=g5
  subst g5
  cases hn
theorem Hua {nv:Nat} {S:Sit} (hs:List Value) (h:∀ j u,hs[j]? = some u→u=Value.pointer (some ⟨(S.bb (bid nv (nv+j))).1,(S.bb (bid nv (nv+j))).2+0,none⟩)):Rv S ((List.range hs.length).map λ j=>(bid nv (nv+j),0)) hs:=by
 have key:∀ (l:List Value) (a:Nat),(∀ j u,l[j]? = some u→u=Value.pointer (some ⟨(S.bb (bid nv (nv+(a+j)))).1,(S.bb (bid nv (nv+(a+j)))).2+0,none⟩))→Rv S ((List.range' a l.length).map λ j=>(bid nv (nv+j),0)) l:=by
  intro l
  induction l with
  |nil=>intro a _; exact rfl
  |cons u l ih=>
   intro a h
   rw [List.length_cons,List.range'_succ,List.map_cons]
   refine ⟨u,l,rfl,⟨Nat.zero_le _,λ _=>?_⟩,ih (a+1) (λ j u hj=>?_)⟩
   ·have:=h 0 u rfl
    rw [Nat.add_zero] at this
    exact this
   ·have:=h (j+1) u (by simpa using hj)
    rw [show a+(j+1)=a+1+j by omega] at this
    exact this
 rw [List.range_eq_range']
 exact key hs 0 (λ j u hj=>by rw [Nat.zero_add]; exact h j u hj)
theorem Lca {P:Program} {O:Nat→Lab} {w:World} {rg:Nat→Nat×Nat} {nt nv:Nat} {ps:List Par} {ls:List (List Lf)} {us:List Value} (hnt:nt≤1000) (hlt:∀ k,O k ≠ .no→k<w.heap.size) (hbx:∀ k b,O k = .bx b→∃ c e f,w.heap[k]? = some (.cells c e f))
  (hargs:Mo P (bare O w) rg nv (us.drop nv) 0 ps ls us) (hsol:∀ l∈ls,∀ y∈l,J3 y=true) (hps:nv≤nt) (hpk:Lm nv 0 ps=true) (hpl:ps.length - nv<500):
  Ah ⟨P,O,w,rg,nt,nv⟩ (S0 nv ps ls us O w) ⟨(us.take nv).toArray++Array.replicate (nt - (us.take nv).toArray.size) undef,[]⟩:=by
 have hul:=Dea ps 0 ls us hargs
 have hn9:nv≤1000:=by omega
 have hmem:=Z5 ps 0 ls us hargs
 have hph:∀ t,t<1000→phS nv us w t=(us.take nv).getD t undef:=λ t ht=>by unfold phS; rw [if_pos ht]
 have hus:∀ {j:Nat} {u:Value},j<nv→us[j]? = some u→(us.take nv).getD j undef=u:=λ hj h=>by rw [List.getD_eq_getElem?_getD,List.getElem?_take,if_pos hj,h]; rfl
 refine ⟨hnt,hlt,?_,?_,?_,λ t ht=>?_,?_,rfl,⟨rfl,rfl,rfl,Nat.le_refl _,λ k _ h=>⟨h,rfl⟩,λ k _ h=>⟨h,rfl⟩,λ k b hk h=>?_⟩⟩
 ·refine Qm (Q:=λ l s=>Ka P (S0 nv ps ls us O w) l s.2 (phS nv us w l)) (λ l=>trivial) _ (λ e he=>?_)
  obtain ⟨j,p,l,u,g1,g2,g3,g4,g5⟩:=hmem e he
  simp only [Nat.zero_add] at g4 g5
  have hvis:=Sh hpk g2
  rw [Nat.zero_add] at hvis
  have vis:Hta p=false→j<nv∧phS nv us w j=u:=λ h=>by
   rw [h] at hvis
   have hj:j<nv:=hvis
   exact ⟨hj,by rw [hph j (by omega)]; exact hus hj g1⟩
  have box:∀ {t:Ty},Tx P (bare O w) rg (bid nv j) t l u→Pva (bid nv j) t.sz l e→Ka P (S0 nv ps ls us O w) e.1 e.2.2 (phS nv us w e.1):=by
   rintro t ⟨k,o,c,e0,vs,rfl,f2,f3,f4,f5,f6,f7,f8,f9⟩ g5
   have hbb:=Z6 hn9 g1
   rcases g5 with rfl|⟨n,v,x,hx,rfl⟩
   ·trivial
   ·have hn:n<t.sz:=by have:=(List.getElem?_eq_some_iff.1 hx).1; omega
    obtain ⟨d1,d2,d3⟩:=Ora (b:=bid nv j) (j:=n) (by omega)
    obtain ⟨v',h1,h2⟩:=f9.get hx
    have hpc:phS nv us w (C (bid nv j) n)=v':=by
     unfold phS
     rw [if_neg d3,d1,d2,hbb]
     have f2':w.heap[k]? = some (.cells c e0):=f2
     simp [World.cell?,f2',f8 n hn,h1]
    show Al P (S0 nv ps ls us O w) _ x (phS nv us w (C (bid nv j) n))
    rw [hpc]
    exact Al.bare (S1:=bare O w) (S2:=S0 nv ps ls us O w) (lab := .pl (C (bid nv j) n) []) (lab' := .pl (C (bid nv j) n) []) (hsol l g3 x (List.mem_of_getElem? hx)) rfl (λ k hk=>hk) (λ k hk=>hk) h2
  cases p with
  |val ag t=>
   obtain ⟨hj,hpj⟩:=vis rfl
   have g5:e=(j,0,(bif ag then .agg l else .one (Q2a l))):=g5
   subst g5
   obtain ⟨vs,e1,e2⟩:=g4
   show Ka P (S0 nv ps ls us O w) j _ (phS nv us w j)
   rw [hpj]
   have e3:=A5.impM (S1:=bare O w) (S2:=S0 nv ps ls us O w) (f':=λ n => .pl j (if ag then [n] else [])) (λ x hx n u hu=>Al.bare (S1:=bare O w) (S2:=S0 nv ps ls us O w) (hsol l g3 x hx) rfl (λ k hk=>hk) (λ k hk=>hk) hu) e2
   cases ag with
   |true=>exact ⟨vs,e1,e3⟩
   |false=>
    simp only [Bool.false_eq_true,if_false] at e1
    subst e1
    cases l with
    |nil=>exact e3.elim
    |cons x l=>
     cases l with
     |nil=>exact e3.1
     |cons y l=>exact e3.2.elim
  |vw t h0=>
   obtain ⟨hj,hpj⟩:=vis rfl
   have g5:e=_:=g5
   subst g5
   obtain ⟨q1,vs,k,o,c,e0,rfl,q2,q3,q4,q5,q6⟩:=g4
   show Ka P (S0 nv ps ls us O w) j (.agg _) (phS nv us w j)
   rw [hpj]
   have hbb:bbS nv us (bid nv h0)=(k,o):=by
    refine Z6 hn9 ?_
    rw [List.getElem?_drop] at q2
    rw [← q2,show nv+(h0 - nv)=h0 by omega]
   have hsl:=hsol l g3
   have key:∀ (l:List Lf) (i:Nat) (vs:List Value),i+l.length<999→(∀ y∈l,J3 y=true)→V9 (Era P (bare O w) (λ j=>c.getD (o+j) undef)) i l vs→A5 P (S0 nv ps ls us O w) (λ n => .pl j [n]) i (vwL (bid nv h0) i l) vs:=by
    intro l
    induction l with
    |nil=>intro i vs _ _ h; cases vs<;>first|trivial|exact h.elim
    |cons x l ih=>
     intro i vs hi hs h
     simp only [List.length_cons] at hi
     cases vs with
     |nil=>exact h.elim
     |cons u vs=>
      have hr:=ih (i+1) vs (by omega) (λ y hy=>hs y (List.mem_cons_of_mem _ hy)) h.2
      have h1:=h.1
      have h2:=hs x (by simp)
      have sh:Gba x=true→Al P (bare O w) .fz x u→Al P (S0 nv ps ls us O w) (.pl j [i]) x u:=λ hx hu=>by
       have:Al P (S0 nv ps ls us O w) .fz x u:=Al.bare (S1:=bare O w) (S2:=S0 nv ps ls us O w) h2 rfl (λ k hk=>hk) (λ k hk=>hk) hu
       cases x<;>first|exact Al.relab (lab' := .pl j [i]) rfl this|simp [Gba] at hx
      cases x with
      |own e r xs=>
       refine ⟨⟨Nat.zero_le _,λ _=>?_⟩,hr⟩
       have h3:u=c.getD (o+i) undef:=h1
       obtain ⟨d1,d2,d3⟩:=Ora (b:=bid nv h0) (j:=i) (by omega)
       show u=phS nv us w (C (bid nv h0) i)
       unfold phS
       rw [if_neg d3,d1,d2,hbb,h3]
       have q3':w.heap[k]? = some (.cells c e0):=q3
       simp [World.cell?,q3',Array.getD_eq_getD_getElem?]
      |sc v=>exact ⟨sh h1.1 h1.2,hr⟩
      |fz e r xs=>exact ⟨sh h1.1 h1.2,hr⟩
      |_=>simp [J3] at h2
   exact ⟨vs,rfl,key l 0 vs (by omega) hsl q6⟩
  |ptr t t'=>
   rcases g5 with rfl|g5
   ·obtain ⟨hj,hpj⟩:=vis rfl
    obtain ⟨_,k,o,c,e0,vs,rfl,_⟩:=g4
    have hbb:=Z6 hn9 g1
    rw [Hqa hj] at hbb
    show Al P (S0 nv ps ls us O w) (.pl j []) (.bp j 0 0) (phS nv us w j)
    refine ⟨Nat.zero_le _,λ _=>?_⟩
    rw [hpj]
    show _=Value.pointer (some ⟨(bbS nv us j).1,(bbS nv us j).2+0,none⟩)
    rw [hbb]
    rfl
   ·exact box g4.2 g5
  |hid t t'=>exact box g4.2 g5
  |rd t=>
   obtain ⟨hj,hpj⟩:=vis rfl
   obtain ⟨x,hx,rfl⟩:=g5
   obtain ⟨x',k,o,cs,h1,h2,h3,h4,h5⟩:=g4
   rw [hx] at h1
   cases h1
   show Al P (S0 nv ps ls us O w) (.pl j []) (.fp t x 0) (phS nv us w j)
   rw [hpj]
   exact ⟨k,o,cs,h2,h3,Ty.rep_mono (λ k hk=>hk) (λ _ _=>rfl) t x cs h4,h5⟩
  |fn F m=>
   obtain ⟨hj,hpj⟩:=vis rfl
   have g5:e=_:=g5
   subst g5
   obtain ⟨h1,h2⟩:=g4
   show Al P (S0 nv ps ls us O w) (.pl j []) (.fn F _) (phS nv us w j)
   rw [hpj]
   refine ⟨us.drop nv,h1,?_⟩
   rw [← h2]
   refine Hua _ (λ i v hi=>?_)
   rw [List.getElem?_drop] at hi
   have hlt2:nv+i<ps.length:=by rw [← hul]; exact (List.getElem?_eq_some_iff.1 hi).1
   have hp:ps[nv+i]? = some ps[nv+i]:=List.getElem?_eq_getElem hlt2
   have hh:=Sh hpk hp
   have hhid:Hta ps[nv+i]=true:=by
    cases hc:Hta ps[nv+i] with
    |true=>rfl
    |false=>rw [hc] at hh; simp only [Bool.false_eq_true,if_false] at hh; omega
   obtain ⟨l',u',k1,k2⟩:=hargs.at hp
   rw [hi] at k1
   cases k1
   rw [Nat.zero_add] at k2
   cases hpp:ps[nv+i] with
   |hid t t'=>
    rw [hpp] at k2
    obtain ⟨_,k,o,c,e0,vs,rfl,_⟩:=k2
    show _=Value.pointer (some ⟨(bbS nv us (bid nv (nv+i))).1,(bbS nv us (bid nv (nv+i))).2+0,none⟩)
    rw [Z6 hn9 hi]
    rfl
   |_=>rw [hpp] at hhid; cases hhid
 ·have key:=Qm (Q:=λ l s=>∀ b n,l=H b→s.2 = .one (.hd n)→n<999∧∃ c e,w.heap[(bbS nv us b).1]? = some (.cells c e (0,0))∧O (bbS nv us b).1 = .bx b∧(bbS nv us b).2+n≤c.size∧∀ j,j<n→c[(bbS nv us b).2+j]? = some (phS nv us w (C b j)))
   (λ l b n _ h=>by cases h) (Kk nv 0 ps ls) (λ e he b n hb hn=>by
    obtain ⟨_,k,o,c,e0,vs,_,_,k1,f2,f3,f4,f5,f6,f8,hvl⟩:=Dfa hn9 hmem hsol e he b n hb hn
    refine ⟨f6,c,e0,by rw [k1]; exact f2,by rw [k1]; exact f3,by rw [k1]; exact f5,λ i hi=>?_⟩
    obtain ⟨d1,d2,d3⟩:=Ora (b:=b) (j:=i) (by omega)
    have:phS nv us w (C b i)=vs.getD i undef:=by
     unfold phS
     rw [if_neg d3,d1,d2,k1]
     simp [World.cell?,f2,f8 i hi]
    rw [this,k1,f8 i hi,List.getD_eq_getElem?_getD,List.getElem?_eq_getElem (by omega)]
    rfl)
  exact λ b n h=>key (H b) b n rfl h
 ·have key:=Qm (Q:=λ l s=>∀ b n,l=H b→s.2 = .one (.hd n)→b<2000∧O (bbS nv us b).1 = .bx b∧(rg b).1≤(bbS nv us b).2∧(bbS nv us b).2+n≤(rg b).1+(rg b).2∧(bbS nv us b).1<w.heap.size)
   (λ l b n _ h=>by cases h) (Kk nv 0 ps ls) (λ e he b n hb hn=>by
    obtain ⟨j,k,o,c,e0,vs,hj,hbj,k1,f2,f3,f4,f5,f6,f8,hvl⟩:=Dfa hn9 hmem hsol e he b n hb hn
    rw [k1,f4]
    exact ⟨by rw [hbj]; exact N4a hj hn9 hpl,f3,Nat.le_refl _,Nat.le_refl _,(Array.getElem?_eq_some_iff.1 f2).1⟩)
  intro b n h
  obtain ⟨h1,h2,h3,h4,h5⟩:=key (H b) b n rfl h
  exact ⟨λ _ _=>⟨h2,h3,h4⟩,λ _=>h5,λ h6=>by omega⟩
 ·show ((us.take nv).toArray++Array.replicate (nt - (us.take nv).toArray.size) undef).getD t undef=phS nv us w t
  have ht':t<nt:=ht
  rw [hph t (by omega)]
  generalize us.take nv=vs
  by_cases h:t<vs.length
  ·simp [Array.getD_eq_getD_getElem?,Array.getElem?_append,h,List.getD_eq_getElem?_getD]
  ·have h2:vs.getD t undef=undef:=by rw [List.getD_eq_getElem?_getD,List.getElem?_eq_none (by omega)]; rfl
   rw [h2]
   simp [Array.getD_eq_getD_getElem?,Array.getElem?_append,h,Array.getElem?_replicate]
   split<;>rfl
 ·have:(us.take nv).length≤nt:=by rw [List.length_take]; omega
  simp
  omega
 ·obtain ⟨c,e,f,h1⟩:=hbx k b h
  exact ⟨h,c,c,e,f,h1,h1,rfl,λ _ _=>rfl⟩

end Go.Proofs.YtlfoljnopndpeaaGreat.Vf
