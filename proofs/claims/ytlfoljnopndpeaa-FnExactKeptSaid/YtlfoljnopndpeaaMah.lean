import Derived.Test.YtlfoljnopndpeaaMag
set_option linter.unusedVariables false
set_option linter.unusedSimpArgs false
namespace Go.Proofs.Ytlfoljnopndpeaa.Vf
open Go

def uix (nv b:Nat):Nat:=if b<1500 then b else nv+(b - 1500)
def bbS (nv:Nat) (us:List Value):Nat→Nat×Nat:=λ b=>match us[uix nv b]? with
 |some (.pointer (some ad))=>(ad.block,ad.off)
 |_=>(0,0)
def phS (nv:Nat) (us:List Value) (w:World):Nat→Value:=λ p=>if p<1000 then (us.take nv).getD p undef else (w.cell? ⟨(bbS nv us (p / 1000 - 1)).1,(bbS nv us (p / 1000 - 1)).2+p % 1000,none⟩).getD undef
def S0 (nv:Nat) (ps:List Par) (ls:List (List Lf)) (us:List Value) (O:Nat→Lab) (w:World):Sit:=⟨O,bbS nv us,get (Gb nv 0 ps ls),phS nv us w,w⟩
theorem Ila {nv i:Nat} (hn:nv≤1000):uix nv (bid nv i)=i:=by
 unfold uix bid
 cases h:Nat.blt i nv with
 |true=>
  have h1:i<nv:=Nat.le_of_ble_eq_true h
  rw [cond_true,if_pos (by omega)]
 |false=>
  have h1:¬ i<nv:=λ h2=>by rw [show Nat.blt i nv=true from Nat.ble_eq_true_of_le h2] at h; cases h
  rw [cond_false,if_neg (by omega)]
  omega
theorem Cha {nv i:Nat} (h:i<nv):bid nv i=i:=by
 unfold bid
 rw [show Nat.blt i nv=true from Nat.ble_eq_true_of_le h]
 rfl
theorem Hca {nv i n:Nat} (h:i<n) (hn:nv≤1000) (h2:n - nv<500):bid nv i<2000:=by
 unfold bid
 cases h3:Nat.blt i nv with
 |true=>
  have h1:i<nv:=Nat.le_of_ble_eq_true h3
  rw [cond_true]
  omega
 |false=>rw [cond_false]; omega
theorem Ima {b j:Nat} (h:j<999):C b j / 1000 - 1=b∧C b j % 1000=j∧¬ C b j<1000:=by unfold C; omega
theorem Cia:∀ (b j:Nat) (l:List Lf) (A:Ab),∀ e∈ups A (B2 b j l),e∈A∨∃ n v x,l[n]? = some x∧e=(C b (j+n),v,.one x)
 |b,j,[],A,e,h => .inl h
 |b,j,x::l,A,e,h=>by
  rcases Cia b (j+1) l (up A ⟨C b j,false,.one x⟩) e h with h|⟨n,v,y,h1,h2⟩
  ·rcases List.mem_cons.1 h with h|h
   ·exact .inr ⟨0,_,x,rfl,by rw [Nat.add_zero]; exact h⟩
   ·exact .inl h
  ·exact .inr ⟨n+1,v,y,by simpa using h1,by rw [show j+(n+1)=j+1+n by omega]; exact h2⟩
def Jka (B n:Nat) (l:List Lf) (e:Nat×Nat×Sv):Prop:=e=(H B,0,.one (.hd n))∨∃ n v x,l[n]? = some x∧e=(C B n,v,.one x)
theorem Pk:∀ (b j:Nat) (l:List Lf),∀ e∈Rh b j l,∃ n v x,l[n]? = some x∧e=(C b (j+n),v,.one x)
 |b,j,[],e,h=>by simp [Rh] at h
 |b,j,x::l,e,h=>by
  rcases List.mem_cons.1 h with h|h
  ·exact ⟨0,_,x,rfl,by rw [Nat.add_zero]; exact h⟩
  ·obtain ⟨n,v,y,h1,h2⟩:=Pk b (j+1) l e h
   exact ⟨n+1,v,y,by simpa using h1,by rw [show j+(n+1)=j+1+n by omega]; exact h2⟩
def Kha (nv i:Nat):Par→List Lf→Nat×Nat×Sv→Prop
 |.vw _ h,l,e=>e=(i,0,.agg (vwL (bid nv h) 0 l))
 |.val ag t,l,e=>e=(i,0,(bif ag then .agg l else .one (Jsa l)))
 |.ptr t _,l,e=>e=(i,0,.one (.bp i 0 0))∨Jka (bid nv i) t.sz l e
 |.hid t _,l,e=>Jka (bid nv i) t.sz l e
 |.rd t,l,e=>∃ x,mkW t l=some x∧e=(i,0,.one (.fp t x 0))
 |.fn F m,_,e=>e=(i,0,.one (.fn F ((List.range m).map λ j=>(bid nv (nv+j),0))))
theorem Cja {B n:Nat} {l:List Lf} {R:Ab} {e:Nat×Nat×Sv} (he:e∈(H B,0,Sv.one (.hd n))::(Rh B 0 l++R)):Jka B n l e∨e∈R:=by
 rcases List.mem_cons.1 he with he|he
 ·exact .inl (.inl he)
 ·rcases List.mem_append.1 he with he|he
  ·obtain ⟨n,v,x,g1,g2⟩:=Pk B 0 l e he
   exact .inl (.inr ⟨n,v,x,g1,by rw [g2,Nat.zero_add]⟩)
  ·exact .inr he
theorem Fsa {B n:Nat} {l:List Lf} {R:Ab} {e:Nat×Nat×Sv} (he:e∈(H B,0,Sv.one (.hd n))::(ups [] (B2 B 0 l)++R)):Jka B n l e∨e∈R:=by
 rcases List.mem_cons.1 he with he|he
 ·exact .inl (.inl he)
 ·rcases List.mem_append.1 he with he|he
  ·rcases Cia B 0 l [] e he with he|⟨n,v,x,g1,g2⟩
   ·cases he
   ·exact .inl (.inr ⟨n,v,x,g1,by rw [g2,Nat.zero_add]⟩)
  ·exact .inr he
theorem Sh {P:Program} {S:Sit} {rg:Nat→Nat×Nat} {nv:Nat} {hs:List Value}:∀ (ps:List Par) (i:Nat) (ls:List (List Lf)) (us:List Value),I7 P S rg nv hs i ps ls us→∀ e∈Gb nv i ps ls,
  ∃ j p l u,us[j]? = some u∧ps[j]? = some p∧l∈ls∧Z3 P S rg nv hs (i+j) p l u∧Kha nv (i+j) p l e
 |[],i,[],[],_,e,he=>by simp [Gb] at he
 |[],i,[],_::_,h,_,_=>h.elim
 |[],i,_::_,_,h,_,_=>h.elim
 |_::_,i,[],_,h,_,_=>h.elim
 |_::_,i,_::_,[],h,_,_=>h.elim
 |p::ps,i,l::ls,u::us,h,e,he=>by
  obtain ⟨h1,h2⟩:=h
  have here:Kha nv i p l e→∃ j p' l' u',(u::us)[j]? = some u'∧(p::ps)[j]? = some p'∧l'∈l::ls∧Z3 P S rg nv hs (i+j) p' l' u'∧Kha nv (i+j) p' l' e:=λ he=>⟨0,p,l,u,rfl,rfl,by simp,h1,he⟩
  have rest:e∈Gb nv (i+1) ps ls→∃ j p' l' u',(u::us)[j]? = some u'∧(p::ps)[j]? = some p'∧l'∈l::ls∧Z3 P S rg nv hs (i+j) p' l' u'∧Kha nv (i+j) p' l' e:=λ he=>by
   obtain ⟨j,p',l',u',g1,g2,g3,g4,g5⟩:=Sh ps (i+1) ls us h2 e he
   refine ⟨j+1,p',l',u',by simpa using g1,by simpa using g2,List.mem_cons_of_mem _ g3,?_⟩
   rw [show i+(j+1)=i+1+j by omega]
   exact ⟨g4,g5⟩
  cases p with
  |val ag t=>
   have he':e=(i,0,(bif ag then .agg l else .one (Jsa l)))∨e∈Gb nv (i+1) ps ls:=List.mem_cons.1 he
   rcases he' with he|he
   ·exact here he
   ·exact rest he
  |ptr t t'=>
   have he':e∈(i,0,Sv.one (.bp i 0 0))::(H i,0,Sv.one (.hd t.sz))::(ups [] (B2 i 0 l)++Gb nv (i+1) ps ls):=he
   rcases List.mem_cons.1 he' with he|he
   ·exact here (.inl he)
   ·rcases Fsa he with he|he
    ·exact here (.inr (by rw [Cha h1.1]; exact he))
    ·exact rest he
  |vw t h0=>
   have he':e∈(i,0,Sv.agg (vwL (bid nv h0) 0 l))::Gb nv (i+1) ps ls:=he
   rcases List.mem_cons.1 he' with he|he
   ·exact here he
   ·exact rest he
  |hid t t'=>
   rcases Cja he with he|he
   ·exact here he
   ·exact rest he
  |rd t=>
   have he':e∈(match mkW t l with
    |some x=>(i,0,Sv.one (.fp t x 0))::Gb nv (i+1) ps ls
    |none=>Gb nv (i+1) ps ls):=he
   split at he'
   ·rename_i x hx
    rcases List.mem_cons.1 he' with he|he
    ·exact here ⟨x,hx,he⟩
    ·exact rest he
   ·exact rest he'
  |fn F m=>
   have he':e∈(i,0,Sv.one (.fn F ((List.range m).map λ j=>(bid nv (nv+j),0))))::Gb nv (i+1) ps ls:=he
   rcases List.mem_cons.1 he' with he|he
   ·exact here he
   ·exact rest he
theorem X9 {P:Program} {S:Sit} {rg:Nat→Nat×Nat} {nv:Nat} {hs:List Value}:∀ (ps:List Par) (i:Nat) (ls:List (List Lf)) (us:List Value),I7 P S rg nv hs i ps ls us→us.length=ps.length
 |[],i,[],[],_=>rfl
 |[],i,[],_::_,h=>h.elim
 |[],i,_::_,_,h=>h.elim
 |_::_,i,[],_,h=>h.elim
 |_::_,i,_::_,[],h=>h.elim
 |_::ps,i,_::ls,_::us,h=>by simp [X9 ps (i+1) ls us h.2]
theorem I7.at {P:Program} {S:Sit} {rg:Nat→Nat×Nat} {nv:Nat} {hs:List Value}:∀ {ps:List Par} {i:Nat} {ls:List (List Lf)} {us:List Value} {j:Nat} {p:Par},I7 P S rg nv hs i ps ls us→ps[j]? = some p→∃ l u,us[j]? = some u∧Z3 P S rg nv hs (i+j) p l u
 |[],i,_,_,j,p,_,hj=>by simp at hj
 |_::_,i,[],_,_,_,h,_=>h.elim
 |_::_,i,_::_,[],_,_,h,_=>h.elim
 |q::ps,i,l::ls,u::us,0,p,h,hj=>by
  simp only [List.getElem?_cons_zero,Option.some.injEq] at hj
  subst hj
  exact ⟨l,u,rfl,h.1⟩
 |q::ps,i,l::ls,u::us,j+1,p,h,hj=>by
  obtain ⟨l',u',h1,h2⟩:=I7.at (j:=j) (p:=p) h.2 (by simpa using hj)
  exact ⟨l',u',by simpa using h1,by rw [show i+(j+1)=i+1+j by omega]; exact h2⟩
def Cka:Par→Bool
 |.hid _ _=>true
 |_=>false
theorem Nw {nv:Nat}:∀ {ps:List Par} {i j:Nat} {p:Par},H7 nv i ps=true→ps[j]? = some p→if Cka p then nv≤i+j else i+j<nv
 |[],_,_,_,_,h=>by simp at h
 |q::ps,i,0,p,h,hj=>by
  simp only [List.getElem?_cons_zero,Option.some.injEq] at hj
  subst hj
  cases q<;>simp only [H7,Bool.and_eq_true] at h<;>simp only [Cka,Bool.false_eq_true,if_false,if_true]<;>exact Nat.le_of_ble_eq_true h.1
 |q::ps,i,j+1,p,h,hj=>by
  have h2:H7 nv (i+1) ps=true:=by cases q<;>simp only [H7,Bool.and_eq_true] at h<;>exact h.2
  have:=Nw (i:=i+1) (j:=j) (p:=p) h2 (by simpa using hj)
  rw [show i+(j+1)=i+1+j by omega]
  exact this
theorem A5.get {P:Program} {S:Sit} {f:Nat→Lab} {l:List Lf} {us:List Value} {n:Nat} {x:Lf} (h:A5 P S f 0 l us) (hx:l[n]? = some x):∃ u,us[n]? = some u∧Ai P S (f n) x u:=by
 have hn:n<l.length:=(List.getElem?_eq_some_iff.1 hx).1
 obtain ⟨x',u',e1,_,e3,e4⟩:=h.at n hn
 rw [List.getD_eq_getElem?_getD,hx] at e1
 simp only [Option.getD_some] at e1
 subst e1
 rw [Nat.zero_add] at e4
 exact ⟨u',e3,e4⟩
theorem Si {nv j:Nat} {us:List Value} {k o:Nat} (hn:nv≤1000) (h:us[j]? = some (.pointer (some ⟨k,o,none⟩))):bbS nv us (bid nv j)=(k,o):=by
 unfold bbS
 rw [Ila hn,h]
theorem Xa {P:Program} {O:Nat→Lab} {w:World} {rg:Nat→Nat×Nat} {nv:Nat} {hs:List Value} {ps:List Par} {ls:List (List Lf)} {us:List Value} (hn9:nv≤1000)
  (hmem:∀ e∈Gb nv 0 ps ls,∃ j p l u,us[j]? = some u∧ps[j]? = some p∧l∈ls∧Z3 P (bare O w) rg nv hs (0+j) p l u∧Kha nv (0+j) p l e)
  (hsol:∀ l∈ls,∀ y∈l,F8 y=true) (e:Nat×Nat×Sv) (he:e∈Gb nv 0 ps ls) (b n:Nat) (hb:e.1=H b) (hn:e.2.2 = .one (.hd n)):
  ∃ (j k o:Nat) (c:Array Value) (e0:TypeId) (vs:List Value),j<ps.length∧b=bid nv j∧bbS nv us b=(k,o)∧w.heap[k]? = some (.cells c e0 (0,0))∧O k = .bx b∧rg b=(o,n)∧o+n≤c.size∧n<999∧(∀ i,i<n→c[o+i]? = vs[i]?)∧n≤vs.length:=by
 obtain ⟨j,p,l,u,g1,g2,g3,g4,g5⟩:=hmem e he
 simp only [Nat.zero_add] at g4 g5
 have hj:j<ps.length:=(List.getElem?_eq_some_iff.1 g2).1
 have box:∀ {t:Ty},Pd P (bare O w) rg (bid nv j) t l u→Jka (bid nv j) t.sz l e→∃ (j k o:Nat) (c:Array Value) (e0:TypeId) (vs:List Value),j<ps.length∧b=bid nv j∧bbS nv us b=(k,o)∧w.heap[k]? = some (.cells c e0 (0,0))∧O k = .bx b∧rg b=(o,n)∧o+n≤c.size∧n<999∧(∀ i,i<n→c[o+i]? = vs[i]?)∧n≤vs.length:=by
  rintro t ⟨k,o,c,e0,vs,rfl,f2,f3,f4,f5,f6,f7,f8,f9⟩ g5
  have hbb:=Si hn9 g1
  rcases g5 with rfl|⟨i,v,x,hx,rfl⟩
  ·have hjb:bid nv j=b:=Q5 hb
   subst hjb
   simp only [Sv.one.injEq,Lf.hd.injEq] at hn
   subst hn
   have hvl:=f9.len
   exact ⟨j,k,o,c,e0,vs,hj,rfl,hbb,f2,f3,f4,f5,f6,f8,by omega⟩
  ·have:=hsol _ g3 x (List.mem_of_getElem? hx)
   simp only [Sv.one.injEq] at hn
   rw [hn] at this
   simp [F8] at this
 cases p with
 |val ag t=>
  have g5:e=(j,0,(bif ag then .agg l else .one (Jsa l))):=g5
  subst g5
  cases ag with
  |true=>cases hn
  |false=>
   simp only [cond_false,Sv.one.injEq] at hn
   cases l with
   |nil=>cases hn
   |cons x l=>
    cases l with
    |cons y l=>cases hn
    |nil=>
     have:=hsol _ g3 x (by simp)
     have hx:x = .hd n:=hn
     rw [hx] at this
     simp [F8] at this
 |vw t h0=>
  have g5:e=_:=g5
  subst g5
  cases hn
 |ptr t t'=>
  rcases g5 with rfl|g5
  ·cases hn
  ·exact box g4.2 g5
 |hid t t'=>exact box g4.2 g5
 |rd t=>
  obtain ⟨x,_,rfl⟩:=g5
  cases hn
 |fn F m=>
  have g5:e=_:=g5
  subst g5
  cases hn
theorem Cla {nv:Nat} {S:Sit} (hs:List Value) (h:∀ j u,hs[j]? = some u→u=Value.pointer (some ⟨(S.bb (bid nv (nv+j))).1,(S.bb (bid nv (nv+j))).2+0,none⟩)):Nf S ((List.range hs.length).map λ j=>(bid nv (nv+j),0)) hs:=by
 have key:∀ (l:List Value) (a:Nat),(∀ j u,l[j]? = some u→u=Value.pointer (some ⟨(S.bb (bid nv (nv+(a+j)))).1,(S.bb (bid nv (nv+(a+j)))).2+0,none⟩))→Nf S ((List.range' a l.length).map λ j=>(bid nv (nv+j),0)) l:=by
  intro l
  induction l with
  |nil=>intro a _; exact rfl
  |cons u l ih=>
   intro a h
   rw [List.length_cons,List.range'_succ,List.map_cons]
   refine ⟨u,l,rfl,⟨Nat.zero_le _,λ _=>?_⟩,ih (a+1) (λ j u hj=>?_)⟩
   ·have:=h 0 u rfl
    rw [Nat.add_zero] at this
    exact this
   ·have:=h (j+1) u (by simpa using hj)
    rw [show a+(j+1)=a+1+j by omega] at this
    exact this
 rw [List.range_eq_range']
 exact key hs 0 (λ j u hj=>by rw [Nat.zero_add]; exact h j u hj)
theorem Fta {P:Program} {O:Nat→Lab} {w:World} {rg:Nat→Nat×Nat} {nt nv:Nat} {ps:List Par} {ls:List (List Lf)} {us:List Value} (hnt:nt≤1000) (hlt:∀ k,O k ≠ .no→k<w.heap.size) (hbx:∀ k b,O k = .bx b→∃ c e f,w.heap[k]? = some (.cells c e f))
  (hargs:I7 P (bare O w) rg nv (us.drop nv) 0 ps ls us) (hsol:∀ l∈ls,∀ y∈l,F8 y=true) (hps:nv≤nt) (hpk:H7 nv 0 ps=true) (hpl:ps.length - nv<500):
  Ae ⟨P,O,w,rg,nt,nv⟩ (S0 nv ps ls us O w) ⟨(us.take nv).toArray++Array.replicate (nt - (us.take nv).toArray.size) undef,[]⟩:=by
 have hul:=X9 ps 0 ls us hargs
 have hn9:nv≤1000:=by omega
 have hmem:=Sh ps 0 ls us hargs
 have hph:∀ t,t<1000→phS nv us w t=(us.take nv).getD t undef:=λ t ht=>by unfold phS; rw [if_pos ht]
 have hus:∀ {j:Nat} {u:Value},j<nv→us[j]? = some u→(us.take nv).getD j undef=u:=λ hj h=>by rw [List.getD_eq_getElem?_getD,List.getElem?_take,if_pos hj,h]; rfl
 refine ⟨hnt,hlt,?_,?_,?_,λ t ht=>?_,?_,rfl,⟨rfl,rfl,rfl,Nat.le_refl _,λ k _ h=>⟨h,rfl⟩,λ k _ h=>⟨h,rfl⟩,λ k b hk h=>?_⟩⟩
 ·refine Mc (Q:=λ l s=>G6 P (S0 nv ps ls us O w) l s.2 (phS nv us w l)) (λ l=>trivial) _ (λ e he=>?_)
  obtain ⟨j,p,l,u,g1,g2,g3,g4,g5⟩:=hmem e he
  simp only [Nat.zero_add] at g4 g5
  have hvis:=Nw hpk g2
  rw [Nat.zero_add] at hvis
  have vis:Cka p=false→j<nv∧phS nv us w j=u:=λ h=>by
   rw [h] at hvis
   have hj:j<nv:=hvis
   exact ⟨hj,by rw [hph j (by omega)]; exact hus hj g1⟩
  have box:∀ {t:Ty},Pd P (bare O w) rg (bid nv j) t l u→Jka (bid nv j) t.sz l e→G6 P (S0 nv ps ls us O w) e.1 e.2.2 (phS nv us w e.1):=by
   rintro t ⟨k,o,c,e0,vs,rfl,f2,f3,f4,f5,f6,f7,f8,f9⟩ g5
   have hbb:=Si hn9 g1
   rcases g5 with rfl|⟨n,v,x,hx,rfl⟩
   ·trivial
   ·have hn:n<t.sz:=by have:=(List.getElem?_eq_some_iff.1 hx).1; omega
    obtain ⟨d1,d2,d3⟩:=Ima (b:=bid nv j) (j:=n) (by omega)
    obtain ⟨v',h1,h2⟩:=f9.get hx
    have hpc:phS nv us w (C (bid nv j) n)=v':=by
     unfold phS
     rw [if_neg d3,d1,d2,hbb]
     have f2':w.heap[k]? = some (.cells c e0):=f2
     simp [World.cell?,f2',f8 n hn,h1]
    show Ai P (S0 nv ps ls us O w) _ x (phS nv us w (C (bid nv j) n))
    rw [hpc]
    exact Ai.bare (S1:=bare O w) (S2:=S0 nv ps ls us O w) (lab := .pl (C (bid nv j) n) []) (lab' := .pl (C (bid nv j) n) []) (hsol l g3 x (List.mem_of_getElem? hx)) rfl (λ k hk=>hk) (λ k hk=>hk) h2
  cases p with
  |val ag t=>
   obtain ⟨hj,hpj⟩:=vis rfl
   have g5:e=(j,0,(bif ag then .agg l else .one (Jsa l))):=g5
   subst g5
   obtain ⟨vs,e1,e2⟩:=g4
   show G6 P (S0 nv ps ls us O w) j _ (phS nv us w j)
   rw [hpj]
   have e3:=A5.impM (S1:=bare O w) (S2:=S0 nv ps ls us O w) (f':=λ n => .pl j (if ag then [n] else [])) (λ x hx n u hu=>Ai.bare (S1:=bare O w) (S2:=S0 nv ps ls us O w) (hsol l g3 x hx) rfl (λ k hk=>hk) (λ k hk=>hk) hu) e2
   cases ag with
   |true=>exact ⟨vs,e1,e3⟩
   |false=>
    simp only [Bool.false_eq_true,if_false] at e1
    subst e1
    cases l with
    |nil=>exact e3.elim
    |cons x l=>
     cases l with
     |nil=>exact e3.1
     |cons y l=>exact e3.2.elim
  |vw t h0=>
   obtain ⟨hj,hpj⟩:=vis rfl
   have g5:e=_:=g5
   subst g5
   obtain ⟨q1,vs,k,o,c,e0,rfl,q2,q3,q4,q5,q6⟩:=g4
   show G6 P (S0 nv ps ls us O w) j (.agg _) (phS nv us w j)
   rw [hpj]
   have hbb:bbS nv us (bid nv h0)=(k,o):=by
    refine Si hn9 ?_
    rw [List.getElem?_drop] at q2
    rw [← q2,show nv+(h0 - nv)=h0 by omega]
   have hsl:=hsol l g3
   have key:∀ (l:List Lf) (i:Nat) (vs:List Value),i+l.length<999→(∀ y∈l,F8 y=true)→Qj (Z2 P (bare O w) (λ j=>c.getD (o+j) undef)) i l vs→A5 P (S0 nv ps ls us O w) (λ n => .pl j [n]) i (vwL (bid nv h0) i l) vs:=by
    intro l
    induction l with
    |nil=>intro i vs _ _ h; cases vs<;>first|trivial|exact h.elim
    |cons x l ih=>
     intro i vs hi hs h
     simp only [List.length_cons] at hi
     cases vs with
     |nil=>exact h.elim
     |cons u vs=>
      have hr:=ih (i+1) vs (by omega) (λ y hy=>hs y (List.mem_cons_of_mem _ hy)) h.2
      have h1:=h.1
      have h2:=hs x (by simp)
      have sh:B3a x=true→Ai P (bare O w) .fz x u→Ai P (S0 nv ps ls us O w) (.pl j [i]) x u:=λ hx hu=>by
       have:Ai P (S0 nv ps ls us O w) .fz x u:=Ai.bare (S1:=bare O w) (S2:=S0 nv ps ls us O w) h2 rfl (λ k hk=>hk) (λ k hk=>hk) hu
       cases x<;>first|exact Ai.relab (lab' := .pl j [i]) rfl this|simp [B3a] at hx
      cases x with
      |own e r xs=>
       refine ⟨⟨Nat.zero_le _,λ _=>?_⟩,hr⟩
       have h3:u=c.getD (o+i) undef:=h1
       obtain ⟨d1,d2,d3⟩:=Ima (b:=bid nv h0) (j:=i) (by omega)
       show u=phS nv us w (C (bid nv h0) i)
       unfold phS
       rw [if_neg d3,d1,d2,hbb,h3]
       have q3':w.heap[k]? = some (.cells c e0):=q3
       simp [World.cell?,q3',Array.getD_eq_getD_getElem?]
      |sc v=>exact ⟨sh h1.1 h1.2,hr⟩
      |fz e r xs=>exact ⟨sh h1.1 h1.2,hr⟩
      |_=>simp [F8] at h2
   exact ⟨vs,rfl,key l 0 vs (by omega) hsl q6⟩
  |ptr t t'=>
   rcases g5 with rfl|g5
   ·obtain ⟨hj,hpj⟩:=vis rfl
    obtain ⟨_,k,o,c,e0,vs,rfl,_⟩:=g4
    have hbb:=Si hn9 g1
    rw [Cha hj] at hbb
    show Ai P (S0 nv ps ls us O w) (.pl j []) (.bp j 0 0) (phS nv us w j)
    refine ⟨Nat.zero_le _,λ _=>?_⟩
    rw [hpj]
    show _=Value.pointer (some ⟨(bbS nv us j).1,(bbS nv us j).2+0,none⟩)
    rw [hbb]
    rfl
   ·exact box g4.2 g5
  |hid t t'=>exact box g4.2 g5
  |rd t=>
   obtain ⟨hj,hpj⟩:=vis rfl
   obtain ⟨x,hx,rfl⟩:=g5
   obtain ⟨x',k,o,cs,h1,h2,h3,h4,h5⟩:=g4
   rw [hx] at h1
   cases h1
   show Ai P (S0 nv ps ls us O w) (.pl j []) (.fp t x 0) (phS nv us w j)
   rw [hpj]
   exact ⟨k,o,cs,h2,h3,Ty.rep_mono (λ k hk=>hk) (λ _ _=>rfl) t x cs h4,h5⟩
  |fn F m=>
   obtain ⟨hj,hpj⟩:=vis rfl
   have g5:e=_:=g5
   subst g5
   obtain ⟨h1,h2⟩:=g4
   show Ai P (S0 nv ps ls us O w) (.pl j []) (.fn F _) (phS nv us w j)
   rw [hpj]
   refine ⟨us.drop nv,h1,?_⟩
   rw [← h2]
   refine Cla _ (λ i v hi=>?_)
   rw [List.getElem?_drop] at hi
   have hlt2:nv+i<ps.length:=by rw [← hul]; exact (List.getElem?_eq_some_iff.1 hi).1
   have hp:ps[nv+i]? = some ps[nv+i]:=List.getElem?_eq_getElem hlt2
   have hh:=Nw hpk hp
   have hhid:Cka ps[nv+i]=true:=by
    cases hc:Cka ps[nv+i] with
    |true=>rfl
    |false=>rw [hc] at hh; simp only [Bool.false_eq_true,if_false] at hh; omega
   obtain ⟨l',u',k1,k2⟩:=hargs.at hp
   rw [hi] at k1
   cases k1
   rw [Nat.zero_add] at k2
   cases hpp:ps[nv+i] with
   |hid t t'=>
    rw [hpp] at k2
    obtain ⟨_,k,o,c,e0,vs,rfl,_⟩:=k2
    show _=Value.pointer (some ⟨(bbS nv us (bid nv (nv+i))).1,(bbS nv us (bid nv (nv+i))).2+0,none⟩)
    rw [Si hn9 hi]
    rfl
   |_=>rw [hpp] at hhid; cases hhid
 ·have key:=Mc (Q:=λ l s=>∀ b n,l=H b→s.2 = .one (.hd n)→n<999∧∃ c e,w.heap[(bbS nv us b).1]? = some (.cells c e (0,0))∧O (bbS nv us b).1 = .bx b∧(bbS nv us b).2+n≤c.size∧∀ j,j<n→c[(bbS nv us b).2+j]? = some (phS nv us w (C b j)))
   (λ l b n _ h=>by cases h) (Gb nv 0 ps ls) (λ e he b n hb hn=>by
    obtain ⟨_,k,o,c,e0,vs,_,_,k1,f2,f3,f4,f5,f6,f8,hvl⟩:=Xa hn9 hmem hsol e he b n hb hn
    refine ⟨f6,c,e0,by rw [k1]; exact f2,by rw [k1]; exact f3,by rw [k1]; exact f5,λ i hi=>?_⟩
    obtain ⟨d1,d2,d3⟩:=Ima (b:=b) (j:=i) (by omega)
    have:phS nv us w (C b i)=vs.getD i undef:=by
     unfold phS
     rw [if_neg d3,d1,d2,k1]
     simp [World.cell?,f2,f8 i hi]
    rw [this,k1,f8 i hi,List.getD_eq_getElem?_getD,List.getElem?_eq_getElem (by omega)]
    rfl)
  exact λ b n h=>key (H b) b n rfl h
 ·have key:=Mc (Q:=λ l s=>∀ b n,l=H b→s.2 = .one (.hd n)→b<2000∧O (bbS nv us b).1 = .bx b∧(rg b).1≤(bbS nv us b).2∧(bbS nv us b).2+n≤(rg b).1+(rg b).2∧(bbS nv us b).1<w.heap.size)
   (λ l b n _ h=>by cases h) (Gb nv 0 ps ls) (λ e he b n hb hn=>by
    obtain ⟨j,k,o,c,e0,vs,hj,hbj,k1,f2,f3,f4,f5,f6,f8,hvl⟩:=Xa hn9 hmem hsol e he b n hb hn
    rw [k1,f4]
    exact ⟨by rw [hbj]; exact Hca hj hn9 hpl,f3,Nat.le_refl _,Nat.le_refl _,(Array.getElem?_eq_some_iff.1 f2).1⟩)
  intro b n h
  obtain ⟨h1,h2,h3,h4,h5⟩:=key (H b) b n rfl h
  exact ⟨λ _ _=>⟨h2,h3,h4⟩,λ _=>h5,λ h6=>by omega⟩
 ·show ((us.take nv).toArray++Array.replicate (nt - (us.take nv).toArray.size) undef).getD t undef=phS nv us w t
  have ht':t<nt:=ht
  rw [hph t (by omega)]
  generalize us.take nv=vs
  by_cases h:t<vs.length
  ·simp [Array.getD_eq_getD_getElem?,Array.getElem?_append,h,List.getD_eq_getElem?_getD]
  ·have h2:vs.getD t undef=undef:=by rw [List.getD_eq_getElem?_getD,List.getElem?_eq_none (by omega)]; rfl
   rw [h2]
   simp [Array.getD_eq_getD_getElem?,Array.getElem?_append,h,Array.getElem?_replicate]
   split<;>rfl
 ·have:(us.take nv).length≤nt:=by rw [List.length_take]; omega
  simp
  omega
 ·obtain ⟨c,e,f,h1⟩:=hbx k b h
  exact ⟨h,c,c,e,f,h1,h1,rfl,λ _ _=>rfl⟩

section
attribute [local irreducible] C H
section
variable {X:Cx} {S S1 S2:Sit} {a:Act} {E:En} {A:Ab}
theorem Cma {l0:List Lf} (K:Ae X S a) (hg:S.g=get A) (K1:Ae X S1 a) (E1:Ox X S S1) (P1:∀ p v,Lf.al p v∈l0→∀ n e r,∀ xs:List (Ty.den r),get A p=(n,.one (.own e r xs))→n=v→S1.g p=(n,.one (.fz e r xs)))
  (f:Nat→Lab) (hf:∀ n k,S.O k=f n→S1.O k=f n):∀ (l:List Lf),(∀ x∈l,x∈l0)→∀ j us,A5 X.P S f j l us→A5 X.P S1 f j (l.map (Fy A)) us
 |[],_,_,[],_=>trivial
 |[],_,_,_::_,h=>h.elim
 |_::_,_,_,[],h=>h.elim
 |x::l,hm,j,u::us,h=>by
  refine ⟨?_,Cma K hg K1 E1 P1 f hf l (λ z hz=>hm z (List.mem_cons_of_mem _ hz)) (j+1) us h.2⟩
  have h1:Ai X.P S (f j) x u:=h.1
  cases x with
  |al p v=>
   show Ai X.P S1 (f j) (Hh (Gp A (.al p v))) u
   simp only [Gp]
   split
   ·rename_i n e r' xs hp
    cases hb:Nat.beq n v with
    |false=>exact trivial
    |true=>
     have hnv:n=v:=by simpa using hb
     subst hnv
     rw [cond_true]
     show Ai X.P S1 (f j) (.fz e r' xs) u
     have h2:=P1 p n (hm _ (by simp)) n e r' xs hp rfl
     have h3:=K1.at_ p
     rw [h2,E1.ph,← h1.2 (by rw [hg,hp])] at h3
     exact Ai.relab (lab := .pl p []) rfl h3
   ·rename_i n e r' xs hp
    cases hb:Nat.beq n v with
    |false=>exact trivial
    |true=>
     have hnv:n=v:=by simpa using hb
     subst hnv
     rw [cond_true]
     show Ai X.P S1 (f j) (.fz e r' xs) u
     have h3:=K.at_ p
     rw [hg,hp,← h1.2 (by rw [hg,hp])] at h3
     have h4:Ai X.P S (.pl p []) (.fz e r' xs) u:=h3
     exact (Ai.relab (lab':=f j) rfl h4).later E1.later (λ k hk=>⟨hf j k hk,by rw [E1.w]⟩)
   ·exact trivial
  |_=>exact h1.later E1.later (λ k hk=>⟨hf j k hk,by rw [E1.w]⟩)
theorem Md:∀ l:List Lf,Ct l=false→Ct (l.map (Fy A))=false
 |[],_=>rfl
 |x::l,h=>by
  have hc:∀ z:Lf,Ct (Hh z::l.map (Fy A))=Ct (l.map (Fy A)):=by intro z; cases z<;>rfl
  cases x with
  |own e r xs=>simp [Ct] at h
  |opn e r xs i b v=>simp [Ct] at h
  |al p v=>rw [List.map_cons]; exact (hc _).trans (Md l (by simpa [Ct] using h))
  |_=>exact Md l (by simpa [Ct] using h)
theorem Ja {P:Program} {S:Sit} {f:Nat→Lab}:∀ {l:List Lf} {j:Nat} {us:List Value},A3 l=true→Ct l=false→A5 P S f j l us→H5 (Ge P (λ k=>S.O k = .fz) S.w) l us
 |[],_,[],_,_,_ => .nil
 |[],_,_::_,_,_,h=>h.elim
 |_::_,_,[],_,_,h=>h.elim
 |x::l,j,u::us,hs,ho,h=>by
  cases x with
  |sc v=>exact .cons h.1 (Ja (by simpa [A3] using hs) (by simpa [Ct] using ho) h.2)
  |fz e r xs=>exact .cons h.1 (Ja (by simpa [A3] using hs) (by simpa [Ct] using ho) h.2)
  |own e r xs=>simp [Ct] at ho
  |_=>simp [A3] at hs
theorem Ina (hE:Gj X E) (K:Ae X S a) (hg:S.g=get A) {x:Nat} (hx:Nat.blt x E.nt=true) {k:RK} {t:Ty} {l:List Lf} {us:List Up} (i:Nat) (hk:k ≠ .ptr) (h:Tn E.np A k t (.tmp x) (get A x).2=some (l,us)) {y:t.den} (hy:mkW t l=some y):
  ∃ S',Ae X S' a∧S'.g=get (ups A us)∧De X S S' (λ n _=>n=i)∧
   ∃ vs,(if Mm k then a.eval (.tmp x) = .agg vs.toArray else vs=[a.eval (.tmp x)])∧A5 X.P S' (λ n => .tm i (if Mm k then [n] else [])) 0 (A4 t y) vs:=by
 have hop:opT E 0 A (.tmp x)=some (get A x).2:=by show (bif Nat.blt x E.nt then some (get A x).2 else none)=_; rw [hx]; rfl
 have h':(bif Fz (Mm k) (get A x).2 then Lx A (.tmp x) (get A x).2 t else none)=some (l,us):=by
  unfold Tn at h
  cases k<;>first|exact h|exact absurd rfl hk
 cases hq:Fz (Mm k) (get A x).2 with
 |false=>rw [hq] at h'; simp at h'
 |true=>
  rw [hq,cond_true] at h'
  obtain ⟨S1,K1,g1,G,h2,_,vs,hsh,hl⟩:=W9 hE K hg (.inl hop) (C5a hq) h' i
  have hp:=Caa hq
  simp only [hp] at hl
  exact ⟨S1,K1,g1,G,vs,Pf hq hsh,Js (Pj h') hy hl⟩
theorem Ae.unbox (K:Ae X S a) (hb0:∀ k b,X.O0 k = .bx b→b<X.np∨1500≤b) {b n:Nat} (hh:(S.g (H b)).2 = .one (.hd n)) (hnp:X.np≤b) (hb1:b<1000) (j:Nat):
  Ae X { S with O:=λ k=>if k=(S.bb b).1 then .tm j [] else S.O k,g:=upd S.g (H b) ((S.g (H b)).1+1,.one .dead) } a∧
  Cq S { S with O:=λ k=>if k=(S.bb b).1 then .tm j [] else S.O k,g:=upd S.g (H b) ((S.g (H b)).1+1,.one .dead) }:=by
 obtain ⟨hn,c,e,e1,e2,e3,e4⟩:=K.box b n hh
 have hnew:X.w0.heap.size≤(S.bb b).1:=by
  rcases Nat.lt_or_ge (S.bb b).1 X.w0.heap.size with h|h
  ·have:=hb0 _ _ ((K.rgn b n hh).1 (by omega) h).1
   omega
  ·exact h
 have keep:∀ k o,S.O k=o→o ≠ .bx b→(if k=(S.bb b).1 then Lab.tm j [] else S.O k)=o:=λ k o' h ho=>by
  rw [if_neg (λ e=>ho (by rw [← h,e,e2]))]
  exact h
 have hbk:∀ b' n',b'≠b→(S.g (H b')).2 = .one (.hd n')→(S.bb b').1≠(S.bb b).1:=λ b' n' hne hb' e5=>by
  obtain ⟨_,_,_,_,g4,_⟩:=K.box b' n' hb'
  rw [e5,e2] at g4
  simp only [Lab.bx.injEq] at g4
  exact hne g4.symm
 have gne:∀ p,p≠H b→({ S with O:=λ k=>if k=(S.bb b).1 then .tm j [] else S.O k,g:=upd S.g (H b) ((S.g (H b)).1+1,.one .dead) }:Sit).g p=S.g p:=λ p h=>Ac _ _ h
 have gsm:({ S with O:=λ k=>if k=(S.bb b).1 then .tm j [] else S.O k,g:=upd S.g (H b) ((S.g (H b)).1+1,.one .dead) }:Sit).g (H b)=((S.g (H b)).1+1,.one .dead):=A7 _ _ _
 have L:Cq S { S with O:=λ k=>if k=(S.bb b).1 then .tm j [] else S.O k,g:=upd S.g (H b) ((S.g (H b)).1+1,.one .dead) }:=by
  refine ⟨λ p=>?_,λ _ _=>rfl,λ p v e r xs' hp hv=>?_,λ _ _=>rfl,λ k hk=>⟨keep k _ hk (by simp),rfl⟩,λ b' n' hv hb' hO=>?_,λ p hv hd=>?_⟩
  ·by_cases h:p=H b
   ·subst h; rw [gsm]; exact Nat.le_succ _
   ·rw [gne p h]; exact Nat.le_refl _
  ·by_cases h:p=H b
   ·subst h; rw [gsm] at hp; cases hp
   ·rw [gne p h] at hp; exact ⟨xs',hp,rfl⟩
  ·have hne:b'≠b:=λ e=>by subst e; rw [gsm] at hv; simp at hv
   refine ⟨by rw [gne _ (λ e=>hne (Q5 e))]; exact hb',?_,λ c e f h=>⟨c,h,rfl,λ _ _=>rfl⟩⟩
   show (if (S.bb b').1=(S.bb b).1 then Lab.tm j [] else S.O (S.bb b').1)=_
   rw [if_neg (hbk b' n' hne hb')]
   exact hO
  ·have h:p≠H b:=λ e=>by subst e; rw [hh] at hd; simp [Tq,F0a] at hd
   rw [gne p h]
   exact ⟨hd,λ _ _ _ h=>h,λ k hk=>⟨.inl (keep k _ hk (by simp)),rfl⟩⟩
 have F:=K.fr
 have hd:∀ b' n',(({ S with O:=λ k=>if k=(S.bb b).1 then .tm j [] else S.O k,g:=upd S.g (H b) ((S.g (H b)).1+1,.one .dead) }:Sit).g (H b')).2 = .one (.hd n')→b'≠b∧(S.g (H b')).2 = .one (.hd n'):=λ b' n' hb'=>by
  have hne:b'≠b:=λ e=>by subst e; rw [gsm] at hb'; cases hb'
  exact ⟨hne,by rw [gne _ (λ e=>hne (Q5 e))] at hb'; exact hb'⟩
 refine ⟨⟨K.nt,λ k hk=>?_,λ l=>?_,λ b' n' hb'=>?_,λ b' n' hb'=>K.rgn b' n' (hd b' n' hb').2,K.sl,K.sz,K.df,⟨F.os,F.tape,F.out,F.size,λ k hk h0=>?_,λ k hk h0=>?_,λ k b' hk h0=>?_⟩⟩,L⟩
 ·by_cases h:k=(S.bb b).1
  ·exact K.lt k (by rw [h,e2]; simp)
  ·have hk':(if k=(S.bb b).1 then Lab.tm j [] else S.O k) ≠ .no:=hk
   rw [if_neg h] at hk'
   exact K.lt k hk'
 ·by_cases h:l=H b
  ·subst h; rw [gsm]; trivial
  ·rw [gne l h]
   exact (K.at_ l).later L (λ p k hk=>⟨keep k _ hk (by simp),rfl⟩)
 ·obtain ⟨hne,hb2⟩:=hd b' n' hb'
  obtain ⟨g1,c1,g2,g3,g4,g5,g6⟩:=K.box b' n' hb2
  exact ⟨g1,c1,g2,g3,keep _ _ g4 (by simp [hne]),g5,g6⟩
 ·obtain ⟨f1,f2⟩:=F.no k hk h0
  exact ⟨keep k _ f1 (by simp),f2⟩
 ·obtain ⟨f1,f2⟩:=F.fz k hk h0
  exact ⟨keep k _ f1 (by simp),f2⟩
 ·obtain ⟨f1,rest⟩:=F.bx k b' hk h0
  refine ⟨?_,rest⟩
  show (if k=(S.bb b).1 then Lab.tm j [] else S.O k)=_
  rw [if_neg (by omega)]
  exact f1
theorem Ioa (hE:Gj X E) (K:Ae X S a) (hg:S.g=get A) (hb0:∀ k b,X.O0 k = .bx b→b<X.np∨1500≤b) {x:Nat} (hx:Nat.blt x E.nt=true) {t:Ty} {l:List Lf} {us:List Up} (i:Nat) (h:Tn E.np A .ptr t (.tmp x) (get A x).2=some (l,us)) {y:t.den} (hy:mkW t l=some y):
  ∃ S',Ae X S' a∧S'.g=get (ups A us)∧S'.w=S.w∧Cq S S'∧(∀ n q z v,Ai X.P S (.tm n q) z v→Ai X.P S' (.tm n q) z v)∧(∀ n q k,S.O k = .tm n q→S'.O k = .tm n q)∧J9 X.P S' X.w0.heap.size i .ptr (A4 t y) (a.eval (.tmp x)):=by
 have hop:opT E 0 A (.tmp x)=some (get A x).2:=by show (bif Nat.blt x E.nt then some (get A x).2 else none)=_; rw [hx]; rfl
 unfold Tn at h
 simp only at h
 split at h
 ·rename_i b v hs
  rw [hs] at hop
  split at h
  ·rename_i n m hp
   cases hq:(Nat.beq n v&&(Nat.ble E.np b&&Nat.blt b 1000)&&Fu t&&Nat.beq m t.sz&&Nat.blt m 999&&A3 ((cellsOf A b 0 m).map (Fy A))) with
   |false=>rw [hq] at h; simp at h
   |true=>
    rw [hq] at h
    simp only [cond_true,Option.some.injEq,Prod.mk.injEq] at h
    obtain ⟨rfl,rfl⟩:=h
    simp only [Bool.and_eq_true] at hq
    obtain ⟨⟨⟨⟨⟨q1,q2,q7⟩,q3⟩,q4⟩,q5⟩,q6⟩:=hq
    have hnv:n=v:=by simpa using q1
    have hm:m=t.sz:=Nat.eq_of_beq_eq_true q4
    have hlt:m<999:=Nat.le_of_ble_eq_true q5
    have hnp:X.np≤b:=hE.np ▸ (Nat.le_of_ble_eq_true q2)
    have hb1:b<1000:=Nat.le_of_ble_eq_true q7
    subst hnv
    obtain ⟨pl,hl⟩:=El hE K hg hop
    have hlf:Ai X.P S (.pl pl []) (.bp b n 0) (a.eval (.tmp x)):=hl
    have hu:=hlf.2 (by rw [hg,hp])
    obtain ⟨S1,K1,g1,E1,F1,P1⟩:=Qc (X:=X) (a:=a) (A:=A) (cellsOf A b 0 m) K hg (λ p => .inl rfl)
    obtain ⟨c1,c2,c3⟩:=Jm K hg b m 0
    have hkept:=Cma K hg K1 E1 P1 (λ _ => .fz) (λ n k hk=>(E1.later.fz k hk).1) (cellsOf A b 0 m) (λ _ h=>h) 0 _ (c3 (λ _ => .fz) 0)
    have hrep:=Ja q6 (Md _ c2) hkept
    have hh:(S.g (H b)).2 = .one (.hd m):=by rw [hg,hp]
    have hh1:(S1.g (H b)).2 = .one (.hd m):=by
     rcases F1 (H b) with h1|⟨n',e,r',xs,h1,h2⟩
     ·rw [h1,hp]
     ·rw [hp] at h1; cases h1
    obtain ⟨_,c,e,e1,e2,e3,e4⟩:=K1.box b m hh1
    have hnew:X.w0.heap.size≤(S1.bb b).1:=by
     rcases Nat.lt_or_ge (S1.bb b).1 X.w0.heap.size with h|h
     ·have:=hb0 _ _ ((K1.rgn b m hh1).1 (by omega) h).1
      omega
     ·exact h
    obtain ⟨K2,L2⟩:=K1.unbox hb0 hh1 hnp hb1 (i+500)
    have hll:(A4 t y).length=m:=by rw [Ec,hm]
    have htm:∀ n q k,S1.O k = .tm n q→(if k=(S1.bb b).1 then Lab.tm (i+500) [] else S1.O k) = .tm n q:=λ n q k hk=>by
     rw [if_neg (λ e=>by rw [e,e2] at hk; cases hk)]
     exact hk
    refine ⟨_,K2,?_,E1.w,E1.later.trans L2,λ n q z v hz=>(hz.later E1.later (λ k hk=>⟨E1.tm n q k hk,by rw [E1.w]⟩)).later L2 (λ k hk=>⟨htm n q k hk,rfl⟩),λ n q k hk=>htm n q k (E1.tm n q k hk),(S1.bb b).1,(S1.bb b).2,c,e,(List.range m).map (λ j=>S.ph (C b (0+j))),?_,e1,hnew,if_pos rfl,by rw [hll]; exact e3,by rw [hll]; exact hlt,λ j hj=>?_,?_⟩
    ·show upd S1.g (H b) _=_
     rw [Ad]
     show _=get (up (ups A (Fv A (cellsOf A b 0 m))) ⟨H b,false,.one .dead⟩)
     rw [Hp,← g1]
     rfl
    ·rw [E1.bb]; exact hu
    ·rw [hll] at hj
     rw [e4 j hj,E1.ph]
     simp [hj]
    ·exact Pg (G:=λ k=>S1.O k = .fz) (λ k hk=>(L2.fz k hk).1) hy q3 hrep _ _
  ·cases h
 ·cases h
end
end

section
attribute [local irreducible] C H
theorem U9 {P:Program} {w:World} {T:TypeId} {t:TI} {k o':Nat} {cs:List Value} (ht:TOk P T t) (ha:t.ag=true) (hc:Co w k o' cs) (hl:cs.length=t.ty.sz):
  (loadVar T ⟨k,o',none⟩).run P w = .ok (.agg cs.toArray) w:=by
 obtain ⟨d,hd,hagg⟩:=Tx ht
 rw [ha] at hagg
 have hc':∀ j v,cs[j]? = some v→w.cell? (Addr.add ⟨k,o',none⟩ j)=some v:=λ j v hj=>by rw [Hf]; exact hc j v hj
 have hlc:=run_loadCells_list (P:=P) w ⟨k,o',none⟩ cs hc'
 simp only [Sem.run_bind,Sem.run_pure,Result.andThen_ok,loadVar,Ih hd hagg,if_true,Gf (Jl ht),← hl,hlc]
def Jb (a:Act):ResultVar→Sem Value
 |.tmp t=>pure (a.tmps.getD t undef)
 |.cell x t=>do loadVar t (← asAddr (a.tmps.getD x undef))
section
variable {X:Cx} {S S1 S2:Sit} {a:Act} {E:En} {A:Ab}
theorem Fua (hE:Gj X E) (K:Ae X S a) (hg:S.g=get A) {x:Nat} (hx:Nat.blt x E.nt=true) {T:TypeId} {ti:TI} (hT:E.ti T=some ti) (hag:ti.ag=true) {t:Ty} (hsz:ti.ty.sz=t.sz) {l:List Lf} {us:List Up} (i:Nat)
  (h:Tp A t (get A x).2=some (l,us)) {y:t.den} (hy:mkW t l=some y):
  ∃ S',Ae X S' a∧S'.g=get (ups A us)∧De X S S' (λ n _=>n=i)∧
   ∃ vs,(Jb a (.cell x T)).run X.P S.w = .ok (.agg vs.toArray) S.w∧A5 X.P S' (λ n => .tm i [n]) 0 (A4 t y) vs:=by
 have hop:opT E 0 A (.tmp x)=some (get A x).2:=by show (bif Nat.blt x E.nt then some (get A x).2 else none)=_; rw [hx]; rfl
 unfold Tp at h
 split at h
 ·rename_i b v hs
  rw [hs] at hop
  obtain ⟨pl,hl⟩:=El hE K hg hop
  have hlf:Ai X.P S (.pl pl []) (.bp b v 0) (a.eval (.tmp x)):=hl
  obtain ⟨g1,g2,_,_,g5,S1,K1,g6,G,hls⟩:=Mz K hg h i
  have hu:=hlf.2 g1
  obtain ⟨hm9,c,e,e1,e2,e3,e4⟩:=K.box b _ g2
  have hcells:Co S.w (S.bb b).1 (S.bb b).2 ((List.range t.sz).map λ i=>S.ph (C b (0+i))):=by
   intro j u hj
   have hj':j<t.sz:=by
    have:=(List.getElem?_eq_some_iff.1 hj).1
    simpa using this
   have:u=S.ph (C b j):=by simpa [hj'] using hj.symm
   rw [this]
   simp [World.cell?,e1,e4 j hj']
  have hrun:(Jb a (.cell x T)).run X.P S.w = .ok (.agg ((List.range t.sz).map λ i=>S.ph (C b (0+i))).toArray) S.w:=by
   have hu':a.tmps.getD x undef = .pointer (some ⟨(S.bb b).1,(S.bb b).2+0,none⟩):=hu
   unfold Jb
   simp only [hu',asAddr,Sem.run_bind,Sem.run_pure,Result.andThen_ok,Nat.add_zero]
   exact U9 (hE.ti T ti hT) hag hcells (by rw [hsz]; simp)
  exact ⟨S1,K1,g6,G,_,hrun,Js (Ma h) hy hls⟩
 ·cases h
def Kp (i n:Nat):Prop:=n<i∨500≤n
theorem J9.keep {P:Program} {n0 i:Nat} {k:RK} {l:List Lf} {u:Value} (hw:S2.w=S1.w) (hi:∀ q z v,Ai P S1 (.tm i q) z v→Ai P S2 (.tm i q) z v) (ho:∀ q k,S1.O k = .tm (i+500) q→S2.O k = .tm (i+500) q) (h:J9 P S1 n0 i k l u):J9 P S2 n0 i k l u:=by
 cases k with
 |one=>exact A5.impM (λ x hx n u h=>hi _ _ u h) h
 |agg=>
  obtain ⟨us,e,h⟩:=h
  exact ⟨us,e,h.impM (λ x hx n u h=>hi _ _ u h)⟩
 |ptr=>
  obtain ⟨k,o,c,e,us,h1,h2,h3,h4,h5,h6,h7,h8⟩:=h
  exact ⟨k,o,c,e,us,h1,by rw [hw]; exact h2,h3,ho _ _ h4,h5,h6,h7,h8.impM (λ x hx n u h=>hi _ _ u h)⟩
theorem Cna (hE:Gj X E) (hb0:∀ k b,X.O0 k = .bx b→b<X.np∨1500≤b):∀ (rs:List (RK×Ty)) (rv:List ResultVar) {S:Sit} {A:Ab} {ls ls':List (List Lf)} {us:List Up} (i:Nat),Ae X S a→S.g=get A→i+rs.length<500→Nb E A rs rv=some (ls,us)→Mk (rs.map Prod.snd) ls ls'→
  ∃ S' vs,Ae X S' a∧S'.g=get (ups A us)∧S'.w=S.w∧Cq S S'∧(∀ n q z v,Kp i n→Ai X.P S (.tm n q) z v→Ai X.P S' (.tm n q) z v)∧(∀ n q k,Kp i n→S.O k = .tm n q→S'.O k = .tm n q)∧Gr X.P S' X.w0.heap.size i rs ls' vs∧H5 (λ r v=>(Jb a r).run X.P S.w = .ok v S.w) rv vs
 |[],[],S,A,ls,ls',us,i,K,hg,_,h,hm=>by
  simp only [Nb,Option.some.injEq,Prod.mk.injEq] at h
  obtain ⟨rfl,rfl⟩:=h
  refine ⟨S,[],K,hg,rfl,.refl S,λ _ _ _ _ _ h=>h,λ _ _ _ _ h=>h,?_,.nil⟩
  cases ls' with
  |nil=>rfl
  |cons=>exact hm.elim
 |[],_::_,S,A,ls,ls',us,i,K,hg,_,h,hm=>by simp [Nb] at h
 |(k,t)::ks,[],S,A,ls,ls',us,i,K,hg,_,h,hm=>by cases k<;>simp [Nb] at h
 |(k,t)::ks,r::rs,S,A,ls,ls',us,i,K,hg,hi,h,hm=>by
  simp only [List.length_cons] at hi
  have rest:∀ {l:List Lf} {u:List Up} {ls2:List (List Lf)} {us2:List Up} {S1:Sit} {y:t.den} {v:Value},mkW t l=some y→Ae X S1 a→S1.g=get (ups A u)→S1.w=S.w→Cq S S1→(∀ n q z v,n≠i→Ai X.P S (.tm n q) z v→Ai X.P S1 (.tm n q) z v)→(∀ n q k,n≠i→S.O k = .tm n q→S1.O k = .tm n q)→
    J9 X.P S1 X.w0.heap.size i k (A4 t y) v→(Jb a r).run X.P S.w = .ok v S.w→Nb E (ups A u) ks rs=some (ls2,us2)→(∃ ls2',ls'=A4 t y::ls2'∧Mk (ks.map Prod.snd) ls2 ls2')→us=u++us2→
    ∃ S' vs,Ae X S' a∧S'.g=get (ups A us)∧S'.w=S.w∧Cq S S'∧(∀ n q z v,Kp i n→Ai X.P S (.tm n q) z v→Ai X.P S' (.tm n q) z v)∧(∀ n q k,Kp i n→S.O k = .tm n q→S'.O k = .tm n q)∧Gr X.P S' X.w0.heap.size i ((k,t)::ks) ls' vs∧H5 (λ r v=>(Jb a r).run X.P S.w = .ok v S.w) (r::rs) vs:=by
   intro l u ls2 us2 S1 y v hy K1 g1 w1 L1 t1 o1 hres hrun hr2 hmk hus
   obtain ⟨ls2',rfl,hmk⟩:=hmk
   subst hus
   obtain ⟨S',vs,K',g',w',L',t',o',hall,hruns⟩:=Cna hE hb0 ks rs (i+1) K1 g1 (by omega) hr2 hmk
   have hk1:∀ n,Kp i n→Kp (i+1) n∧n≠i:=λ n h=>by unfold Kp at *; omega
   refine ⟨S',v::vs,K',by rw [Ad]; exact g',w'.trans w1,L1.trans L',λ n q z v hn hz=>t' n q z v (hk1 n hn).1 (t1 n q z v (hk1 n hn).2 hz),λ n q k hn hk=>o' n q k (hk1 n hn).1 (o1 n q k (hk1 n hn).2 hk),⟨hres.keep w' (λ q z v=>t' i q z v (by unfold Kp; omega)) (λ q k=>o' _ q k (by unfold Kp; omega)),hall⟩,.cons hrun ?_⟩
   rw [w1] at hruns
   exact hruns
  cases ls' with
  |nil=>cases ls<;>exact hm.elim
  |cons l' ls2'=>
   cases ls with
   |nil=>exact hm.elim
   |cons l ls2=>
    obtain ⟨⟨y,hy,rfl⟩,hmk⟩:=hm
    cases r with
    |tmp x=>
     have h':(bif Nat.blt x E.nt then (match Tn E.np A k t (.tmp x) (get A x).2 with
      |some (l,u)=>(match Nb E (ups A u) ks rs with
       |some (ls,us)=>some (l::ls,u++us)
       |none=>none)
      |none=>none) else none)=some (l::ls2,us):=by
      unfold Nb at h
      cases k<;>exact h
     cases hx:Nat.blt x E.nt with
     |false=>rw [hx] at h'; simp at h'
     |true=>
      rw [hx,cond_true] at h'
      split at h'
      ·rename_i l1 u1 hr1
       split at h'
       ·rename_i l2 u2 hr2
        simp only [Option.some.injEq,Prod.mk.injEq,List.cons.injEq] at h'
        obtain ⟨⟨rfl,rfl⟩,rfl⟩:=h'
        by_cases hk:k = .ptr
        ·subst hk
         obtain ⟨S1,K1,g1,w1,L1,t1,o1,hres⟩:=Ioa hE K hg hb0 hx i hr1 hy
         exact rest hy K1 g1 w1 L1 (λ n q z v _=>t1 n q z v) (λ n q k _=>o1 n q k) hres rfl hr2 ⟨ls2',rfl,hmk⟩ rfl
        ·obtain ⟨S1,K1,g1,G,vs,e1,e2⟩:=Ina hE K hg hx i hk hr1 hy
         refine rest hy K1 g1 G.w G.later (λ n q z v hn=>G.tms n q z v hn) (λ n q k hn=>G.tm n q k hn) ?_ (v:=a.eval (.tmp x)) rfl hr2 ⟨ls2',rfl,hmk⟩ rfl
         cases k with
         |ptr=>exact absurd rfl hk
         |one=>
          simp only [Mm,Bool.false_eq_true,if_false] at e1 e2
          subst e1
          exact e2
         |agg=>
          simp only [Mm,if_true] at e1 e2
          exact ⟨vs,e1,e2⟩
       ·cases h'
      ·cases h'
    |cell x T=>
     cases k with
     |one=>simp [Nb] at h
     |ptr=>simp [Nb] at h
     |agg=>
      unfold Nb at h
      cases hx:Nat.blt x E.nt with
      |false=>rw [hx] at h; simp at h
      |true=>
       cases hT:E.ti T with
       |none=>rw [hT] at h; simp at h
       |some ti=>
        cases hag:ti.ag&&Nat.beq ti.ty.sz t.sz with
        |false=>rw [hT,hx] at h; simp [hag] at h
        |true=>
         rw [hT,hx] at h
         simp only [hag,Bool.and_self,cond_true] at h
         simp only [Bool.and_eq_true] at hag
         split at h
         ·rename_i l1 u1 hr1
          split at h
          ·rename_i l2 u2 hr2
           simp only [Option.some.injEq,Prod.mk.injEq,List.cons.injEq] at h
           obtain ⟨⟨rfl,rfl⟩,rfl⟩:=h
           obtain ⟨S1,K1,g1,G,vs,hrun,e2⟩:=Fua hE K hg hx hT hag.1 (Nat.eq_of_beq_eq_true hag.2) i hr1 hy
           exact rest hy K1 g1 G.w G.later (λ n q z v hn=>G.tms n q z v hn) (λ n q k hn=>G.tm n q k hn) ⟨vs,rfl,e2⟩ hrun hr2 ⟨ls2',rfl,hmk⟩ rfl
          ·cases h
         ·cases h
def szs:List Par→Bool
 |[]=>true
 |.ptr t t'::ps=>Nat.beq t.sz t'.sz&&szs ps
 |.hid t t'::ps=>Nat.beq t.sz t'.sz&&szs ps
 |_::ps=>szs ps
theorem Kia {X:Cx} {i n:Nat} (hn:X.np≤1000) (h:i<n) (h2:n - X.np<500):X.pb (bid X.np i):=by
 unfold Cx.pb bid
 cases h3:Nat.blt i X.np with
 |true=>
  have h1:i<X.np:=Nat.le_of_ble_eq_true h3
  rw [cond_true]
  omega
 |false=>rw [cond_false]; omega
theorem Ua (hE:Gj X E) (hnp:X.np≤1000) (hu:∀ k b,X.O0 k = .bx b→∀ k',X.O0 k' = .bx b→k'=k) {hs:List Value}:∀ (ps:List Par) {S:Sit} {A:Ab} {ls ls' la:List (List Lf)} {us:List Value} (i:Nat),Ae X S a→S.g=get A→i+ps.length - X.np<500→szs ps=true→Eya X.np A i ps=some ls→Mk (Gu ps) ls ls'→
  I7 X.P (bare X.O0 X.w0) X.rg X.np hs i ps la us→
  ∃ S',Ae X S' a∧S'.w=S.w∧Cq S S'∧(∀ n q z v,n<1001+i→Ai X.P S (.tm n q) z v→Ai X.P S' (.tm n q) z v)∧(∀ n q k,n<1001+i→S.O k = .tm n q→S'.O k = .tm n q)∧Hv X.P S' i ps us ls'
 |[],S,A,ls,ls',la,us,i,K,hg,hn,hz,h,hm,ha=>by
  refine ⟨S,K,rfl,.refl S,λ _ _ _ _ _ h=>h,λ _ _ _ _ h=>h,?_⟩
  simp only [Eya,Option.some.injEq] at h
  subst h
  cases ls' with
  |nil=>rfl
  |cons=>exact hm.elim
 |p::ps,S,A,ls,ls',la,us,i,K,hg,hn,hz,h,hm,ha=>by
  cases la with
  |nil=>exact ha.elim
  |cons l0 la=>
   cases us with
   |nil=>exact ha.elim
   |cons u us=>
    simp only [List.length_cons] at hn
    obtain ⟨ha1,ha2⟩:=ha
    have skip:szs ps=true→Eya X.np A (i+1) ps=some ls→Mk (Gu ps) ls ls'→(∀ {S':Sit},Hv X.P S' (i+1) ps us ls'→Hv X.P S' i (p::ps) (u::us) ls')→
      ∃ S',Ae X S' a∧S'.w=S.w∧Cq S S'∧(∀ n q z v,n<1001+i→Ai X.P S (.tm n q) z v→Ai X.P S' (.tm n q) z v)∧(∀ n q k,n<1001+i→S.O k = .tm n q→S'.O k = .tm n q)∧Hv X.P S' i (p::ps) (u::us) ls':=by
     intro hz h hm hb
     obtain ⟨S',K',w',L',t',o',b'⟩:=Ua hE hnp hu ps (i+1) K hg (by omega) hz h hm ha2
     exact ⟨S',K',w',L',λ n q z v hn=>t' n q z v (by omega),λ n q k hn=>o' n q k (by omega),hb b'⟩
    have box:∀ {t t':Ty},(Nat.beq t.sz t'.sz&&szs ps)=true→Pd X.P (bare X.O0 X.w0) X.rg (bid X.np i) t l0 u→(match Hva A (bid X.np i) t' with
      |some (l,us)=>(match Eya X.np (ups A us) (i+1) ps with
       |some ls=>some (l::ls)
       |none=>none)
      |none=>none)=some ls→Mk (t'::Gu ps) ls ls'→(∀ {S':Sit} {l':List Lf} {ls2:List (List Lf)},ls'=l'::ls2→Pe X.P S' i t' l' u→Hv X.P S' (i+1) ps us ls2→Hv X.P S' i (p::ps) (u::us) ls')→
      ∃ S',Ae X S' a∧S'.w=S.w∧Cq S S'∧(∀ n q z v,n<1001+i→Ai X.P S (.tm n q) z v→Ai X.P S' (.tm n q) z v)∧(∀ n q k,n<1001+i→S.O k = .tm n q→S'.O k = .tm n q)∧Hv X.P S' i (p::ps) (u::us) ls':=by
     intro t t' hz ha1 h hm hb
     simp only [Bool.and_eq_true] at hz
     have hsz:t.sz=t'.sz:=Nat.eq_of_beq_eq_true hz.1
     split at h
     ·rename_i l1 us1 hgive
      split at h
      ·rename_i ls2 h2
       cases h
       cases ls' with
       |nil=>exact hm.elim
       |cons l' ls2'=>
        obtain ⟨⟨y,hy,rfl⟩,hmk⟩:=hm
        obtain ⟨g1,g2,_,_,g5,S1,K1,g6,G,hls⟩:=Mz K hg hgive (1001+i)
        obtain ⟨S2,K2,w2,L2,t2,o2,b2⟩:=Ua hE hnp hu ps (i+1) K1 g6 (by omega) hz.2 h2 hmk ha2
        obtain ⟨hm9,c,e,e1,e2,e3,e4⟩:=K.box _ _ g2
        obtain ⟨r1,r2,_⟩:=K.rgn _ _ g2
        have hpb:X.pb (bid X.np i):=Kia (n:=i+(ps.length+1)) hnp (by omega) hn
        obtain ⟨r3,r4,r5⟩:=r1 (Hca (n:=i+(ps.length+1)) (by omega) hnp hn) (r2 hpb)
        obtain ⟨k,o,c0,e0,vs,rfl,f2,f3,f4,f5,f6,f7,f8,f9⟩:=ha1
        have hk:(S.bb (bid X.np i)).1=k:=hu k _ f3 _ r3
        rw [f4] at r4 r5
        simp only at r4 r5
        have ho:(S.bb (bid X.np i)).2=o:=by omega
        refine ⟨S2,K2,w2.trans G.w,G.later.trans L2,λ n q z v hn hz=>t2 n q z v (by omega) (G.tms n q z v (by omega) hz),λ n q k hn hk=>o2 n q k (by omega) (G.tm n q k (by omega) hk),hb rfl ⟨k,o,c,e,(List.range t'.sz).map (λ j=>S.ph (C (bid X.np i) (0+j))),rfl,?_,Ec t' y,λ j hj=>?_,?_⟩ b2⟩
        ·rw [w2,G.w,← hk]; exact e1
        ·rw [← ho,e4 j hj]
         simp [hj]
        ·exact (Js (Ma hgive) hy hls).impM (λ z hz n u hu=>t2 _ _ z u (by omega) hu)
      ·cases h
     ·cases h
    cases p with
    |val ag t=>exact skip hz h hm (λ h=>h)
    |vw t h0=>exact skip hz h hm (λ h=>h)
    |rd t=>exact skip hz h hm (λ h=>h)
    |fn F m=>exact skip hz h hm (λ h=>h)
    |ptr t t'=>exact box hz ha1.2 h hm (λ e h1 h2=>by subst e; exact ⟨h1,h2⟩)
    |hid t t'=>exact box hz ha1.2 h hm (λ e h1 h2=>by subst e; exact ⟨h1,h2⟩)
end
end

section
attribute [local irreducible] C H
theorem Xb {P:Program} {w:World} {a:Act}:∀ {rv:List ResultVar} {vs:List Value},H5 (λ r v=>(Jb a r).run P w = .ok v w) rv vs→(rv.mapM (Jb a)).run P w = .ok vs w
 |_,_,.nil=>rfl
 |_,_,.cons h hs=>by
  rw [List.mapM_cons]
  simp only [Sem.run_bind,h,Result.andThen_ok,Xb hs,Sem.run_pure]
theorem Ub {P:Program} {w:World} {a:Act} {fn:Func} {vs:List Value} (h:H5 (λ r v=>(Jb a r).run P w = .ok v w) fn.results.toList vs):
  (results fn a.tmps).run P w = .ok (if h:vs.length=1 then vs[0] else .tuple vs.toArray) w:=by
 refine Eq.trans (b:=(do let vs ← fn.results.mapM (Jb a); pure (if h:vs.size=1 then vs[0] else .tuple vs):Sem Value).run P w) ?_ ?_
 ·unfold results
  refine congrArg (λ (f:ResultVar→Sem Value)=>Sem.run P (do let vs ← fn.results.mapM f; pure (if h:vs.size=1 then vs[0] else Value.tuple vs):Sem Value) w) (?_:_=Jb a)
  funext x
  cases x<;>rfl
 rw [Array.mapM_eq_mapM_toList]
 simp only [map_eq_pure_bind,Sem.run_bind,Xb h,Result.andThen_ok,Sem.run_pure]
 simp
theorem Uc:∀ (ts us:List Ty) (x:Den (ts++us)) (ls ls':List (List Lf)),ls.length=ts.length→Mk (ts++us) (ls++ls') (Bj (ts++us) x)→
  Mk ts ls ((Bj (ts++us) x).take ts.length)∧Mk us ls' ((Bj (ts++us) x).drop ts.length)
 |[],us,x,[],ls',_,h=>⟨trivial,h⟩
 |[],us,x,_::_,ls',hl,h=>by simp at hl
 |t::ts,us,x,[],ls',hl,h=>by simp at hl
 |t::ts,us,x,l::ls,ls',hl,h=>by
  have key:∀ (ts us:List Ty) (ls ls' lx:List (List Lf)),ls.length=ts.length→Mk (ts++us) (ls++ls') lx→Mk ts ls (lx.take ts.length)∧Mk us ls' (lx.drop ts.length):=by
   intro ts
   induction ts with
   |nil=>
    intro us ls ls' lx hl h
    cases ls with
    |nil=>exact ⟨trivial,h⟩
    |cons=>simp at hl
   |cons t ts ih=>
    intro us ls ls' lx hl h
    cases ls with
    |nil=>simp at hl
    |cons l ls=>
     cases lx with
     |nil=>exact h.elim
     |cons lx1 lx=>
      obtain ⟨h1,h2⟩:=ih us ls ls' lx (by simpa using hl) h.2
      exact ⟨⟨h.1,h1⟩,h2⟩
  exact key (t::ts) us (l::ls) ls' _ hl h
theorem Qp {E:En}:∀ (rs:List (RK×Ty)) (rv:List ResultVar) (A:Ab) (ls:List (List Lf)) (us:List Up),Nb E A rs rv=some (ls,us)→ls.length=rs.length
 |[],[],A,ls,us,h=>by
  simp only [Nb,Option.some.injEq,Prod.mk.injEq] at h
  obtain ⟨rfl,rfl⟩:=h
  rfl
 |[],_::_,A,ls,us,h=>by simp [Nb] at h
 |(k,t)::ks,[],A,ls,us,h=>by cases k<;>simp [Nb] at h
 |(k,t)::ks,.tmp x::rs,A,ls,us,h=>by
  have h':(bif Nat.blt x E.nt then (match Tn E.np A k t (.tmp x) (get A x).2 with
   |some (l,u)=>(match Nb E (ups A u) ks rs with
    |some (ls,us)=>some (l::ls,u++us)
    |none=>none)
   |none=>none) else none)=some (ls,us):=by
   unfold Nb at h
   cases k<;>exact h
  cases hx:Nat.blt x E.nt with
  |false=>rw [hx] at h'; simp at h'
  |true=>
   rw [hx,cond_true] at h'
   split at h'
   ·split at h'
    ·rename_i hr
     simp only [Option.some.injEq,Prod.mk.injEq] at h'
     obtain ⟨rfl,rfl⟩:=h'
     simp [Qp ks rs _ _ _ hr]
    ·cases h'
   ·cases h'
 |(.agg,t)::ks,.cell x T::rs,A,ls,us,h=>by
  unfold Nb at h
  generalize (Nat.blt x E.nt&&(match E.ti T with|some ti=>ti.ag&&Nat.beq ti.ty.sz t.sz|none=>false))=bb at h
  cases bb with
  |false=>simp at h
  |true=>
   rw [cond_true] at h
   split at h
   ·split at h
    ·rename_i hr
     simp only [Option.some.injEq,Prod.mk.injEq] at h
     obtain ⟨rfl,rfl⟩:=h
     simp [Qp ks rs _ _ _ hr]
    ·cases h
   ·cases h
 |(.one,t)::ks,.cell x T::rs,A,ls,us,h=>by simp [Nb] at h
 |(.ptr,t)::ks,.cell x T::rs,A,ls,us,h=>by simp [Nb] at h
theorem Fk.of {P:Program} {S:Sit} {n0:Nat} {rs:List (RK×Ty)} {ls:List (List Lf)} {vs:List Value} (h:Gr P S n0 1 rs ls vs) (ll:List (List Lf)):Fk P S n0 rs (ls++ll) (if h:vs.length=1 then vs[0] else .tuple vs.toArray):=by
 have len:∀ (rs:List (RK×Ty)) (i:Nat) (ls:List (List Lf)) (vs:List Value),Gr P S n0 i rs ls vs→vs.length=rs.length:=by
  intro rs
  induction rs with
  |nil=>intro i ls vs h; (have:vs=[]:=by (cases ls<;>exact h)); subst this; rfl
  |cons r rs ih=>
   intro i ls vs h
   cases ls with
   |nil=>exact h.elim
   |cons l ls=>
    cases vs with
    |nil=>exact h.elim
    |cons v vs=>simp [ih _ _ _ h.2]
 have ext:∀ (rs:List (RK×Ty)) (i:Nat) (ls:List (List Lf)) (vs:List Value),Gr P S n0 i rs ls vs→Gr P S n0 i rs (ls++ll) vs:=by
  intro rs
  induction rs with
  |nil=>intro i ls vs h; (have:vs=[]:=by (cases ls<;>exact h)); subst this; cases (ls++ll)<;>rfl
  |cons r rs ih=>
   intro i ls vs h
   cases ls with
   |nil=>exact h.elim
   |cons l ls=>
    cases vs with
    |nil=>exact h.elim
    |cons v vs=>exact ⟨h.1,ih _ _ _ h.2⟩
 have hl:=len rs 1 ls vs h
 have he:=ext rs 1 ls vs h
 unfold Fk
 split
 ·rename_i r
  have h1:vs.length=1:=hl
  obtain ⟨v,rfl⟩:=List.length_eq_one_iff.1 h1
  cases ls with
  |nil=>exact h.elim
  |cons l ls=>exact ⟨l,ls++ll,rfl,h.1⟩
 ·rename_i hne
  refine ⟨vs,?_,he⟩
  rw [dif_neg]
  intro h1
  rw [hl] at h1
  obtain ⟨r,hr⟩:=List.length_eq_one_iff.1 h1
  exact hne r hr
def Ud (en:Ent):Bool:=H7 en.nv 0 en.ps&&szs en.ps&&Nat.blt (en.ps.length - en.nv) 500&&Nat.blt en.rs.length 400
theorem Zx {P:Program} {f:FuncId} {fn:Func} {c:Code} {en:Ent} {E:En} (hf:P.funcs[f]? = some fn) (hb:fn.body=some c) (hnt:fn.ntmps≤1000) (hps:en.nv≤fn.ntmps)
  (hV:∀ X:Cx,X.P=P→X.nt=fn.ntmps→X.np=en.nv→Nu X E) (hD:∀ X:Cx,X.P=P→X.nt=fn.ntmps→X.np=en.nv→Se X E) (hL:∀ X:Cx,X.P=P→X.nt=fn.ntmps→X.np=en.nv→Hm X E c)
  (hpl:Ud en=true) (heq:∀ x,H4a E c fn.results.toList en x=en.run x):Ica P f en:=by
 intro x r hr w O rg us hlt hbx hargs
 rw [← heq] at hr
 unfold Ud at hpl
 simp only [Bool.and_eq_true] at hpl
 obtain ⟨⟨⟨hp1,hp2⟩,hp3⟩,hp4⟩:=hpl
 have hp3:en.ps.length - en.nv<500:=Nat.le_of_ble_eq_true hp3
 have hp4:en.rs.length<400:=Nat.le_of_ble_eq_true hp4
 let X:Cx:=⟨P,O,w,rg,fn.ntmps,en.nv⟩
 have hsol:=Ga (en.ps.map Par.ty) x
 have K0:Ae X (S0 en.nv en.ps (Bj _ x) us O w) ⟨(us.take en.nv).toArray++Array.replicate (fn.ntmps - (us.take en.nv).toArray.size) undef,[]⟩:=
  Fta hnt hlt (λ k b h=>(hbx k b h).2.1) hargs hsol hps hp1 hp3
 refine calls_of_wp hf hb ?_
 refine Sg (X:=X) (S:=S0 en.nv en.ps (Bj _ x) us O w) (hV X rfl rfl rfl) (hD X rfl rfl rfl) c (hL X rfl rfl rfl) K0 rfl hr ?_
 intro e S a A K hg h
 have hE:=(hV X rfl rfl rfl).en
 have hb0:∀ k b,O k = .bx b→b<en.nv∨1500≤b:=λ k b hk=>by
  obtain ⟨i,h1,h2⟩:=(hbx k b hk).1
  subst h2
  unfold bid
  cases h3:Nat.blt i en.nv with
  |true=>exact .inl (Nat.le_of_ble_eq_true h3)
  |false=>rw [cond_false]; exact .inr (by omega)
 have fin:Id E (E.gh 1000000) A (λ A=>match Nb E A en.rs fn.results.toList with
   |some (ls,us)=>(match Eya en.nv (ups A us) 0 en.ps with
    |some bs=>Lv (en.rs.map Prod.snd++Gu en.ps) (ls++bs)
    |none=>none)
   |none=>none)=some r→bodyPost P fn (λ e w'=>∃ v O',e = .returned v∧Fr O w rg O' w'∧(∀ k,O' k ≠ .no→k<w'.heap.size)∧Fk P (bare O' w') w.heap.size en.rs (Bj _ r) v∧Hv P (bare O' w') 0 en.ps us ((Bj _ r).drop en.rs.length)) .ret a S.w:=by
  intro h
  obtain ⟨A,S0',h,K,hg,w0'⟩:=I5 hE _ K hg h
  rw [← w0']
  split at h
  ·rename_i ls1 us1 h1
   split at h
   ·rename_i bs h2
    have hmk:=N2 _ _ _ h
    have hlen:=Qp _ _ _ _ _ h1
    obtain ⟨m1,m2⟩:=Uc (en.rs.map Prod.snd) (Gu en.ps) r ls1 bs (by simpa using hlen) hmk
    rw [List.length_map] at m1 m2
    obtain ⟨S1,vs,K1,g1,w1,L1,_,_,hall,hruns⟩:=Cna hE hb0 en.rs fn.results.toList 1 K hg (by omega) h1 m1
    obtain ⟨S2,K2,w2,L2,t2,o2,hback⟩:=Ua hE (show en.nv≤1000 by omega) (λ k b hk=>(hbx k b hk).2.2) en.ps 0 K1 g1 (by show 0+en.ps.length - en.nv<500; omega) hp2 h2 m2 hargs
    have hsolr:=Ga _ r
    have hall2:Gr P (bare S2.O S2.w) w.heap.size 1 en.rs ((Bj _ r).take en.rs.length) vs:=by
     have key:∀ (rs:List (RK×Ty)) (i:Nat) (ls:List (List Lf)) (us:List Value),i+rs.length<500→(∀ l∈ls,∀ y∈l,F8 y=true)→Gr P S1 w.heap.size i rs ls us→Gr P (bare S2.O S2.w) w.heap.size i rs ls us:=by
      intro rs
      induction rs with
      |nil=>intro i ls us _ _ h; exact h
      |cons r rs ih=>
       intro i ls us hi hs h
       simp only [List.length_cons] at hi
       cases ls with
       |nil=>exact h.elim
       |cons l ls=>
        cases us with
        |nil=>exact h.elim
        |cons u us=>
         refine ⟨?_,ih (i+1) ls us (by omega) (λ l hl=>hs l (List.mem_cons_of_mem _ hl)) h.2⟩
         have hl:∀ q z v,F8 z=true→Ai P S1 (.tm i q) z v→Ai P (bare S2.O S2.w) (.tm i q) z v:=λ q z v hz hv=>Ai.bare (S1:=S2) hz rfl (λ k hk=>hk) (λ k hk=>hk) (t2 i q z v (by omega) hv)
         have h1:=h.1
         generalize r.1=k at h1 ⊢
         cases k with
         |one=>exact A5.impM (λ x hx n u h=>hl _ _ u (hs l (by simp) x hx) h) h1
         |agg=>
          obtain ⟨us,e,h⟩:=h1
          exact ⟨us,e,h.impM (λ x hx n u h=>hl _ _ u (hs l (by simp) x hx) h)⟩
         |ptr=>
          obtain ⟨k,o,c,e,us,h1,h2,h3,h4,h5,h6,h7,h8⟩:=h1
          exact ⟨k,o,c,e,us,h1,by show S2.w.heap[k]? = _; rw [w2]; exact h2,h3,o2 _ _ _ (by omega) h4,h5,h6,h7,h8.impM (λ x hx n u h=>hl _ _ u (hs l (by simp) x hx) h)⟩
     exact key _ _ _ _ (by omega) (λ l hl=>hsolr l (List.mem_of_mem_take hl)) hall
    have hback2:Hv P (bare S2.O S2.w) 0 en.ps us ((Bj _ r).drop en.rs.length):=by
     have one:∀ {i:Nat} {t':Ty} {l:List Lf} {u:Value},(∀ y∈l,F8 y=true)→Pe P S2 i t' l u→Pe P (bare S2.O S2.w) i t' l u:=by
      rintro i t' l u hs ⟨k,o,c,e,vs,q1,q2,q3,q4,q5⟩
      exact ⟨k,o,c,e,vs,q1,q2,q3,q4,q5.impM (λ y hy n u hu=>Ai.bare (S1:=S2) (hs y hy) rfl (λ k hk=>hk) (λ k hk=>hk) hu)⟩
     have key:∀ (ps:List Par) (i:Nat) (us:List Value) (ls:List (List Lf)),(∀ l∈ls,∀ y∈l,F8 y=true)→Hv P S2 i ps us ls→Hv P (bare S2.O S2.w) i ps us ls:=by
      intro ps
      induction ps with
      |nil=>intro i us ls _ h; exact h
      |cons p ps ih=>
       intro i us ls hs h
       cases p<;>cases us<;>first|exact h.elim|skip
       all_goals first|exact ih _ _ _ hs h|skip
       all_goals
        cases ls with
        |nil=>exact h.elim
        |cons l ls=>exact ⟨one (hs l (by simp)) h.1,ih _ _ _ (λ l hl=>hs l (List.mem_cons_of_mem _ hl)) h.2⟩
     exact key _ _ _ _ (λ l hl=>hsolr l (List.mem_of_mem_drop hl)) hback
    have hres:=Fk.of hall2 ((Bj _ r).drop en.rs.length)
    rw [List.take_append_drop] at hres
    have hw:S2.w=S0'.w:=w2.trans w1
    rw [hw] at hres hback2
    refine ⟨K.df,_,Ub hruns,_,S2.O,rfl,?_,?_,hres,hback2⟩
    ·rw [← hw]; exact K2.fr
    ·rw [← hw]; exact K2.lt
   ·cases h
  ·cases h
 cases e with
 |exit i=>cases h
 |normal=>exact fin h
 |ret=>exact fin h
end

section
attribute [local irreducible] C H
def Ag (A A':Ab) (F:List Nat):Prop:=∀ p∈F,get A' p=get A p
def RB (A:Ab) (F:List Nat) (b lo:Nat):Prop:=H b∈F∧∀ n,(get A (H b)).2 = .one (.hd n)→∀ j,lo≤j→j<n→C b j∈F∧∀ p v,(get A (C b j)).2 = .one (.al p v)→p∈F
def RL (A:Ab) (F:List Nat):Lf→Prop
 |.al p _=>p∈F
 |.ep p _ _ _=>p∈F
 |.da p _ _ _ _ _=>p∈F
 |.dp p _ _ _ _ _ _ _=>p∈F
 |.bp b _ off=>RB A F b off
 |.fn _ bs=>∀ c∈bs,RB A F c.1 0
 |_=>True
def RX (A:Ab) (F:List Nat):Operand→Prop
 |.tmp t=>t∈F∧∀ y∈parts (get A t).2,RL A F y
 |_=>True
def Jc (u:Up):Prop:=u.s = .one .dead∨∃ e r,∃ xs:List (Ty.den r),u.s = .one (.fz e r xs)
section
variable {E:En} {A A':Ab} {F:List Nat} {o:Oper} {R:Type} {Kc:List Up→Option R} {r:R}
theorem Coa {b:Nat}:∀ {n j:Nat},(∀ p∈rdC A b j n,p∈F)→∀ i,i<n→C b (j+i)∈F∧∀ p v,(get A (C b (j+i))).2 = .one (.al p v)→p∈F
 |0,j,h,i,hi=>by omega
 |n+1,j,h,i,hi=>by
  unfold rdC at h
  cases i with
  |zero=>
   refine ⟨h _ (by simp),λ p v hp=>h p ?_⟩
   rw [Nat.add_zero] at hp
   rw [hp]
   simp
  |succ i=>
   rw [show j+(i+1)=j+1+i by omega]
   exact Coa (n:=n) (j:=j+1) (λ p hp=>h p (List.mem_cons_of_mem _ (List.mem_append_right _ hp))) i (by omega)
theorem Cpa {b lo:Nat} (h:∀ p∈H b::(match (get A (H b)).2 with | .one (.hd n)=>rdC A b lo (n - lo)|_=>[]),p∈F):RB A F b lo:=by
 refine ⟨h _ (by simp),λ n hn j hl hj=>?_⟩
 rw [hn] at h
 have:=Coa (A:=A) (F:=F) (b:=b) (n:=n - lo) (j:=lo) (λ p hp=>h p (List.mem_cons_of_mem _ hp)) (j - lo) (by omega)
 rwa [show lo+(j - lo)=j by omega] at this
theorem Kja {y:Lf} (h:∀ p∈rdL A y,p∈F):RL A F y:=by
 cases y with
 |al p v=>exact h p (by simp [rdL])
 |ep p v i off=>exact h p (by simp [rdL])
 |da p v pi e r xs=>exact h p (by simp [rdL])
 |dp p v pi e r xs i off=>exact h p (by simp [rdL])
 |bp b v off=>exact Cpa h
 |fn f bs=>exact λ c hc=>Cpa (lo:=0) λ p hp=>h p (List.mem_flatMap.2 ⟨c,hc,hp⟩)
 |_=>trivial
theorem Cqa:∀ {l:List Lf},(∀ p∈L8a A l,p∈F)→∀ y∈l,RL A F y
 |[],_,y,hy=>by simp at hy
 |z::l,h,y,hy=>by
  unfold L8a at h
  rcases List.mem_cons.1 hy with rfl|hy
  ·exact Kja λ p hp=>h p (List.mem_append_left _ hp)
  ·exact Cqa (λ p hp=>h p (List.mem_append_right _ hp)) y hy
theorem Kka {x:Operand} (h:∀ p∈rdO A x,p∈F):RX A F x:=by
 cases x with
 |tmp t=>
  unfold rdO at h
  exact ⟨h t (by simp),Cqa λ p hp=>h p (List.mem_cons_of_mem _ hp)⟩
 |_=>trivial
theorem Ue:∀ {l:List Operand},(∀ p∈H1a A l,p∈F)→∀ x∈l,RX A F x
 |[],_,y,hy=>by simp at hy
 |z::l,h,y,hy=>by
  unfold H1a at h
  rcases List.mem_cons.1 hy with rfl|hy
  ·exact Kka λ p hp=>h p (List.mem_append_left _ hp)
  ·exact Ue (λ p hp=>h p (List.mem_append_right _ hp)) y hy
theorem Nx (A:Ab) (u:Up) (p:Nat):get (up A u) p=if p=u.l then ((bif u.keep then (get A u.l).1 else (get A u.l).1+1),u.s) else get A p:=by
 rw [Hp]
 unfold upd
 rfl
theorem Ag.up (h:Ag A A' F) (u:Up):Ag (up A u) (up A' u) F:=by
 intro p hp
 rw [Nx,Nx]
 by_cases e:p=u.l
 ·subst e
  rw [if_pos rfl,if_pos rfl,h _ hp]
 ·rw [if_neg e,if_neg e,h _ hp]
theorem Ag.ups:∀ {U:List Up} {A A':Ab},Ag A A' F→Ag (ups A U) (ups A' U) F
 |[],_,_,h=>h
 |u::U,_,_,h=>Ag.ups (U:=U) (h.up u)
theorem RB.up {b lo:Nat} (h:RB A F b lo) {u:Up} (hu:Jc u):RB (Vf.up A u) F b lo:=by
 have key:∀ q,(get (Vf.up A u) q).2=(get A q).2∨(get (Vf.up A u) q).2=u.s:=by
  intro q
  rw [Nx]
  by_cases e:q=u.l
  ·rw [if_pos e]; exact .inr rfl
  ·rw [if_neg e]; exact .inl rfl
 refine ⟨h.1,λ n hn j hlo hj=>?_⟩
 have hn':(get A (H b)).2 = .one (.hd n):=by
  rcases key (H b) with k|k
  ·rw [← k]; exact hn
  ·rw [k] at hn
   rcases hu with hu|⟨e,r,xs,hu⟩<;>rw [hu] at hn<;>cases hn
 obtain ⟨h1,h2⟩:=h.2 n hn' j hlo hj
 refine ⟨h1,λ p v hp=>?_⟩
 rcases key (C b j) with k|k
 ·exact h2 p v (by rw [← k]; exact hp)
 ·rw [k] at hp
  rcases hu with hu|⟨e,r,xs,hu⟩<;>rw [hu] at hp<;>cases hp
theorem RB.ups {b lo:Nat}:∀ {U:List Up} {A:Ab},RB A F b lo→(∀ u∈U,Jc u)→RB (Vf.ups A U) F b lo
 |[],_,h,_=>h
 |u::U,_,h,hu=>RB.ups (U:=U) (h.up (hu u (by simp))) (λ v hv=>hu v (List.mem_cons_of_mem _ hv))
theorem RL.up {y:Lf} (h:RL A F y) {u:Up} (hu:Jc u):RL (Vf.up A u) F y:=by
 cases y with
 |al p v=>exact h
 |ep p v i off=>exact h
 |da p v pi e r xs=>exact h
 |dp p v pi e r xs i off=>exact h
 |bp b v off=>exact RB.up h hu
 |fn f bs=>exact λ c hc=>(h c hc).up hu
 |_=>trivial
theorem RX.up {x:Operand} (h:RX A F x) {u:Up} (hu:Jc u):RX (Vf.up A u) F x:=by
 cases x with
 |tmp t=>
  refine ⟨h.1,λ y hy=>?_⟩
  rw [Nx] at hy
  by_cases e:t=u.l
  ·rw [if_pos e] at hy
   rcases hu with hu|⟨e',r,xs,hu⟩
   ·rw [hu] at hy
    simp only [parts,List.mem_singleton] at hy
    subst hy
    trivial
   ·rw [hu] at hy
    simp only [parts,List.mem_singleton] at hy
    subst hy
    trivial
  ·rw [if_neg e] at hy
   exact (h.2 y hy).up hu
 |_=>trivial
theorem RX.ups {x:Operand}:∀ {U:List Up} {A:Ab},RX A F x→(∀ u∈U,Jc u)→RX (Vf.ups A U) F x
 |[],_,h,_=>h
 |u::U,_,h,hu=>RX.ups (U:=U) (h.up (hu u (by simp))) (λ v hv=>hu v (List.mem_cons_of_mem _ hv))
theorem Af {x:Operand} {T:TypeId} (h:Ag A A' F) (hx:RX A F x):opT E T A' x=opT E T A x:=by
 cases x with
 |tmp t=>show (bif Nat.blt t E.nt then some (get A' t).2 else none)=(bif Nat.blt t E.nt then some (get A t).2 else none); rw [h t hx.1]
 |const v=>
  unfold opT
  cases v<;>first|rfl|skip
  rename_i a b c
  cases a<;>cases b<;>cases c<;>rfl
 |func f=>rfl
 |global g=>rfl
theorem Jd {x:Operand} {T:TypeId} {s:Sv} (hx:RX A F x) (h:opT E T A x=some s):∀ y∈parts s,RL A F y:=by
 unfold opT at h
 split at h
 ·rename_i t
  cases hb:Nat.blt t E.nt with
  |false=>simp [hb] at h
  |true=>
   simp only [hb,cond_true,Option.some.injEq] at h
   rw [← h]
   exact hx.2
 ·split at h
  ·simp only [Option.some.injEq] at h
   subst h
   intro y hy
   simp only [parts,List.mem_singleton] at hy
   subst hy
   trivial
  ·cases h
 ·rename_i v _
  cases hs:V9 v with
  |false=>simp [hs] at h
  |true=>
   simp only [hs,cond_true,Option.some.injEq] at h
   subst h
   intro y hy
   simp only [parts,List.mem_singleton] at hy
   subst hy
   trivial
 ·simp only [Option.some.injEq] at h
  subst h
  intro y hy
  simp only [parts,List.mem_singleton] at hy
  subst hy
  trivial
 ·cases h
theorem Ek {x:Operand} {T:TypeId} {y:Lf} (hx:RX A F x) (h:opT E T A x=some (.one y)):RL A F y:=Jd hx h y (by simp [parts])
def AL (F:List Nat):Lf→Prop
 |.al p _=>p∈F
 |_=>True
theorem RL.al {y:Lf} (h:RL A F y):AL F y:=by
 cases y<;>first|trivial|exact h
theorem Da {y:Lf} (h:Ag A A' F) (hy:AL F y):Gp A' y=Gp A y:=by
 cases y with
 |al p v=>simp only [Gp]; rw [h p hy]
 |_=>rfl
theorem Cra {y:Lf} (h:Ag A A' F) (hy:RL A F y):P5 A' y=P5 A y:=by
 cases y with
 |da p v pi e r xs=>simp only [P5]; rw [h p hy]
 |_=>exact Da h hy.al
theorem Fva (h:Ag A A' F) {l:List Lf} (hy:∀ y∈l,RL A F y):l.map (λ y=>Hh (P5 A' y))=l.map (λ y=>Hh (P5 A y)):=List.map_congr_left λ y hm=>by rw [Cra h (hy y hm)]
theorem Xc {y:Lf} (h:Ag A A' F) (hy:RL A F y):Tf A' y=Tf A y:=by
 cases y with
 |da p v pi e r xs=>simp only [Tf]; rw [h p hy]
 |_=>simp only [Tf,Da h hy.al]
theorem Ny:∀ {l:List Lf} {A A':Ab},Ag A A' F→(∀ y∈l,AL F y)→Gq A' l=Gq A l
 |[],_,_,_,_=>rfl
 |y::l,A,A',h,hy=>by
  have h1:AL F y:=hy y (by simp)
  have h2:∀ z∈l,AL F z:=λ z hz=>hy z (List.mem_cons_of_mem _ hz)
  cases y with
  |al p v=>
   unfold Gq
   rw [Da h h1,Ny (h.up ⟨p,false,.one .dead⟩) h2]
  |_=>simp only [Gq,Ny h h2]
theorem Csa {x:Operand} {s:Sv} (h:Ag A A' F) (hy:∀ y∈parts s,AL F y):Ava A' x s=Ava A x s:=by
 unfold Ava
 rw [Ny (h.ups (U:=gone x s)) hy]
theorem Uf {y:Lf} (h:Ag A A' F) (hy:AL F y):Fy A' y=Fy A y:=by
 cases y with
 |al p v=>show Hh (Gp A' (.al p v))=Hh (Gp A (.al p v)); rw [Da h hy]
 |_=>rfl
theorem Ug {y:Lf} (h:Ag A A' F) (hy:AL F y):Mu A' y=Mu A y:=by
 cases y with
 |al p v=>simp only [Mu]; rw [h p hy]
 |_=>rfl
theorem Jt (h:Ag A A' F):∀ {l:List Lf},(∀ y∈l,AL F y)→Fv A' l=Fv A l
 |[],_=>rfl
 |y::l,hy=>by
  unfold Fv
  rw [Ug h (hy y (by simp)),Jt h (λ z hz=>hy z (List.mem_cons_of_mem _ hz))]
theorem Lj (h:Ag A A' F) {l:List Lf} (hy:∀ y∈l,AL F y):l.map (Fy A')=l.map (Fy A):=List.map_congr_left λ y hm=>Uf h (hy y hm)
theorem Xd (h:Ag A A' F) {l:List Lf} (hy:∀ y∈l,AL F y):l.map (λ y=>Hh (Fy A' y))=l.map (λ y=>Hh (Fy A y)):=List.map_congr_left λ y hm=>by rw [Uf h (hy y hm)]
theorem Qq {y:Lf} (h:Ag A A' F) (hy:RL A F y):Kw A' y=Kw A y:=by
 cases y with
 |bp b v n=>show Nat.beq (get A' (H b)).1 v=Nat.beq (get A (H b)).1 v; rw [h _ hy.1]
 |ep p v i n=>simp only [Kw]; rw [h p hy]
 |dp p v pi e r xs i n=>show Nat.beq (get A' p).1 v=Nat.beq (get A p).1 v; rw [h p hy]
 |_=>rfl
theorem Me (h:Ag A A' F) {b:Nat}:∀ {n j:Nat},(∀ i,i<n→C b (j+i)∈F)→cellsOf A' b j n=cellsOf A b j n
 |0,_,_=>rfl
 |n+1,j,hc=>by
  unfold cellsOf
  rw [h (C b j) (by simpa using hc 0 (by omega)),Me h (λ i hi=>by have:=hc (i+1) (by omega); rwa [show j+(i+1)=j+1+i by omega] at this)]
theorem Pl {b:Nat}:∀ {n j:Nat},(∀ i,i<n→C b (j+i)∈F∧∀ p v,(get A (C b (j+i))).2 = .one (.al p v)→p∈F)→∀ y∈cellsOf A b j n,AL F y
 |0,_,_,y,hy=>by simp [cellsOf] at hy
 |n+1,j,hc,y,hy=>by
  unfold cellsOf at hy
  rcases List.mem_cons.1 hy with hy|hy
  ·obtain ⟨c1,c2⟩:=hc 0 (by omega)
   rw [Nat.add_zero] at c1 c2
   split at hy
   ·subst hy; exact c1
   ·subst hy; exact c1
   ·rename_i hp
    subst hy
    cases y with
    |al p v=>exact c2 p v (by rw [hp])
    |_=>trivial
   ·subst hy; trivial
  ·refine Pl (n:=n) (j:=j+1) (λ i hi=>?_) y hy
   have:=hc (i+1) (by omega)
   rwa [show j+(i+1)=j+1+i by omega] at this
end
end

section
attribute [local irreducible] C H
def Loc {R:Type} (E:En) (o:Oper) (A:Ab) (F:List Nat) (Kc:List Up→Option R) (r:R):Prop:=
 ∃ U,Kc U=some r∧∀ A',Ag A A' F→∀ {R':Type} (K':List Up→Option R'),Aa E o A' K'=K' U
section
variable {E:En} {A A':Ab} {F:List Nat} {o:Oper} {R:Type} {Kc:List Up→Option R} {r:R}
theorem Zy {op:BinOp} {k:IntKind} {x y:Int} {Kv:Value→Option R} (h:Ml op k x y Kv=some r):∃ v,Kv v=some r∧∀ {R':Type} (K':Value→Option R'),Ml op k x y K'=K' v:=by
 cases op
 case quo=>
  simp only [Ml] at h ⊢
  cases hy:decide (y=0) with
  |true=>rw [hy] at h; simp at h
  |false=>rw [hy] at h; exact ⟨_,h,λ K'=>rfl⟩
 case rem=>
  simp only [Ml] at h ⊢
  cases hy:decide (y=0) with
  |true=>rw [hy] at h; simp at h
  |false=>rw [hy] at h; exact ⟨_,h,λ K'=>rfl⟩
 all_goals first|exact ⟨_,h,λ K'=>rfl⟩|(simp [Ml] at h; done)
theorem Zz {op:BinOp} {x y:ByteArray} {Kv:Value→Option R} (h:P6 op x y Kv=some r):∃ v,Kv v=some r∧∀ {R':Type} (K':Value→Option R'),P6 op x y K'=K' v:=by
 cases op
 case add=>
  simp only [P6] at h ⊢
  cases hy:Nat.ble (x.size+y.size) 9223372036854775807 with
  |false=>rw [hy] at h; simp at h
  |true=>rw [hy] at h; exact ⟨_,h,λ K'=>rfl⟩
 all_goals first|exact ⟨_,h,λ K'=>rfl⟩|(simp [P6] at h; done)
theorem Ipa {op:BinOp} {t:Option TI} {e:Bool} {x y:Sv} {Kv:Value→Option R} (h:bop op t e x y Kv=some r):∃ v,Kv v=some r∧∀ {R':Type} (K':Value→Option R'),bop op t e x y K'=K' v:=by
 unfold bop at h
 split at h
 ·rename_i k a k' b
  split at h
  ·cases hb:decide (b<0) with
   |true=>rw [hb] at h; simp at h
   |false=>rw [hb] at h; exact ⟨_,h,λ K'=>by unfold bop; simp only [hb,cond_false]⟩
  ·cases hb:decide (b<0) with
   |true=>rw [hb] at h; simp at h
   |false=>rw [hb] at h; exact ⟨_,h,λ K'=>by unfold bop; simp only [hb,cond_false]⟩
  ·rename_i n1 n2
   cases hb:decide (k=k') with
   |false=>rw [hb] at h; simp at h
   |true=>
    rw [hb,cond_true] at h
    obtain ⟨v,h1,h2⟩:=Zy h
    refine ⟨v,h1,λ K'=>?_⟩
    unfold bop
    cases op<;>first|exact (n1 rfl).elim|exact (n2 rfl).elim|(simp only [hb,cond_true]; exact h2 K')
 ·obtain ⟨v,h1,h2⟩:=Zz h
  exact ⟨v,h1,λ K'=>h2 K'⟩
 ·rename_i a b
  split at h
  ·exact ⟨_,h,λ K'=>rfl⟩
  ·exact ⟨_,h,λ K'=>rfl⟩
  ·cases h
 ·rename_i l l'
  cases hb:(e&&Ic l&&Ic l'&&(Hi t l&&Hi t l')) with
  |false=>rw [hb] at h; simp at h
  |true=>
   rw [hb,cond_true] at h
   split at h
   ·split at h
    ·rename_i b he
     exact ⟨_,h,λ K'=>by unfold bop; simp only [hb,cond_true,he]⟩
    ·cases h
   ·split at h
    ·rename_i b he
     exact ⟨_,h,λ K'=>by unfold bop; simp only [hb,cond_true,he]⟩
    ·cases h
   ·cases h
 ·cases h
theorem Iqa {op:UnOp} {x:Sv} {Kv:Value→Option R} (h:uop op x Kv=some r):∃ v,Kv v=some r∧∀ {R':Type} (K':Value→Option R'),uop op x K'=K' v:=by
 unfold uop at h
 split at h
 ·exact ⟨_,h,λ K'=>rfl⟩
 ·exact ⟨_,h,λ K'=>rfl⟩
 ·exact ⟨_,h,λ K'=>rfl⟩
 ·cases h
theorem Fwa {t t':Option TI} {x:Sv} {Kv:Sv→Option R} (h:conv t t' x Kv=some r):∃ v,Kv v=some r∧∀ {R':Type} (K':Sv→Option R'),conv t t' x K'=K' v:=by
 unfold conv at h
 split at h
 ·exact ⟨_,h,λ K'=>rfl⟩
 ·exact ⟨_,h,λ K'=>rfl⟩
 ·rename_i e _ _ _ _ e' xs
  cases hb:Nat.beq e e' with
  |false=>rw [hb] at h; simp at h
  |true=>rw [hb] at h; exact ⟨_,h,λ K'=>by unfold conv; simp only [hb,cond_true]⟩
 ·rename_i e _ _ _ _ e' xs
  cases hb:Nat.beq e e' with
  |false=>rw [hb] at h; simp at h
  |true=>rw [hb] at h; exact ⟨_,h,λ K'=>by unfold conv; simp only [hb,cond_true]⟩
 ·rename_i s
  cases hb:Nat.ble s.size 140737488355328 with
  |false=>rw [hb] at h; simp at h
  |true=>rw [hb] at h; exact ⟨_,h,λ K'=>by unfold conv; simp only [hb,cond_true]⟩
 ·cases h
theorem Pm {mx:Bool}:∀ {l:List Sv} {k:IntKind} {x:Int} {Kv:Value→Option R},Jy mx l k x Kv=some r→∃ v,Kv v=some r∧∀ {R':Type} (K':Value→Option R'),Jy mx l k x K'=K' v:=by
 intro l
 induction l with
 |nil=>intro k x Kv h; exact ⟨_,h,λ K'=>rfl⟩
 |cons s l ih=>
  intro k x Kv h
  unfold Jy at h
  split at h
  ·rename_i heq; cases heq
  ·rename_i k0 x0 K0 l9 k9 x9 K9 k' y l0 heq
   cases heq
   cases hb:decide (k0=k') with
   |false=>rw [hb] at h; simp at h
   |true=>
    rw [hb,cond_true] at h
    obtain ⟨v,h1,h2⟩:=ih h
    exact ⟨v,h1,λ K'=>by conv => { lhs; unfold Jy }; simp only [hb,cond_true]; exact h2 K'⟩
  ·cases h
theorem Ht {lo hi:Option Int} {n:Nat} {Kv:Unit→Option R} (h:Ta lo hi n Kv=some r):Kv ()=some r∧∀ {R':Type} (K':Unit→Option R'),Ta lo hi n K'=K' ():=by
 unfold Ta at h
 split at h
 ·exact ⟨h,λ K'=>rfl⟩
 ·rename_i l
  cases h1:decide (0≤l) with
  |false=>rw [h1] at h; simp at h
  |true=>
   rw [h1,cond_true] at h
   cases h2:decide (l≤(n:Int)) with
   |false=>rw [h2] at h; simp at h
   |true=>rw [h2,cond_true] at h; exact ⟨h,λ K'=>by unfold Ta; simp only [h1,h2,cond_true]⟩
 ·rename_i l
  cases h1:decide (0≤l) with
  |false=>rw [h1] at h; simp at h
  |true=>
   rw [h1,cond_true] at h
   cases h2:decide (l≤(n:Int)) with
   |false=>rw [h2] at h; simp at h
   |true=>rw [h2,cond_true] at h; exact ⟨h,λ K'=>by unfold Ta; simp only [h1,h2,cond_true]⟩
 ·rename_i l u
  cases h1:decide (0≤l) with
  |false=>rw [h1] at h; simp at h
  |true=>
   rw [h1,cond_true] at h
   cases h2:decide (l≤u) with
   |false=>rw [h2] at h; simp at h
   |true=>
    rw [h2,cond_true] at h
    cases h3:decide (u≤(n:Int)) with
    |false=>rw [h3] at h; simp at h
    |true=>rw [h3,cond_true] at h; exact ⟨h,λ K'=>by unfold Ta; simp only [h1,h2,h3,cond_true]⟩
theorem Cta {op:BinOp} {T T':TypeId} {x y:Operand} {d:Nat} (ho:o.op = .binOp op T x y T') (hod:o.dst=some d) (hx:RX A F x) (hy:RX A F y) (h:Aa E o A Kc=some r):Loc E o A F Kc r:=by
 unfold Aa at h
 rw [ho,hod] at h
 simp only at h
 split at h
 ·rename_i s s' hs hs'
  obtain ⟨v,h1,h2⟩:=Ipa h
  refine ⟨_,h1,λ A' hA R' K'=>?_⟩
  unfold Aa
  rw [ho,hod]
  simp only [Af hA hx,Af hA hy,hs,hs']
  exact h2 _
 ·cases h
theorem Fxa {op:UnOp} {T:TypeId} {x:Operand} {d:Nat} (ho:o.op = .unOp op T x) (hod:o.dst=some d) (hx:RX A F x) (h:Aa E o A Kc=some r):Loc E o A F Kc r:=by
 unfold Aa at h
 rw [ho,hod] at h
 simp only at h
 split at h
 ·rename_i s hs
  obtain ⟨v,h1,h2⟩:=Iqa h
  refine ⟨_,h1,λ A' hA R' K'=>?_⟩
  unfold Aa
  rw [ho,hod]
  simp only [Af hA hx,hs]
  exact h2 _
 ·cases h
theorem Uh {T T':TypeId} {x:Operand} {d:Nat} (ho:o.op = .convert T T' x) (hod:o.dst=some d) (hx:RX A F x) (h:Aa E o A Kc=some r):Loc E o A F Kc r:=by
 unfold Aa at h
 rw [ho,hod] at h
 simp only at h
 split at h
 ·rename_i y hs
  obtain ⟨v,h1,h2⟩:=Fwa h
  refine ⟨_,h1,λ A' hA R' K'=>?_⟩
  unfold Aa
  rw [ho,hod]
  simp only [Af hA hx,hs,Cra hA (Ek hx hs)]
  exact h2 _
 ·cases h
theorem Fya {x:Operand} {d:Nat} (ho:o.op = .move x) (hod:o.dst=some d) (hx:∀ t,x = .tmp t→t∈F) (h:Aa E o A Kc=some r):Loc E o A F Kc r:=by
 have hag:∀ A',Ag A A' F→∀ T,opT E T A' x=opT E T A x:=by
  intro A' hA T
  cases x with
  |tmp t=>show (bif Nat.blt t E.nt then some (get A' t).2 else none)=(bif Nat.blt t E.nt then some (get A t).2 else none); rw [hA t (hx t rfl)]
  |const v=>exact Af hA (x := .const v) trivial
  |func f=>rfl
  |global g=>rfl
 unfold Aa at h
 rw [ho,hod] at h
 simp only at h
 split at h
 ·rename_i s hs
  split at h
  ·rename_i t e r' xs
   cases hn:(E.nm t && !(E.mv d)) with
   |true=>
    rw [hn,cond_true] at h
    refine ⟨_,h,λ A' hA R' K'=>?_⟩
    unfold Aa
    rw [ho,hod]
    simp only [hag A' hA,hs,hn,cond_true,hA t (hx t rfl)]
   |false=>
    rw [hn,cond_false] at h
    refine ⟨_,h,λ A' hA R' K'=>?_⟩
    unfold Aa
    rw [ho,hod]
    simp only [hag A' hA,hs,hn,cond_false]
  ·rename_i hne
   refine ⟨_,h,λ A' hA R' K'=>?_⟩
   unfold Aa
   rw [ho,hod]
   simp only [hag A' hA,hs]
 ·cases h
theorem A0a {x:Operand} {d:Nat} (ho:o.op = .assign x) (hod:o.dst=some d) (hx:RX A F x) (h:Aa E o A Kc=some r):Loc E o A F Kc r:=by
 unfold Aa at h
 rw [ho,hod] at h
 simp only at h
 split at h
 ·rename_i p v hs
  have hp:p∈F:=Ek hx hs
  split at h
  ·rename_i n e r' xs hg
   cases hn:Nat.beq n v with
   |false=>rw [hn] at h; simp at h
   |true=>
    rw [hn,cond_true] at h
    cases hr:E.res d with
    |true=>
     rw [hr,cond_true] at h
     refine ⟨_,h,λ A' hA R' K'=>?_⟩
     unfold Aa
     rw [ho,hod]
     simp only [Af hA hx,hs,hA p hp,hg,hn,hr,cond_true]
    |false=>
     rw [hr,cond_false] at h
     refine ⟨_,h,λ A' hA R' K'=>?_⟩
     unfold Aa
     rw [ho,hod]
     simp only [Af hA hx,hs,hA p hp,hg,hn,hr,cond_true,cond_false]
  ·rename_i n e r' xs hg
   cases hn:Nat.beq n v with
   |false=>rw [hn] at h; simp at h
   |true=>
    rw [hn,cond_true] at h
    refine ⟨_,h,λ A' hA R' K'=>?_⟩
    unfold Aa
    rw [ho,hod]
    simp only [Af hA hx,hs,hA p hp,hg,hn,cond_true]
  ·cases h
 ·rename_i s hne hs
  refine ⟨_,h,λ A' hA R' K'=>?_⟩
  unfold Aa
  rw [ho,hod]
  simp only [Af hA hx,hs]
 ·cases h
theorem Fza {c x y:Operand} {d:Nat} (ho:o.op = .pick c x y) (hod:o.dst=some d) (hc:RX A F c) (hx:RX A F x) (hy:RX A F y) (h:Aa E o A Kc=some r):Loc E o A F Kc r:=by
 unfold Aa at h
 rw [ho,hod] at h
 simp only at h
 split at h
 ·rename_i b hs
  cases b with
  |true=>
   rw [cond_true] at h
   split at h
   ·rename_i u hu
    refine ⟨_,h,λ A' hA R' K'=>?_⟩
    unfold Aa
    rw [ho,hod]
    simp only [Af hA hc,Af hA hx,hs,hu,cond_true]
   ·cases h
  |false=>
   rw [cond_false] at h
   split at h
   ·rename_i u hu
    refine ⟨_,h,λ A' hA R' K'=>?_⟩
    unfold Aa
    rw [ho,hod]
    simp only [Af hA hc,Af hA hy,hs,hu,cond_false]
   ·cases h
 ·cases h
def RP (A:Ab) (F:List Nat):Operand→Prop
 |.tmp t=>t∈F∧∀ y∈parts (get A t).2,(∀ b v n,y = .bp b v n→H b∈F)∧(∀ p v i n,y = .ep p v i n→p∈F)∧(∀ p v pi e r,∀ xs:List (Ty.den r),∀ i n,y = .dp p v pi e r xs i n→p∈F)
 |_=>True
theorem Xe:∀ {l:List Lf},(∀ p∈Jpa l,p∈F)→∀ y∈l,(∀ b v n,y = .bp b v n→H b∈F)∧(∀ p v i n,y = .ep p v i n→p∈F)∧(∀ p v pi e r,∀ xs:List (Ty.den r),∀ i n,y = .dp p v pi e r xs i n→p∈F)
 |[],_,y,hy=>by simp at hy
 |z::l,h,y,hy=>by
  unfold Jpa at h
  rcases List.mem_cons.1 hy with rfl|hy
  ·refine ⟨λ b v n e=>h _ (List.mem_append_left _ ?_),λ p v i n e=>h _ (List.mem_append_left _ ?_),λ p v pi e0 r xs i n e=>h _ (List.mem_append_left _ ?_)⟩<;>(subst e; simp [rdH])
  ·exact Xe (λ p hp=>h p (List.mem_append_right _ hp)) y hy
theorem Hda {x:Operand} (h:∀ p∈rdP A x,p∈F):RP A F x:=by
 cases x with
 |tmp t=>
  have h:∀ p∈t::Jpa (parts (get A t).2),p∈F:=h
  exact ⟨h t (by simp),Xe λ p hp=>h p (List.mem_cons_of_mem _ hp)⟩
 |_=>trivial
theorem RP.opT {x:Operand} {T:TypeId} (hA:Ag A A' F) (hx:RP A F x):Vf.opT E T A' x=Vf.opT E T A x:=by
 cases x with
 |tmp t=>show (bif Nat.blt t E.nt then some (get A' t).2 else none)=(bif Nat.blt t E.nt then some (get A t).2 else none); rw [hA t hx.1]
 |const v=>exact Af hA (x := .const v) trivial
 |func f=>rfl
 |global g=>rfl
theorem RP.live {x:Operand} {T:TypeId} {y:Lf} (hA:Ag A A' F) (hx:RP A F x) (h:Vf.opT E T A x=some (.one y)):Kw A' y=Kw A y:=by
 cases x with
 |tmp t=>
  have h:(bif Nat.blt t E.nt then some (get A t).2 else none)=some (.one y):=h
  cases hb:Nat.blt t E.nt with
  |false=>rw [hb] at h; simp at h
  |true=>
   rw [hb] at h
   simp only [cond_true,Option.some.injEq] at h
   obtain ⟨h1,h2,h3⟩:=hx.2 y (by rw [h]; simp [parts])
   cases y with
   |bp b v n=>show Nat.beq (get A' (H b)).1 v=Nat.beq (get A (H b)).1 v; rw [hA _ (h1 b v n rfl)]
   |ep p v i n=>simp only [Kw]; rw [hA _ (h2 p v i n rfl)]
   |dp p v pi e r xs i n=>show Nat.beq (get A' p).1 v=Nat.beq (get A p).1 v; rw [hA _ (h3 p v pi e r xs i n rfl)]
   |_=>rfl
 |const v=>exact Qq hA (Ek (x := .const v) (F:=F) trivial h)
 |func f=>exact Qq hA (Ek (x := .func f) (F:=F) trivial h)
 |global g=>exact Qq hA (Ek (x := .global g) (F:=F) trivial h)
theorem Sj {x:Operand} {d:Nat} (ho:o.op = .nilCheck x) (hod:o.dst=some d) (hx:RP A F x) (h:Aa E o A Kc=some r):Loc E o A F Kc r:=by
 unfold Aa at h
 rw [ho,hod] at h
 simp only at h
 split at h
 ·rename_i y hs
  cases hl:Kw A y with
  |false=>rw [hl] at h; simp at h
  |true=>
   rw [hl,cond_true] at h
   refine ⟨_,h,λ A' hA R' K'=>?_⟩
   unfold Aa
   rw [ho,hod]
   simp only [hx.opT hA,hs,hx.live hA hs,hl,cond_true]
 ·cases h
theorem Qr {T:TypeId} {x:Operand} {j d:Nat} (ho:o.op = .fieldAddr T x j) (hod:o.dst=some d) (hx:RP A F x) (h:Aa E o A Kc=some r):Loc E o A F Kc r:=by
 unfold Aa at h
 rw [ho,hod] at h
 simp only at h
 split at h
 ·rename_i ti y hT hs
  split at h
  ·rename_i f hf
   cases hl:(ti.ag&&Kw A y) with
   |false=>rw [hl] at h; simp at h
   |true=>
    rw [hl,cond_true] at h
    refine ⟨_,h,λ A' hA R' K'=>?_⟩
    unfold Aa
    rw [ho,hod]
    simp only [hT,hx.opT hA,hs,hf,hx.live hA hs,hl,cond_true]
  ·cases h
 ·cases h
theorem Ui {t j d:Nat} (ho:o.op = .extract (.tmp t) j) (hod:o.dst=some d) (ht:t∈F) (h:Aa E o A Kc=some r):Loc E o A F Kc r:=by
 unfold Aa at h
 rw [ho,hod] at h
 simp only at h
 cases hb:Nat.blt t E.nt with
 |false=>rw [hb] at h; simp at h
 |true=>
  rw [hb,cond_true] at h
  split at h
  ·rename_i vs hg
   split at h
   ·rename_i ag l hn
    split at h
    ·rename_i s hs
     cases hw:Ct l with
     |true=>
      rw [hw,cond_true] at h
      refine ⟨_,h,λ A' hA R' K'=>?_⟩
      unfold Aa
      rw [ho,hod]
      simp only [hb,cond_true,hA t ht,hg,hn,hs,hw]
     |false=>
      rw [hw,cond_false] at h
      refine ⟨_,h,λ A' hA R' K'=>?_⟩
      unfold Aa
      rw [ho,hod]
      simp only [hb,cond_true,hA t ht,hg,hn,hs,hw,cond_false]
    ·cases h
   ·cases h
  ·cases h
theorem Cua {T:TypeId} {t j d:Nat} (ho:o.op = .field T (.tmp t) j) (hod:o.dst=some d) (ht:t∈F) (h:Aa E o A Kc=some r):Loc E o A F Kc r:=by
 unfold Aa at h
 rw [ho,hod] at h
 simp only at h
 split at h
 ·rename_i ti l hT hg
  split at h
  ·rename_i off z ag hn
   split at h
   ·rename_i s hs
    cases hb:(ti.ag&&Nat.blt t E.nt&&Nat.ble (off+z) l.length) with
    |false=>rw [hb] at h; simp at h
    |true=>
     rw [hb,cond_true] at h
     cases hw:Ct ((l.drop off).take z) with
     |true=>
      rw [hw,cond_true] at h
      refine ⟨_,h,λ A' hA R' K'=>?_⟩
      unfold Aa
      rw [ho,hod]
      simp only [hT,hA t ht,hg,hn,hs,hb,hw,cond_true]
     |false=>
      rw [hw,cond_false] at h
      refine ⟨_,h,λ A' hA R' K'=>?_⟩
      unfold Aa
      rw [ho,hod]
      simp only [hT,hA t ht,hg,hn,hs,hb,hw,cond_true,cond_false]
   ·cases h
  ·cases h
 ·cases h
theorem Cva {T:TypeId} {d:Nat} (ho:o.op = .alloc T) (hod:o.dst=some d) (hH:H d∈F) (h:Aa E o A Kc=some r):Loc E o A F Kc r:=by
 unfold Aa at h
 rw [ho,hod] at h
 simp only at h
 split at h
 ·rename_i ti hT
  cases hb:(Nat.blt ti.ty.sz 999&&Nat.ble E.np d) with
  |false=>rw [hb] at h; simp at h
  |true=>
   rw [hb,cond_true] at h
   refine ⟨_,h,λ A' hA R' K'=>?_⟩
   unfold Aa
   rw [ho,hod]
   simp only [hT,hb,cond_true,hA _ hH]
 ·cases h
theorem RL.als {s:Sv} (h:∀ y∈parts s,RL A F y):∀ y∈parts s,AL F y:=λ y hy=>(h y hy).al
theorem Mn (hA:Ag A A' F):∀ {l:List Lf},(∀ y∈l,AL F y)→Bm A' l=Bm A l
 |[],_=>rfl
 |y::l,h=>by
  have ih:=Mn hA (l:=l) (λ z hz=>h z (List.mem_cons_of_mem _ hz))
  cases y with
  |al p v=>simp only [Bm,ih,Da hA (h (.al p v) (by simp))]
  |_=>simp only [Bm,ih]
theorem Ira {T:TypeId} {x:Operand} {d:Nat} (ho:o.op = .box T x) (hod:o.dst=some d) (hH:H d∈F) (hx:RX A F x) (h:Aa E o A Kc=some r):Loc E o A F Kc r:=by
 unfold Aa at h
 rw [ho,hod] at h
 simp only at h
 split at h
 ·rename_i ti s hT hs
  have hal:=RL.als (Jd hx hs)
  cases hmv:mvO E x with
  |true=>
   rw [hmv,cond_true] at h
   cases hb:(Bm A (parts s)&&Nat.beq (parts s).length ti.ty.sz&&Nat.blt ti.ty.sz 999&&Nat.ble E.np d) with
   |false=>rw [hb] at h; simp at h
   |true=>
    rw [hb,cond_true] at h
    refine ⟨_,h,λ A' hA R' K'=>?_⟩
    unfold Aa
    rw [ho,hod]
    simp only [hT,Af hA hx,hs,hmv,Mn hA hal,hb,cond_true,hA _ hH]
  |false=>
  rw [hmv,cond_false] at h
  cases hb:(A3 ((parts s).map (Fy A))&&Nat.beq ((parts s).map (Fy A)).length ti.ty.sz&&Nat.blt ti.ty.sz 999&&Nat.ble E.np d) with
  |false=>rw [hb] at h; simp at h
  |true=>
   rw [hb,cond_true] at h
   refine ⟨_,h,λ A' hA R' K'=>?_⟩
   unfold Aa
   rw [ho,hod]
   simp only [hT,Af hA hx,hs,hmv,cond_false,Lj hA hal,hb,cond_true,Jt hA hal,hA _ hH]
 ·cases h
theorem G0a {T:TypeId} {x:Operand} {d:Nat} (ho:o.op = .load T x) (hod:o.dst=some d) (hx:RX A F x) (h:Aa E o A Kc=some r):Loc E o A F Kc r:=by
 unfold Aa at h
 rw [ho,hod] at h
 simp only at h
 split at h
 ·rename_i ti b v off hT hs
  obtain ⟨h1,h2⟩:RL A F (.bp b v off):=Ek hx hs
  split at h
  ·rename_i n m hg
   cases hb:(Nat.beq n v&&Nat.ble (off+ti.ty.sz) m) with
   |false=>rw [hb] at h; simp at h
   |true=>
    rw [hb,cond_true] at h
    have hle:off+ti.ty.sz≤m:=by
     simp only [Bool.and_eq_true] at hb
     exact Nat.le_of_ble_eq_true hb.2
    have hcell:∀ i,i<ti.ty.sz→C b (off+i)∈F:=λ i hi=>(h2 m (by rw [hg]) (off+i) (by omega) (by omega)).1
    split at h
    ·rename_i s hp
     refine ⟨_,h,λ A' hA R' K'=>?_⟩
     unfold Aa
     rw [ho,hod]
     simp only [hT,Af hA hx,hs,hA _ h1,hg,hb,cond_true,Me hA hcell,hp]
    ·cases h
  ·cases h
 ·rename_i ti p v i off hT hs
  have hp:p∈F:=Ek hx hs
  split at h
  ·rename_i n e r' xs hg
   cases hb:(Nat.beq n v&&Fu r'&&Nat.ble (off+ti.ty.sz) r'.sz) with
   |false=>rw [hb] at h; simp at h
   |true=>
    rw [hb,cond_true] at h
    split at h
    ·rename_i s hp2
     refine ⟨_,h,λ A' hA R' K'=>?_⟩
     unfold Aa
     rw [ho,hod]
     simp only [hT,Af hA hx,hs,hA _ hp,hg,hb,cond_true,hp2]
    ·cases h
  ·cases h
 ·rename_i ti p v pi e0 r' xs i off hT hs
  have hp:p∈F:=Ek hx hs
  cases hb:(Nat.beq (get A p).1 v&&Nat.ble (off+ti.ty.sz) r'.sz) with
  |false=>rw [hb] at h; simp at h
  |true=>
   rw [hb,cond_true] at h
   split at h
   ·rename_i s hp2
    refine ⟨_,h,λ A' hA R' K'=>?_⟩
    unfold Aa
    rw [ho,hod]
    simp only [hT,Af hA hx,hs,hA _ hp,hb,cond_true,hp2]
   ·cases h
 ·rename_i ti r' x' off hT hs
  cases hb:Nat.ble (off+ti.ty.sz) r'.sz with
  |false=>rw [hb] at h; simp at h
  |true=>
   rw [hb,cond_true] at h
   split at h
   ·rename_i s hp2
    refine ⟨_,h,λ A' hA R' K'=>?_⟩
    unfold Aa
    rw [ho,hod]
    simp only [hT,Af hA hx,hs,hb,cond_true,hp2]
   ·cases h
 ·cases h
theorem Mo (h:Ag A A' F):∀ {l:List Lf},(∀ p v pi e r,∀ xs:List (Ty.den r),Lf.da p v pi e r xs∈l→p∈F)→Dg A' l=Dg A l
 |[],_=>rfl
 |y::l,hp=>by
  have ih:=Mo h (l:=l) (λ p v pi e r xs hm=>hp p v pi e r xs (List.mem_cons_of_mem _ hm))
  cases y with
  |da p v pi e r xs=>simp only [Dg,ih,h p (hp p v pi e r xs (by simp))]
  |_=>simp only [Dg,ih]
theorem Isa {l:List Lf} (h:∀ y∈l,RL A F y):∀ p v pi e r,∀ xs:List (Ty.den r),Lf.da p v pi e r xs∈l.map (Fy A)→p∈F:=by
 intro p v pi e r xs hm
 obtain ⟨y,hy,he⟩:=List.mem_map.1 hm
 cases y with
 |da p' v' pi' e' r' xs'=>
  simp only [Fy,Lf.da.injEq] at he
  have:=h _ hy
  rw [he.1] at this
  exact this
 |al q w=>
  exfalso
  simp only [Fy] at he
  have h1:∀ z:Lf,(∀ p v pi e r,∀ xs:List (Ty.den r),z ≠ .da p v pi e r xs)→∀ p v pi e r,∀ xs:List (Ty.den r),Hh z ≠ .da p v pi e r xs:=by
   intro z hz p v pi e r xs
   cases z<;>simp [Hh]
   exact λ e1 e2 e3 e4 e5 e6=>hz _ _ _ _ _ _ rfl
  refine h1 (Gp A (.al q w)) ?_ _ _ _ _ _ _ he
  intro p v pi e r xs
  simp only [Gp]
  split
  ·rename_i n _ _ _ _
   cases Nat.beq n w<;>simp
  ·rename_i n _ _ _ _
   cases Nat.beq n w<;>simp
  ·simp
 |_=>simp [Fy] at he
theorem Je:∀ {ts:List Ty} {l:List Lf} {A A':Ab},Ag A A' F→(∀ y∈l,AL F y)→Dd A' ts l=Dd A ts l
 |[],[],_,_,_,_=>rfl
 |[],_::_,_,_,_,_=>rfl
 |t::ts,[],_,_,_,_=>by cases t<;>rfl
 |t::ts,x::l,A,A',hA,hy=>by
  have hx:AL F x:=hy x (by simp)
  have hl:∀ y∈l,AL F y:=λ y hm=>hy y (List.mem_cons_of_mem _ hm)
  cases t<;>simp only [Dd,Da hA hx,Uf hA hx,Ug hA hx,Je (hA.ups (U:=Ti x)) hl,Je (hA.ups (U:=Mu A x)) hl]
theorem Cwa (hA:Ag A A' F):∀ {l:List Lf},(∀ y∈l,AL F y)→Hra A' l=Hra A l
 |[],_=>rfl
 |y::l,h=>by simp only [Hra,Da hA (h y (by simp)),Cwa hA (λ z hz=>h z (List.mem_cons_of_mem _ hz))]
theorem G1a {x:Operand} {s:Sv} (hA:Ag A A' F) (hal:∀ y∈parts s,AL F y):Lw A' x s (Hra (ups A' (gone x s)) (parts s))=Lw A x s (Hra (ups A (gone x s)) (parts s)):=by
 have hA1:=hA.ups (U:=gone x s)
 unfold Lw
 rw [Cwa hA1 hal,Je hA1 hal]
theorem Cxa {T:TypeId} {x y:Operand} (ho:o.op = .store T x y) (hod:o.dst=none) (hx:RX A F x) (hy:RX A F y) (h:Aa E o A Kc=some r):Loc E o A F Kc r:=by
 unfold Aa at h
 rw [ho,hod] at h
 simp only at h
 split at h
 ·rename_i ti b v off s hT hs hs2
  obtain ⟨h1,h2⟩:RL A F (.bp b v off):=Ek hx hs
  have hal:=RL.als (Jd hy hs2)
  cases hmv:mvO E y with
  |true=>
   rw [hmv,cond_true] at h
   split at h
   ·rename_i m vs hgive
    split at h
    ·rename_i n hd hg
     cases hb:(Nat.beq n v&&Nat.beq m.length ti.ty.sz&&Nat.ble (off+ti.ty.sz) hd) with
     |false=>rw [hb] at h; simp at h
     |true=>
      rw [hb,cond_true] at h
      refine ⟨_,h,λ A' hA R' K'=>?_⟩
      unfold Aa
      rw [ho,hod]
      simp only [hT,Af hA hx,hs,Af hA hy,hs2,hmv,G1a hA hal,hgive,hA _ h1,hg,hb,cond_true]
    ·cases h
   ·cases h
  |false=>
  rw [hmv,cond_false] at h
  split at h
  ·rename_i n m hg
   cases hb:(Nat.beq n v&&Dg (ups A (Fv A (parts s)++gone y s)) ((parts s).map (Fy A))&&Nat.beq ((parts s).map (Fy A)).length ti.ty.sz&&Nat.ble (off+ti.ty.sz) m) with
   |false=>rw [hb] at h; simp at h
   |true=>
    rw [hb,cond_true] at h
    refine ⟨_,h,λ A' hA R' K'=>?_⟩
    unfold Aa
    rw [ho,hod]
    simp only [hT,Af hA hx,hs,Af hA hy,hs2,hmv,cond_false,hA _ h1,hg,Lj hA hal,Jt hA hal,Mo (hA.ups (U:=Fv A (parts s)++gone y s)) (Isa (Jd hy hs2)),hb,cond_true]
  ·cases h
 ·rename_i ti p v i off s hT hs hs2
  have hp:p∈F:=Ek hx hs
  have hal:=RL.als (Jd hy hs2)
  split at h
  ·rename_i n e r' xs hg
   cases hb:(Nat.beq n v&&Fu r'&&A3 ((parts s).map (Fy A))&&Nat.beq ((parts s).map (λ x=>Hh (Fy A x))).length ti.ty.sz&&Nat.ble (off+((parts s).map (λ x=>Hh (Fy A x))).length) r'.sz&&Q1 p (Fv A (parts s)++gone y s)) with
   |false=>rw [hb] at h; simp at h
   |true=>
    rw [hb,cond_true] at h
    split at h
    ·rename_i z hz
     refine ⟨_,h,λ A' hA R' K'=>?_⟩
     unfold Aa
     rw [ho,hod]
     simp only [hT,Af hA hx,hs,Af hA hy,hs2,hA _ hp,hg,Lj hA hal,Xd hA hal,hb,cond_true,Jt hA hal,hz]
    ·cases h
  ·cases h
 ·rename_i ti p v q e r1 xs i off s hT hs hs2
  have hp:p∈F:=Ek hx hs
  have hal:=RL.als (Jd hy hs2)
  split at h
  ·rename_i m us hgive
   split at h
   ·rename_i n E0 R0 XS hg
    cases hb:(Nat.beq n v&&Ix m&&Nat.beq m.length ti.ty.sz&&Nat.ble (off+m.length) r1.sz&&Q1 p us&&Cs R0) with
    |false=>rw [hb] at h; simp at h
    |true=>
     rw [hb,cond_true] at h
     split at h
     ·rename_i z hz
      split at h
      ·rename_i XS' hput
       refine ⟨_,h,λ A' hA R' K'=>?_⟩
       unfold Aa
       rw [ho,hod]
       simp only [hT,Af hA hx,hs,Af hA hy,hs2,Csa hA hal,hgive,hA _ hp,hg,hb,cond_true,hz,hput]
      ·cases h
     ·cases h
   ·cases h
  ·cases h
 ·cases h
end
end

end Go.Proofs.Ytlfoljnopndpeaa.Vf
