import Derived.Test.YtmhhjceoinoekaaGreatMaf
set_option linter.unusedVariables false
set_option linter.unusedSimpArgs false
namespace Go.Proofs.YtmhhjceoinoekaaGreat.Vf
open Go

section
attribute [local irreducible] C H
def bare (O:Nat→Lab) (w:World):Sit:=⟨O,λ _=>(0,0),λ _=>(0,.one .dead),λ _=>undef,w⟩
def Bra (P:Program) (S:Sit) (rg:Nat→Nat×Nat) (B:Nat) (t:Ty) (l:List Lf) (u:Value):Prop:=
 ∃ k o c e us,u = .pointer (some ⟨k,o,none⟩)∧S.w.heap[k]? = some (.cells c e (0,0))∧S.O k = .bx B∧rg B=(o,t.sz)∧o+t.sz≤c.size∧t.sz<999∧l.length=t.sz∧(∀ j,j<t.sz→c[o+j]? = us[j]?)∧
  Ad P S (λ j => .pl (C B j) []) 0 l us
def N1a (P:Program) (S:Sit) (w:Nat→Value) (j:Nat):Lf→Value→Prop
 |.own _ _ _,u=>u=w j
 |x,u=>Tna x=true∧Bm P S .fz x u
def D7a (Q:Nat→Lf→Value→Prop):Nat→List Lf→List Value→Prop
 |_,[],[]=>True
 |j,x::l,u::us=>Q j x u∧D7a Q (j+1) l us
 |_,_,_=>False
def N2a (P:Program) (S:Sit) (rg:Nat→Nat×Nat) (nv:Nat) (hs:List Value) (i:Nat):Par→List Lf→Value→Prop
 |.vw t h,l,u=>nv≤h∧∃ vs k o c e,u = .agg vs.toArray∧hs[h - nv]? = some (.pointer (some ⟨k,o,none⟩))∧S.w.heap[k]? = some (.cells c e (0,0))∧t.sz<999∧l.length=t.sz∧D7a (N1a P S (λ j=>c.getD (o+j) undef)) 0 l vs
 |.val ag _,l,u=>∃ us,(if ag then u = .agg us.toArray else us=[u])∧Ad P S (λ j => .pl i (if ag then [j] else [])) 0 l us
 |.ptr t _,l,u=>i<nv∧Bra P S rg (bid nv i) t l u
 |.hid t _,l,u=>nv≤i∧Bra P S rg (bid nv i) t l u
 |.rd t,l,u=>∃ x k o cs,mkW t l=some x∧u = .pointer (some ⟨k,o,none⟩)∧S.O k = .fz∧t.rep P (λ k=>S.O k = .fz) S.w x cs∧Ht S.w k o cs
 |.fn F m,_,u=>u = .func (.func F) #[] hs.toArray∧hs.length=m
def Pl (P:Program) (S:Sit) (rg:Nat→Nat×Nat) (nv:Nat) (hs:List Value):Nat→List Par→List (List Lf)→List Value→Prop
 |_,[],[],[]=>True
 |i,p::ps,l::ls,u::us=>N2a P S rg nv hs i p l u∧Pl P S rg nv hs (i+1) ps ls us
 |_,_,_,_=>False
def Qy (P:Program) (S:Sit) (n0:Nat) (i:Nat):RK→List Lf→Value→Prop
 |.one,l,u=>Ad P S (λ _ => .tm i []) 0 l [u]
 |.agg,l,u=>∃ us,u = .agg us.toArray∧Ad P S (λ j => .tm i [j]) 0 l us
 |.ptr,l,u=>∃ k o c e us,u = .pointer (some ⟨k,o,none⟩)∧S.w.heap[k]? = some (.cells c e (0,0))∧n0≤k∧S.O k = .tm (i+500) []∧o+l.length≤c.size∧l.length<999∧(∀ j,j<l.length→c[o+j]? = us[j]?)∧
   Ad P S (λ j => .tm i [j]) 0 l us
def Mz (P:Program) (S:Sit) (n0:Nat):Nat→List (RK×Ty)→List (List Lf)→List Value→Prop
 |_,[],_,us=>us=[]
 |i,k::ks,l::ls,u::us=>Qy P S n0 i k.1 l u∧Mz P S n0 (i+1) ks ls us
 |_,_,_,_=>False
def Li (P:Program) (S:Sit) (n0:Nat) (rs:List (RK×Ty)) (ls:List (List Lf)) (v:Value):Prop:=
 match rs with
 |[r]=>∃ l ls',ls=l::ls'∧Qy P S n0 1 r.1 l v
 |rs=>∃ us,v = .tuple us.toArray∧Mz P S n0 1 rs ls us
def Bsa (P:Program) (S:Sit) (i:Nat) (t':Ty) (l:List Lf) (u:Value):Prop:=
 ∃ k o c e us,u = .pointer (some ⟨k,o,none⟩)∧S.w.heap[k]? = some (.cells c e (0,0))∧l.length=t'.sz∧(∀ j,j<t'.sz→c[o+j]? = us[j]?)∧Ad P S (λ j => .tm (1001+i) [j]) 0 l us
def P5 (P:Program) (S:Sit):Nat→List Par→List Value→List (List Lf)→Prop
 |_,[],_,ls=>ls=[]
 |i,.ptr _ t'::ps,u::us,l::ls=>Bsa P S i t' l u∧P5 P S (i+1) ps us ls
 |i,.hid _ t'::ps,u::us,l::ls=>Bsa P S i t' l u∧P5 P S (i+1) ps us ls
 |i,.val _ _::ps,_::us,ls=>P5 P S (i+1) ps us ls
 |i,.vw _ _::ps,_::us,ls=>P5 P S (i+1) ps us ls
 |i,.rd _::ps,_::us,ls=>P5 P S (i+1) ps us ls
 |i,.fn _ _::ps,_::us,ls=>P5 P S (i+1) ps us ls
 |_,_,_,_=>False
def Bwb (nv n b:Nat):Prop:=∃ i,i<n∧b=bid nv i
def Z2a (P:Program) (f:FuncId) (en:Ent):Prop:=
 ∀ x r,en.run x=some r→∀ (w:World) (O:Nat→Lab) (rg:Nat→Nat×Nat) (us:List Value),(∀ k,O k ≠ .no→k<w.heap.size)→(∀ k b,O k = .bx b→Bwb en.nv en.ps.length b∧(∃ c e f,w.heap[k]? = some (.cells c e f))∧∀ k',O k' = .bx b→k'=k)→Pl P (bare O w) rg en.nv (us.drop en.nv) 0 en.ps (Fp _ x) us→
  Calls P f (us.take en.nv).toArray w (λ e w'=>∃ v O',e = .returned v∧Fr O w rg O' w'∧(∀ k,O' k ≠ .no→k<w'.heap.size)∧Li P (bare O' w') w.heap.size en.rs (Fp _ r) v∧P5 P (bare O' w') 0 en.ps us ((Fp _ r).drop en.rs.length))
structure Pm (P:Program) (f:FuncId) (en:Ent):Prop where
 fn:∃ fn,P.funcs[f]? = some fn∧(fn.name == "runtime.NumGoroutine")=false∧fn.body.isNone=false
 sound:Z2a P f en
section
variable {X:Cx} {S S':Sit} {a:Act} {E:En} {A:Ab} {o:Oper} {R:Type} {Kc:List Up→Option R} {r:R}
def L7:Lf→Bool
 |.sc _ | .fz _ _ _ | .own _ _ _=>true
 |_=>false
theorem Bm.bare {P:Program} {x:Lf} {u:Value} {lab lab':Lab} (hx:L7 x=true) {S1 S2:Sit} (hw:S2.w=S1.w) (hf:∀ k,S1.O k = .fz→S2.O k = .fz) (hl:∀ k,S1.O k=lab→S2.O k=lab') (h:Bm P S1 lab x u):Bm P S2 lab' x u:=by
 cases x with
 |sc v=>exact h
 |fz e r xs=>exact Ty.rep_mono (t := .sl e r) hf (λ k _=>by rw [hw]) _ _ h
 |own e r xs=>exact I8.later (O':=S2.O) (w':=S2.w) h (λ k hk=>⟨hf k hk,by rw [hw]⟩) (λ k hk=>⟨hl k hk,by rw [hw]⟩)
 |_=>simp [L7] at hx
theorem N0:∀ (t:Ty) (x:t.den),∀ y∈A6 t x,L7 y=true
 |.i _,_=>by simp [A6,L7]
 |.b,_=>by simp [A6,L7]
 |.s,_=>by simp [A6,L7]
 |.sl _ _,_=>by simp [A6,L7]
 |.ow _ _,_=>by simp [A6,L7]
 |.pr x y,p=>by
  intro z hz
  rcases List.mem_append.1 (show z∈A6 x p.1++A6 y p.2 from hz) with h|h
  ·exact N0 x p.1 z h
  ·exact N0 y p.2 z h
theorem Jz:∀ (t:Ty) (x:t.den),(A6 t x).length=t.sz
 |.i _,_=>rfl
 |.b,_=>rfl
 |.s,_=>rfl
 |.sl _ _,_=>rfl
 |.ow _ _,_=>rfl
 |.pr x y,p=>by
  show (A6 x p.1++A6 y p.2).length=x.sz+y.sz
  rw [List.length_append,Jz x p.1,Jz y p.2]
theorem Ad.impS {P:Program} {S1 S2:Sit} {f f':Nat→Lab}:∀ {l:List Lf} {j:Nat} {us:List Value},(∀ y∈l,L7 y=true)→(∀ n x u,L7 x=true→Bm P S1 (f n) x u→Bm P S2 (f' n) x u)→Ad P S1 f j l us→Ad P S2 f' j l us
 |[],_,[],_,_,_=>trivial
 |[],_,_::_,_,_,h=>h.elim
 |_::_,_,[],_,_,h=>h.elim
 |y::l,j,u::us,hs,hi,h=>⟨hi j y u (hs y (by simp)) h.1,Ad.impS (λ z hz=>hs z (List.mem_cons_of_mem _ hz)) hi h.2⟩
theorem B7.world (K:B7 X S a) {w':World} {O':Nat→Lab} (h1:∀ k,k<S.w.heap.size→(∀ n q,S.O k ≠ .tm n q)→O' k=S.O k∧w'.heap[k]? = S.w.heap[k]?)
  (hos:w'.os=S.w.os) (ht:w'.tape=S.w.tape) (hout:w'.output=S.w.output) (hsz:S.w.heap.size≤w'.heap.size) (hlt:∀ k,O' k ≠ .no→k<w'.heap.size):
  B7 X (B8a S w' O') a∧Hx S (B8a S w' O'):=by
 have keep:∀ k o,S.O k=o→k<S.w.heap.size→(∀ n q,o ≠ .tm n q)→O' k=o∧w'.heap[k]? = S.w.heap[k]?:=by
  intro k o' h hk ho
  obtain ⟨h2,h3⟩:=h1 k hk (by rw [h]; exact ho)
  exact ⟨h2.trans h,h3⟩
 have keep':∀ k o,S.O k=o→o ≠ .no→(∀ n q,o ≠ .tm n q)→O' k=o∧w'.heap[k]? = S.w.heap[k]? := λ k o' h hn ho=>keep k o' h (K.lt k (by rw [h]; exact hn)) ho
 have L:Hx S (B8a S w' O'):=⟨λ _=>Nat.le_refl _,λ _ _=>rfl,λ p v e r xs' h _=>⟨xs',h,rfl⟩,λ _ _=>rfl,λ k h=>keep' k _ h (by simp) (by simp),Hx.box_of (λ _ _ _ h=>h) (λ k b h=>keep' k _ h (by simp) (by simp)),λ p _ hd=>⟨hd,λ _ _ _ h=>h,λ k hk=>by
  obtain ⟨h1,h2⟩:=keep' k _ hk (by simp) (by simp)
  exact ⟨.inl h1,h2⟩⟩⟩
 have F:=K.fr
 refine ⟨⟨K.nt,hlt,λ l=>(K.at_ l).later L (λ p k h=>keep' k _ h (by simp) (by simp)),λ b n h=>?_,K.rgn,K.sl,K.sz,K.df,⟨hos.trans F.os,ht.trans F.tape,hout.trans F.out,Nat.le_trans F.size hsz,λ k hk h0=>?_,λ k hk h0=>?_,λ k b hk h0=>?_⟩⟩,L⟩
 ·obtain ⟨hn,c,e,e1,e2,e3,e4⟩:=K.box b n h
  obtain ⟨h5,h6⟩:=keep' _ _ e2 (by simp) (by simp)
  exact ⟨hn,c,e,h6.trans e1,h5,e3,e4⟩
 ·obtain ⟨f1,f2⟩:=F.no k hk h0
  obtain ⟨h5,h6⟩:=keep k _ f1 (Nat.lt_of_lt_of_le hk F.size) (by simp)
  exact ⟨h5,h6.trans f2⟩
 ·obtain ⟨f1,f2⟩:=F.fz k hk h0
  obtain ⟨h5,h6⟩:=keep k _ f1 (Nat.lt_of_lt_of_le hk F.size) (by simp)
  exact ⟨h5,h6.trans f2⟩
 ·obtain ⟨f1,c,c',e,f,f2,f3,f4,f5⟩:=F.bx k b hk h0
  obtain ⟨h5,h6⟩:=keep k _ f1 (Nat.lt_of_lt_of_le hk F.size) (by simp)
  exact ⟨h5,c,c',e,f,f2,h6.trans f3,f4,f5⟩
end
end

section
attribute [local irreducible] C H
section
variable {X:Cx} {S S':Sit} {a:Act} {E:En} {A:Ab} {o:Oper} {R:Type} {Kc:List Up→Option R} {r:R}
theorem Ad.impM {P:Program} {S1 S2:Sit} {f f':Nat→Lab}:∀ {l:List Lf} {j:Nat} {us:List Value},(∀ x∈l,∀ n u,Bm P S1 (f n) x u→Bm P S2 (f' n) x u)→Ad P S1 f j l us→Ad P S2 f' j l us
 |[],_,[],_,_=>trivial
 |[],_,_::_,_,h=>h.elim
 |_::_,_,[],_,h=>h.elim
 |y::l,j,u::us,hi,h=>⟨hi y (by simp) j u h.1,Ad.impM (λ z hz=>hi z (List.mem_cons_of_mem _ hz)) h.2⟩
theorem Qy.imp {P:Program} {S1 S2:Sit} {n0 i:Nat} {k:RK} {l:List Lf} {u:Value} (hw:S2.w=S1.w) (hO:∀ k i,S1.O k = .tm i []→S2.O k = .tm i []) (hi:∀ y∈l,∀ i q u,Bm P S1 (.tm i q) y u→Bm P S2 (.tm i q) y u) (h:Qy P S1 n0 i k l u):Qy P S2 n0 i k l u:=by
 cases k with
 |one=>exact Ad.impM (λ x hx n u h=>hi x hx _ _ u h) h
 |agg=>
  obtain ⟨us,e,h⟩:=h
  exact ⟨us,e,h.impM (λ x hx n u h=>hi x hx _ _ u h)⟩
 |ptr=>
  obtain ⟨k,o,c,e,us,e1,e2,e3,e4,e5,e6,e7,h⟩:=h
  exact ⟨k,o,c,e,us,e1,by rw [hw]; exact e2,e3,hO _ _ e4,e5,e6,e7,h.impM (λ x hx n u h=>hi x hx _ _ u h)⟩
theorem Mz.imp {P:Program} {S1 S2:Sit} {n0:Nat} (hw:S2.w=S1.w) (hO:∀ k i,S1.O k = .tm i []→S2.O k = .tm i []):∀ {rs:List (RK×Ty)} {i:Nat} {ls:List (List Lf)} {us:List Value},
  (∀ l∈ls,∀ y∈l,∀ i q u,Bm P S1 (.tm i q) y u→Bm P S2 (.tm i q) y u)→Mz P S1 n0 i rs ls us→Mz P S2 n0 i rs ls us
 |[],_,_,_,_,h=>h
 |k::ks,i,l::ls,u::us,hi,h=>⟨h.1.imp hw hO (hi l (by simp)),Mz.imp hw hO (λ l' hl'=>hi l' (List.mem_cons_of_mem _ hl')) h.2⟩
 |_::_,_,[],_,_,h=>h.elim
 |_::_,_,_::_,[],_,h=>h.elim
theorem Li.imp {P:Program} {S1 S2:Sit} {n0:Nat} {rs:List (RK×Ty)} {ls:List (List Lf)} {v:Value} (hw:S2.w=S1.w) (hO:∀ k i,S1.O k = .tm i []→S2.O k = .tm i [])
  (hi:∀ l∈ls,∀ y∈l,∀ i q u,Bm P S1 (.tm i q) y u→Bm P S2 (.tm i q) y u) (h:Li P S1 n0 rs ls v):Li P S2 n0 rs ls v:=by
 unfold Li at h ⊢
 split at h
 ·obtain ⟨l,ls',rfl,h⟩:=h
  exact ⟨l,ls',rfl,h.imp hw hO (hi l (by simp))⟩
 ·obtain ⟨us,e,h⟩:=h
  exact ⟨us,e,h.imp hw hO hi⟩
theorem Bxb (K:B7 X S a) {A1:Ab} (hg:S.g=get A1) {d k o n0:Nat} {l0:List Nat} {m:List Lf} {us:List Value} {q:Nat→List Nat} {c:Array Value} {e:TypeId} (hd:d<X.nt) (hk:S.O k = .tm n0 l0) (hn0:n0≠0) (hk0:X.w0.heap.size≤k)
  (hc:S.w.heap[k]? = some (.cells c e (0,0))) (ho:o+m.length≤c.size) (hcs:∀ j,j<m.length→c[o+j]? = us[j]?) (hl:Ad X.P S (λ j => .tm 0 (q j)) 0 m us)
  (hq:∀ j,j<m.length→B1a d 0 0 (q j)=some (.pl (C d (0+j)) [])) (hm:m.length<999) (hst:∀ k,.hd k∉m) (hnp:X.np≤d):
  ∃ S',B7 X S' (a.put (some d) (.pointer (some ⟨k,o,none⟩)))∧S'.w=S.w∧S'.g=get (ups A1 (⟨H d,false,.one (.hd m.length)⟩::E3 d 0 m++[⟨d,false,.one (.bp d ((get A1 (H d)).1+1) 0)⟩])):=by
 obtain ⟨K2,L2⟩:=K.newbox (d:=d) (k:=k) (o:=o) hk hn0 hk0 hc ho hcs hl hq hm hst hnp (Nat.lt_of_lt_of_le hd K.nt)
 have hv:((Hda S d k o m us).g (H d)).1=(S.g (H d)).1+1:=by
  show (Py (upd S.g (H d) _) d 0 m (H d)).1=_
  unfold Py
  rw [if_neg (Ik (by omega)),Au]
 have K3:=K2.put0 hd (.one (.bp d ((S.g (H d)).1+1) 0)) (.pointer (some ⟨k,o,none⟩)) 0 rfl ⟨by rw [hv]; exact Nat.le_refl _,λ _=>by
  show Value.pointer _ = .pointer (some ⟨(upd S.bb d (k,o) d).1,(upd S.bb d (k,o) d).2+0,none⟩)
  rw [Au]
  rfl⟩
 have e1:(Hda S d k o m us).g=get (ups A1 (⟨H d,false,.one (.hd m.length)⟩::E3 d 0 m)):=by
  show Py (upd S.g (H d) ((S.g (H d)).1+1,.one (.hd m.length))) d 0 m=get (ups (up A1 ⟨H d,false,.one (.hd m.length)⟩) (E3 d 0 m))
  rw [M8,Ot,← hg]
  rfl
 refine ⟨_,K3,rfl,?_⟩
 show upd (Hda S d k o m us).g d _=_
 rw [B6,Av,← e1,← hg]
def Ola (d:Nat) (many:Bool):Nat→List Nat→Option Lab:=λ n q=>match n with
 |0=>none
 |n+1=>if many then (match q with
  |[]=>some (.pl d [n,0])
  |[j]=>some (.pl d [n,j])
  |_=>none) else (if n=0 then some (.pl d q) else none)
theorem I2a (d:Nat) (many:Bool):∀ n q p,Ola d many n q=some p→∃ p',p = .pl d p':=by
 intro n q p hp
 unfold Ola at hp
 split at hp
 ·cases hp
 ·split at hp
  ·split at hp<;>first|(cases hp; exact ⟨_,rfl⟩)|cases hp
  ·split at hp<;>first|(cases hp; exact ⟨_,rfl⟩)|cases hp
theorem I3a (K:B7 X S a) {A1:Ab} (hg:S.g=get A1) {rs:List (RK×Ty)} {ls:List (List Lf)} {d:Option Nat} {us:List Up} {v:Value} {n0:Nat} (hd:∀ d',d=some d'→d'<X.nt) (hn0:X.w0.heap.size≤n0) (hls:∀ l∈ls,∀ y∈l,L7 y=true) (hnp:∀ d',d=some d'→N4 rs=true→X.np≤d')
  (hr:Li X.P S n0 rs ls v) (h:Sq A1 rs ls d=some us):∃ S',B7 X S' (a.put d v)∧S'.w=S.w∧S'.g=get (ups A1 us):=by
 cases d with
 |none=>
  have:us=[]:=by unfold Sq at h; cases rs<;>simpa using h.symm
  subst this
  exact ⟨S,K,rfl,hg⟩
 |some d=>
  cases rs with
  |nil=>
   have:us=[⟨d,false,.tup []⟩]:=by unfold Sq at h; simpa using h.symm
   subst this
   obtain ⟨vs,rfl,h2⟩:=hr
   have:vs=[]:=by cases ls<;>exact h2
   subst this
   have K2:=K.put0 (hd d rfl) (.tup []) (.tuple #[]) 0 rfl ⟨[],rfl,trivial⟩
   exact ⟨_,K2,rfl,by show upd S.g d _=_; rw [Av,← hg]⟩
  |cons r1 rs=>
   cases rs with
   |nil=>
    obtain ⟨l,ls',e1,h2⟩:=hr
    subst e1
    obtain ⟨k,t⟩:=r1
    cases k with
    |one=>
     have h2':Ad X.P S (λ _ => .tm 1 []) 0 l [v]:=h2
     cases l with
     |nil=>exact h2'.elim
     |cons x l=>
      cases l with
      |cons y l=>exact h2'.2.elim
      |nil=>
       have:us=[⟨d,false,.one x⟩]:=by unfold Sq at h; simpa using h.symm
       subst this
       have h3:Bm X.P S (.tm 1 []) x v:=h2'.1
       have L:=J2 S (Ola d false) d (.one x) v
       have hsv:Ma X.P (Ny S (Ola d false) d (.one x) v) d (.one x) v:=Bm.later (lab := .tm 1 []) (lab' := .pl d []) L h3 (λ k hk=>⟨Lz hk rfl,rfl⟩)
       have K2:=K.put (hd d rfl) (Ola d false) (I2a d false) (.one x) v hsv
       exact ⟨_,K2,rfl,by show upd S.g d _=_; rw [Av,← hg]⟩
    |agg=>
     have:us=[⟨d,false,.agg l⟩]:=by unfold Sq at h; simpa using h.symm
     subst this
     obtain ⟨vs,rfl,h3⟩:=h2
     have L:=J2 S (Ola d false) d (.agg l) (.agg vs.toArray)
     have hsv:Ma X.P (Ny S (Ola d false) d (.agg l) (.agg vs.toArray)) d (.agg l) (.agg vs.toArray):=⟨vs,rfl,h3.imp (λ j x u hx=>hx.later L (λ k hk=>⟨Lz hk rfl,rfl⟩))⟩
     have K2:=K.put (hd d rfl) (Ola d false) (I2a d false) (.agg l) _ hsv
     exact ⟨_,K2,rfl,by show upd S.g d _=_; rw [Av,← hg]⟩
    |ptr=>
     have:us=Ota A1 d l:=by unfold Sq at h; simpa using h.symm
     subst this
     obtain ⟨k,o,c,e,vs,rfl,e2,e3,e4,e5,e6,e7,h3⟩:=h2
     let hh:Nat→List Nat→Option Lab:=λ n q=>if n=1 then some (.tm 0 q) else none
     obtain ⟨K1,L1⟩:=K.names hh (by intro n q; simp only [hh]; split<;>simp)
     have e4':({ S with O:=atO S.O hh }:Sit).O k = .tm 501 []:=Ou e4 (by simp [hh])
     obtain ⟨S',K',w',g'⟩:=Bxb K1 (A1:=A1) (q:=λ j=>[j]) hg (hd d rfl) e4' (by decide) (Nat.le_trans hn0 e3) e2 e5 e7 (h3.imp (λ j x u hx=>hx.later L1 (λ k hk=>⟨Lz hk (by simp [hh]),rfl⟩))) (λ j hj=>rfl) e6 (by
      intro k hk
      have:=hls l (by simp) _ hk
      simp [L7] at this) (hnp d rfl rfl)
     exact ⟨S',K',w',by rw [g']; rfl⟩
   |cons r2 rs=>
    have h':(bif N4 (r1::r2::rs) then none else some [(⟨d,false,.tup (Eqa (r1::r2::rs) ls)⟩:Up)])=some us:=by
     unfold Sq at h
     obtain ⟨k1,t1⟩:=r1
     cases k1<;>exact h
    cases hp:N4 (r1::r2::rs) with
    |true=>rw [hp] at h'; simp at h'
    |false=>
     rw [hp] at h'
     simp only [cond_false,Option.some.injEq] at h'
     subst h'
     obtain ⟨vs,rfl,h2⟩:=hr
     generalize hR:(r1::r2::rs)=R2 at hp h2
     have key:∀ (s:Sv) (rs:List (RK×Ty)) (i:Nat) (ls:List (List Lf)) (us:List Value),N4 rs=false→Mz X.P S n0 (i+1) rs ls us→Qk X.P (Ny S (Ola d true) d s (.tuple vs.toArray)) d i (Eqa rs ls) us:=by
      intro s rs
      induction rs with
      |nil=>
       intro i ls us _ h
       have:us=[]:=by cases ls<;>exact h
       subst this
       simp [Eqa,Qk]
      |cons r rs ih=>
       intro i ls us hp h
       cases ls with
       |nil=>exact h.elim
       |cons l ls=>
        cases us with
        |nil=>exact h.elim
        |cons u us=>
         obtain ⟨k,t⟩:=r
         have L:=J2 S (Ola d true) d s (.tuple vs.toArray)
         have hp2:N4 rs=false:=by cases k<;>first|(simp [N4] at hp; done)|simpa [N4] using hp
         refine ⟨?_,ih (i+1) ls us hp2 h.2⟩
         cases k with
         |ptr=>simp [N4] at hp
         |one=>
          have h2':Ad X.P S (λ _ => .tm (i+1) []) 0 l [u]:=h.1
          refine ⟨[u],rfl,?_⟩
          cases l with
          |nil=>exact h2'.elim
          |cons x l=>
           cases l with
           |cons y l=>exact h2'.2.elim
           |nil=>exact ⟨Bm.later (lab := .tm (i+1) []) (lab' := .pl d [i,0]) L h2'.1 (λ k hk=>⟨Lz hk rfl,rfl⟩),trivial⟩
         |agg=>
          obtain ⟨ws,e1,h3⟩:=h.1
          exact ⟨ws,e1,h3.imp (λ j x u hx=>hx.later L (λ k hk=>⟨Lz hk rfl,rfl⟩))⟩
     have hsv:Ma X.P (Ny S (Ola d true) d (.tup (Eqa R2 ls)) (.tuple vs.toArray)) d (.tup (Eqa R2 ls)) (.tuple vs.toArray):=⟨vs,rfl,key _ _ 0 ls vs hp h2⟩
     have K2:=K.put (hd d rfl) (Ola d true) (I2a d true) (.tup (Eqa R2 ls)) _ hsv
     exact ⟨_,K2,rfl,by show upd S.g d _=_; rw [Av,← hg]⟩
def Psa (N:Nat):Nat→List Nat→Option Lab:=λ n _=>if n≤N then some .fz else none
theorem Ad.calmN {P:Program} {S:Sit} {N i:Nat} (hi:i≤N) {q:Nat→List Nat}:∀ {l:List Lf} {j:Nat} {us:List Value},(∀ y∈l,L7 y=true)→Ad P S (λ n => .tm i (q n)) j l us→Ad P { S with O:=atO S.O (Psa N) } (λ n => .tm i (q n)) j (l.map P3) us
 |[],_,[],_,_=>trivial
 |[],_,_::_,_,h=>h.elim
 |_::_,_,[],_,h=>h.elim
 |x::l,j,u::us,hs,h=>by
  have hfz:∀ k,S.O k = .fz→atO S.O (Psa N) k = .fz:=λ k hk=>Bd hk (by simp)
  refine ⟨?_,Ad.calmN hi (λ y hy=>hs y (List.mem_cons_of_mem _ hy)) h.2⟩
  have h1:=hs x (by simp)
  cases x with
  |sc v=>exact h.1
  |fz e r xs=>exact Ty.rep_mono (t := .sl e r) hfz (λ _ _=>rfl) _ _ h.1
  |own e r xs=>
   have h2:I8 P S.O S.w (.tm i (q j)) e r xs u:=h.1
   exact h2.reads (O':=λ k=>atO S.O (Psa N) k) hfz (λ k hk=>Lz hk (by simp [Psa,hi]))
  |_=>simp [L7] at h1
theorem Qy.calmN {P:Program} {S:Sit} {N n0 i:Nat} (hi:i≤N) {k:RK} (hk:k = .ptr→N<i+500) {l:List Lf} {u:Value} (hs:∀ y∈l,L7 y=true) (h:Qy P S n0 i k l u):Qy P { S with O:=atO S.O (Psa N) } n0 i k (l.map P3) u:=by
 cases k with
 |one=>exact Ad.calmN (q:=λ _=>[]) hi hs h
 |agg=>
  obtain ⟨us,e,h⟩:=h
  exact ⟨us,e,Ad.calmN (q:=λ n=>[n]) hi hs h⟩
 |ptr=>
  obtain ⟨k,o,c,e,us,h1,h2,h3,h4,h5,h6,h7,h8⟩:=h
  have:=hk rfl
  refine ⟨k,o,c,e,us,h1,h2,h3,?_,by rw [List.length_map]; exact h5,by rw [List.length_map]; exact h6,by rw [List.length_map]; exact h7,Ad.calmN (q:=λ n=>[n]) hi hs h8⟩
  exact Ou h4 (by unfold Psa; rw [if_neg (by omega)])
theorem Li.calmN {P:Program} {S:Sit} {N n0:Nat} {rs:List (RK×Ty)} (hN:rs.length≤N) (hk:N4 rs=true→N<501) {ls:List (List Lf)} {v:Value} (hs:∀ l∈ls,∀ y∈l,L7 y=true) (h:Li P S n0 rs ls v):Li P { S with O:=atO S.O (Psa N) } n0 rs (ls.map λ l=>l.map P3) v:=by
 have all:∀ (rs:List (RK×Ty)) (i:Nat) (ls:List (List Lf)) (us:List Value),1≤i→i+rs.length≤N+1→(N4 rs=true→N<501)→(∀ l∈ls,∀ y∈l,L7 y=true)→Mz P S n0 i rs ls us→Mz P { S with O:=atO S.O (Psa N) } n0 i rs (ls.map λ l=>l.map P3) us:=by
  intro rs
  induction rs with
  |nil=>intro i ls us _ _ _ _ h; exact h
  |cons r rs ih=>
   intro i ls us h1 h2 h3 h4 h
   simp only [List.length_cons] at h2
   cases ls with
   |nil=>exact h.elim
   |cons l ls=>
    cases us with
    |nil=>exact h.elim
    |cons u us=>
     refine ⟨Qy.calmN (by omega) (λ hp=>?_) (h4 l (by simp)) h.1,ih (i+1) ls us (by omega) (by omega) (λ hp=>h3 ?_) (λ l hl=>h4 l (List.mem_cons_of_mem _ hl)) h.2⟩
     ·have:=h3 (by obtain ⟨k,t⟩:=r; have:k = .ptr:=hp; subst this; rfl)
      omega
     ·obtain ⟨k,t⟩:=r
      cases k<;>first|exact hp|rfl
 unfold Li at h ⊢
 split at h
 ·rename_i r
  obtain ⟨l,ls',e,h⟩:=h
  subst e
  refine ⟨l.map P3,_,rfl,Qy.calmN (by simpa using hN) (λ hp=>?_) (hs l (by simp)) h⟩
  have:=hk (by obtain ⟨k,t⟩:=r; have:k = .ptr:=hp; subst this; rfl)
  omega
 ·obtain ⟨us,e,h⟩:=h
  exact ⟨us,e,all _ 1 _ _ (Nat.le_refl _) (by omega) hk hs h⟩
theorem Kpa {E:En} (K:B7 X S a) {A1:Ab} (hg:S.g=get A1) {rs:List (RK×Ty)} {ls:List (List Lf)} {d:Option Nat} {us:List Up} {v:Value} {n0:Nat} (hN:N4 rs=true→rs.length≤400) (hd:∀ d',d=some d'→d'<X.nt) (hn0:X.w0.heap.size≤n0) (hls:∀ l∈ls,∀ y∈l,L7 y=true) (hnp:∀ d',d=some d'→N4 rs=true→X.np≤d')
  (hr:Li X.P S n0 rs ls v) (h:Sq A1 rs (shL E d ls) d=some us):∃ S',B7 X S' (a.put d v)∧S'.w=S.w∧S'.g=get (ups A1 us):=by
 cases d with
 |none=>exact I3a K hg hd hn0 hls hnp hr h
 |some d=>
  unfold shL at h
  simp only at h
  cases hsh:E.sh d with
  |false=>rw [hsh] at h; exact I3a K hg hd hn0 hls hnp hr h
  |true=>
   rw [hsh,cond_true] at h
   have go:∀ N,rs.length≤N→(N4 rs=true→N<501)→∃ S',B7 X S' (a.put (some d) v)∧S'.w=S.w∧S'.g=get (ups A1 us):=by
    intro N h1 h2
    obtain ⟨K1,_⟩:=K.names (Psa N) (by intro n q; unfold Psa; split<;>simp)
    refine I3a (S := { S with O:=atO S.O (Psa N) }) K1 hg hd hn0 (λ l hl y hy=>?_) hnp (hr.calmN h1 h2 hls) h
    obtain ⟨l0,h3,rfl⟩:=List.mem_map.1 hl
    obtain ⟨y0,h4,rfl⟩:=List.mem_map.1 hy
    have:=hls l0 h3 y0 h4
    cases y0<;>first|rfl|simp [L7] at this
   cases hp:N4 rs with
   |true=>exact go 400 (hN hp) (λ _=>by omega)
   |false=>exact go rs.length (Nat.le_refl _) (λ h=>by rw [hp] at h; cases h)
end
end

section
attribute [local irreducible] C H
def Mk:List Ty→List (List Lf)→List (List Lf)→Prop
 |[],[],[]=>True
 |t::ts,l::ls,l'::ls'=>(∃ y,mkW t l=some y∧l'=A6 t y)∧Mk ts ls ls'
 |_,_,_=>False
theorem Xe:∀ (ts:List Ty) (ls:List (List Lf)) (x:Den ts),Ug ts ls=some x→Mk ts ls (Fp ts x)
 |[],[],_,_=>trivial
 |[],_::_,_,h=>by simp [Ug] at h
 |[t],[],_,h=>by simp [Ug] at h
 |[t],[l],x,h=>⟨⟨x,h,rfl⟩,trivial⟩
 |[t],_::_::_,_,h=>by simp [Ug] at h
 |_::_::_,[],_,h=>by simp [Ug] at h
 |t::u::ts,l::ls,x,h=>by
  simp only [Ug] at h
  split at h
  ·rename_i y hy
   split at h
   ·rename_i z hz
    cases h
    exact ⟨⟨y,hy,rfl⟩,Xe (u::ts) ls z hz⟩
   ·cases h
  ·cases h
theorem Mf:∀ (ts:List Ty) (x:Den ts),∀ l∈Fp ts x,∀ y∈l,L7 y=true
 |[],_=>by simp [Fp]
 |[t],x=>by
  intro l hl
  simp [Fp] at hl
  subst hl
  exact N0 t x
 |t::u::ts,x=>by
  intro l hl
  rcases List.mem_cons.1 (show l∈A6 t x.1::Fp (u::ts) x.2 from hl) with rfl|h
  ·exact N0 t x.1
  ·exact Mf (u::ts) x.2 l h
theorem Yz (t:Ty) (x:t.den) (h:Mw t=true):A6 t x=lvs t x:=Xc t x h
section
variable {X:Cx} {S S':Sit} {a:Act} {E:En} {A:Ab} {o:Oper} {R:Type} {Kc:List Up→Option R} {r:R}
theorem Uha (hE:Mt X E) (K:B7 X S a) (hg:S.g=get A) {T:TypeId} {x:Operand} {s:Sv} {ag:Bool} (hx:opT E T A x=some s) (hf:My ag s=true):
  ∃ us,∃ f:Nat→Lab,(if ag then a.eval x = .agg us.toArray else us=[a.eval x])∧Ad X.P S f 0 (parts s) us∧∀ n,f n ≠ .no:=by
 rcases Pd hE K hg hx with ⟨t,rfl,ht,hst,het,hok⟩|⟨hnt,y,rfl,hy⟩
 ·cases s with
  |tup vs=>simp [My,Oja] at hf
  |one y=>
   have:ag=false:=by cases ag<;>simp [My,Oja] at hf ⊢
   subst this
   exact ⟨[a.eval (.tmp t)],λ _ => .pl t [],rfl,⟨hok,trivial⟩,by simp⟩
  |agg l=>
   have:ag=true:=by cases ag<;>simp [My,Oja] at hf ⊢
   subst this
   obtain ⟨us,e1,hl⟩:=hok
   exact ⟨us,λ n => .pl t [n],e1,hl,by simp⟩
 ·have:ag=false:=by cases ag<;>simp [My,Oja] at hf ⊢
  subst this
  exact ⟨[a.eval x],λ _ => .fz,rfl,⟨hy _,trivial⟩,by simp⟩
theorem Pta {ag:Bool} {s:Sv} (hf:My ag s=true):∀ vs,s ≠ .tup vs:=by
 intro vs e
 subst e
 simp [My,Oja] at hf
theorem Bta {ag:Bool} {s:Sv} {u:Value} {us:List Value} (hf:My ag s=true) (h:X1 s u us):if ag then u = .agg us.toArray else us=[u]:=by
 cases s with
 |tup vs=>simp [My,Oja] at hf
 |one y=>
  have:ag=false:=by cases ag<;>simp [My,Oja] at hf ⊢
  subst this
  exact h
 |agg l=>
  have:ag=true:=by cases ag<;>simp [My,Oja] at hf ⊢
  subst this
  exact h
theorem Bua {P:Program} {S:Sit} {G:Nat→Prop} {t:Ty} {l:List Lf} {y:t.den} {us:List Value} (hG:∀ k,G k→S.O k = .fz) (hm:mkW t l=some y) (hn:Mw t=true) (h:No (Mn P G S.w) l us) (f:Nat→Lab) (j:Nat):Ad P S f j (A6 t y) us:=by
 have h1:=Xz hm h
 have h2:=Pw (P:=P) (G:=λ k=>S.O k = .fz) (w:=S.w) t y us (Ty.rep_mono hG (λ _ _=>rfl) t y us h1)
 rw [Yz t y hn]
 exact Ad.ofRep h2 f j
def Uu (S:Sit):Nat→Lab:=λ k=>if S.O k = .no then .no else .fz
theorem Uia {y:Lf} {u:Value} {lab:Lab} (K:B7 X S a) (hg:S.g=get A) (h:Bm X.P S lab y u):∃ lab',(lab'=lab∨∃ p,lab' = .pl p [])∧Bm X.P S lab' (N1 A y) u:=by
 unfold N1
 split
 ·rename_i p v
  split
  ·rename_i n e r xs hp
   cases hb:Nat.beq n v with
   |false=>exact ⟨lab,.inl rfl,trivial⟩
   |true=>
    have hnv:n=v:=by simpa using hb
    subst hnv
    have e1:u=S.ph p:=h.2 (by rw [hg,hp])
    refine ⟨.pl p [],.inr ⟨p,rfl⟩,?_⟩
    have:=K.at_ p
    rw [hg,hp] at this
    rw [e1]
    exact this
  ·rename_i n e r xs hp
   cases hb:Nat.beq n v with
   |false=>exact ⟨lab,.inl rfl,trivial⟩
   |true=>
    have hnv:n=v:=by simpa using hb
    subst hnv
    have e1:u=S.ph p:=h.2 (by rw [hg,hp])
    refine ⟨.pl p [],.inr ⟨p,rfl⟩,?_⟩
    have:=K.at_ p
    rw [hg,hp] at this
    rw [e1]
    exact this
  ·exact ⟨lab,.inl rfl,trivial⟩
 ·exact ⟨lab,.inl rfl,h⟩
theorem Kqa (K:B7 X S a) (hg:S.g=get A) {f:Nat→Lab} (hf:∀ n,f n ≠ .no):∀ {l:List Lf} {j:Nat} {us:List Value},Ad X.P S f j l us→A4 (l.map λ y=>P3 (Cpa A y))=true→
  No (Mn X.P (λ k=>Uu S k = .fz) S.w) (l.map λ y=>P3 (Cpa A y)) us
 |[],_,[],_,_ => .nil
 |[],_,_::_,h,_=>h.elim
 |_::_,_,[],h,_=>h.elim
 |y::l,j,u::us,h,hst=>by
  have hfz:∀ k,S.O k = .fz→Uu S k = .fz:=λ k hk=>by simp [Uu,hk]
  rw [List.map_cons] at hst ⊢
  have hrest:A4 (l.map λ y=>P3 (Cpa A y))=true:=by
   generalize P3 (Cpa A y)=z at hst
   cases z<;>first|(simp [A4] at hst; done)|simpa [A4] using hst
  refine .cons ?_ (Kqa K hg hf h.2 hrest)
  have hv:(∃ lab',lab' ≠ .no∧Bm X.P S lab' (Cpa A y) u)∨∃ p e r,∃ xs:List (Ty.den r),Cpa A y = .fz e r xs∧Hsa X.P S p e r xs u:=by
   unfold Cpa
   split
   ·rename_i p v pi e r xs
    cases hq:Nat.beq (get A p).1 v with
    |false=>exact .inl ⟨f j,hf j,trivial⟩
    |true=>
     obtain ⟨_,_,h2⟩:=h.1
     exact .inr ⟨p,e,r,xs,rfl,(h2 (by rw [hg]; exact Nat.eq_of_beq_eq_true hq)).2.1⟩
   ·obtain ⟨lab',hlab,h1⟩:=Uia K hg h.1
    refine .inl ⟨lab',?_,h1⟩
    rcases hlab with rfl|⟨p,rfl⟩
    ·exact hf j
    ·simp
  rcases hv with ⟨lab',hno,h1⟩|⟨p,e,r,xs,e1,h1⟩
  rotate_left 1
  ·rw [e1]
   exact h1.reads (λ k hk=>by
    rcases hk with hk|hk<;>simp [Uu,hk])
  generalize Cpa A y=z at h1 hst
  cases z with
  |sc v=>exact h1
  |fz e r xs=>exact Ty.rep_mono (t := .sl e r) hfz (λ _ _=>rfl) _ _ h1
  |own e r xs=>
   have h2:I8 X.P S.O S.w lab' e r xs u:=h1
   exact h2.reads (O':=Uu S) hfz (λ k hk=>by simp [Uu,hk,hno])
  |_=>simp [P3,A4] at hst
theorem Fha (hE:Mt X E) (K:B7 X S a) (hg:S.g=get A) (rg:Nat→Nat×Nat) (nv:Nat) (hs:List Value):∀ (ps:List Par) {xs:List Operand} {ss:List Sv} {ls ls':List (List Lf)} {i:Nat},No (λ s x=>∃ T,opT E T A x=some s) ss xs→Qq A ps ss=some ls→Mk (ps.map Par.ty) ls ls'→
  Qp ps=true→Pl X.P (bare (Uu S) S.w) rg nv hs i ps ls' (xs.map a.eval)∧xs.length=ps.length
 |[],_,_,ls,ls',i,.nil,h,hm,_=>by
  simp only [Qq,Option.some.injEq] at h
  subst h
  cases ls' with
  |nil=>exact ⟨trivial,rfl⟩
  |cons=>exact hm.elim
 |[],_,_,ls,ls',i,.cons _ _,h,hm,_=>by simp [Qq] at h
 |.ptr _ _::_,_,_,_,_,_,_,_,_,hl=>by simp [Qp] at hl
 |.hid _ _::_,_,_,_,_,_,_,_,_,hl=>by simp [Qp] at hl
 |.rd _::_,_,_,_,_,_,_,_,_,hl=>by simp [Qp] at hl
 |.fn _ _::_,_,_,_,_,_,_,_,_,hl=>by simp [Qp] at hl
 |.val ag t::ps,_,_,ls,ls',i,.nil,h,_,_=>by simp [Qq] at h
 |.val ag t::ps,_,_,ls,ls',i,.cons (x:=s) (y:=x) (xs:=ss) (ys:=xs) hs1 hss,h,hm,hl=>by
  simp only [Qp,Bool.and_eq_true] at hl
  simp only [Qq] at h
  obtain ⟨hq,h⟩:=cs h
  simp only [Bool.and_eq_true] at hq
  split at h
  ·rename_i ls1 hls1
   cases h
   cases ls' with
   |nil=>exact hm.elim
   |cons l' ls'=>
    obtain ⟨⟨y,hy,rfl⟩,hm2⟩:=hm
    obtain ⟨T,hx⟩:=hs1
    obtain ⟨us,f,hsh,hlf,hf⟩:=Uha hE K hg hx hq.1
    obtain ⟨r1,r2⟩:=Fha hE K hg rg nv hs (i:=i+1) ps hss hls1 hm2 hl.2
    exact ⟨⟨⟨us,hsh,Bua (S:=bare (Uu S) S.w) (λ k hk=>hk) hy hl.1 (Kqa K hg hf hlf hq.2) _ _⟩,r1⟩,by simp [r2]⟩
  ·cases h
def Q2:Lf→Bool
 |.sc _=>true
 |.own _ r _=>Jt r
 |_=>false
theorem Ow:∀ (t:Ty) (x:t.den),Jt t=true→∀ y∈A6 t x,Q2 y=true
 |.i _,_,_=>by simp [A6,Q2]
 |.b,_,_=>by simp [A6,Q2]
 |.s,_,_=>by simp [A6,Q2]
 |.sl _ _,_,h=>by simp [Jt] at h
 |.ow _ r,_,h=>by simpa [A6,Q2,Jt] using h
 |.pr x y,p,h=>by
  simp only [Jt,Bool.and_eq_true] at h
  intro z hz
  rcases List.mem_append.1 (show z∈A6 x p.1++A6 y p.2 from hz) with h'|h'
  ·exact Ow x p.1 h.1 z h'
  ·exact Ow y p.2 h.2 z h'
theorem Byb {P:Program} {S1 S2:Sit} {lab lab':Lab} {y:Lf} {u:Value} (hy:Q2 y=true) (hw:S2.w=S1.w) (hl:∀ k,S1.O k=lab→S2.O k=lab') (h:Bm P S1 lab y u):Bm P S2 lab' y u:=by
 cases y with
 |sc v=>exact h
 |own e r xs=>
  obtain ⟨bs,h1,h2,h3⟩:=h
  exact ⟨bs,Ty.dep_all (.ow e r) xs [u] bs hy (λ k _=>by rw [hw]) h1,h2,λ k hk=>hl k (h3 k hk)⟩
 |_=>simp [Q2] at hy
theorem Z0:∀ (rs:List (RK×Ty)) (x:Den (rs.map Prod.snd)),Aza rs=true→∀ l∈Fp (rs.map Prod.snd) x,∀ y∈l,Q2 y=true
 |[],_,_=>λ l hl=>by cases (show l∈([]:List (List Lf)) from hl)
 |[(k,t)],x,h=>by
  intro l hl
  have hl':l∈[A6 t x]:=hl
  simp at hl'
  subst hl'
  have:Jt t=true:=by cases k<;>simp [Aza] at h<;>exact h
  exact Ow t x this
 |(k,t)::r2::rs,x,h=>by
  intro l hl
  have h2:Jt t=true∧Aza (r2::rs)=true:=by
   cases k<;>simp only [Aza,Bool.and_eq_true] at h<;>first|exact h|cases h
  rcases List.mem_cons.1 (show l∈A6 t x.1::Fp ((r2::rs).map Prod.snd) x.2 from hl) with rfl|h'
  ·exact Ow t x.1 h2.1
  ·exact Z0 (r2::rs) x.2 h2.2 l h'
end
end

section
attribute [local irreducible] C H
section
variable {X:Cx} {S S':Sit} {a:Act} {E:En} {A:Ab} {o:Oper} {R:Type} {Kc:List Up→Option R} {r:R}
theorem Pua {P:Program} {w:World} {c:Call} {f:FuncId} {en:Ent} (ho:o.op = .call c) (hc:c.callee = .value (.func f)) (hf:Pm P f en):(execOp a.eval o).run P w = .ok (.enter f (c.args.toList.map a.eval).toArray) w:=by
 obtain ⟨fn,h1,h2,h3⟩:=hf.fn
 have e1:c.args.map a.eval=(c.args.toList.map a.eval).toArray:=by
  apply Array.ext'
  simp
 unfold execOp
 simp only [ho,resolve,hc,Act.eval,Deferred.ofValue,Sem.run_bind,Sem.run_pure,Result.andThen_ok,invoke,callFunc,run_program,h1]
 rw [if_neg (by rw [h2]; simp),if_neg (by rw [h3]; simp)]
 simp only [Sem.run_pure,Array.append_empty,Array.empty_append]
 rw [e1]
theorem N3a {P:Program} {w:World} {c:Call} {f:FuncId} {en:Ent} {t:Nat} {us:List Value} (ho:o.op = .call c) (hc:c.callee = .value (.tmp t)) (hv:a.eval (.tmp t) = .func (.func f) #[] us.toArray) (hf:Pm P f en):
  (execOp a.eval o).run P w = .ok (.enter f (c.args.toList.map a.eval++us).toArray) w:=by
 obtain ⟨fn,h1,h2,h3⟩:=hf.fn
 have e1 : #[]++(c.args.map a.eval++us.toArray)=(c.args.toList.map a.eval++us).toArray:=by
  apply Array.ext'
  simp
 have e2 : #[]++c.args.map a.eval++us.toArray=(c.args.toList.map a.eval++us).toArray:=by
  apply Array.ext'
  simp
 unfold execOp
 simp only [ho,resolve,hc,hv,Deferred.ofValue,Sem.run_bind,Sem.run_pure,Result.andThen_ok,invoke,callFunc,run_program,h1]
 rw [if_neg (by rw [h2]; simp),if_neg (by rw [h3]; simp)]
 simp only [Sem.run_pure]
 first|rw [e1]|rw [e2]
theorem Bva {f:FuncId} {args:Array Value} {w:World} {A':Ab} (hr:(execOp a.eval o).run X.P w = .ok (.enter f args) w)
  (h:Calls X.P f args w (λ e w'=>∃ v,e = .returned v∧∃ S',S'.w=w'∧B7 X S' (a.put o.dst v)∧S'.g=get A')):U0a X o a w A':=by
 intro next Q hn
 unfold Oper.wp
 rw [hr,Oper.upon_enter]
 intro cs
 obtain ⟨e,w',fr,⟨v,rfl,S',hw,K',hg'⟩,rest⟩:=h cs
 refine ⟨_,w',fr,?_,rest⟩
 rw [← hw]
 exact hn S' _ K' hg'
theorem Uv {P:Program} {f:FuncId} {args:Array Value} {w:World} {R1 R2:Ending→World→Prop} (h:Calls P f args w R1) (hi:∀ e w',R1 e w'→R2 e w'):Calls P f args w R2:=by
 intro cs
 obtain ⟨e,w',fr,hr,rest⟩:=h cs
 exact ⟨e,w',fr,hi _ _ hr,rest⟩
theorem Bwa:∀ ps:List Par,Qp ps=true→N3 ps=[]
 |[],_=>rfl
 |.val _ _::ps,h=>by
  simp only [Qp,Bool.and_eq_true] at h
  exact Bwa ps h.2
 |.ptr _ _::_,h=>by simp [Qp] at h
 |.hid _ _::_,h=>by simp [Qp] at h
 |.rd _::_,h=>by simp [Qp] at h
 |.fn _ _::_,h=>by simp [Qp] at h
theorem Uja {ts:List Ty} {rs:List (RK×Ty)} (he:ts=rs.map Prod.snd) (x:Den ts) (h:Aza rs=true):∀ l∈Fp ts x,∀ y∈l,Q2 y=true:=by
 subst he
 exact Z0 rs x h
theorem Rt:∀ rs:List (RK×Ty),Aza rs=true→N4 rs=false
 |[],_=>rfl
 |(k,t)::rs,h=>by
  cases k with
  |ptr=>simp [Aza] at h
  |one=>simp only [Aza,Bool.and_eq_true] at h; exact Rt rs h.2
  |agg=>simp only [Aza,Bool.and_eq_true] at h; exact Rt rs h.2
theorem Z3a (hE:Mt X E) (K:B7 X S a) (hg:S.g=get A) {xs:List Operand} {f:FuncId} {en:Ent} {ss:List Sv} (hrun:(execOp a.eval o).run X.P S.w = .ok (.enter f (xs.map a.eval).toArray) S.w) (hd:∀ d,o.dst=some d→d<X.nt)
  (hco:Pm X.P f en) (hnv:en.nv=xs.length) (hss:No (λ s x=>∃ T,opT E T A x=some s) ss xs) (hl:Qp en.ps=true) (hn:Aza en.rs=true)
  (h:(match Qq A en.ps ss with
  |none=>none
  |some ls=>match Ug _ ls with
   |none=>none
   |some x=>(en.run x).bind λ r=>
    match Sq A en.rs (shL E o.dst (Fp _ r)) o.dst with
    |none=>none
    |some rs=>Kc rs)=some r):Ld X o a S.w A Kc r:=by
 split at h
 ·cases h
 ·rename_i ls hls
  split at h
  ·cases h
  ·rename_i x hx
   cases hrun':en.run x with
   |none=>rw [hrun'] at h; simp at h
   |some y=>
    rw [hrun'] at h
    simp only [Option.bind_some] at h
    split at h
    ·cases h
    ·rename_i us hus
     obtain ⟨hargs,hlen⟩:=Fha (i:=0) hE K hg (λ _=>(0,0)) en.nv ((xs.map a.eval).drop en.nv) en.ps hss hls (Xe _ _ _ hx) hl
     have hs:=hco.sound x y hrun' S.w (Uu S) (λ _=>(0,0)) _ (λ k hk=>K.lt k (λ e=>hk (by simp [Uu,e]))) (λ k b hk=>by unfold Uu at hk; split at hk<;>cases hk) hargs
     rw [List.take_of_length_le (by rw [List.length_map,hnv]; exact Nat.le_refl _)] at hs
     refine ⟨us,h,Bva hrun (Uv hs ?_)⟩
     rintro e w' ⟨v,O',rfl,hF,hlt,hres,_⟩
     refine ⟨v,rfl,?_⟩
     have hsame:∀ k,k<S.w.heap.size→w'.heap[k]? = S.w.heap[k]? ∧ (O' k = .no∨O' k = .fz):=λ k hk=>by
      by_cases h0:S.O k = .no
      ·have:=hF.no k hk (by simp [Uu,h0])
       exact ⟨this.2,.inl this.1⟩
      ·have:=hF.fz k hk (by simp [Uu,h0])
       exact ⟨this.2,.inr this.1⟩
     let O2:Nat→Lab:=λ k=>if k<S.w.heap.size then S.O k else O' k
     obtain ⟨K1,L1⟩:=K.world (w':=w') (O':=O2) (λ k hk _=>⟨if_pos hk,(hsame k hk).1⟩) hF.os hF.tape hF.out hF.size (λ k hk=>by
      by_cases hkl:k<S.w.heap.size
      ·exact Nat.lt_of_lt_of_le hkl hF.size
      ·exact hlt k (by simpa [O2,hkl] using hk))
     have htm:∀ k i q,O' k = .tm i q→O2 k = .tm i q:=λ k i q hk=>by
      have:¬ k<S.w.heap.size:=λ hkl=>by
       rcases (hsame k hkl).2 with h|h<;>rw [h] at hk<;>cases hk
      simp [O2,this,hk]
     have hnews:=Uja (by rw [Bwa en.ps hl,List.append_nil]) y hn
     have hres1:Li X.P (B8a S w' O2) S.w.heap.size en.rs (Fp _ y) v:=Li.imp (S1:=bare O' w') (S2:=B8a S w' O2) rfl (λ k i hk=>htm k i [] hk) (λ l hl' z hz i q u hu=>Byb (S1:=bare O' w') (S2:=B8a S w' O2) (hnews l hl' z hz) rfl (λ k hk=>htm k i q hk) hu) hres
     obtain ⟨S2,K2,w2,g2⟩:=Kpa (E:=E) K1 (A1:=A) hg (λ h=>by rw [Rt _ hn] at h; cases h) hd K.fr.size (Mf _ y) (λ d' _ h=>by rw [Rt _ hn] at h; cases h) hres1 hus
     exact ⟨S2,w2,K2,g2⟩
end
end

section
attribute [local irreducible] C H
def B2a:List Ty→List Lf→Prop
 |.ow _ _::ts,_::l=>B2a ts l
 |_::ts,x::l=>x.isOwn=false∧B2a ts l
 |[],[]=>True
 |_,_=>False
theorem N4a (z:Lf):(P3 z).isOwn=false:=by cases z<;>rfl
theorem Q3:∀ (ts:List Ty) (l:List Lf) {A:Ab} {m:List Lf} {us:List Up},Ix A ts l=some (m,us)→B2a ts m
 |[],[],A,m,us,h=>by
  simp only [Ix,Option.some.injEq,Prod.mk.injEq] at h
  obtain ⟨rfl,_⟩:=h
  trivial
 |[],_::_,A,m,us,h=>by simp [Ix] at h
 |t::ts,[],A,m,us,h=>by cases t<;>simp [Ix] at h
 |t::ts,x::l,A,m,us,h=>by
  cases t with
  |ow e r=>
   simp only [Ix] at h
   split at h
   ·split at h
    ·rename_i hr
     cases h
     exact Q3 ts l hr
    ·cases h
   ·cases h
  |_=>
   simp only [Ix] at h
   split at h
   ·rename_i hr
    cases h
    exact ⟨N4a _,Q3 ts l hr⟩
   ·cases h
theorem Bxa {A:Ab} {x:Operand} {s:Sv} {t:Ty} {m:List Lf} {us:List Up} (h:Ui A x s t=some (m,us)):B2a (Lo t) m:=by
 unfold Ui Uh at h
 split at h
 ·rename_i m0 vs0 ht
  cases hst:A4 m0 with
  |false=>rw [hst] at h; simp at h
  |true=>
   rw [hst] at h
   simp only [cond_true,Option.some.injEq,Prod.mk.injEq] at h
   obtain ⟨rfl,rfl⟩:=h
   exact Q3 _ _ ht
 ·cases h
theorem Uw {A:Ab} {b v:Nat} {t t':Ty} {m:List Lf} {us:List Up} (h:Sp A b v t t'=some (m,us)):B2a (Lo t) m:=by
 unfold Sp at h
 split at h
 ·rename_i n hd hp
  obtain ⟨hq,h⟩:=cs h
  split at h
  ·rename_i l us0 hx
   cases hst:A4 l with
   |false=>rw [hst] at h; simp at h
   |true=>
    rw [hst] at h
    simp only [cond_true,Option.some.injEq,Prod.mk.injEq] at h
    obtain ⟨rfl,rfl⟩:=h
    exact Q3 _ _ hx
  ·cases h
 ·cases h
theorem Uka {P:Program} {S:Sit} {f:Nat→Lab}:∀ (t:Ty) (ts:List Ty) (l l':List Lf) (x:t.den) (j:Nat) (us:List Value),B2a (Lo t++ts) l→mkT t l=some (x,l')→Ad P S f j l us→Ad P S f j (A6 t x++l') us∧B2a ts l':=by
 intro t
 induction t with
 |pr p q ihp ihq=>
  intro ts l l' x j us h hm hl
  simp only [Lo,List.append_assoc] at h
  simp only [mkT] at hm
  split at hm
  ·rename_i y l1 h1
   split at hm
   ·rename_i z l2 h2
    simp only [Option.some.injEq,Prod.mk.injEq] at hm
    obtain ⟨rfl,rfl⟩:=hm
    obtain ⟨h3,h4⟩:=ihp _ _ _ _ j us h h1 hl
    have key:∀ (a:List Lf) (j:Nat) (us:List Value),Ad P S f j (a++l1) us→Ad P S f j (a++(A6 q z++l2)) us∧B2a ts l2:=by
     intro a
     induction a with
     |nil=>intro j us h5; exact ihq _ _ _ _ j us h4 h2 h5
     |cons b a ih=>
      intro j us h5
      cases us with
      |nil=>exact h5.elim
      |cons u us=>exact ⟨⟨h5.1,(ih (j+1) us h5.2).1⟩,(ih (j+1) us h5.2).2⟩
    have h5:=key _ j us h3
    rw [← List.append_assoc] at h5
    exact h5
   ·cases hm
  ·cases hm
 |ow e r _=>
  intro ts l l' x j us hf hm hl
  cases l with
  |nil=>simp [mkT] at hm
  |cons z l=>
   cases us with
   |nil=>exact hl.elim
   |cons u us=>
    cases z<;>first|(simp [mkT] at hm; done)|skip
    rename_i e' r' xs
    simp only [mkT] at hm
    rw [csi] at hm
    obtain ⟨hb,hm⟩:=hm
    have he:e=e':=Nat.eq_of_beq_eq_true hb
    subst he
    split at hm
    ·rename_i ys hys
     simp only [Option.some.injEq,Prod.mk.injEq] at hm
     obtain ⟨rfl,rfl⟩:=hm
     exact ⟨⟨I8.cast hys hl.1,hl.2⟩,hf⟩
    ·cases hm
 |sl e r _=>
  intro ts l l' x j us hf hm hl
  cases l with
  |nil=>simp [mkT] at hm
  |cons z l=>
   cases us with
   |nil=>exact hl.elim
   |cons u us=>
    obtain ⟨hz,hf⟩:z.isOwn=false∧B2a ts l:=hf
    cases z<;>first|(simp [mkT] at hm; done)|(simp [Lf.isOwn] at hz; done)|skip
    rename_i e' r' xs
    simp only [mkT] at hm
    rw [csi] at hm
    obtain ⟨hb,hm⟩:=hm
    have he:e=e':=Nat.eq_of_beq_eq_true hb
    subst he
    split at hm
    ·rename_i ys hys
     simp only [Option.some.injEq,Prod.mk.injEq] at hm
     obtain ⟨rfl,rfl⟩:=hm
     exact ⟨⟨Te hys hl.1,hl.2⟩,hf⟩
    ·cases hm
 |i k=>
  intro ts l l' x j us hf hm hl
  cases l with
  |nil=>simp [mkT] at hm
  |cons z l=>
   cases z<;>first|(simp [mkT] at hm; done)|skip
   rename_i v
   cases v<;>first|(simp [mkT] at hm; done)|skip
   rename_i k' n
   simp only [mkT] at hm
   by_cases hk:k=k'
   ·subst hk
    simp at hm
    obtain ⟨rfl,rfl⟩:=hm
    exact ⟨hl,hf.2⟩
   ·simp [hk] at hm
 |b=>
  intro ts l l' x j us hf hm hl
  cases l with
  |nil=>simp [mkT] at hm
  |cons z l=>
   cases z<;>first|(simp [mkT] at hm; done)|skip
   rename_i v
   cases v<;>first|(simp [mkT] at hm; done)|skip
   simp [mkT] at hm
   obtain ⟨rfl,rfl⟩:=hm
   exact ⟨hl,hf.2⟩
 |s=>
  intro ts l l' x j us hf hm hl
  cases l with
  |nil=>simp [mkT] at hm
  |cons z l=>
   cases z<;>first|(simp [mkT] at hm; done)|skip
   rename_i v
   cases v<;>first|(simp [mkT] at hm; done)|skip
   simp [mkT] at hm
   obtain ⟨rfl,rfl⟩:=hm
   exact ⟨hl,hf.2⟩
theorem Ru {P:Program} {S:Sit} {f:Nat→Lab} {t:Ty} {l:List Lf} {x:t.den} {j:Nat} {us:List Value} (hf:B2a (Lo t) l) (h:mkW t l=some x) (hl:Ad P S f j l us):Ad P S f j (A6 t x) us:=by
 unfold mkW at h
 split at h
 ·rename_i y hy
  cases h
  have:=(Uka t [] l [] _ j us (by rw [List.append_nil]; exact hf) hy hl).1
  rwa [List.append_nil] at this
 ·cases h
theorem Bzb {Q:Nat→Lf→Value→Prop} (hqo:∀ j e r r' (xs:List (Ty.den r')) (ys:List (Ty.den r)) u,Wx r r' xs=some ys→Q j (.own e r' xs) u→Q j (.own e r ys) u) (hqf:∀ j e r r' (xs:List (Ty.den r')) (ys:List (Ty.den r)) u,Sn r r' xs=some ys→Q j (.fz e r' xs) u→Q j (.fz e r ys) u):∀ (t:Ty) (ts:List Ty) (l l':List Lf) (x:t.den) (j:Nat) (us:List Value),B2a (Lo t++ts) l→mkT t l=some (x,l')→D7a Q j l us→D7a Q j (A6 t x++l') us∧B2a ts l':=by
 intro t
 induction t with
 |pr p q ihp ihq=>
  intro ts l l' x j us h hm hl
  simp only [Lo,List.append_assoc] at h
  simp only [mkT] at hm
  split at hm
  ·rename_i y l1 h1
   split at hm
   ·rename_i z l2 h2
    simp only [Option.some.injEq,Prod.mk.injEq] at hm
    obtain ⟨rfl,rfl⟩:=hm
    obtain ⟨h3,h4⟩:=ihp _ _ _ _ j us h h1 hl
    have key:∀ (a:List Lf) (j:Nat) (us:List Value),D7a Q j (a++l1) us→D7a Q j (a++(A6 q z++l2)) us∧B2a ts l2:=by
     intro a
     induction a with
     |nil=>intro j us h5; exact ihq _ _ _ _ j us h4 h2 h5
     |cons b a ih=>
      intro j us h5
      cases us with
      |nil=>exact h5.elim
      |cons u us=>exact ⟨⟨h5.1,(ih (j+1) us h5.2).1⟩,(ih (j+1) us h5.2).2⟩
    have h5:=key _ j us h3
    rw [← List.append_assoc] at h5
    exact h5
   ·cases hm
  ·cases hm
 |ow e r _=>
  intro ts l l' x j us hf hm hl
  cases l with
  |nil=>simp [mkT] at hm
  |cons z l=>
   cases us with
   |nil=>exact hl.elim
   |cons u us=>
    cases z<;>first|(simp [mkT] at hm; done)|skip
    rename_i e' r' xs
    simp only [mkT] at hm
    rw [csi] at hm
    obtain ⟨hb,hm⟩:=hm
    have he:e=e':=Nat.eq_of_beq_eq_true hb
    subst he
    split at hm
    ·rename_i ys hys
     simp only [Option.some.injEq,Prod.mk.injEq] at hm
     obtain ⟨rfl,rfl⟩:=hm
     exact ⟨⟨hqo _ _ _ _ _ _ _ hys hl.1,hl.2⟩,hf⟩
    ·cases hm
 |sl e r _=>
  intro ts l l' x j us hf hm hl
  cases l with
  |nil=>simp [mkT] at hm
  |cons z l=>
   cases us with
   |nil=>exact hl.elim
   |cons u us=>
    obtain ⟨hz,hf⟩:z.isOwn=false∧B2a ts l:=hf
    cases z<;>first|(simp [mkT] at hm; done)|(simp [Lf.isOwn] at hz; done)|skip
    rename_i e' r' xs
    simp only [mkT] at hm
    rw [csi] at hm
    obtain ⟨hb,hm⟩:=hm
    have he:e=e':=Nat.eq_of_beq_eq_true hb
    subst he
    split at hm
    ·rename_i ys hys
     simp only [Option.some.injEq,Prod.mk.injEq] at hm
     obtain ⟨rfl,rfl⟩:=hm
     exact ⟨⟨hqf _ _ _ _ _ _ _ hys hl.1,hl.2⟩,hf⟩
    ·cases hm
 |i k=>
  intro ts l l' x j us hf hm hl
  cases l with
  |nil=>simp [mkT] at hm
  |cons z l=>
   cases z<;>first|(simp [mkT] at hm; done)|skip
   rename_i v
   cases v<;>first|(simp [mkT] at hm; done)|skip
   rename_i k' n
   simp only [mkT] at hm
   by_cases hk:k=k'
   ·subst hk
    simp at hm
    obtain ⟨rfl,rfl⟩:=hm
    exact ⟨hl,hf.2⟩
   ·simp [hk] at hm
 |b=>
  intro ts l l' x j us hf hm hl
  cases l with
  |nil=>simp [mkT] at hm
  |cons z l=>
   cases z<;>first|(simp [mkT] at hm; done)|skip
   rename_i v
   cases v<;>first|(simp [mkT] at hm; done)|skip
   simp [mkT] at hm
   obtain ⟨rfl,rfl⟩:=hm
   exact ⟨hl,hf.2⟩
 |s=>
  intro ts l l' x j us hf hm hl
  cases l with
  |nil=>simp [mkT] at hm
  |cons z l=>
   cases z<;>first|(simp [mkT] at hm; done)|skip
   rename_i v
   cases v<;>first|(simp [mkT] at hm; done)|skip
   simp [mkT] at hm
   obtain ⟨rfl,rfl⟩:=hm
   exact ⟨hl,hf.2⟩
theorem C0b {Q:Nat→Lf→Value→Prop} (hqo:∀ j e r r' (xs:List (Ty.den r')) (ys:List (Ty.den r)) u,Wx r r' xs=some ys→Q j (.own e r' xs) u→Q j (.own e r ys) u) (hqf:∀ j e r r' (xs:List (Ty.den r')) (ys:List (Ty.den r)) u,Sn r r' xs=some ys→Q j (.fz e r' xs) u→Q j (.fz e r ys) u) {t:Ty} {l:List Lf} {x:t.den} {j:Nat} {us:List Value} (hf:B2a (Lo t) l) (h:mkW t l=some x) (hl:D7a Q j l us):D7a Q j (A6 t x) us:=by
 unfold mkW at h
 split at h
 ·rename_i y hy
  cases h
  have:=(Bzb hqo hqf t [] l [] _ j us (by rw [List.append_nil]; exact hf) hy hl).1
  rwa [List.append_nil] at this
 ·cases h
theorem N5a {r:Ty} (xs:List r.den):Sn r r xs=some xs:=by
 unfold Sn
 rw [dif_pos rfl]
 rfl
theorem N6a {r:Ty} (xs:List r.den):Wx r r xs=some xs:=by
 unfold Wx
 rw [dif_pos rfl]
theorem Ux:∀ (t:Ty) (x:t.den) (l:List Lf),mkT t (A6 t x++l)=some (x,l)
 |.i _,_,_=>by simp [A6,mkT]
 |.b,_,_=>by simp [A6,mkT]
 |.s,_,_=>by simp [A6,mkT]
 |.sl _ _,_,_=>by simp [A6,mkT,N5a]
 |.ow _ _,_,_=>by simp [A6,mkT,N6a]
 |.pr x y,p,l=>by
  show mkT (.pr x y) ((A6 x p.1++A6 y p.2)++l)=_
  rw [List.append_assoc]
  simp only [mkT]
  rw [Ux x p.1]
  simp only
  rw [Ux y p.2]
theorem N7a (t:Ty) (x:t.den):mkW t (A6 t x)=some x:=by
 unfold mkW
 have:=Ux t x []
 rw [List.append_nil] at this
 rw [this]
def Z1 (S:Sit) (b:Nat×Nat):Value := .pointer (some ⟨(S.bb b.1).1,(S.bb b.1).2+0,none⟩)
def nmV (i:Nat):Nat:=10+2 * i
def nmB (B:Nat):Nat:=11+2 * B
def Z4a (P:Program) (S:Sit) (B:Nat) (t t':Ty) (l:List Lf) (u:Value) (bs:List (Nat×Nat)):Prop:=
 ∃ b,bs=[(b,B)]∧u = .pointer (some ⟨(S.bb b).1,(S.bb b).2,none⟩)∧(S.g (H b)).2 = .one (.hd t.sz)∧t'.sz=t.sz∧l.length=t.sz∧A4 l=true∧B2a (Lo t) l∧
  Ad P S (λ j => .tm (nmB B) [j]) 0 l ((List.range t.sz).map λ j=>S.ph (C b (0+j)))
def C1b (P:Program) (S:Sit) (cb hb:List (Nat×Nat)) (nv i:Nat):Par→List Lf→Value→List (Nat×Nat)→Prop
 |.vw t h,l,u,bs=>bs=[]∧nv≤h∧l.length=t.sz∧B2a (Lo t) l∧∃ c vs,nth hb (h - nv)=some c∧(S.g (H c.1)).2 = .one (.hd t.sz)∧u = .agg vs.toArray∧D7a (N1a P S (λ j=>S.ph (C c.1 j))) 0 l vs
 |.val ag t,l,u,bs=>bs=[]∧A4 l=true∧B2a (Lo t) l∧∃ us,(if ag then u = .agg us.toArray else us=[u])∧Ad P S (λ n => .tm (nmV i) (if ag then [n] else [])) 0 l us
 |.ptr t t',l,u,bs=>Z4a P S (bid nv i) t t' l u bs
 |.hid t t',l,u,bs=>Z4a P S (bid nv i) t t' l u bs
 |.rd t,l,u,bs=>bs=[]∧∃ r x k o cs,l=lvs r x∧shp r=shp t∧Mw t=true∧u = .pointer (some ⟨k,o,none⟩)∧S.O k = .fz∧r.rep P (λ k=>S.O k = .fz) S.w x cs∧Ht S.w k o cs
 |.fn F m,_,u,bs=>bs=[]∧m=cb.length∧u = .func (.func F) #[] (cb.map (Z1 S)).toArray
def I4a (P:Program) (S:Sit) (cb hb:List (Nat×Nat)) (nv:Nat):Nat→List Par→List (List Lf)→List Value→List (Nat×Nat)→Prop
 |_,[],[],[],bs=>bs=[]
 |i,p::ps,l::ls,u::us,bs=>∃ b1 b2,bs=b1++b2∧C1b P S cb hb nv i p l u b1∧I4a P S cb hb nv (i+1) ps ls us b2
 |_,_,_,_,_=>False
theorem Pva {nv i j:Nat} (hn:nv≤1000) (h:bid nv i=bid nv j):i=j:=by
 unfold bid at h
 cases h1:Nat.blt i nv<;>cases h2:Nat.blt j nv<;>rw [h1,h2] at h<;>simp only [cond_true,cond_false] at h
 ·have h3:¬ i<nv:=λ h'=>by rw [show Nat.blt i nv=true from Nat.ble_eq_true_of_le h'] at h1; cases h1
  have h4:¬ j<nv:=λ h'=>by rw [show Nat.blt j nv=true from Nat.ble_eq_true_of_le h'] at h2; cases h2
  omega
 ·have h4:j<nv:=Nat.le_of_ble_eq_true h2
  omega
 ·have h4:i<nv:=Nat.le_of_ble_eq_true h1
  omega
 ·exact h
section
variable {X:Cx} {S S1 S2:Sit} {a:Act} {E:En} {A:Ab} {o:Oper} {R:Type} {Kc:List Up→Option R} {r:R}
def exA (nv i:Nat):Nat→List Nat→Prop:=λ n _=>∃ j,i≤j∧(n=nmV j∨n=nmB (bid nv j))
theorem Pwa {nv i j:Nat} (hn:nv≤1000) (h:j<i) (q:List Nat):¬ exA nv i (nmV j) q∧¬ exA nv i (nmB (bid nv j)) q:=by
 refine ⟨λ ⟨k,h1,h2⟩=>?_,λ ⟨k,h1,h2⟩=>?_⟩
 ·unfold nmV nmB at h2
  omega
 ·unfold nmV nmB at h2
  rcases h2 with h2|h2
  ·omega
  ·have:bid nv j=bid nv k:=by omega
   have:=Pva hn this
   omega
theorem D7a.imp {Q Q':Nat→Lf→Value→Prop} (h:∀ j x u,Q j x u→Q' j x u):∀ {l:List Lf} {j:Nat} {us:List Value},D7a Q j l us→D7a Q' j l us
 |[],_,[],_=>trivial
 |[],_,_::_,h'=>h'.elim
 |_::_,_,[],h'=>h'.elim
 |_::_,j,_::_,h'=>⟨h _ _ _ h'.1,D7a.imp h h'.2⟩
theorem N1a.later {P:Program} {S S':Sit} {w w':Nat→Value} {j:Nat} {x:Lf} {u:Value} (hw:w'=w) (hl:∀ x u,Tna x=true→Bm P S .fz x u→Bm P S' .fz x u) (h:N1a P S w j x u):N1a P S' w' j x u:=by
 subst hw
 cases x<;>first|exact h|exact ⟨h.1,hl _ _ h.1 h.2⟩
theorem C1b.stay {cb hb:List (Nat×Nat)} {nv i j:Nat} {p:Par} {l:List Lf} {u:Value} {bs:List (Nat×Nat)} (hn:nv≤1000) (h:Iy X S S1 (exA nv i)) (hj:j<i) (hp:C1b X.P S cb hb nv j p l u bs):C1b X.P S1 cb hb nv j p l u bs:=by
 have hfz:∀ k,S.O k = .fz→S1.O k = .fz:=λ k hk=>(h.later.fz k hk).1
 have box:∀ {t t':Ty},Z4a X.P S (bid nv j) t t' l u bs→Z4a X.P S1 (bid nv j) t t' l u bs:=by
  rintro t t' ⟨b,h1,h2,h3,h4,h5,h6,h7,h8⟩
  refine ⟨b,h1,by rw [h.bb]; exact h2,by rw [h.heads b _ h3]; exact h3,h4,h5,h6,h7,?_⟩
  rw [h.ph]
  exact h8.imp (λ n x u hx=>h.tms _ _ _ _ (Pwa hn hj _).2 hx)
 cases p with
 |vw t h0=>
  obtain ⟨h1,h2,h3,h4,c,vs,h5,h6,h7,h8⟩:=hp
  refine ⟨h1,h2,h3,h4,c,vs,h5,by rw [h.heads c.1 _ h6]; exact h6,h7,h8.imp (λ j x u hx=>hx.later (by rw [h.ph]) (λ x u hs hx=>?_))⟩
  exact Bm.later h.later hx (λ k hk=>⟨hfz k hk,by rw [h.w]⟩)
 |val ag t=>
  obtain ⟨h1,h2,h3,us,h4,h5⟩:=hp
  exact ⟨h1,h2,h3,us,h4,h5.imp (λ n x u hx=>h.tms _ _ _ _ (Pwa hn hj _).1 hx)⟩
 |ptr t t'=>exact box hp
 |hid t t'=>exact box hp
 |rd t=>
  obtain ⟨h1,r',x,k,o',cs,h2,h3,h4,h5,h6,h7,h8⟩:=hp
  exact ⟨h1,r',x,k,o',cs,h2,h3,h4,h5,hfz k h6,Ty.rep_mono hfz (λ k _=>by rw [h.w]) r' x cs h7,h8.mono (by rw [h.w])⟩
 |fn F m=>
  obtain ⟨h1,h2,h3⟩:=hp
  refine ⟨h1,h2,?_⟩
  have:Z1 S1=Z1 S:=by funext b; unfold Z1; rw [h.bb]
  rw [this]
  exact h3
theorem Pxa:∀ {l m:List (Nat×Nat)},X5a l m=true→l=m
 |[],[],_=>rfl
 |[],_::_,h=>by simp [X5a] at h
 |_::_,[],h=>by simp [X5a] at h
 |(a1,a2)::l,(b1,b2)::m,h=>by
  simp only [X5a,Bool.and_eq_true] at h
  have e1:a1=b1:=Nat.eq_of_beq_eq_true h.1.1
  have e2:a2=b2:=Nat.eq_of_beq_eq_true h.1.2
  rw [e1,e2,Pxa h.2]
theorem Z2 (hg:S.g=get A):∀ {bs:List (Nat×Nat)} {us:List Value},Y0 S bs us→Oo A bs=true→us=bs.map (Z1 S)
 |[],us,h,_=>h
 |c::bs,us,⟨u,us',e,⟨h1,h2⟩,h3⟩,ha=>by
  simp only [Oo,Bool.and_eq_true] at ha
  have e1:(S.g (H c.1)).1=c.2:=by rw [hg]; exact Nat.eq_of_beq_eq_true ha.1
  subst e
  rw [List.map_cons,Z2 hg h3 ha.2,h2 e1]
  rfl
theorem Pya {ag:Bool} {s:Sv} (h:My ag s=true):∀ n,pth s n=if ag then [n] else []:=by
 intro n
 cases s with
 |tup vs=>simp [My,Oja] at h
 |one z=>cases ag<;>simp [My,Oja] at h ⊢; rfl
 |agg z=>cases ag<;>simp [My,Oja] at h ⊢; rfl
theorem Ula {x:Operand} {b v off:Nat} {t:Ty} {m:List Lf} {us:List Up} (h:Ui A x (.one (.bp b v off)) t=some (m,us)):False:=by
 unfold Ui Uh at h
 split at h
 ·rename_i m0 vs0 ht
  have hm:m0=[.bp b v off]∨False:=by
   have e1:parts (.one (.bp b v off))=[.bp b v off]:=rfl
   rw [e1] at ht
   generalize Lo t=ts at ht
   cases ts with
   |nil=>simp [Ix] at ht
   |cons t ts=>
    cases ts with
    |cons t2 ts=>
     obtain ⟨_,h2⟩:=Pi _ _ ht
     simp at h2
    |nil=>
     cases t<;>first|(simp [Ix,Hja,N1] at ht; done)|skip
     all_goals
      simp [Ix,X6,kept,P3] at ht
      exact .inl ht.1.symm
  rcases hm with rfl|h0
  ·simp [A4] at h
  ·exact h0
 ·cases h
theorem I5a {A:Ab} {S:Sit} {X:Cx} {a:Act} (K:B7 X S a) (hg:S.g=get A) {b l0:Nat}:∀ (ts:List Ty) {j:Nat} {l m:List Lf} {us:List Value},Hla A b j ts l=some m→Ad X.P S (λ n => .pl l0 [n]) j l us→
  B2a ts m∧m.length=ts.length∧D7a (N1a X.P S (λ j=>S.ph (C b j))) j m us
 |[],j,[],m,us,h,hl=>by
  simp only [Hla,Option.some.injEq] at h
  subst h
  cases us with
  |nil=>exact ⟨trivial,rfl,trivial⟩
  |cons=>exact hl.elim
 |[],j,_::_,m,us,h,hl=>by simp [Hla] at h
 |t::ts,j,[],m,us,h,hl=>by cases t<;>simp [Hla] at h
 |t::ts,j,x::l,m,us,h,hl=>by
  cases us with
  |nil=>exact hl.elim
  |cons u us=>
   have share:∀ {m':List Lf},Tna (N1 A x)=true→Hla A b (j+1) ts l=some m'→(∀ m'',B2a (t::ts) (N1 A x::m'')↔((N1 A x).isOwn=false∧B2a ts m''))→B2a (t::ts) (N1 A x::m')∧(N1 A x::m').length=(t::ts).length∧D7a (N1a X.P S (λ j=>S.ph (C b j))) j (N1 A x::m') (u::us):=by
    intro m' hs hr hf
    obtain ⟨h1,h2,h3⟩:=I5a K hg ts hr hl.2
    obtain ⟨lab',h4⟩:=Sr K hg hl.1
    refine ⟨(hf m').2 ⟨by cases hx:N1 A x<;>rw [hx] at hs<;>first|rfl|simp [Tna] at hs,h1⟩,by simp [h2],?_,h3⟩
    have h5:Bm X.P S .fz (N1 A x) u:=by
     cases hx:N1 A x<;>rw [hx] at hs h4<;>first|exact Bm.relab (lab' := .fz) rfl h4|simp [Tna] at hs
    cases hx:N1 A x<;>rw [hx] at hs h5<;>first|exact ⟨rfl,h5⟩|simp [Tna] at hs
   cases t with
   |ow e r=>
    cases x<;>first|(simp [Hla] at h; done)|skip
    rename_i p v
    simp only [Hla] at h
    obtain ⟨hq,h⟩:=cs h
    simp only [Bool.and_eq_true] at hq
    split at h
    ·rename_i y hy
     split at h
     ·rename_i m' hr
      cases h
      obtain ⟨h1,h2,h3⟩:=I5a K hg ts hr hl.2
      have hal:Bm X.P S (.pl l0 [j]) (.al p v) u:=hl.1
      have hu:=hal.2 (by rw [hg]; exact Nat.eq_of_beq_eq_true hq.2)
      have hyo:∃ ys,y = .own e r ys:=by
       unfold Hja at hy
       split at hy
       ·generalize Nat.beq e _=bb at hy
        cases bb with
        |false=>simp at hy
        |true=>
         rw [cond_true] at hy
         split at hy
         ·simp only [Option.some.injEq] at hy
          exact ⟨_,hy.symm⟩
         ·obtain ⟨hno,hy⟩:=cs hy
          split at hy
          ·simp only [Option.some.injEq] at hy
           exact ⟨_,hy.symm⟩
          ·cases hy
       ·cases hy
      obtain ⟨ys,rfl⟩:=hyo
      refine ⟨h1,by simp [h2],?_,h3⟩
      show u=S.ph (C b j)
      rw [hu,Nat.eq_of_beq_eq_true hq.1]
     ·cases h
    ·cases h
   |_=>
    simp only [Hla] at h
    obtain ⟨hs,h⟩:=cs h
    split at h
    ·rename_i m' hr
     cases h
     exact share hs hr (λ m''=>Iff.rfl)
    ·cases h
theorem Uma (hE:Mt X E) (K:B7 X S a) (hg:S.g=get A) {cb hb:List (Nat×Nat)} {nv i:Nat} {x:Operand} {s:Sv} {v:Value} {p:Par} {l:List Lf} {us:List Up} {bs:List Nat} (hx:(∃ T,opT E T A x=some s∧v=a.eval x)∨(∃ h:Nat×Nat,s = .one (.bp h.1 h.2 0)∧v=Z1 S h)) (h:Wy A cb hb nv x p s=some (l,us,bs)):
  ∃ S1 bp,B7 X S1 a∧S1.g=get (ups A us)∧Iy X S S1 (exA nv i)∧bp.map Prod.fst=bs∧C1b X.P S1 cb hb nv i p l v bp:=by
 have box:∀ {t t':Ty} {b w:Nat},s = .one (.bp b w 0)→(match Sp A b w t t' with|some (m,us)=>some (m,us,[b])|none=>none)=some (l,us,bs)→∃ S1 bp,B7 X S1 a∧S1.g=get (ups A us)∧Iy X S S1 (exA nv i)∧bp.map Prod.fst=bs∧Z4a X.P S1 (bid nv i) t t' l v bp:=by
  intro t t' b w hs h
  split at h
  ·rename_i m us' hgive
   cases h
   obtain ⟨g1,g2,g3,g4,g5,S1,K1,g6,G,hl⟩:=Xb K hg hgive (nmB (bid nv i))
   refine ⟨S1,[(b,bid nv i)],K1,g6,Iy.trans (λ n q h=>h) (λ n q h=>⟨i,Nat.le_refl _,.inr h⟩) (Iy.refl S (exA nv i)) G,rfl,b,rfl,?_,by rw [G.heads b _ g2]; exact g2,g3,g5,g4,Uw hgive,by rw [G.ph]; exact hl⟩
   rw [G.bb]
   rcases hx with ⟨T,h1,rfl⟩|⟨h',h1,rfl⟩
   ·obtain ⟨pl,h2⟩:=Kw hE K hg h1
    rw [hs] at h2
    have h3:Bm X.P S (.pl pl []) (.bp b w 0) (a.eval x):=h2
    exact h3.2 g1
   ·rw [hs] at h1
    simp only [Sv.one.injEq,Lf.bp.injEq] at h1
    unfold Z1
    rw [← h1.1]
    rfl
  ·cases h
 unfold Wy at h
 split at h
 ·rename_i t h0 ys
  split at h
  ·rename_i c hc
   split at h
   ·rename_i n m hp
    obtain ⟨hq,h⟩:=cs h
    simp only [Bool.and_eq_true] at hq
    split at h
    ·rename_i l0 hvw
     cases h
     rcases hx with ⟨T,h1,rfl⟩|⟨h',h1,_⟩
     ·obtain ⟨pl,h2⟩:=Kw hE K hg h1
      obtain ⟨vs,e1,e2⟩:∃ us:List Value,a.eval x = .agg us.toArray∧Ad X.P S (λ j => .pl pl [j]) 0 ys us:=h2
      obtain ⟨f1,f2,f3⟩:=I5a K hg _ hvw e2
      exact ⟨S,[],K,hg,Iy.refl S _,rfl,rfl,Nat.le_of_ble_eq_true hq.1.1,by rw [f2,Od],f1,c,vs,hc,by rw [hg,hp,Nat.eq_of_beq_eq_true hq.2],e1,f3⟩
     ·cases h1
    ·cases h
   ·cases h
  ·cases h
 ·rename_i ag t
  obtain ⟨hq,h⟩:=cs h
  split at h
  ·rename_i m us' hgive
   cases h
   rcases hx with ⟨T,h1,rfl⟩|⟨h',h1,_⟩
   ·obtain ⟨S1,K1,g1,G,h2,_,vs,hsh,hl⟩:=Kfa hE K hg (.inl h1) (Pta hq) hgive (nmV i)
    have hp:=Pya hq
    simp only [hp] at hl
    exact ⟨S1,[],K1,g1,Iy.trans (λ n q h=>h) (λ n q h=>⟨i,Nat.le_refl _,.inl h⟩) (Iy.refl S (exA nv i)) G,rfl,rfl,h2,Bxa hgive,vs,Bta hq hsh,hl⟩
   ·rw [h1] at hgive
    exact (Ula hgive).elim
  ·cases h
 ·exact box rfl h
 ·exact box rfl h
 ·rename_i t r' y
  cases hq:(decide (shp r'=shp t)&&Mw t) with
  |false=>rw [hq] at h; simp at h
  |true=>
   rw [hq] at h
   simp only [cond_true,Option.some.injEq,Prod.mk.injEq] at h
   obtain ⟨rfl,rfl,rfl⟩:=h
   simp only [Bool.and_eq_true,decide_eq_true_eq] at hq
   rcases hx with ⟨T,h1,rfl⟩|⟨h',h1,_⟩
   ·obtain ⟨pl,h2⟩:=Kw hE K hg h1
    obtain ⟨k,o',cs,e1,e2,e3,e4⟩:Bm X.P S (.pl pl []) (.fp r' y 0) (a.eval x):=h2
    exact ⟨S,[],K,hg,Iy.refl S _,rfl,rfl,r',y,k,o',cs,rfl,hq.1,hq.2,e1,e2,e3,e4⟩
   ·cases h1
 ·rename_i F m F' bs'
  cases hq:(Nat.beq F F'&&Nat.beq m bs'.length&&X5a bs' cb&&Oo A bs') with
  |false=>rw [hq] at h; simp at h
  |true=>
   rw [hq] at h
   simp only [cond_true,Option.some.injEq,Prod.mk.injEq] at h
   obtain ⟨rfl,rfl,rfl⟩:=h
   simp only [Bool.and_eq_true] at hq
   obtain ⟨⟨⟨q1,q2⟩,q3⟩,q4⟩:=hq
   have e1:F=F':=Nat.eq_of_beq_eq_true q1
   have e2:m=bs'.length:=Nat.eq_of_beq_eq_true q2
   have e3:=Pxa q3
   subst e1 e3
   rcases hx with ⟨T,h1,rfl⟩|⟨h',h1,_⟩
   ·obtain ⟨pl,h2⟩:=Kw hE K hg h1
    obtain ⟨us',e4,e5⟩:Bm X.P S (.pl pl []) (.fn F bs') (a.eval x):=h2
    have e6:=Z2 hg e5 q4
    subst e6
    exact ⟨S,[],K,hg,Iy.refl S _,rfl,rfl,e2,e4⟩
   ·cases h1
 ·cases h
theorem Fia (hE:Mt X E) {cb hb:List (Nat×Nat)} {nv:Nat} (hn:nv≤1000):∀ (ps:List Par) {xs:List (TypeId×Operand)} {hs:List (Nat×Nat)} {S:Sit} {A:Ab} {ls:List (List Lf)} {us:List Up} {bs:List Nat} (i:Nat),B7 X S a→S.g=get A→Nx E cb hb nv A xs hs ps=some (ls,us,bs)→
  ∃ S1 bp,B7 X S1 a∧S1.g=get (ups A us)∧Iy X S S1 (exA nv i)∧bp.map Prod.fst=bs∧I4a X.P S1 cb hb nv i ps ls (xs.map (λ x=>a.eval x.2)++hs.map (Z1 S)) bp
 |[],xs,hs,S,A,ls,us,bs,i,K,hg,h=>by
  cases xs with
  |cons=>simp [Nx] at h
  |nil=>
   cases hs with
   |cons=>simp [Nx] at h
   |nil=>
    simp only [Nx,Option.some.injEq,Prod.mk.injEq] at h
    obtain ⟨rfl,rfl,rfl⟩:=h
    exact ⟨S,[],K,hg,Iy.refl S _,rfl,rfl⟩
 |p::ps,xs,hs,S,A,ls,us,bs,i,K,hg,h=>by
  have go:∀ {x:Operand} {s:Sv} {v:Value} {xs':List (TypeId×Operand)} {hs':List (Nat×Nat)} {l:List Lf} {u:List Up} {b:List Nat} {ls1:List (List Lf)} {us1:List Up} {bs1:List Nat},((∃ T,opT E T A x=some s∧v=a.eval x)∨(∃ h:Nat×Nat,s = .one (.bp h.1 h.2 0)∧v=Z1 S h))→Wy A cb hb nv x p s=some (l,u,b)→Nx E cb hb nv (ups A u) xs' hs' ps=some (ls1,us1,bs1)→
    ∃ S1 bp,B7 X S1 a∧S1.g=get (ups A (u++us1))∧Iy X S S1 (exA nv i)∧bp.map Prod.fst=b++bs1∧I4a X.P S1 cb hb nv i (p::ps) (l::ls1) (v::(xs'.map (λ x=>a.eval x.2)++hs'.map (Z1 S))) bp:=by
   intro x s v xs' hs' l u b ls1 us1 bs1 hx h1 h2
   obtain ⟨S1,b1,K1,g1,G1,e1,p1⟩:=Uma (nv:=nv) (i:=i) hE K hg hx h1
   obtain ⟨S2,b2,K2,g2,G2,e2,p2⟩:=Fia hE hn ps (i+1) K1 g1 h2
   have hpv:Z1 S1=Z1 S:=by funext b; unfold Z1; rw [G1.bb]
   rw [hpv] at p2
   exact ⟨S2,b1++b2,K2,by rw [B6]; exact g2,Iy.trans (λ _ _ h=>h) (λ n q ⟨j,h1,h2⟩=>⟨j,by omega,h2⟩) G1 G2,by rw [List.map_append,e1,e2],b1,b2,rfl,p1.stay hn G2 (by omega),p2⟩
  cases xs with
  |cons x xs=>
   simp only [Nx] at h
   split at h
   ·rename_i s hs1
    split at h
    ·rename_i l u b hb
     split at h
     ·rename_i ls1 us1 bs1 hrec
      cases h
      exact go (.inl ⟨x.1,hs1,rfl⟩) hb hrec
     ·cases h
    ·cases h
   ·cases h
  |nil=>
   cases hs with
   |nil=>simp [Nx] at h
   |cons h0 hs=>
    simp only [Nx] at h
    split at h
    ·rename_i l u b hb
     split at h
     ·rename_i ls1 us1 bs1 hrec
      cases h
      exact go (xs':=[]) (.inr ⟨h0,rfl,rfl⟩) hb hrec
     ·cases h
    ·cases h
end
end

section
attribute [local irreducible] C H
def lkF:List (Nat×Nat)→Nat→Option Nat
 |[],_=>none
 |c::l,x=>if c.1=x then some c.2 else lkF l x
def lkS:List (Nat×Nat)→Nat→Option Nat
 |[],_=>none
 |c::l,x=>if c.2=x then some c.1 else lkS l x
theorem I6a:∀ {l:List (Nat×Nat)} {b B:Nat},lkF l b=some B→(b,B)∈l
 |[],_,_,h=>by simp [lkF] at h
 |c::l,b,B,h=>by
  simp only [lkF] at h
  split at h
  ·rename_i e
   simp only [Option.some.injEq] at h
   rw [← e,← h]
   exact List.mem_cons_self
  ·exact List.mem_cons_of_mem _ (I6a h)
theorem Kra:∀ {l:List (Nat×Nat)} {b B:Nat},(l.map Prod.fst).Nodup→(b,B)∈l→lkF l b=some B
 |[],_,_,_,h=>by simp at h
 |c::l,b,B,hn,h=>by
  rw [List.map_cons,List.nodup_cons] at hn
  simp only [lkF]
  rcases List.mem_cons.1 h with rfl|h
  ·rw [if_pos rfl]
  ·rw [if_neg (λ e=>hn.1 (by rw [e]; exact List.mem_map_of_mem h))]
   exact Kra hn.2 h
theorem Fja:∀ {l:List (Nat×Nat)} {b B:Nat},(l.map Prod.snd).Nodup→(b,B)∈l→lkS l B=some b
 |[],_,_,_,h=>by simp at h
 |c::l,b,B,hn,h=>by
  rw [List.map_cons,List.nodup_cons] at hn
  simp only [lkS]
  rcases List.mem_cons.1 h with rfl|h
  ·rw [if_pos rfl]
  ·rw [if_neg (λ e=>hn.1 (by rw [e]; exact List.mem_map_of_mem h))]
   exact Fja hn.2 h
theorem Z5a:∀ {l:List (Nat×Nat)} {b b' B:Nat},(l.map Prod.snd).Nodup→(b,B)∈l→(b',B)∈l→b=b':=λ hn h h'=>by
 have e1:=Fja hn h
 rw [Fja hn h'] at e1
 simpa using e1.symm
theorem Fka:∀ {l:List Nat},Epa l=true→l.Nodup
 |[],_=>by simp
 |b::l,h=>by
  simp only [Epa,Bool.and_eq_true,Bool.not_eq_true',List.any_eq_false] at h
  rw [List.nodup_cons]
  exact ⟨λ hb=>h.1 b hb (by rw [Nat.beq_refl]),Fka h.2⟩
def Sh (S:Sit) (L:List (Nat×Nat)):Nat→Lab:=λ k=>match S.O k with
 |.fz => .fz
 |.tm n q=>if n<10 then .no else if n % 2=0 then .pl ((n - 10) / 2) q else (match q with
  |[j] => .pl (C ((n - 11) / 2) j) []
  |_ => .no)
 |.bx b=>(match lkF L b with
  |some B=>if k=(S.bb b).1 then .bx B else .no
  |none => .no)
 |_ => .no
def Z6a (S:Sit) (L:List (Nat×Nat)):Nat→Nat×Nat:=λ B=>match lkS L B with
 |some b=>((S.bb b).2,match (S.g (H b)).2 with | .one (.hd n)=>n|_=>0)
 |none=>(0,0)
def B6b:Lab→Bool
 |.tm _ _=>true
 |_=>false
def nmO:Lab→Lab
 |.fz => .fz
 |.tm n q => .tm n q
 |.no => .no
 |_ => .tm 99999 []
def Oma (S:Sit) (O':Nat→Lab):Nat→Lab:=λ k=>if k<S.w.heap.size∧B6b (S.O k)=false then S.O k else nmO (O' k)
section
variable {X:Cx} {S S1 S2:Sit} {a:Act} {E:En} {A:Ab} {o:Oper} {R:Type} {Kc:List Up→Option R} {r:R}
theorem Q4 {S:Sit} {L:List (Nat×Nat)} {k:Nat} (h:S.O k = .fz):Sh S L k = .fz:=by simp [Sh,h]
theorem Pza {S:Sit} {L:List (Nat×Nat)} {k b B:Nat} (h:S.O k = .bx b) (hl:lkF L b=some B) (hk:k=(S.bb b).1):Sh S L k = .bx B:=by
 unfold Sh; rw [h]; simp [hl,← hk]
theorem C2b {S:Sit} {L:List (Nat×Nat)} {k i:Nat} {q:List Nat} (h:S.O k = .tm (nmV i) q):Sh S L k = .pl i q:=by
 unfold Sh nmV at *
 rw [h]
 simp only
 rw [if_neg (by omega),if_pos (by omega),show (10+2 * i - 10) / 2=i by omega]
theorem C3b {S:Sit} {L:List (Nat×Nat)} {k B j:Nat} (h:S.O k = .tm (nmB B) [j]):Sh S L k = .pl (C B j) []:=by
 unfold Sh nmB at *
 rw [h]
 simp only
 rw [if_neg (by omega),if_neg (by omega),show (11+2 * B - 11) / 2=B by omega]
theorem Mq:∀ {m:List Lf},A4 m=true→∀ y∈m,L7 y=true
 |[],_=>by simp
 |x::m,h=>by
  intro y hy
  obtain ⟨h1,h2⟩:=Pz h
  rcases List.mem_cons.1 hy with rfl|hy
  ·rcases h2 with ⟨_,rfl⟩|⟨_,_,_,rfl⟩|⟨_,_,_,rfl⟩<;>rfl
  ·exact Mq h1 y hy
theorem Si:∀ l:List Lf,(∀ y∈l,L7 y=true)→A4 l=true
 |[],_=>rfl
 |x::l,h=>by
  have h1:=h x (by simp)
  have h2:=Si l (λ y hy=>h y (List.mem_cons_of_mem _ hy))
  cases x<;>first|(simp [L7] at h1; done)|simpa [A4] using h2
theorem D8a {P:Program} {S:Sit} {cb:List (Nat×Nat)} {nv:Nat} (hn:nv≤1000):∀ (ps:List Par) {i:Nat} {ls:List (List Lf)} {us:List Value} {bp:List (Nat×Nat)},I4a P S cb cb nv i ps ls us bp→
  (∀ c∈bp,∃ j,i≤j∧j<i+ps.length∧c.2=bid nv j)∧(bp.map Prod.snd).Nodup∧(∀ c∈bp,∃ n,(S.g (H c.1)).2 = .one (.hd n))∧us.length=ps.length
 |[],i,[],[],bp,h=>by
  have:bp=[]:=h
  subst this
  exact ⟨by simp,by simp,by simp,rfl⟩
 |[],i,_::_,_,_,h=>h.elim
 |[],i,[],_::_,_,h=>h.elim
 |p::ps,i,[],_,_,h=>h.elim
 |p::ps,i,_::_,[],_,h=>h.elim
 |p::ps,i,l::ls,u::us,bp,h=>by
  obtain ⟨b1,b2,rfl,h1,h2⟩:=h
  obtain ⟨i1,i2,i3,i4⟩:=D8a hn ps h2
  have h3:b1=[]∨∃ b,b1=[(b,bid nv i)]∧∃ n,(S.g (H b)).2 = .one (.hd n):=by
   cases p with
   |val ag t=>exact .inl h1.1
   |vw t h0=>exact .inl h1.1
   |rd t=>exact .inl h1.1
   |fn F m=>exact .inl h1.1
   |ptr t t'=>obtain ⟨b,e,_,h4,_⟩:=h1; exact .inr ⟨b,e,_,h4⟩
   |hid t t'=>obtain ⟨b,e,_,h4,_⟩:=h1; exact .inr ⟨b,e,_,h4⟩
  have i1':∀ c∈b2,∃ j,i≤j∧j<i+(p::ps).length∧c.2=bid nv j:=λ c hc=>by
   obtain ⟨j,j1,j2,j3⟩:=i1 c hc
   exact ⟨j,by omega,by simp only [List.length_cons]; omega,j3⟩
  rcases h3 with rfl|⟨b,rfl,n,hb⟩
  ·exact ⟨i1',i2,i3,by simp [i4]⟩
  ·refine ⟨λ c hc=>?_,?_,λ c hc=>?_,by simp [i4]⟩
   ·rcases List.mem_cons.1 hc with rfl|hc
    ·exact ⟨i,Nat.le_refl _,by simp only [List.length_cons]; omega,rfl⟩
    ·exact i1' c hc
   ·rw [List.singleton_append,List.map_cons,List.nodup_cons]
    refine ⟨λ hm=>?_,i2⟩
    obtain ⟨c,hc,e⟩:=List.mem_map.1 hm
    obtain ⟨j,j1,j2,j3⟩:=i1 c hc
    rw [j3] at e
    have:=Pva hn e
    omega
   ·rcases List.mem_cons.1 hc with rfl|hc
    ·exact ⟨n,hb⟩
    ·exact i3 c hc
theorem Q0a (K:B7 X S a) {cb L:List (Nat×Nat)} {nv:Nat} (hn1:(L.map Prod.fst).Nodup) (hn2:(L.map Prod.snd).Nodup):∀ (ps:List Par) {i:Nat} {ls ls':List (List Lf)} {us:List Value} {bp:List (Nat×Nat)},I4a X.P S cb cb nv i ps ls us bp→Mk (ps.map Par.ty) ls ls'→(∀ c∈bp,c∈L)→Ob nv i ps=true→
  Pl X.P (bare (Sh S L) S.w) (Z6a S L) nv (cb.map (Z1 S)) i ps ls' us
 |[],i,[],[],[],bp,_,_,_,_=>trivial
 |[],i,[],_::_,_,bp,_,hm,_,_=>hm.elim
 |[],i,_::_,_,_,bp,h,_,_,_=>h.elim
 |[],i,[],[],_::_,bp,h,_,_,_=>h.elim
 |p::ps,i,[],_,_,bp,h,_,_,_=>h.elim
 |p::ps,i,_::_,_,[],bp,h,_,_,_=>h.elim
 |p::ps,i,l::ls,[],_::_,bp,_,hm,_,_=>hm.elim
 |p::ps,i,l::ls,l'::ls',u::us,bp,h,hm,hb,hp=>by
  obtain ⟨b1,b2,rfl,h1,h2⟩:=h
  obtain ⟨⟨y,hy,rfl⟩,hm2⟩:=hm
  have hp2:Ob nv (i+1) ps=true:=by cases p<;>simp only [Ob,Bool.and_eq_true] at hp<;>exact hp.2
  refine ⟨?_,Q0a K hn1 hn2 ps h2 hm2 (λ b hb'=>hb b (List.mem_append_right _ hb')) hp2⟩
  have box:∀ {t t':Ty} {y:t.den},mkW t l=some y→Z4a X.P S (bid nv i) t t' l u b1→Bra X.P (bare (Sh S L) S.w) (Z6a S L) (bid nv i) t (A6 t y) u:=by
   rintro t t' y hy ⟨b,e1,e2,e3,e4,e5,e6,e7,e8⟩
   have hL:(b,bid nv i)∈L:=hb _ (by rw [e1]; simp)
   obtain ⟨g1,c,e,g2,g3,g4,g5⟩:=K.box b _ e3
   refine ⟨(S.bb b).1,(S.bb b).2,c,e,(List.range t.sz).map (λ j=>S.ph (C b (0+j))),e2,g2,?_,?_,g4,g1,Jz t y,λ j hj=>?_,?_⟩
   ·exact Pza g3 (Kra hn1 hL) rfl
   ·show Z6a S L _=_
    unfold Z6a
    rw [Fja hn2 hL]
    simp only [e3]
   ·rw [g5 j hj]
    simp [hj]
   ·have h3:Ad X.P (bare (Sh S L) S.w) (λ j => .pl (C (bid nv i) j) []) 0 l ((List.range t.sz).map λ j=>S.ph (C b (0+j))):=
     Ad.impS (S1:=S) (Mq e6) (λ n x u hx h=>Bm.bare (S1:=S) (S2:=bare (Sh S L) S.w) (lab := .tm (nmB (bid nv i)) [n]) hx rfl (λ k hk=>Q4 hk) (λ k hk=>C3b hk) h) e8
    exact Ru e7 hy h3
  cases p with
  |vw t h0=>
   obtain ⟨_,e1,e2,e3,c,vs,e4,e5,e6,e7⟩:=h1
   obtain ⟨g1,cc,e,g2,g3,g4,g5⟩:=K.box c.1 _ e5
   refine ⟨e1,vs,(S.bb c.1).1,(S.bb c.1).2,cc,e,e6,?_,g2,g1,Jz t y,?_⟩
   ·rw [Ln] at e4
    rw [List.getElem?_map,e4]
    rfl
   ·have hcell:∀ j,j<t.sz→cc.getD ((S.bb c.1).2+j) undef=S.ph (C c.1 j):=λ j hj=>by
     have:=g5 j hj
     simp [Array.getD_eq_getD_getElem?,this]
    have h2:=C0b (Q:=λ j x u=>j<t.sz→N1a X.P S (λ j=>S.ph (C c.1 j)) j x u) ?_ ?_ e3 hy (j:=0) (us:=vs) (D7a.imp (Q:=N1a X.P S (λ j=>S.ph (C c.1 j))) (Q':=λ j x u=>j<t.sz→N1a X.P S (λ j=>S.ph (C c.1 j)) j x u) (λ j x u h _=>h) e7)
    ·have key:∀ (l:List Lf) (j:Nat) (us:List Value),j+l.length≤t.sz→D7a (λ j x u=>j<t.sz→N1a X.P S (λ j=>S.ph (C c.1 j)) j x u) j l us→D7a (N1a X.P (bare (Sh S L) S.w) (λ j=>cc.getD ((S.bb c.1).2+j) undef)) j l us:=by
      intro l
      induction l with
      |nil=>intro j us _ h; cases us<;>first|trivial|exact h.elim
      |cons x l ih=>
       intro j us hj h
       simp only [List.length_cons] at hj
       cases us with
       |nil=>exact h.elim
       |cons u us=>
        refine ⟨?_,ih (j+1) us (by omega) h.2⟩
        have h3:=h.1 (by omega)
        cases x<;>first|(show u=cc.getD ((S.bb c.1).2+j) undef; rw [hcell j (by omega)]; exact h3)|(refine ⟨h3.1,?_⟩; have h4:=h3.1; simp [Tna] at h4; done)|skip
        ·exact ⟨rfl,Bm.bare (S1:=S) (S2:=bare (Sh S L) S.w) rfl rfl (λ k hk=>Q4 hk) (λ k hk=>Q4 hk) h3.2⟩
        ·exact ⟨rfl,Bm.bare (S1:=S) (S2:=bare (Sh S L) S.w) rfl rfl (λ k hk=>Q4 hk) (λ k hk=>Q4 hk) h3.2⟩
     exact key _ _ _ (by rw [Jz]; show 0+t.sz≤t.sz; omega) h2
    ·intro j e r r' xs ys u _ h hj
     exact h hj
    ·intro j e r r' xs ys u hc h hj
     exact ⟨rfl,Te hc (h hj).2⟩
  |val ag t=>
   obtain ⟨_,e2,e3,vs,e4,e5⟩:=h1
   refine ⟨vs,e4,Ru e3 hy ?_⟩
   exact Ad.impS (S1:=S) (Mq e2) (λ n x u hx h=>Bm.bare (S1:=S) (S2:=bare (Sh S L) S.w) hx rfl (λ k hk=>Q4 hk) (λ k hk=>C2b hk) h) e5
  |ptr t t'=>
   simp only [Ob,Bool.and_eq_true] at hp
   exact ⟨Nat.le_of_ble_eq_true hp.1,box hy h1⟩
  |hid t t'=>
   simp only [Ob,Bool.and_eq_true] at hp
   exact ⟨Nat.le_of_ble_eq_true hp.1,box hy h1⟩
  |rd t=>
   obtain ⟨_,r',x,k,o',cs,rfl,e3,e4,e5,e6,e7,e8⟩:=h1
   have h3:=Xz hy (Pw r' x cs e7)
   exact ⟨y,k,o',cs,N7a t y,e5,Q4 e6,Ty.rep_mono (λ k hk=>Q4 hk) (λ _ _=>rfl) t y cs h3,e8⟩
  |fn F m=>
   obtain ⟨_,e2,e3⟩:=h1
   exact ⟨e3,by rw [List.length_map,e2]⟩
theorem C4b (K:B7 X S a) {cb L:List (Nat×Nat)} {nv:Nat} (hn:nv≤1000) {ps:List Par} {ls:List (List Lf)} {us:List Value} (h:I4a X.P S cb cb nv 0 ps ls us L):
  ∀ k b,Sh S L k = .bx b→Bwb nv ps.length b∧(∃ c e f,S.w.heap[k]? = some (.cells c e f))∧∀ k',Sh S L k' = .bx b→k'=k:=by
 obtain ⟨i1,i2,i3,_⟩:=D8a hn ps h
 have key:∀ k B,Sh S L k = .bx B→∃ b,(b,B)∈L∧k=(S.bb b).1:=by
  intro k B hk
  unfold Sh at hk
  split at hk
  ·cases hk
  ·split at hk
   ·cases hk
   ·split at hk
    ·cases hk
    ·split at hk<;>cases hk
  ·split at hk
   ·rename_i b heq _ B' hl
    split at hk
    ·rename_i hkb
     cases hk
     exact ⟨b,I6a hl,hkb⟩
    ·cases hk
   ·cases hk
  ·cases hk
 intro k B hk
 obtain ⟨b,hb,hkb⟩:=key k B hk
 obtain ⟨n,hh⟩:=i3 _ hb
 obtain ⟨_,c,e,g2,_⟩:=K.box b n hh
 obtain ⟨j,_,j2,j3⟩:=i1 _ hb
 refine ⟨⟨j,by omega,j3⟩,⟨c,e,(0,0),by rw [hkb]; exact g2⟩,λ k' hk'=>?_⟩
 obtain ⟨b',hb',hkb'⟩:=key k' B hk'
 rw [hkb,hkb',Z5a i2 hb hb']
theorem N8a {S:Sit} {L:List (Nat×Nat)} {rg:Nat→Nat×Nat} {O':Nat→Lab} {w':World} (hF:Fr (Sh S L) S.w rg O' w'):
  (∀ k,k<S.w.heap.size→B6b (S.O k)=false→Oma S O' k=S.O k∧((∀ c∈L,k≠(S.bb c.1).1)→w'.heap[k]? = S.w.heap[k]?))∧
  (∀ k,O' k = .fz→Oma S O' k = .fz)∧(∀ k n q,O' k = .tm n q→Oma S O' k = .tm n q):=by
 have cases3:∀ k,k<S.w.heap.size→B6b (S.O k)=false→(O' k = .fz∧S.O k = .fz∧w'.heap[k]? = S.w.heap[k]?)∨(O' k = .no∧w'.heap[k]? = S.w.heap[k]?)∨(∃ c∈L,O' k = .bx c.2∧k=(S.bb c.1).1):=by
  intro k hk ht
  have no:Sh S L k = .no→(O' k = .no∧w'.heap[k]? = S.w.heap[k]?):=λ h=>hF.no k hk h
  cases hO:S.O k with
  |fz=>
   have:=hF.fz k hk (Q4 hO)
   exact .inl ⟨this.1,rfl,this.2⟩
  |no=>exact .inr (.inl (no (by simp [Sh,hO])))
  |pl l p=>exact .inr (.inl (no (by simp [Sh,hO])))
  |tm n q=>rw [hO] at ht; simp [B6b] at ht
  |bx b=>
   cases hl:lkF L b with
   |none=>exact .inr (.inl (no (by simp [Sh,hO,hl])))
   |some B=>
    by_cases hb:k=(S.bb b).1
    ·have h2:Sh S L k = .bx B:=by
      unfold Sh
      rw [hO]
      simp only
      rw [hl]
      exact if_pos hb
     exact .inr (.inr ⟨(b,B),I6a hl,(hF.bx k B hk h2).1,hb⟩)
    ·refine .inr (.inl (no ?_))
     unfold Sh
     rw [hO]
     simp only
     rw [hl]
     exact if_neg hb
 refine ⟨λ k hk ht=>⟨by unfold Oma; rw [if_pos ⟨hk,ht⟩],λ hnb=>?_⟩,λ k hk=>?_,λ k n q hk=>?_⟩
 ·rcases cases3 k hk ht with h|h|⟨c,h1,_,h2⟩
  ·exact h.2.2
  ·exact h.2
  ·exact absurd h2 (hnb c h1)
 ·unfold Oma
  split
  ·rename_i hc
   rcases cases3 k hc.1 hc.2 with h|h|⟨c,_,h,_⟩
   ·exact h.2.1
   ·rw [hk] at h; cases h.1
   ·rw [hk] at h; cases h
  ·rw [hk]; rfl
 ·unfold Oma
  split
  ·rename_i hc
   rcases cases3 k hc.1 hc.2 with h|h|⟨c,_,h,_⟩
   ·rw [hk] at h; cases h.1
   ·rw [hk] at h; cases h.1
   ·rw [hk] at h; cases h
  ·rw [hk]; rfl
theorem C5b (w w':World) (hsz:w.heap.size≤w'.heap.size):∀ ks:List Nat,∃ w1:World,w1 = { w' with heap:=w1.heap }∧w1.heap.size=w'.heap.size∧(∀ k∈ks,k<w.heap.size→w1.heap[k]? = w.heap[k]?)∧∀ k,k∉ks→w1.heap[k]? = w'.heap[k]?
 |[]=>⟨w',rfl,rfl,by simp,λ _ _=>rfl⟩
 |k0::ks=>by
  obtain ⟨w1,h1,h2,h3,h4⟩:=C5b w w' hsz ks
  by_cases hk:k0<w.heap.size
  ·refine ⟨{ w' with heap:=w1.heap.setIfInBounds k0 w.heap[k0] },rfl,by simp [h2],λ k hm hkl=>?_,λ k hm=>?_⟩
   ·show (w1.heap.setIfInBounds k0 w.heap[k0])[k]? = _
    by_cases e:k=k0
    ·subst e
     rw [Array.getElem?_setIfInBounds_self,if_pos (by omega),Array.getElem?_eq_getElem hk]
    ·rw [Array.getElem?_setIfInBounds_ne (Ne.symm e)]
     exact h3 k ((List.mem_cons.1 hm).resolve_left e) hkl
   ·show (w1.heap.setIfInBounds k0 w.heap[k0])[k]? = _
    rw [Array.getElem?_setIfInBounds_ne (λ e=>hm (by rw [e]; exact List.mem_cons_self))]
    exact h4 k (λ h=>hm (List.mem_cons_of_mem _ h))
  ·refine ⟨w1,h1,h2,λ k hm hkl=>?_,λ k hm=>h4 k (λ h=>hm (List.mem_cons_of_mem _ h))⟩
   rcases List.mem_cons.1 hm with rfl|hm
   ·exact absurd hkl hk
   ·exact h3 k hm hkl
structure Bk where
 b:Nat
 n:Nat
 l:List Lf
 us:List Value
def Bk.Ok (P:Program) (S:Sit) (w':World) (d:Bk):Prop:=
 ∃ c c' e,(S.g (H d.b)).2 = .one (.hd d.l.length)∧S.w.heap[(S.bb d.b).1]? = some (.cells c e (0,0))∧w'.heap[(S.bb d.b).1]? = some (.cells c' e (0,0))∧c'.size=c.size∧
  (∀ i,(i<(S.bb d.b).2∨(S.bb d.b).2+d.l.length≤i)→c'[i]? = c[i]?)∧(∀ j,j<d.l.length→c'[(S.bb d.b).2+j]? = d.us[j]?)∧A4 d.l=true∧Ad P S (λ j => .tm d.n [j]) 0 d.l d.us
theorem Ksa {w':World}:∀ (D:List Bk) {S:Sit} {A:Ab},B7 X S a→S.g=get A→(∀ d∈D,d.Ok X.P S w')→(D.map Bk.b).Nodup→(D.map Bk.n).Nodup→(∀ d∈D,1001≤d.n∧d.n<5000)→(∀ k,(∀ d∈D,k≠(S.bb d.b).1)→w'.heap[k]? = S.w.heap[k]?)→S.w = { w' with heap:=S.w.heap }→
  ∃ S',B7 X S' a∧S'.g=get (ups A (D.flatMap λ d=>E3 d.b 0 d.l))∧S'.w=w'∧(∀ k,S.O k = .fz→S'.O k = .fz)∧(∀ n q k,0<n→n<1001→S.O k = .tm n q→S'.O k = .tm n q)∧(∀ n q x u,0<n→n<1001→L7 x=true→Bm X.P S (.tm n q) x u→Bm X.P S' (.tm n q) x u)
 |[],S,A,K,hg,_,_,_,_,hh,hw=>by
  have e1:w'.heap=S.w.heap:=Array.ext_getElem? λ k=>hh k (by simp)
  refine ⟨S,K,hg,?_,λ _ h=>h,λ _ _ _ _ _ h=>h,λ _ _ _ _ _ _ _ h=>h⟩
  rw [hw,← e1]
 |d::D,S,A,K,hg,hD,hb,hn,hr,hh,hw=>by
  obtain ⟨c,c',e,d1,d2,d3,d4,d5,d6,d7,d8⟩:=hD d (by simp)
  rw [List.map_cons,List.nodup_cons] at hb hn
  obtain ⟨r1,r2⟩:=hr d (by simp)
  let hh0:Nat→List Nat→Option Lab:=λ n q=>if n=d.n then some (.tm 0 q) else if n=0 then some (.tm 99998 q) else none
  obtain ⟨K1,L1⟩:=K.names hh0 (by
   intro n q
   simp only [hh0]
   split
   ·simp
   ·split<;>simp)
  have keep1:∀ n q k,n≠d.n→n≠0→S.O k = .tm n q→atO S.O hh0 k = .tm n q:=λ n q k h1 h2 hk=>Ou hk (by simp [hh0,h1,h2])
  have hl0:Ad X.P { S with O:=atO S.O hh0 } (λ j => .tm 0 [j]) 0 d.l d.us:=d8.imp (λ j x u hx=>hx.later L1 (λ k hk=>⟨Lz hk (by simp [hh0]),rfl⟩))
  have hul:=d8.len
  obtain ⟨hn9,c0,e0,b1,b2,b3,b4⟩:=K.box d.b d.l.length d1
  rw [d2] at b1
  cases b1
  obtain ⟨K2,L2⟩:=K1.cells (b:=d.b) (n:=d.l.length) (off:=0) (q:=λ j=>[j]) d1 (by omega) d2 hl0 (λ j hj=>rfl) (O5 d7)
  generalize hwS:({ S with O:=atO S.O hh0 }:Sit).w.setRow (({ S with O:=atO S.O hh0 }:Sit).bb d.b).1 (c.toList.take ((({ S with O:=atO S.O hh0 }:Sit).bb d.b).2+0)++d.us++c.toList.drop ((({ S with O:=atO S.O hh0 }:Sit).bb d.b).2+0+d.us.length)).toArray=w2 at K2 L2
  have hwS':S.w.setRow (S.bb d.b).1 (c.toList.take ((S.bb d.b).2+0)++d.us++c.toList.drop ((S.bb d.b).2+0+d.us.length)).toArray=w2:=hwS
  have harr:(c.toList.take ((S.bb d.b).2+0)++d.us++c.toList.drop ((S.bb d.b).2+0+d.us.length)).toArray=c':=by
   refine Array.ext_getElem? λ j=>?_
   have hct:c.toList.length=c.size:=Array.length_toList
   have ht:(c.toList.take ((S.bb d.b).2+0)).length=(S.bb d.b).2:=by rw [List.length_take,hct]; omega
   rw [List.getElem?_toArray]
   have hcj:∀ i,c.toList[i]? = c[i]? := λ i=>Array.getElem?_toList
   by_cases h1:j<(S.bb d.b).2
   ·rw [List.append_assoc,List.getElem?_append_left (by omega),List.getElem?_take,if_pos (by omega),hcj]
    exact (d5 j (.inl h1)).symm
   ·by_cases h2:j<(S.bb d.b).2+d.l.length
    ·rw [List.getElem?_append_left (by rw [List.length_append,ht]; omega),List.getElem?_append_right (by omega),ht]
     have:=d6 (j - (S.bb d.b).2) (by omega)
     rw [show (S.bb d.b).2+(j - (S.bb d.b).2)=j by omega] at this
     exact this.symm
    ·rw [List.getElem?_append_right (by rw [List.length_append,ht]; omega),List.length_append,ht,List.getElem?_drop,hcj,hul]
     rw [show (S.bb d.b).2+0+d.l.length+(j - ((S.bb d.b).2+d.l.length))=j by omega]
     exact (d5 j (.inr (by omega))).symm
  have hw2k:w2.heap[(S.bb d.b).1]? = w'.heap[(S.bb d.b).1]?:=by
   rw [← hwS',setRow_heap _ _ _ _ _ _ d2,harr,d3]
  have hw2o:∀ k,k≠(S.bb d.b).1→w2.heap[k]? = S.w.heap[k]? := λ k hk=>by rw [← hwS']; exact setRow_other _ _ _ _ hk
  have keep2:∀ n q k,n≠d.n→n≠0→S.O k = .tm n q→(D1a { S with O:=atO S.O hh0 } (B1a d.b 0) d.b 0 d.l d.us w2).O k = .tm n q:=λ n q k h1 h2 hk=>
   Ou (h:=B1a d.b 0) (keep1 n q k h1 h2 hk) (by simp [B1a,h2])
  have hdist:∀ d'∈D,d'.b≠d.b∧d'.n≠d.n:=λ d' hd'=>⟨λ e=>hb.1 (by rw [← e]; exact List.mem_map_of_mem hd'),λ e=>hn.1 (by rw [← e]; exact List.mem_map_of_mem hd')⟩
  have hblk:∀ d'∈D,(S.bb d'.b).1≠(S.bb d.b).1:=λ d' hd' e1=>by
   obtain ⟨c1,c1',e2,x1,_⟩:=hD d' (List.mem_cons_of_mem _ hd')
   obtain ⟨_,_,_,_,y2,_⟩:=K.box d'.b _ x1
   rw [e1,b2] at y2
   simp only [Option.some.injEq,Lab.bx.injEq] at y2
   exact (hdist d' hd').1 y2.symm
  have hsame:∀ n q x u,n≠d.n→n≠0→L7 x=true→Bm X.P S (.tm n q) x u→Bm X.P (D1a { S with O:=atO S.O hh0 } (B1a d.b 0) d.b 0 d.l d.us w2) (.tm n q) x u:=λ n q x u h1 h2 _ hx=>
   (hx.later L1 (lab' := .tm n q) (λ k hk=>⟨keep1 n q k h1 h2 hk,rfl⟩)).later L2 (λ k hk=>by
    have hk':atO S.O hh0 k = .tm n q:=hk
    refine ⟨Ou (h:=B1a d.b 0) hk' (by simp [B1a,h2]),hw2o k (λ e1=>?_)⟩
    rw [e1] at hk'
    rw [Bd b2 (by simp)] at hk'
    cases hk')
  obtain ⟨S3,K3,g3,w3,o3,t3,s3⟩:=Ksa D (A:=ups A (E3 d.b 0 d.l)) K2 (by
   show Py S.g d.b 0 d.l=_
   rw [M8,← hg]) (λ d' hd'=>by
   obtain ⟨c1,c1',e2,x1,x2,x3,x4,x5,x6,x7,x8⟩:=hD d' (List.mem_cons_of_mem _ hd')
   obtain ⟨z1,z2⟩:=hr d' (List.mem_cons_of_mem _ hd')
   refine ⟨c1,c1',e2,?_,(hw2o _ (hblk d' hd')).trans x2,x3,x4,x5,x6,x7,?_⟩
   ·show (Py S.g d.b 0 d.l (H d'.b)).2=_
    unfold Py
    rw [if_neg (Ik (by omega))]
    exact x1
   ·exact Ad.impS (Mq x7) (λ n x u hx h=>hsame _ _ x u (hdist d' hd').2 (by omega) hx h) x8) hb.2 hn.2 (λ d' hd'=>hr d' (List.mem_cons_of_mem _ hd')) (λ k hk=>by
   by_cases h1:k=(S.bb d.b).1
   ·rw [h1]; exact hw2k.symm
   ·show w'.heap[k]? = w2.heap[k]?
    rw [hw2o k h1]
    exact hh k (λ d' hd'=>by
     rcases List.mem_cons.1 hd' with rfl|hd'
     ·exact h1
     ·exact hk d' hd')) (by
   have h5:w2 = { S.w with heap:=w2.heap }:=by rw [← hwS']; rfl
   have h6:({ S.w with heap:=w2.heap }:World) = { w' with heap:=w2.heap }:=by rw [hw]
   exact h5.trans h6)
  refine ⟨S3,K3,?_,w3,λ k hk=>o3 k (Bd (h:=B1a d.b 0) (Bd hk (by simp)) (by simp)),λ n q k h1 h2 hk=>t3 n q k h1 h2 (keep2 n q k (by omega) (by omega) hk),λ n q x u h1 h2 hx h=>s3 n q x u h1 h2 hx (hsame n q x u (by omega) (by omega) hx h)⟩
  rw [g3,List.flatMap_cons,B6]
theorem D9a {P:Program} {S Sb:Sit} {cb:List (Nat×Nat)} {nv:Nat}:∀ (ps:List Par) {i:Nat} {ls lb:List (List Lf)} {us:List Value} {bp:List (Nat×Nat)} {ws:List Up},I4a P S cb cb nv i ps ls us bp→P5 P Sb i ps us lb→(∀ l∈lb,∀ y∈l,L7 y=true)→Msa (bp.map Prod.fst) lb=some ws→
  ∃ D:List Bk,D.map Bk.b=bp.map Prod.fst∧ws=D.flatMap (λ d=>E3 d.b 0 d.l)∧(D.map Bk.n).Nodup∧
   ∀ d∈D,∃ j B t c e,i≤j∧j<i+ps.length∧d.n=1001+j∧(d.b,B)∈bp∧(S.g (H d.b)).2 = .one (.hd t)∧d.l.length=t∧A4 d.l=true∧Sb.w.heap[(S.bb d.b).1]? = some (.cells c e (0,0))∧(∀ j,j<t→c[(S.bb d.b).2+j]? = d.us[j]?)∧Ad P Sb (λ j => .tm d.n [j]) 0 d.l d.us
 |[],i,[],lb,[],bp,ws,h,hb,_,hw=>by
  have e1:bp=[]:=h
  have e2:lb=[]:=hb
  subst e1 e2
  simp only [List.map_nil,Msa,Option.some.injEq] at hw
  subst hw
  exact ⟨[],rfl,rfl,by simp,by simp⟩
 |[],i,_::_,_,_,_,_,h,_,_,_=>h.elim
 |[],i,[],_,_::_,_,_,h,_,_,_=>h.elim
 |p::ps,i,[],_,_,_,_,h,_,_,_=>h.elim
 |p::ps,i,_::_,_,[],_,_,h,_,_,_=>h.elim
 |p::ps,i,l::ls,lb,u::us,bp,ws,h,hb,hs,hw=>by
  obtain ⟨b1,b2,rfl,h1,h2⟩:=h
  have skip:b1=[]→P5 P Sb (i+1) ps us lb→∃ D:List Bk,D.map Bk.b=(b1++b2).map Prod.fst∧ws=D.flatMap (λ d=>E3 d.b 0 d.l)∧(D.map Bk.n).Nodup∧
   ∀ d∈D,∃ j B t c e,i≤j∧j<i+(p::ps).length∧d.n=1001+j∧(d.b,B)∈b1++b2∧(S.g (H d.b)).2 = .one (.hd t)∧d.l.length=t∧A4 d.l=true∧Sb.w.heap[(S.bb d.b).1]? = some (.cells c e (0,0))∧(∀ j,j<t→c[(S.bb d.b).2+j]? = d.us[j]?)∧Ad P Sb (λ j => .tm d.n [j]) 0 d.l d.us:=by
   intro e1 hb2
   subst e1
   rw [List.nil_append] at hw ⊢
   obtain ⟨D,h3,h4,h5,h6⟩:=D9a ps h2 hb2 hs hw
   exact ⟨D,h3,h4,h5,λ d hd=>by
    obtain ⟨j,B,t,c,e,j1,j2,rest⟩:=h6 d hd
    exact ⟨j,B,t,c,e,by omega,by simp only [List.length_cons]; omega,rest⟩⟩
  have box:∀ {t t':Ty} {lb':List (List Lf)} {l':List Lf},lb=l'::lb'→Z4a P S (bid nv i) t t' l u b1→Bsa P Sb i t' l' u→P5 P Sb (i+1) ps us lb'→∃ D:List Bk,D.map Bk.b=(b1++b2).map Prod.fst∧ws=D.flatMap (λ d=>E3 d.b 0 d.l)∧(D.map Bk.n).Nodup∧
   ∀ d∈D,∃ j B t c e,i≤j∧j<i+(p::ps).length∧d.n=1001+j∧(d.b,B)∈b1++b2∧(S.g (H d.b)).2 = .one (.hd t)∧d.l.length=t∧A4 d.l=true∧Sb.w.heap[(S.bb d.b).1]? = some (.cells c e (0,0))∧(∀ j,j<t→c[(S.bb d.b).2+j]? = d.us[j]?)∧Ad P Sb (λ j => .tm d.n [j]) 0 d.l d.us:=by
   rintro t t' lb' l' rfl ⟨b,e1,e2,e3,e4,_⟩ ⟨k,o',c,e,vs,f1,f2,f3,f4,f5⟩ hb2
   subst e1
   rw [e2] at f1
   cases f1
   simp only [List.singleton_append,List.map_cons,Msa] at hw
   split at hw
   ·rename_i ws' hws'
    cases hw
    obtain ⟨D,h3,h4,h5,h6⟩:=D9a ps h2 hb2 (λ l hl=>hs l (List.mem_cons_of_mem _ hl)) hws'
    refine ⟨⟨b,1001+i,l',vs⟩::D,by simp [h3],by rw [List.flatMap_cons,h4],?_,λ d hd=>?_⟩
    ·rw [List.map_cons,List.nodup_cons]
     refine ⟨λ hm=>?_,h5⟩
     obtain ⟨d,hd,e5⟩:=List.mem_map.1 hm
     obtain ⟨j,_,_,_,_,j1,_,j3,_⟩:=h6 d hd
     have e6:d.n=1001+i:=e5
     omega
    ·rcases List.mem_cons.1 hd with rfl|hd
     ·exact ⟨i,bid nv i,t.sz,c,e,Nat.le_refl _,by simp only [List.length_cons]; omega,rfl,by simp,e3,by rw [f3,e4],Si _ (hs l' (by simp)),f2,λ j hj=>f4 j (by omega),f5⟩
     ·obtain ⟨j,B,t,c,e,j1,j2,j3,j4,rest⟩:=h6 d hd
      exact ⟨j,B,t,c,e,by omega,by simp only [List.length_cons]; omega,j3,List.mem_cons_of_mem _ j4,rest⟩
   ·cases hw
  cases p with
  |val ag t=>exact skip h1.1 hb
  |vw t h0=>exact skip h1.1 hb
  |rd t=>exact skip h1.1 hb
  |fn F m=>exact skip h1.1 hb
  |ptr t t'=>
   cases lb with
   |nil=>exact hb.elim
   |cons l' lb'=>exact box rfl h1 hb.1 hb.2
  |hid t t'=>
   cases lb with
   |nil=>exact hb.elim
   |cons l' lb'=>exact box rfl h1 hb.1 hb.2
theorem Z7a (hE:Mt X E) (K:B7 X S a) (hg:S.g=get A) {xs:List (TypeId×Operand)} {cs cb:List (Nat×Nat)} {f:FuncId} {en:Ent} (hrun:(execOp a.eval o).run X.P S.w = .ok (.enter f (xs.map (λ x=>a.eval x.2)++cs.map (Z1 S)).toArray) S.w) (hd:∀ d,o.dst=some d→d<X.nt)
  (hco:Pm X.P f en) (hnv:en.nv=xs.length+cs.length) (hp:Yha E en.rs o.dst=true) (hn:en.nv≤1000) (hps:Ob en.nv 0 en.ps=true) (hlen:en.ps.length≤2000) (hrl:en.rs.length≤400)
  (h:(match Nx E cb cb en.nv A xs (cs++cb) en.ps with
  |none=>none
  |some (ls,us,bs)=>bif Epa bs then (match Ug _ ls with
   |none=>none
   |some x=>(en.run x).bind λ r=>
    match Msa bs ((Fp _ r).drop en.rs.length) with
    |none=>none
    |some ws=>match Sq (ups (ups A us) ws) en.rs (shL E o.dst (Fp _ r)) o.dst with
     |none=>none
     |some rs=>Kc (us++(ws++rs))) else none)=some r):Ld X o a S.w A Kc r:=by
 have hnp:∀ d',o.dst=some d'→N4 en.rs=true→X.np≤d':=λ d' h1 h2=>by
  have:=hp
  unfold Yha at this
  rw [h1,h2] at this
  exact hE.np ▸ (Nat.le_of_ble_eq_true (by simpa using this))
 split at h
 ·cases h
 ·rename_i ls us bs hargs
  rw [csi] at h
  obtain ⟨hnd,h⟩:=h
  split at h
  ·cases h
  ·rename_i x hx
   cases hrun':en.run x with
   |none=>rw [hrun'] at h; simp at h
   |some y=>
    rw [hrun'] at h
    simp only [Option.bind_some] at h
    split at h
    ·cases h
    ·rename_i ws hws
     split at h
     ·cases h
     ·rename_i rs hrs
      obtain ⟨S1,L,K1,g1,G1,hLb,p1⟩:=Fia (X:=X) (a:=a) hE hn en.ps 0 K hg hargs
      have hpv:Z1 S1=Z1 S:=by funext b; unfold Z1; rw [G1.bb]
      obtain ⟨i1,i2,i3,i4⟩:=D8a hn en.ps p1
      have hn1:(L.map Prod.fst).Nodup:=by rw [hLb]; exact Fka hnd
      have hok:=Q0a K1 hn1 i2 en.ps p1 (Xe _ _ _ hx) (λ _ h=>h) hps
      have hdrop:(xs.map (λ x=>a.eval x.2)++(cs++cb).map (Z1 S)).drop en.nv=cb.map (Z1 S1):=by
       rw [hpv,hnv,List.map_append,← List.append_assoc,List.drop_left' (by simp)]
      have htake:(xs.map (λ x=>a.eval x.2)++(cs++cb).map (Z1 S)).take en.nv=xs.map (λ x=>a.eval x.2)++cs.map (Z1 S):=by
       rw [hnv,List.map_append,← List.append_assoc,List.take_left' (by simp)]
      have hs:=hco.sound x y hrun' S1.w (Sh S1 L) (Z6a S1 L) _ (λ k hk=>K1.lt k (λ e=>hk (by simp [Sh,e]))) (C4b K1 hn p1) (by rw [hdrop]; exact hok)
      rw [htake] at hs
      refine ⟨_,h,Bva hrun (Uv (by rw [← G1.w]; exact hs) ?_)⟩
      rintro e w' ⟨v,O',rfl,hF,hlt,hres,hback⟩
      refine ⟨v,rfl,?_⟩
      obtain ⟨a1,a2,a3⟩:=N8a hF
      have hlt2:∀ k,Oma S1 O' k ≠ .no→k<w'.heap.size:=λ k hk=>by
       by_cases hkl:k<S1.w.heap.size
       ·exact Nat.lt_of_lt_of_le hkl hF.size
       ·refine hlt k (λ e=>hk ?_)
        unfold Oma
        rw [if_neg (λ h=>hkl h.1),e]
        rfl
      have hnt:∀ k,(∀ n q,S1.O k ≠ .tm n q)→B6b (S1.O k)=false:=λ k hk=>by
       cases hO:S1.O k<;>first|rfl|exact absurd hO (hk _ _)
      have hsol:=Mf (en.rs.map Prod.snd++N3 en.ps) y
      rw [← hLb] at hws
      obtain ⟨D,D1,D2,D3,D4⟩:=D9a en.ps p1 hback (λ l hl=>hsol l (List.mem_of_mem_drop hl)) hws
      obtain ⟨w1,r1,r2,r3,r4⟩:=C5b S1.w w' hF.size (L.map λ c=>(S1.bb c.1).1)
      have hblk:∀ k,k<S1.w.heap.size→B6b (S1.O k)=false→w1.heap[k]? = S1.w.heap[k]? := λ k hk ht=>by
       by_cases hm:k∈L.map λ c=>(S1.bb c.1).1
       ·exact r3 k hm hk
       ·rw [r4 k hm]
        exact (a1 k hk ht).2 (λ c hc e=>hm (by rw [e]; exact List.mem_map_of_mem (f:=λ c:Nat×Nat=>(S1.bb c.1).1) hc))
      have ros:w1.os=w'.os:=by rw [r1]
      have rtape:w1.tape=w'.tape:=by rw [r1]
      have rout:w1.output=w'.output:=by rw [r1]
      obtain ⟨K2,L2⟩:=K1.world (w':=w1) (O':=Oma S1 O') (λ k hk ht=>⟨(a1 k hk (hnt k ht)).1,hblk k hk (hnt k ht)⟩) (ros.trans hF.os) (rtape.trans hF.tape) (rout.trans hF.out) (by rw [r2]; exact hF.size) (λ k hk=>by rw [r2]; exact hlt2 k hk)
      have hbr:∀ {n:Nat} {q:List Nat} {x:Lf} {u:Value},L7 x=true→Bm X.P (bare O' w') (.tm n q) x u→Bm X.P (B8a S1 w1 (Oma S1 O')) (.tm n q) x u:=by
       intro n q x u hx hu
       have hno:∀ k,(O' k = .fz∨O' k = .tm n q)→w1.heap[k]? = w'.heap[k]? := λ k hk=>by
        by_cases hm:k∈L.map λ c=>(S1.bb c.1).1
        ·exfalso
         obtain ⟨c,hc,rfl⟩:=List.mem_map.1 hm
         obtain ⟨m,hm1⟩:=i3 c hc
         obtain ⟨_,cc,ee,g2,g3,_⟩:=K1.box c.1 m hm1
         have hcal:Sh S1 L (S1.bb c.1).1 = .bx c.2:=Pza g3 (Kra hn1 (show (c.1,c.2)∈L from hc)) rfl
         have:=(hF.bx _ _ (K1.lt _ (by rw [g3]; simp)) hcal).1
         rcases hk with hk|hk<;>rw [this] at hk<;>cases hk
        ·exact r4 k hm
       cases x with
       |sc v=>exact hu
       |fz e r xs=>exact Ty.rep_mono (t := .sl e r) (λ k hk=>a2 k hk) (λ k hk=>hno k (.inl hk)) _ _ hu
       |own e r xs=>exact I8.later (O':=Oma S1 O') (w':=w1) hu (λ k hk=>⟨a2 k hk,hno k (.inl hk)⟩) (λ k hk=>⟨a3 k n q hk,hno k (.inr hk)⟩)
       |_=>simp [L7] at hx
      have hDok:∀ d∈D,d.Ok X.P (B8a S1 w1 (Oma S1 O')) w':=λ d hd'=>by
       obtain ⟨j,B,t,c',e',j1,j2,j3,j4,j5,j6,j7,j8,j9,j10⟩:=D4 d hd'
       obtain ⟨g0,c0,e0,g2,g3,g4,g5⟩:=K1.box d.b _ j5
       have hcal:Sh S1 L (S1.bb d.b).1 = .bx B:=Pza g3 (Kra hn1 j4) rfl
       have hkl:=K1.lt _ (show S1.O (S1.bb d.b).1 ≠ .no by rw [g3]; simp)
       obtain ⟨_,c1,c2,e7,ff,x2,x3,x4,x5⟩:=hF.bx _ _ hkl hcal
       rw [g2] at x2
       cases x2
       have j8':w'.heap[(S1.bb d.b).1]? = some (.cells c' e'):=j8
       rw [x3] at j8'
       cases j8'
       have hrg:Z6a S1 L B=((S1.bb d.b).2,t):=by
        unfold Z6a
        rw [Fja i2 j4]
        simp only [j5]
       rw [hrg] at x5
       refine ⟨c0,_,_,by rw [j6]; exact j5,?_,x3,x4,λ i hi=>x5 i (by rw [j6] at hi; exact hi),λ j hj=>j9 j (by omega),j7,?_⟩
       ·show w1.heap[(S1.bb d.b).1]? = _
        rw [hblk _ hkl (by rw [g3]; rfl)]
        exact g2
       ·exact Ad.impS (Mq j7) (λ n x u hx hu=>hbr hx hu) j10
      obtain ⟨S2,K3,g3,w3,o3,t3,s3⟩:=Ksa (w':=w') D (A:=ups A us) K2 g1 hDok (by rw [D1]; exact hn1) D3 (λ d hd'=>by
       obtain ⟨j,_,_,_,_,_,j2,j3,_⟩:=D4 d hd'
       exact ⟨by omega,by omega⟩) (λ k hk=>(r4 k (λ hm=>by
       obtain ⟨c,hc,hce⟩:=List.mem_map.1 hm
       have:c.1∈D.map Bk.b:=by rw [D1]; exact List.mem_map_of_mem hc
       obtain ⟨d,hd',hde⟩:=List.mem_map.1 this
       refine hk d hd' ?_
       rw [← hce,← hde]
       rfl)).symm) r1
      have hnames:∀ (n:Nat) (q:List Nat) (x:Lf) (u:Value),0<n→n<1001→L7 x=true→Bm X.P (bare O' w') (.tm n q) x u→Bm X.P S2 (.tm n q) x u:=λ n q x u h1 h2 hx hu=>s3 n q x u h1 h2 hx (hbr hx hu)
      have hlb:∀ n q k,0<n→n<1001→O' k = .tm n q→S2.O k = .tm n q:=λ n q k h1 h2 hk=>t3 n q k h1 h2 (a3 k n q hk)
      have hres1:Li X.P S2 S1.w.heap.size en.rs (Fp _ y) v:=by
       have one:∀ {i:Nat} {k:RK} {l:List Lf} {u:Value},0<i→i<500→(∀ z∈l,L7 z=true)→Qy X.P (bare O' w') S1.w.heap.size i k l u→Qy X.P S2 S1.w.heap.size i k l u:=by
        intro i k l u h1 h2 hz h
        cases k with
        |one=>exact Ad.impM (λ x hx n u h=>hnames _ _ x u h1 (by omega) (hz x hx) h) h
        |agg=>
         obtain ⟨us,e,h⟩:=h
         exact ⟨us,e,h.impM (λ x hx n u h=>hnames _ _ x u h1 (by omega) (hz x hx) h)⟩
        |ptr=>
         obtain ⟨k,o',c,e,us,e1,e2,e3,e4,e5,e6,e7,h⟩:=h
         exact ⟨k,o',c,e,us,e1,by rw [w3]; exact e2,e3,hlb _ _ _ (by omega) (by omega) e4,e5,e6,e7,h.impM (λ x hx n u h=>hnames _ _ x u h1 (by omega) (hz x hx) h)⟩
       have all:∀ (rs:List (RK×Ty)) {i:Nat} {ls:List (List Lf)} {us:List Value},0<i→i+rs.length<500→(∀ l∈ls,∀ z∈l,L7 z=true)→Mz X.P (bare O' w') S1.w.heap.size i rs ls us→Mz X.P S2 S1.w.heap.size i rs ls us:=by
        intro rs
        induction rs with
        |nil=>intro i ls us _ _ _ h; exact h
        |cons r rs ih=>
         intro i ls us h1 h2 hz h
         cases ls with
         |nil=>exact h.elim
         |cons l ls=>
          cases us with
          |nil=>exact h.elim
          |cons u us=>
           simp only [List.length_cons] at h2
           exact ⟨one h1 (by omega) (hz l (by simp)) h.1,ih (by omega) (by omega) (λ l hl=>hz l (List.mem_cons_of_mem _ hl)) h.2⟩
       unfold Li at hres ⊢
       split at hres
       ·obtain ⟨l,ls',e1,h5⟩:=hres
        exact ⟨l,ls',e1,one (by omega) (by omega) (hsol l (by rw [e1]; simp)) h5⟩
       ·obtain ⟨us',e1,h5⟩:=hres
        exact ⟨us',e1,all en.rs (by omega) (by omega) hsol h5⟩
      obtain ⟨S3,K4,w4,g4⟩:=Kpa (E:=E) K3 g3 (λ _=>hrl) hd K1.fr.size (Mf _ y) hnp hres1 (by rw [← D2]; exact hrs)
      refine ⟨S3,w4.trans w3,K4,?_⟩
      rw [g4,← D2,B6,B6]
theorem Q1a {α β:Type}:∀ {l:List α} {m:List β},m.length≤l.length→(l.zip m).map Prod.snd=m
 |_,[],_=>by simp
 |[],_::_,h=>by simp at h
 |_::l,_::m,h=>by simp [Q1a (l:=l) (m:=m) (by simpa using h)]
theorem Daa:∀ {Ts:List TypeId} {xs:List Operand} {ss:List Sv},Uj E Ts A xs=some ss→xs.length≤Ts.length
 |_,[],_,_=>Nat.zero_le _
 |[],_::_,_,h=>by simp [Uj] at h
 |T::Ts,x::xs,ss,h=>by
  simp only [Uj] at h
  split at h
  ·split at h
   ·rename_i hr
    simp only [List.length_cons]
    have:=Daa hr
    omega
   ·cases h
  ·cases h
theorem Kta (hE:Mt X E) (K:B7 X S a) (hg:S.g=get A) {Ts:List TypeId} {xs:List Operand} {cs:List (Nat×Nat)} {f:FuncId} {en:Ent} {ss:List Sv} (hrun:(execOp a.eval o).run X.P S.w = .ok (.enter f (xs.map a.eval++cs.map (Z1 S)).toArray) S.w) (hd:∀ d,o.dst=some d→d<X.nt)
  (hco:Pm X.P f en) (hss:Uj E Ts A xs=some ss) (h:Cqa E A en (Ts.zip xs) cs ss o.dst Kc=some r):Ld X o a S.w A Kc r:=by
 unfold Cqa at h
 have hz:=Q1a (Daa hss)
 have hzl:(Ts.zip xs).length=xs.length:=by
  rw [List.length_zip]
  have:=Daa hss
  omega
 rw [csi] at h
 obtain ⟨hnv,h⟩:=h
 have hnv':en.nv=xs.length+cs.length:=by rw [← hzl]; exact Nat.eq_of_beq_eq_true hnv
 cases hl:(Qp en.ps&&Aza en.rs&&cs.isEmpty) with
 |true=>
  rw [hl,cond_true] at h
  simp only [Bool.and_eq_true,List.isEmpty_iff] at hl
  obtain ⟨⟨l1,l2⟩,l3⟩:=hl
  subst l3
  simp only [List.map_nil,List.append_nil] at hrun
  exact Z3a hE K hg hrun hd hco (by simpa using hnv') (Hva hE K hg hss) l1 l2 h
 |false=>
  rw [hl,cond_false] at h
  rw [csi] at h
  obtain ⟨hp,h⟩:=h
  simp only [Bool.and_eq_true] at hp
  obtain ⟨p1,⟨⟨p2,p3⟩,p4⟩,p5⟩:=hp
  refine Z7a (xs:=Ts.zip xs) (cs:=cs) (cb:=Osa ss++Eoa A en.ps ss) hE K hg ?_ hd hco (by rw [hzl]; exact hnv') p1 (Nat.le_of_ble_eq_true p2) p3 (Nat.le_of_ble_eq_true p5) (Nat.le_of_ble_eq_true p4) h
  have e1:(Ts.zip xs).map (λ x=>a.eval x.2)=xs.map a.eval:=by
   rw [← hz,List.map_map]
   rw [hz]
   rfl
  rw [e1]
  exact hrun
theorem Z8a (hE:Mt X E) (hcall:∀ f en,E.call f=some en→Pm X.P f en) (K:B7 X S a) (hg:S.g=get A) {c:Call} {f:FuncId} (ho:o.op = .call c) (hc:c.callee = .value (.func f)) (hd:∀ d,o.dst=some d→d<X.nt)
  (h:Az E o A Kc=some r):Ld X o a S.w A Kc r:=by
 unfold Az at h
 rw [ho] at h
 simp only [hc] at h
 split at h
 ·rename_i en ss he hss
  have hco:=hcall f en he
  exact Kta hE K hg (by simpa using Pua (w:=S.w) ho hc hco) hd hco hss h
 ·cases h
theorem Una (hE:Mt X E) (hcall:∀ f en,E.call f=some en→Pm X.P f en) (K:B7 X S a) (hg:S.g=get A) {c:Call} {t:Nat} (ho:o.op = .call c) (hc:c.callee = .value (.tmp t)) (hd:∀ d,o.dst=some d→d<X.nt)
  (h:Az E o A Kc=some r):Ld X o a S.w A Kc r:=by
 unfold Az at h
 rw [ho] at h
 simp only [hc] at h
 split at h
 ·rename_i f bs hs
  split at h
  ·rename_i en ss he hss
   obtain ⟨hal,h⟩:=cs h
   have hco:=hcall f en he
   obtain ⟨pl,h2⟩:=Kw hE K hg hs
   obtain ⟨us,e1,e2⟩:Bm X.P S (.pl pl []) (.fn f bs) (a.eval (.tmp t)):=h2
   have e3:=Z2 hg e2 hal
   subst e3
   exact Kta hE K hg (N3a (w:=S.w) ho hc e1 hco) hd hco hss h
  ·cases h
 ·cases h
theorem Kua (hE:Mt X E) (K:B7 X S a) (hg:S.g=get A):∀ {xs:List Operand} {bs:List (Nat×Nat)},Eta E A xs=some bs→Y0 S bs (xs.map a.eval)
 |[],bs,h=>by
  simp only [Eta,Option.some.injEq] at h
  subst h
  rfl
 |x::l,bs,h=>by
  simp only [Eta] at h
  split at h
  ·rename_i b v hx
   split at h
   ·rename_i bs' hr
    cases h
    obtain ⟨pl,h2⟩:=Kw hE K hg hx
    exact ⟨_,_,rfl,h2,Kua hE K hg hr⟩
   ·cases h
  ·cases h
theorem I7a (hE:Mt X E) (K:B7 X S a) (hg:S.g=get A) {f:FuncId} {x y:Array Operand} {d:Nat} (ho:o.op = .makeFunc (.func f) x y) (hod:o.dst=some d) (hd:d<X.nt) (h:Az E o A Kc=some r):Ld X o a S.w A Kc r:=by
 unfold Az at h
 rw [ho,hod] at h
 simp only at h
 split at h
 ·rename_i bs hx hy
  have ex:x = #[]:=by
   apply Array.ext'
   simpa using hx
  subst ex
  have hsv:Ma X.P S 0 (.one (.fn f bs)) (.func (.func f) #[] (y.toList.map a.eval).toArray):=⟨_,rfl,Kua hE K hg hy⟩
  have K2:=K.put0 hd _ _ 0 rfl hsv
  refine ⟨_,h,Aw (S:=Ny S (λ _ _=>none) d _ _) (v := .func (.func f) #[] (y.toList.map a.eval).toArray) ?_ (by rw [hod]; exact K2) ?_⟩
  ·show _=Result.ok _ S.w
   have e1:y.map a.eval=(y.toList.map a.eval).toArray:=by
    apply Array.ext'
    simp
   unfold execOp
   simp [ho,Instr.makeFunc,e1]
  ·show upd S.g d _=_
   rw [Av,← hg]
 ·cases h
end
end

end Go.Proofs.YtmhhjceoinoekaaGreat.Vf
