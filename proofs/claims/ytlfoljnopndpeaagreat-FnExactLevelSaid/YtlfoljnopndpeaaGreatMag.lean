import Derived.Test.YtlfoljnopndpeaaGreatMaf
set_option linter.unusedVariables false
set_option linter.unusedSimpArgs false
namespace Go.Proofs.YtlfoljnopndpeaaGreat.Vf
open Go

section
attribute [local irreducible] C H
def bare (O:Nat→Lab) (w:World):Sit:=⟨O,λ _=>(0,0),λ _=>(0,.one .dead),λ _=>undef,w⟩
def Tx (P:Program) (S:Sit) (rg:Nat→Nat×Nat) (B:Nat) (t:Ty) (l:List Lf) (u:Value):Prop:=
 ∃ k o c e us,u = .pointer (some ⟨k,o,none⟩)∧S.w.heap[k]? = some (.cells c e (0,0))∧S.O k = .bx B∧rg B=(o,t.sz)∧o+t.sz≤c.size∧t.sz<999∧l.length=t.sz∧(∀ j,j<t.sz→c[o+j]? = us[j]?)∧
  A5 P S (λ j => .pl (C B j) []) 0 l us
def Era (P:Program) (S:Sit) (w:Nat→Value) (j:Nat):Lf→Value→Prop
 |.own _ _ _,u=>u=w j
 |x,u=>Gba x=true∧Al P S .fz x u
def V9 (Q:Nat→Lf→Value→Prop):Nat→List Lf→List Value→Prop
 |_,[],[]=>True
 |j,x::l,u::us=>Q j x u∧V9 Q (j+1) l us
 |_,_,_=>False
def Esa (P:Program) (S:Sit) (rg:Nat→Nat×Nat) (nv:Nat) (hs:List Value) (i:Nat):Par→List Lf→Value→Prop
 |.vw t h,l,u=>nv≤h∧∃ vs k o c e,u = .agg vs.toArray∧hs[h - nv]? = some (.pointer (some ⟨k,o,none⟩))∧S.w.heap[k]? = some (.cells c e (0,0))∧t.sz<999∧l.length=t.sz∧V9 (Era P S (λ j=>c.getD (o+j) undef)) 0 l vs
 |.val ag _,l,u=>∃ us,(if ag then u = .agg us.toArray else us=[u])∧A5 P S (λ j => .pl i (if ag then [j] else [])) 0 l us
 |.ptr t _,l,u=>i<nv∧Tx P S rg (bid nv i) t l u
 |.hid t _,l,u=>nv≤i∧Tx P S rg (bid nv i) t l u
 |.rd t,l,u=>∃ x k o cs,mkW t l=some x∧u = .pointer (some ⟨k,o,none⟩)∧S.O k = .fz∧t.rep P (λ k=>S.O k = .fz) S.w x cs∧Ei S.w k o cs
 |.fn F m,_,u=>u = .func (.func F) #[] hs.toArray∧hs.length=m
def Mo (P:Program) (S:Sit) (rg:Nat→Nat×Nat) (nv:Nat) (hs:List Value):Nat→List Par→List (List Lf)→List Value→Prop
 |_,[],[],[]=>True
 |i,p::ps,l::ls,u::us=>Esa P S rg nv hs i p l u∧Mo P S rg nv hs (i+1) ps ls us
 |_,_,_,_=>False
def Nq (P:Program) (S:Sit) (n0:Nat) (i:Nat):RK→List Lf→Value→Prop
 |.one,l,u=>A5 P S (λ _ => .tm i []) 0 l [u]
 |.agg,l,u=>∃ us,u = .agg us.toArray∧A5 P S (λ j => .tm i [j]) 0 l us
 |.ptr,l,u=>∃ k o c e us,u = .pointer (some ⟨k,o,none⟩)∧S.w.heap[k]? = some (.cells c e (0,0))∧n0≤k∧S.O k = .tm (i+500) []∧o+l.length≤c.size∧l.length<999∧(∀ j,j<l.length→c[o+j]? = us[j]?)∧
   A5 P S (λ j => .tm i [j]) 0 l us
def L5 (P:Program) (S:Sit) (n0:Nat):Nat→List (RK×Ty)→List (List Lf)→List Value→Prop
 |_,[],_,us=>us=[]
 |i,k::ks,l::ls,u::us=>Nq P S n0 i k.1 l u∧L5 P S n0 (i+1) ks ls us
 |_,_,_,_=>False
def Jd (P:Program) (S:Sit) (n0:Nat) (rs:List (RK×Ty)) (ls:List (List Lf)) (v:Value):Prop:=
 match rs with
 |[r]=>∃ l ls',ls=l::ls'∧Nq P S n0 1 r.1 l v
 |rs=>∃ us,v = .tuple us.toArray∧L5 P S n0 1 rs ls us
def Tz (P:Program) (S:Sit) (i:Nat) (t':Ty) (l:List Lf) (u:Value):Prop:=
 ∃ k o c e us,u = .pointer (some ⟨k,o,none⟩)∧S.w.heap[k]? = some (.cells c e (0,0))∧l.length=t'.sz∧(∀ j,j<t'.sz→c[o+j]? = us[j]?)∧A5 P S (λ j => .tm (1001+i) [j]) 0 l us
def Mb (P:Program) (S:Sit):Nat→List Par→List Value→List (List Lf)→Prop
 |_,[],_,ls=>ls=[]
 |i,.ptr _ t'::ps,u::us,l::ls=>Tz P S i t' l u∧Mb P S (i+1) ps us ls
 |i,.hid _ t'::ps,u::us,l::ls=>Tz P S i t' l u∧Mb P S (i+1) ps us ls
 |i,.val _ _::ps,_::us,ls=>Mb P S (i+1) ps us ls
 |i,.vw _ _::ps,_::us,ls=>Mb P S (i+1) ps us ls
 |i,.rd _::ps,_::us,ls=>Mb P S (i+1) ps us ls
 |i,.fn _ _::ps,_::us,ls=>Mb P S (i+1) ps us ls
 |_,_,_,_=>False
def Qha (nv n b:Nat):Prop:=∃ i,i<n∧b=bid nv i
def Oha (P:Program) (f:FuncId) (en:Ent):Prop:=
 ∀ x r,en.run x=some r→∀ (w:World) (O:Nat→Lab) (rg:Nat→Nat×Nat) (us:List Value),(∀ k,O k ≠ .no→k<w.heap.size)→(∀ k b,O k = .bx b→Qha en.nv en.ps.length b∧(∃ c e f,w.heap[k]? = some (.cells c e f))∧∀ k',O k' = .bx b→k'=k)→Mo P (bare O w) rg en.nv (us.drop en.nv) 0 en.ps (Cn _ x) us→
  Calls P f (us.take en.nv).toArray w (λ e w'=>∃ v O',e = .returned v∧Fr O w rg O' w'∧(∀ k,O' k ≠ .no→k<w'.heap.size)∧Jd P (bare O' w') w.heap.size en.rs (Cn _ r) v∧Mb P (bare O' w') 0 en.ps us ((Cn _ r).drop en.rs.length))
structure Mp (P:Program) (f:FuncId) (en:Ent):Prop where
 fn:∃ fn,P.funcs[f]? = some fn∧(fn.name == "runtime.NumGoroutine")=false∧fn.body.isNone=false
 sound:Oha P f en
section
variable {X:Cx} {S S':Sit} {a:Act} {E:En} {A:Ab} {o:Oper} {R:Type} {Kc:List Up→Option R} {r:R}
def J3:Lf→Bool
 |.sc _ | .fz _ _ _ | .own _ _ _=>true
 |_=>false
theorem Al.bare {P:Program} {x:Lf} {u:Value} {lab lab':Lab} (hx:J3 x=true) {S1 S2:Sit} (hw:S2.w=S1.w) (hf:∀ k,S1.O k = .fz→S2.O k = .fz) (hl:∀ k,S1.O k=lab→S2.O k=lab') (h:Al P S1 lab x u):Al P S2 lab' x u:=by
 cases x with
 |sc v=>exact h
 |fz e r xs=>exact Ty.rep_mono (t := .sl e r) hf (λ k _=>by rw [hw]) _ _ h
 |own e r xs=>exact F7.later (O':=S2.O) (w':=S2.w) h (λ k hk=>⟨hf k hk,by rw [hw]⟩) (λ k hk=>⟨hl k hk,by rw [hw]⟩)
 |_=>simp [J3] at hx
theorem L6:∀ (t:Ty) (x:t.den),∀ y∈A4 t x,J3 y=true
 |.i _,_=>by simp [A4,J3]
 |.b,_=>by simp [A4,J3]
 |.s,_=>by simp [A4,J3]
 |.sl _ _,_=>by simp [A4,J3]
 |.ow _ _,_=>by simp [A4,J3]
 |.pr x y,p=>by
  intro z hz
  rcases List.mem_append.1 (show z∈A4 x p.1++A4 y p.2 from hz) with h|h
  ·exact L6 x p.1 z h
  ·exact L6 y p.2 z h
theorem I1:∀ (t:Ty) (x:t.den),(A4 t x).length=t.sz
 |.i _,_=>rfl
 |.b,_=>rfl
 |.s,_=>rfl
 |.sl _ _,_=>rfl
 |.ow _ _,_=>rfl
 |.pr x y,p=>by
  show (A4 x p.1++A4 y p.2).length=x.sz+y.sz
  rw [List.length_append,I1 x p.1,I1 y p.2]
theorem A5.impS {P:Program} {S1 S2:Sit} {f f':Nat→Lab}:∀ {l:List Lf} {j:Nat} {us:List Value},(∀ y∈l,J3 y=true)→(∀ n x u,J3 x=true→Al P S1 (f n) x u→Al P S2 (f' n) x u)→A5 P S1 f j l us→A5 P S2 f' j l us
 |[],_,[],_,_,_=>trivial
 |[],_,_::_,_,_,h=>h.elim
 |_::_,_,[],_,_,h=>h.elim
 |y::l,j,u::us,hs,hi,h=>⟨hi j y u (hs y (by simp)) h.1,A5.impS (λ z hz=>hs z (List.mem_cons_of_mem _ hz)) hi h.2⟩
theorem Ah.world (K:Ah X S a) {w':World} {O':Nat→Lab} (h1:∀ k,k<S.w.heap.size→(∀ n q,S.O k ≠ .tm n q)→O' k=S.O k∧w'.heap[k]? = S.w.heap[k]?)
  (hos:w'.os=S.w.os) (ht:w'.tape=S.w.tape) (hout:w'.output=S.w.output) (hsz:S.w.heap.size≤w'.heap.size) (hlt:∀ k,O' k ≠ .no→k<w'.heap.size):
  Ah X (Th S w' O') a∧Es S (Th S w' O'):=by
 have keep:∀ k o,S.O k=o→k<S.w.heap.size→(∀ n q,o ≠ .tm n q)→O' k=o∧w'.heap[k]? = S.w.heap[k]?:=by
  intro k o' h hk ho
  obtain ⟨h2,h3⟩:=h1 k hk (by rw [h]; exact ho)
  exact ⟨h2.trans h,h3⟩
 have keep':∀ k o,S.O k=o→o ≠ .no→(∀ n q,o ≠ .tm n q)→O' k=o∧w'.heap[k]? = S.w.heap[k]? := λ k o' h hn ho=>keep k o' h (K.lt k (by rw [h]; exact hn)) ho
 have L:Es S (Th S w' O'):=⟨λ _=>Nat.le_refl _,λ _ _=>rfl,λ p v e r xs' h _=>⟨xs',h,rfl⟩,λ _ _=>rfl,λ k h=>keep' k _ h (by simp) (by simp),Es.box_of (λ _ _ _ h=>h) (λ k b h=>keep' k _ h (by simp) (by simp)),λ p _ hd=>⟨hd,λ _ _ _ h=>h,λ k hk=>by
  obtain ⟨h1,h2⟩:=keep' k _ hk (by simp) (by simp)
  exact ⟨.inl h1,h2⟩⟩⟩
 have F:=K.fr
 refine ⟨⟨K.nt,hlt,λ l=>(K.at_ l).later L (λ p k h=>keep' k _ h (by simp) (by simp)),λ b n h=>?_,K.rgn,K.sl,K.sz,K.df,⟨hos.trans F.os,ht.trans F.tape,hout.trans F.out,Nat.le_trans F.size hsz,λ k hk h0=>?_,λ k hk h0=>?_,λ k b hk h0=>?_⟩⟩,L⟩
 ·obtain ⟨hn,c,e,e1,e2,e3,e4⟩:=K.box b n h
  obtain ⟨h5,h6⟩:=keep' _ _ e2 (by simp) (by simp)
  exact ⟨hn,c,e,h6.trans e1,h5,e3,e4⟩
 ·obtain ⟨f1,f2⟩:=F.no k hk h0
  obtain ⟨h5,h6⟩:=keep k _ f1 (Nat.lt_of_lt_of_le hk F.size) (by simp)
  exact ⟨h5,h6.trans f2⟩
 ·obtain ⟨f1,f2⟩:=F.fz k hk h0
  obtain ⟨h5,h6⟩:=keep k _ f1 (Nat.lt_of_lt_of_le hk F.size) (by simp)
  exact ⟨h5,h6.trans f2⟩
 ·obtain ⟨f1,c,c',e,f,f2,f3,f4,f5⟩:=F.bx k b hk h0
  obtain ⟨h5,h6⟩:=keep k _ f1 (Nat.lt_of_lt_of_le hk F.size) (by simp)
  exact ⟨h5,c,c',e,f,f2,h6.trans f3,f4,f5⟩
end
end

section
attribute [local irreducible] C H
section
variable {X:Cx} {S S':Sit} {a:Act} {E:En} {A:Ab} {o:Oper} {R:Type} {Kc:List Up→Option R} {r:R}
theorem A5.impM {P:Program} {S1 S2:Sit} {f f':Nat→Lab}:∀ {l:List Lf} {j:Nat} {us:List Value},(∀ x∈l,∀ n u,Al P S1 (f n) x u→Al P S2 (f' n) x u)→A5 P S1 f j l us→A5 P S2 f' j l us
 |[],_,[],_,_=>trivial
 |[],_,_::_,_,h=>h.elim
 |_::_,_,[],_,h=>h.elim
 |y::l,j,u::us,hi,h=>⟨hi y (by simp) j u h.1,A5.impM (λ z hz=>hi z (List.mem_cons_of_mem _ hz)) h.2⟩
theorem Nq.imp {P:Program} {S1 S2:Sit} {n0 i:Nat} {k:RK} {l:List Lf} {u:Value} (hw:S2.w=S1.w) (hO:∀ k i,S1.O k = .tm i []→S2.O k = .tm i []) (hi:∀ y∈l,∀ i q u,Al P S1 (.tm i q) y u→Al P S2 (.tm i q) y u) (h:Nq P S1 n0 i k l u):Nq P S2 n0 i k l u:=by
 cases k with
 |one=>exact A5.impM (λ x hx n u h=>hi x hx _ _ u h) h
 |agg=>
  obtain ⟨us,e,h⟩:=h
  exact ⟨us,e,h.impM (λ x hx n u h=>hi x hx _ _ u h)⟩
 |ptr=>
  obtain ⟨k,o,c,e,us,e1,e2,e3,e4,e5,e6,e7,h⟩:=h
  exact ⟨k,o,c,e,us,e1,by rw [hw]; exact e2,e3,hO _ _ e4,e5,e6,e7,h.impM (λ x hx n u h=>hi x hx _ _ u h)⟩
theorem L5.imp {P:Program} {S1 S2:Sit} {n0:Nat} (hw:S2.w=S1.w) (hO:∀ k i,S1.O k = .tm i []→S2.O k = .tm i []):∀ {rs:List (RK×Ty)} {i:Nat} {ls:List (List Lf)} {us:List Value},
  (∀ l∈ls,∀ y∈l,∀ i q u,Al P S1 (.tm i q) y u→Al P S2 (.tm i q) y u)→L5 P S1 n0 i rs ls us→L5 P S2 n0 i rs ls us
 |[],_,_,_,_,h=>h
 |k::ks,i,l::ls,u::us,hi,h=>⟨h.1.imp hw hO (hi l (by simp)),L5.imp hw hO (λ l' hl'=>hi l' (List.mem_cons_of_mem _ hl')) h.2⟩
 |_::_,_,[],_,_,h=>h.elim
 |_::_,_,_::_,[],_,h=>h.elim
theorem Jd.imp {P:Program} {S1 S2:Sit} {n0:Nat} {rs:List (RK×Ty)} {ls:List (List Lf)} {v:Value} (hw:S2.w=S1.w) (hO:∀ k i,S1.O k = .tm i []→S2.O k = .tm i [])
  (hi:∀ l∈ls,∀ y∈l,∀ i q u,Al P S1 (.tm i q) y u→Al P S2 (.tm i q) y u) (h:Jd P S1 n0 rs ls v):Jd P S2 n0 rs ls v:=by
 unfold Jd at h ⊢
 split at h
 ·obtain ⟨l,ls',rfl,h⟩:=h
  exact ⟨l,ls',rfl,h.imp hw hO (hi l (by simp))⟩
 ·obtain ⟨us,e,h⟩:=h
  exact ⟨us,e,h.imp hw hO hi⟩
theorem Qia (K:Ah X S a) {A1:Ab} (hg:S.g=get A1) {d k o n0:Nat} {l0:List Nat} {m:List Lf} {us:List Value} {q:Nat→List Nat} {c:Array Value} {e:TypeId} (hd:d<X.nt) (hk:S.O k = .tm n0 l0) (hn0:n0≠0) (hk0:X.w0.heap.size≤k)
  (hc:S.w.heap[k]? = some (.cells c e (0,0))) (ho:o+m.length≤c.size) (hcs:∀ j,j<m.length→c[o+j]? = us[j]?) (hl:A5 X.P S (λ j => .tm 0 (q j)) 0 m us)
  (hq:∀ j,j<m.length→Ta d 0 0 (q j)=some (.pl (C d (0+j)) [])) (hm:m.length<999) (hst:∀ k,.hd k∉m) (hnp:X.np≤d):
  ∃ S',Ah X S' (a.put (some d) (.pointer (some ⟨k,o,none⟩)))∧S'.w=S.w∧S'.g=get (ups A1 (⟨H d,false,.one (.hd m.length)⟩::Bm d 0 m++[⟨d,false,.one (.bp d ((get A1 (H d)).1+1) 0)⟩])):=by
 obtain ⟨K2,L2⟩:=K.newbox (d:=d) (k:=k) (o:=o) hk hn0 hk0 hc ho hcs hl hq hm hst hnp (Nat.lt_of_lt_of_le hd K.nt)
 have hv:((Aoa S d k o m us).g (H d)).1=(S.g (H d)).1+1:=by
  show (My (upd S.g (H d) _) d 0 m (H d)).1=_
  unfold My
  rw [if_neg (Fz (by omega)),A6]
 have K3:=K2.put0 hd (.one (.bp d ((S.g (H d)).1+1) 0)) (.pointer (some ⟨k,o,none⟩)) 0 rfl ⟨by rw [hv]; exact Nat.le_refl _,λ _=>by
  show Value.pointer _ = .pointer (some ⟨(upd S.bb d (k,o) d).1,(upd S.bb d (k,o) d).2+0,none⟩)
  rw [A6]
  rfl⟩
 have e1:(Aoa S d k o m us).g=get (ups A1 (⟨H d,false,.one (.hd m.length)⟩::Bm d 0 m)):=by
  show My (upd S.g (H d) ((S.g (H d)).1+1,.one (.hd m.length))) d 0 m=get (ups (up A1 ⟨H d,false,.one (.hd m.length)⟩) (Bm d 0 m))
  rw [K7,M5,← hg]
  rfl
 refine ⟨_,K3,rfl,?_⟩
 show upd (Aoa S d k o m us).g d _=_
 rw [Af,A7,← e1,← hg]
def G7a (d:Nat) (many:Bool):Nat→List Nat→Option Lab:=λ n q=>match n with
 |0=>none
 |n+1=>if many then (match q with
  |[]=>some (.pl d [n,0])
  |[j]=>some (.pl d [n,j])
  |_=>none) else (if n=0 then some (.pl d q) else none)
theorem Bca (d:Nat) (many:Bool):∀ n q p,G7a d many n q=some p→∃ p',p = .pl d p':=by
 intro n q p hp
 unfold G7a at hp
 split at hp
 ·cases hp
 ·split at hp
  ·split at hp<;>first|(cases hp; exact ⟨_,rfl⟩)|cases hp
  ·split at hp<;>first|(cases hp; exact ⟨_,rfl⟩)|cases hp
theorem Bda (K:Ah X S a) {A1:Ab} (hg:S.g=get A1) {rs:List (RK×Ty)} {ls:List (List Lf)} {d:Option Nat} {us:List Up} {v:Value} {n0:Nat} (hd:∀ d',d=some d'→d'<X.nt) (hn0:X.w0.heap.size≤n0) (hls:∀ l∈ls,∀ y∈l,J3 y=true) (hnp:∀ d',d=some d'→L8 rs=true→X.np≤d')
  (hr:Jd X.P S n0 rs ls v) (h:Ox A1 rs ls d=some us):∃ S',Ah X S' (a.put d v)∧S'.w=S.w∧S'.g=get (ups A1 us):=by
 cases d with
 |none=>
  have:us=[]:=by unfold Ox at h; cases rs<;>simpa using h.symm
  subst this
  exact ⟨S,K,rfl,hg⟩
 |some d=>
  cases rs with
  |nil=>
   have:us=[⟨d,false,.tup []⟩]:=by unfold Ox at h; simpa using h.symm
   subst this
   obtain ⟨vs,rfl,h2⟩:=hr
   have:vs=[]:=by cases ls<;>exact h2
   subst this
   have K2:=K.put0 (hd d rfl) (.tup []) (.tuple #[]) 0 rfl ⟨[],rfl,trivial⟩
   exact ⟨_,K2,rfl,by show upd S.g d _=_; rw [A7,← hg]⟩
  |cons r1 rs=>
   cases rs with
   |nil=>
    obtain ⟨l,ls',e1,h2⟩:=hr
    subst e1
    obtain ⟨k,t⟩:=r1
    cases k with
    |one=>
     have h2':A5 X.P S (λ _ => .tm 1 []) 0 l [v]:=h2
     cases l with
     |nil=>exact h2'.elim
     |cons x l=>
      cases l with
      |cons y l=>exact h2'.2.elim
      |nil=>
       have:us=[⟨d,false,.one x⟩]:=by unfold Ox at h; simpa using h.symm
       subst this
       have h3:Al X.P S (.tm 1 []) x v:=h2'.1
       have L:=Gb S (G7a d false) d (.one x) v
       have hsv:Ka X.P (Lu S (G7a d false) d (.one x) v) d (.one x) v:=Al.later (lab := .tm 1 []) (lab' := .pl d []) L h3 (λ k hk=>⟨Jw hk rfl,rfl⟩)
       have K2:=K.put (hd d rfl) (G7a d false) (Bca d false) (.one x) v hsv
       exact ⟨_,K2,rfl,by show upd S.g d _=_; rw [A7,← hg]⟩
    |agg=>
     have:us=[⟨d,false,.agg l⟩]:=by unfold Ox at h; simpa using h.symm
     subst this
     obtain ⟨vs,rfl,h3⟩:=h2
     have L:=Gb S (G7a d false) d (.agg l) (.agg vs.toArray)
     have hsv:Ka X.P (Lu S (G7a d false) d (.agg l) (.agg vs.toArray)) d (.agg l) (.agg vs.toArray):=⟨vs,rfl,h3.imp (λ j x u hx=>hx.later L (λ k hk=>⟨Jw hk rfl,rfl⟩))⟩
     have K2:=K.put (hd d rfl) (G7a d false) (Bca d false) (.agg l) _ hsv
     exact ⟨_,K2,rfl,by show upd S.g d _=_; rw [A7,← hg]⟩
    |ptr=>
     have:us=Gda A1 d l:=by unfold Ox at h; simpa using h.symm
     subst this
     obtain ⟨k,o,c,e,vs,rfl,e2,e3,e4,e5,e6,e7,h3⟩:=h2
     let hh:Nat→List Nat→Option Lab:=λ n q=>if n=1 then some (.tm 0 q) else none
     obtain ⟨K1,L1⟩:=K.names hh (by intro n q; simp only [hh]; split<;>simp)
     have e4':({ S with O:=atO S.O hh }:Sit).O k = .tm 501 []:=M6 e4 (by simp [hh])
     obtain ⟨S',K',w',g'⟩:=Qia K1 (A1:=A1) (q:=λ j=>[j]) hg (hd d rfl) e4' (by decide) (Nat.le_trans hn0 e3) e2 e5 e7 (h3.imp (λ j x u hx=>hx.later L1 (λ k hk=>⟨Jw hk (by simp [hh]),rfl⟩))) (λ j hj=>rfl) e6 (by
      intro k hk
      have:=hls l (by simp) _ hk
      simp [J3] at this) (hnp d rfl rfl)
     exact ⟨S',K',w',by rw [g']; rfl⟩
   |cons r2 rs=>
    have h':(bif L8 (r1::r2::rs) then none else some [(⟨d,false,.tup (Xg (r1::r2::rs) ls)⟩:Up)])=some us:=by
     unfold Ox at h
     obtain ⟨k1,t1⟩:=r1
     cases k1<;>exact h
    cases hp:L8 (r1::r2::rs) with
    |true=>rw [hp] at h'; simp at h'
    |false=>
     rw [hp] at h'
     simp only [cond_false,Option.some.injEq] at h'
     subst h'
     obtain ⟨vs,rfl,h2⟩:=hr
     generalize hR:(r1::r2::rs)=R2 at hp h2
     have key:∀ (s:Sv) (rs:List (RK×Ty)) (i:Nat) (ls:List (List Lf)) (us:List Value),L8 rs=false→L5 X.P S n0 (i+1) rs ls us→Nd X.P (Lu S (G7a d true) d s (.tuple vs.toArray)) d i (Xg rs ls) us:=by
      intro s rs
      induction rs with
      |nil=>
       intro i ls us _ h
       have:us=[]:=by cases ls<;>exact h
       subst this
       simp [Xg,Nd]
      |cons r rs ih=>
       intro i ls us hp h
       cases ls with
       |nil=>exact h.elim
       |cons l ls=>
        cases us with
        |nil=>exact h.elim
        |cons u us=>
         obtain ⟨k,t⟩:=r
         have L:=Gb S (G7a d true) d s (.tuple vs.toArray)
         have hp2:L8 rs=false:=by cases k<;>first|(simp [L8] at hp; done)|simpa [L8] using hp
         refine ⟨?_,ih (i+1) ls us hp2 h.2⟩
         cases k with
         |ptr=>simp [L8] at hp
         |one=>
          have h2':A5 X.P S (λ _ => .tm (i+1) []) 0 l [u]:=h.1
          refine ⟨[u],rfl,?_⟩
          cases l with
          |nil=>exact h2'.elim
          |cons x l=>
           cases l with
           |cons y l=>exact h2'.2.elim
           |nil=>exact ⟨Al.later (lab := .tm (i+1) []) (lab' := .pl d [i,0]) L h2'.1 (λ k hk=>⟨Jw hk rfl,rfl⟩),trivial⟩
         |agg=>
          obtain ⟨ws,e1,h3⟩:=h.1
          exact ⟨ws,e1,h3.imp (λ j x u hx=>hx.later L (λ k hk=>⟨Jw hk rfl,rfl⟩))⟩
     have hsv:Ka X.P (Lu S (G7a d true) d (.tup (Xg R2 ls)) (.tuple vs.toArray)) d (.tup (Xg R2 ls)) (.tuple vs.toArray):=⟨vs,rfl,key _ _ 0 ls vs hp h2⟩
     have K2:=K.put (hd d rfl) (G7a d true) (Bca d true) (.tup (Xg R2 ls)) _ hsv
     exact ⟨_,K2,rfl,by show upd S.g d _=_; rw [A7,← hg]⟩
def Hda (N:Nat):Nat→List Nat→Option Lab:=λ n _=>if n≤N then some .fz else none
theorem A5.calmN {P:Program} {S:Sit} {N i:Nat} (hi:i≤N) {q:Nat→List Nat}:∀ {l:List Lf} {j:Nat} {us:List Value},(∀ y∈l,J3 y=true)→A5 P S (λ n => .tm i (q n)) j l us→A5 P { S with O:=atO S.O (Hda N) } (λ n => .tm i (q n)) j (l.map Lx) us
 |[],_,[],_,_=>trivial
 |[],_,_::_,_,h=>h.elim
 |_::_,_,[],_,h=>h.elim
 |x::l,j,u::us,hs,h=>by
  have hfz:∀ k,S.O k = .fz→atO S.O (Hda N) k = .fz:=λ k hk=>Aj hk (by simp)
  refine ⟨?_,A5.calmN hi (λ y hy=>hs y (List.mem_cons_of_mem _ hy)) h.2⟩
  have h1:=hs x (by simp)
  cases x with
  |sc v=>exact h.1
  |fz e r xs=>exact Ty.rep_mono (t := .sl e r) hfz (λ _ _=>rfl) _ _ h.1
  |own e r xs=>
   have h2:F7 P S.O S.w (.tm i (q j)) e r xs u:=h.1
   exact h2.reads (O':=λ k=>atO S.O (Hda N) k) hfz (λ k hk=>Jw hk (by simp [Hda,hi]))
  |_=>simp [J3] at h1
theorem Nq.calmN {P:Program} {S:Sit} {N n0 i:Nat} (hi:i≤N) {k:RK} (hk:k = .ptr→N<i+500) {l:List Lf} {u:Value} (hs:∀ y∈l,J3 y=true) (h:Nq P S n0 i k l u):Nq P { S with O:=atO S.O (Hda N) } n0 i k (l.map Lx) u:=by
 cases k with
 |one=>exact A5.calmN (q:=λ _=>[]) hi hs h
 |agg=>
  obtain ⟨us,e,h⟩:=h
  exact ⟨us,e,A5.calmN (q:=λ n=>[n]) hi hs h⟩
 |ptr=>
  obtain ⟨k,o,c,e,us,h1,h2,h3,h4,h5,h6,h7,h8⟩:=h
  have:=hk rfl
  refine ⟨k,o,c,e,us,h1,h2,h3,?_,by rw [List.length_map]; exact h5,by rw [List.length_map]; exact h6,by rw [List.length_map]; exact h7,A5.calmN (q:=λ n=>[n]) hi hs h8⟩
  exact M6 h4 (by unfold Hda; rw [if_neg (by omega)])
theorem Jd.calmN {P:Program} {S:Sit} {N n0:Nat} {rs:List (RK×Ty)} (hN:rs.length≤N) (hk:L8 rs=true→N<501) {ls:List (List Lf)} {v:Value} (hs:∀ l∈ls,∀ y∈l,J3 y=true) (h:Jd P S n0 rs ls v):Jd P { S with O:=atO S.O (Hda N) } n0 rs (ls.map λ l=>l.map Lx) v:=by
 have all:∀ (rs:List (RK×Ty)) (i:Nat) (ls:List (List Lf)) (us:List Value),1≤i→i+rs.length≤N+1→(L8 rs=true→N<501)→(∀ l∈ls,∀ y∈l,J3 y=true)→L5 P S n0 i rs ls us→L5 P { S with O:=atO S.O (Hda N) } n0 i rs (ls.map λ l=>l.map Lx) us:=by
  intro rs
  induction rs with
  |nil=>intro i ls us _ _ _ _ h; exact h
  |cons r rs ih=>
   intro i ls us h1 h2 h3 h4 h
   simp only [List.length_cons] at h2
   cases ls with
   |nil=>exact h.elim
   |cons l ls=>
    cases us with
    |nil=>exact h.elim
    |cons u us=>
     refine ⟨Nq.calmN (by omega) (λ hp=>?_) (h4 l (by simp)) h.1,ih (i+1) ls us (by omega) (by omega) (λ hp=>h3 ?_) (λ l hl=>h4 l (List.mem_cons_of_mem _ hl)) h.2⟩
     ·have:=h3 (by obtain ⟨k,t⟩:=r; have:k = .ptr:=hp; subst this; rfl)
      omega
     ·obtain ⟨k,t⟩:=r
      cases k<;>first|exact hp|rfl
 unfold Jd at h ⊢
 split at h
 ·rename_i r
  obtain ⟨l,ls',e,h⟩:=h
  subst e
  refine ⟨l.map Lx,_,rfl,Nq.calmN (by simpa using hN) (λ hp=>?_) (hs l (by simp)) h⟩
  have:=hk (by obtain ⟨k,t⟩:=r; have:k = .ptr:=hp; subst this; rfl)
  omega
 ·obtain ⟨us,e,h⟩:=h
  exact ⟨us,e,all _ 1 _ _ (Nat.le_refl _) (by omega) hk hs h⟩
theorem D6a {E:En} (K:Ah X S a) {A1:Ab} (hg:S.g=get A1) {rs:List (RK×Ty)} {ls:List (List Lf)} {d:Option Nat} {us:List Up} {v:Value} {n0:Nat} (hN:L8 rs=true→rs.length≤400) (hd:∀ d',d=some d'→d'<X.nt) (hn0:X.w0.heap.size≤n0) (hls:∀ l∈ls,∀ y∈l,J3 y=true) (hnp:∀ d',d=some d'→L8 rs=true→X.np≤d')
  (hr:Jd X.P S n0 rs ls v) (h:Ox A1 rs (shL E d ls) d=some us):∃ S',Ah X S' (a.put d v)∧S'.w=S.w∧S'.g=get (ups A1 us):=by
 cases d with
 |none=>exact Bda K hg hd hn0 hls hnp hr h
 |some d=>
  unfold shL at h
  simp only at h
  cases hsh:E.sh d with
  |false=>rw [hsh] at h; exact Bda K hg hd hn0 hls hnp hr h
  |true=>
   rw [hsh,cond_true] at h
   have go:∀ N,rs.length≤N→(L8 rs=true→N<501)→∃ S',Ah X S' (a.put (some d) v)∧S'.w=S.w∧S'.g=get (ups A1 us):=by
    intro N h1 h2
    obtain ⟨K1,_⟩:=K.names (Hda N) (by intro n q; unfold Hda; split<;>simp)
    refine Bda (S := { S with O:=atO S.O (Hda N) }) K1 hg hd hn0 (λ l hl y hy=>?_) hnp (hr.calmN h1 h2 hls) h
    obtain ⟨l0,h3,rfl⟩:=List.mem_map.1 hl
    obtain ⟨y0,h4,rfl⟩:=List.mem_map.1 hy
    have:=hls l0 h3 y0 h4
    cases y0<;>first|rfl|simp [J3] at this
   cases hp:L8 rs with
   |true=>exact go 400 (hN hp) (λ _=>by omega)
   |false=>exact go rs.length (Nat.le_refl _) (λ h=>by rw [hp] at h; cases h)
end
end

section
attribute [local irreducible] C H
def Mk:List Ty→List (List Lf)→List (List Lf)→Prop
 |[],[],[]=>True
 |t::ts,l::ls,l'::ls'=>(∃ y,mkW t l=some y∧l'=A4 t y)∧Mk ts ls ls'
 |_,_,_=>False
theorem Rj:∀ (ts:List Ty) (ls:List (List Lf)) (x:Den ts),Q5 ts ls=some x→Mk ts ls (Cn ts x)
 |[],[],_,_=>trivial
 |[],_::_,_,h=>by simp [Q5] at h
 |[t],[],_,h=>by simp [Q5] at h
 |[t],[l],x,h=>⟨⟨x,h,rfl⟩,trivial⟩
 |[t],_::_::_,_,h=>by simp [Q5] at h
 |_::_::_,[],_,h=>by simp [Q5] at h
 |t::u::ts,l::ls,x,h=>by
  simp only [Q5] at h
  split at h
  ·rename_i y hy
   split at h
   ·rename_i z hz
    cases h
    exact ⟨⟨y,hy,rfl⟩,Rj (u::ts) ls z hz⟩
   ·cases h
  ·cases h
theorem Ki:∀ (ts:List Ty) (x:Den ts),∀ l∈Cn ts x,∀ y∈l,J3 y=true
 |[],_=>by simp [Cn]
 |[t],x=>by
  intro l hl
  simp [Cn] at hl
  subst hl
  exact L6 t x
 |t::u::ts,x=>by
  intro l hl
  rcases List.mem_cons.1 (show l∈A4 t x.1::Cn (u::ts) x.2 from hl) with rfl|h
  ·exact L6 t x.1
  ·exact Ki (u::ts) x.2 l h
theorem Sa (t:Ty) (x:t.den) (h:Js t=true):A4 t x=lvs t x:=Rh t x h
section
variable {X:Cx} {S S':Sit} {a:Act} {E:En} {A:Ab} {o:Oper} {R:Type} {Kc:List Up→Option R} {r:R}
theorem L3a (hE:Ks X E) (K:Ah X S a) (hg:S.g=get A) {T:TypeId} {x:Operand} {s:Sv} {ag:Bool} (hx:opT E T A x=some s) (hf:Jz ag s=true):
  ∃ us,∃ f:Nat→Lab,(if ag then a.eval x = .agg us.toArray else us=[a.eval x])∧A5 X.P S f 0 (parts s) us∧∀ n,f n ≠ .no:=by
 rcases Mf hE K hg hx with ⟨t,rfl,ht,hst,het,hok⟩|⟨hnt,y,rfl,hy⟩
 ·cases s with
  |tup vs=>simp [Jz,G5a] at hf
  |one y=>
   have:ag=false:=by cases ag<;>simp [Jz,G5a] at hf ⊢
   subst this
   exact ⟨[a.eval (.tmp t)],λ _ => .pl t [],rfl,⟨hok,trivial⟩,by simp⟩
  |agg l=>
   have:ag=true:=by cases ag<;>simp [Jz,G5a] at hf ⊢
   subst this
   obtain ⟨us,e1,hl⟩:=hok
   exact ⟨us,λ n => .pl t [n],e1,hl,by simp⟩
 ·have:ag=false:=by cases ag<;>simp [Jz,G5a] at hf ⊢
  subst this
  exact ⟨[a.eval x],λ _ => .fz,rfl,⟨hy _,trivial⟩,by simp⟩
theorem Hea {ag:Bool} {s:Sv} (hf:Jz ag s=true):∀ vs,s ≠ .tup vs:=by
 intro vs e
 subst e
 simp [Jz,G5a] at hf
theorem U0 {ag:Bool} {s:Sv} {u:Value} {us:List Value} (hf:Jz ag s=true) (h:R5 s u us):if ag then u = .agg us.toArray else us=[u]:=by
 cases s with
 |tup vs=>simp [Jz,G5a] at hf
 |one y=>
  have:ag=false:=by cases ag<;>simp [Jz,G5a] at hf ⊢
  subst this
  exact h
 |agg l=>
  have:ag=true:=by cases ag<;>simp [Jz,G5a] at hf ⊢
  subst this
  exact h
theorem U1 {P:Program} {S:Sit} {G:Nat→Prop} {t:Ty} {l:List Lf} {y:t.den} {us:List Value} (hG:∀ k,G k→S.O k = .fz) (hm:mkW t l=some y) (hn:Js t=true) (h:Lk (Km P G S.w) l us) (f:Nat→Lab) (j:Nat):A5 P S f j (A4 t y) us:=by
 have h1:=Ru hm h
 have h2:=Mw (P:=P) (G:=λ k=>S.O k = .fz) (w:=S.w) t y us (Ty.rep_mono hG (λ _ _=>rfl) t y us h1)
 rw [Sa t y hn]
 exact A5.ofRep h2 f j
def Qi (S:Sit):Nat→Lab:=λ k=>if S.O k = .no then .no else .fz
theorem L4a {y:Lf} {u:Value} {lab:Lab} (K:Ah X S a) (hg:S.g=get A) (h:Al X.P S lab y u):∃ lab',(lab'=lab∨∃ p,lab' = .pl p [])∧Al X.P S lab' (Ky A y) u:=by
 unfold Ky
 split
 ·rename_i p v
  split
  ·rename_i n e r xs hp
   cases hb:Nat.beq n v with
   |false=>exact ⟨lab,.inl rfl,trivial⟩
   |true=>
    have hnv:n=v:=by simpa using hb
    subst hnv
    have e1:u=S.ph p:=h.2 (by rw [hg,hp])
    refine ⟨.pl p [],.inr ⟨p,rfl⟩,?_⟩
    have:=K.at_ p
    rw [hg,hp] at this
    rw [e1]
    exact this
  ·rename_i n e r xs hp
   cases hb:Nat.beq n v with
   |false=>exact ⟨lab,.inl rfl,trivial⟩
   |true=>
    have hnv:n=v:=by simpa using hb
    subst hnv
    have e1:u=S.ph p:=h.2 (by rw [hg,hp])
    refine ⟨.pl p [],.inr ⟨p,rfl⟩,?_⟩
    have:=K.at_ p
    rw [hg,hp] at this
    rw [e1]
    exact this
  ·exact ⟨lab,.inl rfl,trivial⟩
 ·exact ⟨lab,.inl rfl,h⟩
theorem D7a (K:Ah X S a) (hg:S.g=get A) {f:Nat→Lab} (hf:∀ n,f n ≠ .no):∀ {l:List Lf} {j:Nat} {us:List Value},A5 X.P S f j l us→A3 (l.map λ y=>Lx (Tn A y))=true→
  Lk (Km X.P (λ k=>Qi S k = .fz) S.w) (l.map λ y=>Lx (Tn A y)) us
 |[],_,[],_,_ => .nil
 |[],_,_::_,h,_=>h.elim
 |_::_,_,[],h,_=>h.elim
 |y::l,j,u::us,h,hst=>by
  have hfz:∀ k,S.O k = .fz→Qi S k = .fz:=λ k hk=>by simp [Qi,hk]
  rw [List.map_cons] at hst ⊢
  have hrest:A3 (l.map λ y=>Lx (Tn A y))=true:=by
   generalize Lx (Tn A y)=z at hst
   cases z<;>first|(simp [A3] at hst; done)|simpa [A3] using hst
  refine .cons ?_ (D7a K hg hf h.2 hrest)
  have hv:(∃ lab',lab' ≠ .no∧Al X.P S lab' (Tn A y) u)∨∃ p e r,∃ xs:List (Ty.den r),Tn A y = .fz e r xs∧B2a X.P S p e r xs u:=by
   unfold Tn
   split
   ·rename_i p v pi e r xs
    cases hq:Nat.beq (get A p).1 v with
    |false=>exact .inl ⟨f j,hf j,trivial⟩
    |true=>
     obtain ⟨_,_,h2⟩:=h.1
     exact .inr ⟨p,e,r,xs,rfl,(h2 (by rw [hg]; exact Nat.eq_of_beq_eq_true hq)).2.1⟩
   ·obtain ⟨lab',hlab,h1⟩:=L4a K hg h.1
    refine .inl ⟨lab',?_,h1⟩
    rcases hlab with rfl|⟨p,rfl⟩
    ·exact hf j
    ·simp
  rcases hv with ⟨lab',hno,h1⟩|⟨p,e,r,xs,e1,h1⟩
  rotate_left 1
  ·rw [e1]
   exact h1.reads (λ k hk=>by
    rcases hk with hk|hk<;>simp [Qi,hk])
  generalize Tn A y=z at h1 hst
  cases z with
  |sc v=>exact h1
  |fz e r xs=>exact Ty.rep_mono (t := .sl e r) hfz (λ _ _=>rfl) _ _ h1
  |own e r xs=>
   have h2:F7 X.P S.O S.w lab' e r xs u:=h1
   exact h2.reads (O':=Qi S) hfz (λ k hk=>by simp [Qi,hk,hno])
  |_=>simp [Lx,A3] at hst
theorem Y7 (hE:Ks X E) (K:Ah X S a) (hg:S.g=get A) (rg:Nat→Nat×Nat) (nv:Nat) (hs:List Value):∀ (ps:List Par) {xs:List Operand} {ss:List Sv} {ls ls':List (List Lf)} {i:Nat},Lk (λ s x=>∃ T,opT E T A x=some s) ss xs→Ni A ps ss=some ls→Mk (ps.map Par.ty) ls ls'→
  Nh ps=true→Mo X.P (bare (Qi S) S.w) rg nv hs i ps ls' (xs.map a.eval)∧xs.length=ps.length
 |[],_,_,ls,ls',i,.nil,h,hm,_=>by
  simp only [Ni,Option.some.injEq] at h
  subst h
  cases ls' with
  |nil=>exact ⟨trivial,rfl⟩
  |cons=>exact hm.elim
 |[],_,_,ls,ls',i,.cons _ _,h,hm,_=>by simp [Ni] at h
 |.ptr _ _::_,_,_,_,_,_,_,_,_,hl=>by simp [Nh] at hl
 |.hid _ _::_,_,_,_,_,_,_,_,_,hl=>by simp [Nh] at hl
 |.rd _::_,_,_,_,_,_,_,_,_,hl=>by simp [Nh] at hl
 |.fn _ _::_,_,_,_,_,_,_,_,_,hl=>by simp [Nh] at hl
 |.val ag t::ps,_,_,ls,ls',i,.nil,h,_,_=>by simp [Ni] at h
 |.val ag t::ps,_,_,ls,ls',i,.cons (x:=s) (y:=x) (xs:=ss) (ys:=xs) hs1 hss,h,hm,hl=>by
  simp only [Nh,Bool.and_eq_true] at hl
  simp only [Ni] at h
  cases hq:(Jz ag s&&A3 ((parts s).map (λ y=>Lx (Tn A y)))) with
  |false=>rw [hq] at h; simp at h
  |true=>
   rw [hq,cond_true] at h
   simp only [Bool.and_eq_true] at hq
   split at h
   ·rename_i ls1 hls1
    cases h
    cases ls' with
    |nil=>exact hm.elim
    |cons l' ls'=>
     obtain ⟨⟨y,hy,rfl⟩,hm2⟩:=hm
     obtain ⟨T,hx⟩:=hs1
     obtain ⟨us,f,hsh,hlf,hf⟩:=L3a hE K hg hx hq.1
     obtain ⟨r1,r2⟩:=Y7 hE K hg rg nv hs (i:=i+1) ps hss hls1 hm2 hl.2
     exact ⟨⟨⟨us,hsh,U1 (S:=bare (Qi S) S.w) (λ k hk=>hk) hy hl.1 (D7a K hg hf hlf hq.2) _ _⟩,r1⟩,by simp [r2]⟩
   ·cases h
def N2:Lf→Bool
 |.sc _=>true
 |.own _ r _=>Eu r
 |_=>false
theorem M8:∀ (t:Ty) (x:t.den),Eu t=true→∀ y∈A4 t x,N2 y=true
 |.i _,_,_=>by simp [A4,N2]
 |.b,_,_=>by simp [A4,N2]
 |.s,_,_=>by simp [A4,N2]
 |.sl _ _,_,h=>by simp [Eu] at h
 |.ow _ r,_,h=>by simpa [A4,N2,Eu] using h
 |.pr x y,p,h=>by
  simp only [Eu,Bool.and_eq_true] at h
  intro z hz
  rcases List.mem_append.1 (show z∈A4 x p.1++A4 y p.2 from hz) with h'|h'
  ·exact M8 x p.1 h.1 z h'
  ·exact M8 y p.2 h.2 z h'
theorem Qja {P:Program} {S1 S2:Sit} {lab lab':Lab} {y:Lf} {u:Value} (hy:N2 y=true) (hw:S2.w=S1.w) (hl:∀ k,S1.O k=lab→S2.O k=lab') (h:Al P S1 lab y u):Al P S2 lab' y u:=by
 cases y with
 |sc v=>exact h
 |own e r xs=>
  obtain ⟨bs,h1,h2,h3⟩:=h
  exact ⟨bs,Ty.dep_all (.ow e r) xs [u] bs hy (λ k _=>by rw [hw]) h1,h2,λ k hk=>hl k (h3 k hk)⟩
 |_=>simp [N2] at hy
theorem Sc:∀ (rs:List (RK×Ty)) (x:Den (rs.map Prod.snd)),T8 rs=true→∀ l∈Cn (rs.map Prod.snd) x,∀ y∈l,N2 y=true
 |[],_,_=>λ l hl=>by cases (show l∈([]:List (List Lf)) from hl)
 |[(k,t)],x,h=>by
  intro l hl
  have hl':l∈[A4 t x]:=hl
  simp at hl'
  subst hl'
  have:Eu t=true:=by cases k<;>simp [T8] at h<;>exact h
  exact M8 t x this
 |(k,t)::r2::rs,x,h=>by
  intro l hl
  have h2:Eu t=true∧T8 (r2::rs)=true:=by
   cases k<;>simp only [T8,Bool.and_eq_true] at h<;>first|exact h|cases h
  rcases List.mem_cons.1 (show l∈A4 t x.1::Cn ((r2::rs).map Prod.snd) x.2 from hl) with rfl|h'
  ·exact M8 t x.1 h2.1
  ·exact Sc (r2::rs) x.2 h2.2 l h'
end
end

section
attribute [local irreducible] C H
section
variable {X:Cx} {S S':Sit} {a:Act} {E:En} {A:Ab} {o:Oper} {R:Type} {Kc:List Up→Option R} {r:R}
theorem Hfa {P:Program} {w:World} {c:Call} {f:FuncId} {en:Ent} (ho:o.op = .call c) (hc:c.callee = .value (.func f)) (hf:Mp P f en):(execOp a.eval o).run P w = .ok (.enter f (c.args.toList.map a.eval).toArray) w:=by
 obtain ⟨fn,h1,h2,h3⟩:=hf.fn
 have e1:c.args.map a.eval=(c.args.toList.map a.eval).toArray:=by
  apply Array.ext'
  simp
 unfold execOp
 simp only [ho,resolve,hc,Act.eval,Deferred.ofValue,Sem.run_bind,Sem.run_pure,Result.andThen_ok,invoke,callFunc,run_program,h1]
 rw [if_neg (by rw [h2]; simp),if_neg (by rw [h3]; simp)]
 simp only [Sem.run_pure,Array.append_empty,Array.empty_append]
 rw [e1]
theorem Eta {P:Program} {w:World} {c:Call} {f:FuncId} {en:Ent} {t:Nat} {us:List Value} (ho:o.op = .call c) (hc:c.callee = .value (.tmp t)) (hv:a.eval (.tmp t) = .func (.func f) #[] us.toArray) (hf:Mp P f en):
  (execOp a.eval o).run P w = .ok (.enter f (c.args.toList.map a.eval++us).toArray) w:=by
 obtain ⟨fn,h1,h2,h3⟩:=hf.fn
 have e1 : #[]++(c.args.map a.eval++us.toArray)=(c.args.toList.map a.eval++us).toArray:=by
  apply Array.ext'
  simp
 have e2 : #[]++c.args.map a.eval++us.toArray=(c.args.toList.map a.eval++us).toArray:=by
  apply Array.ext'
  simp
 unfold execOp
 simp only [ho,resolve,hc,hv,Deferred.ofValue,Sem.run_bind,Sem.run_pure,Result.andThen_ok,invoke,callFunc,run_program,h1]
 rw [if_neg (by rw [h2]; simp),if_neg (by rw [h3]; simp)]
 simp only [Sem.run_pure]
 first|rw [e1]|rw [e2]
theorem U2 {f:FuncId} {args:Array Value} {w:World} {A':Ab} (hr:(execOp a.eval o).run X.P w = .ok (.enter f args) w)
  (h:Calls X.P f args w (λ e w'=>∃ v,e = .returned v∧∃ S',S'.w=w'∧Ah X S' (a.put o.dst v)∧S'.g=get A')):Kma X o a w A':=by
 intro next Q hn
 unfold Oper.wp
 rw [hr,Oper.upon_enter]
 intro cs
 obtain ⟨e,w',fr,⟨v,rfl,S',hw,K',hg'⟩,rest⟩:=h cs
 refine ⟨_,w',fr,?_,rest⟩
 rw [← hw]
 exact hn S' _ K' hg'
theorem Qj {P:Program} {f:FuncId} {args:Array Value} {w:World} {R1 R2:Ending→World→Prop} (h:Calls P f args w R1) (hi:∀ e w',R1 e w'→R2 e w'):Calls P f args w R2:=by
 intro cs
 obtain ⟨e,w',fr,hr,rest⟩:=h cs
 exact ⟨e,w',fr,hi _ _ hr,rest⟩
theorem U3:∀ ps:List Par,Nh ps=true→L7 ps=[]
 |[],_=>rfl
 |.val _ _::ps,h=>by
  simp only [Nh,Bool.and_eq_true] at h
  exact U3 ps h.2
 |.ptr _ _::_,h=>by simp [Nh] at h
 |.hid _ _::_,h=>by simp [Nh] at h
 |.rd _::_,h=>by simp [Nh] at h
 |.fn _ _::_,h=>by simp [Nh] at h
theorem L5a {ts:List Ty} {rs:List (RK×Ty)} (he:ts=rs.map Prod.snd) (x:Den ts) (h:T8 rs=true):∀ l∈Cn ts x,∀ y∈l,N2 y=true:=by
 subst he
 exact Sc rs x h
theorem Oc:∀ rs:List (RK×Ty),T8 rs=true→L8 rs=false
 |[],_=>rfl
 |(k,t)::rs,h=>by
  cases k with
  |ptr=>simp [T8] at h
  |one=>simp only [T8,Bool.and_eq_true] at h; exact Oc rs h.2
  |agg=>simp only [T8,Bool.and_eq_true] at h; exact Oc rs h.2
theorem Oia (hE:Ks X E) (K:Ah X S a) (hg:S.g=get A) {xs:List Operand} {f:FuncId} {en:Ent} {ss:List Sv} (hrun:(execOp a.eval o).run X.P S.w = .ok (.enter f (xs.map a.eval).toArray) S.w) (hd:∀ d,o.dst=some d→d<X.nt)
  (hco:Mp X.P f en) (hnv:en.nv=xs.length) (hss:Lk (λ s x=>∃ T,opT E T A x=some s) ss xs) (hl:Nh en.ps=true) (hn:T8 en.rs=true)
  (h:(match Ni A en.ps ss with
  |none=>none
  |some ls=>match Q5 _ ls with
   |none=>none
   |some x=>(en.run x).bind λ r=>
    match Ox A en.rs (shL E o.dst (Cn _ r)) o.dst with
    |none=>none
    |some rs=>Kc rs)=some r):Ja X o a S.w A Kc r:=by
 split at h
 ·cases h
 ·rename_i ls hls
  split at h
  ·cases h
  ·rename_i x hx
   cases hrun':en.run x with
   |none=>rw [hrun'] at h; simp at h
   |some y=>
    rw [hrun'] at h
    simp only [Option.bind_some] at h
    split at h
    ·cases h
    ·rename_i us hus
     obtain ⟨hargs,hlen⟩:=Y7 (i:=0) hE K hg (λ _=>(0,0)) en.nv ((xs.map a.eval).drop en.nv) en.ps hss hls (Rj _ _ _ hx) hl
     have hs:=hco.sound x y hrun' S.w (Qi S) (λ _=>(0,0)) _ (λ k hk=>K.lt k (λ e=>hk (by simp [Qi,e]))) (λ k b hk=>by unfold Qi at hk; split at hk<;>cases hk) hargs
     rw [List.take_of_length_le (by rw [List.length_map,hnv]; exact Nat.le_refl _)] at hs
     refine ⟨us,h,U2 hrun (Qj hs ?_)⟩
     rintro e w' ⟨v,O',rfl,hF,hlt,hres,_⟩
     refine ⟨v,rfl,?_⟩
     have hsame:∀ k,k<S.w.heap.size→w'.heap[k]? = S.w.heap[k]? ∧ (O' k = .no∨O' k = .fz):=λ k hk=>by
      by_cases h0:S.O k = .no
      ·have:=hF.no k hk (by simp [Qi,h0])
       exact ⟨this.2,.inl this.1⟩
      ·have:=hF.fz k hk (by simp [Qi,h0])
       exact ⟨this.2,.inr this.1⟩
     let O2:Nat→Lab:=λ k=>if k<S.w.heap.size then S.O k else O' k
     obtain ⟨K1,L1⟩:=K.world (w':=w') (O':=O2) (λ k hk _=>⟨if_pos hk,(hsame k hk).1⟩) hF.os hF.tape hF.out hF.size (λ k hk=>by
      by_cases hkl:k<S.w.heap.size
      ·exact Nat.lt_of_lt_of_le hkl hF.size
      ·exact hlt k (by simpa [O2,hkl] using hk))
     have htm:∀ k i q,O' k = .tm i q→O2 k = .tm i q:=λ k i q hk=>by
      have:¬ k<S.w.heap.size:=λ hkl=>by
       rcases (hsame k hkl).2 with h|h<;>rw [h] at hk<;>cases hk
      simp [O2,this,hk]
     have hnews:=L5a (by rw [U3 en.ps hl,List.append_nil]) y hn
     have hres1:Jd X.P (Th S w' O2) S.w.heap.size en.rs (Cn _ y) v:=Jd.imp (S1:=bare O' w') (S2:=Th S w' O2) rfl (λ k i hk=>htm k i [] hk) (λ l hl' z hz i q u hu=>Qja (S1:=bare O' w') (S2:=Th S w' O2) (hnews l hl' z hz) rfl (λ k hk=>htm k i q hk) hu) hres
     obtain ⟨S2,K2,w2,g2⟩:=D6a (E:=E) K1 (A1:=A) hg (λ h=>by rw [Oc _ hn] at h; cases h) hd K.fr.size (Ki _ y) (λ d' _ h=>by rw [Oc _ hn] at h; cases h) hres1 hus
     exact ⟨S2,w2,K2,g2⟩
end
end

section
attribute [local irreducible] C H
def Tb:List Ty→List Lf→Prop
 |.ow _ _::ts,_::l=>Tb ts l
 |_::ts,x::l=>x.isOwn=false∧Tb ts l
 |[],[]=>True
 |_,_=>False
theorem Eua (z:Lf):(Lx z).isOwn=false:=by cases z<;>rfl
theorem N3:∀ (ts:List Ty) (l:List Lf) {A:Ab} {m:List Lf} {us:List Up},G6 A ts l=some (m,us)→Tb ts m
 |[],[],A,m,us,h=>by
  simp only [G6,Option.some.injEq,Prod.mk.injEq] at h
  obtain ⟨rfl,_⟩:=h
  trivial
 |[],_::_,A,m,us,h=>by simp [G6] at h
 |t::ts,[],A,m,us,h=>by cases t<;>simp [G6] at h
 |t::ts,x::l,A,m,us,h=>by
  cases t with
  |ow e r=>
   simp only [G6] at h
   split at h
   ·split at h
    ·rename_i hr
     simp only [Option.some.injEq,Prod.mk.injEq] at h
     obtain ⟨rfl,_⟩:=h
     exact N3 ts l hr
    ·cases h
   ·cases h
  |_=>
   simp only [G6] at h
   split at h
   ·rename_i hr
    simp only [Option.some.injEq,Prod.mk.injEq] at h
    obtain ⟨rfl,_⟩:=h
    exact ⟨Eua _,N3 ts l hr⟩
   ·cases h
theorem U4 {A:Ab} {x:Operand} {s:Sv} {t:Ty} {m:List Lf} {us:List Up} (h:Q7 A x s t=some (m,us)):Tb (Jg t) m:=by
 unfold Q7 Q6 at h
 split at h
 ·rename_i m0 vs0 ht
  cases hst:A3 m0 with
  |false=>rw [hst] at h; simp at h
  |true=>
   rw [hst] at h
   simp only [cond_true,Option.some.injEq,Prod.mk.injEq] at h
   obtain ⟨rfl,rfl⟩:=h
   exact N3 _ _ ht
 ·cases h
theorem Qk {A:Ab} {b v:Nat} {t t':Ty} {m:List Lf} {us:List Up} (h:Ow A b v t t'=some (m,us)):Tb (Jg t) m:=by
 unfold Ow at h
 split at h
 ·rename_i n hd hp
  cases hq:(Nat.beq n v&&Nat.beq hd t.sz&&Nat.beq hd t'.sz) with
  |false=>rw [hq] at h; simp at h
  |true=>
   rw [hq,cond_true] at h
   split at h
   ·rename_i l us0 hx
    cases hst:A3 l with
    |false=>rw [hst] at h; simp at h
    |true=>
     rw [hst] at h
     simp only [cond_true,Option.some.injEq,Prod.mk.injEq] at h
     obtain ⟨rfl,rfl⟩:=h
     exact N3 _ _ hx
   ·cases h
 ·cases h
theorem L6a {P:Program} {S:Sit} {f:Nat→Lab}:∀ (t:Ty) (ts:List Ty) (l l':List Lf) (x:t.den) (j:Nat) (us:List Value),Tb (Jg t++ts) l→mkT t l=some (x,l')→A5 P S f j l us→A5 P S f j (A4 t x++l') us∧Tb ts l':=by
 intro t
 induction t with
 |pr p q ihp ihq=>
  intro ts l l' x j us h hm hl
  simp only [Jg,List.append_assoc] at h
  simp only [mkT] at hm
  split at hm
  ·rename_i y l1 h1
   split at hm
   ·rename_i z l2 h2
    simp only [Option.some.injEq,Prod.mk.injEq] at hm
    obtain ⟨rfl,rfl⟩:=hm
    obtain ⟨h3,h4⟩:=ihp _ _ _ _ j us h h1 hl
    have key:∀ (a:List Lf) (j:Nat) (us:List Value),A5 P S f j (a++l1) us→A5 P S f j (a++(A4 q z++l2)) us∧Tb ts l2:=by
     intro a
     induction a with
     |nil=>intro j us h5; exact ihq _ _ _ _ j us h4 h2 h5
     |cons b a ih=>
      intro j us h5
      cases us with
      |nil=>exact h5.elim
      |cons u us=>exact ⟨⟨h5.1,(ih (j+1) us h5.2).1⟩,(ih (j+1) us h5.2).2⟩
    have h5:=key _ j us h3
    rw [← List.append_assoc] at h5
    exact h5
   ·cases hm
  ·cases hm
 |ow e r _=>
  intro ts l l' x j us hf hm hl
  cases l with
  |nil=>simp [mkT] at hm
  |cons z l=>
   cases us with
   |nil=>exact hl.elim
   |cons u us=>
    cases z<;>first|(simp [mkT] at hm; done)|skip
    rename_i e' r' xs
    simp only [mkT] at hm
    cases hb:Nat.beq e e' with
    |false=>rw [hb] at hm; simp at hm
    |true=>
     rw [hb,cond_true] at hm
     have he:e=e':=Nat.eq_of_beq_eq_true hb
     subst he
     split at hm
     ·rename_i ys hys
      simp only [Option.some.injEq,Prod.mk.injEq] at hm
      obtain ⟨rfl,rfl⟩:=hm
      exact ⟨⟨F7.cast hys hl.1,hl.2⟩,hf⟩
     ·cases hm
 |sl e r _=>
  intro ts l l' x j us hf hm hl
  cases l with
  |nil=>simp [mkT] at hm
  |cons z l=>
   cases us with
   |nil=>exact hl.elim
   |cons u us=>
    obtain ⟨hz,hf⟩:z.isOwn=false∧Tb ts l:=hf
    cases z<;>first|(simp [mkT] at hm; done)|(simp [Lf.isOwn] at hz; done)|skip
    rename_i e' r' xs
    simp only [mkT] at hm
    cases hb:Nat.beq e e' with
    |false=>rw [hb] at hm; simp at hm
    |true=>
     rw [hb,cond_true] at hm
     have he:e=e':=Nat.eq_of_beq_eq_true hb
     subst he
     split at hm
     ·rename_i ys hys
      simp only [Option.some.injEq,Prod.mk.injEq] at hm
      obtain ⟨rfl,rfl⟩:=hm
      exact ⟨⟨Pi hys hl.1,hl.2⟩,hf⟩
     ·cases hm
 |i k=>
  intro ts l l' x j us hf hm hl
  cases l with
  |nil=>simp [mkT] at hm
  |cons z l=>
   cases z<;>first|(simp [mkT] at hm; done)|skip
   rename_i v
   cases v<;>first|(simp [mkT] at hm; done)|skip
   rename_i k' n
   simp only [mkT] at hm
   by_cases hk:k=k'
   ·subst hk
    simp at hm
    obtain ⟨rfl,rfl⟩:=hm
    exact ⟨hl,hf.2⟩
   ·simp [hk] at hm
 |b=>
  intro ts l l' x j us hf hm hl
  cases l with
  |nil=>simp [mkT] at hm
  |cons z l=>
   cases z<;>first|(simp [mkT] at hm; done)|skip
   rename_i v
   cases v<;>first|(simp [mkT] at hm; done)|skip
   simp [mkT] at hm
   obtain ⟨rfl,rfl⟩:=hm
   exact ⟨hl,hf.2⟩
 |s=>
  intro ts l l' x j us hf hm hl
  cases l with
  |nil=>simp [mkT] at hm
  |cons z l=>
   cases z<;>first|(simp [mkT] at hm; done)|skip
   rename_i v
   cases v<;>first|(simp [mkT] at hm; done)|skip
   simp [mkT] at hm
   obtain ⟨rfl,rfl⟩:=hm
   exact ⟨hl,hf.2⟩
theorem Od {P:Program} {S:Sit} {f:Nat→Lab} {t:Ty} {l:List Lf} {x:t.den} {j:Nat} {us:List Value} (hf:Tb (Jg t) l) (h:mkW t l=some x) (hl:A5 P S f j l us):A5 P S f j (A4 t x) us:=by
 unfold mkW at h
 split at h
 ·rename_i y hy
  cases h
  have:=(L6a t [] l [] _ j us (by rw [List.append_nil]; exact hf) hy hl).1
  rwa [List.append_nil] at this
 ·cases h
theorem Qka {Q:Nat→Lf→Value→Prop} (hqo:∀ j e r r' (xs:List (Ty.den r')) (ys:List (Ty.den r)) u,Qz r r' xs=some ys→Q j (.own e r' xs) u→Q j (.own e r ys) u) (hqf:∀ j e r r' (xs:List (Ty.den r')) (ys:List (Ty.den r)) u,Ov r r' xs=some ys→Q j (.fz e r' xs) u→Q j (.fz e r ys) u):∀ (t:Ty) (ts:List Ty) (l l':List Lf) (x:t.den) (j:Nat) (us:List Value),Tb (Jg t++ts) l→mkT t l=some (x,l')→V9 Q j l us→V9 Q j (A4 t x++l') us∧Tb ts l':=by
 intro t
 induction t with
 |pr p q ihp ihq=>
  intro ts l l' x j us h hm hl
  simp only [Jg,List.append_assoc] at h
  simp only [mkT] at hm
  split at hm
  ·rename_i y l1 h1
   split at hm
   ·rename_i z l2 h2
    simp only [Option.some.injEq,Prod.mk.injEq] at hm
    obtain ⟨rfl,rfl⟩:=hm
    obtain ⟨h3,h4⟩:=ihp _ _ _ _ j us h h1 hl
    have key:∀ (a:List Lf) (j:Nat) (us:List Value),V9 Q j (a++l1) us→V9 Q j (a++(A4 q z++l2)) us∧Tb ts l2:=by
     intro a
     induction a with
     |nil=>intro j us h5; exact ihq _ _ _ _ j us h4 h2 h5
     |cons b a ih=>
      intro j us h5
      cases us with
      |nil=>exact h5.elim
      |cons u us=>exact ⟨⟨h5.1,(ih (j+1) us h5.2).1⟩,(ih (j+1) us h5.2).2⟩
    have h5:=key _ j us h3
    rw [← List.append_assoc] at h5
    exact h5
   ·cases hm
  ·cases hm
 |ow e r _=>
  intro ts l l' x j us hf hm hl
  cases l with
  |nil=>simp [mkT] at hm
  |cons z l=>
   cases us with
   |nil=>exact hl.elim
   |cons u us=>
    cases z<;>first|(simp [mkT] at hm; done)|skip
    rename_i e' r' xs
    simp only [mkT] at hm
    cases hb:Nat.beq e e' with
    |false=>rw [hb] at hm; simp at hm
    |true=>
     rw [hb,cond_true] at hm
     have he:e=e':=Nat.eq_of_beq_eq_true hb
     subst he
     split at hm
     ·rename_i ys hys
      simp only [Option.some.injEq,Prod.mk.injEq] at hm
      obtain ⟨rfl,rfl⟩:=hm
      exact ⟨⟨hqo _ _ _ _ _ _ _ hys hl.1,hl.2⟩,hf⟩
     ·cases hm
 |sl e r _=>
  intro ts l l' x j us hf hm hl
  cases l with
  |nil=>simp [mkT] at hm
  |cons z l=>
   cases us with
   |nil=>exact hl.elim
   |cons u us=>
    obtain ⟨hz,hf⟩:z.isOwn=false∧Tb ts l:=hf
    cases z<;>first|(simp [mkT] at hm; done)|(simp [Lf.isOwn] at hz; done)|skip
    rename_i e' r' xs
    simp only [mkT] at hm
    cases hb:Nat.beq e e' with
    |false=>rw [hb] at hm; simp at hm
    |true=>
     rw [hb,cond_true] at hm
     have he:e=e':=Nat.eq_of_beq_eq_true hb
     subst he
     split at hm
     ·rename_i ys hys
      simp only [Option.some.injEq,Prod.mk.injEq] at hm
      obtain ⟨rfl,rfl⟩:=hm
      exact ⟨⟨hqf _ _ _ _ _ _ _ hys hl.1,hl.2⟩,hf⟩
     ·cases hm
 |i k=>
  intro ts l l' x j us hf hm hl
  cases l with
  |nil=>simp [mkT] at hm
  |cons z l=>
   cases z<;>first|(simp [mkT] at hm; done)|skip
   rename_i v
   cases v<;>first|(simp [mkT] at hm; done)|skip
   rename_i k' n
   simp only [mkT] at hm
   by_cases hk:k=k'
   ·subst hk
    simp at hm
    obtain ⟨rfl,rfl⟩:=hm
    exact ⟨hl,hf.2⟩
   ·simp [hk] at hm
 |b=>
  intro ts l l' x j us hf hm hl
  cases l with
  |nil=>simp [mkT] at hm
  |cons z l=>
   cases z<;>first|(simp [mkT] at hm; done)|skip
   rename_i v
   cases v<;>first|(simp [mkT] at hm; done)|skip
   simp [mkT] at hm
   obtain ⟨rfl,rfl⟩:=hm
   exact ⟨hl,hf.2⟩
 |s=>
  intro ts l l' x j us hf hm hl
  cases l with
  |nil=>simp [mkT] at hm
  |cons z l=>
   cases z<;>first|(simp [mkT] at hm; done)|skip
   rename_i v
   cases v<;>first|(simp [mkT] at hm; done)|skip
   simp [mkT] at hm
   obtain ⟨rfl,rfl⟩:=hm
   exact ⟨hl,hf.2⟩
theorem Qla {Q:Nat→Lf→Value→Prop} (hqo:∀ j e r r' (xs:List (Ty.den r')) (ys:List (Ty.den r)) u,Qz r r' xs=some ys→Q j (.own e r' xs) u→Q j (.own e r ys) u) (hqf:∀ j e r r' (xs:List (Ty.den r')) (ys:List (Ty.den r)) u,Ov r r' xs=some ys→Q j (.fz e r' xs) u→Q j (.fz e r ys) u) {t:Ty} {l:List Lf} {x:t.den} {j:Nat} {us:List Value} (hf:Tb (Jg t) l) (h:mkW t l=some x) (hl:V9 Q j l us):V9 Q j (A4 t x) us:=by
 unfold mkW at h
 split at h
 ·rename_i y hy
  cases h
  have:=(Qka hqo hqf t [] l [] _ j us (by rw [List.append_nil]; exact hf) hy hl).1
  rwa [List.append_nil] at this
 ·cases h
theorem Eva {r:Ty} (xs:List r.den):Ov r r xs=some xs:=by
 unfold Ov
 rw [dif_pos rfl]
 rfl
theorem Ewa {r:Ty} (xs:List r.den):Qz r r xs=some xs:=by
 unfold Qz
 rw [dif_pos rfl]
theorem Ql:∀ (t:Ty) (x:t.den) (l:List Lf),mkT t (A4 t x++l)=some (x,l)
 |.i _,_,_=>by simp [A4,mkT]
 |.b,_,_=>by simp [A4,mkT]
 |.s,_,_=>by simp [A4,mkT]
 |.sl _ _,_,_=>by simp [A4,mkT,Eva]
 |.ow _ _,_,_=>by simp [A4,mkT,Ewa]
 |.pr x y,p,l=>by
  show mkT (.pr x y) ((A4 x p.1++A4 y p.2)++l)=_
  rw [List.append_assoc]
  simp only [mkT]
  rw [Ql x p.1]
  simp only
  rw [Ql y p.2]
theorem Exa (t:Ty) (x:t.den):mkW t (A4 t x)=some x:=by
 unfold mkW
 have:=Ql t x []
 rw [List.append_nil] at this
 rw [this]
def Sd (S:Sit) (b:Nat×Nat):Value := .pointer (some ⟨(S.bb b.1).1,(S.bb b.1).2+0,none⟩)
def nmV (i:Nat):Nat:=10+2 * i
def nmB (B:Nat):Nat:=11+2 * B
def Oja (P:Program) (S:Sit) (B:Nat) (t t':Ty) (l:List Lf) (u:Value) (bs:List (Nat×Nat)):Prop:=
 ∃ b,bs=[(b,B)]∧u = .pointer (some ⟨(S.bb b).1,(S.bb b).2,none⟩)∧(S.g (H b)).2 = .one (.hd t.sz)∧t'.sz=t.sz∧l.length=t.sz∧A3 l=true∧Tb (Jg t) l∧
  A5 P S (λ j => .tm (nmB B) [j]) 0 l ((List.range t.sz).map λ j=>S.ph (C b (0+j)))
def Qma (P:Program) (S:Sit) (cb hb:List (Nat×Nat)) (nv i:Nat):Par→List Lf→Value→List (Nat×Nat)→Prop
 |.vw t h,l,u,bs=>bs=[]∧nv≤h∧l.length=t.sz∧Tb (Jg t) l∧∃ c vs,nth hb (h - nv)=some c∧(S.g (H c.1)).2 = .one (.hd t.sz)∧u = .agg vs.toArray∧V9 (Era P S (λ j=>S.ph (C c.1 j))) 0 l vs
 |.val ag t,l,u,bs=>bs=[]∧A3 l=true∧Tb (Jg t) l∧∃ us,(if ag then u = .agg us.toArray else us=[u])∧A5 P S (λ n => .tm (nmV i) (if ag then [n] else [])) 0 l us
 |.ptr t t',l,u,bs=>Oja P S (bid nv i) t t' l u bs
 |.hid t t',l,u,bs=>Oja P S (bid nv i) t t' l u bs
 |.rd t,l,u,bs=>bs=[]∧∃ r x k o cs,l=lvs r x∧shp r=shp t∧Js t=true∧u = .pointer (some ⟨k,o,none⟩)∧S.O k = .fz∧r.rep P (λ k=>S.O k = .fz) S.w x cs∧Ei S.w k o cs
 |.fn F m,_,u,bs=>bs=[]∧m=cb.length∧u = .func (.func F) #[] (cb.map (Sd S)).toArray
def Bea (P:Program) (S:Sit) (cb hb:List (Nat×Nat)) (nv:Nat):Nat→List Par→List (List Lf)→List Value→List (Nat×Nat)→Prop
 |_,[],[],[],bs=>bs=[]
 |i,p::ps,l::ls,u::us,bs=>∃ b1 b2,bs=b1++b2∧Qma P S cb hb nv i p l u b1∧Bea P S cb hb nv (i+1) ps ls us b2
 |_,_,_,_,_=>False
theorem Hga {nv i j:Nat} (hn:nv≤1000) (h:bid nv i=bid nv j):i=j:=by
 unfold bid at h
 cases h1:Nat.blt i nv<;>cases h2:Nat.blt j nv<;>rw [h1,h2] at h<;>simp only [cond_true,cond_false] at h
 ·have h3:¬ i<nv:=λ h'=>by rw [show Nat.blt i nv=true from Nat.ble_eq_true_of_le h'] at h1; cases h1
  have h4:¬ j<nv:=λ h'=>by rw [show Nat.blt j nv=true from Nat.ble_eq_true_of_le h'] at h2; cases h2
  omega
 ·have h4:j<nv:=Nat.le_of_ble_eq_true h2
  omega
 ·have h4:i<nv:=Nat.le_of_ble_eq_true h1
  omega
 ·exact h
section
variable {X:Cx} {S S1 S2:Sit} {a:Act} {E:En} {A:Ab} {o:Oper} {R:Type} {Kc:List Up→Option R} {r:R}
def exA (nv i:Nat):Nat→List Nat→Prop:=λ n _=>∃ j,i≤j∧(n=nmV j∨n=nmB (bid nv j))
theorem Hha {nv i j:Nat} (hn:nv≤1000) (h:j<i) (q:List Nat):¬ exA nv i (nmV j) q∧¬ exA nv i (nmB (bid nv j)) q:=by
 refine ⟨λ ⟨k,h1,h2⟩=>?_,λ ⟨k,h1,h2⟩=>?_⟩
 ·unfold nmV nmB at h2
  omega
 ·unfold nmV nmB at h2
  rcases h2 with h2|h2
  ·omega
  ·have:bid nv j=bid nv k:=by omega
   have:=Hga hn this
   omega
theorem V9.imp {Q Q':Nat→Lf→Value→Prop} (h:∀ j x u,Q j x u→Q' j x u):∀ {l:List Lf} {j:Nat} {us:List Value},V9 Q j l us→V9 Q' j l us
 |[],_,[],_=>trivial
 |[],_,_::_,h'=>h'.elim
 |_::_,_,[],h'=>h'.elim
 |_::_,j,_::_,h'=>⟨h _ _ _ h'.1,V9.imp h h'.2⟩
theorem Era.later {P:Program} {S S':Sit} {w w':Nat→Value} {j:Nat} {x:Lf} {u:Value} (hw:w'=w) (hl:∀ x u,Gba x=true→Al P S .fz x u→Al P S' .fz x u) (h:Era P S w j x u):Era P S' w' j x u:=by
 subst hw
 cases x<;>first|exact h|exact ⟨h.1,hl _ _ h.1 h.2⟩
theorem Qma.stay {cb hb:List (Nat×Nat)} {nv i j:Nat} {p:Par} {l:List Lf} {u:Value} {bs:List (Nat×Nat)} (hn:nv≤1000) (h:G9 X S S1 (exA nv i)) (hj:j<i) (hp:Qma X.P S cb hb nv j p l u bs):Qma X.P S1 cb hb nv j p l u bs:=by
 have hfz:∀ k,S.O k = .fz→S1.O k = .fz:=λ k hk=>(h.later.fz k hk).1
 have box:∀ {t t':Ty},Oja X.P S (bid nv j) t t' l u bs→Oja X.P S1 (bid nv j) t t' l u bs:=by
  rintro t t' ⟨b,h1,h2,h3,h4,h5,h6,h7,h8⟩
  refine ⟨b,h1,by rw [h.bb]; exact h2,by rw [h.heads b _ h3]; exact h3,h4,h5,h6,h7,?_⟩
  rw [h.ph]
  exact h8.imp (λ n x u hx=>h.tms _ _ _ _ (Hha hn hj _).2 hx)
 cases p with
 |vw t h0=>
  obtain ⟨h1,h2,h3,h4,c,vs,h5,h6,h7,h8⟩:=hp
  refine ⟨h1,h2,h3,h4,c,vs,h5,by rw [h.heads c.1 _ h6]; exact h6,h7,h8.imp (λ j x u hx=>hx.later (by rw [h.ph]) (λ x u hs hx=>?_))⟩
  exact Al.later h.later hx (λ k hk=>⟨hfz k hk,by rw [h.w]⟩)
 |val ag t=>
  obtain ⟨h1,h2,h3,us,h4,h5⟩:=hp
  exact ⟨h1,h2,h3,us,h4,h5.imp (λ n x u hx=>h.tms _ _ _ _ (Hha hn hj _).1 hx)⟩
 |ptr t t'=>exact box hp
 |hid t t'=>exact box hp
 |rd t=>
  obtain ⟨h1,r',x,k,o',cs,h2,h3,h4,h5,h6,h7,h8⟩:=hp
  exact ⟨h1,r',x,k,o',cs,h2,h3,h4,h5,hfz k h6,Ty.rep_mono hfz (λ k _=>by rw [h.w]) r' x cs h7,h8.mono (by rw [h.w])⟩
 |fn F m=>
  obtain ⟨h1,h2,h3⟩:=hp
  refine ⟨h1,h2,?_⟩
  have:Sd S1=Sd S:=by funext b; unfold Sd; rw [h.bb]
  rw [this]
  exact h3
theorem Hia:∀ {l m:List (Nat×Nat)},Mta l m=true→l=m
 |[],[],_=>rfl
 |[],_::_,h=>by simp [Mta] at h
 |_::_,[],h=>by simp [Mta] at h
 |(a1,a2)::l,(b1,b2)::m,h=>by
  simp only [Mta,Bool.and_eq_true] at h
  have e1:a1=b1:=Nat.eq_of_beq_eq_true h.1.1
  have e2:a2=b2:=Nat.eq_of_beq_eq_true h.1.2
  rw [e1,e2,Hia h.2]
theorem Se (hg:S.g=get A):∀ {bs:List (Nat×Nat)} {us:List Value},Rv S bs us→Ls A bs=true→us=bs.map (Sd S)
 |[],us,h,_=>h
 |c::bs,us,⟨u,us',e,⟨h1,h2⟩,h3⟩,ha=>by
  simp only [Ls,Bool.and_eq_true] at ha
  have e1:(S.g (H c.1)).1=c.2:=by rw [hg]; exact Nat.eq_of_beq_eq_true ha.1
  subst e
  rw [List.map_cons,Se hg h3 ha.2,h2 e1]
  rfl
theorem Hja {ag:Bool} {s:Sv} (h:Jz ag s=true):∀ n,pth s n=if ag then [n] else []:=by
 intro n
 cases s with
 |tup vs=>simp [Jz,G5a] at h
 |one z=>cases ag<;>simp [Jz,G5a] at h ⊢; rfl
 |agg z=>cases ag<;>simp [Jz,G5a] at h ⊢; rfl
theorem L7a {x:Operand} {b v off:Nat} {t:Ty} {m:List Lf} {us:List Up} (h:Q7 A x (.one (.bp b v off)) t=some (m,us)):False:=by
 unfold Q7 Q6 at h
 split at h
 ·rename_i m0 vs0 ht
  have hm:m0=[.bp b v off]∨False:=by
   have e1:parts (.one (.bp b v off))=[.bp b v off]:=rfl
   rw [e1] at ht
   generalize Jg t=ts at ht
   cases ts with
   |nil=>simp [G6] at ht
   |cons t ts=>
    cases ts with
    |cons t2 ts=>
     obtain ⟨_,h2⟩:=Ml _ _ ht
     simp at h2
    |nil=>
     cases t<;>first|(simp [G6,Ata,Ky] at ht; done)|skip
     all_goals
      simp [G6,Rb,Jy,Lx] at ht
      exact .inl ht.1.symm
  rcases hm with rfl|h0
  ·simp [A3] at h
  ·exact h0
 ·cases h
theorem Bfa {A:Ab} {S:Sit} {X:Cx} {a:Act} (K:Ah X S a) (hg:S.g=get A) {b l0:Nat}:∀ (ts:List Ty) {j:Nat} {l m:List Lf} {us:List Value},Ava A b j ts l=some m→A5 X.P S (λ n => .pl l0 [n]) j l us→
  Tb ts m∧m.length=ts.length∧V9 (Era X.P S (λ j=>S.ph (C b j))) j m us
 |[],j,[],m,us,h,hl=>by
  simp only [Ava,Option.some.injEq] at h
  subst h
  cases us with
  |nil=>exact ⟨trivial,rfl,trivial⟩
  |cons=>exact hl.elim
 |[],j,_::_,m,us,h,hl=>by simp [Ava] at h
 |t::ts,j,[],m,us,h,hl=>by cases t<;>simp [Ava] at h
 |t::ts,j,x::l,m,us,h,hl=>by
  cases us with
  |nil=>exact hl.elim
  |cons u us=>
   have share:∀ {m':List Lf},Gba (Ky A x)=true→Ava A b (j+1) ts l=some m'→(∀ m'',Tb (t::ts) (Ky A x::m'')↔((Ky A x).isOwn=false∧Tb ts m''))→Tb (t::ts) (Ky A x::m')∧(Ky A x::m').length=(t::ts).length∧V9 (Era X.P S (λ j=>S.ph (C b j))) j (Ky A x::m') (u::us):=by
    intro m' hs hr hf
    obtain ⟨h1,h2,h3⟩:=Bfa K hg ts hr hl.2
    obtain ⟨lab',h4⟩:=Oy K hg hl.1
    refine ⟨(hf m').2 ⟨by cases hx:Ky A x<;>rw [hx] at hs<;>first|rfl|simp [Gba] at hs,h1⟩,by simp [h2],?_,h3⟩
    have h5:Al X.P S .fz (Ky A x) u:=by
     cases hx:Ky A x<;>rw [hx] at hs h4<;>first|exact Al.relab (lab' := .fz) rfl h4|simp [Gba] at hs
    cases hx:Ky A x<;>rw [hx] at hs h5<;>first|exact ⟨rfl,h5⟩|simp [Gba] at hs
   cases t with
   |ow e r=>
    cases x<;>first|(simp [Ava] at h; done)|skip
    rename_i p v
    simp only [Ava] at h
    cases hq:(Nat.beq p (C b j)&&Nat.beq (get A p).1 v) with
    |false=>rw [hq] at h; simp at h
    |true=>
     rw [hq,cond_true] at h
     simp only [Bool.and_eq_true] at hq
     split at h
     ·rename_i y hy
      split at h
      ·rename_i m' hr
       simp only [Option.some.injEq] at h
       subst h
       obtain ⟨h1,h2,h3⟩:=Bfa K hg ts hr hl.2
       have hal:Al X.P S (.pl l0 [j]) (.al p v) u:=hl.1
       have hu:=hal.2 (by rw [hg]; exact Nat.eq_of_beq_eq_true hq.2)
       have hyo:∃ ys,y = .own e r ys:=by
        unfold Ata at hy
        split at hy
        ·generalize Nat.beq e _=bb at hy
         cases bb with
         |false=>simp at hy
         |true=>
          rw [cond_true] at hy
          split at hy
          ·simp only [Option.some.injEq] at hy
           exact ⟨_,hy.symm⟩
          ·cases hno:Js r with
           |false=>rw [hno] at hy; simp at hy
           |true=>
            rw [hno,cond_true] at hy
            split at hy
            ·simp only [Option.some.injEq] at hy
             exact ⟨_,hy.symm⟩
            ·cases hy
        ·cases hy
       obtain ⟨ys,rfl⟩:=hyo
       refine ⟨h1,by simp [h2],?_,h3⟩
       show u=S.ph (C b j)
       rw [hu,Nat.eq_of_beq_eq_true hq.1]
      ·cases h
     ·cases h
   |_=>
    simp only [Ava] at h
    cases hs:Gba (Ky A x) with
    |false=>rw [hs] at h; simp at h
    |true=>
     rw [hs,cond_true] at h
     split at h
     ·rename_i m' hr
      simp only [Option.some.injEq] at h
      subst h
      exact share hs hr (λ m''=>Iff.rfl)
     ·cases h
theorem L8a (hE:Ks X E) (K:Ah X S a) (hg:S.g=get A) {cb hb:List (Nat×Nat)} {nv i:Nat} {x:Operand} {s:Sv} {v:Value} {p:Par} {l:List Lf} {us:List Up} {bs:List Nat} (hx:(∃ T,opT E T A x=some s∧v=a.eval x)∨(∃ h:Nat×Nat,s = .one (.bp h.1 h.2 0)∧v=Sd S h)) (h:R3 A cb hb nv x p s=some (l,us,bs)):
  ∃ S1 bp,Ah X S1 a∧S1.g=get (ups A us)∧G9 X S S1 (exA nv i)∧bp.map Prod.fst=bs∧Qma X.P S1 cb hb nv i p l v bp:=by
 have box:∀ {t t':Ty} {b w:Nat},s = .one (.bp b w 0)→(match Ow A b w t t' with|some (m,us)=>some (m,us,[b])|none=>none)=some (l,us,bs)→∃ S1 bp,Ah X S1 a∧S1.g=get (ups A us)∧G9 X S S1 (exA nv i)∧bp.map Prod.fst=bs∧Oja X.P S1 (bid nv i) t t' l v bp:=by
  intro t t' b w hs h
  split at h
  ·rename_i m us' hgive
   cases h
   obtain ⟨g1,g2,g3,g4,g5,S1,K1,g6,G,hl⟩:=Rg K hg hgive (nmB (bid nv i))
   refine ⟨S1,[(b,bid nv i)],K1,g6,G9.trans (λ n q h=>h) (λ n q h=>⟨i,Nat.le_refl _,.inr h⟩) (G9.refl S (exA nv i)) G,rfl,b,rfl,?_,by rw [G.heads b _ g2]; exact g2,g3,g5,g4,Qk hgive,by rw [G.ph]; exact hl⟩
   rw [G.bb]
   rcases hx with ⟨T,h1,rfl⟩|⟨h',h1,rfl⟩
   ·obtain ⟨pl,h2⟩:=Ii hE K hg h1
    rw [hs] at h2
    have h3:Al X.P S (.pl pl []) (.bp b w 0) (a.eval x):=h2
    exact h3.2 g1
   ·rw [hs] at h1
    simp only [Sv.one.injEq,Lf.bp.injEq] at h1
    unfold Sd
    rw [← h1.1]
    rfl
  ·cases h
 unfold R3 at h
 split at h
 ·rename_i t h0 ys
  split at h
  ·rename_i c hc
   split at h
   ·rename_i n m hp
    cases hq:(Nat.ble nv h0&&Nat.beq n c.2&&Nat.beq m t.sz) with
    |false=>rw [hq] at h; simp at h
    |true=>
     rw [hq,cond_true] at h
     simp only [Bool.and_eq_true] at hq
     split at h
     ·rename_i l0 hvw
      cases h
      rcases hx with ⟨T,h1,rfl⟩|⟨h',h1,_⟩
      ·obtain ⟨pl,h2⟩:=Ii hE K hg h1
       obtain ⟨vs,e1,e2⟩:∃ us:List Value,a.eval x = .agg us.toArray∧A5 X.P S (λ j => .pl pl [j]) 0 ys us:=h2
       obtain ⟨f1,f2,f3⟩:=Bfa K hg _ hvw e2
       exact ⟨S,[],K,hg,G9.refl S _,rfl,rfl,Nat.le_of_ble_eq_true hq.1.1,by rw [f2,M0],f1,c,vs,hc,by rw [hg,hp,Nat.eq_of_beq_eq_true hq.2],e1,f3⟩
      ·cases h1
     ·cases h
   ·cases h
  ·cases h
 ·rename_i ag t
  cases hq:Jz ag s with
  |false=>rw [hq] at h; simp at h
  |true=>
   rw [hq,cond_true] at h
   split at h
   ·rename_i m us' hgive
    cases h
    rcases hx with ⟨T,h1,rfl⟩|⟨h',h1,_⟩
    ·obtain ⟨S1,K1,g1,G,h2,_,vs,hsh,hl⟩:=Cwa hE K hg (.inl h1) (Hea hq) hgive (nmV i)
     have hp:=Hja hq
     simp only [hp] at hl
     exact ⟨S1,[],K1,g1,G9.trans (λ n q h=>h) (λ n q h=>⟨i,Nat.le_refl _,.inl h⟩) (G9.refl S (exA nv i)) G,rfl,rfl,h2,U4 hgive,vs,U0 hq hsh,hl⟩
    ·rw [h1] at hgive
     exact (L7a hgive).elim
   ·cases h
 ·exact box rfl h
 ·exact box rfl h
 ·rename_i t r' y
  cases hq:(decide (shp r'=shp t)&&Js t) with
  |false=>rw [hq] at h; simp at h
  |true=>
   rw [hq] at h
   simp only [cond_true,Option.some.injEq,Prod.mk.injEq] at h
   obtain ⟨rfl,rfl,rfl⟩:=h
   simp only [Bool.and_eq_true,decide_eq_true_eq] at hq
   rcases hx with ⟨T,h1,rfl⟩|⟨h',h1,_⟩
   ·obtain ⟨pl,h2⟩:=Ii hE K hg h1
    obtain ⟨k,o',cs,e1,e2,e3,e4⟩:Al X.P S (.pl pl []) (.fp r' y 0) (a.eval x):=h2
    exact ⟨S,[],K,hg,G9.refl S _,rfl,rfl,r',y,k,o',cs,rfl,hq.1,hq.2,e1,e2,e3,e4⟩
   ·cases h1
 ·rename_i F m F' bs'
  cases hq:(Nat.beq F F'&&Nat.beq m bs'.length&&Mta bs' cb&&Ls A bs') with
  |false=>rw [hq] at h; simp at h
  |true=>
   rw [hq] at h
   simp only [cond_true,Option.some.injEq,Prod.mk.injEq] at h
   obtain ⟨rfl,rfl,rfl⟩:=h
   simp only [Bool.and_eq_true] at hq
   obtain ⟨⟨⟨q1,q2⟩,q3⟩,q4⟩:=hq
   have e1:F=F':=Nat.eq_of_beq_eq_true q1
   have e2:m=bs'.length:=Nat.eq_of_beq_eq_true q2
   have e3:=Hia q3
   subst e1 e3
   rcases hx with ⟨T,h1,rfl⟩|⟨h',h1,_⟩
   ·obtain ⟨pl,h2⟩:=Ii hE K hg h1
    obtain ⟨us',e4,e5⟩:Al X.P S (.pl pl []) (.fn F bs') (a.eval x):=h2
    have e6:=Se hg e5 q4
    subst e6
    exact ⟨S,[],K,hg,G9.refl S _,rfl,rfl,e2,e4⟩
   ·cases h1
 ·cases h
theorem Y8 (hE:Ks X E) {cb hb:List (Nat×Nat)} {nv:Nat} (hn:nv≤1000):∀ (ps:List Par) {xs:List (TypeId×Operand)} {hs:List (Nat×Nat)} {S:Sit} {A:Ab} {ls:List (List Lf)} {us:List Up} {bs:List Nat} (i:Nat),Ah X S a→S.g=get A→Lt E cb hb nv A xs hs ps=some (ls,us,bs)→
  ∃ S1 bp,Ah X S1 a∧S1.g=get (ups A us)∧G9 X S S1 (exA nv i)∧bp.map Prod.fst=bs∧Bea X.P S1 cb hb nv i ps ls (xs.map (λ x=>a.eval x.2)++hs.map (Sd S)) bp
 |[],xs,hs,S,A,ls,us,bs,i,K,hg,h=>by
  cases xs with
  |cons=>simp [Lt] at h
  |nil=>
   cases hs with
   |cons=>simp [Lt] at h
   |nil=>
    simp only [Lt,Option.some.injEq,Prod.mk.injEq] at h
    obtain ⟨rfl,rfl,rfl⟩:=h
    exact ⟨S,[],K,hg,G9.refl S _,rfl,rfl⟩
 |p::ps,xs,hs,S,A,ls,us,bs,i,K,hg,h=>by
  have go:∀ {x:Operand} {s:Sv} {v:Value} {xs':List (TypeId×Operand)} {hs':List (Nat×Nat)} {l:List Lf} {u:List Up} {b:List Nat} {ls1:List (List Lf)} {us1:List Up} {bs1:List Nat},((∃ T,opT E T A x=some s∧v=a.eval x)∨(∃ h:Nat×Nat,s = .one (.bp h.1 h.2 0)∧v=Sd S h))→R3 A cb hb nv x p s=some (l,u,b)→Lt E cb hb nv (ups A u) xs' hs' ps=some (ls1,us1,bs1)→
    ∃ S1 bp,Ah X S1 a∧S1.g=get (ups A (u++us1))∧G9 X S S1 (exA nv i)∧bp.map Prod.fst=b++bs1∧Bea X.P S1 cb hb nv i (p::ps) (l::ls1) (v::(xs'.map (λ x=>a.eval x.2)++hs'.map (Sd S))) bp:=by
   intro x s v xs' hs' l u b ls1 us1 bs1 hx h1 h2
   obtain ⟨S1,b1,K1,g1,G1,e1,p1⟩:=L8a (nv:=nv) (i:=i) hE K hg hx h1
   obtain ⟨S2,b2,K2,g2,G2,e2,p2⟩:=Y8 hE hn ps (i+1) K1 g1 h2
   have hpv:Sd S1=Sd S:=by funext b; unfold Sd; rw [G1.bb]
   rw [hpv] at p2
   exact ⟨S2,b1++b2,K2,by rw [Af]; exact g2,G9.trans (λ _ _ h=>h) (λ n q ⟨j,h1,h2⟩=>⟨j,by omega,h2⟩) G1 G2,by rw [List.map_append,e1,e2],b1,b2,rfl,p1.stay hn G2 (by omega),p2⟩
  cases xs with
  |cons x xs=>
   simp only [Lt] at h
   split at h
   ·rename_i s hs1
    split at h
    ·rename_i l u b hb
     split at h
     ·rename_i ls1 us1 bs1 hrec
      cases h
      exact go (.inl ⟨x.1,hs1,rfl⟩) hb hrec
     ·cases h
    ·cases h
   ·cases h
  |nil=>
   cases hs with
   |nil=>simp [Lt] at h
   |cons h0 hs=>
    simp only [Lt] at h
    split at h
    ·rename_i l u b hb
     split at h
     ·rename_i ls1 us1 bs1 hrec
      cases h
      exact go (xs':=[]) (.inr ⟨h0,rfl,rfl⟩) hb hrec
     ·cases h
    ·cases h
end
end

end Go.Proofs.YtlfoljnopndpeaaGreat.Vf
