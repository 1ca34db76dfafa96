import Derived.Test.YtbbifgjgneefkaaGreatMaf
set_option linter.all false
namespace Go.Proofs.YtbbifgjgneefkaaGreat.Vf
open Go
open List (length getD)
open Int (toNat)
open Go.IntKind (wrap)
open BitVec (ofInt)
def Vv:=@Option.bind_some
def Yn:=@Nat.ble_eq_true_of_le
def Yp:=@List.mem_map_of_mem
def Za:=@List.mem_map
def Zs:=@Array.getElem?_eq_getElem
def Rxa:=@List.mem_cons_self
def Sqa:=@Array.ext'

section
attribute [local irreducible] C H
def bare (O:Nat→Lab) (w:World):Sit:=⟨O,λ _=>(0,0),λ _=>(0,.one .dead),λ _=>undef,w⟩
def R6 (P:Program) (S:Sit) (rg:Nat→Nat×Nat) (B:Nat) (t:Ty) (l:List Lf) (u:Value):Prop:=
 ∃ k o c e us,u = .pointer (some ⟨k,o,none⟩)∧S.w.heap[k]? = some (.cells c e (0,0))∧S.O k = .bx B∧rg B=(o,t.sz)∧o+t.sz≤c.size∧t.sz<999∧l.length=t.sz∧(∀ j,j<t.sz→c[o+j]? = us[j]?)∧
  A5 P S (λ j => .pl (C B j) []) 0 l us
def Cia (P:Program) (S:Sit) (w:Nat→Value) (j:Nat):Lf→Value→Prop
 |.own _ _ _,u=>u=w j
 |x,u=>Hpa x=true∧Af P S .fz x u
def Sj (Q:Nat→Lf→Value→Prop):Nat→List Lf→List Value→Prop
 |_,[],[]=>True
 |j,x::l,u::us=>Q j x u∧Sj Q (j+1) l us
 |_,_,_=>False
def Cja (P:Program) (S:Sit) (rg:Nat→Nat×Nat) (nv:Nat) (hs:List Value) (i:Nat):Par→List Lf→Value→Prop
 |.io ag t,l,u=>(i<nv∧t.sz<999∧l.length=t.sz)∧∃ us,(if ag then u = .agg us.toArray else us=[u])∧A5 P S (λ j => .pl (C (3000+i) j) []) 0 l us
 |.vw t h,l,u=>nv≤h∧∃ vs k o c e,u = .agg vs.toArray∧hs[h-nv]? = some (.pointer (some ⟨k,o,none⟩))∧S.w.heap[k]? = some (.cells c e (0,0))∧t.sz<999∧l.length=t.sz∧Sj (Cia P S (λ j=>c.getD (o+j) undef)) 0 l vs
 |.val ag _,l,u=>∃ us,(if ag then u = .agg us.toArray else us=[u])∧A5 P S (λ j => .pl i (if ag then [j] else [])) 0 l us
 |.ptr t _,l,u=>i<nv∧R6 P S rg (bid nv i) t l u
 |.hid t _,l,u=>nv≤i∧R6 P S rg (bid nv i) t l u
 |.rd t,l,u=>∃ x k o cs,mkW t l=some x∧u = .pointer (some ⟨k,o,none⟩)∧S.O k = .fz∧t.rep P (λ k=>S.O k = .fz) S.w x cs∧Ck S.w k o cs
 |.fn F m,_,u=>u = .func (.func F) #[] hs.toArray∧hs.length=m
def Ip (P:Program) (S:Sit) (rg:Nat→Nat×Nat) (nv:Nat) (hs:List Value):Nat→List Par→List (List Lf)→List Value→Prop
 |_,[],[],[]=>True
 |i,p::ps,l::ls,u::us=>Cja P S rg nv hs i p l u∧Ip P S rg nv hs (i+1) ps ls us
 |_,_,_,_=>False
def Jm (P:Program) (S:Sit) (n0:Nat) (i:Nat):RK→List Lf→Value→Prop
 |.one,l,u=>A5 P S (λ _ => .tm i []) 0 l [u]
 |.agg,l,u=>∃ us,u = .agg us.toArray∧A5 P S (λ j => .tm i [j]) 0 l us
 |.ptr,l,u=>∃ k o c e us,u = .pointer (some ⟨k,o,none⟩)∧S.w.heap[k]? = some (.cells c e (0,0))∧n0≤k∧S.O k = .tm (i+500) []∧o+l.length≤c.size∧l.length<999∧(∀ j,j<l.length→c[o+j]? = us[j]?)∧
   A5 P S (λ j => .tm i [j]) 0 l us
def H6 (P:Program) (S:Sit) (n0:Nat):Nat→List (RK×Ty)→List (List Lf)→List Value→Prop
 |_,[],_,us=>us=[]
 |i,k::ks,l::ls,u::us=>Jm P S n0 i k.1 l u∧H6 P S n0 (i+1) ks ls us
 |_,_,_,_=>False
def Fh (P:Program) (S:Sit) (n0:Nat) (rs:List (RK×Ty)) (ls:List (List Lf)) (v:Value):Prop:=
 match rs with
 |[r]=>∃ l ls',ls=l::ls'∧Jm P S n0 1 r.1 l v
 |rs=>∃ us,v = .tuple us.toArray∧H6 P S n0 1 rs ls us
def R7 (P:Program) (S:Sit) (i:Nat) (t':Ty) (l:List Lf) (u:Value):Prop:=
 ∃ k o c e us,u = .pointer (some ⟨k,o,none⟩)∧S.w.heap[k]? = some (.cells c e (0,0))∧l.length=t'.sz∧(∀ j,j<t'.sz→c[o+j]? = us[j]?)∧A5 P S (λ j => .tm (1001+i) [j]) 0 l us
def Ppa (P:Program) (S:Sit) (i:Nat) (ag:Bool) (l:List Lf) (u:Value):Prop:=∃ us,(if ag then u = .agg us.toArray else us=[u])∧A5 P S (λ j => .tm (1001+i) [j]) 0 l us
def Ie (P:Program) (S:Sit):Nat→List Par→List Value→List (List Lf)→Prop
 |i,.io ag _::ps,u::us,l::ls=>Ppa P S i ag l u∧Ie P S (i+1) ps us ls
 |_,[],_,ls=>ls=[]
 |i,.ptr _ t'::ps,u::us,l::ls=>R7 P S i t' l u∧Ie P S (i+1) ps us ls
 |i,.hid _ t'::ps,u::us,l::ls=>R7 P S i t' l u∧Ie P S (i+1) ps us ls
 |i,.val _ _::ps,_::us,ls=>Ie P S (i+1) ps us ls
 |i,.vw _ _::ps,_::us,ls=>Ie P S (i+1) ps us ls
 |i,.rd _::ps,_::us,ls=>Ie P S (i+1) ps us ls
 |i,.fn _ _::ps,_::us,ls=>Ie P S (i+1) ps us ls
 |_,_,_,_=>False
def O3a (nv n b:Nat):Prop:=∃ i,i<n∧b=bid nv i
def Lua (P:Program) (f:FuncId) (en:Ent):Prop:=
 ∀ x r,en.run x=some r→∀ (w:World) (O:Nat→Lab) (rg:Nat→Nat×Nat) (us:List Value),(∀ k,O k ≠ .no→k<w.heap.size)→(∀ k b,O k = .bx b→O3a en.nv en.ps.length b∧(∃ c e f,w.heap[k]? = some (.cells c e f))∧∀ k',O k' = .bx b→k'=k)→Ip P (bare O w) rg en.nv (us.drop en.nv) 0 en.ps (Av _ x) us→
  Calls P f (us.take en.nv).toArray w (λ e w'=>∃ v O',e = .returned v∧Fr O w rg O' w'∧(∀ k,O' k ≠ .no→k<w'.heap.size)∧Fh P (bare O' w') w.heap.size en.rs (Av _ r) v∧Ie P (bare O' w') 0 en.ps us ((Av _ r).drop en.rs.length))
structure Iq (P:Program) (f:FuncId) (en:Ent):Prop where
 fn:∃ fn,P.funcs[f]? = some fn∧(fn.name == "runtime.NumGoroutine")=false∧fn.body.isNone=false
 sound:Lua P f en
section
variable {X:Cx} {S S':Sit} {a:Act} {E:En} {A:Ab} {o:Oper} {R:Type} {Kc:List Up→Option R} {r:R}
def Ef:Lf→Bool
 |.sc _ | .fz _ _ _ | .own _ _ _=>true
 |_=>false
def Af.bare {P:Program} {x:Lf} {u:Value} {lab lab':Lab} (hx:Ef x=true) {S1 S2:Sit} (hw:S2.w=S1.w) (hf:∀ k,S1.O k = .fz→S2.O k = .fz) (hl:∀ k,S1.O k=lab→S2.O k=lab') (h:Af P S1 lab x u):Af P S2 lab' x u:=by
 cases x with
 |sc v=>exact h
 |fz e r xs=>exact Ty.rep_mono (t := .sl e r) hf (λ k _=>by rw[hw]) _ _ h
 |own e r xs=>exact Cs.later (O':=S2.O) (w':=S2.w) h (λ k hk=>⟨hf k hk,by rw[hw]⟩) (λ k hk=>⟨hl k hk,by rw[hw]⟩)
 |_=>simp[Ef]at hx
def Hj:∀ (t:Ty) (x:t.den),∀ y∈A4 t x,Ef y=true
 |.i _,_=>by simp[A4,Ef]
 |.b,_=>by simp[A4,Ef]
 |.s,_=>by simp[A4,Ef]
 |.sl _ _,_=>by simp[A4,Ef]
 |.ow _ _,_=>by simp[A4,Ef]
 |.pr x y,p=>by
  intro z hz;rcases Vo.1 (show z∈A4 x p.1++A4 y p.2 from hz) with h|h
  ·exact Hj x p.1 z h
  ·exact Hj y p.2 z h
def Ev:∀ (t:Ty) (x:t.den),(A4 t x).length=t.sz
 |.i _,_=>rfl
 |.b,_=>rfl
 |.s,_=>rfl
 |.sl _ _,_=>rfl
 |.ow _ _,_=>rfl
 |.pr x y,p=>by
  show (A4 x p.1++A4 y p.2).length=x.sz+y.sz;rw[Vh,Ev x p.1,Ev y p.2]
def A5.impS {P:Program} {S1 S2:Sit} {f f':Nat→Lab}:∀ {l:List Lf} {j:Nat} {us:List Value},(∀ y∈l,Ef y=true)→(∀ n x u,Ef x=true→Af P S1 (f n) x u→Af P S2 (f' n) x u)→A5 P S1 f j l us→A5 P S2 f' j l us
 |[],_,[],_,_,_=>trivial
 |[],_,_::_,_,_,h=>h.elim
 |_::_,_,[],_,_,h=>h.elim
 |y::l,j,u::us,hs,hi,h=>⟨hi j y u (hs y (by simp)) h.1,A5.impS (λ z hz=>hs z (Vd _ hz)) hi h.2⟩
def Ah.world (K:Ah X S a) {w':World} {O':Nat→Lab} (h1:∀ k,k<S.w.heap.size→(∀ n q,S.O k ≠ .tm n q)→O' k=S.O k∧w'.heap[k]? = S.w.heap[k]?)
  (hos:w'.os=S.w.os) (ht:w'.tape=S.w.tape) (hout:w'.output=S.w.output) (hsz:S.w.heap.size≤w'.heap.size) (hlt:∀ k,O' k ≠ .no→k<w'.heap.size):
  Ah X (Og S w' O') a∧Ct S (Og S w' O'):=by
 have keep:∀ k o,S.O k=o→k<S.w.heap.size→(∀ n q,o ≠ .tm n q)→O' k=o∧w'.heap[k]? = S.w.heap[k]?:=by
  intro k o' h hk ho;obtain⟨h2,h3⟩:=h1 k hk (by rw[h];exact ho);exact⟨h2.trans h,h3⟩
 have keep':∀ k o,S.O k=o→o ≠ .no→(∀ n q,o ≠ .tm n q)→O' k=o∧w'.heap[k]? = S.w.heap[k]? := λ k o' h hn ho=>keep k o' h (K.lt k (by rw[h];exact hn)) ho
 have L:Ct S (Og S w' O'):=⟨λ _=>Vq _,λ _ _=>rfl,λ p v e r xs' h _=>⟨xs',h,rfl⟩,λ _ _=>rfl,λ k h=>keep' k _ h (by simp) (by simp),Ct.box_of (λ _ _ _ h=>h) (λ k b h=>keep' k _ h (by simp) (by simp)),λ p _ hd=>⟨hd,λ _ _ _ h=>h,λ k hk=>by
  obtain⟨h1,h2⟩:=keep' k _ hk (by simp) (by simp)
  exact⟨.inl h1,h2⟩⟩,λ _ _=>rfl⟩
 have F:=K.fr;refine⟨⟨K.nt,hlt,λ l=>(K.at_ l).later L (λ p k h=>keep' k _ h (by simp) (by simp)),λ b n h=>?_,K.rgn,K.sl,K.sz,K.df,⟨hos.trans F.os,ht.trans F.tape,hout.trans F.out,Yq F.size hsz,λ k hk h0=>?_,λ k hk h0=>?_,λ k b hk h0=>?_⟩,K.io⟩,L⟩
 ·obtain⟨hn,c,e,e1,e2,e3,e4⟩:=K.box b n h;obtain⟨h5,h6⟩:=keep' _ _ e2 (by simp) (by simp);exact⟨hn,c,e,h6.trans e1,h5,e3,e4⟩
 ·obtain⟨f1,f2⟩:=F.no k hk h0;obtain⟨h5,h6⟩:=keep k _ f1 (Wm hk F.size) (by simp);exact⟨h5,h6.trans f2⟩
 ·obtain⟨f1,f2⟩:=F.fz k hk h0;obtain⟨h5,h6⟩:=keep k _ f1 (Wm hk F.size) (by simp);exact⟨h5,h6.trans f2⟩
 ·obtain⟨f1,c,c',e,f,f2,f3,f4,f5⟩:=F.bx k b hk h0;obtain⟨h5,h6⟩:=keep k _ f1 (Wm hk F.size) (by simp);exact⟨h5,c,c',e,f,f2,h6.trans f3,f4,f5⟩
end
end

section
attribute [local irreducible] C H
section
variable {X:Cx} {S S':Sit} {a:Act} {E:En} {A:Ab} {o:Oper} {R:Type} {Kc:List Up→Option R} {r:R}
def A5.impM {P:Program} {S1 S2:Sit} {f f':Nat→Lab}:∀ {l:List Lf} {j:Nat} {us:List Value},(∀ x∈l,∀ n u,Af P S1 (f n) x u→Af P S2 (f' n) x u)→A5 P S1 f j l us→A5 P S2 f' j l us
 |[],_,[],_,_=>trivial
 |[],_,_::_,_,h=>h.elim
 |_::_,_,[],_,h=>h.elim
 |y::l,j,u::us,hi,h=>⟨hi y (by simp) j u h.1,A5.impM (λ z hz=>hi z (Vd _ hz)) h.2⟩
def Jm.imp {P:Program} {S1 S2:Sit} {n0 i:Nat} {k:RK} {l:List Lf} {u:Value} (hw:S2.w=S1.w) (hO:∀ k i,S1.O k = .tm i []→S2.O k = .tm i []) (hi:∀ y∈l,∀ i q u,Af P S1 (.tm i q) y u→Af P S2 (.tm i q) y u) (h:Jm P S1 n0 i k l u):Jm P S2 n0 i k l u:=by
 cases k with
 |one=>exact A5.impM (λ x hx n u h=>hi x hx _ _ u h) h
 |agg=>
  obtain⟨us,e,h⟩:=h;exact⟨us,e,h.impM (λ x hx n u h=>hi x hx _ _ u h)⟩
 |ptr=>
  obtain⟨k,o,c,e,us,e1,e2,e3,e4,e5,e6,e7,h⟩:=h;exact⟨k,o,c,e,us,e1,by rw[hw];exact e2,e3,hO _ _ e4,e5,e6,e7,h.impM (λ x hx n u h=>hi x hx _ _ u h)⟩
def H6.imp {P:Program} {S1 S2:Sit} {n0:Nat} (hw:S2.w=S1.w) (hO:∀ k i,S1.O k = .tm i []→S2.O k = .tm i []):∀ {rs:List (RK×Ty)} {i:Nat} {ls:List (List Lf)} {us:List Value},
  (∀ l∈ls,∀ y∈l,∀ i q u,Af P S1 (.tm i q) y u→Af P S2 (.tm i q) y u)→H6 P S1 n0 i rs ls us→H6 P S2 n0 i rs ls us
 |[],_,_,_,_,h=>h
 |k::ks,i,l::ls,u::us,hi,h=>⟨h.1.imp hw hO (hi l (by simp)),H6.imp hw hO (λ l' hl'=>hi l' (Vd _ hl')) h.2⟩
 |_::_,_,[],_,_,h=>h.elim
 |_::_,_,_::_,[],_,h=>h.elim
def Fh.imp {P:Program} {S1 S2:Sit} {n0:Nat} {rs:List (RK×Ty)} {ls:List (List Lf)} {v:Value} (hw:S2.w=S1.w) (hO:∀ k i,S1.O k = .tm i []→S2.O k = .tm i [])
  (hi:∀ l∈ls,∀ y∈l,∀ i q u,Af P S1 (.tm i q) y u→Af P S2 (.tm i q) y u) (h:Fh P S1 n0 rs ls v):Fh P S2 n0 rs ls v:=by
 unfold Fh at h ⊢;split at h
 ·obtain⟨l,ls',rfl,h⟩:=h;exact⟨l,ls',rfl,h.imp hw hO (hi l (by simp))⟩
 ·obtain⟨us,e,h⟩:=h;exact⟨us,e,h.imp hw hO hi⟩
def O4a (K:Ah X S a) {A1:Ab} (hg:S.g=get A1) {d k o n0:Nat} {l0:List Nat} {m:List Lf} {us:List Value} {q:Nat→List Nat} {c:Array Value} {e:TypeId} (hd:d<X.nt) (hk:S.O k = .tm n0 l0) (hn0:n0≠0) (hk0:X.w0.heap.size≤k)
  (hc:S.w.heap[k]? = some (.cells c e (0,0))) (ho:o+m.length≤c.size) (hcs:∀ j,j<m.length→c[o+j]? = us[j]?) (hl:A5 X.P S (λ j => .tm 0 (q j)) 0 m us)
  (hq:∀ j,j<m.length→Ql d 0 0 (q j)=some (.pl (C d (0+j)) [])) (hm:m.length<999) (hst:∀ k,.hd k∉m) (hnp:X.np≤d):
  ∃ S',Ah X S' (a.put (some d) (.pointer (some ⟨k,o,none⟩)))∧S'.w=S.w∧S'.g=get (ups A1 (⟨H d,false,.one (.hd m.length)⟩::Bo d 0 m++[⟨d,false,.one (.bp d ((get A1 (H d)).1+1) 0)⟩])):=by
 obtain⟨K2,L2⟩:=K.newbox (d:=d) (k:=k) (o:=o) hk hn0 hk0 hc ho hcs hl hq hm hst hnp (Wm hd K.nt)
 have hv:((Wz S d k o m us).g (H d)).1=(S.g (H d)).1+1:=by
  show (Ji (upd S.g (H d) _) d 0 m (H d)).1=_;unfold Ji;rw[if_neg (E9 (by omega)),A9]
 have K3:=K2.put0 hd (.one (.bp d ((S.g (H d)).1+1) 0)) (.pointer (some ⟨k,o,none⟩)) 0 rfl ⟨by rw[hv];exact Vq _,λ _=>by
  show Value.pointer _ = .pointer (some ⟨(upd S.bb d (k,o) d).1,(upd S.bb d (k,o) d).2+0,none⟩);rw[A9]
  rfl⟩
 have e1:(Wz S d k o m us).g=get (ups A1 (⟨H d,false,.one (.hd m.length)⟩::Bo d 0 m)):=by
  show Ji (upd S.g (H d) ((S.g (H d)).1+1,.one (.hd m.length))) d 0 m=get (ups (up A1 ⟨H d,false,.one (.hd m.length)⟩) (Bo d 0 m));rw[Gz,Il,← hg];rfl
 refine⟨_,K3,rfl,?_⟩;show upd (Wz S d k o m us).g d _=_;rw[Ae,A8,← e1,← hg]
def Dla (d:Nat) (many:Bool):Nat→List Nat→Option Lab:=λ n q=>match n with
 |0=>none
 |n+1=>if many then (match q with
  |[]=>some (.pl d [n,0])
  |[j]=>some (.pl d [n,j])
  |_=>none) else (if n=0 then some (.pl d q) else none)
def Xo (d:Nat) (many:Bool):∀ n q p,Dla d many n q=some p→∃ p',p = .pl d p':=by
 intro n q p hp;unfold Dla at hp;split at hp
 ·cases hp
 ·split at hp
  ·split at hp<;>first|(cases hp;exact⟨_,rfl⟩)|cases hp
  ·split at hp<;>first|(cases hp;exact⟨_,rfl⟩)|cases hp
def Xp (K:Ah X S a) {A1:Ab} (hg:S.g=get A1) {rs:List (RK×Ty)} {ls:List (List Lf)} {d:Option Nat} {us:List Up} {v:Value} {n0:Nat} (hd:∀ d',d=some d'→d'<X.nt) (hn0:X.w0.heap.size≤n0) (hls:∀ l∈ls,∀ y∈l,Ef y=true) (hnp:∀ d',d=some d'→G9 rs=true→X.np≤d')
  (hr:Fh X.P S n0 rs ls v) (h:Lk A1 rs ls d=some us):∃ S',Ah X S' (a.put d v)∧S'.w=S.w∧S'.g=get (ups A1 us):=by
 cases d with
 |none=>
  have:us=[]:=by unfold Lk at h;cases rs<;>simpa using h.symm
  subst this;exact⟨S,K,rfl,hg⟩
 |some d=>
  cases rs with
  |nil=>
   have:us=[⟨d,false,.tup []⟩]:=by unfold Lk at h;simpa using h.symm
   subst this;obtain⟨vs,rfl,h2⟩:=hr
   have:vs=[]:=by cases ls<;>exact h2
   subst this;have K2:=K.put0 (hd d rfl) (.tup []) (.tuple #[]) 0 rfl ⟨[],rfl,trivial⟩;exact⟨_,K2,rfl,by show upd S.g d _=_;rw[A8,← hg]⟩
  |cons r1 rs=>
   cases rs with
   |nil=>
    obtain⟨l,ls',e1,h2⟩:=hr;subst e1;obtain⟨k,t⟩:=r1
    cases k with
    |one=>
     have h2':A5 X.P S (λ _ => .tm 1 []) 0 l [v]:=h2
     cases l with
     |nil=>exact h2'.elim
     |cons x l=>
      cases l with
      |cons y l=>exact h2'.2.elim
      |nil=>
       have:us=[⟨d,false,.one x⟩]:=by unfold Lk at h;simpa using h.symm
       subst this;have h3:Af X.P S (.tm 1 []) x v:=h2'.1;have L:=Dy S (Dla d false) d (K.lt0 (hd d rfl)) (.one x) v;have hsv:Gi X.P (Hq S (Dla d false) d (.one x) v) d (.one x) v:=Af.later (lab := .tm 1 []) (lab' := .pl d []) L h3 (λ k hk=>⟨G6 hk rfl,rfl⟩);have K2:=K.put (hd d rfl) (Dla d false) (Xo d false) (.one x) v hsv;exact⟨_,K2,rfl,by show upd S.g d _=_;rw[A8,← hg]⟩
    |agg=>
     have:us=[⟨d,false,.agg l⟩]:=by unfold Lk at h;simpa using h.symm
     subst this;obtain⟨vs,rfl,h3⟩:=h2;have L:=Dy S (Dla d false) d (K.lt0 (hd d rfl)) (.agg l) (.agg vs.toArray);have hsv:Gi X.P (Hq S (Dla d false) d (.agg l) (.agg vs.toArray)) d (.agg l) (.agg vs.toArray):=⟨vs,rfl,h3.imp (λ j x u hx=>hx.later L (λ k hk=>⟨G6 hk rfl,rfl⟩))⟩;have K2:=K.put (hd d rfl) (Dla d false) (Xo d false) (.agg l) _ hsv;exact⟨_,K2,rfl,by show upd S.g d _=_;rw[A8,← hg]⟩
    |ptr=>
     have:us=Dqa A1 d l:=by unfold Lk at h;simpa using h.symm
     subst this;obtain⟨k,o,c,e,vs,rfl,e2,e3,e4,e5,e6,e7,h3⟩:=h2
     let hh:Nat→List Nat→Option Lab:=λ n q=>if n=1 then some (.tm 0 q) else none
     obtain⟨K1,L1⟩:=K.names hh (by intro n q;simp only[hh];split<;>simp)
     have e4':({ S with O:=atO S.O hh }:Sit).O k = .tm 501 []:=I6 e4 (by simp[hh])
     obtain⟨S',K',w',g'⟩:=O4a K1 (A1:=A1) (q:=λ j=>[j]) hg (hd d rfl) e4' (by decide) (Yq hn0 e3) e2 e5 e7 (h3.imp (λ j x u hx=>hx.later L1 (λ k hk=>⟨G6 hk (by simp[hh]),rfl⟩))) (λ j hj=>rfl) e6 (by
      intro k hk;have:=hls l (by simp) _ hk
      simp[Ef]at this) (hnp d rfl rfl)
     exact⟨S',K',w',by rw[g'];rfl⟩
   |cons r2 rs=>
    have h':(bif G9 (r1::r2::rs) then none else some [(⟨d,false,.tup (Tn (r1::r2::rs) ls)⟩:Up)])=some us:=by
     unfold Lk at h;obtain⟨k1,t1⟩:=r1
     cases k1<;>exact h
    cases hp:G9 (r1::r2::rs)
    case true=>rw[hp]at h';simp at h'
    rw[hp]at h';simp only[cond_false,Vc]at h';subst h';obtain⟨vs,rfl,h2⟩:=hr;generalize hR:(r1::r2::rs)=R2 at hp h2
    have key:∀ (s:Sv) (rs:List (RK×Ty)) (i:Nat) (ls:List (List Lf)) (us:List Value),G9 rs=false→H6 X.P S n0 (i+1) rs ls us→Jz X.P (Hq S (Dla d true) d s (.tuple vs.toArray)) d i (Tn rs ls) us:=by
     intro s rs
     induction rs with
     |nil=>
      intro i ls us _ h
      have:us=[]:=by cases ls<;>exact h
      subst this;simp[Tn,Jz]
     |cons r rs ih=>
      intro i ls us hp h
      cases ls with
      |nil=>exact h.elim
      |cons l ls=>
       cases us with
       |nil=>exact h.elim
       |cons u us=>
        obtain⟨k,t⟩:=r;have L:=Dy S (Dla d true) d (K.lt0 (hd d rfl)) s (.tuple vs.toArray)
        have hp2:G9 rs=false:=by cases k<;>first|(simp[G9]at hp;done)|simpa[G9] using hp
        refine⟨?_,ih (i+1) ls us hp2 h.2⟩
        cases k with
        |ptr=>simp[G9]at hp
        |one=>
         have h2':A5 X.P S (λ _ => .tm (i+1) []) 0 l [u]:=h.1;refine⟨[u],rfl,?_⟩
         cases l with
         |nil=>exact h2'.elim
         |cons x l=>
          cases l with
          |cons y l=>exact h2'.2.elim
          |nil=>exact⟨Af.later (lab := .tm (i+1) []) (lab' := .pl d [i,0]) L h2'.1 (λ k hk=>⟨G6 hk rfl,rfl⟩),trivial⟩
        |agg=>
         obtain⟨ws,e1,h3⟩:=h.1;exact⟨ws,e1,h3.imp (λ j x u hx=>hx.later L (λ k hk=>⟨G6 hk rfl,rfl⟩))⟩
    have hsv:Gi X.P (Hq S (Dla d true) d (.tup (Tn R2 ls)) (.tuple vs.toArray)) d (.tup (Tn R2 ls)) (.tuple vs.toArray):=⟨vs,rfl,key _ _ 0 ls vs hp h2⟩;have K2:=K.put (hd d rfl) (Dla d true) (Xo d true) (.tup (Tn R2 ls)) _ hsv;exact⟨_,K2,rfl,by show upd S.g d _=_;rw[A8,← hg]⟩
def Eza (N:Nat):Nat→List Nat→Option Lab:=λ n _=>if n≤N then some .fz else none
def A5.calmN {P:Program} {S:Sit} {N i:Nat} (hi:i≤N) {q:Nat→List Nat}:∀ {l:List Lf} {j:Nat} {us:List Value},(∀ y∈l,Ef y=true)→A5 P S (λ n => .tm i (q n)) j l us→A5 P { S with O:=atO S.O (Eza N) } (λ n => .tm i (q n)) j (l.map Iu) us
 |[],_,[],_,_=>trivial
 |[],_,_::_,_,h=>h.elim
 |_::_,_,[],_,h=>h.elim
 |x::l,j,u::us,hs,h=>by
  have hfz:∀ k,S.O k = .fz→atO S.O (Eza N) k = .fz:=λ k hk=>Am hk (by simp);refine⟨?_,A5.calmN hi (λ y hy=>hs y (Vd _ hy)) h.2⟩;have h1:=hs x (by simp)
  cases x with
  |sc v=>exact h.1
  |fz e r xs=>exact Ty.rep_mono (t := .sl e r) hfz (λ _ _=>rfl) _ _ h.1
  |own e r xs=>
   have h2:Cs P S.O S.w (.tm i (q j)) e r xs u:=h.1;exact h2.reads (O':=λ k=>atO S.O (Eza N) k) hfz (λ k hk=>G6 hk (by simp[Eza,hi]))
  |_=>simp[Ef]at h1
def Jm.calmN {P:Program} {S:Sit} {N n0 i:Nat} (hi:i≤N) {k:RK} (hk:k = .ptr→N<i+500) {l:List Lf} {u:Value} (hs:∀ y∈l,Ef y=true) (h:Jm P S n0 i k l u):Jm P { S with O:=atO S.O (Eza N) } n0 i k (l.map Iu) u:=by
 cases k with
 |one=>exact A5.calmN (q:=λ _=>[]) hi hs h
 |agg=>
  obtain⟨us,e,h⟩:=h;exact⟨us,e,A5.calmN (q:=λ n=>[n]) hi hs h⟩
 |ptr=>
  obtain⟨k,o,c,e,us,h1,h2,h3,h4,h5,h6,h7,h8⟩:=h;have:=hk rfl;refine⟨k,o,c,e,us,h1,h2,h3,?_,by rw[Yk];exact h5,by rw[Yk];exact h6,by rw[Yk];exact h7,A5.calmN (q:=λ n=>[n]) hi hs h8⟩;exact I6 h4 (by unfold Eza;rw[if_neg (by omega)])
def Fh.calmN {P:Program} {S:Sit} {N n0:Nat} {rs:List (RK×Ty)} (hN:rs.length≤N) (hk:G9 rs=true→N<501) {ls:List (List Lf)} {v:Value} (hs:∀ l∈ls,∀ y∈l,Ef y=true) (h:Fh P S n0 rs ls v):Fh P { S with O:=atO S.O (Eza N) } n0 rs (ls.map λ l=>l.map Iu) v:=by
 have all:∀ (rs:List (RK×Ty)) (i:Nat) (ls:List (List Lf)) (us:List Value),1≤i→i+rs.length≤N+1→(G9 rs=true→N<501)→(∀ l∈ls,∀ y∈l,Ef y=true)→H6 P S n0 i rs ls us→H6 P { S with O:=atO S.O (Eza N) } n0 i rs (ls.map λ l=>l.map Iu) us:=by
  intro rs
  induction rs with
  |nil=>intro i ls us _ _ _ _ h;exact h
  |cons r rs ih=>
   intro i ls us h1 h2 h3 h4 h;simp only[Vg]at h2
   cases ls with
   |nil=>exact h.elim
   |cons l ls=>
    cases us with
    |nil=>exact h.elim
    |cons u us=>
     refine⟨Jm.calmN (by omega) (λ hp=>?_) (h4 l (by simp)) h.1,ih (i+1) ls us (by omega) (by omega) (λ hp=>h3 ?_) (λ l hl=>h4 l (Vd _ hl)) h.2⟩
     ·have:=h3 (by obtain⟨k,t⟩:=r;have:k = .ptr:=hp;subst this;rfl);omega
     ·obtain⟨k,t⟩:=r
      cases k<;>first|exact hp|rfl
 unfold Fh at h ⊢;split at h
 ·rename_i r;obtain⟨l,ls',e,h⟩:=h;subst e;refine⟨l.map Iu,_,rfl,Jm.calmN (by simpa using hN) (λ hp=>?_) (hs l (by simp)) h⟩;have:=hk (by obtain⟨k,t⟩:=r;have:k = .ptr:=hp;subst this;rfl);omega
 ·obtain⟨us,e,h⟩:=h;exact⟨us,e,all _ 1 _ _ (Vq _) (by omega) hk hs h⟩
def Sk {E:En} (K:Ah X S a) {A1:Ab} (hg:S.g=get A1) {rs:List (RK×Ty)} {ls:List (List Lf)} {d:Option Nat} {us:List Up} {v:Value} {n0:Nat} (hN:G9 rs=true→rs.length≤400) (hd:∀ d',d=some d'→d'<X.nt) (hn0:X.w0.heap.size≤n0) (hls:∀ l∈ls,∀ y∈l,Ef y=true) (hnp:∀ d',d=some d'→G9 rs=true→X.np≤d')
  (hr:Fh X.P S n0 rs ls v) (h:Lk A1 rs (shL E d ls) d=some us):∃ S',Ah X S' (a.put d v)∧S'.w=S.w∧S'.g=get (ups A1 us):=by
 cases d with
 |none=>exact Xp K hg hd hn0 hls hnp hr h
 |some d=>
  unfold shL at h;simp only at h;cases hsh:E.sh d
  ·rw[hsh]at h;exact Xp K hg hd hn0 hls hnp hr h
  rw[hsh,cond_true]at h
  have go:∀ N,rs.length≤N→(G9 rs=true→N<501)→∃ S',Ah X S' (a.put (some d) v)∧S'.w=S.w∧S'.g=get (ups A1 us):=by
   intro N h1 h2
   obtain⟨K1,_⟩:=K.names (Eza N) (by intro n q;unfold Eza;split<;>simp)
   refine Xp (S := { S with O:=atO S.O (Eza N) }) K1 hg hd hn0 (λ l hl y hy=>?_) hnp (hr.calmN h1 h2 hls) h;obtain⟨l0,h3,rfl⟩:=Za.1 hl;obtain⟨y0,h4,rfl⟩:=Za.1 hy;have:=hls l0 h3 y0 h4
   cases y0<;>first|rfl|simp[Ef]at this
  cases hp:G9 rs with
  |true=>exact go 400 (hN hp) (λ _=>by omega)
  |false=>exact go rs.length (Vq _) (λ h=>by rw[hp]at h;cases h)
end
end

section
attribute [local irreducible] C H
def Mk:List Ty→List (List Lf)→List (List Lf)→Prop
 |[],[],[]=>True
 |t::ts,l::ls,l'::ls'=>(∃ y,mkW t l=some y∧l'=A4 t y)∧Mk ts ls ls'
 |_,_,_=>False
def Mp:∀ (ts:List Ty) (ls:List (List Lf)) (x:Den ts),M7 ts ls=some x→Mk ts ls (Av ts x)
 |[],[],_,_=>trivial
 |[],_::_,_,h=>by simp[M7]at h
 |[t],[],_,h=>by simp[M7]at h
 |[t],[l],x,h=>⟨⟨x,h,rfl⟩,trivial⟩
 |[t],_::_::_,_,h=>by simp[M7]at h
 |_::_::_,[],_,h=>by simp[M7]at h
 |t::u::ts,l::ls,x,h=>by
  simp only[M7]at h;split at h
  ·rename_i y hy;split at h
   ·rename_i z hz;cases h;exact⟨⟨y,hy,rfl⟩,Mp (u::ts) ls z hz⟩
   ·cases h
  ·cases h
def Fl:∀ (ts:List Ty) (x:Den ts),∀ l∈Av ts x,∀ y∈l,Ef y=true
 |[],_=>by simp[Av]
 |[t],x=>by
  intro l hl;simp[Av]at hl;subst hl;exact Hj t x
 |t::u::ts,x=>by
  intro l hl;rcases Vk.1 (show l∈A4 t x.1::Av (u::ts) x.2 from hl) with rfl|h
  ·exact Hj t x.1
  ·exact Fl (u::ts) x.2 l h
def Pq (t:Ty) (x:t.den) (h:Hh t=true):A4 t x=lvs t x:=Ov t x h
section
variable {X:Cx} {S S':Sit} {a:Act} {E:En} {A:Ab} {o:Oper} {R:Type} {Kc:List Up→Option R} {r:R}
def Ina (hE:Gx X E) (K:Ah X S a) (hg:S.g=get A) {T:TypeId} {x:Operand} {s:Sv} {ag:Bool} (hx:opT E T A x=some s) (hf:H5 ag s=true):
  ∃ us,∃ f:Nat→Lab,(if ag then a.eval x = .agg us.toArray else us=[a.eval x])∧A5 X.P S f 0 (parts s) us∧∀ n,f n ≠ .no:=by
 rcases I5 hE K hg hx with⟨t,rfl,ht,hst,het,hok⟩|⟨hnt,y,rfl,hy⟩
 ·cases s with
  |tup vs=>simp[H5,Dja]at hf
  |one y=>
   have:ag=false:=by cases ag<;>simp[H5,Dja]at hf ⊢
   subst this;exact⟨[a.eval (.tmp t)],λ _ => .pl t [],rfl,⟨hok,trivial⟩,by simp⟩
  |agg l=>
   have:ag=true:=by cases ag<;>simp[H5,Dja]at hf ⊢
   subst this;obtain⟨us,e1,hl⟩:=hok;exact⟨us,λ n => .pl t [n],e1,hl,by simp⟩
 ·have:ag=false:=by cases ag<;>simp[H5,Dja]at hf ⊢
  subst this;exact⟨[a.eval x],λ _ => .fz,rfl,⟨hy _,trivial⟩,by simp⟩
def Sm {ag:Bool} {s:Sv} (hf:H5 ag s=true):∀ vs,s ≠ .tup vs:=by
 intro vs e;subst e;simp[H5,Dja]at hf
def L7 {ag:Bool} {s:Sv} {u:Value} {us:List Value} (hf:H5 ag s=true) (h:Nf s u us):if ag then u = .agg us.toArray else us=[u]:=by
 cases s with
 |tup vs=>simp[H5,Dja]at hf
 |one y=>
  have:ag=false:=by cases ag<;>simp[H5,Dja]at hf ⊢
  subst this;exact h
 |agg l=>
  have:ag=true:=by cases ag<;>simp[H5,Dja]at hf ⊢
  subst this;exact h
def R8 {P:Program} {S:Sit} {G:Nat→Prop} {t:Ty} {l:List Lf} {y:t.den} {us:List Value} (hG:∀ k,G k→S.O k = .fz) (hm:mkW t l=some y) (hn:Hh t=true) (h:Hw (Ha P G S.w) l us) (f:Nat→Lab) (j:Nat):A5 P S f j (A4 t y) us:=by
 have h1:=Pf hm h;have h2:=Jf (P:=P) (G:=λ k=>S.O k = .fz) (w:=S.w) t y us (Ty.rep_mono hG (λ _ _=>rfl) t y us h1);rw[Pq t y hn];exact A5.ofRep h2 f j
def Nj (S:Sit):Nat→Lab:=λ k=>if S.O k = .no then .no else .fz
def Ioa {y:Lf} {u:Value} {lab:Lab} (K:Ah X S a) (hg:S.g=get A) (h:Af X.P S lab y u):∃ lab',(lab'=lab∨∃ p,lab' = .pl p [])∧Af X.P S lab' (H9 A y) u:=by
 unfold H9;split
 ·rename_i p v;split
  ·rename_i n e r xs hp;cases hb:Nat.beq n v
   ·exact⟨lab,.inl rfl,trivial⟩
   have hnv:n=v:=by simpa using hb
   subst hnv;have e1:u=S.ph p:=h.2 (by rw[hg,hp]);refine⟨.pl p [],.inr ⟨p,rfl⟩,?_⟩;have:=K.at_ p;rw[hg,hp]at this;rw[e1];exact this
  ·rename_i n e r xs hp;cases hb:Nat.beq n v
   ·exact⟨lab,.inl rfl,trivial⟩
   have hnv:n=v:=by simpa using hb
   subst hnv;have e1:u=S.ph p:=h.2 (by rw[hg,hp]);refine⟨.pl p [],.inr ⟨p,rfl⟩,?_⟩;have:=K.at_ p;rw[hg,hp]at this;rw[e1];exact this
  ·exact⟨lab,.inl rfl,trivial⟩
 ·exact⟨lab,.inl rfl,h⟩
def Ava (K:Ah X S a) (hg:S.g=get A) {f:Nat→Lab} (hf:∀ n,f n ≠ .no):∀ {l:List Lf} {j:Nat} {us:List Value},A5 X.P S f j l us→A3 (l.map λ y=>Iu (Ru A y))=true→
  Hw (Ha X.P (λ k=>Nj S k = .fz) S.w) (l.map λ y=>Iu (Ru A y)) us
 |[],_,[],_,_ => .nil
 |[],_,_::_,h,_=>h.elim
 |_::_,_,[],h,_=>h.elim
 |y::l,j,u::us,h,hst=>by
  have hfz:∀ k,S.O k = .fz→Nj S k = .fz:=λ k hk=>by simp[Nj,hk]
  rw[Yd]at hst ⊢
  have hrest:A3 (l.map λ y=>Iu (Ru A y))=true:=by
   generalize Iu (Ru A y)=z at hst
   cases z<;>first|(simp[A3]at hst;done)|simpa[A3] using hst
  refine .cons ?_ (Ava K hg hf h.2 hrest)
  have hv:(∃ lab',lab' ≠ .no∧Af X.P S lab' (Ru A y) u)∨∃ p e r,∃ xs:List (Ty.den r),Ru A y = .fz e r xs∧Xe X.P S p e r xs u:=by
   unfold Ru;split
   ·rename_i p v pi e r xs;cases hq:Nat.beq (get A p).1 v
    ·exact .inl ⟨f j,hf j,trivial⟩
    obtain⟨_,_,h2⟩:=h.1;exact .inr ⟨p,e,r,xs,rfl,(h2 (by rw[hg];exact Vb hq)).2.1⟩
   ·obtain⟨lab',hlab,h1⟩:=Ioa K hg h.1;refine .inl ⟨lab',?_,h1⟩;rcases hlab with rfl|⟨p,rfl⟩
    ·exact hf j
    ·simp
  rcases hv with⟨lab',hno,h1⟩|⟨p,e,r,xs,e1,h1⟩
  rotate_left 1
  ·rw[e1]
   exact h1.reads (λ k hk=>by
    rcases hk with hk|hk<;>simp[Nj,hk])
  generalize Ru A y=z at h1 hst
  cases z with
  |sc v=>exact h1
  |fz e r xs=>exact Ty.rep_mono (t := .sl e r) hfz (λ _ _=>rfl) _ _ h1
  |own e r xs=>
   have h2:Cs X.P S.O S.w lab' e r xs u:=h1;exact h2.reads (O':=Nj S) hfz (λ k hk=>by simp[Nj,hk,hno])
  |_=>simp[Iu,A3]at hst
def Uh (hE:Gx X E) (K:Ah X S a) (hg:S.g=get A) (rg:Nat→Nat×Nat) (nv:Nat) (hs:List Value):∀ (ps:List Par) {xs:List Operand} {ss:List Sv} {ls ls':List (List Lf)} {i:Nat},Hw (λ s x=>∃ T,opT E T A x=some s) ss xs→K8 A ps ss=some ls→Mk (ps.map Par.ty) ls ls'→
  K7 ps=true→Ip X.P (bare (Nj S) S.w) rg nv hs i ps ls' (xs.map a.eval)∧xs.length=ps.length
 |[],_,_,ls,ls',i,.nil,h,hm,_=>by
  simp only[K8,Vc]at h;subst h
  cases ls' with
  |nil=>exact⟨trivial,rfl⟩
  |cons=>exact hm.elim
 |[],_,_,ls,ls',i,.cons _ _,h,hm,_=>by simp[K8]at h
 |.ptr _ _::_,_,_,_,_,_,_,_,_,hl=>by simp[K7]at hl
 |.hid _ _::_,_,_,_,_,_,_,_,_,hl=>by simp[K7]at hl
 |.rd _::_,_,_,_,_,_,_,_,_,hl=>by simp[K7]at hl
 |.fn _ _::_,_,_,_,_,_,_,_,_,hl=>by simp[K7]at hl
 |.val ag t::ps,_,_,ls,ls',i,.nil,h,_,_=>by simp[K8]at h
 |.val ag t::ps,_,_,ls,ls',i,.cons (x:=s) (y:=x) (xs:=ss) (ys:=xs) hs1 hss,h,hm,hl=>by
  simp only[K7,Va]at hl;simp only[K8]at h;obtain⟨hq,h⟩:=cs h;simp only[Va]at hq;split at h
  ·rename_i ls1 hls1;cases h
   cases ls' with
   |nil=>exact hm.elim
   |cons l' ls'=>
    obtain⟨⟨y,hy,rfl⟩,hm2⟩:=hm;obtain⟨T,hx⟩:=hs1;obtain⟨us,f,hsh,hlf,hf⟩:=Ina hE K hg hx hq.1;obtain⟨r1,r2⟩:=Uh hE K hg rg nv hs (i:=i+1) ps hss hls1 hm2 hl.2;exact⟨⟨⟨us,hsh,R8 (S:=bare (Nj S) S.w) (λ k hk=>hk) hy hl.1 (Ava K hg hf hlf hq.2) _ _⟩,r1⟩,by simp[r2]⟩
  ·cases h
def Jn:Lf→Bool
 |.sc _=>true
 |.own _ r _=>Eh r
 |_=>false
def Ir:∀ (t:Ty) (x:t.den),Eh t=true→∀ y∈A4 t x,Jn y=true
 |.i _,_,_=>by simp[A4,Jn]
 |.b,_,_=>by simp[A4,Jn]
 |.s,_,_=>by simp[A4,Jn]
 |.sl _ _,_,h=>by simp[Eh]at h
 |.ow _ r,_,h=>by simpa[A4,Jn,Eh] using h
 |.pr x y,p,h=>by
  simp only[Eh,Va]at h;intro z hz;rcases Vo.1 (show z∈A4 x p.1++A4 y p.2 from hz) with h'|h'
  ·exact Ir x p.1 h.1 z h'
  ·exact Ir y p.2 h.2 z h'
def O5a {P:Program} {S1 S2:Sit} {lab lab':Lab} {y:Lf} {u:Value} (hy:Jn y=true) (hw:S2.w=S1.w) (hl:∀ k,S1.O k=lab→S2.O k=lab') (h:Af P S1 lab y u):Af P S2 lab' y u:=by
 cases y with
 |sc v=>exact h
 |own e r xs=>
  obtain⟨bs,h1,h2,h3⟩:=h;exact⟨bs,Ty.dep_all (.ow e r) xs [u] bs hy (λ k _=>by rw[hw]) h1,h2,λ k hk=>hl k (h3 k hk)⟩
 |_=>simp[Jn]at hy
def Pr:∀ (rs:List (RK×Ty)) (x:Den (rs.map Prod.snd)),Qk rs=true→∀ l∈Av (rs.map Prod.snd) x,∀ y∈l,Jn y=true
 |[],_,_=>λ l hl=>by cases (show l∈([]:List (List Lf)) from hl)
 |[(k,t)],x,h=>by
  intro l hl;have hl':l∈[A4 t x]:=hl;simp at hl';subst hl'
  have:Eh t=true:=by cases k<;>simp[Qk]at h<;>exact h
  exact Ir t x this
 |(k,t)::r2::rs,x,h=>by
  intro l hl
  have h2:Eh t=true∧Qk (r2::rs)=true:=by
   cases k<;>simp only[Qk,Va]at h<;>first|exact h|cases h
  rcases Vk.1 (show l∈A4 t x.1::Av ((r2::rs).map Prod.snd) x.2 from hl) with rfl|h'
  ·exact Ir t x.1 h2.1
  ·exact Pr (r2::rs) x.2 h2.2 l h'
end
end

section
attribute [local irreducible] C H
section
variable {X:Cx} {S S':Sit} {a:Act} {E:En} {A:Ab} {o:Oper} {R:Type} {Kc:List Up→Option R} {r:R}
def Ui {P:Program} {w:World} {c:Call} {f:FuncId} {en:Ent} (ho:o.op = .call c) (hc:c.callee = .value (.func f)) (hf:Iq P f en):(execOp a.eval o).run P w = .ok (.enter f (c.args.toList.map a.eval).toArray) w:=by
 obtain⟨fn,h1,h2,h3⟩:=hf.fn
 have e1:c.args.map a.eval=(c.args.toList.map a.eval).toArray:=by
  apply Sqa;simp
 unfold execOp;simp only[ho,resolve,hc,Act.eval,Deferred.ofValue,Vx,Wn,Vw,invoke,callFunc,run_program,h1];rw[if_neg (by rw[h2];simp),if_neg (by rw[h3];simp)];simp only[Wn,Array.append_empty,Array.empty_append];rw[e1]
def Cka {P:Program} {w:World} {c:Call} {f:FuncId} {en:Ent} {t:Nat} {us:List Value} (ho:o.op = .call c) (hc:c.callee = .value (.tmp t)) (hv:a.eval (.tmp t) = .func (.func f) #[] us.toArray) (hf:Iq P f en):
  (execOp a.eval o).run P w = .ok (.enter f (c.args.toList.map a.eval++us).toArray) w:=by
 obtain⟨fn,h1,h2,h3⟩:=hf.fn
 have e1 : #[]++(c.args.map a.eval++us.toArray)=(c.args.toList.map a.eval++us).toArray:=by
  apply Sqa;simp
 have e2 : #[]++c.args.map a.eval++us.toArray=(c.args.toList.map a.eval++us).toArray:=by
  apply Sqa;simp
 unfold execOp;simp only[ho,resolve,hc,hv,Deferred.ofValue,Vx,Wn,Vw,invoke,callFunc,run_program,h1];rw[if_neg (by rw[h2];simp),if_neg (by rw[h3];simp)];simp only[Wn]
 first|rw[e1]|rw[e2]
def Nk {f:FuncId} {args:Array Value} {w:World} {A':Ab} (hr:(execOp a.eval o).run X.P w = .ok (.enter f args) w)
  (h:Calls X.P f args w (λ e w'=>∃ v,e = .returned v∧∃ S',S'.w=w'∧Ah X S' (a.put o.dst v)∧S'.g=get A')):E7a X o a w A':=by
 intro next Q hn;unfold Oper.wp;rw[hr,Oper.upon_enter];intro cs;obtain⟨e,w',fr,⟨v,rfl,S',hw,K',hg'⟩,rest⟩:=h cs;refine⟨_,w',fr,?_,rest⟩;rw[← hw];exact hn S' _ K' hg'
def L8 {P:Program} {f:FuncId} {args:Array Value} {w:World} {R1 R2:Ending→World→Prop} (h:Calls P f args w R1) (hi:∀ e w',R1 e w'→R2 e w'):Calls P f args w R2:=by
 intro cs;obtain⟨e,w',fr,hr,rest⟩:=h cs;exact⟨e,w',fr,hi _ _ hr,rest⟩
def R9:∀ ps:List Par,K7 ps=true→Ff ps=[]
 |[],_=>rfl
 |.val _ _::ps,h=>by
  simp only[K7,Va]at h;exact R9 ps h.2
 |.ptr _ _::_,h=>by simp[K7]at h
 |.hid _ _::_,h=>by simp[K7]at h
 |.rd _::_,h=>by simp[K7]at h
 |.fn _ _::_,h=>by simp[K7]at h
def Ipa {ts:List Ty} {rs:List (RK×Ty)} (he:ts=rs.map Prod.snd) (x:Den ts) (h:Qk rs=true):∀ l∈Av ts x,∀ y∈l,Jn y=true:=by
 subst he;exact Pr rs x h
def L9:∀ rs:List (RK×Ty),Qk rs=true→G9 rs=false
 |[],_=>rfl
 |(k,t)::rs,h=>by
  cases k with
  |ptr=>simp[Qk]at h
  |one=>simp only[Qk,Va]at h;exact L9 rs h.2
  |agg=>simp only[Qk,Va]at h;exact L9 rs h.2
def Lva (hE:Gx X E) (K:Ah X S a) (hg:S.g=get A) {xs:List Operand} {f:FuncId} {en:Ent} {ss:List Sv} (hrun:(execOp a.eval o).run X.P S.w = .ok (.enter f (xs.map a.eval).toArray) S.w) (hd:∀ d,o.dst=some d→d<X.nt)
  (hco:Iq X.P f en) (hnv:en.nv=xs.length) (hss:Hw (λ s x=>∃ T,opT E T A x=some s) ss xs) (hl:K7 en.ps=true) (hn:Qk en.rs=true)
  (h:(match K8 A en.ps ss with
  |none=>none
  |some ls=>match M7 _ ls with
   |none=>none
   |some x=>(en.run x).bind λ r=>
    match Lk A en.rs (shL E o.dst (Av _ r)) o.dst with
    |none=>none
    |some rs=>Kc rs)=some r):Fw X o a S.w A Kc r:=by
 split at h
 ·cases h
 ·rename_i ls hls;split at h
  ·cases h
  ·rename_i x hx
   cases hrun':en.run x with
   |none=>rw[hrun']at h;simp at h
   |some y=>
    rw[hrun']at h;simp only[Vv]at h;split at h
    ·cases h
    ·rename_i us hus;obtain⟨hargs,hlen⟩:=Uh (i:=0) hE K hg (λ _=>(0,0)) en.nv ((xs.map a.eval).drop en.nv) en.ps hss hls (Mp _ _ _ hx) hl
     have hs:=hco.sound x y hrun' S.w (Nj S) (λ _=>(0,0)) _ (λ k hk=>K.lt k (λ e=>hk (by simp[Nj,e]))) (λ k b hk=>by unfold Nj at hk;split at hk<;>cases hk) hargs
     rw[Zb (by rw[Yk,hnv];exact Vq _)]at hs;refine⟨us,h,Nk hrun (L8 hs ?_)⟩;rintro e w' ⟨v,O',rfl,hF,hlt,hres,_⟩;refine⟨v,rfl,?_⟩
     have hsame:∀ k,k<S.w.heap.size→w'.heap[k]? = S.w.heap[k]? ∧ (O' k = .no∨O' k = .fz):=λ k hk=>by
      by_cases h0:S.O k = .no
      ·have:=hF.no k hk (by simp[Nj,h0]);exact⟨this.2,.inl this.1⟩
      ·have:=hF.fz k hk (by simp[Nj,h0]);exact⟨this.2,.inr this.1⟩
     let O2:Nat→Lab:=λ k=>if k<S.w.heap.size then S.O k else O' k
     obtain⟨K1,L1⟩:=K.world (w':=w') (O':=O2) (λ k hk _=>⟨if_pos hk,(hsame k hk).1⟩) hF.os hF.tape hF.out hF.size (λ k hk=>by
      by_cases hkl:k<S.w.heap.size
      ·exact Wm hkl hF.size
      ·exact hlt k (by simpa[O2,hkl] using hk))
     have htm:∀ k i q,O' k = .tm i q→O2 k = .tm i q:=λ k i q hk=>by
      have:¬ k<S.w.heap.size:=λ hkl=>by
       rcases (hsame k hkl).2 with h|h<;>rw[h]at hk<;>cases hk
      simp[O2,this,hk]
     have hnews:=Ipa (by rw[R9 en.ps hl,Yf]) y hn;have hres1:Fh X.P (Og S w' O2) S.w.heap.size en.rs (Av _ y) v:=Fh.imp (S1:=bare O' w') (S2:=Og S w' O2) rfl (λ k i hk=>htm k i [] hk) (λ l hl' z hz i q u hu=>O5a (S1:=bare O' w') (S2:=Og S w' O2) (hnews l hl' z hz) rfl (λ k hk=>htm k i q hk) hu) hres;obtain⟨S2,K2,w2,g2⟩:=Sk (E:=E) K1 (A1:=A) hg (λ h=>by rw[L9 _ hn]at h;cases h) hd K.fr.size (Fl _ y) (λ d' _ h=>by rw[L9 _ hn]at h;cases h) hres1 hus;exact⟨S2,w2,K2,g2⟩
end
end

section
attribute [local irreducible] C H
def Ox:List Ty→List Lf→Prop
 |.ow _ _::ts,_::l=>Ox ts l
 |_::ts,x::l=>x.isOwn=false∧Ox ts l
 |[],[]=>True
 |_,_=>False
def Cla (z:Lf):(Iu z).isOwn=false:=by cases z<;>rfl
def Hr:∀ (ts:List Ty) (l:List Lf) {A:Ab} {m:List Lf} {us:List Up},D5 A ts l=some (m,us)→Ox ts m
 |[],[],A,m,us,h=>by
  simp only[D5,Vc,Vu]at h;obtain⟨rfl,_⟩:=h;trivial
 |[],_::_,A,m,us,h=>by simp[D5]at h
 |t::ts,[],A,m,us,h=>by cases t<;>simp[D5]at h
 |t::ts,x::l,A,m,us,h=>by
  cases t with
  |ow e r=>
   simp only[D5]at h;split at h
   ·split at h
    ·rename_i hr;cases h;exact Hr ts l hr
    ·cases h
   ·cases h
  |_=>
   simp only[D5]at h;split at h
   ·rename_i hr;cases h;exact⟨Cla _,Hr ts l hr⟩
   ·cases h
def Nl {A:Ab} {x:Operand} {s:Sv} {t:Ty} {m:List Lf} {us:List Up} (h:M8 A x s t=some (m,us)):Ox (Ew t) m:=by
 unfold M8 N7 at h;split at h
 ·rename_i m0 vs0 ht;cases hst:A3 m0
  ·rw[hst]at h;simp at h
  rw[hst]at h;simp only[cond_true,Vc,Vu]at h;obtain⟨rfl,rfl⟩:=h;exact Hr _ _ ht
 ·cases h
def Nm {A:Ab} {b v:Nat} {t t':Ty} {m:List Lf} {us:List Up} (h:Lu A b v t t'=some (m,us)):Ox (Ew t) m:=by
 unfold Lu at h;split at h
 ·rename_i n hd hp;obtain⟨hq,h⟩:=cs h;split at h
  ·rename_i l us0 hx;cases hst:A3 l
   ·rw[hst]at h;simp at h
   rw[hst]at h;simp only[cond_true,Vc,Vu]at h;obtain⟨rfl,rfl⟩:=h;exact Hr _ _ hx
  ·cases h
 ·cases h
def Iqa {P:Program} {S:Sit} {f:Nat→Lab}:∀ (t:Ty) (ts:List Ty) (l l':List Lf) (x:t.den) (j:Nat) (us:List Value),Ox (Ew t++ts) l→mkT t l=some (x,l')→A5 P S f j l us→A5 P S f j (A4 t x++l') us∧Ox ts l':=by
 intro t
 induction t with
 |pr p q ihp ihq=>
  intro ts l l' x j us h hm hl;simp only[Ew,Vj]at h;simp only[mkT]at hm;split at hm
  ·rename_i y l1 h1;split at hm
   ·rename_i z l2 h2;simp only[Vc,Vu]at hm;obtain⟨rfl,rfl⟩:=hm;obtain⟨h3,h4⟩:=ihp _ _ _ _ j us h h1 hl
    have key:∀ (a:List Lf) (j:Nat) (us:List Value),A5 P S f j (a++l1) us→A5 P S f j (a++(A4 q z++l2)) us∧Ox ts l2:=by
     intro a
     induction a with
     |nil=>intro j us h5;exact ihq _ _ _ _ j us h4 h2 h5
     |cons b a ih=>
      intro j us h5
      cases us with
      |nil=>exact h5.elim
      |cons u us=>exact⟨⟨h5.1,(ih (j+1) us h5.2).1⟩,(ih (j+1) us h5.2).2⟩
    have h5:=key _ j us h3;rw[← Vj]at h5;exact h5
   ·cases hm
  ·cases hm
 |ow e r _=>
  intro ts l l' x j us hf hm hl
  cases l with
  |nil=>simp[mkT]at hm
  |cons z l=>
   cases us with
   |nil=>exact hl.elim
   |cons u us=>
    cases z<;>first|(simp[mkT]at hm;done)|skip
    rename_i e' r' xs;simp only[mkT]at hm;rw[csi]at hm;obtain⟨hb,hm⟩:=hm;have he:e=e':=Vb hb;subst he;split at hm
    ·rename_i ys hys;simp only[Vc,Vu]at hm;obtain⟨rfl,rfl⟩:=hm;exact⟨⟨Cs.cast hys hl.1,hl.2⟩,hf⟩
    ·cases hm
 |sl e r _=>
  intro ts l l' x j us hf hm hl
  cases l with
  |nil=>simp[mkT]at hm
  |cons z l=>
   cases us with
   |nil=>exact hl.elim
   |cons u us=>
    obtain⟨hz,hf⟩:z.isOwn=false∧Ox ts l:=hf
    cases z<;>first|(simp[mkT]at hm;done)|(simp[Lf.isOwn]at hz;done)|skip
    rename_i e' r' xs;simp only[mkT]at hm;rw[csi]at hm;obtain⟨hb,hm⟩:=hm;have he:e=e':=Vb hb;subst he;split at hm
    ·rename_i ys hys;simp only[Vc,Vu]at hm;obtain⟨rfl,rfl⟩:=hm;exact⟨⟨Md hys hl.1,hl.2⟩,hf⟩
    ·cases hm
 |i k=>
  intro ts l l' x j us hf hm hl
  cases l with
  |nil=>simp[mkT]at hm
  |cons z l=>
   cases z<;>first|(simp[mkT]at hm;done)|skip
   rename_i v
   cases v<;>first|(simp[mkT]at hm;done)|skip
   rename_i k' n;simp only[mkT]at hm
   by_cases hk:k=k'
   ·subst hk;simp at hm;obtain⟨rfl,rfl⟩:=hm;exact⟨hl,hf.2⟩
   ·simp[hk]at hm
 |b=>
  intro ts l l' x j us hf hm hl
  cases l with
  |nil=>simp[mkT]at hm
  |cons z l=>
   cases z<;>first|(simp[mkT]at hm;done)|skip
   rename_i v
   cases v<;>first|(simp[mkT]at hm;done)|skip
   simp[mkT]at hm;obtain⟨rfl,rfl⟩:=hm;exact⟨hl,hf.2⟩
 |s=>
  intro ts l l' x j us hf hm hl
  cases l with
  |nil=>simp[mkT]at hm
  |cons z l=>
   cases z<;>first|(simp[mkT]at hm;done)|skip
   rename_i v
   cases v<;>first|(simp[mkT]at hm;done)|skip
   simp[mkT]at hm;obtain⟨rfl,rfl⟩:=hm;exact⟨hl,hf.2⟩
def I8 {P:Program} {S:Sit} {f:Nat→Lab} {t:Ty} {l:List Lf} {x:t.den} {j:Nat} {us:List Value} (hf:Ox (Ew t) l) (h:mkW t l=some x) (hl:A5 P S f j l us):A5 P S f j (A4 t x) us:=by
 unfold mkW at h;split at h
 ·rename_i y hy;cases h;have:=(Iqa t [] l [] _ j us (by rw[Yf];exact hf) hy hl).1;rwa [Yf]at this
 ·cases h
def O6a {Q:Nat→Lf→Value→Prop} (hqo:∀ j e r r' (xs:List (Ty.den r')) (ys:List (Ty.den r)) u,Li r r' xs=some ys→Q j (.own e r' xs) u→Q j (.own e r ys) u) (hqf:∀ j e r r' (xs:List (Ty.den r')) (ys:List (Ty.den r)) u,Ls r r' xs=some ys→Q j (.fz e r' xs) u→Q j (.fz e r ys) u):∀ (t:Ty) (ts:List Ty) (l l':List Lf) (x:t.den) (j:Nat) (us:List Value),Ox (Ew t++ts) l→mkT t l=some (x,l')→Sj Q j l us→Sj Q j (A4 t x++l') us∧Ox ts l':=by
 intro t
 induction t with
 |pr p q ihp ihq=>
  intro ts l l' x j us h hm hl;simp only[Ew,Vj]at h;simp only[mkT]at hm;split at hm
  ·rename_i y l1 h1;split at hm
   ·rename_i z l2 h2;simp only[Vc,Vu]at hm;obtain⟨rfl,rfl⟩:=hm;obtain⟨h3,h4⟩:=ihp _ _ _ _ j us h h1 hl
    have key:∀ (a:List Lf) (j:Nat) (us:List Value),Sj Q j (a++l1) us→Sj Q j (a++(A4 q z++l2)) us∧Ox ts l2:=by
     intro a
     induction a with
     |nil=>intro j us h5;exact ihq _ _ _ _ j us h4 h2 h5
     |cons b a ih=>
      intro j us h5
      cases us with
      |nil=>exact h5.elim
      |cons u us=>exact⟨⟨h5.1,(ih (j+1) us h5.2).1⟩,(ih (j+1) us h5.2).2⟩
    have h5:=key _ j us h3;rw[← Vj]at h5;exact h5
   ·cases hm
  ·cases hm
 |ow e r _=>
  intro ts l l' x j us hf hm hl
  cases l with
  |nil=>simp[mkT]at hm
  |cons z l=>
   cases us with
   |nil=>exact hl.elim
   |cons u us=>
    cases z<;>first|(simp[mkT]at hm;done)|skip
    rename_i e' r' xs;simp only[mkT]at hm;rw[csi]at hm;obtain⟨hb,hm⟩:=hm;have he:e=e':=Vb hb;subst he;split at hm
    ·rename_i ys hys;simp only[Vc,Vu]at hm;obtain⟨rfl,rfl⟩:=hm;exact⟨⟨hqo _ _ _ _ _ _ _ hys hl.1,hl.2⟩,hf⟩
    ·cases hm
 |sl e r _=>
  intro ts l l' x j us hf hm hl
  cases l with
  |nil=>simp[mkT]at hm
  |cons z l=>
   cases us with
   |nil=>exact hl.elim
   |cons u us=>
    obtain⟨hz,hf⟩:z.isOwn=false∧Ox ts l:=hf
    cases z<;>first|(simp[mkT]at hm;done)|(simp[Lf.isOwn]at hz;done)|skip
    rename_i e' r' xs;simp only[mkT]at hm;rw[csi]at hm;obtain⟨hb,hm⟩:=hm;have he:e=e':=Vb hb;subst he;split at hm
    ·rename_i ys hys;simp only[Vc,Vu]at hm;obtain⟨rfl,rfl⟩:=hm;exact⟨⟨hqf _ _ _ _ _ _ _ hys hl.1,hl.2⟩,hf⟩
    ·cases hm
 |i k=>
  intro ts l l' x j us hf hm hl
  cases l with
  |nil=>simp[mkT]at hm
  |cons z l=>
   cases z<;>first|(simp[mkT]at hm;done)|skip
   rename_i v
   cases v<;>first|(simp[mkT]at hm;done)|skip
   rename_i k' n;simp only[mkT]at hm
   by_cases hk:k=k'
   ·subst hk;simp at hm;obtain⟨rfl,rfl⟩:=hm;exact⟨hl,hf.2⟩
   ·simp[hk]at hm
 |b=>
  intro ts l l' x j us hf hm hl
  cases l with
  |nil=>simp[mkT]at hm
  |cons z l=>
   cases z<;>first|(simp[mkT]at hm;done)|skip
   rename_i v
   cases v<;>first|(simp[mkT]at hm;done)|skip
   simp[mkT]at hm;obtain⟨rfl,rfl⟩:=hm;exact⟨hl,hf.2⟩
 |s=>
  intro ts l l' x j us hf hm hl
  cases l with
  |nil=>simp[mkT]at hm
  |cons z l=>
   cases z<;>first|(simp[mkT]at hm;done)|skip
   rename_i v
   cases v<;>first|(simp[mkT]at hm;done)|skip
   simp[mkT]at hm;obtain⟨rfl,rfl⟩:=hm;exact⟨hl,hf.2⟩
def O7a {Q:Nat→Lf→Value→Prop} (hqo:∀ j e r r' (xs:List (Ty.den r')) (ys:List (Ty.den r)) u,Li r r' xs=some ys→Q j (.own e r' xs) u→Q j (.own e r ys) u) (hqf:∀ j e r r' (xs:List (Ty.den r')) (ys:List (Ty.den r)) u,Ls r r' xs=some ys→Q j (.fz e r' xs) u→Q j (.fz e r ys) u) {t:Ty} {l:List Lf} {x:t.den} {j:Nat} {us:List Value} (hf:Ox (Ew t) l) (h:mkW t l=some x) (hl:Sj Q j l us):Sj Q j (A4 t x) us:=by
 unfold mkW at h;split at h
 ·rename_i y hy;cases h;have:=(O6a hqo hqf t [] l [] _ j us (by rw[Yf];exact hf) hy hl).1;rwa [Yf]at this
 ·cases h
def Cma {r:Ty} (xs:List r.den):Ls r r xs=some xs:=by
 unfold Ls;rw[dif_pos rfl];rfl
def Cna {r:Ty} (xs:List r.den):Li r r xs=some xs:=by
 unfold Li;rw[dif_pos rfl]
def Nn:∀ (t:Ty) (x:t.den) (l:List Lf),mkT t (A4 t x++l)=some (x,l)
 |.i _,_,_=>by simp[A4,mkT]
 |.b,_,_=>by simp[A4,mkT]
 |.s,_,_=>by simp[A4,mkT]
 |.sl _ _,_,_=>by simp[A4,mkT,Cma]
 |.ow _ _,_,_=>by simp[A4,mkT,Cna]
 |.pr x y,p,l=>by
  show mkT (.pr x y) ((A4 x p.1++A4 y p.2)++l)=_;rw[Vj];simp only[mkT];rw[Nn x p.1];simp only;rw[Nn y p.2]
def Coa (t:Ty) (x:t.den):mkW t (A4 t x)=some x:=by
 unfold mkW;have:=Nn t x [];rw[Yf]at this;rw[this]
def Ps (S:Sit) (b:Nat×Nat):Value := .pointer (some ⟨(S.bb b.1).1,(S.bb b.1).2+0,none⟩)
def nmV (i:Nat):Nat:=10+2*i
def nmB (B:Nat):Nat:=11+2*B
def Lwa (P:Program) (S:Sit) (B:Nat) (t t':Ty) (l:List Lf) (u:Value) (bs:List (Nat×Nat)):Prop:=
 ∃ b,bs=[(b,B)]∧u = .pointer (some ⟨(S.bb b).1,(S.bb b).2,none⟩)∧(S.g (H b)).2 = .one (.hd t.sz)∧t'.sz=t.sz∧l.length=t.sz∧A3 l=true∧Ox (Ew t) l∧
  A5 P S (λ j => .tm (nmB B) [j]) 0 l ((List.range t.sz).map λ j=>S.ph (C b (0+j)))
def O8a (P:Program) (S:Sit) (cb hb:List (Nat×Nat)) (nv i:Nat):Par→List Lf→Value→List (Nat×Nat)→Prop
 |.io _ _,_,_,_=>False
 |.vw t h,l,u,bs=>bs=[]∧nv≤h∧l.length=t.sz∧Ox (Ew t) l∧∃ c vs,nth hb (h-nv)=some c∧(S.g (H c.1)).2 = .one (.hd t.sz)∧u = .agg vs.toArray∧Sj (Cia P S (λ j=>S.ph (C c.1 j))) 0 l vs
 |.val ag t,l,u,bs=>bs=[]∧A3 l=true∧Ox (Ew t) l∧∃ us,(if ag then u = .agg us.toArray else us=[u])∧A5 P S (λ n => .tm (nmV i) (if ag then [n] else [])) 0 l us
 |.ptr t t',l,u,bs=>Lwa P S (bid nv i) t t' l u bs
 |.hid t t',l,u,bs=>Lwa P S (bid nv i) t t' l u bs
 |.rd t,l,u,bs=>bs=[]∧∃ r x k o cs,l=lvs r x∧shp r=shp t∧Hh t=true∧u = .pointer (some ⟨k,o,none⟩)∧S.O k = .fz∧r.rep P (λ k=>S.O k = .fz) S.w x cs∧Ck S.w k o cs
 |.fn F m,_,u,bs=>bs=[]∧m=cb.length∧u = .func (.func F) #[] (cb.map (Ps S)).toArray
def Xq (P:Program) (S:Sit) (cb hb:List (Nat×Nat)) (nv:Nat):Nat→List Par→List (List Lf)→List Value→List (Nat×Nat)→Prop
 |_,[],[],[],bs=>bs=[]
 |i,p::ps,l::ls,u::us,bs=>∃ b1 b2,bs=b1++b2∧O8a P S cb hb nv i p l u b1∧Xq P S cb hb nv (i+1) ps ls us b2
 |_,_,_,_,_=>False
def F0a {nv i j:Nat} (hn:nv≤1000) (h:bid nv i=bid nv j):i=j:=by
 unfold bid at h
 cases h1:Nat.blt i nv<;>cases h2:Nat.blt j nv<;>rw[h1,h2]at h<;>simp only[cond_true,cond_false]at h
 ·have h3:¬ i<nv:=λ h'=>by rw[show Nat.blt i nv=true from Yn h']at h1;cases h1
  have h4:¬ j<nv:=λ h'=>by rw[show Nat.blt j nv=true from Yn h']at h2;cases h2
  omega
 ·have h4:j<nv:=Ve h2;omega
 ·have h4:i<nv:=Ve h1;omega
 ·exact h
section
variable {X:Cx} {S S1 S2:Sit} {a:Act} {E:En} {A:Ab} {o:Oper} {R:Type} {Kc:List Up→Option R} {r:R}
def exA (nv i:Nat):Nat→List Nat→Prop:=λ n _=>∃ j,i≤j∧(n=nmV j∨n=nmB (bid nv j))
def F1a {nv i j:Nat} (hn:nv≤1000) (h:j<i) (q:List Nat):¬ exA nv i (nmV j) q∧¬ exA nv i (nmB (bid nv j)) q:=by
 refine⟨λ ⟨k,h1,h2⟩=>?_,λ ⟨k,h1,h2⟩=>?_⟩
 ·unfold nmV nmB at h2;omega
 ·unfold nmV nmB at h2;rcases h2 with h2|h2
  ·omega
  ·have:bid nv j=bid nv k:=by omega
   have:=F0a hn this;omega
def Sj.imp {Q Q':Nat→Lf→Value→Prop} (h:∀ j x u,Q j x u→Q' j x u):∀ {l:List Lf} {j:Nat} {us:List Value},Sj Q j l us→Sj Q' j l us
 |[],_,[],_=>trivial
 |[],_,_::_,h'=>h'.elim
 |_::_,_,[],h'=>h'.elim
 |_::_,j,_::_,h'=>⟨h _ _ _ h'.1,Sj.imp h h'.2⟩
def Cia.later {P:Program} {S S':Sit} {w w':Nat→Value} {j:Nat} {x:Lf} {u:Value} (hw:w'=w) (hl:∀ x u,Hpa x=true→Af P S .fz x u→Af P S' .fz x u) (h:Cia P S w j x u):Cia P S' w' j x u:=by
 subst hw
 cases x<;>first|exact h|exact⟨h.1,hl _ _ h.1 h.2⟩
def O8a.stay {cb hb:List (Nat×Nat)} {nv i j:Nat} {p:Par} {l:List Lf} {u:Value} {bs:List (Nat×Nat)} (hn:nv≤1000) (h:Cr X S S1 (exA nv i)) (hj:j<i) (hp:O8a X.P S cb hb nv j p l u bs):O8a X.P S1 cb hb nv j p l u bs:=by
 have hfz:∀ k,S.O k = .fz→S1.O k = .fz:=λ k hk=>(h.later.fz k hk).1
 have box:∀ {t t':Ty},Lwa X.P S (bid nv j) t t' l u bs→Lwa X.P S1 (bid nv j) t t' l u bs:=by
  rintro t t' ⟨b,h1,h2,h3,h4,h5,h6,h7,h8⟩;refine⟨b,h1,by rw[h.bb];exact h2,by rw[h.heads b _ h3];exact h3,h4,h5,h6,h7,?_⟩;rw[h.ph];exact h8.imp (λ n x u hx=>h.tms _ _ _ _ (F1a hn hj _).2 hx)
 cases p with
 |io ag t=>exact hp.elim
 |vw t h0=>
  obtain⟨h1,h2,h3,h4,c,vs,h5,h6,h7,h8⟩:=hp;refine⟨h1,h2,h3,h4,c,vs,h5,by rw[h.heads c.1 _ h6];exact h6,h7,h8.imp (λ j x u hx=>hx.later (by rw[h.ph]) (λ x u hs hx=>?_))⟩;exact Af.later h.later hx (λ k hk=>⟨hfz k hk,by rw[h.w]⟩)
 |val ag t=>
  obtain⟨h1,h2,h3,us,h4,h5⟩:=hp;exact⟨h1,h2,h3,us,h4,h5.imp (λ n x u hx=>h.tms _ _ _ _ (F1a hn hj _).1 hx)⟩
 |ptr t t'=>exact box hp
 |hid t t'=>exact box hp
 |rd t=>
  obtain⟨h1,r',x,k,o',cs,h2,h3,h4,h5,h6,h7,h8⟩:=hp;exact⟨h1,r',x,k,o',cs,h2,h3,h4,h5,hfz k h6,Ty.rep_mono hfz (λ k _=>by rw[h.w]) r' x cs h7,h8.mono (by rw[h.w])⟩
 |fn F m=>
  obtain⟨h1,h2,h3⟩:=hp;refine⟨h1,h2,?_⟩
  have:Ps S1=Ps S:=by funext b;unfold Ps;rw[h.bb]
  rw[this];exact h3
def F2a:∀ {l m:List (Nat×Nat)},Kba l m=true→l=m
 |[],[],_=>rfl
 |[],_::_,h=>by simp[Kba]at h
 |_::_,[],h=>by simp[Kba]at h
 |(a1,a2)::l,(b1,b2)::m,h=>by
  simp only[Kba,Va]at h;have e1:a1=b1:=Vb h.1.1;have e2:a2=b2:=Vb h.1.2;rw[e1,e2,F2a h.2]
def Pt (hg:S.g=get A):∀ {bs:List (Nat×Nat)} {us:List Value},Pg S bs us→Ij A bs=true→us=bs.map (Ps S)
 |[],us,h,_=>h
 |c::bs,us,⟨u,us',e,⟨h1,h2⟩,h3⟩,ha=>by
  simp only[Ij,Va]at ha
  have e1:(S.g (H c.1)).1=c.2:=by rw[hg];exact Vb ha.1
  subst e;rw[Yd,Pt hg h3 ha.2,h2 e1];rfl
def Xr {ag:Bool} {s:Sv} (h:H5 ag s=true):∀ n,pth s n=if ag then [n] else []:=by
 intro n
 cases s with
 |tup vs=>simp[H5,Dja]at h
 |one z=>cases ag<;>simp[H5,Dja]at h ⊢;rfl
 |agg z=>cases ag<;>simp[H5,Dja]at h ⊢;rfl
def Ira {x:Operand} {b v off:Nat} {t:Ty} {m:List Lf} {us:List Up} (h:M8 A x (.one (.bp b v off)) t=some (m,us)):False:=by
 unfold M8 N7 at h;split at h
 ·rename_i m0 vs0 ht
  have hm:m0=[.bp b v off]∨False:=by
   have e1:parts (.one (.bp b v off))=[.bp b v off]:=rfl;rw[e1]at ht;generalize Ew t=ts at ht
   cases ts with
   |nil=>simp[D5]at ht
   |cons t ts=>
    cases ts with
    |cons t2 ts=>
     obtain⟨_,h2⟩:=Ia _ _ ht;simp at h2
    |nil=>
     cases t<;>first|(simp[D5,Qp,H9]at ht;done)|skip
     all_goals
      simp[D5,On,Hn,Iu]at ht;exact .inl ht.1.symm
  rcases hm with rfl|h0
  ·simp[A3]at h
  ·exact h0
 ·cases h
def Xt {A:Ab} {S:Sit} {X:Cx} {a:Act} (K:Ah X S a) (hg:S.g=get A) {b l0:Nat}:∀ (ts:List Ty) {j:Nat} {l m:List Lf} {us:List Value},X8 A b j ts l=some m→A5 X.P S (λ n => .pl l0 [n]) j l us→
  Ox ts m∧m.length=ts.length∧Sj (Cia X.P S (λ j=>S.ph (C b j))) j m us
 |[],j,[],m,us,h,hl=>by
  simp only[X8,Vc]at h;subst h
  cases us with
  |nil=>exact⟨trivial,rfl,trivial⟩
  |cons=>exact hl.elim
 |[],j,_::_,m,us,h,hl=>by simp[X8]at h
 |t::ts,j,[],m,us,h,hl=>by cases t<;>simp[X8]at h
 |t::ts,j,x::l,m,us,h,hl=>by
  cases us with
  |nil=>exact hl.elim
  |cons u us=>
   have share:∀ {m':List Lf},Hpa (H9 A x)=true→X8 A b (j+1) ts l=some m'→(∀ m'',Ox (t::ts) (H9 A x::m'')↔((H9 A x).isOwn=false∧Ox ts m''))→Ox (t::ts) (H9 A x::m')∧(H9 A x::m').length=(t::ts).length∧Sj (Cia X.P S (λ j=>S.ph (C b j))) j (H9 A x::m') (u::us):=by
    intro m' hs hr hf;obtain⟨h1,h2,h3⟩:=Xt K hg ts hr hl.2;obtain⟨lab',h4⟩:=Lv K hg hl.1
    refine⟨(hf m').2 ⟨by cases hx:H9 A x<;>rw[hx]at hs<;>first|rfl|simp[Hpa]at hs,h1⟩,by simp[h2],?_,h3⟩
    have h5:Af X.P S .fz (H9 A x) u:=by
     cases hx:H9 A x<;>rw[hx]at hs h4<;>first|exact Af.relab (lab' := .fz) rfl h4|simp[Hpa]at hs
    cases hx:H9 A x<;>rw[hx]at hs h5<;>first|exact⟨rfl,h5⟩|simp[Hpa]at hs
   cases t with
   |ow e r=>
    cases x<;>first|(simp[X8]at h;done)|skip
    rename_i p v;simp only[X8]at h;obtain⟨hq,h⟩:=cs h;simp only[Va]at hq;split at h
    ·rename_i y hy;split at h
     ·rename_i m' hr;cases h;obtain⟨h1,h2,h3⟩:=Xt K hg ts hr hl.2;have hal:Af X.P S (.pl l0 [j]) (.al p v) u:=hl.1;have hu:=hal.2 (by rw[hg];exact Vb hq.2)
      have hyo:∃ ys,y = .own e r ys:=by
       unfold Qp at hy;split at hy
       ·generalize Nat.beq e _=bb at hy;cases bb
        ·simp at hy
        rw[cond_true]at hy;split at hy
        ·simp only[Vc]at hy;exact⟨_,hy.symm⟩
        ·obtain⟨hno,hy⟩:=cs hy;split at hy
         ·simp only[Vc]at hy;exact⟨_,hy.symm⟩
         ·cases hy
       ·cases hy
      obtain⟨ys,rfl⟩:=hyo;refine⟨h1,by simp[h2],?_,h3⟩;show u=S.ph (C b j);rw[hu,Vb hq.1]
     ·cases h
    ·cases h
   |_=>
    simp only[X8]at h;obtain⟨hs,h⟩:=cs h;split at h
    ·rename_i m' hr;cases h;exact share hs hr (λ m''=>Sma)
    ·cases h
def Isa (hE:Gx X E) (K:Ah X S a) (hg:S.g=get A) {cb hb:List (Nat×Nat)} {nv i:Nat} {x:Operand} {s:Sv} {v:Value} {p:Par} {l:List Lf} {us:List Up} {bs:List Nat} (hx:(∃ T,opT E T A x=some s∧v=a.eval x)∨(∃ h:Nat×Nat,s = .one (.bp h.1 h.2 0)∧v=Ps S h)) (h:Oe A cb hb nv x p s=some (l,us,bs)):
  ∃ S1 bp,Ah X S1 a∧S1.g=get (ups A us)∧Cr X S S1 (exA nv i)∧bp.map Prod.fst=bs∧O8a X.P S1 cb hb nv i p l v bp:=by
 have box:∀ {t t':Ty} {b w:Nat},s = .one (.bp b w 0)→(match Lu A b w t t' with|some (m,us)=>some (m,us,[b])|none=>none)=some (l,us,bs)→∃ S1 bp,Ah X S1 a∧S1.g=get (ups A us)∧Cr X S S1 (exA nv i)∧bp.map Prod.fst=bs∧Lwa X.P S1 (bid nv i) t t' l v bp:=by
  intro t t' b w hs h;split at h
  ·rename_i m us' hgive;cases h;obtain⟨g1,g2,g3,g4,g5,S1,K1,g6,G,hl⟩:=Ou K hg hgive (nmB (bid nv i));refine⟨S1,[(b,bid nv i)],K1,g6,Cr.trans (λ n q h=>h) (λ n q h=>⟨i,Vq _,.inr h⟩) (Cr.refl S (exA nv i)) G,rfl,b,rfl,?_,by rw[G.heads b _ g2];exact g2,g3,g5,g4,Nm hgive,by rw[G.ph];exact hl⟩;rw[G.bb];rcases hx with⟨T,h1,rfl⟩|⟨h',h1,rfl⟩
   ·obtain⟨pl,h2⟩:=Fc hE K hg h1;rw[hs]at h2;have h3:Af X.P S (.pl pl []) (.bp b w 0) (a.eval x):=h2;exact h3.2 g1
   ·rw[hs]at h1;simp only[Sv.one.injEq,Lf.bp.injEq]at h1;unfold Ps;rw[← h1.1];rfl
  ·cases h
 unfold Oe at h;split at h
 ·rename_i t h0 ys;split at h
  ·rename_i c hc;split at h
   ·rename_i n m hp;obtain⟨hq,h⟩:=cs h;simp only[Va]at hq;split at h
    ·rename_i l0 hvw;cases h;rcases hx with⟨T,h1,rfl⟩|⟨h',h1,_⟩
     ·obtain⟨pl,h2⟩:=Fc hE K hg h1;obtain⟨vs,e1,e2⟩:∃ us:List Value,a.eval x = .agg us.toArray∧A5 X.P S (λ j => .pl pl [j]) 0 ys us:=h2;obtain⟨f1,f2,f3⟩:=Xt K hg _ hvw e2;exact⟨S,[],K,hg,Cr.refl S _,rfl,rfl,Ve hq.1.1,by rw[f2,Hd],f1,c,vs,hc,by rw[hg,hp,Vb hq.2],e1,f3⟩
     ·cases h1
    ·cases h
   ·cases h
  ·cases h
 ·rename_i ag t;obtain⟨hq,h⟩:=cs h;split at h
  ·rename_i m us' hgive;cases h;rcases hx with⟨T,h1,rfl⟩|⟨h',h1,_⟩
   ·obtain⟨S1,K1,g1,G,h2,_,vs,hsh,hl⟩:=Se hE K hg (.inl h1) (Sm hq) hgive (nmV i);have hp:=Xr hq;simp only[hp]at hl;exact⟨S1,[],K1,g1,Cr.trans (λ n q h=>h) (λ n q h=>⟨i,Vq _,.inl h⟩) (Cr.refl S (exA nv i)) G,rfl,rfl,h2,Nl hgive,vs,L7 hq hsh,hl⟩
   ·rw[h1]at hgive;exact(Ira hgive).elim
  ·cases h
 ·exact box rfl h
 ·exact box rfl h
 ·rename_i t r' y;cases hq:(decide (shp r'=shp t)&&Hh t)
  ·rw[hq]at h;simp at h
  rw[hq]at h;simp only[cond_true,Vc,Vu]at h;obtain⟨rfl,rfl,rfl⟩:=h;simp only[Va,decide_eq_true_eq]at hq;rcases hx with⟨T,h1,rfl⟩|⟨h',h1,_⟩
  ·obtain⟨pl,h2⟩:=Fc hE K hg h1;obtain⟨k,o',cs,e1,e2,e3,e4⟩:Af X.P S (.pl pl []) (.fp r' y 0) (a.eval x):=h2;exact⟨S,[],K,hg,Cr.refl S _,rfl,rfl,r',y,k,o',cs,rfl,hq.1,hq.2,e1,e2,e3,e4⟩
  ·cases h1
 ·rename_i F m F' bs';cases hq:(Nat.beq F F'&&Nat.beq m bs'.length&&Kba bs' cb&&Ij A bs')
  ·rw[hq]at h;simp at h
  rw[hq]at h;simp only[cond_true,Vc,Vu]at h;obtain⟨rfl,rfl,rfl⟩:=h;simp only[Va]at hq;obtain⟨⟨⟨q1,q2⟩,q3⟩,q4⟩:=hq;have e1:F=F':=Vb q1;have e2:m=bs'.length:=Vb q2;have e3:=F2a q3;subst e1 e3;rcases hx with⟨T,h1,rfl⟩|⟨h',h1,_⟩
  ·obtain⟨pl,h2⟩:=Fc hE K hg h1;obtain⟨us',e4,e5⟩:Af X.P S (.pl pl []) (.fn F bs') (a.eval x):=h2;have e6:=Pt hg e5 q4;subst e6;exact⟨S,[],K,hg,Cr.refl S _,rfl,rfl,e2,e4⟩
  ·cases h1
 ·cases h
def Uj (hE:Gx X E) {cb hb:List (Nat×Nat)} {nv:Nat} (hn:nv≤1000):∀ (ps:List Par) {xs:List (TypeId×Operand)} {hs:List (Nat×Nat)} {S:Sit} {A:Ab} {ls:List (List Lf)} {us:List Up} {bs:List Nat} (i:Nat),Ah X S a→S.g=get A→I4 E cb hb nv A xs hs ps=some (ls,us,bs)→
  ∃ S1 bp,Ah X S1 a∧S1.g=get (ups A us)∧Cr X S S1 (exA nv i)∧bp.map Prod.fst=bs∧Xq X.P S1 cb hb nv i ps ls (xs.map (λ x=>a.eval x.2)++hs.map (Ps S)) bp
 |[],xs,hs,S,A,ls,us,bs,i,K,hg,h=>by
  cases xs with
  |cons=>simp[I4]at h
  |nil=>
   cases hs with
   |cons=>simp[I4]at h
   |nil=>
    simp only[I4,Vc,Vu]at h;obtain⟨rfl,rfl,rfl⟩:=h;exact⟨S,[],K,hg,Cr.refl S _,rfl,rfl⟩
 |p::ps,xs,hs,S,A,ls,us,bs,i,K,hg,h=>by
  have go:∀ {x:Operand} {s:Sv} {v:Value} {xs':List (TypeId×Operand)} {hs':List (Nat×Nat)} {l:List Lf} {u:List Up} {b:List Nat} {ls1:List (List Lf)} {us1:List Up} {bs1:List Nat},((∃ T,opT E T A x=some s∧v=a.eval x)∨(∃ h:Nat×Nat,s = .one (.bp h.1 h.2 0)∧v=Ps S h))→Oe A cb hb nv x p s=some (l,u,b)→I4 E cb hb nv (ups A u) xs' hs' ps=some (ls1,us1,bs1)→
    ∃ S1 bp,Ah X S1 a∧S1.g=get (ups A (u++us1))∧Cr X S S1 (exA nv i)∧bp.map Prod.fst=b++bs1∧Xq X.P S1 cb hb nv i (p::ps) (l::ls1) (v::(xs'.map (λ x=>a.eval x.2)++hs'.map (Ps S))) bp:=by
   intro x s v xs' hs' l u b ls1 us1 bs1 hx h1 h2;obtain⟨S1,b1,K1,g1,G1,e1,p1⟩:=Isa (nv:=nv) (i:=i) hE K hg hx h1;obtain⟨S2,b2,K2,g2,G2,e2,p2⟩:=Uj hE hn ps (i+1) K1 g1 h2
   have hpv:Ps S1=Ps S:=by funext b;unfold Ps;rw[G1.bb]
   rw[hpv]at p2;exact⟨S2,b1++b2,K2,by rw[Ae];exact g2,Cr.trans (λ _ _ h=>h) (λ n q ⟨j,h1,h2⟩=>⟨j,by omega,h2⟩) G1 G2,by rw[Roa,e1,e2],b1,b2,rfl,p1.stay hn G2 (by omega),p2⟩
  cases xs with
  |cons x xs=>
   simp only[I4]at h;split at h
   ·rename_i s hs1;split at h
    ·rename_i l u b hb;split at h
     ·rename_i ls1 us1 bs1 hrec;cases h;exact go (.inl ⟨x.1,hs1,rfl⟩) hb hrec
     ·cases h
    ·cases h
   ·cases h
  |nil=>
   cases hs with
   |nil=>simp[I4]at h
   |cons h0 hs=>
    simp only[I4]at h;split at h
    ·rename_i l u b hb;split at h
     ·rename_i ls1 us1 bs1 hrec;cases h;exact go (xs':=[]) (.inr ⟨h0,rfl,rfl⟩) hb hrec
     ·cases h
    ·cases h
end
end

section
attribute [local irreducible] C H
def lkF:List (Nat×Nat)→Nat→Option Nat
 |[],_=>none
 |c::l,x=>if c.1=x then some c.2 else lkF l x
def lkS:List (Nat×Nat)→Nat→Option Nat
 |[],_=>none
 |c::l,x=>if c.2=x then some c.1 else lkS l x
def Xu:∀ {l:List (Nat×Nat)} {b B:Nat},lkF l b=some B→(b,B)∈l
 |[],_,_,h=>by simp[lkF]at h
 |c::l,b,B,h=>by
  simp only[lkF]at h;split at h
  ·rename_i e;simp only[Vc]at h;rw[← e,← h];exact Rxa
  ·exact Vd _ (Xu h)
def Awa:∀ {l:List (Nat×Nat)} {b B:Nat},(l.map Prod.fst).Nodup→(b,B)∈l→lkF l b=some B
 |[],_,_,_,h=>by simp at h
 |c::l,b,B,hn,h=>by
  rw[Yd,Yt]at hn;simp only[lkF];rcases Vk.1 h with rfl|h
  ·rw[if_pos rfl]
  ·rw[if_neg (λ e=>hn.1 (by rw[e];exact Yp h))];exact Awa hn.2 h
def Uk:∀ {l:List (Nat×Nat)} {b B:Nat},(l.map Prod.snd).Nodup→(b,B)∈l→lkS l B=some b
 |[],_,_,_,h=>by simp at h
 |c::l,b,B,hn,h=>by
  rw[Yd,Yt]at hn;simp only[lkS];rcases Vk.1 h with rfl|h
  ·rw[if_pos rfl]
  ·rw[if_neg (λ e=>hn.1 (by rw[e];exact Yp h))];exact Uk hn.2 h
def Lxa:∀ {l:List (Nat×Nat)} {b b' B:Nat},(l.map Prod.snd).Nodup→(b,B)∈l→(b',B)∈l→b=b':=λ hn h h'=>by
 have e1:=Uk hn h;rw[Uk hn h']at e1
 simpa using e1.symm
def Ul:∀ {l:List Nat},Tm l=true→l.Nodup
 |[],_=>by simp
 |b::l,h=>by
  simp only[Tm,Va,Wi,List.any_eq_false]at h;rw[Yt];exact⟨λ hb=>h.1 b hb (by rw[Rwa]),Ul h.2⟩
def Iw (S:Sit) (L:List (Nat×Nat)):Nat→Lab:=λ k=>match S.O k with
 |.fz => .fz
 |.tm n q=>if n<10 then .no else if n % 2=0 then .pl ((n-10)/2) q else (match q with
  |[j] => .pl (C ((n-11)/2) j) []
  |_ => .no)
 |.bx b=>(match lkF L b with
  |some B=>if k=(S.bb b).1 then .bx B else .no
  |none => .no)
 |_ => .no
def Ita (S:Sit) (L:List (Nat×Nat)):Nat→Nat×Nat:=λ B=>match lkS L B with
 |some b=>((S.bb b).2,match (S.g (H b)).2 with | .one (.hd n)=>n|_=>0)
 |none=>(0,0)
def Lya:Lab→Bool
 |.tm _ _=>true
 |_=>false
def nmO:Lab→Lab
 |.fz => .fz
 |.tm n q => .tm n q
 |.no => .no
 |_ => .tm 99999 []
def Tf (S:Sit) (O':Nat→Lab):Nat→Lab:=λ k=>if k<S.w.heap.size∧Lya (S.O k)=false then S.O k else nmO (O' k)
section
variable {X:Cx} {S S1 S2:Sit} {a:Act} {E:En} {A:Ab} {o:Oper} {R:Type} {Kc:List Up→Option R} {r:R}
def Ig {S:Sit} {L:List (Nat×Nat)} {k:Nat} (h:S.O k = .fz):Iw S L k = .fz:=by simp[Iw,h]
def F3a {S:Sit} {L:List (Nat×Nat)} {k b B:Nat} (h:S.O k = .bx b) (hl:lkF L b=some B) (hk:k=(S.bb b).1):Iw S L k = .bx B:=by
 unfold Iw;rw[h];simp[hl,← hk]
def Kla {S:Sit} {L:List (Nat×Nat)} {k i:Nat} {q:List Nat} (h:S.O k = .tm (nmV i) q):Iw S L k = .pl i q:=by
 unfold Iw nmV at *;rw[h];simp only;rw[if_neg (by omega),if_pos (by omega),show (10+2*i-10)/2=i by omega]
def Kma {S:Sit} {L:List (Nat×Nat)} {k B j:Nat} (h:S.O k = .tm (nmB B) [j]):Iw S L k = .pl (C B j) []:=by
 unfold Iw nmB at *;rw[h];simp only;rw[if_neg (by omega),if_neg (by omega),show (11+2*B-11)/2=B by omega]
def Fx:∀ {m:List Lf},A3 m=true→∀ y∈m,Ef y=true
 |[],_=>by simp
 |x::m,h=>by
  intro y hy;obtain⟨h1,h2⟩:=Jj h;rcases Vk.1 hy with rfl|hy
  ·rcases h2 with⟨_,rfl⟩|⟨_,_,_,rfl⟩|⟨_,_,_,rfl⟩<;>rfl
  ·exact Fx h1 y hy
def Lo:∀ l:List Lf,(∀ y∈l,Ef y=true)→A3 l=true
 |[],_=>rfl
 |x::l,h=>by
  have h1:=h x (by simp);have h2:=Lo l (λ y hy=>h y (Vd _ hy))
  cases x<;>first|(simp[Ef]at h1;done)|simpa[A3] using h2
def Sn {P:Program} {S:Sit} {cb:List (Nat×Nat)} {nv:Nat} (hn:nv≤1000):∀ (ps:List Par) {i:Nat} {ls:List (List Lf)} {us:List Value} {bp:List (Nat×Nat)},Xq P S cb cb nv i ps ls us bp→
  (∀ c∈bp,∃ j,i≤j∧j<i+ps.length∧c.2=bid nv j)∧(bp.map Prod.snd).Nodup∧(∀ c∈bp,∃ n,(S.g (H c.1)).2 = .one (.hd n))∧us.length=ps.length
 |[],i,[],[],bp,h=>by
  have:bp=[]:=h;subst this;exact⟨by simp,by simp,by simp,rfl⟩
 |[],i,_::_,_,_,h=>h.elim
 |[],i,[],_::_,_,h=>h.elim
 |p::ps,i,[],_,_,h=>h.elim
 |p::ps,i,_::_,[],_,h=>h.elim
 |p::ps,i,l::ls,u::us,bp,h=>by
  obtain⟨b1,b2,rfl,h1,h2⟩:=h;obtain⟨i1,i2,i3,i4⟩:=Sn hn ps h2
  have h3:b1=[]∨∃ b,b1=[(b,bid nv i)]∧∃ n,(S.g (H b)).2 = .one (.hd n):=by
   cases p with
   |io ag t=>exact h1.elim
   |val ag t=>exact .inl h1.1
   |vw t h0=>exact .inl h1.1
   |rd t=>exact .inl h1.1
   |fn F m=>exact .inl h1.1
   |ptr t t'=>obtain⟨b,e,_,h4,_⟩:=h1;exact .inr ⟨b,e,_,h4⟩
   |hid t t'=>obtain⟨b,e,_,h4,_⟩:=h1;exact .inr ⟨b,e,_,h4⟩
  have i1':∀ c∈b2,∃ j,i≤j∧j<i+(p::ps).length∧c.2=bid nv j:=λ c hc=>by
   obtain⟨j,j1,j2,j3⟩:=i1 c hc;exact⟨j,by omega,by simp only[Vg];omega,j3⟩
  rcases h3 with rfl|⟨b,rfl,n,hb⟩
  ·exact⟨i1',i2,i3,by simp[i4]⟩
  ·refine⟨λ c hc=>?_,?_,λ c hc=>?_,by simp[i4]⟩
   ·rcases Vk.1 hc with rfl|hc
    ·exact⟨i,Vq _,by simp only[Vg];omega,rfl⟩
    ·exact i1' c hc
   ·rw[Yb,Yd,Yt];refine⟨λ hm=>?_,i2⟩;obtain⟨c,hc,e⟩:=Za.1 hm;obtain⟨j,j1,j2,j3⟩:=i1 c hc;rw[j3]at e;have:=F0a hn e;omega
   ·rcases Vk.1 hc with rfl|hc
    ·exact⟨n,hb⟩
    ·exact i3 c hc
def F4a (K:Ah X S a) {cb L:List (Nat×Nat)} {nv:Nat} (hn1:(L.map Prod.fst).Nodup) (hn2:(L.map Prod.snd).Nodup):∀ (ps:List Par) {i:Nat} {ls ls':List (List Lf)} {us:List Value} {bp:List (Nat×Nat)},Xq X.P S cb cb nv i ps ls us bp→Mk (ps.map Par.ty) ls ls'→(∀ c∈bp,c∈L)→Hk nv i ps=true→
  Ip X.P (bare (Iw S L) S.w) (Ita S L) nv (cb.map (Ps S)) i ps ls' us
 |[],i,[],[],[],bp,_,_,_,_=>trivial
 |[],i,[],_::_,_,bp,_,hm,_,_=>hm.elim
 |[],i,_::_,_,_,bp,h,_,_,_=>h.elim
 |[],i,[],[],_::_,bp,h,_,_,_=>h.elim
 |p::ps,i,[],_,_,bp,h,_,_,_=>h.elim
 |p::ps,i,_::_,_,[],bp,h,_,_,_=>h.elim
 |p::ps,i,l::ls,[],_::_,bp,_,hm,_,_=>hm.elim
 |p::ps,i,l::ls,l'::ls',u::us,bp,h,hm,hb,hp=>by
  obtain⟨b1,b2,rfl,h1,h2⟩:=h;obtain⟨⟨y,hy,rfl⟩,hm2⟩:=hm
  have hp2:Hk nv (i+1) ps=true:=by cases p<;>simp only[Hk,Va]at hp<;>exact hp.2
  refine⟨?_,F4a K hn1 hn2 ps h2 hm2 (λ b hb'=>hb b (Vi _ hb')) hp2⟩
  have box:∀ {t t':Ty} {y:t.den},mkW t l=some y→Lwa X.P S (bid nv i) t t' l u b1→R6 X.P (bare (Iw S L) S.w) (Ita S L) (bid nv i) t (A4 t y) u:=by
   rintro t t' y hy ⟨b,e1,e2,e3,e4,e5,e6,e7,e8⟩;have hL:(b,bid nv i)∈L:=hb _ (by rw[e1];simp);obtain⟨g1,c,e,g2,g3,g4,g5⟩:=K.box b _ e3;refine⟨(S.bb b).1,(S.bb b).2,c,e,(List.range t.sz).map (λ j=>S.ph (C b (0+j))),e2,g2,?_,?_,g4,g1,Ev t y,λ j hj=>?_,?_⟩
   ·exact F3a g3 (Awa hn1 hL) rfl
   ·show Ita S L _=_;unfold Ita;rw[Uk hn2 hL];simp only[e3]
   ·rw[g5 j hj];simp[hj]
   ·have h3:A5 X.P (bare (Iw S L) S.w) (λ j => .pl (C (bid nv i) j) []) 0 l ((List.range t.sz).map λ j=>S.ph (C b (0+j))):=
     A5.impS (S1:=S) (Fx e6) (λ n x u hx h=>Af.bare (S1:=S) (S2:=bare (Iw S L) S.w) (lab := .tm (nmB (bid nv i)) [n]) hx rfl (λ k hk=>Ig hk) (λ k hk=>Kma hk) h) e8
    exact I8 e7 hy h3
  cases p with
  |io ag t=>exact h1.elim
  |vw t h0=>
   obtain⟨_,e1,e2,e3,c,vs,e4,e5,e6,e7⟩:=h1;obtain⟨g1,cc,e,g2,g3,g4,g5⟩:=K.box c.1 _ e5;refine⟨e1,vs,(S.bb c.1).1,(S.bb c.1).2,cc,e,e6,?_,g2,g1,Ev t y,?_⟩
   ·rw[Fy]at e4;rw[S6a,e4];rfl
   ·have hcell:∀ j,j<t.sz→cc.getD ((S.bb c.1).2+j) undef=S.ph (C c.1 j):=λ j hj=>by
     have:=g5 j hj;simp[Wk,this]
    have h2:=O7a (Q:=λ j x u=>j<t.sz→Cia X.P S (λ j=>S.ph (C c.1 j)) j x u) ?_ ?_ e3 hy (j:=0) (us:=vs) (Sj.imp (Q:=Cia X.P S (λ j=>S.ph (C c.1 j))) (Q':=λ j x u=>j<t.sz→Cia X.P S (λ j=>S.ph (C c.1 j)) j x u) (λ j x u h _=>h) e7)
    ·have key:∀ (l:List Lf) (j:Nat) (us:List Value),j+l.length≤t.sz→Sj (λ j x u=>j<t.sz→Cia X.P S (λ j=>S.ph (C c.1 j)) j x u) j l us→Sj (Cia X.P (bare (Iw S L) S.w) (λ j=>cc.getD ((S.bb c.1).2+j) undef)) j l us:=by
      intro l
      induction l with
      |nil=>intro j us _ h;cases us<;>first|trivial|exact h.elim
      |cons x l ih=>
       intro j us hj h;simp only[Vg]at hj
       cases us with
       |nil=>exact h.elim
       |cons u us=>
        refine⟨?_,ih (j+1) us (by omega) h.2⟩;have h3:=h.1 (by omega)
        cases x<;>first|(show u=cc.getD ((S.bb c.1).2+j) undef;rw[hcell j (by omega)];exact h3)|(refine⟨h3.1,?_⟩;have h4:=h3.1;simp[Hpa]at h4;done)|skip
        ·exact⟨rfl,Af.bare (S1:=S) (S2:=bare (Iw S L) S.w) rfl rfl (λ k hk=>Ig hk) (λ k hk=>Ig hk) h3.2⟩
        ·exact⟨rfl,Af.bare (S1:=S) (S2:=bare (Iw S L) S.w) rfl rfl (λ k hk=>Ig hk) (λ k hk=>Ig hk) h3.2⟩
     exact key _ _ _ (by rw[Ev];show 0+t.sz≤t.sz;omega) h2
    ·intro j e r r' xs ys u _ h hj;exact h hj
    ·intro j e r r' xs ys u hc h hj;exact⟨rfl,Md hc (h hj).2⟩
  |val ag t=>
   obtain⟨_,e2,e3,vs,e4,e5⟩:=h1;refine⟨vs,e4,I8 e3 hy ?_⟩;exact A5.impS (S1:=S) (Fx e2) (λ n x u hx h=>Af.bare (S1:=S) (S2:=bare (Iw S L) S.w) hx rfl (λ k hk=>Ig hk) (λ k hk=>Kla hk) h) e5
  |ptr t t'=>
   simp only[Hk,Va]at hp;exact⟨Ve hp.1,box hy h1⟩
  |hid t t'=>
   simp only[Hk,Va]at hp;exact⟨Ve hp.1,box hy h1⟩
  |rd t=>
   obtain⟨_,r',x,k,o',cs,rfl,e3,e4,e5,e6,e7,e8⟩:=h1;have h3:=Pf hy (Jf r' x cs e7);exact⟨y,k,o',cs,Coa t y,e5,Ig e6,Ty.rep_mono (λ k hk=>Ig hk) (λ _ _=>rfl) t y cs h3,e8⟩
  |fn F m=>
   obtain⟨_,e2,e3⟩:=h1;exact⟨e3,by rw[Yk,e2]⟩
def O9a (K:Ah X S a) {cb L:List (Nat×Nat)} {nv:Nat} (hn:nv≤1000) {ps:List Par} {ls:List (List Lf)} {us:List Value} (h:Xq X.P S cb cb nv 0 ps ls us L):
  ∀ k b,Iw S L k = .bx b→O3a nv ps.length b∧(∃ c e f,S.w.heap[k]? = some (.cells c e f))∧∀ k',Iw S L k' = .bx b→k'=k:=by
 obtain⟨i1,i2,i3,_⟩:=Sn hn ps h
 have key:∀ k B,Iw S L k = .bx B→∃ b,(b,B)∈L∧k=(S.bb b).1:=by
  intro k B hk;unfold Iw at hk;split at hk
  ·cases hk
  ·split at hk
   ·cases hk
   ·split at hk
    ·cases hk
    ·split at hk<;>cases hk
  ·split at hk
   ·rename_i b heq _ B' hl;split at hk
    ·rename_i hkb;cases hk;exact⟨b,Xu hl,hkb⟩
    ·cases hk
   ·cases hk
  ·cases hk
 intro k B hk;obtain⟨b,hb,hkb⟩:=key k B hk;obtain⟨n,hh⟩:=i3 _ hb;obtain⟨_,c,e,g2,_⟩:=K.box b n hh;obtain⟨j,_,j2,j3⟩:=i1 _ hb;refine⟨⟨j,by omega,j3⟩,⟨c,e,(0,0),by rw[hkb];exact g2⟩,λ k' hk'=>?_⟩;obtain⟨b',hb',hkb'⟩:=key k' B hk';rw[hkb,hkb',Lxa i2 hb hb']
def Ra {S:Sit} {L:List (Nat×Nat)} {rg:Nat→Nat×Nat} {O':Nat→Lab} {w':World} (hF:Fr (Iw S L) S.w rg O' w'):
  (∀ k,k<S.w.heap.size→Lya (S.O k)=false→Tf S O' k=S.O k∧((∀ c∈L,k≠(S.bb c.1).1)→w'.heap[k]? = S.w.heap[k]?))∧
  (∀ k,O' k = .fz→Tf S O' k = .fz)∧(∀ k n q,O' k = .tm n q→Tf S O' k = .tm n q):=by
 have cases3:∀ k,k<S.w.heap.size→Lya (S.O k)=false→(O' k = .fz∧S.O k = .fz∧w'.heap[k]? = S.w.heap[k]?)∨(O' k = .no∧w'.heap[k]? = S.w.heap[k]?)∨(∃ c∈L,O' k = .bx c.2∧k=(S.bb c.1).1):=by
  intro k hk ht;have no:Iw S L k = .no→(O' k = .no∧w'.heap[k]? = S.w.heap[k]?):=λ h=>hF.no k hk h
  cases hO:S.O k with
  |fz=>
   have:=hF.fz k hk (Ig hO);exact .inl ⟨this.1,rfl,this.2⟩
  |no=>exact .inr (.inl (no (by simp[Iw,hO])))
  |pl l p=>exact .inr (.inl (no (by simp[Iw,hO])))
  |tm n q=>rw[hO]at ht;simp[Lya]at ht
  |bx b=>
   cases hl:lkF L b with
   |none=>exact .inr (.inl (no (by simp[Iw,hO,hl])))
   |some B=>
    by_cases hb:k=(S.bb b).1
    ·have h2:Iw S L k = .bx B:=by
      unfold Iw;rw[hO];simp only;rw[hl];exact if_pos hb
     exact .inr (.inr ⟨(b,B),Xu hl,(hF.bx k B hk h2).1,hb⟩)
    ·refine .inr (.inl (no ?_));unfold Iw;rw[hO];simp only;rw[hl];exact if_neg hb
 refine⟨λ k hk ht=>⟨by unfold Tf;rw[if_pos ⟨hk,ht⟩],λ hnb=>?_⟩,λ k hk=>?_,λ k n q hk=>?_⟩
 ·rcases cases3 k hk ht with h|h|⟨c,h1,_,h2⟩
  ·exact h.2.2
  ·exact h.2
  ·exact absurd h2 (hnb c h1)
 ·unfold Tf;split
  ·rename_i hc;rcases cases3 k hc.1 hc.2 with h|h|⟨c,_,h,_⟩
   ·exact h.2.1
   ·rw[hk]at h;cases h.1
   ·rw[hk]at h;cases h
  ·rw[hk];rfl
 ·unfold Tf;split
  ·rename_i hc;rcases cases3 k hc.1 hc.2 with h|h|⟨c,_,h,_⟩
   ·rw[hk]at h;cases h.1
   ·rw[hk]at h;cases h.1
   ·rw[hk]at h;cases h
  ·rw[hk];rfl
def Oaa (w w':World) (hsz:w.heap.size≤w'.heap.size):∀ ks:List Nat,∃ w1:World,w1 = { w' with heap:=w1.heap }∧w1.heap.size=w'.heap.size∧(∀ k∈ks,k<w.heap.size→w1.heap[k]? = w.heap[k]?)∧∀ k,k∉ks→w1.heap[k]? = w'.heap[k]?
 |[]=>⟨w',rfl,rfl,by simp,λ _ _=>rfl⟩
 |k0::ks=>by
  obtain⟨w1,h1,h2,h3,h4⟩:=Oaa w w' hsz ks
  by_cases hk:k0<w.heap.size
  ·refine⟨{ w' with heap:=w1.heap.setIfInBounds k0 w.heap[k0] },rfl,by simp[h2],λ k hm hkl=>?_,λ k hm=>?_⟩
   ·show (w1.heap.setIfInBounds k0 w.heap[k0])[k]? = _
    by_cases e:k=k0
    ·subst e;rw[Array.getElem?_setIfInBounds_self,if_pos (by omega),Zs hk]
    ·rw[Rha (S5a e)];exact h3 k ((Vk.1 hm).resolve_left e) hkl
   ·show (w1.heap.setIfInBounds k0 w.heap[k0])[k]? = _;rw[Rha (λ e=>hm (by rw[e];exact Rxa))];exact h4 k (λ h=>hm (Vd _ h))
  ·refine⟨w1,h1,h2,λ k hm hkl=>?_,λ k hm=>h4 k (λ h=>hm (Vd _ h))⟩;rcases Vk.1 hm with rfl|hm
   ·exact absurd hkl hk
   ·exact h3 k hm hkl
structure Bk where
 b:Nat
 n:Nat
 l:List Lf
 us:List Value
def Bk.Ok (P:Program) (S:Sit) (w':World) (d:Bk):Prop:=
 ∃ c c' e,(S.g (H d.b)).2 = .one (.hd d.l.length)∧S.w.heap[(S.bb d.b).1]? = some (.cells c e (0,0))∧w'.heap[(S.bb d.b).1]? = some (.cells c' e (0,0))∧c'.size=c.size∧
  (∀ i,(i<(S.bb d.b).2∨(S.bb d.b).2+d.l.length≤i)→c'[i]? = c[i]?)∧(∀ j,j<d.l.length→c'[(S.bb d.b).2+j]? = d.us[j]?)∧A3 d.l=true∧A5 P S (λ j => .tm d.n [j]) 0 d.l d.us
def Axa {w':World}:∀ (D:List Bk) {S:Sit} {A:Ab},Ah X S a→S.g=get A→(∀ d∈D,d.Ok X.P S w')→(D.map Bk.b).Nodup→(D.map Bk.n).Nodup→(∀ d∈D,1001≤d.n∧d.n<5000)→(∀ k,(∀ d∈D,k≠(S.bb d.b).1)→w'.heap[k]? = S.w.heap[k]?)→S.w = { w' with heap:=S.w.heap }→
  ∃ S',Ah X S' a∧S'.g=get (ups A (D.flatMap λ d=>Bo d.b 0 d.l))∧S'.w=w'∧(∀ k,S.O k = .fz→S'.O k = .fz)∧(∀ n q k,0<n→n<1001→S.O k = .tm n q→S'.O k = .tm n q)∧(∀ n q x u,0<n→n<1001→Ef x=true→Af X.P S (.tm n q) x u→Af X.P S' (.tm n q) x u)
 |[],S,A,K,hg,_,_,_,_,hh,hw=>by
  have e1:w'.heap=S.w.heap:=Array.ext_getElem? λ k=>hh k (by simp);refine⟨S,K,hg,?_,λ _ h=>h,λ _ _ _ _ _ h=>h,λ _ _ _ _ _ _ _ h=>h⟩;rw[hw,← e1]
 |d::D,S,A,K,hg,hD,hb,hn,hr,hh,hw=>by
  obtain⟨c,c',e,d1,d2,d3,d4,d5,d6,d7,d8⟩:=hD d (by simp);rw[Yd,Yt]at hb hn;obtain⟨r1,r2⟩:=hr d (by simp)
  let hh0:Nat→List Nat→Option Lab:=λ n q=>if n=d.n then some (.tm 0 q) else if n=0 then some (.tm 99998 q) else none
  obtain⟨K1,L1⟩:=K.names hh0 (by
   intro n q;simp only[hh0];split
   ·simp
   ·split<;>simp)
  have keep1:∀ n q k,n≠d.n→n≠0→S.O k = .tm n q→atO S.O hh0 k = .tm n q:=λ n q k h1 h2 hk=>I6 hk (by simp[hh0,h1,h2]);have hl0:A5 X.P { S with O:=atO S.O hh0 } (λ j => .tm 0 [j]) 0 d.l d.us:=d8.imp (λ j x u hx=>hx.later L1 (λ k hk=>⟨G6 hk (by simp[hh0]),rfl⟩));have hul:=d8.len;obtain⟨hn9,c0,e0,b1,b2,b3,b4⟩:=K.box d.b d.l.length d1;rw[d2]at b1;cases b1;obtain⟨K2,L2⟩:=K1.cells (b:=d.b) (n:=d.l.length) (off:=0) (q:=λ j=>[j]) d1 (by omega) d2 hl0 (λ j hj=>rfl) (I7 d7);generalize hwS:({ S with O:=atO S.O hh0 }:Sit).w.setRow (({ S with O:=atO S.O hh0 }:Sit).bb d.b).1 (c.toList.take ((({ S with O:=atO S.O hh0 }:Sit).bb d.b).2+0)++d.us++c.toList.drop ((({ S with O:=atO S.O hh0 }:Sit).bb d.b).2+0+d.us.length)).toArray=w2 at K2 L2;have hwS':S.w.setRow (S.bb d.b).1 (c.toList.take ((S.bb d.b).2+0)++d.us++c.toList.drop ((S.bb d.b).2+0+d.us.length)).toArray=w2:=hwS
  have harr:(c.toList.take ((S.bb d.b).2+0)++d.us++c.toList.drop ((S.bb d.b).2+0+d.us.length)).toArray=c':=by
   refine Array.ext_getElem? λ j=>?_;have hct:c.toList.length=c.size:=Yi
   have ht:(c.toList.take ((S.bb d.b).2+0)).length=(S.bb d.b).2:=by rw[Vl,hct];omega
   rw[Saa];have hcj:∀ i,c.toList[i]? = c[i]? := λ i=>Yv
   by_cases h1:j<(S.bb d.b).2
   ·rw[Vj,Yg (by omega),Wg,if_pos (by omega),hcj];exact(d5 j (.inl h1)).symm
   ·by_cases h2:j<(S.bb d.b).2+d.l.length
    ·rw[Yg (by rw[Vh,ht];omega),Ye (by omega),ht];have:=d6 (j-(S.bb d.b).2) (by omega);rw[show (S.bb d.b).2+(j-(S.bb d.b).2)=j by omega]at this;exact this.symm
    ·rw[Ye (by rw[Vh,ht];omega),Vh,ht,Ya,hcj,hul];rw[show (S.bb d.b).2+0+d.l.length+(j-((S.bb d.b).2+d.l.length))=j by omega];exact(d5 j (.inr (by omega))).symm
  have hw2k:w2.heap[(S.bb d.b).1]? = w'.heap[(S.bb d.b).1]?:=by
   rw[← hwS',setRow_heap _ _ _ _ _ _ d2,harr,d3]
  have hw2o:∀ k,k≠(S.bb d.b).1→w2.heap[k]? = S.w.heap[k]? := λ k hk=>by rw[← hwS'];exact setRow_other _ _ _ _ hk
  have keep2:∀ n q k,n≠d.n→n≠0→S.O k = .tm n q→(Sc { S with O:=atO S.O hh0 } (Ql d.b 0) d.b 0 d.l d.us w2).O k = .tm n q:=λ n q k h1 h2 hk=>
   I6 (h:=Ql d.b 0) (keep1 n q k h1 h2 hk) (by simp[Ql,h2])
  have hdist:∀ d'∈D,d'.b≠d.b∧d'.n≠d.n:=λ d' hd'=>⟨λ e=>hb.1 (by rw[← e];exact Yp hd'),λ e=>hn.1 (by rw[← e];exact Yp hd')⟩
  have hblk:∀ d'∈D,(S.bb d'.b).1≠(S.bb d.b).1:=λ d' hd' e1=>by
   obtain⟨c1,c1',e2,x1,_⟩:=hD d' (Vd _ hd');obtain⟨_,_,_,_,y2,_⟩:=K.box d'.b _ x1;rw[e1,b2]at y2;simp only[Vc,Lab.bx.injEq]at y2;exact(hdist d' hd').1 y2.symm
  have hsame:∀ n q x u,n≠d.n→n≠0→Ef x=true→Af X.P S (.tm n q) x u→Af X.P (Sc { S with O:=atO S.O hh0 } (Ql d.b 0) d.b 0 d.l d.us w2) (.tm n q) x u:=λ n q x u h1 h2 _ hx=>
   (hx.later L1 (lab' := .tm n q) (λ k hk=>⟨keep1 n q k h1 h2 hk,rfl⟩)).later L2 (λ k hk=>by
    have hk':atO S.O hh0 k = .tm n q:=hk;refine⟨I6 (h:=Ql d.b 0) hk' (by simp[Ql,h2]),hw2o k (λ e1=>?_)⟩;rw[e1]at hk';rw[Am b2 (by simp)]at hk'
    cases hk')
  obtain⟨S3,K3,g3,w3,o3,t3,s3⟩:=Axa D (A:=ups A (Bo d.b 0 d.l)) K2 (by
   show Ji S.g d.b 0 d.l=_
   rw[Gz,← hg]) (λ d' hd'=>by
   obtain⟨c1,c1',e2,x1,x2,x3,x4,x5,x6,x7,x8⟩:=hD d' (Vd _ hd');obtain⟨z1,z2⟩:=hr d' (Vd _ hd');refine⟨c1,c1',e2,?_,(hw2o _ (hblk d' hd')).trans x2,x3,x4,x5,x6,x7,?_⟩
   ·show (Ji S.g d.b 0 d.l (H d'.b)).2=_;unfold Ji;rw[if_neg (E9 (by omega))];exact x1
   ·exact A5.impS (Fx x7) (λ n x u hx h=>hsame _ _ x u (hdist d' hd').2 (by omega) hx h) x8) hb.2 hn.2 (λ d' hd'=>hr d' (Vd _ hd')) (λ k hk=>by
   by_cases h1:k=(S.bb d.b).1
   ·rw[h1];exact hw2k.symm
   ·show w'.heap[k]? = w2.heap[k]?;rw[hw2o k h1]
    exact hh k (λ d' hd'=>by
     rcases Vk.1 hd' with rfl|hd'
     ·exact h1
     ·exact hk d' hd')) (by
   have h5:w2 = { S.w with heap:=w2.heap }:=by rw[← hwS'];rfl
   have h6:({ S.w with heap:=w2.heap }:World) = { w' with heap:=w2.heap }:=by rw[hw]
   exact h5.trans h6)
  refine⟨S3,K3,?_,w3,λ k hk=>o3 k (Am (h:=Ql d.b 0) (Am hk (by simp)) (by simp)),λ n q k h1 h2 hk=>t3 n q k h1 h2 (keep2 n q k (by omega) (by omega) hk),λ n q x u h1 h2 hx h=>s3 n q x u h1 h2 hx (hsame n q x u (by omega) (by omega) hx h)⟩;rw[g3,List.flatMap_cons,Ae]
def So {P:Program} {S Sb:Sit} {cb:List (Nat×Nat)} {nv:Nat}:∀ (ps:List Par) {i:Nat} {ls lb:List (List Lf)} {us:List Value} {bp:List (Nat×Nat)} {ws:List Up},Xq P S cb cb nv i ps ls us bp→Ie P Sb i ps us lb→(∀ l∈lb,∀ y∈l,Ef y=true)→C8a (bp.map Prod.fst) lb=some ws→
  ∃ D:List Bk,D.map Bk.b=bp.map Prod.fst∧ws=D.flatMap (λ d=>Bo d.b 0 d.l)∧(D.map Bk.n).Nodup∧
   ∀ d∈D,∃ j B t c e,i≤j∧j<i+ps.length∧d.n=1001+j∧(d.b,B)∈bp∧(S.g (H d.b)).2 = .one (.hd t)∧d.l.length=t∧A3 d.l=true∧Sb.w.heap[(S.bb d.b).1]? = some (.cells c e (0,0))∧(∀ j,j<t→c[(S.bb d.b).2+j]? = d.us[j]?)∧A5 P Sb (λ j => .tm d.n [j]) 0 d.l d.us
 |[],i,[],lb,[],bp,ws,h,hb,_,hw=>by
  have e1:bp=[]:=h;have e2:lb=[]:=hb;subst e1 e2;simp only[List.map_nil,C8a,Vc]at hw;subst hw;exact⟨[],rfl,rfl,by simp,by simp⟩
 |[],i,_::_,_,_,_,_,h,_,_,_=>h.elim
 |[],i,[],_,_::_,_,_,h,_,_,_=>h.elim
 |p::ps,i,[],_,_,_,_,h,_,_,_=>h.elim
 |p::ps,i,_::_,_,[],_,_,h,_,_,_=>h.elim
 |p::ps,i,l::ls,lb,u::us,bp,ws,h,hb,hs,hw=>by
  obtain⟨b1,b2,rfl,h1,h2⟩:=h
  have skip:b1=[]→Ie P Sb (i+1) ps us lb→∃ D:List Bk,D.map Bk.b=(b1++b2).map Prod.fst∧ws=D.flatMap (λ d=>Bo d.b 0 d.l)∧(D.map Bk.n).Nodup∧
   ∀ d∈D,∃ j B t c e,i≤j∧j<i+(p::ps).length∧d.n=1001+j∧(d.b,B)∈b1++b2∧(S.g (H d.b)).2 = .one (.hd t)∧d.l.length=t∧A3 d.l=true∧Sb.w.heap[(S.bb d.b).1]? = some (.cells c e (0,0))∧(∀ j,j<t→c[(S.bb d.b).2+j]? = d.us[j]?)∧A5 P Sb (λ j => .tm d.n [j]) 0 d.l d.us:=by
   intro e1 hb2;subst e1;rw[Wc]at hw ⊢;obtain⟨D,h3,h4,h5,h6⟩:=So ps h2 hb2 hs hw
   exact⟨D,h3,h4,h5,λ d hd=>by
    obtain⟨j,B,t,c,e,j1,j2,rest⟩:=h6 d hd
    exact⟨j,B,t,c,e,by omega,by simp only[Vg];omega,rest⟩⟩
  have box:∀ {t t':Ty} {lb':List (List Lf)} {l':List Lf},lb=l'::lb'→Lwa P S (bid nv i) t t' l u b1→R7 P Sb i t' l' u→Ie P Sb (i+1) ps us lb'→∃ D:List Bk,D.map Bk.b=(b1++b2).map Prod.fst∧ws=D.flatMap (λ d=>Bo d.b 0 d.l)∧(D.map Bk.n).Nodup∧
   ∀ d∈D,∃ j B t c e,i≤j∧j<i+(p::ps).length∧d.n=1001+j∧(d.b,B)∈b1++b2∧(S.g (H d.b)).2 = .one (.hd t)∧d.l.length=t∧A3 d.l=true∧Sb.w.heap[(S.bb d.b).1]? = some (.cells c e (0,0))∧(∀ j,j<t→c[(S.bb d.b).2+j]? = d.us[j]?)∧A5 P Sb (λ j => .tm d.n [j]) 0 d.l d.us:=by
   rintro t t' lb' l' rfl ⟨b,e1,e2,e3,e4,_⟩ ⟨k,o',c,e,vs,f1,f2,f3,f4,f5⟩ hb2;subst e1;rw[e2]at f1;cases f1;simp only[Yb,Yd,C8a]at hw;split at hw
   ·rename_i ws' hws';cases hw;obtain⟨D,h3,h4,h5,h6⟩:=So ps h2 hb2 (λ l hl=>hs l (Vd _ hl)) hws';refine⟨⟨b,1001+i,l',vs⟩::D,by simp[h3],by rw[List.flatMap_cons,h4],?_,λ d hd=>?_⟩
    ·rw[Yd,Yt];refine⟨λ hm=>?_,h5⟩;obtain⟨d,hd,e5⟩:=Za.1 hm;obtain⟨j,_,_,_,_,j1,_,j3,_⟩:=h6 d hd;have e6:d.n=1001+i:=e5;omega
    ·rcases Vk.1 hd with rfl|hd
     ·exact⟨i,bid nv i,t.sz,c,e,Vq _,by simp only[Vg];omega,rfl,by simp,e3,by rw[f3,e4],Lo _ (hs l' (by simp)),f2,λ j hj=>f4 j (by omega),f5⟩
     ·obtain⟨j,B,t,c,e,j1,j2,j3,j4,rest⟩:=h6 d hd;exact⟨j,B,t,c,e,by omega,by simp only[Vg];omega,j3,Vd _ j4,rest⟩
   ·cases hw
  cases p with
  |io ag t=>exact h1.elim
  |val ag t=>exact skip h1.1 hb
  |vw t h0=>exact skip h1.1 hb
  |rd t=>exact skip h1.1 hb
  |fn F m=>exact skip h1.1 hb
  |ptr t t'=>
   cases lb with
   |nil=>exact hb.elim
   |cons l' lb'=>exact box rfl h1 hb.1 hb.2
  |hid t t'=>
   cases lb with
   |nil=>exact hb.elim
   |cons l' lb'=>exact box rfl h1 hb.1 hb.2
def Lza (hE:Gx X E) (K:Ah X S a) (hg:S.g=get A) {xs:List (TypeId×Operand)} {cs cb:List (Nat×Nat)} {f:FuncId} {en:Ent} (hrun:(execOp a.eval o).run X.P S.w = .ok (.enter f (xs.map (λ x=>a.eval x.2)++cs.map (Ps S)).toArray) S.w) (hd:∀ d,o.dst=some d→d<X.nt)
  (hco:Iq X.P f en) (hnv:en.nv=xs.length+cs.length) (hp:Hua E en.rs o.dst=true) (hn:en.nv≤1000) (hps:Hk en.nv 0 en.ps=true) (hlen:en.ps.length≤2000) (hrl:en.rs.length≤400)
  (h:(match I4 E cb cb en.nv A xs (cs++cb) en.ps with
  |none=>none
  |some (ls,us,bs)=>bif Tm bs then (match M7 _ ls with
   |none=>none
   |some x=>(en.run x).bind λ r=>
    match C8a bs ((Av _ r).drop en.rs.length) with
    |none=>none
    |some ws=>match Lk (ups (ups A us) ws) en.rs (shL E o.dst (Av _ r)) o.dst with
     |none=>none
     |some rs=>Kc (us++(ws++rs))) else none)=some r):Fw X o a S.w A Kc r:=by
 have hnp:∀ d',o.dst=some d'→G9 en.rs=true→X.np≤d':=λ d' h1 h2=>by
  have:=hp;unfold Hua at this;rw[h1,h2]at this;exact hE.np ▸ (Ve (by simpa using this))
 split at h
 ·cases h
 ·rename_i ls us bs hargs;rw[csi]at h;obtain⟨hnd,h⟩:=h;split at h
  ·cases h
  ·rename_i x hx
   cases hrun':en.run x with
   |none=>rw[hrun']at h;simp at h
   |some y=>
    rw[hrun']at h;simp only[Vv]at h;split at h
    ·cases h
    ·rename_i ws hws;split at h
     ·cases h
     ·rename_i rs hrs;obtain⟨S1,L,K1,g1,G1,hLb,p1⟩:=Uj (X:=X) (a:=a) hE hn en.ps 0 K hg hargs
      have hpv:Ps S1=Ps S:=by funext b;unfold Ps;rw[G1.bb]
      obtain⟨i1,i2,i3,i4⟩:=Sn hn en.ps p1
      have hn1:(L.map Prod.fst).Nodup:=by rw[hLb];exact Ul hnd
      have hok:=F4a K1 hn1 i2 en.ps p1 (Mp _ _ _ hx) (λ _ h=>h) hps
      have hdrop:(xs.map (λ x=>a.eval x.2)++(cs++cb).map (Ps S)).drop en.nv=cb.map (Ps S1):=by
       rw[hpv,hnv,Roa,← Vj,List.drop_left' (by simp)]
      have htake:(xs.map (λ x=>a.eval x.2)++(cs++cb).map (Ps S)).take en.nv=xs.map (λ x=>a.eval x.2)++cs.map (Ps S):=by
       rw[hnv,Roa,← Vj,T4a (by simp)]
      have hs:=hco.sound x y hrun' S1.w (Iw S1 L) (Ita S1 L) _ (λ k hk=>K1.lt k (λ e=>hk (by simp[Iw,e]))) (O9a K1 hn p1) (by rw[hdrop];exact hok);rw[htake]at hs;refine⟨_,h,Nk hrun (L8 (by rw[← G1.w];exact hs) ?_)⟩;rintro e w' ⟨v,O',rfl,hF,hlt,hres,hback⟩;refine⟨v,rfl,?_⟩;obtain⟨a1,a2,a3⟩:=Ra hF
      have hlt2:∀ k,Tf S1 O' k ≠ .no→k<w'.heap.size:=λ k hk=>by
       by_cases hkl:k<S1.w.heap.size
       ·exact Wm hkl hF.size
       ·refine hlt k (λ e=>hk ?_);unfold Tf;rw[if_neg (λ h=>hkl h.1),e];rfl
      have hnt:∀ k,(∀ n q,S1.O k ≠ .tm n q)→Lya (S1.O k)=false:=λ k hk=>by
       cases hO:S1.O k<;>first|rfl|exact absurd hO (hk _ _)
      have hsol:=Fl (en.rs.map Prod.snd++Ff en.ps) y;rw[← hLb]at hws;obtain⟨D,D1,D2,D3,D4⟩:=So en.ps p1 hback (λ l hl=>hsol l (Zk hl)) hws;obtain⟨w1,r1,r2,r3,r4⟩:=Oaa S1.w w' hF.size (L.map λ c=>(S1.bb c.1).1)
      have hblk:∀ k,k<S1.w.heap.size→Lya (S1.O k)=false→w1.heap[k]? = S1.w.heap[k]? := λ k hk ht=>by
       by_cases hm:k∈L.map λ c=>(S1.bb c.1).1
       ·exact r3 k hm hk
       ·rw[r4 k hm];exact(a1 k hk ht).2 (λ c hc e=>hm (by rw[e];exact Yp (f:=λ c:Nat×Nat=>(S1.bb c.1).1) hc))
      have ros:w1.os=w'.os:=by rw[r1]
      have rtape:w1.tape=w'.tape:=by rw[r1]
      have rout:w1.output=w'.output:=by rw[r1]
      obtain⟨K2,L2⟩:=K1.world (w':=w1) (O':=Tf S1 O') (λ k hk ht=>⟨(a1 k hk (hnt k ht)).1,hblk k hk (hnt k ht)⟩) (ros.trans hF.os) (rtape.trans hF.tape) (rout.trans hF.out) (by rw[r2];exact hF.size) (λ k hk=>by rw[r2];exact hlt2 k hk)
      have hbr:∀ {n:Nat} {q:List Nat} {x:Lf} {u:Value},Ef x=true→Af X.P (bare O' w') (.tm n q) x u→Af X.P (Og S1 w1 (Tf S1 O')) (.tm n q) x u:=by
       intro n q x u hx hu
       have hno:∀ k,(O' k = .fz∨O' k = .tm n q)→w1.heap[k]? = w'.heap[k]? := λ k hk=>by
        by_cases hm:k∈L.map λ c=>(S1.bb c.1).1
        ·exfalso;obtain⟨c,hc,rfl⟩:=Za.1 hm;obtain⟨m,hm1⟩:=i3 c hc;obtain⟨_,cc,ee,g2,g3,_⟩:=K1.box c.1 m hm1;have hcal:Iw S1 L (S1.bb c.1).1 = .bx c.2:=F3a g3 (Awa hn1 (show (c.1,c.2)∈L from hc)) rfl;have:=(hF.bx _ _ (K1.lt _ (by rw[g3];simp)) hcal).1
         rcases hk with hk|hk<;>rw[this]at hk<;>cases hk
        ·exact r4 k hm
       cases x with
       |sc v=>exact hu
       |fz e r xs=>exact Ty.rep_mono (t := .sl e r) (λ k hk=>a2 k hk) (λ k hk=>hno k (.inl hk)) _ _ hu
       |own e r xs=>exact Cs.later (O':=Tf S1 O') (w':=w1) hu (λ k hk=>⟨a2 k hk,hno k (.inl hk)⟩) (λ k hk=>⟨a3 k n q hk,hno k (.inr hk)⟩)
       |_=>simp[Ef]at hx
      have hDok:∀ d∈D,d.Ok X.P (Og S1 w1 (Tf S1 O')) w':=λ d hd'=>by
       obtain⟨j,B,t,c',e',j1,j2,j3,j4,j5,j6,j7,j8,j9,j10⟩:=D4 d hd';obtain⟨g0,c0,e0,g2,g3,g4,g5⟩:=K1.box d.b _ j5;have hcal:Iw S1 L (S1.bb d.b).1 = .bx B:=F3a g3 (Awa hn1 j4) rfl;have hkl:=K1.lt _ (show S1.O (S1.bb d.b).1 ≠ .no by rw[g3];simp);obtain⟨_,c1,c2,e7,ff,x2,x3,x4,x5⟩:=hF.bx _ _ hkl hcal;rw[g2]at x2;cases x2;have j8':w'.heap[(S1.bb d.b).1]? = some (.cells c' e'):=j8;rw[x3]at j8';cases j8'
       have hrg:Ita S1 L B=((S1.bb d.b).2,t):=by
        unfold Ita;rw[Uk i2 j4];simp only[j5]
       rw[hrg]at x5;refine⟨c0,_,_,by rw[j6];exact j5,?_,x3,x4,λ i hi=>x5 i (by rw[j6]at hi;exact hi),λ j hj=>j9 j (by omega),j7,?_⟩
       ·show w1.heap[(S1.bb d.b).1]? = _;rw[hblk _ hkl (by rw[g3];rfl)];exact g2
       ·exact A5.impS (Fx j7) (λ n x u hx hu=>hbr hx hu) j10
      obtain⟨S2,K3,g3,w3,o3,t3,s3⟩:=Axa (w':=w') D (A:=ups A us) K2 g1 hDok (by rw[D1];exact hn1) D3 (λ d hd'=>by
       obtain⟨j,_,_,_,_,_,j2,j3,_⟩:=D4 d hd'
       exact⟨by omega,by omega⟩) (λ k hk=>(r4 k (λ hm=>by
       obtain⟨c,hc,hce⟩:=Za.1 hm
       have:c.1∈D.map Bk.b:=by rw[D1];exact Yp hc
       obtain⟨d,hd',hde⟩:=Za.1 this;refine hk d hd' ?_;rw[← hce,← hde]
       rfl)).symm) r1
      have hnames:∀ (n:Nat) (q:List Nat) (x:Lf) (u:Value),0<n→n<1001→Ef x=true→Af X.P (bare O' w') (.tm n q) x u→Af X.P S2 (.tm n q) x u:=λ n q x u h1 h2 hx hu=>s3 n q x u h1 h2 hx (hbr hx hu);have hlb:∀ n q k,0<n→n<1001→O' k = .tm n q→S2.O k = .tm n q:=λ n q k h1 h2 hk=>t3 n q k h1 h2 (a3 k n q hk)
      have hres1:Fh X.P S2 S1.w.heap.size en.rs (Av _ y) v:=by
       have one:∀ {i:Nat} {k:RK} {l:List Lf} {u:Value},0<i→i<500→(∀ z∈l,Ef z=true)→Jm X.P (bare O' w') S1.w.heap.size i k l u→Jm X.P S2 S1.w.heap.size i k l u:=by
        intro i k l u h1 h2 hz h
        cases k with
        |one=>exact A5.impM (λ x hx n u h=>hnames _ _ x u h1 (by omega) (hz x hx) h) h
        |agg=>
         obtain⟨us,e,h⟩:=h;exact⟨us,e,h.impM (λ x hx n u h=>hnames _ _ x u h1 (by omega) (hz x hx) h)⟩
        |ptr=>
         obtain⟨k,o',c,e,us,e1,e2,e3,e4,e5,e6,e7,h⟩:=h;exact⟨k,o',c,e,us,e1,by rw[w3];exact e2,e3,hlb _ _ _ (by omega) (by omega) e4,e5,e6,e7,h.impM (λ x hx n u h=>hnames _ _ x u h1 (by omega) (hz x hx) h)⟩
       have all:∀ (rs:List (RK×Ty)) {i:Nat} {ls:List (List Lf)} {us:List Value},0<i→i+rs.length<500→(∀ l∈ls,∀ z∈l,Ef z=true)→H6 X.P (bare O' w') S1.w.heap.size i rs ls us→H6 X.P S2 S1.w.heap.size i rs ls us:=by
        intro rs
        induction rs with
        |nil=>intro i ls us _ _ _ h;exact h
        |cons r rs ih=>
         intro i ls us h1 h2 hz h
         cases ls with
         |nil=>exact h.elim
         |cons l ls=>
          cases us with
          |nil=>exact h.elim
          |cons u us=>
           simp only[Vg]at h2;exact⟨one h1 (by omega) (hz l (by simp)) h.1,ih (by omega) (by omega) (λ l hl=>hz l (Vd _ hl)) h.2⟩
       unfold Fh at hres ⊢;split at hres
       ·obtain⟨l,ls',e1,h5⟩:=hres;exact⟨l,ls',e1,one (by omega) (by omega) (hsol l (by rw[e1];simp)) h5⟩
       ·obtain⟨us',e1,h5⟩:=hres;exact⟨us',e1,all en.rs (by omega) (by omega) hsol h5⟩
      obtain⟨S3,K4,w4,g4⟩:=Sk (E:=E) K3 g3 (λ _=>hrl) hd K1.fr.size (Fl _ y) hnp hres1 (by rw[← D2];exact hrs);refine⟨S3,w4.trans w3,K4,?_⟩;rw[g4,← D2,Ae,Ae]
def Xv {α β:Type}:∀ {l:List α} {m:List β},m.length≤l.length→(l.zip m).map Prod.snd=m
 |_,[],_=>by simp
 |[],_::_,h=>by simp at h
 |_::l,_::m,h=>by simp[Xv (l:=l) (m:=m) (by simpa using h)]
def Mq:∀ {Ts:List TypeId} {xs:List Operand} {ss:List Sv},N5 E Ts A xs=some ss→xs.length≤Ts.length
 |_,[],_,_=>Wf _
 |[],_::_,_,h=>by simp[N5]at h
 |T::Ts,x::xs,ss,h=>by
  simp only[N5]at h;split at h
  ·split at h
   ·rename_i hr;simp only[Vg];have:=Mq hr;omega
   ·cases h
  ·cases h
def Aya (hE:Gx X E) (K:Ah X S a) (hg:S.g=get A) {Ts:List TypeId} {xs:List Operand} {cs:List (Nat×Nat)} {f:FuncId} {en:Ent} {ss:List Sv} (hrun:(execOp a.eval o).run X.P S.w = .ok (.enter f (xs.map a.eval++cs.map (Ps S)).toArray) S.w) (hd:∀ d,o.dst=some d→d<X.nt)
  (hco:Iq X.P f en) (hss:N5 E Ts A xs=some ss) (h:Rv E A en (Ts.zip xs) cs ss o.dst Kc=some r):Fw X o a S.w A Kc r:=by
 unfold Rv at h;have hz:=Xv (Mq hss)
 have hzl:(Ts.zip xs).length=xs.length:=by
  rw[List.length_zip];have:=Mq hss;omega
 rw[csi]at h;obtain⟨hnv,h⟩:=h
 have hnv':en.nv=xs.length+cs.length:=by rw[← hzl];exact Vb hnv
 cases hl:(K7 en.ps&&Qk en.rs&&cs.isEmpty) with
 |true=>
  rw[hl,cond_true]at h;simp only[Va,List.isEmpty_iff]at hl;obtain⟨⟨l1,l2⟩,l3⟩:=hl;subst l3;simp only[List.map_nil,Yf]at hrun;exact Lva hE K hg hrun hd hco (by simpa using hnv') (Xh hE K hg hss) l1 l2 h
 |false=>
  rw[hl,cond_false]at h;rw[csi]at h;obtain⟨hp,h⟩:=h;simp only[Va]at hp;obtain⟨p1,⟨⟨p2,p3⟩,p4⟩,p5⟩:=hp;refine Lza (xs:=Ts.zip xs) (cs:=cs) (cb:=Dpa ss++Tl A en.ps ss) hE K hg ?_ hd hco (by rw[hzl];exact hnv') p1 (Ve p2) p3 (Ve p5) (Ve p4) h
  have e1:(Ts.zip xs).map (λ x=>a.eval x.2)=xs.map a.eval:=by
   rw[← hz,Rla];rw[hz];rfl
  rw[e1];exact hrun
def Iua (hE:Gx X E) (hcall:∀ f en,E.call f=some en→Iq X.P f en) (K:Ah X S a) (hg:S.g=get A) {c:Call} {t:Nat} (ho:o.op = .call c) (hc:c.callee = .value (.tmp t)) (hd:∀ d,o.dst=some d→d<X.nt)
  (h:Ai E o A Kc=some r):Fw X o a S.w A Kc r:=by
 unfold Ai at h;rw[ho]at h;simp only[hc]at h;split at h
 ·rename_i f bs hs;split at h
  ·rename_i en ss he hss;obtain⟨hal,h⟩:=cs h;have hco:=hcall f en he;obtain⟨pl,h2⟩:=Fc hE K hg hs;obtain⟨us,e1,e2⟩:Af X.P S (.pl pl []) (.fn f bs) (a.eval (.tmp t)):=h2;have e3:=Pt hg e2 hal;subst e3;exact Aya hE K hg (Cka (w:=S.w) ho hc e1 hco) hd hco hss h
  ·cases h
 ·cases h
def Aza (hE:Gx X E) (K:Ah X S a) (hg:S.g=get A):∀ {xs:List Operand} {bs:List (Nat×Nat)},Tr E A xs=some bs→Pg S bs (xs.map a.eval)
 |[],bs,h=>by
  simp only[Tr,Vc]at h;subst h;rfl
 |x::l,bs,h=>by
  simp only[Tr]at h;split at h
  ·rename_i b v hx;split at h
   ·rename_i bs' hr;cases h;obtain⟨pl,h2⟩:=Fc hE K hg hx;exact⟨_,_,rfl,h2,Aza hE K hg hr⟩
   ·cases h
  ·cases h
def Xw (hE:Gx X E) (K:Ah X S a) (hg:S.g=get A) {f:FuncId} {x y:Array Operand} {d:Nat} (ho:o.op = .makeFunc (.func f) x y) (hod:o.dst=some d) (hd:d<X.nt) (h:Ai E o A Kc=some r):Fw X o a S.w A Kc r:=by
 unfold Ai at h;rw[ho,hod]at h;simp only at h;split at h
 ·rename_i bs hx hy
  have ex:x = #[]:=by
   apply Sqa
   simpa using hx
  subst ex;have hsv:Gi X.P S 0 (.one (.fn f bs)) (.func (.func f) #[] (y.toList.map a.eval).toArray):=⟨_,rfl,Aza hE K hg hy⟩;have K2:=K.put0 hd _ _ 0 rfl hsv;refine⟨_,h,Ac (S:=Hq S (λ _ _=>none) d _ _) (v := .func (.func f) #[] (y.toList.map a.eval).toArray) ?_ (by rw[hod];exact K2) ?_⟩
  ·show _=Result.ok _ S.w
   have e1:y.map a.eval=(y.toList.map a.eval).toArray:=by
    apply Sqa;simp
   unfold execOp;simp[ho,Instr.makeFunc,e1]
  ·show upd S.g d _=_;rw[A8,← hg]
 ·cases h
end
end

end Go.Proofs.YtbbifgjgneefkaaGreat.Vf
