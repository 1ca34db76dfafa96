import Derived.Test.YtbbifgjgneefkaaMae
set_option linter.all false
namespace Go.Proofs.Ytbbifgjgneefkaa.Vf
open Go
open List (length getD)
open Int (toNat)
open Go.IntKind (wrap)
open BitVec (ofInt)
def Yl:=@List.mem_map_of_mem
def Ym:=@Option.bind_some
def Yp:=@Nat.ble_eq_true_of_le
def Zc:=@List.mem_map
def Zn:=@Array.getElem?_eq_getElem
def Kna:=@List.mem_cons_self
def Ksa:=@Array.ext'

section
attribute [local irreducible] C H
def bare (O:Nat→Lab) (w:World):Sit:=⟨O,λ _=>(0,0),λ _=>(0,.one .dead),λ _=>undef,w⟩
def My (P:Program) (S:Sit) (rg:Nat→Nat×Nat) (B:Nat) (t:Ty) (l:List Lf) (u:Value):Prop:=
 ∃ k o c e us,u = .pointer (some ⟨k,o,none⟩)∧S.w.heap[k]? = some (.cells c e (0,0))∧S.O k = .bx B∧rg B=(o,t.sz)∧o+t.sz≤c.size∧t.sz<999∧l.length=t.sz∧(∀ j,j<t.sz→c[o+j]? = us[j]?)∧
  A5 P S (λ j => .pl (C B j) []) 0 l us
def Ug (P:Program) (S:Sit) (w:Nat→Value) (j:Nat):Lf→Value→Prop
 |.own _ _ _,u=>u=w j
 |x,u=>Bba x=true∧Ad P S .fz x u
def Ny (Q:Nat→Lf→Value→Prop):Nat→List Lf→List Value→Prop
 |_,[],[]=>True
 |j,x::l,u::us=>Q j x u∧Ny Q (j+1) l us
 |_,_,_=>False
def Uh (P:Program) (S:Sit) (rg:Nat→Nat×Nat) (nv:Nat) (hs:List Value) (i:Nat):Par→List Lf→Value→Prop
 |.io ag t,l,u=>(i<nv∧t.sz<999∧l.length=t.sz)∧∃ us,(if ag then u = .agg us.toArray else us=[u])∧A5 P S (λ j => .pl (C (3000+i) j) []) 0 l us
 |.vw t h,l,u=>nv≤h∧∃ vs k o c e,u = .agg vs.toArray∧hs[h-nv]? = some (.pointer (some ⟨k,o,none⟩))∧S.w.heap[k]? = some (.cells c e (0,0))∧t.sz<999∧l.length=t.sz∧Ny (Ug P S (λ j=>c.getD (o+j) undef)) 0 l vs
 |.val ag _,l,u=>∃ us,(if ag then u = .agg us.toArray else us=[u])∧A5 P S (λ j => .pl i (if ag then [j] else [])) 0 l us
 |.ptr t _,l,u=>i<nv∧My P S rg (bid nv i) t l u
 |.hid t _,l,u=>nv≤i∧My P S rg (bid nv i) t l u
 |.rd t,l,u=>∃ x k o cs,mkW t l=some x∧u = .pointer (some ⟨k,o,none⟩)∧S.O k = .fz∧t.rep P (λ k=>S.O k = .fz) S.w x cs∧Bj S.w k o cs
 |.fn F m,_,u=>u = .func (.func F) #[] hs.toArray∧hs.length=m
def Fp (P:Program) (S:Sit) (rg:Nat→Nat×Nat) (nv:Nat) (hs:List Value):Nat→List Par→List (List Lf)→List Value→Prop
 |_,[],[],[]=>True
 |i,p::ps,l::ls,u::us=>Uh P S rg nv hs i p l u∧Fp P S rg nv hs (i+1) ps ls us
 |_,_,_,_=>False
def Gl (P:Program) (S:Sit) (n0:Nat) (i:Nat):RK→List Lf→Value→Prop
 |.one,l,u=>A5 P S (λ _ => .tm i []) 0 l [u]
 |.agg,l,u=>∃ us,u = .agg us.toArray∧A5 P S (λ j => .tm i [j]) 0 l us
 |.ptr,l,u=>∃ k o c e us,u = .pointer (some ⟨k,o,none⟩)∧S.w.heap[k]? = some (.cells c e (0,0))∧n0≤k∧S.O k = .tm (i+500) []∧o+l.length≤c.size∧l.length<999∧(∀ j,j<l.length→c[o+j]? = us[j]?)∧
   A5 P S (λ j => .tm i [j]) 0 l us
def E6 (P:Program) (S:Sit) (n0:Nat):Nat→List (RK×Ty)→List (List Lf)→List Value→Prop
 |_,[],_,us=>us=[]
 |i,k::ks,l::ls,u::us=>Gl P S n0 i k.1 l u∧E6 P S n0 (i+1) ks ls us
 |_,_,_,_=>False
def Cy (P:Program) (S:Sit) (n0:Nat) (rs:List (RK×Ty)) (ls:List (List Lf)) (v:Value):Prop:=
 match rs with
 |[r]=>∃ l ls',ls=l::ls'∧Gl P S n0 1 r.1 l v
 |rs=>∃ us,v = .tuple us.toArray∧E6 P S n0 1 rs ls us
def Mz (P:Program) (S:Sit) (i:Nat) (t':Ty) (l:List Lf) (u:Value):Prop:=
 ∃ k o c e us,u = .pointer (some ⟨k,o,none⟩)∧S.w.heap[k]? = some (.cells c e (0,0))∧l.length=t'.sz∧(∀ j,j<t'.sz→c[o+j]? = us[j]?)∧A5 P S (λ j => .tm (1001+i) [j]) 0 l us
def Iaa (P:Program) (S:Sit) (i:Nat) (ag:Bool) (l:List Lf) (u:Value):Prop:=∃ us,(if ag then u = .agg us.toArray else us=[u])∧A5 P S (λ j => .tm (1001+i) [j]) 0 l us
def Fg (P:Program) (S:Sit):Nat→List Par→List Value→List (List Lf)→Prop
 |i,.io ag _::ps,u::us,l::ls=>Iaa P S i ag l u∧Fg P S (i+1) ps us ls
 |_,[],_,ls=>ls=[]
 |i,.ptr _ t'::ps,u::us,l::ls=>Mz P S i t' l u∧Fg P S (i+1) ps us ls
 |i,.hid _ t'::ps,u::us,l::ls=>Mz P S i t' l u∧Fg P S (i+1) ps us ls
 |i,.val _ _::ps,_::us,ls=>Fg P S (i+1) ps us ls
 |i,.vw _ _::ps,_::us,ls=>Fg P S (i+1) ps us ls
 |i,.rd _::ps,_::us,ls=>Fg P S (i+1) ps us ls
 |i,.fn _ _::ps,_::us,ls=>Fg P S (i+1) ps us ls
 |_,_,_,_=>False
def Gwa (nv n b:Nat):Prop:=∃ i,i<n∧b=bid nv i
def Ewa (P:Program) (f:FuncId) (en:Ent):Prop:=
 ∀ x r,en.run x=some r→∀ (w:World) (O:Nat→Lab) (rg:Nat→Nat×Nat) (us:List Value),(∀ k,O k ≠ .no→k<w.heap.size)→(∀ k b,O k = .bx b→Gwa en.nv en.ps.length b∧(∃ c e f,w.heap[k]? = some (.cells c e f))∧∀ k',O k' = .bx b→k'=k)→Fp P (bare O w) rg en.nv (us.drop en.nv) 0 en.ps (An _ x) us→
  Calls P f (us.take en.nv).toArray w (λ e w'=>∃ v O',e = .returned v∧Fr O w rg O' w'∧(∀ k,O' k ≠ .no→k<w'.heap.size)∧Cy P (bare O' w') w.heap.size en.rs (An _ r) v∧Fg P (bare O' w') 0 en.ps us ((An _ r).drop en.rs.length))
structure Fq (P:Program) (f:FuncId) (en:Ent):Prop where
 fn:∃ fn,P.funcs[f]? = some fn∧(fn.name == "runtime.NumGoroutine")=false∧fn.body.isNone=false
 sound:Ewa P f en
section
variable {X:Cx} {S S':Sit} {a:Act} {E:En} {A:Ab} {o:Oper} {R:Type} {Kc:List Up→Option R} {r:R}
def Cd:Lf→Bool
 |.sc _ | .fz _ _ _ | .own _ _ _=>true
 |_=>false
def Ad.bare {P:Program} {x:Lf} {u:Value} {lab lab':Lab} (hx:Cd x=true) {S1 S2:Sit} (hw:S2.w=S1.w) (hf:∀ k,S1.O k = .fz→S2.O k = .fz) (hl:∀ k,S1.O k=lab→S2.O k=lab') (h:Ad P S1 lab x u):Ad P S2 lab' x u:=by
 cases x with
 |sc v=>exact h
 |fz e r xs=>exact Ty.rep_mono (t := .sl e r) hf (λ k _=>by rw[hw]) _ _ h
 |own e r xs=>exact Bt.later (O':=S2.O) (w':=S2.w) h (λ k hk=>⟨hf k hk,by rw[hw]⟩) (λ k hk=>⟨hl k hk,by rw[hw]⟩)
 |_=>simp[Cd]at hx
def Ek:∀ (t:Ty) (x:t.den),∀ y∈A4 t x,Cd y=true
 |.i _,_=>by simp[A4,Cd]
 |.b,_=>by simp[A4,Cd]
 |.s,_=>by simp[A4,Cd]
 |.sl _ _,_=>by simp[A4,Cd]
 |.ow _ _,_=>by simp[A4,Cd]
 |.pr x y,p=>by
  intro z hz;rcases Vn.1 (show z∈A4 x p.1++A4 y p.2 from hz) with h|h
  ·exact Ek x p.1 z h
  ·exact Ek y p.2 z h
def Ch:∀ (t:Ty) (x:t.den),(A4 t x).length=t.sz
 |.i _,_=>rfl
 |.b,_=>rfl
 |.s,_=>rfl
 |.sl _ _,_=>rfl
 |.ow _ _,_=>rfl
 |.pr x y,p=>by
  show (A4 x p.1++A4 y p.2).length=x.sz+y.sz;rw[Vi,Ch x p.1,Ch y p.2]
def A5.impS {P:Program} {S1 S2:Sit} {f f':Nat→Lab}:∀ {l:List Lf} {j:Nat} {us:List Value},(∀ y∈l,Cd y=true)→(∀ n x u,Cd x=true→Ad P S1 (f n) x u→Ad P S2 (f' n) x u)→A5 P S1 f j l us→A5 P S2 f' j l us
 |[],_,[],_,_,_=>trivial
 |[],_,_::_,_,_,h=>h.elim
 |_::_,_,[],_,_,h=>h.elim
 |y::l,j,u::us,hs,hi,h=>⟨hi j y u (hs y (by simp)) h.1,A5.impS (λ z hz=>hs z (Ve _ hz)) hi h.2⟩
def Ae.world (K:Ae X S a) {w':World} {O':Nat→Lab} (h1:∀ k,k<S.w.heap.size→(∀ n q,S.O k ≠ .tm n q)→O' k=S.O k∧w'.heap[k]? = S.w.heap[k]?)
  (hos:w'.os=S.w.os) (ht:w'.tape=S.w.tape) (hout:w'.output=S.w.output) (hsz:S.w.heap.size≤w'.heap.size) (hlt:∀ k,O' k ≠ .no→k<w'.heap.size):
  Ae X (Kj S w' O') a∧Bu S (Kj S w' O'):=by
 have keep:∀ k o,S.O k=o→k<S.w.heap.size→(∀ n q,o ≠ .tm n q)→O' k=o∧w'.heap[k]? = S.w.heap[k]?:=by
  intro k o' h hk ho;obtain⟨h2,h3⟩:=h1 k hk (by rw[h];exact ho);exact⟨h2.trans h,h3⟩
 have keep':∀ k o,S.O k=o→o ≠ .no→(∀ n q,o ≠ .tm n q)→O' k=o∧w'.heap[k]? = S.w.heap[k]? := λ k o' h hn ho=>keep k o' h (K.lt k (by rw[h];exact hn)) ho
 have L:Bu S (Kj S w' O'):=⟨λ _=>Vo _,λ _ _=>rfl,λ p v e r xs' h _=>⟨xs',h,rfl⟩,λ _ _=>rfl,λ k h=>keep' k _ h (by simp) (by simp),Bu.box_of (λ _ _ _ h=>h) (λ k b h=>keep' k _ h (by simp) (by simp)),λ p _ hd=>⟨hd,λ _ _ _ h=>h,λ k hk=>by
  obtain⟨h1,h2⟩:=keep' k _ hk (by simp) (by simp)
  exact⟨.inl h1,h2⟩⟩,λ _ _=>rfl⟩
 have F:=K.fr;refine⟨⟨K.nt,hlt,λ l=>(K.at_ l).later L (λ p k h=>keep' k _ h (by simp) (by simp)),λ b n h=>?_,K.rgn,K.sl,K.sz,K.df,⟨hos.trans F.os,ht.trans F.tape,hout.trans F.out,Yo F.size hsz,λ k hk h0=>?_,λ k hk h0=>?_,λ k b hk h0=>?_⟩,K.io⟩,L⟩
 ·obtain⟨hn,c,e,e1,e2,e3,e4⟩:=K.box b n h;obtain⟨h5,h6⟩:=keep' _ _ e2 (by simp) (by simp);exact⟨hn,c,e,h6.trans e1,h5,e3,e4⟩
 ·obtain⟨f1,f2⟩:=F.no k hk h0;obtain⟨h5,h6⟩:=keep k _ f1 (Wf hk F.size) (by simp);exact⟨h5,h6.trans f2⟩
 ·obtain⟨f1,f2⟩:=F.fz k hk h0;obtain⟨h5,h6⟩:=keep k _ f1 (Wf hk F.size) (by simp);exact⟨h5,h6.trans f2⟩
 ·obtain⟨f1,c,c',e,f,f2,f3,f4,f5⟩:=F.bx k b hk h0;obtain⟨h5,h6⟩:=keep k _ f1 (Wf hk F.size) (by simp);exact⟨h5,c,c',e,f,f2,h6.trans f3,f4,f5⟩
end
end

section
attribute [local irreducible] C H
section
variable {X:Cx} {S S':Sit} {a:Act} {E:En} {A:Ab} {o:Oper} {R:Type} {Kc:List Up→Option R} {r:R}
def A5.impM {P:Program} {S1 S2:Sit} {f f':Nat→Lab}:∀ {l:List Lf} {j:Nat} {us:List Value},(∀ x∈l,∀ n u,Ad P S1 (f n) x u→Ad P S2 (f' n) x u)→A5 P S1 f j l us→A5 P S2 f' j l us
 |[],_,[],_,_=>trivial
 |[],_,_::_,_,h=>h.elim
 |_::_,_,[],_,h=>h.elim
 |y::l,j,u::us,hi,h=>⟨hi y (by simp) j u h.1,A5.impM (λ z hz=>hi z (Ve _ hz)) h.2⟩
def Gl.imp {P:Program} {S1 S2:Sit} {n0 i:Nat} {k:RK} {l:List Lf} {u:Value} (hw:S2.w=S1.w) (hO:∀ k i,S1.O k = .tm i []→S2.O k = .tm i []) (hi:∀ y∈l,∀ i q u,Ad P S1 (.tm i q) y u→Ad P S2 (.tm i q) y u) (h:Gl P S1 n0 i k l u):Gl P S2 n0 i k l u:=by
 cases k with
 |one=>exact A5.impM (λ x hx n u h=>hi x hx _ _ u h) h
 |agg=>
  obtain⟨us,e,h⟩:=h;exact⟨us,e,h.impM (λ x hx n u h=>hi x hx _ _ u h)⟩
 |ptr=>
  obtain⟨k,o,c,e,us,e1,e2,e3,e4,e5,e6,e7,h⟩:=h;exact⟨k,o,c,e,us,e1,by rw[hw];exact e2,e3,hO _ _ e4,e5,e6,e7,h.impM (λ x hx n u h=>hi x hx _ _ u h)⟩
def E6.imp {P:Program} {S1 S2:Sit} {n0:Nat} (hw:S2.w=S1.w) (hO:∀ k i,S1.O k = .tm i []→S2.O k = .tm i []):∀ {rs:List (RK×Ty)} {i:Nat} {ls:List (List Lf)} {us:List Value},
  (∀ l∈ls,∀ y∈l,∀ i q u,Ad P S1 (.tm i q) y u→Ad P S2 (.tm i q) y u)→E6 P S1 n0 i rs ls us→E6 P S2 n0 i rs ls us
 |[],_,_,_,_,h=>h
 |k::ks,i,l::ls,u::us,hi,h=>⟨h.1.imp hw hO (hi l (by simp)),E6.imp hw hO (λ l' hl'=>hi l' (Ve _ hl')) h.2⟩
 |_::_,_,[],_,_,h=>h.elim
 |_::_,_,_::_,[],_,h=>h.elim
def Cy.imp {P:Program} {S1 S2:Sit} {n0:Nat} {rs:List (RK×Ty)} {ls:List (List Lf)} {v:Value} (hw:S2.w=S1.w) (hO:∀ k i,S1.O k = .tm i []→S2.O k = .tm i [])
  (hi:∀ l∈ls,∀ y∈l,∀ i q u,Ad P S1 (.tm i q) y u→Ad P S2 (.tm i q) y u) (h:Cy P S1 n0 rs ls v):Cy P S2 n0 rs ls v:=by
 unfold Cy at h ⊢;split at h
 ·obtain⟨l,ls',rfl,h⟩:=h;exact⟨l,ls',rfl,h.imp hw hO (hi l (by simp))⟩
 ·obtain⟨us,e,h⟩:=h;exact⟨us,e,h.imp hw hO hi⟩
def Gxa (K:Ae X S a) {A1:Ab} (hg:S.g=get A1) {d k o n0:Nat} {l0:List Nat} {m:List Lf} {us:List Value} {q:Nat→List Nat} {c:Array Value} {e:TypeId} (hd:d<X.nt) (hk:S.O k = .tm n0 l0) (hn0:n0≠0) (hk0:X.w0.heap.size≤k)
  (hc:S.w.heap[k]? = some (.cells c e (0,0))) (ho:o+m.length≤c.size) (hcs:∀ j,j<m.length→c[o+j]? = us[j]?) (hl:A5 X.P S (λ j => .tm 0 (q j)) 0 m us)
  (hq:∀ j,j<m.length→Mh d 0 0 (q j)=some (.pl (C d (0+j)) [])) (hm:m.length<999) (hst:∀ k,.hd k∉m) (hnp:X.np≤d):
  ∃ S',Ae X S' (a.put (some d) (.pointer (some ⟨k,o,none⟩)))∧S'.w=S.w∧S'.g=get (ups A1 (⟨H d,false,.one (.hd m.length)⟩::B3 d 0 m++[⟨d,false,.one (.bp d ((get A1 (H d)).1+1) 0)⟩])):=by
 obtain⟨K2,L2⟩:=K.newbox (d:=d) (k:=k) (o:=o) hk hn0 hk0 hc ho hcs hl hq hm hst hnp (Wf hd K.nt)
 have hv:((Qt S d k o m us).g (H d)).1=(S.g (H d)).1+1:=by
  show (Gg (upd S.g (H d) _) d 0 m (H d)).1=_;unfold Gg;rw[if_neg (C7 (by omega)),A7]
 have K3:=K2.put0 hd (.one (.bp d ((S.g (H d)).1+1) 0)) (.pointer (some ⟨k,o,none⟩)) 0 rfl ⟨by rw[hv];exact Vo _,λ _=>by
  show Value.pointer _ = .pointer (some ⟨(upd S.bb d (k,o) d).1,(upd S.bb d (k,o) d).2+0,none⟩);rw[A7]
  rfl⟩
 have e1:(Qt S d k o m us).g=get (ups A1 (⟨H d,false,.one (.hd m.length)⟩::B3 d 0 m)):=by
  show Gg (upd S.g (H d) ((S.g (H d)).1+1,.one (.hd m.length))) d 0 m=get (ups (up A1 ⟨H d,false,.one (.hd m.length)⟩) (B3 d 0 m));rw[Dz,Fm,← hg];rfl
 refine⟨_,K3,rfl,?_⟩;show upd (Qt S d k o m us).g d _=_;rw[Ac,A6,← e1,← hg]
def W3 (d:Nat) (many:Bool):Nat→List Nat→Option Lab:=λ n q=>match n with
 |0=>none
 |n+1=>if many then (match q with
  |[]=>some (.pl d [n,0])
  |[j]=>some (.pl d [n,j])
  |_=>none) else (if n=0 then some (.pl d q) else none)
def Rg (d:Nat) (many:Bool):∀ n q p,W3 d many n q=some p→∃ p',p = .pl d p':=by
 intro n q p hp;unfold W3 at hp;split at hp
 ·cases hp
 ·split at hp
  ·split at hp<;>first|(cases hp;exact⟨_,rfl⟩)|cases hp
  ·split at hp<;>first|(cases hp;exact⟨_,rfl⟩)|cases hp
def Rh (K:Ae X S a) {A1:Ab} (hg:S.g=get A1) {rs:List (RK×Ty)} {ls:List (List Lf)} {d:Option Nat} {us:List Up} {v:Value} {n0:Nat} (hd:∀ d',d=some d'→d'<X.nt) (hn0:X.w0.heap.size≤n0) (hls:∀ l∈ls,∀ y∈l,Cd y=true) (hnp:∀ d',d=some d'→Dh rs=true→X.np≤d')
  (hr:Cy X.P S n0 rs ls v) (h:Hv A1 rs ls d=some us):∃ S',Ae X S' (a.put d v)∧S'.w=S.w∧S'.g=get (ups A1 us):=by
 cases d with
 |none=>
  have:us=[]:=by unfold Hv at h;cases rs<;>simpa using h.symm
  subst this;exact⟨S,K,rfl,hg⟩
 |some d=>
  cases rs with
  |nil=>
   have:us=[⟨d,false,.tup []⟩]:=by unfold Hv at h;simpa using h.symm
   subst this;obtain⟨vs,rfl,h2⟩:=hr
   have:vs=[]:=by cases ls<;>exact h2
   subst this;have K2:=K.put0 (hd d rfl) (.tup []) (.tuple #[]) 0 rfl ⟨[],rfl,trivial⟩;exact⟨_,K2,rfl,by show upd S.g d _=_;rw[A6,← hg]⟩
  |cons r1 rs=>
   cases rs with
   |nil=>
    obtain⟨l,ls',e1,h2⟩:=hr;subst e1;obtain⟨k,t⟩:=r1
    cases k with
    |one=>
     have h2':A5 X.P S (λ _ => .tm 1 []) 0 l [v]:=h2
     cases l with
     |nil=>exact h2'.elim
     |cons x l=>
      cases l with
      |cons y l=>exact h2'.2.elim
      |nil=>
       have:us=[⟨d,false,.one x⟩]:=by unfold Hv at h;simpa using h.symm
       subst this;have h3:Ad X.P S (.tm 1 []) x v:=h2'.1;have L:=C5 S (W3 d false) d (K.lt0 (hd d rfl)) (.one x) v;have hsv:Dq X.P (Et S (W3 d false) d (.one x) v) d (.one x) v:=Ad.later (lab := .tm 1 []) (lab' := .pl d []) L h3 (λ k hk=>⟨De hk rfl,rfl⟩);have K2:=K.put (hd d rfl) (W3 d false) (Rg d false) (.one x) v hsv;exact⟨_,K2,rfl,by show upd S.g d _=_;rw[A6,← hg]⟩
    |agg=>
     have:us=[⟨d,false,.agg l⟩]:=by unfold Hv at h;simpa using h.symm
     subst this;obtain⟨vs,rfl,h3⟩:=h2;have L:=C5 S (W3 d false) d (K.lt0 (hd d rfl)) (.agg l) (.agg vs.toArray);have hsv:Dq X.P (Et S (W3 d false) d (.agg l) (.agg vs.toArray)) d (.agg l) (.agg vs.toArray):=⟨vs,rfl,h3.imp (λ j x u hx=>hx.later L (λ k hk=>⟨De hk rfl,rfl⟩))⟩;have K2:=K.put (hd d rfl) (W3 d false) (Rg d false) (.agg l) _ hsv;exact⟨_,K2,rfl,by show upd S.g d _=_;rw[A6,← hg]⟩
    |ptr=>
     have:us=W7 A1 d l:=by unfold Hv at h;simpa using h.symm
     subst this;obtain⟨k,o,c,e,vs,rfl,e2,e3,e4,e5,e6,e7,h3⟩:=h2
     let hh:Nat→List Nat→Option Lab:=λ n q=>if n=1 then some (.tm 0 q) else none
     obtain⟨K1,L1⟩:=K.names hh (by intro n q;simp only[hh];split<;>simp)
     have e4':({ S with O:=atO S.O hh }:Sit).O k = .tm 501 []:=F8 e4 (by simp[hh])
     obtain⟨S',K',w',g'⟩:=Gxa K1 (A1:=A1) (q:=λ j=>[j]) hg (hd d rfl) e4' (by decide) (Yo hn0 e3) e2 e5 e7 (h3.imp (λ j x u hx=>hx.later L1 (λ k hk=>⟨De hk (by simp[hh]),rfl⟩))) (λ j hj=>rfl) e6 (by
      intro k hk;have:=hls l (by simp) _ hk
      simp[Cd]at this) (hnp d rfl rfl)
     exact⟨S',K',w',by rw[g'];rfl⟩
   |cons r2 rs=>
    have h':(bif Dh (r1::r2::rs) then none else some [(⟨d,false,.tup (P4 (r1::r2::rs) ls)⟩:Up)])=some us:=by
     unfold Hv at h;obtain⟨k1,t1⟩:=r1
     cases k1<;>exact h
    cases hp:Dh (r1::r2::rs)
    case true=>rw[hp]at h';simp at h'
    rw[hp]at h';simp only[cond_false,Vc]at h';subst h';obtain⟨vs,rfl,h2⟩:=hr;generalize hR:(r1::r2::rs)=R2 at hp h2
    have key:∀ (s:Sv) (rs:List (RK×Ty)) (i:Nat) (ls:List (List Lf)) (us:List Value),Dh rs=false→E6 X.P S n0 (i+1) rs ls us→Gv X.P (Et S (W3 d true) d s (.tuple vs.toArray)) d i (P4 rs ls) us:=by
     intro s rs
     induction rs with
     |nil=>
      intro i ls us _ h
      have:us=[]:=by cases ls<;>exact h
      subst this;simp[P4,Gv]
     |cons r rs ih=>
      intro i ls us hp h
      cases ls with
      |nil=>exact h.elim
      |cons l ls=>
       cases us with
       |nil=>exact h.elim
       |cons u us=>
        obtain⟨k,t⟩:=r;have L:=C5 S (W3 d true) d (K.lt0 (hd d rfl)) s (.tuple vs.toArray)
        have hp2:Dh rs=false:=by cases k<;>first|(simp[Dh]at hp;done)|simpa[Dh] using hp
        refine⟨?_,ih (i+1) ls us hp2 h.2⟩
        cases k with
        |ptr=>simp[Dh]at hp
        |one=>
         have h2':A5 X.P S (λ _ => .tm (i+1) []) 0 l [u]:=h.1;refine⟨[u],rfl,?_⟩
         cases l with
         |nil=>exact h2'.elim
         |cons x l=>
          cases l with
          |cons y l=>exact h2'.2.elim
          |nil=>exact⟨Ad.later (lab := .tm (i+1) []) (lab' := .pl d [i,0]) L h2'.1 (λ k hk=>⟨De hk rfl,rfl⟩),trivial⟩
        |agg=>
         obtain⟨ws,e1,h3⟩:=h.1;exact⟨ws,e1,h3.imp (λ j x u hx=>hx.later L (λ k hk=>⟨De hk rfl,rfl⟩))⟩
    have hsv:Dq X.P (Et S (W3 d true) d (.tup (P4 R2 ls)) (.tuple vs.toArray)) d (.tup (P4 R2 ls)) (.tuple vs.toArray):=⟨vs,rfl,key _ _ 0 ls vs hp h2⟩;have K2:=K.put (hd d rfl) (W3 d true) (Rg d true) (.tup (P4 R2 ls)) _ hsv;exact⟨_,K2,rfl,by show upd S.g d _=_;rw[A6,← hg]⟩
def Y0 (N:Nat):Nat→List Nat→Option Lab:=λ n _=>if n≤N then some .fz else none
def A5.calmN {P:Program} {S:Sit} {N i:Nat} (hi:i≤N) {q:Nat→List Nat}:∀ {l:List Lf} {j:Nat} {us:List Value},(∀ y∈l,Cd y=true)→A5 P S (λ n => .tm i (q n)) j l us→A5 P { S with O:=atO S.O (Y0 N) } (λ n => .tm i (q n)) j (l.map Fu) us
 |[],_,[],_,_=>trivial
 |[],_,_::_,_,h=>h.elim
 |_::_,_,[],_,h=>h.elim
 |x::l,j,u::us,hs,h=>by
  have hfz:∀ k,S.O k = .fz→atO S.O (Y0 N) k = .fz:=λ k hk=>Ai hk (by simp);refine⟨?_,A5.calmN hi (λ y hy=>hs y (Ve _ hy)) h.2⟩;have h1:=hs x (by simp)
  cases x with
  |sc v=>exact h.1
  |fz e r xs=>exact Ty.rep_mono (t := .sl e r) hfz (λ _ _=>rfl) _ _ h.1
  |own e r xs=>
   have h2:Bt P S.O S.w (.tm i (q j)) e r xs u:=h.1;exact h2.reads (O':=λ k=>atO S.O (Y0 N) k) hfz (λ k hk=>De hk (by simp[Y0,hi]))
  |_=>simp[Cd]at h1
def Gl.calmN {P:Program} {S:Sit} {N n0 i:Nat} (hi:i≤N) {k:RK} (hk:k = .ptr→N<i+500) {l:List Lf} {u:Value} (hs:∀ y∈l,Cd y=true) (h:Gl P S n0 i k l u):Gl P { S with O:=atO S.O (Y0 N) } n0 i k (l.map Fu) u:=by
 cases k with
 |one=>exact A5.calmN (q:=λ _=>[]) hi hs h
 |agg=>
  obtain⟨us,e,h⟩:=h;exact⟨us,e,A5.calmN (q:=λ n=>[n]) hi hs h⟩
 |ptr=>
  obtain⟨k,o,c,e,us,h1,h2,h3,h4,h5,h6,h7,h8⟩:=h;have:=hk rfl;refine⟨k,o,c,e,us,h1,h2,h3,?_,by rw[Yj];exact h5,by rw[Yj];exact h6,by rw[Yj];exact h7,A5.calmN (q:=λ n=>[n]) hi hs h8⟩;exact F8 h4 (by unfold Y0;rw[if_neg (by omega)])
def Cy.calmN {P:Program} {S:Sit} {N n0:Nat} {rs:List (RK×Ty)} (hN:rs.length≤N) (hk:Dh rs=true→N<501) {ls:List (List Lf)} {v:Value} (hs:∀ l∈ls,∀ y∈l,Cd y=true) (h:Cy P S n0 rs ls v):Cy P { S with O:=atO S.O (Y0 N) } n0 rs (ls.map λ l=>l.map Fu) v:=by
 have all:∀ (rs:List (RK×Ty)) (i:Nat) (ls:List (List Lf)) (us:List Value),1≤i→i+rs.length≤N+1→(Dh rs=true→N<501)→(∀ l∈ls,∀ y∈l,Cd y=true)→E6 P S n0 i rs ls us→E6 P { S with O:=atO S.O (Y0 N) } n0 i rs (ls.map λ l=>l.map Fu) us:=by
  intro rs
  induction rs with
  |nil=>intro i ls us _ _ _ _ h;exact h
  |cons r rs ih=>
   intro i ls us h1 h2 h3 h4 h;simp only[Vh]at h2
   cases ls with
   |nil=>exact h.elim
   |cons l ls=>
    cases us with
    |nil=>exact h.elim
    |cons u us=>
     refine⟨Gl.calmN (by omega) (λ hp=>?_) (h4 l (by simp)) h.1,ih (i+1) ls us (by omega) (by omega) (λ hp=>h3 ?_) (λ l hl=>h4 l (Ve _ hl)) h.2⟩
     ·have:=h3 (by obtain⟨k,t⟩:=r;have:k = .ptr:=hp;subst this;rfl);omega
     ·obtain⟨k,t⟩:=r
      cases k<;>first|exact hp|rfl
 unfold Cy at h ⊢;split at h
 ·rename_i r;obtain⟨l,ls',e,h⟩:=h;subst e;refine⟨l.map Fu,_,rfl,Gl.calmN (by simpa using hN) (λ hp=>?_) (hs l (by simp)) h⟩;have:=hk (by obtain⟨k,t⟩:=r;have:k = .ptr:=hp;subst this;rfl);omega
 ·obtain⟨us,e,h⟩:=h;exact⟨us,e,all _ 1 _ _ (Vo _) (by omega) hk hs h⟩
def Nz {E:En} (K:Ae X S a) {A1:Ab} (hg:S.g=get A1) {rs:List (RK×Ty)} {ls:List (List Lf)} {d:Option Nat} {us:List Up} {v:Value} {n0:Nat} (hN:Dh rs=true→rs.length≤400) (hd:∀ d',d=some d'→d'<X.nt) (hn0:X.w0.heap.size≤n0) (hls:∀ l∈ls,∀ y∈l,Cd y=true) (hnp:∀ d',d=some d'→Dh rs=true→X.np≤d')
  (hr:Cy X.P S n0 rs ls v) (h:Hv A1 rs (shL E d ls) d=some us):∃ S',Ae X S' (a.put d v)∧S'.w=S.w∧S'.g=get (ups A1 us):=by
 cases d with
 |none=>exact Rh K hg hd hn0 hls hnp hr h
 |some d=>
  unfold shL at h;simp only at h;cases hsh:E.sh d
  ·rw[hsh]at h;exact Rh K hg hd hn0 hls hnp hr h
  rw[hsh,cond_true]at h
  have go:∀ N,rs.length≤N→(Dh rs=true→N<501)→∃ S',Ae X S' (a.put (some d) v)∧S'.w=S.w∧S'.g=get (ups A1 us):=by
   intro N h1 h2
   obtain⟨K1,_⟩:=K.names (Y0 N) (by intro n q;unfold Y0;split<;>simp)
   refine Rh (S := { S with O:=atO S.O (Y0 N) }) K1 hg hd hn0 (λ l hl y hy=>?_) hnp (hr.calmN h1 h2 hls) h;obtain⟨l0,h3,rfl⟩:=Zc.1 hl;obtain⟨y0,h4,rfl⟩:=Zc.1 hy;have:=hls l0 h3 y0 h4
   cases y0<;>first|rfl|simp[Cd]at this
  cases hp:Dh rs with
  |true=>exact go 400 (hN hp) (λ _=>by omega)
  |false=>exact go rs.length (Vo _) (λ h=>by rw[hp]at h;cases h)
end
end

section
attribute [local irreducible] C H
def Mk:List Ty→List (List Lf)→List (List Lf)→Prop
 |[],[],[]=>True
 |t::ts,l::ls,l'::ls'=>(∃ y,mkW t l=some y∧l'=A4 t y)∧Mk ts ls ls'
 |_,_,_=>False
def Iv:∀ (ts:List Ty) (ls:List (List Lf)) (x:Den ts),Ib ts ls=some x→Mk ts ls (An ts x)
 |[],[],_,_=>trivial
 |[],_::_,_,h=>by simp[Ib]at h
 |[t],[],_,h=>by simp[Ib]at h
 |[t],[l],x,h=>⟨⟨x,h,rfl⟩,trivial⟩
 |[t],_::_::_,_,h=>by simp[Ib]at h
 |_::_::_,[],_,h=>by simp[Ib]at h
 |t::u::ts,l::ls,x,h=>by
  simp only[Ib]at h;split at h
  ·rename_i y hy;split at h
   ·rename_i z hz;cases h;exact⟨⟨y,hy,rfl⟩,Iv (u::ts) ls z hz⟩
   ·cases h
  ·cases h
def D6:∀ (ts:List Ty) (x:Den ts),∀ l∈An ts x,∀ y∈l,Cd y=true
 |[],_=>by simp[An]
 |[t],x=>by
  intro l hl;simp[An]at hl;subst hl;exact Ek t x
 |t::u::ts,x=>by
  intro l hl;rcases Vk.1 (show l∈A4 t x.1::An (u::ts) x.2 from hl) with rfl|h
  ·exact Ek t x.1
  ·exact D6 (u::ts) x.2 l h
def Lq (t:Ty) (x:t.den) (h:Ei t=true):A4 t x=lvs t x:=Kt t x h
section
variable {X:Cx} {S S':Sit} {a:Act} {E:En} {A:Ab} {o:Oper} {R:Type} {Kc:List Up→Option R} {r:R}
def C8a (hE:Dx X E) (K:Ae X S a) (hg:S.g=get A) {T:TypeId} {x:Operand} {s:Sv} {ag:Bool} (hx:opT E T A x=some s) (hf:E5 ag s=true):
  ∃ us,∃ f:Nat→Lab,(if ag then a.eval x = .agg us.toArray else us=[a.eval x])∧A5 X.P S f 0 (parts s) us∧∀ n,f n ≠ .no:=by
 rcases F7 hE K hg hx with⟨t,rfl,ht,hst,het,hok⟩|⟨hnt,y,rfl,hy⟩
 ·cases s with
  |tup vs=>simp[E5,W1]at hf
  |one y=>
   have:ag=false:=by cases ag<;>simp[E5,W1]at hf ⊢
   subst this;exact⟨[a.eval (.tmp t)],λ _ => .pl t [],rfl,⟨hok,trivial⟩,by simp⟩
  |agg l=>
   have:ag=true:=by cases ag<;>simp[E5,W1]at hf ⊢
   subst this;obtain⟨us,e1,hl⟩:=hok;exact⟨us,λ n => .pl t [n],e1,hl,by simp⟩
 ·have:ag=false:=by cases ag<;>simp[E5,W1]at hf ⊢
  subst this;exact⟨[a.eval x],λ _ => .fz,rfl,⟨hy _,trivial⟩,by simp⟩
def O3 {ag:Bool} {s:Sv} (hf:E5 ag s=true):∀ vs,s ≠ .tup vs:=by
 intro vs e;subst e;simp[E5,W1]at hf
def Hn {ag:Bool} {s:Sv} {u:Value} {us:List Value} (hf:E5 ag s=true) (h:Ji s u us):if ag then u = .agg us.toArray else us=[u]:=by
 cases s with
 |tup vs=>simp[E5,W1]at hf
 |one y=>
  have:ag=false:=by cases ag<;>simp[E5,W1]at hf ⊢
  subst this;exact h
 |agg l=>
  have:ag=true:=by cases ag<;>simp[E5,W1]at hf ⊢
  subst this;exact h
def N0 {P:Program} {S:Sit} {G:Nat→Prop} {t:Ty} {l:List Lf} {y:t.den} {us:List Value} (hG:∀ k,G k→S.O k = .fz) (hm:mkW t l=some y) (hn:Ei t=true) (h:Ew (E9 P G S.w) l us) (f:Nat→Lab) (j:Nat):A5 P S f j (A4 t y) us:=by
 have h1:=Lc hm h;have h2:=Gd (P:=P) (G:=λ k=>S.O k = .fz) (w:=S.w) t y us (Ty.rep_mono hG (λ _ _=>rfl) t y us h1);rw[Lq t y hn];exact A5.ofRep h2 f j
def Jm (S:Sit):Nat→Lab:=λ k=>if S.O k = .no then .no else .fz
def C9a {y:Lf} {u:Value} {lab:Lab} (K:Ae X S a) (hg:S.g=get A) (h:Ad X.P S lab y u):∃ lab',(lab'=lab∨∃ p,lab' = .pl p [])∧Ad X.P S lab' (E8 A y) u:=by
 unfold E8;split
 ·rename_i p v;split
  ·rename_i n e r xs hp;cases hb:Nat.beq n v
   ·exact⟨lab,.inl rfl,trivial⟩
   have hnv:n=v:=by simpa using hb
   subst hnv;have e1:u=S.ph p:=h.2 (by rw[hg,hp]);refine⟨.pl p [],.inr ⟨p,rfl⟩,?_⟩;have:=K.at_ p;rw[hg,hp]at this;rw[e1];exact this
  ·rename_i n e r xs hp;cases hb:Nat.beq n v
   ·exact⟨lab,.inl rfl,trivial⟩
   have hnv:n=v:=by simpa using hb
   subst hnv;have e1:u=S.ph p:=h.2 (by rw[hg,hp]);refine⟨.pl p [],.inr ⟨p,rfl⟩,?_⟩;have:=K.at_ p;rw[hg,hp]at this;rw[e1];exact this
  ·exact⟨lab,.inl rfl,trivial⟩
 ·exact⟨lab,.inl rfl,h⟩
def T4 (K:Ae X S a) (hg:S.g=get A) {f:Nat→Lab} (hf:∀ n,f n ≠ .no):∀ {l:List Lf} {j:Nat} {us:List Value},A5 X.P S f j l us→A3 (l.map λ y=>Fu (Nd A y))=true→
  Ew (E9 X.P (λ k=>Jm S k = .fz) S.w) (l.map λ y=>Fu (Nd A y)) us
 |[],_,[],_,_ => .nil
 |[],_,_::_,h,_=>h.elim
 |_::_,_,[],h,_=>h.elim
 |y::l,j,u::us,h,hst=>by
  have hfz:∀ k,S.O k = .fz→Jm S k = .fz:=λ k hk=>by simp[Jm,hk]
  rw[Ya]at hst ⊢
  have hrest:A3 (l.map λ y=>Fu (Nd A y))=true:=by
   generalize Fu (Nd A y)=z at hst
   cases z<;>first|(simp[A3]at hst;done)|simpa[A3] using hst
  refine .cons ?_ (T4 K hg hf h.2 hrest)
  have hv:(∃ lab',lab' ≠ .no∧Ad X.P S lab' (Nd A y) u)∨∃ p e r,∃ xs:List (Ty.den r),Nd A y = .fz e r xs∧R6 X.P S p e r xs u:=by
   unfold Nd;split
   ·rename_i p v pi e r xs;cases hq:Nat.beq (get A p).1 v
    ·exact .inl ⟨f j,hf j,trivial⟩
    obtain⟨_,_,h2⟩:=h.1;exact .inr ⟨p,e,r,xs,rfl,(h2 (by rw[hg];exact Vb hq)).2.1⟩
   ·obtain⟨lab',hlab,h1⟩:=C9a K hg h.1;refine .inl ⟨lab',?_,h1⟩;rcases hlab with rfl|⟨p,rfl⟩
    ·exact hf j
    ·simp
  rcases hv with⟨lab',hno,h1⟩|⟨p,e,r,xs,e1,h1⟩
  rotate_left 1
  ·rw[e1]
   exact h1.reads (λ k hk=>by
    rcases hk with hk|hk<;>simp[Jm,hk])
  generalize Nd A y=z at h1 hst
  cases z with
  |sc v=>exact h1
  |fz e r xs=>exact Ty.rep_mono (t := .sl e r) hfz (λ _ _=>rfl) _ _ h1
  |own e r xs=>
   have h2:Bt X.P S.O S.w lab' e r xs u:=h1;exact h2.reads (O':=Jm S) hfz (λ k hk=>by simp[Jm,hk,hno])
  |_=>simp[Fu,A3]at hst
def Pu (hE:Dx X E) (K:Ae X S a) (hg:S.g=get A) (rg:Nat→Nat×Nat) (nv:Nat) (hs:List Value):∀ (ps:List Par) {xs:List Operand} {ss:List Sv} {ls ls':List (List Lf)} {i:Nat},Ew (λ s x=>∃ T,opT E T A x=some s) ss xs→Gz A ps ss=some ls→Mk (ps.map Par.ty) ls ls'→
  Gy ps=true→Fp X.P (bare (Jm S) S.w) rg nv hs i ps ls' (xs.map a.eval)∧xs.length=ps.length
 |[],_,_,ls,ls',i,.nil,h,hm,_=>by
  simp only[Gz,Vc]at h;subst h
  cases ls' with
  |nil=>exact⟨trivial,rfl⟩
  |cons=>exact hm.elim
 |[],_,_,ls,ls',i,.cons _ _,h,hm,_=>by simp[Gz]at h
 |.ptr _ _::_,_,_,_,_,_,_,_,_,hl=>by simp[Gy]at hl
 |.hid _ _::_,_,_,_,_,_,_,_,_,hl=>by simp[Gy]at hl
 |.rd _::_,_,_,_,_,_,_,_,_,hl=>by simp[Gy]at hl
 |.fn _ _::_,_,_,_,_,_,_,_,_,hl=>by simp[Gy]at hl
 |.val ag t::ps,_,_,ls,ls',i,.nil,h,_,_=>by simp[Gz]at h
 |.val ag t::ps,_,_,ls,ls',i,.cons (x:=s) (y:=x) (xs:=ss) (ys:=xs) hs1 hss,h,hm,hl=>by
  simp only[Gy,Va]at hl;simp only[Gz]at h;obtain⟨hq,h⟩:=cs h;simp only[Va]at hq;split at h
  ·rename_i ls1 hls1;cases h
   cases ls' with
   |nil=>exact hm.elim
   |cons l' ls'=>
    obtain⟨⟨y,hy,rfl⟩,hm2⟩:=hm;obtain⟨T,hx⟩:=hs1;obtain⟨us,f,hsh,hlf,hf⟩:=C8a hE K hg hx hq.1;obtain⟨r1,r2⟩:=Pu hE K hg rg nv hs (i:=i+1) ps hss hls1 hm2 hl.2;exact⟨⟨⟨us,hsh,N0 (S:=bare (Jm S) S.w) (λ k hk=>hk) hy hl.1 (T4 K hg hf hlf hq.2) _ _⟩,r1⟩,by simp[r2]⟩
  ·cases h
def Gn:Lf→Bool
 |.sc _=>true
 |.own _ r _=>Cf r
 |_=>false
def Fs:∀ (t:Ty) (x:t.den),Cf t=true→∀ y∈A4 t x,Gn y=true
 |.i _,_,_=>by simp[A4,Gn]
 |.b,_,_=>by simp[A4,Gn]
 |.s,_,_=>by simp[A4,Gn]
 |.sl _ _,_,h=>by simp[Cf]at h
 |.ow _ r,_,h=>by simpa[A4,Gn,Cf] using h
 |.pr x y,p,h=>by
  simp only[Cf,Va]at h;intro z hz;rcases Vn.1 (show z∈A4 x p.1++A4 y p.2 from hz) with h'|h'
  ·exact Fs x p.1 h.1 z h'
  ·exact Fs y p.2 h.2 z h'
def Gya {P:Program} {S1 S2:Sit} {lab lab':Lab} {y:Lf} {u:Value} (hy:Gn y=true) (hw:S2.w=S1.w) (hl:∀ k,S1.O k=lab→S2.O k=lab') (h:Ad P S1 lab y u):Ad P S2 lab' y u:=by
 cases y with
 |sc v=>exact h
 |own e r xs=>
  obtain⟨bs,h1,h2,h3⟩:=h;exact⟨bs,Ty.dep_all (.ow e r) xs [u] bs hy (λ k _=>by rw[hw]) h1,h2,λ k hk=>hl k (h3 k hk)⟩
 |_=>simp[Gn]at hy
def Lr:∀ (rs:List (RK×Ty)) (x:Den (rs.map Prod.snd)),Mg rs=true→∀ l∈An (rs.map Prod.snd) x,∀ y∈l,Gn y=true
 |[],_,_=>λ l hl=>by cases (show l∈([]:List (List Lf)) from hl)
 |[(k,t)],x,h=>by
  intro l hl;have hl':l∈[A4 t x]:=hl;simp at hl';subst hl'
  have:Cf t=true:=by cases k<;>simp[Mg]at h<;>exact h
  exact Fs t x this
 |(k,t)::r2::rs,x,h=>by
  intro l hl
  have h2:Cf t=true∧Mg (r2::rs)=true:=by
   cases k<;>simp only[Mg,Va]at h<;>first|exact h|cases h
  rcases Vk.1 (show l∈A4 t x.1::An ((r2::rs).map Prod.snd) x.2 from hl) with rfl|h'
  ·exact Fs t x.1 h2.1
  ·exact Lr (r2::rs) x.2 h2.2 l h'
end
end

section
attribute [local irreducible] C H
section
variable {X:Cx} {S S':Sit} {a:Act} {E:En} {A:Ab} {o:Oper} {R:Type} {Kc:List Up→Option R} {r:R}
def Pv {P:Program} {w:World} {c:Call} {f:FuncId} {en:Ent} (ho:o.op = .call c) (hc:c.callee = .value (.func f)) (hf:Fq P f en):(execOp a.eval o).run P w = .ok (.enter f (c.args.toList.map a.eval).toArray) w:=by
 obtain⟨fn,h1,h2,h3⟩:=hf.fn
 have e1:c.args.map a.eval=(c.args.toList.map a.eval).toArray:=by
  apply Ksa;simp
 unfold execOp;simp only[ho,resolve,hc,Act.eval,Deferred.ofValue,Vt,Wh,Vs,invoke,callFunc,run_program,h1];rw[if_neg (by rw[h2];simp),if_neg (by rw[h3];simp)];simp only[Wh,Array.append_empty,Array.empty_append];rw[e1]
def Ui {P:Program} {w:World} {c:Call} {f:FuncId} {en:Ent} {t:Nat} {us:List Value} (ho:o.op = .call c) (hc:c.callee = .value (.tmp t)) (hv:a.eval (.tmp t) = .func (.func f) #[] us.toArray) (hf:Fq P f en):
  (execOp a.eval o).run P w = .ok (.enter f (c.args.toList.map a.eval++us).toArray) w:=by
 obtain⟨fn,h1,h2,h3⟩:=hf.fn
 have e1 : #[]++(c.args.map a.eval++us.toArray)=(c.args.toList.map a.eval++us).toArray:=by
  apply Ksa;simp
 have e2 : #[]++c.args.map a.eval++us.toArray=(c.args.toList.map a.eval++us).toArray:=by
  apply Ksa;simp
 unfold execOp;simp only[ho,resolve,hc,hv,Deferred.ofValue,Vt,Wh,Vs,invoke,callFunc,run_program,h1];rw[if_neg (by rw[h2];simp),if_neg (by rw[h3];simp)];simp only[Wh]
 first|rw[e1]|rw[e2]
def Jn {f:FuncId} {args:Array Value} {w:World} {A':Ab} (hr:(execOp a.eval o).run X.P w = .ok (.enter f args) w)
  (h:Calls X.P f args w (λ e w'=>∃ v,e = .returned v∧∃ S',S'.w=w'∧Ae X S' (a.put o.dst v)∧S'.g=get A')):X7 X o a w A':=by
 intro next Q hn;unfold Oper.wp;rw[hr,Oper.upon_enter];intro cs;obtain⟨e,w',fr,⟨v,rfl,S',hw,K',hg'⟩,rest⟩:=h cs;refine⟨_,w',fr,?_,rest⟩;rw[← hw];exact hn S' _ K' hg'
def Ho {P:Program} {f:FuncId} {args:Array Value} {w:World} {R1 R2:Ending→World→Prop} (h:Calls P f args w R1) (hi:∀ e w',R1 e w'→R2 e w'):Calls P f args w R2:=by
 intro cs;obtain⟨e,w',fr,hr,rest⟩:=h cs;exact⟨e,w',fr,hi _ _ hr,rest⟩
def N1:∀ ps:List Par,Gy ps=true→Cw ps=[]
 |[],_=>rfl
 |.val _ _::ps,h=>by
  simp only[Gy,Va]at h;exact N1 ps h.2
 |.ptr _ _::_,h=>by simp[Gy]at h
 |.hid _ _::_,h=>by simp[Gy]at h
 |.rd _::_,h=>by simp[Gy]at h
 |.fn _ _::_,h=>by simp[Gy]at h
def Caa {ts:List Ty} {rs:List (RK×Ty)} (he:ts=rs.map Prod.snd) (x:Den ts) (h:Mg rs=true):∀ l∈An ts x,∀ y∈l,Gn y=true:=by
 subst he;exact Lr rs x h
def Hp:∀ rs:List (RK×Ty),Mg rs=true→Dh rs=false
 |[],_=>rfl
 |(k,t)::rs,h=>by
  cases k with
  |ptr=>simp[Mg]at h
  |one=>simp only[Mg,Va]at h;exact Hp rs h.2
  |agg=>simp only[Mg,Va]at h;exact Hp rs h.2
def Exa (hE:Dx X E) (K:Ae X S a) (hg:S.g=get A) {xs:List Operand} {f:FuncId} {en:Ent} {ss:List Sv} (hrun:(execOp a.eval o).run X.P S.w = .ok (.enter f (xs.map a.eval).toArray) S.w) (hd:∀ d,o.dst=some d→d<X.nt)
  (hco:Fq X.P f en) (hnv:en.nv=xs.length) (hss:Ew (λ s x=>∃ T,opT E T A x=some s) ss xs) (hl:Gy en.ps=true) (hn:Mg en.rs=true)
  (h:(match Gz A en.ps ss with
  |none=>none
  |some ls=>match Ib _ ls with
   |none=>none
   |some x=>(en.run x).bind λ r=>
    match Hv A en.rs (shL E o.dst (An _ r)) o.dst with
    |none=>none
    |some rs=>Kc rs)=some r):D8 X o a S.w A Kc r:=by
 split at h
 ·cases h
 ·rename_i ls hls;split at h
  ·cases h
  ·rename_i x hx
   cases hrun':en.run x with
   |none=>rw[hrun']at h;simp at h
   |some y=>
    rw[hrun']at h;simp only[Ym]at h;split at h
    ·cases h
    ·rename_i us hus;obtain⟨hargs,hlen⟩:=Pu (i:=0) hE K hg (λ _=>(0,0)) en.nv ((xs.map a.eval).drop en.nv) en.ps hss hls (Iv _ _ _ hx) hl
     have hs:=hco.sound x y hrun' S.w (Jm S) (λ _=>(0,0)) _ (λ k hk=>K.lt k (λ e=>hk (by simp[Jm,e]))) (λ k b hk=>by unfold Jm at hk;split at hk<;>cases hk) hargs
     rw[Za (by rw[Yj,hnv];exact Vo _)]at hs;refine⟨us,h,Jn hrun (Ho hs ?_)⟩;rintro e w' ⟨v,O',rfl,hF,hlt,hres,_⟩;refine⟨v,rfl,?_⟩
     have hsame:∀ k,k<S.w.heap.size→w'.heap[k]? = S.w.heap[k]? ∧ (O' k = .no∨O' k = .fz):=λ k hk=>by
      by_cases h0:S.O k = .no
      ·have:=hF.no k hk (by simp[Jm,h0]);exact⟨this.2,.inl this.1⟩
      ·have:=hF.fz k hk (by simp[Jm,h0]);exact⟨this.2,.inr this.1⟩
     let O2:Nat→Lab:=λ k=>if k<S.w.heap.size then S.O k else O' k
     obtain⟨K1,L1⟩:=K.world (w':=w') (O':=O2) (λ k hk _=>⟨if_pos hk,(hsame k hk).1⟩) hF.os hF.tape hF.out hF.size (λ k hk=>by
      by_cases hkl:k<S.w.heap.size
      ·exact Wf hkl hF.size
      ·exact hlt k (by simpa[O2,hkl] using hk))
     have htm:∀ k i q,O' k = .tm i q→O2 k = .tm i q:=λ k i q hk=>by
      have:¬ k<S.w.heap.size:=λ hkl=>by
       rcases (hsame k hkl).2 with h|h<;>rw[h]at hk<;>cases hk
      simp[O2,this,hk]
     have hnews:=Caa (by rw[N1 en.ps hl,Yc]) y hn;have hres1:Cy X.P (Kj S w' O2) S.w.heap.size en.rs (An _ y) v:=Cy.imp (S1:=bare O' w') (S2:=Kj S w' O2) rfl (λ k i hk=>htm k i [] hk) (λ l hl' z hz i q u hu=>Gya (S1:=bare O' w') (S2:=Kj S w' O2) (hnews l hl' z hz) rfl (λ k hk=>htm k i q hk) hu) hres;obtain⟨S2,K2,w2,g2⟩:=Nz (E:=E) K1 (A1:=A) hg (λ h=>by rw[Hp _ hn]at h;cases h) hd K.fr.size (D6 _ y) (λ d' _ h=>by rw[Hp _ hn]at h;cases h) hres1 hus;exact⟨S2,w2,K2,g2⟩
end
end

section
attribute [local irreducible] C H
def Kw:List Ty→List Lf→Prop
 |.ow _ _::ts,_::l=>Kw ts l
 |_::ts,x::l=>x.isOwn=false∧Kw ts l
 |[],[]=>True
 |_,_=>False
def Uj (z:Lf):(Fu z).isOwn=false:=by cases z<;>rfl
def Eu:∀ (ts:List Ty) (l:List Lf) {A:Ab} {m:List Lf} {us:List Up},Bw A ts l=some (m,us)→Kw ts m
 |[],[],A,m,us,h=>by
  simp only[Bw,Vc,Vu]at h;obtain⟨rfl,_⟩:=h;trivial
 |[],_::_,A,m,us,h=>by simp[Bw]at h
 |t::ts,[],A,m,us,h=>by cases t<;>simp[Bw]at h
 |t::ts,x::l,A,m,us,h=>by
  cases t with
  |ow e r=>
   simp only[Bw]at h;split at h
   ·split at h
    ·rename_i hr;cases h;exact Eu ts l hr
    ·cases h
   ·cases h
  |_=>
   simp only[Bw]at h;split at h
   ·rename_i hr;cases h;exact⟨Uj _,Eu ts l hr⟩
   ·cases h
def Jo {A:Ab} {x:Operand} {s:Sv} {t:Ty} {m:List Lf} {us:List Up} (h:Ic A x s t=some (m,us)):Kw (Ck t) m:=by
 unfold Ic Jb at h;split at h
 ·rename_i m0 vs0 ht;cases hst:A3 m0
  ·rw[hst]at h;simp at h
  rw[hst]at h;simp only[cond_true,Vc,Vu]at h;obtain⟨rfl,rfl⟩:=h;exact Eu _ _ ht
 ·cases h
def Jp {A:Ab} {b v:Nat} {t t':Ty} {m:List Lf} {us:List Up} (h:I2 A b v t t'=some (m,us)):Kw (Ck t) m:=by
 unfold I2 at h;split at h
 ·rename_i n hd hp;obtain⟨hq,h⟩:=cs h;split at h
  ·rename_i l us0 hx;cases hst:A3 l
   ·rw[hst]at h;simp at h
   rw[hst]at h;simp only[cond_true,Vc,Vu]at h;obtain⟨rfl,rfl⟩:=h;exact Eu _ _ hx
  ·cases h
 ·cases h
def Cba {P:Program} {S:Sit} {f:Nat→Lab}:∀ (t:Ty) (ts:List Ty) (l l':List Lf) (x:t.den) (j:Nat) (us:List Value),Kw (Ck t++ts) l→mkT t l=some (x,l')→A5 P S f j l us→A5 P S f j (A4 t x++l') us∧Kw ts l':=by
 intro t
 induction t with
 |pr p q ihp ihq=>
  intro ts l l' x j us h hm hl;simp only[Ck,Vl]at h;simp only[mkT]at hm;split at hm
  ·rename_i y l1 h1;split at hm
   ·rename_i z l2 h2;simp only[Vc,Vu]at hm;obtain⟨rfl,rfl⟩:=hm;obtain⟨h3,h4⟩:=ihp _ _ _ _ j us h h1 hl
    have key:∀ (a:List Lf) (j:Nat) (us:List Value),A5 P S f j (a++l1) us→A5 P S f j (a++(A4 q z++l2)) us∧Kw ts l2:=by
     intro a
     induction a with
     |nil=>intro j us h5;exact ihq _ _ _ _ j us h4 h2 h5
     |cons b a ih=>
      intro j us h5
      cases us with
      |nil=>exact h5.elim
      |cons u us=>exact⟨⟨h5.1,(ih (j+1) us h5.2).1⟩,(ih (j+1) us h5.2).2⟩
    have h5:=key _ j us h3;rw[← Vl]at h5;exact h5
   ·cases hm
  ·cases hm
 |ow e r _=>
  intro ts l l' x j us hf hm hl
  cases l with
  |nil=>simp[mkT]at hm
  |cons z l=>
   cases us with
   |nil=>exact hl.elim
   |cons u us=>
    cases z<;>first|(simp[mkT]at hm;done)|skip
    rename_i e' r' xs;simp only[mkT]at hm;rw[csi]at hm;obtain⟨hb,hm⟩:=hm;have he:e=e':=Vb hb;subst he;split at hm
    ·rename_i ys hys;simp only[Vc,Vu]at hm;obtain⟨rfl,rfl⟩:=hm;exact⟨⟨Bt.cast hys hl.1,hl.2⟩,hf⟩
    ·cases hm
 |sl e r _=>
  intro ts l l' x j us hf hm hl
  cases l with
  |nil=>simp[mkT]at hm
  |cons z l=>
   cases us with
   |nil=>exact hl.elim
   |cons u us=>
    obtain⟨hz,hf⟩:z.isOwn=false∧Kw ts l:=hf
    cases z<;>first|(simp[mkT]at hm;done)|(simp[Lf.isOwn]at hz;done)|skip
    rename_i e' r' xs;simp only[mkT]at hm;rw[csi]at hm;obtain⟨hb,hm⟩:=hm;have he:e=e':=Vb hb;subst he;split at hm
    ·rename_i ys hys;simp only[Vc,Vu]at hm;obtain⟨rfl,rfl⟩:=hm;exact⟨⟨Ii hys hl.1,hl.2⟩,hf⟩
    ·cases hm
 |i k=>
  intro ts l l' x j us hf hm hl
  cases l with
  |nil=>simp[mkT]at hm
  |cons z l=>
   cases z<;>first|(simp[mkT]at hm;done)|skip
   rename_i v
   cases v<;>first|(simp[mkT]at hm;done)|skip
   rename_i k' n;simp only[mkT]at hm
   by_cases hk:k=k'
   ·subst hk;simp at hm;obtain⟨rfl,rfl⟩:=hm;exact⟨hl,hf.2⟩
   ·simp[hk]at hm
 |b=>
  intro ts l l' x j us hf hm hl
  cases l with
  |nil=>simp[mkT]at hm
  |cons z l=>
   cases z<;>first|(simp[mkT]at hm;done)|skip
   rename_i v
   cases v<;>first|(simp[mkT]at hm;done)|skip
   simp[mkT]at hm;obtain⟨rfl,rfl⟩:=hm;exact⟨hl,hf.2⟩
 |s=>
  intro ts l l' x j us hf hm hl
  cases l with
  |nil=>simp[mkT]at hm
  |cons z l=>
   cases z<;>first|(simp[mkT]at hm;done)|skip
   rename_i v
   cases v<;>first|(simp[mkT]at hm;done)|skip
   simp[mkT]at hm;obtain⟨rfl,rfl⟩:=hm;exact⟨hl,hf.2⟩
def Fa {P:Program} {S:Sit} {f:Nat→Lab} {t:Ty} {l:List Lf} {x:t.den} {j:Nat} {us:List Value} (hf:Kw (Ck t) l) (h:mkW t l=some x) (hl:A5 P S f j l us):A5 P S f j (A4 t x) us:=by
 unfold mkW at h;split at h
 ·rename_i y hy;cases h;have:=(Cba t [] l [] _ j us (by rw[Yc];exact hf) hy hl).1;rwa [Yc]at this
 ·cases h
def Gza {Q:Nat→Lf→Value→Prop} (hqo:∀ j e r r' (xs:List (Ty.den r')) (ys:List (Ty.den r)) u,Ht r r' xs=some ys→Q j (.own e r' xs) u→Q j (.own e r ys) u) (hqf:∀ j e r r' (xs:List (Ty.den r')) (ys:List (Ty.den r)) u,I0 r r' xs=some ys→Q j (.fz e r' xs) u→Q j (.fz e r ys) u):∀ (t:Ty) (ts:List Ty) (l l':List Lf) (x:t.den) (j:Nat) (us:List Value),Kw (Ck t++ts) l→mkT t l=some (x,l')→Ny Q j l us→Ny Q j (A4 t x++l') us∧Kw ts l':=by
 intro t
 induction t with
 |pr p q ihp ihq=>
  intro ts l l' x j us h hm hl;simp only[Ck,Vl]at h;simp only[mkT]at hm;split at hm
  ·rename_i y l1 h1;split at hm
   ·rename_i z l2 h2;simp only[Vc,Vu]at hm;obtain⟨rfl,rfl⟩:=hm;obtain⟨h3,h4⟩:=ihp _ _ _ _ j us h h1 hl
    have key:∀ (a:List Lf) (j:Nat) (us:List Value),Ny Q j (a++l1) us→Ny Q j (a++(A4 q z++l2)) us∧Kw ts l2:=by
     intro a
     induction a with
     |nil=>intro j us h5;exact ihq _ _ _ _ j us h4 h2 h5
     |cons b a ih=>
      intro j us h5
      cases us with
      |nil=>exact h5.elim
      |cons u us=>exact⟨⟨h5.1,(ih (j+1) us h5.2).1⟩,(ih (j+1) us h5.2).2⟩
    have h5:=key _ j us h3;rw[← Vl]at h5;exact h5
   ·cases hm
  ·cases hm
 |ow e r _=>
  intro ts l l' x j us hf hm hl
  cases l with
  |nil=>simp[mkT]at hm
  |cons z l=>
   cases us with
   |nil=>exact hl.elim
   |cons u us=>
    cases z<;>first|(simp[mkT]at hm;done)|skip
    rename_i e' r' xs;simp only[mkT]at hm;rw[csi]at hm;obtain⟨hb,hm⟩:=hm;have he:e=e':=Vb hb;subst he;split at hm
    ·rename_i ys hys;simp only[Vc,Vu]at hm;obtain⟨rfl,rfl⟩:=hm;exact⟨⟨hqo _ _ _ _ _ _ _ hys hl.1,hl.2⟩,hf⟩
    ·cases hm
 |sl e r _=>
  intro ts l l' x j us hf hm hl
  cases l with
  |nil=>simp[mkT]at hm
  |cons z l=>
   cases us with
   |nil=>exact hl.elim
   |cons u us=>
    obtain⟨hz,hf⟩:z.isOwn=false∧Kw ts l:=hf
    cases z<;>first|(simp[mkT]at hm;done)|(simp[Lf.isOwn]at hz;done)|skip
    rename_i e' r' xs;simp only[mkT]at hm;rw[csi]at hm;obtain⟨hb,hm⟩:=hm;have he:e=e':=Vb hb;subst he;split at hm
    ·rename_i ys hys;simp only[Vc,Vu]at hm;obtain⟨rfl,rfl⟩:=hm;exact⟨⟨hqf _ _ _ _ _ _ _ hys hl.1,hl.2⟩,hf⟩
    ·cases hm
 |i k=>
  intro ts l l' x j us hf hm hl
  cases l with
  |nil=>simp[mkT]at hm
  |cons z l=>
   cases z<;>first|(simp[mkT]at hm;done)|skip
   rename_i v
   cases v<;>first|(simp[mkT]at hm;done)|skip
   rename_i k' n;simp only[mkT]at hm
   by_cases hk:k=k'
   ·subst hk;simp at hm;obtain⟨rfl,rfl⟩:=hm;exact⟨hl,hf.2⟩
   ·simp[hk]at hm
 |b=>
  intro ts l l' x j us hf hm hl
  cases l with
  |nil=>simp[mkT]at hm
  |cons z l=>
   cases z<;>first|(simp[mkT]at hm;done)|skip
   rename_i v
   cases v<;>first|(simp[mkT]at hm;done)|skip
   simp[mkT]at hm;obtain⟨rfl,rfl⟩:=hm;exact⟨hl,hf.2⟩
 |s=>
  intro ts l l' x j us hf hm hl
  cases l with
  |nil=>simp[mkT]at hm
  |cons z l=>
   cases z<;>first|(simp[mkT]at hm;done)|skip
   rename_i v
   cases v<;>first|(simp[mkT]at hm;done)|skip
   simp[mkT]at hm;obtain⟨rfl,rfl⟩:=hm;exact⟨hl,hf.2⟩
def H0a {Q:Nat→Lf→Value→Prop} (hqo:∀ j e r r' (xs:List (Ty.den r')) (ys:List (Ty.den r)) u,Ht r r' xs=some ys→Q j (.own e r' xs) u→Q j (.own e r ys) u) (hqf:∀ j e r r' (xs:List (Ty.den r')) (ys:List (Ty.den r)) u,I0 r r' xs=some ys→Q j (.fz e r' xs) u→Q j (.fz e r ys) u) {t:Ty} {l:List Lf} {x:t.den} {j:Nat} {us:List Value} (hf:Kw (Ck t) l) (h:mkW t l=some x) (hl:Ny Q j l us):Ny Q j (A4 t x) us:=by
 unfold mkW at h;split at h
 ·rename_i y hy;cases h;have:=(Gza hqo hqf t [] l [] _ j us (by rw[Yc];exact hf) hy hl).1;rwa [Yc]at this
 ·cases h
def Uk {r:Ty} (xs:List r.den):I0 r r xs=some xs:=by
 unfold I0;rw[dif_pos rfl];rfl
def Ul {r:Ty} (xs:List r.den):Ht r r xs=some xs:=by
 unfold Ht;rw[dif_pos rfl]
def Jq:∀ (t:Ty) (x:t.den) (l:List Lf),mkT t (A4 t x++l)=some (x,l)
 |.i _,_,_=>by simp[A4,mkT]
 |.b,_,_=>by simp[A4,mkT]
 |.s,_,_=>by simp[A4,mkT]
 |.sl _ _,_,_=>by simp[A4,mkT,Uk]
 |.ow _ _,_,_=>by simp[A4,mkT,Ul]
 |.pr x y,p,l=>by
  show mkT (.pr x y) ((A4 x p.1++A4 y p.2)++l)=_;rw[Vl];simp only[mkT];rw[Jq x p.1];simp only;rw[Jq y p.2]
def Um (t:Ty) (x:t.den):mkW t (A4 t x)=some x:=by
 unfold mkW;have:=Jq t x [];rw[Yc]at this;rw[this]
def Ls (S:Sit) (b:Nat×Nat):Value := .pointer (some ⟨(S.bb b.1).1,(S.bb b.1).2+0,none⟩)
def nmV (i:Nat):Nat:=10+2*i
def nmB (B:Nat):Nat:=11+2*B
def Eya (P:Program) (S:Sit) (B:Nat) (t t':Ty) (l:List Lf) (u:Value) (bs:List (Nat×Nat)):Prop:=
 ∃ b,bs=[(b,B)]∧u = .pointer (some ⟨(S.bb b).1,(S.bb b).2,none⟩)∧(S.g (H b)).2 = .one (.hd t.sz)∧t'.sz=t.sz∧l.length=t.sz∧A3 l=true∧Kw (Ck t) l∧
  A5 P S (λ j => .tm (nmB B) [j]) 0 l ((List.range t.sz).map λ j=>S.ph (C b (0+j)))
def H1a (P:Program) (S:Sit) (cb hb:List (Nat×Nat)) (nv i:Nat):Par→List Lf→Value→List (Nat×Nat)→Prop
 |.io _ _,_,_,_=>False
 |.vw t h,l,u,bs=>bs=[]∧nv≤h∧l.length=t.sz∧Kw (Ck t) l∧∃ c vs,nth hb (h-nv)=some c∧(S.g (H c.1)).2 = .one (.hd t.sz)∧u = .agg vs.toArray∧Ny (Ug P S (λ j=>S.ph (C c.1 j))) 0 l vs
 |.val ag t,l,u,bs=>bs=[]∧A3 l=true∧Kw (Ck t) l∧∃ us,(if ag then u = .agg us.toArray else us=[u])∧A5 P S (λ n => .tm (nmV i) (if ag then [n] else [])) 0 l us
 |.ptr t t',l,u,bs=>Eya P S (bid nv i) t t' l u bs
 |.hid t t',l,u,bs=>Eya P S (bid nv i) t t' l u bs
 |.rd t,l,u,bs=>bs=[]∧∃ r x k o cs,l=lvs r x∧shp r=shp t∧Ei t=true∧u = .pointer (some ⟨k,o,none⟩)∧S.O k = .fz∧r.rep P (λ k=>S.O k = .fz) S.w x cs∧Bj S.w k o cs
 |.fn F m,_,u,bs=>bs=[]∧m=cb.length∧u = .func (.func F) #[] (cb.map (Ls S)).toArray
def Ri (P:Program) (S:Sit) (cb hb:List (Nat×Nat)) (nv:Nat):Nat→List Par→List (List Lf)→List Value→List (Nat×Nat)→Prop
 |_,[],[],[],bs=>bs=[]
 |i,p::ps,l::ls,u::us,bs=>∃ b1 b2,bs=b1++b2∧H1a P S cb hb nv i p l u b1∧Ri P S cb hb nv (i+1) ps ls us b2
 |_,_,_,_,_=>False
def Y1 {nv i j:Nat} (hn:nv≤1000) (h:bid nv i=bid nv j):i=j:=by
 unfold bid at h
 cases h1:Nat.blt i nv<;>cases h2:Nat.blt j nv<;>rw[h1,h2]at h<;>simp only[cond_true,cond_false]at h
 ·have h3:¬ i<nv:=λ h'=>by rw[show Nat.blt i nv=true from Yp h']at h1;cases h1
  have h4:¬ j<nv:=λ h'=>by rw[show Nat.blt j nv=true from Yp h']at h2;cases h2
  omega
 ·have h4:j<nv:=Vd h2;omega
 ·have h4:i<nv:=Vd h1;omega
 ·exact h
section
variable {X:Cx} {S S1 S2:Sit} {a:Act} {E:En} {A:Ab} {o:Oper} {R:Type} {Kc:List Up→Option R} {r:R}
def exA (nv i:Nat):Nat→List Nat→Prop:=λ n _=>∃ j,i≤j∧(n=nmV j∨n=nmB (bid nv j))
def Y2 {nv i j:Nat} (hn:nv≤1000) (h:j<i) (q:List Nat):¬ exA nv i (nmV j) q∧¬ exA nv i (nmB (bid nv j)) q:=by
 refine⟨λ ⟨k,h1,h2⟩=>?_,λ ⟨k,h1,h2⟩=>?_⟩
 ·unfold nmV nmB at h2;omega
 ·unfold nmV nmB at h2;rcases h2 with h2|h2
  ·omega
  ·have:bid nv j=bid nv k:=by omega
   have:=Y1 hn this;omega
def Ny.imp {Q Q':Nat→Lf→Value→Prop} (h:∀ j x u,Q j x u→Q' j x u):∀ {l:List Lf} {j:Nat} {us:List Value},Ny Q j l us→Ny Q' j l us
 |[],_,[],_=>trivial
 |[],_,_::_,h'=>h'.elim
 |_::_,_,[],h'=>h'.elim
 |_::_,j,_::_,h'=>⟨h _ _ _ h'.1,Ny.imp h h'.2⟩
def Ug.later {P:Program} {S S':Sit} {w w':Nat→Value} {j:Nat} {x:Lf} {u:Value} (hw:w'=w) (hl:∀ x u,Bba x=true→Ad P S .fz x u→Ad P S' .fz x u) (h:Ug P S w j x u):Ug P S' w' j x u:=by
 subst hw
 cases x<;>first|exact h|exact⟨h.1,hl _ _ h.1 h.2⟩
def H1a.stay {cb hb:List (Nat×Nat)} {nv i j:Nat} {p:Par} {l:List Lf} {u:Value} {bs:List (Nat×Nat)} (hn:nv≤1000) (h:Bp X S S1 (exA nv i)) (hj:j<i) (hp:H1a X.P S cb hb nv j p l u bs):H1a X.P S1 cb hb nv j p l u bs:=by
 have hfz:∀ k,S.O k = .fz→S1.O k = .fz:=λ k hk=>(h.later.fz k hk).1
 have box:∀ {t t':Ty},Eya X.P S (bid nv j) t t' l u bs→Eya X.P S1 (bid nv j) t t' l u bs:=by
  rintro t t' ⟨b,h1,h2,h3,h4,h5,h6,h7,h8⟩;refine⟨b,h1,by rw[h.bb];exact h2,by rw[h.heads b _ h3];exact h3,h4,h5,h6,h7,?_⟩;rw[h.ph];exact h8.imp (λ n x u hx=>h.tms _ _ _ _ (Y2 hn hj _).2 hx)
 cases p with
 |io ag t=>exact hp.elim
 |vw t h0=>
  obtain⟨h1,h2,h3,h4,c,vs,h5,h6,h7,h8⟩:=hp;refine⟨h1,h2,h3,h4,c,vs,h5,by rw[h.heads c.1 _ h6];exact h6,h7,h8.imp (λ j x u hx=>hx.later (by rw[h.ph]) (λ x u hs hx=>?_))⟩;exact Ad.later h.later hx (λ k hk=>⟨hfz k hk,by rw[h.w]⟩)
 |val ag t=>
  obtain⟨h1,h2,h3,us,h4,h5⟩:=hp;exact⟨h1,h2,h3,us,h4,h5.imp (λ n x u hx=>h.tms _ _ _ _ (Y2 hn hj _).1 hx)⟩
 |ptr t t'=>exact box hp
 |hid t t'=>exact box hp
 |rd t=>
  obtain⟨h1,r',x,k,o',cs,h2,h3,h4,h5,h6,h7,h8⟩:=hp;exact⟨h1,r',x,k,o',cs,h2,h3,h4,h5,hfz k h6,Ty.rep_mono hfz (λ k _=>by rw[h.w]) r' x cs h7,h8.mono (by rw[h.w])⟩
 |fn F m=>
  obtain⟨h1,h2,h3⟩:=hp;refine⟨h1,h2,?_⟩
  have:Ls S1=Ls S:=by funext b;unfold Ls;rw[h.bb]
  rw[this];exact h3
def Y3:∀ {l m:List (Nat×Nat)},Dea l m=true→l=m
 |[],[],_=>rfl
 |[],_::_,h=>by simp[Dea]at h
 |_::_,[],h=>by simp[Dea]at h
 |(a1,a2)::l,(b1,b2)::m,h=>by
  simp only[Dea,Va]at h;have e1:a1=b1:=Vb h.1.1;have e2:a2=b2:=Vb h.1.2;rw[e1,e2,Y3 h.2]
def Lt (hg:S.g=get A):∀ {bs:List (Nat×Nat)} {us:List Value},Ld S bs us→Fk A bs=true→us=bs.map (Ls S)
 |[],us,h,_=>h
 |c::bs,us,⟨u,us',e,⟨h1,h2⟩,h3⟩,ha=>by
  simp only[Fk,Va]at ha
  have e1:(S.g (H c.1)).1=c.2:=by rw[hg];exact Vb ha.1
  subst e;rw[Ya,Lt hg h3 ha.2,h2 e1];rfl
def Rj {ag:Bool} {s:Sv} (h:E5 ag s=true):∀ n,pth s n=if ag then [n] else []:=by
 intro n
 cases s with
 |tup vs=>simp[E5,W1]at h
 |one z=>cases ag<;>simp[E5,W1]at h ⊢;rfl
 |agg z=>cases ag<;>simp[E5,W1]at h ⊢;rfl
def Cca {x:Operand} {b v off:Nat} {t:Ty} {m:List Lf} {us:List Up} (h:Ic A x (.one (.bp b v off)) t=some (m,us)):False:=by
 unfold Ic Jb at h;split at h
 ·rename_i m0 vs0 ht
  have hm:m0=[.bp b v off]∨False:=by
   have e1:parts (.one (.bp b v off))=[.bp b v off]:=rfl;rw[e1]at ht;generalize Ck t=ts at ht
   cases ts with
   |nil=>simp[Bw]at ht
   |cons t ts=>
    cases ts with
    |cons t2 ts=>
     obtain⟨_,h2⟩:=Fb _ _ ht;simp at h2
    |nil=>
     cases t<;>first|(simp[Bw,Ml,E8]at ht;done)|skip
     all_goals
      simp[Bw,Km,Ep,Fu]at ht;exact .inl ht.1.symm
  rcases hm with rfl|h0
  ·simp[A3]at h
  ·exact h0
 ·cases h
def Rk {A:Ab} {S:Sit} {X:Cx} {a:Act} (K:Ae X S a) (hg:S.g=get A) {b l0:Nat}:∀ (ts:List Ty) {j:Nat} {l m:List Lf} {us:List Value},Qx A b j ts l=some m→A5 X.P S (λ n => .pl l0 [n]) j l us→
  Kw ts m∧m.length=ts.length∧Ny (Ug X.P S (λ j=>S.ph (C b j))) j m us
 |[],j,[],m,us,h,hl=>by
  simp only[Qx,Vc]at h;subst h
  cases us with
  |nil=>exact⟨trivial,rfl,trivial⟩
  |cons=>exact hl.elim
 |[],j,_::_,m,us,h,hl=>by simp[Qx]at h
 |t::ts,j,[],m,us,h,hl=>by cases t<;>simp[Qx]at h
 |t::ts,j,x::l,m,us,h,hl=>by
  cases us with
  |nil=>exact hl.elim
  |cons u us=>
   have share:∀ {m':List Lf},Bba (E8 A x)=true→Qx A b (j+1) ts l=some m'→(∀ m'',Kw (t::ts) (E8 A x::m'')↔((E8 A x).isOwn=false∧Kw ts m''))→Kw (t::ts) (E8 A x::m')∧(E8 A x::m').length=(t::ts).length∧Ny (Ug X.P S (λ j=>S.ph (C b j))) j (E8 A x::m') (u::us):=by
    intro m' hs hr hf;obtain⟨h1,h2,h3⟩:=Rk K hg ts hr hl.2;obtain⟨lab',h4⟩:=I3 K hg hl.1
    refine⟨(hf m').2 ⟨by cases hx:E8 A x<;>rw[hx]at hs<;>first|rfl|simp[Bba]at hs,h1⟩,by simp[h2],?_,h3⟩
    have h5:Ad X.P S .fz (E8 A x) u:=by
     cases hx:E8 A x<;>rw[hx]at hs h4<;>first|exact Ad.relab (lab' := .fz) rfl h4|simp[Bba]at hs
    cases hx:E8 A x<;>rw[hx]at hs h5<;>first|exact⟨rfl,h5⟩|simp[Bba]at hs
   cases t with
   |ow e r=>
    cases x<;>first|(simp[Qx]at h;done)|skip
    rename_i p v;simp only[Qx]at h;obtain⟨hq,h⟩:=cs h;simp only[Va]at hq;split at h
    ·rename_i y hy;split at h
     ·rename_i m' hr;cases h;obtain⟨h1,h2,h3⟩:=Rk K hg ts hr hl.2;have hal:Ad X.P S (.pl l0 [j]) (.al p v) u:=hl.1;have hu:=hal.2 (by rw[hg];exact Vb hq.2)
      have hyo:∃ ys,y = .own e r ys:=by
       unfold Ml at hy;split at hy
       ·generalize Nat.beq e _=bb at hy;cases bb
        ·simp at hy
        rw[cond_true]at hy;split at hy
        ·simp only[Vc]at hy;exact⟨_,hy.symm⟩
        ·obtain⟨hno,hy⟩:=cs hy;split at hy
         ·simp only[Vc]at hy;exact⟨_,hy.symm⟩
         ·cases hy
       ·cases hy
      obtain⟨ys,rfl⟩:=hyo;refine⟨h1,by simp[h2],?_,h3⟩;show u=S.ph (C b j);rw[hu,Vb hq.1]
     ·cases h
    ·cases h
   |_=>
    simp only[Qx]at h;obtain⟨hs,h⟩:=cs h;split at h
    ·rename_i m' hr;cases h;exact share hs hr (λ m''=>Kpa)
    ·cases h
def Cda (hE:Dx X E) (K:Ae X S a) (hg:S.g=get A) {cb hb:List (Nat×Nat)} {nv i:Nat} {x:Operand} {s:Sv} {v:Value} {p:Par} {l:List Lf} {us:List Up} {bs:List Nat} (hx:(∃ T,opT E T A x=some s∧v=a.eval x)∨(∃ h:Nat×Nat,s = .one (.bp h.1 h.2 0)∧v=Ls S h)) (h:Kh A cb hb nv x p s=some (l,us,bs)):
  ∃ S1 bp,Ae X S1 a∧S1.g=get (ups A us)∧Bp X S S1 (exA nv i)∧bp.map Prod.fst=bs∧H1a X.P S1 cb hb nv i p l v bp:=by
 have box:∀ {t t':Ty} {b w:Nat},s = .one (.bp b w 0)→(match I2 A b w t t' with|some (m,us)=>some (m,us,[b])|none=>none)=some (l,us,bs)→∃ S1 bp,Ae X S1 a∧S1.g=get (ups A us)∧Bp X S S1 (exA nv i)∧bp.map Prod.fst=bs∧Eya X.P S1 (bid nv i) t t' l v bp:=by
  intro t t' b w hs h;split at h
  ·rename_i m us' hgive;cases h;obtain⟨g1,g2,g3,g4,g5,S1,K1,g6,G,hl⟩:=Ks K hg hgive (nmB (bid nv i));refine⟨S1,[(b,bid nv i)],K1,g6,Bp.trans (λ n q h=>h) (λ n q h=>⟨i,Vo _,.inr h⟩) (Bp.refl S (exA nv i)) G,rfl,b,rfl,?_,by rw[G.heads b _ g2];exact g2,g3,g5,g4,Jp hgive,by rw[G.ph];exact hl⟩;rw[G.bb];rcases hx with⟨T,h1,rfl⟩|⟨h',h1,rfl⟩
   ·obtain⟨pl,h2⟩:=Cu hE K hg h1;rw[hs]at h2;have h3:Ad X.P S (.pl pl []) (.bp b w 0) (a.eval x):=h2;exact h3.2 g1
   ·rw[hs]at h1;simp only[Sv.one.injEq,Lf.bp.injEq]at h1;unfold Ls;rw[← h1.1];rfl
  ·cases h
 unfold Kh at h;split at h
 ·rename_i t h0 ys;split at h
  ·rename_i c hc;split at h
   ·rename_i n m hp;obtain⟨hq,h⟩:=cs h;simp only[Va]at hq;split at h
    ·rename_i l0 hvw;cases h;rcases hx with⟨T,h1,rfl⟩|⟨h',h1,_⟩
     ·obtain⟨pl,h2⟩:=Cu hE K hg h1;obtain⟨vs,e1,e2⟩:∃ us:List Value,a.eval x = .agg us.toArray∧A5 X.P S (λ j => .pl pl [j]) 0 ys us:=h2;obtain⟨f1,f2,f3⟩:=Rk K hg _ hvw e2;exact⟨S,[],K,hg,Bp.refl S _,rfl,rfl,Vd hq.1.1,by rw[f2,Ec],f1,c,vs,hc,by rw[hg,hp,Vb hq.2],e1,f3⟩
     ·cases h1
    ·cases h
   ·cases h
  ·cases h
 ·rename_i ag t;obtain⟨hq,h⟩:=cs h;split at h
  ·rename_i m us' hgive;cases h;rcases hx with⟨T,h1,rfl⟩|⟨h',h1,_⟩
   ·obtain⟨S1,K1,g1,G,h2,_,vs,hsh,hl⟩:=Nt hE K hg (.inl h1) (O3 hq) hgive (nmV i);have hp:=Rj hq;simp only[hp]at hl;exact⟨S1,[],K1,g1,Bp.trans (λ n q h=>h) (λ n q h=>⟨i,Vo _,.inl h⟩) (Bp.refl S (exA nv i)) G,rfl,rfl,h2,Jo hgive,vs,Hn hq hsh,hl⟩
   ·rw[h1]at hgive;exact(Cca hgive).elim
  ·cases h
 ·exact box rfl h
 ·exact box rfl h
 ·rename_i t r' y;cases hq:(decide (shp r'=shp t)&&Ei t)
  ·rw[hq]at h;simp at h
  rw[hq]at h;simp only[cond_true,Vc,Vu]at h;obtain⟨rfl,rfl,rfl⟩:=h;simp only[Va,decide_eq_true_eq]at hq;rcases hx with⟨T,h1,rfl⟩|⟨h',h1,_⟩
  ·obtain⟨pl,h2⟩:=Cu hE K hg h1;obtain⟨k,o',cs,e1,e2,e3,e4⟩:Ad X.P S (.pl pl []) (.fp r' y 0) (a.eval x):=h2;exact⟨S,[],K,hg,Bp.refl S _,rfl,rfl,r',y,k,o',cs,rfl,hq.1,hq.2,e1,e2,e3,e4⟩
  ·cases h1
 ·rename_i F m F' bs';cases hq:(Nat.beq F F'&&Nat.beq m bs'.length&&Dea bs' cb&&Fk A bs')
  ·rw[hq]at h;simp at h
  rw[hq]at h;simp only[cond_true,Vc,Vu]at h;obtain⟨rfl,rfl,rfl⟩:=h;simp only[Va]at hq;obtain⟨⟨⟨q1,q2⟩,q3⟩,q4⟩:=hq;have e1:F=F':=Vb q1;have e2:m=bs'.length:=Vb q2;have e3:=Y3 q3;subst e1 e3;rcases hx with⟨T,h1,rfl⟩|⟨h',h1,_⟩
  ·obtain⟨pl,h2⟩:=Cu hE K hg h1;obtain⟨us',e4,e5⟩:Ad X.P S (.pl pl []) (.fn F bs') (a.eval x):=h2;have e6:=Lt hg e5 q4;subst e6;exact⟨S,[],K,hg,Bp.refl S _,rfl,rfl,e2,e4⟩
  ·cases h1
 ·cases h
def Pw (hE:Dx X E) {cb hb:List (Nat×Nat)} {nv:Nat} (hn:nv≤1000):∀ (ps:List Par) {xs:List (TypeId×Operand)} {hs:List (Nat×Nat)} {S:Sit} {A:Ab} {ls:List (List Lf)} {us:List Up} {bs:List Nat} (i:Nat),Ae X S a→S.g=get A→F6 E cb hb nv A xs hs ps=some (ls,us,bs)→
  ∃ S1 bp,Ae X S1 a∧S1.g=get (ups A us)∧Bp X S S1 (exA nv i)∧bp.map Prod.fst=bs∧Ri X.P S1 cb hb nv i ps ls (xs.map (λ x=>a.eval x.2)++hs.map (Ls S)) bp
 |[],xs,hs,S,A,ls,us,bs,i,K,hg,h=>by
  cases xs with
  |cons=>simp[F6]at h
  |nil=>
   cases hs with
   |cons=>simp[F6]at h
   |nil=>
    simp only[F6,Vc,Vu]at h;obtain⟨rfl,rfl,rfl⟩:=h;exact⟨S,[],K,hg,Bp.refl S _,rfl,rfl⟩
 |p::ps,xs,hs,S,A,ls,us,bs,i,K,hg,h=>by
  have go:∀ {x:Operand} {s:Sv} {v:Value} {xs':List (TypeId×Operand)} {hs':List (Nat×Nat)} {l:List Lf} {u:List Up} {b:List Nat} {ls1:List (List Lf)} {us1:List Up} {bs1:List Nat},((∃ T,opT E T A x=some s∧v=a.eval x)∨(∃ h:Nat×Nat,s = .one (.bp h.1 h.2 0)∧v=Ls S h))→Kh A cb hb nv x p s=some (l,u,b)→F6 E cb hb nv (ups A u) xs' hs' ps=some (ls1,us1,bs1)→
    ∃ S1 bp,Ae X S1 a∧S1.g=get (ups A (u++us1))∧Bp X S S1 (exA nv i)∧bp.map Prod.fst=b++bs1∧Ri X.P S1 cb hb nv i (p::ps) (l::ls1) (v::(xs'.map (λ x=>a.eval x.2)++hs'.map (Ls S))) bp:=by
   intro x s v xs' hs' l u b ls1 us1 bs1 hx h1 h2;obtain⟨S1,b1,K1,g1,G1,e1,p1⟩:=Cda (nv:=nv) (i:=i) hE K hg hx h1;obtain⟨S2,b2,K2,g2,G2,e2,p2⟩:=Pw hE hn ps (i+1) K1 g1 h2
   have hpv:Ls S1=Ls S:=by funext b;unfold Ls;rw[G1.bb]
   rw[hpv]at p2;exact⟨S2,b1++b2,K2,by rw[Ac];exact g2,Bp.trans (λ _ _ h=>h) (λ n q ⟨j,h1,h2⟩=>⟨j,by omega,h2⟩) G1 G2,by rw[Jya,e1,e2],b1,b2,rfl,p1.stay hn G2 (by omega),p2⟩
  cases xs with
  |cons x xs=>
   simp only[F6]at h;split at h
   ·rename_i s hs1;split at h
    ·rename_i l u b hb;split at h
     ·rename_i ls1 us1 bs1 hrec;cases h;exact go (.inl ⟨x.1,hs1,rfl⟩) hb hrec
     ·cases h
    ·cases h
   ·cases h
  |nil=>
   cases hs with
   |nil=>simp[F6]at h
   |cons h0 hs=>
    simp only[F6]at h;split at h
    ·rename_i l u b hb;split at h
     ·rename_i ls1 us1 bs1 hrec;cases h;exact go (xs':=[]) (.inr ⟨h0,rfl,rfl⟩) hb hrec
     ·cases h
    ·cases h
end
end

section
attribute [local irreducible] C H
def lkF:List (Nat×Nat)→Nat→Option Nat
 |[],_=>none
 |c::l,x=>if c.1=x then some c.2 else lkF l x
def lkS:List (Nat×Nat)→Nat→Option Nat
 |[],_=>none
 |c::l,x=>if c.2=x then some c.1 else lkS l x
def Rl:∀ {l:List (Nat×Nat)} {b B:Nat},lkF l b=some B→(b,B)∈l
 |[],_,_,h=>by simp[lkF]at h
 |c::l,b,B,h=>by
  simp only[lkF]at h;split at h
  ·rename_i e;simp only[Vc]at h;rw[← e,← h];exact Kna
  ·exact Ve _ (Rl h)
def T5:∀ {l:List (Nat×Nat)} {b B:Nat},(l.map Prod.fst).Nodup→(b,B)∈l→lkF l b=some B
 |[],_,_,_,h=>by simp at h
 |c::l,b,B,hn,h=>by
  rw[Ya,Ys]at hn;simp only[lkF];rcases Vk.1 h with rfl|h
  ·rw[if_pos rfl]
  ·rw[if_neg (λ e=>hn.1 (by rw[e];exact Yl h))];exact T5 hn.2 h
def Px:∀ {l:List (Nat×Nat)} {b B:Nat},(l.map Prod.snd).Nodup→(b,B)∈l→lkS l B=some b
 |[],_,_,_,h=>by simp at h
 |c::l,b,B,hn,h=>by
  rw[Ya,Ys]at hn;simp only[lkS];rcases Vk.1 h with rfl|h
  ·rw[if_pos rfl]
  ·rw[if_neg (λ e=>hn.1 (by rw[e];exact Yl h))];exact Px hn.2 h
def Eza:∀ {l:List (Nat×Nat)} {b b' B:Nat},(l.map Prod.snd).Nodup→(b,B)∈l→(b',B)∈l→b=b':=λ hn h h'=>by
 have e1:=Px hn h;rw[Px hn h']at e1
 simpa using e1.symm
def Py:∀ {l:List Nat},P3 l=true→l.Nodup
 |[],_=>by simp
 |b::l,h=>by
  simp only[P3,Va,Wg,List.any_eq_false]at h;rw[Ys];exact⟨λ hb=>h.1 b hb (by rw[K7a]),Py h.2⟩
def Fw (S:Sit) (L:List (Nat×Nat)):Nat→Lab:=λ k=>match S.O k with
 |.fz => .fz
 |.tm n q=>if n<10 then .no else if n % 2=0 then .pl ((n-10)/2) q else (match q with
  |[j] => .pl (C ((n-11)/2) j) []
  |_ => .no)
 |.bx b=>(match lkF L b with
  |some B=>if k=(S.bb b).1 then .bx B else .no
  |none => .no)
 |_ => .no
def Cea (S:Sit) (L:List (Nat×Nat)):Nat→Nat×Nat:=λ B=>match lkS L B with
 |some b=>((S.bb b).2,match (S.g (H b)).2 with | .one (.hd n)=>n|_=>0)
 |none=>(0,0)
def F0a:Lab→Bool
 |.tm _ _=>true
 |_=>false
def nmO:Lab→Lab
 |.fz => .fz
 |.tm n q => .tm n q
 |.no => .no
 |_ => .tm 99999 []
def Ow (S:Sit) (O':Nat→Lab):Nat→Lab:=λ k=>if k<S.w.heap.size∧F0a (S.O k)=false then S.O k else nmO (O' k)
section
variable {X:Cx} {S S1 S2:Sit} {a:Act} {E:En} {A:Ab} {o:Oper} {R:Type} {Kc:List Up→Option R} {r:R}
def Fh {S:Sit} {L:List (Nat×Nat)} {k:Nat} (h:S.O k = .fz):Fw S L k = .fz:=by simp[Fw,h]
def Y4 {S:Sit} {L:List (Nat×Nat)} {k b B:Nat} (h:S.O k = .bx b) (hl:lkF L b=some B) (hk:k=(S.bb b).1):Fw S L k = .bx B:=by
 unfold Fw;rw[h];simp[hl,← hk]
def Doa {S:Sit} {L:List (Nat×Nat)} {k i:Nat} {q:List Nat} (h:S.O k = .tm (nmV i) q):Fw S L k = .pl i q:=by
 unfold Fw nmV at *;rw[h];simp only;rw[if_neg (by omega),if_pos (by omega),show (10+2*i-10)/2=i by omega]
def Dpa {S:Sit} {L:List (Nat×Nat)} {k B j:Nat} (h:S.O k = .tm (nmB B) [j]):Fw S L k = .pl (C B j) []:=by
 unfold Fw nmB at *;rw[h];simp only;rw[if_neg (by omega),if_neg (by omega),show (11+2*B-11)/2=B by omega]
def D9:∀ {m:List Lf},A3 m=true→∀ y∈m,Cd y=true
 |[],_=>by simp
 |x::m,h=>by
  intro y hy;obtain⟨h1,h2⟩:=Gi h;rcases Vk.1 hy with rfl|hy
  ·rcases h2 with⟨_,rfl⟩|⟨_,_,_,rfl⟩|⟨_,_,_,rfl⟩<;>rfl
  ·exact D9 h1 y hy
def Hy:∀ l:List Lf,(∀ y∈l,Cd y=true)→A3 l=true
 |[],_=>rfl
 |x::l,h=>by
  have h1:=h x (by simp);have h2:=Hy l (λ y hy=>h y (Ve _ hy))
  cases x<;>first|(simp[Cd]at h1;done)|simpa[A3] using h2
def O4 {P:Program} {S:Sit} {cb:List (Nat×Nat)} {nv:Nat} (hn:nv≤1000):∀ (ps:List Par) {i:Nat} {ls:List (List Lf)} {us:List Value} {bp:List (Nat×Nat)},Ri P S cb cb nv i ps ls us bp→
  (∀ c∈bp,∃ j,i≤j∧j<i+ps.length∧c.2=bid nv j)∧(bp.map Prod.snd).Nodup∧(∀ c∈bp,∃ n,(S.g (H c.1)).2 = .one (.hd n))∧us.length=ps.length
 |[],i,[],[],bp,h=>by
  have:bp=[]:=h;subst this;exact⟨by simp,by simp,by simp,rfl⟩
 |[],i,_::_,_,_,h=>h.elim
 |[],i,[],_::_,_,h=>h.elim
 |p::ps,i,[],_,_,h=>h.elim
 |p::ps,i,_::_,[],_,h=>h.elim
 |p::ps,i,l::ls,u::us,bp,h=>by
  obtain⟨b1,b2,rfl,h1,h2⟩:=h;obtain⟨i1,i2,i3,i4⟩:=O4 hn ps h2
  have h3:b1=[]∨∃ b,b1=[(b,bid nv i)]∧∃ n,(S.g (H b)).2 = .one (.hd n):=by
   cases p with
   |io ag t=>exact h1.elim
   |val ag t=>exact .inl h1.1
   |vw t h0=>exact .inl h1.1
   |rd t=>exact .inl h1.1
   |fn F m=>exact .inl h1.1
   |ptr t t'=>obtain⟨b,e,_,h4,_⟩:=h1;exact .inr ⟨b,e,_,h4⟩
   |hid t t'=>obtain⟨b,e,_,h4,_⟩:=h1;exact .inr ⟨b,e,_,h4⟩
  have i1':∀ c∈b2,∃ j,i≤j∧j<i+(p::ps).length∧c.2=bid nv j:=λ c hc=>by
   obtain⟨j,j1,j2,j3⟩:=i1 c hc;exact⟨j,by omega,by simp only[Vh];omega,j3⟩
  rcases h3 with rfl|⟨b,rfl,n,hb⟩
  ·exact⟨i1',i2,i3,by simp[i4]⟩
  ·refine⟨λ c hc=>?_,?_,λ c hc=>?_,by simp[i4]⟩
   ·rcases Vk.1 hc with rfl|hc
    ·exact⟨i,Vo _,by simp only[Vh];omega,rfl⟩
    ·exact i1' c hc
   ·rw[Wq,Ya,Ys];refine⟨λ hm=>?_,i2⟩;obtain⟨c,hc,e⟩:=Zc.1 hm;obtain⟨j,j1,j2,j3⟩:=i1 c hc;rw[j3]at e;have:=Y1 hn e;omega
   ·rcases Vk.1 hc with rfl|hc
    ·exact⟨n,hb⟩
    ·exact i3 c hc
def Y5 (K:Ae X S a) {cb L:List (Nat×Nat)} {nv:Nat} (hn1:(L.map Prod.fst).Nodup) (hn2:(L.map Prod.snd).Nodup):∀ (ps:List Par) {i:Nat} {ls ls':List (List Lf)} {us:List Value} {bp:List (Nat×Nat)},Ri X.P S cb cb nv i ps ls us bp→Mk (ps.map Par.ty) ls ls'→(∀ c∈bp,c∈L)→El nv i ps=true→
  Fp X.P (bare (Fw S L) S.w) (Cea S L) nv (cb.map (Ls S)) i ps ls' us
 |[],i,[],[],[],bp,_,_,_,_=>trivial
 |[],i,[],_::_,_,bp,_,hm,_,_=>hm.elim
 |[],i,_::_,_,_,bp,h,_,_,_=>h.elim
 |[],i,[],[],_::_,bp,h,_,_,_=>h.elim
 |p::ps,i,[],_,_,bp,h,_,_,_=>h.elim
 |p::ps,i,_::_,_,[],bp,h,_,_,_=>h.elim
 |p::ps,i,l::ls,[],_::_,bp,_,hm,_,_=>hm.elim
 |p::ps,i,l::ls,l'::ls',u::us,bp,h,hm,hb,hp=>by
  obtain⟨b1,b2,rfl,h1,h2⟩:=h;obtain⟨⟨y,hy,rfl⟩,hm2⟩:=hm
  have hp2:El nv (i+1) ps=true:=by cases p<;>simp only[El,Va]at hp<;>exact hp.2
  refine⟨?_,Y5 K hn1 hn2 ps h2 hm2 (λ b hb'=>hb b (Vg _ hb')) hp2⟩
  have box:∀ {t t':Ty} {y:t.den},mkW t l=some y→Eya X.P S (bid nv i) t t' l u b1→My X.P (bare (Fw S L) S.w) (Cea S L) (bid nv i) t (A4 t y) u:=by
   rintro t t' y hy ⟨b,e1,e2,e3,e4,e5,e6,e7,e8⟩;have hL:(b,bid nv i)∈L:=hb _ (by rw[e1];simp);obtain⟨g1,c,e,g2,g3,g4,g5⟩:=K.box b _ e3;refine⟨(S.bb b).1,(S.bb b).2,c,e,(List.range t.sz).map (λ j=>S.ph (C b (0+j))),e2,g2,?_,?_,g4,g1,Ch t y,λ j hj=>?_,?_⟩
   ·exact Y4 g3 (T5 hn1 hL) rfl
   ·show Cea S L _=_;unfold Cea;rw[Px hn2 hL];simp only[e3]
   ·rw[g5 j hj];simp[hj]
   ·have h3:A5 X.P (bare (Fw S L) S.w) (λ j => .pl (C (bid nv i) j) []) 0 l ((List.range t.sz).map λ j=>S.ph (C b (0+j))):=
     A5.impS (S1:=S) (D9 e6) (λ n x u hx h=>Ad.bare (S1:=S) (S2:=bare (Fw S L) S.w) (lab := .tm (nmB (bid nv i)) [n]) hx rfl (λ k hk=>Fh hk) (λ k hk=>Dpa hk) h) e8
    exact Fa e7 hy h3
  cases p with
  |io ag t=>exact h1.elim
  |vw t h0=>
   obtain⟨_,e1,e2,e3,c,vs,e4,e5,e6,e7⟩:=h1;obtain⟨g1,cc,e,g2,g3,g4,g5⟩:=K.box c.1 _ e5;refine⟨e1,vs,(S.bb c.1).1,(S.bb c.1).2,cc,e,e6,?_,g2,g1,Ch t y,?_⟩
   ·rw[Da]at e4;rw[Kda,e4];rfl
   ·have hcell:∀ j,j<t.sz→cc.getD ((S.bb c.1).2+j) undef=S.ph (C c.1 j):=λ j hj=>by
     have:=g5 j hj;simp[We,this]
    have h2:=H0a (Q:=λ j x u=>j<t.sz→Ug X.P S (λ j=>S.ph (C c.1 j)) j x u) ?_ ?_ e3 hy (j:=0) (us:=vs) (Ny.imp (Q:=Ug X.P S (λ j=>S.ph (C c.1 j))) (Q':=λ j x u=>j<t.sz→Ug X.P S (λ j=>S.ph (C c.1 j)) j x u) (λ j x u h _=>h) e7)
    ·have key:∀ (l:List Lf) (j:Nat) (us:List Value),j+l.length≤t.sz→Ny (λ j x u=>j<t.sz→Ug X.P S (λ j=>S.ph (C c.1 j)) j x u) j l us→Ny (Ug X.P (bare (Fw S L) S.w) (λ j=>cc.getD ((S.bb c.1).2+j) undef)) j l us:=by
      intro l
      induction l with
      |nil=>intro j us _ h;cases us<;>first|trivial|exact h.elim
      |cons x l ih=>
       intro j us hj h;simp only[Vh]at hj
       cases us with
       |nil=>exact h.elim
       |cons u us=>
        refine⟨?_,ih (j+1) us (by omega) h.2⟩;have h3:=h.1 (by omega)
        cases x<;>first|(show u=cc.getD ((S.bb c.1).2+j) undef;rw[hcell j (by omega)];exact h3)|(refine⟨h3.1,?_⟩;have h4:=h3.1;simp[Bba]at h4;done)|skip
        ·exact⟨rfl,Ad.bare (S1:=S) (S2:=bare (Fw S L) S.w) rfl rfl (λ k hk=>Fh hk) (λ k hk=>Fh hk) h3.2⟩
        ·exact⟨rfl,Ad.bare (S1:=S) (S2:=bare (Fw S L) S.w) rfl rfl (λ k hk=>Fh hk) (λ k hk=>Fh hk) h3.2⟩
     exact key _ _ _ (by rw[Ch];show 0+t.sz≤t.sz;omega) h2
    ·intro j e r r' xs ys u _ h hj;exact h hj
    ·intro j e r r' xs ys u hc h hj;exact⟨rfl,Ii hc (h hj).2⟩
  |val ag t=>
   obtain⟨_,e2,e3,vs,e4,e5⟩:=h1;refine⟨vs,e4,Fa e3 hy ?_⟩;exact A5.impS (S1:=S) (D9 e2) (λ n x u hx h=>Ad.bare (S1:=S) (S2:=bare (Fw S L) S.w) hx rfl (λ k hk=>Fh hk) (λ k hk=>Doa hk) h) e5
  |ptr t t'=>
   simp only[El,Va]at hp;exact⟨Vd hp.1,box hy h1⟩
  |hid t t'=>
   simp only[El,Va]at hp;exact⟨Vd hp.1,box hy h1⟩
  |rd t=>
   obtain⟨_,r',x,k,o',cs,rfl,e3,e4,e5,e6,e7,e8⟩:=h1;have h3:=Lc hy (Gd r' x cs e7);exact⟨y,k,o',cs,Um t y,e5,Fh e6,Ty.rep_mono (λ k hk=>Fh hk) (λ _ _=>rfl) t y cs h3,e8⟩
  |fn F m=>
   obtain⟨_,e2,e3⟩:=h1;exact⟨e3,by rw[Yj,e2]⟩
def H2a (K:Ae X S a) {cb L:List (Nat×Nat)} {nv:Nat} (hn:nv≤1000) {ps:List Par} {ls:List (List Lf)} {us:List Value} (h:Ri X.P S cb cb nv 0 ps ls us L):
  ∀ k b,Fw S L k = .bx b→Gwa nv ps.length b∧(∃ c e f,S.w.heap[k]? = some (.cells c e f))∧∀ k',Fw S L k' = .bx b→k'=k:=by
 obtain⟨i1,i2,i3,_⟩:=O4 hn ps h
 have key:∀ k B,Fw S L k = .bx B→∃ b,(b,B)∈L∧k=(S.bb b).1:=by
  intro k B hk;unfold Fw at hk;split at hk
  ·cases hk
  ·split at hk
   ·cases hk
   ·split at hk
    ·cases hk
    ·split at hk<;>cases hk
  ·split at hk
   ·rename_i b heq _ B' hl;split at hk
    ·rename_i hkb;cases hk;exact⟨b,Rl hl,hkb⟩
    ·cases hk
   ·cases hk
  ·cases hk
 intro k B hk;obtain⟨b,hb,hkb⟩:=key k B hk;obtain⟨n,hh⟩:=i3 _ hb;obtain⟨_,c,e,g2,_⟩:=K.box b n hh;obtain⟨j,_,j2,j3⟩:=i1 _ hb;refine⟨⟨j,by omega,j3⟩,⟨c,e,(0,0),by rw[hkb];exact g2⟩,λ k' hk'=>?_⟩;obtain⟨b',hb',hkb'⟩:=key k' B hk';rw[hkb,hkb',Eza i2 hb hb']
def N2 {S:Sit} {L:List (Nat×Nat)} {rg:Nat→Nat×Nat} {O':Nat→Lab} {w':World} (hF:Fr (Fw S L) S.w rg O' w'):
  (∀ k,k<S.w.heap.size→F0a (S.O k)=false→Ow S O' k=S.O k∧((∀ c∈L,k≠(S.bb c.1).1)→w'.heap[k]? = S.w.heap[k]?))∧
  (∀ k,O' k = .fz→Ow S O' k = .fz)∧(∀ k n q,O' k = .tm n q→Ow S O' k = .tm n q):=by
 have cases3:∀ k,k<S.w.heap.size→F0a (S.O k)=false→(O' k = .fz∧S.O k = .fz∧w'.heap[k]? = S.w.heap[k]?)∨(O' k = .no∧w'.heap[k]? = S.w.heap[k]?)∨(∃ c∈L,O' k = .bx c.2∧k=(S.bb c.1).1):=by
  intro k hk ht;have no:Fw S L k = .no→(O' k = .no∧w'.heap[k]? = S.w.heap[k]?):=λ h=>hF.no k hk h
  cases hO:S.O k with
  |fz=>
   have:=hF.fz k hk (Fh hO);exact .inl ⟨this.1,rfl,this.2⟩
  |no=>exact .inr (.inl (no (by simp[Fw,hO])))
  |pl l p=>exact .inr (.inl (no (by simp[Fw,hO])))
  |tm n q=>rw[hO]at ht;simp[F0a]at ht
  |bx b=>
   cases hl:lkF L b with
   |none=>exact .inr (.inl (no (by simp[Fw,hO,hl])))
   |some B=>
    by_cases hb:k=(S.bb b).1
    ·have h2:Fw S L k = .bx B:=by
      unfold Fw;rw[hO];simp only;rw[hl];exact if_pos hb
     exact .inr (.inr ⟨(b,B),Rl hl,(hF.bx k B hk h2).1,hb⟩)
    ·refine .inr (.inl (no ?_));unfold Fw;rw[hO];simp only;rw[hl];exact if_neg hb
 refine⟨λ k hk ht=>⟨by unfold Ow;rw[if_pos ⟨hk,ht⟩],λ hnb=>?_⟩,λ k hk=>?_,λ k n q hk=>?_⟩
 ·rcases cases3 k hk ht with h|h|⟨c,h1,_,h2⟩
  ·exact h.2.2
  ·exact h.2
  ·exact absurd h2 (hnb c h1)
 ·unfold Ow;split
  ·rename_i hc;rcases cases3 k hc.1 hc.2 with h|h|⟨c,_,h,_⟩
   ·exact h.2.1
   ·rw[hk]at h;cases h.1
   ·rw[hk]at h;cases h
  ·rw[hk];rfl
 ·unfold Ow;split
  ·rename_i hc;rcases cases3 k hc.1 hc.2 with h|h|⟨c,_,h,_⟩
   ·rw[hk]at h;cases h.1
   ·rw[hk]at h;cases h.1
   ·rw[hk]at h;cases h
  ·rw[hk];rfl
def H3a (w w':World) (hsz:w.heap.size≤w'.heap.size):∀ ks:List Nat,∃ w1:World,w1 = { w' with heap:=w1.heap }∧w1.heap.size=w'.heap.size∧(∀ k∈ks,k<w.heap.size→w1.heap[k]? = w.heap[k]?)∧∀ k,k∉ks→w1.heap[k]? = w'.heap[k]?
 |[]=>⟨w',rfl,rfl,by simp,λ _ _=>rfl⟩
 |k0::ks=>by
  obtain⟨w1,h1,h2,h3,h4⟩:=H3a w w' hsz ks
  by_cases hk:k0<w.heap.size
  ·refine⟨{ w' with heap:=w1.heap.setIfInBounds k0 w.heap[k0] },rfl,by simp[h2],λ k hm hkl=>?_,λ k hm=>?_⟩
   ·show (w1.heap.setIfInBounds k0 w.heap[k0])[k]? = _
    by_cases e:k=k0
    ·subst e;rw[Array.getElem?_setIfInBounds_self,if_pos (by omega),Zn hk]
    ·rw[Zq (Kca e)];exact h3 k ((Vk.1 hm).resolve_left e) hkl
   ·show (w1.heap.setIfInBounds k0 w.heap[k0])[k]? = _;rw[Zq (λ e=>hm (by rw[e];exact Kna))];exact h4 k (λ h=>hm (Ve _ h))
  ·refine⟨w1,h1,h2,λ k hm hkl=>?_,λ k hm=>h4 k (λ h=>hm (Ve _ h))⟩;rcases Vk.1 hm with rfl|hm
   ·exact absurd hkl hk
   ·exact h3 k hm hkl
structure Bk where
 b:Nat
 n:Nat
 l:List Lf
 us:List Value
def Bk.Ok (P:Program) (S:Sit) (w':World) (d:Bk):Prop:=
 ∃ c c' e,(S.g (H d.b)).2 = .one (.hd d.l.length)∧S.w.heap[(S.bb d.b).1]? = some (.cells c e (0,0))∧w'.heap[(S.bb d.b).1]? = some (.cells c' e (0,0))∧c'.size=c.size∧
  (∀ i,(i<(S.bb d.b).2∨(S.bb d.b).2+d.l.length≤i)→c'[i]? = c[i]?)∧(∀ j,j<d.l.length→c'[(S.bb d.b).2+j]? = d.us[j]?)∧A3 d.l=true∧A5 P S (λ j => .tm d.n [j]) 0 d.l d.us
def T6 {w':World}:∀ (D:List Bk) {S:Sit} {A:Ab},Ae X S a→S.g=get A→(∀ d∈D,d.Ok X.P S w')→(D.map Bk.b).Nodup→(D.map Bk.n).Nodup→(∀ d∈D,1001≤d.n∧d.n<5000)→(∀ k,(∀ d∈D,k≠(S.bb d.b).1)→w'.heap[k]? = S.w.heap[k]?)→S.w = { w' with heap:=S.w.heap }→
  ∃ S',Ae X S' a∧S'.g=get (ups A (D.flatMap λ d=>B3 d.b 0 d.l))∧S'.w=w'∧(∀ k,S.O k = .fz→S'.O k = .fz)∧(∀ n q k,0<n→n<1001→S.O k = .tm n q→S'.O k = .tm n q)∧(∀ n q x u,0<n→n<1001→Cd x=true→Ad X.P S (.tm n q) x u→Ad X.P S' (.tm n q) x u)
 |[],S,A,K,hg,_,_,_,_,hh,hw=>by
  have e1:w'.heap=S.w.heap:=Array.ext_getElem? λ k=>hh k (by simp);refine⟨S,K,hg,?_,λ _ h=>h,λ _ _ _ _ _ h=>h,λ _ _ _ _ _ _ _ h=>h⟩;rw[hw,← e1]
 |d::D,S,A,K,hg,hD,hb,hn,hr,hh,hw=>by
  obtain⟨c,c',e,d1,d2,d3,d4,d5,d6,d7,d8⟩:=hD d (by simp);rw[Ya,Ys]at hb hn;obtain⟨r1,r2⟩:=hr d (by simp)
  let hh0:Nat→List Nat→Option Lab:=λ n q=>if n=d.n then some (.tm 0 q) else if n=0 then some (.tm 99998 q) else none
  obtain⟨K1,L1⟩:=K.names hh0 (by
   intro n q;simp only[hh0];split
   ·simp
   ·split<;>simp)
  have keep1:∀ n q k,n≠d.n→n≠0→S.O k = .tm n q→atO S.O hh0 k = .tm n q:=λ n q k h1 h2 hk=>F8 hk (by simp[hh0,h1,h2]);have hl0:A5 X.P { S with O:=atO S.O hh0 } (λ j => .tm 0 [j]) 0 d.l d.us:=d8.imp (λ j x u hx=>hx.later L1 (λ k hk=>⟨De hk (by simp[hh0]),rfl⟩));have hul:=d8.len;obtain⟨hn9,c0,e0,b1,b2,b3,b4⟩:=K.box d.b d.l.length d1;rw[d2]at b1;cases b1;obtain⟨K2,L2⟩:=K1.cells (b:=d.b) (n:=d.l.length) (off:=0) (q:=λ j=>[j]) d1 (by omega) d2 hl0 (λ j hj=>rfl) (F9 d7);generalize hwS:({ S with O:=atO S.O hh0 }:Sit).w.setRow (({ S with O:=atO S.O hh0 }:Sit).bb d.b).1 (c.toList.take ((({ S with O:=atO S.O hh0 }:Sit).bb d.b).2+0)++d.us++c.toList.drop ((({ S with O:=atO S.O hh0 }:Sit).bb d.b).2+0+d.us.length)).toArray=w2 at K2 L2;have hwS':S.w.setRow (S.bb d.b).1 (c.toList.take ((S.bb d.b).2+0)++d.us++c.toList.drop ((S.bb d.b).2+0+d.us.length)).toArray=w2:=hwS
  have harr:(c.toList.take ((S.bb d.b).2+0)++d.us++c.toList.drop ((S.bb d.b).2+0+d.us.length)).toArray=c':=by
   refine Array.ext_getElem? λ j=>?_;have hct:c.toList.length=c.size:=Yh
   have ht:(c.toList.take ((S.bb d.b).2+0)).length=(S.bb d.b).2:=by rw[Vj,hct];omega
   rw[Kfa];have hcj:∀ i,c.toList[i]? = c[i]? := λ i=>Yu
   by_cases h1:j<(S.bb d.b).2
   ·rw[Vl,Yd (by omega),Wb,if_pos (by omega),hcj];exact(d5 j (.inl h1)).symm
   ·by_cases h2:j<(S.bb d.b).2+d.l.length
    ·rw[Yd (by rw[Vi,ht];omega),Yb (by omega),ht];have:=d6 (j-(S.bb d.b).2) (by omega);rw[show (S.bb d.b).2+(j-(S.bb d.b).2)=j by omega]at this;exact this.symm
    ·rw[Yb (by rw[Vi,ht];omega),Vi,ht,Wp,hcj,hul];rw[show (S.bb d.b).2+0+d.l.length+(j-((S.bb d.b).2+d.l.length))=j by omega];exact(d5 j (.inr (by omega))).symm
  have hw2k:w2.heap[(S.bb d.b).1]? = w'.heap[(S.bb d.b).1]?:=by
   rw[← hwS',setRow_heap _ _ _ _ _ _ d2,harr,d3]
  have hw2o:∀ k,k≠(S.bb d.b).1→w2.heap[k]? = S.w.heap[k]? := λ k hk=>by rw[← hwS'];exact setRow_other _ _ _ _ hk
  have keep2:∀ n q k,n≠d.n→n≠0→S.O k = .tm n q→(Nr { S with O:=atO S.O hh0 } (Mh d.b 0) d.b 0 d.l d.us w2).O k = .tm n q:=λ n q k h1 h2 hk=>
   F8 (h:=Mh d.b 0) (keep1 n q k h1 h2 hk) (by simp[Mh,h2])
  have hdist:∀ d'∈D,d'.b≠d.b∧d'.n≠d.n:=λ d' hd'=>⟨λ e=>hb.1 (by rw[← e];exact Yl hd'),λ e=>hn.1 (by rw[← e];exact Yl hd')⟩
  have hblk:∀ d'∈D,(S.bb d'.b).1≠(S.bb d.b).1:=λ d' hd' e1=>by
   obtain⟨c1,c1',e2,x1,_⟩:=hD d' (Ve _ hd');obtain⟨_,_,_,_,y2,_⟩:=K.box d'.b _ x1;rw[e1,b2]at y2;simp only[Vc,Lab.bx.injEq]at y2;exact(hdist d' hd').1 y2.symm
  have hsame:∀ n q x u,n≠d.n→n≠0→Cd x=true→Ad X.P S (.tm n q) x u→Ad X.P (Nr { S with O:=atO S.O hh0 } (Mh d.b 0) d.b 0 d.l d.us w2) (.tm n q) x u:=λ n q x u h1 h2 _ hx=>
   (hx.later L1 (lab' := .tm n q) (λ k hk=>⟨keep1 n q k h1 h2 hk,rfl⟩)).later L2 (λ k hk=>by
    have hk':atO S.O hh0 k = .tm n q:=hk;refine⟨F8 (h:=Mh d.b 0) hk' (by simp[Mh,h2]),hw2o k (λ e1=>?_)⟩;rw[e1]at hk';rw[Ai b2 (by simp)]at hk'
    cases hk')
  obtain⟨S3,K3,g3,w3,o3,t3,s3⟩:=T6 D (A:=ups A (B3 d.b 0 d.l)) K2 (by
   show Gg S.g d.b 0 d.l=_
   rw[Dz,← hg]) (λ d' hd'=>by
   obtain⟨c1,c1',e2,x1,x2,x3,x4,x5,x6,x7,x8⟩:=hD d' (Ve _ hd');obtain⟨z1,z2⟩:=hr d' (Ve _ hd');refine⟨c1,c1',e2,?_,(hw2o _ (hblk d' hd')).trans x2,x3,x4,x5,x6,x7,?_⟩
   ·show (Gg S.g d.b 0 d.l (H d'.b)).2=_;unfold Gg;rw[if_neg (C7 (by omega))];exact x1
   ·exact A5.impS (D9 x7) (λ n x u hx h=>hsame _ _ x u (hdist d' hd').2 (by omega) hx h) x8) hb.2 hn.2 (λ d' hd'=>hr d' (Ve _ hd')) (λ k hk=>by
   by_cases h1:k=(S.bb d.b).1
   ·rw[h1];exact hw2k.symm
   ·show w'.heap[k]? = w2.heap[k]?;rw[hw2o k h1]
    exact hh k (λ d' hd'=>by
     rcases Vk.1 hd' with rfl|hd'
     ·exact h1
     ·exact hk d' hd')) (by
   have h5:w2 = { S.w with heap:=w2.heap }:=by rw[← hwS'];rfl
   have h6:({ S.w with heap:=w2.heap }:World) = { w' with heap:=w2.heap }:=by rw[hw]
   exact h5.trans h6)
  refine⟨S3,K3,?_,w3,λ k hk=>o3 k (Ai (h:=Mh d.b 0) (Ai hk (by simp)) (by simp)),λ n q k h1 h2 hk=>t3 n q k h1 h2 (keep2 n q k (by omega) (by omega) hk),λ n q x u h1 h2 hx h=>s3 n q x u h1 h2 hx (hsame n q x u (by omega) (by omega) hx h)⟩;rw[g3,List.flatMap_cons,Ac]
def O5 {P:Program} {S Sb:Sit} {cb:List (Nat×Nat)} {nv:Nat}:∀ (ps:List Par) {i:Nat} {ls lb:List (List Lf)} {us:List Value} {bp:List (Nat×Nat)} {ws:List Up},Ri P S cb cb nv i ps ls us bp→Fg P Sb i ps us lb→(∀ l∈lb,∀ y∈l,Cd y=true)→U6 (bp.map Prod.fst) lb=some ws→
  ∃ D:List Bk,D.map Bk.b=bp.map Prod.fst∧ws=D.flatMap (λ d=>B3 d.b 0 d.l)∧(D.map Bk.n).Nodup∧
   ∀ d∈D,∃ j B t c e,i≤j∧j<i+ps.length∧d.n=1001+j∧(d.b,B)∈bp∧(S.g (H d.b)).2 = .one (.hd t)∧d.l.length=t∧A3 d.l=true∧Sb.w.heap[(S.bb d.b).1]? = some (.cells c e (0,0))∧(∀ j,j<t→c[(S.bb d.b).2+j]? = d.us[j]?)∧A5 P Sb (λ j => .tm d.n [j]) 0 d.l d.us
 |[],i,[],lb,[],bp,ws,h,hb,_,hw=>by
  have e1:bp=[]:=h;have e2:lb=[]:=hb;subst e1 e2;simp only[List.map_nil,U6,Vc]at hw;subst hw;exact⟨[],rfl,rfl,by simp,by simp⟩
 |[],i,_::_,_,_,_,_,h,_,_,_=>h.elim
 |[],i,[],_,_::_,_,_,h,_,_,_=>h.elim
 |p::ps,i,[],_,_,_,_,h,_,_,_=>h.elim
 |p::ps,i,_::_,_,[],_,_,h,_,_,_=>h.elim
 |p::ps,i,l::ls,lb,u::us,bp,ws,h,hb,hs,hw=>by
  obtain⟨b1,b2,rfl,h1,h2⟩:=h
  have skip:b1=[]→Fg P Sb (i+1) ps us lb→∃ D:List Bk,D.map Bk.b=(b1++b2).map Prod.fst∧ws=D.flatMap (λ d=>B3 d.b 0 d.l)∧(D.map Bk.n).Nodup∧
   ∀ d∈D,∃ j B t c e,i≤j∧j<i+(p::ps).length∧d.n=1001+j∧(d.b,B)∈b1++b2∧(S.g (H d.b)).2 = .one (.hd t)∧d.l.length=t∧A3 d.l=true∧Sb.w.heap[(S.bb d.b).1]? = some (.cells c e (0,0))∧(∀ j,j<t→c[(S.bb d.b).2+j]? = d.us[j]?)∧A5 P Sb (λ j => .tm d.n [j]) 0 d.l d.us:=by
   intro e1 hb2;subst e1;rw[Wl]at hw ⊢;obtain⟨D,h3,h4,h5,h6⟩:=O5 ps h2 hb2 hs hw
   exact⟨D,h3,h4,h5,λ d hd=>by
    obtain⟨j,B,t,c,e,j1,j2,rest⟩:=h6 d hd
    exact⟨j,B,t,c,e,by omega,by simp only[Vh];omega,rest⟩⟩
  have box:∀ {t t':Ty} {lb':List (List Lf)} {l':List Lf},lb=l'::lb'→Eya P S (bid nv i) t t' l u b1→Mz P Sb i t' l' u→Fg P Sb (i+1) ps us lb'→∃ D:List Bk,D.map Bk.b=(b1++b2).map Prod.fst∧ws=D.flatMap (λ d=>B3 d.b 0 d.l)∧(D.map Bk.n).Nodup∧
   ∀ d∈D,∃ j B t c e,i≤j∧j<i+(p::ps).length∧d.n=1001+j∧(d.b,B)∈b1++b2∧(S.g (H d.b)).2 = .one (.hd t)∧d.l.length=t∧A3 d.l=true∧Sb.w.heap[(S.bb d.b).1]? = some (.cells c e (0,0))∧(∀ j,j<t→c[(S.bb d.b).2+j]? = d.us[j]?)∧A5 P Sb (λ j => .tm d.n [j]) 0 d.l d.us:=by
   rintro t t' lb' l' rfl ⟨b,e1,e2,e3,e4,_⟩ ⟨k,o',c,e,vs,f1,f2,f3,f4,f5⟩ hb2;subst e1;rw[e2]at f1;cases f1;simp only[Wq,Ya,U6]at hw;split at hw
   ·rename_i ws' hws';cases hw;obtain⟨D,h3,h4,h5,h6⟩:=O5 ps h2 hb2 (λ l hl=>hs l (Ve _ hl)) hws';refine⟨⟨b,1001+i,l',vs⟩::D,by simp[h3],by rw[List.flatMap_cons,h4],?_,λ d hd=>?_⟩
    ·rw[Ya,Ys];refine⟨λ hm=>?_,h5⟩;obtain⟨d,hd,e5⟩:=Zc.1 hm;obtain⟨j,_,_,_,_,j1,_,j3,_⟩:=h6 d hd;have e6:d.n=1001+i:=e5;omega
    ·rcases Vk.1 hd with rfl|hd
     ·exact⟨i,bid nv i,t.sz,c,e,Vo _,by simp only[Vh];omega,rfl,by simp,e3,by rw[f3,e4],Hy _ (hs l' (by simp)),f2,λ j hj=>f4 j (by omega),f5⟩
     ·obtain⟨j,B,t,c,e,j1,j2,j3,j4,rest⟩:=h6 d hd;exact⟨j,B,t,c,e,by omega,by simp only[Vh];omega,j3,Ve _ j4,rest⟩
   ·cases hw
  cases p with
  |io ag t=>exact h1.elim
  |val ag t=>exact skip h1.1 hb
  |vw t h0=>exact skip h1.1 hb
  |rd t=>exact skip h1.1 hb
  |fn F m=>exact skip h1.1 hb
  |ptr t t'=>
   cases lb with
   |nil=>exact hb.elim
   |cons l' lb'=>exact box rfl h1 hb.1 hb.2
  |hid t t'=>
   cases lb with
   |nil=>exact hb.elim
   |cons l' lb'=>exact box rfl h1 hb.1 hb.2
def F1a (hE:Dx X E) (K:Ae X S a) (hg:S.g=get A) {xs:List (TypeId×Operand)} {cs cb:List (Nat×Nat)} {f:FuncId} {en:Ent} (hrun:(execOp a.eval o).run X.P S.w = .ok (.enter f (xs.map (λ x=>a.eval x.2)++cs.map (Ls S)).toArray) S.w) (hd:∀ d,o.dst=some d→d<X.nt)
  (hco:Fq X.P f en) (hnv:en.nv=xs.length+cs.length) (hp:Bfa E en.rs o.dst=true) (hn:en.nv≤1000) (hps:El en.nv 0 en.ps=true) (hlen:en.ps.length≤2000) (hrl:en.rs.length≤400)
  (h:(match F6 E cb cb en.nv A xs (cs++cb) en.ps with
  |none=>none
  |some (ls,us,bs)=>bif P3 bs then (match Ib _ ls with
   |none=>none
   |some x=>(en.run x).bind λ r=>
    match U6 bs ((An _ r).drop en.rs.length) with
    |none=>none
    |some ws=>match Hv (ups (ups A us) ws) en.rs (shL E o.dst (An _ r)) o.dst with
     |none=>none
     |some rs=>Kc (us++(ws++rs))) else none)=some r):D8 X o a S.w A Kc r:=by
 have hnp:∀ d',o.dst=some d'→Dh en.rs=true→X.np≤d':=λ d' h1 h2=>by
  have:=hp;unfold Bfa at this;rw[h1,h2]at this;exact hE.np ▸ (Vd (by simpa using this))
 split at h
 ·cases h
 ·rename_i ls us bs hargs;rw[csi]at h;obtain⟨hnd,h⟩:=h;split at h
  ·cases h
  ·rename_i x hx
   cases hrun':en.run x with
   |none=>rw[hrun']at h;simp at h
   |some y=>
    rw[hrun']at h;simp only[Ym]at h;split at h
    ·cases h
    ·rename_i ws hws;split at h
     ·cases h
     ·rename_i rs hrs;obtain⟨S1,L,K1,g1,G1,hLb,p1⟩:=Pw (X:=X) (a:=a) hE hn en.ps 0 K hg hargs
      have hpv:Ls S1=Ls S:=by funext b;unfold Ls;rw[G1.bb]
      obtain⟨i1,i2,i3,i4⟩:=O4 hn en.ps p1
      have hn1:(L.map Prod.fst).Nodup:=by rw[hLb];exact Py hnd
      have hok:=Y5 K1 hn1 i2 en.ps p1 (Iv _ _ _ hx) (λ _ h=>h) hps
      have hdrop:(xs.map (λ x=>a.eval x.2)++(cs++cb).map (Ls S)).drop en.nv=cb.map (Ls S1):=by
       rw[hpv,hnv,Jya,← Vl,List.drop_left' (by simp)]
      have htake:(xs.map (λ x=>a.eval x.2)++(cs++cb).map (Ls S)).take en.nv=xs.map (λ x=>a.eval x.2)++cs.map (Ls S):=by
       rw[hnv,Jya,← Vl,L0a (by simp)]
      have hs:=hco.sound x y hrun' S1.w (Fw S1 L) (Cea S1 L) _ (λ k hk=>K1.lt k (λ e=>hk (by simp[Fw,e]))) (H2a K1 hn p1) (by rw[hdrop];exact hok);rw[htake]at hs;refine⟨_,h,Jn hrun (Ho (by rw[← G1.w];exact hs) ?_)⟩;rintro e w' ⟨v,O',rfl,hF,hlt,hres,hback⟩;refine⟨v,rfl,?_⟩;obtain⟨a1,a2,a3⟩:=N2 hF
      have hlt2:∀ k,Ow S1 O' k ≠ .no→k<w'.heap.size:=λ k hk=>by
       by_cases hkl:k<S1.w.heap.size
       ·exact Wf hkl hF.size
       ·refine hlt k (λ e=>hk ?_);unfold Ow;rw[if_neg (λ h=>hkl h.1),e];rfl
      have hnt:∀ k,(∀ n q,S1.O k ≠ .tm n q)→F0a (S1.O k)=false:=λ k hk=>by
       cases hO:S1.O k<;>first|rfl|exact absurd hO (hk _ _)
      have hsol:=D6 (en.rs.map Prod.snd++Cw en.ps) y;rw[← hLb]at hws;obtain⟨D,D1,D2,D3,D4⟩:=O5 en.ps p1 hback (λ l hl=>hsol l (Jza hl)) hws;obtain⟨w1,r1,r2,r3,r4⟩:=H3a S1.w w' hF.size (L.map λ c=>(S1.bb c.1).1)
      have hblk:∀ k,k<S1.w.heap.size→F0a (S1.O k)=false→w1.heap[k]? = S1.w.heap[k]? := λ k hk ht=>by
       by_cases hm:k∈L.map λ c=>(S1.bb c.1).1
       ·exact r3 k hm hk
       ·rw[r4 k hm];exact(a1 k hk ht).2 (λ c hc e=>hm (by rw[e];exact Yl (f:=λ c:Nat×Nat=>(S1.bb c.1).1) hc))
      have ros:w1.os=w'.os:=by rw[r1]
      have rtape:w1.tape=w'.tape:=by rw[r1]
      have rout:w1.output=w'.output:=by rw[r1]
      obtain⟨K2,L2⟩:=K1.world (w':=w1) (O':=Ow S1 O') (λ k hk ht=>⟨(a1 k hk (hnt k ht)).1,hblk k hk (hnt k ht)⟩) (ros.trans hF.os) (rtape.trans hF.tape) (rout.trans hF.out) (by rw[r2];exact hF.size) (λ k hk=>by rw[r2];exact hlt2 k hk)
      have hbr:∀ {n:Nat} {q:List Nat} {x:Lf} {u:Value},Cd x=true→Ad X.P (bare O' w') (.tm n q) x u→Ad X.P (Kj S1 w1 (Ow S1 O')) (.tm n q) x u:=by
       intro n q x u hx hu
       have hno:∀ k,(O' k = .fz∨O' k = .tm n q)→w1.heap[k]? = w'.heap[k]? := λ k hk=>by
        by_cases hm:k∈L.map λ c=>(S1.bb c.1).1
        ·exfalso;obtain⟨c,hc,rfl⟩:=Zc.1 hm;obtain⟨m,hm1⟩:=i3 c hc;obtain⟨_,cc,ee,g2,g3,_⟩:=K1.box c.1 m hm1;have hcal:Fw S1 L (S1.bb c.1).1 = .bx c.2:=Y4 g3 (T5 hn1 (show (c.1,c.2)∈L from hc)) rfl;have:=(hF.bx _ _ (K1.lt _ (by rw[g3];simp)) hcal).1
         rcases hk with hk|hk<;>rw[this]at hk<;>cases hk
        ·exact r4 k hm
       cases x with
       |sc v=>exact hu
       |fz e r xs=>exact Ty.rep_mono (t := .sl e r) (λ k hk=>a2 k hk) (λ k hk=>hno k (.inl hk)) _ _ hu
       |own e r xs=>exact Bt.later (O':=Ow S1 O') (w':=w1) hu (λ k hk=>⟨a2 k hk,hno k (.inl hk)⟩) (λ k hk=>⟨a3 k n q hk,hno k (.inr hk)⟩)
       |_=>simp[Cd]at hx
      have hDok:∀ d∈D,d.Ok X.P (Kj S1 w1 (Ow S1 O')) w':=λ d hd'=>by
       obtain⟨j,B,t,c',e',j1,j2,j3,j4,j5,j6,j7,j8,j9,j10⟩:=D4 d hd';obtain⟨g0,c0,e0,g2,g3,g4,g5⟩:=K1.box d.b _ j5;have hcal:Fw S1 L (S1.bb d.b).1 = .bx B:=Y4 g3 (T5 hn1 j4) rfl;have hkl:=K1.lt _ (show S1.O (S1.bb d.b).1 ≠ .no by rw[g3];simp);obtain⟨_,c1,c2,e7,ff,x2,x3,x4,x5⟩:=hF.bx _ _ hkl hcal;rw[g2]at x2;cases x2;have j8':w'.heap[(S1.bb d.b).1]? = some (.cells c' e'):=j8;rw[x3]at j8';cases j8'
       have hrg:Cea S1 L B=((S1.bb d.b).2,t):=by
        unfold Cea;rw[Px i2 j4];simp only[j5]
       rw[hrg]at x5;refine⟨c0,_,_,by rw[j6];exact j5,?_,x3,x4,λ i hi=>x5 i (by rw[j6]at hi;exact hi),λ j hj=>j9 j (by omega),j7,?_⟩
       ·show w1.heap[(S1.bb d.b).1]? = _;rw[hblk _ hkl (by rw[g3];rfl)];exact g2
       ·exact A5.impS (D9 j7) (λ n x u hx hu=>hbr hx hu) j10
      obtain⟨S2,K3,g3,w3,o3,t3,s3⟩:=T6 (w':=w') D (A:=ups A us) K2 g1 hDok (by rw[D1];exact hn1) D3 (λ d hd'=>by
       obtain⟨j,_,_,_,_,_,j2,j3,_⟩:=D4 d hd'
       exact⟨by omega,by omega⟩) (λ k hk=>(r4 k (λ hm=>by
       obtain⟨c,hc,hce⟩:=Zc.1 hm
       have:c.1∈D.map Bk.b:=by rw[D1];exact Yl hc
       obtain⟨d,hd',hde⟩:=Zc.1 this;refine hk d hd' ?_;rw[← hce,← hde]
       rfl)).symm) r1
      have hnames:∀ (n:Nat) (q:List Nat) (x:Lf) (u:Value),0<n→n<1001→Cd x=true→Ad X.P (bare O' w') (.tm n q) x u→Ad X.P S2 (.tm n q) x u:=λ n q x u h1 h2 hx hu=>s3 n q x u h1 h2 hx (hbr hx hu);have hlb:∀ n q k,0<n→n<1001→O' k = .tm n q→S2.O k = .tm n q:=λ n q k h1 h2 hk=>t3 n q k h1 h2 (a3 k n q hk)
      have hres1:Cy X.P S2 S1.w.heap.size en.rs (An _ y) v:=by
       have one:∀ {i:Nat} {k:RK} {l:List Lf} {u:Value},0<i→i<500→(∀ z∈l,Cd z=true)→Gl X.P (bare O' w') S1.w.heap.size i k l u→Gl X.P S2 S1.w.heap.size i k l u:=by
        intro i k l u h1 h2 hz h
        cases k with
        |one=>exact A5.impM (λ x hx n u h=>hnames _ _ x u h1 (by omega) (hz x hx) h) h
        |agg=>
         obtain⟨us,e,h⟩:=h;exact⟨us,e,h.impM (λ x hx n u h=>hnames _ _ x u h1 (by omega) (hz x hx) h)⟩
        |ptr=>
         obtain⟨k,o',c,e,us,e1,e2,e3,e4,e5,e6,e7,h⟩:=h;exact⟨k,o',c,e,us,e1,by rw[w3];exact e2,e3,hlb _ _ _ (by omega) (by omega) e4,e5,e6,e7,h.impM (λ x hx n u h=>hnames _ _ x u h1 (by omega) (hz x hx) h)⟩
       have all:∀ (rs:List (RK×Ty)) {i:Nat} {ls:List (List Lf)} {us:List Value},0<i→i+rs.length<500→(∀ l∈ls,∀ z∈l,Cd z=true)→E6 X.P (bare O' w') S1.w.heap.size i rs ls us→E6 X.P S2 S1.w.heap.size i rs ls us:=by
        intro rs
        induction rs with
        |nil=>intro i ls us _ _ _ h;exact h
        |cons r rs ih=>
         intro i ls us h1 h2 hz h
         cases ls with
         |nil=>exact h.elim
         |cons l ls=>
          cases us with
          |nil=>exact h.elim
          |cons u us=>
           simp only[Vh]at h2;exact⟨one h1 (by omega) (hz l (by simp)) h.1,ih (by omega) (by omega) (λ l hl=>hz l (Ve _ hl)) h.2⟩
       unfold Cy at hres ⊢;split at hres
       ·obtain⟨l,ls',e1,h5⟩:=hres;exact⟨l,ls',e1,one (by omega) (by omega) (hsol l (by rw[e1];simp)) h5⟩
       ·obtain⟨us',e1,h5⟩:=hres;exact⟨us',e1,all en.rs (by omega) (by omega) hsol h5⟩
      obtain⟨S3,K4,w4,g4⟩:=Nz (E:=E) K3 g3 (λ _=>hrl) hd K1.fr.size (D6 _ y) hnp hres1 (by rw[← D2];exact hrs);refine⟨S3,w4.trans w3,K4,?_⟩;rw[g4,← D2,Ac,Ac]
def Rm {α β:Type}:∀ {l:List α} {m:List β},m.length≤l.length→(l.zip m).map Prod.snd=m
 |_,[],_=>by simp
 |[],_::_,h=>by simp at h
 |_::l,_::m,h=>by simp[Rm (l:=l) (m:=m) (by simpa using h)]
def Iw:∀ {Ts:List TypeId} {xs:List Operand} {ss:List Sv},J9 E Ts A xs=some ss→xs.length≤Ts.length
 |_,[],_,_=>Wn _
 |[],_::_,_,h=>by simp[J9]at h
 |T::Ts,x::xs,ss,h=>by
  simp only[J9]at h;split at h
  ·split at h
   ·rename_i hr;simp only[Vh];have:=Iw hr;omega
   ·cases h
  ·cases h
def T7 (hE:Dx X E) (K:Ae X S a) (hg:S.g=get A) {Ts:List TypeId} {xs:List Operand} {cs:List (Nat×Nat)} {f:FuncId} {en:Ent} {ss:List Sv} (hrun:(execOp a.eval o).run X.P S.w = .ok (.enter f (xs.map a.eval++cs.map (Ls S)).toArray) S.w) (hd:∀ d,o.dst=some d→d<X.nt)
  (hco:Fq X.P f en) (hss:J9 E Ts A xs=some ss) (h:Nf E A en (Ts.zip xs) cs ss o.dst Kc=some r):D8 X o a S.w A Kc r:=by
 unfold Nf at h;have hz:=Rm (Iw hss)
 have hzl:(Ts.zip xs).length=xs.length:=by
  rw[List.length_zip];have:=Iw hss;omega
 rw[csi]at h;obtain⟨hnv,h⟩:=h
 have hnv':en.nv=xs.length+cs.length:=by rw[← hzl];exact Vb hnv
 cases hl:(Gy en.ps&&Mg en.rs&&cs.isEmpty) with
 |true=>
  rw[hl,cond_true]at h;simp only[Va,List.isEmpty_iff]at hl;obtain⟨⟨l1,l2⟩,l3⟩:=hl;subst l3;simp only[List.map_nil,Yc]at hrun;exact Exa hE K hg hrun hd hco (by simpa using hnv') (R9 hE K hg hss) l1 l2 h
 |false=>
  rw[hl,cond_false]at h;rw[csi]at h;obtain⟨hp,h⟩:=h;simp only[Va]at hp;obtain⟨p1,⟨⟨p2,p3⟩,p4⟩,p5⟩:=hp;refine F1a (xs:=Ts.zip xs) (cs:=cs) (cb:=W6 ss++P0 A en.ps ss) hE K hg ?_ hd hco (by rw[hzl];exact hnv') p1 (Vd p2) p3 (Vd p5) (Vd p4) h
  have e1:(Ts.zip xs).map (λ x=>a.eval x.2)=xs.map a.eval:=by
   rw[← hz,Kga];rw[hz];rfl
  rw[e1];exact hrun
def Cfa (hE:Dx X E) (hcall:∀ f en,E.call f=some en→Fq X.P f en) (K:Ae X S a) (hg:S.g=get A) {c:Call} {t:Nat} (ho:o.op = .call c) (hc:c.callee = .value (.tmp t)) (hd:∀ d,o.dst=some d→d<X.nt)
  (h:Af E o A Kc=some r):D8 X o a S.w A Kc r:=by
 unfold Af at h;rw[ho]at h;simp only[hc]at h;split at h
 ·rename_i f bs hs;split at h
  ·rename_i en ss he hss;obtain⟨hal,h⟩:=cs h;have hco:=hcall f en he;obtain⟨pl,h2⟩:=Cu hE K hg hs;obtain⟨us,e1,e2⟩:Ad X.P S (.pl pl []) (.fn f bs) (a.eval (.tmp t)):=h2;have e3:=Lt hg e2 hal;subst e3;exact T7 hE K hg (Ui (w:=S.w) ho hc e1 hco) hd hco hss h
  ·cases h
 ·cases h
def T8 (hE:Dx X E) (K:Ae X S a) (hg:S.g=get A):∀ {xs:List Operand} {bs:List (Nat×Nat)},P7 E A xs=some bs→Ld S bs (xs.map a.eval)
 |[],bs,h=>by
  simp only[P7,Vc]at h;subst h;rfl
 |x::l,bs,h=>by
  simp only[P7]at h;split at h
  ·rename_i b v hx;split at h
   ·rename_i bs' hr;cases h;obtain⟨pl,h2⟩:=Cu hE K hg hx;exact⟨_,_,rfl,h2,T8 hE K hg hr⟩
   ·cases h
  ·cases h
def Rn (hE:Dx X E) (K:Ae X S a) (hg:S.g=get A) {f:FuncId} {x y:Array Operand} {d:Nat} (ho:o.op = .makeFunc (.func f) x y) (hod:o.dst=some d) (hd:d<X.nt) (h:Af E o A Kc=some r):D8 X o a S.w A Kc r:=by
 unfold Af at h;rw[ho,hod]at h;simp only at h;split at h
 ·rename_i bs hx hy
  have ex:x = #[]:=by
   apply Ksa
   simpa using hx
  subst ex;have hsv:Dq X.P S 0 (.one (.fn f bs)) (.func (.func f) #[] (y.toList.map a.eval).toArray):=⟨_,rfl,T8 hE K hg hy⟩;have K2:=K.put0 hd _ _ 0 rfl hsv;refine⟨_,h,A9 (S:=Et S (λ _ _=>none) d _ _) (v := .func (.func f) #[] (y.toList.map a.eval).toArray) ?_ (by rw[hod];exact K2) ?_⟩
  ·show _=Result.ok _ S.w
   have e1:y.map a.eval=(y.toList.map a.eval).toArray:=by
    apply Ksa;simp
   unfold execOp;simp[ho,Instr.makeFunc,e1]
  ·show upd S.g d _=_;rw[A6,← hg]
 ·cases h
end
end

end Go.Proofs.Ytbbifgjgneefkaa.Vf
