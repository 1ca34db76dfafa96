import Derived.Test.YtflokceoeiplcaaGreatMaf
section
set_option linter.unusedVariables false
set_option linter.unusedSimpArgs false
namespace Go.Proofs.YtflokceoeiplcaaGreat.Vf
open Go
attribute [local irreducible] C H
def bare (O:Nat→Lab) (w:World):Sit:=⟨O,fun _=>(0,0),fun _=>(0,.one .dead),fun _=>undef,w⟩
def A0a (P:Program) (S:Sit) (rg:Nat→Nat×Nat) (B:Nat) (t:Ty) (l:List Lf) (u:Value):Prop:=
 ∃ k o c e us,u = .pointer (some ⟨k,o,none⟩)∧S.w.heap[k]? = some (.cells c e (0,0))∧S.O k = .bx B∧rg B=(o,t.sz)∧o+t.sz≤c.size∧t.sz<999∧l.length=t.sz∧(∀ j,j<t.sz→c[o+j]? = us[j]?)∧
  Aa P S (fun j => .pl (C B j) []) 0 l us
def Kla (P:Program) (S:Sit) (w:Nat→Value) (j:Nat):Lf→Value→Prop
 |.own _ _ _,u=>u=w j
 |x,u=>Mba x=true∧B7 P S .fz x u
def Bda (Q:Nat→Lf→Value→Prop):Nat→List Lf→List Value→Prop
 |_,[],[]=>True
 |j,x::l,u::us=>Q j x u∧Bda Q (j+1) l us
 |_,_,_=>False
def Kma (P:Program) (S:Sit) (rg:Nat→Nat×Nat) (nv:Nat) (hs:List Value) (i:Nat):Par→List Lf→Value→Prop
 |.vw t h,l,u=>nv≤h∧∃ vs k o c e,u = .agg vs.toArray∧hs[h - nv]? = some (.pointer (some ⟨k,o,none⟩))∧S.w.heap[k]? = some (.cells c e (0,0))∧t.sz<999∧l.length=t.sz∧Bda (Kla P S (fun j=>c.getD (o+j) undef)) 0 l vs
 |.val ag _,l,u=>∃ us,(if ag then u = .agg us.toArray else us=[u])∧Aa P S (fun j => .pl i (if ag then [j] else [])) 0 l us
 |.ptr t _,l,u=>i<nv∧A0a P S rg (bid nv i) t l u
 |.hid t _,l,u=>nv≤i∧A0a P S rg (bid nv i) t l u
 |.rd t,l,u=>∃ x k o cs,mkW t l=some x∧u = .pointer (some ⟨k,o,none⟩)∧S.O k = .fz∧t.rep P (fun k=>S.O k = .fz) S.w x cs∧Gi S.w k o cs
 |.fn F m,_,u=>u = .func (.func F) #[] hs.toArray∧hs.length=m
def Nu (P:Program) (S:Sit) (rg:Nat→Nat×Nat) (nv:Nat) (hs:List Value):Nat→List Par→List (List Lf)→List Value→Prop
 |_,[],[],[]=>True
 |i,p::ps,l::ls,u::us=>Kma P S rg nv hs i p l u∧Nu P S rg nv hs (i+1) ps ls us
 |_,_,_,_=>False
def Pc (P:Program) (S:Sit) (n0:Nat) (i:Nat):RK→List Lf→Value→Prop
 |.one,l,u=>Aa P S (fun _ => .tm i []) 0 l [u]
 |.agg,l,u=>∃ us,u = .agg us.toArray∧Aa P S (fun j => .tm i [j]) 0 l us
 |.ptr,l,u=>∃ k o c e us,u = .pointer (some ⟨k,o,none⟩)∧S.w.heap[k]? = some (.cells c e (0,0))∧n0≤k∧S.O k = .tm (i+500) []∧o+l.length≤c.size∧l.length<999∧(∀ j,j<l.length→c[o+j]? = us[j]?)∧
   Aa P S (fun j => .tm i [j]) 0 l us
def Le (P:Program) (S:Sit) (n0:Nat):Nat→List (RK×Ty)→List (List Lf)→List Value→Prop
 |_,[],_,us=>us=[]
 |i,k::ks,l::ls,u::us=>Pc P S n0 i k.1 l u∧Le P S n0 (i+1) ks ls us
 |_,_,_,_=>False
def Jn (P:Program) (S:Sit) (n0:Nat) (rs:List (RK×Ty)) (ls:List (List Lf)) (v:Value):Prop:=
 match rs with
 |[r]=>∃ l ls',ls=l::ls'∧Pc P S n0 1 r.1 l v
 |rs=>∃ us,v = .tuple us.toArray∧Le P S n0 1 rs ls us
def A1a (P:Program) (S:Sit) (i:Nat) (t':Ty) (l:List Lf) (u:Value):Prop:=
 ∃ k o c e us,u = .pointer (some ⟨k,o,none⟩)∧S.w.heap[k]? = some (.cells c e (0,0))∧l.length=t'.sz∧(∀ j,j<t'.sz→c[o+j]? = us[j]?)∧Aa P S (fun j => .tm (1001+i) [j]) 0 l us
def Nf (P:Program) (S:Sit):Nat→List Par→List Value→List (List Lf)→Prop
 |_,[],_,ls=>ls=[]
 |i,.ptr _ t'::ps,u::us,l::ls=>A1a P S i t' l u∧Nf P S (i+1) ps us ls
 |i,.hid _ t'::ps,u::us,l::ls=>A1a P S i t' l u∧Nf P S (i+1) ps us ls
 |i,.val _ _::ps,_::us,ls=>Nf P S (i+1) ps us ls
 |i,.vw _ _::ps,_::us,ls=>Nf P S (i+1) ps us ls
 |i,.rd _::ps,_::us,ls=>Nf P S (i+1) ps us ls
 |i,.fn _ _::ps,_::us,ls=>Nf P S (i+1) ps us ls
 |_,_,_,_=>False
def Yna (nv n b:Nat):Prop:=∃ i,i<n∧b=bid nv i
def W2a (P:Program) (f:FuncId) (en:Ent):Prop:=
 ∀ x r,en.run x=some r→∀ (w:World) (O:Nat→Lab) (rg:Nat→Nat×Nat) (us:List Value),(∀ k,O k ≠ .no→k<w.heap.size)→(∀ k b,O k = .bx b→Yna en.nv en.ps.length b∧(∃ c e f,w.heap[k]? = some (.cells c e f))∧∀ k',O k' = .bx b→k'=k)→Nu P (bare O w) rg en.nv (us.drop en.nv) 0 en.ps (Ed _ x) us→
  Calls P f (us.take en.nv).toArray w (fun e w'=>∃ v O',e = .returned v∧Fr O w rg O' w'∧(∀ k,O' k ≠ .no→k<w'.heap.size)∧Jn P (bare O' w') w.heap.size en.rs (Ed _ r) v∧Nf P (bare O' w') 0 en.ps us ((Ed _ r).drop en.rs.length))
structure A4 (P:Program) (f:FuncId) (en:Ent):Prop where
 fn:∃ fn,P.funcs[f]? = some fn∧(fn.name == "runtime.NumGoroutine")=false∧fn.body.isNone=false
 sound:W2a P f en
section
variable {X:Cx} {S S':Sit} {a:Act} {E:En} {A:Ab} {o:Oper} {R:Type} {Kc:List Up→Option R} {r:R}
def Jf:Lf→Bool
 |.sc _ | .fz _ _ _ | .own _ _ _=>true
 |_=>false
theorem B7.bare {P:Program} {x:Lf} {u:Value} {lab lab':Lab} (hx:Jf x=true) {S1 S2:Sit} (hw:S2.w=S1.w) (hf:∀ k,S1.O k = .fz→S2.O k = .fz) (hl:∀ k,S1.O k=lab→S2.O k=lab') (h:B7 P S1 lab x u):B7 P S2 lab' x u:=by
 cases x with
 |sc v=>exact h
 |fz e r xs=>exact Ty.rep_mono (t := .sl e r) hf (fun k _=>by rw [hw]) _ _ h
 |own e r xs=>exact H2.later (O':=S2.O) (w':=S2.w) h (fun k hk=>⟨hf k hk,by rw [hw]⟩) (fun k hk=>⟨hl k hk,by rw [hw]⟩)
 |_=>simp [Jf] at hx
theorem Lh:∀ (t:Ty) (x:t.den),∀ y∈A7 t x,Jf y=true
 |.i _,_=>by simp [A7,Jf]
 |.b,_=>by simp [A7,Jf]
 |.s,_=>by simp [A7,Jf]
 |.sl _ _,_=>by simp [A7,Jf]
 |.ow _ _,_=>by simp [A7,Jf]
 |.pr x y,p=>by
  intro z hz
  rcases List.mem_append.1 (show z∈A7 x p.1++A7 y p.2 from hz) with h|h
  ·exact Lh x p.1 z h
  ·exact Lh y p.2 z h
theorem Ip:∀ (t:Ty) (x:t.den),(A7 t x).length=t.sz
 |.i _,_=>rfl
 |.b,_=>rfl
 |.s,_=>rfl
 |.sl _ _,_=>rfl
 |.ow _ _,_=>rfl
 |.pr x y,p=>by
  show (A7 x p.1++A7 y p.2).length=x.sz+y.sz
  rw [List.length_append,Ip x p.1,Ip y p.2]
theorem Aa.impS {P:Program} {S1 S2:Sit} {f f':Nat→Lab}:∀ {l:List Lf} {j:Nat} {us:List Value},(∀ y∈l,Jf y=true)→(∀ n x u,Jf x=true→B7 P S1 (f n) x u→B7 P S2 (f' n) x u)→Aa P S1 f j l us→Aa P S2 f' j l us
 |[],_,[],_,_,_=>trivial
 |[],_,_::_,_,_,h=>h.elim
 |_::_,_,[],_,_,h=>h.elim
 |y::l,j,u::us,hs,hi,h=>⟨hi j y u (hs y (by simp)) h.1,Aa.impS (fun z hz=>hs z (List.mem_cons_of_mem _ hz)) hi h.2⟩
theorem Aw.world (K:Aw X S a) {w':World} {O':Nat→Lab} (h1:∀ k,k<S.w.heap.size→(∀ n q,S.O k ≠ .tm n q)→O' k=S.O k∧w'.heap[k]? = S.w.heap[k]?)
  (hos:w'.os=S.w.os) (ht:w'.tape=S.w.tape) (hout:w'.output=S.w.output) (hsz:S.w.heap.size≤w'.heap.size) (hlt:∀ k,O' k ≠ .no→k<w'.heap.size):
  Aw X (Y4 S w' O') a∧Gq S (Y4 S w' O'):=by
 have keep:∀ k o,S.O k=o→k<S.w.heap.size→(∀ n q,o ≠ .tm n q)→O' k=o∧w'.heap[k]? = S.w.heap[k]?:=by
  intro k o' h hk ho
  obtain ⟨h2,h3⟩:=h1 k hk (by rw [h]; exact ho)
  exact ⟨h2.trans h,h3⟩
 have keep':∀ k o,S.O k=o→o ≠ .no→(∀ n q,o ≠ .tm n q)→O' k=o∧w'.heap[k]? = S.w.heap[k]? := fun k o' h hn ho=>keep k o' h (K.lt k (by rw [h]; exact hn)) ho
 have L:Gq S (Y4 S w' O'):=⟨fun _=>Nat.le_refl _,fun _ _=>rfl,fun p v e r xs' h _=>⟨xs',h,rfl⟩,fun _ _=>rfl,fun k h=>keep' k _ h (by simp) (by simp),Gq.box_of (fun _ _ _ h=>h) (fun k b h=>keep' k _ h (by simp) (by simp)),fun p _ hd=>⟨hd,fun _ _ _ h=>h,fun k hk=>by
  obtain ⟨h1,h2⟩:=keep' k _ hk (by simp) (by simp)
  exact ⟨.inl h1,h2⟩⟩⟩
 have F:=K.fr
 refine ⟨⟨K.nt,hlt,fun l=>(K.at_ l).later L (fun p k h=>keep' k _ h (by simp) (by simp)),fun b n h=>?_,K.rgn,K.sl,K.sz,K.df,⟨hos.trans F.os,ht.trans F.tape,hout.trans F.out,Nat.le_trans F.size hsz,fun k hk h0=>?_,fun k hk h0=>?_,fun k b hk h0=>?_⟩⟩,L⟩
 ·obtain ⟨hn,c,e,e1,e2,e3,e4⟩:=K.box b n h
  obtain ⟨h5,h6⟩:=keep' _ _ e2 (by simp) (by simp)
  exact ⟨hn,c,e,h6.trans e1,h5,e3,e4⟩
 ·obtain ⟨f1,f2⟩:=F.no k hk h0
  obtain ⟨h5,h6⟩:=keep k _ f1 (Nat.lt_of_lt_of_le hk F.size) (by simp)
  exact ⟨h5,h6.trans f2⟩
 ·obtain ⟨f1,f2⟩:=F.fz k hk h0
  obtain ⟨h5,h6⟩:=keep k _ f1 (Nat.lt_of_lt_of_le hk F.size) (by simp)
  exact ⟨h5,h6.trans f2⟩
 ·obtain ⟨f1,c,c',e,f,f2,f3,f4,f5⟩:=F.bx k b hk h0
  obtain ⟨h5,h6⟩:=keep k _ f1 (Nat.lt_of_lt_of_le hk F.size) (by simp)
  exact ⟨h5,c,c',e,f,f2,h6.trans f3,f4,f5⟩
end
end Go.Proofs.YtflokceoeiplcaaGreat.Vf
end

section
set_option linter.unusedVariables false
set_option linter.unusedSimpArgs false
namespace Go.Proofs.YtflokceoeiplcaaGreat.Vf
open Go
attribute [local irreducible] C H
section
variable {X:Cx} {S S':Sit} {a:Act} {E:En} {A:Ab} {o:Oper} {R:Type} {Kc:List Up→Option R} {r:R}
theorem Aa.impM {P:Program} {S1 S2:Sit} {f f':Nat→Lab}:∀ {l:List Lf} {j:Nat} {us:List Value},(∀ x∈l,∀ n u,B7 P S1 (f n) x u→B7 P S2 (f' n) x u)→Aa P S1 f j l us→Aa P S2 f' j l us
 |[],_,[],_,_=>trivial
 |[],_,_::_,_,h=>h.elim
 |_::_,_,[],_,h=>h.elim
 |y::l,j,u::us,hi,h=>⟨hi y (by simp) j u h.1,Aa.impM (fun z hz=>hi z (List.mem_cons_of_mem _ hz)) h.2⟩
theorem Pc.imp {P:Program} {S1 S2:Sit} {n0 i:Nat} {k:RK} {l:List Lf} {u:Value} (hw:S2.w=S1.w) (hO:∀ k i,S1.O k = .tm i []→S2.O k = .tm i []) (hi:∀ y∈l,∀ i q u,B7 P S1 (.tm i q) y u→B7 P S2 (.tm i q) y u) (h:Pc P S1 n0 i k l u):Pc P S2 n0 i k l u:=by
 cases k with
 |one=>exact Aa.impM (fun x hx n u h=>hi x hx _ _ u h) h
 |agg=>
  obtain ⟨us,e,h⟩:=h
  exact ⟨us,e,h.impM (fun x hx n u h=>hi x hx _ _ u h)⟩
 |ptr=>
  obtain ⟨k,o,c,e,us,e1,e2,e3,e4,e5,e6,e7,h⟩:=h
  exact ⟨k,o,c,e,us,e1,by rw [hw]; exact e2,e3,hO _ _ e4,e5,e6,e7,h.impM (fun x hx n u h=>hi x hx _ _ u h)⟩
theorem Le.imp {P:Program} {S1 S2:Sit} {n0:Nat} (hw:S2.w=S1.w) (hO:∀ k i,S1.O k = .tm i []→S2.O k = .tm i []):∀ {rs:List (RK×Ty)} {i:Nat} {ls:List (List Lf)} {us:List Value},
  (∀ l∈ls,∀ y∈l,∀ i q u,B7 P S1 (.tm i q) y u→B7 P S2 (.tm i q) y u)→Le P S1 n0 i rs ls us→Le P S2 n0 i rs ls us
 |[],_,_,_,_,h=>h
 |k::ks,i,l::ls,u::us,hi,h=>⟨h.1.imp hw hO (hi l (by simp)),Le.imp hw hO (fun l' hl'=>hi l' (List.mem_cons_of_mem _ hl')) h.2⟩
 |_::_,_,[],_,_,h=>h.elim
 |_::_,_,_::_,[],_,h=>h.elim
theorem Jn.imp {P:Program} {S1 S2:Sit} {n0:Nat} {rs:List (RK×Ty)} {ls:List (List Lf)} {v:Value} (hw:S2.w=S1.w) (hO:∀ k i,S1.O k = .tm i []→S2.O k = .tm i [])
  (hi:∀ l∈ls,∀ y∈l,∀ i q u,B7 P S1 (.tm i q) y u→B7 P S2 (.tm i q) y u) (h:Jn P S1 n0 rs ls v):Jn P S2 n0 rs ls v:=by
 unfold Jn at h ⊢
 split at h
 ·obtain ⟨l,ls',rfl,h⟩:=h
  exact ⟨l,ls',rfl,h.imp hw hO (hi l (by simp))⟩
 ·obtain ⟨us,e,h⟩:=h
  exact ⟨us,e,h.imp hw hO hi⟩
theorem Yoa (K:Aw X S a) {A1:Ab} (hg:S.g=get A1) {d k o n0:Nat} {l0:List Nat} {m:List Lf} {us:List Value} {q:Nat→List Nat} {c:Array Value} {e:TypeId} (hd:d<X.nt) (hk:S.O k = .tm n0 l0) (hn0:n0≠0) (hk0:X.w0.heap.size≤k)
  (hc:S.w.heap[k]? = some (.cells c e (0,0))) (ho:o+m.length≤c.size) (hcs:∀ j,j<m.length→c[o+j]? = us[j]?) (hl:Aa X.P S (fun j => .tm 0 (q j)) 0 m us)
  (hq:∀ j,j<m.length→Xx d 0 0 (q j)=some (.pl (C d (0+j)) [])) (hm:m.length<999) (hst:∀ k,.hd k∉m) (hnp:X.np≤d):
  ∃ S',Aw X S' (a.put (some d) (.pointer (some ⟨k,o,none⟩)))∧S'.w=S.w∧S'.g=get (ups A1 (⟨H d,false,.one (.hd m.length)⟩::D0 d 0 m++[⟨d,false,.one (.bp d ((get A1 (H d)).1+1) 0)⟩])):=by
 obtain ⟨K2,L2⟩:=K.newbox (d:=d) (k:=k) (o:=o) hk hn0 hk0 hc ho hcs hl hq hm hst hnp (Nat.lt_of_lt_of_le hd K.nt)
 have hv:((Fba S d k o m us).g (H d)).1=(S.g (H d)).1+1:=by
  show (O8 (upd S.g (H d) _) d 0 m (H d)).1=_
  unfold O8
  rw [if_neg (Hi (by omega)),Ai]
 have K3:=K2.put0 hd (.one (.bp d ((S.g (H d)).1+1) 0)) (.pointer (some ⟨k,o,none⟩)) 0 rfl ⟨by rw [hv]; exact Nat.le_refl _,fun _=>by
  show Value.pointer _ = .pointer (some ⟨(upd S.bb d (k,o) d).1,(upd S.bb d (k,o) d).2+0,none⟩)
  rw [Ai]
  rfl⟩
 have e1:(Fba S d k o m us).g=get (ups A1 (⟨H d,false,.one (.hd m.length)⟩::D0 d 0 m)):=by
  show O8 (upd S.g (H d) ((S.g (H d)).1+1,.one (.hd m.length))) d 0 m=get (ups (up A1 ⟨H d,false,.one (.hd m.length)⟩) (D0 d 0 m))
  rw [Ki,N4,← hg]
  rfl
 refine ⟨_,K3,rfl,?_⟩
 show upd (Fba S d k o m us).g d _=_
 rw [Av,Aj,← e1,← hg]
def M5a (d:Nat) (many:Bool):Nat→List Nat→Option Lab:=fun n q=>match n with
 |0=>none
 |n+1=>if many then (match q with
  |[]=>some (.pl d [n,0])
  |[j]=>some (.pl d [n,j])
  |_=>none) else (if n=0 then some (.pl d q) else none)
theorem Fza (d:Nat) (many:Bool):∀ n q p,M5a d many n q=some p→∃ p',p = .pl d p':=by
 intro n q p hp
 unfold M5a at hp
 split at hp
 ·cases hp
 ·split at hp
  ·split at hp<;>first|(cases hp; exact ⟨_,rfl⟩)|cases hp
  ·split at hp<;>first|(cases hp; exact ⟨_,rfl⟩)|cases hp
theorem G0a (K:Aw X S a) {A1:Ab} (hg:S.g=get A1) {rs:List (RK×Ty)} {ls:List (List Lf)} {d:Option Nat} {us:List Up} {v:Value} {n0:Nat} (hd:∀ d',d=some d'→d'<X.nt) (hn0:X.w0.heap.size≤n0) (hls:∀ l∈ls,∀ y∈l,Jf y=true) (hnp:∀ d',d=some d'→Lk rs=true→X.np≤d')
  (hr:Jn X.P S n0 rs ls v) (h:Qt A1 rs ls d=some us):∃ S',Aw X S' (a.put d v)∧S'.w=S.w∧S'.g=get (ups A1 us):=by
 cases d with
 |none=>
  have:us=[]:=by unfold Qt at h; cases rs<;>simpa using h.symm
  subst this
  exact ⟨S,K,rfl,hg⟩
 |some d=>
  cases rs with
  |nil=>
   have:us=[⟨d,false,.tup []⟩]:=by unfold Qt at h; simpa using h.symm
   subst this
   obtain ⟨vs,rfl,h2⟩:=hr
   have:vs=[]:=by cases ls<;>exact h2
   subst this
   have K2:=K.put0 (hd d rfl) (.tup []) (.tuple #[]) 0 rfl ⟨[],rfl,trivial⟩
   exact ⟨_,K2,rfl,by show upd S.g d _=_; rw [Aj,← hg]⟩
  |cons r1 rs=>
   cases rs with
   |nil=>
    obtain ⟨l,ls',e1,h2⟩:=hr
    subst e1
    obtain ⟨k,t⟩:=r1
    cases k with
    |one=>
     have h2':Aa X.P S (fun _ => .tm 1 []) 0 l [v]:=h2
     cases l with
     |nil=>exact h2'.elim
     |cons x l=>
      cases l with
      |cons y l=>exact h2'.2.elim
      |nil=>
       have:us=[⟨d,false,.one x⟩]:=by unfold Qt at h; simpa using h.symm
       subst this
       have h3:B7 X.P S (.tm 1 []) x v:=h2'.1
       have L:=Ht S (M5a d false) d (.one x) v
       have hsv:Km X.P (Mh S (M5a d false) d (.one x) v) d (.one x) v:=B7.later (lab := .tm 1 []) (lab' := .pl d []) L h3 (fun k hk=>⟨K7 hk rfl,rfl⟩)
       have K2:=K.put (hd d rfl) (M5a d false) (Fza d false) (.one x) v hsv
       exact ⟨_,K2,rfl,by show upd S.g d _=_; rw [Aj,← hg]⟩
    |agg=>
     have:us=[⟨d,false,.agg l⟩]:=by unfold Qt at h; simpa using h.symm
     subst this
     obtain ⟨vs,rfl,h3⟩:=h2
     have L:=Ht S (M5a d false) d (.agg l) (.agg vs.toArray)
     have hsv:Km X.P (Mh S (M5a d false) d (.agg l) (.agg vs.toArray)) d (.agg l) (.agg vs.toArray):=⟨vs,rfl,h3.imp (fun j x u hx=>hx.later L (fun k hk=>⟨K7 hk rfl,rfl⟩))⟩
     have K2:=K.put (hd d rfl) (M5a d false) (Fza d false) (.agg l) _ hsv
     exact ⟨_,K2,rfl,by show upd S.g d _=_; rw [Aj,← hg]⟩
    |ptr=>
     have:us=Mda A1 d l:=by unfold Qt at h; simpa using h.symm
     subst this
     obtain ⟨k,o,c,e,vs,rfl,e2,e3,e4,e5,e6,e7,h3⟩:=h2
     let hh:Nat→List Nat→Option Lab:=fun n q=>if n=1 then some (.tm 0 q) else none
     obtain ⟨K1,L1⟩:=K.names hh (by intro n q; simp only [hh]; split<;>simp)
     have e4':({ S with O:=atO S.O hh }:Sit).O k = .tm 501 []:=N5 e4 (by simp [hh])
     obtain ⟨S',K',w',g'⟩:=Yoa K1 (A1:=A1) (q:=fun j=>[j]) hg (hd d rfl) e4' (by decide) (Nat.le_trans hn0 e3) e2 e5 e7 (h3.imp (fun j x u hx=>hx.later L1 (fun k hk=>⟨K7 hk (by simp [hh]),rfl⟩))) (fun j hj=>rfl) e6 (by
      intro k hk
      have:=hls l (by simp) _ hk
      simp [Jf] at this) (hnp d rfl rfl)
     exact ⟨S',K',w',by rw [g']; rfl⟩
   |cons r2 rs=>
    have h':(bif Lk (r1::r2::rs) then none else some [(⟨d,false,.tup (Cma (r1::r2::rs) ls)⟩:Up)])=some us:=by
     unfold Qt at h
     obtain ⟨k1,t1⟩:=r1
     cases k1<;>exact h
    cases hp:Lk (r1::r2::rs) with
    |true=>rw [hp] at h'; simp at h'
    |false=>
     rw [hp] at h'
     simp only [cond_false,Option.some.injEq] at h'
     subst h'
     obtain ⟨vs,rfl,h2⟩:=hr
     generalize hR:(r1::r2::rs)=R2 at hp h2
     have key:∀ (s:Sv) (rs:List (RK×Ty)) (i:Nat) (ls:List (List Lf)) (us:List Value),Lk rs=false→Le X.P S n0 (i+1) rs ls us→Ox X.P (Mh S (M5a d true) d s (.tuple vs.toArray)) d i (Cma rs ls) us:=by
      intro s rs
      induction rs with
      |nil=>
       intro i ls us _ h
       have:us=[]:=by cases ls<;>exact h
       subst this
       simp [Cma,Ox]
      |cons r rs ih=>
       intro i ls us hp h
       cases ls with
       |nil=>exact h.elim
       |cons l ls=>
        cases us with
        |nil=>exact h.elim
        |cons u us=>
         obtain ⟨k,t⟩:=r
         have L:=Ht S (M5a d true) d s (.tuple vs.toArray)
         have hp2:Lk rs=false:=by cases k<;>first|(simp [Lk] at hp; done)|simpa [Lk] using hp
         refine ⟨?_,ih (i+1) ls us hp2 h.2⟩
         cases k with
         |ptr=>simp [Lk] at hp
         |one=>
          have h2':Aa X.P S (fun _ => .tm (i+1) []) 0 l [u]:=h.1
          refine ⟨[u],rfl,?_⟩
          cases l with
          |nil=>exact h2'.elim
          |cons x l=>
           cases l with
           |cons y l=>exact h2'.2.elim
           |nil=>exact ⟨B7.later (lab := .tm (i+1) []) (lab' := .pl d [i,0]) L h2'.1 (fun k hk=>⟨K7 hk rfl,rfl⟩),trivial⟩
         |agg=>
          obtain ⟨ws,e1,h3⟩:=h.1
          exact ⟨ws,e1,h3.imp (fun j x u hx=>hx.later L (fun k hk=>⟨K7 hk rfl,rfl⟩))⟩
     have hsv:Km X.P (Mh S (M5a d true) d (.tup (Cma R2 ls)) (.tuple vs.toArray)) d (.tup (Cma R2 ls)) (.tuple vs.toArray):=⟨vs,rfl,key _ _ 0 ls vs hp h2⟩
     have K2:=K.put (hd d rfl) (M5a d true) (Fza d true) (.tup (Cma R2 ls)) _ hsv
     exact ⟨_,K2,rfl,by show upd S.g d _=_; rw [Aj,← hg]⟩
def Nca (N:Nat):Nat→List Nat→Option Lab:=fun n _=>if n≤N then some .fz else none
theorem Aa.calmN {P:Program} {S:Sit} {N i:Nat} (hi:i≤N) {q:Nat→List Nat}:∀ {l:List Lf} {j:Nat} {us:List Value},(∀ y∈l,Jf y=true)→Aa P S (fun n => .tm i (q n)) j l us→Aa P { S with O:=atO S.O (Nca N) } (fun n => .tm i (q n)) j (l.map Mp) us
 |[],_,[],_,_=>trivial
 |[],_,_::_,_,h=>h.elim
 |_::_,_,[],_,h=>h.elim
 |x::l,j,u::us,hs,h=>by
  have hfz:∀ k,S.O k = .fz→atO S.O (Nca N) k = .fz:=fun k hk=>B2 hk (by simp)
  refine ⟨?_,Aa.calmN hi (fun y hy=>hs y (List.mem_cons_of_mem _ hy)) h.2⟩
  have h1:=hs x (by simp)
  cases x with
  |sc v=>exact h.1
  |fz e r xs=>exact Ty.rep_mono (t := .sl e r) hfz (fun _ _=>rfl) _ _ h.1
  |own e r xs=>
   have h2:H2 P S.O S.w (.tm i (q j)) e r xs u:=h.1
   exact h2.reads (O':=fun k=>atO S.O (Nca N) k) hfz (fun k hk=>K7 hk (by simp [Nca,hi]))
  |_=>simp [Jf] at h1
theorem Pc.calmN {P:Program} {S:Sit} {N n0 i:Nat} (hi:i≤N) {k:RK} (hk:k = .ptr→N<i+500) {l:List Lf} {u:Value} (hs:∀ y∈l,Jf y=true) (h:Pc P S n0 i k l u):Pc P { S with O:=atO S.O (Nca N) } n0 i k (l.map Mp) u:=by
 cases k with
 |one=>exact Aa.calmN (q:=fun _=>[]) hi hs h
 |agg=>
  obtain ⟨us,e,h⟩:=h
  exact ⟨us,e,Aa.calmN (q:=fun n=>[n]) hi hs h⟩
 |ptr=>
  obtain ⟨k,o,c,e,us,h1,h2,h3,h4,h5,h6,h7,h8⟩:=h
  have:=hk rfl
  refine ⟨k,o,c,e,us,h1,h2,h3,?_,by rw [List.length_map]; exact h5,by rw [List.length_map]; exact h6,by rw [List.length_map]; exact h7,Aa.calmN (q:=fun n=>[n]) hi hs h8⟩
  exact N5 h4 (by unfold Nca; rw [if_neg (by omega)])
theorem Jn.calmN {P:Program} {S:Sit} {N n0:Nat} {rs:List (RK×Ty)} (hN:rs.length≤N) (hk:Lk rs=true→N<501) {ls:List (List Lf)} {v:Value} (hs:∀ l∈ls,∀ y∈l,Jf y=true) (h:Jn P S n0 rs ls v):Jn P { S with O:=atO S.O (Nca N) } n0 rs (ls.map fun l=>l.map Mp) v:=by
 have all:∀ (rs:List (RK×Ty)) (i:Nat) (ls:List (List Lf)) (us:List Value),1≤i→i+rs.length≤N+1→(Lk rs=true→N<501)→(∀ l∈ls,∀ y∈l,Jf y=true)→Le P S n0 i rs ls us→Le P { S with O:=atO S.O (Nca N) } n0 i rs (ls.map fun l=>l.map Mp) us:=by
  intro rs
  induction rs with
  |nil=>intro i ls us _ _ _ _ h; exact h
  |cons r rs ih=>
   intro i ls us h1 h2 h3 h4 h
   simp only [List.length_cons] at h2
   cases ls with
   |nil=>exact h.elim
   |cons l ls=>
    cases us with
    |nil=>exact h.elim
    |cons u us=>
     refine ⟨Pc.calmN (by omega) (fun hp=>?_) (h4 l (by simp)) h.1,ih (i+1) ls us (by omega) (by omega) (fun hp=>h3 ?_) (fun l hl=>h4 l (List.mem_cons_of_mem _ hl)) h.2⟩
     ·have:=h3 (by obtain ⟨k,t⟩:=r; have:k = .ptr:=hp; subst this; rfl)
      omega
     ·obtain ⟨k,t⟩:=r
      cases k<;>first|exact hp|rfl
 unfold Jn at h ⊢
 split at h
 ·rename_i r
  obtain ⟨l,ls',e,h⟩:=h
  subst e
  refine ⟨l.map Mp,_,rfl,Pc.calmN (by simpa using hN) (fun hp=>?_) (hs l (by simp)) h⟩
  have:=hk (by obtain ⟨k,t⟩:=r; have:k = .ptr:=hp; subst this; rfl)
  omega
 ·obtain ⟨us,e,h⟩:=h
  exact ⟨us,e,all _ 1 _ _ (Nat.le_refl _) (by omega) hk hs h⟩
theorem Iga {E:En} (K:Aw X S a) {A1:Ab} (hg:S.g=get A1) {rs:List (RK×Ty)} {ls:List (List Lf)} {d:Option Nat} {us:List Up} {v:Value} {n0:Nat} (hN:Lk rs=true→rs.length≤400) (hd:∀ d',d=some d'→d'<X.nt) (hn0:X.w0.heap.size≤n0) (hls:∀ l∈ls,∀ y∈l,Jf y=true) (hnp:∀ d',d=some d'→Lk rs=true→X.np≤d')
  (hr:Jn X.P S n0 rs ls v) (h:Qt A1 rs (shL E d ls) d=some us):∃ S',Aw X S' (a.put d v)∧S'.w=S.w∧S'.g=get (ups A1 us):=by
 cases d with
 |none=>exact G0a K hg hd hn0 hls hnp hr h
 |some d=>
  unfold shL at h
  simp only at h
  cases hsh:E.sh d with
  |false=>rw [hsh] at h; exact G0a K hg hd hn0 hls hnp hr h
  |true=>
   rw [hsh,cond_true] at h
   have go:∀ N,rs.length≤N→(Lk rs=true→N<501)→∃ S',Aw X S' (a.put (some d) v)∧S'.w=S.w∧S'.g=get (ups A1 us):=by
    intro N h1 h2
    obtain ⟨K1,_⟩:=K.names (Nca N) (by intro n q; unfold Nca; split<;>simp)
    refine G0a (S := { S with O:=atO S.O (Nca N) }) K1 hg hd hn0 (fun l hl y hy=>?_) hnp (hr.calmN h1 h2 hls) h
    obtain ⟨l0,h3,rfl⟩:=List.mem_map.1 hl
    obtain ⟨y0,h4,rfl⟩:=List.mem_map.1 hy
    have:=hls l0 h3 y0 h4
    cases y0<;>first|rfl|simp [Jf] at this
   cases hp:Lk rs with
   |true=>exact go 400 (hN hp) (fun _=>by omega)
   |false=>exact go rs.length (Nat.le_refl _) (fun h=>by rw [hp] at h; cases h)
end
end Go.Proofs.YtflokceoeiplcaaGreat.Vf
end

section
set_option linter.unusedVariables false
set_option linter.unusedSimpArgs false
namespace Go.Proofs.YtflokceoeiplcaaGreat.Vf
open Go
attribute [local irreducible] C H
def Mk:List Ty→List (List Lf)→List (List Lf)→Prop
 |[],[],[]=>True
 |t::ts,l::ls,l'::ls'=>(∃ y,mkW t l=some y∧l'=A7 t y)∧Mk ts ls ls'
 |_,_,_=>False
theorem U7:∀ (ts:List Ty) (ls:List (List Lf)) (x:Den ts),Sj ts ls=some x→Mk ts ls (Ed ts x)
 |[],[],_,_=>trivial
 |[],_::_,_,h=>by simp [Sj] at h
 |[t],[],_,h=>by simp [Sj] at h
 |[t],[l],x,h=>⟨⟨x,h,rfl⟩,trivial⟩
 |[t],_::_::_,_,h=>by simp [Sj] at h
 |_::_::_,[],_,h=>by simp [Sj] at h
 |t::u::ts,l::ls,x,h=>by
  simp only [Sj] at h
  split at h
  ·rename_i y hy
   split at h
   ·rename_i z hz
    cases h
    exact ⟨⟨y,hy,rfl⟩,U7 (u::ts) ls z hz⟩
   ·cases h
  ·cases h
theorem Ks:∀ (ts:List Ty) (x:Den ts),∀ l∈Ed ts x,∀ y∈l,Jf y=true
 |[],_=>by simp [Ed]
 |[t],x=>by
  intro l hl
  simp [Ed] at hl
  subst hl
  exact Lh t x
 |t::u::ts,x=>by
  intro l hl
  rcases List.mem_cons.1 (show l∈A7 t x.1::Ed (u::ts) x.2 from hl) with rfl|h
  ·exact Lh t x.1
  ·exact Ks (u::ts) x.2 l h
theorem V5 (t:Ty) (x:t.den) (h:Jy t=true):A7 t x=lvs t x:=U5 t x h
section
variable {X:Cx} {S S':Sit} {a:Act} {E:En} {A:Ab} {o:Oper} {R:Type} {Kc:List Up→Option R} {r:R}
theorem Rsa (hE:L9 X E) (K:Aw X S a) (hg:S.g=get A) {T:TypeId} {x:Operand} {s:Sv} {ag:Bool} (hx:opT E T A x=some s) (hf:Kd ag s=true):
  ∃ us,∃ f:Nat→Lab,(if ag then a.eval x = .agg us.toArray else us=[a.eval x])∧Aa X.P S f 0 (parts s) us∧∀ n,f n ≠ .no:=by
 rcases Nm hE K hg hx with ⟨t,rfl,ht,hst,het,hok⟩|⟨hnt,y,rfl,hy⟩
 ·cases s with
  |tup vs=>simp [Kd,M3a] at hf
  |one y=>
   have:ag=false:=by cases ag<;>simp [Kd,M3a] at hf ⊢
   subst this
   exact ⟨[a.eval (.tmp t)],fun _ => .pl t [],rfl,⟨hok,trivial⟩,by simp⟩
  |agg l=>
   have:ag=true:=by cases ag<;>simp [Kd,M3a] at hf ⊢
   subst this
   obtain ⟨us,e1,hl⟩:=hok
   exact ⟨us,fun n => .pl t [n],e1,hl,by simp⟩
 ·have:ag=false:=by cases ag<;>simp [Kd,M3a] at hf ⊢
  subst this
  exact ⟨[a.eval x],fun _ => .fz,rfl,⟨hy _,trivial⟩,by simp⟩
theorem Nda {ag:Bool} {s:Sv} (hf:Kd ag s=true):∀ vs,s ≠ .tup vs:=by
 intro vs e
 subst e
 simp [Kd,M3a] at hf
theorem A2a {ag:Bool} {s:Sv} {u:Value} {us:List Value} (hf:Kd ag s=true) (h:Tu s u us):if ag then u = .agg us.toArray else us=[u]:=by
 cases s with
 |tup vs=>simp [Kd,M3a] at hf
 |one y=>
  have:ag=false:=by cases ag<;>simp [Kd,M3a] at hf ⊢
  subst this
  exact h
 |agg l=>
  have:ag=true:=by cases ag<;>simp [Kd,M3a] at hf ⊢
  subst this
  exact h
theorem A3a {P:Program} {S:Sit} {G:Nat→Prop} {t:Ty} {l:List Lf} {y:t.den} {us:List Value} (hG:∀ k,G k→S.O k = .fz) (hm:mkW t l=some y) (hn:Jy t=true) (h:M4 (L5 P G S.w) l us) (f:Nat→Lab) (j:Nat):Aa P S f j (A7 t y) us:=by
 have h1:=Ut hm h
 have h2:=O6 (P:=P) (G:=fun k=>S.O k = .fz) (w:=S.w) t y us (Ty.rep_mono hG (fun _ _=>rfl) t y us h1)
 rw [V5 t y hn]
 exact Aa.ofRep h2 f j
def Sy (S:Sit):Nat→Lab:=fun k=>if S.O k = .no then .no else .fz
theorem Rta {y:Lf} {u:Value} {lab:Lab} (K:Aw X S a) (hg:S.g=get A) (h:B7 X.P S lab y u):∃ lab',(lab'=lab∨∃ p,lab' = .pl p [])∧B7 X.P S lab' (Lc A y) u:=by
 unfold Lc
 split
 ·rename_i p v
  split
  ·rename_i n e r xs hp
   cases hb:Nat.beq n v with
   |false=>exact ⟨lab,.inl rfl,trivial⟩
   |true=>
    have hnv:n=v:=by simpa using hb
    subst hnv
    have e1:u=S.ph p:=h.2 (by rw [hg,hp])
    refine ⟨.pl p [],.inr ⟨p,rfl⟩,?_⟩
    have:=K.at_ p
    rw [hg,hp] at this
    rw [e1]
    exact this
  ·rename_i n e r xs hp
   cases hb:Nat.beq n v with
   |false=>exact ⟨lab,.inl rfl,trivial⟩
   |true=>
    have hnv:n=v:=by simpa using hb
    subst hnv
    have e1:u=S.ph p:=h.2 (by rw [hg,hp])
    refine ⟨.pl p [],.inr ⟨p,rfl⟩,?_⟩
    have:=K.at_ p
    rw [hg,hp] at this
    rw [e1]
    exact this
  ·exact ⟨lab,.inl rfl,trivial⟩
 ·exact ⟨lab,.inl rfl,h⟩
theorem Iha (K:Aw X S a) (hg:S.g=get A) {f:Nat→Lab} (hf:∀ n,f n ≠ .no):∀ {l:List Lf} {j:Nat} {us:List Value},Aa X.P S f j l us→A5 (l.map fun y=>Mp (Z2 A y))=true→
  M4 (L5 X.P (fun k=>Sy S k = .fz) S.w) (l.map fun y=>Mp (Z2 A y)) us
 |[],_,[],_,_ => .nil
 |[],_,_::_,h,_=>h.elim
 |_::_,_,[],h,_=>h.elim
 |y::l,j,u::us,h,hst=>by
  have hfz:∀ k,S.O k = .fz→Sy S k = .fz:=fun k hk=>by simp [Sy,hk]
  rw [List.map_cons] at hst ⊢
  have hrest:A5 (l.map fun y=>Mp (Z2 A y))=true:=by
   generalize Mp (Z2 A y)=z at hst
   cases z<;>first|(simp [A5] at hst; done)|simpa [A5] using hst
  refine .cons ?_ (Iha K hg hf h.2 hrest)
  have hv:(∃ lab',lab' ≠ .no∧B7 X.P S lab' (Z2 A y) u)∨∃ p e r,∃ xs:List (Ty.den r),Z2 A y = .fz e r xs∧Fpa X.P S p e r xs u:=by
   unfold Z2
   split
   ·rename_i p v pi e r xs
    cases hq:Nat.beq (get A p).1 v with
    |false=>exact .inl ⟨f j,hf j,trivial⟩
    |true=>
     obtain ⟨_,_,h2⟩:=h.1
     exact .inr ⟨p,e,r,xs,rfl,(h2 (by rw [hg]; exact Nat.eq_of_beq_eq_true hq)).2.1⟩
   ·obtain ⟨lab',hlab,h1⟩:=Rta K hg h.1
    refine .inl ⟨lab',?_,h1⟩
    rcases hlab with rfl|⟨p,rfl⟩
    ·exact hf j
    ·simp
  rcases hv with ⟨lab',hno,h1⟩|⟨p,e,r,xs,e1,h1⟩
  rotate_left 1
  ·rw [e1]
   exact h1.reads (fun k hk=>by
    rcases hk with hk|hk<;>simp [Sy,hk])
  generalize Z2 A y=z at h1 hst
  cases z with
  |sc v=>exact h1
  |fz e r xs=>exact Ty.rep_mono (t := .sl e r) hfz (fun _ _=>rfl) _ _ h1
  |own e r xs=>
   have h2:H2 X.P S.O S.w lab' e r xs u:=h1
   exact h2.reads (O':=Sy S) hfz (fun k hk=>by simp [Sy,hk,hno])
  |_=>simp [Mp,A5] at hst
theorem Dca (hE:L9 X E) (K:Aw X S a) (hg:S.g=get A) (rg:Nat→Nat×Nat) (nv:Nat) (hs:List Value):∀ (ps:List Par) {xs:List Operand} {ss:List Sv} {ls ls':List (List Lf)} {i:Nat},M4 (fun s x=>∃ T,opT E T A x=some s) ss xs→P4 A ps ss=some ls→Mk (ps.map Par.ty) ls ls'→
  P3 ps=true→Nu X.P (bare (Sy S) S.w) rg nv hs i ps ls' (xs.map a.eval)∧xs.length=ps.length
 |[],_,_,ls,ls',i,.nil,h,hm,_=>by
  simp only [P4,Option.some.injEq] at h
  subst h
  cases ls' with
  |nil=>exact ⟨trivial,rfl⟩
  |cons=>exact hm.elim
 |[],_,_,ls,ls',i,.cons _ _,h,hm,_=>by simp [P4] at h
 |.ptr _ _::_,_,_,_,_,_,_,_,_,hl=>by simp [P3] at hl
 |.hid _ _::_,_,_,_,_,_,_,_,_,hl=>by simp [P3] at hl
 |.rd _::_,_,_,_,_,_,_,_,_,hl=>by simp [P3] at hl
 |.fn _ _::_,_,_,_,_,_,_,_,_,hl=>by simp [P3] at hl
 |.val ag t::ps,_,_,ls,ls',i,.nil,h,_,_=>by simp [P4] at h
 |.val ag t::ps,_,_,ls,ls',i,.cons (x:=s) (y:=x) (xs:=ss) (ys:=xs) hs1 hss,h,hm,hl=>by
  simp only [P3,Bool.and_eq_true] at hl
  simp only [P4] at h
  cases hq:(Kd ag s&&A5 ((parts s).map (fun y=>Mp (Z2 A y)))) with
  |false=>rw [hq] at h; simp at h
  |true=>
   rw [hq,cond_true] at h
   simp only [Bool.and_eq_true] at hq
   split at h
   ·rename_i ls1 hls1
    cases h
    cases ls' with
    |nil=>exact hm.elim
    |cons l' ls'=>
     obtain ⟨⟨y,hy,rfl⟩,hm2⟩:=hm
     obtain ⟨T,hx⟩:=hs1
     obtain ⟨us,f,hsh,hlf,hf⟩:=Rsa hE K hg hx hq.1
     obtain ⟨r1,r2⟩:=Dca hE K hg rg nv hs (i:=i+1) ps hss hls1 hm2 hl.2
     exact ⟨⟨⟨us,hsh,A3a (S:=bare (Sy S) S.w) (fun k hk=>hk) hy hl.1 (Iha K hg hf hlf hq.2) _ _⟩,r1⟩,by simp [r2]⟩
   ·cases h
def Oc:Lf→Bool
 |.sc _=>true
 |.own _ r _=>Gr r
 |_=>false
theorem N7:∀ (t:Ty) (x:t.den),Gr t=true→∀ y∈A7 t x,Oc y=true
 |.i _,_,_=>by simp [A7,Oc]
 |.b,_,_=>by simp [A7,Oc]
 |.s,_,_=>by simp [A7,Oc]
 |.sl _ _,_,h=>by simp [Gr] at h
 |.ow _ r,_,h=>by simpa [A7,Oc,Gr] using h
 |.pr x y,p,h=>by
  simp only [Gr,Bool.and_eq_true] at h
  intro z hz
  rcases List.mem_append.1 (show z∈A7 x p.1++A7 y p.2 from hz) with h'|h'
  ·exact N7 x p.1 h.1 z h'
  ·exact N7 y p.2 h.2 z h'
theorem Ypa {P:Program} {S1 S2:Sit} {lab lab':Lab} {y:Lf} {u:Value} (hy:Oc y=true) (hw:S2.w=S1.w) (hl:∀ k,S1.O k=lab→S2.O k=lab') (h:B7 P S1 lab y u):B7 P S2 lab' y u:=by
 cases y with
 |sc v=>exact h
 |own e r xs=>
  obtain ⟨bs,h1,h2,h3⟩:=h
  exact ⟨bs,Ty.dep_all (.ow e r) xs [u] bs hy (fun k _=>by rw [hw]) h1,h2,fun k hk=>hl k (h3 k hk)⟩
 |_=>simp [Oc] at hy
theorem V6:∀ (rs:List (RK×Ty)) (x:Den (rs.map Prod.snd)),Xv rs=true→∀ l∈Ed (rs.map Prod.snd) x,∀ y∈l,Oc y=true
 |[],_,_=>fun l hl=>by cases (show l∈([]:List (List Lf)) from hl)
 |[(k,t)],x,h=>by
  intro l hl
  have hl':l∈[A7 t x]:=hl
  simp at hl'
  subst hl'
  have:Gr t=true:=by cases k<;>simp [Xv] at h<;>exact h
  exact N7 t x this
 |(k,t)::r2::rs,x,h=>by
  intro l hl
  have h2:Gr t=true∧Xv (r2::rs)=true:=by
   cases k<;>simp only [Xv,Bool.and_eq_true] at h<;>first|exact h|cases h
  rcases List.mem_cons.1 (show l∈A7 t x.1::Ed ((r2::rs).map Prod.snd) x.2 from hl) with rfl|h'
  ·exact N7 t x.1 h2.1
  ·exact V6 (r2::rs) x.2 h2.2 l h'
end
end Go.Proofs.YtflokceoeiplcaaGreat.Vf
end

section
set_option linter.unusedVariables false
set_option linter.unusedSimpArgs false
namespace Go.Proofs.YtflokceoeiplcaaGreat.Vf
open Go
attribute [local irreducible] C H
section
variable {X:Cx} {S S':Sit} {a:Act} {E:En} {A:Ab} {o:Oper} {R:Type} {Kc:List Up→Option R} {r:R}
theorem Nea {P:Program} {w:World} {c:Call} {f:FuncId} {en:Ent} (ho:o.op = .call c) (hc:c.callee = .value (.func f)) (hf:A4 P f en):(execOp a.eval o).run P w = .ok (.enter f (c.args.toList.map a.eval).toArray) w:=by
 obtain ⟨fn,h1,h2,h3⟩:=hf.fn
 have e1:c.args.map a.eval=(c.args.toList.map a.eval).toArray:=by
  apply Array.ext'
  simp
 unfold execOp
 simp only [ho,resolve,hc,Act.eval,Deferred.ofValue,Sem.run_bind,Sem.run_pure,Result.andThen_ok,invoke,callFunc,run_program,h1]
 rw [if_neg (by rw [h2]; simp),if_neg (by rw [h3]; simp)]
 simp only [Sem.run_pure,Array.append_empty,Array.empty_append]
 rw [e1]
theorem Kna {P:Program} {w:World} {c:Call} {f:FuncId} {en:Ent} {t:Nat} {us:List Value} (ho:o.op = .call c) (hc:c.callee = .value (.tmp t)) (hv:a.eval (.tmp t) = .func (.func f) #[] us.toArray) (hf:A4 P f en):
  (execOp a.eval o).run P w = .ok (.enter f (c.args.toList.map a.eval++us).toArray) w:=by
 obtain ⟨fn,h1,h2,h3⟩:=hf.fn
 have e1 : #[]++(c.args.map a.eval++us.toArray)=(c.args.toList.map a.eval++us).toArray:=by
  apply Array.ext'
  simp
 have e2 : #[]++c.args.map a.eval++us.toArray=(c.args.toList.map a.eval++us).toArray:=by
  apply Array.ext'
  simp
 unfold execOp
 simp only [ho,resolve,hc,hv,Deferred.ofValue,Sem.run_bind,Sem.run_pure,Result.andThen_ok,invoke,callFunc,run_program,h1]
 rw [if_neg (by rw [h2]; simp),if_neg (by rw [h3]; simp)]
 simp only [Sem.run_pure]
 first|rw [e1]|rw [e2]
theorem A4a {f:FuncId} {args:Array Value} {w:World} {A':Ab} (hr:(execOp a.eval o).run X.P w = .ok (.enter f args) w)
  (h:Calls X.P f args w (fun e w'=>∃ v,e = .returned v∧∃ S',S'.w=w'∧Aw X S' (a.put o.dst v)∧S'.g=get A')):Rba X o a w A':=by
 intro next Q hn
 unfold Oper.wp
 rw [hr,Oper.upon_enter]
 intro cs
 obtain ⟨e,w',fr,⟨v,rfl,S',hw,K',hg'⟩,rest⟩:=h cs
 refine ⟨_,w',fr,?_,rest⟩
 rw [← hw]
 exact hn S' _ K' hg'
theorem Sz {P:Program} {f:FuncId} {args:Array Value} {w:World} {R1 R2:Ending→World→Prop} (h:Calls P f args w R1) (hi:∀ e w',R1 e w'→R2 e w'):Calls P f args w R2:=by
 intro cs
 obtain ⟨e,w',fr,hr,rest⟩:=h cs
 exact ⟨e,w',fr,hi _ _ hr,rest⟩
theorem A5a:∀ ps:List Par,P3 ps=true→Lj ps=[]
 |[],_=>rfl
 |.val _ _::ps,h=>by
  simp only [P3,Bool.and_eq_true] at h
  exact A5a ps h.2
 |.ptr _ _::_,h=>by simp [P3] at h
 |.hid _ _::_,h=>by simp [P3] at h
 |.rd _::_,h=>by simp [P3] at h
 |.fn _ _::_,h=>by simp [P3] at h
theorem Rua {ts:List Ty} {rs:List (RK×Ty)} (he:ts=rs.map Prod.snd) (x:Den ts) (h:Xv rs=true):∀ l∈Ed ts x,∀ y∈l,Oc y=true:=by
 subst he
 exact V6 rs x h
theorem Q6:∀ rs:List (RK×Ty),Xv rs=true→Lk rs=false
 |[],_=>rfl
 |(k,t)::rs,h=>by
  cases k with
  |ptr=>simp [Xv] at h
  |one=>simp only [Xv,Bool.and_eq_true] at h; exact Q6 rs h.2
  |agg=>simp only [Xv,Bool.and_eq_true] at h; exact Q6 rs h.2
theorem W3a (hE:L9 X E) (K:Aw X S a) (hg:S.g=get A) {xs:List Operand} {f:FuncId} {en:Ent} {ss:List Sv} (hrun:(execOp a.eval o).run X.P S.w = .ok (.enter f (xs.map a.eval).toArray) S.w) (hd:∀ d,o.dst=some d→d<X.nt)
  (hco:A4 X.P f en) (hnv:en.nv=xs.length) (hss:M4 (fun s x=>∃ T,opT E T A x=some s) ss xs) (hl:P3 en.ps=true) (hn:Xv en.rs=true)
  (h:(match P4 A en.ps ss with
  |none=>none
  |some ls=>match Sj _ ls with
   |none=>none
   |some x=>(en.run x).bind fun r=>
    match Qt A en.rs (shL E o.dst (Ed _ r)) o.dst with
    |none=>none
    |some rs=>Kc rs)=some r):Jk X o a S.w A Kc r:=by
 split at h
 ·cases h
 ·rename_i ls hls
  split at h
  ·cases h
  ·rename_i x hx
   cases hrun':en.run x with
   |none=>rw [hrun'] at h; simp at h
   |some y=>
    rw [hrun'] at h
    simp only [Option.bind_some] at h
    split at h
    ·cases h
    ·rename_i us hus
     obtain ⟨hargs,hlen⟩:=Dca (i:=0) hE K hg (fun _=>(0,0)) en.nv ((xs.map a.eval).drop en.nv) en.ps hss hls (U7 _ _ _ hx) hl
     have hs:=hco.sound x y hrun' S.w (Sy S) (fun _=>(0,0)) _ (fun k hk=>K.lt k (fun e=>hk (by simp [Sy,e]))) (fun k b hk=>by unfold Sy at hk; split at hk<;>cases hk) hargs
     rw [List.take_of_length_le (by rw [List.length_map,hnv]; exact Nat.le_refl _)] at hs
     refine ⟨us,h,A4a hrun (Sz hs ?_)⟩
     rintro e w' ⟨v,O',rfl,hF,hlt,hres,_⟩
     refine ⟨v,rfl,?_⟩
     have hsame:∀ k,k<S.w.heap.size→w'.heap[k]? = S.w.heap[k]? ∧ (O' k = .no∨O' k = .fz):=fun k hk=>by
      by_cases h0:S.O k = .no
      ·have:=hF.no k hk (by simp [Sy,h0])
       exact ⟨this.2,.inl this.1⟩
      ·have:=hF.fz k hk (by simp [Sy,h0])
       exact ⟨this.2,.inr this.1⟩
     let O2:Nat→Lab:=fun k=>if k<S.w.heap.size then S.O k else O' k
     obtain ⟨K1,L1⟩:=K.world (w':=w') (O':=O2) (fun k hk _=>⟨if_pos hk,(hsame k hk).1⟩) hF.os hF.tape hF.out hF.size (fun k hk=>by
      by_cases hkl:k<S.w.heap.size
      ·exact Nat.lt_of_lt_of_le hkl hF.size
      ·exact hlt k (by simpa [O2,hkl] using hk))
     have htm:∀ k i q,O' k = .tm i q→O2 k = .tm i q:=fun k i q hk=>by
      have:¬ k<S.w.heap.size:=fun hkl=>by
       rcases (hsame k hkl).2 with h|h<;>rw [h] at hk<;>cases hk
      simp [O2,this,hk]
     have hnews:=Rua (by rw [A5a en.ps hl,List.append_nil]) y hn
     have hres1:Jn X.P (Y4 S w' O2) S.w.heap.size en.rs (Ed _ y) v:=Jn.imp (S1:=bare O' w') (S2:=Y4 S w' O2) rfl (fun k i hk=>htm k i [] hk) (fun l hl' z hz i q u hu=>Ypa (S1:=bare O' w') (S2:=Y4 S w' O2) (hnews l hl' z hz) rfl (fun k hk=>htm k i q hk) hu) hres
     obtain ⟨S2,K2,w2,g2⟩:=Iga (E:=E) K1 (A1:=A) hg (fun h=>by rw [Q6 _ hn] at h; cases h) hd K.fr.size (Ks _ y) (fun d' _ h=>by rw [Q6 _ hn] at h; cases h) hres1 hus
     exact ⟨S2,w2,K2,g2⟩
end
end Go.Proofs.YtflokceoeiplcaaGreat.Vf
end

section
set_option linter.unusedVariables false
set_option linter.unusedSimpArgs false
namespace Go.Proofs.YtflokceoeiplcaaGreat.Vf
open Go
attribute [local irreducible] C H
def Xy:List Ty→List Lf→Prop
 |.ow _ _::ts,_::l=>Xy ts l
 |_::ts,x::l=>x.isOwn=false∧Xy ts l
 |[],[]=>True
 |_,_=>False
theorem Koa (z:Lf):(Mp z).isOwn=false:=by cases z<;>rfl
theorem Od:∀ (ts:List Ty) (l:List Lf) {A:Ab} {m:List Lf} {us:List Up},Hq A ts l=some (m,us)→Xy ts m
 |[],[],A,m,us,h=>by
  simp only [Hq,Option.some.injEq,Prod.mk.injEq] at h
  obtain ⟨rfl,_⟩:=h
  trivial
 |[],_::_,A,m,us,h=>by simp [Hq] at h
 |t::ts,[],A,m,us,h=>by cases t<;>simp [Hq] at h
 |t::ts,x::l,A,m,us,h=>by
  cases t with
  |ow e r=>
   simp only [Hq] at h
   split at h
   ·split at h
    ·rename_i hr
     simp only [Option.some.injEq,Prod.mk.injEq] at h
     obtain ⟨rfl,_⟩:=h
     exact Od ts l hr
    ·cases h
   ·cases h
  |_=>
   simp only [Hq] at h
   split at h
   ·rename_i hr
    simp only [Option.some.injEq,Prod.mk.injEq] at h
    obtain ⟨rfl,_⟩:=h
    exact ⟨Koa _,Od ts l hr⟩
   ·cases h
theorem A6a {A:Ab} {x:Operand} {s:Sv} {t:Ty} {m:List Lf} {us:List Up} (h:Sm A x s t=some (m,us)):Xy (Jq t) m:=by
 unfold Sm Sk at h
 split at h
 ·rename_i m0 vs0 ht
  cases hst:A5 m0 with
  |false=>rw [hst] at h; simp at h
  |true=>
   rw [hst] at h
   simp only [cond_true,Option.some.injEq,Prod.mk.injEq] at h
   obtain ⟨rfl,rfl⟩:=h
   exact Od _ _ ht
 ·cases h
theorem T0 {A:Ab} {b v:Nat} {t t':Ty} {m:List Lf} {us:List Up} (h:Qs A b v t t'=some (m,us)):Xy (Jq t) m:=by
 unfold Qs at h
 split at h
 ·rename_i n hd hp
  cases hq:(Nat.beq n v&&Nat.beq hd t.sz&&Nat.beq hd t'.sz) with
  |false=>rw [hq] at h; simp at h
  |true=>
   rw [hq,cond_true] at h
   split at h
   ·rename_i l us0 hx
    cases hst:A5 l with
    |false=>rw [hst] at h; simp at h
    |true=>
     rw [hst] at h
     simp only [cond_true,Option.some.injEq,Prod.mk.injEq] at h
     obtain ⟨rfl,rfl⟩:=h
     exact Od _ _ hx
   ·cases h
 ·cases h
theorem Rva {P:Program} {S:Sit} {f:Nat→Lab}:∀ (t:Ty) (ts:List Ty) (l l':List Lf) (x:t.den) (j:Nat) (us:List Value),Xy (Jq t++ts) l→mkT t l=some (x,l')→Aa P S f j l us→Aa P S f j (A7 t x++l') us∧Xy ts l':=by
 intro t
 induction t with
 |pr p q ihp ihq=>
  intro ts l l' x j us h hm hl
  simp only [Jq,List.append_assoc] at h
  simp only [mkT] at hm
  split at hm
  ·rename_i y l1 h1
   split at hm
   ·rename_i z l2 h2
    simp only [Option.some.injEq,Prod.mk.injEq] at hm
    obtain ⟨rfl,rfl⟩:=hm
    obtain ⟨h3,h4⟩:=ihp _ _ _ _ j us h h1 hl
    have key:∀ (a:List Lf) (j:Nat) (us:List Value),Aa P S f j (a++l1) us→Aa P S f j (a++(A7 q z++l2)) us∧Xy ts l2:=by
     intro a
     induction a with
     |nil=>intro j us h5; exact ihq _ _ _ _ j us h4 h2 h5
     |cons b a ih=>
      intro j us h5
      cases us with
      |nil=>exact h5.elim
      |cons u us=>exact ⟨⟨h5.1,(ih (j+1) us h5.2).1⟩,(ih (j+1) us h5.2).2⟩
    have h5:=key _ j us h3
    rw [← List.append_assoc] at h5
    exact h5
   ·cases hm
  ·cases hm
 |ow e r _=>
  intro ts l l' x j us hf hm hl
  cases l with
  |nil=>simp [mkT] at hm
  |cons z l=>
   cases us with
   |nil=>exact hl.elim
   |cons u us=>
    cases z<;>first|(simp [mkT] at hm; done)|skip
    rename_i e' r' xs
    simp only [mkT] at hm
    cases hb:Nat.beq e e' with
    |false=>rw [hb] at hm; simp at hm
    |true=>
     rw [hb,cond_true] at hm
     have he:e=e':=Nat.eq_of_beq_eq_true hb
     subst he
     split at hm
     ·rename_i ys hys
      simp only [Option.some.injEq,Prod.mk.injEq] at hm
      obtain ⟨rfl,rfl⟩:=hm
      exact ⟨⟨H2.cast hys hl.1,hl.2⟩,hf⟩
     ·cases hm
 |sl e r _=>
  intro ts l l' x j us hf hm hl
  cases l with
  |nil=>simp [mkT] at hm
  |cons z l=>
   cases us with
   |nil=>exact hl.elim
   |cons u us=>
    obtain ⟨hz,hf⟩:z.isOwn=false∧Xy ts l:=hf
    cases z<;>first|(simp [mkT] at hm; done)|(simp [Lf.isOwn] at hz; done)|skip
    rename_i e' r' xs
    simp only [mkT] at hm
    cases hb:Nat.beq e e' with
    |false=>rw [hb] at hm; simp at hm
    |true=>
     rw [hb,cond_true] at hm
     have he:e=e':=Nat.eq_of_beq_eq_true hb
     subst he
     split at hm
     ·rename_i ys hys
      simp only [Option.some.injEq,Prod.mk.injEq] at hm
      obtain ⟨rfl,rfl⟩:=hm
      exact ⟨⟨Rl hys hl.1,hl.2⟩,hf⟩
     ·cases hm
 |i k=>
  intro ts l l' x j us hf hm hl
  cases l with
  |nil=>simp [mkT] at hm
  |cons z l=>
   cases z<;>first|(simp [mkT] at hm; done)|skip
   rename_i v
   cases v<;>first|(simp [mkT] at hm; done)|skip
   rename_i k' n
   simp only [mkT] at hm
   by_cases hk:k=k'
   ·subst hk
    simp at hm
    obtain ⟨rfl,rfl⟩:=hm
    exact ⟨hl,hf.2⟩
   ·simp [hk] at hm
 |b=>
  intro ts l l' x j us hf hm hl
  cases l with
  |nil=>simp [mkT] at hm
  |cons z l=>
   cases z<;>first|(simp [mkT] at hm; done)|skip
   rename_i v
   cases v<;>first|(simp [mkT] at hm; done)|skip
   simp [mkT] at hm
   obtain ⟨rfl,rfl⟩:=hm
   exact ⟨hl,hf.2⟩
 |s=>
  intro ts l l' x j us hf hm hl
  cases l with
  |nil=>simp [mkT] at hm
  |cons z l=>
   cases z<;>first|(simp [mkT] at hm; done)|skip
   rename_i v
   cases v<;>first|(simp [mkT] at hm; done)|skip
   simp [mkT] at hm
   obtain ⟨rfl,rfl⟩:=hm
   exact ⟨hl,hf.2⟩
theorem Q7 {P:Program} {S:Sit} {f:Nat→Lab} {t:Ty} {l:List Lf} {x:t.den} {j:Nat} {us:List Value} (hf:Xy (Jq t) l) (h:mkW t l=some x) (hl:Aa P S f j l us):Aa P S f j (A7 t x) us:=by
 unfold mkW at h
 split at h
 ·rename_i y hy
  cases h
  have:=(Rva t [] l [] _ j us (by rw [List.append_nil]; exact hf) hy hl).1
  rwa [List.append_nil] at this
 ·cases h
theorem Yqa {Q:Nat→Lf→Value→Prop} (hqo:∀ j e r r' (xs:List (Ty.den r')) (ys:List (Ty.den r)) u,Tq r r' xs=some ys→Q j (.own e r' xs) u→Q j (.own e r ys) u) (hqf:∀ j e r r' (xs:List (Ty.den r')) (ys:List (Ty.den r)) u,Qr r r' xs=some ys→Q j (.fz e r' xs) u→Q j (.fz e r ys) u):∀ (t:Ty) (ts:List Ty) (l l':List Lf) (x:t.den) (j:Nat) (us:List Value),Xy (Jq t++ts) l→mkT t l=some (x,l')→Bda Q j l us→Bda Q j (A7 t x++l') us∧Xy ts l':=by
 intro t
 induction t with
 |pr p q ihp ihq=>
  intro ts l l' x j us h hm hl
  simp only [Jq,List.append_assoc] at h
  simp only [mkT] at hm
  split at hm
  ·rename_i y l1 h1
   split at hm
   ·rename_i z l2 h2
    simp only [Option.some.injEq,Prod.mk.injEq] at hm
    obtain ⟨rfl,rfl⟩:=hm
    obtain ⟨h3,h4⟩:=ihp _ _ _ _ j us h h1 hl
    have key:∀ (a:List Lf) (j:Nat) (us:List Value),Bda Q j (a++l1) us→Bda Q j (a++(A7 q z++l2)) us∧Xy ts l2:=by
     intro a
     induction a with
     |nil=>intro j us h5; exact ihq _ _ _ _ j us h4 h2 h5
     |cons b a ih=>
      intro j us h5
      cases us with
      |nil=>exact h5.elim
      |cons u us=>exact ⟨⟨h5.1,(ih (j+1) us h5.2).1⟩,(ih (j+1) us h5.2).2⟩
    have h5:=key _ j us h3
    rw [← List.append_assoc] at h5
    exact h5
   ·cases hm
  ·cases hm
 |ow e r _=>
  intro ts l l' x j us hf hm hl
  cases l with
  |nil=>simp [mkT] at hm
  |cons z l=>
   cases us with
   |nil=>exact hl.elim
   |cons u us=>
    cases z<;>first|(simp [mkT] at hm; done)|skip
    rename_i e' r' xs
    simp only [mkT] at hm
    cases hb:Nat.beq e e' with
    |false=>rw [hb] at hm; simp at hm
    |true=>
     rw [hb,cond_true] at hm
     have he:e=e':=Nat.eq_of_beq_eq_true hb
     subst he
     split at hm
     ·rename_i ys hys
      simp only [Option.some.injEq,Prod.mk.injEq] at hm
      obtain ⟨rfl,rfl⟩:=hm
      exact ⟨⟨hqo _ _ _ _ _ _ _ hys hl.1,hl.2⟩,hf⟩
     ·cases hm
 |sl e r _=>
  intro ts l l' x j us hf hm hl
  cases l with
  |nil=>simp [mkT] at hm
  |cons z l=>
   cases us with
   |nil=>exact hl.elim
   |cons u us=>
    obtain ⟨hz,hf⟩:z.isOwn=false∧Xy ts l:=hf
    cases z<;>first|(simp [mkT] at hm; done)|(simp [Lf.isOwn] at hz; done)|skip
    rename_i e' r' xs
    simp only [mkT] at hm
    cases hb:Nat.beq e e' with
    |false=>rw [hb] at hm; simp at hm
    |true=>
     rw [hb,cond_true] at hm
     have he:e=e':=Nat.eq_of_beq_eq_true hb
     subst he
     split at hm
     ·rename_i ys hys
      simp only [Option.some.injEq,Prod.mk.injEq] at hm
      obtain ⟨rfl,rfl⟩:=hm
      exact ⟨⟨hqf _ _ _ _ _ _ _ hys hl.1,hl.2⟩,hf⟩
     ·cases hm
 |i k=>
  intro ts l l' x j us hf hm hl
  cases l with
  |nil=>simp [mkT] at hm
  |cons z l=>
   cases z<;>first|(simp [mkT] at hm; done)|skip
   rename_i v
   cases v<;>first|(simp [mkT] at hm; done)|skip
   rename_i k' n
   simp only [mkT] at hm
   by_cases hk:k=k'
   ·subst hk
    simp at hm
    obtain ⟨rfl,rfl⟩:=hm
    exact ⟨hl,hf.2⟩
   ·simp [hk] at hm
 |b=>
  intro ts l l' x j us hf hm hl
  cases l with
  |nil=>simp [mkT] at hm
  |cons z l=>
   cases z<;>first|(simp [mkT] at hm; done)|skip
   rename_i v
   cases v<;>first|(simp [mkT] at hm; done)|skip
   simp [mkT] at hm
   obtain ⟨rfl,rfl⟩:=hm
   exact ⟨hl,hf.2⟩
 |s=>
  intro ts l l' x j us hf hm hl
  cases l with
  |nil=>simp [mkT] at hm
  |cons z l=>
   cases z<;>first|(simp [mkT] at hm; done)|skip
   rename_i v
   cases v<;>first|(simp [mkT] at hm; done)|skip
   simp [mkT] at hm
   obtain ⟨rfl,rfl⟩:=hm
   exact ⟨hl,hf.2⟩
theorem Yra {Q:Nat→Lf→Value→Prop} (hqo:∀ j e r r' (xs:List (Ty.den r')) (ys:List (Ty.den r)) u,Tq r r' xs=some ys→Q j (.own e r' xs) u→Q j (.own e r ys) u) (hqf:∀ j e r r' (xs:List (Ty.den r')) (ys:List (Ty.den r)) u,Qr r r' xs=some ys→Q j (.fz e r' xs) u→Q j (.fz e r ys) u) {t:Ty} {l:List Lf} {x:t.den} {j:Nat} {us:List Value} (hf:Xy (Jq t) l) (h:mkW t l=some x) (hl:Bda Q j l us):Bda Q j (A7 t x) us:=by
 unfold mkW at h
 split at h
 ·rename_i y hy
  cases h
  have:=(Yqa hqo hqf t [] l [] _ j us (by rw [List.append_nil]; exact hf) hy hl).1
  rwa [List.append_nil] at this
 ·cases h
theorem Kpa {r:Ty} (xs:List r.den):Qr r r xs=some xs:=by
 unfold Qr
 rw [dif_pos rfl]
 rfl
theorem Kqa {r:Ty} (xs:List r.den):Tq r r xs=some xs:=by
 unfold Tq
 rw [dif_pos rfl]
theorem T1:∀ (t:Ty) (x:t.den) (l:List Lf),mkT t (A7 t x++l)=some (x,l)
 |.i _,_,_=>by simp [A7,mkT]
 |.b,_,_=>by simp [A7,mkT]
 |.s,_,_=>by simp [A7,mkT]
 |.sl _ _,_,_=>by simp [A7,mkT,Kpa]
 |.ow _ _,_,_=>by simp [A7,mkT,Kqa]
 |.pr x y,p,l=>by
  show mkT (.pr x y) ((A7 x p.1++A7 y p.2)++l)=_
  rw [List.append_assoc]
  simp only [mkT]
  rw [T1 x p.1]
  simp only
  rw [T1 y p.2]
theorem Kra (t:Ty) (x:t.den):mkW t (A7 t x)=some x:=by
 unfold mkW
 have:=T1 t x []
 rw [List.append_nil] at this
 rw [this]
def V7 (S:Sit) (b:Nat×Nat):Value := .pointer (some ⟨(S.bb b.1).1,(S.bb b.1).2+0,none⟩)
def nmV (i:Nat):Nat:=10+2 * i
def nmB (B:Nat):Nat:=11+2 * B
def W4a (P:Program) (S:Sit) (B:Nat) (t t':Ty) (l:List Lf) (u:Value) (bs:List (Nat×Nat)):Prop:=
 ∃ b,bs=[(b,B)]∧u = .pointer (some ⟨(S.bb b).1,(S.bb b).2,none⟩)∧(S.g (H b)).2 = .one (.hd t.sz)∧t'.sz=t.sz∧l.length=t.sz∧A5 l=true∧Xy (Jq t) l∧
  Aa P S (fun j => .tm (nmB B) [j]) 0 l ((List.range t.sz).map fun j=>S.ph (C b (0+j)))
def Ysa (P:Program) (S:Sit) (cb hb:List (Nat×Nat)) (nv i:Nat):Par→List Lf→Value→List (Nat×Nat)→Prop
 |.vw t h,l,u,bs=>bs=[]∧nv≤h∧l.length=t.sz∧Xy (Jq t) l∧∃ c vs,nth hb (h - nv)=some c∧(S.g (H c.1)).2 = .one (.hd t.sz)∧u = .agg vs.toArray∧Bda (Kla P S (fun j=>S.ph (C c.1 j))) 0 l vs
 |.val ag t,l,u,bs=>bs=[]∧A5 l=true∧Xy (Jq t) l∧∃ us,(if ag then u = .agg us.toArray else us=[u])∧Aa P S (fun n => .tm (nmV i) (if ag then [n] else [])) 0 l us
 |.ptr t t',l,u,bs=>W4a P S (bid nv i) t t' l u bs
 |.hid t t',l,u,bs=>W4a P S (bid nv i) t t' l u bs
 |.rd t,l,u,bs=>bs=[]∧∃ r x k o cs,l=lvs r x∧shp r=shp t∧Jy t=true∧u = .pointer (some ⟨k,o,none⟩)∧S.O k = .fz∧r.rep P (fun k=>S.O k = .fz) S.w x cs∧Gi S.w k o cs
 |.fn F m,_,u,bs=>bs=[]∧m=cb.length∧u = .func (.func F) #[] (cb.map (V7 S)).toArray
def G1a (P:Program) (S:Sit) (cb hb:List (Nat×Nat)) (nv:Nat):Nat→List Par→List (List Lf)→List Value→List (Nat×Nat)→Prop
 |_,[],[],[],bs=>bs=[]
 |i,p::ps,l::ls,u::us,bs=>∃ b1 b2,bs=b1++b2∧Ysa P S cb hb nv i p l u b1∧G1a P S cb hb nv (i+1) ps ls us b2
 |_,_,_,_,_=>False
theorem Nfa {nv i j:Nat} (hn:nv≤1000) (h:bid nv i=bid nv j):i=j:=by
 unfold bid at h
 cases h1:Nat.blt i nv<;>cases h2:Nat.blt j nv<;>rw [h1,h2] at h<;>simp only [cond_true,cond_false] at h
 ·have h3:¬ i<nv:=fun h'=>by rw [show Nat.blt i nv=true from Nat.ble_eq_true_of_le h'] at h1; cases h1
  have h4:¬ j<nv:=fun h'=>by rw [show Nat.blt j nv=true from Nat.ble_eq_true_of_le h'] at h2; cases h2
  omega
 ·have h4:j<nv:=Nat.le_of_ble_eq_true h2
  omega
 ·have h4:i<nv:=Nat.le_of_ble_eq_true h1
  omega
 ·exact h
section
variable {X:Cx} {S S1 S2:Sit} {a:Act} {E:En} {A:Ab} {o:Oper} {R:Type} {Kc:List Up→Option R} {r:R}
def exA (nv i:Nat):Nat→List Nat→Prop:=fun n _=>∃ j,i≤j∧(n=nmV j∨n=nmB (bid nv j))
theorem Nga {nv i j:Nat} (hn:nv≤1000) (h:j<i) (q:List Nat):¬ exA nv i (nmV j) q∧¬ exA nv i (nmB (bid nv j)) q:=by
 refine ⟨fun ⟨k,h1,h2⟩=>?_,fun ⟨k,h1,h2⟩=>?_⟩
 ·unfold nmV nmB at h2
  omega
 ·unfold nmV nmB at h2
  rcases h2 with h2|h2
  ·omega
  ·have:bid nv j=bid nv k:=by omega
   have:=Nfa hn this
   omega
theorem Bda.imp {Q Q':Nat→Lf→Value→Prop} (h:∀ j x u,Q j x u→Q' j x u):∀ {l:List Lf} {j:Nat} {us:List Value},Bda Q j l us→Bda Q' j l us
 |[],_,[],_=>trivial
 |[],_,_::_,h'=>h'.elim
 |_::_,_,[],h'=>h'.elim
 |_::_,j,_::_,h'=>⟨h _ _ _ h'.1,Bda.imp h h'.2⟩
theorem Kla.later {P:Program} {S S':Sit} {w w':Nat→Value} {j:Nat} {x:Lf} {u:Value} (hw:w'=w) (hl:∀ x u,Mba x=true→B7 P S .fz x u→B7 P S' .fz x u) (h:Kla P S w j x u):Kla P S' w' j x u:=by
 subst hw
 cases x<;>first|exact h|exact ⟨h.1,hl _ _ h.1 h.2⟩
theorem Ysa.stay {cb hb:List (Nat×Nat)} {nv i j:Nat} {p:Par} {l:List Lf} {u:Value} {bs:List (Nat×Nat)} (hn:nv≤1000) (h:Hr X S S1 (exA nv i)) (hj:j<i) (hp:Ysa X.P S cb hb nv j p l u bs):Ysa X.P S1 cb hb nv j p l u bs:=by
 have hfz:∀ k,S.O k = .fz→S1.O k = .fz:=fun k hk=>(h.later.fz k hk).1
 have box:∀ {t t':Ty},W4a X.P S (bid nv j) t t' l u bs→W4a X.P S1 (bid nv j) t t' l u bs:=by
  rintro t t' ⟨b,h1,h2,h3,h4,h5,h6,h7,h8⟩
  refine ⟨b,h1,by rw [h.bb]; exact h2,by rw [h.heads b _ h3]; exact h3,h4,h5,h6,h7,?_⟩
  rw [h.ph]
  exact h8.imp (fun n x u hx=>h.tms _ _ _ _ (Nga hn hj _).2 hx)
 cases p with
 |vw t h0=>
  obtain ⟨h1,h2,h3,h4,c,vs,h5,h6,h7,h8⟩:=hp
  refine ⟨h1,h2,h3,h4,c,vs,h5,by rw [h.heads c.1 _ h6]; exact h6,h7,h8.imp (fun j x u hx=>hx.later (by rw [h.ph]) (fun x u hs hx=>?_))⟩
  exact B7.later h.later hx (fun k hk=>⟨hfz k hk,by rw [h.w]⟩)
 |val ag t=>
  obtain ⟨h1,h2,h3,us,h4,h5⟩:=hp
  exact ⟨h1,h2,h3,us,h4,h5.imp (fun n x u hx=>h.tms _ _ _ _ (Nga hn hj _).1 hx)⟩
 |ptr t t'=>exact box hp
 |hid t t'=>exact box hp
 |rd t=>
  obtain ⟨h1,r',x,k,o',cs,h2,h3,h4,h5,h6,h7,h8⟩:=hp
  exact ⟨h1,r',x,k,o',cs,h2,h3,h4,h5,hfz k h6,Ty.rep_mono hfz (fun k _=>by rw [h.w]) r' x cs h7,h8.mono (by rw [h.w])⟩
 |fn F m=>
  obtain ⟨h1,h2,h3⟩:=hp
  refine ⟨h1,h2,?_⟩
  have:V7 S1=V7 S:=by funext b; unfold V7; rw [h.bb]
  rw [this]
  exact h3
theorem Nha:∀ {l m:List (Nat×Nat)},U6a l m=true→l=m
 |[],[],_=>rfl
 |[],_::_,h=>by simp [U6a] at h
 |_::_,[],h=>by simp [U6a] at h
 |(a1,a2)::l,(b1,b2)::m,h=>by
  simp only [U6a,Bool.and_eq_true] at h
  have e1:a1=b1:=Nat.eq_of_beq_eq_true h.1.1
  have e2:a2=b2:=Nat.eq_of_beq_eq_true h.1.2
  rw [e1,e2,Nha h.2]
theorem V8 (hg:S.g=get A):∀ {bs:List (Nat×Nat)} {us:List Value},Uu S bs us→Mf A bs=true→us=bs.map (V7 S)
 |[],us,h,_=>h
 |c::bs,us,⟨u,us',e,⟨h1,h2⟩,h3⟩,ha=>by
  simp only [Mf,Bool.and_eq_true] at ha
  have e1:(S.g (H c.1)).1=c.2:=by rw [hg]; exact Nat.eq_of_beq_eq_true ha.1
  subst e
  rw [List.map_cons,V8 hg h3 ha.2,h2 e1]
  rfl
theorem Nia {ag:Bool} {s:Sv} (h:Kd ag s=true):∀ n,pth s n=if ag then [n] else []:=by
 intro n
 cases s with
 |tup vs=>simp [Kd,M3a] at h
 |one z=>cases ag<;>simp [Kd,M3a] at h ⊢; rfl
 |agg z=>cases ag<;>simp [Kd,M3a] at h ⊢; rfl
theorem Rwa {x:Operand} {b v off:Nat} {t:Ty} {m:List Lf} {us:List Up} (h:Sm A x (.one (.bp b v off)) t=some (m,us)):False:=by
 unfold Sm Sk at h
 split at h
 ·rename_i m0 vs0 ht
  have hm:m0=[.bp b v off]∨False:=by
   have e1:parts (.one (.bp b v off))=[.bp b v off]:=rfl
   rw [e1] at ht
   generalize Jq t=ts at ht
   cases ts with
   |nil=>simp [Hq] at ht
   |cons t ts=>
    cases ts with
    |cons t2 ts=>
     obtain ⟨_,h2⟩:=Nr _ _ ht
     simp at h2
    |nil=>
     cases t<;>first|(simp [Hq,Fga,Lc] at ht; done)|skip
     all_goals
      simp [Hq,Tz,kept,Mp] at ht
      exact .inl ht.1.symm
  rcases hm with rfl|h0
  ·simp [A5] at h
  ·exact h0
 ·cases h
theorem G2a {A:Ab} {S:Sit} {X:Cx} {a:Act} (K:Aw X S a) (hg:S.g=get A) {b l0:Nat}:∀ (ts:List Ty) {j:Nat} {l m:List Lf} {us:List Value},Fia A b j ts l=some m→Aa X.P S (fun n => .pl l0 [n]) j l us→
  Xy ts m∧m.length=ts.length∧Bda (Kla X.P S (fun j=>S.ph (C b j))) j m us
 |[],j,[],m,us,h,hl=>by
  simp only [Fia,Option.some.injEq] at h
  subst h
  cases us with
  |nil=>exact ⟨trivial,rfl,trivial⟩
  |cons=>exact hl.elim
 |[],j,_::_,m,us,h,hl=>by simp [Fia] at h
 |t::ts,j,[],m,us,h,hl=>by cases t<;>simp [Fia] at h
 |t::ts,j,x::l,m,us,h,hl=>by
  cases us with
  |nil=>exact hl.elim
  |cons u us=>
   have share:∀ {m':List Lf},Mba (Lc A x)=true→Fia A b (j+1) ts l=some m'→(∀ m'',Xy (t::ts) (Lc A x::m'')↔((Lc A x).isOwn=false∧Xy ts m''))→Xy (t::ts) (Lc A x::m')∧(Lc A x::m').length=(t::ts).length∧Bda (Kla X.P S (fun j=>S.ph (C b j))) j (Lc A x::m') (u::us):=by
    intro m' hs hr hf
    obtain ⟨h1,h2,h3⟩:=G2a K hg ts hr hl.2
    obtain ⟨lab',h4⟩:=Qu K hg hl.1
    refine ⟨(hf m').2 ⟨by cases hx:Lc A x<;>rw [hx] at hs<;>first|rfl|simp [Mba] at hs,h1⟩,by simp [h2],?_,h3⟩
    have h5:B7 X.P S .fz (Lc A x) u:=by
     cases hx:Lc A x<;>rw [hx] at hs h4<;>first|exact B7.relab (lab' := .fz) rfl h4|simp [Mba] at hs
    cases hx:Lc A x<;>rw [hx] at hs h5<;>first|exact ⟨rfl,h5⟩|simp [Mba] at hs
   cases t with
   |ow e r=>
    cases x<;>first|(simp [Fia] at h; done)|skip
    rename_i p v
    simp only [Fia] at h
    cases hq:(Nat.beq p (C b j)&&Nat.beq (get A p).1 v) with
    |false=>rw [hq] at h; simp at h
    |true=>
     rw [hq,cond_true] at h
     simp only [Bool.and_eq_true] at hq
     split at h
     ·rename_i y hy
      split at h
      ·rename_i m' hr
       simp only [Option.some.injEq] at h
       subst h
       obtain ⟨h1,h2,h3⟩:=G2a K hg ts hr hl.2
       have hal:B7 X.P S (.pl l0 [j]) (.al p v) u:=hl.1
       have hu:=hal.2 (by rw [hg]; exact Nat.eq_of_beq_eq_true hq.2)
       have hyo:∃ ys,y = .own e r ys:=by
        unfold Fga at hy
        split at hy
        ·generalize Nat.beq e _=bb at hy
         cases bb with
         |false=>simp at hy
         |true=>
          rw [cond_true] at hy
          split at hy
          ·simp only [Option.some.injEq] at hy
           exact ⟨_,hy.symm⟩
          ·cases hno:Jy r with
           |false=>rw [hno] at hy; simp at hy
           |true=>
            rw [hno,cond_true] at hy
            split at hy
            ·simp only [Option.some.injEq] at hy
             exact ⟨_,hy.symm⟩
            ·cases hy
        ·cases hy
       obtain ⟨ys,rfl⟩:=hyo
       refine ⟨h1,by simp [h2],?_,h3⟩
       show u=S.ph (C b j)
       rw [hu,Nat.eq_of_beq_eq_true hq.1]
      ·cases h
     ·cases h
   |_=>
    simp only [Fia] at h
    cases hs:Mba (Lc A x) with
    |false=>rw [hs] at h; simp at h
    |true=>
     rw [hs,cond_true] at h
     split at h
     ·rename_i m' hr
      simp only [Option.some.injEq] at h
      subst h
      exact share hs hr (fun m''=>Iff.rfl)
     ·cases h
theorem Rxa (hE:L9 X E) (K:Aw X S a) (hg:S.g=get A) {cb hb:List (Nat×Nat)} {nv i:Nat} {x:Operand} {s:Sv} {v:Value} {p:Par} {l:List Lf} {us:List Up} {bs:List Nat} (hx:(∃ T,opT E T A x=some s∧v=a.eval x)∨(∃ h:Nat×Nat,s = .one (.bp h.1 h.2 0)∧v=V7 S h)) (h:Tr A cb hb nv x p s=some (l,us,bs)):
  ∃ S1 bp,Aw X S1 a∧S1.g=get (ups A us)∧Hr X S S1 (exA nv i)∧bp.map Prod.fst=bs∧Ysa X.P S1 cb hb nv i p l v bp:=by
 have box:∀ {t t':Ty} {b w:Nat},s = .one (.bp b w 0)→(match Qs A b w t t' with|some (m,us)=>some (m,us,[b])|none=>none)=some (l,us,bs)→∃ S1 bp,Aw X S1 a∧S1.g=get (ups A us)∧Hr X S S1 (exA nv i)∧bp.map Prod.fst=bs∧W4a X.P S1 (bid nv i) t t' l v bp:=by
  intro t t' b w hs h
  split at h
  ·rename_i m us' hgive
   cases h
   obtain ⟨g1,g2,g3,g4,g5,S1,K1,g6,G,hl⟩:=U4 K hg hgive (nmB (bid nv i))
   refine ⟨S1,[(b,bid nv i)],K1,g6,Hr.trans (fun n q h=>h) (fun n q h=>⟨i,Nat.le_refl _,.inr h⟩) (Hr.refl S (exA nv i)) G,rfl,b,rfl,?_,by rw [G.heads b _ g2]; exact g2,g3,g5,g4,T0 hgive,by rw [G.ph]; exact hl⟩
   rw [G.bb]
   rcases hx with ⟨T,h1,rfl⟩|⟨h',h1,rfl⟩
   ·obtain ⟨pl,h2⟩:=Jb hE K hg h1
    rw [hs] at h2
    have h3:B7 X.P S (.pl pl []) (.bp b w 0) (a.eval x):=h2
    exact h3.2 g1
   ·rw [hs] at h1
    simp only [Sv.one.injEq,Lf.bp.injEq] at h1
    unfold V7
    rw [← h1.1]
    rfl
  ·cases h
 unfold Tr at h
 split at h
 ·rename_i t h0 ys
  split at h
  ·rename_i c hc
   split at h
   ·rename_i n m hp
    cases hq:(Nat.ble nv h0&&Nat.beq n c.2&&Nat.beq m t.sz) with
    |false=>rw [hq] at h; simp at h
    |true=>
     rw [hq,cond_true] at h
     simp only [Bool.and_eq_true] at hq
     split at h
     ·rename_i l0 hvw
      cases h
      rcases hx with ⟨T,h1,rfl⟩|⟨h',h1,_⟩
      ·obtain ⟨pl,h2⟩:=Jb hE K hg h1
       obtain ⟨vs,e1,e2⟩:∃ us:List Value,a.eval x = .agg us.toArray∧Aa X.P S (fun j => .pl pl [j]) 0 ys us:=h2
       obtain ⟨f1,f2,f3⟩:=G2a K hg _ hvw e2
       exact ⟨S,[],K,hg,Hr.refl S _,rfl,rfl,Nat.le_of_ble_eq_true hq.1.1,by rw [f2,Mu],f1,c,vs,hc,by rw [hg,hp,Nat.eq_of_beq_eq_true hq.2],e1,f3⟩
      ·cases h1
     ·cases h
   ·cases h
  ·cases h
 ·rename_i ag t
  cases hq:Kd ag s with
  |false=>rw [hq] at h; simp at h
  |true=>
   rw [hq,cond_true] at h
   split at h
   ·rename_i m us' hgive
    cases h
    rcases hx with ⟨T,h1,rfl⟩|⟨h',h1,_⟩
    ·obtain ⟨S1,K1,g1,G,h2,_,vs,hsh,hl⟩:=I6a hE K hg (.inl h1) (Nda hq) hgive (nmV i)
     have hp:=Nia hq
     simp only [hp] at hl
     exact ⟨S1,[],K1,g1,Hr.trans (fun n q h=>h) (fun n q h=>⟨i,Nat.le_refl _,.inl h⟩) (Hr.refl S (exA nv i)) G,rfl,rfl,h2,A6a hgive,vs,A2a hq hsh,hl⟩
    ·rw [h1] at hgive
     exact (Rwa hgive).elim
   ·cases h
 ·exact box rfl h
 ·exact box rfl h
 ·rename_i t r' y
  cases hq:(decide (shp r'=shp t)&&Jy t) with
  |false=>rw [hq] at h; simp at h
  |true=>
   rw [hq] at h
   simp only [cond_true,Option.some.injEq,Prod.mk.injEq] at h
   obtain ⟨rfl,rfl,rfl⟩:=h
   simp only [Bool.and_eq_true,decide_eq_true_eq] at hq
   rcases hx with ⟨T,h1,rfl⟩|⟨h',h1,_⟩
   ·obtain ⟨pl,h2⟩:=Jb hE K hg h1
    obtain ⟨k,o',cs,e1,e2,e3,e4⟩:B7 X.P S (.pl pl []) (.fp r' y 0) (a.eval x):=h2
    exact ⟨S,[],K,hg,Hr.refl S _,rfl,rfl,r',y,k,o',cs,rfl,hq.1,hq.2,e1,e2,e3,e4⟩
   ·cases h1
 ·rename_i F m F' bs'
  cases hq:(Nat.beq F F'&&Nat.beq m bs'.length&&U6a bs' cb&&Mf A bs') with
  |false=>rw [hq] at h; simp at h
  |true=>
   rw [hq] at h
   simp only [cond_true,Option.some.injEq,Prod.mk.injEq] at h
   obtain ⟨rfl,rfl,rfl⟩:=h
   simp only [Bool.and_eq_true] at hq
   obtain ⟨⟨⟨q1,q2⟩,q3⟩,q4⟩:=hq
   have e1:F=F':=Nat.eq_of_beq_eq_true q1
   have e2:m=bs'.length:=Nat.eq_of_beq_eq_true q2
   have e3:=Nha q3
   subst e1 e3
   rcases hx with ⟨T,h1,rfl⟩|⟨h',h1,_⟩
   ·obtain ⟨pl,h2⟩:=Jb hE K hg h1
    obtain ⟨us',e4,e5⟩:B7 X.P S (.pl pl []) (.fn F bs') (a.eval x):=h2
    have e6:=V8 hg e5 q4
    subst e6
    exact ⟨S,[],K,hg,Hr.refl S _,rfl,rfl,e2,e4⟩
   ·cases h1
 ·cases h
theorem Dda (hE:L9 X E) {cb hb:List (Nat×Nat)} {nv:Nat} (hn:nv≤1000):∀ (ps:List Par) {xs:List (TypeId×Operand)} {hs:List (Nat×Nat)} {S:Sit} {A:Ab} {ls:List (List Lf)} {us:List Up} {bs:List Nat} (i:Nat),Aw X S a→S.g=get A→Mg E cb hb nv A xs hs ps=some (ls,us,bs)→
  ∃ S1 bp,Aw X S1 a∧S1.g=get (ups A us)∧Hr X S S1 (exA nv i)∧bp.map Prod.fst=bs∧G1a X.P S1 cb hb nv i ps ls (xs.map (fun x=>a.eval x.2)++hs.map (V7 S)) bp
 |[],xs,hs,S,A,ls,us,bs,i,K,hg,h=>by
  cases xs with
  |cons=>simp [Mg] at h
  |nil=>
   cases hs with
   |cons=>simp [Mg] at h
   |nil=>
    simp only [Mg,Option.some.injEq,Prod.mk.injEq] at h
    obtain ⟨rfl,rfl,rfl⟩:=h
    exact ⟨S,[],K,hg,Hr.refl S _,rfl,rfl⟩
 |p::ps,xs,hs,S,A,ls,us,bs,i,K,hg,h=>by
  have go:∀ {x:Operand} {s:Sv} {v:Value} {xs':List (TypeId×Operand)} {hs':List (Nat×Nat)} {l:List Lf} {u:List Up} {b:List Nat} {ls1:List (List Lf)} {us1:List Up} {bs1:List Nat},((∃ T,opT E T A x=some s∧v=a.eval x)∨(∃ h:Nat×Nat,s = .one (.bp h.1 h.2 0)∧v=V7 S h))→Tr A cb hb nv x p s=some (l,u,b)→Mg E cb hb nv (ups A u) xs' hs' ps=some (ls1,us1,bs1)→
    ∃ S1 bp,Aw X S1 a∧S1.g=get (ups A (u++us1))∧Hr X S S1 (exA nv i)∧bp.map Prod.fst=b++bs1∧G1a X.P S1 cb hb nv i (p::ps) (l::ls1) (v::(xs'.map (fun x=>a.eval x.2)++hs'.map (V7 S))) bp:=by
   intro x s v xs' hs' l u b ls1 us1 bs1 hx h1 h2
   obtain ⟨S1,b1,K1,g1,G1,e1,p1⟩:=Rxa (nv:=nv) (i:=i) hE K hg hx h1
   obtain ⟨S2,b2,K2,g2,G2,e2,p2⟩:=Dda hE hn ps (i+1) K1 g1 h2
   have hpv:V7 S1=V7 S:=by funext b; unfold V7; rw [G1.bb]
   rw [hpv] at p2
   exact ⟨S2,b1++b2,K2,by rw [Av]; exact g2,Hr.trans (fun _ _ h=>h) (fun n q ⟨j,h1,h2⟩=>⟨j,by omega,h2⟩) G1 G2,by rw [List.map_append,e1,e2],b1,b2,rfl,p1.stay hn G2 (by omega),p2⟩
  cases xs with
  |cons x xs=>
   simp only [Mg] at h
   split at h
   ·rename_i s hs1
    split at h
    ·rename_i l u b hb
     split at h
     ·rename_i ls1 us1 bs1 hrec
      cases h
      exact go (.inl ⟨x.1,hs1,rfl⟩) hb hrec
     ·cases h
    ·cases h
   ·cases h
  |nil=>
   cases hs with
   |nil=>simp [Mg] at h
   |cons h0 hs=>
    simp only [Mg] at h
    split at h
    ·rename_i l u b hb
     split at h
     ·rename_i ls1 us1 bs1 hrec
      cases h
      exact go (xs':=[]) (.inr ⟨h0,rfl,rfl⟩) hb hrec
     ·cases h
    ·cases h
end
end Go.Proofs.YtflokceoeiplcaaGreat.Vf
end
