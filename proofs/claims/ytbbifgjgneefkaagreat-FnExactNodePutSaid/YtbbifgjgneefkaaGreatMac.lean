import Derived.Test.YtbbifgjgneefkaaGreatMab
import Derived.Laws.Strings
import Derived.Laws.Slices
import Derived.Laws.BytesArg
set_option linter.all false
namespace Go.Proofs.YtbbifgjgneefkaaGreat.Vf
open Go
open List (length getD)
open Int (toNat)
open Go.IntKind (wrap)
open BitVec (ofInt)
def Vb:=@Nat.eq_of_beq_eq_true
def Ve:=@Nat.le_of_ble_eq_true
def Vn:=@List.getD_eq_getElem?_getD
def Vq:=@Nat.le_refl
def Vs:=@List.getElem?_eq_getElem
def Vu:=@Prod.mk.injEq
def Vw:=@Result.andThen_ok
def Vx:=@Sem.run_bind
def Wd:=@Bool.false_eq_true
def Wf:=@Nat.zero_le
def Wi:=@Bool.not_eq_true'
def Wk:=@Array.getD_eq_getD_getElem?
def Wm:=@Nat.lt_of_lt_of_le
def Wn:=@Sem.run_pure
def Wq:=@List.cons.injEq
def Ya:=@List.getElem?_drop
def Yb:=@List.singleton_append
def Yd:=@List.map_cons
def Yq:=@Nat.le_trans
def Yr:=@Nat.le_antisymm
def Yu:=@Nat.add_zero
def Yv:=@Array.getElem?_toList
def Rha:=@Array.getElem?_setIfInBounds_ne
def Rta:=@Option.isSome_iff_exists
def S4a:=@List.ext_getElem?
def Tca:=@Nat.sub_self

inductive Lab where
 |no
 |fz
 |bx (b:Nat)
 |pl (l:Nat) (p:List Nat)
 |tm (i:Nat) (p:List Nat)
 deriving DecidableEq
structure Sit where
 O:Nat→Lab
 bb:Nat→Nat×Nat
 g:Nat→Nat×Sv
 ph:Nat→Value
 w:World
def Cs (P:Program) (O:Nat→Lab) (w:World) (lab:Lab) (e:TypeId) (r:Ty) (xs:List r.den) (u:Value):Prop:=
 ∃ bs,(Ty.ow e r).dep P (λ k=>O k = .fz) w xs [u] bs∧bs.Nodup∧∀ k∈bs,O k=lab
def Cs.top {P:Program} {O:Nat→Lab} {w:World} {lab:Lab} {e:TypeId} {r:Ty} {xs:List r.den} {u:Value} (h:Cs P O w lab e r xs u):
  Pd P e r.sz∧∃ cs,w.ownsRow 0 e r.sz u xs.length cs∧∀ k,u.ownBlock=some k→O k=lab:=by
 obtain⟨bs,⟨v,cs,b2,ev,hs,ho,hd,eb⟩,hn,hk⟩:=h;simp only[Wq,and_true]at ev;subst ev;exact⟨hs,cs,ho,λ k h=>hk k (by rw[eb,h];simp)⟩
def Cs.flat {P:Program} {O:Nat→Lab} {w:World} {lab:Lab} {e:TypeId} {r:Ty} {xs:List r.den} {u:Value} (hr:Hh r=true):
  Cs P O w lab e r xs u↔Pd P e r.sz∧∃ cs,w.ownsRow 0 e r.sz u xs.length cs∧Rows (λ x c=>r.rep P (λ k=>O k = .fz) w x c) xs cs∧∀ k,u.ownBlock=some k→O k=lab:=by
 have hf:∀ {xs:List r.den} {cs bs},C0 (λ x c b=>r.dep P (λ k=>O k = .fz) w x c b) xs cs bs↔Rows (λ x c=>r.rep P (λ k=>O k = .fz) w x c) xs cs∧bs=[]:=C0.flat (λ x c b=>Ty.dep_flat r x c b hr);constructor
 ·rintro⟨bs,⟨v,cs,b2,ev,hs,ho,hd,eb⟩,hn,hk⟩;simp only[Wq,and_true]at ev;subst ev;exact⟨hs,cs,ho,(hf.1 hd).1,λ k h=>hk k (by rw[eb,h];simp)⟩
 ·rintro⟨hs,cs,ho,hd,hk⟩;refine⟨u.ownBlock.toList++[],⟨u,cs,[],rfl,hs,ho,hf.2 ⟨hd,rfl⟩,rfl⟩,?_,?_⟩
  ·cases u.ownBlock<;>simp
  ·intro k h
   cases hb:u.ownBlock with
   |none=>rw[hb]at h;simp at h
   |some j=>rw[hb]at h;simp at h;subst h;exact hk k hb
def Cs.reads {P:Program} {O O':Nat→Lab} {w:World} {lab:Lab} {e:TypeId} {r:Ty} {xs:List r.den} {u:Value} (h:Cs P O w lab e r xs u)
  (hf:∀ k,O k = .fz→O' k = .fz) (hk:∀ k,O k=lab→O' k = .fz):(Ty.sl e r).rep P (λ k=>O' k = .fz) w xs [u]:=by
 obtain⟨bs,hd,_,hb⟩:=h;exact Ty.dep_rep hf (.ow e r) xs [u] bs (λ k h=>hk k (hb k h)) hd
def Cs.cast {P:Program} {O:Nat→Lab} {w:World} {lab:Lab} {e:TypeId} {r r':Ty} {xs:List r'.den} {ys:List r.den} {u:Value} (hc:Li r r' xs=some ys) (h:Cs P O w lab e r' xs u):Cs P O w lab e r ys u:=by
 rcases R3 hc with⟨e1,e2⟩|⟨e1,rfl,rfl⟩
 ·subst e1 e2;exact h
 ·obtain⟨bs,⟨v,cs,b2,ev,hs,ho,hd,eb⟩,hn,hk⟩:=h
  have hsz:r'.sz=r.sz:=by rw[← Ho r',e1,Ho r]
  exact⟨bs,⟨v,cs,b2,ev,by rw[← hsz];exact hs,by rw[← hsz];exact ho,hd,eb⟩,hn,hk⟩
def I0a:Lf→Bool
 |.own _ r _ => !(Hh r)
 |.fz _ r _ => !(Hh r)
 |_=>false
def Xd:Sv→Bool
 |.one x=>I0a x
 |_=>false
def Aba:List (Int×Nat)→TypeId→(r:Ty)→List r.den→Option Sl
 |[],e,r,xs=>some ⟨e,r,xs⟩
 |(i,j)::q,_,r,xs=>if 0≤i∧i.toNat<xs.length then (match nth (A4 r (xs.getD i.toNat r.dflt)) j with
  |some (.own e1 r1 ys)=>Aba q e1 r1 ys
  |_=>none) else none
def Ln (G:Nat→Prop) (w:World):List (Int×Nat)→Ty→Value→Value→Prop
 |[],_,u,u'=>u'=u
 |(i,j)::q,r,u,u'=>∃ k o n cap e1 r1 u1,u = .slice (some ⟨k,o,none⟩) n cap∧G k∧w.cell? ⟨k,o+(i.toNat*r.sz+j),none⟩=some u1∧nth (Ew r) j=some (.ow e1 r1)∧Ln G w q r1 u1 u'
def Kfa (S:Sit) (p k:Nat):Prop:=S.O k = .pl p []∨S.O k = .fz
def Xe (P:Program) (S:Sit) (p:Nat) (e:TypeId) (r:Ty) (xs:List r.den) (u:Value):Prop:=
 Pd P e r.sz∧∃ a cap cs bs,u = .slice a xs.length cap∧xs.length≤cap∧C0 (λ x c b=>r.dep P (λ k=>S.O k = .fz) S.w x c b) xs cs bs∧(∀ k∈bs,Kfa S p k)∧
  (xs≠[]→∃ k o,a=some ⟨k,o,none⟩∧Kfa S p k∧Ck S.w k o cs)
def Kga (S:Sit) (p:Nat) (pi:Option (List (Int×Nat))) (e:TypeId) (r:Ty) (xs:List r.den) (u:Value):Prop:=
 ∀ q,pi=some q→∀ E R XS,(S.g p).2 = .one (.own E R XS)→Aba q E R XS=some ⟨e,r,xs⟩∧Ln (Kfa S p) S.w q R (S.ph p) u
def Dka (P:Program) (S:Sit) (p v:Nat) (pi:Option (List (Int×Nat))) (e:TypeId) (r:Ty) (xs:List r.den) (u:Value):Prop:=
 Eh r=true∧v≤(S.g p).1∧((S.g p).1=v→Xd (S.g p).2=true∧Xe P S p e r xs u∧
  Kga S p pi e r xs u)
def I1a (P:Program) (S:Sit) (lab:Lab) (e:TypeId) (r:Ty) (xs:List r.den) (i:Int) (b:Nat) (u:Value):Prop:=
 ∃ k cap cur b1 b2,u = .slice (some ⟨k,0,none⟩) xs.length cap∧Pd P e r.sz∧S.w.heap[k]? = some (.cells cur e (0,0))∧(xs.length≤cap∧cap≤maxLen∧cur.size=cap*r.sz)∧(0≤i∧i.toNat<xs.length)∧
  S.bb b=(k,i.toNat*r.sz)∧S.O k = .bx b∧(S.g (H b)).2 = .one (.hd r.sz)∧
  C0 (λ x c d=>r.dep P (λ k=>S.O k = .fz) S.w x c d) (xs.take i.toNat) (cur.toList.take (i.toNat*r.sz)) b1∧
  C0 (λ x c d=>r.dep P (λ k=>S.O k = .fz) S.w x c d) (xs.drop (i.toNat+1)) ((cur.toList.take (xs.length*r.sz)).drop (i.toNat*r.sz+r.sz)) b2∧(b1++b2).Nodup∧∀ k'∈b1++b2,S.O k'=lab
def Qq (P:Program) (O:Nat→Lab) (w:World) (lab:Lab) (e:TypeId) (r:Ty) (xs:List r.den) (m:Nat) (u:Value):Prop:=
 Pd P e r.sz∧∃ a cap cs bs,(u = .slice a xs.length cap∧xs.length≤cap)∧cs.length=xs.length*r.sz∧C0 (λ x c b=>r.dep P (λ k=>O k = .fz) w x c b) (xs.drop m) (cs.drop (m*r.sz)) bs∧bs.Nodup∧(∀ k∈bs,O k=lab)∧(xs.length≠0→∃ k o,a=some ⟨k,o,none⟩∧O k = .fz∧Ck w k o cs)
def Pg (S:Sit):List (Nat×Nat)→List Value→Prop
 |[],us=>us=[]
 |c::bs,us=>∃ u us',us=u::us'∧(c.2≤(S.g (H c.1)).1∧((S.g (H c.1)).1=c.2→u = .pointer (some ⟨(S.bb c.1).1,(S.bb c.1).2+0,none⟩)))∧Pg S bs us'
def Af (P:Program) (S:Sit) (lab:Lab):Lf→Value→Prop
 |.dead,_=>True
 |.un,u=>u=undef
 |.sc v,u=>u=v∧X5 v=true
 |.fz e r xs,u=>(Ty.sl e r).rep P (λ k=>S.O k = .fz) S.w xs [u]
 |.own e r xs,u=>Cs P S.O S.w lab e r xs u
 |.al p v,u=>v≤(S.g p).1∧((S.g p).1=v→u=S.ph p)
 |.bp b v off,u=>v≤(S.g (H b)).1∧((S.g (H b)).1=v→u = .pointer (some ⟨(S.bb b).1,(S.bb b).2+off,none⟩))
 |.ep p v i off,u=>v≤(S.g p).1∧∀ e r xs,S.g p=(v,.one (.own e r xs))→0≤i∧i.toNat<xs.length∧
   ∃ k cap,S.ph p = .slice (some ⟨k,0,none⟩) xs.length cap∧u = .pointer (some ⟨k,i.toNat*r.sz+off,none⟩)
 |.fp r x off,u=>∃ k o cs,u = .pointer (some ⟨k,o+off,none⟩)∧S.O k = .fz∧r.rep P (λ k=>S.O k = .fz) S.w x cs∧Ck S.w k o cs
 |.hd _,_=>True
 |.da p v pi e r xs,u=>Dka P S p v pi e r xs u
 |.opn e r xs i b v,u=>v≤(S.g (H b)).1∧(Pd P e r.sz∧0≤i∧i.toNat<xs.length∧∃ k cap,u = .slice (some ⟨k,0,none⟩) xs.length cap)∧((S.g (H b)).1=v→I1a P S lab e r xs i b u)
 |.fn F bs,u=>∃ us,u = .func (.func F) #[] us.toArray∧Pg S bs us
 |.io p,u=>3001000≤p∧u=S.ph p
 |.par e r xs m,u=>Qq P S.O S.w lab e r xs m u
 |.two q v1 v2,u=>v1≤(S.g q).1∧v2≤(S.g (q+1)).1∧∃ ad n cap,u = .slice ad n cap∧n≤cap∧((S.g q).1=v1→∃ k,k≤n∧S.ph q = .slice ad k cap)∧((S.g (q+1)).1=v2→S.ph (q+1)=u)
 |.dp p v pi e r xs i off,u=>∃ h,Dka P S p v pi e r xs h∧((S.g p).1=v→0≤i∧i.toNat<xs.length∧∃ k o cap,h = .slice (some ⟨k,o,none⟩) xs.length cap∧u = .pointer (some ⟨k,o+(i.toNat*r.sz+off),none⟩))
def A5 (P:Program) (S:Sit) (lab:Nat→Lab):Nat→List Lf→List Value→Prop
 |_,[],[]=>True
 |j,x::xs,u::us=>Af P S (lab j) x u∧A5 P S lab (j+1) xs us
 |_,_,_=>False
def Jz (P:Program) (S:Sit) (l:Nat):Nat→List (Bool×List Lf)→List Value→Prop
 |_,[],[]=>True
 |i,v::vs,u::us=>(∃ ws,(if v.1 then u = .agg ws.toArray else ws=[u])∧A5 P S (λ j => .pl l [i,j]) 0 v.2 ws)∧Jz P S l (i+1) vs us
 |_,_,_=>False
def Gi (P:Program) (S:Sit) (l:Nat):Sv→Value→Prop
 |.one x,u=>Af P S (.pl l []) x u
 |.agg cs,u=>∃ us,u = .agg us.toArray∧A5 P S (λ j => .pl l [j]) 0 cs us
 |.tup vs,u=>∃ us,u = .tuple us.toArray∧Jz P S l 0 vs us
structure Fr (O0:Nat→Lab) (w0:World) (rg:Nat→Nat×Nat) (O:Nat→Lab) (w:World):Prop where
 os:w.os=w0.os
 tape:w.tape=w0.tape
 out:w.output=w0.output
 size:w0.heap.size≤w.heap.size
 no:∀ k,k<w0.heap.size→O0 k = .no→O k = .no∧w.heap[k]? = w0.heap[k]?
 fz:∀ k,k<w0.heap.size→O0 k = .fz→O k = .fz∧w.heap[k]? = w0.heap[k]?
 bx:∀ k b,k<w0.heap.size→O0 k = .bx b→O k = .bx b∧∃ c c' e f,w0.heap[k]? = some (.cells c e f)∧w.heap[k]? = some (.cells c' e f)∧c'.size=c.size∧
  ∀ i,(i<(rg b).1∨(rg b).1+(rg b).2≤i)→c'[i]? = c[i]?
structure Cx where
 P:Program
 O0:Nat→Lab
 w0:World
 rg:Nat→Nat×Nat
 nt:Nat
 np:Nat
 v0:Nat→Value
def Cx.pb (X:Cx) (b:Nat):Prop:=(b<X.np∧b<1000)∨(1500≤b∧b<2000)
structure Ah (X:Cx) (S:Sit) (a:Act):Prop where
 nt:X.nt≤1000
 lt:∀ k,S.O k ≠ .no→k<S.w.heap.size
 at_:∀ l,Gi X.P S l (S.g l).2 (S.ph l)
 box:∀ b n,(S.g (H b)).2 = .one (.hd n)→n<999∧∃ c e,S.w.heap[(S.bb b).1]? = some (.cells c e (0,0))∧S.O (S.bb b).1 = .bx b∧(S.bb b).2+n≤c.size∧
  ∀ j,j<n→c[(S.bb b).2+j]? = some (S.ph (C b j))
 rgn:∀ b n,(S.g (H b)).2 = .one (.hd n)→(b<2000→(S.bb b).1<X.w0.heap.size→X.O0 (S.bb b).1 = .bx b∧(X.rg b).1≤(S.bb b).2∧(S.bb b).2+n≤(X.rg b).1+(X.rg b).2)∧(X.pb b→(S.bb b).1<X.w0.heap.size)∧(2000≤b→(S.bb b).1<X.w0.heap.size→∀ b',X.O0 (S.bb b).1 ≠ .bx b')∧b<3000
 sl:∀ t,t<X.nt→a.tmps.getD t undef=S.ph t
 sz:a.tmps.size=X.nt
 df:a.defers=[]
 fr:Fr X.O0 X.w0 X.rg S.O S.w
 io:∀ p,3001000≤p→S.ph p=X.v0 p
structure Ct (S S':Sit):Prop where
 ver:∀ p,(S.g p).1≤(S'.g p).1
 ph:∀ p,(S'.g p).1=(S.g p).1→S'.ph p=S.ph p
 own:∀ p v e r xs',S'.g p=(v,.one (.own e r xs'))→(S.g p).1=v→∃ xs:List r.den,S.g p=(v,.one (.own e r xs))∧xs.length=xs'.length
 bb:∀ b,(S'.g (H b)).1=(S.g (H b)).1→S'.bb b=S.bb b
 fz:∀ k,S.O k = .fz→S'.O k = .fz∧S'.w.heap[k]? = S.w.heap[k]?
 box:∀ b n,(S'.g (H b)).1=(S.g (H b)).1→(S.g (H b)).2 = .one (.hd n)→S.O (S.bb b).1 = .bx b→(S'.g (H b)).2 = .one (.hd n)∧S'.O (S.bb b).1 = .bx b∧
  ∀ c e f,S.w.heap[(S.bb b).1]? = some (.cells c e f)→∃ c',S'.w.heap[(S.bb b).1]? = some (.cells c' e f)∧c'.size=c.size∧∀ j,(j<(S.bb b).2∨(S.bb b).2+n≤j)→c'[j]? = c[j]?
 bor:∀ p,(S'.g p).1=(S.g p).1→Xd (S.g p).2=true→Xd (S'.g p).2=true∧(∀ E R XS,(S'.g p).2 = .one (.own E R XS)→(S.g p).2 = .one (.own E R XS))∧∀ k,S.O k = .pl p []→Kfa S' p k∧S'.w.heap[k]? = S.w.heap[k]?
 io:∀ p,3001000≤p→S'.ph p=S.ph p
section
variable {P:Program} {S S':Sit} {lab lab':Lab} {u:Value}
def Ct.box_of (hg:∀ b n,(S'.g (H b)).1=(S.g (H b)).1→(S.g (H b)).2 = .one (.hd n)→(S'.g (H b)).2 = .one (.hd n)) (hO:∀ k b,S.O k = .bx b→S'.O k = .bx b∧S'.w.heap[k]? = S.w.heap[k]?):
  ∀ b n,(S'.g (H b)).1=(S.g (H b)).1→(S.g (H b)).2 = .one (.hd n)→S.O (S.bb b).1 = .bx b→(S'.g (H b)).2 = .one (.hd n)∧S'.O (S.bb b).1 = .bx b∧
  ∀ c e f,S.w.heap[(S.bb b).1]? = some (.cells c e f)→∃ c',S'.w.heap[(S.bb b).1]? = some (.cells c' e f)∧c'.size=c.size∧∀ j,(j<(S.bb b).2∨(S.bb b).2+n≤j)→c'[j]? = c[j]?:=
 λ b n h1 h2 h3=>⟨hg b n h1 h2,(hO _ _ h3).1,λ c e f hc=>⟨c,(hO _ _ h3).2.trans hc,rfl,λ _ _=>rfl⟩⟩
def I2a {c c':Array Value} {o n:Nat} (hs:c'.size=c.size) (h:∀ j,(j<o∨o+n≤j)→c'[j]? = c[j]?):c'.toList.take o=c.toList.take o∧∀ m,(c'.toList.take m).drop (o+n)=(c.toList.take m).drop (o+n):=by
 refine⟨S4a λ j=>?_,λ m=>S4a λ j=>?_⟩
 ·rw[Wg,Wg];split
  ·rw[Yv,Yv];exact h j (.inl ‹_›)
  ·rfl
 ·rw[Ya,Ya,Wg,Wg];split
  ·rw[Yv,Yv];exact h _ (.inr (by omega))
  ·rfl
def I1a.later {e:TypeId} {r:Ty} {xs:List r.den} {i:Int} {b:Nat} (L:Ct S S') (hv:(S'.g (H b)).1=(S.g (H b)).1) (h:I1a P S lab e r xs i b u) (hl:∀ k,S.O k=lab→S'.O k=lab'∧S'.w.heap[k]? = S.w.heap[k]?):I1a P S' lab' e r xs i b u:=by
 obtain⟨k,cap,cur,b1,b2,h1,h2,h3,⟨h4,h5,h6⟩,h7,h8,h9,h10,h11,h12,h13,h14⟩:=h;obtain⟨g1,g2,g3⟩:=L.box b r.sz hv h10 (by rw[h8];exact h9);rw[h8]at g2 g3;obtain⟨c',c1,c2,c3⟩:=g3 _ _ _ h3;obtain⟨t1,t2⟩:=I2a c2 c3
 have mono:∀ {ys:List r.den} {cs:List Value} {bs:List Nat},(∀ k∈bs,k∈b1++b2)→C0 (λ x c d=>r.dep P (λ k=>S.O k = .fz) S.w x c d) ys cs bs→C0 (λ x c d=>r.dep P (λ k=>S'.O k = .fz) S'.w x c d) ys cs bs:=λ hb h=>
  h.mono (λ x c d hd hx=>Ty.dep_mono (λ k hk=>(L.fz k hk).1) (λ k hk=>(L.fz k hk).2) r x c d (λ k hk=>(hl k (h14 k (hb k (hd k hk)))).2) hx)
 refine⟨k,cap,c',b1,b2,h1,h2,c1,⟨h4,h5,c2.trans h6⟩,h7,(L.bb b hv).trans h8,g2,g1,?_,?_,h13,λ k' hk'=>(hl k' (h14 k' hk')).1⟩
 ·rw[t1];exact mono (λ k hk=>Vt _ hk) h11
 ·rw[t2];exact mono (λ k hk=>Vi _ hk) h12
def Pg.later (L:Ct S S'):∀ {bs:List (Nat×Nat)} {us:List Value},Pg S bs us→Pg S' bs us
 |[],_,h=>h
 |c::bs,_,⟨u,us',e,⟨h1,h2⟩,h3⟩=>⟨u,us',e,⟨Yq h1 (L.ver _),λ hv=>by
  have e1:(S.g (H c.1)).1=c.2:=Yr (hv ▸ L.ver _) h1;rw[L.bb c.1 (hv.trans e1.symm)]
  exact h2 e1⟩,h3.later L⟩
def Cs.later {O O':Nat→Lab} {w w':World} {e:TypeId} {r:Ty} {xs:List r.den} (h:Cs P O w lab e r xs u)
  (hf:∀ k,O k = .fz→O' k = .fz∧w'.heap[k]? = w.heap[k]?) (hl:∀ k,O k=lab→O' k=lab'∧w'.heap[k]? = w.heap[k]?):Cs P O' w' lab' e r xs u:=by
 obtain⟨bs,hd,hn,hk⟩:=h;exact⟨bs,Ty.dep_mono (λ k h=>(hf k h).1) (λ k h=>(hf k h).2) (.ow e r) xs [u] bs (λ k h=>(hl k (hk k h)).2) hd,hn,λ k h=>(hl k (hk k h)).1⟩
def Qq.later {O O':Nat→Lab} {w w':World} {e:TypeId} {r:Ty} {xs:List r.den} {m:Nat} (h:Qq P O w lab e r xs m u)
  (hf:∀ k,O k = .fz→O' k = .fz∧w'.heap[k]? = w.heap[k]?) (hl:∀ k,O k=lab→O' k=lab'∧w'.heap[k]? = w.heap[k]?):Qq P O' w' lab' e r xs m u:=by
 obtain⟨h1,a,cap,cs,bs,h2,h3,h4,h5,h6,h7⟩:=h;refine⟨h1,a,cap,cs,bs,h2,h3,h4.mono (λ x c b hb hx=>Ty.dep_mono (λ k hk=>(hf k hk).1) (λ k hk=>(hf k hk).2) r x c b (λ k hk=>(hl k (h6 k (hb k hk))).2) hx),h5,λ k hk=>(hl k (h6 k hk)).1,λ hn=>?_⟩;obtain⟨k,o,e1,e2,e3⟩:=h7 hn;exact⟨k,o,e1,(hf k e2).1,e3.mono (hf k e2).2⟩
def Xe.reads {P:Program} {S:Sit} {p:Nat} {e:TypeId} {r:Ty} {xs:List r.den} {u:Value} {G:Nat→Prop} (h:Xe P S p e r xs u) (hG:∀ k,Kfa S p k→G k):(Ty.sl e r).rep P G S.w xs [u]:=by
 obtain⟨hs,a,cap,cs,bs,e1,hc,hd,hb,hne⟩:=h;refine⟨u,rfl,hs,a,cap,cs,e1,hc,hd.rows (λ x c b hbb h=>Ty.dep_rep (λ k hk=>hG k (.inr hk)) r x c b (λ k hk=>hG k (hb k (hbb k hk))) h),λ hn=>?_⟩;obtain⟨k,o,e2,hk,hcs⟩:=hne hn;exact⟨k,o,e2,hG k hk,hcs⟩
def Ln.mono {G G':Nat→Prop} {w w':World} (hG:∀ k,G k→G' k∧w'.heap[k]? = w.heap[k]?):∀ (q:List (Int×Nat)) (r:Ty) (u u':Value),Ln G w q r u u'→Ln G' w' q r u u'
 |[],_,_,_,h=>h
 |(_,_)::q,_,_,_,⟨k,o,n,cap,e1,r1,u1,h1,h2,h3,h4,h5⟩=>⟨k,o,n,cap,e1,r1,u1,h1,(hG k h2).1,(Tv (hG k h2).2 _).trans h3,h4,h5.mono hG q r1 u1 _⟩
def Dka.later {p v:Nat} {pi:Option (List (Int×Nat))} {e:TypeId} {r:Ty} {xs:List r.den} (L:Ct S S') (h:Dka P S p v pi e r xs u):Dka P S' p v pi e r xs u:=by
 obtain⟨h0,h1,h2⟩:=h;refine⟨h0,Yq h1 (L.ver p),λ hv=>?_⟩;have e1:(S.g p).1=v:=Yr (hv ▸ L.ver p) h1;obtain⟨d1,⟨d2,a,cap,cs,bs,d3,d4,d5,d6,d7⟩,d8⟩:=h2 e1;obtain⟨b1,b2,b3⟩:=L.bor p (hv.trans e1.symm) d1
 have hm:∀ k,Kfa S p k→Kfa S' p k∧S'.w.heap[k]? = S.w.heap[k]? := λ k hk=>by
  rcases hk with hk|hk
  ·exact b3 k hk
  ·exact⟨.inr (L.fz k hk).1,(L.fz k hk).2⟩
 refine⟨b1,⟨d2,a,cap,cs,bs,d3,d4,d5.mono (λ x c b hb hx=>Ty.dep_mono (λ k hk=>(L.fz k hk).1) (λ k hk=>(L.fz k hk).2) r x c b (λ k hk=>(hm k (d6 k (hb k hk))).2) hx),λ k hk=>(hm k (d6 k hk)).1,λ hn=>?_⟩,λ q hq E R XS hg=>?_⟩
 ·obtain⟨k,o,e3,e4,e5⟩:=d7 hn;exact⟨k,o,e3,(hm k e4).1,e5.mono (hm k e4).2⟩
 ·obtain⟨f1,f2⟩:=d8 q hq E R XS (b2 E R XS hg);refine⟨f1,?_⟩;rw[L.ph p (hv.trans e1.symm)];exact f2.mono hm
def Af.later {x:Lf} (L:Ct S S') (h:Af P S lab x u) (hl:∀ k,S.O k=lab→S'.O k=lab'∧S'.w.heap[k]? = S.w.heap[k]?):Af P S' lab' x u:=by
 cases x with
 |dead=>trivial
 |un=>exact h
 |sc v=>exact h
 |fz e r xs=>exact Ty.rep_mono (λ k h=>(L.fz k h).1) (λ k h=>(L.fz k h).2) _ _ _ h
 |own e r xs=>exact Cs.later h L.fz hl
 |al p v=>
  refine⟨Yq h.1 (L.ver p),λ hv=>?_⟩;have e1:(S.g p).1=v:=Yr (hv ▸ L.ver p) h.1;rw[L.ph p (hv.trans e1.symm)];exact h.2 e1
 |bp b v off=>
  refine⟨Yq h.1 (L.ver _),λ hv=>?_⟩;have e1:(S.g (H b)).1=v:=Yr (hv ▸ L.ver _) h.1;rw[L.bb b (hv.trans e1.symm)];exact h.2 e1
 |ep p v i off=>
  refine⟨Yq h.1 (L.ver p),λ e r xs hv=>?_⟩
  have e0:(S'.g p).1=v:=by rw[hv]
  have e1:(S.g p).1=v:=Yr (e0 ▸ L.ver p) h.1;obtain⟨ys,hy,hl⟩:=L.own p v e r xs hv e1;obtain⟨h0,h1,k,cap,h2,h3⟩:=h.2 e r ys hy;refine⟨h0,hl ▸ h1,k,cap,?_,h3⟩;rw[L.ph p (e0.trans e1.symm),h2,hl]
 |fp r x off=>
  obtain⟨k,o,cs,h1,h2,h3,h4⟩:=h;exact⟨k,o,cs,h1,(L.fz k h2).1,Ty.rep_mono (λ k h=>(L.fz k h).1) (λ k h=>(L.fz k h).2) _ _ _ h3,h4.mono (L.fz k h2).2⟩
 |hd n=>trivial
 |io p=>exact⟨h.1,h.2.trans (L.io p h.1).symm⟩
 |par e r xs m=>exact Qq.later h L.fz hl
 |two q v1 v2=>
  obtain⟨h1,h2,ad,n,cap,h3,h4,h5,h6⟩:=h;refine⟨Yq h1 (L.ver q),Yq h2 (L.ver _),ad,n,cap,h3,h4,λ hv=>?_,λ hv=>?_⟩
  ·have e1:(S.g q).1=v1:=Yr (hv ▸ L.ver q) h1;rw[L.ph q (hv.trans e1.symm)];exact h5 e1
  ·have e1:(S.g (q+1)).1=v2:=Yr (hv ▸ L.ver _) h2;rw[L.ph (q+1) (hv.trans e1.symm)];exact h6 e1
 |da p v pi e r xs=>exact Dka.later L h
 |opn e r xs i b v=>
  refine⟨Yq h.1 (L.ver _),h.2.1,λ hv=>?_⟩;have e1:(S.g (H b)).1=v:=Yr (hv ▸ L.ver _) h.1;exact(h.2.2 e1).later L (hv.trans e1.symm) hl
 |fn F bs=>
  obtain⟨us,e,h⟩:=h;exact⟨us,e,h.later L⟩
 |dp p v pi e r xs i off=>
  obtain⟨hd,h1,h2⟩:=h;refine⟨hd,h1.later L,λ hv=>h2 ?_⟩;exact Yr (hv ▸ L.ver p) h1.2.1
def Lf.isOwn:Lf→Bool
 |.own _ _ _=>true
 |.opn _ _ _ _ _ _=>true
 |.par _ _ _ _=>true
 |_=>false
def Af.relab {x:Lf} (hx:x.isOwn=false) (h:Af P S lab x u):Af P S lab' x u:=by
 cases x<;>first|exact h|(simp[Lf.isOwn]at hx)
def A5.imp {f f':Nat→Lab} (hi:∀ j x u,Af P S (f j) x u→Af P S' (f' j) x u):∀ {j:Nat} {xs:List Lf} {us:List Value},A5 P S f j xs us→A5 P S' f' j xs us
 |_,[],[],_=>trivial
 |j,_::_,_::_,h=>⟨hi j _ _ h.1,h.2.imp hi⟩
 |_,[],_::_,h=>h.elim
 |_,_::_,[],h=>h.elim
def Jz.imp {l l':Nat} (hi:∀ i j x u,Af P S (.pl l [i,j]) x u→Af P S' (.pl l' [i,j]) x u):∀ {i:Nat} {vs:List (Bool×List Lf)} {us:List Value},Jz P S l i vs us→Jz P S' l' i vs us
 |_,[],[],_=>trivial
 |i,_::_,_::_,⟨⟨ws,h1,h2⟩,h3⟩=>⟨⟨ws,h1,h2.imp (λ j=>hi i j)⟩,h3.imp hi⟩
 |_,[],_::_,h=>h.elim
 |_,_::_,[],h=>h.elim
def Gi.imp {l l':Nat} {s:Sv} (hi:∀ p x u,Af P S (.pl l p) x u→Af P S' (.pl l' p) x u) (h:Gi P S l s u):Gi P S' l' s u:=by
 cases s with
 |one x=>exact hi _ _ _ h
 |agg cs=>obtain⟨us,e,h⟩:=h;exact⟨us,e,h.imp (λ j=>hi [j])⟩
 |tup vs=>obtain⟨us,e,h⟩:=h;exact⟨us,e,h.imp (λ i j=>hi [i,j])⟩
def Gi.later {l:Nat} {s:Sv} (L:Ct S S') (h:Gi P S l s u) (hl:∀ p k,S.O k = .pl l p→S'.O k = .pl l p∧S'.w.heap[k]? = S.w.heap[k]?):Gi P S' l s u:=
 h.imp (λ p _ _ h=>h.later L (hl p))
def A5.relab {f f':Nat→Lab}:∀ {j:Nat} {xs:List Lf} {us:List Value},Db xs=false→A5 P S f j xs us→A5 P S f' j xs us
 |_,[],[],_,_=>trivial
 |j,x::xs,u::us,ho,h=>by
  cases x<;>first|(simp[Db]at ho;done)|exact⟨Af.relab rfl h.1,A5.relab (by simpa[Db] using ho) h.2⟩
 |_,[],_::_,_,h=>h.elim
 |_,_::_,[],_,h=>h.elim
def Jz.relab {l l':Nat}:∀ {i:Nat} {vs:List (Bool×List Lf)} {us:List Value},vs.any (λ v=>Db v.2)=false→Jz P S l i vs us→Jz P S l' i vs us
 |_,[],[],_,_=>trivial
 |i,_::_,_::_,ho,⟨⟨ws,h1,h2⟩,h3⟩=>by
  simp only[List.any_cons,Bool.or_eq_false_iff]at ho;exact⟨⟨ws,h1,h2.relab ho.1⟩,h3.relab ho.2⟩
 |_,[],_::_,_,h=>h.elim
 |_,_::_,[],_,h=>h.elim
def Gi.relab {l l':Nat} {s:Sv} (ho:Ix s=false) (h:Gi P S l s u):Gi P S l' s u:=by
 cases s with
 |one x=>exact Af.relab (by cases x<;>first|rfl|(simp[Ix,Db]at ho)) h
 |agg cs=>obtain⟨us,e,h⟩:=h;exact⟨us,e,h.relab ho⟩
 |tup vs=>obtain⟨us,e,h⟩:=h;exact⟨us,e,h.relab ho⟩
end
def Nra {b b' j:Nat} (hj:j<999):C b j≠H b':=by unfold C H;omega
def Rz {b b':Nat} (h:H b=H b'):b=b':=by unfold H at h;omega
def Qua (b j:Nat):1000≤C b j:=by unfold C;omega
def Nsa (b:Nat):1000≤H b:=by unfold H;omega
def upd {β:Type} (f:Nat→β) (l:Nat) (v:β):Nat→β:=λ k=>if k=l then v else f k
@[simp] theorem A9 {β:Type} (f:Nat→β) (l:Nat) (v:β):upd f l v l=v:=by simp[upd]
def Aa {β:Type} (f:Nat→β) {l k:Nat} (v:β) (h:k≠l):upd f l v k=f k:=by simp[upd,h]
def Il (A:Ab) (u:Up):get (up A u)=upd (get A) u.l ((bif u.keep then (get A u.l).1 else (get A u.l).1+1),u.s):=by
 funext k;unfold upd up;simp only[get]
 by_cases h:k=u.l
 ·subst h;simp
 ·have:Nat.beq u.l k=false:=by
   cases hb:Nat.beq u.l k with
   |false=>rfl
   |true=>exact absurd (Vb hb).symm h
  simp[this,h]

section
variable {X:Cx} {S:Sit} {a:Act}
def Fr.relab {O0 O O':Nat→Lab} {w0 w:World} {rg:Nat→Nat×Nat} (h:Fr O0 w0 rg O w)
  (h1:∀ k,O k = .no→O' k = .no) (h2:∀ k,O k = .fz→O' k = .fz) (h3:∀ k b,O k = .bx b→O' k = .bx b):Fr O0 w0 rg O' w:=
 ⟨h.os,h.tape,h.out,h.size,λ k hk e=>⟨h1 k (h.no k hk e).1,(h.no k hk e).2⟩,λ k hk e=>⟨h2 k (h.fz k hk e).1,(h.fz k hk e).2⟩,
  λ k b hk e=>⟨h3 k b (h.bx k b hk e).1,(h.bx k b hk e).2⟩⟩
def Ah.ghost (K:Ah X S a) (O':Nat→Lab) (g':Nat→Nat×Sv)
  (h1:∀ k,S.O k = .no→O' k = .no) (h1':∀ k,O' k ≠ .no→S.O k ≠ .no) (h2:∀ k,S.O k = .fz→O' k = .fz) (h3:∀ k b,S.O k = .bx b→O' k = .bx b)
  (hH:∀ b n,(g' (H b)).2 = .one (.hd n)→(S.g (H b)).2 = .one (.hd n))
  (hat:∀ l,Gi X.P { S with O:=O',g:=g' } l (g' l).2 (S.ph l)):Ah X { S with O:=O',g:=g' } a where
 nt:=K.nt
 lt:=λ k hk=>K.lt k (h1' k hk)
 at_:=hat
 box:=λ b n h=>by
  obtain⟨hn,c,e,e1,e2,e3,e4⟩:=K.box b n (hH b n h);exact⟨hn,c,e,e1,h3 _ _ e2,e3,e4⟩
 rgn:=λ b n h=>K.rgn b n (hH b n h)
 sl:=K.sl
 sz:=K.sz
 df:=K.df
 fr:=K.fr.relab h1 h2 h3
 io:=K.io
def reO (O:Nat→Lab) (l:Nat) (i:Nat):Nat→Lab:=λ k=>match O k with
 |.pl l' p=>if l'=l then .tm i p else .pl l' p
 |o=>o
def Fb {O:Nat→Lab} {l k:Nat} {i:Nat} (h:∀ p,O k ≠ .pl l p):reO O l i k=O k:=by
 unfold reO
 cases hk:O k<;>simp
 rename_i l' p;intro e;subst e;exact absurd hk (h p)
def E6a {O:Nat→Lab} {l k:Nat} {i:Nat} {p:List Nat} (h:O k = .pl l p):reO O l i k = .tm i p:=by
 unfold reO;rw[h];simp
def Hz (S:Sit) (l:Nat) (i:Nat):Sit := { S with O:=reO S.O l i,g:=upd S.g l ((S.g l).1+1,.one .dead) }
def Hp (S:Sit) (l:Nat) (i:Nat):Ct S (Hz S l i) where
 ver:=λ p=>by
  by_cases h:p=l
  ·subst h;simp[Hz]
  ·simp[Hz,Aa _ _ h]
 ph:=λ _ _=>rfl
 own:=λ p v e r xs' h hv=>by
  by_cases hp:p=l
  ·subst hp;simp[Hz]at h
  ·simp only[Hz,Aa _ _ hp]at h;exact⟨xs',h,rfl⟩
 bb:=λ _ _=>rfl
 fz:=λ k h=>⟨(Fb (by simp[h])).trans h,rfl⟩
 box:=Ct.box_of (λ b n hv hh=>by
  have hb:H b≠l:=λ e=>by subst e;simp[Hz]at hv
  exact(congrArg Prod.snd (Aa _ _ hb)).trans hh) (λ k b h=>⟨(Fb (by simp[h])).trans h,rfl⟩)
 bor:=λ p hv hd=>by
  have hp:p≠l:=λ e=>by subst e;simp[Hz]at hv
  have hg:(Hz S l i).g p=S.g p:=Aa _ _ hp;rw[hg];exact⟨hd,λ _ _ _ h=>h,λ k hk=>⟨.inl ((Fb (by simp[hk,hp])).trans hk),rfl⟩⟩
 io:=λ _ _=>rfl
def Im (K:Ah X S a) (l:Nat) (i:Nat):
  Ah X (Hz S l i) a∧(∀ p x u,Af X.P S (.pl l p) x u→Af X.P (Hz S l i) (.tm i p) x u)∧(∀ n q x u,Af X.P S (.tm n q) x u→Af X.P (Hz S l i) (.tm n q) x u):=by
 have L:=Hp S l i;refine⟨?_,λ p x u h=>h.later L (λ k hk=>⟨E6a hk,rfl⟩),λ n q x u h=>h.later L (λ k hk=>⟨(Fb (by simp[hk])).trans hk,rfl⟩)⟩;refine K.ghost _ _ (λ k h=>(Fb (by simp[h])).trans h) (λ k h=>?_) (λ k h=>(Fb (by simp[h])).trans h) (λ k b h=>(Fb (by simp[h])).trans h) (λ b n h=>?_) (λ l'=>?_)
 ·intro e;exact h ((Fb (by simp[e])).trans e)
 ·by_cases hb:H b=l
  ·subst hb;simp at h
  ·rwa [Aa _ _ hb]at h
 ·by_cases hl:l'=l
  ·subst hl;show Gi X.P _ l' (upd S.g l' _ l').2 _;simp only[A9];trivial
  ·show Gi X.P _ l' (upd S.g l _ l').2 _;rw[Aa _ _ hl];exact(K.at_ l').later L (λ p k hk=>⟨(Fb (by simp[hk,hl])).trans hk,rfl⟩)
def frS (S:Sit) (p:Nat) (e:TypeId) (r:Ty) (xs:List r.den):Sit:=
 { S with O:=λ k=>if S.O k = .pl p [] then .fz else S.O k,g:=upd S.g p ((S.g p).1,.one (.fz e r xs)) }
def Tw (S:Sit) (p:Nat) (e:TypeId) (r:Ty) (xs:List r.den) (hpo:(S.g p).2 = .one (.own e r xs)):Ct S (frS S p e r xs) where
 ver:=λ q=>by
  by_cases h:q=p
  ·subst h;simp[frS]
  ·simp[frS,Aa _ _ h]
 ph:=λ _ _=>rfl
 own:=λ q v e' r' xs' h hv=>by
  by_cases hp:q=p
  ·subst hp;simp[frS]at h
  ·simp only[frS,Aa _ _ hp]at h;exact⟨xs',h,rfl⟩
 bb:=λ _ _=>rfl
 fz:=λ k h=>⟨by simp[frS,h],rfl⟩
 box:=Ct.box_of (λ b n hv hh=>by
  have hb:H b≠p:=λ e=>by subst e;rw[hpo]at hh;cases hh
  exact(congrArg Prod.snd (Aa _ _ hb)).trans hh) (λ k b h=>⟨by simp[frS,h],rfl⟩)
 bor:=λ q hv hd=>by
  by_cases hq:q=p
  ·subst hq;have hg:(frS S q e r xs).g q=((S.g q).1,.one (.fz e r xs)):=A9 _ _ _;rw[hg];rw[hpo]at hd;refine⟨hd,λ E R XS h=>by simp at h,λ k hk=>⟨.inr ?_,rfl⟩⟩;show (if S.O k = .pl q [] then Lab.fz else S.O k) = .fz;rw[if_pos hk]
  ·have hg:(frS S p e r xs).g q=S.g q:=Aa _ _ hq;rw[hg];refine⟨hd,λ _ _ _ h=>h,λ k hk=>⟨.inl ?_,rfl⟩⟩;show (if S.O k = .pl p [] then Lab.fz else S.O k)=_;rw[if_neg (by rw[hk];simp[hq]),hk]
 io:=λ _ _=>rfl
def Ph (K:Ah X S a) {p:Nat} {e:TypeId} {r:Ty} {xs:List r.den} (hp:(S.g p).2 = .one (.own e r xs)):
  Ah X (frS S p e r xs) a∧(∀ n q x u,Af X.P S (.tm n q) x u→Af X.P (frS S p e r xs) (.tm n q) x u)∧Af X.P (frS S p e r xs) .no (.fz e r xs) (S.ph p):=by
 have L:=Tw S p e r xs hp
 have hown:Cs X.P S.O S.w (.pl p []) e r xs (S.ph p):=by have:=K.at_ p;rw[hp]at this;exact this
 have other:∀ k o,S.O k=o→o ≠ .pl p []→(frS S p e r xs).O k=o:=λ k o h ho=>by
  show (if S.O k = .pl p [] then Lab.fz else S.O k)=o;rw[if_neg (by rw[h];exact ho),h]
 have hnew:Af X.P (frS S p e r xs) .no (.fz e r xs) (S.ph p):=hown.reads (O':=(frS S p e r xs).O) (λ k h=>(L.fz k h).1) (λ k h=>by show (if S.O k = .pl p [] then Lab.fz else S.O k)=_;rw[if_pos h])
 refine⟨K.ghost _ _ (λ k h=>other k _ h (by simp)) (λ k h e'=>h (other k _ e' (by simp))) (λ k h=>(L.fz k h).1) (λ k b h=>other k _ h (by simp)) (λ b n h=>?_) (λ l=>?_),
  λ n q x u h=>h.later L (λ k hk=>⟨other k _ hk (by simp),rfl⟩),hnew⟩
 ·by_cases hbp:H b=p
  ·subst hbp;simp at h
  ·rwa [Aa _ _ hbp]at h
 ·by_cases hl:l=p
  ·subst hl;show Gi X.P _ l (upd S.g l _ l).2 _;rw[A9];exact Af.relab (lab' := .pl l []) rfl hnew
  ·show Gi X.P _ l (upd S.g p _ l).2 _;rw[Aa _ _ hl];exact(K.at_ l).later L (λ q k hk=>⟨other k _ hk (by simp[hl]),rfl⟩)
def atO (O:Nat→Lab) (h:Nat→List Nat→Option Lab):Nat→Lab:=λ k=>match O k with
 |.tm n q=>(match h n q with
  |some p=>p
  |none => .tm n q)
 |o=>o
def Am {O:Nat→Lab} {h:Nat→List Nat→Option Lab} {k:Nat} {o:Lab} (e:O k=o) (ho:∀ n q,o ≠ .tm n q):atO O h k=o:=by
 unfold atO;rw[e];cases o<;>first|rfl|(exact absurd rfl (ho _ _))
def G6 {O:Nat→Lab} {h:Nat→List Nat→Option Lab} {k n:Nat} {q:List Nat} {p:Lab} (e:O k = .tm n q) (hn:h n q=some p):atO O h k=p:=by
 unfold atO;rw[e];simp[hn]
def I6 {O:Nat→Lab} {h:Nat→List Nat→Option Lab} {k n:Nat} {q:List Nat} (e:O k = .tm n q) (hn:h n q=none):atO O h k = .tm n q:=by
 unfold atO;rw[e];simp[hn]
def Hq (S:Sit) (h:Nat→List Nat→Option Lab) (d:Nat) (s:Sv) (v:Value):Sit:=
 { S with O:=atO S.O h,g:=upd S.g d ((S.g d).1+1,s),ph:=upd S.ph d v }
def Dy (S:Sit) (h:Nat→List Nat→Option Lab) (d:Nat) (hd0:d<3001000) (s:Sv) (v:Value):Ct S (Hq S h d s v) where
 ver:=λ p=>by
  by_cases hp:p=d
  ·subst hp;simp[Hq]
  ·simp[Hq,Aa _ _ hp]
 ph:=λ p e=>by
  by_cases hp:p=d
  ·subst hp;simp[Hq]at e
  ·simp[Hq,Aa _ _ hp]
 own:=λ p v' e r xs' hh hv=>by
  by_cases hp:p=d
  ·subst hp;simp only[Hq,A9,Vu]at hh;omega
  ·simp only[Hq,Aa _ _ hp]at hh;exact⟨xs',hh,rfl⟩
 bb:=λ _ _=>rfl
 fz:=λ k hk=>⟨Am hk (by simp),rfl⟩
 box:=Ct.box_of (λ b n hv hh=>by
  have hb:H b≠d:=λ e=>by subst e;simp[Hq]at hv
  exact(congrArg Prod.snd (Aa _ _ hb)).trans hh) (λ k b h=>⟨Am h (by simp),rfl⟩)
 bor:=λ p hv hd=>by
  have hp:p≠d:=λ e=>by subst e;simp[Hq]at hv
  have hg:(Hq S h d s v).g p=S.g p:=Aa _ _ hp;rw[hg];exact⟨hd,λ _ _ _ h=>h,λ k hk=>⟨.inl (Am hk (by simp)),rfl⟩⟩
 io:=λ p hp=>Aa _ _ (by omega)
def Ah.lt0 (K:Ah X S a) {d:Nat} (hd:d<X.nt):d<3001000:=by have:=K.nt;omega
def Ah.put (K:Ah X S a) {d:Nat} (hd:d<X.nt) (h:Nat→List Nat→Option Lab) (hh:∀ n q p,h n q=some p→∃ p',p = .pl d p') (s:Sv) (v:Value) (hs:Gi X.P (Hq S h d s v) d s v):
  Ah X (Hq S h d s v) (a.put (some d) v):=by
 have hd1:d<1000:=Wm hd K.nt;have L:=Dy S h d (by omega) s v;have keepO:∀ k o,S.O k=o→(∀ n q,o ≠ .tm n q)→(Hq S h d s v).O k=o:=λ k o e ho=>Am e ho
 refine⟨K.nt,λ k hk=>K.lt k (λ e=>hk (keepO k _ e (by simp))),λ l=>?_,λ b n hb=>?_,λ b n hb=>?_,λ t ht=>?_,?_,K.df,K.fr.relab (λ k e=>keepO k _ e (by simp)) (λ k e=>keepO k _ e (by simp)) (λ k b e=>keepO k _ e (by simp)),λ p hp=>by
  show upd S.ph d v p=_;rw[Aa _ _ (by omega)]
  exact K.io p hp⟩
 ·by_cases hl:l=d
  ·subst hl;show Gi X.P _ l (upd S.g l _ l).2 (upd S.ph l _ l);rw[A9,A9];exact hs
  ·show Gi X.P _ l (upd S.g d _ l).2 (upd S.ph d _ l);rw[Aa _ _ hl,Aa _ _ hl];exact(K.at_ l).later L (λ p k e=>⟨keepO k _ e (by simp),rfl⟩)
 ·have hne:H b≠d:=λ e=>by have:=Nsa b;omega
  have hb':(S.g (H b)).2 = .one (.hd n):=by
   have:(upd S.g d ((S.g d).1+1,s) (H b)).2 = .one (.hd n):=hb;rwa [Aa _ _ hne]at this
  obtain⟨hn,c,e,e1,e2,e3,e4⟩:=K.box b n hb';refine⟨hn,c,e,e1,keepO _ _ e2 (by simp),e3,λ j hj=>?_⟩;show c[(S.bb b).2+j]? = some (upd S.ph d v (C b j));rw[Aa _ _ (λ e=>by have:=Qua b j;omega)];exact e4 j hj
 ·have hne:H b≠d:=λ e=>by have:=Nsa b;omega
  have hb':(S.g (H b)).2 = .one (.hd n):=by
   have:(upd S.g d ((S.g d).1+1,s) (H b)).2 = .one (.hd n):=hb;rwa [Aa _ _ hne]at this
  exact K.rgn b n hb'
 ·show (a.put (some d) v).tmps.getD t undef=upd S.ph d v t
  by_cases htd:t=d
  ·subst htd;rw[A9];simp[Act.put,K.sz,hd]
  ·rw[Aa _ _ htd,← K.sl t ht];simp[Act.put,Wk,Rha (λ e=>htd e.symm)]
 ·show (a.put (some d) v).tmps.size=X.nt;simp[Act.put,K.sz]
def Ah.put0 (K:Ah X S a) {d:Nat} (hd:d<X.nt) (s:Sv) (v:Value) (l:Nat) (ho:Ix s=false) (hs:Gi X.P S l s v):
  Ah X (Hq S (λ _ _=>none) d s v) (a.put (some d) v):=
 K.put hd _ (by simp) s v ((hs.relab (l':=d) ho).imp (l':=d) (λ p _ _ h=>h.later (lab' := .pl d p) (Dy S _ d (by have:=K.nt;omega) s v) (λ k hk=>⟨Am (h:=λ _ _=>none) (o := .pl d p) hk (by simp),rfl⟩)))
end

def Dk:Ty→List Value
 |.i k=>[.int k 0]
 |.b=>[.bool false]
 |.s=>[.string ⟨#[]⟩]
 |.sl _ _=>[.slice none 0 0]
 |.ow _ _=>[.slice none 0 0]
 |.pr x y=>Dk x++Dk y
def Na:List Value→Ty→Option (List Value)
 |.int k 0::l,.i k'=>if k=k' then some l else none
 |.bool false::l,.b=>some l
 |.string s::l,.s=>match s.data.toList with
  |[]=>some l
  |_=>none
 |.slice none 0 0::l,.sl _ _=>some l
 |.slice none 0 0::l,.ow _ _=>some l
 |l,.pr x y=>match Na l x with
  |some l'=>Na l' y
  |none=>none
 |_,_=>none
def Aca:∀ (t:Ty) (l l':List Value),Na l t=some l'→l=Dk t++l':=by
 intro t
 induction t with
 |i k=>
  intro l l' h;unfold Na at h
  split at h<;>first|(cases h;done)|skip
  all_goals simp_all [Dk]
 |b=>intro l l' h;unfold Na at h;split at h<;>simp_all [Dk]
 |s=>
  intro l l' h;unfold Na at h
  split at h<;>first|(cases h;done)|skip
  all_goals first|(simp_all [Dk];done)|skip
  rename_i s1 l1 _;split at h
  ·rename_i hs;simp at h;subst h
   have:s1=⟨#[]⟩:=by
    cases s1 with
    |mk d=>simp at hs;subst hs;rfl
   subst this;rfl
  ·cases h
 |sl e r _=>intro l l' h;unfold Na at h;split at h<;>simp_all [Dk]
 |ow e r _=>intro l l' h;unfold Na at h;split at h<;>simp_all [Dk]
 |pr x y ihx ihy=>
  intro l l' h
  have h':(match Na l x with|some l'=>Na l' y|none=>none)=some l':=by
   unfold Na at h
   split at h<;>first|exact h|(cases h;done)|simp_all
  split at h'
  ·rename_i l1 h1;rw[ihx _ _ h1,ihy _ _ h',Dk,Vj]
  ·cases h'
def szB (P:Program):Ty→Bool
 |.sl e r=>((P.info? e).map (λ i=>i.size)==some r.sz)&&szB P r
 |.ow e r=>((P.info? e).map (λ i=>i.size)==some r.sz)&&szB P r
 |.pr x y=>szB P x&&szB P y
 |_=>true
def Tx:Option TypeDesc→Bool
 |some (.struct _)=>true
 |some (.array _ _)=>true
 |_=>false
def I1 (P:Program):List Field→List (Nat×Nat×Bool)→Bool
 |[],[]=>true
 |f::fs,o::os=>Nat.beq f.offset o.1&&((P.info? f.type).map (λ i=>i.size)==some o.2.1)&&Nat.blt 0 o.2.1&&(Tx (P.underlying f.type)==o.2.2)&&(P.underlying f.type).isSome&&I1 P fs os
 |_,_=>false
def Nta (P:Program) (e:TypeId):Ty→Bool
 |.i k=>(match P.underlying e with|some (.int k')=>decide (k=k')|_=>false)
 |_=>true
def Nb (P:Program):Option TypeDesc→TI→Bool
 |some (.struct fs),⟨_,true,_,fo⟩=>I1 P fs.toList fo
 |some (.int k),⟨.i k',false,_,_⟩=>decide (k=k')
 |some .bool,⟨.b,false,_,_⟩=>true
 |some .string,⟨.s,false,_,_⟩=>true
 |some (.slice e),⟨.sl e' r,false,_,_⟩=>Nat.beq e e'&&Nta P e r
 |_,_=>false
def Pna (P:Program) (T:TypeId) (t:TI):Bool:=
 (match P.info? T with
 |some i=>Nat.beq i.size t.ty.sz&&Nat.beq i.bytes t.by_&&Nat.blt 0 t.by_&&(match i.zero with
  |some (.agg cs)=>t.ag&&(match Na cs.toList t.ty with|some []=>true|_=>false)
  |some v => !t.ag&&(match Na [v] t.ty with|some []=>true|_=>false)
  |none=>false)
 |none=>false)&&Nb P (P.underlying T) t&&szB P t.ty
structure TOk (P:Program) (T:TypeId) (t:TI):Prop where
 info:∃ i,P.info? T=some i∧i.size=t.ty.sz∧i.bytes=t.by_∧i.zero=some (if t.ag then .agg (Dk t.ty).toArray else (Dk t.ty).headD undef)∧(t.ag=false→Dk t.ty=[(Dk t.ty).headD undef])
 by0:0<t.by_
 desc:Nb P (P.underlying T) t=true
 sz:szB P t.ty=true
def Nua (P:Program) (T:TypeId) (t:TI) (h:Pna P T t=true):TOk P T t:=by
 unfold Pna at h;simp only[Va]at h;obtain⟨⟨h1,h2⟩,h3⟩:=h;split at h1
 ·rename_i i hi;simp only[Va]at h1;obtain⟨⟨⟨e1,e2⟩,e3⟩,h4⟩:=h1;refine⟨⟨i,hi,by simpa using e1,by simpa using e2,?_⟩,by simp[Nat.blt]at e3;omega,h2,h3⟩;split at h4
  ·rename_i cs hz;simp only[Va]at h4;obtain⟨ha,hb⟩:=h4;split at hb
   ·rename_i hb';have:=Aca _ _ _ hb';rw[Yf]at this;refine⟨?_,by simp[ha]⟩;rw[hz,ha,← this];simp
   ·cases hb
  ·rename_i v _ hz;simp only[Va,Wi]at h4;obtain⟨ha,hb⟩:=h4;split at hb
   ·rename_i hb';have:=Aca _ _ _ hb';rw[Yf]at this;refine⟨?_,by rw[← this];simp⟩;rw[hz,ha,← this];simp
   ·cases hb
  ·cases h4
 ·cases h1
def S4 {P:Program} {O:Nat→Lab} {w:World} {lab:Lab} {e:TypeId} {r':Ty} (h:Pd P e r'.sz):Cs P O w lab e r' [] (.slice none 0 0):=
 ⟨[],⟨_,[],[],rfl,h,World.ownsRow_nil _ _ _ _,⟨rfl,rfl⟩,rfl⟩,by simp,by simp⟩
structure Gx (X:Cx) (E:En):Prop where
 nt:E.nt=X.nt
 np:E.np=X.np
 ti:∀ T t,E.ti T=some t→TOk X.P T t
 eq:∀ T,E.eq T=true→∀ (G:Nat→Prop) (w w':World) (x y:Operand) (l l':List Lf) (us vs:List Value) (b:Bool),Hw (Ha X.P G w) l us→Hw (Ha X.P G w) l' vs→C9 l l'=some b→K6 l=true→K6 l'=true→Jc (E.ti T) l=true→Jc (E.ti T) l'=true→
  (Op.equal T (.agg us.toArray) (.agg vs.toArray)).run X.P w' = .ok b w'∧(eqGuard .eql T x y (.agg us.toArray) (.agg vs.toArray)).run X.P w' = .ok () w'∧(eqGuard .neq T x y (.agg us.toArray) (.agg vs.toArray)).run X.P w' = .ok () w'
def E7a (X:Cx) (o:Oper) (a:Act) (w:World) (A':Ab):Prop:=
 ∀ (next:Act→World→Prop) (Q:Exit→Act→World→Prop),(∀ S' a',Ah X S' a'→S'.g=get A'→next a' S'.w)→o.wp X.P a w next Q
section
variable {X:Cx} {S:Sit} {a:Act} {E:En} {A:Ab} {o:Oper}
def Ac {A':Ab} {v:Value} {w:World} (hr:(execOp a.eval o).run X.P w = .ok (.value v) S.w) (K:Ah X S (a.put o.dst v)) (hg:S.g=get A'):E7a X o a w A':=by
 intro next Q hn;unfold Oper.wp;rw[hr,Oper.upon_value];exact hn S _ K hg
def E8a {A':Ab} {w:World} (hr:(execOp a.eval o).run X.P w = .ok .skip S.w) (K:Ah X S (a.put o.dst undef)) (hg:S.g=get A'):E7a X o a w A':=by
 intro next Q hn;unfold Oper.wp;rw[hr,Oper.upon_skip];exact hn S _ K hg
def I5 (hE:Gx X E) (K:Ah X S a) (hg:S.g=get A) {T:TypeId} {x:Operand} {s:Sv} (h:opT E T A x=some s):
  (∃ t,x = .tmp t∧t<X.nt∧s=(S.g t).2∧a.eval x=S.ph t∧Gi X.P S t s (a.eval x))∨
  ((∀ t,x ≠ .tmp t)∧∃ y,s = .one y∧∀ lab,Af X.P S lab y (a.eval x)):=by
 unfold opT at h;split at h
 ·rename_i t;cases hb:Nat.blt t E.nt
  ·simp[hb]at h
  simp[hb]at h;have ht:t<X.nt:=hE.nt ▸ (Ve hb:t+1≤E.nt);have e:a.eval (.tmp t)=S.ph t:=K.sl t ht;refine .inl ⟨t,rfl,ht,by rw[hg];exact h.symm,e,?_⟩;rw[e,← h,← hg];exact K.at_ t
 ·refine .inr ⟨by simp,?_⟩;split at h
  ·rename_i e r by_ fo hT;simp at h;refine⟨_,h.symm,λ lab=>?_⟩;have:=(hE.ti _ _ hT).sz;simp only[szB,Va,beq_iff_eq]at this;exact S4 this.1
  ·cases h
 ·rename_i v _;refine .inr ⟨by simp,?_⟩;cases hs:X5 v
  ·simp[hs]at h
  simp[hs]at h;exact⟨_,h.symm,λ lab=>⟨rfl,hs⟩⟩
 ·rename_i f;refine .inr ⟨by simp,?_⟩;simp at h;exact⟨_,h.symm,λ lab=>⟨rfl,rfl⟩⟩
 ·cases h
def Io (hE:Gx X E) (K:Ah X S a) (hg:S.g=get A) {T:TypeId} {x:Operand} {v:Value} (h:opT E T A x=some (.one (.sc v))):a.eval x=v∧X5 v=true:=by
 rcases I5 hE K hg h with⟨t,_,_,_,_,hs⟩|⟨_,y,e,hy⟩
 ·exact hs
 ·cases e;exact hy .no
def Nva (K:Ah X S a) {d:Nat} (hd:d<X.nt) (hg:S.g=get A) (v:Value) (hv:X5 v=true):
  ∃ S',Ah X S' (a.put (some d) v)∧S'.g=get (ups A [⟨d,false,.one (.sc v)⟩])∧S'.w=S.w:=by
 refine⟨_,K.put0 hd (.one (.sc v)) v 0 rfl ⟨rfl,hv⟩,?_,rfl⟩;show upd S.g d _=_;rw[show ups A [⟨d,false,.one (.sc v)⟩]=up A ⟨d,false,.one (.sc v)⟩ from rfl,Il,hg];rfl
def Lga (K:Ah X S a) (hg:S.g=get A) {d:Nat} (hd:d<X.nt) (ho:o.dst=some d) {v:Value} (hv:X5 v=true) (hr:(execOp a.eval o).run X.P S.w = .ok (.value v) S.w):
  E7a X o a S.w (ups A [⟨d,false,.one (.sc v)⟩]):=by
 obtain⟨S',K',hg',hw⟩:=Nva K hd hg v hv;exact Ac (S:=S') (by rw[hw];exact hr) (by rw[ho];exact K') hg'
def E9a {op:BinOp} {T:TypeId} {k:IntKind} {x y:Int} {R:Type} {Kc:Value→Option R} {r:R} (h:Nz op k x y Kc=some r) (hne:op ≠ .shl∧op ≠ .shr) (P:Program) (w:World):
  ∃ v,Kc v=some r∧X5 v=true∧(binOp op T (.int k x) (.int k y)).run P w = .ok v w:=by
 unfold Nz at h;split at h
 case h_4=>
  by_cases hy:y=0
  ·simp[hy]at h
  ·simp[hy]at h;exact⟨_,h,rfl,by simp[binOp,Op.intDiv,hy]⟩
 case h_5=>
  by_cases hy:y=0
  ·simp[hy]at h
  ·simp[hy]at h;exact⟨_,h,rfl,by simp[binOp,Op.intDiv,hy]⟩
 all_goals first|(cases h;done)|exact⟨_,h,rfl,by simp[binOp,Op.intArith,Op.intBits,Op.intCmp]⟩
end

section
variable {X:Cx} {S:Sit} {a:Act} {E:En} {A:Ab} {o:Oper} {R:Type} {Kc:List Up→Option R} {r:R}
def Xf (op:BinOp) (T:TypeId) (x y:Operand) (k k':IntKind) (p q:Int) (P:Program) (w:World):(eqGuard op T x y (.int k p) (.int k' q)).run P w = .ok () w:=by
 cases op<;>simp[eqGuard]
def Xg (op:BinOp) (T:TypeId) (x y:Operand) (p q:ByteArray) (P:Program) (w:World):(eqGuard op T x y (.string p) (.string q)).run P w = .ok () w:=by
 cases op<;>simp[eqGuard]
def Tz (op:BinOp) (T:TypeId) (x y:Operand) (p q:Bool) (P:Program) (w:World):(eqGuard op T x y (.bool p) (.bool q)).run P w = .ok () w:=by
 cases op<;>simp[eqGuard]
def Kd {op:BinOp} {T T':TypeId} {x y:Operand} {v1 v2 v:Value} {P:Program} {w:World} (ho:o.op = .binOp op T x y T') (e1:a.eval x=v1) (e2:a.eval y=v2)
  (hq:(eqGuard op T x y v1 v2).run P w = .ok () w) (hv:(binOp op T v1 v2).run P w = .ok v w):(execOp a.eval o).run P w = .ok (.value v) w:=by
 unfold execOp;simp only[ho,e1,e2,Vx,hq,Vw,hv,Wn]
def U0 {P:Program} {T:TypeId} {by_:Nat} {fo:List (Nat×Nat×Bool)} (h:TOk P T ⟨.b,false,by_,fo⟩):P.underlying T=some .bool:=by
 have:=h.desc;unfold Nb at this
 split at this<;>simp_all
def Ke {G:Nat→Prop} {w:World}:∀ {l:List Lf} {f:Nat→Lab} {j:Nat} {us:List Value},K6 l=true→A5 X.P S f j l us→Hw (Ha X.P G w) l us
 |[],_,_,[],_,_ => .nil
 |[],_,_,_::_,_,h=>h.elim
 |_::_,_,_,[],_,h=>h.elim
 |y::ys,f,j,u::us,h,hl=>by
  cases y<;>first|(simp[K6]at h;done)|exact .cons hl.1 (Ke (by simpa[K6] using h) hl.2)
def Jw {P:Program} {T:TypeId} (h:P.underlying T=some .bool) (d:Nat) (p q:Bool) (w:World):(Op.equalIn (d+1) T (.bool p) (.bool q)).run P w = .ok (p==q) w:=by
 simp[Op.equalIn,underlying,h]
def U1 {P:Program} {T:TypeId} (h:P.underlying T=some .bool) (p q:Bool) (w:World):(binOp .eql T (.bool p) (.bool q)).run P w = .ok (.bool (p==q)) w:=by
 have:=Jw h 9999 p q w;unfold binOp;rw[Vx];show ((Op.equalIn (9999+1) T (.bool p) (.bool q)).run P w).andThen _=_;rw[this];rfl
def U3 {P:Program} {T:TypeId} (h:P.underlying T=some .bool) (p q:Bool) (w:World):(binOp .neq T (.bool p) (.bool q)).run P w = .ok (.bool (!(p==q))) w:=by
 have:=Jw h 9999 p q w;unfold binOp;rw[Vx];show ((Op.equalIn (9999+1) T (.bool p) (.bool q)).run P w).andThen _=_;rw[this];rfl
def Nwa (hE:Gx X E) {op:BinOp} {T T':TypeId} {x y:Operand} {s s':Sv} {r:R} {Kv:Value→Option R} (h:bop op (E.ti T) (E.eq T) s s' Kv=some r)
  (hx:∃ l',Gi X.P S l' s (a.eval x)) (hy:∃ l',Gi X.P S l' s' (a.eval y)) (ho:o.op = .binOp op T x y T'):
  ∃ v,Kv v=some r∧X5 v=true∧(execOp a.eval o).run X.P S.w = .ok (.value v) S.w:=by
 obtain⟨lx,hx⟩:=hx;obtain⟨ly,hy⟩:=hy;unfold bop at h;split at h
 ·rename_i k p k' q;have e1:a.eval x = .int k p:=hx.1;have e2:a.eval y = .int k' q:=hy.1;have go:∀ v,(binOp op T (.int k p) (.int k' q)).run X.P S.w = .ok v S.w→(execOp a.eval o).run X.P S.w = .ok (.value v) S.w:=λ v hv=>Kd ho e1 e2 (Xf ..) hv;split at h
  ·by_cases hq:q<0
   ·simp[hq]at h
   ·simp[hq]at h;exact⟨_,h,rfl,go _ (by simp[binOp,Op.shift,hq])⟩
  ·by_cases hq:q<0
   ·simp[hq]at h
   ·simp[hq]at h;exact⟨_,h,rfl,go _ (by simp[binOp,Op.shift,hq])⟩
  ·rename_i n1 n2
   by_cases hk:k=k'
   ·subst hk;simp at h;obtain⟨v,h1,h2,h3⟩:=E9a (T:=T) h ⟨n1,n2⟩ X.P S.w;exact⟨v,h1,h2,go _ h3⟩
   ·simp[hk]at h
 ·rename_i p q;have e1:a.eval x = .string p:=hx.1;have e2:a.eval y = .string q:=hy.1;have go:∀ v,(binOp op T (.string p) (.string q)).run X.P S.w = .ok v S.w→(execOp a.eval o).run X.P S.w = .ok (.value v) S.w:=λ v hv=>Kd ho e1 e2 (Xg ..) hv;unfold Qw at h;split at h
  case h_1=>
   cases hb:Nat.ble (p.size+q.size) 9223372036854775807
   ·simp[hb]at h
   simp only[hb,cond_true]at h;refine⟨_,h,rfl,go _ ?_⟩;have hb':=Ve hb
   have hb2:¬ (((p.size+q.size:Nat):Int) > IntKind.i64.max):=by
    have:IntKind.i64.max=9223372036854775807:=by decide
    omega
   simp only[binOp,Op.stringOp,if_neg hb2,Wn]
  all_goals first|(cases h;done)|exact⟨_,h,rfl,go _ (by simp[binOp,Op.stringOp])⟩
 ·rename_i p q;have e1:a.eval x = .bool p:=hx.1;have e2:a.eval y = .bool q:=hy.1;have go:∀ v,(binOp op T (.bool p) (.bool q)).run X.P S.w = .ok v S.w→(execOp a.eval o).run X.P S.w = .ok (.value v) S.w:=λ v hv=>Kd ho e1 e2 (Tz ..) hv;split at h
  ·rename_i hT;have hu:=U0 (hE.ti _ _ hT);exact⟨_,h,rfl,go _ (U1 hu ..)⟩
  ·rename_i hT;have hu:=U0 (hE.ti _ _ hT);exact⟨_,h,rfl,go _ (U3 hu ..)⟩
  ·cases h
 ·rename_i l l';cases hq:(E.eq T&&K6 l&&K6 l'&&(Jc (E.ti T) l&&Jc (E.ti T) l'))
  ·simp[hq]at h
  simp only[hq,cond_true]at h;simp only[Va]at hq;obtain⟨⟨⟨he,ha⟩,ha'⟩,hk,hk'⟩:=hq;obtain⟨us,e1,h1⟩:=hx;obtain⟨vs,e2,h2⟩:=hy;split at h
  ·split at h
   ·rename_i b hb;obtain⟨h3,h4,h5⟩:=hE.eq T he (λ _=>True) S.w S.w x y l l' us vs b (Ke ha h1) (Ke ha' h2) hb ha ha' hk hk';exact⟨_,h,rfl,Kd ho e1 e2 h4 (by unfold binOp;rw[Vx,h3];rfl)⟩
   ·cases h
  ·split at h
   ·rename_i b hb;obtain⟨h3,h4,h5⟩:=hE.eq T he (λ _=>True) S.w S.w x y l l' us vs b (Ke ha h1) (Ke ha' h2) hb ha ha' hk hk';exact⟨_,h,rfl,Kd ho e1 e2 h5 (by unfold binOp;rw[Vx,h3];rfl)⟩
   ·cases h
  ·cases h
 ·cases h
end

section
variable {X:Cx} {S:Sit} {a:Act} {E:En} {A:Ab} {o:Oper} {R:Type} {Kc:List Up→Option R} {r:R}
def Fw (X:Cx) (o:Oper) (a:Act) (w:World) (A:Ab) (Kc:List Up→Option R) (r:R):Prop:=∃ U,Kc U=some r∧E7a X o a w (ups A U)
def Ae (A:Ab):∀ (U V:List Up),ups A (U++V)=ups (ups A U) V
 |[],_=>rfl
 |u::U,V=>Ae (up A u) U V
def A8 (A:Ab) (l:Nat) (s:Sv):get (ups A [⟨l,false,s⟩])=upd (get A) l ((get A l).1+1,s):=Il A ⟨l,false,s⟩
def Eaa (hE:Gx X E) (K:Ah X S a) (hg:S.g=get A) {T:TypeId} {x:Operand} {s:Sv} (hx:opT E T A x=some s) {d:Nat} (hd:d<X.nt):
  ∃ S',Ah X S' (a.put (some d) (a.eval x))∧S'.g=get (ups A (gone x s++[⟨d,false,s⟩]))∧S'.w=S.w:=by
 have noOwn:∀ l,Ix s=false→Gi X.P S l s (a.eval x)→∃ S',Ah X S' (a.put (some d) (a.eval x))∧S'.g=get (ups A (gone x s++[⟨d,false,s⟩]))∧S'.w=S.w:=by
  intro l ho hs;refine⟨_,K.put0 hd s _ l ho hs,?_,rfl⟩
  have hgo:gone x s=[]:=by
   unfold gone;split
   ·rw[ho];rfl
   ·rfl
  rw[hgo,Wc,A8,← hg];rfl
 rcases I5 hE K hg hx with⟨t,rfl,ht,hs,he,hok⟩|⟨hnt,y,rfl,hy⟩
 ·cases ho:Ix s
  ·exact noOwn t ho hok
  obtain⟨K1,h1,_⟩:=Im K t 0
  have hgo:gone (.tmp t) s=[⟨t,false,.one .dead⟩]:=by simp[gone,ho]
  let h:Nat→List Nat→Option Lab:=λ n q=>if n=0 then some (.pl d q) else none
  have L:=Dy (Hz S t 0) h d (K.lt0 hd) s (a.eval (.tmp t))
  have hso:Gi X.P (Hq (Hz S t 0) h d s (a.eval (.tmp t))) d s (a.eval (.tmp t)):=by
   refine Gi.imp (S:=S) (l:=t) (λ p x u hx=>?_) hok;exact(h1 p x u hx).later L (λ k hk=>⟨G6 hk (by simp[h]),rfl⟩)
  refine⟨_,K1.put hd h (by intro n q p hp;simp only[h]at hp;split at hp<;>first|(cases hp;exact⟨q,rfl⟩)|cases hp) s _ hso,?_,rfl⟩
  rw[hgo];show upd (Hz S t 0).g d _=_;rw[Yb,show ups A [⟨t,false,.one .dead⟩,⟨d,false,s⟩]=ups (ups A [⟨t,false,.one .dead⟩]) [⟨d,false,s⟩] from rfl,A8,A8,← hg];rfl
 ·cases ho:Ix (.one y)
  ·exact noOwn 0 ho (hy _)
  have hgo:gone x (.one y)=[]:=by
   unfold gone;split
   ·exact absurd rfl (hnt _)
   ·rfl
  refine⟨_,K.put hd (λ _ _=>none) (by simp) (.one y) _ ?_,?_,rfl⟩
  ·exact(hy (.pl d [])).later (Dy S (λ _ _=>none) d (K.lt0 hd) (.one y) _) (λ k hk=>⟨Am (h:=λ _ _=>none) (o := .pl d []) hk (by simp),rfl⟩)
  ·rw[hgo,Wc,A8,← hg];rfl
def Jg {x:Operand} {P:Program} {w:World} (ho:o.op = .move x∨o.op = .assign x):(execOp a.eval o).run P w = .ok (.value (a.eval x)) w:=by
 unfold execOp
 rcases ho with ho|ho<;>simp[ho]
def Kha (K:Ah X S a) (hg:S.g=get A) {t d:Nat} (hd:d<X.nt):
  ∃ S',Ah X S' (a.put (some d) (S.ph t))∧S'.g=get (ups A [⟨d,false,.one (.al t (get A t).1)⟩])∧S'.w=S.w:=by
 refine⟨_,K.put0 hd (.one (.al t (get A t).1)) (S.ph t) 0 rfl ⟨by rw[hg];exact Vq _,λ _=>rfl⟩,?_,rfl⟩;rw[A8,← hg];rfl
def Lha (hE:Gx X E) (K:Ah X S a) (hg:S.g=get A) {x:Operand} {d:Nat} (ho:o.op = .move x) (hod:o.dst=some d) (hd:d<X.nt) (h:Ai E o A Kc=some r):Fw X o a S.w A Kc r:=by
 unfold Ai at h;rw[ho,hod]at h;simp only at h;split at h
 ·rename_i s hs
  have any:Kc (gone x s++[⟨d,false,s⟩])=some r→Fw X o a S.w A Kc r:=λ hk=>by
   obtain⟨S',K',hg',hw⟩:=Eaa hE K hg hs hd;exact⟨_,hk,Ac (S:=S') (by rw[hw];exact Jg (.inl ho)) (by rw[hod];exact K') hg'⟩
  split at h
  ·rename_i t e r' xs
   cases hn:(E.nm t&&!(E.mv d)) with
   |true=>
    rw[hn]at h;simp only[cond_true]at h;rcases I5 hE K hg hs with⟨t',ht',htl,_,he,_⟩|⟨hnt,_⟩
    ·cases ht';obtain⟨S',K',hg',hw⟩:=Kha (t:=t) K hg hd;exact⟨_,h,Ac (S:=S') (v:=S.ph t) (by rw[hw,Jg (.inl ho),he]) (by rw[hod];exact K') hg'⟩
    ·exact absurd rfl (hnt t)
   |false=>
    rw[hn]at h;simp only[cond_false]at h;refine any ?_;rw[← h];simp[gone,Ix,Db]
  ·rename_i t p;rcases I5 hE K hg hs with⟨t',ht',htl,_,he,hi⟩|⟨hnt,_⟩
   ·cases ht';have hio:3001000≤p∧a.eval (.tmp t)=S.ph p:=hi;obtain⟨S',K',hg',hw⟩:=Kha (t:=p) K hg hd;exact⟨_,h,Ac (S:=S') (v:=S.ph p) (by rw[hw,Jg (.inl ho),hio.2]) (by rw[hod];exact K') hg'⟩
   ·exact absurd rfl (hnt t)
  ·exact any h
 ·cases h
def K5 {d:Nat} (K:Ah X S a) (hg:S.g=get A) (hod:o.dst=some d) (hd:d<X.nt) {v:Value} (hv:X5 v=true) (hr:(execOp a.eval o).run X.P S.w = .ok (.value v) S.w)
  (h:Kc [⟨d,false,.one (.sc v)⟩]=some r):Fw X o a S.w A Kc r:=⟨_,h,Lga K hg hd hod hv hr⟩
def Fc (hE:Gx X E) (K:Ah X S a) (hg:S.g=get A) {T:TypeId} {x:Operand} {s:Sv} (hx:opT E T A x=some s):∃ l,Gi X.P S l s (a.eval x):=by
 rcases I5 hE K hg hx with⟨t,_,_,_,_,h⟩|⟨_,y,rfl,hy⟩
 ·exact⟨t,h⟩
 ·exact⟨0,hy _⟩
def I3a (hE:Gx X E) (K:Ah X S a) (hg:S.g=get A) {op:BinOp} {T T':TypeId} {x y:Operand} {d:Nat} (ho:o.op = .binOp op T x y T') (hod:o.dst=some d) (hd:d<X.nt) (h:Ai E o A Kc=some r):Fw X o a S.w A Kc r:=by
 unfold Ai at h;rw[ho,hod]at h;simp only at h;split at h
 ·rename_i s s' hs hs';obtain⟨v,h1,h2,h3⟩:=Nwa hE (S:=S) h (Fc hE K hg hs) (Fc hE K hg hs') ho;exact K5 K hg hod hd h2 h3 h1
 ·cases h
def Lia (hE:Gx X E) (K:Ah X S a) (hg:S.g=get A) {op:UnOp} {T:TypeId} {x:Operand} {d:Nat} (ho:o.op = .unOp op T x) (hod:o.dst=some d) (hd:d<X.nt) (h:Ai E o A Kc=some r):Fw X o a S.w A Kc r:=by
 unfold Ai at h;rw[ho,hod]at h;simp only at h;split at h
 ·rename_i s hs;obtain⟨l,hl⟩:=Fc hE K hg hs;unfold uop at h;split at h
  ·rename_i k n;have e:a.eval x = .int k n:=hl.1;exact K5 K hg hod hd rfl (by unfold execOp;simp[ho,e,Op.unary,Op.intArith]) h
  ·rename_i k n;have e:a.eval x = .int k n:=hl.1;exact K5 K hg hod hd rfl (by unfold execOp;simp[ho,e,Op.unary,Op.intBits]) h
  ·rename_i b;have e:a.eval x = .bool b:=hl.1;exact K5 K hg hod hd rfl (by unfold execOp;simp[ho,e,Op.unary]) h
  ·cases h
 ·cases h
def Lja (hE:Gx X E) (K:Ah X S a) (hg:S.g=get A) {c x y:Operand} {d:Nat} (ho:o.op = .pick c x y) (hod:o.dst=some d) (hd:d<X.nt) (h:Ai E o A Kc=some r):Fw X o a S.w A Kc r:=by
 unfold Ai at h;rw[ho,hod]at h;simp only at h;split at h
 ·rename_i b hc;have e:=(Io hE K hg hc).1
  cases b with
  |true=>
   simp only[cond_true]at h;split at h
   ·rename_i u hu;obtain⟨e1,e2⟩:=Io hE K hg hu;exact K5 K hg hod hd e2 (by unfold execOp;simp[ho,e,asBool,e1]) h
   ·cases h
  |false=>
   simp only[cond_false]at h;split at h
   ·rename_i u hu;obtain⟨e1,e2⟩:=Io hE K hg hu;exact K5 K hg hod hd e2 (by unfold execOp;simp[ho,e,asBool,e1]) h
   ·cases h
 ·cases h
def Oo {P:Program} {T:TypeId} (h:Tj E T=true) (hE:∀ T t,E.ti T=some t→TOk P T t):P.underlying T=some .string:=by
 unfold Tj at h;split at h
 ·rename_i hT;have:=(hE _ _ hT).desc;unfold Nb at this
  split at this<;>simp_all
 ·cases h
def Gd {P:Program} {T e:TypeId} (h:Lj E T e=true) (hE:∀ T t,E.ti T=some t→TOk P T t):P.underlying T=some (.slice e):=by
 unfold Lj elT at h;split at h
 ·rename_i e' he;split at he
  ·rename_i e'' _ _ _ hT;simp at he;subst he
   have e1:e''=e:=by simpa using h
   subst e1;have:=(hE _ _ hT).desc;unfold Nb at this
   split at this<;>simp_all
  ·cases he
 ·cases h
def I4a (hE:Gx X E) (K:Ah X S a) (hg:S.g=get A) {T:TypeId} {x i:Operand} {d:Nat} (ho:o.op = .index T x i) (hod:o.dst=some d) (hd:d<X.nt) (h:Ai E o A Kc=some r):Fw X o a S.w A Kc r:=by
 unfold Ai at h;rw[ho,hod]at h;simp only at h;split at h
 ·rename_i s k n hs hn;have e1:=(Io hE K hg hs).1;have e2:=(Io hE K hg hn).1;cases hq:(Tj E T&&decide (0≤n))
  ·rw[hq]at h;simp at h
  rw[hq]at h;simp only[cond_true]at h;simp only[Va,decide_eq_true_eq]at hq;have hu:=Oo hq.1 hE.ti
  by_cases hlt:n<(s.size:Int)
  ·simp only[hlt,decide_true,cond_true]at h
   have hb:s[n.toNat]? = some s[n.toNat]:=by
    rw[getElem?_pos]
   have hv:bt s n=(s[n.toNat].toNat:Int):=by
    unfold bt
    have hl:n.toNat<s.data.toList.length:=by
     have:s.data.toList.length=s.size:=rfl;omega
    rw[Vn,Vs hl];rfl
   refine K5 K hg hod hd rfl ?_ h;unfold execOp;simp[ho,e1,e2,Instr.index,asIntOf,underlying,hu,hq.2,hb,hv]
  ·simp[hlt]at h
 ·cases h
def Lv {y:Lf} {u:Value} {lab:Lab} (K:Ah X S a) (hg:S.g=get A) (h:Af X.P S lab y u):∃ lab',Af X.P S lab' (H9 A y) u:=by
 unfold H9;split
 ·rename_i p v;split
  ·rename_i n e r xs hp;cases hb:Nat.beq n v
   ·exact⟨lab,trivial⟩
   have hnv:n=v:=by simpa using hb
   subst hnv;have e1:u=S.ph p:=h.2 (by rw[hg,hp]);refine⟨.pl p [],?_⟩;have:=K.at_ p;rw[hg,hp]at this;rw[e1];exact this
  ·rename_i n e r xs hp;cases hb:Nat.beq n v
   ·exact⟨lab,trivial⟩
   have hnv:n=v:=by simpa using hb
   subst hnv;have e1:u=S.ph p:=h.2 (by rw[hg,hp]);refine⟨.pl p [],?_⟩;have:=K.at_ p;rw[hg,hp]at this;rw[e1];exact this
  ·exact⟨lab,trivial⟩
 ·exact⟨lab,h⟩
def Pi {e:TypeId} {r:Ty} {xs:List r.den} {u:Value} {lab:Lab} (h:Af X.P S lab (.fz e r xs) u):∃ ad cap,u = .slice ad xs.length cap:=by
 obtain⟨v,e1,_,ad,cap,_,e2,_⟩:=h;cases e1;exact⟨ad,cap,e2⟩
def Nc {e:TypeId} {r:Ty} {xs:List r.den} {u:Value} {lab:Lab} (h:Af X.P S lab (.own e r xs) u):∃ ad cap,u = .slice ad xs.length cap:=by
 obtain⟨_,cs,ho,_⟩:=Cs.top h;rcases Da ho with⟨e1,e2,_⟩|⟨k,cap,_,e1,_⟩
 ·exact⟨none,0,by rw[e1,e2]⟩
 ·exact⟨_,cap,e1⟩
def U4 {p v:Nat} {pi:Option (List (Int×Nat))} {e:TypeId} {r:Ty} {xs:List r.den} {u:Value} {lab:Lab} (h:Af X.P S lab (.da p v pi e r xs) u) (hv:(S.g p).1=v):∃ ad cap,u = .slice ad xs.length cap:=by
 obtain⟨_,_,h2⟩:=h;obtain⟨_,⟨_,a,cap,_,_,e,_⟩,_⟩:=h2 hv;exact⟨a,cap,e⟩
def S5 {P:Program} {w:World} {T:TypeId} {x:Operand} {c:Call} (ho:o.op = .call c) (hc:c.callee = .builtin .len) (hT:c.argTypes.toList=[T]) (hx:c.args.toList=[x]) {v:Value}
  (hr:(Builtin.len_ #[T] o.type #[a.eval x]).run P w = .ok v w):(execOp a.eval o).run P w = .ok (.value v) w:=by
 have e1:c.args = #[x]:=by rw[← hx]
 have e2:c.argTypes = #[T]:=by rw[← hT]
 unfold execOp;simp[ho,resolve,hc,e1,e2,invoke,builtin,hr]
def Nxa (hE:Gx X E) (K:Ah X S a) (hg:S.g=get A) {c:Call} (ho:o.op = .call c) (hc:c.callee = .builtin .len) (hd:∀ d,o.dst=some d→d<X.nt) (h:Ai E o A Kc=some r):Fw X o a S.w A Kc r:=by
 unfold Ai at h;rw[ho]at h;simp only[hc]at h;split at h
 ·rename_i T x d hT hx hod;have hdl:=hd d hod;split at h
  ·rename_i y hs;obtain⟨l,hl⟩:=Fc hE K hg hs;obtain⟨lab',hl'⟩:=Lv K hg (show Af X.P S (.pl l []) y (a.eval x) from hl);split at h
   ·rename_i s hy;rw[hy]at hl';cases hq:Tj E T
    ·rw[hq]at h;simp at h
    rw[hq]at h;have hu:=Oo hq hE.ti;have e1:a.eval x = .string s:=hl'.1;exact K5 K hg hod hdl rfl (S5 ho hc hT hx (by simp[Builtin.len_,underlying,hu,e1,goInt])) h
   ·rename_i p v pi e r' xs hy;rw[hy]at hl';cases hq:(Lj E T e&&Nat.beq (get A p).1 v)
    ·rw[hq]at h;simp at h
    rw[hq]at h;simp only[Va]at hq;have hu:=Gd hq.1 hE.ti;obtain⟨ad,cap,e1⟩:=U4 hl' (by rw[hg];exact Vb hq.2);exact K5 K hg hod hdl rfl (S5 ho hc hT hx (by simp[Builtin.len_,underlying,hu,e1,goInt])) h
   ·rename_i e r' xs hy;rw[hy]at hl';cases hq:Lj E T e
    ·rw[hq]at h;simp at h
    rw[hq]at h;have hu:=Gd hq hE.ti;obtain⟨ad,cap,e1⟩:=Pi hl';exact K5 K hg hod hdl rfl (S5 ho hc hT hx (by simp[Builtin.len_,underlying,hu,e1,goInt])) h
   ·rename_i e r' xs hy;rw[hy]at hl';cases hq:Lj E T e
    ·rw[hq]at h;simp at h
    rw[hq]at h;have hu:=Gd hq hE.ti;obtain⟨ad,cap,e1⟩:=Nc hl';exact K5 K hg hod hdl rfl (S5 ho hc hT hx (by simp[Builtin.len_,underlying,hu,e1,goInt])) h
   ·cases h
  ·cases h
 ·cases h
def Xh (hE:Gx X E) (K:Ah X S a) (hg:S.g=get A):∀ {Ts:List TypeId} {xs:List Operand} {ss:List Sv},N5 E Ts A xs=some ss→Hw (λ s x=>∃ T,opT E T A x=some s) ss xs
 |_,[],ss,h=>by simp[N5]at h;subst h;exact .nil
 |[],x::xs,ss,h=>by simp[N5]at h
 |T::Ts,x::xs,ss,h=>by
  simp only[N5]at h;split at h
  ·rename_i s hs;split at h
   ·rename_i ss' hss;simp at h;subst h;exact .cons ⟨T,hs⟩ (Xh hE K hg hss)
   ·cases h
  ·cases h
def U5 (hE:Gx X E) (K:Ah X S a) (hg:S.g=get A) (mx:Bool):∀ {ss:List Sv} {xs:List Operand} {k:IntKind} {x:Int} {Kv:Value→Option R} {r:R},Hw (λ s x=>∃ T,opT E T A x=some s) ss xs→Lm mx ss k x Kv=some r→
  ∃ n,Kv (.int k n)=some r∧((xs.map a.eval).foldlM (if mx then Builtin.max2 else Builtin.min2) (.int k x)).run X.P S.w = .ok (.int k n) S.w
 |[],_,k,x,Kv,r,.nil,h=>⟨x,h,rfl⟩
 |s::ss,_,k,x,Kv,r,.cons ⟨T,hs⟩ hss,h=>by
  rename_i y ys;unfold Lm at h;split at h
  ·rename_i heq;cases heq
  ·rename_i k x Kv _ _ _ _ k' z l heq;simp only[Wq]at heq;obtain⟨rfl,rfl⟩:=heq;have e:=(Io hE K hg hs).1
   by_cases hk:k=k'
   ·rw[decide_eq_true hk,cond_true]at h;rw[← hk]at e;obtain⟨n,h1,h2⟩:=U5 hE K hg mx hss h;refine⟨n,h1,?_⟩
    cases mx with
    |true=>
     simp only[Yd,List.foldlM_cons,e,if_true,Vx,Builtin.max2,Wn,Vw]
     simpa using h2
    |false=>
     simp only[Yd,List.foldlM_cons,e,Wd,if_false,Vx,Builtin.min2,Wn,Vw]
     simpa using h2
   ·simp[hk]at h
  ·cases h
def U6 (hE:Gx X E) (K:Ah X S a) (hg:S.g=get A) {c:Call} (mx:Bool) (ho:o.op = .call c) (hc:c.callee = .builtin (if mx then .max else .min)) (hd:∀ d,o.dst=some d→d<X.nt) (h:Ai E o A Kc=some r):Fw X o a S.w A Kc r:=by
 have key:∀ (k:IntKind) (x:Int) (l:List Sv) (d:Nat),N5 E c.argTypes.toList A c.args.toList=some (.one (.sc (.int k x))::l)→o.dst=some d→
   Lm mx l k x (λ u=>Kc [⟨d,false,.one (.sc u)⟩])=some r→Fw X o a S.w A Kc r:=by
  intro k x l d hs hod hm;have hall:=Xh hE K hg hs;generalize hxs:c.args.toList=xs at hall
  cases hall with
  |@cons s y ss ys h0 hl=>
   obtain⟨T,h0⟩:=h0;have e:=(Io hE K hg h0).1;obtain⟨n,h1,h2⟩:=U5 hE K hg mx hl hm;refine K5 K hg hod (hd d hod) rfl ?_ h1
   have hargs:(c.args.map a.eval).toList = .int k x::ys.map a.eval:=by rw[Array.toList_map,hxs,Yd,e]
   unfold execOp
   cases mx with
   |true=>
    simp only[if_true]at hc h2;simp only[ho,resolve,hc,Vx,Wn,Vw,invoke,builtin,Builtin.max_,hargs,h2]
   |false=>
    simp only[Wd,if_false]at hc h2;simp only[ho,resolve,hc,Vx,Wn,Vw,invoke,builtin,Builtin.min_,hargs,h2]
 unfold Ai at h;rw[ho]at h
 cases mx with
 |true=>
  simp only[if_true]at hc;simp only[hc]at h;split at h
  ·rename_i k x l d hs hod;exact key k x l d hs hod h
  ·cases h
 |false=>
  simp only[Wd,if_false]at hc;simp only[hc]at h;split at h
  ·rename_i k x l d hs hod;exact key k x l d hs hod h
  ·cases h
end

def reP (O:Nat→Lab) (l i:Nat) (f:List Nat→Option (List Nat)):Nat→Lab:=λ k=>match O k with
 |.pl l' p=>if l'=l then (match f p with
  |some q => .tm i q
  |none => .pl l' p) else .pl l' p
 |o=>o
section
variable {X:Cx} {S:Sit} {a:Act} {E:En} {A:Ab} {o:Oper} {R:Type} {Kc:List Up→Option R} {r:R}
def G7 {O:Nat→Lab} {l i k:Nat} {f:List Nat→Option (List Nat)} (h:∀ p,O k ≠ .pl l p):reP O l i f k=O k:=by
 unfold reP
 cases hk:O k<;>simp
 rename_i l' p;intro e;subst e;exact absurd hk (h p)
def Lka {O:Nat→Lab} {l i k:Nat} {f:List Nat→Option (List Nat)} {p q:List Nat} (h:O k = .pl l p) (hf:f p=some q):reP O l i f k = .tm i q:=by
 unfold reP;rw[h];simp[hf]
def Ada {O:Nat→Lab} {l i k:Nat} {f:List Nat→Option (List Nat)} {p:List Nat} (h:O k = .pl l p) (hf:f p=none):reP O l i f k = .pl l p:=by
 unfold reP;rw[h];simp[hf]
def N6 (S:Sit) (l i:Nat) (f:List Nat→Option (List Nat)) (s:Sv):Sit := { S with O:=reP S.O l i f,g:=upd S.g l ((S.g l).1+1,s) }
def Iz (S:Sit) (l i:Nat) (f:List Nat→Option (List Nat)) (s:Sv):Ct S (N6 S l i f s) where
 ver:=λ p=>by
  by_cases h:p=l
  ·subst h;simp[N6]
  ·simp[N6,Aa _ _ h]
 ph:=λ _ _=>rfl
 own:=λ p v e r xs' h hv=>by
  by_cases hp:p=l
  ·subst hp;simp only[N6,A9,Vu]at h;omega
  ·simp only[N6,Aa _ _ hp]at h;exact⟨xs',h,rfl⟩
 bb:=λ _ _=>rfl
 fz:=λ k h=>⟨(G7 (by simp[h])).trans h,rfl⟩
 box:=Ct.box_of (λ b n hv hh=>by
  have hb:H b≠l:=λ e=>by subst e;simp[N6]at hv
  exact(congrArg Prod.snd (Aa _ _ hb)).trans hh) (λ k b h=>⟨(G7 (by simp[h])).trans h,rfl⟩)
 bor:=λ p hv hd=>by
  have hp:p≠l:=λ e=>by subst e;simp[N6]at hv
  have hg:(N6 S l i f s).g p=S.g p:=Aa _ _ hp;rw[hg];exact⟨hd,λ _ _ _ h=>h,λ k hk=>⟨.inl ((G7 (by simp[hk,hp])).trans hk),rfl⟩⟩
 io:=λ _ _=>rfl
def S6 (K:Ah X S a) (l i:Nat) (f:List Nat→Option (List Nat)) (s:Sv) (hnh:∀ n,s ≠ .one (.hd n)) (hs:Gi X.P (N6 S l i f s) l s (S.ph l)):
  Ah X (N6 S l i f s) a∧(∀ p q x u,f p=some q→Af X.P S (.pl l p) x u→Af X.P (N6 S l i f s) (.tm i q) x u)∧(∀ n q x u,Af X.P S (.tm n q) x u→Af X.P (N6 S l i f s) (.tm n q) x u):=by
 have L:=Iz S l i f s;refine⟨?_,λ p q x u hf h=>h.later L (λ k hk=>⟨Lka hk hf,rfl⟩),λ n q x u h=>h.later L (λ k hk=>⟨(G7 (by simp[hk])).trans hk,rfl⟩)⟩;refine K.ghost _ _ (λ k h=>(G7 (by simp[h])).trans h) (λ k h=>?_) (λ k h=>(G7 (by simp[h])).trans h) (λ k b h=>(G7 (by simp[h])).trans h) (λ b n h=>?_) (λ l'=>?_)
 ·intro e;exact h ((G7 (by simp[e])).trans e)
 ·by_cases hb:H b=l
  ·subst hb;simp at h;exact absurd h (hnh n)
  ·rwa [Aa _ _ hb]at h
 ·by_cases hl:l'=l
  ·subst hl;show Gi X.P _ l' (upd S.g l' _ l').2 _;simp only[A9];exact hs
  ·show Gi X.P _ l' (upd S.g l _ l').2 _;rw[Aa _ _ hl];exact(K.at_ l').later L (λ p k hk=>⟨(G7 (by simp[hk,hl])).trans hk,rfl⟩)
def I5a (K:Ah X S a) (hg:S.g=get A) {p d:Nat} (hd:d<X.nt) {s:Sv} (hs:(get A p).2=s):
  ∃ S',Ah X S' (a.put (some d) (S.ph p))∧S'.g=get (ups A [⟨p,false,.one .dead⟩,⟨d,false,s⟩])∧S'.w=S.w:=by
 obtain⟨K1,h1,_⟩:=Im K p 0
 let h:Nat→List Nat→Option Lab:=λ n q=>if n=0 then some (.pl d q) else none
 have L:=Dy (Hz S p 0) h d (K.lt0 hd) s (S.ph p)
 have hok:Gi X.P S p s (S.ph p):=by have:=K.at_ p;rwa [hg,hs]at this
 have hso:Gi X.P (Hq (Hz S p 0) h d s (S.ph p)) d s (S.ph p):=by
  refine Gi.imp (S:=S) (l:=p) (λ q x u hx=>?_) hok;exact(h1 q x u hx).later L (λ k hk=>⟨G6 hk (by simp[h]),rfl⟩)
 refine⟨_,K1.put hd h (by intro n q p hp;simp only[h]at hp;split at hp<;>first|(cases hp;exact⟨q,rfl⟩)|cases hp) s _ hso,?_,rfl⟩
 show upd (Hz S p 0).g d _=_;rw[show ups A [⟨p,false,.one .dead⟩,⟨d,false,s⟩]=ups (ups A [⟨p,false,.one .dead⟩]) [⟨d,false,s⟩] from rfl,A8,A8,← hg];rfl
def Kt (A:Ab) (l:Nat) (s:Sv):get (ups A [⟨l,true,s⟩])=upd (get A) l ((get A l).1,s):=Il A ⟨l,true,s⟩
def Eba (hE:Gx X E) (K:Ah X S a) (hg:S.g=get A) {x:Operand} {d:Nat} (ho:o.op = .assign x) (hod:o.dst=some d) (hd:d<X.nt) (h:Ai E o A Kc=some r):Fw X o a S.w A Kc r:=by
 unfold Ai at h;rw[ho,hod]at h;simp only at h;split at h
 ·rename_i p v hs;obtain⟨l,hl⟩:=Fc hE K hg hs;split at h
  ·rename_i n e r' xs hp;cases hb:Nat.beq n v
   ·rw[hb]at h;simp at h
   rw[hb]at h;simp only[cond_true]at h
   have hnv:n=v:=by simpa using hb
   subst hnv;have he:a.eval x=S.ph p:=hl.2 (by rw[hg,hp])
   cases hr:E.res d with
   |true=>
    rw[hr]at h;simp only[cond_true]at h;obtain⟨S',K',hg',hw⟩:=I5a K hg (p:=p) hd (s := .one (.own e r' xs)) (by rw[hp]);exact⟨_,h,Ac (S:=S') (v:=S.ph p) (by rw[hw,Jg (.inr ho),he]) (by rw[hod];exact K') hg'⟩
   |false=>
    rw[hr]at h;simp only[cond_false]at h;obtain⟨K1,_,hf⟩:=Ph K (p:=p) (e:=e) (r:=r') (xs:=xs) (by rw[hg,hp]);have K2:=K1.put0 hd (.one (.fz e r' xs)) (S.ph p) 0 rfl (Af.relab (lab' := .pl 0 []) rfl hf);refine⟨_,h,Ac (S:=_) (v:=S.ph p) ?_ (by rw[hod];exact K2) ?_⟩
    ·show _=Result.ok _ S.w;rw[Jg (.inr ho),he]
    ·show upd (frS S p e r' xs).g d _=_;rw[show ups A [⟨p,true,.one (.fz e r' xs)⟩,⟨d,false,.one (.fz e r' xs)⟩]=ups (ups A [⟨p,true,.one (.fz e r' xs)⟩]) [⟨d,false,.one (.fz e r' xs)⟩] from rfl,A8,Kt,← hg];rfl
  ·rename_i n e r' xs hp;cases hb:Nat.beq n v
   ·rw[hb]at h;simp at h
   rw[hb]at h;simp only[cond_true]at h
   have hnv:n=v:=by simpa using hb
   subst hnv;have he:a.eval x=S.ph p:=hl.2 (by rw[hg,hp])
   have hp':Gi X.P S p (.one (.fz e r' xs)) (S.ph p):=by have:=K.at_ p;rwa [hg,hp]at this
   have K2:=K.put0 hd (.one (.fz e r' xs)) (S.ph p) p rfl hp';refine⟨_,h,Ac (S:=_) (v:=S.ph p) ?_ (by rw[hod];exact K2) ?_⟩
   ·show _=Result.ok _ S.w;rw[Jg (.inr ho),he]
   ·show upd S.g d _=_;rw[A8,← hg]
  ·cases h
 ·rename_i s _ hs;obtain⟨S',K',hg',hw⟩:=Eaa hE K hg hs hd;exact⟨_,h,Ac (S:=S') (by rw[hw];exact Jg (.inr ho)) (by rw[hod];exact K') hg'⟩
 ·cases h
def A5.len {P:Program} {S:Sit} {f:Nat→Lab}:∀ {j:Nat} {xs:List Lf} {us:List Value},A5 P S f j xs us→us.length=xs.length
 |_,[],[],_=>rfl
 |_,_::_,_::_,h=>by simp[h.2.len]
 |_,[],_::_,h=>h.elim
 |_,_::_,[],h=>h.elim
def A5.shift {P:Program} {S:Sit} {f:Nat→Lab}:∀ {j:Nat} {xs:List Lf} {us:List Value} (n:Nat),A5 P S f (j+n) xs us→A5 P S (λ i=>f (i+n)) j xs us
 |_,[],[],_,_=>trivial
 |j,_::xs,_::us,n,h=>⟨h.1,A5.shift (j:=j+1) n (by rw[show j+1+n=j+n+1 by omega];exact h.2)⟩
 |_,[],_::_,_,h=>h.elim
 |_,_::_,[],_,h=>h.elim
def A5.drop {P:Program} {S:Sit} {f:Nat→Lab}:∀ {j:Nat} {xs:List Lf} {us:List Value} (n:Nat),A5 P S f j xs us→A5 P S f (j+n) (xs.drop n) (us.drop n)
 |_,_,_,0,h=>h
 |_,[],[],_+1,_=>trivial
 |j,_::xs,_::us,n+1,h=>by
  rw[show j+(n+1)=j+1+n by omega];exact A5.drop n h.2
 |_,[],_::_,_,h=>h.elim
 |_,_::_,[],_,h=>h.elim
def A5.take {P:Program} {S:Sit} {f:Nat→Lab}:∀ {j:Nat} {xs:List Lf} {us:List Value} (n:Nat),A5 P S f j xs us→A5 P S f j (xs.take n) (us.take n)
 |_,_,_,0,_=>trivial
 |_,[],[],_+1,_=>trivial
 |j,_::xs,_::us,n+1,h=>⟨h.1,A5.take n h.2⟩
 |_,[],_::_,_,h=>h.elim
 |_,_::_,[],_,h=>h.elim
def A5.app {P:Program} {S:Sit} {f:Nat→Lab}:∀ {j:Nat} {xs ys:List Lf} {us vs:List Value},A5 P S f j xs us→A5 P S f (j+xs.length) ys vs→A5 P S f j (xs++ys) (us++vs)
 |_,[],_,[],_,_,h=>h
 |j,_::xs,_,_::us,_,h,h'=>⟨h.1,A5.app h.2 (by rw[show j+1+xs.length=j+(xs.length+1) by omega];exact h')⟩
 |_,[],_,_::_,_,h,_=>h.elim
 |_,_::_,_,[],_,h,_=>h.elim
def A5.deads {P:Program} {S:Sit} {f:Nat→Lab}:∀ {j:Nat} (us:List Value),A5 P S f j (List.replicate us.length .dead) us
 |_,[]=>trivial
 |_,_::us=>⟨trivial,A5.deads us⟩
def Fy {α:Type}:∀ (l:List α) (n:Nat),nth l n=l[n]?
 |[],_=>by simp[nth]
 |_::_,0=>by simp[nth]
 |_::l,n+1=>by simp[nth,Fy l n]
def Jz.get {P:Program} {S:Sit} {l:Nat}:∀ {i:Nat} {vs:List (Bool×List Lf)} {us:List Value} (j:Nat) {v:Bool×List Lf},Jz P S l i vs us→vs[j]? = some v→
  ∃ u ws,us[j]? = some u∧(if v.1 then u = .agg ws.toArray else ws=[u])∧A5 P S (λ n => .pl l [i+j,n]) 0 v.2 ws
 |_,[],_,j,v,_,h=>by simp at h
 |i,v0::vs,u::us,0,v,⟨⟨ws,h1,h2⟩,_⟩,h=>by
  simp at h;subst h;exact⟨u,ws,rfl,h1,h2⟩
 |i,_::vs,_::us,j+1,v,⟨_,h3⟩,h=>by
  obtain⟨u,ws,e1,e2,e3⟩:=h3.get j (by simpa using h);exact⟨u,ws,by simpa using e1,e2,by rw[show i+(j+1)=i+1+j by omega];exact e3⟩
 |_,_::_,[],_,_,h,_=>h.elim
def Jz.gone {P:Program} {S S':Sit} {l:Nat} (j:Nat):∀ {i:Nat} {vs:List (Bool×List Lf)} {us:List Value},(∀ n m x u,n≠j→Af P S (.pl l [n,m]) x u→Af P S' (.pl l [n,m]) x u)→
  Jz P S l i vs us→i≤j→Jz P S' l i (vs.set (j-i) (false,[.dead])) us
 |_,[],[],_,_,_=>by simp[Jz]
 |i,v::vs,u::us,hi,⟨⟨ws,h1,h2⟩,h3⟩,hij=>by
  by_cases he:i=j
  ·subst he;simp only[Tca,List.set_cons_zero];refine⟨⟨[u],by simp,trivial,trivial⟩,?_⟩
   have:∀ {n:Nat} {vs:List (Bool×List Lf)} {us:List Value},i<n→Jz P S l n vs us→Jz P S' l n vs us:=by
    intro n vs
    induction vs generalizing n with
    |nil=>intro us _ h;cases us<;>first|trivial|exact h.elim
    |cons v vs ih=>
     intro us hn h
     cases us with
     |nil=>exact h.elim
     |cons u us=>
      obtain⟨⟨ws,h1,h2⟩,h3⟩:=h;exact⟨⟨ws,h1,h2.imp (λ m x u h=>hi n m x u (by omega) h)⟩,ih (by omega) h3⟩
   exact this (by omega) h3
  ·rw[show j-i=(j-(i+1))+1 by omega,List.set_cons_succ];exact⟨⟨ws,h1,h2.imp (λ m x u h=>hi i m x u he h)⟩,h3.gone j hi (by omega)⟩
 |_,[],_::_,_,h,_=>h.elim
 |_,_::_,[],_,h,_=>h.elim
def J0 {P:Program} {S:Sit} {ag:Bool} {l:List Lf} {s:Sv} {d:Nat} {u:Value} {ws:List Value} (h:I0 ag l=some s) (hu:if ag then u = .agg ws.toArray else ws=[u])
  (hl:A5 P S (λ n => .pl d (if ag then [n] else [])) 0 l ws):Gi P S d s u:=by
 unfold I0 at h
 cases ag with
 |true=>
  simp at h;subst h;exact⟨ws,by simpa using hu,by simpa using hl⟩
 |false=>
  simp only[cond_false]at h;split at h
  ·cases h;simp at hu;subst hu;exact hl.1
  ·cases h
def Lw {ag:Bool} {l:List Lf} {s:Sv} (h:I0 ag l=some s):Ix s=Db l:=by
 unfold I0 at h;cases ag
 case true=>simp at h;subst h;rfl
 simp only[cond_false]at h;split at h
 ·cases h;rfl
 ·cases h
def Nd (d:Nat) (ag:Bool):Nat→List Nat→Option Lab:=λ n q=>if n=0 then some (.pl d (if ag then q else [])) else none
def Aea (d:Nat) (ag:Bool):∀ n q p,Nd d ag n q=some p→∃ p',p = .pl d p':=by
 intro n q p hp;unfold Nd at hp;split at hp
 ·cases hp;exact⟨_,rfl⟩
 ·cases hp
def Cca (hE:Gx X E) (K:Ah X S a) (hg:S.g=get A) {t j d:Nat} (ho:o.op = .extract (.tmp t) j) (hod:o.dst=some d) (hd:d<X.nt) (h:Ai E o A Kc=some r):Fw X o a S.w A Kc r:=by
 unfold Ai at h;rw[ho,hod]at h;simp only at h;cases hb:Nat.blt t E.nt
 ·rw[hb]at h;simp at h
 rw[hb]at h;simp only[cond_true]at h;have ht:t<X.nt:=hE.nt ▸ (Ve hb:t+1≤E.nt);have he:a.eval (.tmp t)=S.ph t:=K.sl t ht;split at h
 ·rename_i vs hvs
  have hok:Gi X.P S t (.tup vs) (S.ph t):=by have:=K.at_ t;rwa [hg,hvs]at this
  obtain⟨us,e1,hto⟩:=hok;split at h
  ·rename_i ag l hn;rw[Fy]at hn;split at h
   ·rename_i s hs;obtain⟨u,ws,e2,e3,hl⟩:=hto.get j hn;simp only[Wb]at hl
    have hrun:(execOp a.eval o).run X.P S.w = .ok (.value u) S.w:=by
     unfold execOp;simp[ho,he,e1,Instr.extract,e2]
    cases hown:Db l with
    |false=>
     rw[hown]at h;simp only[cond_false]at h;have hso:Gi X.P S d s u:=J0 hs e3 (hl.relab hown);have K2:=K.put0 hd s u d (by rw[Lw hs,hown]) hso;refine⟨_,h,Ac (S:=Hq S (λ _ _=>none) d s u) hrun (by rw[hod];exact K2) ?_⟩;show upd S.g d _=_;rw[A8,← hg]
    |true=>
     rw[hown]at h;simp only[cond_true]at h
     let f:List Nat→Option (List Nat):=λ p=>match p with
      |[i,n]=>if i=j then some [n] else none
      |_=>none
     have L1:=Iz S t 0 f (.tup (vs.set j (false,[.dead])))
     obtain⟨K1,h1,_⟩:=S6 K t 0 f (.tup (vs.set j (false,[.dead]))) (by simp) ⟨us,e1,by
      refine hto.gone j (λ n m x u hne hx=>hx.later L1 (λ k hk=>⟨Ada hk (by simp[f,hne]),rfl⟩)) (Wf _)⟩
     have L2:=Dy (N6 S t 0 f (.tup (vs.set j (false,[.dead])))) (Nd d ag) d (K.lt0 hd) s u
     have hl2:A5 X.P (Hq (N6 S t 0 f (.tup (vs.set j (false,[.dead])))) (Nd d ag) d s u) (λ n => .pl d (if ag then [n] else [])) 0 l ws:=by
      refine hl.imp (λ n x u hx=>?_);exact(h1 [j,n] [n] x u (by simp[f]) hx).later L2 (λ k hk=>⟨G6 hk (by simp[Nd]),rfl⟩)
     have K2:=K1.put hd (Nd d ag) (Aea d ag) s u (J0 hs e3 hl2);refine⟨_,h,Ac (S:=Hq (N6 S t 0 f (.tup (vs.set j (false,[.dead])))) (Nd d ag) d s u) hrun (by rw[hod];exact K2) ?_⟩;show upd (N6 S t 0 f (.tup (vs.set j (false,[.dead])))).g d _=_;rw[show ∀ u1 u2,ups A [u1,u2]=ups (ups A [u1]) [u2] from λ _ _=>rfl,A8,A8,← hg];rfl
   ·cases h
  ·cases h
 ·cases h
end

def Hx (k o n:Nat):Addr.add ⟨k,o,none⟩ n=⟨k,o+n,none⟩:=Addr.add_lit k o n
section
variable {P:Program} {w:World}
def Hb {t:TypeId} {n:Nat} (h:(P.info? t).map (λ i=>i.size)=some n):(sizeOf t).run P w = .ok n w:=by
 cases hi:P.info? t with
 |none=>simp[hi]at h
 |some i=>
  simp[hi]at h;simp[sizeOf,typeInfo,hi,h]
def Pj {T:TypeId} {t:TI} (h:TOk P T t) (ha:t.ag=true):∃ fs,P.underlying T=some (.struct fs)∧I1 P fs.toList t.fo=true:=by
 have:=h.desc;unfold Nb at this
 split at this<;>first|(simp_all;done)|skip
def Ku:∀ {fs:List Field} {os:List (Nat×Nat×Bool)} {j:Nat} {o:Nat×Nat×Bool},I1 P fs os=true→nth os j=some o→
  ∃ f,fs[j]? = some f∧f.offset=o.1∧(P.info? f.type).map (λ i=>i.size)=some o.2.1∧0<o.2.1∧Tx (P.underlying f.type)=o.2.2∧∃ d,P.underlying f.type=some d
 |[],[],j,o,_,h=>by simp[nth]at h
 |[],_::_,_,_,h,_=>by simp[I1]at h
 |_::_,[],_,_,h,_=>by simp[I1]at h
 |f::fs,o'::os,j,o,h,hn=>by
  simp only[I1,Va]at h;obtain⟨⟨⟨⟨⟨h1,h2⟩,h3⟩,h4⟩,h6⟩,h5⟩:=h
  cases j with
  |zero=>
   simp[nth]at hn;subst hn;refine⟨f,rfl,by simpa using h1,by simpa using h2,?_,by simpa using h4,Rta.mp h6⟩;have:Nat.ble 1 o'.2.1=true:=h3;exact Ve this
  |succ j=>exact Ku (fs:=fs) h5 (by simpa[nth] using hn)
def Jh {t:TypeId} {b:Bool} {d:TypeDesc} (hd:P.underlying t=some d) (h:Tx (P.underlying t)=b):(isAgg t).run P w = .ok b w:=by
 rw[hd]at h;unfold isAgg;rw[Vx,run_underlying hd]
 cases d<;>simp_all [Tx]
end
section
variable {X:Cx} {S:Sit} {a:Act} {E:En} {A:Ab} {o:Oper} {R:Type} {Kc:List Up→Option R} {r:R}
def Xi (hE:Gx X E) (K:Ah X S a) (hg:S.g=get A) {x:Operand} {d:Nat} (ho:o.op = .nilCheck x) (hod:o.dst=some d) (hd:d<X.nt) (h:Ai E o A Kc=some r):Fw X o a S.w A Kc r:=by
 unfold Ai at h;rw[ho,hod]at h;simp only at h;split at h
 ·rename_i y hs;obtain⟨l,hl⟩:=Fc hE K hg hs
  have key:(∃ ad,a.eval x = .pointer (some ad))→Ix (.one y)=false→Kc [⟨d,false,.one y⟩]=some r→Fw X o a S.w A Kc r:=by
   intro ⟨ad,he⟩ ho' hk;have K2:=K.put0 hd (.one y) (a.eval x) l ho' hl;refine⟨_,hk,Ac (S:=Hq S (λ _ _=>none) d (.one y) (a.eval x)) ?_ (by rw[hod];exact K2) ?_⟩
   ·show _=Result.ok _ S.w;unfold execOp;simp[ho,he]
   ·show upd S.g d _=_;rw[A8,← hg]
  rw[csi]at h;obtain⟨hlv,h⟩:=h;unfold Qn at hlv;split at hlv
  ·rename_i b v n;exact key ⟨_,hl.2 (by rw[hg];simpa using hlv)⟩ rfl h
  ·rename_i p v i n;split at hlv
   ·rename_i m e r' xs hp
    have:m=v:=by simpa using hlv
    subst this;obtain⟨_,_,k,cap,_,e2⟩:=hl.2 e r' xs (by rw[hg,hp]);exact key ⟨_,e2⟩ rfl h
   ·cases hlv
  ·obtain⟨k,o',cs,e,_⟩:=hl;exact key ⟨_,e⟩ rfl h
  ·obtain⟨hd',h1,h2⟩:=hl;obtain⟨_,_,k,o',cap,_,e⟩:=h2 (by rw[hg];simpa using hlv);exact key ⟨_,e⟩ rfl h
  ·cases hlv
 ·cases h
def S7 {P:Program} {w:World} {T:TypeId} {x:Operand} {j:Nat} {t:TI} {f:Nat×Nat×Bool} (ht:TOk P T t) (ha:t.ag=true) (hf:nth t.fo j=some f) (ho:o.op = .fieldAddr T x j) {k off:Nat} (he:a.eval x = .pointer (some ⟨k,off,none⟩)):
  (execOp a.eval o).run P w = .ok (.value (.pointer (some ⟨k,off+f.1,none⟩))) w:=by
 obtain⟨fs,hu,hfs⟩:=Pj ht ha;obtain⟨fd,h1,h2,h3,h4,h5,_⟩:=Ku hfs hf
 have h1':fs[j]? = some fd:=by simpa using h1
 unfold execOp;simp only[ho,he,Vx];unfold Instr.fieldAt;rw[Vx,run_underlying hu];simp only[Vw,h1',Instr.sureAddr,Vx,Wn,fieldPlace,Hb h3];rw[if_neg (by omega)];simp only[Wn,Vw,Hx,h2]
def U7 (hE:Gx X E) (K:Ah X S a) (hg:S.g=get A) {T:TypeId} {x:Operand} {j d:Nat} (ho:o.op = .fieldAddr T x j) (hod:o.dst=some d) (hd:d<X.nt) (h:Ai E o A Kc=some r):Fw X o a S.w A Kc r:=by
 unfold Ai at h;rw[ho,hod]at h;simp only at h;split at h
 ·rename_i ti y hti hs;obtain⟨l,hl⟩:=Fc hE K hg hs;split at h
  ·rename_i f hf;rw[csi]at h;obtain⟨hq,h⟩:=h;simp only[Va]at hq;obtain⟨ha,hlv⟩:=hq
   have key:∀ (k off:Nat),a.eval x = .pointer (some ⟨k,off,none⟩)→Ix (.one (Dna y f.1))=false→Gi X.P S l (.one (Dna y f.1)) (.pointer (some ⟨k,off+f.1,none⟩))→Fw X o a S.w A Kc r:=by
    intro k off he ho' hsv;have K2:=K.put0 hd _ _ l ho' hsv;refine⟨_,h,Ac (S:=Hq S (λ _ _=>none) d _ _) ?_ (by rw[hod];exact K2) ?_⟩
    ·exact S7 (hE.ti _ _ hti) ha hf ho he
    ·show upd S.g d _=_;rw[A8,← hg]
   unfold Qn at hlv;split at hlv
   ·rename_i b v n;refine key _ _ (hl.2 (by rw[hg];simpa using hlv)) rfl ⟨hl.1,λ hv=>?_⟩;rw[Ys]
   ·rename_i p v i n;split at hlv
    ·rename_i m e r' xs hp
     have:m=v:=by simpa using hlv
     subst this;obtain⟨_,_,k,cap,_,e2⟩:=hl.2 e r' xs (by rw[hg,hp]);refine key _ _ e2 rfl ⟨hl.1,λ e1 r1 xs1 hv=>?_⟩;obtain⟨g1,g2,k',cap',g3,g4⟩:=hl.2 e1 r1 xs1 hv;rw[e2]at g4;simp only[Value.pointer.injEq,Vc,Addr.mk.injEq,and_true]at g4;obtain⟨rfl,g5⟩:=g4;refine⟨g1,g2,_,cap',g3,?_⟩;congr 3;omega
    ·cases hlv
   ·obtain⟨k,o',cs,e,h1,h2,h3⟩:=hl;refine key _ _ e rfl ⟨k,o',cs,?_,h1,h2,h3⟩;rw[Ys]
   ·obtain⟨hd',h1,h2⟩:=hl;obtain⟨g1,g2,k,o',cap,g3,e⟩:=h2 (by rw[hg];simpa using hlv);refine key _ _ e rfl ⟨hd',h1,λ _=>⟨g1,g2,k,o',cap,g3,?_⟩⟩;congr 3;omega
   ·cases hlv
  ·cases h
 ·cases h
def Eca {α:Type} {R':α→List Value→Prop} {n:Nat} (hn:∀ x c,R' x c→c.length=n) {xs:List α} {cs:List Value} (h:Rows R' xs cs) {k o i:Nat} {x:α} (hx:xs[i]? = some x) (hc:Ck S.w k o cs):
  ∃ c,R' x c∧Ck S.w k (o+i*n) c:=by
 refine⟨_,h.get hn i x hx,λ j u hu=>?_⟩;rw[Wg]at hu;split at hu
 ·rw[Ya]at hu;rw[Ys];exact hc _ _ hu
 ·cases hu
def H3 {P:Program} {w:World} {T e:TypeId} {x i:Operand} {k:IntKind} {n:Int} {b off len cap sz:Nat} (hu:P.underlying T=some (.slice e)) (hs:Pd P e sz) (ho:o.op = .indexAddr T x i)
  (he:a.eval x = .slice (some ⟨b,off,none⟩) len cap) (hi:a.eval i = .int k n) (h0:0≤n) (h1:n<(len:Int)):
  (execOp a.eval o).run P w = .ok (.value (.pointer (some ⟨b,off+n.toNat*sz,none⟩))) w:=by
 unfold execOp;simp only[ho,he,hi,Vx];unfold Instr.indexAt;simp[asIntOf,run_underlying hu,h0,h1,Hb hs,Hx]
def Afa {y:Lf} {e:TypeId} {r':Ty} {xs:List r'.den} (h:H9 A y = .own e r' xs) (hn:∀ p v,y = .al p v→False):y = .own e r' xs:=by
 cases y<;>first|exact h|skip
 exact(hn _ _ rfl).elim
def Eda {P:Program} {S:Sit} {p v:Nat} {e:TypeId} {r:Ty} {xs:List r.den} (hp:S.g p=(v,.one (.own e r xs))) (hno:Hh r=false) (hao:Eh r=true) (h:Cs P S.O S.w (.pl p []) e r xs (S.ph p)):Dka P S p v (some []) e r xs (S.ph p):=by
 obtain⟨bs,⟨v',cs,b2,ev,hs,ho,hd,eb⟩,hn,hk⟩:=h;simp only[Wq,and_true]at ev;subst ev;refine⟨hao,by rw[hp];exact Vq _,λ _=>⟨by rw[hp];simp[Xd,I0a,hno],⟨hs,?_⟩,λ q hq E R XS hg=>?_⟩⟩
 ·rcases Da ho with⟨e1,e2,rfl⟩|⟨k,cap,cur,e1,hc,h1,_,_,ht⟩
  ·refine⟨none,0,[],b2,by rw[e1,e2],by omega,hd,λ k hk' => .inl (hk k (by rw[eb];exact Vi _ hk')),λ hn=>absurd (Xs e2) hn⟩
  ·refine⟨_,cap,cs,b2,e1,h1,hd,λ k hk' => .inl (hk k (by rw[eb];exact Vi _ hk')),λ _=>⟨k,0,rfl,.inl (hk k (by rw[eb,e1];simp[Value.ownBlock])),Gb hc ht⟩⟩
 ·cases hq;rw[hp]at hg;cases hg;exact⟨rfl,rfl⟩
def U8 (hE:Gx X E) (K:Ah X S a) (hg:S.g=get A) {T:TypeId} {x i:Operand} {d:Nat} (ho:o.op = .indexAddr T x i) (hod:o.dst=some d) (hd:d<X.nt) (hopn:E.opn d=false) (h:Ai E o A Kc=some r):Fw X o a S.w A Kc r:=by
 unfold Ai at h;rw[ho,hod]at h;simp only[hopn,cond_false]at h;split at h
 ·rename_i y k n hs hn;have ei:=(Io hE K hg hn).1;obtain⟨l,hl⟩:=Fc hE K hg hs
  have keyO:∀ (p v e:Nat) (r':Ty) (xs:List r'.den),S.g p=(v,.one (.own e r' xs))→a.eval x=S.ph p→
    (bif Lj E T e&&decide (0≤n) then (bif decide (n<(xs.length:Int)) then (bif Hh r' then Kc [⟨d,false,.one (.ep p v n 0)⟩] else bif Eh r' then Kc [⟨d,false,.one (.dp p v (some []) e r' xs n 0)⟩] else none) else none) else none)=some r→Fw X o a S.w A Kc r:=by
   intro p v e r' xs hp he hk;cases hq:(Lj E T e&&decide (0≤n))
   ·rw[hq]at hk;simp at hk
   rw[hq,cond_true]at hk;simp only[Va,decide_eq_true_eq]at hq
   by_cases hlt:n<(xs.length:Int)
   ·simp only[hlt,decide_true,cond_true]at hk
    have hown:Cs X.P S.O S.w (.pl p []) e r' xs (S.ph p):=by have:=K.at_ p;rw[hp]at this;exact this
    cases hno:Hh r' with
    |false=>
     rw[hno,cond_false]at hk;cases hao:Eh r'
     ·rw[hao]at hk;simp at hk
     rw[hao,cond_true]at hk;have hda:=Eda (xs:=xs) (P:=X.P) (S:=S) hp hno hao hown
     obtain⟨k',cap,e1⟩:∃ k' cap,S.ph p = .slice (some ⟨k',0,none⟩) xs.length cap:=by
      obtain⟨_,cs,hrow,_⟩:=hown.top;rcases Da hrow with⟨_,hm,_⟩|⟨k',cap,cur,e1,_⟩
      ·omega
      ·exact⟨k',cap,e1⟩
     have hr:=H3 (w:=S.w) (Gd hq.1 hE.ti) hown.top.1 ho (he.trans e1) ei hq.2 hlt
     have hsv:Gi X.P S 0 (.one (.dp p v (some []) e r' xs n 0)) (.pointer (some ⟨k',0+n.toNat*r'.sz,none⟩)):=
      ⟨S.ph p,hda,λ _=>⟨hq.2,by omega,k',0,cap,e1,by rw[Yu]⟩⟩
     have K2:=K.put0 hd _ _ 0 rfl hsv;refine⟨_,hk,Ac (S:=Hq S (λ _ _=>none) d _ _) hr (by rw[hod];exact K2) ?_⟩;show upd S.g d _=_;rw[A8,← hg]
    |true=>
    rw[hno,cond_true]at hk;obtain⟨hsz,cs,hrow,_⟩:=hown.top;rcases Da hrow with⟨_,hm,_⟩|⟨k',cap,cur,e1,_⟩
    ·omega
    ·have hr:=H3 (w:=S.w) (Gd hq.1 hE.ti) hsz ho (he.trans e1) ei hq.2 hlt;rw[Wb]at hr
     have hsv:Gi X.P S 0 (.one (.ep p v n 0)) (.pointer (some ⟨k',n.toNat*r'.sz,none⟩)):=by
      refine⟨by rw[hp];exact Vq _,λ e2 r2 xs2 hp2=>?_⟩;rw[hp]at hp2;cases hp2;exact⟨hq.2,by omega,k',cap,e1,by rw[Yu]⟩
     have K2:=K.put0 hd _ _ 0 rfl hsv;refine⟨_,hk,Ac (S:=Hq S (λ _ _=>none) d _ _) hr (by rw[hod];exact K2) ?_⟩;show upd S.g d _=_;rw[A8,← hg]
   ·simp[hlt]at hk
  have keyF:∀ (e:Nat) (r':Ty) (xs:List r'.den) (lab:Lab),Af X.P S lab (.fz e r' xs) (a.eval x)→
    (bif Lj E T e&&decide (0≤n) then (bif decide (n<(xs.length:Int)) then Kc [⟨d,false,.one (.fp r' (xs.getD n.toNat r'.dflt) 0)⟩] else none) else none)=some r→Fw X o a S.w A Kc r:=by
   intro e r' xs lab hf hk;cases hq:(Lj E T e&&decide (0≤n))
   ·rw[hq]at hk;simp at hk
   rw[hq,cond_true]at hk;simp only[Va,decide_eq_true_eq]at hq
   by_cases hlt:n<(xs.length:Int)
   ·simp only[hlt,decide_true,cond_true]at hk;obtain⟨v,e1,hsz,ad,cap,cs,e2,hc,hrows,hne⟩:=hf;cases e1
    have hnn:xs≠[]:=by intro e3;subst e3;simp at hlt;omega
    obtain⟨k',o',rfl,hk',hcs⟩:=hne hnn;have hr:=H3 (w:=S.w) (Gd hq.1 hE.ti) hsz ho e2 ei hq.2 hlt
    have hi':n.toNat<xs.length:=by omega
    obtain⟨c,hc1,hc2⟩:=Eca (S:=S) (Ty.rep_len r') hrows (i:=n.toNat) (x:=xs.getD n.toNat r'.dflt) (by rw[Vn,Vs hi'];rfl) hcs;have hsv:Gi X.P S 0 (.one (.fp r' (xs.getD n.toNat r'.dflt) 0)) (.pointer (some ⟨k',o'+n.toNat*r'.sz,none⟩)):=⟨k',_,c,rfl,hk',hc1,hc2⟩;have K2:=K.put0 hd _ _ 0 rfl hsv;refine⟨_,hk,Ac (S:=Hq S (λ _ _=>none) d _ _) hr (by rw[hod];exact K2) ?_⟩;show upd S.g d _=_;rw[A8,← hg]
   ·simp[hlt]at hk
  have hl':Af X.P S (.pl l []) y (a.eval x):=hl;split at h
  rotate_left 2
  ·-- an opened place
   rename_i p v _;split at h
   ·rename_i m e r0 xs0 i0 b vb hp;cases hq:(Nat.beq m v&&Lj E T e)
    ·rw[hq]at h;simp at h
    rw[hq,cond_true]at h;simp only[Va]at hq
    by_cases hni:n=i0
    ·subst hni;simp only[decide_true,cond_true]at h;have hmv:m=v:=Vb hq.1;subst hmv;have he:a.eval x=S.ph p:=hl'.2 (by rw[hg,hp])
     have hat:Af X.P S (.pl p []) (.opn e r0 xs0 n b vb) (S.ph p):=by have:=K.at_ p;rw[hg,hp]at this;exact this
     obtain⟨h1,⟨hsz,h2,h3,k,cap,h4⟩,h5⟩:=hat;have hr:=H3 (w:=S.w) (Gd hq.2 hE.ti) hsz ho (he.trans h4) ei h2 (by omega);rw[Wb]at hr
     have hsv:Gi X.P S 0 (.one (.bp b vb 0)) (.pointer (some ⟨k,n.toNat*r0.sz,none⟩)):=by
      refine⟨h1,λ hv=>?_⟩;obtain⟨k',cap',cur,b1,b2,e1,_,_,_,_,e2,_⟩:=h5 hv;rw[h4]at e1;cases e1;rw[e2];rfl
     have K2:=K.put0 hd _ _ 0 rfl hsv;refine⟨_,h,Ac (S:=Hq S (λ _ _=>none) d _ _) hr (by rw[hod];exact K2) ?_⟩;show upd S.g d _=_;rw[A8,← hg]
    ·simp[hni]at h
   ·cases h
  rotate_right 1
  ·rename_i p v pi e r' xs;cases hq:(Lj E T e&&Nat.beq (get A p).1 v&&decide (0≤n))
   ·rw[hq]at h;simp at h
   rw[hq,cond_true]at h;simp only[Va,decide_eq_true_eq]at hq
   by_cases hlt:n<(xs.length:Int)
   ·simp only[hlt,decide_true,cond_true]at h;have hda:Dka X.P S p v pi e r' xs (a.eval x):=hl';obtain⟨_,⟨hsz,ad,cap,cs,bs,e1,_,_,_,hne⟩,_⟩:=hda.2.2 (by rw[hg];exact Vb hq.1.2);obtain⟨k',o',rfl,_⟩:=hne (by intro e0;subst e0;simp at hlt;omega);have hr:=H3 (w:=S.w) (Gd hq.1.1 hE.ti) hsz ho e1 ei hq.2 hlt
    have hsv:Gi X.P S 0 (.one (.dp p v pi e r' xs n 0)) (.pointer (some ⟨k',o'+n.toNat*r'.sz,none⟩)):=
     ⟨a.eval x,hda,λ _=>⟨hq.2,by omega,k',o',cap,e1,by rw[Yu]⟩⟩
    have K2:=K.put0 hd _ _ 0 rfl hsv;refine⟨_,h,Ac (S:=Hq S (λ _ _=>none) d _ _) hr (by rw[hod];exact K2) ?_⟩;show upd S.g d _=_;rw[A8,← hg]
   ·simp[hlt]at h
  rotate_right 1
  ·rename_i p v e r' xs hsn;simp only[H9]at hsn;split at hsn
   ·rename_i n' e' r'' xs' hp;cases hb:Nat.beq n' v
    ·rw[hb]at hsn;simp at hsn
    rw[hb,cond_true]at hsn;cases hsn
    have:n'=v:=by simpa using hb
    subst this;exact keyO p n' e r' xs (by rw[hg,hp]) (hl'.2 (by rw[hg,hp])) h
   ·rename_i n' e' r'' xs' hp
    cases hb:Nat.beq n' v<;>rw[hb]at hsn<;>simp at hsn
   ·cases hsn
  ·rename_i e r' xs _ hsn;obtain⟨lab',hl2⟩:=Lv K hg hl';rw[hsn]at hl2;exact keyF e r' xs lab' hl2 h
  ·rename_i e r' xs hne _ hsn;split at h
   ·rename_i t;rcases I5 hE K hg hs with⟨t',ht',htl,hst,het,_⟩|⟨hnt,_⟩
    ·cases ht';have hy:=Afa hsn hne;rw[hy]at hst;exact keyO t (get A t).1 e r' xs (by rw[← hg,hst]) het h
    ·exact absurd rfl (hnt t)
   ·cases h
  ·cases h
 ·cases h
end

end Go.Proofs.YtbbifgjgneefkaaGreat.Vf
