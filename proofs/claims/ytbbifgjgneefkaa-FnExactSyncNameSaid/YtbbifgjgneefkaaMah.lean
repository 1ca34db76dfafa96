import Derived.Test.YtbbifgjgneefkaaMag
set_option linter.all false
namespace Go.Proofs.Ytbbifgjgneefkaa.Vf
open Go
open List (length getD)
open Int (toNat)
open Go.IntKind (wrap)
open BitVec (ofInt)

section
attribute [local irreducible] C H
def Rq {P:Program} {w:World} {T:TypeId} {t:TI} {k o':Nat} {cs:List Value} (ht:TOk P T t) (ha:t.ag=true) (hc:Bj w k o' cs) (hl:cs.length=t.ty.sz):
  (loadVar T ⟨k,o',none⟩).run P w = .ok (.agg cs.toArray) w:=by
 obtain⟨d,hd,hagg⟩:=Rb ht;rw[ha]at hagg
 have hc':∀ j v,cs[j]? = some v→w.cell? (Addr.add ⟨k,o',none⟩ j)=some v:=λ j v hj=>by rw[Ey];exact hc j v hj
 have hlc:=run_loadCells_list (P:=P) w ⟨k,o',none⟩ cs hc';simp only[Vt,Wh,Vs,loadVar,Gf hd hagg,if_true,Ea (Hi ht),← hl,hlc]
def H8 (a:Act):ResultVar→Sem Value
 |.tmp t=>pure (a.tmps.getD t undef)
 |.cell x t=>do loadVar t (← asAddr (a.tmps.getD x undef))
section
variable {X:Cx} {S S1 S2:Sit} {a:Act} {E:En} {A:Ab}
def Cka (hE:Dx X E) (K:Ae X S a) (hg:S.g=get A) {x:Nat} (hx:Nat.blt x E.nt=true) {T:TypeId} {ti:TI} (hT:E.ti T=some ti) (hag:ti.ag=true) {t:Ty} (hsz:ti.ty.sz=t.sz) {l:List Lf} {us:List Up} (i:Nat)
  (h:R4 A t (get A x).2=some (l,us)) {y:t.den} (hy:mkW t l=some y):
  ∃ S',Ae X S' a∧S'.g=get (ups A us)∧Bp X S S' (λ n _=>n=i)∧
   ∃ vs,(H8 a (.cell x T)).run X.P S.w = .ok (.agg vs.toArray) S.w∧A5 X.P S' (λ n => .tm i [n]) 0 (A4 t y) vs:=by
 have hop:opT E 0 A (.tmp x)=some (get A x).2:=by show (bif Nat.blt x E.nt then some (get A x).2 else none)=_;rw[hx];rfl
 unfold R4 at h;split at h
 ·rename_i b v hs;rw[hs]at hop;obtain⟨pl,hl⟩:=Cu hE K hg hop;have hlf:Ad X.P S (.pl pl []) (.bp b v 0) (a.eval (.tmp x)):=hl;obtain⟨g1,g2,_,_,g5,S1,K1,g6,G,hls⟩:=Ks K hg h i;have hu:=hlf.2 g1;obtain⟨hm9,c,e,e1,e2,e3,e4⟩:=K.box b _ g2
  have hcells:Bj S.w (S.bb b).1 (S.bb b).2 ((List.range t.sz).map λ i=>S.ph (C b (0+i))):=by
   intro j u hj
   have hj':j<t.sz:=by
    have:=(Wc.1 hj).1
    simpa using this
   have:u=S.ph (C b j):=by simpa[hj'] using hj.symm
   rw[this];simp[World.cell?,e1,e4 j hj']
  have hrun:(H8 a (.cell x T)).run X.P S.w = .ok (.agg ((List.range t.sz).map λ i=>S.ph (C b (0+i))).toArray) S.w:=by
   have hu':a.tmps.getD x undef = .pointer (some ⟨(S.bb b).1,(S.bb b).2+0,none⟩):=hu;unfold H8;simp only[hu',asAddr,Vt,Wh,Vs,Yx];exact Rq (hE.ti T ti hT) hag hcells (by rw[hsz];simp)
  exact⟨S1,K1,g6,G,_,hrun,Fa (Jp h) hy hls⟩
 ·cases h
def Kp (i n:Nat):Prop:=n<i∨500≤n
def Gl.keep {P:Program} {n0 i:Nat} {k:RK} {l:List Lf} {u:Value} (hw:S2.w=S1.w) (hi:∀ q z v,Ad P S1 (.tm i q) z v→Ad P S2 (.tm i q) z v) (ho:∀ q k,S1.O k = .tm (i+500) q→S2.O k = .tm (i+500) q) (h:Gl P S1 n0 i k l u):Gl P S2 n0 i k l u:=by
 cases k with
 |one=>exact A5.impM (λ x hx n u h=>hi _ _ u h) h
 |agg=>
  obtain⟨us,e,h⟩:=h;exact⟨us,e,h.impM (λ x hx n u h=>hi _ _ u h)⟩
 |ptr=>
  obtain⟨k,o,c,e,us,h1,h2,h3,h4,h5,h6,h7,h8⟩:=h;exact⟨k,o,c,e,us,h1,by rw[hw];exact h2,h3,ho _ _ h4,h5,h6,h7,h8.impM (λ x hx n u h=>hi _ _ u h)⟩
def Z7 (hE:Dx X E) (hb0:∀ k b,X.O0 k = .bx b→b<X.np∨1500≤b):∀ (rs:List (RK×Ty)) (rv:List ResultVar) {S:Sit} {A:Ab} {ls ls':List (List Lf)} {us:List Up} (i:Nat),Ae X S a→S.g=get A→i+rs.length<500→L9 E A rs rv=some (ls,us)→Mk (rs.map Prod.snd) ls ls'→
  ∃ S' vs,Ae X S' a∧S'.g=get (ups A us)∧S'.w=S.w∧Bu S S'∧(∀ n q z v,Kp i n→Ad X.P S (.tm n q) z v→Ad X.P S' (.tm n q) z v)∧(∀ n q k,Kp i n→S.O k = .tm n q→S'.O k = .tm n q)∧E6 X.P S' X.w0.heap.size i rs ls' vs∧Ew (λ r v=>(H8 a r).run X.P S.w = .ok v S.w) rv vs
 |[],[],S,A,ls,ls',us,i,K,hg,_,h,hm=>by
  simp only[L9,Vc,Vu]at h;obtain⟨rfl,rfl⟩:=h;refine⟨S,[],K,hg,rfl,.refl S,λ _ _ _ _ _ h=>h,λ _ _ _ _ h=>h,?_,.nil⟩
  cases ls' with
  |nil=>rfl
  |cons=>exact hm.elim
 |[],_::_,S,A,ls,ls',us,i,K,hg,_,h,hm=>by simp[L9]at h
 |(k,t)::ks,[],S,A,ls,ls',us,i,K,hg,_,h,hm=>by cases k<;>simp[L9]at h
 |(k,t)::ks,r::rs,S,A,ls,ls',us,i,K,hg,hi,h,hm=>by
  simp only[Vh]at hi
  have rest:∀ {l:List Lf} {u:List Up} {ls2:List (List Lf)} {us2:List Up} {S1:Sit} {y:t.den} {v:Value},mkW t l=some y→Ae X S1 a→S1.g=get (ups A u)→S1.w=S.w→Bu S S1→(∀ n q z v,n≠i→Ad X.P S (.tm n q) z v→Ad X.P S1 (.tm n q) z v)→(∀ n q k,n≠i→S.O k = .tm n q→S1.O k = .tm n q)→
    Gl X.P S1 X.w0.heap.size i k (A4 t y) v→(H8 a r).run X.P S.w = .ok v S.w→L9 E (ups A u) ks rs=some (ls2,us2)→(∃ ls2',ls'=A4 t y::ls2'∧Mk (ks.map Prod.snd) ls2 ls2')→us=u++us2→
    ∃ S' vs,Ae X S' a∧S'.g=get (ups A us)∧S'.w=S.w∧Bu S S'∧(∀ n q z v,Kp i n→Ad X.P S (.tm n q) z v→Ad X.P S' (.tm n q) z v)∧(∀ n q k,Kp i n→S.O k = .tm n q→S'.O k = .tm n q)∧E6 X.P S' X.w0.heap.size i ((k,t)::ks) ls' vs∧Ew (λ r v=>(H8 a r).run X.P S.w = .ok v S.w) (r::rs) vs:=by
   intro l u ls2 us2 S1 y v hy K1 g1 w1 L1 t1 o1 hres hrun hr2 hmk hus;obtain⟨ls2',rfl,hmk⟩:=hmk;subst hus;obtain⟨S',vs,K',g',w',L',t',o',hall,hruns⟩:=Z7 hE hb0 ks rs (i+1) K1 g1 (by omega) hr2 hmk
   have hk1:∀ n,Kp i n→Kp (i+1) n∧n≠i:=λ n h=>by unfold Kp at *;omega
   refine⟨S',v::vs,K',by rw[Ac];exact g',w'.trans w1,L1.trans L',λ n q z v hn hz=>t' n q z v (hk1 n hn).1 (t1 n q z v (hk1 n hn).2 hz),λ n q k hn hk=>o' n q k (hk1 n hn).1 (o1 n q k (hk1 n hn).2 hk),⟨hres.keep w' (λ q z v=>t' i q z v (by unfold Kp;omega)) (λ q k=>o' _ q k (by unfold Kp;omega)),hall⟩,.cons hrun ?_⟩;rw[w1]at hruns;exact hruns
  cases ls' with
  |nil=>cases ls<;>exact hm.elim
  |cons l' ls2'=>
   cases ls with
   |nil=>exact hm.elim
   |cons l ls2=>
    obtain⟨⟨y,hy,rfl⟩,hmk⟩:=hm
    cases r with
    |tmp x=>
     have h':(bif Nat.blt x E.nt then (match R3 E.np A k t (.tmp x) (get A x).2 with
      |some (l,u)=>(match L9 E (ups A u) ks rs with
       |some (ls,us)=>some (l::ls,u++us)
       |none=>none)
      |none=>none) else none)=some (l::ls2,us):=by
      unfold L9 at h
      cases k<;>exact h
     cases hx:Nat.blt x E.nt
     ·rw[hx]at h';simp at h'
     rw[hx,cond_true]at h';split at h'
     ·rename_i l1 u1 hr1;split at h'
      ·rename_i l2 u2 hr2;simp only[Vc,Vu,Wm]at h';obtain⟨⟨rfl,rfl⟩,rfl⟩:=h'
       by_cases hk:k = .ptr
       ·subst hk;obtain⟨S1,K1,g1,w1,L1,t1,o1,hres⟩:=F9a hE K hg hb0 hx i hr1 hy;exact rest hy K1 g1 w1 L1 (λ n q z v _=>t1 n q z v) (λ n q k _=>o1 n q k) hres rfl hr2 ⟨ls2',rfl,hmk⟩ rfl
       ·obtain⟨S1,K1,g1,G,vs,e1,e2⟩:=F8a hE K hg hx i hk hr1 hy;refine rest hy K1 g1 G.w G.later (λ n q z v hn=>G.tms n q z v hn) (λ n q k hn=>G.tm n q k hn) ?_ (v:=a.eval (.tmp x)) rfl hr2 ⟨ls2',rfl,hmk⟩ rfl
        cases k with
        |ptr=>exact absurd rfl hk
        |one=>
         simp only[K5,Wa,if_false]at e1 e2;subst e1;exact e2
        |agg=>
         simp only[K5,if_true]at e1 e2;exact⟨vs,e1,e2⟩
      ·cases h'
     ·cases h'
    |cell x T=>
     cases k with
     |one=>simp[L9]at h
     |ptr=>simp[L9]at h
     |agg=>
      unfold L9 at h;cases hx:Nat.blt x E.nt
      ·rw[hx]at h;simp at h
      cases hT:E.ti T with
      |none=>rw[hT]at h;simp at h
      |some ti=>
       cases hag:ti.ag&&Nat.beq ti.ty.sz t.sz
       ·rw[hT,hx]at h;simp[hag]at h
       rw[hT,hx]at h;simp only[hag,Bool.and_self,cond_true]at h;simp only[Va]at hag;split at h
       ·rename_i l1 u1 hr1;split at h
        ·rename_i l2 u2 hr2;simp only[Vc,Vu,Wm]at h;obtain⟨⟨rfl,rfl⟩,rfl⟩:=h;obtain⟨S1,K1,g1,G,vs,hrun,e2⟩:=Cka hE K hg hx hT hag.1 (Vb hag.2) i hr1 hy;exact rest hy K1 g1 G.w G.later (λ n q z v hn=>G.tms n q z v hn) (λ n q k hn=>G.tm n q k hn) ⟨vs,rfl,e2⟩ hrun hr2 ⟨ls2',rfl,hmk⟩ rfl
        ·cases h
       ·cases h
def szs:List Par→Bool
 |[]=>true
 |.ptr t t'::ps=>Nat.beq t.sz t'.sz&&szs ps
 |.hid t t'::ps=>Nat.beq t.sz t'.sz&&szs ps
 |_::ps=>szs ps
def H7a {X:Cx} {i n:Nat} (hn:X.np≤1000) (h:i<n) (h2:n-X.np<500):X.pb (bid X.np i):=by
 unfold Cx.pb bid
 cases h3:Nat.blt i X.np with
 |true=>
  have h1:i<X.np:=Vd h3;rw[cond_true];omega
 |false=>rw[cond_false];omega
def Z8 (K:Ae X S a) (hg:S.g=get A) {B:Nat} {f:Nat→Lab}:∀ (ts:List Ty) {j:Nat} {us:List Value},us.length=ts.length→(∀ n,n<ts.length→us[n]? = some (S.ph (C B (j+n))))→A5 X.P S f j (Gia A B j ts) us
 |[],j,[],_,_=>trivial
 |[],j,_::_,h,_=>by simp at h
 |_::_,j,[],h,_=>by simp at h
 |t::ts,j,u::us,hl,hv=>by
  have hu:u=S.ph (C B j):=by simpa using hv 0 (by simp)
  have hr:=Z8 K hg (B:=B) (f:=f) ts (j:=j+1) (us:=us) (by simpa using hl) (λ n hn=>by
   have:=hv (n+1) (by simp;omega);rw[show j+1+n=j+(n+1) by omega]
   simpa using this)
  have sh:Ad X.P S (f j) (Iwa (get A (C B j)).2) u:=by
   have hat:=K.at_ (C B j);rw[hg]at hat;rw[hu]
   cases hs:(get A (C B j)).2 with
   |one x=>
    rw[hs]at hat
    cases x with
    |sc v=>exact Ad.relab (lab := .pl (C B j) []) (x := .sc v) rfl hat
    |fz e r xs=>exact Ad.relab (lab := .pl (C B j) []) (x := .fz e r xs) rfl hat
    |_=>trivial
   |_=>trivial
  cases t with
  |ow e r=>exact⟨⟨by rw[hg];exact Vo _,λ _=>hu⟩,hr⟩
  |_=>exact⟨sh,hr⟩
def Oc (hE:Dx X E) (hnp:X.np≤1000) (hu:∀ k b,X.O0 k = .bx b→∀ k',X.O0 k' = .bx b→k'=k) {hs:List Value}:∀ (ps:List Par) {S:Sit} {A:Ab} {ls ls' la:List (List Lf)} {us:List Value} (i:Nat),Ae X S a→S.g=get A→i+ps.length-X.np<500→szs ps=true→X3 X.np A i ps=some ls→Mk (Cw ps) ls ls'→
  Fp X.P (bare X.O0 X.w0) X.rg X.np hs i ps la us→(∀ j ag t,ps[j]? = some (.io ag t)→∃ u vs,us[j]? = some u∧(if ag then u = .agg vs.toArray else vs=[u])∧vs.length=t.sz∧∀ n,n<t.sz→vs[n]? = some (X.v0 (C (3000+(i+j)) n)))→
  ∃ S',Ae X S' a∧S'.w=S.w∧Bu S S'∧(∀ n q z v,n<1001+i→Ad X.P S (.tm n q) z v→Ad X.P S' (.tm n q) z v)∧(∀ n q k,n<1001+i→S.O k = .tm n q→S'.O k = .tm n q)∧Fg X.P S' i ps us ls'
 |[],S,A,ls,ls',la,us,i,K,hg,hn,hz,h,hm,ha,_=>by
  refine⟨S,K,rfl,.refl S,λ _ _ _ _ _ h=>h,λ _ _ _ _ h=>h,?_⟩;simp only[X3,Vc]at h;subst h
  cases ls' with
  |nil=>rfl
  |cons=>exact hm.elim
 |p::ps,S,A,ls,ls',la,us,i,K,hg,hn,hz,h,hm,ha,hv=>by
  cases la with
  |nil=>exact ha.elim
  |cons l0 la=>
   cases us with
   |nil=>exact ha.elim
   |cons u us=>
    simp only[Vh]at hn;obtain⟨ha1,ha2⟩:=ha
    have hv2:∀ j ag t,ps[j]? = some (.io ag t)→∃ u vs,us[j]? = some u∧(if ag then u = .agg vs.toArray else vs=[u])∧vs.length=t.sz∧∀ n,n<t.sz→vs[n]? = some (X.v0 (C (3000+(i+1+j)) n)):=λ j ag t hj=>by
     obtain⟨u',vs,k1,k2⟩:=hv (j+1) ag t (by simpa using hj);rw[show i+1+j=i+(j+1) by omega];exact⟨u',vs,by simpa using k1,k2⟩
    have skip:szs ps=true→X3 X.np A (i+1) ps=some ls→Mk (Cw ps) ls ls'→(∀ {S':Sit},Fg X.P S' (i+1) ps us ls'→Fg X.P S' i (p::ps) (u::us) ls')→
      ∃ S',Ae X S' a∧S'.w=S.w∧Bu S S'∧(∀ n q z v,n<1001+i→Ad X.P S (.tm n q) z v→Ad X.P S' (.tm n q) z v)∧(∀ n q k,n<1001+i→S.O k = .tm n q→S'.O k = .tm n q)∧Fg X.P S' i (p::ps) (u::us) ls':=by
     intro hz h hm hb;obtain⟨S',K',w',L',t',o',b'⟩:=Oc hE hnp hu ps (i+1) K hg (by omega) hz h hm ha2 hv2;exact⟨S',K',w',L',λ n q z v hn=>t' n q z v (by omega),λ n q k hn=>o' n q k (by omega),hb b'⟩
    have box:∀ {t t':Ty},(Nat.beq t.sz t'.sz&&szs ps)=true→My X.P (bare X.O0 X.w0) X.rg (bid X.np i) t l0 u→(match Ega A (bid X.np i) t' with
      |some (l,us)=>(match X3 X.np (ups A us) (i+1) ps with
       |some ls=>some (l::ls)
       |none=>none)
      |none=>none)=some ls→Mk (t'::Cw ps) ls ls'→(∀ {S':Sit} {l':List Lf} {ls2:List (List Lf)},ls'=l'::ls2→Mz X.P S' i t' l' u→Fg X.P S' (i+1) ps us ls2→Fg X.P S' i (p::ps) (u::us) ls')→
      ∃ S',Ae X S' a∧S'.w=S.w∧Bu S S'∧(∀ n q z v,n<1001+i→Ad X.P S (.tm n q) z v→Ad X.P S' (.tm n q) z v)∧(∀ n q k,n<1001+i→S.O k = .tm n q→S'.O k = .tm n q)∧Fg X.P S' i (p::ps) (u::us) ls':=by
     intro t t' hz ha1 h hm hb;simp only[Va]at hz;have hsz:t.sz=t'.sz:=Vb hz.1;split at h
     ·rename_i l1 us1 hgive;split at h
      ·rename_i ls2 h2;cases h
       cases ls' with
       |nil=>exact hm.elim
       |cons l' ls2'=>
        obtain⟨⟨y,hy,rfl⟩,hmk⟩:=hm;obtain⟨g1,g2,_,_,g5,S1,K1,g6,G,hls⟩:=Ks K hg hgive (1001+i);obtain⟨S2,K2,w2,L2,t2,o2,b2⟩:=Oc hE hnp hu ps (i+1) K1 g6 (by omega) hz.2 h2 hmk ha2 hv2;obtain⟨hm9,c,e,e1,e2,e3,e4⟩:=K.box _ _ g2;obtain⟨r1,r2,_⟩:=K.rgn _ _ g2;have hpb:X.pb (bid X.np i):=H7a (n:=i+(ps.length+1)) hnp (by omega) hn;obtain⟨r3,r4,r5⟩:=r1 (Q5 (n:=i+(ps.length+1)) (by omega) hnp hn) (r2 hpb);obtain⟨k,o,c0,e0,vs,rfl,f2,f3,f4,f5,f6,f7,f8,f9⟩:=ha1;have hk:(S.bb (bid X.np i)).1=k:=hu k _ f3 _ r3;rw[f4]at r4 r5;simp only at r4 r5
        have ho:(S.bb (bid X.np i)).2=o:=by omega
        refine⟨S2,K2,w2.trans G.w,G.later.trans L2,λ n q z v hn hz=>t2 n q z v (by omega) (G.tms n q z v (by omega) hz),λ n q k hn hk=>o2 n q k (by omega) (G.tm n q k (by omega) hk),hb rfl ⟨k,o,c,e,(List.range t'.sz).map (λ j=>S.ph (C (bid X.np i) (0+j))),rfl,?_,Ch t' y,λ j hj=>?_,?_⟩ b2⟩
        ·rw[w2,G.w,← hk];exact e1
        ·rw[← ho,e4 j hj];simp[hj]
        ·exact(Fa (Jp hgive) hy hls).impM (λ z hz n u hu=>t2 _ _ z u (by omega) hu)
      ·cases h
     ·cases h
    cases p with
    |io ag t=>
     have h':(match Bw A (Ck t) (Gia A (3000+i) 0 (Ck t)) with
      |some (l,us)=>bif A3 l then (match X3 X.np (ups A us) (i+1) ps with
       |some ls=>some (l::ls)
       |none=>none) else none
      |none=>none)=some ls:=h
     obtain⟨u',vs,k1,k2,k3,k4⟩:=hv 0 ag t rfl;simp only[Zj,Vc]at k1;subst k1;split at h'
     ·rename_i l1 us1 hx;obtain⟨hst,h'⟩:=cs h';split at h'
      ·rename_i ls2 h2;cases h'
       cases ls' with
       |nil=>exact hm.elim
       |cons l' ls2'=>
        obtain⟨⟨y,hy,rfl⟩,hmk⟩:=hm
        have hC:∀ n,n<t.sz→3001000≤C (3000+i) n:=λ n _=>by simp only[C];omega
        have hl0:=Z8 (B:=3000+i) (f:=λ n => .tm (1001+i) [n]) K hg (Ck t) (j:=0) (us:=vs) (by rw[k3,Ec]) (λ n hn=>by
         rw[Ec]at hn;rw[Vy,K.io _ (hC n hn)]
         exact k4 n hn)
        obtain⟨S1,K1,g6,G,hls⟩:=H5 (1001+i) (λ n=>[n]) (Ck t) _ K hg hx hst hl0 (λ n n' _ _ _ _ e=>by simpa using e);obtain⟨S2,K2,w2,L2,t2,o2,b2⟩:=Oc hE hnp hu ps (i+1) K1 g6 (by omega) hz h2 hmk ha2 hv2;exact⟨S2,K2,w2.trans G.w,G.later.trans L2,λ n q z v hn hz=>t2 n q z v (by omega) (G.tms n q z v (λ h=>by have:=h.1;omega) hz),λ n q k hn hk=>o2 n q k (by omega) (G.tm n q k (λ h=>by have:=h.1;omega) hk),⟨vs,k2,(Fa (Eu _ _ hx) hy hls).impM (λ z hz n u hu=>t2 _ _ z u (by omega) hu)⟩,b2⟩
      ·cases h'
     ·cases h'
    |val ag t=>exact skip hz h hm (λ h=>h)
    |vw t h0=>exact skip hz h hm (λ h=>h)
    |rd t=>exact skip hz h hm (λ h=>h)
    |fn F m=>exact skip hz h hm (λ h=>h)
    |ptr t t'=>exact box hz ha1.2 h hm (λ e h1 h2=>by subst e;exact⟨h1,h2⟩)
    |hid t t'=>exact box hz ha1.2 h hm (λ e h1 h2=>by subst e;exact⟨h1,h2⟩)
end
end

section
attribute [local irreducible] C H
def Te {P:Program} {w:World} {a:Act}:∀ {rv:List ResultVar} {vs:List Value},Ew (λ r v=>(H8 a r).run P w = .ok v w) rv vs→(rv.mapM (H8 a)).run P w = .ok vs w
 |_,_,.nil=>rfl
 |_,_,.cons h hs=>by
  rw[List.mapM_cons];simp only[Vt,h,Vs,Te hs,Wh]
def Rr {P:Program} {w:World} {a:Act} {fn:Func} {vs:List Value} (h:Ew (λ r v=>(H8 a r).run P w = .ok v w) fn.results.toList vs):
  (results fn a.tmps).run P w = .ok (if h:vs.length=1 then vs[0] else .tuple vs.toArray) w:=by
 refine Eq.trans (b:=(do let vs ← fn.results.mapM (H8 a);pure (if h:vs.size=1 then vs[0] else .tuple vs):Sem Value).run P w) ?_ ?_
 ·unfold results;refine congrArg (λ (f:ResultVar→Sem Value)=>Sem.run P (do let vs ← fn.results.mapM f;pure (if h:vs.size=1 then vs[0] else Value.tuple vs):Sem Value) w) (?_:_=H8 a);funext x
  cases x<;>rfl
 rw[Kra];simp only[map_eq_pure_bind,Vt,Te h,Vs,Wh];simp
def Rs:∀ (ts us:List Ty) (x:Den (ts++us)) (ls ls':List (List Lf)),ls.length=ts.length→Mk (ts++us) (ls++ls') (An (ts++us) x)→
  Mk ts ls ((An (ts++us) x).take ts.length)∧Mk us ls' ((An (ts++us) x).drop ts.length)
 |[],us,x,[],ls',_,h=>⟨trivial,h⟩
 |[],us,x,_::_,ls',hl,h=>by simp at hl
 |t::ts,us,x,[],ls',hl,h=>by simp at hl
 |t::ts,us,x,l::ls,ls',hl,h=>by
  have key:∀ (ts us:List Ty) (ls ls' lx:List (List Lf)),ls.length=ts.length→Mk (ts++us) (ls++ls') lx→Mk ts ls (lx.take ts.length)∧Mk us ls' (lx.drop ts.length):=by
   intro ts
   induction ts with
   |nil=>
    intro us ls ls' lx hl h
    cases ls with
    |nil=>exact⟨trivial,h⟩
    |cons=>simp at hl
   |cons t ts ih=>
    intro us ls ls' lx hl h
    cases ls with
    |nil=>simp at hl
    |cons l ls=>
     cases lx with
     |nil=>exact h.elim
     |cons lx1 lx=>
      obtain⟨h1,h2⟩:=ih us ls ls' lx (by simpa using hl) h.2;exact⟨⟨h.1,h1⟩,h2⟩
  exact key (t::ts) us (l::ls) ls' _ hl h
def Od {E:En}:∀ (rs:List (RK×Ty)) (rv:List ResultVar) (A:Ab) (ls:List (List Lf)) (us:List Up),L9 E A rs rv=some (ls,us)→ls.length=rs.length
 |[],[],A,ls,us,h=>by
  simp only[L9,Vc,Vu]at h;obtain⟨rfl,rfl⟩:=h;rfl
 |[],_::_,A,ls,us,h=>by simp[L9]at h
 |(k,t)::ks,[],A,ls,us,h=>by cases k<;>simp[L9]at h
 |(k,t)::ks,.tmp x::rs,A,ls,us,h=>by
  have h':(bif Nat.blt x E.nt then (match R3 E.np A k t (.tmp x) (get A x).2 with
   |some (l,u)=>(match L9 E (ups A u) ks rs with
    |some (ls,us)=>some (l::ls,u++us)
    |none=>none)
   |none=>none) else none)=some (ls,us):=by
   unfold L9 at h
   cases k<;>exact h
  cases hx:Nat.blt x E.nt
  ·rw[hx]at h';simp at h'
  rw[hx,cond_true]at h';split at h'
  ·split at h'
   ·rename_i hr;simp only[Vc,Vu]at h';obtain⟨rfl,rfl⟩:=h';simp[Od ks rs _ _ _ hr]
   ·cases h'
  ·cases h'
 |(.agg,t)::ks,.cell x T::rs,A,ls,us,h=>by
  unfold L9 at h;generalize (Nat.blt x E.nt&&(match E.ti T with|some ti=>ti.ag&&Nat.beq ti.ty.sz t.sz|none=>false))=bb at h;cases bb
  ·simp at h
  rw[cond_true]at h;split at h
  ·split at h
   ·rename_i hr;cases h;simp[Od ks rs _ _ _ hr]
   ·cases h
  ·cases h
 |(.one,t)::ks,.cell x T::rs,A,ls,us,h=>by simp[L9]at h
 |(.ptr,t)::ks,.cell x T::rs,A,ls,us,h=>by simp[L9]at h
def Cy.of {P:Program} {S:Sit} {n0:Nat} {rs:List (RK×Ty)} {ls:List (List Lf)} {vs:List Value} (h:E6 P S n0 1 rs ls vs) (ll:List (List Lf)):Cy P S n0 rs (ls++ll) (if h:vs.length=1 then vs[0] else .tuple vs.toArray):=by
 have len:∀ (rs:List (RK×Ty)) (i:Nat) (ls:List (List Lf)) (vs:List Value),E6 P S n0 i rs ls vs→vs.length=rs.length:=by
  intro rs
  induction rs with
  |nil=>intro i ls vs h;(have:vs=[]:=by (cases ls<;>exact h));subst this;rfl
  |cons r rs ih=>
   intro i ls vs h
   cases ls with
   |nil=>exact h.elim
   |cons l ls=>
    cases vs with
    |nil=>exact h.elim
    |cons v vs=>simp[ih _ _ _ h.2]
 have ext:∀ (rs:List (RK×Ty)) (i:Nat) (ls:List (List Lf)) (vs:List Value),E6 P S n0 i rs ls vs→E6 P S n0 i rs (ls++ll) vs:=by
  intro rs
  induction rs with
  |nil=>intro i ls vs h;(have:vs=[]:=by (cases ls<;>exact h));subst this;cases (ls++ll)<;>rfl
  |cons r rs ih=>
   intro i ls vs h
   cases ls with
   |nil=>exact h.elim
   |cons l ls=>
    cases vs with
    |nil=>exact h.elim
    |cons v vs=>exact⟨h.1,ih _ _ _ h.2⟩
 have hl:=len rs 1 ls vs h;have he:=ext rs 1 ls vs h;unfold Cy;split
 ·rename_i r;have h1:vs.length=1:=hl;obtain⟨v,rfl⟩:=K9a.1 h1
  cases ls with
  |nil=>exact h.elim
  |cons l ls=>exact⟨l,ls++ll,rfl,h.1⟩
 ·rename_i hne;refine⟨vs,?_,he⟩;rw[dif_neg];intro h1;rw[hl]at h1;obtain⟨r,hr⟩:=K9a.1 h1;exact hne r hr
def Rt (en:Ent):Bool:=El en.nv 0 en.ps&&szs en.ps&&Nat.blt (en.ps.length-en.nv) 500&&Nat.blt en.rs.length 400
def Us {P:Program} {f:FuncId} {fn:Func} {c:Code} {en:Ent} {E:En} (hf:P.funcs[f]? = some fn) (hb:fn.body=some c) (hnt:fn.ntmps≤1000) (hps:en.nv≤fn.ntmps)
  (hV:∀ X:Cx,X.P=P→X.nt=fn.ntmps→X.np=en.nv→Lv X E) (hD:∀ X:Cx,X.P=P→X.nt=fn.ntmps→X.np=en.nv→Q2 X E) (hL:∀ X:Cx,X.P=P→X.nt=fn.ntmps→X.np=en.nv→Fi X E c)
  (hpl:Rt en=true) (heq:∀ x,X4 E c fn.results.toList en x=en.run x):Ewa P f en:=by
 intro x r hr w O rg us hlt hbx hargs;rw[← heq]at hr;unfold Rt at hpl;simp only[Va]at hpl;obtain⟨⟨⟨hp1,hp2⟩,hp3⟩,hp4⟩:=hpl;have hp3:en.ps.length-en.nv<500:=Vd hp3;have hp4:en.rs.length<400:=Vd hp4
 let X:Cx:=⟨P,O,w,rg,fn.ntmps,en.nv,ioV en.ps us⟩
 have hsol:=D6 (en.ps.map Par.ty) x
 have hioV:∀ (j:Nat) (ag:Bool) (t:Ty),en.ps[j]? = some (.io ag t)→∃ u vs,us[j]? = some u∧(if ag then u = .agg vs.toArray else vs=[u])∧vs.length=t.sz∧∀ n,n<t.sz→vs[n]? = some (ioV en.ps us (C (3000+(0+j)) n)):=λ j ag t hj=>by
  obtain⟨l,u,h1,⟨_,h3,h4⟩,vs,h5,h6⟩:=hargs.at hj
  have hlen:vs.length=t.sz:=by rw[← h4];exact h6.len
  refine⟨u,vs,h1,h5,hlen,λ n hn=>?_⟩
  have hC:C (3000+(0+j)) n/1000-3001=j∧C (3000+(0+j)) n % 1000=n:=by simp only[C];omega
  unfold ioV;rw[hC.1,hC.2,hj,h1];have hvn:vs[n]? = some vs[n]:=Vp (by omega);cases ag
  ·simp only[Wa,if_false]at h5;subst h5
   have:n=0:=by simp only[Vh,Vz]at hlen;omega
   subst this;rfl
  ·simp only[if_true]at h5;subst h5;simp[We,hvn]
 have K0:Ae X (S0 en.nv en.ps (An _ x) us O w) ⟨(us.take en.nv).toArray++Array.replicate (fn.ntmps-(us.take en.nv).toArray.size) undef,[]⟩:=
  Cja hnt hlt (λ k b h=>(hbx k b h).2.1) hargs hsol hps hp1 hp3
 refine calls_of_wp hf hb ?_;refine Q4 (X:=X) (S:=S0 en.nv en.ps (An _ x) us O w) (hV X rfl rfl rfl) (hD X rfl rfl rfl) c (hL X rfl rfl rfl) K0 rfl hr ?_;intro e S a A K hg h;have hE:=(hV X rfl rfl rfl).en
 have hb0:∀ k b,O k = .bx b→b<en.nv∨1500≤b:=λ k b hk=>by
  obtain⟨i,h1,h2⟩:=(hbx k b hk).1;subst h2;unfold bid
  cases h3:Nat.blt i en.nv with
  |true=>exact .inl (Vd h3)
  |false=>rw[cond_false];exact .inr (by omega)
 have fin:Gb E (E.gh 1000000) A (λ A=>match L9 E A en.rs fn.results.toList with
   |some (ls,us)=>(match X3 en.nv (ups A us) 0 en.ps with
    |some bs=>Ib (en.rs.map Prod.snd++Cw en.ps) (ls++bs)
    |none=>none)
   |none=>none)=some r→bodyPost P fn (λ e w'=>∃ v O',e = .returned v∧Fr O w rg O' w'∧(∀ k,O' k ≠ .no→k<w'.heap.size)∧Cy P (bare O' w') w.heap.size en.rs (An _ r) v∧Fg P (bare O' w') 0 en.ps us ((An _ r).drop en.rs.length)) .ret a S.w:=by
  intro h;obtain⟨A,S0',h,K,hg,w0'⟩:=G6 hE _ K hg h;rw[← w0'];split at h
  ·rename_i ls1 us1 h1;split at h
   ·rename_i bs h2;have hmk:=Iv _ _ _ h;have hlen:=Od _ _ _ _ _ h1;obtain⟨m1,m2⟩:=Rs (en.rs.map Prod.snd) (Cw en.ps) r ls1 bs (by simpa using hlen) hmk;rw[Yj]at m1 m2;obtain⟨S1,vs,K1,g1,w1,L1,_,_,hall,hruns⟩:=Z7 hE hb0 en.rs fn.results.toList 1 K hg (by omega) h1 m1;obtain⟨S2,K2,w2,L2,t2,o2,hback⟩:=Oc hE (show en.nv≤1000 by omega) (λ k b hk=>(hbx k b hk).2.2) en.ps 0 K1 g1 (by show 0+en.ps.length-en.nv<500;omega) hp2 h2 m2 hargs hioV;have hsolr:=D6 _ r
    have hall2:E6 P (bare S2.O S2.w) w.heap.size 1 en.rs ((An _ r).take en.rs.length) vs:=by
     have key:∀ (rs:List (RK×Ty)) (i:Nat) (ls:List (List Lf)) (us:List Value),i+rs.length<500→(∀ l∈ls,∀ y∈l,Cd y=true)→E6 P S1 w.heap.size i rs ls us→E6 P (bare S2.O S2.w) w.heap.size i rs ls us:=by
      intro rs
      induction rs with
      |nil=>intro i ls us _ _ h;exact h
      |cons r rs ih=>
       intro i ls us hi hs h;simp only[Vh]at hi
       cases ls with
       |nil=>exact h.elim
       |cons l ls=>
        cases us with
        |nil=>exact h.elim
        |cons u us=>
         refine⟨?_,ih (i+1) ls us (by omega) (λ l hl=>hs l (Ve _ hl)) h.2⟩;have hl:∀ q z v,Cd z=true→Ad P S1 (.tm i q) z v→Ad P (bare S2.O S2.w) (.tm i q) z v:=λ q z v hz hv=>Ad.bare (S1:=S2) hz rfl (λ k hk=>hk) (λ k hk=>hk) (t2 i q z v (by omega) hv);have h1:=h.1;generalize r.1=k at h1 ⊢
         cases k with
         |one=>exact A5.impM (λ x hx n u h=>hl _ _ u (hs l (by simp) x hx) h) h1
         |agg=>
          obtain⟨us,e,h⟩:=h1;exact⟨us,e,h.impM (λ x hx n u h=>hl _ _ u (hs l (by simp) x hx) h)⟩
         |ptr=>
          obtain⟨k,o,c,e,us,h1,h2,h3,h4,h5,h6,h7,h8⟩:=h1;exact⟨k,o,c,e,us,h1,by show S2.w.heap[k]? = _;rw[w2];exact h2,h3,o2 _ _ _ (by omega) h4,h5,h6,h7,h8.impM (λ x hx n u h=>hl _ _ u (hs l (by simp) x hx) h)⟩
     exact key _ _ _ _ (by omega) (λ l hl=>hsolr l (List.mem_of_mem_take hl)) hall
    have hback2:Fg P (bare S2.O S2.w) 0 en.ps us ((An _ r).drop en.rs.length):=by
     have one:∀ {i:Nat} {t':Ty} {l:List Lf} {u:Value},(∀ y∈l,Cd y=true)→Mz P S2 i t' l u→Mz P (bare S2.O S2.w) i t' l u:=by
      rintro i t' l u hs ⟨k,o,c,e,vs,q1,q2,q3,q4,q5⟩;exact⟨k,o,c,e,vs,q1,q2,q3,q4,q5.impM (λ y hy n u hu=>Ad.bare (S1:=S2) (hs y hy) rfl (λ k hk=>hk) (λ k hk=>hk) hu)⟩
     have ioK:∀ {i:Nat} {ag:Bool} {l:List Lf} {u:Value},(∀ y∈l,Cd y=true)→Iaa P S2 i ag l u→Iaa P (bare S2.O S2.w) i ag l u:=by
      rintro i ag l u hs ⟨vs,q1,q5⟩;exact⟨vs,q1,q5.impM (λ y hy n u hu=>Ad.bare (S1:=S2) (hs y hy) rfl (λ k hk=>hk) (λ k hk=>hk) hu)⟩
     have key:∀ (ps:List Par) (i:Nat) (us:List Value) (ls:List (List Lf)),(∀ l∈ls,∀ y∈l,Cd y=true)→Fg P S2 i ps us ls→Fg P (bare S2.O S2.w) i ps us ls:=by
      intro ps
      induction ps with
      |nil=>intro i us ls _ h;exact h
      |cons p ps ih=>
       intro i us ls hs h
       cases p<;>cases us<;>first|exact h.elim|skip
       all_goals first|exact ih _ _ _ hs h|skip
       all_goals
        cases ls with
        |nil=>exact h.elim
        |cons l ls=>first
         |exact⟨one (hs l (by simp)) h.1,ih _ _ _ (λ l hl=>hs l (Ve _ hl)) h.2⟩
         |exact⟨ioK (hs l (by simp)) h.1,ih _ _ _ (λ l hl=>hs l (Ve _ hl)) h.2⟩
     exact key _ _ _ _ (λ l hl=>hsolr l (Jza hl)) hback
    have hres:=Cy.of hall2 ((An _ r).drop en.rs.length);rw[Wi]at hres;have hw:S2.w=S0'.w:=w2.trans w1;rw[hw]at hres hback2;refine⟨K.df,_,Rr hruns,_,S2.O,rfl,?_,?_,hres,hback2⟩
    ·rw[← hw];exact K2.fr
    ·rw[← hw];exact K2.lt
   ·cases h
  ·cases h
 cases e with
 |exit i=>cases h
 |normal=>exact fin h
 |ret=>exact fin h
end

section
attribute [local irreducible] C H
def Ag (A A':Ab) (F:List Nat):Prop:=∀ p∈F,get A' p=get A p
def RB (A:Ab) (F:List Nat) (b lo:Nat):Prop:=H b∈F∧∀ n,(get A (H b)).2 = .one (.hd n)→∀ j,lo≤j→j<n→C b j∈F∧∀ p v,(get A (C b j)).2 = .one (.al p v)→p∈F
def RL (A:Ab) (F:List Nat):Lf→Prop
 |.al p _=>p∈F
 |.ep p _ _ _=>p∈F
 |.da p _ _ _ _ _=>p∈F
 |.dp p _ _ _ _ _ _ _=>p∈F
 |.bp b _ off=>RB A F b off
 |.fn _ bs=>∀ c∈bs,RB A F c.1 0
 |_=>True
def RX (A:Ab) (F:List Nat):Operand→Prop
 |.tmp t=>t∈F∧∀ y∈parts (get A t).2,RL A F y
 |_=>True
def H9 (u:Up):Prop:=u.s = .one .dead∨∃ e r,∃ xs:List (Ty.den r),u.s = .one (.fz e r xs)
section
variable {E:En} {A A':Ab} {F:List Nat} {o:Oper} {R:Type} {Kc:List Up→Option R} {r:R}
def Z9 {b:Nat}:∀ {n j:Nat},(∀ p∈rdC A b j n,p∈F)→∀ i,i<n→C b (j+i)∈F∧∀ p v,(get A (C b (j+i))).2 = .one (.al p v)→p∈F
 |0,j,h,i,hi=>by omega
 |n+1,j,h,i,hi=>by
  unfold rdC at h
  cases i with
  |zero=>
   refine⟨h _ (by simp),λ p v hp=>h p ?_⟩;rw[Yx]at hp;rw[hp];simp
  |succ i=>
   rw[show j+(i+1)=j+1+i by omega];exact Z9 (n:=n) (j:=j+1) (λ p hp=>h p (Ve _ (Vg _ hp))) i (by omega)
def Zv {b lo:Nat} (h:∀ p∈H b::(match (get A (H b)).2 with | .one (.hd n)=>rdC A b lo (n-lo)|_=>[]),p∈F):RB A F b lo:=by
 refine⟨h _ (by simp),λ n hn j hl hj=>?_⟩;rw[hn]at h;have:=Z9 (A:=A) (F:=F) (b:=b) (n:=n-lo) (j:=lo) (λ p hp=>h p (Ve _ hp)) (j-lo) (by omega);rwa [show lo+(j-lo)=j by omega]at this
def H8a {y:Lf} (h:∀ p∈rdL A y,p∈F):RL A F y:=by
 cases y with
 |al p v=>exact h p (by simp[rdL])
 |ep p v i off=>exact h p (by simp[rdL])
 |da p v pi e r xs=>exact h p (by simp[rdL])
 |dp p v pi e r xs i off=>exact h p (by simp[rdL])
 |bp b v off=>exact Zv h
 |fn f bs=>exact λ c hc=>Zv (lo:=0) λ p hp=>h p (List.mem_flatMap.2 ⟨c,hc,hp⟩)
 |_=>trivial
def Zw:∀ {l:List Lf},(∀ p∈I2a A l,p∈F)→∀ y∈l,RL A F y
 |[],_,y,hy=>by simp at hy
 |z::l,h,y,hy=>by
  unfold I2a at h;rcases Vk.1 hy with rfl|hy
  ·exact H8a λ p hp=>h p (Vq _ hp)
  ·exact Zw (λ p hp=>h p (Vg _ hp)) y hy
def H9a {x:Operand} (h:∀ p∈rdO A x,p∈F):RX A F x:=by
 cases x with
 |tmp t=>
  unfold rdO at h;exact⟨h t (by simp),Zw λ p hp=>h p (Ve _ hp)⟩
 |_=>trivial
def Oe:∀ {l:List Operand},(∀ p∈Bda A l,p∈F)→∀ x∈l,RX A F x
 |[],_,y,hy=>by simp at hy
 |z::l,h,y,hy=>by
  unfold Bda at h;rcases Vk.1 hy with rfl|hy
  ·exact H9a λ p hp=>h p (Vq _ hp)
  ·exact Oe (λ p hp=>h p (Vg _ hp)) y hy
def Ly (A:Ab) (u:Up) (p:Nat):get (up A u) p=if p=u.l then ((bif u.keep then (get A u.l).1 else (get A u.l).1+1),u.s) else get A p:=by
 rw[Fm];unfold upd;rfl
def Ag.up (h:Ag A A' F) (u:Up):Ag (up A u) (up A' u) F:=by
 intro p hp;rw[Ly,Ly]
 by_cases e:p=u.l
 ·subst e;rw[if_pos rfl,if_pos rfl,h _ hp]
 ·rw[if_neg e,if_neg e,h _ hp]
def Ag.ups:∀ {U:List Up} {A A':Ab},Ag A A' F→Ag (ups A U) (ups A' U) F
 |[],_,_,h=>h
 |u::U,_,_,h=>Ag.ups (U:=U) (h.up u)
def RB.up {b lo:Nat} (h:RB A F b lo) {u:Up} (hu:H9 u):RB (Vf.up A u) F b lo:=by
 have key:∀ q,(get (Vf.up A u) q).2=(get A q).2∨(get (Vf.up A u) q).2=u.s:=by
  intro q;rw[Ly]
  by_cases e:q=u.l
  ·rw[if_pos e];exact .inr rfl
  ·rw[if_neg e];exact .inl rfl
 refine⟨h.1,λ n hn j hlo hj=>?_⟩
 have hn':(get A (H b)).2 = .one (.hd n):=by
  rcases key (H b) with k|k
  ·rw[← k];exact hn
  ·rw[k]at hn
   rcases hu with hu|⟨e,r,xs,hu⟩<;>rw[hu]at hn<;>cases hn
 obtain⟨h1,h2⟩:=h.2 n hn' j hlo hj;refine⟨h1,λ p v hp=>?_⟩;rcases key (C b j) with k|k
 ·exact h2 p v (by rw[← k];exact hp)
 ·rw[k]at hp
  rcases hu with hu|⟨e,r,xs,hu⟩<;>rw[hu]at hp<;>cases hp
def RB.ups {b lo:Nat}:∀ {U:List Up} {A:Ab},RB A F b lo→(∀ u∈U,H9 u)→RB (Vf.ups A U) F b lo
 |[],_,h,_=>h
 |u::U,_,h,hu=>RB.ups (U:=U) (h.up (hu u (by simp))) (λ v hv=>hu v (Ve _ hv))
def RL.up {y:Lf} (h:RL A F y) {u:Up} (hu:H9 u):RL (Vf.up A u) F y:=by
 cases y with
 |al p v=>exact h
 |ep p v i off=>exact h
 |da p v pi e r xs=>exact h
 |dp p v pi e r xs i off=>exact h
 |bp b v off=>exact RB.up h hu
 |fn f bs=>exact λ c hc=>(h c hc).up hu
 |_=>trivial
def RX.up {x:Operand} (h:RX A F x) {u:Up} (hu:H9 u):RX (Vf.up A u) F x:=by
 cases x with
 |tmp t=>
  refine⟨h.1,λ y hy=>?_⟩;rw[Ly]at hy
  by_cases e:t=u.l
  ·rw[if_pos e]at hy;rcases hu with hu|⟨e',r,xs,hu⟩
   ·rw[hu]at hy;simp only[parts,Vx]at hy;subst hy;trivial
   ·rw[hu]at hy;simp only[parts,Vx]at hy;subst hy;trivial
  ·rw[if_neg e]at hy;exact(h.2 y hy).up hu
 |_=>trivial
def RX.ups {x:Operand}:∀ {U:List Up} {A:Ab},RX A F x→(∀ u∈U,H9 u)→RX (Vf.ups A U) F x
 |[],_,h,_=>h
 |u::U,_,h,hu=>RX.ups (U:=U) (h.up (hu u (by simp))) (λ v hv=>hu v (Ve _ hv))
def Ah {x:Operand} {T:TypeId} (h:Ag A A' F) (hx:RX A F x):opT E T A' x=opT E T A x:=by
 cases x with
 |tmp t=>show (bif Nat.blt t E.nt then some (get A' t).2 else none)=(bif Nat.blt t E.nt then some (get A t).2 else none);rw[h t hx.1]
 |const v=>
  unfold opT
  cases v<;>first|rfl|skip
  rename_i a b c
  cases a<;>cases b<;>cases c<;>rfl
 |func f=>rfl
 |global g=>rfl
def Ha {x:Operand} {T:TypeId} {s:Sv} (hx:RX A F x) (h:opT E T A x=some s):∀ y∈parts s,RL A F y:=by
 unfold opT at h;split at h
 ·rename_i t;cases hb:Nat.blt t E.nt
  ·simp[hb]at h
  simp only[hb,cond_true,Vc]at h;rw[← h];exact hx.2
 ·split at h
  ·cases h;intro y hy;simp only[parts,Vx]at hy;subst hy;trivial
  ·cases h
 ·rename_i v _;cases hs:Qu v
  ·simp[hs]at h
  simp only[hs,cond_true,Vc]at h;subst h;intro y hy;simp only[parts,Vx]at hy;subst hy;trivial
 ·cases h;intro y hy;simp only[parts,Vx]at hy;subst hy;trivial
 ·cases h
def Cz {x:Operand} {T:TypeId} {y:Lf} (hx:RX A F x) (h:opT E T A x=some (.one y)):RL A F y:=Ha hx h y (by simp[parts])
def AL (F:List Nat):Lf→Prop
 |.al p _=>p∈F
 |_=>True
def RL.al {y:Lf} (h:RL A F y):AL F y:=by
 cases y<;>first|trivial|exact h
def C4 {y:Lf} (h:Ag A A' F) (hy:AL F y):E8 A' y=E8 A y:=by
 cases y with
 |al p v=>simp only[E8];rw[h p hy]
 |_=>rfl
def Zx {y:Lf} (h:Ag A A' F) (hy:RL A F y):Nd A' y=Nd A y:=by
 cases y with
 |da p v pi e r xs=>simp only[Nd];rw[h p hy]
 |_=>exact C4 h hy.al
def Cla (h:Ag A A' F) {l:List Lf} (hy:∀ y∈l,RL A F y):l.map (λ y=>Fu (Nd A' y))=l.map (λ y=>Fu (Nd A y)):=Zs λ y hm=>by rw[Zx h (hy y hm)]
def Tf {y:Lf} (h:Ag A A' F) (hy:RL A F y):Qv A' y=Qv A y:=by
 cases y with
 |da p v pi e r xs=>simp only[Qv];rw[h p hy]
 |_=>simp only[Qv,C4 h hy.al]
def Lz:∀ {l:List Lf} {A A':Ab},Ag A A' F→(∀ y∈l,AL F y)→Ej A' l=Ej A l
 |[],_,_,_,_=>rfl
 |y::l,A,A',h,hy=>by
  have h1:AL F y:=hy y (by simp);have h2:∀ z∈l,AL F z:=λ z hz=>hy z (Ve _ hz)
  cases y with
  |al p v=>
   unfold Ej;rw[C4 h h1,Lz (h.up ⟨p,false,.one .dead⟩) h2]
  |_=>simp only[Ej,Lz h h2]
def Zy {x:Operand} {s:Sv} (h:Ag A A' F) (hy:∀ y∈parts s,AL F y):W0 A' x s=W0 A x s:=by
 unfold W0;rw[Lz (h.ups (U:=gone x s)) hy]
def Ru {y:Lf} (h:Ag A A' F) (hy:AL F y):Ep A' y=Ep A y:=by
 cases y with
 |al p v=>show Fu (E8 A' (.al p v))=Fu (E8 A (.al p v));rw[C4 h hy]
 |_=>rfl
def Rv {y:Lf} (h:Ag A A' F) (hy:AL F y):Km A' y=Km A y:=by
 cases y with
 |al p v=>simp only[Km];rw[h p hy]
 |_=>rfl
def Hq (h:Ag A A' F):∀ {l:List Lf},(∀ y∈l,AL F y)→E7 A' l=E7 A l
 |[],_=>rfl
 |y::l,hy=>by
  unfold E7;rw[Rv h (hy y (by simp)),Hq h (λ z hz=>hy z (Ve _ hz))]
def Iz (h:Ag A A' F) {l:List Lf} (hy:∀ y∈l,AL F y):l.map (Ep A')=l.map (Ep A):=Zs λ y hm=>Ru h (hy y hm)
def Tg (h:Ag A A' F) {l:List Lf} (hy:∀ y∈l,AL F y):l.map (λ y=>Fu (Ep A' y))=l.map (λ y=>Fu (Ep A y)):=Zs λ y hm=>by rw[Ru h (hy y hm)]
def Of {y:Lf} (h:Ag A A' F) (hy:RL A F y):Mi A' y=Mi A y:=by
 cases y with
 |bp b v n=>show Nat.beq (get A' (H b)).1 v=Nat.beq (get A (H b)).1 v;rw[h _ hy.1]
 |ep p v i n=>simp only[Mi];rw[h p hy]
 |dp p v pi e r xs i n=>show Nat.beq (get A' p).1 v=Nat.beq (get A p).1 v;rw[h p hy]
 |_=>rfl
def Ju (h:Ag A A' F) {b:Nat}:∀ {n j:Nat},(∀ i,i<n→C b (j+i)∈F)→cellsOf A' b j n=cellsOf A b j n
 |0,_,_=>rfl
 |n+1,j,hc=>by
  unfold cellsOf;rw[h (C b j) (by simpa using hc 0 (by omega)),Ju h (λ i hi=>by have:=hc (i+1) (by omega);rwa [show j+(i+1)=j+1+i by omega]at this)]
def N3 {b:Nat}:∀ {n j:Nat},(∀ i,i<n→C b (j+i)∈F∧∀ p v,(get A (C b (j+i))).2 = .one (.al p v)→p∈F)→∀ y∈cellsOf A b j n,AL F y
 |0,_,_,y,hy=>by simp[cellsOf]at hy
 |n+1,j,hc,y,hy=>by
  unfold cellsOf at hy;rcases Vk.1 hy with hy|hy
  ·obtain⟨c1,c2⟩:=hc 0 (by omega);rw[Yx]at c1 c2;split at hy
   ·subst hy;exact c1
   ·subst hy;exact c1
   ·subst hy;exact c1
   ·rename_i hp;subst hy
    cases y with
    |al p v=>exact c2 p v (by rw[hp])
    |_=>trivial
   ·subst hy;trivial
  ·refine N3 (n:=n) (j:=j+1) (λ i hi=>?_) y hy;have:=hc (i+1) (by omega);rwa [show j+(i+1)=j+1+i by omega]at this
end
end

section
attribute [local irreducible] C H
def Loc {R:Type} (E:En) (o:Oper) (A:Ab) (F:List Nat) (Kc:List Up→Option R) (r:R):Prop:=
 ∃ U,Kc U=some r∧∀ A',Ag A A' F→∀ {R':Type} (K':List Up→Option R'),Af E o A' K'=K' U
section
variable {E:En} {A A':Ab} {F:List Nat} {o:Oper} {R:Type} {Kc:List Up→Option R} {r:R}
def Ut {op:BinOp} {k:IntKind} {x y:Int} {Kv:Value→Option R} (h:Jz op k x y Kv=some r):∃ v,Kv v=some r∧∀ {R':Type} (K':Value→Option R'),Jz op k x y K'=K' v:=by
 cases op
 case quo=>
  simp only[Jz]at h ⊢
  cases hy:decide (y=0) with
  |true=>rw[hy]at h;simp at h
  |false=>rw[hy]at h;exact⟨_,h,λ K'=>rfl⟩
 case rem=>
  simp only[Jz]at h ⊢
  cases hy:decide (y=0) with
  |true=>rw[hy]at h;simp at h
  |false=>rw[hy]at h;exact⟨_,h,λ K'=>rfl⟩
 all_goals first|exact⟨_,h,λ K'=>rfl⟩|(simp[Jz]at h;done)
def Uu {op:BinOp} {x y:ByteArray} {Kv:Value→Option R} (h:Mr op x y Kv=some r):∃ v,Kv v=some r∧∀ {R':Type} (K':Value→Option R'),Mr op x y K'=K' v:=by
 cases op
 case add=>
  simp only[Mr]at h ⊢
  cases hy:Nat.ble (x.size+y.size) 9223372036854775807 with
  |false=>rw[hy]at h;simp at h
  |true=>rw[hy]at h;exact⟨_,h,λ K'=>rfl⟩
 all_goals first|exact⟨_,h,λ K'=>rfl⟩|(simp[Mr]at h;done)
def Faa {op:BinOp} {t:Option TI} {e:Bool} {x y:Sv} {Kv:Value→Option R} (h:bop op t e x y Kv=some r):∃ v,Kv v=some r∧∀ {R':Type} (K':Value→Option R'),bop op t e x y K'=K' v:=by
 unfold bop at h;split at h
 ·rename_i k a k' b;split at h
  ·cases hb:decide (b<0) with
   |true=>rw[hb]at h;simp at h
   |false=>rw[hb]at h;exact⟨_,h,λ K'=>by unfold bop;simp only[hb,cond_false]⟩
  ·cases hb:decide (b<0) with
   |true=>rw[hb]at h;simp at h
   |false=>rw[hb]at h;exact⟨_,h,λ K'=>by unfold bop;simp only[hb,cond_false]⟩
  ·rename_i n1 n2;obtain⟨hb,h⟩:=cs h;obtain⟨v,h1,h2⟩:=Ut h;refine⟨v,h1,λ K'=>?_⟩;unfold bop
   cases op<;>first|exact(n1 rfl).elim|exact(n2 rfl).elim|(simp only[hb,cond_true];exact h2 K')
 ·obtain⟨v,h1,h2⟩:=Uu h;exact⟨v,h1,λ K'=>h2 K'⟩
 ·rename_i a b;split at h
  ·exact⟨_,h,λ K'=>rfl⟩
  ·exact⟨_,h,λ K'=>rfl⟩
  ·cases h
 ·rename_i l l';obtain⟨hb,h⟩:=cs h;split at h
  ·split at h
   ·rename_i b he;exact⟨_,h,λ K'=>by unfold bop;simp only[hb,cond_true,he]⟩
   ·cases h
  ·split at h
   ·rename_i b he;exact⟨_,h,λ K'=>by unfold bop;simp only[hb,cond_true,he]⟩
   ·cases h
  ·cases h
 ·cases h
def Fba {op:UnOp} {x:Sv} {Kv:Value→Option R} (h:uop op x Kv=some r):∃ v,Kv v=some r∧∀ {R':Type} (K':Value→Option R'),uop op x K'=K' v:=by
 unfold uop at h;split at h
 ·exact⟨_,h,λ K'=>rfl⟩
 ·exact⟨_,h,λ K'=>rfl⟩
 ·exact⟨_,h,λ K'=>rfl⟩
 ·cases h
def Cma {t t':Option TI} {x:Sv} {Kv:Sv→Option R} (h:conv t t' x Kv=some r):∃ v,Kv v=some r∧∀ {R':Type} (K':Sv→Option R'),conv t t' x K'=K' v:=by
 unfold conv at h;split at h
 ·exact⟨_,h,λ K'=>rfl⟩
 ·exact⟨_,h,λ K'=>rfl⟩
 ·rename_i e _ _ _ _ e' xs
  cases hb:Nat.beq e e' with
  |false=>rw[hb]at h;simp at h
  |true=>rw[hb]at h;exact⟨_,h,λ K'=>by unfold conv;simp only[hb,cond_true]⟩
 ·rename_i e _ _ _ _ e' xs
  cases hb:Nat.beq e e' with
  |false=>rw[hb]at h;simp at h
  |true=>rw[hb]at h;exact⟨_,h,λ K'=>by unfold conv;simp only[hb,cond_true]⟩
 ·rename_i s
  cases hb:Nat.ble s.size 140737488355328 with
  |false=>rw[hb]at h;simp at h
  |true=>rw[hb]at h;exact⟨_,h,λ K'=>by unfold conv;simp only[hb,cond_true]⟩
 ·cases h
def N4 {mx:Bool}:∀ {l:List Sv} {k:IntKind} {x:Int} {Kv:Value→Option R},Hw mx l k x Kv=some r→∃ v,Kv v=some r∧∀ {R':Type} (K':Value→Option R'),Hw mx l k x K'=K' v:=by
 intro l
 induction l with
 |nil=>intro k x Kv h;exact⟨_,h,λ K'=>rfl⟩
 |cons s l ih=>
  intro k x Kv h;unfold Hw at h;split at h
  ·rename_i heq;cases heq
  ·rename_i k0 x0 K0 l9 k9 x9 K9 k' y l0 heq;cases heq;obtain⟨hb,h⟩:=cs h;obtain⟨v,h1,h2⟩:=ih h;exact⟨v,h1,λ K'=>by conv => { lhs;unfold Hw };simp only[hb,cond_true];exact h2 K'⟩
  ·cases h
def Ft {lo hi:Option Int} {n:Nat} {Kv:Unit→Option R} (h:Qs lo hi n Kv=some r):Kv ()=some r∧∀ {R':Type} (K':Unit→Option R'),Qs lo hi n K'=K' ():=by
 unfold Qs at h;split at h
 ·exact⟨h,λ K'=>rfl⟩
 ·rename_i l;obtain⟨h1,h⟩:=cs h
  cases h2:decide (l≤(n:Int)) with
  |false=>rw[h2]at h;simp at h
  |true=>rw[h2,cond_true]at h;exact⟨h,λ K'=>by unfold Qs;simp only[h1,h2,cond_true]⟩
 ·rename_i l;obtain⟨h1,h⟩:=cs h
  cases h2:decide (l≤(n:Int)) with
  |false=>rw[h2]at h;simp at h
  |true=>rw[h2,cond_true]at h;exact⟨h,λ K'=>by unfold Qs;simp only[h1,h2,cond_true]⟩
 ·rename_i l u;obtain⟨h1,h⟩:=cs h;obtain⟨h2,h⟩:=cs h
  cases h3:decide (u≤(n:Int)) with
  |false=>rw[h3]at h;simp at h
  |true=>rw[h3,cond_true]at h;exact⟨h,λ K'=>by unfold Qs;simp only[h1,h2,h3,cond_true]⟩
def Zz {op:BinOp} {T T':TypeId} {x y:Operand} {d:Nat} (ho:o.op = .binOp op T x y T') (hod:o.dst=some d) (hx:RX A F x) (hy:RX A F y) (h:Af E o A Kc=some r):Loc E o A F Kc r:=by
 unfold Af at h;rw[ho,hod]at h;simp only at h;split at h
 ·rename_i s s' hs hs';obtain⟨v,h1,h2⟩:=Faa h;refine⟨_,h1,λ A' hA R' K'=>?_⟩;unfold Af;rw[ho,hod];simp only[Ah hA hx,Ah hA hy,hs,hs'];exact h2 _
 ·cases h
def Cna {op:UnOp} {T:TypeId} {x:Operand} {d:Nat} (ho:o.op = .unOp op T x) (hod:o.dst=some d) (hx:RX A F x) (h:Af E o A Kc=some r):Loc E o A F Kc r:=by
 unfold Af at h;rw[ho,hod]at h;simp only at h;split at h
 ·rename_i s hs;obtain⟨v,h1,h2⟩:=Fba h;refine⟨_,h1,λ A' hA R' K'=>?_⟩;unfold Af;rw[ho,hod];simp only[Ah hA hx,hs];exact h2 _
 ·cases h
def Q8 {T T':TypeId} {x:Operand} {d:Nat} (hA:Ag A A' F) (hx:RX A F x):K6 E A' T T' x d=K6 E A T T' x d:=by
 unfold K6
 cases x with
 |tmp t=>simp only[Ah hA hx]
 |const v=>rfl
 |func f=>rfl
 |global g=>rfl
def Rw {T T':TypeId} {x:Operand} {d:Nat} (ho:o.op = .convert T T' x) (hod:o.dst=some d) (hx:RX A F x) (h:Af E o A Kc=some r):Loc E o A F Kc r:=by
 unfold Af at h;rw[ho,hod]at h;simp only at h
 cases hi:K6 E A T T' x d with
 |some U=>
  rw[hi]at h;refine⟨U,h,λ A' hA R' K'=>?_⟩;unfold Af;rw[ho,hod];simp only[Q8 hA hx,hi]
 |none=>
  rw[hi]at h;simp only at h;split at h
  ·rename_i y hs;obtain⟨v,h1,h2⟩:=Cma h;refine⟨_,h1,λ A' hA R' K'=>?_⟩;unfold Af;rw[ho,hod];simp only[Q8 hA hx,hi,Ah hA hx,hs,Zx hA (Cz hx hs)];exact h2 _
  ·cases h
def Coa {x:Operand} {d:Nat} (ho:o.op = .move x) (hod:o.dst=some d) (hx:∀ t,x = .tmp t→t∈F) (hio:∀ p∈I6a A x,p∈F) (h:Af E o A Kc=some r):Loc E o A F Kc r:=by
 have hag:∀ A',Ag A A' F→∀ T,opT E T A' x=opT E T A x:=by
  intro A' hA T
  cases x with
  |tmp t=>show (bif Nat.blt t E.nt then some (get A' t).2 else none)=(bif Nat.blt t E.nt then some (get A t).2 else none);rw[hA t (hx t rfl)]
  |const v=>exact Ah hA (x := .const v) trivial
  |func f=>rfl
  |global g=>rfl
 unfold Af at h;rw[ho,hod]at h;simp only at h;split at h
 ·rename_i s hs;split at h
  ·rename_i t e r' xs
   cases hn:(E.nm t&&!(E.mv d)) with
   |true=>
    rw[hn,cond_true]at h;refine⟨_,h,λ A' hA R' K'=>?_⟩;unfold Af;rw[ho,hod];simp only[hag A' hA,hs,hn,cond_true,hA t (hx t rfl)]
   |false=>
    rw[hn,cond_false]at h;refine⟨_,h,λ A' hA R' K'=>?_⟩;unfold Af;rw[ho,hod];simp only[hag A' hA,hs,hn,cond_false]
  ·rename_i t p
   have hst:(get A t).2 = .one (.io p):=by
    have h2:(bif Nat.blt t E.nt then some (get A t).2 else none)=some (.one (.io p)):=hs;cases hb:Nat.blt t E.nt
    ·rw[hb]at h2;cases h2
    rw[hb,cond_true,Vc]at h2;exact h2
   have hpF:p∈F:=hio p (by simp[I6a,hst]);refine⟨_,h,λ A' hA R' K'=>?_⟩;unfold Af;rw[ho,hod];simp only[hag A' hA,hs,hA p hpF]
  ·rename_i hne1 hne2;refine⟨_,h,λ A' hA R' K'=>?_⟩;unfold Af;rw[ho,hod];simp only[hag A' hA,hs]
 ·cases h
def Uv {x:Operand} {d:Nat} (ho:o.op = .assign x) (hod:o.dst=some d) (hx:RX A F x) (h:Af E o A Kc=some r):Loc E o A F Kc r:=by
 unfold Af at h;rw[ho,hod]at h;simp only at h;split at h
 ·rename_i p v hs;have hp:p∈F:=Cz hx hs;split at h
  ·rename_i n e r' xs hg;obtain⟨hn,h⟩:=cs h
   cases hr:E.res d with
   |true=>
    rw[hr,cond_true]at h;refine⟨_,h,λ A' hA R' K'=>?_⟩;unfold Af;rw[ho,hod];simp only[Ah hA hx,hs,hA p hp,hg,hn,hr,cond_true]
   |false=>
    rw[hr,cond_false]at h;refine⟨_,h,λ A' hA R' K'=>?_⟩;unfold Af;rw[ho,hod];simp only[Ah hA hx,hs,hA p hp,hg,hn,hr,cond_true,cond_false]
  ·rename_i n e r' xs hg;obtain⟨hn,h⟩:=cs h;refine⟨_,h,λ A' hA R' K'=>?_⟩;unfold Af;rw[ho,hod];simp only[Ah hA hx,hs,hA p hp,hg,hn,cond_true]
  ·cases h
 ·rename_i s hne hs;refine⟨_,h,λ A' hA R' K'=>?_⟩;unfold Af;rw[ho,hod];simp only[Ah hA hx,hs]
 ·cases h
def Cpa {c x y:Operand} {d:Nat} (ho:o.op = .pick c x y) (hod:o.dst=some d) (hc:RX A F c) (hx:RX A F x) (hy:RX A F y) (h:Af E o A Kc=some r):Loc E o A F Kc r:=by
 unfold Af at h;rw[ho,hod]at h;simp only at h;split at h
 ·rename_i b hs
  cases b with
  |true=>
   rw[cond_true]at h;split at h
   ·rename_i u hu;refine⟨_,h,λ A' hA R' K'=>?_⟩;unfold Af;rw[ho,hod];simp only[Ah hA hc,Ah hA hx,hs,hu,cond_true]
   ·cases h
  |false=>
   rw[cond_false]at h;split at h
   ·rename_i u hu;refine⟨_,h,λ A' hA R' K'=>?_⟩;unfold Af;rw[ho,hod];simp only[Ah hA hc,Ah hA hy,hs,hu,cond_false]
   ·cases h
 ·cases h
def RP (A:Ab) (F:List Nat):Operand→Prop
 |.tmp t=>t∈F∧∀ y∈parts (get A t).2,(∀ b v n,y = .bp b v n→H b∈F)∧(∀ p v i n,y = .ep p v i n→p∈F)∧(∀ p v pi e r,∀ xs:List (Ty.den r),∀ i n,y = .dp p v pi e r xs i n→p∈F)
 |_=>True
def Th:∀ {l:List Lf},(∀ p∈Gga l,p∈F)→∀ y∈l,(∀ b v n,y = .bp b v n→H b∈F)∧(∀ p v i n,y = .ep p v i n→p∈F)∧(∀ p v pi e r,∀ xs:List (Ty.den r),∀ i n,y = .dp p v pi e r xs i n→p∈F)
 |[],_,y,hy=>by simp at hy
 |z::l,h,y,hy=>by
  unfold Gga at h;rcases Vk.1 hy with rfl|hy
  ·refine⟨λ b v n e=>h _ (Vq _ ?_),λ p v i n e=>h _ (Vq _ ?_),λ p v pi e0 r xs i n e=>h _ (Vq _ ?_)⟩<;>(subst e;simp[rdH])
  ·exact Th (λ p hp=>h p (Vg _ hp)) y hy
def Dsa {x:Operand} (h:∀ p∈rdP A x,p∈F):RP A F x:=by
 cases x with
 |tmp t=>
  have h:∀ p∈t::Gga (parts (get A t).2),p∈F:=h;exact⟨h t (by simp),Th λ p hp=>h p (Ve _ hp)⟩
 |_=>trivial
def RP.opT {x:Operand} {T:TypeId} (hA:Ag A A' F) (hx:RP A F x):Vf.opT E T A' x=Vf.opT E T A x:=by
 cases x with
 |tmp t=>show (bif Nat.blt t E.nt then some (get A' t).2 else none)=(bif Nat.blt t E.nt then some (get A t).2 else none);rw[hA t hx.1]
 |const v=>exact Ah hA (x := .const v) trivial
 |func f=>rfl
 |global g=>rfl
def RP.live {x:Operand} {T:TypeId} {y:Lf} (hA:Ag A A' F) (hx:RP A F x) (h:Vf.opT E T A x=some (.one y)):Mi A' y=Mi A y:=by
 cases x with
 |tmp t=>
  have h:(bif Nat.blt t E.nt then some (get A t).2 else none)=some (.one y):=h;cases hb:Nat.blt t E.nt
  ·rw[hb]at h;simp at h
  rw[hb]at h;simp only[cond_true,Vc]at h;obtain⟨h1,h2,h3⟩:=hx.2 y (by rw[h];simp[parts])
  cases y with
  |bp b v n=>show Nat.beq (get A' (H b)).1 v=Nat.beq (get A (H b)).1 v;rw[hA _ (h1 b v n rfl)]
  |ep p v i n=>simp only[Mi];rw[hA _ (h2 p v i n rfl)]
  |dp p v pi e r xs i n=>show Nat.beq (get A' p).1 v=Nat.beq (get A p).1 v;rw[hA _ (h3 p v pi e r xs i n rfl)]
  |_=>rfl
 |const v=>exact Of hA (Cz (x := .const v) (F:=F) trivial h)
 |func f=>exact Of hA (Cz (x := .func f) (F:=F) trivial h)
 |global g=>exact Of hA (Cz (x := .global g) (F:=F) trivial h)
def Q9 {x:Operand} {d:Nat} (ho:o.op = .nilCheck x) (hod:o.dst=some d) (hx:RP A F x) (h:Af E o A Kc=some r):Loc E o A F Kc r:=by
 unfold Af at h;rw[ho,hod]at h;simp only at h;split at h
 ·rename_i y hs;obtain⟨hl,h⟩:=cs h;refine⟨_,h,λ A' hA R' K'=>?_⟩;unfold Af;rw[ho,hod];simp only[hx.opT hA,hs,hx.live hA hs,hl,cond_true]
 ·cases h
def Og {T:TypeId} {x:Operand} {j d:Nat} (ho:o.op = .fieldAddr T x j) (hod:o.dst=some d) (hx:RP A F x) (h:Af E o A Kc=some r):Loc E o A F Kc r:=by
 unfold Af at h;rw[ho,hod]at h;simp only at h;split at h
 ·rename_i ti y hT hs;split at h
  ·rename_i f hf;obtain⟨hl,h⟩:=cs h;refine⟨_,h,λ A' hA R' K'=>?_⟩;unfold Af;rw[ho,hod];simp only[hT,hx.opT hA,hs,hf,hx.live hA hs,hl,cond_true]
  ·cases h
 ·cases h
def Rx {t j d:Nat} (ho:o.op = .extract (.tmp t) j) (hod:o.dst=some d) (ht:t∈F) (h:Af E o A Kc=some r):Loc E o A F Kc r:=by
 unfold Af at h;rw[ho,hod]at h;simp only at h;cases hb:Nat.blt t E.nt
 ·rw[hb]at h;simp at h
 rw[hb,cond_true]at h;split at h
 ·rename_i vs hg;split at h
  ·rename_i ag l hn;split at h
   ·rename_i s hs
    cases hw:C0 l with
    |true=>
     rw[hw,cond_true]at h;refine⟨_,h,λ A' hA R' K'=>?_⟩;unfold Af;rw[ho,hod];simp only[hb,cond_true,hA t ht,hg,hn,hs,hw]
    |false=>
     rw[hw,cond_false]at h;refine⟨_,h,λ A' hA R' K'=>?_⟩;unfold Af;rw[ho,hod];simp only[hb,cond_true,hA t ht,hg,hn,hs,hw,cond_false]
   ·cases h
  ·cases h
 ·cases h
def A0a {T:TypeId} {t j d:Nat} (ho:o.op = .field T (.tmp t) j) (hod:o.dst=some d) (ht:t∈F) (h:Af E o A Kc=some r):Loc E o A F Kc r:=by
 unfold Af at h;rw[ho,hod]at h;simp only at h;split at h
 ·rename_i ti l hT hg;split at h
  ·rename_i off z ag hn;split at h
   ·rename_i s hs;obtain⟨hb,h⟩:=cs h
    cases hw:C0 ((l.drop off).take z) with
    |true=>
     rw[hw,cond_true]at h;refine⟨_,h,λ A' hA R' K'=>?_⟩;unfold Af;rw[ho,hod];simp only[hT,hA t ht,hg,hn,hs,hb,hw,cond_true]
    |false=>
     rw[hw,cond_false]at h;refine⟨_,h,λ A' hA R' K'=>?_⟩;unfold Af;rw[ho,hod];simp only[hT,hA t ht,hg,hn,hs,hb,hw,cond_true,cond_false]
   ·cases h
  ·cases h
 ·cases h
def A1a {T:TypeId} {d:Nat} (ho:o.op = .alloc T) (hod:o.dst=some d) (hH:H d∈F) (h:Af E o A Kc=some r):Loc E o A F Kc r:=by
 unfold Af at h;rw[ho,hod]at h;simp only at h;split at h
 ·rename_i ti hT;obtain⟨hb,h⟩:=cs h;refine⟨_,h,λ A' hA R' K'=>?_⟩;unfold Af;rw[ho,hod];simp only[hT,hb,cond_true,hA _ hH]
 ·cases h
def RL.als {s:Sv} (h:∀ y∈parts s,RL A F y):∀ y∈parts s,AL F y:=λ y hy=>(h y hy).al
def K7 (hA:Ag A A' F):∀ {l:List Lf},(∀ y∈l,AL F y)→C1 A' l=C1 A l
 |[],_=>rfl
 |y::l,h=>by
  have ih:=K7 hA (l:=l) (λ z hz=>h z (Ve _ hz))
  cases y with
  |al p v=>simp only[C1,ih,C4 hA (h (.al p v) (by simp))]
  |_=>simp only[C1,ih]
def Fca {T:TypeId} {x:Operand} {d:Nat} (ho:o.op = .box T x) (hod:o.dst=some d) (hH:H d∈F) (hx:RX A F x) (h:Af E o A Kc=some r):Loc E o A F Kc r:=by
 unfold Af at h;rw[ho,hod]at h;simp only at h;split at h
 ·rename_i ti s hT hs;have hal:=RL.als (Ha hx hs)
  cases hmv:mvO E x with
  |true=>
   rw[hmv,cond_true]at h;obtain⟨hb,h⟩:=cs h;refine⟨_,h,λ A' hA R' K'=>?_⟩;unfold Af;rw[ho,hod];simp only[hT,Ah hA hx,hs,hmv,K7 hA hal,hb,cond_true,hA _ hH]
  |false=>
  rw[hmv,cond_false]at h;obtain⟨hb,h⟩:=cs h;refine⟨_,h,λ A' hA R' K'=>?_⟩;unfold Af;rw[ho,hod];simp only[hT,Ah hA hx,hs,hmv,cond_false,Iz hA hal,hb,cond_true,Hq hA hal,hA _ hH]
 ·cases h
def Cqa {T:TypeId} {x:Operand} {d:Nat} (ho:o.op = .load T x) (hod:o.dst=some d) (hx:RX A F x) (h:Af E o A Kc=some r):Loc E o A F Kc r:=by
 unfold Af at h;rw[ho,hod]at h;simp only at h;split at h
 ·rename_i ti b v off hT hs;obtain⟨h1,h2⟩:RL A F (.bp b v off):=Cz hx hs;split at h
  ·rename_i n m hg;obtain⟨hb,h⟩:=cs h
   have hle:off+ti.ty.sz≤m:=by
    simp only[Va]at hb;exact Vd hb.2
   have hcell:∀ i,i<ti.ty.sz→C b (off+i)∈F:=λ i hi=>(h2 m (by rw[hg]) (off+i) (by omega) (by omega)).1;split at h
   ·rename_i s hp;refine⟨_,h,λ A' hA R' K'=>?_⟩;unfold Af;rw[ho,hod];simp only[hT,Ah hA hx,hs,hA _ h1,hg,hb,cond_true,Ju hA hcell,hp]
   ·cases h
  ·cases h
 ·rename_i ti p v i off hT hs;have hp:p∈F:=Cz hx hs;split at h
  ·rename_i n e r' xs hg;obtain⟨hb,h⟩:=cs h;split at h
   ·rename_i s hp2;refine⟨_,h,λ A' hA R' K'=>?_⟩;unfold Af;rw[ho,hod];simp only[hT,Ah hA hx,hs,hA _ hp,hg,hb,cond_true,hp2]
   ·cases h
  ·cases h
 ·rename_i ti p v pi e0 r' xs i off hT hs;have hp:p∈F:=Cz hx hs;obtain⟨hb,h⟩:=cs h;split at h
  ·rename_i s hp2;refine⟨_,h,λ A' hA R' K'=>?_⟩;unfold Af;rw[ho,hod];simp only[hT,Ah hA hx,hs,hA _ hp,hb,cond_true,hp2]
  ·cases h
 ·rename_i ti r' x' off hT hs;obtain⟨hb,h⟩:=cs h;split at h
  ·rename_i s hp2;refine⟨_,h,λ A' hA R' K'=>?_⟩;unfold Af;rw[ho,hod];simp only[hT,Ah hA hx,hs,hb,cond_true,hp2]
  ·cases h
 ·cases h
def K8 (h:Ag A A' F):∀ {l:List Lf},(∀ p v pi e r,∀ xs:List (Ty.den r),Lf.da p v pi e r xs∈l→p∈F)→Cq A' l=Cq A l
 |[],_=>rfl
 |y::l,hp=>by
  have ih:=K8 h (l:=l) (λ p v pi e r xs hm=>hp p v pi e r xs (Ve _ hm))
  cases y with
  |da p v pi e r xs=>simp only[Cq,ih,h p (hp p v pi e r xs (by simp))]
  |_=>simp only[Cq,ih]
def Fda {l:List Lf} (h:∀ y∈l,RL A F y):∀ p v pi e r,∀ xs:List (Ty.den r),Lf.da p v pi e r xs∈l.map (Ep A)→p∈F:=by
 intro p v pi e r xs hm;obtain⟨y,hy,he⟩:=Zc.1 hm
 cases y with
 |da p' v' pi' e' r' xs'=>
  simp only[Ep,Lf.da.injEq]at he;have:=h _ hy;rw[he.1]at this;exact this
 |al q w=>
  exfalso;simp only[Ep]at he
  have h1:∀ z:Lf,(∀ p v pi e r,∀ xs:List (Ty.den r),z ≠ .da p v pi e r xs)→∀ p v pi e r,∀ xs:List (Ty.den r),Fu z ≠ .da p v pi e r xs:=by
   intro z hz p v pi e r xs
   cases z<;>simp[Fu]
   exact λ e1 e2 e3 e4 e5 e6=>hz _ _ _ _ _ _ rfl
  refine h1 (E8 A (.al q w)) ?_ _ _ _ _ _ _ he;intro p v pi e r xs;simp only[E8];split
  ·rename_i n _ _ _ _
   cases Nat.beq n w<;>simp
  ·rename_i n _ _ _ _
   cases Nat.beq n w<;>simp
  ·simp
 |_=>simp[Ep]at he
def Hb:∀ {ts:List Ty} {l:List Lf} {A A':Ab},Ag A A' F→(∀ y∈l,AL F y)→Bw A' ts l=Bw A ts l
 |[],[],_,_,_,_=>rfl
 |[],_::_,_,_,_,_=>rfl
 |t::ts,[],_,_,_,_=>by cases t<;>rfl
 |t::ts,x::l,A,A',hA,hy=>by
  have hx:AL F x:=hy x (by simp);have hl:∀ y∈l,AL F y:=λ y hm=>hy y (Ve _ hm)
  cases t<;>simp only[Bw,C4 hA hx,Ru hA hx,Rv hA hx,Hb (hA.ups (U:=Qw x)) hl,Hb (hA.ups (U:=Km A x)) hl]
def A2a (hA:Ag A A' F):∀ {l:List Lf},(∀ y∈l,AL F y)→Eca A' l=Eca A l
 |[],_=>rfl
 |y::l,h=>by simp only[Eca,C4 hA (h y (by simp)),A2a hA (λ z hz=>h z (Ve _ hz))]
def Cra {x:Operand} {s:Sv} (hA:Ag A A' F) (hal:∀ y∈parts s,AL F y):Jb A' x s (Eca (ups A' (gone x s)) (parts s))=Jb A x s (Eca (ups A (gone x s)) (parts s)):=by
 have hA1:=hA.ups (U:=gone x s);unfold Jb;rw[A2a hA1 hal,Hb hA1 hal]
def A3a {T:TypeId} {x y:Operand} (ho:o.op = .store T x y) (hod:o.dst=none) (hx:RX A F x) (hy:RX A F y) (h:Af E o A Kc=some r):Loc E o A F Kc r:=by
 unfold Af at h;rw[ho,hod]at h;simp only at h;split at h
 ·rename_i ti b v off s hT hs hs2;obtain⟨h1,h2⟩:RL A F (.bp b v off):=Cz hx hs;have hal:=RL.als (Ha hy hs2)
  cases hmv:mvO E y with
  |true=>
   rw[hmv,cond_true]at h;split at h
   ·rename_i m vs hgive;split at h
    ·rename_i n hd hg;obtain⟨hb,h⟩:=cs h;refine⟨_,h,λ A' hA R' K'=>?_⟩;unfold Af;rw[ho,hod];simp only[hT,Ah hA hx,hs,Ah hA hy,hs2,hmv,Cra hA hal,hgive,hA _ h1,hg,hb,cond_true]
    ·cases h
   ·cases h
  |false=>
  rw[hmv,cond_false]at h;split at h
  ·rename_i n m hg;obtain⟨hb,h⟩:=cs h;refine⟨_,h,λ A' hA R' K'=>?_⟩;unfold Af;rw[ho,hod];simp only[hT,Ah hA hx,hs,Ah hA hy,hs2,hmv,cond_false,hA _ h1,hg,Iz hA hal,Hq hA hal,K8 (hA.ups (U:=E7 A (parts s)++gone y s)) (Fda (Ha hy hs2)),hb,cond_true]
  ·cases h
 ·rename_i ti p v i off s hT hs hs2;have hp:p∈F:=Cz hx hs;have hal:=RL.als (Ha hy hs2);split at h
  ·rename_i n e r' xs hg;obtain⟨hb,h⟩:=cs h;split at h
   ·rename_i z hz;refine⟨_,h,λ A' hA R' K'=>?_⟩;unfold Af;rw[ho,hod];simp only[hT,Ah hA hx,hs,Ah hA hy,hs2,hA _ hp,hg,Iz hA hal,Tg hA hal,hb,cond_true,Hq hA hal,hz]
   ·cases h
  ·cases h
 ·rename_i ti p v q e r1 xs i off s hT hs hs2;have hp:p∈F:=Cz hx hs;have hal:=RL.als (Ha hy hs2);split at h
  ·rename_i m us hgive;split at h
   ·rename_i n E0 R0 XS hg;obtain⟨hb,h⟩:=cs h;split at h
    ·rename_i z hz;split at h
     ·rename_i XS' hput;refine⟨_,h,λ A' hA R' K'=>?_⟩;unfold Af;rw[ho,hod];simp only[hT,Ah hA hx,hs,Ah hA hy,hs2,Zy hA hal,hgive,hA _ hp,hg,hb,cond_true,hz,hput]
     ·cases h
    ·cases h
   ·cases h
  ·cases h
 ·cases h
end
end

section
attribute [local irreducible] C H
section
variable {E:En} {A A':Ab} {F:List Nat} {o:Oper} {R:Type} {Kc:List Up→Option R} {r:R}
def A4a {B p:Nat} {e:TypeId} {r':Ty} {xs:List r'.den} {i:Int} {K:List Up→Option R} (hB:H B∈F) (h:L5 A B p e r' xs i K none=some r):∃ U,K U=some r∧∀ A',Ag A A' F→∀ {R':Type} (K':List Up→Option R'),L5 A' B p e r' xs i K' none=K' U:=by
 unfold L5 at h;obtain⟨h1,h⟩:=cs h;obtain⟨h2,h⟩:=cs h;obtain⟨h3,h⟩:=cs h;refine⟨_,h,λ A' hA R' K'=>?_⟩;unfold L5;simp only[h1,h2,h3,cond_true,hA _ hB]
def Oh {T:TypeId} {x i:Operand} {d:Nat} (ho:o.op = .indexAddr T x i) (hod:o.dst=some d) (hopn:E.opn d=true) (hB:H (2000+d)∈F) (hx:RX A F x) (hi:RX A F i) (h:Af E o A Kc=some r):Loc E o A F Kc r:=by
 unfold Af at h;rw[ho,hod]at h;simp only[hopn,cond_true]at h;split at h
 ·rename_i p v k n hs hn;have hp:p∈F:=Cz hx hs;split at h
  ·rename_i m e r' xs hgp;obtain⟨hq,h⟩:=cs h;obtain⟨U,h1,h2⟩:=A4a hB h;refine⟨_,h1,λ A' hA R' K'=>?_⟩;unfold Af;rw[ho,hod];simp only[hopn,Ah hA hx,Ah hA hi,hs,hn,hA p hp,hgp,hq,cond_true,hA _ hB];exact h2 A' hA _
  ·cases h
 ·cases h
def Oi {T:TypeId} {x i:Operand} {d:Nat} (ho:o.op = .indexAddr T x i) (hod:o.dst=some d) (hopn:E.opn d=false) (hx:RX A F x) (hi:RX A F i) (h:Af E o A Kc=some r):Loc E o A F Kc r:=by
 unfold Af at h;rw[ho,hod]at h;simp only[hopn,cond_false]at h;split at h
 ·rename_i y k n hs hn;have hrl:=Cz hx hs;have hal:=hrl.al;split at h
  ·rename_i p v e r' xs hse;obtain⟨hb,h⟩:=cs h;obtain⟨hl,h⟩:=cs h
   cases hno:Ei r' with
   |true=>
    rw[hno,cond_true]at h;refine⟨_,h,λ A' hA R' K'=>?_⟩;unfold Af;rw[ho,hod];simp only[hopn,cond_false,Ah hA hx,Ah hA hi,hs,hn,C4 hA hal,hse,hb,hl,hno,cond_true]
   |false=>
    rw[hno,cond_false]at h;obtain⟨hao,h⟩:=cs h;refine⟨_,h,λ A' hA R' K'=>?_⟩;unfold Af;rw[ho,hod];simp only[hopn,cond_false,Ah hA hx,Ah hA hi,hs,hn,C4 hA hal,hse,hb,hl,hno,hao,cond_true,cond_false]
  ·rename_i p v pi e r' xs;have hp:p∈F:=hrl;obtain⟨hb,h⟩:=cs h;obtain⟨hl,h⟩:=cs h;refine⟨_,h,λ A' hA R' K'=>?_⟩;unfold Af;rw[ho,hod];simp only[hopn,cond_false,Ah hA hx,Ah hA hi,hs,hn,hA p hp,hb,hl,cond_true]
  ·rename_i p v hse;have hp:p∈F:=hrl;split at h
   ·rename_i m e r0 xs0 i0 b0 vb hgp;obtain⟨hb,h⟩:=cs h;obtain⟨hl,h⟩:=cs h;refine⟨_,h,λ A' hA R' K'=>?_⟩;unfold Af;rw[ho,hod];simp only[hopn,cond_false,Ah hA hx,Ah hA hi,hs,hn,C4 hA hal,hse,hA p hp,hgp,hb,hl,cond_true]
   ·cases h
  ·rename_i e r' xs hnda hse;obtain⟨hb,h⟩:=cs h;obtain⟨hl,h⟩:=cs h;refine⟨_,h,λ A' hA R' K'=>?_⟩;unfold Af;rw[ho,hod];simp only[hopn,cond_false,Ah hA hx,Ah hA hi,hs,hn,C4 hA hal,hse,hb,hl,cond_true]
  ·rename_i e r' xs hne hnda hse;split at h
   ·rename_i t;have ht:t∈F:=hx.1;obtain⟨hb,h⟩:=cs h;obtain⟨hl,h⟩:=cs h
    cases hno:Ei r' with
    |true=>
     rw[hno,cond_true]at h;refine⟨_,h,λ A' hA R' K'=>?_⟩;unfold Af;rw[ho,hod];simp only[hopn,cond_false,Ah hA hx,Ah hA hi,hs,hn,C4 hA hal,hse,hb,hl,hno,cond_true,hA t ht]
    |false=>
     rw[hno,cond_false]at h;obtain⟨hao,h⟩:=cs h;refine⟨_,h,λ A' hA R' K'=>?_⟩;unfold Af;rw[ho,hod];simp only[hopn,cond_false,Ah hA hx,Ah hA hi,hs,hn,C4 hA hal,hse,hb,hl,hno,hao,cond_true,cond_false,hA t ht]
   ·cases h
  ·cases h
 ·cases h
def A5a {T:TypeId} {x i:Operand} {d:Nat} (ho:o.op = .index T x i) (hod:o.dst=some d) (hx:RX A F x) (hi:RX A F i) (h:Af E o A Kc=some r):Loc E o A F Kc r:=by
 unfold Af at h;rw[ho,hod]at h;simp only at h;split at h
 ·rename_i s k n hs hn;obtain⟨hb,h⟩:=cs h;obtain⟨hl,h⟩:=cs h;refine⟨_,h,λ A' hA R' K'=>?_⟩;unfold Af;rw[ho,hod];simp only[Ah hA hx,Ah hA hi,hs,hn,hb,hl,cond_true]
 ·cases h
def Cv (hA:Ag A A' F) {x:Option Operand} (hx:∀ y,x=some y→RX A F y):Ng E A' x=Ng E A x:=by
 cases x with
 |none=>rfl
 |some y=>simp only[Ng,Ah hA (hx y rfl)]
def Eo {T:TypeId} {x:Operand} {lo hi:Option Operand} {d:Nat} (hA:Ag A A' F) (hx:RX A F x) (hlo:∀ y,lo=some y→RX A F y) (hhi:∀ y,hi=some y→RX A F y) (htw:∀ p∈U8 A x lo,p∈F):Ms E A' T x lo hi d=Ms E A T x lo hi d:=by
 unfold Ms;rw[Ah hA hx];split
 ·rename_i q v1 v2 hs
  have hst:∃ t,x = .tmp t∧(get A t).2 = .one (.two q v1 v2):=by
   cases x with
   |tmp t=>
    refine⟨t,rfl,?_⟩;have h2:(bif Nat.blt t E.nt then some (get A t).2 else none)=some (.one (.two q v1 v2)):=hs;cases hb:Nat.blt t E.nt
    ·rw[hb]at h2;cases h2
    rw[hb,cond_true,Vc]at h2;exact h2
   |const v=>
    exfalso
    have key:∀ z,opT E T A (.const v)=some z→(∃ e r,z = .one (.own e r []))∨∃ u,z = .one (.sc u):=by
     intro z hz;unfold opT at hz;split at hz
     ·rename_i heq;cases heq
     ·split at hz
      ·cases hz;exact .inl ⟨_,_,rfl⟩
      ·cases hz
     ·revert hz
      generalize Qu _=bb
      cases bb<;>intro hz<;>cases hz
      exact .inr ⟨_,rfl⟩
     ·rename_i heq;cases heq
     ·cases hz
    rcases key _ hs with⟨_,_,h⟩|⟨_,h⟩<;>cases h
   |func f=>cases hs
   |global g=>cases hs
  obtain⟨t,rfl,ht⟩:=hst
  cases lo with
  |none=>
   cases hi with
   |none=>rfl
   |some y=>
    have hq:q∈F:=htw q (by simp[U8,ht]);simp only[hA q hq,Cv hA hhi]
  |some y=>
   cases hi with
   |some _=>rfl
   |none=>
    have hq:q+1∈F:=htw (q+1) (by simp[U8,ht]);simp only[hA (q+1) hq,Cv hA hlo]
 ·rfl
def A6a {T:TypeId} {x:Operand} {lo hi:Option Operand} {d:Nat} (ho:o.op = .slice T x lo hi none) (hod:o.dst=some d) (hx:RX A F x) (hlo:∀ y,lo=some y→RX A F y) (hhi:∀ y,hi=some y→RX A F y) (htw:∀ p∈U8 A x lo,p∈F) (h:Af E o A Kc=some r):Loc E o A F Kc r:=by
 unfold Af at h;rw[ho,hod]at h;simp only at h;split at h
 ·rename_i q hpc;obtain⟨hq,h⟩:=cs h;refine⟨_,h,λ A' hA R' K'=>?_⟩;unfold Af;rw[ho,hod];simp only[Eo hA hx hlo hhi htw,hpc,hq,cond_true]
 rename_i hpc;split at h
 ·rename_i s l u hs hl hu;obtain⟨hq,h⟩:=cs h;obtain⟨h1,h2⟩:=Ft h;refine⟨_,h1,λ A' hA R' K'=>?_⟩;unfold Af;rw[ho,hod];simp only[Eo hA hx hlo hhi htw,hpc,Ah hA hx,Cv hA hlo,Cv hA hhi,hs,hl,hu,hq,cond_true];exact h2 _
 ·rename_i y l u hne hs hl hu;have hal:=(Cz hx hs).al;split at h
  ·rename_i e0 r0 xs0 e r' xs hsn;obtain⟨hq,h⟩:=cs h;split at h
   ·obtain⟨h1,h2⟩:=Ft h;refine⟨_,h1,λ A' hA R' K'=>?_⟩;unfold Af;rw[ho,hod];simp only[Eo hA hx hlo hhi htw,hpc,Ah hA hx,Cv hA hlo,Cv hA hhi,hs,hl,hu,C4 hA hal,hsn,hq,cond_true];exact h2 _
   ·obtain⟨h1,h2⟩:=Ft h;refine⟨_,h1,λ A' hA R' K'=>?_⟩;unfold Af;rw[ho,hod];simp only[Eo hA hx hlo hhi htw,hpc,Ah hA hx,Cv hA hlo,Cv hA hhi,hs,hl,hu,C4 hA hal,hsn,hq,cond_true];exact h2 _
  ·rename_i p v e r' xs hsn;have hp:p∈F:=Cz hx hs;obtain⟨hq,h⟩:=cs h
   cases hmv:E.mv d with
   |true=>
    rw[hmv,cond_true]at h;split at h
    ·obtain⟨h1,h2⟩:=Ft h;refine⟨_,h1,λ A' hA R' K'=>?_⟩;unfold Af;rw[ho,hod];simp only[Eo hA hx hlo hhi htw,hpc,Ah hA hx,Cv hA hlo,Cv hA hhi,hs,hl,hu,C4 hA hal,hsn,hq,hmv,cond_true];exact h2 _
    ·cases h
   |false=>
    rw[hmv,cond_false]at h
    cases hno:Ei r' with
    |true=>
     rw[hno,cond_true]at h;obtain⟨h1,h2⟩:=Ft h;refine⟨_,h1,λ A' hA R' K'=>?_⟩;unfold Af;rw[ho,hod];simp only[Eo hA hx hlo hhi htw,hpc,Ah hA hx,Cv hA hlo,Cv hA hhi,hs,hl,hu,C4 hA hal,hsn,hq,hmv,hno,cond_true,cond_false,Rv hA hal];exact h2 _
    |false=>
     rw[hno,cond_false]at h;obtain⟨hao,h⟩:=cs h;obtain⟨h1,h2⟩:=Ft h;refine⟨_,h1,λ A' hA R' K'=>?_⟩;unfold Af;rw[ho,hod];simp only[Eo hA hx hlo hhi htw,hpc,Ah hA hx,Cv hA hlo,Cv hA hhi,hs,hl,hu,C4 hA hal,hsn,hq,hmv,hno,hao,cond_true,cond_false];exact h2 _
  ·rename_i p v pi e r' xs;have hp:p∈F:=Cz hx hs;obtain⟨hq,h⟩:=cs h;obtain⟨h1,h2⟩:=Ft h;refine⟨_,h1,λ A' hA R' K'=>?_⟩;unfold Af;rw[ho,hod];simp only[Eo hA hx hlo hhi htw,hpc,Ah hA hx,Cv hA hlo,Cv hA hhi,hs,hl,hu,hA p hp,hq,cond_true];exact h2 _
  ·rename_i e r' xs hnda hsn;obtain⟨hq,h⟩:=cs h;obtain⟨h1,h2⟩:=Ft h;refine⟨_,h1,λ A' hA R' K'=>?_⟩;unfold Af;rw[ho,hod];simp only[Eo hA hx hlo hhi htw,hpc,Ah hA hx,Cv hA hlo,Cv hA hhi,hs,hl,hu,C4 hA hal,hsn,hq,cond_true];exact h2 _
  ·cases h
 ·cases h
def Qa {A:Ab} {y:Lf}:∀ u∈Km A y,H9 u:=by
 intro u hu;unfold Km at hu;split at hu
 ·rename_i p v;split at hu
  ·rename_i n e r xs hg;cases hb:Nat.beq n v
   ·rw[hb]at hu;simp at hu
   rw[hb]at hu;simp only[cond_true,Vx]at hu;subst hu;exact .inr ⟨e,r,xs,rfl⟩
  ·simp at hu
 ·simp at hu
def N5 {A:Ab}:∀ {l:List Lf},∀ u∈E7 A l,H9 u
 |[],u,hu=>by simp[E7]at hu
 |y::l,u,hu=>by
  unfold E7 at hu;rcases Vn.1 hu with hu|hu
  ·exact Qa u hu
  ·exact N5 u hu
def M0 {x:Operand} {s:Sv}:∀ u∈gone x s,H9 u:=by
 intro u hu;unfold gone at hu;split at hu
 ·rename_i t;cases hb:Fx s
  ·rw[hb]at hu;simp at hu
  rw[hb]at hu;simp only[cond_true,Vx]at hu;subst hu;exact .inl rfl
 ·simp at hu
def A7a {y:Lf} {x:Operand}:∀ u∈Mq y x,H9 u:=by
 intro u hu;unfold Mq at hu;split at hu
 ·simp only[Vx]at hu;subst hu;exact .inl rfl
 ·simp only[Vx]at hu;subst hu;exact .inl rfl
 ·simp at hu
def A8a {A:Ab} {l:List Lf} {x:Operand} {s:Sv}:∀ u∈E7 A l++gone x s,H9 u:=λ u hu=>(Vn.1 hu).elim (N5 u) (M0 u)
def I8:∀ {l:List Lf} {A:Ab} {m:List Lf} {us:List Up},Ej A l=some (m,us)→∀ u∈us,H9 u
 |[],A,m,us,h=>by
  simp only[Ej,Vc,Vu]at h;obtain⟨_,rfl⟩:=h;simp
 |x::l,A,m,us,h=>by
  by_cases hal:∃ p v,x = .al p v
  ·obtain⟨p,v,rfl⟩:=hal;simp only[Ej]at h;split at h
   ·split at h
    ·rename_i m' us' hrec;cases h;intro u hu;rcases Vk.1 hu with rfl|hu
     ·exact .inl rfl
     ·exact I8 hrec u hu
    ·cases h
   ·cases h
  ·obtain⟨m',rfl,h'⟩:=I6 (λ p v e=>hal ⟨p,v,e⟩) h;exact I8 h'
def A9a {A:Ab} {x:Operand} {s:Sv} {m:List Lf} {us:List Up} (h:W0 A x s=some (m,us)):∀ u∈us,H9 u:=by
 unfold W0 at h;split at h
 ·rename_i m0 vs0 ht;cases h;exact λ u hu=>(Vn.1 hu).elim (M0 u) (I8 ht u)
 ·cases h
def M1 {T:TI}:∀ {ps:List (Nat×Operand)} {A A':Ab} {l:List Lf} {us:List Up},Ag A A' F→(∀ p∈ps,RX A F p.2)→Fy E A' T l us ps=Fy E A T l us ps
 |[],_,_,_,_,_,_=>rfl
 |(i,x)::ps,A,A',l,us,hA,hp=>by
  have hx:RX A F x:=hp (i,x) (by simp);have hps:∀ p∈ps,RX A F p.2:=λ p hm=>hp p (Ve _ hm);have e0:∀ l us,Fy E A' T l us ps=Fy E A T l us ps:=λ l us=>M1 hA hps;unfold Fy
  cases hn:nth T.fo i with
  |none=>rfl
  |some o=>
   obtain⟨off,z,ag⟩:=o;simp only[Ah hA hx]
   have gen:∀ {s:Sv},opT E 0 A x=some s→(let m:=(parts s).map (Ep A');bif A3 m&&Nat.beq m.length z&&Nat.ble (off+z) l.length then Fy E (ups A' (E7 A' (parts s)++gone x s)) T (setAll l off m) (us++(E7 A' (parts s)++gone x s)) ps else none) =
     (let m:=(parts s).map (Ep A);bif A3 m&&Nat.beq m.length z&&Nat.ble (off+z) l.length then Fy E (ups A (E7 A (parts s)++gone x s)) T (setAll l off m) (us++(E7 A (parts s)++gone x s)) ps else none):=by
    intro s hs;have hal:=RL.als (Ha hx hs);simp only[Iz hA hal,Hq hA hal];rw[M1 (hA.ups (U:=E7 A (parts s)++gone x s)) (λ p hm=>(hps p hm).ups A8a)]
   split
   ·cases Nat.beq z 1
    ·rfl
    simp only[cond_true];split
    ·exact e0 _ _
    ·rfl
   ·cases hs:opT E 0 A x with
    |none=>rfl
    |some s=>exact gen hs
def Aaa {T:TypeId} {ps:Array (Nat×Operand)} {d:Nat} (ho:o.op = .build T ps) (hod:o.dst=some d) (hp:∀ p∈ps.toList,RX A F p.2) (h:Af E o A Kc=some r):Loc E o A F Kc r:=by
 unfold Af at h;rw[ho,hod]at h;simp only at h;split at h
 ·rename_i ti hT;split at h
  ·rename_i l us hb;obtain⟨ha,h⟩:=cs h;refine⟨_,h,λ A' hA R' K'=>?_⟩;unfold Af;rw[ho,hod];simp only[hT,M1 hA hp,hb,ha,cond_true]
  ·cases h
 ·cases h
def Ti {e:TypeId} {t:Ty}:∀ {ps:List (Nat×Operand)} {A A':Ab} {i:Nat},Ag A A' F→(∀ p∈ps,RX A F p.2)→P5 E A' e t i ps=P5 E A e t i ps
 |[],_,_,_,_,_=>rfl
 |(j,x)::ps,A,A',i,hA,hp=>by
  have hx:RX A F x:=hp (j,x) (by simp);have hps:∀ p∈ps,RX A F p.2:=λ p hm=>hp p (Ve _ hm);unfold P5;cases Nat.beq i j
  ·rfl
  simp only[cond_true,Ah hA hx]
  cases hs:opT E e A x with
  |none=>rfl
  |some s=>
   have hal:=RL.als (Ha hx hs);simp only[Iz hA hal,Tg hA hal,Hq hA hal];rw[Ti (hA.ups (U:=E7 A (parts s)++gone x s)) (λ p hm=>(hps p hm).ups A8a)]
def Tj {e:TypeId} {t:Ty}:∀ {ps:List (Nat×Operand)} {A A':Ab} {i:Nat},Ag A A' F→(∀ p∈ps,RX A F p.2)→P6 E A' e t i ps=P6 E A e t i ps
 |[],_,_,_,_,_=>rfl
 |(j,x)::ps,A,A',i,hA,hp=>by
  have hx:RX A F x:=hp (j,x) (by simp);have hps:∀ p∈ps,RX A F p.2:=λ p hm=>hp p (Ve _ hm);unfold P6;cases Nat.beq i j
  ·rfl
  simp only[cond_true,Ah hA hx]
  cases hs:opT E e A x with
  |none=>rfl
  |some s=>
   have hal:=RL.als (Ha hx hs);simp only[Zy hA hal]
   cases hgv:W0 A x s with
   |none=>rfl
   |some q=>
    obtain⟨m,us⟩:=q;simp only;rw[Tj (hA.ups (U:=us)) (λ p hm=>(hps p hm).ups (A9a hgv))]
def Mo {T:TypeId} {n:Nat} {ps:Array (Nat×Operand)} {d:Nat} (ho:o.op = .buildSlice T n ps) (hod:o.dst=some d) (hp:∀ p∈ps.toList,RX A F p.2) (h:Af E o A Kc=some r):Loc E o A F Kc r:=by
 unfold Af at h;rw[ho,hod]at h;simp only at h;split at h
 ·rename_i e r' b f hT;obtain⟨hb,h⟩:=cs h;split at h
  ·rename_i hh;obtain⟨hno,h⟩:=cs h;split at h
   ·rename_i ys us hr;refine⟨_,h,λ A' hA R' K'=>?_⟩;unfold Af;rw[ho,hod];simp only[hT,hb,hh,hno,cond_true,Ti hA hp,hr]
   ·cases h
  ·rename_i r2 hh;obtain⟨hb2,h⟩:=cs h;split at h
   ·rename_i ys us hr;refine⟨_,h,λ A' hA R' K'=>?_⟩;unfold Af;rw[ho,hod];simp only[hT,hb,hh,hb2,cond_true,Tj hA hp,hr]
   ·cases h
 ·cases h
def Oj {T:TypeId} {x y:Operand} {d:Nat} (ho:o.op = .makeSlice T x y) (hod:o.dst=some d) (hx:RX A F x) (hy:RX A F y) (h:Af E o A Kc=some r):Loc E o A F Kc r:=by
 unfold Af at h;rw[ho,hod]at h;simp only at h;split at h
 ·rename_i e r' b f n m hT hs hm;split at h
  ·rename_i te he;obtain⟨hb,h⟩:=cs h;obtain⟨h0,h⟩:=cs h;obtain⟨h1,h⟩:=cs h;split at h
   ·rename_i hh;refine⟨_,h,λ A' hA R' K'=>?_⟩;unfold Af;rw[ho,hod];simp only[hT,Ah hA hx,Ah hA hy,hs,hm,he,hb,h0,h1,hh,cond_true]
   ·rename_i r2 hh;obtain⟨h2,h⟩:=cs h;refine⟨_,h,λ A' hA R' K'=>?_⟩;unfold Af;rw[ho,hod];simp only[hT,Ah hA hx,Ah hA hy,hs,hm,he,hb,h0,h1,hh,h2,cond_true]
  ·cases h
 ·cases h
def M2 (hA:Ag A A' F):∀ {xs:List Operand} {Ts:List TypeId},(∀ x∈xs,RX A F x)→J9 E Ts A' xs=J9 E Ts A xs
 |[],_,_=>by simp only[J9]
 |x::xs,[],_=>by simp only[J9]
 |x::xs,T::Ts,hx=>by
  unfold J9;simp only[Ah hA (hx x (by simp)),M2 hA (xs:=xs) (Ts:=Ts) (λ y hy=>hx y (Ve _ hy))]
def Ry:∀ {xs:List Operand} {Ts:List TypeId} {ss:List Sv},(∀ x∈xs,RX A F x)→J9 E Ts A xs=some ss→∀ s∈ss,∀ y∈parts s,RL A F y
 |[],_,ss,_,h=>by
  simp only[J9,Vc]at h;subst h;intro s hs;simp at hs
 |x::xs,[],ss,_,h=>by simp[J9]at h
 |x::xs,T::Ts,ss,hx,h=>by
  simp only[J9]at h;split at h
  ·rename_i s hs;split at h
   ·rename_i ss' hss;cases h;intro s' hs' y hy;rcases Vk.1 hs' with rfl|hs'
    ·exact Ha (hx x (by simp)) hs y hy
    ·exact Ry (λ y hy=>hx y (Ve _ hy)) hss s' hs' y hy
   ·cases h
  ·cases h
def Fea {c:Call} (ho:o.op = .call c) (hc:c.callee = .builtin .len) (hx:∀ x∈c.args.toList,RX A F x) (h:Af E o A Kc=some r):Loc E o A F Kc r:=by
 unfold Af at h;rw[ho]at h;simp only[hc]at h;split at h
 ·rename_i T x d hT hxs hod;have hx0:RX A F x:=hx x (by rw[hxs];simp);split at h
  ·rename_i y hs;have hal:=(Cz hx0 hs).al;split at h
   ·rename_i s hse;obtain⟨hb,h⟩:=cs h;refine⟨_,h,λ A' hA R' K'=>?_⟩;unfold Af;rw[ho,hod];simp only[hc,hT,hxs,Ah hA hx0,hs,C4 hA hal,hse,hb,cond_true]
   ·rename_i p v pi e r' xs hse
    have hy:y = .da p v pi e r' xs:=by
     cases y<;>first|exact hse|skip
     simp only[E8]at hse;split at hse
     ·rename_i n _ _ _ _
      cases hbb:Nat.beq n _<;>rw[hbb]at hse<;>simp at hse
     ·rename_i n _ _ _ _
      cases hbb:Nat.beq n _<;>rw[hbb]at hse<;>simp at hse
     ·cases hse
    have hp:p∈F:=by have:=Cz hx0 hs;rw[hy]at this;exact this
    obtain⟨hb,h⟩:=cs h;refine⟨_,h,λ A' hA R' K'=>?_⟩;unfold Af;rw[ho,hod];simp only[hc,hT,hxs,Ah hA hx0,hs,C4 hA hal,hse,hA p hp,hb,cond_true]
   ·rename_i e r' xs hse;obtain⟨hb,h⟩:=cs h;refine⟨_,h,λ A' hA R' K'=>?_⟩;unfold Af;rw[ho,hod];simp only[hc,hT,hxs,Ah hA hx0,hs,C4 hA hal,hse,hb,cond_true]
   ·rename_i e r' xs hse;obtain⟨hb,h⟩:=cs h;refine⟨_,h,λ A' hA R' K'=>?_⟩;unfold Af;rw[ho,hod];simp only[hc,hT,hxs,Ah hA hx0,hs,C4 hA hal,hse,hb,cond_true]
   ·cases h
  ·cases h
 ·cases h
def Ffa {c:Call} (ho:o.op = .call c) (hc:c.callee = .builtin .min) (hx:∀ x∈c.args.toList,RX A F x) (h:Af E o A Kc=some r):Loc E o A F Kc r:=by
 unfold Af at h;rw[ho]at h;simp only[hc]at h;split at h
 ·rename_i k n l d hs hod;obtain⟨v,h1,h2⟩:=N4 h;refine⟨_,h1,λ A' hA R' K'=>?_⟩;unfold Af;rw[ho,hod];simp only[hc,M2 hA hx,hs];exact h2 _
 ·cases h
def Fga {c:Call} (ho:o.op = .call c) (hc:c.callee = .builtin .max) (hx:∀ x∈c.args.toList,RX A F x) (h:Af E o A Kc=some r):Loc E o A F Kc r:=by
 unfold Af at h;rw[ho]at h;simp only[hc]at h;split at h
 ·rename_i k n l d hs hod;obtain⟨v,h1,h2⟩:=N4 h;refine⟨_,h1,λ A' hA R' K'=>?_⟩;unfold Af;rw[ho,hod];simp only[hc,M2 hA hx,hs];exact h2 _
 ·cases h
def Uw {c:Call} (ho:o.op = .call c) (hc:c.callee = .builtin .append) (hx:∀ x∈c.args.toList,RX A F x) (h:Af E o A Kc=some r):Loc E o A F Kc r:=by
 unfold Af at h;rw[ho]at h;simp only[hc]at h;split at h
 ·rename_i T T' x y d hT hxs hod;have hx0:RX A F x:=hx x (by rw[hxs];simp);have hy0:RX A F y:=hx y (by rw[hxs];simp);split at h
  ·rename_i u w hsu hsw;have hau:=(Cz hx0 hsu).al;have hrw:=Cz hy0 hsw;split at h
   ·rename_i e r' xs hsu';split at h
    ·rename_i r2 hh;have hy1:RX (ups A (Mq u x)) F y:=hy0.ups A7a;split at h
     ·rename_i w2 hsw2;have haw2:=(Cz hy1 hsw2).al;split at h
      ·rename_i e' r3 ys xs2 te hsn hcx hte;split at h
       ·rename_i ys2 hcy;obtain⟨hq,h⟩:=cs h;obtain⟨hq2,h⟩:=cs h;refine⟨_,h,λ A' hA R' K'=>?_⟩;have hA1:=hA.ups (U:=Mq u x);unfold Af;rw[ho,hod];simp only[hc,hT,hxs,Ah hA hx0,Ah hA hy0,hsu,hsw,C4 hA hau,hsu',hh,Ah hA1 hy1,hsw2,C4 hA1 haw2,hsn,hcx,hte,hcy,hq,hq2,cond_true]
       ·cases h
      ·rename_i hsn hcx hte;split at h
       ·rename_i ys2 hcy;obtain⟨hq,h⟩:=cs h;obtain⟨hq2,h⟩:=cs h;refine⟨_,h,λ A' hA R' K'=>?_⟩;have hA1:=hA.ups (U:=Mq u x);unfold Af;rw[ho,hod];simp only[hc,hT,hxs,Ah hA hx0,Ah hA hy0,hsu,hsw,C4 hA hau,hsu',hh,Ah hA1 hy1,hsw2,C4 hA1 haw2,hsn,hcx,hte,hcy,hq,hq2,cond_true]
       ·cases h
      ·cases h
     ·cases h
    ·rename_i hh
     cases hno:Ei r' with
     |false=>rw[hno]at h;simp at h
     |true=>
     rw[hno,cond_true]at h;split at h
     ·rename_i e' r'' ys hasl;split at h
      ·rename_i ys' te hcast hte;obtain⟨hq,h⟩:=cs h;obtain⟨hq2,h⟩:=cs h;refine⟨_,h,λ A' hA R' K'=>?_⟩;unfold Af;rw[ho,hod];simp only[hc,hT,hxs,Ah hA hx0,Ah hA hy0,hsu,hsw,C4 hA hau,Tf hA hrw,hsu',hh,hno,hasl,hcast,hte,hq,hq2,cond_true]
      ·cases h
     ·rename_i hasl;split at h
      ·rename_i s;split at h
       ·rename_i ys' f hcast hte;obtain⟨hq,h⟩:=cs h;refine⟨_,h,λ A' hA R' K'=>?_⟩;unfold Af;rw[ho,hod];simp only[hc,hT,hxs,Ah hA hx0,Ah hA hy0,hsu,hsw,C4 hA hau,Tf hA hrw,hsu',hh,hno,hasl,hcast,hte,hq,cond_true]
       ·cases h
      ·cases h
   ·cases h
  ·cases h
 ·cases h
def Qb (hA:Ag A A' F):∀ {ps:List Par} {ss:List Sv},(∀ s∈ss,∀ y∈parts s,RL A F y)→Gz A' ps ss=Gz A ps ss
 |[],[],_=>rfl
 |[],_::_,_=>rfl
 |p::_,[],_=>by cases p<;>rfl
 |.ptr _ _::_,_::_,_=>rfl
 |.hid _ _::_,_::_,_=>rfl
 |.rd _::_,_::_,_=>rfl
 |.fn _ _::_,_::_,_=>rfl
 |.vw _ _::_,_::_,_=>rfl
 |.io _ _::_,_::_,_=>rfl
 |.val ag t::ps,s::ss,hs=>by
  unfold Gz;rw[Cla hA (hs s (by simp)),Qb hA (λ s' hs'=>hs s' (Ve _ hs'))]
def Ux {y:Lf}:∀ u∈Qw y,H9 u:=by
 intro u hu;unfold Qw at hu;split at hu
 ·simp only[Vx]at hu;subst hu;exact .inl rfl
 ·simp at hu
def Gp:∀ {ts:List Ty} {l:List Lf} {A:Ab} {m:List Lf} {us:List Up},Bw A ts l=some (m,us)→∀ u∈us,H9 u
 |[],[],A,m,us,h=>by
  simp only[Bw,Vc,Vu]at h;obtain⟨_,rfl⟩:=h;simp
 |[],_::_,A,m,us,h=>by simp[Bw]at h
 |t::ts,[],A,m,us,h=>by cases t<;>simp[Bw]at h
 |t::ts,x::l,A,m,us,h=>by
  cases t with
  |ow e r=>
   simp only[Bw]at h;split at h
   ·split at h
    ·rename_i hr;cases h;exact λ u hu=>(Vn.1 hu).elim (Ux u) (Gp hr u)
    ·cases h
   ·cases h
  |_=>
   simp only[Bw]at h;split at h
   ·rename_i hr;cases h;exact λ u hu=>(Vn.1 hu).elim (Qa u) (Gp hr u)
   ·cases h
def Csa {x:Operand} {s:Sv} {t:Ty} (hA:Ag A A' F) (hal:∀ y∈parts s,AL F y):Ic A' x s t=Ic A x s t:=by
 unfold Ic Jb;rw[Hb (hA.ups (U:=gone x s)) hal]
def Uy {x:Operand} {s:Sv} {t:Ty} {m:List Lf} {us:List Up} (h:Ic A x s t=some (m,us)):∀ u∈us,H9 u:=by
 unfold Ic Jb at h;split at h
 ·rename_i m0 vs0 ht;cases hst:A3 m0
  ·rw[hst]at h;simp at h
  rw[hst]at h;simp only[cond_true,Vc,Vu]at h;obtain⟨_,rfl⟩:=h;exact λ u hu=>(Vn.1 hu).elim (M0 u) (Gp ht u)
 ·cases h
def Tk {b v:Nat} {t t':Ty} (hA:Ag A A' F) (hb:RB A F b 0):I2 A' b v t t'=I2 A b v t t':=by
 obtain⟨h1,h2⟩:=hb;unfold I2;rw[hA _ h1];split
 ·rename_i n m hg
  have hcell:∀ i,i<m→C b (0+i)∈F∧∀ p v,(get A (C b (0+i))).2 = .one (.al p v)→p∈F:=λ i hi=>by
   rw[Vy];exact h2 m (by rw[hg]) i (Wn _) hi
  have hac:=N3 hcell;have e1:cellsOf A' b 0 m=cellsOf A b 0 m:=Ju hA (λ i hi=>(hcell i hi).1);rw[e1,Hb hA hac]
 ·rfl
def N6 {b v:Nat} {t t':Ty} {m:List Lf} {us:List Up} (h:I2 A b v t t'=some (m,us)):∀ u∈us,H9 u:=by
 unfold I2 at h;split at h
 ·rename_i n hd hp;obtain⟨hq,h⟩:=cs h;split at h
  ·rename_i l us0 hx;cases hst:A3 l
   ·rw[hst]at h;simp at h
   rw[hst]at h;simp only[cond_true,Vc,Vu]at h;obtain⟨_,rfl⟩:=h;exact Gp hx
  ·cases h
 ·cases h
def M3 (hA:Ag A A' F):∀ {bs:List (Nat×Nat)},(∀ c∈bs,RB A F c.1 0)→Fk A' bs=Fk A bs
 |[],_=>rfl
 |c::bs,h=>by
  unfold Fk;rw[hA _ (h c (by simp)).1,M3 hA (λ c hc=>h c (Ve _ hc))]
def Aba (hA:Ag A A' F) {b:Nat}:∀ {ts:List Ty} {j:Nat} {l:List Lf},(∀ y∈l,AL F y)→Qx A' b j ts l=Qx A b j ts l
 |[],_,[],_=>rfl
 |[],_,_::_,_=>rfl
 |t::ts,_,[],_=>by cases t<;>rfl
 |t::ts,j,x::l,h=>by
  have hx:=h x (by simp);have ih:=Aba hA (b:=b) (ts:=ts) (j:=j+1) (l:=l) (λ y hy=>h y (Ve _ hy))
  cases t with
  |ow e r=>
   cases x with
   |al p v=>simp only[Qx,ih,C4 hA hx,hA p hx]
   |_=>rfl
  |_=>simp only[Qx,ih,C4 hA hx]
def RV (A:Ab) (F:List Nat) (ss:List Sv):Prop:=∀ ys,Sv.agg ys∈ss→∀ p v,Lf.al p v∈ys→1000≤p→RB A F (p/1000-1) 0
def N7:∀ {ys:List Lf} {b:Nat},Oz ys=some b→∃ p v,Lf.al p v∈ys∧1000≤p∧b=p/1000-1
 |[],b,h=>by simp[Oz]at h
 |y::ys,b,h=>by
  have rest:Oz ys=some b→∃ p v,Lf.al p v∈y::ys∧1000≤p∧b=p/1000-1:=λ h=>by
   obtain⟨p,v,h1,h2⟩:=N7 h;exact⟨p,v,Ve _ h1,h2⟩
  cases y with
  |al p v=>
   simp only[Oz]at h;cases hq:Nat.ble 1000 p
   ·rw[hq]at h;exact rest h
   rw[hq]at h;simp only[cond_true,Vc]at h;exact⟨p,v,by simp,Vd hq,h.symm⟩
  |_=>exact rest h
def Aca (hA:Ag A A' F):∀ {ps:List Par} {ss:List Sv},RV A F ss→P0 A' ps ss=P0 A ps ss∧∀ c∈P0 A ps ss,RB A F c.1 0
 |[],ss,_=>⟨rfl,by simp[P0]⟩
 |p::ps,[],_=>by cases p<;>exact⟨rfl,by simp[P0]⟩
 |p::ps,s::ss,h=>by
  obtain⟨h1,h2⟩:=Aca hA (ps:=ps) (ss:=ss) (λ ys hy=>h ys (Ve _ hy))
  cases p with
  |vw t h0=>
   cases s with
   |agg ys=>
    simp only[P0]
    cases hb:Oz ys with
    |none=>exact⟨h1,h2⟩
    |some b=>
     obtain⟨p,v,e1,e2,rfl⟩:=N7 hb;have hrb:=h ys (by simp) p v e1 e2;refine⟨by simp only[h1,hA _ hrb.1],λ c hc=>?_⟩;rcases Vk.1 hc with rfl|hc
     ·exact hrb
     ·exact h2 c hc
   |_=>exact⟨h1,h2⟩
  |_=>cases s<;>exact⟨h1,h2⟩
def Tl (hA:Ag A A' F) {cb hb:List (Nat×Nat)} {nv:Nat} {x:Operand} {p:Par} {s:Sv} (hhb:∀ c∈hb,RB A F c.1 0) (hs:∀ y∈parts s,RL A F y):Kh A' cb hb nv x p s=Kh A cb hb nv x p s∧∀ l u b,Kh A cb hb nv x p s=some (l,u,b)→∀ v∈u,H9 v:=by
 have hal:=RL.als hs;constructor
 ·unfold Kh;split
  ·rename_i t h0 ys
   cases hn:nth hb (h0-nv) with
   |none=>rfl
   |some c=>
    rw[Da]at hn;simp only[hA _ (hhb c (Zo hn)).1,Aba hA (show ∀ y∈ys,AL F y from hal)]
  ·simp only[Csa hA hal]
  ·rename_i b v;rw[Tk hA (show RB A F b 0 from hs (.bp b v 0) (by simp[parts]))]
  ·rename_i b v;rw[Tk hA (show RB A F b 0 from hs (.bp b v 0) (by simp[parts]))]
  ·rfl
  ·rename_i F0 m F' bs;rw[M3 hA (show ∀ c∈bs,RB A F c.1 0 from hs (.fn F' bs) (by simp[parts]))]
  ·rfl
 ·intro l u b h v hv;unfold Kh at h;split at h
  ·rename_i t h0 ys;split at h
   ·split at h
    ·rename_i n m _;generalize (Nat.ble nv h0&&Nat.beq n _&&Nat.beq m t.sz)=bb at h;cases bb
     ·simp at h
     rw[cond_true]at h;split at h
     ·cases h;simp at hv
     ·cases h
    ·cases h
   ·cases h
  ·rename_i ag t;obtain⟨hf,h⟩:=cs h;split at h
   ·rename_i hgive;cases h;exact Uy hgive v hv
   ·cases h
  ·split at h
   ·rename_i hgive;cases h;exact N6 hgive v hv
   ·cases h
  ·split at h
   ·rename_i hgive;cases h;exact N6 hgive v hv
   ·cases h
  ·rename_i t r y;cases hf:(decide (shp r=shp t)&&Ei t)
   ·rw[hf]at h;simp at h
   rw[hf]at h;simp only[cond_true,Vc,Vu]at h;obtain⟨_,rfl,_⟩:=h;simp at hv
  ·rename_i F0 m F' bs;cases hf:(Nat.beq F0 F'&&Nat.beq m bs.length&&Dea bs cb&&Fk A bs)
   ·rw[hf]at h;simp at h
   rw[hf]at h;simp only[cond_true,Vc,Vu]at h;obtain⟨_,rfl,_⟩:=h;simp at hv
  ·cases h
def M4 {cb hb:List (Nat×Nat)} {nv:Nat}:∀ {ps:List Par} {xs:List (TypeId×Operand)} {hs:List (Nat×Nat)} {A A':Ab},Ag A A' F→(∀ x∈xs,RX A F x.2)→(∀ h∈hs,RB A F h.1 0)→(∀ c∈hb,RB A F c.1 0)→F6 E cb hb nv A' xs hs ps=F6 E cb hb nv A xs hs ps
 |[],[],[],_,_,_,_,_,_=>rfl
 |[],[],_::_,_,_,_,_,_,_=>rfl
 |[],_::_,_,_,_,_,_,_,_=>rfl
 |_::_,[],[],_,_,_,_,_,_=>rfl
 |p::ps,x::xs,hs,A,A',hA,hx,hb',hhb=>by
  have hx0:RX A F x.2:=hx x (by simp);unfold F6;rw[Ah hA hx0]
  cases hs:opT E x.1 A x.2 with
  |none=>rfl
  |some s=>
   simp only;obtain⟨h1,h2⟩:=Tl hA (cb:=cb) (hb:=hb) (nv:=nv) (x:=x.2) (p:=p) hhb (Ha hx0 hs);rw[h1]
   cases ha:Kh A cb hb nv x.2 p s with
   |none=>rfl
   |some q=>
    obtain⟨l,u,b⟩:=q;simp only;rw[M4 (hA.ups (U:=u)) (λ y hy=>(hx y (Ve _ hy)).ups (h2 l u b ha)) (λ c hc=>(hb' c hc).ups (h2 l u b ha)) (λ c hc=>(hhb c hc).ups (h2 l u b ha))]
 |p::ps,[],h::hs,A,A',hA,hx,hb',hhb=>by
  unfold F6
  obtain⟨h1,h2⟩:=Tl hA (cb:=cb) (hb:=hb) (nv:=nv) (x := .func 0) (p:=p) (s := .one (.bp h.1 h.2 0)) (F:=F) hhb (λ y hy=>by
   simp only[parts,Vx]at hy;subst hy
   exact hb' h (by simp))
  rw[h1]
  cases ha:Kh A cb hb nv (.func 0) p (.one (.bp h.1 h.2 0)) with
  |none=>rfl
  |some q=>
   obtain⟨l,u,b⟩:=q;simp only;rw[M4 (hA.ups (U:=u)) (λ y hy=>by simp at hy) (λ c hc=>(hb' c (Ve _ hc)).ups (h2 l u b ha)) (λ c hc=>(hhb c hc).ups (h2 l u b ha))]
def Rz:∀ {ss:List Sv},(∀ s∈ss,∀ y∈parts s,RL A F y)→∀ c∈W6 ss,RB A F c.1 0
 |[],_,c,hc=>by simp[W6]at hc
 |s::ss,h,c,hc=>by
  have h2:=λ s' hs'=>h s' (Ve _ hs')
  cases s with
  |one z=>
   cases z with
   |fn F' bs=>exact(show ∀ c∈bs,RB A F c.1 0 from h (.one (.fn F' bs)) (by simp) (.fn F' bs) (by simp[parts])) c hc
   |_=>exact Rz h2 c hc
  |_=>exact Rz h2 c hc
def Tm (hA:Ag A A' F):∀ {xs:List Operand},(∀ x∈xs,RX A F x)→P7 E A' xs=P7 E A xs
 |[],_=>rfl
 |x::xs,h=>by
  unfold P7;rw[Ah hA (h x (by simp)),Tm hA (λ y hy=>h y (Ve _ hy))]
def Tn {rs:List (RK×Ty)} {ls:List (List Lf)} {d:Option Nat} (hA:∀ d',d=some d'→get A' (H d')=get A (H d')):Hv A' rs ls d=Hv A rs ls d:=by
 unfold Hv
 split<;>first|rfl|skip
 ·rename_i d _ _ _ _ _;unfold W7;rw[hA _ rfl]
def Qc {en:Ent} {xs:List (TypeId×Operand)} {cs:List (Nat×Nat)} {ss:List Sv} {d:Option Nat} (hd:∀ d',d=some d'→H d'∈F) (hx:∀ x∈xs,RX A F x.2) (hcs:∀ c∈cs,RB A F c.1 0) (hrl:∀ s∈ss,∀ y∈parts s,RL A F y) (hrv:RV A F ss) (h:Nf E A en xs cs ss d Kc=some r):
  ∃ U,Kc U=some r∧∀ A',Ag A A' F→∀ {R':Type} (K':List Up→Option R'),Nf E A' en xs cs ss d K'=K' U:=by
 unfold Nf at h;rw[csi]at h;obtain⟨hnv,h⟩:=h
 cases hb:(Gy en.ps&&Mg en.rs&&cs.isEmpty) with
 |true=>
  rw[hb,cond_true]at h;split at h
  ·cases h
  ·rename_i ls hl;split at h
   ·cases h
   ·rename_i x hm
    cases hr:en.run x with
    |none=>rw[hr]at h;simp at h
    |some y=>
     rw[hr]at h;simp only[Ym]at h;split at h
     ·cases h
     ·rename_i rs hrs;refine⟨_,h,λ A' hA R' K'=>?_⟩;unfold Nf;simp only[hnv,hb,cond_true,Qb hA hrl,hl,hm,hr,Ym,Tn (A:=A) (A':=A') (λ d' hd'=>hA _ (hd d' hd')),hrs]
 |false=>
  rw[hb,cond_false]at h;rw[csi]at h;obtain⟨hb2,h⟩:=h;split at h
  ·cases h
  ·rename_i ls us bs hl;rw[csi]at h;obtain⟨hnd,h⟩:=h;split at h
   ·cases h
   ·rename_i x hm
    cases hr:en.run x with
    |none=>rw[hr]at h;simp at h
    |some y=>
     rw[hr]at h;simp only[Ym]at h;split at h
     ·cases h
     ·rename_i ws hws;split at h
      ·cases h
      ·rename_i rs hrs;refine⟨_,h,λ A' hA R' K'=>?_⟩;have hA2:=(hA.ups (U:=us)).ups (U:=ws);obtain⟨v1,v2⟩:=Aca hA (ps:=en.ps) hrv;have hhb:∀ c∈W6 ss++P0 A en.ps ss,RB A F c.1 0:=λ c hc=>(Vn.1 hc).elim (Rz hrl c) (v2 c);have hargs:=M4 (E:=E) (cb:=W6 ss++P0 A en.ps ss) (hb:=W6 ss++P0 A en.ps ss) (nv:=en.nv) (ps:=en.ps) hA hx (hs:=cs++(W6 ss++P0 A en.ps ss)) (λ c hc=>(Vn.1 hc).elim (hcs c) (hhb c)) hhb;unfold Nf;simp only[v1,hnv,hb,hb2,hnd,cond_true,cond_false,hargs,hl,hm,hr,Ym,hws,Tn (A:=ups (ups A us) ws) (A':=ups (ups A' us) ws) (λ d' hd'=>hA2 _ (hd d' hd')),hrs]
def S4:∀ {xs:List Operand} {Ts:List TypeId} {ss:List Sv},(∀ t,.tmp t∈xs→RV A F [(get A t).2])→J9 E Ts A xs=some ss→RV A F ss
 |[],_,ss,_,h=>by
  simp only[J9,Vc]at h;subst h;intro ys hy;simp at hy
 |x::xs,[],ss,_,h=>by simp[J9]at h
 |x::xs,T::Ts,ss,hx,h=>by
  simp only[J9]at h;split at h
  ·rename_i s hs;split at h
   ·rename_i ss' hss;cases h;intro ys hy p v hp h1;rcases Vk.1 hy with hy|hy
    ·subst hy
     cases x with
     |tmp t=>
      have h2:(bif Nat.blt t E.nt then some (get A t).2 else none)=some (.agg ys):=hs;cases hb:Nat.blt t E.nt
      ·rw[hb]at h2;simp at h2
      rw[hb]at h2;simp only[cond_true,Vc]at h2;exact hx t (by simp) ys (by rw[h2];simp) p v hp h1
     |const w=>
      exfalso;unfold opT at hs;split at hs
      ·rename_i e;cases e
      ·split at hs<;>cases hs
      ·rename_i w' _ _
       cases hq:Qu w'<;>simp[hq]at hs
      ·rename_i e;cases e
      ·cases hs
     |func f=>simp[opT]at hs
     |global g=>simp[opT]at hs
    ·exact S4 (λ t ht=>hx t (Ve _ ht)) hss ys hy p v hp h1
   ·cases h
  ·cases h
def Ada:∀ {ys:List Lf},(∀ p∈G5a A ys,p∈F)→∀ p v,Lf.al p v∈ys→1000≤p→RB A F (p/1000-1) 0
 |[],_,p,v,hm,_=>by simp at hm
 |y::ys,h,p,v,hm,hp=>by
  have rest:(∀ p∈G5a A ys,p∈F)→Lf.al p v∈ys→RB A F (p/1000-1) 0:=λ h hm=>Ada h p v hm hp
  cases y with
  |al q w=>
   simp only[G5a]at h;rcases Vk.1 hm with e|hm
   ·simp only[Lf.al.injEq]at e;obtain⟨rfl,rfl⟩:=e;rw[show Nat.ble 1000 p=true from Yp hp,cond_true]at h;exact Zv λ p hp=>h p (Vq _ hp)
   ·exact rest (λ p hp=>h p (Vg _ hp)) hm
  |_=>
   rcases Vk.1 hm with e|hm
   ·cases e
   ·exact rest h hm
def Aea:∀ {xs:List Operand},(∀ p∈Eda A xs,p∈F)→∀ t,.tmp t∈xs→RV A F [(get A t).2]
 |[],_,t,hm=>by simp at hm
 |x::xs,h,t,hm=>by
  rcases Vk.1 hm with rfl|hm
  ·intro ys hy;simp only[Vx]at hy;simp only[Eda,← hy]at h;exact Ada λ p hp=>h p (Vq _ hp)
  ·refine Aea (λ p hp=>h p ?_) t hm
   cases x<;>first|exact hp|(simp only[Eda];exact Vg _ hp)
def Dta {Ts:List TypeId} {xs:List Operand} (hx:∀ x∈xs,RX A F x):∀ x∈Ts.zip xs,RX A F x.2:=λ x hm=>hx x.2 (List.of_mem_zip (show (x.1,x.2)∈Ts.zip xs from hm)).2
def Afa {c:Call} {f:FuncId} (ho:o.op = .call c) (hc:c.callee = .value (.func f)) (hd:∀ d,o.dst=some d→H d∈F) (hx:∀ x∈c.args.toList,RX A F x) (hv:∀ t,.tmp t∈c.args.toList→RV A F [(get A t).2]) (hno:I3a E o=true) (h:Af E o A Kc=some r):Loc E o A F Kc r:=by
 unfold Af at h;rw[ho]at h;simp only[hc]at h;split at h
 ·rename_i en ss he hss
  have hni:W8 en.ps=false:=by
   unfold I3a at hno;rw[ho]at hno;simp only[hc,he]at hno
   simpa using hno
  rw[hni,cond_false]at h;obtain⟨U,h1,h2⟩:=Qc (cs:=[]) hd (Dta hx) (by simp) (Ry hx hss) (S4 hv hss) h;refine⟨U,h1,λ A' hA R' K'=>?_⟩;unfold Af;rw[ho];simp only[hc,he,M2 hA hx,hss,hni,cond_false];exact h2 A' hA K'
 ·cases h
def Aga {c:Call} {t:Nat} (ho:o.op = .call c) (hc:c.callee = .value (.tmp t)) (hd:∀ d,o.dst=some d→H d∈F) (ht:RX A F (.tmp t)) (hx:∀ x∈c.args.toList,RX A F x) (hv:∀ t,.tmp t∈c.args.toList→RV A F [(get A t).2]) (h:Af E o A Kc=some r):Loc E o A F Kc r:=by
 unfold Af at h;rw[ho]at h;simp only[hc]at h;split at h
 ·rename_i f bs hf;have hbs:∀ c∈bs,RB A F c.1 0:=Cz ht hf;split at h
  ·rename_i en ss he hss;obtain⟨hal,h⟩:=cs h;obtain⟨U,h1,h2⟩:=Qc hd (Dta hx) hbs (Ry hx hss) (S4 hv hss) h;refine⟨U,h1,λ A' hA R' K'=>?_⟩;unfold Af;rw[ho];simp only[hc,Ah hA ht,hf,he,M2 hA hx,hss,M3 hA hbs,hal,cond_true];exact h2 A' hA K'
  ·cases h
 ·cases h
def Qd {f:FuncId} {x y:Array Operand} {d:Nat} (ho:o.op = .makeFunc (.func f) x y) (hod:o.dst=some d) (hy:∀ z∈y.toList,RX A F z) (h:Af E o A Kc=some r):Loc E o A F Kc r:=by
 unfold Af at h;rw[ho,hod]at h;simp only at h;split at h
 ·rename_i bs hx hbs;refine⟨_,h,λ A' hA R' K'=>?_⟩;unfold Af;rw[ho,hod];simp only[hx,Tm hA hy,hbs]
 ·cases h
def Cta (hF:∀ p∈rds A o,p∈F) (hno:I3a E o=true) (h:Af E o A Kc=some r):Loc E o A F Kc r:=by
 have hD3:∀ d,o.dst=some d→d∈F∧H d∈F∧H (2000+d)∈F:=λ d hd=>by
  unfold rds at hF;rw[hd]at hF;exact⟨hF d (by simp[rdD]),hF (H d) (by simp[rdD]),hF (H (2000+d)) (by simp[rdD])⟩
 have hD:∀ d,o.dst=some d→d∈F∧H d∈F:=λ d hd=>⟨(hD3 d hd).1,(hD3 d hd).2.1⟩;have hO:∀ p∈G6a A o.op,p∈F:=λ p hp=>hF p (by unfold rds;exact Vg _ hp);have hX:G6a A o.op=Bda A (Dv o.op)→∀ x∈Dv o.op,RX A F x:=λ e=>Oe (by rw[← e];exact hO)
 cases ho:o.op with
 |call c=>
  have hOc:∀ p∈Bda A (Dv (.call c))++Eda A c.args.toList,p∈F:=λ p hp=>hO p (by rw[ho];exact hp);have hx:=Oe (λ p hp=>hOc p (Vq _ hp));have hvv:=Aea (A:=A) (F:=F) (xs:=c.args.toList) (λ p hp=>hOc p (Vg _ hp))
  have hxs:(∀ y,c.callee = .value y→RX A F y)∧∀ x∈c.args.toList,RX A F x:=by
   unfold Dv at hx;simp only at hx;split at hx
   ·rename_i y hy;exact⟨λ z hz=>by rw[hy]at hz;cases hz;exact hx y (by simp),λ x hm=>hx x (Ve _ hm)⟩
   ·rename_i hno;exact⟨λ z hz=>absurd hz (hno z),hx⟩
  have hcv:=hxs.1
  replace hx:=hxs.2
  cases hc:c.callee with
  |builtin b=>
   cases b with
   |len=>exact Fea ho hc hx h
   |min=>exact Ffa ho hc hx h
   |max=>exact Fga ho hc hx h
   |append=>exact Uw ho hc hx h
   |_=>unfold Af at h;rw[ho]at h;simp only[hc]at h;cases h
  |value f=>
   cases f with
   |func f=>exact Afa ho hc (λ d hd=>(hD d hd).2) hx hvv hno h
   |tmp t=>exact Aga ho hc (λ d hd=>(hD d hd).2) (hcv _ hc) hx hvv h
   |_=>unfold Af at h;rw[ho]at h;simp only[hc]at h;cases h
  |invoke x m=>unfold Af at h;rw[ho]at h;simp only[hc]at h;cases h
 |store T x y=>
  have hx:=hX (by rw[ho];rfl);rw[ho]at hx
  cases hod:o.dst with
  |none=>exact A3a ho hod (hx x (by simp[Dv])) (hx y (by simp[Dv])) h
  |some d=>unfold Af at h;rw[ho,hod]at h;cases h
 |move x=>cases hod:o.dst with
  |none=>unfold Af at h;rw[ho,hod]at h;cases h
  |some d=>
   refine Coa ho hod (λ t e=>?_) (λ p hp=>hO p (by rw[ho];simp[G6a,hp])) h;subst e;exact hO t (by rw[ho];simp[G6a,rdT])
 |assign x=>cases hod:o.dst with
  |none=>unfold Af at h;rw[ho,hod]at h;cases h
  |some d=>
   have hx:=hX (by rw[ho];rfl);rw[ho]at hx;exact Uv ho hod (hx x (by simp[Dv])) h
 |pick c x y=>cases hod:o.dst with
  |none=>unfold Af at h;rw[ho,hod]at h;cases h
  |some d=>
   have hx:=hX (by rw[ho];rfl);rw[ho]at hx;exact Cpa ho hod (hx c (by simp[Dv])) (hx x (by simp[Dv])) (hx y (by simp[Dv])) h
 |binOp op T x y T'=>cases hod:o.dst with
  |none=>unfold Af at h;rw[ho,hod]at h;cases h
  |some d=>
   have hx:=hX (by rw[ho];rfl);rw[ho]at hx;exact Zz ho hod (hx x (by simp[Dv])) (hx y (by simp[Dv])) h
 |unOp op T x=>cases hod:o.dst with
  |none=>unfold Af at h;rw[ho,hod]at h;cases h
  |some d=>
   have hx:=hX (by rw[ho];rfl);rw[ho]at hx;exact Cna ho hod (hx x (by simp[Dv])) h
 |convert T T' x=>cases hod:o.dst with
  |none=>unfold Af at h;rw[ho,hod]at h;cases h
  |some d=>
   have hx:=hX (by rw[ho];rfl);rw[ho]at hx;exact Rw ho hod (hx x (by simp[Dv])) h
 |nilCheck x=>cases hod:o.dst with
  |none=>unfold Af at h;rw[ho,hod]at h;cases h
  |some d=>exact Q9 ho hod (Dsa (λ p hp=>hO p (by rw[ho];exact hp))) h
 |extract x j=>cases hod:o.dst with
  |none=>unfold Af at h;rw[ho,hod]at h;cases x<;>cases h
  |some d=>cases x with
   |tmp t=>
    have hx:=hX (by rw[ho];rfl);rw[ho]at hx;exact Rx ho hod (hx (.tmp t) (by simp[Dv])).1 h
   |_=>unfold Af at h;rw[ho,hod]at h;cases h
 |field T x j=>cases hod:o.dst with
  |none=>unfold Af at h;rw[ho,hod]at h;cases x<;>cases h
  |some d=>cases x with
   |tmp t=>
    have hx:=hX (by rw[ho];rfl);rw[ho]at hx;exact A0a ho hod (hx (.tmp t) (by simp[Dv])).1 h
   |_=>unfold Af at h;rw[ho,hod]at h;cases h
 |build T ps=>cases hod:o.dst with
  |none=>unfold Af at h;rw[ho,hod]at h;cases h
  |some d=>
   have hx:=hX (by rw[ho];rfl);rw[ho]at hx;exact Aaa ho hod (λ p hp=>hx p.2 (Yl hp)) h
 |alloc T=>cases hod:o.dst with
  |none=>unfold Af at h;rw[ho,hod]at h;cases h
  |some d=>exact A1a ho hod (hD d hod).2 h
 |box T x=>cases hod:o.dst with
  |none=>unfold Af at h;rw[ho,hod]at h;cases h
  |some d=>
   have hx:=hX (by rw[ho];rfl);rw[ho]at hx;exact Fca ho hod (hD d hod).2 (hx x (by simp[Dv])) h
 |load T x=>cases hod:o.dst with
  |none=>unfold Af at h;rw[ho,hod]at h;cases h
  |some d=>
   have hx:=hX (by rw[ho];rfl);rw[ho]at hx;exact Cqa ho hod (hx x (by simp[Dv])) h
 |fieldAddr T x j=>cases hod:o.dst with
  |none=>unfold Af at h;rw[ho,hod]at h;cases h
  |some d=>exact Og ho hod (Dsa (λ p hp=>hO p (by rw[ho];exact hp))) h
 |indexAddr T x i=>cases hod:o.dst with
  |none=>unfold Af at h;rw[ho,hod]at h;cases h
  |some d=>
   have hx:=hX (by rw[ho];rfl);rw[ho]at hx
   cases hop:E.opn d with
   |true=>exact Oh ho hod hop (hD3 d hod).2.2 (hx x (by simp[Dv])) (hx i (by simp[Dv])) h
   |false=>exact Oi ho hod hop (hx x (by simp[Dv])) (hx i (by simp[Dv])) h
 |index T x i=>cases hod:o.dst with
  |none=>unfold Af at h;rw[ho,hod]at h;cases h
  |some d=>
   have hx:=hX (by rw[ho];rfl);rw[ho]at hx;exact A5a ho hod (hx x (by simp[Dv])) (hx i (by simp[Dv])) h
 |slice T x lo hi mx=>cases hod:o.dst with
  |none=>unfold Af at h;rw[ho,hod]at h;cases mx<;>cases h
  |some d=>cases mx with
   |none=>
    have hOs:∀ p∈Bda A (Dv (.slice T x lo hi none))++U8 A x lo,p∈F:=λ p hp=>hO p (by rw[ho];exact hp);have hx:=Oe (λ p hp=>hOs p (Vq _ hp));exact A6a ho hod (hx x (by simp[Dv])) (λ y hy=>hx y (by simp[Dv,hy])) (λ y hy=>hx y (by simp[Dv,hy])) (λ p hp=>hOs p (Vg _ hp)) h
   |some m=>unfold Af at h;rw[ho,hod]at h;cases h
 |buildSlice T n ps=>cases hod:o.dst with
  |none=>unfold Af at h;rw[ho,hod]at h;cases h
  |some d=>
   have hx:=hX (by rw[ho];rfl);rw[ho]at hx;exact Mo ho hod (λ p hp=>hx p.2 (Yl hp)) h
 |makeSlice T x y=>cases hod:o.dst with
  |none=>unfold Af at h;rw[ho,hod]at h;cases h
  |some d=>
   have hx:=hX (by rw[ho];rfl);rw[ho]at hx;exact Oj ho hod (hx x (by simp[Dv])) (hx y (by simp[Dv])) h
 |makeFunc fn x y=>
  cases fn with
  |func f=>cases hod:o.dst with
   |none=>unfold Af at h;rw[ho,hod]at h;cases h
   |some d=>
    have hx:=hX (by rw[ho];rfl);rw[ho]at hx;exact Qd ho hod (λ z hz=>hx z (by simp only[Dv];exact Vg _ hz)) h
  |_=>unfold Af at h;rw[ho]at h;cases hod:o.dst<;>(rw[hod]at h;cases h)
 |_=>unfold Af at h;rw[ho]at h;cases hod:o.dst<;>(rw[hod]at h;cases h)
end
end

end Go.Proofs.Ytbbifgjgneefkaa.Vf
