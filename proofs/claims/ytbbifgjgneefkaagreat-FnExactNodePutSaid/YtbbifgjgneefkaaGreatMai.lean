import Derived.Test.YtbbifgjgneefkaaGreatMah
set_option linter.all false
namespace Go.Proofs.YtbbifgjgneefkaaGreat.Vf
open Go
open List (length getD)
open Int (toNat)
open Go.IntKind (wrap)
open BitVec (ofInt)

section
attribute [local irreducible] C H
def Xz {P:Program} {w:World} {T:TypeId} {t:TI} {k o':Nat} {cs:List Value} (ht:TOk P T t) (ha:t.ag=true) (hc:Ck w k o' cs) (hl:cs.length=t.ty.sz):
  (loadVar T ⟨k,o',none⟩).run P w = .ok (.agg cs.toArray) w:=by
 obtain⟨d,hd,hagg⟩:=Xj ht;rw[ha]at hagg
 have hc':∀ j v,cs[j]? = some v→w.cell? (Addr.add ⟨k,o',none⟩ j)=some v:=λ j v hj=>by rw[Hx];exact hc j v hj
 have hlc:=run_loadCells_list (P:=P) w ⟨k,o',none⟩ cs hc';simp only[Vx,Wn,Vw,loadVar,Jh hd hagg,if_true,Hb (Ky ht),← hl,hlc]
def Kk (a:Act):ResultVar→Sem Value
 |.tmp t=>pure (a.tmps.getD t undef)
 |.cell x t=>do loadVar t (← asAddr (a.tmps.getD x undef))
section
variable {X:Cx} {S S1 S2:Sit} {a:Act} {E:En} {A:Ab}
def Iza (hE:Gx X E) (K:Ah X S a) (hg:S.g=get A) {x:Nat} (hx:Nat.blt x E.nt=true) {T:TypeId} {ti:TI} (hT:E.ti T=some ti) (hag:ti.ag=true) {t:Ty} (hsz:ti.ty.sz=t.sz) {l:List Lf} {us:List Up} (i:Nat)
  (h:Xc A t (get A x).2=some (l,us)) {y:t.den} (hy:mkW t l=some y):
  ∃ S',Ah X S' a∧S'.g=get (ups A us)∧Cr X S S' (λ n _=>n=i)∧
   ∃ vs,(Kk a (.cell x T)).run X.P S.w = .ok (.agg vs.toArray) S.w∧A5 X.P S' (λ n => .tm i [n]) 0 (A4 t y) vs:=by
 have hop:opT E 0 A (.tmp x)=some (get A x).2:=by show (bif Nat.blt x E.nt then some (get A x).2 else none)=_;rw[hx];rfl
 unfold Xc at h;split at h
 ·rename_i b v hs;rw[hs]at hop;obtain⟨pl,hl⟩:=Fc hE K hg hop;have hlf:Af X.P S (.pl pl []) (.bp b v 0) (a.eval (.tmp x)):=hl;obtain⟨g1,g2,_,_,g5,S1,K1,g6,G,hls⟩:=Ou K hg h i;have hu:=hlf.2 g1;obtain⟨hm9,c,e,e1,e2,e3,e4⟩:=K.box b _ g2
  have hcells:Ck S.w (S.bb b).1 (S.bb b).2 ((List.range t.sz).map λ i=>S.ph (C b (0+i))):=by
   intro j u hj
   have hj':j<t.sz:=by
    have:=(Wh.1 hj).1
    simpa using this
   have:u=S.ph (C b j):=by simpa[hj'] using hj.symm
   rw[this];simp[World.cell?,e1,e4 j hj']
  have hrun:(Kk a (.cell x T)).run X.P S.w = .ok (.agg ((List.range t.sz).map λ i=>S.ph (C b (0+i))).toArray) S.w:=by
   have hu':a.tmps.getD x undef = .pointer (some ⟨(S.bb b).1,(S.bb b).2+0,none⟩):=hu;unfold Kk;simp only[hu',asAddr,Vx,Wn,Vw,Yu];exact Xz (hE.ti T ti hT) hag hcells (by rw[hsz];simp)
  exact⟨S1,K1,g6,G,_,hrun,I8 (Nm h) hy hls⟩
 ·cases h
def Kp (i n:Nat):Prop:=n<i∨500≤n
def Jm.keep {P:Program} {n0 i:Nat} {k:RK} {l:List Lf} {u:Value} (hw:S2.w=S1.w) (hi:∀ q z v,Af P S1 (.tm i q) z v→Af P S2 (.tm i q) z v) (ho:∀ q k,S1.O k = .tm (i+500) q→S2.O k = .tm (i+500) q) (h:Jm P S1 n0 i k l u):Jm P S2 n0 i k l u:=by
 cases k with
 |one=>exact A5.impM (λ x hx n u h=>hi _ _ u h) h
 |agg=>
  obtain⟨us,e,h⟩:=h;exact⟨us,e,h.impM (λ x hx n u h=>hi _ _ u h)⟩
 |ptr=>
  obtain⟨k,o,c,e,us,h1,h2,h3,h4,h5,h6,h7,h8⟩:=h;exact⟨k,o,c,e,us,h1,by rw[hw];exact h2,h3,ho _ _ h4,h5,h6,h7,h8.impM (λ x hx n u h=>hi _ _ u h)⟩
def Fia (hE:Gx X E) (hb0:∀ k b,X.O0 k = .bx b→b<X.np∨1500≤b):∀ (rs:List (RK×Ty)) (rv:List ResultVar) {S:Sit} {A:Ab} {ls ls':List (List Lf)} {us:List Up} (i:Nat),Ah X S a→S.g=get A→i+rs.length<500→Pc E A rs rv=some (ls,us)→Mk (rs.map Prod.snd) ls ls'→
  ∃ S' vs,Ah X S' a∧S'.g=get (ups A us)∧S'.w=S.w∧Ct S S'∧(∀ n q z v,Kp i n→Af X.P S (.tm n q) z v→Af X.P S' (.tm n q) z v)∧(∀ n q k,Kp i n→S.O k = .tm n q→S'.O k = .tm n q)∧H6 X.P S' X.w0.heap.size i rs ls' vs∧Hw (λ r v=>(Kk a r).run X.P S.w = .ok v S.w) rv vs
 |[],[],S,A,ls,ls',us,i,K,hg,_,h,hm=>by
  simp only[Pc,Vc,Vu]at h;obtain⟨rfl,rfl⟩:=h;refine⟨S,[],K,hg,rfl,.refl S,λ _ _ _ _ _ h=>h,λ _ _ _ _ h=>h,?_,.nil⟩
  cases ls' with
  |nil=>rfl
  |cons=>exact hm.elim
 |[],_::_,S,A,ls,ls',us,i,K,hg,_,h,hm=>by simp[Pc]at h
 |(k,t)::ks,[],S,A,ls,ls',us,i,K,hg,_,h,hm=>by cases k<;>simp[Pc]at h
 |(k,t)::ks,r::rs,S,A,ls,ls',us,i,K,hg,hi,h,hm=>by
  simp only[Vg]at hi
  have rest:∀ {l:List Lf} {u:List Up} {ls2:List (List Lf)} {us2:List Up} {S1:Sit} {y:t.den} {v:Value},mkW t l=some y→Ah X S1 a→S1.g=get (ups A u)→S1.w=S.w→Ct S S1→(∀ n q z v,n≠i→Af X.P S (.tm n q) z v→Af X.P S1 (.tm n q) z v)→(∀ n q k,n≠i→S.O k = .tm n q→S1.O k = .tm n q)→
    Jm X.P S1 X.w0.heap.size i k (A4 t y) v→(Kk a r).run X.P S.w = .ok v S.w→Pc E (ups A u) ks rs=some (ls2,us2)→(∃ ls2',ls'=A4 t y::ls2'∧Mk (ks.map Prod.snd) ls2 ls2')→us=u++us2→
    ∃ S' vs,Ah X S' a∧S'.g=get (ups A us)∧S'.w=S.w∧Ct S S'∧(∀ n q z v,Kp i n→Af X.P S (.tm n q) z v→Af X.P S' (.tm n q) z v)∧(∀ n q k,Kp i n→S.O k = .tm n q→S'.O k = .tm n q)∧H6 X.P S' X.w0.heap.size i ((k,t)::ks) ls' vs∧Hw (λ r v=>(Kk a r).run X.P S.w = .ok v S.w) (r::rs) vs:=by
   intro l u ls2 us2 S1 y v hy K1 g1 w1 L1 t1 o1 hres hrun hr2 hmk hus;obtain⟨ls2',rfl,hmk⟩:=hmk;subst hus;obtain⟨S',vs,K',g',w',L',t',o',hall,hruns⟩:=Fia hE hb0 ks rs (i+1) K1 g1 (by omega) hr2 hmk
   have hk1:∀ n,Kp i n→Kp (i+1) n∧n≠i:=λ n h=>by unfold Kp at *;omega
   refine⟨S',v::vs,K',by rw[Ae];exact g',w'.trans w1,L1.trans L',λ n q z v hn hz=>t' n q z v (hk1 n hn).1 (t1 n q z v (hk1 n hn).2 hz),λ n q k hn hk=>o' n q k (hk1 n hn).1 (o1 n q k (hk1 n hn).2 hk),⟨hres.keep w' (λ q z v=>t' i q z v (by unfold Kp;omega)) (λ q k=>o' _ q k (by unfold Kp;omega)),hall⟩,.cons hrun ?_⟩;rw[w1]at hruns;exact hruns
  cases ls' with
  |nil=>cases ls<;>exact hm.elim
  |cons l' ls2'=>
   cases ls with
   |nil=>exact hm.elim
   |cons l ls2=>
    obtain⟨⟨y,hy,rfl⟩,hmk⟩:=hm
    cases r with
    |tmp x=>
     have h':(bif Nat.blt x E.nt then (match Xb E.np A k t (.tmp x) (get A x).2 with
      |some (l,u)=>(match Pc E (ups A u) ks rs with
       |some (ls,us)=>some (l::ls,u++us)
       |none=>none)
      |none=>none) else none)=some (l::ls2,us):=by
      unfold Pc at h
      cases k<;>exact h
     cases hx:Nat.blt x E.nt
     ·rw[hx]at h';simp at h'
     rw[hx,cond_true]at h';split at h'
     ·rename_i l1 u1 hr1;split at h'
      ·rename_i l2 u2 hr2;simp only[Vc,Vu,Wq]at h';obtain⟨⟨rfl,rfl⟩,rfl⟩:=h'
       by_cases hk:k = .ptr
       ·subst hk;obtain⟨S1,K1,g1,w1,L1,t1,o1,hres⟩:=M7a hE K hg hb0 hx i hr1 hy;exact rest hy K1 g1 w1 L1 (λ n q z v _=>t1 n q z v) (λ n q k _=>o1 n q k) hres rfl hr2 ⟨ls2',rfl,hmk⟩ rfl
       ·obtain⟨S1,K1,g1,G,vs,e1,e2⟩:=M6a hE K hg hx i hk hr1 hy;refine rest hy K1 g1 G.w G.later (λ n q z v hn=>G.tms n q z v hn) (λ n q k hn=>G.tm n q k hn) ?_ (v:=a.eval (.tmp x)) rfl hr2 ⟨ls2',rfl,hmk⟩ rfl
        cases k with
        |ptr=>exact absurd rfl hk
        |one=>
         simp only[O3,Wd,if_false]at e1 e2;subst e1;exact e2
        |agg=>
         simp only[O3,if_true]at e1 e2;exact⟨vs,e1,e2⟩
      ·cases h'
     ·cases h'
    |cell x T=>
     cases k with
     |one=>simp[Pc]at h
     |ptr=>simp[Pc]at h
     |agg=>
      unfold Pc at h;cases hx:Nat.blt x E.nt
      ·rw[hx]at h;simp at h
      cases hT:E.ti T with
      |none=>rw[hT]at h;simp at h
      |some ti=>
       cases hag:ti.ag&&Nat.beq ti.ty.sz t.sz
       ·rw[hT,hx]at h;simp[hag]at h
       rw[hT,hx]at h;simp only[hag,Bool.and_self,cond_true]at h;simp only[Va]at hag;split at h
       ·rename_i l1 u1 hr1;split at h
        ·rename_i l2 u2 hr2;simp only[Vc,Vu,Wq]at h;obtain⟨⟨rfl,rfl⟩,rfl⟩:=h;obtain⟨S1,K1,g1,G,vs,hrun,e2⟩:=Iza hE K hg hx hT hag.1 (Vb hag.2) i hr1 hy;exact rest hy K1 g1 G.w G.later (λ n q z v hn=>G.tms n q z v hn) (λ n q k hn=>G.tm n q k hn) ⟨vs,rfl,e2⟩ hrun hr2 ⟨ls2',rfl,hmk⟩ rfl
        ·cases h
       ·cases h
def szs:List Par→Bool
 |[]=>true
 |.ptr t t'::ps=>Nat.beq t.sz t'.sz&&szs ps
 |.hid t t'::ps=>Nat.beq t.sz t'.sz&&szs ps
 |_::ps=>szs ps
def Oea {X:Cx} {i n:Nat} (hn:X.np≤1000) (h:i<n) (h2:n-X.np<500):X.pb (bid X.np i):=by
 unfold Cx.pb bid
 cases h3:Nat.blt i X.np with
 |true=>
  have h1:i<X.np:=Ve h3;rw[cond_true];omega
 |false=>rw[cond_false];omega
def Fja (K:Ah X S a) (hg:S.g=get A) {B:Nat} {f:Nat→Lab}:∀ (ts:List Ty) {j:Nat} {us:List Value},us.length=ts.length→(∀ n,n<ts.length→us[n]? = some (S.ph (C B (j+n))))→A5 X.P S f j (Npa A B j ts) us
 |[],j,[],_,_=>trivial
 |[],j,_::_,h,_=>by simp at h
 |_::_,j,[],h,_=>by simp at h
 |t::ts,j,u::us,hl,hv=>by
  have hu:u=S.ph (C B j):=by simpa using hv 0 (by simp)
  have hr:=Fja K hg (B:=B) (f:=f) ts (j:=j+1) (us:=us) (by simpa using hl) (λ n hn=>by
   have:=hv (n+1) (by simp;omega);rw[show j+1+n=j+(n+1) by omega]
   simpa using this)
  have sh:Af X.P S (f j) (Qka (get A (C B j)).2) u:=by
   have hat:=K.at_ (C B j);rw[hg]at hat;rw[hu]
   cases hs:(get A (C B j)).2 with
   |one x=>
    rw[hs]at hat
    cases x with
    |sc v=>exact Af.relab (lab := .pl (C B j) []) (x := .sc v) rfl hat
    |fz e r xs=>exact Af.relab (lab := .pl (C B j) []) (x := .fz e r xs) rfl hat
    |_=>trivial
   |_=>trivial
  cases t with
  |ow e r=>exact⟨⟨by rw[hg];exact Vq _,λ _=>hu⟩,hr⟩
  |_=>exact⟨sh,hr⟩
def Sw (hE:Gx X E) (hnp:X.np≤1000) (hu:∀ k b,X.O0 k = .bx b→∀ k',X.O0 k' = .bx b→k'=k) {hs:List Value}:∀ (ps:List Par) {S:Sit} {A:Ab} {ls ls' la:List (List Lf)} {us:List Value} (i:Nat),Ah X S a→S.g=get A→i+ps.length-X.np<500→szs ps=true→E3a X.np A i ps=some ls→Mk (Ff ps) ls ls'→
  Ip X.P (bare X.O0 X.w0) X.rg X.np hs i ps la us→(∀ j ag t,ps[j]? = some (.io ag t)→∃ u vs,us[j]? = some u∧(if ag then u = .agg vs.toArray else vs=[u])∧vs.length=t.sz∧∀ n,n<t.sz→vs[n]? = some (X.v0 (C (3000+(i+j)) n)))→
  ∃ S',Ah X S' a∧S'.w=S.w∧Ct S S'∧(∀ n q z v,n<1001+i→Af X.P S (.tm n q) z v→Af X.P S' (.tm n q) z v)∧(∀ n q k,n<1001+i→S.O k = .tm n q→S'.O k = .tm n q)∧Ie X.P S' i ps us ls'
 |[],S,A,ls,ls',la,us,i,K,hg,hn,hz,h,hm,ha,_=>by
  refine⟨S,K,rfl,.refl S,λ _ _ _ _ _ h=>h,λ _ _ _ _ h=>h,?_⟩;simp only[E3a,Vc]at h;subst h
  cases ls' with
  |nil=>rfl
  |cons=>exact hm.elim
 |p::ps,S,A,ls,ls',la,us,i,K,hg,hn,hz,h,hm,ha,hv=>by
  cases la with
  |nil=>exact ha.elim
  |cons l0 la=>
   cases us with
   |nil=>exact ha.elim
   |cons u us=>
    simp only[Vg]at hn;obtain⟨ha1,ha2⟩:=ha
    have hv2:∀ j ag t,ps[j]? = some (.io ag t)→∃ u vs,us[j]? = some u∧(if ag then u = .agg vs.toArray else vs=[u])∧vs.length=t.sz∧∀ n,n<t.sz→vs[n]? = some (X.v0 (C (3000+(i+1+j)) n)):=λ j ag t hj=>by
     obtain⟨u',vs,k1,k2⟩:=hv (j+1) ag t (by simpa using hj);rw[show i+1+j=i+(j+1) by omega];exact⟨u',vs,by simpa using k1,k2⟩
    have skip:szs ps=true→E3a X.np A (i+1) ps=some ls→Mk (Ff ps) ls ls'→(∀ {S':Sit},Ie X.P S' (i+1) ps us ls'→Ie X.P S' i (p::ps) (u::us) ls')→
      ∃ S',Ah X S' a∧S'.w=S.w∧Ct S S'∧(∀ n q z v,n<1001+i→Af X.P S (.tm n q) z v→Af X.P S' (.tm n q) z v)∧(∀ n q k,n<1001+i→S.O k = .tm n q→S'.O k = .tm n q)∧Ie X.P S' i (p::ps) (u::us) ls':=by
     intro hz h hm hb;obtain⟨S',K',w',L',t',o',b'⟩:=Sw hE hnp hu ps (i+1) K hg (by omega) hz h hm ha2 hv2;exact⟨S',K',w',L',λ n q z v hn=>t' n q z v (by omega),λ n q k hn=>o' n q k (by omega),hb b'⟩
    have box:∀ {t t':Ty},(Nat.beq t.sz t'.sz&&szs ps)=true→R6 X.P (bare X.O0 X.w0) X.rg (bid X.np i) t l0 u→(match Lea A (bid X.np i) t' with
      |some (l,us)=>(match E3a X.np (ups A us) (i+1) ps with
       |some ls=>some (l::ls)
       |none=>none)
      |none=>none)=some ls→Mk (t'::Ff ps) ls ls'→(∀ {S':Sit} {l':List Lf} {ls2:List (List Lf)},ls'=l'::ls2→R7 X.P S' i t' l' u→Ie X.P S' (i+1) ps us ls2→Ie X.P S' i (p::ps) (u::us) ls')→
      ∃ S',Ah X S' a∧S'.w=S.w∧Ct S S'∧(∀ n q z v,n<1001+i→Af X.P S (.tm n q) z v→Af X.P S' (.tm n q) z v)∧(∀ n q k,n<1001+i→S.O k = .tm n q→S'.O k = .tm n q)∧Ie X.P S' i (p::ps) (u::us) ls':=by
     intro t t' hz ha1 h hm hb;simp only[Va]at hz;have hsz:t.sz=t'.sz:=Vb hz.1;split at h
     ·rename_i l1 us1 hgive;split at h
      ·rename_i ls2 h2;cases h
       cases ls' with
       |nil=>exact hm.elim
       |cons l' ls2'=>
        obtain⟨⟨y,hy,rfl⟩,hmk⟩:=hm;obtain⟨g1,g2,_,_,g5,S1,K1,g6,G,hls⟩:=Ou K hg hgive (1001+i);obtain⟨S2,K2,w2,L2,t2,o2,b2⟩:=Sw hE hnp hu ps (i+1) K1 g6 (by omega) hz.2 h2 hmk ha2 hv2;obtain⟨hm9,c,e,e1,e2,e3,e4⟩:=K.box _ _ g2;obtain⟨r1,r2,_⟩:=K.rgn _ _ g2;have hpb:X.pb (bid X.np i):=Oea (n:=i+(ps.length+1)) hnp (by omega) hn;obtain⟨r3,r4,r5⟩:=r1 (Ut (n:=i+(ps.length+1)) (by omega) hnp hn) (r2 hpb);obtain⟨k,o,c0,e0,vs,rfl,f2,f3,f4,f5,f6,f7,f8,f9⟩:=ha1;have hk:(S.bb (bid X.np i)).1=k:=hu k _ f3 _ r3;rw[f4]at r4 r5;simp only at r4 r5
        have ho:(S.bb (bid X.np i)).2=o:=by omega
        refine⟨S2,K2,w2.trans G.w,G.later.trans L2,λ n q z v hn hz=>t2 n q z v (by omega) (G.tms n q z v (by omega) hz),λ n q k hn hk=>o2 n q k (by omega) (G.tm n q k (by omega) hk),hb rfl ⟨k,o,c,e,(List.range t'.sz).map (λ j=>S.ph (C (bid X.np i) (0+j))),rfl,?_,Ev t' y,λ j hj=>?_,?_⟩ b2⟩
        ·rw[w2,G.w,← hk];exact e1
        ·rw[← ho,e4 j hj];simp[hj]
        ·exact(I8 (Nm hgive) hy hls).impM (λ z hz n u hu=>t2 _ _ z u (by omega) hu)
      ·cases h
     ·cases h
    cases p with
    |io ag t=>
     have h':(match D5 A (Ew t) (Npa A (3000+i) 0 (Ew t)) with
      |some (l,us)=>bif A3 l then (match E3a X.np (ups A us) (i+1) ps with
       |some ls=>some (l::ls)
       |none=>none) else none
      |none=>none)=some ls:=h
     obtain⟨u',vs,k1,k2,k3,k4⟩:=hv 0 ag t rfl;simp only[Zl,Vc]at k1;subst k1;split at h'
     ·rename_i l1 us1 hx;obtain⟨hst,h'⟩:=cs h';split at h'
      ·rename_i ls2 h2;cases h'
       cases ls' with
       |nil=>exact hm.elim
       |cons l' ls2'=>
        obtain⟨⟨y,hy,rfl⟩,hmk⟩:=hm
        have hC:∀ n,n<t.sz→3001000≤C (3000+i) n:=λ n _=>by simp only[C];omega
        have hl0:=Fja (B:=3000+i) (f:=λ n => .tm (1001+i) [n]) K hg (Ew t) (j:=0) (us:=vs) (by rw[k3,Hd]) (λ n hn=>by
         rw[Hd]at hn;rw[Wb,K.io _ (hC n hn)]
         exact k4 n hn)
        obtain⟨S1,K1,g6,G,hls⟩:=Kh (1001+i) (λ n=>[n]) (Ew t) _ K hg hx hst hl0 (λ n n' _ _ _ _ e=>by simpa using e);obtain⟨S2,K2,w2,L2,t2,o2,b2⟩:=Sw hE hnp hu ps (i+1) K1 g6 (by omega) hz h2 hmk ha2 hv2;exact⟨S2,K2,w2.trans G.w,G.later.trans L2,λ n q z v hn hz=>t2 n q z v (by omega) (G.tms n q z v (λ h=>by have:=h.1;omega) hz),λ n q k hn hk=>o2 n q k (by omega) (G.tm n q k (λ h=>by have:=h.1;omega) hk),⟨vs,k2,(I8 (Hr _ _ hx) hy hls).impM (λ z hz n u hu=>t2 _ _ z u (by omega) hu)⟩,b2⟩
      ·cases h'
     ·cases h'
    |val ag t=>exact skip hz h hm (λ h=>h)
    |vw t h0=>exact skip hz h hm (λ h=>h)
    |rd t=>exact skip hz h hm (λ h=>h)
    |fn F m=>exact skip hz h hm (λ h=>h)
    |ptr t t'=>exact box hz ha1.2 h hm (λ e h1 h2=>by subst e;exact⟨h1,h2⟩)
    |hid t t'=>exact box hz ha1.2 h hm (λ e h1 h2=>by subst e;exact⟨h1,h2⟩)
end
end

section
attribute [local irreducible] C H
def B5a {P:Program} {w:World} {a:Act}:∀ {rv:List ResultVar} {vs:List Value},Hw (λ r v=>(Kk a r).run P w = .ok v w) rv vs→(rv.mapM (Kk a)).run P w = .ok vs w
 |_,_,.nil=>rfl
 |_,_,.cons h hs=>by
  rw[List.mapM_cons];simp only[Vx,h,Vw,B5a hs,Wn]
def Y0 {P:Program} {w:World} {a:Act} {fn:Func} {vs:List Value} (h:Hw (λ r v=>(Kk a r).run P w = .ok v w) fn.results.toList vs):
  (results fn a.tmps).run P w = .ok (if h:vs.length=1 then vs[0] else .tuple vs.toArray) w:=by
 refine Eq.trans (b:=(do let vs ← fn.results.mapM (Kk a);pure (if h:vs.size=1 then vs[0] else .tuple vs):Sem Value).run P w) ?_ ?_
 ·unfold results;refine congrArg (λ (f:ResultVar→Sem Value)=>Sem.run P (do let vs ← fn.results.mapM f;pure (if h:vs.size=1 then vs[0] else Value.tuple vs):Sem Value) w) (?_:_=Kk a);funext x
  cases x<;>rfl
 rw[Soa];simp only[map_eq_pure_bind,Vx,B5a h,Vw,Wn];simp
def Y1:∀ (ts us:List Ty) (x:Den (ts++us)) (ls ls':List (List Lf)),ls.length=ts.length→Mk (ts++us) (ls++ls') (Av (ts++us) x)→
  Mk ts ls ((Av (ts++us) x).take ts.length)∧Mk us ls' ((Av (ts++us) x).drop ts.length)
 |[],us,x,[],ls',_,h=>⟨trivial,h⟩
 |[],us,x,_::_,ls',hl,h=>by simp at hl
 |t::ts,us,x,[],ls',hl,h=>by simp at hl
 |t::ts,us,x,l::ls,ls',hl,h=>by
  have key:∀ (ts us:List Ty) (ls ls' lx:List (List Lf)),ls.length=ts.length→Mk (ts++us) (ls++ls') lx→Mk ts ls (lx.take ts.length)∧Mk us ls' (lx.drop ts.length):=by
   intro ts
   induction ts with
   |nil=>
    intro us ls ls' lx hl h
    cases ls with
    |nil=>exact⟨trivial,h⟩
    |cons=>simp at hl
   |cons t ts ih=>
    intro us ls ls' lx hl h
    cases ls with
    |nil=>simp at hl
    |cons l ls=>
     cases lx with
     |nil=>exact h.elim
     |cons lx1 lx=>
      obtain⟨h1,h2⟩:=ih us ls ls' lx (by simpa using hl) h.2;exact⟨⟨h.1,h1⟩,h2⟩
  exact key (t::ts) us (l::ls) ls' _ hl h
def Sx {E:En}:∀ (rs:List (RK×Ty)) (rv:List ResultVar) (A:Ab) (ls:List (List Lf)) (us:List Up),Pc E A rs rv=some (ls,us)→ls.length=rs.length
 |[],[],A,ls,us,h=>by
  simp only[Pc,Vc,Vu]at h;obtain⟨rfl,rfl⟩:=h;rfl
 |[],_::_,A,ls,us,h=>by simp[Pc]at h
 |(k,t)::ks,[],A,ls,us,h=>by cases k<;>simp[Pc]at h
 |(k,t)::ks,.tmp x::rs,A,ls,us,h=>by
  have h':(bif Nat.blt x E.nt then (match Xb E.np A k t (.tmp x) (get A x).2 with
   |some (l,u)=>(match Pc E (ups A u) ks rs with
    |some (ls,us)=>some (l::ls,u++us)
    |none=>none)
   |none=>none) else none)=some (ls,us):=by
   unfold Pc at h
   cases k<;>exact h
  cases hx:Nat.blt x E.nt
  ·rw[hx]at h';simp at h'
  rw[hx,cond_true]at h';split at h'
  ·split at h'
   ·rename_i hr;simp only[Vc,Vu]at h';obtain⟨rfl,rfl⟩:=h';simp[Sx ks rs _ _ _ hr]
   ·cases h'
  ·cases h'
 |(.agg,t)::ks,.cell x T::rs,A,ls,us,h=>by
  unfold Pc at h;generalize (Nat.blt x E.nt&&(match E.ti T with|some ti=>ti.ag&&Nat.beq ti.ty.sz t.sz|none=>false))=bb at h;cases bb
  ·simp at h
  rw[cond_true]at h;split at h
  ·split at h
   ·rename_i hr;cases h;simp[Sx ks rs _ _ _ hr]
   ·cases h
  ·cases h
 |(.one,t)::ks,.cell x T::rs,A,ls,us,h=>by simp[Pc]at h
 |(.ptr,t)::ks,.cell x T::rs,A,ls,us,h=>by simp[Pc]at h
def Fh.of {P:Program} {S:Sit} {n0:Nat} {rs:List (RK×Ty)} {ls:List (List Lf)} {vs:List Value} (h:H6 P S n0 1 rs ls vs) (ll:List (List Lf)):Fh P S n0 rs (ls++ll) (if h:vs.length=1 then vs[0] else .tuple vs.toArray):=by
 have len:∀ (rs:List (RK×Ty)) (i:Nat) (ls:List (List Lf)) (vs:List Value),H6 P S n0 i rs ls vs→vs.length=rs.length:=by
  intro rs
  induction rs with
  |nil=>intro i ls vs h;(have:vs=[]:=by (cases ls<;>exact h));subst this;rfl
  |cons r rs ih=>
   intro i ls vs h
   cases ls with
   |nil=>exact h.elim
   |cons l ls=>
    cases vs with
    |nil=>exact h.elim
    |cons v vs=>simp[ih _ _ _ h.2]
 have ext:∀ (rs:List (RK×Ty)) (i:Nat) (ls:List (List Lf)) (vs:List Value),H6 P S n0 i rs ls vs→H6 P S n0 i rs (ls++ll) vs:=by
  intro rs
  induction rs with
  |nil=>intro i ls vs h;(have:vs=[]:=by (cases ls<;>exact h));subst this;cases (ls++ll)<;>rfl
  |cons r rs ih=>
   intro i ls vs h
   cases ls with
   |nil=>exact h.elim
   |cons l ls=>
    cases vs with
    |nil=>exact h.elim
    |cons v vs=>exact⟨h.1,ih _ _ _ h.2⟩
 have hl:=len rs 1 ls vs h;have he:=ext rs 1 ls vs h;unfold Fh;split
 ·rename_i r;have h1:vs.length=1:=hl;obtain⟨v,rfl⟩:=S2a.1 h1
  cases ls with
  |nil=>exact h.elim
  |cons l ls=>exact⟨l,ls++ll,rfl,h.1⟩
 ·rename_i hne;refine⟨vs,?_,he⟩;rw[dif_neg];intro h1;rw[hl]at h1;obtain⟨r,hr⟩:=S2a.1 h1;exact hne r hr
def Y2 (en:Ent):Bool:=Hk en.nv 0 en.ps&&szs en.ps&&Nat.blt (en.ps.length-en.nv) 500&&Nat.blt en.rs.length 400
def Cta {P:Program} {f:FuncId} {fn:Func} {c:Code} {en:Ent} {E:En} (hf:P.funcs[f]? = some fn) (hb:fn.body=some c) (hnt:fn.ntmps≤1000) (hps:en.nv≤fn.ntmps)
  (hV:∀ X:Cx,X.P=P→X.nt=fn.ntmps→X.np=en.nv→Pv X E) (hD:∀ X:Cx,X.P=P→X.nt=fn.ntmps→X.np=en.nv→Uq X E) (hL:∀ X:Cx,X.P=P→X.nt=fn.ntmps→X.np=en.nv→Ih X E c)
  (hpl:Y2 en=true) (heq:∀ x,E4a E c fn.results.toList en x=en.run x):Lua P f en:=by
 intro x r hr w O rg us hlt hbx hargs;rw[← heq]at hr;unfold Y2 at hpl;simp only[Va]at hpl;obtain⟨⟨⟨hp1,hp2⟩,hp3⟩,hp4⟩:=hpl;have hp3:en.ps.length-en.nv<500:=Ve hp3;have hp4:en.rs.length<400:=Ve hp4
 let X:Cx:=⟨P,O,w,rg,fn.ntmps,en.nv,ioV en.ps us⟩
 have hsol:=Fl (en.ps.map Par.ty) x
 have hioV:∀ (j:Nat) (ag:Bool) (t:Ty),en.ps[j]? = some (.io ag t)→∃ u vs,us[j]? = some u∧(if ag then u = .agg vs.toArray else vs=[u])∧vs.length=t.sz∧∀ n,n<t.sz→vs[n]? = some (ioV en.ps us (C (3000+(0+j)) n)):=λ j ag t hj=>by
  obtain⟨l,u,h1,⟨_,h3,h4⟩,vs,h5,h6⟩:=hargs.at hj
  have hlen:vs.length=t.sz:=by rw[← h4];exact h6.len
  refine⟨u,vs,h1,h5,hlen,λ n hn=>?_⟩
  have hC:C (3000+(0+j)) n/1000-3001=j∧C (3000+(0+j)) n % 1000=n:=by simp only[C];omega
  unfold ioV;rw[hC.1,hC.2,hj,h1];have hvn:vs[n]? = some vs[n]:=Vs (by omega);cases ag
  ·simp only[Wd,if_false]at h5;subst h5
   have:n=0:=by simp only[Vg,Vp]at hlen;omega
   subst this;rfl
  ·simp only[if_true]at h5;subst h5;simp[Wk,hvn]
 have K0:Ah X (S0 en.nv en.ps (Av _ x) us O w) ⟨(us.take en.nv).toArray++Array.replicate (fn.ntmps-(us.take en.nv).toArray.size) undef,[]⟩:=
  Iya hnt hlt (λ k b h=>(hbx k b h).2.1) hargs hsol hps hp1 hp3
 refine calls_of_wp hf hb ?_;refine Us (X:=X) (S:=S0 en.nv en.ps (Av _ x) us O w) (hV X rfl rfl rfl) (hD X rfl rfl rfl) c (hL X rfl rfl rfl) K0 rfl hr ?_;intro e S a A K hg h;have hE:=(hV X rfl rfl rfl).en
 have hb0:∀ k b,O k = .bx b→b<en.nv∨1500≤b:=λ k b hk=>by
  obtain⟨i,h1,h2⟩:=(hbx k b hk).1;subst h2;unfold bid
  cases h3:Nat.blt i en.nv with
  |true=>exact .inl (Ve h3)
  |false=>rw[cond_false];exact .inr (by omega)
 have fin:Jd E (E.gh 1000000) A (λ A=>match Pc E A en.rs fn.results.toList with
   |some (ls,us)=>(match E3a en.nv (ups A us) 0 en.ps with
    |some bs=>M7 (en.rs.map Prod.snd++Ff en.ps) (ls++bs)
    |none=>none)
   |none=>none)=some r→bodyPost P fn (λ e w'=>∃ v O',e = .returned v∧Fr O w rg O' w'∧(∀ k,O' k ≠ .no→k<w'.heap.size)∧Fh P (bare O' w') w.heap.size en.rs (Av _ r) v∧Ie P (bare O' w') 0 en.ps us ((Av _ r).drop en.rs.length)) .ret a S.w:=by
  intro h;obtain⟨A,S0',h,K,hg,w0'⟩:=J4 hE _ K hg h;rw[← w0'];split at h
  ·rename_i ls1 us1 h1;split at h
   ·rename_i bs h2;have hmk:=Mp _ _ _ h;have hlen:=Sx _ _ _ _ _ h1;obtain⟨m1,m2⟩:=Y1 (en.rs.map Prod.snd) (Ff en.ps) r ls1 bs (by simpa using hlen) hmk;rw[Yk]at m1 m2;obtain⟨S1,vs,K1,g1,w1,L1,_,_,hall,hruns⟩:=Fia hE hb0 en.rs fn.results.toList 1 K hg (by omega) h1 m1;obtain⟨S2,K2,w2,L2,t2,o2,hback⟩:=Sw hE (show en.nv≤1000 by omega) (λ k b hk=>(hbx k b hk).2.2) en.ps 0 K1 g1 (by show 0+en.ps.length-en.nv<500;omega) hp2 h2 m2 hargs hioV;have hsolr:=Fl _ r
    have hall2:H6 P (bare S2.O S2.w) w.heap.size 1 en.rs ((Av _ r).take en.rs.length) vs:=by
     have key:∀ (rs:List (RK×Ty)) (i:Nat) (ls:List (List Lf)) (us:List Value),i+rs.length<500→(∀ l∈ls,∀ y∈l,Ef y=true)→H6 P S1 w.heap.size i rs ls us→H6 P (bare S2.O S2.w) w.heap.size i rs ls us:=by
      intro rs
      induction rs with
      |nil=>intro i ls us _ _ h;exact h
      |cons r rs ih=>
       intro i ls us hi hs h;simp only[Vg]at hi
       cases ls with
       |nil=>exact h.elim
       |cons l ls=>
        cases us with
        |nil=>exact h.elim
        |cons u us=>
         refine⟨?_,ih (i+1) ls us (by omega) (λ l hl=>hs l (Vd _ hl)) h.2⟩;have hl:∀ q z v,Ef z=true→Af P S1 (.tm i q) z v→Af P (bare S2.O S2.w) (.tm i q) z v:=λ q z v hz hv=>Af.bare (S1:=S2) hz rfl (λ k hk=>hk) (λ k hk=>hk) (t2 i q z v (by omega) hv);have h1:=h.1;generalize r.1=k at h1 ⊢
         cases k with
         |one=>exact A5.impM (λ x hx n u h=>hl _ _ u (hs l (by simp) x hx) h) h1
         |agg=>
          obtain⟨us,e,h⟩:=h1;exact⟨us,e,h.impM (λ x hx n u h=>hl _ _ u (hs l (by simp) x hx) h)⟩
         |ptr=>
          obtain⟨k,o,c,e,us,h1,h2,h3,h4,h5,h6,h7,h8⟩:=h1;exact⟨k,o,c,e,us,h1,by show S2.w.heap[k]? = _;rw[w2];exact h2,h3,o2 _ _ _ (by omega) h4,h5,h6,h7,h8.impM (λ x hx n u h=>hl _ _ u (hs l (by simp) x hx) h)⟩
     exact key _ _ _ _ (by omega) (λ l hl=>hsolr l (Sda hl)) hall
    have hback2:Ie P (bare S2.O S2.w) 0 en.ps us ((Av _ r).drop en.rs.length):=by
     have one:∀ {i:Nat} {t':Ty} {l:List Lf} {u:Value},(∀ y∈l,Ef y=true)→R7 P S2 i t' l u→R7 P (bare S2.O S2.w) i t' l u:=by
      rintro i t' l u hs ⟨k,o,c,e,vs,q1,q2,q3,q4,q5⟩;exact⟨k,o,c,e,vs,q1,q2,q3,q4,q5.impM (λ y hy n u hu=>Af.bare (S1:=S2) (hs y hy) rfl (λ k hk=>hk) (λ k hk=>hk) hu)⟩
     have ioK:∀ {i:Nat} {ag:Bool} {l:List Lf} {u:Value},(∀ y∈l,Ef y=true)→Ppa P S2 i ag l u→Ppa P (bare S2.O S2.w) i ag l u:=by
      rintro i ag l u hs ⟨vs,q1,q5⟩;exact⟨vs,q1,q5.impM (λ y hy n u hu=>Af.bare (S1:=S2) (hs y hy) rfl (λ k hk=>hk) (λ k hk=>hk) hu)⟩
     have key:∀ (ps:List Par) (i:Nat) (us:List Value) (ls:List (List Lf)),(∀ l∈ls,∀ y∈l,Ef y=true)→Ie P S2 i ps us ls→Ie P (bare S2.O S2.w) i ps us ls:=by
      intro ps
      induction ps with
      |nil=>intro i us ls _ h;exact h
      |cons p ps ih=>
       intro i us ls hs h
       cases p<;>cases us<;>first|exact h.elim|skip
       all_goals first|exact ih _ _ _ hs h|skip
       all_goals
        cases ls with
        |nil=>exact h.elim
        |cons l ls=>first
         |exact⟨one (hs l (by simp)) h.1,ih _ _ _ (λ l hl=>hs l (Vd _ hl)) h.2⟩
         |exact⟨ioK (hs l (by simp)) h.1,ih _ _ _ (λ l hl=>hs l (Vd _ hl)) h.2⟩
     exact key _ _ _ _ (λ l hl=>hsolr l (Zk hl)) hback
    have hres:=Fh.of hall2 ((Av _ r).drop en.rs.length);rw[Wo]at hres;have hw:S2.w=S0'.w:=w2.trans w1;rw[hw]at hres hback2;refine⟨K.df,_,Y0 hruns,_,S2.O,rfl,?_,?_,hres,hback2⟩
    ·rw[← hw];exact K2.fr
    ·rw[← hw];exact K2.lt
   ·cases h
  ·cases h
 cases e with
 |exit i=>cases h
 |normal=>exact fin h
 |ret=>exact fin h
end

section
attribute [local irreducible] C H
def Ag (A A':Ab) (F:List Nat):Prop:=∀ p∈F,get A' p=get A p
def RB (A:Ab) (F:List Nat) (b lo:Nat):Prop:=H b∈F∧∀ n,(get A (H b)).2 = .one (.hd n)→∀ j,lo≤j→j<n→C b j∈F∧∀ p v,(get A (C b j)).2 = .one (.al p v)→p∈F
def RL (A:Ab) (F:List Nat):Lf→Prop
 |.al p _=>p∈F
 |.ep p _ _ _=>p∈F
 |.da p _ _ _ _ _=>p∈F
 |.dp p _ _ _ _ _ _ _=>p∈F
 |.bp b _ off=>RB A F b off
 |.fn _ bs=>∀ c∈bs,RB A F c.1 0
 |_=>True
def RX (A:Ab) (F:List Nat):Operand→Prop
 |.tmp t=>t∈F∧∀ y∈parts (get A t).2,RL A F y
 |_=>True
def Kl (u:Up):Prop:=u.s = .one .dead∨∃ e r,∃ xs:List (Ty.den r),u.s = .one (.fz e r xs)
section
variable {E:En} {A A':Ab} {F:List Nat} {o:Oper} {R:Type} {Kc:List Up→Option R} {r:R}
def Fka {b:Nat}:∀ {n j:Nat},(∀ p∈rdC A b j n,p∈F)→∀ i,i<n→C b (j+i)∈F∧∀ p v,(get A (C b (j+i))).2 = .one (.al p v)→p∈F
 |0,j,h,i,hi=>by omega
 |n+1,j,h,i,hi=>by
  unfold rdC at h
  cases i with
  |zero=>
   refine⟨h _ (by simp),λ p v hp=>h p ?_⟩;rw[Yu]at hp;rw[hp];simp
  |succ i=>
   rw[show j+(i+1)=j+1+i by omega];exact Fka (n:=n) (j:=j+1) (λ p hp=>h p (Vd _ (Vi _ hp))) i (by omega)
def Fla {b lo:Nat} (h:∀ p∈H b::(match (get A (H b)).2 with | .one (.hd n)=>rdC A b lo (n-lo)|_=>[]),p∈F):RB A F b lo:=by
 refine⟨h _ (by simp),λ n hn j hl hj=>?_⟩;rw[hn]at h;have:=Fka (A:=A) (F:=F) (b:=b) (n:=n-lo) (j:=lo) (λ p hp=>h p (Vd _ hp)) (j-lo) (by omega);rwa [show lo+(j-lo)=j by omega]at this
def Ofa {y:Lf} (h:∀ p∈rdL A y,p∈F):RL A F y:=by
 cases y with
 |al p v=>exact h p (by simp[rdL])
 |ep p v i off=>exact h p (by simp[rdL])
 |da p v pi e r xs=>exact h p (by simp[rdL])
 |dp p v pi e r xs i off=>exact h p (by simp[rdL])
 |bp b v off=>exact Fla h
 |fn f bs=>exact λ c hc=>Fla (lo:=0) λ p hp=>h p (List.mem_flatMap.2 ⟨c,hc,hp⟩)
 |_=>trivial
def Fma:∀ {l:List Lf},(∀ p∈Pea A l,p∈F)→∀ y∈l,RL A F y
 |[],_,y,hy=>by simp at hy
 |z::l,h,y,hy=>by
  unfold Pea at h;rcases Vk.1 hy with rfl|hy
  ·exact Ofa λ p hp=>h p (Vt _ hp)
  ·exact Fma (λ p hp=>h p (Vi _ hp)) y hy
def Oga {x:Operand} (h:∀ p∈rdO A x,p∈F):RX A F x:=by
 cases x with
 |tmp t=>
  unfold rdO at h;exact⟨h t (by simp),Fma λ p hp=>h p (Vd _ hp)⟩
 |_=>trivial
def Sy:∀ {l:List Operand},(∀ p∈Hra A l,p∈F)→∀ x∈l,RX A F x
 |[],_,y,hy=>by simp at hy
 |z::l,h,y,hy=>by
  unfold Hra at h;rcases Vk.1 hy with rfl|hy
  ·exact Oga λ p hp=>h p (Vt _ hp)
  ·exact Sy (λ p hp=>h p (Vi _ hp)) y hy
def Py (A:Ab) (u:Up) (p:Nat):get (up A u) p=if p=u.l then ((bif u.keep then (get A u.l).1 else (get A u.l).1+1),u.s) else get A p:=by
 rw[Il];unfold upd;rfl
def Ag.up (h:Ag A A' F) (u:Up):Ag (up A u) (up A' u) F:=by
 intro p hp;rw[Py,Py]
 by_cases e:p=u.l
 ·subst e;rw[if_pos rfl,if_pos rfl,h _ hp]
 ·rw[if_neg e,if_neg e,h _ hp]
def Ag.ups:∀ {U:List Up} {A A':Ab},Ag A A' F→Ag (ups A U) (ups A' U) F
 |[],_,_,h=>h
 |u::U,_,_,h=>Ag.ups (U:=U) (h.up u)
def RB.up {b lo:Nat} (h:RB A F b lo) {u:Up} (hu:Kl u):RB (Vf.up A u) F b lo:=by
 have key:∀ q,(get (Vf.up A u) q).2=(get A q).2∨(get (Vf.up A u) q).2=u.s:=by
  intro q;rw[Py]
  by_cases e:q=u.l
  ·rw[if_pos e];exact .inr rfl
  ·rw[if_neg e];exact .inl rfl
 refine⟨h.1,λ n hn j hlo hj=>?_⟩
 have hn':(get A (H b)).2 = .one (.hd n):=by
  rcases key (H b) with k|k
  ·rw[← k];exact hn
  ·rw[k]at hn
   rcases hu with hu|⟨e,r,xs,hu⟩<;>rw[hu]at hn<;>cases hn
 obtain⟨h1,h2⟩:=h.2 n hn' j hlo hj;refine⟨h1,λ p v hp=>?_⟩;rcases key (C b j) with k|k
 ·exact h2 p v (by rw[← k];exact hp)
 ·rw[k]at hp
  rcases hu with hu|⟨e,r,xs,hu⟩<;>rw[hu]at hp<;>cases hp
def RB.ups {b lo:Nat}:∀ {U:List Up} {A:Ab},RB A F b lo→(∀ u∈U,Kl u)→RB (Vf.ups A U) F b lo
 |[],_,h,_=>h
 |u::U,_,h,hu=>RB.ups (U:=U) (h.up (hu u (by simp))) (λ v hv=>hu v (Vd _ hv))
def RL.up {y:Lf} (h:RL A F y) {u:Up} (hu:Kl u):RL (Vf.up A u) F y:=by
 cases y with
 |al p v=>exact h
 |ep p v i off=>exact h
 |da p v pi e r xs=>exact h
 |dp p v pi e r xs i off=>exact h
 |bp b v off=>exact RB.up h hu
 |fn f bs=>exact λ c hc=>(h c hc).up hu
 |_=>trivial
def RX.up {x:Operand} (h:RX A F x) {u:Up} (hu:Kl u):RX (Vf.up A u) F x:=by
 cases x with
 |tmp t=>
  refine⟨h.1,λ y hy=>?_⟩;rw[Py]at hy
  by_cases e:t=u.l
  ·rw[if_pos e]at hy;rcases hu with hu|⟨e',r,xs,hu⟩
   ·rw[hu]at hy;simp only[parts,Vz]at hy;subst hy;trivial
   ·rw[hu]at hy;simp only[parts,Vz]at hy;subst hy;trivial
  ·rw[if_neg e]at hy;exact(h.2 y hy).up hu
 |_=>trivial
def RX.ups {x:Operand}:∀ {U:List Up} {A:Ab},RX A F x→(∀ u∈U,Kl u)→RX (Vf.ups A U) F x
 |[],_,h,_=>h
 |u::U,_,h,hu=>RX.ups (U:=U) (h.up (hu u (by simp))) (λ v hv=>hu v (Vd _ hv))
def Al {x:Operand} {T:TypeId} (h:Ag A A' F) (hx:RX A F x):opT E T A' x=opT E T A x:=by
 cases x with
 |tmp t=>show (bif Nat.blt t E.nt then some (get A' t).2 else none)=(bif Nat.blt t E.nt then some (get A t).2 else none);rw[h t hx.1]
 |const v=>
  unfold opT
  cases v<;>first|rfl|skip
  rename_i a b c
  cases a<;>cases b<;>cases c<;>rfl
 |func f=>rfl
 |global g=>rfl
def Km {x:Operand} {T:TypeId} {s:Sv} (hx:RX A F x) (h:opT E T A x=some s):∀ y∈parts s,RL A F y:=by
 unfold opT at h;split at h
 ·rename_i t;cases hb:Nat.blt t E.nt
  ·simp[hb]at h
  simp only[hb,cond_true,Vc]at h;rw[← h];exact hx.2
 ·split at h
  ·cases h;intro y hy;simp only[parts,Vz]at hy;subst hy;trivial
  ·cases h
 ·rename_i v _;cases hs:X5 v
  ·simp[hs]at h
  simp only[hs,cond_true,Vc]at h;subst h;intro y hy;simp only[parts,Vz]at hy;subst hy;trivial
 ·cases h;intro y hy;simp only[parts,Vz]at hy;subst hy;trivial
 ·cases h
def Fi {x:Operand} {T:TypeId} {y:Lf} (hx:RX A F x) (h:opT E T A x=some (.one y)):RL A F y:=Km hx h y (by simp[parts])
def AL (F:List Nat):Lf→Prop
 |.al p _=>p∈F
 |_=>True
def RL.al {y:Lf} (h:RL A F y):AL F y:=by
 cases y<;>first|trivial|exact h
def Dv {y:Lf} (h:Ag A A' F) (hy:AL F y):H9 A' y=H9 A y:=by
 cases y with
 |al p v=>simp only[H9];rw[h p hy]
 |_=>rfl
def Fna {y:Lf} (h:Ag A A' F) (hy:RL A F y):Ru A' y=Ru A y:=by
 cases y with
 |da p v pi e r xs=>simp only[Ru];rw[h p hy]
 |_=>exact Dv h hy.al
def J0a (h:Ag A A' F) {l:List Lf} (hy:∀ y∈l,RL A F y):l.map (λ y=>Iu (Ru A' y))=l.map (λ y=>Iu (Ru A y)):=Zn λ y hm=>by rw[Fna h (hy y hm)]
def B6a {y:Lf} (h:Ag A A' F) (hy:RL A F y):X6 A' y=X6 A y:=by
 cases y with
 |da p v pi e r xs=>simp only[X6];rw[h p hy]
 |_=>simp only[X6,Dv h hy.al]
def Pz:∀ {l:List Lf} {A A':Ab},Ag A A' F→(∀ y∈l,AL F y)→Hi A' l=Hi A l
 |[],_,_,_,_=>rfl
 |y::l,A,A',h,hy=>by
  have h1:AL F y:=hy y (by simp);have h2:∀ z∈l,AL F z:=λ z hz=>hy z (Vd _ hz)
  cases y with
  |al p v=>
   unfold Hi;rw[Dv h h1,Pz (h.up ⟨p,false,.one .dead⟩) h2]
  |_=>simp only[Hi,Pz h h2]
def Foa {x:Operand} {s:Sv} (h:Ag A A' F) (hy:∀ y∈parts s,AL F y):Dia A' x s=Dia A x s:=by
 unfold Dia;rw[Pz (h.ups (U:=gone x s)) hy]
def Y3 {y:Lf} (h:Ag A A' F) (hy:AL F y):Hn A' y=Hn A y:=by
 cases y with
 |al p v=>show Iu (H9 A' (.al p v))=Iu (H9 A (.al p v));rw[Dv h hy]
 |_=>rfl
def Y4 {y:Lf} (h:Ag A A' F) (hy:AL F y):On A' y=On A y:=by
 cases y with
 |al p v=>simp only[On];rw[h p hy]
 |_=>rfl
def La (h:Ag A A' F):∀ {l:List Lf},(∀ y∈l,AL F y)→H7 A' l=H7 A l
 |[],_=>rfl
 |y::l,hy=>by
  unfold H7;rw[Y4 h (hy y (by simp)),La h (λ z hz=>hy z (Vd _ hz))]
def Mt (h:Ag A A' F) {l:List Lf} (hy:∀ y∈l,AL F y):l.map (Hn A')=l.map (Hn A):=Zn λ y hm=>Y3 h (hy y hm)
def B7a (h:Ag A A' F) {l:List Lf} (hy:∀ y∈l,AL F y):l.map (λ y=>Iu (Hn A' y))=l.map (λ y=>Iu (Hn A y)):=Zn λ y hm=>by rw[Y3 h (hy y hm)]
def Sz {y:Lf} (h:Ag A A' F) (hy:RL A F y):Qn A' y=Qn A y:=by
 cases y with
 |bp b v n=>show Nat.beq (get A' (H b)).1 v=Nat.beq (get A (H b)).1 v;rw[h _ hy.1]
 |ep p v i n=>simp only[Qn];rw[h p hy]
 |dp p v pi e r xs i n=>show Nat.beq (get A' p).1 v=Nat.beq (get A p).1 v;rw[h p hy]
 |_=>rfl
def Nr (h:Ag A A' F) {b:Nat}:∀ {n j:Nat},(∀ i,i<n→C b (j+i)∈F)→cellsOf A' b j n=cellsOf A b j n
 |0,_,_=>rfl
 |n+1,j,hc=>by
  unfold cellsOf;rw[h (C b j) (by simpa using hc 0 (by omega)),Nr h (λ i hi=>by have:=hc (i+1) (by omega);rwa [show j+(i+1)=j+1+i by omega]at this)]
def Rb {b:Nat}:∀ {n j:Nat},(∀ i,i<n→C b (j+i)∈F∧∀ p v,(get A (C b (j+i))).2 = .one (.al p v)→p∈F)→∀ y∈cellsOf A b j n,AL F y
 |0,_,_,y,hy=>by simp[cellsOf]at hy
 |n+1,j,hc,y,hy=>by
  unfold cellsOf at hy;rcases Vk.1 hy with hy|hy
  ·obtain⟨c1,c2⟩:=hc 0 (by omega);rw[Yu]at c1 c2;split at hy
   ·subst hy;exact c1
   ·subst hy;exact c1
   ·subst hy;exact c1
   ·rename_i hp;subst hy
    cases y with
    |al p v=>exact c2 p v (by rw[hp])
    |_=>trivial
   ·subst hy;trivial
  ·refine Rb (n:=n) (j:=j+1) (λ i hi=>?_) y hy;have:=hc (i+1) (by omega);rwa [show j+(i+1)=j+1+i by omega]at this
end
end

section
attribute [local irreducible] C H
def Loc {R:Type} (E:En) (o:Oper) (A:Ab) (F:List Nat) (Kc:List Up→Option R) (r:R):Prop:=
 ∃ U,Kc U=some r∧∀ A',Ag A A' F→∀ {R':Type} (K':List Up→Option R'),Ai E o A' K'=K' U
section
variable {E:En} {A A':Ab} {F:List Nat} {o:Oper} {R:Type} {Kc:List Up→Option R} {r:R}
def Cua {op:BinOp} {k:IntKind} {x y:Int} {Kv:Value→Option R} (h:Nz op k x y Kv=some r):∃ v,Kv v=some r∧∀ {R':Type} (K':Value→Option R'),Nz op k x y K'=K' v:=by
 cases op
 case quo=>
  simp only[Nz]at h ⊢
  cases hy:decide (y=0) with
  |true=>rw[hy]at h;simp at h
  |false=>rw[hy]at h;exact⟨_,h,λ K'=>rfl⟩
 case rem=>
  simp only[Nz]at h ⊢
  cases hy:decide (y=0) with
  |true=>rw[hy]at h;simp at h
  |false=>rw[hy]at h;exact⟨_,h,λ K'=>rfl⟩
 all_goals first|exact⟨_,h,λ K'=>rfl⟩|(simp[Nz]at h;done)
def Cva {op:BinOp} {x y:ByteArray} {Kv:Value→Option R} (h:Qw op x y Kv=some r):∃ v,Kv v=some r∧∀ {R':Type} (K':Value→Option R'),Qw op x y K'=K' v:=by
 cases op
 case add=>
  simp only[Qw]at h ⊢
  cases hy:Nat.ble (x.size+y.size) 9223372036854775807 with
  |false=>rw[hy]at h;simp at h
  |true=>rw[hy]at h;exact⟨_,h,λ K'=>rfl⟩
 all_goals first|exact⟨_,h,λ K'=>rfl⟩|(simp[Qw]at h;done)
def M8a {op:BinOp} {t:Option TI} {e:Bool} {x y:Sv} {Kv:Value→Option R} (h:bop op t e x y Kv=some r):∃ v,Kv v=some r∧∀ {R':Type} (K':Value→Option R'),bop op t e x y K'=K' v:=by
 unfold bop at h;split at h
 ·rename_i k a k' b;split at h
  ·cases hb:decide (b<0) with
   |true=>rw[hb]at h;simp at h
   |false=>rw[hb]at h;exact⟨_,h,λ K'=>by unfold bop;simp only[hb,cond_false]⟩
  ·cases hb:decide (b<0) with
   |true=>rw[hb]at h;simp at h
   |false=>rw[hb]at h;exact⟨_,h,λ K'=>by unfold bop;simp only[hb,cond_false]⟩
  ·rename_i n1 n2;obtain⟨hb,h⟩:=cs h;obtain⟨v,h1,h2⟩:=Cua h;refine⟨v,h1,λ K'=>?_⟩;unfold bop
   cases op<;>first|exact(n1 rfl).elim|exact(n2 rfl).elim|(simp only[hb,cond_true];exact h2 K')
 ·obtain⟨v,h1,h2⟩:=Cva h;exact⟨v,h1,λ K'=>h2 K'⟩
 ·rename_i a b;split at h
  ·exact⟨_,h,λ K'=>rfl⟩
  ·exact⟨_,h,λ K'=>rfl⟩
  ·cases h
 ·rename_i l l';obtain⟨hb,h⟩:=cs h;split at h
  ·split at h
   ·rename_i b he;exact⟨_,h,λ K'=>by unfold bop;simp only[hb,cond_true,he]⟩
   ·cases h
  ·split at h
   ·rename_i b he;exact⟨_,h,λ K'=>by unfold bop;simp only[hb,cond_true,he]⟩
   ·cases h
  ·cases h
 ·cases h
def M9a {op:UnOp} {x:Sv} {Kv:Value→Option R} (h:uop op x Kv=some r):∃ v,Kv v=some r∧∀ {R':Type} (K':Value→Option R'),uop op x K'=K' v:=by
 unfold uop at h;split at h
 ·exact⟨_,h,λ K'=>rfl⟩
 ·exact⟨_,h,λ K'=>rfl⟩
 ·exact⟨_,h,λ K'=>rfl⟩
 ·cases h
def J1a {t t':Option TI} {x:Sv} {Kv:Sv→Option R} (h:conv t t' x Kv=some r):∃ v,Kv v=some r∧∀ {R':Type} (K':Sv→Option R'),conv t t' x K'=K' v:=by
 unfold conv at h;split at h
 ·exact⟨_,h,λ K'=>rfl⟩
 ·exact⟨_,h,λ K'=>rfl⟩
 ·rename_i e _ _ _ _ e' xs
  cases hb:Nat.beq e e' with
  |false=>rw[hb]at h;simp at h
  |true=>rw[hb]at h;exact⟨_,h,λ K'=>by unfold conv;simp only[hb,cond_true]⟩
 ·rename_i e _ _ _ _ e' xs
  cases hb:Nat.beq e e' with
  |false=>rw[hb]at h;simp at h
  |true=>rw[hb]at h;exact⟨_,h,λ K'=>by unfold conv;simp only[hb,cond_true]⟩
 ·rename_i s
  cases hb:Nat.ble s.size 140737488355328 with
  |false=>rw[hb]at h;simp at h
  |true=>rw[hb]at h;exact⟨_,h,λ K'=>by unfold conv;simp only[hb,cond_true]⟩
 ·cases h
def Rc {mx:Bool}:∀ {l:List Sv} {k:IntKind} {x:Int} {Kv:Value→Option R},Lm mx l k x Kv=some r→∃ v,Kv v=some r∧∀ {R':Type} (K':Value→Option R'),Lm mx l k x K'=K' v:=by
 intro l
 induction l with
 |nil=>intro k x Kv h;exact⟨_,h,λ K'=>rfl⟩
 |cons s l ih=>
  intro k x Kv h;unfold Lm at h;split at h
  ·rename_i heq;cases heq
  ·rename_i k0 x0 K0 l9 k9 x9 K9 k' y l0 heq;cases heq;obtain⟨hb,h⟩:=cs h;obtain⟨v,h1,h2⟩:=ih h;exact⟨v,h1,λ K'=>by conv => { lhs;unfold Lm };simp only[hb,cond_true];exact h2 K'⟩
  ·cases h
def It {lo hi:Option Int} {n:Nat} {Kv:Unit→Option R} (h:Wy lo hi n Kv=some r):Kv ()=some r∧∀ {R':Type} (K':Unit→Option R'),Wy lo hi n K'=K' ():=by
 unfold Wy at h;split at h
 ·exact⟨h,λ K'=>rfl⟩
 ·rename_i l;obtain⟨h1,h⟩:=cs h
  cases h2:decide (l≤(n:Int)) with
  |false=>rw[h2]at h;simp at h
  |true=>rw[h2,cond_true]at h;exact⟨h,λ K'=>by unfold Wy;simp only[h1,h2,cond_true]⟩
 ·rename_i l;obtain⟨h1,h⟩:=cs h
  cases h2:decide (l≤(n:Int)) with
  |false=>rw[h2]at h;simp at h
  |true=>rw[h2,cond_true]at h;exact⟨h,λ K'=>by unfold Wy;simp only[h1,h2,cond_true]⟩
 ·rename_i l u;obtain⟨h1,h⟩:=cs h;obtain⟨h2,h⟩:=cs h
  cases h3:decide (u≤(n:Int)) with
  |false=>rw[h3]at h;simp at h
  |true=>rw[h3,cond_true]at h;exact⟨h,λ K'=>by unfold Wy;simp only[h1,h2,h3,cond_true]⟩
def Fpa {op:BinOp} {T T':TypeId} {x y:Operand} {d:Nat} (ho:o.op = .binOp op T x y T') (hod:o.dst=some d) (hx:RX A F x) (hy:RX A F y) (h:Ai E o A Kc=some r):Loc E o A F Kc r:=by
 unfold Ai at h;rw[ho,hod]at h;simp only at h;split at h
 ·rename_i s s' hs hs';obtain⟨v,h1,h2⟩:=M8a h;refine⟨_,h1,λ A' hA R' K'=>?_⟩;unfold Ai;rw[ho,hod];simp only[Al hA hx,Al hA hy,hs,hs'];exact h2 _
 ·cases h
def J2a {op:UnOp} {T:TypeId} {x:Operand} {d:Nat} (ho:o.op = .unOp op T x) (hod:o.dst=some d) (hx:RX A F x) (h:Ai E o A Kc=some r):Loc E o A F Kc r:=by
 unfold Ai at h;rw[ho,hod]at h;simp only at h;split at h
 ·rename_i s hs;obtain⟨v,h1,h2⟩:=M9a h;refine⟨_,h1,λ A' hA R' K'=>?_⟩;unfold Ai;rw[ho,hod];simp only[Al hA hx,hs];exact h2 _
 ·cases h
def Uw {T T':TypeId} {x:Operand} {d:Nat} (hA:Ag A A' F) (hx:RX A F x):O4 E A' T T' x d=O4 E A T T' x d:=by
 unfold O4
 cases x with
 |tmp t=>simp only[Al hA hx]
 |const v=>rfl
 |func f=>rfl
 |global g=>rfl
def Y5 {T T':TypeId} {x:Operand} {d:Nat} (ho:o.op = .convert T T' x) (hod:o.dst=some d) (hx:RX A F x) (h:Ai E o A Kc=some r):Loc E o A F Kc r:=by
 unfold Ai at h;rw[ho,hod]at h;simp only at h
 cases hi:O4 E A T T' x d with
 |some U=>
  rw[hi]at h;refine⟨U,h,λ A' hA R' K'=>?_⟩;unfold Ai;rw[ho,hod];simp only[Uw hA hx,hi]
 |none=>
  rw[hi]at h;simp only at h;split at h
  ·rename_i y hs;obtain⟨v,h1,h2⟩:=J1a h;refine⟨_,h1,λ A' hA R' K'=>?_⟩;unfold Ai;rw[ho,hod];simp only[Uw hA hx,hi,Al hA hx,hs,Fna hA (Fi hx hs)];exact h2 _
  ·cases h
def J3a {x:Operand} {d:Nat} (ho:o.op = .move x) (hod:o.dst=some d) (hx:∀ t,x = .tmp t→t∈F) (hio:∀ p∈Pla A x,p∈F) (h:Ai E o A Kc=some r):Loc E o A F Kc r:=by
 have hag:∀ A',Ag A A' F→∀ T,opT E T A' x=opT E T A x:=by
  intro A' hA T
  cases x with
  |tmp t=>show (bif Nat.blt t E.nt then some (get A' t).2 else none)=(bif Nat.blt t E.nt then some (get A t).2 else none);rw[hA t (hx t rfl)]
  |const v=>exact Al hA (x := .const v) trivial
  |func f=>rfl
  |global g=>rfl
 unfold Ai at h;rw[ho,hod]at h;simp only at h;split at h
 ·rename_i s hs;split at h
  ·rename_i t e r' xs
   cases hn:(E.nm t&&!(E.mv d)) with
   |true=>
    rw[hn,cond_true]at h;refine⟨_,h,λ A' hA R' K'=>?_⟩;unfold Ai;rw[ho,hod];simp only[hag A' hA,hs,hn,cond_true,hA t (hx t rfl)]
   |false=>
    rw[hn,cond_false]at h;refine⟨_,h,λ A' hA R' K'=>?_⟩;unfold Ai;rw[ho,hod];simp only[hag A' hA,hs,hn,cond_false]
  ·rename_i t p
   have hst:(get A t).2 = .one (.io p):=by
    have h2:(bif Nat.blt t E.nt then some (get A t).2 else none)=some (.one (.io p)):=hs;cases hb:Nat.blt t E.nt
    ·rw[hb]at h2;cases h2
    rw[hb,cond_true,Vc]at h2;exact h2
   have hpF:p∈F:=hio p (by simp[Pla,hst]);refine⟨_,h,λ A' hA R' K'=>?_⟩;unfold Ai;rw[ho,hod];simp only[hag A' hA,hs,hA p hpF]
  ·rename_i hne1 hne2;refine⟨_,h,λ A' hA R' K'=>?_⟩;unfold Ai;rw[ho,hod];simp only[hag A' hA,hs]
 ·cases h
def Cwa {x:Operand} {d:Nat} (ho:o.op = .assign x) (hod:o.dst=some d) (hx:RX A F x) (h:Ai E o A Kc=some r):Loc E o A F Kc r:=by
 unfold Ai at h;rw[ho,hod]at h;simp only at h;split at h
 ·rename_i p v hs;have hp:p∈F:=Fi hx hs;split at h
  ·rename_i n e r' xs hg;obtain⟨hn,h⟩:=cs h
   cases hr:E.res d with
   |true=>
    rw[hr,cond_true]at h;refine⟨_,h,λ A' hA R' K'=>?_⟩;unfold Ai;rw[ho,hod];simp only[Al hA hx,hs,hA p hp,hg,hn,hr,cond_true]
   |false=>
    rw[hr,cond_false]at h;refine⟨_,h,λ A' hA R' K'=>?_⟩;unfold Ai;rw[ho,hod];simp only[Al hA hx,hs,hA p hp,hg,hn,hr,cond_true,cond_false]
  ·rename_i n e r' xs hg;obtain⟨hn,h⟩:=cs h;refine⟨_,h,λ A' hA R' K'=>?_⟩;unfold Ai;rw[ho,hod];simp only[Al hA hx,hs,hA p hp,hg,hn,cond_true]
  ·cases h
 ·rename_i s hne hs;refine⟨_,h,λ A' hA R' K'=>?_⟩;unfold Ai;rw[ho,hod];simp only[Al hA hx,hs]
 ·cases h
def J4a {c x y:Operand} {d:Nat} (ho:o.op = .pick c x y) (hod:o.dst=some d) (hc:RX A F c) (hx:RX A F x) (hy:RX A F y) (h:Ai E o A Kc=some r):Loc E o A F Kc r:=by
 unfold Ai at h;rw[ho,hod]at h;simp only at h;split at h
 ·rename_i b hs
  cases b with
  |true=>
   rw[cond_true]at h;split at h
   ·rename_i u hu;refine⟨_,h,λ A' hA R' K'=>?_⟩;unfold Ai;rw[ho,hod];simp only[Al hA hc,Al hA hx,hs,hu,cond_true]
   ·cases h
  |false=>
   rw[cond_false]at h;split at h
   ·rename_i u hu;refine⟨_,h,λ A' hA R' K'=>?_⟩;unfold Ai;rw[ho,hod];simp only[Al hA hc,Al hA hy,hs,hu,cond_false]
   ·cases h
 ·cases h
def RP (A:Ab) (F:List Nat):Operand→Prop
 |.tmp t=>t∈F∧∀ y∈parts (get A t).2,(∀ b v n,y = .bp b v n→H b∈F)∧(∀ p v i n,y = .ep p v i n→p∈F)∧(∀ p v pi e r,∀ xs:List (Ty.den r),∀ i n,y = .dp p v pi e r xs i n→p∈F)
 |_=>True
def B8a:∀ {l:List Lf},(∀ p∈Nna l,p∈F)→∀ y∈l,(∀ b v n,y = .bp b v n→H b∈F)∧(∀ p v i n,y = .ep p v i n→p∈F)∧(∀ p v pi e r,∀ xs:List (Ty.den r),∀ i n,y = .dp p v pi e r xs i n→p∈F)
 |[],_,y,hy=>by simp at hy
 |z::l,h,y,hy=>by
  unfold Nna at h;rcases Vk.1 hy with rfl|hy
  ·refine⟨λ b v n e=>h _ (Vt _ ?_),λ p v i n e=>h _ (Vt _ ?_),λ p v pi e0 r xs i n e=>h _ (Vt _ ?_)⟩<;>(subst e;simp[rdH])
  ·exact B8a (λ p hp=>h p (Vi _ hp)) y hy
def Kpa {x:Operand} (h:∀ p∈rdP A x,p∈F):RP A F x:=by
 cases x with
 |tmp t=>
  have h:∀ p∈t::Nna (parts (get A t).2),p∈F:=h;exact⟨h t (by simp),B8a λ p hp=>h p (Vd _ hp)⟩
 |_=>trivial
def RP.opT {x:Operand} {T:TypeId} (hA:Ag A A' F) (hx:RP A F x):Vf.opT E T A' x=Vf.opT E T A x:=by
 cases x with
 |tmp t=>show (bif Nat.blt t E.nt then some (get A' t).2 else none)=(bif Nat.blt t E.nt then some (get A t).2 else none);rw[hA t hx.1]
 |const v=>exact Al hA (x := .const v) trivial
 |func f=>rfl
 |global g=>rfl
def RP.live {x:Operand} {T:TypeId} {y:Lf} (hA:Ag A A' F) (hx:RP A F x) (h:Vf.opT E T A x=some (.one y)):Qn A' y=Qn A y:=by
 cases x with
 |tmp t=>
  have h:(bif Nat.blt t E.nt then some (get A t).2 else none)=some (.one y):=h;cases hb:Nat.blt t E.nt
  ·rw[hb]at h;simp at h
  rw[hb]at h;simp only[cond_true,Vc]at h;obtain⟨h1,h2,h3⟩:=hx.2 y (by rw[h];simp[parts])
  cases y with
  |bp b v n=>show Nat.beq (get A' (H b)).1 v=Nat.beq (get A (H b)).1 v;rw[hA _ (h1 b v n rfl)]
  |ep p v i n=>simp only[Qn];rw[hA _ (h2 p v i n rfl)]
  |dp p v pi e r xs i n=>show Nat.beq (get A' p).1 v=Nat.beq (get A p).1 v;rw[hA _ (h3 p v pi e r xs i n rfl)]
  |_=>rfl
 |const v=>exact Sz hA (Fi (x := .const v) (F:=F) trivial h)
 |func f=>exact Sz hA (Fi (x := .func f) (F:=F) trivial h)
 |global g=>exact Sz hA (Fi (x := .global g) (F:=F) trivial h)
def Ux {x:Operand} {d:Nat} (ho:o.op = .nilCheck x) (hod:o.dst=some d) (hx:RP A F x) (h:Ai E o A Kc=some r):Loc E o A F Kc r:=by
 unfold Ai at h;rw[ho,hod]at h;simp only at h;split at h
 ·rename_i y hs;obtain⟨hl,h⟩:=cs h;refine⟨_,h,λ A' hA R' K'=>?_⟩;unfold Ai;rw[ho,hod];simp only[hx.opT hA,hs,hx.live hA hs,hl,cond_true]
 ·cases h
def T0 {T:TypeId} {x:Operand} {j d:Nat} (ho:o.op = .fieldAddr T x j) (hod:o.dst=some d) (hx:RP A F x) (h:Ai E o A Kc=some r):Loc E o A F Kc r:=by
 unfold Ai at h;rw[ho,hod]at h;simp only at h;split at h
 ·rename_i ti y hT hs;split at h
  ·rename_i f hf;obtain⟨hl,h⟩:=cs h;refine⟨_,h,λ A' hA R' K'=>?_⟩;unfold Ai;rw[ho,hod];simp only[hT,hx.opT hA,hs,hf,hx.live hA hs,hl,cond_true]
  ·cases h
 ·cases h
def Y6 {t j d:Nat} (ho:o.op = .extract (.tmp t) j) (hod:o.dst=some d) (ht:t∈F) (h:Ai E o A Kc=some r):Loc E o A F Kc r:=by
 unfold Ai at h;rw[ho,hod]at h;simp only at h;cases hb:Nat.blt t E.nt
 ·rw[hb]at h;simp at h
 rw[hb,cond_true]at h;split at h
 ·rename_i vs hg;split at h
  ·rename_i ag l hn;split at h
   ·rename_i s hs
    cases hw:Db l with
    |true=>
     rw[hw,cond_true]at h;refine⟨_,h,λ A' hA R' K'=>?_⟩;unfold Ai;rw[ho,hod];simp only[hb,cond_true,hA t ht,hg,hn,hs,hw]
    |false=>
     rw[hw,cond_false]at h;refine⟨_,h,λ A' hA R' K'=>?_⟩;unfold Ai;rw[ho,hod];simp only[hb,cond_true,hA t ht,hg,hn,hs,hw,cond_false]
   ·cases h
  ·cases h
 ·cases h
def Fqa {T:TypeId} {t j d:Nat} (ho:o.op = .field T (.tmp t) j) (hod:o.dst=some d) (ht:t∈F) (h:Ai E o A Kc=some r):Loc E o A F Kc r:=by
 unfold Ai at h;rw[ho,hod]at h;simp only at h;split at h
 ·rename_i ti l hT hg;split at h
  ·rename_i off z ag hn;split at h
   ·rename_i s hs;obtain⟨hb,h⟩:=cs h
    cases hw:Db ((l.drop off).take z) with
    |true=>
     rw[hw,cond_true]at h;refine⟨_,h,λ A' hA R' K'=>?_⟩;unfold Ai;rw[ho,hod];simp only[hT,hA t ht,hg,hn,hs,hb,hw,cond_true]
    |false=>
     rw[hw,cond_false]at h;refine⟨_,h,λ A' hA R' K'=>?_⟩;unfold Ai;rw[ho,hod];simp only[hT,hA t ht,hg,hn,hs,hb,hw,cond_true,cond_false]
   ·cases h
  ·cases h
 ·cases h
def Fra {T:TypeId} {d:Nat} (ho:o.op = .alloc T) (hod:o.dst=some d) (hH:H d∈F) (h:Ai E o A Kc=some r):Loc E o A F Kc r:=by
 unfold Ai at h;rw[ho,hod]at h;simp only at h;split at h
 ·rename_i ti hT;obtain⟨hb,h⟩:=cs h;refine⟨_,h,λ A' hA R' K'=>?_⟩;unfold Ai;rw[ho,hod];simp only[hT,hb,cond_true,hA _ hH]
 ·cases h
def RL.als {s:Sv} (h:∀ y∈parts s,RL A F y):∀ y∈parts s,AL F y:=λ y hy=>(h y hy).al
def O5 (hA:Ag A A' F):∀ {l:List Lf},(∀ y∈l,AL F y)→Dc A' l=Dc A l
 |[],_=>rfl
 |y::l,h=>by
  have ih:=O5 hA (l:=l) (λ z hz=>h z (Vd _ hz))
  cases y with
  |al p v=>simp only[Dc,ih,Dv hA (h (.al p v) (by simp))]
  |_=>simp only[Dc,ih]
def Maa {T:TypeId} {x:Operand} {d:Nat} (ho:o.op = .box T x) (hod:o.dst=some d) (hH:H d∈F) (hx:RX A F x) (h:Ai E o A Kc=some r):Loc E o A F Kc r:=by
 unfold Ai at h;rw[ho,hod]at h;simp only at h;split at h
 ·rename_i ti s hT hs;have hal:=RL.als (Km hx hs)
  cases hmv:mvO E x with
  |true=>
   rw[hmv,cond_true]at h;obtain⟨hb,h⟩:=cs h;refine⟨_,h,λ A' hA R' K'=>?_⟩;unfold Ai;rw[ho,hod];simp only[hT,Al hA hx,hs,hmv,O5 hA hal,hb,cond_true,hA _ hH]
  |false=>
  rw[hmv,cond_false]at h;obtain⟨hb,h⟩:=cs h;refine⟨_,h,λ A' hA R' K'=>?_⟩;unfold Ai;rw[ho,hod];simp only[hT,Al hA hx,hs,hmv,cond_false,Mt hA hal,hb,cond_true,La hA hal,hA _ hH]
 ·cases h
def J5a {T:TypeId} {x:Operand} {d:Nat} (ho:o.op = .load T x) (hod:o.dst=some d) (hx:RX A F x) (h:Ai E o A Kc=some r):Loc E o A F Kc r:=by
 unfold Ai at h;rw[ho,hod]at h;simp only at h;split at h
 ·rename_i ti b v off hT hs;obtain⟨h1,h2⟩:RL A F (.bp b v off):=Fi hx hs;split at h
  ·rename_i n m hg;obtain⟨hb,h⟩:=cs h
   have hle:off+ti.ty.sz≤m:=by
    simp only[Va]at hb;exact Ve hb.2
   have hcell:∀ i,i<ti.ty.sz→C b (off+i)∈F:=λ i hi=>(h2 m (by rw[hg]) (off+i) (by omega) (by omega)).1;split at h
   ·rename_i s hp;refine⟨_,h,λ A' hA R' K'=>?_⟩;unfold Ai;rw[ho,hod];simp only[hT,Al hA hx,hs,hA _ h1,hg,hb,cond_true,Nr hA hcell,hp]
   ·cases h
  ·cases h
 ·rename_i ti p v i off hT hs;have hp:p∈F:=Fi hx hs;split at h
  ·rename_i n e r' xs hg;obtain⟨hb,h⟩:=cs h;split at h
   ·rename_i s hp2;refine⟨_,h,λ A' hA R' K'=>?_⟩;unfold Ai;rw[ho,hod];simp only[hT,Al hA hx,hs,hA _ hp,hg,hb,cond_true,hp2]
   ·cases h
  ·cases h
 ·rename_i ti p v pi e0 r' xs i off hT hs;have hp:p∈F:=Fi hx hs;obtain⟨hb,h⟩:=cs h;split at h
  ·rename_i s hp2;refine⟨_,h,λ A' hA R' K'=>?_⟩;unfold Ai;rw[ho,hod];simp only[hT,Al hA hx,hs,hA _ hp,hb,cond_true,hp2]
  ·cases h
 ·rename_i ti r' x' off hT hs;obtain⟨hb,h⟩:=cs h;split at h
  ·rename_i s hp2;refine⟨_,h,λ A' hA R' K'=>?_⟩;unfold Ai;rw[ho,hod];simp only[hT,Al hA hx,hs,hb,cond_true,hp2]
  ·cases h
 ·cases h
def O6 (h:Ag A A' F):∀ {l:List Lf},(∀ p v pi e r,∀ xs:List (Ty.den r),Lf.da p v pi e r xs∈l→p∈F)→F6 A' l=F6 A l
 |[],_=>rfl
 |y::l,hp=>by
  have ih:=O6 h (l:=l) (λ p v pi e r xs hm=>hp p v pi e r xs (Vd _ hm))
  cases y with
  |da p v pi e r xs=>simp only[F6,ih,h p (hp p v pi e r xs (by simp))]
  |_=>simp only[F6,ih]
def Mba {l:List Lf} (h:∀ y∈l,RL A F y):∀ p v pi e r,∀ xs:List (Ty.den r),Lf.da p v pi e r xs∈l.map (Hn A)→p∈F:=by
 intro p v pi e r xs hm;obtain⟨y,hy,he⟩:=Za.1 hm
 cases y with
 |da p' v' pi' e' r' xs'=>
  simp only[Hn,Lf.da.injEq]at he;have:=h _ hy;rw[he.1]at this;exact this
 |al q w=>
  exfalso;simp only[Hn]at he
  have h1:∀ z:Lf,(∀ p v pi e r,∀ xs:List (Ty.den r),z ≠ .da p v pi e r xs)→∀ p v pi e r,∀ xs:List (Ty.den r),Iu z ≠ .da p v pi e r xs:=by
   intro z hz p v pi e r xs
   cases z<;>simp[Iu]
   exact λ e1 e2 e3 e4 e5 e6=>hz _ _ _ _ _ _ rfl
  refine h1 (H9 A (.al q w)) ?_ _ _ _ _ _ _ he;intro p v pi e r xs;simp only[H9];split
  ·rename_i n _ _ _ _
   cases Nat.beq n w<;>simp
  ·rename_i n _ _ _ _
   cases Nat.beq n w<;>simp
  ·simp
 |_=>simp[Hn]at he
def Ko:∀ {ts:List Ty} {l:List Lf} {A A':Ab},Ag A A' F→(∀ y∈l,AL F y)→D5 A' ts l=D5 A ts l
 |[],[],_,_,_,_=>rfl
 |[],_::_,_,_,_,_=>rfl
 |t::ts,[],_,_,_,_=>by cases t<;>rfl
 |t::ts,x::l,A,A',hA,hy=>by
  have hx:AL F x:=hy x (by simp);have hl:∀ y∈l,AL F y:=λ y hm=>hy y (Vd _ hm)
  cases t<;>simp only[D5,Dv hA hx,Y3 hA hx,Y4 hA hx,Ko (hA.ups (U:=X7 x)) hl,Ko (hA.ups (U:=On A x)) hl]
def Fsa (hA:Ag A A' F):∀ {l:List Lf},(∀ y∈l,AL F y)→Laa A' l=Laa A l
 |[],_=>rfl
 |y::l,h=>by simp only[Laa,Dv hA (h y (by simp)),Fsa hA (λ z hz=>h z (Vd _ hz))]
def J6a {x:Operand} {s:Sv} (hA:Ag A A' F) (hal:∀ y∈parts s,AL F y):N7 A' x s (Laa (ups A' (gone x s)) (parts s))=N7 A x s (Laa (ups A (gone x s)) (parts s)):=by
 have hA1:=hA.ups (U:=gone x s);unfold N7;rw[Fsa hA1 hal,Ko hA1 hal]
def Fta {T:TypeId} {x y:Operand} (ho:o.op = .store T x y) (hod:o.dst=none) (hx:RX A F x) (hy:RX A F y) (h:Ai E o A Kc=some r):Loc E o A F Kc r:=by
 unfold Ai at h;rw[ho,hod]at h;simp only at h;split at h
 ·rename_i ti b v off s hT hs hs2;obtain⟨h1,h2⟩:RL A F (.bp b v off):=Fi hx hs;have hal:=RL.als (Km hy hs2)
  cases hmv:mvO E y with
  |true=>
   rw[hmv,cond_true]at h;split at h
   ·rename_i m vs hgive;split at h
    ·rename_i n hd hg;obtain⟨hb,h⟩:=cs h;refine⟨_,h,λ A' hA R' K'=>?_⟩;unfold Ai;rw[ho,hod];simp only[hT,Al hA hx,hs,Al hA hy,hs2,hmv,J6a hA hal,hgive,hA _ h1,hg,hb,cond_true]
    ·cases h
   ·cases h
  |false=>
  rw[hmv,cond_false]at h;split at h
  ·rename_i n m hg;obtain⟨hb,h⟩:=cs h;refine⟨_,h,λ A' hA R' K'=>?_⟩;unfold Ai;rw[ho,hod];simp only[hT,Al hA hx,hs,Al hA hy,hs2,hmv,cond_false,hA _ h1,hg,Mt hA hal,La hA hal,O6 (hA.ups (U:=H7 A (parts s)++gone y s)) (Mba (Km hy hs2)),hb,cond_true]
  ·cases h
 ·rename_i ti p v i off s hT hs hs2;have hp:p∈F:=Fi hx hs;have hal:=RL.als (Km hy hs2);split at h
  ·rename_i n e r' xs hg;obtain⟨hb,h⟩:=cs h;split at h
   ·rename_i z hz;refine⟨_,h,λ A' hA R' K'=>?_⟩;unfold Ai;rw[ho,hod];simp only[hT,Al hA hx,hs,Al hA hy,hs2,hA _ hp,hg,Mt hA hal,B7a hA hal,hb,cond_true,La hA hal,hz]
   ·cases h
  ·cases h
 ·rename_i ti p v q e r1 xs i off s hT hs hs2;have hp:p∈F:=Fi hx hs;have hal:=RL.als (Km hy hs2);split at h
  ·rename_i m us hgive;split at h
   ·rename_i n E0 R0 XS hg;obtain⟨hb,h⟩:=cs h;split at h
    ·rename_i z hz;split at h
     ·rename_i XS' hput;refine⟨_,h,λ A' hA R' K'=>?_⟩;unfold Ai;rw[ho,hod];simp only[hT,Al hA hx,hs,Al hA hy,hs2,Foa hA hal,hgive,hA _ hp,hg,hb,cond_true,hz,hput]
     ·cases h
    ·cases h
   ·cases h
  ·cases h
 ·cases h
end
end

section
attribute [local irreducible] C H
section
variable {E:En} {A A':Ab} {F:List Nat} {o:Oper} {R:Type} {Kc:List Up→Option R} {r:R}
def Fua {B p:Nat} {e:TypeId} {r':Ty} {xs:List r'.den} {i:Int} {K:List Up→Option R} (hB:H B∈F) (h:P8 A B p e r' xs i K none=some r):∃ U,K U=some r∧∀ A',Ag A A' F→∀ {R':Type} (K':List Up→Option R'),P8 A' B p e r' xs i K' none=K' U:=by
 unfold P8 at h;obtain⟨h1,h⟩:=cs h;obtain⟨h2,h⟩:=cs h;obtain⟨h3,h⟩:=cs h;refine⟨_,h,λ A' hA R' K'=>?_⟩;unfold P8;simp only[h1,h2,h3,cond_true,hA _ hB]
def T1 {T:TypeId} {x i:Operand} {d:Nat} (ho:o.op = .indexAddr T x i) (hod:o.dst=some d) (hopn:E.opn d=true) (hB:H (2000+d)∈F) (hx:RX A F x) (hi:RX A F i) (h:Ai E o A Kc=some r):Loc E o A F Kc r:=by
 unfold Ai at h;rw[ho,hod]at h;simp only[hopn,cond_true]at h;split at h
 ·rename_i p v k n hs hn;have hp:p∈F:=Fi hx hs;split at h
  ·rename_i m e r' xs hgp;obtain⟨hq,h⟩:=cs h;obtain⟨U,h1,h2⟩:=Fua hB h;refine⟨_,h1,λ A' hA R' K'=>?_⟩;unfold Ai;rw[ho,hod];simp only[hopn,Al hA hx,Al hA hi,hs,hn,hA p hp,hgp,hq,cond_true,hA _ hB];exact h2 A' hA _
  ·cases h
 ·cases h
def T2 {T:TypeId} {x i:Operand} {d:Nat} (ho:o.op = .indexAddr T x i) (hod:o.dst=some d) (hopn:E.opn d=false) (hx:RX A F x) (hi:RX A F i) (h:Ai E o A Kc=some r):Loc E o A F Kc r:=by
 unfold Ai at h;rw[ho,hod]at h;simp only[hopn,cond_false]at h;split at h
 ·rename_i y k n hs hn;have hrl:=Fi hx hs;have hal:=hrl.al;split at h
  ·rename_i p v e r' xs hse;obtain⟨hb,h⟩:=cs h;obtain⟨hl,h⟩:=cs h
   cases hno:Hh r' with
   |true=>
    rw[hno,cond_true]at h;refine⟨_,h,λ A' hA R' K'=>?_⟩;unfold Ai;rw[ho,hod];simp only[hopn,cond_false,Al hA hx,Al hA hi,hs,hn,Dv hA hal,hse,hb,hl,hno,cond_true]
   |false=>
    rw[hno,cond_false]at h;obtain⟨hao,h⟩:=cs h;refine⟨_,h,λ A' hA R' K'=>?_⟩;unfold Ai;rw[ho,hod];simp only[hopn,cond_false,Al hA hx,Al hA hi,hs,hn,Dv hA hal,hse,hb,hl,hno,hao,cond_true,cond_false]
  ·rename_i p v pi e r' xs;have hp:p∈F:=hrl;obtain⟨hb,h⟩:=cs h;obtain⟨hl,h⟩:=cs h;refine⟨_,h,λ A' hA R' K'=>?_⟩;unfold Ai;rw[ho,hod];simp only[hopn,cond_false,Al hA hx,Al hA hi,hs,hn,hA p hp,hb,hl,cond_true]
  ·rename_i p v hse;have hp:p∈F:=hrl;split at h
   ·rename_i m e r0 xs0 i0 b0 vb hgp;obtain⟨hb,h⟩:=cs h;obtain⟨hl,h⟩:=cs h;refine⟨_,h,λ A' hA R' K'=>?_⟩;unfold Ai;rw[ho,hod];simp only[hopn,cond_false,Al hA hx,Al hA hi,hs,hn,Dv hA hal,hse,hA p hp,hgp,hb,hl,cond_true]
   ·cases h
  ·rename_i e r' xs hnda hse;obtain⟨hb,h⟩:=cs h;obtain⟨hl,h⟩:=cs h;refine⟨_,h,λ A' hA R' K'=>?_⟩;unfold Ai;rw[ho,hod];simp only[hopn,cond_false,Al hA hx,Al hA hi,hs,hn,Dv hA hal,hse,hb,hl,cond_true]
  ·rename_i e r' xs hne hnda hse;split at h
   ·rename_i t;have ht:t∈F:=hx.1;obtain⟨hb,h⟩:=cs h;obtain⟨hl,h⟩:=cs h
    cases hno:Hh r' with
    |true=>
     rw[hno,cond_true]at h;refine⟨_,h,λ A' hA R' K'=>?_⟩;unfold Ai;rw[ho,hod];simp only[hopn,cond_false,Al hA hx,Al hA hi,hs,hn,Dv hA hal,hse,hb,hl,hno,cond_true,hA t ht]
    |false=>
     rw[hno,cond_false]at h;obtain⟨hao,h⟩:=cs h;refine⟨_,h,λ A' hA R' K'=>?_⟩;unfold Ai;rw[ho,hod];simp only[hopn,cond_false,Al hA hx,Al hA hi,hs,hn,Dv hA hal,hse,hb,hl,hno,hao,cond_true,cond_false,hA t ht]
   ·cases h
  ·cases h
 ·cases h
def Fva {T:TypeId} {x i:Operand} {d:Nat} (ho:o.op = .index T x i) (hod:o.dst=some d) (hx:RX A F x) (hi:RX A F i) (h:Ai E o A Kc=some r):Loc E o A F Kc r:=by
 unfold Ai at h;rw[ho,hod]at h;simp only at h;split at h
 ·rename_i s k n hs hn;obtain⟨hb,h⟩:=cs h;obtain⟨hl,h⟩:=cs h;refine⟨_,h,λ A' hA R' K'=>?_⟩;unfold Ai;rw[ho,hod];simp only[Al hA hx,Al hA hi,hs,hn,hb,hl,cond_true]
 ·cases h
def Fe (hA:Ag A A' F) {x:Option Operand} (hx:∀ y,x=some y→RX A F y):Rw E A' x=Rw E A x:=by
 cases x with
 |none=>rfl
 |some y=>simp only[Rw,Al hA (hx y rfl)]
def Hm {T:TypeId} {x:Operand} {lo hi:Option Operand} {d:Nat} (hA:Ag A A' F) (hx:RX A F x) (hlo:∀ y,lo=some y→RX A F y) (hhi:∀ y,hi=some y→RX A F y) (htw:∀ p∈Caa A x lo,p∈F):Qx E A' T x lo hi d=Qx E A T x lo hi d:=by
 unfold Qx;rw[Al hA hx];split
 ·rename_i q v1 v2 hs
  have hst:∃ t,x = .tmp t∧(get A t).2 = .one (.two q v1 v2):=by
   cases x with
   |tmp t=>
    refine⟨t,rfl,?_⟩;have h2:(bif Nat.blt t E.nt then some (get A t).2 else none)=some (.one (.two q v1 v2)):=hs;cases hb:Nat.blt t E.nt
    ·rw[hb]at h2;cases h2
    rw[hb,cond_true,Vc]at h2;exact h2
   |const v=>
    exfalso
    have key:∀ z,opT E T A (.const v)=some z→(∃ e r,z = .one (.own e r []))∨∃ u,z = .one (.sc u):=by
     intro z hz;unfold opT at hz;split at hz
     ·rename_i heq;cases heq
     ·split at hz
      ·cases hz;exact .inl ⟨_,_,rfl⟩
      ·cases hz
     ·revert hz
      generalize X5 _=bb
      cases bb<;>intro hz<;>cases hz
      exact .inr ⟨_,rfl⟩
     ·rename_i heq;cases heq
     ·cases hz
    rcases key _ hs with⟨_,_,h⟩|⟨_,h⟩<;>cases h
   |func f=>cases hs
   |global g=>cases hs
  obtain⟨t,rfl,ht⟩:=hst
  cases lo with
  |none=>
   cases hi with
   |none=>rfl
   |some y=>
    have hq:q∈F:=htw q (by simp[Caa,ht]);simp only[hA q hq,Fe hA hhi]
  |some y=>
   cases hi with
   |some _=>rfl
   |none=>
    have hq:q+1∈F:=htw (q+1) (by simp[Caa,ht]);simp only[hA (q+1) hq,Fe hA hlo]
 ·rfl
def Fwa {T:TypeId} {x:Operand} {lo hi:Option Operand} {d:Nat} (ho:o.op = .slice T x lo hi none) (hod:o.dst=some d) (hx:RX A F x) (hlo:∀ y,lo=some y→RX A F y) (hhi:∀ y,hi=some y→RX A F y) (htw:∀ p∈Caa A x lo,p∈F) (h:Ai E o A Kc=some r):Loc E o A F Kc r:=by
 unfold Ai at h;rw[ho,hod]at h;simp only at h;split at h
 ·rename_i q hpc;obtain⟨hq,h⟩:=cs h;refine⟨_,h,λ A' hA R' K'=>?_⟩;unfold Ai;rw[ho,hod];simp only[Hm hA hx hlo hhi htw,hpc,hq,cond_true]
 rename_i hpc;split at h
 ·rename_i s l u hs hl hu;obtain⟨hq,h⟩:=cs h;obtain⟨h1,h2⟩:=It h;refine⟨_,h1,λ A' hA R' K'=>?_⟩;unfold Ai;rw[ho,hod];simp only[Hm hA hx hlo hhi htw,hpc,Al hA hx,Fe hA hlo,Fe hA hhi,hs,hl,hu,hq,cond_true];exact h2 _
 ·rename_i y l u hne hs hl hu;have hal:=(Fi hx hs).al;split at h
  ·rename_i e0 r0 xs0 e r' xs hsn;obtain⟨hq,h⟩:=cs h;split at h
   ·obtain⟨h1,h2⟩:=It h;refine⟨_,h1,λ A' hA R' K'=>?_⟩;unfold Ai;rw[ho,hod];simp only[Hm hA hx hlo hhi htw,hpc,Al hA hx,Fe hA hlo,Fe hA hhi,hs,hl,hu,Dv hA hal,hsn,hq,cond_true];exact h2 _
   ·obtain⟨h1,h2⟩:=It h;refine⟨_,h1,λ A' hA R' K'=>?_⟩;unfold Ai;rw[ho,hod];simp only[Hm hA hx hlo hhi htw,hpc,Al hA hx,Fe hA hlo,Fe hA hhi,hs,hl,hu,Dv hA hal,hsn,hq,cond_true];exact h2 _
  ·rename_i p v e r' xs hsn;have hp:p∈F:=Fi hx hs;obtain⟨hq,h⟩:=cs h
   cases hmv:E.mv d with
   |true=>
    rw[hmv,cond_true]at h;split at h
    ·obtain⟨h1,h2⟩:=It h;refine⟨_,h1,λ A' hA R' K'=>?_⟩;unfold Ai;rw[ho,hod];simp only[Hm hA hx hlo hhi htw,hpc,Al hA hx,Fe hA hlo,Fe hA hhi,hs,hl,hu,Dv hA hal,hsn,hq,hmv,cond_true];exact h2 _
    ·cases h
   |false=>
    rw[hmv,cond_false]at h
    cases hno:Hh r' with
    |true=>
     rw[hno,cond_true]at h;obtain⟨h1,h2⟩:=It h;refine⟨_,h1,λ A' hA R' K'=>?_⟩;unfold Ai;rw[ho,hod];simp only[Hm hA hx hlo hhi htw,hpc,Al hA hx,Fe hA hlo,Fe hA hhi,hs,hl,hu,Dv hA hal,hsn,hq,hmv,hno,cond_true,cond_false,Y4 hA hal];exact h2 _
    |false=>
     rw[hno,cond_false]at h;obtain⟨hao,h⟩:=cs h;obtain⟨h1,h2⟩:=It h;refine⟨_,h1,λ A' hA R' K'=>?_⟩;unfold Ai;rw[ho,hod];simp only[Hm hA hx hlo hhi htw,hpc,Al hA hx,Fe hA hlo,Fe hA hhi,hs,hl,hu,Dv hA hal,hsn,hq,hmv,hno,hao,cond_true,cond_false];exact h2 _
  ·rename_i p v pi e r' xs;have hp:p∈F:=Fi hx hs;obtain⟨hq,h⟩:=cs h;obtain⟨h1,h2⟩:=It h;refine⟨_,h1,λ A' hA R' K'=>?_⟩;unfold Ai;rw[ho,hod];simp only[Hm hA hx hlo hhi htw,hpc,Al hA hx,Fe hA hlo,Fe hA hhi,hs,hl,hu,hA p hp,hq,cond_true];exact h2 _
  ·rename_i e r' xs hnda hsn;obtain⟨hq,h⟩:=cs h;obtain⟨h1,h2⟩:=It h;refine⟨_,h1,λ A' hA R' K'=>?_⟩;unfold Ai;rw[ho,hod];simp only[Hm hA hx hlo hhi htw,hpc,Al hA hx,Fe hA hlo,Fe hA hhi,hs,hl,hu,Dv hA hal,hsn,hq,cond_true];exact h2 _
  ·cases h
 ·cases h
def Uy {A:Ab} {y:Lf}:∀ u∈On A y,Kl u:=by
 intro u hu;unfold On at hu;split at hu
 ·rename_i p v;split at hu
  ·rename_i n e r xs hg;cases hb:Nat.beq n v
   ·rw[hb]at hu;simp at hu
   rw[hb]at hu;simp only[cond_true,Vz]at hu;subst hu;exact .inr ⟨e,r,xs,rfl⟩
  ·simp at hu
 ·simp at hu
def Rd {A:Ab}:∀ {l:List Lf},∀ u∈H7 A l,Kl u
 |[],u,hu=>by simp[H7]at hu
 |y::l,u,hu=>by
  unfold H7 at hu;rcases Vo.1 hu with hu|hu
  ·exact Uy u hu
  ·exact Rd u hu
def Q0 {x:Operand} {s:Sv}:∀ u∈gone x s,Kl u:=by
 intro u hu;unfold gone at hu;split at hu
 ·rename_i t;cases hb:Ix s
  ·rw[hb]at hu;simp at hu
  rw[hb]at hu;simp only[cond_true,Vz]at hu;subst hu;exact .inl rfl
 ·simp at hu
def Fxa {y:Lf} {x:Operand}:∀ u∈Qv y x,Kl u:=by
 intro u hu;unfold Qv at hu;split at hu
 ·simp only[Vz]at hu;subst hu;exact .inl rfl
 ·simp only[Vz]at hu;subst hu;exact .inl rfl
 ·simp at hu
def Fya {A:Ab} {l:List Lf} {x:Operand} {s:Sv}:∀ u∈H7 A l++gone x s,Kl u:=λ u hu=>(Vo.1 hu).elim (Rd u) (Q0 u)
def M0:∀ {l:List Lf} {A:Ab} {m:List Lf} {us:List Up},Hi A l=some (m,us)→∀ u∈us,Kl u
 |[],A,m,us,h=>by
  simp only[Hi,Vc,Vu]at h;obtain⟨_,rfl⟩:=h;simp
 |x::l,A,m,us,h=>by
  by_cases hal:∃ p v,x = .al p v
  ·obtain⟨p,v,rfl⟩:=hal;simp only[Hi]at h;split at h
   ·split at h
    ·rename_i m' us' hrec;cases h;intro u hu;rcases Vk.1 hu with rfl|hu
     ·exact .inl rfl
     ·exact M0 hrec u hu
    ·cases h
   ·cases h
  ·obtain⟨m',rfl,h'⟩:=Ly (λ p v e=>hal ⟨p,v,e⟩) h;exact M0 h'
def Fza {A:Ab} {x:Operand} {s:Sv} {m:List Lf} {us:List Up} (h:Dia A x s=some (m,us)):∀ u∈us,Kl u:=by
 unfold Dia at h;split at h
 ·rename_i m0 vs0 ht;cases h;exact λ u hu=>(Vo.1 hu).elim (Q0 u) (M0 ht u)
 ·cases h
def Q1 {T:TI}:∀ {ps:List (Nat×Operand)} {A A':Ab} {l:List Lf} {us:List Up},Ag A A' F→(∀ p∈ps,RX A F p.2)→Iy E A' T l us ps=Iy E A T l us ps
 |[],_,_,_,_,_,_=>rfl
 |(i,x)::ps,A,A',l,us,hA,hp=>by
  have hx:RX A F x:=hp (i,x) (by simp);have hps:∀ p∈ps,RX A F p.2:=λ p hm=>hp p (Vd _ hm);have e0:∀ l us,Iy E A' T l us ps=Iy E A T l us ps:=λ l us=>Q1 hA hps;unfold Iy
  cases hn:nth T.fo i with
  |none=>rfl
  |some o=>
   obtain⟨off,z,ag⟩:=o;simp only[Al hA hx]
   have gen:∀ {s:Sv},opT E 0 A x=some s→(let m:=(parts s).map (Hn A');bif A3 m&&Nat.beq m.length z&&Nat.ble (off+z) l.length then Iy E (ups A' (H7 A' (parts s)++gone x s)) T (setAll l off m) (us++(H7 A' (parts s)++gone x s)) ps else none) =
     (let m:=(parts s).map (Hn A);bif A3 m&&Nat.beq m.length z&&Nat.ble (off+z) l.length then Iy E (ups A (H7 A (parts s)++gone x s)) T (setAll l off m) (us++(H7 A (parts s)++gone x s)) ps else none):=by
    intro s hs;have hal:=RL.als (Km hx hs);simp only[Mt hA hal,La hA hal];rw[Q1 (hA.ups (U:=H7 A (parts s)++gone x s)) (λ p hm=>(hps p hm).ups Fya)]
   split
   ·cases Nat.beq z 1
    ·rfl
    simp only[cond_true];split
    ·exact e0 _ _
    ·rfl
   ·cases hs:opT E 0 A x with
    |none=>rfl
    |some s=>exact gen hs
def G0a {T:TypeId} {ps:Array (Nat×Operand)} {d:Nat} (ho:o.op = .build T ps) (hod:o.dst=some d) (hp:∀ p∈ps.toList,RX A F p.2) (h:Ai E o A Kc=some r):Loc E o A F Kc r:=by
 unfold Ai at h;rw[ho,hod]at h;simp only at h;split at h
 ·rename_i ti hT;split at h
  ·rename_i l us hb;obtain⟨ha,h⟩:=cs h;refine⟨_,h,λ A' hA R' K'=>?_⟩;unfold Ai;rw[ho,hod];simp only[hT,Q1 hA hp,hb,ha,cond_true]
  ·cases h
 ·cases h
def B9a {e:TypeId} {t:Ty}:∀ {ps:List (Nat×Operand)} {A A':Ab} {i:Nat},Ag A A' F→(∀ p∈ps,RX A F p.2)→Tp E A' e t i ps=Tp E A e t i ps
 |[],_,_,_,_,_=>rfl
 |(j,x)::ps,A,A',i,hA,hp=>by
  have hx:RX A F x:=hp (j,x) (by simp);have hps:∀ p∈ps,RX A F p.2:=λ p hm=>hp p (Vd _ hm);unfold Tp;cases Nat.beq i j
  ·rfl
  simp only[cond_true,Al hA hx]
  cases hs:opT E e A x with
  |none=>rfl
  |some s=>
   have hal:=RL.als (Km hx hs);simp only[Mt hA hal,B7a hA hal,La hA hal];rw[B9a (hA.ups (U:=H7 A (parts s)++gone x s)) (λ p hm=>(hps p hm).ups Fya)]
def Baa {e:TypeId} {t:Ty}:∀ {ps:List (Nat×Operand)} {A A':Ab} {i:Nat},Ag A A' F→(∀ p∈ps,RX A F p.2)→Tq E A' e t i ps=Tq E A e t i ps
 |[],_,_,_,_,_=>rfl
 |(j,x)::ps,A,A',i,hA,hp=>by
  have hx:RX A F x:=hp (j,x) (by simp);have hps:∀ p∈ps,RX A F p.2:=λ p hm=>hp p (Vd _ hm);unfold Tq;cases Nat.beq i j
  ·rfl
  simp only[cond_true,Al hA hx]
  cases hs:opT E e A x with
  |none=>rfl
  |some s=>
   have hal:=RL.als (Km hx hs);simp only[Foa hA hal]
   cases hgv:Dia A x s with
   |none=>rfl
   |some q=>
    obtain⟨m,us⟩:=q;simp only;rw[Baa (hA.ups (U:=us)) (λ p hm=>(hps p hm).ups (Fza hgv))]
def Qs {T:TypeId} {n:Nat} {ps:Array (Nat×Operand)} {d:Nat} (ho:o.op = .buildSlice T n ps) (hod:o.dst=some d) (hp:∀ p∈ps.toList,RX A F p.2) (h:Ai E o A Kc=some r):Loc E o A F Kc r:=by
 unfold Ai at h;rw[ho,hod]at h;simp only at h;split at h
 ·rename_i e r' b f hT;obtain⟨hb,h⟩:=cs h;split at h
  ·rename_i hh;obtain⟨hno,h⟩:=cs h;split at h
   ·rename_i ys us hr;refine⟨_,h,λ A' hA R' K'=>?_⟩;unfold Ai;rw[ho,hod];simp only[hT,hb,hh,hno,cond_true,B9a hA hp,hr]
   ·cases h
  ·rename_i r2 hh;obtain⟨hb2,h⟩:=cs h;split at h
   ·rename_i ys us hr;refine⟨_,h,λ A' hA R' K'=>?_⟩;unfold Ai;rw[ho,hod];simp only[hT,hb,hh,hb2,cond_true,Baa hA hp,hr]
   ·cases h
 ·cases h
def T3 {T:TypeId} {x y:Operand} {d:Nat} (ho:o.op = .makeSlice T x y) (hod:o.dst=some d) (hx:RX A F x) (hy:RX A F y) (h:Ai E o A Kc=some r):Loc E o A F Kc r:=by
 unfold Ai at h;rw[ho,hod]at h;simp only at h;split at h
 ·rename_i e r' b f n m hT hs hm;split at h
  ·rename_i te he;obtain⟨hb,h⟩:=cs h;obtain⟨h0,h⟩:=cs h;obtain⟨h1,h⟩:=cs h;split at h
   ·rename_i hh;refine⟨_,h,λ A' hA R' K'=>?_⟩;unfold Ai;rw[ho,hod];simp only[hT,Al hA hx,Al hA hy,hs,hm,he,hb,h0,h1,hh,cond_true]
   ·rename_i r2 hh;obtain⟨h2,h⟩:=cs h;refine⟨_,h,λ A' hA R' K'=>?_⟩;unfold Ai;rw[ho,hod];simp only[hT,Al hA hx,Al hA hy,hs,hm,he,hb,h0,h1,hh,h2,cond_true]
  ·cases h
 ·cases h
def Q2 (hA:Ag A A' F):∀ {xs:List Operand} {Ts:List TypeId},(∀ x∈xs,RX A F x)→N5 E Ts A' xs=N5 E Ts A xs
 |[],_,_=>by simp only[N5]
 |x::xs,[],_=>by simp only[N5]
 |x::xs,T::Ts,hx=>by
  unfold N5;simp only[Al hA (hx x (by simp)),Q2 hA (xs:=xs) (Ts:=Ts) (λ y hy=>hx y (Vd _ hy))]
def Y7:∀ {xs:List Operand} {Ts:List TypeId} {ss:List Sv},(∀ x∈xs,RX A F x)→N5 E Ts A xs=some ss→∀ s∈ss,∀ y∈parts s,RL A F y
 |[],_,ss,_,h=>by
  simp only[N5,Vc]at h;subst h;intro s hs;simp at hs
 |x::xs,[],ss,_,h=>by simp[N5]at h
 |x::xs,T::Ts,ss,hx,h=>by
  simp only[N5]at h;split at h
  ·rename_i s hs;split at h
   ·rename_i ss' hss;cases h;intro s' hs' y hy;rcases Vk.1 hs' with rfl|hs'
    ·exact Km (hx x (by simp)) hs y hy
    ·exact Y7 (λ y hy=>hx y (Vd _ hy)) hss s' hs' y hy
   ·cases h
  ·cases h
def Mca {c:Call} (ho:o.op = .call c) (hc:c.callee = .builtin .len) (hx:∀ x∈c.args.toList,RX A F x) (h:Ai E o A Kc=some r):Loc E o A F Kc r:=by
 unfold Ai at h;rw[ho]at h;simp only[hc]at h;split at h
 ·rename_i T x d hT hxs hod;have hx0:RX A F x:=hx x (by rw[hxs];simp);split at h
  ·rename_i y hs;have hal:=(Fi hx0 hs).al;split at h
   ·rename_i s hse;obtain⟨hb,h⟩:=cs h;refine⟨_,h,λ A' hA R' K'=>?_⟩;unfold Ai;rw[ho,hod];simp only[hc,hT,hxs,Al hA hx0,hs,Dv hA hal,hse,hb,cond_true]
   ·rename_i p v pi e r' xs hse
    have hy:y = .da p v pi e r' xs:=by
     cases y<;>first|exact hse|skip
     simp only[H9]at hse;split at hse
     ·rename_i n _ _ _ _
      cases hbb:Nat.beq n _<;>rw[hbb]at hse<;>simp at hse
     ·rename_i n _ _ _ _
      cases hbb:Nat.beq n _<;>rw[hbb]at hse<;>simp at hse
     ·cases hse
    have hp:p∈F:=by have:=Fi hx0 hs;rw[hy]at this;exact this
    obtain⟨hb,h⟩:=cs h;refine⟨_,h,λ A' hA R' K'=>?_⟩;unfold Ai;rw[ho,hod];simp only[hc,hT,hxs,Al hA hx0,hs,Dv hA hal,hse,hA p hp,hb,cond_true]
   ·rename_i e r' xs hse;obtain⟨hb,h⟩:=cs h;refine⟨_,h,λ A' hA R' K'=>?_⟩;unfold Ai;rw[ho,hod];simp only[hc,hT,hxs,Al hA hx0,hs,Dv hA hal,hse,hb,cond_true]
   ·rename_i e r' xs hse;obtain⟨hb,h⟩:=cs h;refine⟨_,h,λ A' hA R' K'=>?_⟩;unfold Ai;rw[ho,hod];simp only[hc,hT,hxs,Al hA hx0,hs,Dv hA hal,hse,hb,cond_true]
   ·cases h
  ·cases h
 ·cases h
def Mda {c:Call} (ho:o.op = .call c) (hc:c.callee = .builtin .min) (hx:∀ x∈c.args.toList,RX A F x) (h:Ai E o A Kc=some r):Loc E o A F Kc r:=by
 unfold Ai at h;rw[ho]at h;simp only[hc]at h;split at h
 ·rename_i k n l d hs hod;obtain⟨v,h1,h2⟩:=Rc h;refine⟨_,h1,λ A' hA R' K'=>?_⟩;unfold Ai;rw[ho,hod];simp only[hc,Q2 hA hx,hs];exact h2 _
 ·cases h
def Mea {c:Call} (ho:o.op = .call c) (hc:c.callee = .builtin .max) (hx:∀ x∈c.args.toList,RX A F x) (h:Ai E o A Kc=some r):Loc E o A F Kc r:=by
 unfold Ai at h;rw[ho]at h;simp only[hc]at h;split at h
 ·rename_i k n l d hs hod;obtain⟨v,h1,h2⟩:=Rc h;refine⟨_,h1,λ A' hA R' K'=>?_⟩;unfold Ai;rw[ho,hod];simp only[hc,Q2 hA hx,hs];exact h2 _
 ·cases h
def Cxa {c:Call} (ho:o.op = .call c) (hc:c.callee = .builtin .append) (hx:∀ x∈c.args.toList,RX A F x) (h:Ai E o A Kc=some r):Loc E o A F Kc r:=by
 unfold Ai at h;rw[ho]at h;simp only[hc]at h;split at h
 ·rename_i T T' x y d hT hxs hod;have hx0:RX A F x:=hx x (by rw[hxs];simp);have hy0:RX A F y:=hx y (by rw[hxs];simp);split at h
  ·rename_i u w hsu hsw;have hau:=(Fi hx0 hsu).al;have hrw:=Fi hy0 hsw;split at h
   ·rename_i e r' xs hsu';split at h
    ·rename_i r2 hh;have hy1:RX (ups A (Qv u x)) F y:=hy0.ups Fxa;split at h
     ·rename_i w2 hsw2;have haw2:=(Fi hy1 hsw2).al;split at h
      ·rename_i e' r3 ys xs2 te hsn hcx hte;split at h
       ·rename_i ys2 hcy;obtain⟨hq,h⟩:=cs h;obtain⟨hq2,h⟩:=cs h;refine⟨_,h,λ A' hA R' K'=>?_⟩;have hA1:=hA.ups (U:=Qv u x);unfold Ai;rw[ho,hod];simp only[hc,hT,hxs,Al hA hx0,Al hA hy0,hsu,hsw,Dv hA hau,hsu',hh,Al hA1 hy1,hsw2,Dv hA1 haw2,hsn,hcx,hte,hcy,hq,hq2,cond_true]
       ·cases h
      ·rename_i hsn hcx hte;split at h
       ·rename_i ys2 hcy;obtain⟨hq,h⟩:=cs h;obtain⟨hq2,h⟩:=cs h;refine⟨_,h,λ A' hA R' K'=>?_⟩;have hA1:=hA.ups (U:=Qv u x);unfold Ai;rw[ho,hod];simp only[hc,hT,hxs,Al hA hx0,Al hA hy0,hsu,hsw,Dv hA hau,hsu',hh,Al hA1 hy1,hsw2,Dv hA1 haw2,hsn,hcx,hte,hcy,hq,hq2,cond_true]
       ·cases h
      ·cases h
     ·cases h
    ·rename_i hh
     cases hno:Hh r' with
     |false=>rw[hno]at h;simp at h
     |true=>
     rw[hno,cond_true]at h;split at h
     ·rename_i e' r'' ys hasl;split at h
      ·rename_i ys' te hcast hte;obtain⟨hq,h⟩:=cs h;obtain⟨hq2,h⟩:=cs h;refine⟨_,h,λ A' hA R' K'=>?_⟩;unfold Ai;rw[ho,hod];simp only[hc,hT,hxs,Al hA hx0,Al hA hy0,hsu,hsw,Dv hA hau,B6a hA hrw,hsu',hh,hno,hasl,hcast,hte,hq,hq2,cond_true]
      ·cases h
     ·rename_i hasl;split at h
      ·rename_i s;split at h
       ·rename_i ys' f hcast hte;obtain⟨hq,h⟩:=cs h;refine⟨_,h,λ A' hA R' K'=>?_⟩;unfold Ai;rw[ho,hod];simp only[hc,hT,hxs,Al hA hx0,Al hA hy0,hsu,hsw,Dv hA hau,B6a hA hrw,hsu',hh,hno,hasl,hcast,hte,hq,cond_true]
       ·cases h
      ·cases h
   ·cases h
  ·cases h
 ·cases h
def Uz (hA:Ag A A' F):∀ {ps:List Par} {ss:List Sv},(∀ s∈ss,∀ y∈parts s,RL A F y)→K8 A' ps ss=K8 A ps ss
 |[],[],_=>rfl
 |[],_::_,_=>rfl
 |p::_,[],_=>by cases p<;>rfl
 |.ptr _ _::_,_::_,_=>rfl
 |.hid _ _::_,_::_,_=>rfl
 |.rd _::_,_::_,_=>rfl
 |.fn _ _::_,_::_,_=>rfl
 |.vw _ _::_,_::_,_=>rfl
 |.io _ _::_,_::_,_=>rfl
 |.val ag t::ps,s::ss,hs=>by
  unfold K8;rw[J0a hA (hs s (by simp)),Uz hA (λ s' hs'=>hs s' (Vd _ hs'))]
def Cya {y:Lf}:∀ u∈X7 y,Kl u:=by
 intro u hu;unfold X7 at hu;split at hu
 ·simp only[Vz]at hu;subst hu;exact .inl rfl
 ·simp at hu
def Jo:∀ {ts:List Ty} {l:List Lf} {A:Ab} {m:List Lf} {us:List Up},D5 A ts l=some (m,us)→∀ u∈us,Kl u
 |[],[],A,m,us,h=>by
  simp only[D5,Vc,Vu]at h;obtain⟨_,rfl⟩:=h;simp
 |[],_::_,A,m,us,h=>by simp[D5]at h
 |t::ts,[],A,m,us,h=>by cases t<;>simp[D5]at h
 |t::ts,x::l,A,m,us,h=>by
  cases t with
  |ow e r=>
   simp only[D5]at h;split at h
   ·split at h
    ·rename_i hr;cases h;exact λ u hu=>(Vo.1 hu).elim (Cya u) (Jo hr u)
    ·cases h
   ·cases h
  |_=>
   simp only[D5]at h;split at h
   ·rename_i hr;cases h;exact λ u hu=>(Vo.1 hu).elim (Uy u) (Jo hr u)
   ·cases h
def J7a {x:Operand} {s:Sv} {t:Ty} (hA:Ag A A' F) (hal:∀ y∈parts s,AL F y):M8 A' x s t=M8 A x s t:=by
 unfold M8 N7;rw[Ko (hA.ups (U:=gone x s)) hal]
def Cza {x:Operand} {s:Sv} {t:Ty} {m:List Lf} {us:List Up} (h:M8 A x s t=some (m,us)):∀ u∈us,Kl u:=by
 unfold M8 N7 at h;split at h
 ·rename_i m0 vs0 ht;cases hst:A3 m0
  ·rw[hst]at h;simp at h
  rw[hst]at h;simp only[cond_true,Vc,Vu]at h;obtain⟨_,rfl⟩:=h;exact λ u hu=>(Vo.1 hu).elim (Q0 u) (Jo ht u)
 ·cases h
def Bba {b v:Nat} {t t':Ty} (hA:Ag A A' F) (hb:RB A F b 0):Lu A' b v t t'=Lu A b v t t':=by
 obtain⟨h1,h2⟩:=hb;unfold Lu;rw[hA _ h1];split
 ·rename_i n m hg
  have hcell:∀ i,i<m→C b (0+i)∈F∧∀ p v,(get A (C b (0+i))).2 = .one (.al p v)→p∈F:=λ i hi=>by
   rw[Wb];exact h2 m (by rw[hg]) i (Wf _) hi
  have hac:=Rb hcell;have e1:cellsOf A' b 0 m=cellsOf A b 0 m:=Nr hA (λ i hi=>(hcell i hi).1);rw[e1,Ko hA hac]
 ·rfl
def Re {b v:Nat} {t t':Ty} {m:List Lf} {us:List Up} (h:Lu A b v t t'=some (m,us)):∀ u∈us,Kl u:=by
 unfold Lu at h;split at h
 ·rename_i n hd hp;obtain⟨hq,h⟩:=cs h;split at h
  ·rename_i l us0 hx;cases hst:A3 l
   ·rw[hst]at h;simp at h
   rw[hst]at h;simp only[cond_true,Vc,Vu]at h;obtain⟨_,rfl⟩:=h;exact Jo hx
  ·cases h
 ·cases h
def Q3 (hA:Ag A A' F):∀ {bs:List (Nat×Nat)},(∀ c∈bs,RB A F c.1 0)→Ij A' bs=Ij A bs
 |[],_=>rfl
 |c::bs,h=>by
  unfold Ij;rw[hA _ (h c (by simp)).1,Q3 hA (λ c hc=>h c (Vd _ hc))]
def G1a (hA:Ag A A' F) {b:Nat}:∀ {ts:List Ty} {j:Nat} {l:List Lf},(∀ y∈l,AL F y)→X8 A' b j ts l=X8 A b j ts l
 |[],_,[],_=>rfl
 |[],_,_::_,_=>rfl
 |t::ts,_,[],_=>by cases t<;>rfl
 |t::ts,j,x::l,h=>by
  have hx:=h x (by simp);have ih:=G1a hA (b:=b) (ts:=ts) (j:=j+1) (l:=l) (λ y hy=>h y (Vd _ hy))
  cases t with
  |ow e r=>
   cases x with
   |al p v=>simp only[X8,ih,Dv hA hx,hA p hx]
   |_=>rfl
  |_=>simp only[X8,ih,Dv hA hx]
def RV (A:Ab) (F:List Nat) (ss:List Sv):Prop:=∀ ys,Sv.agg ys∈ss→∀ p v,Lf.al p v∈ys→1000≤p→RB A F (p/1000-1) 0
def Rf:∀ {ys:List Lf} {b:Nat},Tk ys=some b→∃ p v,Lf.al p v∈ys∧1000≤p∧b=p/1000-1
 |[],b,h=>by simp[Tk]at h
 |y::ys,b,h=>by
  have rest:Tk ys=some b→∃ p v,Lf.al p v∈y::ys∧1000≤p∧b=p/1000-1:=λ h=>by
   obtain⟨p,v,h1,h2⟩:=Rf h;exact⟨p,v,Vd _ h1,h2⟩
  cases y with
  |al p v=>
   simp only[Tk]at h;cases hq:Nat.ble 1000 p
   ·rw[hq]at h;exact rest h
   rw[hq]at h;simp only[cond_true,Vc]at h;exact⟨p,v,by simp,Ve hq,h.symm⟩
  |_=>exact rest h
def G2a (hA:Ag A A' F):∀ {ps:List Par} {ss:List Sv},RV A F ss→Tl A' ps ss=Tl A ps ss∧∀ c∈Tl A ps ss,RB A F c.1 0
 |[],ss,_=>⟨rfl,by simp[Tl]⟩
 |p::ps,[],_=>by cases p<;>exact⟨rfl,by simp[Tl]⟩
 |p::ps,s::ss,h=>by
  obtain⟨h1,h2⟩:=G2a hA (ps:=ps) (ss:=ss) (λ ys hy=>h ys (Vd _ hy))
  cases p with
  |vw t h0=>
   cases s with
   |agg ys=>
    simp only[Tl]
    cases hb:Tk ys with
    |none=>exact⟨h1,h2⟩
    |some b=>
     obtain⟨p,v,e1,e2,rfl⟩:=Rf hb;have hrb:=h ys (by simp) p v e1 e2;refine⟨by simp only[h1,hA _ hrb.1],λ c hc=>?_⟩;rcases Vk.1 hc with rfl|hc
     ·exact hrb
     ·exact h2 c hc
   |_=>exact⟨h1,h2⟩
  |_=>cases s<;>exact⟨h1,h2⟩
def Bca (hA:Ag A A' F) {cb hb:List (Nat×Nat)} {nv:Nat} {x:Operand} {p:Par} {s:Sv} (hhb:∀ c∈hb,RB A F c.1 0) (hs:∀ y∈parts s,RL A F y):Oe A' cb hb nv x p s=Oe A cb hb nv x p s∧∀ l u b,Oe A cb hb nv x p s=some (l,u,b)→∀ v∈u,Kl v:=by
 have hal:=RL.als hs;constructor
 ·unfold Oe;split
  ·rename_i t h0 ys
   cases hn:nth hb (h0-nv) with
   |none=>rfl
   |some c=>
    rw[Fy]at hn;simp only[hA _ (hhb c (Zt hn)).1,G1a hA (show ∀ y∈ys,AL F y from hal)]
  ·simp only[J7a hA hal]
  ·rename_i b v;rw[Bba hA (show RB A F b 0 from hs (.bp b v 0) (by simp[parts]))]
  ·rename_i b v;rw[Bba hA (show RB A F b 0 from hs (.bp b v 0) (by simp[parts]))]
  ·rfl
  ·rename_i F0 m F' bs;rw[Q3 hA (show ∀ c∈bs,RB A F c.1 0 from hs (.fn F' bs) (by simp[parts]))]
  ·rfl
 ·intro l u b h v hv;unfold Oe at h;split at h
  ·rename_i t h0 ys;split at h
   ·split at h
    ·rename_i n m _;generalize (Nat.ble nv h0&&Nat.beq n _&&Nat.beq m t.sz)=bb at h;cases bb
     ·simp at h
     rw[cond_true]at h;split at h
     ·cases h;simp at hv
     ·cases h
    ·cases h
   ·cases h
  ·rename_i ag t;obtain⟨hf,h⟩:=cs h;split at h
   ·rename_i hgive;cases h;exact Cza hgive v hv
   ·cases h
  ·split at h
   ·rename_i hgive;cases h;exact Re hgive v hv
   ·cases h
  ·split at h
   ·rename_i hgive;cases h;exact Re hgive v hv
   ·cases h
  ·rename_i t r y;cases hf:(decide (shp r=shp t)&&Hh t)
   ·rw[hf]at h;simp at h
   rw[hf]at h;simp only[cond_true,Vc,Vu]at h;obtain⟨_,rfl,_⟩:=h;simp at hv
  ·rename_i F0 m F' bs;cases hf:(Nat.beq F0 F'&&Nat.beq m bs.length&&Kba bs cb&&Ij A bs)
   ·rw[hf]at h;simp at h
   rw[hf]at h;simp only[cond_true,Vc,Vu]at h;obtain⟨_,rfl,_⟩:=h;simp at hv
  ·cases h
def Q4 {cb hb:List (Nat×Nat)} {nv:Nat}:∀ {ps:List Par} {xs:List (TypeId×Operand)} {hs:List (Nat×Nat)} {A A':Ab},Ag A A' F→(∀ x∈xs,RX A F x.2)→(∀ h∈hs,RB A F h.1 0)→(∀ c∈hb,RB A F c.1 0)→I4 E cb hb nv A' xs hs ps=I4 E cb hb nv A xs hs ps
 |[],[],[],_,_,_,_,_,_=>rfl
 |[],[],_::_,_,_,_,_,_,_=>rfl
 |[],_::_,_,_,_,_,_,_,_=>rfl
 |_::_,[],[],_,_,_,_,_,_=>rfl
 |p::ps,x::xs,hs,A,A',hA,hx,hb',hhb=>by
  have hx0:RX A F x.2:=hx x (by simp);unfold I4;rw[Al hA hx0]
  cases hs:opT E x.1 A x.2 with
  |none=>rfl
  |some s=>
   simp only;obtain⟨h1,h2⟩:=Bca hA (cb:=cb) (hb:=hb) (nv:=nv) (x:=x.2) (p:=p) hhb (Km hx0 hs);rw[h1]
   cases ha:Oe A cb hb nv x.2 p s with
   |none=>rfl
   |some q=>
    obtain⟨l,u,b⟩:=q;simp only;rw[Q4 (hA.ups (U:=u)) (λ y hy=>(hx y (Vd _ hy)).ups (h2 l u b ha)) (λ c hc=>(hb' c hc).ups (h2 l u b ha)) (λ c hc=>(hhb c hc).ups (h2 l u b ha))]
 |p::ps,[],h::hs,A,A',hA,hx,hb',hhb=>by
  unfold I4
  obtain⟨h1,h2⟩:=Bca hA (cb:=cb) (hb:=hb) (nv:=nv) (x := .func 0) (p:=p) (s := .one (.bp h.1 h.2 0)) (F:=F) hhb (λ y hy=>by
   simp only[parts,Vz]at hy;subst hy
   exact hb' h (by simp))
  rw[h1]
  cases ha:Oe A cb hb nv (.func 0) p (.one (.bp h.1 h.2 0)) with
  |none=>rfl
  |some q=>
   obtain⟨l,u,b⟩:=q;simp only;rw[Q4 (hA.ups (U:=u)) (λ y hy=>by simp at hy) (λ c hc=>(hb' c (Vd _ hc)).ups (h2 l u b ha)) (λ c hc=>(hhb c hc).ups (h2 l u b ha))]
def Y8:∀ {ss:List Sv},(∀ s∈ss,∀ y∈parts s,RL A F y)→∀ c∈Dpa ss,RB A F c.1 0
 |[],_,c,hc=>by simp[Dpa]at hc
 |s::ss,h,c,hc=>by
  have h2:=λ s' hs'=>h s' (Vd _ hs')
  cases s with
  |one z=>
   cases z with
   |fn F' bs=>exact(show ∀ c∈bs,RB A F c.1 0 from h (.one (.fn F' bs)) (by simp) (.fn F' bs) (by simp[parts])) c hc
   |_=>exact Y8 h2 c hc
  |_=>exact Y8 h2 c hc
def Bda (hA:Ag A A' F):∀ {xs:List Operand},(∀ x∈xs,RX A F x)→Tr E A' xs=Tr E A xs
 |[],_=>rfl
 |x::xs,h=>by
  unfold Tr;rw[Al hA (h x (by simp)),Bda hA (λ y hy=>h y (Vd _ hy))]
def Bea {rs:List (RK×Ty)} {ls:List (List Lf)} {d:Option Nat} (hA:∀ d',d=some d'→get A' (H d')=get A (H d')):Lk A' rs ls d=Lk A rs ls d:=by
 unfold Lk
 split<;>first|rfl|skip
 ·rename_i d _ _ _ _ _;unfold Dqa;rw[hA _ rfl]
def V0 {en:Ent} {xs:List (TypeId×Operand)} {cs:List (Nat×Nat)} {ss:List Sv} {d:Option Nat} (hd:∀ d',d=some d'→H d'∈F) (hx:∀ x∈xs,RX A F x.2) (hcs:∀ c∈cs,RB A F c.1 0) (hrl:∀ s∈ss,∀ y∈parts s,RL A F y) (hrv:RV A F ss) (h:Rv E A en xs cs ss d Kc=some r):
  ∃ U,Kc U=some r∧∀ A',Ag A A' F→∀ {R':Type} (K':List Up→Option R'),Rv E A' en xs cs ss d K'=K' U:=by
 unfold Rv at h;rw[csi]at h;obtain⟨hnv,h⟩:=h
 cases hb:(K7 en.ps&&Qk en.rs&&cs.isEmpty) with
 |true=>
  rw[hb,cond_true]at h;split at h
  ·cases h
  ·rename_i ls hl;split at h
   ·cases h
   ·rename_i x hm
    cases hr:en.run x with
    |none=>rw[hr]at h;simp at h
    |some y=>
     rw[hr]at h;simp only[Vv]at h;split at h
     ·cases h
     ·rename_i rs hrs;refine⟨_,h,λ A' hA R' K'=>?_⟩;unfold Rv;simp only[hnv,hb,cond_true,Uz hA hrl,hl,hm,hr,Vv,Bea (A:=A) (A':=A') (λ d' hd'=>hA _ (hd d' hd')),hrs]
 |false=>
  rw[hb,cond_false]at h;rw[csi]at h;obtain⟨hb2,h⟩:=h;split at h
  ·cases h
  ·rename_i ls us bs hl;rw[csi]at h;obtain⟨hnd,h⟩:=h;split at h
   ·cases h
   ·rename_i x hm
    cases hr:en.run x with
    |none=>rw[hr]at h;simp at h
    |some y=>
     rw[hr]at h;simp only[Vv]at h;split at h
     ·cases h
     ·rename_i ws hws;split at h
      ·cases h
      ·rename_i rs hrs;refine⟨_,h,λ A' hA R' K'=>?_⟩;have hA2:=(hA.ups (U:=us)).ups (U:=ws);obtain⟨v1,v2⟩:=G2a hA (ps:=en.ps) hrv;have hhb:∀ c∈Dpa ss++Tl A en.ps ss,RB A F c.1 0:=λ c hc=>(Vo.1 hc).elim (Y8 hrl c) (v2 c);have hargs:=Q4 (E:=E) (cb:=Dpa ss++Tl A en.ps ss) (hb:=Dpa ss++Tl A en.ps ss) (nv:=en.nv) (ps:=en.ps) hA hx (hs:=cs++(Dpa ss++Tl A en.ps ss)) (λ c hc=>(Vo.1 hc).elim (hcs c) (hhb c)) hhb;unfold Rv;simp only[v1,hnv,hb,hb2,hnd,cond_true,cond_false,hargs,hl,hm,hr,Vv,hws,Bea (A:=ups (ups A us) ws) (A':=ups (ups A' us) ws) (λ d' hd'=>hA2 _ (hd d' hd')),hrs]
def Y9:∀ {xs:List Operand} {Ts:List TypeId} {ss:List Sv},(∀ t,.tmp t∈xs→RV A F [(get A t).2])→N5 E Ts A xs=some ss→RV A F ss
 |[],_,ss,_,h=>by
  simp only[N5,Vc]at h;subst h;intro ys hy;simp at hy
 |x::xs,[],ss,_,h=>by simp[N5]at h
 |x::xs,T::Ts,ss,hx,h=>by
  simp only[N5]at h;split at h
  ·rename_i s hs;split at h
   ·rename_i ss' hss;cases h;intro ys hy p v hp h1;rcases Vk.1 hy with hy|hy
    ·subst hy
     cases x with
     |tmp t=>
      have h2:(bif Nat.blt t E.nt then some (get A t).2 else none)=some (.agg ys):=hs;cases hb:Nat.blt t E.nt
      ·rw[hb]at h2;simp at h2
      rw[hb]at h2;simp only[cond_true,Vc]at h2;exact hx t (by simp) ys (by rw[h2];simp) p v hp h1
     |const w=>
      exfalso;unfold opT at hs;split at hs
      ·rename_i e;cases e
      ·split at hs<;>cases hs
      ·rename_i w' _ _
       cases hq:X5 w'<;>simp[hq]at hs
      ·rename_i e;cases e
      ·cases hs
     |func f=>simp[opT]at hs
     |global g=>simp[opT]at hs
    ·exact Y9 (λ t ht=>hx t (Vd _ ht)) hss ys hy p v hp h1
   ·cases h
  ·cases h
def G3a:∀ {ys:List Lf},(∀ p∈Naa A ys,p∈F)→∀ p v,Lf.al p v∈ys→1000≤p→RB A F (p/1000-1) 0
 |[],_,p,v,hm,_=>by simp at hm
 |y::ys,h,p,v,hm,hp=>by
  have rest:(∀ p∈Naa A ys,p∈F)→Lf.al p v∈ys→RB A F (p/1000-1) 0:=λ h hm=>G3a h p v hm hp
  cases y with
  |al q w=>
   simp only[Naa]at h;rcases Vk.1 hm with e|hm
   ·simp only[Lf.al.injEq]at e;obtain⟨rfl,rfl⟩:=e;rw[show Nat.ble 1000 p=true from Yn hp,cond_true]at h;exact Fla λ p hp=>h p (Vt _ hp)
   ·exact rest (λ p hp=>h p (Vi _ hp)) hm
  |_=>
   rcases Vk.1 hm with e|hm
   ·cases e
   ·exact rest h hm
def G4a:∀ {xs:List Operand},(∀ p∈Lba A xs,p∈F)→∀ t,.tmp t∈xs→RV A F [(get A t).2]
 |[],_,t,hm=>by simp at hm
 |x::xs,h,t,hm=>by
  rcases Vk.1 hm with rfl|hm
  ·intro ys hy;simp only[Vz]at hy;simp only[Lba,← hy]at h;exact G3a λ p hp=>h p (Vt _ hp)
  ·refine G4a (λ p hp=>h p ?_) t hm
   cases x<;>first|exact hp|(simp only[Lba];exact Vi _ hp)
def Kqa {Ts:List TypeId} {xs:List Operand} (hx:∀ x∈xs,RX A F x):∀ x∈Ts.zip xs,RX A F x.2:=λ x hm=>hx x.2 (List.of_mem_zip (show (x.1,x.2)∈Ts.zip xs from hm)).2
def G5a {c:Call} {f:FuncId} (ho:o.op = .call c) (hc:c.callee = .value (.func f)) (hd:∀ d,o.dst=some d→H d∈F) (hx:∀ x∈c.args.toList,RX A F x) (hv:∀ t,.tmp t∈c.args.toList→RV A F [(get A t).2]) (hno:Pfa E o=true) (h:Ai E o A Kc=some r):Loc E o A F Kc r:=by
 unfold Ai at h;rw[ho]at h;simp only[hc]at h;split at h
 ·rename_i en ss he hss
  have hni:Dra en.ps=false:=by
   unfold Pfa at hno;rw[ho]at hno;simp only[hc,he]at hno
   simpa using hno
  rw[hni,cond_false]at h;obtain⟨U,h1,h2⟩:=V0 (cs:=[]) hd (Kqa hx) (by simp) (Y7 hx hss) (Y9 hv hss) h;refine⟨U,h1,λ A' hA R' K'=>?_⟩;unfold Ai;rw[ho];simp only[hc,he,Q2 hA hx,hss,hni,cond_false];exact h2 A' hA K'
 ·cases h
def G6a {c:Call} {t:Nat} (ho:o.op = .call c) (hc:c.callee = .value (.tmp t)) (hd:∀ d,o.dst=some d→H d∈F) (ht:RX A F (.tmp t)) (hx:∀ x∈c.args.toList,RX A F x) (hv:∀ t,.tmp t∈c.args.toList→RV A F [(get A t).2]) (h:Ai E o A Kc=some r):Loc E o A F Kc r:=by
 unfold Ai at h;rw[ho]at h;simp only[hc]at h;split at h
 ·rename_i f bs hf;have hbs:∀ c∈bs,RB A F c.1 0:=Fi ht hf;split at h
  ·rename_i en ss he hss;obtain⟨hal,h⟩:=cs h;obtain⟨U,h1,h2⟩:=V0 hd (Kqa hx) hbs (Y7 hx hss) (Y9 hv hss) h;refine⟨U,h1,λ A' hA R' K'=>?_⟩;unfold Ai;rw[ho];simp only[hc,Al hA ht,hf,he,Q2 hA hx,hss,Q3 hA hbs,hal,cond_true];exact h2 A' hA K'
  ·cases h
 ·cases h
def V1 {f:FuncId} {x y:Array Operand} {d:Nat} (ho:o.op = .makeFunc (.func f) x y) (hod:o.dst=some d) (hy:∀ z∈y.toList,RX A F z) (h:Ai E o A Kc=some r):Loc E o A F Kc r:=by
 unfold Ai at h;rw[ho,hod]at h;simp only at h;split at h
 ·rename_i bs hx hbs;refine⟨_,h,λ A' hA R' K'=>?_⟩;unfold Ai;rw[ho,hod];simp only[hx,Bda hA hy,hbs]
 ·cases h
def J8a (hF:∀ p∈rds A o,p∈F) (hno:Pfa E o=true) (h:Ai E o A Kc=some r):Loc E o A F Kc r:=by
 have hD3:∀ d,o.dst=some d→d∈F∧H d∈F∧H (2000+d)∈F:=λ d hd=>by
  unfold rds at hF;rw[hd]at hF;exact⟨hF d (by simp[rdD]),hF (H d) (by simp[rdD]),hF (H (2000+d)) (by simp[rdD])⟩
 have hD:∀ d,o.dst=some d→d∈F∧H d∈F:=λ d hd=>⟨(hD3 d hd).1,(hD3 d hd).2.1⟩;have hO:∀ p∈Nba A o.op,p∈F:=λ p hp=>hF p (by unfold rds;exact Vi _ hp);have hX:Nba A o.op=Hra A (Gt o.op)→∀ x∈Gt o.op,RX A F x:=λ e=>Sy (by rw[← e];exact hO)
 cases ho:o.op with
 |call c=>
  have hOc:∀ p∈Hra A (Gt (.call c))++Lba A c.args.toList,p∈F:=λ p hp=>hO p (by rw[ho];exact hp);have hx:=Sy (λ p hp=>hOc p (Vt _ hp));have hvv:=G4a (A:=A) (F:=F) (xs:=c.args.toList) (λ p hp=>hOc p (Vi _ hp))
  have hxs:(∀ y,c.callee = .value y→RX A F y)∧∀ x∈c.args.toList,RX A F x:=by
   unfold Gt at hx;simp only at hx;split at hx
   ·rename_i y hy;exact⟨λ z hz=>by rw[hy]at hz;cases hz;exact hx y (by simp),λ x hm=>hx x (Vd _ hm)⟩
   ·rename_i hno;exact⟨λ z hz=>absurd hz (hno z),hx⟩
  have hcv:=hxs.1
  replace hx:=hxs.2
  cases hc:c.callee with
  |builtin b=>
   cases b with
   |len=>exact Mca ho hc hx h
   |min=>exact Mda ho hc hx h
   |max=>exact Mea ho hc hx h
   |append=>exact Cxa ho hc hx h
   |_=>unfold Ai at h;rw[ho]at h;simp only[hc]at h;cases h
  |value f=>
   cases f with
   |func f=>exact G5a ho hc (λ d hd=>(hD d hd).2) hx hvv hno h
   |tmp t=>exact G6a ho hc (λ d hd=>(hD d hd).2) (hcv _ hc) hx hvv h
   |_=>unfold Ai at h;rw[ho]at h;simp only[hc]at h;cases h
  |invoke x m=>unfold Ai at h;rw[ho]at h;simp only[hc]at h;cases h
 |store T x y=>
  have hx:=hX (by rw[ho];rfl);rw[ho]at hx
  cases hod:o.dst with
  |none=>exact Fta ho hod (hx x (by simp[Gt])) (hx y (by simp[Gt])) h
  |some d=>unfold Ai at h;rw[ho,hod]at h;cases h
 |move x=>cases hod:o.dst with
  |none=>unfold Ai at h;rw[ho,hod]at h;cases h
  |some d=>
   refine J3a ho hod (λ t e=>?_) (λ p hp=>hO p (by rw[ho];simp[Nba,hp])) h;subst e;exact hO t (by rw[ho];simp[Nba,rdT])
 |assign x=>cases hod:o.dst with
  |none=>unfold Ai at h;rw[ho,hod]at h;cases h
  |some d=>
   have hx:=hX (by rw[ho];rfl);rw[ho]at hx;exact Cwa ho hod (hx x (by simp[Gt])) h
 |pick c x y=>cases hod:o.dst with
  |none=>unfold Ai at h;rw[ho,hod]at h;cases h
  |some d=>
   have hx:=hX (by rw[ho];rfl);rw[ho]at hx;exact J4a ho hod (hx c (by simp[Gt])) (hx x (by simp[Gt])) (hx y (by simp[Gt])) h
 |binOp op T x y T'=>cases hod:o.dst with
  |none=>unfold Ai at h;rw[ho,hod]at h;cases h
  |some d=>
   have hx:=hX (by rw[ho];rfl);rw[ho]at hx;exact Fpa ho hod (hx x (by simp[Gt])) (hx y (by simp[Gt])) h
 |unOp op T x=>cases hod:o.dst with
  |none=>unfold Ai at h;rw[ho,hod]at h;cases h
  |some d=>
   have hx:=hX (by rw[ho];rfl);rw[ho]at hx;exact J2a ho hod (hx x (by simp[Gt])) h
 |convert T T' x=>cases hod:o.dst with
  |none=>unfold Ai at h;rw[ho,hod]at h;cases h
  |some d=>
   have hx:=hX (by rw[ho];rfl);rw[ho]at hx;exact Y5 ho hod (hx x (by simp[Gt])) h
 |nilCheck x=>cases hod:o.dst with
  |none=>unfold Ai at h;rw[ho,hod]at h;cases h
  |some d=>exact Ux ho hod (Kpa (λ p hp=>hO p (by rw[ho];exact hp))) h
 |extract x j=>cases hod:o.dst with
  |none=>unfold Ai at h;rw[ho,hod]at h;cases x<;>cases h
  |some d=>cases x with
   |tmp t=>
    have hx:=hX (by rw[ho];rfl);rw[ho]at hx;exact Y6 ho hod (hx (.tmp t) (by simp[Gt])).1 h
   |_=>unfold Ai at h;rw[ho,hod]at h;cases h
 |field T x j=>cases hod:o.dst with
  |none=>unfold Ai at h;rw[ho,hod]at h;cases x<;>cases h
  |some d=>cases x with
   |tmp t=>
    have hx:=hX (by rw[ho];rfl);rw[ho]at hx;exact Fqa ho hod (hx (.tmp t) (by simp[Gt])).1 h
   |_=>unfold Ai at h;rw[ho,hod]at h;cases h
 |build T ps=>cases hod:o.dst with
  |none=>unfold Ai at h;rw[ho,hod]at h;cases h
  |some d=>
   have hx:=hX (by rw[ho];rfl);rw[ho]at hx;exact G0a ho hod (λ p hp=>hx p.2 (Yp hp)) h
 |alloc T=>cases hod:o.dst with
  |none=>unfold Ai at h;rw[ho,hod]at h;cases h
  |some d=>exact Fra ho hod (hD d hod).2 h
 |box T x=>cases hod:o.dst with
  |none=>unfold Ai at h;rw[ho,hod]at h;cases h
  |some d=>
   have hx:=hX (by rw[ho];rfl);rw[ho]at hx;exact Maa ho hod (hD d hod).2 (hx x (by simp[Gt])) h
 |load T x=>cases hod:o.dst with
  |none=>unfold Ai at h;rw[ho,hod]at h;cases h
  |some d=>
   have hx:=hX (by rw[ho];rfl);rw[ho]at hx;exact J5a ho hod (hx x (by simp[Gt])) h
 |fieldAddr T x j=>cases hod:o.dst with
  |none=>unfold Ai at h;rw[ho,hod]at h;cases h
  |some d=>exact T0 ho hod (Kpa (λ p hp=>hO p (by rw[ho];exact hp))) h
 |indexAddr T x i=>cases hod:o.dst with
  |none=>unfold Ai at h;rw[ho,hod]at h;cases h
  |some d=>
   have hx:=hX (by rw[ho];rfl);rw[ho]at hx
   cases hop:E.opn d with
   |true=>exact T1 ho hod hop (hD3 d hod).2.2 (hx x (by simp[Gt])) (hx i (by simp[Gt])) h
   |false=>exact T2 ho hod hop (hx x (by simp[Gt])) (hx i (by simp[Gt])) h
 |index T x i=>cases hod:o.dst with
  |none=>unfold Ai at h;rw[ho,hod]at h;cases h
  |some d=>
   have hx:=hX (by rw[ho];rfl);rw[ho]at hx;exact Fva ho hod (hx x (by simp[Gt])) (hx i (by simp[Gt])) h
 |slice T x lo hi mx=>cases hod:o.dst with
  |none=>unfold Ai at h;rw[ho,hod]at h;cases mx<;>cases h
  |some d=>cases mx with
   |none=>
    have hOs:∀ p∈Hra A (Gt (.slice T x lo hi none))++Caa A x lo,p∈F:=λ p hp=>hO p (by rw[ho];exact hp);have hx:=Sy (λ p hp=>hOs p (Vt _ hp));exact Fwa ho hod (hx x (by simp[Gt])) (λ y hy=>hx y (by simp[Gt,hy])) (λ y hy=>hx y (by simp[Gt,hy])) (λ p hp=>hOs p (Vi _ hp)) h
   |some m=>unfold Ai at h;rw[ho,hod]at h;cases h
 |buildSlice T n ps=>cases hod:o.dst with
  |none=>unfold Ai at h;rw[ho,hod]at h;cases h
  |some d=>
   have hx:=hX (by rw[ho];rfl);rw[ho]at hx;exact Qs ho hod (λ p hp=>hx p.2 (Yp hp)) h
 |makeSlice T x y=>cases hod:o.dst with
  |none=>unfold Ai at h;rw[ho,hod]at h;cases h
  |some d=>
   have hx:=hX (by rw[ho];rfl);rw[ho]at hx;exact T3 ho hod (hx x (by simp[Gt])) (hx y (by simp[Gt])) h
 |makeFunc fn x y=>
  cases fn with
  |func f=>cases hod:o.dst with
   |none=>unfold Ai at h;rw[ho,hod]at h;cases h
   |some d=>
    have hx:=hX (by rw[ho];rfl);rw[ho]at hx;exact V1 ho hod (λ z hz=>hx z (by simp only[Gt];exact Vi _ hz)) h
  |_=>unfold Ai at h;rw[ho]at h;cases hod:o.dst<;>(rw[hod]at h;cases h)
 |_=>unfold Ai at h;rw[ho]at h;cases hod:o.dst<;>(rw[hod]at h;cases h)
end
end

end Go.Proofs.YtbbifgjgneefkaaGreat.Vf
