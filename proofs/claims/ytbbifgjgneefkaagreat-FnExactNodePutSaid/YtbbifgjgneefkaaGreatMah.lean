import Derived.Test.YtbbifgjgneefkaaGreatMag
set_option linter.all false
namespace Go.Proofs.YtbbifgjgneefkaaGreat.Vf
open Go
open List (length getD)
open Int (toNat)
open Go.IntKind (wrap)
open BitVec (ofInt)
def Yx:=@Array.getElem?_eq_some_iff
def Zl:=@List.getElem?_cons_zero
def Zt:=@List.mem_of_getElem?
def T5a:=@Array.getElem?_append

section
attribute [local irreducible] C H
section
variable {X:Cx} {S S1 S2:Sit} {a:Act} {E:En} {A:Ab} {o:Oper} {R:Type} {Kc:List Up→Option R} {r:R}
def Oba (K:Ah X S a) {p n:Nat} {q:List Nat} {e:TypeId} {r:Ty} {xs:List r.den} (hx:Af X.P S (.tm n q) (.own e r xs) (S.ph p)):
  Ah X { S with O:=atO S.O (λ m q'=>if m=n∧q'=q then some (.pl p []) else none),g:=upd S.g p ((S.g p).1+1,.one (.own e r xs)) } a∧
  (∀ m q' x u,¬ (m=n∧q'=q)→Af X.P S (.tm m q') x u→Af X.P { S with O:=atO S.O (λ m q'=>if m=n∧q'=q then some (.pl p []) else none),g:=upd S.g p ((S.g p).1+1,.one (.own e r xs)) } (.tm m q') x u):=by
 generalize hh:(λ (m:Nat) (q':List Nat)=>if m=n∧q'=q then some (Lab.pl p []) else none)=h0
 have oth:∀ k o',S.O k=o'→(∀ m q',o' = .tm m q'→¬ (m=n∧q'=q))→atO S.O h0 k=o':=by
  intro k o' hk hq
  cases o' with
  |tm m q'=>exact I6 hk (by rw[← hh];exact if_neg (hq m q' rfl))
  |_=>exact Am hk (by simp)
 have L:Ct S { S with O:=atO S.O h0,g:=upd S.g p ((S.g p).1+1,.one (.own e r xs)) }:=by
  refine⟨λ p'=>?_,λ _ _=>rfl,λ p' v e r xs' hp hv=>?_,λ _ _=>rfl,λ k h=>⟨oth k _ h (by simp),rfl⟩,Ct.box_of (λ b n hv hb=>?_) (λ k b h=>⟨oth k _ h (by simp),rfl⟩),λ p' hp hdp=>?_,λ _ _=>rfl⟩
  ·by_cases h:p'=p
   ·subst h;show _≤(upd S.g p' _ p').1;rw[A9];exact Zj _
   ·show _≤(upd S.g p _ p').1;rw[Aa _ _ h];exact Vq _
  ·have hp':upd S.g p _ p'=(v,.one (.own e r xs')):=hp
   by_cases h:p'=p
   ·subst h;rw[A9]at hp';simp only[Vu]at hp';omega
   ·rw[Aa _ _ h]at hp';exact⟨xs',hp',rfl⟩
  ·have hv':(upd S.g p ((S.g p).1+1,.one (.own e r xs)) (H b)).1=(S.g (H b)).1:=hv
   have h:H b≠p:=λ e=>by subst e;rw[A9]at hv';simp at hv'
   exact(congrArg Prod.snd (Aa _ _ h)).trans hb
  ·have hp':(upd S.g p ((S.g p).1+1,.one (.own e r xs)) p').1=(S.g p').1:=hp
   have h:p'≠p:=λ e=>by subst e;rw[A9]at hp';simp at hp'
   have e1:({ S with O:=atO S.O h0,g:=upd S.g p ((S.g p).1+1,.one (.own e r xs)) }:Sit).g p'=S.g p':=Aa _ _ h;rw[e1];exact⟨hdp,λ _ _ _ h=>h,λ k hk=>⟨.inl (oth k _ hk (by simp)),rfl⟩⟩
 refine⟨K.ghost _ _ (λ k h=>oth k _ h (by simp)) (λ k h e'=>h (oth k _ e' (by simp))) (λ k h=>oth k _ h (by simp)) (λ k b h=>oth k _ h (by simp)) (λ b m h=>?_) (λ l=>?_),λ m q' x u hq h=>Af.later L h (λ k hk=>⟨oth k _ hk (λ m' q'' e=>by cases e;exact hq),rfl⟩)⟩
 ·by_cases hbp:H b=p
  ·subst hbp;simp at h
  ·rwa [Aa _ _ hbp]at h
 ·by_cases hl:l=p
  ·subst hl;show Gi X.P _ l (upd S.g l _ l).2 _;rw[A9];exact Af.later (lab := .tm n q) (lab' := .pl l []) L hx (λ k hk=>⟨G6 hk (by rw[← hh];exact if_pos ⟨rfl,rfl⟩),rfl⟩)
  ·show Gi X.P _ l (upd S.g p _ l).2 _;rw[Aa _ _ hl];exact(K.at_ l).later L (λ q k hk=>⟨oth k _ hk (by simp),rfl⟩)
def Xx {n:Nat}:∀ (b:List (Option Nat)) {S:Sit} {A:Ab} {l:List Lf} {us:List Value} {j:Nat},Ah X S a→S.g=get A→A5 X.P S (λ j => .tm n [j]) j l us→(∀ (i p:Nat) (e:TypeId) (r:Ty) (xs:List r.den),b[i]? = some (some p)→l[i]? = some (.own e r xs)→us[i]? = some (S.ph p))→
  ∃ S',Ah X S' a∧S'.g=get (ups A (Hqa b l))∧S'.w=S.w∧S'.ph=S.ph∧∀ m q x u,m≠n→Af X.P S (.tm m q) x u→Af X.P S' (.tm m q) x u
 |[],S,A,l,us,j,K,hg,_,_=>by
  have:Hqa [] l=[]:=by cases l<;>rfl
  rw[this];exact⟨S,K,hg,rfl,rfl,λ _ _ _ _ _ h=>h⟩
 |b0::b,S,A,[],us,j,K,hg,_,_=>by
  have:Hqa (b0::b) []=[]:=by cases b0<;>rfl
  rw[this];exact⟨S,K,hg,rfl,rfl,λ _ _ _ _ _ h=>h⟩
 |b0::b,S,A,x::l,[],j,K,hg,hl,_=>hl.elim
 |b0::b,S,A,x::l,u::us,j,K,hg,hl,hb=>by
  have skip:Hqa (b0::b) (x::l)=Hqa b l→∃ S',Ah X S' a∧S'.g=get (ups A (Hqa (b0::b) (x::l)))∧S'.w=S.w∧S'.ph=S.ph∧∀ m q x u,m≠n→Af X.P S (.tm m q) x u→Af X.P S' (.tm m q) x u:=by
   intro e;rw[e];exact Xx b K hg hl.2 (λ i p e r xs h1 h2=>hb (i+1) p e r xs h1 h2)
  cases b0 with
  |none=>exact skip (by cases x<;>rfl)
  |some p=>
   cases x with
   |own e r xs=>
    have hu:u=S.ph p:=by
     have:=hb 0 p e r xs rfl rfl
     simpa using this
    obtain⟨K1,h1⟩:=Oba K (p:=p) (n:=n) (q:=[j]) (e:=e) (r:=r) (xs:=xs) (by rw[← hu];exact hl.1)
    obtain⟨S',K',g',w',p',t'⟩:=Xx b (A:=up A ⟨p,false,.one (.own e r xs)⟩) (j:=j+1) K1 (by
     show upd S.g p _=get (ups A [⟨p,false,.one (.own e r xs)⟩])
     rw[A8,← hg]) (hl.2.impAt (λ m hm _ x u hx=>h1 n [m] x u (by simp;omega) hx)) (λ i p e r xs h1 h2=>hb (i+1) p e r xs h1 h2)
    exact⟨S',K',g',w',p',λ m q x u hm hx=>t' m q x u hm (h1 m q x u (λ e=>hm e.1) hx)⟩
   |_=>exact skip rfl
def IoP (P:Program) (S:Sit):Nat→List Par→List (List (Option Nat))→List (List Lf)→Prop
 |_,[],bs,lb=>bs=[]∧lb=[]
 |i,.io _ _::ps,b::bs,l::lb=>(∃ us,A5 P S (λ j => .tm (1001+i) [j]) 0 l us∧∀ (j p:Nat) (e:TypeId) (r:Ty) (xs:List r.den),b[j]? = some (some p)→l[j]? = some (.own e r xs)→us[j]? = some (S.ph p))∧IoP P S (i+1) ps bs lb
 |i,.val _ _::ps,bs,lb=>IoP P S (i+1) ps bs lb
 |_,_,_,_=>False
def IoP.mono {P:Program} (hp:S2.ph=S1.ph):∀ {ps:List Par} {i:Nat} {bs:List (List (Option Nat))} {lb:List (List Lf)},(∀ m q x u,1001+i≤m→Af P S1 (.tm m q) x u→Af P S2 (.tm m q) x u)→IoP P S1 i ps bs lb→IoP P S2 i ps bs lb
 |[],_,_,_,_,⟨h1,h2⟩=>⟨h1,h2⟩
 |.io _ _::ps,i,b::bs,l::lb,ht,⟨⟨us,h1,h2⟩,h3⟩=>⟨⟨us,h1.imp (λ j x u hx=>ht _ _ x u (Vq _) hx),λ j p e r xs e1 e2=>by rw[hp];exact h2 j p e r xs e1 e2⟩,IoP.mono hp (λ m q x u hm hx=>ht m q x u (by omega) hx) h3⟩
 |.val _ _::ps,i,bs,lb,ht,h=>by
  have h':IoP P S1 (i+1) ps bs lb:=h;exact(IoP.mono hp (λ m q x u hm hx=>ht m q x u (by omega) hx) h':IoP P S2 (i+1) ps bs lb)
 |.io _ _::_,_,[],_,_,h=>h.elim
 |.io _ _::_,_,_::_,[],_,h=>h.elim
 |.ptr _ _::_,_,_,_,_,h=>h.elim
 |.hid _ _::_,_,_,_,_,h=>h.elim
 |.vw _ _::_,_,_,_,_,h=>h.elim
 |.rd _::_,_,_,_,_,h=>h.elim
 |.fn _ _::_,_,_,_,_,h=>h.elim
def Sp:∀ (ps:List Par) {S:Sit} {A:Ab} {i:Nat} {bs:List (List (Option Nat))} {lb:List (List Lf)},Ah X S a→S.g=get A→IoP X.P S i ps bs lb→
  ∃ S',Ah X S' a∧S'.g=get (ups A (Dta bs lb))∧S'.w=S.w∧S'.ph=S.ph∧∀ m q x u,m<1001→Af X.P S (.tm m q) x u→Af X.P S' (.tm m q) x u
 |[],S,A,i,bs,lb,K,hg,h=>by
  obtain⟨rfl,rfl⟩:=h;exact⟨S,K,hg,rfl,rfl,λ _ _ _ _ _ h=>h⟩
 |.io _ _::ps,S,A,i,b::bs,l::lb,K,hg,⟨⟨us,h1,h2⟩,h3⟩=>by
  obtain⟨S1,K1,g1,w1,p1,t1⟩:=Xx b K hg h1 h2;obtain⟨S2,K2,g2,w2,p2,t2⟩:=Sp ps K1 g1 (IoP.mono p1 (λ m q x u hm hx=>t1 m q x u (by omega) hx) h3);exact⟨S2,K2,by rw[g2];show _=get (ups A (Hqa b l++Dta bs lb));rw[Ae],w2.trans w1,p2.trans p1,λ m q x u hm hx=>t2 m q x u hm (t1 m q x u (by omega) hx)⟩
 |.val _ _::ps,S,A,i,bs,lb,K,hg,h=>by
  have h':IoP X.P S (i+1) ps bs lb:=h;exact Sp ps K hg h'
 |.io _ _::_,_,_,_,[],_,_,_,h=>h.elim
 |.io _ _::_,_,_,_,_::_,[],_,_,h=>h.elim
 |.ptr _ _::_,_,_,_,_,_,_,_,h=>h.elim
 |.hid _ _::_,_,_,_,_,_,_,_,h=>h.elim
 |.vw _ _::_,_,_,_,_,_,_,_,h=>h.elim
 |.rd _::_,_,_,_,_,_,_,_,h=>h.elim
 |.fn _ _::_,_,_,_,_,_,_,_,h=>h.elim
def exQ (i:Nat):Nat→List Nat→Prop:=λ n _=>∃ j,i≤j∧(n=nmV j∨n=nmB (3000+j))
def F5a {i j:Nat} (h:j<i) (q:List Nat):¬ exQ i (nmV j) q∧¬ exQ i (nmB (3000+j)) q:=by
 refine⟨λ ⟨k,h1,h2⟩=>?_,λ ⟨k,h1,h2⟩=>?_⟩<;>unfold nmV nmB at h2<;>omega
def Oca (P:Program) (S:Sit) (i:Nat):Par→List Lf→Value→List (List (Option Nat))→Prop
 |.val ag t,l,u,b=>b=[]∧A3 l=true∧Ox (Ew t) l∧∃ us,(if ag then u = .agg us.toArray else us=[u])∧A5 P S (λ n => .tm (nmV i) (if ag then [n] else [])) 0 l us
 |.io ag t,l,u,b=>∃ b1 us,b=[b1]∧A3 l=true∧Ox (Ew t) l∧t.sz<999∧l.length=t.sz∧(if ag then u = .agg us.toArray else us=[u])∧A5 P S (λ n => .tm (nmB (3000+i)) [n]) 0 l us∧
   ∀ (j p:Nat) (e:TypeId) (r:Ty),b1[j]? = some (some p)→(Ew t)[j]? = some (.ow e r)→us[j]? = some (S.ph p)
 |_,_,_,_=>False
def Iva (P:Program) (S:Sit):Nat→List Par→List (List Lf)→List Value→List (List (Option Nat))→Prop
 |_,[],[],[],bs=>bs=[]
 |i,p::ps,l::ls,u::us,bs=>∃ b1 b2,bs=b1++b2∧Oca P S i p l u b1∧Iva P S (i+1) ps ls us b2
 |_,_,_,_,_=>False
def Oca.stay {i j:Nat} {p:Par} {l:List Lf} {u:Value} {bs:List (List (Option Nat))} (h:Cr X S S1 (exQ i)) (hj:j<i) (hp:Oca X.P S j p l u bs):Oca X.P S1 j p l u bs:=by
 cases p with
 |io ag t=>
  obtain⟨b1,us,h1,h2,h3,h4,h5,h6,h7,h8⟩:=hp;exact⟨b1,us,h1,h2,h3,h4,h5,h6,h7.imp (λ n x u hx=>h.tms _ _ _ _ (F5a hj _).2 hx),λ j p e r e1 e2=>by rw[h.ph];exact h8 j p e r e1 e2⟩
 |val ag t=>
  obtain⟨h1,h2,h3,us,h4,h5⟩:=hp;exact⟨h1,h2,h3,us,h4,h5.imp (λ n x u hx=>h.tms _ _ _ _ (F5a hj _).1 hx)⟩
 |_=>exact hp.elim
def Xy:∀ (us:List Up) (A:Ab) (p:Nat),(get A p).1≤(get (ups A us) p).1
 |[],A,p=>Vq _
 |u::us,A,p=>by
  refine Yq ?_ (Xy us (up A u) p);show _≤(get ((u.l,(bif u.keep then (get A u.l).1 else (get A u.l).1+1),u.s)::A) p).1;unfold get;cases hb:Nat.beq u.l p
  ·rw[cond_false]
   cases A<;>exact Vq _
  ·rw[cond_true];have:u.l=p:=Vb hb;subst this;cases u.keep
   ·rw[cond_false];cases A<;>exact Zj _
   ·rw[cond_true];cases A<;>exact Vq _
def Sq:∀ (ts:List Ty) (l:List Lf) {A:Ab} {m:List Lf} {us:List Up},D5 A ts l=some (m,us)→∀ (j p v:Nat) (e:TypeId) (r:Ty),l[j]? = some (.al p v)→ts[j]? = some (.ow e r)→(get A p).1≤v
 |[],l,A,m,us,h,j,p,v,e,r,h1,h2=>by simp at h2
 |t::ts,[],A,m,us,h,j,p,v,e,r,h1,h2=>by simp at h1
 |t::ts,x::l,A,m,us,h,0,p,v,e,r,h1,h2=>by
  simp only[Zl,Vc]at h1 h2;subst h1 h2;simp only[D5]at h;split at h
  ·rename_i y hy;simp only[H9]at hy;split at hy
   ·rename_i n e' r' xs hn;cases hb:Nat.beq n v
    ·rw[hb]at hy;simp[Qp]at hy
    ·rw[hn,Vb hb];exact Vq _
   ·rename_i n e' r' xs hn;cases hb:Nat.beq n v
    ·rw[hb]at hy;simp[Qp]at hy
    ·rw[hn,Vb hb];exact Vq _
   ·simp[Qp]at hy
  ·cases h
 |t::ts,x::l,A,m,us,h,j+1,p,v,e,r,h1,h2=>by
  simp only[List.getElem?_cons_succ]at h1 h2
  cases t with
  |ow e' r'=>
   simp only[D5]at h;split at h
   ·split at h
    ·rename_i hr;exact Yq (Xy _ A p) (Sq ts l hr j p v e r h1 h2)
    ·cases h
   ·cases h
  |_=>
   simp only[D5]at h;split at h
   ·rename_i hr;exact Yq (Xy _ A p) (Sq ts l hr j p v e r h1 h2)
   ·cases h
def M0a {lab:Lab} (hg:S.g=get A) {x:Lf} {u:Value} (h:Af X.P S lab x u):Af X.P S lab (Nma A x) u:=by
 cases x with
 |io p=>exact⟨by rw[hg];exact Vq _,λ _=>h.2⟩
 |_=>exact h
def B0a {f:Nat→Lab} (hg:S.g=get A):∀ {l:List Lf} {j:Nat} {us:List Value},A5 X.P S f j l us→A5 X.P S f j (l.map (Nma A)) us
 |[],_,[],_=>trivial
 |[],_,_::_,h=>h.elim
 |_::_,_,[],h=>h.elim
 |_::_,_,_::_,h=>⟨M0a hg h.1,B0a hg h.2⟩
def F6a {P:Program} {f:Nat→Lab}:∀ {l:List Lf} {i:Nat} {us:List Value},A5 P S f i l us→∀ j x,l[j]? = some x→∃ u,us[j]? = some u∧Af P S (f (i+j)) x u
 |[],_,[],_,j,x,h=>by simp at h
 |[],_,_::_,hl,_,_,_=>hl.elim
 |_::_,_,[],hl,_,_,_=>hl.elim
 |y::l,i,u::us,hl,0,x,h=>by
  simp only[Zl,Vc]at h;subst h;exact⟨u,rfl,hl.1⟩
 |y::l,i,u::us,hl,j+1,x,h=>by
  obtain⟨v,h1,h2⟩:=F6a hl.2 j x (by simpa using h);exact⟨v,by simpa using h1,by rw[show i+(j+1)=i+1+j by omega];exact h2⟩
def Cpa (hE:Gx X E) (K:Ah X S a) (hg:S.g=get A) {i:Nat} {T:TypeId} {x:Operand} {s:Sv} {p:Par} {l:List Lf} {us:List Up} {b:List (List (Option Nat))} (hx:opT E T A x=some s) (h:Dsa A x p s=some (l,us,b)):
  ∃ S1,Ah X S1 a∧S1.g=get (ups A us)∧Cr X S S1 (exQ i)∧Oca X.P S1 i p l (a.eval x) b:=by
 cases p with
 |val ag t=>
  unfold Dsa at h;obtain⟨hq,h⟩:=cs h;split at h
  ·rename_i m us' hgive;cases h;obtain⟨S1,K1,g1,G,h2,_,vs,hsh,hl⟩:=Se hE K hg (.inl hx) (Sm hq) hgive (nmV i);have hp:=Xr hq;simp only[hp]at hl;exact⟨S1,K1,g1,Cr.trans (λ n q h=>h) (λ n q h=>⟨i,Vq _,.inl h⟩) (Cr.refl S (exQ i)) G,rfl,h2,Nl hgive,vs,L7 hq hsh,hl⟩
  ·cases h
 |io ag t=>
  unfold Dsa at h;obtain⟨hq,h⟩:=cs h;simp only[Va,Wi]at hq;obtain⟨hf,hno,hsz⟩:=hq;split at h
  ·rename_i m us' hx2;obtain⟨hst,h⟩:=cs h;cases h;obtain⟨pl,hsv⟩:=Fc hE K hg hx
   obtain⟨vs,hshape,hl⟩:∃ vs,Nf s (a.eval x) vs∧∃ f,A5 X.P S f 0 (parts s) vs:=by
    cases s with
    |tup vs=>exact absurd rfl (Sm hf vs)
    |one z=>exact⟨[a.eval x],rfl,λ _ => .pl pl [],hsv,trivial⟩
    |agg z=>
     obtain⟨vs,e1,e2⟩:=hsv;exact⟨vs,e1,_,e2⟩
   obtain⟨f,hl⟩:=hl
   have hpn:parts (Pda A s)=(parts s).map (Nma A):=by cases s<;>rfl
   have hln:=B0a (A:=A) hg hl;rw[← hpn]at hln;have hlr:A5 X.P S (λ n => .tm (nmB (3000+i)) [n]) 0 (parts (Pda A s)) vs:=hln.relab hno;obtain⟨S1,K1,g1,G,hl2⟩:=Kh (nmB (3000+i)) (λ n=>[n]) (Ew t) _ K hg hx2 hst hlr (λ n n' _ _ _ _ e=>by simpa using e);obtain⟨l1,l2⟩:=Ia _ _ hx2;refine⟨S1,K1,g1,Cr.trans (λ n q h=>h) (λ n q h=>⟨i,Vq _,.inr h.1⟩) (Cr.refl S (exQ i)) G,_,vs,rfl,hst,Hr _ _ hx2,Ve hsz,by rw[l1,← l2,Hd],L7 hf hshape,hl2,?_⟩;intro j p e r h1 h2;rw[S6a]at h1
   cases hz:(parts s)[j]? with
   |none=>rw[hz]at h1;simp at h1
   |some z=>
    rw[hz]at h1;simp only[T0a,Vc]at h1;obtain⟨u,hu1,hu2⟩:=F6a hl j z hz;rw[hu1,G.ph]
    cases z<;>simp only[Qja,Vc,reduceCtorEq]at h1
    ·rename_i p' v;subst h1;have hcur:=Sq _ _ hx2 j p' v e r (by rw[hpn,S6a,hz];rfl) h2;rw[hu2.2 (by have:=hu2.1;rw[hg]at this ⊢;omega)]
    ·rename_i p';subst h1;rw[hu2.2]
  ·cases h
 |_=>simp[Dsa]at h
def Pu (hE:Gx X E):∀ (ps:List Par) {xs:List (TypeId×Operand)} {S:Sit} {A:Ab} {ls:List (List Lf)} {us:List Up} {bs:List (List (Option Nat))} (i:Nat),Ah X S a→S.g=get A→P7 E A xs ps=some (ls,us,bs)→
  ∃ S1,Ah X S1 a∧S1.g=get (ups A us)∧Cr X S S1 (exQ i)∧Iva X.P S1 i ps ls (xs.map (λ x=>a.eval x.2)) bs
 |[],xs,S,A,ls,us,bs,i,K,hg,h=>by
  cases xs with
  |cons=>simp[P7]at h
  |nil=>
   simp only[P7,Vc,Vu]at h;obtain⟨rfl,rfl,rfl⟩:=h;exact⟨S,K,hg,Cr.refl S _,rfl⟩
 |p::ps,xs,S,A,ls,us,bs,i,K,hg,h=>by
  cases xs with
  |nil=>simp[P7]at h
  |cons x xs=>
   simp only[P7]at h;split at h
   ·rename_i s hs1;split at h
    ·rename_i l u b hb;split at h
     ·rename_i ls1 us1 bs1 hrec;cases h;obtain⟨S1,K1,g1,G1,p1⟩:=Cpa (i:=i) hE K hg hs1 hb;obtain⟨S2,K2,g2,G2,p2⟩:=Pu hE ps (i+1) K1 g1 hrec;exact⟨S2,K2,by rw[Ae];exact g2,Cr.trans (λ _ _ h=>h) (λ n q ⟨j,h1,h2⟩=>⟨j,by omega,h2⟩) G1 G2,b,bs1,rfl,p1.stay G2 (by omega),p2⟩
     ·cases h
    ·cases h
   ·cases h
def Sr {nv:Nat}:∀ (ps:List Par) {i:Nat} {ls ls':List (List Lf)} {us:List Value} {bs:List (List (Option Nat))},Iva X.P S i ps ls us bs→Mk (ps.map Par.ty) ls ls'→Hk nv i ps=true→
  Ip X.P (bare (Iw S []) S.w) (Ita S []) nv [] i ps ls' us∧us.length=ps.length
 |[],i,[],[],[],bp,_,_,_=>⟨trivial,rfl⟩
 |[],i,[],_::_,_,bp,_,hm,_=>hm.elim
 |[],i,_::_,_,_,bp,h,_,_=>h.elim
 |[],i,[],[],_::_,bp,h,_,_=>h.elim
 |p::ps,i,[],_,_,bp,h,_,_=>h.elim
 |p::ps,i,_::_,_,[],bp,h,_,_=>h.elim
 |p::ps,i,l::ls,[],_::_,bp,_,hm,_=>hm.elim
 |p::ps,i,l::ls,l'::ls',u::us,bp,h,hm,hp=>by
  obtain⟨b1,b2,rfl,h1,h2⟩:=h;obtain⟨⟨y,hy,rfl⟩,hm2⟩:=hm
  cases p with
  |io ag t=>
   simp only[Hk,Va]at hp;obtain⟨r1,r2⟩:=Sr ps h2 hm2 hp.2;obtain⟨_,vs,_,e2,e3,e4,e5,e6,e7,_⟩:=h1;refine⟨⟨⟨⟨Ve hp.1,e4,Ev t y⟩,vs,e6,I8 e3 hy ?_⟩,r1⟩,by simp[r2]⟩;exact A5.impS (S1:=S) (Fx e2) (λ n x u hx h=>Af.bare (S1:=S) (S2:=bare (Iw S []) S.w) hx rfl (λ k hk=>show Iw S [] k = .fz from Ig hk) (λ k hk=>show Iw S [] k = .pl (C (3000+i) n) [] from Kma hk) h) e7
  |val ag t=>
   simp only[Hk,Va]at hp;obtain⟨r1,r2⟩:=Sr ps h2 hm2 hp.2;obtain⟨_,e2,e3,vs,e4,e5⟩:=h1;refine⟨⟨⟨vs,e4,I8 e3 hy ?_⟩,r1⟩,by simp[r2]⟩;exact A5.impS (S1:=S) (Fx e2) (λ n x u hx h=>Af.bare (S1:=S) (S2:=bare (Iw S []) S.w) hx rfl (λ k hk=>show Iw S [] k = .fz from Ig hk) (λ k hk=>show Iw S [] k = .pl i _ from Kla hk) h) e5
  |_=>exact h1.elim
def Cqa:∀ (t:Ty) (ts:List Ty) (y:Den (t::ts)),∃ (z:t.den) (y':Den ts),Av (t::ts) y=A4 t z::Av ts y'
 |t,[],y=>⟨y,(),rfl⟩
 |t,u::ts,y=>⟨y.1,y.2,rfl⟩
def Ss {Sb:Sit} (hph:∀ {n:Nat} {q:List Nat} {x:Lf} {u:Value},Ef x=true→Af X.P Sb (.tm n q) x u→Af X.P S2 (.tm n q) x u) (hp2:S2.ph=S1.ph):∀ (ps:List Par) {i:Nat} {ls lb:List (List Lf)} {us:List Value} {bs:List (List (Option Nat))},Iva X.P S1 i ps ls us bs→Ie X.P Sb i ps us lb→(∀ l∈lb,∀ y∈l,Ef y=true)→(∃ y:Den (Ff ps),lb=Av (Ff ps) y)→IoP X.P S2 i ps bs lb
 |[],i,[],lb,[],bs,h,hb,_,_=>⟨h,hb⟩
 |[],i,_::_,_,_,_,h,_,_,_=>h.elim
 |[],i,[],_,_::_,_,h,_,_,_=>h.elim
 |p::ps,i,[],_,_,_,h,_,_,_=>h.elim
 |p::ps,i,_::_,_,[],_,h,_,_,_=>h.elim
 |p::ps,i,l::ls,lb,u::us,bs,h,hb,hs,hy=>by
  obtain⟨b1,b2,rfl,h1,h2⟩:=h
  cases p with
  |val ag t=>
   obtain⟨rfl,_⟩:=h1;exact Ss hph hp2 ps h2 hb hs hy
  |io ag t=>
   obtain⟨b1,vs,rfl,_,_,_,e5,e6,_,e8⟩:=h1
   cases lb with
   |nil=>exact hb.elim
   |cons l' lb=>
    obtain⟨⟨ws,f1,f2⟩,hb2⟩:=hb;obtain⟨y,hy⟩:=hy
    have hlv:∃ z:t.den,l'=A4 t z∧∃ y:Den (Ff ps),lb=Av (Ff ps) y:=by
     obtain⟨z,y',e⟩:=Cqa t (Ff ps) y;have hy':l'::lb=Av (t::Ff ps) y:=hy;rw[e]at hy';simp only[Wq]at hy';exact⟨z,hy'.1,y',hy'.2⟩
    obtain⟨z,rfl,hy2⟩:=hlv;refine⟨⟨ws,A5.impS (hs _ (by simp)) (λ n x u hx h=>hph hx h) f2,λ j p e r xs q1 q2=>?_⟩,Ss hph hp2 ps h2 hb2 (λ l hl=>hs l (Vd _ hl)) hy2⟩
    have hwv:ws=vs:=by
     cases ag
     ·simp only[Wd,if_false]at f1 e6;rw[f1,e6]
     ·simp only[if_true]at f1 e6;rw[e6]at f1
      simpa using f1.symm
    have q3:(Ew t)[j]? = some (.ow e r):=by
     have:=J2 (t:=t) (x:=z) (j:=j) (e:=e) (r:=r) (ys:=xs) (by rw[Fy];exact q2);rwa [Fy]at this
    rw[hwv,hp2];exact e8 j p e r q1 q3
  |_=>exact h1.elim
def Mr:∀ (ts us:List Ty) (y:Den (ts++us)) {n:Nat},n=ts.length→∃ z:Den us,(Av (ts++us) y).drop n=Av us z
 |[],us,y,n,h=>by subst h;exact⟨y,rfl⟩
 |[t],[],y,n,h=>by subst h;exact⟨(),rfl⟩
 |[t],u::us,y,n,h=>by subst h;exact⟨y.2,rfl⟩
 |t::t2::ts,us,y,n,h=>by
  subst h;obtain⟨z,hz⟩:=Mr (t2::ts) us y.2 rfl;exact⟨z,hz⟩
def F7a (hE:Gx X E) (K:Ah X S a) (hg:S.g=get A) {Ts:List TypeId} {xs:List Operand} {f:FuncId} {en:Ent} {ss:List Sv} (hrun:(execOp a.eval o).run X.P S.w = .ok (.enter f (xs.map a.eval).toArray) S.w) (hd:∀ d,o.dst=some d→d<X.nt)
  (hco:Iq X.P f en) (hss:N5 E Ts A xs=some ss) (h:Dua E A en (Ts.zip xs) o.dst Kc=some r):Fw X o a S.w A Kc r:=by
 have hz:=Xv (Mq hss)
 have hzl:(Ts.zip xs).length=xs.length:=by
  rw[List.length_zip];have:=Mq hss;omega
 have hev:(Ts.zip xs).map (λ x=>a.eval x.2)=xs.map a.eval:=by
  rw[← hz,Rla];rw[hz];rfl
 unfold Dua at h;rw[csi]at h;obtain⟨hq,h⟩:=h;simp only[Va,Wi]at hq;obtain⟨⟨hnv,hp,hnoP⟩,⟨⟨hn,hps⟩,hrl⟩,hlen⟩:=hq
 have hnv:en.nv=xs.length:=by rw[← hzl];exact Vb hnv
 split at h
 ·cases h
 ·rename_i ls us bs hargs;split at h
  ·cases h
  ·rename_i x hx
   cases hrun':en.run x with
   |none=>rw[hrun']at h;simp at h
   |some y=>
    rw[hrun']at h;simp only[Vv]at h;split at h
    ·cases h
    ·rename_i rs hrs;obtain⟨S1,K1,g1,G1,p1⟩:=Pu (X:=X) (a:=a) hE en.ps 0 K hg hargs;rw[hev]at p1;obtain⟨hok,hul⟩:=Sr (nv:=en.nv) en.ps p1 (Mp _ _ _ hx) hps;have hdrop:(xs.map a.eval).drop en.nv=[]:=S1a (by rw[hnv,Yk];exact Vq _);have htake:(xs.map a.eval).take en.nv=xs.map a.eval:=Zb (by rw[hnv,Yk];exact Vq _)
     have hnobx:∀ k b,Iw S1 [] k ≠ .bx b:=by
      intro k b hk;unfold Iw at hk;split at hk
      ·cases hk
      ·split at hk
       ·cases hk
       ·split at hk
        ·cases hk
        ·split at hk<;>cases hk
      ·simp[lkF]at hk
      ·cases hk
     have hs:=hco.sound x y hrun' S1.w (Iw S1 []) (Ita S1 []) (xs.map a.eval) (λ k hk=>K1.lt k (λ e=>hk (by simp[Iw,e]))) (λ k b hk=>absurd hk (hnobx k b)) (by rw[hdrop];exact hok);rw[htake]at hs;refine⟨_,h,Nk hrun (L8 (by rw[← G1.w];exact hs) ?_)⟩;rintro e w' ⟨v,O',rfl,hF,hlt,hres,hback⟩;refine⟨v,rfl,?_⟩;obtain⟨a1,a2,a3⟩:=Ra hF
     have hlt2:∀ k,Tf S1 O' k ≠ .no→k<w'.heap.size:=λ k hk=>by
      by_cases hkl:k<S1.w.heap.size
      ·exact Wm hkl hF.size
      ·refine hlt k (λ e=>hk ?_);unfold Tf;rw[if_neg (λ h=>hkl h.1),e];rfl
     have hnt:∀ k,(∀ n q,S1.O k ≠ .tm n q)→Lya (S1.O k)=false:=λ k hk=>by
      cases hO:S1.O k<;>first|rfl|exact absurd hO (hk _ _)
     have hsol:=Fl (en.rs.map Prod.snd++Ff en.ps) y;obtain⟨K2,L2⟩:=K1.world (w':=w') (O':=Tf S1 O') (λ k hk ht=>⟨(a1 k hk (hnt k ht)).1,(a1 k hk (hnt k ht)).2 (by simp)⟩) hF.os hF.tape hF.out hF.size hlt2
     have hbr:∀ {n:Nat} {q:List Nat} {x:Lf} {u:Value},Ef x=true→Af X.P (bare O' w') (.tm n q) x u→Af X.P (Og S1 w' (Tf S1 O')) (.tm n q) x u:=by
      intro n q x u hx hu
      cases x with
      |sc v=>exact hu
      |fz e r xs=>exact Ty.rep_mono (t := .sl e r) (λ k hk=>a2 k hk) (λ k hk=>rfl) _ _ hu
      |own e r xs=>exact Cs.later (O':=Tf S1 O') (w':=w') hu (λ k hk=>⟨a2 k hk,rfl⟩) (λ k hk=>⟨a3 k n q hk,rfl⟩)
      |_=>simp[Ef]at hx
     have hio:=Ss (X:=X) (S1:=S1) (S2:=Og S1 w' (Tf S1 O')) hbr rfl en.ps p1 hback (λ l hl=>hsol l (Zk hl)) (Mr _ _ y (by simp));obtain⟨S2,K3,g3,w3,_,t3⟩:=Sp en.ps K2 (A:=ups A us) g1 hio;have hnames:∀ (n:Nat) (q:List Nat) (x:Lf) (u:Value),n<1001→Ef x=true→Af X.P (bare O' w') (.tm n q) x u→Af X.P S2 (.tm n q) x u:=λ n q x u h2 hx hu=>t3 n q x u h2 (hbr hx hu)
     have hres1:Fh X.P S2 S1.w.heap.size en.rs (Av _ y) v:=by
      have one:∀ {i:Nat} {k:RK} {l:List Lf} {u:Value},k ≠ .ptr→i<500→(∀ z∈l,Ef z=true)→Jm X.P (bare O' w') S1.w.heap.size i k l u→Jm X.P S2 S1.w.heap.size i k l u:=by
       intro i k l u hk h2 hz h
       cases k with
       |one=>exact A5.impM (λ x hx n u h=>hnames _ _ x u (by omega) (hz x hx) h) h
       |agg=>
        obtain⟨us,e,h⟩:=h;exact⟨us,e,h.impM (λ x hx n u h=>hnames _ _ x u (by omega) (hz x hx) h)⟩
       |ptr=>exact absurd rfl hk
      have all:∀ (rs:List (RK×Ty)) {i:Nat} {ls:List (List Lf)} {us:List Value},G9 rs=false→i+rs.length<500→(∀ l∈ls,∀ z∈l,Ef z=true)→H6 X.P (bare O' w') S1.w.heap.size i rs ls us→H6 X.P S2 S1.w.heap.size i rs ls us:=by
       intro rs
       induction rs with
       |nil=>intro i ls us _ _ _ h;exact h
       |cons r rs ih=>
        intro i ls us h1 h2 hz h;obtain⟨k,t⟩:=r
        cases ls with
        |nil=>exact h.elim
        |cons l ls=>
         cases us with
         |nil=>exact h.elim
         |cons u us=>
          simp only[Vg]at h2
          have hk:k ≠ .ptr:=λ e=>by subst e;simp[G9]at h1
          have h1':G9 rs=false:=by cases k<;>first|(simp[G9]at h1;done)|simpa[G9] using h1
          exact⟨one hk (by omega) (hz l (by simp)) h.1,ih h1' (by omega) (λ l hl=>hz l (Vd _ hl)) h.2⟩
      have hrl':en.rs.length≤400:=Ve hrl;unfold Fh at hres ⊢;split at hres
      ·rename_i r1 hr1;obtain⟨l,ls',e1,h5⟩:=hres;exact⟨l,ls',e1,one (λ e=>by rw[hr1]at hnoP;obtain⟨k,t⟩:=r1;simp only at e;subst e;simp[G9]at hnoP) (by omega) (hsol l (by rw[e1];simp)) h5⟩
      ·obtain⟨us',e1,h5⟩:=hres;exact⟨us',e1,all en.rs hnoP (by omega) hsol h5⟩
     obtain⟨S3,K4,w4,g4⟩:=Sk (E:=E) K3 g3 (λ _=>Ve hrl) hd K1.fr.size (Fl _ y) (λ d' _ hp=>by rw[hnoP]at hp;cases hp) hres1 hrs;refine⟨S3,w4.trans w3,K4,?_⟩;rw[g4,Ae,Ae]
def M1a (hE:Gx X E) (hcall:∀ f en,E.call f=some en→Iq X.P f en) (K:Ah X S a) (hg:S.g=get A) {c:Call} {f:FuncId} (ho:o.op = .call c) (hc:c.callee = .value (.func f)) (hd:∀ d,o.dst=some d→d<X.nt)
  (h:Ai E o A Kc=some r):Fw X o a S.w A Kc r:=by
 unfold Ai at h;rw[ho]at h;simp only[hc]at h;split at h
 ·rename_i en ss he hss;have hco:=hcall f en he
  cases hio:Dra en.ps with
  |true=>
   rw[hio,cond_true]at h;exact F7a hE K hg (by simpa using Ui (w:=S.w) ho hc hco) hd hco hss h
  |false=>
   rw[hio,cond_false]at h;exact Aya hE K hg (cs:=[]) (by simpa using Ui (w:=S.w) ho hc hco) hd hco hss h
 ·cases h
end
end

section
attribute [local irreducible] C H
structure Pv (X:Cx) (E:En):Prop where
 en:Gx X E
 call:∀ f en,E.call f=some en→Iq X.P f en
section
variable {X:Cx} {S S1 S2:Sit} {a:Act} {E:En} {A:Ab} {o:Oper} {R:Type} {Kc:List Up→Option R} {r:R}
def F8a (hV:Pv X E) (K:Ah X S a) (hg:S.g=get A) (hd:∀ d,o.dst=some d→d<X.nt) (h:Ai E o A Kc=some r):Fw X o a S.w A Kc r:=by
 have hE:=hV.en
 cases ho:o.op with
 |call c=>
  cases hc:c.callee with
  |builtin b=>
   cases b with
   |len=>exact Nxa hE K hg ho hc hd h
   |min=>exact U6 hE K hg false ho hc hd h
   |max=>exact U6 hE K hg true ho hc hd h
   |append=>exact Exa hE K hg ho hc hd h
   |_=>unfold Ai at h;rw[ho]at h;simp only[hc]at h;cases h
  |value f=>
   cases f with
   |func f=>exact M1a hE hV.call K hg ho hc hd h
   |tmp t=>exact Iua hE hV.call K hg ho hc hd h
   |_=>unfold Ai at h;rw[ho]at h;simp only[hc]at h;cases h
  |invoke x m=>unfold Ai at h;rw[ho]at h;simp only[hc]at h;cases h
 |makeFunc fn x y=>cases fn with
  |func f=>cases hod:o.dst with
   |none=>unfold Ai at h;rw[ho,hod]at h;cases h
   |some d=>exact Xw hE K hg ho hod (hd d hod) h
  |_=>unfold Ai at h;rw[ho]at h;cases hod:o.dst<;>(rw[hod]at h;cases h)
 |store T x y=>
  cases hod:o.dst with
  |none=>exact Iga hE K hg ho hod h
  |some d=>unfold Ai at h;rw[ho,hod]at h;cases h
 |move x=>cases hod:o.dst with
  |none=>unfold Ai at h;rw[ho,hod]at h;cases h
  |some d=>exact Lha hE K hg ho hod (hd d hod) h
 |assign x=>cases hod:o.dst with
  |none=>unfold Ai at h;rw[ho,hod]at h;cases h
  |some d=>exact Eba hE K hg ho hod (hd d hod) h
 |pick c x y=>cases hod:o.dst with
  |none=>unfold Ai at h;rw[ho,hod]at h;cases h
  |some d=>exact Lja hE K hg ho hod (hd d hod) h
 |binOp op T x y T'=>cases hod:o.dst with
  |none=>unfold Ai at h;rw[ho,hod]at h;cases h
  |some d=>exact I3a hE K hg ho hod (hd d hod) h
 |unOp op T x=>cases hod:o.dst with
  |none=>unfold Ai at h;rw[ho,hod]at h;cases h
  |some d=>exact Lia hE K hg ho hod (hd d hod) h
 |convert T T' x=>cases hod:o.dst with
  |none=>unfold Ai at h;rw[ho,hod]at h;cases h
  |some d=>exact Cha hE K hg ho hod (hd d hod) h
 |nilCheck x=>cases hod:o.dst with
  |none=>unfold Ai at h;rw[ho,hod]at h;cases h
  |some d=>exact Xi hE K hg ho hod (hd d hod) h
 |extract x j=>cases hod:o.dst with
  |none=>unfold Ai at h;rw[ho,hod]at h;cases x<;>cases h
  |some d=>cases x with
   |tmp t=>exact Cca hE K hg ho hod (hd d hod) h
   |_=>unfold Ai at h;rw[ho,hod]at h;cases h
 |field T x j=>cases hod:o.dst with
  |none=>unfold Ai at h;rw[ho,hod]at h;cases x<;>cases h
  |some d=>cases x with
   |tmp t=>exact I6a hE K hg ho hod (hd d hod) h
   |_=>unfold Ai at h;rw[ho,hod]at h;cases h
 |build T ps=>cases hod:o.dst with
  |none=>unfold Ai at h;rw[ho,hod]at h;cases h
  |some d=>exact Ija hE K hg ho hod (hd d hod) h
 |alloc T=>cases hod:o.dst with
  |none=>unfold Ai at h;rw[ho,hod]at h;cases h
  |some d=>exact Iha hE K hg ho hod (hd d hod) h
 |box T x=>cases hod:o.dst with
  |none=>unfold Ai at h;rw[ho,hod]at h;cases h
  |some d=>exact O1a hE K hg ho hod (hd d hod) h
 |load T x=>cases hod:o.dst with
  |none=>unfold Ai at h;rw[ho,hod]at h;cases h
  |some d=>exact Lla hE K hg ho hod (hd d hod) h
 |fieldAddr T x j=>cases hod:o.dst with
  |none=>unfold Ai at h;rw[ho,hod]at h;cases h
  |some d=>exact U7 hE K hg ho hod (hd d hod) h
 |indexAddr T x i=>cases hod:o.dst with
  |none=>unfold Ai at h;rw[ho,hod]at h;cases h
  |some d=>
   cases hop:E.opn d with
   |true=>exact Ue hE K hg ho hod (hd d hod) hop h
   |false=>exact U8 hE K hg ho hod (hd d hod) hop h
 |index T x i=>cases hod:o.dst with
  |none=>unfold Ai at h;rw[ho,hod]at h;cases h
  |some d=>exact I4a hE K hg ho hod (hd d hod) h
 |slice T x lo hi mx=>cases hod:o.dst with
  |none=>unfold Ai at h;rw[ho,hod]at h;cases mx<;>cases h
  |some d=>cases mx with
   |none=>exact I7a hE K hg ho hod (hd d hod) h
   |some m=>unfold Ai at h;rw[ho,hod]at h;cases h
 |buildSlice T n ps=>cases hod:o.dst with
  |none=>unfold Ai at h;rw[ho,hod]at h;cases h
  |some d=>exact Si hE K hg ho hod (hd d hod) h
 |makeSlice T x y=>cases hod:o.dst with
  |none=>unfold Ai at h;rw[ho,hod]at h;cases h
  |some d=>exact Ug hE K hg ho hod (hd d hod) h
 |_=>unfold Ai at h;rw[ho]at h;cases hod:o.dst<;>(rw[hod]at h;cases h)
def Kna (hE:Gx X E) (K:Ah X S a) (hg:S.g=get A) (hd:Tt E o=true):∃ S',Ah X S' (a.put o.dst undef)∧S'.g=get (Ma o A)∧S'.w=S.w:=by
 unfold Ma;unfold Tt at hd
 cases hod:o.dst with
 |none=>exact⟨S,K,hg,rfl⟩
 |some d=>
  rw[hod]at hd;have hdl:d<X.nt:=hE.nt ▸ (Ve hd:d+1≤E.nt);refine⟨_,K.put0 hdl (.one .un) undef 0 rfl rfl,?_,rfl⟩;show upd S.g d _=_;rw[Il,← hg];rfl
def Qla (X:Cx) (Q:Exit→Act→World→Prop) (K:Ab→Option R) (r:R):Prop:=∀ S a A,Ah X S a→S.g=get A→K A=some r→Q .normal a S.w
def Pw {A:Ab} {d n:Nat} {v:Bool} (h:get A d=(n,.one (.sc (.bool v)))):get (lit A d n v)=get A:=by
 funext k;unfold lit;simp only[get]
 by_cases hk:k=d
 ·subst hk;simp[h]
 ·have:Nat.beq d k=false:=by
   cases hb:Nat.beq d k with
   |false=>rfl
   |true=>exact absurd (Vb hb).symm hk
  simp[this]
def St (hV:Pv X E) {ops:Array Oper} {Q:Exit→Act→World→Prop}:∀ (l:List Nat) {S:Sit} {a:Act} {A:Ab} {K:Ab→Option R} {r:R},Ah X S a→S.g=get A→Pa E ops.toList l A K=some r→Qla X Q K r→wpOps X.P ops Q l a S.w
 |[],S,a,A,K,r,hK,hg,h,hQ=>hQ S a A hK hg h
 |i::l,S,a,A,K,r,hK,hg,h,hQ=>by
  rw[wpOps_cons];unfold Pa at h;rw[Fy]at h;unfold wpOp;split at h
  ·cases h
  ·rename_i o ho
   have ho':ops[i]? = some o:=by simpa using ho
   rw[ho'];simp only;obtain⟨hd,h⟩:=cs h
   have hdl:∀ d,o.dst=some d→d<X.nt:=λ d hod=>by
    unfold Tt at hd;rw[hod]at hd;exact hV.en.nt ▸ (Ve hd:d+1≤E.nt)
   have go:∀ {A:Ab},S.g=get A→Ai E o A (λ U=>Pa E ops.toList l (ups A U) K)=some r→o.wp X.P a S.w (wpOps X.P ops Q l) Q:=by
    intro A hg h;obtain⟨U,hU,hgo⟩:=F8a hV hK hg hdl h;exact hgo _ _ (λ S' a' K' g'=>St hV l K' g' hU hQ)
   have skip:∀ {A:Ab},S.g=get A→Pa E ops.toList l (Ma o A) K=some r→wpOps X.P ops Q l (a.put o.dst undef) S.w:=by
    intro A hg h;obtain⟨S',K',g',w'⟩:=Kna hV.en hK hg hd;rw[← w'];exact St hV l K' g' h hQ
   split at h
   ·rename_i hgd
    have hw:Region.wanted o (yielded ops a.tmps)=true:=by unfold Region.wanted;rw[hgd]
    rw[if_pos hw];exact .inl (go hg h)
   ·rename_i j want hgd;split at h
    ·cases h
    ·rename_i dj hdj
     have hdj':(ops[j]?).bind (·.dst)=some dj:=by
      unfold Dwa at hdj;rw[Fy]at hdj
      have:ops.toList[j]? = ops[j]? := by simp
      rw[this]at hdj
      cases hj:ops[j]? with
      |none=>rw[hj]at hdj;cases hdj
      |some oj=>rw[hj]at hdj;simpa using hdj
     obtain⟨hb,h⟩:=cs h;have hjl:dj<X.nt:=hV.en.nt ▸ (Ve hb:dj+1≤E.nt)
     have htm:a.tmps[dj]? = some (S.ph dj):=by
      have h1:=hK.sl dj hjl
      have h2:dj<a.tmps.size:=by rw[hK.sz];exact hjl
      rw[← h1,Wk,Zs h2];rfl
     have hy:yielded ops a.tmps j=(match S.ph dj with | .bool b=>some b|_=>none):=by
      unfold yielded;rw[hdj',Vv,htm]
      cases S.ph dj<;>rfl
     have hwd:Region.wanted o (yielded ops a.tmps)=((match S.ph dj with | .bool b=>some b|_=>none)==some want):=by
      unfold Region.wanted;rw[hgd];simp only;rw[hy]
     split at h
     ·rename_i n b hgt
      have hph:S.ph dj = .bool b:=by
       have:=hK.at_ dj;rw[hg,hgt]at this;exact this.1
      rw[hph]at hwd
      have hgl:S.g=get (lit A dj n b):=by rw[Pw hgt];exact hg
      cases b with
      |true=>
       rw[cond_true]at h
       cases want with
       |true=>
        rw[cond_true]at h;rw[if_pos (by rw[hwd];rfl)];exact .inl (go hgl h)
       |false=>
        rw[cond_false]at h;rw[if_neg (by rw[hwd];decide)];exact skip hgl h
      |false=>
       rw[cond_false]at h
       cases want with
       |true=>
        rw[cond_true]at h;rw[if_neg (by rw[hwd];decide)];exact skip hgl h
       |false=>
        rw[cond_false]at h;rw[if_pos (by rw[hwd];rfl)];exact .inl (go hgl h)
     ·rename_i n hgt
      have hph:S.ph dj=undef:=by
       have:=hK.at_ dj;rw[hg,hgt]at this;exact this
      rw[hph]at hwd;rw[if_neg (by rw[hwd];simp[undef])];exact skip hg h
     ·cases h
end
end

section
attribute [local irreducible] C H
def B1a:Ex→Exit
 |.normal => .normal
 |.exit i => .exit i
 |.ret => .ret
def Pqa {J:Nat→Prop}:∀ n,J n→∃ m,J m∧(∀ k,J k→m≤k):=by
 intro n
 induction n using Nat.strongRecOn with
 |_ n ih=>
  intro hn
  by_cases h:∃ m,m<n∧J m
  ·obtain⟨m,hm,hj⟩:=h;exact ih m hm hj
  ·exact⟨n,hn,λ k hk=>Nat.le_of_not_lt (λ hlt=>h ⟨k,hlt,hk⟩)⟩
open Classical in
def Cra {P:Program} {c:Code} {Q:Exit→Act→World→Prop} (J:Nat→Act→World→Prop) {n:Nat} {a:Act} {w:World} (h0:J n a w)
  (round:∀ n a w,J n a w→c.wp P (Exit.then (λ a' w'=>∃ m,m<n∧J m a' w') Q) a w):(Code.loop c).wp P Q a w:=by
 let μ:Act→World→Nat:=λ a w=>if h:∃ m,J m a w∧(∀ k,J k a w→m≤k) then Classical.choose h else 0
 have hμ:∀ a w n,J n a w→J (μ a w) a w∧(∀ k,J k a w→μ a w≤k):=by
  intro a w n hn;have h:=Pqa (J:=λ m=>J m a w) n hn
  have e:μ a w=Classical.choose h:=by simp only[μ];rw[dif_pos h]
  rw[e];exact Classical.choose_spec h
 refine wp_loop (λ a w=>∃ n,J n a w) μ ⟨n,h0⟩ ?_;rintro a w ⟨n,hn⟩;obtain⟨h1,h2⟩:=hμ a w n hn;refine wp_mono (round (μ a w) a w h1) ?_;intro e a' w' hq
 cases e<;>first|exact hq|skip
 obtain⟨m,hm,hj⟩:=hq;refine⟨⟨m,hj⟩,Nat.lt_of_le_of_lt ((hμ a' w' m hj).2 m hj) hm⟩
section
variable {X:Cx} {S S1 S2:Sit} {a:Act} {E:En} {A:Ab} {o:Oper} {R:Type} {Kc:List Up→Option R} {r:R}
def Ii (O:Nat→Lab) (vs:List (Nat×Ty)):Nat→Lab:=λ k=>match O k with
 |.pl p []=>if Mc vs p then .pl p [] else .fz
 |o=>o
def Hs {O:Nat→Lab} {vs:List (Nat×Ty)} {k:Nat} {o:Lab} (h:O k=o) (ho:∀ p,o ≠ .pl p []):Ii O vs k=o:=by
 unfold Ii;rw[h]
 cases o<;>first|rfl|skip
 rename_i l p
 cases p<;>first|rfl|exact absurd rfl (ho _)
def Su {P:Program} {S:Sit} {lab:Lab} {t:Ty} {z:Lf} {x:t.den} {y:Lf} {u:Value} (hw:mkW t [z]=some x) (hy:A4 t x=[y]) (hz:Af P S lab z u) (ho:Nea t=true∨z.isOwn=false):Af P S lab y u:=by
 cases t with
 |pr p q=>
  have h1:=Ev (.pr p q) x;rw[hy]at h1;have:=Jx p;have:=Jx q;have h2:1=p.sz+q.sz:=h1;omega
 |ow e r=>
  have h1:A5 P S (λ _=>lab) 0 (A4 (.ow e r) x) [u]:=I8 (by trivial) hw ⟨hz,trivial⟩;rw[hy]at h1;exact h1.1
 |i k=>
  cases z<;>first|(simp[mkW,mkT]at hw;done)|skip
  rename_i v
  cases v<;>first|(simp[mkW,mkT]at hw;done)|skip
  rename_i k' n;unfold mkW at hw;simp only[mkT]at hw
  by_cases hk:k=k'
  ·subst hk;simp only[decide_true,cond_true,Vc]at hw;subst hw;simp only[A4,Wq,and_true]at hy;subst hy;exact hz
  ·simp[hk]at hw
 |b=>
  cases z<;>first|(simp[mkW,mkT]at hw;done)|skip
  rename_i v
  cases v<;>first|(simp[mkW,mkT]at hw;done)|skip
  unfold mkW at hw;simp only[mkT,Vc]at hw;subst hw;simp only[A4,Wq,and_true]at hy;subst hy;exact hz
 |s=>
  cases z<;>first|(simp[mkW,mkT]at hw;done)|skip
  rename_i v
  cases v<;>first|(simp[mkW,mkT]at hw;done)|skip
  unfold mkW at hw;simp only[mkT,Vc]at hw;subst hw;simp only[A4,Wq,and_true]at hy;subst hy;exact hz
 |sl e r=>
  simp only[A4,Wq,and_true]at hy;subst hy
  cases z<;>first|(simp[mkW,mkT]at hw;done)|skip
  ·rename_i e' r' xs;unfold mkW at hw;simp only[mkT]at hw;cases hb:Nat.beq e e'
   ·rw[hb]at hw;simp at hw
   rw[hb,cond_true]at hw;have he:e=e':=Vb hb;subst he
   cases hc:Ls r r' xs with
   |none=>rw[hc]at hw;simp at hw
   |some ys=>
    rw[hc]at hw;cases hw;exact Md hc hz
  ·simp[Nea,Lf.isOwn]at ho
def Csa {vs:List (Nat×Ty)} {l:Nat} {t:Ty} (hm:(l,t)∈vs) (ht:Nea t=true):Mc vs l=true:=by
 unfold Mc;rw[List.any_eq_true];refine⟨(l,t),hm,?_⟩
 cases t<;>first|(simp[Nea]at ht;done)|simp
def M2a (K:Ah X S a) (hg:S.g=get A) {all:List (Nat×Ty)} {l:Nat} {t:Ty} {x:t.den} (hm:(l,t)∈all) (h:Hwa A all l t=some x):
  ∀ y,A4 t x=[y]→Af X.P { S with O:=Ii S.O all } (.pl l []) y (S.ph l):=by
 intro y hy;have hfz:∀ k,S.O k = .fz→Ii S.O all k = .fz:=λ k hk=>Hs hk (by simp)
 have L:Ct S { S with O:=Ii S.O all }:=⟨λ _=>Vq _,λ _ _=>rfl,λ p v e r xs' h _=>⟨xs',h,rfl⟩,λ _ _=>rfl,λ k hk=>⟨hfz k hk,rfl⟩,Ct.box_of (λ _ _ _ h=>h) (λ k b h=>⟨Hs h (by simp),rfl⟩),λ p _ hd=>⟨hd,λ _ _ _ h=>h,λ k hk=>by
  refine⟨?_,rfl⟩
  cases hkp:Mc all p with
  |true=>exact .inl (by show Ii S.O all k=_;unfold Ii;rw[hk];simp[hkp])
  |false=>exact .inr (by show Ii S.O all k=_;unfold Ii;rw[hk];simp[hkp])⟩,λ _ _=>rfl⟩
 have hat:=K.at_ l;rw[hg]at hat
 have frz:∀ (p:Nat) (e:TypeId) (r:Ty) (xs:List r.den),Mc all p=false→Cs X.P S.O S.w (.pl p []) e r xs (S.ph p)→Af X.P { S with O:=Ii S.O all } .fz (.fz e r xs) (S.ph p):=by
  intro p e r xs hk ho
  exact ho.reads (O':=Ii S.O all) hfz (λ k hkk=>by
   unfold Ii;rw[hkk]
   simp[hk])
 unfold Hwa at h;split at h
 ·rename_i p v hgl;rw[hgl]at hat;have hat':Af X.P S (.pl l []) (.al p v) (S.ph l):=hat;cases hk:Mc all p
  case true=>rw[hk]at h;simp at h
  rw[hk,cond_false]at h
  have hz:Af X.P { S with O:=Ii S.O all } .fz (Iu (H9 A (.al p v))) (S.ph l):=by
   simp only[H9];split
   ·rename_i n e r xs hp;cases hb:Nat.beq n v
    ·exact trivial
    have hnv:n=v:=by simpa using hb
    subst hnv;rw[cond_true,hat'.2 (by rw[hg,hp])];have h3:=K.at_ p;rw[hg,hp]at h3;exact frz p e r xs hk h3
   ·rename_i n e r xs hp;cases hb:Nat.beq n v
    ·exact trivial
    have hnv:n=v:=by simpa using hb
    subst hnv;rw[cond_true,hat'.2 (by rw[hg,hp])];have h3:=K.at_ p;rw[hg,hp]at h3;exact Ty.rep_mono (t := .sl e r) hfz (λ _ _=>rfl) _ _ h3
   ·exact trivial
  have hno:(Iu (H9 A (.al p v))).isOwn=false:=by cases H9 A (.al p v)<;>rfl
  have:=Su h hy hz (.inr hno)
  have hyo:y.isOwn=false:=by
   cases t<;>first|(simp[A4]at hy;subst hy;rfl)|skip
   ·cases hs:Iu (H9 A (.al p v)) with
    |own e r xs=>rw[hs]at hno;simp[Lf.isOwn]at hno
    |_=>rw[hs]at h;simp[mkW,mkT]at h
   ·rename_i p q;have h1:=Ev (.pr p q) x;rw[hy]at h1;have:=Jx p;have:=Jx q;have h2:1=p.sz+q.sz:=h1;omega
  exact this.relab hyo
 ·rename_i e r xs hgl;rw[hgl]at hat;have hat':Cs X.P S.O S.w (.pl l []) e r xs (S.ph l):=hat
  cases hot:Nea t with
  |true=>
   rw[hot,cond_true]at h;have hkl:=Csa hm hot;have hz:Af X.P { S with O:=Ii S.O all } (.pl l []) (.own e r xs) (S.ph l):=Af.later (x := .own e r xs) L hat (λ k hk=>⟨by show Ii S.O all k=_;unfold Ii;rw[hk];simp[hkl],rfl⟩);exact Su h hy hz (.inl hot)
  |false=>
   rw[hot,cond_false]at h;cases hk:Mc all l
   case true=>rw[hk]at h;simp at h
   rw[hk,cond_false]at h;have:=Su h hy (Af.relab (lab' := .pl l []) rfl (frz l e r xs hk hat')) (.inr rfl);exact this
 ·rename_i z _ hno hgl;rw[hgl]at hat;have hat':Af X.P S (.pl l []) z (S.ph l):=hat
  have hzo:z.isOwn=false:=by
   cases z<;>first|rfl|exact(hno _ _ _ rfl).elim|skip
   all_goals
    exfalso
    cases t<;>first|(simp[mkW,mkT]at h;done)|skip
    rename_i p q;have h1:=Ev (.pr p q) x;rw[hy]at h1;have:=Jx p;have:=Jx q;have h2:1=p.sz+q.sz:=h1;omega
  have hz:Af X.P { S with O:=Ii S.O all } (.pl l []) z (S.ph l):=(Af.relab (lab' := .fz) hzo hat').later (lab' := .fz) L (λ k hk=>⟨hfz k hk,rfl⟩) |>.relab hzo;exact Su h hy hz (.inr hzo)
 ·cases h
end
end

section
attribute [local irreducible] C H
section
variable {X:Cx} {S S1 S2:Sit} {a:Act} {E:En} {A:Ab} {o:Oper} {R:Type} {Kc:List Up→Option R} {r:R}
def No {Q:Nat→Nat×Sv→Prop} (h0:∀ l,Q l (0,.one .dead)):∀ (B:Ab),(∀ e∈B,Q e.1 e.2)→∀ l,Q l (get B l)
 |[],_,l=>h0 l
 |(k,n,s)::B,h,l=>by
  simp only[get]
  cases hb:Nat.beq k l with
  |true=>
   have:k=l:=Vb hb;subst this;exact h (k,n,s) (by simp)
  |false=>exact No h0 B (λ e he=>h e (Vd _ he)) l
def Oy (A:Ab) (all:List (Nat×Ty)):∀ (t:Ty) (l:Nat) (x:t.den),Nfa A all l t=some x→
  ∀ e∈E1a l t x,∃ t',∃ z:t'.den,∃ y,(e.1,t')∈Hxa l t∧Hwa A all e.1 t'=some z∧A4 t' z=[y]∧e.2=(0,.one y)
 |.pr ta tb,l,x,h=>by
  intro e he;simp only[Nfa]at h;split at h
  ·rename_i x1 h1;split at h
   ·rename_i x2 h2;cases h;rcases Vo.1 he with he|he
    ·obtain⟨t',z,y,g1,g2⟩:=Oy A all ta l x1 h1 e he;exact⟨t',z,y,Vt _ g1,g2⟩
    ·obtain⟨t',z,y,g1,g2⟩:=Oy A all tb (l+ta.sz) x2 h2 e he;exact⟨t',z,y,Vi _ g1,g2⟩
   ·cases h
  ·cases h
 |.i k,l,x,h=>λ e he=>by rw[Vz.1 he];exact⟨.i k,x,_,Vz.2 rfl,h,rfl,rfl⟩
 |.b,l,x,h=>λ e he=>by rw[Vz.1 he];exact⟨.b,x,_,Vz.2 rfl,h,rfl,rfl⟩
 |.s,l,x,h=>λ e he=>by rw[Vz.1 he];exact⟨.s,x,_,Vz.2 rfl,h,rfl,rfl⟩
 |.sl q r,l,x,h=>λ e he=>by rw[Vz.1 he];exact⟨.sl q r,x,_,Vz.2 rfl,h,rfl,rfl⟩
 |.ow q r,l,x,h=>λ e he=>by rw[Vz.1 he];exact⟨.ow q r,x,_,Vz.2 rfl,h,rfl,rfl⟩
def Um:∀ (vs:List (Nat×Ty)) (all:List (Nat×Ty)) (x:Den (vs.map Prod.snd)),Hya A all vs=some x→
  ∀ e∈Tu vs x,∃ t,∃ z:t.den,∃ y,(e.1,t)∈Rx vs∧Hwa A all e.1 t=some z∧A4 t z=[y]∧e.2=(0,.one y)
 |[],_,_,_=>by simp[Tu]
 |[v],all,x,h=>λ e he=>by
  obtain⟨t,z,y,h1,h2⟩:=Oy A all v.2 v.1 x h e he;exact⟨t,z,y,Vt _ h1,h2⟩
 |v::w::l,all,x,h=>by
  simp only[Hya]at h;split at h
  ·rename_i x1 hx1;split at h
   ·rename_i x2 hx2;cases h;intro e he;rcases Vo.1 he with he|he
    ·obtain⟨t,z,y,h1,h2⟩:=Oy A all v.2 v.1 x1 hx1 e he;exact⟨t,z,y,Vt _ h1,h2⟩
    ·obtain⟨t,z,y,h1,h2,h3,h4⟩:=Um (w::l) all x2 hx2 e he;exact⟨t,z,y,Vi _ h1,h2,h3,h4⟩
   ·cases h
  ·cases h
def Ms:∀ (cs:List (Nat×Lf)),E0a A cs=true→∀ c∈cs,
  (∃ b off v,c.2 = .bp b 0 off∧(get A c.1).2 = .one (.bp b v off)∧(get A (H b)).1=v)∨(∃ m,c.2 = .hd m∧(get A c.1).2 = .one (.hd m))∨
   (∃ F bs bs',c.2 = .fn F bs∧(get A c.1).2 = .one (.fn F bs')∧Xa bs bs'=true∧Ij A bs'=true)∨∃ p,c.2 = .io p∧(get A c.1).2 = .one (.io p)
 |[],_,c,hc=>by simp at hc
 |(l,z)::cs,h,c,hc=>by
  cases z with
  |bp b v0 off=>
   simp only[E0a,Va]at h;obtain⟨h1,h2⟩:=h;rcases Vk.1 hc with rfl|hc
   ·split at h1
    ·rename_i n b' v off' hg;simp only[Va]at h1;obtain⟨⟨⟨e1,e2⟩,e3⟩,e4⟩:=h1;have e1:v0=0:=Vb e1;have e2:b=b':=Vb e2;have e3:off=off':=Vb e3;subst e1 e2 e3;split at e4
     ·rename_i n' m' hh;have:n'=v:=Vb e4;refine .inl ⟨b,off,v,rfl,by rw[hg],by rw[hh,this]⟩
     ·cases e4
    ·cases h1
   ·exact Ms cs h2 c hc
  |hd m=>
   simp only[E0a,Va]at h;obtain⟨h1,h2⟩:=h;rcases Vk.1 hc with rfl|hc
   ·split at h1
    ·rename_i n m' hg;have:m=m':=Vb h1;subst this;exact .inr (.inl ⟨m,rfl,by rw[hg]⟩)
    ·cases h1
   ·exact Ms cs h2 c hc
  |fn F bs=>
   simp only[E0a,Va]at h;obtain⟨h1,h2⟩:=h;rcases Vk.1 hc with rfl|hc
   ·split at h1
    ·rename_i n F' bs' hg;simp only[Va]at h1;have e1:F=F':=Vb h1.1.1;subst e1;exact .inr (.inr (.inl ⟨F,bs,bs',rfl,by rw[hg],h1.1.2,h1.2⟩))
    ·cases h1
   ·exact Ms cs h2 c hc
  |io p=>
   simp only[E0a,Va]at h;obtain⟨h1,h2⟩:=h;rcases Vk.1 hc with rfl|hc
   ·split at h1
    ·rename_i n p' hg;have e1:p=p':=Vb h1;subst e1;exact .inr (.inr (.inr ⟨p,rfl,by rw[hg]⟩))
    ·cases h1
   ·exact Ms cs h2 c hc
  |_=>simp[E0a]at h
def F9a {S S':Sit} {A:Ab} (hg:S.g=get A) (hb:S'.bb=S.bb):∀ {bs bs':List (Nat×Nat)} {us:List Value},Xa bs bs'=true→Ij A bs'=true→Pg S bs' us→Pg S' bs us
 |[],[],us,_,_,h=>h
 |[],_::_,_,h,_,_=>by simp[Xa]at h
 |_::_,[],_,h,_,_=>by simp[Xa]at h
 |a::bs,c::bs',us,hs,ha,h=>by
  obtain⟨u,us',e,⟨h1,h2⟩,h3⟩:=h;simp only[Xa,Va]at hs;simp only[Ij,Va]at ha;have e1:a.1=c.1:=Vb hs.1.1;have e2:a.2=0:=Vb hs.1.2;refine⟨u,us',e,⟨by rw[e2];exact Wf _,λ _=>?_⟩,F9a hg hb hs.2 ha.2 h3⟩;rw[hb,e1];exact h2 (by rw[hg];exact Vb ha.1)
def Un {v:Ti} {x:v.den} {e:Nat×Nat×Sv} (h:e∈Of v x):e∈Tu v.vs x∨∃ c∈v.cs,e=(c.1,0,.one c.2):=by
 rcases Vo.1 h with h|h
 ·exact .inl h
 ·obtain⟨c,hc,rfl⟩:=Za.1 h;exact .inr ⟨c,hc,rfl⟩
def Faa (K:Ah X S a) (hg:S.g=get A) {v:Ti} {x:v.den} (h:Lca v A=some x):∃ S',Ah X S' a∧S'.g=get (Of v x)∧S'.w=S.w:=by
 unfold Lca at h;obtain⟨hc,h⟩:=cs h;have hfz:∀ k,S.O k = .fz→Ii S.O (Rx v.vs) k = .fz:=λ k hk=>Hs hk (by simp);have hmem:=Um v.vs (Rx v.vs) x h;have hcm:=Ms v.cs hc;refine⟨{ S with O:=Ii S.O (Rx v.vs),g:=get (Of v x) },K.ghost _ _ (λ k e=>Hs e (by simp)) (λ k e1 e2=>e1 (Hs e2 (by simp))) hfz (λ k b e=>Hs e (by simp)) (λ b n hb=>?_) ?_,rfl,rfl⟩
 ·-- a box that is Hn was one
  have key:∀ l,(∀ n,(get (Of v x) l).2 = .one (.hd n)→(S.g l).2 = .one (.hd n)):=by
   refine No (Q:=λ l s=>∀ n,s.2 = .one (.hd n)→(S.g l).2 = .one (.hd n)) (λ l n hn=>by cases hn) _ (λ e he n hn=>?_);rcases Un he with he|⟨c,hcc,rfl⟩
   ·obtain⟨t,z,y,_,_,h3,h4⟩:=hmem e he;rw[h4]at hn;have hy:=Hj t z y (by rw[h3];simp);simp only[Sv.one.injEq]at hn;rw[hn]at hy;simp[Ef]at hy
   ·rcases hcm c hcc with⟨b',off,v',e1,_⟩|⟨m,e1,e2⟩|⟨F,bs,bs',e1,_⟩|⟨p,e1,_⟩
    rotate_left 2
    ·rw[e1]at hn;cases hn
    ·rw[e1]at hn;cases hn
    ·rw[e1]at hn;cases hn
    ·rw[e1]at hn;cases hn;rw[hg];exact e2
  exact key _ n hb
 ·refine No (Q:=λ l s=>Gi X.P { S with O:=Ii S.O (Rx v.vs),g:=get (Of v x) } l s.2 (S.ph l)) (λ l=>trivial) _ (λ e he=>?_);rcases Un he with he|⟨c,hcc,rfl⟩
  ·obtain⟨t,z,y,h1,h2,h3,h4⟩:=hmem e he;rw[h4];have hy:=Hj t z y (by rw[h3];simp);exact Af.bare (S1 := { S with O:=Ii S.O (Rx v.vs) }) hy rfl (λ k hk=>hk) (λ k hk=>hk) (M2a K hg h1 h2 y h3)
  ·rcases hcm c hcc with⟨b',off,v',e1,e2,e3⟩|⟨m,e1,e2⟩|⟨F,bs,bs',e1,e2,e3,e4⟩|⟨p,e1,e2⟩
   rotate_left 3
   ·rw[e1];have hat:=K.at_ c.1;rw[hg,e2]at hat;exact(hat:Af X.P S (.pl c.1 []) (.io p) (S.ph c.1))
   rotate_left 2
   ·rw[e1];have hat:=K.at_ c.1;rw[hg,e2]at hat;obtain⟨us,h5,h6⟩:Af X.P S (.pl c.1 []) (.fn F bs') (S.ph c.1):=hat;exact⟨us,h5,F9a (S' := { S with O:=Ii S.O (Rx v.vs),g:=get (Of v x) }) hg rfl e3 e4 h6⟩
   ·rw[e1];have hat:=K.at_ c.1;rw[hg,e2]at hat;have hat':Af X.P S (.pl c.1 []) (.bp b' v' off) (S.ph c.1):=hat;refine⟨Wf _,λ _=>hat'.2 (by rw[hg];exact e3)⟩
   ·rw[e1];trivial
def Pra (X:Cx) (Q:Exit→Act→World→Prop) (K:Ex→Ab→Option R) (r:R):Prop:=∀ e S a A,Ah X S a→S.g=get A→K e A=some r→Q (B1a e) a S.w
def Uo (X:Cx) (L:Lp) (c:Code):Prop:=∀ x y,L.run x=some y→∀ S a,Ah X S a→S.g=get (Of L.ins x)→∀ Q:Exit→Act→World→Prop,
 (∀ e A S' a',Lda (λ e A=>some (e,A)) L.alts y=some (e,A)→Ah X S' a'→S'.g=get A→Q (B1a e) a' S'.w)→(Code.loop c).wp X.P Q a S.w
def Ih (X:Cx) (E:En):Code→Prop
 |.seq a b=>Ih X E a∧Ih X E b
 |.cond _ a b=>Ih X E a∧Ih X E b
 |.block _ c=>Ih X E c
 |.loop c=>∀ L,E.lp (first c)=some L→Uo X L c
 |_=>True
def Uq (X:Cx) (E:En):Prop:=∀ {R:Type} (id:Nat) (ops:Array Oper) (Q:Exit→Act→World→Prop) (S:Sit) (a:Act) (A:Ab) (K:Ab→Option R) (r:R),Ah X S a→S.g=get A→Kda E ops.toList A K=some r→Qla X Q K r→(Code.region id ops true).wp X.P Q a S.w
def Ur {K:Ex→Ab→Option R}:∀ (l:List (Ex×Ti)) (y:Hta l) (r:R),Lda K l y=some r→∃ e A,Lda (λ e A=>some (e,A)) l y=some (e,A)∧K e A=some r
 |[],y,_,_=>nomatch y
 |[b],y,r,h=>⟨_,_,rfl,h⟩
 |b::b2::l,.inl y,r,h=>⟨_,_,rfl,h⟩
 |b::b2::l,.inr z,r,h=>Ur (b2::l) z r h
def Iwa {A:Ab} {c:Operand} {b:Bool} (h:opT E 0 A c=some (.one (.sc (.bool b)))):get (Pga E A c b)=get A:=by
 cases c with
 |tmp t=>
  unfold Pga;cases E.rf
  ·rfl
  have h:(bif Nat.blt t E.nt then some (get A t).2 else none)=some (.one (.sc (.bool b))):=h;cases hb:Nat.blt t E.nt
  ·rw[hb]at h;cases h
  rw[hb,cond_true,Vc]at h;funext l;show (bif Nat.beq t l then _ else get A l)=get A l;cases hl:Nat.beq t l
  ·rfl
  rw[← Vb hl,cond_true,cond_true,← h]
 |_=>rfl
def Us (hV:Pv X E) (hD:Uq X E):∀ (c:Code) {S:Sit} {a:Act} {A:Ab} {Q:Exit→Act→World→Prop} {R:Type} {K:Ex→Ab→Option R} {r:R},Ih X E c→Ah X S a→S.g=get A→Ik E c A K=some r→Pra X Q K r→c.wp X.P Q a S.w:=by
 intro c
 induction c with
 |skip=>intro S a A Q R K r hL hK hg h hQ;exact wp_skip (hQ .normal S a A hK hg h)
 |region id ops draw=>
  intro S a A Q R K r hL hK hg h hQ;unfold Ik at h;obtain⟨A1,S1,h,K1,g1,w1⟩:=J4 hV.en _ hK hg h;rw[← w1]
  cases draw with
  |true=>exact hD id ops Q S1 a A1 _ r K1 g1 h (λ S' a' A' K' g' h'=>hQ .normal S' a' A' K' g' h')
  |false=>exact wp_region (St hV _ K1 g1 h (λ S' a' A' K' g' h'=>hQ .normal S' a' A' K' g' h'))
 |seq x y ihx ihy=>
  intro S a A Q R K r hL hK hg h hQ;unfold Ik at h;refine wp_seq (ihx hL.1 hK hg h (λ e S' a' A' K' g' h'=>?_))
  cases e with
  |normal=>exact ihy hL.2 K' g' h' hQ
  |exit i=>exact hQ (.exit i) S' a' A' K' g' h'
  |ret=>exact hQ .ret S' a' A' K' g' h'
 |cond x y z ihy ihz=>
  intro S a A Q R K r hL hK hg h hQ;unfold Ik at h;split at h
  ·rename_i b hx;have e1:=(Io hV.en hK hg hx).1;have hg2:=hg.trans (Iwa hx).symm
   cases b with
   |true=>exact wp_cond_true e1 (ihy hL.1 hK hg2 h hQ)
   |false=>exact wp_cond_false e1 (ihz hL.2 hK hg2 h hQ)
  ·cases h
 |block id c ih=>
  intro S a A Q R K r hL hK hg h hQ;unfold Ik at h;refine wp_block (ih hL hK hg h (λ e S' a' A' K' g' h'=>?_))
  cases e with
  |normal=>exact hQ .normal S' a' A' K' g' h'
  |exit i=>
   show (if i=id then Q .normal a' S'.w else Q (.exit i) a' S'.w);simp only at h'
   cases hb:Nat.beq i id with
   |true=>
    rw[hb,cond_true]at h';rw[if_pos (Vb hb)];exact hQ .normal S' a' A' K' g' h'
   |false=>
    rw[hb,cond_false]at h';rw[if_neg (λ e=>by rw[e]at hb;simp at hb)];exact hQ (.exit i) S' a' A' K' g' h'
  |ret=>exact hQ .ret S' a' A' K' g' h'
 |loop c ih=>
  intro S a A Q R K r hL hK hg h hQ;unfold Ik at h;split at h
  ·rename_i L hLp;obtain⟨A0,S0,h,hK,hg,w0⟩:=J4 hV.en _ hK hg h;rw[← w0];split at h
   ·rename_i x hx
    cases hr:L.run x with
    |none=>rw[hr]at h;simp at h
    |some y=>
     rw[hr]at h;simp only[Vv]at h;obtain⟨S1,K1,g1,w1⟩:=Faa hK hg hx;rw[← w1];obtain⟨e0,A0,h0,h1⟩:=Ur L.alts y r h;refine hL L hLp x y hr S1 a K1 g1 Q (λ e A' S' a' h2 K' g'=>?_);rw[h0]at h2;cases h2;exact hQ _ S' a' _ K' g' h1
   ·cases h
  ·cases h
 |exit id=>intro S a A Q R K r hL hK hg h hQ;exact wp_exit (hQ (.exit id) S a A hK hg h)
 |ret=>intro S a A Q R K r hL hK hg h hQ;exact wp_ret (hQ .ret S a A hK hg h)
 |_=>intro S a A Q R K r hL hK hg h hQ;unfold Ik at h;cases h
end
end

section
attribute [local irreducible] C H
section
variable {X:Cx} {E:En} {A:Ab}
def Koa {e e':Ex} (h:exB e e'=true):e=e':=by
 cases e<;>cases e'<;>first|rfl|(simp[exB]at h;done)|skip
 simp only[exB]at h;rw[Vb h]
def B2a {e:Ex} {A:Ab}:∀ (l:List (Ex×Ti)) (y:Hta l),Cba e A l=some y→∃ v,∃ z:v.den,Lda (λ e A=>some (e,A)) l y=some (e,Of v z)∧Lca v A=some z
 |[],y,_=>nomatch y
 |[b],y,h=>by
  simp only[Cba]at h;obtain⟨hb,h⟩:=cs h;exact⟨b.2,y,by rw[Koa hb];rfl,h⟩
 |b::b2::l,y,h=>by
  simp only[Cba]at h
  cases hb:exB e b.1 with
  |true=>
   rw[hb,cond_true]at h;split at h
   ·rename_i x hx;cases h;exact⟨b.2,x,by rw[Koa hb];rfl,hx⟩
   ·cases h
  |false=>
   rw[hb,cond_false]at h;split at h
   ·rename_i x hx;cases h;exact B2a (b2::l) x hx
   ·cases h
def M3a {ins:Ti} {alts:List (Ex×Ti)} {f:Nat→ins.den→Option (Hta alts)} {En':Nat→En} {c:Code} (h0:∀ x,f 0 x=none) (hs:∀ k x,E2a (En' k) ⟨ins,alts,f k⟩ c x=f (k+1) x)
  (hV:∀ k,Pv X (En' k)) (hD:∀ k,Uq X (En' k)) (hL:∀ k,Ih X (En' k) c):∀ k,Uo X ⟨ins,alts,f k⟩ c:=by
 intro k x y hy S a K hg Q hQ
 let J:Nat→Act→World→Prop:=λ n a w=>∃ x y S,f n x=some y∧Ah X S a∧S.g=get (Of ins x)∧S.w=w∧
  (∀ e A S' a',Lda (λ e A=>some (e,A)) alts y=some (e,A)→Ah X S' a'→S'.g=get A→Q (B1a e) a' S'.w)
 refine Cra J (n:=k) ⟨x,y,S,hy,K,hg,rfl,hQ⟩ ?_;rintro n a w ⟨x,y,S,hy,K,hg,rfl,hQ⟩
 cases n with
 |zero=>rw[h0]at hy;cases hy
 |succ m=>
  rw[← hs]at hy;unfold E2a at hy;refine Us (hV m) (hD m) c (hL m) K hg hy (λ e S' a' A' K' g' h'=>?_)
  have ends:∀ {e:Ex},Jd (En' m) ((En' m).gh (1000001+first c)) A' (λ A=>Cba e A alts)=some y→Q (B1a e) a' S'.w:=by
   intro e h;obtain⟨A',S2,h,K',g',w2⟩:=J4 (hV m).en _ K' g' h;rw[← w2];obtain⟨v,z,h1,h2⟩:=B2a alts y h;obtain⟨S1,K1,g1,w1⟩:=Faa K' g' h2;rw[← w1];exact hQ e _ S1 a' h1 K1 g1
  cases e with
  |normal=>
   obtain⟨A',S2,h',K',g',w2⟩:=J4 (hV m).en _ K' g' h';split at h'
   ·rename_i x' hx';obtain⟨S1,K1,g1,w1⟩:=Faa K' g' hx';exact⟨m,Nat.lt_succ_self m,x',y,S1,h',K1,g1,w1.trans w2,hQ⟩
   ·cases h'
  |exit i=>exact ends h'
  |ret=>exact ends h'
end
end

def uix (nv b:Nat):Nat:=if b<1500 then b else nv+(b-1500)
def bbS (nv:Nat) (us:List Value):Nat→Nat×Nat:=λ b=>match us[uix nv b]? with
 |some (.pointer (some ad))=>(ad.block,ad.off)
 |_=>(0,0)
def ioV (ps:List Par) (us:List Value) (p:Nat):Value:=match ps[p/1000-3001]?,us[p/1000-3001]? with
 |some (.io true _),some (.agg vs)=>vs.getD (p % 1000) undef
 |some (.io false _),some u=>u
 |_,_=>undef
def phS (nv:Nat) (ps:List Par) (us:List Value) (w:World):Nat→Value:=λ p=>if p<1000 then (us.take nv).getD p undef else if 3001000≤p then ioV ps us p else (w.cell? ⟨(bbS nv us (p/1000-1)).1,(bbS nv us (p/1000-1)).2+p % 1000,none⟩).getD undef
def S0 (nv:Nat) (ps:List Par) (ls:List (List Lf)) (us:List Value) (O:Nat→Lab) (w:World):Sit:=⟨O,bbS nv us,get (Gq nv 0 ps ls),phS nv ps us w,w⟩
def M4a {nv i:Nat} (hn:nv≤1000):uix nv (bid nv i)=i:=by
 unfold uix bid
 cases h:Nat.blt i nv with
 |true=>
  have h1:i<nv:=Ve h;rw[cond_true,if_pos (by omega)]
 |false=>
  have h1:¬ i<nv:=λ h2=>by rw[show Nat.blt i nv=true from Yn h2]at h;cases h
  rw[cond_false,if_neg (by omega)];omega
def Fba {nv i:Nat} (h:i<nv):bid nv i=i:=by
 unfold bid;rw[show Nat.blt i nv=true from Yn h];rfl
def Ut {nv i n:Nat} (h:i<n) (hn:nv≤1000) (h2:n-nv<500):bid nv i<2000:=by
 unfold bid
 cases h3:Nat.blt i nv with
 |true=>
  have h1:i<nv:=Ve h3;rw[cond_true];omega
 |false=>rw[cond_false];omega
def Fca {b j:Nat} (h:j<999):(b<3000→¬ 3001000≤C b j)∧(3000≤b→3001000≤C b j):=by unfold C;omega
def M5a {b j:Nat} (h:j<999):C b j/1000-1=b∧C b j % 1000=j∧¬ C b j<1000:=by unfold C;omega
def Fda:∀ (b j:Nat) (l:List Lf) (A:Ab),∀ e∈ups A (Bo b j l),e∈A∨∃ n v x,l[n]? = some x∧e=(C b (j+n),v,.one x)
 |b,j,[],A,e,h => .inl h
 |b,j,x::l,A,e,h=>by
  rcases Fda b (j+1) l (up A ⟨C b j,false,.one x⟩) e h with h|⟨n,v,y,h1,h2⟩
  ·rcases Vk.1 h with h|h
   ·exact .inr ⟨0,_,x,rfl,by rw[Yu];exact h⟩
   ·exact .inl h
  ·exact .inr ⟨n+1,v,y,by simpa using h1,by rw[show j+(n+1)=j+1+n by omega];exact h2⟩
def Nga (B n:Nat) (l:List Lf) (e:Nat×Nat×Sv):Prop:=e=(H B,0,.one (.hd n))∨∃ n v x,l[n]? = some x∧e=(C B n,v,.one x)
def Np:∀ (b j:Nat) (l:List Lf),∀ e∈Pb b j l,∃ n v x,l[n]? = some x∧e=(C b (j+n),v,.one x)
 |b,j,[],e,h=>by simp[Pb]at h
 |b,j,x::l,e,h=>by
  rcases Vk.1 h with h|h
  ·exact⟨0,_,x,rfl,by rw[Yu];exact h⟩
  ·obtain⟨n,v,y,h1,h2⟩:=Np b (j+1) l e h;exact⟨n+1,v,y,by simpa using h1,by rw[show j+(n+1)=j+1+n by omega];exact h2⟩
def Oda (nv i:Nat):Par→List Lf→Nat×Nat×Sv→Prop
 |.io ag _,l,e=>e=(i,0,(bif ag then .agg (vwL (3000+i) 0 l) else .one (Kea (ioL (3000+i) 0 l))))∨∃ n v x,l[n]? = some x∧e=(C (3000+i) n,v,.one x)
 |.vw _ h,l,e=>e=(i,0,.agg (vwL (bid nv h) 0 l))
 |.val ag t,l,e=>e=(i,0,(bif ag then .agg l else .one (Kea l)))
 |.ptr t _,l,e=>e=(i,0,.one (.bp i 0 0))∨Nga (bid nv i) t.sz l e
 |.hid t _,l,e=>Nga (bid nv i) t.sz l e
 |.rd t,l,e=>∃ x,mkW t l=some x∧e=(i,0,.one (.fp t x 0))
 |.fn F m,_,e=>e=(i,0,.one (.fn F ((List.range m).map λ j=>(bid nv (nv+j),0))))
def Fea {B n:Nat} {l:List Lf} {R:Ab} {e:Nat×Nat×Sv} (he:e∈(H B,0,Sv.one (.hd n))::(Pb B 0 l++R)):Nga B n l e∨e∈R:=by
 rcases Vk.1 he with he|he
 ·exact .inl (.inl he)
 ·rcases Vo.1 he with he|he
  ·obtain⟨n,v,x,g1,g2⟩:=Np B 0 l e he;exact .inl (.inr ⟨n,v,x,g1,by rw[g2,Wb]⟩)
  ·exact .inr he
def Ixa {B n:Nat} {l:List Lf} {R:Ab} {e:Nat×Nat×Sv} (he:e∈(H B,0,Sv.one (.hd n))::(ups [] (Bo B 0 l)++R)):Nga B n l e∨e∈R:=by
 rcases Vk.1 he with he|he
 ·exact .inl (.inl he)
 ·rcases Vo.1 he with he|he
  ·rcases Fda B 0 l [] e he with he|⟨n,v,x,g1,g2⟩
   ·cases he
   ·exact .inl (.inr ⟨n,v,x,g1,by rw[g2,Wb]⟩)
  ·exact .inr he
def Uu {P:Program} {S:Sit} {rg:Nat→Nat×Nat} {nv:Nat} {hs:List Value}:∀ (ps:List Par) (i:Nat) (ls:List (List Lf)) (us:List Value),Ip P S rg nv hs i ps ls us→∀ e∈Gq nv i ps ls,
  ∃ j p l u,us[j]? = some u∧ps[j]? = some p∧l∈ls∧Cja P S rg nv hs (i+j) p l u∧Oda nv (i+j) p l e
 |[],i,[],[],_,e,he=>by simp[Gq]at he
 |[],i,[],_::_,h,_,_=>h.elim
 |[],i,_::_,_,h,_,_=>h.elim
 |_::_,i,[],_,h,_,_=>h.elim
 |_::_,i,_::_,[],h,_,_=>h.elim
 |p::ps,i,l::ls,u::us,h,e,he=>by
  obtain⟨h1,h2⟩:=h;have here:Oda nv i p l e→∃ j p' l' u',(u::us)[j]? = some u'∧(p::ps)[j]? = some p'∧l'∈l::ls∧Cja P S rg nv hs (i+j) p' l' u'∧Oda nv (i+j) p' l' e:=λ he=>⟨0,p,l,u,rfl,rfl,by simp,h1,he⟩
  have rest:e∈Gq nv (i+1) ps ls→∃ j p' l' u',(u::us)[j]? = some u'∧(p::ps)[j]? = some p'∧l'∈l::ls∧Cja P S rg nv hs (i+j) p' l' u'∧Oda nv (i+j) p' l' e:=λ he=>by
   obtain⟨j,p',l',u',g1,g2,g3,g4,g5⟩:=Uu ps (i+1) ls us h2 e he;refine⟨j+1,p',l',u',by simpa using g1,by simpa using g2,Vd _ g3,?_⟩;rw[show i+(j+1)=i+1+j by omega];exact⟨g4,g5⟩
  cases p with
  |val ag t=>
   have he':e=(i,0,(bif ag then .agg l else .one (Kea l)))∨e∈Gq nv (i+1) ps ls:=Vk.1 he;rcases he' with he|he
   ·exact here he
   ·exact rest he
  |io ag t=>
   have he':e∈(i,0,(bif ag then Sv.agg (vwL (3000+i) 0 l) else .one (Kea (ioL (3000+i) 0 l))))::(Pb (3000+i) 0 l++Gq nv (i+1) ps ls):=he;rcases Vk.1 he' with he|he
   ·exact here (.inl he)
   ·rcases Vo.1 he with he|he
    ·obtain⟨n,v,x,g1,g2⟩:=Np _ 0 l e he;exact here (.inr ⟨n,v,x,g1,by rw[g2,Wb]⟩)
    ·exact rest he
  |ptr t t'=>
   have he':e∈(i,0,Sv.one (.bp i 0 0))::(H i,0,Sv.one (.hd t.sz))::(ups [] (Bo i 0 l)++Gq nv (i+1) ps ls):=he;rcases Vk.1 he' with he|he
   ·exact here (.inl he)
   ·rcases Ixa he with he|he
    ·exact here (.inr (by rw[Fba h1.1];exact he))
    ·exact rest he
  |vw t h0=>
   have he':e∈(i,0,Sv.agg (vwL (bid nv h0) 0 l))::Gq nv (i+1) ps ls:=he;rcases Vk.1 he' with he|he
   ·exact here he
   ·exact rest he
  |hid t t'=>
   rcases Fea he with he|he
   ·exact here he
   ·exact rest he
  |rd t=>
   have he':e∈(match mkW t l with
    |some x=>(i,0,Sv.one (.fp t x 0))::Gq nv (i+1) ps ls
    |none=>Gq nv (i+1) ps ls):=he
   split at he'
   ·rename_i x hx;rcases Vk.1 he' with he|he
    ·exact here ⟨x,hx,he⟩
    ·exact rest he
   ·exact rest he'
  |fn F m=>
   have he':e∈(i,0,Sv.one (.fn F ((List.range m).map λ j=>(bid nv (nv+j),0))))::Gq nv (i+1) ps ls:=he;rcases Vk.1 he' with he|he
   ·exact here he
   ·exact rest he
def B3a {P:Program} {S:Sit} {rg:Nat→Nat×Nat} {nv:Nat} {hs:List Value}:∀ (ps:List Par) (i:Nat) (ls:List (List Lf)) (us:List Value),Ip P S rg nv hs i ps ls us→us.length=ps.length
 |[],i,[],[],_=>rfl
 |[],i,[],_::_,h=>h.elim
 |[],i,_::_,_,h=>h.elim
 |_::_,i,[],_,h=>h.elim
 |_::_,i,_::_,[],h=>h.elim
 |_::ps,i,_::ls,_::us,h=>by simp[B3a ps (i+1) ls us h.2]
def Ip.at {P:Program} {S:Sit} {rg:Nat→Nat×Nat} {nv:Nat} {hs:List Value}:∀ {ps:List Par} {i:Nat} {ls:List (List Lf)} {us:List Value} {j:Nat} {p:Par},Ip P S rg nv hs i ps ls us→ps[j]? = some p→∃ l u,us[j]? = some u∧Cja P S rg nv hs (i+j) p l u
 |[],i,_,_,j,p,_,hj=>by simp at hj
 |_::_,i,[],_,_,_,h,_=>h.elim
 |_::_,i,_::_,[],_,_,h,_=>h.elim
 |q::ps,i,l::ls,u::us,0,p,h,hj=>by
  simp only[Zl,Vc]at hj;subst hj;exact⟨l,u,rfl,h.1⟩
 |q::ps,i,l::ls,u::us,j+1,p,h,hj=>by
  obtain⟨l',u',h1,h2⟩:=Ip.at (j:=j) (p:=p) h.2 (by simpa using hj);exact⟨l',u',by simpa using h1,by rw[show i+(j+1)=i+1+j by omega];exact h2⟩
def Ffa:Par→Bool
 |.hid _ _=>true
 |_=>false
def Px {nv:Nat}:∀ {ps:List Par} {i j:Nat} {p:Par},Hk nv i ps=true→ps[j]? = some p→if Ffa p then nv≤i+j else i+j<nv
 |[],_,_,_,_,h=>by simp at h
 |q::ps,i,0,p,h,hj=>by
  simp only[Zl,Vc]at hj;subst hj
  cases q<;>simp only[Hk,Va]at h<;>simp only[Ffa,Wd,if_false,if_true]<;>exact Ve h.1
 |q::ps,i,j+1,p,h,hj=>by
  have h2:Hk nv (i+1) ps=true:=by cases q<;>simp only[Hk,Va]at h<;>exact h.2
  have:=Px (i:=i+1) (j:=j) (p:=p) h2 (by simpa using hj);rw[show i+(j+1)=i+1+j by omega];exact this
def A5.get {P:Program} {S:Sit} {f:Nat→Lab} {l:List Lf} {us:List Value} {n:Nat} {x:Lf} (h:A5 P S f 0 l us) (hx:l[n]? = some x):∃ u,us[n]? = some u∧Af P S (f n) x u:=by
 have hn:n<l.length:=(Wh.1 hx).1;obtain⟨x',u',e1,_,e3,e4⟩:=h.at n hn;rw[Vn,hx]at e1;simp only[Zc]at e1;subst e1;rw[Wb]at e4;exact⟨u',e3,e4⟩
def Uv {nv j:Nat} {us:List Value} {k o:Nat} (hn:nv≤1000) (h:us[j]? = some (.pointer (some ⟨k,o,none⟩))):bbS nv us (bid nv j)=(k,o):=by
 unfold bbS;rw[M4a hn,h]
def B4a {P:Program} {O:Nat→Lab} {w:World} {rg:Nat→Nat×Nat} {nv:Nat} {hs:List Value} {ps:List Par} {ls:List (List Lf)} {us:List Value} (hn9:nv≤1000)
  (hmem:∀ e∈Gq nv 0 ps ls,∃ j p l u,us[j]? = some u∧ps[j]? = some p∧l∈ls∧Cja P (bare O w) rg nv hs (0+j) p l u∧Oda nv (0+j) p l e)
  (hsol:∀ l∈ls,∀ y∈l,Ef y=true) (e:Nat×Nat×Sv) (he:e∈Gq nv 0 ps ls) (b n:Nat) (hb:e.1=H b) (hn:e.2.2 = .one (.hd n)):
  ∃ (j k o:Nat) (c:Array Value) (e0:TypeId) (vs:List Value),j<ps.length∧b=bid nv j∧bbS nv us b=(k,o)∧w.heap[k]? = some (.cells c e0 (0,0))∧O k = .bx b∧rg b=(o,n)∧o+n≤c.size∧n<999∧(∀ i,i<n→c[o+i]? = vs[i]?)∧n≤vs.length:=by
 obtain⟨j,p,l,u,g1,g2,g3,g4,g5⟩:=hmem e he;simp only[Wb]at g4 g5;have hj:j<ps.length:=(Wh.1 g2).1
 have box:∀ {t:Ty},R6 P (bare O w) rg (bid nv j) t l u→Nga (bid nv j) t.sz l e→∃ (j k o:Nat) (c:Array Value) (e0:TypeId) (vs:List Value),j<ps.length∧b=bid nv j∧bbS nv us b=(k,o)∧w.heap[k]? = some (.cells c e0 (0,0))∧O k = .bx b∧rg b=(o,n)∧o+n≤c.size∧n<999∧(∀ i,i<n→c[o+i]? = vs[i]?)∧n≤vs.length:=by
  rintro t ⟨k,o,c,e0,vs,rfl,f2,f3,f4,f5,f6,f7,f8,f9⟩ g5;have hbb:=Uv hn9 g1;rcases g5 with rfl|⟨i,v,x,hx,rfl⟩
  ·have hjb:bid nv j=b:=Rz hb;subst hjb;simp only[Sv.one.injEq,Lf.hd.injEq]at hn;subst hn;have hvl:=f9.len;exact⟨j,k,o,c,e0,vs,hj,rfl,hbb,f2,f3,f4,f5,f6,f8,by omega⟩
  ·have:=hsol _ g3 x (Zt hx);simp only[Sv.one.injEq]at hn;rw[hn]at this;simp[Ef]at this
 cases p with
 |val ag t=>
  have g5:e=(j,0,(bif ag then .agg l else .one (Kea l))):=g5;subst g5;cases ag
  case true=>cases hn
  simp only[cond_false,Sv.one.injEq]at hn
  cases l with
  |nil=>cases hn
  |cons x l=>
   cases l with
   |cons y l=>cases hn
   |nil=>
    have:=hsol _ g3 x (by simp);have hx:x = .hd n:=hn;rw[hx]at this;simp[Ef]at this
 |io ag t=>
  have nohd:∀ (l':List Lf) (B i:Nat),(∀ y∈l',Ef y=true)→∀ y∈ioL B i l',∀ n,y ≠ .hd n:=by
   intro l'
   induction l' with
   |nil=>intro B i _ y hy;simp[ioL]at hy
   |cons z l' ih=>
    intro B i hs y hy n e;subst e;have h2:=hs z (by simp)
    cases z<;>first|(simp[Ef]at h2;done)|skip
    all_goals
     rcases Vk.1 hy with h|h
     ·cases h
     ·exact ih B (i+1) (λ y hy=>hs y (Vd _ hy)) _ h n rfl
  rcases g5 with rfl|⟨m,v,x,hx,rfl⟩
  ·cases ag
   case true=>cases hn
   simp only[cond_false,Sv.one.injEq]at hn;have h2:=nohd l (3000+j) 0 (hsol _ g3);generalize ioL (3000+j) 0 l=l' at hn h2
   cases l' with
   |nil=>cases hn
   |cons x l'=>
    cases l' with
    |cons y l'=>cases hn
    |nil=>exact absurd hn (h2 x (by simp) n)
  ·have:=hsol _ g3 x (Zt hx);simp only[Sv.one.injEq]at hn;rw[hn]at this;simp[Ef]at this
 |vw t h0=>
  have g5:e=_:=g5;subst g5;cases hn
 |ptr t t'=>
  rcases g5 with rfl|g5
  ·cases hn
  ·exact box g4.2 g5
 |hid t t'=>exact box g4.2 g5
 |rd t=>
  obtain⟨x,_,rfl⟩:=g5;cases hn
 |fn F m=>
  have g5:e=_:=g5;subst g5;cases hn
def Fga {nv:Nat} {S:Sit} (hs:List Value) (h:∀ j u,hs[j]? = some u→u=Value.pointer (some ⟨(S.bb (bid nv (nv+j))).1,(S.bb (bid nv (nv+j))).2+0,none⟩)):Pg S ((List.range hs.length).map λ j=>(bid nv (nv+j),0)) hs:=by
 have key:∀ (l:List Value) (a:Nat),(∀ j u,l[j]? = some u→u=Value.pointer (some ⟨(S.bb (bid nv (nv+(a+j)))).1,(S.bb (bid nv (nv+(a+j)))).2+0,none⟩))→Pg S ((List.range' a l.length).map λ j=>(bid nv (nv+j),0)) l:=by
  intro l
  induction l with
  |nil=>intro a _;exact rfl
  |cons u l ih=>
   intro a h;rw[Vg,List.range'_succ,Yd];refine⟨u,l,rfl,⟨Wf _,λ _=>?_⟩,ih (a+1) (λ j u hj=>?_)⟩
   ·have:=h 0 u rfl;rw[Yu]at this;exact this
   ·have:=h (j+1) u (by simpa using hj);rw[show a+(j+1)=a+1+j by omega]at this;exact this
 rw[List.range_eq_range'];exact key hs 0 (λ j u hj=>by rw[Wb];exact h j u hj)
def Iya {P:Program} {O:Nat→Lab} {w:World} {rg:Nat→Nat×Nat} {nt nv:Nat} {ps:List Par} {ls:List (List Lf)} {us:List Value} (hnt:nt≤1000) (hlt:∀ k,O k ≠ .no→k<w.heap.size) (hbx:∀ k b,O k = .bx b→∃ c e f,w.heap[k]? = some (.cells c e f))
  (hargs:Ip P (bare O w) rg nv (us.drop nv) 0 ps ls us) (hsol:∀ l∈ls,∀ y∈l,Ef y=true) (hps:nv≤nt) (hpk:Hk nv 0 ps=true) (hpl:ps.length-nv<500):
  Ah ⟨P,O,w,rg,nt,nv,ioV ps us⟩ (S0 nv ps ls us O w) ⟨(us.take nv).toArray++Array.replicate (nt-(us.take nv).toArray.size) undef,[]⟩:=by
 have hul:=B3a ps 0 ls us hargs
 have hn9:nv≤1000:=by omega
 have hmem:=Uu ps 0 ls us hargs
 have hph:∀ t,t<1000→phS nv ps us w t=(us.take nv).getD t undef:=λ t ht=>by unfold phS;rw[if_pos ht]
 have hus:∀ {j:Nat} {u:Value},j<nv→us[j]? = some u→(us.take nv).getD j undef=u:=λ hj h=>by rw[Vn,Wg,if_pos hj,h];rfl
 refine⟨hnt,hlt,?_,?_,?_,λ t ht=>?_,?_,rfl,⟨rfl,rfl,rfl,Vq _,λ k _ h=>⟨h,rfl⟩,λ k _ h=>⟨h,rfl⟩,λ k b hk h=>?_⟩,λ p hp=>?_⟩
 ·refine No (Q:=λ l s=>Gi P (S0 nv ps ls us O w) l s.2 (phS nv ps us w l)) (λ l=>trivial) _ (λ e he=>?_);obtain⟨j,p,l,u,g1,g2,g3,g4,g5⟩:=hmem e he;simp only[Wb]at g4 g5;have hvis:=Px hpk g2;rw[Wb]at hvis
  have vis:Ffa p=false→j<nv∧phS nv ps us w j=u:=λ h=>by
   rw[h]at hvis;have hj:j<nv:=hvis;exact⟨hj,by rw[hph j (by omega)];exact hus hj g1⟩
  have box:∀ {t:Ty},R6 P (bare O w) rg (bid nv j) t l u→Nga (bid nv j) t.sz l e→Gi P (S0 nv ps ls us O w) e.1 e.2.2 (phS nv ps us w e.1):=by
   rintro t ⟨k,o,c,e0,vs,rfl,f2,f3,f4,f5,f6,f7,f8,f9⟩ g5;have hbb:=Uv hn9 g1;rcases g5 with rfl|⟨n,v,x,hx,rfl⟩
   ·trivial
   ·have hn:n<t.sz:=by have:=(Wh.1 hx).1;omega
    obtain⟨d1,d2,d3⟩:=M5a (b:=bid nv j) (j:=n) (by omega);obtain⟨v',h1,h2⟩:=f9.get hx
    have hpc:phS nv ps us w (C (bid nv j) n)=v':=by
     unfold phS;rw[if_neg d3,if_neg ((Fca (b:=bid nv j) (j:=n) (by omega)).1 (by have:=Ut (Wh.1 g2).1 hn9 hpl;omega)),d1,d2,hbb];have f2':w.heap[k]? = some (.cells c e0):=f2;simp[World.cell?,f2',f8 n hn,h1]
    show Af P (S0 nv ps ls us O w) _ x (phS nv ps us w (C (bid nv j) n));rw[hpc];exact Af.bare (S1:=bare O w) (S2:=S0 nv ps ls us O w) (lab := .pl (C (bid nv j) n) []) (lab' := .pl (C (bid nv j) n) []) (hsol l g3 x (Zt hx)) rfl (λ k hk=>hk) (λ k hk=>hk) h2
  cases p with
  |val ag t=>
   obtain⟨hj,hpj⟩:=vis rfl;have g5:e=(j,0,(bif ag then .agg l else .one (Kea l))):=g5;subst g5;obtain⟨vs,e1,e2⟩:=g4;show Gi P (S0 nv ps ls us O w) j _ (phS nv ps us w j);rw[hpj];have e3:=A5.impM (S1:=bare O w) (S2:=S0 nv ps ls us O w) (f':=λ n => .pl j (if ag then [n] else [])) (λ x hx n u hu=>Af.bare (S1:=bare O w) (S2:=S0 nv ps ls us O w) (hsol l g3 x hx) rfl (λ k hk=>hk) (λ k hk=>hk) hu) e2;cases ag
   case true=>exact⟨vs,e1,e3⟩
   simp only[Wd,if_false]at e1;subst e1
   cases l with
   |nil=>exact e3.elim
   |cons x l=>
    cases l with
    |nil=>exact e3.1
    |cons y l=>exact e3.2.elim
  |io ag t=>
   obtain⟨hj,hpj⟩:=vis rfl;obtain⟨⟨_,q2,q3⟩,vs,q4,q5⟩:=g4
   have hC:∀ n,n<999→C (3000+j) n/1000-3001=j∧C (3000+j) n % 1000=n∧3001000≤C (3000+j) n:=λ n hn=>by unfold C;omega
   have hval:∀ n v,vs[n]? = some v→phS nv ps us w (C (3000+j) n)=v:=λ n v hv=>by
    have hn:n<999:=by
     have:=(Wh.1 hv).1;have:=q5.len;omega
    obtain⟨d1,d2,d3⟩:=hC n hn;unfold phS;rw[if_neg (by omega),if_pos d3];unfold ioV;rw[d1,d2,g2,g1];cases ag
    ·simp only[Wd,if_false]at q4;subst q4
     cases n with
     |zero=>simpa using hv
     |succ n=>simp at hv
    ·simp only[if_true]at q4;subst q4;simp[Wk,hv]
   rcases g5 with rfl|⟨n,v,x,hx,rfl⟩
   ·have key:∀ (l:List Lf) (i:Nat) (vs:List Value),i+l.length<999→(∀ y∈l,Ef y=true)→(∀ n v,vs[n]? = some v→phS nv ps us w (C (3000+j) (i+n))=v)→A5 P (bare O w) (λ n => .pl (C (3000+j) n) []) i l vs→∀ f:Nat→Lab,A5 P (S0 nv ps ls us O w) f i (ioL (3000+j) i l) vs∧A5 P (S0 nv ps ls us O w) f i (vwL (3000+j) i l) vs:=by
     intro l
     induction l with
     |nil=>intro i vs _ _ _ h f;cases vs<;>first|exact⟨trivial,trivial⟩|exact h.elim
     |cons x l ih=>
      intro i vs hi hs hv h f;simp only[Vg]at hi
      cases vs with
      |nil=>exact h.elim
      |cons u vs=>
       have hr:=ih (i+1) vs (by omega) (λ y hy=>hs y (Vd _ hy)) (λ n v e=>by rw[show i+1+n=i+(n+1) by omega];exact hv (n+1) v (by simpa using e)) h.2 f;have h1:Af P (S0 nv ps ls us O w) (.pl (C (3000+j) i) []) x u:=Af.bare (S1:=bare O w) (S2:=S0 nv ps ls us O w) (hs x (by simp)) rfl (λ k hk=>hk) (λ k hk=>hk) h.1;have h2:=hs x (by simp)
       cases x with
       |own e r xs=>
        have hu:u=phS nv ps us w (C (3000+j) i):=by have:=hv 0 u rfl;rw[Yu]at this;exact this.symm
        exact⟨⟨⟨(hC i (by omega)).2.2,hu⟩,hr.1⟩,⟨⟨Wf _,λ _=>hu⟩,hr.2⟩⟩
       |sc v=>exact⟨⟨h1,hr.1⟩,⟨h1,hr.2⟩⟩
       |fz e r xs=>exact⟨⟨h1,hr.1⟩,⟨h1,hr.2⟩⟩
       |_=>simp[Ef]at h2
    have h5:=key l 0 vs (by omega) (hsol l g3) (λ n v e=>by rw[Wb];exact hval n v e) q5 (λ n => .pl j (if ag then [n] else []));show Gi P (S0 nv ps ls us O w) j _ (phS nv ps us w j);rw[hpj];cases ag
    case true=>exact⟨vs,q4,h5.2⟩
    simp only[Wd,if_false]at q4;subst q4;simp only[cond_false]
    replace h5:=h5.1
    generalize ioL (3000+j) 0 l=l' at h5
    cases l' with
    |nil=>exact h5.elim
    |cons x l'=>
     cases l' with
     |nil=>exact h5.1
     |cons y l'=>exact h5.2.elim
   ·obtain⟨v',h1,h2⟩:=q5.get hx;show Af P (S0 nv ps ls us O w) _ x (phS nv ps us w (C (3000+j) n));rw[hval n v' h1];exact Af.bare (S1:=bare O w) (S2:=S0 nv ps ls us O w) (lab := .pl (C (3000+j) n) []) (lab' := .pl (C (3000+j) n) []) (hsol l g3 x (Zt hx)) rfl (λ k hk=>hk) (λ k hk=>hk) h2
  |vw t h0=>
   obtain⟨hj,hpj⟩:=vis rfl;have g5:e=_:=g5;subst g5;obtain⟨q1,vs,k,o,c,e0,rfl,q2,q3,q4,q5,q6⟩:=g4;show Gi P (S0 nv ps ls us O w) j (.agg _) (phS nv ps us w j);rw[hpj]
   have hh0:h0<ps.length:=by
    have:=(Wh.1 q2).1;rw[Vy]at this;omega
   have hbb:bbS nv us (bid nv h0)=(k,o):=by
    refine Uv hn9 ?_;rw[Ya]at q2;rw[← q2,show nv+(h0-nv)=h0 by omega]
   have hsl:=hsol l g3
   have key:∀ (l:List Lf) (i:Nat) (vs:List Value),i+l.length<999→(∀ y∈l,Ef y=true)→Sj (Cia P (bare O w) (λ j=>c.getD (o+j) undef)) i l vs→A5 P (S0 nv ps ls us O w) (λ n => .pl j [n]) i (vwL (bid nv h0) i l) vs:=by
    intro l
    induction l with
    |nil=>intro i vs _ _ h;cases vs<;>first|trivial|exact h.elim
    |cons x l ih=>
     intro i vs hi hs h;simp only[Vg]at hi
     cases vs with
     |nil=>exact h.elim
     |cons u vs=>
      have hr:=ih (i+1) vs (by omega) (λ y hy=>hs y (Vd _ hy)) h.2;have h1:=h.1;have h2:=hs x (by simp)
      have sh:Hpa x=true→Af P (bare O w) .fz x u→Af P (S0 nv ps ls us O w) (.pl j [i]) x u:=λ hx hu=>by
       have:Af P (S0 nv ps ls us O w) .fz x u:=Af.bare (S1:=bare O w) (S2:=S0 nv ps ls us O w) h2 rfl (λ k hk=>hk) (λ k hk=>hk) hu
       cases x<;>first|exact Af.relab (lab' := .pl j [i]) rfl this|simp[Hpa]at hx
      cases x with
      |own e r xs=>
       refine⟨⟨Wf _,λ _=>?_⟩,hr⟩;have h3:u=c.getD (o+i) undef:=h1;obtain⟨d1,d2,d3⟩:=M5a (b:=bid nv h0) (j:=i) (by omega);show u=phS nv ps us w (C (bid nv h0) i);unfold phS;rw[if_neg d3,if_neg ((Fca (b:=bid nv h0) (j:=i) (by omega)).1 (by have:=Ut hh0 hn9 hpl;omega)),d1,d2,hbb,h3];have q3':w.heap[k]? = some (.cells c e0):=q3;simp[World.cell?,q3',Wk]
      |sc v=>exact⟨sh h1.1 h1.2,hr⟩
      |fz e r xs=>exact⟨sh h1.1 h1.2,hr⟩
      |_=>simp[Ef]at h2
   exact⟨vs,rfl,key l 0 vs (by omega) hsl q6⟩
  |ptr t t'=>
   rcases g5 with rfl|g5
   ·obtain⟨hj,hpj⟩:=vis rfl;obtain⟨_,k,o,c,e0,vs,rfl,_⟩:=g4;have hbb:=Uv hn9 g1;rw[Fba hj]at hbb;show Af P (S0 nv ps ls us O w) (.pl j []) (.bp j 0 0) (phS nv ps us w j);refine⟨Wf _,λ _=>?_⟩;rw[hpj];show _=Value.pointer (some ⟨(bbS nv us j).1,(bbS nv us j).2+0,none⟩);rw[hbb];rfl
   ·exact box g4.2 g5
  |hid t t'=>exact box g4.2 g5
  |rd t=>
   obtain⟨hj,hpj⟩:=vis rfl;obtain⟨x,hx,rfl⟩:=g5;obtain⟨x',k,o,cs,h1,h2,h3,h4,h5⟩:=g4;rw[hx]at h1;cases h1;show Af P (S0 nv ps ls us O w) (.pl j []) (.fp t x 0) (phS nv ps us w j);rw[hpj];exact⟨k,o,cs,h2,h3,Ty.rep_mono (λ k hk=>hk) (λ _ _=>rfl) t x cs h4,h5⟩
  |fn F m=>
   obtain⟨hj,hpj⟩:=vis rfl;have g5:e=_:=g5;subst g5;obtain⟨h1,h2⟩:=g4;show Af P (S0 nv ps ls us O w) (.pl j []) (.fn F _) (phS nv ps us w j);rw[hpj];refine⟨us.drop nv,h1,?_⟩;rw[← h2];refine Fga _ (λ i v hi=>?_);rw[Ya]at hi
   have hlt2:nv+i<ps.length:=by rw[← hul];exact(Wh.1 hi).1
   have hp:ps[nv+i]? = some ps[nv+i]:=Vs hlt2;have hh:=Px hpk hp
   have hhid:Ffa ps[nv+i]=true:=by
    cases hc:Ffa ps[nv+i] with
    |true=>rfl
    |false=>rw[hc]at hh;simp only[Wd,if_false]at hh;omega
   obtain⟨l',u',k1,k2⟩:=hargs.at hp;rw[hi]at k1;cases k1;rw[Wb]at k2
   cases hpp:ps[nv+i] with
   |hid t t'=>
    rw[hpp]at k2;obtain⟨_,k,o,c,e0,vs,rfl,_⟩:=k2;show _=Value.pointer (some ⟨(bbS nv us (bid nv (nv+i))).1,(bbS nv us (bid nv (nv+i))).2+0,none⟩);rw[Uv hn9 hi];rfl
   |_=>rw[hpp]at hhid;cases hhid
 ·have key:=No (Q:=λ l s=>∀ b n,l=H b→s.2 = .one (.hd n)→n<999∧∃ c e,w.heap[(bbS nv us b).1]? = some (.cells c e (0,0))∧O (bbS nv us b).1 = .bx b∧(bbS nv us b).2+n≤c.size∧∀ j,j<n→c[(bbS nv us b).2+j]? = some (phS nv ps us w (C b j)))
   (λ l b n _ h=>by cases h) (Gq nv 0 ps ls) (λ e he b n hb hn=>by
    obtain⟨j,k,o,c,e0,vs,hj,hbj,k1,f2,f3,f4,f5,f6,f8,hvl⟩:=B4a hn9 hmem hsol e he b n hb hn;refine⟨f6,c,e0,by rw[k1];exact f2,by rw[k1];exact f3,by rw[k1];exact f5,λ i hi=>?_⟩;obtain⟨d1,d2,d3⟩:=M5a (b:=b) (j:=i) (by omega)
    have:phS nv ps us w (C b i)=vs.getD i undef:=by
     unfold phS;rw[if_neg d3,if_neg ((Fca (b:=b) (j:=i) (by omega)).1 (by have:=Ut hj hn9 hpl;omega)),d1,d2,k1];simp[World.cell?,f2,f8 i hi]
    rw[this,k1,f8 i hi,Vn,Vs (by omega)]
    rfl)
  exact λ b n h=>key (H b) b n rfl h
 ·have key:=No (Q:=λ l s=>∀ b n,l=H b→s.2 = .one (.hd n)→b<2000∧O (bbS nv us b).1 = .bx b∧(rg b).1≤(bbS nv us b).2∧(bbS nv us b).2+n≤(rg b).1+(rg b).2∧(bbS nv us b).1<w.heap.size)
   (λ l b n _ h=>by cases h) (Gq nv 0 ps ls) (λ e he b n hb hn=>by
    obtain⟨j,k,o,c,e0,vs,hj,hbj,k1,f2,f3,f4,f5,f6,f8,hvl⟩:=B4a hn9 hmem hsol e he b n hb hn;rw[k1,f4]
    exact⟨by rw[hbj];exact Ut hj hn9 hpl,f3,Vq _,Vq _,(Yx.1 f2).1⟩)
  intro b n h;obtain⟨h1,h2,h3,h4,h5⟩:=key (H b) b n rfl h;exact⟨λ _ _=>⟨h2,h3,h4⟩,λ _=>h5,λ h6=>by omega,by omega⟩
 ·show ((us.take nv).toArray++Array.replicate (nt-(us.take nv).toArray.size) undef).getD t undef=phS nv ps us w t;have ht':t<nt:=ht;rw[hph t (by omega)];generalize us.take nv=vs
  by_cases h:t<vs.length
  ·simp[Wk,T5a,h,Vn]
  ·have h2:vs.getD t undef=undef:=by rw[Vn,Rma (by omega)];rfl
   rw[h2];simp[Wk,T5a,h,Array.getElem?_replicate]
   split<;>rfl
 ·have:(us.take nv).length≤nt:=by rw[Vl];omega
  simp;omega
 ·obtain⟨c,e,f,h1⟩:=hbx k b h;exact⟨h,c,c,e,f,h1,h1,rfl,λ _ _=>rfl⟩
 ·show phS nv ps us w p=ioV ps us p;unfold phS;rw[if_neg (by omega),if_pos hp]

section
attribute [local irreducible] C H
section
variable {X:Cx} {S S1 S2:Sit} {a:Act} {E:En} {A:Ab}
def Fha {l0:List Lf} (K:Ah X S a) (hg:S.g=get A) (K1:Ah X S1 a) (E1:Qr X S S1) (P1:∀ p v,Lf.al p v∈l0→∀ n e r,∀ xs:List (Ty.den r),get A p=(n,.one (.own e r xs))→n=v→S1.g p=(n,.one (.fz e r xs)))
  (f:Nat→Lab) (hf:∀ n k,S.O k=f n→S1.O k=f n):∀ (l:List Lf),(∀ x∈l,x∈l0)→∀ j us,A5 X.P S f j l us→A5 X.P S1 f j (l.map (Hn A)) us
 |[],_,_,[],_=>trivial
 |[],_,_,_::_,h=>h.elim
 |_::_,_,_,[],h=>h.elim
 |x::l,hm,j,u::us,h=>by
  refine⟨?_,Fha K hg K1 E1 P1 f hf l (λ z hz=>hm z (Vd _ hz)) (j+1) us h.2⟩;have h1:Af X.P S (f j) x u:=h.1
  cases x with
  |al p v=>
   show Af X.P S1 (f j) (Iu (H9 A (.al p v))) u;simp only[H9];split
   ·rename_i n e r' xs hp;cases hb:Nat.beq n v
    ·exact trivial
    have hnv:n=v:=by simpa using hb
    subst hnv;rw[cond_true];show Af X.P S1 (f j) (.fz e r' xs) u;have h2:=P1 p n (hm _ (by simp)) n e r' xs hp rfl;have h3:=K1.at_ p;rw[h2,E1.ph,← h1.2 (by rw[hg,hp])]at h3;exact Af.relab (lab := .pl p []) rfl h3
   ·rename_i n e r' xs hp;cases hb:Nat.beq n v
    ·exact trivial
    have hnv:n=v:=by simpa using hb
    subst hnv;rw[cond_true];show Af X.P S1 (f j) (.fz e r' xs) u;have h3:=K.at_ p;rw[hg,hp,← h1.2 (by rw[hg,hp])]at h3;have h4:Af X.P S (.pl p []) (.fz e r' xs) u:=h3;exact(Af.relab (lab':=f j) rfl h4).later E1.later (λ k hk=>⟨hf j k hk,by rw[E1.w]⟩)
   ·exact trivial
  |_=>exact h1.later E1.later (λ k hk=>⟨hf j k hk,by rw[E1.w]⟩)
def Nq:∀ l:List Lf,Db l=false→Db (l.map (Hn A))=false
 |[],_=>rfl
 |x::l,h=>by
  have hc:∀ z:Lf,Db (Iu z::l.map (Hn A))=Db (l.map (Hn A)):=by intro z;cases z<;>rfl
  cases x with
  |own e r xs=>simp[Db]at h
  |opn e r xs i b v=>simp[Db]at h
  |par e r xs m=>simp[Db]at h
  |al p v=>rw[Yd];exact(hc _).trans (Nq l (by simpa[Db] using h))
  |_=>exact Nq l (by simpa[Db] using h)
def Kj {P:Program} {S:Sit} {f:Nat→Lab}:∀ {l:List Lf} {j:Nat} {us:List Value},A3 l=true→Db l=false→A5 P S f j l us→Hw (Ha P (λ k=>S.O k = .fz) S.w) l us
 |[],_,[],_,_,_ => .nil
 |[],_,_::_,_,_,h=>h.elim
 |_::_,_,[],_,_,h=>h.elim
 |x::l,j,u::us,hs,ho,h=>by
  cases x with
  |sc v=>exact .cons h.1 (Kj (by simpa[A3] using hs) (by simpa[Db] using ho) h.2)
  |fz e r xs=>exact .cons h.1 (Kj (by simpa[A3] using hs) (by simpa[Db] using ho) h.2)
  |own e r xs=>simp[Db]at ho
  |_=>simp[A3]at hs
def M6a (hE:Gx X E) (K:Ah X S a) (hg:S.g=get A) {x:Nat} (hx:Nat.blt x E.nt=true) {k:RK} {t:Ty} {l:List Lf} {us:List Up} (i:Nat) (hk:k ≠ .ptr) (h:Xb E.np A k t (.tmp x) (get A x).2=some (l,us)) {y:t.den} (hy:mkW t l=some y):
  ∃ S',Ah X S' a∧S'.g=get (ups A us)∧Cr X S S' (λ n _=>n=i)∧
   ∃ vs,(if O3 k then a.eval (.tmp x) = .agg vs.toArray else vs=[a.eval (.tmp x)])∧A5 X.P S' (λ n => .tm i (if O3 k then [n] else [])) 0 (A4 t y) vs:=by
 have hop:opT E 0 A (.tmp x)=some (get A x).2:=by show (bif Nat.blt x E.nt then some (get A x).2 else none)=_;rw[hx];rfl
 have h':(bif H5 (O3 k) (get A x).2 then M8 A (.tmp x) (get A x).2 t else none)=some (l,us):=by
  unfold Xb at h
  cases k<;>first|exact h|exact absurd rfl hk
 cases hq:H5 (O3 k) (get A x).2
 ·rw[hq]at h';simp at h'
 rw[hq,cond_true]at h';obtain⟨S1,K1,g1,G,h2,_,vs,hsh,hl⟩:=Se hE K hg (.inl hop) (Sm hq) h' i;have hp:=Xr hq;simp only[hp]at hl;exact⟨S1,K1,g1,G,vs,L7 hq hsh,I8 (Nl h') hy hl⟩
def Ah.unbox (K:Ah X S a) (hb0:∀ k b,X.O0 k = .bx b→b<X.np∨1500≤b) {b n:Nat} (hh:(S.g (H b)).2 = .one (.hd n)) (hnp:X.np≤b) (hb1:b<1000) (j:Nat):
  Ah X { S with O:=λ k=>if k=(S.bb b).1 then .tm j [] else S.O k,g:=upd S.g (H b) ((S.g (H b)).1+1,.one .dead) } a∧
  Ct S { S with O:=λ k=>if k=(S.bb b).1 then .tm j [] else S.O k,g:=upd S.g (H b) ((S.g (H b)).1+1,.one .dead) }:=by
 obtain⟨hn,c,e,e1,e2,e3,e4⟩:=K.box b n hh
 have hnew:X.w0.heap.size≤(S.bb b).1:=by
  rcases Rua (S.bb b).1 X.w0.heap.size with h|h
  ·have:=hb0 _ _ ((K.rgn b n hh).1 (by omega) h).1;omega
  ·exact h
 have keep:∀ k o,S.O k=o→o ≠ .bx b→(if k=(S.bb b).1 then Lab.tm j [] else S.O k)=o:=λ k o' h ho=>by
  rw[if_neg (λ e=>ho (by rw[← h,e,e2]))];exact h
 have hbk:∀ b' n',b'≠b→(S.g (H b')).2 = .one (.hd n')→(S.bb b').1≠(S.bb b).1:=λ b' n' hne hb' e5=>by
  obtain⟨_,_,_,_,g4,_⟩:=K.box b' n' hb';rw[e5,e2]at g4;simp only[Lab.bx.injEq]at g4;exact hne g4.symm
 have gne:∀ p,p≠H b→({ S with O:=λ k=>if k=(S.bb b).1 then .tm j [] else S.O k,g:=upd S.g (H b) ((S.g (H b)).1+1,.one .dead) }:Sit).g p=S.g p:=λ p h=>Aa _ _ h;have gsm:({ S with O:=λ k=>if k=(S.bb b).1 then .tm j [] else S.O k,g:=upd S.g (H b) ((S.g (H b)).1+1,.one .dead) }:Sit).g (H b)=((S.g (H b)).1+1,.one .dead):=A9 _ _ _
 have L:Ct S { S with O:=λ k=>if k=(S.bb b).1 then .tm j [] else S.O k,g:=upd S.g (H b) ((S.g (H b)).1+1,.one .dead) }:=by
  refine⟨λ p=>?_,λ _ _=>rfl,λ p v e r xs' hp hv=>?_,λ _ _=>rfl,λ k hk=>⟨keep k _ hk (by simp),rfl⟩,λ b' n' hv hb' hO=>?_,λ p hv hd=>?_,λ _ _=>rfl⟩
  ·by_cases h:p=H b
   ·subst h;rw[gsm];exact Zj _
   ·rw[gne p h];exact Vq _
  ·by_cases h:p=H b
   ·subst h;rw[gsm]at hp;cases hp
   ·rw[gne p h]at hp;exact⟨xs',hp,rfl⟩
  ·have hne:b'≠b:=λ e=>by subst e;rw[gsm]at hv;simp at hv
   refine⟨by rw[gne _ (λ e=>hne (Rz e))];exact hb',?_,λ c e f h=>⟨c,h,rfl,λ _ _=>rfl⟩⟩;show (if (S.bb b').1=(S.bb b).1 then Lab.tm j [] else S.O (S.bb b').1)=_;rw[if_neg (hbk b' n' hne hb')];exact hO
  ·have h:p≠H b:=λ e=>by subst e;rw[hh]at hd;simp[Xd,I0a]at hd
   rw[gne p h];exact⟨hd,λ _ _ _ h=>h,λ k hk=>⟨.inl (keep k _ hk (by simp)),rfl⟩⟩
 have F:=K.fr
 have hd:∀ b' n',(({ S with O:=λ k=>if k=(S.bb b).1 then .tm j [] else S.O k,g:=upd S.g (H b) ((S.g (H b)).1+1,.one .dead) }:Sit).g (H b')).2 = .one (.hd n')→b'≠b∧(S.g (H b')).2 = .one (.hd n'):=λ b' n' hb'=>by
  have hne:b'≠b:=λ e=>by subst e;rw[gsm]at hb';cases hb'
  exact⟨hne,by rw[gne _ (λ e=>hne (Rz e))]at hb';exact hb'⟩
 refine⟨⟨K.nt,λ k hk=>?_,λ l=>?_,λ b' n' hb'=>?_,λ b' n' hb'=>K.rgn b' n' (hd b' n' hb').2,K.sl,K.sz,K.df,⟨F.os,F.tape,F.out,F.size,λ k hk h0=>?_,λ k hk h0=>?_,λ k b' hk h0=>?_⟩,K.io⟩,L⟩
 ·by_cases h:k=(S.bb b).1
  ·exact K.lt k (by rw[h,e2];simp)
  ·have hk':(if k=(S.bb b).1 then Lab.tm j [] else S.O k) ≠ .no:=hk;rw[if_neg h]at hk';exact K.lt k hk'
 ·by_cases h:l=H b
  ·subst h;rw[gsm];trivial
  ·rw[gne l h];exact(K.at_ l).later L (λ p k hk=>⟨keep k _ hk (by simp),rfl⟩)
 ·obtain⟨hne,hb2⟩:=hd b' n' hb';obtain⟨g1,c1,g2,g3,g4,g5,g6⟩:=K.box b' n' hb2;exact⟨g1,c1,g2,g3,keep _ _ g4 (by simp[hne]),g5,g6⟩
 ·obtain⟨f1,f2⟩:=F.no k hk h0;exact⟨keep k _ f1 (by simp),f2⟩
 ·obtain⟨f1,f2⟩:=F.fz k hk h0;exact⟨keep k _ f1 (by simp),f2⟩
 ·obtain⟨f1,rest⟩:=F.bx k b' hk h0;refine⟨?_,rest⟩;show (if k=(S.bb b).1 then Lab.tm j [] else S.O k)=_;rw[if_neg (by omega)];exact f1
def M7a (hE:Gx X E) (K:Ah X S a) (hg:S.g=get A) (hb0:∀ k b,X.O0 k = .bx b→b<X.np∨1500≤b) {x:Nat} (hx:Nat.blt x E.nt=true) {t:Ty} {l:List Lf} {us:List Up} (i:Nat) (h:Xb E.np A .ptr t (.tmp x) (get A x).2=some (l,us)) {y:t.den} (hy:mkW t l=some y):
  ∃ S',Ah X S' a∧S'.g=get (ups A us)∧S'.w=S.w∧Ct S S'∧(∀ n q z v,Af X.P S (.tm n q) z v→Af X.P S' (.tm n q) z v)∧(∀ n q k,S.O k = .tm n q→S'.O k = .tm n q)∧Jm X.P S' X.w0.heap.size i .ptr (A4 t y) (a.eval (.tmp x)):=by
 have hop:opT E 0 A (.tmp x)=some (get A x).2:=by show (bif Nat.blt x E.nt then some (get A x).2 else none)=_;rw[hx];rfl
 unfold Xb at h;simp only at h;split at h
 ·rename_i b v hs;rw[hs]at hop;split at h
  ·rename_i n m hp;cases hq:(Nat.beq n v&&(Nat.ble E.np b&&Nat.blt b 1000)&&Hh t&&Nat.beq m t.sz&&Nat.blt m 999&&A3 ((cellsOf A b 0 m).map (Hn A)))
   ·rw[hq]at h;simp at h
   rw[hq]at h;simp only[cond_true,Vc,Vu]at h;obtain⟨rfl,rfl⟩:=h;simp only[Va]at hq;obtain⟨⟨⟨⟨⟨q1,q2,q7⟩,q3⟩,q4⟩,q5⟩,q6⟩:=hq
   have hnv:n=v:=by simpa using q1
   have hm:m=t.sz:=Vb q4;have hlt:m<999:=Ve q5;have hnp:X.np≤b:=hE.np ▸ (Ve q2);have hb1:b<1000:=Ve q7;subst hnv;obtain⟨pl,hl⟩:=Fc hE K hg hop;have hlf:Af X.P S (.pl pl []) (.bp b n 0) (a.eval (.tmp x)):=hl;have hu:=hlf.2 (by rw[hg,hp]);obtain⟨S1,K1,g1,E1,F1,P1⟩:=Sa (X:=X) (a:=a) (A:=A) (cellsOf A b 0 m) K hg (λ p => .inl rfl);obtain⟨c1,c2,c3⟩:=Kz K hg b m 0;have hkept:=Fha K hg K1 E1 P1 (λ _ => .fz) (λ n k hk=>(E1.later.fz k hk).1) (cellsOf A b 0 m) (λ _ h=>h) 0 _ (c3 (λ _ => .fz) 0);have hrep:=Kj q6 (Nq _ c2) hkept
   have hh:(S.g (H b)).2 = .one (.hd m):=by rw[hg,hp]
   have hh1:(S1.g (H b)).2 = .one (.hd m):=by
    rcases F1 (H b) with h1|⟨n',e,r',xs,h1,h2⟩
    ·rw[h1,hp]
    ·rw[hp]at h1;cases h1
   obtain⟨_,c,e,e1,e2,e3,e4⟩:=K1.box b m hh1
   have hnew:X.w0.heap.size≤(S1.bb b).1:=by
    rcases Rua (S1.bb b).1 X.w0.heap.size with h|h
    ·have:=hb0 _ _ ((K1.rgn b m hh1).1 (by omega) h).1;omega
    ·exact h
   obtain⟨K2,L2⟩:=K1.unbox hb0 hh1 hnp hb1 (i+500)
   have hll:(A4 t y).length=m:=by rw[Ev,hm]
   have htm:∀ n q k,S1.O k = .tm n q→(if k=(S1.bb b).1 then Lab.tm (i+500) [] else S1.O k) = .tm n q:=λ n q k hk=>by
    rw[if_neg (λ e=>by rw[e,e2]at hk;cases hk)];exact hk
   refine⟨_,K2,?_,E1.w,E1.later.trans L2,λ n q z v hz=>(hz.later E1.later (λ k hk=>⟨E1.tm n q k hk,by rw[E1.w]⟩)).later L2 (λ k hk=>⟨htm n q k hk,rfl⟩),λ n q k hk=>htm n q k (E1.tm n q k hk),(S1.bb b).1,(S1.bb b).2,c,e,(List.range m).map (λ j=>S.ph (C b (0+j))),?_,e1,hnew,if_pos rfl,by rw[hll];exact e3,by rw[hll];exact hlt,λ j hj=>?_,?_⟩
   ·show upd S1.g (H b) _=_;rw[Ae];show _=get (up (ups A (H7 A (cellsOf A b 0 m))) ⟨H b,false,.one .dead⟩);rw[Il,← g1];rfl
   ·rw[E1.bb];exact hu
   ·rw[hll]at hj;rw[e4 j hj,E1.ph];simp[hj]
   ·exact R8 (G:=λ k=>S1.O k = .fz) (λ k hk=>(L2.fz k hk).1) hy q3 hrep _ _
  ·cases h
 ·cases h
end
end

end Go.Proofs.YtbbifgjgneefkaaGreat.Vf
