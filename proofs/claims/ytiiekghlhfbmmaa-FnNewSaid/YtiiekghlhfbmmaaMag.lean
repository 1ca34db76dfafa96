import Derived.Test.YtiiekghlhfbmmaaMaf
set_option linter.all false
namespace Go.Proofs.Ytiiekghlhfbmmaa.Vf
open Go
open List (length getD)
open Int (toNat)
open Go.IntKind (wrap)
open BitVec (ofInt)
def Vt:=@Option.bind_some
def Yc:=@List.mem_cons_self
def Yp:=@List.mem_map_of_mem
def Zq:=@Nat.ble_eq_true_of_le
def Y4a:=@List.any_eq_true
def Yoa:=@Array.getElem?_eq_getElem
def Zoa:=@List.flatMap_cons
def Aeb:=@Array.ext'

section
attribute [local irreducible] C H
def Mk:List Ty→List (List Lf)→List (List Lf)→Prop
 |[],[],[]=>True
 |t::ts,l::ls,l'::ls'=>(∃ y,mkW t l=some y∧l'=A5 t y)∧Mk ts ls ls'
 |_,_,_=>False
def Qd:∀ (ts:List Ty) (ls:List (List Lf)) (x:Den ts),Oj ts ls=some x→Mk ts ls (Ch ts x)
 |[],[],_,_=>trivial
 |[],_::_,_,h=>by simp[Oj]at h
 |[t],[],_,h=>by simp[Oj]at h
 |[t],[l],x,h=>⟨⟨x,h,rfl⟩,trivial⟩
 |[t],_::_::_,_,h=>by simp[Oj]at h
 |_::_::_,[],_,h=>by simp[Oj]at h
 |t::u::ts,l::ls,x,h=>by
  simp only[Oj]at h
  split at h
  ·rename_i y hy
   split at h
   ·rename_i z hz
    cases h
    exact⟨⟨y,hy,rfl⟩,Qd (u::ts) ls z hz⟩
   ·cases h
  ·cases h
def H8:∀ (ts:List Ty) (x:Den ts),∀ l∈Ch ts x,∀ y∈l,G6 y=true
 |[],_=>by simp[Ch]
 |[t],x=>by
  intro l hl
  simp[Ch]at hl
  subst hl
  exact Hu t x
 |t::u::ts,x=>by
  intro l hl
  rcases Vk.1 (show l∈A5 t x.1::Ch (u::ts) x.2 from hl) with rfl|h
  ·exact Hu t x.1
  ·exact H8 (u::ts) x.2 l h
def R7 (t:Ty) (x:t.den) (h:Hq t=true):A5 t x=lvs t x:=Qb t x h
section
variable {X:Cx} {S S':Sit} {a:Act} {E:En} {A:Ab} {o:Oper} {R:Type} {Kc:List Up→Option R} {r:R}
def N9a (hE:Ho X E) (K:Ah X S a) (hg:S.g=get A) {T:TypeId} {x:Operand} {s:Sv} {ag:Bool} (hx:opT E T A x=some s) (hf:Hs ag s=true):
  ∃ us,∃ f:Nat→Lab,(if ag then a.eval x = .agg us.toArray else us=[a.eval x])∧A6 X.P S f 0 (parts s) us∧∀ n,f n ≠ .no:=by
 rcases Jp hE K hg hx with⟨t,rfl,ht,hst,het,hok⟩|⟨hnt,y,rfl,hy⟩
 ·cases s with
  |tup vs=>simp[Hs,Hla]at hf
  |one y=>
   have:ag=false:=by cases ag<;>simp[Hs,Hla]at hf ⊢
   subst this
   exact⟨[a.eval (.tmp t)],λ _ => .pl t [],rfl,⟨hok,trivial⟩,by simp⟩
  |agg l=>
   have:ag=true:=by cases ag<;>simp[Hs,Hla]at hf ⊢
   subst this
   obtain⟨us,e1,hl⟩:=hok
   exact⟨us,λ n => .pl t [n],e1,hl,by simp⟩
 ·have:ag=false:=by cases ag<;>simp[Hs,Hla]at hf ⊢
  subst this
  exact⟨[a.eval x],λ _ => .fz,rfl,⟨hy _,trivial⟩,by simp⟩
def Iwa {ag:Bool} {s:Sv} (hf:Hs ag s=true):∀ vs,s ≠ .tup vs:=by
 intro vs e
 subst e
 simp[Hs,Hla]at hf
def Tj {ag:Bool} {s:Sv} {u:Value} {us:List Value} (hf:Hs ag s=true) (h:Q1 s u us):if ag then u = .agg us.toArray else us=[u]:=by
 cases s with
 |tup vs=>simp[Hs,Hla]at hf
 |one y=>
  have:ag=false:=by cases ag<;>simp[Hs,Hla]at hf ⊢
  subst this
  exact h
 |agg l=>
  have:ag=true:=by cases ag<;>simp[Hs,Hla]at hf ⊢
  subst this
  exact h
def Tk {P:Program} {S:Sit} {G:Nat→Prop} {t:Ty} {l:List Lf} {y:t.den} {us:List Value} (hG:∀ k,G k→S.O k = .fz) (hm:mkW t l=some y) (hn:Hq t=true) (h:Ia (Hh P G S.w) l us) (f:Nat→Lab) (j:Nat):A6 P S f j (A5 t y) us:=by
 have h1:=Qs hm h
 have h2:=Ki (P:=P) (G:=λ k=>S.O k = .fz) (w:=S.w) t y us (Ty.rep_mono hG (λ _ _=>rfl) t y us h1)
 rw[R7 t y hn]
 exact A6.ofRep h2 f j
def P0 (S:Sit):Nat→Lab:=λ k=>if S.O k = .no then .no else .fz
def Naa {y:Lf} {u:Value} {lab:Lab} (K:Ah X S a) (hg:S.g=get A) (h:Am X.P S lab y u):∃ lab',(lab'=lab∨∃ p,lab' = .pl p [])∧Am X.P S lab' (Hw A y) u:=by
 unfold Hw
 split
 ·rename_i p v
  split
  ·rename_i n e r xs hp
   cases hb:Nat.beq n v
   ·exact⟨lab,.inl rfl,trivial⟩
   have hnv:n=v:=by simpa using hb
   subst hnv
   have e1:u=S.ph p:=h.2 (by rw[hg,hp])
   refine⟨.pl p [],.inr ⟨p,rfl⟩,?_⟩
   have:=K.at_ p
   rw[hg,hp]at this
   rw[e1]
   exact this
  ·rename_i n e r xs hp
   cases hb:Nat.beq n v
   ·exact⟨lab,.inl rfl,trivial⟩
   have hnv:n=v:=by simpa using hb
   subst hnv
   have e1:u=S.ph p:=h.2 (by rw[hg,hp])
   refine⟨.pl p [],.inr ⟨p,rfl⟩,?_⟩
   have:=K.at_ p
   rw[hg,hp]at this
   rw[e1]
   exact this
  ·exact⟨lab,.inl rfl,trivial⟩
 ·exact⟨lab,.inl rfl,h⟩
def E8a (K:Ah X S a) (hg:S.g=get A) {f:Nat→Lab} (hf:∀ n,f n ≠ .no):∀ {l:List Lf} {j:Nat} {us:List Value},A6 X.P S f j l us→A4 (l.map λ y=>Jg (Ui A y))=true→
  Ia (Hh X.P (λ k=>P0 S k = .fz) S.w) (l.map λ y=>Jg (Ui A y)) us
 |[],_,[],_,_ => .nil
 |[],_,_::_,h,_=>h.elim
 |_::_,_,[],h,_=>h.elim
 |y::l,j,u::us,h,hst=>by
  have hfz:∀ k,S.O k = .fz→P0 S k = .fz:=λ k hk=>by simp[P0,hk]
  rw[Xs]at hst ⊢
  have hrest:A4 (l.map λ y=>Jg (Ui A y))=true:=by
   generalize Jg (Ui A y)=z at hst
   cases z<;>first|(simp[A4]at hst;done)|simpa[A4] using hst
  refine .cons ?_ (E8a K hg hf h.2 hrest)
  have hv:(∃ lab',lab' ≠ .no∧Am X.P S lab' (Ui A y) u)∨∃ p e r,∃ xs:List (Ty.den r),Ui A y = .fz e r xs∧Bta X.P S p e r xs u:=by
   unfold Ui
   split
   ·rename_i p v pi e r xs
    cases hq:Nat.beq (get A p).1 v
    ·exact .inl ⟨f j,hf j,trivial⟩
    obtain⟨_,_,h2⟩:=h.1
    exact .inr ⟨p,e,r,xs,rfl,(h2 (by rw[hg];exact Ve hq)).2.1⟩
   ·obtain⟨lab',hlab,h1⟩:=Naa K hg h.1
    refine .inl ⟨lab',?_,h1⟩
    rcases hlab with rfl|⟨p,rfl⟩
    ·exact hf j
    ·simp
  rcases hv with⟨lab',hno,h1⟩|⟨p,e,r,xs,e1,h1⟩
  rotate_left 1
  ·rw[e1]
   exact h1.reads (λ k hk=>by
    rcases hk with hk|hk<;>simp[P0,hk])
  generalize Ui A y=z at h1 hst
  cases z with
  |sc v=>exact h1
  |fz e r xs=>exact Ty.rep_mono (t := .sl e r) hfz (λ _ _=>rfl) _ _ h1
  |own e r xs=>
   have h2:Dy X.P S.O S.w lab' e r xs u:=h1
   exact h2.reads (O':=P0 S) hfz (λ k hk=>by simp[P0,hk,hno])
  |_=>simp[Jg,A4]at hst
def Yy (hE:Ho X E) (K:Ah X S a) (hg:S.g=get A) (rg:Nat→Nat×Nat) (nv:Nat) (hs:List Value):∀ (ps:List Par) {xs:List Operand} {ss:List Sv} {ls ls':List (List Lf)} {i:Nat},Ia (λ s x=>∃ T,opT E T A x=some s) ss xs→Le A ps ss=some ls→Mk (ps.map Par.ty) ls ls'→
  Ld ps=true→Jx X.P (bare (P0 S) S.w) rg nv hs i ps ls' (xs.map a.eval)∧xs.length=ps.length
 |[],_,_,ls,ls',i,.nil,h,hm,_=>by
  simp only[Le,Vc]at h
  subst h
  cases ls' with
  |nil=>exact⟨trivial,rfl⟩
  |cons=>exact hm.elim
 |[],_,_,ls,ls',i,.cons _ _,h,hm,_=>by simp[Le]at h
 |.ptr _ _::_,_,_,_,_,_,_,_,_,hl=>by simp[Ld]at hl
 |.hid _ _::_,_,_,_,_,_,_,_,_,hl=>by simp[Ld]at hl
 |.rd _::_,_,_,_,_,_,_,_,_,hl=>by simp[Ld]at hl
 |.fn _ _::_,_,_,_,_,_,_,_,_,hl=>by simp[Ld]at hl
 |.val ag t::ps,_,_,ls,ls',i,.nil,h,_,_=>by simp[Le]at h
 |.val ag t::ps,_,_,ls,ls',i,.cons (x:=s) (y:=x) (xs:=ss) (ys:=xs) hs1 hss,h,hm,hl=>by
  simp only[Ld,Va]at hl
  simp only[Le]at h
  obtain⟨hq,h⟩:=cs h
  simp only[Va]at hq
  split at h
  ·rename_i ls1 hls1
   cases h
   cases ls' with
   |nil=>exact hm.elim
   |cons l' ls'=>
    obtain⟨⟨y,hy,rfl⟩,hm2⟩:=hm
    obtain⟨T,hx⟩:=hs1
    obtain⟨us,f,hsh,hlf,hf⟩:=N9a hE K hg hx hq.1
    obtain⟨r1,r2⟩:=Yy hE K hg rg nv hs (i:=i+1) ps hss hls1 hm2 hl.2
    exact⟨⟨⟨us,hsh,Tk (S:=bare (P0 S) S.w) (λ k hk=>hk) hy hl.1 (E8a K hg hf hlf hq.2) _ _⟩,r1⟩,by simp[r2]⟩
  ·cases h
def Kq:Lf→Bool
 |.sc _=>true
 |.own _ r _=>Fl r
 |_=>false
def Jb:∀ (t:Ty) (x:t.den),Fl t=true→∀ y∈A5 t x,Kq y=true
 |.i _,_,_=>by simp[A5,Kq]
 |.b,_,_=>by simp[A5,Kq]
 |.s,_,_=>by simp[A5,Kq]
 |.sl _ _,_,h=>by simp[Fl]at h
 |.ow _ r,_,h=>by simpa[A5,Kq,Fl] using h
 |.pr x y,p,h=>by
  simp only[Fl,Va]at h
  intro z hz
  rcases Vm.1 (show z∈A5 x p.1++A5 y p.2 from hz) with h'|h'
  ·exact Jb x p.1 h.1 z h'
  ·exact Jb y p.2 h.2 z h'
def Uba {P:Program} {S1 S2:Sit} {lab lab':Lab} {y:Lf} {u:Value} (hy:Kq y=true) (hw:S2.w=S1.w) (hl:∀ k,S1.O k=lab→S2.O k=lab') (h:Am P S1 lab y u):Am P S2 lab' y u:=by
 cases y with
 |sc v=>exact h
 |own e r xs=>
  obtain⟨bs,h1,h2,h3⟩:=h
  exact⟨bs,Ty.dep_all (.ow e r) xs [u] bs hy (λ k _=>by rw[hw]) h1,h2,λ k hk=>hl k (h3 k hk)⟩
 |_=>simp[Kq]at hy
def R8:∀ (rs:List (RK×Ty)) (x:Den (rs.map Prod.snd)),Sq rs=true→∀ l∈Ch (rs.map Prod.snd) x,∀ y∈l,Kq y=true
 |[],_,_=>λ l hl=>by cases (show l∈([]:List (List Lf)) from hl)
 |[(k,t)],x,h=>by
  intro l hl
  have hl':l∈[A5 t x]:=hl
  simp at hl'
  subst hl'
  have:Fl t=true:=by cases k<;>simp[Sq]at h<;>exact h
  exact Jb t x this
 |(k,t)::r2::rs,x,h=>by
  intro l hl
  have h2:Fl t=true∧Sq (r2::rs)=true:=by
   cases k<;>simp only[Sq,Va]at h<;>first|exact h|cases h
  rcases Vk.1 (show l∈A5 t x.1::Ch ((r2::rs).map Prod.snd) x.2 from hl) with rfl|h'
  ·exact Jb t x.1 h2.1
  ·exact R8 (r2::rs) x.2 h2.2 l h'
end
end

section
attribute [local irreducible] C H
section
variable {X:Cx} {S S':Sit} {a:Act} {E:En} {A:Ab} {o:Oper} {R:Type} {Kc:List Up→Option R} {r:R}
def Ixa {P:Program} {w:World} {c:Call} {f:FuncId} {en:Ent} (ho:o.op = .call c) (hc:c.callee = .value (.func f)) (hf:Jy P f en):(execOp a.eval o).run P w = .ok (.enter f (c.args.toList.map a.eval).toArray) w:=by
 obtain⟨fn,h1,h2,h3⟩:=hf.fn
 have e1:c.args.map a.eval=(c.args.toList.map a.eval).toArray:=by
  apply Aeb
  simp
 unfold execOp
 simp only[ho,resolve,hc,Act.eval,Deferred.ofValue,Wa,Wp,Vz,invoke,callFunc,run_program,h1]
 rw[if_neg (by rw[h2];simp),if_neg (by rw[h3];simp)]
 simp only[Wp,Array.append_empty,Array.empty_append]
 rw[e1]
def Gba {P:Program} {w:World} {c:Call} {f:FuncId} {en:Ent} {t:Nat} {us:List Value} (ho:o.op = .call c) (hc:c.callee = .value (.tmp t)) (hv:a.eval (.tmp t) = .func (.func f) #[] us.toArray) (hf:Jy P f en):
  (execOp a.eval o).run P w = .ok (.enter f (c.args.toList.map a.eval++us).toArray) w:=by
 obtain⟨fn,h1,h2,h3⟩:=hf.fn
 have e1 : #[]++(c.args.map a.eval++us.toArray)=(c.args.toList.map a.eval++us).toArray:=by
  apply Aeb
  simp
 have e2 : #[]++c.args.map a.eval++us.toArray=(c.args.toList.map a.eval++us).toArray:=by
  apply Aeb
  simp
 unfold execOp
 simp only[ho,resolve,hc,hv,Deferred.ofValue,Wa,Wp,Vz,invoke,callFunc,run_program,h1]
 rw[if_neg (by rw[h2];simp),if_neg (by rw[h3];simp)]
 simp only[Wp]
 first|rw[e1]|rw[e2]
def Tl {f:FuncId} {args:Array Value} {w:World} {A':Ab} (hr:(execOp a.eval o).run X.P w = .ok (.enter f args) w)
  (h:Calls X.P f args w (λ e w'=>∃ v,e = .returned v∧∃ S',S'.w=w'∧Ah X S' (a.put o.dst v)∧S'.g=get A')):Msa X o a w A':=by
 intro next Q hn
 unfold Oper.wp
 rw[hr,Oper.upon_enter]
 intro cs
 obtain⟨e,w',fr,⟨v,rfl,S',hw,K',hg'⟩,rest⟩:=h cs
 refine⟨_,w',fr,?_,rest⟩
 rw[← hw]
 exact hn S' _ K' hg'
def P3 {P:Program} {f:FuncId} {args:Array Value} {w:World} {R1 R2:Ending→World→Prop} (h:Calls P f args w R1) (hi:∀ e w',R1 e w'→R2 e w'):Calls P f args w R2:=by
 intro cs
 obtain⟨e,w',fr,hr,rest⟩:=h cs
 exact⟨e,w',fr,hi _ _ hr,rest⟩
def Tm:∀ ps:List Par,Ld ps=true→Hy ps=[]
 |[],_=>rfl
 |.val _ _::ps,h=>by
  simp only[Ld,Va]at h
  exact Tm ps h.2
 |.ptr _ _::_,h=>by simp[Ld]at h
 |.hid _ _::_,h=>by simp[Ld]at h
 |.rd _::_,h=>by simp[Ld]at h
 |.fn _ _::_,h=>by simp[Ld]at h
def Nba {ts:List Ty} {rs:List (RK×Ty)} (he:ts=rs.map Prod.snd) (x:Den ts) (h:Sq rs=true):∀ l∈Ch ts x,∀ y∈l,Kq y=true:=by
 subst he
 exact R8 rs x h
def Ma:∀ rs:List (RK×Ty),Sq rs=true→Hz rs=false
 |[],_=>rfl
 |(k,t)::rs,h=>by
  cases k with
  |ptr=>simp[Sq]at h
  |one=>simp only[Sq,Va]at h;exact Ma rs h.2
  |agg=>simp only[Sq,Va]at h;exact Ma rs h.2
def Rpa (hE:Ho X E) (K:Ah X S a) (hg:S.g=get A) {xs:List Operand} {f:FuncId} {en:Ent} {ss:List Sv} (hrun:(execOp a.eval o).run X.P S.w = .ok (.enter f (xs.map a.eval).toArray) S.w) (hd:∀ d,o.dst=some d→d<X.nt)
  (hco:Jy X.P f en) (hnv:en.nv=xs.length) (hss:Ia (λ s x=>∃ T,opT E T A x=some s) ss xs) (hl:Ld en.ps=true) (hn:Sq en.rs=true)
  (h:(match Le A en.ps ss with
  |none=>none
  |some ls=>match Oj _ ls with
   |none=>none
   |some x=>(en.run x).bind λ r=>
    match My A en.rs (shL E o.dst (Ch _ r)) o.dst with
    |none=>none
    |some rs=>Kc rs)=some r):Gc X o a S.w A Kc r:=by
 split at h
 ·cases h
 ·rename_i ls hls
  split at h
  ·cases h
  ·rename_i x hx
   cases hrun':en.run x with
   |none=>rw[hrun']at h;simp at h
   |some y=>
    rw[hrun']at h
    simp only[Vt]at h
    split at h
    ·cases h
    ·rename_i us hus
     obtain⟨hargs,hlen⟩:=Yy (i:=0) hE K hg (λ _=>(0,0)) en.nv ((xs.map a.eval).drop en.nv) en.ps hss hls (Qd _ _ _ hx) hl
     have hs:=hco.sound x y hrun' S.w (P0 S) (λ _=>(0,0)) _ (λ k hk=>K.lt k (λ e=>hk (by simp[P0,e]))) (λ k b hk=>by unfold P0 at hk;split at hk<;>cases hk) hargs
     rw[Yda (by rw[Wf,hnv];exact Vv _)]at hs
     refine⟨us,h,Tl hrun (P3 hs ?_)⟩
     rintro e w' ⟨v,O',rfl,hF,hlt,hres,_⟩
     refine⟨v,rfl,?_⟩
     have hsame:∀ k,k<S.w.heap.size→w'.heap[k]? = S.w.heap[k]? ∧ (O' k = .no∨O' k = .fz):=λ k hk=>by
      by_cases h0:S.O k = .no
      ·have:=hF.no k hk (by simp[P0,h0])
       exact⟨this.2,.inl this.1⟩
      ·have:=hF.fz k hk (by simp[P0,h0])
       exact⟨this.2,.inr this.1⟩
     let O2:Nat→Lab:=λ k=>if k<S.w.heap.size then S.O k else O' k
     obtain⟨K1,L1⟩:=K.world (w':=w') (O':=O2) (λ k hk _=>⟨if_pos hk,(hsame k hk).1⟩) hF.os hF.tape hF.out hF.size (λ k hk=>by
      by_cases hkl:k<S.w.heap.size
      ·exact Yb hkl hF.size
      ·exact hlt k (by simpa[O2,hkl] using hk))
     have htm:∀ k i q,O' k = .tm i q→O2 k = .tm i q:=λ k i q hk=>by
      have:¬ k<S.w.heap.size:=λ hkl=>by
       rcases (hsame k hkl).2 with h|h<;>rw[h]at hk<;>cases hk
      simp[O2,this,hk]
     have hnews:=Nba (by rw[Tm en.ps hl,Ym]) y hn
     have hres1:Gf X.P (T0 S w' O2) S.w.heap.size en.rs (Ch _ y) v:=Gf.imp (S1:=bare O' w') (S2:=T0 S w' O2) rfl (λ k i hk=>htm k i [] hk) (λ l hl' z hz i q u hu=>Uba (S1:=bare O' w') (S2:=T0 S w' O2) (hnews l hl' z hz) rfl (λ k hk=>htm k i q hk) hu) hres
     obtain⟨S2,K2,w2,g2⟩:=E7a (E:=E) K1 (A1:=A) hg (λ h=>by rw[Ma _ hn]at h;cases h) hd K.fr.size (H8 _ y) (λ d' _ h=>by rw[Ma _ hn]at h;cases h) hres1 hus
     exact⟨S2,w2,K2,g2⟩
end
end

section
attribute [local irreducible] C H
def St:List Ty→List Lf→Prop
 |.ow _ _::ts,_::l=>St ts l
 |_::ts,x::l=>x.isOwn=false∧St ts l
 |[],[]=>True
 |_,_=>False
def Gca (z:Lf):(Jg z).isOwn=false:=by cases z<;>rfl
def Kr:∀ (ts:List Ty) (l:List Lf) {A:Ab} {m:List Lf} {us:List Up},Ev A ts l=some (m,us)→St ts m
 |[],[],A,m,us,h=>by
  simp only[Ev,Vc,Vy]at h
  obtain⟨rfl,_⟩:=h
  trivial
 |[],_::_,A,m,us,h=>by simp[Ev]at h
 |t::ts,[],A,m,us,h=>by cases t<;>simp[Ev]at h
 |t::ts,x::l,A,m,us,h=>by
  cases t with
  |ow e r=>
   simp only[Ev]at h
   split at h
   ·split at h
    ·rename_i hr
     cases h
     exact Kr ts l hr
    ·cases h
   ·cases h
  |_=>
   simp only[Ev]at h
   split at h
   ·rename_i hr
    cases h
    exact⟨Gca _,Kr ts l hr⟩
   ·cases h
def Tn {A:Ab} {x:Operand} {s:Sv} {t:Ty} {m:List Lf} {us:List Up} (h:Om A x s t=some (m,us)):St (Gl t) m:=by
 unfold Om Ol at h
 split at h
 ·rename_i m0 vs0 ht
  cases hst:A4 m0
  ·rw[hst]at h;simp at h
  rw[hst]at h
  simp only[cond_true,Vc,Vy]at h
  obtain⟨rfl,rfl⟩:=h
  exact Kr _ _ ht
 ·cases h
def P4 {A:Ab} {b v:Nat} {t t':Ty} {m:List Lf} {us:List Up} (h:Mx A b v t t'=some (m,us)):St (Gl t) m:=by
 unfold Mx at h
 split at h
 ·rename_i n hd hp
  obtain⟨hq,h⟩:=cs h
  split at h
  ·rename_i l us0 hx
   cases hst:A4 l
   ·rw[hst]at h;simp at h
   rw[hst]at h
   simp only[cond_true,Vc,Vy]at h
   obtain⟨rfl,rfl⟩:=h
   exact Kr _ _ hx
  ·cases h
 ·cases h
def Nca {P:Program} {S:Sit} {f:Nat→Lab}:∀ (t:Ty) (ts:List Ty) (l l':List Lf) (x:t.den) (j:Nat) (us:List Value),St (Gl t++ts) l→mkT t l=some (x,l')→A6 P S f j l us→A6 P S f j (A5 t x++l') us∧St ts l':=by
 intro t
 induction t with
 |pr p q ihp ihq=>
  intro ts l l' x j us h hm hl
  simp only[Gl,Vo]at h
  simp only[mkT]at hm
  split at hm
  ·rename_i y l1 h1
   split at hm
   ·rename_i z l2 h2
    simp only[Vc,Vy]at hm
    obtain⟨rfl,rfl⟩:=hm
    obtain⟨h3,h4⟩:=ihp _ _ _ _ j us h h1 hl
    have key:∀ (a:List Lf) (j:Nat) (us:List Value),A6 P S f j (a++l1) us→A6 P S f j (a++(A5 q z++l2)) us∧St ts l2:=by
     intro a
     induction a with
     |nil=>intro j us h5;exact ihq _ _ _ _ j us h4 h2 h5
     |cons b a ih=>
      intro j us h5
      cases us with
      |nil=>exact h5.elim
      |cons u us=>exact⟨⟨h5.1,(ih (j+1) us h5.2).1⟩,(ih (j+1) us h5.2).2⟩
    have h5:=key _ j us h3
    rw[← Vo]at h5
    exact h5
   ·cases hm
  ·cases hm
 |ow e r _=>
  intro ts l l' x j us hf hm hl
  cases l with
  |nil=>simp[mkT]at hm
  |cons z l=>
   cases us with
   |nil=>exact hl.elim
   |cons u us=>
    cases z<;>first|(simp[mkT]at hm;done)|skip
    rename_i e' r' xs
    simp only[mkT]at hm
    rw[csi]at hm
    obtain⟨hb,hm⟩:=hm
    have he:e=e':=Ve hb
    subst he
    split at hm
    ·rename_i ys hys
     simp only[Vc,Vy]at hm
     obtain⟨rfl,rfl⟩:=hm
     exact⟨⟨Dy.cast hys hl.1,hl.2⟩,hf⟩
    ·cases hm
 |sl e r _=>
  intro ts l l' x j us hf hm hl
  cases l with
  |nil=>simp[mkT]at hm
  |cons z l=>
   cases us with
   |nil=>exact hl.elim
   |cons u us=>
    obtain⟨hz,hf⟩:z.isOwn=false∧St ts l:=hf
    cases z<;>first|(simp[mkT]at hm;done)|(simp[Lf.isOwn]at hz;done)|skip
    rename_i e' r' xs
    simp only[mkT]at hm
    rw[csi]at hm
    obtain⟨hb,hm⟩:=hm
    have he:e=e':=Ve hb
    subst he
    split at hm
    ·rename_i ys hys
     simp only[Vc,Vy]at hm
     obtain⟨rfl,rfl⟩:=hm
     exact⟨⟨Nl hys hl.1,hl.2⟩,hf⟩
    ·cases hm
 |i k=>
  intro ts l l' x j us hf hm hl
  cases l with
  |nil=>simp[mkT]at hm
  |cons z l=>
   cases z<;>first|(simp[mkT]at hm;done)|skip
   rename_i v
   cases v<;>first|(simp[mkT]at hm;done)|skip
   rename_i k' n
   simp only[mkT]at hm
   by_cases hk:k=k'
   ·subst hk
    simp at hm
    obtain⟨rfl,rfl⟩:=hm
    exact⟨hl,hf.2⟩
   ·simp[hk]at hm
 |b=>
  intro ts l l' x j us hf hm hl
  cases l with
  |nil=>simp[mkT]at hm
  |cons z l=>
   cases z<;>first|(simp[mkT]at hm;done)|skip
   rename_i v
   cases v<;>first|(simp[mkT]at hm;done)|skip
   simp[mkT]at hm
   obtain⟨rfl,rfl⟩:=hm
   exact⟨hl,hf.2⟩
 |s=>
  intro ts l l' x j us hf hm hl
  cases l with
  |nil=>simp[mkT]at hm
  |cons z l=>
   cases z<;>first|(simp[mkT]at hm;done)|skip
   rename_i v
   cases v<;>first|(simp[mkT]at hm;done)|skip
   simp[mkT]at hm
   obtain⟨rfl,rfl⟩:=hm
   exact⟨hl,hf.2⟩
def Mb {P:Program} {S:Sit} {f:Nat→Lab} {t:Ty} {l:List Lf} {x:t.den} {j:Nat} {us:List Value} (hf:St (Gl t) l) (h:mkW t l=some x) (hl:A6 P S f j l us):A6 P S f j (A5 t x) us:=by
 unfold mkW at h
 split at h
 ·rename_i y hy
  cases h
  have:=(Nca t [] l [] _ j us (by rw[Ym];exact hf) hy hl).1
  rwa [Ym]at this
 ·cases h
def Uca {Q:Nat→Lf→Value→Prop} (hqo:∀ j e r r' (xs:List (Ty.den r')) (ys:List (Ty.den r)) u,Py r r' xs=some ys→Q j (.own e r' xs) u→Q j (.own e r ys) u) (hqf:∀ j e r r' (xs:List (Ty.den r')) (ys:List (Ty.den r)) u,Mv r r' xs=some ys→Q j (.fz e r' xs) u→Q j (.fz e r ys) u):∀ (t:Ty) (ts:List Ty) (l l':List Lf) (x:t.den) (j:Nat) (us:List Value),St (Gl t++ts) l→mkT t l=some (x,l')→V1 Q j l us→V1 Q j (A5 t x++l') us∧St ts l':=by
 intro t
 induction t with
 |pr p q ihp ihq=>
  intro ts l l' x j us h hm hl
  simp only[Gl,Vo]at h
  simp only[mkT]at hm
  split at hm
  ·rename_i y l1 h1
   split at hm
   ·rename_i z l2 h2
    simp only[Vc,Vy]at hm
    obtain⟨rfl,rfl⟩:=hm
    obtain⟨h3,h4⟩:=ihp _ _ _ _ j us h h1 hl
    have key:∀ (a:List Lf) (j:Nat) (us:List Value),V1 Q j (a++l1) us→V1 Q j (a++(A5 q z++l2)) us∧St ts l2:=by
     intro a
     induction a with
     |nil=>intro j us h5;exact ihq _ _ _ _ j us h4 h2 h5
     |cons b a ih=>
      intro j us h5
      cases us with
      |nil=>exact h5.elim
      |cons u us=>exact⟨⟨h5.1,(ih (j+1) us h5.2).1⟩,(ih (j+1) us h5.2).2⟩
    have h5:=key _ j us h3
    rw[← Vo]at h5
    exact h5
   ·cases hm
  ·cases hm
 |ow e r _=>
  intro ts l l' x j us hf hm hl
  cases l with
  |nil=>simp[mkT]at hm
  |cons z l=>
   cases us with
   |nil=>exact hl.elim
   |cons u us=>
    cases z<;>first|(simp[mkT]at hm;done)|skip
    rename_i e' r' xs
    simp only[mkT]at hm
    rw[csi]at hm
    obtain⟨hb,hm⟩:=hm
    have he:e=e':=Ve hb
    subst he
    split at hm
    ·rename_i ys hys
     simp only[Vc,Vy]at hm
     obtain⟨rfl,rfl⟩:=hm
     exact⟨⟨hqo _ _ _ _ _ _ _ hys hl.1,hl.2⟩,hf⟩
    ·cases hm
 |sl e r _=>
  intro ts l l' x j us hf hm hl
  cases l with
  |nil=>simp[mkT]at hm
  |cons z l=>
   cases us with
   |nil=>exact hl.elim
   |cons u us=>
    obtain⟨hz,hf⟩:z.isOwn=false∧St ts l:=hf
    cases z<;>first|(simp[mkT]at hm;done)|(simp[Lf.isOwn]at hz;done)|skip
    rename_i e' r' xs
    simp only[mkT]at hm
    rw[csi]at hm
    obtain⟨hb,hm⟩:=hm
    have he:e=e':=Ve hb
    subst he
    split at hm
    ·rename_i ys hys
     simp only[Vc,Vy]at hm
     obtain⟨rfl,rfl⟩:=hm
     exact⟨⟨hqf _ _ _ _ _ _ _ hys hl.1,hl.2⟩,hf⟩
    ·cases hm
 |i k=>
  intro ts l l' x j us hf hm hl
  cases l with
  |nil=>simp[mkT]at hm
  |cons z l=>
   cases z<;>first|(simp[mkT]at hm;done)|skip
   rename_i v
   cases v<;>first|(simp[mkT]at hm;done)|skip
   rename_i k' n
   simp only[mkT]at hm
   by_cases hk:k=k'
   ·subst hk
    simp at hm
    obtain⟨rfl,rfl⟩:=hm
    exact⟨hl,hf.2⟩
   ·simp[hk]at hm
 |b=>
  intro ts l l' x j us hf hm hl
  cases l with
  |nil=>simp[mkT]at hm
  |cons z l=>
   cases z<;>first|(simp[mkT]at hm;done)|skip
   rename_i v
   cases v<;>first|(simp[mkT]at hm;done)|skip
   simp[mkT]at hm
   obtain⟨rfl,rfl⟩:=hm
   exact⟨hl,hf.2⟩
 |s=>
  intro ts l l' x j us hf hm hl
  cases l with
  |nil=>simp[mkT]at hm
  |cons z l=>
   cases z<;>first|(simp[mkT]at hm;done)|skip
   rename_i v
   cases v<;>first|(simp[mkT]at hm;done)|skip
   simp[mkT]at hm
   obtain⟨rfl,rfl⟩:=hm
   exact⟨hl,hf.2⟩
def Uda {Q:Nat→Lf→Value→Prop} (hqo:∀ j e r r' (xs:List (Ty.den r')) (ys:List (Ty.den r)) u,Py r r' xs=some ys→Q j (.own e r' xs) u→Q j (.own e r ys) u) (hqf:∀ j e r r' (xs:List (Ty.den r')) (ys:List (Ty.den r)) u,Mv r r' xs=some ys→Q j (.fz e r' xs) u→Q j (.fz e r ys) u) {t:Ty} {l:List Lf} {x:t.den} {j:Nat} {us:List Value} (hf:St (Gl t) l) (h:mkW t l=some x) (hl:V1 Q j l us):V1 Q j (A5 t x) us:=by
 unfold mkW at h
 split at h
 ·rename_i y hy
  cases h
  have:=(Uca hqo hqf t [] l [] _ j us (by rw[Ym];exact hf) hy hl).1
  rwa [Ym]at this
 ·cases h
def Gda {r:Ty} (xs:List r.den):Mv r r xs=some xs:=by
 unfold Mv
 rw[dif_pos rfl]
 rfl
def Gea {r:Ty} (xs:List r.den):Py r r xs=some xs:=by
 unfold Py
 rw[dif_pos rfl]
def P5:∀ (t:Ty) (x:t.den) (l:List Lf),mkT t (A5 t x++l)=some (x,l)
 |.i _,_,_=>by simp[A5,mkT]
 |.b,_,_=>by simp[A5,mkT]
 |.s,_,_=>by simp[A5,mkT]
 |.sl _ _,_,_=>by simp[A5,mkT,Gda]
 |.ow _ _,_,_=>by simp[A5,mkT,Gea]
 |.pr x y,p,l=>by
  show mkT (.pr x y) ((A5 x p.1++A5 y p.2)++l)=_
  rw[Vo]
  simp only[mkT]
  rw[P5 x p.1]
  simp only
  rw[P5 y p.2]
def Gfa (t:Ty) (x:t.den):mkW t (A5 t x)=some x:=by
 unfold mkW
 have:=P5 t x []
 rw[Ym]at this
 rw[this]
def R9 (S:Sit) (b:Nat×Nat):Value := .pointer (some ⟨(S.bb b.1).1,(S.bb b.1).2+0,none⟩)
def nmV (i:Nat):Nat:=10+2*i
def nmB (B:Nat):Nat:=11+2*B
def Rqa (P:Program) (S:Sit) (B:Nat) (t t':Ty) (l:List Lf) (u:Value) (bs:List (Nat×Nat)):Prop:=
 ∃ b,bs=[(b,B)]∧u = .pointer (some ⟨(S.bb b).1,(S.bb b).2,none⟩)∧(S.g (H b)).2 = .one (.hd t.sz)∧t'.sz=t.sz∧l.length=t.sz∧A4 l=true∧St (Gl t) l∧
  A6 P S (λ j => .tm (nmB B) [j]) 0 l ((List.range t.sz).map λ j=>S.ph (C b (0+j)))
def Uea (P:Program) (S:Sit) (cb hb:List (Nat×Nat)) (nv i:Nat):Par→List Lf→Value→List (Nat×Nat)→Prop
 |.vw t h,l,u,bs=>bs=[]∧nv≤h∧l.length=t.sz∧St (Gl t) l∧∃ c vs,nth hb (h-nv)=some c∧(S.g (H c.1)).2 = .one (.hd t.sz)∧u = .agg vs.toArray∧V1 (G9a P S (λ j=>S.ph (C c.1 j))) 0 l vs
 |.val ag t,l,u,bs=>bs=[]∧A4 l=true∧St (Gl t) l∧∃ us,(if ag then u = .agg us.toArray else us=[u])∧A6 P S (λ n => .tm (nmV i) (if ag then [n] else [])) 0 l us
 |.ptr t t',l,u,bs=>Rqa P S (bid nv i) t t' l u bs
 |.hid t t',l,u,bs=>Rqa P S (bid nv i) t t' l u bs
 |.rd t,l,u,bs=>bs=[]∧∃ r x k o cs,l=lvs r x∧shp r=shp t∧Hq t=true∧u = .pointer (some ⟨k,o,none⟩)∧S.O k = .fz∧r.rep P (λ k=>S.O k = .fz) S.w x cs∧Dm S.w k o cs
 |.fn F m,_,u,bs=>bs=[]∧m=cb.length∧u = .func (.func F) #[] (cb.map (R9 S)).toArray
def C5a (P:Program) (S:Sit) (cb hb:List (Nat×Nat)) (nv:Nat):Nat→List Par→List (List Lf)→List Value→List (Nat×Nat)→Prop
 |_,[],[],[],bs=>bs=[]
 |i,p::ps,l::ls,u::us,bs=>∃ b1 b2,bs=b1++b2∧Uea P S cb hb nv i p l u b1∧C5a P S cb hb nv (i+1) ps ls us b2
 |_,_,_,_,_=>False
def Iya {nv i j:Nat} (hn:nv≤1000) (h:bid nv i=bid nv j):i=j:=by
 unfold bid at h
 cases h1:Nat.blt i nv<;>cases h2:Nat.blt j nv<;>rw[h1,h2]at h<;>simp only[cond_true,cond_false]at h
 ·have h3:¬ i<nv:=λ h'=>by rw[show Nat.blt i nv=true from Zq h']at h1;cases h1
  have h4:¬ j<nv:=λ h'=>by rw[show Nat.blt j nv=true from Zq h']at h2;cases h2
  omega
 ·have h4:j<nv:=Vj h2
  omega
 ·have h4:i<nv:=Vj h1
  omega
 ·exact h
section
variable {X:Cx} {S S1 S2:Sit} {a:Act} {E:En} {A:Ab} {o:Oper} {R:Type} {Kc:List Up→Option R} {r:R}
def exA (nv i:Nat):Nat→List Nat→Prop:=λ n _=>∃ j,i≤j∧(n=nmV j∨n=nmB (bid nv j))
def Iza {nv i j:Nat} (hn:nv≤1000) (h:j<i) (q:List Nat):¬ exA nv i (nmV j) q∧¬ exA nv i (nmB (bid nv j)) q:=by
 refine⟨λ ⟨k,h1,h2⟩=>?_,λ ⟨k,h1,h2⟩=>?_⟩
 ·unfold nmV nmB at h2
  omega
 ·unfold nmV nmB at h2
  rcases h2 with h2|h2
  ·omega
  ·have:bid nv j=bid nv k:=by omega
   have:=Iya hn this
   omega
def V1.imp {Q Q':Nat→Lf→Value→Prop} (h:∀ j x u,Q j x u→Q' j x u):∀ {l:List Lf} {j:Nat} {us:List Value},V1 Q j l us→V1 Q' j l us
 |[],_,[],_=>trivial
 |[],_,_::_,h'=>h'.elim
 |_::_,_,[],h'=>h'.elim
 |_::_,j,_::_,h'=>⟨h _ _ _ h'.1,V1.imp h h'.2⟩
def G9a.later {P:Program} {S S':Sit} {w w':Nat→Value} {j:Nat} {x:Lf} {u:Value} (hw:w'=w) (hl:∀ x u,Mea x=true→Am P S .fz x u→Am P S' .fz x u) (h:G9a P S w j x u):G9a P S' w' j x u:=by
 subst hw
 cases x<;>first|exact h|exact⟨h.1,hl _ _ h.1 h.2⟩
def Uea.stay {cb hb:List (Nat×Nat)} {nv i j:Nat} {p:Par} {l:List Lf} {u:Value} {bs:List (Nat×Nat)} (hn:nv≤1000) (h:Ew X S S1 (exA nv i)) (hj:j<i) (hp:Uea X.P S cb hb nv j p l u bs):Uea X.P S1 cb hb nv j p l u bs:=by
 have hfz:∀ k,S.O k = .fz→S1.O k = .fz:=λ k hk=>(h.later.fz k hk).1
 have box:∀ {t t':Ty},Rqa X.P S (bid nv j) t t' l u bs→Rqa X.P S1 (bid nv j) t t' l u bs:=by
  rintro t t' ⟨b,h1,h2,h3,h4,h5,h6,h7,h8⟩
  refine⟨b,h1,by rw[h.bb];exact h2,by rw[h.heads b _ h3];exact h3,h4,h5,h6,h7,?_⟩
  rw[h.ph]
  exact h8.imp (λ n x u hx=>h.tms _ _ _ _ (Iza hn hj _).2 hx)
 cases p with
 |vw t h0=>
  obtain⟨h1,h2,h3,h4,c,vs,h5,h6,h7,h8⟩:=hp
  refine⟨h1,h2,h3,h4,c,vs,h5,by rw[h.heads c.1 _ h6];exact h6,h7,h8.imp (λ j x u hx=>hx.later (by rw[h.ph]) (λ x u hs hx=>?_))⟩
  exact Am.later h.later hx (λ k hk=>⟨hfz k hk,by rw[h.w]⟩)
 |val ag t=>
  obtain⟨h1,h2,h3,us,h4,h5⟩:=hp
  exact⟨h1,h2,h3,us,h4,h5.imp (λ n x u hx=>h.tms _ _ _ _ (Iza hn hj _).1 hx)⟩
 |ptr t t'=>exact box hp
 |hid t t'=>exact box hp
 |rd t=>
  obtain⟨h1,r',x,k,o',cs,h2,h3,h4,h5,h6,h7,h8⟩:=hp
  exact⟨h1,r',x,k,o',cs,h2,h3,h4,h5,hfz k h6,Ty.rep_mono hfz (λ k _=>by rw[h.w]) r' x cs h7,h8.mono (by rw[h.w])⟩
 |fn F m=>
  obtain⟨h1,h2,h3⟩:=hp
  refine⟨h1,h2,?_⟩
  have:R9 S1=R9 S:=by funext b;unfold R9;rw[h.bb]
  rw[this]
  exact h3
def J0a:∀ {l m:List (Nat×Nat)},Pna l m=true→l=m
 |[],[],_=>rfl
 |[],_::_,h=>by simp[Pna]at h
 |_::_,[],h=>by simp[Pna]at h
 |(a1,a2)::l,(b1,b2)::m,h=>by
  simp only[Pna,Va]at h
  have e1:a1=b1:=Ve h.1.1
  have e2:a2=b2:=Ve h.1.2
  rw[e1,e2,J0a h.2]
def Ra (hg:S.g=get A):∀ {bs:List (Nat×Nat)} {us:List Value},Qt S bs us→J6 A bs=true→us=bs.map (R9 S)
 |[],us,h,_=>h
 |c::bs,us,⟨u,us',e,⟨h1,h2⟩,h3⟩,ha=>by
  simp only[J6,Va]at ha
  have e1:(S.g (H c.1)).1=c.2:=by rw[hg];exact Ve ha.1
  subst e
  rw[Xs,Ra hg h3 ha.2,h2 e1]
  rfl
def J1a {ag:Bool} {s:Sv} (h:Hs ag s=true):∀ n,pth s n=if ag then [n] else []:=by
 intro n
 cases s with
 |tup vs=>simp[Hs,Hla]at h
 |one z=>cases ag<;>simp[Hs,Hla]at h ⊢;rfl
 |agg z=>cases ag<;>simp[Hs,Hla]at h ⊢;rfl
def Nda {x:Operand} {b v off:Nat} {t:Ty} {m:List Lf} {us:List Up} (h:Om A x (.one (.bp b v off)) t=some (m,us)):False:=by
 unfold Om Ol at h
 split at h
 ·rename_i m0 vs0 ht
  have hm:m0=[.bp b v off]∨False:=by
   have e1:parts (.one (.bp b v off))=[.bp b v off]:=rfl
   rw[e1]at ht
   generalize Gl t=ts at ht
   cases ts with
   |nil=>simp[Ev]at ht
   |cons t ts=>
    cases ts with
    |cons t2 ts=>
     obtain⟨_,h2⟩:=Ju _ _ ht
     simp at h2
    |nil=>
     cases t<;>first|(simp[Ev,Bka,Hw]at ht;done)|skip
     all_goals
      simp[Ev,Q5,kept,Jg]at ht
      exact .inl ht.1.symm
  rcases hm with rfl|h0
  ·simp[A4]at h
  ·exact h0
 ·cases h
def C6a {A:Ab} {S:Sit} {X:Cx} {a:Act} (K:Ah X S a) (hg:S.g=get A) {b l0:Nat}:∀ (ts:List Ty) {j:Nat} {l m:List Lf} {us:List Value},Bma A b j ts l=some m→A6 X.P S (λ n => .pl l0 [n]) j l us→
  St ts m∧m.length=ts.length∧V1 (G9a X.P S (λ j=>S.ph (C b j))) j m us
 |[],j,[],m,us,h,hl=>by
  simp only[Bma,Vc]at h
  subst h
  cases us with
  |nil=>exact⟨trivial,rfl,trivial⟩
  |cons=>exact hl.elim
 |[],j,_::_,m,us,h,hl=>by simp[Bma]at h
 |t::ts,j,[],m,us,h,hl=>by cases t<;>simp[Bma]at h
 |t::ts,j,x::l,m,us,h,hl=>by
  cases us with
  |nil=>exact hl.elim
  |cons u us=>
   have share:∀ {m':List Lf},Mea (Hw A x)=true→Bma A b (j+1) ts l=some m'→(∀ m'',St (t::ts) (Hw A x::m'')↔((Hw A x).isOwn=false∧St ts m''))→St (t::ts) (Hw A x::m')∧(Hw A x::m').length=(t::ts).length∧V1 (G9a X.P S (λ j=>S.ph (C b j))) j (Hw A x::m') (u::us):=by
    intro m' hs hr hf
    obtain⟨h1,h2,h3⟩:=C6a K hg ts hr hl.2
    obtain⟨lab',h4⟩:=Mz K hg hl.1
    refine⟨(hf m').2 ⟨by cases hx:Hw A x<;>rw[hx]at hs<;>first|rfl|simp[Mea]at hs,h1⟩,by simp[h2],?_,h3⟩
    have h5:Am X.P S .fz (Hw A x) u:=by
     cases hx:Hw A x<;>rw[hx]at hs h4<;>first|exact Am.relab (lab' := .fz) rfl h4|simp[Mea]at hs
    cases hx:Hw A x<;>rw[hx]at hs h5<;>first|exact⟨rfl,h5⟩|simp[Mea]at hs
   cases t with
   |ow e r=>
    cases x<;>first|(simp[Bma]at h;done)|skip
    rename_i p v
    simp only[Bma]at h
    obtain⟨hq,h⟩:=cs h
    simp only[Va]at hq
    split at h
    ·rename_i y hy
     split at h
     ·rename_i m' hr
      cases h
      obtain⟨h1,h2,h3⟩:=C6a K hg ts hr hl.2
      have hal:Am X.P S (.pl l0 [j]) (.al p v) u:=hl.1
      have hu:=hal.2 (by rw[hg];exact Ve hq.2)
      have hyo:∃ ys,y = .own e r ys:=by
       unfold Bka at hy
       split at hy
       ·generalize Nat.beq e _=bb at hy
        cases bb
        ·simp at hy
        rw[cond_true]at hy
        split at hy
        ·simp only[Vc]at hy
         exact⟨_,hy.symm⟩
        ·obtain⟨hno,hy⟩:=cs hy
         split at hy
         ·simp only[Vc]at hy
          exact⟨_,hy.symm⟩
         ·cases hy
       ·cases hy
      obtain⟨ys,rfl⟩:=hyo
      refine⟨h1,by simp[h2],?_,h3⟩
      show u=S.ph (C b j)
      rw[hu,Ve hq.1]
     ·cases h
    ·cases h
   |_=>
    simp only[Bma]at h
    obtain⟨hs,h⟩:=cs h
    split at h
    ·rename_i m' hr
     cases h
     exact share hs hr (λ m''=>Abb)
    ·cases h
def Nea (hE:Ho X E) (K:Ah X S a) (hg:S.g=get A) {cb hb:List (Nat×Nat)} {nv i:Nat} {x:Operand} {s:Sv} {v:Value} {p:Par} {l:List Lf} {us:List Up} {bs:List Nat} (hx:(∃ T,opT E T A x=some s∧v=a.eval x)∨(∃ h:Nat×Nat,s = .one (.bp h.1 h.2 0)∧v=R9 S h)) (h:Pz A cb hb nv x p s=some (l,us,bs)):
  ∃ S1 bp,Ah X S1 a∧S1.g=get (ups A us)∧Ew X S S1 (exA nv i)∧bp.map Prod.fst=bs∧Uea X.P S1 cb hb nv i p l v bp:=by
 have box:∀ {t t':Ty} {b w:Nat},s = .one (.bp b w 0)→(match Mx A b w t t' with|some (m,us)=>some (m,us,[b])|none=>none)=some (l,us,bs)→∃ S1 bp,Ah X S1 a∧S1.g=get (ups A us)∧Ew X S S1 (exA nv i)∧bp.map Prod.fst=bs∧Rqa X.P S1 (bid nv i) t t' l v bp:=by
  intro t t' b w hs h
  split at h
  ·rename_i m us' hgive
   cases h
   obtain⟨g1,g2,g3,g4,g5,S1,K1,g6,G,hl⟩:=Qa K hg hgive (nmB (bid nv i))
   refine⟨S1,[(b,bid nv i)],K1,g6,Ew.trans (λ n q h=>h) (λ n q h=>⟨i,Vv _,.inr h⟩) (Ew.refl S (exA nv i)) G,rfl,b,rfl,?_,by rw[G.heads b _ g2];exact g2,g3,g5,g4,P4 hgive,by rw[G.ph];exact hl⟩
   rw[G.bb]
   rcases hx with⟨T,h1,rfl⟩|⟨h',h1,rfl⟩
   ·obtain⟨pl,h2⟩:=G4 hE K hg h1
    rw[hs]at h2
    have h3:Am X.P S (.pl pl []) (.bp b w 0) (a.eval x):=h2
    exact h3.2 g1
   ·rw[hs]at h1
    simp only[Sv.one.injEq,Lf.bp.injEq]at h1
    unfold R9
    rw[← h1.1]
    rfl
  ·cases h
 unfold Pz at h
 split at h
 ·rename_i t h0 ys
  split at h
  ·rename_i c hc
   split at h
   ·rename_i n m hp
    obtain⟨hq,h⟩:=cs h
    simp only[Va]at hq
    split at h
    ·rename_i l0 hvw
     cases h
     rcases hx with⟨T,h1,rfl⟩|⟨h',h1,_⟩
     ·obtain⟨pl,h2⟩:=G4 hE K hg h1
      obtain⟨vs,e1,e2⟩:∃ us:List Value,a.eval x = .agg us.toArray∧A6 X.P S (λ j => .pl pl [j]) 0 ys us:=h2
      obtain⟨f1,f2,f3⟩:=C6a K hg _ hvw e2
      exact⟨S,[],K,hg,Ew.refl S _,rfl,rfl,Vj hq.1.1,by rw[f2,Ir],f1,c,vs,hc,by rw[hg,hp,Ve hq.2],e1,f3⟩
     ·cases h1
    ·cases h
   ·cases h
  ·cases h
 ·rename_i ag t
  obtain⟨hq,h⟩:=cs h
  split at h
  ·rename_i m us' hgive
   cases h
   rcases hx with⟨T,h1,rfl⟩|⟨h',h1,_⟩
   ·obtain⟨S1,K1,g1,G,h2,_,vs,hsh,hl⟩:=Dxa hE K hg (.inl h1) (Iwa hq) hgive (nmV i)
    have hp:=J1a hq
    simp only[hp]at hl
    exact⟨S1,[],K1,g1,Ew.trans (λ n q h=>h) (λ n q h=>⟨i,Vv _,.inl h⟩) (Ew.refl S (exA nv i)) G,rfl,rfl,h2,Tn hgive,vs,Tj hq hsh,hl⟩
   ·rw[h1]at hgive
    exact(Nda hgive).elim
  ·cases h
 ·exact box rfl h
 ·exact box rfl h
 ·rename_i t r' y
  cases hq:(decide (shp r'=shp t)&&Hq t)
  ·rw[hq]at h;simp at h
  rw[hq]at h
  simp only[cond_true,Vc,Vy]at h
  obtain⟨rfl,rfl,rfl⟩:=h
  simp only[Va,decide_eq_true_eq]at hq
  rcases hx with⟨T,h1,rfl⟩|⟨h',h1,_⟩
  ·obtain⟨pl,h2⟩:=G4 hE K hg h1
   obtain⟨k,o',cs,e1,e2,e3,e4⟩:Am X.P S (.pl pl []) (.fp r' y 0) (a.eval x):=h2
   exact⟨S,[],K,hg,Ew.refl S _,rfl,rfl,r',y,k,o',cs,rfl,hq.1,hq.2,e1,e2,e3,e4⟩
  ·cases h1
 ·rename_i F m F' bs'
  cases hq:(Nat.beq F F'&&Nat.beq m bs'.length&&Pna bs' cb&&J6 A bs')
  ·rw[hq]at h;simp at h
  rw[hq]at h
  simp only[cond_true,Vc,Vy]at h
  obtain⟨rfl,rfl,rfl⟩:=h
  simp only[Va]at hq
  obtain⟨⟨⟨q1,q2⟩,q3⟩,q4⟩:=hq
  have e1:F=F':=Ve q1
  have e2:m=bs'.length:=Ve q2
  have e3:=J0a q3
  subst e1 e3
  rcases hx with⟨T,h1,rfl⟩|⟨h',h1,_⟩
  ·obtain⟨pl,h2⟩:=G4 hE K hg h1
   obtain⟨us',e4,e5⟩:Am X.P S (.pl pl []) (.fn F bs') (a.eval x):=h2
   have e6:=Ra hg e5 q4
   subst e6
   exact⟨S,[],K,hg,Ew.refl S _,rfl,rfl,e2,e4⟩
  ·cases h1
 ·cases h
def Yz (hE:Ho X E) {cb hb:List (Nat×Nat)} {nv:Nat} (hn:nv≤1000):∀ (ps:List Par) {xs:List (TypeId×Operand)} {hs:List (Nat×Nat)} {S:Sit} {A:Ab} {ls:List (List Lf)} {us:List Up} {bs:List Nat} (i:Nat),Ah X S a→S.g=get A→Ie E cb hb nv A xs hs ps=some (ls,us,bs)→
  ∃ S1 bp,Ah X S1 a∧S1.g=get (ups A us)∧Ew X S S1 (exA nv i)∧bp.map Prod.fst=bs∧C5a X.P S1 cb hb nv i ps ls (xs.map (λ x=>a.eval x.2)++hs.map (R9 S)) bp
 |[],xs,hs,S,A,ls,us,bs,i,K,hg,h=>by
  cases xs with
  |cons=>simp[Ie]at h
  |nil=>
   cases hs with
   |cons=>simp[Ie]at h
   |nil=>
    simp only[Ie,Vc,Vy]at h
    obtain⟨rfl,rfl,rfl⟩:=h
    exact⟨S,[],K,hg,Ew.refl S _,rfl,rfl⟩
 |p::ps,xs,hs,S,A,ls,us,bs,i,K,hg,h=>by
  have go:∀ {x:Operand} {s:Sv} {v:Value} {xs':List (TypeId×Operand)} {hs':List (Nat×Nat)} {l:List Lf} {u:List Up} {b:List Nat} {ls1:List (List Lf)} {us1:List Up} {bs1:List Nat},((∃ T,opT E T A x=some s∧v=a.eval x)∨(∃ h:Nat×Nat,s = .one (.bp h.1 h.2 0)∧v=R9 S h))→Pz A cb hb nv x p s=some (l,u,b)→Ie E cb hb nv (ups A u) xs' hs' ps=some (ls1,us1,bs1)→
    ∃ S1 bp,Ah X S1 a∧S1.g=get (ups A (u++us1))∧Ew X S S1 (exA nv i)∧bp.map Prod.fst=b++bs1∧C5a X.P S1 cb hb nv i (p::ps) (l::ls1) (v::(xs'.map (λ x=>a.eval x.2)++hs'.map (R9 S))) bp:=by
   intro x s v xs' hs' l u b ls1 us1 bs1 hx h1 h2
   obtain⟨S1,b1,K1,g1,G1,e1,p1⟩:=Nea (nv:=nv) (i:=i) hE K hg hx h1
   obtain⟨S2,b2,K2,g2,G2,e2,p2⟩:=Yz hE hn ps (i+1) K1 g1 h2
   have hpv:R9 S1=R9 S:=by funext b;unfold R9;rw[G1.bb]
   rw[hpv]at p2
   exact⟨S2,b1++b2,K2,by rw[Af];exact g2,Ew.trans (λ _ _ h=>h) (λ n q ⟨j,h1,h2⟩=>⟨j,by omega,h2⟩) G1 G2,by rw[Yca,e1,e2],b1,b2,rfl,p1.stay hn G2 (by omega),p2⟩
  cases xs with
  |cons x xs=>
   simp only[Ie]at h
   split at h
   ·rename_i s hs1
    split at h
    ·rename_i l u b hb
     split at h
     ·rename_i ls1 us1 bs1 hrec
      cases h
      exact go (.inl ⟨x.1,hs1,rfl⟩) hb hrec
     ·cases h
    ·cases h
   ·cases h
  |nil=>
   cases hs with
   |nil=>simp[Ie]at h
   |cons h0 hs=>
    simp only[Ie]at h
    split at h
    ·rename_i l u b hb
     split at h
     ·rename_i ls1 us1 bs1 hrec
      cases h
      exact go (xs':=[]) (.inr ⟨h0,rfl,rfl⟩) hb hrec
     ·cases h
    ·cases h
end
end

section
attribute [local irreducible] C H
def lkF:List (Nat×Nat)→Nat→Option Nat
 |[],_=>none
 |c::l,x=>if c.1=x then some c.2 else lkF l x
def lkS:List (Nat×Nat)→Nat→Option Nat
 |[],_=>none
 |c::l,x=>if c.2=x then some c.1 else lkS l x
def C7a:∀ {l:List (Nat×Nat)} {b B:Nat},lkF l b=some B→(b,B)∈l
 |[],_,_,h=>by simp[lkF]at h
 |c::l,b,B,h=>by
  simp only[lkF]at h
  split at h
  ·rename_i e
   simp only[Vc]at h
   rw[← e,← h]
   exact Yc
  ·exact Vd _ (C7a h)
def E9a:∀ {l:List (Nat×Nat)} {b B:Nat},(l.map Prod.fst).Nodup→(b,B)∈l→lkF l b=some B
 |[],_,_,_,h=>by simp at h
 |c::l,b,B,hn,h=>by
  rw[Xs,Yn]at hn
  simp only[lkF]
  rcases Vk.1 h with rfl|h
  ·rw[if_pos rfl]
  ·rw[if_neg (λ e=>hn.1 (by rw[e];exact Yp h))]
   exact E9a hn.2 h
def Z0:∀ {l:List (Nat×Nat)} {b B:Nat},(l.map Prod.snd).Nodup→(b,B)∈l→lkS l B=some b
 |[],_,_,_,h=>by simp at h
 |c::l,b,B,hn,h=>by
  rw[Xs,Yn]at hn
  simp only[lkS]
  rcases Vk.1 h with rfl|h
  ·rw[if_pos rfl]
  ·rw[if_neg (λ e=>hn.1 (by rw[e];exact Yp h))]
   exact Z0 hn.2 h
def Rra:∀ {l:List (Nat×Nat)} {b b' B:Nat},(l.map Prod.snd).Nodup→(b,B)∈l→(b',B)∈l→b=b':=λ hn h h'=>by
 have e1:=Z0 hn h
 rw[Z0 hn h']at e1
 simpa using e1.symm
def Z1:∀ {l:List Nat},Xh l=true→l.Nodup
 |[],_=>by simp
 |b::l,h=>by
  simp only[Xh,Va,Vu,List.any_eq_false]at h
  rw[Yn]
  exact⟨λ hb=>h.1 b hb (by rw[A9b]),Z1 h.2⟩
def Mq (S:Sit) (L:List (Nat×Nat)):Nat→Lab:=λ k=>match S.O k with
 |.fz => .fz
 |.tm n q=>if n<10 then .no else if n % 2=0 then .pl ((n-10)/2) q else (match q with
  |[j] => .pl (C ((n-11)/2) j) []
  |_ => .no)
 |.bx b=>(match lkF L b with
  |some B=>if k=(S.bb b).1 then .bx B else .no
  |none => .no)
 |_ => .no
def Rsa (S:Sit) (L:List (Nat×Nat)):Nat→Nat×Nat:=λ B=>match lkS L B with
 |some b=>((S.bb b).2,match (S.g (H b)).2 with | .one (.hd n)=>n|_=>0)
 |none=>(0,0)
def Tja:Lab→Bool
 |.tm _ _=>true
 |_=>false
def nmO:Lab→Lab
 |.fz => .fz
 |.tm n q => .tm n q
 |.no => .no
 |_ => .tm 99999 []
def Hoa (S:Sit) (O':Nat→Lab):Nat→Lab:=λ k=>if k<S.w.heap.size∧Tja (S.O k)=false then S.O k else nmO (O' k)
section
variable {X:Cx} {S S1 S2:Sit} {a:Act} {E:En} {A:Ab} {o:Oper} {R:Type} {Kc:List Up→Option R} {r:R}
def Ks {S:Sit} {L:List (Nat×Nat)} {k:Nat} (h:S.O k = .fz):Mq S L k = .fz:=by simp[Mq,h]
def J2a {S:Sit} {L:List (Nat×Nat)} {k b B:Nat} (h:S.O k = .bx b) (hl:lkF L b=some B) (hk:k=(S.bb b).1):Mq S L k = .bx B:=by
 unfold Mq;rw[h];simp[hl,← hk]
def Ufa {S:Sit} {L:List (Nat×Nat)} {k i:Nat} {q:List Nat} (h:S.O k = .tm (nmV i) q):Mq S L k = .pl i q:=by
 unfold Mq nmV at *
 rw[h]
 simp only
 rw[if_neg (by omega),if_pos (by omega),show (10+2*i-10)/2=i by omega]
def Uga {S:Sit} {L:List (Nat×Nat)} {k B j:Nat} (h:S.O k = .tm (nmB B) [j]):Mq S L k = .pl (C B j) []:=by
 unfold Mq nmB at *
 rw[h]
 simp only
 rw[if_neg (by omega),if_neg (by omega),show (11+2*B-11)/2=B by omega]
def Hk:∀ {m:List Lf},A4 m=true→∀ y∈m,G6 y=true
 |[],_=>by simp
 |x::m,h=>by
  intro y hy
  obtain⟨h1,h2⟩:=Kl h
  rcases Vk.1 hy with rfl|hy
  ·rcases h2 with⟨_,rfl⟩|⟨_,_,_,rfl⟩|⟨_,_,_,rfl⟩<;>rfl
  ·exact Hk h1 y hy
def Mr:∀ l:List Lf,(∀ y∈l,G6 y=true)→A4 l=true
 |[],_=>rfl
 |x::l,h=>by
  have h1:=h x (by simp)
  have h2:=Mr l (λ y hy=>h y (Vd _ hy))
  cases x<;>first|(simp[G6]at h1;done)|simpa[A4] using h2
def V2 {P:Program} {S:Sit} {cb:List (Nat×Nat)} {nv:Nat} (hn:nv≤1000):∀ (ps:List Par) {i:Nat} {ls:List (List Lf)} {us:List Value} {bp:List (Nat×Nat)},C5a P S cb cb nv i ps ls us bp→
  (∀ c∈bp,∃ j,i≤j∧j<i+ps.length∧c.2=bid nv j)∧(bp.map Prod.snd).Nodup∧(∀ c∈bp,∃ n,(S.g (H c.1)).2 = .one (.hd n))∧us.length=ps.length
 |[],i,[],[],bp,h=>by
  have:bp=[]:=h
  subst this
  exact⟨by simp,by simp,by simp,rfl⟩
 |[],i,_::_,_,_,h=>h.elim
 |[],i,[],_::_,_,h=>h.elim
 |p::ps,i,[],_,_,h=>h.elim
 |p::ps,i,_::_,[],_,h=>h.elim
 |p::ps,i,l::ls,u::us,bp,h=>by
  obtain⟨b1,b2,rfl,h1,h2⟩:=h
  obtain⟨i1,i2,i3,i4⟩:=V2 hn ps h2
  have h3:b1=[]∨∃ b,b1=[(b,bid nv i)]∧∃ n,(S.g (H b)).2 = .one (.hd n):=by
   cases p with
   |val ag t=>exact .inl h1.1
   |vw t h0=>exact .inl h1.1
   |rd t=>exact .inl h1.1
   |fn F m=>exact .inl h1.1
   |ptr t t'=>obtain⟨b,e,_,h4,_⟩:=h1;exact .inr ⟨b,e,_,h4⟩
   |hid t t'=>obtain⟨b,e,_,h4,_⟩:=h1;exact .inr ⟨b,e,_,h4⟩
  have i1':∀ c∈b2,∃ j,i≤j∧j<i+(p::ps).length∧c.2=bid nv j:=λ c hc=>by
   obtain⟨j,j1,j2,j3⟩:=i1 c hc
   exact⟨j,by omega,by simp only[Vh];omega,j3⟩
  rcases h3 with rfl|⟨b,rfl,n,hb⟩
  ·exact⟨i1',i2,i3,by simp[i4]⟩
  ·refine⟨λ c hc=>?_,?_,λ c hc=>?_,by simp[i4]⟩
   ·rcases Vk.1 hc with rfl|hc
    ·exact⟨i,Vv _,by simp only[Vh];omega,rfl⟩
    ·exact i1' c hc
   ·rw[Yj,Xs,Yn]
    refine⟨λ hm=>?_,i2⟩
    obtain⟨c,hc,e⟩:=Yr.1 hm
    obtain⟨j,j1,j2,j3⟩:=i1 c hc
    rw[j3]at e
    have:=Iya hn e
    omega
   ·rcases Vk.1 hc with rfl|hc
    ·exact⟨n,hb⟩
    ·exact i3 c hc
def J3a (K:Ah X S a) {cb L:List (Nat×Nat)} {nv:Nat} (hn1:(L.map Prod.fst).Nodup) (hn2:(L.map Prod.snd).Nodup):∀ (ps:List Par) {i:Nat} {ls ls':List (List Lf)} {us:List Value} {bp:List (Nat×Nat)},C5a X.P S cb cb nv i ps ls us bp→Mk (ps.map Par.ty) ls ls'→(∀ c∈bp,c∈L)→Ip nv i ps=true→
  Jx X.P (bare (Mq S L) S.w) (Rsa S L) nv (cb.map (R9 S)) i ps ls' us
 |[],i,[],[],[],bp,_,_,_,_=>trivial
 |[],i,[],_::_,_,bp,_,hm,_,_=>hm.elim
 |[],i,_::_,_,_,bp,h,_,_,_=>h.elim
 |[],i,[],[],_::_,bp,h,_,_,_=>h.elim
 |p::ps,i,[],_,_,bp,h,_,_,_=>h.elim
 |p::ps,i,_::_,_,[],bp,h,_,_,_=>h.elim
 |p::ps,i,l::ls,[],_::_,bp,_,hm,_,_=>hm.elim
 |p::ps,i,l::ls,l'::ls',u::us,bp,h,hm,hb,hp=>by
  obtain⟨b1,b2,rfl,h1,h2⟩:=h
  obtain⟨⟨y,hy,rfl⟩,hm2⟩:=hm
  have hp2:Ip nv (i+1) ps=true:=by cases p<;>simp only[Ip,Va]at hp<;>exact hp.2
  refine⟨?_,J3a K hn1 hn2 ps h2 hm2 (λ b hb'=>hb b (Vn _ hb')) hp2⟩
  have box:∀ {t t':Ty} {y:t.den},mkW t l=some y→Rqa X.P S (bid nv i) t t' l u b1→Th X.P (bare (Mq S L) S.w) (Rsa S L) (bid nv i) t (A5 t y) u:=by
   rintro t t' y hy ⟨b,e1,e2,e3,e4,e5,e6,e7,e8⟩
   have hL:(b,bid nv i)∈L:=hb _ (by rw[e1];simp)
   obtain⟨g1,c,e,g2,g3,g4,g5⟩:=K.box b _ e3
   refine⟨(S.bb b).1,(S.bb b).2,c,e,(List.range t.sz).map (λ j=>S.ph (C b (0+j))),e2,g2,?_,?_,g4,g1,Fs t y,λ j hj=>?_,?_⟩
   ·exact J2a g3 (E9a hn1 hL) rfl
   ·show Rsa S L _=_
    unfold Rsa
    rw[Z0 hn2 hL]
    simp only[e3]
   ·rw[g5 j hj]
    simp[hj]
   ·have h3:A6 X.P (bare (Mq S L) S.w) (λ j => .pl (C (bid nv i) j) []) 0 l ((List.range t.sz).map λ j=>S.ph (C b (0+j))):=
     A6.impS (S1:=S) (Hk e6) (λ n x u hx h=>Am.bare (S1:=S) (S2:=bare (Mq S L) S.w) (lab := .tm (nmB (bid nv i)) [n]) hx rfl (λ k hk=>Ks hk) (λ k hk=>Uga hk) h) e8
    exact Mb e7 hy h3
  cases p with
  |vw t h0=>
   obtain⟨_,e1,e2,e3,c,vs,e4,e5,e6,e7⟩:=h1
   obtain⟨g1,cc,e,g2,g3,g4,g5⟩:=K.box c.1 _ e5
   refine⟨e1,vs,(S.bb c.1).1,(S.bb c.1).2,cc,e,e6,?_,g2,g1,Fs t y,?_⟩
   ·rw[Gk]at e4
    rw[Zy,e4]
    rfl
   ·have hcell:∀ j,j<t.sz→cc.getD ((S.bb c.1).2+j) undef=S.ph (C c.1 j):=λ j hj=>by
     have:=g5 j hj
     simp[Ye,this]
    have h2:=Uda (Q:=λ j x u=>j<t.sz→G9a X.P S (λ j=>S.ph (C c.1 j)) j x u) ?_ ?_ e3 hy (j:=0) (us:=vs) (V1.imp (Q:=G9a X.P S (λ j=>S.ph (C c.1 j))) (Q':=λ j x u=>j<t.sz→G9a X.P S (λ j=>S.ph (C c.1 j)) j x u) (λ j x u h _=>h) e7)
    ·have key:∀ (l:List Lf) (j:Nat) (us:List Value),j+l.length≤t.sz→V1 (λ j x u=>j<t.sz→G9a X.P S (λ j=>S.ph (C c.1 j)) j x u) j l us→V1 (G9a X.P (bare (Mq S L) S.w) (λ j=>cc.getD ((S.bb c.1).2+j) undef)) j l us:=by
      intro l
      induction l with
      |nil=>intro j us _ h;cases us<;>first|trivial|exact h.elim
      |cons x l ih=>
       intro j us hj h
       simp only[Vh]at hj
       cases us with
       |nil=>exact h.elim
       |cons u us=>
        refine⟨?_,ih (j+1) us (by omega) h.2⟩
        have h3:=h.1 (by omega)
        cases x<;>first|(show u=cc.getD ((S.bb c.1).2+j) undef;rw[hcell j (by omega)];exact h3)|(refine⟨h3.1,?_⟩;have h4:=h3.1;simp[Mea]at h4;done)|skip
        ·exact⟨rfl,Am.bare (S1:=S) (S2:=bare (Mq S L) S.w) rfl rfl (λ k hk=>Ks hk) (λ k hk=>Ks hk) h3.2⟩
        ·exact⟨rfl,Am.bare (S1:=S) (S2:=bare (Mq S L) S.w) rfl rfl (λ k hk=>Ks hk) (λ k hk=>Ks hk) h3.2⟩
     exact key _ _ _ (by rw[Fs];show 0+t.sz≤t.sz;omega) h2
    ·intro j e r r' xs ys u _ h hj
     exact h hj
    ·intro j e r r' xs ys u hc h hj
     exact⟨rfl,Nl hc (h hj).2⟩
  |val ag t=>
   obtain⟨_,e2,e3,vs,e4,e5⟩:=h1
   refine⟨vs,e4,Mb e3 hy ?_⟩
   exact A6.impS (S1:=S) (Hk e2) (λ n x u hx h=>Am.bare (S1:=S) (S2:=bare (Mq S L) S.w) hx rfl (λ k hk=>Ks hk) (λ k hk=>Ufa hk) h) e5
  |ptr t t'=>
   simp only[Ip,Va]at hp
   exact⟨Vj hp.1,box hy h1⟩
  |hid t t'=>
   simp only[Ip,Va]at hp
   exact⟨Vj hp.1,box hy h1⟩
  |rd t=>
   obtain⟨_,r',x,k,o',cs,rfl,e3,e4,e5,e6,e7,e8⟩:=h1
   have h3:=Qs hy (Ki r' x cs e7)
   exact⟨y,k,o',cs,Gfa t y,e5,Ks e6,Ty.rep_mono (λ k hk=>Ks hk) (λ _ _=>rfl) t y cs h3,e8⟩
  |fn F m=>
   obtain⟨_,e2,e3⟩:=h1
   exact⟨e3,by rw[Wf,e2]⟩
def Uha (K:Ah X S a) {cb L:List (Nat×Nat)} {nv:Nat} (hn:nv≤1000) {ps:List Par} {ls:List (List Lf)} {us:List Value} (h:C5a X.P S cb cb nv 0 ps ls us L):
  ∀ k b,Mq S L k = .bx b→U9a nv ps.length b∧(∃ c e f,S.w.heap[k]? = some (.cells c e f))∧∀ k',Mq S L k' = .bx b→k'=k:=by
 obtain⟨i1,i2,i3,_⟩:=V2 hn ps h
 have key:∀ k B,Mq S L k = .bx B→∃ b,(b,B)∈L∧k=(S.bb b).1:=by
  intro k B hk
  unfold Mq at hk
  split at hk
  ·cases hk
  ·split at hk
   ·cases hk
   ·split at hk
    ·cases hk
    ·split at hk<;>cases hk
  ·split at hk
   ·rename_i b heq _ B' hl
    split at hk
    ·rename_i hkb
     cases hk
     exact⟨b,C7a hl,hkb⟩
    ·cases hk
   ·cases hk
  ·cases hk
 intro k B hk
 obtain⟨b,hb,hkb⟩:=key k B hk
 obtain⟨n,hh⟩:=i3 _ hb
 obtain⟨_,c,e,g2,_⟩:=K.box b n hh
 obtain⟨j,_,j2,j3⟩:=i1 _ hb
 refine⟨⟨j,by omega,j3⟩,⟨c,e,(0,0),by rw[hkb];exact g2⟩,λ k' hk'=>?_⟩
 obtain⟨b',hb',hkb'⟩:=key k' B hk'
 rw[hkb,hkb',Rra i2 hb hb']
def Gga {S:Sit} {L:List (Nat×Nat)} {rg:Nat→Nat×Nat} {O':Nat→Lab} {w':World} (hF:Fr (Mq S L) S.w rg O' w'):
  (∀ k,k<S.w.heap.size→Tja (S.O k)=false→Hoa S O' k=S.O k∧((∀ c∈L,k≠(S.bb c.1).1)→w'.heap[k]? = S.w.heap[k]?))∧
  (∀ k,O' k = .fz→Hoa S O' k = .fz)∧(∀ k n q,O' k = .tm n q→Hoa S O' k = .tm n q):=by
 have cases3:∀ k,k<S.w.heap.size→Tja (S.O k)=false→(O' k = .fz∧S.O k = .fz∧w'.heap[k]? = S.w.heap[k]?)∨(O' k = .no∧w'.heap[k]? = S.w.heap[k]?)∨(∃ c∈L,O' k = .bx c.2∧k=(S.bb c.1).1):=by
  intro k hk ht
  have no:Mq S L k = .no→(O' k = .no∧w'.heap[k]? = S.w.heap[k]?):=λ h=>hF.no k hk h
  cases hO:S.O k with
  |fz=>
   have:=hF.fz k hk (Ks hO)
   exact .inl ⟨this.1,rfl,this.2⟩
  |no=>exact .inr (.inl (no (by simp[Mq,hO])))
  |pl l p=>exact .inr (.inl (no (by simp[Mq,hO])))
  |tm n q=>rw[hO]at ht;simp[Tja]at ht
  |bx b=>
   cases hl:lkF L b with
   |none=>exact .inr (.inl (no (by simp[Mq,hO,hl])))
   |some B=>
    by_cases hb:k=(S.bb b).1
    ·have h2:Mq S L k = .bx B:=by
      unfold Mq
      rw[hO]
      simp only
      rw[hl]
      exact if_pos hb
     exact .inr (.inr ⟨(b,B),C7a hl,(hF.bx k B hk h2).1,hb⟩)
    ·refine .inr (.inl (no ?_))
     unfold Mq
     rw[hO]
     simp only
     rw[hl]
     exact if_neg hb
 refine⟨λ k hk ht=>⟨by unfold Hoa;rw[if_pos ⟨hk,ht⟩],λ hnb=>?_⟩,λ k hk=>?_,λ k n q hk=>?_⟩
 ·rcases cases3 k hk ht with h|h|⟨c,h1,_,h2⟩
  ·exact h.2.2
  ·exact h.2
  ·exact absurd h2 (hnb c h1)
 ·unfold Hoa
  split
  ·rename_i hc
   rcases cases3 k hc.1 hc.2 with h|h|⟨c,_,h,_⟩
   ·exact h.2.1
   ·rw[hk]at h;cases h.1
   ·rw[hk]at h;cases h
  ·rw[hk];rfl
 ·unfold Hoa
  split
  ·rename_i hc
   rcases cases3 k hc.1 hc.2 with h|h|⟨c,_,h,_⟩
   ·rw[hk]at h;cases h.1
   ·rw[hk]at h;cases h.1
   ·rw[hk]at h;cases h
  ·rw[hk];rfl
def Uia (w w':World) (hsz:w.heap.size≤w'.heap.size):∀ ks:List Nat,∃ w1:World,w1 = { w' with heap:=w1.heap }∧w1.heap.size=w'.heap.size∧(∀ k∈ks,k<w.heap.size→w1.heap[k]? = w.heap[k]?)∧∀ k,k∉ks→w1.heap[k]? = w'.heap[k]?
 |[]=>⟨w',rfl,rfl,by simp,λ _ _=>rfl⟩
 |k0::ks=>by
  obtain⟨w1,h1,h2,h3,h4⟩:=Uia w w' hsz ks
  by_cases hk:k0<w.heap.size
  ·refine⟨{ w' with heap:=w1.heap.setIfInBounds k0 w.heap[k0] },rfl,by simp[h2],λ k hm hkl=>?_,λ k hm=>?_⟩
   ·show (w1.heap.setIfInBounds k0 w.heap[k0])[k]? = _
    by_cases e:k=k0
    ·subst e
     rw[Array.getElem?_setIfInBounds_self,if_pos (by omega),Yoa hk]
    ·rw[Ypa (Z8a e)]
     exact h3 k ((Vk.1 hm).resolve_left e) hkl
   ·show (w1.heap.setIfInBounds k0 w.heap[k0])[k]? = _
    rw[Ypa (λ e=>hm (by rw[e];exact Yc))]
    exact h4 k (λ h=>hm (Vd _ h))
  ·refine⟨w1,h1,h2,λ k hm hkl=>?_,λ k hm=>h4 k (λ h=>hm (Vd _ h))⟩
   rcases Vk.1 hm with rfl|hm
   ·exact absurd hkl hk
   ·exact h3 k hm hkl
structure Bk where
 b:Nat
 n:Nat
 l:List Lf
 us:List Value
def Bk.Ok (P:Program) (S:Sit) (w':World) (d:Bk):Prop:=
 ∃ c c' e,(S.g (H d.b)).2 = .one (.hd d.l.length)∧S.w.heap[(S.bb d.b).1]? = some (.cells c e (0,0))∧w'.heap[(S.bb d.b).1]? = some (.cells c' e (0,0))∧c'.size=c.size∧
  (∀ i,(i<(S.bb d.b).2∨(S.bb d.b).2+d.l.length≤i)→c'[i]? = c[i]?)∧(∀ j,j<d.l.length→c'[(S.bb d.b).2+j]? = d.us[j]?)∧A4 d.l=true∧A6 P S (λ j => .tm d.n [j]) 0 d.l d.us
def Eaa {w':World}:∀ (D:List Bk) {S:Sit} {A:Ab},Ah X S a→S.g=get A→(∀ d∈D,d.Ok X.P S w')→(D.map Bk.b).Nodup→(D.map Bk.n).Nodup→(∀ d∈D,1001≤d.n∧d.n<5000)→(∀ k,(∀ d∈D,k≠(S.bb d.b).1)→w'.heap[k]? = S.w.heap[k]?)→S.w = { w' with heap:=S.w.heap }→
  ∃ S',Ah X S' a∧S'.g=get (ups A (D.flatMap λ d=>Bn d.b 0 d.l))∧S'.w=w'∧(∀ k,S.O k = .fz→S'.O k = .fz)∧(∀ n q k,0<n→n<1001→S.O k = .tm n q→S'.O k = .tm n q)∧(∀ n q x u,0<n→n<1001→G6 x=true→Am X.P S (.tm n q) x u→Am X.P S' (.tm n q) x u)
 |[],S,A,K,hg,_,_,_,_,hh,hw=>by
  have e1:w'.heap=S.w.heap:=Array.ext_getElem? λ k=>hh k (by simp)
  refine⟨S,K,hg,?_,λ _ h=>h,λ _ _ _ _ _ h=>h,λ _ _ _ _ _ _ _ h=>h⟩
  rw[hw,← e1]
 |d::D,S,A,K,hg,hD,hb,hn,hr,hh,hw=>by
  obtain⟨c,c',e,d1,d2,d3,d4,d5,d6,d7,d8⟩:=hD d (by simp)
  rw[Xs,Yn]at hb hn
  obtain⟨r1,r2⟩:=hr d (by simp)
  let hh0:Nat→List Nat→Option Lab:=λ n q=>if n=d.n then some (.tm 0 q) else if n=0 then some (.tm 99998 q) else none
  obtain⟨K1,L1⟩:=K.names hh0 (by
   intro n q
   simp only[hh0]
   split
   ·simp
   ·split<;>simp)
  have keep1:∀ n q k,n≠d.n→n≠0→S.O k = .tm n q→atO S.O hh0 k = .tm n q:=λ n q k h1 h2 hk=>J9 hk (by simp[hh0,h1,h2])
  have hl0:A6 X.P { S with O:=atO S.O hh0 } (λ j => .tm 0 [j]) 0 d.l d.us:=d8.imp (λ j x u hx=>hx.later L1 (λ k hk=>⟨Gv hk (by simp[hh0]),rfl⟩))
  have hul:=d8.len
  obtain⟨hn9,c0,e0,b1,b2,b3,b4⟩:=K.box d.b d.l.length d1
  rw[d2]at b1
  cases b1
  obtain⟨K2,L2⟩:=K1.cells (b:=d.b) (n:=d.l.length) (off:=0) (q:=λ j=>[j]) d1 (by omega) d2 hl0 (λ j hj=>rfl) (Ii d7)
  generalize hwS:({ S with O:=atO S.O hh0 }:Sit).w.setRow (({ S with O:=atO S.O hh0 }:Sit).bb d.b).1 (c.toList.take ((({ S with O:=atO S.O hh0 }:Sit).bb d.b).2+0)++d.us++c.toList.drop ((({ S with O:=atO S.O hh0 }:Sit).bb d.b).2+0+d.us.length)).toArray=w2 at K2 L2
  have hwS':S.w.setRow (S.bb d.b).1 (c.toList.take ((S.bb d.b).2+0)++d.us++c.toList.drop ((S.bb d.b).2+0+d.us.length)).toArray=w2:=hwS
  have harr:(c.toList.take ((S.bb d.b).2+0)++d.us++c.toList.drop ((S.bb d.b).2+0+d.us.length)).toArray=c':=by
   refine Array.ext_getElem? λ j=>?_
   have hct:c.toList.length=c.size:=Yw
   have ht:(c.toList.take ((S.bb d.b).2+0)).length=(S.bb d.b).2:=by rw[Vs,hct];omega
   rw[Zpa]
   have hcj:∀ i,c.toList[i]? = c[i]? := λ i=>Zo
   by_cases h1:j<(S.bb d.b).2
   ·rw[Vo,Yf (by omega),Wq,if_pos (by omega),hcj]
    exact(d5 j (.inl h1)).symm
   ·by_cases h2:j<(S.bb d.b).2+d.l.length
    ·rw[Yf (by rw[Vi,ht];omega),Ya (by omega),ht]
     have:=d6 (j-(S.bb d.b).2) (by omega)
     rw[show (S.bb d.b).2+(j-(S.bb d.b).2)=j by omega]at this
     exact this.symm
    ·rw[Ya (by rw[Vi,ht];omega),Vi,ht,Yo,hcj,hul]
     rw[show (S.bb d.b).2+0+d.l.length+(j-((S.bb d.b).2+d.l.length))=j by omega]
     exact(d5 j (.inr (by omega))).symm
  have hw2k:w2.heap[(S.bb d.b).1]? = w'.heap[(S.bb d.b).1]?:=by
   rw[← hwS',setRow_heap _ _ _ _ _ _ d2,harr,d3]
  have hw2o:∀ k,k≠(S.bb d.b).1→w2.heap[k]? = S.w.heap[k]? := λ k hk=>by rw[← hwS'];exact setRow_other _ _ _ _ hk
  have keep2:∀ n q k,n≠d.n→n≠0→S.O k = .tm n q→(Uv { S with O:=atO S.O hh0 } (Ss d.b 0) d.b 0 d.l d.us w2).O k = .tm n q:=λ n q k h1 h2 hk=>
   J9 (h:=Ss d.b 0) (keep1 n q k h1 h2 hk) (by simp[Ss,h2])
  have hdist:∀ d'∈D,d'.b≠d.b∧d'.n≠d.n:=λ d' hd'=>⟨λ e=>hb.1 (by rw[← e];exact Yp hd'),λ e=>hn.1 (by rw[← e];exact Yp hd')⟩
  have hblk:∀ d'∈D,(S.bb d'.b).1≠(S.bb d.b).1:=λ d' hd' e1=>by
   obtain⟨c1,c1',e2,x1,_⟩:=hD d' (Vd _ hd')
   obtain⟨_,_,_,_,y2,_⟩:=K.box d'.b _ x1
   rw[e1,b2]at y2
   simp only[Vc,Lab.bx.injEq]at y2
   exact(hdist d' hd').1 y2.symm
  have hsame:∀ n q x u,n≠d.n→n≠0→G6 x=true→Am X.P S (.tm n q) x u→Am X.P (Uv { S with O:=atO S.O hh0 } (Ss d.b 0) d.b 0 d.l d.us w2) (.tm n q) x u:=λ n q x u h1 h2 _ hx=>
   (hx.later L1 (lab' := .tm n q) (λ k hk=>⟨keep1 n q k h1 h2 hk,rfl⟩)).later L2 (λ k hk=>by
    have hk':atO S.O hh0 k = .tm n q:=hk
    refine⟨J9 (h:=Ss d.b 0) hk' (by simp[Ss,h2]),hw2o k (λ e1=>?_)⟩
    rw[e1]at hk'
    rw[Aj b2 (by simp)]at hk'
    cases hk')
  obtain⟨S3,K3,g3,w3,o3,t3,s3⟩:=Eaa D (A:=ups A (Bn d.b 0 d.l)) K2 (by
   show Kk S.g d.b 0 d.l=_
   rw[H1,← hg]) (λ d' hd'=>by
   obtain⟨c1,c1',e2,x1,x2,x3,x4,x5,x6,x7,x8⟩:=hD d' (Vd _ hd')
   obtain⟨z1,z2⟩:=hr d' (Vd _ hd')
   refine⟨c1,c1',e2,?_,(hw2o _ (hblk d' hd')).trans x2,x3,x4,x5,x6,x7,?_⟩
   ·show (Kk S.g d.b 0 d.l (H d'.b)).2=_
    unfold Kk
    rw[if_neg (Ek (by omega))]
    exact x1
   ·exact A6.impS (Hk x7) (λ n x u hx h=>hsame _ _ x u (hdist d' hd').2 (by omega) hx h) x8) hb.2 hn.2 (λ d' hd'=>hr d' (Vd _ hd')) (λ k hk=>by
   by_cases h1:k=(S.bb d.b).1
   ·rw[h1];exact hw2k.symm
   ·show w'.heap[k]? = w2.heap[k]?
    rw[hw2o k h1]
    exact hh k (λ d' hd'=>by
     rcases Vk.1 hd' with rfl|hd'
     ·exact h1
     ·exact hk d' hd')) (by
   have h5:w2 = { S.w with heap:=w2.heap }:=by rw[← hwS'];rfl
   have h6:({ S.w with heap:=w2.heap }:World) = { w' with heap:=w2.heap }:=by rw[hw]
   exact h5.trans h6)
  refine⟨S3,K3,?_,w3,λ k hk=>o3 k (Aj (h:=Ss d.b 0) (Aj hk (by simp)) (by simp)),λ n q k h1 h2 hk=>t3 n q k h1 h2 (keep2 n q k (by omega) (by omega) hk),λ n q x u h1 h2 hx h=>s3 n q x u h1 h2 hx (hsame n q x u (by omega) (by omega) hx h)⟩
  rw[g3,Zoa,Af]
def V3 {P:Program} {S Sb:Sit} {cb:List (Nat×Nat)} {nv:Nat}:∀ (ps:List Par) {i:Nat} {ls lb:List (List Lf)} {us:List Value} {bp:List (Nat×Nat)} {ws:List Up},C5a P S cb cb nv i ps ls us bp→Ji P Sb i ps us lb→(∀ l∈lb,∀ y∈l,G6 y=true)→G0a (bp.map Prod.fst) lb=some ws→
  ∃ D:List Bk,D.map Bk.b=bp.map Prod.fst∧ws=D.flatMap (λ d=>Bn d.b 0 d.l)∧(D.map Bk.n).Nodup∧
   ∀ d∈D,∃ j B t c e,i≤j∧j<i+ps.length∧d.n=1001+j∧(d.b,B)∈bp∧(S.g (H d.b)).2 = .one (.hd t)∧d.l.length=t∧A4 d.l=true∧Sb.w.heap[(S.bb d.b).1]? = some (.cells c e (0,0))∧(∀ j,j<t→c[(S.bb d.b).2+j]? = d.us[j]?)∧A6 P Sb (λ j => .tm d.n [j]) 0 d.l d.us
 |[],i,[],lb,[],bp,ws,h,hb,_,hw=>by
  have e1:bp=[]:=h
  have e2:lb=[]:=hb
  subst e1 e2
  simp only[List.map_nil,G0a,Vc]at hw
  subst hw
  exact⟨[],rfl,rfl,by simp,by simp⟩
 |[],i,_::_,_,_,_,_,h,_,_,_=>h.elim
 |[],i,[],_,_::_,_,_,h,_,_,_=>h.elim
 |p::ps,i,[],_,_,_,_,h,_,_,_=>h.elim
 |p::ps,i,_::_,_,[],_,_,h,_,_,_=>h.elim
 |p::ps,i,l::ls,lb,u::us,bp,ws,h,hb,hs,hw=>by
  obtain⟨b1,b2,rfl,h1,h2⟩:=h
  have skip:b1=[]→Ji P Sb (i+1) ps us lb→∃ D:List Bk,D.map Bk.b=(b1++b2).map Prod.fst∧ws=D.flatMap (λ d=>Bn d.b 0 d.l)∧(D.map Bk.n).Nodup∧
   ∀ d∈D,∃ j B t c e,i≤j∧j<i+(p::ps).length∧d.n=1001+j∧(d.b,B)∈b1++b2∧(S.g (H d.b)).2 = .one (.hd t)∧d.l.length=t∧A4 d.l=true∧Sb.w.heap[(S.bb d.b).1]? = some (.cells c e (0,0))∧(∀ j,j<t→c[(S.bb d.b).2+j]? = d.us[j]?)∧A6 P Sb (λ j => .tm d.n [j]) 0 d.l d.us:=by
   intro e1 hb2
   subst e1
   rw[Wn]at hw ⊢
   obtain⟨D,h3,h4,h5,h6⟩:=V3 ps h2 hb2 hs hw
   exact⟨D,h3,h4,h5,λ d hd=>by
    obtain⟨j,B,t,c,e,j1,j2,rest⟩:=h6 d hd
    exact⟨j,B,t,c,e,by omega,by simp only[Vh];omega,rest⟩⟩
  have box:∀ {t t':Ty} {lb':List (List Lf)} {l':List Lf},lb=l'::lb'→Rqa P S (bid nv i) t t' l u b1→Ti P Sb i t' l' u→Ji P Sb (i+1) ps us lb'→∃ D:List Bk,D.map Bk.b=(b1++b2).map Prod.fst∧ws=D.flatMap (λ d=>Bn d.b 0 d.l)∧(D.map Bk.n).Nodup∧
   ∀ d∈D,∃ j B t c e,i≤j∧j<i+(p::ps).length∧d.n=1001+j∧(d.b,B)∈b1++b2∧(S.g (H d.b)).2 = .one (.hd t)∧d.l.length=t∧A4 d.l=true∧Sb.w.heap[(S.bb d.b).1]? = some (.cells c e (0,0))∧(∀ j,j<t→c[(S.bb d.b).2+j]? = d.us[j]?)∧A6 P Sb (λ j => .tm d.n [j]) 0 d.l d.us:=by
   rintro t t' lb' l' rfl ⟨b,e1,e2,e3,e4,_⟩ ⟨k,o',c,e,vs,f1,f2,f3,f4,f5⟩ hb2
   subst e1
   rw[e2]at f1
   cases f1
   simp only[Yj,Xs,G0a]at hw
   split at hw
   ·rename_i ws' hws'
    cases hw
    obtain⟨D,h3,h4,h5,h6⟩:=V3 ps h2 hb2 (λ l hl=>hs l (Vd _ hl)) hws'
    refine⟨⟨b,1001+i,l',vs⟩::D,by simp[h3],by rw[Zoa,h4],?_,λ d hd=>?_⟩
    ·rw[Xs,Yn]
     refine⟨λ hm=>?_,h5⟩
     obtain⟨d,hd,e5⟩:=Yr.1 hm
     obtain⟨j,_,_,_,_,j1,_,j3,_⟩:=h6 d hd
     have e6:d.n=1001+i:=e5
     omega
    ·rcases Vk.1 hd with rfl|hd
     ·exact⟨i,bid nv i,t.sz,c,e,Vv _,by simp only[Vh];omega,rfl,by simp,e3,by rw[f3,e4],Mr _ (hs l' (by simp)),f2,λ j hj=>f4 j (by omega),f5⟩
     ·obtain⟨j,B,t,c,e,j1,j2,j3,j4,rest⟩:=h6 d hd
      exact⟨j,B,t,c,e,by omega,by simp only[Vh];omega,j3,Vd _ j4,rest⟩
   ·cases hw
  cases p with
  |val ag t=>exact skip h1.1 hb
  |vw t h0=>exact skip h1.1 hb
  |rd t=>exact skip h1.1 hb
  |fn F m=>exact skip h1.1 hb
  |ptr t t'=>
   cases lb with
   |nil=>exact hb.elim
   |cons l' lb'=>exact box rfl h1 hb.1 hb.2
  |hid t t'=>
   cases lb with
   |nil=>exact hb.elim
   |cons l' lb'=>exact box rfl h1 hb.1 hb.2
def Rta (hE:Ho X E) (K:Ah X S a) (hg:S.g=get A) {xs:List (TypeId×Operand)} {cs cb:List (Nat×Nat)} {f:FuncId} {en:Ent} (hrun:(execOp a.eval o).run X.P S.w = .ok (.enter f (xs.map (λ x=>a.eval x.2)++cs.map (R9 S)).toArray) S.w) (hd:∀ d,o.dst=some d→d<X.nt)
  (hco:Jy X.P f en) (hnv:en.nv=xs.length+cs.length) (hp:R3a E en.rs o.dst=true) (hn:en.nv≤1000) (hps:Ip en.nv 0 en.ps=true) (hlen:en.ps.length≤2000) (hrl:en.rs.length≤400)
  (h:(match Ie E cb cb en.nv A xs (cs++cb) en.ps with
  |none=>none
  |some (ls,us,bs)=>bif Xh bs then (match Oj _ ls with
   |none=>none
   |some x=>(en.run x).bind λ r=>
    match G0a bs ((Ch _ r).drop en.rs.length) with
    |none=>none
    |some ws=>match My (ups (ups A us) ws) en.rs (shL E o.dst (Ch _ r)) o.dst with
     |none=>none
     |some rs=>Kc (us++(ws++rs))) else none)=some r):Gc X o a S.w A Kc r:=by
 have hnp:∀ d',o.dst=some d'→Hz en.rs=true→X.np≤d':=λ d' h1 h2=>by
  have:=hp
  unfold R3a at this
  rw[h1,h2]at this
  exact hE.np ▸ (Vj (by simpa using this))
 split at h
 ·cases h
 ·rename_i ls us bs hargs
  rw[csi]at h
  obtain⟨hnd,h⟩:=h
  split at h
  ·cases h
  ·rename_i x hx
   cases hrun':en.run x with
   |none=>rw[hrun']at h;simp at h
   |some y=>
    rw[hrun']at h
    simp only[Vt]at h
    split at h
    ·cases h
    ·rename_i ws hws
     split at h
     ·cases h
     ·rename_i rs hrs
      obtain⟨S1,L,K1,g1,G1,hLb,p1⟩:=Yz (X:=X) (a:=a) hE hn en.ps 0 K hg hargs
      have hpv:R9 S1=R9 S:=by funext b;unfold R9;rw[G1.bb]
      obtain⟨i1,i2,i3,i4⟩:=V2 hn en.ps p1
      have hn1:(L.map Prod.fst).Nodup:=by rw[hLb];exact Z1 hnd
      have hok:=J3a K1 hn1 i2 en.ps p1 (Qd _ _ _ hx) (λ _ h=>h) hps
      have hdrop:(xs.map (λ x=>a.eval x.2)++(cs++cb).map (R9 S)).drop en.nv=cb.map (R9 S1):=by
       rw[hpv,hnv,Yca,← Vo,List.drop_left' (by simp)]
      have htake:(xs.map (λ x=>a.eval x.2)++(cs++cb).map (R9 S)).take en.nv=xs.map (λ x=>a.eval x.2)++cs.map (R9 S):=by
       rw[hnv,Yca,← Vo,A4b (by simp)]
      have hs:=hco.sound x y hrun' S1.w (Mq S1 L) (Rsa S1 L) _ (λ k hk=>K1.lt k (λ e=>hk (by simp[Mq,e]))) (Uha K1 hn p1) (by rw[hdrop];exact hok)
      rw[htake]at hs
      refine⟨_,h,Tl hrun (P3 (by rw[← G1.w];exact hs) ?_)⟩
      rintro e w' ⟨v,O',rfl,hF,hlt,hres,hback⟩
      refine⟨v,rfl,?_⟩
      obtain⟨a1,a2,a3⟩:=Gga hF
      have hlt2:∀ k,Hoa S1 O' k ≠ .no→k<w'.heap.size:=λ k hk=>by
       by_cases hkl:k<S1.w.heap.size
       ·exact Yb hkl hF.size
       ·refine hlt k (λ e=>hk ?_)
        unfold Hoa
        rw[if_neg (λ h=>hkl h.1),e]
        rfl
      have hnt:∀ k,(∀ n q,S1.O k ≠ .tm n q)→Tja (S1.O k)=false:=λ k hk=>by
       cases hO:S1.O k<;>first|rfl|exact absurd hO (hk _ _)
      have hsol:=H8 (en.rs.map Prod.snd++Hy en.ps) y
      rw[← hLb]at hws
      obtain⟨D,D1,D2,D3,D4⟩:=V3 en.ps p1 hback (λ l hl=>hsol l (Zn hl)) hws
      obtain⟨w1,r1,r2,r3,r4⟩:=Uia S1.w w' hF.size (L.map λ c=>(S1.bb c.1).1)
      have hblk:∀ k,k<S1.w.heap.size→Tja (S1.O k)=false→w1.heap[k]? = S1.w.heap[k]? := λ k hk ht=>by
       by_cases hm:k∈L.map λ c=>(S1.bb c.1).1
       ·exact r3 k hm hk
       ·rw[r4 k hm]
        exact(a1 k hk ht).2 (λ c hc e=>hm (by rw[e];exact Yp (f:=λ c:Nat×Nat=>(S1.bb c.1).1) hc))
      have ros:w1.os=w'.os:=by rw[r1]
      have rtape:w1.tape=w'.tape:=by rw[r1]
      have rout:w1.output=w'.output:=by rw[r1]
      obtain⟨K2,L2⟩:=K1.world (w':=w1) (O':=Hoa S1 O') (λ k hk ht=>⟨(a1 k hk (hnt k ht)).1,hblk k hk (hnt k ht)⟩) (ros.trans hF.os) (rtape.trans hF.tape) (rout.trans hF.out) (by rw[r2];exact hF.size) (λ k hk=>by rw[r2];exact hlt2 k hk)
      have hbr:∀ {n:Nat} {q:List Nat} {x:Lf} {u:Value},G6 x=true→Am X.P (bare O' w') (.tm n q) x u→Am X.P (T0 S1 w1 (Hoa S1 O')) (.tm n q) x u:=by
       intro n q x u hx hu
       have hno:∀ k,(O' k = .fz∨O' k = .tm n q)→w1.heap[k]? = w'.heap[k]? := λ k hk=>by
        by_cases hm:k∈L.map λ c=>(S1.bb c.1).1
        ·exfalso
         obtain⟨c,hc,rfl⟩:=Yr.1 hm
         obtain⟨m,hm1⟩:=i3 c hc
         obtain⟨_,cc,ee,g2,g3,_⟩:=K1.box c.1 m hm1
         have hcal:Mq S1 L (S1.bb c.1).1 = .bx c.2:=J2a g3 (E9a hn1 (show (c.1,c.2)∈L from hc)) rfl
         have:=(hF.bx _ _ (K1.lt _ (by rw[g3];simp)) hcal).1
         rcases hk with hk|hk<;>rw[this]at hk<;>cases hk
        ·exact r4 k hm
       cases x with
       |sc v=>exact hu
       |fz e r xs=>exact Ty.rep_mono (t := .sl e r) (λ k hk=>a2 k hk) (λ k hk=>hno k (.inl hk)) _ _ hu
       |own e r xs=>exact Dy.later (O':=Hoa S1 O') (w':=w1) hu (λ k hk=>⟨a2 k hk,hno k (.inl hk)⟩) (λ k hk=>⟨a3 k n q hk,hno k (.inr hk)⟩)
       |_=>simp[G6]at hx
      have hDok:∀ d∈D,d.Ok X.P (T0 S1 w1 (Hoa S1 O')) w':=λ d hd'=>by
       obtain⟨j,B,t,c',e',j1,j2,j3,j4,j5,j6,j7,j8,j9,j10⟩:=D4 d hd'
       obtain⟨g0,c0,e0,g2,g3,g4,g5⟩:=K1.box d.b _ j5
       have hcal:Mq S1 L (S1.bb d.b).1 = .bx B:=J2a g3 (E9a hn1 j4) rfl
       have hkl:=K1.lt _ (show S1.O (S1.bb d.b).1 ≠ .no by rw[g3];simp)
       obtain⟨_,c1,c2,e7,ff,x2,x3,x4,x5⟩:=hF.bx _ _ hkl hcal
       rw[g2]at x2
       cases x2
       have j8':w'.heap[(S1.bb d.b).1]? = some (.cells c' e'):=j8
       rw[x3]at j8'
       cases j8'
       have hrg:Rsa S1 L B=((S1.bb d.b).2,t):=by
        unfold Rsa
        rw[Z0 i2 j4]
        simp only[j5]
       rw[hrg]at x5
       refine⟨c0,_,_,by rw[j6];exact j5,?_,x3,x4,λ i hi=>x5 i (by rw[j6]at hi;exact hi),λ j hj=>j9 j (by omega),j7,?_⟩
       ·show w1.heap[(S1.bb d.b).1]? = _
        rw[hblk _ hkl (by rw[g3];rfl)]
        exact g2
       ·exact A6.impS (Hk j7) (λ n x u hx hu=>hbr hx hu) j10
      obtain⟨S2,K3,g3,w3,o3,t3,s3⟩:=Eaa (w':=w') D (A:=ups A us) K2 g1 hDok (by rw[D1];exact hn1) D3 (λ d hd'=>by
       obtain⟨j,_,_,_,_,_,j2,j3,_⟩:=D4 d hd'
       exact⟨by omega,by omega⟩) (λ k hk=>(r4 k (λ hm=>by
       obtain⟨c,hc,hce⟩:=Yr.1 hm
       have:c.1∈D.map Bk.b:=by rw[D1];exact Yp hc
       obtain⟨d,hd',hde⟩:=Yr.1 this
       refine hk d hd' ?_
       rw[← hce,← hde]
       rfl)).symm) r1
      have hnames:∀ (n:Nat) (q:List Nat) (x:Lf) (u:Value),0<n→n<1001→G6 x=true→Am X.P (bare O' w') (.tm n q) x u→Am X.P S2 (.tm n q) x u:=λ n q x u h1 h2 hx hu=>s3 n q x u h1 h2 hx (hbr hx hu)
      have hlb:∀ n q k,0<n→n<1001→O' k = .tm n q→S2.O k = .tm n q:=λ n q k h1 h2 hk=>t3 n q k h1 h2 (a3 k n q hk)
      have hres1:Gf X.P S2 S1.w.heap.size en.rs (Ch _ y) v:=by
       have one:∀ {i:Nat} {k:RK} {l:List Lf} {u:Value},0<i→i<500→(∀ z∈l,G6 z=true)→Lo X.P (bare O' w') S1.w.heap.size i k l u→Lo X.P S2 S1.w.heap.size i k l u:=by
        intro i k l u h1 h2 hz h
        cases k with
        |one=>exact A6.impM (λ x hx n u h=>hnames _ _ x u h1 (by omega) (hz x hx) h) h
        |agg=>
         obtain⟨us,e,h⟩:=h
         exact⟨us,e,h.impM (λ x hx n u h=>hnames _ _ x u h1 (by omega) (hz x hx) h)⟩
        |ptr=>
         obtain⟨k,o',c,e,us,e1,e2,e3,e4,e5,e6,e7,h⟩:=h
         exact⟨k,o',c,e,us,e1,by rw[w3];exact e2,e3,hlb _ _ _ (by omega) (by omega) e4,e5,e6,e7,h.impM (λ x hx n u h=>hnames _ _ x u h1 (by omega) (hz x hx) h)⟩
       have all:∀ (rs:List (RK×Ty)) {i:Nat} {ls:List (List Lf)} {us:List Value},0<i→i+rs.length<500→(∀ l∈ls,∀ z∈l,G6 z=true)→Ht X.P (bare O' w') S1.w.heap.size i rs ls us→Ht X.P S2 S1.w.heap.size i rs ls us:=by
        intro rs
        induction rs with
        |nil=>intro i ls us _ _ _ h;exact h
        |cons r rs ih=>
         intro i ls us h1 h2 hz h
         cases ls with
         |nil=>exact h.elim
         |cons l ls=>
          cases us with
          |nil=>exact h.elim
          |cons u us=>
           simp only[Vh]at h2
           exact⟨one h1 (by omega) (hz l (by simp)) h.1,ih (by omega) (by omega) (λ l hl=>hz l (Vd _ hl)) h.2⟩
       unfold Gf at hres ⊢
       split at hres
       ·obtain⟨l,ls',e1,h5⟩:=hres
        exact⟨l,ls',e1,one (by omega) (by omega) (hsol l (by rw[e1];simp)) h5⟩
       ·obtain⟨us',e1,h5⟩:=hres
        exact⟨us',e1,all en.rs (by omega) (by omega) hsol h5⟩
      obtain⟨S3,K4,w4,g4⟩:=E7a (E:=E) K3 g3 (λ _=>hrl) hd K1.fr.size (H8 _ y) hnp hres1 (by rw[← D2];exact hrs)
      refine⟨S3,w4.trans w3,K4,?_⟩
      rw[g4,← D2,Af,Af]
def J4a {α β:Type}:∀ {l:List α} {m:List β},m.length≤l.length→(l.zip m).map Prod.snd=m
 |_,[],_=>by simp
 |[],_::_,h=>by simp at h
 |_::l,_::m,h=>by simp[J4a (l:=l) (m:=m) (by simpa using h)]
def V4:∀ {Ts:List TypeId} {xs:List Operand} {ss:List Sv},On E Ts A xs=some ss→xs.length≤Ts.length
 |_,[],_,_=>Vw _
 |[],_::_,_,h=>by simp[On]at h
 |T::Ts,x::xs,ss,h=>by
  simp only[On]at h
  split at h
  ·split at h
   ·rename_i hr
    simp only[Vh]
    have:=V4 hr
    omega
   ·cases h
  ·cases h
def Eba (hE:Ho X E) (K:Ah X S a) (hg:S.g=get A) {Ts:List TypeId} {xs:List Operand} {cs:List (Nat×Nat)} {f:FuncId} {en:Ent} {ss:List Sv} (hrun:(execOp a.eval o).run X.P S.w = .ok (.enter f (xs.map a.eval++cs.map (R9 S)).toArray) S.w) (hd:∀ d,o.dst=some d→d<X.nt)
  (hco:Jy X.P f en) (hss:On E Ts A xs=some ss) (h:Uj E A en (Ts.zip xs) cs ss o.dst Kc=some r):Gc X o a S.w A Kc r:=by
 unfold Uj at h
 have hz:=J4a (V4 hss)
 have hzl:(Ts.zip xs).length=xs.length:=by
  rw[List.length_zip]
  have:=V4 hss
  omega
 rw[csi]at h
 obtain⟨hnv,h⟩:=h
 have hnv':en.nv=xs.length+cs.length:=by rw[← hzl];exact Ve hnv
 cases hl:(Ld en.ps&&Sq en.rs&&cs.isEmpty) with
 |true=>
  rw[hl,cond_true]at h
  simp only[Va,List.isEmpty_iff]at hl
  obtain⟨⟨l1,l2⟩,l3⟩:=hl
  subst l3
  simp only[List.map_nil,Ym]at hrun
  exact Rpa hE K hg hrun hd hco (by simpa using hnv') (Bwa hE K hg hss) l1 l2 h
 |false=>
  rw[hl,cond_false]at h
  rw[csi]at h
  obtain⟨hp,h⟩:=h
  simp only[Va]at hp
  obtain⟨p1,⟨⟨p2,p3⟩,p4⟩,p5⟩:=hp
  refine Rta (xs:=Ts.zip xs) (cs:=cs) (cb:=Hva ss++Xg A en.ps ss) hE K hg ?_ hd hco (by rw[hzl];exact hnv') p1 (Vj p2) p3 (Vj p5) (Vj p4) h
  have e1:(Ts.zip xs).map (λ x=>a.eval x.2)=xs.map a.eval:=by
   rw[← hz,Yxa]
   rw[hz]
   rfl
  rw[e1]
  exact hrun
def Rua (hE:Ho X E) (hcall:∀ f en,E.call f=some en→Jy X.P f en) (K:Ah X S a) (hg:S.g=get A) {c:Call} {f:FuncId} (ho:o.op = .call c) (hc:c.callee = .value (.func f)) (hd:∀ d,o.dst=some d→d<X.nt)
  (h:step E o A Kc=some r):Gc X o a S.w A Kc r:=by
 unfold step at h
 rw[ho]at h
 simp only[hc]at h
 split at h
 ·rename_i en ss he hss
  have hco:=hcall f en he
  exact Eba hE K hg (by simpa using Ixa (w:=S.w) ho hc hco) hd hco hss h
 ·cases h
def Nfa (hE:Ho X E) (hcall:∀ f en,E.call f=some en→Jy X.P f en) (K:Ah X S a) (hg:S.g=get A) {c:Call} {t:Nat} (ho:o.op = .call c) (hc:c.callee = .value (.tmp t)) (hd:∀ d,o.dst=some d→d<X.nt)
  (h:step E o A Kc=some r):Gc X o a S.w A Kc r:=by
 unfold step at h
 rw[ho]at h
 simp only[hc]at h
 split at h
 ·rename_i f bs hs
  split at h
  ·rename_i en ss he hss
   obtain⟨hal,h⟩:=cs h
   have hco:=hcall f en he
   obtain⟨pl,h2⟩:=G4 hE K hg hs
   obtain⟨us,e1,e2⟩:Am X.P S (.pl pl []) (.fn f bs) (a.eval (.tmp t)):=h2
   have e3:=Ra hg e2 hal
   subst e3
   exact Eba hE K hg (Gba (w:=S.w) ho hc e1 hco) hd hco hss h
  ·cases h
 ·cases h
def Eca (hE:Ho X E) (K:Ah X S a) (hg:S.g=get A):∀ {xs:List Operand} {bs:List (Nat×Nat)},Xl E A xs=some bs→Qt S bs (xs.map a.eval)
 |[],bs,h=>by
  simp only[Xl,Vc]at h
  subst h
  rfl
 |x::l,bs,h=>by
  simp only[Xl]at h
  split at h
  ·rename_i b v hx
   split at h
   ·rename_i bs' hr
    cases h
    obtain⟨pl,h2⟩:=G4 hE K hg hx
    exact⟨_,_,rfl,h2,Eca hE K hg hr⟩
   ·cases h
  ·cases h
def C8a (hE:Ho X E) (K:Ah X S a) (hg:S.g=get A) {f:FuncId} {x y:Array Operand} {d:Nat} (ho:o.op = .makeFunc (.func f) x y) (hod:o.dst=some d) (hd:d<X.nt) (h:step E o A Kc=some r):Gc X o a S.w A Kc r:=by
 unfold step at h
 rw[ho,hod]at h
 simp only at h
 split at h
 ·rename_i bs hx hy
  have ex:x = #[]:=by
   apply Aeb
   simpa using hx
  subst ex
  have hsv:H5 X.P S 0 (.one (.fn f bs)) (.func (.func f) #[] (y.toList.map a.eval).toArray):=⟨_,rfl,Eca hE K hg hy⟩
  have K2:=K.put0 hd _ _ 0 rfl hsv
  refine⟨_,h,Ac (S:=Ig S (λ _ _=>none) d _ _) (v := .func (.func f) #[] (y.toList.map a.eval).toArray) ?_ (by rw[hod];exact K2) ?_⟩
  ·show _=Result.ok _ S.w
   have e1:y.map a.eval=(y.toList.map a.eval).toArray:=by
    apply Aeb
    simp
   unfold execOp
   simp[ho,Instr.makeFunc,e1]
  ·show upd S.g d _=_
   rw[Aa,← hg]
 ·cases h
end
end

section
attribute [local irreducible] C H
structure Rb (X:Cx) (E:En):Prop where
 en:Ho X E
 call:∀ f en,E.call f=some en→Jy X.P f en
section
variable {X:Cx} {S S1 S2:Sit} {a:Act} {E:En} {A:Ab} {o:Oper} {R:Type} {Kc:List Up→Option R} {r:R}
def J5a (hV:Rb X E) (K:Ah X S a) (hg:S.g=get A) (hd:∀ d,o.dst=some d→d<X.nt) (h:step E o A Kc=some r):Gc X o a S.w A Kc r:=by
 have hE:=hV.en
 cases ho:o.op with
 |call c=>
  cases hc:c.callee with
  |builtin b=>
   cases b with
   |len=>exact U3a hE K hg ho hc hd h
   |min=>exact Xz hE K hg false ho hc hd h
   |max=>exact Xz hE K hg true ho hc hd h
   |append=>exact Iua hE K hg ho hc hd h
   |_=>unfold step at h;rw[ho]at h;simp only[hc]at h;cases h
  |value f=>
   cases f with
   |func f=>exact Rua hE hV.call K hg ho hc hd h
   |tmp t=>exact Nfa hE hV.call K hg ho hc hd h
   |_=>unfold step at h;rw[ho]at h;simp only[hc]at h;cases h
  |invoke x m=>unfold step at h;rw[ho]at h;simp only[hc]at h;cases h
 |makeFunc fn x y=>cases fn with
  |func f=>cases hod:o.dst with
   |none=>unfold step at h;rw[ho,hod]at h;cases h
   |some d=>exact C8a hE K hg ho hod (hd d hod) h
  |_=>unfold step at h;rw[ho]at h;cases hod:o.dst<;>(rw[hod]at h;cases h)
 |store T x y=>
  cases hod:o.dst with
  |none=>exact N5a hE K hg ho hod h
  |some d=>unfold step at h;rw[ho,hod]at h;cases h
 |move x=>cases hod:o.dst with
  |none=>unfold step at h;rw[ho,hod]at h;cases h
  |some d=>exact Rba hE K hg ho hod (hd d hod) h
 |assign x=>cases hod:o.dst with
  |none=>unfold step at h;rw[ho,hod]at h;cases h
  |some d=>exact I9a hE K hg ho hod (hd d hod) h
 |pick c x y=>cases hod:o.dst with
  |none=>unfold step at h;rw[ho,hod]at h;cases h
  |some d=>exact Rda hE K hg ho hod (hd d hod) h
 |binOp op T x y T'=>cases hod:o.dst with
  |none=>unfold step at h;rw[ho,hod]at h;cases h
  |some d=>exact Mta hE K hg ho hod (hd d hod) h
 |unOp op T x=>cases hod:o.dst with
  |none=>unfold step at h;rw[ho,hod]at h;cases h
  |some d=>exact Rca hE K hg ho hod (hd d hod) h
 |convert T T' x=>cases hod:o.dst with
  |none=>unfold step at h;rw[ho,hod]at h;cases h
  |some d=>exact G8a hE K hg ho hod (hd d hod) h
 |nilCheck x=>cases hod:o.dst with
  |none=>unfold step at h;rw[ho,hod]at h;cases h
  |some d=>exact Bxa hE K hg ho hod (hd d hod) h
 |extract x j=>cases hod:o.dst with
  |none=>unfold step at h;rw[ho,hod]at h;cases x<;>cases h
  |some d=>cases x with
   |tmp t=>exact G3a hE K hg ho hod (hd d hod) h
   |_=>unfold step at h;rw[ho,hod]at h;cases h
 |field T x j=>cases hod:o.dst with
  |none=>unfold step at h;rw[ho,hod]at h;cases x<;>cases h
  |some d=>cases x with
   |tmp t=>exact Mwa hE K hg ho hod (hd d hod) h
   |_=>unfold step at h;rw[ho,hod]at h;cases h
 |build T ps=>cases hod:o.dst with
  |none=>unfold step at h;rw[ho,hod]at h;cases h
  |some d=>exact N8a hE K hg ho hod (hd d hod) h
 |alloc T=>cases hod:o.dst with
  |none=>unfold step at h;rw[ho,hod]at h;cases h
  |some d=>exact N6a hE K hg ho hod (hd d hod) h
 |box T x=>cases hod:o.dst with
  |none=>unfold step at h;rw[ho,hod]at h;cases h
  |some d=>exact U7a hE K hg ho hod (hd d hod) h
 |load T x=>cases hod:o.dst with
  |none=>unfold step at h;rw[ho,hod]at h;cases h
  |some d=>exact Rfa hE K hg ho hod (hd d hod) h
 |fieldAddr T x j=>cases hod:o.dst with
  |none=>unfold step at h;rw[ho,hod]at h;cases h
  |some d=>exact Y0 hE K hg ho hod (hd d hod) h
 |indexAddr T x i=>cases hod:o.dst with
  |none=>unfold step at h;rw[ho,hod]at h;cases h
  |some d=>
   cases hop:E.opn d with
   |true=>exact Y7 hE K hg ho hod (hd d hod) hop h
   |false=>exact Y1 hE K hg ho hod (hd d hod) hop h
 |index T x i=>cases hod:o.dst with
  |none=>unfold step at h;rw[ho,hod]at h;cases h
  |some d=>exact Mua hE K hg ho hod (hd d hod) h
 |slice T x lo hi mx=>cases hod:o.dst with
  |none=>unfold step at h;rw[ho,hod]at h;cases mx<;>cases h
  |some d=>cases mx with
   |none=>exact Mxa hE K hg ho hod (hd d hod) h
   |some m=>unfold step at h;rw[ho,hod]at h;cases h
 |buildSlice T n ps=>cases hod:o.dst with
  |none=>unfold step at h;rw[ho,hod]at h;cases h
  |some d=>exact V0 hE K hg ho hod (hd d hod) h
 |makeSlice T x y=>cases hod:o.dst with
  |none=>unfold step at h;rw[ho,hod]at h;cases h
  |some d=>exact Y9 hE K hg ho hod (hd d hod) h
 |_=>unfold step at h;rw[ho]at h;cases hod:o.dst<;>(rw[hod]at h;cases h)
def Pwa (hE:Ho X E) (K:Ah X S a) (hg:S.g=get A) (hd:Xm E o=true):∃ S',Ah X S' (a.put o.dst undef)∧S'.g=get (Ni o A)∧S'.w=S.w:=by
 unfold Ni
 unfold Xm at hd
 cases hod:o.dst with
 |none=>exact⟨S,K,hg,rfl⟩
 |some d=>
  rw[hod]at hd
  have hdl:d<X.nt:=hE.nt ▸ (Vj hd:d+1≤E.nt)
  refine⟨_,K.put0 hdl (.one .un) undef 0 rfl rfl,?_,rfl⟩
  show upd S.g d _=_
  rw[J8,← hg]
  rfl
def X8a (X:Cx) (Q:Exit→Act→World→Prop) (K:Ab→Option R) (r:R):Prop:=∀ S a A,Ah X S a→S.g=get A→K A=some r→Q .normal a S.w
def Rc {A:Ab} {d n:Nat} {v:Bool} (h:get A d=(n,.one (.sc (.bool v)))):get (lit A d n v)=get A:=by
 funext k
 unfold lit
 simp only[get]
 by_cases hk:k=d
 ·subst hk;simp[h]
 ·have:Nat.beq d k=false:=by
   cases hb:Nat.beq d k with
   |false=>rfl
   |true=>exact absurd (Ve hb).symm hk
  simp[this]
def V5 (hV:Rb X E) {ops:Array Oper} {Q:Exit→Act→World→Prop}:∀ (l:List Nat) {S:Sit} {a:Act} {A:Ab} {K:Ab→Option R} {r:R},Ah X S a→S.g=get A→Qp E ops.toList l A K=some r→X8a X Q K r→wpOps X.P ops Q l a S.w
 |[],S,a,A,K,r,hK,hg,h,hQ=>hQ S a A hK hg h
 |i::l,S,a,A,K,r,hK,hg,h,hQ=>by
  rw[wpOps_cons]
  unfold Qp at h
  rw[Gk]at h
  unfold wpOp
  split at h
  ·cases h
  ·rename_i o ho
   have ho':ops[i]? = some o:=by simpa using ho
   rw[ho']
   simp only
   obtain⟨hd,h⟩:=cs h
   have hdl:∀ d,o.dst=some d→d<X.nt:=λ d hod=>by
    unfold Xm at hd
    rw[hod]at hd
    exact hV.en.nt ▸ (Vj hd:d+1≤E.nt)
   have go:∀ {A:Ab},S.g=get A→step E o A (λ U=>Qp E ops.toList l (ups A U) K)=some r→o.wp X.P a S.w (wpOps X.P ops Q l) Q:=by
    intro A hg h
    obtain⟨U,hU,hgo⟩:=J5a hV hK hg hdl h
    exact hgo _ _ (λ S' a' K' g'=>V5 hV l K' g' hU hQ)
   have skip:∀ {A:Ab},S.g=get A→Qp E ops.toList l (Ni o A) K=some r→wpOps X.P ops Q l (a.put o.dst undef) S.w:=by
    intro A hg h
    obtain⟨S',K',g',w'⟩:=Pwa hV.en hK hg hd
    rw[← w']
    exact V5 hV l K' g' h hQ
   split at h
   ·rename_i hgd
    have hw:Region.wanted o (yielded ops a.tmps)=true:=by unfold Region.wanted;rw[hgd]
    rw[if_pos hw]
    exact .inl (go hg h)
   ·rename_i j want hgd
    split at h
    ·cases h
    ·rename_i dj hdj
     have hdj':(ops[j]?).bind (·.dst)=some dj:=by
      unfold Hya at hdj
      rw[Gk]at hdj
      have:ops.toList[j]? = ops[j]? := by simp
      rw[this]at hdj
      cases hj:ops[j]? with
      |none=>rw[hj]at hdj;cases hdj
      |some oj=>rw[hj]at hdj;simpa using hdj
     obtain⟨hb,h⟩:=cs h
     have hjl:dj<X.nt:=hV.en.nt ▸ (Vj hb:dj+1≤E.nt)
     have htm:a.tmps[dj]? = some (S.ph dj):=by
      have h1:=hK.sl dj hjl
      have h2:dj<a.tmps.size:=by rw[hK.sz];exact hjl
      rw[← h1,Ye,Yoa h2]
      rfl
     have hy:yielded ops a.tmps j=(match S.ph dj with | .bool b=>some b|_=>none):=by
      unfold yielded
      rw[hdj',Vt,htm]
      cases S.ph dj<;>rfl
     have hwd:Region.wanted o (yielded ops a.tmps)=((match S.ph dj with | .bool b=>some b|_=>none)==some want):=by
      unfold Region.wanted
      rw[hgd]
      simp only
      rw[hy]
     split at h
     ·rename_i n b hgt
      have hph:S.ph dj = .bool b:=by
       have:=hK.at_ dj
       rw[hg,hgt]at this
       exact this.1
      rw[hph]at hwd
      have hgl:S.g=get (lit A dj n b):=by rw[Rc hgt];exact hg
      cases b with
      |true=>
       rw[cond_true]at h
       cases want with
       |true=>
        rw[cond_true]at h
        rw[if_pos (by rw[hwd];rfl)]
        exact .inl (go hgl h)
       |false=>
        rw[cond_false]at h
        rw[if_neg (by rw[hwd];decide)]
        exact skip hgl h
      |false=>
       rw[cond_false]at h
       cases want with
       |true=>
        rw[cond_true]at h
        rw[if_neg (by rw[hwd];decide)]
        exact skip hgl h
       |false=>
        rw[cond_false]at h
        rw[if_pos (by rw[hwd];rfl)]
        exact .inl (go hgl h)
     ·rename_i n hgt
      have hph:S.ph dj=undef:=by
       have:=hK.at_ dj
       rw[hg,hgt]at this
       exact this
      rw[hph]at hwd
      rw[if_neg (by rw[hwd];simp[undef])]
      exact skip hg h
     ·cases h
end
end

section
attribute [local irreducible] C H
def Eda:Ex→Exit
 |.normal => .normal
 |.exit i => .exit i
 |.ret => .ret
def Wha {J:Nat→Prop}:∀ n,J n→∃ m,J m∧(∀ k,J k→m≤k):=by
 intro n
 induction n using Nat.strongRecOn with
 |_ n ih=>
  intro hn
  by_cases h:∃ m,m<n∧J m
  ·obtain⟨m,hm,hj⟩:=h
   exact ih m hm hj
  ·exact⟨n,hn,λ k hk=>Nat.le_of_not_lt (λ hlt=>h ⟨k,hlt,hk⟩)⟩
open Classical in
def Gha {P:Program} {c:Code} {Q:Exit→Act→World→Prop} (J:Nat→Act→World→Prop) {n:Nat} {a:Act} {w:World} (h0:J n a w)
  (round:∀ n a w,J n a w→c.wp P (Exit.then (λ a' w'=>∃ m,m<n∧J m a' w') Q) a w):(Code.loop c).wp P Q a w:=by
 let μ:Act→World→Nat:=λ a w=>if h:∃ m,J m a w∧(∀ k,J k a w→m≤k) then Classical.choose h else 0
 have hμ:∀ a w n,J n a w→J (μ a w) a w∧(∀ k,J k a w→μ a w≤k):=by
  intro a w n hn
  have h:=Wha (J:=λ m=>J m a w) n hn
  have e:μ a w=Classical.choose h:=by simp only[μ];rw[dif_pos h]
  rw[e]
  exact Classical.choose_spec h
 refine wp_loop (λ a w=>∃ n,J n a w) μ ⟨n,h0⟩ ?_
 rintro a w ⟨n,hn⟩
 obtain⟨h1,h2⟩:=hμ a w n hn
 refine wp_mono (round (μ a w) a w h1) ?_
 intro e a' w' hq
 cases e<;>first|exact hq|skip
 obtain⟨m,hm,hj⟩:=hq
 refine⟨⟨m,hj⟩,Nat.lt_of_le_of_lt ((hμ a' w' m hj).2 m hj) hm⟩
section
variable {X:Cx} {S S1 S2:Sit} {a:Act} {E:En} {A:Ab} {o:Oper} {R:Type} {Kc:List Up→Option R} {r:R}
def J3 (O:Nat→Lab) (vs:List (Nat×Ty)):Nat→Lab:=λ k=>match O k with
 |.pl p []=>if Nk vs p then .pl p [] else .fz
 |o=>o
def I5 {O:Nat→Lab} {vs:List (Nat×Ty)} {k:Nat} {o:Lab} (h:O k=o) (ho:∀ p,o ≠ .pl p []):J3 O vs k=o:=by
 unfold J3
 rw[h]
 cases o<;>first|rfl|skip
 rename_i l p
 cases p<;>first|rfl|exact absurd rfl (ho _)
def V6 {P:Program} {S:Sit} {lab:Lab} {t:Ty} {z:Lf} {x:t.den} {y:Lf} {u:Value} (hw:mkW t [z]=some x) (hy:A5 t x=[y]) (hz:Am P S lab z u) (ho:Tha t=true∨z.isOwn=false):Am P S lab y u:=by
 cases t with
 |pr p q=>
  have h1:=Fs (.pr p q) x
  rw[hy]at h1
  have:=L5 p
  have:=L5 q
  have h2:1=p.sz+q.sz:=h1
  omega
 |ow e r=>
  have h1:A6 P S (λ _=>lab) 0 (A5 (.ow e r) x) [u]:=Mb (by trivial) hw ⟨hz,trivial⟩
  rw[hy]at h1
  exact h1.1
 |i k=>
  cases z<;>first|(simp[mkW,mkT]at hw;done)|skip
  rename_i v
  cases v<;>first|(simp[mkW,mkT]at hw;done)|skip
  rename_i k' n
  unfold mkW at hw
  simp only[mkT]at hw
  by_cases hk:k=k'
  ·subst hk
   simp only[decide_true,cond_true,Vc]at hw
   subst hw
   simp only[A5,Yd,and_true]at hy
   subst hy
   exact hz
  ·simp[hk]at hw
 |b=>
  cases z<;>first|(simp[mkW,mkT]at hw;done)|skip
  rename_i v
  cases v<;>first|(simp[mkW,mkT]at hw;done)|skip
  unfold mkW at hw
  simp only[mkT,Vc]at hw
  subst hw
  simp only[A5,Yd,and_true]at hy
  subst hy
  exact hz
 |s=>
  cases z<;>first|(simp[mkW,mkT]at hw;done)|skip
  rename_i v
  cases v<;>first|(simp[mkW,mkT]at hw;done)|skip
  unfold mkW at hw
  simp only[mkT,Vc]at hw
  subst hw
  simp only[A5,Yd,and_true]at hy
  subst hy
  exact hz
 |sl e r=>
  simp only[A5,Yd,and_true]at hy
  subst hy
  cases z<;>first|(simp[mkW,mkT]at hw;done)|skip
  ·rename_i e' r' xs
   unfold mkW at hw
   simp only[mkT]at hw
   cases hb:Nat.beq e e'
   ·rw[hb]at hw;simp at hw
   rw[hb,cond_true]at hw
   have he:e=e':=Ve hb
   subst he
   cases hc:Mv r r' xs with
   |none=>rw[hc]at hw;simp at hw
   |some ys=>
    rw[hc]at hw
    cases hw
    exact Nl hc hz
  ·simp[Tha,Lf.isOwn]at ho
def Gia {vs:List (Nat×Ty)} {l:Nat} {t:Ty} (hm:(l,t)∈vs) (ht:Tha t=true):Nk vs l=true:=by
 unfold Nk
 rw[Y4a]
 refine⟨(l,t),hm,?_⟩
 cases t<;>first|(simp[Tha]at ht;done)|simp
def Rva (K:Ah X S a) (hg:S.g=get A) {all:List (Nat×Ty)} {l:Nat} {t:Ty} {x:t.den} (hm:(l,t)∈all) (h:Mja A all l t=some x):
  ∀ y,A5 t x=[y]→Am X.P { S with O:=J3 S.O all } (.pl l []) y (S.ph l):=by
 intro y hy
 have hfz:∀ k,S.O k = .fz→J3 S.O all k = .fz:=λ k hk=>I5 hk (by simp)
 have L:Dr S { S with O:=J3 S.O all }:=⟨λ _=>Vv _,λ _ _=>rfl,λ p v e r xs' h _=>⟨xs',h,rfl⟩,λ _ _=>rfl,λ k hk=>⟨hfz k hk,rfl⟩,Dr.box_of (λ _ _ _ h=>h) (λ k b h=>⟨I5 h (by simp),rfl⟩),λ p _ hd=>⟨hd,λ _ _ _ h=>h,λ k hk=>by
  refine⟨?_,rfl⟩
  cases hkp:Nk all p with
  |true=>exact .inl (by show J3 S.O all k=_;unfold J3;rw[hk];simp[hkp])
  |false=>exact .inr (by show J3 S.O all k=_;unfold J3;rw[hk];simp[hkp])⟩⟩
 have hat:=K.at_ l
 rw[hg]at hat
 have frz:∀ (p:Nat) (e:TypeId) (r:Ty) (xs:List r.den),Nk all p=false→Dy X.P S.O S.w (.pl p []) e r xs (S.ph p)→Am X.P { S with O:=J3 S.O all } .fz (.fz e r xs) (S.ph p):=by
  intro p e r xs hk ho
  exact ho.reads (O':=J3 S.O all) hfz (λ k hkk=>by
   unfold J3
   rw[hkk]
   simp[hk])
 unfold Mja at h
 split at h
 ·rename_i p v hgl
  rw[hgl]at hat
  have hat':Am X.P S (.pl l []) (.al p v) (S.ph l):=hat
  cases hk:Nk all p
  case true=>rw[hk]at h;simp at h
  rw[hk,cond_false]at h
  have hz:Am X.P { S with O:=J3 S.O all } .fz (Jg (Hw A (.al p v))) (S.ph l):=by
   simp only[Hw]
   split
   ·rename_i n e r xs hp
    cases hb:Nat.beq n v
    ·exact trivial
    have hnv:n=v:=by simpa using hb
    subst hnv
    rw[cond_true,hat'.2 (by rw[hg,hp])]
    have h3:=K.at_ p
    rw[hg,hp]at h3
    exact frz p e r xs hk h3
   ·rename_i n e r xs hp
    cases hb:Nat.beq n v
    ·exact trivial
    have hnv:n=v:=by simpa using hb
    subst hnv
    rw[cond_true,hat'.2 (by rw[hg,hp])]
    have h3:=K.at_ p
    rw[hg,hp]at h3
    exact Ty.rep_mono (t := .sl e r) hfz (λ _ _=>rfl) _ _ h3
   ·exact trivial
  have hno:(Jg (Hw A (.al p v))).isOwn=false:=by cases Hw A (.al p v)<;>rfl
  have:=V6 h hy hz (.inr hno)
  have hyo:y.isOwn=false:=by
   cases t<;>first|(simp[A5]at hy;subst hy;rfl)|skip
   ·cases hs:Jg (Hw A (.al p v)) with
    |own e r xs=>rw[hs]at hno;simp[Lf.isOwn]at hno
    |_=>rw[hs]at h;simp[mkW,mkT]at h
   ·rename_i p q
    have h1:=Fs (.pr p q) x
    rw[hy]at h1
    have:=L5 p
    have:=L5 q
    have h2:1=p.sz+q.sz:=h1
    omega
  exact this.relab hyo
 ·rename_i e r xs hgl
  rw[hgl]at hat
  have hat':Dy X.P S.O S.w (.pl l []) e r xs (S.ph l):=hat
  cases hot:Tha t with
  |true=>
   rw[hot,cond_true]at h
   have hkl:=Gia hm hot
   have hz:Am X.P { S with O:=J3 S.O all } (.pl l []) (.own e r xs) (S.ph l):=Am.later (x := .own e r xs) L hat (λ k hk=>⟨by show J3 S.O all k=_;unfold J3;rw[hk];simp[hkl],rfl⟩)
   exact V6 h hy hz (.inl hot)
  |false=>
   rw[hot,cond_false]at h
   cases hk:Nk all l
   case true=>rw[hk]at h;simp at h
   rw[hk,cond_false]at h
   have:=V6 h hy (Am.relab (lab' := .pl l []) rfl (frz l e r xs hk hat')) (.inr rfl)
   exact this
 ·rename_i z _ hno hgl
  rw[hgl]at hat
  have hat':Am X.P S (.pl l []) z (S.ph l):=hat
  have hzo:z.isOwn=false:=by
   cases z<;>first|rfl|exact(hno _ _ _ rfl).elim|skip
   exfalso
   cases t<;>first|(simp[mkW,mkT]at h;done)|skip
   rename_i p q
   have h1:=Fs (.pr p q) x
   rw[hy]at h1
   have:=L5 p
   have:=L5 q
   have h2:1=p.sz+q.sz:=h1
   omega
  have hz:Am X.P { S with O:=J3 S.O all } (.pl l []) z (S.ph l):=(Am.relab (lab' := .fz) hzo hat').later (lab' := .fz) L (λ k hk=>⟨hfz k hk,rfl⟩) |>.relab hzo
  exact V6 h hy hz (.inr hzo)
 ·cases h
end
end

end Go.Proofs.Ytiiekghlhfbmmaa.Vf
