import Derived.Test.YtbbifgjgneefkaaMaf
set_option linter.all false
namespace Go.Proofs.Ytbbifgjgneefkaa.Vf
open Go
open List (length getD)
open Int (toNat)
open Go.IntKind (wrap)
open BitVec (ofInt)
def Vy:=@Option.bind_some
def Yn:=@List.mem_map_of_mem
def Yq:=@Nat.ble_eq_true_of_le
def Zl:=@List.getElem?_cons_zero
def Zr:=@Array.getElem?_eq_getElem
def P6a:=@List.mem_cons_self
def Pwa:=@Array.ext'

section
attribute [local irreducible] C H
def Mk:List Ty→List (List Lf)→List (List Lf)→Prop
 |[],[],[]=>True
 |t::ts,l::ls,l'::ls'=>(∃ y,mkW t l=some y∧l'=A4 t y)∧Mk ts ls ls'
 |_,_,_=>False
def Le:∀ (ts:List Ty) (ls:List (List Lf)) (x:Den ts),Ks ts ls=some x→Mk ts ls (Ar ts x)
 |[],[],_,_=>trivial
 |[],_::_,_,h=>by simp[Ks]at h
 |[t],[],_,h=>by simp[Ks]at h
 |[t],[l],x,h=>⟨⟨x,h,rfl⟩,trivial⟩
 |[t],_::_::_,_,h=>by simp[Ks]at h
 |_::_::_,[],_,h=>by simp[Ks]at h
 |t::u::ts,l::ls,x,h=>by
  simp only[Ks]at h;split at h
  ·rename_i y hy;split at h
   ·rename_i z hz;cases h;exact⟨⟨y,hy,rfl⟩,Le (u::ts) ls z hz⟩
   ·cases h
  ·cases h
def El:∀ (ts:List Ty) (x:Den ts),∀ l∈Ar ts x,∀ y∈l,Df y=true
 |[],_=>by simp[Ar]
 |[t],x=>by
  intro l hl;simp[Ar]at hl;subst hl;exact Gf t x
 |t::u::ts,x=>by
  intro l hl;rcases Vk.1 (show l∈A4 t x.1::Ar (u::ts) x.2 from hl) with rfl|h
  ·exact Gf t x.1
  ·exact El (u::ts) x.2 l h
def O3 (t:Ty) (x:t.den) (h:Gd t=true):A4 t x=lvs t x:=N8 t x h
section
variable {X:Cx} {S S':Sit} {a:Act} {E:En} {A:Ab} {o:Oper} {R:Type} {Kc:List Up→Option R} {r:R}
def Gia (hE:Fo X E) (K:Ah X S a) (hg:S.g=get A) {T:TypeId} {x:Operand} {s:Sv} {ag:Bool} (hx:opT E T A x=some s) (hf:Fy ag s=true):
  ∃ us,∃ f:Nat→Lab,(if ag then a.eval x = .agg us.toArray else us=[a.eval x])∧A5 X.P S f 0 (parts s) us∧∀ n,f n ≠ .no:=by
 rcases H0 hE K hg hx with⟨t,rfl,ht,hst,het,hok⟩|⟨hnt,y,rfl,hy⟩
 ·cases s with
  |tup vs=>simp[Fy,Bja]at hf
  |one y=>
   have:ag=false:=by cases ag<;>simp[Fy,Bja]at hf ⊢
   subst this;exact⟨[a.eval (.tmp t)],λ _ => .pl t [],rfl,⟨hok,trivial⟩,by simp⟩
  |agg l=>
   have:ag=true:=by cases ag<;>simp[Fy,Bja]at hf ⊢
   subst this;obtain⟨us,e1,hl⟩:=hok;exact⟨us,λ n => .pl t [n],e1,hl,by simp⟩
 ·have:ag=false:=by cases ag<;>simp[Fy,Bja]at hf ⊢
  subst this;exact⟨[a.eval x],λ _ => .fz,rfl,⟨hy _,trivial⟩,by simp⟩
def Qx {ag:Bool} {s:Sv} (hf:Fy ag s=true):∀ vs,s ≠ .tup vs:=by
 intro vs e;subst e;simp[Fy,Bja]at hf
def Jl {ag:Bool} {s:Sv} {u:Value} {us:List Value} (hf:Fy ag s=true) (h:M3 s u us):if ag then u = .agg us.toArray else us=[u]:=by
 cases s with
 |tup vs=>simp[Fy,Bja]at hf
 |one y=>
  have:ag=false:=by cases ag<;>simp[Fy,Bja]at hf ⊢
  subst this;exact h
 |agg l=>
  have:ag=true:=by cases ag<;>simp[Fy,Bja]at hf ⊢
  subst this;exact h
def Pp {P:Program} {S:Sit} {G:Nat→Prop} {t:Ty} {l:List Lf} {y:t.den} {us:List Value} (hG:∀ k,G k→S.O k = .fz) (hm:mkW t l=some y) (hn:Gd t=true) (h:Gu (G6 P G S.w) l us) (f:Nat→Lab) (j:Nat):A5 P S f j (A4 t y) us:=by
 have h1:=Np hm h;have h2:=I8 (P:=P) (G:=λ k=>S.O k = .fz) (w:=S.w) t y us (Ty.rep_mono hG (λ _ _=>rfl) t y us h1);rw[O3 t y hn];exact A5.ofRep h2 f j
def M7 (S:Sit):Nat→Lab:=λ k=>if S.O k = .no then .no else .fz
def Gja {y:Lf} {u:Value} {lab:Lab} (K:Ah X S a) (hg:S.g=get A) (h:Af X.P S lab y u):∃ lab',(lab'=lab∨∃ p,lab' = .pl p [])∧Af X.P S lab' (G5 A y) u:=by
 unfold G5;split
 ·rename_i p v;split
  ·rename_i n e r xs hp;cases hb:Nat.beq n v
   ·exact⟨lab,.inl rfl,trivial⟩
   have hnv:n=v:=by simpa using hb
   subst hnv;have e1:u=S.ph p:=h.2 (by rw[hg,hp]);refine⟨.pl p [],.inr ⟨p,rfl⟩,?_⟩;have:=K.at_ p;rw[hg,hp]at this;rw[e1];exact this
  ·rename_i n e r xs hp;cases hb:Nat.beq n v
   ·exact⟨lab,.inl rfl,trivial⟩
   have hnv:n=v:=by simpa using hb
   subst hnv;have e1:u=S.ph p:=h.2 (by rw[hg,hp]);refine⟨.pl p [],.inr ⟨p,rfl⟩,?_⟩;have:=K.at_ p;rw[hg,hp]at this;rw[e1];exact this
  ·exact⟨lab,.inl rfl,trivial⟩
 ·exact⟨lab,.inl rfl,h⟩
def Xr (K:Ah X S a) (hg:S.g=get A) {f:Nat→Lab} (hf:∀ n,f n ≠ .no):∀ {l:List Lf} {j:Nat} {us:List Value},A5 X.P S f j l us→A3 (l.map λ y=>Hn (Qb A y))=true→
  Gu (G6 X.P (λ k=>M7 S k = .fz) S.w) (l.map λ y=>Hn (Qb A y)) us
 |[],_,[],_,_ => .nil
 |[],_,_::_,h,_=>h.elim
 |_::_,_,[],h,_=>h.elim
 |y::l,j,u::us,h,hst=>by
  have hfz:∀ k,S.O k = .fz→M7 S k = .fz:=λ k hk=>by simp[M7,hk]
  rw[Yc]at hst ⊢
  have hrest:A3 (l.map λ y=>Hn (Qb A y))=true:=by
   generalize Hn (Qb A y)=z at hst
   cases z<;>first|(simp[A3]at hst;done)|simpa[A3] using hst
  refine .cons ?_ (Xr K hg hf h.2 hrest)
  have hv:(∃ lab',lab' ≠ .no∧Af X.P S lab' (Qb A y) u)∨∃ p e r,∃ xs:List (Ty.den r),Qb A y = .fz e r xs∧Uf X.P S p e r xs u:=by
   unfold Qb;split
   ·rename_i p v pi e r xs;cases hq:Nat.beq (get A p).1 v
    ·exact .inl ⟨f j,hf j,trivial⟩
    obtain⟨_,_,h2⟩:=h.1;exact .inr ⟨p,e,r,xs,rfl,(h2 (by rw[hg];exact Vb hq)).2.1⟩
   ·obtain⟨lab',hlab,h1⟩:=Gja K hg h.1;refine .inl ⟨lab',?_,h1⟩;rcases hlab with rfl|⟨p,rfl⟩
    ·exact hf j
    ·simp
  rcases hv with⟨lab',hno,h1⟩|⟨p,e,r,xs,e1,h1⟩
  rotate_left 1
  ·rw[e1]
   exact h1.reads (λ k hk=>by
    rcases hk with hk|hk<;>simp[M7,hk])
  generalize Qb A y=z at h1 hst
  cases z with
  |sc v=>exact h1
  |fz e r xs=>exact Ty.rep_mono (t := .sl e r) hfz (λ _ _=>rfl) _ _ h1
  |own e r xs=>
   have h2:Ch X.P S.O S.w lab' e r xs u:=h1;exact h2.reads (O':=M7 S) hfz (λ k hk=>by simp[M7,hk,hno])
  |_=>simp[Hn,A3]at hst
def Sw (hE:Fo X E) (K:Ah X S a) (hg:S.g=get A) (rg:Nat→Nat×Nat) (nv:Nat) (hs:List Value):∀ (ps:List Par) {xs:List Operand} {ss:List Sv} {ls ls':List (List Lf)} {i:Nat},Gu (λ s x=>∃ T,opT E T A x=some s) ss xs→Iw A ps ss=some ls→Mk (ps.map Par.ty) ls ls'→
  Iv ps=true→Hj X.P (bare (M7 S) S.w) rg nv hs i ps ls' (xs.map a.eval)∧xs.length=ps.length
 |[],_,_,ls,ls',i,.nil,h,hm,_=>by
  simp only[Iw,Vc]at h;subst h
  cases ls' with
  |nil=>exact⟨trivial,rfl⟩
  |cons=>exact hm.elim
 |[],_,_,ls,ls',i,.cons _ _,h,hm,_=>by simp[Iw]at h
 |.ptr _ _::_,_,_,_,_,_,_,_,_,hl=>by simp[Iv]at hl
 |.hid _ _::_,_,_,_,_,_,_,_,_,hl=>by simp[Iv]at hl
 |.rd _::_,_,_,_,_,_,_,_,_,hl=>by simp[Iv]at hl
 |.fn _ _::_,_,_,_,_,_,_,_,_,hl=>by simp[Iv]at hl
 |.val ag t::ps,_,_,ls,ls',i,.nil,h,_,_=>by simp[Iw]at h
 |.val ag t::ps,_,_,ls,ls',i,.cons (x:=s) (y:=x) (xs:=ss) (ys:=xs) hs1 hss,h,hm,hl=>by
  simp only[Iv,Va]at hl;simp only[Iw]at h;obtain⟨hq,h⟩:=cs h;simp only[Va]at hq;split at h
  ·rename_i ls1 hls1;cases h
   cases ls' with
   |nil=>exact hm.elim
   |cons l' ls'=>
    obtain⟨⟨y,hy,rfl⟩,hm2⟩:=hm;obtain⟨T,hx⟩:=hs1;obtain⟨us,f,hsh,hlf,hf⟩:=Gia hE K hg hx hq.1;obtain⟨r1,r2⟩:=Sw hE K hg rg nv hs (i:=i+1) ps hss hls1 hm2 hl.2;exact⟨⟨⟨us,hsh,Pp (S:=bare (M7 S) S.w) (λ k hk=>hk) hy hl.1 (Xr K hg hf hlf hq.2) _ _⟩,r1⟩,by simp[r2]⟩
  ·cases h
def Ih:Lf→Bool
 |.sc _=>true
 |.own _ r _=>Dh r
 |_=>false
def Hl:∀ (t:Ty) (x:t.den),Dh t=true→∀ y∈A4 t x,Ih y=true
 |.i _,_,_=>by simp[A4,Ih]
 |.b,_,_=>by simp[A4,Ih]
 |.s,_,_=>by simp[A4,Ih]
 |.sl _ _,_,h=>by simp[Dh]at h
 |.ow _ r,_,h=>by simpa[A4,Ih,Dh] using h
 |.pr x y,p,h=>by
  simp only[Dh,Va]at h;intro z hz;rcases Vm.1 (show z∈A4 x p.1++A4 y p.2 from hz) with h'|h'
  ·exact Hl x p.1 h.1 z h'
  ·exact Hl y p.2 h.2 z h'
def Lra {P:Program} {S1 S2:Sit} {lab lab':Lab} {y:Lf} {u:Value} (hy:Ih y=true) (hw:S2.w=S1.w) (hl:∀ k,S1.O k=lab→S2.O k=lab') (h:Af P S1 lab y u):Af P S2 lab' y u:=by
 cases y with
 |sc v=>exact h
 |own e r xs=>
  obtain⟨bs,h1,h2,h3⟩:=h;exact⟨bs,Ty.dep_all (.ow e r) xs [u] bs hy (λ k _=>by rw[hw]) h1,h2,λ k hk=>hl k (h3 k hk)⟩
 |_=>simp[Ih]at hy
def O4:∀ (rs:List (RK×Ty)) (x:Den (rs.map Prod.snd)),P4 rs=true→∀ l∈Ar (rs.map Prod.snd) x,∀ y∈l,Ih y=true
 |[],_,_=>λ l hl=>by cases (show l∈([]:List (List Lf)) from hl)
 |[(k,t)],x,h=>by
  intro l hl;have hl':l∈[A4 t x]:=hl;simp at hl';subst hl'
  have:Dh t=true:=by cases k<;>simp[P4]at h<;>exact h
  exact Hl t x this
 |(k,t)::r2::rs,x,h=>by
  intro l hl
  have h2:Dh t=true∧P4 (r2::rs)=true:=by
   cases k<;>simp only[P4,Va]at h<;>first|exact h|cases h
  rcases Vk.1 (show l∈A4 t x.1::Ar ((r2::rs).map Prod.snd) x.2 from hl) with rfl|h'
  ·exact Hl t x.1 h2.1
  ·exact O4 (r2::rs) x.2 h2.2 l h'
end
end

section
attribute [local irreducible] C H
section
variable {X:Cx} {S S':Sit} {a:Act} {E:En} {A:Ab} {o:Oper} {R:Type} {Kc:List Up→Option R} {r:R}
def Sx {P:Program} {w:World} {c:Call} {f:FuncId} {en:Ent} (ho:o.op = .call c) (hc:c.callee = .value (.func f)) (hf:Hk P f en):(execOp a.eval o).run P w = .ok (.enter f (c.args.toList.map a.eval).toArray) w:=by
 obtain⟨fn,h1,h2,h3⟩:=hf.fn
 have e1:c.args.map a.eval=(c.args.toList.map a.eval).toArray:=by
  apply Pwa;simp
 unfold execOp;simp only[ho,resolve,hc,Act.eval,Deferred.ofValue,Vw,Wl,Vv,invoke,callFunc,run_program,h1];rw[if_neg (by rw[h2];simp),if_neg (by rw[h3];simp)];simp only[Wl,Array.append_empty,Array.empty_append];rw[e1]
def Ala {P:Program} {w:World} {c:Call} {f:FuncId} {en:Ent} {t:Nat} {us:List Value} (ho:o.op = .call c) (hc:c.callee = .value (.tmp t)) (hv:a.eval (.tmp t) = .func (.func f) #[] us.toArray) (hf:Hk P f en):
  (execOp a.eval o).run P w = .ok (.enter f (c.args.toList.map a.eval++us).toArray) w:=by
 obtain⟨fn,h1,h2,h3⟩:=hf.fn
 have e1 : #[]++(c.args.map a.eval++us.toArray)=(c.args.toList.map a.eval++us).toArray:=by
  apply Pwa;simp
 have e2 : #[]++c.args.map a.eval++us.toArray=(c.args.toList.map a.eval++us).toArray:=by
  apply Pwa;simp
 unfold execOp;simp only[ho,resolve,hc,hv,Deferred.ofValue,Vw,Wl,Vv,invoke,callFunc,run_program,h1];rw[if_neg (by rw[h2];simp),if_neg (by rw[h3];simp)];simp only[Wl]
 first|rw[e1]|rw[e2]
def M8 {f:FuncId} {args:Array Value} {w:World} {A':Ab} (hr:(execOp a.eval o).run X.P w = .ok (.enter f args) w)
  (h:Calls X.P f args w (λ e w'=>∃ v,e = .returned v∧∃ S',S'.w=w'∧Ah X S' (a.put o.dst v)∧S'.g=get A')):C7a X o a w A':=by
 intro next Q hn;unfold Oper.wp;rw[hr,Oper.upon_enter];intro cs;obtain⟨e,w',fr,⟨v,rfl,S',hw,K',hg'⟩,rest⟩:=h cs;refine⟨_,w',fr,?_,rest⟩;rw[← hw];exact hn S' _ K' hg'
def Jm {P:Program} {f:FuncId} {args:Array Value} {w:World} {R1 R2:Ending→World→Prop} (h:Calls P f args w R1) (hi:∀ e w',R1 e w'→R2 e w'):Calls P f args w R2:=by
 intro cs;obtain⟨e,w',fr,hr,rest⟩:=h cs;exact⟨e,w',fr,hi _ _ hr,rest⟩
def Pq:∀ ps:List Par,Iv ps=true→Eg ps=[]
 |[],_=>rfl
 |.val _ _::ps,h=>by
  simp only[Iv,Va]at h;exact Pq ps h.2
 |.ptr _ _::_,h=>by simp[Iv]at h
 |.hid _ _::_,h=>by simp[Iv]at h
 |.rd _::_,h=>by simp[Iv]at h
 |.fn _ _::_,h=>by simp[Iv]at h
def Gka {ts:List Ty} {rs:List (RK×Ty)} (he:ts=rs.map Prod.snd) (x:Den ts) (h:P4 rs=true):∀ l∈Ar ts x,∀ y∈l,Ih y=true:=by
 subst he;exact O4 rs x h
def Jn:∀ rs:List (RK×Ty),P4 rs=true→F6 rs=false
 |[],_=>rfl
 |(k,t)::rs,h=>by
  cases k with
  |ptr=>simp[P4]at h
  |one=>simp only[P4,Va]at h;exact Jn rs h.2
  |agg=>simp only[P4,Va]at h;exact Jn rs h.2
def Jja (hE:Fo X E) (K:Ah X S a) (hg:S.g=get A) {xs:List Operand} {f:FuncId} {en:Ent} {ss:List Sv} (hrun:(execOp a.eval o).run X.P S.w = .ok (.enter f (xs.map a.eval).toArray) S.w) (hd:∀ d,o.dst=some d→d<X.nt)
  (hco:Hk X.P f en) (hnv:en.nv=xs.length) (hss:Gu (λ s x=>∃ T,opT E T A x=some s) ss xs) (hl:Iv en.ps=true) (hn:P4 en.rs=true)
  (h:(match Iw A en.ps ss with
  |none=>none
  |some ls=>match Ks _ ls with
   |none=>none
   |some x=>(en.run x).bind λ r=>
    match Ju A en.rs (shL E o.dst (Ar _ r)) o.dst with
    |none=>none
    |some rs=>Kc rs)=some r):Er X o a S.w A Kc r:=by
 split at h
 ·cases h
 ·rename_i ls hls;split at h
  ·cases h
  ·rename_i x hx
   cases hrun':en.run x with
   |none=>rw[hrun']at h;simp at h
   |some y=>
    rw[hrun']at h;simp only[Vy]at h;split at h
    ·cases h
    ·rename_i us hus;obtain⟨hargs,hlen⟩:=Sw (i:=0) hE K hg (λ _=>(0,0)) en.nv ((xs.map a.eval).drop en.nv) en.ps hss hls (Le _ _ _ hx) hl
     have hs:=hco.sound x y hrun' S.w (M7 S) (λ _=>(0,0)) _ (λ k hk=>K.lt k (λ e=>hk (by simp[M7,e]))) (λ k b hk=>by unfold M7 at hk;split at hk<;>cases hk) hargs
     rw[Zb (by rw[Yj,hnv];exact Vo _)]at hs;refine⟨us,h,M8 hrun (Jm hs ?_)⟩;rintro e w' ⟨v,O',rfl,hF,hlt,hres,_⟩;refine⟨v,rfl,?_⟩
     have hsame:∀ k,k<S.w.heap.size→w'.heap[k]? = S.w.heap[k]? ∧ (O' k = .no∨O' k = .fz):=λ k hk=>by
      by_cases h0:S.O k = .no
      ·have:=hF.no k hk (by simp[M7,h0]);exact⟨this.2,.inl this.1⟩
      ·have:=hF.fz k hk (by simp[M7,h0]);exact⟨this.2,.inr this.1⟩
     let O2:Nat→Lab:=λ k=>if k<S.w.heap.size then S.O k else O' k
     obtain⟨K1,L1⟩:=K.world (w':=w') (O':=O2) (λ k hk _=>⟨if_pos hk,(hsame k hk).1⟩) hF.os hF.tape hF.out hF.size (λ k hk=>by
      by_cases hkl:k<S.w.heap.size
      ·exact Wi hkl hF.size
      ·exact hlt k (by simpa[O2,hkl] using hk))
     have htm:∀ k i q,O' k = .tm i q→O2 k = .tm i q:=λ k i q hk=>by
      have:¬ k<S.w.heap.size:=λ hkl=>by
       rcases (hsame k hkl).2 with h|h<;>rw[h]at hk<;>cases hk
      simp[O2,this,hk]
     have hnews:=Gka (by rw[Pq en.ps hl,Ye]) y hn;have hres1:Eh X.P (Mx S w' O2) S.w.heap.size en.rs (Ar _ y) v:=Eh.imp (S1:=bare O' w') (S2:=Mx S w' O2) rfl (λ k i hk=>htm k i [] hk) (λ l hl' z hz i q u hu=>Lra (S1:=bare O' w') (S2:=Mx S w' O2) (hnews l hl' z hz) rfl (λ k hk=>htm k i q hk) hu) hres;obtain⟨S2,K2,w2,g2⟩:=Qw (E:=E) K1 (A1:=A) hg (λ h=>by rw[Jn _ hn]at h;cases h) hd K.fr.size (El _ y) (λ d' _ h=>by rw[Jn _ hn]at h;cases h) hres1 hus;exact⟨S2,w2,K2,g2⟩
end
end

section
attribute [local irreducible] C H
def Na:List Ty→List Lf→Prop
 |.ow _ _::ts,_::l=>Na ts l
 |_::ts,x::l=>x.isOwn=false∧Na ts l
 |[],[]=>True
 |_,_=>False
def Ama (z:Lf):(Hn z).isOwn=false:=by cases z<;>rfl
def Gq:∀ (ts:List Ty) (l:List Lf) {A:Ab} {m:List Lf} {us:List Up},Ck A ts l=some (m,us)→Na ts m
 |[],[],A,m,us,h=>by
  simp only[Ck,Vc,Vu]at h;obtain⟨rfl,_⟩:=h;trivial
 |[],_::_,A,m,us,h=>by simp[Ck]at h
 |t::ts,[],A,m,us,h=>by cases t<;>simp[Ck]at h
 |t::ts,x::l,A,m,us,h=>by
  cases t with
  |ow e r=>
   simp only[Ck]at h;split at h
   ·split at h
    ·rename_i hr;cases h;exact Gq ts l hr
    ·cases h
   ·cases h
  |_=>
   simp only[Ck]at h;split at h
   ·rename_i hr;cases h;exact⟨Ama _,Gq ts l hr⟩
   ·cases h
def M9 {A:Ab} {x:Operand} {s:Sv} {t:Ty} {m:List Lf} {us:List Up} (h:Kt A x s t=some (m,us)):Na (Dx t) m:=by
 unfold Kt Lw at h;split at h
 ·rename_i m0 vs0 ht;cases hst:A3 m0
  ·rw[hst]at h;simp at h
  rw[hst]at h;simp only[cond_true,Vc,Vu]at h;obtain⟨rfl,rfl⟩:=h;exact Gq _ _ ht
 ·cases h
def Ma {A:Ab} {b v:Nat} {t t':Ty} {m:List Lf} {us:List Up} (h:Ka A b v t t'=some (m,us)):Na (Dx t) m:=by
 unfold Ka at h;split at h
 ·rename_i n hd hp;obtain⟨hq,h⟩:=cs h;split at h
  ·rename_i l us0 hx;cases hst:A3 l
   ·rw[hst]at h;simp at h
   rw[hst]at h;simp only[cond_true,Vc,Vu]at h;obtain⟨rfl,rfl⟩:=h;exact Gq _ _ hx
  ·cases h
 ·cases h
def Gla {P:Program} {S:Sit} {f:Nat→Lab}:∀ (t:Ty) (ts:List Ty) (l l':List Lf) (x:t.den) (j:Nat) (us:List Value),Na (Dx t++ts) l→mkT t l=some (x,l')→A5 P S f j l us→A5 P S f j (A4 t x++l') us∧Na ts l':=by
 intro t
 induction t with
 |pr p q ihp ihq=>
  intro ts l l' x j us h hm hl;simp only[Dx,Vj]at h;simp only[mkT]at hm;split at hm
  ·rename_i y l1 h1;split at hm
   ·rename_i z l2 h2;simp only[Vc,Vu]at hm;obtain⟨rfl,rfl⟩:=hm;obtain⟨h3,h4⟩:=ihp _ _ _ _ j us h h1 hl
    have key:∀ (a:List Lf) (j:Nat) (us:List Value),A5 P S f j (a++l1) us→A5 P S f j (a++(A4 q z++l2)) us∧Na ts l2:=by
     intro a
     induction a with
     |nil=>intro j us h5;exact ihq _ _ _ _ j us h4 h2 h5
     |cons b a ih=>
      intro j us h5
      cases us with
      |nil=>exact h5.elim
      |cons u us=>exact⟨⟨h5.1,(ih (j+1) us h5.2).1⟩,(ih (j+1) us h5.2).2⟩
    have h5:=key _ j us h3;rw[← Vj]at h5;exact h5
   ·cases hm
  ·cases hm
 |ow e r _=>
  intro ts l l' x j us hf hm hl
  cases l with
  |nil=>simp[mkT]at hm
  |cons z l=>
   cases us with
   |nil=>exact hl.elim
   |cons u us=>
    cases z<;>first|(simp[mkT]at hm;done)|skip
    rename_i e' r' xs;simp only[mkT]at hm;rw[csi]at hm;obtain⟨hb,hm⟩:=hm;have he:e=e':=Vb hb;subst he;split at hm
    ·rename_i ys hys;simp only[Vc,Vu]at hm;obtain⟨rfl,rfl⟩:=hm;exact⟨⟨Ch.cast hys hl.1,hl.2⟩,hf⟩
    ·cases hm
 |sl e r _=>
  intro ts l l' x j us hf hm hl
  cases l with
  |nil=>simp[mkT]at hm
  |cons z l=>
   cases us with
   |nil=>exact hl.elim
   |cons u us=>
    obtain⟨hz,hf⟩:z.isOwn=false∧Na ts l:=hf
    cases z<;>first|(simp[mkT]at hm;done)|(simp[Lf.isOwn]at hz;done)|skip
    rename_i e' r' xs;simp only[mkT]at hm;rw[csi]at hm;obtain⟨hb,hm⟩:=hm;have he:e=e':=Vb hb;subst he;split at hm
    ·rename_i ys hys;simp only[Vc,Vu]at hm;obtain⟨rfl,rfl⟩:=hm;exact⟨⟨Kz hys hl.1,hl.2⟩,hf⟩
    ·cases hm
 |i k=>
  intro ts l l' x j us hf hm hl
  cases l with
  |nil=>simp[mkT]at hm
  |cons z l=>
   cases z<;>first|(simp[mkT]at hm;done)|skip
   rename_i v
   cases v<;>first|(simp[mkT]at hm;done)|skip
   rename_i k' n;simp only[mkT]at hm
   by_cases hk:k=k'
   ·subst hk;simp at hm;obtain⟨rfl,rfl⟩:=hm;exact⟨hl,hf.2⟩
   ·simp[hk]at hm
 |b=>
  intro ts l l' x j us hf hm hl
  cases l with
  |nil=>simp[mkT]at hm
  |cons z l=>
   cases z<;>first|(simp[mkT]at hm;done)|skip
   rename_i v
   cases v<;>first|(simp[mkT]at hm;done)|skip
   simp[mkT]at hm;obtain⟨rfl,rfl⟩:=hm;exact⟨hl,hf.2⟩
 |s=>
  intro ts l l' x j us hf hm hl
  cases l with
  |nil=>simp[mkT]at hm
  |cons z l=>
   cases z<;>first|(simp[mkT]at hm;done)|skip
   rename_i v
   cases v<;>first|(simp[mkT]at hm;done)|skip
   simp[mkT]at hm;obtain⟨rfl,rfl⟩:=hm;exact⟨hl,hf.2⟩
def H3 {P:Program} {S:Sit} {f:Nat→Lab} {t:Ty} {l:List Lf} {x:t.den} {j:Nat} {us:List Value} (hf:Na (Dx t) l) (h:mkW t l=some x) (hl:A5 P S f j l us):A5 P S f j (A4 t x) us:=by
 unfold mkW at h;split at h
 ·rename_i y hy;cases h;have:=(Gla t [] l [] _ j us (by rw[Ye];exact hf) hy hl).1;rwa [Ye]at this
 ·cases h
def Lsa {Q:Nat→Lf→Value→Prop} (hqo:∀ j e r r' (xs:List (Ty.den r')) (ys:List (Ty.den r)) u,Js r r' xs=some ys→Q j (.own e r' xs) u→Q j (.own e r ys) u) (hqf:∀ j e r r' (xs:List (Ty.den r')) (ys:List (Ty.den r)) u,K7 r r' xs=some ys→Q j (.fz e r' xs) u→Q j (.fz e r ys) u):∀ (t:Ty) (ts:List Ty) (l l':List Lf) (x:t.den) (j:Nat) (us:List Value),Na (Dx t++ts) l→mkT t l=some (x,l')→Qv Q j l us→Qv Q j (A4 t x++l') us∧Na ts l':=by
 intro t
 induction t with
 |pr p q ihp ihq=>
  intro ts l l' x j us h hm hl;simp only[Dx,Vj]at h;simp only[mkT]at hm;split at hm
  ·rename_i y l1 h1;split at hm
   ·rename_i z l2 h2;simp only[Vc,Vu]at hm;obtain⟨rfl,rfl⟩:=hm;obtain⟨h3,h4⟩:=ihp _ _ _ _ j us h h1 hl
    have key:∀ (a:List Lf) (j:Nat) (us:List Value),Qv Q j (a++l1) us→Qv Q j (a++(A4 q z++l2)) us∧Na ts l2:=by
     intro a
     induction a with
     |nil=>intro j us h5;exact ihq _ _ _ _ j us h4 h2 h5
     |cons b a ih=>
      intro j us h5
      cases us with
      |nil=>exact h5.elim
      |cons u us=>exact⟨⟨h5.1,(ih (j+1) us h5.2).1⟩,(ih (j+1) us h5.2).2⟩
    have h5:=key _ j us h3;rw[← Vj]at h5;exact h5
   ·cases hm
  ·cases hm
 |ow e r _=>
  intro ts l l' x j us hf hm hl
  cases l with
  |nil=>simp[mkT]at hm
  |cons z l=>
   cases us with
   |nil=>exact hl.elim
   |cons u us=>
    cases z<;>first|(simp[mkT]at hm;done)|skip
    rename_i e' r' xs;simp only[mkT]at hm;rw[csi]at hm;obtain⟨hb,hm⟩:=hm;have he:e=e':=Vb hb;subst he;split at hm
    ·rename_i ys hys;simp only[Vc,Vu]at hm;obtain⟨rfl,rfl⟩:=hm;exact⟨⟨hqo _ _ _ _ _ _ _ hys hl.1,hl.2⟩,hf⟩
    ·cases hm
 |sl e r _=>
  intro ts l l' x j us hf hm hl
  cases l with
  |nil=>simp[mkT]at hm
  |cons z l=>
   cases us with
   |nil=>exact hl.elim
   |cons u us=>
    obtain⟨hz,hf⟩:z.isOwn=false∧Na ts l:=hf
    cases z<;>first|(simp[mkT]at hm;done)|(simp[Lf.isOwn]at hz;done)|skip
    rename_i e' r' xs;simp only[mkT]at hm;rw[csi]at hm;obtain⟨hb,hm⟩:=hm;have he:e=e':=Vb hb;subst he;split at hm
    ·rename_i ys hys;simp only[Vc,Vu]at hm;obtain⟨rfl,rfl⟩:=hm;exact⟨⟨hqf _ _ _ _ _ _ _ hys hl.1,hl.2⟩,hf⟩
    ·cases hm
 |i k=>
  intro ts l l' x j us hf hm hl
  cases l with
  |nil=>simp[mkT]at hm
  |cons z l=>
   cases z<;>first|(simp[mkT]at hm;done)|skip
   rename_i v
   cases v<;>first|(simp[mkT]at hm;done)|skip
   rename_i k' n;simp only[mkT]at hm
   by_cases hk:k=k'
   ·subst hk;simp at hm;obtain⟨rfl,rfl⟩:=hm;exact⟨hl,hf.2⟩
   ·simp[hk]at hm
 |b=>
  intro ts l l' x j us hf hm hl
  cases l with
  |nil=>simp[mkT]at hm
  |cons z l=>
   cases z<;>first|(simp[mkT]at hm;done)|skip
   rename_i v
   cases v<;>first|(simp[mkT]at hm;done)|skip
   simp[mkT]at hm;obtain⟨rfl,rfl⟩:=hm;exact⟨hl,hf.2⟩
 |s=>
  intro ts l l' x j us hf hm hl
  cases l with
  |nil=>simp[mkT]at hm
  |cons z l=>
   cases z<;>first|(simp[mkT]at hm;done)|skip
   rename_i v
   cases v<;>first|(simp[mkT]at hm;done)|skip
   simp[mkT]at hm;obtain⟨rfl,rfl⟩:=hm;exact⟨hl,hf.2⟩
def Lta {Q:Nat→Lf→Value→Prop} (hqo:∀ j e r r' (xs:List (Ty.den r')) (ys:List (Ty.den r)) u,Js r r' xs=some ys→Q j (.own e r' xs) u→Q j (.own e r ys) u) (hqf:∀ j e r r' (xs:List (Ty.den r')) (ys:List (Ty.den r)) u,K7 r r' xs=some ys→Q j (.fz e r' xs) u→Q j (.fz e r ys) u) {t:Ty} {l:List Lf} {x:t.den} {j:Nat} {us:List Value} (hf:Na (Dx t) l) (h:mkW t l=some x) (hl:Qv Q j l us):Qv Q j (A4 t x) us:=by
 unfold mkW at h;split at h
 ·rename_i y hy;cases h;have:=(Lsa hqo hqf t [] l [] _ j us (by rw[Ye];exact hf) hy hl).1;rwa [Ye]at this
 ·cases h
def Ana {r:Ty} (xs:List r.den):K7 r r xs=some xs:=by
 unfold K7;rw[dif_pos rfl];rfl
def Aoa {r:Ty} (xs:List r.den):Js r r xs=some xs:=by
 unfold Js;rw[dif_pos rfl]
def Mb:∀ (t:Ty) (x:t.den) (l:List Lf),mkT t (A4 t x++l)=some (x,l)
 |.i _,_,_=>by simp[A4,mkT]
 |.b,_,_=>by simp[A4,mkT]
 |.s,_,_=>by simp[A4,mkT]
 |.sl _ _,_,_=>by simp[A4,mkT,Ana]
 |.ow _ _,_,_=>by simp[A4,mkT,Aoa]
 |.pr x y,p,l=>by
  show mkT (.pr x y) ((A4 x p.1++A4 y p.2)++l)=_;rw[Vj];simp only[mkT];rw[Mb x p.1];simp only;rw[Mb y p.2]
def Apa (t:Ty) (x:t.den):mkW t (A4 t x)=some x:=by
 unfold mkW;have:=Mb t x [];rw[Ye]at this;rw[this]
def O5 (S:Sit) (b:Nat×Nat):Value := .pointer (some ⟨(S.bb b.1).1,(S.bb b.1).2+0,none⟩)
def nmV (i:Nat):Nat:=10+2*i
def nmB (B:Nat):Nat:=11+2*B
def Jka (P:Program) (S:Sit) (B:Nat) (t t':Ty) (l:List Lf) (u:Value) (bs:List (Nat×Nat)):Prop:=
 ∃ b,bs=[(b,B)]∧u = .pointer (some ⟨(S.bb b).1,(S.bb b).2,none⟩)∧(S.g (H b)).2 = .one (.hd t.sz)∧t'.sz=t.sz∧l.length=t.sz∧A3 l=true∧Na (Dx t) l∧
  A5 P S (λ j => .tm (nmB B) [j]) 0 l ((List.range t.sz).map λ j=>S.ph (C b (0+j)))
def Lua (P:Program) (S:Sit) (cb hb:List (Nat×Nat)) (nv i:Nat):Par→List Lf→Value→List (Nat×Nat)→Prop
 |.io _ _,_,_,_=>False
 |.vw t h,l,u,bs=>bs=[]∧nv≤h∧l.length=t.sz∧Na (Dx t) l∧∃ c vs,nth hb (h-nv)=some c∧(S.g (H c.1)).2 = .one (.hd t.sz)∧u = .agg vs.toArray∧Qv (Aja P S (λ j=>S.ph (C c.1 j))) 0 l vs
 |.val ag t,l,u,bs=>bs=[]∧A3 l=true∧Na (Dx t) l∧∃ us,(if ag then u = .agg us.toArray else us=[u])∧A5 P S (λ n => .tm (nmV i) (if ag then [n] else [])) 0 l us
 |.ptr t t',l,u,bs=>Jka P S (bid nv i) t t' l u bs
 |.hid t t',l,u,bs=>Jka P S (bid nv i) t t' l u bs
 |.rd t,l,u,bs=>bs=[]∧∃ r x k o cs,l=lvs r x∧shp r=shp t∧Gd t=true∧u = .pointer (some ⟨k,o,none⟩)∧S.O k = .fz∧r.rep P (λ k=>S.O k = .fz) S.w x cs∧C8 S.w k o cs
 |.fn F m,_,u,bs=>bs=[]∧m=cb.length∧u = .func (.func F) #[] (cb.map (O5 S)).toArray
def Us (P:Program) (S:Sit) (cb hb:List (Nat×Nat)) (nv:Nat):Nat→List Par→List (List Lf)→List Value→List (Nat×Nat)→Prop
 |_,[],[],[],bs=>bs=[]
 |i,p::ps,l::ls,u::us,bs=>∃ b1 b2,bs=b1++b2∧Lua P S cb hb nv i p l u b1∧Us P S cb hb nv (i+1) ps ls us b2
 |_,_,_,_,_=>False
def D0a {nv i j:Nat} (hn:nv≤1000) (h:bid nv i=bid nv j):i=j:=by
 unfold bid at h
 cases h1:Nat.blt i nv<;>cases h2:Nat.blt j nv<;>rw[h1,h2]at h<;>simp only[cond_true,cond_false]at h
 ·have h3:¬ i<nv:=λ h'=>by rw[show Nat.blt i nv=true from Yq h']at h1;cases h1
  have h4:¬ j<nv:=λ h'=>by rw[show Nat.blt j nv=true from Yq h']at h2;cases h2
  omega
 ·have h4:j<nv:=Vd h2;omega
 ·have h4:i<nv:=Vd h1;omega
 ·exact h
section
variable {X:Cx} {S S1 S2:Sit} {a:Act} {E:En} {A:Ab} {o:Oper} {R:Type} {Kc:List Up→Option R} {r:R}
def exA (nv i:Nat):Nat→List Nat→Prop:=λ n _=>∃ j,i≤j∧(n=nmV j∨n=nmB (bid nv j))
def D1a {nv i j:Nat} (hn:nv≤1000) (h:j<i) (q:List Nat):¬ exA nv i (nmV j) q∧¬ exA nv i (nmB (bid nv j)) q:=by
 refine⟨λ ⟨k,h1,h2⟩=>?_,λ ⟨k,h1,h2⟩=>?_⟩
 ·unfold nmV nmB at h2;omega
 ·unfold nmV nmB at h2;rcases h2 with h2|h2
  ·omega
  ·have:bid nv j=bid nv k:=by omega
   have:=D0a hn this;omega
def Qv.imp {Q Q':Nat→Lf→Value→Prop} (h:∀ j x u,Q j x u→Q' j x u):∀ {l:List Lf} {j:Nat} {us:List Value},Qv Q j l us→Qv Q' j l us
 |[],_,[],_=>trivial
 |[],_,_::_,h'=>h'.elim
 |_::_,_,[],h'=>h'.elim
 |_::_,j,_::_,h'=>⟨h _ _ _ h'.1,Qv.imp h h'.2⟩
def Aja.later {P:Program} {S S':Sit} {w w':Nat→Value} {j:Nat} {x:Lf} {u:Value} (hw:w'=w) (hl:∀ x u,Fka x=true→Af P S .fz x u→Af P S' .fz x u) (h:Aja P S w j x u):Aja P S' w' j x u:=by
 subst hw
 cases x<;>first|exact h|exact⟨h.1,hl _ _ h.1 h.2⟩
def Lua.stay {cb hb:List (Nat×Nat)} {nv i j:Nat} {p:Par} {l:List Lf} {u:Value} {bs:List (Nat×Nat)} (hn:nv≤1000) (h:Ce X S S1 (exA nv i)) (hj:j<i) (hp:Lua X.P S cb hb nv j p l u bs):Lua X.P S1 cb hb nv j p l u bs:=by
 have hfz:∀ k,S.O k = .fz→S1.O k = .fz:=λ k hk=>(h.later.fz k hk).1
 have box:∀ {t t':Ty},Jka X.P S (bid nv j) t t' l u bs→Jka X.P S1 (bid nv j) t t' l u bs:=by
  rintro t t' ⟨b,h1,h2,h3,h4,h5,h6,h7,h8⟩;refine⟨b,h1,by rw[h.bb];exact h2,by rw[h.heads b _ h3];exact h3,h4,h5,h6,h7,?_⟩;rw[h.ph];exact h8.imp (λ n x u hx=>h.tms _ _ _ _ (D1a hn hj _).2 hx)
 cases p with
 |io ag t=>exact hp.elim
 |vw t h0=>
  obtain⟨h1,h2,h3,h4,c,vs,h5,h6,h7,h8⟩:=hp;refine⟨h1,h2,h3,h4,c,vs,h5,by rw[h.heads c.1 _ h6];exact h6,h7,h8.imp (λ j x u hx=>hx.later (by rw[h.ph]) (λ x u hs hx=>?_))⟩;exact Af.later h.later hx (λ k hk=>⟨hfz k hk,by rw[h.w]⟩)
 |val ag t=>
  obtain⟨h1,h2,h3,us,h4,h5⟩:=hp;exact⟨h1,h2,h3,us,h4,h5.imp (λ n x u hx=>h.tms _ _ _ _ (D1a hn hj _).1 hx)⟩
 |ptr t t'=>exact box hp
 |hid t t'=>exact box hp
 |rd t=>
  obtain⟨h1,r',x,k,o',cs,h2,h3,h4,h5,h6,h7,h8⟩:=hp;exact⟨h1,r',x,k,o',cs,h2,h3,h4,h5,hfz k h6,Ty.rep_mono hfz (λ k _=>by rw[h.w]) r' x cs h7,h8.mono (by rw[h.w])⟩
 |fn F m=>
  obtain⟨h1,h2,h3⟩:=hp;refine⟨h1,h2,?_⟩
  have:O5 S1=O5 S:=by funext b;unfold O5;rw[h.bb]
  rw[this];exact h3
def D2a:∀ {l m:List (Nat×Nat)},Hwa l m=true→l=m
 |[],[],_=>rfl
 |[],_::_,h=>by simp[Hwa]at h
 |_::_,[],h=>by simp[Hwa]at h
 |(a1,a2)::l,(b1,b2)::m,h=>by
  simp only[Hwa,Va]at h;have e1:a1=b1:=Vb h.1.1;have e2:a2=b2:=Vb h.1.2;rw[e1,e2,D2a h.2]
def O6 (hg:S.g=get A):∀ {bs:List (Nat×Nat)} {us:List Value},Nq S bs us→He A bs=true→us=bs.map (O5 S)
 |[],us,h,_=>h
 |c::bs,us,⟨u,us',e,⟨h1,h2⟩,h3⟩,ha=>by
  simp only[He,Va]at ha
  have e1:(S.g (H c.1)).1=c.2:=by rw[hg];exact Vb ha.1
  subst e;rw[Yc,O6 hg h3 ha.2,h2 e1];rfl
def Ut {ag:Bool} {s:Sv} (h:Fy ag s=true):∀ n,pth s n=if ag then [n] else []:=by
 intro n
 cases s with
 |tup vs=>simp[Fy,Bja]at h
 |one z=>cases ag<;>simp[Fy,Bja]at h ⊢;rfl
 |agg z=>cases ag<;>simp[Fy,Bja]at h ⊢;rfl
def Gma {x:Operand} {b v off:Nat} {t:Ty} {m:List Lf} {us:List Up} (h:Kt A x (.one (.bp b v off)) t=some (m,us)):False:=by
 unfold Kt Lw at h;split at h
 ·rename_i m0 vs0 ht
  have hm:m0=[.bp b v off]∨False:=by
   have e1:parts (.one (.bp b v off))=[.bp b v off]:=rfl;rw[e1]at ht;generalize Dx t=ts at ht
   cases ts with
   |nil=>simp[Ck]at ht
   |cons t ts=>
    cases ts with
    |cons t2 ts=>
     obtain⟨_,h2⟩:=H6 _ _ ht;simp at h2
    |nil=>
     cases t<;>first|(simp[Ck,P9,G5]at ht;done)|skip
     all_goals
      simp[Ck,N3,Gk,Hn]at ht;exact .inl ht.1.symm
  rcases hm with rfl|h0
  ·simp[A3]at h
  ·exact h0
 ·cases h
def Uu {A:Ab} {S:Sit} {X:Cx} {a:Act} (K:Ah X S a) (hg:S.g=get A) {b l0:Nat}:∀ (ts:List Ty) {j:Nat} {l m:List Lf} {us:List Value},U9 A b j ts l=some m→A5 X.P S (λ n => .pl l0 [n]) j l us→
  Na ts m∧m.length=ts.length∧Qv (Aja X.P S (λ j=>S.ph (C b j))) j m us
 |[],j,[],m,us,h,hl=>by
  simp only[U9,Vc]at h;subst h
  cases us with
  |nil=>exact⟨trivial,rfl,trivial⟩
  |cons=>exact hl.elim
 |[],j,_::_,m,us,h,hl=>by simp[U9]at h
 |t::ts,j,[],m,us,h,hl=>by cases t<;>simp[U9]at h
 |t::ts,j,x::l,m,us,h,hl=>by
  cases us with
  |nil=>exact hl.elim
  |cons u us=>
   have share:∀ {m':List Lf},Fka (G5 A x)=true→U9 A b (j+1) ts l=some m'→(∀ m'',Na (t::ts) (G5 A x::m'')↔((G5 A x).isOwn=false∧Na ts m''))→Na (t::ts) (G5 A x::m')∧(G5 A x::m').length=(t::ts).length∧Qv (Aja X.P S (λ j=>S.ph (C b j))) j (G5 A x::m') (u::us):=by
    intro m' hs hr hf;obtain⟨h1,h2,h3⟩:=Uu K hg ts hr hl.2;obtain⟨lab',h4⟩:=Kd K hg hl.1
    refine⟨(hf m').2 ⟨by cases hx:G5 A x<;>rw[hx]at hs<;>first|rfl|simp[Fka]at hs,h1⟩,by simp[h2],?_,h3⟩
    have h5:Af X.P S .fz (G5 A x) u:=by
     cases hx:G5 A x<;>rw[hx]at hs h4<;>first|exact Af.relab (lab' := .fz) rfl h4|simp[Fka]at hs
    cases hx:G5 A x<;>rw[hx]at hs h5<;>first|exact⟨rfl,h5⟩|simp[Fka]at hs
   cases t with
   |ow e r=>
    cases x<;>first|(simp[U9]at h;done)|skip
    rename_i p v;simp only[U9]at h;obtain⟨hq,h⟩:=cs h;simp only[Va]at hq;split at h
    ·rename_i y hy;split at h
     ·rename_i m' hr;cases h;obtain⟨h1,h2,h3⟩:=Uu K hg ts hr hl.2;have hal:Af X.P S (.pl l0 [j]) (.al p v) u:=hl.1;have hu:=hal.2 (by rw[hg];exact Vb hq.2)
      have hyo:∃ ys,y = .own e r ys:=by
       unfold P9 at hy;split at hy
       ·generalize Nat.beq e _=bb at hy;cases bb
        ·simp at hy
        rw[cond_true]at hy;split at hy
        ·simp only[Vc]at hy;exact⟨_,hy.symm⟩
        ·obtain⟨hno,hy⟩:=cs hy;split at hy
         ·simp only[Vc]at hy;exact⟨_,hy.symm⟩
         ·cases hy
       ·cases hy
      obtain⟨ys,rfl⟩:=hyo;refine⟨h1,by simp[h2],?_,h3⟩;show u=S.ph (C b j);rw[hu,Vb hq.1]
     ·cases h
    ·cases h
   |_=>
    simp only[U9]at h;obtain⟨hs,h⟩:=cs h;split at h
    ·rename_i m' hr;cases h;exact share hs hr (λ m''=>Psa)
    ·cases h
def Gna (hE:Fo X E) (K:Ah X S a) (hg:S.g=get A) {cb hb:List (Nat×Nat)} {nv i:Nat} {x:Operand} {s:Sv} {v:Value} {p:Par} {l:List Lf} {us:List Up} {bs:List Nat} (hx:(∃ T,opT E T A x=some s∧v=a.eval x)∨(∃ h:Nat×Nat,s = .one (.bp h.1 h.2 0)∧v=O5 S h)) (h:Mv A cb hb nv x p s=some (l,us,bs)):
  ∃ S1 bp,Ah X S1 a∧S1.g=get (ups A us)∧Ce X S S1 (exA nv i)∧bp.map Prod.fst=bs∧Lua X.P S1 cb hb nv i p l v bp:=by
 have box:∀ {t t':Ty} {b w:Nat},s = .one (.bp b w 0)→(match Ka A b w t t' with|some (m,us)=>some (m,us,[b])|none=>none)=some (l,us,bs)→∃ S1 bp,Ah X S1 a∧S1.g=get (ups A us)∧Ce X S S1 (exA nv i)∧bp.map Prod.fst=bs∧Jka X.P S1 (bid nv i) t t' l v bp:=by
  intro t t' b w hs h;split at h
  ·rename_i m us' hgive;cases h;obtain⟨g1,g2,g3,g4,g5,S1,K1,g6,G,hl⟩:=N7 K hg hgive (nmB (bid nv i));refine⟨S1,[(b,bid nv i)],K1,g6,Ce.trans (λ n q h=>h) (λ n q h=>⟨i,Vo _,.inr h⟩) (Ce.refl S (exA nv i)) G,rfl,b,rfl,?_,by rw[G.heads b _ g2];exact g2,g3,g5,g4,Ma hgive,by rw[G.ph];exact hl⟩;rw[G.bb];rcases hx with⟨T,h1,rfl⟩|⟨h',h1,rfl⟩
   ·obtain⟨pl,h2⟩:=Ed hE K hg h1;rw[hs]at h2;have h3:Af X.P S (.pl pl []) (.bp b w 0) (a.eval x):=h2;exact h3.2 g1
   ·rw[hs]at h1;simp only[Sv.one.injEq,Lf.bp.injEq]at h1;unfold O5;rw[← h1.1];rfl
  ·cases h
 unfold Mv at h;split at h
 ·rename_i t h0 ys;split at h
  ·rename_i c hc;split at h
   ·rename_i n m hp;obtain⟨hq,h⟩:=cs h;simp only[Va]at hq;split at h
    ·rename_i l0 hvw;cases h;rcases hx with⟨T,h1,rfl⟩|⟨h',h1,_⟩
     ·obtain⟨pl,h2⟩:=Ed hE K hg h1;obtain⟨vs,e1,e2⟩:∃ us:List Value,a.eval x = .agg us.toArray∧A5 X.P S (λ j => .pl pl [j]) 0 ys us:=h2;obtain⟨f1,f2,f3⟩:=Uu K hg _ hvw e2;exact⟨S,[],K,hg,Ce.refl S _,rfl,rfl,Vd hq.1.1,by rw[f2,G9],f1,c,vs,hc,by rw[hg,hp,Vb hq.2],e1,f3⟩
     ·cases h1
    ·cases h
   ·cases h
  ·cases h
 ·rename_i ag t;obtain⟨hq,h⟩:=cs h;split at h
  ·rename_i m us' hgive;cases h;rcases hx with⟨T,h1,rfl⟩|⟨h',h1,_⟩
   ·obtain⟨S1,K1,g1,G,h2,_,vs,hsh,hl⟩:=Qq hE K hg (.inl h1) (Qx hq) hgive (nmV i);have hp:=Ut hq;simp only[hp]at hl;exact⟨S1,[],K1,g1,Ce.trans (λ n q h=>h) (λ n q h=>⟨i,Vo _,.inl h⟩) (Ce.refl S (exA nv i)) G,rfl,rfl,h2,M9 hgive,vs,Jl hq hsh,hl⟩
   ·rw[h1]at hgive;exact(Gma hgive).elim
  ·cases h
 ·exact box rfl h
 ·exact box rfl h
 ·rename_i t r' y;cases hq:(decide (shp r'=shp t)&&Gd t)
  ·rw[hq]at h;simp at h
  rw[hq]at h;simp only[cond_true,Vc,Vu]at h;obtain⟨rfl,rfl,rfl⟩:=h;simp only[Va,decide_eq_true_eq]at hq;rcases hx with⟨T,h1,rfl⟩|⟨h',h1,_⟩
  ·obtain⟨pl,h2⟩:=Ed hE K hg h1;obtain⟨k,o',cs,e1,e2,e3,e4⟩:Af X.P S (.pl pl []) (.fp r' y 0) (a.eval x):=h2;exact⟨S,[],K,hg,Ce.refl S _,rfl,rfl,r',y,k,o',cs,rfl,hq.1,hq.2,e1,e2,e3,e4⟩
  ·cases h1
 ·rename_i F m F' bs';cases hq:(Nat.beq F F'&&Nat.beq m bs'.length&&Hwa bs' cb&&He A bs')
  ·rw[hq]at h;simp at h
  rw[hq]at h;simp only[cond_true,Vc,Vu]at h;obtain⟨rfl,rfl,rfl⟩:=h;simp only[Va]at hq;obtain⟨⟨⟨q1,q2⟩,q3⟩,q4⟩:=hq;have e1:F=F':=Vb q1;have e2:m=bs'.length:=Vb q2;have e3:=D2a q3;subst e1 e3;rcases hx with⟨T,h1,rfl⟩|⟨h',h1,_⟩
  ·obtain⟨pl,h2⟩:=Ed hE K hg h1;obtain⟨us',e4,e5⟩:Af X.P S (.pl pl []) (.fn F bs') (a.eval x):=h2;have e6:=O6 hg e5 q4;subst e6;exact⟨S,[],K,hg,Ce.refl S _,rfl,rfl,e2,e4⟩
  ·cases h1
 ·cases h
def Sy (hE:Fo X E) {cb hb:List (Nat×Nat)} {nv:Nat} (hn:nv≤1000):∀ (ps:List Par) {xs:List (TypeId×Operand)} {hs:List (Nat×Nat)} {S:Sit} {A:Ab} {ls:List (List Lf)} {us:List Up} {bs:List Nat} (i:Nat),Ah X S a→S.g=get A→Gz E cb hb nv A xs hs ps=some (ls,us,bs)→
  ∃ S1 bp,Ah X S1 a∧S1.g=get (ups A us)∧Ce X S S1 (exA nv i)∧bp.map Prod.fst=bs∧Us X.P S1 cb hb nv i ps ls (xs.map (λ x=>a.eval x.2)++hs.map (O5 S)) bp
 |[],xs,hs,S,A,ls,us,bs,i,K,hg,h=>by
  cases xs with
  |cons=>simp[Gz]at h
  |nil=>
   cases hs with
   |cons=>simp[Gz]at h
   |nil=>
    simp only[Gz,Vc,Vu]at h;obtain⟨rfl,rfl,rfl⟩:=h;exact⟨S,[],K,hg,Ce.refl S _,rfl,rfl⟩
 |p::ps,xs,hs,S,A,ls,us,bs,i,K,hg,h=>by
  have go:∀ {x:Operand} {s:Sv} {v:Value} {xs':List (TypeId×Operand)} {hs':List (Nat×Nat)} {l:List Lf} {u:List Up} {b:List Nat} {ls1:List (List Lf)} {us1:List Up} {bs1:List Nat},((∃ T,opT E T A x=some s∧v=a.eval x)∨(∃ h:Nat×Nat,s = .one (.bp h.1 h.2 0)∧v=O5 S h))→Mv A cb hb nv x p s=some (l,u,b)→Gz E cb hb nv (ups A u) xs' hs' ps=some (ls1,us1,bs1)→
    ∃ S1 bp,Ah X S1 a∧S1.g=get (ups A (u++us1))∧Ce X S S1 (exA nv i)∧bp.map Prod.fst=b++bs1∧Us X.P S1 cb hb nv i (p::ps) (l::ls1) (v::(xs'.map (λ x=>a.eval x.2)++hs'.map (O5 S))) bp:=by
   intro x s v xs' hs' l u b ls1 us1 bs1 hx h1 h2;obtain⟨S1,b1,K1,g1,G1,e1,p1⟩:=Gna (nv:=nv) (i:=i) hE K hg hx h1;obtain⟨S2,b2,K2,g2,G2,e2,p2⟩:=Sy hE hn ps (i+1) K1 g1 h2
   have hpv:O5 S1=O5 S:=by funext b;unfold O5;rw[G1.bb]
   rw[hpv]at p2;exact⟨S2,b1++b2,K2,by rw[Ae];exact g2,Ce.trans (λ _ _ h=>h) (λ n q ⟨j,h1,h2⟩=>⟨j,by omega,h2⟩) G1 G2,by rw[Oxa,e1,e2],b1,b2,rfl,p1.stay hn G2 (by omega),p2⟩
  cases xs with
  |cons x xs=>
   simp only[Gz]at h;split at h
   ·rename_i s hs1;split at h
    ·rename_i l u b hb;split at h
     ·rename_i ls1 us1 bs1 hrec;cases h;exact go (.inl ⟨x.1,hs1,rfl⟩) hb hrec
     ·cases h
    ·cases h
   ·cases h
  |nil=>
   cases hs with
   |nil=>simp[Gz]at h
   |cons h0 hs=>
    simp only[Gz]at h;split at h
    ·rename_i l u b hb;split at h
     ·rename_i ls1 us1 bs1 hrec;cases h;exact go (xs':=[]) (.inr ⟨h0,rfl,rfl⟩) hb hrec
     ·cases h
    ·cases h
end
end

section
attribute [local irreducible] C H
def lkF:List (Nat×Nat)→Nat→Option Nat
 |[],_=>none
 |c::l,x=>if c.1=x then some c.2 else lkF l x
def lkS:List (Nat×Nat)→Nat→Option Nat
 |[],_=>none
 |c::l,x=>if c.2=x then some c.1 else lkS l x
def Uv:∀ {l:List (Nat×Nat)} {b B:Nat},lkF l b=some B→(b,B)∈l
 |[],_,_,h=>by simp[lkF]at h
 |c::l,b,B,h=>by
  simp only[lkF]at h;split at h
  ·rename_i e;simp only[Vc]at h;rw[← e,← h];exact P6a
  ·exact Ve _ (Uv h)
def Xt:∀ {l:List (Nat×Nat)} {b B:Nat},(l.map Prod.fst).Nodup→(b,B)∈l→lkF l b=some B
 |[],_,_,_,h=>by simp at h
 |c::l,b,B,hn,h=>by
  rw[Yc,Ys]at hn;simp only[lkF];rcases Vk.1 h with rfl|h
  ·rw[if_pos rfl]
  ·rw[if_neg (λ e=>hn.1 (by rw[e];exact Yn h))];exact Xt hn.2 h
def Sz:∀ {l:List (Nat×Nat)} {b B:Nat},(l.map Prod.snd).Nodup→(b,B)∈l→lkS l B=some b
 |[],_,_,_,h=>by simp at h
 |c::l,b,B,hn,h=>by
  rw[Yc,Ys]at hn;simp only[lkS];rcases Vk.1 h with rfl|h
  ·rw[if_pos rfl]
  ·rw[if_neg (λ e=>hn.1 (by rw[e];exact Yn h))];exact Sz hn.2 h
def Jla:∀ {l:List (Nat×Nat)} {b b' B:Nat},(l.map Prod.snd).Nodup→(b,B)∈l→(b',B)∈l→b=b':=λ hn h h'=>by
 have e1:=Sz hn h;rw[Sz hn h']at e1
 simpa using e1.symm
def T0:∀ {l:List Nat},Ry l=true→l.Nodup
 |[],_=>by simp
 |b::l,h=>by
  simp only[Ry,Va,Wk,List.any_eq_false]at h;rw[Ys];exact⟨λ hb=>h.1 b hb (by rw[P5a]),T0 h.2⟩
def Hp (S:Sit) (L:List (Nat×Nat)):Nat→Lab:=λ k=>match S.O k with
 |.fz => .fz
 |.tm n q=>if n<10 then .no else if n % 2=0 then .pl ((n-10)/2) q else (match q with
  |[j] => .pl (C ((n-11)/2) j) []
  |_ => .no)
 |.bx b=>(match lkF L b with
  |some B=>if k=(S.bb b).1 then .bx B else .no
  |none => .no)
 |_ => .no
def Goa (S:Sit) (L:List (Nat×Nat)):Nat→Nat×Nat:=λ B=>match lkS L B with
 |some b=>((S.bb b).2,match (S.g (H b)).2 with | .one (.hd n)=>n|_=>0)
 |none=>(0,0)
def Jma:Lab→Bool
 |.tm _ _=>true
 |_=>false
def nmO:Lab→Lab
 |.fz => .fz
 |.tm n q => .tm n q
 |.no => .no
 |_ => .tm 99999 []
def Rs (S:Sit) (O':Nat→Lab):Nat→Lab:=λ k=>if k<S.w.heap.size∧Jma (S.O k)=false then S.O k else nmO (O' k)
section
variable {X:Cx} {S S1 S2:Sit} {a:Act} {E:En} {A:Ab} {o:Oper} {R:Type} {Kc:List Up→Option R} {r:R}
def Hb {S:Sit} {L:List (Nat×Nat)} {k:Nat} (h:S.O k = .fz):Hp S L k = .fz:=by simp[Hp,h]
def D3a {S:Sit} {L:List (Nat×Nat)} {k b B:Nat} (h:S.O k = .bx b) (hl:lkF L b=some B) (hk:k=(S.bb b).1):Hp S L k = .bx B:=by
 unfold Hp;rw[h];simp[hl,← hk]
def I6a {S:Sit} {L:List (Nat×Nat)} {k i:Nat} {q:List Nat} (h:S.O k = .tm (nmV i) q):Hp S L k = .pl i q:=by
 unfold Hp nmV at *;rw[h];simp only;rw[if_neg (by omega),if_pos (by omega),show (10+2*i-10)/2=i by omega]
def I7a {S:Sit} {L:List (Nat×Nat)} {k B j:Nat} (h:S.O k = .tm (nmB B) [j]):Hp S L k = .pl (C B j) []:=by
 unfold Hp nmB at *;rw[h];simp only;rw[if_neg (by omega),if_neg (by omega),show (11+2*B-11)/2=B by omega]
def Es:∀ {m:List Lf},A3 m=true→∀ y∈m,Df y=true
 |[],_=>by simp
 |x::m,h=>by
  intro y hy;obtain⟨h1,h2⟩:=Ic h;rcases Vk.1 hy with rfl|hy
  ·rcases h2 with⟨_,rfl⟩|⟨_,_,_,rfl⟩|⟨_,_,_,rfl⟩<;>rfl
  ·exact Es h1 y hy
def Jz:∀ l:List Lf,(∀ y∈l,Df y=true)→A3 l=true
 |[],_=>rfl
 |x::l,h=>by
  have h1:=h x (by simp);have h2:=Jz l (λ y hy=>h y (Ve _ hy))
  cases x<;>first|(simp[Df]at h1;done)|simpa[A3] using h2
def Qy {P:Program} {S:Sit} {cb:List (Nat×Nat)} {nv:Nat} (hn:nv≤1000):∀ (ps:List Par) {i:Nat} {ls:List (List Lf)} {us:List Value} {bp:List (Nat×Nat)},Us P S cb cb nv i ps ls us bp→
  (∀ c∈bp,∃ j,i≤j∧j<i+ps.length∧c.2=bid nv j)∧(bp.map Prod.snd).Nodup∧(∀ c∈bp,∃ n,(S.g (H c.1)).2 = .one (.hd n))∧us.length=ps.length
 |[],i,[],[],bp,h=>by
  have:bp=[]:=h;subst this;exact⟨by simp,by simp,by simp,rfl⟩
 |[],i,_::_,_,_,h=>h.elim
 |[],i,[],_::_,_,h=>h.elim
 |p::ps,i,[],_,_,h=>h.elim
 |p::ps,i,_::_,[],_,h=>h.elim
 |p::ps,i,l::ls,u::us,bp,h=>by
  obtain⟨b1,b2,rfl,h1,h2⟩:=h;obtain⟨i1,i2,i3,i4⟩:=Qy hn ps h2
  have h3:b1=[]∨∃ b,b1=[(b,bid nv i)]∧∃ n,(S.g (H b)).2 = .one (.hd n):=by
   cases p with
   |io ag t=>exact h1.elim
   |val ag t=>exact .inl h1.1
   |vw t h0=>exact .inl h1.1
   |rd t=>exact .inl h1.1
   |fn F m=>exact .inl h1.1
   |ptr t t'=>obtain⟨b,e,_,h4,_⟩:=h1;exact .inr ⟨b,e,_,h4⟩
   |hid t t'=>obtain⟨b,e,_,h4,_⟩:=h1;exact .inr ⟨b,e,_,h4⟩
  have i1':∀ c∈b2,∃ j,i≤j∧j<i+(p::ps).length∧c.2=bid nv j:=λ c hc=>by
   obtain⟨j,j1,j2,j3⟩:=i1 c hc;exact⟨j,by omega,by simp only[Vg];omega,j3⟩
  rcases h3 with rfl|⟨b,rfl,n,hb⟩
  ·exact⟨i1',i2,i3,by simp[i4]⟩
  ·refine⟨λ c hc=>?_,?_,λ c hc=>?_,by simp[i4]⟩
   ·rcases Vk.1 hc with rfl|hc
    ·exact⟨i,Vo _,by simp only[Vg];omega,rfl⟩
    ·exact i1' c hc
   ·rw[Ya,Yc,Ys];refine⟨λ hm=>?_,i2⟩;obtain⟨c,hc,e⟩:=Za.1 hm;obtain⟨j,j1,j2,j3⟩:=i1 c hc;rw[j3]at e;have:=D0a hn e;omega
   ·rcases Vk.1 hc with rfl|hc
    ·exact⟨n,hb⟩
    ·exact i3 c hc
def D4a (K:Ah X S a) {cb L:List (Nat×Nat)} {nv:Nat} (hn1:(L.map Prod.fst).Nodup) (hn2:(L.map Prod.snd).Nodup):∀ (ps:List Par) {i:Nat} {ls ls':List (List Lf)} {us:List Value} {bp:List (Nat×Nat)},Us X.P S cb cb nv i ps ls us bp→Mk (ps.map Par.ty) ls ls'→(∀ c∈bp,c∈L)→Gg nv i ps=true→
  Hj X.P (bare (Hp S L) S.w) (Goa S L) nv (cb.map (O5 S)) i ps ls' us
 |[],i,[],[],[],bp,_,_,_,_=>trivial
 |[],i,[],_::_,_,bp,_,hm,_,_=>hm.elim
 |[],i,_::_,_,_,bp,h,_,_,_=>h.elim
 |[],i,[],[],_::_,bp,h,_,_,_=>h.elim
 |p::ps,i,[],_,_,bp,h,_,_,_=>h.elim
 |p::ps,i,_::_,_,[],bp,h,_,_,_=>h.elim
 |p::ps,i,l::ls,[],_::_,bp,_,hm,_,_=>hm.elim
 |p::ps,i,l::ls,l'::ls',u::us,bp,h,hm,hb,hp=>by
  obtain⟨b1,b2,rfl,h1,h2⟩:=h;obtain⟨⟨y,hy,rfl⟩,hm2⟩:=hm
  have hp2:Gg nv (i+1) ps=true:=by cases p<;>simp only[Gg,Va]at hp<;>exact hp.2
  refine⟨?_,D4a K hn1 hn2 ps h2 hm2 (λ b hb'=>hb b (Vi _ hb')) hp2⟩
  have box:∀ {t t':Ty} {y:t.den},mkW t l=some y→Jka X.P S (bid nv i) t t' l u b1→Pn X.P (bare (Hp S L) S.w) (Goa S L) (bid nv i) t (A4 t y) u:=by
   rintro t t' y hy ⟨b,e1,e2,e3,e4,e5,e6,e7,e8⟩;have hL:(b,bid nv i)∈L:=hb _ (by rw[e1];simp);obtain⟨g1,c,e,g2,g3,g4,g5⟩:=K.box b _ e3;refine⟨(S.bb b).1,(S.bb b).2,c,e,(List.range t.sz).map (λ j=>S.ph (C b (0+j))),e2,g2,?_,?_,g4,g1,Dw t y,λ j hj=>?_,?_⟩
   ·exact D3a g3 (Xt hn1 hL) rfl
   ·show Goa S L _=_;unfold Goa;rw[Sz hn2 hL];simp only[e3]
   ·rw[g5 j hj];simp[hj]
   ·have h3:A5 X.P (bare (Hp S L) S.w) (λ j => .pl (C (bid nv i) j) []) 0 l ((List.range t.sz).map λ j=>S.ph (C b (0+j))):=
     A5.impS (S1:=S) (Es e6) (λ n x u hx h=>Af.bare (S1:=S) (S2:=bare (Hp S L) S.w) (lab := .tm (nmB (bid nv i)) [n]) hx rfl (λ k hk=>Hb hk) (λ k hk=>I7a hk) h) e8
    exact H3 e7 hy h3
  cases p with
  |io ag t=>exact h1.elim
  |vw t h0=>
   obtain⟨_,e1,e2,e3,c,vs,e4,e5,e6,e7⟩:=h1;obtain⟨g1,cc,e,g2,g3,g4,g5⟩:=K.box c.1 _ e5;refine⟨e1,vs,(S.bb c.1).1,(S.bb c.1).2,cc,e,e6,?_,g2,g1,Dw t y,?_⟩
   ·rw[Et]at e4;rw[Pda,e4];rfl
   ·have hcell:∀ j,j<t.sz→cc.getD ((S.bb c.1).2+j) undef=S.ph (C c.1 j):=λ j hj=>by
     have:=g5 j hj;simp[Wg,this]
    have h2:=Lta (Q:=λ j x u=>j<t.sz→Aja X.P S (λ j=>S.ph (C c.1 j)) j x u) ?_ ?_ e3 hy (j:=0) (us:=vs) (Qv.imp (Q:=Aja X.P S (λ j=>S.ph (C c.1 j))) (Q':=λ j x u=>j<t.sz→Aja X.P S (λ j=>S.ph (C c.1 j)) j x u) (λ j x u h _=>h) e7)
    ·have key:∀ (l:List Lf) (j:Nat) (us:List Value),j+l.length≤t.sz→Qv (λ j x u=>j<t.sz→Aja X.P S (λ j=>S.ph (C c.1 j)) j x u) j l us→Qv (Aja X.P (bare (Hp S L) S.w) (λ j=>cc.getD ((S.bb c.1).2+j) undef)) j l us:=by
      intro l
      induction l with
      |nil=>intro j us _ h;cases us<;>first|trivial|exact h.elim
      |cons x l ih=>
       intro j us hj h;simp only[Vg]at hj
       cases us with
       |nil=>exact h.elim
       |cons u us=>
        refine⟨?_,ih (j+1) us (by omega) h.2⟩;have h3:=h.1 (by omega)
        cases x<;>first|(show u=cc.getD ((S.bb c.1).2+j) undef;rw[hcell j (by omega)];exact h3)|(refine⟨h3.1,?_⟩;have h4:=h3.1;simp[Fka]at h4;done)|skip
        ·exact⟨rfl,Af.bare (S1:=S) (S2:=bare (Hp S L) S.w) rfl rfl (λ k hk=>Hb hk) (λ k hk=>Hb hk) h3.2⟩
        ·exact⟨rfl,Af.bare (S1:=S) (S2:=bare (Hp S L) S.w) rfl rfl (λ k hk=>Hb hk) (λ k hk=>Hb hk) h3.2⟩
     exact key _ _ _ (by rw[Dw];show 0+t.sz≤t.sz;omega) h2
    ·intro j e r r' xs ys u _ h hj;exact h hj
    ·intro j e r r' xs ys u hc h hj;exact⟨rfl,Kz hc (h hj).2⟩
  |val ag t=>
   obtain⟨_,e2,e3,vs,e4,e5⟩:=h1;refine⟨vs,e4,H3 e3 hy ?_⟩;exact A5.impS (S1:=S) (Es e2) (λ n x u hx h=>Af.bare (S1:=S) (S2:=bare (Hp S L) S.w) hx rfl (λ k hk=>Hb hk) (λ k hk=>I6a hk) h) e5
  |ptr t t'=>
   simp only[Gg,Va]at hp;exact⟨Vd hp.1,box hy h1⟩
  |hid t t'=>
   simp only[Gg,Va]at hp;exact⟨Vd hp.1,box hy h1⟩
  |rd t=>
   obtain⟨_,r',x,k,o',cs,rfl,e3,e4,e5,e6,e7,e8⟩:=h1;have h3:=Np hy (I8 r' x cs e7);exact⟨y,k,o',cs,Apa t y,e5,Hb e6,Ty.rep_mono (λ k hk=>Hb hk) (λ _ _=>rfl) t y cs h3,e8⟩
  |fn F m=>
   obtain⟨_,e2,e3⟩:=h1;exact⟨e3,by rw[Yj,e2]⟩
def Lva (K:Ah X S a) {cb L:List (Nat×Nat)} {nv:Nat} (hn:nv≤1000) {ps:List Par} {ls:List (List Lf)} {us:List Value} (h:Us X.P S cb cb nv 0 ps ls us L):
  ∀ k b,Hp S L k = .bx b→Lpa nv ps.length b∧(∃ c e f,S.w.heap[k]? = some (.cells c e f))∧∀ k',Hp S L k' = .bx b→k'=k:=by
 obtain⟨i1,i2,i3,_⟩:=Qy hn ps h
 have key:∀ k B,Hp S L k = .bx B→∃ b,(b,B)∈L∧k=(S.bb b).1:=by
  intro k B hk;unfold Hp at hk;split at hk
  ·cases hk
  ·split at hk
   ·cases hk
   ·split at hk
    ·cases hk
    ·split at hk<;>cases hk
  ·split at hk
   ·rename_i b heq _ B' hl;split at hk
    ·rename_i hkb;cases hk;exact⟨b,Uv hl,hkb⟩
    ·cases hk
   ·cases hk
  ·cases hk
 intro k B hk;obtain⟨b,hb,hkb⟩:=key k B hk;obtain⟨n,hh⟩:=i3 _ hb;obtain⟨_,c,e,g2,_⟩:=K.box b n hh;obtain⟨j,_,j2,j3⟩:=i1 _ hb;refine⟨⟨j,by omega,j3⟩,⟨c,e,(0,0),by rw[hkb];exact g2⟩,λ k' hk'=>?_⟩;obtain⟨b',hb',hkb'⟩:=key k' B hk';rw[hkb,hkb',Jla i2 hb hb']
def Pr {S:Sit} {L:List (Nat×Nat)} {rg:Nat→Nat×Nat} {O':Nat→Lab} {w':World} (hF:Fr (Hp S L) S.w rg O' w'):
  (∀ k,k<S.w.heap.size→Jma (S.O k)=false→Rs S O' k=S.O k∧((∀ c∈L,k≠(S.bb c.1).1)→w'.heap[k]? = S.w.heap[k]?))∧
  (∀ k,O' k = .fz→Rs S O' k = .fz)∧(∀ k n q,O' k = .tm n q→Rs S O' k = .tm n q):=by
 have cases3:∀ k,k<S.w.heap.size→Jma (S.O k)=false→(O' k = .fz∧S.O k = .fz∧w'.heap[k]? = S.w.heap[k]?)∨(O' k = .no∧w'.heap[k]? = S.w.heap[k]?)∨(∃ c∈L,O' k = .bx c.2∧k=(S.bb c.1).1):=by
  intro k hk ht;have no:Hp S L k = .no→(O' k = .no∧w'.heap[k]? = S.w.heap[k]?):=λ h=>hF.no k hk h
  cases hO:S.O k with
  |fz=>
   have:=hF.fz k hk (Hb hO);exact .inl ⟨this.1,rfl,this.2⟩
  |no=>exact .inr (.inl (no (by simp[Hp,hO])))
  |pl l p=>exact .inr (.inl (no (by simp[Hp,hO])))
  |tm n q=>rw[hO]at ht;simp[Jma]at ht
  |bx b=>
   cases hl:lkF L b with
   |none=>exact .inr (.inl (no (by simp[Hp,hO,hl])))
   |some B=>
    by_cases hb:k=(S.bb b).1
    ·have h2:Hp S L k = .bx B:=by
      unfold Hp;rw[hO];simp only;rw[hl];exact if_pos hb
     exact .inr (.inr ⟨(b,B),Uv hl,(hF.bx k B hk h2).1,hb⟩)
    ·refine .inr (.inl (no ?_));unfold Hp;rw[hO];simp only;rw[hl];exact if_neg hb
 refine⟨λ k hk ht=>⟨by unfold Rs;rw[if_pos ⟨hk,ht⟩],λ hnb=>?_⟩,λ k hk=>?_,λ k n q hk=>?_⟩
 ·rcases cases3 k hk ht with h|h|⟨c,h1,_,h2⟩
  ·exact h.2.2
  ·exact h.2
  ·exact absurd h2 (hnb c h1)
 ·unfold Rs;split
  ·rename_i hc;rcases cases3 k hc.1 hc.2 with h|h|⟨c,_,h,_⟩
   ·exact h.2.1
   ·rw[hk]at h;cases h.1
   ·rw[hk]at h;cases h
  ·rw[hk];rfl
 ·unfold Rs;split
  ·rename_i hc;rcases cases3 k hc.1 hc.2 with h|h|⟨c,_,h,_⟩
   ·rw[hk]at h;cases h.1
   ·rw[hk]at h;cases h.1
   ·rw[hk]at h;cases h
  ·rw[hk];rfl
def Lwa (w w':World) (hsz:w.heap.size≤w'.heap.size):∀ ks:List Nat,∃ w1:World,w1 = { w' with heap:=w1.heap }∧w1.heap.size=w'.heap.size∧(∀ k∈ks,k<w.heap.size→w1.heap[k]? = w.heap[k]?)∧∀ k,k∉ks→w1.heap[k]? = w'.heap[k]?
 |[]=>⟨w',rfl,rfl,by simp,λ _ _=>rfl⟩
 |k0::ks=>by
  obtain⟨w1,h1,h2,h3,h4⟩:=Lwa w w' hsz ks
  by_cases hk:k0<w.heap.size
  ·refine⟨{ w' with heap:=w1.heap.setIfInBounds k0 w.heap[k0] },rfl,by simp[h2],λ k hm hkl=>?_,λ k hm=>?_⟩
   ·show (w1.heap.setIfInBounds k0 w.heap[k0])[k]? = _
    by_cases e:k=k0
    ·subst e;rw[Array.getElem?_setIfInBounds_self,if_pos (by omega),Zr hk]
    ·rw[Zu (Pca e)];exact h3 k ((Vk.1 hm).resolve_left e) hkl
   ·show (w1.heap.setIfInBounds k0 w.heap[k0])[k]? = _;rw[Zu (λ e=>hm (by rw[e];exact P6a))];exact h4 k (λ h=>hm (Ve _ h))
  ·refine⟨w1,h1,h2,λ k hm hkl=>?_,λ k hm=>h4 k (λ h=>hm (Ve _ h))⟩;rcases Vk.1 hm with rfl|hm
   ·exact absurd hkl hk
   ·exact h3 k hm hkl
structure Bk where
 b:Nat
 n:Nat
 l:List Lf
 us:List Value
def Bk.Ok (P:Program) (S:Sit) (w':World) (d:Bk):Prop:=
 ∃ c c' e,(S.g (H d.b)).2 = .one (.hd d.l.length)∧S.w.heap[(S.bb d.b).1]? = some (.cells c e (0,0))∧w'.heap[(S.bb d.b).1]? = some (.cells c' e (0,0))∧c'.size=c.size∧
  (∀ i,(i<(S.bb d.b).2∨(S.bb d.b).2+d.l.length≤i)→c'[i]? = c[i]?)∧(∀ j,j<d.l.length→c'[(S.bb d.b).2+j]? = d.us[j]?)∧A3 d.l=true∧A5 P S (λ j => .tm d.n [j]) 0 d.l d.us
def Xu {w':World}:∀ (D:List Bk) {S:Sit} {A:Ab},Ah X S a→S.g=get A→(∀ d∈D,d.Ok X.P S w')→(D.map Bk.b).Nodup→(D.map Bk.n).Nodup→(∀ d∈D,1001≤d.n∧d.n<5000)→(∀ k,(∀ d∈D,k≠(S.bb d.b).1)→w'.heap[k]? = S.w.heap[k]?)→S.w = { w' with heap:=S.w.heap }→
  ∃ S',Ah X S' a∧S'.g=get (ups A (D.flatMap λ d=>Bi d.b 0 d.l))∧S'.w=w'∧(∀ k,S.O k = .fz→S'.O k = .fz)∧(∀ n q k,0<n→n<1001→S.O k = .tm n q→S'.O k = .tm n q)∧(∀ n q x u,0<n→n<1001→Df x=true→Af X.P S (.tm n q) x u→Af X.P S' (.tm n q) x u)
 |[],S,A,K,hg,_,_,_,_,hh,hw=>by
  have e1:w'.heap=S.w.heap:=Array.ext_getElem? λ k=>hh k (by simp);refine⟨S,K,hg,?_,λ _ h=>h,λ _ _ _ _ _ h=>h,λ _ _ _ _ _ _ _ h=>h⟩;rw[hw,← e1]
 |d::D,S,A,K,hg,hD,hb,hn,hr,hh,hw=>by
  obtain⟨c,c',e,d1,d2,d3,d4,d5,d6,d7,d8⟩:=hD d (by simp);rw[Yc,Ys]at hb hn;obtain⟨r1,r2⟩:=hr d (by simp)
  let hh0:Nat→List Nat→Option Lab:=λ n q=>if n=d.n then some (.tm 0 q) else if n=0 then some (.tm 99998 q) else none
  obtain⟨K1,L1⟩:=K.names hh0 (by
   intro n q;simp only[hh0];split
   ·simp
   ·split<;>simp)
  have keep1:∀ n q k,n≠d.n→n≠0→S.O k = .tm n q→atO S.O hh0 k = .tm n q:=λ n q k h1 h2 hk=>H1 hk (by simp[hh0,h1,h2]);have hl0:A5 X.P { S with O:=atO S.O hh0 } (λ j => .tm 0 [j]) 0 d.l d.us:=d8.imp (λ j x u hx=>hx.later L1 (λ k hk=>⟨F3 hk (by simp[hh0]),rfl⟩));have hul:=d8.len;obtain⟨hn9,c0,e0,b1,b2,b3,b4⟩:=K.box d.b d.l.length d1;rw[d2]at b1;cases b1;obtain⟨K2,L2⟩:=K1.cells (b:=d.b) (n:=d.l.length) (off:=0) (q:=λ j=>[j]) d1 (by omega) d2 hl0 (λ j hj=>rfl) (H2 d7);generalize hwS:({ S with O:=atO S.O hh0 }:Sit).w.setRow (({ S with O:=atO S.O hh0 }:Sit).bb d.b).1 (c.toList.take ((({ S with O:=atO S.O hh0 }:Sit).bb d.b).2+0)++d.us++c.toList.drop ((({ S with O:=atO S.O hh0 }:Sit).bb d.b).2+0+d.us.length)).toArray=w2 at K2 L2;have hwS':S.w.setRow (S.bb d.b).1 (c.toList.take ((S.bb d.b).2+0)++d.us++c.toList.drop ((S.bb d.b).2+0+d.us.length)).toArray=w2:=hwS
  have harr:(c.toList.take ((S.bb d.b).2+0)++d.us++c.toList.drop ((S.bb d.b).2+0+d.us.length)).toArray=c':=by
   refine Array.ext_getElem? λ j=>?_;have hct:c.toList.length=c.size:=Yh
   have ht:(c.toList.take ((S.bb d.b).2+0)).length=(S.bb d.b).2:=by rw[Vl,hct];omega
   rw[Pha];have hcj:∀ i,c.toList[i]? = c[i]? := λ i=>Yv
   by_cases h1:j<(S.bb d.b).2
   ·rw[Vj,Yf (by omega),Wd,if_pos (by omega),hcj];exact(d5 j (.inl h1)).symm
   ·by_cases h2:j<(S.bb d.b).2+d.l.length
    ·rw[Yf (by rw[Vh,ht];omega),Yd (by omega),ht];have:=d6 (j-(S.bb d.b).2) (by omega);rw[show (S.bb d.b).2+(j-(S.bb d.b).2)=j by omega]at this;exact this.symm
    ·rw[Yd (by rw[Vh,ht];omega),Vh,ht,Xs,hcj,hul];rw[show (S.bb d.b).2+0+d.l.length+(j-((S.bb d.b).2+d.l.length))=j by omega];exact(d5 j (.inr (by omega))).symm
  have hw2k:w2.heap[(S.bb d.b).1]? = w'.heap[(S.bb d.b).1]?:=by
   rw[← hwS',setRow_heap _ _ _ _ _ _ d2,harr,d3]
  have hw2o:∀ k,k≠(S.bb d.b).1→w2.heap[k]? = S.w.heap[k]? := λ k hk=>by rw[← hwS'];exact setRow_other _ _ _ _ hk
  have keep2:∀ n q k,n≠d.n→n≠0→S.O k = .tm n q→(Qo { S with O:=atO S.O hh0 } (P5 d.b 0) d.b 0 d.l d.us w2).O k = .tm n q:=λ n q k h1 h2 hk=>
   H1 (h:=P5 d.b 0) (keep1 n q k h1 h2 hk) (by simp[P5,h2])
  have hdist:∀ d'∈D,d'.b≠d.b∧d'.n≠d.n:=λ d' hd'=>⟨λ e=>hb.1 (by rw[← e];exact Yn hd'),λ e=>hn.1 (by rw[← e];exact Yn hd')⟩
  have hblk:∀ d'∈D,(S.bb d'.b).1≠(S.bb d.b).1:=λ d' hd' e1=>by
   obtain⟨c1,c1',e2,x1,_⟩:=hD d' (Ve _ hd');obtain⟨_,_,_,_,y2,_⟩:=K.box d'.b _ x1;rw[e1,b2]at y2;simp only[Vc,Lab.bx.injEq]at y2;exact(hdist d' hd').1 y2.symm
  have hsame:∀ n q x u,n≠d.n→n≠0→Df x=true→Af X.P S (.tm n q) x u→Af X.P (Qo { S with O:=atO S.O hh0 } (P5 d.b 0) d.b 0 d.l d.us w2) (.tm n q) x u:=λ n q x u h1 h2 _ hx=>
   (hx.later L1 (lab' := .tm n q) (λ k hk=>⟨keep1 n q k h1 h2 hk,rfl⟩)).later L2 (λ k hk=>by
    have hk':atO S.O hh0 k = .tm n q:=hk;refine⟨H1 (h:=P5 d.b 0) hk' (by simp[P5,h2]),hw2o k (λ e1=>?_)⟩;rw[e1]at hk';rw[Al b2 (by simp)]at hk'
    cases hk')
  obtain⟨S3,K3,g3,w3,o3,t3,s3⟩:=Xu D (A:=ups A (Bi d.b 0 d.l)) K2 (by
   show Ib S.g d.b 0 d.l=_
   rw[Fq,← hg]) (λ d' hd'=>by
   obtain⟨c1,c1',e2,x1,x2,x3,x4,x5,x6,x7,x8⟩:=hD d' (Ve _ hd');obtain⟨z1,z2⟩:=hr d' (Ve _ hd');refine⟨c1,c1',e2,?_,(hw2o _ (hblk d' hd')).trans x2,x3,x4,x5,x6,x7,?_⟩
   ·show (Ib S.g d.b 0 d.l (H d'.b)).2=_;unfold Ib;rw[if_neg (D9 (by omega))];exact x1
   ·exact A5.impS (Es x7) (λ n x u hx h=>hsame _ _ x u (hdist d' hd').2 (by omega) hx h) x8) hb.2 hn.2 (λ d' hd'=>hr d' (Ve _ hd')) (λ k hk=>by
   by_cases h1:k=(S.bb d.b).1
   ·rw[h1];exact hw2k.symm
   ·show w'.heap[k]? = w2.heap[k]?;rw[hw2o k h1]
    exact hh k (λ d' hd'=>by
     rcases Vk.1 hd' with rfl|hd'
     ·exact h1
     ·exact hk d' hd')) (by
   have h5:w2 = { S.w with heap:=w2.heap }:=by rw[← hwS'];rfl
   have h6:({ S.w with heap:=w2.heap }:World) = { w' with heap:=w2.heap }:=by rw[hw]
   exact h5.trans h6)
  refine⟨S3,K3,?_,w3,λ k hk=>o3 k (Al (h:=P5 d.b 0) (Al hk (by simp)) (by simp)),λ n q k h1 h2 hk=>t3 n q k h1 h2 (keep2 n q k (by omega) (by omega) hk),λ n q x u h1 h2 hx h=>s3 n q x u h1 h2 hx (hsame n q x u (by omega) (by omega) hx h)⟩;rw[g3,List.flatMap_cons,Ae]
def Qz {P:Program} {S Sb:Sit} {cb:List (Nat×Nat)} {nv:Nat}:∀ (ps:List Par) {i:Nat} {ls lb:List (List Lf)} {us:List Value} {bp:List (Nat×Nat)} {ws:List Up},Us P S cb cb nv i ps ls us bp→Ha P Sb i ps us lb→(∀ l∈lb,∀ y∈l,Df y=true)→A9a (bp.map Prod.fst) lb=some ws→
  ∃ D:List Bk,D.map Bk.b=bp.map Prod.fst∧ws=D.flatMap (λ d=>Bi d.b 0 d.l)∧(D.map Bk.n).Nodup∧
   ∀ d∈D,∃ j B t c e,i≤j∧j<i+ps.length∧d.n=1001+j∧(d.b,B)∈bp∧(S.g (H d.b)).2 = .one (.hd t)∧d.l.length=t∧A3 d.l=true∧Sb.w.heap[(S.bb d.b).1]? = some (.cells c e (0,0))∧(∀ j,j<t→c[(S.bb d.b).2+j]? = d.us[j]?)∧A5 P Sb (λ j => .tm d.n [j]) 0 d.l d.us
 |[],i,[],lb,[],bp,ws,h,hb,_,hw=>by
  have e1:bp=[]:=h;have e2:lb=[]:=hb;subst e1 e2;simp only[List.map_nil,A9a,Vc]at hw;subst hw;exact⟨[],rfl,rfl,by simp,by simp⟩
 |[],i,_::_,_,_,_,_,h,_,_,_=>h.elim
 |[],i,[],_,_::_,_,_,h,_,_,_=>h.elim
 |p::ps,i,[],_,_,_,_,h,_,_,_=>h.elim
 |p::ps,i,_::_,_,[],_,_,h,_,_,_=>h.elim
 |p::ps,i,l::ls,lb,u::us,bp,ws,h,hb,hs,hw=>by
  obtain⟨b1,b2,rfl,h1,h2⟩:=h
  have skip:b1=[]→Ha P Sb (i+1) ps us lb→∃ D:List Bk,D.map Bk.b=(b1++b2).map Prod.fst∧ws=D.flatMap (λ d=>Bi d.b 0 d.l)∧(D.map Bk.n).Nodup∧
   ∀ d∈D,∃ j B t c e,i≤j∧j<i+(p::ps).length∧d.n=1001+j∧(d.b,B)∈b1++b2∧(S.g (H d.b)).2 = .one (.hd t)∧d.l.length=t∧A3 d.l=true∧Sb.w.heap[(S.bb d.b).1]? = some (.cells c e (0,0))∧(∀ j,j<t→c[(S.bb d.b).2+j]? = d.us[j]?)∧A5 P Sb (λ j => .tm d.n [j]) 0 d.l d.us:=by
   intro e1 hb2;subst e1;rw[Wf]at hw ⊢;obtain⟨D,h3,h4,h5,h6⟩:=Qz ps h2 hb2 hs hw
   exact⟨D,h3,h4,h5,λ d hd=>by
    obtain⟨j,B,t,c,e,j1,j2,rest⟩:=h6 d hd
    exact⟨j,B,t,c,e,by omega,by simp only[Vg];omega,rest⟩⟩
  have box:∀ {t t':Ty} {lb':List (List Lf)} {l':List Lf},lb=l'::lb'→Jka P S (bid nv i) t t' l u b1→Po P Sb i t' l' u→Ha P Sb (i+1) ps us lb'→∃ D:List Bk,D.map Bk.b=(b1++b2).map Prod.fst∧ws=D.flatMap (λ d=>Bi d.b 0 d.l)∧(D.map Bk.n).Nodup∧
   ∀ d∈D,∃ j B t c e,i≤j∧j<i+(p::ps).length∧d.n=1001+j∧(d.b,B)∈b1++b2∧(S.g (H d.b)).2 = .one (.hd t)∧d.l.length=t∧A3 d.l=true∧Sb.w.heap[(S.bb d.b).1]? = some (.cells c e (0,0))∧(∀ j,j<t→c[(S.bb d.b).2+j]? = d.us[j]?)∧A5 P Sb (λ j => .tm d.n [j]) 0 d.l d.us:=by
   rintro t t' lb' l' rfl ⟨b,e1,e2,e3,e4,_⟩ ⟨k,o',c,e,vs,f1,f2,f3,f4,f5⟩ hb2;subst e1;rw[e2]at f1;cases f1;simp only[Ya,Yc,A9a]at hw;split at hw
   ·rename_i ws' hws';cases hw;obtain⟨D,h3,h4,h5,h6⟩:=Qz ps h2 hb2 (λ l hl=>hs l (Ve _ hl)) hws';refine⟨⟨b,1001+i,l',vs⟩::D,by simp[h3],by rw[List.flatMap_cons,h4],?_,λ d hd=>?_⟩
    ·rw[Yc,Ys];refine⟨λ hm=>?_,h5⟩;obtain⟨d,hd,e5⟩:=Za.1 hm;obtain⟨j,_,_,_,_,j1,_,j3,_⟩:=h6 d hd;have e6:d.n=1001+i:=e5;omega
    ·rcases Vk.1 hd with rfl|hd
     ·exact⟨i,bid nv i,t.sz,c,e,Vo _,by simp only[Vg];omega,rfl,by simp,e3,by rw[f3,e4],Jz _ (hs l' (by simp)),f2,λ j hj=>f4 j (by omega),f5⟩
     ·obtain⟨j,B,t,c,e,j1,j2,j3,j4,rest⟩:=h6 d hd;exact⟨j,B,t,c,e,by omega,by simp only[Vg];omega,j3,Ve _ j4,rest⟩
   ·cases hw
  cases p with
  |io ag t=>exact h1.elim
  |val ag t=>exact skip h1.1 hb
  |vw t h0=>exact skip h1.1 hb
  |rd t=>exact skip h1.1 hb
  |fn F m=>exact skip h1.1 hb
  |ptr t t'=>
   cases lb with
   |nil=>exact hb.elim
   |cons l' lb'=>exact box rfl h1 hb.1 hb.2
  |hid t t'=>
   cases lb with
   |nil=>exact hb.elim
   |cons l' lb'=>exact box rfl h1 hb.1 hb.2
def Jna (hE:Fo X E) (K:Ah X S a) (hg:S.g=get A) {xs:List (TypeId×Operand)} {cs cb:List (Nat×Nat)} {f:FuncId} {en:Ent} (hrun:(execOp a.eval o).run X.P S.w = .ok (.enter f (xs.map (λ x=>a.eval x.2)++cs.map (O5 S)).toArray) S.w) (hd:∀ d,o.dst=some d→d<X.nt)
  (hco:Hk X.P f en) (hnv:en.nv=xs.length+cs.length) (hp:Fpa E en.rs o.dst=true) (hn:en.nv≤1000) (hps:Gg en.nv 0 en.ps=true) (hlen:en.ps.length≤2000) (hrl:en.rs.length≤400)
  (h:(match Gz E cb cb en.nv A xs (cs++cb) en.ps with
  |none=>none
  |some (ls,us,bs)=>bif Ry bs then (match Ks _ ls with
   |none=>none
   |some x=>(en.run x).bind λ r=>
    match A9a bs ((Ar _ r).drop en.rs.length) with
    |none=>none
    |some ws=>match Ju (ups (ups A us) ws) en.rs (shL E o.dst (Ar _ r)) o.dst with
     |none=>none
     |some rs=>Kc (us++(ws++rs))) else none)=some r):Er X o a S.w A Kc r:=by
 have hnp:∀ d',o.dst=some d'→F6 en.rs=true→X.np≤d':=λ d' h1 h2=>by
  have:=hp;unfold Fpa at this;rw[h1,h2]at this;exact hE.np ▸ (Vd (by simpa using this))
 split at h
 ·cases h
 ·rename_i ls us bs hargs;rw[csi]at h;obtain⟨hnd,h⟩:=h;split at h
  ·cases h
  ·rename_i x hx
   cases hrun':en.run x with
   |none=>rw[hrun']at h;simp at h
   |some y=>
    rw[hrun']at h;simp only[Vy]at h;split at h
    ·cases h
    ·rename_i ws hws;split at h
     ·cases h
     ·rename_i rs hrs;obtain⟨S1,L,K1,g1,G1,hLb,p1⟩:=Sy (X:=X) (a:=a) hE hn en.ps 0 K hg hargs
      have hpv:O5 S1=O5 S:=by funext b;unfold O5;rw[G1.bb]
      obtain⟨i1,i2,i3,i4⟩:=Qy hn en.ps p1
      have hn1:(L.map Prod.fst).Nodup:=by rw[hLb];exact T0 hnd
      have hok:=D4a K1 hn1 i2 en.ps p1 (Le _ _ _ hx) (λ _ h=>h) hps
      have hdrop:(xs.map (λ x=>a.eval x.2)++(cs++cb).map (O5 S)).drop en.nv=cb.map (O5 S1):=by
       rw[hpv,hnv,Oxa,← Vj,List.drop_left' (by simp)]
      have htake:(xs.map (λ x=>a.eval x.2)++(cs++cb).map (O5 S)).take en.nv=xs.map (λ x=>a.eval x.2)++cs.map (O5 S):=by
       rw[hnv,Oxa,← Vj,Qaa (by simp)]
      have hs:=hco.sound x y hrun' S1.w (Hp S1 L) (Goa S1 L) _ (λ k hk=>K1.lt k (λ e=>hk (by simp[Hp,e]))) (Lva K1 hn p1) (by rw[hdrop];exact hok);rw[htake]at hs;refine⟨_,h,M8 hrun (Jm (by rw[← G1.w];exact hs) ?_)⟩;rintro e w' ⟨v,O',rfl,hF,hlt,hres,hback⟩;refine⟨v,rfl,?_⟩;obtain⟨a1,a2,a3⟩:=Pr hF
      have hlt2:∀ k,Rs S1 O' k ≠ .no→k<w'.heap.size:=λ k hk=>by
       by_cases hkl:k<S1.w.heap.size
       ·exact Wi hkl hF.size
       ·refine hlt k (λ e=>hk ?_);unfold Rs;rw[if_neg (λ h=>hkl h.1),e];rfl
      have hnt:∀ k,(∀ n q,S1.O k ≠ .tm n q)→Jma (S1.O k)=false:=λ k hk=>by
       cases hO:S1.O k<;>first|rfl|exact absurd hO (hk _ _)
      have hsol:=El (en.rs.map Prod.snd++Eg en.ps) y;rw[← hLb]at hws;obtain⟨D,D1,D2,D3,D4⟩:=Qz en.ps p1 hback (λ l hl=>hsol l (Zk hl)) hws;obtain⟨w1,r1,r2,r3,r4⟩:=Lwa S1.w w' hF.size (L.map λ c=>(S1.bb c.1).1)
      have hblk:∀ k,k<S1.w.heap.size→Jma (S1.O k)=false→w1.heap[k]? = S1.w.heap[k]? := λ k hk ht=>by
       by_cases hm:k∈L.map λ c=>(S1.bb c.1).1
       ·exact r3 k hm hk
       ·rw[r4 k hm];exact(a1 k hk ht).2 (λ c hc e=>hm (by rw[e];exact Yn (f:=λ c:Nat×Nat=>(S1.bb c.1).1) hc))
      have ros:w1.os=w'.os:=by rw[r1]
      have rtape:w1.tape=w'.tape:=by rw[r1]
      have rout:w1.output=w'.output:=by rw[r1]
      obtain⟨K2,L2⟩:=K1.world (w':=w1) (O':=Rs S1 O') (λ k hk ht=>⟨(a1 k hk (hnt k ht)).1,hblk k hk (hnt k ht)⟩) (ros.trans hF.os) (rtape.trans hF.tape) (rout.trans hF.out) (by rw[r2];exact hF.size) (λ k hk=>by rw[r2];exact hlt2 k hk)
      have hbr:∀ {n:Nat} {q:List Nat} {x:Lf} {u:Value},Df x=true→Af X.P (bare O' w') (.tm n q) x u→Af X.P (Mx S1 w1 (Rs S1 O')) (.tm n q) x u:=by
       intro n q x u hx hu
       have hno:∀ k,(O' k = .fz∨O' k = .tm n q)→w1.heap[k]? = w'.heap[k]? := λ k hk=>by
        by_cases hm:k∈L.map λ c=>(S1.bb c.1).1
        ·exfalso;obtain⟨c,hc,rfl⟩:=Za.1 hm;obtain⟨m,hm1⟩:=i3 c hc;obtain⟨_,cc,ee,g2,g3,_⟩:=K1.box c.1 m hm1;have hcal:Hp S1 L (S1.bb c.1).1 = .bx c.2:=D3a g3 (Xt hn1 (show (c.1,c.2)∈L from hc)) rfl;have:=(hF.bx _ _ (K1.lt _ (by rw[g3];simp)) hcal).1
         rcases hk with hk|hk<;>rw[this]at hk<;>cases hk
        ·exact r4 k hm
       cases x with
       |sc v=>exact hu
       |fz e r xs=>exact Ty.rep_mono (t := .sl e r) (λ k hk=>a2 k hk) (λ k hk=>hno k (.inl hk)) _ _ hu
       |own e r xs=>exact Ch.later (O':=Rs S1 O') (w':=w1) hu (λ k hk=>⟨a2 k hk,hno k (.inl hk)⟩) (λ k hk=>⟨a3 k n q hk,hno k (.inr hk)⟩)
       |_=>simp[Df]at hx
      have hDok:∀ d∈D,d.Ok X.P (Mx S1 w1 (Rs S1 O')) w':=λ d hd'=>by
       obtain⟨j,B,t,c',e',j1,j2,j3,j4,j5,j6,j7,j8,j9,j10⟩:=D4 d hd';obtain⟨g0,c0,e0,g2,g3,g4,g5⟩:=K1.box d.b _ j5;have hcal:Hp S1 L (S1.bb d.b).1 = .bx B:=D3a g3 (Xt hn1 j4) rfl;have hkl:=K1.lt _ (show S1.O (S1.bb d.b).1 ≠ .no by rw[g3];simp);obtain⟨_,c1,c2,e7,ff,x2,x3,x4,x5⟩:=hF.bx _ _ hkl hcal;rw[g2]at x2;cases x2;have j8':w'.heap[(S1.bb d.b).1]? = some (.cells c' e'):=j8;rw[x3]at j8';cases j8'
       have hrg:Goa S1 L B=((S1.bb d.b).2,t):=by
        unfold Goa;rw[Sz i2 j4];simp only[j5]
       rw[hrg]at x5;refine⟨c0,_,_,by rw[j6];exact j5,?_,x3,x4,λ i hi=>x5 i (by rw[j6]at hi;exact hi),λ j hj=>j9 j (by omega),j7,?_⟩
       ·show w1.heap[(S1.bb d.b).1]? = _;rw[hblk _ hkl (by rw[g3];rfl)];exact g2
       ·exact A5.impS (Es j7) (λ n x u hx hu=>hbr hx hu) j10
      obtain⟨S2,K3,g3,w3,o3,t3,s3⟩:=Xu (w':=w') D (A:=ups A us) K2 g1 hDok (by rw[D1];exact hn1) D3 (λ d hd'=>by
       obtain⟨j,_,_,_,_,_,j2,j3,_⟩:=D4 d hd'
       exact⟨by omega,by omega⟩) (λ k hk=>(r4 k (λ hm=>by
       obtain⟨c,hc,hce⟩:=Za.1 hm
       have:c.1∈D.map Bk.b:=by rw[D1];exact Yn hc
       obtain⟨d,hd',hde⟩:=Za.1 this;refine hk d hd' ?_;rw[← hce,← hde]
       rfl)).symm) r1
      have hnames:∀ (n:Nat) (q:List Nat) (x:Lf) (u:Value),0<n→n<1001→Df x=true→Af X.P (bare O' w') (.tm n q) x u→Af X.P S2 (.tm n q) x u:=λ n q x u h1 h2 hx hu=>s3 n q x u h1 h2 hx (hbr hx hu);have hlb:∀ n q k,0<n→n<1001→O' k = .tm n q→S2.O k = .tm n q:=λ n q k h1 h2 hk=>t3 n q k h1 h2 (a3 k n q hk)
      have hres1:Eh X.P S2 S1.w.heap.size en.rs (Ar _ y) v:=by
       have one:∀ {i:Nat} {k:RK} {l:List Lf} {u:Value},0<i→i<500→(∀ z∈l,Df z=true)→Ig X.P (bare O' w') S1.w.heap.size i k l u→Ig X.P S2 S1.w.heap.size i k l u:=by
        intro i k l u h1 h2 hz h
        cases k with
        |one=>exact A5.impM (λ x hx n u h=>hnames _ _ x u h1 (by omega) (hz x hx) h) h
        |agg=>
         obtain⟨us,e,h⟩:=h;exact⟨us,e,h.impM (λ x hx n u h=>hnames _ _ x u h1 (by omega) (hz x hx) h)⟩
        |ptr=>
         obtain⟨k,o',c,e,us,e1,e2,e3,e4,e5,e6,e7,h⟩:=h;exact⟨k,o',c,e,us,e1,by rw[w3];exact e2,e3,hlb _ _ _ (by omega) (by omega) e4,e5,e6,e7,h.impM (λ x hx n u h=>hnames _ _ x u h1 (by omega) (hz x hx) h)⟩
       have all:∀ (rs:List (RK×Ty)) {i:Nat} {ls:List (List Lf)} {us:List Value},0<i→i+rs.length<500→(∀ l∈ls,∀ z∈l,Df z=true)→Fz X.P (bare O' w') S1.w.heap.size i rs ls us→Fz X.P S2 S1.w.heap.size i rs ls us:=by
        intro rs
        induction rs with
        |nil=>intro i ls us _ _ _ h;exact h
        |cons r rs ih=>
         intro i ls us h1 h2 hz h
         cases ls with
         |nil=>exact h.elim
         |cons l ls=>
          cases us with
          |nil=>exact h.elim
          |cons u us=>
           simp only[Vg]at h2;exact⟨one h1 (by omega) (hz l (by simp)) h.1,ih (by omega) (by omega) (λ l hl=>hz l (Ve _ hl)) h.2⟩
       unfold Eh at hres ⊢;split at hres
       ·obtain⟨l,ls',e1,h5⟩:=hres;exact⟨l,ls',e1,one (by omega) (by omega) (hsol l (by rw[e1];simp)) h5⟩
       ·obtain⟨us',e1,h5⟩:=hres;exact⟨us',e1,all en.rs (by omega) (by omega) hsol h5⟩
      obtain⟨S3,K4,w4,g4⟩:=Qw (E:=E) K3 g3 (λ _=>hrl) hd K1.fr.size (El _ y) hnp hres1 (by rw[← D2];exact hrs);refine⟨S3,w4.trans w3,K4,?_⟩;rw[g4,← D2,Ae,Ae]
def Uw {α β:Type}:∀ {l:List α} {m:List β},m.length≤l.length→(l.zip m).map Prod.snd=m
 |_,[],_=>by simp
 |[],_::_,h=>by simp at h
 |_::l,_::m,h=>by simp[Uw (l:=l) (m:=m) (by simpa using h)]
def Lh:∀ {Ts:List TypeId} {xs:List Operand} {ss:List Sv},Lu E Ts A xs=some ss→xs.length≤Ts.length
 |_,[],_,_=>Wh _
 |[],_::_,_,h=>by simp[Lu]at h
 |T::Ts,x::xs,ss,h=>by
  simp only[Lu]at h;split at h
  ·split at h
   ·rename_i hr;simp only[Vg];have:=Lh hr;omega
   ·cases h
  ·cases h
def Xv (hE:Fo X E) (K:Ah X S a) (hg:S.g=get A) {Ts:List TypeId} {xs:List Operand} {cs:List (Nat×Nat)} {f:FuncId} {en:Ent} {ss:List Sv} (hrun:(execOp a.eval o).run X.P S.w = .ok (.enter f (xs.map a.eval++cs.map (O5 S)).toArray) S.w) (hd:∀ d,o.dst=some d→d<X.nt)
  (hco:Hk X.P f en) (hss:Lu E Ts A xs=some ss) (h:Qc E A en (Ts.zip xs) cs ss o.dst Kc=some r):Er X o a S.w A Kc r:=by
 unfold Qc at h;have hz:=Uw (Lh hss)
 have hzl:(Ts.zip xs).length=xs.length:=by
  rw[List.length_zip];have:=Lh hss;omega
 rw[csi]at h;obtain⟨hnv,h⟩:=h
 have hnv':en.nv=xs.length+cs.length:=by rw[← hzl];exact Vb hnv
 cases hl:(Iv en.ps&&P4 en.rs&&cs.isEmpty) with
 |true=>
  rw[hl,cond_true]at h;simp only[Va,List.isEmpty_iff]at hl;obtain⟨⟨l1,l2⟩,l3⟩:=hl;subst l3;simp only[List.map_nil,Ye]at hrun;exact Jja hE K hg hrun hd hco (by simpa using hnv') (Ui hE K hg hss) l1 l2 h
 |false=>
  rw[hl,cond_false]at h;rw[csi]at h;obtain⟨hp,h⟩:=h;simp only[Va]at hp;obtain⟨p1,⟨⟨p2,p3⟩,p4⟩,p5⟩:=hp;refine Jna (xs:=Ts.zip xs) (cs:=cs) (cb:=Bpa ss++Rx A en.ps ss) hE K hg ?_ hd hco (by rw[hzl];exact hnv') p1 (Vd p2) p3 (Vd p5) (Vd p4) h
  have e1:(Ts.zip xs).map (λ x=>a.eval x.2)=xs.map a.eval:=by
   rw[← hz,Oua];rw[hz];rfl
  rw[e1];exact hrun
def Gpa (hE:Fo X E) (hcall:∀ f en,E.call f=some en→Hk X.P f en) (K:Ah X S a) (hg:S.g=get A) {c:Call} {t:Nat} (ho:o.op = .call c) (hc:c.callee = .value (.tmp t)) (hd:∀ d,o.dst=some d→d<X.nt)
  (h:Ai E o A Kc=some r):Er X o a S.w A Kc r:=by
 unfold Ai at h;rw[ho]at h;simp only[hc]at h;split at h
 ·rename_i f bs hs;split at h
  ·rename_i en ss he hss;obtain⟨hal,h⟩:=cs h;have hco:=hcall f en he;obtain⟨pl,h2⟩:=Ed hE K hg hs;obtain⟨us,e1,e2⟩:Af X.P S (.pl pl []) (.fn f bs) (a.eval (.tmp t)):=h2;have e3:=O6 hg e2 hal;subst e3;exact Xv hE K hg (Ala (w:=S.w) ho hc e1 hco) hd hco hss h
  ·cases h
 ·cases h
def Xw (hE:Fo X E) (K:Ah X S a) (hg:S.g=get A):∀ {xs:List Operand} {bs:List (Nat×Nat)},S6 E A xs=some bs→Nq S bs (xs.map a.eval)
 |[],bs,h=>by
  simp only[S6,Vc]at h;subst h;rfl
 |x::l,bs,h=>by
  simp only[S6]at h;split at h
  ·rename_i b v hx;split at h
   ·rename_i bs' hr;cases h;obtain⟨pl,h2⟩:=Ed hE K hg hx;exact⟨_,_,rfl,h2,Xw hE K hg hr⟩
   ·cases h
  ·cases h
def Ux (hE:Fo X E) (K:Ah X S a) (hg:S.g=get A) {f:FuncId} {x y:Array Operand} {d:Nat} (ho:o.op = .makeFunc (.func f) x y) (hod:o.dst=some d) (hd:d<X.nt) (h:Ai E o A Kc=some r):Er X o a S.w A Kc r:=by
 unfold Ai at h;rw[ho,hod]at h;simp only at h;split at h
 ·rename_i bs hx hy
  have ex:x = #[]:=by
   apply Pwa
   simpa using hx
  subst ex;have hsv:Fi X.P S 0 (.one (.fn f bs)) (.func (.func f) #[] (y.toList.map a.eval).toArray):=⟨_,rfl,Xw hE K hg hy⟩;have K2:=K.put0 hd _ _ 0 rfl hsv;refine⟨_,h,Ac (S:=Gp S (λ _ _=>none) d _ _) (v := .func (.func f) #[] (y.toList.map a.eval).toArray) ?_ (by rw[hod];exact K2) ?_⟩
  ·show _=Result.ok _ S.w
   have e1:y.map a.eval=(y.toList.map a.eval).toArray:=by
    apply Pwa;simp
   unfold execOp;simp[ho,Instr.makeFunc,e1]
  ·show upd S.g d _=_;rw[A7,← hg]
 ·cases h
end
end

section
attribute [local irreducible] C H
section
variable {X:Cx} {S S1 S2:Sit} {a:Act} {E:En} {A:Ab} {o:Oper} {R:Type} {Kc:List Up→Option R} {r:R}
def Lxa (K:Ah X S a) {p n:Nat} {q:List Nat} {e:TypeId} {r:Ty} {xs:List r.den} (hx:Af X.P S (.tm n q) (.own e r xs) (S.ph p)):
  Ah X { S with O:=atO S.O (λ m q'=>if m=n∧q'=q then some (.pl p []) else none),g:=upd S.g p ((S.g p).1+1,.one (.own e r xs)) } a∧
  (∀ m q' x u,¬ (m=n∧q'=q)→Af X.P S (.tm m q') x u→Af X.P { S with O:=atO S.O (λ m q'=>if m=n∧q'=q then some (.pl p []) else none),g:=upd S.g p ((S.g p).1+1,.one (.own e r xs)) } (.tm m q') x u):=by
 generalize hh:(λ (m:Nat) (q':List Nat)=>if m=n∧q'=q then some (Lab.pl p []) else none)=h0
 have oth:∀ k o',S.O k=o'→(∀ m q',o' = .tm m q'→¬ (m=n∧q'=q))→atO S.O h0 k=o':=by
  intro k o' hk hq
  cases o' with
  |tm m q'=>exact H1 hk (by rw[← hh];exact if_neg (hq m q' rfl))
  |_=>exact Al hk (by simp)
 have L:Ci S { S with O:=atO S.O h0,g:=upd S.g p ((S.g p).1+1,.one (.own e r xs)) }:=by
  refine⟨λ p'=>?_,λ _ _=>rfl,λ p' v e r xs' hp hv=>?_,λ _ _=>rfl,λ k h=>⟨oth k _ h (by simp),rfl⟩,Ci.box_of (λ b n hv hb=>?_) (λ k b h=>⟨oth k _ h (by simp),rfl⟩),λ p' hp hdp=>?_,λ _ _=>rfl⟩
  ·by_cases h:p'=p
   ·subst h;show _≤(upd S.g p' _ p').1;rw[A8];exact Zj _
   ·show _≤(upd S.g p _ p').1;rw[Aa _ _ h];exact Vo _
  ·have hp':upd S.g p _ p'=(v,.one (.own e r xs')):=hp
   by_cases h:p'=p
   ·subst h;rw[A8]at hp';simp only[Vu]at hp';omega
   ·rw[Aa _ _ h]at hp';exact⟨xs',hp',rfl⟩
  ·have hv':(upd S.g p ((S.g p).1+1,.one (.own e r xs)) (H b)).1=(S.g (H b)).1:=hv
   have h:H b≠p:=λ e=>by subst e;rw[A8]at hv';simp at hv'
   exact(congrArg Prod.snd (Aa _ _ h)).trans hb
  ·have hp':(upd S.g p ((S.g p).1+1,.one (.own e r xs)) p').1=(S.g p').1:=hp
   have h:p'≠p:=λ e=>by subst e;rw[A8]at hp';simp at hp'
   have e1:({ S with O:=atO S.O h0,g:=upd S.g p ((S.g p).1+1,.one (.own e r xs)) }:Sit).g p'=S.g p':=Aa _ _ h;rw[e1];exact⟨hdp,λ _ _ _ h=>h,λ k hk=>⟨.inl (oth k _ hk (by simp)),rfl⟩⟩
 refine⟨K.ghost _ _ (λ k h=>oth k _ h (by simp)) (λ k h e'=>h (oth k _ e' (by simp))) (λ k h=>oth k _ h (by simp)) (λ k b h=>oth k _ h (by simp)) (λ b m h=>?_) (λ l=>?_),λ m q' x u hq h=>Af.later L h (λ k hk=>⟨oth k _ hk (λ m' q'' e=>by cases e;exact hq),rfl⟩)⟩
 ·by_cases hbp:H b=p
  ·subst hbp;simp at h
  ·rwa [Aa _ _ hbp]at h
 ·by_cases hl:l=p
  ·subst hl;show Fi X.P _ l (upd S.g l _ l).2 _;rw[A8];exact Af.later (lab := .tm n q) (lab' := .pl l []) L hx (λ k hk=>⟨F3 hk (by rw[← hh];exact if_pos ⟨rfl,rfl⟩),rfl⟩)
  ·show Fi X.P _ l (upd S.g p _ l).2 _;rw[Aa _ _ hl];exact(K.at_ l).later L (λ q k hk=>⟨oth k _ hk (by simp),rfl⟩)
def Uy {n:Nat}:∀ (b:List (Option Nat)) {S:Sit} {A:Ab} {l:List Lf} {us:List Value} {j:Nat},Ah X S a→S.g=get A→A5 X.P S (λ j => .tm n [j]) j l us→(∀ (i p:Nat) (e:TypeId) (r:Ty) (xs:List r.den),b[i]? = some (some p)→l[i]? = some (.own e r xs)→us[i]? = some (S.ph p))→
  ∃ S',Ah X S' a∧S'.g=get (ups A (Fla b l))∧S'.w=S.w∧S'.ph=S.ph∧∀ m q x u,m≠n→Af X.P S (.tm m q) x u→Af X.P S' (.tm m q) x u
 |[],S,A,l,us,j,K,hg,_,_=>by
  have:Fla [] l=[]:=by cases l<;>rfl
  rw[this];exact⟨S,K,hg,rfl,rfl,λ _ _ _ _ _ h=>h⟩
 |b0::b,S,A,[],us,j,K,hg,_,_=>by
  have:Fla (b0::b) []=[]:=by cases b0<;>rfl
  rw[this];exact⟨S,K,hg,rfl,rfl,λ _ _ _ _ _ h=>h⟩
 |b0::b,S,A,x::l,[],j,K,hg,hl,_=>hl.elim
 |b0::b,S,A,x::l,u::us,j,K,hg,hl,hb=>by
  have skip:Fla (b0::b) (x::l)=Fla b l→∃ S',Ah X S' a∧S'.g=get (ups A (Fla (b0::b) (x::l)))∧S'.w=S.w∧S'.ph=S.ph∧∀ m q x u,m≠n→Af X.P S (.tm m q) x u→Af X.P S' (.tm m q) x u:=by
   intro e;rw[e];exact Uy b K hg hl.2 (λ i p e r xs h1 h2=>hb (i+1) p e r xs h1 h2)
  cases b0 with
  |none=>exact skip (by cases x<;>rfl)
  |some p=>
   cases x with
   |own e r xs=>
    have hu:u=S.ph p:=by
     have:=hb 0 p e r xs rfl rfl
     simpa using this
    obtain⟨K1,h1⟩:=Lxa K (p:=p) (n:=n) (q:=[j]) (e:=e) (r:=r) (xs:=xs) (by rw[← hu];exact hl.1)
    obtain⟨S',K',g',w',p',t'⟩:=Uy b (A:=up A ⟨p,false,.one (.own e r xs)⟩) (j:=j+1) K1 (by
     show upd S.g p _=get (ups A [⟨p,false,.one (.own e r xs)⟩])
     rw[A7,← hg]) (hl.2.impAt (λ m hm _ x u hx=>h1 n [m] x u (by simp;omega) hx)) (λ i p e r xs h1 h2=>hb (i+1) p e r xs h1 h2)
    exact⟨S',K',g',w',p',λ m q x u hm hx=>t' m q x u hm (h1 m q x u (λ e=>hm e.1) hx)⟩
   |_=>exact skip rfl
def IoP (P:Program) (S:Sit):Nat→List Par→List (List (Option Nat))→List (List Lf)→Prop
 |_,[],bs,lb=>bs=[]∧lb=[]
 |i,.io _ _::ps,b::bs,l::lb=>(∃ us,A5 P S (λ j => .tm (1001+i) [j]) 0 l us∧∀ (j p:Nat) (e:TypeId) (r:Ty) (xs:List r.den),b[j]? = some (some p)→l[j]? = some (.own e r xs)→us[j]? = some (S.ph p))∧IoP P S (i+1) ps bs lb
 |i,.val _ _::ps,bs,lb=>IoP P S (i+1) ps bs lb
 |_,_,_,_=>False
def IoP.mono {P:Program} (hp:S2.ph=S1.ph):∀ {ps:List Par} {i:Nat} {bs:List (List (Option Nat))} {lb:List (List Lf)},(∀ m q x u,1001+i≤m→Af P S1 (.tm m q) x u→Af P S2 (.tm m q) x u)→IoP P S1 i ps bs lb→IoP P S2 i ps bs lb
 |[],_,_,_,_,⟨h1,h2⟩=>⟨h1,h2⟩
 |.io _ _::ps,i,b::bs,l::lb,ht,⟨⟨us,h1,h2⟩,h3⟩=>⟨⟨us,h1.imp (λ j x u hx=>ht _ _ x u (Vo _) hx),λ j p e r xs e1 e2=>by rw[hp];exact h2 j p e r xs e1 e2⟩,IoP.mono hp (λ m q x u hm hx=>ht m q x u (by omega) hx) h3⟩
 |.val _ _::ps,i,bs,lb,ht,h=>by
  have h':IoP P S1 (i+1) ps bs lb:=h;exact(IoP.mono hp (λ m q x u hm hx=>ht m q x u (by omega) hx) h':IoP P S2 (i+1) ps bs lb)
 |.io _ _::_,_,[],_,_,h=>h.elim
 |.io _ _::_,_,_::_,[],_,h=>h.elim
 |.ptr _ _::_,_,_,_,_,h=>h.elim
 |.hid _ _::_,_,_,_,_,h=>h.elim
 |.vw _ _::_,_,_,_,_,h=>h.elim
 |.rd _::_,_,_,_,_,h=>h.elim
 |.fn _ _::_,_,_,_,_,h=>h.elim
def R3:∀ (ps:List Par) {S:Sit} {A:Ab} {i:Nat} {bs:List (List (Option Nat))} {lb:List (List Lf)},Ah X S a→S.g=get A→IoP X.P S i ps bs lb→
  ∃ S',Ah X S' a∧S'.g=get (ups A (Bta bs lb))∧S'.w=S.w∧S'.ph=S.ph∧∀ m q x u,m<1001→Af X.P S (.tm m q) x u→Af X.P S' (.tm m q) x u
 |[],S,A,i,bs,lb,K,hg,h=>by
  obtain⟨rfl,rfl⟩:=h;exact⟨S,K,hg,rfl,rfl,λ _ _ _ _ _ h=>h⟩
 |.io _ _::ps,S,A,i,b::bs,l::lb,K,hg,⟨⟨us,h1,h2⟩,h3⟩=>by
  obtain⟨S1,K1,g1,w1,p1,t1⟩:=Uy b K hg h1 h2;obtain⟨S2,K2,g2,w2,p2,t2⟩:=R3 ps K1 g1 (IoP.mono p1 (λ m q x u hm hx=>t1 m q x u (by omega) hx) h3);exact⟨S2,K2,by rw[g2];show _=get (ups A (Fla b l++Bta bs lb));rw[Ae],w2.trans w1,p2.trans p1,λ m q x u hm hx=>t2 m q x u hm (t1 m q x u (by omega) hx)⟩
 |.val _ _::ps,S,A,i,bs,lb,K,hg,h=>by
  have h':IoP X.P S (i+1) ps bs lb:=h;exact R3 ps K hg h'
 |.io _ _::_,_,_,_,[],_,_,_,h=>h.elim
 |.io _ _::_,_,_,_,_::_,[],_,_,h=>h.elim
 |.ptr _ _::_,_,_,_,_,_,_,_,h=>h.elim
 |.hid _ _::_,_,_,_,_,_,_,_,h=>h.elim
 |.vw _ _::_,_,_,_,_,_,_,_,h=>h.elim
 |.rd _::_,_,_,_,_,_,_,_,h=>h.elim
 |.fn _ _::_,_,_,_,_,_,_,_,h=>h.elim
def exQ (i:Nat):Nat→List Nat→Prop:=λ n _=>∃ j,i≤j∧(n=nmV j∨n=nmB (3000+j))
def D5a {i j:Nat} (h:j<i) (q:List Nat):¬ exQ i (nmV j) q∧¬ exQ i (nmB (3000+j)) q:=by
 refine⟨λ ⟨k,h1,h2⟩=>?_,λ ⟨k,h1,h2⟩=>?_⟩<;>unfold nmV nmB at h2<;>omega
def Lya (P:Program) (S:Sit) (i:Nat):Par→List Lf→Value→List (List (Option Nat))→Prop
 |.val ag t,l,u,b=>b=[]∧A3 l=true∧Na (Dx t) l∧∃ us,(if ag then u = .agg us.toArray else us=[u])∧A5 P S (λ n => .tm (nmV i) (if ag then [n] else [])) 0 l us
 |.io ag t,l,u,b=>∃ b1 us,b=[b1]∧A3 l=true∧Na (Dx t) l∧t.sz<999∧l.length=t.sz∧(if ag then u = .agg us.toArray else us=[u])∧A5 P S (λ n => .tm (nmB (3000+i)) [n]) 0 l us∧
   ∀ (j p:Nat) (e:TypeId) (r:Ty),b1[j]? = some (some p)→(Dx t)[j]? = some (.ow e r)→us[j]? = some (S.ph p)
 |_,_,_,_=>False
def Gqa (P:Program) (S:Sit):Nat→List Par→List (List Lf)→List Value→List (List (Option Nat))→Prop
 |_,[],[],[],bs=>bs=[]
 |i,p::ps,l::ls,u::us,bs=>∃ b1 b2,bs=b1++b2∧Lya P S i p l u b1∧Gqa P S (i+1) ps ls us b2
 |_,_,_,_,_=>False
def Lya.stay {i j:Nat} {p:Par} {l:List Lf} {u:Value} {bs:List (List (Option Nat))} (h:Ce X S S1 (exQ i)) (hj:j<i) (hp:Lya X.P S j p l u bs):Lya X.P S1 j p l u bs:=by
 cases p with
 |io ag t=>
  obtain⟨b1,us,h1,h2,h3,h4,h5,h6,h7,h8⟩:=hp;exact⟨b1,us,h1,h2,h3,h4,h5,h6,h7.imp (λ n x u hx=>h.tms _ _ _ _ (D5a hj _).2 hx),λ j p e r e1 e2=>by rw[h.ph];exact h8 j p e r e1 e2⟩
 |val ag t=>
  obtain⟨h1,h2,h3,us,h4,h5⟩:=hp;exact⟨h1,h2,h3,us,h4,h5.imp (λ n x u hx=>h.tms _ _ _ _ (D5a hj _).1 hx)⟩
 |_=>exact hp.elim
def Uz:∀ (us:List Up) (A:Ab) (p:Nat),(get A p).1≤(get (ups A us) p).1
 |[],A,p=>Vo _
 |u::us,A,p=>by
  refine Yp ?_ (Uz us (up A u) p);show _≤(get ((u.l,(bif u.keep then (get A u.l).1 else (get A u.l).1+1),u.s)::A) p).1;unfold get;cases hb:Nat.beq u.l p
  ·rw[cond_false]
   cases A<;>exact Vo _
  ·rw[cond_true];have:u.l=p:=Vb hb;subst this;cases u.keep
   ·rw[cond_false];cases A<;>exact Zj _
   ·rw[cond_true];cases A<;>exact Vo _
def R4:∀ (ts:List Ty) (l:List Lf) {A:Ab} {m:List Lf} {us:List Up},Ck A ts l=some (m,us)→∀ (j p v:Nat) (e:TypeId) (r:Ty),l[j]? = some (.al p v)→ts[j]? = some (.ow e r)→(get A p).1≤v
 |[],l,A,m,us,h,j,p,v,e,r,h1,h2=>by simp at h2
 |t::ts,[],A,m,us,h,j,p,v,e,r,h1,h2=>by simp at h1
 |t::ts,x::l,A,m,us,h,0,p,v,e,r,h1,h2=>by
  simp only[Zl,Vc]at h1 h2;subst h1 h2;simp only[Ck]at h;split at h
  ·rename_i y hy;simp only[G5]at hy;split at hy
   ·rename_i n e' r' xs hn;cases hb:Nat.beq n v
    ·rw[hb]at hy;simp[P9]at hy
    ·rw[hn,Vb hb];exact Vo _
   ·rename_i n e' r' xs hn;cases hb:Nat.beq n v
    ·rw[hb]at hy;simp[P9]at hy
    ·rw[hn,Vb hb];exact Vo _
   ·simp[P9]at hy
  ·cases h
 |t::ts,x::l,A,m,us,h,j+1,p,v,e,r,h1,h2=>by
  simp only[List.getElem?_cons_succ]at h1 h2
  cases t with
  |ow e' r'=>
   simp only[Ck]at h;split at h
   ·split at h
    ·rename_i hr;exact Yp (Uz _ A p) (R4 ts l hr j p v e r h1 h2)
    ·cases h
   ·cases h
  |_=>
   simp only[Ck]at h;split at h
   ·rename_i hr;exact Yp (Uz _ A p) (R4 ts l hr j p v e r h1 h2)
   ·cases h
def Joa {lab:Lab} (hg:S.g=get A) {x:Lf} {u:Value} (h:Af X.P S lab x u):Af X.P S lab (L8a A x) u:=by
 cases x with
 |io p=>exact⟨by rw[hg];exact Vo _,λ _=>h.2⟩
 |_=>exact h
def Xx {f:Nat→Lab} (hg:S.g=get A):∀ {l:List Lf} {j:Nat} {us:List Value},A5 X.P S f j l us→A5 X.P S f j (l.map (L8a A)) us
 |[],_,[],_=>trivial
 |[],_,_::_,h=>h.elim
 |_::_,_,[],h=>h.elim
 |_::_,_,_::_,h=>⟨Joa hg h.1,Xx hg h.2⟩
def D6a {P:Program} {f:Nat→Lab}:∀ {l:List Lf} {i:Nat} {us:List Value},A5 P S f i l us→∀ j x,l[j]? = some x→∃ u,us[j]? = some u∧Af P S (f (i+j)) x u
 |[],_,[],_,j,x,h=>by simp at h
 |[],_,_::_,hl,_,_,_=>hl.elim
 |_::_,_,[],hl,_,_,_=>hl.elim
 |y::l,i,u::us,hl,0,x,h=>by
  simp only[Zl,Vc]at h;subst h;exact⟨u,rfl,hl.1⟩
 |y::l,i,u::us,hl,j+1,x,h=>by
  obtain⟨v,h1,h2⟩:=D6a hl.2 j x (by simpa using h);exact⟨v,by simpa using h1,by rw[show i+(j+1)=i+1+j by omega];exact h2⟩
def Aqa (hE:Fo X E) (K:Ah X S a) (hg:S.g=get A) {i:Nat} {T:TypeId} {x:Operand} {s:Sv} {p:Par} {l:List Lf} {us:List Up} {b:List (List (Option Nat))} (hx:opT E T A x=some s) (h:Bsa A x p s=some (l,us,b)):
  ∃ S1,Ah X S1 a∧S1.g=get (ups A us)∧Ce X S S1 (exQ i)∧Lya X.P S1 i p l (a.eval x) b:=by
 cases p with
 |val ag t=>
  unfold Bsa at h;obtain⟨hq,h⟩:=cs h;split at h
  ·rename_i m us' hgive;cases h;obtain⟨S1,K1,g1,G,h2,_,vs,hsh,hl⟩:=Qq hE K hg (.inl hx) (Qx hq) hgive (nmV i);have hp:=Ut hq;simp only[hp]at hl;exact⟨S1,K1,g1,Ce.trans (λ n q h=>h) (λ n q h=>⟨i,Vo _,.inl h⟩) (Ce.refl S (exQ i)) G,rfl,h2,M9 hgive,vs,Jl hq hsh,hl⟩
  ·cases h
 |io ag t=>
  unfold Bsa at h;obtain⟨hq,h⟩:=cs h;simp only[Va,Wk]at hq;obtain⟨hf,hno,hsz⟩:=hq;split at h
  ·rename_i m us' hx2;obtain⟨hst,h⟩:=cs h;cases h;obtain⟨pl,hsv⟩:=Ed hE K hg hx
   obtain⟨vs,hshape,hl⟩:∃ vs,M3 s (a.eval x) vs∧∃ f,A5 X.P S f 0 (parts s) vs:=by
    cases s with
    |tup vs=>exact absurd rfl (Qx hf vs)
    |one z=>exact⟨[a.eval x],rfl,λ _ => .pl pl [],hsv,trivial⟩
    |agg z=>
     obtain⟨vs,e1,e2⟩:=hsv;exact⟨vs,e1,_,e2⟩
   obtain⟨f,hl⟩:=hl
   have hpn:parts (Mta A s)=(parts s).map (L8a A):=by cases s<;>rfl
   have hln:=Xx (A:=A) hg hl;rw[← hpn]at hln;have hlr:A5 X.P S (λ n => .tm (nmB (3000+i)) [n]) 0 (parts (Mta A s)) vs:=hln.relab hno;obtain⟨S1,K1,g1,G,hl2⟩:=J2 (nmB (3000+i)) (λ n=>[n]) (Dx t) _ K hg hx2 hst hlr (λ n n' _ _ _ _ e=>by simpa using e);obtain⟨l1,l2⟩:=H6 _ _ hx2;refine⟨S1,K1,g1,Ce.trans (λ n q h=>h) (λ n q h=>⟨i,Vo _,.inr h.1⟩) (Ce.refl S (exQ i)) G,_,vs,rfl,hst,Gq _ _ hx2,Vd hsz,by rw[l1,← l2,G9],Jl hf hshape,hl2,?_⟩;intro j p e r h1 h2;rw[Pda]at h1
   cases hz:(parts s)[j]? with
   |none=>rw[hz]at h1;simp at h1
   |some z=>
    rw[hz]at h1;simp only[Q6a,Vc]at h1;obtain⟨u,hu1,hu2⟩:=D6a hl j z hz;rw[hu1,G.ph]
    cases z<;>simp only[Nua,Vc,reduceCtorEq]at h1
    ·rename_i p' v;subst h1;have hcur:=R4 _ _ hx2 j p' v e r (by rw[hpn,Pda,hz];rfl) h2;rw[hu2.2 (by have:=hu2.1;rw[hg]at this ⊢;omega)]
    ·rename_i p';subst h1;rw[hu2.2]
  ·cases h
 |_=>simp[Bsa]at h
def O7 (hE:Fo X E):∀ (ps:List Par) {xs:List (TypeId×Operand)} {S:Sit} {A:Ab} {ls:List (List Lf)} {us:List Up} {bs:List (List (Option Nat))} (i:Nat),Ah X S a→S.g=get A→Nh E A xs ps=some (ls,us,bs)→
  ∃ S1,Ah X S1 a∧S1.g=get (ups A us)∧Ce X S S1 (exQ i)∧Gqa X.P S1 i ps ls (xs.map (λ x=>a.eval x.2)) bs
 |[],xs,S,A,ls,us,bs,i,K,hg,h=>by
  cases xs with
  |cons=>simp[Nh]at h
  |nil=>
   simp only[Nh,Vc,Vu]at h;obtain⟨rfl,rfl,rfl⟩:=h;exact⟨S,K,hg,Ce.refl S _,rfl⟩
 |p::ps,xs,S,A,ls,us,bs,i,K,hg,h=>by
  cases xs with
  |nil=>simp[Nh]at h
  |cons x xs=>
   simp only[Nh]at h;split at h
   ·rename_i s hs1;split at h
    ·rename_i l u b hb;split at h
     ·rename_i ls1 us1 bs1 hrec;cases h;obtain⟨S1,K1,g1,G1,p1⟩:=Aqa (i:=i) hE K hg hs1 hb;obtain⟨S2,K2,g2,G2,p2⟩:=O7 hE ps (i+1) K1 g1 hrec;exact⟨S2,K2,by rw[Ae];exact g2,Ce.trans (λ _ _ h=>h) (λ n q ⟨j,h1,h2⟩=>⟨j,by omega,h2⟩) G1 G2,b,bs1,rfl,p1.stay G2 (by omega),p2⟩
     ·cases h
    ·cases h
   ·cases h
def R5 {nv:Nat}:∀ (ps:List Par) {i:Nat} {ls ls':List (List Lf)} {us:List Value} {bs:List (List (Option Nat))},Gqa X.P S i ps ls us bs→Mk (ps.map Par.ty) ls ls'→Gg nv i ps=true→
  Hj X.P (bare (Hp S []) S.w) (Goa S []) nv [] i ps ls' us∧us.length=ps.length
 |[],i,[],[],[],bp,_,_,_=>⟨trivial,rfl⟩
 |[],i,[],_::_,_,bp,_,hm,_=>hm.elim
 |[],i,_::_,_,_,bp,h,_,_=>h.elim
 |[],i,[],[],_::_,bp,h,_,_=>h.elim
 |p::ps,i,[],_,_,bp,h,_,_=>h.elim
 |p::ps,i,_::_,_,[],bp,h,_,_=>h.elim
 |p::ps,i,l::ls,[],_::_,bp,_,hm,_=>hm.elim
 |p::ps,i,l::ls,l'::ls',u::us,bp,h,hm,hp=>by
  obtain⟨b1,b2,rfl,h1,h2⟩:=h;obtain⟨⟨y,hy,rfl⟩,hm2⟩:=hm
  cases p with
  |io ag t=>
   simp only[Gg,Va]at hp;obtain⟨r1,r2⟩:=R5 ps h2 hm2 hp.2;obtain⟨_,vs,_,e2,e3,e4,e5,e6,e7,_⟩:=h1;refine⟨⟨⟨⟨Vd hp.1,e4,Dw t y⟩,vs,e6,H3 e3 hy ?_⟩,r1⟩,by simp[r2]⟩;exact A5.impS (S1:=S) (Es e2) (λ n x u hx h=>Af.bare (S1:=S) (S2:=bare (Hp S []) S.w) hx rfl (λ k hk=>show Hp S [] k = .fz from Hb hk) (λ k hk=>show Hp S [] k = .pl (C (3000+i) n) [] from I7a hk) h) e7
  |val ag t=>
   simp only[Gg,Va]at hp;obtain⟨r1,r2⟩:=R5 ps h2 hm2 hp.2;obtain⟨_,e2,e3,vs,e4,e5⟩:=h1;refine⟨⟨⟨vs,e4,H3 e3 hy ?_⟩,r1⟩,by simp[r2]⟩;exact A5.impS (S1:=S) (Es e2) (λ n x u hx h=>Af.bare (S1:=S) (S2:=bare (Hp S []) S.w) hx rfl (λ k hk=>show Hp S [] k = .fz from Hb hk) (λ k hk=>show Hp S [] k = .pl i _ from I6a hk) h) e5
  |_=>exact h1.elim
def Ara:∀ (t:Ty) (ts:List Ty) (y:Den (t::ts)),∃ (z:t.den) (y':Den ts),Ar (t::ts) y=A4 t z::Ar ts y'
 |t,[],y=>⟨y,(),rfl⟩
 |t,u::ts,y=>⟨y.1,y.2,rfl⟩
def R6 {Sb:Sit} (hph:∀ {n:Nat} {q:List Nat} {x:Lf} {u:Value},Df x=true→Af X.P Sb (.tm n q) x u→Af X.P S2 (.tm n q) x u) (hp2:S2.ph=S1.ph):∀ (ps:List Par) {i:Nat} {ls lb:List (List Lf)} {us:List Value} {bs:List (List (Option Nat))},Gqa X.P S1 i ps ls us bs→Ha X.P Sb i ps us lb→(∀ l∈lb,∀ y∈l,Df y=true)→(∃ y:Den (Eg ps),lb=Ar (Eg ps) y)→IoP X.P S2 i ps bs lb
 |[],i,[],lb,[],bs,h,hb,_,_=>⟨h,hb⟩
 |[],i,_::_,_,_,_,h,_,_,_=>h.elim
 |[],i,[],_,_::_,_,h,_,_,_=>h.elim
 |p::ps,i,[],_,_,_,h,_,_,_=>h.elim
 |p::ps,i,_::_,_,[],_,h,_,_,_=>h.elim
 |p::ps,i,l::ls,lb,u::us,bs,h,hb,hs,hy=>by
  obtain⟨b1,b2,rfl,h1,h2⟩:=h
  cases p with
  |val ag t=>
   obtain⟨rfl,_⟩:=h1;exact R6 hph hp2 ps h2 hb hs hy
  |io ag t=>
   obtain⟨b1,vs,rfl,_,_,_,e5,e6,_,e8⟩:=h1
   cases lb with
   |nil=>exact hb.elim
   |cons l' lb=>
    obtain⟨⟨ws,f1,f2⟩,hb2⟩:=hb;obtain⟨y,hy⟩:=hy
    have hlv:∃ z:t.den,l'=A4 t z∧∃ y:Den (Eg ps),lb=Ar (Eg ps) y:=by
     obtain⟨z,y',e⟩:=Ara t (Eg ps) y;have hy':l'::lb=Ar (t::Eg ps) y:=hy;rw[e]at hy';simp only[Wp]at hy';exact⟨z,hy'.1,y',hy'.2⟩
    obtain⟨z,rfl,hy2⟩:=hlv;refine⟨⟨ws,A5.impS (hs _ (by simp)) (λ n x u hx h=>hph hx h) f2,λ j p e r xs q1 q2=>?_⟩,R6 hph hp2 ps h2 hb2 (λ l hl=>hs l (Ve _ hl)) hy2⟩
    have hwv:ws=vs:=by
     cases ag
     ·simp only[Wc,if_false]at f1 e6;rw[f1,e6]
     ·simp only[if_true]at f1 e6;rw[e6]at f1
      simpa using f1.symm
    have q3:(Dx t)[j]? = some (.ow e r):=by
     have:=Hw (t:=t) (x:=z) (j:=j) (e:=e) (r:=r) (ys:=xs) (by rw[Et];exact q2);rwa [Et]at this
    rw[hwv,hp2];exact e8 j p e r q1 q3
  |_=>exact h1.elim
def Li:∀ (ts us:List Ty) (y:Den (ts++us)) {n:Nat},n=ts.length→∃ z:Den us,(Ar (ts++us) y).drop n=Ar us z
 |[],us,y,n,h=>by subst h;exact⟨y,rfl⟩
 |[t],[],y,n,h=>by subst h;exact⟨(),rfl⟩
 |[t],u::us,y,n,h=>by subst h;exact⟨y.2,rfl⟩
 |t::t2::ts,us,y,n,h=>by
  subst h;obtain⟨z,hz⟩:=Li (t2::ts) us y.2 rfl;exact⟨z,hz⟩
def D7a (hE:Fo X E) (K:Ah X S a) (hg:S.g=get A) {Ts:List TypeId} {xs:List Operand} {f:FuncId} {en:Ent} {ss:List Sv} (hrun:(execOp a.eval o).run X.P S.w = .ok (.enter f (xs.map a.eval).toArray) S.w) (hd:∀ d,o.dst=some d→d<X.nt)
  (hco:Hk X.P f en) (hss:Lu E Ts A xs=some ss) (h:Bua E A en (Ts.zip xs) o.dst Kc=some r):Er X o a S.w A Kc r:=by
 have hz:=Uw (Lh hss)
 have hzl:(Ts.zip xs).length=xs.length:=by
  rw[List.length_zip];have:=Lh hss;omega
 have hev:(Ts.zip xs).map (λ x=>a.eval x.2)=xs.map a.eval:=by
  rw[← hz,Oua];rw[hz];rfl
 unfold Bua at h;rw[csi]at h;obtain⟨hq,h⟩:=h;simp only[Va,Wk]at hq;obtain⟨⟨hnv,hp,hnoP⟩,⟨⟨hn,hps⟩,hrl⟩,hlen⟩:=hq
 have hnv:en.nv=xs.length:=by rw[← hzl];exact Vb hnv
 split at h
 ·cases h
 ·rename_i ls us bs hargs;split at h
  ·cases h
  ·rename_i x hx
   cases hrun':en.run x with
   |none=>rw[hrun']at h;simp at h
   |some y=>
    rw[hrun']at h;simp only[Vy]at h;split at h
    ·cases h
    ·rename_i rs hrs;obtain⟨S1,K1,g1,G1,p1⟩:=O7 (X:=X) (a:=a) hE en.ps 0 K hg hargs;rw[hev]at p1;obtain⟨hok,hul⟩:=R5 (nv:=en.nv) en.ps p1 (Le _ _ _ hx) hps;have hdrop:(xs.map a.eval).drop en.nv=[]:=P8a (by rw[hnv,Yj];exact Vo _);have htake:(xs.map a.eval).take en.nv=xs.map a.eval:=Zb (by rw[hnv,Yj];exact Vo _)
     have hnobx:∀ k b,Hp S1 [] k ≠ .bx b:=by
      intro k b hk;unfold Hp at hk;split at hk
      ·cases hk
      ·split at hk
       ·cases hk
       ·split at hk
        ·cases hk
        ·split at hk<;>cases hk
      ·simp[lkF]at hk
      ·cases hk
     have hs:=hco.sound x y hrun' S1.w (Hp S1 []) (Goa S1 []) (xs.map a.eval) (λ k hk=>K1.lt k (λ e=>hk (by simp[Hp,e]))) (λ k b hk=>absurd hk (hnobx k b)) (by rw[hdrop];exact hok);rw[htake]at hs;refine⟨_,h,M8 hrun (Jm (by rw[← G1.w];exact hs) ?_)⟩;rintro e w' ⟨v,O',rfl,hF,hlt,hres,hback⟩;refine⟨v,rfl,?_⟩;obtain⟨a1,a2,a3⟩:=Pr hF
     have hlt2:∀ k,Rs S1 O' k ≠ .no→k<w'.heap.size:=λ k hk=>by
      by_cases hkl:k<S1.w.heap.size
      ·exact Wi hkl hF.size
      ·refine hlt k (λ e=>hk ?_);unfold Rs;rw[if_neg (λ h=>hkl h.1),e];rfl
     have hnt:∀ k,(∀ n q,S1.O k ≠ .tm n q)→Jma (S1.O k)=false:=λ k hk=>by
      cases hO:S1.O k<;>first|rfl|exact absurd hO (hk _ _)
     have hsol:=El (en.rs.map Prod.snd++Eg en.ps) y;obtain⟨K2,L2⟩:=K1.world (w':=w') (O':=Rs S1 O') (λ k hk ht=>⟨(a1 k hk (hnt k ht)).1,(a1 k hk (hnt k ht)).2 (by simp)⟩) hF.os hF.tape hF.out hF.size hlt2
     have hbr:∀ {n:Nat} {q:List Nat} {x:Lf} {u:Value},Df x=true→Af X.P (bare O' w') (.tm n q) x u→Af X.P (Mx S1 w' (Rs S1 O')) (.tm n q) x u:=by
      intro n q x u hx hu
      cases x with
      |sc v=>exact hu
      |fz e r xs=>exact Ty.rep_mono (t := .sl e r) (λ k hk=>a2 k hk) (λ k hk=>rfl) _ _ hu
      |own e r xs=>exact Ch.later (O':=Rs S1 O') (w':=w') hu (λ k hk=>⟨a2 k hk,rfl⟩) (λ k hk=>⟨a3 k n q hk,rfl⟩)
      |_=>simp[Df]at hx
     have hio:=R6 (X:=X) (S1:=S1) (S2:=Mx S1 w' (Rs S1 O')) hbr rfl en.ps p1 hback (λ l hl=>hsol l (Zk hl)) (Li _ _ y (by simp));obtain⟨S2,K3,g3,w3,_,t3⟩:=R3 en.ps K2 (A:=ups A us) g1 hio;have hnames:∀ (n:Nat) (q:List Nat) (x:Lf) (u:Value),n<1001→Df x=true→Af X.P (bare O' w') (.tm n q) x u→Af X.P S2 (.tm n q) x u:=λ n q x u h2 hx hu=>t3 n q x u h2 (hbr hx hu)
     have hres1:Eh X.P S2 S1.w.heap.size en.rs (Ar _ y) v:=by
      have one:∀ {i:Nat} {k:RK} {l:List Lf} {u:Value},k ≠ .ptr→i<500→(∀ z∈l,Df z=true)→Ig X.P (bare O' w') S1.w.heap.size i k l u→Ig X.P S2 S1.w.heap.size i k l u:=by
       intro i k l u hk h2 hz h
       cases k with
       |one=>exact A5.impM (λ x hx n u h=>hnames _ _ x u (by omega) (hz x hx) h) h
       |agg=>
        obtain⟨us,e,h⟩:=h;exact⟨us,e,h.impM (λ x hx n u h=>hnames _ _ x u (by omega) (hz x hx) h)⟩
       |ptr=>exact absurd rfl hk
      have all:∀ (rs:List (RK×Ty)) {i:Nat} {ls:List (List Lf)} {us:List Value},F6 rs=false→i+rs.length<500→(∀ l∈ls,∀ z∈l,Df z=true)→Fz X.P (bare O' w') S1.w.heap.size i rs ls us→Fz X.P S2 S1.w.heap.size i rs ls us:=by
       intro rs
       induction rs with
       |nil=>intro i ls us _ _ _ h;exact h
       |cons r rs ih=>
        intro i ls us h1 h2 hz h;obtain⟨k,t⟩:=r
        cases ls with
        |nil=>exact h.elim
        |cons l ls=>
         cases us with
         |nil=>exact h.elim
         |cons u us=>
          simp only[Vg]at h2
          have hk:k ≠ .ptr:=λ e=>by subst e;simp[F6]at h1
          have h1':F6 rs=false:=by cases k<;>first|(simp[F6]at h1;done)|simpa[F6] using h1
          exact⟨one hk (by omega) (hz l (by simp)) h.1,ih h1' (by omega) (λ l hl=>hz l (Ve _ hl)) h.2⟩
      have hrl':en.rs.length≤400:=Vd hrl;unfold Eh at hres ⊢;split at hres
      ·rename_i r1 hr1;obtain⟨l,ls',e1,h5⟩:=hres;exact⟨l,ls',e1,one (λ e=>by rw[hr1]at hnoP;obtain⟨k,t⟩:=r1;simp only at e;subst e;simp[F6]at hnoP) (by omega) (hsol l (by rw[e1];simp)) h5⟩
      ·obtain⟨us',e1,h5⟩:=hres;exact⟨us',e1,all en.rs hnoP (by omega) hsol h5⟩
     obtain⟨S3,K4,w4,g4⟩:=Qw (E:=E) K3 g3 (λ _=>Vd hrl) hd K1.fr.size (El _ y) (λ d' _ hp=>by rw[hnoP]at hp;cases hp) hres1 hrs;refine⟨S3,w4.trans w3,K4,?_⟩;rw[g4,Ae,Ae]
def Jpa (hE:Fo X E) (hcall:∀ f en,E.call f=some en→Hk X.P f en) (K:Ah X S a) (hg:S.g=get A) {c:Call} {f:FuncId} (ho:o.op = .call c) (hc:c.callee = .value (.func f)) (hd:∀ d,o.dst=some d→d<X.nt)
  (h:Ai E o A Kc=some r):Er X o a S.w A Kc r:=by
 unfold Ai at h;rw[ho]at h;simp only[hc]at h;split at h
 ·rename_i en ss he hss;have hco:=hcall f en he
  cases hio:Bra en.ps with
  |true=>
   rw[hio,cond_true]at h;exact D7a hE K hg (by simpa using Sx (w:=S.w) ho hc hco) hd hco hss h
  |false=>
   rw[hio,cond_false]at h;exact Xv hE K hg (cs:=[]) (by simpa using Sx (w:=S.w) ho hc hco) hd hco hss h
 ·cases h
end
end

end Go.Proofs.Ytbbifgjgneefkaa.Vf
