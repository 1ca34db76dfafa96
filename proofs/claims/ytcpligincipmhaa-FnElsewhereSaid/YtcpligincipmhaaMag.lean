import Derived.Test.YtcpligincipmhaaMaf
set_option linter.all false
namespace Go.Proofs.Ytcpligincipmhaa.Vf
open Go
open List (length getD)
open Int (toNat)
open Go.IntKind (wrap)
open BitVec (ofInt)
def Vt:=@Option.bind_some
def Wo:=@List.mem_cons_self
def Ye:=@List.mem_map_of_mem
def Zn:=@Nat.ble_eq_true_of_le
def Bnb:=@Array.getElem?_eq_getElem
def Cpb:=@List.flatMap_cons
def Cvb:=@List.any_eq_true
def Dhb:=@Array.ext'

section
attribute [local irreducible] C H
def Mk:List Ty→List (List Lf)→List (List Lf)→Prop
 |[],[],[]=>True
 |t::ts,l::ls,l'::ls'=>(∃ y,mkW t l=some y∧l'=A6 t y)∧Mk ts ls ls'
 |_,_,_=>False
def Rn:∀ (ts:List Ty) (ls:List (List Lf)) (x:Den ts),Px ts ls=some x→Mk ts ls (Dk ts x)
 |[],[],_,_=>trivial
 |[],_::_,_,h=>by simp[Px]at h
 |[t],[],_,h=>by simp[Px]at h
 |[t],[l],x,h=>⟨⟨x,h,rfl⟩,trivial⟩
 |[t],_::_::_,_,h=>by simp[Px]at h
 |_::_::_,[],_,h=>by simp[Px]at h
 |t::u::ts,l::ls,x,h=>by
  simp only[Px]at h;split at h
  ·rename_i y hy;split at h
   ·rename_i z hz;cases h;exact⟨⟨y,hy,rfl⟩,Rn (u::ts) ls z hz⟩
   ·cases h
  ·cases h
def Hn:∀ (ts:List Ty) (x:Den ts),∀ l∈Dk ts x,∀ y∈l,Gq y=true
 |[],_=>by simp[Dk]
 |[t],x=>by
  intro l hl;simp[Dk]at hl;subst hl;exact Ig t x
 |t::u::ts,x=>by
  intro l hl;rcases Vk.1 (show l∈A6 t x.1::Dk (u::ts) x.2 from hl) with rfl|h
  ·exact Ig t x.1
  ·exact Hn (u::ts) x.2 l h
def Sm (t:Ty) (x:t.den) (h:Ib t=true):A6 t x=lvs t x:=Rl t x h
section
variable {X:Cx} {S S':Sit} {a:Act} {E:En} {A:Ab} {o:Oper} {R:Type} {Kc:List Up→Option R} {r:R}
def Pva (hE:Hz X E) (K:B0 X S a) (hg:S.g=get A) {T:TypeId} {x:Operand} {s:Sv} {ag:Bool} (hx:opT E T A x=some s) (hf:Id ag s=true):
  ∃ us,∃ f:Nat→Lab,(if ag then a.eval x = .agg us.toArray else us=[a.eval x])∧Aa X.P S f 0 (parts s) us∧∀ n,f n ≠ .no:=by
 rcases K6 hE K hg hx with⟨t,rfl,ht,hst,het,hok⟩|⟨hnt,y,rfl,hy⟩
 ·cases s with
  |tup vs=>simp[Id,Jqa]at hf
  |one y=>
   have:ag=false:=by cases ag<;>simp[Id,Jqa]at hf ⊢
   subst this;exact⟨[a.eval (.tmp t)],λ _ => .pl t [],rfl,⟨hok,trivial⟩,by simp⟩
  |agg l=>
   have:ag=true:=by cases ag<;>simp[Id,Jqa]at hf ⊢
   subst this;obtain⟨us,e1,hl⟩:=hok;exact⟨us,λ n => .pl t [n],e1,hl,by simp⟩
 ·have:ag=false:=by cases ag<;>simp[Id,Jqa]at hf ⊢
  subst this;exact⟨[a.eval x],λ _ => .fz,rfl,⟨hy _,trivial⟩,by simp⟩
def L2a {ag:Bool} {s:Sv} (hf:Id ag s=true):∀ vs,s ≠ .tup vs:=by
 intro vs e;subst e;simp[Id,Jqa]at hf
def Uo {ag:Bool} {s:Sv} {u:Value} {us:List Value} (hf:Id ag s=true) (h:Ra s u us):if ag then u = .agg us.toArray else us=[u]:=by
 cases s with
 |tup vs=>simp[Id,Jqa]at hf
 |one y=>
  have:ag=false:=by cases ag<;>simp[Id,Jqa]at hf ⊢
  subst this;exact h
 |agg l=>
  have:ag=true:=by cases ag<;>simp[Id,Jqa]at hf ⊢
  subst this;exact h
def Uq {P:Program} {S:Sit} {G:Nat→Prop} {t:Ty} {l:List Lf} {y:t.den} {us:List Value} (hG:∀ k,G k→S.O k = .fz) (hm:mkW t l=some y) (hn:Ib t=true) (h:J2 (Hy P G S.w) l us) (f:Nat→Lab) (j:Nat):Aa P S f j (A6 t y) us:=by
 have h1:=S7 hm h;have h2:=Ln (P:=P) (G:=λ k=>S.O k = .fz) (w:=S.w) t y us (Ty.rep_mono hG (λ _ _=>rfl) t y us h1);rw[Sm t y hn];exact Aa.ofRep h2 f j
def Qa (S:Sit):Nat→Lab:=λ k=>if S.O k = .no then .no else .fz
def Pwa {y:Lf} {u:Value} {lab:Lab} (K:B0 X S a) (hg:S.g=get A) (h:B8 X.P S lab y u):∃ lab',(lab'=lab∨∃ p,lab' = .pl p [])∧B8 X.P S lab' (Ih A y) u:=by
 unfold Ih;split
 ·rename_i p v;split
  ·rename_i n e r xs hp;cases hb:Nat.beq n v
   ·exact⟨lab,.inl rfl,trivial⟩
   have hnv:n=v:=by simpa using hb
   subst hnv;have e1:u=S.ph p:=h.2 (by rw[hg,hp]);refine⟨.pl p [],.inr ⟨p,rfl⟩,?_⟩;have:=K.at_ p;rw[hg,hp]at this;rw[e1];exact this
  ·rename_i n e r xs hp;cases hb:Nat.beq n v
   ·exact⟨lab,.inl rfl,trivial⟩
   have hnv:n=v:=by simpa using hb
   subst hnv;have e1:u=S.ph p:=h.2 (by rw[hg,hp]);refine⟨.pl p [],.inr ⟨p,rfl⟩,?_⟩;have:=K.at_ p;rw[hg,hp]at this;rw[e1];exact this
  ·exact⟨lab,.inl rfl,trivial⟩
 ·exact⟨lab,.inl rfl,h⟩
def G4a (K:B0 X S a) (hg:S.g=get A) {f:Nat→Lab} (hf:∀ n,f n ≠ .no):∀ {l:List Lf} {j:Nat} {us:List Value},Aa X.P S f j l us→A4 (l.map λ y=>Kf (Ws A y))=true→
  J2 (Hy X.P (λ k=>Qa S k = .fz) S.w) (l.map λ y=>Kf (Ws A y)) us
 |[],_,[],_,_ => .nil
 |[],_,_::_,h,_=>h.elim
 |_::_,_,[],h,_=>h.elim
 |y::l,j,u::us,h,hst=>by
  have hfz:∀ k,S.O k = .fz→Qa S k = .fz:=λ k hk=>by simp[Qa,hk]
  rw[Xs]at hst ⊢
  have hrest:A4 (l.map λ y=>Kf (Ws A y))=true:=by
   generalize Kf (Ws A y)=z at hst
   cases z<;>first|(simp[A4]at hst;done)|simpa[A4] using hst
  refine .cons ?_ (G4a K hg hf h.2 hrest)
  have hv:(∃ lab',lab' ≠ .no∧B8 X.P S lab' (Ws A y) u)∨∃ p e r,∃ xs:List (Ty.den r),Ws A y = .fz e r xs∧Dma X.P S p e r xs u:=by
   unfold Ws;split
   ·rename_i p v pi e r xs;cases hq:Nat.beq (get A p).1 v
    ·exact .inl ⟨f j,hf j,trivial⟩
    obtain⟨_,_,h2⟩:=h.1;exact .inr ⟨p,e,r,xs,rfl,(h2 (by rw[hg];exact Ve hq)).2.1⟩
   ·obtain⟨lab',hlab,h1⟩:=Pwa K hg h.1;refine .inl ⟨lab',?_,h1⟩;rcases hlab with rfl|⟨p,rfl⟩
    ·exact hf j
    ·simp
  rcases hv with⟨lab',hno,h1⟩|⟨p,e,r,xs,e1,h1⟩
  rotate_left 1
  ·rw[e1]
   exact h1.reads (λ k hk=>by
    rcases hk with hk|hk<;>simp[Qa,hk])
  generalize Ws A y=z at h1 hst
  cases z with
  |sc v=>exact h1
  |fz e r xs=>exact Ty.rep_mono (t := .sl e r) hfz (λ _ _=>rfl) _ _ h1
  |own e r xs=>
   have h2:Eo X.P S.O S.w lab' e r xs u:=h1;exact h2.reads (O':=Qa S) hfz (λ k hk=>by simp[Qa,hk,hno])
  |_=>simp[Kf,A4]at hst
def B4a (hE:Hz X E) (K:B0 X S a) (hg:S.g=get A) (rg:Nat→Nat×Nat) (nv:Nat) (hs:List Value):∀ (ps:List Par) {xs:List Operand} {ss:List Sv} {ls ls':List (List Lf)} {i:Nat},J2 (λ s x=>∃ T,opT E T A x=some s) ss xs→Mh A ps ss=some ls→Mk (ps.map Par.ty) ls ls'→
  Mg ps=true→L5 X.P (bare (Qa S) S.w) rg nv hs i ps ls' (xs.map a.eval)∧xs.length=ps.length
 |[],_,_,ls,ls',i,.nil,h,hm,_=>by
  simp only[Mh,Vc]at h;subst h
  cases ls' with
  |nil=>exact⟨trivial,rfl⟩
  |cons=>exact hm.elim
 |[],_,_,ls,ls',i,.cons _ _,h,hm,_=>by simp[Mh]at h
 |.ptr _ _::_,_,_,_,_,_,_,_,_,hl=>by simp[Mg]at hl
 |.hid _ _::_,_,_,_,_,_,_,_,_,hl=>by simp[Mg]at hl
 |.rd _::_,_,_,_,_,_,_,_,_,hl=>by simp[Mg]at hl
 |.fn _ _::_,_,_,_,_,_,_,_,_,hl=>by simp[Mg]at hl
 |.val ag t::ps,_,_,ls,ls',i,.nil,h,_,_=>by simp[Mh]at h
 |.val ag t::ps,_,_,ls,ls',i,.cons (x:=s) (y:=x) (xs:=ss) (ys:=xs) hs1 hss,h,hm,hl=>by
  simp only[Mg,Va]at hl;simp only[Mh]at h;obtain⟨hq,h⟩:=cs h;simp only[Va]at hq;split at h
  ·rename_i ls1 hls1;cases h
   cases ls' with
   |nil=>exact hm.elim
   |cons l' ls'=>
    obtain⟨⟨y,hy,rfl⟩,hm2⟩:=hm;obtain⟨T,hx⟩:=hs1;obtain⟨us,f,hsh,hlf,hf⟩:=Pva hE K hg hx hq.1;obtain⟨r1,r2⟩:=B4a hE K hg rg nv hs (i:=i+1) ps hss hls1 hm2 hl.2;exact⟨⟨⟨us,hsh,Uq (S:=bare (Qa S) S.w) (λ k hk=>hk) hy hl.1 (G4a K hg hf hlf hq.2) _ _⟩,r1⟩,by simp[r2]⟩
  ·cases h
def Lv:Lf→Bool
 |.sc _=>true
 |.own _ r _=>G0 r
 |_=>false
def K8:∀ (t:Ty) (x:t.den),G0 t=true→∀ y∈A6 t x,Lv y=true
 |.i _,_,_=>by simp[A6,Lv]
 |.b,_,_=>by simp[A6,Lv]
 |.s,_,_=>by simp[A6,Lv]
 |.sl _ _,_,h=>by simp[G0]at h
 |.ow _ r,_,h=>by simpa[A6,Lv,G0] using h
 |.pr x y,p,h=>by
  simp only[G0,Va]at h;intro z hz;rcases Vl.1 (show z∈A6 x p.1++A6 y p.2 from hz) with h'|h'
  ·exact K8 x p.1 h.1 z h'
  ·exact K8 y p.2 h.2 z h'
def Xla {P:Program} {S1 S2:Sit} {lab lab':Lab} {y:Lf} {u:Value} (hy:Lv y=true) (hw:S2.w=S1.w) (hl:∀ k,S1.O k=lab→S2.O k=lab') (h:B8 P S1 lab y u):B8 P S2 lab' y u:=by
 cases y with
 |sc v=>exact h
 |own e r xs=>
  obtain⟨bs,h1,h2,h3⟩:=h;exact⟨bs,Ty.dep_all (.ow e r) xs [u] bs hy (λ k _=>by rw[hw]) h1,h2,λ k hk=>hl k (h3 k hk)⟩
 |_=>simp[Lv]at hy
def Sn:∀ (rs:List (RK×Ty)) (x:Den (rs.map Prod.snd)),U1 rs=true→∀ l∈Dk (rs.map Prod.snd) x,∀ y∈l,Lv y=true
 |[],_,_=>λ l hl=>by cases (show l∈([]:List (List Lf)) from hl)
 |[(k,t)],x,h=>by
  intro l hl;have hl':l∈[A6 t x]:=hl;simp at hl';subst hl'
  have:G0 t=true:=by cases k<;>simp[U1]at h<;>exact h
  exact K8 t x this
 |(k,t)::r2::rs,x,h=>by
  intro l hl
  have h2:G0 t=true∧U1 (r2::rs)=true:=by
   cases k<;>simp only[U1,Va]at h<;>first|exact h|cases h
  rcases Vk.1 (show l∈A6 t x.1::Dk ((r2::rs).map Prod.snd) x.2 from hl) with rfl|h'
  ·exact K8 t x.1 h2.1
  ·exact Sn (r2::rs) x.2 h2.2 l h'
end
end

section
attribute [local irreducible] C H
section
variable {X:Cx} {S S':Sit} {a:Act} {E:En} {A:Ab} {o:Oper} {R:Type} {Kc:List Up→Option R} {r:R}
def L3a {P:Program} {w:World} {c:Call} {f:FuncId} {en:Ent} (ho:o.op = .call c) (hc:c.callee = .value (.func f)) (hf:L6 P f en):(execOp a.eval o).run P w = .ok (.enter f (c.args.toList.map a.eval).toArray) w:=by
 obtain⟨fn,h1,h2,h3⟩:=hf.fn
 have e1:c.args.map a.eval=(c.args.toList.map a.eval).toArray:=by
  apply Dhb;simp
 unfold execOp;simp only[ho,resolve,hc,Act.eval,Deferred.ofValue,Wc,Ya,Wb,invoke,callFunc,run_program,h1];rw[if_neg (by rw[h2];simp),if_neg (by rw[h3];simp)];simp only[Ya,Array.append_empty,Array.empty_append];rw[e1]
def Ica {P:Program} {w:World} {c:Call} {f:FuncId} {en:Ent} {t:Nat} {us:List Value} (ho:o.op = .call c) (hc:c.callee = .value (.tmp t)) (hv:a.eval (.tmp t) = .func (.func f) #[] us.toArray) (hf:L6 P f en):
  (execOp a.eval o).run P w = .ok (.enter f (c.args.toList.map a.eval++us).toArray) w:=by
 obtain⟨fn,h1,h2,h3⟩:=hf.fn
 have e1 : #[]++(c.args.map a.eval++us.toArray)=(c.args.toList.map a.eval++us).toArray:=by
  apply Dhb;simp
 have e2 : #[]++c.args.map a.eval++us.toArray=(c.args.toList.map a.eval++us).toArray:=by
  apply Dhb;simp
 unfold execOp;simp only[ho,resolve,hc,hv,Deferred.ofValue,Wc,Ya,Wb,invoke,callFunc,run_program,h1];rw[if_neg (by rw[h2];simp),if_neg (by rw[h3];simp)];simp only[Ya]
 first|rw[e1]|rw[e2]
def Ur {f:FuncId} {args:Array Value} {w:World} {A':Ab} (hr:(execOp a.eval o).run X.P w = .ok (.enter f args) w)
  (h:Calls X.P f args w (λ e w'=>∃ v,e = .returned v∧∃ S',S'.w=w'∧B0 X S' (a.put o.dst v)∧S'.g=get A')):Pea X o a w A':=by
 intro next Q hn;unfold Oper.wp;rw[hr,Oper.upon_enter];intro cs;obtain⟨e,w',fr,⟨v,rfl,S',hw,K',hg'⟩,rest⟩:=h cs;refine⟨_,w',fr,?_,rest⟩;rw[← hw];exact hn S' _ K' hg'
def Qb {P:Program} {f:FuncId} {args:Array Value} {w:World} {R1 R2:Ending→World→Prop} (h:Calls P f args w R1) (hi:∀ e w',R1 e w'→R2 e w'):Calls P f args w R2:=by
 intro cs;obtain⟨e,w',fr,hr,rest⟩:=h cs;exact⟨e,w',fr,hi _ _ hr,rest⟩
def Us:∀ ps:List Par,Mg ps=true→Im ps=[]
 |[],_=>rfl
 |.val _ _::ps,h=>by
  simp only[Mg,Va]at h;exact Us ps h.2
 |.ptr _ _::_,h=>by simp[Mg]at h
 |.hid _ _::_,h=>by simp[Mg]at h
 |.rd _::_,h=>by simp[Mg]at h
 |.fn _ _::_,h=>by simp[Mg]at h
def Pxa {ts:List Ty} {rs:List (RK×Ty)} (he:ts=rs.map Prod.snd) (x:Den ts) (h:U1 rs=true):∀ l∈Dk ts x,∀ y∈l,Lv y=true:=by
 subst he;exact Sn rs x h
def Ng:∀ rs:List (RK×Ty),U1 rs=true→Io rs=false
 |[],_=>rfl
 |(k,t)::rs,h=>by
  cases k with
  |ptr=>simp[U1]at h
  |one=>simp only[U1,Va]at h;exact Ng rs h.2
  |agg=>simp only[U1,Va]at h;exact Ng rs h.2
def Uqa (hE:Hz X E) (K:B0 X S a) (hg:S.g=get A) {xs:List Operand} {f:FuncId} {en:Ent} {ss:List Sv} (hrun:(execOp a.eval o).run X.P S.w = .ok (.enter f (xs.map a.eval).toArray) S.w) (hd:∀ d,o.dst=some d→d<X.nt)
  (hco:L6 X.P f en) (hnv:en.nv=xs.length) (hss:J2 (λ s x=>∃ T,opT E T A x=some s) ss xs) (hl:Mg en.ps=true) (hn:U1 en.rs=true)
  (h:(match Mh A en.ps ss with
  |none=>none
  |some ls=>match Px _ ls with
   |none=>none
   |some x=>(en.run x).bind λ r=>
    match O6 A en.rs (shL E o.dst (Dk _ r)) o.dst with
    |none=>none
    |some rs=>Kc rs)=some r):Gp X o a S.w A Kc r:=by
 split at h
 ·cases h
 ·rename_i ls hls;split at h
  ·cases h
  ·rename_i x hx
   cases hrun':en.run x with
   |none=>rw[hrun']at h;simp at h
   |some y=>
    rw[hrun']at h;simp only[Vt]at h;split at h
    ·cases h
    ·rename_i us hus;obtain⟨hargs,hlen⟩:=B4a (i:=0) hE K hg (λ _=>(0,0)) en.nv ((xs.map a.eval).drop en.nv) en.ps hss hls (Rn _ _ _ hx) hl
     have hs:=hco.sound x y hrun' S.w (Qa S) (λ _=>(0,0)) _ (λ k hk=>K.lt k (λ e=>hk (by simp[Qa,e]))) (λ k b hk=>by unfold Qa at hk;split at hk<;>cases hk) hargs
     rw[Bdb (by rw[Vz,hnv];exact Vv _)]at hs;refine⟨us,h,Ur hrun (Qb hs ?_)⟩;rintro e w' ⟨v,O',rfl,hF,hlt,hres,_⟩;refine⟨v,rfl,?_⟩
     have hsame:∀ k,k<S.w.heap.size→w'.heap[k]? = S.w.heap[k]? ∧ (O' k = .no∨O' k = .fz):=λ k hk=>by
      by_cases h0:S.O k = .no
      ·have:=hF.no k hk (by simp[Qa,h0]);exact⟨this.2,.inl this.1⟩
      ·have:=hF.fz k hk (by simp[Qa,h0]);exact⟨this.2,.inr this.1⟩
     let O2:Nat→Lab:=λ k=>if k<S.w.heap.size then S.O k else O' k
     obtain⟨K1,L1⟩:=K.world (w':=w') (O':=O2) (λ k hk _=>⟨if_pos hk,(hsame k hk).1⟩) hF.os hF.tape hF.out hF.size (λ k hk=>by
      by_cases hkl:k<S.w.heap.size
      ·exact Yf hkl hF.size
      ·exact hlt k (by simpa[O2,hkl] using hk))
     have htm:∀ k i q,O' k = .tm i q→O2 k = .tm i q:=λ k i q hk=>by
      have:¬ k<S.w.heap.size:=λ hkl=>by
       rcases (hsame k hkl).2 with h|h<;>rw[h]at hk<;>cases hk
      simp[O2,this,hk]
     have hnews:=Pxa (by rw[Us en.ps hl,Yc]) y hn;have hres1:Gz X.P (Sd S w' O2) S.w.heap.size en.rs (Dk _ y) v:=Gz.imp (S1:=bare O' w') (S2:=Sd S w' O2) rfl (λ k i hk=>htm k i [] hk) (λ l hl' z hz i q u hu=>Xla (S1:=bare O' w') (S2:=Sd S w' O2) (hnews l hl' z hz) rfl (λ k hk=>htm k i q hk) hu) hres;obtain⟨S2,K2,w2,g2⟩:=G3a (E:=E) K1 (A1:=A) hg (λ h=>by rw[Ng _ hn]at h;cases h) hd K.fr.size (Hn _ y) (λ d' _ h=>by rw[Ng _ hn]at h;cases h) hres1 hus;exact⟨S2,w2,K2,g2⟩
end
end

section
attribute [local irreducible] C H
def U4:List Ty→List Lf→Prop
 |.ow _ _::ts,_::l=>U4 ts l
 |_::ts,x::l=>x.isOwn=false∧U4 ts l
 |[],[]=>True
 |_,_=>False
def Ida (z:Lf):(Kf z).isOwn=false:=by cases z<;>rfl
def Lw:∀ (ts:List Ty) (l:List Lf) {A:Ab} {m:List Lf} {us:List Up},Fe A ts l=some (m,us)→U4 ts m
 |[],[],A,m,us,h=>by
  simp only[Fe,Vc,Vx]at h;obtain⟨rfl,_⟩:=h;trivial
 |[],_::_,A,m,us,h=>by simp[Fe]at h
 |t::ts,[],A,m,us,h=>by cases t<;>simp[Fe]at h
 |t::ts,x::l,A,m,us,h=>by
  cases t with
  |ow e r=>
   simp only[Fe]at h;split at h
   ·split at h
    ·rename_i hr;cases h;exact Lw ts l hr
    ·cases h
   ·cases h
  |_=>
   simp only[Fe]at h;split at h
   ·rename_i hr;cases h;exact⟨Ida _,Lw ts l hr⟩
   ·cases h
def Ut {A:Ab} {x:Operand} {s:Sv} {t:Ty} {m:List Lf} {us:List Up} (h:Pz A x s t=some (m,us)):U4 (H3 t) m:=by
 unfold Pz Py at h;split at h
 ·rename_i m0 vs0 ht;cases hst:A4 m0
  ·rw[hst]at h;simp at h
  rw[hst]at h;simp only[cond_true,Vc,Vx]at h;obtain⟨rfl,rfl⟩:=h;exact Lw _ _ ht
 ·cases h
def Qc {A:Ab} {b v:Nat} {t t':Ty} {m:List Lf} {us:List Up} (h:O5 A b v t t'=some (m,us)):U4 (H3 t) m:=by
 unfold O5 at h;split at h
 ·rename_i n hd hp;obtain⟨hq,h⟩:=cs h;split at h
  ·rename_i l us0 hx;cases hst:A4 l
   ·rw[hst]at h;simp at h
   rw[hst]at h;simp only[cond_true,Vc,Vx]at h;obtain⟨rfl,rfl⟩:=h;exact Lw _ _ hx
  ·cases h
 ·cases h
def Pya {P:Program} {S:Sit} {f:Nat→Lab}:∀ (t:Ty) (ts:List Ty) (l l':List Lf) (x:t.den) (j:Nat) (us:List Value),U4 (H3 t++ts) l→mkT t l=some (x,l')→Aa P S f j l us→Aa P S f j (A6 t x++l') us∧U4 ts l':=by
 intro t
 induction t with
 |pr p q ihp ihq=>
  intro ts l l' x j us h hm hl;simp only[H3,Vo]at h;simp only[mkT]at hm;split at hm
  ·rename_i y l1 h1;split at hm
   ·rename_i z l2 h2;simp only[Vc,Vx]at hm;obtain⟨rfl,rfl⟩:=hm;obtain⟨h3,h4⟩:=ihp _ _ _ _ j us h h1 hl
    have key:∀ (a:List Lf) (j:Nat) (us:List Value),Aa P S f j (a++l1) us→Aa P S f j (a++(A6 q z++l2)) us∧U4 ts l2:=by
     intro a
     induction a with
     |nil=>intro j us h5;exact ihq _ _ _ _ j us h4 h2 h5
     |cons b a ih=>
      intro j us h5
      cases us with
      |nil=>exact h5.elim
      |cons u us=>exact⟨⟨h5.1,(ih (j+1) us h5.2).1⟩,(ih (j+1) us h5.2).2⟩
    have h5:=key _ j us h3;rw[← Vo]at h5;exact h5
   ·cases hm
  ·cases hm
 |ow e r _=>
  intro ts l l' x j us hf hm hl
  cases l with
  |nil=>simp[mkT]at hm
  |cons z l=>
   cases us with
   |nil=>exact hl.elim
   |cons u us=>
    cases z<;>first|(simp[mkT]at hm;done)|skip
    rename_i e' r' xs;simp only[mkT]at hm;rw[csi]at hm;obtain⟨hb,hm⟩:=hm;have he:e=e':=Ve hb;subst he;split at hm
    ·rename_i ys hys;simp only[Vc,Vx]at hm;obtain⟨rfl,rfl⟩:=hm;exact⟨⟨Eo.cast hys hl.1,hl.2⟩,hf⟩
    ·cases hm
 |sl e r _=>
  intro ts l l' x j us hf hm hl
  cases l with
  |nil=>simp[mkT]at hm
  |cons z l=>
   cases us with
   |nil=>exact hl.elim
   |cons u us=>
    obtain⟨hz,hf⟩:z.isOwn=false∧U4 ts l:=hf
    cases z<;>first|(simp[mkT]at hm;done)|(simp[Lf.isOwn]at hz;done)|skip
    rename_i e' r' xs;simp only[mkT]at hm;rw[csi]at hm;obtain⟨hb,hm⟩:=hm;have he:e=e':=Ve hb;subst he;split at hm
    ·rename_i ys hys;simp only[Vc,Vx]at hm;obtain⟨rfl,rfl⟩:=hm;exact⟨⟨Ox hys hl.1,hl.2⟩,hf⟩
    ·cases hm
 |i k=>
  intro ts l l' x j us hf hm hl
  cases l with
  |nil=>simp[mkT]at hm
  |cons z l=>
   cases z<;>first|(simp[mkT]at hm;done)|skip
   rename_i v
   cases v<;>first|(simp[mkT]at hm;done)|skip
   rename_i k' n;simp only[mkT]at hm
   by_cases hk:k=k'
   ·subst hk;simp at hm;obtain⟨rfl,rfl⟩:=hm;exact⟨hl,hf.2⟩
   ·simp[hk]at hm
 |b=>
  intro ts l l' x j us hf hm hl
  cases l with
  |nil=>simp[mkT]at hm
  |cons z l=>
   cases z<;>first|(simp[mkT]at hm;done)|skip
   rename_i v
   cases v<;>first|(simp[mkT]at hm;done)|skip
   simp[mkT]at hm;obtain⟨rfl,rfl⟩:=hm;exact⟨hl,hf.2⟩
 |s=>
  intro ts l l' x j us hf hm hl
  cases l with
  |nil=>simp[mkT]at hm
  |cons z l=>
   cases z<;>first|(simp[mkT]at hm;done)|skip
   rename_i v
   cases v<;>first|(simp[mkT]at hm;done)|skip
   simp[mkT]at hm;obtain⟨rfl,rfl⟩:=hm;exact⟨hl,hf.2⟩
def Nh {P:Program} {S:Sit} {f:Nat→Lab} {t:Ty} {l:List Lf} {x:t.den} {j:Nat} {us:List Value} (hf:U4 (H3 t) l) (h:mkW t l=some x) (hl:Aa P S f j l us):Aa P S f j (A6 t x) us:=by
 unfold mkW at h;split at h
 ·rename_i y hy;cases h;have:=(Pya t [] l [] _ j us (by rw[Yc];exact hf) hy hl).1;rwa [Yc]at this
 ·cases h
def Xma {Q:Nat→Lf→Value→Prop} (hqo:∀ j e r r' (xs:List (Ty.den r')) (ys:List (Ty.den r)) u,R7 r r' xs=some ys→Q j (.own e r' xs) u→Q j (.own e r ys) u) (hqf:∀ j e r r' (xs:List (Ty.den r')) (ys:List (Ty.den r)) u,O3 r r' xs=some ys→Q j (.fz e r' xs) u→Q j (.fz e r ys) u):∀ (t:Ty) (ts:List Ty) (l l':List Lf) (x:t.den) (j:Nat) (us:List Value),U4 (H3 t++ts) l→mkT t l=some (x,l')→Xb Q j l us→Xb Q j (A6 t x++l') us∧U4 ts l':=by
 intro t
 induction t with
 |pr p q ihp ihq=>
  intro ts l l' x j us h hm hl;simp only[H3,Vo]at h;simp only[mkT]at hm;split at hm
  ·rename_i y l1 h1;split at hm
   ·rename_i z l2 h2;simp only[Vc,Vx]at hm;obtain⟨rfl,rfl⟩:=hm;obtain⟨h3,h4⟩:=ihp _ _ _ _ j us h h1 hl
    have key:∀ (a:List Lf) (j:Nat) (us:List Value),Xb Q j (a++l1) us→Xb Q j (a++(A6 q z++l2)) us∧U4 ts l2:=by
     intro a
     induction a with
     |nil=>intro j us h5;exact ihq _ _ _ _ j us h4 h2 h5
     |cons b a ih=>
      intro j us h5
      cases us with
      |nil=>exact h5.elim
      |cons u us=>exact⟨⟨h5.1,(ih (j+1) us h5.2).1⟩,(ih (j+1) us h5.2).2⟩
    have h5:=key _ j us h3;rw[← Vo]at h5;exact h5
   ·cases hm
  ·cases hm
 |ow e r _=>
  intro ts l l' x j us hf hm hl
  cases l with
  |nil=>simp[mkT]at hm
  |cons z l=>
   cases us with
   |nil=>exact hl.elim
   |cons u us=>
    cases z<;>first|(simp[mkT]at hm;done)|skip
    rename_i e' r' xs;simp only[mkT]at hm;rw[csi]at hm;obtain⟨hb,hm⟩:=hm;have he:e=e':=Ve hb;subst he;split at hm
    ·rename_i ys hys;simp only[Vc,Vx]at hm;obtain⟨rfl,rfl⟩:=hm;exact⟨⟨hqo _ _ _ _ _ _ _ hys hl.1,hl.2⟩,hf⟩
    ·cases hm
 |sl e r _=>
  intro ts l l' x j us hf hm hl
  cases l with
  |nil=>simp[mkT]at hm
  |cons z l=>
   cases us with
   |nil=>exact hl.elim
   |cons u us=>
    obtain⟨hz,hf⟩:z.isOwn=false∧U4 ts l:=hf
    cases z<;>first|(simp[mkT]at hm;done)|(simp[Lf.isOwn]at hz;done)|skip
    rename_i e' r' xs;simp only[mkT]at hm;rw[csi]at hm;obtain⟨hb,hm⟩:=hm;have he:e=e':=Ve hb;subst he;split at hm
    ·rename_i ys hys;simp only[Vc,Vx]at hm;obtain⟨rfl,rfl⟩:=hm;exact⟨⟨hqf _ _ _ _ _ _ _ hys hl.1,hl.2⟩,hf⟩
    ·cases hm
 |i k=>
  intro ts l l' x j us hf hm hl
  cases l with
  |nil=>simp[mkT]at hm
  |cons z l=>
   cases z<;>first|(simp[mkT]at hm;done)|skip
   rename_i v
   cases v<;>first|(simp[mkT]at hm;done)|skip
   rename_i k' n;simp only[mkT]at hm
   by_cases hk:k=k'
   ·subst hk;simp at hm;obtain⟨rfl,rfl⟩:=hm;exact⟨hl,hf.2⟩
   ·simp[hk]at hm
 |b=>
  intro ts l l' x j us hf hm hl
  cases l with
  |nil=>simp[mkT]at hm
  |cons z l=>
   cases z<;>first|(simp[mkT]at hm;done)|skip
   rename_i v
   cases v<;>first|(simp[mkT]at hm;done)|skip
   simp[mkT]at hm;obtain⟨rfl,rfl⟩:=hm;exact⟨hl,hf.2⟩
 |s=>
  intro ts l l' x j us hf hm hl
  cases l with
  |nil=>simp[mkT]at hm
  |cons z l=>
   cases z<;>first|(simp[mkT]at hm;done)|skip
   rename_i v
   cases v<;>first|(simp[mkT]at hm;done)|skip
   simp[mkT]at hm;obtain⟨rfl,rfl⟩:=hm;exact⟨hl,hf.2⟩
def Xna {Q:Nat→Lf→Value→Prop} (hqo:∀ j e r r' (xs:List (Ty.den r')) (ys:List (Ty.den r)) u,R7 r r' xs=some ys→Q j (.own e r' xs) u→Q j (.own e r ys) u) (hqf:∀ j e r r' (xs:List (Ty.den r')) (ys:List (Ty.den r)) u,O3 r r' xs=some ys→Q j (.fz e r' xs) u→Q j (.fz e r ys) u) {t:Ty} {l:List Lf} {x:t.den} {j:Nat} {us:List Value} (hf:U4 (H3 t) l) (h:mkW t l=some x) (hl:Xb Q j l us):Xb Q j (A6 t x) us:=by
 unfold mkW at h;split at h
 ·rename_i y hy;cases h;have:=(Xma hqo hqf t [] l [] _ j us (by rw[Yc];exact hf) hy hl).1;rwa [Yc]at this
 ·cases h
def Iea {r:Ty} (xs:List r.den):O3 r r xs=some xs:=by
 unfold O3;rw[dif_pos rfl];rfl
def Ifa {r:Ty} (xs:List r.den):R7 r r xs=some xs:=by
 unfold R7;rw[dif_pos rfl]
def Qd:∀ (t:Ty) (x:t.den) (l:List Lf),mkT t (A6 t x++l)=some (x,l)
 |.i _,_,_=>by simp[A6,mkT]
 |.b,_,_=>by simp[A6,mkT]
 |.s,_,_=>by simp[A6,mkT]
 |.sl _ _,_,_=>by simp[A6,mkT,Iea]
 |.ow _ _,_,_=>by simp[A6,mkT,Ifa]
 |.pr x y,p,l=>by
  show mkT (.pr x y) ((A6 x p.1++A6 y p.2)++l)=_;rw[Vo];simp only[mkT];rw[Qd x p.1];simp only;rw[Qd y p.2]
def Iga (t:Ty) (x:t.den):mkW t (A6 t x)=some x:=by
 unfold mkW;have:=Qd t x [];rw[Yc]at this;rw[this]
def So (S:Sit) (b:Nat×Nat):Value := .pointer (some ⟨(S.bb b.1).1,(S.bb b.1).2+0,none⟩)
def nmV (i:Nat):Nat:=10+2*i
def nmB (B:Nat):Nat:=11+2*B
def Ura (P:Program) (S:Sit) (B:Nat) (t t':Ty) (l:List Lf) (u:Value) (bs:List (Nat×Nat)):Prop:=
 ∃ b,bs=[(b,B)]∧u = .pointer (some ⟨(S.bb b).1,(S.bb b).2,none⟩)∧(S.g (H b)).2 = .one (.hd t.sz)∧t'.sz=t.sz∧l.length=t.sz∧A4 l=true∧U4 (H3 t) l∧
  Aa P S (λ j => .tm (nmB B) [j]) 0 l ((List.range t.sz).map λ j=>S.ph (C b (0+j)))
def Xoa (P:Program) (S:Sit) (cb hb:List (Nat×Nat)) (nv i:Nat):Par→List Lf→Value→List (Nat×Nat)→Prop
 |.vw t h,l,u,bs=>bs=[]∧nv≤h∧l.length=t.sz∧U4 (H3 t) l∧∃ c vs,nth hb (h-nv)=some c∧(S.g (H c.1)).2 = .one (.hd t.sz)∧u = .agg vs.toArray∧Xb (Iaa P S (λ j=>S.ph (C c.1 j))) 0 l vs
 |.val ag t,l,u,bs=>bs=[]∧A4 l=true∧U4 (H3 t) l∧∃ us,(if ag then u = .agg us.toArray else us=[u])∧Aa P S (λ n => .tm (nmV i) (if ag then [n] else [])) 0 l us
 |.ptr t t',l,u,bs=>Ura P S (bid nv i) t t' l u bs
 |.hid t t',l,u,bs=>Ura P S (bid nv i) t t' l u bs
 |.rd t,l,u,bs=>bs=[]∧∃ r x k o cs,l=lvs r x∧shp r=shp t∧Ib t=true∧u = .pointer (some ⟨k,o,none⟩)∧S.O k = .fz∧r.rep P (λ k=>S.O k = .fz) S.w x cs∧Dz S.w k o cs
 |.fn F m,_,u,bs=>bs=[]∧m=cb.length∧u = .func (.func F) #[] (cb.map (So S)).toArray
def Dya (P:Program) (S:Sit) (cb hb:List (Nat×Nat)) (nv:Nat):Nat→List Par→List (List Lf)→List Value→List (Nat×Nat)→Prop
 |_,[],[],[],bs=>bs=[]
 |i,p::ps,l::ls,u::us,bs=>∃ b1 b2,bs=b1++b2∧Xoa P S cb hb nv i p l u b1∧Dya P S cb hb nv (i+1) ps ls us b2
 |_,_,_,_,_=>False
def L4a {nv i j:Nat} (hn:nv≤1000) (h:bid nv i=bid nv j):i=j:=by
 unfold bid at h
 cases h1:Nat.blt i nv<;>cases h2:Nat.blt j nv<;>rw[h1,h2]at h<;>simp only[cond_true,cond_false]at h
 ·have h3:¬ i<nv:=λ h'=>by rw[show Nat.blt i nv=true from Zn h']at h1;cases h1
  have h4:¬ j<nv:=λ h'=>by rw[show Nat.blt j nv=true from Zn h']at h2;cases h2
  omega
 ·have h4:j<nv:=Vj h2;omega
 ·have h4:i<nv:=Vj h1;omega
 ·exact h
section
variable {X:Cx} {S S1 S2:Sit} {a:Act} {E:En} {A:Ab} {o:Oper} {R:Type} {Kc:List Up→Option R} {r:R}
def exA (nv i:Nat):Nat→List Nat→Prop:=λ n _=>∃ j,i≤j∧(n=nmV j∨n=nmB (bid nv j))
def L5a {nv i j:Nat} (hn:nv≤1000) (h:j<i) (q:List Nat):¬ exA nv i (nmV j) q∧¬ exA nv i (nmB (bid nv j)) q:=by
 refine⟨λ ⟨k,h1,h2⟩=>?_,λ ⟨k,h1,h2⟩=>?_⟩
 ·unfold nmV nmB at h2;omega
 ·unfold nmV nmB at h2;rcases h2 with h2|h2
  ·omega
  ·have:bid nv j=bid nv k:=by omega
   have:=L4a hn this;omega
def Xb.imp {Q Q':Nat→Lf→Value→Prop} (h:∀ j x u,Q j x u→Q' j x u):∀ {l:List Lf} {j:Nat} {us:List Value},Xb Q j l us→Xb Q' j l us
 |[],_,[],_=>trivial
 |[],_,_::_,h'=>h'.elim
 |_::_,_,[],h'=>h'.elim
 |_::_,j,_::_,h'=>⟨h _ _ _ h'.1,Xb.imp h h'.2⟩
def Iaa.later {P:Program} {S S':Sit} {w w':Nat→Value} {j:Nat} {x:Lf} {u:Value} (hw:w'=w) (hl:∀ x u,Oza x=true→B8 P S .fz x u→B8 P S' .fz x u) (h:Iaa P S w j x u):Iaa P S' w' j x u:=by
 subst hw
 cases x<;>first|exact h|exact⟨h.1,hl _ _ h.1 h.2⟩
def Xoa.stay {cb hb:List (Nat×Nat)} {nv i j:Nat} {p:Par} {l:List Lf} {u:Value} {bs:List (Nat×Nat)} (hn:nv≤1000) (h:Ff X S S1 (exA nv i)) (hj:j<i) (hp:Xoa X.P S cb hb nv j p l u bs):Xoa X.P S1 cb hb nv j p l u bs:=by
 have hfz:∀ k,S.O k = .fz→S1.O k = .fz:=λ k hk=>(h.later.fz k hk).1
 have box:∀ {t t':Ty},Ura X.P S (bid nv j) t t' l u bs→Ura X.P S1 (bid nv j) t t' l u bs:=by
  rintro t t' ⟨b,h1,h2,h3,h4,h5,h6,h7,h8⟩;refine⟨b,h1,by rw[h.bb];exact h2,by rw[h.heads b _ h3];exact h3,h4,h5,h6,h7,?_⟩;rw[h.ph];exact h8.imp (λ n x u hx=>h.tms _ _ _ _ (L5a hn hj _).2 hx)
 cases p with
 |vw t h0=>
  obtain⟨h1,h2,h3,h4,c,vs,h5,h6,h7,h8⟩:=hp;refine⟨h1,h2,h3,h4,c,vs,h5,by rw[h.heads c.1 _ h6];exact h6,h7,h8.imp (λ j x u hx=>hx.later (by rw[h.ph]) (λ x u hs hx=>?_))⟩;exact B8.later h.later hx (λ k hk=>⟨hfz k hk,by rw[h.w]⟩)
 |val ag t=>
  obtain⟨h1,h2,h3,us,h4,h5⟩:=hp;exact⟨h1,h2,h3,us,h4,h5.imp (λ n x u hx=>h.tms _ _ _ _ (L5a hn hj _).1 hx)⟩
 |ptr t t'=>exact box hp
 |hid t t'=>exact box hp
 |rd t=>
  obtain⟨h1,r',x,k,o',cs,h2,h3,h4,h5,h6,h7,h8⟩:=hp;exact⟨h1,r',x,k,o',cs,h2,h3,h4,h5,hfz k h6,Ty.rep_mono hfz (λ k _=>by rw[h.w]) r' x cs h7,h8.mono (by rw[h.w])⟩
 |fn F m=>
  obtain⟨h1,h2,h3⟩:=hp;refine⟨h1,h2,?_⟩
  have:So S1=So S:=by funext b;unfold So;rw[h.bb]
  rw[this];exact h3
def L6a:∀ {l m:List (Nat×Nat)},Sda l m=true→l=m
 |[],[],_=>rfl
 |[],_::_,h=>by simp[Sda]at h
 |_::_,[],h=>by simp[Sda]at h
 |(a1,a2)::l,(b1,b2)::m,h=>by
  simp only[Sda,Va]at h;have e1:a1=b1:=Ve h.1.1;have e2:a2=b2:=Ve h.1.2;rw[e1,e2,L6a h.2]
def Sp (hg:S.g=get A):∀ {bs:List (Nat×Nat)} {us:List Value},S8 S bs us→Jx A bs=true→us=bs.map (So S)
 |[],us,h,_=>h
 |c::bs,us,⟨u,us',e,⟨h1,h2⟩,h3⟩,ha=>by
  simp only[Jx,Va]at ha
  have e1:(S.g (H c.1)).1=c.2:=by rw[hg];exact Ve ha.1
  subst e;rw[Xs,Sp hg h3 ha.2,h2 e1];rfl
def L7a {ag:Bool} {s:Sv} (h:Id ag s=true):∀ n,pth s n=if ag then [n] else []:=by
 intro n
 cases s with
 |tup vs=>simp[Id,Jqa]at h
 |one z=>cases ag<;>simp[Id,Jqa]at h ⊢;rfl
 |agg z=>cases ag<;>simp[Id,Jqa]at h ⊢;rfl
def Pza {x:Operand} {b v off:Nat} {t:Ty} {m:List Lf} {us:List Up} (h:Pz A x (.one (.bp b v off)) t=some (m,us)):False:=by
 unfold Pz Py at h;split at h
 ·rename_i m0 vs0 ht
  have hm:m0=[.bp b v off]∨False:=by
   have e1:parts (.one (.bp b v off))=[.bp b v off]:=rfl;rw[e1]at ht;generalize H3 t=ts at ht
   cases ts with
   |nil=>simp[Fe]at ht
   |cons t ts=>
    cases ts with
    |cons t2 ts=>
     obtain⟨_,h2⟩:=Kw _ _ ht;simp at h2
    |nil=>
     cases t<;>first|(simp[Fe,Dda,Ih]at ht;done)|skip
     all_goals
      simp[Fe,Rf,kept,Kf]at ht;exact .inl ht.1.symm
  rcases hm with rfl|h0
  ·simp[A4]at h
  ·exact h0
 ·cases h
def Dza {A:Ab} {S:Sit} {X:Cx} {a:Act} (K:B0 X S a) (hg:S.g=get A) {b l0:Nat}:∀ (ts:List Ty) {j:Nat} {l m:List Lf} {us:List Value},Dfa A b j ts l=some m→Aa X.P S (λ n => .pl l0 [n]) j l us→
  U4 ts m∧m.length=ts.length∧Xb (Iaa X.P S (λ j=>S.ph (C b j))) j m us
 |[],j,[],m,us,h,hl=>by
  simp only[Dfa,Vc]at h;subst h
  cases us with
  |nil=>exact⟨trivial,rfl,trivial⟩
  |cons=>exact hl.elim
 |[],j,_::_,m,us,h,hl=>by simp[Dfa]at h
 |t::ts,j,[],m,us,h,hl=>by cases t<;>simp[Dfa]at h
 |t::ts,j,x::l,m,us,h,hl=>by
  cases us with
  |nil=>exact hl.elim
  |cons u us=>
   have share:∀ {m':List Lf},Oza (Ih A x)=true→Dfa A b (j+1) ts l=some m'→(∀ m'',U4 (t::ts) (Ih A x::m'')↔((Ih A x).isOwn=false∧U4 ts m''))→U4 (t::ts) (Ih A x::m')∧(Ih A x::m').length=(t::ts).length∧Xb (Iaa X.P S (λ j=>S.ph (C b j))) j (Ih A x::m') (u::us):=by
    intro m' hs hr hf;obtain⟨h1,h2,h3⟩:=Dza K hg ts hr hl.2;obtain⟨lab',h4⟩:=O7 K hg hl.1
    refine⟨(hf m').2 ⟨by cases hx:Ih A x<;>rw[hx]at hs<;>first|rfl|simp[Oza]at hs,h1⟩,by simp[h2],?_,h3⟩
    have h5:B8 X.P S .fz (Ih A x) u:=by
     cases hx:Ih A x<;>rw[hx]at hs h4<;>first|exact B8.relab (lab' := .fz) rfl h4|simp[Oza]at hs
    cases hx:Ih A x<;>rw[hx]at hs h5<;>first|exact⟨rfl,h5⟩|simp[Oza]at hs
   cases t with
   |ow e r=>
    cases x<;>first|(simp[Dfa]at h;done)|skip
    rename_i p v;simp only[Dfa]at h;obtain⟨hq,h⟩:=cs h;simp only[Va]at hq;split at h
    ·rename_i y hy;split at h
     ·rename_i m' hr;cases h;obtain⟨h1,h2,h3⟩:=Dza K hg ts hr hl.2;have hal:B8 X.P S (.pl l0 [j]) (.al p v) u:=hl.1;have hu:=hal.2 (by rw[hg];exact Ve hq.2)
      have hyo:∃ ys,y = .own e r ys:=by
       unfold Dda at hy;split at hy
       ·generalize Nat.beq e _=bb at hy;cases bb
        ·simp at hy
        rw[cond_true]at hy;split at hy
        ·simp only[Vc]at hy;exact⟨_,hy.symm⟩
        ·obtain⟨hno,hy⟩:=cs hy;split at hy
         ·simp only[Vc]at hy;exact⟨_,hy.symm⟩
         ·cases hy
       ·cases hy
      obtain⟨ys,rfl⟩:=hyo;refine⟨h1,by simp[h2],?_,h3⟩;show u=S.ph (C b j);rw[hu,Ve hq.1]
     ·cases h
    ·cases h
   |_=>
    simp only[Dfa]at h;obtain⟨hs,h⟩:=cs h;split at h
    ·rename_i m' hr;cases h;exact share hs hr (λ m''=>Deb)
    ·cases h
def Q0a (hE:Hz X E) (K:B0 X S a) (hg:S.g=get A) {cb hb:List (Nat×Nat)} {nv i:Nat} {x:Operand} {s:Sv} {v:Value} {p:Par} {l:List Lf} {us:List Up} {bs:List Nat} (hx:(∃ T,opT E T A x=some s∧v=a.eval x)∨(∃ h:Nat×Nat,s = .one (.bp h.1 h.2 0)∧v=So S h)) (h:R8 A cb hb nv x p s=some (l,us,bs)):
  ∃ S1 bp,B0 X S1 a∧S1.g=get (ups A us)∧Ff X S S1 (exA nv i)∧bp.map Prod.fst=bs∧Xoa X.P S1 cb hb nv i p l v bp:=by
 have box:∀ {t t':Ty} {b w:Nat},s = .one (.bp b w 0)→(match O5 A b w t t' with|some (m,us)=>some (m,us,[b])|none=>none)=some (l,us,bs)→∃ S1 bp,B0 X S1 a∧S1.g=get (ups A us)∧Ff X S S1 (exA nv i)∧bp.map Prod.fst=bs∧Ura X.P S1 (bid nv i) t t' l v bp:=by
  intro t t' b w hs h;split at h
  ·rename_i m us' hgive;cases h;obtain⟨g1,g2,g3,g4,g5,S1,K1,g6,G,hl⟩:=Rk K hg hgive (nmB (bid nv i));refine⟨S1,[(b,bid nv i)],K1,g6,Ff.trans (λ n q h=>h) (λ n q h=>⟨i,Vv _,.inr h⟩) (Ff.refl S (exA nv i)) G,rfl,b,rfl,?_,by rw[G.heads b _ g2];exact g2,g3,g5,g4,Qc hgive,by rw[G.ph];exact hl⟩;rw[G.bb];rcases hx with⟨T,h1,rfl⟩|⟨h',h1,rfl⟩
   ·obtain⟨pl,h2⟩:=Gj hE K hg h1;rw[hs]at h2;have h3:B8 X.P S (.pl pl []) (.bp b w 0) (a.eval x):=h2;exact h3.2 g1
   ·rw[hs]at h1;simp only[Sv.one.injEq,Lf.bp.injEq]at h1;unfold So;rw[← h1.1];rfl
  ·cases h
 unfold R8 at h;split at h
 ·rename_i t h0 ys;split at h
  ·rename_i c hc;split at h
   ·rename_i n m hp;obtain⟨hq,h⟩:=cs h;simp only[Va]at hq;split at h
    ·rename_i l0 hvw;cases h;rcases hx with⟨T,h1,rfl⟩|⟨h',h1,_⟩
     ·obtain⟨pl,h2⟩:=Gj hE K hg h1;obtain⟨vs,e1,e2⟩:∃ us:List Value,a.eval x = .agg us.toArray∧Aa X.P S (λ j => .pl pl [j]) 0 ys us:=h2;obtain⟨f1,f2,f3⟩:=Dza K hg _ hvw e2;exact⟨S,[],K,hg,Ff.refl S _,rfl,rfl,Vj hq.1.1,by rw[f2,Jo],f1,c,vs,hc,by rw[hg,hp,Ve hq.2],e1,f3⟩
     ·cases h1
    ·cases h
   ·cases h
  ·cases h
 ·rename_i ag t;obtain⟨hq,h⟩:=cs h;split at h
  ·rename_i m us' hgive;cases h;rcases hx with⟨T,h1,rfl⟩|⟨h',h1,_⟩
   ·obtain⟨S1,K1,g1,G,h2,_,vs,hsh,hl⟩:=Fta hE K hg (.inl h1) (L2a hq) hgive (nmV i);have hp:=L7a hq;simp only[hp]at hl;exact⟨S1,[],K1,g1,Ff.trans (λ n q h=>h) (λ n q h=>⟨i,Vv _,.inl h⟩) (Ff.refl S (exA nv i)) G,rfl,rfl,h2,Ut hgive,vs,Uo hq hsh,hl⟩
   ·rw[h1]at hgive;exact(Pza hgive).elim
  ·cases h
 ·exact box rfl h
 ·exact box rfl h
 ·rename_i t r' y;cases hq:(decide (shp r'=shp t)&&Ib t)
  ·rw[hq]at h;simp at h
  rw[hq]at h;simp only[cond_true,Vc,Vx]at h;obtain⟨rfl,rfl,rfl⟩:=h;simp only[Va,decide_eq_true_eq]at hq;rcases hx with⟨T,h1,rfl⟩|⟨h',h1,_⟩
  ·obtain⟨pl,h2⟩:=Gj hE K hg h1;obtain⟨k,o',cs,e1,e2,e3,e4⟩:B8 X.P S (.pl pl []) (.fp r' y 0) (a.eval x):=h2;exact⟨S,[],K,hg,Ff.refl S _,rfl,rfl,r',y,k,o',cs,rfl,hq.1,hq.2,e1,e2,e3,e4⟩
  ·cases h1
 ·rename_i F m F' bs';cases hq:(Nat.beq F F'&&Nat.beq m bs'.length&&Sda bs' cb&&Jx A bs')
  ·rw[hq]at h;simp at h
  rw[hq]at h;simp only[cond_true,Vc,Vx]at h;obtain⟨rfl,rfl,rfl⟩:=h;simp only[Va]at hq;obtain⟨⟨⟨q1,q2⟩,q3⟩,q4⟩:=hq;have e1:F=F':=Ve q1;have e2:m=bs'.length:=Ve q2;have e3:=L6a q3;subst e1 e3;rcases hx with⟨T,h1,rfl⟩|⟨h',h1,_⟩
  ·obtain⟨pl,h2⟩:=Gj hE K hg h1;obtain⟨us',e4,e5⟩:B8 X.P S (.pl pl []) (.fn F bs') (a.eval x):=h2;have e6:=Sp hg e5 q4;subst e6;exact⟨S,[],K,hg,Ff.refl S _,rfl,rfl,e2,e4⟩
  ·cases h1
 ·cases h
def B5a (hE:Hz X E) {cb hb:List (Nat×Nat)} {nv:Nat} (hn:nv≤1000):∀ (ps:List Par) {xs:List (TypeId×Operand)} {hs:List (Nat×Nat)} {S:Sit} {A:Ab} {ls:List (List Lf)} {us:List Up} {bs:List Nat} (i:Nat),B0 X S a→S.g=get A→Jd E cb hb nv A xs hs ps=some (ls,us,bs)→
  ∃ S1 bp,B0 X S1 a∧S1.g=get (ups A us)∧Ff X S S1 (exA nv i)∧bp.map Prod.fst=bs∧Dya X.P S1 cb hb nv i ps ls (xs.map (λ x=>a.eval x.2)++hs.map (So S)) bp
 |[],xs,hs,S,A,ls,us,bs,i,K,hg,h=>by
  cases xs with
  |cons=>simp[Jd]at h
  |nil=>
   cases hs with
   |cons=>simp[Jd]at h
   |nil=>
    simp only[Jd,Vc,Vx]at h;obtain⟨rfl,rfl,rfl⟩:=h;exact⟨S,[],K,hg,Ff.refl S _,rfl,rfl⟩
 |p::ps,xs,hs,S,A,ls,us,bs,i,K,hg,h=>by
  have go:∀ {x:Operand} {s:Sv} {v:Value} {xs':List (TypeId×Operand)} {hs':List (Nat×Nat)} {l:List Lf} {u:List Up} {b:List Nat} {ls1:List (List Lf)} {us1:List Up} {bs1:List Nat},((∃ T,opT E T A x=some s∧v=a.eval x)∨(∃ h:Nat×Nat,s = .one (.bp h.1 h.2 0)∧v=So S h))→R8 A cb hb nv x p s=some (l,u,b)→Jd E cb hb nv (ups A u) xs' hs' ps=some (ls1,us1,bs1)→
    ∃ S1 bp,B0 X S1 a∧S1.g=get (ups A (u++us1))∧Ff X S S1 (exA nv i)∧bp.map Prod.fst=b++bs1∧Dya X.P S1 cb hb nv i (p::ps) (l::ls1) (v::(xs'.map (λ x=>a.eval x.2)++hs'.map (So S))) bp:=by
   intro x s v xs' hs' l u b ls1 us1 bs1 hx h1 h2;obtain⟨S1,b1,K1,g1,G1,e1,p1⟩:=Q0a (nv:=nv) (i:=i) hE K hg hx h1;obtain⟨S2,b2,K2,g2,G2,e2,p2⟩:=B5a hE hn ps (i+1) K1 g1 h2
   have hpv:So S1=So S:=by funext b;unfold So;rw[G1.bb]
   rw[hpv]at p2;exact⟨S2,b1++b2,K2,by rw[Ay];exact g2,Ff.trans (λ _ _ h=>h) (λ n q ⟨j,h1,h2⟩=>⟨j,by omega,h2⟩) G1 G2,by rw[Bqb,e1,e2],b1,b2,rfl,p1.stay hn G2 (by omega),p2⟩
  cases xs with
  |cons x xs=>
   simp only[Jd]at h;split at h
   ·rename_i s hs1;split at h
    ·rename_i l u b hb;split at h
     ·rename_i ls1 us1 bs1 hrec;cases h;exact go (.inl ⟨x.1,hs1,rfl⟩) hb hrec
     ·cases h
    ·cases h
   ·cases h
  |nil=>
   cases hs with
   |nil=>simp[Jd]at h
   |cons h0 hs=>
    simp only[Jd]at h;split at h
    ·rename_i l u b hb;split at h
     ·rename_i ls1 us1 bs1 hrec;cases h;exact go (xs':=[]) (.inr ⟨h0,rfl,rfl⟩) hb hrec
     ·cases h
    ·cases h
end
end

section
attribute [local irreducible] C H
def lkF:List (Nat×Nat)→Nat→Option Nat
 |[],_=>none
 |c::l,x=>if c.1=x then some c.2 else lkF l x
def lkS:List (Nat×Nat)→Nat→Option Nat
 |[],_=>none
 |c::l,x=>if c.2=x then some c.1 else lkS l x
def E0a:∀ {l:List (Nat×Nat)} {b B:Nat},lkF l b=some B→(b,B)∈l
 |[],_,_,h=>by simp[lkF]at h
 |c::l,b,B,h=>by
  simp only[lkF]at h;split at h
  ·rename_i e;simp only[Vc]at h;rw[← e,← h];exact Wo
  ·exact Vd _ (E0a h)
def G5a:∀ {l:List (Nat×Nat)} {b B:Nat},(l.map Prod.fst).Nodup→(b,B)∈l→lkF l b=some B
 |[],_,_,_,h=>by simp at h
 |c::l,b,B,hn,h=>by
  rw[Xs,Yl]at hn;simp only[lkF];rcases Vk.1 h with rfl|h
  ·rw[if_pos rfl]
  ·rw[if_neg (λ e=>hn.1 (by rw[e];exact Ye h))];exact G5a hn.2 h
def B6a:∀ {l:List (Nat×Nat)} {b B:Nat},(l.map Prod.snd).Nodup→(b,B)∈l→lkS l B=some b
 |[],_,_,_,h=>by simp at h
 |c::l,b,B,hn,h=>by
  rw[Xs,Yl]at hn;simp only[lkS];rcases Vk.1 h with rfl|h
  ·rw[if_pos rfl]
  ·rw[if_neg (λ e=>hn.1 (by rw[e];exact Ye h))];exact B6a hn.2 h
def Usa:∀ {l:List (Nat×Nat)} {b b' B:Nat},(l.map Prod.snd).Nodup→(b,B)∈l→(b',B)∈l→b=b':=λ hn h h'=>by
 have e1:=B6a hn h;rw[B6a hn h']at e1
 simpa using e1.symm
def B7a:∀ {l:List Nat},Aca l=true→l.Nodup
 |[],_=>by simp
 |b::l,h=>by
  simp only[Aca,Va,Wa,List.any_eq_false]at h;rw[Yl];exact⟨λ hb=>h.1 b hb (by rw[Dbb]),B7a h.2⟩
def Nu (S:Sit) (L:List (Nat×Nat)):Nat→Lab:=λ k=>match S.O k with
 |.fz => .fz
 |.tm n q=>if n<10 then .no else if n % 2=0 then .pl ((n-10)/2) q else (match q with
  |[j] => .pl (C ((n-11)/2) j) []
  |_ => .no)
 |.bx b=>(match lkF L b with
  |some B=>if k=(S.bb b).1 then .bx B else .no
  |none => .no)
 |_ => .no
def Uta (S:Sit) (L:List (Nat×Nat)):Nat→Nat×Nat:=λ B=>match lkS L B with
 |some b=>((S.bb b).2,match (S.g (H b)).2 with | .one (.hd n)=>n|_=>0)
 |none=>(0,0)
def Wsa:Lab→Bool
 |.tm _ _=>true
 |_=>false
def nmO:Lab→Lab
 |.fz => .fz
 |.tm n q => .tm n q
 |.no => .no
 |_ => .tm 99999 []
def Jta (S:Sit) (O':Nat→Lab):Nat→Lab:=λ k=>if k<S.w.heap.size∧Wsa (S.O k)=false then S.O k else nmO (O' k)
section
variable {X:Cx} {S S1 S2:Sit} {a:Act} {E:En} {A:Ab} {o:Oper} {R:Type} {Kc:List Up→Option R} {r:R}
def Lx {S:Sit} {L:List (Nat×Nat)} {k:Nat} (h:S.O k = .fz):Nu S L k = .fz:=by simp[Nu,h]
def L8a {S:Sit} {L:List (Nat×Nat)} {k b B:Nat} (h:S.O k = .bx b) (hl:lkF L b=some B) (hk:k=(S.bb b).1):Nu S L k = .bx B:=by
 unfold Nu;rw[h];simp[hl,← hk]
def Xpa {S:Sit} {L:List (Nat×Nat)} {k i:Nat} {q:List Nat} (h:S.O k = .tm (nmV i) q):Nu S L k = .pl i q:=by
 unfold Nu nmV at *;rw[h];simp only;rw[if_neg (by omega),if_pos (by omega),show (10+2*i-10)/2=i by omega]
def Xqa {S:Sit} {L:List (Nat×Nat)} {k B j:Nat} (h:S.O k = .tm (nmB B) [j]):Nu S L k = .pl (C B j) []:=by
 unfold Nu nmB at *;rw[h];simp only;rw[if_neg (by omega),if_neg (by omega),show (11+2*B-11)/2=B by omega]
def I2:∀ {m:List Lf},A4 m=true→∀ y∈m,Gq y=true
 |[],_=>by simp
 |x::m,h=>by
  intro y hy;obtain⟨h1,h2⟩:=Ls h;rcases Vk.1 hy with rfl|hy
  ·rcases h2 with⟨_,rfl⟩|⟨_,_,_,rfl⟩|⟨_,_,_,rfl⟩<;>rfl
  ·exact I2 h1 y hy
def Nv:∀ l:List Lf,(∀ y∈l,Gq y=true)→A4 l=true
 |[],_=>rfl
 |x::l,h=>by
  have h1:=h x (by simp);have h2:=Nv l (λ y hy=>h y (Vd _ hy))
  cases x<;>first|(simp[Gq]at h1;done)|simpa[A4] using h2
def Xc {P:Program} {S:Sit} {cb:List (Nat×Nat)} {nv:Nat} (hn:nv≤1000):∀ (ps:List Par) {i:Nat} {ls:List (List Lf)} {us:List Value} {bp:List (Nat×Nat)},Dya P S cb cb nv i ps ls us bp→
  (∀ c∈bp,∃ j,i≤j∧j<i+ps.length∧c.2=bid nv j)∧(bp.map Prod.snd).Nodup∧(∀ c∈bp,∃ n,(S.g (H c.1)).2 = .one (.hd n))∧us.length=ps.length
 |[],i,[],[],bp,h=>by
  have:bp=[]:=h;subst this;exact⟨by simp,by simp,by simp,rfl⟩
 |[],i,_::_,_,_,h=>h.elim
 |[],i,[],_::_,_,h=>h.elim
 |p::ps,i,[],_,_,h=>h.elim
 |p::ps,i,_::_,[],_,h=>h.elim
 |p::ps,i,l::ls,u::us,bp,h=>by
  obtain⟨b1,b2,rfl,h1,h2⟩:=h;obtain⟨i1,i2,i3,i4⟩:=Xc hn ps h2
  have h3:b1=[]∨∃ b,b1=[(b,bid nv i)]∧∃ n,(S.g (H b)).2 = .one (.hd n):=by
   cases p with
   |val ag t=>exact .inl h1.1
   |vw t h0=>exact .inl h1.1
   |rd t=>exact .inl h1.1
   |fn F m=>exact .inl h1.1
   |ptr t t'=>obtain⟨b,e,_,h4,_⟩:=h1;exact .inr ⟨b,e,_,h4⟩
   |hid t t'=>obtain⟨b,e,_,h4,_⟩:=h1;exact .inr ⟨b,e,_,h4⟩
  have i1':∀ c∈b2,∃ j,i≤j∧j<i+(p::ps).length∧c.2=bid nv j:=λ c hc=>by
   obtain⟨j,j1,j2,j3⟩:=i1 c hc;exact⟨j,by omega,by simp only[Vh];omega,j3⟩
  rcases h3 with rfl|⟨b,rfl,n,hb⟩
  ·exact⟨i1',i2,i3,by simp[i4]⟩
  ·refine⟨λ c hc=>?_,?_,λ c hc=>?_,by simp[i4]⟩
   ·rcases Vk.1 hc with rfl|hc
    ·exact⟨i,Vv _,by simp only[Vh];omega,rfl⟩
    ·exact i1' c hc
   ·rw[Yo,Xs,Yl];refine⟨λ hm=>?_,i2⟩;obtain⟨c,hc,e⟩:=Ys.1 hm;obtain⟨j,j1,j2,j3⟩:=i1 c hc;rw[j3]at e;have:=L4a hn e;omega
   ·rcases Vk.1 hc with rfl|hc
    ·exact⟨n,hb⟩
    ·exact i3 c hc
def L9a (K:B0 X S a) {cb L:List (Nat×Nat)} {nv:Nat} (hn1:(L.map Prod.fst).Nodup) (hn2:(L.map Prod.snd).Nodup):∀ (ps:List Par) {i:Nat} {ls ls':List (List Lf)} {us:List Value} {bp:List (Nat×Nat)},Dya X.P S cb cb nv i ps ls us bp→Mk (ps.map Par.ty) ls ls'→(∀ c∈bp,c∈L)→Jm nv i ps=true→
  L5 X.P (bare (Nu S L) S.w) (Uta S L) nv (cb.map (So S)) i ps ls' us
 |[],i,[],[],[],bp,_,_,_,_=>trivial
 |[],i,[],_::_,_,bp,_,hm,_,_=>hm.elim
 |[],i,_::_,_,_,bp,h,_,_,_=>h.elim
 |[],i,[],[],_::_,bp,h,_,_,_=>h.elim
 |p::ps,i,[],_,_,bp,h,_,_,_=>h.elim
 |p::ps,i,_::_,_,[],bp,h,_,_,_=>h.elim
 |p::ps,i,l::ls,[],_::_,bp,_,hm,_,_=>hm.elim
 |p::ps,i,l::ls,l'::ls',u::us,bp,h,hm,hb,hp=>by
  obtain⟨b1,b2,rfl,h1,h2⟩:=h;obtain⟨⟨y,hy,rfl⟩,hm2⟩:=hm
  have hp2:Jm nv (i+1) ps=true:=by cases p<;>simp only[Jm,Va]at hp<;>exact hp.2
  refine⟨?_,L9a K hn1 hn2 ps h2 hm2 (λ b hb'=>hb b (Vn _ hb')) hp2⟩
  have box:∀ {t t':Ty} {y:t.den},mkW t l=some y→Ura X.P S (bid nv i) t t' l u b1→Um X.P (bare (Nu S L) S.w) (Uta S L) (bid nv i) t (A6 t y) u:=by
   rintro t t' y hy ⟨b,e1,e2,e3,e4,e5,e6,e7,e8⟩;have hL:(b,bid nv i)∈L:=hb _ (by rw[e1];simp);obtain⟨g1,c,e,g2,g3,g4,g5⟩:=K.box b _ e3;refine⟨(S.bb b).1,(S.bb b).2,c,e,(List.range t.sz).map (λ j=>S.ph (C b (0+j))),e2,g2,?_,?_,g4,g1,G4 t y,λ j hj=>?_,?_⟩
   ·exact L8a g3 (G5a hn1 hL) rfl
   ·show Uta S L _=_;unfold Uta;rw[B6a hn2 hL];simp only[e3]
   ·rw[g5 j hj];simp[hj]
   ·have h3:Aa X.P (bare (Nu S L) S.w) (λ j => .pl (C (bid nv i) j) []) 0 l ((List.range t.sz).map λ j=>S.ph (C b (0+j))):=
     Aa.impS (S1:=S) (I2 e6) (λ n x u hx h=>B8.bare (S1:=S) (S2:=bare (Nu S L) S.w) (lab := .tm (nmB (bid nv i)) [n]) hx rfl (λ k hk=>Lx hk) (λ k hk=>Xqa hk) h) e8
    exact Nh e7 hy h3
  cases p with
  |vw t h0=>
   obtain⟨_,e1,e2,e3,c,vs,e4,e5,e6,e7⟩:=h1;obtain⟨g1,cc,e,g2,g3,g4,g5⟩:=K.box c.1 _ e5;refine⟨e1,vs,(S.bb c.1).1,(S.bb c.1).2,cc,e,e6,?_,g2,g1,G4 t y,?_⟩
   ·rw[H2]at e4;rw[Zw,e4];rfl
   ·have hcell:∀ j,j<t.sz→cc.getD ((S.bb c.1).2+j) undef=S.ph (C c.1 j):=λ j hj=>by
     have:=g5 j hj;simp[Yi,this]
    have h2:=Xna (Q:=λ j x u=>j<t.sz→Iaa X.P S (λ j=>S.ph (C c.1 j)) j x u) ?_ ?_ e3 hy (j:=0) (us:=vs) (Xb.imp (Q:=Iaa X.P S (λ j=>S.ph (C c.1 j))) (Q':=λ j x u=>j<t.sz→Iaa X.P S (λ j=>S.ph (C c.1 j)) j x u) (λ j x u h _=>h) e7)
    ·have key:∀ (l:List Lf) (j:Nat) (us:List Value),j+l.length≤t.sz→Xb (λ j x u=>j<t.sz→Iaa X.P S (λ j=>S.ph (C c.1 j)) j x u) j l us→Xb (Iaa X.P (bare (Nu S L) S.w) (λ j=>cc.getD ((S.bb c.1).2+j) undef)) j l us:=by
      intro l
      induction l with
      |nil=>intro j us _ h;cases us<;>first|trivial|exact h.elim
      |cons x l ih=>
       intro j us hj h;simp only[Vh]at hj
       cases us with
       |nil=>exact h.elim
       |cons u us=>
        refine⟨?_,ih (j+1) us (by omega) h.2⟩;have h3:=h.1 (by omega)
        cases x<;>first|(show u=cc.getD ((S.bb c.1).2+j) undef;rw[hcell j (by omega)];exact h3)|(refine⟨h3.1,?_⟩;have h4:=h3.1;simp[Oza]at h4;done)|skip
        ·exact⟨rfl,B8.bare (S1:=S) (S2:=bare (Nu S L) S.w) rfl rfl (λ k hk=>Lx hk) (λ k hk=>Lx hk) h3.2⟩
        ·exact⟨rfl,B8.bare (S1:=S) (S2:=bare (Nu S L) S.w) rfl rfl (λ k hk=>Lx hk) (λ k hk=>Lx hk) h3.2⟩
     exact key _ _ _ (by rw[G4];show 0+t.sz≤t.sz;omega) h2
    ·intro j e r r' xs ys u _ h hj;exact h hj
    ·intro j e r r' xs ys u hc h hj;exact⟨rfl,Ox hc (h hj).2⟩
  |val ag t=>
   obtain⟨_,e2,e3,vs,e4,e5⟩:=h1;refine⟨vs,e4,Nh e3 hy ?_⟩;exact Aa.impS (S1:=S) (I2 e2) (λ n x u hx h=>B8.bare (S1:=S) (S2:=bare (Nu S L) S.w) hx rfl (λ k hk=>Lx hk) (λ k hk=>Xpa hk) h) e5
  |ptr t t'=>
   simp only[Jm,Va]at hp;exact⟨Vj hp.1,box hy h1⟩
  |hid t t'=>
   simp only[Jm,Va]at hp;exact⟨Vj hp.1,box hy h1⟩
  |rd t=>
   obtain⟨_,r',x,k,o',cs,rfl,e3,e4,e5,e6,e7,e8⟩:=h1;have h3:=S7 hy (Ln r' x cs e7);exact⟨y,k,o',cs,Iga t y,e5,Lx e6,Ty.rep_mono (λ k hk=>Lx hk) (λ _ _=>rfl) t y cs h3,e8⟩
  |fn F m=>
   obtain⟨_,e2,e3⟩:=h1;exact⟨e3,by rw[Vz,e2]⟩
def Xra (K:B0 X S a) {cb L:List (Nat×Nat)} {nv:Nat} (hn:nv≤1000) {ps:List Par} {ls:List (List Lf)} {us:List Value} (h:Dya X.P S cb cb nv 0 ps ls us L):
  ∀ k b,Nu S L k = .bx b→Xja nv ps.length b∧(∃ c e f,S.w.heap[k]? = some (.cells c e f))∧∀ k',Nu S L k' = .bx b→k'=k:=by
 obtain⟨i1,i2,i3,_⟩:=Xc hn ps h
 have key:∀ k B,Nu S L k = .bx B→∃ b,(b,B)∈L∧k=(S.bb b).1:=by
  intro k B hk;unfold Nu at hk;split at hk
  ·cases hk
  ·split at hk
   ·cases hk
   ·split at hk
    ·cases hk
    ·split at hk<;>cases hk
  ·split at hk
   ·rename_i b heq _ B' hl;split at hk
    ·rename_i hkb;cases hk;exact⟨b,E0a hl,hkb⟩
    ·cases hk
   ·cases hk
  ·cases hk
 intro k B hk;obtain⟨b,hb,hkb⟩:=key k B hk;obtain⟨n,hh⟩:=i3 _ hb;obtain⟨_,c,e,g2,_⟩:=K.box b n hh;obtain⟨j,_,j2,j3⟩:=i1 _ hb;refine⟨⟨j,by omega,j3⟩,⟨c,e,(0,0),by rw[hkb];exact g2⟩,λ k' hk'=>?_⟩;obtain⟨b',hb',hkb'⟩:=key k' B hk';rw[hkb,hkb',Usa i2 hb hb']
def Iha {S:Sit} {L:List (Nat×Nat)} {rg:Nat→Nat×Nat} {O':Nat→Lab} {w':World} (hF:Fr (Nu S L) S.w rg O' w'):
  (∀ k,k<S.w.heap.size→Wsa (S.O k)=false→Jta S O' k=S.O k∧((∀ c∈L,k≠(S.bb c.1).1)→w'.heap[k]? = S.w.heap[k]?))∧
  (∀ k,O' k = .fz→Jta S O' k = .fz)∧(∀ k n q,O' k = .tm n q→Jta S O' k = .tm n q):=by
 have cases3:∀ k,k<S.w.heap.size→Wsa (S.O k)=false→(O' k = .fz∧S.O k = .fz∧w'.heap[k]? = S.w.heap[k]?)∨(O' k = .no∧w'.heap[k]? = S.w.heap[k]?)∨(∃ c∈L,O' k = .bx c.2∧k=(S.bb c.1).1):=by
  intro k hk ht;have no:Nu S L k = .no→(O' k = .no∧w'.heap[k]? = S.w.heap[k]?):=λ h=>hF.no k hk h
  cases hO:S.O k with
  |fz=>
   have:=hF.fz k hk (Lx hO);exact .inl ⟨this.1,rfl,this.2⟩
  |no=>exact .inr (.inl (no (by simp[Nu,hO])))
  |pl l p=>exact .inr (.inl (no (by simp[Nu,hO])))
  |tm n q=>rw[hO]at ht;simp[Wsa]at ht
  |bx b=>
   cases hl:lkF L b with
   |none=>exact .inr (.inl (no (by simp[Nu,hO,hl])))
   |some B=>
    by_cases hb:k=(S.bb b).1
    ·have h2:Nu S L k = .bx B:=by
      unfold Nu;rw[hO];simp only;rw[hl];exact if_pos hb
     exact .inr (.inr ⟨(b,B),E0a hl,(hF.bx k B hk h2).1,hb⟩)
    ·refine .inr (.inl (no ?_));unfold Nu;rw[hO];simp only;rw[hl];exact if_neg hb
 refine⟨λ k hk ht=>⟨by unfold Jta;rw[if_pos ⟨hk,ht⟩],λ hnb=>?_⟩,λ k hk=>?_,λ k n q hk=>?_⟩
 ·rcases cases3 k hk ht with h|h|⟨c,h1,_,h2⟩
  ·exact h.2.2
  ·exact h.2
  ·exact absurd h2 (hnb c h1)
 ·unfold Jta;split
  ·rename_i hc;rcases cases3 k hc.1 hc.2 with h|h|⟨c,_,h,_⟩
   ·exact h.2.1
   ·rw[hk]at h;cases h.1
   ·rw[hk]at h;cases h
  ·rw[hk];rfl
 ·unfold Jta;split
  ·rename_i hc;rcases cases3 k hc.1 hc.2 with h|h|⟨c,_,h,_⟩
   ·rw[hk]at h;cases h.1
   ·rw[hk]at h;cases h.1
   ·rw[hk]at h;cases h
  ·rw[hk];rfl
def Xsa (w w':World) (hsz:w.heap.size≤w'.heap.size):∀ ks:List Nat,∃ w1:World,w1 = { w' with heap:=w1.heap }∧w1.heap.size=w'.heap.size∧(∀ k∈ks,k<w.heap.size→w1.heap[k]? = w.heap[k]?)∧∀ k,k∉ks→w1.heap[k]? = w'.heap[k]?
 |[]=>⟨w',rfl,rfl,by simp,λ _ _=>rfl⟩
 |k0::ks=>by
  obtain⟨w1,h1,h2,h3,h4⟩:=Xsa w w' hsz ks
  by_cases hk:k0<w.heap.size
  ·refine⟨{ w' with heap:=w1.heap.setIfInBounds k0 w.heap[k0] },rfl,by simp[h2],λ k hm hkl=>?_,λ k hm=>?_⟩
   ·show (w1.heap.setIfInBounds k0 w.heap[k0])[k]? = _
    by_cases e:k=k0
    ·subst e;rw[Array.getElem?_setIfInBounds_self,if_pos (by omega),Bnb hk]
    ·rw[Bob (C9b e)];exact h3 k ((Vk.1 hm).resolve_left e) hkl
   ·show (w1.heap.setIfInBounds k0 w.heap[k0])[k]? = _;rw[Bob (λ e=>hm (by rw[e];exact Wo))];exact h4 k (λ h=>hm (Vd _ h))
  ·refine⟨w1,h1,h2,λ k hm hkl=>?_,λ k hm=>h4 k (λ h=>hm (Vd _ h))⟩;rcases Vk.1 hm with rfl|hm
   ·exact absurd hkl hk
   ·exact h3 k hm hkl
structure Bk where
 b:Nat
 n:Nat
 l:List Lf
 us:List Value
def Bk.Ok (P:Program) (S:Sit) (w':World) (d:Bk):Prop:=
 ∃ c c' e,(S.g (H d.b)).2 = .one (.hd d.l.length)∧S.w.heap[(S.bb d.b).1]? = some (.cells c e (0,0))∧w'.heap[(S.bb d.b).1]? = some (.cells c' e (0,0))∧c'.size=c.size∧
  (∀ i,(i<(S.bb d.b).2∨(S.bb d.b).2+d.l.length≤i)→c'[i]? = c[i]?)∧(∀ j,j<d.l.length→c'[(S.bb d.b).2+j]? = d.us[j]?)∧A4 d.l=true∧Aa P S (λ j => .tm d.n [j]) 0 d.l d.us
def G6a {w':World}:∀ (D:List Bk) {S:Sit} {A:Ab},B0 X S a→S.g=get A→(∀ d∈D,d.Ok X.P S w')→(D.map Bk.b).Nodup→(D.map Bk.n).Nodup→(∀ d∈D,1001≤d.n∧d.n<5000)→(∀ k,(∀ d∈D,k≠(S.bb d.b).1)→w'.heap[k]? = S.w.heap[k]?)→S.w = { w' with heap:=S.w.heap }→
  ∃ S',B0 X S' a∧S'.g=get (ups A (D.flatMap λ d=>Cq d.b 0 d.l))∧S'.w=w'∧(∀ k,S.O k = .fz→S'.O k = .fz)∧(∀ n q k,0<n→n<1001→S.O k = .tm n q→S'.O k = .tm n q)∧(∀ n q x u,0<n→n<1001→Gq x=true→B8 X.P S (.tm n q) x u→B8 X.P S' (.tm n q) x u)
 |[],S,A,K,hg,_,_,_,_,hh,hw=>by
  have e1:w'.heap=S.w.heap:=Array.ext_getElem? λ k=>hh k (by simp);refine⟨S,K,hg,?_,λ _ h=>h,λ _ _ _ _ _ h=>h,λ _ _ _ _ _ _ _ h=>h⟩;rw[hw,← e1]
 |d::D,S,A,K,hg,hD,hb,hn,hr,hh,hw=>by
  obtain⟨c,c',e,d1,d2,d3,d4,d5,d6,d7,d8⟩:=hD d (by simp);rw[Xs,Yl]at hb hn;obtain⟨r1,r2⟩:=hr d (by simp)
  let hh0:Nat→List Nat→Option Lab:=λ n q=>if n=d.n then some (.tm 0 q) else if n=0 then some (.tm 99998 q) else none
  obtain⟨K1,L1⟩:=K.names hh0 (by
   intro n q;simp only[hh0];split
   ·simp
   ·split<;>simp)
  have keep1:∀ n q k,n≠d.n→n≠0→S.O k = .tm n q→atO S.O hh0 k = .tm n q:=λ n q k h1 h2 hk=>K5 hk (by simp[hh0,h1,h2]);have hl0:Aa X.P { S with O:=atO S.O hh0 } (λ j => .tm 0 [j]) 0 d.l d.us:=d8.imp (λ j x u hx=>hx.later L1 (λ k hk=>⟨He hk (by simp[hh0]),rfl⟩));have hul:=d8.len;obtain⟨hn9,c0,e0,b1,b2,b3,b4⟩:=K.box d.b d.l.length d1;rw[d2]at b1;cases b1;obtain⟨K2,L2⟩:=K1.cells (b:=d.b) (n:=d.l.length) (off:=0) (q:=λ j=>[j]) d1 (by omega) d2 hl0 (λ j hj=>rfl) (Ji d7);generalize hwS:({ S with O:=atO S.O hh0 }:Sit).w.setRow (({ S with O:=atO S.O hh0 }:Sit).bb d.b).1 (c.toList.take ((({ S with O:=atO S.O hh0 }:Sit).bb d.b).2+0)++d.us++c.toList.drop ((({ S with O:=atO S.O hh0 }:Sit).bb d.b).2+0+d.us.length)).toArray=w2 at K2 L2;have hwS':S.w.setRow (S.bb d.b).1 (c.toList.take ((S.bb d.b).2+0)++d.us++c.toList.drop ((S.bb d.b).2+0+d.us.length)).toArray=w2:=hwS
  have harr:(c.toList.take ((S.bb d.b).2+0)++d.us++c.toList.drop ((S.bb d.b).2+0+d.us.length)).toArray=c':=by
   refine Array.ext_getElem? λ j=>?_;have hct:c.toList.length=c.size:=Zc
   have ht:(c.toList.take ((S.bb d.b).2+0)).length=(S.bb d.b).2:=by rw[Vq,hct];omega
   rw[Crb];have hcj:∀ i,c.toList[i]? = c[i]? := λ i=>Zq
   by_cases h1:j<(S.bb d.b).2
   ·rw[Vo,Yj (by omega),Wm,if_pos (by omega),hcj];exact(d5 j (.inl h1)).symm
   ·by_cases h2:j<(S.bb d.b).2+d.l.length
    ·rw[Yj (by rw[Vi,ht];omega),Yd (by omega),ht];have:=d6 (j-(S.bb d.b).2) (by omega);rw[show (S.bb d.b).2+(j-(S.bb d.b).2)=j by omega]at this;exact this.symm
    ·rw[Yd (by rw[Vi,ht];omega),Vi,ht,Yv,hcj,hul];rw[show (S.bb d.b).2+0+d.l.length+(j-((S.bb d.b).2+d.l.length))=j by omega];exact(d5 j (.inr (by omega))).symm
  have hw2k:w2.heap[(S.bb d.b).1]? = w'.heap[(S.bb d.b).1]?:=by
   rw[← hwS',setRow_heap _ _ _ _ _ _ d2,harr,d3]
  have hw2o:∀ k,k≠(S.bb d.b).1→w2.heap[k]? = S.w.heap[k]? := λ k hk=>by rw[← hwS'];exact setRow_other _ _ _ _ hk
  have keep2:∀ n q k,n≠d.n→n≠0→S.O k = .tm n q→(X5 { S with O:=atO S.O hh0 } (U3 d.b 0) d.b 0 d.l d.us w2).O k = .tm n q:=λ n q k h1 h2 hk=>
   K5 (h:=U3 d.b 0) (keep1 n q k h1 h2 hk) (by simp[U3,h2])
  have hdist:∀ d'∈D,d'.b≠d.b∧d'.n≠d.n:=λ d' hd'=>⟨λ e=>hb.1 (by rw[← e];exact Ye hd'),λ e=>hn.1 (by rw[← e];exact Ye hd')⟩
  have hblk:∀ d'∈D,(S.bb d'.b).1≠(S.bb d.b).1:=λ d' hd' e1=>by
   obtain⟨c1,c1',e2,x1,_⟩:=hD d' (Vd _ hd');obtain⟨_,_,_,_,y2,_⟩:=K.box d'.b _ x1;rw[e1,b2]at y2;simp only[Vc,Lab.bx.injEq]at y2;exact(hdist d' hd').1 y2.symm
  have hsame:∀ n q x u,n≠d.n→n≠0→Gq x=true→B8 X.P S (.tm n q) x u→B8 X.P (X5 { S with O:=atO S.O hh0 } (U3 d.b 0) d.b 0 d.l d.us w2) (.tm n q) x u:=λ n q x u h1 h2 _ hx=>
   (hx.later L1 (lab' := .tm n q) (λ k hk=>⟨keep1 n q k h1 h2 hk,rfl⟩)).later L2 (λ k hk=>by
    have hk':atO S.O hh0 k = .tm n q:=hk;refine⟨K5 (h:=U3 d.b 0) hk' (by simp[U3,h2]),hw2o k (λ e1=>?_)⟩;rw[e1]at hk';rw[B5 b2 (by simp)]at hk'
    cases hk')
  obtain⟨S3,K3,g3,w3,o3,t3,s3⟩:=G6a D (A:=ups A (Cq d.b 0 d.l)) K2 (by
   show Lr S.g d.b 0 d.l=_
   rw[Hj,← hg]) (λ d' hd'=>by
   obtain⟨c1,c1',e2,x1,x2,x3,x4,x5,x6,x7,x8⟩:=hD d' (Vd _ hd');obtain⟨z1,z2⟩:=hr d' (Vd _ hd');refine⟨c1,c1',e2,?_,(hw2o _ (hblk d' hd')).trans x2,x3,x4,x5,x6,x7,?_⟩
   ·show (Lr S.g d.b 0 d.l (H d'.b)).2=_;unfold Lr;rw[if_neg (F8 (by omega))];exact x1
   ·exact Aa.impS (I2 x7) (λ n x u hx h=>hsame _ _ x u (hdist d' hd').2 (by omega) hx h) x8) hb.2 hn.2 (λ d' hd'=>hr d' (Vd _ hd')) (λ k hk=>by
   by_cases h1:k=(S.bb d.b).1
   ·rw[h1];exact hw2k.symm
   ·show w'.heap[k]? = w2.heap[k]?;rw[hw2o k h1]
    exact hh k (λ d' hd'=>by
     rcases Vk.1 hd' with rfl|hd'
     ·exact h1
     ·exact hk d' hd')) (by
   have h5:w2 = { S.w with heap:=w2.heap }:=by rw[← hwS'];rfl
   have h6:({ S.w with heap:=w2.heap }:World) = { w' with heap:=w2.heap }:=by rw[hw]
   exact h5.trans h6)
  refine⟨S3,K3,?_,w3,λ k hk=>o3 k (B5 (h:=U3 d.b 0) (B5 hk (by simp)) (by simp)),λ n q k h1 h2 hk=>t3 n q k h1 h2 (keep2 n q k (by omega) (by omega) hk),λ n q x u h1 h2 hx h=>s3 n q x u h1 h2 hx (hsame n q x u (by omega) (by omega) hx h)⟩;rw[g3,Cpb,Ay]
def Xd {P:Program} {S Sb:Sit} {cb:List (Nat×Nat)} {nv:Nat}:∀ (ps:List Par) {i:Nat} {ls lb:List (List Lf)} {us:List Value} {bp:List (Nat×Nat)} {ws:List Up},Dya P S cb cb nv i ps ls us bp→Kh P Sb i ps us lb→(∀ l∈lb,∀ y∈l,Gq y=true)→I1a (bp.map Prod.fst) lb=some ws→
  ∃ D:List Bk,D.map Bk.b=bp.map Prod.fst∧ws=D.flatMap (λ d=>Cq d.b 0 d.l)∧(D.map Bk.n).Nodup∧
   ∀ d∈D,∃ j B t c e,i≤j∧j<i+ps.length∧d.n=1001+j∧(d.b,B)∈bp∧(S.g (H d.b)).2 = .one (.hd t)∧d.l.length=t∧A4 d.l=true∧Sb.w.heap[(S.bb d.b).1]? = some (.cells c e (0,0))∧(∀ j,j<t→c[(S.bb d.b).2+j]? = d.us[j]?)∧Aa P Sb (λ j => .tm d.n [j]) 0 d.l d.us
 |[],i,[],lb,[],bp,ws,h,hb,_,hw=>by
  have e1:bp=[]:=h;have e2:lb=[]:=hb;subst e1 e2;simp only[List.map_nil,I1a,Vc]at hw;subst hw;exact⟨[],rfl,rfl,by simp,by simp⟩
 |[],i,_::_,_,_,_,_,h,_,_,_=>h.elim
 |[],i,[],_,_::_,_,_,h,_,_,_=>h.elim
 |p::ps,i,[],_,_,_,_,h,_,_,_=>h.elim
 |p::ps,i,_::_,_,[],_,_,h,_,_,_=>h.elim
 |p::ps,i,l::ls,lb,u::us,bp,ws,h,hb,hs,hw=>by
  obtain⟨b1,b2,rfl,h1,h2⟩:=h
  have skip:b1=[]→Kh P Sb (i+1) ps us lb→∃ D:List Bk,D.map Bk.b=(b1++b2).map Prod.fst∧ws=D.flatMap (λ d=>Cq d.b 0 d.l)∧(D.map Bk.n).Nodup∧
   ∀ d∈D,∃ j B t c e,i≤j∧j<i+(p::ps).length∧d.n=1001+j∧(d.b,B)∈b1++b2∧(S.g (H d.b)).2 = .one (.hd t)∧d.l.length=t∧A4 d.l=true∧Sb.w.heap[(S.bb d.b).1]? = some (.cells c e (0,0))∧(∀ j,j<t→c[(S.bb d.b).2+j]? = d.us[j]?)∧Aa P Sb (λ j => .tm d.n [j]) 0 d.l d.us:=by
   intro e1 hb2;subst e1;rw[Wl]at hw ⊢;obtain⟨D,h3,h4,h5,h6⟩:=Xd ps h2 hb2 hs hw
   exact⟨D,h3,h4,h5,λ d hd=>by
    obtain⟨j,B,t,c,e,j1,j2,rest⟩:=h6 d hd
    exact⟨j,B,t,c,e,by omega,by simp only[Vh];omega,rest⟩⟩
  have box:∀ {t t':Ty} {lb':List (List Lf)} {l':List Lf},lb=l'::lb'→Ura P S (bid nv i) t t' l u b1→Un P Sb i t' l' u→Kh P Sb (i+1) ps us lb'→∃ D:List Bk,D.map Bk.b=(b1++b2).map Prod.fst∧ws=D.flatMap (λ d=>Cq d.b 0 d.l)∧(D.map Bk.n).Nodup∧
   ∀ d∈D,∃ j B t c e,i≤j∧j<i+(p::ps).length∧d.n=1001+j∧(d.b,B)∈b1++b2∧(S.g (H d.b)).2 = .one (.hd t)∧d.l.length=t∧A4 d.l=true∧Sb.w.heap[(S.bb d.b).1]? = some (.cells c e (0,0))∧(∀ j,j<t→c[(S.bb d.b).2+j]? = d.us[j]?)∧Aa P Sb (λ j => .tm d.n [j]) 0 d.l d.us:=by
   rintro t t' lb' l' rfl ⟨b,e1,e2,e3,e4,_⟩ ⟨k,o',c,e,vs,f1,f2,f3,f4,f5⟩ hb2;subst e1;rw[e2]at f1;cases f1;simp only[Yo,Xs,I1a]at hw;split at hw
   ·rename_i ws' hws';cases hw;obtain⟨D,h3,h4,h5,h6⟩:=Xd ps h2 hb2 (λ l hl=>hs l (Vd _ hl)) hws';refine⟨⟨b,1001+i,l',vs⟩::D,by simp[h3],by rw[Cpb,h4],?_,λ d hd=>?_⟩
    ·rw[Xs,Yl];refine⟨λ hm=>?_,h5⟩;obtain⟨d,hd,e5⟩:=Ys.1 hm;obtain⟨j,_,_,_,_,j1,_,j3,_⟩:=h6 d hd;have e6:d.n=1001+i:=e5;omega
    ·rcases Vk.1 hd with rfl|hd
     ·exact⟨i,bid nv i,t.sz,c,e,Vv _,by simp only[Vh];omega,rfl,by simp,e3,by rw[f3,e4],Nv _ (hs l' (by simp)),f2,λ j hj=>f4 j (by omega),f5⟩
     ·obtain⟨j,B,t,c,e,j1,j2,j3,j4,rest⟩:=h6 d hd;exact⟨j,B,t,c,e,by omega,by simp only[Vh];omega,j3,Vd _ j4,rest⟩
   ·cases hw
  cases p with
  |val ag t=>exact skip h1.1 hb
  |vw t h0=>exact skip h1.1 hb
  |rd t=>exact skip h1.1 hb
  |fn F m=>exact skip h1.1 hb
  |ptr t t'=>
   cases lb with
   |nil=>exact hb.elim
   |cons l' lb'=>exact box rfl h1 hb.1 hb.2
  |hid t t'=>
   cases lb with
   |nil=>exact hb.elim
   |cons l' lb'=>exact box rfl h1 hb.1 hb.2
def Uua (hE:Hz X E) (K:B0 X S a) (hg:S.g=get A) {xs:List (TypeId×Operand)} {cs cb:List (Nat×Nat)} {f:FuncId} {en:Ent} (hrun:(execOp a.eval o).run X.P S.w = .ok (.enter f (xs.map (λ x=>a.eval x.2)++cs.map (So S)).toArray) S.w) (hd:∀ d,o.dst=some d→d<X.nt)
  (hco:L6 X.P f en) (hnv:en.nv=xs.length+cs.length) (hp:U5a E en.rs o.dst=true) (hn:en.nv≤1000) (hps:Jm en.nv 0 en.ps=true) (hlen:en.ps.length≤2000) (hrl:en.rs.length≤400)
  (h:(match Jd E cb cb en.nv A xs (cs++cb) en.ps with
  |none=>none
  |some (ls,us,bs)=>bif Aca bs then (match Px _ ls with
   |none=>none
   |some x=>(en.run x).bind λ r=>
    match I1a bs ((Dk _ r).drop en.rs.length) with
    |none=>none
    |some ws=>match O6 (ups (ups A us) ws) en.rs (shL E o.dst (Dk _ r)) o.dst with
     |none=>none
     |some rs=>Kc (us++(ws++rs))) else none)=some r):Gp X o a S.w A Kc r:=by
 have hnp:∀ d',o.dst=some d'→Io en.rs=true→X.np≤d':=λ d' h1 h2=>by
  have:=hp;unfold U5a at this;rw[h1,h2]at this;exact hE.np ▸ (Vj (by simpa using this))
 split at h
 ·cases h
 ·rename_i ls us bs hargs;rw[csi]at h;obtain⟨hnd,h⟩:=h;split at h
  ·cases h
  ·rename_i x hx
   cases hrun':en.run x with
   |none=>rw[hrun']at h;simp at h
   |some y=>
    rw[hrun']at h;simp only[Vt]at h;split at h
    ·cases h
    ·rename_i ws hws;split at h
     ·cases h
     ·rename_i rs hrs;obtain⟨S1,L,K1,g1,G1,hLb,p1⟩:=B5a (X:=X) (a:=a) hE hn en.ps 0 K hg hargs
      have hpv:So S1=So S:=by funext b;unfold So;rw[G1.bb]
      obtain⟨i1,i2,i3,i4⟩:=Xc hn en.ps p1
      have hn1:(L.map Prod.fst).Nodup:=by rw[hLb];exact B7a hnd
      have hok:=L9a K1 hn1 i2 en.ps p1 (Rn _ _ _ hx) (λ _ h=>h) hps
      have hdrop:(xs.map (λ x=>a.eval x.2)++(cs++cb).map (So S)).drop en.nv=cb.map (So S1):=by
       rw[hpv,hnv,Bqb,← Vo,List.drop_left' (by simp)]
      have htake:(xs.map (λ x=>a.eval x.2)++(cs++cb).map (So S)).take en.nv=xs.map (λ x=>a.eval x.2)++cs.map (So S):=by
       rw[hnv,Bqb,← Vo,Cjb (by simp)]
      have hs:=hco.sound x y hrun' S1.w (Nu S1 L) (Uta S1 L) _ (λ k hk=>K1.lt k (λ e=>hk (by simp[Nu,e]))) (Xra K1 hn p1) (by rw[hdrop];exact hok);rw[htake]at hs;refine⟨_,h,Ur hrun (Qb (by rw[← G1.w];exact hs) ?_)⟩;rintro e w' ⟨v,O',rfl,hF,hlt,hres,hback⟩;refine⟨v,rfl,?_⟩;obtain⟨a1,a2,a3⟩:=Iha hF
      have hlt2:∀ k,Jta S1 O' k ≠ .no→k<w'.heap.size:=λ k hk=>by
       by_cases hkl:k<S1.w.heap.size
       ·exact Yf hkl hF.size
       ·refine hlt k (λ e=>hk ?_);unfold Jta;rw[if_neg (λ h=>hkl h.1),e];rfl
      have hnt:∀ k,(∀ n q,S1.O k ≠ .tm n q)→Wsa (S1.O k)=false:=λ k hk=>by
       cases hO:S1.O k<;>first|rfl|exact absurd hO (hk _ _)
      have hsol:=Hn (en.rs.map Prod.snd++Im en.ps) y;rw[← hLb]at hws;obtain⟨D,D1,D2,D3,D4⟩:=Xd en.ps p1 hback (λ l hl=>hsol l (Zp hl)) hws;obtain⟨w1,r1,r2,r3,r4⟩:=Xsa S1.w w' hF.size (L.map λ c=>(S1.bb c.1).1)
      have hblk:∀ k,k<S1.w.heap.size→Wsa (S1.O k)=false→w1.heap[k]? = S1.w.heap[k]? := λ k hk ht=>by
       by_cases hm:k∈L.map λ c=>(S1.bb c.1).1
       ·exact r3 k hm hk
       ·rw[r4 k hm];exact(a1 k hk ht).2 (λ c hc e=>hm (by rw[e];exact Ye (f:=λ c:Nat×Nat=>(S1.bb c.1).1) hc))
      have ros:w1.os=w'.os:=by rw[r1]
      have rtape:w1.tape=w'.tape:=by rw[r1]
      have rout:w1.output=w'.output:=by rw[r1]
      obtain⟨K2,L2⟩:=K1.world (w':=w1) (O':=Jta S1 O') (λ k hk ht=>⟨(a1 k hk (hnt k ht)).1,hblk k hk (hnt k ht)⟩) (ros.trans hF.os) (rtape.trans hF.tape) (rout.trans hF.out) (by rw[r2];exact hF.size) (λ k hk=>by rw[r2];exact hlt2 k hk)
      have hbr:∀ {n:Nat} {q:List Nat} {x:Lf} {u:Value},Gq x=true→B8 X.P (bare O' w') (.tm n q) x u→B8 X.P (Sd S1 w1 (Jta S1 O')) (.tm n q) x u:=by
       intro n q x u hx hu
       have hno:∀ k,(O' k = .fz∨O' k = .tm n q)→w1.heap[k]? = w'.heap[k]? := λ k hk=>by
        by_cases hm:k∈L.map λ c=>(S1.bb c.1).1
        ·exfalso;obtain⟨c,hc,rfl⟩:=Ys.1 hm;obtain⟨m,hm1⟩:=i3 c hc;obtain⟨_,cc,ee,g2,g3,_⟩:=K1.box c.1 m hm1;have hcal:Nu S1 L (S1.bb c.1).1 = .bx c.2:=L8a g3 (G5a hn1 (show (c.1,c.2)∈L from hc)) rfl;have:=(hF.bx _ _ (K1.lt _ (by rw[g3];simp)) hcal).1
         rcases hk with hk|hk<;>rw[this]at hk<;>cases hk
        ·exact r4 k hm
       cases x with
       |sc v=>exact hu
       |fz e r xs=>exact Ty.rep_mono (t := .sl e r) (λ k hk=>a2 k hk) (λ k hk=>hno k (.inl hk)) _ _ hu
       |own e r xs=>exact Eo.later (O':=Jta S1 O') (w':=w1) hu (λ k hk=>⟨a2 k hk,hno k (.inl hk)⟩) (λ k hk=>⟨a3 k n q hk,hno k (.inr hk)⟩)
       |_=>simp[Gq]at hx
      have hDok:∀ d∈D,d.Ok X.P (Sd S1 w1 (Jta S1 O')) w':=λ d hd'=>by
       obtain⟨j,B,t,c',e',j1,j2,j3,j4,j5,j6,j7,j8,j9,j10⟩:=D4 d hd';obtain⟨g0,c0,e0,g2,g3,g4,g5⟩:=K1.box d.b _ j5;have hcal:Nu S1 L (S1.bb d.b).1 = .bx B:=L8a g3 (G5a hn1 j4) rfl;have hkl:=K1.lt _ (show S1.O (S1.bb d.b).1 ≠ .no by rw[g3];simp);obtain⟨_,c1,c2,e7,ff,x2,x3,x4,x5⟩:=hF.bx _ _ hkl hcal;rw[g2]at x2;cases x2;have j8':w'.heap[(S1.bb d.b).1]? = some (.cells c' e'):=j8;rw[x3]at j8';cases j8'
       have hrg:Uta S1 L B=((S1.bb d.b).2,t):=by
        unfold Uta;rw[B6a i2 j4];simp only[j5]
       rw[hrg]at x5;refine⟨c0,_,_,by rw[j6];exact j5,?_,x3,x4,λ i hi=>x5 i (by rw[j6]at hi;exact hi),λ j hj=>j9 j (by omega),j7,?_⟩
       ·show w1.heap[(S1.bb d.b).1]? = _;rw[hblk _ hkl (by rw[g3];rfl)];exact g2
       ·exact Aa.impS (I2 j7) (λ n x u hx hu=>hbr hx hu) j10
      obtain⟨S2,K3,g3,w3,o3,t3,s3⟩:=G6a (w':=w') D (A:=ups A us) K2 g1 hDok (by rw[D1];exact hn1) D3 (λ d hd'=>by
       obtain⟨j,_,_,_,_,_,j2,j3,_⟩:=D4 d hd'
       exact⟨by omega,by omega⟩) (λ k hk=>(r4 k (λ hm=>by
       obtain⟨c,hc,hce⟩:=Ys.1 hm
       have:c.1∈D.map Bk.b:=by rw[D1];exact Ye hc
       obtain⟨d,hd',hde⟩:=Ys.1 this;refine hk d hd' ?_;rw[← hce,← hde]
       rfl)).symm) r1
      have hnames:∀ (n:Nat) (q:List Nat) (x:Lf) (u:Value),0<n→n<1001→Gq x=true→B8 X.P (bare O' w') (.tm n q) x u→B8 X.P S2 (.tm n q) x u:=λ n q x u h1 h2 hx hu=>s3 n q x u h1 h2 hx (hbr hx hu);have hlb:∀ n q k,0<n→n<1001→O' k = .tm n q→S2.O k = .tm n q:=λ n q k h1 h2 hk=>t3 n q k h1 h2 (a3 k n q hk)
      have hres1:Gz X.P S2 S1.w.heap.size en.rs (Dk _ y) v:=by
       have one:∀ {i:Nat} {k:RK} {l:List Lf} {u:Value},0<i→i<500→(∀ z∈l,Gq z=true)→Mr X.P (bare O' w') S1.w.heap.size i k l u→Mr X.P S2 S1.w.heap.size i k l u:=by
        intro i k l u h1 h2 hz h
        cases k with
        |one=>exact Aa.impM (λ x hx n u h=>hnames _ _ x u h1 (by omega) (hz x hx) h) h
        |agg=>
         obtain⟨us,e,h⟩:=h;exact⟨us,e,h.impM (λ x hx n u h=>hnames _ _ x u h1 (by omega) (hz x hx) h)⟩
        |ptr=>
         obtain⟨k,o',c,e,us,e1,e2,e3,e4,e5,e6,e7,h⟩:=h;exact⟨k,o',c,e,us,e1,by rw[w3];exact e2,e3,hlb _ _ _ (by omega) (by omega) e4,e5,e6,e7,h.impM (λ x hx n u h=>hnames _ _ x u h1 (by omega) (hz x hx) h)⟩
       have all:∀ (rs:List (RK×Ty)) {i:Nat} {ls:List (List Lf)} {us:List Value},0<i→i+rs.length<500→(∀ l∈ls,∀ z∈l,Gq z=true)→Ie X.P (bare O' w') S1.w.heap.size i rs ls us→Ie X.P S2 S1.w.heap.size i rs ls us:=by
        intro rs
        induction rs with
        |nil=>intro i ls us _ _ _ h;exact h
        |cons r rs ih=>
         intro i ls us h1 h2 hz h
         cases ls with
         |nil=>exact h.elim
         |cons l ls=>
          cases us with
          |nil=>exact h.elim
          |cons u us=>
           simp only[Vh]at h2;exact⟨one h1 (by omega) (hz l (by simp)) h.1,ih (by omega) (by omega) (λ l hl=>hz l (Vd _ hl)) h.2⟩
       unfold Gz at hres ⊢;split at hres
       ·obtain⟨l,ls',e1,h5⟩:=hres;exact⟨l,ls',e1,one (by omega) (by omega) (hsol l (by rw[e1];simp)) h5⟩
       ·obtain⟨us',e1,h5⟩:=hres;exact⟨us',e1,all en.rs (by omega) (by omega) hsol h5⟩
      obtain⟨S3,K4,w4,g4⟩:=G3a (E:=E) K3 g3 (λ _=>hrl) hd K1.fr.size (Hn _ y) hnp hres1 (by rw[← D2];exact hrs);refine⟨S3,w4.trans w3,K4,?_⟩;rw[g4,← D2,Ay,Ay]
def Laa {α β:Type}:∀ {l:List α} {m:List β},m.length≤l.length→(l.zip m).map Prod.snd=m
 |_,[],_=>by simp
 |[],_::_,h=>by simp at h
 |_::l,_::m,h=>by simp[Laa (l:=l) (m:=m) (by simpa using h)]
def Xe:∀ {Ts:List TypeId} {xs:List Operand} {ss:List Sv},Q0 E Ts A xs=some ss→xs.length≤Ts.length
 |_,[],_,_=>Vw _
 |[],_::_,_,h=>by simp[Q0]at h
 |T::Ts,x::xs,ss,h=>by
  simp only[Q0]at h;split at h
  ·split at h
   ·rename_i hr;simp only[Vh];have:=Xe hr;omega
   ·cases h
  ·cases h
def G7a (hE:Hz X E) (K:B0 X S a) (hg:S.g=get A) {Ts:List TypeId} {xs:List Operand} {cs:List (Nat×Nat)} {f:FuncId} {en:Ent} {ss:List Sv} (hrun:(execOp a.eval o).run X.P S.w = .ok (.enter f (xs.map a.eval++cs.map (So S)).toArray) S.w) (hd:∀ d,o.dst=some d→d<X.nt)
  (hco:L6 X.P f en) (hss:Q0 E Ts A xs=some ss) (h:Wt E A en (Ts.zip xs) cs ss o.dst Kc=some r):Gp X o a S.w A Kc r:=by
 unfold Wt at h;have hz:=Laa (Xe hss)
 have hzl:(Ts.zip xs).length=xs.length:=by
  rw[List.length_zip];have:=Xe hss;omega
 rw[csi]at h;obtain⟨hnv,h⟩:=h
 have hnv':en.nv=xs.length+cs.length:=by rw[← hzl];exact Ve hnv
 cases hl:(Mg en.ps&&U1 en.rs&&cs.isEmpty) with
 |true=>
  rw[hl,cond_true]at h;simp only[Va,List.isEmpty_iff]at hl;obtain⟨⟨l1,l2⟩,l3⟩:=hl;subst l3;simp only[List.map_nil,Yc]at hrun;exact Uqa hE K hg hrun hd hco (by simpa using hnv') (Dpa hE K hg hss) l1 l2 h
 |false=>
  rw[hl,cond_false]at h;rw[csi]at h;obtain⟨hp,h⟩:=h;simp only[Va]at hp;obtain⟨p1,⟨⟨p2,p3⟩,p4⟩,p5⟩:=hp;refine Uua (xs:=Ts.zip xs) (cs:=cs) (cb:=Jza ss++Aba A en.ps ss) hE K hg ?_ hd hco (by rw[hzl];exact hnv') p1 (Vj p2) p3 (Vj p5) (Vj p4) h
  have e1:(Ts.zip xs).map (λ x=>a.eval x.2)=xs.map a.eval:=by
   rw[← hz,Byb];rw[hz];rfl
  rw[e1];exact hrun
def Uva (hE:Hz X E) (hcall:∀ f en,E.call f=some en→L6 X.P f en) (K:B0 X S a) (hg:S.g=get A) {c:Call} {f:FuncId} (ho:o.op = .call c) (hc:c.callee = .value (.func f)) (hd:∀ d,o.dst=some d→d<X.nt)
  (h:Au E o A Kc=some r):Gp X o a S.w A Kc r:=by
 unfold Au at h;rw[ho]at h;simp only[hc]at h;split at h
 ·rename_i en ss he hss;have hco:=hcall f en he;exact G7a hE K hg (by simpa using L3a (w:=S.w) ho hc hco) hd hco hss h
 ·cases h
def Q1a (hE:Hz X E) (hcall:∀ f en,E.call f=some en→L6 X.P f en) (K:B0 X S a) (hg:S.g=get A) {c:Call} {t:Nat} (ho:o.op = .call c) (hc:c.callee = .value (.tmp t)) (hd:∀ d,o.dst=some d→d<X.nt)
  (h:Au E o A Kc=some r):Gp X o a S.w A Kc r:=by
 unfold Au at h;rw[ho]at h;simp only[hc]at h;split at h
 ·rename_i f bs hs;split at h
  ·rename_i en ss he hss;obtain⟨hal,h⟩:=cs h;have hco:=hcall f en he;obtain⟨pl,h2⟩:=Gj hE K hg hs;obtain⟨us,e1,e2⟩:B8 X.P S (.pl pl []) (.fn f bs) (a.eval (.tmp t)):=h2;have e3:=Sp hg e2 hal;subst e3;exact G7a hE K hg (Ica (w:=S.w) ho hc e1 hco) hd hco hss h
  ·cases h
 ·cases h
def G8a (hE:Hz X E) (K:B0 X S a) (hg:S.g=get A):∀ {xs:List Operand} {bs:List (Nat×Nat)},Aga E A xs=some bs→S8 S bs (xs.map a.eval)
 |[],bs,h=>by
  simp only[Aga,Vc]at h;subst h;rfl
 |x::l,bs,h=>by
  simp only[Aga]at h;split at h
  ·rename_i b v hx;split at h
   ·rename_i bs' hr;cases h;obtain⟨pl,h2⟩:=Gj hE K hg hx;exact⟨_,_,rfl,h2,G8a hE K hg hr⟩
   ·cases h
  ·cases h
def E1a (hE:Hz X E) (K:B0 X S a) (hg:S.g=get A) {f:FuncId} {x y:Array Operand} {d:Nat} (ho:o.op = .makeFunc (.func f) x y) (hod:o.dst=some d) (hd:d<X.nt) (h:Au E o A Kc=some r):Gp X o a S.w A Kc r:=by
 unfold Au at h;rw[ho,hod]at h;simp only at h;split at h
 ·rename_i bs hx hy
  have ex:x = #[]:=by
   apply Dhb
   simpa using hx
  subst ex;have hsv:Hh X.P S 0 (.one (.fn f bs)) (.func (.func f) #[] (y.toList.map a.eval).toArray):=⟨_,rfl,G8a hE K hg hy⟩;have K2:=K.put0 hd _ _ 0 rfl hsv;refine⟨_,h,Ap (S:=J9 S (λ _ _=>none) d _ _) (v := .func (.func f) #[] (y.toList.map a.eval).toArray) ?_ (by rw[hod];exact K2) ?_⟩
  ·show _=Result.ok _ S.w
   have e1:y.map a.eval=(y.toList.map a.eval).toArray:=by
    apply Dhb;simp
   unfold execOp;simp[ho,Instr.makeFunc,e1]
  ·show upd S.g d _=_;rw[Ao,← hg]
 ·cases h
end
end

section
attribute [local irreducible] C H
structure Sq (X:Cx) (E:En):Prop where
 en:Hz X E
 call:∀ f en,E.call f=some en→L6 X.P f en
section
variable {X:Cx} {S S1 S2:Sit} {a:Act} {E:En} {A:Ab} {o:Oper} {R:Type} {Kc:List Up→Option R} {r:R}
def Lba (hV:Sq X E) (K:B0 X S a) (hg:S.g=get A) (hd:∀ d,o.dst=some d→d<X.nt) (h:Au E o A Kc=some r):Gp X o a S.w A Kc r:=by
 have hE:=hV.en
 cases ho:o.op with
 |call c=>
  cases hc:c.callee with
  |builtin b=>
   cases b with
   |len=>exact Xda hE K hg ho hc hd h
   |min=>exact Ata hE K hg false ho hc hd h
   |max=>exact Ata hE K hg true ho hc hd h
   |append=>exact Kza hE K hg ho hc hd h
   |_=>unfold Au at h;rw[ho]at h;simp only[hc]at h;cases h
  |value f=>
   cases f with
   |func f=>exact Uva hE hV.call K hg ho hc hd h
   |tmp t=>exact Q1a hE hV.call K hg ho hc hd h
   |_=>unfold Au at h;rw[ho]at h;simp only[hc]at h;cases h
  |invoke x m=>unfold Au at h;rw[ho]at h;simp only[hc]at h;cases h
 |makeFunc fn x y=>cases fn with
  |func f=>cases hod:o.dst with
   |none=>unfold Au at h;rw[ho,hod]at h;cases h
   |some d=>exact E1a hE K hg ho hod (hd d hod) h
  |_=>unfold Au at h;rw[ho]at h;cases hod:o.dst<;>(rw[hod]at h;cases h)
 |store T x y=>
  cases hod:o.dst with
  |none=>exact Pra hE K hg ho hod h
  |some d=>unfold Au at h;rw[ho,hod]at h;cases h
 |move x=>cases hod:o.dst with
  |none=>unfold Au at h;rw[ho,hod]at h;cases h
  |some d=>exact Uca hE K hg ho hod (hd d hod) h
 |assign x=>cases hod:o.dst with
  |none=>unfold Au at h;rw[ho,hod]at h;cases h
  |some d=>exact Kea hE K hg ho hod (hd d hod) h
 |pick c x y=>cases hod:o.dst with
  |none=>unfold Au at h;rw[ho,hod]at h;cases h
  |some d=>exact Uea hE K hg ho hod (hd d hod) h
 |binOp op T x y T'=>cases hod:o.dst with
  |none=>unfold Au at h;rw[ho,hod]at h;cases h
  |some d=>exact Pfa hE K hg ho hod (hd d hod) h
 |unOp op T x=>cases hod:o.dst with
  |none=>unfold Au at h;rw[ho,hod]at h;cases h
  |some d=>exact Uda hE K hg ho hod (hd d hod) h
 |convert T T' x=>cases hod:o.dst with
  |none=>unfold Au at h;rw[ho,hod]at h;cases h
  |some d=>exact I9a hE K hg ho hod (hd d hod) h
 |nilCheck x=>cases hod:o.dst with
  |none=>unfold Au at h;rw[ho,hod]at h;cases h
  |some d=>exact Dqa hE K hg ho hod (hd d hod) h
 |extract x j=>cases hod:o.dst with
  |none=>unfold Au at h;rw[ho,hod]at h;cases x<;>cases h
  |some d=>cases x with
   |tmp t=>exact I4a hE K hg ho hod (hd d hod) h
   |_=>unfold Au at h;rw[ho,hod]at h;cases h
 |field T x j=>cases hod:o.dst with
  |none=>unfold Au at h;rw[ho,hod]at h;cases x<;>cases h
  |some d=>cases x with
   |tmp t=>exact Pia hE K hg ho hod (hd d hod) h
   |_=>unfold Au at h;rw[ho,hod]at h;cases h
 |build T ps=>cases hod:o.dst with
  |none=>unfold Au at h;rw[ho,hod]at h;cases h
  |some d=>exact Pua hE K hg ho hod (hd d hod) h
 |alloc T=>cases hod:o.dst with
  |none=>unfold Au at h;rw[ho,hod]at h;cases h
  |some d=>exact Psa hE K hg ho hod (hd d hod) h
 |box T x=>cases hod:o.dst with
  |none=>unfold Au at h;rw[ho,hod]at h;cases h
  |some d=>exact Xha hE K hg ho hod (hd d hod) h
 |load T x=>cases hod:o.dst with
  |none=>unfold Au at h;rw[ho,hod]at h;cases h
  |some d=>exact Uga hE K hg ho hod (hd d hod) h
 |fieldAddr T x j=>cases hod:o.dst with
  |none=>unfold Au at h;rw[ho,hod]at h;cases h
  |some d=>exact Aua hE K hg ho hod (hd d hod) h
 |indexAddr T x i=>cases hod:o.dst with
  |none=>unfold Au at h;rw[ho,hod]at h;cases h
  |some d=>
   cases hop:E.opn d with
   |true=>exact B1a hE K hg ho hod (hd d hod) hop h
   |false=>exact Ava hE K hg ho hod (hd d hod) hop h
 |index T x i=>cases hod:o.dst with
  |none=>unfold Au at h;rw[ho,hod]at h;cases h
  |some d=>exact Pga hE K hg ho hod (hd d hod) h
 |slice T x lo hi mx=>cases hod:o.dst with
  |none=>unfold Au at h;rw[ho,hod]at h;cases mx<;>cases h
  |some d=>cases mx with
   |none=>exact Pja hE K hg ho hod (hd d hod) h
   |some m=>unfold Au at h;rw[ho,hod]at h;cases h
 |buildSlice T n ps=>cases hod:o.dst with
  |none=>unfold Au at h;rw[ho,hod]at h;cases h
  |some d=>exact Xa hE K hg ho hod (hd d hod) h
 |makeSlice T x y=>cases hod:o.dst with
  |none=>unfold Au at h;rw[ho,hod]at h;cases h
  |some d=>exact B3a hE K hg ho hod (hd d hod) h
 |_=>unfold Au at h;rw[ho]at h;cases hod:o.dst<;>(rw[hod]at h;cases h)
def Sma (hE:Hz X E) (K:B0 X S a) (hg:S.g=get A) (hd:Aha E o=true):∃ S',B0 X S' (a.put o.dst undef)∧S'.g=get (Ou o A)∧S'.w=S.w:=by
 unfold Ou;unfold Aha at hd
 cases hod:o.dst with
 |none=>exact⟨S,K,hg,rfl⟩
 |some d=>
  rw[hod]at hd;have hdl:d<X.nt:=hE.nt ▸ (Vj hd:d+1≤E.nt);refine⟨_,K.put0 hdl (.one .un) undef 0 rfl rfl,?_,rfl⟩;show upd S.g d _=_;rw[Jz,← hg];rfl
def Aab (X:Cx) (Q:Exit→Act→World→Prop) (K:Ab→Option R) (r:R):Prop:=∀ S a A,B0 X S a→S.g=get A→K A=some r→Q .normal a S.w
def Sr {A:Ab} {d n:Nat} {v:Bool} (h:get A d=(n,.one (.sc (.bool v)))):get (lit A d n v)=get A:=by
 funext k;unfold lit;simp only[get]
 by_cases hk:k=d
 ·subst hk;simp[h]
 ·have:Nat.beq d k=false:=by
   cases hb:Nat.beq d k with
   |false=>rfl
   |true=>exact absurd (Ve hb).symm hk
  simp[this]
def Xf (hV:Sq X E) {ops:Array Oper} {Q:Exit→Act→World→Prop}:∀ (l:List Nat) {S:Sit} {a:Act} {A:Ab} {K:Ab→Option R} {r:R},B0 X S a→S.g=get A→S4 E ops.toList l A K=some r→Aab X Q K r→wpOps X.P ops Q l a S.w
 |[],S,a,A,K,r,hK,hg,h,hQ=>hQ S a A hK hg h
 |i::l,S,a,A,K,r,hK,hg,h,hQ=>by
  rw[wpOps_cons];unfold S4 at h;rw[H2]at h;unfold wpOp;split at h
  ·cases h
  ·rename_i o ho
   have ho':ops[i]? = some o:=by simpa using ho
   rw[ho'];simp only;obtain⟨hd,h⟩:=cs h
   have hdl:∀ d,o.dst=some d→d<X.nt:=λ d hod=>by
    unfold Aha at hd;rw[hod]at hd;exact hV.en.nt ▸ (Vj hd:d+1≤E.nt)
   have go:∀ {A:Ab},S.g=get A→Au E o A (λ U=>S4 E ops.toList l (ups A U) K)=some r→o.wp X.P a S.w (wpOps X.P ops Q l) Q:=by
    intro A hg h;obtain⟨U,hU,hgo⟩:=Lba hV hK hg hdl h;exact hgo _ _ (λ S' a' K' g'=>Xf hV l K' g' hU hQ)
   have skip:∀ {A:Ab},S.g=get A→S4 E ops.toList l (Ou o A) K=some r→wpOps X.P ops Q l (a.put o.dst undef) S.w:=by
    intro A hg h;obtain⟨S',K',g',w'⟩:=Sma hV.en hK hg hd;rw[← w'];exact Xf hV l K' g' h hQ
   split at h
   ·rename_i hgd
    have hw:Region.wanted o (yielded ops a.tmps)=true:=by unfold Region.wanted;rw[hgd]
    rw[if_pos hw];exact .inl (go hg h)
   ·rename_i j want hgd;split at h
    ·cases h
    ·rename_i dj hdj
     have hdj':(ops[j]?).bind (·.dst)=some dj:=by
      unfold K2a at hdj;rw[H2]at hdj
      have:ops.toList[j]? = ops[j]? := by simp
      rw[this]at hdj
      cases hj:ops[j]? with
      |none=>rw[hj]at hdj;cases hdj
      |some oj=>rw[hj]at hdj;simpa using hdj
     obtain⟨hb,h⟩:=cs h;have hjl:dj<X.nt:=hV.en.nt ▸ (Vj hb:dj+1≤E.nt)
     have htm:a.tmps[dj]? = some (S.ph dj):=by
      have h1:=hK.sl dj hjl
      have h2:dj<a.tmps.size:=by rw[hK.sz];exact hjl
      rw[← h1,Yi,Bnb h2];rfl
     have hy:yielded ops a.tmps j=(match S.ph dj with | .bool b=>some b|_=>none):=by
      unfold yielded;rw[hdj',Vt,htm]
      cases S.ph dj<;>rfl
     have hwd:Region.wanted o (yielded ops a.tmps)=((match S.ph dj with | .bool b=>some b|_=>none)==some want):=by
      unfold Region.wanted;rw[hgd];simp only;rw[hy]
     split at h
     ·rename_i n b hgt
      have hph:S.ph dj = .bool b:=by
       have:=hK.at_ dj;rw[hg,hgt]at this;exact this.1
      rw[hph]at hwd
      have hgl:S.g=get (lit A dj n b):=by rw[Sr hgt];exact hg
      cases b with
      |true=>
       rw[cond_true]at h
       cases want with
       |true=>
        rw[cond_true]at h;rw[if_pos (by rw[hwd];rfl)];exact .inl (go hgl h)
       |false=>
        rw[cond_false]at h;rw[if_neg (by rw[hwd];decide)];exact skip hgl h
      |false=>
       rw[cond_false]at h
       cases want with
       |true=>
        rw[cond_true]at h;rw[if_neg (by rw[hwd];decide)];exact skip hgl h
       |false=>
        rw[cond_false]at h;rw[if_pos (by rw[hwd];rfl)];exact .inl (go hgl h)
     ·rename_i n hgt
      have hph:S.ph dj=undef:=by
       have:=hK.at_ dj;rw[hg,hgt]at this;exact this
      rw[hph]at hwd;rw[if_neg (by rw[hwd];simp[undef])];exact skip hg h
     ·cases h
end
end

section
attribute [local irreducible] C H
def G9a:Ex→Exit
 |.normal => .normal
 |.exit i => .exit i
 |.ret => .ret
def Zja {J:Nat→Prop}:∀ n,J n→∃ m,J m∧(∀ k,J k→m≤k):=by
 intro n
 induction n using Nat.strongRecOn with
 |_ n ih=>
  intro hn
  by_cases h:∃ m,m<n∧J m
  ·obtain⟨m,hm,hj⟩:=h;exact ih m hm hj
  ·exact⟨n,hn,λ k hk=>Nat.le_of_not_lt (λ hlt=>h ⟨k,hlt,hk⟩)⟩
open Classical in
def Iia {P:Program} {c:Code} {Q:Exit→Act→World→Prop} (J:Nat→Act→World→Prop) {n:Nat} {a:Act} {w:World} (h0:J n a w)
  (round:∀ n a w,J n a w→c.wp P (Exit.then (λ a' w'=>∃ m,m<n∧J m a' w') Q) a w):(Code.loop c).wp P Q a w:=by
 let μ:Act→World→Nat:=λ a w=>if h:∃ m,J m a w∧(∀ k,J k a w→m≤k) then Classical.choose h else 0
 have hμ:∀ a w n,J n a w→J (μ a w) a w∧(∀ k,J k a w→μ a w≤k):=by
  intro a w n hn;have h:=Zja (J:=λ m=>J m a w) n hn
  have e:μ a w=Classical.choose h:=by simp only[μ];rw[dif_pos h]
  rw[e];exact Classical.choose_spec h
 refine wp_loop (λ a w=>∃ n,J n a w) μ ⟨n,h0⟩ ?_;rintro a w ⟨n,hn⟩;obtain⟨h1,h2⟩:=hμ a w n hn;refine wp_mono (round (μ a w) a w h1) ?_;intro e a' w' hq
 cases e<;>first|exact hq|skip
 obtain⟨m,hm,hj⟩:=hq;refine⟨⟨m,hj⟩,Nat.lt_of_le_of_lt ((hμ a' w' m hj).2 m hj) hm⟩
section
variable {X:Cx} {S S1 S2:Sit} {a:Act} {E:En} {A:Ab} {o:Oper} {R:Type} {Kc:List Up→Option R} {r:R}
def Jv (O:Nat→Lab) (vs:List (Nat×Ty)):Nat→Lab:=λ k=>match O k with
 |.pl p []=>if Ow vs p then .pl p [] else .fz
 |o=>o
def Iv {O:Nat→Lab} {vs:List (Nat×Ty)} {k:Nat} {o:Lab} (h:O k=o) (ho:∀ p,o ≠ .pl p []):Jv O vs k=o:=by
 unfold Jv;rw[h]
 cases o<;>first|rfl|skip
 rename_i l p
 cases p<;>first|rfl|exact absurd rfl (ho _)
def Xg {P:Program} {S:Sit} {lab:Lab} {t:Ty} {z:Lf} {x:t.den} {y:Lf} {u:Value} (hw:mkW t [z]=some x) (hy:A6 t x=[y]) (hz:B8 P S lab z u) (ho:Wqa t=true∨z.isOwn=false):B8 P S lab y u:=by
 cases t with
 |pr p q=>
  have h1:=G4 (.pr p q) x;rw[hy]at h1;have:=M8 p;have:=M8 q;have h2:1=p.sz+q.sz:=h1;omega
 |ow e r=>
  have h1:Aa P S (λ _=>lab) 0 (A6 (.ow e r) x) [u]:=Nh (by trivial) hw ⟨hz,trivial⟩;rw[hy]at h1;exact h1.1
 |i k=>
  cases z<;>first|(simp[mkW,mkT]at hw;done)|skip
  rename_i v
  cases v<;>first|(simp[mkW,mkT]at hw;done)|skip
  rename_i k' n;unfold mkW at hw;simp only[mkT]at hw
  by_cases hk:k=k'
  ·subst hk;simp only[decide_true,cond_true,Vc]at hw;subst hw;simp only[A6,Yh,and_true]at hy;subst hy;exact hz
  ·simp[hk]at hw
 |b=>
  cases z<;>first|(simp[mkW,mkT]at hw;done)|skip
  rename_i v
  cases v<;>first|(simp[mkW,mkT]at hw;done)|skip
  unfold mkW at hw;simp only[mkT,Vc]at hw;subst hw;simp only[A6,Yh,and_true]at hy;subst hy;exact hz
 |s=>
  cases z<;>first|(simp[mkW,mkT]at hw;done)|skip
  rename_i v
  cases v<;>first|(simp[mkW,mkT]at hw;done)|skip
  unfold mkW at hw;simp only[mkT,Vc]at hw;subst hw;simp only[A6,Yh,and_true]at hy;subst hy;exact hz
 |sl e r=>
  simp only[A6,Yh,and_true]at hy;subst hy
  cases z<;>first|(simp[mkW,mkT]at hw;done)|skip
  ·rename_i e' r' xs;unfold mkW at hw;simp only[mkT]at hw;cases hb:Nat.beq e e'
   ·rw[hb]at hw;simp at hw
   rw[hb,cond_true]at hw;have he:e=e':=Ve hb;subst he
   cases hc:O3 r r' xs with
   |none=>rw[hc]at hw;simp at hw
   |some ys=>
    rw[hc]at hw;cases hw;exact Ox hc hz
  ·simp[Wqa,Lf.isOwn]at ho
def Ija {vs:List (Nat×Ty)} {l:Nat} {t:Ty} (hm:(l,t)∈vs) (ht:Wqa t=true):Ow vs l=true:=by
 unfold Ow;rw[Cvb];refine⟨(l,t),hm,?_⟩
 cases t<;>first|(simp[Wqa]at ht;done)|simp
def Uwa (K:B0 X S a) (hg:S.g=get A) {all:List (Nat×Ty)} {l:Nat} {t:Ty} {x:t.den} (hm:(l,t)∈all) (h:P5a A all l t=some x):
  ∀ y,A6 t x=[y]→B8 X.P { S with O:=Jv S.O all } (.pl l []) y (S.ph l):=by
 intro y hy;have hfz:∀ k,S.O k = .fz→Jv S.O all k = .fz:=λ k hk=>Iv hk (by simp)
 have L:Ep S { S with O:=Jv S.O all }:=⟨λ _=>Vv _,λ _ _=>rfl,λ p v e r xs' h _=>⟨xs',h,rfl⟩,λ _ _=>rfl,λ k hk=>⟨hfz k hk,rfl⟩,Ep.box_of (λ _ _ _ h=>h) (λ k b h=>⟨Iv h (by simp),rfl⟩),λ p _ hd=>⟨hd,λ _ _ _ h=>h,λ k hk=>by
  refine⟨?_,rfl⟩
  cases hkp:Ow all p with
  |true=>exact .inl (by show Jv S.O all k=_;unfold Jv;rw[hk];simp[hkp])
  |false=>exact .inr (by show Jv S.O all k=_;unfold Jv;rw[hk];simp[hkp])⟩⟩
 have hat:=K.at_ l;rw[hg]at hat
 have frz:∀ (p:Nat) (e:TypeId) (r:Ty) (xs:List r.den),Ow all p=false→Eo X.P S.O S.w (.pl p []) e r xs (S.ph p)→B8 X.P { S with O:=Jv S.O all } .fz (.fz e r xs) (S.ph p):=by
  intro p e r xs hk ho
  exact ho.reads (O':=Jv S.O all) hfz (λ k hkk=>by
   unfold Jv;rw[hkk]
   simp[hk])
 unfold P5a at h;split at h
 ·rename_i p v hgl;rw[hgl]at hat;have hat':B8 X.P S (.pl l []) (.al p v) (S.ph l):=hat;cases hk:Ow all p
  case true=>rw[hk]at h;simp at h
  rw[hk,cond_false]at h
  have hz:B8 X.P { S with O:=Jv S.O all } .fz (Kf (Ih A (.al p v))) (S.ph l):=by
   simp only[Ih];split
   ·rename_i n e r xs hp;cases hb:Nat.beq n v
    ·exact trivial
    have hnv:n=v:=by simpa using hb
    subst hnv;rw[cond_true,hat'.2 (by rw[hg,hp])];have h3:=K.at_ p;rw[hg,hp]at h3;exact frz p e r xs hk h3
   ·rename_i n e r xs hp;cases hb:Nat.beq n v
    ·exact trivial
    have hnv:n=v:=by simpa using hb
    subst hnv;rw[cond_true,hat'.2 (by rw[hg,hp])];have h3:=K.at_ p;rw[hg,hp]at h3;exact Ty.rep_mono (t := .sl e r) hfz (λ _ _=>rfl) _ _ h3
   ·exact trivial
  have hno:(Kf (Ih A (.al p v))).isOwn=false:=by cases Ih A (.al p v)<;>rfl
  have:=Xg h hy hz (.inr hno)
  have hyo:y.isOwn=false:=by
   cases t<;>first|(simp[A6]at hy;subst hy;rfl)|skip
   ·cases hs:Kf (Ih A (.al p v)) with
    |own e r xs=>rw[hs]at hno;simp[Lf.isOwn]at hno
    |_=>rw[hs]at h;simp[mkW,mkT]at h
   ·rename_i p q;have h1:=G4 (.pr p q) x;rw[hy]at h1;have:=M8 p;have:=M8 q;have h2:1=p.sz+q.sz:=h1;omega
  exact this.relab hyo
 ·rename_i e r xs hgl;rw[hgl]at hat;have hat':Eo X.P S.O S.w (.pl l []) e r xs (S.ph l):=hat
  cases hot:Wqa t with
  |true=>
   rw[hot,cond_true]at h;have hkl:=Ija hm hot;have hz:B8 X.P { S with O:=Jv S.O all } (.pl l []) (.own e r xs) (S.ph l):=B8.later (x := .own e r xs) L hat (λ k hk=>⟨by show Jv S.O all k=_;unfold Jv;rw[hk];simp[hkl],rfl⟩);exact Xg h hy hz (.inl hot)
  |false=>
   rw[hot,cond_false]at h;cases hk:Ow all l
   case true=>rw[hk]at h;simp at h
   rw[hk,cond_false]at h;have:=Xg h hy (B8.relab (lab' := .pl l []) rfl (frz l e r xs hk hat')) (.inr rfl);exact this
 ·rename_i z _ hno hgl;rw[hgl]at hat;have hat':B8 X.P S (.pl l []) z (S.ph l):=hat
  have hzo:z.isOwn=false:=by
   cases z<;>first|rfl|exact(hno _ _ _ rfl).elim|skip
   exfalso
   cases t<;>first|(simp[mkW,mkT]at h;done)|skip
   rename_i p q;have h1:=G4 (.pr p q) x;rw[hy]at h1;have:=M8 p;have:=M8 q;have h2:1=p.sz+q.sz:=h1;omega
  have hz:B8 X.P { S with O:=Jv S.O all } (.pl l []) z (S.ph l):=(B8.relab (lab' := .fz) hzo hat').later (lab' := .fz) L (λ k hk=>⟨hfz k hk,rfl⟩) |>.relab hzo;exact Xg h hy hz (.inr hzo)
 ·cases h
end
end

end Go.Proofs.Ytcpligincipmhaa.Vf
