import Derived.Test.YtcpligincipmhaaGreatMag
set_option linter.all false
namespace Go.Proofs.YtcpligincipmhaaGreat.Vf
open Go
open List (length getD)
open Int (toNat)
open Go.IntKind (wrap)
open BitVec (ofInt)
def Zv:=@Array.getElem?_eq_some_iff
def E3b:=@List.mem_of_getElem?
def Epb:=@List.getElem?_cons_zero
def Ewb:=@Array.getElem?_append

section
attribute [local irreducible] C H
section
variable {X:Cx} {S S1 S2:Sit} {a:Act} {E:En} {A:Ab} {o:Oper} {R:Type} {Kc:List Up→Option R} {r:R}
def Ra {Q:Nat→Nat×Sv→Prop} (h0:∀ l,Q l (0,.one .dead)):∀ (B:Ab),(∀ e∈B,Q e.1 e.2)→∀ l,Q l (get B l)
 |[],_,l=>h0 l
 |(k,n,s)::B,h,l=>by
  simp only[get]
  cases hb:Nat.beq k l with
  |true=>
   have:k=l:=Vg hb;subst this;exact h (k,n,s) (by simp)
  |false=>exact Ra h0 B (λ e he=>h e (Vd _ he)) l
def Sp (A:Ab) (all:List (Nat×Ty)):∀ (t:Ty) (l:Nat) (x:t.den),Xna A all l t=some x→
  ∀ e∈Kpa l t x,∃ t',∃ z:t'.den,∃ y,(e.1,t')∈Pva l t∧Pua A all e.1 t'=some z∧A6 t' z=[y]∧e.2=(0,.one y)
 |.pr ta tb,l,x,h=>by
  intro e he;simp only[Xna]at h;split at h
  ·rename_i x1 h1;split at h
   ·rename_i x2 h2;cases h;rcases Vm.1 he with he|he
    ·obtain⟨t',z,y,g1,g2⟩:=Sp A all ta l x1 h1 e he;exact⟨t',z,y,Vx _ g1,g2⟩
    ·obtain⟨t',z,y,g1,g2⟩:=Sp A all tb (l+ta.sz) x2 h2 e he;exact⟨t',z,y,Vo _ g1,g2⟩
   ·cases h
  ·cases h
 |.i k,l,x,h=>λ e he=>by rw[Vn.1 he];exact⟨.i k,x,_,Vn.2 rfl,h,rfl,rfl⟩
 |.b,l,x,h=>λ e he=>by rw[Vn.1 he];exact⟨.b,x,_,Vn.2 rfl,h,rfl,rfl⟩
 |.s,l,x,h=>λ e he=>by rw[Vn.1 he];exact⟨.s,x,_,Vn.2 rfl,h,rfl,rfl⟩
 |.sl q r,l,x,h=>λ e he=>by rw[Vn.1 he];exact⟨.sl q r,x,_,Vn.2 rfl,h,rfl,rfl⟩
 |.ow q r,l,x,h=>λ e he=>by rw[Vn.1 he];exact⟨.ow q r,x,_,Vn.2 rfl,h,rfl,rfl⟩
def C0a:∀ (vs:List (Nat×Ty)) (all:List (Nat×Ty)) (x:Den (vs.map Prod.snd)),Pwa A all vs=some x→
  ∀ e∈Baa vs x,∃ t,∃ z:t.den,∃ y,(e.1,t)∈Xv vs∧Pua A all e.1 t=some z∧A6 t z=[y]∧e.2=(0,.one y)
 |[],_,_,_=>by simp[Baa]
 |[v],all,x,h=>λ e he=>by
  obtain⟨t,z,y,h1,h2⟩:=Sp A all v.2 v.1 x h e he;exact⟨t,z,y,Vx _ h1,h2⟩
 |v::w::l,all,x,h=>by
  simp only[Pwa]at h;split at h
  ·rename_i x1 hx1;split at h
   ·rename_i x2 hx2;cases h;intro e he;rcases Vm.1 he with he|he
    ·obtain⟨t,z,y,h1,h2⟩:=Sp A all v.2 v.1 x1 hx1 e he;exact⟨t,z,y,Vx _ h1,h2⟩
    ·obtain⟨t,z,y,h1,h2,h3,h4⟩:=C0a (w::l) all x2 hx2 e he;exact⟨t,z,y,Vo _ h1,h2,h3,h4⟩
   ·cases h
  ·cases h
def Sq:∀ (cs:List (Nat×Lf)),Pxa A cs=true→∀ c∈cs,
  (∃ b off v,c.2 = .bp b 0 off∧(get A c.1).2 = .one (.bp b v off)∧(get A (H b)).1=v)∨(∃ m,c.2 = .hd m∧(get A c.1).2 = .one (.hd m))∨
   ∃ F bs bs',c.2 = .fn F bs∧(get A c.1).2 = .one (.fn F bs')∧E2a bs bs'=true∧Kz A bs'=true
 |[],_,c,hc=>by simp at hc
 |(l,z)::cs,h,c,hc=>by
  cases z with
  |bp b v0 off=>
   simp only[Pxa,Va]at h;obtain⟨h1,h2⟩:=h;rcases Vl.1 hc with rfl|hc
   ·split at h1
    ·rename_i n b' v off' hg;simp only[Va]at h1;obtain⟨⟨⟨e1,e2⟩,e3⟩,e4⟩:=h1;have e1:v0=0:=Vg e1;have e2:b=b':=Vg e2;have e3:off=off':=Vg e3;subst e1 e2 e3;split at e4
     ·rename_i n' m' hh;have:n'=v:=Vg e4;refine .inl ⟨b,off,v,rfl,by rw[hg],by rw[hh,this]⟩
     ·cases e4
    ·cases h1
   ·exact Sq cs h2 c hc
  |hd m=>
   simp only[Pxa,Va]at h;obtain⟨h1,h2⟩:=h;rcases Vl.1 hc with rfl|hc
   ·split at h1
    ·rename_i n m' hg;have:m=m':=Vg h1;subst this;exact .inr (.inl ⟨m,rfl,by rw[hg]⟩)
    ·cases h1
   ·exact Sq cs h2 c hc
  |fn F bs=>
   simp only[Pxa,Va]at h;obtain⟨h1,h2⟩:=h;rcases Vl.1 hc with rfl|hc
   ·split at h1
    ·rename_i n F' bs' hg;simp only[Va]at h1;have e1:F=F':=Vg h1.1.1;subst e1;exact .inr (.inr ⟨F,bs,bs',rfl,by rw[hg],h1.1.2,h1.2⟩)
    ·cases h1
   ·exact Sq cs h2 c hc
  |_=>simp[Pxa]at h
def Lva {S S':Sit} {A:Ab} (hg:S.g=get A) (hb:S'.bb=S.bb):∀ {bs bs':List (Nat×Nat)} {us:List Value},E2a bs bs'=true→Kz A bs'=true→T7 S bs' us→T7 S' bs us
 |[],[],us,_,_,h=>h
 |[],_::_,_,h,_,_=>by simp[E2a]at h
 |_::_,[],_,h,_,_=>by simp[E2a]at h
 |a::bs,c::bs',us,hs,ha,h=>by
  obtain⟨u,us',e,⟨h1,h2⟩,h3⟩:=h;simp only[E2a,Va]at hs;simp only[Kz,Va]at ha;have e1:a.1=c.1:=Vg hs.1.1;have e2:a.2=0:=Vg hs.1.2;refine⟨u,us',e,⟨by rw[e2];exact Vv _,λ _=>?_⟩,Lva hg hb hs.2 ha.2 h3⟩;rw[hb,e1];exact h2 (by rw[hg];exact Vg ha.1)
def C1a {v:B0a} {x:v.den} {e:Nat×Nat×Sv} (h:e∈S8 v x):e∈Baa v.vs x∨∃ c∈v.cs,e=(c.1,0,.one c.2):=by
 rcases Vm.1 h with h|h
 ·exact .inl h
 ·obtain⟨c,hc,rfl⟩:=Yw.1 h;exact .inr ⟨c,hc,rfl⟩
def Lwa (K:B1 X S a) (hg:S.g=get A) {v:B0a} {x:v.den} (h:V1a v A=some x):∃ S',B1 X S' a∧S'.g=get (S8 v x)∧S'.w=S.w:=by
 unfold V1a at h;obtain⟨hc,h⟩:=cs h;have hfz:∀ k,S.O k = .fz→Kx S.O (Xv v.vs) k = .fz:=λ k hk=>Jo hk (by simp);have hmem:=C0a v.vs (Xv v.vs) x h;have hcm:=Sq v.cs hc;refine⟨{ S with O:=Kx S.O (Xv v.vs),g:=get (S8 v x) },K.ghost _ _ (λ k e=>Jo e (by simp)) (λ k e1 e2=>e1 (Jo e2 (by simp))) hfz (λ k b e=>Jo e (by simp)) (λ b n hb=>?_) ?_,rfl,rfl⟩
 ·-- a box that is kept was one
  have key:∀ l,(∀ n,(get (S8 v x) l).2 = .one (.hd n)→(S.g l).2 = .one (.hd n)):=by
   refine Ra (Q:=λ l s=>∀ n,s.2 = .one (.hd n)→(S.g l).2 = .one (.hd n)) (λ l n hn=>by cases hn) _ (λ e he n hn=>?_);rcases C1a he with he|⟨c,hcc,rfl⟩
   ·obtain⟨t,z,y,_,_,h3,h4⟩:=hmem e he;rw[h4]at hn;have hy:=Ja t z y (by rw[h3];simp);simp only[Sv.one.injEq]at hn;rw[hn]at hy;simp[Hd]at hy
   ·rcases hcm c hcc with⟨b',off,v',e1,_⟩|⟨m,e1,e2⟩|⟨F,bs,bs',e1,_⟩
    rotate_left 2
    ·rw[e1]at hn;cases hn
    ·rw[e1]at hn;cases hn
    ·rw[e1]at hn;cases hn;rw[hg];exact e2
  exact key _ n hb
 ·refine Ra (Q:=λ l s=>Ib X.P { S with O:=Kx S.O (Xv v.vs),g:=get (S8 v x) } l s.2 (S.ph l)) (λ l=>trivial) _ (λ e he=>?_);rcases C1a he with he|⟨c,hcc,rfl⟩
  ·obtain⟨t,z,y,h1,h2,h3,h4⟩:=hmem e he;rw[h4];have hy:=Ja t z y (by rw[h3];simp);exact Bc.bare (S1 := { S with O:=Kx S.O (Xv v.vs) }) hy rfl (λ k hk=>hk) (λ k hk=>hk) (Vqa K hg h1 h2 y h3)
  ·rcases hcm c hcc with⟨b',off,v',e1,e2,e3⟩|⟨m,e1,e2⟩|⟨F,bs,bs',e1,e2,e3,e4⟩
   rotate_left 2
   ·rw[e1];have hat:=K.at_ c.1;rw[hg,e2]at hat;obtain⟨us,h5,h6⟩:Bc X.P S (.pl c.1 []) (.fn F bs') (S.ph c.1):=hat;exact⟨us,h5,Lva (S' := { S with O:=Kx S.O (Xv v.vs),g:=get (S8 v x) }) hg rfl e3 e4 h6⟩
   ·rw[e1];have hat:=K.at_ c.1;rw[hg,e2]at hat;have hat':Bc X.P S (.pl c.1 []) (.bp b' v' off) (S.ph c.1):=hat;refine⟨Vv _,λ _=>hat'.2 (by rw[hg];exact e3)⟩
   ·rw[e1];trivial
def Anb (X:Cx) (Q:Exit→Act→World→Prop) (K:Ex→Ab→Option R) (r:R):Prop:=∀ e S a A,B1 X S a→S.g=get A→K e A=some r→Q (Gsa e) a S.w
def C2a (X:Cx) (L:Lp) (c:Code):Prop:=∀ x y,L.run x=some y→∀ S a,B1 X S a→S.g=get (S8 L.ins x)→∀ Q:Exit→Act→World→Prop,
 (∀ e A S' a',V2a (λ e A=>some (e,A)) L.alts y=some (e,A)→B1 X S' a'→S'.g=get A→Q (Gsa e) a' S'.w)→(Code.loop c).wp X.P Q a S.w
def Kr (X:Cx) (E:En):Code→Prop
 |.seq a b=>Kr X E a∧Kr X E b
 |.cond _ a b=>Kr X E a∧Kr X E b
 |.block _ c=>Kr X E c
 |.loop c=>∀ L,E.lp (first c)=some L→C2a X L c
 |_=>True
def C3a (X:Cx) (E:En):Prop:=∀ {R:Type} (id:Nat) (ops:Array Oper) (Q:Exit→Act→World→Prop) (S:Sit) (a:Act) (A:Ab) (K:Ab→Option R) (r:R),B1 X S a→S.g=get A→T8a E ops.toList A K=some r→Bcb X Q K r→(Code.region id ops true).wp X.P Q a S.w
def C4a {K:Ex→Ab→Option R}:∀ (l:List (Ex×B0a)) (y:Psa l) (r:R),V2a K l y=some r→∃ e A,V2a (λ e A=>some (e,A)) l y=some (e,A)∧K e A=some r
 |[],y,_,_=>nomatch y
 |[b],y,r,h=>⟨_,_,rfl,h⟩
 |b::b2::l,.inl y,r,h=>⟨_,_,rfl,h⟩
 |b::b2::l,.inr z,r,h=>C4a (b2::l) z r h
def Qra {A:Ab} {c:Operand} {b:Bool} (h:opT E 0 A c=some (.one (.sc (.bool b)))):get (Abb E A c b)=get A:=by
 cases c with
 |tmp t=>
  unfold Abb;cases E.rf
  ·rfl
  have h:(bif Nat.blt t E.nt then some (get A t).2 else none)=some (.one (.sc (.bool b))):=h;cases hb:Nat.blt t E.nt
  ·rw[hb]at h;cases h
  rw[hb,cond_true,Vc]at h;funext l;show (bif Nat.beq t l then _ else get A l)=get A l;cases hl:Nat.beq t l
  ·rfl
  rw[← Vg hl,cond_true,cond_true,← h]
 |_=>rfl
def C5a (hV:Tn X E) (hD:C3a X E):∀ (c:Code) {S:Sit} {a:Act} {A:Ab} {Q:Exit→Act→World→Prop} {R:Type} {K:Ex→Ab→Option R} {r:R},Kr X E c→B1 X S a→S.g=get A→L5 E c A K=some r→Anb X Q K r→c.wp X.P Q a S.w:=by
 intro c
 induction c with
 |skip=>intro S a A Q R K r hL hK hg h hQ;exact wp_skip (hQ .normal S a A hK hg h)
 |region id ops draw=>
  intro S a A Q R K r hL hK hg h hQ;unfold L5 at h;obtain⟨A1,S1,h,K1,g1,w1⟩:=Lu hV.en _ hK hg h;rw[← w1]
  cases draw with
  |true=>exact hD id ops Q S1 a A1 _ r K1 g1 h (λ S' a' A' K' g' h'=>hQ .normal S' a' A' K' g' h')
  |false=>exact wp_region (Z3 hV _ K1 g1 h (λ S' a' A' K' g' h'=>hQ .normal S' a' A' K' g' h'))
 |seq x y ihx ihy=>
  intro S a A Q R K r hL hK hg h hQ;unfold L5 at h;refine wp_seq (ihx hL.1 hK hg h (λ e S' a' A' K' g' h'=>?_))
  cases e with
  |normal=>exact ihy hL.2 K' g' h' hQ
  |exit i=>exact hQ (.exit i) S' a' A' K' g' h'
  |ret=>exact hQ .ret S' a' A' K' g' h'
 |cond x y z ihy ihz=>
  intro S a A Q R K r hL hK hg h hQ;unfold L5 at h;split at h
  ·rename_i b hx;have e1:=(L9 hV.en hK hg hx).1;have hg2:=hg.trans (Qra hx).symm
   cases b with
   |true=>exact wp_cond_true e1 (ihy hL.1 hK hg2 h hQ)
   |false=>exact wp_cond_false e1 (ihz hL.2 hK hg2 h hQ)
  ·cases h
 |block id c ih=>
  intro S a A Q R K r hL hK hg h hQ;unfold L5 at h;refine wp_block (ih hL hK hg h (λ e S' a' A' K' g' h'=>?_))
  cases e with
  |normal=>exact hQ .normal S' a' A' K' g' h'
  |exit i=>
   show (if i=id then Q .normal a' S'.w else Q (.exit i) a' S'.w);simp only at h'
   cases hb:Nat.beq i id with
   |true=>
    rw[hb,cond_true]at h';rw[if_pos (Vg hb)];exact hQ .normal S' a' A' K' g' h'
   |false=>
    rw[hb,cond_false]at h';rw[if_neg (λ e=>by rw[e]at hb;simp at hb)];exact hQ (.exit i) S' a' A' K' g' h'
  |ret=>exact hQ .ret S' a' A' K' g' h'
 |loop c ih=>
  intro S a A Q R K r hL hK hg h hQ;unfold L5 at h;split at h
  ·rename_i L hLp;obtain⟨A0,S0,h,hK,hg,w0⟩:=Lu hV.en _ hK hg h;rw[← w0];split at h
   ·rename_i x hx
    cases hr:L.run x with
    |none=>rw[hr]at h;simp at h
    |some y=>
     rw[hr]at h;simp only[Vu]at h;obtain⟨S1,K1,g1,w1⟩:=Lwa hK hg hx;rw[← w1];obtain⟨e0,A0,h0,h1⟩:=C4a L.alts y r h;refine hL L hLp x y hr S1 a K1 g1 Q (λ e A' S' a' h2 K' g'=>?_);rw[h0]at h2;cases h2;exact hQ _ S' a' _ K' g' h1
   ·cases h
  ·cases h
 |exit id=>intro S a A Q R K r hL hK hg h hQ;exact wp_exit (hQ (.exit id) S a A hK hg h)
 |ret=>intro S a A Q R K r hL hK hg h hQ;exact wp_ret (hQ .ret S a A hK hg h)
 |_=>intro S a A Q R K r hL hK hg h hQ;unfold L5 at h;cases h
end
end

section
attribute [local irreducible] C H
section
variable {X:Cx} {E:En} {A:Ab}
def Tfa {e e':Ex} (h:exB e e'=true):e=e':=by
 cases e<;>cases e'<;>first|rfl|(simp[exB]at h;done)|skip
 simp only[exB]at h;rw[Vg h]
def Gta {e:Ex} {A:Ab}:∀ (l:List (Ex×B0a)) (y:Psa l),Ira e A l=some y→∃ v,∃ z:v.den,V2a (λ e A=>some (e,A)) l y=some (e,S8 v z)∧V1a v A=some z
 |[],y,_=>nomatch y
 |[b],y,h=>by
  simp only[Ira]at h;obtain⟨hb,h⟩:=cs h;exact⟨b.2,y,by rw[Tfa hb];rfl,h⟩
 |b::b2::l,y,h=>by
  simp only[Ira]at h
  cases hb:exB e b.1 with
  |true=>
   rw[hb,cond_true]at h;split at h
   ·rename_i x hx;cases h;exact⟨b.2,x,by rw[Tfa hb];rfl,hx⟩
   ·cases h
  |false=>
   rw[hb,cond_false]at h;split at h
   ·rename_i x hx;cases h;exact Gta (b2::l) x hx
   ·cases h
def Vra {ins:B0a} {alts:List (Ex×B0a)} {f:Nat→ins.den→Option (Psa alts)} {En':Nat→En} {c:Code} (h0:∀ x,f 0 x=none) (hs:∀ k x,Kqa (En' k) ⟨ins,alts,f k⟩ c x=f (k+1) x)
  (hV:∀ k,Tn X (En' k)) (hD:∀ k,C3a X (En' k)) (hL:∀ k,Kr X (En' k) c):∀ k,C2a X ⟨ins,alts,f k⟩ c:=by
 intro k x y hy S a K hg Q hQ
 let J:Nat→Act→World→Prop:=λ n a w=>∃ x y S,f n x=some y∧B1 X S a∧S.g=get (S8 ins x)∧S.w=w∧
  (∀ e A S' a',V2a (λ e A=>some (e,A)) alts y=some (e,A)→B1 X S' a'→S'.g=get A→Q (Gsa e) a' S'.w)
 refine J6a J (n:=k) ⟨x,y,S,hy,K,hg,rfl,hQ⟩ ?_;rintro n a w ⟨x,y,S,hy,K,hg,rfl,hQ⟩
 cases n with
 |zero=>rw[h0]at hy;cases hy
 |succ m=>
  rw[← hs]at hy;unfold Kqa at hy;refine C5a (hV m) (hD m) c (hL m) K hg hy (λ e S' a' A' K' g' h'=>?_)
  have ends:∀ {e:Ex},Mg (En' m) ((En' m).gh (1000001+first c)) A' (λ A=>Ira e A alts)=some y→Q (Gsa e) a' S'.w:=by
   intro e h;obtain⟨A',S2,h,K',g',w2⟩:=Lu (hV m).en _ K' g' h;rw[← w2];obtain⟨v,z,h1,h2⟩:=Gta alts y h;obtain⟨S1,K1,g1,w1⟩:=Lwa K' g' h2;rw[← w1];exact hQ e _ S1 a' h1 K1 g1
  cases e with
  |normal=>
   obtain⟨A',S2,h',K',g',w2⟩:=Lu (hV m).en _ K' g' h';split at h'
   ·rename_i x' hx';obtain⟨S1,K1,g1,w1⟩:=Lwa K' g' hx';exact⟨m,Nat.lt_succ_self m,x',y,S1,h',K1,g1,w1.trans w2,hQ⟩
   ·cases h'
  |exit i=>exact ends h'
  |ret=>exact ends h'
end
end

def uix (nv b:Nat):Nat:=if b<1500 then b else nv+(b-1500)
def bbS (nv:Nat) (us:List Value):Nat→Nat×Nat:=λ b=>match us[uix nv b]? with
 |some (.pointer (some ad))=>(ad.block,ad.off)
 |_=>(0,0)
def phS (nv:Nat) (us:List Value) (w:World):Nat→Value:=λ p=>if p<1000 then (us.take nv).getD p undef else (w.cell? ⟨(bbS nv us (p/1000-1)).1,(bbS nv us (p/1000-1)).2+p % 1000,none⟩).getD undef
def S0 (nv:Nat) (ps:List Par) (ls:List (List Lf)) (us:List Value) (O:Nat→Lab) (w:World):Sit:=⟨O,bbS nv us,get (Ip nv 0 ps ls),phS nv us w,w⟩
def Vsa {nv i:Nat} (hn:nv≤1000):uix nv (bid nv i)=i:=by
 unfold uix bid
 cases h:Nat.blt i nv with
 |true=>
  have h1:i<nv:=Vk h;rw[cond_true,if_pos (by omega)]
 |false=>
  have h1:¬ i<nv:=λ h2=>by rw[show Nat.blt i nv=true from Zm h2]at h;cases h
  rw[cond_false,if_neg (by omega)];omega
def Lxa {nv i:Nat} (h:i<nv):bid nv i=i:=by
 unfold bid;rw[show Nat.blt i nv=true from Zm h];rfl
def Tga {nv i n:Nat} (h:i<n) (hn:nv≤1000) (h2:n-nv<500):bid nv i<2000:=by
 unfold bid
 cases h3:Nat.blt i nv with
 |true=>
  have h1:i<nv:=Vk h3;rw[cond_true];omega
 |false=>rw[cond_false];omega
def Vta {b j:Nat} (h:j<999):C b j/1000-1=b∧C b j % 1000=j∧¬ C b j<1000:=by unfold C;omega
def Lya:∀ (b j:Nat) (l:List Lf) (A:Ab),∀ e∈ups A (Cw b j l),e∈A∨∃ n v x,l[n]? = some x∧e=(C b (j+n),v,.one x)
 |b,j,[],A,e,h => .inl h
 |b,j,x::l,A,e,h=>by
  rcases Lya b (j+1) l (up A ⟨C b j,false,.one x⟩) e h with h|⟨n,v,y,h1,h2⟩
  ·rcases Vl.1 h with h|h
   ·exact .inr ⟨0,_,x,rfl,by rw[Zy];exact h⟩
   ·exact .inl h
  ·exact .inr ⟨n+1,v,y,by simpa using h1,by rw[show j+(n+1)=j+1+n by omega];exact h2⟩
def Xpa (B n:Nat) (l:List Lf) (e:Nat×Nat×Sv):Prop:=e=(H B,0,.one (.hd n))∨∃ n v x,l[n]? = some x∧e=(C B n,v,.one x)
def Wz:∀ (b j:Nat) (l:List Lf),∀ e∈Bba b j l,∃ n v x,l[n]? = some x∧e=(C b (j+n),v,.one x)
 |b,j,[],e,h=>by simp[Bba]at h
 |b,j,x::l,e,h=>by
  rcases Vl.1 h with h|h
  ·exact⟨0,_,x,rfl,by rw[Zy];exact h⟩
  ·obtain⟨n,v,y,h1,h2⟩:=Wz b (j+1) l e h;exact⟨n+1,v,y,by simpa using h1,by rw[show j+(n+1)=j+1+n by omega];exact h2⟩
def Ypa (nv i:Nat):Par→List Lf→Nat×Nat×Sv→Prop
 |.vw _ h,l,e=>e=(i,0,.agg (vwL (bid nv h) 0 l))
 |.val ag t,l,e=>e=(i,0,(bif ag then .agg l else .one (Y0a l)))
 |.ptr t _,l,e=>e=(i,0,.one (.bp i 0 0))∨Xpa (bid nv i) t.sz l e
 |.hid t _,l,e=>Xpa (bid nv i) t.sz l e
 |.rd t,l,e=>∃ x,mkW t l=some x∧e=(i,0,.one (.fp t x 0))
 |.fn F m,_,e=>e=(i,0,.one (.fn F ((List.range m).map λ j=>(bid nv (nv+j),0))))
def Lza {B n:Nat} {l:List Lf} {R:Ab} {e:Nat×Nat×Sv} (he:e∈(H B,0,Sv.one (.hd n))::(Bba B 0 l++R)):Xpa B n l e∨e∈R:=by
 rcases Vl.1 he with he|he
 ·exact .inl (.inl he)
 ·rcases Vm.1 he with he|he
  ·obtain⟨n,v,x,g1,g2⟩:=Wz B 0 l e he;exact .inl (.inr ⟨n,v,x,g1,by rw[g2,Wi]⟩)
  ·exact .inr he
def Qsa {B n:Nat} {l:List Lf} {R:Ab} {e:Nat×Nat×Sv} (he:e∈(H B,0,Sv.one (.hd n))::(ups [] (Cw B 0 l)++R)):Xpa B n l e∨e∈R:=by
 rcases Vl.1 he with he|he
 ·exact .inl (.inl he)
 ·rcases Vm.1 he with he|he
  ·rcases Lya B 0 l [] e he with he|⟨n,v,x,g1,g2⟩
   ·cases he
   ·exact .inl (.inr ⟨n,v,x,g1,by rw[g2,Wi]⟩)
  ·exact .inr he
def C6a {P:Program} {S:Sit} {rg:Nat→Nat×Nat} {nv:Nat} {hs:List Value}:∀ (ps:List Par) (i:Nat) (ls:List (List Lf)) (us:List Value),Lx P S rg nv hs i ps ls us→∀ e∈Ip nv i ps ls,
  ∃ j p l u,us[j]? = some u∧ps[j]? = some p∧l∈ls∧Iza P S rg nv hs (i+j) p l u∧Ypa nv (i+j) p l e
 |[],i,[],[],_,e,he=>by simp[Ip]at he
 |[],i,[],_::_,h,_,_=>h.elim
 |[],i,_::_,_,h,_,_=>h.elim
 |_::_,i,[],_,h,_,_=>h.elim
 |_::_,i,_::_,[],h,_,_=>h.elim
 |p::ps,i,l::ls,u::us,h,e,he=>by
  obtain⟨h1,h2⟩:=h;have here:Ypa nv i p l e→∃ j p' l' u',(u::us)[j]? = some u'∧(p::ps)[j]? = some p'∧l'∈l::ls∧Iza P S rg nv hs (i+j) p' l' u'∧Ypa nv (i+j) p' l' e:=λ he=>⟨0,p,l,u,rfl,rfl,by simp,h1,he⟩
  have rest:e∈Ip nv (i+1) ps ls→∃ j p' l' u',(u::us)[j]? = some u'∧(p::ps)[j]? = some p'∧l'∈l::ls∧Iza P S rg nv hs (i+j) p' l' u'∧Ypa nv (i+j) p' l' e:=λ he=>by
   obtain⟨j,p',l',u',g1,g2,g3,g4,g5⟩:=C6a ps (i+1) ls us h2 e he;refine⟨j+1,p',l',u',by simpa using g1,by simpa using g2,Vd _ g3,?_⟩;rw[show i+(j+1)=i+1+j by omega];exact⟨g4,g5⟩
  cases p with
  |val ag t=>
   have he':e=(i,0,(bif ag then .agg l else .one (Y0a l)))∨e∈Ip nv (i+1) ps ls:=Vl.1 he;rcases he' with he|he
   ·exact here he
   ·exact rest he
  |ptr t t'=>
   have he':e∈(i,0,Sv.one (.bp i 0 0))::(H i,0,Sv.one (.hd t.sz))::(ups [] (Cw i 0 l)++Ip nv (i+1) ps ls):=he;rcases Vl.1 he' with he|he
   ·exact here (.inl he)
   ·rcases Qsa he with he|he
    ·exact here (.inr (by rw[Lxa h1.1];exact he))
    ·exact rest he
  |vw t h0=>
   have he':e∈(i,0,Sv.agg (vwL (bid nv h0) 0 l))::Ip nv (i+1) ps ls:=he;rcases Vl.1 he' with he|he
   ·exact here he
   ·exact rest he
  |hid t t'=>
   rcases Lza he with he|he
   ·exact here he
   ·exact rest he
  |rd t=>
   have he':e∈(match mkW t l with
    |some x=>(i,0,Sv.one (.fp t x 0))::Ip nv (i+1) ps ls
    |none=>Ip nv (i+1) ps ls):=he
   split at he'
   ·rename_i x hx;rcases Vl.1 he' with he|he
    ·exact here ⟨x,hx,he⟩
    ·exact rest he
   ·exact rest he'
  |fn F m=>
   have he':e∈(i,0,Sv.one (.fn F ((List.range m).map λ j=>(bid nv (nv+j),0))))::Ip nv (i+1) ps ls:=he;rcases Vl.1 he' with he|he
   ·exact here he
   ·exact rest he
def Gua {P:Program} {S:Sit} {rg:Nat→Nat×Nat} {nv:Nat} {hs:List Value}:∀ (ps:List Par) (i:Nat) (ls:List (List Lf)) (us:List Value),Lx P S rg nv hs i ps ls us→us.length=ps.length
 |[],i,[],[],_=>rfl
 |[],i,[],_::_,h=>h.elim
 |[],i,_::_,_,h=>h.elim
 |_::_,i,[],_,h=>h.elim
 |_::_,i,_::_,[],h=>h.elim
 |_::ps,i,_::ls,_::us,h=>by simp[Gua ps (i+1) ls us h.2]
def Lx.at {P:Program} {S:Sit} {rg:Nat→Nat×Nat} {nv:Nat} {hs:List Value}:∀ {ps:List Par} {i:Nat} {ls:List (List Lf)} {us:List Value} {j:Nat} {p:Par},Lx P S rg nv hs i ps ls us→ps[j]? = some p→∃ l u,us[j]? = some u∧Iza P S rg nv hs (i+j) p l u
 |[],i,_,_,j,p,_,hj=>by simp at hj
 |_::_,i,[],_,_,_,h,_=>h.elim
 |_::_,i,_::_,[],_,_,h,_=>h.elim
 |q::ps,i,l::ls,u::us,0,p,h,hj=>by
  simp only[Epb,Vc]at hj;subst hj;exact⟨l,u,rfl,h.1⟩
 |q::ps,i,l::ls,u::us,j+1,p,h,hj=>by
  obtain⟨l',u',h1,h2⟩:=Lx.at (j:=j) (p:=p) h.2 (by simpa using hj);exact⟨l',u',by simpa using h1,by rw[show i+(j+1)=i+1+j by omega];exact h2⟩
def M0a:Par→Bool
 |.hid _ _=>true
 |_=>false
def Tq {nv:Nat}:∀ {ps:List Par} {i j:Nat} {p:Par},Kl nv i ps=true→ps[j]? = some p→if M0a p then nv≤i+j else i+j<nv
 |[],_,_,_,_,h=>by simp at h
 |q::ps,i,0,p,h,hj=>by
  simp only[Epb,Vc]at hj;subst hj
  cases q<;>simp only[Kl,Va]at h<;>simp only[M0a,Wq,if_false,if_true]<;>exact Vk h.1
 |q::ps,i,j+1,p,h,hj=>by
  have h2:Kl nv (i+1) ps=true:=by cases q<;>simp only[Kl,Va]at h<;>exact h.2
  have:=Tq (i:=i+1) (j:=j) (p:=p) h2 (by simpa using hj);rw[show i+(j+1)=i+1+j by omega];exact this
def A9.get {P:Program} {S:Sit} {f:Nat→Lab} {l:List Lf} {us:List Value} {n:Nat} {x:Lf} (h:A9 P S f 0 l us) (hx:l[n]? = some x):∃ u,us[n]? = some u∧Bc P S (f n) x u:=by
 have hn:n<l.length:=(Ym.1 hx).1;obtain⟨x',u',e1,_,e3,e4⟩:=h.at n hn;rw[Vb,hx]at e1;simp only[Wo]at e1;subst e1;rw[Wi]at e4;exact⟨u',e3,e4⟩
def C7a {nv j:Nat} {us:List Value} {k o:Nat} (hn:nv≤1000) (h:us[j]? = some (.pointer (some ⟨k,o,none⟩))):bbS nv us (bid nv j)=(k,o):=by
 unfold bbS;rw[Vsa hn,h]
def Gva {P:Program} {O:Nat→Lab} {w:World} {rg:Nat→Nat×Nat} {nv:Nat} {hs:List Value} {ps:List Par} {ls:List (List Lf)} {us:List Value} (hn9:nv≤1000)
  (hmem:∀ e∈Ip nv 0 ps ls,∃ j p l u,us[j]? = some u∧ps[j]? = some p∧l∈ls∧Iza P (bare O w) rg nv hs (0+j) p l u∧Ypa nv (0+j) p l e)
  (hsol:∀ l∈ls,∀ y∈l,Hd y=true) (e:Nat×Nat×Sv) (he:e∈Ip nv 0 ps ls) (b n:Nat) (hb:e.1=H b) (hn:e.2.2 = .one (.hd n)):
  ∃ (j k o:Nat) (c:Array Value) (e0:TypeId) (vs:List Value),j<ps.length∧b=bid nv j∧bbS nv us b=(k,o)∧w.heap[k]? = some (.cells c e0 (0,0))∧O k = .bx b∧rg b=(o,n)∧o+n≤c.size∧n<999∧(∀ i,i<n→c[o+i]? = vs[i]?)∧n≤vs.length:=by
 obtain⟨j,p,l,u,g1,g2,g3,g4,g5⟩:=hmem e he;simp only[Wi]at g4 g5;have hj:j<ps.length:=(Ym.1 g2).1
 have box:∀ {t:Ty},Ws P (bare O w) rg (bid nv j) t l u→Xpa (bid nv j) t.sz l e→∃ (j k o:Nat) (c:Array Value) (e0:TypeId) (vs:List Value),j<ps.length∧b=bid nv j∧bbS nv us b=(k,o)∧w.heap[k]? = some (.cells c e0 (0,0))∧O k = .bx b∧rg b=(o,n)∧o+n≤c.size∧n<999∧(∀ i,i<n→c[o+i]? = vs[i]?)∧n≤vs.length:=by
  rintro t ⟨k,o,c,e0,vs,rfl,f2,f3,f4,f5,f6,f7,f8,f9⟩ g5;have hbb:=C7a hn9 g1;rcases g5 with rfl|⟨i,v,x,hx,rfl⟩
  ·have hjb:bid nv j=b:=Xx hb;subst hjb;simp only[Sv.one.injEq,Lf.hd.injEq]at hn;subst hn;have hvl:=f9.len;exact⟨j,k,o,c,e0,vs,hj,rfl,hbb,f2,f3,f4,f5,f6,f8,by omega⟩
  ·have:=hsol _ g3 x (E3b hx);simp only[Sv.one.injEq]at hn;rw[hn]at this;simp[Hd]at this
 cases p with
 |val ag t=>
  have g5:e=(j,0,(bif ag then .agg l else .one (Y0a l))):=g5;subst g5;cases ag
  case true=>cases hn
  simp only[cond_false,Sv.one.injEq]at hn
  cases l with
  |nil=>cases hn
  |cons x l=>
   cases l with
   |cons y l=>cases hn
   |nil=>
    have:=hsol _ g3 x (by simp);have hx:x = .hd n:=hn;rw[hx]at this;simp[Hd]at this
 |vw t h0=>
  have g5:e=_:=g5;subst g5;cases hn
 |ptr t t'=>
  rcases g5 with rfl|g5
  ·cases hn
  ·exact box g4.2 g5
 |hid t t'=>exact box g4.2 g5
 |rd t=>
  obtain⟨x,_,rfl⟩:=g5;cases hn
 |fn F m=>
  have g5:e=_:=g5;subst g5;cases hn
def M1a {nv:Nat} {S:Sit} (hs:List Value) (h:∀ j u,hs[j]? = some u→u=Value.pointer (some ⟨(S.bb (bid nv (nv+j))).1,(S.bb (bid nv (nv+j))).2+0,none⟩)):T7 S ((List.range hs.length).map λ j=>(bid nv (nv+j),0)) hs:=by
 have key:∀ (l:List Value) (a:Nat),(∀ j u,l[j]? = some u→u=Value.pointer (some ⟨(S.bb (bid nv (nv+(a+j)))).1,(S.bb (bid nv (nv+(a+j)))).2+0,none⟩))→T7 S ((List.range' a l.length).map λ j=>(bid nv (nv+j),0)) l:=by
  intro l
  induction l with
  |nil=>intro a _;exact rfl
  |cons u l ih=>
   intro a h;rw[Vh,List.range'_succ,Yb];refine⟨u,l,rfl,⟨Vv _,λ _=>?_⟩,ih (a+1) (λ j u hj=>?_)⟩
   ·have:=h 0 u rfl;rw[Zy]at this;exact this
   ·have:=h (j+1) u (by simpa using hj);rw[show a+(j+1)=a+1+j by omega]at this;exact this
 rw[List.range_eq_range'];exact key hs 0 (λ j u hj=>by rw[Wi];exact h j u hj)
def Qta {P:Program} {O:Nat→Lab} {w:World} {rg:Nat→Nat×Nat} {nt nv:Nat} {ps:List Par} {ls:List (List Lf)} {us:List Value} (hnt:nt≤1000) (hlt:∀ k,O k ≠ .no→k<w.heap.size) (hbx:∀ k b,O k = .bx b→∃ c e f,w.heap[k]? = some (.cells c e f))
  (hargs:Lx P (bare O w) rg nv (us.drop nv) 0 ps ls us) (hsol:∀ l∈ls,∀ y∈l,Hd y=true) (hps:nv≤nt) (hpk:Kl nv 0 ps=true) (hpl:ps.length-nv<500):
  B1 ⟨P,O,w,rg,nt,nv⟩ (S0 nv ps ls us O w) ⟨(us.take nv).toArray++Array.replicate (nt-(us.take nv).toArray.size) undef,[]⟩:=by
 have hul:=Gua ps 0 ls us hargs
 have hn9:nv≤1000:=by omega
 have hmem:=C6a ps 0 ls us hargs
 have hph:∀ t,t<1000→phS nv us w t=(us.take nv).getD t undef:=λ t ht=>by unfold phS;rw[if_pos ht]
 have hus:∀ {j:Nat} {u:Value},j<nv→us[j]? = some u→(us.take nv).getD j undef=u:=λ hj h=>by rw[Vb,Wp,if_pos hj,h];rfl
 refine⟨hnt,hlt,?_,?_,?_,λ t ht=>?_,?_,rfl,⟨rfl,rfl,rfl,Vw _,λ k _ h=>⟨h,rfl⟩,λ k _ h=>⟨h,rfl⟩,λ k b hk h=>?_⟩⟩
 ·refine Ra (Q:=λ l s=>Ib P (S0 nv ps ls us O w) l s.2 (phS nv us w l)) (λ l=>trivial) _ (λ e he=>?_);obtain⟨j,p,l,u,g1,g2,g3,g4,g5⟩:=hmem e he;simp only[Wi]at g4 g5;have hvis:=Tq hpk g2;rw[Wi]at hvis
  have vis:M0a p=false→j<nv∧phS nv us w j=u:=λ h=>by
   rw[h]at hvis;have hj:j<nv:=hvis;exact⟨hj,by rw[hph j (by omega)];exact hus hj g1⟩
  have box:∀ {t:Ty},Ws P (bare O w) rg (bid nv j) t l u→Xpa (bid nv j) t.sz l e→Ib P (S0 nv ps ls us O w) e.1 e.2.2 (phS nv us w e.1):=by
   rintro t ⟨k,o,c,e0,vs,rfl,f2,f3,f4,f5,f6,f7,f8,f9⟩ g5;have hbb:=C7a hn9 g1;rcases g5 with rfl|⟨n,v,x,hx,rfl⟩
   ·trivial
   ·have hn:n<t.sz:=by have:=(Ym.1 hx).1;omega
    obtain⟨d1,d2,d3⟩:=Vta (b:=bid nv j) (j:=n) (by omega);obtain⟨v',h1,h2⟩:=f9.get hx
    have hpc:phS nv us w (C (bid nv j) n)=v':=by
     unfold phS;rw[if_neg d3,d1,d2,hbb];have f2':w.heap[k]? = some (.cells c e0):=f2;simp[World.cell?,f2',f8 n hn,h1]
    show Bc P (S0 nv ps ls us O w) _ x (phS nv us w (C (bid nv j) n));rw[hpc];exact Bc.bare (S1:=bare O w) (S2:=S0 nv ps ls us O w) (lab := .pl (C (bid nv j) n) []) (lab' := .pl (C (bid nv j) n) []) (hsol l g3 x (E3b hx)) rfl (λ k hk=>hk) (λ k hk=>hk) h2
  cases p with
  |val ag t=>
   obtain⟨hj,hpj⟩:=vis rfl;have g5:e=(j,0,(bif ag then .agg l else .one (Y0a l))):=g5;subst g5;obtain⟨vs,e1,e2⟩:=g4;show Ib P (S0 nv ps ls us O w) j _ (phS nv us w j);rw[hpj];have e3:=A9.impM (S1:=bare O w) (S2:=S0 nv ps ls us O w) (f':=λ n => .pl j (if ag then [n] else [])) (λ x hx n u hu=>Bc.bare (S1:=bare O w) (S2:=S0 nv ps ls us O w) (hsol l g3 x hx) rfl (λ k hk=>hk) (λ k hk=>hk) hu) e2;cases ag
   case true=>exact⟨vs,e1,e3⟩
   simp only[Wq,if_false]at e1;subst e1
   cases l with
   |nil=>exact e3.elim
   |cons x l=>
    cases l with
    |nil=>exact e3.1
    |cons y l=>exact e3.2.elim
  |vw t h0=>
   obtain⟨hj,hpj⟩:=vis rfl;have g5:e=_:=g5;subst g5;obtain⟨q1,vs,k,o,c,e0,rfl,q2,q3,q4,q5,q6⟩:=g4;show Ib P (S0 nv ps ls us O w) j (.agg _) (phS nv us w j);rw[hpj]
   have hbb:bbS nv us (bid nv h0)=(k,o):=by
    refine C7a hn9 ?_;rw[Yv]at q2;rw[← q2,show nv+(h0-nv)=h0 by omega]
   have hsl:=hsol l g3
   have key:∀ (l:List Lf) (i:Nat) (vs:List Value),i+l.length<999→(∀ y∈l,Hd y=true)→Yz (Iya P (bare O w) (λ j=>c.getD (o+j) undef)) i l vs→A9 P (S0 nv ps ls us O w) (λ n => .pl j [n]) i (vwL (bid nv h0) i l) vs:=by
    intro l
    induction l with
    |nil=>intro i vs _ _ h;cases vs<;>first|trivial|exact h.elim
    |cons x l ih=>
     intro i vs hi hs h;simp only[Vh]at hi
     cases vs with
     |nil=>exact h.elim
     |cons u vs=>
      have hr:=ih (i+1) vs (by omega) (λ y hy=>hs y (Vd _ hy)) h.2;have h1:=h.1;have h2:=hs x (by simp)
      have sh:Pqa x=true→Bc P (bare O w) .fz x u→Bc P (S0 nv ps ls us O w) (.pl j [i]) x u:=λ hx hu=>by
       have:Bc P (S0 nv ps ls us O w) .fz x u:=Bc.bare (S1:=bare O w) (S2:=S0 nv ps ls us O w) h2 rfl (λ k hk=>hk) (λ k hk=>hk) hu
       cases x<;>first|exact Bc.relab (lab' := .pl j [i]) rfl this|simp[Pqa]at hx
      cases x with
      |own e r xs=>
       refine⟨⟨Vv _,λ _=>?_⟩,hr⟩;have h3:u=c.getD (o+i) undef:=h1;obtain⟨d1,d2,d3⟩:=Vta (b:=bid nv h0) (j:=i) (by omega);show u=phS nv us w (C (bid nv h0) i);unfold phS;rw[if_neg d3,d1,d2,hbb,h3];have q3':w.heap[k]? = some (.cells c e0):=q3;simp[World.cell?,q3',Yk]
      |sc v=>exact⟨sh h1.1 h1.2,hr⟩
      |fz e r xs=>exact⟨sh h1.1 h1.2,hr⟩
      |_=>simp[Hd]at h2
   exact⟨vs,rfl,key l 0 vs (by omega) hsl q6⟩
  |ptr t t'=>
   rcases g5 with rfl|g5
   ·obtain⟨hj,hpj⟩:=vis rfl;obtain⟨_,k,o,c,e0,vs,rfl,_⟩:=g4;have hbb:=C7a hn9 g1;rw[Lxa hj]at hbb;show Bc P (S0 nv ps ls us O w) (.pl j []) (.bp j 0 0) (phS nv us w j);refine⟨Vv _,λ _=>?_⟩;rw[hpj];show _=Value.pointer (some ⟨(bbS nv us j).1,(bbS nv us j).2+0,none⟩);rw[hbb];rfl
   ·exact box g4.2 g5
  |hid t t'=>exact box g4.2 g5
  |rd t=>
   obtain⟨hj,hpj⟩:=vis rfl;obtain⟨x,hx,rfl⟩:=g5;obtain⟨x',k,o,cs,h1,h2,h3,h4,h5⟩:=g4;rw[hx]at h1;cases h1;show Bc P (S0 nv ps ls us O w) (.pl j []) (.fp t x 0) (phS nv us w j);rw[hpj];exact⟨k,o,cs,h2,h3,Ty.rep_mono (λ k hk=>hk) (λ _ _=>rfl) t x cs h4,h5⟩
  |fn F m=>
   obtain⟨hj,hpj⟩:=vis rfl;have g5:e=_:=g5;subst g5;obtain⟨h1,h2⟩:=g4;show Bc P (S0 nv ps ls us O w) (.pl j []) (.fn F _) (phS nv us w j);rw[hpj];refine⟨us.drop nv,h1,?_⟩;rw[← h2];refine M1a _ (λ i v hi=>?_);rw[Yv]at hi
   have hlt2:nv+i<ps.length:=by rw[← hul];exact(Ym.1 hi).1
   have hp:ps[nv+i]? = some ps[nv+i]:=Ve hlt2;have hh:=Tq hpk hp
   have hhid:M0a ps[nv+i]=true:=by
    cases hc:M0a ps[nv+i] with
    |true=>rfl
    |false=>rw[hc]at hh;simp only[Wq,if_false]at hh;omega
   obtain⟨l',u',k1,k2⟩:=hargs.at hp;rw[hi]at k1;cases k1;rw[Wi]at k2
   cases hpp:ps[nv+i] with
   |hid t t'=>
    rw[hpp]at k2;obtain⟨_,k,o,c,e0,vs,rfl,_⟩:=k2;show _=Value.pointer (some ⟨(bbS nv us (bid nv (nv+i))).1,(bbS nv us (bid nv (nv+i))).2+0,none⟩);rw[C7a hn9 hi];rfl
   |_=>rw[hpp]at hhid;cases hhid
 ·have key:=Ra (Q:=λ l s=>∀ b n,l=H b→s.2 = .one (.hd n)→n<999∧∃ c e,w.heap[(bbS nv us b).1]? = some (.cells c e (0,0))∧O (bbS nv us b).1 = .bx b∧(bbS nv us b).2+n≤c.size∧∀ j,j<n→c[(bbS nv us b).2+j]? = some (phS nv us w (C b j)))
   (λ l b n _ h=>by cases h) (Ip nv 0 ps ls) (λ e he b n hb hn=>by
    obtain⟨_,k,o,c,e0,vs,_,_,k1,f2,f3,f4,f5,f6,f8,hvl⟩:=Gva hn9 hmem hsol e he b n hb hn;refine⟨f6,c,e0,by rw[k1];exact f2,by rw[k1];exact f3,by rw[k1];exact f5,λ i hi=>?_⟩;obtain⟨d1,d2,d3⟩:=Vta (b:=b) (j:=i) (by omega)
    have:phS nv us w (C b i)=vs.getD i undef:=by
     unfold phS;rw[if_neg d3,d1,d2,k1];simp[World.cell?,f2,f8 i hi]
    rw[this,k1,f8 i hi,Vb,Ve (by omega)]
    rfl)
  exact λ b n h=>key (H b) b n rfl h
 ·have key:=Ra (Q:=λ l s=>∀ b n,l=H b→s.2 = .one (.hd n)→b<2000∧O (bbS nv us b).1 = .bx b∧(rg b).1≤(bbS nv us b).2∧(bbS nv us b).2+n≤(rg b).1+(rg b).2∧(bbS nv us b).1<w.heap.size)
   (λ l b n _ h=>by cases h) (Ip nv 0 ps ls) (λ e he b n hb hn=>by
    obtain⟨j,k,o,c,e0,vs,hj,hbj,k1,f2,f3,f4,f5,f6,f8,hvl⟩:=Gva hn9 hmem hsol e he b n hb hn;rw[k1,f4]
    exact⟨by rw[hbj];exact Tga hj hn9 hpl,f3,Vw _,Vw _,(Zv.1 f2).1⟩)
  intro b n h;obtain⟨h1,h2,h3,h4,h5⟩:=key (H b) b n rfl h;exact⟨λ _ _=>⟨h2,h3,h4⟩,λ _=>h5,λ h6=>by omega⟩
 ·show ((us.take nv).toArray++Array.replicate (nt-(us.take nv).toArray.size) undef).getD t undef=phS nv us w t;have ht':t<nt:=ht;rw[hph t (by omega)];generalize us.take nv=vs
  by_cases h:t<vs.length
  ·simp[Yk,Ewb,h,Vb]
  ·have h2:vs.getD t undef=undef:=by rw[Vb,Yu (by omega)];rfl
   rw[h2];simp[Yk,Ewb,h,Array.getElem?_replicate]
   split<;>rfl
 ·have:(us.take nv).length≤nt:=by rw[Vs];omega
  simp;omega
 ·obtain⟨c,e,f,h1⟩:=hbx k b h;exact⟨h,c,c,e,f,h1,h1,rfl,λ _ _=>rfl⟩

section
attribute [local irreducible] C H
section
variable {X:Cx} {S S1 S2:Sit} {a:Act} {E:En} {A:Ab}
def M2a {l0:List Lf} (K:B1 X S a) (hg:S.g=get A) (K1:B1 X S1 a) (E1:V5 X S S1) (P1:∀ p v,Lf.al p v∈l0→∀ n e r,∀ xs:List (Ty.den r),get A p=(n,.one (.own e r xs))→n=v→S1.g p=(n,.one (.fz e r xs)))
  (f:Nat→Lab) (hf:∀ n k,S.O k=f n→S1.O k=f n):∀ (l:List Lf),(∀ x∈l,x∈l0)→∀ j us,A9 X.P S f j l us→A9 X.P S1 f j (l.map (kept A)) us
 |[],_,_,[],_=>trivial
 |[],_,_,_::_,h=>h.elim
 |_::_,_,_,[],h=>h.elim
 |x::l,hm,j,u::us,h=>by
  refine⟨?_,M2a K hg K1 E1 P1 f hf l (λ z hz=>hm z (Vd _ hz)) (j+1) us h.2⟩;have h1:Bc X.P S (f j) x u:=h.1
  cases x with
  |al p v=>
   show Bc X.P S1 (f j) (Le (Jb A (.al p v))) u;simp only[Jb];split
   ·rename_i n e r' xs hp;cases hb:Nat.beq n v
    ·exact trivial
    have hnv:n=v:=by simpa using hb
    subst hnv;rw[cond_true];show Bc X.P S1 (f j) (.fz e r' xs) u;have h2:=P1 p n (hm _ (by simp)) n e r' xs hp rfl;have h3:=K1.at_ p;rw[h2,E1.ph,← h1.2 (by rw[hg,hp])]at h3;exact Bc.relab (lab := .pl p []) rfl h3
   ·rename_i n e r' xs hp;cases hb:Nat.beq n v
    ·exact trivial
    have hnv:n=v:=by simpa using hb
    subst hnv;rw[cond_true];show Bc X.P S1 (f j) (.fz e r' xs) u;have h3:=K.at_ p;rw[hg,hp,← h1.2 (by rw[hg,hp])]at h3;have h4:Bc X.P S (.pl p []) (.fz e r' xs) u:=h3;exact(Bc.relab (lab':=f j) rfl h4).later E1.later (λ k hk=>⟨hf j k hk,by rw[E1.w]⟩)
   ·exact trivial
  |_=>exact h1.later E1.later (λ k hk=>⟨hf j k hk,by rw[E1.w]⟩)
def Rb:∀ l:List Lf,F8 l=false→F8 (l.map (kept A))=false
 |[],_=>rfl
 |x::l,h=>by
  have hc:∀ z:Lf,F8 (Le z::l.map (kept A))=F8 (l.map (kept A)):=by intro z;cases z<;>rfl
  cases x with
  |own e r xs=>simp[F8]at h
  |opn e r xs i b v=>simp[F8]at h
  |al p v=>rw[Yb];exact(hc _).trans (Rb l (by simpa[F8] using h))
  |_=>exact Rb l (by simpa[F8] using h)
def Nn {P:Program} {S:Sit} {f:Nat→Lab}:∀ {l:List Lf} {j:Nat} {us:List Value},A4 l=true→F8 l=false→A9 P S f j l us→Js (Iu P (λ k=>S.O k = .fz) S.w) l us
 |[],_,[],_,_,_ => .nil
 |[],_,_::_,_,_,h=>h.elim
 |_::_,_,[],_,_,h=>h.elim
 |x::l,j,u::us,hs,ho,h=>by
  cases x with
  |sc v=>exact .cons h.1 (Nn (by simpa[A4] using hs) (by simpa[F8] using ho) h.2)
  |fz e r xs=>exact .cons h.1 (Nn (by simpa[A4] using hs) (by simpa[F8] using ho) h.2)
  |own e r xs=>simp[F8]at ho
  |_=>simp[A4]at hs
def Vua (hE:Iv X E) (K:B1 X S a) (hg:S.g=get A) {x:Nat} (hx:Nat.blt x E.nt=true) {k:RK} {t:Ty} {l:List Lf} {us:List Up} (i:Nat) (hk:k ≠ .ptr) (h:E3a E.np A k t (.tmp x) (get A x).2=some (l,us)) {y:t.den} (hy:mkW t l=some y):
  ∃ S',B1 X S' a∧S'.g=get (ups A us)∧Fz X S S' (λ n _=>n=i)∧
   ∃ vs,(if Rq k then a.eval (.tmp x) = .agg vs.toArray else vs=[a.eval (.tmp x)])∧A9 X.P S' (λ n => .tm i (if Rq k then [n] else [])) 0 (A6 t y) vs:=by
 have hop:opT E 0 A (.tmp x)=some (get A x).2:=by show (bif Nat.blt x E.nt then some (get A x).2 else none)=_;rw[hx];rfl
 have h':(bif J8 (Rq k) (get A x).2 then Qs A (.tmp x) (get A x).2 t else none)=some (l,us):=by
  unfold E3a at h
  cases k<;>first|exact h|exact absurd rfl hk
 cases hq:J8 (Rq k) (get A x).2
 ·rw[hq]at h';simp at h'
 rw[hq,cond_true]at h';obtain⟨S1,K1,g1,G,h2,_,vs,hsh,hl⟩:=Gca hE K hg (.inl hop) (Lla hq) h' i;have hp:=Lqa hq;simp only[hp]at hl;exact⟨S1,K1,g1,G,vs,Wu hq hsh,Oe (Wy h') hy hl⟩
def B1.unbox (K:B1 X S a) (hb0:∀ k b,X.O0 k = .bx b→b<X.np∨1500≤b) {b n:Nat} (hh:(S.g (H b)).2 = .one (.hd n)) (hnp:X.np≤b) (hb1:b<1000) (j:Nat):
  B1 X { S with O:=λ k=>if k=(S.bb b).1 then .tm j [] else S.O k,g:=upd S.g (H b) ((S.g (H b)).1+1,.one .dead) } a∧
  F6 S { S with O:=λ k=>if k=(S.bb b).1 then .tm j [] else S.O k,g:=upd S.g (H b) ((S.g (H b)).1+1,.one .dead) }:=by
 obtain⟨hn,c,e,e1,e2,e3,e4⟩:=K.box b n hh
 have hnew:X.w0.heap.size≤(S.bb b).1:=by
  rcases D2b (S.bb b).1 X.w0.heap.size with h|h
  ·have:=hb0 _ _ ((K.rgn b n hh).1 (by omega) h).1;omega
  ·exact h
 have keep:∀ k o,S.O k=o→o ≠ .bx b→(if k=(S.bb b).1 then Lab.tm j [] else S.O k)=o:=λ k o' h ho=>by
  rw[if_neg (λ e=>ho (by rw[← h,e,e2]))];exact h
 have hbk:∀ b' n',b'≠b→(S.g (H b')).2 = .one (.hd n')→(S.bb b').1≠(S.bb b).1:=λ b' n' hne hb' e5=>by
  obtain⟨_,_,_,_,g4,_⟩:=K.box b' n' hb';rw[e5,e2]at g4;simp only[Lab.bx.injEq]at g4;exact hne g4.symm
 have gne:∀ p,p≠H b→({ S with O:=λ k=>if k=(S.bb b).1 then .tm j [] else S.O k,g:=upd S.g (H b) ((S.g (H b)).1+1,.one .dead) }:Sit).g p=S.g p:=λ p h=>Av _ _ h;have gsm:({ S with O:=λ k=>if k=(S.bb b).1 then .tm j [] else S.O k,g:=upd S.g (H b) ((S.g (H b)).1+1,.one .dead) }:Sit).g (H b)=((S.g (H b)).1+1,.one .dead):=Ap _ _ _
 have L:F6 S { S with O:=λ k=>if k=(S.bb b).1 then .tm j [] else S.O k,g:=upd S.g (H b) ((S.g (H b)).1+1,.one .dead) }:=by
  refine⟨λ p=>?_,λ _ _=>rfl,λ p v e r xs' hp hv=>?_,λ _ _=>rfl,λ k hk=>⟨keep k _ hk (by simp),rfl⟩,λ b' n' hv hb' hO=>?_,λ p hv hd=>?_⟩
  ·by_cases h:p=H b
   ·subst h;rw[gsm];exact Cpb _
   ·rw[gne p h];exact Vw _
  ·by_cases h:p=H b
   ·subst h;rw[gsm]at hp;cases hp
   ·rw[gne p h]at hp;exact⟨xs',hp,rfl⟩
  ·have hne:b'≠b:=λ e=>by subst e;rw[gsm]at hv;simp at hv
   refine⟨by rw[gne _ (λ e=>hne (Xx e))];exact hb',?_,λ c e f h=>⟨c,h,rfl,λ _ _=>rfl⟩⟩;show (if (S.bb b').1=(S.bb b).1 then Lab.tm j [] else S.O (S.bb b').1)=_;rw[if_neg (hbk b' n' hne hb')];exact hO
  ·have h:p≠H b:=λ e=>by subst e;rw[hh]at hd;simp[E5a,Q0a]at hd
   rw[gne p h];exact⟨hd,λ _ _ _ h=>h,λ k hk=>⟨.inl (keep k _ hk (by simp)),rfl⟩⟩
 have F:=K.fr
 have hd:∀ b' n',(({ S with O:=λ k=>if k=(S.bb b).1 then .tm j [] else S.O k,g:=upd S.g (H b) ((S.g (H b)).1+1,.one .dead) }:Sit).g (H b')).2 = .one (.hd n')→b'≠b∧(S.g (H b')).2 = .one (.hd n'):=λ b' n' hb'=>by
  have hne:b'≠b:=λ e=>by subst e;rw[gsm]at hb';cases hb'
  exact⟨hne,by rw[gne _ (λ e=>hne (Xx e))]at hb';exact hb'⟩
 refine⟨⟨K.nt,λ k hk=>?_,λ l=>?_,λ b' n' hb'=>?_,λ b' n' hb'=>K.rgn b' n' (hd b' n' hb').2,K.sl,K.sz,K.df,⟨F.os,F.tape,F.out,F.size,λ k hk h0=>?_,λ k hk h0=>?_,λ k b' hk h0=>?_⟩⟩,L⟩
 ·by_cases h:k=(S.bb b).1
  ·exact K.lt k (by rw[h,e2];simp)
  ·have hk':(if k=(S.bb b).1 then Lab.tm j [] else S.O k) ≠ .no:=hk;rw[if_neg h]at hk';exact K.lt k hk'
 ·by_cases h:l=H b
  ·subst h;rw[gsm];trivial
  ·rw[gne l h];exact(K.at_ l).later L (λ p k hk=>⟨keep k _ hk (by simp),rfl⟩)
 ·obtain⟨hne,hb2⟩:=hd b' n' hb';obtain⟨g1,c1,g2,g3,g4,g5,g6⟩:=K.box b' n' hb2;exact⟨g1,c1,g2,g3,keep _ _ g4 (by simp[hne]),g5,g6⟩
 ·obtain⟨f1,f2⟩:=F.no k hk h0;exact⟨keep k _ f1 (by simp),f2⟩
 ·obtain⟨f1,f2⟩:=F.fz k hk h0;exact⟨keep k _ f1 (by simp),f2⟩
 ·obtain⟨f1,rest⟩:=F.bx k b' hk h0;refine⟨?_,rest⟩;show (if k=(S.bb b).1 then Lab.tm j [] else S.O k)=_;rw[if_neg (by omega)];exact f1
def Vva (hE:Iv X E) (K:B1 X S a) (hg:S.g=get A) (hb0:∀ k b,X.O0 k = .bx b→b<X.np∨1500≤b) {x:Nat} (hx:Nat.blt x E.nt=true) {t:Ty} {l:List Lf} {us:List Up} (i:Nat) (h:E3a E.np A .ptr t (.tmp x) (get A x).2=some (l,us)) {y:t.den} (hy:mkW t l=some y):
  ∃ S',B1 X S' a∧S'.g=get (ups A us)∧S'.w=S.w∧F6 S S'∧(∀ n q z v,Bc X.P S (.tm n q) z v→Bc X.P S' (.tm n q) z v)∧(∀ n q k,S.O k = .tm n q→S'.O k = .tm n q)∧Nm X.P S' X.w0.heap.size i .ptr (A6 t y) (a.eval (.tmp x)):=by
 have hop:opT E 0 A (.tmp x)=some (get A x).2:=by show (bif Nat.blt x E.nt then some (get A x).2 else none)=_;rw[hx];rfl
 unfold E3a at h;simp only at h;split at h
 ·rename_i b v hs;rw[hs]at hop;split at h
  ·rename_i n m hp;cases hq:(Nat.beq n v&&(Nat.ble E.np b&&Nat.blt b 1000)&&J6 t&&Nat.beq m t.sz&&Nat.blt m 999&&A4 ((cellsOf A b 0 m).map (kept A)))
   ·rw[hq]at h;simp at h
   rw[hq]at h;simp only[cond_true,Vc,Vy]at h;obtain⟨rfl,rfl⟩:=h;simp only[Va]at hq;obtain⟨⟨⟨⟨⟨q1,q2,q7⟩,q3⟩,q4⟩,q5⟩,q6⟩:=hq
   have hnv:n=v:=by simpa using q1
   have hm:m=t.sz:=Vg q4;have hlt:m<999:=Vk q5;have hnp:X.np≤b:=hE.np ▸ (Vk q2);have hb1:b<1000:=Vk q7;subst hnv;obtain⟨pl,hl⟩:=H6 hE K hg hop;have hlf:Bc X.P S (.pl pl []) (.bp b n 0) (a.eval (.tmp x)):=hl;have hu:=hlf.2 (by rw[hg,hp]);obtain⟨S1,K1,g1,E1,F1,P1⟩:=Y4 (X:=X) (a:=a) (A:=A) (cellsOf A b 0 m) K hg (λ p => .inl rfl);obtain⟨c1,c2,c3⟩:=O9 K hg b m 0;have hkept:=M2a K hg K1 E1 P1 (λ _ => .fz) (λ n k hk=>(E1.later.fz k hk).1) (cellsOf A b 0 m) (λ _ h=>h) 0 _ (c3 (λ _ => .fz) 0);have hrep:=Nn q6 (Rb _ c2) hkept
   have hh:(S.g (H b)).2 = .one (.hd m):=by rw[hg,hp]
   have hh1:(S1.g (H b)).2 = .one (.hd m):=by
    rcases F1 (H b) with h1|⟨n',e,r',xs,h1,h2⟩
    ·rw[h1,hp]
    ·rw[hp]at h1;cases h1
   obtain⟨_,c,e,e1,e2,e3,e4⟩:=K1.box b m hh1
   have hnew:X.w0.heap.size≤(S1.bb b).1:=by
    rcases D2b (S1.bb b).1 X.w0.heap.size with h|h
    ·have:=hb0 _ _ ((K1.rgn b m hh1).1 (by omega) h).1;omega
    ·exact h
   obtain⟨K2,L2⟩:=K1.unbox hb0 hh1 hnp hb1 (i+500)
   have hll:(A6 t y).length=m:=by rw[Gq,hm]
   have htm:∀ n q k,S1.O k = .tm n q→(if k=(S1.bb b).1 then Lab.tm (i+500) [] else S1.O k) = .tm n q:=λ n q k hk=>by
    rw[if_neg (λ e=>by rw[e,e2]at hk;cases hk)];exact hk
   refine⟨_,K2,?_,E1.w,E1.later.trans L2,λ n q z v hz=>(hz.later E1.later (λ k hk=>⟨E1.tm n q k hk,by rw[E1.w]⟩)).later L2 (λ k hk=>⟨htm n q k hk,rfl⟩),λ n q k hk=>htm n q k (E1.tm n q k hk),(S1.bb b).1,(S1.bb b).2,c,e,(List.range m).map (λ j=>S.ph (C b (0+j))),?_,e1,hnew,if_pos rfl,by rw[hll];exact e3,by rw[hll];exact hlt,λ j hj=>?_,?_⟩
   ·show upd S1.g (H b) _=_;rw[Ax];show _=get (up (ups A (Iq A (cellsOf A b 0 m))) ⟨H b,false,.one .dead⟩);rw[L6,← g1];rfl
   ·rw[E1.bb];exact hu
   ·rw[hll]at hj;rw[e4 j hj,E1.ph];simp[hj]
   ·exact Wv (G:=λ k=>S1.O k = .fz) (λ k hk=>(L2.fz k hk).1) hy q3 hrep _ _
  ·cases h
 ·cases h
end
end

section
attribute [local irreducible] C H
def Ema {P:Program} {w:World} {T:TypeId} {t:TI} {k o':Nat} {cs:List Value} (ht:TOk P T t) (ha:t.ag=true) (hc:Ec w k o' cs) (hl:cs.length=t.ty.sz):
  (loadVar T ⟨k,o',none⟩).run P w = .ok (.agg cs.toArray) w:=by
 obtain⟨d,hd,hagg⟩:=Eba ht;rw[ha]at hagg
 have hc':∀ j v,cs[j]? = some v→w.cell? (Addr.add ⟨k,o',none⟩ j)=some v:=λ j v hj=>by rw[Ka];exact hc j v hj
 have hlc:=run_loadCells_list (P:=P) w ⟨k,o',none⟩ cs hc';simp only[Wd,Yc,Wb,loadVar,Ml hd hagg,if_true,Iw (O8 ht),← hl,hlc]
def No (a:Act):ResultVar→Sem Value
 |.tmp t=>pure (a.tmps.getD t undef)
 |.cell x t=>do loadVar t (← asAddr (a.tmps.getD x undef))
section
variable {X:Cx} {S S1 S2:Sit} {a:Act} {E:En} {A:Ab}
def Qua (hE:Iv X E) (K:B1 X S a) (hg:S.g=get A) {x:Nat} (hx:Nat.blt x E.nt=true) {T:TypeId} {ti:TI} (hT:E.ti T=some ti) (hag:ti.ag=true) {t:Ty} (hsz:ti.ty.sz=t.sz) {l:List Lf} {us:List Up} (i:Nat)
  (h:E4a A t (get A x).2=some (l,us)) {y:t.den} (hy:mkW t l=some y):
  ∃ S',B1 X S' a∧S'.g=get (ups A us)∧Fz X S S' (λ n _=>n=i)∧
   ∃ vs,(No a (.cell x T)).run X.P S.w = .ok (.agg vs.toArray) S.w∧A9 X.P S' (λ n => .tm i [n]) 0 (A6 t y) vs:=by
 have hop:opT E 0 A (.tmp x)=some (get A x).2:=by show (bif Nat.blt x E.nt then some (get A x).2 else none)=_;rw[hx];rfl
 unfold E4a at h;split at h
 ·rename_i b v hs;rw[hs]at hop;obtain⟨pl,hl⟩:=H6 hE K hg hop;have hlf:Bc X.P S (.pl pl []) (.bp b v 0) (a.eval (.tmp x)):=hl;obtain⟨g1,g2,_,_,g5,S1,K1,g6,G,hls⟩:=Sk K hg h i;have hu:=hlf.2 g1;obtain⟨hm9,c,e,e1,e2,e3,e4⟩:=K.box b _ g2
  have hcells:Ec S.w (S.bb b).1 (S.bb b).2 ((List.range t.sz).map λ i=>S.ph (C b (0+i))):=by
   intro j u hj
   have hj':j<t.sz:=by
    have:=(Ym.1 hj).1
    simpa using this
   have:u=S.ph (C b j):=by simpa[hj'] using hj.symm
   rw[this];simp[World.cell?,e1,e4 j hj']
  have hrun:(No a (.cell x T)).run X.P S.w = .ok (.agg ((List.range t.sz).map λ i=>S.ph (C b (0+i))).toArray) S.w:=by
   have hu':a.tmps.getD x undef = .pointer (some ⟨(S.bb b).1,(S.bb b).2+0,none⟩):=hu;unfold No;simp only[hu',asAddr,Wd,Yc,Wb,Zy];exact Ema (hE.ti T ti hT) hag hcells (by rw[hsz];simp)
  exact⟨S1,K1,g6,G,_,hrun,Oe (R8 h) hy hls⟩
 ·cases h
def Kp (i n:Nat):Prop:=n<i∨500≤n
def Nm.keep {P:Program} {n0 i:Nat} {k:RK} {l:List Lf} {u:Value} (hw:S2.w=S1.w) (hi:∀ q z v,Bc P S1 (.tm i q) z v→Bc P S2 (.tm i q) z v) (ho:∀ q k,S1.O k = .tm (i+500) q→S2.O k = .tm (i+500) q) (h:Nm P S1 n0 i k l u):Nm P S2 n0 i k l u:=by
 cases k with
 |one=>exact A9.impM (λ x hx n u h=>hi _ _ u h) h
 |agg=>
  obtain⟨us,e,h⟩:=h;exact⟨us,e,h.impM (λ x hx n u h=>hi _ _ u h)⟩
 |ptr=>
  obtain⟨k,o,c,e,us,h1,h2,h3,h4,h5,h6,h7,h8⟩:=h;exact⟨k,o,c,e,us,h1,by rw[hw];exact h2,h3,ho _ _ h4,h5,h6,h7,h8.impM (λ x hx n u h=>hi _ _ u h)⟩
def M3a (hE:Iv X E) (hb0:∀ k b,X.O0 k = .bx b→b<X.np∨1500≤b):∀ (rs:List (RK×Ty)) (rv:List ResultVar) {S:Sit} {A:Ab} {ls ls':List (List Lf)} {us:List Up} (i:Nat),B1 X S a→S.g=get A→i+rs.length<500→T4 E A rs rv=some (ls,us)→Mk (rs.map Prod.snd) ls ls'→
  ∃ S' vs,B1 X S' a∧S'.g=get (ups A us)∧S'.w=S.w∧F6 S S'∧(∀ n q z v,Kp i n→Bc X.P S (.tm n q) z v→Bc X.P S' (.tm n q) z v)∧(∀ n q k,Kp i n→S.O k = .tm n q→S'.O k = .tm n q)∧J9 X.P S' X.w0.heap.size i rs ls' vs∧Js (λ r v=>(No a r).run X.P S.w = .ok v S.w) rv vs
 |[],[],S,A,ls,ls',us,i,K,hg,_,h,hm=>by
  simp only[T4,Vc,Vy]at h;obtain⟨rfl,rfl⟩:=h;refine⟨S,[],K,hg,rfl,.refl S,λ _ _ _ _ _ h=>h,λ _ _ _ _ h=>h,?_,.nil⟩
  cases ls' with
  |nil=>rfl
  |cons=>exact hm.elim
 |[],_::_,S,A,ls,ls',us,i,K,hg,_,h,hm=>by simp[T4]at h
 |(k,t)::ks,[],S,A,ls,ls',us,i,K,hg,_,h,hm=>by cases k<;>simp[T4]at h
 |(k,t)::ks,r::rs,S,A,ls,ls',us,i,K,hg,hi,h,hm=>by
  simp only[Vh]at hi
  have rest:∀ {l:List Lf} {u:List Up} {ls2:List (List Lf)} {us2:List Up} {S1:Sit} {y:t.den} {v:Value},mkW t l=some y→B1 X S1 a→S1.g=get (ups A u)→S1.w=S.w→F6 S S1→(∀ n q z v,n≠i→Bc X.P S (.tm n q) z v→Bc X.P S1 (.tm n q) z v)→(∀ n q k,n≠i→S.O k = .tm n q→S1.O k = .tm n q)→
    Nm X.P S1 X.w0.heap.size i k (A6 t y) v→(No a r).run X.P S.w = .ok v S.w→T4 E (ups A u) ks rs=some (ls2,us2)→(∃ ls2',ls'=A6 t y::ls2'∧Mk (ks.map Prod.snd) ls2 ls2')→us=u++us2→
    ∃ S' vs,B1 X S' a∧S'.g=get (ups A us)∧S'.w=S.w∧F6 S S'∧(∀ n q z v,Kp i n→Bc X.P S (.tm n q) z v→Bc X.P S' (.tm n q) z v)∧(∀ n q k,Kp i n→S.O k = .tm n q→S'.O k = .tm n q)∧J9 X.P S' X.w0.heap.size i ((k,t)::ks) ls' vs∧Js (λ r v=>(No a r).run X.P S.w = .ok v S.w) (r::rs) vs:=by
   intro l u ls2 us2 S1 y v hy K1 g1 w1 L1 t1 o1 hres hrun hr2 hmk hus;obtain⟨ls2',rfl,hmk⟩:=hmk;subst hus;obtain⟨S',vs,K',g',w',L',t',o',hall,hruns⟩:=M3a hE hb0 ks rs (i+1) K1 g1 (by omega) hr2 hmk
   have hk1:∀ n,Kp i n→Kp (i+1) n∧n≠i:=λ n h=>by unfold Kp at *;omega
   refine⟨S',v::vs,K',by rw[Ax];exact g',w'.trans w1,L1.trans L',λ n q z v hn hz=>t' n q z v (hk1 n hn).1 (t1 n q z v (hk1 n hn).2 hz),λ n q k hn hk=>o' n q k (hk1 n hn).1 (o1 n q k (hk1 n hn).2 hk),⟨hres.keep w' (λ q z v=>t' i q z v (by unfold Kp;omega)) (λ q k=>o' _ q k (by unfold Kp;omega)),hall⟩,.cons hrun ?_⟩;rw[w1]at hruns;exact hruns
  cases ls' with
  |nil=>cases ls<;>exact hm.elim
  |cons l' ls2'=>
   cases ls with
   |nil=>exact hm.elim
   |cons l ls2=>
    obtain⟨⟨y,hy,rfl⟩,hmk⟩:=hm
    cases r with
    |tmp x=>
     have h':(bif Nat.blt x E.nt then (match E3a E.np A k t (.tmp x) (get A x).2 with
      |some (l,u)=>(match T4 E (ups A u) ks rs with
       |some (ls,us)=>some (l::ls,u++us)
       |none=>none)
      |none=>none) else none)=some (l::ls2,us):=by
      unfold T4 at h
      cases k<;>exact h
     cases hx:Nat.blt x E.nt
     ·rw[hx]at h';simp at h'
     rw[hx,cond_true]at h';split at h'
     ·rename_i l1 u1 hr1;split at h'
      ·rename_i l2 u2 hr2;simp only[Vc,Vy,Yj]at h';obtain⟨⟨rfl,rfl⟩,rfl⟩:=h'
       by_cases hk:k = .ptr
       ·subst hk;obtain⟨S1,K1,g1,w1,L1,t1,o1,hres⟩:=Vva hE K hg hb0 hx i hr1 hy;exact rest hy K1 g1 w1 L1 (λ n q z v _=>t1 n q z v) (λ n q k _=>o1 n q k) hres rfl hr2 ⟨ls2',rfl,hmk⟩ rfl
       ·obtain⟨S1,K1,g1,G,vs,e1,e2⟩:=Vua hE K hg hx i hk hr1 hy;refine rest hy K1 g1 G.w G.later (λ n q z v hn=>G.tms n q z v hn) (λ n q k hn=>G.tm n q k hn) ?_ (v:=a.eval (.tmp x)) rfl hr2 ⟨ls2',rfl,hmk⟩ rfl
        cases k with
        |ptr=>exact absurd rfl hk
        |one=>
         simp only[Rq,Wq,if_false]at e1 e2;subst e1;exact e2
        |agg=>
         simp only[Rq,if_true]at e1 e2;exact⟨vs,e1,e2⟩
      ·cases h'
     ·cases h'
    |cell x T=>
     cases k with
     |one=>simp[T4]at h
     |ptr=>simp[T4]at h
     |agg=>
      unfold T4 at h;cases hx:Nat.blt x E.nt
      ·rw[hx]at h;simp at h
      cases hT:E.ti T with
      |none=>rw[hT]at h;simp at h
      |some ti=>
       cases hag:ti.ag&&Nat.beq ti.ty.sz t.sz
       ·rw[hT,hx]at h;simp[hag]at h
       rw[hT,hx]at h;simp only[hag,Bool.and_self,cond_true]at h;simp only[Va]at hag;split at h
       ·rename_i l1 u1 hr1;split at h
        ·rename_i l2 u2 hr2;simp only[Vc,Vy,Yj]at h;obtain⟨⟨rfl,rfl⟩,rfl⟩:=h;obtain⟨S1,K1,g1,G,vs,hrun,e2⟩:=Qua hE K hg hx hT hag.1 (Vg hag.2) i hr1 hy;exact rest hy K1 g1 G.w G.later (λ n q z v hn=>G.tms n q z v hn) (λ n q k hn=>G.tm n q k hn) ⟨vs,rfl,e2⟩ hrun hr2 ⟨ls2',rfl,hmk⟩ rfl
        ·cases h
       ·cases h
def szs:List Par→Bool
 |[]=>true
 |.ptr t t'::ps=>Nat.beq t.sz t'.sz&&szs ps
 |.hid t t'::ps=>Nat.beq t.sz t'.sz&&szs ps
 |_::ps=>szs ps
def Yqa {X:Cx} {i n:Nat} (hn:X.np≤1000) (h:i<n) (h2:n-X.np<500):X.pb (bid X.np i):=by
 unfold Cx.pb bid
 cases h3:Nat.blt i X.np with
 |true=>
  have h1:i<X.np:=Vk h3;rw[cond_true];omega
 |false=>rw[cond_false];omega
def Ena (hE:Iv X E) (hnp:X.np≤1000) (hu:∀ k b,X.O0 k = .bx b→∀ k',X.O0 k' = .bx b→k'=k) {hs:List Value}:∀ (ps:List Par) {S:Sit} {A:Ab} {ls ls' la:List (List Lf)} {us:List Value} (i:Nat),B1 X S a→S.g=get A→i+ps.length-X.np<500→szs ps=true→Pya X.np A i ps=some ls→Mk (Jf ps) ls ls'→
  Lx X.P (bare X.O0 X.w0) X.rg X.np hs i ps la us→
  ∃ S',B1 X S' a∧S'.w=S.w∧F6 S S'∧(∀ n q z v,n<1001+i→Bc X.P S (.tm n q) z v→Bc X.P S' (.tm n q) z v)∧(∀ n q k,n<1001+i→S.O k = .tm n q→S'.O k = .tm n q)∧Li X.P S' i ps us ls'
 |[],S,A,ls,ls',la,us,i,K,hg,hn,hz,h,hm,ha=>by
  refine⟨S,K,rfl,.refl S,λ _ _ _ _ _ h=>h,λ _ _ _ _ h=>h,?_⟩;simp only[Pya,Vc]at h;subst h
  cases ls' with
  |nil=>rfl
  |cons=>exact hm.elim
 |p::ps,S,A,ls,ls',la,us,i,K,hg,hn,hz,h,hm,ha=>by
  cases la with
  |nil=>exact ha.elim
  |cons l0 la=>
   cases us with
   |nil=>exact ha.elim
   |cons u us=>
    simp only[Vh]at hn;obtain⟨ha1,ha2⟩:=ha
    have skip:szs ps=true→Pya X.np A (i+1) ps=some ls→Mk (Jf ps) ls ls'→(∀ {S':Sit},Li X.P S' (i+1) ps us ls'→Li X.P S' i (p::ps) (u::us) ls')→
      ∃ S',B1 X S' a∧S'.w=S.w∧F6 S S'∧(∀ n q z v,n<1001+i→Bc X.P S (.tm n q) z v→Bc X.P S' (.tm n q) z v)∧(∀ n q k,n<1001+i→S.O k = .tm n q→S'.O k = .tm n q)∧Li X.P S' i (p::ps) (u::us) ls':=by
     intro hz h hm hb;obtain⟨S',K',w',L',t',o',b'⟩:=Ena hE hnp hu ps (i+1) K hg (by omega) hz h hm ha2;exact⟨S',K',w',L',λ n q z v hn=>t' n q z v (by omega),λ n q k hn=>o' n q k (by omega),hb b'⟩
    have box:∀ {t t':Ty},(Nat.beq t.sz t'.sz&&szs ps)=true→Ws X.P (bare X.O0 X.w0) X.rg (bid X.np i) t l0 u→(match V3a A (bid X.np i) t' with
      |some (l,us)=>(match Pya X.np (ups A us) (i+1) ps with
       |some ls=>some (l::ls)
       |none=>none)
      |none=>none)=some ls→Mk (t'::Jf ps) ls ls'→(∀ {S':Sit} {l':List Lf} {ls2:List (List Lf)},ls'=l'::ls2→Wt X.P S' i t' l' u→Li X.P S' (i+1) ps us ls2→Li X.P S' i (p::ps) (u::us) ls')→
      ∃ S',B1 X S' a∧S'.w=S.w∧F6 S S'∧(∀ n q z v,n<1001+i→Bc X.P S (.tm n q) z v→Bc X.P S' (.tm n q) z v)∧(∀ n q k,n<1001+i→S.O k = .tm n q→S'.O k = .tm n q)∧Li X.P S' i (p::ps) (u::us) ls':=by
     intro t t' hz ha1 h hm hb;simp only[Va]at hz;have hsz:t.sz=t'.sz:=Vg hz.1;split at h
     ·rename_i l1 us1 hgive;split at h
      ·rename_i ls2 h2;cases h
       cases ls' with
       |nil=>exact hm.elim
       |cons l' ls2'=>
        obtain⟨⟨y,hy,rfl⟩,hmk⟩:=hm;obtain⟨g1,g2,_,_,g5,S1,K1,g6,G,hls⟩:=Sk K hg hgive (1001+i);obtain⟨S2,K2,w2,L2,t2,o2,b2⟩:=Ena hE hnp hu ps (i+1) K1 g6 (by omega) hz.2 h2 hmk ha2;obtain⟨hm9,c,e,e1,e2,e3,e4⟩:=K.box _ _ g2;obtain⟨r1,r2,_⟩:=K.rgn _ _ g2;have hpb:X.pb (bid X.np i):=Yqa (n:=i+(ps.length+1)) hnp (by omega) hn;obtain⟨r3,r4,r5⟩:=r1 (Tga (n:=i+(ps.length+1)) (by omega) hnp hn) (r2 hpb);obtain⟨k,o,c0,e0,vs,rfl,f2,f3,f4,f5,f6,f7,f8,f9⟩:=ha1;have hk:(S.bb (bid X.np i)).1=k:=hu k _ f3 _ r3;rw[f4]at r4 r5;simp only at r4 r5
        have ho:(S.bb (bid X.np i)).2=o:=by omega
        refine⟨S2,K2,w2.trans G.w,G.later.trans L2,λ n q z v hn hz=>t2 n q z v (by omega) (G.tms n q z v (by omega) hz),λ n q k hn hk=>o2 n q k (by omega) (G.tm n q k (by omega) hk),hb rfl ⟨k,o,c,e,(List.range t'.sz).map (λ j=>S.ph (C (bid X.np i) (0+j))),rfl,?_,Gq t' y,λ j hj=>?_,?_⟩ b2⟩
        ·rw[w2,G.w,← hk];exact e1
        ·rw[← ho,e4 j hj];simp[hj]
        ·exact(Oe (R8 hgive) hy hls).impM (λ z hz n u hu=>t2 _ _ z u (by omega) hu)
      ·cases h
     ·cases h
    cases p with
    |val ag t=>exact skip hz h hm (λ h=>h)
    |vw t h0=>exact skip hz h hm (λ h=>h)
    |rd t=>exact skip hz h hm (λ h=>h)
    |fn F m=>exact skip hz h hm (λ h=>h)
    |ptr t t'=>exact box hz ha1.2 h hm (λ e h1 h2=>by subst e;exact⟨h1,h2⟩)
    |hid t t'=>exact box hz ha1.2 h hm (λ e h1 h2=>by subst e;exact⟨h1,h2⟩)
end
end

section
attribute [local irreducible] C H
def Gwa {P:Program} {w:World} {a:Act}:∀ {rv:List ResultVar} {vs:List Value},Js (λ r v=>(No a r).run P w = .ok v w) rv vs→(rv.mapM (No a)).run P w = .ok vs w
 |_,_,.nil=>rfl
 |_,_,.cons h hs=>by
  rw[List.mapM_cons];simp only[Wd,h,Wb,Gwa hs,Yc]
def Eoa {P:Program} {w:World} {a:Act} {fn:Func} {vs:List Value} (h:Js (λ r v=>(No a r).run P w = .ok v w) fn.results.toList vs):
  (results fn a.tmps).run P w = .ok (if h:vs.length=1 then vs[0] else .tuple vs.toArray) w:=by
 refine Eq.trans (b:=(do let vs ← fn.results.mapM (No a);pure (if h:vs.size=1 then vs[0] else .tuple vs):Sem Value).run P w) ?_ ?_
 ·unfold results;refine congrArg (λ (f:ResultVar→Sem Value)=>Sem.run P (do let vs ← fn.results.mapM f;pure (if h:vs.size=1 then vs[0] else Value.tuple vs):Sem Value) w) (?_:_=No a);funext x
  cases x<;>rfl
 rw[Ejb];simp only[map_eq_pure_bind,Wd,Gwa h,Wb,Yc];simp
def Epa:∀ (ts us:List Ty) (x:Den (ts++us)) (ls ls':List (List Lf)),ls.length=ts.length→Mk (ts++us) (ls++ls') (Dx (ts++us) x)→
  Mk ts ls ((Dx (ts++us) x).take ts.length)∧Mk us ls' ((Dx (ts++us) x).drop ts.length)
 |[],us,x,[],ls',_,h=>⟨trivial,h⟩
 |[],us,x,_::_,ls',hl,h=>by simp at hl
 |t::ts,us,x,[],ls',hl,h=>by simp at hl
 |t::ts,us,x,l::ls,ls',hl,h=>by
  have key:∀ (ts us:List Ty) (ls ls' lx:List (List Lf)),ls.length=ts.length→Mk (ts++us) (ls++ls') lx→Mk ts ls (lx.take ts.length)∧Mk us ls' (lx.drop ts.length):=by
   intro ts
   induction ts with
   |nil=>
    intro us ls ls' lx hl h
    cases ls with
    |nil=>exact⟨trivial,h⟩
    |cons=>simp at hl
   |cons t ts ih=>
    intro us ls ls' lx hl h
    cases ls with
    |nil=>simp at hl
    |cons l ls=>
     cases lx with
     |nil=>exact h.elim
     |cons lx1 lx=>
      obtain⟨h1,h2⟩:=ih us ls ls' lx (by simpa using hl) h.2;exact⟨⟨h.1,h1⟩,h2⟩
  exact key (t::ts) us (l::ls) ls' _ hl h
def Z5 {E:En}:∀ (rs:List (RK×Ty)) (rv:List ResultVar) (A:Ab) (ls:List (List Lf)) (us:List Up),T4 E A rs rv=some (ls,us)→ls.length=rs.length
 |[],[],A,ls,us,h=>by
  simp only[T4,Vc,Vy]at h;obtain⟨rfl,rfl⟩:=h;rfl
 |[],_::_,A,ls,us,h=>by simp[T4]at h
 |(k,t)::ks,[],A,ls,us,h=>by cases k<;>simp[T4]at h
 |(k,t)::ks,.tmp x::rs,A,ls,us,h=>by
  have h':(bif Nat.blt x E.nt then (match E3a E.np A k t (.tmp x) (get A x).2 with
   |some (l,u)=>(match T4 E (ups A u) ks rs with
    |some (ls,us)=>some (l::ls,u++us)
    |none=>none)
   |none=>none) else none)=some (ls,us):=by
   unfold T4 at h
   cases k<;>exact h
  cases hx:Nat.blt x E.nt
  ·rw[hx]at h';simp at h'
  rw[hx,cond_true]at h';split at h'
  ·split at h'
   ·rename_i hr;simp only[Vc,Vy]at h';obtain⟨rfl,rfl⟩:=h';simp[Z5 ks rs _ _ _ hr]
   ·cases h'
  ·cases h'
 |(.agg,t)::ks,.cell x T::rs,A,ls,us,h=>by
  unfold T4 at h;generalize (Nat.blt x E.nt&&(match E.ti T with|some ti=>ti.ag&&Nat.beq ti.ty.sz t.sz|none=>false))=bb at h;cases bb
  ·simp at h
  rw[cond_true]at h;split at h
  ·split at h
   ·rename_i hr;cases h;simp[Z5 ks rs _ _ _ hr]
   ·cases h
  ·cases h
 |(.one,t)::ks,.cell x T::rs,A,ls,us,h=>by simp[T4]at h
 |(.ptr,t)::ks,.cell x T::rs,A,ls,us,h=>by simp[T4]at h
def Hn.of {P:Program} {S:Sit} {n0:Nat} {rs:List (RK×Ty)} {ls:List (List Lf)} {vs:List Value} (h:J9 P S n0 1 rs ls vs) (ll:List (List Lf)):Hn P S n0 rs (ls++ll) (if h:vs.length=1 then vs[0] else .tuple vs.toArray):=by
 have len:∀ (rs:List (RK×Ty)) (i:Nat) (ls:List (List Lf)) (vs:List Value),J9 P S n0 i rs ls vs→vs.length=rs.length:=by
  intro rs
  induction rs with
  |nil=>intro i ls vs h;(have:vs=[]:=by (cases ls<;>exact h));subst this;rfl
  |cons r rs ih=>
   intro i ls vs h
   cases ls with
   |nil=>exact h.elim
   |cons l ls=>
    cases vs with
    |nil=>exact h.elim
    |cons v vs=>simp[ih _ _ _ h.2]
 have ext:∀ (rs:List (RK×Ty)) (i:Nat) (ls:List (List Lf)) (vs:List Value),J9 P S n0 i rs ls vs→J9 P S n0 i rs (ls++ll) vs:=by
  intro rs
  induction rs with
  |nil=>intro i ls vs h;(have:vs=[]:=by (cases ls<;>exact h));subst this;cases (ls++ll)<;>rfl
  |cons r rs ih=>
   intro i ls vs h
   cases ls with
   |nil=>exact h.elim
   |cons l ls=>
    cases vs with
    |nil=>exact h.elim
    |cons v vs=>exact⟨h.1,ih _ _ _ h.2⟩
 have hl:=len rs 1 ls vs h;have he:=ext rs 1 ls vs h;unfold Hn;split
 ·rename_i r;have h1:vs.length=1:=hl;obtain⟨v,rfl⟩:=Dpb.1 h1
  cases ls with
  |nil=>exact h.elim
  |cons l ls=>exact⟨l,ls++ll,rfl,h.1⟩
 ·rename_i hne;refine⟨vs,?_,he⟩;rw[dif_neg];intro h1;rw[hl]at h1;obtain⟨r,hr⟩:=Dpb.1 h1;exact hne r hr
def Eqa (en:Ent):Bool:=Kl en.nv 0 en.ps&&szs en.ps&&Nat.blt (en.ps.length-en.nv) 500&&Nat.blt en.rs.length 400
def J8a {P:Program} {f:FuncId} {fn:Func} {c:Code} {en:Ent} {E:En} (hf:P.funcs[f]? = some fn) (hb:fn.body=some c) (hnt:fn.ntmps≤1000) (hps:en.nv≤fn.ntmps)
  (hV:∀ X:Cx,X.P=P→X.nt=fn.ntmps→X.np=en.nv→Tn X E) (hD:∀ X:Cx,X.P=P→X.nt=fn.ntmps→X.np=en.nv→C3a X E) (hL:∀ X:Cx,X.P=P→X.nt=fn.ntmps→X.np=en.nv→Kr X E c)
  (hpl:Eqa en=true) (heq:∀ x,Kra E c fn.results.toList en x=en.run x):Vja P f en:=by
 intro x r hr w O rg us hlt hbx hargs;rw[← heq]at hr;unfold Eqa at hpl;simp only[Va]at hpl;obtain⟨⟨⟨hp1,hp2⟩,hp3⟩,hp4⟩:=hpl;have hp3:en.ps.length-en.nv<500:=Vk hp3;have hp4:en.rs.length<400:=Vk hp4
 let X:Cx:=⟨P,O,w,rg,fn.ntmps,en.nv⟩
 have hsol:=Ik (en.ps.map Par.ty) x
 have K0:B1 X (S0 en.nv en.ps (Dx _ x) us O w) ⟨(us.take en.nv).toArray++Array.replicate (fn.ntmps-(us.take en.nv).toArray.size) undef,[]⟩:=
  Qta hnt hlt (λ k b h=>(hbx k b h).2.1) hargs hsol hps hp1 hp3
 refine calls_of_wp hf hb ?_;refine C5a (X:=X) (S:=S0 en.nv en.ps (Dx _ x) us O w) (hV X rfl rfl rfl) (hD X rfl rfl rfl) c (hL X rfl rfl rfl) K0 rfl hr ?_;intro e S a A K hg h;have hE:=(hV X rfl rfl rfl).en
 have hb0:∀ k b,O k = .bx b→b<en.nv∨1500≤b:=λ k b hk=>by
  obtain⟨i,h1,h2⟩:=(hbx k b hk).1;subst h2;unfold bid
  cases h3:Nat.blt i en.nv with
  |true=>exact .inl (Vk h3)
  |false=>rw[cond_false];exact .inr (by omega)
 have fin:Mg E (E.gh 1000000) A (λ A=>match T4 E A en.rs fn.results.toList with
   |some (ls,us)=>(match Pya en.nv (ups A us) 0 en.ps with
    |some bs=>Qq (en.rs.map Prod.snd++Jf en.ps) (ls++bs)
    |none=>none)
   |none=>none)=some r→bodyPost P fn (λ e w'=>∃ v O',e = .returned v∧Fr O w rg O' w'∧(∀ k,O' k ≠ .no→k<w'.heap.size)∧Hn P (bare O' w') w.heap.size en.rs (Dx _ r) v∧Li P (bare O' w') 0 en.ps us ((Dx _ r).drop en.rs.length)) .ret a S.w:=by
  intro h;obtain⟨A,S0',h,K,hg,w0'⟩:=Lu hE _ K hg h;rw[← w0'];split at h
  ·rename_i ls1 us1 h1;split at h
   ·rename_i bs h2;have hmk:=So _ _ _ h;have hlen:=Z5 _ _ _ _ _ h1;obtain⟨m1,m2⟩:=Epa (en.rs.map Prod.snd) (Jf en.ps) r ls1 bs (by simpa using hlen) hmk;rw[Wc]at m1 m2;obtain⟨S1,vs,K1,g1,w1,L1,_,_,hall,hruns⟩:=M3a hE hb0 en.rs fn.results.toList 1 K hg (by omega) h1 m1;obtain⟨S2,K2,w2,L2,t2,o2,hback⟩:=Ena hE (show en.nv≤1000 by omega) (λ k b hk=>(hbx k b hk).2.2) en.ps 0 K1 g1 (by show 0+en.ps.length-en.nv<500;omega) hp2 h2 m2 hargs;have hsolr:=Ik _ r
    have hall2:J9 P (bare S2.O S2.w) w.heap.size 1 en.rs ((Dx _ r).take en.rs.length) vs:=by
     have key:∀ (rs:List (RK×Ty)) (i:Nat) (ls:List (List Lf)) (us:List Value),i+rs.length<500→(∀ l∈ls,∀ y∈l,Hd y=true)→J9 P S1 w.heap.size i rs ls us→J9 P (bare S2.O S2.w) w.heap.size i rs ls us:=by
      intro rs
      induction rs with
      |nil=>intro i ls us _ _ h;exact h
      |cons r rs ih=>
       intro i ls us hi hs h;simp only[Vh]at hi
       cases ls with
       |nil=>exact h.elim
       |cons l ls=>
        cases us with
        |nil=>exact h.elim
        |cons u us=>
         refine⟨?_,ih (i+1) ls us (by omega) (λ l hl=>hs l (Vd _ hl)) h.2⟩;have hl:∀ q z v,Hd z=true→Bc P S1 (.tm i q) z v→Bc P (bare S2.O S2.w) (.tm i q) z v:=λ q z v hz hv=>Bc.bare (S1:=S2) hz rfl (λ k hk=>hk) (λ k hk=>hk) (t2 i q z v (by omega) hv);have h1:=h.1;generalize r.1=k at h1 ⊢
         cases k with
         |one=>exact A9.impM (λ x hx n u h=>hl _ _ u (hs l (by simp) x hx) h) h1
         |agg=>
          obtain⟨us,e,h⟩:=h1;exact⟨us,e,h.impM (λ x hx n u h=>hl _ _ u (hs l (by simp) x hx) h)⟩
         |ptr=>
          obtain⟨k,o,c,e,us,h1,h2,h3,h4,h5,h6,h7,h8⟩:=h1;exact⟨k,o,c,e,us,h1,by show S2.w.heap[k]? = _;rw[w2];exact h2,h3,o2 _ _ _ (by omega) h4,h5,h6,h7,h8.impM (λ x hx n u h=>hl _ _ u (hs l (by simp) x hx) h)⟩
     exact key _ _ _ _ (by omega) (λ l hl=>hsolr l (Zw hl)) hall
    have hback2:Li P (bare S2.O S2.w) 0 en.ps us ((Dx _ r).drop en.rs.length):=by
     have one:∀ {i:Nat} {t':Ty} {l:List Lf} {u:Value},(∀ y∈l,Hd y=true)→Wt P S2 i t' l u→Wt P (bare S2.O S2.w) i t' l u:=by
      rintro i t' l u hs ⟨k,o,c,e,vs,q1,q2,q3,q4,q5⟩;exact⟨k,o,c,e,vs,q1,q2,q3,q4,q5.impM (λ y hy n u hu=>Bc.bare (S1:=S2) (hs y hy) rfl (λ k hk=>hk) (λ k hk=>hk) hu)⟩
     have key:∀ (ps:List Par) (i:Nat) (us:List Value) (ls:List (List Lf)),(∀ l∈ls,∀ y∈l,Hd y=true)→Li P S2 i ps us ls→Li P (bare S2.O S2.w) i ps us ls:=by
      intro ps
      induction ps with
      |nil=>intro i us ls _ h;exact h
      |cons p ps ih=>
       intro i us ls hs h
       cases p<;>cases us<;>first|exact h.elim|skip
       all_goals first|exact ih _ _ _ hs h|skip
       all_goals
        cases ls with
        |nil=>exact h.elim
        |cons l ls=>exact⟨one (hs l (by simp)) h.1,ih _ _ _ (λ l hl=>hs l (Vd _ hl)) h.2⟩
     exact key _ _ _ _ (λ l hl=>hsolr l (Zq hl)) hback
    have hres:=Hn.of hall2 ((Dx _ r).drop en.rs.length);rw[Wh]at hres;have hw:S2.w=S0'.w:=w2.trans w1;rw[hw]at hres hback2;refine⟨K.df,_,Eoa hruns,_,S2.O,rfl,?_,?_,hres,hback2⟩
    ·rw[← hw];exact K2.fr
    ·rw[← hw];exact K2.lt
   ·cases h
  ·cases h
 cases e with
 |exit i=>cases h
 |normal=>exact fin h
 |ret=>exact fin h
end

section
attribute [local irreducible] C H
def Ag (A A':Ab) (F:List Nat):Prop:=∀ p∈F,get A' p=get A p
def RB (A:Ab) (F:List Nat) (b lo:Nat):Prop:=H b∈F∧∀ n,(get A (H b)).2 = .one (.hd n)→∀ j,lo≤j→j<n→C b j∈F∧∀ p v,(get A (C b j)).2 = .one (.al p v)→p∈F
def RL (A:Ab) (F:List Nat):Lf→Prop
 |.al p _=>p∈F
 |.ep p _ _ _=>p∈F
 |.da p _ _ _ _ _=>p∈F
 |.dp p _ _ _ _ _ _ _=>p∈F
 |.bp b _ off=>RB A F b off
 |.fn _ bs=>∀ c∈bs,RB A F c.1 0
 |_=>True
def RX (A:Ab) (F:List Nat):Operand→Prop
 |.tmp t=>t∈F∧∀ y∈parts (get A t).2,RL A F y
 |_=>True
def Np (u:Up):Prop:=u.s = .one .dead∨∃ e r,∃ xs:List (Ty.den r),u.s = .one (.fz e r xs)
section
variable {E:En} {A A':Ab} {F:List Nat} {o:Oper} {R:Type} {Kc:List Up→Option R} {r:R}
def M4a {b:Nat}:∀ {n j:Nat},(∀ p∈rdC A b j n,p∈F)→∀ i,i<n→C b (j+i)∈F∧∀ p v,(get A (C b (j+i))).2 = .one (.al p v)→p∈F
 |0,j,h,i,hi=>by omega
 |n+1,j,h,i,hi=>by
  unfold rdC at h
  cases i with
  |zero=>
   refine⟨h _ (by simp),λ p v hp=>h p ?_⟩;rw[Zy]at hp;rw[hp];simp
  |succ i=>
   rw[show j+(i+1)=j+1+i by omega];exact M4a (n:=n) (j:=j+1) (λ p hp=>h p (Vd _ (Vo _ hp))) i (by omega)
def M5a {b lo:Nat} (h:∀ p∈H b::(match (get A (H b)).2 with | .one (.hd n)=>rdC A b lo (n-lo)|_=>[]),p∈F):RB A F b lo:=by
 refine⟨h _ (by simp),λ n hn j hl hj=>?_⟩;rw[hn]at h;have:=M4a (A:=A) (F:=F) (b:=b) (n:=n-lo) (j:=lo) (λ p hp=>h p (Vd _ hp)) (j-lo) (by omega);rwa [show lo+(j-lo)=j by omega]at this
def Yra {y:Lf} (h:∀ p∈rdL A y,p∈F):RL A F y:=by
 cases y with
 |al p v=>exact h p (by simp[rdL])
 |ep p v i off=>exact h p (by simp[rdL])
 |da p v pi e r xs=>exact h p (by simp[rdL])
 |dp p v pi e r xs i off=>exact h p (by simp[rdL])
 |bp b v off=>exact M5a h
 |fn f bs=>exact λ c hc=>M5a (lo:=0) λ p hp=>h p (List.mem_flatMap.2 ⟨c,hc,hp⟩)
 |_=>trivial
def M6a:∀ {l:List Lf},(∀ p∈Aab A l,p∈F)→∀ y∈l,RL A F y
 |[],_,y,hy=>by simp at hy
 |z::l,h,y,hy=>by
  unfold Aab at h;rcases Vl.1 hy with rfl|hy
  ·exact Yra λ p hp=>h p (Vx _ hp)
  ·exact M6a (λ p hp=>h p (Vo _ hp)) y hy
def Ysa {x:Operand} (h:∀ p∈rdO A x,p∈F):RX A F x:=by
 cases x with
 |tmp t=>
  unfold rdO at h;exact⟨h t (by simp),M6a λ p hp=>h p (Vd _ hp)⟩
 |_=>trivial
def Era:∀ {l:List Operand},(∀ p∈T6a A l,p∈F)→∀ x∈l,RX A F x
 |[],_,y,hy=>by simp at hy
 |z::l,h,y,hy=>by
  unfold T6a at h;rcases Vl.1 hy with rfl|hy
  ·exact Ysa λ p hp=>h p (Vx _ hp)
  ·exact Era (λ p hp=>h p (Vo _ hp)) y hy
def Tr (A:Ab) (u:Up) (p:Nat):get (up A u) p=if p=u.l then ((bif u.keep then (get A u.l).1 else (get A u.l).1+1),u.s) else get A p:=by
 rw[L6];unfold upd;rfl
def Ag.up (h:Ag A A' F) (u:Up):Ag (up A u) (up A' u) F:=by
 intro p hp;rw[Tr,Tr]
 by_cases e:p=u.l
 ·subst e;rw[if_pos rfl,if_pos rfl,h _ hp]
 ·rw[if_neg e,if_neg e,h _ hp]
def Ag.ups:∀ {U:List Up} {A A':Ab},Ag A A' F→Ag (ups A U) (ups A' U) F
 |[],_,_,h=>h
 |u::U,_,_,h=>Ag.ups (U:=U) (h.up u)
def RB.up {b lo:Nat} (h:RB A F b lo) {u:Up} (hu:Np u):RB (Vf.up A u) F b lo:=by
 have key:∀ q,(get (Vf.up A u) q).2=(get A q).2∨(get (Vf.up A u) q).2=u.s:=by
  intro q;rw[Tr]
  by_cases e:q=u.l
  ·rw[if_pos e];exact .inr rfl
  ·rw[if_neg e];exact .inl rfl
 refine⟨h.1,λ n hn j hlo hj=>?_⟩
 have hn':(get A (H b)).2 = .one (.hd n):=by
  rcases key (H b) with k|k
  ·rw[← k];exact hn
  ·rw[k]at hn
   rcases hu with hu|⟨e,r,xs,hu⟩<;>rw[hu]at hn<;>cases hn
 obtain⟨h1,h2⟩:=h.2 n hn' j hlo hj;refine⟨h1,λ p v hp=>?_⟩;rcases key (C b j) with k|k
 ·exact h2 p v (by rw[← k];exact hp)
 ·rw[k]at hp
  rcases hu with hu|⟨e,r,xs,hu⟩<;>rw[hu]at hp<;>cases hp
def RB.ups {b lo:Nat}:∀ {U:List Up} {A:Ab},RB A F b lo→(∀ u∈U,Np u)→RB (Vf.ups A U) F b lo
 |[],_,h,_=>h
 |u::U,_,h,hu=>RB.ups (U:=U) (h.up (hu u (by simp))) (λ v hv=>hu v (Vd _ hv))
def RL.up {y:Lf} (h:RL A F y) {u:Up} (hu:Np u):RL (Vf.up A u) F y:=by
 cases y with
 |al p v=>exact h
 |ep p v i off=>exact h
 |da p v pi e r xs=>exact h
 |dp p v pi e r xs i off=>exact h
 |bp b v off=>exact RB.up h hu
 |fn f bs=>exact λ c hc=>(h c hc).up hu
 |_=>trivial
def RX.up {x:Operand} (h:RX A F x) {u:Up} (hu:Np u):RX (Vf.up A u) F x:=by
 cases x with
 |tmp t=>
  refine⟨h.1,λ y hy=>?_⟩;rw[Tr]at hy
  by_cases e:t=u.l
  ·rw[if_pos e]at hy;rcases hu with hu|⟨e',r,xs,hu⟩
   ·rw[hu]at hy;simp only[parts,Vn]at hy;subst hy;trivial
   ·rw[hu]at hy;simp only[parts,Vn]at hy;subst hy;trivial
  ·rw[if_neg e]at hy;exact(h.2 y hy).up hu
 |_=>trivial
def RX.ups {x:Operand}:∀ {U:List Up} {A:Ab},RX A F x→(∀ u∈U,Np u)→RX (Vf.ups A U) F x
 |[],_,h,_=>h
 |u::U,_,h,hu=>RX.ups (U:=U) (h.up (hu u (by simp))) (λ v hv=>hu v (Vd _ hv))
def Az {x:Operand} {T:TypeId} (h:Ag A A' F) (hx:RX A F x):opT E T A' x=opT E T A x:=by
 cases x with
 |tmp t=>show (bif Nat.blt t E.nt then some (get A' t).2 else none)=(bif Nat.blt t E.nt then some (get A t).2 else none);rw[h t hx.1]
 |const v=>
  unfold opT
  cases v<;>first|rfl|skip
  rename_i a b c
  cases a<;>cases b<;>cases c<;>rfl
 |func f=>rfl
 |global g=>rfl
def Nq {x:Operand} {T:TypeId} {s:Sv} (hx:RX A F x) (h:opT E T A x=some s):∀ y∈parts s,RL A F y:=by
 unfold opT at h;split at h
 ·rename_i t;cases hb:Nat.blt t E.nt
  ·simp[hb]at h
  simp only[hb,cond_true,Vc]at h;rw[← h];exact hx.2
 ·split at h
  ·cases h;intro y hy;simp only[parts,Vn]at hy;subst hy;trivial
  ·cases h
 ·rename_i v _;cases hs:G1a v
  ·simp[hs]at h
  simp only[hs,cond_true,Vc]at h;subst h;intro y hy;simp only[parts,Vn]at hy;subst hy;trivial
 ·cases h;intro y hy;simp only[parts,Vn]at hy;subst hy;trivial
 ·cases h
def H1 {x:Operand} {T:TypeId} {y:Lf} (hx:RX A F x) (h:opT E T A x=some (.one y)):RL A F y:=Nq hx h y (by simp[parts])
def AL (F:List Nat):Lf→Prop
 |.al p _=>p∈F
 |_=>True
def RL.al {y:Lf} (h:RL A F y):AL F y:=by
 cases y<;>first|trivial|exact h
def Fq {y:Lf} (h:Ag A A' F) (hy:AL F y):Jb A' y=Jb A y:=by
 cases y with
 |al p v=>simp only[Jb];rw[h p hy]
 |_=>rfl
def M7a {y:Lf} (h:Ag A A' F) (hy:RL A F y):Xt A' y=Xt A y:=by
 cases y with
 |da p v pi e r xs=>simp only[Xt];rw[h p hy]
 |_=>exact Fq h hy.al
def Qva (h:Ag A A' F) {l:List Lf} (hy:∀ y∈l,RL A F y):l.map (λ y=>Le (Xt A' y))=l.map (λ y=>Le (Xt A y)):=Cdb λ y hm=>by rw[M7a h (hy y hm)]
def Gxa {y:Lf} (h:Ag A A' F) (hy:RL A F y):Dva A' y=Dva A y:=by
 cases y with
 |da p v pi e r xs=>simp only[Dva];rw[h p hy]
 |_=>simp only[Dva,Fq h hy.al]
def Tt:∀ {l:List Lf} {A A':Ab},Ag A A' F→(∀ y∈l,AL F y)→J7 A' l=J7 A l
 |[],_,_,_,_=>rfl
 |y::l,A,A',h,hy=>by
  have h1:AL F y:=hy y (by simp);have h2:∀ z∈l,AL F z:=λ z hz=>hy z (Vd _ hz)
  cases y with
  |al p v=>
   unfold J7;rw[Fq h h1,Tt (h.up ⟨p,false,.one .dead⟩) h2]
  |_=>simp only[J7,Tt h h2]
def M8a {x:Operand} {s:Sv} (h:Ag A A' F) (hy:∀ y∈parts s,AL F y):give A' x s=give A x s:=by
 unfold give;rw[Tt (h.ups (U:=gone x s)) hy]
def Esa {y:Lf} (h:Ag A A' F) (hy:AL F y):kept A' y=kept A y:=by
 cases y with
 |al p v=>show Le (Jb A' (.al p v))=Le (Jb A (.al p v));rw[Fq h hy]
 |_=>rfl
def Eta {y:Lf} (h:Ag A A' F) (hy:AL F y):Sf A' y=Sf A y:=by
 cases y with
 |al p v=>simp only[Sf];rw[h p hy]
 |_=>rfl
def Of (h:Ag A A' F):∀ {l:List Lf},(∀ y∈l,AL F y)→Iq A' l=Iq A l
 |[],_=>rfl
 |y::l,hy=>by
  unfold Iq;rw[Eta h (hy y (by simp)),Of h (λ z hz=>hy z (Vd _ hz))]
def Q4 (h:Ag A A' F) {l:List Lf} (hy:∀ y∈l,AL F y):l.map (kept A')=l.map (kept A):=Cdb λ y hm=>Esa h (hy y hm)
def Gya (h:Ag A A' F) {l:List Lf} (hy:∀ y∈l,AL F y):l.map (λ y=>Le (kept A' y))=l.map (λ y=>Le (kept A y)):=Cdb λ y hm=>by rw[Esa h (hy y hm)]
def Z6 {y:Lf} (h:Ag A A' F) (hy:RL A F y):V3 A' y=V3 A y:=by
 cases y with
 |bp b v n=>show Nat.beq (get A' (H b)).1 v=Nat.beq (get A (H b)).1 v;rw[h _ hy.1]
 |ep p v i n=>simp only[V3];rw[h p hy]
 |dp p v pi e r xs i n=>show Nat.beq (get A' p).1 v=Nat.beq (get A p).1 v;rw[h p hy]
 |_=>rfl
def Rc (h:Ag A A' F) {b:Nat}:∀ {n j:Nat},(∀ i,i<n→C b (j+i)∈F)→cellsOf A' b j n=cellsOf A b j n
 |0,_,_=>rfl
 |n+1,j,hc=>by
  unfold cellsOf;rw[h (C b j) (by simpa using hc 0 (by omega)),Rc h (λ i hi=>by have:=hc (i+1) (by omega);rwa [show j+(i+1)=j+1+i by omega]at this)]
def X1 {b:Nat}:∀ {n j:Nat},(∀ i,i<n→C b (j+i)∈F∧∀ p v,(get A (C b (j+i))).2 = .one (.al p v)→p∈F)→∀ y∈cellsOf A b j n,AL F y
 |0,_,_,y,hy=>by simp[cellsOf]at hy
 |n+1,j,hc,y,hy=>by
  unfold cellsOf at hy;rcases Vl.1 hy with hy|hy
  ·obtain⟨c1,c2⟩:=hc 0 (by omega);rw[Zy]at c1 c2;split at hy
   ·subst hy;exact c1
   ·subst hy;exact c1
   ·rename_i hp;subst hy
    cases y with
    |al p v=>exact c2 p v (by rw[hp])
    |_=>trivial
   ·subst hy;trivial
  ·refine X1 (n:=n) (j:=j+1) (λ i hi=>?_) y hy;have:=hc (i+1) (by omega);rwa [show j+(i+1)=j+1+i by omega]at this
end
end

section
attribute [local irreducible] C H
def Loc {R:Type} (E:En) (o:Oper) (A:Ab) (F:List Nat) (Kc:List Up→Option R) (r:R):Prop:=
 ∃ U,Kc U=some r∧∀ A',Ag A A' F→∀ {R':Type} (K':List Up→Option R'),Au E o A' K'=K' U
section
variable {E:En} {A A':Ab} {F:List Nat} {o:Oper} {R:Type} {Kc:List Up→Option R} {r:R}
def J9a {op:BinOp} {k:IntKind} {x y:Int} {Kv:Value→Option R} (h:Rp op k x y Kv=some r):∃ v,Kv v=some r∧∀ {R':Type} (K':Value→Option R'),Rp op k x y K'=K' v:=by
 cases op
 case quo=>
  simp only[Rp]at h ⊢
  cases hy:decide (y=0) with
  |true=>rw[hy]at h;simp at h
  |false=>rw[hy]at h;exact⟨_,h,λ K'=>rfl⟩
 case rem=>
  simp only[Rp]at h ⊢
  cases hy:decide (y=0) with
  |true=>rw[hy]at h;simp at h
  |false=>rw[hy]at h;exact⟨_,h,λ K'=>rfl⟩
 all_goals first|exact⟨_,h,λ K'=>rfl⟩|(simp[Rp]at h;done)
def Jaa {op:BinOp} {x y:ByteArray} {Kv:Value→Option R} (h:W4 op x y Kv=some r):∃ v,Kv v=some r∧∀ {R':Type} (K':Value→Option R'),W4 op x y K'=K' v:=by
 cases op
 case add=>
  simp only[W4]at h ⊢
  cases hy:Nat.ble (x.size+y.size) 9223372036854775807 with
  |false=>rw[hy]at h;simp at h
  |true=>rw[hy]at h;exact⟨_,h,λ K'=>rfl⟩
 all_goals first|exact⟨_,h,λ K'=>rfl⟩|(simp[W4]at h;done)
def Vwa {op:BinOp} {t:Option TI} {e:Bool} {x y:Sv} {Kv:Value→Option R} (h:bop op t e x y Kv=some r):∃ v,Kv v=some r∧∀ {R':Type} (K':Value→Option R'),bop op t e x y K'=K' v:=by
 unfold bop at h;split at h
 ·rename_i k a k' b;split at h
  ·cases hb:decide (b<0) with
   |true=>rw[hb]at h;simp at h
   |false=>rw[hb]at h;exact⟨_,h,λ K'=>by unfold bop;simp only[hb,cond_false]⟩
  ·cases hb:decide (b<0) with
   |true=>rw[hb]at h;simp at h
   |false=>rw[hb]at h;exact⟨_,h,λ K'=>by unfold bop;simp only[hb,cond_false]⟩
  ·rename_i n1 n2;obtain⟨hb,h⟩:=cs h;obtain⟨v,h1,h2⟩:=J9a h;refine⟨v,h1,λ K'=>?_⟩;unfold bop
   cases op<;>first|exact(n1 rfl).elim|exact(n2 rfl).elim|(simp only[hb,cond_true];exact h2 K')
 ·obtain⟨v,h1,h2⟩:=Jaa h;exact⟨v,h1,λ K'=>h2 K'⟩
 ·rename_i a b;split at h
  ·exact⟨_,h,λ K'=>rfl⟩
  ·exact⟨_,h,λ K'=>rfl⟩
  ·cases h
 ·rename_i l l';obtain⟨hb,h⟩:=cs h;split at h
  ·split at h
   ·rename_i b he;exact⟨_,h,λ K'=>by unfold bop;simp only[hb,cond_true,he]⟩
   ·cases h
  ·split at h
   ·rename_i b he;exact⟨_,h,λ K'=>by unfold bop;simp only[hb,cond_true,he]⟩
   ·cases h
  ·cases h
 ·cases h
def Vxa {op:UnOp} {x:Sv} {Kv:Value→Option R} (h:uop op x Kv=some r):∃ v,Kv v=some r∧∀ {R':Type} (K':Value→Option R'),uop op x K'=K' v:=by
 unfold uop at h;split at h
 ·exact⟨_,h,λ K'=>rfl⟩
 ·exact⟨_,h,λ K'=>rfl⟩
 ·exact⟨_,h,λ K'=>rfl⟩
 ·cases h
def Qwa {t t':Option TI} {x:Sv} {Kv:Sv→Option R} (h:conv t t' x Kv=some r):∃ v,Kv v=some r∧∀ {R':Type} (K':Sv→Option R'),conv t t' x K'=K' v:=by
 unfold conv at h;split at h
 ·exact⟨_,h,λ K'=>rfl⟩
 ·exact⟨_,h,λ K'=>rfl⟩
 ·rename_i e _ _ _ _ e' xs
  cases hb:Nat.beq e e' with
  |false=>rw[hb]at h;simp at h
  |true=>rw[hb]at h;exact⟨_,h,λ K'=>by unfold conv;simp only[hb,cond_true]⟩
 ·rename_i e _ _ _ _ e' xs
  cases hb:Nat.beq e e' with
  |false=>rw[hb]at h;simp at h
  |true=>rw[hb]at h;exact⟨_,h,λ K'=>by unfold conv;simp only[hb,cond_true]⟩
 ·rename_i s
  cases hb:Nat.ble s.size 140737488355328 with
  |false=>rw[hb]at h;simp at h
  |true=>rw[hb]at h;exact⟨_,h,λ K'=>by unfold conv;simp only[hb,cond_true]⟩
 ·cases h
def X2 {mx:Bool}:∀ {l:List Sv} {k:IntKind} {x:Int} {Kv:Value→Option R},Oo mx l k x Kv=some r→∃ v,Kv v=some r∧∀ {R':Type} (K':Value→Option R'),Oo mx l k x K'=K' v:=by
 intro l
 induction l with
 |nil=>intro k x Kv h;exact⟨_,h,λ K'=>rfl⟩
 |cons s l ih=>
  intro k x Kv h;unfold Oo at h;split at h
  ·rename_i heq;cases heq
  ·rename_i k0 x0 K0 l9 k9 x9 K9 k' y l0 heq;cases heq;obtain⟨hb,h⟩:=cs h;obtain⟨v,h1,h2⟩:=ih h;exact⟨v,h1,λ K'=>by conv => { lhs;unfold Oo };simp only[hb,cond_true];exact h2 K'⟩
  ·cases h
def Lb {lo hi:Option Int} {n:Nat} {Kv:Unit→Option R} (h:Dsa lo hi n Kv=some r):Kv ()=some r∧∀ {R':Type} (K':Unit→Option R'),Dsa lo hi n K'=K' ():=by
 unfold Dsa at h;split at h
 ·exact⟨h,λ K'=>rfl⟩
 ·rename_i l;obtain⟨h1,h⟩:=cs h
  cases h2:decide (l≤(n:Int)) with
  |false=>rw[h2]at h;simp at h
  |true=>rw[h2,cond_true]at h;exact⟨h,λ K'=>by unfold Dsa;simp only[h1,h2,cond_true]⟩
 ·rename_i l;obtain⟨h1,h⟩:=cs h
  cases h2:decide (l≤(n:Int)) with
  |false=>rw[h2]at h;simp at h
  |true=>rw[h2,cond_true]at h;exact⟨h,λ K'=>by unfold Dsa;simp only[h1,h2,cond_true]⟩
 ·rename_i l u;obtain⟨h1,h⟩:=cs h;obtain⟨h2,h⟩:=cs h
  cases h3:decide (u≤(n:Int)) with
  |false=>rw[h3]at h;simp at h
  |true=>rw[h3,cond_true]at h;exact⟨h,λ K'=>by unfold Dsa;simp only[h1,h2,h3,cond_true]⟩
def M9a {op:BinOp} {T T':TypeId} {x y:Operand} {d:Nat} (ho:o.op = .binOp op T x y T') (hod:o.dst=some d) (hx:RX A F x) (hy:RX A F y) (h:Au E o A Kc=some r):Loc E o A F Kc r:=by
 unfold Au at h;rw[ho,hod]at h;simp only at h;split at h
 ·rename_i s s' hs hs';obtain⟨v,h1,h2⟩:=Vwa h;refine⟨_,h1,λ A' hA R' K'=>?_⟩;unfold Au;rw[ho,hod];simp only[Az hA hx,Az hA hy,hs,hs'];exact h2 _
 ·cases h
def Qxa {op:UnOp} {T:TypeId} {x:Operand} {d:Nat} (ho:o.op = .unOp op T x) (hod:o.dst=some d) (hx:RX A F x) (h:Au E o A Kc=some r):Loc E o A F Kc r:=by
 unfold Au at h;rw[ho,hod]at h;simp only at h;split at h
 ·rename_i s hs;obtain⟨v,h1,h2⟩:=Vxa h;refine⟨_,h1,λ A' hA R' K'=>?_⟩;unfold Au;rw[ho,hod];simp only[Az hA hx,hs];exact h2 _
 ·cases h
def C8a {T T':TypeId} {x:Operand} {d:Nat} (hA:Ag A A' F) (hx:RX A F x):Rr E A' T T' x d=Rr E A T T' x d:=by
 unfold Rr
 cases x with
 |tmp t=>simp only[Az hA hx]
 |const v=>rfl
 |func f=>rfl
 |global g=>rfl
def Eua {T T':TypeId} {x:Operand} {d:Nat} (ho:o.op = .convert T T' x) (hod:o.dst=some d) (hx:RX A F x) (h:Au E o A Kc=some r):Loc E o A F Kc r:=by
 unfold Au at h;rw[ho,hod]at h;simp only at h
 cases hi:Rr E A T T' x d with
 |some U=>
  rw[hi]at h;refine⟨U,h,λ A' hA R' K'=>?_⟩;unfold Au;rw[ho,hod];simp only[C8a hA hx,hi]
 |none=>
  rw[hi]at h;simp only at h;split at h
  ·rename_i y hs;obtain⟨v,h1,h2⟩:=Qwa h;refine⟨_,h1,λ A' hA R' K'=>?_⟩;unfold Au;rw[ho,hod];simp only[C8a hA hx,hi,Az hA hx,hs,M7a hA (H1 hx hs)];exact h2 _
  ·cases h
def Qya {x:Operand} {d:Nat} (ho:o.op = .move x) (hod:o.dst=some d) (hx:∀ t,x = .tmp t→t∈F) (h:Au E o A Kc=some r):Loc E o A F Kc r:=by
 have hag:∀ A',Ag A A' F→∀ T,opT E T A' x=opT E T A x:=by
  intro A' hA T
  cases x with
  |tmp t=>show (bif Nat.blt t E.nt then some (get A' t).2 else none)=(bif Nat.blt t E.nt then some (get A t).2 else none);rw[hA t (hx t rfl)]
  |const v=>exact Az hA (x := .const v) trivial
  |func f=>rfl
  |global g=>rfl
 unfold Au at h;rw[ho,hod]at h;simp only at h;split at h
 ·rename_i s hs;split at h
  ·rename_i t e r' xs
   cases hn:(E.nm t&&!(E.mv d)) with
   |true=>
    rw[hn,cond_true]at h;refine⟨_,h,λ A' hA R' K'=>?_⟩;unfold Au;rw[ho,hod];simp only[hag A' hA,hs,hn,cond_true,hA t (hx t rfl)]
   |false=>
    rw[hn,cond_false]at h;refine⟨_,h,λ A' hA R' K'=>?_⟩;unfold Au;rw[ho,hod];simp only[hag A' hA,hs,hn,cond_false]
  ·rename_i hne;refine⟨_,h,λ A' hA R' K'=>?_⟩;unfold Au;rw[ho,hod];simp only[hag A' hA,hs]
 ·cases h
def Jba {x:Operand} {d:Nat} (ho:o.op = .assign x) (hod:o.dst=some d) (hx:RX A F x) (h:Au E o A Kc=some r):Loc E o A F Kc r:=by
 unfold Au at h;rw[ho,hod]at h;simp only at h;split at h
 ·rename_i p v hs;have hp:p∈F:=H1 hx hs;split at h
  ·rename_i n e r' xs hg;obtain⟨hn,h⟩:=cs h
   cases hr:E.res d with
   |true=>
    rw[hr,cond_true]at h;refine⟨_,h,λ A' hA R' K'=>?_⟩;unfold Au;rw[ho,hod];simp only[Az hA hx,hs,hA p hp,hg,hn,hr,cond_true]
   |false=>
    rw[hr,cond_false]at h;refine⟨_,h,λ A' hA R' K'=>?_⟩;unfold Au;rw[ho,hod];simp only[Az hA hx,hs,hA p hp,hg,hn,hr,cond_true,cond_false]
  ·rename_i n e r' xs hg;obtain⟨hn,h⟩:=cs h;refine⟨_,h,λ A' hA R' K'=>?_⟩;unfold Au;rw[ho,hod];simp only[Az hA hx,hs,hA p hp,hg,hn,cond_true]
  ·cases h
 ·rename_i s hne hs;refine⟨_,h,λ A' hA R' K'=>?_⟩;unfold Au;rw[ho,hod];simp only[Az hA hx,hs]
 ·cases h
def Qza {c x y:Operand} {d:Nat} (ho:o.op = .pick c x y) (hod:o.dst=some d) (hc:RX A F c) (hx:RX A F x) (hy:RX A F y) (h:Au E o A Kc=some r):Loc E o A F Kc r:=by
 unfold Au at h;rw[ho,hod]at h;simp only at h;split at h
 ·rename_i b hs
  cases b with
  |true=>
   rw[cond_true]at h;split at h
   ·rename_i u hu;refine⟨_,h,λ A' hA R' K'=>?_⟩;unfold Au;rw[ho,hod];simp only[Az hA hc,Az hA hx,hs,hu,cond_true]
   ·cases h
  |false=>
   rw[cond_false]at h;split at h
   ·rename_i u hu;refine⟨_,h,λ A' hA R' K'=>?_⟩;unfold Au;rw[ho,hod];simp only[Az hA hc,Az hA hy,hs,hu,cond_false]
   ·cases h
 ·cases h
def RP (A:Ab) (F:List Nat):Operand→Prop
 |.tmp t=>t∈F∧∀ y∈parts (get A t).2,(∀ b v n,y = .bp b v n→H b∈F)∧(∀ p v i n,y = .ep p v i n→p∈F)∧(∀ p v pi e r,∀ xs:List (Ty.den r),∀ i n,y = .dp p v pi e r xs i n→p∈F)
 |_=>True
def Gza:∀ {l:List Lf},(∀ p∈Xxa l,p∈F)→∀ y∈l,(∀ b v n,y = .bp b v n→H b∈F)∧(∀ p v i n,y = .ep p v i n→p∈F)∧(∀ p v pi e r,∀ xs:List (Ty.den r),∀ i n,y = .dp p v pi e r xs i n→p∈F)
 |[],_,y,hy=>by simp at hy
 |z::l,h,y,hy=>by
  unfold Xxa at h;rcases Vl.1 hy with rfl|hy
  ·refine⟨λ b v n e=>h _ (Vx _ ?_),λ p v i n e=>h _ (Vx _ ?_),λ p v pi e0 r xs i n e=>h _ (Vx _ ?_)⟩<;>(subst e;simp[rdH])
  ·exact Gza (λ p hp=>h p (Vo _ hp)) y hy
def Tha {x:Operand} (h:∀ p∈rdP A x,p∈F):RP A F x:=by
 cases x with
 |tmp t=>
  have h:∀ p∈t::Xxa (parts (get A t).2),p∈F:=h;exact⟨h t (by simp),Gza λ p hp=>h p (Vd _ hp)⟩
 |_=>trivial
def RP.opT {x:Operand} {T:TypeId} (hA:Ag A A' F) (hx:RP A F x):Vf.opT E T A' x=Vf.opT E T A x:=by
 cases x with
 |tmp t=>show (bif Nat.blt t E.nt then some (get A' t).2 else none)=(bif Nat.blt t E.nt then some (get A t).2 else none);rw[hA t hx.1]
 |const v=>exact Az hA (x := .const v) trivial
 |func f=>rfl
 |global g=>rfl
def RP.live {x:Operand} {T:TypeId} {y:Lf} (hA:Ag A A' F) (hx:RP A F x) (h:Vf.opT E T A x=some (.one y)):V3 A' y=V3 A y:=by
 cases x with
 |tmp t=>
  have h:(bif Nat.blt t E.nt then some (get A t).2 else none)=some (.one y):=h;cases hb:Nat.blt t E.nt
  ·rw[hb]at h;simp at h
  rw[hb]at h;simp only[cond_true,Vc]at h;obtain⟨h1,h2,h3⟩:=hx.2 y (by rw[h];simp[parts])
  cases y with
  |bp b v n=>show Nat.beq (get A' (H b)).1 v=Nat.beq (get A (H b)).1 v;rw[hA _ (h1 b v n rfl)]
  |ep p v i n=>simp only[V3];rw[hA _ (h2 p v i n rfl)]
  |dp p v pi e r xs i n=>show Nat.beq (get A' p).1 v=Nat.beq (get A p).1 v;rw[hA _ (h3 p v pi e r xs i n rfl)]
  |_=>rfl
 |const v=>exact Z6 hA (H1 (x := .const v) (F:=F) trivial h)
 |func f=>exact Z6 hA (H1 (x := .func f) (F:=F) trivial h)
 |global g=>exact Z6 hA (H1 (x := .global g) (F:=F) trivial h)
def C9a {x:Operand} {d:Nat} (ho:o.op = .nilCheck x) (hod:o.dst=some d) (hx:RP A F x) (h:Au E o A Kc=some r):Loc E o A F Kc r:=by
 unfold Au at h;rw[ho,hod]at h;simp only at h;split at h
 ·rename_i y hs;obtain⟨hl,h⟩:=cs h;refine⟨_,h,λ A' hA R' K'=>?_⟩;unfold Au;rw[ho,hod];simp only[hx.opT hA,hs,hx.live hA hs,hl,cond_true]
 ·cases h
def Z7 {T:TypeId} {x:Operand} {j d:Nat} (ho:o.op = .fieldAddr T x j) (hod:o.dst=some d) (hx:RP A F x) (h:Au E o A Kc=some r):Loc E o A F Kc r:=by
 unfold Au at h;rw[ho,hod]at h;simp only at h;split at h
 ·rename_i ti y hT hs;split at h
  ·rename_i f hf;obtain⟨hl,h⟩:=cs h;refine⟨_,h,λ A' hA R' K'=>?_⟩;unfold Au;rw[ho,hod];simp only[hT,hx.opT hA,hs,hf,hx.live hA hs,hl,cond_true]
  ·cases h
 ·cases h
def Eva {t j d:Nat} (ho:o.op = .extract (.tmp t) j) (hod:o.dst=some d) (ht:t∈F) (h:Au E o A Kc=some r):Loc E o A F Kc r:=by
 unfold Au at h;rw[ho,hod]at h;simp only at h;cases hb:Nat.blt t E.nt
 ·rw[hb]at h;simp at h
 rw[hb,cond_true]at h;split at h
 ·rename_i vs hg;split at h
  ·rename_i ag l hn;split at h
   ·rename_i s hs
    cases hw:F8 l with
    |true=>
     rw[hw,cond_true]at h;refine⟨_,h,λ A' hA R' K'=>?_⟩;unfold Au;rw[ho,hod];simp only[hb,cond_true,hA t ht,hg,hn,hs,hw]
    |false=>
     rw[hw,cond_false]at h;refine⟨_,h,λ A' hA R' K'=>?_⟩;unfold Au;rw[ho,hod];simp only[hb,cond_true,hA t ht,hg,hn,hs,hw,cond_false]
   ·cases h
  ·cases h
 ·cases h
def Maa {T:TypeId} {t j d:Nat} (ho:o.op = .field T (.tmp t) j) (hod:o.dst=some d) (ht:t∈F) (h:Au E o A Kc=some r):Loc E o A F Kc r:=by
 unfold Au at h;rw[ho,hod]at h;simp only at h;split at h
 ·rename_i ti l hT hg;split at h
  ·rename_i off z ag hn;split at h
   ·rename_i s hs;obtain⟨hb,h⟩:=cs h
    cases hw:F8 ((l.drop off).take z) with
    |true=>
     rw[hw,cond_true]at h;refine⟨_,h,λ A' hA R' K'=>?_⟩;unfold Au;rw[ho,hod];simp only[hT,hA t ht,hg,hn,hs,hb,hw,cond_true]
    |false=>
     rw[hw,cond_false]at h;refine⟨_,h,λ A' hA R' K'=>?_⟩;unfold Au;rw[ho,hod];simp only[hT,hA t ht,hg,hn,hs,hb,hw,cond_true,cond_false]
   ·cases h
  ·cases h
 ·cases h
def Mba {T:TypeId} {d:Nat} (ho:o.op = .alloc T) (hod:o.dst=some d) (hH:H d∈F) (h:Au E o A Kc=some r):Loc E o A F Kc r:=by
 unfold Au at h;rw[ho,hod]at h;simp only at h;split at h
 ·rename_i ti hT;obtain⟨hb,h⟩:=cs h;refine⟨_,h,λ A' hA R' K'=>?_⟩;unfold Au;rw[ho,hod];simp only[hT,hb,cond_true,hA _ hH]
 ·cases h
def RL.als {s:Sv} (h:∀ y∈parts s,RL A F y):∀ y∈parts s,AL F y:=λ y hy=>(h y hy).al
def Rs (hA:Ag A A' F):∀ {l:List Lf},(∀ y∈l,AL F y)→Eh A' l=Eh A l
 |[],_=>rfl
 |y::l,h=>by
  have ih:=Rs hA (l:=l) (λ z hz=>h z (Vd _ hz))
  cases y with
  |al p v=>simp only[Eh,ih,Fq hA (h (.al p v) (by simp))]
  |_=>simp only[Eh,ih]
def Vya {T:TypeId} {x:Operand} {d:Nat} (ho:o.op = .box T x) (hod:o.dst=some d) (hH:H d∈F) (hx:RX A F x) (h:Au E o A Kc=some r):Loc E o A F Kc r:=by
 unfold Au at h;rw[ho,hod]at h;simp only at h;split at h
 ·rename_i ti s hT hs;have hal:=RL.als (Nq hx hs)
  cases hmv:mvO E x with
  |true=>
   rw[hmv,cond_true]at h;obtain⟨hb,h⟩:=cs h;refine⟨_,h,λ A' hA R' K'=>?_⟩;unfold Au;rw[ho,hod];simp only[hT,Az hA hx,hs,hmv,Rs hA hal,hb,cond_true,hA _ hH]
  |false=>
  rw[hmv,cond_false]at h;obtain⟨hb,h⟩:=cs h;refine⟨_,h,λ A' hA R' K'=>?_⟩;unfold Au;rw[ho,hod];simp only[hT,Az hA hx,hs,hmv,cond_false,Q4 hA hal,hb,cond_true,Of hA hal,hA _ hH]
 ·cases h
def R0a {T:TypeId} {x:Operand} {d:Nat} (ho:o.op = .load T x) (hod:o.dst=some d) (hx:RX A F x) (h:Au E o A Kc=some r):Loc E o A F Kc r:=by
 unfold Au at h;rw[ho,hod]at h;simp only at h;split at h
 ·rename_i ti b v off hT hs;obtain⟨h1,h2⟩:RL A F (.bp b v off):=H1 hx hs;split at h
  ·rename_i n m hg;obtain⟨hb,h⟩:=cs h
   have hle:off+ti.ty.sz≤m:=by
    simp only[Va]at hb;exact Vk hb.2
   have hcell:∀ i,i<ti.ty.sz→C b (off+i)∈F:=λ i hi=>(h2 m (by rw[hg]) (off+i) (by omega) (by omega)).1;split at h
   ·rename_i s hp;refine⟨_,h,λ A' hA R' K'=>?_⟩;unfold Au;rw[ho,hod];simp only[hT,Az hA hx,hs,hA _ h1,hg,hb,cond_true,Rc hA hcell,hp]
   ·cases h
  ·cases h
 ·rename_i ti p v i off hT hs;have hp:p∈F:=H1 hx hs;split at h
  ·rename_i n e r' xs hg;obtain⟨hb,h⟩:=cs h;split at h
   ·rename_i s hp2;refine⟨_,h,λ A' hA R' K'=>?_⟩;unfold Au;rw[ho,hod];simp only[hT,Az hA hx,hs,hA _ hp,hg,hb,cond_true,hp2]
   ·cases h
  ·cases h
 ·rename_i ti p v pi e0 r' xs i off hT hs;have hp:p∈F:=H1 hx hs;obtain⟨hb,h⟩:=cs h;split at h
  ·rename_i s hp2;refine⟨_,h,λ A' hA R' K'=>?_⟩;unfold Au;rw[ho,hod];simp only[hT,Az hA hx,hs,hA _ hp,hb,cond_true,hp2]
  ·cases h
 ·rename_i ti r' x' off hT hs;obtain⟨hb,h⟩:=cs h;split at h
  ·rename_i s hp2;refine⟨_,h,λ A' hA R' K'=>?_⟩;unfold Au;rw[ho,hod];simp only[hT,Az hA hx,hs,hb,cond_true,hp2]
  ·cases h
 ·cases h
def Rt (h:Ag A A' F):∀ {l:List Lf},(∀ p v pi e r,∀ xs:List (Ty.den r),Lf.da p v pi e r xs∈l→p∈F)→Gt A' l=Gt A l
 |[],_=>rfl
 |y::l,hp=>by
  have ih:=Rt h (l:=l) (λ p v pi e r xs hm=>hp p v pi e r xs (Vd _ hm))
  cases y with
  |da p v pi e r xs=>simp only[Gt,ih,h p (hp p v pi e r xs (by simp))]
  |_=>simp only[Gt,ih]
def Vza {l:List Lf} (h:∀ y∈l,RL A F y):∀ p v pi e r,∀ xs:List (Ty.den r),Lf.da p v pi e r xs∈l.map (kept A)→p∈F:=by
 intro p v pi e r xs hm;obtain⟨y,hy,he⟩:=Yw.1 hm
 cases y with
 |da p' v' pi' e' r' xs'=>
  simp only[kept,Lf.da.injEq]at he;have:=h _ hy;rw[he.1]at this;exact this
 |al q w=>
  exfalso;simp only[kept]at he
  have h1:∀ z:Lf,(∀ p v pi e r,∀ xs:List (Ty.den r),z ≠ .da p v pi e r xs)→∀ p v pi e r,∀ xs:List (Ty.den r),Le z ≠ .da p v pi e r xs:=by
   intro z hz p v pi e r xs
   cases z<;>simp[Le]
   exact λ e1 e2 e3 e4 e5 e6=>hz _ _ _ _ _ _ rfl
  refine h1 (Jb A (.al q w)) ?_ _ _ _ _ _ _ he;intro p v pi e r xs;simp only[Jb];split
  ·rename_i n _ _ _ _
   cases Nat.beq n w<;>simp
  ·rename_i n _ _ _ _
   cases Nat.beq n w<;>simp
  ·simp
 |_=>simp[kept]at he
def Nr:∀ {ts:List Ty} {l:List Lf} {A A':Ab},Ag A A' F→(∀ y∈l,AL F y)→Fy A' ts l=Fy A ts l
 |[],[],_,_,_,_=>rfl
 |[],_::_,_,_,_,_=>rfl
 |t::ts,[],_,_,_,_=>by cases t<;>rfl
 |t::ts,x::l,A,A',hA,hy=>by
  have hx:AL F x:=hy x (by simp);have hl:∀ y∈l,AL F y:=λ y hm=>hy y (Vd _ hm)
  cases t<;>simp only[Fy,Fq hA hx,Esa hA hx,Eta hA hx,Nr (hA.ups (U:=Dya x)) hl,Nr (hA.ups (U:=Sf A x)) hl]
def Mca (hA:Ag A A' F):∀ {l:List Lf},(∀ y∈l,AL F y)→Uya A' l=Uya A l
 |[],_=>rfl
 |y::l,h=>by simp only[Uya,Fq hA (h y (by simp)),Mca hA (λ z hz=>h z (Vd _ hz))]
def R1a {x:Operand} {s:Sv} (hA:Ag A A' F) (hal:∀ y∈parts s,AL F y):Qr A' x s (Uya (ups A' (gone x s)) (parts s))=Qr A x s (Uya (ups A (gone x s)) (parts s)):=by
 have hA1:=hA.ups (U:=gone x s);unfold Qr;rw[Mca hA1 hal,Nr hA1 hal]
def Mda {T:TypeId} {x y:Operand} (ho:o.op = .store T x y) (hod:o.dst=none) (hx:RX A F x) (hy:RX A F y) (h:Au E o A Kc=some r):Loc E o A F Kc r:=by
 unfold Au at h;rw[ho,hod]at h;simp only at h;split at h
 ·rename_i ti b v off s hT hs hs2;obtain⟨h1,h2⟩:RL A F (.bp b v off):=H1 hx hs;have hal:=RL.als (Nq hy hs2)
  cases hmv:mvO E y with
  |true=>
   rw[hmv,cond_true]at h;split at h
   ·rename_i m vs hgive;split at h
    ·rename_i n hd hg;obtain⟨hb,h⟩:=cs h;refine⟨_,h,λ A' hA R' K'=>?_⟩;unfold Au;rw[ho,hod];simp only[hT,Az hA hx,hs,Az hA hy,hs2,hmv,R1a hA hal,hgive,hA _ h1,hg,hb,cond_true]
    ·cases h
   ·cases h
  |false=>
  rw[hmv,cond_false]at h;split at h
  ·rename_i n m hg;obtain⟨hb,h⟩:=cs h;refine⟨_,h,λ A' hA R' K'=>?_⟩;unfold Au;rw[ho,hod];simp only[hT,Az hA hx,hs,Az hA hy,hs2,hmv,cond_false,hA _ h1,hg,Q4 hA hal,Of hA hal,Rt (hA.ups (U:=Iq A (parts s)++gone y s)) (Vza (Nq hy hs2)),hb,cond_true]
  ·cases h
 ·rename_i ti p v i off s hT hs hs2;have hp:p∈F:=H1 hx hs;have hal:=RL.als (Nq hy hs2);split at h
  ·rename_i n e r' xs hg;obtain⟨hb,h⟩:=cs h;split at h
   ·rename_i z hz;refine⟨_,h,λ A' hA R' K'=>?_⟩;unfold Au;rw[ho,hod];simp only[hT,Az hA hx,hs,Az hA hy,hs2,hA _ hp,hg,Q4 hA hal,Gya hA hal,hb,cond_true,Of hA hal,hz]
   ·cases h
  ·cases h
 ·rename_i ti p v q e r1 xs i off s hT hs hs2;have hp:p∈F:=H1 hx hs;have hal:=RL.als (Nq hy hs2);split at h
  ·rename_i m us hgive;split at h
   ·rename_i n E0 R0 XS hg;obtain⟨hb,h⟩:=cs h;split at h
    ·rename_i z hz;split at h
     ·rename_i XS' hput;refine⟨_,h,λ A' hA R' K'=>?_⟩;unfold Au;rw[ho,hod];simp only[hT,Az hA hx,hs,Az hA hy,hs2,M8a hA hal,hgive,hA _ hp,hg,hb,cond_true,hz,hput]
     ·cases h
    ·cases h
   ·cases h
  ·cases h
 ·cases h
end
end

end Go.Proofs.YtcpligincipmhaaGreat.Vf
