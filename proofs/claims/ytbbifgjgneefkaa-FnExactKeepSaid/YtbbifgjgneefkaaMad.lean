import Derived.Test.YtbbifgjgneefkaaMac
import Derived.Laws.CopyRow
set_option linter.all false
namespace Go.Proofs.Ytbbifgjgneefkaa.Vf
open Go
open List (length getD)
open Int (toNat)
open Go.IntKind (wrap)
open BitVec (ofInt)
def Ve:=@List.mem_cons_of_mem
def Vk:=@List.mem_cons
def Vm:=@List.mem_append
def Vs:=@List.length_nil
def Vz:=@List.mem_singleton
def We:=@List.getElem?_eq_some_iff
def Yb:=@List.nodup_append
def Yd:=@List.getElem?_append_right
def Yf:=@List.getElem?_append_left
def Yh:=@Array.length_toList
def Yl:=@List.length_set
def Ys:=@List.nodup_cons
def Zj:=@Nat.le_succ
def Zk:=@List.mem_of_mem_drop
def Zn:=@List.map_congr_left
def Oqa:=@List.size_toArray
def Oua:=@List.map_map
def Ova:=@List.getElem?_eq_none
def P4a:=@Nat.le_of_eq
def P9a:=@List.length_eq_one_iff
def Pfa:=@List.drop_take
def Pha:=@List.getElem?_toArray
def Pja:=@List.mem_of_mem_take
def Pqa:=@List.Sublist.trans
def Q6a:=@Option.map_some

def pth:Sv→Nat→List Nat
 |.agg _,n=>[n]
 |_,_=>[]
def M3 (s:Sv) (u:Value) (us:List Value):Prop:=match s with
 |.agg _=>u = .agg us.toArray
 |_=>us=[u]
def Frz (g g':Nat→Nat×Sv):Prop:=∀ p,g' p=g p∨∃ n e r,∃ xs:List (Ty.den r),g p=(n,.one (.own e r xs))∧g' p=(n,.one (.fz e r xs))
structure Pb (X:Cx) (S S':Sit):Prop where
 w:S'.w=S.w
 ph:S'.ph=S.ph
 bb:S'.bb=S.bb
 later:Ci S S'
 tm:∀ n q k,S.O k = .tm n q→S'.O k = .tm n q
 pl:∀ l p k,S.O k = .pl l p→p≠[]→S'.O k = .pl l p
 bx:∀ b k,S.O k = .bx b→S'.O k = .bx b
 no:∀ k,S.O k = .no→S'.O k = .no
section
variable {X:Cx} {S S' S'':Sit} {a:Act} {E:En} {A:Ab} {o:Oper} {R:Type} {Kc:List Up→Option R} {r:R}
def Ci.refl (S:Sit):Ci S S:=⟨λ _=>Vo _,λ _ _=>rfl,λ p v e r xs' h _=>⟨xs',h,rfl⟩,λ _ _=>rfl,λ k h=>⟨h,rfl⟩,Ci.box_of (λ _ _ _ h=>h) (λ _ _ h=>⟨h,rfl⟩),λ p _ hd=>⟨hd,λ _ _ _ h=>h,λ k hk=>⟨.inl hk,rfl⟩⟩,λ _ _=>rfl⟩
def Ci.trans (L:Ci S S') (L':Ci S' S''):Ci S S'' where
 ver:=λ p=>Yp (L.ver p) (L'.ver p)
 ph:=λ p e=>by
  have e1:(S'.g p).1=(S.g p).1:=Yo (e ▸ L'.ver p) (L.ver p);rw[L'.ph p (e.trans e1.symm),L.ph p e1]
 own:=λ p v e r xs' h hv=>by
  have e1:(S'.g p).1=v:=Yo (by have:=L'.ver p;rw[h]at this;exact this) (hv ▸ L.ver p);obtain⟨ys,hy,hl⟩:=L'.own p v e r xs' h e1;obtain⟨zs,hz,hl'⟩:=L.own p v e r ys hy hv;exact⟨zs,hz,hl'.trans hl⟩
 bb:=λ b e=>by
  have e1:(S'.g (H b)).1=(S.g (H b)).1:=Yo (e ▸ L'.ver _) (L.ver _);rw[L'.bb b (e.trans e1.symm),L.bb b e1]
 fz:=λ k h=>⟨(L'.fz k (L.fz k h).1).1,(L'.fz k (L.fz k h).1).2.trans (L.fz k h).2⟩
 box:=λ b n e hh hO=>by
  have e1:(S'.g (H b)).1=(S.g (H b)).1:=Yo (e ▸ L'.ver _) (L.ver _);obtain⟨d1,d2,d3⟩:=L.box b n e1 hh hO;rw[← L.bb b e1]at d2;obtain⟨d4,d5,d6⟩:=L'.box b n (e.trans e1.symm) d1 d2;rw[L.bb b e1]at d5 d6;refine⟨d4,d5,λ c e' f hc=>?_⟩;obtain⟨c1,c2,c3,c4⟩:=d3 c e' f hc;obtain⟨c5,c6,c7,c8⟩:=d6 c1 e' f c2;exact⟨c5,c6,c7.trans c3,λ j hj=>(c8 j hj).trans (c4 j hj)⟩
 bor:=λ p e hd=>by
  have e1:(S'.g p).1=(S.g p).1:=Yo (e ▸ L'.ver p) (L.ver p);obtain⟨d1,d2,d3⟩:=L.bor p e1 hd;obtain⟨d4,d5,d6⟩:=L'.bor p (e.trans e1.symm) d1;refine⟨d4,λ E R XS h=>d2 E R XS (d5 E R XS h),λ k hk=>?_⟩;obtain⟨d7,d8⟩:=d3 k hk;rcases d7 with d7|d7
  ·exact⟨(d6 k d7).1,(d6 k d7).2.trans d8⟩
  ·exact⟨.inr (L'.fz k d7).1,(L'.fz k d7).2.trans d8⟩
 io:=λ p hp=>(L'.io p hp).trans (L.io p hp)
def Pb.refl (S:Sit):Pb X S S:=⟨rfl,rfl,rfl,.refl S,λ _ _ _ h=>h,λ _ _ _ h _=>h,λ _ _ h=>h,λ _ h=>h⟩
def Pb.trans (h:Pb X S S') (h':Pb X S' S''):Pb X S S'':=
 ⟨h'.w.trans h.w,h'.ph.trans h.ph,h'.bb.trans h.bb,h.later.trans h'.later,λ n q k e=>h'.tm n q k (h.tm n q k e),λ l p k e hp=>h'.pl l p k (h.pl l p k e hp) hp,λ b k e=>h'.bx b k (h.bx b k e),λ k e=>h'.no k (h.no k e)⟩
def Sn {p:Nat} {e:TypeId} {r':Ty} {xs:List r'.den} (K:Ah X S a) (hp:(S.g p).2 = .one (.own e r' xs)):Pb X S (frS S p e r' xs):=by
 have hown:Ch X.P S.O S.w (.pl p []) e r' xs (S.ph p):=by have:=K.at_ p;rw[hp]at this;exact this
 have other:∀ k o,S.O k=o→o ≠ .pl p []→(frS S p e r' xs).O k=o:=λ k o h ho=>by
  show (if S.O k = .pl p [] then Lab.fz else S.O k)=o;rw[if_neg (by rw[h];exact ho),h]
 exact⟨rfl,rfl,rfl,Sa S p e r' xs hp,λ n q k h=>other k _ h (by simp),λ l q k h hq=>other k _ h (by simp[hq]),λ b k h=>other k _ h (by simp),λ k h=>other k _ h (by simp)⟩
def Qn:∀ (l:List Lf) {S:Sit} {A':Ab},Ah X S a→S.g=get A'→Frz (get A) (get A')→∃ S',Ah X S' a∧S'.g=get (ups A' (G0 A l))∧Pb X S S'∧Frz (get A) S'.g∧
  ∀ p v,Lf.al p v∈l→∀ n e r,∀ xs:List (Ty.den r),get A p=(n,.one (.own e r xs))→n=v→S'.g p=(n,.one (.fz e r xs))
 |[],S,A',K,hg,hf=>⟨S,K,hg,.refl S,by rw[hg];exact hf,by simp⟩
 |x::l,S,A',K,hg,hf=>by
  have first:∃ S1,Ah X S1 a∧S1.g=get (ups A' (N3 A x))∧Pb X S S1∧Frz (get A) S1.g∧∀ p v,x=Lf.al p v→∀ n e r,∀ xs:List (Ty.den r),get A p=(n,.one (.own e r xs))→n=v→S1.g p=(n,.one (.fz e r xs)):=by
   cases x with
   |al p v=>
    by_cases hown:∃ e r,∃ xs:List (Ty.den r),get A p=(v,.one (.own e r xs))
    ·obtain⟨e,r',xs,hp⟩:=hown
     have hc:N3 A (.al p v)=[⟨p,true,.one (.fz e r' xs)⟩]:=by simp[N3,hp]
     rw[hc]
     have hfix:∀ S1:Sit,S1.g=get (ups A' [⟨p,true,.one (.fz e r' xs)⟩])→S1.g p=(v,.one (.fz e r' xs))→∀ p' v',Lf.al p v=Lf.al p' v'→∀ n e r,∀ xs:List (Ty.den r),get A p'=(n,.one (.own e r xs))→n=v'→S1.g p'=(n,.one (.fz e r xs)):=by
      intro S1 _ h1 p' v' h2 n e2 r2 xs2 h3 h4;cases h2;rw[hp]at h3;cases h3;exact h1
     rcases hf p with h0|⟨n,e2,r2,xs2,h1,h2⟩
     ·have hSp:S.g p=(v,.one (.own e r' xs)):=by rw[hg,h0,hp]
      have hg1:(frS S p e r' xs).g=get (ups A' [⟨p,true,.one (.fz e r' xs)⟩]):=by
       show upd S.g p _=_;rw[Jc,← hg]
      refine⟨_,(Nr K (by rw[hSp])).1,hg1,Sn K (by rw[hSp]),λ q=>?_,hfix _ hg1 (by show upd S.g p _ p=_;rw[A8,hSp])⟩
      by_cases hq:q=p
      ·subst hq;exact .inr ⟨v,e,r',xs,hp,by show upd S.g q _ q=_;rw[A8,hSp]⟩
      ·have:(frS S p e r' xs).g q=get A' q:=by show upd S.g p _ q=_;rw[Aa _ _ hq,hg]
       rw[this];exact hf q
     ·rw[hp]at h1;cases h1
      have hg1:S.g=get (ups A' [⟨p,true,.one (.fz e r' xs)⟩]):=by
       rw[Jc,hg];funext q
       by_cases hq:q=p
       ·subst hq;rw[A8,h2]
       ·rw[Aa _ _ hq]
      exact⟨S,K,hg1,.refl S,by rw[hg];exact hf,hfix S hg1 (by rw[hg,h2])⟩
    ·have hc:N3 A (.al p v)=[]:=by
      simp only[N3];split
      ·rename_i n e r' xs hp;cases hb:Nat.beq n v
       ·rfl
       have:n=v:=by simpa using hb
       subst this;exact absurd ⟨e,r',xs,hp⟩ hown
      ·rfl
     rw[hc];refine⟨S,K,hg,.refl S,by rw[hg];exact hf,λ p' v' h1 n e r xs h2 h3=>?_⟩;cases h1;subst h3;exact absurd ⟨e,r,xs,h2⟩ hown
   |_=>exact⟨S,K,hg,.refl S,by rw[hg];exact hf,by simp⟩
  obtain⟨S1,K1,hg1,E1,F1,P1⟩:=first
  obtain⟨S2,K2,hg2,E2,F2,P2⟩:=Qn l K1 hg1 (by rw[← hg1];exact F1);refine⟨S2,K2,by rw[hg2,G0,Ae],E1.trans E2,F2,λ p v hm n e r xs h1 h2=>?_⟩;rcases Vk.1 hm with hx|hl
  ·have h3:=P1 p v hx.symm n e r xs h1 h2;rcases F2 p with h4|⟨n',e',r',xs',h4,h5⟩
   ·-- it was read by all already
    have hv:=E2.later.ver p;have hA:=h4;rw[h1]at hA;obtain⟨ys,hy,_⟩:=E2.later.own p n e r xs hA (by rw[h3]);rw[h3]at hy;simp at hy
   ·rw[h1]at h4;cases h4;exact h5
  ·exact P2 p v hl n e r xs h1 h2
def Cga (hE:Fo X E) (K:Ah X S a) (hg:S.g=get A) {T:TypeId} {y:Operand} {s:Sv} (hs:opT E T A y=some s) (hnt:∀ vs,s ≠ .tup vs) (i:Nat):
  ∃ S',Ah X S' a∧S'.g=get (ups A (G0 A (parts s)++gone y s))∧S'.w=S.w∧S'.bb=S.bb∧S'.ph=S.ph∧Ci S S'∧(∀ b k,S.O k = .bx b→S'.O k = .bx b)∧(∀ b,(S'.g (H b)).1=(S.g (H b)).1∧∀ n,(S.g (H b)).2 = .one (.hd n)→S'.g (H b)=S.g (H b))∧
   (∀ n q x u,Af X.P S (.tm n q) x u→Af X.P S' (.tm n q) x u)∧
   ∃ us,M3 s (a.eval y) us∧A5 X.P S' (λ n => .tm i (pth s n)) 0 ((parts s).map (Gk A)) us:=by
 obtain⟨S1,K1,hg1,E1,F1,P1⟩:=Qn (X:=X) (a:=a) (A:=A) (parts s) K hg (λ p => .inl rfl)
 have keep:∀ (f:Nat→Lab) (hf:∀ n k,S.O k=f n→S1.O k=f n) (l:List Lf),(∀ x∈l,x∈parts s)→∀ j us,A5 X.P S f j l us→A5 X.P S1 f j (l.map (Gk A)) us:=by
  intro f hf l
  induction l with
  |nil=>
   intro _ j us h
   cases us with
   |nil=>trivial
   |cons=>exact h.elim
  |cons x l ih=>
   intro hm j us h
   cases us with
   |nil=>exact h.elim
   |cons u us=>
    refine⟨?_,ih (λ z hz=>hm z (Ve _ hz)) _ _ h.2⟩;have h1:Af X.P S (f j) x u:=h.1
    cases x with
    |al p v=>
     show Af X.P S1 (f j) (Hn (G5 A (.al p v))) u;simp only[G5];split
     ·rename_i n e r' xs hp;cases hb:Nat.beq n v
      ·exact trivial
      have hnv:n=v:=by simpa using hb
      subst hnv;rw[cond_true];show Af X.P S1 (f j) (.fz e r' xs) u;have h2:=P1 p n (hm _ (by simp)) n e r' xs hp rfl;have h3:=K1.at_ p;rw[h2,E1.ph,← h1.2 (by rw[hg,hp])]at h3;exact Af.relab (lab := .pl p []) rfl h3
     ·rename_i n e r' xs hp;cases hb:Nat.beq n v
      ·exact trivial
      have hnv:n=v:=by simpa using hb
      subst hnv;rw[cond_true];show Af X.P S1 (f j) (.fz e r' xs) u;have h3:=K.at_ p;rw[hg,hp,← h1.2 (by rw[hg,hp])]at h3;have h4:Af X.P S (.pl p []) (.fz e r' xs) u:=h3;exact(Af.relab (lab':=f j) rfl h4).later E1.later (λ k hk=>⟨hf j k hk,by rw[E1.w]⟩)
     ·exact trivial
    |_=>exact h1.later E1.later (λ k hk=>⟨hf j k hk,by rw[E1.w]⟩)
 have base:∀ n q x u,Af X.P S (.tm n q) x u→Af X.P S1 (.tm n q) x u:=λ n q x u h=>h.later E1.later (λ k hk=>⟨E1.tm n q k hk,by rw[E1.w]⟩)
 have heads:∀ b,(S1.g (H b)).1=(S.g (H b)).1∧∀ n,(S.g (H b)).2 = .one (.hd n)→S1.g (H b)=S.g (H b):=λ b=>by
  rcases F1 (H b) with h1|⟨n',e,r',xs,h1,h2⟩
  ·exact⟨by rw[h1,hg],λ n _=>by rw[h1,hg]⟩
  ·exact⟨by rw[hg,h1,h2],λ n h=>by rw[hg,h1]at h;cases h⟩
 have calmOwn:∀ l:List Lf,Cm l=false→Cm (l.map (Gk A))=false:=by
  intro l
  induction l with
  |nil=>intro;rfl
  |cons x l ih=>
   intro h
   have hc:∀ z:Lf,Cm (Hn z::l.map (Gk A))=Cm (l.map (Gk A)):=by intro z;cases z<;>rfl
   cases x with
   |own e r xs=>simp[Cm]at h
   |opn e r xs i b v=>simp[Cm]at h
   |par e r xs m=>simp[Cm]at h
   |al p v=>rw[Yc];exact(hc _).trans (ih (by simpa[Cm] using h))
   |_=>exact ih (by simpa[Cm] using h)
 have finish:∀ (us:List Value),M3 s (a.eval y) us→(Hr s=false→∃ f,A5 X.P S1 f 0 ((parts s).map (Gk A)) us)→
   (∀ t,y = .tmp t→Hr s=true→A5 X.P S1 (λ n => .pl t (pth s n)) 0 ((parts s).map (Gk A)) us)→((∀ t,y ≠ .tmp t)→A5 X.P S1 (λ n => .tm i (pth s n)) 0 ((parts s).map (Gk A)) us)→
   ∃ S',Ah X S' a∧S'.g=get (ups A (G0 A (parts s)++gone y s))∧S'.w=S.w∧S'.bb=S.bb∧S'.ph=S.ph∧Ci S S'∧(∀ b k,S.O k = .bx b→S'.O k = .bx b)∧(∀ b,(S'.g (H b)).1=(S.g (H b)).1∧∀ n,(S.g (H b)).2 = .one (.hd n)→S'.g (H b)=S.g (H b))∧
   (∀ n q x u,Af X.P S (.tm n q) x u→Af X.P S' (.tm n q) x u)∧
   ∃ us,M3 s (a.eval y) us∧A5 X.P S' (λ n => .tm i (pth s n)) 0 ((parts s).map (Gk A)) us:=by
  intro us hus h1 h2 h3
  cases ho:Hr s with
  |false=>
   obtain⟨f,h4⟩:=h1 ho
   have hgo:gone y s=[]:=by unfold gone;split<;>simp[ho]
   have hp:Cm (parts s)=false:=by
    cases s with
    |one x=>exact ho
    |agg l=>exact ho
    |tup vs=>exact absurd rfl (hnt vs)
   exact⟨S1,K1,by rw[hgo,Ye];exact hg1,E1.w,E1.bb,E1.ph,E1.later,E1.bx,heads,base,us,hus,h4.relab (calmOwn _ hp)⟩
  |true=>
   by_cases hy:∃ t,y = .tmp t
   ·obtain⟨t,rfl⟩:=hy;obtain⟨K2,g1,g2⟩:=Hh K1 t i
    have hgo:gone (.tmp t) s=[⟨t,false,.one .dead⟩]:=by simp[gone,ho]
    have htn:t<1000:=by
     rcases H0 hE K hg hs with⟨t',e,ht,_⟩|⟨hn,_⟩
     ·cases e;exact Wi ht K.nt
     ·exact absurd rfl (hn t)
    refine⟨_,K2,?_,E1.w,E1.bb,E1.ph,E1.later.trans (Gn S1 t i),λ b k hk=>(Ec (by simp[E1.bx b k hk])).trans (E1.bx b k hk),λ b=>?_,λ n q x u h=>g2 n q x u (base n q x u h),us,hus,(h2 t rfl ho).imp (λ n x u h=>g1 _ x u h)⟩
    ·rw[hgo,Ae,A7,← hg1];rfl
    ·have:(Gw S1 t i).g (H b)=S1.g (H b):=Aa _ _ (λ e=>by have h1:=Lea b;rw[e]at h1;exact absurd htn (Nat.not_lt.2 h1));rw[this];exact heads b
   ·have hy':∀ t,y ≠ .tmp t:=λ t e=>hy ⟨t,e⟩
    have hgo:gone y s=[]:=by
     unfold gone;split
     ·exact absurd rfl (hy' _)
     ·rfl
    exact⟨S1,K1,by rw[hgo,Ye];exact hg1,E1.w,E1.bb,E1.ph,E1.later,E1.bx,heads,base,us,hus,h3 hy'⟩
 rcases H0 hE K hg hs with⟨t,rfl,ht,hst,het,hok⟩|⟨hnt',x,rfl,hx⟩
 ·cases s with
  |tup vs=>exact absurd rfl (hnt vs)
  |one x=>
   have hok':A5 X.P S (λ _ => .pl t []) 0 [x] [a.eval (.tmp t)]:=⟨hok,trivial⟩;refine finish [a.eval (.tmp t)] rfl (λ ho=>?_) (λ t' e ho=>?_) (λ h=>absurd rfl (h t))
   ·have:=keep (λ _ => .tm 0 []) (λ n k hk=>E1.tm _ _ k hk) [x] (by simp[parts]) 0 _ (hok'.relab ho);exact⟨_,this⟩
   ·cases e
    have hx:G0 A (parts (.one x))=[]∧Gk A x=x:=by cases x<;>first|(simp[Hr,Cm]at ho;done)|exact⟨rfl,rfl⟩
    have hS1:S1.g t=(S.g t):=by
     have:=hg1;rw[hx.1]at this;rw[this,hg];rfl
    have hnow:=K1.at_ t;rw[hS1,← hst,E1.ph,← het]at hnow;refine⟨?_,trivial⟩;show Af X.P S1 _ (Gk A x) _;rw[hx.2];exact hnow
  |agg l=>
   obtain⟨us,e1,hl⟩:=hok;refine finish us e1 (λ ho=>?_) (λ t' e ho=>?_) (λ h=>absurd rfl (h t))
   ·have:=keep (λ _ => .tm 0 []) (λ n k hk=>E1.tm _ _ k hk) l (by simp[parts]) 0 us (hl.relab ho);exact⟨_,this⟩
   ·cases e;exact keep (λ n => .pl t [n]) (λ n k hk=>E1.pl t [n] k hk (by simp)) l (by simp[parts]) 0 us hl
 ·refine finish [a.eval y] rfl (λ ho=>?_) (λ t e=>absurd e (hnt' t)) (λ _=>?_)
  ·exact⟨_,keep (λ _ => .tm i []) (λ n k hk=>E1.tm _ _ k hk) [x] (by simp[parts]) 0 [a.eval y] ⟨hx _,trivial⟩⟩
  ·exact keep (λ _ => .tm i []) (λ n k hk=>E1.tm _ _ k hk) [x] (by simp[parts]) 0 [a.eval y] ⟨hx _,trivial⟩
end

def Ib (g:Nat→Nat×Sv) (b j:Nat) (l:List Lf):Nat→Nat×Sv:=λ p=>if C b j≤p∧p<C b j+l.length then ((g p).1+1,.one (l.getD (p-C b j) .dead)) else g p
def G8 (ph:Nat→Value) (b j:Nat) (us:List Value):Nat→Value:=λ p=>if C b j≤p∧p<C b j+us.length then us.getD (p-C b j) undef else ph p
def Fq (b:Nat):∀ (l:List Lf) (A:Ab) (j:Nat),get (ups A (Bi b j l))=Ib (get A) b j l
 |[],A,j=>by
  funext p;simp only[Bi,ups,Ib,Vs,Yt];rw[if_neg (by omega)]
 |x::l,A,j=>by
  show get (ups (up A ⟨C b j,false,.one x⟩) (Bi b (j+1) l))=_;rw[Fq b l _ (j+1),Hg];have hc:C b (j+1)=C b j+1:=rfl;funext p;unfold Ib;rw[hc];simp only[Vg]
  by_cases h1:p=C b j
  ·subst h1;rw[if_neg (by omega),if_pos (by omega),A8];simp
  ·rw[Aa _ _ h1]
   by_cases h2:C b j+1≤p∧p<C b j+1+l.length
   ·rw[if_pos h2,if_pos (by omega)];rw[show p-C b j=(p-(C b j+1))+1 by omega,List.getD_cons_succ]
   ·rw[if_neg h2,if_neg (by omega)]
def P5 (b off:Nat):Nat→List Nat→Option Lab:=λ n q=>if n=0 then (match q with
 |[]=>some (.pl (C b off) [])
 |[j]=>some (.pl (C b (off+j)) [])
 |_=>none) else none
section
variable {X:Cx} {S S':Sit} {a:Act} {E:En} {A:Ab} {o:Oper} {R:Type} {Kc:List Up→Option R} {r:R}
def A5.at {P:Program} {f:Nat→Lab}:∀ {j:Nat} {xs:List Lf} {us:List Value} (i:Nat),A5 P S f j xs us→i<xs.length→∃ x u,xs.getD i .dead=x∧us.getD i undef=u∧us[i]? = some u∧Af P S (f (j+i)) x u
 |_,[],_,i,_,hi=>by simp at hi
 |j,x::xs,u::us,0,h,_=>⟨x,u,rfl,rfl,rfl,h.1⟩
 |j,x::xs,u::us,i+1,h,hi=>by
  obtain⟨x',u',h1,h2,h3,h4⟩:=h.2.at i (by simpa using hi);exact⟨x',u',by simpa using h1,by simpa using h2,by simpa using h3,by rw[show j+(i+1)=j+1+i by omega];exact h4⟩
 |_,_::_,[],_,h,_=>h.elim
def D9 {b b' off n:Nat} (h:off+n≤999):¬ (C b off≤H b'∧H b'<C b off+n):=by unfold C H;omega
def Kf {b b' off n j:Nat} (h:off+n≤999) (hj:j<999) (hne:b'≠b):¬ (C b off≤C b' j∧C b' j<C b off+n):=by unfold C;omega
def H8 {b off n t:Nat} (ht:t<1000):¬ (C b off≤t∧t<C b off+n):=by unfold C;omega
def Qo (S:Sit) (hb:Nat→List Nat→Option Lab) (b off:Nat) (m:List Lf) (us:List Value) (w:World):Sit:=
 { S with O:=atO S.O hb,g:=Ib S.g b off m,ph:=G8 S.ph b off us,w:=w }
def Ah.cells (K:Ah X S a) {b n off:Nat} {m:List Lf} {us:List Value} {q:Nat→List Nat} {c:Array Value} {e:TypeId} (hh:(S.g (H b)).2 = .one (.hd n)) (hoff:off+m.length≤n)
  (hc:S.w.heap[(S.bb b).1]? = some (.cells c e (0,0))) (hl:A5 X.P S (λ j => .tm 0 (q j)) 0 m us) (hq:∀ j,j<m.length→P5 b off 0 (q j)=some (.pl (C b (off+j)) [])) (hnh:∀ k,.hd k∉m):
  Ah X (Qo S (P5 b off) b off m us (S.w.setRow (S.bb b).1 (c.toList.take ((S.bb b).2+off)++us++c.toList.drop ((S.bb b).2+off+us.length)).toArray)) a∧
  Ci S (Qo S (P5 b off) b off m us (S.w.setRow (S.bb b).1 (c.toList.take ((S.bb b).2+off)++us++c.toList.drop ((S.bb b).2+off+us.length)).toArray)):=by
 obtain⟨hn,c0,e0,h1,h2,h3,h4⟩:=K.box b n hh;rw[hc]at h1;cases h1;have hlen:=hl.len;generalize hw:S.w.setRow (S.bb b).1 (c.toList.take ((S.bb b).2+off)++us++c.toList.drop ((S.bb b).2+off+us.length)).toArray=w'
 have hnew:w'.heap[(S.bb b).1]? = some (.cells (c.toList.take ((S.bb b).2+off)++us++c.toList.drop ((S.bb b).2+off+us.length)).toArray e (0,0)):=by rw[← hw];exact setRow_heap _ _ _ _ _ _ hc
 have hold:∀ k,S.O k ≠ .bx b→w'.heap[k]? = S.w.heap[k]? := λ k hk=>by
  rw[← hw];exact setRow_other _ _ _ _ (λ e=>hk (e ▸ h2))
 have hsz:(c.toList.take ((S.bb b).2+off)++us++c.toList.drop ((S.bb b).2+off+us.length)).toArray.size=c.size:=by
  simp only[Oqa,Vh,Vl,Vx,Yh];omega
 have hcell:∀ i,(i<(S.bb b).2+off∨(S.bb b).2+off+us.length≤i)→(c.toList.take ((S.bb b).2+off)++us++c.toList.drop ((S.bb b).2+off+us.length)).toArray[i]? = c[i]?:=by
  intro i hi
  have ht:(c.toList.take ((S.bb b).2+off)).length=(S.bb b).2+off:=by rw[Vl,Yh];omega
  rw[Pha,← Yv];rcases hi with hi|hi
  ·rw[Vj,Yf (by omega),Wd,if_pos hi]
  ·rw[Yd (by rw[Vh,ht];omega),Vh,ht,Xs];congr 1;omega
 have hcell2:∀ i,i<us.length→(c.toList.take ((S.bb b).2+off)++us++c.toList.drop ((S.bb b).2+off+us.length)).toArray[(S.bb b).2+off+i]? = us[i]?:=by
  intro i hi
  have ht:(c.toList.take ((S.bb b).2+off)).length=(S.bb b).2+off:=by rw[Vl,Yh];omega
  rw[Pha,Yf (by rw[Vh,ht];omega),Yd (by omega),ht];congr 1;omega
 have gout:∀ p,¬ (C b off≤p∧p<C b off+m.length)→Ib S.g b off m p=S.g p∧G8 S.ph b off us p=S.ph p:=λ p hp=>by
  unfold Ib G8;rw[if_neg hp,if_neg (by rw[hlen];exact hp)];exact⟨rfl,rfl⟩
 have phio:∀ p,3001000≤p→G8 S.ph b off us p=S.ph p:=λ p hp=>by
  have h3:=(K.rgn b n hh).2.2.2;have h9:=(K.box b n hh).1;refine(gout p (λ hin=>?_)).2
  have:C b off≤3000999:=by unfold C;omega
  have:C b off+m.length≤3001000:=by unfold C;omega
  omega
 have L:Ci S (Qo S (P5 b off) b off m us w'):=by
  refine⟨λ p=>?_,λ p hp=>?_,λ p v e r xs' hp hv=>?_,λ _ _=>rfl,λ k hk=>⟨Al hk (by simp),hold k (by simp[hk])⟩,λ b' m' hv hb' hO=>?_,λ p hp hd=>?_,λ p hp=>phio p hp⟩
  ·show (S.g p).1≤(Ib S.g b off m p).1;unfold Ib
   split<;>simp
  ·show G8 S.ph b off us p=S.ph p
   by_cases hin:C b off≤p∧p<C b off+m.length
   ·have:(Ib S.g b off m p).1=(S.g p).1:=hp;unfold Ib at this;rw[if_pos hin]at this;simp at this
   ·exact(gout p hin).2
  ·have hp':Ib S.g b off m p=(v,.one (.own e r xs')):=hp
   by_cases hin:C b off≤p∧p<C b off+m.length
   ·unfold Ib at hp';rw[if_pos hin]at hp';simp only[Vu]at hp';omega
   ·rw[(gout p hin).1]at hp';exact⟨xs',hp',rfl⟩
  ·refine⟨?_,Al hO (by simp),λ c1 e1 f1 hc1=>?_⟩
   ·show (Ib S.g b off m (H b')).2=_;rw[(gout _ (D9 (by omega))).1];exact hb'
   ·by_cases hbb:b'=b
    ·subst hbb;have hc1':S.w.heap[(S.bb b').1]? = some (.cells c1 e1 f1):=hc1;rw[hc]at hc1';cases hc1';rw[hh]at hb';cases hb';exact⟨_,hnew,hsz,λ j hj=>hcell j (by rw[hlen];have hj':j<(S.bb b').2∨(S.bb b').2+n≤j:=hj;omega)⟩
    ·exact⟨c1,(hold _ (by rw[hO];simp[hbb])).trans hc1,rfl,λ _ _=>rfl⟩
  ·have hout:¬ (C b off≤p∧p<C b off+m.length):=λ hin=>by
    have:(Ib S.g b off m p).1=(S.g p).1:=hp;unfold Ib at this;rw[if_pos hin]at this;simp at this
   have hgp:(Qo S (P5 b off) b off m us w').g p=S.g p:=(gout p hout).1;rw[hgp];exact⟨hd,λ _ _ _ h=>h,λ k hk=>⟨.inl (Al hk (by simp)),hold k (by simp[hk])⟩⟩
 refine⟨⟨K.nt,λ k hk=>?_,λ l=>?_,λ b' n' hb'=>?_,λ b' n' hb'=>?_,λ t ht=>?_,K.sz,K.df,?_,λ p hp=>(phio p hp).trans (K.io p hp)⟩,L⟩
 ·have:k<S.w.heap.size:=K.lt k (λ e=>hk (Al e (by simp)));show k<w'.heap.size;rw[← hw]
  simpa[World.setRow] using this
 ·show Fi X.P _ l (Ib S.g b off m l).2 (G8 S.ph b off us l)
  by_cases hin:C b off≤l∧l<C b off+m.length
  ·obtain⟨x,u,e1,e2,e3,e4⟩:=hl.at (l-C b off) (by omega);unfold Ib G8;rw[if_pos hin,if_pos (by rw[hlen];exact hin),e1,e2];refine Af.later L e4 (λ k hk=>⟨?_,hold k (by simp[hk])⟩);rw[Wb]at hk;have:=F3 (h:=P5 b off) hk (hq _ (by omega));rwa [show C b (off+(l-C b off))=l by (have:C b (off+(l-C b off))=C b off+(l-C b off):=by (unfold C;omega));omega]at this
  ·rw[(gout l hin).1,(gout l hin).2];exact(K.at_ l).later L (λ p k hk=>⟨Al hk (by simp),hold k (by simp[hk])⟩)
 ·have e1:(S.g (H b')).2 = .one (.hd n'):=by
   have:(Ib S.g b off m (H b')).2 = .one (.hd n'):=hb';rwa [(gout _ (D9 (by omega))).1]at this
  obtain⟨g1,c1,e2,g2,g3,g4,g5⟩:=K.box b' n' e1
  by_cases hbb:b'=b
  ·subst hbb;rw[hc]at g2;cases g2;rw[hh]at e1;cases e1;refine⟨g1,_,_,hnew,Al g3 (by simp),by rw[hsz];exact g4,λ j hj=>?_⟩;show (_:Array Value)[(S.bb b').2+j]? = some (G8 S.ph b' off us (C b' j))
   by_cases hin:C b' off≤C b' j∧C b' j<C b' off+m.length
   ·have h5:off≤j∧j<off+m.length:=by unfold C at hin;omega
    have h6:C b' j-C b' off=j-off:=by unfold C;omega
    unfold G8;rw[if_pos (by rw[hlen];exact hin),h6,show (S.bb b').2+j=(S.bb b').2+off+(j-off) by omega,hcell2 _ (by omega)];rw[Vn,Vp (by omega)];rfl
   ·rw[(gout _ hin).2,← g5 j hj];refine hcell _ ?_;unfold C at hin;omega
  ·have hne:S.O (S.bb b').1 ≠ .bx b:=by rw[g3];simp[hbb]
   refine⟨g1,c1,e2,(hold _ hne).trans g2,Al g3 (by simp),g4,λ j hj=>?_⟩;show _=some (G8 S.ph b off us (C b' j));rw[(gout _ (Kf (by omega) (by omega) hbb)).2];exact g5 j hj
 ·have e1:(S.g (H b')).2 = .one (.hd n'):=by
   have:(Ib S.g b off m (H b')).2 = .one (.hd n'):=hb';rwa [(gout _ (D9 (by omega))).1]at this
  exact K.rgn b' n' e1
 ·show a.tmps.getD t undef=G8 S.ph b off us t;rw[(gout _ (H8 (Wi ht K.nt))).2];exact K.sl t ht
 ·have F:=K.fr;refine⟨?_,?_,?_,?_,λ k hk h0=>?_,λ k hk h0=>?_,λ k b' hk h0=>?_⟩
  ·rw[show (Qo S (P5 b off) b off m us w').w=w' from rfl,← hw];exact F.os
  ·rw[show (Qo S (P5 b off) b off m us w').w=w' from rfl,← hw];exact F.tape
  ·rw[show (Qo S (P5 b off) b off m us w').w=w' from rfl,← hw];exact F.out
  ·show _≤w'.heap.size;rw[← hw]
   simpa[World.setRow] using F.size
  ·obtain⟨f1,f2⟩:=F.no k hk h0;exact⟨Al f1 (by simp),(hold k (by simp[f1])).trans f2⟩
  ·obtain⟨f1,f2⟩:=F.fz k hk h0;exact⟨Al f1 (by simp),(hold k (by simp[f1])).trans f2⟩
  ·obtain⟨f1,c1,c2,e1,f,f2,f3,f4,f5⟩:=F.bx k b' hk h0;refine⟨Al f1 (by simp),?_⟩
   by_cases hbk:k=(S.bb b).1
   ·subst hbk;rw[h2]at f1;cases f1;rw[hc]at f3;cases f3;obtain⟨q1,_,q3⟩:=K.rgn b n hh;have hb2:b<2000:=Nat.lt_of_not_le λ h=>q3.1 h hk b h0;obtain⟨r1,r2,r3⟩:=q1 hb2 hk;refine⟨c1,_,_,_,f2,hnew,hsz.trans f4,λ i hi=>?_⟩;rw[hcell i (by omega)];exact f5 i hi
   ·refine⟨c1,c2,e1,f,f2,?_,f4,f5⟩;rw[← f3];show w'.heap[k]? = _;rw[← hw];exact setRow_other _ _ _ _ hbk
end

section
attribute [local irreducible] C H
def Mx (S:Sit) (w:World) (O:Nat→Lab):Sit := { S with O:=O,w:=w }
def U4 (S:Sit) (d k o:Nat) (m:List Lf) (us:List Value):Sit:=
 { O:=λ j=>if j=k then .bx d else atO S.O (P5 d 0) j,bb:=upd S.bb d (k,o),g:=Ib (upd S.g (H d) ((S.g (H d)).1+1,.one (.hd m.length))) d 0 m,ph:=G8 S.ph d 0 us,w:=S.w }
section
variable {X:Cx} {S S':Sit} {a:Act} {E:En} {A:Ab} {o:Oper} {R:Type} {Kc:List Up→Option R} {r:R}
def Ah.grow (K:Ah X S a) {w':World} {row:Option Nat} {O':Nat→Lab} (hw:S.w.grownBy w' row) (hrow:∀ k,row=some k→∃ n q,S.O k = .tm n q)
  (hO:∀ k,k<S.w.heap.size→(∀ n q,S.O k ≠ .tm n q)→O' k=S.O k) (hlt:∀ k,O' k ≠ .no→k<w'.heap.size):
  Ah X (Mx S w' O') a∧Ci S (Mx S w' O'):=by
 have keep:∀ k o,S.O k=o→k<S.w.heap.size→(∀ n q,o ≠ .tm n q)→O' k=o∧w'.heap[k]? = S.w.heap[k]?:=by
  intro k o' h hk ho;refine⟨(hO k hk (by rw[h];exact ho)).trans h,hw.block k hk (λ e=>?_)⟩;obtain⟨n,q,h2⟩:=hrow k e.symm;exact ho n q (h.symm.trans h2)
 have keep':∀ k o,S.O k=o→o ≠ .no→(∀ n q,o ≠ .tm n q)→O' k=o∧w'.heap[k]? = S.w.heap[k]? := λ k o' h hn ho=>keep k o' h (K.lt k (by rw[h];exact hn)) ho
 have L:Ci S (Mx S w' O'):=⟨λ _=>Vo _,λ _ _=>rfl,λ p v e r xs' h _=>⟨xs',h,rfl⟩,λ _ _=>rfl,λ k h=>keep' k _ h (by simp) (by simp),Ci.box_of (λ _ _ _ h=>h) (λ k b h=>keep' k _ h (by simp) (by simp)),λ p _ hd=>⟨hd,λ _ _ _ h=>h,λ k hk=>by
  obtain⟨h1,h2⟩:=keep' k _ hk (by simp) (by simp)
  exact⟨.inl h1,h2⟩⟩,λ _ _=>rfl⟩
 have F:=K.fr;refine⟨⟨K.nt,hlt,λ l=>(K.at_ l).later L (λ p k h=>keep' k _ h (by simp) (by simp)),λ b n h=>?_,K.rgn,K.sl,K.sz,K.df,⟨hw.os.trans F.os,hw.tape.trans F.tape,hw.output.trans F.out,Yp F.size hw.size,λ k hk h0=>?_,λ k hk h0=>?_,λ k b hk h0=>?_⟩,K.io⟩,L⟩
 ·obtain⟨hn,c,e,e1,e2,e3,e4⟩:=K.box b n h;obtain⟨h5,h6⟩:=keep' _ _ e2 (by simp) (by simp);exact⟨hn,c,e,h6.trans e1,h5,e3,e4⟩
 ·obtain⟨f1,f2⟩:=F.no k hk h0;obtain⟨h5,h6⟩:=keep k _ f1 (Wi hk F.size) (by simp);exact⟨h5,h6.trans f2⟩
 ·obtain⟨f1,f2⟩:=F.fz k hk h0;obtain⟨h5,h6⟩:=keep k _ f1 (Wi hk F.size) (by simp);exact⟨h5,h6.trans f2⟩
 ·obtain⟨f1,c,c',e,f,f2,f3,f4,f5⟩:=F.bx k b hk h0;obtain⟨h5,h6⟩:=keep k _ f1 (Wi hk F.size) (by simp);exact⟨h5,c,c',e,f,f2,h6.trans f3,f4,f5⟩
def Ah.newbox (K:Ah X S a) {d k o:Nat} {m:List Lf} {us:List Value} {q:Nat→List Nat} {c:Array Value} {e:TypeId} {l0:List Nat} {n0:Nat} (hk:S.O k = .tm n0 l0) (hn0:n0≠0) (hk0:X.w0.heap.size≤k)
  (hc:S.w.heap[k]? = some (.cells c e (0,0))) (ho:o+m.length≤c.size) (hcs:∀ j,j<m.length→c[o+j]? = us[j]?) (hl:A5 X.P S (λ j => .tm 0 (q j)) 0 m us)
  (hq:∀ j,j<m.length→P5 d 0 0 (q j)=some (.pl (C d (0+j)) [])) (hm:m.length<999) (hnh:∀ k,.hd k∉m) (hnp:X.np≤d) (hd1:d<1000):
  Ah X (U4 S d k o m us) a∧Ci S (U4 S d k o m us):=by
 have hlen:=hl.len
 have gout:∀ p,p≠H d→¬ (C d 0≤p∧p<C d 0+m.length)→(U4 S d k o m us).g p=S.g p∧G8 S.ph d 0 us p=S.ph p:=λ p hp1 hp=>by
  refine⟨?_,?_⟩
  ·show Ib _ d 0 m p=_;unfold Ib;rw[if_neg hp,Aa _ _ hp1]
  ·unfold G8;rw[if_neg (by rw[hlen];exact hp)]
 have hH:¬ (C d 0≤H d∧H d<C d 0+m.length):=D9 (by omega)
 have gH:(U4 S d k o m us).g (H d)=((S.g (H d)).1+1,.one (.hd m.length)):=by
  show Ib _ d 0 m (H d)=_;unfold Ib;rw[if_neg hH,A8]
 have gin:∀ p,(C d 0≤p∧p<C d 0+m.length)→(U4 S d k o m us).g p=((S.g p).1+1,.one (m.getD (p-C d 0) .dead))∧G8 S.ph d 0 us p=us.getD (p-C d 0) undef:=λ p hp=>by
  refine⟨?_,?_⟩
  ·show Ib _ d 0 m p=_;unfold Ib;rw[if_pos hp,Aa _ _ (λ e=>by rw[e]at hp;exact hH hp)]
  ·unfold G8;rw[if_pos (by rw[hlen];exact hp)]
 have keep:∀ j o',S.O j=o'→(∀ n q,o' ≠ .tm n q)→(U4 S d k o m us).O j=o':=λ j o' h ho'=>by
  have:j≠k:=λ e=>ho' n0 l0 (by rw[← h,e,hk]);show (if j=k then _ else _)=_;rw[if_neg this];exact Al h ho'
 have phio:∀ p,3001000≤p→G8 S.ph d 0 us p=S.ph p:=λ p hp=>by
  unfold G8;rw[if_neg (by rw[hlen];unfold C;omega)]
 have L:Ci S (U4 S d k o m us):=by
  refine⟨λ p=>?_,λ p hp=>?_,λ p v e r xs' hp hv=>?_,λ b hb=>?_,λ j hj=>⟨keep j _ hj (by simp),rfl⟩,Ci.box_of (λ b n hv hh=>?_) (λ j b h=>⟨keep j _ h (by simp),rfl⟩),λ p hp hd=>?_,phio⟩
  ·by_cases h1:p=H d
   ·subst h1;rw[gH];simp
   ·by_cases h2:C d 0≤p∧p<C d 0+m.length
    ·rw[(gin p h2).1];simp
    ·rw[(gout p h1 h2).1];exact Vo _
  ·show G8 S.ph d 0 us p=_
   by_cases h2:C d 0≤p∧p<C d 0+m.length
   ·rw[(gin p h2).1]at hp;simp at hp
   ·unfold G8;rw[if_neg (by rw[hlen];exact h2)]
  ·by_cases h1:p=H d
   ·subst h1;rw[gH]at hp;simp at hp
   ·by_cases h2:C d 0≤p∧p<C d 0+m.length
    ·rw[(gin p h2).1]at hp;simp only[Vu]at hp;omega
    ·rw[(gout p h1 h2).1]at hp;exact⟨xs',hp,rfl⟩
  ·by_cases hbd:b=d
   ·subst hbd;rw[gH]at hb;simp at hb
   ·exact Aa _ _ hbd
  ·have hbd:H b≠H d:=λ e=>by rw[e,gH]at hv;simp at hv
   rw[(gout _ hbd (D9 (by omega))).1];exact hh
  ·have h1:p≠H d:=λ e=>by subst e;rw[gH]at hp;simp at hp
   have h2:¬ (C d 0≤p∧p<C d 0+m.length):=λ h=>by rw[(gin p h).1]at hp;simp at hp
   rw[(gout p h1 h2).1];exact⟨hd,λ _ _ _ h=>h,λ j hj=>⟨.inl (keep j _ hj (by simp)),rfl⟩⟩
 have F:=K.fr;refine⟨⟨K.nt,λ j hj=>?_,λ l=>?_,λ b n hb=>?_,λ b n hb=>?_,λ t ht=>?_,K.sz,K.df,⟨F.os,F.tape,F.out,F.size,λ j hj h0=>?_,λ j hj h0=>?_,λ j b hj h0=>?_⟩,λ p hp=>(phio p hp).trans (K.io p hp)⟩,L⟩
 ·exact K.lt j (λ e=>hj (keep j _ e (by simp)))
 ·show Fi X.P _ l ((U4 S d k o m us).g l).2 (G8 S.ph d 0 us l)
  by_cases h1:l=H d
  ·subst h1;rw[gH];trivial
  ·by_cases h2:C d 0≤l∧l<C d 0+m.length
   ·obtain⟨x,u,e1,e2,e3,e4⟩:=hl.at (l-C d 0) (by omega);rw[(gin l h2).1,(gin l h2).2,e1,e2];refine Af.later L e4 (λ j hj=>⟨?_,rfl⟩);rw[Wb]at hj;have hjk:j≠k:=λ e=>hn0 (by rw[e,hk]at hj;cases hj;rfl);show (if j=k then _ else _)=_;rw[if_neg hjk];have:=F3 (h:=P5 d 0) hj (hq _ (by omega));rwa [show C d (0+(l-C d 0))=l by (have:C d (0+(l-C d 0))=C d 0+(l-C d 0):=by (unfold C;omega));omega]at this
   ·rw[(gout l h1 h2).1,(gout l h1 h2).2];exact(K.at_ l).later L (λ p j hj=>⟨keep j _ hj (by simp),rfl⟩)
 ·by_cases hbd:b=d
  ·subst hbd;rw[gH]at hb;cases hb;refine⟨hm,c,e,?_,?_,?_,λ j hj=>?_⟩
   ·show S.w.heap[(upd S.bb b (k,o) b).1]? = _;rw[A8];exact hc
   ·show (if (upd S.bb b (k,o) b).1=k then _ else _)=_;rw[A8,if_pos rfl]
   ·show (upd S.bb b (k,o) b).2+_≤_;rw[A8];exact ho
   ·show c[(upd S.bb b (k,o) b).2+j]? = some (G8 S.ph b 0 us (C b j))
    have h2:C b 0≤C b j∧C b j<C b 0+m.length:=by unfold C;omega
    rw[A8,(gin _ h2).2,hcs j hj,show C b j-C b 0=j by unfold C;omega];rw[Vn,Vp (by omega)];rfl
  ·have h1:H b≠H d:=λ e=>hbd (Qg e)
   have e1:(S.g (H b)).2 = .one (.hd n):=by rwa [(gout _ h1 (D9 (by omega))).1]at hb
   obtain⟨g1,c1,e2,g2,g3,g4,g5⟩:=K.box b n e1;have hbb:(U4 S d k o m us).bb b=S.bb b:=Aa _ _ hbd;rw[hbb];refine⟨g1,c1,e2,g2,keep _ _ g3 (by simp),g4,λ j hj=>?_⟩;show _=some (G8 S.ph d 0 us (C b j));rw[(gout _ (Lda (by omega)) (Kf (by omega) (by omega) hbd)).2];exact g5 j hj
 ·by_cases hbd:b=d
  ·subst hbd;refine⟨λ _ hlt=>?_,λ h=>absurd h (by unfold Cx.pb;omega),λ h=>absurd h (by omega),by omega⟩;have:(upd S.bb b (k,o) b).1<X.w0.heap.size:=hlt;rw[A8]at this;exact absurd this (by simpa using hk0)
  ·have h1:H b≠H d:=λ e=>hbd (Qg e)
   have e1:(S.g (H b)).2 = .one (.hd n):=by rwa [(gout _ h1 (D9 (by omega))).1]at hb
   have hbb:(U4 S d k o m us).bb b=S.bb b:=Aa _ _ hbd;rw[hbb];exact K.rgn b n e1
 ·show a.tmps.getD t undef=G8 S.ph d 0 us t;have:=H8 (b:=d) (off:=0) (n:=us.length) (Wi ht K.nt);unfold G8;rw[if_neg this];exact K.sl t ht
 ·obtain⟨f1,f2⟩:=F.no j hj h0;exact⟨keep j _ f1 (by simp),f2⟩
 ·obtain⟨f1,f2⟩:=F.fz j hj h0;exact⟨keep j _ f1 (by simp),f2⟩
 ·obtain⟨f1,rest⟩:=F.bx j b hj h0;exact⟨keep j _ f1 (by simp),rest⟩
def Hv:∀ t:Ty,(Cr t).length=t.sz
 |.i _=>rfl
 |.b=>rfl
 |.s=>rfl
 |.sl _ _=>rfl
 |.ow _ _=>rfl
 |.pr x y=>by show (Cr x++Cr y).length=x.sz+y.sz;rw[Vh,Hv x,Hv y]
def Uk {P:Program} {T:TypeId} {t:TI} (h:TOk P T t):∃ d,P.underlying T=some d∧Sc (P.underlying T)=t.ag:=by
 have:=h.desc;unfold M0 at this
 split at this<;>first|(cases this;done)|(rename_i hu;exact⟨_,hu,by rw[hu];rfl⟩)
def Cha {P:Program} {T:TypeId} {t:TI} (h:TOk P T t) (ha:t.ag=false):t.ty.sz=1:=by
 obtain⟨i,_,_,_,_,h4⟩:=h.info;have:=congrArg length (h4 ha);rw[Hv]at this;exact this
def Jg {P:Program} {T:TypeId} {t:TI} (h:TOk P T t):(P.info? T).map (λ i=>i.size)=some t.ty.sz:=by
 obtain⟨i,h1,h2,_⟩:=h.info;rw[h1,Q6a,h2]
def Ul {P:Program} {w:World} {T:TypeId} {t:TI} {x:Operand} {k o':Nat} {cs:List Value} (ht:TOk P T t) (ho:o.op = .load T x) (he:a.eval x = .pointer (some ⟨k,o',none⟩)) (hc:C8 w k o' cs) (hl:cs.length=t.ty.sz):
  ∃ u,(if t.ag then u = .agg cs.toArray else cs=[u])∧(execOp a.eval o).run P w = .ok (.value u) w:=by
 obtain⟨d,hd,hagg⟩:=Uk ht
 have hc':∀ j v,cs[j]? = some v→w.cell? (Addr.add ⟨k,o',none⟩ j)=some v:=λ j v hj=>by rw[Gv];exact hc j v hj
 cases ha:t.ag with
 |true=>
  rw[ha]at hagg;refine⟨_,rfl,?_⟩;unfold execOp;have hlc:=run_loadCells_list (P:=P) w ⟨k,o',none⟩ cs hc';simp only[ho,he,Instr.loadAt,Instr.sureAddr,Vw,Wl,Vv,loadVar,Ia hd hagg,if_true,G7 (Jg ht),← hl,hlc]
 |false=>
  rw[ha]at hagg;have h1:=Cha ht ha;rw[h1]at hl;obtain⟨u,rfl⟩:∃ u,cs=[u]:=P9a.1 hl;refine⟨u,rfl,?_⟩;have h0:=hc 0 u rfl;rw[Yt]at h0;unfold execOp;simp[ho,he,Instr.loadAt,Instr.sureAddr,loadVar,Ia hd hagg,h0]
def L3 (hE:Fo X E) (K:Ah X S a) (hg:S.g=get A) {T:TypeId} {t:TI} {x:Operand} {d k o':Nat} {l:List Lf} {cs:List Value} {s:Sv} (ht:TOk X.P T t) (ho:o.op = .load T x) (hod:o.dst=some d) (hd:d<X.nt)
  (he:a.eval x = .pointer (some ⟨k,o',none⟩)) (hc:C8 S.w k o' cs) (hlen:l.length=t.ty.sz) (hs:Gx t.ag l=some s) (hown:Cm l=false) {f:Nat→Lab} (hl:A5 X.P S f 0 l cs):
  C7a X o a S.w (ups A [⟨d,false,s⟩]):=by
 obtain⟨u,e1,hrun⟩:=Ul (P:=X.P) ht ho he hc (hl.len.trans hlen);have hsv:Fi X.P S d s u:=Hu hs e1 (hl.relab hown);have K2:=K.put0 hd s u d (by rw[Ke hs,hown]) hsv;refine Ac (S:=Gp S (λ _ _=>none) d s u) hrun (by rw[hod];exact K2) ?_;show upd S.g d _=_;rw[A7,← hg]
def Jh (K:Ah X S a) (hg:S.g=get A) (b:Nat):∀ (n j:Nat),(cellsOf A b j n).length=n∧Cm (cellsOf A b j n)=false∧∀ f i,A5 X.P S f i (cellsOf A b j n) ((List.range n).map λ i=>S.ph (C b (j+i)))
 |0,j=>⟨rfl,rfl,λ f i=>trivial⟩
 |n+1,j=>by
  obtain⟨h1,h2,h3⟩:=Jh K hg b n (j+1);have hat:=K.at_ (C b j);rw[hg]at hat
  have hr:(List.range (n+1)).map (λ i=>S.ph (C b (j+i)))=S.ph (C b j)::(List.range n).map (λ i=>S.ph (C b (j+1+i))):=by
   rw[List.range_succ_eq_map,Yc,Oua,Yt];congr 1;apply Zn;intro i _;show S.ph (C b (j+(i+1)))=_;rw[show j+(i+1)=j+1+i by omega]
  refine⟨by simp[cellsOf,h1],?_,λ f i=>?_⟩
  ·unfold cellsOf;split
   ·exact h2
   ·exact h2
   ·exact h2
   ·rename_i v x hne hne2 hne3 hp
    cases x<;>first|exact h2|exact(hne _ _ _ rfl).elim|exact(hne2 _ _ _ _ _ _ rfl).elim|exact(hne3 _ _ _ _ rfl).elim
   ·exact h2
  ·rw[hr];unfold cellsOf;refine⟨?_,h3 f (i+1)⟩;split
   ·rename_i v e r' xs hp;exact⟨by rw[hg,hp];exact Vo _,λ _=>rfl⟩
   ·rename_i hp;exact⟨by rw[hg,hp];exact Vo _,λ _=>rfl⟩
   ·rename_i hp;exact⟨by rw[hg,hp];exact Vo _,λ _=>rfl⟩
   ·rename_i v x hne hne2 hne3 hp;rw[hp]at hat;refine Af.relab (lab := .pl (C b j) []) ?_ hat
    cases x<;>first|rfl|exact(hne _ _ _ rfl).elim|exact(hne2 _ _ _ _ _ _ rfl).elim|exact(hne3 _ _ _ _ rfl).elim
   ·trivial
def A5.ofRep {P:Program} {l:List Lf} {us:List Value} (h:Gu (G6 P (λ k=>S.O k = .fz) S.w) l us):∀ (f:Nat→Lab) (j:Nat),A5 P S f j l us:=by
 induction h with
 |nil=>intro f j;trivial
 |@cons x u xs us hx _ ih=>
  intro f j;refine⟨?_,ih f (j+1)⟩
  cases x<;>first|exact hx|exact hx.elim
def So {P:Program} {G:Nat→Prop} {w:World} {l:List Lf} {us:List Value} (h:Gu (G6 P G w) l us):Cm l=false:=by
 induction h with
 |nil=>rfl
 |@cons x u xs us hx _ ih=>cases x<;>first|exact ih|exact hx.elim
def Gi {w:World} {k o':Nat} {cs:List Value} (h:C8 w k o' cs) (off n:Nat):C8 w k (o'+off) ((cs.drop off).take n):=by
 intro j u hu;rw[Wd]at hu;split at hu
 ·rw[Xs]at hu;rw[Yr];exact h _ _ hu
 ·cases hu
def Xd (K:Ah X S a) {p v:Nat} {i:Int} {off:Nat} {lab:Lab} {u:Value} {e:TypeId} {r':Ty} {xs:List r'.den} (hno:Gd r'=true) (hp:S.g p=(v,.one (.own e r' xs))) (h:Af X.P S lab (.ep p v i off) u):
  ∃ k cs cur cap,u = .pointer (some ⟨k,i.toNat*r'.sz+off,none⟩)∧r'.rep X.P (λ k=>S.O k = .fz) S.w (xs.getD i.toNat r'.dflt) cs∧C8 S.w k (i.toNat*r'.sz) cs∧i.toNat<xs.length∧
   S.ph p = .slice (some ⟨k,0,none⟩) xs.length cap∧S.w.heap[k]? = some (.cells cur e (0,0))∧S.O k = .pl p []:=by
 obtain⟨_,h2⟩:=h;obtain⟨h0,h1,k,cap,h3,h4⟩:=h2 e r' xs hp
 have hown:Ch X.P S.O S.w (.pl p []) e r' xs (S.ph p):=by have:=K.at_ p;rw[hp]at this;exact this
 obtain⟨_,cs,hrow,hrows,hk⟩:=(Ch.flat hno).1 hown;rcases Cl hrow with⟨e1,_⟩|⟨k',cap',cur,e1,hcur,_,_,_,ht⟩
 ·rw[h3]at e1;cases e1
 ·rw[h3]at e1;cases e1;obtain⟨c,hc1,hc2⟩:=Cca (S:=S) (Ty.rep_len r') hrows (i:=i.toNat) (x:=xs.getD i.toNat r'.dflt) (by rw[Vn,Vp h1];rfl) (F8 hcur ht);rw[Wb]at hc2;exact⟨k,c,cur,cap,h4,hc1,hc2,h1,h3,hcur,hk k (by rw[h3];rfl)⟩
def F5:∀ (t:Ty) (x:t.den),(A4 t x).length=t.sz
 |.i _,_=>rfl
 |.b,_=>rfl
 |.s,_=>rfl
 |.sl _ _,_=>rfl
 |.ow _ _,_=>rfl
 |.pr x y,p=>by
  show (A4 x p.1++A4 y p.2).length=x.sz+y.sz;rw[Vh,F5 x p.1,F5 y p.2]
def Cia {p v:Nat} {pi:Option (List (Int×Nat))} {i:Int}:∀ {j:Nat} {l:List Lf},(daL p v pi i j l).length=l.length
 |_,[]=>rfl
 |j,x::l=>by cases x<;>simp[daL,Cia]
def Cja {p v:Nat} {pi:Option (List (Int×Nat))} {i:Int}:∀ {j:Nat} {l m:List Lf},daL p v pi i j (l++m)=daL p v pi i j l++daL p v pi i (j+l.length) m
 |j,[],m=>by simp[daL]
 |j,x::l,m=>by
  have e:j+(x::l).length=j+1+l.length:=by simp only[Vg];omega
  rw[e]
  cases x<;>simp[daL,Cja]
def Sp {p v:Nat} {pi:Option (List (Int×Nat))} {i:Int}:∀ (j:Nat) (l:List Lf),∀ y∈daL p v pi i j l,y.isOwn=false
 |_,[]=>by simp[daL]
 |j,x::l=>by
  have ih:=Sp (p:=p) (v:=v) (pi:=pi) (i:=i) (j+1) l
  cases x<;>(intro y hy;simp only[daL,Vk]at hy;rcases hy with rfl|hy<;>first|rfl|exact ih y hy)
def Nu:∀ {l:List Lf},(∀ y∈l,y.isOwn=false)→Cm l=false
 |[],_=>rfl
 |x::l,h=>by
  have h1:=h x (by simp);have h2:=Nu (λ y hy=>h y (Ve _ hy))
  cases x<;>first|(simp[Lf.isOwn]at h1;done)|exact h2
def Aea {l:List Lf} (h:∀ y∈l,y.isOwn=false) (n m:Nat):Cm ((l.drop n).take m)=false:=Nu λ y hy=>h y (Zk (Pja hy))
def G9:∀ t:Ty,(Dx t).length=t.sz
 |.i _=>rfl
 |.b=>rfl
 |.s=>rfl
 |.sl _ _=>rfl
 |.ow _ _=>rfl
 |.pr x y=>by show (Dx x++Dx y).length=x.sz+y.sz;rw[Vh,G9 x,G9 y]
def Hw:∀ {t:Ty} {x:t.den} {j:Nat} {e:TypeId} {r:Ty} {ys:List r.den},nth (A4 t x) j=some (.own e r ys)→nth (Dx t) j=some (.ow e r)
 |.i _,_,0,_,_,_,h=>by simp[A4,nth]at h
 |.i _,_,_+1,_,_,_,h=>by simp[A4,nth]at h
 |.b,_,0,_,_,_,h=>by simp[A4,nth]at h
 |.b,_,_+1,_,_,_,h=>by simp[A4,nth]at h
 |.s,_,0,_,_,_,h=>by simp[A4,nth]at h
 |.s,_,_+1,_,_,_,h=>by simp[A4,nth]at h
 |.sl _ _,_,0,_,_,_,h=>by simp[A4,nth]at h
 |.sl _ _,_,_+1,_,_,_,h=>by simp[A4,nth]at h
 |.ow _ _,_,0,_,_,_,h=>by
  simp only[A4,nth,Vc]at h;cases h;rfl
 |.ow _ _,_,_+1,_,_,_,h=>by simp[A4,nth]at h
 |.pr x y,p,j,e,r,ys,h=>by
  rw[Et]at h ⊢;have h:(A4 x p.1++A4 y p.2)[j]? = some (.own e r ys):=h;show (Dx x++Dx y)[j]? = _
  by_cases hj:j<x.sz
  ·rw[Yf (by rw[F5];exact hj),← Et]at h;rw[Yf (by rw[G9];exact hj),← Et];exact Hw h
  ·rw[Yd (by rw[F5];omega),F5,← Et]at h;rw[Yd (by rw[G9];omega),G9,← Et];exact Hw h
def Xe {e1:TypeId} {r1:Ty} {ys:List r1.den} {i:Int} {j:Nat} {e2:TypeId} {r2:Ty} {zs:List r2.den} (hi:0≤i∧i.toNat<ys.length) (hn:nth (A4 r1 (ys.getD i.toNat r1.dflt)) j=some (.own e2 r2 zs)):
  ∀ (q:List (Int×Nat)) (e:TypeId) (r:Ty) (xs:List r.den),X7 q e r xs=some ⟨e1,r1,ys⟩→X7 (q++[(i,j)]) e r xs=some ⟨e2,r2,zs⟩
 |[],e,r,xs,h=>by
  simp only[X7,Vc]at h;cases h;simp only[Wf,X7];rw[if_pos hi,hn]
 |(i',j')::q,e,r,xs,h=>by
  simp only[X7,List.cons_append]at h ⊢
  by_cases hc:0≤i'∧i'.toNat<xs.length
  ·rw[if_pos hc]at h ⊢;split at h
   ·rename_i e3 r3 ws hw;exact Xe hi hn q e3 r3 ws h
   ·cases h
  ·rw[if_neg hc]at h;cases h
def Jy.app {G:Nat→Prop} {w:World} {i:Int} {j k o n cap:Nat} {e2:TypeId} {r1 r2:Ty} {u2:Value} (hG:G k) (hc:w.cell? ⟨k,o+(i.toNat*r1.sz+j),none⟩=some u2) (hs:nth (Dx r1) j=some (.ow e2 r2)) {e1:TypeId} {ys:List r1.den}:
  ∀ (q:List (Int×Nat)) (e:TypeId) (r:Ty) (xs:List r.den) (u:Value),X7 q e r xs=some ⟨e1,r1,ys⟩→Jy G w q r u (.slice (some ⟨k,o,none⟩) n cap)→Jy G w (q++[(i,j)]) r u u2
 |[],e,r,xs,u,hl,h=>by
  simp only[X7,Vc]at hl;cases hl;exact⟨k,o,n,cap,e2,r2,u2,h.symm,hG,hc,hs,rfl⟩
 |(i',j')::q,e,r,xs,u,hl,⟨k',o',n',cap',e3,r3,u3,h1,h2,h3,h4,h5⟩=>by
  simp only[X7]at hl;split at hl
  ·split at hl
   ·rename_i e4 r4 ws hw;have hsl:nth (Dx r) j'=some (.ow e4 r4):=Hw hw;rw[h4]at hsl;cases hsl;exact⟨k',o',n',cap',e3,r3,u3,h1,h2,h3,h4,h5.app hG hc hs q e3 r3 ws u3 hl⟩
   ·cases hl
  ·cases hl
def Cka {P:Program} {S:Sit} {p v:Nat} {pi:Option (List (Int×Nat))} {i:Int} (hv:(S.g p).1=v) (hdeep:Ue (S.g p).2=true):∀ (t:Ty) (x:t.den) (c:List Value) (b:List Nat) (j0:Nat),Dh t=true→t.dep P (λ k=>S.O k = .fz) S.w x c b→(∀ k∈b,I0a S p k)→
  (∀ n e1 r1 ys u1,nth (A4 t x) n=some (.own e1 r1 ys)→c[n]? = some u1→I1a S p (match pi with|some q=>some (q++[(i,j0+n)])|none=>none) e1 r1 ys u1)→
  ∀ (f:Nat→Lab) (m:Nat),A5 P S f m (daL p v pi i j0 (A4 t x)) c
 |.i _,_,_,_,_,_,⟨e,_⟩,_,_=>by subst e;exact λ f m=>⟨⟨rfl,rfl⟩,trivial⟩
 |.b,_,_,_,_,_,⟨e,_⟩,_,_=>by subst e;exact λ f m=>⟨⟨rfl,rfl⟩,trivial⟩
 |.s,_,_,_,_,_,⟨e,_⟩,_,_=>by subst e;exact λ f m=>⟨⟨rfl,rfl⟩,trivial⟩
 |.sl _ _,_,_,_,_,h,_,_,_=>by simp[Dh]at h
 |.ow e r,xs,c,b,j0,h,⟨u,cs,b2,ev,hs,ho,hd,eb⟩,hm,hp=>by
  subst ev;refine λ f m=>⟨⟨h,P4a hv.symm,λ _=>⟨hdeep,⟨hs,?_⟩,?_⟩⟩,trivial⟩
  ·rcases Cl ho with⟨rfl,e2,rfl⟩|⟨k,cap,cur,rfl,hc,h1,_,_,ht⟩
   ·exact⟨none,0,[],b2,by rw[e2],by omega,hd,λ k hk=>hm k (by rw[eb];exact Vi _ hk),λ hn=>absurd (Wq e2) hn⟩
   ·exact⟨_,cap,cs,b2,rfl,h1,hd,λ k hk=>hm k (by rw[eb];exact Vi _ hk),λ _=>⟨k,0,rfl,hm k (by rw[eb];simp[Value.ownBlock]),F8 hc ht⟩⟩
  ·have:=hp 0 e r xs u rfl rfl;exact this
 |.pr y z,x,c,b,j0,h,⟨c1,c2,b1,b2,ec,eb,h1,h2⟩,hm,hp=>by
  simp only[Dh,Va]at h;subst ec eb;have l1:=Ty.dep_len y x.1 c1 b1 h1;have l2:=F5 y x.1
  have i1:=Cka (P:=P) hv hdeep y x.1 c1 b1 j0 h.1 h1 (λ k hk=>hm k (Vt _ hk)) (λ n e1 r1 ys u1 hn hu=>hp n e1 r1 ys u1 (by
   rw[Et]at hn ⊢;show (A4 y x.1++A4 z x.2)[n]? = _;rw[Yf (We.1 hn).1]
   exact hn) (by rw[Yf (We.1 hu).1];exact hu))
  have i2:=Cka (P:=P) hv hdeep z x.2 c2 b2 (j0+y.sz) h.2 h2 (λ k hk=>hm k (Vi _ hk)) (λ n e1 r1 ys u1 hn hu=>by
   have:=hp (y.sz+n) e1 r1 ys u1 (by
    rw[Et]at hn ⊢;show (A4 y x.1++A4 z x.2)[y.sz+n]? = _;rw[Yd (by omega),l2,show y.sz+n-y.sz=n by omega]
    exact hn) (by rw[Yd (by omega),l1,show y.sz+n-y.sz=n by omega];exact hu)
   rw[← Yr]at this
   exact this)
  intro f m;show A5 P S f m (daL p v pi i j0 (A4 y x.1++A4 z x.2)) (c1++c2);rw[Cja,l2];exact A5.app (i1 f m) (i2 f _)
def G3a {P:Program} {S:Sit} {p v:Nat} {pi:Option (List (Int×Nat))} {e:TypeId} {r':Ty} {xs:List r'.den} {i:Int} {off:Nat} {h u:Value} (hda:Bka P S p v pi e r' xs h) (hv:(S.g p).1=v)
  (hdp:0≤i∧i.toNat<xs.length∧∃ k o cap,h = .slice (some ⟨k,o,none⟩) xs.length cap∧u = .pointer (some ⟨k,o+(i.toNat*r'.sz+off),none⟩)):
  ∃ k o' c,u = .pointer (some ⟨k,o'+off,none⟩)∧C8 S.w k o' c∧∀ f m,A5 P S f m (daL p v pi i 0 (A4 r' (xs.getD i.toNat r'.dflt))) c:=by
 obtain⟨i0,i1,k,o,cap,e1,e2⟩:=hdp;obtain⟨d1,_,d2⟩:=hda;obtain⟨d3,⟨d4,ad,cap',cs,bs,d5,d6,d7,d8,d9⟩,d10⟩:=d2 hv;rw[e1]at d5;cases d5;obtain⟨k',o',e3,m1,hc⟩:=d9 (by intro e0;subst e0;simp at i1);cases e3
 have hx:xs[i.toNat]? = some (xs.getD i.toNat r'.dflt):=by rw[Vn,Vp i1];rfl
 obtain⟨b,g1,g2⟩:=d7.get (Ty.dep_len r') i.toNat _ hx;have hce:C8 S.w k (o+i.toNat*r'.sz) ((cs.drop (i.toNat*r'.sz)).take r'.sz):=Gi hc _ _;refine⟨k,o+i.toNat*r'.sz,_,by rw[e2,Yr],hce,Cka hv d3 r' _ _ b 0 d1 g1 (λ k hk=>d8 k (g2.subset hk)) (λ n e4 r4 ys u4 hn hu q hq E R XS hgp=>?_)⟩
 cases pi with
 |none=>cases hq
 |some q0=>
  cases hq;obtain⟨f1,f2⟩:=d10 q0 rfl E R XS hgp;rw[e1]at f2;rw[Wb];refine⟨Xe ⟨i0,i1⟩ hn q0 E R XS f1,Jy.app (r1:=r') (i:=i) (j:=n) m1 ?_ (Hw hn) q0 E R XS _ f1 f2⟩;have:=hce n u4 hu;rw[Yr]at this;exact this
def J9a (hE:Fo X E) (K:Ah X S a) (hg:S.g=get A) {T:TypeId} {x:Operand} {d:Nat} (ho:o.op = .load T x) (hod:o.dst=some d) (hd:d<X.nt) (h:Ai E o A Kc=some r):Er X o a S.w A Kc r:=by
 unfold Ai at h;rw[ho,hod]at h;simp only at h;split at h
 ·rename_i ti b v off hti hs;obtain⟨pl,hsv⟩:=Ed hE K hg hs;have hlf:Af X.P S (.pl pl []) (.bp b v off) (a.eval x):=hsv;split at h
  ·rename_i n m hp;rw[csi]at h;obtain⟨hq,h⟩:=h;simp only[Va]at hq
   have hnv:n=v:=by simpa using hq.1
   have hle:off+ti.ty.sz≤m:=Vd hq.2;subst hnv;split at h
   ·rename_i s hof;obtain⟨_,c,e,h1,h2,h3,h4⟩:=K.box b m (by rw[hg,hp]);obtain⟨c1,c2,c3⟩:=Jh K hg b ti.ty.sz off;refine⟨_,h,L3 hE K hg (hE.ti _ _ hti) ho hod hd (hlf.2 (by rw[hg,hp])) (cs:=(List.range ti.ty.sz).map λ i=>S.ph (C b (off+i))) (λ j u hu=>?_) c1 hof c2 (c3 (λ _ => .no) 0)⟩
    have hj:j<ti.ty.sz:=by
     rcases P3a j ti.ty.sz with h|h
     ·exact h
     ·rw[Ova (by simpa using h)]at hu;cases hu
    simp[hj]at hu;subst hu;simp[World.cell?,h1,Yr,h4 (off+j) (by omega)]
   ·cases h
  ·cases h
 ·rename_i ti p v i off hti hs;obtain⟨pl,hsv⟩:=Ed hE K hg hs;have hlf:Af X.P S (.pl pl []) (.ep p v i off) (a.eval x):=hsv;split at h
  ·rename_i n e r' xs hp;rw[csi]at h;obtain⟨hq,h⟩:=h;simp only[Va]at hq
   have hnv:n=v:=by simpa using hq.1.1
   have hle:off+ti.ty.sz≤r'.sz:=Vd hq.2;subst hnv;split at h
   ·rename_i s hof;obtain⟨k,cs,cur,cap,e1,e2,e3,_⟩:=Xd K hq.1.2 (by rw[hg,hp]) hlf;have hrep:=((I8 _ _ _ e2).drop off).take ti.ty.sz;exact⟨_,h,L3 hE K hg (hE.ti _ _ hti) ho hod hd e1 (Gi e3 off ti.ty.sz) (by rw[Vl,Vx,Qf];omega) hof (So hrep) (A5.ofRep hrep (λ _ => .no) 0)⟩
   ·cases h
  ·cases h
 ·rename_i ti p v pi e r' xs i off hti hs;obtain⟨pl,hsv⟩:=Ed hE K hg hs;obtain⟨hd',hda,hdp⟩:Af X.P S (.pl pl []) (.dp p v pi e r' xs i off) (a.eval x):=hsv;rw[csi]at h;obtain⟨hq,h⟩:=h;simp only[Va]at hq
  have hv:(S.g p).1=v:=by rw[hg];exact Vb hq.1
  have hle:off+ti.ty.sz≤r'.sz:=Vd hq.2;split at h
  ·rename_i s hof;obtain⟨k,o',c,e1,e2,e3⟩:=G3a hda hv (hdp hv);exact⟨_,h,L3 hE K hg (hE.ti _ _ hti) ho hod hd e1 (Gi e2 off ti.ty.sz) (by rw[Vl,Vx,Cia,F5];omega) hof (Aea (Sp _ _) off _) (A5.shift (j:=0) off (((e3 (λ _ => .no) 0).drop off).take ti.ty.sz))⟩
  ·cases h
 ·rename_i ti r' y off hti hs;obtain⟨pl,hsv⟩:=Ed hE K hg hs;obtain⟨k,o',cs,e1,e2,e3,e4⟩:Af X.P S (.pl pl []) (.fp r' y off) (a.eval x):=hsv;rw[csi]at h;obtain⟨hq,h⟩:=h;have hle:off+ti.ty.sz≤r'.sz:=Vd hq;split at h
  ·rename_i s hof;have hrep:=((I8 _ _ _ e3).drop off).take ti.ty.sz;exact⟨_,h,L3 hE K hg (hE.ti _ _ hti) ho hod hd e1 (Gi e4 off ti.ty.sz) (by rw[Vl,Vx,Qf];omega) hof (So hrep) (A5.ofRep hrep (λ _ => .no) 0)⟩
  ·cases h
 ·cases h
end
end

section
attribute [local irreducible] C H
def Lka (P:Program) (G:Nat→Prop) (w:World):Lf→Value→List Nat→Prop
 |.sc v,u,bs=>u=v∧U6 v=true∧bs=[]
 |.own e r xs,u,bs=>(Ty.ow e r).dep P G w xs [u] bs
 |_,_,_=>False
def Fl (P:Program) (G:Nat→Prop) (w:World):List Lf→List Value→List Nat→Prop
 |[],us,bs=>us=[]∧bs=[]
 |x::xs,us,bs=>∃ u us' b1 b2,us=u::us'∧bs=b1++b2∧Lka P G w x u b1∧Fl P G w xs us' b2
section
variable {P:Program} {G G':Nat→Prop} {w w':World}
def Fl.app:∀ {l m:List Lf} {us vs:List Value} {bs es:List Nat},Fl P G w l us bs→Fl P G w m vs es→Fl P G w (l++m) (us++vs) (bs++es)
 |[],_,_,_,_,_,h,h'=>by obtain⟨rfl,rfl⟩:=h;exact h'
 |_::_,_,_,_,_,_,⟨u,us',b1,b2,e1,e2,h1,h2⟩,h'=>by subst e1 e2;exact⟨u,_,b1,_,rfl,by rw[Vj],h1,h2.app h'⟩
def Fl.len:∀ {l:List Lf} {us:List Value} {bs:List Nat},Fl P G w l us bs→us.length=l.length
 |[],_,_,h=>by obtain⟨rfl,_⟩:=h;rfl
 |_::_,_,_,⟨_,_,_,_,e,_,_,h⟩=>by subst e;simp[h.len]
def Fl.split:∀ {l m:List Lf} {us:List Value} {bs:List Nat},Fl P G w (l++m) us bs→∃ b1 b2,bs=b1++b2∧Fl P G w l (us.take l.length) b1∧Fl P G w m (us.drop l.length) b2
 |[],m,us,bs,h=>⟨[],bs,rfl,⟨rfl,rfl⟩,by simpa using h⟩
 |x::l,m,us,bs,⟨u,us',b1,b2,e1,e2,h1,h2⟩=>by
  subst e1 e2;obtain⟨b3,b4,e3,h3,h4⟩:=h2.split;subst e3;exact⟨b1++b3,b4,by rw[Vj],⟨u,us'.take l.length,b1,b3,rfl,rfl,h1,h3⟩,h4⟩
def Lka.mono (hG:∀ k,G k→G' k) (hw:∀ k,G k→w'.heap[k]? = w.heap[k]?) {x:Lf} {u:Value} {bs:List Nat} (hb:∀ k∈bs,w'.heap[k]? = w.heap[k]?) (h:Lka P G w x u bs):Lka P G' w' x u bs:=by
 cases x with
 |own e r xs=>exact Ty.dep_mono hG hw (.ow e r) xs [u] bs hb h
 |_=>exact h
def Fl.mono (hG:∀ k,G k→G' k) (hw:∀ k,G k→w'.heap[k]? = w.heap[k]?):∀ {l:List Lf} {us:List Value} {bs:List Nat},(∀ k∈bs,w'.heap[k]? = w.heap[k]?)→Fl P G w l us bs→Fl P G' w' l us bs
 |[],_,_,_,h=>h
 |_::_,_,_,hb,⟨u,us',b1,b2,e1,e2,h1,h2⟩=>⟨u,us',b1,b2,e1,e2,h1.mono hG hw (λ k hk=>hb k (by rw[e2];exact Vt _ hk)),h2.mono hG hw (λ k hk=>hb k (by rw[e2];exact Vi _ hk))⟩
def Hx:∀ (t:Ty) (x:t.den) (vs:List Value) (bs:List Nat),Dh t=true→t.dep P G w x vs bs→Fl P G w (A4 t x) vs bs
 |.i _,_,_,_,_,⟨e,e'⟩=>by subst e e';exact⟨_,[],[],[],rfl,rfl,⟨rfl,rfl,rfl⟩,rfl,rfl⟩
 |.b,_,_,_,_,⟨e,e'⟩=>by subst e e';exact⟨_,[],[],[],rfl,rfl,⟨rfl,rfl,rfl⟩,rfl,rfl⟩
 |.s,_,_,_,_,⟨e,e'⟩=>by subst e e';exact⟨_,[],[],[],rfl,rfl,⟨rfl,rfl,rfl⟩,rfl,rfl⟩
 |.sl _ _,_,_,_,h,_=>by simp[Dh]at h
 |.ow e r,xs,vs,bs,_,h=>by
  obtain⟨v,cs,b2,ev,hs,ho,hd,eb⟩:=h;subst ev;exact⟨v,[],bs,[],rfl,by simp,⟨v,cs,b2,rfl,hs,ho,hd,eb⟩,rfl,rfl⟩
 |.pr x y,p,_,_,h,⟨c,d,b1,b2,e,eb,h1,h2⟩=>by
  simp only[Dh,Va]at h;subst e eb;exact(Hx x p.1 c b1 h.1 h1).app (Hx y p.2 d b2 h.2 h2)
def G4a {e:TypeId} {r r':Ty} {xs:List r'.den} {ys:List r.den} {vs:List Value} {bs:List Nat} (hc:Js r r' xs=some ys) (h:(Ty.ow e r').dep P G w xs vs bs):(Ty.ow e r).dep P G w ys vs bs:=by
 rcases Pk hc with⟨e1,e2⟩|⟨e1,rfl,rfl⟩
 ·subst e1 e2;exact h
 ·obtain⟨v,cs,b2,ev,hs,ho,hd,eb⟩:=h
  have hsz:r'.sz=r.sz:=by rw[← Gl r',e1,Gl r]
  exact⟨v,cs,b2,ev,by rw[← hsz];exact hs,by rw[← hsz];exact ho,hd,eb⟩
def Jaa:∀ (t:Ty) (l l':List Lf) (x:t.den) (us:List Value) (bs:List Nat),Dh t=true→mkT t l=some (x,l')→Fl P G w l us bs→
  ∃ vs ws b1 b2,us=vs++ws∧bs=b1++b2∧t.dep P G w x vs b1∧Fl P G w l' ws b2:=by
 intro t
 induction t with
 |i k=>
  intro l l' x us bs _ h hl
  cases l with
  |nil=>simp[mkT]at h
  |cons y ys=>
   obtain⟨u,us',b1,b2,e1,e2,hy,hys⟩:=hl
   cases y<;>first|(simp[mkT]at h;done)|skip
   rename_i v
   cases v<;>first|(simp[mkT]at h;done)|skip
   rename_i k' n;simp only[mkT]at h
   by_cases hk:k=k'
   ·subst hk;simp at h;obtain⟨rfl,rfl⟩:=h;obtain⟨rfl,_,rfl⟩:=hy;exact⟨[_],us',[],b2,e1,e2,⟨rfl,rfl⟩,hys⟩
   ·simp[hk]at h
 |b=>
  intro l l' x us bs _ h hl
  cases l with
  |nil=>simp[mkT]at h
  |cons y ys=>
   obtain⟨u,us',b1,b2,e1,e2,hy,hys⟩:=hl
   cases y<;>first|(simp[mkT]at h;done)|skip
   rename_i v
   cases v<;>first|(simp[mkT]at h;done)|skip
   simp[mkT]at h;obtain⟨rfl,rfl⟩:=h;obtain⟨rfl,_,rfl⟩:=hy;exact⟨[_],us',[],b2,e1,e2,⟨rfl,rfl⟩,hys⟩
 |s=>
  intro l l' x us bs _ h hl
  cases l with
  |nil=>simp[mkT]at h
  |cons y ys=>
   obtain⟨u,us',b1,b2,e1,e2,hy,hys⟩:=hl
   cases y<;>first|(simp[mkT]at h;done)|skip
   rename_i v
   cases v<;>first|(simp[mkT]at h;done)|skip
   simp[mkT]at h;obtain⟨rfl,rfl⟩:=h;obtain⟨rfl,_,rfl⟩:=hy;exact⟨[_],us',[],b2,e1,e2,⟨rfl,rfl⟩,hys⟩
 |sl e r _=>intro l l' x us bs h;simp[Dh]at h
 |ow e r _=>
  intro l l' x us bs _ h hl
  cases l with
  |nil=>simp[mkT]at h
  |cons y ys=>
   obtain⟨u,us',b1,b2,e1,e2,hy,hys⟩:=hl
   cases y<;>first|(simp[mkT]at h;done)|skip
   rename_i e' r' xs;simp only[mkT]at h;rw[csi]at h;obtain⟨he,h⟩:=h;split at h
   ·rename_i zs hz;have:e=e':=Vb he;subst this;cases h;exact⟨[u],us',b1,b2,e1,e2,G4a hz hy,hys⟩
   ·cases h
 |pr x y ihx ihy=>
  intro l l' p us bs ha h hl;simp only[Dh,Va]at ha;simp only[mkT]at h;split at h
  ·rename_i q l1 h1;split at h
   ·rename_i q2 l2 h2;simp at h;obtain⟨rfl,rfl⟩:=h;obtain⟨vs,ws,b1,b2,rfl,rfl,r1,hw1⟩:=ihx _ _ _ _ _ ha.1 h1 hl;obtain⟨vs2,ws2,b3,b4,rfl,rfl,r2,hw2⟩:=ihy _ _ _ _ _ ha.2 h2 hw1;exact⟨vs++vs2,ws2,b1++b3,b4,by rw[Vj],by rw[Vj],⟨vs,vs2,b1,b3,rfl,rfl,r1,r2⟩,hw2⟩
   ·cases h
  ·cases h
def Qp {t:Ty} {l:List Lf} {x:t.den} {us:List Value} {bs:List Nat} (ha:Dh t=true) (h:mkW t l=some x) (hl:Fl P G w l us bs):t.dep P G w x us bs:=by
 unfold mkW at h;split at h
 ·rename_i y hy;simp at h;subst h;obtain⟨vs,ws,b1,b2,rfl,rfl,hr,hw⟩:=Jaa _ _ _ _ _ _ ha hy hl;obtain⟨rfl,rfl⟩:=hw;rw[Ye,Ye];exact hr
 ·cases h
def Nv:∀ {t:Ty} {j:Nat} {e:TypeId} {r:Ty},Dh t=true→nth (Dx t) j=some (.ow e r)→Dh r=true
 |.i _,0,_,_,_,h=>by simp[Dx,nth]at h
 |.i _,_+1,_,_,_,h=>by simp[Dx,nth]at h
 |.b,0,_,_,_,h=>by simp[Dx,nth]at h
 |.b,_+1,_,_,_,h=>by simp[Dx,nth]at h
 |.s,0,_,_,_,h=>by simp[Dx,nth]at h
 |.s,_+1,_,_,_,h=>by simp[Dx,nth]at h
 |.sl _ _,_,_,_,ha,_=>by simp[Dh]at ha
 |.ow _ _,0,_,_,ha,h=>by
  simp only[Dx,nth,Vc]at h;cases h;exact ha
 |.ow _ _,_+1,_,_,_,h=>by simp[Dx,nth]at h
 |.pr x y,j,e,r,ha,h=>by
  simp only[Dh,Va]at ha;rw[Et]at h;have h:(Dx x++Dx y)[j]? = some (.ow e r):=h
  by_cases hj:j<(Dx x).length
  ·rw[Yf hj,← Et]at h;exact Nv ha.1 h
  ·rw[Yd (by omega),← Et]at h;exact Nv ha.2 h
def Fl.set {l m:List Lf} {cs us:List Value} {bs mb:List Nat} {off:Nat} (h:Fl P G w l cs bs) (hm:Fl P G w m us mb) (hle:off+m.length≤l.length):
  ∃ ba bx bc,bs=ba++bx++bc∧Fl P G w (l.take off) (cs.take off) ba∧Fl P G w ((l.drop off).take m.length) ((cs.drop off).take m.length) bx∧
   Fl P G w (Vf.setAll l off m) (cs.take off++us++cs.drop (off+us.length)) (ba++mb++bc):=by
 have e0:l=l.take off++((l.drop off).take m.length++l.drop (off+m.length)):=by
  rw[← Wn,Wm,Wm]
 have h0:=h;rw[e0]at h0;obtain⟨b1,b2,e1,h1,h2⟩:=h0.split;obtain⟨b3,b4,e2,h3,h4⟩:=h2.split
 have l1:(l.take off).length=off:=by rw[Vl];omega
 have l2:((l.drop off).take m.length).length=m.length:=by rw[Vl,Vx];omega
 rw[l1]at h1 h3 h4;rw[l2]at h3 h4;subst e1 e2;refine⟨b1,b3,b4,by rw[Vj],h1,h3,?_⟩;unfold Vf.setAll;rw[hm.len];rw[Wn]at h4;exact(h1.app hm).app h4
def Bs.set {α:Type} {R:α→List Value→List Nat→Prop} {n:Nat} (hn:∀ x c b,R x c b→c.length=n):∀ {xs:List α} {cs:List Value} {bs:List Nat} (_:Bs R xs cs bs) (i:Nat) (x:α),xs[i]? = some x→
  ∃ ba b bc,bs=ba++b++bc∧R x ((cs.drop (i*n)).take n) b∧∀ (R':α→List Value→List Nat→Prop) (z:α) (c':List Value) (b':List Nat),R' z c' b'→(∀ y c b0,(∀ k∈b0,k∈ba∨k∈bc)→R y c b0→R' y c b0)→Bs R' (xs.set i z) (cs.take (i*n)++c'++cs.drop (i*n+n)) (ba++b'++bc)
 |[],_,_,_,i,x,hx=>by simp at hx
 |y::ys,_,_,⟨c,d,b1,b2,e,eb,h1,h2⟩,0,x,hx=>by
  simp at hx;subst hx e eb;have hl:=hn _ _ _ h1;refine⟨[],b1,b2,rfl,?_,λ R' z c' b' hz ho=>?_⟩
  ·simp only[Zh,Wj];rw[← hl,Oya];exact h1
  ·refine⟨c',d,b',b2,?_,rfl,hz,h2.mono (λ x c b hb hx=>ho x c b (λ k hk => .inr (hb k hk)) hx)⟩;simp only[Zh,Ota,Wf,Wb,← hl,Yw]
 |y::ys,_,_,⟨c,d,b1,b2,e,eb,h1,h2⟩,i+1,x,hx=>by
  subst e eb;have hl:=hn _ _ _ h1;obtain⟨ba,b,bc,e1,h3,h4⟩:=Bs.set hn h2 i x (by simpa using hx);subst e1
  have e2:(i+1)*n=c.length+i*n:=by rw[hl,Yg,Yk,Zd]
  refine⟨b1++ba,b,bc,by simp[Vj],?_,λ R' z c' b' hz ho=>?_⟩
  ·rw[e2,← Wn,Yw];exact h3
  ·refine⟨c,_,b1,ba++b'++bc,?_,by simp[Vj],ho y c b1 (λ k hk => .inl (Vt _ hk)) h1,h4 R' z c' b' hz (λ y c b0 hb hy=>ho y c b0 (λ k hk=>(hb k hk).imp (Vi _) id) hy)⟩;rw[e2,Ze,Yr,← Wn,Yw];simp[Vj]
end
end

section
attribute [local irreducible] C H
def I3a {cs us:List Value} {i sz off:Nat} (h1:i+sz≤cs.length) (h2:off+us.length≤sz):
  cs.take (i+off)++us++cs.drop (i+off+us.length)=cs.take i++(((cs.drop i).take sz).take off++us++((cs.drop i).take sz).drop (off+us.length))++cs.drop (i+sz):=by
 have e1:cs.take (i+off)=cs.take i++((cs.drop i).take sz).take off:=by
  rw[Zm,Zf (by omega),← List.take_add]
 have e2:cs.drop (i+off+us.length)=((cs.drop i).take sz).drop (off+us.length)++cs.drop (i+sz):=by
  rw[Pfa,Wn,← Yr]
  have:cs.drop (i+sz)=(cs.drop (i+off+us.length)).drop (sz-(off+us.length)):=by rw[Wn];congr 1;omega
  rw[this,Wm]
 rw[e1,e2];simp[Vj]
def Nw {L us:List Value} {j n:Nat} (h:j+us.length≤n) (hn:n≤L.length):(L.take j++us++L.drop (j+us.length)).take n=(L.take n).take j++us++(L.take n).drop (j+us.length):=by
 have hl:(L.take j++us).length=j+us.length:=by rw[Vh,Vl];omega
 rw[Zm,Zf (by omega),Pfa,List.take_append,Zb (by rw[hl];exact h),hl]
def Afa {l1 bx mb l2:List Nat} (h:(l1++bx++l2).Nodup) (hm:mb.Nodup) (hd:∀ k∈mb,k∉l1++bx++l2):(l1++mb++l2).Nodup:=by
 simp only[Yb,Vm,not_or]at h hd ⊢;obtain⟨⟨n1,n2,n3⟩,n4,n5⟩:=h;refine⟨⟨n1,hm,λ a ha b hb e=>(hd b hb).1.1 (e ▸ ha)⟩,n4,λ a ha b hb e=>?_⟩;rcases ha with ha|ha
 ·exact n5 a (.inl ha) b hb e
 ·exact(hd a ha).2 (e ▸ hb)
def Um {l1 bx mb l2:List Nat} (h:(l1++bx++l2).Nodup) (hm:mb.Nodup) (hd:∀ k∈mb,k∈l1++bx++l2→k∈bx):(l1++mb++l2).Nodup:=by
 simp only[Yb,Vm]at h hd ⊢;obtain⟨⟨n1,n2,n3⟩,n4,n5⟩:=h;refine⟨⟨n1,hm,λ a ha b hb e=>?_⟩,n4,λ a ha b hb e=>?_⟩
 ·subst e;exact n3 a ha a (hd a hb (.inl (.inl ha))) rfl
 ·subst e;rcases ha with ha|ha
  ·exact n5 a (.inl ha) a hb rfl
  ·exact n5 a (.inr (hd a ha (.inr hb))) a hb rfl
section
variable {P:Program} {G:Nat→Prop} {w:World}
def Fl.parts {l:List Lf} {cs:List Value} {bs:List Nat} {off z:Nat} (h:Fl P G w l cs bs) (hle:off+z≤l.length):
  ∃ ba bx bc,bs=ba++bx++bc∧Fl P G w (l.take off) (cs.take off) ba∧Fl P G w ((l.drop off).take z) ((cs.drop off).take z) bx∧Fl P G w (l.drop (off+z)) (cs.drop (off+z)) bc:=by
 have e0:l=l.take off++((l.drop off).take z++l.drop (off+z)):=by
  rw[← Wn,Wm,Wm]
 have h0:=h;rw[e0]at h0;obtain⟨b1,b2,e1,h1,h2⟩:=h0.split;obtain⟨b3,b4,e2,h3,h4⟩:=h2.split
 have l1:(l.take off).length=off:=by rw[Vl];omega
 have l2:((l.drop off).take z).length=z:=by rw[Vl,Vx];omega
 rw[l1]at h1 h3 h4;rw[l2]at h3 h4;rw[Wn]at h4;exact⟨b1,b3,b4,by rw[e1,e2,Vj],h1,h3,h4⟩
def Jba (cur:Array Value) (j:Nat) (us:List Value):Array Value:=(cur.toList.take j++us++cur.toList.drop (j+us.length)).toArray
def Aga {e:TypeId} {r:Ty} {xs:List r.den} {u:Value} {bs mb:List Nat} {k0 o n cap i off:Nat} {m:List Lf} {us:List Value} {z:r.den} (hd:(Ty.ow e r).dep P G w xs [u] bs) (hn:bs.Nodup) (ha:Dh r=true) (hu:u = .slice (some ⟨k0,o,none⟩) n cap) (hi:i<xs.length)
  (hm:Fl P G w m us mb) (hmn:mb.Nodup) (hdis:∀ k∈mb,k∉bs) (hz:mkW r (Vf.setAll (A4 r (xs.getD i r.dflt)) off m)=some z) (hle:off+m.length≤r.sz) (hG:∀ k∈bs,¬ G k):
  ∃ cur e0,w.heap[k0]? = some (.cells cur e0 (0,0))∧k0∈bs∧o=0∧i*r.sz+off+us.length≤cur.size∧
   ∃ bs',(Ty.ow e r).dep P G (w.setRow k0 (Jba cur (i*r.sz+off) us)) (xs.set i z) [u] bs'∧bs'.Nodup∧∀ k∈bs',k∈bs∨k∈mb:=by
 obtain⟨v,cs,b2,ev,hs,ho,hrows,eb⟩:=hd;simp only[Wp,and_true]at ev;subst ev;rcases Cl ho with⟨e1,_⟩|⟨k,cap',cur,e1,hc,h1,h2,h3,h4⟩
 ·rw[hu]at e1;cases e1
 ·rw[hu]at e1;cases e1
  have hob:u.ownBlock.toList=[k0]:=by rw[hu];rfl
  rw[hob]at eb;subst eb
  have hk0:k0∉b2:=by
   have:=hn;simp only[Ya,Ys]at this;exact this.1
  have hk0m:k0∉mb:=λ h=>hdis k0 h (by simp);have hul:=hm.len;have hlt:(i+1)*r.sz≤xs.length*r.sz:=Wa _ hi;have hcl:cs.length=xs.length*r.sz:=ho.1;have hcap:xs.length*r.sz≤cap*r.sz:=Wa _ h1;rw[Yg,Yk]at hlt
  let w':=w.setRow k0 (Jba cur (i*r.sz+off) us)
  have hold:∀ j,j≠k0→w'.heap[j]? = w.heap[j]? := λ j hj=>setRow_other _ _ _ _ hj;have hGh:∀ k,G k→w'.heap[k]? = w.heap[k]? := λ k hk=>hold k (λ e=>hG k0 (by simp) (e ▸ hk));obtain⟨ba,b,bc,e2,hx,hset⟩:=Bs.set (Ty.dep_len r) hrows i (xs.getD i r.dflt) (by rw[Vn,Vp hi];rfl);subst e2;have hlv:=Hx r _ _ _ ha hx;obtain⟨ba',bx,bc',e3,_,_,hnew⟩:=hlv.set (off:=off) hm (by rw[F5];exact hle);subst e3;have hz1:=Qp ha hz hnew
  have hz2:r.dep P G w' z (((cs.drop (i*r.sz)).take r.sz).take off++us++((cs.drop (i*r.sz)).take r.sz).drop (off+us.length)) (ba'++mb++bc'):=
   Ty.dep_mono (λ _ h=>h) hGh r _ _ _ (λ k hk=>hold k (λ e=>by
    subst e;simp only[Vm]at hk hk0;rcases hk with (hk|hk)|hk
    ·exact hk0 (.inl (.inr (.inl (.inl hk))))
    ·exact hk0m hk
    ·exact hk0 (.inl (.inr (.inr hk))))) hz1
  have hrows2:=hset (λ x c b=>r.dep P G w' x c b) z _ _ hz2 (λ y c b0 hb hy=>Ty.dep_mono (λ _ h=>h) hGh r y c b0 (λ k hk=>hold k (λ e=>by
   subst e;simp only[Vm]at hk0;rcases hb k hk with hk|hk
   ·exact hk0 (.inl (.inl hk))
   ·exact hk0 (.inr hk))) hy)
  rw[← I3a (by omega) (by omega)]at hrows2;refine⟨cur,e,hc,by simp,rfl,by omega,k0::(ba++(ba'++mb++bc')++bc),⟨u,_,_,rfl,hs,⟨?_,.inr ⟨k0,cap,_,by rw[Yl];exact hu,Wh _,setRow_heap _ _ _ _ _ _ hc,by rw[Yl];exact h1,h2,?_,?_⟩⟩,hrows2,by rw[hob];rfl⟩,?_,?_⟩
  ·simp only[Vh,Vl,Vx,Yl];omega
  ·simp only[Jba,Oqa,Vh,Vl,Vx,Yh];omega
  ·rw[Yl,← h4];exact Nw (n:=xs.length*r.sz) (by omega) (by have h9:cur.toList.length=cur.size:=Yh;omega)
  ·have:=Afa (l1:=k0::(ba++ba')) (bx:=bx) (mb:=mb) (l2:=bc'++bc) (by simpa[Vj] using hn) hmn (λ k hk h=>hdis k hk (by simpa[Vj] using h))
   simpa[Vj] using this
  ·intro k hk;simp only[Vk,Vm,Vz,Ya]at hk ⊢;rcases hk with hk|(hk|((hk|hk)|hk))|hk
   ·exact .inl (.inl hk)
   ·exact .inl (.inr (.inl (.inl hk)))
   ·exact .inl (.inr (.inl (.inr (.inl (.inl hk)))))
   ·exact .inr hk
   ·exact .inl (.inr (.inl (.inr (.inr hk))))
   ·exact .inl (.inr (.inr hk))
def Sq {e1:TypeId} {r1:Ty} {ys:List r1.den} {mb:List Nat} {k0 o n cap i off:Nat} {m:List Lf} {us:List Value} {z:r1.den} {Gm:Nat→Prop} (hi:i<ys.length)
  (hm:Fl P G w m us mb) (hmn:mb.Nodup) (hz:mkW r1 (Vf.setAll (A4 r1 (ys.getD i r1.dflt)) off m)=some z) (hle:off+m.length≤r1.sz) (hGm:∀ k∈mb,¬ G k):
  ∀ (q:List (Int×Nat)) (e:TypeId) (r:Ty) (xs xs':List r.den) (u:Value) (bs:List Nat),(Ty.ow e r).dep P G w xs [u] bs→bs.Nodup→Dh r=true→(∀ k∈mb,k∉bs)→(∀ k∈bs,¬ G k)→
   X7 q e r xs=some ⟨e1,r1,ys⟩→Jy Gm w q r u (.slice (some ⟨k0,o,none⟩) n cap)→A8a r1 (ys.set i z) q r xs=some xs'→
  ∃ cur e0,w.heap[k0]? = some (.cells cur e0 (0,0))∧k0∈bs∧o=0∧i*r1.sz+off+us.length≤cur.size∧
   ∃ bs',(Ty.ow e r).dep P G (w.setRow k0 (Jba cur (i*r1.sz+off) us)) xs' [u] bs'∧bs'.Nodup∧∀ k∈bs',k∈bs∨k∈mb
 |[],e,r,xs,xs',u,bs,hd,hn,ha,hdis,hG,hl,hh,hp=>by
  simp only[X7,Vc]at hl;cases hl;simp only[A8a]at hp;simp only[dite_true,Vc]at hp;subst hp;exact Aga hd hn ha (Eq.symm hh) hi hm hmn hdis hz hle hG
 |(i',j')::q,e,r,xs,xs',u,bs,hd,hn,ha,hdis,hG,hl,⟨k',o',n',cap',e3',r3',u3,hu,_,hcell,hsl,hh⟩,hp=>by
  simp only[X7]at hl;split at hl
  ·rename_i hrange;simp only[A8a]at hp;split at hl
   ·rename_i e3 r3 ws hw;rw[hw]at hp;simp only at hp;have:=Hw hw;rw[hsl]at this;cases this;split at hp
    ·rename_i ws' hws;split at hp
     ·rename_i z' hz';cases hp;obtain⟨v,cs,b2,ev,hs,ho,hrows,eb⟩:=hd;simp only[Wp,and_true]at ev;subst ev;rcases Cl ho with⟨e0,_⟩|⟨k,cap2,cur2,e0,hc,h1,h2,h3,h4⟩
      ·rw[hu]at e0;cases e0
      ·rw[hu]at e0;cases e0
       have hob:u.ownBlock.toList=[k']:=by rw[hu];rfl
       rw[hob]at eb;subst eb
       have hk':k'∉b2:=by
        have:=hn;simp only[Ya,Ys]at this;exact this.1
       have hnb2:b2.Nodup:=by
        have:=hn;simp only[Ya,Ys]at this;exact this.2
       have hcl:cs.length=xs.length*r.sz:=ho.1;have hlt:(i'.toNat+1)*r.sz≤xs.length*r.sz:=Wa _ hrange.2;rw[Yg,Yk]at hlt
       have hjl:j'<r.sz:=by
        rw[Et]at hw;have:=(We.1 hw).1;rwa [F5]at this
       have hgetx:xs[i'.toNat]? = some (xs.getD i'.toNat r.dflt):=by rw[Vn,Vp hrange.2];rfl
       obtain⟨ba0,b0,bc0,e20,hx0,hset⟩:=Bs.set (Ty.dep_len r) hrows i'.toNat _ hgetx;have hlv:=Hx r _ _ _ ha hx0;obtain⟨ba',bx,bc',e3,g1,g2,g3⟩:=hlv.parts (off:=j') (z:=1) (by rw[F5];omega)
       have hu3:((cs.drop (i'.toNat*r.sz)).take r.sz)[j']? = some u3:=by
        rw[Wd,if_pos hjl,Xs]
        have hj2:i'.toNat*r.sz+j'<cs.length:=by omega
        have:=F8 hc h4 (i'.toNat*r.sz+j') cs[i'.toNat*r.sz+j'] (Vp hj2);rw[hcell]at this;cases this;exact Vp hj2
       have hone:(List.take 1 (List.drop j' (A4 r (xs.getD i'.toNat r.dflt))))=[.own e3' r3' ws]:=by
        rw[Et]at hw;obtain⟨hh1,hh2⟩:=We.1 hw;rw[Yi hh1,hh2,Pka,Ota]
       have honeu:(List.take 1 (List.drop j' ((cs.drop (i'.toNat*r.sz)).take r.sz)))=[u3]:=by
        obtain⟨hh1,hh2⟩:=We.1 hu3;rw[Yi hh1,hh2,Pka,Ota]
       rw[hone,honeu]at g2;obtain⟨u4,us4,bb1,bb2,e5,e6,g4,e7,e8⟩:=g2;simp only[Wp]at e5;obtain⟨e5,e5'⟩:=e5;subst e5;subst e8;rw[Ye]at e6;subst e6;have ha3:Dh r3'=true:=Nv ha hsl
       have hsub:∀ k∈bx,k∈k'::b2:=λ k hk=>by rw[e20,e3];simp[hk]
       have hnx:bx.Nodup:=by
        have h0:bx.Sublist b2:=by
         rw[e20,e3];refine Pqa ?_ (P1a (ba0++(ba'++bx++bc')) bc0);refine Pqa ?_ (Zq ba0 _);refine Pqa ?_ (P1a (ba'++bx) bc');exact Zq ba' bx
        exact hnb2.sublist h0
       obtain⟨cur,e0,c1,c2,c3,c4,bs3,d1,d2,d3⟩:=Sq hi hm hmn hz hle hGm q e3' r3' ws ws' u3 bx g4 hnx ha3 (λ k hk h=>hdis k hk (hsub k h)) (λ k hk=>hG k (hsub k hk)) hl hh hws;refine⟨cur,e0,c1,hsub k0 c2,c3,c4,?_⟩;generalize hwe:w.setRow k0 (Jba cur (i*r1.sz+off) us)=w' at d1
       have hold:∀ j,j≠k0→w'.heap[j]? = w.heap[j]? := λ j hj=>by rw[← hwe];exact setRow_other _ _ _ _ hj
       have hGh:∀ k,G k→w'.heap[k]? = w.heap[k]? := λ k hk=>hold k (λ e=>hG k0 (hsub k0 c2) (e ▸ hk))
       have hnd:(ba0++(ba'++bx++bc')++bc0).Nodup:=by rw[← e3,← e20];exact hnb2
       have notin:∀ k,k∈ba0∨k∈bc0∨k∈ba'∨k∈bc'→k≠k0:=by
        intro k hk e9;subst e9;simp only[Yb,Vm]at hnd;obtain⟨⟨_,⟨⟨_,_,n3⟩,_,n5⟩,n6⟩,_,n8⟩:=hnd;rcases hk with hk|hk|hk|hk
        ·exact n6 k hk k (.inl (.inr c2)) rfl
        ·exact n8 k (.inr (.inl (.inr c2))) k hk rfl
        ·exact n3 k hk k c2 rfl
        ·exact n5 k (.inr c2) k hk rfl
       have g1':=Fl.mono (G':=G) (w':=w') (λ _ h=>h) hGh (λ k hk=>hold k (notin k (.inr (.inr (.inl hk))))) g1;have g3':=Fl.mono (G':=G) (w':=w') (λ _ h=>h) hGh (λ k hk=>hold k (notin k (.inr (.inr (.inr hk))))) g3;have hmid:Fl P G w' [.own e3' r3' ws'] [u3] bs3:=⟨u3,[],bs3,[],rfl,by simp,d1,rfl,rfl⟩;have hnew:=(g1'.app hmid).app g3';have hz3:=Qp ha hz' (by unfold Vf.setAll;exact hnew)
       have hcells:((cs.drop (i'.toNat*r.sz)).take r.sz).take j'++[u3]++((cs.drop (i'.toNat*r.sz)).take r.sz).drop (j'+1)=(cs.drop (i'.toNat*r.sz)).take r.sz:=by
        rw[← honeu,← Wn,Vj,Wm,Wm]
       rw[hcells]at hz3;have hrows2:=hset (λ x c b=>r.dep P G w' x c b) z' _ _ hz3 (λ y c b0 hb hy=>Ty.dep_mono (λ _ h=>h) hGh r y c b0 (λ k hk=>hold k (notin k ((hb k hk).imp id .inl))) hy)
       have hcs:cs.take (i'.toNat*r.sz)++(cs.drop (i'.toNat*r.sz)).take r.sz++cs.drop (i'.toNat*r.sz+r.sz)=cs:=by
        rw[← Wn,Vj,Wm,Wm]
       rw[hcs]at hrows2;have hkk:k'≠k0:=λ e9=>hk' (by rw[e20,e3];have:=c2;rw[e9];simp[this]);refine⟨k'::(ba0++(ba'++bs3++bc')++bc0),⟨u,cs,_,rfl,hs,?_,hrows2,by rw[hob];rfl⟩,?_,?_⟩
       ·rw[Yl];exact Ix ho (λ k hk=>hold k (by rw[hu]at hk;simp only[Value.ownBlock,Vc]at hk;rw[← hk];exact hkk))
       ·have hdis3:∀ k∈bs3,k∈(k'::(ba0++ba'))++bx++(bc'++bc0)→k∈bx:=λ k hk h=>by
         rcases d3 k hk with h9|h9
         ·exact h9
         ·exact absurd (by rw[e20,e3];simpa[Vj] using h) (hdis k h9)
        have hn2:((k'::(ba0++ba'))++bx++(bc'++bc0)).Nodup:=by
         have:=hn;rw[e20,e3]at this
         simpa[Vj] using this
        have:=Um hn2 d2 hdis3
        simpa[Vj] using this
       ·intro k hk;rw[e20,e3];simp only[Vk,Vm,Vz,Ya]at hk ⊢;rcases hk with hk|(hk|((hk|hk)|hk))|hk
        ·exact .inl (.inl hk)
        ·exact .inl (.inr (.inl (.inl hk)))
        ·exact .inl (.inr (.inl (.inr (.inl (.inl hk)))))
        ·rcases d3 k hk with hk|hk
         ·exact .inl (.inr (.inl (.inr (.inl (.inr hk)))))
         ·exact .inr hk
        ·exact .inl (.inr (.inl (.inr (.inr hk))))
        ·exact .inl (.inr (.inr hk))
     ·cases hp
    ·cases hp
   ·cases hl
  ·cases hl
end
end

section
attribute [local irreducible] C H
section
variable {X:Cx} {S S':Sit} {a:Act} {E:En} {A:Ab} {o:Oper} {R:Type} {Kc:List Up→Option R} {r:R}
structure J1 (X:Cx) (S S':Sit):Prop where
 w:S'.w=S.w
 bb:S'.bb=S.bb
 ph:S'.ph=S.ph
 later:Ci S S'
 bx:∀ b k,S.O k = .bx b→S'.O k = .bx b
 heads:∀ b n,(S.g (H b)).2 = .one (.hd n)→S'.g (H b)=S.g (H b)
 tms:∀ n q x u,Af X.P S (.tm n q) x u→Af X.P S' (.tm n q) x u
 tm:∀ n q k,S.O k = .tm n q→S'.O k = .tm n q
def J1.refl (S:Sit):J1 X S S:=⟨rfl,rfl,rfl,.refl S,λ _ _ h=>h,λ _ _ _=>rfl,λ _ _ _ _ h=>h,λ _ _ _ h=>h⟩
def J1.trans {S1 S2:Sit} (h:J1 X S S1) (h':J1 X S1 S2):J1 X S S2:=
 ⟨h'.w.trans h.w,h'.bb.trans h.bb,h'.ph.trans h.ph,h.later.trans h'.later,λ b k e=>h'.bx b k (h.bx b k e),λ b n e=>by
  have e1:=h.heads b n e
  exact(h'.heads b n (by rw[e1];exact e)).trans e1,λ n q x u hx=>h'.tms n q x u (h.tms n q x u hx),λ n q k hk=>h'.tm n q k (h.tm n q k hk)⟩
def Kg {A:Ab} {x:Lf} {l m:List Lf} {us:List Up} (hx:∀ p v,x ≠ .al p v) (h:Ge A (x::l)=some (m,us)):∃ m',m=x::m'∧Ge A l=some (m',us):=by
 have e:Ge A (x::l)=match Ge A l with|some (m,us)=>some (x::m,us)|none=>none:=by
  cases x<;>first|rfl|exact absurd rfl (hx _ _)
 rw[e]at h;split at h
 ·rename_i m' us' h';cases h;exact⟨m',rfl,h'⟩
 ·cases h
def Nx (i:Nat) (path:Nat→List Nat):∀ (l:List Lf) {S:Sit} {A:Ab} {j:Nat} {us:List Value} {m:List Lf} {vs:List Up},Ah X S a→S.g=get A→Ge A l=some (m,vs)→A5 X.P S (λ n => .tm i (path n)) j l us→
  ∃ S',Ah X S' a∧S'.g=get (ups A vs)∧J1 X S S'∧A5 X.P S' (λ n => .tm i (path n)) j m us
 |[],S,A,j,[],m,vs,K,hg,h,_=>by
  simp only[Ge,Vc,Vu]at h;obtain⟨rfl,rfl⟩:=h;exact⟨S,K,hg,.refl S,trivial⟩
 |[],S,A,j,_::_,m,vs,K,hg,h,hl=>hl.elim
 |_::_,S,A,j,[],m,vs,K,hg,h,hl=>hl.elim
 |x::l,S,A,j,u::us,m,vs,K,hg,h,hl=>by
  by_cases hal:∃ p v,x = .al p v
  ·obtain⟨p,v,rfl⟩:=hal;simp only[Ge]at h;split at h
   ·rename_i e r' xs hsn;obtain⟨p',v',e0,hp⟩:=Jf hsn (λ e r xs hy=>by cases hy);cases e0;split at h
    ·rename_i m' vs' hrec;cases h;have he:u=S.ph p:=hl.1.2 (by rw[hg,hp])
     let f:List Nat→Option (List Nat):=λ q=>match q with|[]=>some (path j)|_=>none
     have L1:=Ht S p i f (.one .dead);obtain⟨K1,h1,h2⟩:=Qj K p i f (.one .dead) (by simp) trivial
     have hown:Af X.P S (.pl p []) (.own e r' xs) (S.ph p):=by have:=K.at_ p;rw[hg,hp]at this;exact this
     have hown1:=h1 [] (path j) _ _ rfl hown
     have g1:(Lv S p i f (.one .dead)).g=get (up A ⟨p,false,.one .dead⟩):=by
      show upd S.g p _=_;rw[Hg,← hg];rfl
     have G1:J1 X S (Lv S p i f (.one .dead)):=⟨rfl,rfl,rfl,L1,λ b k hk=>(F4 (by simp[hk])).trans hk,λ b n hn=>Aa _ _ (λ e1=>by rw[e1,hg,hp]at hn;cases hn),h2,λ n q k hk=>(F4 (by simp[hk])).trans hk⟩;have hrest:A5 X.P (Lv S p i f (.one .dead)) (λ n => .tm i (path n)) (j+1) l us:=hl.2.imp (λ n x u hx=>h2 i (path n) x u hx);obtain⟨S2,K2,g2,G2,hl2⟩:=Nx i path l K1 g1 hrec hrest;refine⟨S2,K2,g2,G1.trans G2,?_,hl2⟩;rw[he];exact G2.tms _ _ _ _ hown1
    ·cases h
   ·cases h
  ·obtain⟨m',rfl,h'⟩:=Kg (λ p v e=>hal ⟨p,v,e⟩) h;obtain⟨S2,K2,g2,G2,hl2⟩:=Nx i path l K hg h' hl.2;exact⟨S2,K2,g2,G2,G2.tms _ _ _ _ hl.1,hl2⟩
def Cla (hE:Fo X E) (K:Ah X S a) (hg:S.g=get A) {T:TypeId} {y:Operand} {s:Sv} {m:List Lf} {vs:List Up} (hs:opT E T A y=some s) (hnt:∀ vs,s ≠ .tup vs) (h:Bia A y s=some (m,vs)) (i:Nat):
  ∃ S',Ah X S' a∧S'.g=get (ups A vs)∧J1 X S S'∧∃ us,M3 s (a.eval y) us∧A5 X.P S' (λ n => .tm i (pth s n)) 0 m us:=by
 unfold Bia at h;split at h
 ·rename_i m0 vs0 ht;cases h
  have first:∃ S1,Ah X S1 a∧S1.g=get (ups A (gone y s))∧J1 X S S1∧∃ us,M3 s (a.eval y) us∧A5 X.P S1 (λ n => .tm i (pth s n)) 0 (parts s) us:=by
   rcases H0 hE K hg hs with⟨t,rfl,htl,hst,het,hok⟩|⟨hnt',x,rfl,hx⟩
   ·cases ho:Hr s with
    |false=>
     have hgo:gone (.tmp t) s=[]:=by simp[gone,ho]
     refine⟨S,K,by rw[hgo];exact hg,.refl S,?_⟩
     cases s with
     |tup vs=>exact absurd rfl (hnt vs)
     |one x=>exact⟨[_],rfl,(A5.relab (f:=λ _ => .pl t []) ho ⟨hok,trivial⟩)⟩
     |agg l=>
      obtain⟨us,e1,hl⟩:=hok;exact⟨us,e1,hl.relab ho⟩
    |true=>
     have hgo:gone (.tmp t) s=[⟨t,false,.one .dead⟩]:=by simp[gone,ho]
     obtain⟨K1,h1,h2⟩:=Hh K t i;have G1:J1 X S (Gw S t i):=⟨rfl,rfl,rfl,Gn S t i,λ b k hk=>(Ec (by simp[hk])).trans hk,λ b n hn=>Aa _ _ (λ e1=>by rw[e1,← hst]at hn;subst hn;simp[Hr,Cm]at ho),h2,λ n q k hk=>(Ec (by simp[hk])).trans hk⟩;refine⟨_,K1,?_,G1,?_⟩
     ·rw[hgo,A7,← hg];rfl
     ·cases s with
      |tup vs=>exact absurd rfl (hnt vs)
      |one x=>exact⟨[_],rfl,h1 [] x _ hok,trivial⟩
      |agg l=>
       obtain⟨us,e1,hl⟩:=hok;exact⟨us,e1,hl.imp (λ n x u hx=>h1 [n] x u hx)⟩
   ·have hgo:gone y (.one x)=[]:=by
     unfold gone;split
     ·exact absurd rfl (hnt' _)
     ·rfl
    exact⟨S,K,by rw[hgo];exact hg,.refl S,[_],rfl,hx _,trivial⟩
  obtain⟨S1,K1,g1,G1,us,hsh,hl⟩:=first
  obtain⟨S2,K2,g2,G2,hl2⟩:=Nx i (pth s) (parts s) K1 g1 ht hl;exact⟨S2,K2,by rw[Ae];exact g2,G1.trans G2,us,hsh,hl2⟩
 ·cases h
def Ji {P:Program} {S:Sit} {f:Nat→Lab}:∀ {m:List Lf} {j:Nat} {us:List Value},K8 m=true→A5 P S f j m us→(∀ n n',j≤n→n<j+m.length→j≤n'→n'<j+m.length→f n=f n'→n=n')→
  ∃ mb,Fl P (λ k=>S.O k = .fz) S.w m us mb∧mb.Nodup∧∀ k∈mb,∃ n,j≤n∧n<j+m.length∧S.O k=f n
 |[],j,[],_,_,_=>⟨[],⟨rfl,rfl⟩,by simp,by simp⟩
 |[],j,_::_,_,h,_=>h.elim
 |_::_,j,[],_,h,_=>h.elim
 |x::m,j,u::us,ho,h,hi=>by
  have hrest:K8 m=true:=by cases x<;>first|(simp[K8]at ho;done)|simpa[K8] using ho
  obtain⟨mb,h1,h2,h3⟩:=Ji hrest h.2 (λ n n' a1 a2 a3 a4 e=>hi n n' (by omega) (by simp only[Vg];omega) (by omega) (by simp only[Vg];omega) e)
  have hx:∃ b,Lka P (λ k=>S.O k = .fz) S.w x u b∧b.Nodup∧∀ k∈b,S.O k=f j:=by
   cases x with
   |sc v=>exact⟨[],⟨h.1.1,h.1.2,rfl⟩,by simp,by simp⟩
   |own e r xs=>exact h.1
   |_=>simp[K8]at ho
  obtain⟨b,b1,b2,b3⟩:=hx;refine⟨b++mb,⟨u,us,b,mb,rfl,rfl,b1,h1⟩,?_,λ k hk=>?_⟩
  ·rw[Yb];refine⟨b2,h2,λ k hk k' hk' e=>?_⟩;subst e;obtain⟨n,n1,n2,n3⟩:=h3 k hk';have:=hi j n (Vo _) (by simp) (by omega) (by simp only[Vg];omega) ((b3 k hk).symm.trans n3);omega
  ·rcases Vm.1 hk with hk|hk
   ·exact⟨j,Vo _,by simp,b3 k hk⟩
   ·obtain⟨n,n1,n2,n3⟩:=h3 k hk;exact⟨n,by omega,by simp only[Vg];omega,n3⟩
def Cma {s:Sv} {m:List Lf} {i:Nat} (hnt:∀ vs,s ≠ .tup vs) (hl:m.length=(parts s).length):∀ n n',0≤n→n<0+m.length→0≤n'→n'<0+m.length→Lab.tm i (pth s n) = .tm i (pth s n')→n=n':=by
 intro n n' _ h1 _ h2 e
 cases s with
 |one x=>simp only[parts,Vg,Vs]at hl;omega
 |agg l=>simpa[pth] using e
 |tup vs=>exact absurd rfl (hnt vs)
def M4:∀ (l:List Lf) {A:Ab} {m:List Lf} {us:List Up},Ge A l=some (m,us)→m.length=l.length
 |[],A,m,us,h=>by
  simp only[Ge,Vc,Vu]at h;obtain⟨rfl,_⟩:=h;rfl
 |x::l,A,m,us,h=>by
  by_cases hal:∃ p v,x = .al p v
  ·obtain⟨p,v,rfl⟩:=hal;simp only[Ge]at h;split at h
   ·split at h
    ·rename_i m' vs' hrec;cases h;simp[M4 l hrec]
    ·cases h
   ·cases h
  ·obtain⟨m',rfl,h'⟩:=Kg (λ p v e=>hal ⟨p,v,e⟩) h;simp[M4 l h']
def N6 {y:Operand} {s:Sv} {m:List Lf} {us:List Up} (h:Bia A y s=some (m,us)):m.length=(parts s).length:=by
 unfold Bia at h;split at h
 ·rename_i m0 vs0 ht;cases h;exact M4 _ ht
 ·cases h
def toP (p:Nat):Nat→List Nat→Option Lab:=λ n _=>if n=0 then some (.pl p []) else none
def Ah.rewriteD (K:Ah X S a) {p n:Nat} {e:TypeId} {r':Ty} {xs ys:List r'.den} {w':World} (hp:S.g p=(n,.one (.own e r' xs))) (hold:∀ j o',S.O j=o'→o' ≠ .pl p []→w'.heap[j]? = S.w.heap[j]?)
  (hsz:w'.heap.size=S.w.heap.size) (h1:w'.os=S.w.os) (h2:w'.tape=S.w.tape) (h3:w'.output=S.w.output) (hown:Ch X.P (atO S.O (toP p)) w' (.pl p []) e r' ys (S.ph p)):
  Ah X { S with O:=atO S.O (toP p),g:=upd S.g p (n+1,.one (.own e r' ys)),w:=w' } a:=by
 have keep:∀ k o',S.O k=o'→(∀ n q,o' ≠ .tm n q)→atO S.O (toP p) k=o':=λ k o' h h'=>Al h h'
 have L:Ci S { S with O:=atO S.O (toP p),g:=upd S.g p (n+1,.one (.own e r' ys)),w:=w' }:=by
  refine⟨λ q=>?_,λ _ _=>rfl,λ q v e2 r2 xs' hq hv=>?_,λ _ _=>rfl,λ j hj=>⟨keep j _ hj (by simp),hold j _ hj (by simp)⟩,Ci.box_of (λ b m hv hh=>?_) (λ j b h=>⟨keep j _ h (by simp),hold j _ h (by simp)⟩),λ q hv hd=>?_,λ _ _=>rfl⟩
  ·show _≤(upd S.g p _ q).1
   by_cases h:q=p
   ·subst h;rw[A8,hp];exact Zj _
   ·rw[Aa _ _ h];exact Vo _
  ·have hq':upd S.g p (n+1,.one (.own e r' ys)) q=(v,.one (.own e2 r2 xs')):=hq
   by_cases h:q=p
   ·subst h;rw[A8]at hq';cases hq';rw[hp]at hv;simp at hv
   ·rw[Aa _ _ h]at hq';exact⟨xs',hq',rfl⟩
  ·have hb:H b≠p:=λ e=>by subst e;rw[hp]at hh;cases hh
   exact(congrArg Prod.snd (Aa _ _ hb)).trans hh
  ·have hv':(upd S.g p (n+1,.one (.own e r' ys)) q).1=(S.g q).1:=hv
   have h:q≠p:=λ e=>by subst e;rw[A8,hp]at hv';simp at hv'
   have e1:({ S with O:=atO S.O (toP p),g:=upd S.g p (n+1,.one (.own e r' ys)),w:=w' }:Sit).g q=S.g q:=Aa _ _ h;rw[e1];exact⟨hd,λ _ _ _ h=>h,λ k hk=>⟨.inl (keep k _ hk (by simp)),hold k _ hk (by simp[h])⟩⟩
 have F:=K.fr;refine⟨K.nt,λ j hj=>?_,λ l=>?_,λ b m hb=>?_,λ b m hb=>?_,K.sl,K.sz,K.df,⟨h1.trans F.os,h2.trans F.tape,h3.trans F.out,?_,λ j hj h0=>?_,λ j hj h0=>?_,λ j b hj h0=>?_⟩,K.io⟩
 ·show j<w'.heap.size;rw[hsz];refine K.lt j (λ e=>hj (keep j _ e (by simp)))
 ·show Fi X.P _ l (upd S.g p _ l).2 _
  by_cases h:l=p
  ·subst h;rw[A8];exact hown
  ·rw[Aa _ _ h];exact(K.at_ l).later L (λ q j hj=>⟨keep j _ hj (by simp),hold j _ hj (by simp[h])⟩)
 ·have hne:H b≠p:=by
   intro e2;have:(upd S.g p (n+1,.one (.own e r' ys)) (H b)).2 = .one (.hd m):=hb;rw[e2,A8]at this;cases this
  have hb':(S.g (H b)).2 = .one (.hd m):=by
   have:(upd S.g p (n+1,.one (.own e r' ys)) (H b)).2 = .one (.hd m):=hb;rwa [Aa _ _ hne]at this
  obtain⟨hn,c,e1,e2,e3,e4⟩:=K.box b m hb';exact⟨hn,c,e1,(hold _ _ e3 (by simp)).trans e2,keep _ _ e3 (by simp),e4⟩
 ·have hne:H b≠p:=by
   intro e2;have:(upd S.g p (n+1,.one (.own e r' ys)) (H b)).2 = .one (.hd m):=hb;rw[e2,A8]at this;cases this
  have hb':(S.g (H b)).2 = .one (.hd m):=by
   have:(upd S.g p (n+1,.one (.own e r' ys)) (H b)).2 = .one (.hd m):=hb;rwa [Aa _ _ hne]at this
  exact K.rgn b m hb'
 ·show _≤w'.heap.size;rw[hsz];exact F.size
 ·obtain⟨f1,f2⟩:=F.no j hj h0;exact⟨keep j _ f1 (by simp),(hold j _ f1 (by simp)).trans f2⟩
 ·obtain⟨f1,f2⟩:=F.fz j hj h0;exact⟨keep j _ f1 (by simp),(hold j _ f1 (by simp)).trans f2⟩
 ·obtain⟨f1,c,c',e1,f,f2,f3,f4,f5⟩:=F.bx j b hj h0;exact⟨keep j _ f1 (by simp),c,c',e1,f,f2,(hold j _ f1 (by simp)).trans f3,f4,f5⟩
def Aha (K:Ah X S a) {p v:Nat} {q:List (Int×Nat)} {e:TypeId} {r1:Ty} {xs:List r1.den} {i:Int} {off:Nat} {h u:Value} {E0:TypeId} {R0:Ty} {XS XS':List R0.den} {m:List Lf} {us:List Value} {path:Nat→List Nat} {z:r1.den}
  (hp:S.g p=(v,.one (.own E0 R0 XS))) (hda:Bka X.P S p v (some q) e r1 xs h) (hdp:0≤i∧i.toNat<xs.length∧∃ k o cap,h = .slice (some ⟨k,o,none⟩) xs.length cap∧u = .pointer (some ⟨k,o+(i.toNat*r1.sz+off),none⟩))
  (hall:Dh R0=true) (ho:K8 m=true) (hl:A5 X.P S (λ n => .tm 0 (path n)) 0 m us) (hinj:∀ n n',0≤n→n<0+m.length→0≤n'→n'<0+m.length→Lab.tm 0 (path n) = .tm 0 (path n')→n=n')
  (hz:mkW r1 (Vf.setAll (A4 r1 (xs.getD i.toNat r1.dflt)) off m)=some z) (hle:off+m.length≤r1.sz) (hput:A8a r1 (xs.set i.toNat z) q R0 XS=some XS'):
  ∃ k j cur e0,u = .pointer (some ⟨k,j,none⟩)∧S.w.heap[k]? = some (.cells cur e0 (0,0))∧j+us.length≤cur.size∧
   Ah X { S with O:=atO S.O (toP p),g:=upd S.g p (v+1,.one (.own E0 R0 XS')),w:=S.w.setRow k (Jba cur j us) } a:=by
 obtain⟨i0,i1,k,o,cap,e1,e2⟩:=hdp;obtain⟨d1,_,d2⟩:=hda;obtain⟨_,_,hpath⟩:=d2 (by rw[hp]);obtain⟨f1,f2⟩:=hpath q rfl E0 R0 XS (by rw[hp])
 have hown:Ch X.P S.O S.w (.pl p []) E0 R0 XS (S.ph p):=by have:=K.at_ p;rw[hp]at this;exact this
 obtain⟨bs,hd,hn,hb⟩:=hown;obtain⟨mb,m1,m2,m3⟩:=Ji ho hl hinj
 have hmt:∀ k∈mb,∃ n,S.O k = .tm 0 (path n):=λ k hk=>by obtain⟨n,_,_,h⟩:=m3 k hk;exact⟨n,h⟩
 rw[e1]at f2
 obtain⟨cur,e0,c1,c2,c3,c4,bs',g1,g2,g3⟩:=Sq (i:=i.toNat) (off:=off) i1 m1 m2 hz hle (λ k hk hf=>by obtain⟨n,hn⟩:=hmt k hk;rw[hn]at hf;cases hf) q E0 R0 XS XS' (S.ph p) bs hd hn hall
  (λ k hk hk'=>by obtain⟨n,hn⟩:=hmt k hk;rw[hb k hk']at hn;cases hn) (λ k hk hf=>by rw[hb k hk]at hf;cases hf) f1 f2 hput
 subst c3;refine⟨k,i.toNat*r1.sz+off,cur,e0,by rw[e2,Wb],c1,c4,?_⟩;have hkl:=hb k c2;refine K.rewriteD hp (λ j o' hj ho'=>setRow_other _ _ _ _ (λ e=>ho' (by rw[← hj,e];exact hkl))) (by simp[World.setRow]) rfl rfl rfl ⟨bs',?_,g2,λ j hj=>?_⟩
 ·refine Ty.dep_mono (G:=λ k=>S.O k = .fz) (w:=S.w.setRow k (Jba cur (i.toNat*r1.sz+off) us)) (λ j hj=>Al hj (by simp)) (λ _ _=>rfl) (.ow E0 R0) XS' _ bs' (λ _ _=>rfl) g1
 ·rcases g3 j hj with h9|h9
  ·exact Al (hb j h9) (by simp)
  ·obtain⟨n,hn⟩:=hmt j h9;exact F3 hn (by simp[toP])
end
end

end Go.Proofs.Ytbbifgjgneefkaa.Vf
