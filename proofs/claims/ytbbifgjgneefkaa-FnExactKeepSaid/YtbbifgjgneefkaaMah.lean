import Derived.Test.YtbbifgjgneefkaaMag
set_option linter.all false
namespace Go.Proofs.Ytbbifgjgneefkaa.Vf
open Go
open List (length getD)
open Int (toNat)
open Go.IntKind (wrap)
open BitVec (ofInt)
def Yx:=@Array.getElem?_eq_some_iff
def Zs:=@List.mem_of_getElem?
def Qba:=@Array.getElem?_append

section
attribute [local irreducible] C H
structure O8 (X:Cx) (E:En):Prop where
 en:Fo X E
 call:∀ f en,E.call f=some en→Hk X.P f en
section
variable {X:Cx} {S S1 S2:Sit} {a:Act} {E:En} {A:Ab} {o:Oper} {R:Type} {Kc:List Up→Option R} {r:R}
def D8a (hV:O8 X E) (K:Ah X S a) (hg:S.g=get A) (hd:∀ d,o.dst=some d→d<X.nt) (h:Ai E o A Kc=some r):Er X o a S.w A Kc r:=by
 have hE:=hV.en
 cases ho:o.op with
 |call c=>
  cases hc:c.callee with
  |builtin b=>
   cases b with
   |len=>exact Lja hE K hg ho hc hd h
   |min=>exact Sj hE K hg false ho hc hd h
   |max=>exact Sj hE K hg true ho hc hd h
   |append=>exact Cxa hE K hg ho hc hd h
   |_=>unfold Ai at h;rw[ho]at h;simp only[hc]at h;cases h
  |value f=>
   cases f with
   |func f=>exact Jpa hE hV.call K hg ho hc hd h
   |tmp t=>exact Gpa hE hV.call K hg ho hc hd h
   |_=>unfold Ai at h;rw[ho]at h;simp only[hc]at h;cases h
  |invoke x m=>unfold Ai at h;rw[ho]at h;simp only[hc]at h;cases h
 |makeFunc fn x y=>cases fn with
  |func f=>cases hod:o.dst with
   |none=>unfold Ai at h;rw[ho,hod]at h;cases h
   |some d=>exact Ux hE K hg ho hod (hd d hod) h
  |_=>unfold Ai at h;rw[ho]at h;cases hod:o.dst<;>(rw[hod]at h;cases h)
 |store T x y=>
  cases hod:o.dst with
  |none=>exact Gba hE K hg ho hod h
  |some d=>unfold Ai at h;rw[ho,hod]at h;cases h
 |move x=>cases hod:o.dst with
  |none=>unfold Ai at h;rw[ho,hod]at h;cases h
  |some d=>exact J5a hE K hg ho hod (hd d hod) h
 |assign x=>cases hod:o.dst with
  |none=>unfold Ai at h;rw[ho,hod]at h;cases h
  |some d=>exact Cba hE K hg ho hod (hd d hod) h
 |pick c x y=>cases hod:o.dst with
  |none=>unfold Ai at h;rw[ho,hod]at h;cases h
  |some d=>exact J7a hE K hg ho hod (hd d hod) h
 |binOp op T x y T'=>cases hod:o.dst with
  |none=>unfold Ai at h;rw[ho,hod]at h;cases h
  |some d=>exact Fya hE K hg ho hod (hd d hod) h
 |unOp op T x=>cases hod:o.dst with
  |none=>unfold Ai at h;rw[ho,hod]at h;cases h
  |some d=>exact J6a hE K hg ho hod (hd d hod) h
 |convert T T' x=>cases hod:o.dst with
  |none=>unfold Ai at h;rw[ho,hod]at h;cases h
  |some d=>exact Aia hE K hg ho hod (hd d hod) h
 |nilCheck x=>cases hod:o.dst with
  |none=>unfold Ai at h;rw[ho,hod]at h;cases h
  |some d=>exact Uj hE K hg ho hod (hd d hod) h
 |extract x j=>cases hod:o.dst with
  |none=>unfold Ai at h;rw[ho,hod]at h;cases x<;>cases h
  |some d=>cases x with
   |tmp t=>exact Ada hE K hg ho hod (hd d hod) h
   |_=>unfold Ai at h;rw[ho,hod]at h;cases h
 |field T x j=>cases hod:o.dst with
  |none=>unfold Ai at h;rw[ho,hod]at h;cases x<;>cases h
  |some d=>cases x with
   |tmp t=>exact G1a hE K hg ho hod (hd d hod) h
   |_=>unfold Ai at h;rw[ho,hod]at h;cases h
 |build T ps=>cases hod:o.dst with
  |none=>unfold Ai at h;rw[ho,hod]at h;cases h
  |some d=>exact Gea hE K hg ho hod (hd d hod) h
 |alloc T=>cases hod:o.dst with
  |none=>unfold Ai at h;rw[ho,hod]at h;cases h
  |some d=>exact Gca hE K hg ho hod (hd d hod) h
 |box T x=>cases hod:o.dst with
  |none=>unfold Ai at h;rw[ho,hod]at h;cases h
  |some d=>exact Lna hE K hg ho hod (hd d hod) h
 |load T x=>cases hod:o.dst with
  |none=>unfold Ai at h;rw[ho,hod]at h;cases h
  |some d=>exact J9a hE K hg ho hod (hd d hod) h
 |fieldAddr T x j=>cases hod:o.dst with
  |none=>unfold Ai at h;rw[ho,hod]at h;cases h
  |some d=>exact Sk hE K hg ho hod (hd d hod) h
 |indexAddr T x i=>cases hod:o.dst with
  |none=>unfold Ai at h;rw[ho,hod]at h;cases h
  |some d=>
   cases hop:E.opn d with
   |true=>exact Ss hE K hg ho hod (hd d hod) hop h
   |false=>exact Sm hE K hg ho hod (hd d hod) hop h
 |index T x i=>cases hod:o.dst with
  |none=>unfold Ai at h;rw[ho,hod]at h;cases h
  |some d=>exact Fza hE K hg ho hod (hd d hod) h
 |slice T x lo hi mx=>cases hod:o.dst with
  |none=>unfold Ai at h;rw[ho,hod]at h;cases mx<;>cases h
  |some d=>cases mx with
   |none=>exact G2a hE K hg ho hod (hd d hod) h
   |some m=>unfold Ai at h;rw[ho,hod]at h;cases h
 |buildSlice T n ps=>cases hod:o.dst with
  |none=>unfold Ai at h;rw[ho,hod]at h;cases h
  |some d=>exact Qu hE K hg ho hod (hd d hod) h
 |makeSlice T x y=>cases hod:o.dst with
  |none=>unfold Ai at h;rw[ho,hod]at h;cases h
  |some d=>exact Su hE K hg ho hod (hd d hod) h
 |_=>unfold Ai at h;rw[ho]at h;cases hod:o.dst<;>(rw[hod]at h;cases h)
def I8a (hE:Fo X E) (K:Ah X S a) (hg:S.g=get A) (hd:S7 E o=true):∃ S',Ah X S' (a.put o.dst undef)∧S'.g=get (Kw o A)∧S'.w=S.w:=by
 unfold Kw;unfold S7 at hd
 cases hod:o.dst with
 |none=>exact⟨S,K,hg,rfl⟩
 |some d=>
  rw[hod]at hd;have hdl:d<X.nt:=hE.nt ▸ (Vd hd:d+1≤E.nt);refine⟨_,K.put0 hdl (.one .un) undef 0 rfl rfl,?_,rfl⟩;show upd S.g d _=_;rw[Hg,← hg];rfl
def Nwa (X:Cx) (Q:Exit→Act→World→Prop) (K:Ab→Option R) (r:R):Prop:=∀ S a A,Ah X S a→S.g=get A→K A=some r→Q .normal a S.w
def O9 {A:Ab} {d n:Nat} {v:Bool} (h:get A d=(n,.one (.sc (.bool v)))):get (lit A d n v)=get A:=by
 funext k;unfold lit;simp only[get]
 by_cases hk:k=d
 ·subst hk;simp[h]
 ·have:Nat.beq d k=false:=by
   cases hb:Nat.beq d k with
   |false=>rfl
   |true=>exact absurd (Vb hb).symm hk
  simp[this]
def R7 (hV:O8 X E) {ops:Array Oper} {Q:Exit→Act→World→Prop}:∀ (l:List Nat) {S:Sit} {a:Act} {A:Ab} {K:Ab→Option R} {r:R},Ah X S a→S.g=get A→Nk E ops.toList l A K=some r→Nwa X Q K r→wpOps X.P ops Q l a S.w
 |[],S,a,A,K,r,hK,hg,h,hQ=>hQ S a A hK hg h
 |i::l,S,a,A,K,r,hK,hg,h,hQ=>by
  rw[wpOps_cons];unfold Nk at h;rw[Et]at h;unfold wpOp;split at h
  ·cases h
  ·rename_i o ho
   have ho':ops[i]? = some o:=by simpa using ho
   rw[ho'];simp only;obtain⟨hd,h⟩:=cs h
   have hdl:∀ d,o.dst=some d→d<X.nt:=λ d hod=>by
    unfold S7 at hd;rw[hod]at hd;exact hV.en.nt ▸ (Vd hd:d+1≤E.nt)
   have go:∀ {A:Ab},S.g=get A→Ai E o A (λ U=>Nk E ops.toList l (ups A U) K)=some r→o.wp X.P a S.w (wpOps X.P ops Q l) Q:=by
    intro A hg h;obtain⟨U,hU,hgo⟩:=D8a hV hK hg hdl h;exact hgo _ _ (λ S' a' K' g'=>R7 hV l K' g' hU hQ)
   have skip:∀ {A:Ab},S.g=get A→Nk E ops.toList l (Kw o A) K=some r→wpOps X.P ops Q l (a.put o.dst undef) S.w:=by
    intro A hg h;obtain⟨S',K',g',w'⟩:=I8a hV.en hK hg hd;rw[← w'];exact R7 hV l K' g' h hQ
   split at h
   ·rename_i hgd
    have hw:Region.wanted o (yielded ops a.tmps)=true:=by unfold Region.wanted;rw[hgd]
    rw[if_pos hw];exact .inl (go hg h)
   ·rename_i j want hgd;split at h
    ·cases h
    ·rename_i dj hdj
     have hdj':(ops[j]?).bind (·.dst)=some dj:=by
      unfold Bwa at hdj;rw[Et]at hdj
      have:ops.toList[j]? = ops[j]? := by simp
      rw[this]at hdj
      cases hj:ops[j]? with
      |none=>rw[hj]at hdj;cases hdj
      |some oj=>rw[hj]at hdj;simpa using hdj
     obtain⟨hb,h⟩:=cs h;have hjl:dj<X.nt:=hV.en.nt ▸ (Vd hb:dj+1≤E.nt)
     have htm:a.tmps[dj]? = some (S.ph dj):=by
      have h1:=hK.sl dj hjl
      have h2:dj<a.tmps.size:=by rw[hK.sz];exact hjl
      rw[← h1,Wg,Zr h2];rfl
     have hy:yielded ops a.tmps j=(match S.ph dj with | .bool b=>some b|_=>none):=by
      unfold yielded;rw[hdj',Vy,htm]
      cases S.ph dj<;>rfl
     have hwd:Region.wanted o (yielded ops a.tmps)=((match S.ph dj with | .bool b=>some b|_=>none)==some want):=by
      unfold Region.wanted;rw[hgd];simp only;rw[hy]
     split at h
     ·rename_i n b hgt
      have hph:S.ph dj = .bool b:=by
       have:=hK.at_ dj;rw[hg,hgt]at this;exact this.1
      rw[hph]at hwd
      have hgl:S.g=get (lit A dj n b):=by rw[O9 hgt];exact hg
      cases b with
      |true=>
       rw[cond_true]at h
       cases want with
       |true=>
        rw[cond_true]at h;rw[if_pos (by rw[hwd];rfl)];exact .inl (go hgl h)
       |false=>
        rw[cond_false]at h;rw[if_neg (by rw[hwd];decide)];exact skip hgl h
      |false=>
       rw[cond_false]at h
       cases want with
       |true=>
        rw[cond_true]at h;rw[if_neg (by rw[hwd];decide)];exact skip hgl h
       |false=>
        rw[cond_false]at h;rw[if_pos (by rw[hwd];rfl)];exact .inl (go hgl h)
     ·rename_i n hgt
      have hph:S.ph dj=undef:=by
       have:=hK.at_ dj;rw[hg,hgt]at this;exact this
      rw[hph]at hwd;rw[if_neg (by rw[hwd];simp[undef])];exact skip hg h
     ·cases h
end
end

section
attribute [local irreducible] C H
def Xy:Ex→Exit
 |.normal => .normal
 |.exit i => .exit i
 |.ret => .ret
def N6a {J:Nat→Prop}:∀ n,J n→∃ m,J m∧(∀ k,J k→m≤k):=by
 intro n
 induction n using Nat.strongRecOn with
 |_ n ih=>
  intro hn
  by_cases h:∃ m,m<n∧J m
  ·obtain⟨m,hm,hj⟩:=h;exact ih m hm hj
  ·exact⟨n,hn,λ k hk=>Nat.le_of_not_lt (λ hlt=>h ⟨k,hlt,hk⟩)⟩
open Classical in
def Asa {P:Program} {c:Code} {Q:Exit→Act→World→Prop} (J:Nat→Act→World→Prop) {n:Nat} {a:Act} {w:World} (h0:J n a w)
  (round:∀ n a w,J n a w→c.wp P (Exit.then (λ a' w'=>∃ m,m<n∧J m a' w') Q) a w):(Code.loop c).wp P Q a w:=by
 let μ:Act→World→Nat:=λ a w=>if h:∃ m,J m a w∧(∀ k,J k a w→m≤k) then Classical.choose h else 0
 have hμ:∀ a w n,J n a w→J (μ a w) a w∧(∀ k,J k a w→μ a w≤k):=by
  intro a w n hn;have h:=N6a (J:=λ m=>J m a w) n hn
  have e:μ a w=Classical.choose h:=by simp only[μ];rw[dif_pos h]
  rw[e];exact Classical.choose_spec h
 refine wp_loop (λ a w=>∃ n,J n a w) μ ⟨n,h0⟩ ?_;rintro a w ⟨n,hn⟩;obtain⟨h1,h2⟩:=hμ a w n hn;refine wp_mono (round (μ a w) a w h1) ?_;intro e a' w' hq
 cases e<;>first|exact hq|skip
 obtain⟨m,hm,hj⟩:=hq;refine⟨⟨m,hj⟩,Nat.lt_of_le_of_lt ((hμ a' w' m hj).2 m hj) hm⟩
section
variable {X:Cx} {S S1 S2:Sit} {a:Act} {E:En} {A:Ab} {o:Oper} {R:Type} {Kc:List Up→Option R} {r:R}
def Hd (O:Nat→Lab) (vs:List (Nat×Ty)):Nat→Lab:=λ k=>match O k with
 |.pl p []=>if Ky vs p then .pl p [] else .fz
 |o=>o
def Gr {O:Nat→Lab} {vs:List (Nat×Ty)} {k:Nat} {o:Lab} (h:O k=o) (ho:∀ p,o ≠ .pl p []):Hd O vs k=o:=by
 unfold Hd;rw[h]
 cases o<;>first|rfl|skip
 rename_i l p
 cases p<;>first|rfl|exact absurd rfl (ho _)
def R8 {P:Program} {S:Sit} {lab:Lab} {t:Ty} {z:Lf} {x:t.den} {y:Lf} {u:Value} (hw:mkW t [z]=some x) (hy:A4 t x=[y]) (hz:Af P S lab z u) (ho:L0a t=true∨z.isOwn=false):Af P S lab y u:=by
 cases t with
 |pr p q=>
  have h1:=Dw (.pr p q) x;rw[hy]at h1;have:=Iq p;have:=Iq q;have h2:1=p.sz+q.sz:=h1;omega
 |ow e r=>
  have h1:A5 P S (λ _=>lab) 0 (A4 (.ow e r) x) [u]:=H3 (by trivial) hw ⟨hz,trivial⟩;rw[hy]at h1;exact h1.1
 |i k=>
  cases z<;>first|(simp[mkW,mkT]at hw;done)|skip
  rename_i v
  cases v<;>first|(simp[mkW,mkT]at hw;done)|skip
  rename_i k' n;unfold mkW at hw;simp only[mkT]at hw
  by_cases hk:k=k'
  ·subst hk;simp only[decide_true,cond_true,Vc]at hw;subst hw;simp only[A4,Wp,and_true]at hy;subst hy;exact hz
  ·simp[hk]at hw
 |b=>
  cases z<;>first|(simp[mkW,mkT]at hw;done)|skip
  rename_i v
  cases v<;>first|(simp[mkW,mkT]at hw;done)|skip
  unfold mkW at hw;simp only[mkT,Vc]at hw;subst hw;simp only[A4,Wp,and_true]at hy;subst hy;exact hz
 |s=>
  cases z<;>first|(simp[mkW,mkT]at hw;done)|skip
  rename_i v
  cases v<;>first|(simp[mkW,mkT]at hw;done)|skip
  unfold mkW at hw;simp only[mkT,Vc]at hw;subst hw;simp only[A4,Wp,and_true]at hy;subst hy;exact hz
 |sl e r=>
  simp only[A4,Wp,and_true]at hy;subst hy
  cases z<;>first|(simp[mkW,mkT]at hw;done)|skip
  ·rename_i e' r' xs;unfold mkW at hw;simp only[mkT]at hw;cases hb:Nat.beq e e'
   ·rw[hb]at hw;simp at hw
   rw[hb,cond_true]at hw;have he:e=e':=Vb hb;subst he
   cases hc:K7 r r' xs with
   |none=>rw[hc]at hw;simp at hw
   |some ys=>
    rw[hc]at hw;cases hw;exact Kz hc hz
  ·simp[L0a,Lf.isOwn]at ho
def Ata {vs:List (Nat×Ty)} {l:Nat} {t:Ty} (hm:(l,t)∈vs) (ht:L0a t=true):Ky vs l=true:=by
 unfold Ky;rw[List.any_eq_true];refine⟨(l,t),hm,?_⟩
 cases t<;>first|(simp[L0a]at ht;done)|simp
def Jqa (K:Ah X S a) (hg:S.g=get A) {all:List (Nat×Ty)} {l:Nat} {t:Ty} {x:t.den} (hm:(l,t)∈all) (h:Fra A all l t=some x):
  ∀ y,A4 t x=[y]→Af X.P { S with O:=Hd S.O all } (.pl l []) y (S.ph l):=by
 intro y hy;have hfz:∀ k,S.O k = .fz→Hd S.O all k = .fz:=λ k hk=>Gr hk (by simp)
 have L:Ci S { S with O:=Hd S.O all }:=⟨λ _=>Vo _,λ _ _=>rfl,λ p v e r xs' h _=>⟨xs',h,rfl⟩,λ _ _=>rfl,λ k hk=>⟨hfz k hk,rfl⟩,Ci.box_of (λ _ _ _ h=>h) (λ k b h=>⟨Gr h (by simp),rfl⟩),λ p _ hd=>⟨hd,λ _ _ _ h=>h,λ k hk=>by
  refine⟨?_,rfl⟩
  cases hkp:Ky all p with
  |true=>exact .inl (by show Hd S.O all k=_;unfold Hd;rw[hk];simp[hkp])
  |false=>exact .inr (by show Hd S.O all k=_;unfold Hd;rw[hk];simp[hkp])⟩,λ _ _=>rfl⟩
 have hat:=K.at_ l;rw[hg]at hat
 have frz:∀ (p:Nat) (e:TypeId) (r:Ty) (xs:List r.den),Ky all p=false→Ch X.P S.O S.w (.pl p []) e r xs (S.ph p)→Af X.P { S with O:=Hd S.O all } .fz (.fz e r xs) (S.ph p):=by
  intro p e r xs hk ho
  exact ho.reads (O':=Hd S.O all) hfz (λ k hkk=>by
   unfold Hd;rw[hkk]
   simp[hk])
 unfold Fra at h;split at h
 ·rename_i p v hgl;rw[hgl]at hat;have hat':Af X.P S (.pl l []) (.al p v) (S.ph l):=hat;cases hk:Ky all p
  case true=>rw[hk]at h;simp at h
  rw[hk,cond_false]at h
  have hz:Af X.P { S with O:=Hd S.O all } .fz (Hn (G5 A (.al p v))) (S.ph l):=by
   simp only[G5];split
   ·rename_i n e r xs hp;cases hb:Nat.beq n v
    ·exact trivial
    have hnv:n=v:=by simpa using hb
    subst hnv;rw[cond_true,hat'.2 (by rw[hg,hp])];have h3:=K.at_ p;rw[hg,hp]at h3;exact frz p e r xs hk h3
   ·rename_i n e r xs hp;cases hb:Nat.beq n v
    ·exact trivial
    have hnv:n=v:=by simpa using hb
    subst hnv;rw[cond_true,hat'.2 (by rw[hg,hp])];have h3:=K.at_ p;rw[hg,hp]at h3;exact Ty.rep_mono (t := .sl e r) hfz (λ _ _=>rfl) _ _ h3
   ·exact trivial
  have hno:(Hn (G5 A (.al p v))).isOwn=false:=by cases G5 A (.al p v)<;>rfl
  have:=R8 h hy hz (.inr hno)
  have hyo:y.isOwn=false:=by
   cases t<;>first|(simp[A4]at hy;subst hy;rfl)|skip
   ·cases hs:Hn (G5 A (.al p v)) with
    |own e r xs=>rw[hs]at hno;simp[Lf.isOwn]at hno
    |_=>rw[hs]at h;simp[mkW,mkT]at h
   ·rename_i p q;have h1:=Dw (.pr p q) x;rw[hy]at h1;have:=Iq p;have:=Iq q;have h2:1=p.sz+q.sz:=h1;omega
  exact this.relab hyo
 ·rename_i e r xs hgl;rw[hgl]at hat;have hat':Ch X.P S.O S.w (.pl l []) e r xs (S.ph l):=hat
  cases hot:L0a t with
  |true=>
   rw[hot,cond_true]at h;have hkl:=Ata hm hot;have hz:Af X.P { S with O:=Hd S.O all } (.pl l []) (.own e r xs) (S.ph l):=Af.later (x := .own e r xs) L hat (λ k hk=>⟨by show Hd S.O all k=_;unfold Hd;rw[hk];simp[hkl],rfl⟩);exact R8 h hy hz (.inl hot)
  |false=>
   rw[hot,cond_false]at h;cases hk:Ky all l
   case true=>rw[hk]at h;simp at h
   rw[hk,cond_false]at h;have:=R8 h hy (Af.relab (lab' := .pl l []) rfl (frz l e r xs hk hat')) (.inr rfl);exact this
 ·rename_i z _ hno hgl;rw[hgl]at hat;have hat':Af X.P S (.pl l []) z (S.ph l):=hat
  have hzo:z.isOwn=false:=by
   cases z<;>first|rfl|exact(hno _ _ _ rfl).elim|skip
   all_goals
    exfalso
    cases t<;>first|(simp[mkW,mkT]at h;done)|skip
    rename_i p q;have h1:=Dw (.pr p q) x;rw[hy]at h1;have:=Iq p;have:=Iq q;have h2:1=p.sz+q.sz:=h1;omega
  have hz:Af X.P { S with O:=Hd S.O all } (.pl l []) z (S.ph l):=(Af.relab (lab' := .fz) hzo hat').later (lab' := .fz) L (λ k hk=>⟨hfz k hk,rfl⟩) |>.relab hzo;exact R8 h hy hz (.inr hzo)
 ·cases h
end
end

section
attribute [local irreducible] C H
section
variable {X:Cx} {S S1 S2:Sit} {a:Act} {E:En} {A:Ab} {o:Oper} {R:Type} {Kc:List Up→Option R} {r:R}
def Mc {Q:Nat→Nat×Sv→Prop} (h0:∀ l,Q l (0,.one .dead)):∀ (B:Ab),(∀ e∈B,Q e.1 e.2)→∀ l,Q l (get B l)
 |[],_,l=>h0 l
 |(k,n,s)::B,h,l=>by
  simp only[get]
  cases hb:Nat.beq k l with
  |true=>
   have:k=l:=Vb hb;subst this;exact h (k,n,s) (by simp)
  |false=>exact Mc h0 B (λ e he=>h e (Ve _ he)) l
def Nb (A:Ab) (all:List (Nat×Ty)):∀ (t:Ty) (l:Nat) (x:t.den),L1a A all l t=some x→
  ∀ e∈C1a l t x,∃ t',∃ z:t'.den,∃ y,(e.1,t')∈Fsa l t∧Fra A all e.1 t'=some z∧A4 t' z=[y]∧e.2=(0,.one y)
 |.pr ta tb,l,x,h=>by
  intro e he;simp only[L1a]at h;split at h
  ·rename_i x1 h1;split at h
   ·rename_i x2 h2;cases h;rcases Vm.1 he with he|he
    ·obtain⟨t',z,y,g1,g2⟩:=Nb A all ta l x1 h1 e he;exact⟨t',z,y,Vt _ g1,g2⟩
    ·obtain⟨t',z,y,g1,g2⟩:=Nb A all tb (l+ta.sz) x2 h2 e he;exact⟨t',z,y,Vi _ g1,g2⟩
   ·cases h
  ·cases h
 |.i k,l,x,h=>λ e he=>by rw[Vz.1 he];exact⟨.i k,x,_,Vz.2 rfl,h,rfl,rfl⟩
 |.b,l,x,h=>λ e he=>by rw[Vz.1 he];exact⟨.b,x,_,Vz.2 rfl,h,rfl,rfl⟩
 |.s,l,x,h=>λ e he=>by rw[Vz.1 he];exact⟨.s,x,_,Vz.2 rfl,h,rfl,rfl⟩
 |.sl q r,l,x,h=>λ e he=>by rw[Vz.1 he];exact⟨.sl q r,x,_,Vz.2 rfl,h,rfl,rfl⟩
 |.ow q r,l,x,h=>λ e he=>by rw[Vz.1 he];exact⟨.ow q r,x,_,Vz.2 rfl,h,rfl,rfl⟩
def T1:∀ (vs:List (Nat×Ty)) (all:List (Nat×Ty)) (x:Den (vs.map Prod.snd)),Fta A all vs=some x→
  ∀ e∈S8 vs x,∃ t,∃ z:t.den,∃ y,(e.1,t)∈Qe vs∧Fra A all e.1 t=some z∧A4 t z=[y]∧e.2=(0,.one y)
 |[],_,_,_=>by simp[S8]
 |[v],all,x,h=>λ e he=>by
  obtain⟨t,z,y,h1,h2⟩:=Nb A all v.2 v.1 x h e he;exact⟨t,z,y,Vt _ h1,h2⟩
 |v::w::l,all,x,h=>by
  simp only[Fta]at h;split at h
  ·rename_i x1 hx1;split at h
   ·rename_i x2 hx2;cases h;intro e he;rcases Vm.1 he with he|he
    ·obtain⟨t,z,y,h1,h2⟩:=Nb A all v.2 v.1 x1 hx1 e he;exact⟨t,z,y,Vt _ h1,h2⟩
    ·obtain⟨t,z,y,h1,h2,h3,h4⟩:=T1 (w::l) all x2 hx2 e he;exact⟨t,z,y,Vi _ h1,h2,h3,h4⟩
   ·cases h
  ·cases h
def Lj:∀ (cs:List (Nat×Lf)),C0a A cs=true→∀ c∈cs,
  (∃ b off v,c.2 = .bp b 0 off∧(get A c.1).2 = .one (.bp b v off)∧(get A (H b)).1=v)∨(∃ m,c.2 = .hd m∧(get A c.1).2 = .one (.hd m))∨
   (∃ F bs bs',c.2 = .fn F bs∧(get A c.1).2 = .one (.fn F bs')∧Ub bs bs'=true∧He A bs'=true)∨∃ p,c.2 = .io p∧(get A c.1).2 = .one (.io p)
 |[],_,c,hc=>by simp at hc
 |(l,z)::cs,h,c,hc=>by
  cases z with
  |bp b v0 off=>
   simp only[C0a,Va]at h;obtain⟨h1,h2⟩:=h;rcases Vk.1 hc with rfl|hc
   ·split at h1
    ·rename_i n b' v off' hg;simp only[Va]at h1;obtain⟨⟨⟨e1,e2⟩,e3⟩,e4⟩:=h1;have e1:v0=0:=Vb e1;have e2:b=b':=Vb e2;have e3:off=off':=Vb e3;subst e1 e2 e3;split at e4
     ·rename_i n' m' hh;have:n'=v:=Vb e4;refine .inl ⟨b,off,v,rfl,by rw[hg],by rw[hh,this]⟩
     ·cases e4
    ·cases h1
   ·exact Lj cs h2 c hc
  |hd m=>
   simp only[C0a,Va]at h;obtain⟨h1,h2⟩:=h;rcases Vk.1 hc with rfl|hc
   ·split at h1
    ·rename_i n m' hg;have:m=m':=Vb h1;subst this;exact .inr (.inl ⟨m,rfl,by rw[hg]⟩)
    ·cases h1
   ·exact Lj cs h2 c hc
  |fn F bs=>
   simp only[C0a,Va]at h;obtain⟨h1,h2⟩:=h;rcases Vk.1 hc with rfl|hc
   ·split at h1
    ·rename_i n F' bs' hg;simp only[Va]at h1;have e1:F=F':=Vb h1.1.1;subst e1;exact .inr (.inr (.inl ⟨F,bs,bs',rfl,by rw[hg],h1.1.2,h1.2⟩))
    ·cases h1
   ·exact Lj cs h2 c hc
  |io p=>
   simp only[C0a,Va]at h;obtain⟨h1,h2⟩:=h;rcases Vk.1 hc with rfl|hc
   ·split at h1
    ·rename_i n p' hg;have e1:p=p':=Vb h1;subst e1;exact .inr (.inr (.inr ⟨p,rfl,by rw[hg]⟩))
    ·cases h1
   ·exact Lj cs h2 c hc
  |_=>simp[C0a]at h
def D9a {S S':Sit} {A:Ab} (hg:S.g=get A) (hb:S'.bb=S.bb):∀ {bs bs':List (Nat×Nat)} {us:List Value},Ub bs bs'=true→He A bs'=true→Nq S bs' us→Nq S' bs us
 |[],[],us,_,_,h=>h
 |[],_::_,_,h,_,_=>by simp[Ub]at h
 |_::_,[],_,h,_,_=>by simp[Ub]at h
 |a::bs,c::bs',us,hs,ha,h=>by
  obtain⟨u,us',e,⟨h1,h2⟩,h3⟩:=h;simp only[Ub,Va]at hs;simp only[He,Va]at ha;have e1:a.1=c.1:=Vb hs.1.1;have e2:a.2=0:=Vb hs.1.2;refine⟨u,us',e,⟨by rw[e2];exact Wh _,λ _=>?_⟩,D9a hg hb hs.2 ha.2 h3⟩;rw[hb,e1];exact h2 (by rw[hg];exact Vb ha.1)
def T2 {v:Ru} {x:v.den} {e:Nat×Nat×Sv} (h:e∈Mw v x):e∈S8 v.vs x∨∃ c∈v.cs,e=(c.1,0,.one c.2):=by
 rcases Vm.1 h with h|h
 ·exact .inl h
 ·obtain⟨c,hc,rfl⟩:=Za.1 h;exact .inr ⟨c,hc,rfl⟩
def Daa (K:Ah X S a) (hg:S.g=get A) {v:Ru} {x:v.den} (h:J0a v A=some x):∃ S',Ah X S' a∧S'.g=get (Mw v x)∧S'.w=S.w:=by
 unfold J0a at h;obtain⟨hc,h⟩:=cs h;have hfz:∀ k,S.O k = .fz→Hd S.O (Qe v.vs) k = .fz:=λ k hk=>Gr hk (by simp);have hmem:=T1 v.vs (Qe v.vs) x h;have hcm:=Lj v.cs hc;refine⟨{ S with O:=Hd S.O (Qe v.vs),g:=get (Mw v x) },K.ghost _ _ (λ k e=>Gr e (by simp)) (λ k e1 e2=>e1 (Gr e2 (by simp))) hfz (λ k b e=>Gr e (by simp)) (λ b n hb=>?_) ?_,rfl,rfl⟩
 ·-- a box that is Gk was one
  have key:∀ l,(∀ n,(get (Mw v x) l).2 = .one (.hd n)→(S.g l).2 = .one (.hd n)):=by
   refine Mc (Q:=λ l s=>∀ n,s.2 = .one (.hd n)→(S.g l).2 = .one (.hd n)) (λ l n hn=>by cases hn) _ (λ e he n hn=>?_);rcases T2 he with he|⟨c,hcc,rfl⟩
   ·obtain⟨t,z,y,_,_,h3,h4⟩:=hmem e he;rw[h4]at hn;have hy:=Gf t z y (by rw[h3];simp);simp only[Sv.one.injEq]at hn;rw[hn]at hy;simp[Df]at hy
   ·rcases hcm c hcc with⟨b',off,v',e1,_⟩|⟨m,e1,e2⟩|⟨F,bs,bs',e1,_⟩|⟨p,e1,_⟩
    rotate_left 2
    ·rw[e1]at hn;cases hn
    ·rw[e1]at hn;cases hn
    ·rw[e1]at hn;cases hn
    ·rw[e1]at hn;cases hn;rw[hg];exact e2
  exact key _ n hb
 ·refine Mc (Q:=λ l s=>Fi X.P { S with O:=Hd S.O (Qe v.vs),g:=get (Mw v x) } l s.2 (S.ph l)) (λ l=>trivial) _ (λ e he=>?_);rcases T2 he with he|⟨c,hcc,rfl⟩
  ·obtain⟨t,z,y,h1,h2,h3,h4⟩:=hmem e he;rw[h4];have hy:=Gf t z y (by rw[h3];simp);exact Af.bare (S1 := { S with O:=Hd S.O (Qe v.vs) }) hy rfl (λ k hk=>hk) (λ k hk=>hk) (Jqa K hg h1 h2 y h3)
  ·rcases hcm c hcc with⟨b',off,v',e1,e2,e3⟩|⟨m,e1,e2⟩|⟨F,bs,bs',e1,e2,e3,e4⟩|⟨p,e1,e2⟩
   rotate_left 3
   ·rw[e1];have hat:=K.at_ c.1;rw[hg,e2]at hat;exact(hat:Af X.P S (.pl c.1 []) (.io p) (S.ph c.1))
   rotate_left 2
   ·rw[e1];have hat:=K.at_ c.1;rw[hg,e2]at hat;obtain⟨us,h5,h6⟩:Af X.P S (.pl c.1 []) (.fn F bs') (S.ph c.1):=hat;exact⟨us,h5,D9a (S' := { S with O:=Hd S.O (Qe v.vs),g:=get (Mw v x) }) hg rfl e3 e4 h6⟩
   ·rw[e1];have hat:=K.at_ c.1;rw[hg,e2]at hat;have hat':Af X.P S (.pl c.1 []) (.bp b' v' off) (S.ph c.1):=hat;refine⟨Wh _,λ _=>hat'.2 (by rw[hg];exact e3)⟩
   ·rw[e1];trivial
def N7a (X:Cx) (Q:Exit→Act→World→Prop) (K:Ex→Ab→Option R) (r:R):Prop:=∀ e S a A,Ah X S a→S.g=get A→K e A=some r→Q (Xy e) a S.w
def T3 (X:Cx) (L:Lp) (c:Code):Prop:=∀ x y,L.run x=some y→∀ S a,Ah X S a→S.g=get (Mw L.ins x)→∀ Q:Exit→Act→World→Prop,
 (∀ e A S' a',J1a (λ e A=>some (e,A)) L.alts y=some (e,A)→Ah X S' a'→S'.g=get A→Q (Xy e) a' S'.w)→(Code.loop c).wp X.P Q a S.w
def Hc (X:Cx) (E:En):Code→Prop
 |.seq a b=>Hc X E a∧Hc X E b
 |.cond _ a b=>Hc X E a∧Hc X E b
 |.block _ c=>Hc X E c
 |.loop c=>∀ L,E.lp (first c)=some L→T3 X L c
 |_=>True
def T4 (X:Cx) (E:En):Prop:=∀ {R:Type} (id:Nat) (ops:Array Oper) (Q:Exit→Act→World→Prop) (S:Sit) (a:Act) (A:Ab) (K:Ab→Option R) (r:R),Ah X S a→S.g=get A→Hya E ops.toList A K=some r→Nwa X Q K r→(Code.region id ops true).wp X.P Q a S.w
def T5 {K:Ex→Ab→Option R}:∀ (l:List (Ex×Ru)) (y:Foa l) (r:R),J1a K l y=some r→∃ e A,J1a (λ e A=>some (e,A)) l y=some (e,A)∧K e A=some r
 |[],y,_,_=>nomatch y
 |[b],y,r,h=>⟨_,_,rfl,h⟩
 |b::b2::l,.inl y,r,h=>⟨_,_,rfl,h⟩
 |b::b2::l,.inr z,r,h=>T5 (b2::l) z r h
def Gra {A:Ab} {c:Operand} {b:Bool} (h:opT E 0 A c=some (.one (.sc (.bool b)))):get (Mwa E A c b)=get A:=by
 cases c with
 |tmp t=>
  unfold Mwa;cases E.rf
  ·rfl
  have h:(bif Nat.blt t E.nt then some (get A t).2 else none)=some (.one (.sc (.bool b))):=h;cases hb:Nat.blt t E.nt
  ·rw[hb]at h;cases h
  rw[hb,cond_true,Vc]at h;funext l;show (bif Nat.beq t l then _ else get A l)=get A l;cases hl:Nat.beq t l
  ·rfl
  rw[← Vb hl,cond_true,cond_true,← h]
 |_=>rfl
def T6 (hV:O8 X E) (hD:T4 X E):∀ (c:Code) {S:Sit} {a:Act} {A:Ab} {Q:Exit→Act→World→Prop} {R:Type} {K:Ex→Ab→Option R} {r:R},Hc X E c→Ah X S a→S.g=get A→Hf E c A K=some r→N7a X Q K r→c.wp X.P Q a S.w:=by
 intro c
 induction c with
 |skip=>intro S a A Q R K r hL hK hg h hQ;exact wp_skip (hQ .normal S a A hK hg h)
 |region id ops draw=>
  intro S a A Q R K r hL hK hg h hQ;unfold Hf at h;obtain⟨A1,S1,h,K1,g1,w1⟩:=Hy hV.en _ hK hg h;rw[← w1]
  cases draw with
  |true=>exact hD id ops Q S1 a A1 _ r K1 g1 h (λ S' a' A' K' g' h'=>hQ .normal S' a' A' K' g' h')
  |false=>exact wp_region (R7 hV _ K1 g1 h (λ S' a' A' K' g' h'=>hQ .normal S' a' A' K' g' h'))
 |seq x y ihx ihy=>
  intro S a A Q R K r hL hK hg h hQ;unfold Hf at h;refine wp_seq (ihx hL.1 hK hg h (λ e S' a' A' K' g' h'=>?_))
  cases e with
  |normal=>exact ihy hL.2 K' g' h' hQ
  |exit i=>exact hQ (.exit i) S' a' A' K' g' h'
  |ret=>exact hQ .ret S' a' A' K' g' h'
 |cond x y z ihy ihz=>
  intro S a A Q R K r hL hK hg h hQ;unfold Hf at h;split at h
  ·rename_i b hx;have e1:=(Hi hV.en hK hg hx).1;have hg2:=hg.trans (Gra hx).symm
   cases b with
   |true=>exact wp_cond_true e1 (ihy hL.1 hK hg2 h hQ)
   |false=>exact wp_cond_false e1 (ihz hL.2 hK hg2 h hQ)
  ·cases h
 |block id c ih=>
  intro S a A Q R K r hL hK hg h hQ;unfold Hf at h;refine wp_block (ih hL hK hg h (λ e S' a' A' K' g' h'=>?_))
  cases e with
  |normal=>exact hQ .normal S' a' A' K' g' h'
  |exit i=>
   show (if i=id then Q .normal a' S'.w else Q (.exit i) a' S'.w);simp only at h'
   cases hb:Nat.beq i id with
   |true=>
    rw[hb,cond_true]at h';rw[if_pos (Vb hb)];exact hQ .normal S' a' A' K' g' h'
   |false=>
    rw[hb,cond_false]at h';rw[if_neg (λ e=>by rw[e]at hb;simp at hb)];exact hQ (.exit i) S' a' A' K' g' h'
  |ret=>exact hQ .ret S' a' A' K' g' h'
 |loop c ih=>
  intro S a A Q R K r hL hK hg h hQ;unfold Hf at h;split at h
  ·rename_i L hLp;obtain⟨A0,S0,h,hK,hg,w0⟩:=Hy hV.en _ hK hg h;rw[← w0];split at h
   ·rename_i x hx
    cases hr:L.run x with
    |none=>rw[hr]at h;simp at h
    |some y=>
     rw[hr]at h;simp only[Vy]at h;obtain⟨S1,K1,g1,w1⟩:=Daa hK hg hx;rw[← w1];obtain⟨e0,A0,h0,h1⟩:=T5 L.alts y r h;refine hL L hLp x y hr S1 a K1 g1 Q (λ e A' S' a' h2 K' g'=>?_);rw[h0]at h2;cases h2;exact hQ _ S' a' _ K' g' h1
   ·cases h
  ·cases h
 |exit id=>intro S a A Q R K r hL hK hg h hQ;exact wp_exit (hQ (.exit id) S a A hK hg h)
 |ret=>intro S a A Q R K r hL hK hg h hQ;exact wp_ret (hQ .ret S a A hK hg h)
 |_=>intro S a A Q R K r hL hK hg h hQ;unfold Hf at h;cases h
end
end

section
attribute [local irreducible] C H
section
variable {X:Cx} {E:En} {A:Ab}
def I9a {e e':Ex} (h:exB e e'=true):e=e':=by
 cases e<;>cases e'<;>first|rfl|(simp[exB]at h;done)|skip
 simp only[exB]at h;rw[Vb h]
def Xz {e:Ex} {A:Ab}:∀ (l:List (Ex×Ru)) (y:Foa l),Aca e A l=some y→∃ v,∃ z:v.den,J1a (λ e A=>some (e,A)) l y=some (e,Mw v z)∧J0a v A=some z
 |[],y,_=>nomatch y
 |[b],y,h=>by
  simp only[Aca]at h;obtain⟨hb,h⟩:=cs h;exact⟨b.2,y,by rw[I9a hb];rfl,h⟩
 |b::b2::l,y,h=>by
  simp only[Aca]at h
  cases hb:exB e b.1 with
  |true=>
   rw[hb,cond_true]at h;split at h
   ·rename_i x hx;cases h;exact⟨b.2,x,by rw[I9a hb];rfl,hx⟩
   ·cases h
  |false=>
   rw[hb,cond_false]at h;split at h
   ·rename_i x hx;cases h;exact Xz (b2::l) x hx
   ·cases h
def Jra {ins:Ru} {alts:List (Ex×Ru)} {f:Nat→ins.den→Option (Foa alts)} {En':Nat→En} {c:Code} (h0:∀ x,f 0 x=none) (hs:∀ k x,C2a (En' k) ⟨ins,alts,f k⟩ c x=f (k+1) x)
  (hV:∀ k,O8 X (En' k)) (hD:∀ k,T4 X (En' k)) (hL:∀ k,Hc X (En' k) c):∀ k,T3 X ⟨ins,alts,f k⟩ c:=by
 intro k x y hy S a K hg Q hQ
 let J:Nat→Act→World→Prop:=λ n a w=>∃ x y S,f n x=some y∧Ah X S a∧S.g=get (Mw ins x)∧S.w=w∧
  (∀ e A S' a',J1a (λ e A=>some (e,A)) alts y=some (e,A)→Ah X S' a'→S'.g=get A→Q (Xy e) a' S'.w)
 refine Asa J (n:=k) ⟨x,y,S,hy,K,hg,rfl,hQ⟩ ?_;rintro n a w ⟨x,y,S,hy,K,hg,rfl,hQ⟩
 cases n with
 |zero=>rw[h0]at hy;cases hy
 |succ m=>
  rw[← hs]at hy;unfold C2a at hy;refine T6 (hV m) (hD m) c (hL m) K hg hy (λ e S' a' A' K' g' h'=>?_)
  have ends:∀ {e:Ex},I6 (En' m) ((En' m).gh (1000001+first c)) A' (λ A=>Aca e A alts)=some y→Q (Xy e) a' S'.w:=by
   intro e h;obtain⟨A',S2,h,K',g',w2⟩:=Hy (hV m).en _ K' g' h;rw[← w2];obtain⟨v,z,h1,h2⟩:=Xz alts y h;obtain⟨S1,K1,g1,w1⟩:=Daa K' g' h2;rw[← w1];exact hQ e _ S1 a' h1 K1 g1
  cases e with
  |normal=>
   obtain⟨A',S2,h',K',g',w2⟩:=Hy (hV m).en _ K' g' h';split at h'
   ·rename_i x' hx';obtain⟨S1,K1,g1,w1⟩:=Daa K' g' hx';exact⟨m,Nat.lt_succ_self m,x',y,S1,h',K1,g1,w1.trans w2,hQ⟩
   ·cases h'
  |exit i=>exact ends h'
  |ret=>exact ends h'
end
end

def uix (nv b:Nat):Nat:=if b<1500 then b else nv+(b-1500)
def bbS (nv:Nat) (us:List Value):Nat→Nat×Nat:=λ b=>match us[uix nv b]? with
 |some (.pointer (some ad))=>(ad.block,ad.off)
 |_=>(0,0)
def ioV (ps:List Par) (us:List Value) (p:Nat):Value:=match ps[p/1000-3001]?,us[p/1000-3001]? with
 |some (.io true _),some (.agg vs)=>vs.getD (p % 1000) undef
 |some (.io false _),some u=>u
 |_,_=>undef
def phS (nv:Nat) (ps:List Par) (us:List Value) (w:World):Nat→Value:=λ p=>if p<1000 then (us.take nv).getD p undef else if 3001000≤p then ioV ps us p else (w.cell? ⟨(bbS nv us (p/1000-1)).1,(bbS nv us (p/1000-1)).2+p % 1000,none⟩).getD undef
def S0 (nv:Nat) (ps:List Par) (ls:List (List Lf)) (us:List Value) (O:Nat→Lab) (w:World):Sit:=⟨O,bbS nv us,get (Fk nv 0 ps ls),phS nv ps us w,w⟩
def Jsa {nv i:Nat} (hn:nv≤1000):uix nv (bid nv i)=i:=by
 unfold uix bid
 cases h:Nat.blt i nv with
 |true=>
  have h1:i<nv:=Vd h;rw[cond_true,if_pos (by omega)]
 |false=>
  have h1:¬ i<nv:=λ h2=>by rw[show Nat.blt i nv=true from Yq h2]at h;cases h
  rw[cond_false,if_neg (by omega)];omega
def Dba {nv i:Nat} (h:i<nv):bid nv i=i:=by
 unfold bid;rw[show Nat.blt i nv=true from Yq h];rfl
def T7 {nv i n:Nat} (h:i<n) (hn:nv≤1000) (h2:n-nv<500):bid nv i<2000:=by
 unfold bid
 cases h3:Nat.blt i nv with
 |true=>
  have h1:i<nv:=Vd h3;rw[cond_true];omega
 |false=>rw[cond_false];omega
def Dca {b j:Nat} (h:j<999):(b<3000→¬ 3001000≤C b j)∧(3000≤b→3001000≤C b j):=by unfold C;omega
def Jta {b j:Nat} (h:j<999):C b j/1000-1=b∧C b j % 1000=j∧¬ C b j<1000:=by unfold C;omega
def Dda:∀ (b j:Nat) (l:List Lf) (A:Ab),∀ e∈ups A (Bi b j l),e∈A∨∃ n v x,l[n]? = some x∧e=(C b (j+n),v,.one x)
 |b,j,[],A,e,h => .inl h
 |b,j,x::l,A,e,h=>by
  rcases Dda b (j+1) l (up A ⟨C b j,false,.one x⟩) e h with h|⟨n,v,y,h1,h2⟩
  ·rcases Vk.1 h with h|h
   ·exact .inr ⟨0,_,x,rfl,by rw[Yt];exact h⟩
   ·exact .inl h
  ·exact .inr ⟨n+1,v,y,by simpa using h1,by rw[show j+(n+1)=j+1+n by omega];exact h2⟩
def L2a (B n:Nat) (l:List Lf) (e:Nat×Nat×Sv):Prop:=e=(H B,0,.one (.hd n))∨∃ n v x,l[n]? = some x∧e=(C B n,v,.one x)
def Md:∀ (b j:Nat) (l:List Lf),∀ e∈Nl b j l,∃ n v x,l[n]? = some x∧e=(C b (j+n),v,.one x)
 |b,j,[],e,h=>by simp[Nl]at h
 |b,j,x::l,e,h=>by
  rcases Vk.1 h with h|h
  ·exact⟨0,_,x,rfl,by rw[Yt];exact h⟩
  ·obtain⟨n,v,y,h1,h2⟩:=Md b (j+1) l e h;exact⟨n+1,v,y,by simpa using h1,by rw[show j+(n+1)=j+1+n by omega];exact h2⟩
def Lza (nv i:Nat):Par→List Lf→Nat×Nat×Sv→Prop
 |.io ag _,l,e=>e=(i,0,(bif ag then .agg (vwL (3000+i) 0 l) else .one (Hza (ioL (3000+i) 0 l))))∨∃ n v x,l[n]? = some x∧e=(C (3000+i) n,v,.one x)
 |.vw _ h,l,e=>e=(i,0,.agg (vwL (bid nv h) 0 l))
 |.val ag t,l,e=>e=(i,0,(bif ag then .agg l else .one (Hza l)))
 |.ptr t _,l,e=>e=(i,0,.one (.bp i 0 0))∨L2a (bid nv i) t.sz l e
 |.hid t _,l,e=>L2a (bid nv i) t.sz l e
 |.rd t,l,e=>∃ x,mkW t l=some x∧e=(i,0,.one (.fp t x 0))
 |.fn F m,_,e=>e=(i,0,.one (.fn F ((List.range m).map λ j=>(bid nv (nv+j),0))))
def Dea {B n:Nat} {l:List Lf} {R:Ab} {e:Nat×Nat×Sv} (he:e∈(H B,0,Sv.one (.hd n))::(Nl B 0 l++R)):L2a B n l e∨e∈R:=by
 rcases Vk.1 he with he|he
 ·exact .inl (.inl he)
 ·rcases Vm.1 he with he|he
  ·obtain⟨n,v,x,g1,g2⟩:=Md B 0 l e he;exact .inl (.inr ⟨n,v,x,g1,by rw[g2,Wb]⟩)
  ·exact .inr he
def Gsa {B n:Nat} {l:List Lf} {R:Ab} {e:Nat×Nat×Sv} (he:e∈(H B,0,Sv.one (.hd n))::(ups [] (Bi B 0 l)++R)):L2a B n l e∨e∈R:=by
 rcases Vk.1 he with he|he
 ·exact .inl (.inl he)
 ·rcases Vm.1 he with he|he
  ·rcases Dda B 0 l [] e he with he|⟨n,v,x,g1,g2⟩
   ·cases he
   ·exact .inl (.inr ⟨n,v,x,g1,by rw[g2,Wb]⟩)
  ·exact .inr he
def T8 {P:Program} {S:Sit} {rg:Nat→Nat×Nat} {nv:Nat} {hs:List Value}:∀ (ps:List Par) (i:Nat) (ls:List (List Lf)) (us:List Value),Hj P S rg nv hs i ps ls us→∀ e∈Fk nv i ps ls,
  ∃ j p l u,us[j]? = some u∧ps[j]? = some p∧l∈ls∧Aka P S rg nv hs (i+j) p l u∧Lza nv (i+j) p l e
 |[],i,[],[],_,e,he=>by simp[Fk]at he
 |[],i,[],_::_,h,_,_=>h.elim
 |[],i,_::_,_,h,_,_=>h.elim
 |_::_,i,[],_,h,_,_=>h.elim
 |_::_,i,_::_,[],h,_,_=>h.elim
 |p::ps,i,l::ls,u::us,h,e,he=>by
  obtain⟨h1,h2⟩:=h;have here:Lza nv i p l e→∃ j p' l' u',(u::us)[j]? = some u'∧(p::ps)[j]? = some p'∧l'∈l::ls∧Aka P S rg nv hs (i+j) p' l' u'∧Lza nv (i+j) p' l' e:=λ he=>⟨0,p,l,u,rfl,rfl,by simp,h1,he⟩
  have rest:e∈Fk nv (i+1) ps ls→∃ j p' l' u',(u::us)[j]? = some u'∧(p::ps)[j]? = some p'∧l'∈l::ls∧Aka P S rg nv hs (i+j) p' l' u'∧Lza nv (i+j) p' l' e:=λ he=>by
   obtain⟨j,p',l',u',g1,g2,g3,g4,g5⟩:=T8 ps (i+1) ls us h2 e he;refine⟨j+1,p',l',u',by simpa using g1,by simpa using g2,Ve _ g3,?_⟩;rw[show i+(j+1)=i+1+j by omega];exact⟨g4,g5⟩
  cases p with
  |val ag t=>
   have he':e=(i,0,(bif ag then .agg l else .one (Hza l)))∨e∈Fk nv (i+1) ps ls:=Vk.1 he;rcases he' with he|he
   ·exact here he
   ·exact rest he
  |io ag t=>
   have he':e∈(i,0,(bif ag then Sv.agg (vwL (3000+i) 0 l) else .one (Hza (ioL (3000+i) 0 l))))::(Nl (3000+i) 0 l++Fk nv (i+1) ps ls):=he;rcases Vk.1 he' with he|he
   ·exact here (.inl he)
   ·rcases Vm.1 he with he|he
    ·obtain⟨n,v,x,g1,g2⟩:=Md _ 0 l e he;exact here (.inr ⟨n,v,x,g1,by rw[g2,Wb]⟩)
    ·exact rest he
  |ptr t t'=>
   have he':e∈(i,0,Sv.one (.bp i 0 0))::(H i,0,Sv.one (.hd t.sz))::(ups [] (Bi i 0 l)++Fk nv (i+1) ps ls):=he;rcases Vk.1 he' with he|he
   ·exact here (.inl he)
   ·rcases Gsa he with he|he
    ·exact here (.inr (by rw[Dba h1.1];exact he))
    ·exact rest he
  |vw t h0=>
   have he':e∈(i,0,Sv.agg (vwL (bid nv h0) 0 l))::Fk nv (i+1) ps ls:=he;rcases Vk.1 he' with he|he
   ·exact here he
   ·exact rest he
  |hid t t'=>
   rcases Dea he with he|he
   ·exact here he
   ·exact rest he
  |rd t=>
   have he':e∈(match mkW t l with
    |some x=>(i,0,Sv.one (.fp t x 0))::Fk nv (i+1) ps ls
    |none=>Fk nv (i+1) ps ls):=he
   split at he'
   ·rename_i x hx;rcases Vk.1 he' with he|he
    ·exact here ⟨x,hx,he⟩
    ·exact rest he
   ·exact rest he'
  |fn F m=>
   have he':e∈(i,0,Sv.one (.fn F ((List.range m).map λ j=>(bid nv (nv+j),0))))::Fk nv (i+1) ps ls:=he;rcases Vk.1 he' with he|he
   ·exact here he
   ·exact rest he
def Y0 {P:Program} {S:Sit} {rg:Nat→Nat×Nat} {nv:Nat} {hs:List Value}:∀ (ps:List Par) (i:Nat) (ls:List (List Lf)) (us:List Value),Hj P S rg nv hs i ps ls us→us.length=ps.length
 |[],i,[],[],_=>rfl
 |[],i,[],_::_,h=>h.elim
 |[],i,_::_,_,h=>h.elim
 |_::_,i,[],_,h=>h.elim
 |_::_,i,_::_,[],h=>h.elim
 |_::ps,i,_::ls,_::us,h=>by simp[Y0 ps (i+1) ls us h.2]
def Hj.at {P:Program} {S:Sit} {rg:Nat→Nat×Nat} {nv:Nat} {hs:List Value}:∀ {ps:List Par} {i:Nat} {ls:List (List Lf)} {us:List Value} {j:Nat} {p:Par},Hj P S rg nv hs i ps ls us→ps[j]? = some p→∃ l u,us[j]? = some u∧Aka P S rg nv hs (i+j) p l u
 |[],i,_,_,j,p,_,hj=>by simp at hj
 |_::_,i,[],_,_,_,h,_=>h.elim
 |_::_,i,_::_,[],_,_,h,_=>h.elim
 |q::ps,i,l::ls,u::us,0,p,h,hj=>by
  simp only[Zl,Vc]at hj;subst hj;exact⟨l,u,rfl,h.1⟩
 |q::ps,i,l::ls,u::us,j+1,p,h,hj=>by
  obtain⟨l',u',h1,h2⟩:=Hj.at (j:=j) (p:=p) h.2 (by simpa using hj);exact⟨l',u',by simpa using h1,by rw[show i+(j+1)=i+1+j by omega];exact h2⟩
def Dfa:Par→Bool
 |.hid _ _=>true
 |_=>false
def Oa {nv:Nat}:∀ {ps:List Par} {i j:Nat} {p:Par},Gg nv i ps=true→ps[j]? = some p→if Dfa p then nv≤i+j else i+j<nv
 |[],_,_,_,_,h=>by simp at h
 |q::ps,i,0,p,h,hj=>by
  simp only[Zl,Vc]at hj;subst hj
  cases q<;>simp only[Gg,Va]at h<;>simp only[Dfa,Wc,if_false,if_true]<;>exact Vd h.1
 |q::ps,i,j+1,p,h,hj=>by
  have h2:Gg nv (i+1) ps=true:=by cases q<;>simp only[Gg,Va]at h<;>exact h.2
  have:=Oa (i:=i+1) (j:=j) (p:=p) h2 (by simpa using hj);rw[show i+(j+1)=i+1+j by omega];exact this
def A5.get {P:Program} {S:Sit} {f:Nat→Lab} {l:List Lf} {us:List Value} {n:Nat} {x:Lf} (h:A5 P S f 0 l us) (hx:l[n]? = some x):∃ u,us[n]? = some u∧Af P S (f n) x u:=by
 have hn:n<l.length:=(We.1 hx).1;obtain⟨x',u',e1,_,e3,e4⟩:=h.at n hn;rw[Vn,hx]at e1;simp only[Zc]at e1;subst e1;rw[Wb]at e4;exact⟨u',e3,e4⟩
def T9 {nv j:Nat} {us:List Value} {k o:Nat} (hn:nv≤1000) (h:us[j]? = some (.pointer (some ⟨k,o,none⟩))):bbS nv us (bid nv j)=(k,o):=by
 unfold bbS;rw[Jsa hn,h]
def Y1 {P:Program} {O:Nat→Lab} {w:World} {rg:Nat→Nat×Nat} {nv:Nat} {hs:List Value} {ps:List Par} {ls:List (List Lf)} {us:List Value} (hn9:nv≤1000)
  (hmem:∀ e∈Fk nv 0 ps ls,∃ j p l u,us[j]? = some u∧ps[j]? = some p∧l∈ls∧Aka P (bare O w) rg nv hs (0+j) p l u∧Lza nv (0+j) p l e)
  (hsol:∀ l∈ls,∀ y∈l,Df y=true) (e:Nat×Nat×Sv) (he:e∈Fk nv 0 ps ls) (b n:Nat) (hb:e.1=H b) (hn:e.2.2 = .one (.hd n)):
  ∃ (j k o:Nat) (c:Array Value) (e0:TypeId) (vs:List Value),j<ps.length∧b=bid nv j∧bbS nv us b=(k,o)∧w.heap[k]? = some (.cells c e0 (0,0))∧O k = .bx b∧rg b=(o,n)∧o+n≤c.size∧n<999∧(∀ i,i<n→c[o+i]? = vs[i]?)∧n≤vs.length:=by
 obtain⟨j,p,l,u,g1,g2,g3,g4,g5⟩:=hmem e he;simp only[Wb]at g4 g5;have hj:j<ps.length:=(We.1 g2).1
 have box:∀ {t:Ty},Pn P (bare O w) rg (bid nv j) t l u→L2a (bid nv j) t.sz l e→∃ (j k o:Nat) (c:Array Value) (e0:TypeId) (vs:List Value),j<ps.length∧b=bid nv j∧bbS nv us b=(k,o)∧w.heap[k]? = some (.cells c e0 (0,0))∧O k = .bx b∧rg b=(o,n)∧o+n≤c.size∧n<999∧(∀ i,i<n→c[o+i]? = vs[i]?)∧n≤vs.length:=by
  rintro t ⟨k,o,c,e0,vs,rfl,f2,f3,f4,f5,f6,f7,f8,f9⟩ g5;have hbb:=T9 hn9 g1;rcases g5 with rfl|⟨i,v,x,hx,rfl⟩
  ·have hjb:bid nv j=b:=Qg hb;subst hjb;simp only[Sv.one.injEq,Lf.hd.injEq]at hn;subst hn;have hvl:=f9.len;exact⟨j,k,o,c,e0,vs,hj,rfl,hbb,f2,f3,f4,f5,f6,f8,by omega⟩
  ·have:=hsol _ g3 x (Zs hx);simp only[Sv.one.injEq]at hn;rw[hn]at this;simp[Df]at this
 cases p with
 |val ag t=>
  have g5:e=(j,0,(bif ag then .agg l else .one (Hza l))):=g5;subst g5;cases ag
  case true=>cases hn
  simp only[cond_false,Sv.one.injEq]at hn
  cases l with
  |nil=>cases hn
  |cons x l=>
   cases l with
   |cons y l=>cases hn
   |nil=>
    have:=hsol _ g3 x (by simp);have hx:x = .hd n:=hn;rw[hx]at this;simp[Df]at this
 |io ag t=>
  have nohd:∀ (l':List Lf) (B i:Nat),(∀ y∈l',Df y=true)→∀ y∈ioL B i l',∀ n,y ≠ .hd n:=by
   intro l'
   induction l' with
   |nil=>intro B i _ y hy;simp[ioL]at hy
   |cons z l' ih=>
    intro B i hs y hy n e;subst e;have h2:=hs z (by simp)
    cases z<;>first|(simp[Df]at h2;done)|skip
    all_goals
     rcases Vk.1 hy with h|h
     ·cases h
     ·exact ih B (i+1) (λ y hy=>hs y (Ve _ hy)) _ h n rfl
  rcases g5 with rfl|⟨m,v,x,hx,rfl⟩
  ·cases ag
   case true=>cases hn
   simp only[cond_false,Sv.one.injEq]at hn;have h2:=nohd l (3000+j) 0 (hsol _ g3);generalize ioL (3000+j) 0 l=l' at hn h2
   cases l' with
   |nil=>cases hn
   |cons x l'=>
    cases l' with
    |cons y l'=>cases hn
    |nil=>exact absurd hn (h2 x (by simp) n)
  ·have:=hsol _ g3 x (Zs hx);simp only[Sv.one.injEq]at hn;rw[hn]at this;simp[Df]at this
 |vw t h0=>
  have g5:e=_:=g5;subst g5;cases hn
 |ptr t t'=>
  rcases g5 with rfl|g5
  ·cases hn
  ·exact box g4.2 g5
 |hid t t'=>exact box g4.2 g5
 |rd t=>
  obtain⟨x,_,rfl⟩:=g5;cases hn
 |fn F m=>
  have g5:e=_:=g5;subst g5;cases hn
def Dga {nv:Nat} {S:Sit} (hs:List Value) (h:∀ j u,hs[j]? = some u→u=Value.pointer (some ⟨(S.bb (bid nv (nv+j))).1,(S.bb (bid nv (nv+j))).2+0,none⟩)):Nq S ((List.range hs.length).map λ j=>(bid nv (nv+j),0)) hs:=by
 have key:∀ (l:List Value) (a:Nat),(∀ j u,l[j]? = some u→u=Value.pointer (some ⟨(S.bb (bid nv (nv+(a+j)))).1,(S.bb (bid nv (nv+(a+j)))).2+0,none⟩))→Nq S ((List.range' a l.length).map λ j=>(bid nv (nv+j),0)) l:=by
  intro l
  induction l with
  |nil=>intro a _;exact rfl
  |cons u l ih=>
   intro a h;rw[Vg,List.range'_succ,Yc];refine⟨u,l,rfl,⟨Wh _,λ _=>?_⟩,ih (a+1) (λ j u hj=>?_)⟩
   ·have:=h 0 u rfl;rw[Yt]at this;exact this
   ·have:=h (j+1) u (by simpa using hj);rw[show a+(j+1)=a+1+j by omega]at this;exact this
 rw[List.range_eq_range'];exact key hs 0 (λ j u hj=>by rw[Wb];exact h j u hj)
def Gta {P:Program} {O:Nat→Lab} {w:World} {rg:Nat→Nat×Nat} {nt nv:Nat} {ps:List Par} {ls:List (List Lf)} {us:List Value} (hnt:nt≤1000) (hlt:∀ k,O k ≠ .no→k<w.heap.size) (hbx:∀ k b,O k = .bx b→∃ c e f,w.heap[k]? = some (.cells c e f))
  (hargs:Hj P (bare O w) rg nv (us.drop nv) 0 ps ls us) (hsol:∀ l∈ls,∀ y∈l,Df y=true) (hps:nv≤nt) (hpk:Gg nv 0 ps=true) (hpl:ps.length-nv<500):
  Ah ⟨P,O,w,rg,nt,nv,ioV ps us⟩ (S0 nv ps ls us O w) ⟨(us.take nv).toArray++Array.replicate (nt-(us.take nv).toArray.size) undef,[]⟩:=by
 have hul:=Y0 ps 0 ls us hargs
 have hn9:nv≤1000:=by omega
 have hmem:=T8 ps 0 ls us hargs
 have hph:∀ t,t<1000→phS nv ps us w t=(us.take nv).getD t undef:=λ t ht=>by unfold phS;rw[if_pos ht]
 have hus:∀ {j:Nat} {u:Value},j<nv→us[j]? = some u→(us.take nv).getD j undef=u:=λ hj h=>by rw[Vn,Wd,if_pos hj,h];rfl
 refine⟨hnt,hlt,?_,?_,?_,λ t ht=>?_,?_,rfl,⟨rfl,rfl,rfl,Vo _,λ k _ h=>⟨h,rfl⟩,λ k _ h=>⟨h,rfl⟩,λ k b hk h=>?_⟩,λ p hp=>?_⟩
 ·refine Mc (Q:=λ l s=>Fi P (S0 nv ps ls us O w) l s.2 (phS nv ps us w l)) (λ l=>trivial) _ (λ e he=>?_);obtain⟨j,p,l,u,g1,g2,g3,g4,g5⟩:=hmem e he;simp only[Wb]at g4 g5;have hvis:=Oa hpk g2;rw[Wb]at hvis
  have vis:Dfa p=false→j<nv∧phS nv ps us w j=u:=λ h=>by
   rw[h]at hvis;have hj:j<nv:=hvis;exact⟨hj,by rw[hph j (by omega)];exact hus hj g1⟩
  have box:∀ {t:Ty},Pn P (bare O w) rg (bid nv j) t l u→L2a (bid nv j) t.sz l e→Fi P (S0 nv ps ls us O w) e.1 e.2.2 (phS nv ps us w e.1):=by
   rintro t ⟨k,o,c,e0,vs,rfl,f2,f3,f4,f5,f6,f7,f8,f9⟩ g5;have hbb:=T9 hn9 g1;rcases g5 with rfl|⟨n,v,x,hx,rfl⟩
   ·trivial
   ·have hn:n<t.sz:=by have:=(We.1 hx).1;omega
    obtain⟨d1,d2,d3⟩:=Jta (b:=bid nv j) (j:=n) (by omega);obtain⟨v',h1,h2⟩:=f9.get hx
    have hpc:phS nv ps us w (C (bid nv j) n)=v':=by
     unfold phS;rw[if_neg d3,if_neg ((Dca (b:=bid nv j) (j:=n) (by omega)).1 (by have:=T7 (We.1 g2).1 hn9 hpl;omega)),d1,d2,hbb];have f2':w.heap[k]? = some (.cells c e0):=f2;simp[World.cell?,f2',f8 n hn,h1]
    show Af P (S0 nv ps ls us O w) _ x (phS nv ps us w (C (bid nv j) n));rw[hpc];exact Af.bare (S1:=bare O w) (S2:=S0 nv ps ls us O w) (lab := .pl (C (bid nv j) n) []) (lab' := .pl (C (bid nv j) n) []) (hsol l g3 x (Zs hx)) rfl (λ k hk=>hk) (λ k hk=>hk) h2
  cases p with
  |val ag t=>
   obtain⟨hj,hpj⟩:=vis rfl;have g5:e=(j,0,(bif ag then .agg l else .one (Hza l))):=g5;subst g5;obtain⟨vs,e1,e2⟩:=g4;show Fi P (S0 nv ps ls us O w) j _ (phS nv ps us w j);rw[hpj];have e3:=A5.impM (S1:=bare O w) (S2:=S0 nv ps ls us O w) (f':=λ n => .pl j (if ag then [n] else [])) (λ x hx n u hu=>Af.bare (S1:=bare O w) (S2:=S0 nv ps ls us O w) (hsol l g3 x hx) rfl (λ k hk=>hk) (λ k hk=>hk) hu) e2;cases ag
   case true=>exact⟨vs,e1,e3⟩
   simp only[Wc,if_false]at e1;subst e1
   cases l with
   |nil=>exact e3.elim
   |cons x l=>
    cases l with
    |nil=>exact e3.1
    |cons y l=>exact e3.2.elim
  |io ag t=>
   obtain⟨hj,hpj⟩:=vis rfl;obtain⟨⟨_,q2,q3⟩,vs,q4,q5⟩:=g4
   have hC:∀ n,n<999→C (3000+j) n/1000-3001=j∧C (3000+j) n % 1000=n∧3001000≤C (3000+j) n:=λ n hn=>by unfold C;omega
   have hval:∀ n v,vs[n]? = some v→phS nv ps us w (C (3000+j) n)=v:=λ n v hv=>by
    have hn:n<999:=by
     have:=(We.1 hv).1;have:=q5.len;omega
    obtain⟨d1,d2,d3⟩:=hC n hn;unfold phS;rw[if_neg (by omega),if_pos d3];unfold ioV;rw[d1,d2,g2,g1];cases ag
    ·simp only[Wc,if_false]at q4;subst q4
     cases n with
     |zero=>simpa using hv
     |succ n=>simp at hv
    ·simp only[if_true]at q4;subst q4;simp[Wg,hv]
   rcases g5 with rfl|⟨n,v,x,hx,rfl⟩
   ·have key:∀ (l:List Lf) (i:Nat) (vs:List Value),i+l.length<999→(∀ y∈l,Df y=true)→(∀ n v,vs[n]? = some v→phS nv ps us w (C (3000+j) (i+n))=v)→A5 P (bare O w) (λ n => .pl (C (3000+j) n) []) i l vs→∀ f:Nat→Lab,A5 P (S0 nv ps ls us O w) f i (ioL (3000+j) i l) vs∧A5 P (S0 nv ps ls us O w) f i (vwL (3000+j) i l) vs:=by
     intro l
     induction l with
     |nil=>intro i vs _ _ _ h f;cases vs<;>first|exact⟨trivial,trivial⟩|exact h.elim
     |cons x l ih=>
      intro i vs hi hs hv h f;simp only[Vg]at hi
      cases vs with
      |nil=>exact h.elim
      |cons u vs=>
       have hr:=ih (i+1) vs (by omega) (λ y hy=>hs y (Ve _ hy)) (λ n v e=>by rw[show i+1+n=i+(n+1) by omega];exact hv (n+1) v (by simpa using e)) h.2 f;have h1:Af P (S0 nv ps ls us O w) (.pl (C (3000+j) i) []) x u:=Af.bare (S1:=bare O w) (S2:=S0 nv ps ls us O w) (hs x (by simp)) rfl (λ k hk=>hk) (λ k hk=>hk) h.1;have h2:=hs x (by simp)
       cases x with
       |own e r xs=>
        have hu:u=phS nv ps us w (C (3000+j) i):=by have:=hv 0 u rfl;rw[Yt]at this;exact this.symm
        exact⟨⟨⟨(hC i (by omega)).2.2,hu⟩,hr.1⟩,⟨⟨Wh _,λ _=>hu⟩,hr.2⟩⟩
       |sc v=>exact⟨⟨h1,hr.1⟩,⟨h1,hr.2⟩⟩
       |fz e r xs=>exact⟨⟨h1,hr.1⟩,⟨h1,hr.2⟩⟩
       |_=>simp[Df]at h2
    have h5:=key l 0 vs (by omega) (hsol l g3) (λ n v e=>by rw[Wb];exact hval n v e) q5 (λ n => .pl j (if ag then [n] else []));show Fi P (S0 nv ps ls us O w) j _ (phS nv ps us w j);rw[hpj];cases ag
    case true=>exact⟨vs,q4,h5.2⟩
    simp only[Wc,if_false]at q4;subst q4;simp only[cond_false]
    replace h5:=h5.1
    generalize ioL (3000+j) 0 l=l' at h5
    cases l' with
    |nil=>exact h5.elim
    |cons x l'=>
     cases l' with
     |nil=>exact h5.1
     |cons y l'=>exact h5.2.elim
   ·obtain⟨v',h1,h2⟩:=q5.get hx;show Af P (S0 nv ps ls us O w) _ x (phS nv ps us w (C (3000+j) n));rw[hval n v' h1];exact Af.bare (S1:=bare O w) (S2:=S0 nv ps ls us O w) (lab := .pl (C (3000+j) n) []) (lab' := .pl (C (3000+j) n) []) (hsol l g3 x (Zs hx)) rfl (λ k hk=>hk) (λ k hk=>hk) h2
  |vw t h0=>
   obtain⟨hj,hpj⟩:=vis rfl;have g5:e=_:=g5;subst g5;obtain⟨q1,vs,k,o,c,e0,rfl,q2,q3,q4,q5,q6⟩:=g4;show Fi P (S0 nv ps ls us O w) j (.agg _) (phS nv ps us w j);rw[hpj]
   have hh0:h0<ps.length:=by
    have:=(We.1 q2).1;rw[Vx]at this;omega
   have hbb:bbS nv us (bid nv h0)=(k,o):=by
    refine T9 hn9 ?_;rw[Xs]at q2;rw[← q2,show nv+(h0-nv)=h0 by omega]
   have hsl:=hsol l g3
   have key:∀ (l:List Lf) (i:Nat) (vs:List Value),i+l.length<999→(∀ y∈l,Df y=true)→Qv (Aja P (bare O w) (λ j=>c.getD (o+j) undef)) i l vs→A5 P (S0 nv ps ls us O w) (λ n => .pl j [n]) i (vwL (bid nv h0) i l) vs:=by
    intro l
    induction l with
    |nil=>intro i vs _ _ h;cases vs<;>first|trivial|exact h.elim
    |cons x l ih=>
     intro i vs hi hs h;simp only[Vg]at hi
     cases vs with
     |nil=>exact h.elim
     |cons u vs=>
      have hr:=ih (i+1) vs (by omega) (λ y hy=>hs y (Ve _ hy)) h.2;have h1:=h.1;have h2:=hs x (by simp)
      have sh:Fka x=true→Af P (bare O w) .fz x u→Af P (S0 nv ps ls us O w) (.pl j [i]) x u:=λ hx hu=>by
       have:Af P (S0 nv ps ls us O w) .fz x u:=Af.bare (S1:=bare O w) (S2:=S0 nv ps ls us O w) h2 rfl (λ k hk=>hk) (λ k hk=>hk) hu
       cases x<;>first|exact Af.relab (lab' := .pl j [i]) rfl this|simp[Fka]at hx
      cases x with
      |own e r xs=>
       refine⟨⟨Wh _,λ _=>?_⟩,hr⟩;have h3:u=c.getD (o+i) undef:=h1;obtain⟨d1,d2,d3⟩:=Jta (b:=bid nv h0) (j:=i) (by omega);show u=phS nv ps us w (C (bid nv h0) i);unfold phS;rw[if_neg d3,if_neg ((Dca (b:=bid nv h0) (j:=i) (by omega)).1 (by have:=T7 hh0 hn9 hpl;omega)),d1,d2,hbb,h3];have q3':w.heap[k]? = some (.cells c e0):=q3;simp[World.cell?,q3',Wg]
      |sc v=>exact⟨sh h1.1 h1.2,hr⟩
      |fz e r xs=>exact⟨sh h1.1 h1.2,hr⟩
      |_=>simp[Df]at h2
   exact⟨vs,rfl,key l 0 vs (by omega) hsl q6⟩
  |ptr t t'=>
   rcases g5 with rfl|g5
   ·obtain⟨hj,hpj⟩:=vis rfl;obtain⟨_,k,o,c,e0,vs,rfl,_⟩:=g4;have hbb:=T9 hn9 g1;rw[Dba hj]at hbb;show Af P (S0 nv ps ls us O w) (.pl j []) (.bp j 0 0) (phS nv ps us w j);refine⟨Wh _,λ _=>?_⟩;rw[hpj];show _=Value.pointer (some ⟨(bbS nv us j).1,(bbS nv us j).2+0,none⟩);rw[hbb];rfl
   ·exact box g4.2 g5
  |hid t t'=>exact box g4.2 g5
  |rd t=>
   obtain⟨hj,hpj⟩:=vis rfl;obtain⟨x,hx,rfl⟩:=g5;obtain⟨x',k,o,cs,h1,h2,h3,h4,h5⟩:=g4;rw[hx]at h1;cases h1;show Af P (S0 nv ps ls us O w) (.pl j []) (.fp t x 0) (phS nv ps us w j);rw[hpj];exact⟨k,o,cs,h2,h3,Ty.rep_mono (λ k hk=>hk) (λ _ _=>rfl) t x cs h4,h5⟩
  |fn F m=>
   obtain⟨hj,hpj⟩:=vis rfl;have g5:e=_:=g5;subst g5;obtain⟨h1,h2⟩:=g4;show Af P (S0 nv ps ls us O w) (.pl j []) (.fn F _) (phS nv ps us w j);rw[hpj];refine⟨us.drop nv,h1,?_⟩;rw[← h2];refine Dga _ (λ i v hi=>?_);rw[Xs]at hi
   have hlt2:nv+i<ps.length:=by rw[← hul];exact(We.1 hi).1
   have hp:ps[nv+i]? = some ps[nv+i]:=Vp hlt2;have hh:=Oa hpk hp
   have hhid:Dfa ps[nv+i]=true:=by
    cases hc:Dfa ps[nv+i] with
    |true=>rfl
    |false=>rw[hc]at hh;simp only[Wc,if_false]at hh;omega
   obtain⟨l',u',k1,k2⟩:=hargs.at hp;rw[hi]at k1;cases k1;rw[Wb]at k2
   cases hpp:ps[nv+i] with
   |hid t t'=>
    rw[hpp]at k2;obtain⟨_,k,o,c,e0,vs,rfl,_⟩:=k2;show _=Value.pointer (some ⟨(bbS nv us (bid nv (nv+i))).1,(bbS nv us (bid nv (nv+i))).2+0,none⟩);rw[T9 hn9 hi];rfl
   |_=>rw[hpp]at hhid;cases hhid
 ·have key:=Mc (Q:=λ l s=>∀ b n,l=H b→s.2 = .one (.hd n)→n<999∧∃ c e,w.heap[(bbS nv us b).1]? = some (.cells c e (0,0))∧O (bbS nv us b).1 = .bx b∧(bbS nv us b).2+n≤c.size∧∀ j,j<n→c[(bbS nv us b).2+j]? = some (phS nv ps us w (C b j)))
   (λ l b n _ h=>by cases h) (Fk nv 0 ps ls) (λ e he b n hb hn=>by
    obtain⟨j,k,o,c,e0,vs,hj,hbj,k1,f2,f3,f4,f5,f6,f8,hvl⟩:=Y1 hn9 hmem hsol e he b n hb hn;refine⟨f6,c,e0,by rw[k1];exact f2,by rw[k1];exact f3,by rw[k1];exact f5,λ i hi=>?_⟩;obtain⟨d1,d2,d3⟩:=Jta (b:=b) (j:=i) (by omega)
    have:phS nv ps us w (C b i)=vs.getD i undef:=by
     unfold phS;rw[if_neg d3,if_neg ((Dca (b:=b) (j:=i) (by omega)).1 (by have:=T7 hj hn9 hpl;omega)),d1,d2,k1];simp[World.cell?,f2,f8 i hi]
    rw[this,k1,f8 i hi,Vn,Vp (by omega)]
    rfl)
  exact λ b n h=>key (H b) b n rfl h
 ·have key:=Mc (Q:=λ l s=>∀ b n,l=H b→s.2 = .one (.hd n)→b<2000∧O (bbS nv us b).1 = .bx b∧(rg b).1≤(bbS nv us b).2∧(bbS nv us b).2+n≤(rg b).1+(rg b).2∧(bbS nv us b).1<w.heap.size)
   (λ l b n _ h=>by cases h) (Fk nv 0 ps ls) (λ e he b n hb hn=>by
    obtain⟨j,k,o,c,e0,vs,hj,hbj,k1,f2,f3,f4,f5,f6,f8,hvl⟩:=Y1 hn9 hmem hsol e he b n hb hn;rw[k1,f4]
    exact⟨by rw[hbj];exact T7 hj hn9 hpl,f3,Vo _,Vo _,(Yx.1 f2).1⟩)
  intro b n h;obtain⟨h1,h2,h3,h4,h5⟩:=key (H b) b n rfl h;exact⟨λ _ _=>⟨h2,h3,h4⟩,λ _=>h5,λ h6=>by omega,by omega⟩
 ·show ((us.take nv).toArray++Array.replicate (nt-(us.take nv).toArray.size) undef).getD t undef=phS nv ps us w t;have ht':t<nt:=ht;rw[hph t (by omega)];generalize us.take nv=vs
  by_cases h:t<vs.length
  ·simp[Wg,Qba,h,Vn]
  ·have h2:vs.getD t undef=undef:=by rw[Vn,Ova (by omega)];rfl
   rw[h2];simp[Wg,Qba,h,Array.getElem?_replicate]
   split<;>rfl
 ·have:(us.take nv).length≤nt:=by rw[Vl];omega
  simp;omega
 ·obtain⟨c,e,f,h1⟩:=hbx k b h;exact⟨h,c,c,e,f,h1,h1,rfl,λ _ _=>rfl⟩
 ·show phS nv ps us w p=ioV ps us p;unfold phS;rw[if_neg (by omega),if_pos hp]

section
attribute [local irreducible] C H
section
variable {X:Cx} {S S1 S2:Sit} {a:Act} {E:En} {A:Ab}
def Dha {l0:List Lf} (K:Ah X S a) (hg:S.g=get A) (K1:Ah X S1 a) (E1:Pb X S S1) (P1:∀ p v,Lf.al p v∈l0→∀ n e r,∀ xs:List (Ty.den r),get A p=(n,.one (.own e r xs))→n=v→S1.g p=(n,.one (.fz e r xs)))
  (f:Nat→Lab) (hf:∀ n k,S.O k=f n→S1.O k=f n):∀ (l:List Lf),(∀ x∈l,x∈l0)→∀ j us,A5 X.P S f j l us→A5 X.P S1 f j (l.map (Gk A)) us
 |[],_,_,[],_=>trivial
 |[],_,_,_::_,h=>h.elim
 |_::_,_,_,[],h=>h.elim
 |x::l,hm,j,u::us,h=>by
  refine⟨?_,Dha K hg K1 E1 P1 f hf l (λ z hz=>hm z (Ve _ hz)) (j+1) us h.2⟩;have h1:Af X.P S (f j) x u:=h.1
  cases x with
  |al p v=>
   show Af X.P S1 (f j) (Hn (G5 A (.al p v))) u;simp only[G5];split
   ·rename_i n e r' xs hp;cases hb:Nat.beq n v
    ·exact trivial
    have hnv:n=v:=by simpa using hb
    subst hnv;rw[cond_true];show Af X.P S1 (f j) (.fz e r' xs) u;have h2:=P1 p n (hm _ (by simp)) n e r' xs hp rfl;have h3:=K1.at_ p;rw[h2,E1.ph,← h1.2 (by rw[hg,hp])]at h3;exact Af.relab (lab := .pl p []) rfl h3
   ·rename_i n e r' xs hp;cases hb:Nat.beq n v
    ·exact trivial
    have hnv:n=v:=by simpa using hb
    subst hnv;rw[cond_true];show Af X.P S1 (f j) (.fz e r' xs) u;have h3:=K.at_ p;rw[hg,hp,← h1.2 (by rw[hg,hp])]at h3;have h4:Af X.P S (.pl p []) (.fz e r' xs) u:=h3;exact(Af.relab (lab':=f j) rfl h4).later E1.later (λ k hk=>⟨hf j k hk,by rw[E1.w]⟩)
   ·exact trivial
  |_=>exact h1.later E1.later (λ k hk=>⟨hf j k hk,by rw[E1.w]⟩)
def Me:∀ l:List Lf,Cm l=false→Cm (l.map (Gk A))=false
 |[],_=>rfl
 |x::l,h=>by
  have hc:∀ z:Lf,Cm (Hn z::l.map (Gk A))=Cm (l.map (Gk A)):=by intro z;cases z<;>rfl
  cases x with
  |own e r xs=>simp[Cm]at h
  |opn e r xs i b v=>simp[Cm]at h
  |par e r xs m=>simp[Cm]at h
  |al p v=>rw[Yc];exact(hc _).trans (Me l (by simpa[Cm] using h))
  |_=>exact Me l (by simpa[Cm] using h)
def J4 {P:Program} {S:Sit} {f:Nat→Lab}:∀ {l:List Lf} {j:Nat} {us:List Value},A3 l=true→Cm l=false→A5 P S f j l us→Gu (G6 P (λ k=>S.O k = .fz) S.w) l us
 |[],_,[],_,_,_ => .nil
 |[],_,_::_,_,_,h=>h.elim
 |_::_,_,[],_,_,h=>h.elim
 |x::l,j,u::us,hs,ho,h=>by
  cases x with
  |sc v=>exact .cons h.1 (J4 (by simpa[A3] using hs) (by simpa[Cm] using ho) h.2)
  |fz e r xs=>exact .cons h.1 (J4 (by simpa[A3] using hs) (by simpa[Cm] using ho) h.2)
  |own e r xs=>simp[Cm]at ho
  |_=>simp[A3]at hs
def Jua (hE:Fo X E) (K:Ah X S a) (hg:S.g=get A) {x:Nat} (hx:Nat.blt x E.nt=true) {k:RK} {t:Ty} {l:List Lf} {us:List Up} (i:Nat) (hk:k ≠ .ptr) (h:Uc E.np A k t (.tmp x) (get A x).2=some (l,us)) {y:t.den} (hy:mkW t l=some y):
  ∃ S',Ah X S' a∧S'.g=get (ups A us)∧Ce X S S' (λ n _=>n=i)∧
   ∃ vs,(if Mn k then a.eval (.tmp x) = .agg vs.toArray else vs=[a.eval (.tmp x)])∧A5 X.P S' (λ n => .tm i (if Mn k then [n] else [])) 0 (A4 t y) vs:=by
 have hop:opT E 0 A (.tmp x)=some (get A x).2:=by show (bif Nat.blt x E.nt then some (get A x).2 else none)=_;rw[hx];rfl
 have h':(bif Fy (Mn k) (get A x).2 then Kt A (.tmp x) (get A x).2 t else none)=some (l,us):=by
  unfold Uc at h
  cases k<;>first|exact h|exact absurd rfl hk
 cases hq:Fy (Mn k) (get A x).2
 ·rw[hq]at h';simp at h'
 rw[hq,cond_true]at h';obtain⟨S1,K1,g1,G,h2,_,vs,hsh,hl⟩:=Qq hE K hg (.inl hop) (Qx hq) h' i;have hp:=Ut hq;simp only[hp]at hl;exact⟨S1,K1,g1,G,vs,Jl hq hsh,H3 (M9 h') hy hl⟩
def Ah.unbox (K:Ah X S a) (hb0:∀ k b,X.O0 k = .bx b→b<X.np∨1500≤b) {b n:Nat} (hh:(S.g (H b)).2 = .one (.hd n)) (hnp:X.np≤b) (hb1:b<1000) (j:Nat):
  Ah X { S with O:=λ k=>if k=(S.bb b).1 then .tm j [] else S.O k,g:=upd S.g (H b) ((S.g (H b)).1+1,.one .dead) } a∧
  Ci S { S with O:=λ k=>if k=(S.bb b).1 then .tm j [] else S.O k,g:=upd S.g (H b) ((S.g (H b)).1+1,.one .dead) }:=by
 obtain⟨hn,c,e,e1,e2,e3,e4⟩:=K.box b n hh
 have hnew:X.w0.heap.size≤(S.bb b).1:=by
  rcases P3a (S.bb b).1 X.w0.heap.size with h|h
  ·have:=hb0 _ _ ((K.rgn b n hh).1 (by omega) h).1;omega
  ·exact h
 have keep:∀ k o,S.O k=o→o ≠ .bx b→(if k=(S.bb b).1 then Lab.tm j [] else S.O k)=o:=λ k o' h ho=>by
  rw[if_neg (λ e=>ho (by rw[← h,e,e2]))];exact h
 have hbk:∀ b' n',b'≠b→(S.g (H b')).2 = .one (.hd n')→(S.bb b').1≠(S.bb b).1:=λ b' n' hne hb' e5=>by
  obtain⟨_,_,_,_,g4,_⟩:=K.box b' n' hb';rw[e5,e2]at g4;simp only[Lab.bx.injEq]at g4;exact hne g4.symm
 have gne:∀ p,p≠H b→({ S with O:=λ k=>if k=(S.bb b).1 then .tm j [] else S.O k,g:=upd S.g (H b) ((S.g (H b)).1+1,.one .dead) }:Sit).g p=S.g p:=λ p h=>Aa _ _ h;have gsm:({ S with O:=λ k=>if k=(S.bb b).1 then .tm j [] else S.O k,g:=upd S.g (H b) ((S.g (H b)).1+1,.one .dead) }:Sit).g (H b)=((S.g (H b)).1+1,.one .dead):=A8 _ _ _
 have L:Ci S { S with O:=λ k=>if k=(S.bb b).1 then .tm j [] else S.O k,g:=upd S.g (H b) ((S.g (H b)).1+1,.one .dead) }:=by
  refine⟨λ p=>?_,λ _ _=>rfl,λ p v e r xs' hp hv=>?_,λ _ _=>rfl,λ k hk=>⟨keep k _ hk (by simp),rfl⟩,λ b' n' hv hb' hO=>?_,λ p hv hd=>?_,λ _ _=>rfl⟩
  ·by_cases h:p=H b
   ·subst h;rw[gsm];exact Zj _
   ·rw[gne p h];exact Vo _
  ·by_cases h:p=H b
   ·subst h;rw[gsm]at hp;cases hp
   ·rw[gne p h]at hp;exact⟨xs',hp,rfl⟩
  ·have hne:b'≠b:=λ e=>by subst e;rw[gsm]at hv;simp at hv
   refine⟨by rw[gne _ (λ e=>hne (Qg e))];exact hb',?_,λ c e f h=>⟨c,h,rfl,λ _ _=>rfl⟩⟩;show (if (S.bb b').1=(S.bb b).1 then Lab.tm j [] else S.O (S.bb b').1)=_;rw[if_neg (hbk b' n' hne hb')];exact hO
  ·have h:p≠H b:=λ e=>by subst e;rw[hh]at hd;simp[Ue,Fva]at hd
   rw[gne p h];exact⟨hd,λ _ _ _ h=>h,λ k hk=>⟨.inl (keep k _ hk (by simp)),rfl⟩⟩
 have F:=K.fr
 have hd:∀ b' n',(({ S with O:=λ k=>if k=(S.bb b).1 then .tm j [] else S.O k,g:=upd S.g (H b) ((S.g (H b)).1+1,.one .dead) }:Sit).g (H b')).2 = .one (.hd n')→b'≠b∧(S.g (H b')).2 = .one (.hd n'):=λ b' n' hb'=>by
  have hne:b'≠b:=λ e=>by subst e;rw[gsm]at hb';cases hb'
  exact⟨hne,by rw[gne _ (λ e=>hne (Qg e))]at hb';exact hb'⟩
 refine⟨⟨K.nt,λ k hk=>?_,λ l=>?_,λ b' n' hb'=>?_,λ b' n' hb'=>K.rgn b' n' (hd b' n' hb').2,K.sl,K.sz,K.df,⟨F.os,F.tape,F.out,F.size,λ k hk h0=>?_,λ k hk h0=>?_,λ k b' hk h0=>?_⟩,K.io⟩,L⟩
 ·by_cases h:k=(S.bb b).1
  ·exact K.lt k (by rw[h,e2];simp)
  ·have hk':(if k=(S.bb b).1 then Lab.tm j [] else S.O k) ≠ .no:=hk;rw[if_neg h]at hk';exact K.lt k hk'
 ·by_cases h:l=H b
  ·subst h;rw[gsm];trivial
  ·rw[gne l h];exact(K.at_ l).later L (λ p k hk=>⟨keep k _ hk (by simp),rfl⟩)
 ·obtain⟨hne,hb2⟩:=hd b' n' hb';obtain⟨g1,c1,g2,g3,g4,g5,g6⟩:=K.box b' n' hb2;exact⟨g1,c1,g2,g3,keep _ _ g4 (by simp[hne]),g5,g6⟩
 ·obtain⟨f1,f2⟩:=F.no k hk h0;exact⟨keep k _ f1 (by simp),f2⟩
 ·obtain⟨f1,f2⟩:=F.fz k hk h0;exact⟨keep k _ f1 (by simp),f2⟩
 ·obtain⟨f1,rest⟩:=F.bx k b' hk h0;refine⟨?_,rest⟩;show (if k=(S.bb b).1 then Lab.tm j [] else S.O k)=_;rw[if_neg (by omega)];exact f1
def Jva (hE:Fo X E) (K:Ah X S a) (hg:S.g=get A) (hb0:∀ k b,X.O0 k = .bx b→b<X.np∨1500≤b) {x:Nat} (hx:Nat.blt x E.nt=true) {t:Ty} {l:List Lf} {us:List Up} (i:Nat) (h:Uc E.np A .ptr t (.tmp x) (get A x).2=some (l,us)) {y:t.den} (hy:mkW t l=some y):
  ∃ S',Ah X S' a∧S'.g=get (ups A us)∧S'.w=S.w∧Ci S S'∧(∀ n q z v,Af X.P S (.tm n q) z v→Af X.P S' (.tm n q) z v)∧(∀ n q k,S.O k = .tm n q→S'.O k = .tm n q)∧Ig X.P S' X.w0.heap.size i .ptr (A4 t y) (a.eval (.tmp x)):=by
 have hop:opT E 0 A (.tmp x)=some (get A x).2:=by show (bif Nat.blt x E.nt then some (get A x).2 else none)=_;rw[hx];rfl
 unfold Uc at h;simp only at h;split at h
 ·rename_i b v hs;rw[hs]at hop;split at h
  ·rename_i n m hp;cases hq:(Nat.beq n v&&(Nat.ble E.np b&&Nat.blt b 1000)&&Gd t&&Nat.beq m t.sz&&Nat.blt m 999&&A3 ((cellsOf A b 0 m).map (Gk A)))
   ·rw[hq]at h;simp at h
   rw[hq]at h;simp only[cond_true,Vc,Vu]at h;obtain⟨rfl,rfl⟩:=h;simp only[Va]at hq;obtain⟨⟨⟨⟨⟨q1,q2,q7⟩,q3⟩,q4⟩,q5⟩,q6⟩:=hq
   have hnv:n=v:=by simpa using q1
   have hm:m=t.sz:=Vb q4;have hlt:m<999:=Vd q5;have hnp:X.np≤b:=hE.np ▸ (Vd q2);have hb1:b<1000:=Vd q7;subst hnv;obtain⟨pl,hl⟩:=Ed hE K hg hop;have hlf:Af X.P S (.pl pl []) (.bp b n 0) (a.eval (.tmp x)):=hl;have hu:=hlf.2 (by rw[hg,hp]);obtain⟨S1,K1,g1,E1,F1,P1⟩:=Qn (X:=X) (a:=a) (A:=A) (cellsOf A b 0 m) K hg (λ p => .inl rfl);obtain⟨c1,c2,c3⟩:=Jh K hg b m 0;have hkept:=Dha K hg K1 E1 P1 (λ _ => .fz) (λ n k hk=>(E1.later.fz k hk).1) (cellsOf A b 0 m) (λ _ h=>h) 0 _ (c3 (λ _ => .fz) 0);have hrep:=J4 q6 (Me _ c2) hkept
   have hh:(S.g (H b)).2 = .one (.hd m):=by rw[hg,hp]
   have hh1:(S1.g (H b)).2 = .one (.hd m):=by
    rcases F1 (H b) with h1|⟨n',e,r',xs,h1,h2⟩
    ·rw[h1,hp]
    ·rw[hp]at h1;cases h1
   obtain⟨_,c,e,e1,e2,e3,e4⟩:=K1.box b m hh1
   have hnew:X.w0.heap.size≤(S1.bb b).1:=by
    rcases P3a (S1.bb b).1 X.w0.heap.size with h|h
    ·have:=hb0 _ _ ((K1.rgn b m hh1).1 (by omega) h).1;omega
    ·exact h
   obtain⟨K2,L2⟩:=K1.unbox hb0 hh1 hnp hb1 (i+500)
   have hll:(A4 t y).length=m:=by rw[Dw,hm]
   have htm:∀ n q k,S1.O k = .tm n q→(if k=(S1.bb b).1 then Lab.tm (i+500) [] else S1.O k) = .tm n q:=λ n q k hk=>by
    rw[if_neg (λ e=>by rw[e,e2]at hk;cases hk)];exact hk
   refine⟨_,K2,?_,E1.w,E1.later.trans L2,λ n q z v hz=>(hz.later E1.later (λ k hk=>⟨E1.tm n q k hk,by rw[E1.w]⟩)).later L2 (λ k hk=>⟨htm n q k hk,rfl⟩),λ n q k hk=>htm n q k (E1.tm n q k hk),(S1.bb b).1,(S1.bb b).2,c,e,(List.range m).map (λ j=>S.ph (C b (0+j))),?_,e1,hnew,if_pos rfl,by rw[hll];exact e3,by rw[hll];exact hlt,λ j hj=>?_,?_⟩
   ·show upd S1.g (H b) _=_;rw[Ae];show _=get (up (ups A (G0 A (cellsOf A b 0 m))) ⟨H b,false,.one .dead⟩);rw[Hg,← g1];rfl
   ·rw[E1.bb];exact hu
   ·rw[hll]at hj;rw[e4 j hj,E1.ph];simp[hj]
   ·exact Pp (G:=λ k=>S1.O k = .fz) (λ k hk=>(L2.fz k hk).1) hy q3 hrep _ _
  ·cases h
 ·cases h
end
end

section
attribute [local irreducible] C H
def V0 {P:Program} {w:World} {T:TypeId} {t:TI} {k o':Nat} {cs:List Value} (ht:TOk P T t) (ha:t.ag=true) (hc:C8 w k o' cs) (hl:cs.length=t.ty.sz):
  (loadVar T ⟨k,o',none⟩).run P w = .ok (.agg cs.toArray) w:=by
 obtain⟨d,hd,hagg⟩:=Uk ht;rw[ha]at hagg
 have hc':∀ j v,cs[j]? = some v→w.cell? (Addr.add ⟨k,o',none⟩ j)=some v:=λ j v hj=>by rw[Gv];exact hc j v hj
 have hlc:=run_loadCells_list (P:=P) w ⟨k,o',none⟩ cs hc';simp only[Vw,Wl,Vv,loadVar,Ia hd hagg,if_true,G7 (Jg ht),← hl,hlc]
def J5 (a:Act):ResultVar→Sem Value
 |.tmp t=>pure (a.tmps.getD t undef)
 |.cell x t=>do loadVar t (← asAddr (a.tmps.getD x undef))
section
variable {X:Cx} {S S1 S2:Sit} {a:Act} {E:En} {A:Ab}
def Gua (hE:Fo X E) (K:Ah X S a) (hg:S.g=get A) {x:Nat} (hx:Nat.blt x E.nt=true) {T:TypeId} {ti:TI} (hT:E.ti T=some ti) (hag:ti.ag=true) {t:Ty} (hsz:ti.ty.sz=t.sz) {l:List Lf} {us:List Up} (i:Nat)
  (h:Ud A t (get A x).2=some (l,us)) {y:t.den} (hy:mkW t l=some y):
  ∃ S',Ah X S' a∧S'.g=get (ups A us)∧Ce X S S' (λ n _=>n=i)∧
   ∃ vs,(J5 a (.cell x T)).run X.P S.w = .ok (.agg vs.toArray) S.w∧A5 X.P S' (λ n => .tm i [n]) 0 (A4 t y) vs:=by
 have hop:opT E 0 A (.tmp x)=some (get A x).2:=by show (bif Nat.blt x E.nt then some (get A x).2 else none)=_;rw[hx];rfl
 unfold Ud at h;split at h
 ·rename_i b v hs;rw[hs]at hop;obtain⟨pl,hl⟩:=Ed hE K hg hop;have hlf:Af X.P S (.pl pl []) (.bp b v 0) (a.eval (.tmp x)):=hl;obtain⟨g1,g2,_,_,g5,S1,K1,g6,G,hls⟩:=N7 K hg h i;have hu:=hlf.2 g1;obtain⟨hm9,c,e,e1,e2,e3,e4⟩:=K.box b _ g2
  have hcells:C8 S.w (S.bb b).1 (S.bb b).2 ((List.range t.sz).map λ i=>S.ph (C b (0+i))):=by
   intro j u hj
   have hj':j<t.sz:=by
    have:=(We.1 hj).1
    simpa using this
   have:u=S.ph (C b j):=by simpa[hj'] using hj.symm
   rw[this];simp[World.cell?,e1,e4 j hj']
  have hrun:(J5 a (.cell x T)).run X.P S.w = .ok (.agg ((List.range t.sz).map λ i=>S.ph (C b (0+i))).toArray) S.w:=by
   have hu':a.tmps.getD x undef = .pointer (some ⟨(S.bb b).1,(S.bb b).2+0,none⟩):=hu;unfold J5;simp only[hu',asAddr,Vw,Wl,Vv,Yt];exact V0 (hE.ti T ti hT) hag hcells (by rw[hsz];simp)
  exact⟨S1,K1,g6,G,_,hrun,H3 (Ma h) hy hls⟩
 ·cases h
def Kp (i n:Nat):Prop:=n<i∨500≤n
def Ig.keep {P:Program} {n0 i:Nat} {k:RK} {l:List Lf} {u:Value} (hw:S2.w=S1.w) (hi:∀ q z v,Af P S1 (.tm i q) z v→Af P S2 (.tm i q) z v) (ho:∀ q k,S1.O k = .tm (i+500) q→S2.O k = .tm (i+500) q) (h:Ig P S1 n0 i k l u):Ig P S2 n0 i k l u:=by
 cases k with
 |one=>exact A5.impM (λ x hx n u h=>hi _ _ u h) h
 |agg=>
  obtain⟨us,e,h⟩:=h;exact⟨us,e,h.impM (λ x hx n u h=>hi _ _ u h)⟩
 |ptr=>
  obtain⟨k,o,c,e,us,h1,h2,h3,h4,h5,h6,h7,h8⟩:=h;exact⟨k,o,c,e,us,h1,by rw[hw];exact h2,h3,ho _ _ h4,h5,h6,h7,h8.impM (λ x hx n u h=>hi _ _ u h)⟩
def Dia (hE:Fo X E) (hb0:∀ k b,X.O0 k = .bx b→b<X.np∨1500≤b):∀ (rs:List (RK×Ty)) (rv:List ResultVar) {S:Sit} {A:Ab} {ls ls':List (List Lf)} {us:List Up} (i:Nat),Ah X S a→S.g=get A→i+rs.length<500→Nm E A rs rv=some (ls,us)→Mk (rs.map Prod.snd) ls ls'→
  ∃ S' vs,Ah X S' a∧S'.g=get (ups A us)∧S'.w=S.w∧Ci S S'∧(∀ n q z v,Kp i n→Af X.P S (.tm n q) z v→Af X.P S' (.tm n q) z v)∧(∀ n q k,Kp i n→S.O k = .tm n q→S'.O k = .tm n q)∧Fz X.P S' X.w0.heap.size i rs ls' vs∧Gu (λ r v=>(J5 a r).run X.P S.w = .ok v S.w) rv vs
 |[],[],S,A,ls,ls',us,i,K,hg,_,h,hm=>by
  simp only[Nm,Vc,Vu]at h;obtain⟨rfl,rfl⟩:=h;refine⟨S,[],K,hg,rfl,.refl S,λ _ _ _ _ _ h=>h,λ _ _ _ _ h=>h,?_,.nil⟩
  cases ls' with
  |nil=>rfl
  |cons=>exact hm.elim
 |[],_::_,S,A,ls,ls',us,i,K,hg,_,h,hm=>by simp[Nm]at h
 |(k,t)::ks,[],S,A,ls,ls',us,i,K,hg,_,h,hm=>by cases k<;>simp[Nm]at h
 |(k,t)::ks,r::rs,S,A,ls,ls',us,i,K,hg,hi,h,hm=>by
  simp only[Vg]at hi
  have rest:∀ {l:List Lf} {u:List Up} {ls2:List (List Lf)} {us2:List Up} {S1:Sit} {y:t.den} {v:Value},mkW t l=some y→Ah X S1 a→S1.g=get (ups A u)→S1.w=S.w→Ci S S1→(∀ n q z v,n≠i→Af X.P S (.tm n q) z v→Af X.P S1 (.tm n q) z v)→(∀ n q k,n≠i→S.O k = .tm n q→S1.O k = .tm n q)→
    Ig X.P S1 X.w0.heap.size i k (A4 t y) v→(J5 a r).run X.P S.w = .ok v S.w→Nm E (ups A u) ks rs=some (ls2,us2)→(∃ ls2',ls'=A4 t y::ls2'∧Mk (ks.map Prod.snd) ls2 ls2')→us=u++us2→
    ∃ S' vs,Ah X S' a∧S'.g=get (ups A us)∧S'.w=S.w∧Ci S S'∧(∀ n q z v,Kp i n→Af X.P S (.tm n q) z v→Af X.P S' (.tm n q) z v)∧(∀ n q k,Kp i n→S.O k = .tm n q→S'.O k = .tm n q)∧Fz X.P S' X.w0.heap.size i ((k,t)::ks) ls' vs∧Gu (λ r v=>(J5 a r).run X.P S.w = .ok v S.w) (r::rs) vs:=by
   intro l u ls2 us2 S1 y v hy K1 g1 w1 L1 t1 o1 hres hrun hr2 hmk hus;obtain⟨ls2',rfl,hmk⟩:=hmk;subst hus;obtain⟨S',vs,K',g',w',L',t',o',hall,hruns⟩:=Dia hE hb0 ks rs (i+1) K1 g1 (by omega) hr2 hmk
   have hk1:∀ n,Kp i n→Kp (i+1) n∧n≠i:=λ n h=>by unfold Kp at *;omega
   refine⟨S',v::vs,K',by rw[Ae];exact g',w'.trans w1,L1.trans L',λ n q z v hn hz=>t' n q z v (hk1 n hn).1 (t1 n q z v (hk1 n hn).2 hz),λ n q k hn hk=>o' n q k (hk1 n hn).1 (o1 n q k (hk1 n hn).2 hk),⟨hres.keep w' (λ q z v=>t' i q z v (by unfold Kp;omega)) (λ q k=>o' _ q k (by unfold Kp;omega)),hall⟩,.cons hrun ?_⟩;rw[w1]at hruns;exact hruns
  cases ls' with
  |nil=>cases ls<;>exact hm.elim
  |cons l' ls2'=>
   cases ls with
   |nil=>exact hm.elim
   |cons l ls2=>
    obtain⟨⟨y,hy,rfl⟩,hmk⟩:=hm
    cases r with
    |tmp x=>
     have h':(bif Nat.blt x E.nt then (match Uc E.np A k t (.tmp x) (get A x).2 with
      |some (l,u)=>(match Nm E (ups A u) ks rs with
       |some (ls,us)=>some (l::ls,u++us)
       |none=>none)
      |none=>none) else none)=some (l::ls2,us):=by
      unfold Nm at h
      cases k<;>exact h
     cases hx:Nat.blt x E.nt
     ·rw[hx]at h';simp at h'
     rw[hx,cond_true]at h';split at h'
     ·rename_i l1 u1 hr1;split at h'
      ·rename_i l2 u2 hr2;simp only[Vc,Vu,Wp]at h';obtain⟨⟨rfl,rfl⟩,rfl⟩:=h'
       by_cases hk:k = .ptr
       ·subst hk;obtain⟨S1,K1,g1,w1,L1,t1,o1,hres⟩:=Jva hE K hg hb0 hx i hr1 hy;exact rest hy K1 g1 w1 L1 (λ n q z v _=>t1 n q z v) (λ n q k _=>o1 n q k) hres rfl hr2 ⟨ls2',rfl,hmk⟩ rfl
       ·obtain⟨S1,K1,g1,G,vs,e1,e2⟩:=Jua hE K hg hx i hk hr1 hy;refine rest hy K1 g1 G.w G.later (λ n q z v hn=>G.tms n q z v hn) (λ n q k hn=>G.tm n q k hn) ?_ (v:=a.eval (.tmp x)) rfl hr2 ⟨ls2',rfl,hmk⟩ rfl
        cases k with
        |ptr=>exact absurd rfl hk
        |one=>
         simp only[Mn,Wc,if_false]at e1 e2;subst e1;exact e2
        |agg=>
         simp only[Mn,if_true]at e1 e2;exact⟨vs,e1,e2⟩
      ·cases h'
     ·cases h'
    |cell x T=>
     cases k with
     |one=>simp[Nm]at h
     |ptr=>simp[Nm]at h
     |agg=>
      unfold Nm at h;cases hx:Nat.blt x E.nt
      ·rw[hx]at h;simp at h
      cases hT:E.ti T with
      |none=>rw[hT]at h;simp at h
      |some ti=>
       cases hag:ti.ag&&Nat.beq ti.ty.sz t.sz
       ·rw[hT,hx]at h;simp[hag]at h
       rw[hT,hx]at h;simp only[hag,Bool.and_self,cond_true]at h;simp only[Va]at hag;split at h
       ·rename_i l1 u1 hr1;split at h
        ·rename_i l2 u2 hr2;simp only[Vc,Vu,Wp]at h;obtain⟨⟨rfl,rfl⟩,rfl⟩:=h;obtain⟨S1,K1,g1,G,vs,hrun,e2⟩:=Gua hE K hg hx hT hag.1 (Vb hag.2) i hr1 hy;exact rest hy K1 g1 G.w G.later (λ n q z v hn=>G.tms n q z v hn) (λ n q k hn=>G.tm n q k hn) ⟨vs,rfl,e2⟩ hrun hr2 ⟨ls2',rfl,hmk⟩ rfl
        ·cases h
       ·cases h
def szs:List Par→Bool
 |[]=>true
 |.ptr t t'::ps=>Nat.beq t.sz t'.sz&&szs ps
 |.hid t t'::ps=>Nat.beq t.sz t'.sz&&szs ps
 |_::ps=>szs ps
def M0a {X:Cx} {i n:Nat} (hn:X.np≤1000) (h:i<n) (h2:n-X.np<500):X.pb (bid X.np i):=by
 unfold Cx.pb bid
 cases h3:Nat.blt i X.np with
 |true=>
  have h1:i<X.np:=Vd h3;rw[cond_true];omega
 |false=>rw[cond_false];omega
def Dja (K:Ah X S a) (hg:S.g=get A) {B:Nat} {f:Nat→Lab}:∀ (ts:List Ty) {j:Nat} {us:List Value},us.length=ts.length→(∀ n,n<ts.length→us[n]? = some (S.ph (C B (j+n))))→A5 X.P S f j (Lba A B j ts) us
 |[],j,[],_,_=>trivial
 |[],j,_::_,h,_=>by simp at h
 |_::_,j,[],h,_=>by simp at h
 |t::ts,j,u::us,hl,hv=>by
  have hu:u=S.ph (C B j):=by simpa using hv 0 (by simp)
  have hr:=Dja K hg (B:=B) (f:=f) ts (j:=j+1) (us:=us) (by simpa using hl) (λ n hn=>by
   have:=hv (n+1) (by simp;omega);rw[show j+1+n=j+(n+1) by omega]
   simpa using this)
  have sh:Af X.P S (f j) (Nva (get A (C B j)).2) u:=by
   have hat:=K.at_ (C B j);rw[hg]at hat;rw[hu]
   cases hs:(get A (C B j)).2 with
   |one x=>
    rw[hs]at hat
    cases x with
    |sc v=>exact Af.relab (lab := .pl (C B j) []) (x := .sc v) rfl hat
    |fz e r xs=>exact Af.relab (lab := .pl (C B j) []) (x := .fz e r xs) rfl hat
    |_=>trivial
   |_=>trivial
  cases t with
  |ow e r=>exact⟨⟨by rw[hg];exact Vo _,λ _=>hu⟩,hr⟩
  |_=>exact⟨sh,hr⟩
def R9 (hE:Fo X E) (hnp:X.np≤1000) (hu:∀ k b,X.O0 k = .bx b→∀ k',X.O0 k' = .bx b→k'=k) {hs:List Value}:∀ (ps:List Par) {S:Sit} {A:Ab} {ls ls' la:List (List Lf)} {us:List Value} (i:Nat),Ah X S a→S.g=get A→i+ps.length-X.np<500→szs ps=true→C3a X.np A i ps=some ls→Mk (Eg ps) ls ls'→
  Hj X.P (bare X.O0 X.w0) X.rg X.np hs i ps la us→(∀ j ag t,ps[j]? = some (.io ag t)→∃ u vs,us[j]? = some u∧(if ag then u = .agg vs.toArray else vs=[u])∧vs.length=t.sz∧∀ n,n<t.sz→vs[n]? = some (X.v0 (C (3000+(i+j)) n)))→
  ∃ S',Ah X S' a∧S'.w=S.w∧Ci S S'∧(∀ n q z v,n<1001+i→Af X.P S (.tm n q) z v→Af X.P S' (.tm n q) z v)∧(∀ n q k,n<1001+i→S.O k = .tm n q→S'.O k = .tm n q)∧Ha X.P S' i ps us ls'
 |[],S,A,ls,ls',la,us,i,K,hg,hn,hz,h,hm,ha,_=>by
  refine⟨S,K,rfl,.refl S,λ _ _ _ _ _ h=>h,λ _ _ _ _ h=>h,?_⟩;simp only[C3a,Vc]at h;subst h
  cases ls' with
  |nil=>rfl
  |cons=>exact hm.elim
 |p::ps,S,A,ls,ls',la,us,i,K,hg,hn,hz,h,hm,ha,hv=>by
  cases la with
  |nil=>exact ha.elim
  |cons l0 la=>
   cases us with
   |nil=>exact ha.elim
   |cons u us=>
    simp only[Vg]at hn;obtain⟨ha1,ha2⟩:=ha
    have hv2:∀ j ag t,ps[j]? = some (.io ag t)→∃ u vs,us[j]? = some u∧(if ag then u = .agg vs.toArray else vs=[u])∧vs.length=t.sz∧∀ n,n<t.sz→vs[n]? = some (X.v0 (C (3000+(i+1+j)) n)):=λ j ag t hj=>by
     obtain⟨u',vs,k1,k2⟩:=hv (j+1) ag t (by simpa using hj);rw[show i+1+j=i+(j+1) by omega];exact⟨u',vs,by simpa using k1,k2⟩
    have skip:szs ps=true→C3a X.np A (i+1) ps=some ls→Mk (Eg ps) ls ls'→(∀ {S':Sit},Ha X.P S' (i+1) ps us ls'→Ha X.P S' i (p::ps) (u::us) ls')→
      ∃ S',Ah X S' a∧S'.w=S.w∧Ci S S'∧(∀ n q z v,n<1001+i→Af X.P S (.tm n q) z v→Af X.P S' (.tm n q) z v)∧(∀ n q k,n<1001+i→S.O k = .tm n q→S'.O k = .tm n q)∧Ha X.P S' i (p::ps) (u::us) ls':=by
     intro hz h hm hb;obtain⟨S',K',w',L',t',o',b'⟩:=R9 hE hnp hu ps (i+1) K hg (by omega) hz h hm ha2 hv2;exact⟨S',K',w',L',λ n q z v hn=>t' n q z v (by omega),λ n q k hn=>o' n q k (by omega),hb b'⟩
    have box:∀ {t t':Ty},(Nat.beq t.sz t'.sz&&szs ps)=true→Pn X.P (bare X.O0 X.w0) X.rg (bid X.np i) t l0 u→(match J2a A (bid X.np i) t' with
      |some (l,us)=>(match C3a X.np (ups A us) (i+1) ps with
       |some ls=>some (l::ls)
       |none=>none)
      |none=>none)=some ls→Mk (t'::Eg ps) ls ls'→(∀ {S':Sit} {l':List Lf} {ls2:List (List Lf)},ls'=l'::ls2→Po X.P S' i t' l' u→Ha X.P S' (i+1) ps us ls2→Ha X.P S' i (p::ps) (u::us) ls')→
      ∃ S',Ah X S' a∧S'.w=S.w∧Ci S S'∧(∀ n q z v,n<1001+i→Af X.P S (.tm n q) z v→Af X.P S' (.tm n q) z v)∧(∀ n q k,n<1001+i→S.O k = .tm n q→S'.O k = .tm n q)∧Ha X.P S' i (p::ps) (u::us) ls':=by
     intro t t' hz ha1 h hm hb;simp only[Va]at hz;have hsz:t.sz=t'.sz:=Vb hz.1;split at h
     ·rename_i l1 us1 hgive;split at h
      ·rename_i ls2 h2;cases h
       cases ls' with
       |nil=>exact hm.elim
       |cons l' ls2'=>
        obtain⟨⟨y,hy,rfl⟩,hmk⟩:=hm;obtain⟨g1,g2,_,_,g5,S1,K1,g6,G,hls⟩:=N7 K hg hgive (1001+i);obtain⟨S2,K2,w2,L2,t2,o2,b2⟩:=R9 hE hnp hu ps (i+1) K1 g6 (by omega) hz.2 h2 hmk ha2 hv2;obtain⟨hm9,c,e,e1,e2,e3,e4⟩:=K.box _ _ g2;obtain⟨r1,r2,_⟩:=K.rgn _ _ g2;have hpb:X.pb (bid X.np i):=M0a (n:=i+(ps.length+1)) hnp (by omega) hn;obtain⟨r3,r4,r5⟩:=r1 (T7 (n:=i+(ps.length+1)) (by omega) hnp hn) (r2 hpb);obtain⟨k,o,c0,e0,vs,rfl,f2,f3,f4,f5,f6,f7,f8,f9⟩:=ha1;have hk:(S.bb (bid X.np i)).1=k:=hu k _ f3 _ r3;rw[f4]at r4 r5;simp only at r4 r5
        have ho:(S.bb (bid X.np i)).2=o:=by omega
        refine⟨S2,K2,w2.trans G.w,G.later.trans L2,λ n q z v hn hz=>t2 n q z v (by omega) (G.tms n q z v (by omega) hz),λ n q k hn hk=>o2 n q k (by omega) (G.tm n q k (by omega) hk),hb rfl ⟨k,o,c,e,(List.range t'.sz).map (λ j=>S.ph (C (bid X.np i) (0+j))),rfl,?_,Dw t' y,λ j hj=>?_,?_⟩ b2⟩
        ·rw[w2,G.w,← hk];exact e1
        ·rw[← ho,e4 j hj];simp[hj]
        ·exact(H3 (Ma hgive) hy hls).impM (λ z hz n u hu=>t2 _ _ z u (by omega) hu)
      ·cases h
     ·cases h
    cases p with
    |io ag t=>
     have h':(match Ck A (Dx t) (Lba A (3000+i) 0 (Dx t)) with
      |some (l,us)=>bif A3 l then (match C3a X.np (ups A us) (i+1) ps with
       |some ls=>some (l::ls)
       |none=>none) else none
      |none=>none)=some ls:=h
     obtain⟨u',vs,k1,k2,k3,k4⟩:=hv 0 ag t rfl;simp only[Zl,Vc]at k1;subst k1;split at h'
     ·rename_i l1 us1 hx;obtain⟨hst,h'⟩:=cs h';split at h'
      ·rename_i ls2 h2;cases h'
       cases ls' with
       |nil=>exact hm.elim
       |cons l' ls2'=>
        obtain⟨⟨y,hy,rfl⟩,hmk⟩:=hm
        have hC:∀ n,n<t.sz→3001000≤C (3000+i) n:=λ n _=>by simp only[C];omega
        have hl0:=Dja (B:=3000+i) (f:=λ n => .tm (1001+i) [n]) K hg (Dx t) (j:=0) (us:=vs) (by rw[k3,G9]) (λ n hn=>by
         rw[G9]at hn;rw[Wb,K.io _ (hC n hn)]
         exact k4 n hn)
        obtain⟨S1,K1,g6,G,hls⟩:=J2 (1001+i) (λ n=>[n]) (Dx t) _ K hg hx hst hl0 (λ n n' _ _ _ _ e=>by simpa using e);obtain⟨S2,K2,w2,L2,t2,o2,b2⟩:=R9 hE hnp hu ps (i+1) K1 g6 (by omega) hz h2 hmk ha2 hv2;exact⟨S2,K2,w2.trans G.w,G.later.trans L2,λ n q z v hn hz=>t2 n q z v (by omega) (G.tms n q z v (λ h=>by have:=h.1;omega) hz),λ n q k hn hk=>o2 n q k (by omega) (G.tm n q k (λ h=>by have:=h.1;omega) hk),⟨vs,k2,(H3 (Gq _ _ hx) hy hls).impM (λ z hz n u hu=>t2 _ _ z u (by omega) hu)⟩,b2⟩
      ·cases h'
     ·cases h'
    |val ag t=>exact skip hz h hm (λ h=>h)
    |vw t h0=>exact skip hz h hm (λ h=>h)
    |rd t=>exact skip hz h hm (λ h=>h)
    |fn F m=>exact skip hz h hm (λ h=>h)
    |ptr t t'=>exact box hz ha1.2 h hm (λ e h1 h2=>by subst e;exact⟨h1,h2⟩)
    |hid t t'=>exact box hz ha1.2 h hm (λ e h1 h2=>by subst e;exact⟨h1,h2⟩)
end
end

section
attribute [local irreducible] C H
def Y2 {P:Program} {w:World} {a:Act}:∀ {rv:List ResultVar} {vs:List Value},Gu (λ r v=>(J5 a r).run P w = .ok v w) rv vs→(rv.mapM (J5 a)).run P w = .ok vs w
 |_,_,.nil=>rfl
 |_,_,.cons h hs=>by
  rw[List.mapM_cons];simp only[Vw,h,Vv,Y2 hs,Wl]
def V1 {P:Program} {w:World} {a:Act} {fn:Func} {vs:List Value} (h:Gu (λ r v=>(J5 a r).run P w = .ok v w) fn.results.toList vs):
  (results fn a.tmps).run P w = .ok (if h:vs.length=1 then vs[0] else .tuple vs.toArray) w:=by
 refine Eq.trans (b:=(do let vs ← fn.results.mapM (J5 a);pure (if h:vs.size=1 then vs[0] else .tuple vs):Sem Value).run P w) ?_ ?_
 ·unfold results;refine congrArg (λ (f:ResultVar→Sem Value)=>Sem.run P (do let vs ← fn.results.mapM f;pure (if h:vs.size=1 then vs[0] else Value.tuple vs):Sem Value) w) (?_:_=J5 a);funext x
  cases x<;>rfl
 rw[Pua];simp only[map_eq_pure_bind,Vw,Y2 h,Vv,Wl];simp
def V2:∀ (ts us:List Ty) (x:Den (ts++us)) (ls ls':List (List Lf)),ls.length=ts.length→Mk (ts++us) (ls++ls') (Ar (ts++us) x)→
  Mk ts ls ((Ar (ts++us) x).take ts.length)∧Mk us ls' ((Ar (ts++us) x).drop ts.length)
 |[],us,x,[],ls',_,h=>⟨trivial,h⟩
 |[],us,x,_::_,ls',hl,h=>by simp at hl
 |t::ts,us,x,[],ls',hl,h=>by simp at hl
 |t::ts,us,x,l::ls,ls',hl,h=>by
  have key:∀ (ts us:List Ty) (ls ls' lx:List (List Lf)),ls.length=ts.length→Mk (ts++us) (ls++ls') lx→Mk ts ls (lx.take ts.length)∧Mk us ls' (lx.drop ts.length):=by
   intro ts
   induction ts with
   |nil=>
    intro us ls ls' lx hl h
    cases ls with
    |nil=>exact⟨trivial,h⟩
    |cons=>simp at hl
   |cons t ts ih=>
    intro us ls ls' lx hl h
    cases ls with
    |nil=>simp at hl
    |cons l ls=>
     cases lx with
     |nil=>exact h.elim
     |cons lx1 lx=>
      obtain⟨h1,h2⟩:=ih us ls ls' lx (by simpa using hl) h.2;exact⟨⟨h.1,h1⟩,h2⟩
  exact key (t::ts) us (l::ls) ls' _ hl h
def Ra {E:En}:∀ (rs:List (RK×Ty)) (rv:List ResultVar) (A:Ab) (ls:List (List Lf)) (us:List Up),Nm E A rs rv=some (ls,us)→ls.length=rs.length
 |[],[],A,ls,us,h=>by
  simp only[Nm,Vc,Vu]at h;obtain⟨rfl,rfl⟩:=h;rfl
 |[],_::_,A,ls,us,h=>by simp[Nm]at h
 |(k,t)::ks,[],A,ls,us,h=>by cases k<;>simp[Nm]at h
 |(k,t)::ks,.tmp x::rs,A,ls,us,h=>by
  have h':(bif Nat.blt x E.nt then (match Uc E.np A k t (.tmp x) (get A x).2 with
   |some (l,u)=>(match Nm E (ups A u) ks rs with
    |some (ls,us)=>some (l::ls,u++us)
    |none=>none)
   |none=>none) else none)=some (ls,us):=by
   unfold Nm at h
   cases k<;>exact h
  cases hx:Nat.blt x E.nt
  ·rw[hx]at h';simp at h'
  rw[hx,cond_true]at h';split at h'
  ·split at h'
   ·rename_i hr;simp only[Vc,Vu]at h';obtain⟨rfl,rfl⟩:=h';simp[Ra ks rs _ _ _ hr]
   ·cases h'
  ·cases h'
 |(.agg,t)::ks,.cell x T::rs,A,ls,us,h=>by
  unfold Nm at h;generalize (Nat.blt x E.nt&&(match E.ti T with|some ti=>ti.ag&&Nat.beq ti.ty.sz t.sz|none=>false))=bb at h;cases bb
  ·simp at h
  rw[cond_true]at h;split at h
  ·split at h
   ·rename_i hr;cases h;simp[Ra ks rs _ _ _ hr]
   ·cases h
  ·cases h
 |(.one,t)::ks,.cell x T::rs,A,ls,us,h=>by simp[Nm]at h
 |(.ptr,t)::ks,.cell x T::rs,A,ls,us,h=>by simp[Nm]at h
def Eh.of {P:Program} {S:Sit} {n0:Nat} {rs:List (RK×Ty)} {ls:List (List Lf)} {vs:List Value} (h:Fz P S n0 1 rs ls vs) (ll:List (List Lf)):Eh P S n0 rs (ls++ll) (if h:vs.length=1 then vs[0] else .tuple vs.toArray):=by
 have len:∀ (rs:List (RK×Ty)) (i:Nat) (ls:List (List Lf)) (vs:List Value),Fz P S n0 i rs ls vs→vs.length=rs.length:=by
  intro rs
  induction rs with
  |nil=>intro i ls vs h;(have:vs=[]:=by (cases ls<;>exact h));subst this;rfl
  |cons r rs ih=>
   intro i ls vs h
   cases ls with
   |nil=>exact h.elim
   |cons l ls=>
    cases vs with
    |nil=>exact h.elim
    |cons v vs=>simp[ih _ _ _ h.2]
 have ext:∀ (rs:List (RK×Ty)) (i:Nat) (ls:List (List Lf)) (vs:List Value),Fz P S n0 i rs ls vs→Fz P S n0 i rs (ls++ll) vs:=by
  intro rs
  induction rs with
  |nil=>intro i ls vs h;(have:vs=[]:=by (cases ls<;>exact h));subst this;cases (ls++ll)<;>rfl
  |cons r rs ih=>
   intro i ls vs h
   cases ls with
   |nil=>exact h.elim
   |cons l ls=>
    cases vs with
    |nil=>exact h.elim
    |cons v vs=>exact⟨h.1,ih _ _ _ h.2⟩
 have hl:=len rs 1 ls vs h;have he:=ext rs 1 ls vs h;unfold Eh;split
 ·rename_i r;have h1:vs.length=1:=hl;obtain⟨v,rfl⟩:=P9a.1 h1
  cases ls with
  |nil=>exact h.elim
  |cons l ls=>exact⟨l,ls++ll,rfl,h.1⟩
 ·rename_i hne;refine⟨vs,?_,he⟩;rw[dif_neg];intro h1;rw[hl]at h1;obtain⟨r,hr⟩:=P9a.1 h1;exact hne r hr
def V3 (en:Ent):Bool:=Gg en.nv 0 en.ps&&szs en.ps&&Nat.blt (en.ps.length-en.nv) 500&&Nat.blt en.rs.length 400
def Aua {P:Program} {f:FuncId} {fn:Func} {c:Code} {en:Ent} {E:En} (hf:P.funcs[f]? = some fn) (hb:fn.body=some c) (hnt:fn.ntmps≤1000) (hps:en.nv≤fn.ntmps)
  (hV:∀ X:Cx,X.P=P→X.nt=fn.ntmps→X.np=en.nv→O8 X E) (hD:∀ X:Cx,X.P=P→X.nt=fn.ntmps→X.np=en.nv→T4 X E) (hL:∀ X:Cx,X.P=P→X.nt=fn.ntmps→X.np=en.nv→Hc X E c)
  (hpl:V3 en=true) (heq:∀ x,C4a E c fn.results.toList en x=en.run x):Jia P f en:=by
 intro x r hr w O rg us hlt hbx hargs;rw[← heq]at hr;unfold V3 at hpl;simp only[Va]at hpl;obtain⟨⟨⟨hp1,hp2⟩,hp3⟩,hp4⟩:=hpl;have hp3:en.ps.length-en.nv<500:=Vd hp3;have hp4:en.rs.length<400:=Vd hp4
 let X:Cx:=⟨P,O,w,rg,fn.ntmps,en.nv,ioV en.ps us⟩
 have hsol:=El (en.ps.map Par.ty) x
 have hioV:∀ (j:Nat) (ag:Bool) (t:Ty),en.ps[j]? = some (.io ag t)→∃ u vs,us[j]? = some u∧(if ag then u = .agg vs.toArray else vs=[u])∧vs.length=t.sz∧∀ n,n<t.sz→vs[n]? = some (ioV en.ps us (C (3000+(0+j)) n)):=λ j ag t hj=>by
  obtain⟨l,u,h1,⟨_,h3,h4⟩,vs,h5,h6⟩:=hargs.at hj
  have hlen:vs.length=t.sz:=by rw[← h4];exact h6.len
  refine⟨u,vs,h1,h5,hlen,λ n hn=>?_⟩
  have hC:C (3000+(0+j)) n/1000-3001=j∧C (3000+(0+j)) n % 1000=n:=by simp only[C];omega
  unfold ioV;rw[hC.1,hC.2,hj,h1];have hvn:vs[n]? = some vs[n]:=Vp (by omega);cases ag
  ·simp only[Wc,if_false]at h5;subst h5
   have:n=0:=by simp only[Vg,Vs]at hlen;omega
   subst this;rfl
  ·simp only[if_true]at h5;subst h5;simp[Wg,hvn]
 have K0:Ah X (S0 en.nv en.ps (Ar _ x) us O w) ⟨(us.take en.nv).toArray++Array.replicate (fn.ntmps-(us.take en.nv).toArray.size) undef,[]⟩:=
  Gta hnt hlt (λ k b h=>(hbx k b h).2.1) hargs hsol hps hp1 hp3
 refine calls_of_wp hf hb ?_;refine T6 (X:=X) (S:=S0 en.nv en.ps (Ar _ x) us O w) (hV X rfl rfl rfl) (hD X rfl rfl rfl) c (hL X rfl rfl rfl) K0 rfl hr ?_;intro e S a A K hg h;have hE:=(hV X rfl rfl rfl).en
 have hb0:∀ k b,O k = .bx b→b<en.nv∨1500≤b:=λ k b hk=>by
  obtain⟨i,h1,h2⟩:=(hbx k b hk).1;subst h2;unfold bid
  cases h3:Nat.blt i en.nv with
  |true=>exact .inl (Vd h3)
  |false=>rw[cond_false];exact .inr (by omega)
 have fin:I6 E (E.gh 1000000) A (λ A=>match Nm E A en.rs fn.results.toList with
   |some (ls,us)=>(match C3a en.nv (ups A us) 0 en.ps with
    |some bs=>Ks (en.rs.map Prod.snd++Eg en.ps) (ls++bs)
    |none=>none)
   |none=>none)=some r→bodyPost P fn (λ e w'=>∃ v O',e = .returned v∧Fr O w rg O' w'∧(∀ k,O' k ≠ .no→k<w'.heap.size)∧Eh P (bare O' w') w.heap.size en.rs (Ar _ r) v∧Ha P (bare O' w') 0 en.ps us ((Ar _ r).drop en.rs.length)) .ret a S.w:=by
  intro h;obtain⟨A,S0',h,K,hg,w0'⟩:=Hy hE _ K hg h;rw[← w0'];split at h
  ·rename_i ls1 us1 h1;split at h
   ·rename_i bs h2;have hmk:=Le _ _ _ h;have hlen:=Ra _ _ _ _ _ h1;obtain⟨m1,m2⟩:=V2 (en.rs.map Prod.snd) (Eg en.ps) r ls1 bs (by simpa using hlen) hmk;rw[Yj]at m1 m2;obtain⟨S1,vs,K1,g1,w1,L1,_,_,hall,hruns⟩:=Dia hE hb0 en.rs fn.results.toList 1 K hg (by omega) h1 m1;obtain⟨S2,K2,w2,L2,t2,o2,hback⟩:=R9 hE (show en.nv≤1000 by omega) (λ k b hk=>(hbx k b hk).2.2) en.ps 0 K1 g1 (by show 0+en.ps.length-en.nv<500;omega) hp2 h2 m2 hargs hioV;have hsolr:=El _ r
    have hall2:Fz P (bare S2.O S2.w) w.heap.size 1 en.rs ((Ar _ r).take en.rs.length) vs:=by
     have key:∀ (rs:List (RK×Ty)) (i:Nat) (ls:List (List Lf)) (us:List Value),i+rs.length<500→(∀ l∈ls,∀ y∈l,Df y=true)→Fz P S1 w.heap.size i rs ls us→Fz P (bare S2.O S2.w) w.heap.size i rs ls us:=by
      intro rs
      induction rs with
      |nil=>intro i ls us _ _ h;exact h
      |cons r rs ih=>
       intro i ls us hi hs h;simp only[Vg]at hi
       cases ls with
       |nil=>exact h.elim
       |cons l ls=>
        cases us with
        |nil=>exact h.elim
        |cons u us=>
         refine⟨?_,ih (i+1) ls us (by omega) (λ l hl=>hs l (Ve _ hl)) h.2⟩;have hl:∀ q z v,Df z=true→Af P S1 (.tm i q) z v→Af P (bare S2.O S2.w) (.tm i q) z v:=λ q z v hz hv=>Af.bare (S1:=S2) hz rfl (λ k hk=>hk) (λ k hk=>hk) (t2 i q z v (by omega) hv);have h1:=h.1;generalize r.1=k at h1 ⊢
         cases k with
         |one=>exact A5.impM (λ x hx n u h=>hl _ _ u (hs l (by simp) x hx) h) h1
         |agg=>
          obtain⟨us,e,h⟩:=h1;exact⟨us,e,h.impM (λ x hx n u h=>hl _ _ u (hs l (by simp) x hx) h)⟩
         |ptr=>
          obtain⟨k,o,c,e,us,h1,h2,h3,h4,h5,h6,h7,h8⟩:=h1;exact⟨k,o,c,e,us,h1,by show S2.w.heap[k]? = _;rw[w2];exact h2,h3,o2 _ _ _ (by omega) h4,h5,h6,h7,h8.impM (λ x hx n u h=>hl _ _ u (hs l (by simp) x hx) h)⟩
     exact key _ _ _ _ (by omega) (λ l hl=>hsolr l (Pja hl)) hall
    have hback2:Ha P (bare S2.O S2.w) 0 en.ps us ((Ar _ r).drop en.rs.length):=by
     have one:∀ {i:Nat} {t':Ty} {l:List Lf} {u:Value},(∀ y∈l,Df y=true)→Po P S2 i t' l u→Po P (bare S2.O S2.w) i t' l u:=by
      rintro i t' l u hs ⟨k,o,c,e,vs,q1,q2,q3,q4,q5⟩;exact⟨k,o,c,e,vs,q1,q2,q3,q4,q5.impM (λ y hy n u hu=>Af.bare (S1:=S2) (hs y hy) rfl (λ k hk=>hk) (λ k hk=>hk) hu)⟩
     have ioK:∀ {i:Nat} {ag:Bool} {l:List Lf} {u:Value},(∀ y∈l,Df y=true)→N5a P S2 i ag l u→N5a P (bare S2.O S2.w) i ag l u:=by
      rintro i ag l u hs ⟨vs,q1,q5⟩;exact⟨vs,q1,q5.impM (λ y hy n u hu=>Af.bare (S1:=S2) (hs y hy) rfl (λ k hk=>hk) (λ k hk=>hk) hu)⟩
     have key:∀ (ps:List Par) (i:Nat) (us:List Value) (ls:List (List Lf)),(∀ l∈ls,∀ y∈l,Df y=true)→Ha P S2 i ps us ls→Ha P (bare S2.O S2.w) i ps us ls:=by
      intro ps
      induction ps with
      |nil=>intro i us ls _ h;exact h
      |cons p ps ih=>
       intro i us ls hs h
       cases p<;>cases us<;>first|exact h.elim|skip
       all_goals first|exact ih _ _ _ hs h|skip
       all_goals
        cases ls with
        |nil=>exact h.elim
        |cons l ls=>first
         |exact⟨one (hs l (by simp)) h.1,ih _ _ _ (λ l hl=>hs l (Ve _ hl)) h.2⟩
         |exact⟨ioK (hs l (by simp)) h.1,ih _ _ _ (λ l hl=>hs l (Ve _ hl)) h.2⟩
     exact key _ _ _ _ (λ l hl=>hsolr l (Zk hl)) hback
    have hres:=Eh.of hall2 ((Ar _ r).drop en.rs.length);rw[Wm]at hres;have hw:S2.w=S0'.w:=w2.trans w1;rw[hw]at hres hback2;refine⟨K.df,_,V1 hruns,_,S2.O,rfl,?_,?_,hres,hback2⟩
    ·rw[← hw];exact K2.fr
    ·rw[← hw];exact K2.lt
   ·cases h
  ·cases h
 cases e with
 |exit i=>cases h
 |normal=>exact fin h
 |ret=>exact fin h
end

end Go.Proofs.Ytbbifgjgneefkaa.Vf
