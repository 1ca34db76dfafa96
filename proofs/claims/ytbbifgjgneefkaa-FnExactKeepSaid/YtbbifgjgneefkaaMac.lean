import Derived.Test.YtbbifgjgneefkaaMab
import Derived.Laws.Strings
import Derived.Laws.Slices
import Derived.Laws.BytesArg
set_option linter.all false
namespace Go.Proofs.Ytbbifgjgneefkaa.Vf
open Go
open List (length getD)
open Int (toNat)
open Go.IntKind (wrap)
open BitVec (ofInt)
def Vd:=@Nat.le_of_ble_eq_true
def Vl:=@List.length_take
def Vn:=@List.getD_eq_getElem?_getD
def Vo:=@Nat.le_refl
def Vp:=@List.getElem?_eq_getElem
def Vq:=@Int.toNat_natCast
def Vu:=@Prod.mk.injEq
def Vv:=@Result.andThen_ok
def Vw:=@Sem.run_bind
def Vx:=@List.length_drop
def Wa:=@Nat.mul_le_mul_right
def Wc:=@Bool.false_eq_true
def Wg:=@Array.getD_eq_getD_getElem?
def Wh:=@Nat.zero_le
def Wi:=@Nat.lt_of_lt_of_le
def Wk:=@Bool.not_eq_true'
def Wl:=@Sem.run_pure
def Wm:=@List.take_append_drop
def Wo:=@List.drop_of_length_le
def Ya:=@List.singleton_append
def Yc:=@List.map_cons
def Yi:=@List.drop_eq_getElem_cons
def Yt:=@Nat.add_zero
def Zb:=@List.take_of_length_le
def Zc:=@Option.getD_some
def Zf:=@Nat.min_eq_left
def Zg:=@Option.getD_none
def Zm:=@List.take_take
def Zu:=@Array.getElem?_setIfInBounds_ne
def P2a:=@Option.isSome_iff_exists
def P3a:=@Nat.lt_or_ge
def P8a:=@List.drop_eq_nil_of_le
def Pga:=@Nat.sub_zero
def Pka:=@List.take_succ_cons
def Ppa:=@Nat.succ_mul
def Pta:=@Int.toNat_zero
def Q5a:=@Option.some.inj
def Qfa:=@Nat.sub_self

section
variable {X:Cx} {S:Sit} {a:Act}
def Fr.relab {O0 O O':Nat→Lab} {w0 w:World} {rg:Nat→Nat×Nat} (h:Fr O0 w0 rg O w)
  (h1:∀ k,O k = .no→O' k = .no) (h2:∀ k,O k = .fz→O' k = .fz) (h3:∀ k b,O k = .bx b→O' k = .bx b):Fr O0 w0 rg O' w:=
 ⟨h.os,h.tape,h.out,h.size,λ k hk e=>⟨h1 k (h.no k hk e).1,(h.no k hk e).2⟩,λ k hk e=>⟨h2 k (h.fz k hk e).1,(h.fz k hk e).2⟩,
  λ k b hk e=>⟨h3 k b (h.bx k b hk e).1,(h.bx k b hk e).2⟩⟩
def Ah.ghost (K:Ah X S a) (O':Nat→Lab) (g':Nat→Nat×Sv)
  (h1:∀ k,S.O k = .no→O' k = .no) (h1':∀ k,O' k ≠ .no→S.O k ≠ .no) (h2:∀ k,S.O k = .fz→O' k = .fz) (h3:∀ k b,S.O k = .bx b→O' k = .bx b)
  (hH:∀ b n,(g' (H b)).2 = .one (.hd n)→(S.g (H b)).2 = .one (.hd n))
  (hat:∀ l,Fi X.P { S with O:=O',g:=g' } l (g' l).2 (S.ph l)):Ah X { S with O:=O',g:=g' } a where
 nt:=K.nt
 lt:=λ k hk=>K.lt k (h1' k hk)
 at_:=hat
 box:=λ b n h=>by
  obtain⟨hn,c,e,e1,e2,e3,e4⟩:=K.box b n (hH b n h);exact⟨hn,c,e,e1,h3 _ _ e2,e3,e4⟩
 rgn:=λ b n h=>K.rgn b n (hH b n h)
 sl:=K.sl
 sz:=K.sz
 df:=K.df
 fr:=K.fr.relab h1 h2 h3
 io:=K.io
def reO (O:Nat→Lab) (l:Nat) (i:Nat):Nat→Lab:=λ k=>match O k with
 |.pl l' p=>if l'=l then .tm i p else .pl l' p
 |o=>o
def Ec {O:Nat→Lab} {l k:Nat} {i:Nat} (h:∀ p,O k ≠ .pl l p):reO O l i k=O k:=by
 unfold reO
 cases hk:O k<;>simp
 rename_i l' p;intro e;subst e;exact absurd hk (h p)
def C6a {O:Nat→Lab} {l k:Nat} {i:Nat} {p:List Nat} (h:O k = .pl l p):reO O l i k = .tm i p:=by
 unfold reO;rw[h];simp
def Gw (S:Sit) (l:Nat) (i:Nat):Sit := { S with O:=reO S.O l i,g:=upd S.g l ((S.g l).1+1,.one .dead) }
def Gn (S:Sit) (l:Nat) (i:Nat):Ci S (Gw S l i) where
 ver:=λ p=>by
  by_cases h:p=l
  ·subst h;simp[Gw]
  ·simp[Gw,Aa _ _ h]
 ph:=λ _ _=>rfl
 own:=λ p v e r xs' h hv=>by
  by_cases hp:p=l
  ·subst hp;simp[Gw]at h
  ·simp only[Gw,Aa _ _ hp]at h;exact⟨xs',h,rfl⟩
 bb:=λ _ _=>rfl
 fz:=λ k h=>⟨(Ec (by simp[h])).trans h,rfl⟩
 box:=Ci.box_of (λ b n hv hh=>by
  have hb:H b≠l:=λ e=>by subst e;simp[Gw]at hv
  exact(congrArg Prod.snd (Aa _ _ hb)).trans hh) (λ k b h=>⟨(Ec (by simp[h])).trans h,rfl⟩)
 bor:=λ p hv hd=>by
  have hp:p≠l:=λ e=>by subst e;simp[Gw]at hv
  have hg:(Gw S l i).g p=S.g p:=Aa _ _ hp;rw[hg];exact⟨hd,λ _ _ _ h=>h,λ k hk=>⟨.inl ((Ec (by simp[hk,hp])).trans hk),rfl⟩⟩
 io:=λ _ _=>rfl
def Hh (K:Ah X S a) (l:Nat) (i:Nat):
  Ah X (Gw S l i) a∧(∀ p x u,Af X.P S (.pl l p) x u→Af X.P (Gw S l i) (.tm i p) x u)∧(∀ n q x u,Af X.P S (.tm n q) x u→Af X.P (Gw S l i) (.tm n q) x u):=by
 have L:=Gn S l i;refine⟨?_,λ p x u h=>h.later L (λ k hk=>⟨C6a hk,rfl⟩),λ n q x u h=>h.later L (λ k hk=>⟨(Ec (by simp[hk])).trans hk,rfl⟩)⟩;refine K.ghost _ _ (λ k h=>(Ec (by simp[h])).trans h) (λ k h=>?_) (λ k h=>(Ec (by simp[h])).trans h) (λ k b h=>(Ec (by simp[h])).trans h) (λ b n h=>?_) (λ l'=>?_)
 ·intro e;exact h ((Ec (by simp[e])).trans e)
 ·by_cases hb:H b=l
  ·subst hb;simp at h
  ·rwa [Aa _ _ hb]at h
 ·by_cases hl:l'=l
  ·subst hl;show Fi X.P _ l' (upd S.g l' _ l').2 _;simp only[A8];trivial
  ·show Fi X.P _ l' (upd S.g l _ l').2 _;rw[Aa _ _ hl];exact(K.at_ l').later L (λ p k hk=>⟨(Ec (by simp[hk,hl])).trans hk,rfl⟩)
def frS (S:Sit) (p:Nat) (e:TypeId) (r:Ty) (xs:List r.den):Sit:=
 { S with O:=λ k=>if S.O k = .pl p [] then .fz else S.O k,g:=upd S.g p ((S.g p).1,.one (.fz e r xs)) }
def Sa (S:Sit) (p:Nat) (e:TypeId) (r:Ty) (xs:List r.den) (hpo:(S.g p).2 = .one (.own e r xs)):Ci S (frS S p e r xs) where
 ver:=λ q=>by
  by_cases h:q=p
  ·subst h;simp[frS]
  ·simp[frS,Aa _ _ h]
 ph:=λ _ _=>rfl
 own:=λ q v e' r' xs' h hv=>by
  by_cases hp:q=p
  ·subst hp;simp[frS]at h
  ·simp only[frS,Aa _ _ hp]at h;exact⟨xs',h,rfl⟩
 bb:=λ _ _=>rfl
 fz:=λ k h=>⟨by simp[frS,h],rfl⟩
 box:=Ci.box_of (λ b n hv hh=>by
  have hb:H b≠p:=λ e=>by subst e;rw[hpo]at hh;cases hh
  exact(congrArg Prod.snd (Aa _ _ hb)).trans hh) (λ k b h=>⟨by simp[frS,h],rfl⟩)
 bor:=λ q hv hd=>by
  by_cases hq:q=p
  ·subst hq;have hg:(frS S q e r xs).g q=((S.g q).1,.one (.fz e r xs)):=A8 _ _ _;rw[hg];rw[hpo]at hd;refine⟨hd,λ E R XS h=>by simp at h,λ k hk=>⟨.inr ?_,rfl⟩⟩;show (if S.O k = .pl q [] then Lab.fz else S.O k) = .fz;rw[if_pos hk]
  ·have hg:(frS S p e r xs).g q=S.g q:=Aa _ _ hq;rw[hg];refine⟨hd,λ _ _ _ h=>h,λ k hk=>⟨.inl ?_,rfl⟩⟩;show (if S.O k = .pl p [] then Lab.fz else S.O k)=_;rw[if_neg (by rw[hk];simp[hq]),hk]
 io:=λ _ _=>rfl
def Nr (K:Ah X S a) {p:Nat} {e:TypeId} {r:Ty} {xs:List r.den} (hp:(S.g p).2 = .one (.own e r xs)):
  Ah X (frS S p e r xs) a∧(∀ n q x u,Af X.P S (.tm n q) x u→Af X.P (frS S p e r xs) (.tm n q) x u)∧Af X.P (frS S p e r xs) .no (.fz e r xs) (S.ph p):=by
 have L:=Sa S p e r xs hp
 have hown:Ch X.P S.O S.w (.pl p []) e r xs (S.ph p):=by have:=K.at_ p;rw[hp]at this;exact this
 have other:∀ k o,S.O k=o→o ≠ .pl p []→(frS S p e r xs).O k=o:=λ k o h ho=>by
  show (if S.O k = .pl p [] then Lab.fz else S.O k)=o;rw[if_neg (by rw[h];exact ho),h]
 have hnew:Af X.P (frS S p e r xs) .no (.fz e r xs) (S.ph p):=hown.reads (O':=(frS S p e r xs).O) (λ k h=>(L.fz k h).1) (λ k h=>by show (if S.O k = .pl p [] then Lab.fz else S.O k)=_;rw[if_pos h])
 refine⟨K.ghost _ _ (λ k h=>other k _ h (by simp)) (λ k h e'=>h (other k _ e' (by simp))) (λ k h=>(L.fz k h).1) (λ k b h=>other k _ h (by simp)) (λ b n h=>?_) (λ l=>?_),
  λ n q x u h=>h.later L (λ k hk=>⟨other k _ hk (by simp),rfl⟩),hnew⟩
 ·by_cases hbp:H b=p
  ·subst hbp;simp at h
  ·rwa [Aa _ _ hbp]at h
 ·by_cases hl:l=p
  ·subst hl;show Fi X.P _ l (upd S.g l _ l).2 _;rw[A8];exact Af.relab (lab' := .pl l []) rfl hnew
  ·show Fi X.P _ l (upd S.g p _ l).2 _;rw[Aa _ _ hl];exact(K.at_ l).later L (λ q k hk=>⟨other k _ hk (by simp[hl]),rfl⟩)
def atO (O:Nat→Lab) (h:Nat→List Nat→Option Lab):Nat→Lab:=λ k=>match O k with
 |.tm n q=>(match h n q with
  |some p=>p
  |none => .tm n q)
 |o=>o
def Al {O:Nat→Lab} {h:Nat→List Nat→Option Lab} {k:Nat} {o:Lab} (e:O k=o) (ho:∀ n q,o ≠ .tm n q):atO O h k=o:=by
 unfold atO;rw[e];cases o<;>first|rfl|(exact absurd rfl (ho _ _))
def F3 {O:Nat→Lab} {h:Nat→List Nat→Option Lab} {k n:Nat} {q:List Nat} {p:Lab} (e:O k = .tm n q) (hn:h n q=some p):atO O h k=p:=by
 unfold atO;rw[e];simp[hn]
def H1 {O:Nat→Lab} {h:Nat→List Nat→Option Lab} {k n:Nat} {q:List Nat} (e:O k = .tm n q) (hn:h n q=none):atO O h k = .tm n q:=by
 unfold atO;rw[e];simp[hn]
def Gp (S:Sit) (h:Nat→List Nat→Option Lab) (d:Nat) (s:Sv) (v:Value):Sit:=
 { S with O:=atO S.O h,g:=upd S.g d ((S.g d).1+1,s),ph:=upd S.ph d v }
def D0 (S:Sit) (h:Nat→List Nat→Option Lab) (d:Nat) (hd0:d<3001000) (s:Sv) (v:Value):Ci S (Gp S h d s v) where
 ver:=λ p=>by
  by_cases hp:p=d
  ·subst hp;simp[Gp]
  ·simp[Gp,Aa _ _ hp]
 ph:=λ p e=>by
  by_cases hp:p=d
  ·subst hp;simp[Gp]at e
  ·simp[Gp,Aa _ _ hp]
 own:=λ p v' e r xs' hh hv=>by
  by_cases hp:p=d
  ·subst hp;simp only[Gp,A8,Vu]at hh;omega
  ·simp only[Gp,Aa _ _ hp]at hh;exact⟨xs',hh,rfl⟩
 bb:=λ _ _=>rfl
 fz:=λ k hk=>⟨Al hk (by simp),rfl⟩
 box:=Ci.box_of (λ b n hv hh=>by
  have hb:H b≠d:=λ e=>by subst e;simp[Gp]at hv
  exact(congrArg Prod.snd (Aa _ _ hb)).trans hh) (λ k b h=>⟨Al h (by simp),rfl⟩)
 bor:=λ p hv hd=>by
  have hp:p≠d:=λ e=>by subst e;simp[Gp]at hv
  have hg:(Gp S h d s v).g p=S.g p:=Aa _ _ hp;rw[hg];exact⟨hd,λ _ _ _ h=>h,λ k hk=>⟨.inl (Al hk (by simp)),rfl⟩⟩
 io:=λ p hp=>Aa _ _ (by omega)
def Ah.lt0 (K:Ah X S a) {d:Nat} (hd:d<X.nt):d<3001000:=by have:=K.nt;omega
def Ah.put (K:Ah X S a) {d:Nat} (hd:d<X.nt) (h:Nat→List Nat→Option Lab) (hh:∀ n q p,h n q=some p→∃ p',p = .pl d p') (s:Sv) (v:Value) (hs:Fi X.P (Gp S h d s v) d s v):
  Ah X (Gp S h d s v) (a.put (some d) v):=by
 have hd1:d<1000:=Wi hd K.nt;have L:=D0 S h d (by omega) s v;have keepO:∀ k o,S.O k=o→(∀ n q,o ≠ .tm n q)→(Gp S h d s v).O k=o:=λ k o e ho=>Al e ho
 refine⟨K.nt,λ k hk=>K.lt k (λ e=>hk (keepO k _ e (by simp))),λ l=>?_,λ b n hb=>?_,λ b n hb=>?_,λ t ht=>?_,?_,K.df,K.fr.relab (λ k e=>keepO k _ e (by simp)) (λ k e=>keepO k _ e (by simp)) (λ k b e=>keepO k _ e (by simp)),λ p hp=>by
  show upd S.ph d v p=_;rw[Aa _ _ (by omega)]
  exact K.io p hp⟩
 ·by_cases hl:l=d
  ·subst hl;show Fi X.P _ l (upd S.g l _ l).2 (upd S.ph l _ l);rw[A8,A8];exact hs
  ·show Fi X.P _ l (upd S.g d _ l).2 (upd S.ph d _ l);rw[Aa _ _ hl,Aa _ _ hl];exact(K.at_ l).later L (λ p k e=>⟨keepO k _ e (by simp),rfl⟩)
 ·have hne:H b≠d:=λ e=>by have:=Lea b;omega
  have hb':(S.g (H b)).2 = .one (.hd n):=by
   have:(upd S.g d ((S.g d).1+1,s) (H b)).2 = .one (.hd n):=hb;rwa [Aa _ _ hne]at this
  obtain⟨hn,c,e,e1,e2,e3,e4⟩:=K.box b n hb';refine⟨hn,c,e,e1,keepO _ _ e2 (by simp),e3,λ j hj=>?_⟩;show c[(S.bb b).2+j]? = some (upd S.ph d v (C b j));rw[Aa _ _ (λ e=>by have:=O5a b j;omega)];exact e4 j hj
 ·have hne:H b≠d:=λ e=>by have:=Lea b;omega
  have hb':(S.g (H b)).2 = .one (.hd n):=by
   have:(upd S.g d ((S.g d).1+1,s) (H b)).2 = .one (.hd n):=hb;rwa [Aa _ _ hne]at this
  exact K.rgn b n hb'
 ·show (a.put (some d) v).tmps.getD t undef=upd S.ph d v t
  by_cases htd:t=d
  ·subst htd;rw[A8];simp[Act.put,K.sz,hd]
  ·rw[Aa _ _ htd,← K.sl t ht];simp[Act.put,Wg,Zu (λ e=>htd e.symm)]
 ·show (a.put (some d) v).tmps.size=X.nt;simp[Act.put,K.sz]
def Ah.put0 (K:Ah X S a) {d:Nat} (hd:d<X.nt) (s:Sv) (v:Value) (l:Nat) (ho:Hr s=false) (hs:Fi X.P S l s v):
  Ah X (Gp S (λ _ _=>none) d s v) (a.put (some d) v):=
 K.put hd _ (by simp) s v ((hs.relab (l':=d) ho).imp (l':=d) (λ p _ _ h=>h.later (lab' := .pl d p) (D0 S _ d (by have:=K.nt;omega) s v) (λ k hk=>⟨Al (h:=λ _ _=>none) (o := .pl d p) hk (by simp),rfl⟩)))
end

def Cr:Ty→List Value
 |.i k=>[.int k 0]
 |.b=>[.bool false]
 |.s=>[.string ⟨#[]⟩]
 |.sl _ _=>[.slice none 0 0]
 |.ow _ _=>[.slice none 0 0]
 |.pr x y=>Cr x++Cr y
def Lz:List Value→Ty→Option (List Value)
 |.int k 0::l,.i k'=>if k=k' then some l else none
 |.bool false::l,.b=>some l
 |.string s::l,.s=>match s.data.toList with
  |[]=>some l
  |_=>none
 |.slice none 0 0::l,.sl _ _=>some l
 |.slice none 0 0::l,.ow _ _=>some l
 |l,.pr x y=>match Lz l x with
  |some l'=>Lz l' y
  |none=>none
 |_,_=>none
def X8:∀ (t:Ty) (l l':List Value),Lz l t=some l'→l=Cr t++l':=by
 intro t
 induction t with
 |i k=>
  intro l l' h;unfold Lz at h
  split at h<;>first|(cases h;done)|skip
  all_goals simp_all [Cr]
 |b=>intro l l' h;unfold Lz at h;split at h<;>simp_all [Cr]
 |s=>
  intro l l' h;unfold Lz at h
  split at h<;>first|(cases h;done)|skip
  all_goals first|(simp_all [Cr];done)|skip
  rename_i s1 l1 _;split at h
  ·rename_i hs;simp at h;subst h
   have:s1=⟨#[]⟩:=by
    cases s1 with
    |mk d=>simp at hs;subst hs;rfl
   subst this;rfl
  ·cases h
 |sl e r _=>intro l l' h;unfold Lz at h;split at h<;>simp_all [Cr]
 |ow e r _=>intro l l' h;unfold Lz at h;split at h<;>simp_all [Cr]
 |pr x y ihx ihy=>
  intro l l' h
  have h':(match Lz l x with|some l'=>Lz l' y|none=>none)=some l':=by
   unfold Lz at h
   split at h<;>first|exact h|(cases h;done)|simp_all
  split at h'
  ·rename_i l1 h1;rw[ihx _ _ h1,ihy _ _ h',Cr,Vj]
  ·cases h'
def szB (P:Program):Ty→Bool
 |.sl e r=>((P.info? e).map (λ i=>i.size)==some r.sz)&&szB P r
 |.ow e r=>((P.info? e).map (λ i=>i.size)==some r.sz)&&szB P r
 |.pr x y=>szB P x&&szB P y
 |_=>true
def Sc:Option TypeDesc→Bool
 |some (.struct _)=>true
 |some (.array _ _)=>true
 |_=>false
def Gy (P:Program):List Field→List (Nat×Nat×Bool)→Bool
 |[],[]=>true
 |f::fs,o::os=>Nat.beq f.offset o.1&&((P.info? f.type).map (λ i=>i.size)==some o.2.1)&&Nat.blt 0 o.2.1&&(Sc (P.underlying f.type)==o.2.2)&&(P.underlying f.type).isSome&&Gy P fs os
 |_,_=>false
def Lfa (P:Program) (e:TypeId):Ty→Bool
 |.i k=>(match P.underlying e with|some (.int k')=>decide (k=k')|_=>false)
 |_=>true
def M0 (P:Program):Option TypeDesc→TI→Bool
 |some (.struct fs),⟨_,true,_,fo⟩=>Gy P fs.toList fo
 |some (.int k),⟨.i k',false,_,_⟩=>decide (k=k')
 |some .bool,⟨.b,false,_,_⟩=>true
 |some .string,⟨.s,false,_,_⟩=>true
 |some (.slice e),⟨.sl e' r,false,_,_⟩=>Nat.beq e e'&&Lfa P e r
 |_,_=>false
def N3a (P:Program) (T:TypeId) (t:TI):Bool:=
 (match P.info? T with
 |some i=>Nat.beq i.size t.ty.sz&&Nat.beq i.bytes t.by_&&Nat.blt 0 t.by_&&(match i.zero with
  |some (.agg cs)=>t.ag&&(match Lz cs.toList t.ty with|some []=>true|_=>false)
  |some v => !t.ag&&(match Lz [v] t.ty with|some []=>true|_=>false)
  |none=>false)
 |none=>false)&&M0 P (P.underlying T) t&&szB P t.ty
structure TOk (P:Program) (T:TypeId) (t:TI):Prop where
 info:∃ i,P.info? T=some i∧i.size=t.ty.sz∧i.bytes=t.by_∧i.zero=some (if t.ag then .agg (Cr t.ty).toArray else (Cr t.ty).headD undef)∧(t.ag=false→Cr t.ty=[(Cr t.ty).headD undef])
 by0:0<t.by_
 desc:M0 P (P.underlying T) t=true
 sz:szB P t.ty=true
def Lga (P:Program) (T:TypeId) (t:TI) (h:N3a P T t=true):TOk P T t:=by
 unfold N3a at h;simp only[Va]at h;obtain⟨⟨h1,h2⟩,h3⟩:=h;split at h1
 ·rename_i i hi;simp only[Va]at h1;obtain⟨⟨⟨e1,e2⟩,e3⟩,h4⟩:=h1;refine⟨⟨i,hi,by simpa using e1,by simpa using e2,?_⟩,by simp[Nat.blt]at e3;omega,h2,h3⟩;split at h4
  ·rename_i cs hz;simp only[Va]at h4;obtain⟨ha,hb⟩:=h4;split at hb
   ·rename_i hb';have:=X8 _ _ _ hb';rw[Ye]at this;refine⟨?_,by simp[ha]⟩;rw[hz,ha,← this];simp
   ·cases hb
  ·rename_i v _ hz;simp only[Va,Wk]at h4;obtain⟨ha,hb⟩:=h4;split at hb
   ·rename_i hb';have:=X8 _ _ _ hb';rw[Ye]at this;refine⟨?_,by rw[← this];simp⟩;rw[hz,ha,← this];simp
   ·cases hb
  ·cases h4
 ·cases h1
def Qh {P:Program} {O:Nat→Lab} {w:World} {lab:Lab} {e:TypeId} {r':Ty} (h:Nn P e r'.sz):Ch P O w lab e r' [] (.slice none 0 0):=
 ⟨[],⟨_,[],[],rfl,h,World.ownsRow_nil _ _ _ _,⟨rfl,rfl⟩,rfl⟩,by simp,by simp⟩
structure Fo (X:Cx) (E:En):Prop where
 nt:E.nt=X.nt
 np:E.np=X.np
 ti:∀ T t,E.ti T=some t→TOk X.P T t
 eq:∀ T,E.eq T=true→∀ (G:Nat→Prop) (w w':World) (x y:Operand) (l l':List Lf) (us vs:List Value) (b:Bool),Gu (G6 X.P G w) l us→Gu (G6 X.P G w) l' vs→Bz l l'=some b→Iu l=true→Iu l'=true→I5 (E.ti T) l=true→I5 (E.ti T) l'=true→
  (Op.equal T (.agg us.toArray) (.agg vs.toArray)).run X.P w' = .ok b w'∧(eqGuard .eql T x y (.agg us.toArray) (.agg vs.toArray)).run X.P w' = .ok () w'∧(eqGuard .neq T x y (.agg us.toArray) (.agg vs.toArray)).run X.P w' = .ok () w'
def C7a (X:Cx) (o:Oper) (a:Act) (w:World) (A':Ab):Prop:=
 ∀ (next:Act→World→Prop) (Q:Exit→Act→World→Prop),(∀ S' a',Ah X S' a'→S'.g=get A'→next a' S'.w)→o.wp X.P a w next Q
section
variable {X:Cx} {S:Sit} {a:Act} {E:En} {A:Ab} {o:Oper}
def Ac {A':Ab} {v:Value} {w:World} (hr:(execOp a.eval o).run X.P w = .ok (.value v) S.w) (K:Ah X S (a.put o.dst v)) (hg:S.g=get A'):C7a X o a w A':=by
 intro next Q hn;unfold Oper.wp;rw[hr,Oper.upon_value];exact hn S _ K hg
def C8a {A':Ab} {w:World} (hr:(execOp a.eval o).run X.P w = .ok .skip S.w) (K:Ah X S (a.put o.dst undef)) (hg:S.g=get A'):C7a X o a w A':=by
 intro next Q hn;unfold Oper.wp;rw[hr,Oper.upon_skip];exact hn S _ K hg
def H0 (hE:Fo X E) (K:Ah X S a) (hg:S.g=get A) {T:TypeId} {x:Operand} {s:Sv} (h:opT E T A x=some s):
  (∃ t,x = .tmp t∧t<X.nt∧s=(S.g t).2∧a.eval x=S.ph t∧Fi X.P S t s (a.eval x))∨
  ((∀ t,x ≠ .tmp t)∧∃ y,s = .one y∧∀ lab,Af X.P S lab y (a.eval x)):=by
 unfold opT at h;split at h
 ·rename_i t;cases hb:Nat.blt t E.nt
  ·simp[hb]at h
  simp[hb]at h;have ht:t<X.nt:=hE.nt ▸ (Vd hb:t+1≤E.nt);have e:a.eval (.tmp t)=S.ph t:=K.sl t ht;refine .inl ⟨t,rfl,ht,by rw[hg];exact h.symm,e,?_⟩;rw[e,← h,← hg];exact K.at_ t
 ·refine .inr ⟨by simp,?_⟩;split at h
  ·rename_i e r by_ fo hT;simp at h;refine⟨_,h.symm,λ lab=>?_⟩;have:=(hE.ti _ _ hT).sz;simp only[szB,Va,beq_iff_eq]at this;exact Qh this.1
  ·cases h
 ·rename_i v _;refine .inr ⟨by simp,?_⟩;cases hs:U6 v
  ·simp[hs]at h
  simp[hs]at h;exact⟨_,h.symm,λ lab=>⟨rfl,hs⟩⟩
 ·rename_i f;refine .inr ⟨by simp,?_⟩;simp at h;exact⟨_,h.symm,λ lab=>⟨rfl,rfl⟩⟩
 ·cases h
def Hi (hE:Fo X E) (K:Ah X S a) (hg:S.g=get A) {T:TypeId} {x:Operand} {v:Value} (h:opT E T A x=some (.one (.sc v))):a.eval x=v∧U6 v=true:=by
 rcases H0 hE K hg h with⟨t,_,_,_,_,hs⟩|⟨_,y,e,hy⟩
 ·exact hs
 ·cases e;exact hy .no
def Lha (K:Ah X S a) {d:Nat} (hd:d<X.nt) (hg:S.g=get A) (v:Value) (hv:U6 v=true):
  ∃ S',Ah X S' (a.put (some d) v)∧S'.g=get (ups A [⟨d,false,.one (.sc v)⟩])∧S'.w=S.w:=by
 refine⟨_,K.put0 hd (.one (.sc v)) v 0 rfl ⟨rfl,hv⟩,?_,rfl⟩;show upd S.g d _=_;rw[show ups A [⟨d,false,.one (.sc v)⟩]=up A ⟨d,false,.one (.sc v)⟩ from rfl,Hg,hg];rfl
def J4a (K:Ah X S a) (hg:S.g=get A) {d:Nat} (hd:d<X.nt) (ho:o.dst=some d) {v:Value} (hv:U6 v=true) (hr:(execOp a.eval o).run X.P S.w = .ok (.value v) S.w):
  C7a X o a S.w (ups A [⟨d,false,.one (.sc v)⟩]):=by
 obtain⟨S',K',hg',hw⟩:=Lha K hd hg v hv;exact Ac (S:=S') (by rw[hw];exact hr) (by rw[ho];exact K') hg'
def C9a {op:BinOp} {T:TypeId} {k:IntKind} {x y:Int} {R:Type} {Kc:Value→Option R} {r:R} (h:Mm op k x y Kc=some r) (hne:op ≠ .shl∧op ≠ .shr) (P:Program) (w:World):
  ∃ v,Kc v=some r∧U6 v=true∧(binOp op T (.int k x) (.int k y)).run P w = .ok v w:=by
 unfold Mm at h;split at h
 case h_4=>
  by_cases hy:y=0
  ·simp[hy]at h
  ·simp[hy]at h;exact⟨_,h,rfl,by simp[binOp,Op.intDiv,hy]⟩
 case h_5=>
  by_cases hy:y=0
  ·simp[hy]at h
  ·simp[hy]at h;exact⟨_,h,rfl,by simp[binOp,Op.intDiv,hy]⟩
 all_goals first|(cases h;done)|exact⟨_,h,rfl,by simp[binOp,Op.intArith,Op.intBits,Op.intCmp]⟩
end

section
variable {X:Cx} {S:Sit} {a:Act} {E:En} {A:Ab} {o:Oper} {R:Type} {Kc:List Up→Option R} {r:R}
def Ug (op:BinOp) (T:TypeId) (x y:Operand) (k k':IntKind) (p q:Int) (P:Program) (w:World):(eqGuard op T x y (.int k p) (.int k' q)).run P w = .ok () w:=by
 cases op<;>simp[eqGuard]
def Uh (op:BinOp) (T:TypeId) (x y:Operand) (p q:ByteArray) (P:Program) (w:World):(eqGuard op T x y (.string p) (.string q)).run P w = .ok () w:=by
 cases op<;>simp[eqGuard]
def Sd (op:BinOp) (T:TypeId) (x y:Operand) (p q:Bool) (P:Program) (w:World):(eqGuard op T x y (.bool p) (.bool q)).run P w = .ok () w:=by
 cases op<;>simp[eqGuard]
def Iy {op:BinOp} {T T':TypeId} {x y:Operand} {v1 v2 v:Value} {P:Program} {w:World} (ho:o.op = .binOp op T x y T') (e1:a.eval x=v1) (e2:a.eval y=v2)
  (hq:(eqGuard op T x y v1 v2).run P w = .ok () w) (hv:(binOp op T v1 v2).run P w = .ok v w):(execOp a.eval o).run P w = .ok (.value v) w:=by
 unfold execOp;simp only[ho,e1,e2,Vw,hq,Vv,hv,Wl]
def Se {P:Program} {T:TypeId} {by_:Nat} {fo:List (Nat×Nat×Bool)} (h:TOk P T ⟨.b,false,by_,fo⟩):P.underlying T=some .bool:=by
 have:=h.desc;unfold M0 at this
 split at this<;>simp_all
def Iz {G:Nat→Prop} {w:World}:∀ {l:List Lf} {f:Nat→Lab} {j:Nat} {us:List Value},Iu l=true→A5 X.P S f j l us→Gu (G6 X.P G w) l us
 |[],_,_,[],_,_ => .nil
 |[],_,_,_::_,_,h=>h.elim
 |_::_,_,_,[],_,h=>h.elim
 |y::ys,f,j,u::us,h,hl=>by
  cases y<;>first|(simp[Iu]at h;done)|exact .cons hl.1 (Iz (by simpa[Iu] using h) hl.2)
def Ip {P:Program} {T:TypeId} (h:P.underlying T=some .bool) (d:Nat) (p q:Bool) (w:World):(Op.equalIn (d+1) T (.bool p) (.bool q)).run P w = .ok (p==q) w:=by
 simp[Op.equalIn,underlying,h]
def Sf {P:Program} {T:TypeId} (h:P.underlying T=some .bool) (p q:Bool) (w:World):(binOp .eql T (.bool p) (.bool q)).run P w = .ok (.bool (p==q)) w:=by
 have:=Ip h 9999 p q w;unfold binOp;rw[Vw];show ((Op.equalIn (9999+1) T (.bool p) (.bool q)).run P w).andThen _=_;rw[this];rfl
def Sg {P:Program} {T:TypeId} (h:P.underlying T=some .bool) (p q:Bool) (w:World):(binOp .neq T (.bool p) (.bool q)).run P w = .ok (.bool (!(p==q))) w:=by
 have:=Ip h 9999 p q w;unfold binOp;rw[Vw];show ((Op.equalIn (9999+1) T (.bool p) (.bool q)).run P w).andThen _=_;rw[this];rfl
def Lia (hE:Fo X E) {op:BinOp} {T T':TypeId} {x y:Operand} {s s':Sv} {r:R} {Kv:Value→Option R} (h:bop op (E.ti T) (E.eq T) s s' Kv=some r)
  (hx:∃ l',Fi X.P S l' s (a.eval x)) (hy:∃ l',Fi X.P S l' s' (a.eval y)) (ho:o.op = .binOp op T x y T'):
  ∃ v,Kv v=some r∧U6 v=true∧(execOp a.eval o).run X.P S.w = .ok (.value v) S.w:=by
 obtain⟨lx,hx⟩:=hx;obtain⟨ly,hy⟩:=hy;unfold bop at h;split at h
 ·rename_i k p k' q;have e1:a.eval x = .int k p:=hx.1;have e2:a.eval y = .int k' q:=hy.1;have go:∀ v,(binOp op T (.int k p) (.int k' q)).run X.P S.w = .ok v S.w→(execOp a.eval o).run X.P S.w = .ok (.value v) S.w:=λ v hv=>Iy ho e1 e2 (Ug ..) hv;split at h
  ·by_cases hq:q<0
   ·simp[hq]at h
   ·simp[hq]at h;exact⟨_,h,rfl,go _ (by simp[binOp,Op.shift,hq])⟩
  ·by_cases hq:q<0
   ·simp[hq]at h
   ·simp[hq]at h;exact⟨_,h,rfl,go _ (by simp[binOp,Op.shift,hq])⟩
  ·rename_i n1 n2
   by_cases hk:k=k'
   ·subst hk;simp at h;obtain⟨v,h1,h2,h3⟩:=C9a (T:=T) h ⟨n1,n2⟩ X.P S.w;exact⟨v,h1,h2,go _ h3⟩
   ·simp[hk]at h
 ·rename_i p q;have e1:a.eval x = .string p:=hx.1;have e2:a.eval y = .string q:=hy.1;have go:∀ v,(binOp op T (.string p) (.string q)).run X.P S.w = .ok v S.w→(execOp a.eval o).run X.P S.w = .ok (.value v) S.w:=λ v hv=>Iy ho e1 e2 (Uh ..) hv;unfold Pg at h;split at h
  case h_1=>
   cases hb:Nat.ble (p.size+q.size) 9223372036854775807
   ·simp[hb]at h
   simp only[hb,cond_true]at h;refine⟨_,h,rfl,go _ ?_⟩;have hb':=Vd hb
   have hb2:¬ (((p.size+q.size:Nat):Int) > IntKind.i64.max):=by
    have:IntKind.i64.max=9223372036854775807:=by decide
    omega
   simp only[binOp,Op.stringOp,if_neg hb2,Wl]
  all_goals first|(cases h;done)|exact⟨_,h,rfl,go _ (by simp[binOp,Op.stringOp])⟩
 ·rename_i p q;have e1:a.eval x = .bool p:=hx.1;have e2:a.eval y = .bool q:=hy.1;have go:∀ v,(binOp op T (.bool p) (.bool q)).run X.P S.w = .ok v S.w→(execOp a.eval o).run X.P S.w = .ok (.value v) S.w:=λ v hv=>Iy ho e1 e2 (Sd ..) hv;split at h
  ·rename_i hT;have hu:=Se (hE.ti _ _ hT);exact⟨_,h,rfl,go _ (Sf hu ..)⟩
  ·rename_i hT;have hu:=Se (hE.ti _ _ hT);exact⟨_,h,rfl,go _ (Sg hu ..)⟩
  ·cases h
 ·rename_i l l';cases hq:(E.eq T&&Iu l&&Iu l'&&(I5 (E.ti T) l&&I5 (E.ti T) l'))
  ·simp[hq]at h
  simp only[hq,cond_true]at h;simp only[Va]at hq;obtain⟨⟨⟨he,ha⟩,ha'⟩,hk,hk'⟩:=hq;obtain⟨us,e1,h1⟩:=hx;obtain⟨vs,e2,h2⟩:=hy;split at h
  ·split at h
   ·rename_i b hb;obtain⟨h3,h4,h5⟩:=hE.eq T he (λ _=>True) S.w S.w x y l l' us vs b (Iz ha h1) (Iz ha' h2) hb ha ha' hk hk';exact⟨_,h,rfl,Iy ho e1 e2 h4 (by unfold binOp;rw[Vw,h3];rfl)⟩
   ·cases h
  ·split at h
   ·rename_i b hb;obtain⟨h3,h4,h5⟩:=hE.eq T he (λ _=>True) S.w S.w x y l l' us vs b (Iz ha h1) (Iz ha' h2) hb ha ha' hk hk';exact⟨_,h,rfl,Iy ho e1 e2 h5 (by unfold binOp;rw[Vw,h3];rfl)⟩
   ·cases h
  ·cases h
 ·cases h
end

section
variable {X:Cx} {S:Sit} {a:Act} {E:En} {A:Ab} {o:Oper} {R:Type} {Kc:List Up→Option R} {r:R}
def Er (X:Cx) (o:Oper) (a:Act) (w:World) (A:Ab) (Kc:List Up→Option R) (r:R):Prop:=∃ U,Kc U=some r∧C7a X o a w (ups A U)
def Ae (A:Ab):∀ (U V:List Up),ups A (U++V)=ups (ups A U) V
 |[],_=>rfl
 |u::U,V=>Ae (up A u) U V
def A7 (A:Ab) (l:Nat) (s:Sv):get (ups A [⟨l,false,s⟩])=upd (get A) l ((get A l).1+1,s):=Hg A ⟨l,false,s⟩
def Caa (hE:Fo X E) (K:Ah X S a) (hg:S.g=get A) {T:TypeId} {x:Operand} {s:Sv} (hx:opT E T A x=some s) {d:Nat} (hd:d<X.nt):
  ∃ S',Ah X S' (a.put (some d) (a.eval x))∧S'.g=get (ups A (gone x s++[⟨d,false,s⟩]))∧S'.w=S.w:=by
 have noOwn:∀ l,Hr s=false→Fi X.P S l s (a.eval x)→∃ S',Ah X S' (a.put (some d) (a.eval x))∧S'.g=get (ups A (gone x s++[⟨d,false,s⟩]))∧S'.w=S.w:=by
  intro l ho hs;refine⟨_,K.put0 hd s _ l ho hs,?_,rfl⟩
  have hgo:gone x s=[]:=by
   unfold gone;split
   ·rw[ho];rfl
   ·rfl
  rw[hgo,Wf,A7,← hg];rfl
 rcases H0 hE K hg hx with⟨t,rfl,ht,hs,he,hok⟩|⟨hnt,y,rfl,hy⟩
 ·cases ho:Hr s
  ·exact noOwn t ho hok
  obtain⟨K1,h1,_⟩:=Hh K t 0
  have hgo:gone (.tmp t) s=[⟨t,false,.one .dead⟩]:=by simp[gone,ho]
  let h:Nat→List Nat→Option Lab:=λ n q=>if n=0 then some (.pl d q) else none
  have L:=D0 (Gw S t 0) h d (K.lt0 hd) s (a.eval (.tmp t))
  have hso:Fi X.P (Gp (Gw S t 0) h d s (a.eval (.tmp t))) d s (a.eval (.tmp t)):=by
   refine Fi.imp (S:=S) (l:=t) (λ p x u hx=>?_) hok;exact(h1 p x u hx).later L (λ k hk=>⟨F3 hk (by simp[h]),rfl⟩)
  refine⟨_,K1.put hd h (by intro n q p hp;simp only[h]at hp;split at hp<;>first|(cases hp;exact⟨q,rfl⟩)|cases hp) s _ hso,?_,rfl⟩
  rw[hgo];show upd (Gw S t 0).g d _=_;rw[Ya,show ups A [⟨t,false,.one .dead⟩,⟨d,false,s⟩]=ups (ups A [⟨t,false,.one .dead⟩]) [⟨d,false,s⟩] from rfl,A7,A7,← hg];rfl
 ·cases ho:Hr (.one y)
  ·exact noOwn 0 ho (hy _)
  have hgo:gone x (.one y)=[]:=by
   unfold gone;split
   ·exact absurd rfl (hnt _)
   ·rfl
  refine⟨_,K.put hd (λ _ _=>none) (by simp) (.one y) _ ?_,?_,rfl⟩
  ·exact(hy (.pl d [])).later (D0 S (λ _ _=>none) d (K.lt0 hd) (.one y) _) (λ k hk=>⟨Al (h:=λ _ _=>none) (o := .pl d []) hk (by simp),rfl⟩)
  ·rw[hgo,Wf,A7,← hg];rfl
def I9 {x:Operand} {P:Program} {w:World} (ho:o.op = .move x∨o.op = .assign x):(execOp a.eval o).run P w = .ok (.value (a.eval x)) w:=by
 unfold execOp
 rcases ho with ho|ho<;>simp[ho]
def I2a (K:Ah X S a) (hg:S.g=get A) {t d:Nat} (hd:d<X.nt):
  ∃ S',Ah X S' (a.put (some d) (S.ph t))∧S'.g=get (ups A [⟨d,false,.one (.al t (get A t).1)⟩])∧S'.w=S.w:=by
 refine⟨_,K.put0 hd (.one (.al t (get A t).1)) (S.ph t) 0 rfl ⟨by rw[hg];exact Vo _,λ _=>rfl⟩,?_,rfl⟩;rw[A7,← hg];rfl
def J5a (hE:Fo X E) (K:Ah X S a) (hg:S.g=get A) {x:Operand} {d:Nat} (ho:o.op = .move x) (hod:o.dst=some d) (hd:d<X.nt) (h:Ai E o A Kc=some r):Er X o a S.w A Kc r:=by
 unfold Ai at h;rw[ho,hod]at h;simp only at h;split at h
 ·rename_i s hs
  have any:Kc (gone x s++[⟨d,false,s⟩])=some r→Er X o a S.w A Kc r:=λ hk=>by
   obtain⟨S',K',hg',hw⟩:=Caa hE K hg hs hd;exact⟨_,hk,Ac (S:=S') (by rw[hw];exact I9 (.inl ho)) (by rw[hod];exact K') hg'⟩
  split at h
  ·rename_i t e r' xs
   cases hn:(E.nm t&&!(E.mv d)) with
   |true=>
    rw[hn]at h;simp only[cond_true]at h;rcases H0 hE K hg hs with⟨t',ht',htl,_,he,_⟩|⟨hnt,_⟩
    ·cases ht';obtain⟨S',K',hg',hw⟩:=I2a (t:=t) K hg hd;exact⟨_,h,Ac (S:=S') (v:=S.ph t) (by rw[hw,I9 (.inl ho),he]) (by rw[hod];exact K') hg'⟩
    ·exact absurd rfl (hnt t)
   |false=>
    rw[hn]at h;simp only[cond_false]at h;refine any ?_;rw[← h];simp[gone,Hr,Cm]
  ·rename_i t p;rcases H0 hE K hg hs with⟨t',ht',htl,_,he,hi⟩|⟨hnt,_⟩
   ·cases ht';have hio:3001000≤p∧a.eval (.tmp t)=S.ph p:=hi;obtain⟨S',K',hg',hw⟩:=I2a (t:=p) K hg hd;exact⟨_,h,Ac (S:=S') (v:=S.ph p) (by rw[hw,I9 (.inl ho),hio.2]) (by rw[hod];exact K') hg'⟩
   ·exact absurd rfl (hnt t)
  ·exact any h
 ·cases h
def It {d:Nat} (K:Ah X S a) (hg:S.g=get A) (hod:o.dst=some d) (hd:d<X.nt) {v:Value} (hv:U6 v=true) (hr:(execOp a.eval o).run X.P S.w = .ok (.value v) S.w)
  (h:Kc [⟨d,false,.one (.sc v)⟩]=some r):Er X o a S.w A Kc r:=⟨_,h,J4a K hg hd hod hv hr⟩
def Ed (hE:Fo X E) (K:Ah X S a) (hg:S.g=get A) {T:TypeId} {x:Operand} {s:Sv} (hx:opT E T A x=some s):∃ l,Fi X.P S l s (a.eval x):=by
 rcases H0 hE K hg hx with⟨t,_,_,_,_,h⟩|⟨_,y,rfl,hy⟩
 ·exact⟨t,h⟩
 ·exact⟨0,hy _⟩
def Fya (hE:Fo X E) (K:Ah X S a) (hg:S.g=get A) {op:BinOp} {T T':TypeId} {x y:Operand} {d:Nat} (ho:o.op = .binOp op T x y T') (hod:o.dst=some d) (hd:d<X.nt) (h:Ai E o A Kc=some r):Er X o a S.w A Kc r:=by
 unfold Ai at h;rw[ho,hod]at h;simp only at h;split at h
 ·rename_i s s' hs hs';obtain⟨v,h1,h2,h3⟩:=Lia hE (S:=S) h (Ed hE K hg hs) (Ed hE K hg hs') ho;exact It K hg hod hd h2 h3 h1
 ·cases h
def J6a (hE:Fo X E) (K:Ah X S a) (hg:S.g=get A) {op:UnOp} {T:TypeId} {x:Operand} {d:Nat} (ho:o.op = .unOp op T x) (hod:o.dst=some d) (hd:d<X.nt) (h:Ai E o A Kc=some r):Er X o a S.w A Kc r:=by
 unfold Ai at h;rw[ho,hod]at h;simp only at h;split at h
 ·rename_i s hs;obtain⟨l,hl⟩:=Ed hE K hg hs;unfold uop at h;split at h
  ·rename_i k n;have e:a.eval x = .int k n:=hl.1;exact It K hg hod hd rfl (by unfold execOp;simp[ho,e,Op.unary,Op.intArith]) h
  ·rename_i k n;have e:a.eval x = .int k n:=hl.1;exact It K hg hod hd rfl (by unfold execOp;simp[ho,e,Op.unary,Op.intBits]) h
  ·rename_i b;have e:a.eval x = .bool b:=hl.1;exact It K hg hod hd rfl (by unfold execOp;simp[ho,e,Op.unary]) h
  ·cases h
 ·cases h
def J7a (hE:Fo X E) (K:Ah X S a) (hg:S.g=get A) {c x y:Operand} {d:Nat} (ho:o.op = .pick c x y) (hod:o.dst=some d) (hd:d<X.nt) (h:Ai E o A Kc=some r):Er X o a S.w A Kc r:=by
 unfold Ai at h;rw[ho,hod]at h;simp only at h;split at h
 ·rename_i b hc;have e:=(Hi hE K hg hc).1
  cases b with
  |true=>
   simp only[cond_true]at h;split at h
   ·rename_i u hu;obtain⟨e1,e2⟩:=Hi hE K hg hu;exact It K hg hod hd e2 (by unfold execOp;simp[ho,e,asBool,e1]) h
   ·cases h
  |false=>
   simp only[cond_false]at h;split at h
   ·rename_i u hu;obtain⟨e1,e2⟩:=Hi hE K hg hu;exact It K hg hod hd e2 (by unfold execOp;simp[ho,e,asBool,e1]) h
   ·cases h
 ·cases h
def N4 {P:Program} {T:TypeId} (h:Rv E T=true) (hE:∀ T t,E.ti T=some t→TOk P T t):P.underlying T=some .string:=by
 unfold Rv at h;split at h
 ·rename_i hT;have:=(hE _ _ hT).desc;unfold M0 at this
  split at this<;>simp_all
 ·cases h
def Fb {P:Program} {T e:TypeId} (h:Jt E T e=true) (hE:∀ T t,E.ti T=some t→TOk P T t):P.underlying T=some (.slice e):=by
 unfold Jt elT at h;split at h
 ·rename_i e' he;split at he
  ·rename_i e'' _ _ _ hT;simp at he;subst he
   have e1:e''=e:=by simpa using h
   subst e1;have:=(hE _ _ hT).desc;unfold M0 at this
   split at this<;>simp_all
  ·cases he
 ·cases h
def Fza (hE:Fo X E) (K:Ah X S a) (hg:S.g=get A) {T:TypeId} {x i:Operand} {d:Nat} (ho:o.op = .index T x i) (hod:o.dst=some d) (hd:d<X.nt) (h:Ai E o A Kc=some r):Er X o a S.w A Kc r:=by
 unfold Ai at h;rw[ho,hod]at h;simp only at h;split at h
 ·rename_i s k n hs hn;have e1:=(Hi hE K hg hs).1;have e2:=(Hi hE K hg hn).1;cases hq:(Rv E T&&decide (0≤n))
  ·rw[hq]at h;simp at h
  rw[hq]at h;simp only[cond_true]at h;simp only[Va,decide_eq_true_eq]at hq;have hu:=N4 hq.1 hE.ti
  by_cases hlt:n<(s.size:Int)
  ·simp only[hlt,decide_true,cond_true]at h
   have hb:s[n.toNat]? = some s[n.toNat]:=by
    rw[getElem?_pos]
   have hv:bt s n=(s[n.toNat].toNat:Int):=by
    unfold bt
    have hl:n.toNat<s.data.toList.length:=by
     have:s.data.toList.length=s.size:=rfl;omega
    rw[Vn,Vp hl];rfl
   refine It K hg hod hd rfl ?_ h;unfold execOp;simp[ho,e1,e2,Instr.index,asIntOf,underlying,hu,hq.2,hb,hv]
  ·simp[hlt]at h
 ·cases h
def Kd {y:Lf} {u:Value} {lab:Lab} (K:Ah X S a) (hg:S.g=get A) (h:Af X.P S lab y u):∃ lab',Af X.P S lab' (G5 A y) u:=by
 unfold G5;split
 ·rename_i p v;split
  ·rename_i n e r xs hp;cases hb:Nat.beq n v
   ·exact⟨lab,trivial⟩
   have hnv:n=v:=by simpa using hb
   subst hnv;have e1:u=S.ph p:=h.2 (by rw[hg,hp]);refine⟨.pl p [],?_⟩;have:=K.at_ p;rw[hg,hp]at this;rw[e1];exact this
  ·rename_i n e r xs hp;cases hb:Nat.beq n v
   ·exact⟨lab,trivial⟩
   have hnv:n=v:=by simpa using hb
   subst hnv;have e1:u=S.ph p:=h.2 (by rw[hg,hp]);refine⟨.pl p [],?_⟩;have:=K.at_ p;rw[hg,hp]at this;rw[e1];exact this
  ·exact⟨lab,trivial⟩
 ·exact⟨lab,h⟩
def Ns {e:TypeId} {r:Ty} {xs:List r.den} {u:Value} {lab:Lab} (h:Af X.P S lab (.fz e r xs) u):∃ ad cap,u = .slice ad xs.length cap:=by
 obtain⟨v,e1,_,ad,cap,_,e2,_⟩:=h;cases e1;exact⟨ad,cap,e2⟩
def M1 {e:TypeId} {r:Ty} {xs:List r.den} {u:Value} {lab:Lab} (h:Af X.P S lab (.own e r xs) u):∃ ad cap,u = .slice ad xs.length cap:=by
 obtain⟨_,cs,ho,_⟩:=Ch.top h;rcases Cl ho with⟨e1,e2,_⟩|⟨k,cap,_,e1,_⟩
 ·exact⟨none,0,by rw[e1,e2]⟩
 ·exact⟨_,cap,e1⟩
def Sh {p v:Nat} {pi:Option (List (Int×Nat))} {e:TypeId} {r:Ty} {xs:List r.den} {u:Value} {lab:Lab} (h:Af X.P S lab (.da p v pi e r xs) u) (hv:(S.g p).1=v):∃ ad cap,u = .slice ad xs.length cap:=by
 obtain⟨_,_,h2⟩:=h;obtain⟨_,⟨_,a,cap,_,_,e,_⟩,_⟩:=h2 hv;exact⟨a,cap,e⟩
def Qi {P:Program} {w:World} {T:TypeId} {x:Operand} {c:Call} (ho:o.op = .call c) (hc:c.callee = .builtin .len) (hT:c.argTypes.toList=[T]) (hx:c.args.toList=[x]) {v:Value}
  (hr:(Builtin.len_ #[T] o.type #[a.eval x]).run P w = .ok v w):(execOp a.eval o).run P w = .ok (.value v) w:=by
 have e1:c.args = #[x]:=by rw[← hx]
 have e2:c.argTypes = #[T]:=by rw[← hT]
 unfold execOp;simp[ho,resolve,hc,e1,e2,invoke,builtin,hr]
def Lja (hE:Fo X E) (K:Ah X S a) (hg:S.g=get A) {c:Call} (ho:o.op = .call c) (hc:c.callee = .builtin .len) (hd:∀ d,o.dst=some d→d<X.nt) (h:Ai E o A Kc=some r):Er X o a S.w A Kc r:=by
 unfold Ai at h;rw[ho]at h;simp only[hc]at h;split at h
 ·rename_i T x d hT hx hod;have hdl:=hd d hod;split at h
  ·rename_i y hs;obtain⟨l,hl⟩:=Ed hE K hg hs;obtain⟨lab',hl'⟩:=Kd K hg (show Af X.P S (.pl l []) y (a.eval x) from hl);split at h
   ·rename_i s hy;rw[hy]at hl';cases hq:Rv E T
    ·rw[hq]at h;simp at h
    rw[hq]at h;have hu:=N4 hq hE.ti;have e1:a.eval x = .string s:=hl'.1;exact It K hg hod hdl rfl (Qi ho hc hT hx (by simp[Builtin.len_,underlying,hu,e1,goInt])) h
   ·rename_i p v pi e r' xs hy;rw[hy]at hl';cases hq:(Jt E T e&&Nat.beq (get A p).1 v)
    ·rw[hq]at h;simp at h
    rw[hq]at h;simp only[Va]at hq;have hu:=Fb hq.1 hE.ti;obtain⟨ad,cap,e1⟩:=Sh hl' (by rw[hg];exact Vb hq.2);exact It K hg hod hdl rfl (Qi ho hc hT hx (by simp[Builtin.len_,underlying,hu,e1,goInt])) h
   ·rename_i e r' xs hy;rw[hy]at hl';cases hq:Jt E T e
    ·rw[hq]at h;simp at h
    rw[hq]at h;have hu:=Fb hq hE.ti;obtain⟨ad,cap,e1⟩:=Ns hl';exact It K hg hod hdl rfl (Qi ho hc hT hx (by simp[Builtin.len_,underlying,hu,e1,goInt])) h
   ·rename_i e r' xs hy;rw[hy]at hl';cases hq:Jt E T e
    ·rw[hq]at h;simp at h
    rw[hq]at h;have hu:=Fb hq hE.ti;obtain⟨ad,cap,e1⟩:=M1 hl';exact It K hg hod hdl rfl (Qi ho hc hT hx (by simp[Builtin.len_,underlying,hu,e1,goInt])) h
   ·cases h
  ·cases h
 ·cases h
def Ui (hE:Fo X E) (K:Ah X S a) (hg:S.g=get A):∀ {Ts:List TypeId} {xs:List Operand} {ss:List Sv},Lu E Ts A xs=some ss→Gu (λ s x=>∃ T,opT E T A x=some s) ss xs
 |_,[],ss,h=>by simp[Lu]at h;subst h;exact .nil
 |[],x::xs,ss,h=>by simp[Lu]at h
 |T::Ts,x::xs,ss,h=>by
  simp only[Lu]at h;split at h
  ·rename_i s hs;split at h
   ·rename_i ss' hss;simp at h;subst h;exact .cons ⟨T,hs⟩ (Ui hE K hg hss)
   ·cases h
  ·cases h
def Si (hE:Fo X E) (K:Ah X S a) (hg:S.g=get A) (mx:Bool):∀ {ss:List Sv} {xs:List Operand} {k:IntKind} {x:Int} {Kv:Value→Option R} {r:R},Gu (λ s x=>∃ T,opT E T A x=some s) ss xs→Jx mx ss k x Kv=some r→
  ∃ n,Kv (.int k n)=some r∧((xs.map a.eval).foldlM (if mx then Builtin.max2 else Builtin.min2) (.int k x)).run X.P S.w = .ok (.int k n) S.w
 |[],_,k,x,Kv,r,.nil,h=>⟨x,h,rfl⟩
 |s::ss,_,k,x,Kv,r,.cons ⟨T,hs⟩ hss,h=>by
  rename_i y ys;unfold Jx at h;split at h
  ·rename_i heq;cases heq
  ·rename_i k x Kv _ _ _ _ k' z l heq;simp only[Wp]at heq;obtain⟨rfl,rfl⟩:=heq;have e:=(Hi hE K hg hs).1
   by_cases hk:k=k'
   ·rw[decide_eq_true hk,cond_true]at h;rw[← hk]at e;obtain⟨n,h1,h2⟩:=Si hE K hg mx hss h;refine⟨n,h1,?_⟩
    cases mx with
    |true=>
     simp only[Yc,List.foldlM_cons,e,if_true,Vw,Builtin.max2,Wl,Vv]
     simpa using h2
    |false=>
     simp only[Yc,List.foldlM_cons,e,Wc,if_false,Vw,Builtin.min2,Wl,Vv]
     simpa using h2
   ·simp[hk]at h
  ·cases h
def Sj (hE:Fo X E) (K:Ah X S a) (hg:S.g=get A) {c:Call} (mx:Bool) (ho:o.op = .call c) (hc:c.callee = .builtin (if mx then .max else .min)) (hd:∀ d,o.dst=some d→d<X.nt) (h:Ai E o A Kc=some r):Er X o a S.w A Kc r:=by
 have key:∀ (k:IntKind) (x:Int) (l:List Sv) (d:Nat),Lu E c.argTypes.toList A c.args.toList=some (.one (.sc (.int k x))::l)→o.dst=some d→
   Jx mx l k x (λ u=>Kc [⟨d,false,.one (.sc u)⟩])=some r→Er X o a S.w A Kc r:=by
  intro k x l d hs hod hm;have hall:=Ui hE K hg hs;generalize hxs:c.args.toList=xs at hall
  cases hall with
  |@cons s y ss ys h0 hl=>
   obtain⟨T,h0⟩:=h0;have e:=(Hi hE K hg h0).1;obtain⟨n,h1,h2⟩:=Si hE K hg mx hl hm;refine It K hg hod (hd d hod) rfl ?_ h1
   have hargs:(c.args.map a.eval).toList = .int k x::ys.map a.eval:=by rw[Array.toList_map,hxs,Yc,e]
   unfold execOp
   cases mx with
   |true=>
    simp only[if_true]at hc h2;simp only[ho,resolve,hc,Vw,Wl,Vv,invoke,builtin,Builtin.max_,hargs,h2]
   |false=>
    simp only[Wc,if_false]at hc h2;simp only[ho,resolve,hc,Vw,Wl,Vv,invoke,builtin,Builtin.min_,hargs,h2]
 unfold Ai at h;rw[ho]at h
 cases mx with
 |true=>
  simp only[if_true]at hc;simp only[hc]at h;split at h
  ·rename_i k x l d hs hod;exact key k x l d hs hod h
  ·cases h
 |false=>
  simp only[Wc,if_false]at hc;simp only[hc]at h;split at h
  ·rename_i k x l d hs hod;exact key k x l d hs hod h
  ·cases h
end

def reP (O:Nat→Lab) (l i:Nat) (f:List Nat→Option (List Nat)):Nat→Lab:=λ k=>match O k with
 |.pl l' p=>if l'=l then (match f p with
  |some q => .tm i q
  |none => .pl l' p) else .pl l' p
 |o=>o
section
variable {X:Cx} {S:Sit} {a:Act} {E:En} {A:Ab} {o:Oper} {R:Type} {Kc:List Up→Option R} {r:R}
def F4 {O:Nat→Lab} {l i k:Nat} {f:List Nat→Option (List Nat)} (h:∀ p,O k ≠ .pl l p):reP O l i f k=O k:=by
 unfold reP
 cases hk:O k<;>simp
 rename_i l' p;intro e;subst e;exact absurd hk (h p)
def J8a {O:Nat→Lab} {l i k:Nat} {f:List Nat→Option (List Nat)} {p q:List Nat} (h:O k = .pl l p) (hf:f p=some q):reP O l i f k = .tm i q:=by
 unfold reP;rw[h];simp[hf]
def X9 {O:Nat→Lab} {l i k:Nat} {f:List Nat→Option (List Nat)} {p:List Nat} (h:O k = .pl l p) (hf:f p=none):reP O l i f k = .pl l p:=by
 unfold reP;rw[h];simp[hf]
def Lv (S:Sit) (l i:Nat) (f:List Nat→Option (List Nat)) (s:Sv):Sit := { S with O:=reP S.O l i f,g:=upd S.g l ((S.g l).1+1,s) }
def Ht (S:Sit) (l i:Nat) (f:List Nat→Option (List Nat)) (s:Sv):Ci S (Lv S l i f s) where
 ver:=λ p=>by
  by_cases h:p=l
  ·subst h;simp[Lv]
  ·simp[Lv,Aa _ _ h]
 ph:=λ _ _=>rfl
 own:=λ p v e r xs' h hv=>by
  by_cases hp:p=l
  ·subst hp;simp only[Lv,A8,Vu]at h;omega
  ·simp only[Lv,Aa _ _ hp]at h;exact⟨xs',h,rfl⟩
 bb:=λ _ _=>rfl
 fz:=λ k h=>⟨(F4 (by simp[h])).trans h,rfl⟩
 box:=Ci.box_of (λ b n hv hh=>by
  have hb:H b≠l:=λ e=>by subst e;simp[Lv]at hv
  exact(congrArg Prod.snd (Aa _ _ hb)).trans hh) (λ k b h=>⟨(F4 (by simp[h])).trans h,rfl⟩)
 bor:=λ p hv hd=>by
  have hp:p≠l:=λ e=>by subst e;simp[Lv]at hv
  have hg:(Lv S l i f s).g p=S.g p:=Aa _ _ hp;rw[hg];exact⟨hd,λ _ _ _ h=>h,λ k hk=>⟨.inl ((F4 (by simp[hk,hp])).trans hk),rfl⟩⟩
 io:=λ _ _=>rfl
def Qj (K:Ah X S a) (l i:Nat) (f:List Nat→Option (List Nat)) (s:Sv) (hnh:∀ n,s ≠ .one (.hd n)) (hs:Fi X.P (Lv S l i f s) l s (S.ph l)):
  Ah X (Lv S l i f s) a∧(∀ p q x u,f p=some q→Af X.P S (.pl l p) x u→Af X.P (Lv S l i f s) (.tm i q) x u)∧(∀ n q x u,Af X.P S (.tm n q) x u→Af X.P (Lv S l i f s) (.tm n q) x u):=by
 have L:=Ht S l i f s;refine⟨?_,λ p q x u hf h=>h.later L (λ k hk=>⟨J8a hk hf,rfl⟩),λ n q x u h=>h.later L (λ k hk=>⟨(F4 (by simp[hk])).trans hk,rfl⟩)⟩;refine K.ghost _ _ (λ k h=>(F4 (by simp[h])).trans h) (λ k h=>?_) (λ k h=>(F4 (by simp[h])).trans h) (λ k b h=>(F4 (by simp[h])).trans h) (λ b n h=>?_) (λ l'=>?_)
 ·intro e;exact h ((F4 (by simp[e])).trans e)
 ·by_cases hb:H b=l
  ·subst hb;simp at h;exact absurd h (hnh n)
  ·rwa [Aa _ _ hb]at h
 ·by_cases hl:l'=l
  ·subst hl;show Fi X.P _ l' (upd S.g l' _ l').2 _;simp only[A8];exact hs
  ·show Fi X.P _ l' (upd S.g l _ l').2 _;rw[Aa _ _ hl];exact(K.at_ l').later L (λ p k hk=>⟨(F4 (by simp[hk,hl])).trans hk,rfl⟩)
def G0a (K:Ah X S a) (hg:S.g=get A) {p d:Nat} (hd:d<X.nt) {s:Sv} (hs:(get A p).2=s):
  ∃ S',Ah X S' (a.put (some d) (S.ph p))∧S'.g=get (ups A [⟨p,false,.one .dead⟩,⟨d,false,s⟩])∧S'.w=S.w:=by
 obtain⟨K1,h1,_⟩:=Hh K p 0
 let h:Nat→List Nat→Option Lab:=λ n q=>if n=0 then some (.pl d q) else none
 have L:=D0 (Gw S p 0) h d (K.lt0 hd) s (S.ph p)
 have hok:Fi X.P S p s (S.ph p):=by have:=K.at_ p;rwa [hg,hs]at this
 have hso:Fi X.P (Gp (Gw S p 0) h d s (S.ph p)) d s (S.ph p):=by
  refine Fi.imp (S:=S) (l:=p) (λ q x u hx=>?_) hok;exact(h1 q x u hx).later L (λ k hk=>⟨F3 hk (by simp[h]),rfl⟩)
 refine⟨_,K1.put hd h (by intro n q p hp;simp only[h]at hp;split at hp<;>first|(cases hp;exact⟨q,rfl⟩)|cases hp) s _ hso,?_,rfl⟩
 show upd (Gw S p 0).g d _=_;rw[show ups A [⟨p,false,.one .dead⟩,⟨d,false,s⟩]=ups (ups A [⟨p,false,.one .dead⟩]) [⟨d,false,s⟩] from rfl,A7,A7,← hg];rfl
def Jc (A:Ab) (l:Nat) (s:Sv):get (ups A [⟨l,true,s⟩])=upd (get A) l ((get A l).1,s):=Hg A ⟨l,true,s⟩
def Cba (hE:Fo X E) (K:Ah X S a) (hg:S.g=get A) {x:Operand} {d:Nat} (ho:o.op = .assign x) (hod:o.dst=some d) (hd:d<X.nt) (h:Ai E o A Kc=some r):Er X o a S.w A Kc r:=by
 unfold Ai at h;rw[ho,hod]at h;simp only at h;split at h
 ·rename_i p v hs;obtain⟨l,hl⟩:=Ed hE K hg hs;split at h
  ·rename_i n e r' xs hp;cases hb:Nat.beq n v
   ·rw[hb]at h;simp at h
   rw[hb]at h;simp only[cond_true]at h
   have hnv:n=v:=by simpa using hb
   subst hnv;have he:a.eval x=S.ph p:=hl.2 (by rw[hg,hp])
   cases hr:E.res d with
   |true=>
    rw[hr]at h;simp only[cond_true]at h;obtain⟨S',K',hg',hw⟩:=G0a K hg (p:=p) hd (s := .one (.own e r' xs)) (by rw[hp]);exact⟨_,h,Ac (S:=S') (v:=S.ph p) (by rw[hw,I9 (.inr ho),he]) (by rw[hod];exact K') hg'⟩
   |false=>
    rw[hr]at h;simp only[cond_false]at h;obtain⟨K1,_,hf⟩:=Nr K (p:=p) (e:=e) (r:=r') (xs:=xs) (by rw[hg,hp]);have K2:=K1.put0 hd (.one (.fz e r' xs)) (S.ph p) 0 rfl (Af.relab (lab' := .pl 0 []) rfl hf);refine⟨_,h,Ac (S:=_) (v:=S.ph p) ?_ (by rw[hod];exact K2) ?_⟩
    ·show _=Result.ok _ S.w;rw[I9 (.inr ho),he]
    ·show upd (frS S p e r' xs).g d _=_;rw[show ups A [⟨p,true,.one (.fz e r' xs)⟩,⟨d,false,.one (.fz e r' xs)⟩]=ups (ups A [⟨p,true,.one (.fz e r' xs)⟩]) [⟨d,false,.one (.fz e r' xs)⟩] from rfl,A7,Jc,← hg];rfl
  ·rename_i n e r' xs hp;cases hb:Nat.beq n v
   ·rw[hb]at h;simp at h
   rw[hb]at h;simp only[cond_true]at h
   have hnv:n=v:=by simpa using hb
   subst hnv;have he:a.eval x=S.ph p:=hl.2 (by rw[hg,hp])
   have hp':Fi X.P S p (.one (.fz e r' xs)) (S.ph p):=by have:=K.at_ p;rwa [hg,hp]at this
   have K2:=K.put0 hd (.one (.fz e r' xs)) (S.ph p) p rfl hp';refine⟨_,h,Ac (S:=_) (v:=S.ph p) ?_ (by rw[hod];exact K2) ?_⟩
   ·show _=Result.ok _ S.w;rw[I9 (.inr ho),he]
   ·show upd S.g d _=_;rw[A7,← hg]
  ·cases h
 ·rename_i s _ hs;obtain⟨S',K',hg',hw⟩:=Caa hE K hg hs hd;exact⟨_,h,Ac (S:=S') (by rw[hw];exact I9 (.inr ho)) (by rw[hod];exact K') hg'⟩
 ·cases h
def A5.len {P:Program} {S:Sit} {f:Nat→Lab}:∀ {j:Nat} {xs:List Lf} {us:List Value},A5 P S f j xs us→us.length=xs.length
 |_,[],[],_=>rfl
 |_,_::_,_::_,h=>by simp[h.2.len]
 |_,[],_::_,h=>h.elim
 |_,_::_,[],h=>h.elim
def A5.shift {P:Program} {S:Sit} {f:Nat→Lab}:∀ {j:Nat} {xs:List Lf} {us:List Value} (n:Nat),A5 P S f (j+n) xs us→A5 P S (λ i=>f (i+n)) j xs us
 |_,[],[],_,_=>trivial
 |j,_::xs,_::us,n,h=>⟨h.1,A5.shift (j:=j+1) n (by rw[show j+1+n=j+n+1 by omega];exact h.2)⟩
 |_,[],_::_,_,h=>h.elim
 |_,_::_,[],_,h=>h.elim
def A5.drop {P:Program} {S:Sit} {f:Nat→Lab}:∀ {j:Nat} {xs:List Lf} {us:List Value} (n:Nat),A5 P S f j xs us→A5 P S f (j+n) (xs.drop n) (us.drop n)
 |_,_,_,0,h=>h
 |_,[],[],_+1,_=>trivial
 |j,_::xs,_::us,n+1,h=>by
  rw[show j+(n+1)=j+1+n by omega];exact A5.drop n h.2
 |_,[],_::_,_,h=>h.elim
 |_,_::_,[],_,h=>h.elim
def A5.take {P:Program} {S:Sit} {f:Nat→Lab}:∀ {j:Nat} {xs:List Lf} {us:List Value} (n:Nat),A5 P S f j xs us→A5 P S f j (xs.take n) (us.take n)
 |_,_,_,0,_=>trivial
 |_,[],[],_+1,_=>trivial
 |j,_::xs,_::us,n+1,h=>⟨h.1,A5.take n h.2⟩
 |_,[],_::_,_,h=>h.elim
 |_,_::_,[],_,h=>h.elim
def A5.app {P:Program} {S:Sit} {f:Nat→Lab}:∀ {j:Nat} {xs ys:List Lf} {us vs:List Value},A5 P S f j xs us→A5 P S f (j+xs.length) ys vs→A5 P S f j (xs++ys) (us++vs)
 |_,[],_,[],_,_,h=>h
 |j,_::xs,_,_::us,_,h,h'=>⟨h.1,A5.app h.2 (by rw[show j+1+xs.length=j+(xs.length+1) by omega];exact h')⟩
 |_,[],_,_::_,_,h,_=>h.elim
 |_,_::_,_,[],_,h,_=>h.elim
def A5.deads {P:Program} {S:Sit} {f:Nat→Lab}:∀ {j:Nat} (us:List Value),A5 P S f j (List.replicate us.length .dead) us
 |_,[]=>trivial
 |_,_::us=>⟨trivial,A5.deads us⟩
def Et {α:Type}:∀ (l:List α) (n:Nat),nth l n=l[n]?
 |[],_=>by simp[nth]
 |_::_,0=>by simp[nth]
 |_::l,n+1=>by simp[nth,Et l n]
def Ir.get {P:Program} {S:Sit} {l:Nat}:∀ {i:Nat} {vs:List (Bool×List Lf)} {us:List Value} (j:Nat) {v:Bool×List Lf},Ir P S l i vs us→vs[j]? = some v→
  ∃ u ws,us[j]? = some u∧(if v.1 then u = .agg ws.toArray else ws=[u])∧A5 P S (λ n => .pl l [i+j,n]) 0 v.2 ws
 |_,[],_,j,v,_,h=>by simp at h
 |i,v0::vs,u::us,0,v,⟨⟨ws,h1,h2⟩,_⟩,h=>by
  simp at h;subst h;exact⟨u,ws,rfl,h1,h2⟩
 |i,_::vs,_::us,j+1,v,⟨_,h3⟩,h=>by
  obtain⟨u,ws,e1,e2,e3⟩:=h3.get j (by simpa using h);exact⟨u,ws,by simpa using e1,e2,by rw[show i+(j+1)=i+1+j by omega];exact e3⟩
 |_,_::_,[],_,_,h,_=>h.elim
def Ir.gone {P:Program} {S S':Sit} {l:Nat} (j:Nat):∀ {i:Nat} {vs:List (Bool×List Lf)} {us:List Value},(∀ n m x u,n≠j→Af P S (.pl l [n,m]) x u→Af P S' (.pl l [n,m]) x u)→
  Ir P S l i vs us→i≤j→Ir P S' l i (vs.set (j-i) (false,[.dead])) us
 |_,[],[],_,_,_=>by simp[Ir]
 |i,v::vs,u::us,hi,⟨⟨ws,h1,h2⟩,h3⟩,hij=>by
  by_cases he:i=j
  ·subst he;simp only[Qfa,List.set_cons_zero];refine⟨⟨[u],by simp,trivial,trivial⟩,?_⟩
   have:∀ {n:Nat} {vs:List (Bool×List Lf)} {us:List Value},i<n→Ir P S l n vs us→Ir P S' l n vs us:=by
    intro n vs
    induction vs generalizing n with
    |nil=>intro us _ h;cases us<;>first|trivial|exact h.elim
    |cons v vs ih=>
     intro us hn h
     cases us with
     |nil=>exact h.elim
     |cons u us=>
      obtain⟨⟨ws,h1,h2⟩,h3⟩:=h;exact⟨⟨ws,h1,h2.imp (λ m x u h=>hi n m x u (by omega) h)⟩,ih (by omega) h3⟩
   exact this (by omega) h3
  ·rw[show j-i=(j-(i+1))+1 by omega,List.set_cons_succ];exact⟨⟨ws,h1,h2.imp (λ m x u h=>hi i m x u he h)⟩,h3.gone j hi (by omega)⟩
 |_,[],_::_,_,h,_=>h.elim
 |_,_::_,[],_,h,_=>h.elim
def Hu {P:Program} {S:Sit} {ag:Bool} {l:List Lf} {s:Sv} {d:Nat} {u:Value} {ws:List Value} (h:Gx ag l=some s) (hu:if ag then u = .agg ws.toArray else ws=[u])
  (hl:A5 P S (λ n => .pl d (if ag then [n] else [])) 0 l ws):Fi P S d s u:=by
 unfold Gx at h
 cases ag with
 |true=>
  simp at h;subst h;exact⟨ws,by simpa using hu,by simpa using hl⟩
 |false=>
  simp only[cond_false]at h;split at h
  ·cases h;simp at hu;subst hu;exact hl.1
  ·cases h
def Ke {ag:Bool} {l:List Lf} {s:Sv} (h:Gx ag l=some s):Hr s=Cm l:=by
 unfold Gx at h;cases ag
 case true=>simp at h;subst h;rfl
 simp only[cond_false]at h;split at h
 ·cases h;rfl
 ·cases h
def M2 (d:Nat) (ag:Bool):Nat→List Nat→Option Lab:=λ n q=>if n=0 then some (.pl d (if ag then q else [])) else none
def Xa (d:Nat) (ag:Bool):∀ n q p,M2 d ag n q=some p→∃ p',p = .pl d p':=by
 intro n q p hp;unfold M2 at hp;split at hp
 ·cases hp;exact⟨_,rfl⟩
 ·cases hp
def Ada (hE:Fo X E) (K:Ah X S a) (hg:S.g=get A) {t j d:Nat} (ho:o.op = .extract (.tmp t) j) (hod:o.dst=some d) (hd:d<X.nt) (h:Ai E o A Kc=some r):Er X o a S.w A Kc r:=by
 unfold Ai at h;rw[ho,hod]at h;simp only at h;cases hb:Nat.blt t E.nt
 ·rw[hb]at h;simp at h
 rw[hb]at h;simp only[cond_true]at h;have ht:t<X.nt:=hE.nt ▸ (Vd hb:t+1≤E.nt);have he:a.eval (.tmp t)=S.ph t:=K.sl t ht;split at h
 ·rename_i vs hvs
  have hok:Fi X.P S t (.tup vs) (S.ph t):=by have:=K.at_ t;rwa [hg,hvs]at this
  obtain⟨us,e1,hto⟩:=hok;split at h
  ·rename_i ag l hn;rw[Et]at hn;split at h
   ·rename_i s hs;obtain⟨u,ws,e2,e3,hl⟩:=hto.get j hn;simp only[Wb]at hl
    have hrun:(execOp a.eval o).run X.P S.w = .ok (.value u) S.w:=by
     unfold execOp;simp[ho,he,e1,Instr.extract,e2]
    cases hown:Cm l with
    |false=>
     rw[hown]at h;simp only[cond_false]at h;have hso:Fi X.P S d s u:=Hu hs e3 (hl.relab hown);have K2:=K.put0 hd s u d (by rw[Ke hs,hown]) hso;refine⟨_,h,Ac (S:=Gp S (λ _ _=>none) d s u) hrun (by rw[hod];exact K2) ?_⟩;show upd S.g d _=_;rw[A7,← hg]
    |true=>
     rw[hown]at h;simp only[cond_true]at h
     let f:List Nat→Option (List Nat):=λ p=>match p with
      |[i,n]=>if i=j then some [n] else none
      |_=>none
     have L1:=Ht S t 0 f (.tup (vs.set j (false,[.dead])))
     obtain⟨K1,h1,_⟩:=Qj K t 0 f (.tup (vs.set j (false,[.dead]))) (by simp) ⟨us,e1,by
      refine hto.gone j (λ n m x u hne hx=>hx.later L1 (λ k hk=>⟨X9 hk (by simp[f,hne]),rfl⟩)) (Wh _)⟩
     have L2:=D0 (Lv S t 0 f (.tup (vs.set j (false,[.dead])))) (M2 d ag) d (K.lt0 hd) s u
     have hl2:A5 X.P (Gp (Lv S t 0 f (.tup (vs.set j (false,[.dead])))) (M2 d ag) d s u) (λ n => .pl d (if ag then [n] else [])) 0 l ws:=by
      refine hl.imp (λ n x u hx=>?_);exact(h1 [j,n] [n] x u (by simp[f]) hx).later L2 (λ k hk=>⟨F3 hk (by simp[M2]),rfl⟩)
     have K2:=K1.put hd (M2 d ag) (Xa d ag) s u (Hu hs e3 hl2);refine⟨_,h,Ac (S:=Gp (Lv S t 0 f (.tup (vs.set j (false,[.dead])))) (M2 d ag) d s u) hrun (by rw[hod];exact K2) ?_⟩;show upd (Lv S t 0 f (.tup (vs.set j (false,[.dead])))).g d _=_;rw[show ∀ u1 u2,ups A [u1,u2]=ups (ups A [u1]) [u2] from λ _ _=>rfl,A7,A7,← hg];rfl
   ·cases h
  ·cases h
 ·cases h
end

def Gv (k o n:Nat):Addr.add ⟨k,o,none⟩ n=⟨k,o+n,none⟩:=Addr.add_lit k o n
section
variable {P:Program} {w:World}
def G7 {t:TypeId} {n:Nat} (h:(P.info? t).map (λ i=>i.size)=some n):(sizeOf t).run P w = .ok n w:=by
 cases hi:P.info? t with
 |none=>simp[hi]at h
 |some i=>
  simp[hi]at h;simp[sizeOf,typeInfo,hi,h]
def Nt {T:TypeId} {t:TI} (h:TOk P T t) (ha:t.ag=true):∃ fs,P.underlying T=some (.struct fs)∧Gy P fs.toList t.fo=true:=by
 have:=h.desc;unfold M0 at this
 split at this<;>first|(simp_all;done)|skip
def Jd:∀ {fs:List Field} {os:List (Nat×Nat×Bool)} {j:Nat} {o:Nat×Nat×Bool},Gy P fs os=true→nth os j=some o→
  ∃ f,fs[j]? = some f∧f.offset=o.1∧(P.info? f.type).map (λ i=>i.size)=some o.2.1∧0<o.2.1∧Sc (P.underlying f.type)=o.2.2∧∃ d,P.underlying f.type=some d
 |[],[],j,o,_,h=>by simp[nth]at h
 |[],_::_,_,_,h,_=>by simp[Gy]at h
 |_::_,[],_,_,h,_=>by simp[Gy]at h
 |f::fs,o'::os,j,o,h,hn=>by
  simp only[Gy,Va]at h;obtain⟨⟨⟨⟨⟨h1,h2⟩,h3⟩,h4⟩,h6⟩,h5⟩:=h
  cases j with
  |zero=>
   simp[nth]at hn;subst hn;refine⟨f,rfl,by simpa using h1,by simpa using h2,?_,by simpa using h4,P2a.mp h6⟩;have:Nat.ble 1 o'.2.1=true:=h3;exact Vd this
  |succ j=>exact Jd (fs:=fs) h5 (by simpa[nth] using hn)
def Ia {t:TypeId} {b:Bool} {d:TypeDesc} (hd:P.underlying t=some d) (h:Sc (P.underlying t)=b):(isAgg t).run P w = .ok b w:=by
 rw[hd]at h;unfold isAgg;rw[Vw,run_underlying hd]
 cases d<;>simp_all [Sc]
end
section
variable {X:Cx} {S:Sit} {a:Act} {E:En} {A:Ab} {o:Oper} {R:Type} {Kc:List Up→Option R} {r:R}
def Uj (hE:Fo X E) (K:Ah X S a) (hg:S.g=get A) {x:Operand} {d:Nat} (ho:o.op = .nilCheck x) (hod:o.dst=some d) (hd:d<X.nt) (h:Ai E o A Kc=some r):Er X o a S.w A Kc r:=by
 unfold Ai at h;rw[ho,hod]at h;simp only at h;split at h
 ·rename_i y hs;obtain⟨l,hl⟩:=Ed hE K hg hs
  have key:(∃ ad,a.eval x = .pointer (some ad))→Hr (.one y)=false→Kc [⟨d,false,.one y⟩]=some r→Er X o a S.w A Kc r:=by
   intro ⟨ad,he⟩ ho' hk;have K2:=K.put0 hd (.one y) (a.eval x) l ho' hl;refine⟨_,hk,Ac (S:=Gp S (λ _ _=>none) d (.one y) (a.eval x)) ?_ (by rw[hod];exact K2) ?_⟩
   ·show _=Result.ok _ S.w;unfold execOp;simp[ho,he]
   ·show upd S.g d _=_;rw[A7,← hg]
  rw[csi]at h;obtain⟨hlv,h⟩:=h;unfold P7 at hlv;split at hlv
  ·rename_i b v n;exact key ⟨_,hl.2 (by rw[hg];simpa using hlv)⟩ rfl h
  ·rename_i p v i n;split at hlv
   ·rename_i m e r' xs hp
    have:m=v:=by simpa using hlv
    subst this;obtain⟨_,_,k,cap,_,e2⟩:=hl.2 e r' xs (by rw[hg,hp]);exact key ⟨_,e2⟩ rfl h
   ·cases hlv
  ·obtain⟨k,o',cs,e,_⟩:=hl;exact key ⟨_,e⟩ rfl h
  ·obtain⟨hd',h1,h2⟩:=hl;obtain⟨_,_,k,o',cap,_,e⟩:=h2 (by rw[hg];simpa using hlv);exact key ⟨_,e⟩ rfl h
  ·cases hlv
 ·cases h
def Qk {P:Program} {w:World} {T:TypeId} {x:Operand} {j:Nat} {t:TI} {f:Nat×Nat×Bool} (ht:TOk P T t) (ha:t.ag=true) (hf:nth t.fo j=some f) (ho:o.op = .fieldAddr T x j) {k off:Nat} (he:a.eval x = .pointer (some ⟨k,off,none⟩)):
  (execOp a.eval o).run P w = .ok (.value (.pointer (some ⟨k,off+f.1,none⟩))) w:=by
 obtain⟨fs,hu,hfs⟩:=Nt ht ha;obtain⟨fd,h1,h2,h3,h4,h5,_⟩:=Jd hfs hf
 have h1':fs[j]? = some fd:=by simpa using h1
 unfold execOp;simp only[ho,he,Vw];unfold Instr.fieldAt;rw[Vw,run_underlying hu];simp only[Vv,h1',Instr.sureAddr,Vw,Wl,fieldPlace,G7 h3];rw[if_neg (by omega)];simp only[Wl,Vv,Gv,h2]
def Sk (hE:Fo X E) (K:Ah X S a) (hg:S.g=get A) {T:TypeId} {x:Operand} {j d:Nat} (ho:o.op = .fieldAddr T x j) (hod:o.dst=some d) (hd:d<X.nt) (h:Ai E o A Kc=some r):Er X o a S.w A Kc r:=by
 unfold Ai at h;rw[ho,hod]at h;simp only at h;split at h
 ·rename_i ti y hti hs;obtain⟨l,hl⟩:=Ed hE K hg hs;split at h
  ·rename_i f hf;rw[csi]at h;obtain⟨hq,h⟩:=h;simp only[Va]at hq;obtain⟨ha,hlv⟩:=hq
   have key:∀ (k off:Nat),a.eval x = .pointer (some ⟨k,off,none⟩)→Hr (.one (Bna y f.1))=false→Fi X.P S l (.one (Bna y f.1)) (.pointer (some ⟨k,off+f.1,none⟩))→Er X o a S.w A Kc r:=by
    intro k off he ho' hsv;have K2:=K.put0 hd _ _ l ho' hsv;refine⟨_,h,Ac (S:=Gp S (λ _ _=>none) d _ _) ?_ (by rw[hod];exact K2) ?_⟩
    ·exact Qk (hE.ti _ _ hti) ha hf ho he
    ·show upd S.g d _=_;rw[A7,← hg]
   unfold P7 at hlv;split at hlv
   ·rename_i b v n;refine key _ _ (hl.2 (by rw[hg];simpa using hlv)) rfl ⟨hl.1,λ hv=>?_⟩;rw[Yr]
   ·rename_i p v i n;split at hlv
    ·rename_i m e r' xs hp
     have:m=v:=by simpa using hlv
     subst this;obtain⟨_,_,k,cap,_,e2⟩:=hl.2 e r' xs (by rw[hg,hp]);refine key _ _ e2 rfl ⟨hl.1,λ e1 r1 xs1 hv=>?_⟩;obtain⟨g1,g2,k',cap',g3,g4⟩:=hl.2 e1 r1 xs1 hv;rw[e2]at g4;simp only[Value.pointer.injEq,Vc,Addr.mk.injEq,and_true]at g4;obtain⟨rfl,g5⟩:=g4;refine⟨g1,g2,_,cap',g3,?_⟩;congr 3;omega
    ·cases hlv
   ·obtain⟨k,o',cs,e,h1,h2,h3⟩:=hl;refine key _ _ e rfl ⟨k,o',cs,?_,h1,h2,h3⟩;rw[Yr]
   ·obtain⟨hd',h1,h2⟩:=hl;obtain⟨g1,g2,k,o',cap,g3,e⟩:=h2 (by rw[hg];simpa using hlv);refine key _ _ e rfl ⟨hd',h1,λ _=>⟨g1,g2,k,o',cap,g3,?_⟩⟩;congr 3;omega
   ·cases hlv
  ·cases h
 ·cases h
def Cca {α:Type} {R':α→List Value→Prop} {n:Nat} (hn:∀ x c,R' x c→c.length=n) {xs:List α} {cs:List Value} (h:Rows R' xs cs) {k o i:Nat} {x:α} (hx:xs[i]? = some x) (hc:C8 S.w k o cs):
  ∃ c,R' x c∧C8 S.w k (o+i*n) c:=by
 refine⟨_,h.get hn i x hx,λ j u hu=>?_⟩;rw[Wd]at hu;split at hu
 ·rw[Xs]at hu;rw[Yr];exact hc _ _ hu
 ·cases hu
def Fw {P:Program} {w:World} {T e:TypeId} {x i:Operand} {k:IntKind} {n:Int} {b off len cap sz:Nat} (hu:P.underlying T=some (.slice e)) (hs:Nn P e sz) (ho:o.op = .indexAddr T x i)
  (he:a.eval x = .slice (some ⟨b,off,none⟩) len cap) (hi:a.eval i = .int k n) (h0:0≤n) (h1:n<(len:Int)):
  (execOp a.eval o).run P w = .ok (.value (.pointer (some ⟨b,off+n.toNat*sz,none⟩))) w:=by
 unfold execOp;simp only[ho,he,hi,Vw];unfold Instr.indexAt;simp[asIntOf,run_underlying hu,h0,h1,G7 hs,Gv]
def Xb {y:Lf} {e:TypeId} {r':Ty} {xs:List r'.den} (h:G5 A y = .own e r' xs) (hn:∀ p v,y = .al p v→False):y = .own e r' xs:=by
 cases y<;>first|exact h|skip
 exact(hn _ _ rfl).elim
def Cda {P:Program} {S:Sit} {p v:Nat} {e:TypeId} {r:Ty} {xs:List r.den} (hp:S.g p=(v,.one (.own e r xs))) (hno:Gd r=false) (hao:Dh r=true) (h:Ch P S.O S.w (.pl p []) e r xs (S.ph p)):Bka P S p v (some []) e r xs (S.ph p):=by
 obtain⟨bs,⟨v',cs,b2,ev,hs,ho,hd,eb⟩,hn,hk⟩:=h;simp only[Wp,and_true]at ev;subst ev;refine⟨hao,by rw[hp];exact Vo _,λ _=>⟨by rw[hp];simp[Ue,Fva,hno],⟨hs,?_⟩,λ q hq E R XS hg=>?_⟩⟩
 ·rcases Cl ho with⟨e1,e2,rfl⟩|⟨k,cap,cur,e1,hc,h1,_,_,ht⟩
  ·refine⟨none,0,[],b2,by rw[e1,e2],by omega,hd,λ k hk' => .inl (hk k (by rw[eb];exact Vi _ hk')),λ hn=>absurd (Wq e2) hn⟩
  ·refine⟨_,cap,cs,b2,e1,h1,hd,λ k hk' => .inl (hk k (by rw[eb];exact Vi _ hk')),λ _=>⟨k,0,rfl,.inl (hk k (by rw[eb,e1];simp[Value.ownBlock])),F8 hc ht⟩⟩
 ·cases hq;rw[hp]at hg;cases hg;exact⟨rfl,rfl⟩
def Sm (hE:Fo X E) (K:Ah X S a) (hg:S.g=get A) {T:TypeId} {x i:Operand} {d:Nat} (ho:o.op = .indexAddr T x i) (hod:o.dst=some d) (hd:d<X.nt) (hopn:E.opn d=false) (h:Ai E o A Kc=some r):Er X o a S.w A Kc r:=by
 unfold Ai at h;rw[ho,hod]at h;simp only[hopn,cond_false]at h;split at h
 ·rename_i y k n hs hn;have ei:=(Hi hE K hg hn).1;obtain⟨l,hl⟩:=Ed hE K hg hs
  have keyO:∀ (p v e:Nat) (r':Ty) (xs:List r'.den),S.g p=(v,.one (.own e r' xs))→a.eval x=S.ph p→
    (bif Jt E T e&&decide (0≤n) then (bif decide (n<(xs.length:Int)) then (bif Gd r' then Kc [⟨d,false,.one (.ep p v n 0)⟩] else bif Dh r' then Kc [⟨d,false,.one (.dp p v (some []) e r' xs n 0)⟩] else none) else none) else none)=some r→Er X o a S.w A Kc r:=by
   intro p v e r' xs hp he hk;cases hq:(Jt E T e&&decide (0≤n))
   ·rw[hq]at hk;simp at hk
   rw[hq,cond_true]at hk;simp only[Va,decide_eq_true_eq]at hq
   by_cases hlt:n<(xs.length:Int)
   ·simp only[hlt,decide_true,cond_true]at hk
    have hown:Ch X.P S.O S.w (.pl p []) e r' xs (S.ph p):=by have:=K.at_ p;rw[hp]at this;exact this
    cases hno:Gd r' with
    |false=>
     rw[hno,cond_false]at hk;cases hao:Dh r'
     ·rw[hao]at hk;simp at hk
     rw[hao,cond_true]at hk;have hda:=Cda (xs:=xs) (P:=X.P) (S:=S) hp hno hao hown
     obtain⟨k',cap,e1⟩:∃ k' cap,S.ph p = .slice (some ⟨k',0,none⟩) xs.length cap:=by
      obtain⟨_,cs,hrow,_⟩:=hown.top;rcases Cl hrow with⟨_,hm,_⟩|⟨k',cap,cur,e1,_⟩
      ·omega
      ·exact⟨k',cap,e1⟩
     have hr:=Fw (w:=S.w) (Fb hq.1 hE.ti) hown.top.1 ho (he.trans e1) ei hq.2 hlt
     have hsv:Fi X.P S 0 (.one (.dp p v (some []) e r' xs n 0)) (.pointer (some ⟨k',0+n.toNat*r'.sz,none⟩)):=
      ⟨S.ph p,hda,λ _=>⟨hq.2,by omega,k',0,cap,e1,by rw[Yt]⟩⟩
     have K2:=K.put0 hd _ _ 0 rfl hsv;refine⟨_,hk,Ac (S:=Gp S (λ _ _=>none) d _ _) hr (by rw[hod];exact K2) ?_⟩;show upd S.g d _=_;rw[A7,← hg]
    |true=>
    rw[hno,cond_true]at hk;obtain⟨hsz,cs,hrow,_⟩:=hown.top;rcases Cl hrow with⟨_,hm,_⟩|⟨k',cap,cur,e1,_⟩
    ·omega
    ·have hr:=Fw (w:=S.w) (Fb hq.1 hE.ti) hsz ho (he.trans e1) ei hq.2 hlt;rw[Wb]at hr
     have hsv:Fi X.P S 0 (.one (.ep p v n 0)) (.pointer (some ⟨k',n.toNat*r'.sz,none⟩)):=by
      refine⟨by rw[hp];exact Vo _,λ e2 r2 xs2 hp2=>?_⟩;rw[hp]at hp2;cases hp2;exact⟨hq.2,by omega,k',cap,e1,by rw[Yt]⟩
     have K2:=K.put0 hd _ _ 0 rfl hsv;refine⟨_,hk,Ac (S:=Gp S (λ _ _=>none) d _ _) hr (by rw[hod];exact K2) ?_⟩;show upd S.g d _=_;rw[A7,← hg]
   ·simp[hlt]at hk
  have keyF:∀ (e:Nat) (r':Ty) (xs:List r'.den) (lab:Lab),Af X.P S lab (.fz e r' xs) (a.eval x)→
    (bif Jt E T e&&decide (0≤n) then (bif decide (n<(xs.length:Int)) then Kc [⟨d,false,.one (.fp r' (xs.getD n.toNat r'.dflt) 0)⟩] else none) else none)=some r→Er X o a S.w A Kc r:=by
   intro e r' xs lab hf hk;cases hq:(Jt E T e&&decide (0≤n))
   ·rw[hq]at hk;simp at hk
   rw[hq,cond_true]at hk;simp only[Va,decide_eq_true_eq]at hq
   by_cases hlt:n<(xs.length:Int)
   ·simp only[hlt,decide_true,cond_true]at hk;obtain⟨v,e1,hsz,ad,cap,cs,e2,hc,hrows,hne⟩:=hf;cases e1
    have hnn:xs≠[]:=by intro e3;subst e3;simp at hlt;omega
    obtain⟨k',o',rfl,hk',hcs⟩:=hne hnn;have hr:=Fw (w:=S.w) (Fb hq.1 hE.ti) hsz ho e2 ei hq.2 hlt
    have hi':n.toNat<xs.length:=by omega
    obtain⟨c,hc1,hc2⟩:=Cca (S:=S) (Ty.rep_len r') hrows (i:=n.toNat) (x:=xs.getD n.toNat r'.dflt) (by rw[Vn,Vp hi'];rfl) hcs;have hsv:Fi X.P S 0 (.one (.fp r' (xs.getD n.toNat r'.dflt) 0)) (.pointer (some ⟨k',o'+n.toNat*r'.sz,none⟩)):=⟨k',_,c,rfl,hk',hc1,hc2⟩;have K2:=K.put0 hd _ _ 0 rfl hsv;refine⟨_,hk,Ac (S:=Gp S (λ _ _=>none) d _ _) hr (by rw[hod];exact K2) ?_⟩;show upd S.g d _=_;rw[A7,← hg]
   ·simp[hlt]at hk
  have hl':Af X.P S (.pl l []) y (a.eval x):=hl;split at h
  rotate_left 2
  ·-- an opened place
   rename_i p v _;split at h
   ·rename_i m e r0 xs0 i0 b vb hp;cases hq:(Nat.beq m v&&Jt E T e)
    ·rw[hq]at h;simp at h
    rw[hq,cond_true]at h;simp only[Va]at hq
    by_cases hni:n=i0
    ·subst hni;simp only[decide_true,cond_true]at h;have hmv:m=v:=Vb hq.1;subst hmv;have he:a.eval x=S.ph p:=hl'.2 (by rw[hg,hp])
     have hat:Af X.P S (.pl p []) (.opn e r0 xs0 n b vb) (S.ph p):=by have:=K.at_ p;rw[hg,hp]at this;exact this
     obtain⟨h1,⟨hsz,h2,h3,k,cap,h4⟩,h5⟩:=hat;have hr:=Fw (w:=S.w) (Fb hq.2 hE.ti) hsz ho (he.trans h4) ei h2 (by omega);rw[Wb]at hr
     have hsv:Fi X.P S 0 (.one (.bp b vb 0)) (.pointer (some ⟨k,n.toNat*r0.sz,none⟩)):=by
      refine⟨h1,λ hv=>?_⟩;obtain⟨k',cap',cur,b1,b2,e1,_,_,_,_,e2,_⟩:=h5 hv;rw[h4]at e1;cases e1;rw[e2];rfl
     have K2:=K.put0 hd _ _ 0 rfl hsv;refine⟨_,h,Ac (S:=Gp S (λ _ _=>none) d _ _) hr (by rw[hod];exact K2) ?_⟩;show upd S.g d _=_;rw[A7,← hg]
    ·simp[hni]at h
   ·cases h
  rotate_right 1
  ·rename_i p v pi e r' xs;cases hq:(Jt E T e&&Nat.beq (get A p).1 v&&decide (0≤n))
   ·rw[hq]at h;simp at h
   rw[hq,cond_true]at h;simp only[Va,decide_eq_true_eq]at hq
   by_cases hlt:n<(xs.length:Int)
   ·simp only[hlt,decide_true,cond_true]at h;have hda:Bka X.P S p v pi e r' xs (a.eval x):=hl';obtain⟨_,⟨hsz,ad,cap,cs,bs,e1,_,_,_,hne⟩,_⟩:=hda.2.2 (by rw[hg];exact Vb hq.1.2);obtain⟨k',o',rfl,_⟩:=hne (by intro e0;subst e0;simp at hlt;omega);have hr:=Fw (w:=S.w) (Fb hq.1.1 hE.ti) hsz ho e1 ei hq.2 hlt
    have hsv:Fi X.P S 0 (.one (.dp p v pi e r' xs n 0)) (.pointer (some ⟨k',o'+n.toNat*r'.sz,none⟩)):=
     ⟨a.eval x,hda,λ _=>⟨hq.2,by omega,k',o',cap,e1,by rw[Yt]⟩⟩
    have K2:=K.put0 hd _ _ 0 rfl hsv;refine⟨_,h,Ac (S:=Gp S (λ _ _=>none) d _ _) hr (by rw[hod];exact K2) ?_⟩;show upd S.g d _=_;rw[A7,← hg]
   ·simp[hlt]at h
  rotate_right 1
  ·rename_i p v e r' xs hsn;simp only[G5]at hsn;split at hsn
   ·rename_i n' e' r'' xs' hp;cases hb:Nat.beq n' v
    ·rw[hb]at hsn;simp at hsn
    rw[hb,cond_true]at hsn;cases hsn
    have:n'=v:=by simpa using hb
    subst this;exact keyO p n' e r' xs (by rw[hg,hp]) (hl'.2 (by rw[hg,hp])) h
   ·rename_i n' e' r'' xs' hp
    cases hb:Nat.beq n' v<;>rw[hb]at hsn<;>simp at hsn
   ·cases hsn
  ·rename_i e r' xs _ hsn;obtain⟨lab',hl2⟩:=Kd K hg hl';rw[hsn]at hl2;exact keyF e r' xs lab' hl2 h
  ·rename_i e r' xs hne _ hsn;split at h
   ·rename_i t;rcases H0 hE K hg hs with⟨t',ht',htl,hst,het,_⟩|⟨hnt,_⟩
    ·cases ht';have hy:=Xb hsn hne;rw[hy]at hst;exact keyO t (get A t).1 e r' xs (by rw[← hg,hst]) het h
    ·exact absurd rfl (hnt t)
   ·cases h
  ·cases h
 ·cases h
end

section
variable {X:Cx} {S:Sit} {a:Act} {E:En} {A:Ab} {o:Oper} {R:Type} {Kc:List Up→Option R} {r:R}
def A5.impAt {P:Program} {S S':Sit} {f f':Nat→Lab}:∀ {j:Nat} {xs:List Lf} {us:List Value},(∀ n,j≤n→n<j+xs.length→∀ x u,Af P S (f n) x u→Af P S' (f' n) x u)→A5 P S f j xs us→A5 P S' f' j xs us
 |_,[],[],_,_=>trivial
 |j,_::xs,_::_,hi,h=>⟨hi j (Vo _) (by simp) _ _ h.1,h.2.impAt (λ n h1 h2=>hi n (by omega) (by simp only[Vg];omega))⟩
 |_,[],_::_,_,h=>h.elim
 |_,_::_,[],_,h=>h.elim
def A5.setAll {P:Program} {S:Sit} {f:Nat→Lab} {l m:List Lf} {us ms:List Value} {off:Nat} (h1:A5 P S f 0 (l.take off) (us.take off)) (h2:A5 P S f off m ms) (h3:A5 P S f (off+m.length) (l.drop (off+m.length)) (us.drop (off+m.length)))
  (hl:off+m.length≤l.length):A5 P S f 0 (setAll l off m) (us.take off++ms++us.drop (off+m.length)):=by
 unfold Vf.setAll
 have e1:(l.take off).length=off:=by rw[Vl];omega
 refine A5.app (A5.app h1 ?_) ?_
 ·rw[e1,Wb];exact h2
 ·rw[Vh,e1,Wb];exact h3
def Cea {P:Program} {w:World} {T:TypeId} {x:Operand} {j:Nat} {t:TI} {off z:Nat} {ag:Bool} (ht:TOk P T t) (ha:t.ag=true) (hf:nth t.fo j=some (off,z,ag)) (ho:o.op = .field T x j) {us:List Value} (he:a.eval x = .agg us.toArray) (hl:off+z≤us.length):
  ∃ u ws,(if ag then u = .agg ws.toArray else (z=1→ws=[u]))∧ws=(us.drop off).take z∧(execOp a.eval o).run P w = .ok (.value u) w:=by
 obtain⟨fs,hu,hfs⟩:=Nt ht ha;obtain⟨fd,h1,h2,h3,h4,h5,d,h6⟩:=Jd hfs hf
 have h1':fs[j]? = some fd:=by simpa using h1
 cases ag with
 |true=>
  refine⟨_,_,rfl,rfl,?_⟩;unfold execOp;simp only[ho,he,Vw];unfold Instr.field;rw[Vw,run_underlying hu];simp only[Vv,h1',asAgg,Vw,Wl,part,Ia h6 h5,G7 h3,if_true];simp[h2,List.extract_eq_take_drop]
 |false=>
  have hlt:off<us.length:=by simp only at h4;omega
  refine⟨us[off],_,?_,rfl,?_⟩
  ·simp only[Wc,if_false];intro hz;subst hz;show List.take 1 _=_;rw[Yi hlt,Pka,Ota]
  ·unfold execOp;simp only[ho,he,Vw];unfold Instr.field;rw[Vw,run_underlying hu];simp only[Vv,h1',asAgg,Vw,Wl,part,Ia h6 h5,Wc,if_false];simp[h2,hlt]
def G1a (hE:Fo X E) (K:Ah X S a) (hg:S.g=get A) {T:TypeId} {t j d:Nat} (ho:o.op = .field T (.tmp t) j) (hod:o.dst=some d) (hd:d<X.nt) (h:Ai E o A Kc=some r):Er X o a S.w A Kc r:=by
 unfold Ai at h;rw[ho,hod]at h;simp only at h;split at h
 ·rename_i ti l hti hgt;split at h
  ·rename_i off z ag hf;split at h
   ·rename_i s hs;obtain⟨hq,h⟩:=cs h;simp only[Va]at hq;obtain⟨⟨ha,hb⟩,hle⟩:=hq;have hle:off+z≤l.length:=Vd hle;have ht:t<X.nt:=hE.nt ▸ (Vd hb:t+1≤E.nt);have he:a.eval (.tmp t)=S.ph t:=K.sl t ht
    have hok:Fi X.P S t (.agg l) (S.ph t):=by have:=K.at_ t;rwa [hg,hgt]at this
    obtain⟨us,e1,hls⟩:=hok;have hlen:=hls.len;obtain⟨u,ws,e2,e3,hrun⟩:=Cea (w:=S.w) (hE.ti _ _ hti) ha hf ho (he.trans e1) (by omega)
    have e4:if ag then u = .agg ws.toArray else ws=[u]:=by
     cases ag
     case true=>exact e2
     simp only[Wc,if_false]at e2 ⊢;unfold Gx at hs;simp only[cond_false]at hs;split at hs
     ·rename_i x hx
      have:((l.drop off).take z).length=1:=by rw[hx];rfl
      rw[Vl,Vx]at this;exact e2 (by omega)
     ·cases hs
    have hpart:A5 X.P S (λ n => .pl t [n]) off ((l.drop off).take z) ws:=by
     have:=(hls.drop off).take z;rw[Wb,← e3]at this;exact this
    cases hown:Cm ((l.drop off).take z) with
    |false=>
     rw[hown,cond_false]at h
     have hso:Fi X.P S d s u:=Hu hs e4 (A5.shift (j:=0) (f:=λ n => .pl d (if ag then [n-off] else [])) off (by
      rw[Wb];exact hpart.relab hown) |>.imp (λ n x u hx=>by simpa using hx))
     have K2:=K.put0 hd s u d (by rw[Ke hs,hown]) hso;refine⟨_,h,Ac (S:=Gp S (λ _ _=>none) d s u) hrun (by rw[hod];exact K2) ?_⟩;show upd S.g d _=_;rw[A7,← hg]
    |true=>
     rw[hown,cond_true]at h
     let f:List Nat→Option (List Nat):=λ p=>match p with
      |[n]=>if off≤n∧n<off+z then some [n-off] else none
      |_=>none
     let s0:Sv := .agg (Vf.setAll l off (List.replicate z .dead))
     have L1:=Ht S t 0 f s0
     have hst:∀ n,¬ (off≤n∧n<off+z)→∀ x u,Af X.P S (.pl t [n]) x u→Af X.P (Lv S t 0 f s0) (.pl t [n]) x u:=λ n hn x u hx=>
      hx.later L1 (λ k hk=>⟨X9 hk (by simp only[f];rw[if_neg hn]),rfl⟩)
     obtain⟨K1,h1,_⟩:=Qj K t 0 f s0 (by simp[s0]) ⟨us,e1,by
      have hz:(List.replicate z Lf.dead).length=z:=by simp
      have hws:ws.length=z:=by rw[e3,Vl,Vx];omega
      have:=A5.setAll (P:=X.P) (S:=Lv S t 0 f s0) (f:=λ n => .pl t [n]) (l:=l) (us:=us) (m:=List.replicate z .dead) (ms:=ws) (off:=off)
       ((hls.take off).impAt (λ n _ h2=>hst n (by rw[Vl]at h2;omega)))
       (by rw[← hws];exact A5.deads ws) (by
        rw[hz];refine A5.impAt (λ n h1 _=>hst n (by omega)) ?_;have:=hls.drop (off+z)
        rwa [Wb]at this) (by rw[hz];exact hle)
      rw[hz,e3,← Wn,Vj,Wm,Wm]at this
      exact this⟩
     have L2:=D0 (Lv S t 0 f s0) (M2 d ag) d (K.lt0 hd) s u
     have hl2:A5 X.P (Gp (Lv S t 0 f s0) (M2 d ag) d s u) (λ n => .pl d (if ag then [n] else [])) 0 ((l.drop off).take z) ws:=by
      have h5:A5 X.P (Gp (Lv S t 0 f s0) (M2 d ag) d s u) (λ n => .pl d (if ag then [n-off] else [])) off ((l.drop off).take z) ws:=by
       refine A5.impAt (λ n n1 n2 x u hx=>?_) hpart
       have n3:n<off+z:=by rw[Vl]at n2;omega
       exact(h1 [n] [n-off] x u (by simp[f,n1,n3]) hx).later L2 (λ k hk=>⟨F3 hk (by simp[M2]),rfl⟩)
      have:=A5.shift (j:=0) off (by rw[Wb];exact h5);exact this.imp (λ n x u hx=>by simpa using hx)
     have K2:=K1.put hd (M2 d ag) (Xa d ag) s u (Hu hs e4 hl2);refine⟨_,h,Ac (S:=Gp (Lv S t 0 f s0) (M2 d ag) d s u) hrun (by rw[hod];exact K2) ?_⟩;show upd (Lv S t 0 f s0).g d _=_;rw[show ∀ u1 u2,ups A [u1,u2]=ups (ups A [u1]) [u2] from λ _ _=>rfl,A7,A7,← hg];rfl
   ·cases h
  ·cases h
 ·cases h
def Je (hE:Fo X E) (K:Ah X S a) (hg:S.g=get A) {x:Option Operand} {n:Option Int} (h:Qd E A x=some n):x.map a.eval=n.map (Value.int .i64):=by
 unfold Qd at h;split at h
 ·cases h;rfl
 ·rename_i x;split at h
  ·rename_i n hn;cases h;simp[(Hi hE K hg hn).1]
  ·cases h
def J0 {lo hi:Option Int} {n:Nat} {Kb:Unit→Option R} (h:U3 lo hi n Kb=some r):Kb ()=some r∧0≤lo.getD 0∧lo.getD 0≤hi.getD n∧hi.getD n≤n:=by
 unfold U3 at h;split at h
 ·exact⟨h,by simp⟩
 ·rename_i l
  by_cases h1:0≤l
  ·by_cases h2:l≤(n:Int)
   ·simp only[h1,h2,decide_true,cond_true]at h;exact⟨h,by simpa using ⟨h1,h2⟩⟩
   ·simp[h1,h2]at h
  ·simp[h1]at h
 ·rename_i l
  by_cases h1:0≤l
  ·by_cases h2:l≤(n:Int)
   ·simp only[h1,h2,decide_true,cond_true]at h;exact⟨h,by simpa using ⟨h1,h2⟩⟩
   ·simp[h1,h2]at h
  ·simp[h1]at h
 ·rename_i l l2
  by_cases h1:0≤l
  ·by_cases h2:l≤l2
   ·by_cases h3:l2≤(n:Int)
    ·simp only[h1,h2,h3,decide_true,cond_true]at h;exact⟨h,by simpa using ⟨h1,h2,h3⟩⟩
    ·simp[h1,h2,h3]at h
   ·simp[h1,h2]at h
  ·simp[h1]at h
def Pl {P:Program} {w:World} (sl:Bool) {n cap:Nat} {lo hi:Option Int} (hc:n≤cap) (h0:0≤lo.getD 0) (h1:lo.getD 0≤hi.getD n) (h2:hi.getD n≤n):
  (Instr.sliceBounds sl n cap (lo.map (Value.int .i64)) (hi.map (Value.int .i64)) none).run P w = .ok ((lo.getD 0).toNat,(hi.getD n).toNat,cap) w:=by
 cases lo with
 |none=>
  cases hi with
  |none=>simp[Instr.sliceBounds]
  |some b=>
   simp only[Zc,Zg]at h0 h1 h2;simp[Instr.sliceBounds,run_sliceBound,(by omega:0≤b),(by omega:b≤(cap:Int))]
 |some l=>
  cases hi with
  |none=>
   simp only[Zc,Zg]at h0 h1 h2;simp[Instr.sliceBounds,run_sliceBound,h0,h1]
  |some b=>
   simp only[Zc]at h0 h1 h2;have eb:(b.toNat:Int)=b:=Int.toNat_of_nonneg (by omega);simp[Instr.sliceBounds,run_sliceBound,(by omega:0≤b),(by omega:b≤(cap:Int)),h0,eb,h1]
def Ql {α:Type} {xs:List α} {lo hi:Option Int} (h2:hi.getD xs.length≤xs.length):Ua xs lo hi=(xs.take (hi.getD xs.length).toNat).drop (lo.getD 0).toNat:=by
 unfold Ua
 cases lo<;>cases hi<;>simp
def Qm {P:Program} {w:World} {T:TypeId} {x:Operand} {lo hi:Option Operand} {s:ByteArray} {l h:Option Int} (hu:P.underlying T=some .string) (ho:o.op = .slice T x lo hi none) (he:a.eval x = .string s)
  (hl:lo.map a.eval=l.map (Value.int .i64)) (hh:hi.map a.eval=h.map (Value.int .i64)) (h0:0≤l.getD 0) (h1:l.getD 0≤h.getD s.size) (h2:h.getD s.size≤s.size):
  (execOp a.eval o).run P w = .ok (.value (.string (s.extract (l.getD 0).toNat (h.getD s.size).toNat))) w:=by
 have hb:=Pl (P:=P) (w:=w) false (Vo s.size) h0 h1 h2;unfold execOp;simp only[ho,he,hl,hh,Option.map_none,Vw];unfold Instr.sliceAt;rw[Vw,run_underlying hu];simp only[Vv];unfold Instr.slice;rw[Vw,run_underlying hu];simp[hb]
def Fp {P:Program} {w:World} {T e:TypeId} {sz:Nat} {x:Operand} {lo hi:Option Operand} {ad:Option Addr} {n cap:Nat} {l h:Option Int} (hu:P.underlying T=some (.slice e)) (hs:Nn P e sz) (ho:o.op = .slice T x lo hi none) (he:a.eval x = .slice ad n cap)
  (hl:lo.map a.eval=l.map (Value.int .i64)) (hh:hi.map a.eval=h.map (Value.int .i64)) (hc:n≤cap) (h0:0≤l.getD 0) (h1:l.getD 0≤h.getD n) (h2:h.getD n≤n):
  (execOp a.eval o).run P w = .ok (.value (.slice (if cap=(l.getD 0).toNat then ad else ad.map (·.add ((l.getD 0).toNat*sz))) ((h.getD n).toNat-(l.getD 0).toNat) (cap-(l.getD 0).toNat))) w:=by
 have hb:=Pl (P:=P) (w:=w) true hc h0 h1 h2;unfold execOp;simp only[ho,he,hl,hh,Option.map_none,Vw];unfold Instr.sliceAt;rw[Vw,run_underlying hu];simp only[Vv];unfold Instr.slice;rw[Vw,run_underlying hu];simp only[Vv,Vw,hb,G7 hs,Wl]
def I7.cut {α:Type} {G:Nat→Prop} {w:World} {R':α→List Value→Prop} {sz:Nat} (hn:∀ x c,R' x c→c.length=sz) {xs:List α} {ad:Option Addr} {n cap l h:Nat} (hr:I7 G w R' xs (.slice ad n cap)) (h1:l≤h) (h2:h≤n):
  n=xs.length∧n≤cap∧I7 G w R' ((xs.take h).drop l) (.slice (if cap=l then ad else ad.map (·.add (l*sz))) (h-l) (cap-l)):=by
 obtain⟨ad',cap',cs,e,hc,hrow,hne⟩:=hr;cases e;refine⟨rfl,hc,if cap=l then ad else ad.map (·.add (l*sz)),cap-l,(cs.take (h*sz)).drop (l*sz),?_,?_,(hrow.take hn h).drop hn l,λ hx=>?_⟩
 ·rw[Vx,Vl,Zf h2]
 ·rw[Vx,Vl];omega
 ·have hlh:l<h:=by
   rcases P3a l h with hlt|hge
   ·exact hlt
   ·exact absurd (P8a (by rw[Vl];omega)) hx
  obtain⟨k,o',rfl,hk,hcs⟩:=hne (by intro e;subst e;simp at h2;omega);refine⟨k,o'+l*sz,?_,hk,λ j u hu=>?_⟩
  ·rw[if_neg (by omega)];simp[Gv]
  ·rw[Xs,Wd]at hu;split at hu
   ·rw[Yr];exact hcs _ _ hu
   ·cases hu
def Ch.take {P:Program} {O:Nat→Lab} {w:World} {lab:Lab} {e:TypeId} {r':Ty} {xs:List r'.den} {u:Value} (h:Ch P O w lab e r' xs u) (n:Nat) (hn:n≤xs.length):
  ∃ ad cap,u = .slice ad xs.length cap∧xs.length≤cap∧(∀ k,ad=some k→k.spot=none)∧Ch P O w lab e r' (xs.take n) (.slice ad n cap):=by
 obtain⟨bs,⟨v,cs,b2,ev,hs,ho,hd,eb⟩,hnd,hk⟩:=h;simp only[Wp,and_true]at ev;subst ev
 have hlen:(xs.take n).length=n:=by rw[Vl];omega
 rcases Cl ho with⟨rfl,hm,rfl⟩|⟨k,cap,cur,rfl,hg,h1,h2,h3,h4⟩
 ·have hx:xs=[]:=Wq hm;subst hx
  have:n=0:=by simpa using hn
  subst this;exact⟨none,0,rfl,by simp,by simp,[],⟨_,[],[],rfl,hs,World.ownsRow_nil _ _ _ _,by simp[Bs],rfl⟩,by simp,by simp⟩
 ·obtain⟨b',h5,h6⟩:=hd.take (Ty.dep_len r') n;have e1:(Value.slice (some ⟨k,0,none⟩) n cap).ownBlock.toList++b'=k::b':=rfl;have e2:(Value.slice (some ⟨k,0,none⟩) xs.length cap).ownBlock.toList++b2=k::b2:=rfl;rw[e2]at eb;subst eb;have hsub:(k::b').Sublist (k::b2):=h6.cons_cons k;refine⟨_,cap,rfl,h1,by simp,k::b',⟨_,cs.take (n*r'.sz),b',rfl,hs,⟨?_,.inr ⟨k,cap,cur,by rw[hlen],Wh _,hg,by omega,h2,h3,?_⟩⟩,h5,rfl⟩,hnd.sublist hsub,λ j hj=>hk j (hsub.subset hj)⟩
  ·rw[Vl,ho.1,hlen];have:=Wa r'.sz hn;omega
  ·rw[hlen,← h4,Zm];congr 1;have:=Wa r'.sz hn;omega
def Uf.cut {P:Program} {S:Sit} {p:Nat} {e:TypeId} {r':Ty} {xs:List r'.den} {ad:Option Addr} {n cap l h:Nat} (hb:Uf P S p e r' xs (.slice ad n cap)) (h1:l≤h) (h2:h≤n):
  n=xs.length∧n≤cap∧Uf P S p e r' ((xs.take h).drop l) (.slice (if cap=l then ad else ad.map (·.add (l*r'.sz))) (h-l) (cap-l)):=by
 obtain⟨hs,ad',cap',cs,bs,e1,hc,hrow,hm,hne⟩:=hb;cases e1;obtain⟨b1,d1,d2⟩:=hrow.take (Ty.dep_len r') h;obtain⟨b2,d3,d4⟩:=d1.drop (Ty.dep_len r') l;refine⟨rfl,hc,hs,if cap=l then ad else ad.map (·.add (l*r'.sz)),cap-l,(cs.take (h*r'.sz)).drop (l*r'.sz),b2,?_,?_,d3,λ k hk=>hm k ((d4.trans d2).subset hk),λ hx=>?_⟩
 ·rw[Vx,Vl,Zf h2]
 ·rw[Vx,Vl];omega
 ·have hlh:l<h:=by
   rcases P3a l h with hlt|hge
   ·exact hlt
   ·exact absurd (P8a (by rw[Vl];omega)) hx
  obtain⟨k,o',rfl,hk,hcs⟩:=hne (by intro e;subst e;simp at h2;omega);refine⟨k,o'+l*r'.sz,?_,hk,λ j u hu=>?_⟩
  ·rw[if_neg (by omega)];simp[Gv]
  ·rw[Xs,Wd]at hu;split at hu
   ·rw[Yr];exact hcs _ _ hu
   ·cases hu
def N5 (hE:Fo X E) (K:Ah X S a) (hg:S.g=get A) {T e:TypeId} {r':Ty} {xs:List r'.den} {x:Operand} {lo hi:Option Operand} {l h:Option Int} {d:Nat} {u:Value} {w:World}
  (he:a.eval x=u) (hw:S.w=w) (ho:o.op = .slice T x lo hi none) (hod:o.dst=some d) (hd:d<X.nt) (hel:Jt E T e=true) (hl:lo.map a.eval=l.map (Value.int .i64)) (hh:hi.map a.eval=h.map (Value.int .i64))
  (h0:0≤l.getD 0) (h1:l.getD 0≤h.getD xs.length) (h2:h.getD xs.length≤xs.length) (hf:∃ lab,Af X.P S lab (.fz e r' xs) u):C7a X o a w (ups A [⟨d,false,.one (.fz e r' (Ua xs l h))⟩]):=by
 subst hw;obtain⟨lab,v,e1,hsz,hsl⟩:=hf;cases e1;obtain⟨ad,cap,cs,e2,_⟩:=id hsl;rw[e2]at hsl;obtain⟨_,hc,hcut⟩:=I7.cut (Ty.rep_len r') (l:=(l.getD 0).toNat) (h:=(h.getD xs.length).toNat) hsl (by omega) (by omega);rw[← Ql h2]at hcut;have hrun:=Fp (w:=S.w) (Fb hel hE.ti) hsz ho (he.trans e2) hl hh hc h0 h1 h2;have hsv:Fi X.P S 0 (.one (.fz e r' (Ua xs l h))) _:=⟨_,rfl,hsz,hcut⟩;have K2:=K.put0 hd _ _ 0 rfl hsv;refine Ac (S:=Gp S (λ _ _=>none) d _ _) hrun (by rw[hod];exact K2) ?_;show upd S.g d _=_;rw[A7,← hg]
def Jf {y:Lf} {e:TypeId} {r':Ty} {xs:List r'.den} (hsn:G5 A y = .own e r' xs) (hne:∀ e r (xs:List r.den),y = .own e r xs→False):∃ p v,y = .al p v∧get A p=(v,.one (.own e r' xs)):=by
 cases y<;>first|(simp only[G5]at hsn;cases hsn;done)|skip
 ·simp only[G5]at hsn;exact(hne _ _ _ rfl).elim
 ·rename_i p v;simp only[G5]at hsn;split at hsn
  ·rename_i n e' r'' xs' hp;cases hb:Nat.beq n v
   ·rw[hb]at hsn;simp at hsn
   rw[hb,cond_true]at hsn
   have:n=v:=by simpa using hb
   subst this;refine⟨p,n,rfl,?_⟩;rw[hp,hsn]
  ·rename_i n e' r'' xs' hp
   cases hb:Nat.beq n v<;>rw[hb]at hsn<;>simp at hsn
  ·cases hsn
def Xc (hE:Fo X E) (K:Ah X S a) (hg:S.g=get A) {T e:TypeId} {x:Operand} {lo hi:Option Operand} {d p v:Nat} {pi:Option (List (Int×Nat))} {r':Ty} {xs:List r'.den} {l u:Option Int} (ho:o.op = .slice T x lo hi none) (hod:o.dst=some d) (hd:d<X.nt) (hq:Jt E T e=true)
  (hda:Bka X.P S p v pi e r' xs (a.eval x)) (hv:(S.g p).1=v) (hl:lo.map a.eval=l.map (Value.int .i64)) (hu:hi.map a.eval=u.map (Value.int .i64)) (h0:0≤l.getD 0) (h1:l.getD 0≤u.getD xs.length) (h2:u.getD xs.length≤xs.length):
  C7a X o a S.w (ups A [⟨d,false,.one (.da p v none e r' (Ua xs l u))⟩]):=by
 obtain⟨d1,d2,d3⟩:=hda;obtain⟨d4,d5,_⟩:=d3 hv;obtain⟨hs,ad,cap,cs,bs,e1,hc,rest⟩:=id d5;rw[e1]at d5;have hrun:=Fp (w:=S.w) (Fb hq hE.ti) hs ho e1 hl hu hc h0 h1 h2;obtain⟨_,_,hcut⟩:=d5.cut (l:=(l.getD 0).toNat) (h:=(u.getD xs.length).toNat) (by omega) (by omega)
 have hsv:Fi X.P S 0 (.one (.da p v none e r' (Ua xs l u))) (.slice (if cap=(l.getD 0).toNat then ad else ad.map (·.add ((l.getD 0).toNat*r'.sz))) ((u.getD xs.length).toNat-(l.getD 0).toNat) (cap-(l.getD 0).toNat)):=by
  refine⟨d1,d2,λ _=>⟨d4,?_,λ q hq=>by cases hq⟩⟩;rw[Ql h2];exact hcut
 have K2:=K.put0 hd _ _ 0 rfl hsv;refine Ac (S:=Gp S (λ _ _=>none) d _ _) hrun (by rw[hod];exact K2) ?_;show upd S.g d _=_;rw[A7,← hg]
def Bs.halves {α:Type} {R:α→List Value→List Nat→Prop} {n:Nat} (hn:∀ x c b,R x c b→c.length=n):∀ {xs:List α} {cs:List Value} {bs:List Nat} (_:Bs R xs cs bs) (k:Nat),∃ b1 b2,bs=b1++b2∧Bs R (xs.take k) (cs.take (k*n)) b1∧Bs R (xs.drop k) (cs.drop (k*n)) b2
 |[],cs,bs,h,k=>by
  obtain⟨rfl,rfl⟩:=h;exact⟨[],[],rfl,by simp[Bs],by simp[Bs]⟩
 |x::xs,cs,bs,h,0=>⟨[],bs,rfl,by simp[Bs],by simpa using h⟩
 |x::xs,cs,bs,⟨c,d,b,b',e1,e2,h1,h2⟩,k+1=>by
  subst e1 e2;obtain⟨b1,b2,rfl,h3,h4⟩:=Bs.halves hn h2 k;have hl:=hn _ _ _ h1
  have e3:(c++d).take ((k+1)*n)=c++d.take (k*n):=by
   rw[List.take_append,Zb (by rw[hl,Ppa];omega),hl,show (k+1)*n-n=k*n by rw[Ppa];omega]
  have e4:(c++d).drop ((k+1)*n)=d.drop (k*n):=by
   rw[List.drop_append,Wo (by rw[hl,Ppa];omega),hl,show (k+1)*n-n=k*n by rw[Ppa];omega,Wf]
  refine⟨b++b1,b2,by rw[Vj],⟨c,_,b,b1,e3,rfl,h1,h3⟩,?_⟩;rw[e4];exact h4
def Cfa (hE:Fo X E) (K:Ah X S a) (hg:S.g=get A) {T:TypeId} {x:Operand} {lo hi:Option Operand} {d:Nat} (ho:o.op = .slice T x lo hi none) (hod:o.dst=some d) (hd:d<X.nt) {q:Bool×List Up} (h:Ph E A T x lo hi d=some q) (hq:q.1=true):C7a X o a S.w (ups A q.2):=by
 unfold Ph at h;split at h
 ·rename_i q0 v1 v2 hs;obtain⟨pl,hsv⟩:=Ed hE K hg hs;obtain⟨_,_,ad0,n0,cap0,hev,hcap0,hp1,hp2⟩:Af X.P S (.pl pl []) (.two q0 v1 v2) (a.eval x):=hsv
  let hf:Nat→List Nat→Option Lab:=λ n q=>if n=0 then some (.pl d q) else none
  have hfok:∀ n q p,hf n q=some p→∃ p',p = .pl d p':=by intro n q p hp;simp only[hf]at hp;split at hp<;>first|(cases hp;exact⟨q,rfl⟩)|cases hp
  cases lo with
  |none=>
   cases hi with
   |none=>cases h
   |some y=>
    simp only at h;split at h
    ·rename_i n e r' ys m h0 hp hu
     replace hu:=Je hE K hg hu
     have hh:=cs h;clear h;obtain⟨hc1,h⟩:=hh;have hqe:=Q5a h;subst hqe;simp only[decide_eq_true_eq]at hq;simp only[Va]at hc1;obtain⟨⟨q1,q2⟩,q3⟩:=hc1;have hnv:n=v1:=Vb q1;have hm:m=0:=Vb q3;subst hnv hm
     have hpg:S.g q0=(n,.one (.par e r' ys 0)):=by rw[hg,hp]
     obtain⟨k,hk,hph⟩:=hp1 (by rw[hpg]);obtain⟨K1,g1,_⟩:=Hh K q0 0
     have hok:Af X.P S (.pl q0 []) (.par e r' ys 0) (S.ph q0):=by have:=K.at_ q0;rwa [hpg]at this
     have hpar:=g1 [] (.par e r' ys 0) _ hok;obtain⟨hsz,ad,cap,cs,bs,⟨e1,hcap⟩,_⟩:Pa X.P (Gw S q0 0).O (Gw S q0 0).w (.tm 0 []) e r' ys 0 (S.ph q0):=id hpar;rw[hph]at e1;simp only[Value.slice.injEq]at e1;obtain⟨rfl,hky,rfl⟩:=e1;have hrun:=Fp (w:=S.w) (Fb q2 hE.ti) hsz ho hev (l:=none) (h:=some h0) rfl hu hcap0 (by simp) (by simp;omega) (by simp;omega)
     have hval:(if cap0=((none:Option Int).getD 0).toNat then ad0 else ad0.map (·.add (((none:Option Int).getD 0).toNat*r'.sz)))=ad0:=by
      split
      ·rfl
      ·cases ad0<;>simp[Addr.add]
     rw[hval]at hrun;simp only[Zg,Zc,Pta,Pga]at hrun;rw[hq,Vq,← hky,← hph]at hrun;have L2:=D0 (Gw S q0 0) hf d (K.lt0 hd) (.one (.par e r' ys 0)) (S.ph q0)
     have hso:Fi X.P (Gp (Gw S q0 0) hf d (.one (.par e r' ys 0)) (S.ph q0)) d (.one (.par e r' ys 0)) (S.ph q0):=
      Af.later (P:=X.P) (S:=Gw S q0 0) (x := .par e r' ys 0) (lab := .tm 0 []) (lab' := .pl d []) L2 hpar (λ k hk=>⟨F3 hk (by simp[hf]),rfl⟩)
     have K2:=K1.put hd hf hfok _ _ hso;refine Ac (S:=Gp (Gw S q0 0) hf d _ _) hrun (by rw[hod];exact K2) ?_;show upd (upd S.g q0 _) d _=_;rw[show ∀ u1 u2,ups A [u1,u2]=ups (ups A [u1]) [u2] from λ _ _=>rfl,A7,A7,← hg];rfl
    ·cases h
  |some y=>
   cases hi with
   |some _=>cases h
   |none=>
    simp only at h;split at h
    ·rename_i n e r' xs m l0 hp hl
     replace hl:=Je hE K hg hl
     have hh:=cs h;clear h;obtain⟨hc1,h⟩:=hh;have hqe:=Q5a h;subst hqe;simp only[Va,decide_eq_true_eq]at hq hc1;obtain⟨⟨h0,h2⟩,h3⟩:=hq;obtain⟨q1,q2⟩:=hc1;have h3:m≤l0.toNat:=Vd h3;have hnv:n=v2:=Vb q1;subst hnv
     have hpg:S.g (q0+1)=(n,.one (.par e r' xs m)):=by rw[hg,hp]
     have he:S.ph (q0+1)=a.eval x:=hp2 (by rw[hpg]);obtain⟨K1,g1,_⟩:=Hh K (q0+1) 0
     have hok:Af X.P S (.pl (q0+1) []) (.par e r' xs m) (S.ph (q0+1)):=by have:=K.at_ (q0+1);rwa [hpg]at this
     obtain⟨hsz,ad,cap,cs,bs,⟨e1,hcap⟩,hclen,hd2,hnd,hk,hne⟩:Pa X.P (Gw S (q0+1) 0).O (Gw S (q0+1) 0).w (.tm 0 []) e r' xs m (a.eval x):=by rw[← he];exact g1 [] (.par e r' xs m) _ hok
     obtain⟨b',hd3,hsub⟩:=hd2.drop (Ty.dep_len r') (l0.toNat-m);rw[Wn,Wn,show m+(l0.toNat-m)=l0.toNat by omega,show m*r'.sz+(l0.toNat-m)*r'.sz=l0.toNat*r'.sz by rw[← Yg,show m+(l0.toNat-m)=l0.toNat by omega]]at hd3;have hrun:=Fp (w:=S.w) (Fb q2 hE.ti) hsz ho e1 (l:=some l0) (h:=none) hl rfl hcap (by simpa using h0) (by simpa using h2) (by simp);simp only[Zg,Zc,Vq]at hrun
     have hpar:Pa X.P (Gw S (q0+1) 0).O (Gw S (q0+1) 0).w (.tm 0 []) e r' (xs.drop l0.toNat) 0 (.slice (if cap=l0.toNat then ad else ad.map (·.add (l0.toNat*r'.sz))) (xs.length-l0.toNat) (cap-l0.toNat)):=by
      refine⟨hsz,_,_,cs.drop (l0.toNat*r'.sz),b',⟨by rw[Vx],by rw[Vx];omega⟩,?_,?_,hnd.sublist hsub,λ k hkk=>hk k (hsub.subset hkk),λ hn=>?_⟩
      ·rw[Vx,Vx,hclen,Nat.sub_mul]
      ·rw[Wj,Zh,Wj];exact hd3
      ·rw[Vx]at hn;obtain⟨k,o',rfl,hk2,hcs⟩:=hne (by omega);refine⟨k,o'+l0.toNat*r'.sz,?_,hk2,λ j u hu=>?_⟩
       ·rw[if_neg (by omega)];simp[Gv]
       ·rw[Xs]at hu;rw[Yr];exact hcs _ _ hu
     have L2:=D0 (Gw S (q0+1) 0) hf d (K.lt0 hd) (.one (.par e r' (xs.drop l0.toNat) 0)) (.slice (if cap=l0.toNat then ad else ad.map (·.add (l0.toNat*r'.sz))) (xs.length-l0.toNat) (cap-l0.toNat))
     have hso:Fi X.P (Gp (Gw S (q0+1) 0) hf d (.one (.par e r' (xs.drop l0.toNat) 0)) (.slice (if cap=l0.toNat then ad else ad.map (·.add (l0.toNat*r'.sz))) (xs.length-l0.toNat) (cap-l0.toNat))) d (.one (.par e r' (xs.drop l0.toNat) 0)) _:=
      Af.later (P:=X.P) (S:=Gw S (q0+1) 0) (x := .par e r' (xs.drop l0.toNat) 0) (lab := .tm 0 []) (lab' := .pl d []) L2 hpar (λ k hk=>⟨F3 hk (by simp[hf]),rfl⟩)
     have K2:=K1.put hd hf hfok _ _ hso;refine Ac (S:=Gp (Gw S (q0+1) 0) hf d _ _) hrun (by rw[hod];exact K2) ?_;show upd (upd S.g (q0+1) _) d _=_;rw[show ∀ u1 u2,ups A [u1,u2]=ups (ups A [u1]) [u2] from λ _ _=>rfl,A7,A7,← hg];rfl
    ·cases h
 ·cases h
def G2a (hE:Fo X E) (K:Ah X S a) (hg:S.g=get A) {T:TypeId} {x:Operand} {lo hi:Option Operand} {d:Nat} (ho:o.op = .slice T x lo hi none) (hod:o.dst=some d) (hd:d<X.nt) (h:Ai E o A Kc=some r):Er X o a S.w A Kc r:=by
 unfold Ai at h;rw[ho,hod]at h;simp only at h;split at h
 ·rename_i q hpc;obtain⟨hq,h⟩:=cs h;exact⟨_,h,Cfa hE K hg ho hod hd hpc hq⟩
 split at h
 ·rename_i s l u hs hl hu;obtain⟨hq,h⟩:=cs h;obtain⟨hk,h0,h1,h2⟩:=J0 h;have e1:=(Hi hE K hg hs).1;have hr:=Qm (P:=X.P) (w:=S.w) (N4 hq hE.ti) ho e1 (Je hE K hg hl) (Je hE K hg hu) h0 h1 h2;refine It K hg hod hd rfl hr ?_;rw[← hk]
  cases l<;>cases u<;>simp
 ·rename_i y l u hy hs hl hu;have hl:=Je hE K hg hl;have hu:=Je hE K hg hu;obtain⟨pl,hsv⟩:=Ed hE K hg hs;have hlf:Af X.P S (.pl pl []) y (a.eval x):=hsv;split at h
  ·rename_i e r' xs e0 r0 xs0 hsn;have this:Lf.own e r' xs=Lf.own e0 r0 xs0:=hsn
   injection this with i1 i2 i3
   subst i1 i2;cases i3;obtain⟨hq,h⟩:=cs h;have hown:Ch X.P S.O S.w (.pl pl []) e r' xs (a.eval x):=hlf;split at h
   ·-- from its beginning
    obtain⟨hk,h0,h1,h2⟩:=J0 h;refine⟨_,hk,?_⟩
    have hcut:Ua xs none u=xs.take (u.getD xs.length).toNat:=by rw[Ql h2];simp
    rw[hcut];simp only[Zg]at h0 h1;rcases H0 hE K hg hs with⟨t,rfl,ht,hst,het,hok⟩|⟨hnt,y',ey,hy'⟩
    ·obtain⟨K1,g1,_⟩:=Hh K t 0;have hown1:Ch X.P (Gw S t 0).O (Gw S t 0).w (.tm 0 []) e r' xs (a.eval (.tmp t)):=g1 [] (.own e r' xs) _ hok;obtain⟨ad,cap,e1,hc,hspot,hown2⟩:=hown1.take (u.getD xs.length).toNat (by omega);have hrun:=Fp (w:=S.w) (Fb hq hE.ti) hown.top.1 ho e1 hl hu hc (by simp) (by simpa using h1) h2
     have hval:(if cap=((none:Option Int).getD 0).toNat then ad else ad.map (·.add (((none:Option Int).getD 0).toNat*r'.sz)))=ad:=by
      split
      ·rfl
      ·cases ad<;>simp[Addr.add]
     rw[hval]at hrun;simp only[Zg,Pta,Pga]at hrun
     let hf:Nat→List Nat→Option Lab:=λ n q=>if n=0 then some (.pl d q) else none
     have L:=D0 (Gw S t 0) hf d (K.lt0 hd) (.one (.own e r' (xs.take (u.getD xs.length).toNat))) (.slice ad (u.getD xs.length).toNat cap)
     have hso:Fi X.P (Gp (Gw S t 0) hf d (.one (.own e r' (xs.take (u.getD xs.length).toNat))) (.slice ad (u.getD xs.length).toNat cap)) d (.one (.own e r' (xs.take (u.getD xs.length).toNat))) (.slice ad (u.getD xs.length).toNat cap):=
      Af.later (P:=X.P) (x := .own e r' (xs.take (u.getD xs.length).toNat)) (lab := .tm 0 []) (lab' := .pl d []) L hown2 (λ k hk=>⟨F3 hk (by simp[hf]),rfl⟩)
     have K2:=K1.put hd hf (by intro n q p hp;simp only[hf]at hp;split at hp<;>first|(cases hp;exact⟨q,rfl⟩)|cases hp) _ _ hso
     refine Ac (S:=Gp (Gw S t 0) hf d _ _) hrun (by rw[hod];exact K2) ?_;show upd (Gw S t 0).g d _=_;rw[show gone (.tmp t) (.one (.own e r' xs))=[⟨t,false,.one .dead⟩] from rfl,Ya,show ∀ u1 u2,ups A [u1,u2]=ups (ups A [u1]) [u2] from λ _ _=>rfl,A7,A7,← hg];rfl
    ·cases ey
     have hgo:gone x (.one (.own e r' xs))=[]:=by
      unfold gone;split
      ·exact absurd rfl (hnt _)
      ·rfl
     rw[hgo,Wf];obtain⟨ad,cap,e1,hc,hspot,hown2⟩:=Ch.take (hy' (.pl d [])) (u.getD xs.length).toNat (by omega);have hrun:=Fp (w:=S.w) (Fb hq hE.ti) hown.top.1 ho e1 hl hu hc (by simp) (by simpa using h1) h2
     have hval:(if cap=((none:Option Int).getD 0).toNat then ad else ad.map (·.add (((none:Option Int).getD 0).toNat*r'.sz)))=ad:=by
      split
      ·rfl
      ·cases ad<;>simp[Addr.add]
     rw[hval]at hrun;simp only[Zg,Pta,Pga]at hrun
     have hso:Fi X.P (Gp S (λ _ _=>none) d (.one (.own e r' (xs.take (u.getD xs.length).toNat))) (.slice ad (u.getD xs.length).toNat cap)) d (.one (.own e r' (xs.take (u.getD xs.length).toNat))) (.slice ad (u.getD xs.length).toNat cap):=
      Af.later (P:=X.P) (x := .own e r' (xs.take (u.getD xs.length).toNat)) (lab := .pl d []) (lab' := .pl d []) (D0 S (λ _ _=>none) d (K.lt0 hd) _ _) hown2 (λ k hk=>⟨Al (h:=λ _ _=>none) (o := .pl d []) hk (by simp),rfl⟩)
     have K2:=K.put hd (λ _ _=>none) (by simp) _ _ hso;refine Ac (S:=Gp S (λ _ _=>none) d _ _) hrun (by rw[hod];exact K2) ?_;show upd S.g d _=_;rw[A7,← hg]
   ·obtain⟨hk,h0,h1,h2⟩:=J0 h;refine⟨_,hk,?_⟩;rcases H0 hE K hg hs with⟨t,rfl,ht,hst,het,hok⟩|⟨hnt,y',ey,hy'⟩
    ·obtain⟨K1,_,hf⟩:=Nr K (p:=t) hst.symm;obtain⟨K2,g1,_⟩:=Hh K1 t 0;rw[Ae];refine N5 (S:=Gw (frS S t e r' xs) t 0) hE K2 ?_ (u:=a.eval (.tmp t)) rfl rfl ho hod hd hq hl hu h0 h1 h2 ⟨.no,?_⟩
     ·show upd (upd S.g t _) t _=_;rw[show gone (.tmp t) (.one (.own e r' xs))=[⟨t,false,.one .dead⟩] from rfl,A7,← hg];funext k;unfold upd
      split<;>simp[frS]
     ·rw[het];exact(Af.relab (lab' := .tm 5 []) rfl hf).later (lab' := .tm 5 []) (Gn _ t 0) (λ k hk=>⟨(Ec (by simp[hk])).trans hk,rfl⟩) |>.relab rfl
    ·cases ey
     have hgo:gone x (.one (.own e r' xs))=[]:=by
      unfold gone;split
      ·exact absurd rfl (hnt _)
      ·rfl
     rw[hgo,Wf];refine N5 hE K hg rfl rfl ho hod hd hq hl hu h0 h1 h2 ⟨.no,?_⟩;have hown4:Ch X.P S.O S.w .fz e r' xs (a.eval x):=hy' .fz;exact hown4.reads (λ k hk=>hk) (λ k hk=>hk)
  ·rename_i p v e r' xs hsn;obtain⟨hq,h⟩:=cs h;have hal:=Jf hsn (λ e r xs hy=>by cases hy);obtain⟨p',v',e0,hp⟩:=hal;cases e0;have he:a.eval x=S.ph p:=hlf.2 (by rw[hg,hp])
   cases hmv:E.mv d with
   |true=>
    rw[hmv,cond_true]at h;split at h
    ·obtain⟨hk,h0,h1,h2⟩:=J0 h;refine⟨_,hk,?_⟩
     have hcut:Ua xs none u=xs.take (u.getD xs.length).toNat:=by rw[Ql h2];simp
     rw[hcut];simp only[Zg]at h0 h1;obtain⟨K1,g1,_⟩:=Hh K p 0
     have hok:Af X.P S (.pl p []) (.own e r' xs) (S.ph p):=by have:=K.at_ p;rwa [hg,hp]at this
     have hown1:Ch X.P (Gw S p 0).O (Gw S p 0).w (.tm 0 []) e r' xs (a.eval x):=by rw[he];exact g1 [] (.own e r' xs) _ hok
     obtain⟨ad,cap,e1,hc,hspot,hown2⟩:=hown1.take (u.getD xs.length).toNat (by omega);have hrun:=Fp (w:=S.w) (Fb hq hE.ti) hown1.top.1 ho e1 hl hu hc (by simp) (by simpa using h1) h2
     have hval:(if cap=((none:Option Int).getD 0).toNat then ad else ad.map (·.add (((none:Option Int).getD 0).toNat*r'.sz)))=ad:=by
      split
      ·rfl
      ·cases ad<;>simp[Addr.add]
     rw[hval]at hrun;simp only[Zg,Pta,Pga]at hrun
     let hf:Nat→List Nat→Option Lab:=λ n q=>if n=0 then some (.pl d q) else none
     have L:=D0 (Gw S p 0) hf d (K.lt0 hd) (.one (.own e r' (xs.take (u.getD xs.length).toNat))) (.slice ad (u.getD xs.length).toNat cap)
     have hso:Fi X.P (Gp (Gw S p 0) hf d (.one (.own e r' (xs.take (u.getD xs.length).toNat))) (.slice ad (u.getD xs.length).toNat cap)) d (.one (.own e r' (xs.take (u.getD xs.length).toNat))) (.slice ad (u.getD xs.length).toNat cap):=
      Af.later (P:=X.P) (x := .own e r' (xs.take (u.getD xs.length).toNat)) (lab := .tm 0 []) (lab' := .pl d []) L hown2 (λ k hk=>⟨F3 hk (by simp[hf]),rfl⟩)
     have K2:=K1.put hd hf (by intro n q p hp;simp only[hf]at hp;split at hp<;>first|(cases hp;exact⟨q,rfl⟩)|cases hp) _ _ hso
     refine Ac (S:=Gp (Gw S p 0) hf d _ _) hrun (by rw[hod];exact K2) ?_;show upd (Gw S p 0).g d _=_;rw[show ∀ u1 u2,ups A [u1,u2]=ups (ups A [u1]) [u2] from λ _ _=>rfl,A7,A7,← hg];rfl
    ·cases h
   |false=>
    rw[hmv,cond_false]at h
    cases hno:Gd r' with
    |true=>
     rw[hno,cond_true]at h;obtain⟨hk,h0,h1,h2⟩:=J0 h;refine⟨_,hk,?_⟩
     have hco:N3 A (.al p v)=[⟨p,true,.one (.fz e r' xs)⟩]:=by simp[N3,hp]
     obtain⟨K1,_,hf⟩:=Nr K (p:=p) (e:=e) (r:=r') (xs:=xs) (by rw[hg,hp]);rw[hco,Ae];refine N5 (S:=frS S p e r' xs) hE K1 ?_ (u:=S.ph p) he rfl ho hod hd hq hl hu h0 h1 h2 ⟨.no,hf⟩;show upd S.g p _=_;rw[Jc,← hg]
    |false=>
     rw[hno,cond_false]at h;obtain⟨hao,h⟩:=cs h;obtain⟨hk,h0,h1,h2⟩:=J0 h;refine⟨_,hk,?_⟩
     have hpg:S.g p=(v,.one (.own e r' xs)):=by rw[hg,hp]
     have hown:Ch X.P S.O S.w (.pl p []) e r' xs (S.ph p):=by have:=K.at_ p;rw[hpg]at this;exact this
     have hda:=Cda (P:=X.P) (S:=S) hpg hno hao hown;exact Xc hE K hg ho hod hd hq (by rw[he];exact hda) (by rw[hpg]) hl hu h0 h1 h2
  ·rename_i p v pi e r' xs;obtain⟨hq,h⟩:=cs h;simp only[Va]at hq;obtain⟨hk,h0,h1,h2⟩:=J0 h;exact⟨_,hk,Xc hE K hg ho hod hd hq.1 hlf (by rw[hg];exact Vb hq.2) hl hu h0 h1 h2⟩
  ·rename_i e r' xs _ hsn;obtain⟨hq,h⟩:=cs h;obtain⟨hk,h0,h1,h2⟩:=J0 h;obtain⟨lab',hl2⟩:=Kd K hg hlf;rw[hsn]at hl2;exact⟨_,hk,N5 hE K hg rfl rfl ho hod hd hq hl hu h0 h1 h2 ⟨lab',hl2⟩⟩
  ·cases h
 ·cases h
end

end Go.Proofs.Ytbbifgjgneefkaa.Vf
