import Derived.Test.YtbbifgjgneefkaaMaa
import Derived.Laws.AppendOwn
import Derived.Laws.Cells
import Derived.Laws.World
import Derived.Laws.Strings
set_option linter.all false
namespace Go.Proofs.Ytbbifgjgneefkaa.Vf
open Go
open List (length getD)
open Int (toNat)
open Go.IntKind (wrap)
open BitVec (ofInt)
def Va:=@Bool.and_eq_true
def Vb:=@Nat.eq_of_beq_eq_true
def Vc:=@Option.some.injEq
def Vd:=@Nat.le_of_ble_eq_true
def Vg:=@List.mem_append_right
def Vh:=@List.length_cons
def Vi:=@List.length_append
def Vl:=@List.append_assoc
def Vm:=@List.getD_eq_getElem?_getD
def Vo:=@Nat.le_refl
def Vp:=@List.getElem?_eq_getElem
def Vq:=@List.mem_append_left
def Vs:=@Result.andThen_ok
def Vt:=@Sem.run_bind
def Vu:=@Prod.mk.injEq
def Vy:=@Nat.zero_add
def Wa:=@Bool.false_eq_true
def Wb:=@List.getElem?_take
def We:=@Array.getD_eq_getD_getElem?
def Wf:=@Nat.lt_of_lt_of_le
def Wg:=@Bool.not_eq_true'
def Wh:=@Sem.run_pure
def Wj:=@List.drop_zero
def Wk:=@List.drop_drop
def Wl:=@List.nil_append
def Wm:=@List.cons.injEq
def Wn:=@Nat.zero_le
def Wo:=@List.eq_nil_of_length_eq_zero
def Wp:=@List.getElem?_drop
def Wq:=@List.singleton_append
def Ya:=@List.map_cons
def Yc:=@List.append_nil
def Yf:=@Nat.add_mul
def Yi:=@Nat.one_mul
def Yj:=@List.length_map
def Yn:=@Nat.le_antisymm
def Yo:=@Nat.le_trans
def Yq:=@Nat.add_assoc
def Yu:=@Array.getElem?_toList
def Yv:=@List.drop_left
def Zd:=@List.take_length_add_append
def Ze:=@Nat.add_comm
def Zg:=@Nat.zero_mul
def Zm:=@List.sublist_append_right
def Zq:=@Array.getElem?_setIfInBounds_ne
def Jva:=@List.take_zero
def K0a:=@List.take_left
def K2a:=@List.replicate_succ
def K3a:=@List.sublist_append_left
def Kaa:=@List.Sublist.refl
def Kba:=@List.ext_getElem?
def Kpa:=@Iff.rfl
def L7a:=@Nat.sub_self

def Bj (w:World) (k o:Nat) (cs:List Value):Prop:=∀ j u,cs[j]? = some u→w.cell? ⟨k,o+j,none⟩=some u
def Rows {α:Type} (R:α→List Value→Prop):List α→List Value→Prop
 |[],cs=>cs=[]
 |x::xs,cs=>∃ c d,cs=c++d∧R x c∧Rows R xs d
def La (P:Program) (e:TypeId) (n:Nat):Prop:=(P.info? e).map (λ i=>i.size)=some n
def Gc {α:Type} (G:Nat→Prop) (w:World) (R:α→List Value→Prop) (xs:List α) (v:Value):Prop:=
 ∃ a cap cs,v = .slice a xs.length cap∧xs.length≤cap∧Rows R xs cs∧(xs≠[]→∃ k o,a=some ⟨k,o,none⟩∧G k∧Bj w k o cs)
def Ty.rep (P:Program) (G:Nat→Prop) (w:World):(t:Ty)→t.den→List Value→Prop
 |.i k,n,vs=>vs=[.int k n]
 |.b,x,vs=>vs=[.bool x]
 |.s,x,vs=>vs=[.string x]
 |.sl e r,xs,vs=>∃ v,vs=[v]∧La P e r.sz∧Gc G w (λ x c=>r.rep P G w x c) xs v
 |.ow e r,xs,vs=>∃ v,vs=[v]∧La P e r.sz∧Gc G w (λ x c=>r.rep P G w x c) xs v
 |.pr x y,p,vs=>∃ c d,vs=c++d∧x.rep P G w p.1 c∧y.rep P G w p.2 d
section
variable {P:Program} {G G':Nat→Prop} {w w':World} {α:Type}
def Pa {k:Nat} (h:w'.heap[k]? = w.heap[k]?) (o:Nat):w'.cell? ⟨k,o,none⟩=w.cell? ⟨k,o,none⟩:=by
 simp[World.cell?,h]
def Bj.mono {k o:Nat} {cs:List Value} (h:Bj w k o cs) (hs:w'.heap[k]? = w.heap[k]?):Bj w' k o cs:=
 λ j u hu=>(Pa hs _).trans (h j u hu)
def Rows.mono {R R':α→List Value→Prop} (hR:∀ x c,R x c→R' x c):∀ {xs:List α} {cs:List Value},Rows R xs cs→Rows R' xs cs
 |[],_,h=>h
 |_::_,_,⟨c,d,e,h1,h2⟩=>⟨c,d,e,hR _ _ h1,h2.mono hR⟩
def Gc.mono {R R':α→List Value→Prop} {xs:List α} {v:Value} (h:Gc G w R xs v) (hR:∀ x c,R x c→R' x c) (hG:∀ k,G k→G' k)
  (hw:∀ k,G k→w'.heap[k]? = w.heap[k]?):Gc G' w' R' xs v:=by
 obtain⟨a,cap,cs,e,hc,hr,hx⟩:=h;refine⟨a,cap,cs,e,hc,hr.mono hR,λ hn=>?_⟩;obtain⟨k,o,ea,hk,hcs⟩:=hx hn;exact⟨k,o,ea,hG k hk,hcs.mono (hw k hk)⟩
def Ty.rep_mono (hG:∀ k,G k→G' k) (hw:∀ k,G k→w'.heap[k]? = w.heap[k]?):∀ (t:Ty) (x:t.den) (vs:List Value),t.rep P G w x vs→t.rep P G' w' x vs
 |.i _,_,_,h=>h
 |.b,_,_,h=>h
 |.s,_,_,h=>h
 |.sl _ r,_,_,⟨v,e,hs,h⟩=>⟨v,e,hs,h.mono (λ x c=>Ty.rep_mono hG hw r x c) hG hw⟩
 |.ow _ r,_,_,⟨v,e,hs,h⟩=>⟨v,e,hs,h.mono (λ x c=>Ty.rep_mono hG hw r x c) hG hw⟩
 |.pr x y,p,_,⟨c,d,e,h1,h2⟩=>⟨c,d,e,Ty.rep_mono hG hw x p.1 c h1,Ty.rep_mono hG hw y p.2 d h2⟩
def Ty.rep_len:∀ (t:Ty) (x:t.den) (vs:List Value),t.rep P G w x vs→vs.length=t.sz
 |.i _,_,_,h=>by subst h;rfl
 |.b,_,_,h=>by subst h;rfl
 |.s,_,_,h=>by subst h;rfl
 |.sl _ _,_,_,⟨_,e,_⟩=>by subst e;rfl
 |.ow _ _,_,_,⟨_,e,_⟩=>by subst e;rfl
 |.pr x y,p,_,⟨c,d,e,h1,h2⟩=>by
  subst e;rw[Vi,Ty.rep_len x p.1 c h1,Ty.rep_len y p.2 d h2];rfl
def Rows.len {R:α→List Value→Prop} {n:Nat} (hn:∀ x c,R x c→c.length=n):∀ {xs:List α} {cs:List Value},Rows R xs cs→cs.length=xs.length*n
 |[],_,h=>by simp only[Rows]at h;subst h;simp
 |_::_,_,⟨c,d,e,h1,h2⟩=>by
  subst e;rw[Vi,hn _ _ h1,h2.len hn,Vh,Yf,Yi,Ze]
def Rows.get {R:α→List Value→Prop} {n:Nat} (hn:∀ x c,R x c→c.length=n):∀ {xs:List α} {cs:List Value} (_:Rows R xs cs) (i:Nat) (x:α),xs[i]? = some x→R x ((cs.drop (i*n)).take n)
 |[],_,_,i,x,hx=>by simp at hx
 |y::ys,_,⟨c,d,e,h1,h2⟩,0,x,hx=>by
  simp at hx;subst hx e;have:=hn _ _ h1;simp only[Zg,Wj];rw[← this,K0a];exact h1
 |y::ys,_,⟨c,d,e,h1,h2⟩,i+1,x,hx=>by
  subst e;have hl:=hn _ _ h1;rw[show (i+1)*n=c.length+i*n by rw[hl,Yf,Yi,Ze],← Wk,Yv];exact h2.get hn i x (by simpa using hx)
def Rows.append {R:α→List Value→Prop}:∀ {xs ys:List α} {cs ds:List Value},Rows R xs cs→Rows R ys ds→Rows R (xs++ys) (cs++ds)
 |[],_,_,_,h1,h2=>by simp only[Rows]at h1;subst h1;exact h2
 |_::_,_,_,_,⟨c,d,e,h,h'⟩,h2=>by subst e;exact⟨c,_,by rw[Vl],h,h'.append h2⟩
def Rows.set {R:α→List Value→Prop} {n:Nat} (hn:∀ x c,R x c→c.length=n):∀ {xs:List α} {cs:List Value} (_:Rows R xs cs) (i:Nat) (x:α) (c:List Value),i<xs.length→R x c→
  Rows R (xs.set i x) (cs.take (i*n)++c++cs.drop (i*n+n))
 |[],_,_,i,x,c,hi,_=>by simp at hi
 |y::ys,_,⟨c0,d,e,h1,h2⟩,0,x,c,_,hc=>by
  subst e;have hl:=hn _ _ h1;refine⟨c,d,?_,hc,h2⟩;simp only[Zg,Jva,Wl,Vy,← hl,Yv]
 |y::ys,_,⟨c0,d,e,h1,h2⟩,i+1,x,c,hi,hc=>by
  subst e;have hl:=hn _ _ h1;refine⟨c0,_,?_,h1,h2.set hn i x c (by simpa using hi) hc⟩
  have e1:(i+1)*n=c0.length+i*n:=by rw[hl,Yf,Yi,Ze]
  rw[e1,Zd,Yq,← Wk,Yv];simp[Vl]
def Rows.replicate {R:α→List Value→Prop} {x:α} {c:List Value} (h:R x c):∀ n,Rows R (List.replicate n x) (List.replicate n c).flatten
 |0=>by simp[Rows]
 |n+1=>⟨c,_,by simp[K2a],h,Rows.replicate h n⟩
def Rows.take {R:α→List Value→Prop} {n:Nat} (hn:∀ x c,R x c→c.length=n):∀ {xs:List α} {cs:List Value} (_:Rows R xs cs) (k:Nat),Rows R (xs.take k) (cs.take (k*n))
 |[],_,h,k=>by simp only[Rows]at h;subst h;simp[Rows]
 |_::_,_,⟨c,d,e,h1,h2⟩,0=>by simp[Rows]
 |_::_,_,⟨c,d,e,h1,h2⟩,k+1=>by
  subst e;have hl:=hn _ _ h1;refine⟨c,_,?_,h1,h2.take hn k⟩;rw[show (k+1)*n=c.length+k*n by rw[hl,Yf,Yi,Ze],Zd]
def Rows.drop {R:α→List Value→Prop} {n:Nat} (hn:∀ x c,R x c→c.length=n):∀ {xs:List α} {cs:List Value} (_:Rows R xs cs) (k:Nat),Rows R (xs.drop k) (cs.drop (k*n))
 |[],_,h,k=>by simp only[Rows]at h;subst h;simp[Rows]
 |_::_,_,h@⟨c,d,e,h1,h2⟩,0=>by simpa using h
 |_::_,_,⟨c,d,e,h1,h2⟩,k+1=>by
  subst e;have hl:=hn _ _ h1
  have e1:List.drop ((k+1)*n) (c++d)=List.drop (k*n) d:=by
   rw[show (k+1)*n=c.length+k*n by rw[hl,Yf,Yi,Ze],← Wk,Yv]
  rw[e1];exact h2.drop hn k
def E9 (P:Program) (G:Nat→Prop) (w:World):Lf→Value→Prop
 |.sc v,u=>u=v∧Qu v=true
 |.fz e r xs,u=>(Ty.sl e r).rep P G w xs [u]
 |_,_=>False
inductive Ew {β γ:Type} (R:β→γ→Prop):List β→List γ→Prop
 |nil:Ew R [] []
 |cons {x:β} {y:γ} {xs:List β} {ys:List γ}:R x y→Ew R xs ys→Ew R (x::xs) (y::ys)
def Ew.append {β γ:Type} {R:β→γ→Prop} {xs xs':List β} {ys ys':List γ} (h:Ew R xs ys) (h':Ew R xs' ys'):Ew R (xs++xs') (ys++ys'):=by
 induction h with
 |nil=>exact h'
 |cons a _ ih=>exact .cons a ih
def Ew.len {β γ:Type} {R:β→γ→Prop} {xs:List β} {ys:List γ} (h:Ew R xs ys):ys.length=xs.length:=by
 induction h with
 |nil=>rfl
 |cons _ _ ih=>simp[ih]
def Ew.imp {β γ:Type} {R R':β→γ→Prop} {xs:List β} {ys:List γ} (h:Ew R xs ys) (hi:∀ x y,R x y→R' x y):Ew R' xs ys:=by
 induction h with
 |nil=>exact .nil
 |cons a _ ih=>exact .cons (hi _ _ a) ih
def Ew.drop {β γ:Type} {R:β→γ→Prop} {xs:List β} {ys:List γ} (h:Ew R xs ys):∀ n,Ew R (xs.drop n) (ys.drop n):=by
 induction h with
 |nil=>intro n;cases n<;>exact .nil
 |cons a h ih=>intro n;cases n with
  |zero=>exact .cons a h
  |succ n=>exact ih n
def Ew.take {β γ:Type} {R:β→γ→Prop} {xs:List β} {ys:List γ} (h:Ew R xs ys):∀ n,Ew R (xs.take n) (ys.take n):=by
 induction h with
 |nil=>intro n;cases n<;>exact .nil
 |cons a h ih=>intro n;cases n with
  |zero=>exact .nil
  |succ n=>exact .cons a (ih n)
def Ni:∀ (t:Ty) (x:t.den),(lvs t x).length=t.sz
 |.i _,_=>rfl
 |.b,_=>rfl
 |.s,_=>rfl
 |.sl _ _,_=>rfl
 |.ow _ _,_=>rfl
 |.pr x y,p=>by
  show (lvs x p.1++lvs y p.2).length=x.sz+y.sz;rw[Vi,Ni x p.1,Ni y p.2]
def Gd:∀ (t:Ty) (x:t.den) (vs:List Value),t.rep P G w x vs→Ew (E9 P G w) (lvs t x) vs
 |.i _,_,_,h=>by subst h;exact .cons ⟨rfl,rfl⟩ .nil
 |.b,_,_,h=>by subst h;exact .cons ⟨rfl,rfl⟩ .nil
 |.s,_,_,h=>by subst h;exact .cons ⟨rfl,rfl⟩ .nil
 |.sl _ _,_,_,⟨_,e,h⟩=>by subst e;exact .cons ⟨_,rfl,h⟩ .nil
 |.ow _ _,_,_,⟨_,e,h⟩=>by subst e;exact .cons ⟨_,rfl,h⟩ .nil
 |.pr x y,p,_,⟨c,d,e,h1,h2⟩=>by subst e;exact(Gd x p.1 c h1).append (Gd y p.2 d h2)
def Lb {α β:Type} (h:α=β) (xs:List α):cast (congrArg List h) xs=xs.map (cast h):=by
 subst h;show xs=List.map (λ x=>x) xs;simp
def Rows.map {β:Type} {R:α→List Value→Prop} {R':β→List Value→Prop} {f:α→β} (hR:∀ x c,R x c→R' (f x) c):∀ {xs:List α} {cs:List Value},Rows R xs cs→Rows R' (xs.map f) cs
 |[],_,h=>h
 |_::_,_,⟨c,d,e,h1,h2⟩=>⟨c,d,e,hR _ _ h1,h2.map hR⟩
def Rows.unmap {β:Type} {R:α→List Value→Prop} {R':β→List Value→Prop} {f:α→β} (hR:∀ x c,R' (f x) c→R x c):∀ {xs:List α} {cs:List Value},Rows R' (xs.map f) cs→Rows R xs cs
 |[],_,h=>h
 |_::_,_,⟨c,d,e,h1,h2⟩=>⟨c,d,e,hR _ _ h1,h2.unmap hR⟩
def Er:∀ t:Ty,(shp t).sz=t.sz
 |.i _=>rfl
 |.b=>rfl
 |.s=>rfl
 |.sl _ _=>rfl
 |.ow _ _=>rfl
 |.pr x y=>by show (shp x).sz+(shp y).sz=x.sz+y.sz;rw[Er x,Er y]
def Gc.map {β:Type} {R:α→List Value→Prop} {R':β→List Value→Prop} {f:α→β} {xs:List α} {v:Value} (hR:∀ x c,R x c↔R' (f x) c):Gc G w R xs v↔Gc G w R' (xs.map f) v:=by
 constructor
 ·rintro⟨a,cap,cs,e,hc,hr,hx⟩;exact⟨a,cap,cs,by rw[Yj];exact e,by rw[Yj];exact hc,hr.map (λ x c=>(hR x c).1),λ hn=>hx (by intro e;subst e;simp at hn)⟩
 ·rintro⟨a,cap,cs,e,hc,hr,hx⟩;rw[Yj]at e hc;exact⟨a,cap,cs,e,hc,hr.unmap (λ x c=>(hR x c).2),λ hn=>hx (by intro e;rw[List.map_eq_nil_iff]at e;exact hn e)⟩
def Bka {α α' β β':Type} (h1:α=α') (h2:β=β') (h:(α×β)=(α'×β')) (x:α×β):(cast h x).1=cast h1 x.1∧(cast h x).2=cast h2 x.2:=by
 subst h1 h2;exact⟨rfl,rfl⟩
def Jc:∀ (t:Ty) (x:t.den) (vs:List Value),t.rep P G w x vs↔(shp t).rep P G w (cast (Db t).symm x) vs
 |.i _,_,_=>Kpa
 |.b,_,_=>Kpa
 |.s,_,_=>Kpa
 |.sl e r,xs,vs=>by
  have hc:cast (Db (.sl e r)).symm xs=List.map (cast (Db r).symm) xs:=Lb (Db r).symm xs;rw[hc];show (∃ v,vs=[v]∧La P e r.sz∧Gc G w (λ x c=>r.rep P G w x c) xs v)↔(∃ v,vs=[v]∧La P e (shp r).sz∧Gc G w (λ x c=>(shp r).rep P G w x c) _ v);rw[Er r];exact exists_congr λ v=>and_congr_right λ _=>and_congr_right λ _=>Gc.map (λ x c=>Jc r x c)
 |.ow e r,xs,vs=>by
  have hc:cast (Db (.ow e r)).symm xs=List.map (cast (Db r).symm) xs:=Lb (Db r).symm xs;rw[hc];show (∃ v,vs=[v]∧La P e r.sz∧Gc G w (λ x c=>r.rep P G w x c) xs v)↔(∃ v,vs=[v]∧La P e (shp r).sz∧Gc G w (λ x c=>(shp r).rep P G w x c) _ v);rw[Er r];exact exists_congr λ v=>and_congr_right λ _=>and_congr_right λ _=>Gc.map (λ x c=>Jc r x c)
 |.pr x y,p,vs=>by
  obtain⟨e1,e2⟩:=Bka (Db x).symm (Db y).symm (Db (.pr x y)).symm p;show (∃ c d,vs=c++d∧x.rep P G w p.1 c∧y.rep P G w p.2 d)↔(∃ c d,vs=c++d∧(shp x).rep P G w (cast (Db (.pr x y)).symm p).1 c∧(shp y).rep P G w (cast (Db (.pr x y)).symm p).2 d)
  have key:∀ (q:(shp x).den×(shp y).den),q.1=cast (Db x).symm p.1→q.2=cast (Db y).symm p.2→((∃ c d,vs=c++d∧x.rep P G w p.1 c∧y.rep P G w p.2 d)↔∃ c d,vs=c++d∧(shp x).rep P G w q.1 c∧(shp y).rep P G w q.2 d):=by
   intro q h1 h2;rw[h1,h2];exact exists_congr λ c=>exists_congr λ d=>and_congr_right λ _=>and_congr (Jc x p.1 c) (Jc y p.2 d)
  exact key _ e1 e2
def Gja {t u:Ty} (h:u=t) (h2:u.den=t.den) (x:u.den) (vs:List Value):u.rep P G w x vs↔t.rep P G w (cast h2 x) vs:=by
 subst h;exact Kpa
def X5 {t u:Ty} (h:shp u=shp t) (x:u.den) (vs:List Value):u.rep P G w x vs↔t.rep P G w (cast (Sh h) x) vs:=by
 rw[Jc u x vs,Jc t _ vs,Gja h (congrArg Ty.den h) _ vs];simp only[cast_cast]
def Jd {r r':Ty} {xs:List r'.den} {ys:List r.den} (h:I0 r r' xs=some ys):∃ e:shp r'=shp r,ys=xs.map (cast (Sh e)):=by
 unfold I0 at h;split at h
 ·rename_i e;simp only[Vc]at h;exact⟨e,by rw[← h];exact Lb (Sh e) xs⟩
 ·cases h
def Mu {r r':Ty} {xs:List r'.den} {ys:List r.den} {cs:List Value} (h:I0 r r' xs=some ys) (hr:Rows (λ x c=>r'.rep P G w x c) xs cs):Rows (λ x c=>r.rep P G w x c) ys cs∧ys.length=xs.length:=by
 obtain⟨e,rfl⟩:=Jd h;exact⟨hr.map (λ x c hx=>(X5 e x c).1 hx),by rw[Yj]⟩
def Ii {r r':Ty} {e:TypeId} {xs:List r'.den} {ys:List r.den} {vs:List Value} (h:I0 r r' xs=some ys) (hr:(Ty.sl e r').rep P G w xs vs):(Ty.sl e r).rep P G w ys vs:=by
 obtain⟨e1,rfl⟩:=Jd h;obtain⟨v,ev,hs,hr⟩:=hr
 have hsz:r'.sz=r.sz:=by rw[← Er r',e1,Er r]
 exact⟨v,ev,by rw[← hsz];exact hs,(Gc.map (λ x c=>X5 e1 x c)).1 hr⟩
def Mv {r r':Ty} {xs:List r'.den} {ys:List r.den} (h:Ht r r' xs=some ys):(∃ e:r'=r,ys=e ▸ xs)∨(shp r'=shp r∧xs=[]∧ys=[]):=by
 unfold Ht at h;split at h
 ·rename_i e;exact .inl ⟨e,by simpa using h.symm⟩
 ·split at h
  ·rename_i e;split at h
   ·simp only[Vc]at h;exact .inr ⟨e,rfl,h.symm⟩
   ·cases h
  ·cases h
def Eha:∀ (t:Ty) (l l':List Lf) (x:t.den) (us:List Value),mkT t l=some (x,l')→Ew (E9 P G w) l us→
  ∃ vs ws,us=vs++ws∧t.rep P G w x vs∧Ew (E9 P G w) l' ws:=by
 intro t
 induction t with
 |i k=>
  intro l l' x us h hl
  cases hl with
  |nil=>simp[mkT]at h
  |@cons y u ys us' hy hys=>
   cases y<;>first|(simp[mkT]at h;done)|skip
   rename_i v
   cases v<;>first|(simp[mkT]at h;done)|skip
   rename_i k' n;simp only[mkT]at h
   by_cases hk:k=k'
   ·subst hk;simp at h;obtain⟨rfl,rfl⟩:=h;exact⟨[u],us',rfl,by rw[hy.1];rfl,hys⟩
   ·simp[hk]at h
 |b=>
  intro l l' x us h hl
  cases hl with
  |nil=>simp[mkT]at h
  |@cons y u ys us' hy hys=>
   cases y<;>first|(simp[mkT]at h;done)|skip
   rename_i v
   cases v<;>first|(simp[mkT]at h;done)|skip
   simp[mkT]at h;obtain⟨rfl,rfl⟩:=h;exact⟨[u],us',rfl,by rw[hy.1];rfl,hys⟩
 |s=>
  intro l l' x us h hl
  cases hl with
  |nil=>simp[mkT]at h
  |@cons y u ys us' hy hys=>
   cases y<;>first|(simp[mkT]at h;done)|skip
   rename_i v
   cases v<;>first|(simp[mkT]at h;done)|skip
   simp[mkT]at h;obtain⟨rfl,rfl⟩:=h;exact⟨[u],us',rfl,by rw[hy.1];rfl,hys⟩
 |sl e r _=>
  intro l l' x us h hl
  cases hl with
  |nil=>simp[mkT]at h
  |@cons y u ys us' hy hys=>
   cases y<;>first|(simp[mkT]at h;done)|exact hy.elim|skip
   rename_i e' r' xs;simp only[mkT]at h;cases he:Nat.beq e e'
   ·rw[he]at h;simp at h
   rw[he]at h;simp only[cond_true]at h;split at h
   ·rename_i zs hz
    have:e=e':=by simpa using he
    subst this;simp at h;obtain⟨rfl,rfl⟩:=h;exact⟨[u],us',rfl,Ii hz hy,hys⟩
   ·cases h
 |ow e r _=>
  intro l l' x us h hl
  cases hl with
  |nil=>simp[mkT]at h
  |@cons y u ys us' hy hys=>
   cases y<;>first|(simp[mkT]at h;done)|exact hy.elim
 |pr x y ihx ihy=>
  intro l l' p us h hl;simp only[mkT]at h;split at h
  ·rename_i a l1 h1;split at h
   ·rename_i b l2 h2;simp at h;obtain⟨rfl,rfl⟩:=h;obtain⟨vs,ws,rfl,r1,hw1⟩:=ihx _ _ _ _ h1 hl;obtain⟨vs2,ws2,rfl,r2,hw2⟩:=ihy _ _ _ _ h2 hw1;exact⟨vs++vs2,ws2,by rw[Vl],⟨vs,vs2,rfl,r1,r2⟩,hw2⟩
   ·cases h
  ·cases h
def Lc {t:Ty} {l:List Lf} {x:t.den} {us:List Value} (h:mkW t l=some x) (hl:Ew (E9 P G w) l us):t.rep P G w x us:=by
 unfold mkW at h;split at h
 ·rename_i y hy;simp at h;subst h;obtain⟨vs,ws,rfl,hr,hw⟩:=Eha _ _ _ _ _ hy hl;cases hw;rw[Yc];exact hr
 ·cases h
def E9.mono {x:Lf} {u:Value} (h:E9 P G w x u) (hG:∀ k,G k→G' k) (hw:∀ k,G k→w'.heap[k]? = w.heap[k]?):E9 P G' w' x u:=by
 cases x<;>first|exact h|exact Ty.rep_mono hG hw _ _ _ h
end
def Bc {α:Type} (R:α→List Value→List Nat→Prop):List α→List Value→List Nat→Prop
 |[],cs,bs=>cs=[]∧bs=[]
 |x::xs,cs,bs=>∃ c d b1 b2,cs=c++d∧bs=b1++b2∧R x c b1∧Bc R xs d b2
def Ty.dep (P:Program) (G:Nat→Prop) (w:World):(t:Ty)→t.den→List Value→List Nat→Prop
 |.i k,n,vs,bs=>vs=[.int k n]∧bs=[]
 |.b,x,vs,bs=>vs=[.bool x]∧bs=[]
 |.s,x,vs,bs=>vs=[.string x]∧bs=[]
 |.sl e r,xs,vs,bs=>(Ty.sl e r).rep P G w xs vs∧bs=[]
 |.ow e r,xs,vs,bs=>∃ v cs b2,vs=[v]∧La P e r.sz∧w.ownsRow 0 e r.sz v xs.length cs∧Bc (λ x c b=>r.dep P G w x c b) xs cs b2∧bs=v.ownBlock.toList++b2
 |.pr x y,p,vs,bs=>∃ c d b1 b2,vs=c++d∧bs=b1++b2∧x.dep P G w p.1 c b1∧y.dep P G w p.2 d b2
section
variable {P:Program} {G G':Nat→Prop} {w w':World} {α:Type}
def H0 {w w':World} {e n m:Nat} {cs:List Value} {u:Value} (h:w.ownsRow 0 e n u m cs) (hk:∀ k,u.ownBlock=some k→w'.heap[k]? = w.heap[k]?):w'.ownsRow 0 e n u m cs:=by
 refine⟨h.1,?_⟩;rcases h.2 with hn|⟨g,cap,cur,rfl,hb,hg,rest⟩
 ·exact .inl hn
 ·exact .inr ⟨g,cap,cur,rfl,hb,(hk g rfl).trans hg,rest⟩
def Bz {w:World} {e n m:Nat} {cs:List Value} {u:Value} (h:w.ownsRow 0 e n u m cs):
  (u = .slice none 0 0∧m=0∧cs=[])∨∃ k cap cur,u = .slice (some ⟨k,0,none⟩) m cap∧w.heap[k]? = some (.cells cur e (0,0))∧m≤cap∧cap≤maxLen∧cur.size=cap*n∧cur.toList.take (m*n)=cs:=by
 rcases h.2 with⟨e1,e2⟩|⟨k,cap,cur,e1,_,e2,e3,e4,e5,e6⟩
 ·refine .inl ⟨e1,e2,?_⟩;have:=h.1;rw[e2,Zg]at this;exact Wo this
 ·exact .inr ⟨k,cap,cur,e1,e2,e3,e4,e5,e6⟩
def Dj {w:World} {k:Nat} {cur:Array Value} {e:TypeId} {f:Nat×Nat} {cs:List Value} {n:Nat} (h:w.heap[k]? = some (.cells cur e f)) (ht:cur.toList.take n=cs):Bj w k 0 cs:=by
 intro j u hu;subst ht;rw[Wb]at hu;split at hu
 ·simp[World.cell?,h]
  simpa using hu
 ·cases hu
def Bc.mono {R R':α→List Value→List Nat→Prop}:∀ {xs:List α} {cs:List Value} {bs:List Nat},(∀ x c b,(∀ k∈b,k∈bs)→R x c b→R' x c b)→Bc R xs cs bs→Bc R' xs cs bs
 |[],_,_,_,h=>h
 |_::_,_,_,hR,⟨c,d,b1,b2,e1,e2,h1,h2⟩=>⟨c,d,b1,b2,e1,e2,hR _ _ _ (λ k hk=>by rw[e2];exact Vq _ hk) h1,h2.mono (λ x c b hb h=>hR x c b (λ k hk=>by rw[e2];exact Vg _ (hb k hk)) h)⟩
def Ty.dep_mono (hG:∀ k,G k→G' k) (hw:∀ k,G k→w'.heap[k]? = w.heap[k]?):∀ (t:Ty) (x:t.den) (vs:List Value) (bs:List Nat),(∀ k∈bs,w'.heap[k]? = w.heap[k]?)→t.dep P G w x vs bs→t.dep P G' w' x vs bs
 |.i _,_,_,_,_,h=>h
 |.b,_,_,_,_,h=>h
 |.s,_,_,_,_,h=>h
 |.sl e r,xs,vs,_,_,⟨h,hb⟩=>⟨Ty.rep_mono hG hw (.sl e r) xs vs h,hb⟩
 |.ow _ r,_,_,bs,hb,⟨v,cs,b2,e,hs,ho,hd,eb⟩=>⟨v,cs,b2,e,hs,H0 ho (λ k hk=>hb k (by rw[eb,hk];simp)),hd.mono (λ x c b hbb h=>Ty.dep_mono hG hw r x c b (λ k hk=>hb k (by rw[eb];exact Vg _ (hbb k hk))) h),eb⟩
 |.pr x y,p,_,bs,hb,⟨c,d,b1,b2,e,eb,h1,h2⟩=>⟨c,d,b1,b2,e,eb,Ty.dep_mono hG hw x p.1 c b1 (λ k hk=>hb k (by rw[eb];exact Vq _ hk)) h1,Ty.dep_mono hG hw y p.2 d b2 (λ k hk=>hb k (by rw[eb];exact Vg _ hk)) h2⟩
def Bc.rows {R:α→List Value→List Nat→Prop} {R':α→List Value→Prop}:∀ {xs:List α} {cs:List Value} {bs:List Nat},(∀ x c b,(∀ k∈b,k∈bs)→R x c b→R' x c)→Bc R xs cs bs→Rows R' xs cs
 |[],_,_,_,h=>h.1
 |_::_,_,_,hR,⟨c,d,b1,b2,e1,e2,h1,h2⟩=>⟨c,d,e1,hR _ _ _ (λ k hk=>by rw[e2];exact Vq _ hk) h1,h2.rows (λ x c b hb h=>hR x c b (λ k hk=>by rw[e2];exact Vg _ (hb k hk)) h)⟩
def Ty.dep_rep (hG:∀ k,G k→G' k):∀ (t:Ty) (x:t.den) (vs:List Value) (bs:List Nat),(∀ k∈bs,G' k)→t.dep P G w x vs bs→t.rep P G' w x vs
 |.i _,_,_,_,_,h=>h.1
 |.b,_,_,_,_,h=>h.1
 |.s,_,_,_,_,h=>h.1
 |.sl e r,xs,vs,_,_,⟨h,_⟩=>Ty.rep_mono hG (λ _ _=>rfl) (.sl e r) xs vs h
 |.ow e r,xs,_,bs,hb,⟨v,cs,b2,ev,hs,ho,hd,eb⟩=>by
  have hr:Rows (λ x c=>r.rep P G' w x c) xs cs:=hd.rows (λ x c b hbb h=>Ty.dep_rep hG r x c b (λ k hk=>hb k (by rw[eb];exact Vg _ (hbb k hk))) h);refine⟨v,ev,hs,?_⟩;rcases Bz ho with⟨rfl,hm,rfl⟩|⟨k,cap,cur,rfl,hg,hc,_,_,ht⟩
  ·refine⟨none,0,[],?_,by omega,hr,λ hn=>?_⟩
   ·rw[hm]
   ·exact absurd (Wo hm) hn
  ·exact⟨_,cap,cs,rfl,hc,hr,λ _=>⟨k,0,rfl,hb k (by rw[eb];simp[Value.ownBlock]),Dj hg ht⟩⟩
 |.pr x y,p,_,bs,hb,⟨c,d,b1,b2,e,eb,h1,h2⟩=>⟨c,d,e,Ty.dep_rep hG x p.1 c b1 (λ k hk=>hb k (by rw[eb];exact Vq _ hk)) h1,Ty.dep_rep hG y p.2 d b2 (λ k hk=>hb k (by rw[eb];exact Vg _ hk)) h2⟩
def Ty.dep_flat:∀ (t:Ty) (x:t.den) (vs:List Value) (bs:List Nat),Ei t=true→(t.dep P G w x vs bs↔t.rep P G w x vs∧bs=[])
 |.i _,_,_,_,_=>Kpa
 |.b,_,_,_,_=>Kpa
 |.s,_,_,_,_=>Kpa
 |.sl _ _,_,_,_,_=>Kpa
 |.ow _ _,_,_,_,h=>by simp[Ei]at h
 |.pr x y,p,vs,bs,h=>by
  simp only[Ei,Va]at h;constructor
  ·rintro⟨c,d,b1,b2,e,eb,h1,h2⟩;obtain⟨r1,rfl⟩:=(Ty.dep_flat x p.1 c b1 h.1).1 h1;obtain⟨r2,rfl⟩:=(Ty.dep_flat y p.2 d b2 h.2).1 h2;exact⟨⟨c,d,e,r1,r2⟩,eb⟩
  ·rintro⟨⟨c,d,e,r1,r2⟩,rfl⟩;exact⟨c,d,[],[],e,rfl,(Ty.dep_flat x p.1 c [] h.1).2 ⟨r1,rfl⟩,(Ty.dep_flat y p.2 d [] h.2).2 ⟨r2,rfl⟩⟩
def Bc.flat {R:α→List Value→List Nat→Prop} {R':α→List Value→Prop} (hR:∀ x c b,R x c b↔R' x c∧b=[]):∀ {xs:List α} {cs:List Value} {bs:List Nat},Bc R xs cs bs↔Rows R' xs cs∧bs=[]
 |[],_,_=>Kpa
 |x::xs,cs,bs=>by
  constructor
  ·rintro⟨c,d,b1,b2,e,eb,h1,h2⟩;obtain⟨r1,rfl⟩:=(hR x c b1).1 h1;obtain⟨r2,rfl⟩:=(Bc.flat hR).1 h2;exact⟨⟨c,d,e,r1,r2⟩,eb⟩
  ·rintro⟨⟨c,d,e,r1,r2⟩,rfl⟩;exact⟨c,d,[],[],e,rfl,(hR x c []).2 ⟨r1,rfl⟩,(Bc.flat hR).2 ⟨r2,rfl⟩⟩
def Ty.dep_len:∀ (t:Ty) (x:t.den) (vs:List Value) (bs:List Nat),t.dep P G w x vs bs→vs.length=t.sz
 |.i _,_,_,_,h=>by obtain⟨rfl,_⟩:=h;rfl
 |.b,_,_,_,h=>by obtain⟨rfl,_⟩:=h;rfl
 |.s,_,_,_,h=>by obtain⟨rfl,_⟩:=h;rfl
 |.sl e r,xs,vs,_,h=>Ty.rep_len (.sl e r) xs vs h.1
 |.ow _ _,_,_,_,⟨_,_,_,e,_⟩=>by subst e;rfl
 |.pr x y,p,_,_,⟨c,d,b1,b2,e,_,h1,h2⟩=>by
  subst e;rw[Vi,Ty.dep_len x p.1 c b1 h1,Ty.dep_len y p.2 d b2 h2];rfl
def Bc.len {R:α→List Value→List Nat→Prop} {n:Nat} (hn:∀ x c b,R x c b→c.length=n):∀ {xs:List α} {cs:List Value} {bs:List Nat},Bc R xs cs bs→cs.length=xs.length*n
 |[],_,_,h=>by obtain⟨rfl,_⟩:=h;simp
 |_::_,_,_,⟨c,d,b1,b2,e,_,h1,h2⟩=>by
  subst e;rw[Vi,hn _ _ _ h1,h2.len hn,Vh,Yf,Yi,Ze]
def Bc.take {R:α→List Value→List Nat→Prop} {n:Nat} (hn:∀ x c b,R x c b→c.length=n):∀ {xs:List α} {cs:List Value} {bs:List Nat} (_:Bc R xs cs bs) (k:Nat),∃ b',Bc R (xs.take k) (cs.take (k*n)) b'∧b'.Sublist bs
 |[],_,_,h,k=>by obtain⟨rfl,rfl⟩:=h;exact⟨[],by simp[Bc],Kaa _⟩
 |_::_,_,_,⟨c,d,b1,b2,e,eb,h1,h2⟩,0=>⟨[],by simp[Bc],List.nil_sublist _⟩
 |_::_,_,_,⟨c,d,b1,b2,e,eb,h1,h2⟩,k+1=>by
  subst e eb;have hl:=hn _ _ _ h1;obtain⟨b',h3,h4⟩:=h2.take hn k;refine⟨b1++b',⟨c,_,b1,b',?_,rfl,h1,h3⟩,(Kaa b1).append h4⟩;rw[show (k+1)*n=c.length+k*n by rw[hl,Yf,Yi,Ze],Zd]
def Bc.drop {R:α→List Value→List Nat→Prop} {n:Nat} (hn:∀ x c b,R x c b→c.length=n):∀ {xs:List α} {cs:List Value} {bs:List Nat} (_:Bc R xs cs bs) (k:Nat),∃ b',Bc R (xs.drop k) (cs.drop (k*n)) b'∧b'.Sublist bs
 |[],_,_,h,k=>by obtain⟨rfl,rfl⟩:=h;exact⟨[],by simp[Bc],Kaa _⟩
 |x::xs,cs,bs,h@⟨c,d,b1,b2,e,eb,h1,h2⟩,0=>⟨bs,by simpa using h,Kaa _⟩
 |_::_,_,_,⟨c,d,b1,b2,e,eb,h1,h2⟩,k+1=>by
  subst e eb;have hl:=hn _ _ _ h1;obtain⟨b',h3,h4⟩:=h2.drop hn k;refine⟨b',?_,h4.trans (Zm b1 b2)⟩
  have e1:List.drop ((k+1)*n) (c++d)=List.drop (k*n) d:=by
   rw[show (k+1)*n=c.length+k*n by rw[hl,Yf,Yi,Ze],← Wk,Yv]
  rw[e1];exact h3
def Bc.append {R:α→List Value→List Nat→Prop}:∀ {xs ys:List α} {cs ds:List Value} {bs es:List Nat},Bc R xs cs bs→Bc R ys ds es→Bc R (xs++ys) (cs++ds) (bs++es)
 |[],_,_,_,_,_,h1,h2=>by obtain⟨rfl,rfl⟩:=h1;exact h2
 |_::_,_,_,_,_,_,⟨c,d,b1,b2,e,eb,h,h'⟩,h2=>by subst e eb;exact⟨c,_,b1,_,by rw[Vl],by rw[Vl],h,h'.append h2⟩
def Bc.get {R:α→List Value→List Nat→Prop} {n:Nat} (hn:∀ x c b,R x c b→c.length=n):∀ {xs:List α} {cs:List Value} {bs:List Nat} (_:Bc R xs cs bs) (i:Nat) (x:α),xs[i]? = some x→∃ b,R x ((cs.drop (i*n)).take n) b∧b.Sublist bs
 |[],_,_,_,i,x,hx=>by simp at hx
 |y::ys,_,_,⟨c,d,b1,b2,e,eb,h1,h2⟩,0,x,hx=>by
  simp at hx;subst hx e eb;have:=hn _ _ _ h1;simp only[Zg,Wj];rw[← this,K0a];exact⟨b1,h1,K3a b1 b2⟩
 |y::ys,_,_,⟨c,d,b1,b2,e,eb,h1,h2⟩,i+1,x,hx=>by
  subst e eb;have hl:=hn _ _ _ h1;rw[show (i+1)*n=c.length+i*n by rw[hl,Yf,Yi,Ze],← Wk,Yv];obtain⟨b,h3,h4⟩:=h2.get hn i x (by simpa using hx);exact⟨b,h3,h4.trans (Zm b1 b2)⟩
def Ty.dep_all:∀ (t:Ty) (x:t.den) (vs:List Value) (bs:List Nat),Cf t=true→(∀ k∈bs,w'.heap[k]? = w.heap[k]?)→t.dep P G w x vs bs→t.dep P G' w' x vs bs
 |.i _,_,_,_,_,_,h=>h
 |.b,_,_,_,_,_,h=>h
 |.s,_,_,_,_,_,h=>h
 |.sl _ _,_,_,_,h,_,_=>by simp[Cf]at h
 |.ow _ r,_,_,bs,ha,hb,⟨v,cs,b2,e,hs,ho,hd,eb⟩=>⟨v,cs,b2,e,hs,H0 ho (λ k hk=>hb k (by rw[eb,hk];simp)),hd.mono (λ x c b hbb h=>Ty.dep_all r x c b ha (λ k hk=>hb k (by rw[eb];exact Vg _ (hbb k hk))) h),eb⟩
 |.pr x y,p,_,bs,ha,hb,⟨c,d,b1,b2,e,eb,h1,h2⟩=>by
  simp only[Cf,Va]at ha;exact⟨c,d,b1,b2,e,eb,Ty.dep_all x p.1 c b1 ha.1 (λ k hk=>hb k (by rw[eb];exact Vq _ hk)) h1,Ty.dep_all y p.2 d b2 ha.2 (λ k hk=>hb k (by rw[eb];exact Vg _ hk)) h2⟩
end

inductive Lab where
 |no
 |fz
 |bx (b:Nat)
 |pl (l:Nat) (p:List Nat)
 |tm (i:Nat) (p:List Nat)
 deriving DecidableEq
structure Sit where
 O:Nat→Lab
 bb:Nat→Nat×Nat
 g:Nat→Nat×Sv
 ph:Nat→Value
 w:World
def Bt (P:Program) (O:Nat→Lab) (w:World) (lab:Lab) (e:TypeId) (r:Ty) (xs:List r.den) (u:Value):Prop:=
 ∃ bs,(Ty.ow e r).dep P (λ k=>O k = .fz) w xs [u] bs∧bs.Nodup∧∀ k∈bs,O k=lab
def Bt.top {P:Program} {O:Nat→Lab} {w:World} {lab:Lab} {e:TypeId} {r:Ty} {xs:List r.den} {u:Value} (h:Bt P O w lab e r xs u):
  La P e r.sz∧∃ cs,w.ownsRow 0 e r.sz u xs.length cs∧∀ k,u.ownBlock=some k→O k=lab:=by
 obtain⟨bs,⟨v,cs,b2,ev,hs,ho,hd,eb⟩,hn,hk⟩:=h;simp only[Wm,and_true]at ev;subst ev;exact⟨hs,cs,ho,λ k h=>hk k (by rw[eb,h];simp)⟩
def Bt.flat {P:Program} {O:Nat→Lab} {w:World} {lab:Lab} {e:TypeId} {r:Ty} {xs:List r.den} {u:Value} (hr:Ei r=true):
  Bt P O w lab e r xs u↔La P e r.sz∧∃ cs,w.ownsRow 0 e r.sz u xs.length cs∧Rows (λ x c=>r.rep P (λ k=>O k = .fz) w x c) xs cs∧∀ k,u.ownBlock=some k→O k=lab:=by
 have hf:∀ {xs:List r.den} {cs bs},Bc (λ x c b=>r.dep P (λ k=>O k = .fz) w x c b) xs cs bs↔Rows (λ x c=>r.rep P (λ k=>O k = .fz) w x c) xs cs∧bs=[]:=Bc.flat (λ x c b=>Ty.dep_flat r x c b hr);constructor
 ·rintro⟨bs,⟨v,cs,b2,ev,hs,ho,hd,eb⟩,hn,hk⟩;simp only[Wm,and_true]at ev;subst ev;exact⟨hs,cs,ho,(hf.1 hd).1,λ k h=>hk k (by rw[eb,h];simp)⟩
 ·rintro⟨hs,cs,ho,hd,hk⟩;refine⟨u.ownBlock.toList++[],⟨u,cs,[],rfl,hs,ho,hf.2 ⟨hd,rfl⟩,rfl⟩,?_,?_⟩
  ·cases u.ownBlock<;>simp
  ·intro k h
   cases hb:u.ownBlock with
   |none=>rw[hb]at h;simp at h
   |some j=>rw[hb]at h;simp at h;subst h;exact hk k hb
def Bt.reads {P:Program} {O O':Nat→Lab} {w:World} {lab:Lab} {e:TypeId} {r:Ty} {xs:List r.den} {u:Value} (h:Bt P O w lab e r xs u)
  (hf:∀ k,O k = .fz→O' k = .fz) (hk:∀ k,O k=lab→O' k = .fz):(Ty.sl e r).rep P (λ k=>O' k = .fz) w xs [u]:=by
 obtain⟨bs,hd,_,hb⟩:=h;exact Ty.dep_rep hf (.ow e r) xs [u] bs (λ k h=>hk k (hb k h)) hd
def Bt.cast {P:Program} {O:Nat→Lab} {w:World} {lab:Lab} {e:TypeId} {r r':Ty} {xs:List r'.den} {ys:List r.den} {u:Value} (hc:Ht r r' xs=some ys) (h:Bt P O w lab e r' xs u):Bt P O w lab e r ys u:=by
 rcases Mv hc with⟨e1,e2⟩|⟨e1,rfl,rfl⟩
 ·subst e1 e2;exact h
 ·obtain⟨bs,⟨v,cs,b2,ev,hs,ho,hd,eb⟩,hn,hk⟩:=h
  have hsz:r'.sz=r.sz:=by rw[← Er r',e1,Er r]
  exact⟨bs,⟨v,cs,b2,ev,by rw[← hsz];exact hs,by rw[← hsz];exact ho,hd,eb⟩,hn,hk⟩
def Bla:Lf→Bool
 |.own _ r _ => !(Ei r)
 |.fz _ r _ => !(Ei r)
 |_=>false
def R5:Sv→Bool
 |.one x=>Bla x
 |_=>false
def Si:List (Int×Nat)→TypeId→(r:Ty)→List r.den→Option Sl
 |[],e,r,xs=>some ⟨e,r,xs⟩
 |(i,j)::q,_,r,xs=>if 0≤i∧i.toNat<xs.length then (match nth (A4 r (xs.getD i.toNat r.dflt)) j with
  |some (.own e1 r1 ys)=>Si q e1 r1 ys
  |_=>none) else none
def Hx (G:Nat→Prop) (w:World):List (Int×Nat)→Ty→Value→Value→Prop
 |[],_,u,u'=>u'=u
 |(i,j)::q,r,u,u'=>∃ k o n cap e1 r1 u1,u = .slice (some ⟨k,o,none⟩) n cap∧G k∧w.cell? ⟨k,o+(i.toNat*r.sz+j),none⟩=some u1∧nth (Ck r) j=some (.ow e1 r1)∧Hx G w q r1 u1 u'
def Dia (S:Sit) (p k:Nat):Prop:=S.O k = .pl p []∨S.O k = .fz
def R6 (P:Program) (S:Sit) (p:Nat) (e:TypeId) (r:Ty) (xs:List r.den) (u:Value):Prop:=
 La P e r.sz∧∃ a cap cs bs,u = .slice a xs.length cap∧xs.length≤cap∧Bc (λ x c b=>r.dep P (λ k=>S.O k = .fz) S.w x c b) xs cs bs∧(∀ k∈bs,Dia S p k)∧
  (xs≠[]→∃ k o,a=some ⟨k,o,none⟩∧Dia S p k∧Bj S.w k o cs)
def Dja (S:Sit) (p:Nat) (pi:Option (List (Int×Nat))) (e:TypeId) (r:Ty) (xs:List r.den) (u:Value):Prop:=
 ∀ q,pi=some q→∀ E R XS,(S.g p).2 = .one (.own E R XS)→Si q E R XS=some ⟨e,r,xs⟩∧Hx (Dia S p) S.w q R (S.ph p) u
def W2 (P:Program) (S:Sit) (p v:Nat) (pi:Option (List (Int×Nat))) (e:TypeId) (r:Ty) (xs:List r.den) (u:Value):Prop:=
 Cf r=true∧v≤(S.g p).1∧((S.g p).1=v→R5 (S.g p).2=true∧R6 P S p e r xs u∧
  Dja S p pi e r xs u)
def Bma (P:Program) (S:Sit) (lab:Lab) (e:TypeId) (r:Ty) (xs:List r.den) (i:Int) (b:Nat) (u:Value):Prop:=
 ∃ k cap cur b1 b2,u = .slice (some ⟨k,0,none⟩) xs.length cap∧La P e r.sz∧S.w.heap[k]? = some (.cells cur e (0,0))∧(xs.length≤cap∧cap≤maxLen∧cur.size=cap*r.sz)∧(0≤i∧i.toNat<xs.length)∧
  S.bb b=(k,i.toNat*r.sz)∧S.O k = .bx b∧(S.g (H b)).2 = .one (.hd r.sz)∧
  Bc (λ x c d=>r.dep P (λ k=>S.O k = .fz) S.w x c d) (xs.take i.toNat) (cur.toList.take (i.toNat*r.sz)) b1∧
  Bc (λ x c d=>r.dep P (λ k=>S.O k = .fz) S.w x c d) (xs.drop (i.toNat+1)) ((cur.toList.take (xs.length*r.sz)).drop (i.toNat*r.sz+r.sz)) b2∧(b1++b2).Nodup∧∀ k'∈b1++b2,S.O k'=lab
def Mm (P:Program) (O:Nat→Lab) (w:World) (lab:Lab) (e:TypeId) (r:Ty) (xs:List r.den) (m:Nat) (u:Value):Prop:=
 La P e r.sz∧∃ a cap cs bs,(u = .slice a xs.length cap∧xs.length≤cap)∧cs.length=xs.length*r.sz∧Bc (λ x c b=>r.dep P (λ k=>O k = .fz) w x c b) (xs.drop m) (cs.drop (m*r.sz)) bs∧bs.Nodup∧(∀ k∈bs,O k=lab)∧(xs.length≠0→∃ k o,a=some ⟨k,o,none⟩∧O k = .fz∧Bj w k o cs)
def Ld (S:Sit):List (Nat×Nat)→List Value→Prop
 |[],us=>us=[]
 |c::bs,us=>∃ u us',us=u::us'∧(c.2≤(S.g (H c.1)).1∧((S.g (H c.1)).1=c.2→u = .pointer (some ⟨(S.bb c.1).1,(S.bb c.1).2+0,none⟩)))∧Ld S bs us'
def Ad (P:Program) (S:Sit) (lab:Lab):Lf→Value→Prop
 |.dead,_=>True
 |.un,u=>u=undef
 |.sc v,u=>u=v∧Qu v=true
 |.fz e r xs,u=>(Ty.sl e r).rep P (λ k=>S.O k = .fz) S.w xs [u]
 |.own e r xs,u=>Bt P S.O S.w lab e r xs u
 |.al p v,u=>v≤(S.g p).1∧((S.g p).1=v→u=S.ph p)
 |.bp b v off,u=>v≤(S.g (H b)).1∧((S.g (H b)).1=v→u = .pointer (some ⟨(S.bb b).1,(S.bb b).2+off,none⟩))
 |.ep p v i off,u=>v≤(S.g p).1∧∀ e r xs,S.g p=(v,.one (.own e r xs))→0≤i∧i.toNat<xs.length∧
   ∃ k cap,S.ph p = .slice (some ⟨k,0,none⟩) xs.length cap∧u = .pointer (some ⟨k,i.toNat*r.sz+off,none⟩)
 |.fp r x off,u=>∃ k o cs,u = .pointer (some ⟨k,o+off,none⟩)∧S.O k = .fz∧r.rep P (λ k=>S.O k = .fz) S.w x cs∧Bj S.w k o cs
 |.hd _,_=>True
 |.da p v pi e r xs,u=>W2 P S p v pi e r xs u
 |.opn e r xs i b v,u=>v≤(S.g (H b)).1∧(La P e r.sz∧0≤i∧i.toNat<xs.length∧∃ k cap,u = .slice (some ⟨k,0,none⟩) xs.length cap)∧((S.g (H b)).1=v→Bma P S lab e r xs i b u)
 |.fn F bs,u=>∃ us,u = .func (.func F) #[] us.toArray∧Ld S bs us
 |.io p,u=>3001000≤p∧u=S.ph p
 |.par e r xs m,u=>Mm P S.O S.w lab e r xs m u
 |.two q v1 v2,u=>v1≤(S.g q).1∧v2≤(S.g (q+1)).1∧∃ ad n cap,u = .slice ad n cap∧n≤cap∧((S.g q).1=v1→∃ k,k≤n∧S.ph q = .slice ad k cap)∧((S.g (q+1)).1=v2→S.ph (q+1)=u)
 |.dp p v pi e r xs i off,u=>∃ h,W2 P S p v pi e r xs h∧((S.g p).1=v→0≤i∧i.toNat<xs.length∧∃ k o cap,h = .slice (some ⟨k,o,none⟩) xs.length cap∧u = .pointer (some ⟨k,o+(i.toNat*r.sz+off),none⟩))
def A5 (P:Program) (S:Sit) (lab:Nat→Lab):Nat→List Lf→List Value→Prop
 |_,[],[]=>True
 |j,x::xs,u::us=>Ad P S (lab j) x u∧A5 P S lab (j+1) xs us
 |_,_,_=>False
def Gv (P:Program) (S:Sit) (l:Nat):Nat→List (Bool×List Lf)→List Value→Prop
 |_,[],[]=>True
 |i,v::vs,u::us=>(∃ ws,(if v.1 then u = .agg ws.toArray else ws=[u])∧A5 P S (λ j => .pl l [i,j]) 0 v.2 ws)∧Gv P S l (i+1) vs us
 |_,_,_=>False
def Dq (P:Program) (S:Sit) (l:Nat):Sv→Value→Prop
 |.one x,u=>Ad P S (.pl l []) x u
 |.agg cs,u=>∃ us,u = .agg us.toArray∧A5 P S (λ j => .pl l [j]) 0 cs us
 |.tup vs,u=>∃ us,u = .tuple us.toArray∧Gv P S l 0 vs us
structure Fr (O0:Nat→Lab) (w0:World) (rg:Nat→Nat×Nat) (O:Nat→Lab) (w:World):Prop where
 os:w.os=w0.os
 tape:w.tape=w0.tape
 out:w.output=w0.output
 size:w0.heap.size≤w.heap.size
 no:∀ k,k<w0.heap.size→O0 k = .no→O k = .no∧w.heap[k]? = w0.heap[k]?
 fz:∀ k,k<w0.heap.size→O0 k = .fz→O k = .fz∧w.heap[k]? = w0.heap[k]?
 bx:∀ k b,k<w0.heap.size→O0 k = .bx b→O k = .bx b∧∃ c c' e f,w0.heap[k]? = some (.cells c e f)∧w.heap[k]? = some (.cells c' e f)∧c'.size=c.size∧
  ∀ i,(i<(rg b).1∨(rg b).1+(rg b).2≤i)→c'[i]? = c[i]?
structure Cx where
 P:Program
 O0:Nat→Lab
 w0:World
 rg:Nat→Nat×Nat
 nt:Nat
 np:Nat
 v0:Nat→Value
def Cx.pb (X:Cx) (b:Nat):Prop:=(b<X.np∧b<1000)∨(1500≤b∧b<2000)
structure Ae (X:Cx) (S:Sit) (a:Act):Prop where
 nt:X.nt≤1000
 lt:∀ k,S.O k ≠ .no→k<S.w.heap.size
 at_:∀ l,Dq X.P S l (S.g l).2 (S.ph l)
 box:∀ b n,(S.g (H b)).2 = .one (.hd n)→n<999∧∃ c e,S.w.heap[(S.bb b).1]? = some (.cells c e (0,0))∧S.O (S.bb b).1 = .bx b∧(S.bb b).2+n≤c.size∧
  ∀ j,j<n→c[(S.bb b).2+j]? = some (S.ph (C b j))
 rgn:∀ b n,(S.g (H b)).2 = .one (.hd n)→(b<2000→(S.bb b).1<X.w0.heap.size→X.O0 (S.bb b).1 = .bx b∧(X.rg b).1≤(S.bb b).2∧(S.bb b).2+n≤(X.rg b).1+(X.rg b).2)∧(X.pb b→(S.bb b).1<X.w0.heap.size)∧(2000≤b→(S.bb b).1<X.w0.heap.size→∀ b',X.O0 (S.bb b).1 ≠ .bx b')∧b<3000
 sl:∀ t,t<X.nt→a.tmps.getD t undef=S.ph t
 sz:a.tmps.size=X.nt
 df:a.defers=[]
 fr:Fr X.O0 X.w0 X.rg S.O S.w
 io:∀ p,3001000≤p→S.ph p=X.v0 p
structure Bu (S S':Sit):Prop where
 ver:∀ p,(S.g p).1≤(S'.g p).1
 ph:∀ p,(S'.g p).1=(S.g p).1→S'.ph p=S.ph p
 own:∀ p v e r xs',S'.g p=(v,.one (.own e r xs'))→(S.g p).1=v→∃ xs:List r.den,S.g p=(v,.one (.own e r xs))∧xs.length=xs'.length
 bb:∀ b,(S'.g (H b)).1=(S.g (H b)).1→S'.bb b=S.bb b
 fz:∀ k,S.O k = .fz→S'.O k = .fz∧S'.w.heap[k]? = S.w.heap[k]?
 box:∀ b n,(S'.g (H b)).1=(S.g (H b)).1→(S.g (H b)).2 = .one (.hd n)→S.O (S.bb b).1 = .bx b→(S'.g (H b)).2 = .one (.hd n)∧S'.O (S.bb b).1 = .bx b∧
  ∀ c e f,S.w.heap[(S.bb b).1]? = some (.cells c e f)→∃ c',S'.w.heap[(S.bb b).1]? = some (.cells c' e f)∧c'.size=c.size∧∀ j,(j<(S.bb b).2∨(S.bb b).2+n≤j)→c'[j]? = c[j]?
 bor:∀ p,(S'.g p).1=(S.g p).1→R5 (S.g p).2=true→R5 (S'.g p).2=true∧(∀ E R XS,(S'.g p).2 = .one (.own E R XS)→(S.g p).2 = .one (.own E R XS))∧∀ k,S.O k = .pl p []→Dia S' p k∧S'.w.heap[k]? = S.w.heap[k]?
 io:∀ p,3001000≤p→S'.ph p=S.ph p
section
variable {P:Program} {S S':Sit} {lab lab':Lab} {u:Value}
def Bu.box_of (hg:∀ b n,(S'.g (H b)).1=(S.g (H b)).1→(S.g (H b)).2 = .one (.hd n)→(S'.g (H b)).2 = .one (.hd n)) (hO:∀ k b,S.O k = .bx b→S'.O k = .bx b∧S'.w.heap[k]? = S.w.heap[k]?):
  ∀ b n,(S'.g (H b)).1=(S.g (H b)).1→(S.g (H b)).2 = .one (.hd n)→S.O (S.bb b).1 = .bx b→(S'.g (H b)).2 = .one (.hd n)∧S'.O (S.bb b).1 = .bx b∧
  ∀ c e f,S.w.heap[(S.bb b).1]? = some (.cells c e f)→∃ c',S'.w.heap[(S.bb b).1]? = some (.cells c' e f)∧c'.size=c.size∧∀ j,(j<(S.bb b).2∨(S.bb b).2+n≤j)→c'[j]? = c[j]?:=
 λ b n h1 h2 h3=>⟨hg b n h1 h2,(hO _ _ h3).1,λ c e f hc=>⟨c,(hO _ _ h3).2.trans hc,rfl,λ _ _=>rfl⟩⟩
def Bna {c c':Array Value} {o n:Nat} (hs:c'.size=c.size) (h:∀ j,(j<o∨o+n≤j)→c'[j]? = c[j]?):c'.toList.take o=c.toList.take o∧∀ m,(c'.toList.take m).drop (o+n)=(c.toList.take m).drop (o+n):=by
 refine⟨Kba λ j=>?_,λ m=>Kba λ j=>?_⟩
 ·rw[Wb,Wb];split
  ·rw[Yu,Yu];exact h j (.inl ‹_›)
  ·rfl
 ·rw[Wp,Wp,Wb,Wb];split
  ·rw[Yu,Yu];exact h _ (.inr (by omega))
  ·rfl
def Bma.later {e:TypeId} {r:Ty} {xs:List r.den} {i:Int} {b:Nat} (L:Bu S S') (hv:(S'.g (H b)).1=(S.g (H b)).1) (h:Bma P S lab e r xs i b u) (hl:∀ k,S.O k=lab→S'.O k=lab'∧S'.w.heap[k]? = S.w.heap[k]?):Bma P S' lab' e r xs i b u:=by
 obtain⟨k,cap,cur,b1,b2,h1,h2,h3,⟨h4,h5,h6⟩,h7,h8,h9,h10,h11,h12,h13,h14⟩:=h;obtain⟨g1,g2,g3⟩:=L.box b r.sz hv h10 (by rw[h8];exact h9);rw[h8]at g2 g3;obtain⟨c',c1,c2,c3⟩:=g3 _ _ _ h3;obtain⟨t1,t2⟩:=Bna c2 c3
 have mono:∀ {ys:List r.den} {cs:List Value} {bs:List Nat},(∀ k∈bs,k∈b1++b2)→Bc (λ x c d=>r.dep P (λ k=>S.O k = .fz) S.w x c d) ys cs bs→Bc (λ x c d=>r.dep P (λ k=>S'.O k = .fz) S'.w x c d) ys cs bs:=λ hb h=>
  h.mono (λ x c d hd hx=>Ty.dep_mono (λ k hk=>(L.fz k hk).1) (λ k hk=>(L.fz k hk).2) r x c d (λ k hk=>(hl k (h14 k (hb k (hd k hk)))).2) hx)
 refine⟨k,cap,c',b1,b2,h1,h2,c1,⟨h4,h5,c2.trans h6⟩,h7,(L.bb b hv).trans h8,g2,g1,?_,?_,h13,λ k' hk'=>(hl k' (h14 k' hk')).1⟩
 ·rw[t1];exact mono (λ k hk=>Vq _ hk) h11
 ·rw[t2];exact mono (λ k hk=>Vg _ hk) h12
def Ld.later (L:Bu S S'):∀ {bs:List (Nat×Nat)} {us:List Value},Ld S bs us→Ld S' bs us
 |[],_,h=>h
 |c::bs,_,⟨u,us',e,⟨h1,h2⟩,h3⟩=>⟨u,us',e,⟨Yo h1 (L.ver _),λ hv=>by
  have e1:(S.g (H c.1)).1=c.2:=Yn (hv ▸ L.ver _) h1;rw[L.bb c.1 (hv.trans e1.symm)]
  exact h2 e1⟩,h3.later L⟩
def Bt.later {O O':Nat→Lab} {w w':World} {e:TypeId} {r:Ty} {xs:List r.den} (h:Bt P O w lab e r xs u)
  (hf:∀ k,O k = .fz→O' k = .fz∧w'.heap[k]? = w.heap[k]?) (hl:∀ k,O k=lab→O' k=lab'∧w'.heap[k]? = w.heap[k]?):Bt P O' w' lab' e r xs u:=by
 obtain⟨bs,hd,hn,hk⟩:=h;exact⟨bs,Ty.dep_mono (λ k h=>(hf k h).1) (λ k h=>(hf k h).2) (.ow e r) xs [u] bs (λ k h=>(hl k (hk k h)).2) hd,hn,λ k h=>(hl k (hk k h)).1⟩
def Mm.later {O O':Nat→Lab} {w w':World} {e:TypeId} {r:Ty} {xs:List r.den} {m:Nat} (h:Mm P O w lab e r xs m u)
  (hf:∀ k,O k = .fz→O' k = .fz∧w'.heap[k]? = w.heap[k]?) (hl:∀ k,O k=lab→O' k=lab'∧w'.heap[k]? = w.heap[k]?):Mm P O' w' lab' e r xs m u:=by
 obtain⟨h1,a,cap,cs,bs,h2,h3,h4,h5,h6,h7⟩:=h;refine⟨h1,a,cap,cs,bs,h2,h3,h4.mono (λ x c b hb hx=>Ty.dep_mono (λ k hk=>(hf k hk).1) (λ k hk=>(hf k hk).2) r x c b (λ k hk=>(hl k (h6 k (hb k hk))).2) hx),h5,λ k hk=>(hl k (h6 k hk)).1,λ hn=>?_⟩;obtain⟨k,o,e1,e2,e3⟩:=h7 hn;exact⟨k,o,e1,(hf k e2).1,e3.mono (hf k e2).2⟩
def R6.reads {P:Program} {S:Sit} {p:Nat} {e:TypeId} {r:Ty} {xs:List r.den} {u:Value} {G:Nat→Prop} (h:R6 P S p e r xs u) (hG:∀ k,Dia S p k→G k):(Ty.sl e r).rep P G S.w xs [u]:=by
 obtain⟨hs,a,cap,cs,bs,e1,hc,hd,hb,hne⟩:=h;refine⟨u,rfl,hs,a,cap,cs,e1,hc,hd.rows (λ x c b hbb h=>Ty.dep_rep (λ k hk=>hG k (.inr hk)) r x c b (λ k hk=>hG k (hb k (hbb k hk))) h),λ hn=>?_⟩;obtain⟨k,o,e2,hk,hcs⟩:=hne hn;exact⟨k,o,e2,hG k hk,hcs⟩
def Hx.mono {G G':Nat→Prop} {w w':World} (hG:∀ k,G k→G' k∧w'.heap[k]? = w.heap[k]?):∀ (q:List (Int×Nat)) (r:Ty) (u u':Value),Hx G w q r u u'→Hx G' w' q r u u'
 |[],_,_,_,h=>h
 |(_,_)::q,_,_,_,⟨k,o,n,cap,e1,r1,u1,h1,h2,h3,h4,h5⟩=>⟨k,o,n,cap,e1,r1,u1,h1,(hG k h2).1,(Pa (hG k h2).2 _).trans h3,h4,h5.mono hG q r1 u1 _⟩
def W2.later {p v:Nat} {pi:Option (List (Int×Nat))} {e:TypeId} {r:Ty} {xs:List r.den} (L:Bu S S') (h:W2 P S p v pi e r xs u):W2 P S' p v pi e r xs u:=by
 obtain⟨h0,h1,h2⟩:=h;refine⟨h0,Yo h1 (L.ver p),λ hv=>?_⟩;have e1:(S.g p).1=v:=Yn (hv ▸ L.ver p) h1;obtain⟨d1,⟨d2,a,cap,cs,bs,d3,d4,d5,d6,d7⟩,d8⟩:=h2 e1;obtain⟨b1,b2,b3⟩:=L.bor p (hv.trans e1.symm) d1
 have hm:∀ k,Dia S p k→Dia S' p k∧S'.w.heap[k]? = S.w.heap[k]? := λ k hk=>by
  rcases hk with hk|hk
  ·exact b3 k hk
  ·exact⟨.inr (L.fz k hk).1,(L.fz k hk).2⟩
 refine⟨b1,⟨d2,a,cap,cs,bs,d3,d4,d5.mono (λ x c b hb hx=>Ty.dep_mono (λ k hk=>(L.fz k hk).1) (λ k hk=>(L.fz k hk).2) r x c b (λ k hk=>(hm k (d6 k (hb k hk))).2) hx),λ k hk=>(hm k (d6 k hk)).1,λ hn=>?_⟩,λ q hq E R XS hg=>?_⟩
 ·obtain⟨k,o,e3,e4,e5⟩:=d7 hn;exact⟨k,o,e3,(hm k e4).1,e5.mono (hm k e4).2⟩
 ·obtain⟨f1,f2⟩:=d8 q hq E R XS (b2 E R XS hg);refine⟨f1,?_⟩;rw[L.ph p (hv.trans e1.symm)];exact f2.mono hm
def Ad.later {x:Lf} (L:Bu S S') (h:Ad P S lab x u) (hl:∀ k,S.O k=lab→S'.O k=lab'∧S'.w.heap[k]? = S.w.heap[k]?):Ad P S' lab' x u:=by
 cases x with
 |dead=>trivial
 |un=>exact h
 |sc v=>exact h
 |fz e r xs=>exact Ty.rep_mono (λ k h=>(L.fz k h).1) (λ k h=>(L.fz k h).2) _ _ _ h
 |own e r xs=>exact Bt.later h L.fz hl
 |al p v=>
  refine⟨Yo h.1 (L.ver p),λ hv=>?_⟩;have e1:(S.g p).1=v:=Yn (hv ▸ L.ver p) h.1;rw[L.ph p (hv.trans e1.symm)];exact h.2 e1
 |bp b v off=>
  refine⟨Yo h.1 (L.ver _),λ hv=>?_⟩;have e1:(S.g (H b)).1=v:=Yn (hv ▸ L.ver _) h.1;rw[L.bb b (hv.trans e1.symm)];exact h.2 e1
 |ep p v i off=>
  refine⟨Yo h.1 (L.ver p),λ e r xs hv=>?_⟩
  have e0:(S'.g p).1=v:=by rw[hv]
  have e1:(S.g p).1=v:=Yn (e0 ▸ L.ver p) h.1;obtain⟨ys,hy,hl⟩:=L.own p v e r xs hv e1;obtain⟨h0,h1,k,cap,h2,h3⟩:=h.2 e r ys hy;refine⟨h0,hl ▸ h1,k,cap,?_,h3⟩;rw[L.ph p (e0.trans e1.symm),h2,hl]
 |fp r x off=>
  obtain⟨k,o,cs,h1,h2,h3,h4⟩:=h;exact⟨k,o,cs,h1,(L.fz k h2).1,Ty.rep_mono (λ k h=>(L.fz k h).1) (λ k h=>(L.fz k h).2) _ _ _ h3,h4.mono (L.fz k h2).2⟩
 |hd n=>trivial
 |io p=>exact⟨h.1,h.2.trans (L.io p h.1).symm⟩
 |par e r xs m=>exact Mm.later h L.fz hl
 |two q v1 v2=>
  obtain⟨h1,h2,ad,n,cap,h3,h4,h5,h6⟩:=h;refine⟨Yo h1 (L.ver q),Yo h2 (L.ver _),ad,n,cap,h3,h4,λ hv=>?_,λ hv=>?_⟩
  ·have e1:(S.g q).1=v1:=Yn (hv ▸ L.ver q) h1;rw[L.ph q (hv.trans e1.symm)];exact h5 e1
  ·have e1:(S.g (q+1)).1=v2:=Yn (hv ▸ L.ver _) h2;rw[L.ph (q+1) (hv.trans e1.symm)];exact h6 e1
 |da p v pi e r xs=>exact W2.later L h
 |opn e r xs i b v=>
  refine⟨Yo h.1 (L.ver _),h.2.1,λ hv=>?_⟩;have e1:(S.g (H b)).1=v:=Yn (hv ▸ L.ver _) h.1;exact(h.2.2 e1).later L (hv.trans e1.symm) hl
 |fn F bs=>
  obtain⟨us,e,h⟩:=h;exact⟨us,e,h.later L⟩
 |dp p v pi e r xs i off=>
  obtain⟨hd,h1,h2⟩:=h;refine⟨hd,h1.later L,λ hv=>h2 ?_⟩;exact Yn (hv ▸ L.ver p) h1.2.1
def Lf.isOwn:Lf→Bool
 |.own _ _ _=>true
 |.opn _ _ _ _ _ _=>true
 |.par _ _ _ _=>true
 |_=>false
def Ad.relab {x:Lf} (hx:x.isOwn=false) (h:Ad P S lab x u):Ad P S lab' x u:=by
 cases x<;>first|exact h|(simp[Lf.isOwn]at hx)
def A5.imp {f f':Nat→Lab} (hi:∀ j x u,Ad P S (f j) x u→Ad P S' (f' j) x u):∀ {j:Nat} {xs:List Lf} {us:List Value},A5 P S f j xs us→A5 P S' f' j xs us
 |_,[],[],_=>trivial
 |j,_::_,_::_,h=>⟨hi j _ _ h.1,h.2.imp hi⟩
 |_,[],_::_,h=>h.elim
 |_,_::_,[],h=>h.elim
def Gv.imp {l l':Nat} (hi:∀ i j x u,Ad P S (.pl l [i,j]) x u→Ad P S' (.pl l' [i,j]) x u):∀ {i:Nat} {vs:List (Bool×List Lf)} {us:List Value},Gv P S l i vs us→Gv P S' l' i vs us
 |_,[],[],_=>trivial
 |i,_::_,_::_,⟨⟨ws,h1,h2⟩,h3⟩=>⟨⟨ws,h1,h2.imp (λ j=>hi i j)⟩,h3.imp hi⟩
 |_,[],_::_,h=>h.elim
 |_,_::_,[],h=>h.elim
def Dq.imp {l l':Nat} {s:Sv} (hi:∀ p x u,Ad P S (.pl l p) x u→Ad P S' (.pl l' p) x u) (h:Dq P S l s u):Dq P S' l' s u:=by
 cases s with
 |one x=>exact hi _ _ _ h
 |agg cs=>obtain⟨us,e,h⟩:=h;exact⟨us,e,h.imp (λ j=>hi [j])⟩
 |tup vs=>obtain⟨us,e,h⟩:=h;exact⟨us,e,h.imp (λ i j=>hi [i,j])⟩
def Dq.later {l:Nat} {s:Sv} (L:Bu S S') (h:Dq P S l s u) (hl:∀ p k,S.O k = .pl l p→S'.O k = .pl l p∧S'.w.heap[k]? = S.w.heap[k]?):Dq P S' l s u:=
 h.imp (λ p _ _ h=>h.later L (hl p))
def A5.relab {f f':Nat→Lab}:∀ {j:Nat} {xs:List Lf} {us:List Value},C0 xs=false→A5 P S f j xs us→A5 P S f' j xs us
 |_,[],[],_,_=>trivial
 |j,x::xs,u::us,ho,h=>by
  cases x<;>first|(simp[C0]at ho;done)|exact⟨Ad.relab rfl h.1,A5.relab (by simpa[C0] using ho) h.2⟩
 |_,[],_::_,_,h=>h.elim
 |_,_::_,[],_,h=>h.elim
def Gv.relab {l l':Nat}:∀ {i:Nat} {vs:List (Bool×List Lf)} {us:List Value},vs.any (λ v=>C0 v.2)=false→Gv P S l i vs us→Gv P S l' i vs us
 |_,[],[],_,_=>trivial
 |i,_::_,_::_,ho,⟨⟨ws,h1,h2⟩,h3⟩=>by
  simp only[List.any_cons,Bool.or_eq_false_iff]at ho;exact⟨⟨ws,h1,h2.relab ho.1⟩,h3.relab ho.2⟩
 |_,[],_::_,_,h=>h.elim
 |_,_::_,[],_,h=>h.elim
def Dq.relab {l l':Nat} {s:Sv} (ho:Fx s=false) (h:Dq P S l s u):Dq P S l' s u:=by
 cases s with
 |one x=>exact Ad.relab (by cases x<;>first|rfl|(simp[Fx,C0]at ho)) h
 |agg cs=>obtain⟨us,e,h⟩:=h;exact⟨us,e,h.relab ho⟩
 |tup vs=>obtain⟨us,e,h⟩:=h;exact⟨us,e,h.relab ho⟩
end
def Gka {b b' j:Nat} (hj:j<999):C b j≠H b':=by unfold C H;omega
def Nj {b b':Nat} (h:H b=H b'):b=b':=by unfold H at h;omega
def J6a (b j:Nat):1000≤C b j:=by unfold C;omega
def Gla (b:Nat):1000≤H b:=by unfold H;omega
def upd {β:Type} (f:Nat→β) (l:Nat) (v:β):Nat→β:=λ k=>if k=l then v else f k
@[simp] theorem A7 {β:Type} (f:Nat→β) (l:Nat) (v:β):upd f l v l=v:=by simp[upd]
def A8 {β:Type} (f:Nat→β) {l k:Nat} (v:β) (h:k≠l):upd f l v k=f k:=by simp[upd,h]
def Fm (A:Ab) (u:Up):get (up A u)=upd (get A) u.l ((bif u.keep then (get A u.l).1 else (get A u.l).1+1),u.s):=by
 funext k;unfold upd up;simp only[get]
 by_cases h:k=u.l
 ·subst h;simp
 ·have:Nat.beq u.l k=false:=by
   cases hb:Nat.beq u.l k with
   |false=>rfl
   |true=>exact absurd (Vb hb).symm h
  simp[this,h]

section
variable {X:Cx} {S:Sit} {a:Act}
def Fr.relab {O0 O O':Nat→Lab} {w0 w:World} {rg:Nat→Nat×Nat} (h:Fr O0 w0 rg O w)
  (h1:∀ k,O k = .no→O' k = .no) (h2:∀ k,O k = .fz→O' k = .fz) (h3:∀ k b,O k = .bx b→O' k = .bx b):Fr O0 w0 rg O' w:=
 ⟨h.os,h.tape,h.out,h.size,λ k hk e=>⟨h1 k (h.no k hk e).1,(h.no k hk e).2⟩,λ k hk e=>⟨h2 k (h.fz k hk e).1,(h.fz k hk e).2⟩,
  λ k b hk e=>⟨h3 k b (h.bx k b hk e).1,(h.bx k b hk e).2⟩⟩
def Ae.ghost (K:Ae X S a) (O':Nat→Lab) (g':Nat→Nat×Sv)
  (h1:∀ k,S.O k = .no→O' k = .no) (h1':∀ k,O' k ≠ .no→S.O k ≠ .no) (h2:∀ k,S.O k = .fz→O' k = .fz) (h3:∀ k b,S.O k = .bx b→O' k = .bx b)
  (hH:∀ b n,(g' (H b)).2 = .one (.hd n)→(S.g (H b)).2 = .one (.hd n))
  (hat:∀ l,Dq X.P { S with O:=O',g:=g' } l (g' l).2 (S.ph l)):Ae X { S with O:=O',g:=g' } a where
 nt:=K.nt
 lt:=λ k hk=>K.lt k (h1' k hk)
 at_:=hat
 box:=λ b n h=>by
  obtain⟨hn,c,e,e1,e2,e3,e4⟩:=K.box b n (hH b n h);exact⟨hn,c,e,e1,h3 _ _ e2,e3,e4⟩
 rgn:=λ b n h=>K.rgn b n (hH b n h)
 sl:=K.sl
 sz:=K.sz
 df:=K.df
 fr:=K.fr.relab h1 h2 h3
 io:=K.io
def reO (O:Nat→Lab) (l:Nat) (i:Nat):Nat→Lab:=λ k=>match O k with
 |.pl l' p=>if l'=l then .tm i p else .pl l' p
 |o=>o
def Ct {O:Nat→Lab} {l k:Nat} {i:Nat} (h:∀ p,O k ≠ .pl l p):reO O l i k=O k:=by
 unfold reO
 cases hk:O k<;>simp
 rename_i l' p;intro e;subst e;exact absurd hk (h p)
def X6 {O:Nat→Lab} {l k:Nat} {i:Nat} {p:List Nat} (h:O k = .pl l p):reO O l i k = .tm i p:=by
 unfold reO;rw[h];simp
def Ez (S:Sit) (l:Nat) (i:Nat):Sit := { S with O:=reO S.O l i,g:=upd S.g l ((S.g l).1+1,.one .dead) }
def Es (S:Sit) (l:Nat) (i:Nat):Bu S (Ez S l i) where
 ver:=λ p=>by
  by_cases h:p=l
  ·subst h;simp[Ez]
  ·simp[Ez,A8 _ _ h]
 ph:=λ _ _=>rfl
 own:=λ p v e r xs' h hv=>by
  by_cases hp:p=l
  ·subst hp;simp[Ez]at h
  ·simp only[Ez,A8 _ _ hp]at h;exact⟨xs',h,rfl⟩
 bb:=λ _ _=>rfl
 fz:=λ k h=>⟨(Ct (by simp[h])).trans h,rfl⟩
 box:=Bu.box_of (λ b n hv hh=>by
  have hb:H b≠l:=λ e=>by subst e;simp[Ez]at hv
  exact(congrArg Prod.snd (A8 _ _ hb)).trans hh) (λ k b h=>⟨(Ct (by simp[h])).trans h,rfl⟩)
 bor:=λ p hv hd=>by
  have hp:p≠l:=λ e=>by subst e;simp[Ez]at hv
  have hg:(Ez S l i).g p=S.g p:=A8 _ _ hp;rw[hg];exact⟨hd,λ _ _ _ h=>h,λ k hk=>⟨.inl ((Ct (by simp[hk,hp])).trans hk),rfl⟩⟩
 io:=λ _ _=>rfl
def Fn (K:Ae X S a) (l:Nat) (i:Nat):
  Ae X (Ez S l i) a∧(∀ p x u,Ad X.P S (.pl l p) x u→Ad X.P (Ez S l i) (.tm i p) x u)∧(∀ n q x u,Ad X.P S (.tm n q) x u→Ad X.P (Ez S l i) (.tm n q) x u):=by
 have L:=Es S l i;refine⟨?_,λ p x u h=>h.later L (λ k hk=>⟨X6 hk,rfl⟩),λ n q x u h=>h.later L (λ k hk=>⟨(Ct (by simp[hk])).trans hk,rfl⟩)⟩;refine K.ghost _ _ (λ k h=>(Ct (by simp[h])).trans h) (λ k h=>?_) (λ k h=>(Ct (by simp[h])).trans h) (λ k b h=>(Ct (by simp[h])).trans h) (λ b n h=>?_) (λ l'=>?_)
 ·intro e;exact h ((Ct (by simp[e])).trans e)
 ·by_cases hb:H b=l
  ·subst hb;simp at h
  ·rwa [A8 _ _ hb]at h
 ·by_cases hl:l'=l
  ·subst hl;show Dq X.P _ l' (upd S.g l' _ l').2 _;simp only[A7];trivial
  ·show Dq X.P _ l' (upd S.g l _ l').2 _;rw[A8 _ _ hl];exact(K.at_ l').later L (λ p k hk=>⟨(Ct (by simp[hk,hl])).trans hk,rfl⟩)
def frS (S:Sit) (p:Nat) (e:TypeId) (r:Ty) (xs:List r.den):Sit:=
 { S with O:=λ k=>if S.O k = .pl p [] then .fz else S.O k,g:=upd S.g p ((S.g p).1,.one (.fz e r xs)) }
def Pb (S:Sit) (p:Nat) (e:TypeId) (r:Ty) (xs:List r.den) (hpo:(S.g p).2 = .one (.own e r xs)):Bu S (frS S p e r xs) where
 ver:=λ q=>by
  by_cases h:q=p
  ·subst h;simp[frS]
  ·simp[frS,A8 _ _ h]
 ph:=λ _ _=>rfl
 own:=λ q v e' r' xs' h hv=>by
  by_cases hp:q=p
  ·subst hp;simp[frS]at h
  ·simp only[frS,A8 _ _ hp]at h;exact⟨xs',h,rfl⟩
 bb:=λ _ _=>rfl
 fz:=λ k h=>⟨by simp[frS,h],rfl⟩
 box:=Bu.box_of (λ b n hv hh=>by
  have hb:H b≠p:=λ e=>by subst e;rw[hpo]at hh;cases hh
  exact(congrArg Prod.snd (A8 _ _ hb)).trans hh) (λ k b h=>⟨by simp[frS,h],rfl⟩)
 bor:=λ q hv hd=>by
  by_cases hq:q=p
  ·subst hq;have hg:(frS S q e r xs).g q=((S.g q).1,.one (.fz e r xs)):=A7 _ _ _;rw[hg];rw[hpo]at hd;refine⟨hd,λ E R XS h=>by simp at h,λ k hk=>⟨.inr ?_,rfl⟩⟩;show (if S.O k = .pl q [] then Lab.fz else S.O k) = .fz;rw[if_pos hk]
  ·have hg:(frS S p e r xs).g q=S.g q:=A8 _ _ hq;rw[hg];refine⟨hd,λ _ _ _ h=>h,λ k hk=>⟨.inl ?_,rfl⟩⟩;show (if S.O k = .pl p [] then Lab.fz else S.O k)=_;rw[if_neg (by rw[hk];simp[hq]),hk]
 io:=λ _ _=>rfl
def Le (K:Ae X S a) {p:Nat} {e:TypeId} {r:Ty} {xs:List r.den} (hp:(S.g p).2 = .one (.own e r xs)):
  Ae X (frS S p e r xs) a∧(∀ n q x u,Ad X.P S (.tm n q) x u→Ad X.P (frS S p e r xs) (.tm n q) x u)∧Ad X.P (frS S p e r xs) .no (.fz e r xs) (S.ph p):=by
 have L:=Pb S p e r xs hp
 have hown:Bt X.P S.O S.w (.pl p []) e r xs (S.ph p):=by have:=K.at_ p;rw[hp]at this;exact this
 have other:∀ k o,S.O k=o→o ≠ .pl p []→(frS S p e r xs).O k=o:=λ k o h ho=>by
  show (if S.O k = .pl p [] then Lab.fz else S.O k)=o;rw[if_neg (by rw[h];exact ho),h]
 have hnew:Ad X.P (frS S p e r xs) .no (.fz e r xs) (S.ph p):=hown.reads (O':=(frS S p e r xs).O) (λ k h=>(L.fz k h).1) (λ k h=>by show (if S.O k = .pl p [] then Lab.fz else S.O k)=_;rw[if_pos h])
 refine⟨K.ghost _ _ (λ k h=>other k _ h (by simp)) (λ k h e'=>h (other k _ e' (by simp))) (λ k h=>(L.fz k h).1) (λ k b h=>other k _ h (by simp)) (λ b n h=>?_) (λ l=>?_),
  λ n q x u h=>h.later L (λ k hk=>⟨other k _ hk (by simp),rfl⟩),hnew⟩
 ·by_cases hbp:H b=p
  ·subst hbp;simp at h
  ·rwa [A8 _ _ hbp]at h
 ·by_cases hl:l=p
  ·subst hl;show Dq X.P _ l (upd S.g l _ l).2 _;rw[A7];exact Ad.relab (lab' := .pl l []) rfl hnew
  ·show Dq X.P _ l (upd S.g p _ l).2 _;rw[A8 _ _ hl];exact(K.at_ l).later L (λ q k hk=>⟨other k _ hk (by simp[hl]),rfl⟩)
def atO (O:Nat→Lab) (h:Nat→List Nat→Option Lab):Nat→Lab:=λ k=>match O k with
 |.tm n q=>(match h n q with
  |some p=>p
  |none => .tm n q)
 |o=>o
def Ai {O:Nat→Lab} {h:Nat→List Nat→Option Lab} {k:Nat} {o:Lab} (e:O k=o) (ho:∀ n q,o ≠ .tm n q):atO O h k=o:=by
 unfold atO;rw[e];cases o<;>first|rfl|(exact absurd rfl (ho _ _))
def De {O:Nat→Lab} {h:Nat→List Nat→Option Lab} {k n:Nat} {q:List Nat} {p:Lab} (e:O k = .tm n q) (hn:h n q=some p):atO O h k=p:=by
 unfold atO;rw[e];simp[hn]
def F8 {O:Nat→Lab} {h:Nat→List Nat→Option Lab} {k n:Nat} {q:List Nat} (e:O k = .tm n q) (hn:h n q=none):atO O h k = .tm n q:=by
 unfold atO;rw[e];simp[hn]
def Et (S:Sit) (h:Nat→List Nat→Option Lab) (d:Nat) (s:Sv) (v:Value):Sit:=
 { S with O:=atO S.O h,g:=upd S.g d ((S.g d).1+1,s),ph:=upd S.ph d v }
def C5 (S:Sit) (h:Nat→List Nat→Option Lab) (d:Nat) (hd0:d<3001000) (s:Sv) (v:Value):Bu S (Et S h d s v) where
 ver:=λ p=>by
  by_cases hp:p=d
  ·subst hp;simp[Et]
  ·simp[Et,A8 _ _ hp]
 ph:=λ p e=>by
  by_cases hp:p=d
  ·subst hp;simp[Et]at e
  ·simp[Et,A8 _ _ hp]
 own:=λ p v' e r xs' hh hv=>by
  by_cases hp:p=d
  ·subst hp;simp only[Et,A7,Vu]at hh;omega
  ·simp only[Et,A8 _ _ hp]at hh;exact⟨xs',hh,rfl⟩
 bb:=λ _ _=>rfl
 fz:=λ k hk=>⟨Ai hk (by simp),rfl⟩
 box:=Bu.box_of (λ b n hv hh=>by
  have hb:H b≠d:=λ e=>by subst e;simp[Et]at hv
  exact(congrArg Prod.snd (A8 _ _ hb)).trans hh) (λ k b h=>⟨Ai h (by simp),rfl⟩)
 bor:=λ p hv hd=>by
  have hp:p≠d:=λ e=>by subst e;simp[Et]at hv
  have hg:(Et S h d s v).g p=S.g p:=A8 _ _ hp;rw[hg];exact⟨hd,λ _ _ _ h=>h,λ k hk=>⟨.inl (Ai hk (by simp)),rfl⟩⟩
 io:=λ p hp=>A8 _ _ (by omega)
def Ae.lt0 (K:Ae X S a) {d:Nat} (hd:d<X.nt):d<3001000:=by have:=K.nt;omega
def Ae.put (K:Ae X S a) {d:Nat} (hd:d<X.nt) (h:Nat→List Nat→Option Lab) (hh:∀ n q p,h n q=some p→∃ p',p = .pl d p') (s:Sv) (v:Value) (hs:Dq X.P (Et S h d s v) d s v):
  Ae X (Et S h d s v) (a.put (some d) v):=by
 have hd1:d<1000:=Wf hd K.nt;have L:=C5 S h d (by omega) s v;have keepO:∀ k o,S.O k=o→(∀ n q,o ≠ .tm n q)→(Et S h d s v).O k=o:=λ k o e ho=>Ai e ho
 refine⟨K.nt,λ k hk=>K.lt k (λ e=>hk (keepO k _ e (by simp))),λ l=>?_,λ b n hb=>?_,λ b n hb=>?_,λ t ht=>?_,?_,K.df,K.fr.relab (λ k e=>keepO k _ e (by simp)) (λ k e=>keepO k _ e (by simp)) (λ k b e=>keepO k _ e (by simp)),λ p hp=>by
  show upd S.ph d v p=_;rw[A8 _ _ (by omega)]
  exact K.io p hp⟩
 ·by_cases hl:l=d
  ·subst hl;show Dq X.P _ l (upd S.g l _ l).2 (upd S.ph l _ l);rw[A7,A7];exact hs
  ·show Dq X.P _ l (upd S.g d _ l).2 (upd S.ph d _ l);rw[A8 _ _ hl,A8 _ _ hl];exact(K.at_ l).later L (λ p k e=>⟨keepO k _ e (by simp),rfl⟩)
 ·have hne:H b≠d:=λ e=>by have:=Gla b;omega
  have hb':(S.g (H b)).2 = .one (.hd n):=by
   have:(upd S.g d ((S.g d).1+1,s) (H b)).2 = .one (.hd n):=hb;rwa [A8 _ _ hne]at this
  obtain⟨hn,c,e,e1,e2,e3,e4⟩:=K.box b n hb';refine⟨hn,c,e,e1,keepO _ _ e2 (by simp),e3,λ j hj=>?_⟩;show c[(S.bb b).2+j]? = some (upd S.ph d v (C b j));rw[A8 _ _ (λ e=>by have:=J6a b j;omega)];exact e4 j hj
 ·have hne:H b≠d:=λ e=>by have:=Gla b;omega
  have hb':(S.g (H b)).2 = .one (.hd n):=by
   have:(upd S.g d ((S.g d).1+1,s) (H b)).2 = .one (.hd n):=hb;rwa [A8 _ _ hne]at this
  exact K.rgn b n hb'
 ·show (a.put (some d) v).tmps.getD t undef=upd S.ph d v t
  by_cases htd:t=d
  ·subst htd;rw[A7];simp[Act.put,K.sz,hd]
  ·rw[A8 _ _ htd,← K.sl t ht];simp[Act.put,We,Zq (λ e=>htd e.symm)]
 ·show (a.put (some d) v).tmps.size=X.nt;simp[Act.put,K.sz]
def Ae.put0 (K:Ae X S a) {d:Nat} (hd:d<X.nt) (s:Sv) (v:Value) (l:Nat) (ho:Fx s=false) (hs:Dq X.P S l s v):
  Ae X (Et S (λ _ _=>none) d s v) (a.put (some d) v):=
 K.put hd _ (by simp) s v ((hs.relab (l':=d) ho).imp (l':=d) (λ p _ _ h=>h.later (lab' := .pl d p) (C5 S _ d (by have:=K.nt;omega) s v) (λ k hk=>⟨Ai (h:=λ _ _=>none) (o := .pl d p) hk (by simp),rfl⟩)))
end

def C2:Ty→List Value
 |.i k=>[.int k 0]
 |.b=>[.bool false]
 |.s=>[.string ⟨#[]⟩]
 |.sl _ _=>[.slice none 0 0]
 |.ow _ _=>[.slice none 0 0]
 |.pr x y=>C2 x++C2 y
def Je:List Value→Ty→Option (List Value)
 |.int k 0::l,.i k'=>if k=k' then some l else none
 |.bool false::l,.b=>some l
 |.string s::l,.s=>match s.data.toList with
  |[]=>some l
  |_=>none
 |.slice none 0 0::l,.sl _ _=>some l
 |.slice none 0 0::l,.ow _ _=>some l
 |l,.pr x y=>match Je l x with
  |some l'=>Je l' y
  |none=>none
 |_,_=>none
def Sj:∀ (t:Ty) (l l':List Value),Je l t=some l'→l=C2 t++l':=by
 intro t
 induction t with
 |i k=>
  intro l l' h;unfold Je at h
  split at h<;>first|(cases h;done)|skip
  all_goals simp_all [C2]
 |b=>intro l l' h;unfold Je at h;split at h<;>simp_all [C2]
 |s=>
  intro l l' h;unfold Je at h
  split at h<;>first|(cases h;done)|skip
  all_goals first|(simp_all [C2];done)|skip
  rename_i s1 l1 _;split at h
  ·rename_i hs;simp at h;subst h
   have:s1=⟨#[]⟩:=by
    cases s1 with
    |mk d=>simp at hs;subst hs;rfl
   subst this;rfl
  ·cases h
 |sl e r _=>intro l l' h;unfold Je at h;split at h<;>simp_all [C2]
 |ow e r _=>intro l l' h;unfold Je at h;split at h<;>simp_all [C2]
 |pr x y ihx ihy=>
  intro l l' h
  have h':(match Je l x with|some l'=>Je l' y|none=>none)=some l':=by
   unfold Je at h
   split at h<;>first|exact h|(cases h;done)|simp_all
  split at h'
  ·rename_i l1 h1;rw[ihx _ _ h1,ihy _ _ h',C2,Vl]
  ·cases h'
def szB (P:Program):Ty→Bool
 |.sl e r=>((P.info? e).map (λ i=>i.size)==some r.sz)&&szB P r
 |.ow e r=>((P.info? e).map (λ i=>i.size)==some r.sz)&&szB P r
 |.pr x y=>szB P x&&szB P y
 |_=>true
def Pc:Option TypeDesc→Bool
 |some (.struct _)=>true
 |some (.array _ _)=>true
 |_=>false
def F5 (P:Program):List Field→List (Nat×Nat×Bool)→Bool
 |[],[]=>true
 |f::fs,o::os=>Nat.beq f.offset o.1&&((P.info? f.type).map (λ i=>i.size)==some o.2.1)&&Nat.blt 0 o.2.1&&(Pc (P.underlying f.type)==o.2.2)&&(P.underlying f.type).isSome&&F5 P fs os
 |_,_=>false
def Gma (P:Program) (e:TypeId):Ty→Bool
 |.i k=>(match P.underlying e with|some (.int k')=>decide (k=k')|_=>false)
 |_=>true
def Jf (P:Program):Option TypeDesc→TI→Bool
 |some (.struct fs),⟨_,true,_,fo⟩=>F5 P fs.toList fo
 |some (.int k),⟨.i k',false,_,_⟩=>decide (k=k')
 |some .bool,⟨.b,false,_,_⟩=>true
 |some .string,⟨.s,false,_,_⟩=>true
 |some (.slice e),⟨.sl e' r,false,_,_⟩=>Nat.beq e e'&&Gma P e r
 |_,_=>false
def I8a (P:Program) (T:TypeId) (t:TI):Bool:=
 (match P.info? T with
 |some i=>Nat.beq i.size t.ty.sz&&Nat.beq i.bytes t.by_&&Nat.blt 0 t.by_&&(match i.zero with
  |some (.agg cs)=>t.ag&&(match Je cs.toList t.ty with|some []=>true|_=>false)
  |some v => !t.ag&&(match Je [v] t.ty with|some []=>true|_=>false)
  |none=>false)
 |none=>false)&&Jf P (P.underlying T) t&&szB P t.ty
structure TOk (P:Program) (T:TypeId) (t:TI):Prop where
 info:∃ i,P.info? T=some i∧i.size=t.ty.sz∧i.bytes=t.by_∧i.zero=some (if t.ag then .agg (C2 t.ty).toArray else (C2 t.ty).headD undef)∧(t.ag=false→C2 t.ty=[(C2 t.ty).headD undef])
 by0:0<t.by_
 desc:Jf P (P.underlying T) t=true
 sz:szB P t.ty=true
def Gna (P:Program) (T:TypeId) (t:TI) (h:I8a P T t=true):TOk P T t:=by
 unfold I8a at h;simp only[Va]at h;obtain⟨⟨h1,h2⟩,h3⟩:=h;split at h1
 ·rename_i i hi;simp only[Va]at h1;obtain⟨⟨⟨e1,e2⟩,e3⟩,h4⟩:=h1;refine⟨⟨i,hi,by simpa using e1,by simpa using e2,?_⟩,by simp[Nat.blt]at e3;omega,h2,h3⟩;split at h4
  ·rename_i cs hz;simp only[Va]at h4;obtain⟨ha,hb⟩:=h4;split at hb
   ·rename_i hb';have:=Sj _ _ _ hb';rw[Yc]at this;refine⟨?_,by simp[ha]⟩;rw[hz,ha,← this];simp
   ·cases hb
  ·rename_i v _ hz;simp only[Va,Wg]at h4;obtain⟨ha,hb⟩:=h4;split at hb
   ·rename_i hb';have:=Sj _ _ _ hb';rw[Yc]at this;refine⟨?_,by rw[← this];simp⟩;rw[hz,ha,← this];simp
   ·cases hb
  ·cases h4
 ·cases h1
def Nk {P:Program} {O:Nat→Lab} {w:World} {lab:Lab} {e:TypeId} {r':Ty} (h:La P e r'.sz):Bt P O w lab e r' [] (.slice none 0 0):=
 ⟨[],⟨_,[],[],rfl,h,World.ownsRow_nil _ _ _ _,⟨rfl,rfl⟩,rfl⟩,by simp,by simp⟩
structure Dx (X:Cx) (E:En):Prop where
 nt:E.nt=X.nt
 np:E.np=X.np
 ti:∀ T t,E.ti T=some t→TOk X.P T t
 eq:∀ T,E.eq T=true→∀ (G:Nat→Prop) (w w':World) (x y:Operand) (l l':List Lf) (us vs:List Value) (b:Bool),Ew (E9 X.P G w) l us→Ew (E9 X.P G w) l' vs→Bf l l'=some b→Gx l=true→Gx l'=true→Ga (E.ti T) l=true→Ga (E.ti T) l'=true→
  (Op.equal T (.agg us.toArray) (.agg vs.toArray)).run X.P w' = .ok b w'∧(eqGuard .eql T x y (.agg us.toArray) (.agg vs.toArray)).run X.P w' = .ok () w'∧(eqGuard .neq T x y (.agg us.toArray) (.agg vs.toArray)).run X.P w' = .ok () w'
def X7 (X:Cx) (o:Oper) (a:Act) (w:World) (A':Ab):Prop:=
 ∀ (next:Act→World→Prop) (Q:Exit→Act→World→Prop),(∀ S' a',Ae X S' a'→S'.g=get A'→next a' S'.w)→o.wp X.P a w next Q
section
variable {X:Cx} {S:Sit} {a:Act} {E:En} {A:Ab} {o:Oper}
def A9 {A':Ab} {v:Value} {w:World} (hr:(execOp a.eval o).run X.P w = .ok (.value v) S.w) (K:Ae X S (a.put o.dst v)) (hg:S.g=get A'):X7 X o a w A':=by
 intro next Q hn;unfold Oper.wp;rw[hr,Oper.upon_value];exact hn S _ K hg
def X8 {A':Ab} {w:World} (hr:(execOp a.eval o).run X.P w = .ok .skip S.w) (K:Ae X S (a.put o.dst undef)) (hg:S.g=get A'):X7 X o a w A':=by
 intro next Q hn;unfold Oper.wp;rw[hr,Oper.upon_skip];exact hn S _ K hg
def F7 (hE:Dx X E) (K:Ae X S a) (hg:S.g=get A) {T:TypeId} {x:Operand} {s:Sv} (h:opT E T A x=some s):
  (∃ t,x = .tmp t∧t<X.nt∧s=(S.g t).2∧a.eval x=S.ph t∧Dq X.P S t s (a.eval x))∨
  ((∀ t,x ≠ .tmp t)∧∃ y,s = .one y∧∀ lab,Ad X.P S lab y (a.eval x)):=by
 unfold opT at h;split at h
 ·rename_i t;cases hb:Nat.blt t E.nt
  ·simp[hb]at h
  simp[hb]at h;have ht:t<X.nt:=hE.nt ▸ (Vd hb:t+1≤E.nt);have e:a.eval (.tmp t)=S.ph t:=K.sl t ht;refine .inl ⟨t,rfl,ht,by rw[hg];exact h.symm,e,?_⟩;rw[e,← h,← hg];exact K.at_ t
 ·refine .inr ⟨by simp,?_⟩;split at h
  ·rename_i e r by_ fo hT;simp at h;refine⟨_,h.symm,λ lab=>?_⟩;have:=(hE.ti _ _ hT).sz;simp only[szB,Va,beq_iff_eq]at this;exact Nk this.1
  ·cases h
 ·rename_i v _;refine .inr ⟨by simp,?_⟩;cases hs:Qu v
  ·simp[hs]at h
  simp[hs]at h;exact⟨_,h.symm,λ lab=>⟨rfl,hs⟩⟩
 ·rename_i f;refine .inr ⟨by simp,?_⟩;simp at h;exact⟨_,h.symm,λ lab=>⟨rfl,rfl⟩⟩
 ·cases h
def Fo (hE:Dx X E) (K:Ae X S a) (hg:S.g=get A) {T:TypeId} {x:Operand} {v:Value} (h:opT E T A x=some (.one (.sc v))):a.eval x=v∧Qu v=true:=by
 rcases F7 hE K hg h with⟨t,_,_,_,_,hs⟩|⟨_,y,e,hy⟩
 ·exact hs
 ·cases e;exact hy .no
def Goa (K:Ae X S a) {d:Nat} (hd:d<X.nt) (hg:S.g=get A) (v:Value) (hv:Qu v=true):
  ∃ S',Ae X S' (a.put (some d) v)∧S'.g=get (ups A [⟨d,false,.one (.sc v)⟩])∧S'.w=S.w:=by
 refine⟨_,K.put0 hd (.one (.sc v)) v 0 rfl ⟨rfl,hv⟩,?_,rfl⟩;show upd S.g d _=_;rw[show ups A [⟨d,false,.one (.sc v)⟩]=up A ⟨d,false,.one (.sc v)⟩ from rfl,Fm,hg];rfl
def Eia (K:Ae X S a) (hg:S.g=get A) {d:Nat} (hd:d<X.nt) (ho:o.dst=some d) {v:Value} (hv:Qu v=true) (hr:(execOp a.eval o).run X.P S.w = .ok (.value v) S.w):
  X7 X o a S.w (ups A [⟨d,false,.one (.sc v)⟩]):=by
 obtain⟨S',K',hg',hw⟩:=Goa K hd hg v hv;exact A9 (S:=S') (by rw[hw];exact hr) (by rw[ho];exact K') hg'
def X9 {op:BinOp} {T:TypeId} {k:IntKind} {x y:Int} {R:Type} {Kc:Value→Option R} {r:R} (h:Jz op k x y Kc=some r) (hne:op ≠ .shl∧op ≠ .shr) (P:Program) (w:World):
  ∃ v,Kc v=some r∧Qu v=true∧(binOp op T (.int k x) (.int k y)).run P w = .ok v w:=by
 unfold Jz at h;split at h
 case h_4=>
  by_cases hy:y=0
  ·simp[hy]at h
  ·simp[hy]at h;exact⟨_,h,rfl,by simp[binOp,Op.intDiv,hy]⟩
 case h_5=>
  by_cases hy:y=0
  ·simp[hy]at h
  ·simp[hy]at h;exact⟨_,h,rfl,by simp[binOp,Op.intDiv,hy]⟩
 all_goals first|(cases h;done)|exact⟨_,h,rfl,by simp[binOp,Op.intArith,Op.intBits,Op.intCmp]⟩
end

section
variable {X:Cx} {S:Sit} {a:Act} {E:En} {A:Ab} {o:Oper} {R:Type} {Kc:List Up→Option R} {r:R}
def R7 (op:BinOp) (T:TypeId) (x y:Operand) (k k':IntKind) (p q:Int) (P:Program) (w:World):(eqGuard op T x y (.int k p) (.int k' q)).run P w = .ok () w:=by
 cases op<;>simp[eqGuard]
def R8 (op:BinOp) (T:TypeId) (x y:Operand) (p q:ByteArray) (P:Program) (w:World):(eqGuard op T x y (.string p) (.string q)).run P w = .ok () w:=by
 cases op<;>simp[eqGuard]
def Pd (op:BinOp) (T:TypeId) (x y:Operand) (p q:Bool) (P:Program) (w:World):(eqGuard op T x y (.bool p) (.bool q)).run P w = .ok () w:=by
 cases op<;>simp[eqGuard]
def H1 {op:BinOp} {T T':TypeId} {x y:Operand} {v1 v2 v:Value} {P:Program} {w:World} (ho:o.op = .binOp op T x y T') (e1:a.eval x=v1) (e2:a.eval y=v2)
  (hq:(eqGuard op T x y v1 v2).run P w = .ok () w) (hv:(binOp op T v1 v2).run P w = .ok v w):(execOp a.eval o).run P w = .ok (.value v) w:=by
 unfold execOp;simp only[ho,e1,e2,Vt,hq,Vs,hv,Wh]
def Pe {P:Program} {T:TypeId} {by_:Nat} {fo:List (Nat×Nat×Bool)} (h:TOk P T ⟨.b,false,by_,fo⟩):P.underlying T=some .bool:=by
 have:=h.desc;unfold Jf at this
 split at this<;>simp_all
def H2 {G:Nat→Prop} {w:World}:∀ {l:List Lf} {f:Nat→Lab} {j:Nat} {us:List Value},Gx l=true→A5 X.P S f j l us→Ew (E9 X.P G w) l us
 |[],_,_,[],_,_ => .nil
 |[],_,_,_::_,_,h=>h.elim
 |_::_,_,_,[],_,h=>h.elim
 |y::ys,f,j,u::us,h,hl=>by
  cases y<;>first|(simp[Gx]at h;done)|exact .cons hl.1 (H2 (by simpa[Gx] using h) hl.2)
def Gt {P:Program} {T:TypeId} (h:P.underlying T=some .bool) (d:Nat) (p q:Bool) (w:World):(Op.equalIn (d+1) T (.bool p) (.bool q)).run P w = .ok (p==q) w:=by
 simp[Op.equalIn,underlying,h]
def Pf {P:Program} {T:TypeId} (h:P.underlying T=some .bool) (p q:Bool) (w:World):(binOp .eql T (.bool p) (.bool q)).run P w = .ok (.bool (p==q)) w:=by
 have:=Gt h 9999 p q w;unfold binOp;rw[Vt];show ((Op.equalIn (9999+1) T (.bool p) (.bool q)).run P w).andThen _=_;rw[this];rfl
def Pg {P:Program} {T:TypeId} (h:P.underlying T=some .bool) (p q:Bool) (w:World):(binOp .neq T (.bool p) (.bool q)).run P w = .ok (.bool (!(p==q))) w:=by
 have:=Gt h 9999 p q w;unfold binOp;rw[Vt];show ((Op.equalIn (9999+1) T (.bool p) (.bool q)).run P w).andThen _=_;rw[this];rfl
def Gpa (hE:Dx X E) {op:BinOp} {T T':TypeId} {x y:Operand} {s s':Sv} {r:R} {Kv:Value→Option R} (h:bop op (E.ti T) (E.eq T) s s' Kv=some r)
  (hx:∃ l',Dq X.P S l' s (a.eval x)) (hy:∃ l',Dq X.P S l' s' (a.eval y)) (ho:o.op = .binOp op T x y T'):
  ∃ v,Kv v=some r∧Qu v=true∧(execOp a.eval o).run X.P S.w = .ok (.value v) S.w:=by
 obtain⟨lx,hx⟩:=hx;obtain⟨ly,hy⟩:=hy;unfold bop at h;split at h
 ·rename_i k p k' q;have e1:a.eval x = .int k p:=hx.1;have e2:a.eval y = .int k' q:=hy.1;have go:∀ v,(binOp op T (.int k p) (.int k' q)).run X.P S.w = .ok v S.w→(execOp a.eval o).run X.P S.w = .ok (.value v) S.w:=λ v hv=>H1 ho e1 e2 (R7 ..) hv;split at h
  ·by_cases hq:q<0
   ·simp[hq]at h
   ·simp[hq]at h;exact⟨_,h,rfl,go _ (by simp[binOp,Op.shift,hq])⟩
  ·by_cases hq:q<0
   ·simp[hq]at h
   ·simp[hq]at h;exact⟨_,h,rfl,go _ (by simp[binOp,Op.shift,hq])⟩
  ·rename_i n1 n2
   by_cases hk:k=k'
   ·subst hk;simp at h;obtain⟨v,h1,h2,h3⟩:=X9 (T:=T) h ⟨n1,n2⟩ X.P S.w;exact⟨v,h1,h2,go _ h3⟩
   ·simp[hk]at h
 ·rename_i p q;have e1:a.eval x = .string p:=hx.1;have e2:a.eval y = .string q:=hy.1;have go:∀ v,(binOp op T (.string p) (.string q)).run X.P S.w = .ok v S.w→(execOp a.eval o).run X.P S.w = .ok (.value v) S.w:=λ v hv=>H1 ho e1 e2 (R8 ..) hv;unfold Mr at h;split at h
  case h_1=>
   cases hb:Nat.ble (p.size+q.size) 9223372036854775807
   ·simp[hb]at h
   simp only[hb,cond_true]at h;refine⟨_,h,rfl,go _ ?_⟩;have hb':=Vd hb
   have hb2:¬ (((p.size+q.size:Nat):Int) > IntKind.i64.max):=by
    have:IntKind.i64.max=9223372036854775807:=by decide
    omega
   simp only[binOp,Op.stringOp,if_neg hb2,Wh]
  all_goals first|(cases h;done)|exact⟨_,h,rfl,go _ (by simp[binOp,Op.stringOp])⟩
 ·rename_i p q;have e1:a.eval x = .bool p:=hx.1;have e2:a.eval y = .bool q:=hy.1;have go:∀ v,(binOp op T (.bool p) (.bool q)).run X.P S.w = .ok v S.w→(execOp a.eval o).run X.P S.w = .ok (.value v) S.w:=λ v hv=>H1 ho e1 e2 (Pd ..) hv;split at h
  ·rename_i hT;have hu:=Pe (hE.ti _ _ hT);exact⟨_,h,rfl,go _ (Pf hu ..)⟩
  ·rename_i hT;have hu:=Pe (hE.ti _ _ hT);exact⟨_,h,rfl,go _ (Pg hu ..)⟩
  ·cases h
 ·rename_i l l';cases hq:(E.eq T&&Gx l&&Gx l'&&(Ga (E.ti T) l&&Ga (E.ti T) l'))
  ·simp[hq]at h
  simp only[hq,cond_true]at h;simp only[Va]at hq;obtain⟨⟨⟨he,ha⟩,ha'⟩,hk,hk'⟩:=hq;obtain⟨us,e1,h1⟩:=hx;obtain⟨vs,e2,h2⟩:=hy;split at h
  ·split at h
   ·rename_i b hb;obtain⟨h3,h4,h5⟩:=hE.eq T he (λ _=>True) S.w S.w x y l l' us vs b (H2 ha h1) (H2 ha' h2) hb ha ha' hk hk';exact⟨_,h,rfl,H1 ho e1 e2 h4 (by unfold binOp;rw[Vt,h3];rfl)⟩
   ·cases h
  ·split at h
   ·rename_i b hb;obtain⟨h3,h4,h5⟩:=hE.eq T he (λ _=>True) S.w S.w x y l l' us vs b (H2 ha h1) (H2 ha' h2) hb ha ha' hk hk';exact⟨_,h,rfl,H1 ho e1 e2 h5 (by unfold binOp;rw[Vt,h3];rfl)⟩
   ·cases h
  ·cases h
 ·cases h
end

section
variable {X:Cx} {S:Sit} {a:Act} {E:En} {A:Ab} {o:Oper} {R:Type} {Kc:List Up→Option R} {r:R}
def D8 (X:Cx) (o:Oper) (a:Act) (w:World) (A:Ab) (Kc:List Up→Option R) (r:R):Prop:=∃ U,Kc U=some r∧X7 X o a w (ups A U)
def Ac (A:Ab):∀ (U V:List Up),ups A (U++V)=ups (ups A U) V
 |[],_=>rfl
 |u::U,V=>Ac (up A u) U V
def A6 (A:Ab) (l:Nat) (s:Sv):get (ups A [⟨l,false,s⟩])=upd (get A) l ((get A l).1+1,s):=Fm A ⟨l,false,s⟩
def Xa (hE:Dx X E) (K:Ae X S a) (hg:S.g=get A) {T:TypeId} {x:Operand} {s:Sv} (hx:opT E T A x=some s) {d:Nat} (hd:d<X.nt):
  ∃ S',Ae X S' (a.put (some d) (a.eval x))∧S'.g=get (ups A (gone x s++[⟨d,false,s⟩]))∧S'.w=S.w:=by
 have noOwn:∀ l,Fx s=false→Dq X.P S l s (a.eval x)→∃ S',Ae X S' (a.put (some d) (a.eval x))∧S'.g=get (ups A (gone x s++[⟨d,false,s⟩]))∧S'.w=S.w:=by
  intro l ho hs;refine⟨_,K.put0 hd s _ l ho hs,?_,rfl⟩
  have hgo:gone x s=[]:=by
   unfold gone;split
   ·rw[ho];rfl
   ·rfl
  rw[hgo,Wl,A6,← hg];rfl
 rcases F7 hE K hg hx with⟨t,rfl,ht,hs,he,hok⟩|⟨hnt,y,rfl,hy⟩
 ·cases ho:Fx s
  ·exact noOwn t ho hok
  obtain⟨K1,h1,_⟩:=Fn K t 0
  have hgo:gone (.tmp t) s=[⟨t,false,.one .dead⟩]:=by simp[gone,ho]
  let h:Nat→List Nat→Option Lab:=λ n q=>if n=0 then some (.pl d q) else none
  have L:=C5 (Ez S t 0) h d (K.lt0 hd) s (a.eval (.tmp t))
  have hso:Dq X.P (Et (Ez S t 0) h d s (a.eval (.tmp t))) d s (a.eval (.tmp t)):=by
   refine Dq.imp (S:=S) (l:=t) (λ p x u hx=>?_) hok;exact(h1 p x u hx).later L (λ k hk=>⟨De hk (by simp[h]),rfl⟩)
  refine⟨_,K1.put hd h (by intro n q p hp;simp only[h]at hp;split at hp<;>first|(cases hp;exact⟨q,rfl⟩)|cases hp) s _ hso,?_,rfl⟩
  rw[hgo];show upd (Ez S t 0).g d _=_;rw[Wq,show ups A [⟨t,false,.one .dead⟩,⟨d,false,s⟩]=ups (ups A [⟨t,false,.one .dead⟩]) [⟨d,false,s⟩] from rfl,A6,A6,← hg];rfl
 ·cases ho:Fx (.one y)
  ·exact noOwn 0 ho (hy _)
  have hgo:gone x (.one y)=[]:=by
   unfold gone;split
   ·exact absurd rfl (hnt _)
   ·rfl
  refine⟨_,K.put hd (λ _ _=>none) (by simp) (.one y) _ ?_,?_,rfl⟩
  ·exact(hy (.pl d [])).later (C5 S (λ _ _=>none) d (K.lt0 hd) (.one y) _) (λ k hk=>⟨Ai (h:=λ _ _=>none) (o := .pl d []) hk (by simp),rfl⟩)
  ·rw[hgo,Wl,A6,← hg];rfl
def Ge {x:Operand} {P:Program} {w:World} (ho:o.op = .move x∨o.op = .assign x):(execOp a.eval o).run P w = .ok (.value (a.eval x)) w:=by
 unfold execOp
 rcases ho with ho|ho<;>simp[ho]
def Dka (K:Ae X S a) (hg:S.g=get A) {t d:Nat} (hd:d<X.nt):
  ∃ S',Ae X S' (a.put (some d) (S.ph t))∧S'.g=get (ups A [⟨d,false,.one (.al t (get A t).1)⟩])∧S'.w=S.w:=by
 refine⟨_,K.put0 hd (.one (.al t (get A t).1)) (S.ph t) 0 rfl ⟨by rw[hg];exact Vo _,λ _=>rfl⟩,?_,rfl⟩;rw[A6,← hg];rfl
def Eja (hE:Dx X E) (K:Ae X S a) (hg:S.g=get A) {x:Operand} {d:Nat} (ho:o.op = .move x) (hod:o.dst=some d) (hd:d<X.nt) (h:Af E o A Kc=some r):D8 X o a S.w A Kc r:=by
 unfold Af at h;rw[ho,hod]at h;simp only at h;split at h
 ·rename_i s hs
  have any:Kc (gone x s++[⟨d,false,s⟩])=some r→D8 X o a S.w A Kc r:=λ hk=>by
   obtain⟨S',K',hg',hw⟩:=Xa hE K hg hs hd;exact⟨_,hk,A9 (S:=S') (by rw[hw];exact Ge (.inl ho)) (by rw[hod];exact K') hg'⟩
  split at h
  ·rename_i t e r' xs
   cases hn:(E.nm t&&!(E.mv d)) with
   |true=>
    rw[hn]at h;simp only[cond_true]at h;rcases F7 hE K hg hs with⟨t',ht',htl,_,he,_⟩|⟨hnt,_⟩
    ·cases ht';obtain⟨S',K',hg',hw⟩:=Dka (t:=t) K hg hd;exact⟨_,h,A9 (S:=S') (v:=S.ph t) (by rw[hw,Ge (.inl ho),he]) (by rw[hod];exact K') hg'⟩
    ·exact absurd rfl (hnt t)
   |false=>
    rw[hn]at h;simp only[cond_false]at h;refine any ?_;rw[← h];simp[gone,Fx,C0]
  ·rename_i t p;rcases F7 hE K hg hs with⟨t',ht',htl,_,he,hi⟩|⟨hnt,_⟩
   ·cases ht';have hio:3001000≤p∧a.eval (.tmp t)=S.ph p:=hi;obtain⟨S',K',hg',hw⟩:=Dka (t:=p) K hg hd;exact⟨_,h,A9 (S:=S') (v:=S.ph p) (by rw[hw,Ge (.inl ho),hio.2]) (by rw[hod];exact K') hg'⟩
   ·exact absurd rfl (hnt t)
  ·exact any h
 ·cases h
def Gw {d:Nat} (K:Ae X S a) (hg:S.g=get A) (hod:o.dst=some d) (hd:d<X.nt) {v:Value} (hv:Qu v=true) (hr:(execOp a.eval o).run X.P S.w = .ok (.value v) S.w)
  (h:Kc [⟨d,false,.one (.sc v)⟩]=some r):D8 X o a S.w A Kc r:=⟨_,h,Eia K hg hd hod hv hr⟩
def Cu (hE:Dx X E) (K:Ae X S a) (hg:S.g=get A) {T:TypeId} {x:Operand} {s:Sv} (hx:opT E T A x=some s):∃ l,Dq X.P S l s (a.eval x):=by
 rcases F7 hE K hg hx with⟨t,_,_,_,_,h⟩|⟨_,y,rfl,hy⟩
 ·exact⟨t,h⟩
 ·exact⟨0,hy _⟩
def Boa (hE:Dx X E) (K:Ae X S a) (hg:S.g=get A) {op:BinOp} {T T':TypeId} {x y:Operand} {d:Nat} (ho:o.op = .binOp op T x y T') (hod:o.dst=some d) (hd:d<X.nt) (h:Af E o A Kc=some r):D8 X o a S.w A Kc r:=by
 unfold Af at h;rw[ho,hod]at h;simp only at h;split at h
 ·rename_i s s' hs hs';obtain⟨v,h1,h2,h3⟩:=Gpa hE (S:=S) h (Cu hE K hg hs) (Cu hE K hg hs') ho;exact Gw K hg hod hd h2 h3 h1
 ·cases h
def Eka (hE:Dx X E) (K:Ae X S a) (hg:S.g=get A) {op:UnOp} {T:TypeId} {x:Operand} {d:Nat} (ho:o.op = .unOp op T x) (hod:o.dst=some d) (hd:d<X.nt) (h:Af E o A Kc=some r):D8 X o a S.w A Kc r:=by
 unfold Af at h;rw[ho,hod]at h;simp only at h;split at h
 ·rename_i s hs;obtain⟨l,hl⟩:=Cu hE K hg hs;unfold uop at h;split at h
  ·rename_i k n;have e:a.eval x = .int k n:=hl.1;exact Gw K hg hod hd rfl (by unfold execOp;simp[ho,e,Op.unary,Op.intArith]) h
  ·rename_i k n;have e:a.eval x = .int k n:=hl.1;exact Gw K hg hod hd rfl (by unfold execOp;simp[ho,e,Op.unary,Op.intBits]) h
  ·rename_i b;have e:a.eval x = .bool b:=hl.1;exact Gw K hg hod hd rfl (by unfold execOp;simp[ho,e,Op.unary]) h
  ·cases h
 ·cases h
def Ela (hE:Dx X E) (K:Ae X S a) (hg:S.g=get A) {c x y:Operand} {d:Nat} (ho:o.op = .pick c x y) (hod:o.dst=some d) (hd:d<X.nt) (h:Af E o A Kc=some r):D8 X o a S.w A Kc r:=by
 unfold Af at h;rw[ho,hod]at h;simp only at h;split at h
 ·rename_i b hc;have e:=(Fo hE K hg hc).1
  cases b with
  |true=>
   simp only[cond_true]at h;split at h
   ·rename_i u hu;obtain⟨e1,e2⟩:=Fo hE K hg hu;exact Gw K hg hod hd e2 (by unfold execOp;simp[ho,e,asBool,e1]) h
   ·cases h
  |false=>
   simp only[cond_false]at h;split at h
   ·rename_i u hu;obtain⟨e1,e2⟩:=Fo hE K hg hu;exact Gw K hg hod hd e2 (by unfold execOp;simp[ho,e,asBool,e1]) h
   ·cases h
 ·cases h
def Ko {P:Program} {T:TypeId} (h:Oy E T=true) (hE:∀ T t,E.ti T=some t→TOk P T t):P.underlying T=some .string:=by
 unfold Oy at h;split at h
 ·rename_i hT;have:=(hE _ _ hT).desc;unfold Jf at this
  split at this<;>simp_all
 ·cases h
def Dk {P:Program} {T e:TypeId} (h:Hu E T e=true) (hE:∀ T t,E.ti T=some t→TOk P T t):P.underlying T=some (.slice e):=by
 unfold Hu elT at h;split at h
 ·rename_i e' he;split at he
  ·rename_i e'' _ _ _ hT;simp at he;subst he
   have e1:e''=e:=by simpa using h
   subst e1;have:=(hE _ _ hT).desc;unfold Jf at this
   split at this<;>simp_all
  ·cases he
 ·cases h
def Bpa (hE:Dx X E) (K:Ae X S a) (hg:S.g=get A) {T:TypeId} {x i:Operand} {d:Nat} (ho:o.op = .index T x i) (hod:o.dst=some d) (hd:d<X.nt) (h:Af E o A Kc=some r):D8 X o a S.w A Kc r:=by
 unfold Af at h;rw[ho,hod]at h;simp only at h;split at h
 ·rename_i s k n hs hn;have e1:=(Fo hE K hg hs).1;have e2:=(Fo hE K hg hn).1;cases hq:(Oy E T&&decide (0≤n))
  ·rw[hq]at h;simp at h
  rw[hq]at h;simp only[cond_true]at h;simp only[Va,decide_eq_true_eq]at hq;have hu:=Ko hq.1 hE.ti
  by_cases hlt:n<(s.size:Int)
  ·simp only[hlt,decide_true,cond_true]at h
   have hb:s[n.toNat]? = some s[n.toNat]:=by
    rw[getElem?_pos]
   have hv:bt s n=(s[n.toNat].toNat:Int):=by
    unfold bt
    have hl:n.toNat<s.data.toList.length:=by
     have:s.data.toList.length=s.size:=rfl;omega
    rw[Vm,Vp hl];rfl
   refine Gw K hg hod hd rfl ?_ h;unfold execOp;simp[ho,e1,e2,Instr.index,asIntOf,underlying,hu,hq.2,hb,hv]
  ·simp[hlt]at h
 ·cases h
def I3 {y:Lf} {u:Value} {lab:Lab} (K:Ae X S a) (hg:S.g=get A) (h:Ad X.P S lab y u):∃ lab',Ad X.P S lab' (E8 A y) u:=by
 unfold E8;split
 ·rename_i p v;split
  ·rename_i n e r xs hp;cases hb:Nat.beq n v
   ·exact⟨lab,trivial⟩
   have hnv:n=v:=by simpa using hb
   subst hnv;have e1:u=S.ph p:=h.2 (by rw[hg,hp]);refine⟨.pl p [],?_⟩;have:=K.at_ p;rw[hg,hp]at this;rw[e1];exact this
  ·rename_i n e r xs hp;cases hb:Nat.beq n v
   ·exact⟨lab,trivial⟩
   have hnv:n=v:=by simpa using hb
   subst hnv;have e1:u=S.ph p:=h.2 (by rw[hg,hp]);refine⟨.pl p [],?_⟩;have:=K.at_ p;rw[hg,hp]at this;rw[e1];exact this
  ·exact⟨lab,trivial⟩
 ·exact⟨lab,h⟩
def Lh {e:TypeId} {r:Ty} {xs:List r.den} {u:Value} {lab:Lab} (h:Ad X.P S lab (.fz e r xs) u):∃ ad cap,u = .slice ad xs.length cap:=by
 obtain⟨v,e1,_,ad,cap,_,e2,_⟩:=h;cases e1;exact⟨ad,cap,e2⟩
def Jg {e:TypeId} {r:Ty} {xs:List r.den} {u:Value} {lab:Lab} (h:Ad X.P S lab (.own e r xs) u):∃ ad cap,u = .slice ad xs.length cap:=by
 obtain⟨_,cs,ho,_⟩:=Bt.top h;rcases Bz ho with⟨e1,e2,_⟩|⟨k,cap,_,e1,_⟩
 ·exact⟨none,0,by rw[e1,e2]⟩
 ·exact⟨_,cap,e1⟩
def Ph {p v:Nat} {pi:Option (List (Int×Nat))} {e:TypeId} {r:Ty} {xs:List r.den} {u:Value} {lab:Lab} (h:Ad X.P S lab (.da p v pi e r xs) u) (hv:(S.g p).1=v):∃ ad cap,u = .slice ad xs.length cap:=by
 obtain⟨_,_,h2⟩:=h;obtain⟨_,⟨_,a,cap,_,_,e,_⟩,_⟩:=h2 hv;exact⟨a,cap,e⟩
def Nl {P:Program} {w:World} {T:TypeId} {x:Operand} {c:Call} (ho:o.op = .call c) (hc:c.callee = .builtin .len) (hT:c.argTypes.toList=[T]) (hx:c.args.toList=[x]) {v:Value}
  (hr:(Builtin.len_ #[T] o.type #[a.eval x]).run P w = .ok v w):(execOp a.eval o).run P w = .ok (.value v) w:=by
 have e1:c.args = #[x]:=by rw[← hx]
 have e2:c.argTypes = #[T]:=by rw[← hT]
 unfold execOp;simp[ho,resolve,hc,e1,e2,invoke,builtin,hr]
def Gqa (hE:Dx X E) (K:Ae X S a) (hg:S.g=get A) {c:Call} (ho:o.op = .call c) (hc:c.callee = .builtin .len) (hd:∀ d,o.dst=some d→d<X.nt) (h:Af E o A Kc=some r):D8 X o a S.w A Kc r:=by
 unfold Af at h;rw[ho]at h;simp only[hc]at h;split at h
 ·rename_i T x d hT hx hod;have hdl:=hd d hod;split at h
  ·rename_i y hs;obtain⟨l,hl⟩:=Cu hE K hg hs;obtain⟨lab',hl'⟩:=I3 K hg (show Ad X.P S (.pl l []) y (a.eval x) from hl);split at h
   ·rename_i s hy;rw[hy]at hl';cases hq:Oy E T
    ·rw[hq]at h;simp at h
    rw[hq]at h;have hu:=Ko hq hE.ti;have e1:a.eval x = .string s:=hl'.1;exact Gw K hg hod hdl rfl (Nl ho hc hT hx (by simp[Builtin.len_,underlying,hu,e1,goInt])) h
   ·rename_i p v pi e r' xs hy;rw[hy]at hl';cases hq:(Hu E T e&&Nat.beq (get A p).1 v)
    ·rw[hq]at h;simp at h
    rw[hq]at h;simp only[Va]at hq;have hu:=Dk hq.1 hE.ti;obtain⟨ad,cap,e1⟩:=Ph hl' (by rw[hg];exact Vb hq.2);exact Gw K hg hod hdl rfl (Nl ho hc hT hx (by simp[Builtin.len_,underlying,hu,e1,goInt])) h
   ·rename_i e r' xs hy;rw[hy]at hl';cases hq:Hu E T e
    ·rw[hq]at h;simp at h
    rw[hq]at h;have hu:=Dk hq hE.ti;obtain⟨ad,cap,e1⟩:=Lh hl';exact Gw K hg hod hdl rfl (Nl ho hc hT hx (by simp[Builtin.len_,underlying,hu,e1,goInt])) h
   ·rename_i e r' xs hy;rw[hy]at hl';cases hq:Hu E T e
    ·rw[hq]at h;simp at h
    rw[hq]at h;have hu:=Dk hq hE.ti;obtain⟨ad,cap,e1⟩:=Jg hl';exact Gw K hg hod hdl rfl (Nl ho hc hT hx (by simp[Builtin.len_,underlying,hu,e1,goInt])) h
   ·cases h
  ·cases h
 ·cases h
def R9 (hE:Dx X E) (K:Ae X S a) (hg:S.g=get A):∀ {Ts:List TypeId} {xs:List Operand} {ss:List Sv},J9 E Ts A xs=some ss→Ew (λ s x=>∃ T,opT E T A x=some s) ss xs
 |_,[],ss,h=>by simp[J9]at h;subst h;exact .nil
 |[],x::xs,ss,h=>by simp[J9]at h
 |T::Ts,x::xs,ss,h=>by
  simp only[J9]at h;split at h
  ·rename_i s hs;split at h
   ·rename_i ss' hss;simp at h;subst h;exact .cons ⟨T,hs⟩ (R9 hE K hg hss)
   ·cases h
  ·cases h
def Pi (hE:Dx X E) (K:Ae X S a) (hg:S.g=get A) (mx:Bool):∀ {ss:List Sv} {xs:List Operand} {k:IntKind} {x:Int} {Kv:Value→Option R} {r:R},Ew (λ s x=>∃ T,opT E T A x=some s) ss xs→Hw mx ss k x Kv=some r→
  ∃ n,Kv (.int k n)=some r∧((xs.map a.eval).foldlM (if mx then Builtin.max2 else Builtin.min2) (.int k x)).run X.P S.w = .ok (.int k n) S.w
 |[],_,k,x,Kv,r,.nil,h=>⟨x,h,rfl⟩
 |s::ss,_,k,x,Kv,r,.cons ⟨T,hs⟩ hss,h=>by
  rename_i y ys;unfold Hw at h;split at h
  ·rename_i heq;cases heq
  ·rename_i k x Kv _ _ _ _ k' z l heq;simp only[Wm]at heq;obtain⟨rfl,rfl⟩:=heq;have e:=(Fo hE K hg hs).1
   by_cases hk:k=k'
   ·rw[decide_eq_true hk,cond_true]at h;rw[← hk]at e;obtain⟨n,h1,h2⟩:=Pi hE K hg mx hss h;refine⟨n,h1,?_⟩
    cases mx with
    |true=>
     simp only[Ya,List.foldlM_cons,e,if_true,Vt,Builtin.max2,Wh,Vs]
     simpa using h2
    |false=>
     simp only[Ya,List.foldlM_cons,e,Wa,if_false,Vt,Builtin.min2,Wh,Vs]
     simpa using h2
   ·simp[hk]at h
  ·cases h
def Pj (hE:Dx X E) (K:Ae X S a) (hg:S.g=get A) {c:Call} (mx:Bool) (ho:o.op = .call c) (hc:c.callee = .builtin (if mx then .max else .min)) (hd:∀ d,o.dst=some d→d<X.nt) (h:Af E o A Kc=some r):D8 X o a S.w A Kc r:=by
 have key:∀ (k:IntKind) (x:Int) (l:List Sv) (d:Nat),J9 E c.argTypes.toList A c.args.toList=some (.one (.sc (.int k x))::l)→o.dst=some d→
   Hw mx l k x (λ u=>Kc [⟨d,false,.one (.sc u)⟩])=some r→D8 X o a S.w A Kc r:=by
  intro k x l d hs hod hm;have hall:=R9 hE K hg hs;generalize hxs:c.args.toList=xs at hall
  cases hall with
  |@cons s y ss ys h0 hl=>
   obtain⟨T,h0⟩:=h0;have e:=(Fo hE K hg h0).1;obtain⟨n,h1,h2⟩:=Pi hE K hg mx hl hm;refine Gw K hg hod (hd d hod) rfl ?_ h1
   have hargs:(c.args.map a.eval).toList = .int k x::ys.map a.eval:=by rw[Array.toList_map,hxs,Ya,e]
   unfold execOp
   cases mx with
   |true=>
    simp only[if_true]at hc h2;simp only[ho,resolve,hc,Vt,Wh,Vs,invoke,builtin,Builtin.max_,hargs,h2]
   |false=>
    simp only[Wa,if_false]at hc h2;simp only[ho,resolve,hc,Vt,Wh,Vs,invoke,builtin,Builtin.min_,hargs,h2]
 unfold Af at h;rw[ho]at h
 cases mx with
 |true=>
  simp only[if_true]at hc;simp only[hc]at h;split at h
  ·rename_i k x l d hs hod;exact key k x l d hs hod h
  ·cases h
 |false=>
  simp only[Wa,if_false]at hc;simp only[hc]at h;split at h
  ·rename_i k x l d hs hod;exact key k x l d hs hod h
  ·cases h
end

def reP (O:Nat→Lab) (l i:Nat) (f:List Nat→Option (List Nat)):Nat→Lab:=λ k=>match O k with
 |.pl l' p=>if l'=l then (match f p with
  |some q => .tm i q
  |none => .pl l' p) else .pl l' p
 |o=>o
section
variable {X:Cx} {S:Sit} {a:Act} {E:En} {A:Ab} {o:Oper} {R:Type} {Kc:List Up→Option R} {r:R}
def Df {O:Nat→Lab} {l i k:Nat} {f:List Nat→Option (List Nat)} (h:∀ p,O k ≠ .pl l p):reP O l i f k=O k:=by
 unfold reP
 cases hk:O k<;>simp
 rename_i l' p;intro e;subst e;exact absurd hk (h p)
def Ema {O:Nat→Lab} {l i k:Nat} {f:List Nat→Option (List Nat)} {p q:List Nat} (h:O k = .pl l p) (hf:f p=some q):reP O l i f k = .tm i q:=by
 unfold reP;rw[h];simp[hf]
def Sk {O:Nat→Lab} {l i k:Nat} {f:List Nat→Option (List Nat)} {p:List Nat} (h:O k = .pl l p) (hf:f p=none):reP O l i f k = .pl l p:=by
 unfold reP;rw[h];simp[hf]
def Ja (S:Sit) (l i:Nat) (f:List Nat→Option (List Nat)) (s:Sv):Sit := { S with O:=reP S.O l i f,g:=upd S.g l ((S.g l).1+1,s) }
def Fz (S:Sit) (l i:Nat) (f:List Nat→Option (List Nat)) (s:Sv):Bu S (Ja S l i f s) where
 ver:=λ p=>by
  by_cases h:p=l
  ·subst h;simp[Ja]
  ·simp[Ja,A8 _ _ h]
 ph:=λ _ _=>rfl
 own:=λ p v e r xs' h hv=>by
  by_cases hp:p=l
  ·subst hp;simp only[Ja,A7,Vu]at h;omega
  ·simp only[Ja,A8 _ _ hp]at h;exact⟨xs',h,rfl⟩
 bb:=λ _ _=>rfl
 fz:=λ k h=>⟨(Df (by simp[h])).trans h,rfl⟩
 box:=Bu.box_of (λ b n hv hh=>by
  have hb:H b≠l:=λ e=>by subst e;simp[Ja]at hv
  exact(congrArg Prod.snd (A8 _ _ hb)).trans hh) (λ k b h=>⟨(Df (by simp[h])).trans h,rfl⟩)
 bor:=λ p hv hd=>by
  have hp:p≠l:=λ e=>by subst e;simp[Ja]at hv
  have hg:(Ja S l i f s).g p=S.g p:=A8 _ _ hp;rw[hg];exact⟨hd,λ _ _ _ h=>h,λ k hk=>⟨.inl ((Df (by simp[hk,hp])).trans hk),rfl⟩⟩
 io:=λ _ _=>rfl
def Nm (K:Ae X S a) (l i:Nat) (f:List Nat→Option (List Nat)) (s:Sv) (hnh:∀ n,s ≠ .one (.hd n)) (hs:Dq X.P (Ja S l i f s) l s (S.ph l)):
  Ae X (Ja S l i f s) a∧(∀ p q x u,f p=some q→Ad X.P S (.pl l p) x u→Ad X.P (Ja S l i f s) (.tm i q) x u)∧(∀ n q x u,Ad X.P S (.tm n q) x u→Ad X.P (Ja S l i f s) (.tm n q) x u):=by
 have L:=Fz S l i f s;refine⟨?_,λ p q x u hf h=>h.later L (λ k hk=>⟨Ema hk hf,rfl⟩),λ n q x u h=>h.later L (λ k hk=>⟨(Df (by simp[hk])).trans hk,rfl⟩)⟩;refine K.ghost _ _ (λ k h=>(Df (by simp[h])).trans h) (λ k h=>?_) (λ k h=>(Df (by simp[h])).trans h) (λ k b h=>(Df (by simp[h])).trans h) (λ b n h=>?_) (λ l'=>?_)
 ·intro e;exact h ((Df (by simp[e])).trans e)
 ·by_cases hb:H b=l
  ·subst hb;simp at h;exact absurd h (hnh n)
  ·rwa [A8 _ _ hb]at h
 ·by_cases hl:l'=l
  ·subst hl;show Dq X.P _ l' (upd S.g l' _ l').2 _;simp only[A7];exact hs
  ·show Dq X.P _ l' (upd S.g l _ l').2 _;rw[A8 _ _ hl];exact(K.at_ l').later L (λ p k hk=>⟨(Df (by simp[hk,hl])).trans hk,rfl⟩)
def Bqa (K:Ae X S a) (hg:S.g=get A) {p d:Nat} (hd:d<X.nt) {s:Sv} (hs:(get A p).2=s):
  ∃ S',Ae X S' (a.put (some d) (S.ph p))∧S'.g=get (ups A [⟨p,false,.one .dead⟩,⟨d,false,s⟩])∧S'.w=S.w:=by
 obtain⟨K1,h1,_⟩:=Fn K p 0
 let h:Nat→List Nat→Option Lab:=λ n q=>if n=0 then some (.pl d q) else none
 have L:=C5 (Ez S p 0) h d (K.lt0 hd) s (S.ph p)
 have hok:Dq X.P S p s (S.ph p):=by have:=K.at_ p;rwa [hg,hs]at this
 have hso:Dq X.P (Et (Ez S p 0) h d s (S.ph p)) d s (S.ph p):=by
  refine Dq.imp (S:=S) (l:=p) (λ q x u hx=>?_) hok;exact(h1 q x u hx).later L (λ k hk=>⟨De hk (by simp[h]),rfl⟩)
 refine⟨_,K1.put hd h (by intro n q p hp;simp only[h]at hp;split at hp<;>first|(cases hp;exact⟨q,rfl⟩)|cases hp) s _ hso,?_,rfl⟩
 show upd (Ez S p 0).g d _=_;rw[show ups A [⟨p,false,.one .dead⟩,⟨d,false,s⟩]=ups (ups A [⟨p,false,.one .dead⟩]) [⟨d,false,s⟩] from rfl,A6,A6,← hg];rfl
def He (A:Ab) (l:Nat) (s:Sv):get (ups A [⟨l,true,s⟩])=upd (get A) l ((get A l).1,s):=Fm A ⟨l,true,s⟩
def Xb (hE:Dx X E) (K:Ae X S a) (hg:S.g=get A) {x:Operand} {d:Nat} (ho:o.op = .assign x) (hod:o.dst=some d) (hd:d<X.nt) (h:Af E o A Kc=some r):D8 X o a S.w A Kc r:=by
 unfold Af at h;rw[ho,hod]at h;simp only at h;split at h
 ·rename_i p v hs;obtain⟨l,hl⟩:=Cu hE K hg hs;split at h
  ·rename_i n e r' xs hp;cases hb:Nat.beq n v
   ·rw[hb]at h;simp at h
   rw[hb]at h;simp only[cond_true]at h
   have hnv:n=v:=by simpa using hb
   subst hnv;have he:a.eval x=S.ph p:=hl.2 (by rw[hg,hp])
   cases hr:E.res d with
   |true=>
    rw[hr]at h;simp only[cond_true]at h;obtain⟨S',K',hg',hw⟩:=Bqa K hg (p:=p) hd (s := .one (.own e r' xs)) (by rw[hp]);exact⟨_,h,A9 (S:=S') (v:=S.ph p) (by rw[hw,Ge (.inr ho),he]) (by rw[hod];exact K') hg'⟩
   |false=>
    rw[hr]at h;simp only[cond_false]at h;obtain⟨K1,_,hf⟩:=Le K (p:=p) (e:=e) (r:=r') (xs:=xs) (by rw[hg,hp]);have K2:=K1.put0 hd (.one (.fz e r' xs)) (S.ph p) 0 rfl (Ad.relab (lab' := .pl 0 []) rfl hf);refine⟨_,h,A9 (S:=_) (v:=S.ph p) ?_ (by rw[hod];exact K2) ?_⟩
    ·show _=Result.ok _ S.w;rw[Ge (.inr ho),he]
    ·show upd (frS S p e r' xs).g d _=_;rw[show ups A [⟨p,true,.one (.fz e r' xs)⟩,⟨d,false,.one (.fz e r' xs)⟩]=ups (ups A [⟨p,true,.one (.fz e r' xs)⟩]) [⟨d,false,.one (.fz e r' xs)⟩] from rfl,A6,He,← hg];rfl
  ·rename_i n e r' xs hp;cases hb:Nat.beq n v
   ·rw[hb]at h;simp at h
   rw[hb]at h;simp only[cond_true]at h
   have hnv:n=v:=by simpa using hb
   subst hnv;have he:a.eval x=S.ph p:=hl.2 (by rw[hg,hp])
   have hp':Dq X.P S p (.one (.fz e r' xs)) (S.ph p):=by have:=K.at_ p;rwa [hg,hp]at this
   have K2:=K.put0 hd (.one (.fz e r' xs)) (S.ph p) p rfl hp';refine⟨_,h,A9 (S:=_) (v:=S.ph p) ?_ (by rw[hod];exact K2) ?_⟩
   ·show _=Result.ok _ S.w;rw[Ge (.inr ho),he]
   ·show upd S.g d _=_;rw[A6,← hg]
  ·cases h
 ·rename_i s _ hs;obtain⟨S',K',hg',hw⟩:=Xa hE K hg hs hd;exact⟨_,h,A9 (S:=S') (by rw[hw];exact Ge (.inr ho)) (by rw[hod];exact K') hg'⟩
 ·cases h
def A5.len {P:Program} {S:Sit} {f:Nat→Lab}:∀ {j:Nat} {xs:List Lf} {us:List Value},A5 P S f j xs us→us.length=xs.length
 |_,[],[],_=>rfl
 |_,_::_,_::_,h=>by simp[h.2.len]
 |_,[],_::_,h=>h.elim
 |_,_::_,[],h=>h.elim
def A5.shift {P:Program} {S:Sit} {f:Nat→Lab}:∀ {j:Nat} {xs:List Lf} {us:List Value} (n:Nat),A5 P S f (j+n) xs us→A5 P S (λ i=>f (i+n)) j xs us
 |_,[],[],_,_=>trivial
 |j,_::xs,_::us,n,h=>⟨h.1,A5.shift (j:=j+1) n (by rw[show j+1+n=j+n+1 by omega];exact h.2)⟩
 |_,[],_::_,_,h=>h.elim
 |_,_::_,[],_,h=>h.elim
def A5.drop {P:Program} {S:Sit} {f:Nat→Lab}:∀ {j:Nat} {xs:List Lf} {us:List Value} (n:Nat),A5 P S f j xs us→A5 P S f (j+n) (xs.drop n) (us.drop n)
 |_,_,_,0,h=>h
 |_,[],[],_+1,_=>trivial
 |j,_::xs,_::us,n+1,h=>by
  rw[show j+(n+1)=j+1+n by omega];exact A5.drop n h.2
 |_,[],_::_,_,h=>h.elim
 |_,_::_,[],_,h=>h.elim
def A5.take {P:Program} {S:Sit} {f:Nat→Lab}:∀ {j:Nat} {xs:List Lf} {us:List Value} (n:Nat),A5 P S f j xs us→A5 P S f j (xs.take n) (us.take n)
 |_,_,_,0,_=>trivial
 |_,[],[],_+1,_=>trivial
 |j,_::xs,_::us,n+1,h=>⟨h.1,A5.take n h.2⟩
 |_,[],_::_,_,h=>h.elim
 |_,_::_,[],_,h=>h.elim
def A5.app {P:Program} {S:Sit} {f:Nat→Lab}:∀ {j:Nat} {xs ys:List Lf} {us vs:List Value},A5 P S f j xs us→A5 P S f (j+xs.length) ys vs→A5 P S f j (xs++ys) (us++vs)
 |_,[],_,[],_,_,h=>h
 |j,_::xs,_,_::us,_,h,h'=>⟨h.1,A5.app h.2 (by rw[show j+1+xs.length=j+(xs.length+1) by omega];exact h')⟩
 |_,[],_,_::_,_,h,_=>h.elim
 |_,_::_,_,[],_,h,_=>h.elim
def A5.deads {P:Program} {S:Sit} {f:Nat→Lab}:∀ {j:Nat} (us:List Value),A5 P S f j (List.replicate us.length .dead) us
 |_,[]=>trivial
 |_,_::us=>⟨trivial,A5.deads us⟩
def Da {α:Type}:∀ (l:List α) (n:Nat),nth l n=l[n]?
 |[],_=>by simp[nth]
 |_::_,0=>by simp[nth]
 |_::l,n+1=>by simp[nth,Da l n]
def Gv.get {P:Program} {S:Sit} {l:Nat}:∀ {i:Nat} {vs:List (Bool×List Lf)} {us:List Value} (j:Nat) {v:Bool×List Lf},Gv P S l i vs us→vs[j]? = some v→
  ∃ u ws,us[j]? = some u∧(if v.1 then u = .agg ws.toArray else ws=[u])∧A5 P S (λ n => .pl l [i+j,n]) 0 v.2 ws
 |_,[],_,j,v,_,h=>by simp at h
 |i,v0::vs,u::us,0,v,⟨⟨ws,h1,h2⟩,_⟩,h=>by
  simp at h;subst h;exact⟨u,ws,rfl,h1,h2⟩
 |i,_::vs,_::us,j+1,v,⟨_,h3⟩,h=>by
  obtain⟨u,ws,e1,e2,e3⟩:=h3.get j (by simpa using h);exact⟨u,ws,by simpa using e1,e2,by rw[show i+(j+1)=i+1+j by omega];exact e3⟩
 |_,_::_,[],_,_,h,_=>h.elim
def Gv.gone {P:Program} {S S':Sit} {l:Nat} (j:Nat):∀ {i:Nat} {vs:List (Bool×List Lf)} {us:List Value},(∀ n m x u,n≠j→Ad P S (.pl l [n,m]) x u→Ad P S' (.pl l [n,m]) x u)→
  Gv P S l i vs us→i≤j→Gv P S' l i (vs.set (j-i) (false,[.dead])) us
 |_,[],[],_,_,_=>by simp[Gv]
 |i,v::vs,u::us,hi,⟨⟨ws,h1,h2⟩,h3⟩,hij=>by
  by_cases he:i=j
  ·subst he;simp only[L7a,List.set_cons_zero];refine⟨⟨[u],by simp,trivial,trivial⟩,?_⟩
   have:∀ {n:Nat} {vs:List (Bool×List Lf)} {us:List Value},i<n→Gv P S l n vs us→Gv P S' l n vs us:=by
    intro n vs
    induction vs generalizing n with
    |nil=>intro us _ h;cases us<;>first|trivial|exact h.elim
    |cons v vs ih=>
     intro us hn h
     cases us with
     |nil=>exact h.elim
     |cons u us=>
      obtain⟨⟨ws,h1,h2⟩,h3⟩:=h;exact⟨⟨ws,h1,h2.imp (λ m x u h=>hi n m x u (by omega) h)⟩,ih (by omega) h3⟩
   exact this (by omega) h3
  ·rw[show j-i=(j-(i+1))+1 by omega,List.set_cons_succ];exact⟨⟨ws,h1,h2.imp (λ m x u h=>hi i m x u he h)⟩,h3.gone j hi (by omega)⟩
 |_,[],_::_,_,h,_=>h.elim
 |_,_::_,[],_,h,_=>h.elim
def G0 {P:Program} {S:Sit} {ag:Bool} {l:List Lf} {s:Sv} {d:Nat} {u:Value} {ws:List Value} (h:F4 ag l=some s) (hu:if ag then u = .agg ws.toArray else ws=[u])
  (hl:A5 P S (λ n => .pl d (if ag then [n] else [])) 0 l ws):Dq P S d s u:=by
 unfold F4 at h
 cases ag with
 |true=>
  simp at h;subst h;exact⟨ws,by simpa using hu,by simpa using hl⟩
 |false=>
  simp only[cond_false]at h;split at h
  ·cases h;simp at hu;subst hu;exact hl.1
  ·cases h
def I4 {ag:Bool} {l:List Lf} {s:Sv} (h:F4 ag l=some s):Fx s=C0 l:=by
 unfold F4 at h;cases ag
 case true=>simp at h;subst h;rfl
 simp only[cond_false]at h;split at h
 ·cases h;rfl
 ·cases h
def Jh (d:Nat) (ag:Bool):Nat→List Nat→Option Lab:=λ n q=>if n=0 then some (.pl d (if ag then q else [])) else none
def Sm (d:Nat) (ag:Bool):∀ n q p,Jh d ag n q=some p→∃ p',p = .pl d p':=by
 intro n q p hp;unfold Jh at hp;split at hp
 ·cases hp;exact⟨_,rfl⟩
 ·cases hp
def Ua (hE:Dx X E) (K:Ae X S a) (hg:S.g=get A) {t j d:Nat} (ho:o.op = .extract (.tmp t) j) (hod:o.dst=some d) (hd:d<X.nt) (h:Af E o A Kc=some r):D8 X o a S.w A Kc r:=by
 unfold Af at h;rw[ho,hod]at h;simp only at h;cases hb:Nat.blt t E.nt
 ·rw[hb]at h;simp at h
 rw[hb]at h;simp only[cond_true]at h;have ht:t<X.nt:=hE.nt ▸ (Vd hb:t+1≤E.nt);have he:a.eval (.tmp t)=S.ph t:=K.sl t ht;split at h
 ·rename_i vs hvs
  have hok:Dq X.P S t (.tup vs) (S.ph t):=by have:=K.at_ t;rwa [hg,hvs]at this
  obtain⟨us,e1,hto⟩:=hok;split at h
  ·rename_i ag l hn;rw[Da]at hn;split at h
   ·rename_i s hs;obtain⟨u,ws,e2,e3,hl⟩:=hto.get j hn;simp only[Vy]at hl
    have hrun:(execOp a.eval o).run X.P S.w = .ok (.value u) S.w:=by
     unfold execOp;simp[ho,he,e1,Instr.extract,e2]
    cases hown:C0 l with
    |false=>
     rw[hown]at h;simp only[cond_false]at h;have hso:Dq X.P S d s u:=G0 hs e3 (hl.relab hown);have K2:=K.put0 hd s u d (by rw[I4 hs,hown]) hso;refine⟨_,h,A9 (S:=Et S (λ _ _=>none) d s u) hrun (by rw[hod];exact K2) ?_⟩;show upd S.g d _=_;rw[A6,← hg]
    |true=>
     rw[hown]at h;simp only[cond_true]at h
     let f:List Nat→Option (List Nat):=λ p=>match p with
      |[i,n]=>if i=j then some [n] else none
      |_=>none
     have L1:=Fz S t 0 f (.tup (vs.set j (false,[.dead])))
     obtain⟨K1,h1,_⟩:=Nm K t 0 f (.tup (vs.set j (false,[.dead]))) (by simp) ⟨us,e1,by
      refine hto.gone j (λ n m x u hne hx=>hx.later L1 (λ k hk=>⟨Sk hk (by simp[f,hne]),rfl⟩)) (Wn _)⟩
     have L2:=C5 (Ja S t 0 f (.tup (vs.set j (false,[.dead])))) (Jh d ag) d (K.lt0 hd) s u
     have hl2:A5 X.P (Et (Ja S t 0 f (.tup (vs.set j (false,[.dead])))) (Jh d ag) d s u) (λ n => .pl d (if ag then [n] else [])) 0 l ws:=by
      refine hl.imp (λ n x u hx=>?_);exact(h1 [j,n] [n] x u (by simp[f]) hx).later L2 (λ k hk=>⟨De hk (by simp[Jh]),rfl⟩)
     have K2:=K1.put hd (Jh d ag) (Sm d ag) s u (G0 hs e3 hl2);refine⟨_,h,A9 (S:=Et (Ja S t 0 f (.tup (vs.set j (false,[.dead])))) (Jh d ag) d s u) hrun (by rw[hod];exact K2) ?_⟩;show upd (Ja S t 0 f (.tup (vs.set j (false,[.dead])))).g d _=_;rw[show ∀ u1 u2,ups A [u1,u2]=ups (ups A [u1]) [u2] from λ _ _=>rfl,A6,A6,← hg];rfl
   ·cases h
  ·cases h
 ·cases h
end

end Go.Proofs.Ytbbifgjgneefkaa.Vf
