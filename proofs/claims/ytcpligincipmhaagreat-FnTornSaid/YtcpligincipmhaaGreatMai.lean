import Derived.Test.YtcpligincipmhaaGreatMah
import Derived.ChangeArms
import Derived.SizedLaws
import Derived.DataReads
set_option linter.all false
namespace Go.Proofs.YtcpligincipmhaaGreat.Vf
open Go
open List (length getD)
open Int (toNat)
open Go.IntKind (wrap)
open BitVec (ofInt)
def Wd:=@List.pairwise_cons
def Wg:=@List.all_eq_true
def Za:=@List.pairwise_append
def Zr:=@List.pairwise_map
def Zv:=@List.take_length
def Awb:=@List.getElem?_set_ne
def Bib:=@List.eq_nil_iff_forall_not_mem
def Blb:=@List.getElem_mem
def Cfb:=@Option.bind_eq_some_iff

section
attribute [local irreducible] C H
def Loc {R:Type} (E:En) (o:Oper) (A:Ab) (F:List Nat) (Kc:List Up→Option R) (r:R):Prop:=
 ∃ U,Kc U=some r∧∀ A',Ag A A' F→∀ {R':Type} (K':List Up→Option R'),Aw E o A' K'=K' U
section
variable {E:En} {A A':Ab} {F:List Nat} {o:Oper} {R:Type} {Kc:List Up→Option R} {r:R}
def Iaa {op:BinOp} {k:IntKind} {x y:Int} {Kv:Value→Option R} (h:R3 op k x y Kv=some r):∃ v,Kv v=some r∧∀ {R':Type} (K':Value→Option R'),R3 op k x y K'=K' v:=by
 cases op
 case quo=>
  simp only[R3]at h ⊢
  cases hy:decide (y=0) with
  |true=>rw[hy]at h;simp at h
  |false=>rw[hy]at h;exact⟨_,h,λ K'=>rfl⟩
 case rem=>
  simp only[R3]at h ⊢
  cases hy:decide (y=0) with
  |true=>rw[hy]at h;simp at h
  |false=>rw[hy]at h;exact⟨_,h,λ K'=>rfl⟩
 all_goals first|exact⟨_,h,λ K'=>rfl⟩|(simp[R3]at h;done)
def Iba {op:BinOp} {x y:ByteArray} {Kv:Value→Option R} (h:Uv op x y Kv=some r):∃ v,Kv v=some r∧∀ {R':Type} (K':Value→Option R'),Uv op x y K'=K' v:=by
 cases op
 case add=>
  simp only[Uv]at h ⊢
  cases hy:Nat.ble (x.size+y.size) 9223372036854775807 with
  |false=>rw[hy]at h;simp at h
  |true=>rw[hy]at h;exact⟨_,h,λ K'=>rfl⟩
 all_goals first|exact⟨_,h,λ K'=>rfl⟩|(simp[Uv]at h;done)
def U6a {op:BinOp} {t:Option TI} {e:Bool} {x y:Sv} {Kv:Value→Option R} (h:bop op t e x y Kv=some r):∃ v,Kv v=some r∧∀ {R':Type} (K':Value→Option R'),bop op t e x y K'=K' v:=by
 unfold bop at h;split at h
 ·rename_i k a k' b;split at h
  ·cases hb:decide (b<0) with
   |true=>rw[hb]at h;simp at h
   |false=>rw[hb]at h;exact⟨_,h,λ K'=>by unfold bop;simp only[hb,cond_false]⟩
  ·cases hb:decide (b<0) with
   |true=>rw[hb]at h;simp at h
   |false=>rw[hb]at h;exact⟨_,h,λ K'=>by unfold bop;simp only[hb,cond_false]⟩
  ·rename_i n1 n2;obtain⟨hb,h⟩:=cs h;obtain⟨v,h1,h2⟩:=Iaa h;refine⟨v,h1,λ K'=>?_⟩;unfold bop
   cases op<;>first|exact(n1 rfl).elim|exact(n2 rfl).elim|(simp only[hb,cond_true];exact h2 K')
 ·obtain⟨v,h1,h2⟩:=Iba h;exact⟨v,h1,λ K'=>h2 K'⟩
 ·rename_i a b;split at h
  ·exact⟨_,h,λ K'=>rfl⟩
  ·exact⟨_,h,λ K'=>rfl⟩
  ·cases h
 ·rename_i l l';obtain⟨hb,h⟩:=cs h;split at h
  ·split at h
   ·rename_i b he;exact⟨_,h,λ K'=>by unfold bop;simp only[hb,cond_true,he]⟩
   ·cases h
  ·split at h
   ·rename_i b he;exact⟨_,h,λ K'=>by unfold bop;simp only[hb,cond_true,he]⟩
   ·cases h
  ·cases h
 ·cases h
def U7a {op:UnOp} {x:Sv} {Kv:Value→Option R} (h:uop op x Kv=some r):∃ v,Kv v=some r∧∀ {R':Type} (K':Value→Option R'),uop op x K'=K' v:=by
 unfold uop at h;split at h
 ·exact⟨_,h,λ K'=>rfl⟩
 ·exact⟨_,h,λ K'=>rfl⟩
 ·exact⟨_,h,λ K'=>rfl⟩
 ·cases h
def Pma {t t':Option TI} {x:Sv} {Kv:Sv→Option R} (h:conv t t' x Kv=some r):∃ v,Kv v=some r∧∀ {R':Type} (K':Sv→Option R'),conv t t' x K'=K' v:=by
 unfold conv at h;split at h
 ·exact⟨_,h,λ K'=>rfl⟩
 ·exact⟨_,h,λ K'=>rfl⟩
 ·rename_i e _ _ _ _ e' xs
  cases hb:Nat.beq e e' with
  |false=>rw[hb]at h;simp at h
  |true=>rw[hb]at h;exact⟨_,h,λ K'=>by unfold conv;simp only[hb,cond_true]⟩
 ·rename_i e _ _ _ _ e' xs
  cases hb:Nat.beq e e' with
  |false=>rw[hb]at h;simp at h
  |true=>rw[hb]at h;exact⟨_,h,λ K'=>by unfold conv;simp only[hb,cond_true]⟩
 ·rename_i s
  cases hb:Nat.ble s.size 140737488355328 with
  |false=>rw[hb]at h;simp at h
  |true=>rw[hb]at h;exact⟨_,h,λ K'=>by unfold conv;simp only[hb,cond_true]⟩
 ·cases h
def W0 {mx:Bool}:∀ {l:List Sv} {k:IntKind} {x:Int} {Kv:Value→Option R},Ny mx l k x Kv=some r→∃ v,Kv v=some r∧∀ {R':Type} (K':Value→Option R'),Ny mx l k x K'=K' v:=by
 intro l
 induction l with
 |nil=>intro k x Kv h;exact⟨_,h,λ K'=>rfl⟩
 |cons s l ih=>
  intro k x Kv h;unfold Ny at h;split at h
  ·rename_i heq;cases heq
  ·rename_i k0 x0 K0 l9 k9 x9 K9 k' y l0 heq;cases heq;obtain⟨hb,h⟩:=cs h;obtain⟨v,h1,h2⟩:=ih h;exact⟨v,h1,λ K'=>by conv => { lhs;unfold Ny };simp only[hb,cond_true];exact h2 K'⟩
  ·cases h
def Kt {lo hi:Option Int} {n:Nat} {Kv:Unit→Option R} (h:D6a lo hi n Kv=some r):Kv ()=some r∧∀ {R':Type} (K':Unit→Option R'),D6a lo hi n K'=K' ():=by
 unfold D6a at h;split at h
 ·exact⟨h,λ K'=>rfl⟩
 ·rename_i l;obtain⟨h1,h⟩:=cs h
  cases h2:decide (l≤(n:Int)) with
  |false=>rw[h2]at h;simp at h
  |true=>rw[h2,cond_true]at h;exact⟨h,λ K'=>by unfold D6a;simp only[h1,h2,cond_true]⟩
 ·rename_i l;obtain⟨h1,h⟩:=cs h
  cases h2:decide (l≤(n:Int)) with
  |false=>rw[h2]at h;simp at h
  |true=>rw[h2,cond_true]at h;exact⟨h,λ K'=>by unfold D6a;simp only[h1,h2,cond_true]⟩
 ·rename_i l u;obtain⟨h1,h⟩:=cs h;obtain⟨h2,h⟩:=cs h
  cases h3:decide (u≤(n:Int)) with
  |false=>rw[h3]at h;simp at h
  |true=>rw[h3,cond_true]at h;exact⟨h,λ K'=>by unfold D6a;simp only[h1,h2,h3,cond_true]⟩
def Laa {op:BinOp} {T T':TypeId} {x y:Operand} {d:Nat} (ho:o.op = .binOp op T x y T') (hod:o.dst=some d) (hx:RX A F x) (hy:RX A F y) (h:Aw E o A Kc=some r):Loc E o A F Kc r:=by
 unfold Aw at h;rw[ho,hod]at h;simp only at h;split at h
 ·rename_i s s' hs hs';obtain⟨v,h1,h2⟩:=U6a h;refine⟨_,h1,λ A' hA R' K'=>?_⟩;unfold Aw;rw[ho,hod];simp only[B3 hA hx,B3 hA hy,hs,hs'];exact h2 _
 ·cases h
def Pna {op:UnOp} {T:TypeId} {x:Operand} {d:Nat} (ho:o.op = .unOp op T x) (hod:o.dst=some d) (hx:RX A F x) (h:Aw E o A Kc=some r):Loc E o A F Kc r:=by
 unfold Aw at h;rw[ho,hod]at h;simp only at h;split at h
 ·rename_i s hs;obtain⟨v,h1,h2⟩:=U7a h;refine⟨_,h1,λ A' hA R' K'=>?_⟩;unfold Aw;rw[ho,hod];simp only[B3 hA hx,hs];exact h2 _
 ·cases h
def Boa {T T':TypeId} {x:Operand} {d:Nat} (hA:Ag A A' F) (hx:RX A F x):R5 E A' T T' x d=R5 E A T T' x d:=by
 unfold R5
 cases x with
 |tmp t=>simp only[B3 hA hx]
 |const v=>rfl
 |func f=>rfl
 |global g=>rfl
def E7a {T T':TypeId} {x:Operand} {d:Nat} (ho:o.op = .convert T T' x) (hod:o.dst=some d) (hx:RX A F x) (h:Aw E o A Kc=some r):Loc E o A F Kc r:=by
 unfold Aw at h;rw[ho,hod]at h;simp only at h
 cases hi:R5 E A T T' x d with
 |some U=>
  rw[hi]at h;refine⟨U,h,λ A' hA R' K'=>?_⟩;unfold Aw;rw[ho,hod];simp only[Boa hA hx,hi]
 |none=>
  rw[hi]at h;simp only at h;split at h
  ·rename_i y hs;obtain⟨v,h1,h2⟩:=Pma h;refine⟨_,h1,λ A' hA R' K'=>?_⟩;unfold Aw;rw[ho,hod];simp only[Boa hA hx,hi,B3 hA hx,hs,L8a hA (H7 hx hs)];exact h2 _
  ·cases h
def Poa {x:Operand} {d:Nat} (ho:o.op = .move x) (hod:o.dst=some d) (hx:∀ t,x = .tmp t→t∈F) (h:Aw E o A Kc=some r):Loc E o A F Kc r:=by
 have hag:∀ A',Ag A A' F→∀ T,opT E T A' x=opT E T A x:=by
  intro A' hA T
  cases x with
  |tmp t=>show (bif Nat.blt t E.nt then some (get A' t).2 else none)=(bif Nat.blt t E.nt then some (get A t).2 else none);rw[hA t (hx t rfl)]
  |const v=>exact B3 hA (x := .const v) trivial
  |func f=>rfl
  |global g=>rfl
 unfold Aw at h;rw[ho,hod]at h;simp only at h;split at h
 ·rename_i s hs;split at h
  ·rename_i t e r' xs
   cases hn:(E.nm t&&!(E.mv d)) with
   |true=>
    rw[hn,cond_true]at h;refine⟨_,h,λ A' hA R' K'=>?_⟩;unfold Aw;rw[ho,hod];simp only[hag A' hA,hs,hn,cond_true,hA t (hx t rfl)]
   |false=>
    rw[hn,cond_false]at h;refine⟨_,h,λ A' hA R' K'=>?_⟩;unfold Aw;rw[ho,hod];simp only[hag A' hA,hs,hn,cond_false]
  ·rename_i hne;refine⟨_,h,λ A' hA R' K'=>?_⟩;unfold Aw;rw[ho,hod];simp only[hag A' hA,hs]
 ·cases h
def Ica {x:Operand} {d:Nat} (ho:o.op = .assign x) (hod:o.dst=some d) (hx:RX A F x) (h:Aw E o A Kc=some r):Loc E o A F Kc r:=by
 unfold Aw at h;rw[ho,hod]at h;simp only at h;split at h
 ·rename_i p v hs;have hp:p∈F:=H7 hx hs;split at h
  ·rename_i n e r' xs hg;obtain⟨hn,h⟩:=cs h
   cases hr:E.res d with
   |true=>
    rw[hr,cond_true]at h;refine⟨_,h,λ A' hA R' K'=>?_⟩;unfold Aw;rw[ho,hod];simp only[B3 hA hx,hs,hA p hp,hg,hn,hr,cond_true]
   |false=>
    rw[hr,cond_false]at h;refine⟨_,h,λ A' hA R' K'=>?_⟩;unfold Aw;rw[ho,hod];simp only[B3 hA hx,hs,hA p hp,hg,hn,hr,cond_true,cond_false]
  ·rename_i n e r' xs hg;obtain⟨hn,h⟩:=cs h;refine⟨_,h,λ A' hA R' K'=>?_⟩;unfold Aw;rw[ho,hod];simp only[B3 hA hx,hs,hA p hp,hg,hn,cond_true]
  ·cases h
 ·rename_i s hne hs;refine⟨_,h,λ A' hA R' K'=>?_⟩;unfold Aw;rw[ho,hod];simp only[B3 hA hx,hs]
 ·cases h
def Ppa {c x y:Operand} {d:Nat} (ho:o.op = .pick c x y) (hod:o.dst=some d) (hc:RX A F c) (hx:RX A F x) (hy:RX A F y) (h:Aw E o A Kc=some r):Loc E o A F Kc r:=by
 unfold Aw at h;rw[ho,hod]at h;simp only at h;split at h
 ·rename_i b hs
  cases b with
  |true=>
   rw[cond_true]at h;split at h
   ·rename_i u hu;refine⟨_,h,λ A' hA R' K'=>?_⟩;unfold Aw;rw[ho,hod];simp only[B3 hA hc,B3 hA hx,hs,hu,cond_true]
   ·cases h
  |false=>
   rw[cond_false]at h;split at h
   ·rename_i u hu;refine⟨_,h,λ A' hA R' K'=>?_⟩;unfold Aw;rw[ho,hod];simp only[B3 hA hc,B3 hA hy,hs,hu,cond_false]
   ·cases h
 ·cases h
def RP (A:Ab) (F:List Nat):Operand→Prop
 |.tmp t=>t∈F∧∀ y∈parts (get A t).2,(∀ b v n,y = .bp b v n→H b∈F)∧(∀ p v i n,y = .ep p v i n→p∈F)∧(∀ p v pi e r,∀ xs:List (Ty.den r),∀ i n,y = .dp p v pi e r xs i n→p∈F)
 |_=>True
def Gja:∀ {l:List Lf},(∀ p∈W0a l,p∈F)→∀ y∈l,(∀ b v n,y = .bp b v n→H b∈F)∧(∀ p v i n,y = .ep p v i n→p∈F)∧(∀ p v pi e r,∀ xs:List (Ty.den r),∀ i n,y = .dp p v pi e r xs i n→p∈F)
 |[],_,y,hy=>by simp at hy
 |z::l,h,y,hy=>by
  unfold W0a at h;rcases Vl.1 hy with rfl|hy
  ·refine⟨λ b v n e=>h _ (Vx _ ?_),λ p v i n e=>h _ (Vx _ ?_),λ p v pi e0 r xs i n e=>h _ (Vx _ ?_)⟩<;>(subst e;simp[rdH])
  ·exact Gja (λ p hp=>h p (Vn _ hp)) y hy
def S3a {x:Operand} (h:∀ p∈rdP A x,p∈F):RP A F x:=by
 cases x with
 |tmp t=>
  have h:∀ p∈t::W0a (parts (get A t).2),p∈F:=h;exact⟨h t (by simp),Gja λ p hp=>h p (Vg _ hp)⟩
 |_=>trivial
def RP.opT {x:Operand} {T:TypeId} (hA:Ag A A' F) (hx:RP A F x):Vf.opT E T A' x=Vf.opT E T A x:=by
 cases x with
 |tmp t=>show (bif Nat.blt t E.nt then some (get A' t).2 else none)=(bif Nat.blt t E.nt then some (get A t).2 else none);rw[hA t hx.1]
 |const v=>exact B3 hA (x := .const v) trivial
 |func f=>rfl
 |global g=>rfl
def RP.live {x:Operand} {T:TypeId} {y:Lf} (hA:Ag A A' F) (hx:RP A F x) (h:Vf.opT E T A x=some (.one y)):Uh A' y=Uh A y:=by
 cases x with
 |tmp t=>
  have h:(bif Nat.blt t E.nt then some (get A t).2 else none)=some (.one y):=h;cases hb:Nat.blt t E.nt
  ·rw[hb]at h;simp at h
  rw[hb]at h;simp only[cond_true,Vc]at h;obtain⟨h1,h2,h3⟩:=hx.2 y (by rw[h];simp[parts])
  cases y with
  |bp b v n=>show Nat.beq (get A' (H b)).1 v=Nat.beq (get A (H b)).1 v;rw[hA _ (h1 b v n rfl)]
  |ep p v i n=>simp only[Uh];rw[hA _ (h2 p v i n rfl)]
  |dp p v pi e r xs i n=>show Nat.beq (get A' p).1 v=Nat.beq (get A p).1 v;rw[hA _ (h3 p v pi e r xs i n rfl)]
  |_=>rfl
 |const v=>exact Xw hA (H7 (x := .const v) (F:=F) trivial h)
 |func f=>exact Xw hA (H7 (x := .func f) (F:=F) trivial h)
 |global g=>exact Xw hA (H7 (x := .global g) (F:=F) trivial h)
def Bpa {x:Operand} {d:Nat} (ho:o.op = .nilCheck x) (hod:o.dst=some d) (hx:RP A F x) (h:Aw E o A Kc=some r):Loc E o A F Kc r:=by
 unfold Aw at h;rw[ho,hod]at h;simp only at h;split at h
 ·rename_i y hs;obtain⟨hl,h⟩:=cs h;refine⟨_,h,λ A' hA R' K'=>?_⟩;unfold Aw;rw[ho,hod];simp only[hx.opT hA,hs,hx.live hA hs,hl,cond_true]
 ·cases h
def Xx {T:TypeId} {x:Operand} {j d:Nat} (ho:o.op = .fieldAddr T x j) (hod:o.dst=some d) (hx:RP A F x) (h:Aw E o A Kc=some r):Loc E o A F Kc r:=by
 unfold Aw at h;rw[ho,hod]at h;simp only at h;split at h
 ·rename_i ti y hT hs;split at h
  ·rename_i f hf;obtain⟨hl,h⟩:=cs h;refine⟨_,h,λ A' hA R' K'=>?_⟩;unfold Aw;rw[ho,hod];simp only[hT,hx.opT hA,hs,hf,hx.live hA hs,hl,cond_true]
  ·cases h
 ·cases h
def E8a {t j d:Nat} (ho:o.op = .extract (.tmp t) j) (hod:o.dst=some d) (ht:t∈F) (h:Aw E o A Kc=some r):Loc E o A F Kc r:=by
 unfold Aw at h;rw[ho,hod]at h;simp only at h;cases hb:Nat.blt t E.nt
 ·rw[hb]at h;simp at h
 rw[hb,cond_true]at h;split at h
 ·rename_i vs hg;split at h
  ·rename_i ag l hn;split at h
   ·rename_i s hs
    cases hw:Fg l with
    |true=>
     rw[hw,cond_true]at h;refine⟨_,h,λ A' hA R' K'=>?_⟩;unfold Aw;rw[ho,hod];simp only[hb,cond_true,hA t ht,hg,hn,hs,hw]
    |false=>
     rw[hw,cond_false]at h;refine⟨_,h,λ A' hA R' K'=>?_⟩;unfold Aw;rw[ho,hod];simp only[hb,cond_true,hA t ht,hg,hn,hs,hw,cond_false]
   ·cases h
  ·cases h
 ·cases h
def Lba {T:TypeId} {t j d:Nat} (ho:o.op = .field T (.tmp t) j) (hod:o.dst=some d) (ht:t∈F) (h:Aw E o A Kc=some r):Loc E o A F Kc r:=by
 unfold Aw at h;rw[ho,hod]at h;simp only at h;split at h
 ·rename_i ti l hT hg;split at h
  ·rename_i off z ag hn;split at h
   ·rename_i s hs;obtain⟨hb,h⟩:=cs h
    cases hw:Fg ((l.drop off).take z) with
    |true=>
     rw[hw,cond_true]at h;refine⟨_,h,λ A' hA R' K'=>?_⟩;unfold Aw;rw[ho,hod];simp only[hT,hA t ht,hg,hn,hs,hb,hw,cond_true]
    |false=>
     rw[hw,cond_false]at h;refine⟨_,h,λ A' hA R' K'=>?_⟩;unfold Aw;rw[ho,hod];simp only[hT,hA t ht,hg,hn,hs,hb,hw,cond_true,cond_false]
   ·cases h
  ·cases h
 ·cases h
def Lca {T:TypeId} {d:Nat} (ho:o.op = .alloc T) (hod:o.dst=some d) (hH:H d∈F) (h:Aw E o A Kc=some r):Loc E o A F Kc r:=by
 unfold Aw at h;rw[ho,hod]at h;simp only at h;split at h
 ·rename_i ti hT;obtain⟨hb,h⟩:=cs h;refine⟨_,h,λ A' hA R' K'=>?_⟩;unfold Aw;rw[ho,hod];simp only[hT,hb,cond_true,hA _ hH]
 ·cases h
def RL.als {s:Sv} (h:∀ y∈parts s,RL A F y):∀ y∈parts s,AL F y:=λ y hy=>(h y hy).al
def R6 (hA:Ag A A' F):∀ {l:List Lf},(∀ y∈l,AL F y)→Em A' l=Em A l
 |[],_=>rfl
 |y::l,h=>by
  have ih:=R6 hA (l:=l) (λ z hz=>h z (Vg _ hz))
  cases y with
  |al p v=>simp only[Em,ih,Fx hA (h (.al p v) (by simp))]
  |_=>simp only[Em,ih]
def U8a {T:TypeId} {x:Operand} {d:Nat} (ho:o.op = .box T x) (hod:o.dst=some d) (hH:H d∈F) (hx:RX A F x) (h:Aw E o A Kc=some r):Loc E o A F Kc r:=by
 unfold Aw at h;rw[ho,hod]at h;simp only at h;split at h
 ·rename_i ti s hT hs;have hal:=RL.als (N5 hx hs)
  cases hmv:mvO E x with
  |true=>
   rw[hmv,cond_true]at h;obtain⟨hb,h⟩:=cs h;refine⟨_,h,λ A' hA R' K'=>?_⟩;unfold Aw;rw[ho,hod];simp only[hT,B3 hA hx,hs,hmv,R6 hA hal,hb,cond_true,hA _ hH]
  |false=>
  rw[hmv,cond_false]at h;obtain⟨hb,h⟩:=cs h;refine⟨_,h,λ A' hA R' K'=>?_⟩;unfold Aw;rw[ho,hod];simp only[hT,B3 hA hx,hs,hmv,cond_false,Pi hA hal,hb,cond_true,Nq hA hal,hA _ hH]
 ·cases h
def Pqa {T:TypeId} {x:Operand} {d:Nat} (ho:o.op = .load T x) (hod:o.dst=some d) (hx:RX A F x) (h:Aw E o A Kc=some r):Loc E o A F Kc r:=by
 unfold Aw at h;rw[ho,hod]at h;simp only at h;split at h
 ·rename_i ti b v off hT hs;obtain⟨h1,h2⟩:RL A F (.bp b v off):=H7 hx hs;split at h
  ·rename_i n m hg;obtain⟨hb,h⟩:=cs h
   have hle:off+ti.ty.sz≤m:=by
    simp only[Va]at hb;exact Vk hb.2
   have hcell:∀ i,i<ti.ty.sz→C b (off+i)∈F:=λ i hi=>(h2 m (by rw[hg]) (off+i) (by omega) (by omega)).1;split at h
   ·rename_i s hp;refine⟨_,h,λ A' hA R' K'=>?_⟩;unfold Aw;rw[ho,hod];simp only[hT,B3 hA hx,hs,hA _ h1,hg,hb,cond_true,Qm hA hcell,hp]
   ·cases h
  ·cases h
 ·rename_i ti p v i off hT hs;have hp:p∈F:=H7 hx hs;split at h
  ·rename_i n e r' xs hg;obtain⟨hb,h⟩:=cs h;split at h
   ·rename_i s hp2;refine⟨_,h,λ A' hA R' K'=>?_⟩;unfold Aw;rw[ho,hod];simp only[hT,B3 hA hx,hs,hA _ hp,hg,hb,cond_true,hp2]
   ·cases h
  ·cases h
 ·rename_i ti p v pi e0 r' xs i off hT hs;have hp:p∈F:=H7 hx hs;obtain⟨hb,h⟩:=cs h;split at h
  ·rename_i s hp2;refine⟨_,h,λ A' hA R' K'=>?_⟩;unfold Aw;rw[ho,hod];simp only[hT,B3 hA hx,hs,hA _ hp,hb,cond_true,hp2]
  ·cases h
 ·rename_i ti r' x' off hT hs;obtain⟨hb,h⟩:=cs h;split at h
  ·rename_i s hp2;refine⟨_,h,λ A' hA R' K'=>?_⟩;unfold Aw;rw[ho,hod];simp only[hT,B3 hA hx,hs,hb,cond_true,hp2]
  ·cases h
 ·cases h
def R7 (h:Ag A A' F):∀ {l:List Lf},(∀ p v pi e r,∀ xs:List (Ty.den r),Lf.da p v pi e r xs∈l→p∈F)→Gz A' l=Gz A l
 |[],_=>rfl
 |y::l,hp=>by
  have ih:=R7 h (l:=l) (λ p v pi e r xs hm=>hp p v pi e r xs (Vg _ hm))
  cases y with
  |da p v pi e r xs=>simp only[Gz,ih,h p (hp p v pi e r xs (by simp))]
  |_=>simp only[Gz,ih]
def U9a {l:List Lf} (h:∀ y∈l,RL A F y):∀ p v pi e r,∀ xs:List (Ty.den r),Lf.da p v pi e r xs∈l.map (kept A)→p∈F:=by
 intro p v pi e r xs hm;obtain⟨y,hy,he⟩:=Yt.1 hm
 cases y with
 |da p' v' pi' e' r' xs'=>
  simp only[kept,Lf.da.injEq]at he;have:=h _ hy;rw[he.1]at this;exact this
 |al q w=>
  exfalso;simp only[kept]at he
  have h1:∀ z:Lf,(∀ p v pi e r,∀ xs:List (Ty.den r),z ≠ .da p v pi e r xs)→∀ p v pi e r,∀ xs:List (Ty.den r),L5 z ≠ .da p v pi e r xs:=by
   intro z hz p v pi e r xs
   cases z<;>simp[L5]
   exact λ e1 e2 e3 e4 e5 e6=>hz _ _ _ _ _ _ rfl
  refine h1 (J1 A (.al q w)) ?_ _ _ _ _ _ _ he;intro p v pi e r xs;simp only[J1];split
  ·rename_i n _ _ _ _
   cases Nat.beq n w<;>simp
  ·rename_i n _ _ _ _
   cases Nat.beq n w<;>simp
  ·simp
 |_=>simp[kept]at he
def N6:∀ {ts:List Ty} {l:List Lf} {A A':Ab},Ag A A' F→(∀ y∈l,AL F y)→G4 A' ts l=G4 A ts l
 |[],[],_,_,_,_=>rfl
 |[],_::_,_,_,_,_=>rfl
 |t::ts,[],_,_,_,_=>by cases t<;>rfl
 |t::ts,x::l,A,A',hA,hy=>by
  have hx:AL F x:=hy x (by simp);have hl:∀ y∈l,AL F y:=λ y hm=>hy y (Vg _ hm)
  cases t<;>simp only[G4,Fx hA hx,E5a hA hx,E6a hA hx,N6 (hA.ups (U:=Dba x)) hl,N6 (hA.ups (U:=Ro A x)) hl]
def Lda (hA:Ag A A' F):∀ {l:List Lf},(∀ y∈l,AL F y)→T8a A' l=T8a A l
 |[],_=>rfl
 |y::l,h=>by simp only[T8a,Fx hA (h y (by simp)),Lda hA (λ z hz=>h z (Vg _ hz))]
def Pra {x:Operand} {s:Sv} (hA:Ag A A' F) (hal:∀ y∈parts s,AL F y):Q4 A' x s (T8a (ups A' (gone x s)) (parts s))=Q4 A x s (T8a (ups A (gone x s)) (parts s)):=by
 have hA1:=hA.ups (U:=gone x s);unfold Q4;rw[Lda hA1 hal,N6 hA1 hal]
def Lea {T:TypeId} {x y:Operand} (ho:o.op = .store T x y) (hod:o.dst=none) (hx:RX A F x) (hy:RX A F y) (h:Aw E o A Kc=some r):Loc E o A F Kc r:=by
 unfold Aw at h;rw[ho,hod]at h;simp only at h;split at h
 ·rename_i ti b v off s hT hs hs2;obtain⟨h1,h2⟩:RL A F (.bp b v off):=H7 hx hs;have hal:=RL.als (N5 hy hs2)
  cases hmv:mvO E y with
  |true=>
   rw[hmv,cond_true]at h;split at h
   ·rename_i m vs hgive;split at h
    ·rename_i n hd hg;obtain⟨hb,h⟩:=cs h;refine⟨_,h,λ A' hA R' K'=>?_⟩;unfold Aw;rw[ho,hod];simp only[hT,B3 hA hx,hs,B3 hA hy,hs2,hmv,Pra hA hal,hgive,hA _ h1,hg,hb,cond_true]
    ·cases h
   ·cases h
  |false=>
  rw[hmv,cond_false]at h;split at h
  ·rename_i n m hg;obtain⟨hb,h⟩:=cs h;refine⟨_,h,λ A' hA R' K'=>?_⟩;unfold Aw;rw[ho,hod];simp only[hT,B3 hA hx,hs,B3 hA hy,hs2,hmv,cond_false,hA _ h1,hg,Pi hA hal,Nq hA hal,R7 (hA.ups (U:=Ii A (parts s)++gone y s)) (U9a (N5 hy hs2)),hb,cond_true]
  ·cases h
 ·rename_i ti p v i off s hT hs hs2;have hp:p∈F:=H7 hx hs;have hal:=RL.als (N5 hy hs2);split at h
  ·rename_i n e r' xs hg;obtain⟨hb,h⟩:=cs h;split at h
   ·rename_i z hz;refine⟨_,h,λ A' hA R' K'=>?_⟩;unfold Aw;rw[ho,hod];simp only[hT,B3 hA hx,hs,B3 hA hy,hs2,hA _ hp,hg,Pi hA hal,Gia hA hal,hb,cond_true,Nq hA hal,hz]
   ·cases h
  ·cases h
 ·rename_i ti p v q e r1 xs i off s hT hs hs2;have hp:p∈F:=H7 hx hs;have hal:=RL.als (N5 hy hs2);split at h
  ·rename_i m us hgive;split at h
   ·rename_i n E0 R0 XS hg;obtain⟨hb,h⟩:=cs h;split at h
    ·rename_i z hz;split at h
     ·rename_i XS' hput;refine⟨_,h,λ A' hA R' K'=>?_⟩;unfold Aw;rw[ho,hod];simp only[hT,B3 hA hx,hs,B3 hA hy,hs2,L9a hA hal,hgive,hA _ hp,hg,hb,cond_true,hz,hput]
     ·cases h
    ·cases h
   ·cases h
  ·cases h
 ·cases h
end
end

section
attribute [local irreducible] C H
section
variable {E:En} {A A':Ab} {F:List Nat} {o:Oper} {R:Type} {Kc:List Up→Option R} {r:R}
def Lfa {B p:Nat} {e:TypeId} {r':Ty} {xs:List r'.den} {i:Int} {K:List Up→Option R} (hB:H B∈F) (h:Sh A B p e r' xs i K none=some r):∃ U,K U=some r∧∀ A',Ag A A' F→∀ {R':Type} (K':List Up→Option R'),Sh A' B p e r' xs i K' none=K' U:=by
 unfold Sh at h;obtain⟨h1,h⟩:=cs h;obtain⟨h2,h⟩:=cs h;obtain⟨h3,h⟩:=cs h;refine⟨_,h,λ A' hA R' K'=>?_⟩;unfold Sh;simp only[h1,h2,h3,cond_true,hA _ hB]
def Xy {T:TypeId} {x i:Operand} {d:Nat} (ho:o.op = .indexAddr T x i) (hod:o.dst=some d) (hopn:E.opn d=true) (hB:H (2000+d)∈F) (hx:RX A F x) (hi:RX A F i) (h:Aw E o A Kc=some r):Loc E o A F Kc r:=by
 unfold Aw at h;rw[ho,hod]at h;simp only[hopn,cond_true]at h;split at h
 ·rename_i p v k n hs hn;have hp:p∈F:=H7 hx hs;split at h
  ·rename_i m e r' xs hgp;obtain⟨hq,h⟩:=cs h;obtain⟨U,h1,h2⟩:=Lfa hB h;refine⟨_,h1,λ A' hA R' K'=>?_⟩;unfold Aw;rw[ho,hod];simp only[hopn,B3 hA hx,B3 hA hi,hs,hn,hA p hp,hgp,hq,cond_true,hA _ hB];exact h2 A' hA _
  ·cases h
 ·cases h
def Xz {T:TypeId} {x i:Operand} {d:Nat} (ho:o.op = .indexAddr T x i) (hod:o.dst=some d) (hopn:E.opn d=false) (hx:RX A F x) (hi:RX A F i) (h:Aw E o A Kc=some r):Loc E o A F Kc r:=by
 unfold Aw at h;rw[ho,hod]at h;simp only[hopn,cond_false]at h;split at h
 ·rename_i y k n hs hn;have hrl:=H7 hx hs;have hal:=hrl.al;split at h
  ·rename_i p v e r' xs hse;obtain⟨hb,h⟩:=cs h;obtain⟨hl,h⟩:=cs h
   cases hno:Iu r' with
   |true=>
    rw[hno,cond_true]at h;refine⟨_,h,λ A' hA R' K'=>?_⟩;unfold Aw;rw[ho,hod];simp only[hopn,cond_false,B3 hA hx,B3 hA hi,hs,hn,Fx hA hal,hse,hb,hl,hno,cond_true]
   |false=>
    rw[hno,cond_false]at h;obtain⟨hao,h⟩:=cs h;refine⟨_,h,λ A' hA R' K'=>?_⟩;unfold Aw;rw[ho,hod];simp only[hopn,cond_false,B3 hA hx,B3 hA hi,hs,hn,Fx hA hal,hse,hb,hl,hno,hao,cond_true,cond_false]
  ·rename_i p v pi e r' xs;have hp:p∈F:=hrl;obtain⟨hb,h⟩:=cs h;obtain⟨hl,h⟩:=cs h;refine⟨_,h,λ A' hA R' K'=>?_⟩;unfold Aw;rw[ho,hod];simp only[hopn,cond_false,B3 hA hx,B3 hA hi,hs,hn,hA p hp,hb,hl,cond_true]
  ·rename_i p v hse;have hp:p∈F:=hrl;split at h
   ·rename_i m e r0 xs0 i0 b0 vb hgp;obtain⟨hb,h⟩:=cs h;obtain⟨hl,h⟩:=cs h;refine⟨_,h,λ A' hA R' K'=>?_⟩;unfold Aw;rw[ho,hod];simp only[hopn,cond_false,B3 hA hx,B3 hA hi,hs,hn,Fx hA hal,hse,hA p hp,hgp,hb,hl,cond_true]
   ·cases h
  ·rename_i e r' xs hnda hse;obtain⟨hb,h⟩:=cs h;obtain⟨hl,h⟩:=cs h;refine⟨_,h,λ A' hA R' K'=>?_⟩;unfold Aw;rw[ho,hod];simp only[hopn,cond_false,B3 hA hx,B3 hA hi,hs,hn,Fx hA hal,hse,hb,hl,cond_true]
  ·rename_i e r' xs hne hnda hse;split at h
   ·rename_i t;have ht:t∈F:=hx.1;obtain⟨hb,h⟩:=cs h;obtain⟨hl,h⟩:=cs h
    cases hno:Iu r' with
    |true=>
     rw[hno,cond_true]at h;refine⟨_,h,λ A' hA R' K'=>?_⟩;unfold Aw;rw[ho,hod];simp only[hopn,cond_false,B3 hA hx,B3 hA hi,hs,hn,Fx hA hal,hse,hb,hl,hno,cond_true,hA t ht]
    |false=>
     rw[hno,cond_false]at h;obtain⟨hao,h⟩:=cs h;refine⟨_,h,λ A' hA R' K'=>?_⟩;unfold Aw;rw[ho,hod];simp only[hopn,cond_false,B3 hA hx,B3 hA hi,hs,hn,Fx hA hal,hse,hb,hl,hno,hao,cond_true,cond_false,hA t ht]
   ·cases h
  ·cases h
 ·cases h
def Lga {T:TypeId} {x i:Operand} {d:Nat} (ho:o.op = .index T x i) (hod:o.dst=some d) (hx:RX A F x) (hi:RX A F i) (h:Aw E o A Kc=some r):Loc E o A F Kc r:=by
 unfold Aw at h;rw[ho,hod]at h;simp only at h;split at h
 ·rename_i s k n hs hn;obtain⟨hb,h⟩:=cs h;obtain⟨hl,h⟩:=cs h;refine⟨_,h,λ A' hA R' K'=>?_⟩;unfold Aw;rw[ho,hod];simp only[B3 hA hx,B3 hA hi,hs,hn,hb,hl,cond_true]
 ·cases h
def Hk (hA:Ag A A' F) {x:Option Operand} (hx:∀ y,x=some y→RX A F y):Dea E A' x=Dea E A x:=by
 cases x with
 |none=>rfl
 |some y=>simp only[Dea,B3 hA (hx y rfl)]
def Lha {T:TypeId} {x:Operand} {lo hi:Option Operand} {d:Nat} (ho:o.op = .slice T x lo hi none) (hod:o.dst=some d) (hx:RX A F x) (hlo:∀ y,lo=some y→RX A F y) (hhi:∀ y,hi=some y→RX A F y) (h:Aw E o A Kc=some r):Loc E o A F Kc r:=by
 unfold Aw at h;rw[ho,hod]at h;simp only at h;split at h
 ·rename_i s l u hs hl hu;obtain⟨hq,h⟩:=cs h;obtain⟨h1,h2⟩:=Kt h;refine⟨_,h1,λ A' hA R' K'=>?_⟩;unfold Aw;rw[ho,hod];simp only[B3 hA hx,Hk hA hlo,Hk hA hhi,hs,hl,hu,hq,cond_true];exact h2 _
 ·rename_i y l u hne hs hl hu;have hal:=(H7 hx hs).al;split at h
  ·rename_i e0 r0 xs0 e r' xs hsn;obtain⟨hq,h⟩:=cs h;split at h
   ·obtain⟨h1,h2⟩:=Kt h;refine⟨_,h1,λ A' hA R' K'=>?_⟩;unfold Aw;rw[ho,hod];simp only[B3 hA hx,Hk hA hlo,Hk hA hhi,hs,hl,hu,Fx hA hal,hsn,hq,cond_true];exact h2 _
   ·obtain⟨h1,h2⟩:=Kt h;refine⟨_,h1,λ A' hA R' K'=>?_⟩;unfold Aw;rw[ho,hod];simp only[B3 hA hx,Hk hA hlo,Hk hA hhi,hs,hl,hu,Fx hA hal,hsn,hq,cond_true];exact h2 _
  ·rename_i p v e r' xs hsn;have hp:p∈F:=H7 hx hs;obtain⟨hq,h⟩:=cs h
   cases hmv:E.mv d with
   |true=>
    rw[hmv,cond_true]at h;split at h
    ·obtain⟨h1,h2⟩:=Kt h;refine⟨_,h1,λ A' hA R' K'=>?_⟩;unfold Aw;rw[ho,hod];simp only[B3 hA hx,Hk hA hlo,Hk hA hhi,hs,hl,hu,Fx hA hal,hsn,hq,hmv,cond_true];exact h2 _
    ·cases h
   |false=>
    rw[hmv,cond_false]at h
    cases hno:Iu r' with
    |true=>
     rw[hno,cond_true]at h;obtain⟨h1,h2⟩:=Kt h;refine⟨_,h1,λ A' hA R' K'=>?_⟩;unfold Aw;rw[ho,hod];simp only[B3 hA hx,Hk hA hlo,Hk hA hhi,hs,hl,hu,Fx hA hal,hsn,hq,hmv,hno,cond_true,cond_false,E6a hA hal];exact h2 _
    |false=>
     rw[hno,cond_false]at h;obtain⟨hao,h⟩:=cs h;obtain⟨h1,h2⟩:=Kt h;refine⟨_,h1,λ A' hA R' K'=>?_⟩;unfold Aw;rw[ho,hod];simp only[B3 hA hx,Hk hA hlo,Hk hA hhi,hs,hl,hu,Fx hA hal,hsn,hq,hmv,hno,hao,cond_true,cond_false];exact h2 _
  ·rename_i p v pi e r' xs;have hp:p∈F:=H7 hx hs;obtain⟨hq,h⟩:=cs h;obtain⟨h1,h2⟩:=Kt h;refine⟨_,h1,λ A' hA R' K'=>?_⟩;unfold Aw;rw[ho,hod];simp only[B3 hA hx,Hk hA hlo,Hk hA hhi,hs,hl,hu,hA p hp,hq,cond_true];exact h2 _
  ·rename_i e r' xs hnda hsn;obtain⟨hq,h⟩:=cs h;obtain⟨h1,h2⟩:=Kt h;refine⟨_,h1,λ A' hA R' K'=>?_⟩;unfold Aw;rw[ho,hod];simp only[B3 hA hx,Hk hA hlo,Hk hA hhi,hs,hl,hu,Fx hA hal,hsn,hq,cond_true];exact h2 _
  ·cases h
 ·cases h
def Bqa {A:Ab} {y:Lf}:∀ u∈Ro A y,N4 u:=by
 intro u hu;unfold Ro at hu;split at hu
 ·rename_i p v;split at hu
  ·rename_i n e r xs hg;cases hb:Nat.beq n v
   ·rw[hb]at hu;simp at hu
   rw[hb]at hu;simp only[cond_true,Vq]at hu;subst hu;exact .inr ⟨e,r,xs,rfl⟩
  ·simp at hu
 ·simp at hu
def W1 {A:Ab}:∀ {l:List Lf},∀ u∈Ii A l,N4 u
 |[],u,hu=>by simp[Ii]at hu
 |y::l,u,hu=>by
  unfold Ii at hu;rcases Vm.1 hu with hu|hu
  ·exact Bqa u hu
  ·exact W1 u hu
def T9 {x:Operand} {s:Sv}:∀ u∈gone x s,N4 u:=by
 intro u hu;unfold gone at hu;split at hu
 ·rename_i t;cases hb:Ld s
  ·rw[hb]at hu;simp at hu
  rw[hb]at hu;simp only[cond_true,Vq]at hu;subst hu;exact .inl rfl
 ·simp at hu
def Lia {y:Lf} {x:Operand}:∀ u∈D9a y x,N4 u:=by
 intro u hu;unfold D9a at hu;split at hu
 ·simp only[Vq]at hu;subst hu;exact .inl rfl
 ·simp only[Vq]at hu;subst hu;exact .inl rfl
 ·simp at hu
def Lja {A:Ab} {l:List Lf} {x:Operand} {s:Sv}:∀ u∈Ii A l++gone x s,N4 u:=λ u hu=>(Vm.1 hu).elim (W1 u) (T9 u)
def Oj:∀ {l:List Lf} {A:Ab} {m:List Lf} {us:List Up},Iv A l=some (m,us)→∀ u∈us,N4 u
 |[],A,m,us,h=>by
  simp only[Iv,Vc,Vw]at h;obtain⟨_,rfl⟩:=h;simp
 |x::l,A,m,us,h=>by
  by_cases hal:∃ p v,x = .al p v
  ·obtain⟨p,v,rfl⟩:=hal;simp only[Iv]at h;split at h
   ·split at h
    ·rename_i m' us' hrec;cases h;intro u hu;rcases Vl.1 hu with rfl|hu
     ·exact .inl rfl
     ·exact Oj hrec u hu
    ·cases h
   ·cases h
  ·obtain⟨m',rfl,h'⟩:=Oh (λ p v e=>hal ⟨p,v,e⟩) h;exact Oj h'
def Lka {A:Ab} {x:Operand} {s:Sv} {m:List Lf} {us:List Up} (h:give A x s=some (m,us)):∀ u∈us,N4 u:=by
 unfold give at h;split at h
 ·rename_i m0 vs0 ht;cases h;exact λ u hu=>(Vm.1 hu).elim (T9 u) (Oj ht u)
 ·cases h
def Ta {T:TI}:∀ {ps:List (Nat×Operand)} {A A':Ab} {l:List Lf} {us:List Up},Ag A A' F→(∀ p∈ps,RX A F p.2)→Le E A' T l us ps=Le E A T l us ps
 |[],_,_,_,_,_,_=>rfl
 |(i,x)::ps,A,A',l,us,hA,hp=>by
  have hx:RX A F x:=hp (i,x) (by simp);have hps:∀ p∈ps,RX A F p.2:=λ p hm=>hp p (Vg _ hm);have e0:∀ l us,Le E A' T l us ps=Le E A T l us ps:=λ l us=>Ta hA hps;unfold Le
  cases hn:nth T.fo i with
  |none=>rfl
  |some o=>
   obtain⟨off,z,ag⟩:=o;simp only[B3 hA hx]
   have gen:∀ {s:Sv},opT E 0 A x=some s→(let m:=(parts s).map (kept A');bif A5 m&&Nat.beq m.length z&&Nat.ble (off+z) l.length then Le E (ups A' (Ii A' (parts s)++gone x s)) T (setAll l off m) (us++(Ii A' (parts s)++gone x s)) ps else none) =
     (let m:=(parts s).map (kept A);bif A5 m&&Nat.beq m.length z&&Nat.ble (off+z) l.length then Le E (ups A (Ii A (parts s)++gone x s)) T (setAll l off m) (us++(Ii A (parts s)++gone x s)) ps else none):=by
    intro s hs;have hal:=RL.als (N5 hx hs);simp only[Pi hA hal,Nq hA hal];rw[Ta (hA.ups (U:=Ii A (parts s)++gone x s)) (λ p hm=>(hps p hm).ups Lja)]
   split
   ·cases Nat.beq z 1
    ·rfl
    simp only[cond_true];split
    ·exact e0 _ _
    ·rfl
   ·cases hs:opT E 0 A x with
    |none=>rfl
    |some s=>exact gen hs
def Lla {T:TypeId} {ps:Array (Nat×Operand)} {d:Nat} (ho:o.op = .build T ps) (hod:o.dst=some d) (hp:∀ p∈ps.toList,RX A F p.2) (h:Aw E o A Kc=some r):Loc E o A F Kc r:=by
 unfold Aw at h;rw[ho,hod]at h;simp only at h;split at h
 ·rename_i ti hT;split at h
  ·rename_i l us hb;obtain⟨ha,h⟩:=cs h;refine⟨_,h,λ A' hA R' K'=>?_⟩;unfold Aw;rw[ho,hod];simp only[hT,Ta hA hp,hb,ha,cond_true]
  ·cases h
 ·cases h
def Gka {e:TypeId} {t:Ty}:∀ {ps:List (Nat×Operand)} {A A':Ab} {i:Nat},Ag A A' F→(∀ p∈ps,RX A F p.2)→Ama E A' e t i ps=Ama E A e t i ps
 |[],_,_,_,_,_=>rfl
 |(j,x)::ps,A,A',i,hA,hp=>by
  have hx:RX A F x:=hp (j,x) (by simp);have hps:∀ p∈ps,RX A F p.2:=λ p hm=>hp p (Vg _ hm);unfold Ama;cases Nat.beq i j
  ·rfl
  simp only[cond_true,B3 hA hx]
  cases hs:opT E e A x with
  |none=>rfl
  |some s=>
   have hal:=RL.als (N5 hx hs);simp only[Pi hA hal,Gia hA hal,Nq hA hal];rw[Gka (hA.ups (U:=Ii A (parts s)++gone x s)) (λ p hm=>(hps p hm).ups Lja)]
def Gla {e:TypeId} {t:Ty}:∀ {ps:List (Nat×Operand)} {A A':Ab} {i:Nat},Ag A A' F→(∀ p∈ps,RX A F p.2)→Ana E A' e t i ps=Ana E A e t i ps
 |[],_,_,_,_,_=>rfl
 |(j,x)::ps,A,A',i,hA,hp=>by
  have hx:RX A F x:=hp (j,x) (by simp);have hps:∀ p∈ps,RX A F p.2:=λ p hm=>hp p (Vg _ hm);unfold Ana;cases Nat.beq i j
  ·rfl
  simp only[cond_true,B3 hA hx]
  cases hs:opT E e A x with
  |none=>rfl
  |some s=>
   have hal:=RL.als (N5 hx hs);simp only[L9a hA hal]
   cases hgv:give A x s with
   |none=>rfl
   |some q=>
    obtain⟨m,us⟩:=q;simp only;rw[Gla (hA.ups (U:=us)) (λ p hm=>(hps p hm).ups (Lka hgv))]
def Uk {T:TypeId} {n:Nat} {ps:Array (Nat×Operand)} {d:Nat} (ho:o.op = .buildSlice T n ps) (hod:o.dst=some d) (hp:∀ p∈ps.toList,RX A F p.2) (h:Aw E o A Kc=some r):Loc E o A F Kc r:=by
 unfold Aw at h;rw[ho,hod]at h;simp only at h;split at h
 ·rename_i e r' b f hT;obtain⟨hb,h⟩:=cs h;split at h
  ·rename_i hh;obtain⟨hno,h⟩:=cs h;split at h
   ·rename_i ys us hr;refine⟨_,h,λ A' hA R' K'=>?_⟩;unfold Aw;rw[ho,hod];simp only[hT,hb,hh,hno,cond_true,Gka hA hp,hr]
   ·cases h
  ·rename_i r2 hh;obtain⟨hb2,h⟩:=cs h;split at h
   ·rename_i ys us hr;refine⟨_,h,λ A' hA R' K'=>?_⟩;unfold Aw;rw[ho,hod];simp only[hT,hb,hh,hb2,cond_true,Gla hA hp,hr]
   ·cases h
 ·cases h
def Y0 {T:TypeId} {x y:Operand} {d:Nat} (ho:o.op = .makeSlice T x y) (hod:o.dst=some d) (hx:RX A F x) (hy:RX A F y) (h:Aw E o A Kc=some r):Loc E o A F Kc r:=by
 unfold Aw at h;rw[ho,hod]at h;simp only at h;split at h
 ·rename_i e r' b f n m hT hs hm;split at h
  ·rename_i te he;obtain⟨hb,h⟩:=cs h;obtain⟨h0,h⟩:=cs h;obtain⟨h1,h⟩:=cs h;split at h
   ·rename_i hh;refine⟨_,h,λ A' hA R' K'=>?_⟩;unfold Aw;rw[ho,hod];simp only[hT,B3 hA hx,B3 hA hy,hs,hm,he,hb,h0,h1,hh,cond_true]
   ·rename_i r2 hh;obtain⟨h2,h⟩:=cs h;refine⟨_,h,λ A' hA R' K'=>?_⟩;unfold Aw;rw[ho,hod];simp only[hT,B3 hA hx,B3 hA hy,hs,hm,he,hb,h0,h1,hh,h2,cond_true]
  ·cases h
 ·cases h
def Tb (hA:Ag A A' F):∀ {xs:List Operand} {Ts:List TypeId},(∀ x∈xs,RX A F x)→Q6 E Ts A' xs=Q6 E Ts A xs
 |[],_,_=>by simp only[Q6]
 |x::xs,[],_=>by simp only[Q6]
 |x::xs,T::Ts,hx=>by
  unfold Q6;simp only[B3 hA (hx x (by simp)),Tb hA (xs:=xs) (Ts:=Ts) (λ y hy=>hx y (Vg _ hy))]
def E9a:∀ {xs:List Operand} {Ts:List TypeId} {ss:List Sv},(∀ x∈xs,RX A F x)→Q6 E Ts A xs=some ss→∀ s∈ss,∀ y∈parts s,RL A F y
 |[],_,ss,_,h=>by
  simp only[Q6,Vc]at h;subst h;intro s hs;simp at hs
 |x::xs,[],ss,_,h=>by simp[Q6]at h
 |x::xs,T::Ts,ss,hx,h=>by
  simp only[Q6]at h;split at h
  ·rename_i s hs;split at h
   ·rename_i ss' hss;cases h;intro s' hs' y hy;rcases Vl.1 hs' with rfl|hs'
    ·exact N5 (hx x (by simp)) hs y hy
    ·exact E9a (λ y hy=>hx y (Vg _ hy)) hss s' hs' y hy
   ·cases h
  ·cases h
def Uaa {c:Call} (ho:o.op = .call c) (hc:c.callee = .builtin .len) (hx:∀ x∈c.args.toList,RX A F x) (h:Aw E o A Kc=some r):Loc E o A F Kc r:=by
 unfold Aw at h;rw[ho]at h;simp only[hc]at h;split at h
 ·rename_i T x d hT hxs hod;have hx0:RX A F x:=hx x (by rw[hxs];simp);split at h
  ·rename_i y hs;have hal:=(H7 hx0 hs).al;split at h
   ·rename_i s hse;obtain⟨hb,h⟩:=cs h;refine⟨_,h,λ A' hA R' K'=>?_⟩;unfold Aw;rw[ho,hod];simp only[hc,hT,hxs,B3 hA hx0,hs,Fx hA hal,hse,hb,cond_true]
   ·rename_i p v pi e r' xs hse
    have hy:y = .da p v pi e r' xs:=by
     cases y<;>first|exact hse|skip
     simp only[J1]at hse;split at hse
     ·rename_i n _ _ _ _
      cases hbb:Nat.beq n _<;>rw[hbb]at hse<;>simp at hse
     ·rename_i n _ _ _ _
      cases hbb:Nat.beq n _<;>rw[hbb]at hse<;>simp at hse
     ·cases hse
    have hp:p∈F:=by have:=H7 hx0 hs;rw[hy]at this;exact this
    obtain⟨hb,h⟩:=cs h;refine⟨_,h,λ A' hA R' K'=>?_⟩;unfold Aw;rw[ho,hod];simp only[hc,hT,hxs,B3 hA hx0,hs,Fx hA hal,hse,hA p hp,hb,cond_true]
   ·rename_i e r' xs hse;obtain⟨hb,h⟩:=cs h;refine⟨_,h,λ A' hA R' K'=>?_⟩;unfold Aw;rw[ho,hod];simp only[hc,hT,hxs,B3 hA hx0,hs,Fx hA hal,hse,hb,cond_true]
   ·rename_i e r' xs hse;obtain⟨hb,h⟩:=cs h;refine⟨_,h,λ A' hA R' K'=>?_⟩;unfold Aw;rw[ho,hod];simp only[hc,hT,hxs,B3 hA hx0,hs,Fx hA hal,hse,hb,cond_true]
   ·cases h
  ·cases h
 ·cases h
def Uba {c:Call} (ho:o.op = .call c) (hc:c.callee = .builtin .min) (hx:∀ x∈c.args.toList,RX A F x) (h:Aw E o A Kc=some r):Loc E o A F Kc r:=by
 unfold Aw at h;rw[ho]at h;simp only[hc]at h;split at h
 ·rename_i k n l d hs hod;obtain⟨v,h1,h2⟩:=W0 h;refine⟨_,h1,λ A' hA R' K'=>?_⟩;unfold Aw;rw[ho,hod];simp only[hc,Tb hA hx,hs];exact h2 _
 ·cases h
def Uca {c:Call} (ho:o.op = .call c) (hc:c.callee = .builtin .max) (hx:∀ x∈c.args.toList,RX A F x) (h:Aw E o A Kc=some r):Loc E o A F Kc r:=by
 unfold Aw at h;rw[ho]at h;simp only[hc]at h;split at h
 ·rename_i k n l d hs hod;obtain⟨v,h1,h2⟩:=W0 h;refine⟨_,h1,λ A' hA R' K'=>?_⟩;unfold Aw;rw[ho,hod];simp only[hc,Tb hA hx,hs];exact h2 _
 ·cases h
def Ida {c:Call} (ho:o.op = .call c) (hc:c.callee = .builtin .append) (hx:∀ x∈c.args.toList,RX A F x) (h:Aw E o A Kc=some r):Loc E o A F Kc r:=by
 unfold Aw at h;rw[ho]at h;simp only[hc]at h;split at h
 ·rename_i T T' x y d hT hxs hod;have hx0:RX A F x:=hx x (by rw[hxs];simp);have hy0:RX A F y:=hx y (by rw[hxs];simp);split at h
  ·rename_i u w hsu hsw;have hau:=(H7 hx0 hsu).al;have hrw:=H7 hy0 hsw;split at h
   ·rename_i e r' xs hsu';split at h
    ·rename_i r2 hh;have hy1:RX (ups A (D9a u x)) F y:=hy0.ups Lia;split at h
     ·rename_i w2 hsw2;have haw2:=(H7 hy1 hsw2).al;split at h
      ·rename_i e' r3 ys xs2 te hsn hcx hte;split at h
       ·rename_i ys2 hcy;obtain⟨hq,h⟩:=cs h;obtain⟨hq2,h⟩:=cs h;refine⟨_,h,λ A' hA R' K'=>?_⟩;have hA1:=hA.ups (U:=D9a u x);unfold Aw;rw[ho,hod];simp only[hc,hT,hxs,B3 hA hx0,B3 hA hy0,hsu,hsw,Fx hA hau,hsu',hh,B3 hA1 hy1,hsw2,Fx hA1 haw2,hsn,hcx,hte,hcy,hq,hq2,cond_true]
       ·cases h
      ·cases h
     ·cases h
    ·rename_i hh
     cases hno:Iu r' with
     |false=>rw[hno]at h;simp at h
     |true=>
     rw[hno,cond_true]at h;split at h
     ·rename_i e' r'' ys hasl;split at h
      ·rename_i ys' te hcast hte;obtain⟨hq,h⟩:=cs h;obtain⟨hq2,h⟩:=cs h;refine⟨_,h,λ A' hA R' K'=>?_⟩;unfold Aw;rw[ho,hod];simp only[hc,hT,hxs,B3 hA hx0,B3 hA hy0,hsu,hsw,Fx hA hau,Gha hA hrw,hsu',hh,hno,hasl,hcast,hte,hq,hq2,cond_true]
      ·cases h
     ·rename_i hasl;split at h
      ·rename_i s;split at h
       ·rename_i ys' f hcast hte;obtain⟨hq,h⟩:=cs h;refine⟨_,h,λ A' hA R' K'=>?_⟩;unfold Aw;rw[ho,hod];simp only[hc,hT,hxs,B3 hA hx0,B3 hA hy0,hsu,hsw,Fx hA hau,Gha hA hrw,hsu',hh,hno,hasl,hcast,hte,hq,cond_true]
       ·cases h
      ·cases h
   ·cases h
  ·cases h
 ·cases h
def Bra (hA:Ag A A' F):∀ {ps:List Par} {ss:List Sv},(∀ s∈ss,∀ y∈parts s,RL A F y)→Ms A' ps ss=Ms A ps ss
 |[],[],_=>rfl
 |[],_::_,_=>rfl
 |p::_,[],_=>by cases p<;>rfl
 |.ptr _ _::_,_::_,_=>rfl
 |.hid _ _::_,_::_,_=>rfl
 |.rd _::_,_::_,_=>rfl
 |.fn _ _::_,_::_,_=>rfl
 |.vw _ _::_,_::_,_=>rfl
 |.val ag t::ps,s::ss,hs=>by
  unfold Ms;rw[Pla hA (hs s (by simp)),Bra hA (λ s' hs'=>hs s' (Vg _ hs'))]
def Iea {y:Lf}:∀ u∈Dba y,N4 u:=by
 intro u hu;unfold Dba at hu;split at hu
 ·simp only[Vq]at hu;subst hu;exact .inl rfl
 ·simp at hu
def Mf:∀ {ts:List Ty} {l:List Lf} {A:Ab} {m:List Lf} {us:List Up},G4 A ts l=some (m,us)→∀ u∈us,N4 u
 |[],[],A,m,us,h=>by
  simp only[G4,Vc,Vw]at h;obtain⟨_,rfl⟩:=h;simp
 |[],_::_,A,m,us,h=>by simp[G4]at h
 |t::ts,[],A,m,us,h=>by cases t<;>simp[G4]at h
 |t::ts,x::l,A,m,us,h=>by
  cases t with
  |ow e r=>
   simp only[G4]at h;split at h
   ·split at h
    ·rename_i hr;cases h;exact λ u hu=>(Vm.1 hu).elim (Iea u) (Mf hr u)
    ·cases h
   ·cases h
  |_=>
   simp only[G4]at h;split at h
   ·rename_i hr;cases h;exact λ u hu=>(Vm.1 hu).elim (Bqa u) (Mf hr u)
   ·cases h
def Psa {x:Operand} {s:Sv} {t:Ty} (hA:Ag A A' F) (hal:∀ y∈parts s,AL F y):Q5 A' x s t=Q5 A x s t:=by
 unfold Q5 Q4;rw[N6 (hA.ups (U:=gone x s)) hal]
def Ifa {x:Operand} {s:Sv} {t:Ty} {m:List Lf} {us:List Up} (h:Q5 A x s t=some (m,us)):∀ u∈us,N4 u:=by
 unfold Q5 Q4 at h;split at h
 ·rename_i m0 vs0 ht;cases hst:A5 m0
  ·rw[hst]at h;simp at h
  rw[hst]at h;simp only[cond_true,Vc,Vw]at h;obtain⟨_,rfl⟩:=h;exact λ u hu=>(Vm.1 hu).elim (T9 u) (Mf ht u)
 ·cases h
def Gma {b v:Nat} {t t':Ty} (hA:Ag A A' F) (hb:RB A F b 0):Oc A' b v t t'=Oc A b v t t':=by
 obtain⟨h1,h2⟩:=hb;unfold Oc;rw[hA _ h1];split
 ·rename_i n m hg
  have hcell:∀ i,i<m→C b (0+i)∈F∧∀ p v,(get A (C b (0+i))).2 = .one (.al p v)→p∈F:=λ i hi=>by
   rw[Wf];exact h2 m (by rw[hg]) i (Vu _) hi
  have hac:=Vr hcell;have e1:cellsOf A' b 0 m=cellsOf A b 0 m:=Qm hA (λ i hi=>(hcell i hi).1);rw[e1,N6 hA hac]
 ·rfl
def W2 {b v:Nat} {t t':Ty} {m:List Lf} {us:List Up} (h:Oc A b v t t'=some (m,us)):∀ u∈us,N4 u:=by
 unfold Oc at h;split at h
 ·rename_i n hd hp;obtain⟨hq,h⟩:=cs h;split at h
  ·rename_i l us0 hx;cases hst:A5 l
   ·rw[hst]at h;simp at h
   rw[hst]at h;simp only[cond_true,Vc,Vw]at h;obtain⟨_,rfl⟩:=h;exact Mf hx
  ·cases h
 ·cases h
def Tc (hA:Ag A A' F):∀ {bs:List (Nat×Nat)},(∀ c∈bs,RB A F c.1 0)→Kk A' bs=Kk A bs
 |[],_=>rfl
 |c::bs,h=>by
  unfold Kk;rw[hA _ (h c (by simp)).1,Tc hA (λ c hc=>h c (Vg _ hc))]
def Lma (hA:Ag A A' F) {b:Nat}:∀ {ts:List Ty} {j:Nat} {l:List Lf},(∀ y∈l,AL F y)→Dca A' b j ts l=Dca A b j ts l
 |[],_,[],_=>rfl
 |[],_,_::_,_=>rfl
 |t::ts,_,[],_=>by cases t<;>rfl
 |t::ts,j,x::l,h=>by
  have hx:=h x (by simp);have ih:=Lma hA (b:=b) (ts:=ts) (j:=j+1) (l:=l) (λ y hy=>h y (Vg _ hy))
  cases t with
  |ow e r=>
   cases x with
   |al p v=>simp only[Dca,ih,Fx hA hx,hA p hx]
   |_=>rfl
  |_=>simp only[Dca,ih,Fx hA hx]
def RV (A:Ab) (F:List Nat) (ss:List Sv):Prop:=∀ ys,Sv.agg ys∈ss→∀ p v,Lf.al p v∈ys→1000≤p→RB A F (p/1000-1) 0
def W3:∀ {ys:List Lf} {b:Nat},Aia ys=some b→∃ p v,Lf.al p v∈ys∧1000≤p∧b=p/1000-1
 |[],b,h=>by simp[Aia]at h
 |y::ys,b,h=>by
  have rest:Aia ys=some b→∃ p v,Lf.al p v∈y::ys∧1000≤p∧b=p/1000-1:=λ h=>by
   obtain⟨p,v,h1,h2⟩:=W3 h;exact⟨p,v,Vg _ h1,h2⟩
  cases y with
  |al p v=>
   simp only[Aia]at h;cases hq:Nat.ble 1000 p
   ·rw[hq]at h;exact rest h
   rw[hq]at h;simp only[cond_true,Vc]at h;exact⟨p,v,by simp,Vk hq,h.symm⟩
  |_=>exact rest h
def Lna (hA:Ag A A' F):∀ {ps:List Par} {ss:List Sv},RV A F ss→Aja A' ps ss=Aja A ps ss∧∀ c∈Aja A ps ss,RB A F c.1 0
 |[],ss,_=>⟨rfl,by simp[Aja]⟩
 |p::ps,[],_=>by cases p<;>exact⟨rfl,by simp[Aja]⟩
 |p::ps,s::ss,h=>by
  obtain⟨h1,h2⟩:=Lna hA (ps:=ps) (ss:=ss) (λ ys hy=>h ys (Vg _ hy))
  cases p with
  |vw t h0=>
   cases s with
   |agg ys=>
    simp only[Aja]
    cases hb:Aia ys with
    |none=>exact⟨h1,h2⟩
    |some b=>
     obtain⟨p,v,e1,e2,rfl⟩:=W3 hb;have hrb:=h ys (by simp) p v e1 e2;refine⟨by simp only[h1,hA _ hrb.1],λ c hc=>?_⟩;rcases Vl.1 hc with rfl|hc
     ·exact hrb
     ·exact h2 c hc
   |_=>exact⟨h1,h2⟩
  |_=>cases s<;>exact⟨h1,h2⟩
def Gna (hA:Ag A A' F) {cb hb:List (Nat×Nat)} {nv:Nat} {x:Operand} {p:Par} {s:Sv} (hhb:∀ c∈hb,RB A F c.1 0) (hs:∀ y∈parts s,RL A F y):Rj A' cb hb nv x p s=Rj A cb hb nv x p s∧∀ l u b,Rj A cb hb nv x p s=some (l,u,b)→∀ v∈u,N4 v:=by
 have hal:=RL.als hs;constructor
 ·unfold Rj;split
  ·rename_i t h0 ys
   cases hn:nth hb (h0-nv) with
   |none=>rfl
   |some c=>
    rw[Hs]at hn;simp only[hA _ (hhb c (Bqb hn)).1,Lma hA (show ∀ y∈ys,AL F y from hal)]
  ·simp only[Psa hA hal]
  ·rename_i b v;rw[Gma hA (show RB A F b 0 from hs (.bp b v 0) (by simp[parts]))]
  ·rename_i b v;rw[Gma hA (show RB A F b 0 from hs (.bp b v 0) (by simp[parts]))]
  ·rfl
  ·rename_i F0 m F' bs;rw[Tc hA (show ∀ c∈bs,RB A F c.1 0 from hs (.fn F' bs) (by simp[parts]))]
  ·rfl
 ·intro l u b h v hv;unfold Rj at h;split at h
  ·rename_i t h0 ys;split at h
   ·split at h
    ·rename_i n m _;generalize (Nat.ble nv h0&&Nat.beq n _&&Nat.beq m t.sz)=bb at h;cases bb
     ·simp at h
     rw[cond_true]at h;split at h
     ·cases h;simp at hv
     ·cases h
    ·cases h
   ·cases h
  ·rename_i ag t;obtain⟨hf,h⟩:=cs h;split at h
   ·rename_i hgive;cases h;exact Ifa hgive v hv
   ·cases h
  ·split at h
   ·rename_i hgive;cases h;exact W2 hgive v hv
   ·cases h
  ·split at h
   ·rename_i hgive;cases h;exact W2 hgive v hv
   ·cases h
  ·rename_i t r y;cases hf:(decide (shp r=shp t)&&Iu t)
   ·rw[hf]at h;simp at h
   rw[hf]at h;simp only[cond_true,Vc,Vw]at h;obtain⟨_,rfl,_⟩:=h;simp at hv
  ·rename_i F0 m F' bs;cases hf:(Nat.beq F0 F'&&Nat.beq m bs.length&&Rra bs cb&&Kk A bs)
   ·rw[hf]at h;simp at h
   rw[hf]at h;simp only[cond_true,Vc,Vw]at h;obtain⟨_,rfl,_⟩:=h;simp at hv
  ·cases h
def Td {cb hb:List (Nat×Nat)} {nv:Nat}:∀ {ps:List Par} {xs:List (TypeId×Operand)} {hs:List (Nat×Nat)} {A A':Ab},Ag A A' F→(∀ x∈xs,RX A F x.2)→(∀ h∈hs,RB A F h.1 0)→(∀ c∈hb,RB A F c.1 0)→Jr E cb hb nv A' xs hs ps=Jr E cb hb nv A xs hs ps
 |[],[],[],_,_,_,_,_,_=>rfl
 |[],[],_::_,_,_,_,_,_,_=>rfl
 |[],_::_,_,_,_,_,_,_,_=>rfl
 |_::_,[],[],_,_,_,_,_,_=>rfl
 |p::ps,x::xs,hs,A,A',hA,hx,hb',hhb=>by
  have hx0:RX A F x.2:=hx x (by simp);unfold Jr;rw[B3 hA hx0]
  cases hs:opT E x.1 A x.2 with
  |none=>rfl
  |some s=>
   simp only;obtain⟨h1,h2⟩:=Gna hA (cb:=cb) (hb:=hb) (nv:=nv) (x:=x.2) (p:=p) hhb (N5 hx0 hs);rw[h1]
   cases ha:Rj A cb hb nv x.2 p s with
   |none=>rfl
   |some q=>
    obtain⟨l,u,b⟩:=q;simp only;rw[Td (hA.ups (U:=u)) (λ y hy=>(hx y (Vg _ hy)).ups (h2 l u b ha)) (λ c hc=>(hb' c hc).ups (h2 l u b ha)) (λ c hc=>(hhb c hc).ups (h2 l u b ha))]
 |p::ps,[],h::hs,A,A',hA,hx,hb',hhb=>by
  unfold Jr
  obtain⟨h1,h2⟩:=Gna hA (cb:=cb) (hb:=hb) (nv:=nv) (x := .func 0) (p:=p) (s := .one (.bp h.1 h.2 0)) (F:=F) hhb (λ y hy=>by
   simp only[parts,Vq]at hy;subst hy
   exact hb' h (by simp))
  rw[h1]
  cases ha:Rj A cb hb nv (.func 0) p (.one (.bp h.1 h.2 0)) with
  |none=>rfl
  |some q=>
   obtain⟨l,u,b⟩:=q;simp only;rw[Td (hA.ups (U:=u)) (λ y hy=>by simp at hy) (λ c hc=>(hb' c (Vg _ hc)).ups (h2 l u b ha)) (λ c hc=>(hhb c hc).ups (h2 l u b ha))]
def Eaa:∀ {ss:List Sv},(∀ s∈ss,∀ y∈parts s,RL A F y)→∀ c∈Jja ss,RB A F c.1 0
 |[],_,c,hc=>by simp[Jja]at hc
 |s::ss,h,c,hc=>by
  have h2:=λ s' hs'=>h s' (Vg _ hs')
  cases s with
  |one z=>
   cases z with
   |fn F' bs=>exact(show ∀ c∈bs,RB A F c.1 0 from h (.one (.fn F' bs)) (by simp) (.fn F' bs) (by simp[parts])) c hc
   |_=>exact Eaa h2 c hc
  |_=>exact Eaa h2 c hc
def Goa (hA:Ag A A' F):∀ {xs:List Operand},(∀ x∈xs,RX A F x)→Aoa E A' xs=Aoa E A xs
 |[],_=>rfl
 |x::xs,h=>by
  unfold Aoa;rw[B3 hA (h x (by simp)),Goa hA (λ y hy=>h y (Vg _ hy))]
def Gpa {rs:List (RK×Ty)} {ls:List (List Lf)} {d:Option Nat} (hA:∀ d',d=some d'→get A' (H d')=get A (H d')):Od A' rs ls d=Od A rs ls d:=by
 unfold Od
 split<;>first|rfl|skip
 ·rename_i d _ _ _ _ _;unfold Jka;rw[hA _ rfl]
def Bsa {en:Ent} {xs:List (TypeId×Operand)} {cs:List (Nat×Nat)} {ss:List Sv} {d:Option Nat} (hd:∀ d',d=some d'→H d'∈F) (hx:∀ x∈xs,RX A F x.2) (hcs:∀ c∈cs,RB A F c.1 0) (hrl:∀ s∈ss,∀ y∈parts s,RL A F y) (hrv:RV A F ss) (h:X7 E A en xs cs ss d Kc=some r):
  ∃ U,Kc U=some r∧∀ A',Ag A A' F→∀ {R':Type} (K':List Up→Option R'),X7 E A' en xs cs ss d K'=K' U:=by
 unfold X7 at h;rw[csi]at h;obtain⟨hnv,h⟩:=h
 cases hb:(Mr en.ps&&Ud en.rs&&cs.isEmpty) with
 |true=>
  rw[hb,cond_true]at h;split at h
  ·cases h
  ·rename_i ls hl;split at h
   ·cases h
   ·rename_i x hm
    cases hr:en.run x with
    |none=>rw[hr]at h;simp at h
    |some y=>
     rw[hr]at h;simp only[Vt]at h;split at h
     ·cases h
     ·rename_i rs hrs;refine⟨_,h,λ A' hA R' K'=>?_⟩;unfold X7;simp only[hnv,hb,cond_true,Bra hA hrl,hl,hm,hr,Vt,Gpa (A:=A) (A':=A') (λ d' hd'=>hA _ (hd d' hd')),hrs]
 |false=>
  rw[hb,cond_false]at h;rw[csi]at h;obtain⟨hb2,h⟩:=h;split at h
  ·cases h
  ·rename_i ls us bs hl;rw[csi]at h;obtain⟨hnd,h⟩:=h;split at h
   ·cases h
   ·rename_i x hm
    cases hr:en.run x with
    |none=>rw[hr]at h;simp at h
    |some y=>
     rw[hr]at h;simp only[Vt]at h;split at h
     ·cases h
     ·rename_i ws hws;split at h
      ·cases h
      ·rename_i rs hrs;refine⟨_,h,λ A' hA R' K'=>?_⟩;have hA2:=(hA.ups (U:=us)).ups (U:=ws);obtain⟨v1,v2⟩:=Lna hA (ps:=en.ps) hrv;have hhb:∀ c∈Jja ss++Aja A en.ps ss,RB A F c.1 0:=λ c hc=>(Vm.1 hc).elim (Eaa hrl c) (v2 c);have hargs:=Td (E:=E) (cb:=Jja ss++Aja A en.ps ss) (hb:=Jja ss++Aja A en.ps ss) (nv:=en.nv) (ps:=en.ps) hA hx (hs:=cs++(Jja ss++Aja A en.ps ss)) (λ c hc=>(Vm.1 hc).elim (hcs c) (hhb c)) hhb;unfold X7;simp only[v1,hnv,hb,hb2,hnd,cond_true,cond_false,hargs,hl,hm,hr,Vt,hws,Gpa (A:=ups (ups A us) ws) (A':=ups (ups A' us) ws) (λ d' hd'=>hA2 _ (hd d' hd')),hrs]
def Eba:∀ {xs:List Operand} {Ts:List TypeId} {ss:List Sv},(∀ t,.tmp t∈xs→RV A F [(get A t).2])→Q6 E Ts A xs=some ss→RV A F ss
 |[],_,ss,_,h=>by
  simp only[Q6,Vc]at h;subst h;intro ys hy;simp at hy
 |x::xs,[],ss,_,h=>by simp[Q6]at h
 |x::xs,T::Ts,ss,hx,h=>by
  simp only[Q6]at h;split at h
  ·rename_i s hs;split at h
   ·rename_i ss' hss;cases h;intro ys hy p v hp h1;rcases Vl.1 hy with hy|hy
    ·subst hy
     cases x with
     |tmp t=>
      have h2:(bif Nat.blt t E.nt then some (get A t).2 else none)=some (.agg ys):=hs;cases hb:Nat.blt t E.nt
      ·rw[hb]at h2;simp at h2
      rw[hb]at h2;simp only[cond_true,Vc]at h2;exact hx t (by simp) ys (by rw[h2];simp) p v hp h1
     |const w=>
      exfalso;unfold opT at hs;split at hs
      ·rename_i e;cases e
      ·split at hs<;>cases hs
      ·rename_i w' _ _
       cases hq:Fla w'<;>simp[hq]at hs
      ·rename_i e;cases e
      ·cases hs
     |func f=>simp[opT]at hs
     |global g=>simp[opT]at hs
    ·exact Eba (λ t ht=>hx t (Vg _ ht)) hss ys hy p v hp h1
   ·cases h
  ·cases h
def Loa:∀ {ys:List Lf},(∀ p∈Voa A ys,p∈F)→∀ p v,Lf.al p v∈ys→1000≤p→RB A F (p/1000-1) 0
 |[],_,p,v,hm,_=>by simp at hm
 |y::ys,h,p,v,hm,hp=>by
  have rest:(∀ p∈Voa A ys,p∈F)→Lf.al p v∈ys→RB A F (p/1000-1) 0:=λ h hm=>Loa h p v hm hp
  cases y with
  |al q w=>
   simp only[Voa]at h;rcases Vl.1 hm with e|hm
   ·simp only[Lf.al.injEq]at e;obtain⟨rfl,rfl⟩:=e;rw[show Nat.ble 1000 p=true from Zj hp,cond_true]at h;exact L6a λ p hp=>h p (Vx _ hp)
   ·exact rest (λ p hp=>h p (Vn _ hp)) hm
  |_=>
   rcases Vl.1 hm with e|hm
   ·cases e
   ·exact rest h hm
def Lpa:∀ {xs:List Operand},(∀ p∈Taa A xs,p∈F)→∀ t,.tmp t∈xs→RV A F [(get A t).2]
 |[],_,t,hm=>by simp at hm
 |x::xs,h,t,hm=>by
  rcases Vl.1 hm with rfl|hm
  ·intro ys hy;simp only[Vq]at hy;simp only[Taa,← hy]at h;exact Loa λ p hp=>h p (Vx _ hp)
  ·refine Lpa (λ p hp=>h p ?_) t hm
   cases x<;>first|exact hp|(simp only[Taa];exact Vn _ hp)
def S4a {Ts:List TypeId} {xs:List Operand} (hx:∀ x∈xs,RX A F x):∀ x∈Ts.zip xs,RX A F x.2:=λ x hm=>hx x.2 (List.of_mem_zip (show (x.1,x.2)∈Ts.zip xs from hm)).2
def Lqa {c:Call} {f:FuncId} (ho:o.op = .call c) (hc:c.callee = .value (.func f)) (hd:∀ d,o.dst=some d→H d∈F) (hx:∀ x∈c.args.toList,RX A F x) (hv:∀ t,.tmp t∈c.args.toList→RV A F [(get A t).2]) (h:Aw E o A Kc=some r):Loc E o A F Kc r:=by
 unfold Aw at h;rw[ho]at h;simp only[hc]at h;split at h
 ·rename_i en ss he hss;obtain⟨U,h1,h2⟩:=Bsa hd (S4a hx) (by simp) (E9a hx hss) (Eba hv hss) h;refine⟨U,h1,λ A' hA R' K'=>?_⟩;unfold Aw;rw[ho];simp only[hc,he,Tb hA hx,hss];exact h2 A' hA K'
 ·cases h
def Lra {c:Call} {t:Nat} (ho:o.op = .call c) (hc:c.callee = .value (.tmp t)) (hd:∀ d,o.dst=some d→H d∈F) (ht:RX A F (.tmp t)) (hx:∀ x∈c.args.toList,RX A F x) (hv:∀ t,.tmp t∈c.args.toList→RV A F [(get A t).2]) (h:Aw E o A Kc=some r):Loc E o A F Kc r:=by
 unfold Aw at h;rw[ho]at h;simp only[hc]at h;split at h
 ·rename_i f bs hf;have hbs:∀ c∈bs,RB A F c.1 0:=H7 ht hf;split at h
  ·rename_i en ss he hss;obtain⟨hal,h⟩:=cs h;obtain⟨U,h1,h2⟩:=Bsa hd (S4a hx) hbs (E9a hx hss) (Eba hv hss) h;refine⟨U,h1,λ A' hA R' K'=>?_⟩;unfold Aw;rw[ho];simp only[hc,B3 hA ht,hf,he,Tb hA hx,hss,Tc hA hbs,hal,cond_true];exact h2 A' hA K'
  ·cases h
 ·cases h
def Bta {f:FuncId} {x y:Array Operand} {d:Nat} (ho:o.op = .makeFunc (.func f) x y) (hod:o.dst=some d) (hy:∀ z∈y.toList,RX A F z) (h:Aw E o A Kc=some r):Loc E o A F Kc r:=by
 unfold Aw at h;rw[ho,hod]at h;simp only at h;split at h
 ·rename_i bs hx hbs;refine⟨_,h,λ A' hA R' K'=>?_⟩;unfold Aw;rw[ho,hod];simp only[hx,Goa hA hy,hbs]
 ·cases h
def Pta (hF:∀ p∈rds A o,p∈F) (h:Aw E o A Kc=some r):Loc E o A F Kc r:=by
 have hD3:∀ d,o.dst=some d→d∈F∧H d∈F∧H (2000+d)∈F:=λ d hd=>by
  unfold rds at hF;rw[hd]at hF;exact⟨hF d (by simp[rdD]),hF (H d) (by simp[rdD]),hF (H (2000+d)) (by simp[rdD])⟩
 have hD:∀ d,o.dst=some d→d∈F∧H d∈F:=λ d hd=>⟨(hD3 d hd).1,(hD3 d hd).2.1⟩;have hO:∀ p∈W1a A o.op,p∈F:=λ p hp=>hF p (by unfold rds;exact Vn _ hp);have hX:W1a A o.op=Rsa A (Ij o.op)→∀ x∈Ij o.op,RX A F x:=λ e=>E4a (by rw[← e];exact hO)
 cases ho:o.op with
 |call c=>
  have hOc:∀ p∈Rsa A (Ij (.call c))++Taa A c.args.toList,p∈F:=λ p hp=>hO p (by rw[ho];exact hp);have hx:=E4a (λ p hp=>hOc p (Vx _ hp));have hvv:=Lpa (A:=A) (F:=F) (xs:=c.args.toList) (λ p hp=>hOc p (Vn _ hp))
  have hxs:(∀ y,c.callee = .value y→RX A F y)∧∀ x∈c.args.toList,RX A F x:=by
   unfold Ij at hx;simp only at hx;split at hx
   ·rename_i y hy;exact⟨λ z hz=>by rw[hy]at hz;cases hz;exact hx y (by simp),λ x hm=>hx x (Vg _ hm)⟩
   ·rename_i hno;exact⟨λ z hz=>absurd hz (hno z),hx⟩
  have hcv:=hxs.1
  replace hx:=hxs.2
  cases hc:c.callee with
  |builtin b=>
   cases b with
   |len=>exact Uaa ho hc hx h
   |min=>exact Uba ho hc hx h
   |max=>exact Uca ho hc hx h
   |append=>exact Ida ho hc hx h
   |_=>unfold Aw at h;rw[ho]at h;simp only[hc]at h;cases h
  |value f=>
   cases f with
   |func f=>exact Lqa ho hc (λ d hd=>(hD d hd).2) hx hvv h
   |tmp t=>exact Lra ho hc (λ d hd=>(hD d hd).2) (hcv _ hc) hx hvv h
   |_=>unfold Aw at h;rw[ho]at h;simp only[hc]at h;cases h
  |invoke x m=>unfold Aw at h;rw[ho]at h;simp only[hc]at h;cases h
 |store T x y=>
  have hx:=hX (by rw[ho];rfl);rw[ho]at hx
  cases hod:o.dst with
  |none=>exact Lea ho hod (hx x (by simp[Ij])) (hx y (by simp[Ij])) h
  |some d=>unfold Aw at h;rw[ho,hod]at h;cases h
 |move x=>cases hod:o.dst with
  |none=>unfold Aw at h;rw[ho,hod]at h;cases h
  |some d=>
   refine Poa ho hod (λ t e=>?_) h;subst e;exact hO t (by rw[ho];simp[W1a,rdT])
 |assign x=>cases hod:o.dst with
  |none=>unfold Aw at h;rw[ho,hod]at h;cases h
  |some d=>
   have hx:=hX (by rw[ho];rfl);rw[ho]at hx;exact Ica ho hod (hx x (by simp[Ij])) h
 |pick c x y=>cases hod:o.dst with
  |none=>unfold Aw at h;rw[ho,hod]at h;cases h
  |some d=>
   have hx:=hX (by rw[ho];rfl);rw[ho]at hx;exact Ppa ho hod (hx c (by simp[Ij])) (hx x (by simp[Ij])) (hx y (by simp[Ij])) h
 |binOp op T x y T'=>cases hod:o.dst with
  |none=>unfold Aw at h;rw[ho,hod]at h;cases h
  |some d=>
   have hx:=hX (by rw[ho];rfl);rw[ho]at hx;exact Laa ho hod (hx x (by simp[Ij])) (hx y (by simp[Ij])) h
 |unOp op T x=>cases hod:o.dst with
  |none=>unfold Aw at h;rw[ho,hod]at h;cases h
  |some d=>
   have hx:=hX (by rw[ho];rfl);rw[ho]at hx;exact Pna ho hod (hx x (by simp[Ij])) h
 |convert T T' x=>cases hod:o.dst with
  |none=>unfold Aw at h;rw[ho,hod]at h;cases h
  |some d=>
   have hx:=hX (by rw[ho];rfl);rw[ho]at hx;exact E7a ho hod (hx x (by simp[Ij])) h
 |nilCheck x=>cases hod:o.dst with
  |none=>unfold Aw at h;rw[ho,hod]at h;cases h
  |some d=>exact Bpa ho hod (S3a (λ p hp=>hO p (by rw[ho];exact hp))) h
 |extract x j=>cases hod:o.dst with
  |none=>unfold Aw at h;rw[ho,hod]at h;cases x<;>cases h
  |some d=>cases x with
   |tmp t=>
    have hx:=hX (by rw[ho];rfl);rw[ho]at hx;exact E8a ho hod (hx (.tmp t) (by simp[Ij])).1 h
   |_=>unfold Aw at h;rw[ho,hod]at h;cases h
 |field T x j=>cases hod:o.dst with
  |none=>unfold Aw at h;rw[ho,hod]at h;cases x<;>cases h
  |some d=>cases x with
   |tmp t=>
    have hx:=hX (by rw[ho];rfl);rw[ho]at hx;exact Lba ho hod (hx (.tmp t) (by simp[Ij])).1 h
   |_=>unfold Aw at h;rw[ho,hod]at h;cases h
 |build T ps=>cases hod:o.dst with
  |none=>unfold Aw at h;rw[ho,hod]at h;cases h
  |some d=>
   have hx:=hX (by rw[ho];rfl);rw[ho]at hx;exact Lla ho hod (λ p hp=>hx p.2 (Yl hp)) h
 |alloc T=>cases hod:o.dst with
  |none=>unfold Aw at h;rw[ho,hod]at h;cases h
  |some d=>exact Lca ho hod (hD d hod).2 h
 |box T x=>cases hod:o.dst with
  |none=>unfold Aw at h;rw[ho,hod]at h;cases h
  |some d=>
   have hx:=hX (by rw[ho];rfl);rw[ho]at hx;exact U8a ho hod (hD d hod).2 (hx x (by simp[Ij])) h
 |load T x=>cases hod:o.dst with
  |none=>unfold Aw at h;rw[ho,hod]at h;cases h
  |some d=>
   have hx:=hX (by rw[ho];rfl);rw[ho]at hx;exact Pqa ho hod (hx x (by simp[Ij])) h
 |fieldAddr T x j=>cases hod:o.dst with
  |none=>unfold Aw at h;rw[ho,hod]at h;cases h
  |some d=>exact Xx ho hod (S3a (λ p hp=>hO p (by rw[ho];exact hp))) h
 |indexAddr T x i=>cases hod:o.dst with
  |none=>unfold Aw at h;rw[ho,hod]at h;cases h
  |some d=>
   have hx:=hX (by rw[ho];rfl);rw[ho]at hx
   cases hop:E.opn d with
   |true=>exact Xy ho hod hop (hD3 d hod).2.2 (hx x (by simp[Ij])) (hx i (by simp[Ij])) h
   |false=>exact Xz ho hod hop (hx x (by simp[Ij])) (hx i (by simp[Ij])) h
 |index T x i=>cases hod:o.dst with
  |none=>unfold Aw at h;rw[ho,hod]at h;cases h
  |some d=>
   have hx:=hX (by rw[ho];rfl);rw[ho]at hx;exact Lga ho hod (hx x (by simp[Ij])) (hx i (by simp[Ij])) h
 |slice T x lo hi mx=>cases hod:o.dst with
  |none=>unfold Aw at h;rw[ho,hod]at h;cases mx<;>cases h
  |some d=>cases mx with
   |none=>
    have hx:=hX (by rw[ho];rfl);rw[ho]at hx;exact Lha ho hod (hx x (by simp[Ij])) (λ y hy=>hx y (by simp[Ij,hy])) (λ y hy=>hx y (by simp[Ij,hy])) h
   |some m=>unfold Aw at h;rw[ho,hod]at h;cases h
 |buildSlice T n ps=>cases hod:o.dst with
  |none=>unfold Aw at h;rw[ho,hod]at h;cases h
  |some d=>
   have hx:=hX (by rw[ho];rfl);rw[ho]at hx;exact Uk ho hod (λ p hp=>hx p.2 (Yl hp)) h
 |makeSlice T x y=>cases hod:o.dst with
  |none=>unfold Aw at h;rw[ho,hod]at h;cases h
  |some d=>
   have hx:=hX (by rw[ho];rfl);rw[ho]at hx;exact Y0 ho hod (hx x (by simp[Ij])) (hx y (by simp[Ij])) h
 |makeFunc fn x y=>
  cases fn with
  |func f=>cases hod:o.dst with
   |none=>unfold Aw at h;rw[ho,hod]at h;cases h
   |some d=>
    have hx:=hX (by rw[ho];rfl);rw[ho]at hx;exact Bta ho hod (λ z hz=>hx z (by simp only[Ij];exact Vn _ hz)) h
  |_=>unfold Aw at h;rw[ho]at h;cases hod:o.dst<;>(rw[hod]at h;cases h)
 |_=>unfold Aw at h;rw[ho]at h;cases hod:o.dst<;>(rw[hod]at h;cases h)
end
end

section
attribute [local irreducible] C H
abbrev Gs:=Nat→Nat×Sv
def gup (g:Gs) (u:Up):Gs:=λ p=>if p=u.l then ((bif u.keep then (g u.l).1 else (g u.l).1+1),u.s) else g p
def Eca (g:Gs):List Up→Gs
 |[]=>g
 |u::U=>Eca (gup g u) U
def Nr:∀ (U:List Up) (A:Ab),get (ups A U)=Eca (get A) U
 |[],_=>rfl
 |u::U,A=>by
  show get (ups (up A u) U)=Eca (gup (get A) u) U;rw[Nr U (up A u)];congr 1;funext p;exact T7 A u p
def Pj:∀ (U:List Up) (g:Gs) (p:Nat),p∉U.map Up.l→Eca g U p=g p
 |[],_,_,_=>rfl
 |u::U,g,p,h=>by
  simp only[Ya,Vl,not_or]at h;show Eca (gup g u) U p=g p;rw[Pj U _ p h.2];exact if_neg h.1
def Pk:∀ (U:List Up) (g g':Gs) (p:Nat),g p=g' p→Eca g U p=Eca g' U p
 |[],_,_,_,h=>h
 |u::U,g,g',p,h=>by
  refine Pk U (gup g u) (gup g' u) p ?_;unfold gup
  by_cases e:p=u.l
  ·subst e;rw[if_pos rfl,if_pos rfl,h]
  ·rw[if_neg e,if_neg e,h]
structure Ak where
 N:Gs→Prop
 e:Gs→Gs
def Ind (x y:Ak):Prop:=(∀ g,x.N g→y.N (x.e g)→y.N g)∧(∀ g,y.N g→x.N g→x.N (y.e g))∧(∀ g,x.N g→y.N g→x.e (y.e g)=y.e (x.e g))
def S5a:List Ak→Gs→Gs→Prop
 |[],g,f=>g=f
 |x::L,g,f=>x.N g∧S5a L (x.e g) f
def S5a.front {y:Ak} {L2:List Ak}:∀ {L1:List Ak} {g f:Gs},(∀ x∈L1,Ind x y)→S5a (L1++y::L2) g f→y.N g∧S5a (L1++L2) (y.e g) f
 |[],g,f,_,h=>h
 |x::L1,g,f,hi,h=>by
  obtain⟨h1,h2⟩:=h;obtain⟨h3,h4⟩:=S5a.front (λ z hz=>hi z (Vg _ hz)) h2;obtain⟨i1,i2,i3⟩:=hi x (by simp);have hy:=i1 g h1 h3;exact⟨hy,i2 g hy h1,by rw[i3 g h1 hy];exact h4⟩
inductive Anc (ops:Array Oper):Nat→Nat→Prop
 |dir {i j:Nat} {o:Oper} (h:ops[i]? = some o) (hj:j∈aft o):Anc ops j i
 |tr {i j k:Nat} {o:Oper} (h:ops[i]? = some o) (hk:k∈aft o) (ha:Anc ops j k):Anc ops j i
def Lsa {o:Oper} {j:Nat}:j∈aft o↔∃ e∈o.after,Region.binds .any e=true∧e.on=j:=by
 unfold aft;rw[List.mem_filterMap];constructor
 ·rintro⟨e,he,h⟩;cases hb:Region.binds .any e
  ·rw[hb]at h;simp at h
  rw[hb]at h;simp only[cond_true,Vc]at h;exact⟨e,by simpa using he,hb,h⟩
 ·rintro⟨e,he,hb,h⟩;exact⟨e,by simpa using he,by rw[hb];simp[h]⟩
section
variable {X:Cx} {E:En} {ops:Array Oper} {Q:Exit→Act→World→Prop}
def Vva (X:Cx) (ops:Array Oper) (Q:Exit→Act→World→Prop) (i:Nat) (x:Ak):Prop:=
 ∀ (S:Sit) (a:Act) (A:Ab),B4 X S a→S.g=get A→x.N (get A)→∀ K:Act→World→Prop,(∀ S' a' A',B4 X S' a'→S'.g=get A'→get A'=x.e (get A)→K a' S'.w)→wpOp X.P ops Q i K a S.w
def Iga {listed:Array Bool} (hd:∀ i o,ops[i]? = some o→listed.getD i false=true→∀ j∈aft o,listed.getD j false=true) {i j:Nat} (h:Anc ops j i):listed.getD i false=true→listed.getD j false=true:=by
 induction h with
 |dir h hj=>exact λ hi=>hd _ _ h hi _ hj
 |tr h hk _ ih=>exact λ hi=>ih (hd _ _ h hi _ hk)
def Eda {listed:Array Bool} {i:Nat} (hi:i<listed.size):listed.getD i true=listed.getD i false:=by
 simp[Yg,hi]
def S6a (hlt:∀ i o,ops[i]? = some o→∀ j∈aft o,j<i) {f:Gs} (hQ:∀ S a A,B4 X S a→S.g=get A→get A=f→Q .normal a S.w):
  ∀ (fuel:Nat) (L:List (Nat×Ak)) (listed:Array Bool) (S:Sit) (a:Act) (A:Ab),L.length=fuel→listed.size=ops.size→L.Pairwise (λ x y=>x.1<y.1)→(∀ i,i<ops.size→(listed.getD i false=false↔∃ x∈L,x.1=i))→
   L.Pairwise (λ x y=>Anc ops x.1 y.1∨Ind x.2 y.2)→(∀ x∈L,Vva X ops Q x.1 x.2)→(∀ x∈L,x.1<ops.size)→
   (∀ i o,ops[i]? = some o→listed.getD i false=true→∀ j∈aft o,listed.getD j false=true)→
   B4 X S a→S.g=get A→S5a (L.map Prod.snd) (get A) f→wpAny X.P .any ops Q fuel listed a S.w
 |0,L,listed,S,a,A,hlen,hsz,hs,hl,hi,ho,hb,hd,K,hg,hr=>by
  have:L=[]:=Xs hlen;subst this;refine⟨?_,hQ S a A K hg hr⟩;rw[Bib];intro i hm;obtain⟨h1,o,h2,_⟩:=mem_ready.1 hm;have hlt2:i<ops.size:=(Zs.1 h2).1;rw[Eda (by omega)]at h1;obtain⟨x,hx,_⟩:=(hl i hlt2).1 h1;simp at hx
 |fuel+1,L,listed,S,a,A,hlen,hsz,hs,hl,hi,ho,hb,hd,K,hg,hr=>by
  cases L with
  |nil=>simp at hlen
  |cons x0 L0=>
   refine⟨λ h0=>?_,λ i hm=>?_⟩
   ·exfalso;have hx0:=hb x0 (by simp);obtain⟨o,h2⟩:∃ o,ops[x0.1]? = some o:=⟨_,Acb hx0⟩;have hu:=(hl x0.1 hx0).2 ⟨x0,by simp,rfl⟩
    have:x0.1∈Region.ready .any ops listed:=by
     refine mem_ready.2 ⟨by rw[Eda (by omega)];exact hu,o,h2,λ e he hbe=>?_⟩;have hj:=hlt _ _ h2 e.on (Lsa.2 ⟨e,he,hbe,rfl⟩);cases hc:listed.getD e.on false
     case true=>rfl
     obtain⟨y,hy,hye⟩:=(hl e.on (by omega)).1 hc;rcases Vl.1 hy with rfl|hy
     ·omega
     ·have:=(Wd.1 hs).1 y hy;omega
    rw[h0]at this;simp at this
   ·obtain⟨h1,o,h2,h3⟩:=mem_ready.1 hm;have hil:i<ops.size:=(Zs.1 h2).1;rw[Eda (by omega)]at h1;obtain⟨y,hy,hyi⟩:=(hl i hil).1 h1;obtain⟨L1,L2,hL⟩:=List.append_of_mem hy
    have haft:∀ j∈aft o,listed.getD j false=true:=λ j hj=>by
     obtain⟨e,he,hbe,rfl⟩:=Lsa.1 hj;exact h3 e he hbe
    have hanc:∀ j,Anc ops j i→listed.getD j false=true:=by
     intro j hj
     cases hj with
     |dir h hj=>rw[h2]at h;cases h;exact haft _ hj
     |tr h hk ha=>rw[h2]at h;cases h;exact Iga hd ha (haft _ hk)
    rw[hL]at hs hl hi ho hb hr hlen;rw[Za]at hs hi;obtain⟨s1,s2,s3⟩:=hs;obtain⟨i1,i2,i3⟩:=hi;rw[Wd]at s2 i2
    have hind:∀ x∈L1,Ind x.2 y.2:=by
     intro x hx;rcases i3 x hx y (by simp) with h|h
     ·exfalso;have h4:=hanc x.1 (by rw[← hyi];exact h);have h5:=(hl x.1 (hb x (by simp[hx]))).2 ⟨x,by simp[hx],rfl⟩;rw[h4]at h5;cases h5
     ·exact h
    rw[A1b,Ya]at hr;obtain⟨hN,hr2⟩:=S5a.front (λ z hz=>by obtain⟨x,hx,rfl⟩:=Yt.1 hz;exact hind x hx) hr;rw[← A1b]at hr2;subst hyi;refine ho y (by simp) S a A K hg hN _ (λ S' a' A' K' g' e'=>?_)
    refine S6a hlt hQ fuel (L1++L2) (listed.setIfInBounds y.1 true) S' a' A' (by simp at hlen ⊢;omega) (by simpa using hsz) ?_ ?_ ?_ (λ x hx=>ho x (by rcases Vm.1 hx with h|h<;>simp[h])) (λ x hx=>hb x (by rcases Vm.1 hx with h|h<;>simp[h])) ?_ K' g' (by rw[e'];exact hr2)
    ·exact Za.2 ⟨s1,s2.2,λ x hx z hz=>s3 x hx z (Vg _ hz)⟩
    ·intro k hk
     by_cases hky:k=y.1
     ·subst hky
      have e1:(listed.setIfInBounds y.1 true).getD y.1 false=true:=by simp[Yg,hsz,hk]
      rw[e1];constructor
      ·intro h;cases h
      ·rintro⟨x,hx,hxe⟩;exfalso;rcases Vm.1 hx with h|h
       ·have:=s3 x h y (by simp);omega
       ·have:=s2.1 x h;omega
     ·rw[getD_set_ne false (B7b hky),hl k hk];constructor
      ·rintro⟨x,hx,hxe⟩;refine⟨x,?_,hxe⟩;rcases Vm.1 hx with h|h
       ·exact Vx _ h
       ·rcases Vl.1 h with rfl|h
        ·exact(hky hxe.symm).elim
        ·exact Vn _ h
      ·rintro⟨x,hx,hxe⟩
       exact⟨x,by rcases Vm.1 hx with h|h<;>simp[h],hxe⟩
    ·exact Za.2 ⟨i1,i2.2,λ x hx z hz=>i3 x hx z (Vg _ hz)⟩
    ·intro k o' hk hkl j hj
     by_cases hky:k=y.1
     ·subst hky;rw[h2]at hk;cases hk;exact getD_set_true (haft j hj)
     ·rw[getD_set_ne false (B7b hky)]at hkl;exact getD_set_true (hd k o' hk hkl j hj)
end
end

section
attribute [local irreducible] C H
def Y1 {p:Nat}:∀ {l:List Nat},Vpa p l=true↔p∈l
 |[]=>by simp[Vpa]
 |q::l=>by
  simp only[Vpa,Zp,Vl,Y1 (l:=l)];constructor
  ·rintro (h|h)
   ·exact .inl (Vd h).symm
   ·exact .inr h
  ·rintro (rfl|h)
   ·exact .inl (by simp)
   ·exact .inr h
def Y2 {m:List Nat}:∀ {l:List Nat},Vqa l m=true↔∀ p∈l,p∉m
 |[]=>by simp[Vqa]
 |q::l=>by
  simp only[Vqa,Va,Vy,Vl,Y2 (l:=l)];constructor
  ·rintro⟨h1,h2⟩ p (rfl|h) hm
   ·rw[Y1.2 hm]at h1;cases h1
   ·exact h2 p h hm
  ·intro h;refine⟨?_,λ p hp=>h p (.inr hp)⟩
   cases hc:Vpa q m with
   |false=>rfl
   |true=>exact(h q (.inl rfl) (Y1.1 hc)).elim
def Uda (s:Sv) (j:Nat):Sv:=match s with
 |.tup vs => .tup (vs.set j (false,[.dead]))
 |s=>s
structure Ext (x:Ak) (t j d:Nat):Prop where
 N:∃ ag l,∀ g,x.N g↔∃ vs,(g t).2 = .tup vs∧nth vs j=some (ag,l)
 e:d≠t→∃ (w:Bool) (s:Sv),∀ g p,x.e g p=if p=d then ((g p).1+1,s) else if w=true∧p=t then ((g p).1+1,Uda (g p).2 j) else g p
structure Y3 (y:Lg) (x:Ak):Prop where
 WF:∀ p∈y.W,p∈y.F
 N:∀ g g',(∀ p∈y.F,g p=g' p)→x.N g→x.N g'
 out:∀ g p,p∉y.W→x.e g p=g p
 loc:∀ g g' p,p∈y.W→g p=g' p→x.e g p=x.e g' p
 ex:∀ t j d,y.ex=some (t,j,d)→Ext x t j d
def Y3.ind {y y':Lg} {x x':Ak} (h:Y3 y x) (h':Y3 y' x') (hi:Jna y y'=true):Ind x x':=by
 unfold Jna at hi;simp only[Zp,Va]at hi;rcases hi with⟨d1,d2⟩|hi
 ·have d1:=Y2.1 d1;have d2:=Y2.1 d2;have o1:∀ g,∀ p∈y'.F,x.e g p=g p:=λ g p hp=>h.out g p (λ hw=>d1 p hw hp);have o2:∀ g,∀ p∈y.F,x'.e g p=g p:=λ g p hp=>h'.out g p (λ hw=>d2 p hw hp);refine⟨λ g _ hn=>h'.N _ _ (o1 g) hn,λ g _ hn=>h.N _ _ (λ p hp=>(o2 g p hp).symm) hn,λ g _ _=>?_⟩;funext p
  by_cases hp:p∈y.W
  ·have hp':p∉y'.W:=λ hw=>d2 p hw (h.WF p hp);rw[h'.out (x.e g) p hp',h.loc (x'.e g) g p hp (o2 g p (h.WF p hp))]
  ·rw[h.out (x'.e g) p hp]
   by_cases hp':p∈y'.W
   ·exact h'.loc g (x.e g) p hp' (o1 g p (h'.WF p hp')).symm
   ·rw[h'.out _ p hp',h'.out _ p hp',h.out _ p hp]
 ·split at hi
  ·rename_i t j d t' j' d' e1 e2;simp only[Va,Vy]at hi;obtain⟨⟨⟨⟨q1,q2⟩,q3⟩,q4⟩,q5⟩:=hi;have ht:t=t':=Vd q1;subst ht
   have hj:j≠j':=λ e=>by subst e;simp at q2
   have hd:d≠d':=λ e=>by subst e;simp at q3
   have hdt:d≠t:=λ e=>by subst e;simp at q4
   have hdt':d'≠t:=λ e=>by subst e;simp at q5
   obtain⟨⟨ag,l,hN⟩,he⟩:=h.ex t j d e1;obtain⟨⟨ag',l',hN'⟩,he'⟩:=h'.ex t j' d' e2;obtain⟨w,s,he⟩:=he hdt;obtain⟨w',s',he'⟩:=he' hdt'
   have et:∀ g,(x.e g t).2=if w=true then Uda (g t).2 j else (g t).2:=λ g=>by
    rw[he,if_neg (B7b hdt)]
    cases w<;>simp
   have et':∀ g,(x'.e g t).2=if w'=true then Uda (g t).2 j' else (g t).2:=λ g=>by
    rw[he',if_neg (B7b hdt')]
    cases w'<;>simp
   refine⟨λ g hn hn'=>?_,λ g hn' hn=>?_,λ g hn hn'=>?_⟩
   ·obtain⟨vs,g1,g2⟩:=(hN g).1 hn;obtain⟨vs',g1',g2'⟩:=(hN' _).1 hn';refine(hN' g).2 ⟨vs,g1,?_⟩;rw[et,g1]at g1'
    cases w with
    |false=>
     simp only[Wm,if_false,Sv.tup.injEq]at g1';rw[g1'];exact g2'
    |true=>
     simp only[if_true,Uda,Sv.tup.injEq]at g1';rw[← g1',Hs,Awb hj]at g2';rw[Hs];exact g2'
   ·obtain⟨vs,g1,g2⟩:=(hN g).1 hn;refine(hN _).2 ?_;cases w'
    ·exact⟨vs,by rw[et',g1];simp,g2⟩
    refine⟨vs.set j' (false,[.dead]),by rw[et',g1];simp[Uda],?_⟩;rw[Hs,Awb (B7b hj),← Hs];exact g2
   ·funext p
    by_cases p1:p=d
    ·subst p1;simp[he,he',hd,hdt]
    ·by_cases p2:p=d'
     ·subst p2;simp[he,he',p1,hdt']
     ·by_cases p3:p=t
      ·subst p3;obtain⟨vs,g1,g2⟩:=(hN g).1 hn
       cases w<;>cases w'<;>simp[he,he',p1,p2,g1,Uda]
       exact List.set_comm _ _ (B7b hj)
      ·simp[he,he',p1,p2,p3]
  ·cases hi
def Gqa {ops:Array Oper}:∀ {lg:List Lg},(∀ y∈lg,∀ k,Nat.testBit y.anc k=true→Anc ops k y.i)→∀ j k,Nat.testBit (Joa lg j) k=true→Anc ops k j
 |[],_,j,k,h=>by simp[Joa]at h
 |y::lg,hl,j,k,h=>by
  unfold Joa at h
  cases hb:Nat.beq y.i j with
  |true=>
   rw[hb,cond_true]at h;rw[← Vd hb];exact hl y (by simp) k h
  |false=>
   rw[hb,cond_false]at h;exact Gqa (λ z hz=>hl z (Vg _ hz)) j k h
def Lta {ops:Array Oper} {lg:List Lg} (hl:∀ y∈lg,∀ k,Nat.testBit y.anc k=true→Anc ops k y.i) {i:Nat} {o:Oper} (ho:ops[i]? = some o):∀ {l:List Nat},(∀ j∈l,j∈aft o)→∀ k,Nat.testBit (Rta lg l) k=true→Anc ops k i
 |[],_,k,h=>by simp[Rta]at h
 |j::l,hj,k,h=>by
  unfold Rta at h;simp only[Nat.testBit_or,Zp]at h;rcases h with (h|h)|h
  ·rw[Nat.testBit_two_pow]at h;simp only[decide_eq_true_eq]at h;subst h;exact .dir ho (hj _ (by simp))
  ·exact .tr ho (hj j (by simp)) (Gqa hl j k h)
  ·exact Lta hl ho (λ m hm=>hj m (Vg _ hm)) k h
section
variable {X:Cx} {E:En} {ops:Array Oper} {Q:Exit→Act→World→Prop}
def Gra {S:Sit} {a:Act} (hE:Il X E) (hK:B4 X S a) {o:Oper} {j dj:Nat} {want:Bool} (hgd:o.guard=some (j,want)) (hdj:Jma ops.toList j=some dj) (hb:Nat.blt dj E.nt=true):
  (∀ b,(S.g dj).2 = .one (.sc (.bool b))→Region.wanted o (yielded ops a.tmps)=(b==want))∧((S.g dj).2 = .one .un→Region.wanted o (yielded ops a.tmps)=false):=by
 have hdj':(ops[j]?).bind (·.dst)=some dj:=by
  unfold Jma at hdj;rw[Hs]at hdj
  have:ops.toList[j]? = ops[j]? := by simp
  rw[this]at hdj
  cases hj:ops[j]? with
  |none=>rw[hj]at hdj;cases hdj
  |some oj=>rw[hj]at hdj;simpa using hdj
 have hjl:dj<X.nt:=hE.nt ▸ (Vk hb:dj+1≤E.nt)
 have htm:a.tmps[dj]? = some (S.ph dj):=by
  have h1:=hK.sl dj hjl
  have h2:dj<a.tmps.size:=by rw[hK.sz];exact hjl
  rw[← h1,Yg,Acb h2];rfl
 have hy:yielded ops a.tmps j=(match S.ph dj with | .bool b=>some b|_=>none):=by
  unfold yielded;rw[hdj',Vt,htm]
  cases S.ph dj<;>rfl
 have hwd:Region.wanted o (yielded ops a.tmps)=((match S.ph dj with | .bool b=>some b|_=>none)==some want):=by
  unfold Region.wanted;rw[hgd];simp only;rw[hy]
 have hat:=hK.at_ dj;constructor
 ·intro b hs;rw[hs]at hat;have hph:S.ph dj = .bool b:=hat.1;rw[hwd,hph]
  cases b<;>cases want<;>rfl
 ·intro hs;rw[hs]at hat;have hph:S.ph dj=undef:=hat;rw[hwd,hph];simp[undef]
def Yba (F:List Nat) (A:Ab) (U:List Up):Ak:=⟨λ g=>∀ p∈F,g p=get A p,λ g=>Eca g U⟩
def Lua {y:Lg} {A:Ab} {U:List Up} {F:List Nat} (hF:y.F=F++U.map Up.l) (hW:y.W=U.map Up.l) (hex:y.ex=none):Y3 y (Yba y.F A U):=by
 refine⟨λ p hp=>?_,λ g g' h hn p hp=>by rw[← h p hp];exact hn p hp,λ g p hp=>Pj U g p (by rw[← hW];exact hp),λ g g' p _ h=>Pk U g g' p h,λ t j d h=>by rw[hex]at h;cases h⟩;rw[hF,Vm];exact .inr (by rw[← hW];exact hp)
def Wwa (hV:T4 X E) {i:Nat} {o:Oper} (hi:ops[i]? = some o) (hd:Apa E o=true) {x:Ak} (hw:∀ S a,B4 X S a→x.N S.g→Region.wanted o (yielded ops a.tmps)=true)
  (hU:∀ A',x.N (get A')→∃ U,Aw E o A' some=some U∧Eca (get A') U=x.e (get A')):Vva X ops Q i x:=by
 intro S a A' K hg hn Kn hk
 have hdl:∀ d,o.dst=some d→d<X.nt:=λ d hod=>by
  unfold Apa at hd;rw[hod]at hd;exact hV.en.nt ▸ (Vk hd:d+1≤E.nt)
 obtain⟨U,hU1,hU2⟩:=hU A' hn;obtain⟨U',hU',hgo⟩:=Kva hV K hg hdl hU1;simp only[Vc]at hU';subst hU';unfold wpOp;rw[hi];simp only;rw[if_pos (hw S a K (by rw[hg];exact hn))];exact .inl (hgo _ _ (λ S' a' K' g'=>hk S' a' _ K' g' ((Nr U' A').trans hU2)))
def Uea (hV:T4 X E) {i:Nat} {o:Oper} (hi:ops[i]? = some o) (hd:Apa E o=true) {N:Gs→Prop} (hw:∀ S a,B4 X S a→N S.g→Region.wanted o (yielded ops a.tmps)=false):
  Vva X ops Q i ⟨N,λ g=>Eca g (match o.dst with|some d=>[⟨d,false,.one .un⟩]|none=>[])⟩:=by
 intro S a A' K hg hn Kn hk;unfold wpOp;rw[hi];simp only;rw[if_neg (by rw[hw S a K (by rw[hg];exact hn)];decide)];obtain⟨S',K',g',w'⟩:=S0a hV.en K hg hd;rw[← w'];refine hk S' _ _ K' g' ?_;unfold P4
 cases o.dst with
 |none=>rfl
 |some d=>exact Nr [⟨d,false,.one .un⟩] A'
def Gsa (t j d:Nat) (l:List Lf) (s:Sv) (vs:List (Bool×List Lf)):List Up:=bif Fg l then [⟨t,false,.tup (vs.set j (false,[.dead]))⟩,⟨d,false,s⟩] else [⟨d,false,s⟩]
def Pua {R:Type} {Kc:List Up→Option R} {r:R} {A:Ab} {o:Oper} {t j d:Nat} (ho:o.op = .extract (.tmp t) j) (hod:o.dst=some d) (h:Aw E o A Kc=some r):
  ∃ vs ag l s,(get A t).2 = .tup vs∧nth vs j=some (ag,l)∧Kc (Gsa t j d l s vs)=some r∧∀ A' vs',(get A' t).2 = .tup vs'→nth vs' j=some (ag,l)→Aw E o A' some=some (Gsa t j d l s vs'):=by
 unfold Aw at h;rw[ho,hod]at h;simp only at h;cases hb:Nat.blt t E.nt
 ·rw[hb]at h;simp at h
 rw[hb,cond_true]at h;split at h
 ·rename_i vs hg;split at h
  ·rename_i ag l hn;split at h
   ·rename_i s hs;refine⟨vs,ag,l,s,hg,hn,?_,λ A' vs' hg' hn'=>?_⟩
    ·rw[← h];unfold Gsa
     cases Fg l<;>rfl
    ·unfold Aw;rw[ho,hod];simp only[hb,cond_true,hg',hn',hs];unfold Gsa
     cases Fg l<;>rfl
   ·cases h
  ·cases h
 ·cases h
def Eea (t j d:Nat) (ag:Bool) (l:List Lf) (s:Sv):Ak:=
 ⟨λ g=>∃ vs,(g t).2 = .tup vs∧nth vs j=some (ag,l),λ g=>Eca g (bif Fg l then [⟨t,false,Uda (g t).2 j⟩,⟨d,false,s⟩] else [⟨d,false,s⟩])⟩
def Pva {o:Oper} {i:Nat} {lg:List Lg} {A:Ab} {t j d:Nat} {ag:Bool} {l:List Lf} {s:Sv} {vs:List (Bool×List Lf)} (ho:o.op = .extract (.tmp t) j) (hod:o.dst=some d):
  Y3 (Ux o i lg [] A (Gsa t j d l s vs)) (Eea t j d ag l s):=by
 have ht:t∈(Ux o i lg [] A (Gsa t j d l s vs)).F:=by
  show t∈[]++rds A o++_;simp[rds,W1a,ho,Ij,Rsa,rdO]
 have hW:(Ux o i lg [] A (Gsa t j d l s vs)).W=bif Fg l then [t,d] else [d]:=by
  show (Gsa t j d l s vs).map Up.l=_;unfold Gsa
  cases Fg l<;>rfl
 refine⟨λ p hp=>Vn _ hp,λ g g' hF hn=>?_,λ g p hp=>?_,λ g g' p hp h=>?_,λ t' j' d' h=>?_⟩
 ·obtain⟨vs',h1,h2⟩:=hn;exact⟨vs',by rw[← hF t ht];exact h1,h2⟩
 ·rw[hW]at hp;unfold Eea
  cases hl:Fg l with
  |true=>
   rw[hl]at hp;exact Pj _ _ _ hp
  |false=>
   rw[hl]at hp;exact Pj _ _ _ hp
 ·rw[hW]at hp;unfold Eea;cases hl:Fg l
  ·exact Pk _ _ _ p h
  rw[hl]at hp;simp only[cond_true];show gup (gup g _) _ p=gup (gup g' _) _ p;unfold gup
  by_cases e1:p=d
  ·subst e1
   by_cases e2:p=t
   ·subst e2;simp[h]
   ·simp[e2,h]
  ·rcases Vl.1 hp with e2|e2
   ·subst e2;simp[e1,h]
   ·exact(e1 (by simpa using e2)).elim
 ·have hex:(Ux o i lg [] A (Gsa t j d l s vs)).ex=some (t,j,d):=by
   show (bif List.isEmpty ([]:List Nat) then W2a o else none)=_;simp[W2a,ho,hod]
  rw[hex]at h;cases h;refine⟨⟨ag,l,λ g=>C6b⟩,λ hdt=>⟨Fg l,s,λ g p=>?_⟩⟩;unfold Eea
  cases hl:Fg l with
  |false=>
   show gup g _ p=_;unfold gup
   by_cases e1:p=d
   ·subst e1;simp
   ·simp[e1]
  |true=>
   simp only[cond_true];show gup (gup g _) _ p=_;unfold gup
   by_cases e1:p=d
   ·subst e1;simp[hdt]
   ·simp[e1]
    by_cases e2:p=t
    ·subst e2;simp
    ·simp[e2]
end
end

section
attribute [local irreducible] C H
section
variable {X:Cx} {E:En} {ops:Array Oper} {Q:Exit→Act→World→Prop}
structure S7a (X:Cx) (ops:Array Oper) (Q:Exit→Act→World→Prop) (l:List Nat) (lg:List Lg) (g:Gs) (f:Gs) (L:List (Lg×Ak)):Prop where
 ix:L.map (λ z=>z.1.i)=l
 runs:S5a (L.map Prod.snd) g f
 fits:∀ z∈L,Y3 z.1 z.2∧Vva X ops Q z.1.i z.2
 old:∀ y∈lg,∀ z∈L,Nat.testBit z.1.anc y.i=true∨Jna y z.1=true
 pair:L.Pairwise (λ y z=>Nat.testBit z.1.anc y.1.i=true∨Jna y.1 z.1=true)
 anc:∀ z∈L,∀ k,Nat.testBit z.1.anc k=true→Anc ops k z.1.i
 lt:∀ i∈l,∃ o,ops[i]? = some o∧∀ j∈aft o,j<i
def S7a.cons {l:List Nat} {lg:List Lg} {g g1 f:Gs} {L:List (Lg×Ak)} {y:Lg} {x:Ak} {i:Nat} (h:S7a X ops Q l (y::lg) g1 f L) (hi:y.i=i) (hn:x.N g) (he:x.e g=g1) (hf:Y3 y x) (ho:Vva X ops Q i x) (hok:Jpa lg y=true)
  (ha:∀ k,Nat.testBit y.anc k=true→Anc ops k i) (hl:∃ o,ops[i]? = some o∧∀ j∈aft o,j<i):S7a X ops Q (i::l) lg g f ((y,x)::L):=by
 refine⟨by simp[hi,h.ix],⟨hn,by rw[he];exact h.runs⟩,?_,?_,?_,?_,?_⟩
 ·intro z hz;rcases Vl.1 hz with rfl|hz
  ·exact⟨hf,by rw[hi];exact ho⟩
  ·exact h.fits z hz
 ·intro y' hy' z hz;rcases Vl.1 hz with rfl|hz
  ·unfold Jpa at hok;rw[Wg]at hok;have:=hok y' hy'
   simpa using this
  ·exact h.old y' (Vg _ hy') z hz
 ·exact Wd.2 ⟨λ z hz=>h.old y (by simp) z hz,h.pair⟩
 ·intro z hz k hk;rcases Vl.1 hz with rfl|hz
  ·rw[hi];exact ha k hk
  ·exact h.anc z hz k hk
 ·intro j hj;rcases Vl.1 hj with rfl|hj
  ·exact hl
  ·exact h.lt j hj
def Gta (hV:T4 X E) {R:Type}:∀ (l:List Nat) (lg:List Lg) (A:Ab) (K:Ab→Option R) (r:R),(∀ y∈lg,∀ k,Nat.testBit y.anc k=true→Anc ops k y.i)→Hx E ops.toList l lg A K=some r→
  ∃ (L:List (Lg×Ak)) (A':Ab),K A'=some r∧S7a X ops Q l lg (get A) (get A') L
 |[],lg,A,K,r,_,h=>⟨[],A,h,rfl,rfl,by simp,by simp,.nil,by simp,by simp⟩
 |i::l,lg,A,K,r,hlg,h=>by
  unfold Hx at h;rw[Hs]at h;split at h
  ·cases h
  ·rename_i o ho
   have hi:ops[i]? = some o:=by simpa using ho
   obtain⟨hb0,h⟩:=cs h;simp only[Va,Wg]at hb0;obtain⟨hd,hlt0⟩:=hb0
   have hlt:∃ o,ops[i]? = some o∧∀ j∈aft o,j<i:=⟨o,hi,λ j hj=>by
    have:=hlt0 j hj
    exact Vk this⟩
   have hanc:∀ k,Nat.testBit (Rta lg (aft o)) k=true→Anc ops k i:=Lta hlg hi (λ j hj=>hj)
   have next:∀ {y:Lg} {x:Ak} {A1:Ab},y.i=i→y.anc=Rta lg (aft o)→x.N (get A)→x.e (get A)=get A1→Y3 y x→Vva X ops Q i x→Jpa lg y=true→Hx E ops.toList l (y::lg) A1 K=some r→
     ∃ (L:List (Lg×Ak)) (A':Ab),K A'=some r∧S7a X ops Q (i::l) lg (get A) (get A') L:=by
    intro y x A1 e1 e2 hn he hf hop hok hev
    obtain⟨L,A',h1,h2⟩:=Gta hV l (y::lg) A1 K r (λ z hz k hk=>by
     rcases Vl.1 hz with rfl|hz
     ·rw[e1];exact hanc k (by rw[← e2];exact hk)
     ·exact hlg z hz k hk) hev
    exact⟨_,A',h1,h2.cons e1 hn he hf hop hok (by rw[e2];exact hanc) hlt⟩
   have cnd:∀ {b:Bool} {z:Option R},(bif b then z else none)=some r→b=true∧z=some r:=by
    intro b z hz
    cases b with
    |false=>simp at hz
    |true=>exact⟨rfl,hz⟩
   have exec:∀ (B:Ab) (gd:List Nat),get B=get A→(∀ S a,B4 X S a→(∀ p∈gd,S.g p=get A p)→Region.wanted o (yielded ops a.tmps)=true)→
     Aw E o B (λ U=>bif Jpa lg (Ux o i lg gd B U) then Hx E ops.toList l (Ux o i lg gd B U::lg) (ups B U) K else none)=some r→
     ∃ (L:List (Lg×Ak)) (A':Ab),K A'=some r∧S7a X ops Q (i::l) lg (get A) (get A') L:=by
    intro B gd hBA hw hs
    have generic:(Ux o i lg gd B [] ).ex=none→∃ (L:List (Lg×Ak)) (A':Ab),K A'=some r∧S7a X ops Q (i::l) lg (get A) (get A') L:=by
     intro hex;obtain⟨U,h1,h2⟩:=Pta (F:=rds B o) (λ p hp=>hp) hs;obtain⟨hok,hev⟩:=cnd h1;have hfit:Y3 (Ux o i lg gd B U) (Yba (Ux o i lg gd B U).F B U):=Lua (F:=gd++rds B o) rfl rfl hex;refine next (y:=Ux o i lg gd B U) (x:=Yba (Ux o i lg gd B U).F B U) (A1:=ups B U) rfl rfl (λ p _=>by rw[hBA]) ?_ hfit ?_ hok hev
     ·show Eca (get A) U=_;rw[Nr,hBA]
     ·refine Wwa hV hi hd (λ S a hS hN=>hw S a hS (λ p hp=>?_)) (λ A' hN=>⟨U,?_,rfl⟩)
      ·rw[← hBA];exact hN p (by show p∈gd++rds B o++_;simp[hp])
      ·exact h2 A' (λ p hp=>hN p (by show p∈gd++rds B o++_;simp[hp])) some
    cases hgd:gd with
    |cons p0 gd'=>subst hgd;exact generic (by simp[Ux])
    |nil=>
     subst hgd
     cases hexo:W2a o with
     |none=>exact generic (by simp[Ux,hexo])
     |some q=>
      obtain⟨t,j,d⟩:=q
      have:o.op = .extract (.tmp t) j∧o.dst=some d:=by
       unfold W2a at hexo;split at hexo
       ·rename_i e1 e2;cases hexo;exact⟨e1,e2⟩
       ·cases hexo
      obtain⟨hop,hod⟩:=this;obtain⟨vs,ag,lf,s,hg,hn,h1,h2⟩:=Pua hop hod hs;obtain⟨hok,hev⟩:=cnd h1
      have hex:∀ A' vs',(get A' t).2 = .tup vs'→Eca (get A') (Gsa t j d lf s vs')=(Eea t j d ag lf s).e (get A'):=by
       intro A' vs' hv;unfold Gsa Eea;simp only;rw[hv];rfl
      refine next (y:=Ux o i lg [] B (Gsa t j d lf s vs)) (x:=Eea t j d ag lf s) (A1:=ups B (Gsa t j d lf s vs)) rfl rfl ⟨vs,by rw[← hBA];exact hg,hn⟩ ?_ (Pva hop hod) ?_ hok hev
      ·rw[← hBA,Nr];exact(hex B vs hg).symm
      ·refine Wwa hV hi hd (λ S a hS _=>hw S a hS (by simp)) (λ A' hN=>?_);obtain⟨vs',g1,g2⟩:=hN;exact⟨_,h2 A' vs' g1 g2,hex A' vs' g1⟩
   have skip:∀ (B:Ab) (dj:Nat),get B=get A→(∀ S a,B4 X S a→S.g dj=get A dj→Region.wanted o (yielded ops a.tmps)=false)→
     (bif Jpa lg (P5 o i lg [dj]) then Hx E ops.toList l (P5 o i lg [dj]::lg) (P4 o B) K else none)=some r→
     ∃ (L:List (Lg×Ak)) (A':Ab),K A'=some r∧S7a X ops Q (i::l) lg (get A) (get A') L:=by
    intro B dj hBA hw hs;obtain⟨hok,hev⟩:=cnd hs
    have hsk:Eca (get A) (match o.dst with|some d=>[⟨d,false,.one .un⟩]|none=>[])=get (P4 o B):=by
     unfold P4
     cases o.dst with
     |none=>exact hBA.symm
     |some d=>rw[← hBA];exact(Nr [⟨d,false,.one .un⟩] B).symm
    refine next (y:=P5 o i lg [dj]) (x:=⟨λ g=>g dj=get A dj,λ g=>Eca g (match o.dst with|some d=>[⟨d,false,.one .un⟩]|none=>[])⟩) (A1:=P4 o B) rfl rfl rfl hsk ?_ (Uea hV hi hd (λ S a hS hN=>hw S a hS hN)) hok hev
    have hmap:(match o.dst with|some d=>[(⟨d,false,.one .un⟩:Up)]|none=>[]).map Up.l=o.dst.toList:=by cases o.dst<;>rfl
    refine⟨λ p hp=>Vn _ hp,λ g g' h hn=>by show g' dj=get A dj;rw[← h dj (by show dj∈[dj]++_;simp)];exact hn,λ g p hp=>Pj _ g p (by rw[hmap];exact hp),λ g g' p _ h=>Pk _ g g' p h,λ t j d h=>by cases h⟩
   split at h
   ·rename_i hgd;exact exec A [] rfl (λ S a _ _=>by unfold Region.wanted;rw[hgd]) h
   ·rename_i j want hgd;split at h
    ·cases h
    ·rename_i dj hdj;obtain⟨hb,h⟩:=cs h;split at h
     ·rename_i n b hgt;have hwant:∀ (S:Sit) (a:Act),B4 X S a→S.g dj=get A dj→Region.wanted o (yielded ops a.tmps)=(b==want):=λ S a hS hs=>(Gra hV.en hS hgd hdj hb).1 b (by rw[hs,hgt])
      cases b with
      |true=>
       rw[cond_true]at h
       cases want with
       |true=>
        rw[cond_true]at h;exact exec (lit A dj n true) [dj] (T5 hgt) (λ S a hS hs=>hwant S a hS (hs dj (by simp))) h
       |false=>
        rw[cond_false]at h;exact skip (lit A dj n true) dj (T5 hgt) (λ S a hS hs=>hwant S a hS hs) h
      |false=>
       rw[cond_false]at h
       cases want with
       |true=>
        rw[cond_true]at h;exact skip (lit A dj n false) dj (T5 hgt) (λ S a hS hs=>hwant S a hS hs) h
       |false=>
        rw[cond_false]at h;exact exec (lit A dj n false) [dj] (T5 hgt) (λ S a hS hs=>hwant S a hS (hs dj (by simp))) h
     ·rename_i n hgt;exact skip A dj rfl (λ S a hS hs=>(Gra hV.en hS hgd hdj hb).2 (by rw[hs,hgt])) h
     ·cases h
def Ufa (hV:T4 X E) (hm:X.P.follows .mixedOrders=true):Bja X E:=by
 intro R id ops Q S a A K r hK hg h hQ;refine wp_region_any hm ?_;obtain⟨L,A',hA',T⟩:=Gta (X:=X) (ops:=ops) (Q:=Q) hV _ [] A K r (by simp) h
 have hlen:L.length=ops.size:=by
  have:=congrArg length T.ix
  simpa using this
 have hmem:∀ z∈L,z.1.i<ops.size:=by
  intro z hz;have:z.1.i∈L.map (λ z=>z.1.i):=Yl hz;rw[T.ix]at this
  simpa using this
 have K2:=(hK.world (w' := { S.w with drawn:=S.w.drawn+1 }) (O':=S.O) (λ k _ _=>⟨rfl,rfl⟩) rfl rfl rfl (Vv _) hK.lt).1;refine S6a (X:=X) (f:=get A') ?_ (λ S' a' A2 K' g' e'=>hQ S' a' A' K' (by rw[g',e']) hA') ops.size (L.map λ z=>(z.1.i,z.2)) _ (Sr S { S.w with drawn:=S.w.drawn+1 } S.O) a A (by simp[hlen]) (by simp) ?_ ?_ ?_ ?_ ?_ ?_ K2 hg ?_
 ·intro i o hi j hj;have hil:i<ops.size:=(Zs.1 hi).1;obtain⟨o',h1,h2⟩:=T.lt i (by simpa using hil);rw[hi]at h1;cases h1;exact h2 j hj
 ·rw[Zr]
  have hp:(L.map (λ z=>z.1.i)).Pairwise (· < ·):=by rw[T.ix];exact List.pairwise_lt_range
  rw[Zr]at hp;exact hp
 ·intro i hi;constructor
  ·intro _
   have:i∈L.map (λ z=>z.1.i):=by rw[T.ix];simpa using hi
   obtain⟨z,hz,hzi⟩:=Yt.1 this;exact⟨(z.1.i,z.2),Yl hz,hzi⟩
  ·intro _;simp[Yg,hi]
 ·rw[Zr];refine List.Pairwise.imp_of_mem ?_ T.pair;intro y z hy hz h;rcases h with h|h
  ·exact .inl (T.anc z hz _ h)
  ·exact .inr ((T.fits y hy).1.ind (T.fits z hz).1 h)
 ·intro x hx;obtain⟨z,hz,rfl⟩:=Yt.1 hx;exact(T.fits z hz).2
 ·intro x hx;obtain⟨z,hz,rfl⟩:=Yt.1 hx;exact hmem z hz
 ·intro i o hi hl;have hil:i<ops.size:=(Zs.1 hi).1;simp[Yg,hil]at hl
 ·have:(L.map λ z=>(z.1.i,z.2)).map Prod.snd=L.map Prod.snd:=by simp
  rw[this];exact T.runs
end
end

section
attribute [local irreducible] C H
def Ty.fit (ti:TypeId→Option TI):(t:Ty)→t.den→Prop
 |.i k,n=>(Lit.int k n).wf=true
 |.b,_=>True
 |.s,x=>x.size≤140737488351232
 |.sl e r,xs=>(∀ te,ti e=some te→xs.length*te.by_≤140737488351232)∧∀ x∈xs,r.fit ti x
 |.ow e r,xs=>(∀ te,ti e=some te→xs.length*te.by_≤140737488351232)∧∀ x∈xs,r.fit ti x
 |.pr x y,p=>x.fit ti p.1∧y.fit ti p.2
def Wxa (ti:TypeId→Option TI) (T:TypeId) (ty:Ty):Bool:=match ti T with
 |some t=>decide (t.ty=ty)
 |none=>false
def Qn (ti:TypeId→Option TI):List Field→Nat→Ty→Bool
 |[],_,_=>false
 |[f],o,ty=>Nat.beq f.offset o&&Wxa ti f.type ty
 |f::g::fs,o,.pr x y=>Nat.beq f.offset o&&Wxa ti f.type x&&Qn ti (g::fs) (o+x.sz) y
 |_,_,_=>false
def Pl (P:Program) (ti:TypeId→Option TI) (T:TypeId):Bool:=match ti T,P.underlying T with
 |none,_=>true
 |some t,some (.struct fs)=>t.ag&&Qn ti fs.toList 0 t.ty
 |some ⟨.sl e r,false,_,_⟩,some (.slice e')=>Nat.beq e e'&&Wxa ti e r
 |some ⟨.i k,false,_,_⟩,some (.int k')=>decide (k=k')
 |some ⟨.b,false,_,_⟩,some .bool=>true
 |some ⟨.s,false,_,_⟩,some .string=>true
 |_,_=>false
section
variable {H':Type} {enc:TypeId×Value→H'} {P:Program} {w:World} {base:Nat} {spare:Nat→Bool} {held:Bool} {ti:TypeId→Option TI}
def N7 {T:TypeId} {ty:Ty} (h:Wxa ti T ty=true):∃ t,ti T=some t∧t.ty=ty:=by
 unfold Wxa at h;split at h
 ·rename_i t ht;exact⟨t,ht,of_decide_eq_true h⟩
 ·cases h
def Pm {T:TypeId} {t:TI} (h:TOk P T t):P.cellsOf T=t.ty.sz:=by
 unfold Program.cellsOf;rw[Nj h];rfl
def Lva {T:TypeId} {t:TI} (h:TOk P T t):P.bytesOf T=t.by_:=by
 obtain⟨i,h1,_,h2,_⟩:=h.info;unfold Program.bytesOf;rw[h1];exact h2
def Lwa {α:Type} {R:α→List Value→Prop} {Fit:α→Prop} {k o n:Nat}:∀ (len:Nat),(∀ i,i<len→∃ x c,R x c∧Fit x∧c.length=n∧Ei w k (o+i*n) c)→
  ∃ (xs:List α) (cs:List Value),xs.length=len∧Rows R xs cs∧(∀ x∈xs,Fit x)∧cs.length=len*n∧Ei w k o cs
 |0,_=>⟨[],[],rfl,rfl,by simp,by simp,by intro j u hj;simp at hj⟩
 |len+1,h=>by
  obtain⟨xs,cs,h1,h2,h3,h4,h5⟩:=Lwa len (λ i hi=>h i (by omega));obtain⟨x,c,g1,g2,g3,g4⟩:=h len (by omega);refine⟨xs++[x],cs++c,by simp[h1],Rows.append h2 ⟨c,[],by simp,g1,rfl⟩,?_,?_,?_⟩
  ·intro y hy;rcases Vm.1 hy with hy|hy
   ·exact h3 y hy
   ·simp at hy;subst hy;exact g2
  ·rw[Vi,h4,g3,Yv,Zb]
  ·intro j u hj
   by_cases hlt:j<cs.length
   ·rw[Yh hlt]at hj;exact h5 j u hj
   ·rw[Yb (by omega)]at hj;have:=g4 (j-cs.length) u hj;rw[h4]at this hlt;rwa [show o+len*n+(j-len*n)=o+j by omega]at this
def Pwa {a:Addr} {n:Nat} {cs:List Value} (h:w.cells? base a n=some cs) (hn:0<n):a.spot=none∧a.block<w.heap.size∧cs.length=n∧Ei w a.block a.off cs:=by
 unfold World.cells? at h;split at h
 ·have hl:=mapM_some_length h;have hg:=λ i hi=>mapM_some_get h i i hi;simp only[List.length_range]at hl;have h0:w.cell? (a.add 0)=cs[0]? := hg 0 (by simp[hn]);have hc0:∃ v,cs[0]? = some v:=⟨_,Ve (by omega)⟩;obtain⟨v,hv⟩:=hc0;rw[hv]at h0
  have hspot:a.spot=none∧a.block<w.heap.size:=by
   unfold World.cell? at h0;split at h0
   ·rename_i c e f hb;refine⟨?_,(Zs.1 hb).1⟩
    cases hs:a.spot with
    |none=>rfl
    |some s=>simp[Addr.add,hs]at h0
   ·cases h0
  refine⟨hspot.1,hspot.2,hl,λ j u hj=>?_⟩
  have hjl:j<n:=by have:=(Yi.1 hj).1;omega
  have:=hg j (by simp[hjl]);rw[hj]at this;obtain⟨b,off,sp⟩:=a;have hsp:sp=none:=hspot.1;subst hsp;rw[Js]at this;exact this
 ·cases h
def Te {T:TypeId}:∀ {ds:List (DataW H')} {m:Nat},m∈DataW.weightsAll P T ds↔∃ d∈ds,m∈d.weights P T
 |[],m=>by simp[DataW.weightsAll]
 |d::ds,m=>by
  simp only[DataW.weightsAll,Vm,Vl,Te (ds:=ds)];constructor
  ·rintro (h|⟨d',h1,h2⟩)
   ·exact⟨d,.inl rfl,h⟩
   ·exact⟨d',.inr h1,h2⟩
  ·rintro⟨d',rfl|h1,h2⟩
   ·exact .inl h2
   ·exact .inr ⟨d',h1,h2⟩
def Wya (enc:TypeId×Value→H') (P:Program) (w:World) (base:Nat) (spare:Nat→Bool) (held:Bool) (ti:TypeId→Option TI) (n:Nat):Prop:=
 ∀ T t cs y,ti T=some t→DataW.trod enc P w base spare held n T cs=some y→(∀ m∈y.1.weights P T,m≤140737488351232)→∃ X:t.ty.den,t.ty.rep P (λ k=>k<w.heap.size) w X cs∧t.ty.fit ti X
def Tf (htok:∀ T t,ti T=some t→TOk P T t) {n:Nat} (ih:Wya enc P w base spare held ti n) {cs:List Value}:∀ (fs:List Field) (o:Nat) (ty:Ty) (xs:List (DataW H'×List MemPlace)),Qn ti fs o ty=true→xs.length=fs.length→
  (∀ (i:Nat) (f:Field),fs[i]? = some f→DataW.trod enc P w base spare held n f.type ((cs.drop f.offset).take (P.cellsOf f.type))=xs[i]?)→(∀ m∈DataW.weightsEach P (fs.map (·.type)) (xs.map (·.1)),m≤140737488351232)→o+ty.sz≤cs.length→
  ∃ X:ty.den,ty.rep P (λ k=>k<w.heap.size) w X ((cs.drop o).take ty.sz)∧ty.fit ti X
 |[],o,ty,xs,hp,_,_,_,_=>by cases ty<;>simp[Qn]at hp
 |[f],o,ty,xs,hp,hl,ht,hw,hs=>by
  simp only[Qn,Va]at hp;obtain⟨t,h1,h2⟩:=N7 hp.2;have ho:f.offset=o:=Vd hp.1;subst h2;have e:=ht 0 f rfl
  cases xs with
  |nil=>simp at hl
  |cons y xs=>
   have e':DataW.trod enc P w base spare held n f.type ((cs.drop f.offset).take (P.cellsOf f.type))=some y:=by simpa using e
   rw[Pm (htok _ _ h1),ho]at e';exact ih f.type t _ y h1 e' (λ m hm=>hw m (by simp[DataW.weightsEach,hm]))
 |f::g::fs,o,ty,xs,hp,hl,ht,hw,hs=>by
  cases ty<;>first|(simp[Qn]at hp;done)|skip
  rename_i x y;simp only[Qn,Va]at hp;obtain⟨⟨h0,h1a⟩,hp⟩:=hp;obtain⟨t,h1,h2⟩:=N7 h1a;have ho:f.offset=o:=Vd h0;subst h2;have e:=ht 0 f rfl
  cases xs with
  |nil=>simp at hl
  |cons z xs=>
   have e':DataW.trod enc P w base spare held n f.type ((cs.drop f.offset).take (P.cellsOf f.type))=some z:=by simpa using e
   rw[Pm (htok _ _ h1),ho]at e';have hsz:o+(t.ty.sz+y.sz)≤cs.length:=hs;obtain⟨X,r1,f1⟩:=ih f.type t _ z h1 e' (λ m hm=>hw m (by simp[DataW.weightsEach,hm]))
   obtain⟨Y,r2,f2⟩:=Tf htok ih (g::fs) (o+t.ty.sz) y xs hp (by simpa using hl) (λ i f' hf'=>by have:=ht (i+1) f' hf';simpa using this) (λ m hm=>hw m (by
    simp only[Ya,DataW.weightsEach,Vm]
    exact .inr hm)) (by omega)
   refine⟨(X,Y),⟨_,_,?_,r1,r2⟩,f1,f2⟩;show (cs.drop o).take (t.ty.sz+y.sz)=_;rw[List.take_add,Yo]
def Y4 (htok:∀ T t,ti T=some t→TOk P T t) (hcl:∀ T,Pl P ti T=true):∀ n,Wya enc P w base spare held ti n
 |0=>by
  intro T t cs y _ h;simp[DataW.trod]at h
 |n+1=>by
  intro T t cs y hT h hw;have hc:=hcl T;have hk:=htok T t hT;unfold Pl at hc;rw[hT]at hc;split at hc
  ·rename_i e;cases e
  ·-- a struct
   rename_i t0 fs e1 hu;cases e1;simp only[Va]at hc;obtain⟨xs,n',e1,rfl,hl,hxl,hx⟩:=DataW.trod_struct hu h
   have:n'=n:=by omega
   subst this;rw[Pm hk]at hl;have hw':∀ m∈DataW.weightsEach P (fs.toList.map (·.type)) (xs.map (·.1)),m≤140737488351232:=λ m hm=>hw m (by simp only[DataW.weights,hu];exact hm);obtain⟨X,r,f⟩:=Tf htok (Y4 htok hcl n') fs.toList 0 t.ty xs hc.2 (by simpa using hxl) (λ i f hf=>hx i f (by simpa using hf)) hw' (by omega);rw[Yx,← hl,Zv]at r;exact⟨X,r,f⟩
  ·-- a slice
   rename_i e r by_ fo e' e1 hu;cases e1;simp only[Va]at hc;obtain⟨te,hte,hty⟩:=N7 hc.2;have he:e=e':=Vd hc.1;subst he;subst hty;have hke:=htok e te hte;have hsz:Ue P e te.ty.sz:=Nj hke;rcases DataW.trod_slice hu h with⟨rfl,rfl⟩|⟨a,len,cap,elems,rest,n',e1,rfl,rfl,hb,hl,hm,hlen,hel,hsp,hns⟩
   ·exact⟨[],⟨_,rfl,hsz,none,0,[],rfl,Vv _,rfl,λ h=>(h rfl).elim⟩,by simp,by simp⟩
   ·have:n'=n:=by omega
    subst this
    have hlw:(elems.map (·.1)).length+(rest.map (·.1)).length=elems.length+rest.length:=by simp
    have hw0:(elems.length+rest.length)*P.bytesOf e≤140737488351232:=hw _ (by simp only[DataW.weights,hu];simp);rw[Lva hke]at hw0;rw[Pm hke]at hel;have hpos:=Mm te.ty
    have each:∀ i,i<len→∃ x c,te.ty.rep P (λ k=>k<w.heap.size) w x c∧te.ty.fit ti x∧c.length=te.ty.sz∧((i=0→a.spot=none)∧a.block<w.heap.size)∧Ei w a.block (a.off+i*te.ty.sz) c:=by
     intro i hi;have e1:=hel i hi;rw[Ve (by omega)]at e1;simp only[Cfb]at e1;obtain⟨c,hc1,hc2⟩:=e1;obtain⟨g1,g2,g3,g4⟩:=Pwa hc1 hpos
     obtain⟨X,r1,f1⟩:=Y4 htok hcl n' e te c _ hte hc2 (λ m hm=>hw m (by
      simp only[DataW.weights,hu,Vl,Vm]
      exact .inr (.inl (Te.2 ⟨_,Yl (Blb (l:=elems) (n:=i) (by omega)),hm⟩))))
     have hblk:(a.add (i*te.ty.sz)).block=a.block∧(a.add (i*te.ty.sz)).off=a.off+i*te.ty.sz:=by
      unfold Addr.add;split
      ·rename_i h0;exact⟨rfl,by omega⟩
      ·exact⟨rfl,rfl⟩
     rw[hblk.1,hblk.2]at g4;rw[hblk.1]at g2;refine⟨X,c,r1,f1,g3,⟨λ h0=>?_,g2⟩,g4⟩;subst h0;rw[Ahb]at g1;exact g1
    obtain⟨xs,cs,h1,h2,h3,h4,h5⟩:=Lwa (w:=w) (k:=a.block) (o:=a.off) (n:=te.ty.sz) (R:=λ x c=>te.ty.rep P (λ k=>k<w.heap.size) w x c) (Fit:=te.ty.fit ti) len (λ i hi=>by
     obtain⟨x,c,q1,q2,q3,q4,q5⟩:=each i hi
     exact⟨x,c,q1,q2,q3,q5⟩)
    refine⟨xs,⟨_,rfl,hsz,some a,cap,cs,by rw[h1],by omega,h2,λ hne=>?_⟩,λ te' ht'=>?_,h3⟩
    ·have hpos:0<len:=by rw[← h1];cases xs with|nil=>exact(hne rfl).elim|cons=>simp
     obtain⟨x,c,q1,q2,q3,q4,q5⟩:=each 0 hpos;refine⟨a.block,a.off,?_,q4.2,h5⟩;obtain⟨b,off,sp⟩:=a;have hsp:sp=none:=q4.1 rfl;rw[hsp]
    ·rw[hte]at ht';cases ht';rw[h1,← hlen];exact Zt (Wj _ (Nat.le_add_right _ _)) hw0
  ·rename_i k by_ fo k' e1 hu;cases e1;have:k=k':=of_decide_eq_true hc;subst this;obtain⟨m,rfl,rfl,hwf⟩:=DataW.trod_int hu h;exact⟨m,rfl,hwf⟩
  ·rename_i by_ fo e1 hu;cases e1;obtain⟨b,rfl,rfl⟩:=DataW.trod_bool hu h;exact⟨b,rfl,trivial⟩
  ·rename_i by_ fo e1 hu;cases e1;obtain⟨s,rfl,rfl,hs⟩:=DataW.trod_string hu h;refine⟨s,rfl,?_⟩;have:=hw s.data.toList.length (by rw[show (DataW.lit (.string s.data.toList):DataW H').weights P T=[s.data.toList.length] from by simp only[DataW.weights]];exact Vq.2 rfl);have e:s.data.toList.length=s.size:=Yw;rw[e]at this;exact this
  ·cases hc
end
end

end Go.Proofs.YtcpligincipmhaaGreat.Vf
