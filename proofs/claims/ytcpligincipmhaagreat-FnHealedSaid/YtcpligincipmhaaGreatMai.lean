import Derived.Test.YtcpligincipmhaaGreatMah
import Derived.ChangeArms
import Derived.SizedLaws
import Derived.DataReads
set_option linter.all false
namespace Go.Proofs.YtcpligincipmhaaGreat.Vf
open Go
open List (length getD)
open Int (toNat)
open Go.IntKind (wrap)
open BitVec (ofInt)
def Wa:=@List.pairwise_cons
def Yc:=@List.all_eq_true
def Zf:=@List.take_length
def Zg:=@List.pairwise_append
def Zi:=@List.pairwise_map
def Dwb:=@List.getElem?_set_ne
def Ejb:=@List.eq_nil_iff_forall_not_mem
def Eob:=@List.getElem_mem
def Fdb:=@Option.bind_eq_some_iff

section
attribute [local irreducible] C H
def Loc {R:Type} (E:En) (o:Oper) (A:Ab) (F:List Nat) (Kc:List Up→Option R) (r:R):Prop:=
 ∃ U,Kc U=some r∧∀ A',Ag A A' F→∀ {R':Type} (K':List Up→Option R'),B6 E o A' K'=K' U
section
variable {E:En} {A A':Ab} {F:List Nat} {o:Oper} {R:Type} {Kc:List Up→Option R} {r:R}
def Jza {op:BinOp} {k:IntKind} {x y:Int} {Kv:Value→Option R} (h:S8 op k x y Kv=some r):∃ v,Kv v=some r∧∀ {R':Type} (K':Value→Option R'),S8 op k x y K'=K' v:=by
 cases op
 case quo=>
  simp only[S8]at h ⊢
  cases hy:decide (y=0) with
  |true=>rw[hy]at h;simp at h
  |false=>rw[hy]at h;exact⟨_,h,λ K'=>rfl⟩
 case rem=>
  simp only[S8]at h ⊢
  cases hy:decide (y=0) with
  |true=>rw[hy]at h;simp at h
  |false=>rw[hy]at h;exact⟨_,h,λ K'=>rfl⟩
 all_goals first|exact⟨_,h,λ K'=>rfl⟩|(simp[S8]at h;done)
def K0a {op:BinOp} {x y:ByteArray} {Kv:Value→Option R} (h:X3 op x y Kv=some r):∃ v,Kv v=some r∧∀ {R':Type} (K':Value→Option R'),X3 op x y K'=K' v:=by
 cases op
 case add=>
  simp only[X3]at h ⊢
  cases hy:Nat.ble (x.size+y.size) 9223372036854775807 with
  |false=>rw[hy]at h;simp at h
  |true=>rw[hy]at h;exact⟨_,h,λ K'=>rfl⟩
 all_goals first|exact⟨_,h,λ K'=>rfl⟩|(simp[X3]at h;done)
def Wla {op:BinOp} {t:Option TI} {e:Bool} {x y:Sv} {Kv:Value→Option R} (h:bop op t e x y Kv=some r):∃ v,Kv v=some r∧∀ {R':Type} (K':Value→Option R'),bop op t e x y K'=K' v:=by
 unfold bop at h;split at h
 ·rename_i k a k' b;split at h
  ·cases hb:decide (b<0) with
   |true=>rw[hb]at h;simp at h
   |false=>rw[hb]at h;exact⟨_,h,λ K'=>by unfold bop;simp only[hb,cond_false]⟩
  ·cases hb:decide (b<0) with
   |true=>rw[hb]at h;simp at h
   |false=>rw[hb]at h;exact⟨_,h,λ K'=>by unfold bop;simp only[hb,cond_false]⟩
  ·rename_i n1 n2;obtain⟨hb,h⟩:=cs h;obtain⟨v,h1,h2⟩:=Jza h;refine⟨v,h1,λ K'=>?_⟩;unfold bop
   cases op<;>first|exact(n1 rfl).elim|exact(n2 rfl).elim|(simp only[hb,cond_true];exact h2 K')
 ·obtain⟨v,h1,h2⟩:=K0a h;exact⟨v,h1,λ K'=>h2 K'⟩
 ·rename_i a b;split at h
  ·exact⟨_,h,λ K'=>rfl⟩
  ·exact⟨_,h,λ K'=>rfl⟩
  ·cases h
 ·rename_i l l';obtain⟨hb,h⟩:=cs h;split at h
  ·split at h
   ·rename_i b he;exact⟨_,h,λ K'=>by unfold bop;simp only[hb,cond_true,he]⟩
   ·cases h
  ·split at h
   ·rename_i b he;exact⟨_,h,λ K'=>by unfold bop;simp only[hb,cond_true,he]⟩
   ·cases h
  ·cases h
 ·cases h
def Wma {op:UnOp} {x:Sv} {Kv:Value→Option R} (h:uop op x Kv=some r):∃ v,Kv v=some r∧∀ {R':Type} (K':Value→Option R'),uop op x K'=K' v:=by
 unfold uop at h;split at h
 ·exact⟨_,h,λ K'=>rfl⟩
 ·exact⟨_,h,λ K'=>rfl⟩
 ·exact⟨_,h,λ K'=>rfl⟩
 ·cases h
def Rpa {t t':Option TI} {x:Sv} {Kv:Sv→Option R} (h:conv t t' x Kv=some r):∃ v,Kv v=some r∧∀ {R':Type} (K':Sv→Option R'),conv t t' x K'=K' v:=by
 unfold conv at h;split at h
 ·exact⟨_,h,λ K'=>rfl⟩
 ·exact⟨_,h,λ K'=>rfl⟩
 ·rename_i e _ _ _ _ e' xs
  cases hb:Nat.beq e e' with
  |false=>rw[hb]at h;simp at h
  |true=>rw[hb]at h;exact⟨_,h,λ K'=>by unfold conv;simp only[hb,cond_true]⟩
 ·rename_i e _ _ _ _ e' xs
  cases hb:Nat.beq e e' with
  |false=>rw[hb]at h;simp at h
  |true=>rw[hb]at h;exact⟨_,h,λ K'=>by unfold conv;simp only[hb,cond_true]⟩
 ·rename_i s
  cases hb:Nat.ble s.size 140737488355328 with
  |false=>rw[hb]at h;simp at h
  |true=>rw[hb]at h;exact⟨_,h,λ K'=>by unfold conv;simp only[hb,cond_true]⟩
 ·cases h
def Xj {mx:Bool}:∀ {l:List Sv} {k:IntKind} {x:Int} {Kv:Value→Option R},P4 mx l k x Kv=some r→∃ v,Kv v=some r∧∀ {R':Type} (K':Value→Option R'),P4 mx l k x K'=K' v:=by
 intro l
 induction l with
 |nil=>intro k x Kv h;exact⟨_,h,λ K'=>rfl⟩
 |cons s l ih=>
  intro k x Kv h;unfold P4 at h;split at h
  ·rename_i heq;cases heq
  ·rename_i k0 x0 K0 l9 k9 x9 K9 k' y l0 heq;cases heq;obtain⟨hb,h⟩:=cs h;obtain⟨v,h1,h2⟩:=ih h;exact⟨v,h1,λ K'=>by conv => { lhs;unfold P4 };simp only[hb,cond_true];exact h2 K'⟩
  ·cases h
def Lb {lo hi:Option Int} {n:Nat} {Kv:Unit→Option R} (h:Eha lo hi n Kv=some r):Kv ()=some r∧∀ {R':Type} (K':Unit→Option R'),Eha lo hi n K'=K' ():=by
 unfold Eha at h;split at h
 ·exact⟨h,λ K'=>rfl⟩
 ·rename_i l;obtain⟨h1,h⟩:=cs h
  cases h2:decide (l≤(n:Int)) with
  |false=>rw[h2]at h;simp at h
  |true=>rw[h2,cond_true]at h;exact⟨h,λ K'=>by unfold Eha;simp only[h1,h2,cond_true]⟩
 ·rename_i l;obtain⟨h1,h⟩:=cs h
  cases h2:decide (l≤(n:Int)) with
  |false=>rw[h2]at h;simp at h
  |true=>rw[h2,cond_true]at h;exact⟨h,λ K'=>by unfold Eha;simp only[h1,h2,cond_true]⟩
 ·rename_i l u;obtain⟨h1,h⟩:=cs h;obtain⟨h2,h⟩:=cs h
  cases h3:decide (u≤(n:Int)) with
  |false=>rw[h3]at h;simp at h
  |true=>rw[h3,cond_true]at h;exact⟨h,λ K'=>by unfold Eha;simp only[h1,h2,h3,cond_true]⟩
def N1a {op:BinOp} {T T':TypeId} {x y:Operand} {d:Nat} (ho:o.op = .binOp op T x y T') (hod:o.dst=some d) (hx:RX A F x) (hy:RX A F y) (h:B6 E o A Kc=some r):Loc E o A F Kc r:=by
 unfold B6 at h;rw[ho,hod]at h;simp only at h;split at h
 ·rename_i s s' hs hs';obtain⟨v,h1,h2⟩:=Wla h;refine⟨_,h1,λ A' hA R' K'=>?_⟩;unfold B6;rw[ho,hod];simp only[Bc hA hx,Bc hA hy,hs,hs'];exact h2 _
 ·cases h
def Rqa {op:UnOp} {T:TypeId} {x:Operand} {d:Nat} (ho:o.op = .unOp op T x) (hod:o.dst=some d) (hx:RX A F x) (h:B6 E o A Kc=some r):Loc E o A F Kc r:=by
 unfold B6 at h;rw[ho,hod]at h;simp only at h;split at h
 ·rename_i s hs;obtain⟨v,h1,h2⟩:=Wma h;refine⟨_,h1,λ A' hA R' K'=>?_⟩;unfold B6;rw[ho,hod];simp only[Bc hA hx,hs];exact h2 _
 ·cases h
def Cqa {T T':TypeId} {x:Operand} {d:Nat} (hA:Ag A A' F) (hx:RX A F x):Sa E A' T T' x d=Sa E A T T' x d:=by
 unfold Sa
 cases x with
 |tmp t=>simp only[Bc hA hx]
 |const v=>rfl
 |func f=>rfl
 |global g=>rfl
def Fia {T T':TypeId} {x:Operand} {d:Nat} (ho:o.op = .convert T T' x) (hod:o.dst=some d) (hx:RX A F x) (h:B6 E o A Kc=some r):Loc E o A F Kc r:=by
 unfold B6 at h;rw[ho,hod]at h;simp only at h
 cases hi:Sa E A T T' x d with
 |some U=>
  rw[hi]at h;refine⟨U,h,λ A' hA R' K'=>?_⟩;unfold B6;rw[ho,hod];simp only[Cqa hA hx,hi]
 |none=>
  rw[hi]at h;simp only at h;split at h
  ·rename_i y hs;obtain⟨v,h1,h2⟩:=Rpa h;refine⟨_,h1,λ A' hA R' K'=>?_⟩;unfold B6;rw[ho,hod];simp only[Cqa hA hx,hi,Bc hA hx,hs,Mza hA (H8 hx hs)];exact h2 _
  ·cases h
def Rra {x:Operand} {d:Nat} (ho:o.op = .move x) (hod:o.dst=some d) (hx:∀ t,x = .tmp t→t∈F) (h:B6 E o A Kc=some r):Loc E o A F Kc r:=by
 have hag:∀ A',Ag A A' F→∀ T,opT E T A' x=opT E T A x:=by
  intro A' hA T
  cases x with
  |tmp t=>show (bif Nat.blt t E.nt then some (get A' t).2 else none)=(bif Nat.blt t E.nt then some (get A t).2 else none);rw[hA t (hx t rfl)]
  |const v=>exact Bc hA (x := .const v) trivial
  |func f=>rfl
  |global g=>rfl
 unfold B6 at h;rw[ho,hod]at h;simp only at h;split at h
 ·rename_i s hs;split at h
  ·rename_i t e r' xs
   cases hn:(E.nm t&&!(E.mv d)) with
   |true=>
    rw[hn,cond_true]at h;refine⟨_,h,λ A' hA R' K'=>?_⟩;unfold B6;rw[ho,hod];simp only[hag A' hA,hs,hn,cond_true,hA t (hx t rfl)]
   |false=>
    rw[hn,cond_false]at h;refine⟨_,h,λ A' hA R' K'=>?_⟩;unfold B6;rw[ho,hod];simp only[hag A' hA,hs,hn,cond_false]
  ·rename_i hne;refine⟨_,h,λ A' hA R' K'=>?_⟩;unfold B6;rw[ho,hod];simp only[hag A' hA,hs]
 ·cases h
def K1a {x:Operand} {d:Nat} (ho:o.op = .assign x) (hod:o.dst=some d) (hx:RX A F x) (h:B6 E o A Kc=some r):Loc E o A F Kc r:=by
 unfold B6 at h;rw[ho,hod]at h;simp only at h;split at h
 ·rename_i p v hs;have hp:p∈F:=H8 hx hs;split at h
  ·rename_i n e r' xs hg;obtain⟨hn,h⟩:=cs h
   cases hr:E.res d with
   |true=>
    rw[hr,cond_true]at h;refine⟨_,h,λ A' hA R' K'=>?_⟩;unfold B6;rw[ho,hod];simp only[Bc hA hx,hs,hA p hp,hg,hn,hr,cond_true]
   |false=>
    rw[hr,cond_false]at h;refine⟨_,h,λ A' hA R' K'=>?_⟩;unfold B6;rw[ho,hod];simp only[Bc hA hx,hs,hA p hp,hg,hn,hr,cond_true,cond_false]
  ·rename_i n e r' xs hg;obtain⟨hn,h⟩:=cs h;refine⟨_,h,λ A' hA R' K'=>?_⟩;unfold B6;rw[ho,hod];simp only[Bc hA hx,hs,hA p hp,hg,hn,cond_true]
  ·cases h
 ·rename_i s hne hs;refine⟨_,h,λ A' hA R' K'=>?_⟩;unfold B6;rw[ho,hod];simp only[Bc hA hx,hs]
 ·cases h
def Rsa {c x y:Operand} {d:Nat} (ho:o.op = .pick c x y) (hod:o.dst=some d) (hc:RX A F c) (hx:RX A F x) (hy:RX A F y) (h:B6 E o A Kc=some r):Loc E o A F Kc r:=by
 unfold B6 at h;rw[ho,hod]at h;simp only at h;split at h
 ·rename_i b hs
  cases b with
  |true=>
   rw[cond_true]at h;split at h
   ·rename_i u hu;refine⟨_,h,λ A' hA R' K'=>?_⟩;unfold B6;rw[ho,hod];simp only[Bc hA hc,Bc hA hx,hs,hu,cond_true]
   ·cases h
  |false=>
   rw[cond_false]at h;split at h
   ·rename_i u hu;refine⟨_,h,λ A' hA R' K'=>?_⟩;unfold B6;rw[ho,hod];simp only[Bc hA hc,Bc hA hy,hs,hu,cond_false]
   ·cases h
 ·cases h
def RP (A:Ab) (F:List Nat):Operand→Prop
 |.tmp t=>t∈F∧∀ y∈parts (get A t).2,(∀ b v n,y = .bp b v n→H b∈F)∧(∀ p v i n,y = .ep p v i n→p∈F)∧(∀ p v pi e r,∀ xs:List (Ty.den r),∀ i n,y = .dp p v pi e r xs i n→p∈F)
 |_=>True
def Hqa:∀ {l:List Lf},(∀ p∈Yra l,p∈F)→∀ y∈l,(∀ b v n,y = .bp b v n→H b∈F)∧(∀ p v i n,y = .ep p v i n→p∈F)∧(∀ p v pi e r,∀ xs:List (Ty.den r),∀ i n,y = .dp p v pi e r xs i n→p∈F)
 |[],_,y,hy=>by simp at hy
 |z::l,h,y,hy=>by
  unfold Yra at h;rcases Vk.1 hy with rfl|hy
  ·refine⟨λ b v n e=>h _ (Vy _ ?_),λ p v i n e=>h _ (Vy _ ?_),λ p v pi e0 r xs i n e=>h _ (Vy _ ?_)⟩<;>(subst e;simp[rdH])
  ·exact Hqa (λ p hp=>h p (Vn _ hp)) y hy
def U9a {x:Operand} (h:∀ p∈rdP A x,p∈F):RP A F x:=by
 cases x with
 |tmp t=>
  have h:∀ p∈t::Yra (parts (get A t).2),p∈F:=h;exact⟨h t (by simp),Hqa λ p hp=>h p (Vd _ hp)⟩
 |_=>trivial
def RP.opT {x:Operand} {T:TypeId} (hA:Ag A A' F) (hx:RP A F x):Vf.opT E T A' x=Vf.opT E T A x:=by
 cases x with
 |tmp t=>show (bif Nat.blt t E.nt then some (get A' t).2 else none)=(bif Nat.blt t E.nt then some (get A t).2 else none);rw[hA t hx.1]
 |const v=>exact Bc hA (x := .const v) trivial
 |func f=>rfl
 |global g=>rfl
def RP.live {x:Operand} {T:TypeId} {y:Lf} (hA:Ag A A' F) (hx:RP A F x) (h:Vf.opT E T A x=some (.one y)):W8 A' y=W8 A y:=by
 cases x with
 |tmp t=>
  have h:(bif Nat.blt t E.nt then some (get A t).2 else none)=some (.one y):=h;cases hb:Nat.blt t E.nt
  ·rw[hb]at h;simp at h
  rw[hb]at h;simp only[cond_true,Vc]at h;obtain⟨h1,h2,h3⟩:=hx.2 y (by rw[h];simp[parts])
  cases y with
  |bp b v n=>show Nat.beq (get A' (H b)).1 v=Nat.beq (get A (H b)).1 v;rw[hA _ (h1 b v n rfl)]
  |ep p v i n=>simp only[W8];rw[hA _ (h2 p v i n rfl)]
  |dp p v pi e r xs i n=>show Nat.beq (get A' p).1 v=Nat.beq (get A p).1 v;rw[hA _ (h3 p v pi e r xs i n rfl)]
  |_=>rfl
 |const v=>exact Ada hA (H8 (x := .const v) (F:=F) trivial h)
 |func f=>exact Ada hA (H8 (x := .func f) (F:=F) trivial h)
 |global g=>exact Ada hA (H8 (x := .global g) (F:=F) trivial h)
def Cra {x:Operand} {d:Nat} (ho:o.op = .nilCheck x) (hod:o.dst=some d) (hx:RP A F x) (h:B6 E o A Kc=some r):Loc E o A F Kc r:=by
 unfold B6 at h;rw[ho,hod]at h;simp only at h;split at h
 ·rename_i y hs;obtain⟨hl,h⟩:=cs h;refine⟨_,h,λ A' hA R' K'=>?_⟩;unfold B6;rw[ho,hod];simp only[hx.opT hA,hs,hx.live hA hs,hl,cond_true]
 ·cases h
def Aea {T:TypeId} {x:Operand} {j d:Nat} (ho:o.op = .fieldAddr T x j) (hod:o.dst=some d) (hx:RP A F x) (h:B6 E o A Kc=some r):Loc E o A F Kc r:=by
 unfold B6 at h;rw[ho,hod]at h;simp only at h;split at h
 ·rename_i ti y hT hs;split at h
  ·rename_i f hf;obtain⟨hl,h⟩:=cs h;refine⟨_,h,λ A' hA R' K'=>?_⟩;unfold B6;rw[ho,hod];simp only[hT,hx.opT hA,hs,hf,hx.live hA hs,hl,cond_true]
  ·cases h
 ·cases h
def Fja {t j d:Nat} (ho:o.op = .extract (.tmp t) j) (hod:o.dst=some d) (ht:t∈F) (h:B6 E o A Kc=some r):Loc E o A F Kc r:=by
 unfold B6 at h;rw[ho,hod]at h;simp only at h;cases hb:Nat.blt t E.nt
 ·rw[hb]at h;simp at h
 rw[hb,cond_true]at h;split at h
 ·rename_i vs hg;split at h
  ·rename_i ag l hn;split at h
   ·rename_i s hs
    cases hw:Fk l with
    |true=>
     rw[hw,cond_true]at h;refine⟨_,h,λ A' hA R' K'=>?_⟩;unfold B6;rw[ho,hod];simp only[hb,cond_true,hA t ht,hg,hn,hs,hw]
    |false=>
     rw[hw,cond_false]at h;refine⟨_,h,λ A' hA R' K'=>?_⟩;unfold B6;rw[ho,hod];simp only[hb,cond_true,hA t ht,hg,hn,hs,hw,cond_false]
   ·cases h
  ·cases h
 ·cases h
def N2a {T:TypeId} {t j d:Nat} (ho:o.op = .field T (.tmp t) j) (hod:o.dst=some d) (ht:t∈F) (h:B6 E o A Kc=some r):Loc E o A F Kc r:=by
 unfold B6 at h;rw[ho,hod]at h;simp only at h;split at h
 ·rename_i ti l hT hg;split at h
  ·rename_i off z ag hn;split at h
   ·rename_i s hs;obtain⟨hb,h⟩:=cs h
    cases hw:Fk ((l.drop off).take z) with
    |true=>
     rw[hw,cond_true]at h;refine⟨_,h,λ A' hA R' K'=>?_⟩;unfold B6;rw[ho,hod];simp only[hT,hA t ht,hg,hn,hs,hb,hw,cond_true]
    |false=>
     rw[hw,cond_false]at h;refine⟨_,h,λ A' hA R' K'=>?_⟩;unfold B6;rw[ho,hod];simp only[hT,hA t ht,hg,hn,hs,hb,hw,cond_true,cond_false]
   ·cases h
  ·cases h
 ·cases h
def N3a {T:TypeId} {d:Nat} (ho:o.op = .alloc T) (hod:o.dst=some d) (hH:H d∈F) (h:B6 E o A Kc=some r):Loc E o A F Kc r:=by
 unfold B6 at h;rw[ho,hod]at h;simp only at h;split at h
 ·rename_i ti hT;obtain⟨hb,h⟩:=cs h;refine⟨_,h,λ A' hA R' K'=>?_⟩;unfold B6;rw[ho,hod];simp only[hT,hb,cond_true,hA _ hH]
 ·cases h
def RL.als {s:Sv} (h:∀ y∈parts s,RL A F y):∀ y∈parts s,AL F y:=λ y hy=>(h y hy).al
def Sc (hA:Ag A A' F):∀ {l:List Lf},(∀ y∈l,AL F y)→Eu A' l=Eu A l
 |[],_=>rfl
 |y::l,h=>by
  have ih:=Sc hA (l:=l) (λ z hz=>h z (Vd _ hz))
  cases y with
  |al p v=>simp only[Eu,ih,Fz hA (h (.al p v) (by simp))]
  |_=>simp only[Eu,ih]
def Wna {T:TypeId} {x:Operand} {d:Nat} (ho:o.op = .box T x) (hod:o.dst=some d) (hH:H d∈F) (hx:RX A F x) (h:B6 E o A Kc=some r):Loc E o A F Kc r:=by
 unfold B6 at h;rw[ho,hod]at h;simp only at h;split at h
 ·rename_i ti s hT hs;have hal:=RL.als (Nt hx hs)
  cases hmv:mvO E x with
  |true=>
   rw[hmv,cond_true]at h;obtain⟨hb,h⟩:=cs h;refine⟨_,h,λ A' hA R' K'=>?_⟩;unfold B6;rw[ho,hod];simp only[hT,Bc hA hx,hs,hmv,Sc hA hal,hb,cond_true,hA _ hH]
  |false=>
  rw[hmv,cond_false]at h;obtain⟨hb,h⟩:=cs h;refine⟨_,h,λ A' hA R' K'=>?_⟩;unfold B6;rw[ho,hod];simp only[hT,Bc hA hx,hs,hmv,cond_false,Qg hA hal,hb,cond_true,Oq hA hal,hA _ hH]
 ·cases h
def Rta {T:TypeId} {x:Operand} {d:Nat} (ho:o.op = .load T x) (hod:o.dst=some d) (hx:RX A F x) (h:B6 E o A Kc=some r):Loc E o A F Kc r:=by
 unfold B6 at h;rw[ho,hod]at h;simp only at h;split at h
 ·rename_i ti b v off hT hs;obtain⟨h1,h2⟩:RL A F (.bp b v off):=H8 hx hs;split at h
  ·rename_i n m hg;obtain⟨hb,h⟩:=cs h
   have hle:off+ti.ty.sz≤m:=by
    simp only[Va]at hb;exact Vl hb.2
   have hcell:∀ i,i<ti.ty.sz→C b (off+i)∈F:=λ i hi=>(h2 m (by rw[hg]) (off+i) (by omega) (by omega)).1;split at h
   ·rename_i s hp;refine⟨_,h,λ A' hA R' K'=>?_⟩;unfold B6;rw[ho,hod];simp only[hT,Bc hA hx,hs,hA _ h1,hg,hb,cond_true,Ro hA hcell,hp]
   ·cases h
  ·cases h
 ·rename_i ti p v i off hT hs;have hp:p∈F:=H8 hx hs;split at h
  ·rename_i n e r' xs hg;obtain⟨hb,h⟩:=cs h;split at h
   ·rename_i s hp2;refine⟨_,h,λ A' hA R' K'=>?_⟩;unfold B6;rw[ho,hod];simp only[hT,Bc hA hx,hs,hA _ hp,hg,hb,cond_true,hp2]
   ·cases h
  ·cases h
 ·rename_i ti p v pi e0 r' xs i off hT hs;have hp:p∈F:=H8 hx hs;obtain⟨hb,h⟩:=cs h;split at h
  ·rename_i s hp2;refine⟨_,h,λ A' hA R' K'=>?_⟩;unfold B6;rw[ho,hod];simp only[hT,Bc hA hx,hs,hA _ hp,hb,cond_true,hp2]
  ·cases h
 ·rename_i ti r' x' off hT hs;obtain⟨hb,h⟩:=cs h;split at h
  ·rename_i s hp2;refine⟨_,h,λ A' hA R' K'=>?_⟩;unfold B6;rw[ho,hod];simp only[hT,Bc hA hx,hs,hb,cond_true,hp2]
  ·cases h
 ·cases h
def Sd (h:Ag A A' F):∀ {l:List Lf},(∀ p v pi e r,∀ xs:List (Ty.den r),Lf.da p v pi e r xs∈l→p∈F)→H0 A' l=H0 A l
 |[],_=>rfl
 |y::l,hp=>by
  have ih:=Sd h (l:=l) (λ p v pi e r xs hm=>hp p v pi e r xs (Vd _ hm))
  cases y with
  |da p v pi e r xs=>simp only[H0,ih,h p (hp p v pi e r xs (by simp))]
  |_=>simp only[H0,ih]
def Woa {l:List Lf} (h:∀ y∈l,RL A F y):∀ p v pi e r,∀ xs:List (Ty.den r),Lf.da p v pi e r xs∈l.map (kept A)→p∈F:=by
 intro p v pi e r xs hm;obtain⟨y,hy,he⟩:=Yt.1 hm
 cases y with
 |da p' v' pi' e' r' xs'=>
  simp only[kept,Lf.da.injEq]at he;have:=h _ hy;rw[he.1]at this;exact this
 |al q w=>
  exfalso;simp only[kept]at he
  have h1:∀ z:Lf,(∀ p v pi e r,∀ xs:List (Ty.den r),z ≠ .da p v pi e r xs)→∀ p v pi e r,∀ xs:List (Ty.den r),Lk z ≠ .da p v pi e r xs:=by
   intro z hz p v pi e r xs
   cases z<;>simp[Lk]
   exact λ e1 e2 e3 e4 e5 e6=>hz _ _ _ _ _ _ rfl
  refine h1 (Jb A (.al q w)) ?_ _ _ _ _ _ _ he;intro p v pi e r xs;simp only[Jb];split
  ·rename_i n _ _ _ _
   cases Nat.beq n w<;>simp
  ·rename_i n _ _ _ _
   cases Nat.beq n w<;>simp
  ·simp
 |_=>simp[kept]at he
def Nu:∀ {ts:List Ty} {l:List Lf} {A A':Ab},Ag A A' F→(∀ y∈l,AL F y)→G6 A' ts l=G6 A ts l
 |[],[],_,_,_,_=>rfl
 |[],_::_,_,_,_,_=>rfl
 |t::ts,[],_,_,_,_=>by cases t<;>rfl
 |t::ts,x::l,A,A',hA,hy=>by
  have hx:AL F x:=hy x (by simp);have hl:∀ y∈l,AL F y:=λ y hm=>hy y (Vd _ hm)
  cases t<;>simp only[G6,Fz hA hx,Fga hA hx,Fha hA hx,Nu (hA.ups (U:=Ema x)) hl,Nu (hA.ups (U:=Sw A x)) hl]
def N4a (hA:Ag A A' F):∀ {l:List Lf},(∀ y∈l,AL F y)→Vna A' l=Vna A l
 |[],_=>rfl
 |y::l,h=>by simp only[Vna,Fz hA (h y (by simp)),N4a hA (λ z hz=>h z (Vd _ hz))]
def Rua {x:Operand} {s:Sv} (hA:Ag A A' F) (hal:∀ y∈parts s,AL F y):R6 A' x s (Vna (ups A' (gone x s)) (parts s))=R6 A x s (Vna (ups A (gone x s)) (parts s)):=by
 have hA1:=hA.ups (U:=gone x s);unfold R6;rw[N4a hA1 hal,Nu hA1 hal]
def N5a {T:TypeId} {x y:Operand} (ho:o.op = .store T x y) (hod:o.dst=none) (hx:RX A F x) (hy:RX A F y) (h:B6 E o A Kc=some r):Loc E o A F Kc r:=by
 unfold B6 at h;rw[ho,hod]at h;simp only at h;split at h
 ·rename_i ti b v off s hT hs hs2;obtain⟨h1,h2⟩:RL A F (.bp b v off):=H8 hx hs;have hal:=RL.als (Nt hy hs2)
  cases hmv:mvO E y with
  |true=>
   rw[hmv,cond_true]at h;split at h
   ·rename_i m vs hgive;split at h
    ·rename_i n hd hg;obtain⟨hb,h⟩:=cs h;refine⟨_,h,λ A' hA R' K'=>?_⟩;unfold B6;rw[ho,hod];simp only[hT,Bc hA hx,hs,Bc hA hy,hs2,hmv,Rua hA hal,hgive,hA _ h1,hg,hb,cond_true]
    ·cases h
   ·cases h
  |false=>
  rw[hmv,cond_false]at h;split at h
  ·rename_i n m hg;obtain⟨hb,h⟩:=cs h;refine⟨_,h,λ A' hA R' K'=>?_⟩;unfold B6;rw[ho,hod];simp only[hT,Bc hA hx,hs,Bc hA hy,hs2,hmv,cond_false,hA _ h1,hg,Qg hA hal,Oq hA hal,Sd (hA.ups (U:=Ip A (parts s)++gone y s)) (Woa (Nt hy hs2)),hb,cond_true]
  ·cases h
 ·rename_i ti p v i off s hT hs hs2;have hp:p∈F:=H8 hx hs;have hal:=RL.als (Nt hy hs2);split at h
  ·rename_i n e r' xs hg;obtain⟨hb,h⟩:=cs h;split at h
   ·rename_i z hz;refine⟨_,h,λ A' hA R' K'=>?_⟩;unfold B6;rw[ho,hod];simp only[hT,Bc hA hx,hs,Bc hA hy,hs2,hA _ hp,hg,Qg hA hal,Hpa hA hal,hb,cond_true,Oq hA hal,hz]
   ·cases h
  ·cases h
 ·rename_i ti p v q e r1 xs i off s hT hs hs2;have hp:p∈F:=H8 hx hs;have hal:=RL.als (Nt hy hs2);split at h
  ·rename_i m us hgive;split at h
   ·rename_i n E0 R0 XS hg;obtain⟨hb,h⟩:=cs h;split at h
    ·rename_i z hz;split at h
     ·rename_i XS' hput;refine⟨_,h,λ A' hA R' K'=>?_⟩;unfold B6;rw[ho,hod];simp only[hT,Bc hA hx,hs,Bc hA hy,hs2,N0a hA hal,hgive,hA _ hp,hg,hb,cond_true,hz,hput]
     ·cases h
    ·cases h
   ·cases h
  ·cases h
 ·cases h
end
end

section
attribute [local irreducible] C H
section
variable {E:En} {A A':Ab} {F:List Nat} {o:Oper} {R:Type} {Kc:List Up→Option R} {r:R}
def N6a {B p:Nat} {e:TypeId} {r':Ty} {xs:List r'.den} {i:Int} {K:List Up→Option R} (hB:H B∈F) (h:Tk A B p e r' xs i K none=some r):∃ U,K U=some r∧∀ A',Ag A A' F→∀ {R':Type} (K':List Up→Option R'),Tk A' B p e r' xs i K' none=K' U:=by
 unfold Tk at h;obtain⟨h1,h⟩:=cs h;obtain⟨h2,h⟩:=cs h;obtain⟨h3,h⟩:=cs h;refine⟨_,h,λ A' hA R' K'=>?_⟩;unfold Tk;simp only[h1,h2,h3,cond_true,hA _ hB]
def Afa {T:TypeId} {x i:Operand} {d:Nat} (ho:o.op = .indexAddr T x i) (hod:o.dst=some d) (hopn:E.opn d=true) (hB:H (2000+d)∈F) (hx:RX A F x) (hi:RX A F i) (h:B6 E o A Kc=some r):Loc E o A F Kc r:=by
 unfold B6 at h;rw[ho,hod]at h;simp only[hopn,cond_true]at h;split at h
 ·rename_i p v k n hs hn;have hp:p∈F:=H8 hx hs;split at h
  ·rename_i m e r' xs hgp;obtain⟨hq,h⟩:=cs h;obtain⟨U,h1,h2⟩:=N6a hB h;refine⟨_,h1,λ A' hA R' K'=>?_⟩;unfold B6;rw[ho,hod];simp only[hopn,Bc hA hx,Bc hA hi,hs,hn,hA p hp,hgp,hq,cond_true,hA _ hB];exact h2 A' hA _
  ·cases h
 ·cases h
def Aga {T:TypeId} {x i:Operand} {d:Nat} (ho:o.op = .indexAddr T x i) (hod:o.dst=some d) (hopn:E.opn d=false) (hx:RX A F x) (hi:RX A F i) (h:B6 E o A Kc=some r):Loc E o A F Kc r:=by
 unfold B6 at h;rw[ho,hod]at h;simp only[hopn,cond_false]at h;split at h
 ·rename_i y k n hs hn;have hrl:=H8 hx hs;have hal:=hrl.al;split at h
  ·rename_i p v e r' xs hse;obtain⟨hb,h⟩:=cs h;obtain⟨hl,h⟩:=cs h
   cases hno:J6 r' with
   |true=>
    rw[hno,cond_true]at h;refine⟨_,h,λ A' hA R' K'=>?_⟩;unfold B6;rw[ho,hod];simp only[hopn,cond_false,Bc hA hx,Bc hA hi,hs,hn,Fz hA hal,hse,hb,hl,hno,cond_true]
   |false=>
    rw[hno,cond_false]at h;obtain⟨hao,h⟩:=cs h;refine⟨_,h,λ A' hA R' K'=>?_⟩;unfold B6;rw[ho,hod];simp only[hopn,cond_false,Bc hA hx,Bc hA hi,hs,hn,Fz hA hal,hse,hb,hl,hno,hao,cond_true,cond_false]
  ·rename_i p v pi e r' xs;have hp:p∈F:=hrl;obtain⟨hb,h⟩:=cs h;obtain⟨hl,h⟩:=cs h;refine⟨_,h,λ A' hA R' K'=>?_⟩;unfold B6;rw[ho,hod];simp only[hopn,cond_false,Bc hA hx,Bc hA hi,hs,hn,hA p hp,hb,hl,cond_true]
  ·rename_i p v hse;have hp:p∈F:=hrl;split at h
   ·rename_i m e r0 xs0 i0 b0 vb hgp;obtain⟨hb,h⟩:=cs h;obtain⟨hl,h⟩:=cs h;refine⟨_,h,λ A' hA R' K'=>?_⟩;unfold B6;rw[ho,hod];simp only[hopn,cond_false,Bc hA hx,Bc hA hi,hs,hn,Fz hA hal,hse,hA p hp,hgp,hb,hl,cond_true]
   ·cases h
  ·rename_i e r' xs hnda hse;obtain⟨hb,h⟩:=cs h;obtain⟨hl,h⟩:=cs h;refine⟨_,h,λ A' hA R' K'=>?_⟩;unfold B6;rw[ho,hod];simp only[hopn,cond_false,Bc hA hx,Bc hA hi,hs,hn,Fz hA hal,hse,hb,hl,cond_true]
  ·rename_i e r' xs hne hnda hse;split at h
   ·rename_i t;have ht:t∈F:=hx.1;obtain⟨hb,h⟩:=cs h;obtain⟨hl,h⟩:=cs h
    cases hno:J6 r' with
    |true=>
     rw[hno,cond_true]at h;refine⟨_,h,λ A' hA R' K'=>?_⟩;unfold B6;rw[ho,hod];simp only[hopn,cond_false,Bc hA hx,Bc hA hi,hs,hn,Fz hA hal,hse,hb,hl,hno,cond_true,hA t ht]
    |false=>
     rw[hno,cond_false]at h;obtain⟨hao,h⟩:=cs h;refine⟨_,h,λ A' hA R' K'=>?_⟩;unfold B6;rw[ho,hod];simp only[hopn,cond_false,Bc hA hx,Bc hA hi,hs,hn,Fz hA hal,hse,hb,hl,hno,hao,cond_true,cond_false,hA t ht]
   ·cases h
  ·cases h
 ·cases h
def N7a {T:TypeId} {x i:Operand} {d:Nat} (ho:o.op = .index T x i) (hod:o.dst=some d) (hx:RX A F x) (hi:RX A F i) (h:B6 E o A Kc=some r):Loc E o A F Kc r:=by
 unfold B6 at h;rw[ho,hod]at h;simp only at h;split at h
 ·rename_i s k n hs hn;obtain⟨hb,h⟩:=cs h;obtain⟨hl,h⟩:=cs h;refine⟨_,h,λ A' hA R' K'=>?_⟩;unfold B6;rw[ho,hod];simp only[Bc hA hx,Bc hA hi,hs,hn,hb,hl,cond_true]
 ·cases h
def Hj (hA:Ag A A' F) {x:Option Operand} (hx:∀ y,x=some y→RX A F y):Epa E A' x=Epa E A x:=by
 cases x with
 |none=>rfl
 |some y=>simp only[Epa,Bc hA (hx y rfl)]
def N8a {T:TypeId} {x:Operand} {lo hi:Option Operand} {d:Nat} (ho:o.op = .slice T x lo hi none) (hod:o.dst=some d) (hx:RX A F x) (hlo:∀ y,lo=some y→RX A F y) (hhi:∀ y,hi=some y→RX A F y) (h:B6 E o A Kc=some r):Loc E o A F Kc r:=by
 unfold B6 at h;rw[ho,hod]at h;simp only at h;split at h
 ·rename_i s l u hs hl hu;obtain⟨hq,h⟩:=cs h;obtain⟨h1,h2⟩:=Lb h;refine⟨_,h1,λ A' hA R' K'=>?_⟩;unfold B6;rw[ho,hod];simp only[Bc hA hx,Hj hA hlo,Hj hA hhi,hs,hl,hu,hq,cond_true];exact h2 _
 ·rename_i y l u hne hs hl hu;have hal:=(H8 hx hs).al;split at h
  ·rename_i e0 r0 xs0 e r' xs hsn;obtain⟨hq,h⟩:=cs h;split at h
   ·obtain⟨h1,h2⟩:=Lb h;refine⟨_,h1,λ A' hA R' K'=>?_⟩;unfold B6;rw[ho,hod];simp only[Bc hA hx,Hj hA hlo,Hj hA hhi,hs,hl,hu,Fz hA hal,hsn,hq,cond_true];exact h2 _
   ·obtain⟨h1,h2⟩:=Lb h;refine⟨_,h1,λ A' hA R' K'=>?_⟩;unfold B6;rw[ho,hod];simp only[Bc hA hx,Hj hA hlo,Hj hA hhi,hs,hl,hu,Fz hA hal,hsn,hq,cond_true];exact h2 _
  ·rename_i p v e r' xs hsn;have hp:p∈F:=H8 hx hs;obtain⟨hq,h⟩:=cs h
   cases hmv:E.mv d with
   |true=>
    rw[hmv,cond_true]at h;split at h
    ·obtain⟨h1,h2⟩:=Lb h;refine⟨_,h1,λ A' hA R' K'=>?_⟩;unfold B6;rw[ho,hod];simp only[Bc hA hx,Hj hA hlo,Hj hA hhi,hs,hl,hu,Fz hA hal,hsn,hq,hmv,cond_true];exact h2 _
    ·cases h
   |false=>
    rw[hmv,cond_false]at h
    cases hno:J6 r' with
    |true=>
     rw[hno,cond_true]at h;obtain⟨h1,h2⟩:=Lb h;refine⟨_,h1,λ A' hA R' K'=>?_⟩;unfold B6;rw[ho,hod];simp only[Bc hA hx,Hj hA hlo,Hj hA hhi,hs,hl,hu,Fz hA hal,hsn,hq,hmv,hno,cond_true,cond_false,Fha hA hal];exact h2 _
    |false=>
     rw[hno,cond_false]at h;obtain⟨hao,h⟩:=cs h;obtain⟨h1,h2⟩:=Lb h;refine⟨_,h1,λ A' hA R' K'=>?_⟩;unfold B6;rw[ho,hod];simp only[Bc hA hx,Hj hA hlo,Hj hA hhi,hs,hl,hu,Fz hA hal,hsn,hq,hmv,hno,hao,cond_true,cond_false];exact h2 _
  ·rename_i p v pi e r' xs;have hp:p∈F:=H8 hx hs;obtain⟨hq,h⟩:=cs h;obtain⟨h1,h2⟩:=Lb h;refine⟨_,h1,λ A' hA R' K'=>?_⟩;unfold B6;rw[ho,hod];simp only[Bc hA hx,Hj hA hlo,Hj hA hhi,hs,hl,hu,hA p hp,hq,cond_true];exact h2 _
  ·rename_i e r' xs hnda hsn;obtain⟨hq,h⟩:=cs h;obtain⟨h1,h2⟩:=Lb h;refine⟨_,h1,λ A' hA R' K'=>?_⟩;unfold B6;rw[ho,hod];simp only[Bc hA hx,Hj hA hlo,Hj hA hhi,hs,hl,hu,Fz hA hal,hsn,hq,cond_true];exact h2 _
  ·cases h
 ·cases h
def Csa {A:Ab} {y:Lf}:∀ u∈Sw A y,Ns u:=by
 intro u hu;unfold Sw at hu;split at hu
 ·rename_i p v;split at hu
  ·rename_i n e r xs hg;cases hb:Nat.beq n v
   ·rw[hb]at hu;simp at hu
   rw[hb]at hu;simp only[cond_true,Vp]at hu;subst hu;exact .inr ⟨e,r,xs,rfl⟩
  ·simp at hu
 ·simp at hu
def Xk {A:Ab}:∀ {l:List Lf},∀ u∈Ip A l,Ns u
 |[],u,hu=>by simp[Ip]at hu
 |y::l,u,hu=>by
  unfold Ip at hu;rcases Vm.1 hu with hu|hu
  ·exact Csa u hu
  ·exact Xk u hu
def Ud {x:Operand} {s:Sv}:∀ u∈gone x s,Ns u:=by
 intro u hu;unfold gone at hu;split at hu
 ·rename_i t;cases hb:Lr s
  ·rw[hb]at hu;simp at hu
  rw[hb]at hu;simp only[cond_true,Vp]at hu;subst hu;exact .inl rfl
 ·simp at hu
def N9a {y:Lf} {x:Operand}:∀ u∈Eka y x,Ns u:=by
 intro u hu;unfold Eka at hu;split at hu
 ·simp only[Vp]at hu;subst hu;exact .inl rfl
 ·simp only[Vp]at hu;subst hu;exact .inl rfl
 ·simp at hu
def Naa {A:Ab} {l:List Lf} {x:Operand} {s:Sv}:∀ u∈Ip A l++gone x s,Ns u:=λ u hu=>(Vm.1 hu).elim (Xk u) (Ud u)
def Pn:∀ {l:List Lf} {A:Ab} {m:List Lf} {us:List Up},J7 A l=some (m,us)→∀ u∈us,Ns u
 |[],A,m,us,h=>by
  simp only[J7,Vc,Vx]at h;obtain⟨_,rfl⟩:=h;simp
 |x::l,A,m,us,h=>by
  by_cases hal:∃ p v,x = .al p v
  ·obtain⟨p,v,rfl⟩:=hal;simp only[J7]at h;split at h
   ·split at h
    ·rename_i m' us' hrec;cases h;intro u hu;rcases Vk.1 hu with rfl|hu
     ·exact .inl rfl
     ·exact Pn hrec u hu
    ·cases h
   ·cases h
  ·obtain⟨m',rfl,h'⟩:=Pl (λ p v e=>hal ⟨p,v,e⟩) h;exact Pn h'
def Nba {A:Ab} {x:Operand} {s:Sv} {m:List Lf} {us:List Up} (h:give A x s=some (m,us)):∀ u∈us,Ns u:=by
 unfold give at h;split at h
 ·rename_i m0 vs0 ht;cases h;exact λ u hu=>(Vm.1 hu).elim (Ud u) (Pn ht u)
 ·cases h
def Ue {T:TI}:∀ {ps:List (Nat×Operand)} {A A':Ab} {l:List Lf} {us:List Up},Ag A A' F→(∀ p∈ps,RX A F p.2)→Ls E A' T l us ps=Ls E A T l us ps
 |[],_,_,_,_,_,_=>rfl
 |(i,x)::ps,A,A',l,us,hA,hp=>by
  have hx:RX A F x:=hp (i,x) (by simp);have hps:∀ p∈ps,RX A F p.2:=λ p hm=>hp p (Vd _ hm);have e0:∀ l us,Ls E A' T l us ps=Ls E A T l us ps:=λ l us=>Ue hA hps;unfold Ls
  cases hn:nth T.fo i with
  |none=>rfl
  |some o=>
   obtain⟨off,z,ag⟩:=o;simp only[Bc hA hx]
   have gen:∀ {s:Sv},opT E 0 A x=some s→(let m:=(parts s).map (kept A');bif A5 m&&Nat.beq m.length z&&Nat.ble (off+z) l.length then Ls E (ups A' (Ip A' (parts s)++gone x s)) T (setAll l off m) (us++(Ip A' (parts s)++gone x s)) ps else none) =
     (let m:=(parts s).map (kept A);bif A5 m&&Nat.beq m.length z&&Nat.ble (off+z) l.length then Ls E (ups A (Ip A (parts s)++gone x s)) T (setAll l off m) (us++(Ip A (parts s)++gone x s)) ps else none):=by
    intro s hs;have hal:=RL.als (Nt hx hs);simp only[Qg hA hal,Oq hA hal];rw[Ue (hA.ups (U:=Ip A (parts s)++gone x s)) (λ p hm=>(hps p hm).ups Naa)]
   split
   ·cases Nat.beq z 1
    ·rfl
    simp only[cond_true];split
    ·exact e0 _ _
    ·rfl
   ·cases hs:opT E 0 A x with
    |none=>rfl
    |some s=>exact gen hs
def Nca {T:TypeId} {ps:Array (Nat×Operand)} {d:Nat} (ho:o.op = .build T ps) (hod:o.dst=some d) (hp:∀ p∈ps.toList,RX A F p.2) (h:B6 E o A Kc=some r):Loc E o A F Kc r:=by
 unfold B6 at h;rw[ho,hod]at h;simp only at h;split at h
 ·rename_i ti hT;split at h
  ·rename_i l us hb;obtain⟨ha,h⟩:=cs h;refine⟨_,h,λ A' hA R' K'=>?_⟩;unfold B6;rw[ho,hod];simp only[hT,Ue hA hp,hb,ha,cond_true]
  ·cases h
 ·cases h
def Hra {e:TypeId} {t:Ty}:∀ {ps:List (Nat×Operand)} {A A':Ab} {i:Nat},Ag A A' F→(∀ p∈ps,RX A F p.2)→Boa E A' e t i ps=Boa E A e t i ps
 |[],_,_,_,_,_=>rfl
 |(j,x)::ps,A,A',i,hA,hp=>by
  have hx:RX A F x:=hp (j,x) (by simp);have hps:∀ p∈ps,RX A F p.2:=λ p hm=>hp p (Vd _ hm);unfold Boa;cases Nat.beq i j
  ·rfl
  simp only[cond_true,Bc hA hx]
  cases hs:opT E e A x with
  |none=>rfl
  |some s=>
   have hal:=RL.als (Nt hx hs);simp only[Qg hA hal,Hpa hA hal,Oq hA hal];rw[Hra (hA.ups (U:=Ip A (parts s)++gone x s)) (λ p hm=>(hps p hm).ups Naa)]
def Hsa {e:TypeId} {t:Ty}:∀ {ps:List (Nat×Operand)} {A A':Ab} {i:Nat},Ag A A' F→(∀ p∈ps,RX A F p.2)→Bpa E A' e t i ps=Bpa E A e t i ps
 |[],_,_,_,_,_=>rfl
 |(j,x)::ps,A,A',i,hA,hp=>by
  have hx:RX A F x:=hp (j,x) (by simp);have hps:∀ p∈ps,RX A F p.2:=λ p hm=>hp p (Vd _ hm);unfold Bpa;cases Nat.beq i j
  ·rfl
  simp only[cond_true,Bc hA hx]
  cases hs:opT E e A x with
  |none=>rfl
  |some s=>
   have hal:=RL.als (Nt hx hs);simp only[N0a hA hal]
   cases hgv:give A x s with
   |none=>rfl
   |some q=>
    obtain⟨m,us⟩:=q;simp only;rw[Hsa (hA.ups (U:=us)) (λ p hm=>(hps p hm).ups (Nba hgv))]
def Ws {T:TypeId} {n:Nat} {ps:Array (Nat×Operand)} {d:Nat} (ho:o.op = .buildSlice T n ps) (hod:o.dst=some d) (hp:∀ p∈ps.toList,RX A F p.2) (h:B6 E o A Kc=some r):Loc E o A F Kc r:=by
 unfold B6 at h;rw[ho,hod]at h;simp only at h;split at h
 ·rename_i e r' b f hT;obtain⟨hb,h⟩:=cs h;split at h
  ·rename_i hh;obtain⟨hno,h⟩:=cs h;split at h
   ·rename_i ys us hr;refine⟨_,h,λ A' hA R' K'=>?_⟩;unfold B6;rw[ho,hod];simp only[hT,hb,hh,hno,cond_true,Hra hA hp,hr]
   ·cases h
  ·rename_i r2 hh;obtain⟨hb2,h⟩:=cs h;split at h
   ·rename_i ys us hr;refine⟨_,h,λ A' hA R' K'=>?_⟩;unfold B6;rw[ho,hod];simp only[hT,hb,hh,hb2,cond_true,Hsa hA hp,hr]
   ·cases h
 ·cases h
def Aha {T:TypeId} {x y:Operand} {d:Nat} (ho:o.op = .makeSlice T x y) (hod:o.dst=some d) (hx:RX A F x) (hy:RX A F y) (h:B6 E o A Kc=some r):Loc E o A F Kc r:=by
 unfold B6 at h;rw[ho,hod]at h;simp only at h;split at h
 ·rename_i e r' b f n m hT hs hm;split at h
  ·rename_i te he;obtain⟨hb,h⟩:=cs h;obtain⟨h0,h⟩:=cs h;obtain⟨h1,h⟩:=cs h;split at h
   ·rename_i hh;refine⟨_,h,λ A' hA R' K'=>?_⟩;unfold B6;rw[ho,hod];simp only[hT,Bc hA hx,Bc hA hy,hs,hm,he,hb,h0,h1,hh,cond_true]
   ·rename_i r2 hh;obtain⟨h2,h⟩:=cs h;refine⟨_,h,λ A' hA R' K'=>?_⟩;unfold B6;rw[ho,hod];simp only[hT,Bc hA hx,Bc hA hy,hs,hm,he,hb,h0,h1,hh,h2,cond_true]
  ·cases h
 ·cases h
def Uf (hA:Ag A A' F):∀ {xs:List Operand} {Ts:List TypeId},(∀ x∈xs,RX A F x)→R8 E Ts A' xs=R8 E Ts A xs
 |[],_,_=>by simp only[R8]
 |x::xs,[],_=>by simp only[R8]
 |x::xs,T::Ts,hx=>by
  unfold R8;simp only[Bc hA (hx x (by simp)),Uf hA (xs:=xs) (Ts:=Ts) (λ y hy=>hx y (Vd _ hy))]
def Fka:∀ {xs:List Operand} {Ts:List TypeId} {ss:List Sv},(∀ x∈xs,RX A F x)→R8 E Ts A xs=some ss→∀ s∈ss,∀ y∈parts s,RL A F y
 |[],_,ss,_,h=>by
  simp only[R8,Vc]at h;subst h;intro s hs;simp at hs
 |x::xs,[],ss,_,h=>by simp[R8]at h
 |x::xs,T::Ts,ss,hx,h=>by
  simp only[R8]at h;split at h
  ·rename_i s hs;split at h
   ·rename_i ss' hss;cases h;intro s' hs' y hy;rcases Vk.1 hs' with rfl|hs'
    ·exact Nt (hx x (by simp)) hs y hy
    ·exact Fka (λ y hy=>hx y (Vd _ hy)) hss s' hs' y hy
   ·cases h
  ·cases h
def Wpa {c:Call} (ho:o.op = .call c) (hc:c.callee = .builtin .len) (hx:∀ x∈c.args.toList,RX A F x) (h:B6 E o A Kc=some r):Loc E o A F Kc r:=by
 unfold B6 at h;rw[ho]at h;simp only[hc]at h;split at h
 ·rename_i T x d hT hxs hod;have hx0:RX A F x:=hx x (by rw[hxs];simp);split at h
  ·rename_i y hs;have hal:=(H8 hx0 hs).al;split at h
   ·rename_i s hse;obtain⟨hb,h⟩:=cs h;refine⟨_,h,λ A' hA R' K'=>?_⟩;unfold B6;rw[ho,hod];simp only[hc,hT,hxs,Bc hA hx0,hs,Fz hA hal,hse,hb,cond_true]
   ·rename_i p v pi e r' xs hse
    have hy:y = .da p v pi e r' xs:=by
     cases y<;>first|exact hse|skip
     simp only[Jb]at hse;split at hse
     ·rename_i n _ _ _ _
      cases hbb:Nat.beq n _<;>rw[hbb]at hse<;>simp at hse
     ·rename_i n _ _ _ _
      cases hbb:Nat.beq n _<;>rw[hbb]at hse<;>simp at hse
     ·cases hse
    have hp:p∈F:=by have:=H8 hx0 hs;rw[hy]at this;exact this
    obtain⟨hb,h⟩:=cs h;refine⟨_,h,λ A' hA R' K'=>?_⟩;unfold B6;rw[ho,hod];simp only[hc,hT,hxs,Bc hA hx0,hs,Fz hA hal,hse,hA p hp,hb,cond_true]
   ·rename_i e r' xs hse;obtain⟨hb,h⟩:=cs h;refine⟨_,h,λ A' hA R' K'=>?_⟩;unfold B6;rw[ho,hod];simp only[hc,hT,hxs,Bc hA hx0,hs,Fz hA hal,hse,hb,cond_true]
   ·rename_i e r' xs hse;obtain⟨hb,h⟩:=cs h;refine⟨_,h,λ A' hA R' K'=>?_⟩;unfold B6;rw[ho,hod];simp only[hc,hT,hxs,Bc hA hx0,hs,Fz hA hal,hse,hb,cond_true]
   ·cases h
  ·cases h
 ·cases h
def Wqa {c:Call} (ho:o.op = .call c) (hc:c.callee = .builtin .min) (hx:∀ x∈c.args.toList,RX A F x) (h:B6 E o A Kc=some r):Loc E o A F Kc r:=by
 unfold B6 at h;rw[ho]at h;simp only[hc]at h;split at h
 ·rename_i k n l d hs hod;obtain⟨v,h1,h2⟩:=Xj h;refine⟨_,h1,λ A' hA R' K'=>?_⟩;unfold B6;rw[ho,hod];simp only[hc,Uf hA hx,hs];exact h2 _
 ·cases h
def Wra {c:Call} (ho:o.op = .call c) (hc:c.callee = .builtin .max) (hx:∀ x∈c.args.toList,RX A F x) (h:B6 E o A Kc=some r):Loc E o A F Kc r:=by
 unfold B6 at h;rw[ho]at h;simp only[hc]at h;split at h
 ·rename_i k n l d hs hod;obtain⟨v,h1,h2⟩:=Xj h;refine⟨_,h1,λ A' hA R' K'=>?_⟩;unfold B6;rw[ho,hod];simp only[hc,Uf hA hx,hs];exact h2 _
 ·cases h
def K2a {c:Call} (ho:o.op = .call c) (hc:c.callee = .builtin .append) (hx:∀ x∈c.args.toList,RX A F x) (h:B6 E o A Kc=some r):Loc E o A F Kc r:=by
 unfold B6 at h;rw[ho]at h;simp only[hc]at h;split at h
 ·rename_i T T' x y d hT hxs hod;have hx0:RX A F x:=hx x (by rw[hxs];simp);have hy0:RX A F y:=hx y (by rw[hxs];simp);split at h
  ·rename_i u w hsu hsw;have hau:=(H8 hx0 hsu).al;have hrw:=H8 hy0 hsw;split at h
   ·rename_i e r' xs hsu';split at h
    ·rename_i r2 hh;have hy1:RX (ups A (Eka u x)) F y:=hy0.ups N9a;split at h
     ·rename_i w2 hsw2;have haw2:=(H8 hy1 hsw2).al;split at h
      ·rename_i e' r3 ys xs2 te hsn hcx hte;split at h
       ·rename_i ys2 hcy;obtain⟨hq,h⟩:=cs h;obtain⟨hq2,h⟩:=cs h;refine⟨_,h,λ A' hA R' K'=>?_⟩;have hA1:=hA.ups (U:=Eka u x);unfold B6;rw[ho,hod];simp only[hc,hT,hxs,Bc hA hx0,Bc hA hy0,hsu,hsw,Fz hA hau,hsu',hh,Bc hA1 hy1,hsw2,Fz hA1 haw2,hsn,hcx,hte,hcy,hq,hq2,cond_true]
       ·cases h
      ·cases h
     ·cases h
    ·rename_i hh
     cases hno:J6 r' with
     |false=>rw[hno]at h;simp at h
     |true=>
     rw[hno,cond_true]at h;split at h
     ·rename_i e' r'' ys hasl;split at h
      ·rename_i ys' te hcast hte;obtain⟨hq,h⟩:=cs h;obtain⟨hq2,h⟩:=cs h;refine⟨_,h,λ A' hA R' K'=>?_⟩;unfold B6;rw[ho,hod];simp only[hc,hT,hxs,Bc hA hx0,Bc hA hy0,hsu,hsw,Fz hA hau,Hoa hA hrw,hsu',hh,hno,hasl,hcast,hte,hq,hq2,cond_true]
      ·cases h
     ·rename_i hasl;split at h
      ·rename_i s;split at h
       ·rename_i ys' f hcast hte;obtain⟨hq,h⟩:=cs h;refine⟨_,h,λ A' hA R' K'=>?_⟩;unfold B6;rw[ho,hod];simp only[hc,hT,hxs,Bc hA hx0,Bc hA hy0,hsu,hsw,Fz hA hau,Hoa hA hrw,hsu',hh,hno,hasl,hcast,hte,hq,cond_true]
       ·cases h
      ·cases h
   ·cases h
  ·cases h
 ·cases h
def Cta (hA:Ag A A' F):∀ {ps:List Par} {ss:List Sv},(∀ s∈ss,∀ y∈parts s,RL A F y)→Ng A' ps ss=Ng A ps ss
 |[],[],_=>rfl
 |[],_::_,_=>rfl
 |p::_,[],_=>by cases p<;>rfl
 |.ptr _ _::_,_::_,_=>rfl
 |.hid _ _::_,_::_,_=>rfl
 |.rd _::_,_::_,_=>rfl
 |.fn _ _::_,_::_,_=>rfl
 |.vw _ _::_,_::_,_=>rfl
 |.val ag t::ps,s::ss,hs=>by
  unfold Ng;rw[Roa hA (hs s (by simp)),Cta hA (λ s' hs'=>hs s' (Vd _ hs'))]
def K3a {y:Lf}:∀ u∈Ema y,Ns u:=by
 intro u hu;unfold Ema at hu;split at hu
 ·simp only[Vp]at hu;subst hu;exact .inl rfl
 ·simp at hu
def Ms:∀ {ts:List Ty} {l:List Lf} {A:Ab} {m:List Lf} {us:List Up},G6 A ts l=some (m,us)→∀ u∈us,Ns u
 |[],[],A,m,us,h=>by
  simp only[G6,Vc,Vx]at h;obtain⟨_,rfl⟩:=h;simp
 |[],_::_,A,m,us,h=>by simp[G6]at h
 |t::ts,[],A,m,us,h=>by cases t<;>simp[G6]at h
 |t::ts,x::l,A,m,us,h=>by
  cases t with
  |ow e r=>
   simp only[G6]at h;split at h
   ·split at h
    ·rename_i hr;cases h;exact λ u hu=>(Vm.1 hu).elim (K3a u) (Ms hr u)
    ·cases h
   ·cases h
  |_=>
   simp only[G6]at h;split at h
   ·rename_i hr;cases h;exact λ u hu=>(Vm.1 hu).elim (Csa u) (Ms hr u)
   ·cases h
def Rva {x:Operand} {s:Sv} {t:Ty} (hA:Ag A A' F) (hal:∀ y∈parts s,AL F y):R7 A' x s t=R7 A x s t:=by
 unfold R7 R6;rw[Nu (hA.ups (U:=gone x s)) hal]
def K4a {x:Operand} {s:Sv} {t:Ty} {m:List Lf} {us:List Up} (h:R7 A x s t=some (m,us)):∀ u∈us,Ns u:=by
 unfold R7 R6 at h;split at h
 ·rename_i m0 vs0 ht;cases hst:A5 m0
  ·rw[hst]at h;simp at h
  rw[hst]at h;simp only[cond_true,Vc,Vx]at h;obtain⟨_,rfl⟩:=h;exact λ u hu=>(Vm.1 hu).elim (Ud u) (Ms ht u)
 ·cases h
def Hta {b v:Nat} {t t':Ty} (hA:Ag A A' F) (hb:RB A F b 0):Pg A' b v t t'=Pg A b v t t':=by
 obtain⟨h1,h2⟩:=hb;unfold Pg;rw[hA _ h1];split
 ·rename_i n m hg
  have hcell:∀ i,i<m→C b (0+i)∈F∧∀ p v,(get A (C b (0+i))).2 = .one (.al p v)→p∈F:=λ i hi=>by
   rw[Wh];exact h2 m (by rw[hg]) i (Vu _) hi
  have hac:=Xi hcell;have e1:cellsOf A' b 0 m=cellsOf A b 0 m:=Ro hA (λ i hi=>(hcell i hi).1);rw[e1,Nu hA hac]
 ·rfl
def Xl {b v:Nat} {t t':Ty} {m:List Lf} {us:List Up} (h:Pg A b v t t'=some (m,us)):∀ u∈us,Ns u:=by
 unfold Pg at h;split at h
 ·rename_i n hd hp;obtain⟨hq,h⟩:=cs h;split at h
  ·rename_i l us0 hx;cases hst:A5 l
   ·rw[hst]at h;simp at h
   rw[hst]at h;simp only[cond_true,Vc,Vx]at h;obtain⟨_,rfl⟩:=h;exact Ms hx
  ·cases h
 ·cases h
def Ug (hA:Ag A A' F):∀ {bs:List (Nat×Nat)},(∀ c∈bs,RB A F c.1 0)→Kz A' bs=Kz A bs
 |[],_=>rfl
 |c::bs,h=>by
  unfold Kz;rw[hA _ (h c (by simp)).1,Ug hA (λ c hc=>h c (Vd _ hc))]
def Nda (hA:Ag A A' F) {b:Nat}:∀ {ts:List Ty} {j:Nat} {l:List Lf},(∀ y∈l,AL F y)→Ena A' b j ts l=Ena A b j ts l
 |[],_,[],_=>rfl
 |[],_,_::_,_=>rfl
 |t::ts,_,[],_=>by cases t<;>rfl
 |t::ts,j,x::l,h=>by
  have hx:=h x (by simp);have ih:=Nda hA (b:=b) (ts:=ts) (j:=j+1) (l:=l) (λ y hy=>h y (Vd _ hy))
  cases t with
  |ow e r=>
   cases x with
   |al p v=>simp only[Ena,ih,Fz hA hx,hA p hx]
   |_=>rfl
  |_=>simp only[Ena,ih,Fz hA hx]
def RV (A:Ab) (F:List Nat) (ss:List Sv):Prop:=∀ ys,Sv.agg ys∈ss→∀ p v,Lf.al p v∈ys→1000≤p→RB A F (p/1000-1) 0
def Xm:∀ {ys:List Lf} {b:Nat},Bka ys=some b→∃ p v,Lf.al p v∈ys∧1000≤p∧b=p/1000-1
 |[],b,h=>by simp[Bka]at h
 |y::ys,b,h=>by
  have rest:Bka ys=some b→∃ p v,Lf.al p v∈y::ys∧1000≤p∧b=p/1000-1:=λ h=>by
   obtain⟨p,v,h1,h2⟩:=Xm h;exact⟨p,v,Vd _ h1,h2⟩
  cases y with
  |al p v=>
   simp only[Bka]at h;cases hq:Nat.ble 1000 p
   ·rw[hq]at h;exact rest h
   rw[hq]at h;simp only[cond_true,Vc]at h;exact⟨p,v,by simp,Vl hq,h.symm⟩
  |_=>exact rest h
def Nea (hA:Ag A A' F):∀ {ps:List Par} {ss:List Sv},RV A F ss→Bla A' ps ss=Bla A ps ss∧∀ c∈Bla A ps ss,RB A F c.1 0
 |[],ss,_=>⟨rfl,by simp[Bla]⟩
 |p::ps,[],_=>by cases p<;>exact⟨rfl,by simp[Bla]⟩
 |p::ps,s::ss,h=>by
  obtain⟨h1,h2⟩:=Nea hA (ps:=ps) (ss:=ss) (λ ys hy=>h ys (Vd _ hy))
  cases p with
  |vw t h0=>
   cases s with
   |agg ys=>
    simp only[Bla]
    cases hb:Bka ys with
    |none=>exact⟨h1,h2⟩
    |some b=>
     obtain⟨p,v,e1,e2,rfl⟩:=Xm hb;have hrb:=h ys (by simp) p v e1 e2;refine⟨by simp only[h1,hA _ hrb.1],λ c hc=>?_⟩;rcases Vk.1 hc with rfl|hc
     ·exact hrb
     ·exact h2 c hc
   |_=>exact⟨h1,h2⟩
  |_=>cases s<;>exact⟨h1,h2⟩
def Hua (hA:Ag A A' F) {cb hb:List (Nat×Nat)} {nv:Nat} {x:Operand} {p:Par} {s:Sv} (hhb:∀ c∈hb,RB A F c.1 0) (hs:∀ y∈parts s,RL A F y):So A' cb hb nv x p s=So A cb hb nv x p s∧∀ l u b,So A cb hb nv x p s=some (l,u,b)→∀ v∈u,Ns v:=by
 have hal:=RL.als hs;constructor
 ·unfold So;split
  ·rename_i t h0 ys
   cases hn:nth hb (h0-nv) with
   |none=>rfl
   |some c=>
    rw[Ht]at hn;simp only[hA _ (hhb c (Esb hn)).1,Nda hA (show ∀ y∈ys,AL F y from hal)]
  ·simp only[Rva hA hal]
  ·rename_i b v;rw[Hta hA (show RB A F b 0 from hs (.bp b v 0) (by simp[parts]))]
  ·rename_i b v;rw[Hta hA (show RB A F b 0 from hs (.bp b v 0) (by simp[parts]))]
  ·rfl
  ·rename_i F0 m F' bs;rw[Ug hA (show ∀ c∈bs,RB A F c.1 0 from hs (.fn F' bs) (by simp[parts]))]
  ·rfl
 ·intro l u b h v hv;unfold So at h;split at h
  ·rename_i t h0 ys;split at h
   ·split at h
    ·rename_i n m _;generalize (Nat.ble nv h0&&Nat.beq n _&&Nat.beq m t.sz)=bb at h;cases bb
     ·simp at h
     rw[cond_true]at h;split at h
     ·cases h;simp at hv
     ·cases h
    ·cases h
   ·cases h
  ·rename_i ag t;obtain⟨hf,h⟩:=cs h;split at h
   ·rename_i hgive;cases h;exact K4a hgive v hv
   ·cases h
  ·split at h
   ·rename_i hgive;cases h;exact Xl hgive v hv
   ·cases h
  ·split at h
   ·rename_i hgive;cases h;exact Xl hgive v hv
   ·cases h
  ·rename_i t r y;cases hf:(decide (shp r=shp t)&&J6 t)
   ·rw[hf]at h;simp at h
   rw[hf]at h;simp only[cond_true,Vc,Vx]at h;obtain⟨_,rfl,_⟩:=h;simp at hv
  ·rename_i F0 m F' bs;cases hf:(Nat.beq F0 F'&&Nat.beq m bs.length&&Txa bs cb&&Kz A bs)
   ·rw[hf]at h;simp at h
   rw[hf]at h;simp only[cond_true,Vc,Vx]at h;obtain⟨_,rfl,_⟩:=h;simp at hv
  ·cases h
def Uh {cb hb:List (Nat×Nat)} {nv:Nat}:∀ {ps:List Par} {xs:List (TypeId×Operand)} {hs:List (Nat×Nat)} {A A':Ab},Ag A A' F→(∀ x∈xs,RX A F x.2)→(∀ h∈hs,RB A F h.1 0)→(∀ c∈hb,RB A F c.1 0)→K8 E cb hb nv A' xs hs ps=K8 E cb hb nv A xs hs ps
 |[],[],[],_,_,_,_,_,_=>rfl
 |[],[],_::_,_,_,_,_,_,_=>rfl
 |[],_::_,_,_,_,_,_,_,_=>rfl
 |_::_,[],[],_,_,_,_,_,_=>rfl
 |p::ps,x::xs,hs,A,A',hA,hx,hb',hhb=>by
  have hx0:RX A F x.2:=hx x (by simp);unfold K8;rw[Bc hA hx0]
  cases hs:opT E x.1 A x.2 with
  |none=>rfl
  |some s=>
   simp only;obtain⟨h1,h2⟩:=Hua hA (cb:=cb) (hb:=hb) (nv:=nv) (x:=x.2) (p:=p) hhb (Nt hx0 hs);rw[h1]
   cases ha:So A cb hb nv x.2 p s with
   |none=>rfl
   |some q=>
    obtain⟨l,u,b⟩:=q;simp only;rw[Uh (hA.ups (U:=u)) (λ y hy=>(hx y (Vd _ hy)).ups (h2 l u b ha)) (λ c hc=>(hb' c hc).ups (h2 l u b ha)) (λ c hc=>(hhb c hc).ups (h2 l u b ha))]
 |p::ps,[],h::hs,A,A',hA,hx,hb',hhb=>by
  unfold K8
  obtain⟨h1,h2⟩:=Hua hA (cb:=cb) (hb:=hb) (nv:=nv) (x := .func 0) (p:=p) (s := .one (.bp h.1 h.2 0)) (F:=F) hhb (λ y hy=>by
   simp only[parts,Vp]at hy;subst hy
   exact hb' h (by simp))
  rw[h1]
  cases ha:So A cb hb nv (.func 0) p (.one (.bp h.1 h.2 0)) with
  |none=>rfl
  |some q=>
   obtain⟨l,u,b⟩:=q;simp only;rw[Uh (hA.ups (U:=u)) (λ y hy=>by simp at hy) (λ c hc=>(hb' c (Vd _ hc)).ups (h2 l u b ha)) (λ c hc=>(hhb c hc).ups (h2 l u b ha))]
def Fla:∀ {ss:List Sv},(∀ s∈ss,∀ y∈parts s,RL A F y)→∀ c∈Laa ss,RB A F c.1 0
 |[],_,c,hc=>by simp[Laa]at hc
 |s::ss,h,c,hc=>by
  have h2:=λ s' hs'=>h s' (Vd _ hs')
  cases s with
  |one z=>
   cases z with
   |fn F' bs=>exact(show ∀ c∈bs,RB A F c.1 0 from h (.one (.fn F' bs)) (by simp) (.fn F' bs) (by simp[parts])) c hc
   |_=>exact Fla h2 c hc
  |_=>exact Fla h2 c hc
def Hva (hA:Ag A A' F):∀ {xs:List Operand},(∀ x∈xs,RX A F x)→Bqa E A' xs=Bqa E A xs
 |[],_=>rfl
 |x::xs,h=>by
  unfold Bqa;rw[Bc hA (h x (by simp)),Hva hA (λ y hy=>h y (Vd _ hy))]
def Hwa {rs:List (RK×Ty)} {ls:List (List Lf)} {d:Option Nat} (hA:∀ d',d=some d'→get A' (H d')=get A (H d')):Ph A' rs ls d=Ph A rs ls d:=by
 unfold Ph
 split<;>first|rfl|skip
 ·rename_i d _ _ _ _ _;unfold Lba;rw[hA _ rfl]
def Cua {en:Ent} {xs:List (TypeId×Operand)} {cs:List (Nat×Nat)} {ss:List Sv} {d:Option Nat} (hd:∀ d',d=some d'→H d'∈F) (hx:∀ x∈xs,RX A F x.2) (hcs:∀ c∈cs,RB A F c.1 0) (hrl:∀ s∈ss,∀ y∈parts s,RL A F y) (hrv:RV A F ss) (h:Yz E A en xs cs ss d Kc=some r):
  ∃ U,Kc U=some r∧∀ A',Ag A A' F→∀ {R':Type} (K':List Up→Option R'),Yz E A' en xs cs ss d K'=K' U:=by
 unfold Yz at h;rw[csi]at h;obtain⟨hnv,h⟩:=h
 cases hb:(Nf en.ps&&W4 en.rs&&cs.isEmpty) with
 |true=>
  rw[hb,cond_true]at h;split at h
  ·cases h
  ·rename_i ls hl;split at h
   ·cases h
   ·rename_i x hm
    cases hr:en.run x with
    |none=>rw[hr]at h;simp at h
    |some y=>
     rw[hr]at h;simp only[Vt]at h;split at h
     ·cases h
     ·rename_i rs hrs;refine⟨_,h,λ A' hA R' K'=>?_⟩;unfold Yz;simp only[hnv,hb,cond_true,Cta hA hrl,hl,hm,hr,Vt,Hwa (A:=A) (A':=A') (λ d' hd'=>hA _ (hd d' hd')),hrs]
 |false=>
  rw[hb,cond_false]at h;rw[csi]at h;obtain⟨hb2,h⟩:=h;split at h
  ·cases h
  ·rename_i ls us bs hl;rw[csi]at h;obtain⟨hnd,h⟩:=h;split at h
   ·cases h
   ·rename_i x hm
    cases hr:en.run x with
    |none=>rw[hr]at h;simp at h
    |some y=>
     rw[hr]at h;simp only[Vt]at h;split at h
     ·cases h
     ·rename_i ws hws;split at h
      ·cases h
      ·rename_i rs hrs;refine⟨_,h,λ A' hA R' K'=>?_⟩;have hA2:=(hA.ups (U:=us)).ups (U:=ws);obtain⟨v1,v2⟩:=Nea hA (ps:=en.ps) hrv;have hhb:∀ c∈Laa ss++Bla A en.ps ss,RB A F c.1 0:=λ c hc=>(Vm.1 hc).elim (Fla hrl c) (v2 c);have hargs:=Uh (E:=E) (cb:=Laa ss++Bla A en.ps ss) (hb:=Laa ss++Bla A en.ps ss) (nv:=en.nv) (ps:=en.ps) hA hx (hs:=cs++(Laa ss++Bla A en.ps ss)) (λ c hc=>(Vm.1 hc).elim (hcs c) (hhb c)) hhb;unfold Yz;simp only[v1,hnv,hb,hb2,hnd,cond_true,cond_false,hargs,hl,hm,hr,Vt,hws,Hwa (A:=ups (ups A us) ws) (A':=ups (ups A' us) ws) (λ d' hd'=>hA2 _ (hd d' hd')),hrs]
def Fma:∀ {xs:List Operand} {Ts:List TypeId} {ss:List Sv},(∀ t,.tmp t∈xs→RV A F [(get A t).2])→R8 E Ts A xs=some ss→RV A F ss
 |[],_,ss,_,h=>by
  simp only[R8,Vc]at h;subst h;intro ys hy;simp at hy
 |x::xs,[],ss,_,h=>by simp[R8]at h
 |x::xs,T::Ts,ss,hx,h=>by
  simp only[R8]at h;split at h
  ·rename_i s hs;split at h
   ·rename_i ss' hss;cases h;intro ys hy p v hp h1;rcases Vk.1 hy with hy|hy
    ·subst hy
     cases x with
     |tmp t=>
      have h2:(bif Nat.blt t E.nt then some (get A t).2 else none)=some (.agg ys):=hs;cases hb:Nat.blt t E.nt
      ·rw[hb]at h2;simp at h2
      rw[hb]at h2;simp only[cond_true,Vc]at h2;exact hx t (by simp) ys (by rw[h2];simp) p v hp h1
     |const w=>
      exfalso;unfold opT at hs;split at hs
      ·rename_i e;cases e
      ·split at hs<;>cases hs
      ·rename_i w' _ _
       cases hq:Gsa w'<;>simp[hq]at hs
      ·rename_i e;cases e
      ·cases hs
     |func f=>simp[opT]at hs
     |global g=>simp[opT]at hs
    ·exact Fma (λ t ht=>hx t (Vd _ ht)) hss ys hy p v hp h1
   ·cases h
  ·cases h
def Nfa:∀ {ys:List Lf},(∀ p∈Yea A ys,p∈F)→∀ p v,Lf.al p v∈ys→1000≤p→RB A F (p/1000-1) 0
 |[],_,p,v,hm,_=>by simp at hm
 |y::ys,h,p,v,hm,hp=>by
  have rest:(∀ p∈Yea A ys,p∈F)→Lf.al p v∈ys→RB A F (p/1000-1) 0:=λ h hm=>Nfa h p v hm hp
  cases y with
  |al q w=>
   simp only[Yea]at h;rcases Vk.1 hm with e|hm
   ·simp only[Lf.al.injEq]at e;obtain⟨rfl,rfl⟩:=e;rw[show Nat.ble 1000 p=true from Zn hp,cond_true]at h;exact Mxa λ p hp=>h p (Vy _ hp)
   ·exact rest (λ p hp=>h p (Vn _ hp)) hm
  |_=>
   rcases Vk.1 hm with e|hm
   ·cases e
   ·exact rest h hm
def Nga:∀ {xs:List Operand},(∀ p∈Vpa A xs,p∈F)→∀ t,.tmp t∈xs→RV A F [(get A t).2]
 |[],_,t,hm=>by simp at hm
 |x::xs,h,t,hm=>by
  rcases Vk.1 hm with rfl|hm
  ·intro ys hy;simp only[Vp]at hy;simp only[Vpa,← hy]at h;exact Nfa λ p hp=>h p (Vy _ hp)
  ·refine Nga (λ p hp=>h p ?_) t hm
   cases x<;>first|exact hp|(simp only[Vpa];exact Vn _ hp)
def Uaa {Ts:List TypeId} {xs:List Operand} (hx:∀ x∈xs,RX A F x):∀ x∈Ts.zip xs,RX A F x.2:=λ x hm=>hx x.2 (List.of_mem_zip (show (x.1,x.2)∈Ts.zip xs from hm)).2
def Nha {c:Call} {f:FuncId} (ho:o.op = .call c) (hc:c.callee = .value (.func f)) (hd:∀ d,o.dst=some d→H d∈F) (hx:∀ x∈c.args.toList,RX A F x) (hv:∀ t,.tmp t∈c.args.toList→RV A F [(get A t).2]) (h:B6 E o A Kc=some r):Loc E o A F Kc r:=by
 unfold B6 at h;rw[ho]at h;simp only[hc]at h;split at h
 ·rename_i en ss he hss;obtain⟨U,h1,h2⟩:=Cua hd (Uaa hx) (by simp) (Fka hx hss) (Fma hv hss) h;refine⟨U,h1,λ A' hA R' K'=>?_⟩;unfold B6;rw[ho];simp only[hc,he,Uf hA hx,hss];exact h2 A' hA K'
 ·cases h
def Nia {c:Call} {t:Nat} (ho:o.op = .call c) (hc:c.callee = .value (.tmp t)) (hd:∀ d,o.dst=some d→H d∈F) (ht:RX A F (.tmp t)) (hx:∀ x∈c.args.toList,RX A F x) (hv:∀ t,.tmp t∈c.args.toList→RV A F [(get A t).2]) (h:B6 E o A Kc=some r):Loc E o A F Kc r:=by
 unfold B6 at h;rw[ho]at h;simp only[hc]at h;split at h
 ·rename_i f bs hf;have hbs:∀ c∈bs,RB A F c.1 0:=H8 ht hf;split at h
  ·rename_i en ss he hss;obtain⟨hal,h⟩:=cs h;obtain⟨U,h1,h2⟩:=Cua hd (Uaa hx) hbs (Fka hx hss) (Fma hv hss) h;refine⟨U,h1,λ A' hA R' K'=>?_⟩;unfold B6;rw[ho];simp only[hc,Bc hA ht,hf,he,Uf hA hx,hss,Ug hA hbs,hal,cond_true];exact h2 A' hA K'
  ·cases h
 ·cases h
def Cva {f:FuncId} {x y:Array Operand} {d:Nat} (ho:o.op = .makeFunc (.func f) x y) (hod:o.dst=some d) (hy:∀ z∈y.toList,RX A F z) (h:B6 E o A Kc=some r):Loc E o A F Kc r:=by
 unfold B6 at h;rw[ho,hod]at h;simp only at h;split at h
 ·rename_i bs hx hbs;refine⟨_,h,λ A' hA R' K'=>?_⟩;unfold B6;rw[ho,hod];simp only[hx,Hva hA hy,hbs]
 ·cases h
def Rwa (hF:∀ p∈rds A o,p∈F) (h:B6 E o A Kc=some r):Loc E o A F Kc r:=by
 have hD3:∀ d,o.dst=some d→d∈F∧H d∈F∧H (2000+d)∈F:=λ d hd=>by
  unfold rds at hF;rw[hd]at hF;exact⟨hF d (by simp[rdD]),hF (H d) (by simp[rdD]),hF (H (2000+d)) (by simp[rdD])⟩
 have hD:∀ d,o.dst=some d→d∈F∧H d∈F:=λ d hd=>⟨(hD3 d hd).1,(hD3 d hd).2.1⟩;have hO:∀ p∈Ysa A o.op,p∈F:=λ p hp=>hF p (by unfold rds;exact Vn _ hp);have hX:Ysa A o.op=Tya A (Iq o.op)→∀ x∈Iq o.op,RX A F x:=λ e=>Ffa (by rw[← e];exact hO)
 cases ho:o.op with
 |call c=>
  have hOc:∀ p∈Tya A (Iq (.call c))++Vpa A c.args.toList,p∈F:=λ p hp=>hO p (by rw[ho];exact hp);have hx:=Ffa (λ p hp=>hOc p (Vy _ hp));have hvv:=Nga (A:=A) (F:=F) (xs:=c.args.toList) (λ p hp=>hOc p (Vn _ hp))
  have hxs:(∀ y,c.callee = .value y→RX A F y)∧∀ x∈c.args.toList,RX A F x:=by
   unfold Iq at hx;simp only at hx;split at hx
   ·rename_i y hy;exact⟨λ z hz=>by rw[hy]at hz;cases hz;exact hx y (by simp),λ x hm=>hx x (Vd _ hm)⟩
   ·rename_i hno;exact⟨λ z hz=>absurd hz (hno z),hx⟩
  have hcv:=hxs.1
  replace hx:=hxs.2
  cases hc:c.callee with
  |builtin b=>
   cases b with
   |len=>exact Wpa ho hc hx h
   |min=>exact Wqa ho hc hx h
   |max=>exact Wra ho hc hx h
   |append=>exact K2a ho hc hx h
   |_=>unfold B6 at h;rw[ho]at h;simp only[hc]at h;cases h
  |value f=>
   cases f with
   |func f=>exact Nha ho hc (λ d hd=>(hD d hd).2) hx hvv h
   |tmp t=>exact Nia ho hc (λ d hd=>(hD d hd).2) (hcv _ hc) hx hvv h
   |_=>unfold B6 at h;rw[ho]at h;simp only[hc]at h;cases h
  |invoke x m=>unfold B6 at h;rw[ho]at h;simp only[hc]at h;cases h
 |store T x y=>
  have hx:=hX (by rw[ho];rfl);rw[ho]at hx
  cases hod:o.dst with
  |none=>exact N5a ho hod (hx x (by simp[Iq])) (hx y (by simp[Iq])) h
  |some d=>unfold B6 at h;rw[ho,hod]at h;cases h
 |move x=>cases hod:o.dst with
  |none=>unfold B6 at h;rw[ho,hod]at h;cases h
  |some d=>
   refine Rra ho hod (λ t e=>?_) h;subst e;exact hO t (by rw[ho];simp[Ysa,rdT])
 |assign x=>cases hod:o.dst with
  |none=>unfold B6 at h;rw[ho,hod]at h;cases h
  |some d=>
   have hx:=hX (by rw[ho];rfl);rw[ho]at hx;exact K1a ho hod (hx x (by simp[Iq])) h
 |pick c x y=>cases hod:o.dst with
  |none=>unfold B6 at h;rw[ho,hod]at h;cases h
  |some d=>
   have hx:=hX (by rw[ho];rfl);rw[ho]at hx;exact Rsa ho hod (hx c (by simp[Iq])) (hx x (by simp[Iq])) (hx y (by simp[Iq])) h
 |binOp op T x y T'=>cases hod:o.dst with
  |none=>unfold B6 at h;rw[ho,hod]at h;cases h
  |some d=>
   have hx:=hX (by rw[ho];rfl);rw[ho]at hx;exact N1a ho hod (hx x (by simp[Iq])) (hx y (by simp[Iq])) h
 |unOp op T x=>cases hod:o.dst with
  |none=>unfold B6 at h;rw[ho,hod]at h;cases h
  |some d=>
   have hx:=hX (by rw[ho];rfl);rw[ho]at hx;exact Rqa ho hod (hx x (by simp[Iq])) h
 |convert T T' x=>cases hod:o.dst with
  |none=>unfold B6 at h;rw[ho,hod]at h;cases h
  |some d=>
   have hx:=hX (by rw[ho];rfl);rw[ho]at hx;exact Fia ho hod (hx x (by simp[Iq])) h
 |nilCheck x=>cases hod:o.dst with
  |none=>unfold B6 at h;rw[ho,hod]at h;cases h
  |some d=>exact Cra ho hod (U9a (λ p hp=>hO p (by rw[ho];exact hp))) h
 |extract x j=>cases hod:o.dst with
  |none=>unfold B6 at h;rw[ho,hod]at h;cases x<;>cases h
  |some d=>cases x with
   |tmp t=>
    have hx:=hX (by rw[ho];rfl);rw[ho]at hx;exact Fja ho hod (hx (.tmp t) (by simp[Iq])).1 h
   |_=>unfold B6 at h;rw[ho,hod]at h;cases h
 |field T x j=>cases hod:o.dst with
  |none=>unfold B6 at h;rw[ho,hod]at h;cases x<;>cases h
  |some d=>cases x with
   |tmp t=>
    have hx:=hX (by rw[ho];rfl);rw[ho]at hx;exact N2a ho hod (hx (.tmp t) (by simp[Iq])).1 h
   |_=>unfold B6 at h;rw[ho,hod]at h;cases h
 |build T ps=>cases hod:o.dst with
  |none=>unfold B6 at h;rw[ho,hod]at h;cases h
  |some d=>
   have hx:=hX (by rw[ho];rfl);rw[ho]at hx;exact Nca ho hod (λ p hp=>hx p.2 (Ym hp)) h
 |alloc T=>cases hod:o.dst with
  |none=>unfold B6 at h;rw[ho,hod]at h;cases h
  |some d=>exact N3a ho hod (hD d hod).2 h
 |box T x=>cases hod:o.dst with
  |none=>unfold B6 at h;rw[ho,hod]at h;cases h
  |some d=>
   have hx:=hX (by rw[ho];rfl);rw[ho]at hx;exact Wna ho hod (hD d hod).2 (hx x (by simp[Iq])) h
 |load T x=>cases hod:o.dst with
  |none=>unfold B6 at h;rw[ho,hod]at h;cases h
  |some d=>
   have hx:=hX (by rw[ho];rfl);rw[ho]at hx;exact Rta ho hod (hx x (by simp[Iq])) h
 |fieldAddr T x j=>cases hod:o.dst with
  |none=>unfold B6 at h;rw[ho,hod]at h;cases h
  |some d=>exact Aea ho hod (U9a (λ p hp=>hO p (by rw[ho];exact hp))) h
 |indexAddr T x i=>cases hod:o.dst with
  |none=>unfold B6 at h;rw[ho,hod]at h;cases h
  |some d=>
   have hx:=hX (by rw[ho];rfl);rw[ho]at hx
   cases hop:E.opn d with
   |true=>exact Afa ho hod hop (hD3 d hod).2.2 (hx x (by simp[Iq])) (hx i (by simp[Iq])) h
   |false=>exact Aga ho hod hop (hx x (by simp[Iq])) (hx i (by simp[Iq])) h
 |index T x i=>cases hod:o.dst with
  |none=>unfold B6 at h;rw[ho,hod]at h;cases h
  |some d=>
   have hx:=hX (by rw[ho];rfl);rw[ho]at hx;exact N7a ho hod (hx x (by simp[Iq])) (hx i (by simp[Iq])) h
 |slice T x lo hi mx=>cases hod:o.dst with
  |none=>unfold B6 at h;rw[ho,hod]at h;cases mx<;>cases h
  |some d=>cases mx with
   |none=>
    have hx:=hX (by rw[ho];rfl);rw[ho]at hx;exact N8a ho hod (hx x (by simp[Iq])) (λ y hy=>hx y (by simp[Iq,hy])) (λ y hy=>hx y (by simp[Iq,hy])) h
   |some m=>unfold B6 at h;rw[ho,hod]at h;cases h
 |buildSlice T n ps=>cases hod:o.dst with
  |none=>unfold B6 at h;rw[ho,hod]at h;cases h
  |some d=>
   have hx:=hX (by rw[ho];rfl);rw[ho]at hx;exact Ws ho hod (λ p hp=>hx p.2 (Ym hp)) h
 |makeSlice T x y=>cases hod:o.dst with
  |none=>unfold B6 at h;rw[ho,hod]at h;cases h
  |some d=>
   have hx:=hX (by rw[ho];rfl);rw[ho]at hx;exact Aha ho hod (hx x (by simp[Iq])) (hx y (by simp[Iq])) h
 |makeFunc fn x y=>
  cases fn with
  |func f=>cases hod:o.dst with
   |none=>unfold B6 at h;rw[ho,hod]at h;cases h
   |some d=>
    have hx:=hX (by rw[ho];rfl);rw[ho]at hx;exact Cva ho hod (λ z hz=>hx z (by simp only[Iq];exact Vn _ hz)) h
  |_=>unfold B6 at h;rw[ho]at h;cases hod:o.dst<;>(rw[hod]at h;cases h)
 |_=>unfold B6 at h;rw[ho]at h;cases hod:o.dst<;>(rw[hod]at h;cases h)
end
end

section
attribute [local irreducible] C H
abbrev Gs:=Nat→Nat×Sv
def gup (g:Gs) (u:Up):Gs:=λ p=>if p=u.l then ((bif u.keep then (g u.l).1 else (g u.l).1+1),u.s) else g p
def Fna (g:Gs):List Up→Gs
 |[]=>g
 |u::U=>Fna (gup g u) U
def Ot:∀ (U:List Up) (A:Ab),get (ups A U)=Fna (get A) U
 |[],_=>rfl
 |u::U,A=>by
  show get (ups (up A u) U)=Fna (gup (get A) u) U;rw[Ot U (up A u)];congr 1;funext p;exact Ub A u p
def Qh:∀ (U:List Up) (g:Gs) (p:Nat),p∉U.map Up.l→Fna g U p=g p
 |[],_,_,_=>rfl
 |u::U,g,p,h=>by
  simp only[Ya,Vk,not_or]at h;show Fna (gup g u) U p=g p;rw[Qh U _ p h.2];exact if_neg h.1
def Qi:∀ (U:List Up) (g g':Gs) (p:Nat),g p=g' p→Fna g U p=Fna g' U p
 |[],_,_,_,h=>h
 |u::U,g,g',p,h=>by
  refine Qi U (gup g u) (gup g' u) p ?_;unfold gup
  by_cases e:p=u.l
  ·subst e;rw[if_pos rfl,if_pos rfl,h]
  ·rw[if_neg e,if_neg e,h]
structure Ak where
 N:Gs→Prop
 e:Gs→Gs
def Ind (x y:Ak):Prop:=(∀ g,x.N g→y.N (x.e g)→y.N g)∧(∀ g,y.N g→x.N g→x.N (y.e g))∧(∀ g,x.N g→y.N g→x.e (y.e g)=y.e (x.e g))
def Uba:List Ak→Gs→Gs→Prop
 |[],g,f=>g=f
 |x::L,g,f=>x.N g∧Uba L (x.e g) f
def Uba.front {y:Ak} {L2:List Ak}:∀ {L1:List Ak} {g f:Gs},(∀ x∈L1,Ind x y)→Uba (L1++y::L2) g f→y.N g∧Uba (L1++L2) (y.e g) f
 |[],g,f,_,h=>h
 |x::L1,g,f,hi,h=>by
  obtain⟨h1,h2⟩:=h;obtain⟨h3,h4⟩:=Uba.front (λ z hz=>hi z (Vd _ hz)) h2;obtain⟨i1,i2,i3⟩:=hi x (by simp);have hy:=i1 g h1 h3;exact⟨hy,i2 g hy h1,by rw[i3 g h1 hy];exact h4⟩
inductive Anc (ops:Array Oper):Nat→Nat→Prop
 |dir {i j:Nat} {o:Oper} (h:ops[i]? = some o) (hj:j∈aft o):Anc ops j i
 |tr {i j k:Nat} {o:Oper} (h:ops[i]? = some o) (hk:k∈aft o) (ha:Anc ops j k):Anc ops j i
def Nja {o:Oper} {j:Nat}:j∈aft o↔∃ e∈o.after,Region.binds .any e=true∧e.on=j:=by
 unfold aft;rw[List.mem_filterMap];constructor
 ·rintro⟨e,he,h⟩;cases hb:Region.binds .any e
  ·rw[hb]at h;simp at h
  rw[hb]at h;simp only[cond_true,Vc]at h;exact⟨e,by simpa using he,hb,h⟩
 ·rintro⟨e,he,hb,h⟩;exact⟨e,by simpa using he,by rw[hb];simp[h]⟩
section
variable {X:Cx} {E:En} {ops:Array Oper} {Q:Exit→Act→World→Prop}
def Yla (X:Cx) (ops:Array Oper) (Q:Exit→Act→World→Prop) (i:Nat) (x:Ak):Prop:=
 ∀ (S:Sit) (a:Act) (A:Ab),Bd X S a→S.g=get A→x.N (get A)→∀ K:Act→World→Prop,(∀ S' a' A',Bd X S' a'→S'.g=get A'→get A'=x.e (get A)→K a' S'.w)→wpOp X.P ops Q i K a S.w
def K5a {listed:Array Bool} (hd:∀ i o,ops[i]? = some o→listed.getD i false=true→∀ j∈aft o,listed.getD j false=true) {i j:Nat} (h:Anc ops j i):listed.getD i false=true→listed.getD j false=true:=by
 induction h with
 |dir h hj=>exact λ hi=>hd _ _ h hi _ hj
 |tr h hk _ ih=>exact λ hi=>ih (hd _ _ h hi _ hk)
def Foa {listed:Array Bool} {i:Nat} (hi:i<listed.size):listed.getD i true=listed.getD i false:=by
 simp[Yi,hi]
def Uca (hlt:∀ i o,ops[i]? = some o→∀ j∈aft o,j<i) {f:Gs} (hQ:∀ S a A,Bd X S a→S.g=get A→get A=f→Q .normal a S.w):
  ∀ (fuel:Nat) (L:List (Nat×Ak)) (listed:Array Bool) (S:Sit) (a:Act) (A:Ab),L.length=fuel→listed.size=ops.size→L.Pairwise (λ x y=>x.1<y.1)→(∀ i,i<ops.size→(listed.getD i false=false↔∃ x∈L,x.1=i))→
   L.Pairwise (λ x y=>Anc ops x.1 y.1∨Ind x.2 y.2)→(∀ x∈L,Yla X ops Q x.1 x.2)→(∀ x∈L,x.1<ops.size)→
   (∀ i o,ops[i]? = some o→listed.getD i false=true→∀ j∈aft o,listed.getD j false=true)→
   Bd X S a→S.g=get A→Uba (L.map Prod.snd) (get A) f→wpAny X.P .any ops Q fuel listed a S.w
 |0,L,listed,S,a,A,hlen,hsz,hs,hl,hi,ho,hb,hd,K,hg,hr=>by
  have:L=[]:=Wl hlen;subst this;refine⟨?_,hQ S a A K hg hr⟩;rw[Ejb];intro i hm;obtain⟨h1,o,h2,_⟩:=mem_ready.1 hm;have hlt2:i<ops.size:=(Zt.1 h2).1;rw[Foa (by omega)]at h1;obtain⟨x,hx,_⟩:=(hl i hlt2).1 h1;simp at hx
 |fuel+1,L,listed,S,a,A,hlen,hsz,hs,hl,hi,ho,hb,hd,K,hg,hr=>by
  cases L with
  |nil=>simp at hlen
  |cons x0 L0=>
   refine⟨λ h0=>?_,λ i hm=>?_⟩
   ·exfalso;have hx0:=hb x0 (by simp);obtain⟨o,h2⟩:∃ o,ops[x0.1]? = some o:=⟨_,Dbb hx0⟩;have hu:=(hl x0.1 hx0).2 ⟨x0,by simp,rfl⟩
    have:x0.1∈Region.ready .any ops listed:=by
     refine mem_ready.2 ⟨by rw[Foa (by omega)];exact hu,o,h2,λ e he hbe=>?_⟩;have hj:=hlt _ _ h2 e.on (Nja.2 ⟨e,he,hbe,rfl⟩);cases hc:listed.getD e.on false
     case true=>rfl
     obtain⟨y,hy,hye⟩:=(hl e.on (by omega)).1 hc;rcases Vk.1 hy with rfl|hy
     ·omega
     ·have:=(Wa.1 hs).1 y hy;omega
    rw[h0]at this;simp at this
   ·obtain⟨h1,o,h2,h3⟩:=mem_ready.1 hm;have hil:i<ops.size:=(Zt.1 h2).1;rw[Foa (by omega)]at h1;obtain⟨y,hy,hyi⟩:=(hl i hil).1 h1;obtain⟨L1,L2,hL⟩:=List.append_of_mem hy
    have haft:∀ j∈aft o,listed.getD j false=true:=λ j hj=>by
     obtain⟨e,he,hbe,rfl⟩:=Nja.1 hj;exact h3 e he hbe
    have hanc:∀ j,Anc ops j i→listed.getD j false=true:=by
     intro j hj
     cases hj with
     |dir h hj=>rw[h2]at h;cases h;exact haft _ hj
     |tr h hk ha=>rw[h2]at h;cases h;exact K5a hd ha (haft _ hk)
    rw[hL]at hs hl hi ho hb hr hlen;rw[Zg]at hs hi;obtain⟨s1,s2,s3⟩:=hs;obtain⟨i1,i2,i3⟩:=hi;rw[Wa]at s2 i2
    have hind:∀ x∈L1,Ind x.2 y.2:=by
     intro x hx;rcases i3 x hx y (by simp) with h|h
     ·exfalso;have h4:=hanc x.1 (by rw[← hyi];exact h);have h5:=(hl x.1 (hb x (by simp[hx]))).2 ⟨x,by simp[hx],rfl⟩;rw[h4]at h5;cases h5
     ·exact h
    rw[D2b,Ya]at hr;obtain⟨hN,hr2⟩:=Uba.front (λ z hz=>by obtain⟨x,hx,rfl⟩:=Yt.1 hz;exact hind x hx) hr;rw[← D2b]at hr2;subst hyi;refine ho y (by simp) S a A K hg hN _ (λ S' a' A' K' g' e'=>?_)
    refine Uca hlt hQ fuel (L1++L2) (listed.setIfInBounds y.1 true) S' a' A' (by simp at hlen ⊢;omega) (by simpa using hsz) ?_ ?_ ?_ (λ x hx=>ho x (by rcases Vm.1 hx with h|h<;>simp[h])) (λ x hx=>hb x (by rcases Vm.1 hx with h|h<;>simp[h])) ?_ K' g' (by rw[e'];exact hr2)
    ·exact Zg.2 ⟨s1,s2.2,λ x hx z hz=>s3 x hx z (Vd _ hz)⟩
    ·intro k hk
     by_cases hky:k=y.1
     ·subst hky
      have e1:(listed.setIfInBounds y.1 true).getD y.1 false=true:=by simp[Yi,hsz,hk]
      rw[e1];constructor
      ·intro h;cases h
      ·rintro⟨x,hx,hxe⟩;exfalso;rcases Vm.1 hx with h|h
       ·have:=s3 x h y (by simp);omega
       ·have:=s2.1 x h;omega
     ·rw[getD_set_ne false (E1b hky),hl k hk];constructor
      ·rintro⟨x,hx,hxe⟩;refine⟨x,?_,hxe⟩;rcases Vm.1 hx with h|h
       ·exact Vy _ h
       ·rcases Vk.1 h with rfl|h
        ·exact(hky hxe.symm).elim
        ·exact Vn _ h
      ·rintro⟨x,hx,hxe⟩
       exact⟨x,by rcases Vm.1 hx with h|h<;>simp[h],hxe⟩
    ·exact Zg.2 ⟨i1,i2.2,λ x hx z hz=>i3 x hx z (Vd _ hz)⟩
    ·intro k o' hk hkl j hj
     by_cases hky:k=y.1
     ·subst hky;rw[h2]at hk;cases hk;exact getD_set_true (haft j hj)
     ·rw[getD_set_ne false (E1b hky)]at hkl;exact getD_set_true (hd k o' hk hkl j hj)
end
end

section
attribute [local irreducible] C H
def Aia {p:Nat}:∀ {l:List Nat},Yfa p l=true↔p∈l
 |[]=>by simp[Yfa]
 |q::l=>by
  simp only[Yfa,Zw,Vk,Aia (l:=l)];constructor
  ·rintro (h|h)
   ·exact .inl (Ve h).symm
   ·exact .inr h
  ·rintro (rfl|h)
   ·exact .inl (by simp)
   ·exact .inr h
def Aja {m:List Nat}:∀ {l:List Nat},Yga l m=true↔∀ p∈l,p∉m
 |[]=>by simp[Yga]
 |q::l=>by
  simp only[Yga,Va,Wb,Vk,Aja (l:=l)];constructor
  ·rintro⟨h1,h2⟩ p (rfl|h) hm
   ·rw[Aia.2 hm]at h1;cases h1
   ·exact h2 p h hm
  ·intro h;refine⟨?_,λ p hp=>h p (.inr hp)⟩
   cases hc:Yfa q m with
   |false=>rfl
   |true=>exact(h q (.inl rfl) (Aia.1 hc)).elim
def Wsa (s:Sv) (j:Nat):Sv:=match s with
 |.tup vs => .tup (vs.set j (false,[.dead]))
 |s=>s
structure Ext (x:Ak) (t j d:Nat):Prop where
 N:∃ ag l,∀ g,x.N g↔∃ vs,(g t).2 = .tup vs∧nth vs j=some (ag,l)
 e:d≠t→∃ (w:Bool) (s:Sv),∀ g p,x.e g p=if p=d then ((g p).1+1,s) else if w=true∧p=t then ((g p).1+1,Wsa (g p).2 j) else g p
structure Aka (y:Lg) (x:Ak):Prop where
 WF:∀ p∈y.W,p∈y.F
 N:∀ g g',(∀ p∈y.F,g p=g' p)→x.N g→x.N g'
 out:∀ g p,p∉y.W→x.e g p=g p
 loc:∀ g g' p,p∈y.W→g p=g' p→x.e g p=x.e g' p
 ex:∀ t j d,y.ex=some (t,j,d)→Ext x t j d
def Aka.ind {y y':Lg} {x x':Ak} (h:Aka y x) (h':Aka y' x') (hi:Lea y y'=true):Ind x x':=by
 unfold Lea at hi;simp only[Zw,Va]at hi;rcases hi with⟨d1,d2⟩|hi
 ·have d1:=Aja.1 d1;have d2:=Aja.1 d2;have o1:∀ g,∀ p∈y'.F,x.e g p=g p:=λ g p hp=>h.out g p (λ hw=>d1 p hw hp);have o2:∀ g,∀ p∈y.F,x'.e g p=g p:=λ g p hp=>h'.out g p (λ hw=>d2 p hw hp);refine⟨λ g _ hn=>h'.N _ _ (o1 g) hn,λ g _ hn=>h.N _ _ (λ p hp=>(o2 g p hp).symm) hn,λ g _ _=>?_⟩;funext p
  by_cases hp:p∈y.W
  ·have hp':p∉y'.W:=λ hw=>d2 p hw (h.WF p hp);rw[h'.out (x.e g) p hp',h.loc (x'.e g) g p hp (o2 g p (h.WF p hp))]
  ·rw[h.out (x'.e g) p hp]
   by_cases hp':p∈y'.W
   ·exact h'.loc g (x.e g) p hp' (o1 g p (h'.WF p hp')).symm
   ·rw[h'.out _ p hp',h'.out _ p hp',h.out _ p hp]
 ·split at hi
  ·rename_i t j d t' j' d' e1 e2;simp only[Va,Wb]at hi;obtain⟨⟨⟨⟨q1,q2⟩,q3⟩,q4⟩,q5⟩:=hi;have ht:t=t':=Ve q1;subst ht
   have hj:j≠j':=λ e=>by subst e;simp at q2
   have hd:d≠d':=λ e=>by subst e;simp at q3
   have hdt:d≠t:=λ e=>by subst e;simp at q4
   have hdt':d'≠t:=λ e=>by subst e;simp at q5
   obtain⟨⟨ag,l,hN⟩,he⟩:=h.ex t j d e1;obtain⟨⟨ag',l',hN'⟩,he'⟩:=h'.ex t j' d' e2;obtain⟨w,s,he⟩:=he hdt;obtain⟨w',s',he'⟩:=he' hdt'
   have et:∀ g,(x.e g t).2=if w=true then Wsa (g t).2 j else (g t).2:=λ g=>by
    rw[he,if_neg (E1b hdt)]
    cases w<;>simp
   have et':∀ g,(x'.e g t).2=if w'=true then Wsa (g t).2 j' else (g t).2:=λ g=>by
    rw[he',if_neg (E1b hdt')]
    cases w'<;>simp
   refine⟨λ g hn hn'=>?_,λ g hn' hn=>?_,λ g hn hn'=>?_⟩
   ·obtain⟨vs,g1,g2⟩:=(hN g).1 hn;obtain⟨vs',g1',g2'⟩:=(hN' _).1 hn';refine(hN' g).2 ⟨vs,g1,?_⟩;rw[et,g1]at g1'
    cases w with
    |false=>
     simp only[Wq,if_false,Sv.tup.injEq]at g1';rw[g1'];exact g2'
    |true=>
     simp only[if_true,Wsa,Sv.tup.injEq]at g1';rw[← g1',Ht,Dwb hj]at g2';rw[Ht];exact g2'
   ·obtain⟨vs,g1,g2⟩:=(hN g).1 hn;refine(hN _).2 ?_;cases w'
    ·exact⟨vs,by rw[et',g1];simp,g2⟩
    refine⟨vs.set j' (false,[.dead]),by rw[et',g1];simp[Wsa],?_⟩;rw[Ht,Dwb (E1b hj),← Ht];exact g2
   ·funext p
    by_cases p1:p=d
    ·subst p1;simp[he,he',hd,hdt]
    ·by_cases p2:p=d'
     ·subst p2;simp[he,he',p1,hdt']
     ·by_cases p3:p=t
      ·subst p3;obtain⟨vs,g1,g2⟩:=(hN g).1 hn
       cases w<;>cases w'<;>simp[he,he',p1,p2,g1,Wsa]
       exact List.set_comm _ _ (E1b hj)
      ·simp[he,he',p1,p2,p3]
  ·cases hi
def Hxa {ops:Array Oper}:∀ {lg:List Lg},(∀ y∈lg,∀ k,Nat.testBit y.anc k=true→Anc ops k y.i)→∀ j k,Nat.testBit (Lfa lg j) k=true→Anc ops k j
 |[],_,j,k,h=>by simp[Lfa]at h
 |y::lg,hl,j,k,h=>by
  unfold Lfa at h
  cases hb:Nat.beq y.i j with
  |true=>
   rw[hb,cond_true]at h;rw[← Ve hb];exact hl y (by simp) k h
  |false=>
   rw[hb,cond_false]at h;exact Hxa (λ z hz=>hl z (Vd _ hz)) j k h
def Nka {ops:Array Oper} {lg:List Lg} (hl:∀ y∈lg,∀ k,Nat.testBit y.anc k=true→Anc ops k y.i) {i:Nat} {o:Oper} (ho:ops[i]? = some o):∀ {l:List Nat},(∀ j∈l,j∈aft o)→∀ k,Nat.testBit (Tza lg l) k=true→Anc ops k i
 |[],_,k,h=>by simp[Tza]at h
 |j::l,hj,k,h=>by
  unfold Tza at h;simp only[Nat.testBit_or,Zw]at h;rcases h with (h|h)|h
  ·rw[Nat.testBit_two_pow]at h;simp only[decide_eq_true_eq]at h;subst h;exact .dir ho (hj _ (by simp))
  ·exact .tr ho (hj j (by simp)) (Hxa hl j k h)
  ·exact Nka hl ho (λ m hm=>hj m (Vd _ hm)) k h
section
variable {X:Cx} {E:En} {ops:Array Oper} {Q:Exit→Act→World→Prop}
def Hya {S:Sit} {a:Act} (hE:Iu X E) (hK:Bd X S a) {o:Oper} {j dj:Nat} {want:Bool} (hgd:o.guard=some (j,want)) (hdj:Lda ops.toList j=some dj) (hb:Nat.blt dj E.nt=true):
  (∀ b,(S.g dj).2 = .one (.sc (.bool b))→Region.wanted o (yielded ops a.tmps)=(b==want))∧((S.g dj).2 = .one .un→Region.wanted o (yielded ops a.tmps)=false):=by
 have hdj':(ops[j]?).bind (·.dst)=some dj:=by
  unfold Lda at hdj;rw[Ht]at hdj
  have:ops.toList[j]? = ops[j]? := by simp
  rw[this]at hdj
  cases hj:ops[j]? with
  |none=>rw[hj]at hdj;cases hdj
  |some oj=>rw[hj]at hdj;simpa using hdj
 have hjl:dj<X.nt:=hE.nt ▸ (Vl hb:dj+1≤E.nt)
 have htm:a.tmps[dj]? = some (S.ph dj):=by
  have h1:=hK.sl dj hjl
  have h2:dj<a.tmps.size:=by rw[hK.sz];exact hjl
  rw[← h1,Yi,Dbb h2];rfl
 have hy:yielded ops a.tmps j=(match S.ph dj with | .bool b=>some b|_=>none):=by
  unfold yielded;rw[hdj',Vt,htm]
  cases S.ph dj<;>rfl
 have hwd:Region.wanted o (yielded ops a.tmps)=((match S.ph dj with | .bool b=>some b|_=>none)==some want):=by
  unfold Region.wanted;rw[hgd];simp only;rw[hy]
 have hat:=hK.at_ dj;constructor
 ·intro b hs;rw[hs]at hat;have hph:S.ph dj = .bool b:=hat.1;rw[hwd,hph]
  cases b<;>cases want<;>rfl
 ·intro hs;rw[hs]at hat;have hph:S.ph dj=undef:=hat;rw[hwd,hph];simp[undef]
def Bdb (F:List Nat) (A:Ab) (U:List Up):Ak:=⟨λ g=>∀ p∈F,g p=get A p,λ g=>Fna g U⟩
def Nla {y:Lg} {A:Ab} {U:List Up} {F:List Nat} (hF:y.F=F++U.map Up.l) (hW:y.W=U.map Up.l) (hex:y.ex=none):Aka y (Bdb y.F A U):=by
 refine⟨λ p hp=>?_,λ g g' h hn p hp=>by rw[← h p hp];exact hn p hp,λ g p hp=>Qh U g p (by rw[← hW];exact hp),λ g g' p _ h=>Qi U g g' p h,λ t j d h=>by rw[hex]at h;cases h⟩;rw[hF,Vm];exact .inr (by rw[← hW];exact hp)
def Zna (hV:U8 X E) {i:Nat} {o:Oper} (hi:ops[i]? = some o) (hd:Bra E o=true) {x:Ak} (hw:∀ S a,Bd X S a→x.N S.g→Region.wanted o (yielded ops a.tmps)=true)
  (hU:∀ A',x.N (get A')→∃ U,B6 E o A' some=some U∧Fna (get A') U=x.e (get A')):Yla X ops Q i x:=by
 intro S a A' K hg hn Kn hk
 have hdl:∀ d,o.dst=some d→d<X.nt:=λ d hod=>by
  unfold Bra at hd;rw[hod]at hd;exact hV.en.nt ▸ (Vl hd:d+1≤E.nt)
 obtain⟨U,hU1,hU2⟩:=hU A' hn;obtain⟨U',hU',hgo⟩:=Mma hV K hg hdl hU1;simp only[Vc]at hU';subst hU';unfold wpOp;rw[hi];simp only;rw[if_pos (hw S a K (by rw[hg];exact hn))];exact .inl (hgo _ _ (λ S' a' K' g'=>hk S' a' _ K' g' ((Ot U' A').trans hU2)))
def Wta (hV:U8 X E) {i:Nat} {o:Oper} (hi:ops[i]? = some o) (hd:Bra E o=true) {N:Gs→Prop} (hw:∀ S a,Bd X S a→N S.g→Region.wanted o (yielded ops a.tmps)=false):
  Yla X ops Q i ⟨N,λ g=>Fna g (match o.dst with|some d=>[⟨d,false,.one .un⟩]|none=>[])⟩:=by
 intro S a A' K hg hn Kn hk;unfold wpOp;rw[hi];simp only;rw[if_neg (by rw[hw S a K (by rw[hg];exact hn)];decide)];obtain⟨S',K',g',w'⟩:=U6a hV.en K hg hd;rw[← w'];refine hk S' _ _ K' g' ?_;unfold Q2
 cases o.dst with
 |none=>rfl
 |some d=>exact Ot [⟨d,false,.one .un⟩] A'
def Hza (t j d:Nat) (l:List Lf) (s:Sv) (vs:List (Bool×List Lf)):List Up:=bif Fk l then [⟨t,false,.tup (vs.set j (false,[.dead]))⟩,⟨d,false,s⟩] else [⟨d,false,s⟩]
def Rxa {R:Type} {Kc:List Up→Option R} {r:R} {A:Ab} {o:Oper} {t j d:Nat} (ho:o.op = .extract (.tmp t) j) (hod:o.dst=some d) (h:B6 E o A Kc=some r):
  ∃ vs ag l s,(get A t).2 = .tup vs∧nth vs j=some (ag,l)∧Kc (Hza t j d l s vs)=some r∧∀ A' vs',(get A' t).2 = .tup vs'→nth vs' j=some (ag,l)→B6 E o A' some=some (Hza t j d l s vs'):=by
 unfold B6 at h;rw[ho,hod]at h;simp only at h;cases hb:Nat.blt t E.nt
 ·rw[hb]at h;simp at h
 rw[hb,cond_true]at h;split at h
 ·rename_i vs hg;split at h
  ·rename_i ag l hn;split at h
   ·rename_i s hs;refine⟨vs,ag,l,s,hg,hn,?_,λ A' vs' hg' hn'=>?_⟩
    ·rw[← h];unfold Hza
     cases Fk l<;>rfl
    ·unfold B6;rw[ho,hod];simp only[hb,cond_true,hg',hn',hs];unfold Hza
     cases Fk l<;>rfl
   ·cases h
  ·cases h
 ·cases h
def Fpa (t j d:Nat) (ag:Bool) (l:List Lf) (s:Sv):Ak:=
 ⟨λ g=>∃ vs,(g t).2 = .tup vs∧nth vs j=some (ag,l),λ g=>Fna g (bif Fk l then [⟨t,false,Wsa (g t).2 j⟩,⟨d,false,s⟩] else [⟨d,false,s⟩])⟩
def Rya {o:Oper} {i:Nat} {lg:List Lg} {A:Ab} {t j d:Nat} {ag:Bool} {l:List Lf} {s:Sv} {vs:List (Bool×List Lf)} (ho:o.op = .extract (.tmp t) j) (hod:o.dst=some d):
  Aka (X5 o i lg [] A (Hza t j d l s vs)) (Fpa t j d ag l s):=by
 have ht:t∈(X5 o i lg [] A (Hza t j d l s vs)).F:=by
  show t∈[]++rds A o++_;simp[rds,Ysa,ho,Iq,Tya,rdO]
 have hW:(X5 o i lg [] A (Hza t j d l s vs)).W=bif Fk l then [t,d] else [d]:=by
  show (Hza t j d l s vs).map Up.l=_;unfold Hza
  cases Fk l<;>rfl
 refine⟨λ p hp=>Vn _ hp,λ g g' hF hn=>?_,λ g p hp=>?_,λ g g' p hp h=>?_,λ t' j' d' h=>?_⟩
 ·obtain⟨vs',h1,h2⟩:=hn;exact⟨vs',by rw[← hF t ht];exact h1,h2⟩
 ·rw[hW]at hp;unfold Fpa
  cases hl:Fk l with
  |true=>
   rw[hl]at hp;exact Qh _ _ _ hp
  |false=>
   rw[hl]at hp;exact Qh _ _ _ hp
 ·rw[hW]at hp;unfold Fpa;cases hl:Fk l
  ·exact Qi _ _ _ p h
  rw[hl]at hp;simp only[cond_true];show gup (gup g _) _ p=gup (gup g' _) _ p;unfold gup
  by_cases e1:p=d
  ·subst e1
   by_cases e2:p=t
   ·subst e2;simp[h]
   ·simp[e2,h]
  ·rcases Vk.1 hp with e2|e2
   ·subst e2;simp[e1,h]
   ·exact(e1 (by simpa using e2)).elim
 ·have hex:(X5 o i lg [] A (Hza t j d l s vs)).ex=some (t,j,d):=by
   show (bif List.isEmpty ([]:List Nat) then Yta o else none)=_;simp[Yta,ho,hod]
  rw[hex]at h;cases h;refine⟨⟨ag,l,λ g=>F5b⟩,λ hdt=>⟨Fk l,s,λ g p=>?_⟩⟩;unfold Fpa
  cases hl:Fk l with
  |false=>
   show gup g _ p=_;unfold gup
   by_cases e1:p=d
   ·subst e1;simp
   ·simp[e1]
  |true=>
   simp only[cond_true];show gup (gup g _) _ p=_;unfold gup
   by_cases e1:p=d
   ·subst e1;simp[hdt]
   ·simp[e1]
    by_cases e2:p=t
    ·subst e2;simp
    ·simp[e2]
end
end

section
attribute [local irreducible] C H
section
variable {X:Cx} {E:En} {ops:Array Oper} {Q:Exit→Act→World→Prop}
structure Uda (X:Cx) (ops:Array Oper) (Q:Exit→Act→World→Prop) (l:List Nat) (lg:List Lg) (g:Gs) (f:Gs) (L:List (Lg×Ak)):Prop where
 ix:L.map (λ z=>z.1.i)=l
 runs:Uba (L.map Prod.snd) g f
 fits:∀ z∈L,Aka z.1 z.2∧Yla X ops Q z.1.i z.2
 old:∀ y∈lg,∀ z∈L,Nat.testBit z.1.anc y.i=true∨Lea y z.1=true
 pair:L.Pairwise (λ y z=>Nat.testBit z.1.anc y.1.i=true∨Lea y.1 z.1=true)
 anc:∀ z∈L,∀ k,Nat.testBit z.1.anc k=true→Anc ops k z.1.i
 lt:∀ i∈l,∃ o,ops[i]? = some o∧∀ j∈aft o,j<i
def Uda.cons {l:List Nat} {lg:List Lg} {g g1 f:Gs} {L:List (Lg×Ak)} {y:Lg} {x:Ak} {i:Nat} (h:Uda X ops Q l (y::lg) g1 f L) (hi:y.i=i) (hn:x.N g) (he:x.e g=g1) (hf:Aka y x) (ho:Yla X ops Q i x) (hok:Lga lg y=true)
  (ha:∀ k,Nat.testBit y.anc k=true→Anc ops k i) (hl:∃ o,ops[i]? = some o∧∀ j∈aft o,j<i):Uda X ops Q (i::l) lg g f ((y,x)::L):=by
 refine⟨by simp[hi,h.ix],⟨hn,by rw[he];exact h.runs⟩,?_,?_,?_,?_,?_⟩
 ·intro z hz;rcases Vk.1 hz with rfl|hz
  ·exact⟨hf,by rw[hi];exact ho⟩
  ·exact h.fits z hz
 ·intro y' hy' z hz;rcases Vk.1 hz with rfl|hz
  ·unfold Lga at hok;rw[Yc]at hok;have:=hok y' hy'
   simpa using this
  ·exact h.old y' (Vd _ hy') z hz
 ·exact Wa.2 ⟨λ z hz=>h.old y (by simp) z hz,h.pair⟩
 ·intro z hz k hk;rcases Vk.1 hz with rfl|hz
  ·rw[hi];exact ha k hk
  ·exact h.anc z hz k hk
 ·intro j hj;rcases Vk.1 hj with rfl|hj
  ·exact hl
  ·exact h.lt j hj
def I0a (hV:U8 X E) {R:Type}:∀ (l:List Nat) (lg:List Lg) (A:Ab) (K:Ab→Option R) (r:R),(∀ y∈lg,∀ k,Nat.testBit y.anc k=true→Anc ops k y.i)→I2 E ops.toList l lg A K=some r→
  ∃ (L:List (Lg×Ak)) (A':Ab),K A'=some r∧Uda X ops Q l lg (get A) (get A') L
 |[],lg,A,K,r,_,h=>⟨[],A,h,rfl,rfl,by simp,by simp,.nil,by simp,by simp⟩
 |i::l,lg,A,K,r,hlg,h=>by
  unfold I2 at h;rw[Ht]at h;split at h
  ·cases h
  ·rename_i o ho
   have hi:ops[i]? = some o:=by simpa using ho
   obtain⟨hb0,h⟩:=cs h;simp only[Va,Yc]at hb0;obtain⟨hd,hlt0⟩:=hb0
   have hlt:∃ o,ops[i]? = some o∧∀ j∈aft o,j<i:=⟨o,hi,λ j hj=>by
    have:=hlt0 j hj
    exact Vl this⟩
   have hanc:∀ k,Nat.testBit (Tza lg (aft o)) k=true→Anc ops k i:=Nka hlg hi (λ j hj=>hj)
   have next:∀ {y:Lg} {x:Ak} {A1:Ab},y.i=i→y.anc=Tza lg (aft o)→x.N (get A)→x.e (get A)=get A1→Aka y x→Yla X ops Q i x→Lga lg y=true→I2 E ops.toList l (y::lg) A1 K=some r→
     ∃ (L:List (Lg×Ak)) (A':Ab),K A'=some r∧Uda X ops Q (i::l) lg (get A) (get A') L:=by
    intro y x A1 e1 e2 hn he hf hop hok hev
    obtain⟨L,A',h1,h2⟩:=I0a hV l (y::lg) A1 K r (λ z hz k hk=>by
     rcases Vk.1 hz with rfl|hz
     ·rw[e1];exact hanc k (by rw[← e2];exact hk)
     ·exact hlg z hz k hk) hev
    exact⟨_,A',h1,h2.cons e1 hn he hf hop hok (by rw[e2];exact hanc) hlt⟩
   have cnd:∀ {b:Bool} {z:Option R},(bif b then z else none)=some r→b=true∧z=some r:=by
    intro b z hz
    cases b with
    |false=>simp at hz
    |true=>exact⟨rfl,hz⟩
   have exec:∀ (B:Ab) (gd:List Nat),get B=get A→(∀ S a,Bd X S a→(∀ p∈gd,S.g p=get A p)→Region.wanted o (yielded ops a.tmps)=true)→
     B6 E o B (λ U=>bif Lga lg (X5 o i lg gd B U) then I2 E ops.toList l (X5 o i lg gd B U::lg) (ups B U) K else none)=some r→
     ∃ (L:List (Lg×Ak)) (A':Ab),K A'=some r∧Uda X ops Q (i::l) lg (get A) (get A') L:=by
    intro B gd hBA hw hs
    have generic:(X5 o i lg gd B [] ).ex=none→∃ (L:List (Lg×Ak)) (A':Ab),K A'=some r∧Uda X ops Q (i::l) lg (get A) (get A') L:=by
     intro hex;obtain⟨U,h1,h2⟩:=Rwa (F:=rds B o) (λ p hp=>hp) hs;obtain⟨hok,hev⟩:=cnd h1;have hfit:Aka (X5 o i lg gd B U) (Bdb (X5 o i lg gd B U).F B U):=Nla (F:=gd++rds B o) rfl rfl hex;refine next (y:=X5 o i lg gd B U) (x:=Bdb (X5 o i lg gd B U).F B U) (A1:=ups B U) rfl rfl (λ p _=>by rw[hBA]) ?_ hfit ?_ hok hev
     ·show Fna (get A) U=_;rw[Ot,hBA]
     ·refine Zna hV hi hd (λ S a hS hN=>hw S a hS (λ p hp=>?_)) (λ A' hN=>⟨U,?_,rfl⟩)
      ·rw[← hBA];exact hN p (by show p∈gd++rds B o++_;simp[hp])
      ·exact h2 A' (λ p hp=>hN p (by show p∈gd++rds B o++_;simp[hp])) some
    cases hgd:gd with
    |cons p0 gd'=>subst hgd;exact generic (by simp[X5])
    |nil=>
     subst hgd
     cases hexo:Yta o with
     |none=>exact generic (by simp[X5,hexo])
     |some q=>
      obtain⟨t,j,d⟩:=q
      have:o.op = .extract (.tmp t) j∧o.dst=some d:=by
       unfold Yta at hexo;split at hexo
       ·rename_i e1 e2;cases hexo;exact⟨e1,e2⟩
       ·cases hexo
      obtain⟨hop,hod⟩:=this;obtain⟨vs,ag,lf,s,hg,hn,h1,h2⟩:=Rxa hop hod hs;obtain⟨hok,hev⟩:=cnd h1
      have hex:∀ A' vs',(get A' t).2 = .tup vs'→Fna (get A') (Hza t j d lf s vs')=(Fpa t j d ag lf s).e (get A'):=by
       intro A' vs' hv;unfold Hza Fpa;simp only;rw[hv];rfl
      refine next (y:=X5 o i lg [] B (Hza t j d lf s vs)) (x:=Fpa t j d ag lf s) (A1:=ups B (Hza t j d lf s vs)) rfl rfl ⟨vs,by rw[← hBA];exact hg,hn⟩ ?_ (Rya hop hod) ?_ hok hev
      ·rw[← hBA,Ot];exact(hex B vs hg).symm
      ·refine Zna hV hi hd (λ S a hS _=>hw S a hS (by simp)) (λ A' hN=>?_);obtain⟨vs',g1,g2⟩:=hN;exact⟨_,h2 A' vs' g1 g2,hex A' vs' g1⟩
   have skip:∀ (B:Ab) (dj:Nat),get B=get A→(∀ S a,Bd X S a→S.g dj=get A dj→Region.wanted o (yielded ops a.tmps)=false)→
     (bif Lga lg (Q3 o i lg [dj]) then I2 E ops.toList l (Q3 o i lg [dj]::lg) (Q2 o B) K else none)=some r→
     ∃ (L:List (Lg×Ak)) (A':Ab),K A'=some r∧Uda X ops Q (i::l) lg (get A) (get A') L:=by
    intro B dj hBA hw hs;obtain⟨hok,hev⟩:=cnd hs
    have hsk:Fna (get A) (match o.dst with|some d=>[⟨d,false,.one .un⟩]|none=>[])=get (Q2 o B):=by
     unfold Q2
     cases o.dst with
     |none=>exact hBA.symm
     |some d=>rw[← hBA];exact(Ot [⟨d,false,.one .un⟩] B).symm
    refine next (y:=Q3 o i lg [dj]) (x:=⟨λ g=>g dj=get A dj,λ g=>Fna g (match o.dst with|some d=>[⟨d,false,.one .un⟩]|none=>[])⟩) (A1:=Q2 o B) rfl rfl rfl hsk ?_ (Wta hV hi hd (λ S a hS hN=>hw S a hS hN)) hok hev
    have hmap:(match o.dst with|some d=>[(⟨d,false,.one .un⟩:Up)]|none=>[]).map Up.l=o.dst.toList:=by cases o.dst<;>rfl
    refine⟨λ p hp=>Vn _ hp,λ g g' h hn=>by show g' dj=get A dj;rw[← h dj (by show dj∈[dj]++_;simp)];exact hn,λ g p hp=>Qh _ g p (by rw[hmap];exact hp),λ g g' p _ h=>Qi _ g g' p h,λ t j d h=>by cases h⟩
   split at h
   ·rename_i hgd;exact exec A [] rfl (λ S a _ _=>by unfold Region.wanted;rw[hgd]) h
   ·rename_i j want hgd;split at h
    ·cases h
    ·rename_i dj hdj;obtain⟨hb,h⟩:=cs h;split at h
     ·rename_i n b hgt;have hwant:∀ (S:Sit) (a:Act),Bd X S a→S.g dj=get A dj→Region.wanted o (yielded ops a.tmps)=(b==want):=λ S a hS hs=>(Hya hV.en hS hgd hdj hb).1 b (by rw[hs,hgt])
      cases b with
      |true=>
       rw[cond_true]at h
       cases want with
       |true=>
        rw[cond_true]at h;exact exec (lit A dj n true) [dj] (U9 hgt) (λ S a hS hs=>hwant S a hS (hs dj (by simp))) h
       |false=>
        rw[cond_false]at h;exact skip (lit A dj n true) dj (U9 hgt) (λ S a hS hs=>hwant S a hS hs) h
      |false=>
       rw[cond_false]at h
       cases want with
       |true=>
        rw[cond_true]at h;exact skip (lit A dj n false) dj (U9 hgt) (λ S a hS hs=>hwant S a hS hs) h
       |false=>
        rw[cond_false]at h;exact exec (lit A dj n false) [dj] (U9 hgt) (λ S a hS hs=>hwant S a hS (hs dj (by simp))) h
     ·rename_i n hgt;exact skip A dj rfl (λ S a hS hs=>(Hya hV.en hS hgd hdj hb).2 (by rw[hs,hgt])) h
     ·cases h
def Wua (hV:U8 X E) (hm:X.P.follows .mixedOrders=true):Cla X E:=by
 intro R id ops Q S a A K r hK hg h hQ;refine wp_region_any hm ?_;obtain⟨L,A',hA',T⟩:=I0a (X:=X) (ops:=ops) (Q:=Q) hV _ [] A K r (by simp) h
 have hlen:L.length=ops.size:=by
  have:=congrArg length T.ix
  simpa using this
 have hmem:∀ z∈L,z.1.i<ops.size:=by
  intro z hz;have:z.1.i∈L.map (λ z=>z.1.i):=Ym hz;rw[T.ix]at this
  simpa using this
 have K2:=(hK.world (w' := { S.w with drawn:=S.w.drawn+1 }) (O':=S.O) (λ k _ _=>⟨rfl,rfl⟩) rfl rfl rfl (Vw _) hK.lt).1;refine Uca (X:=X) (f:=get A') ?_ (λ S' a' A2 K' g' e'=>hQ S' a' A' K' (by rw[g',e']) hA') ops.size (L.map λ z=>(z.1.i,z.2)) _ (Tv S { S.w with drawn:=S.w.drawn+1 } S.O) a A (by simp[hlen]) (by simp) ?_ ?_ ?_ ?_ ?_ ?_ K2 hg ?_
 ·intro i o hi j hj;have hil:i<ops.size:=(Zt.1 hi).1;obtain⟨o',h1,h2⟩:=T.lt i (by simpa using hil);rw[hi]at h1;cases h1;exact h2 j hj
 ·rw[Zi]
  have hp:(L.map (λ z=>z.1.i)).Pairwise (· < ·):=by rw[T.ix];exact List.pairwise_lt_range
  rw[Zi]at hp;exact hp
 ·intro i hi;constructor
  ·intro _
   have:i∈L.map (λ z=>z.1.i):=by rw[T.ix];simpa using hi
   obtain⟨z,hz,hzi⟩:=Yt.1 this;exact⟨(z.1.i,z.2),Ym hz,hzi⟩
  ·intro _;simp[Yi,hi]
 ·rw[Zi];refine List.Pairwise.imp_of_mem ?_ T.pair;intro y z hy hz h;rcases h with h|h
  ·exact .inl (T.anc z hz _ h)
  ·exact .inr ((T.fits y hy).1.ind (T.fits z hz).1 h)
 ·intro x hx;obtain⟨z,hz,rfl⟩:=Yt.1 hx;exact(T.fits z hz).2
 ·intro x hx;obtain⟨z,hz,rfl⟩:=Yt.1 hx;exact hmem z hz
 ·intro i o hi hl;have hil:i<ops.size:=(Zt.1 hi).1;simp[Yi,hil]at hl
 ·have:(L.map λ z=>(z.1.i,z.2)).map Prod.snd=L.map Prod.snd:=by simp
  rw[this];exact T.runs
end
end

section
attribute [local irreducible] C H
def Ty.fit (ti:TypeId→Option TI):(t:Ty)→t.den→Prop
 |.i k,n=>(Lit.int k n).wf=true
 |.b,_=>True
 |.s,x=>x.size≤140737488351232
 |.sl e r,xs=>(∀ te,ti e=some te→xs.length*te.by_≤140737488351232)∧∀ x∈xs,r.fit ti x
 |.ow e r,xs=>(∀ te,ti e=some te→xs.length*te.by_≤140737488351232)∧∀ x∈xs,r.fit ti x
 |.pr x y,p=>x.fit ti p.1∧y.fit ti p.2
def Zoa (ti:TypeId→Option TI) (T:TypeId) (ty:Ty):Bool:=match ti T with
 |some t=>decide (t.ty=ty)
 |none=>false
def Rp (ti:TypeId→Option TI):List Field→Nat→Ty→Bool
 |[],_,_=>false
 |[f],o,ty=>Nat.beq f.offset o&&Zoa ti f.type ty
 |f::g::fs,o,.pr x y=>Nat.beq f.offset o&&Zoa ti f.type x&&Rp ti (g::fs) (o+x.sz) y
 |_,_,_=>false
def Qj (P:Program) (ti:TypeId→Option TI) (T:TypeId):Bool:=match ti T,P.underlying T with
 |none,_=>true
 |some t,some (.struct fs)=>t.ag&&Rp ti fs.toList 0 t.ty
 |some ⟨.sl e r,false,_,_⟩,some (.slice e')=>Nat.beq e e'&&Zoa ti e r
 |some ⟨.i k,false,_,_⟩,some (.int k')=>decide (k=k')
 |some ⟨.b,false,_,_⟩,some .bool=>true
 |some ⟨.s,false,_,_⟩,some .string=>true
 |_,_=>false
section
variable {H':Type} {enc:TypeId×Value→H'} {P:Program} {w:World} {base:Nat} {spare:Nat→Bool} {held:Bool} {ti:TypeId→Option TI}
def Nv {T:TypeId} {ty:Ty} (h:Zoa ti T ty=true):∃ t,ti T=some t∧t.ty=ty:=by
 unfold Zoa at h;split at h
 ·rename_i t ht;exact⟨t,ht,of_decide_eq_true h⟩
 ·cases h
def Qk {T:TypeId} {t:TI} (h:TOk P T t):P.cellsOf T=t.ty.sz:=by
 unfold Program.cellsOf;rw[Oh h];rfl
def Nma {T:TypeId} {t:TI} (h:TOk P T t):P.bytesOf T=t.by_:=by
 obtain⟨i,h1,_,h2,_⟩:=h.info;unfold Program.bytesOf;rw[h1];exact h2
def Nna {α:Type} {R:α→List Value→Prop} {Fit:α→Prop} {k o n:Nat}:∀ (len:Nat),(∀ i,i<len→∃ x c,R x c∧Fit x∧c.length=n∧Ep w k (o+i*n) c)→
  ∃ (xs:List α) (cs:List Value),xs.length=len∧Rows R xs cs∧(∀ x∈xs,Fit x)∧cs.length=len*n∧Ep w k o cs
 |0,_=>⟨[],[],rfl,rfl,by simp,by simp,by intro j u hj;simp at hj⟩
 |len+1,h=>by
  obtain⟨xs,cs,h1,h2,h3,h4,h5⟩:=Nna len (λ i hi=>h i (by omega));obtain⟨x,c,g1,g2,g3,g4⟩:=h len (by omega);refine⟨xs++[x],cs++c,by simp[h1],Rows.append h2 ⟨c,[],by simp,g1,rfl⟩,?_,?_,?_⟩
  ·intro y hy;rcases Vm.1 hy with hy|hy
   ·exact h3 y hy
   ·simp at hy;subst hy;exact g2
  ·rw[Vi,h4,g3,Zd,Zh]
  ·intro j u hj
   by_cases hlt:j<cs.length
   ·rw[Yj hlt]at hj;exact h5 j u hj
   ·rw[Yd (by omega)]at hj;have:=g4 (j-cs.length) u hj;rw[h4]at this hlt;rwa [show o+len*n+(j-len*n)=o+j by omega]at this
def Rza {a:Addr} {n:Nat} {cs:List Value} (h:w.cells? base a n=some cs) (hn:0<n):a.spot=none∧a.block<w.heap.size∧cs.length=n∧Ep w a.block a.off cs:=by
 unfold World.cells? at h;split at h
 ·have hl:=mapM_some_length h;have hg:=λ i hi=>mapM_some_get h i i hi;simp only[List.length_range]at hl;have h0:w.cell? (a.add 0)=cs[0]? := hg 0 (by simp[hn]);have hc0:∃ v,cs[0]? = some v:=⟨_,Vg (by omega)⟩;obtain⟨v,hv⟩:=hc0;rw[hv]at h0
  have hspot:a.spot=none∧a.block<w.heap.size:=by
   unfold World.cell? at h0;split at h0
   ·rename_i c e f hb;refine⟨?_,(Zt.1 hb).1⟩
    cases hs:a.spot with
    |none=>rfl
    |some s=>simp[Addr.add,hs]at h0
   ·cases h0
  refine⟨hspot.1,hspot.2,hl,λ j u hj=>?_⟩
  have hjl:j<n:=by have:=(Yk.1 hj).1;omega
  have:=hg j (by simp[hjl]);rw[hj]at this;obtain⟨b,off,sp⟩:=a;have hsp:sp=none:=hspot.1;subst hsp;rw[Ke]at this;exact this
 ·cases h
def Ui {T:TypeId}:∀ {ds:List (DataW H')} {m:Nat},m∈DataW.weightsAll P T ds↔∃ d∈ds,m∈d.weights P T
 |[],m=>by simp[DataW.weightsAll]
 |d::ds,m=>by
  simp only[DataW.weightsAll,Vm,Vk,Ui (ds:=ds)];constructor
  ·rintro (h|⟨d',h1,h2⟩)
   ·exact⟨d,.inl rfl,h⟩
   ·exact⟨d',.inr h1,h2⟩
  ·rintro⟨d',rfl|h1,h2⟩
   ·exact .inl h2
   ·exact .inr ⟨d',h1,h2⟩
def Zpa (enc:TypeId×Value→H') (P:Program) (w:World) (base:Nat) (spare:Nat→Bool) (held:Bool) (ti:TypeId→Option TI) (n:Nat):Prop:=
 ∀ T t cs y,ti T=some t→DataW.trod enc P w base spare held n T cs=some y→(∀ m∈y.1.weights P T,m≤140737488351232)→∃ X:t.ty.den,t.ty.rep P (λ k=>k<w.heap.size) w X cs∧t.ty.fit ti X
def Uj (htok:∀ T t,ti T=some t→TOk P T t) {n:Nat} (ih:Zpa enc P w base spare held ti n) {cs:List Value}:∀ (fs:List Field) (o:Nat) (ty:Ty) (xs:List (DataW H'×List MemPlace)),Rp ti fs o ty=true→xs.length=fs.length→
  (∀ (i:Nat) (f:Field),fs[i]? = some f→DataW.trod enc P w base spare held n f.type ((cs.drop f.offset).take (P.cellsOf f.type))=xs[i]?)→(∀ m∈DataW.weightsEach P (fs.map (·.type)) (xs.map (·.1)),m≤140737488351232)→o+ty.sz≤cs.length→
  ∃ X:ty.den,ty.rep P (λ k=>k<w.heap.size) w X ((cs.drop o).take ty.sz)∧ty.fit ti X
 |[],o,ty,xs,hp,_,_,_,_=>by cases ty<;>simp[Rp]at hp
 |[f],o,ty,xs,hp,hl,ht,hw,hs=>by
  simp only[Rp,Va]at hp;obtain⟨t,h1,h2⟩:=Nv hp.2;have ho:f.offset=o:=Ve hp.1;subst h2;have e:=ht 0 f rfl
  cases xs with
  |nil=>simp at hl
  |cons y xs=>
   have e':DataW.trod enc P w base spare held n f.type ((cs.drop f.offset).take (P.cellsOf f.type))=some y:=by simpa using e
   rw[Qk (htok _ _ h1),ho]at e';exact ih f.type t _ y h1 e' (λ m hm=>hw m (by simp[DataW.weightsEach,hm]))
 |f::g::fs,o,ty,xs,hp,hl,ht,hw,hs=>by
  cases ty<;>first|(simp[Rp]at hp;done)|skip
  rename_i x y;simp only[Rp,Va]at hp;obtain⟨⟨h0,h1a⟩,hp⟩:=hp;obtain⟨t,h1,h2⟩:=Nv h1a;have ho:f.offset=o:=Ve h0;subst h2;have e:=ht 0 f rfl
  cases xs with
  |nil=>simp at hl
  |cons z xs=>
   have e':DataW.trod enc P w base spare held n f.type ((cs.drop f.offset).take (P.cellsOf f.type))=some z:=by simpa using e
   rw[Qk (htok _ _ h1),ho]at e';have hsz:o+(t.ty.sz+y.sz)≤cs.length:=hs;obtain⟨X,r1,f1⟩:=ih f.type t _ z h1 e' (λ m hm=>hw m (by simp[DataW.weightsEach,hm]))
   obtain⟨Y,r2,f2⟩:=Uj htok ih (g::fs) (o+t.ty.sz) y xs hp (by simpa using hl) (λ i f' hf'=>by have:=ht (i+1) f' hf';simpa using this) (λ m hm=>hw m (by
    simp only[Ya,DataW.weightsEach,Vm]
    exact .inr hm)) (by omega)
   refine⟨(X,Y),⟨_,_,?_,r1,r2⟩,f1,f2⟩;show (cs.drop o).take (t.ty.sz+y.sz)=_;rw[Fsb,Yo]
def Ala (htok:∀ T t,ti T=some t→TOk P T t) (hcl:∀ T,Qj P ti T=true):∀ n,Zpa enc P w base spare held ti n
 |0=>by
  intro T t cs y _ h;simp[DataW.trod]at h
 |n+1=>by
  intro T t cs y hT h hw;have hc:=hcl T;have hk:=htok T t hT;unfold Qj at hc;rw[hT]at hc;split at hc
  ·rename_i e;cases e
  ·-- a struct
   rename_i t0 fs e1 hu;cases e1;simp only[Va]at hc;obtain⟨xs,n',e1,rfl,hl,hxl,hx⟩:=DataW.trod_struct hu h
   have:n'=n:=by omega
   subst this;rw[Qk hk]at hl;have hw':∀ m∈DataW.weightsEach P (fs.toList.map (·.type)) (xs.map (·.1)),m≤140737488351232:=λ m hm=>hw m (by simp only[DataW.weights,hu];exact hm);obtain⟨X,r,f⟩:=Uj htok (Ala htok hcl n') fs.toList 0 t.ty xs hc.2 (by simpa using hxl) (λ i f hf=>hx i f (by simpa using hf)) hw' (by omega);rw[Yu,← hl,Zf]at r;exact⟨X,r,f⟩
  ·-- a slice
   rename_i e r by_ fo e' e1 hu;cases e1;simp only[Va]at hc;obtain⟨te,hte,hty⟩:=Nv hc.2;have he:e=e':=Ve hc.1;subst he;subst hty;have hke:=htok e te hte;have hsz:W5 P e te.ty.sz:=Oh hke;rcases DataW.trod_slice hu h with⟨rfl,rfl⟩|⟨a,len,cap,elems,rest,n',e1,rfl,rfl,hb,hl,hm,hlen,hel,hsp,hns⟩
   ·exact⟨[],⟨_,rfl,hsz,none,0,[],rfl,Vw _,rfl,λ h=>(h rfl).elim⟩,by simp,by simp⟩
   ·have:n'=n:=by omega
    subst this
    have hlw:(elems.map (·.1)).length+(rest.map (·.1)).length=elems.length+rest.length:=by simp
    have hw0:(elems.length+rest.length)*P.bytesOf e≤140737488351232:=hw _ (by simp only[DataW.weights,hu];simp);rw[Nma hke]at hw0;rw[Qk hke]at hel;have hpos:=N5 te.ty
    have each:∀ i,i<len→∃ x c,te.ty.rep P (λ k=>k<w.heap.size) w x c∧te.ty.fit ti x∧c.length=te.ty.sz∧((i=0→a.spot=none)∧a.block<w.heap.size)∧Ep w a.block (a.off+i*te.ty.sz) c:=by
     intro i hi;have e1:=hel i hi;rw[Vg (by omega)]at e1;simp only[Fdb]at e1;obtain⟨c,hc1,hc2⟩:=e1;obtain⟨g1,g2,g3,g4⟩:=Rza hc1 hpos
     obtain⟨X,r1,f1⟩:=Ala htok hcl n' e te c _ hte hc2 (λ m hm=>hw m (by
      simp only[DataW.weights,hu,Vk,Vm]
      exact .inr (.inl (Ui.2 ⟨_,Ym (Eob (l:=elems) (n:=i) (by omega)),hm⟩))))
     have hblk:(a.add (i*te.ty.sz)).block=a.block∧(a.add (i*te.ty.sz)).off=a.off+i*te.ty.sz:=by
      unfold Addr.add;split
      ·rename_i h0;exact⟨rfl,by omega⟩
      ·exact⟨rfl,rfl⟩
     rw[hblk.1,hblk.2]at g4;rw[hblk.1]at g2;refine⟨X,c,r1,f1,g3,⟨λ h0=>?_,g2⟩,g4⟩;subst h0;rw[Djb]at g1;exact g1
    obtain⟨xs,cs,h1,h2,h3,h4,h5⟩:=Nna (w:=w) (k:=a.block) (o:=a.off) (n:=te.ty.sz) (R:=λ x c=>te.ty.rep P (λ k=>k<w.heap.size) w x c) (Fit:=te.ty.fit ti) len (λ i hi=>by
     obtain⟨x,c,q1,q2,q3,q4,q5⟩:=each i hi
     exact⟨x,c,q1,q2,q3,q5⟩)
    refine⟨xs,⟨_,rfl,hsz,some a,cap,cs,by rw[h1],by omega,h2,λ hne=>?_⟩,λ te' ht'=>?_,h3⟩
    ·have hpos:0<len:=by rw[← h1];cases xs with|nil=>exact(hne rfl).elim|cons=>simp
     obtain⟨x,c,q1,q2,q3,q4,q5⟩:=each 0 hpos;refine⟨a.block,a.off,?_,q4.2,h5⟩;obtain⟨b,off,sp⟩:=a;have hsp:sp=none:=q4.1 rfl;rw[hsp]
    ·rw[hte]at ht';cases ht';rw[h1,← hlen];exact Zu (Wk _ (Nat.le_add_right _ _)) hw0
  ·rename_i k by_ fo k' e1 hu;cases e1;have:k=k':=of_decide_eq_true hc;subst this;obtain⟨m,rfl,rfl,hwf⟩:=DataW.trod_int hu h;exact⟨m,rfl,hwf⟩
  ·rename_i by_ fo e1 hu;cases e1;obtain⟨b,rfl,rfl⟩:=DataW.trod_bool hu h;exact⟨b,rfl,trivial⟩
  ·rename_i by_ fo e1 hu;cases e1;obtain⟨s,rfl,rfl,hs⟩:=DataW.trod_string hu h;refine⟨s,rfl,?_⟩;have:=hw s.data.toList.length (by rw[show (DataW.lit (.string s.data.toList):DataW H').weights P T=[s.data.toList.length] from by simp only[DataW.weights]];exact Vp.2 rfl);have e:s.data.toList.length=s.size:=Ze;rw[e]at this;exact this
  ·cases hc
end
end

end Go.Proofs.YtcpligincipmhaaGreat.Vf
