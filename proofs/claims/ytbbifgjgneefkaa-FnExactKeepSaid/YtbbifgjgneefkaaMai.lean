import Derived.Test.YtbbifgjgneefkaaMah
set_option linter.all false
namespace Go.Proofs.Ytbbifgjgneefkaa.Vf
open Go
open List (length getD)
open Int (toNat)
open Go.IntKind (wrap)
open BitVec (ofInt)
def Yu:=@List.pairwise_cons
def Zt:=@List.pairwise_append
def Ora:=@List.all_eq_true
def Pxa:=@List.pairwise_map

section
attribute [local irreducible] C H
def Ag (A A':Ab) (F:List Nat):Prop:=∀ p∈F,get A' p=get A p
def RB (A:Ab) (F:List Nat) (b lo:Nat):Prop:=H b∈F∧∀ n,(get A (H b)).2 = .one (.hd n)→∀ j,lo≤j→j<n→C b j∈F∧∀ p v,(get A (C b j)).2 = .one (.al p v)→p∈F
def RL (A:Ab) (F:List Nat):Lf→Prop
 |.al p _=>p∈F
 |.ep p _ _ _=>p∈F
 |.da p _ _ _ _ _=>p∈F
 |.dp p _ _ _ _ _ _ _=>p∈F
 |.bp b _ off=>RB A F b off
 |.fn _ bs=>∀ c∈bs,RB A F c.1 0
 |_=>True
def RX (A:Ab) (F:List Nat):Operand→Prop
 |.tmp t=>t∈F∧∀ y∈parts (get A t).2,RL A F y
 |_=>True
def J6 (u:Up):Prop:=u.s = .one .dead∨∃ e r,∃ xs:List (Ty.den r),u.s = .one (.fz e r xs)
section
variable {E:En} {A A':Ab} {F:List Nat} {o:Oper} {R:Type} {Kc:List Up→Option R} {r:R}
def Dka {b:Nat}:∀ {n j:Nat},(∀ p∈rdC A b j n,p∈F)→∀ i,i<n→C b (j+i)∈F∧∀ p v,(get A (C b (j+i))).2 = .one (.al p v)→p∈F
 |0,j,h,i,hi=>by omega
 |n+1,j,h,i,hi=>by
  unfold rdC at h
  cases i with
  |zero=>
   refine⟨h _ (by simp),λ p v hp=>h p ?_⟩;rw[Yt]at hp;rw[hp];simp
  |succ i=>
   rw[show j+(i+1)=j+1+i by omega];exact Dka (n:=n) (j:=j+1) (λ p hp=>h p (Ve _ (Vi _ hp))) i (by omega)
def Dla {b lo:Nat} (h:∀ p∈H b::(match (get A (H b)).2 with | .one (.hd n)=>rdC A b lo (n-lo)|_=>[]),p∈F):RB A F b lo:=by
 refine⟨h _ (by simp),λ n hn j hl hj=>?_⟩;rw[hn]at h;have:=Dka (A:=A) (F:=F) (b:=b) (n:=n-lo) (j:=lo) (λ p hp=>h p (Ve _ hp)) (j-lo) (by omega);rwa [show lo+(j-lo)=j by omega]at this
def M1a {y:Lf} (h:∀ p∈rdL A y,p∈F):RL A F y:=by
 cases y with
 |al p v=>exact h p (by simp[rdL])
 |ep p v i off=>exact h p (by simp[rdL])
 |da p v pi e r xs=>exact h p (by simp[rdL])
 |dp p v pi e r xs i off=>exact h p (by simp[rdL])
 |bp b v off=>exact Dla h
 |fn f bs=>exact λ c hc=>Dla (lo:=0) λ p hp=>h p (List.mem_flatMap.2 ⟨c,hc,hp⟩)
 |_=>trivial
def Dma:∀ {l:List Lf},(∀ p∈Mua A l,p∈F)→∀ y∈l,RL A F y
 |[],_,y,hy=>by simp at hy
 |z::l,h,y,hy=>by
  unfold Mua at h;rcases Vk.1 hy with rfl|hy
  ·exact M1a λ p hp=>h p (Vt _ hp)
  ·exact Dma (λ p hp=>h p (Vi _ hp)) y hy
def M2a {x:Operand} (h:∀ p∈rdO A x,p∈F):RX A F x:=by
 cases x with
 |tmp t=>
  unfold rdO at h;exact⟨h t (by simp),Dma λ p hp=>h p (Ve _ hp)⟩
 |_=>trivial
def Rb:∀ {l:List Operand},(∀ p∈Fma A l,p∈F)→∀ x∈l,RX A F x
 |[],_,y,hy=>by simp at hy
 |z::l,h,y,hy=>by
  unfold Fma at h;rcases Vk.1 hy with rfl|hy
  ·exact M2a λ p hp=>h p (Vt _ hp)
  ·exact Rb (λ p hp=>h p (Vi _ hp)) y hy
def Ob (A:Ab) (u:Up) (p:Nat):get (up A u) p=if p=u.l then ((bif u.keep then (get A u.l).1 else (get A u.l).1+1),u.s) else get A p:=by
 rw[Hg];unfold upd;rfl
def Ag.up (h:Ag A A' F) (u:Up):Ag (up A u) (up A' u) F:=by
 intro p hp;rw[Ob,Ob]
 by_cases e:p=u.l
 ·subst e;rw[if_pos rfl,if_pos rfl,h _ hp]
 ·rw[if_neg e,if_neg e,h _ hp]
def Ag.ups:∀ {U:List Up} {A A':Ab},Ag A A' F→Ag (ups A U) (ups A' U) F
 |[],_,_,h=>h
 |u::U,_,_,h=>Ag.ups (U:=U) (h.up u)
def RB.up {b lo:Nat} (h:RB A F b lo) {u:Up} (hu:J6 u):RB (Vf.up A u) F b lo:=by
 have key:∀ q,(get (Vf.up A u) q).2=(get A q).2∨(get (Vf.up A u) q).2=u.s:=by
  intro q;rw[Ob]
  by_cases e:q=u.l
  ·rw[if_pos e];exact .inr rfl
  ·rw[if_neg e];exact .inl rfl
 refine⟨h.1,λ n hn j hlo hj=>?_⟩
 have hn':(get A (H b)).2 = .one (.hd n):=by
  rcases key (H b) with k|k
  ·rw[← k];exact hn
  ·rw[k]at hn
   rcases hu with hu|⟨e,r,xs,hu⟩<;>rw[hu]at hn<;>cases hn
 obtain⟨h1,h2⟩:=h.2 n hn' j hlo hj;refine⟨h1,λ p v hp=>?_⟩;rcases key (C b j) with k|k
 ·exact h2 p v (by rw[← k];exact hp)
 ·rw[k]at hp
  rcases hu with hu|⟨e,r,xs,hu⟩<;>rw[hu]at hp<;>cases hp
def RB.ups {b lo:Nat}:∀ {U:List Up} {A:Ab},RB A F b lo→(∀ u∈U,J6 u)→RB (Vf.ups A U) F b lo
 |[],_,h,_=>h
 |u::U,_,h,hu=>RB.ups (U:=U) (h.up (hu u (by simp))) (λ v hv=>hu v (Ve _ hv))
def RL.up {y:Lf} (h:RL A F y) {u:Up} (hu:J6 u):RL (Vf.up A u) F y:=by
 cases y with
 |al p v=>exact h
 |ep p v i off=>exact h
 |da p v pi e r xs=>exact h
 |dp p v pi e r xs i off=>exact h
 |bp b v off=>exact RB.up h hu
 |fn f bs=>exact λ c hc=>(h c hc).up hu
 |_=>trivial
def RX.up {x:Operand} (h:RX A F x) {u:Up} (hu:J6 u):RX (Vf.up A u) F x:=by
 cases x with
 |tmp t=>
  refine⟨h.1,λ y hy=>?_⟩;rw[Ob]at hy
  by_cases e:t=u.l
  ·rw[if_pos e]at hy;rcases hu with hu|⟨e',r,xs,hu⟩
   ·rw[hu]at hy;simp only[parts,Vz]at hy;subst hy;trivial
   ·rw[hu]at hy;simp only[parts,Vz]at hy;subst hy;trivial
  ·rw[if_neg e]at hy;exact(h.2 y hy).up hu
 |_=>trivial
def RX.ups {x:Operand}:∀ {U:List Up} {A:Ab},RX A F x→(∀ u∈U,J6 u)→RX (Vf.ups A U) F x
 |[],_,h,_=>h
 |u::U,_,h,hu=>RX.ups (U:=U) (h.up (hu u (by simp))) (λ v hv=>hu v (Ve _ hv))
def Aj {x:Operand} {T:TypeId} (h:Ag A A' F) (hx:RX A F x):opT E T A' x=opT E T A x:=by
 cases x with
 |tmp t=>show (bif Nat.blt t E.nt then some (get A' t).2 else none)=(bif Nat.blt t E.nt then some (get A t).2 else none);rw[h t hx.1]
 |const v=>
  unfold opT
  cases v<;>first|rfl|skip
  rename_i a b c
  cases a<;>cases b<;>cases c<;>rfl
 |func f=>rfl
 |global g=>rfl
def J7 {x:Operand} {T:TypeId} {s:Sv} (hx:RX A F x) (h:opT E T A x=some s):∀ y∈parts s,RL A F y:=by
 unfold opT at h;split at h
 ·rename_i t;cases hb:Nat.blt t E.nt
  ·simp[hb]at h
  simp only[hb,cond_true,Vc]at h;rw[← h];exact hx.2
 ·split at h
  ·cases h;intro y hy;simp only[parts,Vz]at hy;subst hy;trivial
  ·cases h
 ·rename_i v _;cases hs:U6 v
  ·simp[hs]at h
  simp only[hs,cond_true,Vc]at h;subst h;intro y hy;simp only[parts,Vz]at hy;subst hy;trivial
 ·cases h;intro y hy;simp only[parts,Vz]at hy;subst hy;trivial
 ·cases h
def Ei {x:Operand} {T:TypeId} {y:Lf} (hx:RX A F x) (h:opT E T A x=some (.one y)):RL A F y:=J7 hx h y (by simp[parts])
def AL (F:List Nat):Lf→Prop
 |.al p _=>p∈F
 |_=>True
def RL.al {y:Lf} (h:RL A F y):AL F y:=by
 cases y<;>first|trivial|exact h
def Cy {y:Lf} (h:Ag A A' F) (hy:AL F y):G5 A' y=G5 A y:=by
 cases y with
 |al p v=>simp only[G5];rw[h p hy]
 |_=>rfl
def Dna {y:Lf} (h:Ag A A' F) (hy:RL A F y):Qb A' y=Qb A y:=by
 cases y with
 |da p v pi e r xs=>simp only[Qb];rw[h p hy]
 |_=>exact Cy h hy.al
def Gva (h:Ag A A' F) {l:List Lf} (hy:∀ y∈l,RL A F y):l.map (λ y=>Hn (Qb A' y))=l.map (λ y=>Hn (Qb A y)):=Zn λ y hm=>by rw[Dna h (hy y hm)]
def Y3 {y:Lf} (h:Ag A A' F) (hy:RL A F y):U7 A' y=U7 A y:=by
 cases y with
 |da p v pi e r xs=>simp only[U7];rw[h p hy]
 |_=>simp only[U7,Cy h hy.al]
def Oc:∀ {l:List Lf} {A A':Ab},Ag A A' F→(∀ y∈l,AL F y)→Ge A' l=Ge A l
 |[],_,_,_,_=>rfl
 |y::l,A,A',h,hy=>by
  have h1:AL F y:=hy y (by simp);have h2:∀ z∈l,AL F z:=λ z hz=>hy z (Ve _ hz)
  cases y with
  |al p v=>
   unfold Ge;rw[Cy h h1,Oc (h.up ⟨p,false,.one .dead⟩) h2]
  |_=>simp only[Ge,Oc h h2]
def Doa {x:Operand} {s:Sv} (h:Ag A A' F) (hy:∀ y∈parts s,AL F y):Bia A' x s=Bia A x s:=by
 unfold Bia;rw[Oc (h.ups (U:=gone x s)) hy]
def V4 {y:Lf} (h:Ag A A' F) (hy:AL F y):Gk A' y=Gk A y:=by
 cases y with
 |al p v=>show Hn (G5 A' (.al p v))=Hn (G5 A (.al p v));rw[Cy h hy]
 |_=>rfl
def V5 {y:Lf} (h:Ag A A' F) (hy:AL F y):N3 A' y=N3 A y:=by
 cases y with
 |al p v=>simp only[N3];rw[h p hy]
 |_=>rfl
def Jo (h:Ag A A' F):∀ {l:List Lf},(∀ y∈l,AL F y)→G0 A' l=G0 A l
 |[],_=>rfl
 |y::l,hy=>by
  unfold G0;rw[V5 h (hy y (by simp)),Jo h (λ z hz=>hy z (Ve _ hz))]
def Lk (h:Ag A A' F) {l:List Lf} (hy:∀ y∈l,AL F y):l.map (Gk A')=l.map (Gk A):=Zn λ y hm=>V4 h (hy y hm)
def Y4 (h:Ag A A' F) {l:List Lf} (hy:∀ y∈l,AL F y):l.map (λ y=>Hn (Gk A' y))=l.map (λ y=>Hn (Gk A y)):=Zn λ y hm=>by rw[V4 h (hy y hm)]
def Rc {y:Lf} (h:Ag A A' F) (hy:RL A F y):P7 A' y=P7 A y:=by
 cases y with
 |bp b v n=>show Nat.beq (get A' (H b)).1 v=Nat.beq (get A (H b)).1 v;rw[h _ hy.1]
 |ep p v i n=>simp only[P7];rw[h p hy]
 |dp p v pi e r xs i n=>show Nat.beq (get A' p).1 v=Nat.beq (get A p).1 v;rw[h p hy]
 |_=>rfl
def Mf (h:Ag A A' F) {b:Nat}:∀ {n j:Nat},(∀ i,i<n→C b (j+i)∈F)→cellsOf A' b j n=cellsOf A b j n
 |0,_,_=>rfl
 |n+1,j,hc=>by
  unfold cellsOf;rw[h (C b j) (by simpa using hc 0 (by omega)),Mf h (λ i hi=>by have:=hc (i+1) (by omega);rwa [show j+(i+1)=j+1+i by omega]at this)]
def Ps {b:Nat}:∀ {n j:Nat},(∀ i,i<n→C b (j+i)∈F∧∀ p v,(get A (C b (j+i))).2 = .one (.al p v)→p∈F)→∀ y∈cellsOf A b j n,AL F y
 |0,_,_,y,hy=>by simp[cellsOf]at hy
 |n+1,j,hc,y,hy=>by
  unfold cellsOf at hy;rcases Vk.1 hy with hy|hy
  ·obtain⟨c1,c2⟩:=hc 0 (by omega);rw[Yt]at c1 c2;split at hy
   ·subst hy;exact c1
   ·subst hy;exact c1
   ·subst hy;exact c1
   ·rename_i hp;subst hy
    cases y with
    |al p v=>exact c2 p v (by rw[hp])
    |_=>trivial
   ·subst hy;trivial
  ·refine Ps (n:=n) (j:=j+1) (λ i hi=>?_) y hy;have:=hc (i+1) (by omega);rwa [show j+(i+1)=j+1+i by omega]at this
end
end

section
attribute [local irreducible] C H
def Loc {R:Type} (E:En) (o:Oper) (A:Ab) (F:List Nat) (Kc:List Up→Option R) (r:R):Prop:=
 ∃ U,Kc U=some r∧∀ A',Ag A A' F→∀ {R':Type} (K':List Up→Option R'),Ai E o A' K'=K' U
section
variable {E:En} {A A':Ab} {F:List Nat} {o:Oper} {R:Type} {Kc:List Up→Option R} {r:R}
def Ava {op:BinOp} {k:IntKind} {x y:Int} {Kv:Value→Option R} (h:Mm op k x y Kv=some r):∃ v,Kv v=some r∧∀ {R':Type} (K':Value→Option R'),Mm op k x y K'=K' v:=by
 cases op
 case quo=>
  simp only[Mm]at h ⊢
  cases hy:decide (y=0) with
  |true=>rw[hy]at h;simp at h
  |false=>rw[hy]at h;exact⟨_,h,λ K'=>rfl⟩
 case rem=>
  simp only[Mm]at h ⊢
  cases hy:decide (y=0) with
  |true=>rw[hy]at h;simp at h
  |false=>rw[hy]at h;exact⟨_,h,λ K'=>rfl⟩
 all_goals first|exact⟨_,h,λ K'=>rfl⟩|(simp[Mm]at h;done)
def Awa {op:BinOp} {x y:ByteArray} {Kv:Value→Option R} (h:Pg op x y Kv=some r):∃ v,Kv v=some r∧∀ {R':Type} (K':Value→Option R'),Pg op x y K'=K' v:=by
 cases op
 case add=>
  simp only[Pg]at h ⊢
  cases hy:Nat.ble (x.size+y.size) 9223372036854775807 with
  |false=>rw[hy]at h;simp at h
  |true=>rw[hy]at h;exact⟨_,h,λ K'=>rfl⟩
 all_goals first|exact⟨_,h,λ K'=>rfl⟩|(simp[Pg]at h;done)
def Jwa {op:BinOp} {t:Option TI} {e:Bool} {x y:Sv} {Kv:Value→Option R} (h:bop op t e x y Kv=some r):∃ v,Kv v=some r∧∀ {R':Type} (K':Value→Option R'),bop op t e x y K'=K' v:=by
 unfold bop at h;split at h
 ·rename_i k a k' b;split at h
  ·cases hb:decide (b<0) with
   |true=>rw[hb]at h;simp at h
   |false=>rw[hb]at h;exact⟨_,h,λ K'=>by unfold bop;simp only[hb,cond_false]⟩
  ·cases hb:decide (b<0) with
   |true=>rw[hb]at h;simp at h
   |false=>rw[hb]at h;exact⟨_,h,λ K'=>by unfold bop;simp only[hb,cond_false]⟩
  ·rename_i n1 n2;obtain⟨hb,h⟩:=cs h;obtain⟨v,h1,h2⟩:=Ava h;refine⟨v,h1,λ K'=>?_⟩;unfold bop
   cases op<;>first|exact(n1 rfl).elim|exact(n2 rfl).elim|(simp only[hb,cond_true];exact h2 K')
 ·obtain⟨v,h1,h2⟩:=Awa h;exact⟨v,h1,λ K'=>h2 K'⟩
 ·rename_i a b;split at h
  ·exact⟨_,h,λ K'=>rfl⟩
  ·exact⟨_,h,λ K'=>rfl⟩
  ·cases h
 ·rename_i l l';obtain⟨hb,h⟩:=cs h;split at h
  ·split at h
   ·rename_i b he;exact⟨_,h,λ K'=>by unfold bop;simp only[hb,cond_true,he]⟩
   ·cases h
  ·split at h
   ·rename_i b he;exact⟨_,h,λ K'=>by unfold bop;simp only[hb,cond_true,he]⟩
   ·cases h
  ·cases h
 ·cases h
def Jxa {op:UnOp} {x:Sv} {Kv:Value→Option R} (h:uop op x Kv=some r):∃ v,Kv v=some r∧∀ {R':Type} (K':Value→Option R'),uop op x K'=K' v:=by
 unfold uop at h;split at h
 ·exact⟨_,h,λ K'=>rfl⟩
 ·exact⟨_,h,λ K'=>rfl⟩
 ·exact⟨_,h,λ K'=>rfl⟩
 ·cases h
def Gwa {t t':Option TI} {x:Sv} {Kv:Sv→Option R} (h:conv t t' x Kv=some r):∃ v,Kv v=some r∧∀ {R':Type} (K':Sv→Option R'),conv t t' x K'=K' v:=by
 unfold conv at h;split at h
 ·exact⟨_,h,λ K'=>rfl⟩
 ·exact⟨_,h,λ K'=>rfl⟩
 ·rename_i e _ _ _ _ e' xs
  cases hb:Nat.beq e e' with
  |false=>rw[hb]at h;simp at h
  |true=>rw[hb]at h;exact⟨_,h,λ K'=>by unfold conv;simp only[hb,cond_true]⟩
 ·rename_i e _ _ _ _ e' xs
  cases hb:Nat.beq e e' with
  |false=>rw[hb]at h;simp at h
  |true=>rw[hb]at h;exact⟨_,h,λ K'=>by unfold conv;simp only[hb,cond_true]⟩
 ·rename_i s
  cases hb:Nat.ble s.size 140737488355328 with
  |false=>rw[hb]at h;simp at h
  |true=>rw[hb]at h;exact⟨_,h,λ K'=>by unfold conv;simp only[hb,cond_true]⟩
 ·cases h
def Pt {mx:Bool}:∀ {l:List Sv} {k:IntKind} {x:Int} {Kv:Value→Option R},Jx mx l k x Kv=some r→∃ v,Kv v=some r∧∀ {R':Type} (K':Value→Option R'),Jx mx l k x K'=K' v:=by
 intro l
 induction l with
 |nil=>intro k x Kv h;exact⟨_,h,λ K'=>rfl⟩
 |cons s l ih=>
  intro k x Kv h;unfold Jx at h;split at h
  ·rename_i heq;cases heq
  ·rename_i k0 x0 K0 l9 k9 x9 K9 k' y l0 heq;cases heq;obtain⟨hb,h⟩:=cs h;obtain⟨v,h1,h2⟩:=ih h;exact⟨v,h1,λ K'=>by conv => { lhs;unfold Jx };simp only[hb,cond_true];exact h2 K'⟩
  ·cases h
def Hm {lo hi:Option Int} {n:Nat} {Kv:Unit→Option R} (h:U3 lo hi n Kv=some r):Kv ()=some r∧∀ {R':Type} (K':Unit→Option R'),U3 lo hi n K'=K' ():=by
 unfold U3 at h;split at h
 ·exact⟨h,λ K'=>rfl⟩
 ·rename_i l;obtain⟨h1,h⟩:=cs h
  cases h2:decide (l≤(n:Int)) with
  |false=>rw[h2]at h;simp at h
  |true=>rw[h2,cond_true]at h;exact⟨h,λ K'=>by unfold U3;simp only[h1,h2,cond_true]⟩
 ·rename_i l;obtain⟨h1,h⟩:=cs h
  cases h2:decide (l≤(n:Int)) with
  |false=>rw[h2]at h;simp at h
  |true=>rw[h2,cond_true]at h;exact⟨h,λ K'=>by unfold U3;simp only[h1,h2,cond_true]⟩
 ·rename_i l u;obtain⟨h1,h⟩:=cs h;obtain⟨h2,h⟩:=cs h
  cases h3:decide (u≤(n:Int)) with
  |false=>rw[h3]at h;simp at h
  |true=>rw[h3,cond_true]at h;exact⟨h,λ K'=>by unfold U3;simp only[h1,h2,h3,cond_true]⟩
def Dpa {op:BinOp} {T T':TypeId} {x y:Operand} {d:Nat} (ho:o.op = .binOp op T x y T') (hod:o.dst=some d) (hx:RX A F x) (hy:RX A F y) (h:Ai E o A Kc=some r):Loc E o A F Kc r:=by
 unfold Ai at h;rw[ho,hod]at h;simp only at h;split at h
 ·rename_i s s' hs hs';obtain⟨v,h1,h2⟩:=Jwa h;refine⟨_,h1,λ A' hA R' K'=>?_⟩;unfold Ai;rw[ho,hod];simp only[Aj hA hx,Aj hA hy,hs,hs'];exact h2 _
 ·cases h
def Gxa {op:UnOp} {T:TypeId} {x:Operand} {d:Nat} (ho:o.op = .unOp op T x) (hod:o.dst=some d) (hx:RX A F x) (h:Ai E o A Kc=some r):Loc E o A F Kc r:=by
 unfold Ai at h;rw[ho,hod]at h;simp only at h;split at h
 ·rename_i s hs;obtain⟨v,h1,h2⟩:=Jxa h;refine⟨_,h1,λ A' hA R' K'=>?_⟩;unfold Ai;rw[ho,hod];simp only[Aj hA hx,hs];exact h2 _
 ·cases h
def Ta {T T':TypeId} {x:Operand} {d:Nat} (hA:Ag A A' F) (hx:RX A F x):Mo E A' T T' x d=Mo E A T T' x d:=by
 unfold Mo
 cases x with
 |tmp t=>simp only[Aj hA hx]
 |const v=>rfl
 |func f=>rfl
 |global g=>rfl
def V6 {T T':TypeId} {x:Operand} {d:Nat} (ho:o.op = .convert T T' x) (hod:o.dst=some d) (hx:RX A F x) (h:Ai E o A Kc=some r):Loc E o A F Kc r:=by
 unfold Ai at h;rw[ho,hod]at h;simp only at h
 cases hi:Mo E A T T' x d with
 |some U=>
  rw[hi]at h;refine⟨U,h,λ A' hA R' K'=>?_⟩;unfold Ai;rw[ho,hod];simp only[Ta hA hx,hi]
 |none=>
  rw[hi]at h;simp only at h;split at h
  ·rename_i y hs;obtain⟨v,h1,h2⟩:=Gwa h;refine⟨_,h1,λ A' hA R' K'=>?_⟩;unfold Ai;rw[ho,hod];simp only[Ta hA hx,hi,Aj hA hx,hs,Dna hA (Ei hx hs)];exact h2 _
  ·cases h
def Gya {x:Operand} {d:Nat} (ho:o.op = .move x) (hod:o.dst=some d) (hx:∀ t,x = .tmp t→t∈F) (hio:∀ p∈N1a A x,p∈F) (h:Ai E o A Kc=some r):Loc E o A F Kc r:=by
 have hag:∀ A',Ag A A' F→∀ T,opT E T A' x=opT E T A x:=by
  intro A' hA T
  cases x with
  |tmp t=>show (bif Nat.blt t E.nt then some (get A' t).2 else none)=(bif Nat.blt t E.nt then some (get A t).2 else none);rw[hA t (hx t rfl)]
  |const v=>exact Aj hA (x := .const v) trivial
  |func f=>rfl
  |global g=>rfl
 unfold Ai at h;rw[ho,hod]at h;simp only at h;split at h
 ·rename_i s hs;split at h
  ·rename_i t e r' xs
   cases hn:(E.nm t&&!(E.mv d)) with
   |true=>
    rw[hn,cond_true]at h;refine⟨_,h,λ A' hA R' K'=>?_⟩;unfold Ai;rw[ho,hod];simp only[hag A' hA,hs,hn,cond_true,hA t (hx t rfl)]
   |false=>
    rw[hn,cond_false]at h;refine⟨_,h,λ A' hA R' K'=>?_⟩;unfold Ai;rw[ho,hod];simp only[hag A' hA,hs,hn,cond_false]
  ·rename_i t p
   have hst:(get A t).2 = .one (.io p):=by
    have h2:(bif Nat.blt t E.nt then some (get A t).2 else none)=some (.one (.io p)):=hs;cases hb:Nat.blt t E.nt
    ·rw[hb]at h2;cases h2
    rw[hb,cond_true,Vc]at h2;exact h2
   have hpF:p∈F:=hio p (by simp[N1a,hst]);refine⟨_,h,λ A' hA R' K'=>?_⟩;unfold Ai;rw[ho,hod];simp only[hag A' hA,hs,hA p hpF]
  ·rename_i hne1 hne2;refine⟨_,h,λ A' hA R' K'=>?_⟩;unfold Ai;rw[ho,hod];simp only[hag A' hA,hs]
 ·cases h
def Axa {x:Operand} {d:Nat} (ho:o.op = .assign x) (hod:o.dst=some d) (hx:RX A F x) (h:Ai E o A Kc=some r):Loc E o A F Kc r:=by
 unfold Ai at h;rw[ho,hod]at h;simp only at h;split at h
 ·rename_i p v hs;have hp:p∈F:=Ei hx hs;split at h
  ·rename_i n e r' xs hg;obtain⟨hn,h⟩:=cs h
   cases hr:E.res d with
   |true=>
    rw[hr,cond_true]at h;refine⟨_,h,λ A' hA R' K'=>?_⟩;unfold Ai;rw[ho,hod];simp only[Aj hA hx,hs,hA p hp,hg,hn,hr,cond_true]
   |false=>
    rw[hr,cond_false]at h;refine⟨_,h,λ A' hA R' K'=>?_⟩;unfold Ai;rw[ho,hod];simp only[Aj hA hx,hs,hA p hp,hg,hn,hr,cond_true,cond_false]
  ·rename_i n e r' xs hg;obtain⟨hn,h⟩:=cs h;refine⟨_,h,λ A' hA R' K'=>?_⟩;unfold Ai;rw[ho,hod];simp only[Aj hA hx,hs,hA p hp,hg,hn,cond_true]
  ·cases h
 ·rename_i s hne hs;refine⟨_,h,λ A' hA R' K'=>?_⟩;unfold Ai;rw[ho,hod];simp only[Aj hA hx,hs]
 ·cases h
def Gza {c x y:Operand} {d:Nat} (ho:o.op = .pick c x y) (hod:o.dst=some d) (hc:RX A F c) (hx:RX A F x) (hy:RX A F y) (h:Ai E o A Kc=some r):Loc E o A F Kc r:=by
 unfold Ai at h;rw[ho,hod]at h;simp only at h;split at h
 ·rename_i b hs
  cases b with
  |true=>
   rw[cond_true]at h;split at h
   ·rename_i u hu;refine⟨_,h,λ A' hA R' K'=>?_⟩;unfold Ai;rw[ho,hod];simp only[Aj hA hc,Aj hA hx,hs,hu,cond_true]
   ·cases h
  |false=>
   rw[cond_false]at h;split at h
   ·rename_i u hu;refine⟨_,h,λ A' hA R' K'=>?_⟩;unfold Ai;rw[ho,hod];simp only[Aj hA hc,Aj hA hy,hs,hu,cond_false]
   ·cases h
 ·cases h
def RP (A:Ab) (F:List Nat):Operand→Prop
 |.tmp t=>t∈F∧∀ y∈parts (get A t).2,(∀ b v n,y = .bp b v n→H b∈F)∧(∀ p v i n,y = .ep p v i n→p∈F)∧(∀ p v pi e r,∀ xs:List (Ty.den r),∀ i n,y = .dp p v pi e r xs i n→p∈F)
 |_=>True
def Y5:∀ {l:List Lf},(∀ p∈L9a l,p∈F)→∀ y∈l,(∀ b v n,y = .bp b v n→H b∈F)∧(∀ p v i n,y = .ep p v i n→p∈F)∧(∀ p v pi e r,∀ xs:List (Ty.den r),∀ i n,y = .dp p v pi e r xs i n→p∈F)
 |[],_,y,hy=>by simp at hy
 |z::l,h,y,hy=>by
  unfold L9a at h;rcases Vk.1 hy with rfl|hy
  ·refine⟨λ b v n e=>h _ (Vt _ ?_),λ p v i n e=>h _ (Vt _ ?_),λ p v pi e0 r xs i n e=>h _ (Vt _ ?_)⟩<;>(subst e;simp[rdH])
  ·exact Y5 (λ p hp=>h p (Vi _ hp)) y hy
def Iaa {x:Operand} (h:∀ p∈rdP A x,p∈F):RP A F x:=by
 cases x with
 |tmp t=>
  have h:∀ p∈t::L9a (parts (get A t).2),p∈F:=h;exact⟨h t (by simp),Y5 λ p hp=>h p (Ve _ hp)⟩
 |_=>trivial
def RP.opT {x:Operand} {T:TypeId} (hA:Ag A A' F) (hx:RP A F x):Vf.opT E T A' x=Vf.opT E T A x:=by
 cases x with
 |tmp t=>show (bif Nat.blt t E.nt then some (get A' t).2 else none)=(bif Nat.blt t E.nt then some (get A t).2 else none);rw[hA t hx.1]
 |const v=>exact Aj hA (x := .const v) trivial
 |func f=>rfl
 |global g=>rfl
def RP.live {x:Operand} {T:TypeId} {y:Lf} (hA:Ag A A' F) (hx:RP A F x) (h:Vf.opT E T A x=some (.one y)):P7 A' y=P7 A y:=by
 cases x with
 |tmp t=>
  have h:(bif Nat.blt t E.nt then some (get A t).2 else none)=some (.one y):=h;cases hb:Nat.blt t E.nt
  ·rw[hb]at h;simp at h
  rw[hb]at h;simp only[cond_true,Vc]at h;obtain⟨h1,h2,h3⟩:=hx.2 y (by rw[h];simp[parts])
  cases y with
  |bp b v n=>show Nat.beq (get A' (H b)).1 v=Nat.beq (get A (H b)).1 v;rw[hA _ (h1 b v n rfl)]
  |ep p v i n=>simp only[P7];rw[hA _ (h2 p v i n rfl)]
  |dp p v pi e r xs i n=>show Nat.beq (get A' p).1 v=Nat.beq (get A p).1 v;rw[hA _ (h3 p v pi e r xs i n rfl)]
  |_=>rfl
 |const v=>exact Rc hA (Ei (x := .const v) (F:=F) trivial h)
 |func f=>exact Rc hA (Ei (x := .func f) (F:=F) trivial h)
 |global g=>exact Rc hA (Ei (x := .global g) (F:=F) trivial h)
def Tb {x:Operand} {d:Nat} (ho:o.op = .nilCheck x) (hod:o.dst=some d) (hx:RP A F x) (h:Ai E o A Kc=some r):Loc E o A F Kc r:=by
 unfold Ai at h;rw[ho,hod]at h;simp only at h;split at h
 ·rename_i y hs;obtain⟨hl,h⟩:=cs h;refine⟨_,h,λ A' hA R' K'=>?_⟩;unfold Ai;rw[ho,hod];simp only[hx.opT hA,hs,hx.live hA hs,hl,cond_true]
 ·cases h
def Rd {T:TypeId} {x:Operand} {j d:Nat} (ho:o.op = .fieldAddr T x j) (hod:o.dst=some d) (hx:RP A F x) (h:Ai E o A Kc=some r):Loc E o A F Kc r:=by
 unfold Ai at h;rw[ho,hod]at h;simp only at h;split at h
 ·rename_i ti y hT hs;split at h
  ·rename_i f hf;obtain⟨hl,h⟩:=cs h;refine⟨_,h,λ A' hA R' K'=>?_⟩;unfold Ai;rw[ho,hod];simp only[hT,hx.opT hA,hs,hf,hx.live hA hs,hl,cond_true]
  ·cases h
 ·cases h
def V7 {t j d:Nat} (ho:o.op = .extract (.tmp t) j) (hod:o.dst=some d) (ht:t∈F) (h:Ai E o A Kc=some r):Loc E o A F Kc r:=by
 unfold Ai at h;rw[ho,hod]at h;simp only at h;cases hb:Nat.blt t E.nt
 ·rw[hb]at h;simp at h
 rw[hb,cond_true]at h;split at h
 ·rename_i vs hg;split at h
  ·rename_i ag l hn;split at h
   ·rename_i s hs
    cases hw:Cm l with
    |true=>
     rw[hw,cond_true]at h;refine⟨_,h,λ A' hA R' K'=>?_⟩;unfold Ai;rw[ho,hod];simp only[hb,cond_true,hA t ht,hg,hn,hs,hw]
    |false=>
     rw[hw,cond_false]at h;refine⟨_,h,λ A' hA R' K'=>?_⟩;unfold Ai;rw[ho,hod];simp only[hb,cond_true,hA t ht,hg,hn,hs,hw,cond_false]
   ·cases h
  ·cases h
 ·cases h
def Dqa {T:TypeId} {t j d:Nat} (ho:o.op = .field T (.tmp t) j) (hod:o.dst=some d) (ht:t∈F) (h:Ai E o A Kc=some r):Loc E o A F Kc r:=by
 unfold Ai at h;rw[ho,hod]at h;simp only at h;split at h
 ·rename_i ti l hT hg;split at h
  ·rename_i off z ag hn;split at h
   ·rename_i s hs;obtain⟨hb,h⟩:=cs h
    cases hw:Cm ((l.drop off).take z) with
    |true=>
     rw[hw,cond_true]at h;refine⟨_,h,λ A' hA R' K'=>?_⟩;unfold Ai;rw[ho,hod];simp only[hT,hA t ht,hg,hn,hs,hb,hw,cond_true]
    |false=>
     rw[hw,cond_false]at h;refine⟨_,h,λ A' hA R' K'=>?_⟩;unfold Ai;rw[ho,hod];simp only[hT,hA t ht,hg,hn,hs,hb,hw,cond_true,cond_false]
   ·cases h
  ·cases h
 ·cases h
def Dra {T:TypeId} {d:Nat} (ho:o.op = .alloc T) (hod:o.dst=some d) (hH:H d∈F) (h:Ai E o A Kc=some r):Loc E o A F Kc r:=by
 unfold Ai at h;rw[ho,hod]at h;simp only at h;split at h
 ·rename_i ti hT;obtain⟨hb,h⟩:=cs h;refine⟨_,h,λ A' hA R' K'=>?_⟩;unfold Ai;rw[ho,hod];simp only[hT,hb,cond_true,hA _ hH]
 ·cases h
def RL.als {s:Sv} (h:∀ y∈parts s,RL A F y):∀ y∈parts s,AL F y:=λ y hy=>(h y hy).al
def Mp (hA:Ag A A' F):∀ {l:List Lf},(∀ y∈l,AL F y)→Cn A' l=Cn A l
 |[],_=>rfl
 |y::l,h=>by
  have ih:=Mp hA (l:=l) (λ z hz=>h z (Ve _ hz))
  cases y with
  |al p v=>simp only[Cn,ih,Cy hA (h (.al p v) (by simp))]
  |_=>simp only[Cn,ih]
def Jya {T:TypeId} {x:Operand} {d:Nat} (ho:o.op = .box T x) (hod:o.dst=some d) (hH:H d∈F) (hx:RX A F x) (h:Ai E o A Kc=some r):Loc E o A F Kc r:=by
 unfold Ai at h;rw[ho,hod]at h;simp only at h;split at h
 ·rename_i ti s hT hs;have hal:=RL.als (J7 hx hs)
  cases hmv:mvO E x with
  |true=>
   rw[hmv,cond_true]at h;obtain⟨hb,h⟩:=cs h;refine⟨_,h,λ A' hA R' K'=>?_⟩;unfold Ai;rw[ho,hod];simp only[hT,Aj hA hx,hs,hmv,Mp hA hal,hb,cond_true,hA _ hH]
  |false=>
  rw[hmv,cond_false]at h;obtain⟨hb,h⟩:=cs h;refine⟨_,h,λ A' hA R' K'=>?_⟩;unfold Ai;rw[ho,hod];simp only[hT,Aj hA hx,hs,hmv,cond_false,Lk hA hal,hb,cond_true,Jo hA hal,hA _ hH]
 ·cases h
def H0a {T:TypeId} {x:Operand} {d:Nat} (ho:o.op = .load T x) (hod:o.dst=some d) (hx:RX A F x) (h:Ai E o A Kc=some r):Loc E o A F Kc r:=by
 unfold Ai at h;rw[ho,hod]at h;simp only at h;split at h
 ·rename_i ti b v off hT hs;obtain⟨h1,h2⟩:RL A F (.bp b v off):=Ei hx hs;split at h
  ·rename_i n m hg;obtain⟨hb,h⟩:=cs h
   have hle:off+ti.ty.sz≤m:=by
    simp only[Va]at hb;exact Vd hb.2
   have hcell:∀ i,i<ti.ty.sz→C b (off+i)∈F:=λ i hi=>(h2 m (by rw[hg]) (off+i) (by omega) (by omega)).1;split at h
   ·rename_i s hp;refine⟨_,h,λ A' hA R' K'=>?_⟩;unfold Ai;rw[ho,hod];simp only[hT,Aj hA hx,hs,hA _ h1,hg,hb,cond_true,Mf hA hcell,hp]
   ·cases h
  ·cases h
 ·rename_i ti p v i off hT hs;have hp:p∈F:=Ei hx hs;split at h
  ·rename_i n e r' xs hg;obtain⟨hb,h⟩:=cs h;split at h
   ·rename_i s hp2;refine⟨_,h,λ A' hA R' K'=>?_⟩;unfold Ai;rw[ho,hod];simp only[hT,Aj hA hx,hs,hA _ hp,hg,hb,cond_true,hp2]
   ·cases h
  ·cases h
 ·rename_i ti p v pi e0 r' xs i off hT hs;have hp:p∈F:=Ei hx hs;obtain⟨hb,h⟩:=cs h;split at h
  ·rename_i s hp2;refine⟨_,h,λ A' hA R' K'=>?_⟩;unfold Ai;rw[ho,hod];simp only[hT,Aj hA hx,hs,hA _ hp,hb,cond_true,hp2]
  ·cases h
 ·rename_i ti r' x' off hT hs;obtain⟨hb,h⟩:=cs h;split at h
  ·rename_i s hp2;refine⟨_,h,λ A' hA R' K'=>?_⟩;unfold Ai;rw[ho,hod];simp only[hT,Aj hA hx,hs,hb,cond_true,hp2]
  ·cases h
 ·cases h
def Mq (h:Ag A A' F):∀ {l:List Lf},(∀ p v pi e r,∀ xs:List (Ty.den r),Lf.da p v pi e r xs∈l→p∈F)→E7 A' l=E7 A l
 |[],_=>rfl
 |y::l,hp=>by
  have ih:=Mq h (l:=l) (λ p v pi e r xs hm=>hp p v pi e r xs (Ve _ hm))
  cases y with
  |da p v pi e r xs=>simp only[E7,ih,h p (hp p v pi e r xs (by simp))]
  |_=>simp only[E7,ih]
def Jza {l:List Lf} (h:∀ y∈l,RL A F y):∀ p v pi e r,∀ xs:List (Ty.den r),Lf.da p v pi e r xs∈l.map (Gk A)→p∈F:=by
 intro p v pi e r xs hm;obtain⟨y,hy,he⟩:=Za.1 hm
 cases y with
 |da p' v' pi' e' r' xs'=>
  simp only[Gk,Lf.da.injEq]at he;have:=h _ hy;rw[he.1]at this;exact this
 |al q w=>
  exfalso;simp only[Gk]at he
  have h1:∀ z:Lf,(∀ p v pi e r,∀ xs:List (Ty.den r),z ≠ .da p v pi e r xs)→∀ p v pi e r,∀ xs:List (Ty.den r),Hn z ≠ .da p v pi e r xs:=by
   intro z hz p v pi e r xs
   cases z<;>simp[Hn]
   exact λ e1 e2 e3 e4 e5 e6=>hz _ _ _ _ _ _ rfl
  refine h1 (G5 A (.al q w)) ?_ _ _ _ _ _ _ he;intro p v pi e r xs;simp only[G5];split
  ·rename_i n _ _ _ _
   cases Nat.beq n w<;>simp
  ·rename_i n _ _ _ _
   cases Nat.beq n w<;>simp
  ·simp
 |_=>simp[Gk]at he
def J8:∀ {ts:List Ty} {l:List Lf} {A A':Ab},Ag A A' F→(∀ y∈l,AL F y)→Ck A' ts l=Ck A ts l
 |[],[],_,_,_,_=>rfl
 |[],_::_,_,_,_,_=>rfl
 |t::ts,[],_,_,_,_=>by cases t<;>rfl
 |t::ts,x::l,A,A',hA,hy=>by
  have hx:AL F x:=hy x (by simp);have hl:∀ y∈l,AL F y:=λ y hm=>hy y (Ve _ hm)
  cases t<;>simp only[Ck,Cy hA hx,V4 hA hx,V5 hA hx,J8 (hA.ups (U:=U8 x)) hl,J8 (hA.ups (U:=N3 A x)) hl]
def Dsa (hA:Ag A A' F):∀ {l:List Lf},(∀ y∈l,AL F y)→Iya A' l=Iya A l
 |[],_=>rfl
 |y::l,h=>by simp only[Iya,Cy hA (h y (by simp)),Dsa hA (λ z hz=>h z (Ve _ hz))]
def H1a {x:Operand} {s:Sv} (hA:Ag A A' F) (hal:∀ y∈parts s,AL F y):Lw A' x s (Iya (ups A' (gone x s)) (parts s))=Lw A x s (Iya (ups A (gone x s)) (parts s)):=by
 have hA1:=hA.ups (U:=gone x s);unfold Lw;rw[Dsa hA1 hal,J8 hA1 hal]
def Dta {T:TypeId} {x y:Operand} (ho:o.op = .store T x y) (hod:o.dst=none) (hx:RX A F x) (hy:RX A F y) (h:Ai E o A Kc=some r):Loc E o A F Kc r:=by
 unfold Ai at h;rw[ho,hod]at h;simp only at h;split at h
 ·rename_i ti b v off s hT hs hs2;obtain⟨h1,h2⟩:RL A F (.bp b v off):=Ei hx hs;have hal:=RL.als (J7 hy hs2)
  cases hmv:mvO E y with
  |true=>
   rw[hmv,cond_true]at h;split at h
   ·rename_i m vs hgive;split at h
    ·rename_i n hd hg;obtain⟨hb,h⟩:=cs h;refine⟨_,h,λ A' hA R' K'=>?_⟩;unfold Ai;rw[ho,hod];simp only[hT,Aj hA hx,hs,Aj hA hy,hs2,hmv,H1a hA hal,hgive,hA _ h1,hg,hb,cond_true]
    ·cases h
   ·cases h
  |false=>
  rw[hmv,cond_false]at h;split at h
  ·rename_i n m hg;obtain⟨hb,h⟩:=cs h;refine⟨_,h,λ A' hA R' K'=>?_⟩;unfold Ai;rw[ho,hod];simp only[hT,Aj hA hx,hs,Aj hA hy,hs2,hmv,cond_false,hA _ h1,hg,Lk hA hal,Jo hA hal,Mq (hA.ups (U:=G0 A (parts s)++gone y s)) (Jza (J7 hy hs2)),hb,cond_true]
  ·cases h
 ·rename_i ti p v i off s hT hs hs2;have hp:p∈F:=Ei hx hs;have hal:=RL.als (J7 hy hs2);split at h
  ·rename_i n e r' xs hg;obtain⟨hb,h⟩:=cs h;split at h
   ·rename_i z hz;refine⟨_,h,λ A' hA R' K'=>?_⟩;unfold Ai;rw[ho,hod];simp only[hT,Aj hA hx,hs,Aj hA hy,hs2,hA _ hp,hg,Lk hA hal,Y4 hA hal,hb,cond_true,Jo hA hal,hz]
   ·cases h
  ·cases h
 ·rename_i ti p v q e r1 xs i off s hT hs hs2;have hp:p∈F:=Ei hx hs;have hal:=RL.als (J7 hy hs2);split at h
  ·rename_i m us hgive;split at h
   ·rename_i n E0 R0 XS hg;obtain⟨hb,h⟩:=cs h;split at h
    ·rename_i z hz;split at h
     ·rename_i XS' hput;refine⟨_,h,λ A' hA R' K'=>?_⟩;unfold Ai;rw[ho,hod];simp only[hT,Aj hA hx,hs,Aj hA hy,hs2,Doa hA hal,hgive,hA _ hp,hg,hb,cond_true,hz,hput]
     ·cases h
    ·cases h
   ·cases h
  ·cases h
 ·cases h
end
end

section
attribute [local irreducible] C H
section
variable {E:En} {A A':Ab} {F:List Nat} {o:Oper} {R:Type} {Kc:List Up→Option R} {r:R}
def Dua {B p:Nat} {e:TypeId} {r':Ty} {xs:List r'.den} {i:Int} {K:List Up→Option R} (hB:H B∈F) (h:Ni A B p e r' xs i K none=some r):∃ U,K U=some r∧∀ A',Ag A A' F→∀ {R':Type} (K':List Up→Option R'),Ni A' B p e r' xs i K' none=K' U:=by
 unfold Ni at h;obtain⟨h1,h⟩:=cs h;obtain⟨h2,h⟩:=cs h;obtain⟨h3,h⟩:=cs h;refine⟨_,h,λ A' hA R' K'=>?_⟩;unfold Ni;simp only[h1,h2,h3,cond_true,hA _ hB]
def Re {T:TypeId} {x i:Operand} {d:Nat} (ho:o.op = .indexAddr T x i) (hod:o.dst=some d) (hopn:E.opn d=true) (hB:H (2000+d)∈F) (hx:RX A F x) (hi:RX A F i) (h:Ai E o A Kc=some r):Loc E o A F Kc r:=by
 unfold Ai at h;rw[ho,hod]at h;simp only[hopn,cond_true]at h;split at h
 ·rename_i p v k n hs hn;have hp:p∈F:=Ei hx hs;split at h
  ·rename_i m e r' xs hgp;obtain⟨hq,h⟩:=cs h;obtain⟨U,h1,h2⟩:=Dua hB h;refine⟨_,h1,λ A' hA R' K'=>?_⟩;unfold Ai;rw[ho,hod];simp only[hopn,Aj hA hx,Aj hA hi,hs,hn,hA p hp,hgp,hq,cond_true,hA _ hB];exact h2 A' hA _
  ·cases h
 ·cases h
def Rf {T:TypeId} {x i:Operand} {d:Nat} (ho:o.op = .indexAddr T x i) (hod:o.dst=some d) (hopn:E.opn d=false) (hx:RX A F x) (hi:RX A F i) (h:Ai E o A Kc=some r):Loc E o A F Kc r:=by
 unfold Ai at h;rw[ho,hod]at h;simp only[hopn,cond_false]at h;split at h
 ·rename_i y k n hs hn;have hrl:=Ei hx hs;have hal:=hrl.al;split at h
  ·rename_i p v e r' xs hse;obtain⟨hb,h⟩:=cs h;obtain⟨hl,h⟩:=cs h
   cases hno:Gd r' with
   |true=>
    rw[hno,cond_true]at h;refine⟨_,h,λ A' hA R' K'=>?_⟩;unfold Ai;rw[ho,hod];simp only[hopn,cond_false,Aj hA hx,Aj hA hi,hs,hn,Cy hA hal,hse,hb,hl,hno,cond_true]
   |false=>
    rw[hno,cond_false]at h;obtain⟨hao,h⟩:=cs h;refine⟨_,h,λ A' hA R' K'=>?_⟩;unfold Ai;rw[ho,hod];simp only[hopn,cond_false,Aj hA hx,Aj hA hi,hs,hn,Cy hA hal,hse,hb,hl,hno,hao,cond_true,cond_false]
  ·rename_i p v pi e r' xs;have hp:p∈F:=hrl;obtain⟨hb,h⟩:=cs h;obtain⟨hl,h⟩:=cs h;refine⟨_,h,λ A' hA R' K'=>?_⟩;unfold Ai;rw[ho,hod];simp only[hopn,cond_false,Aj hA hx,Aj hA hi,hs,hn,hA p hp,hb,hl,cond_true]
  ·rename_i p v hse;have hp:p∈F:=hrl;split at h
   ·rename_i m e r0 xs0 i0 b0 vb hgp;obtain⟨hb,h⟩:=cs h;obtain⟨hl,h⟩:=cs h;refine⟨_,h,λ A' hA R' K'=>?_⟩;unfold Ai;rw[ho,hod];simp only[hopn,cond_false,Aj hA hx,Aj hA hi,hs,hn,Cy hA hal,hse,hA p hp,hgp,hb,hl,cond_true]
   ·cases h
  ·rename_i e r' xs hnda hse;obtain⟨hb,h⟩:=cs h;obtain⟨hl,h⟩:=cs h;refine⟨_,h,λ A' hA R' K'=>?_⟩;unfold Ai;rw[ho,hod];simp only[hopn,cond_false,Aj hA hx,Aj hA hi,hs,hn,Cy hA hal,hse,hb,hl,cond_true]
  ·rename_i e r' xs hne hnda hse;split at h
   ·rename_i t;have ht:t∈F:=hx.1;obtain⟨hb,h⟩:=cs h;obtain⟨hl,h⟩:=cs h
    cases hno:Gd r' with
    |true=>
     rw[hno,cond_true]at h;refine⟨_,h,λ A' hA R' K'=>?_⟩;unfold Ai;rw[ho,hod];simp only[hopn,cond_false,Aj hA hx,Aj hA hi,hs,hn,Cy hA hal,hse,hb,hl,hno,cond_true,hA t ht]
    |false=>
     rw[hno,cond_false]at h;obtain⟨hao,h⟩:=cs h;refine⟨_,h,λ A' hA R' K'=>?_⟩;unfold Ai;rw[ho,hod];simp only[hopn,cond_false,Aj hA hx,Aj hA hi,hs,hn,Cy hA hal,hse,hb,hl,hno,hao,cond_true,cond_false,hA t ht]
   ·cases h
  ·cases h
 ·cases h
def Dva {T:TypeId} {x i:Operand} {d:Nat} (ho:o.op = .index T x i) (hod:o.dst=some d) (hx:RX A F x) (hi:RX A F i) (h:Ai E o A Kc=some r):Loc E o A F Kc r:=by
 unfold Ai at h;rw[ho,hod]at h;simp only at h;split at h
 ·rename_i s k n hs hn;obtain⟨hb,h⟩:=cs h;obtain⟨hl,h⟩:=cs h;refine⟨_,h,λ A' hA R' K'=>?_⟩;unfold Ai;rw[ho,hod];simp only[Aj hA hx,Aj hA hi,hs,hn,hb,hl,cond_true]
 ·cases h
def Ef (hA:Ag A A' F) {x:Option Operand} (hx:∀ y,x=some y→RX A F y):Qd E A' x=Qd E A x:=by
 cases x with
 |none=>rfl
 |some y=>simp only[Qd,Aj hA (hx y rfl)]
def Gj {T:TypeId} {x:Operand} {lo hi:Option Operand} {d:Nat} (hA:Ag A A' F) (hx:RX A F x) (hlo:∀ y,lo=some y→RX A F y) (hhi:∀ y,hi=some y→RX A F y) (htw:∀ p∈Aba A x lo,p∈F):Ph E A' T x lo hi d=Ph E A T x lo hi d:=by
 unfold Ph;rw[Aj hA hx];split
 ·rename_i q v1 v2 hs
  have hst:∃ t,x = .tmp t∧(get A t).2 = .one (.two q v1 v2):=by
   cases x with
   |tmp t=>
    refine⟨t,rfl,?_⟩;have h2:(bif Nat.blt t E.nt then some (get A t).2 else none)=some (.one (.two q v1 v2)):=hs;cases hb:Nat.blt t E.nt
    ·rw[hb]at h2;cases h2
    rw[hb,cond_true,Vc]at h2;exact h2
   |const v=>
    exfalso
    have key:∀ z,opT E T A (.const v)=some z→(∃ e r,z = .one (.own e r []))∨∃ u,z = .one (.sc u):=by
     intro z hz;unfold opT at hz;split at hz
     ·rename_i heq;cases heq
     ·split at hz
      ·cases hz;exact .inl ⟨_,_,rfl⟩
      ·cases hz
     ·revert hz
      generalize U6 _=bb
      cases bb<;>intro hz<;>cases hz
      exact .inr ⟨_,rfl⟩
     ·rename_i heq;cases heq
     ·cases hz
    rcases key _ hs with⟨_,_,h⟩|⟨_,h⟩<;>cases h
   |func f=>cases hs
   |global g=>cases hs
  obtain⟨t,rfl,ht⟩:=hst
  cases lo with
  |none=>
   cases hi with
   |none=>rfl
   |some y=>
    have hq:q∈F:=htw q (by simp[Aba,ht]);simp only[hA q hq,Ef hA hhi]
  |some y=>
   cases hi with
   |some _=>rfl
   |none=>
    have hq:q+1∈F:=htw (q+1) (by simp[Aba,ht]);simp only[hA (q+1) hq,Ef hA hlo]
 ·rfl
def Dwa {T:TypeId} {x:Operand} {lo hi:Option Operand} {d:Nat} (ho:o.op = .slice T x lo hi none) (hod:o.dst=some d) (hx:RX A F x) (hlo:∀ y,lo=some y→RX A F y) (hhi:∀ y,hi=some y→RX A F y) (htw:∀ p∈Aba A x lo,p∈F) (h:Ai E o A Kc=some r):Loc E o A F Kc r:=by
 unfold Ai at h;rw[ho,hod]at h;simp only at h;split at h
 ·rename_i q hpc;obtain⟨hq,h⟩:=cs h;refine⟨_,h,λ A' hA R' K'=>?_⟩;unfold Ai;rw[ho,hod];simp only[Gj hA hx hlo hhi htw,hpc,hq,cond_true]
 rename_i hpc;split at h
 ·rename_i s l u hs hl hu;obtain⟨hq,h⟩:=cs h;obtain⟨h1,h2⟩:=Hm h;refine⟨_,h1,λ A' hA R' K'=>?_⟩;unfold Ai;rw[ho,hod];simp only[Gj hA hx hlo hhi htw,hpc,Aj hA hx,Ef hA hlo,Ef hA hhi,hs,hl,hu,hq,cond_true];exact h2 _
 ·rename_i y l u hne hs hl hu;have hal:=(Ei hx hs).al;split at h
  ·rename_i e0 r0 xs0 e r' xs hsn;obtain⟨hq,h⟩:=cs h;split at h
   ·obtain⟨h1,h2⟩:=Hm h;refine⟨_,h1,λ A' hA R' K'=>?_⟩;unfold Ai;rw[ho,hod];simp only[Gj hA hx hlo hhi htw,hpc,Aj hA hx,Ef hA hlo,Ef hA hhi,hs,hl,hu,Cy hA hal,hsn,hq,cond_true];exact h2 _
   ·obtain⟨h1,h2⟩:=Hm h;refine⟨_,h1,λ A' hA R' K'=>?_⟩;unfold Ai;rw[ho,hod];simp only[Gj hA hx hlo hhi htw,hpc,Aj hA hx,Ef hA hlo,Ef hA hhi,hs,hl,hu,Cy hA hal,hsn,hq,cond_true];exact h2 _
  ·rename_i p v e r' xs hsn;have hp:p∈F:=Ei hx hs;obtain⟨hq,h⟩:=cs h
   cases hmv:E.mv d with
   |true=>
    rw[hmv,cond_true]at h;split at h
    ·obtain⟨h1,h2⟩:=Hm h;refine⟨_,h1,λ A' hA R' K'=>?_⟩;unfold Ai;rw[ho,hod];simp only[Gj hA hx hlo hhi htw,hpc,Aj hA hx,Ef hA hlo,Ef hA hhi,hs,hl,hu,Cy hA hal,hsn,hq,hmv,cond_true];exact h2 _
    ·cases h
   |false=>
    rw[hmv,cond_false]at h
    cases hno:Gd r' with
    |true=>
     rw[hno,cond_true]at h;obtain⟨h1,h2⟩:=Hm h;refine⟨_,h1,λ A' hA R' K'=>?_⟩;unfold Ai;rw[ho,hod];simp only[Gj hA hx hlo hhi htw,hpc,Aj hA hx,Ef hA hlo,Ef hA hhi,hs,hl,hu,Cy hA hal,hsn,hq,hmv,hno,cond_true,cond_false,V5 hA hal];exact h2 _
    |false=>
     rw[hno,cond_false]at h;obtain⟨hao,h⟩:=cs h;obtain⟨h1,h2⟩:=Hm h;refine⟨_,h1,λ A' hA R' K'=>?_⟩;unfold Ai;rw[ho,hod];simp only[Gj hA hx hlo hhi htw,hpc,Aj hA hx,Ef hA hlo,Ef hA hhi,hs,hl,hu,Cy hA hal,hsn,hq,hmv,hno,hao,cond_true,cond_false];exact h2 _
  ·rename_i p v pi e r' xs;have hp:p∈F:=Ei hx hs;obtain⟨hq,h⟩:=cs h;obtain⟨h1,h2⟩:=Hm h;refine⟨_,h1,λ A' hA R' K'=>?_⟩;unfold Ai;rw[ho,hod];simp only[Gj hA hx hlo hhi htw,hpc,Aj hA hx,Ef hA hlo,Ef hA hhi,hs,hl,hu,hA p hp,hq,cond_true];exact h2 _
  ·rename_i e r' xs hnda hsn;obtain⟨hq,h⟩:=cs h;obtain⟨h1,h2⟩:=Hm h;refine⟨_,h1,λ A' hA R' K'=>?_⟩;unfold Ai;rw[ho,hod];simp only[Gj hA hx hlo hhi htw,hpc,Aj hA hx,Ef hA hlo,Ef hA hhi,hs,hl,hu,Cy hA hal,hsn,hq,cond_true];exact h2 _
  ·cases h
 ·cases h
def Tc {A:Ab} {y:Lf}:∀ u∈N3 A y,J6 u:=by
 intro u hu;unfold N3 at hu;split at hu
 ·rename_i p v;split at hu
  ·rename_i n e r xs hg;cases hb:Nat.beq n v
   ·rw[hb]at hu;simp at hu
   rw[hb]at hu;simp only[cond_true,Vz]at hu;subst hu;exact .inr ⟨e,r,xs,rfl⟩
  ·simp at hu
 ·simp at hu
def Pu {A:Ab}:∀ {l:List Lf},∀ u∈G0 A l,J6 u
 |[],u,hu=>by simp[G0]at hu
 |y::l,u,hu=>by
  unfold G0 at hu;rcases Vm.1 hu with hu|hu
  ·exact Tc u hu
  ·exact Pu u hu
def Od {x:Operand} {s:Sv}:∀ u∈gone x s,J6 u:=by
 intro u hu;unfold gone at hu;split at hu
 ·rename_i t;cases hb:Hr s
  ·rw[hb]at hu;simp at hu
  rw[hb]at hu;simp only[cond_true,Vz]at hu;subst hu;exact .inl rfl
 ·simp at hu
def Dxa {y:Lf} {x:Operand}:∀ u∈Pf y x,J6 u:=by
 intro u hu;unfold Pf at hu;split at hu
 ·simp only[Vz]at hu;subst hu;exact .inl rfl
 ·simp only[Vz]at hu;subst hu;exact .inl rfl
 ·simp at hu
def Dya {A:Ab} {l:List Lf} {x:Operand} {s:Sv}:∀ u∈G0 A l++gone x s,J6 u:=λ u hu=>(Vm.1 hu).elim (Pu u) (Od u)
def Ki:∀ {l:List Lf} {A:Ab} {m:List Lf} {us:List Up},Ge A l=some (m,us)→∀ u∈us,J6 u
 |[],A,m,us,h=>by
  simp only[Ge,Vc,Vu]at h;obtain⟨_,rfl⟩:=h;simp
 |x::l,A,m,us,h=>by
  by_cases hal:∃ p v,x = .al p v
  ·obtain⟨p,v,rfl⟩:=hal;simp only[Ge]at h;split at h
   ·split at h
    ·rename_i m' us' hrec;cases h;intro u hu;rcases Vk.1 hu with rfl|hu
     ·exact .inl rfl
     ·exact Ki hrec u hu
    ·cases h
   ·cases h
  ·obtain⟨m',rfl,h'⟩:=Kg (λ p v e=>hal ⟨p,v,e⟩) h;exact Ki h'
def Dza {A:Ab} {x:Operand} {s:Sv} {m:List Lf} {us:List Up} (h:Bia A x s=some (m,us)):∀ u∈us,J6 u:=by
 unfold Bia at h;split at h
 ·rename_i m0 vs0 ht;cases h;exact λ u hu=>(Vm.1 hu).elim (Od u) (Ki ht u)
 ·cases h
def Oe {T:TI}:∀ {ps:List (Nat×Operand)} {A A':Ab} {l:List Lf} {us:List Up},Ag A A' F→(∀ p∈ps,RX A F p.2)→Hs E A' T l us ps=Hs E A T l us ps
 |[],_,_,_,_,_,_=>rfl
 |(i,x)::ps,A,A',l,us,hA,hp=>by
  have hx:RX A F x:=hp (i,x) (by simp);have hps:∀ p∈ps,RX A F p.2:=λ p hm=>hp p (Ve _ hm);have e0:∀ l us,Hs E A' T l us ps=Hs E A T l us ps:=λ l us=>Oe hA hps;unfold Hs
  cases hn:nth T.fo i with
  |none=>rfl
  |some o=>
   obtain⟨off,z,ag⟩:=o;simp only[Aj hA hx]
   have gen:∀ {s:Sv},opT E 0 A x=some s→(let m:=(parts s).map (Gk A');bif A3 m&&Nat.beq m.length z&&Nat.ble (off+z) l.length then Hs E (ups A' (G0 A' (parts s)++gone x s)) T (setAll l off m) (us++(G0 A' (parts s)++gone x s)) ps else none) =
     (let m:=(parts s).map (Gk A);bif A3 m&&Nat.beq m.length z&&Nat.ble (off+z) l.length then Hs E (ups A (G0 A (parts s)++gone x s)) T (setAll l off m) (us++(G0 A (parts s)++gone x s)) ps else none):=by
    intro s hs;have hal:=RL.als (J7 hx hs);simp only[Lk hA hal,Jo hA hal];rw[Oe (hA.ups (U:=G0 A (parts s)++gone x s)) (λ p hm=>(hps p hm).ups Dya)]
   split
   ·cases Nat.beq z 1
    ·rfl
    simp only[cond_true];split
    ·exact e0 _ _
    ·rfl
   ·cases hs:opT E 0 A x with
    |none=>rfl
    |some s=>exact gen hs
def E0a {T:TypeId} {ps:Array (Nat×Operand)} {d:Nat} (ho:o.op = .build T ps) (hod:o.dst=some d) (hp:∀ p∈ps.toList,RX A F p.2) (h:Ai E o A Kc=some r):Loc E o A F Kc r:=by
 unfold Ai at h;rw[ho,hod]at h;simp only at h;split at h
 ·rename_i ti hT;split at h
  ·rename_i l us hb;obtain⟨ha,h⟩:=cs h;refine⟨_,h,λ A' hA R' K'=>?_⟩;unfold Ai;rw[ho,hod];simp only[hT,Oe hA hp,hb,ha,cond_true]
  ·cases h
 ·cases h
def Y6 {e:TypeId} {t:Ty}:∀ {ps:List (Nat×Operand)} {A A':Ab} {i:Nat},Ag A A' F→(∀ p∈ps,RX A F p.2)→S4 E A' e t i ps=S4 E A e t i ps
 |[],_,_,_,_,_=>rfl
 |(j,x)::ps,A,A',i,hA,hp=>by
  have hx:RX A F x:=hp (j,x) (by simp);have hps:∀ p∈ps,RX A F p.2:=λ p hm=>hp p (Ve _ hm);unfold S4;cases Nat.beq i j
  ·rfl
  simp only[cond_true,Aj hA hx]
  cases hs:opT E e A x with
  |none=>rfl
  |some s=>
   have hal:=RL.als (J7 hx hs);simp only[Lk hA hal,Y4 hA hal,Jo hA hal];rw[Y6 (hA.ups (U:=G0 A (parts s)++gone x s)) (λ p hm=>(hps p hm).ups Dya)]
def Y7 {e:TypeId} {t:Ty}:∀ {ps:List (Nat×Operand)} {A A':Ab} {i:Nat},Ag A A' F→(∀ p∈ps,RX A F p.2)→S5 E A' e t i ps=S5 E A e t i ps
 |[],_,_,_,_,_=>rfl
 |(j,x)::ps,A,A',i,hA,hp=>by
  have hx:RX A F x:=hp (j,x) (by simp);have hps:∀ p∈ps,RX A F p.2:=λ p hm=>hp p (Ve _ hm);unfold S5;cases Nat.beq i j
  ·rfl
  simp only[cond_true,Aj hA hx]
  cases hs:opT E e A x with
  |none=>rfl
  |some s=>
   have hal:=RL.als (J7 hx hs);simp only[Doa hA hal]
   cases hgv:Bia A x s with
   |none=>rfl
   |some q=>
    obtain⟨m,us⟩:=q;simp only;rw[Y7 (hA.ups (U:=us)) (λ p hm=>(hps p hm).ups (Dza hgv))]
def Pc {T:TypeId} {n:Nat} {ps:Array (Nat×Operand)} {d:Nat} (ho:o.op = .buildSlice T n ps) (hod:o.dst=some d) (hp:∀ p∈ps.toList,RX A F p.2) (h:Ai E o A Kc=some r):Loc E o A F Kc r:=by
 unfold Ai at h;rw[ho,hod]at h;simp only at h;split at h
 ·rename_i e r' b f hT;obtain⟨hb,h⟩:=cs h;split at h
  ·rename_i hh;obtain⟨hno,h⟩:=cs h;split at h
   ·rename_i ys us hr;refine⟨_,h,λ A' hA R' K'=>?_⟩;unfold Ai;rw[ho,hod];simp only[hT,hb,hh,hno,cond_true,Y6 hA hp,hr]
   ·cases h
  ·rename_i r2 hh;obtain⟨hb2,h⟩:=cs h;split at h
   ·rename_i ys us hr;refine⟨_,h,λ A' hA R' K'=>?_⟩;unfold Ai;rw[ho,hod];simp only[hT,hb,hh,hb2,cond_true,Y7 hA hp,hr]
   ·cases h
 ·cases h
def Rg {T:TypeId} {x y:Operand} {d:Nat} (ho:o.op = .makeSlice T x y) (hod:o.dst=some d) (hx:RX A F x) (hy:RX A F y) (h:Ai E o A Kc=some r):Loc E o A F Kc r:=by
 unfold Ai at h;rw[ho,hod]at h;simp only at h;split at h
 ·rename_i e r' b f n m hT hs hm;split at h
  ·rename_i te he;obtain⟨hb,h⟩:=cs h;obtain⟨h0,h⟩:=cs h;obtain⟨h1,h⟩:=cs h;split at h
   ·rename_i hh;refine⟨_,h,λ A' hA R' K'=>?_⟩;unfold Ai;rw[ho,hod];simp only[hT,Aj hA hx,Aj hA hy,hs,hm,he,hb,h0,h1,hh,cond_true]
   ·rename_i r2 hh;obtain⟨h2,h⟩:=cs h;refine⟨_,h,λ A' hA R' K'=>?_⟩;unfold Ai;rw[ho,hod];simp only[hT,Aj hA hx,Aj hA hy,hs,hm,he,hb,h0,h1,hh,h2,cond_true]
  ·cases h
 ·cases h
def Of (hA:Ag A A' F):∀ {xs:List Operand} {Ts:List TypeId},(∀ x∈xs,RX A F x)→Lu E Ts A' xs=Lu E Ts A xs
 |[],_,_=>by simp only[Lu]
 |x::xs,[],_=>by simp only[Lu]
 |x::xs,T::Ts,hx=>by
  unfold Lu;simp only[Aj hA (hx x (by simp)),Of hA (xs:=xs) (Ts:=Ts) (λ y hy=>hx y (Ve _ hy))]
def V8:∀ {xs:List Operand} {Ts:List TypeId} {ss:List Sv},(∀ x∈xs,RX A F x)→Lu E Ts A xs=some ss→∀ s∈ss,∀ y∈parts s,RL A F y
 |[],_,ss,_,h=>by
  simp only[Lu,Vc]at h;subst h;intro s hs;simp at hs
 |x::xs,[],ss,_,h=>by simp[Lu]at h
 |x::xs,T::Ts,ss,hx,h=>by
  simp only[Lu]at h;split at h
  ·rename_i s hs;split at h
   ·rename_i ss' hss;cases h;intro s' hs' y hy;rcases Vk.1 hs' with rfl|hs'
    ·exact J7 (hx x (by simp)) hs y hy
    ·exact V8 (λ y hy=>hx y (Ve _ hy)) hss s' hs' y hy
   ·cases h
  ·cases h
def K0a {c:Call} (ho:o.op = .call c) (hc:c.callee = .builtin .len) (hx:∀ x∈c.args.toList,RX A F x) (h:Ai E o A Kc=some r):Loc E o A F Kc r:=by
 unfold Ai at h;rw[ho]at h;simp only[hc]at h;split at h
 ·rename_i T x d hT hxs hod;have hx0:RX A F x:=hx x (by rw[hxs];simp);split at h
  ·rename_i y hs;have hal:=(Ei hx0 hs).al;split at h
   ·rename_i s hse;obtain⟨hb,h⟩:=cs h;refine⟨_,h,λ A' hA R' K'=>?_⟩;unfold Ai;rw[ho,hod];simp only[hc,hT,hxs,Aj hA hx0,hs,Cy hA hal,hse,hb,cond_true]
   ·rename_i p v pi e r' xs hse
    have hy:y = .da p v pi e r' xs:=by
     cases y<;>first|exact hse|skip
     simp only[G5]at hse;split at hse
     ·rename_i n _ _ _ _
      cases hbb:Nat.beq n _<;>rw[hbb]at hse<;>simp at hse
     ·rename_i n _ _ _ _
      cases hbb:Nat.beq n _<;>rw[hbb]at hse<;>simp at hse
     ·cases hse
    have hp:p∈F:=by have:=Ei hx0 hs;rw[hy]at this;exact this
    obtain⟨hb,h⟩:=cs h;refine⟨_,h,λ A' hA R' K'=>?_⟩;unfold Ai;rw[ho,hod];simp only[hc,hT,hxs,Aj hA hx0,hs,Cy hA hal,hse,hA p hp,hb,cond_true]
   ·rename_i e r' xs hse;obtain⟨hb,h⟩:=cs h;refine⟨_,h,λ A' hA R' K'=>?_⟩;unfold Ai;rw[ho,hod];simp only[hc,hT,hxs,Aj hA hx0,hs,Cy hA hal,hse,hb,cond_true]
   ·rename_i e r' xs hse;obtain⟨hb,h⟩:=cs h;refine⟨_,h,λ A' hA R' K'=>?_⟩;unfold Ai;rw[ho,hod];simp only[hc,hT,hxs,Aj hA hx0,hs,Cy hA hal,hse,hb,cond_true]
   ·cases h
  ·cases h
 ·cases h
def K1a {c:Call} (ho:o.op = .call c) (hc:c.callee = .builtin .min) (hx:∀ x∈c.args.toList,RX A F x) (h:Ai E o A Kc=some r):Loc E o A F Kc r:=by
 unfold Ai at h;rw[ho]at h;simp only[hc]at h;split at h
 ·rename_i k n l d hs hod;obtain⟨v,h1,h2⟩:=Pt h;refine⟨_,h1,λ A' hA R' K'=>?_⟩;unfold Ai;rw[ho,hod];simp only[hc,Of hA hx,hs];exact h2 _
 ·cases h
def K2a {c:Call} (ho:o.op = .call c) (hc:c.callee = .builtin .max) (hx:∀ x∈c.args.toList,RX A F x) (h:Ai E o A Kc=some r):Loc E o A F Kc r:=by
 unfold Ai at h;rw[ho]at h;simp only[hc]at h;split at h
 ·rename_i k n l d hs hod;obtain⟨v,h1,h2⟩:=Pt h;refine⟨_,h1,λ A' hA R' K'=>?_⟩;unfold Ai;rw[ho,hod];simp only[hc,Of hA hx,hs];exact h2 _
 ·cases h
def Aya {c:Call} (ho:o.op = .call c) (hc:c.callee = .builtin .append) (hx:∀ x∈c.args.toList,RX A F x) (h:Ai E o A Kc=some r):Loc E o A F Kc r:=by
 unfold Ai at h;rw[ho]at h;simp only[hc]at h;split at h
 ·rename_i T T' x y d hT hxs hod;have hx0:RX A F x:=hx x (by rw[hxs];simp);have hy0:RX A F y:=hx y (by rw[hxs];simp);split at h
  ·rename_i u w hsu hsw;have hau:=(Ei hx0 hsu).al;have hrw:=Ei hy0 hsw;split at h
   ·rename_i e r' xs hsu';split at h
    ·rename_i r2 hh;have hy1:RX (ups A (Pf u x)) F y:=hy0.ups Dxa;split at h
     ·rename_i w2 hsw2;have haw2:=(Ei hy1 hsw2).al;split at h
      ·rename_i e' r3 ys xs2 te hsn hcx hte;split at h
       ·rename_i ys2 hcy;obtain⟨hq,h⟩:=cs h;obtain⟨hq2,h⟩:=cs h;refine⟨_,h,λ A' hA R' K'=>?_⟩;have hA1:=hA.ups (U:=Pf u x);unfold Ai;rw[ho,hod];simp only[hc,hT,hxs,Aj hA hx0,Aj hA hy0,hsu,hsw,Cy hA hau,hsu',hh,Aj hA1 hy1,hsw2,Cy hA1 haw2,hsn,hcx,hte,hcy,hq,hq2,cond_true]
       ·cases h
      ·rename_i hsn hcx hte;split at h
       ·rename_i ys2 hcy;obtain⟨hq,h⟩:=cs h;obtain⟨hq2,h⟩:=cs h;refine⟨_,h,λ A' hA R' K'=>?_⟩;have hA1:=hA.ups (U:=Pf u x);unfold Ai;rw[ho,hod];simp only[hc,hT,hxs,Aj hA hx0,Aj hA hy0,hsu,hsw,Cy hA hau,hsu',hh,Aj hA1 hy1,hsw2,Cy hA1 haw2,hsn,hcx,hte,hcy,hq,hq2,cond_true]
       ·cases h
      ·cases h
     ·cases h
    ·rename_i hh
     cases hno:Gd r' with
     |false=>rw[hno]at h;simp at h
     |true=>
     rw[hno,cond_true]at h;split at h
     ·rename_i e' r'' ys hasl;split at h
      ·rename_i ys' te hcast hte;obtain⟨hq,h⟩:=cs h;obtain⟨hq2,h⟩:=cs h;refine⟨_,h,λ A' hA R' K'=>?_⟩;unfold Ai;rw[ho,hod];simp only[hc,hT,hxs,Aj hA hx0,Aj hA hy0,hsu,hsw,Cy hA hau,Y3 hA hrw,hsu',hh,hno,hasl,hcast,hte,hq,hq2,cond_true]
      ·cases h
     ·rename_i hasl;split at h
      ·rename_i s;split at h
       ·rename_i ys' f hcast hte;obtain⟨hq,h⟩:=cs h;refine⟨_,h,λ A' hA R' K'=>?_⟩;unfold Ai;rw[ho,hod];simp only[hc,hT,hxs,Aj hA hx0,Aj hA hy0,hsu,hsw,Cy hA hau,Y3 hA hrw,hsu',hh,hno,hasl,hcast,hte,hq,cond_true]
       ·cases h
      ·cases h
   ·cases h
  ·cases h
 ·cases h
def Td (hA:Ag A A' F):∀ {ps:List Par} {ss:List Sv},(∀ s∈ss,∀ y∈parts s,RL A F y)→Iw A' ps ss=Iw A ps ss
 |[],[],_=>rfl
 |[],_::_,_=>rfl
 |p::_,[],_=>by cases p<;>rfl
 |.ptr _ _::_,_::_,_=>rfl
 |.hid _ _::_,_::_,_=>rfl
 |.rd _::_,_::_,_=>rfl
 |.fn _ _::_,_::_,_=>rfl
 |.vw _ _::_,_::_,_=>rfl
 |.io _ _::_,_::_,_=>rfl
 |.val ag t::ps,s::ss,hs=>by
  unfold Iw;rw[Gva hA (hs s (by simp)),Td hA (λ s' hs'=>hs s' (Ve _ hs'))]
def Aza {y:Lf}:∀ u∈U8 y,J6 u:=by
 intro u hu;unfold U8 at hu;split at hu
 ·simp only[Vz]at hu;subst hu;exact .inl rfl
 ·simp at hu
def Ii:∀ {ts:List Ty} {l:List Lf} {A:Ab} {m:List Lf} {us:List Up},Ck A ts l=some (m,us)→∀ u∈us,J6 u
 |[],[],A,m,us,h=>by
  simp only[Ck,Vc,Vu]at h;obtain⟨_,rfl⟩:=h;simp
 |[],_::_,A,m,us,h=>by simp[Ck]at h
 |t::ts,[],A,m,us,h=>by cases t<;>simp[Ck]at h
 |t::ts,x::l,A,m,us,h=>by
  cases t with
  |ow e r=>
   simp only[Ck]at h;split at h
   ·split at h
    ·rename_i hr;cases h;exact λ u hu=>(Vm.1 hu).elim (Aza u) (Ii hr u)
    ·cases h
   ·cases h
  |_=>
   simp only[Ck]at h;split at h
   ·rename_i hr;cases h;exact λ u hu=>(Vm.1 hu).elim (Tc u) (Ii hr u)
   ·cases h
def H2a {x:Operand} {s:Sv} {t:Ty} (hA:Ag A A' F) (hal:∀ y∈parts s,AL F y):Kt A' x s t=Kt A x s t:=by
 unfold Kt Lw;rw[J8 (hA.ups (U:=gone x s)) hal]
def B0a {x:Operand} {s:Sv} {t:Ty} {m:List Lf} {us:List Up} (h:Kt A x s t=some (m,us)):∀ u∈us,J6 u:=by
 unfold Kt Lw at h;split at h
 ·rename_i m0 vs0 ht;cases hst:A3 m0
  ·rw[hst]at h;simp at h
  rw[hst]at h;simp only[cond_true,Vc,Vu]at h;obtain⟨_,rfl⟩:=h;exact λ u hu=>(Vm.1 hu).elim (Od u) (Ii ht u)
 ·cases h
def Y8 {b v:Nat} {t t':Ty} (hA:Ag A A' F) (hb:RB A F b 0):Ka A' b v t t'=Ka A b v t t':=by
 obtain⟨h1,h2⟩:=hb;unfold Ka;rw[hA _ h1];split
 ·rename_i n m hg
  have hcell:∀ i,i<m→C b (0+i)∈F∧∀ p v,(get A (C b (0+i))).2 = .one (.al p v)→p∈F:=λ i hi=>by
   rw[Wb];exact h2 m (by rw[hg]) i (Wh _) hi
  have hac:=Ps hcell;have e1:cellsOf A' b 0 m=cellsOf A b 0 m:=Mf hA (λ i hi=>(hcell i hi).1);rw[e1,J8 hA hac]
 ·rfl
def Pv {b v:Nat} {t t':Ty} {m:List Lf} {us:List Up} (h:Ka A b v t t'=some (m,us)):∀ u∈us,J6 u:=by
 unfold Ka at h;split at h
 ·rename_i n hd hp;obtain⟨hq,h⟩:=cs h;split at h
  ·rename_i l us0 hx;cases hst:A3 l
   ·rw[hst]at h;simp at h
   rw[hst]at h;simp only[cond_true,Vc,Vu]at h;obtain⟨_,rfl⟩:=h;exact Ii hx
  ·cases h
 ·cases h
def Og (hA:Ag A A' F):∀ {bs:List (Nat×Nat)},(∀ c∈bs,RB A F c.1 0)→He A' bs=He A bs
 |[],_=>rfl
 |c::bs,h=>by
  unfold He;rw[hA _ (h c (by simp)).1,Og hA (λ c hc=>h c (Ve _ hc))]
def E1a (hA:Ag A A' F) {b:Nat}:∀ {ts:List Ty} {j:Nat} {l:List Lf},(∀ y∈l,AL F y)→U9 A' b j ts l=U9 A b j ts l
 |[],_,[],_=>rfl
 |[],_,_::_,_=>rfl
 |t::ts,_,[],_=>by cases t<;>rfl
 |t::ts,j,x::l,h=>by
  have hx:=h x (by simp);have ih:=E1a hA (b:=b) (ts:=ts) (j:=j+1) (l:=l) (λ y hy=>h y (Ve _ hy))
  cases t with
  |ow e r=>
   cases x with
   |al p v=>simp only[U9,ih,Cy hA hx,hA p hx]
   |_=>rfl
  |_=>simp only[U9,ih,Cy hA hx]
def RV (A:Ab) (F:List Nat) (ss:List Sv):Prop:=∀ ys,Sv.agg ys∈ss→∀ p v,Lf.al p v∈ys→1000≤p→RB A F (p/1000-1) 0
def Pw:∀ {ys:List Lf} {b:Nat},Rw ys=some b→∃ p v,Lf.al p v∈ys∧1000≤p∧b=p/1000-1
 |[],b,h=>by simp[Rw]at h
 |y::ys,b,h=>by
  have rest:Rw ys=some b→∃ p v,Lf.al p v∈y::ys∧1000≤p∧b=p/1000-1:=λ h=>by
   obtain⟨p,v,h1,h2⟩:=Pw h;exact⟨p,v,Ve _ h1,h2⟩
  cases y with
  |al p v=>
   simp only[Rw]at h;cases hq:Nat.ble 1000 p
   ·rw[hq]at h;exact rest h
   rw[hq]at h;simp only[cond_true,Vc]at h;exact⟨p,v,by simp,Vd hq,h.symm⟩
  |_=>exact rest h
def E2a (hA:Ag A A' F):∀ {ps:List Par} {ss:List Sv},RV A F ss→Rx A' ps ss=Rx A ps ss∧∀ c∈Rx A ps ss,RB A F c.1 0
 |[],ss,_=>⟨rfl,by simp[Rx]⟩
 |p::ps,[],_=>by cases p<;>exact⟨rfl,by simp[Rx]⟩
 |p::ps,s::ss,h=>by
  obtain⟨h1,h2⟩:=E2a hA (ps:=ps) (ss:=ss) (λ ys hy=>h ys (Ve _ hy))
  cases p with
  |vw t h0=>
   cases s with
   |agg ys=>
    simp only[Rx]
    cases hb:Rw ys with
    |none=>exact⟨h1,h2⟩
    |some b=>
     obtain⟨p,v,e1,e2,rfl⟩:=Pw hb;have hrb:=h ys (by simp) p v e1 e2;refine⟨by simp only[h1,hA _ hrb.1],λ c hc=>?_⟩;rcases Vk.1 hc with rfl|hc
     ·exact hrb
     ·exact h2 c hc
   |_=>exact⟨h1,h2⟩
  |_=>cases s<;>exact⟨h1,h2⟩
def Y9 (hA:Ag A A' F) {cb hb:List (Nat×Nat)} {nv:Nat} {x:Operand} {p:Par} {s:Sv} (hhb:∀ c∈hb,RB A F c.1 0) (hs:∀ y∈parts s,RL A F y):Mv A' cb hb nv x p s=Mv A cb hb nv x p s∧∀ l u b,Mv A cb hb nv x p s=some (l,u,b)→∀ v∈u,J6 v:=by
 have hal:=RL.als hs;constructor
 ·unfold Mv;split
  ·rename_i t h0 ys
   cases hn:nth hb (h0-nv) with
   |none=>rfl
   |some c=>
    rw[Et]at hn;simp only[hA _ (hhb c (Zs hn)).1,E1a hA (show ∀ y∈ys,AL F y from hal)]
  ·simp only[H2a hA hal]
  ·rename_i b v;rw[Y8 hA (show RB A F b 0 from hs (.bp b v 0) (by simp[parts]))]
  ·rename_i b v;rw[Y8 hA (show RB A F b 0 from hs (.bp b v 0) (by simp[parts]))]
  ·rfl
  ·rename_i F0 m F' bs;rw[Og hA (show ∀ c∈bs,RB A F c.1 0 from hs (.fn F' bs) (by simp[parts]))]
  ·rfl
 ·intro l u b h v hv;unfold Mv at h;split at h
  ·rename_i t h0 ys;split at h
   ·split at h
    ·rename_i n m _;generalize (Nat.ble nv h0&&Nat.beq n _&&Nat.beq m t.sz)=bb at h;cases bb
     ·simp at h
     rw[cond_true]at h;split at h
     ·cases h;simp at hv
     ·cases h
    ·cases h
   ·cases h
  ·rename_i ag t;obtain⟨hf,h⟩:=cs h;split at h
   ·rename_i hgive;cases h;exact B0a hgive v hv
   ·cases h
  ·split at h
   ·rename_i hgive;cases h;exact Pv hgive v hv
   ·cases h
  ·split at h
   ·rename_i hgive;cases h;exact Pv hgive v hv
   ·cases h
  ·rename_i t r y;cases hf:(decide (shp r=shp t)&&Gd t)
   ·rw[hf]at h;simp at h
   rw[hf]at h;simp only[cond_true,Vc,Vu]at h;obtain⟨_,rfl,_⟩:=h;simp at hv
  ·rename_i F0 m F' bs;cases hf:(Nat.beq F0 F'&&Nat.beq m bs.length&&Hwa bs cb&&He A bs)
   ·rw[hf]at h;simp at h
   rw[hf]at h;simp only[cond_true,Vc,Vu]at h;obtain⟨_,rfl,_⟩:=h;simp at hv
  ·cases h
def Oh {cb hb:List (Nat×Nat)} {nv:Nat}:∀ {ps:List Par} {xs:List (TypeId×Operand)} {hs:List (Nat×Nat)} {A A':Ab},Ag A A' F→(∀ x∈xs,RX A F x.2)→(∀ h∈hs,RB A F h.1 0)→(∀ c∈hb,RB A F c.1 0)→Gz E cb hb nv A' xs hs ps=Gz E cb hb nv A xs hs ps
 |[],[],[],_,_,_,_,_,_=>rfl
 |[],[],_::_,_,_,_,_,_,_=>rfl
 |[],_::_,_,_,_,_,_,_,_=>rfl
 |_::_,[],[],_,_,_,_,_,_=>rfl
 |p::ps,x::xs,hs,A,A',hA,hx,hb',hhb=>by
  have hx0:RX A F x.2:=hx x (by simp);unfold Gz;rw[Aj hA hx0]
  cases hs:opT E x.1 A x.2 with
  |none=>rfl
  |some s=>
   simp only;obtain⟨h1,h2⟩:=Y9 hA (cb:=cb) (hb:=hb) (nv:=nv) (x:=x.2) (p:=p) hhb (J7 hx0 hs);rw[h1]
   cases ha:Mv A cb hb nv x.2 p s with
   |none=>rfl
   |some q=>
    obtain⟨l,u,b⟩:=q;simp only;rw[Oh (hA.ups (U:=u)) (λ y hy=>(hx y (Ve _ hy)).ups (h2 l u b ha)) (λ c hc=>(hb' c hc).ups (h2 l u b ha)) (λ c hc=>(hhb c hc).ups (h2 l u b ha))]
 |p::ps,[],h::hs,A,A',hA,hx,hb',hhb=>by
  unfold Gz
  obtain⟨h1,h2⟩:=Y9 hA (cb:=cb) (hb:=hb) (nv:=nv) (x := .func 0) (p:=p) (s := .one (.bp h.1 h.2 0)) (F:=F) hhb (λ y hy=>by
   simp only[parts,Vz]at hy;subst hy
   exact hb' h (by simp))
  rw[h1]
  cases ha:Mv A cb hb nv (.func 0) p (.one (.bp h.1 h.2 0)) with
  |none=>rfl
  |some q=>
   obtain⟨l,u,b⟩:=q;simp only;rw[Oh (hA.ups (U:=u)) (λ y hy=>by simp at hy) (λ c hc=>(hb' c (Ve _ hc)).ups (h2 l u b ha)) (λ c hc=>(hhb c hc).ups (h2 l u b ha))]
def V9:∀ {ss:List Sv},(∀ s∈ss,∀ y∈parts s,RL A F y)→∀ c∈Bpa ss,RB A F c.1 0
 |[],_,c,hc=>by simp[Bpa]at hc
 |s::ss,h,c,hc=>by
  have h2:=λ s' hs'=>h s' (Ve _ hs')
  cases s with
  |one z=>
   cases z with
   |fn F' bs=>exact(show ∀ c∈bs,RB A F c.1 0 from h (.one (.fn F' bs)) (by simp) (.fn F' bs) (by simp[parts])) c hc
   |_=>exact V9 h2 c hc
  |_=>exact V9 h2 c hc
def Yy (hA:Ag A A' F):∀ {xs:List Operand},(∀ x∈xs,RX A F x)→S6 E A' xs=S6 E A xs
 |[],_=>rfl
 |x::xs,h=>by
  unfold S6;rw[Aj hA (h x (by simp)),Yy hA (λ y hy=>h y (Ve _ hy))]
def Yz {rs:List (RK×Ty)} {ls:List (List Lf)} {d:Option Nat} (hA:∀ d',d=some d'→get A' (H d')=get A (H d')):Ju A' rs ls d=Ju A rs ls d:=by
 unfold Ju
 split<;>first|rfl|skip
 ·rename_i d _ _ _ _ _;unfold Bqa;rw[hA _ rfl]
def Te {en:Ent} {xs:List (TypeId×Operand)} {cs:List (Nat×Nat)} {ss:List Sv} {d:Option Nat} (hd:∀ d',d=some d'→H d'∈F) (hx:∀ x∈xs,RX A F x.2) (hcs:∀ c∈cs,RB A F c.1 0) (hrl:∀ s∈ss,∀ y∈parts s,RL A F y) (hrv:RV A F ss) (h:Qc E A en xs cs ss d Kc=some r):
  ∃ U,Kc U=some r∧∀ A',Ag A A' F→∀ {R':Type} (K':List Up→Option R'),Qc E A' en xs cs ss d K'=K' U:=by
 unfold Qc at h;rw[csi]at h;obtain⟨hnv,h⟩:=h
 cases hb:(Iv en.ps&&P4 en.rs&&cs.isEmpty) with
 |true=>
  rw[hb,cond_true]at h;split at h
  ·cases h
  ·rename_i ls hl;split at h
   ·cases h
   ·rename_i x hm
    cases hr:en.run x with
    |none=>rw[hr]at h;simp at h
    |some y=>
     rw[hr]at h;simp only[Vy]at h;split at h
     ·cases h
     ·rename_i rs hrs;refine⟨_,h,λ A' hA R' K'=>?_⟩;unfold Qc;simp only[hnv,hb,cond_true,Td hA hrl,hl,hm,hr,Vy,Yz (A:=A) (A':=A') (λ d' hd'=>hA _ (hd d' hd')),hrs]
 |false=>
  rw[hb,cond_false]at h;rw[csi]at h;obtain⟨hb2,h⟩:=h;split at h
  ·cases h
  ·rename_i ls us bs hl;rw[csi]at h;obtain⟨hnd,h⟩:=h;split at h
   ·cases h
   ·rename_i x hm
    cases hr:en.run x with
    |none=>rw[hr]at h;simp at h
    |some y=>
     rw[hr]at h;simp only[Vy]at h;split at h
     ·cases h
     ·rename_i ws hws;split at h
      ·cases h
      ·rename_i rs hrs;refine⟨_,h,λ A' hA R' K'=>?_⟩;have hA2:=(hA.ups (U:=us)).ups (U:=ws);obtain⟨v1,v2⟩:=E2a hA (ps:=en.ps) hrv;have hhb:∀ c∈Bpa ss++Rx A en.ps ss,RB A F c.1 0:=λ c hc=>(Vm.1 hc).elim (V9 hrl c) (v2 c);have hargs:=Oh (E:=E) (cb:=Bpa ss++Rx A en.ps ss) (hb:=Bpa ss++Rx A en.ps ss) (nv:=en.nv) (ps:=en.ps) hA hx (hs:=cs++(Bpa ss++Rx A en.ps ss)) (λ c hc=>(Vm.1 hc).elim (hcs c) (hhb c)) hhb;unfold Qc;simp only[v1,hnv,hb,hb2,hnd,cond_true,cond_false,hargs,hl,hm,hr,Vy,hws,Yz (A:=ups (ups A us) ws) (A':=ups (ups A' us) ws) (λ d' hd'=>hA2 _ (hd d' hd')),hrs]
def Vr:∀ {xs:List Operand} {Ts:List TypeId} {ss:List Sv},(∀ t,.tmp t∈xs→RV A F [(get A t).2])→Lu E Ts A xs=some ss→RV A F ss
 |[],_,ss,_,h=>by
  simp only[Lu,Vc]at h;subst h;intro ys hy;simp at hy
 |x::xs,[],ss,_,h=>by simp[Lu]at h
 |x::xs,T::Ts,ss,hx,h=>by
  simp only[Lu]at h;split at h
  ·rename_i s hs;split at h
   ·rename_i ss' hss;cases h;intro ys hy p v hp h1;rcases Vk.1 hy with hy|hy
    ·subst hy
     cases x with
     |tmp t=>
      have h2:(bif Nat.blt t E.nt then some (get A t).2 else none)=some (.agg ys):=hs;cases hb:Nat.blt t E.nt
      ·rw[hb]at h2;simp at h2
      rw[hb]at h2;simp only[cond_true,Vc]at h2;exact hx t (by simp) ys (by rw[h2];simp) p v hp h1
     |const w=>
      exfalso;unfold opT at hs;split at hs
      ·rename_i e;cases e
      ·split at hs<;>cases hs
      ·rename_i w' _ _
       cases hq:U6 w'<;>simp[hq]at hs
      ·rename_i e;cases e
      ·cases hs
     |func f=>simp[opT]at hs
     |global g=>simp[opT]at hs
    ·exact Vr (λ t ht=>hx t (Ve _ ht)) hss ys hy p v hp h1
   ·cases h
  ·cases h
def E3a:∀ {ys:List Lf},(∀ p∈Kwa A ys,p∈F)→∀ p v,Lf.al p v∈ys→1000≤p→RB A F (p/1000-1) 0
 |[],_,p,v,hm,_=>by simp at hm
 |y::ys,h,p,v,hm,hp=>by
  have rest:(∀ p∈Kwa A ys,p∈F)→Lf.al p v∈ys→RB A F (p/1000-1) 0:=λ h hm=>E3a h p v hm hp
  cases y with
  |al q w=>
   simp only[Kwa]at h;rcases Vk.1 hm with e|hm
   ·simp only[Lf.al.injEq]at e;obtain⟨rfl,rfl⟩:=e;rw[show Nat.ble 1000 p=true from Yq hp,cond_true]at h;exact Dla λ p hp=>h p (Vt _ hp)
   ·exact rest (λ p hp=>h p (Vi _ hp)) hm
  |_=>
   rcases Vk.1 hm with e|hm
   ·cases e
   ·exact rest h hm
def E4a:∀ {xs:List Operand},(∀ p∈Iza A xs,p∈F)→∀ t,.tmp t∈xs→RV A F [(get A t).2]
 |[],_,t,hm=>by simp at hm
 |x::xs,h,t,hm=>by
  rcases Vk.1 hm with rfl|hm
  ·intro ys hy;simp only[Vz]at hy;simp only[Iza,← hy]at h;exact E3a λ p hp=>h p (Vt _ hp)
  ·refine E4a (λ p hp=>h p ?_) t hm
   cases x<;>first|exact hp|(simp only[Iza];exact Vi _ hp)
def Iba {Ts:List TypeId} {xs:List Operand} (hx:∀ x∈xs,RX A F x):∀ x∈Ts.zip xs,RX A F x.2:=λ x hm=>hx x.2 (List.of_mem_zip (show (x.1,x.2)∈Ts.zip xs from hm)).2
def E5a {c:Call} {f:FuncId} (ho:o.op = .call c) (hc:c.callee = .value (.func f)) (hd:∀ d,o.dst=some d→H d∈F) (hx:∀ x∈c.args.toList,RX A F x) (hv:∀ t,.tmp t∈c.args.toList→RV A F [(get A t).2]) (hno:Mva E o=true) (h:Ai E o A Kc=some r):Loc E o A F Kc r:=by
 unfold Ai at h;rw[ho]at h;simp only[hc]at h;split at h
 ·rename_i en ss he hss
  have hni:Bra en.ps=false:=by
   unfold Mva at hno;rw[ho]at hno;simp only[hc,he]at hno
   simpa using hno
  rw[hni,cond_false]at h;obtain⟨U,h1,h2⟩:=Te (cs:=[]) hd (Iba hx) (by simp) (V8 hx hss) (Vr hv hss) h;refine⟨U,h1,λ A' hA R' K'=>?_⟩;unfold Ai;rw[ho];simp only[hc,he,Of hA hx,hss,hni,cond_false];exact h2 A' hA K'
 ·cases h
def E6a {c:Call} {t:Nat} (ho:o.op = .call c) (hc:c.callee = .value (.tmp t)) (hd:∀ d,o.dst=some d→H d∈F) (ht:RX A F (.tmp t)) (hx:∀ x∈c.args.toList,RX A F x) (hv:∀ t,.tmp t∈c.args.toList→RV A F [(get A t).2]) (h:Ai E o A Kc=some r):Loc E o A F Kc r:=by
 unfold Ai at h;rw[ho]at h;simp only[hc]at h;split at h
 ·rename_i f bs hf;have hbs:∀ c∈bs,RB A F c.1 0:=Ei ht hf;split at h
  ·rename_i en ss he hss;obtain⟨hal,h⟩:=cs h;obtain⟨U,h1,h2⟩:=Te hd (Iba hx) hbs (V8 hx hss) (Vr hv hss) h;refine⟨U,h1,λ A' hA R' K'=>?_⟩;unfold Ai;rw[ho];simp only[hc,Aj hA ht,hf,he,Of hA hx,hss,Og hA hbs,hal,cond_true];exact h2 A' hA K'
  ·cases h
 ·cases h
def Tf {f:FuncId} {x y:Array Operand} {d:Nat} (ho:o.op = .makeFunc (.func f) x y) (hod:o.dst=some d) (hy:∀ z∈y.toList,RX A F z) (h:Ai E o A Kc=some r):Loc E o A F Kc r:=by
 unfold Ai at h;rw[ho,hod]at h;simp only at h;split at h
 ·rename_i bs hx hbs;refine⟨_,h,λ A' hA R' K'=>?_⟩;unfold Ai;rw[ho,hod];simp only[hx,Yy hA hy,hbs]
 ·cases h
def H3a (hF:∀ p∈rds A o,p∈F) (hno:Mva E o=true) (h:Ai E o A Kc=some r):Loc E o A F Kc r:=by
 have hD3:∀ d,o.dst=some d→d∈F∧H d∈F∧H (2000+d)∈F:=λ d hd=>by
  unfold rds at hF;rw[hd]at hF;exact⟨hF d (by simp[rdD]),hF (H d) (by simp[rdD]),hF (H (2000+d)) (by simp[rdD])⟩
 have hD:∀ d,o.dst=some d→d∈F∧H d∈F:=λ d hd=>⟨(hD3 d hd).1,(hD3 d hd).2.1⟩;have hO:∀ p∈Kxa A o.op,p∈F:=λ p hp=>hF p (by unfold rds;exact Vi _ hp);have hX:Kxa A o.op=Fma A (Fm o.op)→∀ x∈Fm o.op,RX A F x:=λ e=>Rb (by rw[← e];exact hO)
 cases ho:o.op with
 |call c=>
  have hOc:∀ p∈Fma A (Fm (.call c))++Iza A c.args.toList,p∈F:=λ p hp=>hO p (by rw[ho];exact hp);have hx:=Rb (λ p hp=>hOc p (Vt _ hp));have hvv:=E4a (A:=A) (F:=F) (xs:=c.args.toList) (λ p hp=>hOc p (Vi _ hp))
  have hxs:(∀ y,c.callee = .value y→RX A F y)∧∀ x∈c.args.toList,RX A F x:=by
   unfold Fm at hx;simp only at hx;split at hx
   ·rename_i y hy;exact⟨λ z hz=>by rw[hy]at hz;cases hz;exact hx y (by simp),λ x hm=>hx x (Ve _ hm)⟩
   ·rename_i hno;exact⟨λ z hz=>absurd hz (hno z),hx⟩
  have hcv:=hxs.1
  replace hx:=hxs.2
  cases hc:c.callee with
  |builtin b=>
   cases b with
   |len=>exact K0a ho hc hx h
   |min=>exact K1a ho hc hx h
   |max=>exact K2a ho hc hx h
   |append=>exact Aya ho hc hx h
   |_=>unfold Ai at h;rw[ho]at h;simp only[hc]at h;cases h
  |value f=>
   cases f with
   |func f=>exact E5a ho hc (λ d hd=>(hD d hd).2) hx hvv hno h
   |tmp t=>exact E6a ho hc (λ d hd=>(hD d hd).2) (hcv _ hc) hx hvv h
   |_=>unfold Ai at h;rw[ho]at h;simp only[hc]at h;cases h
  |invoke x m=>unfold Ai at h;rw[ho]at h;simp only[hc]at h;cases h
 |store T x y=>
  have hx:=hX (by rw[ho];rfl);rw[ho]at hx
  cases hod:o.dst with
  |none=>exact Dta ho hod (hx x (by simp[Fm])) (hx y (by simp[Fm])) h
  |some d=>unfold Ai at h;rw[ho,hod]at h;cases h
 |move x=>cases hod:o.dst with
  |none=>unfold Ai at h;rw[ho,hod]at h;cases h
  |some d=>
   refine Gya ho hod (λ t e=>?_) (λ p hp=>hO p (by rw[ho];simp[Kxa,hp])) h;subst e;exact hO t (by rw[ho];simp[Kxa,rdT])
 |assign x=>cases hod:o.dst with
  |none=>unfold Ai at h;rw[ho,hod]at h;cases h
  |some d=>
   have hx:=hX (by rw[ho];rfl);rw[ho]at hx;exact Axa ho hod (hx x (by simp[Fm])) h
 |pick c x y=>cases hod:o.dst with
  |none=>unfold Ai at h;rw[ho,hod]at h;cases h
  |some d=>
   have hx:=hX (by rw[ho];rfl);rw[ho]at hx;exact Gza ho hod (hx c (by simp[Fm])) (hx x (by simp[Fm])) (hx y (by simp[Fm])) h
 |binOp op T x y T'=>cases hod:o.dst with
  |none=>unfold Ai at h;rw[ho,hod]at h;cases h
  |some d=>
   have hx:=hX (by rw[ho];rfl);rw[ho]at hx;exact Dpa ho hod (hx x (by simp[Fm])) (hx y (by simp[Fm])) h
 |unOp op T x=>cases hod:o.dst with
  |none=>unfold Ai at h;rw[ho,hod]at h;cases h
  |some d=>
   have hx:=hX (by rw[ho];rfl);rw[ho]at hx;exact Gxa ho hod (hx x (by simp[Fm])) h
 |convert T T' x=>cases hod:o.dst with
  |none=>unfold Ai at h;rw[ho,hod]at h;cases h
  |some d=>
   have hx:=hX (by rw[ho];rfl);rw[ho]at hx;exact V6 ho hod (hx x (by simp[Fm])) h
 |nilCheck x=>cases hod:o.dst with
  |none=>unfold Ai at h;rw[ho,hod]at h;cases h
  |some d=>exact Tb ho hod (Iaa (λ p hp=>hO p (by rw[ho];exact hp))) h
 |extract x j=>cases hod:o.dst with
  |none=>unfold Ai at h;rw[ho,hod]at h;cases x<;>cases h
  |some d=>cases x with
   |tmp t=>
    have hx:=hX (by rw[ho];rfl);rw[ho]at hx;exact V7 ho hod (hx (.tmp t) (by simp[Fm])).1 h
   |_=>unfold Ai at h;rw[ho,hod]at h;cases h
 |field T x j=>cases hod:o.dst with
  |none=>unfold Ai at h;rw[ho,hod]at h;cases x<;>cases h
  |some d=>cases x with
   |tmp t=>
    have hx:=hX (by rw[ho];rfl);rw[ho]at hx;exact Dqa ho hod (hx (.tmp t) (by simp[Fm])).1 h
   |_=>unfold Ai at h;rw[ho,hod]at h;cases h
 |build T ps=>cases hod:o.dst with
  |none=>unfold Ai at h;rw[ho,hod]at h;cases h
  |some d=>
   have hx:=hX (by rw[ho];rfl);rw[ho]at hx;exact E0a ho hod (λ p hp=>hx p.2 (Yn hp)) h
 |alloc T=>cases hod:o.dst with
  |none=>unfold Ai at h;rw[ho,hod]at h;cases h
  |some d=>exact Dra ho hod (hD d hod).2 h
 |box T x=>cases hod:o.dst with
  |none=>unfold Ai at h;rw[ho,hod]at h;cases h
  |some d=>
   have hx:=hX (by rw[ho];rfl);rw[ho]at hx;exact Jya ho hod (hD d hod).2 (hx x (by simp[Fm])) h
 |load T x=>cases hod:o.dst with
  |none=>unfold Ai at h;rw[ho,hod]at h;cases h
  |some d=>
   have hx:=hX (by rw[ho];rfl);rw[ho]at hx;exact H0a ho hod (hx x (by simp[Fm])) h
 |fieldAddr T x j=>cases hod:o.dst with
  |none=>unfold Ai at h;rw[ho,hod]at h;cases h
  |some d=>exact Rd ho hod (Iaa (λ p hp=>hO p (by rw[ho];exact hp))) h
 |indexAddr T x i=>cases hod:o.dst with
  |none=>unfold Ai at h;rw[ho,hod]at h;cases h
  |some d=>
   have hx:=hX (by rw[ho];rfl);rw[ho]at hx
   cases hop:E.opn d with
   |true=>exact Re ho hod hop (hD3 d hod).2.2 (hx x (by simp[Fm])) (hx i (by simp[Fm])) h
   |false=>exact Rf ho hod hop (hx x (by simp[Fm])) (hx i (by simp[Fm])) h
 |index T x i=>cases hod:o.dst with
  |none=>unfold Ai at h;rw[ho,hod]at h;cases h
  |some d=>
   have hx:=hX (by rw[ho];rfl);rw[ho]at hx;exact Dva ho hod (hx x (by simp[Fm])) (hx i (by simp[Fm])) h
 |slice T x lo hi mx=>cases hod:o.dst with
  |none=>unfold Ai at h;rw[ho,hod]at h;cases mx<;>cases h
  |some d=>cases mx with
   |none=>
    have hOs:∀ p∈Fma A (Fm (.slice T x lo hi none))++Aba A x lo,p∈F:=λ p hp=>hO p (by rw[ho];exact hp);have hx:=Rb (λ p hp=>hOs p (Vt _ hp));exact Dwa ho hod (hx x (by simp[Fm])) (λ y hy=>hx y (by simp[Fm,hy])) (λ y hy=>hx y (by simp[Fm,hy])) (λ p hp=>hOs p (Vi _ hp)) h
   |some m=>unfold Ai at h;rw[ho,hod]at h;cases h
 |buildSlice T n ps=>cases hod:o.dst with
  |none=>unfold Ai at h;rw[ho,hod]at h;cases h
  |some d=>
   have hx:=hX (by rw[ho];rfl);rw[ho]at hx;exact Pc ho hod (λ p hp=>hx p.2 (Yn hp)) h
 |makeSlice T x y=>cases hod:o.dst with
  |none=>unfold Ai at h;rw[ho,hod]at h;cases h
  |some d=>
   have hx:=hX (by rw[ho];rfl);rw[ho]at hx;exact Rg ho hod (hx x (by simp[Fm])) (hx y (by simp[Fm])) h
 |makeFunc fn x y=>
  cases fn with
  |func f=>cases hod:o.dst with
   |none=>unfold Ai at h;rw[ho,hod]at h;cases h
   |some d=>
    have hx:=hX (by rw[ho];rfl);rw[ho]at hx;exact Tf ho hod (λ z hz=>hx z (by simp only[Fm];exact Vi _ hz)) h
  |_=>unfold Ai at h;rw[ho]at h;cases hod:o.dst<;>(rw[hod]at h;cases h)
 |_=>unfold Ai at h;rw[ho]at h;cases hod:o.dst<;>(rw[hod]at h;cases h)
end
end

section
attribute [local irreducible] C H
abbrev Gs:=Nat→Nat×Sv
def gup (g:Gs) (u:Up):Gs:=λ p=>if p=u.l then ((bif u.keep then (g u.l).1 else (g u.l).1+1),u.s) else g p
def W0 (g:Gs):List Up→Gs
 |[]=>g
 |u::U=>W0 (gup g u) U
def Jp:∀ (U:List Up) (A:Ab),get (ups A U)=W0 (get A) U
 |[],_=>rfl
 |u::U,A=>by
  show get (ups (up A u) U)=W0 (gup (get A) u) U;rw[Jp U (up A u)];congr 1;funext p;exact Ob A u p
def Ll:∀ (U:List Up) (g:Gs) (p:Nat),p∉U.map Up.l→W0 g U p=g p
 |[],_,_,_=>rfl
 |u::U,g,p,h=>by
  simp only[Yc,Vk,not_or]at h;show W0 (gup g u) U p=g p;rw[Ll U _ p h.2];exact if_neg h.1
def Lm:∀ (U:List Up) (g g':Gs) (p:Nat),g p=g' p→W0 g U p=W0 g' U p
 |[],_,_,_,h=>h
 |u::U,g,g',p,h=>by
  refine Lm U (gup g u) (gup g' u) p ?_;unfold gup
  by_cases e:p=u.l
  ·subst e;rw[if_pos rfl,if_pos rfl,h]
  ·rw[if_neg e,if_neg e,h]
structure Ak where
 N:Gs→Prop
 e:Gs→Gs
def Ind (x y:Ak):Prop:=(∀ g,x.N g→y.N (x.e g)→y.N g)∧(∀ g,y.N g→x.N g→x.N (y.e g))∧(∀ g,x.N g→y.N g→x.e (y.e g)=y.e (x.e g))
def Ica:List Ak→Gs→Gs→Prop
 |[],g,f=>g=f
 |x::L,g,f=>x.N g∧Ica L (x.e g) f
def Ica.front {y:Ak} {L2:List Ak}:∀ {L1:List Ak} {g f:Gs},(∀ x∈L1,Ind x y)→Ica (L1++y::L2) g f→y.N g∧Ica (L1++L2) (y.e g) f
 |[],g,f,_,h=>h
 |x::L1,g,f,hi,h=>by
  obtain⟨h1,h2⟩:=h;obtain⟨h3,h4⟩:=Ica.front (λ z hz=>hi z (Ve _ hz)) h2;obtain⟨i1,i2,i3⟩:=hi x (by simp);have hy:=i1 g h1 h3;exact⟨hy,i2 g hy h1,by rw[i3 g h1 hy];exact h4⟩
inductive Anc (ops:Array Oper):Nat→Nat→Prop
 |dir {i j:Nat} {o:Oper} (h:ops[i]? = some o) (hj:j∈aft o):Anc ops j i
 |tr {i j k:Nat} {o:Oper} (h:ops[i]? = some o) (hk:k∈aft o) (ha:Anc ops j k):Anc ops j i
def E7a {o:Oper} {j:Nat}:j∈aft o↔∃ e∈o.after,Region.binds .any e=true∧e.on=j:=by
 unfold aft;rw[List.mem_filterMap];constructor
 ·rintro⟨e,he,h⟩;cases hb:Region.binds .any e
  ·rw[hb]at h;simp at h
  rw[hb]at h;simp only[cond_true,Vc]at h;exact⟨e,by simpa using he,hb,h⟩
 ·rintro⟨e,he,hb,h⟩;exact⟨e,by simpa using he,by rw[hb];simp[h]⟩
section
variable {X:Cx} {E:En} {ops:Array Oper} {Q:Exit→Act→World→Prop}
def L3a (X:Cx) (ops:Array Oper) (Q:Exit→Act→World→Prop) (i:Nat) (x:Ak):Prop:=
 ∀ (S:Sit) (a:Act) (A:Ab),Ah X S a→S.g=get A→x.N (get A)→∀ K:Act→World→Prop,(∀ S' a' A',Ah X S' a'→S'.g=get A'→get A'=x.e (get A)→K a' S'.w)→wpOp X.P ops Q i K a S.w
def B1a {listed:Array Bool} (hd:∀ i o,ops[i]? = some o→listed.getD i false=true→∀ j∈aft o,listed.getD j false=true) {i j:Nat} (h:Anc ops j i):listed.getD i false=true→listed.getD j false=true:=by
 induction h with
 |dir h hj=>exact λ hi=>hd _ _ h hi _ hj
 |tr h hk _ ih=>exact λ hi=>ih (hd _ _ h hi _ hk)
def W1 {listed:Array Bool} {i:Nat} (hi:i<listed.size):listed.getD i true=listed.getD i false:=by
 simp[Wg,hi]
def Ida (hlt:∀ i o,ops[i]? = some o→∀ j∈aft o,j<i) {f:Gs} (hQ:∀ S a A,Ah X S a→S.g=get A→get A=f→Q .normal a S.w):
  ∀ (fuel:Nat) (L:List (Nat×Ak)) (listed:Array Bool) (S:Sit) (a:Act) (A:Ab),L.length=fuel→listed.size=ops.size→L.Pairwise (λ x y=>x.1<y.1)→(∀ i,i<ops.size→(listed.getD i false=false↔∃ x∈L,x.1=i))→
   L.Pairwise (λ x y=>Anc ops x.1 y.1∨Ind x.2 y.2)→(∀ x∈L,L3a X ops Q x.1 x.2)→(∀ x∈L,x.1<ops.size)→
   (∀ i o,ops[i]? = some o→listed.getD i false=true→∀ j∈aft o,listed.getD j false=true)→
   Ah X S a→S.g=get A→Ica (L.map Prod.snd) (get A) f→wpAny X.P .any ops Q fuel listed a S.w
 |0,L,listed,S,a,A,hlen,hsz,hs,hl,hi,ho,hb,hd,K,hg,hr=>by
  have:L=[]:=Wq hlen;subst this;refine⟨?_,hQ S a A K hg hr⟩;rw[List.eq_nil_iff_forall_not_mem];intro i hm;obtain⟨h1,o,h2,_⟩:=mem_ready.1 hm;have hlt2:i<ops.size:=(Yx.1 h2).1;rw[W1 (by omega)]at h1;obtain⟨x,hx,_⟩:=(hl i hlt2).1 h1;simp at hx
 |fuel+1,L,listed,S,a,A,hlen,hsz,hs,hl,hi,ho,hb,hd,K,hg,hr=>by
  cases L with
  |nil=>simp at hlen
  |cons x0 L0=>
   refine⟨λ h0=>?_,λ i hm=>?_⟩
   ·exfalso;have hx0:=hb x0 (by simp);obtain⟨o,h2⟩:∃ o,ops[x0.1]? = some o:=⟨_,Zr hx0⟩;have hu:=(hl x0.1 hx0).2 ⟨x0,by simp,rfl⟩
    have:x0.1∈Region.ready .any ops listed:=by
     refine mem_ready.2 ⟨by rw[W1 (by omega)];exact hu,o,h2,λ e he hbe=>?_⟩;have hj:=hlt _ _ h2 e.on (E7a.2 ⟨e,he,hbe,rfl⟩);cases hc:listed.getD e.on false
     case true=>rfl
     obtain⟨y,hy,hye⟩:=(hl e.on (by omega)).1 hc;rcases Vk.1 hy with rfl|hy
     ·omega
     ·have:=(Yu.1 hs).1 y hy;omega
    rw[h0]at this;simp at this
   ·obtain⟨h1,o,h2,h3⟩:=mem_ready.1 hm;have hil:i<ops.size:=(Yx.1 h2).1;rw[W1 (by omega)]at h1;obtain⟨y,hy,hyi⟩:=(hl i hil).1 h1;obtain⟨L1,L2,hL⟩:=List.append_of_mem hy
    have haft:∀ j∈aft o,listed.getD j false=true:=λ j hj=>by
     obtain⟨e,he,hbe,rfl⟩:=E7a.1 hj;exact h3 e he hbe
    have hanc:∀ j,Anc ops j i→listed.getD j false=true:=by
     intro j hj
     cases hj with
     |dir h hj=>rw[h2]at h;cases h;exact haft _ hj
     |tr h hk ha=>rw[h2]at h;cases h;exact B1a hd ha (haft _ hk)
    rw[hL]at hs hl hi ho hb hr hlen;rw[Zt]at hs hi;obtain⟨s1,s2,s3⟩:=hs;obtain⟨i1,i2,i3⟩:=hi;rw[Yu]at s2 i2
    have hind:∀ x∈L1,Ind x.2 y.2:=by
     intro x hx;rcases i3 x hx y (by simp) with h|h
     ·exfalso;have h4:=hanc x.1 (by rw[← hyi];exact h);have h5:=(hl x.1 (hb x (by simp[hx]))).2 ⟨x,by simp[hx],rfl⟩;rw[h4]at h5;cases h5
     ·exact h
    rw[Oxa,Yc]at hr;obtain⟨hN,hr2⟩:=Ica.front (λ z hz=>by obtain⟨x,hx,rfl⟩:=Za.1 hz;exact hind x hx) hr;rw[← Oxa]at hr2;subst hyi;refine ho y (by simp) S a A K hg hN _ (λ S' a' A' K' g' e'=>?_)
    refine Ida hlt hQ fuel (L1++L2) (listed.setIfInBounds y.1 true) S' a' A' (by simp at hlen ⊢;omega) (by simpa using hsz) ?_ ?_ ?_ (λ x hx=>ho x (by rcases Vm.1 hx with h|h<;>simp[h])) (λ x hx=>hb x (by rcases Vm.1 hx with h|h<;>simp[h])) ?_ K' g' (by rw[e'];exact hr2)
    ·exact Zt.2 ⟨s1,s2.2,λ x hx z hz=>s3 x hx z (Ve _ hz)⟩
    ·intro k hk
     by_cases hky:k=y.1
     ·subst hky
      have e1:(listed.setIfInBounds y.1 true).getD y.1 false=true:=by simp[Wg,hsz,hk]
      rw[e1];constructor
      ·intro h;cases h
      ·rintro⟨x,hx,hxe⟩;exfalso;rcases Vm.1 hx with h|h
       ·have:=s3 x h y (by simp);omega
       ·have:=s2.1 x h;omega
     ·rw[getD_set_ne false (Pca hky),hl k hk];constructor
      ·rintro⟨x,hx,hxe⟩;refine⟨x,?_,hxe⟩;rcases Vm.1 hx with h|h
       ·exact Vt _ h
       ·rcases Vk.1 h with rfl|h
        ·exact(hky hxe.symm).elim
        ·exact Vi _ h
      ·rintro⟨x,hx,hxe⟩
       exact⟨x,by rcases Vm.1 hx with h|h<;>simp[h],hxe⟩
    ·exact Zt.2 ⟨i1,i2.2,λ x hx z hz=>i3 x hx z (Ve _ hz)⟩
    ·intro k o' hk hkl j hj
     by_cases hky:k=y.1
     ·subst hky;rw[h2]at hk;cases hk;exact getD_set_true (haft j hj)
     ·rw[getD_set_ne false (Pca hky)]at hkl;exact getD_set_true (hd k o' hk hkl j hj)
end
end

section
attribute [local irreducible] C H
def Rh {p:Nat}:∀ {l:List Nat},Kya p l=true↔p∈l
 |[]=>by simp[Kya]
 |q::l=>by
  simp only[Kya,Owa,Vk,Rh (l:=l)];constructor
  ·rintro (h|h)
   ·exact .inl (Vb h).symm
   ·exact .inr h
  ·rintro (rfl|h)
   ·exact .inl (by simp)
   ·exact .inr h
def Ri {m:List Nat}:∀ {l:List Nat},Kza l m=true↔∀ p∈l,p∉m
 |[]=>by simp[Kza]
 |q::l=>by
  simp only[Kza,Va,Wk,Vk,Ri (l:=l)];constructor
  ·rintro⟨h1,h2⟩ p (rfl|h) hm
   ·rw[Rh.2 hm]at h1;cases h1
   ·exact h2 p h hm
  ·intro h;refine⟨?_,λ p hp=>h p (.inr hp)⟩
   cases hc:Kya q m with
   |false=>rfl
   |true=>exact(h q (.inl rfl) (Rh.1 hc)).elim
def K3a (s:Sv) (j:Nat):Sv:=match s with
 |.tup vs => .tup (vs.set j (false,[.dead]))
 |s=>s
structure Ext (x:Ak) (t j d:Nat):Prop where
 N:∃ ag l,∀ g,x.N g↔∃ vs,(g t).2 = .tup vs∧nth vs j=some (ag,l)
 e:d≠t→∃ (w:Bool) (s:Sv),∀ g p,x.e g p=if p=d then ((g p).1+1,s) else if w=true∧p=t then ((g p).1+1,K3a (g p).2 j) else g p
structure Rj (y:Lg) (x:Ak):Prop where
 WF:∀ p∈y.W,p∈y.F
 N:∀ g g',(∀ p∈y.F,g p=g' p)→x.N g→x.N g'
 out:∀ g p,p∉y.W→x.e g p=g p
 loc:∀ g g' p,p∈y.W→g p=g' p→x.e g p=x.e g' p
 ex:∀ t j d,y.ex=some (t,j,d)→Ext x t j d
def Rj.ind {y y':Lg} {x x':Ak} (h:Rj y x) (h':Rj y' x') (hi:Bxa y y'=true):Ind x x':=by
 unfold Bxa at hi;simp only[Owa,Va]at hi;rcases hi with⟨d1,d2⟩|hi
 ·have d1:=Ri.1 d1;have d2:=Ri.1 d2;have o1:∀ g,∀ p∈y'.F,x.e g p=g p:=λ g p hp=>h.out g p (λ hw=>d1 p hw hp);have o2:∀ g,∀ p∈y.F,x'.e g p=g p:=λ g p hp=>h'.out g p (λ hw=>d2 p hw hp);refine⟨λ g _ hn=>h'.N _ _ (o1 g) hn,λ g _ hn=>h.N _ _ (λ p hp=>(o2 g p hp).symm) hn,λ g _ _=>?_⟩;funext p
  by_cases hp:p∈y.W
  ·have hp':p∉y'.W:=λ hw=>d2 p hw (h.WF p hp);rw[h'.out (x.e g) p hp',h.loc (x'.e g) g p hp (o2 g p (h.WF p hp))]
  ·rw[h.out (x'.e g) p hp]
   by_cases hp':p∈y'.W
   ·exact h'.loc g (x.e g) p hp' (o1 g p (h'.WF p hp')).symm
   ·rw[h'.out _ p hp',h'.out _ p hp',h.out _ p hp]
 ·split at hi
  ·rename_i t j d t' j' d' e1 e2;simp only[Va,Wk]at hi;obtain⟨⟨⟨⟨q1,q2⟩,q3⟩,q4⟩,q5⟩:=hi;have ht:t=t':=Vb q1;subst ht
   have hj:j≠j':=λ e=>by subst e;simp at q2
   have hd:d≠d':=λ e=>by subst e;simp at q3
   have hdt:d≠t:=λ e=>by subst e;simp at q4
   have hdt':d'≠t:=λ e=>by subst e;simp at q5
   obtain⟨⟨ag,l,hN⟩,he⟩:=h.ex t j d e1;obtain⟨⟨ag',l',hN'⟩,he'⟩:=h'.ex t j' d' e2;obtain⟨w,s,he⟩:=he hdt;obtain⟨w',s',he'⟩:=he' hdt'
   have et:∀ g,(x.e g t).2=if w=true then K3a (g t).2 j else (g t).2:=λ g=>by
    rw[he,if_neg (Pca hdt)]
    cases w<;>simp
   have et':∀ g,(x'.e g t).2=if w'=true then K3a (g t).2 j' else (g t).2:=λ g=>by
    rw[he',if_neg (Pca hdt')]
    cases w'<;>simp
   refine⟨λ g hn hn'=>?_,λ g hn' hn=>?_,λ g hn hn'=>?_⟩
   ·obtain⟨vs,g1,g2⟩:=(hN g).1 hn;obtain⟨vs',g1',g2'⟩:=(hN' _).1 hn';refine(hN' g).2 ⟨vs,g1,?_⟩;rw[et,g1]at g1'
    cases w with
    |false=>
     simp only[Wc,if_false,Sv.tup.injEq]at g1';rw[g1'];exact g2'
    |true=>
     simp only[if_true,K3a,Sv.tup.injEq]at g1';rw[← g1',Et,List.getElem?_set_ne hj]at g2';rw[Et];exact g2'
   ·obtain⟨vs,g1,g2⟩:=(hN g).1 hn;refine(hN _).2 ?_;cases w'
    ·exact⟨vs,by rw[et',g1];simp,g2⟩
    refine⟨vs.set j' (false,[.dead]),by rw[et',g1];simp[K3a],?_⟩;rw[Et,List.getElem?_set_ne (Pca hj),← Et];exact g2
   ·funext p
    by_cases p1:p=d
    ·subst p1;simp[he,he',hd,hdt]
    ·by_cases p2:p=d'
     ·subst p2;simp[he,he',p1,hdt']
     ·by_cases p3:p=t
      ·subst p3;obtain⟨vs,g1,g2⟩:=(hN g).1 hn
       cases w<;>cases w'<;>simp[he,he',p1,p2,g1,K3a]
       exact List.set_comm _ _ (Pca hj)
      ·simp[he,he',p1,p2,p3]
  ·cases hi
def Z0 {ops:Array Oper}:∀ {lg:List Lg},(∀ y∈lg,∀ k,Nat.testBit y.anc k=true→Anc ops k y.i)→∀ j k,Nat.testBit (Bya lg j) k=true→Anc ops k j
 |[],_,j,k,h=>by simp[Bya]at h
 |y::lg,hl,j,k,h=>by
  unfold Bya at h
  cases hb:Nat.beq y.i j with
  |true=>
   rw[hb,cond_true]at h;rw[← Vb hb];exact hl y (by simp) k h
  |false=>
   rw[hb,cond_false]at h;exact Z0 (λ z hz=>hl z (Ve _ hz)) j k h
def E8a {ops:Array Oper} {lg:List Lg} (hl:∀ y∈lg,∀ k,Nat.testBit y.anc k=true→Anc ops k y.i) {i:Nat} {o:Oper} (ho:ops[i]? = some o):∀ {l:List Nat},(∀ j∈l,j∈aft o)→∀ k,Nat.testBit (Hxa lg l) k=true→Anc ops k i
 |[],_,k,h=>by simp[Hxa]at h
 |j::l,hj,k,h=>by
  unfold Hxa at h;simp only[Nat.testBit_or,Owa]at h;rcases h with (h|h)|h
  ·rw[Nat.testBit_two_pow]at h;simp only[decide_eq_true_eq]at h;subst h;exact .dir ho (hj _ (by simp))
  ·exact .tr ho (hj j (by simp)) (Z0 hl j k h)
  ·exact E8a hl ho (λ m hm=>hj m (Ve _ hm)) k h
section
variable {X:Cx} {E:En} {ops:Array Oper} {Q:Exit→Act→World→Prop}
def Z1 {S:Sit} {a:Act} (hE:Fo X E) (hK:Ah X S a) {o:Oper} {j dj:Nat} {want:Bool} (hgd:o.guard=some (j,want)) (hdj:Bwa ops.toList j=some dj) (hb:Nat.blt dj E.nt=true):
  (∀ b,(S.g dj).2 = .one (.sc (.bool b))→Region.wanted o (yielded ops a.tmps)=(b==want))∧((S.g dj).2 = .one .un→Region.wanted o (yielded ops a.tmps)=false):=by
 have hdj':(ops[j]?).bind (·.dst)=some dj:=by
  unfold Bwa at hdj;rw[Et]at hdj
  have:ops.toList[j]? = ops[j]? := by simp
  rw[this]at hdj
  cases hj:ops[j]? with
  |none=>rw[hj]at hdj;cases hdj
  |some oj=>rw[hj]at hdj;simpa using hdj
 have hjl:dj<X.nt:=hE.nt ▸ (Vd hb:dj+1≤E.nt)
 have htm:a.tmps[dj]? = some (S.ph dj):=by
  have h1:=hK.sl dj hjl
  have h2:dj<a.tmps.size:=by rw[hK.sz];exact hjl
  rw[← h1,Wg,Zr h2];rfl
 have hy:yielded ops a.tmps j=(match S.ph dj with | .bool b=>some b|_=>none):=by
  unfold yielded;rw[hdj',Vy,htm]
  cases S.ph dj<;>rfl
 have hwd:Region.wanted o (yielded ops a.tmps)=((match S.ph dj with | .bool b=>some b|_=>none)==some want):=by
  unfold Region.wanted;rw[hgd];simp only;rw[hy]
 have hat:=hK.at_ dj;constructor
 ·intro b hs;rw[hs]at hat;have hph:S.ph dj = .bool b:=hat.1;rw[hwd,hph]
  cases b<;>cases want<;>rfl
 ·intro hs;rw[hs]at hat;have hph:S.ph dj=undef:=hat;rw[hwd,hph];simp[undef]
def N8a (F:List Nat) (A:Ab) (U:List Up):Ak:=⟨λ g=>∀ p∈F,g p=get A p,λ g=>W0 g U⟩
def E9a {y:Lg} {A:Ab} {U:List Up} {F:List Nat} (hF:y.F=F++U.map Up.l) (hW:y.W=U.map Up.l) (hex:y.ex=none):Rj y (N8a y.F A U):=by
 refine⟨λ p hp=>?_,λ g g' h hn p hp=>by rw[← h p hp];exact hn p hp,λ g p hp=>Ll U g p (by rw[← hW];exact hp),λ g g' p _ h=>Lm U g g' p h,λ t j d h=>by rw[hex]at h;cases h⟩;rw[hF,Vm];exact .inr (by rw[← hW];exact hp)
def M3a (hV:O8 X E) {i:Nat} {o:Oper} (hi:ops[i]? = some o) (hd:S7 E o=true) {x:Ak} (hw:∀ S a,Ah X S a→x.N S.g→Region.wanted o (yielded ops a.tmps)=true)
  (hU:∀ A',x.N (get A')→∃ U,Ai E o A' some=some U∧W0 (get A') U=x.e (get A')):L3a X ops Q i x:=by
 intro S a A' K hg hn Kn hk
 have hdl:∀ d,o.dst=some d→d<X.nt:=λ d hod=>by
  unfold S7 at hd;rw[hod]at hd;exact hV.en.nt ▸ (Vd hd:d+1≤E.nt)
 obtain⟨U,hU1,hU2⟩:=hU A' hn;obtain⟨U',hU',hgo⟩:=D8a hV K hg hdl hU1;simp only[Vc]at hU';subst hU';unfold wpOp;rw[hi];simp only;rw[if_pos (hw S a K (by rw[hg];exact hn))];exact .inl (hgo _ _ (λ S' a' K' g'=>hk S' a' _ K' g' ((Jp U' A').trans hU2)))
def K4a (hV:O8 X E) {i:Nat} {o:Oper} (hi:ops[i]? = some o) (hd:S7 E o=true) {N:Gs→Prop} (hw:∀ S a,Ah X S a→N S.g→Region.wanted o (yielded ops a.tmps)=false):
  L3a X ops Q i ⟨N,λ g=>W0 g (match o.dst with|some d=>[⟨d,false,.one .un⟩]|none=>[])⟩:=by
 intro S a A' K hg hn Kn hk;unfold wpOp;rw[hi];simp only;rw[if_neg (by rw[hw S a K (by rw[hg];exact hn)];decide)];obtain⟨S',K',g',w'⟩:=I8a hV.en K hg hd;rw[← w'];refine hk S' _ _ K' g' ?_;unfold Kw
 cases o.dst with
 |none=>rfl
 |some d=>exact Jp [⟨d,false,.one .un⟩] A'
def Z2 (t j d:Nat) (l:List Lf) (s:Sv) (vs:List (Bool×List Lf)):List Up:=bif Cm l then [⟨t,false,.tup (vs.set j (false,[.dead]))⟩,⟨d,false,s⟩] else [⟨d,false,s⟩]
def H4a {R:Type} {Kc:List Up→Option R} {r:R} {A:Ab} {o:Oper} {t j d:Nat} (ho:o.op = .extract (.tmp t) j) (hod:o.dst=some d) (h:Ai E o A Kc=some r):
  ∃ vs ag l s,(get A t).2 = .tup vs∧nth vs j=some (ag,l)∧Kc (Z2 t j d l s vs)=some r∧∀ A' vs',(get A' t).2 = .tup vs'→nth vs' j=some (ag,l)→Ai E o A' some=some (Z2 t j d l s vs'):=by
 unfold Ai at h;rw[ho,hod]at h;simp only at h;cases hb:Nat.blt t E.nt
 ·rw[hb]at h;simp at h
 rw[hb,cond_true]at h;split at h
 ·rename_i vs hg;split at h
  ·rename_i ag l hn;split at h
   ·rename_i s hs;refine⟨vs,ag,l,s,hg,hn,?_,λ A' vs' hg' hn'=>?_⟩
    ·rw[← h];unfold Z2
     cases Cm l<;>rfl
    ·unfold Ai;rw[ho,hod];simp only[hb,cond_true,hg',hn',hs];unfold Z2
     cases Cm l<;>rfl
   ·cases h
  ·cases h
 ·cases h
def W2 (t j d:Nat) (ag:Bool) (l:List Lf) (s:Sv):Ak:=
 ⟨λ g=>∃ vs,(g t).2 = .tup vs∧nth vs j=some (ag,l),λ g=>W0 g (bif Cm l then [⟨t,false,K3a (g t).2 j⟩,⟨d,false,s⟩] else [⟨d,false,s⟩])⟩
def H5a {o:Oper} {i:Nat} {lg:List Lg} {A:Ab} {t j d:Nat} {ag:Bool} {l:List Lf} {s:Sv} {vs:List (Bool×List Lf)} (ho:o.op = .extract (.tmp t) j) (hod:o.dst=some d):
  Rj (Pi o i lg [] A (Z2 t j d l s vs)) (W2 t j d ag l s):=by
 have ht:t∈(Pi o i lg [] A (Z2 t j d l s vs)).F:=by
  show t∈[]++rds A o++_;simp[rds,Kxa,ho,Fm,Fma,rdO]
 have hW:(Pi o i lg [] A (Z2 t j d l s vs)).W=bif Cm l then [t,d] else [d]:=by
  show (Z2 t j d l s vs).map Up.l=_;unfold Z2
  cases Cm l<;>rfl
 refine⟨λ p hp=>Vi _ hp,λ g g' hF hn=>?_,λ g p hp=>?_,λ g g' p hp h=>?_,λ t' j' d' h=>?_⟩
 ·obtain⟨vs',h1,h2⟩:=hn;exact⟨vs',by rw[← hF t ht];exact h1,h2⟩
 ·rw[hW]at hp;unfold W2
  cases hl:Cm l with
  |true=>
   rw[hl]at hp;exact Ll _ _ _ hp
  |false=>
   rw[hl]at hp;exact Ll _ _ _ hp
 ·rw[hW]at hp;unfold W2;cases hl:Cm l
  ·exact Lm _ _ _ p h
  rw[hl]at hp;simp only[cond_true];show gup (gup g _) _ p=gup (gup g' _) _ p;unfold gup
  by_cases e1:p=d
  ·subst e1
   by_cases e2:p=t
   ·subst e2;simp[h]
   ·simp[e2,h]
  ·rcases Vk.1 hp with e2|e2
   ·subst e2;simp[e1,h]
   ·exact(e1 (by simpa using e2)).elim
 ·have hex:(Pi o i lg [] A (Z2 t j d l s vs)).ex=some (t,j,d):=by
   show (bif List.isEmpty ([]:List Nat) then Laa o else none)=_;simp[Laa,ho,hod]
  rw[hex]at h;cases h;refine⟨⟨ag,l,λ g=>Psa⟩,λ hdt=>⟨Cm l,s,λ g p=>?_⟩⟩;unfold W2
  cases hl:Cm l with
  |false=>
   show gup g _ p=_;unfold gup
   by_cases e1:p=d
   ·subst e1;simp
   ·simp[e1]
  |true=>
   simp only[cond_true];show gup (gup g _) _ p=_;unfold gup
   by_cases e1:p=d
   ·subst e1;simp[hdt]
   ·simp[e1]
    by_cases e2:p=t
    ·subst e2;simp
    ·simp[e2]
end
end

section
attribute [local irreducible] C H
section
variable {X:Cx} {E:En} {ops:Array Oper} {Q:Exit→Act→World→Prop}
structure Iea (X:Cx) (ops:Array Oper) (Q:Exit→Act→World→Prop) (l:List Nat) (lg:List Lg) (g:Gs) (f:Gs) (L:List (Lg×Ak)):Prop where
 ix:L.map (λ z=>z.1.i)=l
 runs:Ica (L.map Prod.snd) g f
 fits:∀ z∈L,Rj z.1 z.2∧L3a X ops Q z.1.i z.2
 old:∀ y∈lg,∀ z∈L,Nat.testBit z.1.anc y.i=true∨Bxa y z.1=true
 pair:L.Pairwise (λ y z=>Nat.testBit z.1.anc y.1.i=true∨Bxa y.1 z.1=true)
 anc:∀ z∈L,∀ k,Nat.testBit z.1.anc k=true→Anc ops k z.1.i
 lt:∀ i∈l,∃ o,ops[i]? = some o∧∀ j∈aft o,j<i
def Iea.cons {l:List Nat} {lg:List Lg} {g g1 f:Gs} {L:List (Lg×Ak)} {y:Lg} {x:Ak} {i:Nat} (h:Iea X ops Q l (y::lg) g1 f L) (hi:y.i=i) (hn:x.N g) (he:x.e g=g1) (hf:Rj y x) (ho:L3a X ops Q i x) (hok:Bza lg y=true)
  (ha:∀ k,Nat.testBit y.anc k=true→Anc ops k i) (hl:∃ o,ops[i]? = some o∧∀ j∈aft o,j<i):Iea X ops Q (i::l) lg g f ((y,x)::L):=by
 refine⟨by simp[hi,h.ix],⟨hn,by rw[he];exact h.runs⟩,?_,?_,?_,?_,?_⟩
 ·intro z hz;rcases Vk.1 hz with rfl|hz
  ·exact⟨hf,by rw[hi];exact ho⟩
  ·exact h.fits z hz
 ·intro y' hy' z hz;rcases Vk.1 hz with rfl|hz
  ·unfold Bza at hok;rw[Ora]at hok;have:=hok y' hy'
   simpa using this
  ·exact h.old y' (Ve _ hy') z hz
 ·exact Yu.2 ⟨λ z hz=>h.old y (by simp) z hz,h.pair⟩
 ·intro z hz k hk;rcases Vk.1 hz with rfl|hz
  ·rw[hi];exact ha k hk
  ·exact h.anc z hz k hk
 ·intro j hj;rcases Vk.1 hj with rfl|hj
  ·exact hl
  ·exact h.lt j hj
def Z3 (hV:O8 X E) {R:Type}:∀ (l:List Nat) (lg:List Lg) (A:Ab) (K:Ab→Option R) (r:R),(∀ y∈lg,∀ k,Nat.testBit y.anc k=true→Anc ops k y.i)→Ff E ops.toList l lg A K=some r→
  ∃ (L:List (Lg×Ak)) (A':Ab),K A'=some r∧Iea X ops Q l lg (get A) (get A') L
 |[],lg,A,K,r,_,h=>⟨[],A,h,rfl,rfl,by simp,by simp,.nil,by simp,by simp⟩
 |i::l,lg,A,K,r,hlg,h=>by
  unfold Ff at h;rw[Et]at h;split at h
  ·cases h
  ·rename_i o ho
   have hi:ops[i]? = some o:=by simpa using ho
   obtain⟨hb0,h⟩:=cs h;simp only[Va,Ora]at hb0;obtain⟨hd,hlt0⟩:=hb0
   have hlt:∃ o,ops[i]? = some o∧∀ j∈aft o,j<i:=⟨o,hi,λ j hj=>by
    have:=hlt0 j hj
    exact Vd this⟩
   have hanc:∀ k,Nat.testBit (Hxa lg (aft o)) k=true→Anc ops k i:=E8a hlg hi (λ j hj=>hj)
   have next:∀ {y:Lg} {x:Ak} {A1:Ab},y.i=i→y.anc=Hxa lg (aft o)→x.N (get A)→x.e (get A)=get A1→Rj y x→L3a X ops Q i x→Bza lg y=true→Ff E ops.toList l (y::lg) A1 K=some r→
     ∃ (L:List (Lg×Ak)) (A':Ab),K A'=some r∧Iea X ops Q (i::l) lg (get A) (get A') L:=by
    intro y x A1 e1 e2 hn he hf hop hok hev
    obtain⟨L,A',h1,h2⟩:=Z3 hV l (y::lg) A1 K r (λ z hz k hk=>by
     rcases Vk.1 hz with rfl|hz
     ·rw[e1];exact hanc k (by rw[← e2];exact hk)
     ·exact hlg z hz k hk) hev
    exact⟨_,A',h1,h2.cons e1 hn he hf hop hok (by rw[e2];exact hanc) hlt⟩
   have cnd:∀ {b:Bool} {z:Option R},(bif b then z else none)=some r→b=true∧z=some r:=by
    intro b z hz
    cases b with
    |false=>simp at hz
    |true=>exact⟨rfl,hz⟩
   have exec:∀ (B:Ab) (gd:List Nat),get B=get A→(∀ S a,Ah X S a→(∀ p∈gd,S.g p=get A p)→Region.wanted o (yielded ops a.tmps)=true)→
     Ai E o B (λ U=>bif Bza lg (Pi o i lg gd B U) then Ff E ops.toList l (Pi o i lg gd B U::lg) (ups B U) K else none)=some r→
     ∃ (L:List (Lg×Ak)) (A':Ab),K A'=some r∧Iea X ops Q (i::l) lg (get A) (get A') L:=by
    intro B gd hBA hw hs
    have generic:(Pi o i lg gd B [] ).ex=none→∃ (L:List (Lg×Ak)) (A':Ab),K A'=some r∧Iea X ops Q (i::l) lg (get A) (get A') L:=by
     intro hex;obtain⟨U,h1,h2⟩:=H3a (F:=rds B o) (λ p hp=>hp) hd.2 hs;obtain⟨hok,hev⟩:=cnd h1;have hfit:Rj (Pi o i lg gd B U) (N8a (Pi o i lg gd B U).F B U):=E9a (F:=gd++rds B o) rfl rfl hex;refine next (y:=Pi o i lg gd B U) (x:=N8a (Pi o i lg gd B U).F B U) (A1:=ups B U) rfl rfl (λ p _=>by rw[hBA]) ?_ hfit ?_ hok hev
     ·show W0 (get A) U=_;rw[Jp,hBA]
     ·refine M3a hV hi hd.1 (λ S a hS hN=>hw S a hS (λ p hp=>?_)) (λ A' hN=>⟨U,?_,rfl⟩)
      ·rw[← hBA];exact hN p (by show p∈gd++rds B o++_;simp[hp])
      ·exact h2 A' (λ p hp=>hN p (by show p∈gd++rds B o++_;simp[hp])) some
    cases hgd:gd with
    |cons p0 gd'=>subst hgd;exact generic (by simp[Pi])
    |nil=>
     subst hgd
     cases hexo:Laa o with
     |none=>exact generic (by simp[Pi,hexo])
     |some q=>
      obtain⟨t,j,d⟩:=q
      have:o.op = .extract (.tmp t) j∧o.dst=some d:=by
       unfold Laa at hexo;split at hexo
       ·rename_i e1 e2;cases hexo;exact⟨e1,e2⟩
       ·cases hexo
      obtain⟨hop,hod⟩:=this;obtain⟨vs,ag,lf,s,hg,hn,h1,h2⟩:=H4a hop hod hs;obtain⟨hok,hev⟩:=cnd h1
      have hex:∀ A' vs',(get A' t).2 = .tup vs'→W0 (get A') (Z2 t j d lf s vs')=(W2 t j d ag lf s).e (get A'):=by
       intro A' vs' hv;unfold Z2 W2;simp only;rw[hv];rfl
      refine next (y:=Pi o i lg [] B (Z2 t j d lf s vs)) (x:=W2 t j d ag lf s) (A1:=ups B (Z2 t j d lf s vs)) rfl rfl ⟨vs,by rw[← hBA];exact hg,hn⟩ ?_ (H5a hop hod) ?_ hok hev
      ·rw[← hBA,Jp];exact(hex B vs hg).symm
      ·refine M3a hV hi hd.1 (λ S a hS _=>hw S a hS (by simp)) (λ A' hN=>?_);obtain⟨vs',g1,g2⟩:=hN;exact⟨_,h2 A' vs' g1 g2,hex A' vs' g1⟩
   have skip:∀ (B:Ab) (dj:Nat),get B=get A→(∀ S a,Ah X S a→S.g dj=get A dj→Region.wanted o (yielded ops a.tmps)=false)→
     (bif Bza lg (Kx o i lg [dj]) then Ff E ops.toList l (Kx o i lg [dj]::lg) (Kw o B) K else none)=some r→
     ∃ (L:List (Lg×Ak)) (A':Ab),K A'=some r∧Iea X ops Q (i::l) lg (get A) (get A') L:=by
    intro B dj hBA hw hs;obtain⟨hok,hev⟩:=cnd hs
    have hsk:W0 (get A) (match o.dst with|some d=>[⟨d,false,.one .un⟩]|none=>[])=get (Kw o B):=by
     unfold Kw
     cases o.dst with
     |none=>exact hBA.symm
     |some d=>rw[← hBA];exact(Jp [⟨d,false,.one .un⟩] B).symm
    refine next (y:=Kx o i lg [dj]) (x:=⟨λ g=>g dj=get A dj,λ g=>W0 g (match o.dst with|some d=>[⟨d,false,.one .un⟩]|none=>[])⟩) (A1:=Kw o B) rfl rfl rfl hsk ?_ (K4a hV hi hd.1 (λ S a hS hN=>hw S a hS hN)) hok hev
    have hmap:(match o.dst with|some d=>[(⟨d,false,.one .un⟩:Up)]|none=>[]).map Up.l=o.dst.toList:=by cases o.dst<;>rfl
    refine⟨λ p hp=>Vi _ hp,λ g g' h hn=>by show g' dj=get A dj;rw[← h dj (by show dj∈[dj]++_;simp)];exact hn,λ g p hp=>Ll _ g p (by rw[hmap];exact hp),λ g g' p _ h=>Lm _ g g' p h,λ t j d h=>by cases h⟩
   split at h
   ·rename_i hgd;exact exec A [] rfl (λ S a _ _=>by unfold Region.wanted;rw[hgd]) h
   ·rename_i j want hgd;split at h
    ·cases h
    ·rename_i dj hdj;obtain⟨hb,h⟩:=cs h;split at h
     ·rename_i n b hgt;have hwant:∀ (S:Sit) (a:Act),Ah X S a→S.g dj=get A dj→Region.wanted o (yielded ops a.tmps)=(b==want):=λ S a hS hs=>(Z1 hV.en hS hgd hdj hb).1 b (by rw[hs,hgt])
      cases b with
      |true=>
       rw[cond_true]at h
       cases want with
       |true=>
        rw[cond_true]at h;exact exec (lit A dj n true) [dj] (O9 hgt) (λ S a hS hs=>hwant S a hS (hs dj (by simp))) h
       |false=>
        rw[cond_false]at h;exact skip (lit A dj n true) dj (O9 hgt) (λ S a hS hs=>hwant S a hS hs) h
      |false=>
       rw[cond_false]at h
       cases want with
       |true=>
        rw[cond_true]at h;exact skip (lit A dj n false) dj (O9 hgt) (λ S a hS hs=>hwant S a hS hs) h
       |false=>
        rw[cond_false]at h;exact exec (lit A dj n false) [dj] (O9 hgt) (λ S a hS hs=>hwant S a hS (hs dj (by simp))) h
     ·rename_i n hgt;exact skip A dj rfl (λ S a hS hs=>(Z1 hV.en hS hgd hdj hb).2 (by rw[hs,hgt])) h
     ·cases h
def K5a (hV:O8 X E) (hm:X.P.follows .mixedOrders=true):T4 X E:=by
 intro R id ops Q S a A K r hK hg h hQ;refine wp_region_any hm ?_;obtain⟨L,A',hA',T⟩:=Z3 (X:=X) (ops:=ops) (Q:=Q) hV _ [] A K r (by simp) h
 have hlen:L.length=ops.size:=by
  have:=congrArg length T.ix
  simpa using this
 have hmem:∀ z∈L,z.1.i<ops.size:=by
  intro z hz;have:z.1.i∈L.map (λ z=>z.1.i):=Yn hz;rw[T.ix]at this
  simpa using this
 have K2:=(hK.world (w' := { S.w with drawn:=S.w.drawn+1 }) (O':=S.O) (λ k _ _=>⟨rfl,rfl⟩) rfl rfl rfl (Vo _) hK.lt).1;refine Ida (X:=X) (f:=get A') ?_ (λ S' a' A2 K' g' e'=>hQ S' a' A' K' (by rw[g',e']) hA') ops.size (L.map λ z=>(z.1.i,z.2)) _ (Mx S { S.w with drawn:=S.w.drawn+1 } S.O) a A (by simp[hlen]) (by simp) ?_ ?_ ?_ ?_ ?_ ?_ K2 hg ?_
 ·intro i o hi j hj;have hil:i<ops.size:=(Yx.1 hi).1;obtain⟨o',h1,h2⟩:=T.lt i (by simpa using hil);rw[hi]at h1;cases h1;exact h2 j hj
 ·rw[Pxa]
  have hp:(L.map (λ z=>z.1.i)).Pairwise (· < ·):=by rw[T.ix];exact List.pairwise_lt_range
  rw[Pxa]at hp;exact hp
 ·intro i hi;constructor
  ·intro _
   have:i∈L.map (λ z=>z.1.i):=by rw[T.ix];simpa using hi
   obtain⟨z,hz,hzi⟩:=Za.1 this;exact⟨(z.1.i,z.2),Yn hz,hzi⟩
  ·intro _;simp[Wg,hi]
 ·rw[Pxa];refine List.Pairwise.imp_of_mem ?_ T.pair;intro y z hy hz h;rcases h with h|h
  ·exact .inl (T.anc z hz _ h)
  ·exact .inr ((T.fits y hy).1.ind (T.fits z hz).1 h)
 ·intro x hx;obtain⟨z,hz,rfl⟩:=Za.1 hx;exact(T.fits z hz).2
 ·intro x hx;obtain⟨z,hz,rfl⟩:=Za.1 hx;exact hmem z hz
 ·intro i o hi hl;have hil:i<ops.size:=(Yx.1 hi).1;simp[Wg,hil]at hl
 ·have:(L.map λ z=>(z.1.i,z.2)).map Prod.snd=L.map Prod.snd:=by simp
  rw[this];exact T.runs
end
end

end Go.Proofs.Ytbbifgjgneefkaa.Vf
