import Derived.Test.YtcpligincipmhaaGreatMah
import Derived.ChangeArms
import Derived.SizedLaws
import Derived.DataReads
import Derived.Laws.StructEq
import Derived.Below
set_option linter.all false
namespace Go.Proofs.YtcpligincipmhaaGreat.Vf
open Go
open List (length getD)
open Int (toNat)
open Go.IntKind (wrap)
open BitVec (ofInt)
def Wa:=@List.pairwise_cons
def Yd:=@List.all_eq_true
def Yx:=@List.take_length
def Zg:=@List.pairwise_append
def Zo:=@List.pairwise_map
def C9b:=@Bool.and_true
def D7b:=@List.all_cons
def D9b:=@List.getElem?_set_ne
def Dub:=@List.eq_nil_iff_forall_not_mem
def Dyb:=@List.getElem_mem
def Eqb:=@Option.bind_eq_some_iff
def F2b:=@Bool.and_assoc

section
attribute [local irreducible] C H
section
variable {E:En} {A A':Ab} {F:List Nat} {o:Oper} {R:Type} {Kc:List Up→Option R} {r:R}
def Mea {B p:Nat} {e:TypeId} {r':Ty} {xs:List r'.den} {i:Int} {K:List Up→Option R} (hB:H B∈F) (h:T2 A B p e r' xs i K none=some r):∃ U,K U=some r∧∀ A',Ag A A' F→∀ {R':Type} (K':List Up→Option R'),T2 A' B p e r' xs i K' none=K' U:=by
 unfold T2 at h;obtain⟨h1,h⟩:=cs h;obtain⟨h2,h⟩:=cs h;obtain⟨h3,h⟩:=cs h;refine⟨_,h,λ A' hA R' K'=>?_⟩;unfold T2;simp only[h1,h2,h3,cond_true,hA _ hB]
def Z8 {T:TypeId} {x i:Operand} {d:Nat} (ho:o.op = .indexAddr T x i) (hod:o.dst=some d) (hopn:E.opn d=true) (hB:H (2000+d)∈F) (hx:RX A F x) (hi:RX A F i) (h:Au E o A Kc=some r):Loc E o A F Kc r:=by
 unfold Au at h;rw[ho,hod]at h;simp only[hopn,cond_true]at h;split at h
 ·rename_i p v k n hs hn;have hp:p∈F:=H1 hx hs;split at h
  ·rename_i m e r' xs hgp;obtain⟨hq,h⟩:=cs h;obtain⟨U,h1,h2⟩:=Mea hB h;refine⟨_,h1,λ A' hA R' K'=>?_⟩;unfold Au;rw[ho,hod];simp only[hopn,Az hA hx,Az hA hi,hs,hn,hA p hp,hgp,hq,cond_true,hA _ hB];exact h2 A' hA _
  ·cases h
 ·cases h
def Z9 {T:TypeId} {x i:Operand} {d:Nat} (ho:o.op = .indexAddr T x i) (hod:o.dst=some d) (hopn:E.opn d=false) (hx:RX A F x) (hi:RX A F i) (h:Au E o A Kc=some r):Loc E o A F Kc r:=by
 unfold Au at h;rw[ho,hod]at h;simp only[hopn,cond_false]at h;split at h
 ·rename_i y k n hs hn;have hrl:=H1 hx hs;have hal:=hrl.al;split at h
  ·rename_i p v e r' xs hse;obtain⟨hb,h⟩:=cs h;obtain⟨hl,h⟩:=cs h
   cases hno:J6 r' with
   |true=>
    rw[hno,cond_true]at h;refine⟨_,h,λ A' hA R' K'=>?_⟩;unfold Au;rw[ho,hod];simp only[hopn,cond_false,Az hA hx,Az hA hi,hs,hn,Fq hA hal,hse,hb,hl,hno,cond_true]
   |false=>
    rw[hno,cond_false]at h;obtain⟨hao,h⟩:=cs h;refine⟨_,h,λ A' hA R' K'=>?_⟩;unfold Au;rw[ho,hod];simp only[hopn,cond_false,Az hA hx,Az hA hi,hs,hn,Fq hA hal,hse,hb,hl,hno,hao,cond_true,cond_false]
  ·rename_i p v pi e r' xs;have hp:p∈F:=hrl;obtain⟨hb,h⟩:=cs h;obtain⟨hl,h⟩:=cs h;refine⟨_,h,λ A' hA R' K'=>?_⟩;unfold Au;rw[ho,hod];simp only[hopn,cond_false,Az hA hx,Az hA hi,hs,hn,hA p hp,hb,hl,cond_true]
  ·rename_i p v hse;have hp:p∈F:=hrl;split at h
   ·rename_i m e r0 xs0 i0 b0 vb hgp;obtain⟨hb,h⟩:=cs h;obtain⟨hl,h⟩:=cs h;refine⟨_,h,λ A' hA R' K'=>?_⟩;unfold Au;rw[ho,hod];simp only[hopn,cond_false,Az hA hx,Az hA hi,hs,hn,Fq hA hal,hse,hA p hp,hgp,hb,hl,cond_true]
   ·cases h
  ·rename_i e r' xs hnda hse;obtain⟨hb,h⟩:=cs h;obtain⟨hl,h⟩:=cs h;refine⟨_,h,λ A' hA R' K'=>?_⟩;unfold Au;rw[ho,hod];simp only[hopn,cond_false,Az hA hx,Az hA hi,hs,hn,Fq hA hal,hse,hb,hl,cond_true]
  ·rename_i e r' xs hne hnda hse;split at h
   ·rename_i t;have ht:t∈F:=hx.1;obtain⟨hb,h⟩:=cs h;obtain⟨hl,h⟩:=cs h
    cases hno:J6 r' with
    |true=>
     rw[hno,cond_true]at h;refine⟨_,h,λ A' hA R' K'=>?_⟩;unfold Au;rw[ho,hod];simp only[hopn,cond_false,Az hA hx,Az hA hi,hs,hn,Fq hA hal,hse,hb,hl,hno,cond_true,hA t ht]
    |false=>
     rw[hno,cond_false]at h;obtain⟨hao,h⟩:=cs h;refine⟨_,h,λ A' hA R' K'=>?_⟩;unfold Au;rw[ho,hod];simp only[hopn,cond_false,Az hA hx,Az hA hi,hs,hn,Fq hA hal,hse,hb,hl,hno,hao,cond_true,cond_false,hA t ht]
   ·cases h
  ·cases h
 ·cases h
def Mfa {T:TypeId} {x i:Operand} {d:Nat} (ho:o.op = .index T x i) (hod:o.dst=some d) (hx:RX A F x) (hi:RX A F i) (h:Au E o A Kc=some r):Loc E o A F Kc r:=by
 unfold Au at h;rw[ho,hod]at h;simp only at h;split at h
 ·rename_i s k n hs hn;obtain⟨hb,h⟩:=cs h;obtain⟨hl,h⟩:=cs h;refine⟨_,h,λ A' hA R' K'=>?_⟩;unfold Au;rw[ho,hod];simp only[Az hA hx,Az hA hi,hs,hn,hb,hl,cond_true]
 ·cases h
def He (hA:Ag A A' F) {x:Option Operand} (hx:∀ y,x=some y→RX A F y):E1a E A' x=E1a E A x:=by
 cases x with
 |none=>rfl
 |some y=>simp only[E1a,Az hA (hx y rfl)]
def Mga {T:TypeId} {x:Operand} {lo hi:Option Operand} {d:Nat} (ho:o.op = .slice T x lo hi none) (hod:o.dst=some d) (hx:RX A F x) (hlo:∀ y,lo=some y→RX A F y) (hhi:∀ y,hi=some y→RX A F y) (h:Au E o A Kc=some r):Loc E o A F Kc r:=by
 unfold Au at h;rw[ho,hod]at h;simp only at h;split at h
 ·rename_i s l u hs hl hu;obtain⟨hq,h⟩:=cs h;obtain⟨h1,h2⟩:=Lb h;refine⟨_,h1,λ A' hA R' K'=>?_⟩;unfold Au;rw[ho,hod];simp only[Az hA hx,He hA hlo,He hA hhi,hs,hl,hu,hq,cond_true];exact h2 _
 ·rename_i y l u hne hs hl hu;have hal:=(H1 hx hs).al;split at h
  ·rename_i e0 r0 xs0 e r' xs hsn;obtain⟨hq,h⟩:=cs h;split at h
   ·obtain⟨h1,h2⟩:=Lb h;refine⟨_,h1,λ A' hA R' K'=>?_⟩;unfold Au;rw[ho,hod];simp only[Az hA hx,He hA hlo,He hA hhi,hs,hl,hu,Fq hA hal,hsn,hq,cond_true];exact h2 _
   ·obtain⟨h1,h2⟩:=Lb h;refine⟨_,h1,λ A' hA R' K'=>?_⟩;unfold Au;rw[ho,hod];simp only[Az hA hx,He hA hlo,He hA hhi,hs,hl,hu,Fq hA hal,hsn,hq,cond_true];exact h2 _
  ·rename_i p v e r' xs hsn;have hp:p∈F:=H1 hx hs;obtain⟨hq,h⟩:=cs h
   cases hmv:E.mv d with
   |true=>
    rw[hmv,cond_true]at h;split at h
    ·obtain⟨h1,h2⟩:=Lb h;refine⟨_,h1,λ A' hA R' K'=>?_⟩;unfold Au;rw[ho,hod];simp only[Az hA hx,He hA hlo,He hA hhi,hs,hl,hu,Fq hA hal,hsn,hq,hmv,cond_true];exact h2 _
    ·cases h
   |false=>
    rw[hmv,cond_false]at h
    cases hno:J6 r' with
    |true=>
     rw[hno,cond_true]at h;obtain⟨h1,h2⟩:=Lb h;refine⟨_,h1,λ A' hA R' K'=>?_⟩;unfold Au;rw[ho,hod];simp only[Az hA hx,He hA hlo,He hA hhi,hs,hl,hu,Fq hA hal,hsn,hq,hmv,hno,cond_true,cond_false,Eta hA hal];exact h2 _
    |false=>
     rw[hno,cond_false]at h;obtain⟨hao,h⟩:=cs h;obtain⟨h1,h2⟩:=Lb h;refine⟨_,h1,λ A' hA R' K'=>?_⟩;unfold Au;rw[ho,hod];simp only[Az hA hx,He hA hlo,He hA hhi,hs,hl,hu,Fq hA hal,hsn,hq,hmv,hno,hao,cond_true,cond_false];exact h2 _
  ·rename_i p v pi e r' xs;have hp:p∈F:=H1 hx hs;obtain⟨hq,h⟩:=cs h;obtain⟨h1,h2⟩:=Lb h;refine⟨_,h1,λ A' hA R' K'=>?_⟩;unfold Au;rw[ho,hod];simp only[Az hA hx,He hA hlo,He hA hhi,hs,hl,hu,hA p hp,hq,cond_true];exact h2 _
  ·rename_i e r' xs hnda hsn;obtain⟨hq,h⟩:=cs h;obtain⟨h1,h2⟩:=Lb h;refine⟨_,h1,λ A' hA R' K'=>?_⟩;unfold Au;rw[ho,hod];simp only[Az hA hx,He hA hlo,He hA hhi,hs,hl,hu,Fq hA hal,hsn,hq,cond_true];exact h2 _
  ·cases h
 ·cases h
def Caa {A:Ab} {y:Lf}:∀ u∈Sf A y,Np u:=by
 intro u hu;unfold Sf at hu;split at hu
 ·rename_i p v;split at hu
  ·rename_i n e r xs hg;cases hb:Nat.beq n v
   ·rw[hb]at hu;simp at hu
   rw[hb]at hu;simp only[cond_true,Vn]at hu;subst hu;exact .inr ⟨e,r,xs,rfl⟩
  ·simp at hu
 ·simp at hu
def X3 {A:Ab}:∀ {l:List Lf},∀ u∈Iq A l,Np u
 |[],u,hu=>by simp[Iq]at hu
 |y::l,u,hu=>by
  unfold Iq at hu;rcases Vm.1 hu with hu|hu
  ·exact Caa u hu
  ·exact X3 u hu
def Tu {x:Operand} {s:Sv}:∀ u∈gone x s,Np u:=by
 intro u hu;unfold gone at hu;split at hu
 ·rename_i t;cases hb:Lm s
  ·rw[hb]at hu;simp at hu
  rw[hb]at hu;simp only[cond_true,Vn]at hu;subst hu;exact .inl rfl
 ·simp at hu
def Mha {y:Lf} {x:Operand}:∀ u∈Dwa y x,Np u:=by
 intro u hu;unfold Dwa at hu;split at hu
 ·simp only[Vn]at hu;subst hu;exact .inl rfl
 ·simp only[Vn]at hu;subst hu;exact .inl rfl
 ·simp at hu
def Mia {A:Ab} {l:List Lf} {x:Operand} {s:Sv}:∀ u∈Iq A l++gone x s,Np u:=λ u hu=>(Vm.1 hu).elim (X3 u) (Tu u)
def Pa:∀ {l:List Lf} {A:Ab} {m:List Lf} {us:List Up},J7 A l=some (m,us)→∀ u∈us,Np u
 |[],A,m,us,h=>by
  simp only[J7,Vc,Vy]at h;obtain⟨_,rfl⟩:=h;simp
 |x::l,A,m,us,h=>by
  by_cases hal:∃ p v,x = .al p v
  ·obtain⟨p,v,rfl⟩:=hal;simp only[J7]at h;split at h
   ·split at h
    ·rename_i m' us' hrec;cases h;intro u hu;rcases Vl.1 hu with rfl|hu
     ·exact .inl rfl
     ·exact Pa hrec u hu
    ·cases h
   ·cases h
  ·obtain⟨m',rfl,h'⟩:=P8 (λ p v e=>hal ⟨p,v,e⟩) h;exact Pa h'
def Mja {A:Ab} {x:Operand} {s:Sv} {m:List Lf} {us:List Up} (h:give A x s=some (m,us)):∀ u∈us,Np u:=by
 unfold give at h;split at h
 ·rename_i m0 vs0 ht;cases h;exact λ u hu=>(Vm.1 hu).elim (Tu u) (Pa ht u)
 ·cases h
def Tv {T:TI}:∀ {ps:List (Nat×Operand)} {A A':Ab} {l:List Lf} {us:List Up},Ag A A' F→(∀ p∈ps,RX A F p.2)→Ln E A' T l us ps=Ln E A T l us ps
 |[],_,_,_,_,_,_=>rfl
 |(i,x)::ps,A,A',l,us,hA,hp=>by
  have hx:RX A F x:=hp (i,x) (by simp);have hps:∀ p∈ps,RX A F p.2:=λ p hm=>hp p (Vd _ hm);have e0:∀ l us,Ln E A' T l us ps=Ln E A T l us ps:=λ l us=>Tv hA hps;unfold Ln
  cases hn:nth T.fo i with
  |none=>rfl
  |some o=>
   obtain⟨off,z,ag⟩:=o;simp only[Az hA hx]
   have gen:∀ {s:Sv},opT E 0 A x=some s→(let m:=(parts s).map (kept A');bif A4 m&&Nat.beq m.length z&&Nat.ble (off+z) l.length then Ln E (ups A' (Iq A' (parts s)++gone x s)) T (setAll l off m) (us++(Iq A' (parts s)++gone x s)) ps else none) =
     (let m:=(parts s).map (kept A);bif A4 m&&Nat.beq m.length z&&Nat.ble (off+z) l.length then Ln E (ups A (Iq A (parts s)++gone x s)) T (setAll l off m) (us++(Iq A (parts s)++gone x s)) ps else none):=by
    intro s hs;have hal:=RL.als (Nq hx hs);simp only[Q4 hA hal,Of hA hal];rw[Tv (hA.ups (U:=Iq A (parts s)++gone x s)) (λ p hm=>(hps p hm).ups Mia)]
   split
   ·cases Nat.beq z 1
    ·rfl
    simp only[cond_true];split
    ·exact e0 _ _
    ·rfl
   ·cases hs:opT E 0 A x with
    |none=>rfl
    |some s=>exact gen hs
def Mka {T:TypeId} {ps:Array (Nat×Operand)} {d:Nat} (ho:o.op = .build T ps) (hod:o.dst=some d) (hp:∀ p∈ps.toList,RX A F p.2) (h:Au E o A Kc=some r):Loc E o A F Kc r:=by
 unfold Au at h;rw[ho,hod]at h;simp only at h;split at h
 ·rename_i ti hT;split at h
  ·rename_i l us hb;obtain⟨ha,h⟩:=cs h;refine⟨_,h,λ A' hA R' K'=>?_⟩;unfold Au;rw[ho,hod];simp only[hT,Tv hA hp,hb,ha,cond_true]
  ·cases h
 ·cases h
def H0a {e:TypeId} {t:Ty}:∀ {ps:List (Nat×Operand)} {A A':Ab} {i:Nat},Ag A A' F→(∀ p∈ps,RX A F p.2)→B6a E A' e t i ps=B6a E A e t i ps
 |[],_,_,_,_,_=>rfl
 |(j,x)::ps,A,A',i,hA,hp=>by
  have hx:RX A F x:=hp (j,x) (by simp);have hps:∀ p∈ps,RX A F p.2:=λ p hm=>hp p (Vd _ hm);unfold B6a;cases Nat.beq i j
  ·rfl
  simp only[cond_true,Az hA hx]
  cases hs:opT E e A x with
  |none=>rfl
  |some s=>
   have hal:=RL.als (Nq hx hs);simp only[Q4 hA hal,Gya hA hal,Of hA hal];rw[H0a (hA.ups (U:=Iq A (parts s)++gone x s)) (λ p hm=>(hps p hm).ups Mia)]
def H1a {e:TypeId} {t:Ty}:∀ {ps:List (Nat×Operand)} {A A':Ab} {i:Nat},Ag A A' F→(∀ p∈ps,RX A F p.2)→B7a E A' e t i ps=B7a E A e t i ps
 |[],_,_,_,_,_=>rfl
 |(j,x)::ps,A,A',i,hA,hp=>by
  have hx:RX A F x:=hp (j,x) (by simp);have hps:∀ p∈ps,RX A F p.2:=λ p hm=>hp p (Vd _ hm);unfold B7a;cases Nat.beq i j
  ·rfl
  simp only[cond_true,Az hA hx]
  cases hs:opT E e A x with
  |none=>rfl
  |some s=>
   have hal:=RL.als (Nq hx hs);simp only[M8a hA hal]
   cases hgv:give A x s with
   |none=>rfl
   |some q=>
    obtain⟨m,us⟩:=q;simp only;rw[H1a (hA.ups (U:=us)) (λ p hm=>(hps p hm).ups (Mja hgv))]
def V6 {T:TypeId} {n:Nat} {ps:Array (Nat×Operand)} {d:Nat} (ho:o.op = .buildSlice T n ps) (hod:o.dst=some d) (hp:∀ p∈ps.toList,RX A F p.2) (h:Au E o A Kc=some r):Loc E o A F Kc r:=by
 unfold Au at h;rw[ho,hod]at h;simp only at h;split at h
 ·rename_i e r' b f hT;obtain⟨hb,h⟩:=cs h;split at h
  ·rename_i hh;obtain⟨hno,h⟩:=cs h;split at h
   ·rename_i ys us hr;refine⟨_,h,λ A' hA R' K'=>?_⟩;unfold Au;rw[ho,hod];simp only[hT,hb,hh,hno,cond_true,H0a hA hp,hr]
   ·cases h
  ·rename_i r2 hh;obtain⟨hb2,h⟩:=cs h;split at h
   ·rename_i ys us hr;refine⟨_,h,λ A' hA R' K'=>?_⟩;unfold Au;rw[ho,hod];simp only[hT,hb,hh,hb2,cond_true,H1a hA hp,hr]
   ·cases h
 ·cases h
def A0a {T:TypeId} {x y:Operand} {d:Nat} (ho:o.op = .makeSlice T x y) (hod:o.dst=some d) (hx:RX A F x) (hy:RX A F y) (h:Au E o A Kc=some r):Loc E o A F Kc r:=by
 unfold Au at h;rw[ho,hod]at h;simp only at h;split at h
 ·rename_i e r' b f n m hT hs hm;split at h
  ·rename_i te he;obtain⟨hb,h⟩:=cs h;obtain⟨h0,h⟩:=cs h;obtain⟨h1,h⟩:=cs h;split at h
   ·rename_i hh;refine⟨_,h,λ A' hA R' K'=>?_⟩;unfold Au;rw[ho,hod];simp only[hT,Az hA hx,Az hA hy,hs,hm,he,hb,h0,h1,hh,cond_true]
   ·rename_i r2 hh;obtain⟨h2,h⟩:=cs h;refine⟨_,h,λ A' hA R' K'=>?_⟩;unfold Au;rw[ho,hod];simp only[hT,Az hA hx,Az hA hy,hs,hm,he,hb,h0,h1,hh,h2,cond_true]
  ·cases h
 ·cases h
def Tw (hA:Ag A A' F):∀ {xs:List Operand} {Ts:List TypeId},(∀ x∈xs,RX A F x)→Qt E Ts A' xs=Qt E Ts A xs
 |[],_,_=>by simp only[Qt]
 |x::xs,[],_=>by simp only[Qt]
 |x::xs,T::Ts,hx=>by
  unfold Qt;simp only[Az hA (hx x (by simp)),Tw hA (xs:=xs) (Ts:=Ts) (λ y hy=>hx y (Vd _ hy))]
def Ewa:∀ {xs:List Operand} {Ts:List TypeId} {ss:List Sv},(∀ x∈xs,RX A F x)→Qt E Ts A xs=some ss→∀ s∈ss,∀ y∈parts s,RL A F y
 |[],_,ss,_,h=>by
  simp only[Qt,Vc]at h;subst h;intro s hs;simp at hs
 |x::xs,[],ss,_,h=>by simp[Qt]at h
 |x::xs,T::Ts,ss,hx,h=>by
  simp only[Qt]at h;split at h
  ·rename_i s hs;split at h
   ·rename_i ss' hss;cases h;intro s' hs' y hy;rcases Vl.1 hs' with rfl|hs'
    ·exact Nq (hx x (by simp)) hs y hy
    ·exact Ewa (λ y hy=>hx y (Vd _ hy)) hss s' hs' y hy
   ·cases h
  ·cases h
def W0a {c:Call} (ho:o.op = .call c) (hc:c.callee = .builtin .len) (hx:∀ x∈c.args.toList,RX A F x) (h:Au E o A Kc=some r):Loc E o A F Kc r:=by
 unfold Au at h;rw[ho]at h;simp only[hc]at h;split at h
 ·rename_i T x d hT hxs hod;have hx0:RX A F x:=hx x (by rw[hxs];simp);split at h
  ·rename_i y hs;have hal:=(H1 hx0 hs).al;split at h
   ·rename_i s hse;obtain⟨hb,h⟩:=cs h;refine⟨_,h,λ A' hA R' K'=>?_⟩;unfold Au;rw[ho,hod];simp only[hc,hT,hxs,Az hA hx0,hs,Fq hA hal,hse,hb,cond_true]
   ·rename_i p v pi e r' xs hse
    have hy:y = .da p v pi e r' xs:=by
     cases y<;>first|exact hse|skip
     simp only[Jb]at hse;split at hse
     ·rename_i n _ _ _ _
      cases hbb:Nat.beq n _<;>rw[hbb]at hse<;>simp at hse
     ·rename_i n _ _ _ _
      cases hbb:Nat.beq n _<;>rw[hbb]at hse<;>simp at hse
     ·cases hse
    have hp:p∈F:=by have:=H1 hx0 hs;rw[hy]at this;exact this
    obtain⟨hb,h⟩:=cs h;refine⟨_,h,λ A' hA R' K'=>?_⟩;unfold Au;rw[ho,hod];simp only[hc,hT,hxs,Az hA hx0,hs,Fq hA hal,hse,hA p hp,hb,cond_true]
   ·rename_i e r' xs hse;obtain⟨hb,h⟩:=cs h;refine⟨_,h,λ A' hA R' K'=>?_⟩;unfold Au;rw[ho,hod];simp only[hc,hT,hxs,Az hA hx0,hs,Fq hA hal,hse,hb,cond_true]
   ·rename_i e r' xs hse;obtain⟨hb,h⟩:=cs h;refine⟨_,h,λ A' hA R' K'=>?_⟩;unfold Au;rw[ho,hod];simp only[hc,hT,hxs,Az hA hx0,hs,Fq hA hal,hse,hb,cond_true]
   ·cases h
  ·cases h
 ·cases h
def W1a {c:Call} (ho:o.op = .call c) (hc:c.callee = .builtin .min) (hx:∀ x∈c.args.toList,RX A F x) (h:Au E o A Kc=some r):Loc E o A F Kc r:=by
 unfold Au at h;rw[ho]at h;simp only[hc]at h;split at h
 ·rename_i k n l d hs hod;obtain⟨v,h1,h2⟩:=X2 h;refine⟨_,h1,λ A' hA R' K'=>?_⟩;unfold Au;rw[ho,hod];simp only[hc,Tw hA hx,hs];exact h2 _
 ·cases h
def W2a {c:Call} (ho:o.op = .call c) (hc:c.callee = .builtin .max) (hx:∀ x∈c.args.toList,RX A F x) (h:Au E o A Kc=some r):Loc E o A F Kc r:=by
 unfold Au at h;rw[ho]at h;simp only[hc]at h;split at h
 ·rename_i k n l d hs hod;obtain⟨v,h1,h2⟩:=X2 h;refine⟨_,h1,λ A' hA R' K'=>?_⟩;unfold Au;rw[ho,hod];simp only[hc,Tw hA hx,hs];exact h2 _
 ·cases h
def Jca {c:Call} (ho:o.op = .call c) (hc:c.callee = .builtin .append) (hx:∀ x∈c.args.toList,RX A F x) (h:Au E o A Kc=some r):Loc E o A F Kc r:=by
 unfold Au at h;rw[ho]at h;simp only[hc]at h;split at h
 ·rename_i T T' x y d hT hxs hod;have hx0:RX A F x:=hx x (by rw[hxs];simp);have hy0:RX A F y:=hx y (by rw[hxs];simp);split at h
  ·rename_i u w hsu hsw;have hau:=(H1 hx0 hsu).al;have hrw:=H1 hy0 hsw;split at h
   ·rename_i e r' xs hsu';split at h
    ·rename_i r2 hh;have hy1:RX (ups A (Dwa u x)) F y:=hy0.ups Mha;split at h
     ·rename_i w2 hsw2;have haw2:=(H1 hy1 hsw2).al;split at h
      ·rename_i e' r3 ys xs2 te hsn hcx hte;split at h
       ·rename_i ys2 hcy;obtain⟨hq,h⟩:=cs h;obtain⟨hq2,h⟩:=cs h;refine⟨_,h,λ A' hA R' K'=>?_⟩;have hA1:=hA.ups (U:=Dwa u x);unfold Au;rw[ho,hod];simp only[hc,hT,hxs,Az hA hx0,Az hA hy0,hsu,hsw,Fq hA hau,hsu',hh,Az hA1 hy1,hsw2,Fq hA1 haw2,hsn,hcx,hte,hcy,hq,hq2,cond_true]
       ·cases h
      ·cases h
     ·cases h
    ·rename_i hh
     cases hno:J6 r' with
     |false=>rw[hno]at h;simp at h
     |true=>
     rw[hno,cond_true]at h;split at h
     ·rename_i e' r'' ys hasl;split at h
      ·rename_i ys' te hcast hte;obtain⟨hq,h⟩:=cs h;obtain⟨hq2,h⟩:=cs h;refine⟨_,h,λ A' hA R' K'=>?_⟩;unfold Au;rw[ho,hod];simp only[hc,hT,hxs,Az hA hx0,Az hA hy0,hsu,hsw,Fq hA hau,Gxa hA hrw,hsu',hh,hno,hasl,hcast,hte,hq,hq2,cond_true]
      ·cases h
     ·rename_i hasl;split at h
      ·rename_i s;split at h
       ·rename_i ys' f hcast hte;obtain⟨hq,h⟩:=cs h;refine⟨_,h,λ A' hA R' K'=>?_⟩;unfold Au;rw[ho,hod];simp only[hc,hT,hxs,Az hA hx0,Az hA hy0,hsu,hsw,Fq hA hau,Gxa hA hrw,hsu',hh,hno,hasl,hcast,hte,hq,cond_true]
       ·cases h
      ·cases h
   ·cases h
  ·cases h
 ·cases h
def Cba (hA:Ag A A' F):∀ {ps:List Par} {ss:List Sv},(∀ s∈ss,∀ y∈parts s,RL A F y)→Nc A' ps ss=Nc A ps ss
 |[],[],_=>rfl
 |[],_::_,_=>rfl
 |p::_,[],_=>by cases p<;>rfl
 |.ptr _ _::_,_::_,_=>rfl
 |.hid _ _::_,_::_,_=>rfl
 |.rd _::_,_::_,_=>rfl
 |.fn _ _::_,_::_,_=>rfl
 |.vw _ _::_,_::_,_=>rfl
 |.val ag t::ps,s::ss,hs=>by
  unfold Nc;rw[Qva hA (hs s (by simp)),Cba hA (λ s' hs'=>hs s' (Vd _ hs'))]
def Jda {y:Lf}:∀ u∈Dya y,Np u:=by
 intro u hu;unfold Dya at hu;split at hu
 ·simp only[Vn]at hu;subst hu;exact .inl rfl
 ·simp at hu
def Mt:∀ {ts:List Ty} {l:List Lf} {A:Ab} {m:List Lf} {us:List Up},Fy A ts l=some (m,us)→∀ u∈us,Np u
 |[],[],A,m,us,h=>by
  simp only[Fy,Vc,Vy]at h;obtain⟨_,rfl⟩:=h;simp
 |[],_::_,A,m,us,h=>by simp[Fy]at h
 |t::ts,[],A,m,us,h=>by cases t<;>simp[Fy]at h
 |t::ts,x::l,A,m,us,h=>by
  cases t with
  |ow e r=>
   simp only[Fy]at h;split at h
   ·split at h
    ·rename_i hr;cases h;exact λ u hu=>(Vm.1 hu).elim (Jda u) (Mt hr u)
    ·cases h
   ·cases h
  |_=>
   simp only[Fy]at h;split at h
   ·rename_i hr;cases h;exact λ u hu=>(Vm.1 hu).elim (Caa u) (Mt hr u)
   ·cases h
def R2a {x:Operand} {s:Sv} {t:Ty} (hA:Ag A A' F) (hal:∀ y∈parts s,AL F y):Qs A' x s t=Qs A x s t:=by
 unfold Qs Qr;rw[Nr (hA.ups (U:=gone x s)) hal]
def Jea {x:Operand} {s:Sv} {t:Ty} {m:List Lf} {us:List Up} (h:Qs A x s t=some (m,us)):∀ u∈us,Np u:=by
 unfold Qs Qr at h;split at h
 ·rename_i m0 vs0 ht;cases hst:A4 m0
  ·rw[hst]at h;simp at h
  rw[hst]at h;simp only[cond_true,Vc,Vy]at h;obtain⟨_,rfl⟩:=h;exact λ u hu=>(Vm.1 hu).elim (Tu u) (Mt ht u)
 ·cases h
def H2a {b v:Nat} {t t':Ty} (hA:Ag A A' F) (hb:RB A F b 0):P3 A' b v t t'=P3 A b v t t':=by
 obtain⟨h1,h2⟩:=hb;unfold P3;rw[hA _ h1];split
 ·rename_i n m hg
  have hcell:∀ i,i<m→C b (0+i)∈F∧∀ p v,(get A (C b (0+i))).2 = .one (.al p v)→p∈F:=λ i hi=>by
   rw[Wi];exact h2 m (by rw[hg]) i (Vv _) hi
  have hac:=X1 hcell;have e1:cellsOf A' b 0 m=cellsOf A b 0 m:=Rc hA (λ i hi=>(hcell i hi).1);rw[e1,Nr hA hac]
 ·rfl
def X4 {b v:Nat} {t t':Ty} {m:List Lf} {us:List Up} (h:P3 A b v t t'=some (m,us)):∀ u∈us,Np u:=by
 unfold P3 at h;split at h
 ·rename_i n hd hp;obtain⟨hq,h⟩:=cs h;split at h
  ·rename_i l us0 hx;cases hst:A4 l
   ·rw[hst]at h;simp at h
   rw[hst]at h;simp only[cond_true,Vc,Vy]at h;obtain⟨_,rfl⟩:=h;exact Mt hx
  ·cases h
 ·cases h
def Tx (hA:Ag A A' F):∀ {bs:List (Nat×Nat)},(∀ c∈bs,RB A F c.1 0)→Kz A' bs=Kz A bs
 |[],_=>rfl
 |c::bs,h=>by
  unfold Kz;rw[hA _ (h c (by simp)).1,Tx hA (λ c hc=>h c (Vd _ hc))]
def Mla (hA:Ag A A' F) {b:Nat}:∀ {ts:List Ty} {j:Nat} {l:List Lf},(∀ y∈l,AL F y)→Dza A' b j ts l=Dza A b j ts l
 |[],_,[],_=>rfl
 |[],_,_::_,_=>rfl
 |t::ts,_,[],_=>by cases t<;>rfl
 |t::ts,j,x::l,h=>by
  have hx:=h x (by simp);have ih:=Mla hA (b:=b) (ts:=ts) (j:=j+1) (l:=l) (λ y hy=>h y (Vd _ hy))
  cases t with
  |ow e r=>
   cases x with
   |al p v=>simp only[Dza,ih,Fq hA hx,hA p hx]
   |_=>rfl
  |_=>simp only[Dza,ih,Fq hA hx]
def RV (A:Ab) (F:List Nat) (ss:List Sv):Prop:=∀ ys,Sv.agg ys∈ss→∀ p v,Lf.al p v∈ys→1000≤p→RB A F (p/1000-1) 0
def X5:∀ {ys:List Lf} {b:Nat},B2a ys=some b→∃ p v,Lf.al p v∈ys∧1000≤p∧b=p/1000-1
 |[],b,h=>by simp[B2a]at h
 |y::ys,b,h=>by
  have rest:B2a ys=some b→∃ p v,Lf.al p v∈y::ys∧1000≤p∧b=p/1000-1:=λ h=>by
   obtain⟨p,v,h1,h2⟩:=X5 h;exact⟨p,v,Vd _ h1,h2⟩
  cases y with
  |al p v=>
   simp only[B2a]at h;cases hq:Nat.ble 1000 p
   ·rw[hq]at h;exact rest h
   rw[hq]at h;simp only[cond_true,Vc]at h;exact⟨p,v,by simp,Vk hq,h.symm⟩
  |_=>exact rest h
def Mma (hA:Ag A A' F):∀ {ps:List Par} {ss:List Sv},RV A F ss→B3a A' ps ss=B3a A ps ss∧∀ c∈B3a A ps ss,RB A F c.1 0
 |[],ss,_=>⟨rfl,by simp[B3a]⟩
 |p::ps,[],_=>by cases p<;>exact⟨rfl,by simp[B3a]⟩
 |p::ps,s::ss,h=>by
  obtain⟨h1,h2⟩:=Mma hA (ps:=ps) (ss:=ss) (λ ys hy=>h ys (Vd _ hy))
  cases p with
  |vw t h0=>
   cases s with
   |agg ys=>
    simp only[B3a]
    cases hb:B2a ys with
    |none=>exact⟨h1,h2⟩
    |some b=>
     obtain⟨p,v,e1,e2,rfl⟩:=X5 hb;have hrb:=h ys (by simp) p v e1 e2;refine⟨by simp only[h1,hA _ hrb.1],λ c hc=>?_⟩;rcases Vl.1 hc with rfl|hc
     ·exact hrb
     ·exact h2 c hc
   |_=>exact⟨h1,h2⟩
  |_=>cases s<;>exact⟨h1,h2⟩
def H3a (hA:Ag A A' F) {cb hb:List (Nat×Nat)} {nv:Nat} {x:Operand} {p:Par} {s:Sv} (hhb:∀ c∈hb,RB A F c.1 0) (hs:∀ y∈parts s,RL A F y):S7 A' cb hb nv x p s=S7 A cb hb nv x p s∧∀ l u b,S7 A cb hb nv x p s=some (l,u,b)→∀ v∈u,Np v:=by
 have hal:=RL.als hs;constructor
 ·unfold S7;split
  ·rename_i t h0 ys
   cases hn:nth hb (h0-nv) with
   |none=>rfl
   |some c=>
    rw[Hu]at hn;simp only[hA _ (hhb c (E3b hn)).1,Mla hA (show ∀ y∈ys,AL F y from hal)]
  ·simp only[R2a hA hal]
  ·rename_i b v;rw[H2a hA (show RB A F b 0 from hs (.bp b v 0) (by simp[parts]))]
  ·rename_i b v;rw[H2a hA (show RB A F b 0 from hs (.bp b v 0) (by simp[parts]))]
  ·rfl
  ·rename_i F0 m F' bs;rw[Tx hA (show ∀ c∈bs,RB A F c.1 0 from hs (.fn F' bs) (by simp[parts]))]
  ·rfl
 ·intro l u b h v hv;unfold S7 at h;split at h
  ·rename_i t h0 ys;split at h
   ·split at h
    ·rename_i n m _;generalize (Nat.ble nv h0&&Nat.beq n _&&Nat.beq m t.sz)=bb at h;cases bb
     ·simp at h
     rw[cond_true]at h;split at h
     ·cases h;simp at hv
     ·cases h
    ·cases h
   ·cases h
  ·rename_i ag t;obtain⟨hf,h⟩:=cs h;split at h
   ·rename_i hgive;cases h;exact Jea hgive v hv
   ·cases h
  ·split at h
   ·rename_i hgive;cases h;exact X4 hgive v hv
   ·cases h
  ·split at h
   ·rename_i hgive;cases h;exact X4 hgive v hv
   ·cases h
  ·rename_i t r y;cases hf:(decide (shp r=shp t)&&J6 t)
   ·rw[hf]at h;simp at h
   rw[hf]at h;simp only[cond_true,Vc,Vy]at h;obtain⟨_,rfl,_⟩:=h;simp at hv
  ·rename_i F0 m F' bs;cases hf:(Nat.beq F0 F'&&Nat.beq m bs.length&&T5a bs cb&&Kz A bs)
   ·rw[hf]at h;simp at h
   rw[hf]at h;simp only[cond_true,Vc,Vy]at h;obtain⟨_,rfl,_⟩:=h;simp at hv
  ·cases h
def Tz {cb hb:List (Nat×Nat)} {nv:Nat}:∀ {ps:List Par} {xs:List (TypeId×Operand)} {hs:List (Nat×Nat)} {A A':Ab},Ag A A' F→(∀ x∈xs,RX A F x.2)→(∀ h∈hs,RB A F h.1 0)→(∀ c∈hb,RB A F c.1 0)→K5 E cb hb nv A' xs hs ps=K5 E cb hb nv A xs hs ps
 |[],[],[],_,_,_,_,_,_=>rfl
 |[],[],_::_,_,_,_,_,_,_=>rfl
 |[],_::_,_,_,_,_,_,_,_=>rfl
 |_::_,[],[],_,_,_,_,_,_=>rfl
 |p::ps,x::xs,hs,A,A',hA,hx,hb',hhb=>by
  have hx0:RX A F x.2:=hx x (by simp);unfold K5;rw[Az hA hx0]
  cases hs:opT E x.1 A x.2 with
  |none=>rfl
  |some s=>
   simp only;obtain⟨h1,h2⟩:=H3a hA (cb:=cb) (hb:=hb) (nv:=nv) (x:=x.2) (p:=p) hhb (Nq hx0 hs);rw[h1]
   cases ha:S7 A cb hb nv x.2 p s with
   |none=>rfl
   |some q=>
    obtain⟨l,u,b⟩:=q;simp only;rw[Tz (hA.ups (U:=u)) (λ y hy=>(hx y (Vd _ hy)).ups (h2 l u b ha)) (λ c hc=>(hb' c hc).ups (h2 l u b ha)) (λ c hc=>(hhb c hc).ups (h2 l u b ha))]
 |p::ps,[],h::hs,A,A',hA,hx,hb',hhb=>by
  unfold K5
  obtain⟨h1,h2⟩:=H3a hA (cb:=cb) (hb:=hb) (nv:=nv) (x := .func 0) (p:=p) (s := .one (.bp h.1 h.2 0)) (F:=F) hhb (λ y hy=>by
   simp only[parts,Vn]at hy;subst hy
   exact hb' h (by simp))
  rw[h1]
  cases ha:S7 A cb hb nv (.func 0) p (.one (.bp h.1 h.2 0)) with
  |none=>rfl
  |some q=>
   obtain⟨l,u,b⟩:=q;simp only;rw[Tz (hA.ups (U:=u)) (λ y hy=>by simp at hy) (λ c hc=>(hb' c (Vd _ hc)).ups (h2 l u b ha)) (λ c hc=>(hhb c hc).ups (h2 l u b ha))]
def Exa:∀ {ss:List Sv},(∀ s∈ss,∀ y∈parts s,RL A F y)→∀ c∈Kia ss,RB A F c.1 0
 |[],_,c,hc=>by simp[Kia]at hc
 |s::ss,h,c,hc=>by
  have h2:=λ s' hs'=>h s' (Vd _ hs')
  cases s with
  |one z=>
   cases z with
   |fn F' bs=>exact(show ∀ c∈bs,RB A F c.1 0 from h (.one (.fn F' bs)) (by simp) (.fn F' bs) (by simp[parts])) c hc
   |_=>exact Exa h2 c hc
  |_=>exact Exa h2 c hc
def H4a (hA:Ag A A' F):∀ {xs:List Operand},(∀ x∈xs,RX A F x)→B8a E A' xs=B8a E A xs
 |[],_=>rfl
 |x::xs,h=>by
  unfold B8a;rw[Az hA (h x (by simp)),H4a hA (λ y hy=>h y (Vd _ hy))]
def H5a {rs:List (RK×Ty)} {ls:List (List Lf)} {d:Option Nat} (hA:∀ d',d=some d'→get A' (H d')=get A (H d')):P4 A' rs ls d=P4 A rs ls d:=by
 unfold P4
 split<;>first|rfl|skip
 ·rename_i d _ _ _ _ _;unfold Kja;rw[hA _ rfl]
def Cca {en:Ent} {xs:List (TypeId×Operand)} {cs:List (Nat×Nat)} {ss:List Sv} {d:Option Nat} (hd:∀ d',d=some d'→H d'∈F) (hx:∀ x∈xs,RX A F x.2) (hcs:∀ c∈cs,RB A F c.1 0) (hrl:∀ s∈ss,∀ y∈parts s,RL A F y) (hrv:RV A F ss) (h:Xu E A en xs cs ss d Kc=some r):
  ∃ U,Kc U=some r∧∀ A',Ag A A' F→∀ {R':Type} (K':List Up→Option R'),Xu E A' en xs cs ss d K'=K' U:=by
 unfold Xu at h;rw[csi]at h;obtain⟨hnv,h⟩:=h
 cases hb:(Nb en.ps&&Uy en.rs&&cs.isEmpty) with
 |true=>
  rw[hb,cond_true]at h;split at h
  ·cases h
  ·rename_i ls hl;split at h
   ·cases h
   ·rename_i x hm
    cases hr:en.run x with
    |none=>rw[hr]at h;simp at h
    |some y=>
     rw[hr]at h;simp only[Vu]at h;split at h
     ·cases h
     ·rename_i rs hrs;refine⟨_,h,λ A' hA R' K'=>?_⟩;unfold Xu;simp only[hnv,hb,cond_true,Cba hA hrl,hl,hm,hr,Vu,H5a (A:=A) (A':=A') (λ d' hd'=>hA _ (hd d' hd')),hrs]
 |false=>
  rw[hb,cond_false]at h;rw[csi]at h;obtain⟨hb2,h⟩:=h;split at h
  ·cases h
  ·rename_i ls us bs hl;rw[csi]at h;obtain⟨hnd,h⟩:=h;split at h
   ·cases h
   ·rename_i x hm
    cases hr:en.run x with
    |none=>rw[hr]at h;simp at h
    |some y=>
     rw[hr]at h;simp only[Vu]at h;split at h
     ·cases h
     ·rename_i ws hws;split at h
      ·cases h
      ·rename_i rs hrs;refine⟨_,h,λ A' hA R' K'=>?_⟩;have hA2:=(hA.ups (U:=us)).ups (U:=ws);obtain⟨v1,v2⟩:=Mma hA (ps:=en.ps) hrv;have hhb:∀ c∈Kia ss++B3a A en.ps ss,RB A F c.1 0:=λ c hc=>(Vm.1 hc).elim (Exa hrl c) (v2 c);have hargs:=Tz (E:=E) (cb:=Kia ss++B3a A en.ps ss) (hb:=Kia ss++B3a A en.ps ss) (nv:=en.nv) (ps:=en.ps) hA hx (hs:=cs++(Kia ss++B3a A en.ps ss)) (λ c hc=>(Vm.1 hc).elim (hcs c) (hhb c)) hhb;unfold Xu;simp only[v1,hnv,hb,hb2,hnd,cond_true,cond_false,hargs,hl,hm,hr,Vu,hws,H5a (A:=ups (ups A us) ws) (A':=ups (ups A' us) ws) (λ d' hd'=>hA2 _ (hd d' hd')),hrs]
def Eya:∀ {xs:List Operand} {Ts:List TypeId} {ss:List Sv},(∀ t,.tmp t∈xs→RV A F [(get A t).2])→Qt E Ts A xs=some ss→RV A F ss
 |[],_,ss,_,h=>by
  simp only[Qt,Vc]at h;subst h;intro ys hy;simp at hy
 |x::xs,[],ss,_,h=>by simp[Qt]at h
 |x::xs,T::Ts,ss,hx,h=>by
  simp only[Qt]at h;split at h
  ·rename_i s hs;split at h
   ·rename_i ss' hss;cases h;intro ys hy p v hp h1;rcases Vl.1 hy with hy|hy
    ·subst hy
     cases x with
     |tmp t=>
      have h2:(bif Nat.blt t E.nt then some (get A t).2 else none)=some (.agg ys):=hs;cases hb:Nat.blt t E.nt
      ·rw[hb]at h2;simp at h2
      rw[hb]at h2;simp only[cond_true,Vc]at h2;exact hx t (by simp) ys (by rw[h2];simp) p v hp h1
     |const w=>
      exfalso;unfold opT at hs;split at hs
      ·rename_i e;cases e
      ·split at hs<;>cases hs
      ·rename_i w' _ _
       cases hq:G1a w'<;>simp[hq]at hs
      ·rename_i e;cases e
      ·cases hs
     |func f=>simp[opT]at hs
     |global g=>simp[opT]at hs
    ·exact Eya (λ t ht=>hx t (Vd _ ht)) hss ys hy p v hp h1
   ·cases h
  ·cases h
def Mna:∀ {ys:List Lf},(∀ p∈Xja A ys,p∈F)→∀ p v,Lf.al p v∈ys→1000≤p→RB A F (p/1000-1) 0
 |[],_,p,v,hm,_=>by simp at hm
 |y::ys,h,p,v,hm,hp=>by
  have rest:(∀ p∈Xja A ys,p∈F)→Lf.al p v∈ys→RB A F (p/1000-1) 0:=λ h hm=>Mna h p v hm hp
  cases y with
  |al q w=>
   simp only[Xja]at h;rcases Vl.1 hm with e|hm
   ·simp only[Lf.al.injEq]at e;obtain⟨rfl,rfl⟩:=e;rw[show Nat.ble 1000 p=true from Zm hp,cond_true]at h;exact M5a λ p hp=>h p (Vx _ hp)
   ·exact rest (λ p hp=>h p (Vo _ hp)) hm
  |_=>
   rcases Vl.1 hm with e|hm
   ·cases e
   ·exact rest h hm
def Moa:∀ {xs:List Operand},(∀ p∈V0a A xs,p∈F)→∀ t,.tmp t∈xs→RV A F [(get A t).2]
 |[],_,t,hm=>by simp at hm
 |x::xs,h,t,hm=>by
  rcases Vl.1 hm with rfl|hm
  ·intro ys hy;simp only[Vn]at hy;simp only[V0a,← hy]at h;exact Mna λ p hp=>h p (Vx _ hp)
  ·refine Moa (λ p hp=>h p ?_) t hm
   cases x<;>first|exact hp|(simp only[V0a];exact Vo _ hp)
def Tia {Ts:List TypeId} {xs:List Operand} (hx:∀ x∈xs,RX A F x):∀ x∈Ts.zip xs,RX A F x.2:=λ x hm=>hx x.2 (List.of_mem_zip (show (x.1,x.2)∈Ts.zip xs from hm)).2
def Mpa {c:Call} {f:FuncId} (ho:o.op = .call c) (hc:c.callee = .value (.func f)) (hd:∀ d,o.dst=some d→H d∈F) (hx:∀ x∈c.args.toList,RX A F x) (hv:∀ t,.tmp t∈c.args.toList→RV A F [(get A t).2]) (h:Au E o A Kc=some r):Loc E o A F Kc r:=by
 unfold Au at h;rw[ho]at h;simp only[hc]at h;split at h
 ·rename_i en ss he hss;obtain⟨U,h1,h2⟩:=Cca hd (Tia hx) (by simp) (Ewa hx hss) (Eya hv hss) h;refine⟨U,h1,λ A' hA R' K'=>?_⟩;unfold Au;rw[ho];simp only[hc,he,Tw hA hx,hss];exact h2 A' hA K'
 ·cases h
def Mqa {c:Call} {t:Nat} (ho:o.op = .call c) (hc:c.callee = .value (.tmp t)) (hd:∀ d,o.dst=some d→H d∈F) (ht:RX A F (.tmp t)) (hx:∀ x∈c.args.toList,RX A F x) (hv:∀ t,.tmp t∈c.args.toList→RV A F [(get A t).2]) (h:Au E o A Kc=some r):Loc E o A F Kc r:=by
 unfold Au at h;rw[ho]at h;simp only[hc]at h;split at h
 ·rename_i f bs hf;have hbs:∀ c∈bs,RB A F c.1 0:=H1 ht hf;split at h
  ·rename_i en ss he hss;obtain⟨hal,h⟩:=cs h;obtain⟨U,h1,h2⟩:=Cca hd (Tia hx) hbs (Ewa hx hss) (Eya hv hss) h;refine⟨U,h1,λ A' hA R' K'=>?_⟩;unfold Au;rw[ho];simp only[hc,Az hA ht,hf,he,Tw hA hx,hss,Tx hA hbs,hal,cond_true];exact h2 A' hA K'
  ·cases h
 ·cases h
def Cda {f:FuncId} {x y:Array Operand} {d:Nat} (ho:o.op = .makeFunc (.func f) x y) (hod:o.dst=some d) (hy:∀ z∈y.toList,RX A F z) (h:Au E o A Kc=some r):Loc E o A F Kc r:=by
 unfold Au at h;rw[ho,hod]at h;simp only at h;split at h
 ·rename_i bs hx hbs;refine⟨_,h,λ A' hA R' K'=>?_⟩;unfold Au;rw[ho,hod];simp only[hx,H4a hA hy,hbs]
 ·cases h
def R3a (hF:∀ p∈rds A o,p∈F) (h:Au E o A Kc=some r):Loc E o A F Kc r:=by
 have hD3:∀ d,o.dst=some d→d∈F∧H d∈F∧H (2000+d)∈F:=λ d hd=>by
  unfold rds at hF;rw[hd]at hF;exact⟨hF d (by simp[rdD]),hF (H d) (by simp[rdD]),hF (H (2000+d)) (by simp[rdD])⟩
 have hD:∀ d,o.dst=some d→d∈F∧H d∈F:=λ d hd=>⟨(hD3 d hd).1,(hD3 d hd).2.1⟩;have hO:∀ p∈Xya A o.op,p∈F:=λ p hp=>hF p (by unfold rds;exact Vo _ hp);have hX:Xya A o.op=T6a A (Ir o.op)→∀ x∈Ir o.op,RX A F x:=λ e=>Era (by rw[← e];exact hO)
 cases ho:o.op with
 |call c=>
  have hOc:∀ p∈T6a A (Ir (.call c))++V0a A c.args.toList,p∈F:=λ p hp=>hO p (by rw[ho];exact hp);have hx:=Era (λ p hp=>hOc p (Vx _ hp));have hvv:=Moa (A:=A) (F:=F) (xs:=c.args.toList) (λ p hp=>hOc p (Vo _ hp))
  have hxs:(∀ y,c.callee = .value y→RX A F y)∧∀ x∈c.args.toList,RX A F x:=by
   unfold Ir at hx;simp only at hx;split at hx
   ·rename_i y hy;exact⟨λ z hz=>by rw[hy]at hz;cases hz;exact hx y (by simp),λ x hm=>hx x (Vd _ hm)⟩
   ·rename_i hno;exact⟨λ z hz=>absurd hz (hno z),hx⟩
  have hcv:=hxs.1
  replace hx:=hxs.2
  cases hc:c.callee with
  |builtin b=>
   cases b with
   |len=>exact W0a ho hc hx h
   |min=>exact W1a ho hc hx h
   |max=>exact W2a ho hc hx h
   |append=>exact Jca ho hc hx h
   |_=>unfold Au at h;rw[ho]at h;simp only[hc]at h;cases h
  |value f=>
   cases f with
   |func f=>exact Mpa ho hc (λ d hd=>(hD d hd).2) hx hvv h
   |tmp t=>exact Mqa ho hc (λ d hd=>(hD d hd).2) (hcv _ hc) hx hvv h
   |_=>unfold Au at h;rw[ho]at h;simp only[hc]at h;cases h
  |invoke x m=>unfold Au at h;rw[ho]at h;simp only[hc]at h;cases h
 |store T x y=>
  have hx:=hX (by rw[ho];rfl);rw[ho]at hx
  cases hod:o.dst with
  |none=>exact Mda ho hod (hx x (by simp[Ir])) (hx y (by simp[Ir])) h
  |some d=>unfold Au at h;rw[ho,hod]at h;cases h
 |move x=>cases hod:o.dst with
  |none=>unfold Au at h;rw[ho,hod]at h;cases h
  |some d=>
   refine Qya ho hod (λ t e=>?_) h;subst e;exact hO t (by rw[ho];simp[Xya,rdT])
 |assign x=>cases hod:o.dst with
  |none=>unfold Au at h;rw[ho,hod]at h;cases h
  |some d=>
   have hx:=hX (by rw[ho];rfl);rw[ho]at hx;exact Jba ho hod (hx x (by simp[Ir])) h
 |pick c x y=>cases hod:o.dst with
  |none=>unfold Au at h;rw[ho,hod]at h;cases h
  |some d=>
   have hx:=hX (by rw[ho];rfl);rw[ho]at hx;exact Qza ho hod (hx c (by simp[Ir])) (hx x (by simp[Ir])) (hx y (by simp[Ir])) h
 |binOp op T x y T'=>cases hod:o.dst with
  |none=>unfold Au at h;rw[ho,hod]at h;cases h
  |some d=>
   have hx:=hX (by rw[ho];rfl);rw[ho]at hx;exact M9a ho hod (hx x (by simp[Ir])) (hx y (by simp[Ir])) h
 |unOp op T x=>cases hod:o.dst with
  |none=>unfold Au at h;rw[ho,hod]at h;cases h
  |some d=>
   have hx:=hX (by rw[ho];rfl);rw[ho]at hx;exact Qxa ho hod (hx x (by simp[Ir])) h
 |convert T T' x=>cases hod:o.dst with
  |none=>unfold Au at h;rw[ho,hod]at h;cases h
  |some d=>
   have hx:=hX (by rw[ho];rfl);rw[ho]at hx;exact Eua ho hod (hx x (by simp[Ir])) h
 |nilCheck x=>cases hod:o.dst with
  |none=>unfold Au at h;rw[ho,hod]at h;cases h
  |some d=>exact C9a ho hod (Tha (λ p hp=>hO p (by rw[ho];exact hp))) h
 |extract x j=>cases hod:o.dst with
  |none=>unfold Au at h;rw[ho,hod]at h;cases x<;>cases h
  |some d=>cases x with
   |tmp t=>
    have hx:=hX (by rw[ho];rfl);rw[ho]at hx;exact Eva ho hod (hx (.tmp t) (by simp[Ir])).1 h
   |_=>unfold Au at h;rw[ho,hod]at h;cases h
 |field T x j=>cases hod:o.dst with
  |none=>unfold Au at h;rw[ho,hod]at h;cases x<;>cases h
  |some d=>cases x with
   |tmp t=>
    have hx:=hX (by rw[ho];rfl);rw[ho]at hx;exact Maa ho hod (hx (.tmp t) (by simp[Ir])).1 h
   |_=>unfold Au at h;rw[ho,hod]at h;cases h
 |build T ps=>cases hod:o.dst with
  |none=>unfold Au at h;rw[ho,hod]at h;cases h
  |some d=>
   have hx:=hX (by rw[ho];rfl);rw[ho]at hx;exact Mka ho hod (λ p hp=>hx p.2 (Yo hp)) h
 |alloc T=>cases hod:o.dst with
  |none=>unfold Au at h;rw[ho,hod]at h;cases h
  |some d=>exact Mba ho hod (hD d hod).2 h
 |box T x=>cases hod:o.dst with
  |none=>unfold Au at h;rw[ho,hod]at h;cases h
  |some d=>
   have hx:=hX (by rw[ho];rfl);rw[ho]at hx;exact Vya ho hod (hD d hod).2 (hx x (by simp[Ir])) h
 |load T x=>cases hod:o.dst with
  |none=>unfold Au at h;rw[ho,hod]at h;cases h
  |some d=>
   have hx:=hX (by rw[ho];rfl);rw[ho]at hx;exact R0a ho hod (hx x (by simp[Ir])) h
 |fieldAddr T x j=>cases hod:o.dst with
  |none=>unfold Au at h;rw[ho,hod]at h;cases h
  |some d=>exact Z7 ho hod (Tha (λ p hp=>hO p (by rw[ho];exact hp))) h
 |indexAddr T x i=>cases hod:o.dst with
  |none=>unfold Au at h;rw[ho,hod]at h;cases h
  |some d=>
   have hx:=hX (by rw[ho];rfl);rw[ho]at hx
   cases hop:E.opn d with
   |true=>exact Z8 ho hod hop (hD3 d hod).2.2 (hx x (by simp[Ir])) (hx i (by simp[Ir])) h
   |false=>exact Z9 ho hod hop (hx x (by simp[Ir])) (hx i (by simp[Ir])) h
 |index T x i=>cases hod:o.dst with
  |none=>unfold Au at h;rw[ho,hod]at h;cases h
  |some d=>
   have hx:=hX (by rw[ho];rfl);rw[ho]at hx;exact Mfa ho hod (hx x (by simp[Ir])) (hx i (by simp[Ir])) h
 |slice T x lo hi mx=>cases hod:o.dst with
  |none=>unfold Au at h;rw[ho,hod]at h;cases mx<;>cases h
  |some d=>cases mx with
   |none=>
    have hx:=hX (by rw[ho];rfl);rw[ho]at hx;exact Mga ho hod (hx x (by simp[Ir])) (λ y hy=>hx y (by simp[Ir,hy])) (λ y hy=>hx y (by simp[Ir,hy])) h
   |some m=>unfold Au at h;rw[ho,hod]at h;cases h
 |buildSlice T n ps=>cases hod:o.dst with
  |none=>unfold Au at h;rw[ho,hod]at h;cases h
  |some d=>
   have hx:=hX (by rw[ho];rfl);rw[ho]at hx;exact V6 ho hod (λ p hp=>hx p.2 (Yo hp)) h
 |makeSlice T x y=>cases hod:o.dst with
  |none=>unfold Au at h;rw[ho,hod]at h;cases h
  |some d=>
   have hx:=hX (by rw[ho];rfl);rw[ho]at hx;exact A0a ho hod (hx x (by simp[Ir])) (hx y (by simp[Ir])) h
 |makeFunc fn x y=>
  cases fn with
  |func f=>cases hod:o.dst with
   |none=>unfold Au at h;rw[ho,hod]at h;cases h
   |some d=>
    have hx:=hX (by rw[ho];rfl);rw[ho]at hx;exact Cda ho hod (λ z hz=>hx z (by simp only[Ir];exact Vo _ hz)) h
  |_=>unfold Au at h;rw[ho]at h;cases hod:o.dst<;>(rw[hod]at h;cases h)
 |_=>unfold Au at h;rw[ho]at h;cases hod:o.dst<;>(rw[hod]at h;cases h)
end
end

section
attribute [local irreducible] C H
abbrev Gs:=Nat→Nat×Sv
def gup (g:Gs) (u:Up):Gs:=λ p=>if p=u.l then ((bif u.keep then (g u.l).1 else (g u.l).1+1),u.s) else g p
def Eza (g:Gs):List Up→Gs
 |[]=>g
 |u::U=>Eza (gup g u) U
def Og:∀ (U:List Up) (A:Ab),get (ups A U)=Eza (get A) U
 |[],_=>rfl
 |u::U,A=>by
  show get (ups (up A u) U)=Eza (gup (get A) u) U;rw[Og U (up A u)];congr 1;funext p;exact Tr A u p
def Q5:∀ (U:List Up) (g:Gs) (p:Nat),p∉U.map Up.l→Eza g U p=g p
 |[],_,_,_=>rfl
 |u::U,g,p,h=>by
  simp only[Yb,Vl,not_or]at h;show Eza (gup g u) U p=g p;rw[Q5 U _ p h.2];exact if_neg h.1
def Q6:∀ (U:List Up) (g g':Gs) (p:Nat),g p=g' p→Eza g U p=Eza g' U p
 |[],_,_,_,h=>h
 |u::U,g,g',p,h=>by
  refine Q6 U (gup g u) (gup g' u) p ?_;unfold gup
  by_cases e:p=u.l
  ·subst e;rw[if_pos rfl,if_pos rfl,h]
  ·rw[if_neg e,if_neg e,h]
structure Ak where
 N:Gs→Prop
 e:Gs→Gs
def Ind (x y:Ak):Prop:=(∀ g,x.N g→y.N (x.e g)→y.N g)∧(∀ g,y.N g→x.N g→x.N (y.e g))∧(∀ g,x.N g→y.N g→x.e (y.e g)=y.e (x.e g))
def Tja:List Ak→Gs→Gs→Prop
 |[],g,f=>g=f
 |x::L,g,f=>x.N g∧Tja L (x.e g) f
def Tja.front {y:Ak} {L2:List Ak}:∀ {L1:List Ak} {g f:Gs},(∀ x∈L1,Ind x y)→Tja (L1++y::L2) g f→y.N g∧Tja (L1++L2) (y.e g) f
 |[],g,f,_,h=>h
 |x::L1,g,f,hi,h=>by
  obtain⟨h1,h2⟩:=h;obtain⟨h3,h4⟩:=Tja.front (λ z hz=>hi z (Vd _ hz)) h2;obtain⟨i1,i2,i3⟩:=hi x (by simp);have hy:=i1 g h1 h3;exact⟨hy,i2 g hy h1,by rw[i3 g h1 hy];exact h4⟩
inductive Anc (ops:Array Oper):Nat→Nat→Prop
 |dir {i j:Nat} {o:Oper} (h:ops[i]? = some o) (hj:j∈aft o):Anc ops j i
 |tr {i j k:Nat} {o:Oper} (h:ops[i]? = some o) (hk:k∈aft o) (ha:Anc ops j k):Anc ops j i
def Mra {o:Oper} {j:Nat}:j∈aft o↔∃ e∈o.after,Region.binds .any e=true∧e.on=j:=by
 unfold aft;rw[List.mem_filterMap];constructor
 ·rintro⟨e,he,h⟩;cases hb:Region.binds .any e
  ·rw[hb]at h;simp at h
  rw[hb]at h;simp only[cond_true,Vc]at h;exact⟨e,by simpa using he,hb,h⟩
 ·rintro⟨e,he,hb,h⟩;exact⟨e,by simpa using he,by rw[hb];simp[h]⟩
section
variable {X:Cx} {E:En} {ops:Array Oper} {Q:Exit→Act→World→Prop}
def Xqa (X:Cx) (ops:Array Oper) (Q:Exit→Act→World→Prop) (i:Nat) (x:Ak):Prop:=
 ∀ (S:Sit) (a:Act) (A:Ab),B1 X S a→S.g=get A→x.N (get A)→∀ K:Act→World→Prop,(∀ S' a' A',B1 X S' a'→S'.g=get A'→get A'=x.e (get A)→K a' S'.w)→wpOp X.P ops Q i K a S.w
def Jfa {listed:Array Bool} (hd:∀ i o,ops[i]? = some o→listed.getD i false=true→∀ j∈aft o,listed.getD j false=true) {i j:Nat} (h:Anc ops j i):listed.getD i false=true→listed.getD j false=true:=by
 induction h with
 |dir h hj=>exact λ hi=>hd _ _ h hi _ hj
 |tr h hk _ ih=>exact λ hi=>ih (hd _ _ h hi _ hk)
def F0a {listed:Array Bool} {i:Nat} (hi:i<listed.size):listed.getD i true=listed.getD i false:=by
 simp[Yk,hi]
def Tka (hlt:∀ i o,ops[i]? = some o→∀ j∈aft o,j<i) {f:Gs} (hQ:∀ S a A,B1 X S a→S.g=get A→get A=f→Q .normal a S.w):
  ∀ (fuel:Nat) (L:List (Nat×Ak)) (listed:Array Bool) (S:Sit) (a:Act) (A:Ab),L.length=fuel→listed.size=ops.size→L.Pairwise (λ x y=>x.1<y.1)→(∀ i,i<ops.size→(listed.getD i false=false↔∃ x∈L,x.1=i))→
   L.Pairwise (λ x y=>Anc ops x.1 y.1∨Ind x.2 y.2)→(∀ x∈L,Xqa X ops Q x.1 x.2)→(∀ x∈L,x.1<ops.size)→
   (∀ i o,ops[i]? = some o→listed.getD i false=true→∀ j∈aft o,listed.getD j false=true)→
   B1 X S a→S.g=get A→Tja (L.map Prod.snd) (get A) f→wpAny X.P .any ops Q fuel listed a S.w
 |0,L,listed,S,a,A,hlen,hsz,hs,hl,hi,ho,hb,hd,K,hg,hr=>by
  have:L=[]:=Wk hlen;subst this;refine⟨?_,hQ S a A K hg hr⟩;rw[Dub];intro i hm;obtain⟨h1,o,h2,_⟩:=mem_ready.1 hm;have hlt2:i<ops.size:=(Zv.1 h2).1;rw[F0a (by omega)]at h1;obtain⟨x,hx,_⟩:=(hl i hlt2).1 h1;simp at hx
 |fuel+1,L,listed,S,a,A,hlen,hsz,hs,hl,hi,ho,hb,hd,K,hg,hr=>by
  cases L with
  |nil=>simp at hlen
  |cons x0 L0=>
   refine⟨λ h0=>?_,λ i hm=>?_⟩
   ·exfalso;have hx0:=hb x0 (by simp);obtain⟨o,h2⟩:∃ o,ops[x0.1]? = some o:=⟨_,Crb hx0⟩;have hu:=(hl x0.1 hx0).2 ⟨x0,by simp,rfl⟩
    have:x0.1∈Region.ready .any ops listed:=by
     refine mem_ready.2 ⟨by rw[F0a (by omega)];exact hu,o,h2,λ e he hbe=>?_⟩;have hj:=hlt _ _ h2 e.on (Mra.2 ⟨e,he,hbe,rfl⟩);cases hc:listed.getD e.on false
     case true=>rfl
     obtain⟨y,hy,hye⟩:=(hl e.on (by omega)).1 hc;rcases Vl.1 hy with rfl|hy
     ·omega
     ·have:=(Wa.1 hs).1 y hy;omega
    rw[h0]at this;simp at this
   ·obtain⟨h1,o,h2,h3⟩:=mem_ready.1 hm;have hil:i<ops.size:=(Zv.1 h2).1;rw[F0a (by omega)]at h1;obtain⟨y,hy,hyi⟩:=(hl i hil).1 h1;obtain⟨L1,L2,hL⟩:=List.append_of_mem hy
    have haft:∀ j∈aft o,listed.getD j false=true:=λ j hj=>by
     obtain⟨e,he,hbe,rfl⟩:=Mra.1 hj;exact h3 e he hbe
    have hanc:∀ j,Anc ops j i→listed.getD j false=true:=by
     intro j hj
     cases hj with
     |dir h hj=>rw[h2]at h;cases h;exact haft _ hj
     |tr h hk ha=>rw[h2]at h;cases h;exact Jfa hd ha (haft _ hk)
    rw[hL]at hs hl hi ho hb hr hlen;rw[Zg]at hs hi;obtain⟨s1,s2,s3⟩:=hs;obtain⟨i1,i2,i3⟩:=hi;rw[Wa]at s2 i2
    have hind:∀ x∈L1,Ind x.2 y.2:=by
     intro x hx;rcases i3 x hx y (by simp) with h|h
     ·exfalso;have h4:=hanc x.1 (by rw[← hyi];exact h);have h5:=(hl x.1 (hb x (by simp[hx]))).2 ⟨x,by simp[hx],rfl⟩;rw[h4]at h5;cases h5
     ·exact h
    rw[Ceb,Yb]at hr;obtain⟨hN,hr2⟩:=Tja.front (λ z hz=>by obtain⟨x,hx,rfl⟩:=Yw.1 hz;exact hind x hx) hr;rw[← Ceb]at hr2;subst hyi;refine ho y (by simp) S a A K hg hN _ (λ S' a' A' K' g' e'=>?_)
    refine Tka hlt hQ fuel (L1++L2) (listed.setIfInBounds y.1 true) S' a' A' (by simp at hlen ⊢;omega) (by simpa using hsz) ?_ ?_ ?_ (λ x hx=>ho x (by rcases Vm.1 hx with h|h<;>simp[h])) (λ x hx=>hb x (by rcases Vm.1 hx with h|h<;>simp[h])) ?_ K' g' (by rw[e'];exact hr2)
    ·exact Zg.2 ⟨s1,s2.2,λ x hx z hz=>s3 x hx z (Vd _ hz)⟩
    ·intro k hk
     by_cases hky:k=y.1
     ·subst hky
      have e1:(listed.setIfInBounds y.1 true).getD y.1 false=true:=by simp[Yk,hsz,hk]
      rw[e1];constructor
      ·intro h;cases h
      ·rintro⟨x,hx,hxe⟩;exfalso;rcases Vm.1 hx with h|h
       ·have:=s3 x h y (by simp);omega
       ·have:=s2.1 x h;omega
     ·rw[getD_set_ne false (Ddb hky),hl k hk];constructor
      ·rintro⟨x,hx,hxe⟩;refine⟨x,?_,hxe⟩;rcases Vm.1 hx with h|h
       ·exact Vx _ h
       ·rcases Vl.1 h with rfl|h
        ·exact(hky hxe.symm).elim
        ·exact Vo _ h
      ·rintro⟨x,hx,hxe⟩
       exact⟨x,by rcases Vm.1 hx with h|h<;>simp[h],hxe⟩
    ·exact Zg.2 ⟨i1,i2.2,λ x hx z hz=>i3 x hx z (Vd _ hz)⟩
    ·intro k o' hk hkl j hj
     by_cases hky:k=y.1
     ·subst hky;rw[h2]at hk;cases hk;exact getD_set_true (haft j hj)
     ·rw[getD_set_ne false (Ddb hky)]at hkl;exact getD_set_true (hd k o' hk hkl j hj)
end
end

section
attribute [local irreducible] C H
def A1a {p:Nat}:∀ {l:List Nat},Xka p l=true↔p∈l
 |[]=>by simp[Xka]
 |q::l=>by
  simp only[Xka,Zt,Vl,A1a (l:=l)];constructor
  ·rintro (h|h)
   ·exact .inl (Vg h).symm
   ·exact .inr h
  ·rintro (rfl|h)
   ·exact .inl (by simp)
   ·exact .inr h
def A2a {m:List Nat}:∀ {l:List Nat},Xla l m=true↔∀ p∈l,p∉m
 |[]=>by simp[Xla]
 |q::l=>by
  simp only[Xla,Va,Vz,Vl,A2a (l:=l)];constructor
  ·rintro⟨h1,h2⟩ p (rfl|h) hm
   ·rw[A1a.2 hm]at h1;cases h1
   ·exact h2 p h hm
  ·intro h;refine⟨?_,λ p hp=>h p (.inr hp)⟩
   cases hc:Xka q m with
   |false=>rfl
   |true=>exact(h q (.inl rfl) (A1a.1 hc)).elim
def W3a (s:Sv) (j:Nat):Sv:=match s with
 |.tup vs => .tup (vs.set j (false,[.dead]))
 |s=>s
structure Ext (x:Ak) (t j d:Nat):Prop where
 N:∃ ag l,∀ g,x.N g↔∃ vs,(g t).2 = .tup vs∧nth vs j=some (ag,l)
 e:d≠t→∃ (w:Bool) (s:Sv),∀ g p,x.e g p=if p=d then ((g p).1+1,s) else if w=true∧p=t then ((g p).1+1,W3a (g p).2 j) else g p
structure A3a (y:Lg) (x:Ak):Prop where
 WF:∀ p∈y.W,p∈y.F
 N:∀ g g',(∀ p∈y.F,g p=g' p)→x.N g→x.N g'
 out:∀ g p,p∉y.W→x.e g p=g p
 loc:∀ g g' p,p∈y.W→g p=g' p→x.e g p=x.e g' p
 ex:∀ t j d,y.ex=some (t,j,d)→Ext x t j d
def A3a.ind {y y':Lg} {x x':Ak} (h:A3a y x) (h':A3a y' x') (hi:Kma y y'=true):Ind x x':=by
 unfold Kma at hi;simp only[Zt,Va]at hi;rcases hi with⟨d1,d2⟩|hi
 ·have d1:=A2a.1 d1;have d2:=A2a.1 d2;have o1:∀ g,∀ p∈y'.F,x.e g p=g p:=λ g p hp=>h.out g p (λ hw=>d1 p hw hp);have o2:∀ g,∀ p∈y.F,x'.e g p=g p:=λ g p hp=>h'.out g p (λ hw=>d2 p hw hp);refine⟨λ g _ hn=>h'.N _ _ (o1 g) hn,λ g _ hn=>h.N _ _ (λ p hp=>(o2 g p hp).symm) hn,λ g _ _=>?_⟩;funext p
  by_cases hp:p∈y.W
  ·have hp':p∉y'.W:=λ hw=>d2 p hw (h.WF p hp);rw[h'.out (x.e g) p hp',h.loc (x'.e g) g p hp (o2 g p (h.WF p hp))]
  ·rw[h.out (x'.e g) p hp]
   by_cases hp':p∈y'.W
   ·exact h'.loc g (x.e g) p hp' (o1 g p (h'.WF p hp')).symm
   ·rw[h'.out _ p hp',h'.out _ p hp',h.out _ p hp]
 ·split at hi
  ·rename_i t j d t' j' d' e1 e2;simp only[Va,Vz]at hi;obtain⟨⟨⟨⟨q1,q2⟩,q3⟩,q4⟩,q5⟩:=hi;have ht:t=t':=Vg q1;subst ht
   have hj:j≠j':=λ e=>by subst e;simp at q2
   have hd:d≠d':=λ e=>by subst e;simp at q3
   have hdt:d≠t:=λ e=>by subst e;simp at q4
   have hdt':d'≠t:=λ e=>by subst e;simp at q5
   obtain⟨⟨ag,l,hN⟩,he⟩:=h.ex t j d e1;obtain⟨⟨ag',l',hN'⟩,he'⟩:=h'.ex t j' d' e2;obtain⟨w,s,he⟩:=he hdt;obtain⟨w',s',he'⟩:=he' hdt'
   have et:∀ g,(x.e g t).2=if w=true then W3a (g t).2 j else (g t).2:=λ g=>by
    rw[he,if_neg (Ddb hdt)]
    cases w<;>simp
   have et':∀ g,(x'.e g t).2=if w'=true then W3a (g t).2 j' else (g t).2:=λ g=>by
    rw[he',if_neg (Ddb hdt')]
    cases w'<;>simp
   refine⟨λ g hn hn'=>?_,λ g hn' hn=>?_,λ g hn hn'=>?_⟩
   ·obtain⟨vs,g1,g2⟩:=(hN g).1 hn;obtain⟨vs',g1',g2'⟩:=(hN' _).1 hn';refine(hN' g).2 ⟨vs,g1,?_⟩;rw[et,g1]at g1'
    cases w with
    |false=>
     simp only[Wq,if_false,Sv.tup.injEq]at g1';rw[g1'];exact g2'
    |true=>
     simp only[if_true,W3a,Sv.tup.injEq]at g1';rw[← g1',Hu,D9b hj]at g2';rw[Hu];exact g2'
   ·obtain⟨vs,g1,g2⟩:=(hN g).1 hn;refine(hN _).2 ?_;cases w'
    ·exact⟨vs,by rw[et',g1];simp,g2⟩
    refine⟨vs.set j' (false,[.dead]),by rw[et',g1];simp[W3a],?_⟩;rw[Hu,D9b (Ddb hj),← Hu];exact g2
   ·funext p
    by_cases p1:p=d
    ·subst p1;simp[he,he',hd,hdt]
    ·by_cases p2:p=d'
     ·subst p2;simp[he,he',p1,hdt']
     ·by_cases p3:p=t
      ·subst p3;obtain⟨vs,g1,g2⟩:=(hN g).1 hn
       cases w<;>cases w'<;>simp[he,he',p1,p2,g1,W3a]
       exact List.set_comm _ _ (Ddb hj)
      ·simp[he,he',p1,p2,p3]
  ·cases hi
def H6a {ops:Array Oper}:∀ {lg:List Lg},(∀ y∈lg,∀ k,Nat.testBit y.anc k=true→Anc ops k y.i)→∀ j k,Nat.testBit (Kna lg j) k=true→Anc ops k j
 |[],_,j,k,h=>by simp[Kna]at h
 |y::lg,hl,j,k,h=>by
  unfold Kna at h
  cases hb:Nat.beq y.i j with
  |true=>
   rw[hb,cond_true]at h;rw[← Vg hb];exact hl y (by simp) k h
  |false=>
   rw[hb,cond_false]at h;exact H6a (λ z hz=>hl z (Vd _ hz)) j k h
def Msa {ops:Array Oper} {lg:List Lg} (hl:∀ y∈lg,∀ k,Nat.testBit y.anc k=true→Anc ops k y.i) {i:Nat} {o:Oper} (ho:ops[i]? = some o):∀ {l:List Nat},(∀ j∈l,j∈aft o)→∀ k,Nat.testBit (T7a lg l) k=true→Anc ops k i
 |[],_,k,h=>by simp[T7a]at h
 |j::l,hj,k,h=>by
  unfold T7a at h;simp only[Nat.testBit_or,Zt]at h;rcases h with (h|h)|h
  ·rw[Nat.testBit_two_pow]at h;simp only[decide_eq_true_eq]at h;subst h;exact .dir ho (hj _ (by simp))
  ·exact .tr ho (hj j (by simp)) (H6a hl j k h)
  ·exact Msa hl ho (λ m hm=>hj m (Vd _ hm)) k h
section
variable {X:Cx} {E:En} {ops:Array Oper} {Q:Exit→Act→World→Prop}
def H7a {S:Sit} {a:Act} (hE:Iv X E) (hK:B1 X S a) {o:Oper} {j dj:Nat} {want:Bool} (hgd:o.guard=some (j,want)) (hdj:Kla ops.toList j=some dj) (hb:Nat.blt dj E.nt=true):
  (∀ b,(S.g dj).2 = .one (.sc (.bool b))→Region.wanted o (yielded ops a.tmps)=(b==want))∧((S.g dj).2 = .one .un→Region.wanted o (yielded ops a.tmps)=false):=by
 have hdj':(ops[j]?).bind (·.dst)=some dj:=by
  unfold Kla at hdj;rw[Hu]at hdj
  have:ops.toList[j]? = ops[j]? := by simp
  rw[this]at hdj
  cases hj:ops[j]? with
  |none=>rw[hj]at hdj;cases hdj
  |some oj=>rw[hj]at hdj;simpa using hdj
 have hjl:dj<X.nt:=hE.nt ▸ (Vk hb:dj+1≤E.nt)
 have htm:a.tmps[dj]? = some (S.ph dj):=by
  have h1:=hK.sl dj hjl
  have h2:dj<a.tmps.size:=by rw[hK.sz];exact hjl
  rw[← h1,Yk,Crb h2];rfl
 have hy:yielded ops a.tmps j=(match S.ph dj with | .bool b=>some b|_=>none):=by
  unfold yielded;rw[hdj',Vu,htm]
  cases S.ph dj<;>rfl
 have hwd:Region.wanted o (yielded ops a.tmps)=((match S.ph dj with | .bool b=>some b|_=>none)==some want):=by
  unfold Region.wanted;rw[hgd];simp only;rw[hy]
 have hat:=hK.at_ dj;constructor
 ·intro b hs;rw[hs]at hat;have hph:S.ph dj = .bool b:=hat.1;rw[hwd,hph]
  cases b<;>cases want<;>rfl
 ·intro hs;rw[hs]at hat;have hph:S.ph dj=undef:=hat;rw[hwd,hph];simp[undef]
def Aob (F:List Nat) (A:Ab) (U:List Up):Ak:=⟨λ g=>∀ p∈F,g p=get A p,λ g=>Eza g U⟩
def Mta {y:Lg} {A:Ab} {U:List Up} {F:List Nat} (hF:y.F=F++U.map Up.l) (hW:y.W=U.map Up.l) (hex:y.ex=none):A3a y (Aob y.F A U):=by
 refine⟨λ p hp=>?_,λ g g' h hn p hp=>by rw[← h p hp];exact hn p hp,λ g p hp=>Q5 U g p (by rw[← hW];exact hp),λ g g' p _ h=>Q6 U g g' p h,λ t j d h=>by rw[hex]at h;cases h⟩;rw[hF,Vm];exact .inr (by rw[← hW];exact hp)
def Yta (hV:Tn X E) {i:Nat} {o:Oper} (hi:ops[i]? = some o) (hd:B9a E o=true) {x:Ak} (hw:∀ S a,B1 X S a→x.N S.g→Region.wanted o (yielded ops a.tmps)=true)
  (hU:∀ A',x.N (get A')→∃ U,Au E o A' some=some U∧Eza (get A') U=x.e (get A')):Xqa X ops Q i x:=by
 intro S a A' K hg hn Kn hk
 have hdl:∀ d,o.dst=some d→d<X.nt:=λ d hod=>by
  unfold B9a at hd;rw[hod]at hd;exact hV.en.nt ▸ (Vk hd:d+1≤E.nt)
 obtain⟨U,hU1,hU2⟩:=hU A' hn;obtain⟨U',hU',hgo⟩:=Lua hV K hg hdl hU1;simp only[Vc]at hU';subst hU';unfold wpOp;rw[hi];simp only;rw[if_pos (hw S a K (by rw[hg];exact hn))];exact .inl (hgo _ _ (λ S' a' K' g'=>hk S' a' _ K' g' ((Og U' A').trans hU2)))
def W4a (hV:Tn X E) {i:Nat} {o:Oper} (hi:ops[i]? = some o) (hd:B9a E o=true) {N:Gs→Prop} (hw:∀ S a,B1 X S a→N S.g→Region.wanted o (yielded ops a.tmps)=false):
  Xqa X ops Q i ⟨N,λ g=>Eza g (match o.dst with|some d=>[⟨d,false,.one .un⟩]|none=>[])⟩:=by
 intro S a A' K hg hn Kn hk;unfold wpOp;rw[hi];simp only;rw[if_neg (by rw[hw S a K (by rw[hg];exact hn)];decide)];obtain⟨S',K',g',w'⟩:=Tea hV.en K hg hd;rw[← w'];refine hk S' _ _ K' g' ?_;unfold Pq
 cases o.dst with
 |none=>rfl
 |some d=>exact Og [⟨d,false,.one .un⟩] A'
def H8a (t j d:Nat) (l:List Lf) (s:Sv) (vs:List (Bool×List Lf)):List Up:=bif F8 l then [⟨t,false,.tup (vs.set j (false,[.dead]))⟩,⟨d,false,s⟩] else [⟨d,false,s⟩]
def R4a {R:Type} {Kc:List Up→Option R} {r:R} {A:Ab} {o:Oper} {t j d:Nat} (ho:o.op = .extract (.tmp t) j) (hod:o.dst=some d) (h:Au E o A Kc=some r):
  ∃ vs ag l s,(get A t).2 = .tup vs∧nth vs j=some (ag,l)∧Kc (H8a t j d l s vs)=some r∧∀ A' vs',(get A' t).2 = .tup vs'→nth vs' j=some (ag,l)→Au E o A' some=some (H8a t j d l s vs'):=by
 unfold Au at h;rw[ho,hod]at h;simp only at h;cases hb:Nat.blt t E.nt
 ·rw[hb]at h;simp at h
 rw[hb,cond_true]at h;split at h
 ·rename_i vs hg;split at h
  ·rename_i ag l hn;split at h
   ·rename_i s hs;refine⟨vs,ag,l,s,hg,hn,?_,λ A' vs' hg' hn'=>?_⟩
    ·rw[← h];unfold H8a
     cases F8 l<;>rfl
    ·unfold Au;rw[ho,hod];simp only[hb,cond_true,hg',hn',hs];unfold H8a
     cases F8 l<;>rfl
   ·cases h
  ·cases h
 ·cases h
def F1a (t j d:Nat) (ag:Bool) (l:List Lf) (s:Sv):Ak:=
 ⟨λ g=>∃ vs,(g t).2 = .tup vs∧nth vs j=some (ag,l),λ g=>Eza g (bif F8 l then [⟨t,false,W3a (g t).2 j⟩,⟨d,false,s⟩] else [⟨d,false,s⟩])⟩
def R5a {o:Oper} {i:Nat} {lg:List Lg} {A:Ab} {t j d:Nat} {ag:Bool} {l:List Lf} {s:Sv} {vs:List (Bool×List Lf)} (ho:o.op = .extract (.tmp t) j) (hod:o.dst=some d):
  A3a (W6 o i lg [] A (H8a t j d l s vs)) (F1a t j d ag l s):=by
 have ht:t∈(W6 o i lg [] A (H8a t j d l s vs)).F:=by
  show t∈[]++rds A o++_;simp[rds,Xya,ho,Ir,T6a,rdO]
 have hW:(W6 o i lg [] A (H8a t j d l s vs)).W=bif F8 l then [t,d] else [d]:=by
  show (H8a t j d l s vs).map Up.l=_;unfold H8a
  cases F8 l<;>rfl
 refine⟨λ p hp=>Vo _ hp,λ g g' hF hn=>?_,λ g p hp=>?_,λ g g' p hp h=>?_,λ t' j' d' h=>?_⟩
 ·obtain⟨vs',h1,h2⟩:=hn;exact⟨vs',by rw[← hF t ht];exact h1,h2⟩
 ·rw[hW]at hp;unfold F1a
  cases hl:F8 l with
  |true=>
   rw[hl]at hp;exact Q5 _ _ _ hp
  |false=>
   rw[hl]at hp;exact Q5 _ _ _ hp
 ·rw[hW]at hp;unfold F1a;cases hl:F8 l
  ·exact Q6 _ _ _ p h
  rw[hl]at hp;simp only[cond_true];show gup (gup g _) _ p=gup (gup g' _) _ p;unfold gup
  by_cases e1:p=d
  ·subst e1
   by_cases e2:p=t
   ·subst e2;simp[h]
   ·simp[e2,h]
  ·rcases Vl.1 hp with e2|e2
   ·subst e2;simp[e1,h]
   ·exact(e1 (by simpa using e2)).elim
 ·have hex:(W6 o i lg [] A (H8a t j d l s vs)).ex=some (t,j,d):=by
   show (bif List.isEmpty ([]:List Nat) then Xza o else none)=_;simp[Xza,ho,hod]
  rw[hex]at h;cases h;refine⟨⟨ag,l,λ g=>Ehb⟩,λ hdt=>⟨F8 l,s,λ g p=>?_⟩⟩;unfold F1a
  cases hl:F8 l with
  |false=>
   show gup g _ p=_;unfold gup
   by_cases e1:p=d
   ·subst e1;simp
   ·simp[e1]
  |true=>
   simp only[cond_true];show gup (gup g _) _ p=_;unfold gup
   by_cases e1:p=d
   ·subst e1;simp[hdt]
   ·simp[e1]
    by_cases e2:p=t
    ·subst e2;simp
    ·simp[e2]
end
end

section
attribute [local irreducible] C H
section
variable {X:Cx} {E:En} {ops:Array Oper} {Q:Exit→Act→World→Prop}
structure Tla (X:Cx) (ops:Array Oper) (Q:Exit→Act→World→Prop) (l:List Nat) (lg:List Lg) (g:Gs) (f:Gs) (L:List (Lg×Ak)):Prop where
 ix:L.map (λ z=>z.1.i)=l
 runs:Tja (L.map Prod.snd) g f
 fits:∀ z∈L,A3a z.1 z.2∧Xqa X ops Q z.1.i z.2
 old:∀ y∈lg,∀ z∈L,Nat.testBit z.1.anc y.i=true∨Kma y z.1=true
 pair:L.Pairwise (λ y z=>Nat.testBit z.1.anc y.1.i=true∨Kma y.1 z.1=true)
 anc:∀ z∈L,∀ k,Nat.testBit z.1.anc k=true→Anc ops k z.1.i
 lt:∀ i∈l,∃ o,ops[i]? = some o∧∀ j∈aft o,j<i
def Tla.cons {l:List Nat} {lg:List Lg} {g g1 f:Gs} {L:List (Lg×Ak)} {y:Lg} {x:Ak} {i:Nat} (h:Tla X ops Q l (y::lg) g1 f L) (hi:y.i=i) (hn:x.N g) (he:x.e g=g1) (hf:A3a y x) (ho:Xqa X ops Q i x) (hok:Koa lg y=true)
  (ha:∀ k,Nat.testBit y.anc k=true→Anc ops k i) (hl:∃ o,ops[i]? = some o∧∀ j∈aft o,j<i):Tla X ops Q (i::l) lg g f ((y,x)::L):=by
 refine⟨by simp[hi,h.ix],⟨hn,by rw[he];exact h.runs⟩,?_,?_,?_,?_,?_⟩
 ·intro z hz;rcases Vl.1 hz with rfl|hz
  ·exact⟨hf,by rw[hi];exact ho⟩
  ·exact h.fits z hz
 ·intro y' hy' z hz;rcases Vl.1 hz with rfl|hz
  ·unfold Koa at hok;rw[Yd]at hok;have:=hok y' hy'
   simpa using this
  ·exact h.old y' (Vd _ hy') z hz
 ·exact Wa.2 ⟨λ z hz=>h.old y (by simp) z hz,h.pair⟩
 ·intro z hz k hk;rcases Vl.1 hz with rfl|hz
  ·rw[hi];exact ha k hk
  ·exact h.anc z hz k hk
 ·intro j hj;rcases Vl.1 hj with rfl|hj
  ·exact hl
  ·exact h.lt j hj
def H9a (hV:Tn X E) {R:Type}:∀ (l:List Nat) (lg:List Lg) (A:Ab) (K:Ab→Option R) (r:R),(∀ y∈lg,∀ k,Nat.testBit y.anc k=true→Anc ops k y.i)→I2 E ops.toList l lg A K=some r→
  ∃ (L:List (Lg×Ak)) (A':Ab),K A'=some r∧Tla X ops Q l lg (get A) (get A') L
 |[],lg,A,K,r,_,h=>⟨[],A,h,rfl,rfl,by simp,by simp,.nil,by simp,by simp⟩
 |i::l,lg,A,K,r,hlg,h=>by
  unfold I2 at h;rw[Hu]at h;split at h
  ·cases h
  ·rename_i o ho
   have hi:ops[i]? = some o:=by simpa using ho
   obtain⟨hb0,h⟩:=cs h;simp only[Va,Yd]at hb0;obtain⟨hd,hlt0⟩:=hb0
   have hlt:∃ o,ops[i]? = some o∧∀ j∈aft o,j<i:=⟨o,hi,λ j hj=>by
    have:=hlt0 j hj
    exact Vk this⟩
   have hanc:∀ k,Nat.testBit (T7a lg (aft o)) k=true→Anc ops k i:=Msa hlg hi (λ j hj=>hj)
   have next:∀ {y:Lg} {x:Ak} {A1:Ab},y.i=i→y.anc=T7a lg (aft o)→x.N (get A)→x.e (get A)=get A1→A3a y x→Xqa X ops Q i x→Koa lg y=true→I2 E ops.toList l (y::lg) A1 K=some r→
     ∃ (L:List (Lg×Ak)) (A':Ab),K A'=some r∧Tla X ops Q (i::l) lg (get A) (get A') L:=by
    intro y x A1 e1 e2 hn he hf hop hok hev
    obtain⟨L,A',h1,h2⟩:=H9a hV l (y::lg) A1 K r (λ z hz k hk=>by
     rcases Vl.1 hz with rfl|hz
     ·rw[e1];exact hanc k (by rw[← e2];exact hk)
     ·exact hlg z hz k hk) hev
    exact⟨_,A',h1,h2.cons e1 hn he hf hop hok (by rw[e2];exact hanc) hlt⟩
   have cnd:∀ {b:Bool} {z:Option R},(bif b then z else none)=some r→b=true∧z=some r:=by
    intro b z hz
    cases b with
    |false=>simp at hz
    |true=>exact⟨rfl,hz⟩
   have exec:∀ (B:Ab) (gd:List Nat),get B=get A→(∀ S a,B1 X S a→(∀ p∈gd,S.g p=get A p)→Region.wanted o (yielded ops a.tmps)=true)→
     Au E o B (λ U=>bif Koa lg (W6 o i lg gd B U) then I2 E ops.toList l (W6 o i lg gd B U::lg) (ups B U) K else none)=some r→
     ∃ (L:List (Lg×Ak)) (A':Ab),K A'=some r∧Tla X ops Q (i::l) lg (get A) (get A') L:=by
    intro B gd hBA hw hs
    have generic:(W6 o i lg gd B [] ).ex=none→∃ (L:List (Lg×Ak)) (A':Ab),K A'=some r∧Tla X ops Q (i::l) lg (get A) (get A') L:=by
     intro hex;obtain⟨U,h1,h2⟩:=R3a (F:=rds B o) (λ p hp=>hp) hs;obtain⟨hok,hev⟩:=cnd h1;have hfit:A3a (W6 o i lg gd B U) (Aob (W6 o i lg gd B U).F B U):=Mta (F:=gd++rds B o) rfl rfl hex;refine next (y:=W6 o i lg gd B U) (x:=Aob (W6 o i lg gd B U).F B U) (A1:=ups B U) rfl rfl (λ p _=>by rw[hBA]) ?_ hfit ?_ hok hev
     ·show Eza (get A) U=_;rw[Og,hBA]
     ·refine Yta hV hi hd (λ S a hS hN=>hw S a hS (λ p hp=>?_)) (λ A' hN=>⟨U,?_,rfl⟩)
      ·rw[← hBA];exact hN p (by show p∈gd++rds B o++_;simp[hp])
      ·exact h2 A' (λ p hp=>hN p (by show p∈gd++rds B o++_;simp[hp])) some
    cases hgd:gd with
    |cons p0 gd'=>subst hgd;exact generic (by simp[W6])
    |nil=>
     subst hgd
     cases hexo:Xza o with
     |none=>exact generic (by simp[W6,hexo])
     |some q=>
      obtain⟨t,j,d⟩:=q
      have:o.op = .extract (.tmp t) j∧o.dst=some d:=by
       unfold Xza at hexo;split at hexo
       ·rename_i e1 e2;cases hexo;exact⟨e1,e2⟩
       ·cases hexo
      obtain⟨hop,hod⟩:=this;obtain⟨vs,ag,lf,s,hg,hn,h1,h2⟩:=R4a hop hod hs;obtain⟨hok,hev⟩:=cnd h1
      have hex:∀ A' vs',(get A' t).2 = .tup vs'→Eza (get A') (H8a t j d lf s vs')=(F1a t j d ag lf s).e (get A'):=by
       intro A' vs' hv;unfold H8a F1a;simp only;rw[hv];rfl
      refine next (y:=W6 o i lg [] B (H8a t j d lf s vs)) (x:=F1a t j d ag lf s) (A1:=ups B (H8a t j d lf s vs)) rfl rfl ⟨vs,by rw[← hBA];exact hg,hn⟩ ?_ (R5a hop hod) ?_ hok hev
      ·rw[← hBA,Og];exact(hex B vs hg).symm
      ·refine Yta hV hi hd (λ S a hS _=>hw S a hS (by simp)) (λ A' hN=>?_);obtain⟨vs',g1,g2⟩:=hN;exact⟨_,h2 A' vs' g1 g2,hex A' vs' g1⟩
   have skip:∀ (B:Ab) (dj:Nat),get B=get A→(∀ S a,B1 X S a→S.g dj=get A dj→Region.wanted o (yielded ops a.tmps)=false)→
     (bif Koa lg (Pr o i lg [dj]) then I2 E ops.toList l (Pr o i lg [dj]::lg) (Pq o B) K else none)=some r→
     ∃ (L:List (Lg×Ak)) (A':Ab),K A'=some r∧Tla X ops Q (i::l) lg (get A) (get A') L:=by
    intro B dj hBA hw hs;obtain⟨hok,hev⟩:=cnd hs
    have hsk:Eza (get A) (match o.dst with|some d=>[⟨d,false,.one .un⟩]|none=>[])=get (Pq o B):=by
     unfold Pq
     cases o.dst with
     |none=>exact hBA.symm
     |some d=>rw[← hBA];exact(Og [⟨d,false,.one .un⟩] B).symm
    refine next (y:=Pr o i lg [dj]) (x:=⟨λ g=>g dj=get A dj,λ g=>Eza g (match o.dst with|some d=>[⟨d,false,.one .un⟩]|none=>[])⟩) (A1:=Pq o B) rfl rfl rfl hsk ?_ (W4a hV hi hd (λ S a hS hN=>hw S a hS hN)) hok hev
    have hmap:(match o.dst with|some d=>[(⟨d,false,.one .un⟩:Up)]|none=>[]).map Up.l=o.dst.toList:=by cases o.dst<;>rfl
    refine⟨λ p hp=>Vo _ hp,λ g g' h hn=>by show g' dj=get A dj;rw[← h dj (by show dj∈[dj]++_;simp)];exact hn,λ g p hp=>Q5 _ g p (by rw[hmap];exact hp),λ g g' p _ h=>Q6 _ g g' p h,λ t j d h=>by cases h⟩
   split at h
   ·rename_i hgd;exact exec A [] rfl (λ S a _ _=>by unfold Region.wanted;rw[hgd]) h
   ·rename_i j want hgd;split at h
    ·cases h
    ·rename_i dj hdj;obtain⟨hb,h⟩:=cs h;split at h
     ·rename_i n b hgt;have hwant:∀ (S:Sit) (a:Act),B1 X S a→S.g dj=get A dj→Region.wanted o (yielded ops a.tmps)=(b==want):=λ S a hS hs=>(H7a hV.en hS hgd hdj hb).1 b (by rw[hs,hgt])
      cases b with
      |true=>
       rw[cond_true]at h
       cases want with
       |true=>
        rw[cond_true]at h;exact exec (lit A dj n true) [dj] (Tp hgt) (λ S a hS hs=>hwant S a hS (hs dj (by simp))) h
       |false=>
        rw[cond_false]at h;exact skip (lit A dj n true) dj (Tp hgt) (λ S a hS hs=>hwant S a hS hs) h
      |false=>
       rw[cond_false]at h
       cases want with
       |true=>
        rw[cond_true]at h;exact skip (lit A dj n false) dj (Tp hgt) (λ S a hS hs=>hwant S a hS hs) h
       |false=>
        rw[cond_false]at h;exact exec (lit A dj n false) [dj] (Tp hgt) (λ S a hS hs=>hwant S a hS (hs dj (by simp))) h
     ·rename_i n hgt;exact skip A dj rfl (λ S a hS hs=>(H7a hV.en hS hgd hdj hb).2 (by rw[hs,hgt])) h
     ·cases h
def W5a (hV:Tn X E) (hm:X.P.follows .mixedOrders=true):C3a X E:=by
 intro R id ops Q S a A K r hK hg h hQ;refine wp_region_any hm ?_;obtain⟨L,A',hA',T⟩:=H9a (X:=X) (ops:=ops) (Q:=Q) hV _ [] A K r (by simp) h
 have hlen:L.length=ops.size:=by
  have:=congrArg length T.ix
  simpa using this
 have hmem:∀ z∈L,z.1.i<ops.size:=by
  intro z hz;have:z.1.i∈L.map (λ z=>z.1.i):=Yo hz;rw[T.ix]at this
  simpa using this
 have K2:=(hK.world (w' := { S.w with drawn:=S.w.drawn+1 }) (O':=S.O) (λ k _ _=>⟨rfl,rfl⟩) rfl rfl rfl (Vw _) hK.lt).1;refine Tka (X:=X) (f:=get A') ?_ (λ S' a' A2 K' g' e'=>hQ S' a' A' K' (by rw[g',e']) hA') ops.size (L.map λ z=>(z.1.i,z.2)) _ (Tb S { S.w with drawn:=S.w.drawn+1 } S.O) a A (by simp[hlen]) (by simp) ?_ ?_ ?_ ?_ ?_ ?_ K2 hg ?_
 ·intro i o hi j hj;have hil:i<ops.size:=(Zv.1 hi).1;obtain⟨o',h1,h2⟩:=T.lt i (by simpa using hil);rw[hi]at h1;cases h1;exact h2 j hj
 ·rw[Zo]
  have hp:(L.map (λ z=>z.1.i)).Pairwise (· < ·):=by rw[T.ix];exact List.pairwise_lt_range
  rw[Zo]at hp;exact hp
 ·intro i hi;constructor
  ·intro _
   have:i∈L.map (λ z=>z.1.i):=by rw[T.ix];simpa using hi
   obtain⟨z,hz,hzi⟩:=Yw.1 this;exact⟨(z.1.i,z.2),Yo hz,hzi⟩
  ·intro _;simp[Yk,hi]
 ·rw[Zo];refine List.Pairwise.imp_of_mem ?_ T.pair;intro y z hy hz h;rcases h with h|h
  ·exact .inl (T.anc z hz _ h)
  ·exact .inr ((T.fits y hy).1.ind (T.fits z hz).1 h)
 ·intro x hx;obtain⟨z,hz,rfl⟩:=Yw.1 hx;exact(T.fits z hz).2
 ·intro x hx;obtain⟨z,hz,rfl⟩:=Yw.1 hx;exact hmem z hz
 ·intro i o hi hl;have hil:i<ops.size:=(Zv.1 hi).1;simp[Yk,hil]at hl
 ·have:(L.map λ z=>(z.1.i,z.2)).map Prod.snd=L.map Prod.snd:=by simp
  rw[this];exact T.runs
end
end

section
attribute [local irreducible] C H
def Ty.fit (ti:TypeId→Option TI):(t:Ty)→t.den→Prop
 |.i k,n=>(Lit.int k n).wf=true
 |.b,_=>True
 |.s,x=>x.size≤140737488351232
 |.sl e r,xs=>(∀ te,ti e=some te→xs.length*te.by_≤140737488351232)∧∀ x∈xs,r.fit ti x
 |.ow e r,xs=>(∀ te,ti e=some te→xs.length*te.by_≤140737488351232)∧∀ x∈xs,r.fit ti x
 |.pr x y,p=>x.fit ti p.1∧y.fit ti p.2
def Yua (ti:TypeId→Option TI) (T:TypeId) (ty:Ty):Bool:=match ti T with
 |some t=>decide (t.ty=ty)
 |none=>false
def Rd (ti:TypeId→Option TI):List Field→Nat→Ty→Bool
 |[],_,_=>false
 |[f],o,ty=>Nat.beq f.offset o&&Yua ti f.type ty
 |f::g::fs,o,.pr x y=>Nat.beq f.offset o&&Yua ti f.type x&&Rd ti (g::fs) (o+x.sz) y
 |_,_,_=>false
def Q7 (P:Program) (ti:TypeId→Option TI) (T:TypeId):Bool:=match ti T,P.underlying T with
 |none,_=>true
 |some t,some (.struct fs)=>t.ag&&Rd ti fs.toList 0 t.ty
 |some ⟨.sl e r,false,_,_⟩,some (.slice e')=>Nat.beq e e'&&Yua ti e r
 |some ⟨.i k,false,_,_⟩,some (.int k')=>decide (k=k')
 |some ⟨.b,false,_,_⟩,some .bool=>true
 |some ⟨.s,false,_,_⟩,some .string=>true
 |_,_=>false
section
variable {H':Type} {enc:TypeId×Value→H'} {P:Program} {w:World} {base:Nat} {spare:Nat→Bool} {held:Bool} {ti:TypeId→Option TI}
def Ns {T:TypeId} {ty:Ty} (h:Yua ti T ty=true):∃ t,ti T=some t∧t.ty=ty:=by
 unfold Yua at h;split at h
 ·rename_i t ht;exact⟨t,ht,of_decide_eq_true h⟩
 ·cases h
def Q8 {T:TypeId} {t:TI} (h:TOk P T t):P.cellsOf T=t.ty.sz:=by
 unfold Program.cellsOf;rw[O8 h];rfl
def Mua {T:TypeId} {t:TI} (h:TOk P T t):P.bytesOf T=t.by_:=by
 obtain⟨i,h1,_,h2,_⟩:=h.info;unfold Program.bytesOf;rw[h1];exact h2
def Mva {α:Type} {R:α→List Value→Prop} {Fit:α→Prop} {k o n:Nat}:∀ (len:Nat),(∀ i,i<len→∃ x c,R x c∧Fit x∧c.length=n∧Ec w k (o+i*n) c)→
  ∃ (xs:List α) (cs:List Value),xs.length=len∧Rows R xs cs∧(∀ x∈xs,Fit x)∧cs.length=len*n∧Ec w k o cs
 |0,_=>⟨[],[],rfl,rfl,by simp,by simp,by intro j u hj;simp at hj⟩
 |len+1,h=>by
  obtain⟨xs,cs,h1,h2,h3,h4,h5⟩:=Mva len (λ i hi=>h i (by omega));obtain⟨x,c,g1,g2,g3,g4⟩:=h len (by omega);refine⟨xs++[x],cs++c,by simp[h1],Rows.append h2 ⟨c,[],by simp,g1,rfl⟩,?_,?_,?_⟩
  ·intro y hy;rcases Vm.1 hy with hy|hy
   ·exact h3 y hy
   ·simp at hy;subst hy;exact g2
  ·rw[Vi,h4,g3,Zc,Zh]
  ·intro j u hj
   by_cases hlt:j<cs.length
   ·rw[Yl hlt]at hj;exact h5 j u hj
   ·rw[Yg (by omega)]at hj;have:=g4 (j-cs.length) u hj;rw[h4]at this hlt;rwa [show o+len*n+(j-len*n)=o+j by omega]at this
def R6a {a:Addr} {n:Nat} {cs:List Value} (h:w.cells? base a n=some cs) (hn:0<n):a.spot=none∧a.block<w.heap.size∧cs.length=n∧Ec w a.block a.off cs:=by
 unfold World.cells? at h;split at h
 ·have hl:=mapM_some_length h;have hg:=λ i hi=>mapM_some_get h i i hi;simp only[List.length_range]at hl;have h0:w.cell? (a.add 0)=cs[0]? := hg 0 (by simp[hn]);have hc0:∃ v,cs[0]? = some v:=⟨_,Ve (by omega)⟩;obtain⟨v,hv⟩:=hc0;rw[hv]at h0
  have hspot:a.spot=none∧a.block<w.heap.size:=by
   unfold World.cell? at h0;split at h0
   ·rename_i c e f hb;refine⟨?_,(Zv.1 hb).1⟩
    cases hs:a.spot with
    |none=>rfl
    |some s=>simp[Addr.add,hs]at h0
   ·cases h0
  refine⟨hspot.1,hspot.2,hl,λ j u hj=>?_⟩
  have hjl:j<n:=by have:=(Ym.1 hj).1;omega
  have:=hg j (by simp[hjl]);rw[hj]at this;obtain⟨b,off,sp⟩:=a;have hsp:sp=none:=hspot.1;subst hsp;rw[Ka]at this;exact this
 ·cases h
def U0 {T:TypeId}:∀ {ds:List (DataW H')} {m:Nat},m∈DataW.weightsAll P T ds↔∃ d∈ds,m∈d.weights P T
 |[],m=>by simp[DataW.weightsAll]
 |d::ds,m=>by
  simp only[DataW.weightsAll,Vm,Vl,U0 (ds:=ds)];constructor
  ·rintro (h|⟨d',h1,h2⟩)
   ·exact⟨d,.inl rfl,h⟩
   ·exact⟨d',.inr h1,h2⟩
  ·rintro⟨d',rfl|h1,h2⟩
   ·exact .inl h2
   ·exact .inr ⟨d',h1,h2⟩
def Yva (enc:TypeId×Value→H') (P:Program) (w:World) (base:Nat) (spare:Nat→Bool) (held:Bool) (ti:TypeId→Option TI) (n:Nat):Prop:=
 ∀ T t cs y,ti T=some t→DataW.trod enc P w base spare held n T cs=some y→(∀ m∈y.1.weights P T,m≤140737488351232)→∃ X:t.ty.den,t.ty.rep P (λ k=>k<w.heap.size) w X cs∧t.ty.fit ti X
def U1 (htok:∀ T t,ti T=some t→TOk P T t) {n:Nat} (ih:Yva enc P w base spare held ti n) {cs:List Value}:∀ (fs:List Field) (o:Nat) (ty:Ty) (xs:List (DataW H'×List MemPlace)),Rd ti fs o ty=true→xs.length=fs.length→
  (∀ (i:Nat) (f:Field),fs[i]? = some f→DataW.trod enc P w base spare held n f.type ((cs.drop f.offset).take (P.cellsOf f.type))=xs[i]?)→(∀ m∈DataW.weightsEach P (fs.map (·.type)) (xs.map (·.1)),m≤140737488351232)→o+ty.sz≤cs.length→
  ∃ X:ty.den,ty.rep P (λ k=>k<w.heap.size) w X ((cs.drop o).take ty.sz)∧ty.fit ti X
 |[],o,ty,xs,hp,_,_,_,_=>by cases ty<;>simp[Rd]at hp
 |[f],o,ty,xs,hp,hl,ht,hw,hs=>by
  simp only[Rd,Va]at hp;obtain⟨t,h1,h2⟩:=Ns hp.2;have ho:f.offset=o:=Vg hp.1;subst h2;have e:=ht 0 f rfl
  cases xs with
  |nil=>simp at hl
  |cons y xs=>
   have e':DataW.trod enc P w base spare held n f.type ((cs.drop f.offset).take (P.cellsOf f.type))=some y:=by simpa using e
   rw[Q8 (htok _ _ h1),ho]at e';exact ih f.type t _ y h1 e' (λ m hm=>hw m (by simp[DataW.weightsEach,hm]))
 |f::g::fs,o,ty,xs,hp,hl,ht,hw,hs=>by
  cases ty<;>first|(simp[Rd]at hp;done)|skip
  rename_i x y;simp only[Rd,Va]at hp;obtain⟨⟨h0,h1a⟩,hp⟩:=hp;obtain⟨t,h1,h2⟩:=Ns h1a;have ho:f.offset=o:=Vg h0;subst h2;have e:=ht 0 f rfl
  cases xs with
  |nil=>simp at hl
  |cons z xs=>
   have e':DataW.trod enc P w base spare held n f.type ((cs.drop f.offset).take (P.cellsOf f.type))=some z:=by simpa using e
   rw[Q8 (htok _ _ h1),ho]at e';have hsz:o+(t.ty.sz+y.sz)≤cs.length:=hs;obtain⟨X,r1,f1⟩:=ih f.type t _ z h1 e' (λ m hm=>hw m (by simp[DataW.weightsEach,hm]))
   obtain⟨Y,r2,f2⟩:=U1 htok ih (g::fs) (o+t.ty.sz) y xs hp (by simpa using hl) (λ i f' hf'=>by have:=ht (i+1) f' hf';simpa using this) (λ m hm=>hw m (by
    simp only[Yb,DataW.weightsEach,Vm]
    exact .inr hm)) (by omega)
   refine⟨(X,Y),⟨_,_,?_,r1,r2⟩,f1,f2⟩;show (cs.drop o).take (t.ty.sz+y.sz)=_;rw[F4b,Yp]
def A4a (htok:∀ T t,ti T=some t→TOk P T t) (hcl:∀ T,Q7 P ti T=true):∀ n,Yva enc P w base spare held ti n
 |0=>by
  intro T t cs y _ h;simp[DataW.trod]at h
 |n+1=>by
  intro T t cs y hT h hw;have hc:=hcl T;have hk:=htok T t hT;unfold Q7 at hc;rw[hT]at hc;split at hc
  ·rename_i e;cases e
  ·-- a struct
   rename_i t0 fs e1 hu;cases e1;simp only[Va]at hc;obtain⟨xs,n',e1,rfl,hl,hxl,hx⟩:=DataW.trod_struct hu h
   have:n'=n:=by omega
   subst this;rw[Q8 hk]at hl;have hw':∀ m∈DataW.weightsEach P (fs.toList.map (·.type)) (xs.map (·.1)),m≤140737488351232:=λ m hm=>hw m (by simp only[DataW.weights,hu];exact hm);obtain⟨X,r,f⟩:=U1 htok (A4a htok hcl n') fs.toList 0 t.ty xs hc.2 (by simpa using hxl) (λ i f hf=>hx i f (by simpa using hf)) hw' (by omega);rw[Zf,← hl,Yx]at r;exact⟨X,r,f⟩
  ·-- a slice
   rename_i e r by_ fo e' e1 hu;cases e1;simp only[Va]at hc;obtain⟨te,hte,hty⟩:=Ns hc.2;have he:e=e':=Vg hc.1;subst he;subst hty;have hke:=htok e te hte;have hsz:Uz P e te.ty.sz:=O8 hke;rcases DataW.trod_slice hu h with⟨rfl,rfl⟩|⟨a,len,cap,elems,rest,n',e1,rfl,rfl,hb,hl,hm,hlen,hel,hsp,hns⟩
   ·exact⟨[],⟨_,rfl,hsz,none,0,[],rfl,Vw _,rfl,λ h=>(h rfl).elim⟩,by simp,by simp⟩
   ·have:n'=n:=by omega
    subst this
    have hlw:(elems.map (·.1)).length+(rest.map (·.1)).length=elems.length+rest.length:=by simp
    have hw0:(elems.length+rest.length)*P.bytesOf e≤140737488351232:=hw _ (by simp only[DataW.weights,hu];simp);rw[Mua hke]at hw0;rw[Q8 hke]at hel;have hpos:=N3 te.ty
    have each:∀ i,i<len→∃ x c,te.ty.rep P (λ k=>k<w.heap.size) w x c∧te.ty.fit ti x∧c.length=te.ty.sz∧((i=0→a.spot=none)∧a.block<w.heap.size)∧Ec w a.block (a.off+i*te.ty.sz) c:=by
     intro i hi;have e1:=hel i hi;rw[Ve (by omega)]at e1;simp only[Eqb]at e1;obtain⟨c,hc1,hc2⟩:=e1;obtain⟨g1,g2,g3,g4⟩:=R6a hc1 hpos
     obtain⟨X,r1,f1⟩:=A4a htok hcl n' e te c _ hte hc2 (λ m hm=>hw m (by
      simp only[DataW.weights,hu,Vl,Vm]
      exact .inr (.inl (U0.2 ⟨_,Yo (Dyb (l:=elems) (n:=i) (by omega)),hm⟩))))
     have hblk:(a.add (i*te.ty.sz)).block=a.block∧(a.add (i*te.ty.sz)).off=a.off+i*te.ty.sz:=by
      unfold Addr.add;split
      ·rename_i h0;exact⟨rfl,by omega⟩
      ·exact⟨rfl,rfl⟩
     rw[hblk.1,hblk.2]at g4;rw[hblk.1]at g2;refine⟨X,c,r1,f1,g3,⟨λ h0=>?_,g2⟩,g4⟩;subst h0;rw[Czb]at g1;exact g1
    obtain⟨xs,cs,h1,h2,h3,h4,h5⟩:=Mva (w:=w) (k:=a.block) (o:=a.off) (n:=te.ty.sz) (R:=λ x c=>te.ty.rep P (λ k=>k<w.heap.size) w x c) (Fit:=te.ty.fit ti) len (λ i hi=>by
     obtain⟨x,c,q1,q2,q3,q4,q5⟩:=each i hi
     exact⟨x,c,q1,q2,q3,q5⟩)
    refine⟨xs,⟨_,rfl,hsz,some a,cap,cs,by rw[h1],by omega,h2,λ hne=>?_⟩,λ te' ht'=>?_,h3⟩
    ·have hpos:0<len:=by rw[← h1];cases xs with|nil=>exact(hne rfl).elim|cons=>simp
     obtain⟨x,c,q1,q2,q3,q4,q5⟩:=each 0 hpos;refine⟨a.block,a.off,?_,q4.2,h5⟩;obtain⟨b,off,sp⟩:=a;have hsp:sp=none:=q4.1 rfl;rw[hsp]
    ·rw[hte]at ht';cases ht';rw[h1,← hlen];exact Zx (Wj _ (Nat.le_add_right _ _)) hw0
  ·rename_i k by_ fo k' e1 hu;cases e1;have:k=k':=of_decide_eq_true hc;subst this;obtain⟨m,rfl,rfl,hwf⟩:=DataW.trod_int hu h;exact⟨m,rfl,hwf⟩
  ·rename_i by_ fo e1 hu;cases e1;obtain⟨b,rfl,rfl⟩:=DataW.trod_bool hu h;exact⟨b,rfl,trivial⟩
  ·rename_i by_ fo e1 hu;cases e1;obtain⟨s,rfl,rfl,hs⟩:=DataW.trod_string hu h;refine⟨s,rfl,?_⟩;have:=hw s.data.toList.length (by rw[show (DataW.lit (.string s.data.toList):DataW H').weights P T=[s.data.toList.length] from by simp only[DataW.weights]];exact Vn.2 rfl);have e:s.data.toList.length=s.size:=Zd;rw[e]at this;exact this
  ·cases hc
end
end

section
attribute [local irreducible] C H
def eq1:Lf→Lf→Option Bool
 |.sc (.int k x),.sc (.int k' y)=>if k=k' then some (x==y) else none
 |.sc (.bool x),.sc (.bool y)=>some (x==y)
 |.sc (.string x),.sc (.string y)=>some (x==y)
 |_,_=>none
def R7a (a a':Lf) (l l':List Lf) {b:Bool} (h:Dz (a::l) (a'::l')=some b):∃ b1 b2,eq1 a a'=some b1∧Dz l l'=some b2∧b=(b1&&b2):=by
 unfold Dz at h;split at h
 ·rename_i e _;cases e
 ·rename_i k x k' y e1 e2;cases e1;cases e2
  by_cases hk:k=k'
  ·simp only[hk,decide_true,cond_true,Vc]at h;exact⟨x==y,true,by simp only[eq1,hk,if_true],rfl,by simp[h]⟩
  ·simp[hk]at h
 ·rename_i x y e1 e2;cases e1;cases e2;simp only[Vc]at h;exact⟨_,true,rfl,rfl,by simp[h]⟩
 ·rename_i x y e1 e2;cases e1;cases e2;simp only[Vc]at h;exact⟨_,true,rfl,rfl,by simp[h]⟩
 ·rename_i k x l k' y l' _ e1 e2;cases e1;cases e2
  by_cases hk:k=k'
  ·simp only[hk,decide_true,cond_true]at h;split at h
   ·rename_i b2 hb;simp only[Vc]at h;exact⟨_,b2,by simp only[eq1,hk,if_true],hb,h.symm⟩
   ·cases h
  ·simp[hk]at h
 ·rename_i x l y l' _ e1 e2;cases e1;cases e2;split at h
  ·rename_i b2 hb;simp only[Vc]at h;exact⟨_,b2,rfl,hb,h.symm⟩
  ·cases h
 ·rename_i x l y l' _ e1 e2;cases e1;cases e2;split at h
  ·rename_i b2 hb;simp only[Vc]at h;exact⟨_,b2,rfl,hb,h.symm⟩
  ·cases h
 ·cases h
def X6:∀ (l m l' m':List Lf) (b:Bool),l.length=l'.length→Dz (l++m) (l'++m')=some b→∃ b1 b2,Dz l l'=some b1∧Dz m m'=some b2∧b=(b1&&b2)
 |[],m,[],m',b,_,h=>⟨true,b,rfl,h,by simp⟩
 |[],_,_::_,_,_,hl,_=>by simp at hl
 |_::_,_,[],_,_,hl,_=>by simp at hl
 |a::l,m,a'::l',m',b,hl,h=>by
  obtain⟨b1,b2,h1,h2,rfl⟩:=R7a a a' (l++m) (l'++m') h;obtain⟨b3,b4,h3,h4,rfl⟩:=X6 l m l' m' b2 (by simpa using hl) h2;refine⟨b1&&b3,b4,?_,h4,by simp[F2b]⟩
  cases a with
  |sc u=>
   cases a' with
   |sc u'=>
    cases u<;>first|(simp[eq1]at h1;done)|skip
    all_goals (cases u'<;>first|(simp[eq1]at h1;done)|skip)
    ·rename_i x y;simp only[eq1,Vc]at h1
     cases l<;>cases l'<;>first|(simp at hl;done)|skip
     ·simp only[Dz,Vc]at h3;simp only[Dz];rw[← h3,← h1,C9b]
     ·simp only[Dz,h3];rw[← h1]
    ·rename_i k x k' y;simp only[eq1]at h1
     by_cases hk:k=k'
     ·rw[if_pos hk]at h1;simp only[Vc]at h1
      cases l<;>cases l'<;>first|(simp at hl;done)|skip
      ·simp only[Dz,Vc]at h3;simp only[Dz,hk,decide_true,cond_true];rw[← h3,← h1,C9b]
      ·simp only[Dz,hk,decide_true,cond_true,h3];rw[← h1]
     ·rw[if_neg hk]at h1;cases h1
    ·rename_i x y;simp only[eq1,Vc]at h1
     cases l<;>cases l'<;>first|(simp at hl;done)|skip
     ·simp only[Dz,Vc]at h3;simp only[Dz];rw[← h3,← h1,C9b]
     ·simp only[Dz,h3];rw[← h1]
   |_=>cases u<;>simp[eq1]at h1
  |_=>simp[eq1]at h1
def eqB (P:Program) (ti:TypeId→Option TI):Nat→TypeId→Bool
 |0,_=>false
 |n+1,T=>match ti T,P.underlying T with
  |some t,some (.struct fs)=>t.ag&&!(P.stoodInHeld T)&&Rd ti fs.toList 0 t.ty&&fs.toList.all (λ f => !(f.name == "_")&&eqB P ti n f.type)
  |some ⟨.i _,false,_,_⟩,some (.int _)=>true
  |some ⟨.b,false,_,_⟩,some .bool=>true
  |some ⟨.s,false,_,_⟩,some .string=>true
  |_,_=>false
section
variable {P:Program} {ti:TypeId→Option TI} {G:Nat→Prop} {w:World}
def Ywa (P:Program) (ti:TypeId→Option TI) (G:Nat→Prop) (w:World) (n:Nat):Prop:=
 ∀ T t d (X Y:t.ty.den) (us vs:List Value) (x y:Value) (b:Bool) (w':World),n≤d→eqB P ti n T=true→ti T=some t→Js (Iu P G w) (A6 t.ty X) us→Js (Iu P G w) (A6 t.ty Y) vs→Dz (A6 t.ty X) (A6 t.ty Y)=some b→
  (if t.ag then x = .agg us.toArray else us=[x])→(if t.ag then y = .agg vs.toArray else vs=[y])→(Op.equalIn d T x y).run P w' = .ok b w'
def Sr {T:TypeId} {t:TI} (hk:TOk P T t) {us:List Value} {off:Nat} (hl:off+t.ty.sz≤us.length) (w':World):
  ∃ u,(part T us.toArray off).run P w' = .ok u w'∧(if t.ag then u = .agg ((us.drop off).take t.ty.sz).toArray else (us.drop off).take t.ty.sz=[u]):=by
 obtain⟨d,hd,hagg⟩:=Eba hk
 cases ha:t.ag with
 |true=>
  rw[ha]at hagg;refine⟨.agg (us.toArray.extract off (off+t.ty.sz)),?_,?_⟩
  ·unfold part;simp only[Wd,Ml hd hagg,Wb,if_true,Iw (O8 hk),Yc]
  ·simp only[if_true];congr 1;apply Elb;rw[Array.toList_extract];simp[List.extract]
 |false=>
  rw[ha]at hagg;have h1:=L2a hk ha
  have hlt:off<us.length:=by omega
  refine⟨us[off],?_,?_⟩
  ·unfold part;simp only[Wd,Ml hd hagg,Wb,Wq,if_false]
   have:us.toArray[off]? = some us[off]:=by simp[hlt]
   rw[this];rfl
  ·simp only[Wq,if_false];rw[h1,Zi hlt];rfl
def Cea (htok:∀ T t,ti T=some t→TOk P T t) {n:Nat} (ih:Ywa P ti G w n) {d:Nat} (hd:n≤d) {us vs:List Value} (w':World):
  ∀ (fs:List Field) (o:Nat) (ty:Ty) (X Y:ty.den) (b:Bool),Rd ti fs o ty=true→fs.all (λ f => !(f.name == "_")&&eqB P ti n f.type)=true→o+ty.sz≤us.length→o+ty.sz≤vs.length→
   Js (Iu P G w) (A6 ty X) ((us.drop o).take ty.sz)→Js (Iu P G w) (A6 ty Y) ((vs.drop o).take ty.sz)→
   Dz (A6 ty X) (A6 ty Y)=some b→(Op.eqFields d us.toArray vs.toArray fs).run P w' = .ok b w'
 |[],o,ty,X,Y,b,hp,_,_,_,_,_,_=>by cases ty<;>simp[Rd]at hp
 |[f],o,ty,X,Y,b,hp,ha,hl,hl',h0,h0',he=>by
  simp only[Rd,Va]at hp;simp only[D7b,Va,Vz,beq_eq_false_iff_ne]at ha;obtain⟨⟨a1,a2⟩,_⟩:=ha;obtain⟨t,h1,h2⟩:=Ns hp.2;have ho:f.offset=o:=Vg hp.1;subst h2;subst ho;obtain⟨x,hx1,hx2⟩:=Sr (htok _ _ h1) hl w';obtain⟨y,hy1,hy2⟩:=Sr (htok _ _ h1) hl' w';have hr:=ih f.type t d X Y _ _ x y b w' hd a2 h1 h0 h0' he hx2 hy2;simp only[Op.eqFields,ne_eq,a1,not_false_eq_true,if_true,Wd,hx1,hy1,hr,Wb]
  cases b<;>rfl
 |f::g::fs,o,ty,X,Y,b,hp,ha,hl,hl',h0,h0',he=>by
  cases ty<;>first|(simp[Rd]at hp;done)|skip
  rename_i tx tyy;simp only[Rd,Va]at hp;obtain⟨⟨q0,q1⟩,hp⟩:=hp;rw[D7b,Va]at ha;obtain⟨ha0,ha⟩:=ha;simp only[Va,Vz,beq_eq_false_iff_ne]at ha0;obtain⟨a1,a2⟩:=ha0;obtain⟨t,h1,h2⟩:=Ns q1;have ho:f.offset=o:=Vg q0;subst h2;subst ho;have hl2:f.offset+(t.ty.sz+tyy.sz)≤us.length:=hl;have hl2':f.offset+(t.ty.sz+tyy.sz)≤vs.length:=hl';have he2:Dz (A6 t.ty X.1++A6 tyy X.2) (A6 t.ty Y.1++A6 tyy Y.2)=some b:=he;have r0:Js (Iu P G w) (A6 t.ty X.1++A6 tyy X.2) ((us.drop f.offset).take (t.ty.sz+tyy.sz)):=h0;have r0':Js (Iu P G w) (A6 t.ty Y.1++A6 tyy Y.2) ((vs.drop f.offset).take (t.ty.sz+tyy.sz)):=h0';have k1:=r0.take t.ty.sz;have k2:=r0.drop t.ty.sz;have k1':=r0'.take t.ty.sz;have k2':=r0'.drop t.ty.sz;have c1:=Gq t.ty X.1;have c1':=Gq t.ty Y.1;rw[← c1,Dab,c1,D0b,Cab (by omega)]at k1;rw[← c1',Dab,c1',D0b,Cab (by omega)]at k1'
  have c2:∀ l:List Value,List.drop t.ty.sz (List.take (t.ty.sz+tyy.sz) l)=List.take tyy.sz (List.drop t.ty.sz l):=λ l=>by rw[Dbb];congr 1;omega
  rw[c2,Yp]at k2 k2';rw[show List.drop t.ty.sz (A6 t.ty X.1++A6 tyy X.2)=A6 tyy X.2 by rw[← c1,Zl]]at k2;rw[show List.drop t.ty.sz (A6 t.ty Y.1++A6 tyy Y.2)=A6 tyy Y.2 by rw[← c1',Zl]]at k2';obtain⟨b1,b2,e1,e2,rfl⟩:=X6 _ _ _ _ b (by rw[c1,c1']) he2;obtain⟨x,hx1,hx2⟩:=Sr (htok _ _ h1) (us:=us) (off:=f.offset) (by omega) w';obtain⟨y,hy1,hy2⟩:=Sr (htok _ _ h1) (us:=vs) (off:=f.offset) (by omega) w';have hr:=ih f.type t d X.1 Y.1 _ _ x y b1 w' hd a2 h1 k1 k1' e1 hx2 hy2;have hr2:=Cea htok ih hd w' (g::fs) (f.offset+t.ty.sz) tyy X.2 Y.2 b2 hp ha (by omega) (by omega) k2 k2' e2;rw[Op.eqFields];simp only[ne_eq,a1,not_false_eq_true,if_true,Wd,hx1,hy1,hr,Wb];cases b1
  ·rfl
  ·simpa using hr2
def Tma (htok:∀ T t,ti T=some t→TOk P T t):∀ n,Ywa P ti G w n
 |0=>by
  intro T t d X Y us vs x y b w' _ h;simp[eqB]at h
 |n+1=>by
  intro T t d X Y us vs x y b w' hd h hT hl hl' he hx hy;obtain⟨d,rfl⟩:∃ m,d=m+1:=⟨d-1,by omega⟩
  have one:∀ {us:List Value} {x:Value} {z:Lf},us=[x]→Js (Iu P G w) [z] us→Iu P G w z x:=by
   intro us x z e h;subst e
   cases h with
   |cons a h=>exact a
  unfold eqB at h;rw[hT]at h;split at h
  ·rename_i t0 fs e1 hu;cases e1;simp only[Va,Vz]at h;obtain⟨⟨⟨h1,h2⟩,h3⟩,h4⟩:=h;rw[h1]at hx hy;simp only[if_true]at hx hy;subst hx hy
   have hfs:P.fieldsOf T=fs:=by unfold Program.fieldsOf;rw[hu]
   rw[run_equalIn_struct w' d T _ _ (by rw[hfs];exact hu) h2,hfs];have e1:=hl.len;have e2:=hl'.len;rw[Gq]at e1 e2;exact Cea htok (Tma htok n) (by omega) w' fs.toList 0 t.ty X Y b h3 h4 (by omega) (by omega) (by rw[Zf,← e1,Yx];exact hl) (by rw[Zf,← e2,Yx];exact hl') he
  ·rename_i k by_ fo k' e1 hu;cases e1;simp only[Wq,if_false]at hx hy;have hz:=(one hx hl).1;have hz':=(one hy hl').1;subst hz hz'
   have he':(X==Y)=b:=by simpa[A6,Dz] using he
   rw[← he'];simp[Op.equalIn,run_underlying hu]
  ·rename_i by_ fo e1 hu;cases e1;simp only[Wq,if_false]at hx hy;have hz:=(one hx hl).1;have hz':=(one hy hl').1;subst hz hz'
   have he':(X==Y)=b:=by simpa[A6,Dz] using he
   rw[← he'];simp[Op.equalIn,run_underlying hu]
  ·rename_i by_ fo e1 hu;cases e1;simp only[Wq,if_false]at hx hy;have hz:=(one hx hl).1;have hz':=(one hy hl').1;subst hz hz'
   have he':(X==Y)=b:=by simpa[A6,Dz] using he
   rw[← he'];simp[Op.equalIn,run_underlying hu]
  ·cases h
end
def Yxa:∀ (t:Ty) (l l':List Lf) (x:t.den),Na l=true→mkT t l=some (x,l')→l=A6 t x++l'∧Na l'=true:=by
 intro t
 induction t with
 |pr p q ihp ihq=>
  intro l l' x h hm;simp only[mkT]at hm;split at hm
  ·rename_i y l1 h1;split at hm
   ·rename_i z l2 h2;cases hm;obtain⟨e1,a1⟩:=ihp _ _ _ h h1;obtain⟨e2,a2⟩:=ihq _ _ _ a1 h2;refine⟨?_,a2⟩;rw[e1,e2,← Vp];rfl
   ·cases hm
  ·cases hm
 |_=>
  intro l l' x h hm
  cases l with
  |nil=>simp[mkT]at hm
  |cons z l=>
   cases z<;>first|(simp[Na]at h;done)|skip
   rename_i v
   cases v<;>first|(simp[mkT]at hm;done)|skip
   all_goals
    simp only[Na]at h;simp only[mkT]at hm
    first
     |(simp only[Vc,Vy]at hm;obtain⟨rfl,rfl⟩:=hm;exact⟨rfl,h⟩)
     |(
       rename_i k k' n
       by_cases hk:k=k'
       ·subst hk;simp only[decide_true,cond_true,Vc,Vy]at hm;obtain⟨rfl,rfl⟩:=hm;exact⟨rfl,h⟩
       ·simp[hk]at hm)
def Apb {P:Program} {ti:TypeId→Option TI} (htok:∀ T t,ti T=some t→TOk P T t) {T:TypeId} (h:eqB P ti 9 T=true) (hag:(match ti T with|some t=>t.ag|none=>false)=true) (hg:P.eqGuardType P.depth T=false) (G:Nat→Prop) (w w':World) (x y:Operand) (l l':List Lf) (us vs:List Value) (b:Bool)
  (h1:Js (Iu P G w) l us) (h2:Js (Iu P G w) l' vs) (he:Dz l l'=some b) (ha:Na l=true) (ha':Na l'=true) (hk:Mf (ti T) l=true) (hk':Mf (ti T) l'=true):
  (Op.equal T (.agg us.toArray) (.agg vs.toArray)).run P w' = .ok b w'∧(eqGuard .eql T x y (.agg us.toArray) (.agg vs.toArray)).run P w' = .ok () w'∧(eqGuard .neq T x y (.agg us.toArray) (.agg vs.toArray)).run P w' = .ok () w':=by
 refine⟨?_,run_eqGuard_agg w' _ T x y _ _ hg,run_eqGuard_agg w' _ T x y _ _ hg⟩;unfold Mf at hk hk';split at hk
 ·rename_i t hT;rw[hT]at hk' hag;simp only at hk' hag
  have key:∀ {l:List Lf},Na l=true→(mkW t.ty l).isSome=true→∃ X,l=A6 t.ty X:=by
   intro l ha hk;obtain⟨X,hX⟩:=Zk.1 hk;unfold mkW at hX;split at hX
   ·rename_i z hz;cases hX;obtain⟨e1,_⟩:=Yxa t.ty l [] _ ha hz;exact⟨_,by rw[e1,Yf]⟩
   ·cases hX
  obtain⟨X,rfl⟩:=key ha hk;obtain⟨Y,rfl⟩:=key ha' hk';exact Tma htok 9 T t Op.maxDepth X Y us vs _ _ b w' (by decide) h hT h1 h2 he (by rw[hag];rfl) (by rw[hag];rfl)
 ·cases hk
end

section
open Go.RowKit
attribute [local irreducible] C H
def Il:Code→List Code
 |.seq a b=>Il a++Il b
 |.cond _ a b=>Il a++Il b
 |.block _ c=>Il c
 |.loop c=>[c]
 |_=>[]
def Mwa {X:Cx} {E:En}:∀ (c:Code),(∀ d∈Il c,∀ L,E.lp (first d)=some L→C2a X L d)→Kr X E c:=by
 intro c
 induction c with
 |seq a b iha ihb=>exact λ h=>⟨iha λ d hd=>h d (Vx _ hd),ihb λ d hd=>h d (Vo _ hd)⟩
 |cond x a b iha ihb=>exact λ h=>⟨iha λ d hd=>h d (Vx _ hd),ihb λ d hd=>h d (Vo _ hd)⟩
 |block i c ih=>exact λ h=>ih h
 |loop c ih=>exact λ h=>h c (by simp[Il])
 |_=>exact λ h=>trivial
def R8a {X:Cx} {E:En} {c b:Code} (ids:List Nat) (h1:Il c=ids.map λ l=>Ht l b) (h2:(ids.map λ l=>first (Ht l b))=ids) (h3:∀ l∈ids,∀ L,E.lp l=some L→C2a X L (Ht l b)):Kr X E c:=by
 refine Mwa c λ d hd L hL=>?_;rw[h1]at hd;obtain⟨l,hl,rfl⟩:=Yw.1 hd
 have:first (Ht l b)=l:=by
  have key:∀ (is:List Nat),(is.map λ l=>first (Ht l b))=is→∀ l∈is,first (Ht l b)=l:=by
   intro is
   induction is with
   |nil=>intro _ l hl;simp at hl
   |cons i is ih=>
    intro e l hl;simp only[Yb,Yj]at e;rcases Vl.1 hl with rfl|hl
    ·exact e.1
    ·exact ih e.2 l hl
  exact key ids h2 l hl
 rw[this]at hL;exact h3 l hl L hL
def Yya {P:Program} {X:Cx} {E:En} {ti:TypeId→Option TI} {eqs:TypeId→Bool} (hP:X.P=P) (h1:E.nt=X.nt) (h2:E.np=X.np) (h3:E.ti=ti) (h4:E.eq=eqs) (htok:∀ T t,ti T=some t→TOk P T t)
  (heq:∀ T,eqs T=true→eqB P ti 9 T=true∧(match ti T with|some t=>t.ag|none=>false)=true∧P.eqGuardType P.depth T=false) (hc:∀ f en,E.call f=some en→Ly P f en):Tn X E:=by
 refine⟨⟨h1,h2,λ T t h=>?_,λ T h G w w' x y l l' us vs b=>?_⟩,λ f en h=>?_⟩
 ·rw[hP];rw[h3]at h;exact htok T t h
 ·rw[hP,h3];rw[h4]at h;obtain⟨e1,e2,e3⟩:=heq T h;exact Apb htok e1 e2 e3 G w w' x y l l' us vs b
 ·rw[hP];exact hc f en h
def W6a {t:Ty} : {ts:List Ty}→t.den→Den ts→Den (t::ts)
 |[],x,_=>x
 |_::_,x,y=>(x,y)
def Cfa {t:Ty} {ts:List Ty} {x:t.den} {y:Den ts}:Dx (t::ts) (W6a x y)=A6 t x::Dx ts y:=by
 cases ts<;>rfl
inductive Tna (P:Program) (w:World):(ps:List Par)→Den (ps.map Par.ty)→List Value→Prop
 |nil:Tna P w [] () []
 |cons {ag:Bool} {t:Ty} {ps:List Par} {X:t.den} {Y:Den (ps.map Par.ty)} {u:Value} {us vs:List Value} (hn:J6 t=true) (hu:if ag then u = .agg vs.toArray else vs=[u])
   (hr:t.rep P (λ k=>k<w.heap.size) w X vs) (h:Tna P w ps Y us):Tna P w (.val ag t::ps) (W6a (t:=t) (ts:=ps.map Par.ty) X Y) (u::us)
def R9a (w:World):Nat→Lab:=λ k=>if k<w.heap.size then .fz else .no
def Raa {P:Program} {w:World}:∀ {ps:List Par} {x:Den (ps.map Par.ty)} {us:List Value},Tna P w ps x us→us.length=ps.length:=by
 intro ps x us h
 induction h with
 |nil=>rfl
 |cons _ _ _ _ ih=>simp[ih]
def Mxa {P:Program} {w:World} {rg:Nat→Nat×Nat} {nv:Nat} {hs:List Value}:∀ {ps:List Par} {x:Den (ps.map Par.ty)} {us:List Value} (i:Nat),Tna P w ps x us→Lx P (bare (R9a w) w) rg nv hs i ps (Dx _ x) us:=by
 intro ps x us i h
 induction h generalizing i with
 |nil=>trivial
 |@cons ag t ps X Y u us vs hn hu hr h ih=>
  show Lx P (bare (R9a w) w) rg nv hs i (.val ag t::ps) (Dx (t::ps.map Par.ty) (W6a X Y)) (u::us);rw[Cfa];refine⟨⟨vs,hu,?_⟩,ih (i+1)⟩;have h1:=Mi (P:=P) (G:=λ k=>R9a w k = .fz) (w:=w) t X vs (Ty.rep_mono (λ k hk=>by unfold R9a;rw[if_pos hk]) (λ _ _=>rfl) t X vs hr);rw[Tj t X hn];exact A9.ofRep (S:=bare (R9a w) w) h1 _ _
def Rba {P:Program} {f:FuncId} {en:Ent} (hs:Vja P f en) {w:World} {us:List Value} {x:Den (en.ps.map Par.ty)} (hc:Tna P w en.ps x us) (hnv:Nat.ble en.ps.length en.nv=true) {r:Den (en.rs.map Prod.snd++Jf en.ps)} (hr:en.run x=some r)
  (hrs:en.rs=[(.one,.b)]) (hl:∃ ls,Dx _ r=[.sc (.bool true)]::ls):Calls P f us.toArray w (λ e w'=>e = .returned (.bool true)∧Below w.heap.size w w'):=by
 have htk:us.take en.nv=us:=Cfb (by rw[Raa hc];exact Vk hnv)
 have hcalls:=hs x r hr w (R9a w) (λ _=>(0,0)) us (λ k hk=>by
  unfold R9a at hk;split at hk
  ·assumption
  ·exact(hk rfl).elim) (λ k b hk=>by
  unfold R9a at hk
  split at hk<;>cases hk) (Mxa 0 hc)
 rw[htk]at hcalls;refine R7 hcalls ?_;rintro e w' ⟨v,O',rfl,hF,_,hR,_⟩;obtain⟨ls,hl⟩:=hl;rw[hl]at hR;rw[hrs]at hR;obtain⟨l,ls',e1,h1⟩:=hR;cases e1;have h2:A9 P (bare O' w') (λ _ => .tm 1 []) 0 [.sc (.bool true)] [v]:=h1;have hv:v = .bool true:=h2.1.1;subst hv;exact⟨rfl,hF.os,hF.tape,hF.out,hF.size,λ k hk=>(hF.fz k hk (by unfold R9a;rw[if_pos hk])).2⟩
def Rca {H':Type} {enc:TypeId×Value→H'} {P:Program} {w:World} {base:Nat} {spare:Nat→Bool} {held:Bool} {ti:TypeId→Option TI} (htok:∀ T t,ti T=some t→TOk P T t) (hcl:∀ T,Q7 P ti T=true)
  {T:TypeId} {t:TI} (hT:ti T=some t) {v:Value} {d:DataW H'} {p:List MemPlace} {b0:Nat} (hv:Value.okWide P w .any b0 T v) (h:DataW.Trod enc P w base spare held T v d p)
  {ts:List TypeId} {ds:List (DataW H')} (hw:(DataW.weightsEach P ts ds).all (· ≤ reachBytes)=true) {j:Nat} (hj:ts[j]? = some T) (hd:ds[j]? = some d):
  ∃ (X:t.ty.den) (vs:List Value),(if t.ag then v = .agg vs.toArray else vs=[v])∧t.ty.rep P (λ k=>k<w.heap.size) w X vs∧t.ty.fit ti X:=by
 obtain⟨n,hn⟩:=h
 obtain⟨X,r,f⟩:=A4a htok hcl n T t _ _ hT hn (λ m hm=>by
  have:=Yd.1 hw m (DataW.weights_mem_each hj hd m hm)
  exact of_decide_eq_true this)
 refine⟨X,_,?_,r,f⟩;have hc:=hcl T;unfold Q7 at hc;rw[hT]at hc;unfold Value.okWide at hv;split at hc
 ·rename_i e;cases e
 ·rename_i t0 fs e1 hu;cases e1;simp only[Va]at hc;rw[hc.1];rw[hu]at hv;obtain⟨cs,rfl,_⟩:=hv;simp[Value.cells]
 all_goals first
  |(cases hc;done)
  |(rename_i hu;rw[hu]at hv;simp only[Cell.okWide,hu]at hv;rename_i e1;cases e1;simp only[Wq,if_false];have hsz:=Ty.rep_len _ _ _ r;cases v<;>first|(simp[Value.cells];done)|(simp only[Cell.ok,hu]at hv;done)|(simp[Cell.ok,hu]at hv;done))
end

end Go.Proofs.YtcpligincipmhaaGreat.Vf
