import Derived.Test.YtlfoljnopndpeaaGreatMai
import Derived.ChangeArms
import Derived.SizedLaws
import Derived.DataReads
set_option linter.unusedVariables false
set_option linter.unusedSimpArgs false
namespace Go.Proofs.YtlfoljnopndpeaaGreat.Vf
open Go

section
attribute [local irreducible] C H
section
variable {E:En} {A A':Ab} {F:List Nat} {o:Oper} {R:Type} {Kc:List Up→Option R} {r:R}
theorem I7a {B p:Nat} {e:TypeId} {r':Ty} {xs:List r'.den} {i:Int} {K:List Up→Option R} (hB:H B∈F) (h:Rq A B p e r' xs i K none=some r):∃ U,K U=some r∧∀ A',Ag A A' F→∀ {R':Type} (K':List Up→Option R'),Rq A' B p e r' xs i K' none=K' U:=by
 unfold Rq at h
 cases h1:((Js r' || Eu r')&&Nat.blt r'.sz 999 && !(Nat.beq (p / 1000) (B+1))&&Nat.ble 2000 B) with
 |false=>rw [h1] at h; simp at h
 |true=>
  rw [h1,cond_true] at h
  cases h2:decide (0≤i) with
  |false=>rw [h2] at h; simp at h
  |true=>
   rw [h2,cond_true] at h
   cases h3:decide (i<(xs.length:Int)) with
   |false=>rw [h3] at h; simp at h
   |true=>
    rw [h3,cond_true] at h
    refine ⟨_,h,λ A' hA R' K'=>?_⟩
    unfold Rq
    simp only [h1,h2,h3,cond_true,hA _ hB]
theorem W7 {T:TypeId} {x i:Operand} {d:Nat} (ho:o.op = .indexAddr T x i) (hod:o.dst=some d) (hopn:E.opn d=true) (hB:H (2000+d)∈F) (hx:RX A F x) (hi:RX A F i) (h:Ac E o A Kc=some r):Loc E o A F Kc r:=by
 unfold Ac at h
 rw [ho,hod] at h
 simp only [hopn,cond_true] at h
 split at h
 ·rename_i p v k n hs hn
  have hp:p∈F:=I8 hx hs
  split at h
  ·rename_i m e r' xs hgp
   cases hq:(Nat.beq m v&&Ll E T e && !(Nat.beq p d)) with
   |false=>rw [hq] at h; simp at h
   |true=>
    rw [hq,cond_true] at h
    obtain ⟨U,h1,h2⟩:=I7a hB h
    refine ⟨_,h1,λ A' hA R' K'=>?_⟩
    unfold Ac
    rw [ho,hod]
    simp only [hopn,Ai hA hx,Ai hA hi,hs,hn,hA p hp,hgp,hq,cond_true,hA _ hB]
    exact h2 A' hA _
  ·cases h
 ·cases h
theorem W8 {T:TypeId} {x i:Operand} {d:Nat} (ho:o.op = .indexAddr T x i) (hod:o.dst=some d) (hopn:E.opn d=false) (hx:RX A F x) (hi:RX A F i) (h:Ac E o A Kc=some r):Loc E o A F Kc r:=by
 unfold Ac at h
 rw [ho,hod] at h
 simp only [hopn,cond_false] at h
 split at h
 ·rename_i y k n hs hn
  have hrl:=I8 hx hs
  have hal:=hrl.al
  split at h
  ·rename_i p v e r' xs hse
   cases hb:(Ll E T e&&decide (0≤n)) with
   |false=>rw [hb] at h; simp at h
   |true=>
    rw [hb,cond_true] at h
    cases hl:decide (n<(xs.length:Int)) with
    |false=>rw [hl] at h; simp at h
    |true=>
     rw [hl,cond_true] at h
     cases hno:Js r' with
     |true=>
      rw [hno,cond_true] at h
      refine ⟨_,h,λ A' hA R' K'=>?_⟩
      unfold Ac
      rw [ho,hod]
      simp only [hopn,cond_false,Ai hA hx,Ai hA hi,hs,hn,G0 hA hal,hse,hb,hl,hno,cond_true]
     |false=>
      rw [hno,cond_false] at h
      cases hao:Eu r' with
      |false=>rw [hao] at h; simp at h
      |true=>
       rw [hao,cond_true] at h
       refine ⟨_,h,λ A' hA R' K'=>?_⟩
       unfold Ac
       rw [ho,hod]
       simp only [hopn,cond_false,Ai hA hx,Ai hA hi,hs,hn,G0 hA hal,hse,hb,hl,hno,hao,cond_true,cond_false]
  ·rename_i p v pi e r' xs
   have hp:p∈F:=hrl
   cases hb:(Ll E T e&&Nat.beq (get A p).1 v&&decide (0≤n)) with
   |false=>rw [hb] at h; simp at h
   |true=>
    rw [hb,cond_true] at h
    cases hl:decide (n<(xs.length:Int)) with
    |false=>rw [hl] at h; simp at h
    |true=>
     rw [hl,cond_true] at h
     refine ⟨_,h,λ A' hA R' K'=>?_⟩
     unfold Ac
     rw [ho,hod]
     simp only [hopn,cond_false,Ai hA hx,Ai hA hi,hs,hn,hA p hp,hb,hl,cond_true]
  ·rename_i p v hse
   have hp:p∈F:=hrl
   split at h
   ·rename_i m e r0 xs0 i0 b0 vb hgp
    cases hb:(Nat.beq m v&&Ll E T e) with
    |false=>rw [hb] at h; simp at h
    |true=>
     rw [hb,cond_true] at h
     cases hl:decide (n=i0) with
     |false=>rw [hl] at h; simp at h
     |true=>
      rw [hl,cond_true] at h
      refine ⟨_,h,λ A' hA R' K'=>?_⟩
      unfold Ac
      rw [ho,hod]
      simp only [hopn,cond_false,Ai hA hx,Ai hA hi,hs,hn,G0 hA hal,hse,hA p hp,hgp,hb,hl,cond_true]
   ·cases h
  ·rename_i e r' xs hnda hse
   cases hb:(Ll E T e&&decide (0≤n)) with
   |false=>rw [hb] at h; simp at h
   |true=>
    rw [hb,cond_true] at h
    cases hl:decide (n<(xs.length:Int)) with
    |false=>rw [hl] at h; simp at h
    |true=>
     rw [hl,cond_true] at h
     refine ⟨_,h,λ A' hA R' K'=>?_⟩
     unfold Ac
     rw [ho,hod]
     simp only [hopn,cond_false,Ai hA hx,Ai hA hi,hs,hn,G0 hA hal,hse,hb,hl,cond_true]
  ·rename_i e r' xs hne hnda hse
   split at h
   ·rename_i t
    have ht:t∈F:=hx.1
    cases hb:(Ll E T e&&decide (0≤n)) with
    |false=>rw [hb] at h; simp at h
    |true=>
     rw [hb,cond_true] at h
     cases hl:decide (n<(xs.length:Int)) with
     |false=>rw [hl] at h; simp at h
     |true=>
      rw [hl,cond_true] at h
      cases hno:Js r' with
      |true=>
       rw [hno,cond_true] at h
       refine ⟨_,h,λ A' hA R' K'=>?_⟩
       unfold Ac
       rw [ho,hod]
       simp only [hopn,cond_false,Ai hA hx,Ai hA hi,hs,hn,G0 hA hal,hse,hb,hl,hno,cond_true,hA t ht]
      |false=>
       rw [hno,cond_false] at h
       cases hao:Eu r' with
       |false=>rw [hao] at h; simp at h
       |true=>
        rw [hao,cond_true] at h
        refine ⟨_,h,λ A' hA R' K'=>?_⟩
        unfold Ac
        rw [ho,hod]
        simp only [hopn,cond_false,Ai hA hx,Ai hA hi,hs,hn,G0 hA hal,hse,hb,hl,hno,hao,cond_true,cond_false,hA t ht]
   ·cases h
  ·cases h
 ·cases h
theorem I8a {T:TypeId} {x i:Operand} {d:Nat} (ho:o.op = .index T x i) (hod:o.dst=some d) (hx:RX A F x) (hi:RX A F i) (h:Ac E o A Kc=some r):Loc E o A F Kc r:=by
 unfold Ac at h
 rw [ho,hod] at h
 simp only at h
 split at h
 ·rename_i s k n hs hn
  cases hb:(Pc E T&&decide (0≤n)) with
  |false=>rw [hb] at h; simp at h
  |true=>
   rw [hb,cond_true] at h
   cases hl:decide (n<(s.size:Int)) with
   |false=>rw [hl] at h; simp at h
   |true=>
    rw [hl,cond_true] at h
    refine ⟨_,h,λ A' hA R' K'=>?_⟩
    unfold Ac
    rw [ho,hod]
    simp only [Ai hA hx,Ai hA hi,hs,hn,hb,hl,cond_true]
 ·cases h
theorem J4 (hA:Ag A A' F) {x:Option Operand} (hx:∀ y,x=some y→RX A F y):Axa E A' x=Axa E A x:=by
 cases x with
 |none=>rfl
 |some y=>simp only [Axa,Ai hA (hx y rfl)]
theorem I9a {T:TypeId} {x:Operand} {lo hi:Option Operand} {d:Nat} (ho:o.op = .slice T x lo hi none) (hod:o.dst=some d) (hx:RX A F x) (hlo:∀ y,lo=some y→RX A F y) (hhi:∀ y,hi=some y→RX A F y) (h:Ac E o A Kc=some r):Loc E o A F Kc r:=by
 unfold Ac at h
 rw [ho,hod] at h
 simp only at h
 split at h
 ·rename_i s l u hs hl hu
  cases hq:Pc E T with
  |false=>rw [hq] at h; simp at h
  |true=>
   rw [hq,cond_true] at h
   obtain ⟨h1,h2⟩:=M9 h
   refine ⟨_,h1,λ A' hA R' K'=>?_⟩
   unfold Ac
   rw [ho,hod]
   simp only [Ai hA hx,J4 hA hlo,J4 hA hhi,hs,hl,hu,hq,cond_true]
   exact h2 _
 ·rename_i y l u hne hs hl hu
  have hal:=(I8 hx hs).al
  split at h
  ·rename_i e0 r0 xs0 e r' xs hsn
   cases hq:Ll E T e with
   |false=>rw [hq] at h; simp at h
   |true=>
    rw [hq,cond_true] at h
    split at h
    ·obtain ⟨h1,h2⟩:=M9 h
     refine ⟨_,h1,λ A' hA R' K'=>?_⟩
     unfold Ac
     rw [ho,hod]
     simp only [Ai hA hx,J4 hA hlo,J4 hA hhi,hs,hl,hu,G0 hA hal,hsn,hq,cond_true]
     exact h2 _
    ·obtain ⟨h1,h2⟩:=M9 h
     refine ⟨_,h1,λ A' hA R' K'=>?_⟩
     unfold Ac
     rw [ho,hod]
     simp only [Ai hA hx,J4 hA hlo,J4 hA hhi,hs,hl,hu,G0 hA hal,hsn,hq,cond_true]
     exact h2 _
  ·rename_i p v e r' xs hsn
   have hp:p∈F:=I8 hx hs
   cases hq:Ll E T e with
   |false=>rw [hq] at h; simp at h
   |true=>
    rw [hq,cond_true] at h
    cases hmv:E.mv d with
    |true=>
     rw [hmv,cond_true] at h
     split at h
     ·obtain ⟨h1,h2⟩:=M9 h
      refine ⟨_,h1,λ A' hA R' K'=>?_⟩
      unfold Ac
      rw [ho,hod]
      simp only [Ai hA hx,J4 hA hlo,J4 hA hhi,hs,hl,hu,G0 hA hal,hsn,hq,hmv,cond_true]
      exact h2 _
     ·cases h
    |false=>
     rw [hmv,cond_false] at h
     cases hno:Js r' with
     |true=>
      rw [hno,cond_true] at h
      obtain ⟨h1,h2⟩:=M9 h
      refine ⟨_,h1,λ A' hA R' K'=>?_⟩
      unfold Ac
      rw [ho,hod]
      simp only [Ai hA hx,J4 hA hlo,J4 hA hhi,hs,hl,hu,G0 hA hal,hsn,hq,hmv,hno,cond_true,cond_false,Bpa hA hal]
      exact h2 _
     |false=>
      rw [hno,cond_false] at h
      cases hao:Eu r' with
      |false=>rw [hao] at h; simp at h
      |true=>
       rw [hao,cond_true] at h
       obtain ⟨h1,h2⟩:=M9 h
       refine ⟨_,h1,λ A' hA R' K'=>?_⟩
       unfold Ac
       rw [ho,hod]
       simp only [Ai hA hx,J4 hA hlo,J4 hA hhi,hs,hl,hu,G0 hA hal,hsn,hq,hmv,hno,hao,cond_true,cond_false]
       exact h2 _
  ·rename_i p v pi e r' xs
   have hp:p∈F:=I8 hx hs
   cases hq:(Ll E T e&&Nat.beq (get A p).1 v) with
   |false=>rw [hq] at h; simp at h
   |true=>
    rw [hq,cond_true] at h
    obtain ⟨h1,h2⟩:=M9 h
    refine ⟨_,h1,λ A' hA R' K'=>?_⟩
    unfold Ac
    rw [ho,hod]
    simp only [Ai hA hx,J4 hA hlo,J4 hA hhi,hs,hl,hu,hA p hp,hq,cond_true]
    exact h2 _
  ·rename_i e r' xs hnda hsn
   cases hq:Ll E T e with
   |false=>rw [hq] at h; simp at h
   |true=>
    rw [hq,cond_true] at h
    obtain ⟨h1,h2⟩:=M9 h
    refine ⟨_,h1,λ A' hA R' K'=>?_⟩
    unfold Ac
    rw [ho,hod]
    simp only [Ai hA hx,J4 hA hlo,J4 hA hhi,hs,hl,hu,G0 hA hal,hsn,hq,cond_true]
    exact h2 _
  ·cases h
 ·cases h
theorem Z8 {A:Ab} {y:Lf}:∀ u∈Rb A y,Nt u:=by
 intro u hu
 unfold Rb at hu
 split at hu
 ·rename_i p v
  split at hu
  ·rename_i n e r xs hg
   cases hb:Nat.beq n v with
   |false=>rw [hb] at hu; simp at hu
   |true=>
    rw [hb] at hu
    simp only [cond_true,List.mem_singleton] at hu
    subst hu
    exact .inr ⟨e,r,xs,rfl⟩
  ·simp at hu
 ·simp at hu
theorem U8 {A:Ab}:∀ {l:List Lf},∀ u∈Jt A l,Nt u
 |[],u,hu=>by simp [Jt] at hu
 |y::l,u,hu=>by
  unfold Jt at hu
  rcases List.mem_append.1 hu with hu|hu
  ·exact Z8 u hu
  ·exact U8 u hu
theorem Sk {x:Operand} {s:Sv}:∀ u∈gone x s,Nt u:=by
 intro u hu
 unfold gone at hu
 split at hu
 ·rename_i t
  cases hb:Md s with
  |false=>rw [hb] at hu; simp at hu
  |true=>
   rw [hb] at hu
   simp only [cond_true,List.mem_singleton] at hu
   subst hu
   exact .inl rfl
 ·simp at hu
theorem Iaa {y:Lf} {x:Operand}:∀ u∈Asa y x,Nt u:=by
 intro u hu
 unfold Asa at hu
 split at hu
 ·simp only [List.mem_singleton] at hu; subst hu; exact .inl rfl
 ·simp only [List.mem_singleton] at hu; subst hu; exact .inl rfl
 ·simp at hu
theorem Iba {A:Ab} {l:List Lf} {x:Operand} {s:Sv}:∀ u∈Jt A l++gone x s,Nt u:=λ u hu=>(List.mem_append.1 hu).elim (U8 u) (Sk u)
theorem P5:∀ {l:List Lf} {A:Ab} {m:List Lf} {us:List Up},Kz A l=some (m,us)→∀ u∈us,Nt u
 |[],A,m,us,h=>by
  simp only [Kz,Option.some.injEq,Prod.mk.injEq] at h
  obtain ⟨_,rfl⟩:=h
  simp
 |x::l,A,m,us,h=>by
  by_cases hal:∃ p v,x = .al p v
  ·obtain ⟨p,v,rfl⟩:=hal
   simp only [Kz] at h
   split at h
   ·split at h
    ·rename_i m' us' hrec
     simp only [Option.some.injEq,Prod.mk.injEq] at h
     obtain ⟨_,rfl⟩:=h
     intro u hu
     rcases List.mem_cons.1 hu with rfl|hu
     ·exact .inl rfl
     ·exact P5 hrec u hu
    ·cases h
   ·cases h
  ·obtain ⟨m',rfl,h'⟩:=P3 (λ p v e=>hal ⟨p,v,e⟩) h
   exact P5 h'
theorem Ica {A:Ab} {x:Operand} {s:Sv} {m:List Lf} {us:List Up} (h:G4a A x s=some (m,us)):∀ u∈us,Nt u:=by
 unfold G4a at h
 split at h
 ·rename_i m0 vs0 ht
  simp only [Option.some.injEq,Prod.mk.injEq] at h
  obtain ⟨_,rfl⟩:=h
  exact λ u hu=>(List.mem_append.1 hu).elim (Sk u) (P5 ht u)
 ·cases h
theorem Sm {T:TI}:∀ {ps:List (Nat×Operand)} {A A':Ab} {l:List Lf} {us:List Up},Ag A A' F→(∀ p∈ps,RX A F p.2)→Me E A' T l us ps=Me E A T l us ps
 |[],_,_,_,_,_,_=>rfl
 |(i,x)::ps,A,A',l,us,hA,hp=>by
  have hx:RX A F x:=hp (i,x) (by simp)
  have hps:∀ p∈ps,RX A F p.2:=λ p hm=>hp p (List.mem_cons_of_mem _ hm)
  have e0:∀ l us,Me E A' T l us ps=Me E A T l us ps:=λ l us=>Sm hA hps
  unfold Me
  cases hn:nth T.fo i with
  |none=>rfl
  |some o=>
   obtain ⟨off,z,ag⟩:=o
   simp only [Ai hA hx]
   have gen:∀ {s:Sv},opT E 0 A x=some s→(let m:=(parts s).map (Jy A'); bif A3 m&&Nat.beq m.length z&&Nat.ble (off+z) l.length then Me E (ups A' (Jt A' (parts s)++gone x s)) T (setAll l off m) (us++(Jt A' (parts s)++gone x s)) ps else none) =
     (let m:=(parts s).map (Jy A); bif A3 m&&Nat.beq m.length z&&Nat.ble (off+z) l.length then Me E (ups A (Jt A (parts s)++gone x s)) T (setAll l off m) (us++(Jt A (parts s)++gone x s)) ps else none):=by
    intro s hs
    have hal:=RL.als (Nu hx hs)
    simp only [Pt hA hal,Oe hA hal]
    rw [Sm (hA.ups (U:=Jt A (parts s)++gone x s)) (λ p hm=>(hps p hm).ups Iba)]
   split
   ·cases Nat.beq z 1 with
    |false=>rfl
    |true=>
     simp only [cond_true]
     split
     ·exact e0 _ _
     ·rfl
   ·cases hs:opT E 0 A x with
    |none=>rfl
    |some s=>exact gen hs
theorem Ida {T:TypeId} {ps:Array (Nat×Operand)} {d:Nat} (ho:o.op = .build T ps) (hod:o.dst=some d) (hp:∀ p∈ps.toList,RX A F p.2) (h:Ac E o A Kc=some r):Loc E o A F Kc r:=by
 unfold Ac at h
 rw [ho,hod] at h
 simp only at h
 split at h
 ·rename_i ti hT
  split at h
  ·rename_i l us hb
   cases ha:ti.ag with
   |false=>rw [ha] at h; simp at h
   |true=>
    rw [ha,cond_true] at h
    refine ⟨_,h,λ A' hA R' K'=>?_⟩
    unfold Ac
    rw [ho,hod]
    simp only [hT,Sm hA hp,hb,ha,cond_true]
  ·cases h
 ·cases h
theorem Dka {e:TypeId} {t:Ty}:∀ {ps:List (Nat×Operand)} {A A':Ab} {i:Nat},Ag A A' F→(∀ p∈ps,RX A F p.2)→Xh E A' e t i ps=Xh E A e t i ps
 |[],_,_,_,_,_=>rfl
 |(j,x)::ps,A,A',i,hA,hp=>by
  have hx:RX A F x:=hp (j,x) (by simp)
  have hps:∀ p∈ps,RX A F p.2:=λ p hm=>hp p (List.mem_cons_of_mem _ hm)
  unfold Xh
  cases Nat.beq i j with
  |false=>rfl
  |true=>
   simp only [cond_true,Ai hA hx]
   cases hs:opT E e A x with
   |none=>rfl
   |some s=>
    have hal:=RL.als (Nu hx hs)
    simp only [Pt hA hal,Dia hA hal,Oe hA hal]
    rw [Dka (hA.ups (U:=Jt A (parts s)++gone x s)) (λ p hm=>(hps p hm).ups Iba)]
theorem Dla {e:TypeId} {t:Ty}:∀ {ps:List (Nat×Operand)} {A A':Ab} {i:Nat},Ag A A' F→(∀ p∈ps,RX A F p.2)→Xi E A' e t i ps=Xi E A e t i ps
 |[],_,_,_,_,_=>rfl
 |(j,x)::ps,A,A',i,hA,hp=>by
  have hx:RX A F x:=hp (j,x) (by simp)
  have hps:∀ p∈ps,RX A F p.2:=λ p hm=>hp p (List.mem_cons_of_mem _ hm)
  unfold Xi
  cases Nat.beq i j with
  |false=>rfl
  |true=>
   simp only [cond_true,Ai hA hx]
   cases hs:opT E e A x with
   |none=>rfl
   |some s=>
    have hal:=RL.als (Nu hx hs)
    simp only [I1a hA hal]
    cases hgv:G4a A x s with
    |none=>rfl
    |some q=>
     obtain ⟨m,us⟩:=q
     simp only
     rw [Dla (hA.ups (U:=us)) (λ p hm=>(hps p hm).ups (Ica hgv))]
theorem Ti {T:TypeId} {n:Nat} {ps:Array (Nat×Operand)} {d:Nat} (ho:o.op = .buildSlice T n ps) (hod:o.dst=some d) (hp:∀ p∈ps.toList,RX A F p.2) (h:Ac E o A Kc=some r):Loc E o A F Kc r:=by
 unfold Ac at h
 rw [ho,hod] at h
 simp only at h
 split at h
 ·rename_i e r' b f hT
  cases hb:(Nat.beq n ps.size&&Nat.ble (n * r'.sz) 16777216&&(E.ti e).isSome) with
  |false=>rw [hb] at h; simp at h
  |true=>
   rw [hb,cond_true] at h
   split at h
   ·rename_i hh
    cases hno:Js r' with
    |false=>rw [hno] at h; simp at h
    |true=>
     rw [hno,cond_true] at h
     split at h
     ·rename_i ys us hr
      refine ⟨_,h,λ A' hA R' K'=>?_⟩
      unfold Ac
      rw [ho,hod]
      simp only [hT,hb,hh,hno,cond_true,Dka hA hp,hr]
     ·cases h
   ·rename_i r2 hh
    cases hb2:(decide (shp r2=shp r')&&Eu r2) with
    |false=>rw [hb2] at h; simp at h
    |true=>
     rw [hb2,cond_true] at h
     split at h
     ·rename_i ys us hr
      refine ⟨_,h,λ A' hA R' K'=>?_⟩
      unfold Ac
      rw [ho,hod]
      simp only [hT,hb,hh,hb2,cond_true,Dla hA hp,hr]
     ·cases h
 ·cases h
theorem W9 {T:TypeId} {x y:Operand} {d:Nat} (ho:o.op = .makeSlice T x y) (hod:o.dst=some d) (hx:RX A F x) (hy:RX A F y) (h:Ac E o A Kc=some r):Loc E o A F Kc r:=by
 unfold Ac at h
 rw [ho,hod] at h
 simp only at h
 split at h
 ·rename_i e r' b f n m hT hs hm
  split at h
  ·rename_i te he
   cases hb:(Pb te.ty r'&&decide (n=m)) with
   |false=>rw [hb] at h; simp at h
   |true=>
    rw [hb,cond_true] at h
    cases h0:decide (0≤n) with
    |false=>rw [h0] at h; simp at h
    |true=>
     rw [h0,cond_true] at h
     cases h1:decide (n * te.by_≤140737488355328) with
     |false=>rw [h1] at h; simp at h
     |true=>
      rw [h1,cond_true] at h
      split at h
      ·rename_i hh
       refine ⟨_,h,λ A' hA R' K'=>?_⟩
       unfold Ac
       rw [ho,hod]
       simp only [hT,Ai hA hx,Ai hA hy,hs,hm,he,hb,h0,h1,hh,cond_true]
      ·rename_i r2 hh
       cases h2:decide (shp r2=shp r') with
       |false=>rw [h2] at h; simp at h
       |true=>
        rw [h2,cond_true] at h
        refine ⟨_,h,λ A' hA R' K'=>?_⟩
        unfold Ac
        rw [ho,hod]
        simp only [hT,Ai hA hx,Ai hA hy,hs,hm,he,hb,h0,h1,hh,h2,cond_true]
  ·cases h
 ·cases h
theorem Sn (hA:Ag A A' F):∀ {xs:List Operand} {Ts:List TypeId},(∀ x∈xs,RX A F x)→Q8 E Ts A' xs=Q8 E Ts A xs
 |[],_,_=>by simp only [Q8]
 |x::xs,[],_=>by simp only [Q8]
 |x::xs,T::Ts,hx=>by
  unfold Q8
  simp only [Ai hA (hx x (by simp)),Sn hA (xs:=xs) (Ts:=Ts) (λ y hy=>hx y (List.mem_cons_of_mem _ hy))]
theorem Bsa:∀ {xs:List Operand} {Ts:List TypeId} {ss:List Sv},(∀ x∈xs,RX A F x)→Q8 E Ts A xs=some ss→∀ s∈ss,∀ y∈parts s,RL A F y
 |[],_,ss,_,h=>by
  simp only [Q8,Option.some.injEq] at h
  subst h
  intro s hs
  simp at hs
 |x::xs,[],ss,_,h=>by simp [Q8] at h
 |x::xs,T::Ts,ss,hx,h=>by
  simp only [Q8] at h
  split at h
  ·rename_i s hs
   split at h
   ·rename_i ss' hss
    simp only [Option.some.injEq] at h
    subst h
    intro s' hs' y hy
    rcases List.mem_cons.1 hs' with rfl|hs'
    ·exact Nu (hx x (by simp)) hs y hy
    ·exact Bsa (λ y hy=>hx y (List.mem_cons_of_mem _ hy)) hss s' hs' y hy
   ·cases h
  ·cases h
theorem Oya {c:Call} (ho:o.op = .call c) (hc:c.callee = .builtin .len) (hx:∀ x∈c.args.toList,RX A F x) (h:Ac E o A Kc=some r):Loc E o A F Kc r:=by
 unfold Ac at h
 rw [ho] at h
 simp only [hc] at h
 split at h
 ·rename_i T x d hT hxs hod
  have hx0:RX A F x:=hx x (by rw [hxs]; simp)
  split at h
  ·rename_i y hs
   have hal:=(I8 hx0 hs).al
   split at h
   ·rename_i s hse
    cases hb:Pc E T with
    |false=>rw [hb] at h; simp at h
    |true=>
     rw [hb,cond_true] at h
     refine ⟨_,h,λ A' hA R' K'=>?_⟩
     unfold Ac
     rw [ho,hod]
     simp only [hc,hT,hxs,Ai hA hx0,hs,G0 hA hal,hse,hb,cond_true]
   ·rename_i p v pi e r' xs hse
    have hy:y = .da p v pi e r' xs:=by
     cases y<;>first|exact hse|skip
     simp only [Ky] at hse
     split at hse
     ·rename_i n _ _ _ _
      cases hbb:Nat.beq n _<;>rw [hbb] at hse<;>simp at hse
     ·rename_i n _ _ _ _
      cases hbb:Nat.beq n _<;>rw [hbb] at hse<;>simp at hse
     ·cases hse
    have hp:p∈F:=by have:=I8 hx0 hs; rw [hy] at this; exact this
    cases hb:(Ll E T e&&Nat.beq (get A p).1 v) with
    |false=>rw [hb] at h; simp at h
    |true=>
     rw [hb,cond_true] at h
     refine ⟨_,h,λ A' hA R' K'=>?_⟩
     unfold Ac
     rw [ho,hod]
     simp only [hc,hT,hxs,Ai hA hx0,hs,G0 hA hal,hse,hA p hp,hb,cond_true]
   ·rename_i e r' xs hse
    cases hb:Ll E T e with
    |false=>rw [hb] at h; simp at h
    |true=>
     rw [hb,cond_true] at h
     refine ⟨_,h,λ A' hA R' K'=>?_⟩
     unfold Ac
     rw [ho,hod]
     simp only [hc,hT,hxs,Ai hA hx0,hs,G0 hA hal,hse,hb,cond_true]
   ·rename_i e r' xs hse
    cases hb:Ll E T e with
    |false=>rw [hb] at h; simp at h
    |true=>
     rw [hb,cond_true] at h
     refine ⟨_,h,λ A' hA R' K'=>?_⟩
     unfold Ac
     rw [ho,hod]
     simp only [hc,hT,hxs,Ai hA hx0,hs,G0 hA hal,hse,hb,cond_true]
   ·cases h
  ·cases h
 ·cases h
theorem Oza {c:Call} (ho:o.op = .call c) (hc:c.callee = .builtin .min) (hx:∀ x∈c.args.toList,RX A F x) (h:Ac E o A Kc=some r):Loc E o A F Kc r:=by
 unfold Ac at h
 rw [ho] at h
 simp only [hc] at h
 split at h
 ·rename_i k n l d hs hod
  obtain ⟨v,h1,h2⟩:=U7 h
  refine ⟨_,h1,λ A' hA R' K'=>?_⟩
  unfold Ac
  rw [ho,hod]
  simp only [hc,Sn hA hx,hs]
  exact h2 _
 ·cases h
theorem P0a {c:Call} (ho:o.op = .call c) (hc:c.callee = .builtin .max) (hx:∀ x∈c.args.toList,RX A F x) (h:Ac E o A Kc=some r):Loc E o A F Kc r:=by
 unfold Ac at h
 rw [ho] at h
 simp only [hc] at h
 split at h
 ·rename_i k n l d hs hod
  obtain ⟨v,h1,h2⟩:=U7 h
  refine ⟨_,h1,λ A' hA R' K'=>?_⟩
  unfold Ac
  rw [ho,hod]
  simp only [hc,Sn hA hx,hs]
  exact h2 _
 ·cases h
theorem F5a {c:Call} (ho:o.op = .call c) (hc:c.callee = .builtin .append) (hx:∀ x∈c.args.toList,RX A F x) (h:Ac E o A Kc=some r):Loc E o A F Kc r:=by
 unfold Ac at h
 rw [ho] at h
 simp only [hc] at h
 split at h
 ·rename_i T T' x y d hT hxs hod
  have hx0:RX A F x:=hx x (by rw [hxs]; simp)
  have hy0:RX A F y:=hx y (by rw [hxs]; simp)
  split at h
  ·rename_i u w hsu hsw
   have hau:=(I8 hx0 hsu).al
   have hrw:=I8 hy0 hsw
   split at h
   ·rename_i e r' xs hsu'
    split at h
    ·rename_i r2 hh
     have hy1:RX (ups A (Asa u x)) F y:=hy0.ups Iaa
     split at h
     ·rename_i w2 hsw2
      have haw2:=(I8 hy1 hsw2).al
      split at h
      ·rename_i e' r3 ys xs2 te hsn hcx hte
       split at h
       ·rename_i ys2 hcy
        cases hq:(Eu r2&&Nat.beq e e'&&Ll E T e&&Nat.beq T T') with
        |false=>rw [hq] at h; simp at h
        |true=>
         rw [hq,cond_true] at h
         cases hq2:Nat.ble ((xs2.length+ys2.length) * te.by_) 140737488355328 with
         |false=>rw [hq2] at h; simp at h
         |true=>
          rw [hq2,cond_true] at h
          refine ⟨_,h,λ A' hA R' K'=>?_⟩
          have hA1:=hA.ups (U:=Asa u x)
          unfold Ac
          rw [ho,hod]
          simp only [hc,hT,hxs,Ai hA hx0,Ai hA hy0,hsu,hsw,G0 hA hau,hsu',hh,Ai hA1 hy1,hsw2,G0 hA1 haw2,hsn,hcx,hte,hcy,hq,hq2,cond_true]
       ·cases h
      ·cases h
     ·cases h
    ·rename_i hh
     cases hno:Js r' with
     |false=>rw [hno] at h; simp at h
     |true=>
     rw [hno,cond_true] at h
     split at h
     ·rename_i e' r'' ys hasl
      split at h
      ·rename_i ys' te hcast hte
       cases hq:(Nat.beq e e'&&Ll E T e&&Nat.beq T T') with
       |false=>rw [hq] at h; simp at h
       |true=>
        rw [hq,cond_true] at h
        cases hq2:Nat.ble ((xs.length+ys'.length) * te.by_) 140737488355328 with
        |false=>rw [hq2] at h; simp at h
        |true=>
         rw [hq2,cond_true] at h
         refine ⟨_,h,λ A' hA R' K'=>?_⟩
         unfold Ac
         rw [ho,hod]
         simp only [hc,hT,hxs,Ai hA hx0,Ai hA hy0,hsu,hsw,G0 hA hau,Dha hA hrw,hsu',hh,hno,hasl,hcast,hte,hq,hq2,cond_true]
      ·cases h
     ·rename_i hasl
      split at h
      ·rename_i s
       split at h
       ·rename_i ys' f hcast hte
        cases hq:(Ll E T e&&Pc E T'&&Nat.ble ((xs.length+s.size) * 1) 140737488355328) with
        |false=>rw [hq] at h; simp at h
        |true=>
         rw [hq,cond_true] at h
         refine ⟨_,h,λ A' hA R' K'=>?_⟩
         unfold Ac
         rw [ho,hod]
         simp only [hc,hT,hxs,Ai hA hx0,Ai hA hy0,hsu,hsw,G0 hA hau,Dha hA hrw,hsu',hh,hno,hasl,hcast,hte,hq,cond_true]
       ·cases h
      ·cases h
   ·cases h
  ·cases h
 ·cases h
theorem Z9 (hA:Ag A A' F):∀ {ps:List Par} {ss:List Sv},(∀ s∈ss,∀ y∈parts s,RL A F y)→Ni A' ps ss=Ni A ps ss
 |[],[],_=>rfl
 |[],_::_,_=>rfl
 |p::_,[],_=>by cases p<;>rfl
 |.ptr _ _::_,_::_,_=>rfl
 |.hid _ _::_,_::_,_=>rfl
 |.rd _::_,_::_,_=>rfl
 |.fn _ _::_,_::_,_=>rfl
 |.vw _ _::_,_::_,_=>rfl
 |.val ag t::ps,s::ss,hs=>by
  unfold Ni
  rw [Lea hA (hs s (by simp)),Z9 hA (λ s' hs'=>hs s' (List.mem_cons_of_mem _ hs'))]
theorem F6a {y:Lf}:∀ u∈Aua y,Nt u:=by
 intro u hu
 unfold Aua at hu
 split at hu
 ·simp only [List.mem_singleton] at hu; subst hu; exact .inl rfl
 ·simp at hu
theorem N5:∀ {ts:List Ty} {l:List Lf} {A:Ab} {m:List Lf} {us:List Up},G6 A ts l=some (m,us)→∀ u∈us,Nt u
 |[],[],A,m,us,h=>by
  simp only [G6,Option.some.injEq,Prod.mk.injEq] at h
  obtain ⟨_,rfl⟩:=h
  simp
 |[],_::_,A,m,us,h=>by simp [G6] at h
 |t::ts,[],A,m,us,h=>by cases t<;>simp [G6] at h
 |t::ts,x::l,A,m,us,h=>by
  cases t with
  |ow e r=>
   simp only [G6] at h
   split at h
   ·split at h
    ·rename_i hr
     simp only [Option.some.injEq,Prod.mk.injEq] at h
     obtain ⟨_,rfl⟩:=h
     exact λ u hu=>(List.mem_append.1 hu).elim (F6a u) (N5 hr u)
    ·cases h
   ·cases h
  |_=>
   simp only [G6] at h
   split at h
   ·rename_i hr
    simp only [Option.some.injEq,Prod.mk.injEq] at h
    obtain ⟨_,rfl⟩:=h
    exact λ u hu=>(List.mem_append.1 hu).elim (Z8 u) (N5 hr u)
   ·cases h
theorem Lla {x:Operand} {s:Sv} {t:Ty} (hA:Ag A A' F) (hal:∀ y∈parts s,AL F y):Q7 A' x s t=Q7 A x s t:=by
 unfold Q7 Q6
 rw [Nv (hA.ups (U:=gone x s)) hal]
theorem F7a {x:Operand} {s:Sv} {t:Ty} {m:List Lf} {us:List Up} (h:Q7 A x s t=some (m,us)):∀ u∈us,Nt u:=by
 unfold Q7 Q6 at h
 split at h
 ·rename_i m0 vs0 ht
  cases hst:A3 m0 with
  |false=>rw [hst] at h; simp at h
  |true=>
   rw [hst] at h
   simp only [cond_true,Option.some.injEq,Prod.mk.injEq] at h
   obtain ⟨_,rfl⟩:=h
   exact λ u hu=>(List.mem_append.1 hu).elim (Sk u) (N5 ht u)
 ·cases h
theorem Dma {b v:Nat} {t t':Ty} (hA:Ag A A' F) (hb:RB A F b 0):Ow A' b v t t'=Ow A b v t t':=by
 obtain ⟨h1,h2⟩:=hb
 unfold Ow
 rw [hA _ h1]
 split
 ·rename_i n m hg
  have hcell:∀ i,i<m→C b (0+i)∈F∧∀ p v,(get A (C b (0+i))).2 = .one (.al p v)→p∈F:=λ i hi=>by
   rw [Nat.zero_add]
   exact h2 m (by rw [hg]) i (Nat.zero_le _) hi
  have hac:=U6 hcell
  have e1:cellsOf A' b 0 m=cellsOf A b 0 m:=Qo hA (λ i hi=>(hcell i hi).1)
  rw [e1,Nv hA hac]
 ·rfl
theorem U9 {b v:Nat} {t t':Ty} {m:List Lf} {us:List Up} (h:Ow A b v t t'=some (m,us)):∀ u∈us,Nt u:=by
 unfold Ow at h
 split at h
 ·rename_i n hd hp
  cases hq:(Nat.beq n v&&Nat.beq hd t.sz&&Nat.beq hd t'.sz) with
  |false=>rw [hq] at h; simp at h
  |true=>
   rw [hq,cond_true] at h
   split at h
   ·rename_i l us0 hx
    cases hst:A3 l with
    |false=>rw [hst] at h; simp at h
    |true=>
     rw [hst] at h
     simp only [cond_true,Option.some.injEq,Prod.mk.injEq] at h
     obtain ⟨_,rfl⟩:=h
     exact N5 hx
   ·cases h
 ·cases h
theorem So (hA:Ag A A' F):∀ {bs:List (Nat×Nat)},(∀ c∈bs,RB A F c.1 0)→Ls A' bs=Ls A bs
 |[],_=>rfl
 |c::bs,h=>by
  unfold Ls
  rw [hA _ (h c (by simp)).1,So hA (λ c hc=>h c (List.mem_cons_of_mem _ hc))]
theorem Iea (hA:Ag A A' F) {b:Nat}:∀ {ts:List Ty} {j:Nat} {l:List Lf},(∀ y∈l,AL F y)→Ava A' b j ts l=Ava A b j ts l
 |[],_,[],_=>rfl
 |[],_,_::_,_=>rfl
 |t::ts,_,[],_=>by cases t<;>rfl
 |t::ts,j,x::l,h=>by
  have hx:=h x (by simp)
  have ih:=Iea hA (b:=b) (ts:=ts) (j:=j+1) (l:=l) (λ y hy=>h y (List.mem_cons_of_mem _ hy))
  cases t with
  |ow e r=>
   cases x with
   |al p v=>simp only [Ava,ih,G0 hA hx,hA p hx]
   |_=>rfl
  |_=>simp only [Ava,ih,G0 hA hx]
def RV (A:Ab) (F:List Nat) (ss:List Sv):Prop:=∀ ys,Sv.agg ys∈ss→∀ p v,Lf.al p v∈ys→1000≤p→RB A F (p / 1000 - 1) 0
theorem Ua:∀ {ys:List Lf} {b:Nat},Xe ys=some b→∃ p v,Lf.al p v∈ys∧1000≤p∧b=p / 1000 - 1
 |[],b,h=>by simp [Xe] at h
 |y::ys,b,h=>by
  have rest:Xe ys=some b→∃ p v,Lf.al p v∈y::ys∧1000≤p∧b=p / 1000 - 1:=λ h=>by
   obtain ⟨p,v,h1,h2⟩:=Ua h
   exact ⟨p,v,List.mem_cons_of_mem _ h1,h2⟩
  cases y with
  |al p v=>
   simp only [Xe] at h
   cases hq:Nat.ble 1000 p with
   |false=>rw [hq] at h; exact rest h
   |true=>
    rw [hq] at h
    simp only [cond_true,Option.some.injEq] at h
    exact ⟨p,v,by simp,Nat.le_of_ble_eq_true hq,h.symm⟩
  |_=>exact rest h
theorem Ifa (hA:Ag A A' F):∀ {ps:List Par} {ss:List Sv},RV A F ss→Xf A' ps ss=Xf A ps ss∧∀ c∈Xf A ps ss,RB A F c.1 0
 |[],ss,_=>⟨rfl,by simp [Xf]⟩
 |p::ps,[],_=>by cases p<;>exact ⟨rfl,by simp [Xf]⟩
 |p::ps,s::ss,h=>by
  obtain ⟨h1,h2⟩:=Ifa hA (ps:=ps) (ss:=ss) (λ ys hy=>h ys (List.mem_cons_of_mem _ hy))
  cases p with
  |vw t h0=>
   cases s with
   |agg ys=>
    simp only [Xf]
    cases hb:Xe ys with
    |none=>exact ⟨h1,h2⟩
    |some b=>
     obtain ⟨p,v,e1,e2,rfl⟩:=Ua hb
     have hrb:=h ys (by simp) p v e1 e2
     refine ⟨by simp only [h1,hA _ hrb.1],λ c hc=>?_⟩
     rcases List.mem_cons.1 hc with rfl|hc
     ·exact hrb
     ·exact h2 c hc
   |_=>exact ⟨h1,h2⟩
  |_=>cases s<;>exact ⟨h1,h2⟩
theorem Dna (hA:Ag A A' F) {cb hb:List (Nat×Nat)} {nv:Nat} {x:Operand} {p:Par} {s:Sv} (hhb:∀ c∈hb,RB A F c.1 0) (hs:∀ y∈parts s,RL A F y):R3 A' cb hb nv x p s=R3 A cb hb nv x p s∧∀ l u b,R3 A cb hb nv x p s=some (l,u,b)→∀ v∈u,Nt v:=by
 have hal:=RL.als hs
 constructor
 ·unfold R3
  split
  ·rename_i t h0 ys
   cases hn:nth hb (h0 - nv) with
   |none=>rfl
   |some c=>
    rw [Jf] at hn
    simp only [hA _ (hhb c (List.mem_of_getElem? hn)).1,Iea hA (show ∀ y∈ys,AL F y from hal)]
  ·simp only [Lla hA hal]
  ·rename_i b v
   rw [Dma hA (show RB A F b 0 from hs (.bp b v 0) (by simp [parts]))]
  ·rename_i b v
   rw [Dma hA (show RB A F b 0 from hs (.bp b v 0) (by simp [parts]))]
  ·rfl
  ·rename_i F0 m F' bs
   rw [So hA (show ∀ c∈bs,RB A F c.1 0 from hs (.fn F' bs) (by simp [parts]))]
  ·rfl
 ·intro l u b h v hv
  unfold R3 at h
  split at h
  ·rename_i t h0 ys
   split at h
   ·split at h
    ·rename_i n m _
     generalize (Nat.ble nv h0&&Nat.beq n _&&Nat.beq m t.sz)=bb at h
     cases bb with
     |false=>simp at h
     |true=>
      rw [cond_true] at h
      split at h
      ·simp only [Option.some.injEq,Prod.mk.injEq] at h
       obtain ⟨_,rfl,_⟩:=h
       simp at hv
      ·cases h
    ·cases h
   ·cases h
  ·rename_i ag t
   cases hf:Jz ag s with
   |false=>rw [hf] at h; simp at h
   |true=>
    rw [hf,cond_true] at h
    split at h
    ·rename_i hgive
     simp only [Option.some.injEq,Prod.mk.injEq] at h
     obtain ⟨_,rfl,_⟩:=h
     exact F7a hgive v hv
    ·cases h
  ·split at h
   ·rename_i hgive
    simp only [Option.some.injEq,Prod.mk.injEq] at h
    obtain ⟨_,rfl,_⟩:=h
    exact U9 hgive v hv
   ·cases h
  ·split at h
   ·rename_i hgive
    simp only [Option.some.injEq,Prod.mk.injEq] at h
    obtain ⟨_,rfl,_⟩:=h
    exact U9 hgive v hv
   ·cases h
  ·rename_i t r y
   cases hf:(decide (shp r=shp t)&&Js t) with
   |false=>rw [hf] at h; simp at h
   |true=>
    rw [hf] at h
    simp only [cond_true,Option.some.injEq,Prod.mk.injEq] at h
    obtain ⟨_,rfl,_⟩:=h
    simp at hv
  ·rename_i F0 m F' bs
   cases hf:(Nat.beq F0 F'&&Nat.beq m bs.length&&Mta bs cb&&Ls A bs) with
   |false=>rw [hf] at h; simp at h
   |true=>
    rw [hf] at h
    simp only [cond_true,Option.some.injEq,Prod.mk.injEq] at h
    obtain ⟨_,rfl,_⟩:=h
    simp at hv
  ·cases h
theorem Sp {cb hb:List (Nat×Nat)} {nv:Nat}:∀ {ps:List Par} {xs:List (TypeId×Operand)} {hs:List (Nat×Nat)} {A A':Ab},Ag A A' F→(∀ x∈xs,RX A F x.2)→(∀ h∈hs,RB A F h.1 0)→(∀ c∈hb,RB A F c.1 0)→Lt E cb hb nv A' xs hs ps=Lt E cb hb nv A xs hs ps
 |[],[],[],_,_,_,_,_,_=>rfl
 |[],[],_::_,_,_,_,_,_,_=>rfl
 |[],_::_,_,_,_,_,_,_,_=>rfl
 |_::_,[],[],_,_,_,_,_,_=>rfl
 |p::ps,x::xs,hs,A,A',hA,hx,hb',hhb=>by
  have hx0:RX A F x.2:=hx x (by simp)
  unfold Lt
  rw [Ai hA hx0]
  cases hs:opT E x.1 A x.2 with
  |none=>rfl
  |some s=>
   simp only
   obtain ⟨h1,h2⟩:=Dna hA (cb:=cb) (hb:=hb) (nv:=nv) (x:=x.2) (p:=p) hhb (Nu hx0 hs)
   rw [h1]
   cases ha:R3 A cb hb nv x.2 p s with
   |none=>rfl
   |some q=>
    obtain ⟨l,u,b⟩:=q
    simp only
    rw [Sp (hA.ups (U:=u)) (λ y hy=>(hx y (List.mem_cons_of_mem _ hy)).ups (h2 l u b ha)) (λ c hc=>(hb' c hc).ups (h2 l u b ha)) (λ c hc=>(hhb c hc).ups (h2 l u b ha))]
 |p::ps,[],h::hs,A,A',hA,hx,hb',hhb=>by
  unfold Lt
  obtain ⟨h1,h2⟩:=Dna hA (cb:=cb) (hb:=hb) (nv:=nv) (x := .func 0) (p:=p) (s := .one (.bp h.1 h.2 0)) (F:=F) hhb (λ y hy=>by
   simp only [parts,List.mem_singleton] at hy
   subst hy
   exact hb' h (by simp))
  rw [h1]
  cases ha:R3 A cb hb nv (.func 0) p (.one (.bp h.1 h.2 0)) with
  |none=>rfl
  |some q=>
   obtain ⟨l,u,b⟩:=q
   simp only
   rw [Sp (hA.ups (U:=u)) (λ y hy=>by simp at hy) (λ c hc=>(hb' c (List.mem_cons_of_mem _ hc)).ups (h2 l u b ha)) (λ c hc=>(hhb c hc).ups (h2 l u b ha))]
theorem Bta:∀ {ss:List Sv},(∀ s∈ss,∀ y∈parts s,RL A F y)→∀ c∈Gca ss,RB A F c.1 0
 |[],_,c,hc=>by simp [Gca] at hc
 |s::ss,h,c,hc=>by
  have h2:=λ s' hs'=>h s' (List.mem_cons_of_mem _ hs')
  cases s with
  |one z=>
   cases z with
   |fn F' bs=>exact (show ∀ c∈bs,RB A F c.1 0 from h (.one (.fn F' bs)) (by simp) (.fn F' bs) (by simp [parts])) c hc
   |_=>exact Bta h2 c hc
  |_=>exact Bta h2 c hc
theorem Doa (hA:Ag A A' F):∀ {xs:List Operand},(∀ x∈xs,RX A F x)→Xj E A' xs=Xj E A xs
 |[],_=>rfl
 |x::xs,h=>by
  unfold Xj
  rw [Ai hA (h x (by simp)),Doa hA (λ y hy=>h y (List.mem_cons_of_mem _ hy))]
theorem Dpa {rs:List (RK×Ty)} {ls:List (List Lf)} {d:Option Nat} (hA:∀ d',d=some d'→get A' (H d')=get A (H d')):Ox A' rs ls d=Ox A rs ls d:=by
 unfold Ox
 split<;>first|rfl|skip
 ·rename_i d _ _ _ _ _
  unfold Gda
  rw [hA _ rfl]
theorem Zv {en:Ent} {xs:List (TypeId×Operand)} {cs:List (Nat×Nat)} {ss:List Sv} {d:Option Nat} (hd:∀ d',d=some d'→H d'∈F) (hx:∀ x∈xs,RX A F x.2) (hcs:∀ c∈cs,RB A F c.1 0) (hrl:∀ s∈ss,∀ y∈parts s,RL A F y) (hrv:RV A F ss) (h:Us E A en xs cs ss d Kc=some r):
  ∃ U,Kc U=some r∧∀ A',Ag A A' F→∀ {R':Type} (K':List Up→Option R'),Us E A' en xs cs ss d K'=K' U:=by
 unfold Us at h
 cases hnv:Nat.beq en.nv (xs.length+cs.length) with
 |false=>rw [hnv] at h; simp at h
 |true=>
  rw [hnv,cond_true] at h
  cases hb:(Nh en.ps&&T8 en.rs&&cs.isEmpty) with
  |true=>
   rw [hb,cond_true] at h
   split at h
   ·cases h
   ·rename_i ls hl
    split at h
    ·cases h
    ·rename_i x hm
     cases hr:en.run x with
     |none=>rw [hr] at h; simp at h
     |some y=>
      rw [hr] at h
      simp only [Option.bind_some] at h
      split at h
      ·cases h
      ·rename_i rs hrs
       refine ⟨_,h,λ A' hA R' K'=>?_⟩
       unfold Us
       simp only [hnv,hb,cond_true,Z9 hA hrl,hl,hm,hr,Option.bind_some,Dpa (A:=A) (A':=A') (λ d' hd'=>hA _ (hd d' hd')),hrs]
  |false=>
   rw [hb,cond_false] at h
   cases hb2:(Gea E en.rs d&&(Nat.ble en.nv 1000&&Lm en.nv 0 en.ps&&Nat.ble en.rs.length 400&&Nat.ble en.ps.length 2000)) with
   |false=>rw [hb2] at h; simp at h
   |true=>
    rw [hb2,cond_true] at h
    split at h
    ·cases h
    ·rename_i ls us bs hl
     cases hnd:Rp bs with
     |false=>rw [hnd] at h; simp at h
     |true=>
      rw [hnd,cond_true] at h
      split at h
      ·cases h
      ·rename_i x hm
       cases hr:en.run x with
       |none=>rw [hr] at h; simp at h
       |some y=>
        rw [hr] at h
        simp only [Option.bind_some] at h
        split at h
        ·cases h
        ·rename_i ws hws
         split at h
         ·cases h
         ·rename_i rs hrs
          refine ⟨_,h,λ A' hA R' K'=>?_⟩
          have hA2:=(hA.ups (U:=us)).ups (U:=ws)
          obtain ⟨v1,v2⟩:=Ifa hA (ps:=en.ps) hrv
          have hhb:∀ c∈Gca ss++Xf A en.ps ss,RB A F c.1 0:=λ c hc=>(List.mem_append.1 hc).elim (Bta hrl c) (v2 c)
          have hargs:=Sp (E:=E) (cb:=Gca ss++Xf A en.ps ss) (hb:=Gca ss++Xf A en.ps ss) (nv:=en.nv) (ps:=en.ps) hA hx (hs:=cs++(Gca ss++Xf A en.ps ss)) (λ c hc=>(List.mem_append.1 hc).elim (hcs c) (hhb c)) hhb
          unfold Us
          simp only [v1,hnv,hb,hb2,hnd,cond_true,cond_false,hargs,hl,hm,hr,Option.bind_some,hws,Dpa (A:=ups (ups A us) ws) (A':=ups (ups A' us) ws) (λ d' hd'=>hA2 _ (hd d' hd')),hrs]
theorem Bua:∀ {xs:List Operand} {Ts:List TypeId} {ss:List Sv},(∀ t,.tmp t∈xs→RV A F [(get A t).2])→Q8 E Ts A xs=some ss→RV A F ss
 |[],_,ss,_,h=>by
  simp only [Q8,Option.some.injEq] at h
  subst h
  intro ys hy
  simp at hy
 |x::xs,[],ss,_,h=>by simp [Q8] at h
 |x::xs,T::Ts,ss,hx,h=>by
  simp only [Q8] at h
  split at h
  ·rename_i s hs
   split at h
   ·rename_i ss' hss
    simp only [Option.some.injEq] at h
    subst h
    intro ys hy p v hp h1
    rcases List.mem_cons.1 hy with hy|hy
    ·subst hy
     cases x with
     |tmp t=>
      have h2:(bif Nat.blt t E.nt then some (get A t).2 else none)=some (.agg ys):=hs
      cases hb:Nat.blt t E.nt with
      |false=>rw [hb] at h2; simp at h2
      |true=>
       rw [hb] at h2
       simp only [cond_true,Option.some.injEq] at h2
       exact hx t (by simp) ys (by rw [h2]; simp) p v hp h1
     |const w=>
      exfalso
      unfold opT at hs
      split at hs
      ·rename_i e; cases e
      ·split at hs<;>cases hs
      ·rename_i w' _ _
       cases hq:Cla w'<;>simp [hq] at hs
      ·rename_i e; cases e
      ·cases hs
     |func f=>simp [opT] at hs
     |global g=>simp [opT] at hs
    ·exact Bua (λ t ht=>hx t (List.mem_cons_of_mem _ ht)) hss ys hy p v hp h1
   ·cases h
  ·cases h
theorem Iga:∀ {ys:List Lf},(∀ p∈Ppa A ys,p∈F)→∀ p v,Lf.al p v∈ys→1000≤p→RB A F (p / 1000 - 1) 0
 |[],_,p,v,hm,_=>by simp at hm
 |y::ys,h,p,v,hm,hp=>by
  have rest:(∀ p∈Ppa A ys,p∈F)→Lf.al p v∈ys→RB A F (p / 1000 - 1) 0:=λ h hm=>Iga h p v hm hp
  cases y with
  |al q w=>
   simp only [Ppa] at h
   rcases List.mem_cons.1 hm with e|hm
   ·simp only [Lf.al.injEq] at e
    obtain ⟨rfl,rfl⟩:=e
    rw [show Nat.ble 1000 p=true from Nat.ble_eq_true_of_le hp,cond_true] at h
    exact Hya λ p hp=>h p (List.mem_append_left _ hp)
   ·exact rest (λ p hp=>h p (List.mem_append_right _ hp)) hm
  |_=>
   rcases List.mem_cons.1 hm with e|hm
   ·cases e
   ·exact rest h hm
theorem Iha:∀ {xs:List Operand},(∀ p∈Nxa A xs,p∈F)→∀ t,.tmp t∈xs→RV A F [(get A t).2]
 |[],_,t,hm=>by simp at hm
 |x::xs,h,t,hm=>by
  rcases List.mem_cons.1 hm with rfl|hm
  ·intro ys hy
   simp only [List.mem_singleton] at hy
   simp only [Nxa,← hy] at h
   exact Iga λ p hp=>h p (List.mem_append_left _ hp)
  ·refine Iha (λ p hp=>h p ?_) t hm
   cases x<;>first|exact hp|(simp only [Nxa]; exact List.mem_append_right _ hp)
theorem N6a {Ts:List TypeId} {xs:List Operand} (hx:∀ x∈xs,RX A F x):∀ x∈Ts.zip xs,RX A F x.2:=λ x hm=>hx x.2 (List.of_mem_zip (show (x.1,x.2)∈Ts.zip xs from hm)).2
theorem Iia {c:Call} {f:FuncId} (ho:o.op = .call c) (hc:c.callee = .value (.func f)) (hd:∀ d,o.dst=some d→H d∈F) (hx:∀ x∈c.args.toList,RX A F x) (hv:∀ t,.tmp t∈c.args.toList→RV A F [(get A t).2]) (h:Ac E o A Kc=some r):Loc E o A F Kc r:=by
 unfold Ac at h
 rw [ho] at h
 simp only [hc] at h
 split at h
 ·rename_i en ss he hss
  obtain ⟨U,h1,h2⟩:=Zv hd (N6a hx) (by simp) (Bsa hx hss) (Bua hv hss) h
  refine ⟨U,h1,λ A' hA R' K'=>?_⟩
  unfold Ac
  rw [ho]
  simp only [hc,he,Sn hA hx,hss]
  exact h2 A' hA K'
 ·cases h
theorem Ija {c:Call} {t:Nat} (ho:o.op = .call c) (hc:c.callee = .value (.tmp t)) (hd:∀ d,o.dst=some d→H d∈F) (ht:RX A F (.tmp t)) (hx:∀ x∈c.args.toList,RX A F x) (hv:∀ t,.tmp t∈c.args.toList→RV A F [(get A t).2]) (h:Ac E o A Kc=some r):Loc E o A F Kc r:=by
 unfold Ac at h
 rw [ho] at h
 simp only [hc] at h
 split at h
 ·rename_i f bs hf
  have hbs:∀ c∈bs,RB A F c.1 0:=I8 ht hf
  split at h
  ·rename_i en ss he hss
   cases hal:Ls A bs with
   |false=>rw [hal] at h; simp at h
   |true=>
    rw [hal,cond_true] at h
    obtain ⟨U,h1,h2⟩:=Zv hd (N6a hx) hbs (Bsa hx hss) (Bua hv hss) h
    refine ⟨U,h1,λ A' hA R' K'=>?_⟩
    unfold Ac
    rw [ho]
    simp only [hc,Ai hA ht,hf,he,Sn hA hx,hss,So hA hbs,hal,cond_true]
    exact h2 A' hA K'
  ·cases h
 ·cases h
theorem Zw {f:FuncId} {x y:Array Operand} {d:Nat} (ho:o.op = .makeFunc (.func f) x y) (hod:o.dst=some d) (hy:∀ z∈y.toList,RX A F z) (h:Ac E o A Kc=some r):Loc E o A F Kc r:=by
 unfold Ac at h
 rw [ho,hod] at h
 simp only at h
 split at h
 ·rename_i bs hx hbs
  refine ⟨_,h,λ A' hA R' K'=>?_⟩
  unfold Ac
  rw [ho,hod]
  simp only [hx,Doa hA hy,hbs]
 ·cases h
theorem Lma (hF:∀ p∈rds A o,p∈F) (h:Ac E o A Kc=some r):Loc E o A F Kc r:=by
 have hD3:∀ d,o.dst=some d→d∈F∧H d∈F∧H (2000+d)∈F:=λ d hd=>by
  unfold rds at hF
  rw [hd] at hF
  exact ⟨hF d (by simp [rdD]),hF (H d) (by simp [rdD]),hF (H (2000+d)) (by simp [rdD])⟩
 have hD:∀ d,o.dst=some d→d∈F∧H d∈F:=λ d hd=>⟨(hD3 d hd).1,(hD3 d hd).2.1⟩
 have hO:∀ p∈Q0a A o.op,p∈F:=λ p hp=>hF p (by unfold rds; exact List.mem_append_right _ hp)
 have hX:Q0a A o.op=Mua A (Kl o.op)→∀ x∈Kl o.op,RX A F x:=λ e=>Bna (by rw [← e]; exact hO)
 cases ho:o.op with
 |call c=>
  have hOc:∀ p∈Mua A (Kl (.call c))++Nxa A c.args.toList,p∈F:=λ p hp=>hO p (by rw [ho]; exact hp)
  have hx:=Bna (λ p hp=>hOc p (List.mem_append_left _ hp))
  have hvv:=Iha (A:=A) (F:=F) (xs:=c.args.toList) (λ p hp=>hOc p (List.mem_append_right _ hp))
  have hxs:(∀ y,c.callee = .value y→RX A F y)∧∀ x∈c.args.toList,RX A F x:=by
   unfold Kl at hx
   simp only at hx
   split at hx
   ·rename_i y hy
    exact ⟨λ z hz=>by rw [hy] at hz; cases hz; exact hx y (by simp),λ x hm=>hx x (List.mem_cons_of_mem _ hm)⟩
   ·rename_i hno
    exact ⟨λ z hz=>absurd hz (hno z),hx⟩
  have hcv:=hxs.1
  replace hx:=hxs.2
  cases hc:c.callee with
  |builtin b=>
   cases b with
   |len=>exact Oya ho hc hx h
   |min=>exact Oza ho hc hx h
   |max=>exact P0a ho hc hx h
   |append=>exact F5a ho hc hx h
   |_=>unfold Ac at h; rw [ho] at h; simp only [hc] at h; cases h
  |value f=>
   cases f with
   |func f=>exact Iia ho hc (λ d hd=>(hD d hd).2) hx hvv h
   |tmp t=>exact Ija ho hc (λ d hd=>(hD d hd).2) (hcv _ hc) hx hvv h
   |_=>unfold Ac at h; rw [ho] at h; simp only [hc] at h; cases h
  |invoke x m=>unfold Ac at h; rw [ho] at h; simp only [hc] at h; cases h
 |store T x y=>
  have hx:=hX (by rw [ho]; rfl)
  rw [ho] at hx
  cases hod:o.dst with
  |none=>exact I6a ho hod (hx x (by simp [Kl])) (hx y (by simp [Kl])) h
  |some d=>unfold Ac at h; rw [ho,hod] at h; cases h
 |move x=>cases hod:o.dst with
  |none=>unfold Ac at h; rw [ho,hod] at h; cases h
  |some d=>
   refine Lha ho hod (λ t e=>?_) h
   subst e
   exact hO t (by rw [ho]; simp [Q0a,rdT])
 |assign x=>cases hod:o.dst with
  |none=>unfold Ac at h; rw [ho,hod] at h; cases h
  |some d=>
   have hx:=hX (by rw [ho]; rfl)
   rw [ho] at hx
   exact F4a ho hod (hx x (by simp [Kl])) h
 |pick c x y=>cases hod:o.dst with
  |none=>unfold Ac at h; rw [ho,hod] at h; cases h
  |some d=>
   have hx:=hX (by rw [ho]; rfl)
   rw [ho] at hx
   exact Lia ho hod (hx c (by simp [Kl])) (hx x (by simp [Kl])) (hx y (by simp [Kl])) h
 |binOp op T x y T'=>cases hod:o.dst with
  |none=>unfold Ac at h; rw [ho,hod] at h; cases h
  |some d=>
   have hx:=hX (by rw [ho]; rfl)
   rw [ho] at hx
   exact I2a ho hod (hx x (by simp [Kl])) (hx y (by simp [Kl])) h
 |unOp op T x=>cases hod:o.dst with
  |none=>unfold Ac at h; rw [ho,hod] at h; cases h
  |some d=>
   have hx:=hX (by rw [ho]; rfl)
   rw [ho] at hx
   exact Lga ho hod (hx x (by simp [Kl])) h
 |convert T T' x=>cases hod:o.dst with
  |none=>unfold Ac at h; rw [ho,hod] at h; cases h
  |some d=>
   have hx:=hX (by rw [ho]; rfl)
   rw [ho] at hx
   exact Bqa ho hod (hx x (by simp [Kl])) h
 |nilCheck x=>cases hod:o.dst with
  |none=>unfold Ac at h; rw [ho,hod] at h; cases h
  |some d=>exact Z7 ho hod (N5a (λ p hp=>hO p (by rw [ho]; exact hp))) h
 |extract x j=>cases hod:o.dst with
  |none=>unfold Ac at h; rw [ho,hod] at h; cases x<;>cases h
  |some d=>cases x with
   |tmp t=>
    have hx:=hX (by rw [ho]; rfl)
    rw [ho] at hx
    exact Bra ho hod (hx (.tmp t) (by simp [Kl])).1 h
   |_=>unfold Ac at h; rw [ho,hod] at h; cases h
 |field T x j=>cases hod:o.dst with
  |none=>unfold Ac at h; rw [ho,hod] at h; cases x<;>cases h
  |some d=>cases x with
   |tmp t=>
    have hx:=hX (by rw [ho]; rfl)
    rw [ho] at hx
    exact I3a ho hod (hx (.tmp t) (by simp [Kl])).1 h
   |_=>unfold Ac at h; rw [ho,hod] at h; cases h
 |build T ps=>cases hod:o.dst with
  |none=>unfold Ac at h; rw [ho,hod] at h; cases h
  |some d=>
   have hx:=hX (by rw [ho]; rfl)
   rw [ho] at hx
   exact Ida ho hod (λ p hp=>hx p.2 (List.mem_map_of_mem hp)) h
 |alloc T=>cases hod:o.dst with
  |none=>unfold Ac at h; rw [ho,hod] at h; cases h
  |some d=>exact I4a ho hod (hD d hod).2 h
 |box T x=>cases hod:o.dst with
  |none=>unfold Ac at h; rw [ho,hod] at h; cases h
  |some d=>
   have hx:=hX (by rw [ho]; rfl)
   rw [ho] at hx
   exact Owa ho hod (hD d hod).2 (hx x (by simp [Kl])) h
 |load T x=>cases hod:o.dst with
  |none=>unfold Ac at h; rw [ho,hod] at h; cases h
  |some d=>
   have hx:=hX (by rw [ho]; rfl)
   rw [ho] at hx
   exact Lja ho hod (hx x (by simp [Kl])) h
 |fieldAddr T x j=>cases hod:o.dst with
  |none=>unfold Ac at h; rw [ho,hod] at h; cases h
  |some d=>exact W6 ho hod (N5a (λ p hp=>hO p (by rw [ho]; exact hp))) h
 |indexAddr T x i=>cases hod:o.dst with
  |none=>unfold Ac at h; rw [ho,hod] at h; cases h
  |some d=>
   have hx:=hX (by rw [ho]; rfl)
   rw [ho] at hx
   cases hop:E.opn d with
   |true=>exact W7 ho hod hop (hD3 d hod).2.2 (hx x (by simp [Kl])) (hx i (by simp [Kl])) h
   |false=>exact W8 ho hod hop (hx x (by simp [Kl])) (hx i (by simp [Kl])) h
 |index T x i=>cases hod:o.dst with
  |none=>unfold Ac at h; rw [ho,hod] at h; cases h
  |some d=>
   have hx:=hX (by rw [ho]; rfl)
   rw [ho] at hx
   exact I8a ho hod (hx x (by simp [Kl])) (hx i (by simp [Kl])) h
 |slice T x lo hi mx=>cases hod:o.dst with
  |none=>unfold Ac at h; rw [ho,hod] at h; cases mx<;>cases h
  |some d=>cases mx with
   |none=>
    have hx:=hX (by rw [ho]; rfl)
    rw [ho] at hx
    exact I9a ho hod (hx x (by simp [Kl])) (λ y hy=>hx y (by simp [Kl,hy])) (λ y hy=>hx y (by simp [Kl,hy])) h
   |some m=>unfold Ac at h; rw [ho,hod] at h; cases h
 |buildSlice T n ps=>cases hod:o.dst with
  |none=>unfold Ac at h; rw [ho,hod] at h; cases h
  |some d=>
   have hx:=hX (by rw [ho]; rfl)
   rw [ho] at hx
   exact Ti ho hod (λ p hp=>hx p.2 (List.mem_map_of_mem hp)) h
 |makeSlice T x y=>cases hod:o.dst with
  |none=>unfold Ac at h; rw [ho,hod] at h; cases h
  |some d=>
   have hx:=hX (by rw [ho]; rfl)
   rw [ho] at hx
   exact W9 ho hod (hx x (by simp [Kl])) (hx y (by simp [Kl])) h
 |makeFunc fn x y=>
  cases fn with
  |func f=>cases hod:o.dst with
   |none=>unfold Ac at h; rw [ho,hod] at h; cases h
   |some d=>
    have hx:=hX (by rw [ho]; rfl)
    rw [ho] at hx
    exact Zw ho hod (λ z hz=>hx z (by simp only [Kl]; exact List.mem_append_right _ hz)) h
  |_=>unfold Ac at h; rw [ho] at h; cases hod:o.dst<;>(rw [hod] at h; cases h)
 |_=>unfold Ac at h; rw [ho] at h; cases hod:o.dst<;>(rw [hod] at h; cases h)
end
end

section
attribute [local irreducible] C H
abbrev Gs:=Nat→Nat×Sv
def gup (g:Gs) (u:Up):Gs:=λ p=>if p=u.l then ((bif u.keep then (g u.l).1 else (g u.l).1+1),u.s) else g p
def Bva (g:Gs):List Up→Gs
 |[]=>g
 |u::U=>Bva (gup g u) U
theorem Of:∀ (U:List Up) (A:Ab),get (ups A U)=Bva (get A) U
 |[],_=>rfl
 |u::U,A=>by
  show get (ups (up A u) U)=Bva (gup (get A) u) U
  rw [Of U (up A u)]
  congr 1
  funext p
  exact Si A u p
theorem Pu:∀ (U:List Up) (g:Gs) (p:Nat),p∉U.map Up.l→Bva g U p=g p
 |[],_,_,_=>rfl
 |u::U,g,p,h=>by
  simp only [List.map_cons,List.mem_cons,not_or] at h
  show Bva (gup g u) U p=g p
  rw [Pu U _ p h.2]
  exact if_neg h.1
theorem Pv:∀ (U:List Up) (g g':Gs) (p:Nat),g p=g' p→Bva g U p=Bva g' U p
 |[],_,_,_,h=>h
 |u::U,g,g',p,h=>by
  refine Pv U (gup g u) (gup g' u) p ?_
  unfold gup
  by_cases e:p=u.l
  ·subst e; rw [if_pos rfl,if_pos rfl,h]
  ·rw [if_neg e,if_neg e,h]
structure Ak where
 N:Gs→Prop
 e:Gs→Gs
def Ind (x y:Ak):Prop:=(∀ g,x.N g→y.N (x.e g)→y.N g)∧(∀ g,y.N g→x.N g→x.N (y.e g))∧(∀ g,x.N g→y.N g→x.e (y.e g)=y.e (x.e g))
def N7a:List Ak→Gs→Gs→Prop
 |[],g,f=>g=f
 |x::L,g,f=>x.N g∧N7a L (x.e g) f
theorem N7a.front {y:Ak} {L2:List Ak}:∀ {L1:List Ak} {g f:Gs},(∀ x∈L1,Ind x y)→N7a (L1++y::L2) g f→y.N g∧N7a (L1++L2) (y.e g) f
 |[],g,f,_,h=>h
 |x::L1,g,f,hi,h=>by
  obtain ⟨h1,h2⟩:=h
  obtain ⟨h3,h4⟩:=N7a.front (λ z hz=>hi z (List.mem_cons_of_mem _ hz)) h2
  obtain ⟨i1,i2,i3⟩:=hi x (by simp)
  have hy:=i1 g h1 h3
  exact ⟨hy,i2 g hy h1,by rw [i3 g h1 hy]; exact h4⟩
inductive Anc (ops:Array Oper):Nat→Nat→Prop
 |dir {i j:Nat} {o:Oper} (h:ops[i]? = some o) (hj:j∈aft o):Anc ops j i
 |tr {i j k:Nat} {o:Oper} (h:ops[i]? = some o) (hk:k∈aft o) (ha:Anc ops j k):Anc ops j i
theorem Ika {o:Oper} {j:Nat}:j∈aft o↔∃ e∈o.after,Region.binds .any e=true∧e.on=j:=by
 unfold aft
 rw [List.mem_filterMap]
 constructor
 ·rintro ⟨e,he,h⟩
  cases hb:Region.binds .any e with
  |false=>rw [hb] at h; simp at h
  |true=>
   rw [hb] at h
   simp only [cond_true,Option.some.injEq] at h
   exact ⟨e,by simpa using he,hb,h⟩
 ·rintro ⟨e,he,hb,h⟩
  exact ⟨e,by simpa using he,by rw [hb]; simp [h]⟩
section
variable {X:Cx} {E:En} {ops:Array Oper} {Q:Exit→Act→World→Prop}
def Pwa (X:Cx) (ops:Array Oper) (Q:Exit→Act→World→Prop) (i:Nat) (x:Ak):Prop:=
 ∀ (S:Sit) (a:Act) (A:Ab),Ah X S a→S.g=get A→x.N (get A)→∀ K:Act→World→Prop,(∀ S' a' A',Ah X S' a'→S'.g=get A'→get A'=x.e (get A)→K a' S'.w)→wpOp X.P ops Q i K a S.w
theorem F8a {listed:Array Bool} (hd:∀ i o,ops[i]? = some o→listed.getD i false=true→∀ j∈aft o,listed.getD j false=true) {i j:Nat} (h:Anc ops j i):listed.getD i false=true→listed.getD j false=true:=by
 induction h with
 |dir h hj=>exact λ hi=>hd _ _ h hi _ hj
 |tr h hk _ ih=>exact λ hi=>ih (hd _ _ h hi _ hk)
theorem Bwa {listed:Array Bool} {i:Nat} (hi:i<listed.size):listed.getD i true=listed.getD i false:=by
 simp [Array.getD_eq_getD_getElem?,hi]
theorem N8a (hlt:∀ i o,ops[i]? = some o→∀ j∈aft o,j<i) {f:Gs} (hQ:∀ S a A,Ah X S a→S.g=get A→get A=f→Q .normal a S.w):
  ∀ (fuel:Nat) (L:List (Nat×Ak)) (listed:Array Bool) (S:Sit) (a:Act) (A:Ab),L.length=fuel→listed.size=ops.size→L.Pairwise (λ x y=>x.1<y.1)→(∀ i,i<ops.size→(listed.getD i false=false↔∃ x∈L,x.1=i))→
   L.Pairwise (λ x y=>Anc ops x.1 y.1∨Ind x.2 y.2)→(∀ x∈L,Pwa X ops Q x.1 x.2)→(∀ x∈L,x.1<ops.size)→
   (∀ i o,ops[i]? = some o→listed.getD i false=true→∀ j∈aft o,listed.getD j false=true)→
   Ah X S a→S.g=get A→N7a (L.map Prod.snd) (get A) f→wpAny X.P .any ops Q fuel listed a S.w
 |0,L,listed,S,a,A,hlen,hsz,hs,hl,hi,ho,hb,hd,K,hg,hr=>by
  have:L=[]:=List.eq_nil_of_length_eq_zero hlen
  subst this
  refine ⟨?_,hQ S a A K hg hr⟩
  rw [List.eq_nil_iff_forall_not_mem]
  intro i hm
  obtain ⟨h1,o,h2,_⟩:=mem_ready.1 hm
  have hlt2:i<ops.size:=(Array.getElem?_eq_some_iff.1 h2).1
  rw [Bwa (by omega)] at h1
  obtain ⟨x,hx,_⟩:=(hl i hlt2).1 h1
  simp at hx
 |fuel+1,L,listed,S,a,A,hlen,hsz,hs,hl,hi,ho,hb,hd,K,hg,hr=>by
  cases L with
  |nil=>simp at hlen
  |cons x0 L0=>
   refine ⟨λ h0=>?_,λ i hm=>?_⟩
   ·exfalso
    have hx0:=hb x0 (by simp)
    obtain ⟨o,h2⟩:∃ o,ops[x0.1]? = some o:=⟨_,Array.getElem?_eq_getElem hx0⟩
    have hu:=(hl x0.1 hx0).2 ⟨x0,by simp,rfl⟩
    have:x0.1∈Region.ready .any ops listed:=by
     refine mem_ready.2 ⟨by rw [Bwa (by omega)]; exact hu,o,h2,λ e he hbe=>?_⟩
     have hj:=hlt _ _ h2 e.on (Ika.2 ⟨e,he,hbe,rfl⟩)
     cases hc:listed.getD e.on false with
     |true=>rfl
     |false=>
      obtain ⟨y,hy,hye⟩:=(hl e.on (by omega)).1 hc
      rcases List.mem_cons.1 hy with rfl|hy
      ·omega
      ·have:=(List.pairwise_cons.1 hs).1 y hy
       omega
    rw [h0] at this
    simp at this
   ·obtain ⟨h1,o,h2,h3⟩:=mem_ready.1 hm
    have hil:i<ops.size:=(Array.getElem?_eq_some_iff.1 h2).1
    rw [Bwa (by omega)] at h1
    obtain ⟨y,hy,hyi⟩:=(hl i hil).1 h1
    obtain ⟨L1,L2,hL⟩:=List.append_of_mem hy
    have haft:∀ j∈aft o,listed.getD j false=true:=λ j hj=>by
     obtain ⟨e,he,hbe,rfl⟩:=Ika.1 hj
     exact h3 e he hbe
    have hanc:∀ j,Anc ops j i→listed.getD j false=true:=by
     intro j hj
     cases hj with
     |dir h hj=>rw [h2] at h; cases h; exact haft _ hj
     |tr h hk ha=>rw [h2] at h; cases h; exact F8a hd ha (haft _ hk)
    rw [hL] at hs hl hi ho hb hr hlen
    rw [List.pairwise_append] at hs hi
    obtain ⟨s1,s2,s3⟩:=hs
    obtain ⟨i1,i2,i3⟩:=hi
    rw [List.pairwise_cons] at s2 i2
    have hind:∀ x∈L1,Ind x.2 y.2:=by
     intro x hx
     rcases i3 x hx y (by simp) with h|h
     ·exfalso
      have h4:=hanc x.1 (by rw [← hyi]; exact h)
      have h5:=(hl x.1 (hb x (by simp [hx]))).2 ⟨x,by simp [hx],rfl⟩
      rw [h4] at h5
      cases h5
     ·exact h
    rw [List.map_append,List.map_cons] at hr
    obtain ⟨hN,hr2⟩:=N7a.front (λ z hz=>by obtain ⟨x,hx,rfl⟩:=List.mem_map.1 hz; exact hind x hx) hr
    rw [← List.map_append] at hr2
    subst hyi
    refine ho y (by simp) S a A K hg hN _ (λ S' a' A' K' g' e'=>?_)
    refine N8a hlt hQ fuel (L1++L2) (listed.setIfInBounds y.1 true) S' a' A' (by simp at hlen ⊢; omega) (by simpa using hsz) ?_ ?_ ?_ (λ x hx=>ho x (by rcases List.mem_append.1 hx with h|h<;>simp [h])) (λ x hx=>hb x (by rcases List.mem_append.1 hx with h|h<;>simp [h])) ?_ K' g' (by rw [e']; exact hr2)
    ·exact List.pairwise_append.2 ⟨s1,s2.2,λ x hx z hz=>s3 x hx z (List.mem_cons_of_mem _ hz)⟩
    ·intro k hk
     by_cases hky:k=y.1
     ·subst hky
      have e1:(listed.setIfInBounds y.1 true).getD y.1 false=true:=by simp [Array.getD_eq_getD_getElem?,hsz,hk]
      rw [e1]
      constructor
      ·intro h; cases h
      ·rintro ⟨x,hx,hxe⟩
       exfalso
       rcases List.mem_append.1 hx with h|h
       ·have:=s3 x h y (by simp); omega
       ·have:=s2.1 x h; omega
     ·rw [getD_set_ne false (Ne.symm hky),hl k hk]
      constructor
      ·rintro ⟨x,hx,hxe⟩
       refine ⟨x,?_,hxe⟩
       rcases List.mem_append.1 hx with h|h
       ·exact List.mem_append_left _ h
       ·rcases List.mem_cons.1 h with rfl|h
        ·exact (hky hxe.symm).elim
        ·exact List.mem_append_right _ h
      ·rintro ⟨x,hx,hxe⟩
       exact ⟨x,by rcases List.mem_append.1 hx with h|h<;>simp [h],hxe⟩
    ·exact List.pairwise_append.2 ⟨i1,i2.2,λ x hx z hz=>i3 x hx z (List.mem_cons_of_mem _ hz)⟩
    ·intro k o' hk hkl j hj
     by_cases hky:k=y.1
     ·subst hky
      rw [h2] at hk
      cases hk
      exact getD_set_true (haft j hj)
     ·rw [getD_set_ne false (Ne.symm hky)] at hkl
      exact getD_set_true (hd k o' hk hkl j hj)
end
end

section
attribute [local irreducible] C H
theorem Wr {p:Nat}:∀ {l:List Nat},Pqa p l=true↔p∈l
 |[]=>by simp [Pqa]
 |q::l=>by
  simp only [Pqa,Bool.or_eq_true,List.mem_cons,Wr (l:=l)]
  constructor
  ·rintro (h|h)
   ·exact .inl (Nat.eq_of_beq_eq_true h).symm
   ·exact .inr h
  ·rintro (rfl|h)
   ·exact .inl (by simp)
   ·exact .inr h
theorem Ws {m:List Nat}:∀ {l:List Nat},Pra l m=true↔∀ p∈l,p∉m
 |[]=>by simp [Pra]
 |q::l=>by
  simp only [Pra,Bool.and_eq_true,Bool.not_eq_true',List.mem_cons,Ws (l:=l)]
  constructor
  ·rintro ⟨h1,h2⟩ p (rfl|h) hm
   ·rw [Wr.2 hm] at h1; cases h1
   ·exact h2 p h hm
  ·intro h
   refine ⟨?_,λ p hp=>h p (.inr hp)⟩
   cases hc:Pqa q m with
   |false=>rfl
   |true=>exact (h q (.inl rfl) (Wr.1 hc)).elim
def P1a (s:Sv) (j:Nat):Sv:=match s with
 |.tup vs => .tup (vs.set j (false,[.dead]))
 |s=>s
structure Ext (x:Ak) (t j d:Nat):Prop where
 N:∃ ag l,∀ g,x.N g↔∃ vs,(g t).2 = .tup vs∧nth vs j=some (ag,l)
 e:d≠t→∃ (w:Bool) (s:Sv),∀ g p,x.e g p=if p=d then ((g p).1+1,s) else if w=true∧p=t then ((g p).1+1,P1a (g p).2 j) else g p
structure Wt (y:Lg) (x:Ak):Prop where
 WF:∀ p∈y.W,p∈y.F
 N:∀ g g',(∀ p∈y.F,g p=g' p)→x.N g→x.N g'
 out:∀ g p,p∉y.W→x.e g p=g p
 loc:∀ g g' p,p∈y.W→g p=g' p→x.e g p=x.e g' p
 ex:∀ t j d,y.ex=some (t,j,d)→Ext x t j d
theorem Wt.ind {y y':Lg} {x x':Ak} (h:Wt y x) (h':Wt y' x') (hi:Gha y y'=true):Ind x x':=by
 unfold Gha at hi
 simp only [Bool.or_eq_true,Bool.and_eq_true] at hi
 rcases hi with ⟨d1,d2⟩|hi
 ·have d1:=Ws.1 d1
  have d2:=Ws.1 d2
  have o1:∀ g,∀ p∈y'.F,x.e g p=g p:=λ g p hp=>h.out g p (λ hw=>d1 p hw hp)
  have o2:∀ g,∀ p∈y.F,x'.e g p=g p:=λ g p hp=>h'.out g p (λ hw=>d2 p hw hp)
  refine ⟨λ g _ hn=>h'.N _ _ (o1 g) hn,λ g _ hn=>h.N _ _ (λ p hp=>(o2 g p hp).symm) hn,λ g _ _=>?_⟩
  funext p
  by_cases hp:p∈y.W
  ·have hp':p∉y'.W:=λ hw=>d2 p hw (h.WF p hp)
   rw [h'.out (x.e g) p hp',h.loc (x'.e g) g p hp (o2 g p (h.WF p hp))]
  ·rw [h.out (x'.e g) p hp]
   by_cases hp':p∈y'.W
   ·exact h'.loc g (x.e g) p hp' (o1 g p (h'.WF p hp')).symm
   ·rw [h'.out _ p hp',h'.out _ p hp',h.out _ p hp]
 ·split at hi
  ·rename_i t j d t' j' d' e1 e2
   simp only [Bool.and_eq_true,Bool.not_eq_true'] at hi
   obtain ⟨⟨⟨⟨q1,q2⟩,q3⟩,q4⟩,q5⟩:=hi
   have ht:t=t':=Nat.eq_of_beq_eq_true q1
   subst ht
   have hj:j≠j':=λ e=>by subst e; simp at q2
   have hd:d≠d':=λ e=>by subst e; simp at q3
   have hdt:d≠t:=λ e=>by subst e; simp at q4
   have hdt':d'≠t:=λ e=>by subst e; simp at q5
   obtain ⟨⟨ag,l,hN⟩,he⟩:=h.ex t j d e1
   obtain ⟨⟨ag',l',hN'⟩,he'⟩:=h'.ex t j' d' e2
   obtain ⟨w,s,he⟩:=he hdt
   obtain ⟨w',s',he'⟩:=he' hdt'
   have et:∀ g,(x.e g t).2=if w=true then P1a (g t).2 j else (g t).2:=λ g=>by
    rw [he,if_neg (Ne.symm hdt)]
    cases w<;>simp
   have et':∀ g,(x'.e g t).2=if w'=true then P1a (g t).2 j' else (g t).2:=λ g=>by
    rw [he',if_neg (Ne.symm hdt')]
    cases w'<;>simp
   refine ⟨λ g hn hn'=>?_,λ g hn' hn=>?_,λ g hn hn'=>?_⟩
   ·obtain ⟨vs,g1,g2⟩:=(hN g).1 hn
    obtain ⟨vs',g1',g2'⟩:=(hN' _).1 hn'
    refine (hN' g).2 ⟨vs,g1,?_⟩
    rw [et,g1] at g1'
    cases w with
    |false=>
     simp only [Bool.false_eq_true,if_false,Sv.tup.injEq] at g1'
     rw [g1']; exact g2'
    |true=>
     simp only [if_true,P1a,Sv.tup.injEq] at g1'
     rw [← g1',Jf,List.getElem?_set_ne hj] at g2'
     rw [Jf]; exact g2'
   ·obtain ⟨vs,g1,g2⟩:=(hN g).1 hn
    refine (hN _).2 ?_
    cases w' with
    |false=>exact ⟨vs,by rw [et',g1]; simp,g2⟩
    |true=>
     refine ⟨vs.set j' (false,[.dead]),by rw [et',g1]; simp [P1a],?_⟩
     rw [Jf,List.getElem?_set_ne (Ne.symm hj),← Jf]
     exact g2
   ·funext p
    by_cases p1:p=d
    ·subst p1
     simp [he,he',hd,hdt]
    ·by_cases p2:p=d'
     ·subst p2
      simp [he,he',p1,hdt']
     ·by_cases p3:p=t
      ·subst p3
       obtain ⟨vs,g1,g2⟩:=(hN g).1 hn
       cases w<;>cases w'<;>simp [he,he',p1,p2,g1,P1a]
       exact List.set_comm _ _ (Ne.symm hj)
      ·simp [he,he',p1,p2,p3]
  ·cases hi
theorem Dqa {ops:Array Oper}:∀ {lg:List Lg},(∀ y∈lg,∀ k,Nat.testBit y.anc k=true→Anc ops k y.i)→∀ j k,Nat.testBit (Gia lg j) k=true→Anc ops k j
 |[],_,j,k,h=>by simp [Gia] at h
 |y::lg,hl,j,k,h=>by
  unfold Gia at h
  cases hb:Nat.beq y.i j with
  |true=>
   rw [hb,cond_true] at h
   rw [← Nat.eq_of_beq_eq_true hb]
   exact hl y (by simp) k h
  |false=>
   rw [hb,cond_false] at h
   exact Dqa (λ z hz=>hl z (List.mem_cons_of_mem _ hz)) j k h
theorem Ila {ops:Array Oper} {lg:List Lg} (hl:∀ y∈lg,∀ k,Nat.testBit y.anc k=true→Anc ops k y.i) {i:Nat} {o:Oper} (ho:ops[i]? = some o):∀ {l:List Nat},(∀ j∈l,j∈aft o)→∀ k,Nat.testBit (Mva lg l) k=true→Anc ops k i
 |[],_,k,h=>by simp [Mva] at h
 |j::l,hj,k,h=>by
  unfold Mva at h
  simp only [Nat.testBit_or,Bool.or_eq_true] at h
  rcases h with (h|h)|h
  ·rw [Nat.testBit_two_pow] at h
   simp only [decide_eq_true_eq] at h
   subst h
   exact .dir ho (hj _ (by simp))
  ·exact .tr ho (hj j (by simp)) (Dqa hl j k h)
  ·exact Ila hl ho (λ m hm=>hj m (List.mem_cons_of_mem _ hm)) k h
section
variable {X:Cx} {E:En} {ops:Array Oper} {Q:Exit→Act→World→Prop}
theorem Dra {S:Sit} {a:Act} (hE:Ks X E) (hK:Ah X S a) {o:Oper} {j dj:Nat} {want:Bool} (hgd:o.guard=some (j,want)) (hdj:Gga ops.toList j=some dj) (hb:Nat.blt dj E.nt=true):
  (∀ b,(S.g dj).2 = .one (.sc (.bool b))→Region.wanted o (yielded ops a.tmps)=(b==want))∧((S.g dj).2 = .one .un→Region.wanted o (yielded ops a.tmps)=false):=by
 have hdj':(ops[j]?).bind (·.dst)=some dj:=by
  unfold Gga at hdj
  rw [Jf] at hdj
  have:ops.toList[j]? = ops[j]? := by simp
  rw [this] at hdj
  cases hj:ops[j]? with
  |none=>rw [hj] at hdj; cases hdj
  |some oj=>rw [hj] at hdj; simpa using hdj
 have hjl:dj<X.nt:=hE.nt ▸ (Nat.le_of_ble_eq_true hb:dj+1≤E.nt)
 have htm:a.tmps[dj]? = some (S.ph dj):=by
  have h1:=hK.sl dj hjl
  have h2:dj<a.tmps.size:=by rw [hK.sz]; exact hjl
  rw [← h1,Array.getD_eq_getD_getElem?,Array.getElem?_eq_getElem h2]
  rfl
 have hy:yielded ops a.tmps j=(match S.ph dj with | .bool b=>some b|_=>none):=by
  unfold yielded
  rw [hdj',Option.bind_some,htm]
  cases S.ph dj<;>rfl
 have hwd:Region.wanted o (yielded ops a.tmps)=((match S.ph dj with | .bool b=>some b|_=>none)==some want):=by
  unfold Region.wanted
  rw [hgd]
  simp only
  rw [hy]
 have hat:=hK.at_ dj
 constructor
 ·intro b hs
  rw [hs] at hat
  have hph:S.ph dj = .bool b:=hat.1
  rw [hwd,hph]
  cases b<;>cases want<;>rfl
 ·intro hs
  rw [hs] at hat
  have hph:S.ph dj=undef:=hat
  rw [hwd,hph]
  simp [undef]
def Rua (F:List Nat) (A:Ab) (U:List Up):Ak:=⟨λ g=>∀ p∈F,g p=get A p,λ g=>Bva g U⟩
theorem Ima {y:Lg} {A:Ab} {U:List Up} {F:List Nat} (hF:y.F=F++U.map Up.l) (hW:y.W=U.map Up.l) (hex:y.ex=none):Wt y (Rua y.F A U):=by
 refine ⟨λ p hp=>?_,λ g g' h hn p hp=>by rw [← h p hp]; exact hn p hp,λ g p hp=>Pu U g p (by rw [← hW]; exact hp),λ g g' p _ h=>Pv U g g' p h,λ t j d h=>by rw [hex] at h; cases h⟩
 rw [hF,List.mem_append]
 exact .inr (by rw [← hW]; exact hp)
theorem Qva (hV:Sf X E) {i:Nat} {o:Oper} (hi:ops[i]? = some o) (hd:Tf E o=true) {x:Ak} (hw:∀ S a,Ah X S a→x.N S.g→Region.wanted o (yielded ops a.tmps)=true)
  (hU:∀ A',x.N (get A')→∃ U,Ac E o A' some=some U∧Bva (get A') U=x.e (get A')):Pwa X ops Q i x:=by
 intro S a A' K hg hn Kn hk
 have hdl:∀ d,o.dst=some d→d<X.nt:=λ d hod=>by
  unfold Tf at hd
  rw [hod] at hd
  exact hV.en.nt ▸ (Nat.le_of_ble_eq_true hd:d+1≤E.nt)
 obtain ⟨U,hU1,hU2⟩:=hU A' hn
 obtain ⟨U',hU',hgo⟩:=Hna hV K hg hdl hU1
 simp only [Option.some.injEq] at hU'
 subst hU'
 unfold wpOp
 rw [hi]
 simp only
 rw [if_pos (hw S a K (by rw [hg]; exact hn))]
 exact .inl (hgo _ _ (λ S' a' K' g'=>hk S' a' _ K' g' ((Of U' A').trans hU2)))
theorem P2a (hV:Sf X E) {i:Nat} {o:Oper} (hi:ops[i]? = some o) (hd:Tf E o=true) {N:Gs→Prop} (hw:∀ S a,Ah X S a→N S.g→Region.wanted o (yielded ops a.tmps)=false):
  Pwa X ops Q i ⟨N,λ g=>Bva g (match o.dst with|some d=>[⟨d,false,.one .un⟩]|none=>[])⟩:=by
 intro S a A' K hg hn Kn hk
 unfold wpOp
 rw [hi]
 simp only
 rw [if_neg (by rw [hw S a K (by rw [hg]; exact hn)]; decide)]
 obtain ⟨S',K',g',w'⟩:=N2a hV.en K hg hd
 rw [← w']
 refine hk S' _ _ K' g' ?_
 unfold Pf
 cases o.dst with
 |none=>rfl
 |some d=>exact Of [⟨d,false,.one .un⟩] A'
def Dsa (t j d:Nat) (l:List Lf) (s:Sv) (vs:List (Bool×List Lf)):List Up:=bif Ev l then [⟨t,false,.tup (vs.set j (false,[.dead]))⟩,⟨d,false,s⟩] else [⟨d,false,s⟩]
theorem Lna {R:Type} {Kc:List Up→Option R} {r:R} {A:Ab} {o:Oper} {t j d:Nat} (ho:o.op = .extract (.tmp t) j) (hod:o.dst=some d) (h:Ac E o A Kc=some r):
  ∃ vs ag l s,(get A t).2 = .tup vs∧nth vs j=some (ag,l)∧Kc (Dsa t j d l s vs)=some r∧∀ A' vs',(get A' t).2 = .tup vs'→nth vs' j=some (ag,l)→Ac E o A' some=some (Dsa t j d l s vs'):=by
 unfold Ac at h
 rw [ho,hod] at h
 simp only at h
 cases hb:Nat.blt t E.nt with
 |false=>rw [hb] at h; simp at h
 |true=>
  rw [hb,cond_true] at h
  split at h
  ·rename_i vs hg
   split at h
   ·rename_i ag l hn
    split at h
    ·rename_i s hs
     refine ⟨vs,ag,l,s,hg,hn,?_,λ A' vs' hg' hn'=>?_⟩
     ·rw [← h]
      unfold Dsa
      cases Ev l<;>rfl
     ·unfold Ac
      rw [ho,hod]
      simp only [hb,cond_true,hg',hn',hs]
      unfold Dsa
      cases Ev l<;>rfl
    ·cases h
   ·cases h
  ·cases h
def Bxa (t j d:Nat) (ag:Bool) (l:List Lf) (s:Sv):Ak:=
 ⟨λ g=>∃ vs,(g t).2 = .tup vs∧nth vs j=some (ag,l),λ g=>Bva g (bif Ev l then [⟨t,false,P1a (g t).2 j⟩,⟨d,false,s⟩] else [⟨d,false,s⟩])⟩
theorem Loa {o:Oper} {i:Nat} {lg:List Lg} {A:Ab} {t j d:Nat} {ag:Bool} {l:List Lf} {s:Sv} {vs:List (Bool×List Lf)} (ho:o.op = .extract (.tmp t) j) (hod:o.dst=some d):
  Wt (Tr o i lg [] A (Dsa t j d l s vs)) (Bxa t j d ag l s):=by
 have ht:t∈(Tr o i lg [] A (Dsa t j d l s vs)).F:=by
  show t∈[]++rds A o++_
  simp [rds,Q0a,ho,Kl,Mua,rdO]
 have hW:(Tr o i lg [] A (Dsa t j d l s vs)).W=bif Ev l then [t,d] else [d]:=by
  show (Dsa t j d l s vs).map Up.l=_
  unfold Dsa
  cases Ev l<;>rfl
 refine ⟨λ p hp=>List.mem_append_right _ hp,λ g g' hF hn=>?_,λ g p hp=>?_,λ g g' p hp h=>?_,λ t' j' d' h=>?_⟩
 ·obtain ⟨vs',h1,h2⟩:=hn
  exact ⟨vs',by rw [← hF t ht]; exact h1,h2⟩
 ·rw [hW] at hp
  unfold Bxa
  cases hl:Ev l with
  |true=>
   rw [hl] at hp
   exact Pu _ _ _ hp
  |false=>
   rw [hl] at hp
   exact Pu _ _ _ hp
 ·rw [hW] at hp
  unfold Bxa
  cases hl:Ev l with
  |false=>exact Pv _ _ _ p h
  |true=>
   rw [hl] at hp
   simp only [cond_true]
   show gup (gup g _) _ p=gup (gup g' _) _ p
   unfold gup
   by_cases e1:p=d
   ·subst e1
    by_cases e2:p=t
    ·subst e2; simp [h]
    ·simp [e2,h]
   ·rcases List.mem_cons.1 hp with e2|e2
    ·subst e2; simp [e1,h]
    ·exact (e1 (by simpa using e2)).elim
 ·have hex:(Tr o i lg [] A (Dsa t j d l s vs)).ex=some (t,j,d):=by
   show (bif List.isEmpty ([]:List Nat) then Q1a o else none)=_
   simp [Q1a,ho,hod]
  rw [hex] at h
  cases h
  refine ⟨⟨ag,l,λ g=>Iff.rfl⟩,λ hdt=>⟨Ev l,s,λ g p=>?_⟩⟩
  unfold Bxa
  cases hl:Ev l with
  |false=>
   show gup g _ p=_
   unfold gup
   by_cases e1:p=d
   ·subst e1; simp
   ·simp [e1]
  |true=>
   simp only [cond_true]
   show gup (gup g _) _ p=_
   unfold gup
   by_cases e1:p=d
   ·subst e1; simp [hdt]
   ·simp [e1]
    by_cases e2:p=t
    ·subst e2; simp
    ·simp [e2]
end
end

section
attribute [local irreducible] C H
section
variable {X:Cx} {E:En} {ops:Array Oper} {Q:Exit→Act→World→Prop}
structure N9a (X:Cx) (ops:Array Oper) (Q:Exit→Act→World→Prop) (l:List Nat) (lg:List Lg) (g:Gs) (f:Gs) (L:List (Lg×Ak)):Prop where
 ix:L.map (λ z=>z.1.i)=l
 runs:N7a (L.map Prod.snd) g f
 fits:∀ z∈L,Wt z.1 z.2∧Pwa X ops Q z.1.i z.2
 old:∀ y∈lg,∀ z∈L,Nat.testBit z.1.anc y.i=true∨Gha y z.1=true
 pair:L.Pairwise (λ y z=>Nat.testBit z.1.anc y.1.i=true∨Gha y.1 z.1=true)
 anc:∀ z∈L,∀ k,Nat.testBit z.1.anc k=true→Anc ops k z.1.i
 lt:∀ i∈l,∃ o,ops[i]? = some o∧∀ j∈aft o,j<i
theorem N9a.cons {l:List Nat} {lg:List Lg} {g g1 f:Gs} {L:List (Lg×Ak)} {y:Lg} {x:Ak} {i:Nat} (h:N9a X ops Q l (y::lg) g1 f L) (hi:y.i=i) (hn:x.N g) (he:x.e g=g1) (hf:Wt y x) (ho:Pwa X ops Q i x) (hok:Gja lg y=true)
  (ha:∀ k,Nat.testBit y.anc k=true→Anc ops k i) (hl:∃ o,ops[i]? = some o∧∀ j∈aft o,j<i):N9a X ops Q (i::l) lg g f ((y,x)::L):=by
 refine ⟨by simp [hi,h.ix],⟨hn,by rw [he]; exact h.runs⟩,?_,?_,?_,?_,?_⟩
 ·intro z hz
  rcases List.mem_cons.1 hz with rfl|hz
  ·exact ⟨hf,by rw [hi]; exact ho⟩
  ·exact h.fits z hz
 ·intro y' hy' z hz
  rcases List.mem_cons.1 hz with rfl|hz
  ·unfold Gja at hok
   rw [List.all_eq_true] at hok
   have:=hok y' hy'
   simpa using this
  ·exact h.old y' (List.mem_cons_of_mem _ hy') z hz
 ·exact List.pairwise_cons.2 ⟨λ z hz=>h.old y (by simp) z hz,h.pair⟩
 ·intro z hz k hk
  rcases List.mem_cons.1 hz with rfl|hz
  ·rw [hi]; exact ha k hk
  ·exact h.anc z hz k hk
 ·intro j hj
  rcases List.mem_cons.1 hj with rfl|hj
  ·exact hl
  ·exact h.lt j hj
theorem Dta (hV:Sf X E) {R:Type}:∀ (l:List Nat) (lg:List Lg) (A:Ab) (K:Ab→Option R) (r:R),(∀ y∈lg,∀ k,Nat.testBit y.anc k=true→Anc ops k y.i)→Jk E ops.toList l lg A K=some r→
  ∃ (L:List (Lg×Ak)) (A':Ab),K A'=some r∧N9a X ops Q l lg (get A) (get A') L
 |[],lg,A,K,r,_,h=>⟨[],A,h,rfl,rfl,by simp,by simp,.nil,by simp,by simp⟩
 |i::l,lg,A,K,r,hlg,h=>by
  unfold Jk at h
  rw [Jf] at h
  split at h
  ·cases h
  ·rename_i o ho
   have hi:ops[i]? = some o:=by simpa using ho
   cases hb0:(Tf E o&&(aft o).all (λ j=>Nat.blt j i)) with
   |false=>rw [hb0] at h; simp at h
   |true=>
    rw [hb0,cond_true] at h
    simp only [Bool.and_eq_true,List.all_eq_true] at hb0
    obtain ⟨hd,hlt0⟩:=hb0
    have hlt:∃ o,ops[i]? = some o∧∀ j∈aft o,j<i:=⟨o,hi,λ j hj=>by
     have:=hlt0 j hj
     exact Nat.le_of_ble_eq_true this⟩
    have hanc:∀ k,Nat.testBit (Mva lg (aft o)) k=true→Anc ops k i:=Ila hlg hi (λ j hj=>hj)
    have next:∀ {y:Lg} {x:Ak} {A1:Ab},y.i=i→y.anc=Mva lg (aft o)→x.N (get A)→x.e (get A)=get A1→Wt y x→Pwa X ops Q i x→Gja lg y=true→Jk E ops.toList l (y::lg) A1 K=some r→
      ∃ (L:List (Lg×Ak)) (A':Ab),K A'=some r∧N9a X ops Q (i::l) lg (get A) (get A') L:=by
     intro y x A1 e1 e2 hn he hf hop hok hev
     obtain ⟨L,A',h1,h2⟩:=Dta hV l (y::lg) A1 K r (λ z hz k hk=>by
      rcases List.mem_cons.1 hz with rfl|hz
      ·rw [e1]; exact hanc k (by rw [← e2]; exact hk)
      ·exact hlg z hz k hk) hev
     exact ⟨_,A',h1,h2.cons e1 hn he hf hop hok (by rw [e2]; exact hanc) hlt⟩
    have cnd:∀ {b:Bool} {z:Option R},(bif b then z else none)=some r→b=true∧z=some r:=by
     intro b z hz
     cases b with
     |false=>simp at hz
     |true=>exact ⟨rfl,hz⟩
    have exec:∀ (B:Ab) (gd:List Nat),get B=get A→(∀ S a,Ah X S a→(∀ p∈gd,S.g p=get A p)→Region.wanted o (yielded ops a.tmps)=true)→
      Ac E o B (λ U=>bif Gja lg (Tr o i lg gd B U) then Jk E ops.toList l (Tr o i lg gd B U::lg) (ups B U) K else none)=some r→
      ∃ (L:List (Lg×Ak)) (A':Ab),K A'=some r∧N9a X ops Q (i::l) lg (get A) (get A') L:=by
     intro B gd hBA hw hs
     have generic:(Tr o i lg gd B [] ).ex=none→∃ (L:List (Lg×Ak)) (A':Ab),K A'=some r∧N9a X ops Q (i::l) lg (get A) (get A') L:=by
      intro hex
      obtain ⟨U,h1,h2⟩:=Lma (F:=rds B o) (λ p hp=>hp) hs
      obtain ⟨hok,hev⟩:=cnd h1
      have hfit:Wt (Tr o i lg gd B U) (Rua (Tr o i lg gd B U).F B U):=Ima (F:=gd++rds B o) rfl rfl hex
      refine next (y:=Tr o i lg gd B U) (x:=Rua (Tr o i lg gd B U).F B U) (A1:=ups B U) rfl rfl (λ p _=>by rw [hBA]) ?_ hfit ?_ hok hev
      ·show Bva (get A) U=_
       rw [Of,hBA]
      ·refine Qva hV hi hd (λ S a hS hN=>hw S a hS (λ p hp=>?_)) (λ A' hN=>⟨U,?_,rfl⟩)
       ·rw [← hBA]
        exact hN p (by show p∈gd++rds B o++_; simp [hp])
       ·exact h2 A' (λ p hp=>hN p (by show p∈gd++rds B o++_; simp [hp])) some
     cases hgd:gd with
     |cons p0 gd'=>subst hgd; exact generic (by simp [Tr])
     |nil=>
      subst hgd
      cases hexo:Q1a o with
      |none=>exact generic (by simp [Tr,hexo])
      |some q=>
       obtain ⟨t,j,d⟩:=q
       have:o.op = .extract (.tmp t) j∧o.dst=some d:=by
        unfold Q1a at hexo
        split at hexo
        ·rename_i e1 e2
         cases hexo
         exact ⟨e1,e2⟩
        ·cases hexo
       obtain ⟨hop,hod⟩:=this
       obtain ⟨vs,ag,lf,s,hg,hn,h1,h2⟩:=Lna hop hod hs
       obtain ⟨hok,hev⟩:=cnd h1
       have hex:∀ A' vs',(get A' t).2 = .tup vs'→Bva (get A') (Dsa t j d lf s vs')=(Bxa t j d ag lf s).e (get A'):=by
        intro A' vs' hv
        unfold Dsa Bxa
        simp only
        rw [hv]
        rfl
       refine next (y:=Tr o i lg [] B (Dsa t j d lf s vs)) (x:=Bxa t j d ag lf s) (A1:=ups B (Dsa t j d lf s vs)) rfl rfl ⟨vs,by rw [← hBA]; exact hg,hn⟩ ?_ (Loa hop hod) ?_ hok hev
       ·rw [← hBA,Of]
        exact (hex B vs hg).symm
       ·refine Qva hV hi hd (λ S a hS _=>hw S a hS (by simp)) (λ A' hN=>?_)
        obtain ⟨vs',g1,g2⟩:=hN
        exact ⟨_,h2 A' vs' g1 g2,hex A' vs' g1⟩
    have skip:∀ (B:Ab) (dj:Nat),get B=get A→(∀ S a,Ah X S a→S.g dj=get A dj→Region.wanted o (yielded ops a.tmps)=false)→
      (bif Gja lg (Pg o i lg [dj]) then Jk E ops.toList l (Pg o i lg [dj]::lg) (Pf o B) K else none)=some r→
      ∃ (L:List (Lg×Ak)) (A':Ab),K A'=some r∧N9a X ops Q (i::l) lg (get A) (get A') L:=by
     intro B dj hBA hw hs
     obtain ⟨hok,hev⟩:=cnd hs
     have hsk:Bva (get A) (match o.dst with|some d=>[⟨d,false,.one .un⟩]|none=>[])=get (Pf o B):=by
      unfold Pf
      cases o.dst with
      |none=>exact hBA.symm
      |some d=>rw [← hBA]; exact (Of [⟨d,false,.one .un⟩] B).symm
     refine next (y:=Pg o i lg [dj]) (x:=⟨λ g=>g dj=get A dj,λ g=>Bva g (match o.dst with|some d=>[⟨d,false,.one .un⟩]|none=>[])⟩) (A1:=Pf o B) rfl rfl rfl hsk ?_ (P2a hV hi hd (λ S a hS hN=>hw S a hS hN)) hok hev
     have hmap:(match o.dst with|some d=>[(⟨d,false,.one .un⟩:Up)]|none=>[]).map Up.l=o.dst.toList:=by cases o.dst<;>rfl
     refine ⟨λ p hp=>List.mem_append_right _ hp,λ g g' h hn=>by show g' dj=get A dj; rw [← h dj (by show dj∈[dj]++_; simp)]; exact hn,λ g p hp=>Pu _ g p (by rw [hmap]; exact hp),λ g g' p _ h=>Pv _ g g' p h,λ t j d h=>by cases h⟩
    split at h
    ·rename_i hgd
     exact exec A [] rfl (λ S a _ _=>by unfold Region.wanted; rw [hgd]) h
    ·rename_i j want hgd
     split at h
     ·cases h
     ·rename_i dj hdj
      cases hb:Nat.blt dj E.nt with
      |false=>rw [hb] at h; simp at h
      |true=>
       rw [hb,cond_true] at h
       split at h
       ·rename_i n b hgt
        have hwant:∀ (S:Sit) (a:Act),Ah X S a→S.g dj=get A dj→Region.wanted o (yielded ops a.tmps)=(b==want):=λ S a hS hs=>(Dra hV.en hS hgd hdj hb).1 b (by rw [hs,hgt])
        cases b with
        |true=>
         rw [cond_true] at h
         cases want with
         |true=>
          rw [cond_true] at h
          exact exec (lit A dj n true) [dj] (Sg hgt) (λ S a hS hs=>hwant S a hS (hs dj (by simp))) h
         |false=>
          rw [cond_false] at h
          exact skip (lit A dj n true) dj (Sg hgt) (λ S a hS hs=>hwant S a hS hs) h
        |false=>
         rw [cond_false] at h
         cases want with
         |true=>
          rw [cond_true] at h
          exact skip (lit A dj n false) dj (Sg hgt) (λ S a hS hs=>hwant S a hS hs) h
         |false=>
          rw [cond_false] at h
          exact exec (lit A dj n false) [dj] (Sg hgt) (λ S a hS hs=>hwant S a hS (hs dj (by simp))) h
       ·rename_i n hgt
        exact skip A dj rfl (λ S a hS hs=>(Dra hV.en hS hgd hdj hb).2 (by rw [hs,hgt])) h
       ·cases h
theorem P3a (hV:Sf X E) (hm:X.P.follows .mixedOrders=true):Z2 X E:=by
 intro R id ops Q S a A K r hK hg h hQ
 refine wp_region_any hm ?_
 obtain ⟨L,A',hA',T⟩:=Dta (X:=X) (ops:=ops) (Q:=Q) hV _ [] A K r (by simp) h
 have hlen:L.length=ops.size:=by
  have:=congrArg List.length T.ix
  simpa using this
 have hmem:∀ z∈L,z.1.i<ops.size:=by
  intro z hz
  have:z.1.i∈L.map (λ z=>z.1.i):=List.mem_map_of_mem hz
  rw [T.ix] at this
  simpa using this
 have K2:=(hK.world (w' := { S.w with drawn:=S.w.drawn+1 }) (O':=S.O) (λ k _ _=>⟨rfl,rfl⟩) rfl rfl rfl (Nat.le_refl _) hK.lt).1
 refine N8a (X:=X) (f:=get A') ?_ (λ S' a' A2 K' g' e'=>hQ S' a' A' K' (by rw [g',e']) hA') ops.size (L.map λ z=>(z.1.i,z.2)) _ (Th S { S.w with drawn:=S.w.drawn+1 } S.O) a A (by simp [hlen]) (by simp) ?_ ?_ ?_ ?_ ?_ ?_ K2 hg ?_
 ·intro i o hi j hj
  have hil:i<ops.size:=(Array.getElem?_eq_some_iff.1 hi).1
  obtain ⟨o',h1,h2⟩:=T.lt i (by simpa using hil)
  rw [hi] at h1
  cases h1
  exact h2 j hj
 ·rw [List.pairwise_map]
  have hp:(L.map (λ z=>z.1.i)).Pairwise (· < ·):=by rw [T.ix]; exact List.pairwise_lt_range
  rw [List.pairwise_map] at hp
  exact hp
 ·intro i hi
  constructor
  ·intro _
   have:i∈L.map (λ z=>z.1.i):=by rw [T.ix]; simpa using hi
   obtain ⟨z,hz,hzi⟩:=List.mem_map.1 this
   exact ⟨(z.1.i,z.2),List.mem_map_of_mem hz,hzi⟩
  ·intro _
   simp [Array.getD_eq_getD_getElem?,hi]
 ·rw [List.pairwise_map]
  refine List.Pairwise.imp_of_mem ?_ T.pair
  intro y z hy hz h
  rcases h with h|h
  ·exact .inl (T.anc z hz _ h)
  ·exact .inr ((T.fits y hy).1.ind (T.fits z hz).1 h)
 ·intro x hx
  obtain ⟨z,hz,rfl⟩:=List.mem_map.1 hx
  exact (T.fits z hz).2
 ·intro x hx
  obtain ⟨z,hz,rfl⟩:=List.mem_map.1 hx
  exact hmem z hz
 ·intro i o hi hl
  have hil:i<ops.size:=(Array.getElem?_eq_some_iff.1 hi).1
  simp [Array.getD_eq_getD_getElem?,hil] at hl
 ·have:(L.map λ z=>(z.1.i,z.2)).map Prod.snd=L.map Prod.snd:=by simp
  rw [this]
  exact T.runs
end
end

section
attribute [local irreducible] C H
def Ty.fit (ti:TypeId→Option TI):(t:Ty)→t.den→Prop
 |.i k,n=>(Lit.int k n).wf=true
 |.b,_=>True
 |.s,x=>x.size≤140737488351232
 |.sl e r,xs=>(∀ te,ti e=some te→xs.length * te.by_≤140737488351232)∧∀ x∈xs,r.fit ti x
 |.ow e r,xs=>(∀ te,ti e=some te→xs.length * te.by_≤140737488351232)∧∀ x∈xs,r.fit ti x
 |.pr x y,p=>x.fit ti p.1∧y.fit ti p.2
def Qwa (ti:TypeId→Option TI) (T:TypeId) (ty:Ty):Bool:=match ti T with
 |some t=>decide (t.ty=ty)
 |none=>false
def Qp (ti:TypeId→Option TI):List Field→Nat→Ty→Bool
 |[],_,_=>false
 |[f],o,ty=>Nat.beq f.offset o&&Qwa ti f.type ty
 |f::g::fs,o,.pr x y=>Nat.beq f.offset o&&Qwa ti f.type x&&Qp ti (g::fs) (o+x.sz) y
 |_,_,_=>false
def Pw (P:Program) (ti:TypeId→Option TI) (T:TypeId):Bool:=match ti T,P.underlying T with
 |none,_=>true
 |some t,some (.struct fs)=>t.ag&&Qp ti fs.toList 0 t.ty
 |some ⟨.sl e r,false,_,_⟩,some (.slice e')=>Nat.beq e e'&&Qwa ti e r
 |some ⟨.i k,false,_,_⟩,some (.int k')=>decide (k=k')
 |some ⟨.b,false,_,_⟩,some .bool=>true
 |some ⟨.s,false,_,_⟩,some .string=>true
 |_,_=>false
section
variable {H':Type} {enc:TypeId×Value→H'} {P:Program} {w:World} {base:Nat} {spare:Nat→Bool} {held:Bool} {ti:TypeId→Option TI}
theorem Nw {T:TypeId} {ty:Ty} (h:Qwa ti T ty=true):∃ t,ti T=some t∧t.ty=ty:=by
 unfold Qwa at h
 split at h
 ·rename_i t ht
  exact ⟨t,ht,of_decide_eq_true h⟩
 ·cases h
theorem Px {T:TypeId} {t:TI} (h:TOk P T t):P.cellsOf T=t.ty.sz:=by
 unfold Program.cellsOf
 rw [O6 h]
 rfl
theorem Ina {T:TypeId} {t:TI} (h:TOk P T t):P.bytesOf T=t.by_:=by
 obtain ⟨i,h1,_,h2,_⟩:=h.info
 unfold Program.bytesOf
 rw [h1]
 exact h2
theorem Ioa {α:Type} {R:α→List Value→Prop} {Fit:α→Prop} {k o n:Nat}:∀ (len:Nat),(∀ i,i<len→∃ x c,R x c∧Fit x∧c.length=n∧Ei w k (o+i * n) c)→
  ∃ (xs:List α) (cs:List Value),xs.length=len∧Rows R xs cs∧(∀ x∈xs,Fit x)∧cs.length=len * n∧Ei w k o cs
 |0,_=>⟨[],[],rfl,rfl,by simp,by simp,by intro j u hj; simp at hj⟩
 |len+1,h=>by
  obtain ⟨xs,cs,h1,h2,h3,h4,h5⟩:=Ioa len (λ i hi=>h i (by omega))
  obtain ⟨x,c,g1,g2,g3,g4⟩:=h len (by omega)
  refine ⟨xs++[x],cs++c,by simp [h1],Rows.append h2 ⟨c,[],by simp,g1,rfl⟩,?_,?_,?_⟩
  ·intro y hy
   rcases List.mem_append.1 hy with hy|hy
   ·exact h3 y hy
   ·simp at hy; subst hy; exact g2
  ·rw [List.length_append,h4,g3,Nat.add_mul,Nat.one_mul]
  ·intro j u hj
   by_cases hlt:j<cs.length
   ·rw [List.getElem?_append_left hlt] at hj
    exact h5 j u hj
   ·rw [List.getElem?_append_right (by omega)] at hj
    have:=g4 (j - cs.length) u hj
    rw [h4] at this hlt
    rwa [show o+len * n+(j - len * n)=o+j by omega] at this
theorem Lpa {a:Addr} {n:Nat} {cs:List Value} (h:w.cells? base a n=some cs) (hn:0<n):a.spot=none∧a.block<w.heap.size∧cs.length=n∧Ei w a.block a.off cs:=by
 unfold World.cells? at h
 split at h
 ·have hl:=mapM_some_length h
  have hg:=λ i hi=>mapM_some_get h i i hi
  simp only [List.length_range] at hl
  have h0:w.cell? (a.add 0)=cs[0]? := hg 0 (by simp [hn])
  have hc0:∃ v,cs[0]? = some v:=⟨_,List.getElem?_eq_getElem (by omega)⟩
  obtain ⟨v,hv⟩:=hc0
  rw [hv] at h0
  have hspot:a.spot=none∧a.block<w.heap.size:=by
   unfold World.cell? at h0
   split at h0
   ·rename_i c e f hb
    refine ⟨?_,(Array.getElem?_eq_some_iff.1 hb).1⟩
    cases hs:a.spot with
    |none=>rfl
    |some s=>simp [Addr.add,hs] at h0
   ·cases h0
  refine ⟨hspot.1,hspot.2,hl,λ j u hj=>?_⟩
  have hjl:j<n:=by have:=(List.getElem?_eq_some_iff.1 hj).1; omega
  have:=hg j (by simp [hjl])
  rw [hj] at this
  obtain ⟨b,off,sp⟩:=a
  have hsp:sp=none:=hspot.1
  subst hsp
  rw [Lv] at this
  exact this
 ·cases h
theorem Sq {T:TypeId}:∀ {ds:List (DataW H')} {m:Nat},m∈DataW.weightsAll P T ds↔∃ d∈ds,m∈d.weights P T
 |[],m=>by simp [DataW.weightsAll]
 |d::ds,m=>by
  simp only [DataW.weightsAll,List.mem_append,List.mem_cons,Sq (ds:=ds)]
  constructor
  ·rintro (h|⟨d',h1,h2⟩)
   ·exact ⟨d,.inl rfl,h⟩
   ·exact ⟨d',.inr h1,h2⟩
  ·rintro ⟨d',rfl|h1,h2⟩
   ·exact .inl h2
   ·exact .inr ⟨d',h1,h2⟩
def Qxa (enc:TypeId×Value→H') (P:Program) (w:World) (base:Nat) (spare:Nat→Bool) (held:Bool) (ti:TypeId→Option TI) (n:Nat):Prop:=
 ∀ T t cs y,ti T=some t→DataW.trod enc P w base spare held n T cs=some y→(∀ m∈y.1.weights P T,m≤140737488351232)→∃ X:t.ty.den,t.ty.rep P (λ k=>k<w.heap.size) w X cs∧t.ty.fit ti X
theorem Sr (htok:∀ T t,ti T=some t→TOk P T t) {n:Nat} (ih:Qxa enc P w base spare held ti n) {cs:List Value}:∀ (fs:List Field) (o:Nat) (ty:Ty) (xs:List (DataW H'×List MemPlace)),Qp ti fs o ty=true→xs.length=fs.length→
  (∀ (i:Nat) (f:Field),fs[i]? = some f→DataW.trod enc P w base spare held n f.type ((cs.drop f.offset).take (P.cellsOf f.type))=xs[i]?)→(∀ m∈DataW.weightsEach P (fs.map (·.type)) (xs.map (·.1)),m≤140737488351232)→o+ty.sz≤cs.length→
  ∃ X:ty.den,ty.rep P (λ k=>k<w.heap.size) w X ((cs.drop o).take ty.sz)∧ty.fit ti X
 |[],o,ty,xs,hp,_,_,_,_=>by cases ty<;>simp [Qp] at hp
 |[f],o,ty,xs,hp,hl,ht,hw,hs=>by
  simp only [Qp,Bool.and_eq_true] at hp
  obtain ⟨t,h1,h2⟩:=Nw hp.2
  have ho:f.offset=o:=Nat.eq_of_beq_eq_true hp.1
  subst h2
  have e:=ht 0 f rfl
  cases xs with
  |nil=>simp at hl
  |cons y xs=>
   have e':DataW.trod enc P w base spare held n f.type ((cs.drop f.offset).take (P.cellsOf f.type))=some y:=by simpa using e
   rw [Px (htok _ _ h1),ho] at e'
   exact ih f.type t _ y h1 e' (λ m hm=>hw m (by simp [DataW.weightsEach,hm]))
 |f::g::fs,o,ty,xs,hp,hl,ht,hw,hs=>by
  cases ty<;>first|(simp [Qp] at hp; done)|skip
  rename_i x y
  simp only [Qp,Bool.and_eq_true] at hp
  obtain ⟨⟨h0,h1a⟩,hp⟩:=hp
  obtain ⟨t,h1,h2⟩:=Nw h1a
  have ho:f.offset=o:=Nat.eq_of_beq_eq_true h0
  subst h2
  have e:=ht 0 f rfl
  cases xs with
  |nil=>simp at hl
  |cons z xs=>
   have e':DataW.trod enc P w base spare held n f.type ((cs.drop f.offset).take (P.cellsOf f.type))=some z:=by simpa using e
   rw [Px (htok _ _ h1),ho] at e'
   have hsz:o+(t.ty.sz+y.sz)≤cs.length:=hs
   obtain ⟨X,r1,f1⟩:=ih f.type t _ z h1 e' (λ m hm=>hw m (by simp [DataW.weightsEach,hm]))
   obtain ⟨Y,r2,f2⟩:=Sr htok ih (g::fs) (o+t.ty.sz) y xs hp (by simpa using hl) (λ i f' hf'=>by have:=ht (i+1) f' hf'; simpa using this) (λ m hm=>hw m (by
    simp only [List.map_cons,DataW.weightsEach,List.mem_append]
    exact .inr hm)) (by omega)
   refine ⟨(X,Y),⟨_,_,?_,r1,r2⟩,f1,f2⟩
   show (cs.drop o).take (t.ty.sz+y.sz)=_
   rw [List.take_add,List.drop_drop]
theorem Wu (htok:∀ T t,ti T=some t→TOk P T t) (hcl:∀ T,Pw P ti T=true):∀ n,Qxa enc P w base spare held ti n
 |0=>by
  intro T t cs y _ h
  simp [DataW.trod] at h
 |n+1=>by
  intro T t cs y hT h hw
  have hc:=hcl T
  have hk:=htok T t hT
  unfold Pw at hc
  rw [hT] at hc
  split at hc
  ·rename_i e; cases e
  ·-- a struct
   rename_i t0 fs e1 hu
   cases e1
   simp only [Bool.and_eq_true] at hc
   obtain ⟨xs,n',e1,rfl,hl,hxl,hx⟩:=DataW.trod_struct hu h
   have:n'=n:=by omega
   subst this
   rw [Px hk] at hl
   have hw':∀ m∈DataW.weightsEach P (fs.toList.map (·.type)) (xs.map (·.1)),m≤140737488351232:=λ m hm=>hw m (by simp only [DataW.weights,hu]; exact hm)
   obtain ⟨X,r,f⟩:=Sr htok (Wu htok hcl n') fs.toList 0 t.ty xs hc.2 (by simpa using hxl) (λ i f hf=>hx i f (by simpa using hf)) hw' (by omega)
   rw [List.drop_zero,← hl,List.take_length] at r
   exact ⟨X,r,f⟩
  ·-- a slice
   rename_i e r by_ fo e' e1 hu
   cases e1
   simp only [Bool.and_eq_true] at hc
   obtain ⟨te,hte,hty⟩:=Nw hc.2
   have he:e=e':=Nat.eq_of_beq_eq_true hc.1
   subst he
   subst hty
   have hke:=htok e te hte
   have hsz:T9 P e te.ty.sz:=O6 hke
   rcases DataW.trod_slice hu h with ⟨rfl,rfl⟩|⟨a,len,cap,elems,rest,n',e1,rfl,rfl,hb,hl,hm,hlen,hel,hsp,hns⟩
   ·exact ⟨[],⟨_,rfl,hsz,none,0,[],rfl,Nat.le_refl _,rfl,λ h=>(h rfl).elim⟩,by simp,by simp⟩
   ·have:n'=n:=by omega
    subst this
    have hlw:(elems.map (·.1)).length+(rest.map (·.1)).length=elems.length+rest.length:=by simp
    have hw0:(elems.length+rest.length) * P.bytesOf e≤140737488351232:=hw _ (by simp only [DataW.weights,hu]; simp)
    rw [Ina hke] at hw0
    rw [Px hke] at hel
    have hpos:=Nb te.ty
    have each:∀ i,i<len→∃ x c,te.ty.rep P (λ k=>k<w.heap.size) w x c∧te.ty.fit ti x∧c.length=te.ty.sz∧((i=0→a.spot=none)∧a.block<w.heap.size)∧Ei w a.block (a.off+i * te.ty.sz) c:=by
     intro i hi
     have e1:=hel i hi
     rw [List.getElem?_eq_getElem (by omega)] at e1
     simp only [Option.bind_eq_some_iff] at e1
     obtain ⟨c,hc1,hc2⟩:=e1
     obtain ⟨g1,g2,g3,g4⟩:=Lpa hc1 hpos
     obtain ⟨X,r1,f1⟩:=Wu htok hcl n' e te c _ hte hc2 (λ m hm=>hw m (by
      simp only [DataW.weights,hu,List.mem_cons,List.mem_append]
      exact .inr (.inl (Sq.2 ⟨_,List.mem_map_of_mem (List.getElem_mem (l:=elems) (n:=i) (by omega)),hm⟩))))
     have hblk:(a.add (i * te.ty.sz)).block=a.block∧(a.add (i * te.ty.sz)).off=a.off+i * te.ty.sz:=by
      unfold Addr.add
      split
      ·rename_i h0; exact ⟨rfl,by omega⟩
      ·exact ⟨rfl,rfl⟩
     rw [hblk.1,hblk.2] at g4
     rw [hblk.1] at g2
     refine ⟨X,c,r1,f1,g3,⟨λ h0=>?_,g2⟩,g4⟩
     subst h0
     rw [Nat.zero_mul] at g1
     exact g1
    obtain ⟨xs,cs,h1,h2,h3,h4,h5⟩:=Ioa (w:=w) (k:=a.block) (o:=a.off) (n:=te.ty.sz) (R:=λ x c=>te.ty.rep P (λ k=>k<w.heap.size) w x c) (Fit:=te.ty.fit ti) len (λ i hi=>by
     obtain ⟨x,c,q1,q2,q3,q4,q5⟩:=each i hi
     exact ⟨x,c,q1,q2,q3,q5⟩)
    refine ⟨xs,⟨_,rfl,hsz,some a,cap,cs,by rw [h1],by omega,h2,λ hne=>?_⟩,λ te' ht'=>?_,h3⟩
    ·have hpos:0<len:=by rw [← h1]; cases xs with|nil=>exact (hne rfl).elim|cons=>simp
     obtain ⟨x,c,q1,q2,q3,q4,q5⟩:=each 0 hpos
     refine ⟨a.block,a.off,?_,q4.2,h5⟩
     obtain ⟨b,off,sp⟩:=a
     have hsp:sp=none:=q4.1 rfl
     rw [hsp]
    ·rw [hte] at ht'
     cases ht'
     rw [h1,← hlen]
     exact Nat.le_trans (Nat.mul_le_mul_right _ (Nat.le_add_right _ _)) hw0
  ·rename_i k by_ fo k' e1 hu
   cases e1
   have:k=k':=of_decide_eq_true hc
   subst this
   obtain ⟨m,rfl,rfl,hwf⟩:=DataW.trod_int hu h
   exact ⟨m,rfl,hwf⟩
  ·rename_i by_ fo e1 hu
   cases e1
   obtain ⟨b,rfl,rfl⟩:=DataW.trod_bool hu h
   exact ⟨b,rfl,trivial⟩
  ·rename_i by_ fo e1 hu
   cases e1
   obtain ⟨s,rfl,rfl,hs⟩:=DataW.trod_string hu h
   refine ⟨s,rfl,?_⟩
   have:=hw s.data.toList.length (by rw [show (DataW.lit (.string s.data.toList):DataW H').weights P T=[s.data.toList.length] from by simp only [DataW.weights]]; exact List.mem_singleton.2 rfl)
   have e:s.data.toList.length=s.size:=Array.length_toList
   rw [e] at this
   exact this
  ·cases hc
end
end

end Go.Proofs.YtlfoljnopndpeaaGreat.Vf
