import Derived.Test.YtlfoljnopndpeaaGreatMam
import Derived.Test.YtlfoljnopndpeaaGreatMaj
import Derived.Test.YtlfoljnopndpeaaGreatMal
set_option linter.unusedVariables false
set_option linter.unusedSimpArgs false
namespace Go.Proofs.YtlfoljnopndpeaaGreat.Vf
open Go

def hI (d:Dsk) (out:List ByteArray) (x:Nmd):List ByteArray:=bif (lkD d x.1).2==0 then wt out x.1 else out
def R9 (d:Dsk):List ByteArray:=d.1.foldl (hI d) []
theorem Nqa (d:Dsk):∀ (l:List Nmd) (out:List ByteArray),(l.foldl (hI d) out).length≤out.length+l.length
 |[],out=>by simp
 |x::l,out=>by
  have h1:=Nqa d l (hI d out x)
  have h2:(hI d out x).length≤out.length+1:=by
   unfold hI
   cases (lkD d x.1).2==0 with
   |false=>exact Nat.le_succ _
   |true=>exact Nla
  rw [List.foldl_cons,List.length_cons]
  omega
theorem Mba (d:Dsk) (hd:DIn d) (hb:DB d):Tot (λ k=>Hg k d) (λ r=>r=R9 d):=by
 have hl:=hd.2.1
 unfold Hg
 refine Tot.bind (Q:=λ r=>r=R9 d) ?_ (by rintro r rfl; exact Tot.pure rfl)
 refine Tot.up (L:=λ k i s=>G5 k s d.1 (d.1.length:Int) i d) (Q:=λ r=>r=R9 d) d.1.length (λ j s=>(d.1.drop j).foldl (hI d) s=R9 d∧s.length≤j) ?_ ?_ 0 [] (Nat.zero_le _) ⟨rfl,Nat.le_refl _⟩
 ·rintro s ⟨h,_⟩
  rw [List.drop_length] at h
  simp (disch:=omega) only [G5,dF]
  exact Tot.pure h
 ·rintro j s hj ⟨h,hs⟩ next
  rw [Ga (d:=Kx) hj,List.foldl_cons] at h
  simp (disch:=omega) only [G5,dT,Int.toNat_natCast,w64]
  have e0:d.1.getD j ((⟨#[]⟩:ByteArray),([]:List Int))=d.1.getD j Kx:=rfl
  rw [e0]
  refine Tot.bind (Wz hd.1.1.1 hb.1 _) ?_
  rintro r rfl
  unfold hI at h
  cases hc:(lkD d (d.1.getD j Kx).1).2==0 with
  |false=>
   rw [hc] at h
   exact Tot.no rfl (next _ ⟨h,by omega⟩)
  |true=>
   rw [hc] at h
   refine Tot.yes rfl (Tot.bind (Wy s _ (by omega)) ?_)
   rintro r rfl
   have:=Nla (l:=s) (s:=(d.1.getD j Kx).1)
   exact next _ ⟨h,by omega⟩
def C8a (l:List ByteArray) (s:ByteArray):Bool:=l.any λ y=>teq y s
theorem Mca {l:List ByteArray} {s:ByteArray}:C8a l s=true↔s∈l:=by
 unfold C8a
 rw [List.any_eq_true]
 constructor
 ·rintro ⟨x,hx,e⟩; rw [← N6.1 e]; exact hx
 ·intro h; exact ⟨s,h,N6.2 rfl⟩
theorem Mda (l:List ByteArray) (s:ByteArray) (hl:l.length≤1000000000):Tot (λ k=>Ey k l s) (λ r=>r=C8a l s):=by
 unfold Ey
 refine Tot.bind (Q:=λ r=>r=bif C8a l s then .inl true else .inr ()) ?_ (by rintro r rfl; cases C8a l s<;>exact Tot.pure rfl)
 refine Tot.up (L:=λ k i (_:Unit)=>E5 k l s i) (Q:=λ r=>r=bif C8a l s then .inl true else .inr ()) l.length (λ j _=>C8a (l.drop j) s=C8a l s) ?_ ?_ 0 () (Nat.zero_le _) rfl
 ·intro _ h
  rw [List.drop_length] at h
  simp (disch:=omega) only [E5,dF,← h]
  exact Tot.pure rfl
 ·intro j _ hj h next
  rw [Ga (d:=Ng) hj] at h
  unfold C8a at h
  rw [List.any_cons] at h
  simp (disch:=omega) only [E5,dT,Int.toNat_natCast,w64]
  refine Tot.ite (λ hc=>Tot.pure ?_) (λ hc=>next () ?_)
  ·rw [show teq (l.getD j Ng) s=true from hc,Bool.true_or] at h
   unfold C8a
   rw [← h]
   rfl
  ·rw [show teq (l.getD j Ng) s=false from hc,Bool.false_or] at h
   exact h
def Fka (l:List ByteArray):Nat→ByteArray→List ByteArray×Nat
 |0,_=>(l,0)
 |k+1,s=>bif tlt s (l.getD k Ng) then Fka (l.set (k+1) (l.getD k Ng)) k s else (l,k+1)
def Pka (l:List ByteArray) (s:ByteArray):List ByteArray:=(Fka (l++[s]) l.length s).1.set (Fka (l++[s]) l.length s).2 s
theorem X2:∀ (k:Nat) (l:List ByteArray) (s:ByteArray),(Fka l k s).1.length=l.length∧(Fka l k s).2≤k∧∀ y∈(Fka l k s).1,y∈l∨y=Ng
 |0,_,_=>⟨rfl,Nat.le_refl _,λ _ h => .inl h⟩
 |k+1,l,s=>by
  unfold Fka
  cases tlt s (l.getD k Ng) with
  |false=>exact ⟨rfl,Nat.le_refl _,λ _ h => .inl h⟩
  |true=>
   obtain ⟨h1,h2,h3⟩:=X2 k (l.set (k+1) (l.getD k Ng)) s
   rw [cond_true]
   refine ⟨by rw [h1,List.length_set],by omega,λ y hy=>?_⟩
   rcases h3 y hy with h|h
   ·rcases List.mem_or_eq_of_mem_set h with h|h
    ·exact .inl h
    ·by_cases hk:k<l.length
     ·rw [h]; exact .inl (Aa hk)
     ·rw [h,List.getD_eq_getElem?_getD,List.getElem?_eq_none (by omega)]; exact .inr rfl
   ·exact .inr h
theorem Mea (l:List ByteArray) (s:ByteArray):(Pka l s).length=l.length+1:=by
 unfold Pka
 rw [List.length_set,(X2 _ _ _).1,List.length_append]
 rfl
theorem Mfa {l:List ByteArray} {s y:ByteArray} (h:y∈Pka l s):y∈l∨y=s∨y=Ng:=by
 unfold Pka at h
 rcases List.mem_or_eq_of_mem_set h with h|h
 ·rcases (X2 _ _ _).2.2 y h with h|h
  ·rcases List.mem_append.1 h with h|h
   ·exact .inl h
   ·exact .inr (.inl (List.mem_singleton.1 h))
  ·exact .inr (.inr h)
 ·exact .inr (.inl h)
def hS1 (l:List Nmd) (j:Nat) (out:List ByteArray) (x:Nmd):List ByteArray:=bif (R7 x.2).isSome&&(!(C8a out x.1)&&(Fha l x.1==(j:Int))) then Pka out x.1 else out
def hS (l:List Nmd):List Nmd→Nat→List ByteArray→List ByteArray
 |[],_,out=>out
 |x::r,j,out=>hS l r (j+1) (hS1 l j out x)
def Ra (d:Dsk):List ByteArray:=hS d.1 d.1 0 []
theorem Jca (l:List Nmd) (j:Nat) (out:List ByteArray) (x:Nmd):(hS1 l j out x).length≤out.length+1:=by
 unfold hS1
 cases (R7 x.2).isSome&&(!(C8a out x.1)&&(Fha l x.1==(j:Int))) with
 |false=>exact Nat.le_succ _
 |true=>rw [cond_true,Mea]; exact Nat.le_refl _
theorem Rca (l:List Nmd) (hl:E2a l):∀ (r:List Nmd) (j:Nat) (out:List ByteArray),(∀ x∈r,x∈l)→(∀ y∈out,Bya y)→(hS l r j out).length≤out.length+r.length∧∀ y∈hS l r j out,Bya y
 |[],_,out,_,h=>⟨by simp [hS],h⟩
 |x::r,j,out,hm,h=>by
  have h2:=Jca l j out x
  obtain ⟨a1,a2⟩:=Rca l hl r (j+1) (hS1 l j out x) (λ y hy=>hm y (List.mem_cons_of_mem _ hy)) (λ y hy=>by
   unfold hS1 at hy
   cases hc:(R7 x.2).isSome&&(!(C8a out x.1)&&(Fha l x.1==(j:Int))) with
   |false=>rw [hc] at hy; exact h y hy
   |true=>
    rw [hc] at hy
    rcases Mfa hy with hy|rfl|rfl
    ·exact h y hy
    ·exact hl x (hm x List.mem_cons_self)
    ·unfold Bya; decide)
  refine ⟨?_,a2⟩
  show (hS l r (j+1) (hS1 l j out x)).length≤_
  rw [List.length_cons]
  omega
theorem C9a (a b:List Nmd) (j:Nat) (hj:j<a.length) (ha:a.length≤5000000):∀ (k:Nat) (x:List ByteArray),k<x.length→x.length≤5000000→
  Tot (λ n=>H4 n x (j:Int) (k:Int) (a,b)) (λ r=>r=((Fka x k (a.getD j Kx).1).1,(j:Int),((Fka x k (a.getD j Kx).1).2:Int),(a,b))):=by
 intro k
 induction k with
 |zero=>
  intro x hk hx
  refine Tot.succ ?_
  simp (disch:=omega) only [H4,dF]
  exact Tot.pure rfl
 |succ k ih=>
  intro x hk hx
  refine Tot.succ ?_
  have e1:((k+1:Nat):Int) - 1=(k:Int):=by omega
  simp (disch:=omega) only [H4,dT,w64,e1,Int.toNat_natCast]
  have e0:a.getD j ((⟨#[]⟩:ByteArray),([]:List Int))=a.getD j Kx:=rfl
  rw [e0]
  unfold Fka
  refine Tot.ite (λ h=>?_) (λ h=>?_)
  ·rw [Nfa] at h
   rw [show tlt (a.getD j Kx).1 (x.getD k Ng)=true from h,cond_true]
   exact ih _ (by rw [List.length_set]; omega) (by rw [List.length_set]; omega)
  ·rw [Nfa] at h
   rw [show tlt (a.getD j Kx).1 (x.getD k Ng)=false from h,cond_false]
   exact Tot.pure rfl
theorem Mga (d:Dsk) (hd:DIn d) (hb:DB d):Tot (λ k=>G8 k d) (λ r=>r=Ra d):=by
 have hl:=hd.2.1
 unfold G8
 refine Tot.bind (Q:=λ r=>r=Ra d) ?_ (by rintro r rfl; exact Tot.pure rfl)
 refine Tot.up (L:=λ k i s=>Dw k s i d) (Q:=λ r=>r=Ra d) d.1.length (λ j s=>hS d.1 (d.1.drop j) j s=Ra d∧s.length≤j) ?_ ?_ 0 [] (Nat.zero_le _) ⟨rfl,Nat.le_refl _⟩
 ·rintro s ⟨h,_⟩
  rw [List.drop_length] at h
  simp (disch:=omega) only [Dw,dF]
  exact Tot.pure h
 ·rintro j s hj ⟨h,hs⟩ next
  rw [Ga (d:=Kx) hj] at h
  have hlen:=Jca d.1 j s (d.1.getD j Kx)
  have nx:=next _ ⟨show hS d.1 (d.1.drop (j+1)) (j+1) (hS1 d.1 j s (d.1.getD j Kx))=Ra d from h,by omega⟩
  have hx:=Aa (d:=Kx) hj
  simp (disch:=omega) only [Dw,dT,Int.toNat_natCast,w64]
  have e0:d.1.getD j ((⟨#[]⟩:ByteArray),([]:List Int))=d.1.getD j Kx:=rfl
  rw [e0]
  unfold hS1 at nx
  refine Tot.bind (Sy _ (hb.1 _ hx) (hd.1.1.1.2 _ hx)) ?_
  rintro r rfl
  unfold R8
  cases hf:R7 (d.1.getD j Kx).2 with
  |none=>
   rw [hf] at nx
   exact Tot.yes rfl nx
  |some f=>
   rw [hf] at nx
   refine Tot.no rfl (Tot.bind (Mda s _ (by omega)) ?_)
   rintro r rfl
   cases hc:C8a s (d.1.getD j Kx).1 with
   |true=>
    rw [hc] at nx
    exact Tot.yes rfl nx
   |false=>
    rw [hc] at nx
    refine Tot.no rfl (Tot.bind (Nja d.1 _ (by omega)) ?_)
    rintro r rfl
    cases he:Fha d.1 (d.1.getD j Kx).1==(j:Int) with
    |false=>
     rw [he] at nx
     exact Tot.yes (by unfold bne; rw [he]; rfl) nx
    |true=>
     rw [he] at nx
     refine Tot.no (by unfold bne; rw [he]; rfl) (Tot.ble (by simp only [List.length_cons,List.length_nil]; omega) ?_)
     have hq:=C9a d.1 d.2 j hj (by omega) s.length (s++[(d.1.getD j Kx).1]) (by simp) (by simp only [List.length_append,List.length_cons,List.length_nil]; omega)
     refine Tot.bind hq ?_
     rintro r rfl
     obtain ⟨w1,w2,_⟩:=X2 s.length (s++[(d.1.getD j Kx).1]) (d.1.getD j Kx).1
     rw [List.length_append] at w1
     simp only [List.length_cons,List.length_nil] at w1
     simp (disch:=omega) only [dT,Int.toNat_natCast,w64]
     exact nx

section
open Go
end

def Sz (v:BitVec 32) (b:Int):BitVec 32:=(v ^^^ BitVec.ofInt 32 b) * 16777619#32
def Tk (x:ByteArray):Nat→BitVec 32
 |0=>2166136261#32
 |n+1=>Sz (Tk x n) (bt x (n:Int))
def E6a (x:ByteArray):Nat:=(Tk x x.size).toNat
theorem Sua (v:BitVec 32):IntKind.wrap .u32 ((v.toNat:Int) * 16777619)=((v * 16777619#32).toNat:Int):=by
 rw [IntKind.wrap_u32,BitVec.toNat_mul]
 show (v.toNat:Int) * 16777619 % 4294967296=((v.toNat * 16777619 % 4294967296:Nat):Int)
 omega
theorem Sva (v:BitVec 32):IntKind.wrap .i64 ((BitVec.ofInt (IntKind.bits .i64) ((v.toNat:Int) * 16777619) &&& BitVec.ofInt (IntKind.bits .i64) 4294967295).toNat)=((v * 16777619#32).toNat:Int):=by
 have h:=v.isLt
 rw [BitVec.toNat_and,show (v.toNat:Int) * 16777619=((v.toNat * 16777619:Nat):Int) by omega,Nx _ (by omega),show (BitVec.ofInt (IntKind.bits .i64) 4294967295).toNat=2 ^ 32 - 1 from by decide,Nat.and_two_pow_sub_one_eq_mod,BitVec.toNat_mul]
 show IntKind.wrap .i64 ((v.toNat * 16777619 % 4294967296:Nat):Int)=((v.toNat * 16777619 % 4294967296:Nat):Int)
 exact w64 (by omega) (by omega)
theorem Mha (x:ByteArray) (hx:x.size≤1000000000):Tot (λ k=>Jm k x) (λ r=>r=(E6a x:Int)):=by
 unfold Jm
 refine Tot.bind (Q:=λ r=>r=(E6a x:Int)) ?_ (by
  rintro r rfl
  have:=(Tk x x.size).isLt
  exact Tot.pure (w64 (n:=(E6a x:Int)) (by omega) (by show ((Tk x x.size).toNat:Int)≤_; omega)))
 refine Tot.up (L:=λ k i (s:Int)=>H6 k x s i) (Q:=λ r=>r=(E6a x:Int)) x.size (λ j s=>s=((Tk x j).toNat:Int)) ?_ ?_ 0 _ (Nat.zero_le _) rfl
 ·rintro s rfl
  simp (disch:=omega) only [H6,dF]
  exact Tot.pure rfl
 ·rintro j s hj rfl next
  have hb:=A0a x (j:Int)
  have e1:IntKind.wrap .u32 (bt x (j:Int))=bt x (j:Int):=Go.IntWalk.u32_in _ ⟨by omega,by omega⟩
  simp (disch:=omega) only [H6,dT,w64,e1,S6a (Tk x j) _ (bt x (j:Int)) rfl,Sua]
  exact next _ rfl
theorem Mia (x:ByteArray) (hx:x.size≤1000000000):Tot (λ k=>Jl k x) (λ r=>r=(E6a x:Int)):=by
 unfold Jl
 refine Tot.bind (Q:=λ r=>r=(E6a x:Int)) ?_ (by rintro r rfl; exact Tot.pure rfl)
 refine Tot.up (L:=λ k i (s:Int)=>H2 k x s i) (Q:=λ r=>r=(E6a x:Int)) x.size (λ j s=>s=((Tk x j).toNat:Int)) ?_ ?_ 0 _ (Nat.zero_le _) rfl
 ·rintro s rfl
  simp (disch:=omega) only [H2,dF]
  exact Tot.pure rfl
 ·rintro j s hj rfl next
  have hb:=A0a x (j:Int)
  have hx:IntKind.wrap .i64 ((BitVec.ofInt (IntKind.bits .i64) ((Tk x j).toNat:Int) ^^^ BitVec.ofInt (IntKind.bits .i64) (bt x (j:Int))).toNat)=((Tk x j ^^^ BitVec.ofInt 32 (bt x (j:Int))).toNat:Int):=by
   have:=Rma (Tk x j) (BitVec.ofInt 32 (bt x (j:Int)))
   rwa [← Nma hb] at this
  simp (disch:=omega) only [H2,dT,w64,hx,Sva]
  exact next _ rfl
def Td (r:Rng) (x:ByteArray):List Int:=r.2.getD (E6a x % r.2.length) []
theorem Rda (a b:Nat):Int.tmod (a:Int) (b:Int)=((a % b:Nat):Int):=by
 rw [Int.tmod_eq_emod_of_nonneg (by omega)]
 exact (Int.natCast_emod _ _).symm
theorem E7a (r:Rng) (x:ByteArray) (hr:RBd r) (hx:x.size≤1000000000):Tot (λ k=>Bp k r x) (λ y=>y=Td r x):=by
 have hrl:=hr.1
 unfold Bp
 by_cases h0:r.2.length=0
 ·refine Tot.yes (by rw [h0]; rfl) (Tot.pure ?_)
  unfold Td
  rw [List.eq_nil_of_length_eq_zero h0]
  rfl
 ·have hm:=Nat.mod_lt (E6a x) (show 0<r.2.length by omega)
  refine Tot.no (by rw [beq_eq_false_iff_ne]; omega) (Tot.bind (Q:=λ y=>y=((E6a x % r.2.length:Nat):Int)) ?_ ?_)
  ·unfold J2
   refine Tot.ndec (by omega) (Tot.bind (Mha x hx) ?_)
   rintro h rfl
   exact Tot.ndec (by omega) (Tot.pure (Rda _ _))
  ·rintro y rfl
   simp (disch:=omega) only [dT,Int.toNat_natCast]
   have hp:=hr.2 _ (Aa (d:=[]) hm)
   rw [A6a _ (by omega)]
   exact Tot.pure rfl
theorem E8a (r:Rng) (x:ByteArray) (hr:RBd r) (hx:x.size≤1000000000):Tot (λ k=>Bo k r x) (λ y=>y=Td r x):=by
 have hrl:=hr.1
 unfold Bo
 by_cases h0:r.2.length=0
 ·refine Tot.yes (by rw [h0]; rfl) (Tot.pure ?_)
  unfold Td
  rw [List.eq_nil_of_length_eq_zero h0]
  rfl
 ·have hm:=Nat.mod_lt (E6a x) (show 0<r.2.length by omega)
  refine Tot.no (by rw [beq_eq_false_iff_ne]; omega) (Tot.bind (Q:=λ y=>y=((E6a x % r.2.length:Nat):Int)) ?_ ?_)
  ·unfold J1
   refine Tot.ndec (by omega) (Tot.bind (Mia x hx) ?_)
   rintro h rfl
   exact Tot.ndec (by omega) (Tot.pure (Rda _ _))
  ·rintro y rfl
   have hp:=hr.2 _ (Aa (d:=[]) hm)
   simp (disch:=omega) only [dT,Int.toNat_natCast]
   exact Tot.ble (by simp only [List.length_nil]; omega) (Tot.pure rfl)
theorem Fla (r:Rng) (x:ByteArray) (id:Int) (hr:RBd r) (hx:x.size≤1000000000):Tot (λ k=>Eh k r x id) (λ y=>y=Og (Td r x) id):=by
 unfold Eh
 refine Tot.bind (E7a r x hr hx) ?_
 rintro p rfl
 have hp:(Td r x).length≤2000000:=by
  unfold Td
  by_cases hm:E6a x % r.2.length<r.2.length
  ·exact hr.2 _ (Aa (d:=[]) hm)
  ·rw [List.getD_eq_getElem?_getD,List.getElem?_eq_none (by omega)]; exact Nat.zero_le _
 exact Tot.bind (Jaa _ _ (by omega)) (by rintro b rfl; exact Tot.pure rfl)

section
variable {R:Type} {L:Nat→Int→Option (Sum Bool R)}
theorem Ou (p:Nat→Bool) (n:Nat):(List.range (n+1)).all p=((List.range n).all p&&p n):=by
 rw [List.range_succ,List.all_append,List.all_cons,List.all_nil,Bool.and_true]
theorem Tl {p:Nat→Bool} {m n:Nat} (h:m≤n) (hn:(List.range n).all p=true):(List.range m).all p=true:=by
 rw [List.all_eq_true] at hn ⊢
 exact λ x hx=>hn x (List.mem_range.2 (by have:=List.mem_range.1 hx; omega))
theorem Tot.allI (n:Nat) (p:Nat→Bool) (e:R) (hend:Tot (λ k=>L (k+1) (n:Int)) (λ r=>r = .inr e))
  (Sz:∀ j,j<n→∀ (Q:Sum Bool R→Prop),(p j=false→Q (.inl false))→(p j=true→Tot (λ k=>L k ((j:Int)+1)) Q)→Tot (λ k=>L (k+1) (j:Int)) Q):
  Tot (λ k=>L k 0) (λ r=>r=bif (List.range n).all p then .inr e else .inl false):=by
 refine Tot.up (L:=λ k i (_:Unit)=>L k i) (Q:=λ r=>r=bif (List.range n).all p then .inr e else .inl false) n (λ j _=>(List.range j).all p=true) ?_ ?_ 0 () (Nat.zero_le _) rfl
 ·intro _ h
  rw [h]
  exact hend
 ·intro j _ hj h next
  refine Sz j hj _ (λ hp=>?_) (λ hp=>next () (by rw [Ou,h,hp]; rfl))
  cases hc:(List.range n).all p with
  |false=>rfl
  |true=>
   have:=Tl (show j+1≤n by omega) hc
   rw [Ou,hp,Bool.and_false] at this
   cases this
end
theorem Py {α:Type} (l:List α) (d:α) (p:α→Bool):l.all p=(List.range l.length).all λ j=>p (l.getD j d):=by
 rw [Bool.eq_iff_iff,List.all_eq_true,List.all_eq_true]
 constructor
 ·intro h j hj
  exact h _ (Aa (List.mem_range.1 hj))
 ·intro h x hx
  obtain ⟨j,hj,rfl⟩:=List.mem_iff_getElem.1 hx
  have:=h j (List.mem_range.2 hj)
  rwa [List.getD_eq_getElem?_getD,List.getElem?_eq_getElem hj,Option.getD_some] at this
abbrev Wri:=ByteArray×Fil×Bool
abbrev Wld:=List Dev×Rng×List Nod×Stp×List Wri×List ByteArray
def Mja:Wri:=((⟨#[]⟩:ByteArray),((((0:Int),((0:Int),(0:Int))),(false,[])),false))
def WIn (w:Wld):Prop:=RBd w.2.1∧w.1.length≤2000000∧(w.2.2.1.length≤2000000∧∀ n∈w.2.2.1,NIn n)∧(w.2.2.2.2.1.length≤2000000∧∀ x∈w.2.2.2.2.1,Bya x.1)∧(w.2.2.2.2.2.length≤2000000∧∀ s∈w.2.2.2.2.2,Bya s)

def atN:List Nod→Int→Nat→List Int
 |[],_,_=>[]
 |n::ns,id,i=>bif n.1==id then (i:Int)::atN ns id (i+1) else atN ns id (i+1)
theorem X3 (n:Nod) (ns:List Nod) (id:Int) (i:Nat):atN (n::ns) id i=bif n.1==id then (i:Int)::atN ns id (i+1) else atN ns id (i+1):=rfl
def whr (ns:List Nod) (ids:List Int):List Int:=ids.flatMap λ id=>atN ns id 0
theorem X4 (id:Int):∀ (ns:List Nod) (i:Nat),(atN ns id i).length≤ns.length
 |[],_=>Nat.le_refl _
 |n::ns,i=>by
  unfold atN
  have:=X4 id ns (i+1)
  cases n.1==id
  ·rw [cond_false,List.length_cons]; omega
  ·rw [cond_true,List.length_cons,List.length_cons]; omega
theorem Jda (ns:List Nod):∀ (ids:List Int),(whr ns ids).length≤ids.length * ns.length
 |[]=>Nat.zero_le _
 |id::ids=>by
  have h1:=X4 id ns 0
  have h2:=Jda ns ids
  unfold whr at h2 ⊢
  rw [List.flatMap_cons,List.length_append,List.length_cons,Nat.succ_mul]
  omega
theorem Pz {ns:List Nod} {ids:List Int} (h1:ns.length≤2000000) (h2:ids.length≤2000000):(whr ns ids).length≤4000000000000:=
 Nat.le_trans (Jda ns ids) (Nat.mul_le_mul h2 h1)
theorem E9a (ns:List Nod) (id:Int) (ids:List Int):whr ns (id::ids)=atN ns id 0++whr ns ids:=List.flatMap_cons
theorem Tm (w:Wld) (id:Int) (a b c:List Int) (m i0:Int) (out:List Int) (h1:w.2.2.1.length≤2000000) (ho:out.length≤4000000000000):
  Tot (λ k=>Bl k out id a m i0 w.2.2.1 (w.2.2.1.length:Int) 0 w) (λ r=>r=(out++atN w.2.2.1 id 0,a,m,i0,w)):=by
 have m1:=X4 id w.2.2.1 0
 refine Tot.up (L:=λ k i (s:List Int)=>Bl k s id a m i0 w.2.2.1 (w.2.2.1.length:Int) i w) (Q:=λ r=>r=(out++atN w.2.2.1 id 0,a,m,i0,w)) w.2.2.1.length (λ j s=>s++atN (w.2.2.1.drop j) id j=out++atN w.2.2.1 id 0) ?_ ?_ 0 out (Nat.zero_le _) rfl
 ·intro s h
  rw [List.drop_length] at h
  simp (disch:=omega) only [Bl,dF]
  refine Tot.pure ?_
  rw [← h]
  show _=(s++[],a,m,i0,w)
  rw [List.append_nil]
 ·intro j s hj h next
  have g:=congrArg List.length h
  rw [List.length_append,List.length_append] at g
  rw [Ga (d:=Lo) hj,X3] at h
  obtain ⟨x,ex⟩:∃ x:Nod,w.2.2.1.getD j Lo=x:=⟨_,rfl⟩
  rw [ex] at h
  have e0:w.2.2.1.getD j ((0:Int),(([],[]),([],[])))=x:=ex
  simp (disch:=omega) only [Bl,dT,Int.toNat_natCast,w64,e0]
  cases hx:x.1==id with
  |true=>
   rw [hx,cond_true] at h
   refine Tot.yes rfl (Tot.ble (by simp only [List.length_cons,List.length_nil]; omega) (next (s++[(j:Int)]) ?_))
   rw [← h,List.append_assoc]
   rfl
  |false=>
   rw [hx,cond_false] at h
   refine Tot.no rfl (next s h)
theorem Caa (w:Wld) (ids:List Int) (h1:w.2.2.1.length≤2000000) (h2:ids.length≤2000000):Tot (λ k=>F5 k w ids) (λ r=>r=whr w.2.2.1 ids):=by
 have m1:=Pz h1 h2
 unfold F5
 refine Tot.bind (Q:=λ r=>r=whr w.2.2.1 ids) ?_ (by rintro r rfl; exact Tot.pure rfl)
 refine Tot.up (L:=λ k i (s:List Int)=>Db k s ids (ids.length:Int) i w) (Q:=λ r=>r=whr w.2.2.1 ids) ids.length (λ j s=>s++whr w.2.2.1 (ids.drop j)=whr w.2.2.1 ids) ?_ ?_ 0 [] (Nat.zero_le _) rfl
 ·intro s h
  rw [List.drop_length] at h
  simp (disch:=omega) only [Db,dF]
  refine Tot.pure ?_
  rw [← h]
  exact (List.append_nil s).symm
 ·intro j s hj h next
  have g:=congrArg List.length h
  rw [List.length_append] at g
  rw [Ga (d:=0) hj,E9a] at h
  simp (disch:=omega) only [Db,dT,Int.toNat_natCast,w64]
  refine Tot.bind (Tm w (ids.getD j 0) ids [] [] (ids.length:Int) (j:Int) s h1 (by omega)) ?_
  rintro r rfl
  simp (disch:=omega) only [w64]
  exact next _ (by rw [List.append_assoc]; exact h)
theorem X5 (w:Wld) (ids:List Int) (n:Nat) (hn:n<ids.length) (out:List Int) (h1:w.2.2.1.length≤2000000) (ho:out.length≤4000000000000):
  Tot (λ k=>Ao k ids out (n:Int) 0 w) (λ r=>r=(ids,out++atN w.2.2.1 (ids.getD n 0) 0,(n:Int),w)):=by
 have m1:=X4 (ids.getD n 0) w.2.2.1 0
 refine Tot.up (L:=λ k i (s:List Int)=>Ao k ids s (n:Int) i w) (Q:=λ r=>r=(ids,out++atN w.2.2.1 (ids.getD n 0) 0,(n:Int),w)) w.2.2.1.length (λ j s=>s++atN (w.2.2.1.drop j) (ids.getD n 0) j=out++atN w.2.2.1 (ids.getD n 0) 0) ?_ ?_ 0 out (Nat.zero_le _) rfl
 ·intro s h
  rw [List.drop_length] at h
  simp (disch:=omega) only [Ao,dF]
  refine Tot.pure ?_
  rw [← h]
  show _=(ids,s++[],(n:Int),w)
  rw [List.append_nil]
 ·intro j s hj h next
  have g:=congrArg List.length h
  rw [List.length_append,List.length_append] at g
  rw [Ga (d:=Lo) hj,X3] at h
  obtain ⟨x,ex⟩:∃ x:Nod,w.2.2.1.getD j Lo=x:=⟨_,rfl⟩
  rw [ex] at h
  have e0:w.2.2.1.getD j ((0:Int),(([],[]),([],[])))=x:=ex
  simp (disch:=omega) only [Ao,dT,Int.toNat_natCast,w64,e0]
  cases hx:x.1==ids.getD n 0 with
  |true=>
   rw [hx,cond_true] at h
   refine Tot.yes rfl (Tot.ble (by simp only [List.length_cons,List.length_nil]; omega) (next (s++[(j:Int)]) ?_))
   rw [← h,List.append_assoc]
   rfl
  |false=>
   rw [hx,cond_false] at h
   refine Tot.no rfl (next s h)
theorem Ui (w:Wld) (ids:List Int) (h1:w.2.2.1.length≤2000000) (h2:ids.length≤2000000):Tot (λ k=>Au k w ids) (λ r=>r=whr w.2.2.1 ids):=by
 have m1:=Pz h1 h2
 unfold Au
 refine Tot.bind (Q:=λ r=>r=whr w.2.2.1 ids) ?_ (by rintro r rfl; exact Tot.pure rfl)
 refine Tot.up (L:=λ k i (s:List Int)=>Bj k ids s i w) (Q:=λ r=>r=whr w.2.2.1 ids) ids.length (λ j s=>s++whr w.2.2.1 (ids.drop j)=whr w.2.2.1 ids) ?_ ?_ 0 [] (Nat.zero_le _) rfl
 ·intro s h
  rw [List.drop_length] at h
  simp (disch:=omega) only [Bj,dF]
  refine Tot.pure ?_
  rw [← h]
  exact (List.append_nil s).symm
 ·intro j s hj h next
  have g:=congrArg List.length h
  rw [List.length_append] at g
  rw [Ga (d:=0) hj,E9a] at h
  simp (disch:=omega) only [Bj,dT,Int.toNat_natCast,w64]
  refine Tot.bind (X5 w ids j hj s h1 (by omega)) ?_
  rintro r rfl
  simp (disch:=omega) only [w64]
  exact next _ (by rw [List.append_assoc]; exact h)
theorem Cba (id:Int):∀ (ns:List Nod) (i:Nat) (x:Int),x∈atN ns id i↔∃ j,j<ns.length∧(ns.getD j Lo).1=id∧x=((i+j:Nat):Int)
 |[],i,x=>by simp [atN]
 |n::ns,i,x=>by
  have ih:=Cba id ns (i+1) x
  have tl:(∃ j,j<(n::ns).length∧((n::ns).getD j Lo).1=id∧x=((i+j:Nat):Int))↔(n.1=id∧x=(i:Int))∨x∈atN ns id (i+1):=by
   rw [ih]
   constructor
   ·rintro ⟨j,h1,h2,h3⟩
    cases j with
    |zero=>exact .inl ⟨h2,by omega⟩
    |succ j=>exact .inr ⟨j,by simpa using h1,by simpa using h2,by omega⟩
   ·rintro (⟨h1,h2⟩|⟨j,h1,h2,h3⟩)
    ·exact ⟨0,by simp,h1,by omega⟩
    ·exact ⟨j+1,by simpa using h1,by simpa using h2,by omega⟩
  rw [tl,X3]
  cases hx:n.1==id with
  |true=>
   rw [cond_true,List.mem_cons,eq_of_beq hx]
   simp
  |false=>
   rw [cond_false]
   have:=beq_eq_false_iff_ne.1 hx
   simp [this]
theorem Jea {ns:List Nod} {ids:List Int} {x:Int}:x∈whr ns ids↔∃ j,j<ns.length∧(ns.getD j Lo).1∈ids∧x=(j:Int):=by
 unfold whr
 rw [List.mem_flatMap]
 constructor
 ·rintro ⟨id,h1,h2⟩
  obtain ⟨j,h3,h4,h5⟩:=(Cba _ _ _ _).1 h2
  exact ⟨j,h3,h4 ▸ h1,by omega⟩
 ·rintro ⟨j,h3,h4,h5⟩
  exact ⟨_,h4,(Cba _ _ _ _).2 ⟨j,h3,rfl,by omega⟩⟩
def Nra:ByteArray:=⟨#[108,105,115,116]⟩
def Jv (w:Wld):List Int:=whr w.2.2.1 (Td w.2.1 Nra)
theorem Q0 {r:Rng} (hr:RBd r) (x:ByteArray):(Td r x).length≤2000000:=by
 unfold Td
 by_cases hm:E6a x % r.2.length<r.2.length
 ·exact hr.2 _ (Aa (d:=[]) hm)
 ·rw [List.getD_eq_getElem?_getD,List.getElem?_eq_none (by omega)]; exact Nat.zero_le _
theorem Cca (w:Wld) (hr:RBd w.2.1) (hn:w.2.2.1.length≤2000000):Tot (λ k=>H7 k w) (λ r=>r=Jv w):=by
 unfold H7
 refine Tot.bind (E7a _ Nra hr (by decide)) ?_
 rintro p rfl
 refine Tot.bind (Caa w _ hn (Q0 hr _)) ?_
 rintro r rfl
 exact Tot.pure rfl
theorem Cda (w:Wld) (hr:RBd w.2.1) (hn:w.2.2.1.length≤2000000):Tot (λ k=>H3 k w) (λ r=>r=Jv w):=by
 unfold H3
 refine Tot.bind (E8a _ Nra hr (by decide)) ?_
 rintro p rfl
 refine Tot.bind (Ui w _ hn (Q0 hr _)) ?_
 rintro r rfl
 exact Tot.pure rfl
def quo (n:Int):Int:=n / 2+1

def Cea (a b:Fil):Bool:=((a.1.1==b.1.1)&&((a.1.2.1==b.1.2.1)&&(a.1.2.2==b.1.2.2)))&&((a.2.1==b.2.1)&&((Ju a.2.2).toList==(Ju b.2.2).toList))
theorem Jfa (a b:Fil):Cm a b=some (Cea a b):=by
 unfold Cm Cea
 cases (a.1.1==b.1.1)&&((a.1.2.1==b.1.2.1)&&(a.1.2.2==b.1.2.2))<;>cases a.2.1==b.2.1<;>rfl
theorem Jga (a b:Fil):Ff a b=some (Cea a b):=by
 unfold Ff Cea
 cases (a.1.1==b.1.1)&&((a.1.2.1==b.1.2.1)&&(a.1.2.2==b.1.2.2))<;>cases a.2.1==b.2.1<;>rfl

def X6:Row:=((⟨#[]⟩:ByteArray),(((0:Int),((0:Int),(0:Int))),(false,(0:Int))))

def SzR (n:Int) (B:Prop) (r:Int):Prop:=r<0∨(0≤r∧r≤n∧B)
abbrev Aqa:Nat:=140737488351232
abbrev I7:Int:=1048576
theorem SzR.then {f:Nat→Option Int} {g:Int→Nat→Option Int} {n:Int} {B C:Prop} (hf:Tot f (SzR n B)) (hg:∀ r,0≤r→r≤n→Tot (g r) (SzR r C)):
  Tot (λ k=>(f k).bind λ r=>cond (decide (r<0)) (some (-1)) (g r k)) (SzR n (B∧C)):=by
 refine Tot.bind hf ?_
 intro r hr
 refine Tot.dite (λ h=>Tot.pure (.inl (by decide))) (λ h=>?_)
 rcases hr with hr|⟨h0,h1,hB⟩
 ·exact absurd hr h
 ·refine (hg r h0 h1).mono ?_
  rintro q (hq|⟨q0,q1,hC⟩)
  ·exact .inl hq
  ·exact .inr ⟨q0,by omega,hB,hC⟩
theorem SzR.last {f:Nat→Option Int} {n:Int} {B:Prop} (hf:Tot f (SzR n B)):Tot (λ k=>(f k).bind λ r=>cond (decide (r<0)) (some (-1)) (some r)) (SzR n B):=by
 refine Tot.bind hf ?_
 intro r hr
 exact Tot.dite (λ h=>Tot.pure (.inl (by decide))) (λ h=>Tot.pure hr)
theorem SzR.imp {f:Nat→Option Int} {n:Int} {B C:Prop} (hf:Tot f (SzR n B)) (h:B→C):Tot f (SzR n C):=
 hf.mono (by rintro r (hr|⟨h0,h1,hB⟩); exact .inl hr; exact .inr ⟨h0,h1,h hB⟩)
theorem X7 {f:Nat→Option Int} {n:Int} {m:Nat} {C:Prop} (hm:m≤Aqa) (h0:0≤n) (h1:n≤I7) (hf:(m:Int)≤I7→0≤n - (m:Int)→Tot f (SzR (n - (m:Int)) C)):
  Tot (λ k=>cond (decide ((IntKind.wrap .i64 (n - (m:Int)))<0)) (some (-1)) (f k)) (SzR n ((m:Int)≤I7∧C)):=by
 simp only [Aqa] at hm
 simp only [I7] at h1 hf ⊢
 rw [w64 (n:=n - (m:Int)) (by omega) (by omega)]
 refine Tot.dite (λ h=>Tot.pure (.inl (by decide))) (λ h=>?_)
 refine (hf (by omega) (by omega)).mono ?_
 rintro q (hq|⟨q0,q1,hC⟩)
 ·exact .inl hq
 ·exact .inr ⟨q0,by omega,by omega,hC⟩
theorem Eaa {n:Int} {m:Nat} (hm:m≤Aqa) (h0:0≤n) (h1:n≤I7):
  Tot (λ _=>cond (decide ((IntKind.wrap .i64 (n - (m:Int)))<0)) (some (-1)) (some (IntKind.wrap .i64 (n - (m:Int))))) (SzR n ((m:Int)≤I7)):=by
 refine (X7 (C:=True) hm h0 h1 (λ h2 h3=>Tot.pure ?_)).mono ?_
 ·simp only [Aqa] at hm
  simp only [I7] at h1 h2
  rw [w64 (n:=n - (m:Int)) (by omega) (by omega)]
  exact .inr ⟨h3,Int.le_refl _,trivial⟩
 ·rintro r (hr|⟨a,b,c,_⟩)
  ·exact .inl hr
  ·exact .inr ⟨a,b,c⟩
theorem Uj {α:Type} (d:α) (l:List α) (B:α→Prop) {L:Nat→Int→Int→Option (Sum Int Int)}
  (hend:∀ s,Tot (λ k=>L (k+1) s (l.length:Int)) (λ r=>r = .inr s))
  (Sz:∀ (j:Nat) (s:Int) (Q:Sum Int Int→Prop),j<l.length→0≤s→s≤I7→(∀ r,r<0→Q (.inl r))→(∀ r,SzR s (B (l.getD j d)) r→0≤r→Tot (λ k=>L k r ((j:Int)+1)) Q)→Tot (λ k=>L (k+1) s (j:Int)) Q)
  {n:Int} (h0:0≤n) (h1:n≤I7):Tot (λ k=>(L k n 0).bind λ r1=>Sum.elim (λ y2=>some y2) (λ z3=>some z3) r1) (SzR n (∀ x∈l,B x)):=by
 refine Tot.bind (Q:=λ r=>(∃ s,s<0∧r = .inl s)∨∃ s,r = .inr s∧0≤s∧s≤n∧∀ i,i<l.length→B (l.getD i d)) ?_ ?_
 ·refine Tot.up (L:=λ k i (s:Int)=>L k s i) l.length (λ j s=>0≤s∧s≤n∧∀ i,i<j→B (l.getD i d)) ?_ ?_ 0 n (Nat.zero_le _) ⟨h0,Int.le_refl _,λ i hi=>by omega⟩
  ·rintro s ⟨a,b,c⟩
   exact (hend s).mono (by rintro r rfl; exact .inr ⟨s,rfl,a,b,c⟩)
  ·rintro j s hj ⟨a,b,c⟩ next
   refine Sz j s _ hj a (by omega) (λ r hr => .inl ⟨r,hr,rfl⟩) (λ r hr h=>next r ?_)
   rcases hr with hr|⟨_,h2,h3⟩
   ·omega
   ·refine ⟨h,by omega,λ i hi=>?_⟩
    by_cases e:i=j
    ·subst e; exact h3
    ·exact c i (by omega)
 ·rintro r (⟨s,hs,rfl⟩|⟨s,rfl,a,b,c⟩)
  ·exact Tot.pure (.inl hs)
  ·refine Tot.pure (.inr ⟨a,b,λ x hx=>?_⟩)
   obtain ⟨i,hi,rfl⟩:=List.mem_iff_getElem.1 hx
   have:=c i hi
   rwa [List.getD_eq_getElem?_getD,List.getElem?_eq_getElem hi,Option.getD_some] at this
abbrev SmT (s:ByteArray):Prop:=(s.size:Int)≤I7
abbrev SmL {α:Type} (l:List α):Prop:=(l.length:Int)≤I7
abbrev HgT (s:ByteArray):Prop:=s.size≤Aqa
abbrev HgL {α:Type} (l:List α):Prop:=l.length≤Aqa
def Sda (x:Dev):Prop:=True
def Rea (l:List Dev):Prop:=HgL l∧∀ x∈l,Sda x
def Nsa (x:List Int):Prop:=HgL x
def Cfa (l:List (List Int)):Prop:=HgL l∧∀ x∈l,Nsa x
def Jha (x:Nmd):Prop:=HgT x.1∧HgL x.2
def Oh (l:List Nmd):Prop:=HgL l∧∀ x∈l,Jha x
def Rfa (x:Row):Prop:=HgT x.1
def Eba (l:List Row):Prop:=HgL l∧∀ x∈l,Rfa x
def Nta (x:Nod):Prop:=(Oh x.2.1.1∧Oh x.2.1.2)∧Eba x.2.2.1∧Eba x.2.2.2
def Jia (l:List Nod):Prop:=HgL l∧∀ x∈l,Nta x
def Jja (x:Wri):Prop:=HgT x.1∧HgL x.2.1.2.2
def Eca (l:List Wri):Prop:=HgL l∧∀ x∈l,Jja x
def Mka (x:ByteArray):Prop:=HgT x
def A8a (l:List ByteArray):Prop:=HgL l∧∀ x∈l,Mka x
def HgW (w:Wld):Prop:=Rea w.1∧Cfa w.2.1.2∧Jia w.2.2.1∧Eca w.2.2.2.2.1∧A8a w.2.2.2.2.2
def Sea (x:Dev):Prop:=True
def Rga (l:List Dev):Prop:=SmL l∧∀ x∈l,Sea x
def A9a (x:List Int):Prop:=SmL x
def Pa (l:List (List Int)):Prop:=SmL l∧∀ x∈l,A9a x
def T0 (x:Nmd):Prop:=SmT x.1∧SmL x.2
def Ku (l:List Nmd):Prop:=SmL l∧∀ x∈l,T0 x
def Pla (x:Row):Prop:=SmT x.1
def Uk (l:List Row):Prop:=SmL l∧∀ x∈l,Pla x
def Aaa (x:Nod):Prop:=(Ku x.2.1.1∧Ku x.2.1.2)∧Uk x.2.2.1∧Uk x.2.2.2
def X8 (l:List Nod):Prop:=SmL l∧∀ x∈l,Aaa x
def T1 (x:Wri):Prop:=SmT x.1∧SmL x.2.1.2.2
def Ro (l:List Wri):Prop:=SmL l∧∀ x∈l,T1 x
def Eda (x:ByteArray):Prop:=SmT x
def Aba (l:List ByteArray):Prop:=SmL l∧∀ x∈l,Eda x
def SmW (w:Wld):Prop:=Rga w.1∧Pa w.2.1.2∧X8 w.2.2.1∧Ro w.2.2.2.2.1∧Aba w.2.2.2.2.2
theorem Jka (l:List Int) (h:HgL l) {n:Int} (h0:0≤n) (h1:n≤I7):Tot (λ _=>Ik l n) (SzR n (SmL l)):=Eaa h h0 h1
theorem Ul (l:List Int) (h:HgL l) {n:Int} (h0:0≤n) (h1:n≤I7):Tot (λ _=>F3 l n) (SzR n (SmL l)):=Eaa h h0 h1
theorem Jla (l:List Dev) (h:HgL l) {n:Int} (h0:0≤n) (h1:n≤I7):Tot (λ _=>Ij l n) (SzR n (SmL l)):=Eaa h h0 h1
theorem Jma (x:List Int) (h:Nsa x) {n:Int} (h0:0≤n) (h1:n≤I7):Tot (λ _=>Il x n) (SzR n (A9a x)):=SzR.last (Jka x h h0 h1)
theorem Mla (x:Row) (h:Rfa x) {n:Int} (h0:0≤n) (h1:n≤I7):Tot (λ _=>Jn x n) (SzR n (Pla x)):=Eaa h h0 h1
theorem Jna (x:Fil) (h:HgL x.2.2) {n:Int} (h0:0≤n) (h1:n≤I7):Tot (λ _=>Iq x n) (SzR n (SmL x.2.2)):=SzR.last (Ul x.2.2 h h0 h1)
theorem Fma (x:Nmd) (h:Jha x) {n:Int} (h0:0≤n) (h1:n≤I7):Tot (λ _=>Hi x n) (SzR n (T0 x)):=
 X7 h.1 h0 h1 (λ h2 h3=>by
  have hh:=h.1
  simp only [HgT,Aqa,I7] at hh h1
  rw [w64 (n:=n - (x.1.size:Int)) (by omega) (by omega)]
  exact SzR.last (Ul x.2 h.2 h3 (by simp only [I7]; omega)))
theorem Fna (x:Wri) (h:Jja x) {n:Int} (h0:0≤n) (h1:n≤I7):Tot (λ _=>Hj x n) (SzR n (T1 x)):=
 X7 h.1 h0 h1 (λ h2 h3=>by
  have hh:=h.1
  simp only [HgT,Aqa,I7] at hh h1
  rw [w64 (n:=n - (x.1.size:Int)) (by omega) (by omega)]
  exact SzR.last (Jna x.2.1 h.2 h3 (by simp only [I7]; omega)))
theorem Foa (l:List (List Int)) (h:Cfa l) {n:Int} (h0:0≤n) (h1:n≤I7):Tot (λ k=>C6 k l n) (SzR n (Pa l)):=by
 have hh:=h.1
 unfold C6
 refine X7 h.1 h0 h1 (λ h2 h3=>?_)
 simp only [HgL,Aqa,I7] at hh h1
 rw [w64 (n:=n - (l.length:Int)) (by omega) (by omega)]
 refine Uj [] l A9a ?_ ?_ h3 (by simp only [I7]; omega)
 ·intro s
  simp (disch:=omega) only [E3,dF]
  exact Tot.pure rfl
 ·intro j s Q hj s0 s1 no yes
  have hm:=h.2 _ (Aa (d:=[]) hj)
  simp (disch:=omega) only [E3,dT,Int.toNat_natCast,w64]
  refine Tot.bind (Jma (l.getD j []) hm s0 s1) ?_
  intro r hr
  exact Tot.dite (λ hc=>Tot.pure (no _ (by decide))) (λ hc=>yes r hr (by omega))
theorem T2 (l:List Nmd) (h:Oh l) {n:Int} (h0:0≤n) (h1:n≤I7):Tot (λ k=>B0 k l n) (SzR n (Ku l)):=by
 have hh:=h.1
 unfold B0
 refine X7 h.1 h0 h1 (λ h2 h3=>?_)
 simp only [HgL,Aqa,I7] at hh h1
 rw [w64 (n:=n - (l.length:Int)) (by omega) (by omega)]
 refine Uj Kx l T0 ?_ ?_ h3 (by simp only [I7]; omega)
 ·intro s
  simp (disch:=omega) only [Dc,dF]
  exact Tot.pure rfl
 ·intro j s Q hj s0 s1 no yes
  have hm:=h.2 _ (Aa (d:=Kx) hj)
  have e0:l.getD j ((⟨#[]⟩:ByteArray),[])=l.getD j Kx:=rfl
  simp (disch:=omega) only [Dc,dT,Int.toNat_natCast,w64,e0]
  refine Tot.bind (Fma (l.getD j Kx) hm s0 s1) ?_
  intro r hr
  exact Tot.dite (λ hc=>Tot.pure (no _ (by decide))) (λ hc=>yes r hr (by omega))
theorem Aca (l:List Row) (h:Eba l) {n:Int} (h0:0≤n) (h1:n≤I7):Tot (λ k=>Cq k l n) (SzR n (Uk l)):=by
 have hh:=h.1
 unfold Cq
 refine X7 h.1 h0 h1 (λ h2 h3=>?_)
 simp only [HgL,Aqa,I7] at hh h1
 rw [w64 (n:=n - (l.length:Int)) (by omega) (by omega)]
 refine Uj X6 l Pla ?_ ?_ h3 (by simp only [I7]; omega)
 ·intro s
  simp (disch:=omega) only [F8,dF]
  exact Tot.pure rfl
 ·intro j s Q hj s0 s1 no yes
  have hm:=h.2 _ (Aa (d:=X6) hj)
  have e0:l.getD j ((⟨#[]⟩:ByteArray),(((0:Int),((0:Int),(0:Int))),(false,(0:Int))))=l.getD j X6:=rfl
  simp (disch:=omega) only [F8,dT,Int.toNat_natCast,w64,e0]
  refine Tot.bind (Mla (l.getD j X6) hm s0 s1) ?_
  intro r hr
  exact Tot.dite (λ hc=>Tot.pure (no _ (by decide))) (λ hc=>yes r hr (by omega))
theorem Joa (x:Dsk) (h:Oh x.1∧Oh x.2) {n:Int} (h0:0≤n) (h1:n≤I7):Tot (λ k=>Io k x n) (SzR n (Ku x.1∧Ku x.2)):=
 SzR.then (T2 x.1 h.1 h0 h1) (λ r r0 r1=>SzR.last (T2 x.2 h.2 r0 (Int.le_trans r1 h1)))
theorem Jpa (x:Nod) (h:Nta x) {n:Int} (h0:0≤n) (h1:n≤I7):Tot (λ k=>Ip k x n) (SzR n (Aaa x)):=
 SzR.then (Joa x.2.1 h.1 h0 h1) (λ r r0 r1=>SzR.then (Aca x.2.2.1 h.2.1 r0 (Int.le_trans r1 h1)) (λ q q0 q1=>SzR.last (Aca x.2.2.2 h.2.2 q0 (Int.le_trans q1 (Int.le_trans r1 h1)))))
theorem Fpa (l:List Nod) (h:Jia l) {n:Int} (h0:0≤n) (h1:n≤I7):Tot (λ k=>C7 k l n) (SzR n (X8 l)):=by
 have hh:=h.1
 unfold C7
 refine X7 h.1 h0 h1 (λ h2 h3=>?_)
 simp only [HgL,Aqa,I7] at hh h1
 rw [w64 (n:=n - (l.length:Int)) (by omega) (by omega)]
 refine Uj Lo l Aaa ?_ ?_ h3 (by simp only [I7]; omega)
 ·intro s
  simp (disch:=omega) only [E4,dF]
  exact Tot.pure rfl
 ·intro j s Q hj s0 s1 no yes
  have hm:=h.2 _ (Aa (d:=Lo) hj)
  have e0:l.getD j ((0:Int),(([],[]),([],[])))=l.getD j Lo:=rfl
  simp (disch:=omega) only [E4,dT,Int.toNat_natCast,w64,e0]
  refine Tot.bind (Jpa (l.getD j Lo) hm s0 s1) ?_
  intro r hr
  exact Tot.dite (λ hc=>Tot.pure (no _ (by decide))) (λ hc=>yes r hr (by omega))
theorem Cga (l:List Wri) (h:Eca l) {n:Int} (h0:0≤n) (h1:n≤I7):Tot (λ k=>B9 k l n) (SzR n (Ro l)):=by
 have hh:=h.1
 unfold B9
 refine X7 h.1 h0 h1 (λ h2 h3=>?_)
 simp only [HgL,Aqa,I7] at hh h1
 rw [w64 (n:=n - (l.length:Int)) (by omega) (by omega)]
 refine Uj Mja l T1 ?_ ?_ h3 (by simp only [I7]; omega)
 ·intro s
  simp (disch:=omega) only [Dd,dF]
  exact Tot.pure rfl
 ·intro j s Q hj s0 s1 no yes
  have hm:=h.2 _ (Aa (d:=Mja) hj)
  have e0:l.getD j ((⟨#[]⟩:ByteArray),((((0:Int),((0:Int),(0:Int))),(false,[])),false))=l.getD j Mja:=rfl
  simp (disch:=omega) only [Dd,dT,Int.toNat_natCast,w64,e0]
  refine Tot.bind (Fna (l.getD j Mja) hm s0 s1) ?_
  intro r hr
  exact Tot.dite (λ hc=>Tot.pure (no _ (by decide))) (λ hc=>yes r hr (by omega))
theorem Ada (l:List ByteArray) (h:A8a l) {n:Int} (h0:0≤n) (h1:n≤I7):Tot (λ k=>De k l n) (SzR n (Aba l)):=by
 have hh:=h.1
 unfold De
 refine X7 h.1 h0 h1 (λ h2 h3=>?_)
 simp only [HgL,Aqa,I7] at hh h1
 rw [w64 (n:=n - (l.length:Int)) (by omega) (by omega)]
 refine Uj Ng l Eda ?_ ?_ h3 (by simp only [I7]; omega)
 ·intro s
  simp (disch:=omega) only [C3,dF]
  exact Tot.pure rfl
 ·intro j s Q hj s0 s1 no yes
  have hm:(l.getD j Ng).size≤Aqa:=h.2 _ (Aa (d:=Ng) hj)
  have e0:l.getD j (⟨#[]⟩:ByteArray)=l.getD j Ng:=rfl
  simp only [Aqa] at hm
  simp only [I7] at s1
  simp (disch:=omega) only [C3,dT,Int.toNat_natCast,w64,e0]
  exact Tot.dite (λ hc=>Tot.pure (no _ (by decide))) (λ hc=>yes _ (.inr ⟨by omega,by omega,show ((l.getD j Ng).size:Int)≤1048576 by omega⟩) (by omega))
theorem Jqa (x:Rng) (h:Cfa x.2) {n:Int} (h0:0≤n) (h1:n≤I7):Tot (λ k=>Im k x n) (SzR n (Pa x.2)):=SzR.last (Foa x.2 h h0 h1)
theorem Fqa (w:Wld) (h:HgW w) {n:Int} (h0:0≤n) (h1:n≤I7):Tot (λ k=>Dq k w n) (SzR n (SmW w)):=by
 unfold Dq
 refine SzR.imp (SzR.then (Jla w.1 h.1.1 h0 h1) (λ a a0 a1=>SzR.then (Jqa w.2.1 h.2.1 a0 (Int.le_trans a1 h1)) (λ b b0 b1=>SzR.then (Fpa w.2.2.1 h.2.2.1 b0 (Int.le_trans b1 (Int.le_trans a1 h1))) (λ c c0 c1=>
  SzR.then (Cga w.2.2.2.2.1 h.2.2.2.1 c0 (Int.le_trans c1 (Int.le_trans b1 (Int.le_trans a1 h1)))) (λ d d0 d1=>SzR.last (Ada w.2.2.2.2.2 h.2.2.2.2 d0 (Int.le_trans d1 (Int.le_trans c1 (Int.le_trans b1 (Int.le_trans a1 h1)))))))))) ?_
 rintro ⟨a,b,c,d,e⟩
 exact ⟨⟨a,λ _ _=>trivial⟩,b,c,d,e⟩
theorem Jra {α:Type} {l s:List α} {j:Nat} {z d:α} (hj:j<l.length) (h:s=l.take j++List.replicate (l.length - j) z):s.set j (l.getD j d)=l.take (j+1)++List.replicate (l.length - (j+1)) z:=by
 have hl:(l.take j).length=j:=by rw [List.length_take]; omega
 rw [h,show l.length - j=(l.length - (j+1))+1 by omega,List.replicate_succ,List.set_append_right _ _ (by omega),hl,Nat.sub_self,List.set_cons_zero,List.take_succ_eq_append_getElem hj,List.append_assoc,List.getD_eq_getElem?_getD,List.getElem?_eq_getElem hj]
 rfl
theorem Q1 {α:Type} (d z:α) (l:List α) {L:Nat→List α→Int→Option (List α)} (hend:∀ s,Tot (λ k=>L (k+1) s (l.length:Int)) (λ r=>r=s))
  (Sz:∀ (j:Nat) (s:List α) (Q:List α→Prop),j<l.length→s.length=l.length→Tot (λ k=>L k (s.set j (l.getD j d)) ((j:Int)+1)) Q→Tot (λ k=>L (k+1) s (j:Int)) Q):
  Tot (λ k=>L k (List.replicate l.length z) 0) (λ r=>r=l):=by
 refine Tot.up (L:=λ k i (s:List α)=>L k s i) l.length (λ j s=>s=l.take j++List.replicate (l.length - j) z) ?_ ?_ 0 _ (Nat.zero_le _) (by rw [List.take_zero,List.nil_append,Nat.sub_zero])
 ·rintro s h
  rw [Nat.sub_self,List.take_length,List.replicate_zero,List.append_nil] at h
  exact (hend s).mono (by rintro r rfl; exact h)
 ·rintro j s hj h next
  refine Sz j s _ hj ?_ (next _ (Jra hj h))
  rw [h,List.length_append,List.length_take,List.length_replicate]
  omega
theorem Q2 {n:Nat} {R:Type} {e:R} {L:Nat→Int→Option R} (hend:Tot (λ k=>L (k+1) (n:Int)) (λ r=>r=e)) (Sz:∀ (j:Nat) (Q:R→Prop),j<n→Tot (λ k=>L k ((j:Int)+1)) Q→Tot (λ k=>L (k+1) (j:Int)) Q):
  Tot (λ k=>L k 0) (λ r=>r=e):=
 Tot.up (L:=λ k i (_:Unit)=>L k i) n (λ _ _=>True) (λ _ _=>hend) (λ j _ hj _ next=>Sz j _ hj (next () trivial)) 0 () (Nat.zero_le _) trivial
theorem Jsa (l:List Dev) (h:SmL l):Tot (λ k=>Dl k l) (λ r=>r=l):=by
 have hl:(l.length:Int)≤1048576:=h
 unfold Dl
 simp (disch:=omega) only [dT,Int.toNat_natCast]
 refine Tot.bind (Q:=λ r=>r=l) ?_ (by rintro r rfl; exact Tot.pure rfl)
 refine Q1 (L:=λ k s i=>E7 k l s i) S8a _ l ?_ ?_
 ·intro s
  simp (disch:=omega) only [E7,dF]
  exact Tot.pure rfl
 ·intro j s Q hj hs next
  have e0:l.getD j ((0:Int),((0:Int),(0:Int)))=l.getD j S8a:=rfl
  simp (disch:=omega) only [E7,dT,Int.toNat_natCast,w64,e0,Jp,B2,Option.bind_some]
  exact next
theorem Jta (l:List Int) (h:SmL l):Tot (λ k=>Hd k l) (λ r=>r=l):=by
 have hl:(l.length:Int)≤1048576:=h
 unfold Hd
 simp (disch:=omega) only [dT,Int.toNat_natCast]
 refine Tot.bind (Q:=λ r=>r=l) ?_ (by rintro r rfl; exact Tot.pure rfl)
 refine Q1 (L:=λ k s i=>E8 k l s i) (0:Int) _ l ?_ ?_
 ·intro s
  simp (disch:=omega) only [E8,dF]
  exact Tot.pure rfl
 ·intro j s Q hj hs next
  simp (disch:=omega) only [E8,dT,Int.toNat_natCast,w64]
  exact next
theorem Um (l:List Int) (h:SmL l):Tot (λ k=>Cw k l) (λ r=>r=l):=by
 have hl:(l.length:Int)≤1048576:=h
 unfold Cw
 simp (disch:=omega) only [dT,Int.toNat_natCast]
 refine Tot.bind (Q:=λ r=>r=l) ?_ (by rintro r rfl; exact Tot.pure rfl)
 refine Q1 (L:=λ k s i=>Cv k l s i) (0:Int) _ l ?_ ?_
 ·intro s
  simp (disch:=omega) only [Cv,dF]
  exact Tot.pure rfl
 ·intro j s Q hj hs next
  simp (disch:=omega) only [Cv,dT,Int.toNat_natCast,w64]
  exact next
theorem Jua (x:List Int) (h:A9a x):Tot (λ k=>It k x) (λ r=>r=x):=Tot.bind (Jta x h) (by rintro r rfl; exact Tot.pure rfl)
theorem Fra (l:List (List Int)) (h:Pa l):Tot (λ k=>C9 k l) (λ r=>r=l):=by
 have hl:(l.length:Int)≤1048576:=h.1
 unfold C9
 simp (disch:=omega) only [dT,Int.toNat_natCast]
 refine Tot.bind (Q:=λ r=>r=l) ?_ (by rintro r rfl; exact Tot.pure rfl)
 refine Q1 (L:=λ k s i=>Cu k l s i) [] _ l ?_ ?_
 ·intro s
  simp (disch:=omega) only [Cu,dF]
  exact Tot.pure rfl
 ·intro j s Q hj hs next
  simp (disch:=omega) only [Cu,dT,Int.toNat_natCast,w64]
  refine Tot.bind (Jua _ (h.2 _ (Aa (d:=[]) hj))) ?_
  rintro r rfl
  exact next
theorem Jva (x:Rng) (h:Pa x.2):Tot (λ k=>Iu k x) (λ r=>r=x):=Tot.bind (Fra x.2 h) (by rintro r rfl; exact Tot.pure rfl)
theorem Fsa (x:Nmd) (h:T0 x):Tot (λ k=>Hq k x) (λ r=>r=x):=Tot.bind (Um x.2 h.2) (by rintro r rfl; exact Tot.pure rfl)
theorem T3 (l:List Nmd) (h:Ku l):Tot (λ k=>B1 k l) (λ r=>r=l):=by
 have hl:(l.length:Int)≤1048576:=h.1
 unfold B1
 simp (disch:=omega) only [dT,Int.toNat_natCast]
 refine Tot.bind (Q:=λ r=>r=l) ?_ (by rintro r rfl; exact Tot.pure rfl)
 refine Q1 (L:=λ k s i=>Bv k l s i) Kx _ l ?_ ?_
 ·intro s
  simp (disch:=omega) only [Bv,dF]
  exact Tot.pure rfl
 ·intro j s Q hj hs next
  have e0:l.getD j ((⟨#[]⟩:ByteArray),[])=l.getD j Kx:=rfl
  simp (disch:=omega) only [Bv,dT,Int.toNat_natCast,w64,e0]
  refine Tot.bind (Fsa _ (h.2 _ (Aa (d:=Kx) hj))) ?_
  rintro r rfl
  exact next
theorem Jwa (x:Dsk) (h:Ku x.1∧Ku x.2):Tot (λ k=>Iv k x) (λ r=>r=x):=Tot.bind (T3 x.1 h.1) (by rintro r rfl; exact Tot.bind (T3 x.2 h.2) (by rintro r rfl; exact Tot.pure rfl))
theorem Aea (l:List Row) (h:Uk l):Tot (λ k=>Cy k l) (λ r=>r=l):=by
 have hl:(l.length:Int)≤1048576:=h.1
 unfold Cy
 simp (disch:=omega) only [dT,Int.toNat_natCast]
 refine Tot.bind (Q:=λ r=>r=l) ?_ (by rintro r rfl; exact Tot.pure rfl)
 refine Q1 (L:=λ k s i=>E9 k l s i) X6 _ l ?_ ?_
 ·intro s
  simp (disch:=omega) only [E9,dF]
  exact Tot.pure rfl
 ·intro j s Q hj hs next
  have e0:l.getD j ((⟨#[]⟩:ByteArray),(((0:Int),((0:Int),(0:Int))),(false,(0:Int))))=l.getD j X6:=rfl
  simp (disch:=omega) only [E9,dT,Int.toNat_natCast,w64,e0,Jq,B2,Option.bind_some]
  exact next
theorem Jxa (x:Nod) (h:Aaa x):Tot (λ k=>Iw k x) (λ r=>r=x):=Tot.bind (Jwa x.2.1 h.1) (by rintro r rfl; exact Tot.bind (Aea _ h.2.1) (by rintro r rfl; exact Tot.bind (Aea _ h.2.2) (by rintro r rfl; exact Tot.pure rfl)))
theorem Fta (l:List Nod) (h:X8 l):Tot (λ k=>Ca k l) (λ r=>r=l):=by
 have hl:(l.length:Int)≤1048576:=h.1
 unfold Ca
 simp (disch:=omega) only [dT,Int.toNat_natCast]
 refine Tot.bind (Q:=λ r=>r=l) ?_ (by rintro r rfl; exact Tot.pure rfl)
 refine Q1 (L:=λ k s i=>Cz k l s i) Lo _ l ?_ ?_
 ·intro s
  simp (disch:=omega) only [Cz,dF]
  exact Tot.pure rfl
 ·intro j s Q hj hs next
  have e0:l.getD j ((0:Int),(([],[]),([],[])))=l.getD j Lo:=rfl
  simp (disch:=omega) only [Cz,dT,Int.toNat_natCast,w64,e0]
  refine Tot.bind (Jxa _ (h.2 _ (Aa (d:=Lo) hj))) ?_
  rintro r rfl
  exact next
theorem Jya (x:Fil) (h:SmL x.2.2):Tot (λ k=>I3 k x) (λ r=>r=x):=by
 unfold I3 B2
 simp only [Option.bind_some]
 exact Tot.bind (Um x.2.2 h) (by rintro r rfl; exact Tot.pure rfl)
theorem Fua (x:Wri) (h:T1 x):Tot (λ k=>Hr k x) (λ r=>r=x):=Tot.bind (Jya x.2.1 h.2) (by rintro r rfl; exact Tot.pure rfl)
theorem Cha (l:List Wri) (h:Ro l):Tot (λ k=>Ba k l) (λ r=>r=l):=by
 have hl:(l.length:Int)≤1048576:=h.1
 unfold Ba
 simp (disch:=omega) only [dT,Int.toNat_natCast]
 refine Tot.bind (Q:=λ r=>r=l) ?_ (by rintro r rfl; exact Tot.pure rfl)
 refine Q1 (L:=λ k s i=>Bw k l s i) Mja _ l ?_ ?_
 ·intro s
  simp (disch:=omega) only [Bw,dF]
  exact Tot.pure rfl
 ·intro j s Q hj hs next
  have e0:l.getD j ((⟨#[]⟩:ByteArray),((((0:Int),((0:Int),(0:Int))),(false,[])),false))=l.getD j Mja:=rfl
  simp (disch:=omega) only [Bw,dT,Int.toNat_natCast,w64,e0]
  refine Tot.bind (Fua _ (h.2 _ (Aa (d:=Mja) hj))) ?_
  rintro r rfl
  exact next
theorem Afa (l:List ByteArray) (h:SmL l):Tot (λ k=>Dg k l) (λ r=>r=l):=by
 have hl:(l.length:Int)≤1048576:=h
 unfold Dg
 simp (disch:=omega) only [dT,Int.toNat_natCast]
 refine Tot.bind (Q:=λ r=>r=l) ?_ (by rintro r rfl; exact Tot.pure rfl)
 refine Q1 (L:=λ k s i=>Bg k l s i) Ng _ l ?_ ?_
 ·intro s
  simp (disch:=omega) only [Bg,dF]
  exact Tot.pure rfl
 ·intro j s Q hj hs next
  have e0:l.getD j (⟨#[]⟩:ByteArray)=l.getD j Ng:=rfl
  simp (disch:=omega) only [Bg,dT,Int.toNat_natCast,w64,e0]
  exact next
theorem Qr (w:Wld) (h:SmW w):Tot (λ k=>B8 k w) (λ r=>r=w):=by
 unfold B8 B2
 simp only [Option.bind_some]
 refine Tot.bind (Jsa _ h.1.1) (by rintro r rfl; exact Tot.bind (Jva _ h.2.1) (by rintro r rfl; exact Tot.bind (Fta _ h.2.2.1) (by rintro r rfl; exact Tot.bind (Cha _ h.2.2.2.1) (by rintro r rfl; exact Tot.bind (Afa _ h.2.2.2.2.1) (by rintro r rfl; exact Tot.pure rfl)))))
theorem Un (x:Int):(x != x)=false:=by rw [bne,beq_self_eq_true]; rfl
theorem Rna (s:ByteArray):(s.toList==s.toList)=true:=beq_self_eq_true _
theorem Qs (x:Stp):Bu x x=some true:=by
 unfold Bu
 rw [Un,Un,Un]
 rfl
theorem Mma (x:Dev):J7 x x=some true:=by
 unfold J7
 rw [Un,Un,Un]
 rfl
theorem Jza (l:List Dev) (h:SmL l):Tot (λ k=>Dn k l l) (λ r=>r=true):=by
 have hl:(l.length:Int)≤1048576:=h
 unfold Dn
 refine Tot.no (Un _) (Tot.bind (Q:=λ r=>r = .inr ()) ?_ (by rintro r rfl; exact Tot.pure rfl))
 refine Q2 (L:=λ k i=>Ed k l l i) (n:=l.length) ?_ ?_
 ·simp (disch:=omega) only [Ed,dF]
  exact Tot.pure rfl
 ·intro j Q hj next
  have e0:l.getD j ((0:Int),((0:Int),(0:Int)))=l.getD j S8a:=rfl
  simp (disch:=omega) only [Ed,dT,Int.toNat_natCast,w64,e0,Mma,Option.bind_some]
  exact Tot.no rfl next
theorem K0a (l:List Int) (h:SmL l):Tot (λ k=>Hf k l l) (λ r=>r=true):=by
 have hl:(l.length:Int)≤1048576:=h
 unfold Hf
 refine Tot.no (Un _) (Tot.bind (Q:=λ r=>r = .inr ()) ?_ (by rintro r rfl; exact Tot.pure rfl))
 refine Q2 (L:=λ k i=>Ee k l l i) (n:=l.length) ?_ ?_
 ·simp (disch:=omega) only [Ee,dF]
  exact Tot.pure rfl
 ·intro j Q hj next
  simp (disch:=omega) only [Ee,dT,Int.toNat_natCast,w64]
  exact Tot.no (Un _) next
theorem Uo (l:List Int) (h:SmL l):Tot (λ k=>D7 k l l) (λ r=>r=true):=by
 have hl:(l.length:Int)≤1048576:=h
 unfold D7
 refine Tot.no (Un _) (Tot.bind (Q:=λ r=>r = .inr ()) ?_ (by rintro r rfl; exact Tot.pure rfl))
 refine Q2 (L:=λ k i=>D6 k l l i) (n:=l.length) ?_ ?_
 ·simp (disch:=omega) only [D6,dF]
  exact Tot.pure rfl
 ·intro j Q hj next
  simp (disch:=omega) only [D6,dT,Int.toNat_natCast,w64]
  exact Tot.no (Un _) next
theorem K1a (x:List Int) (h:A9a x):Tot (λ k=>Ix k x x) (λ r=>r=true):=Tot.bind (K0a x h) (by rintro r rfl; exact Tot.pure rfl)
theorem Fva (l:List (List Int)) (h:Pa l):Tot (λ k=>Cd k l l) (λ r=>r=true):=by
 have hl:(l.length:Int)≤1048576:=h.1
 unfold Cd
 refine Tot.no (Un _) (Tot.bind (Q:=λ r=>r = .inr ()) ?_ (by rintro r rfl; exact Tot.pure rfl))
 refine Q2 (L:=λ k i=>D5 k l l i) (n:=l.length) ?_ ?_
 ·simp (disch:=omega) only [D5,dF]
  exact Tot.pure rfl
 ·intro j Q hj next
  simp (disch:=omega) only [D5,dT,Int.toNat_natCast,w64]
  refine Tot.bind (K1a _ (h.2 _ (Aa (d:=[]) hj))) ?_
  rintro r rfl
  exact Tot.no rfl next
theorem K2a (x:Rng) (h:Pa x.2):Tot (λ k=>Iy k x x) (λ r=>r=true):=Tot.no (Un _) (Tot.bind (Fva x.2 h) (by rintro r rfl; exact Tot.pure rfl))
theorem Fwa (x:Nmd) (h:T0 x):Tot (λ k=>Hz k x x) (λ r=>r=true):=Tot.no (by rw [Rna]; rfl) (Tot.bind (Uo x.2 h.2) (by rintro r rfl; exact Tot.pure rfl))
theorem T4 (l:List Nmd) (h:Ku l):Tot (λ k=>B4 k l l) (λ r=>r=true):=by
 have hl:(l.length:Int)≤1048576:=h.1
 unfold B4
 refine Tot.no (Un _) (Tot.bind (Q:=λ r=>r = .inr ()) ?_ (by rintro r rfl; exact Tot.pure rfl))
 refine Q2 (L:=λ k i=>Bx k l l i) (n:=l.length) ?_ ?_
 ·simp (disch:=omega) only [Bx,dF]
  exact Tot.pure rfl
 ·intro j Q hj next
  have e0:l.getD j ((⟨#[]⟩:ByteArray),[])=l.getD j Kx:=rfl
  simp (disch:=omega) only [Bx,dT,Int.toNat_natCast,w64,e0]
  refine Tot.bind (Fwa _ (h.2 _ (Aa (d:=Kx) hj))) ?_
  rintro r rfl
  exact Tot.no rfl next
theorem K3a (x:Dsk) (h:Ku x.1∧Ku x.2):Tot (λ k=>Iz k x x) (λ r=>r=true):=Tot.bind (T4 x.1 h.1) (by rintro r rfl; exact Tot.no rfl (Tot.bind (T4 x.2 h.2) (by rintro r rfl; exact Tot.pure rfl)))
theorem Mna (x:Row):J8 x x=some true:=by
 unfold J8
 rw [Rna,Qs,beq_self_eq_true,Un]
 rfl
theorem Aga (l:List Row) (h:Uk l):Tot (λ k=>D8 k l l) (λ r=>r=true):=by
 have hl:(l.length:Int)≤1048576:=h.1
 unfold D8
 refine Tot.no (Un _) (Tot.bind (Q:=λ r=>r = .inr ()) ?_ (by rintro r rfl; exact Tot.pure rfl))
 refine Q2 (L:=λ k i=>Ef k l l i) (n:=l.length) ?_ ?_
 ·simp (disch:=omega) only [Ef,dF]
  exact Tot.pure rfl
 ·intro j Q hj next
  have e0:l.getD j ((⟨#[]⟩:ByteArray),(((0:Int),((0:Int),(0:Int))),(false,(0:Int))))=l.getD j X6:=rfl
  simp (disch:=omega) only [Ef,dT,Int.toNat_natCast,w64,e0,Mna,Option.bind_some]
  exact Tot.no rfl next
theorem K4a (x:Nod) (h:Aaa x):Tot (λ k=>J0 k x x) (λ r=>r=true):=Tot.no (Un _) (Tot.bind (K3a x.2.1 h.1) (by rintro r rfl; exact Tot.no rfl (Tot.bind (Aga _ h.2.1) (by rintro r rfl; exact Tot.no rfl (Tot.bind (Aga _ h.2.2) (by rintro r rfl; exact Tot.pure rfl))))))
theorem Fxa (l:List Nod) (h:X8 l):Tot (λ k=>Ce k l l) (λ r=>r=true):=by
 have hl:(l.length:Int)≤1048576:=h.1
 unfold Ce
 refine Tot.no (Un _) (Tot.bind (Q:=λ r=>r = .inr ()) ?_ (by rintro r rfl; exact Tot.pure rfl))
 refine Q2 (L:=λ k i=>D9 k l l i) (n:=l.length) ?_ ?_
 ·simp (disch:=omega) only [D9,dF]
  exact Tot.pure rfl
 ·intro j Q hj next
  have e0:l.getD j ((0:Int),(([],[]),([],[])))=l.getD j Lo:=rfl
  simp (disch:=omega) only [D9,dT,Int.toNat_natCast,w64,e0]
  refine Tot.bind (K4a _ (h.2 _ (Aa (d:=Lo) hj))) ?_
  rintro r rfl
  exact Tot.no rfl next
theorem K5a (x:Fil) (h:SmL x.2.2):Tot (λ k=>I5 k x x) (λ r=>r=true):=by
 unfold I5
 simp only [Qs,Option.bind_some]
 exact Tot.no rfl (Tot.no (by rw [beq_self_eq_true]; rfl) (Tot.bind (Uo x.2.2 h) (by rintro r rfl; exact Tot.pure rfl)))
theorem Fya (x:Wri) (h:T1 x):Tot (λ k=>I0 k x x) (λ r=>r=true):=Tot.no (by rw [Rna]; rfl) (Tot.bind (K5a x.2.1 h.2) (by rintro r rfl; exact Tot.no rfl (Tot.no (by rw [beq_self_eq_true]; rfl) (Tot.pure rfl))))
theorem Cia (l:List Wri) (h:Ro l):Tot (λ k=>Bb k l l) (λ r=>r=true):=by
 have hl:(l.length:Int)≤1048576:=h.1
 unfold Bb
 refine Tot.no (Un _) (Tot.bind (Q:=λ r=>r = .inr ()) ?_ (by rintro r rfl; exact Tot.pure rfl))
 refine Q2 (L:=λ k i=>Bz k l l i) (n:=l.length) ?_ ?_
 ·simp (disch:=omega) only [Bz,dF]
  exact Tot.pure rfl
 ·intro j Q hj next
  have e0:l.getD j ((⟨#[]⟩:ByteArray),((((0:Int),((0:Int),(0:Int))),(false,[])),false))=l.getD j Mja:=rfl
  simp (disch:=omega) only [Bz,dT,Int.toNat_natCast,w64,e0]
  refine Tot.bind (Fya _ (h.2 _ (Aa (d:=Mja) hj))) ?_
  rintro r rfl
  exact Tot.no rfl next
theorem Aha (l:List ByteArray) (h:SmL l):Tot (λ k=>Di k l l) (λ r=>r=true):=by
 have hl:(l.length:Int)≤1048576:=h
 unfold Di
 refine Tot.no (Un _) (Tot.bind (Q:=λ r=>r = .inr ()) ?_ (by rintro r rfl; exact Tot.pure rfl))
 refine Q2 (L:=λ k i=>Bi k l l i) (n:=l.length) ?_ ?_
 ·simp (disch:=omega) only [Bi,dF]
  exact Tot.pure rfl
 ·intro j Q hj next
  have e0:l.getD j (⟨#[]⟩:ByteArray)=l.getD j Ng:=rfl
  simp (disch:=omega) only [Bi,dT,Int.toNat_natCast,w64,e0]
  exact Tot.no (by rw [Rna]; rfl) next
theorem Fza (w:Wld) (h:SmW w):Tot (λ k=>Dv k w w) (λ r=>r=true):=by
 unfold Dv
 simp only [Qs,Option.bind_some]
 refine Tot.bind (Jza _ h.1.1) ?_
 rintro r rfl
 refine Tot.no rfl (Tot.bind (K2a _ h.2.1) ?_)
 rintro r rfl
 refine Tot.no rfl (Tot.bind (Fxa _ h.2.2.1) ?_)
 rintro r rfl
 refine Tot.no rfl (Tot.no rfl (Tot.bind (Cia _ h.2.2.2.1) ?_))
 rintro r rfl
 refine Tot.no rfl (Tot.bind (Aha _ h.2.2.2.2.1) ?_)
 rintro r rfl
 exact Tot.no rfl (Tot.pure rfl)
def ByN (l:List Nmd):Prop:=∀ x∈l,B5 x.2
def ByW (w:Wld):Prop:=(∀ n∈w.2.2.1,ByN n.2.1.1∧ByN n.2.1.2)∧∀ x∈w.2.2.2.2.1,B5 x.2.1.2.2
theorem T5 {l:List Nmd} (h:Ku l):(Nia l∧E2a l)∧l.length≤2000000:=by
 have h1:(l.length:Int)≤1048576:=h.1
 refine ⟨⟨⟨by omega,λ x hx=>?_⟩,λ x hx=>?_⟩,by omega⟩
 ·have:(x.2.length:Int)≤1048576:=(h.2 x hx).2
  omega
 ·have:(x.1.size:Int)≤1048576:=(h.2 x hx).1
  show x.1.size≤_
  omega
theorem Eea {l:List Row} (h:Uk l):RF l:=by
 have h1:(l.length:Int)≤1048576:=h.1
 refine ⟨by omega,λ x hx=>?_⟩
 have:(x.1.size:Int)≤1048576:=h.2 x hx
 show x.1.size≤_
 omega
theorem Pma {w:Wld} (h:SmW w) (hb:ByW w):WIn w:=by
 obtain ⟨⟨h1,_⟩,⟨h2,h3⟩,⟨h4,h5⟩,⟨h6,h7⟩,h8,h9⟩:=h
 simp only [SmL,I7] at h1 h2 h4 h6 h8
 refine ⟨⟨by omega,λ p hp=>?_⟩,by omega,⟨by omega,λ n hn=>?_⟩,⟨by omega,λ x hx=>?_⟩,by omega,λ s hs=>?_⟩
 ·have:(p.length:Int)≤1048576:=h3 p hp
  omega
 ·obtain ⟨⟨a1,a2⟩,a3,a4⟩:=h5 n hn
  have b1:=T5 a1
  have b2:=T5 a2
  exact ⟨⟨⟨⟨⟨b1.1.1,b2.1.1⟩,b1.1.2,b2.1.2⟩,b1.2,b2.2⟩,hb.1 n hn⟩,Eea a3,Eea a4⟩
 ·have:(x.1.size:Int)≤1048576:=(h7 x hx).1
  show x.1.size≤_
  omega
 ·have:(s.size:Int)≤1048576:=h9 s hs
  show s.size≤_
  omega

def tyB (ti:TypeId→Option TI) (e:TypeId):Bool:=match ti e with
 |some te=>Nat.ble 1 te.by_
 |none=>false
section
variable {ti:TypeId→Option TI}
theorem Mc {e:TypeId} {r:Ty} {xs:List r.den} (h:Ty.fit ti (.sl e r) xs) (hk:tyB ti e=true):HgL xs:=by
 unfold tyB at hk
 split at hk
 ·rename_i te ht
  have h1:=h.1 te ht
  have h2:=Nat.le_of_ble_eq_true hk
  show xs.length≤140737488351232
  exact Nat.le_trans (Nat.le_mul_of_pos_right _ (by omega)) h1
 ·cases hk
abbrev Roa:Ty := .pr (.i .i64) (.pr (.i .i64) (.i .i64))
abbrev byT (b:TypeId):Ty := .sl b (.i .u8)
abbrev Sfa (b:TypeId):Ty := .pr .s (byT b)
abbrev Swa (b n:TypeId):Ty := .pr (.sl n (Sfa b)) (.sl n (Sfa b))
abbrev Sga:Ty := .pr .s (.pr Roa (.pr .b (.i .i64)))
abbrev Sxa (b:TypeId):Ty := .pr Roa (.pr .b (byT b))
abbrev Sya (b n r:TypeId):Ty := .pr (.i .i64) (.pr (Swa b n) (.pr (.sl r Sga) (.sl r Sga)))
abbrev Sza (b:TypeId):Ty := .pr .s (.pr (Sxa b) .b)
abbrev T0a (d p i b n r m v s:TypeId):Ty := .pr (.sl d Roa) (.pr (.pr (.i .i64) (.sl p (.sl i (.i .i64)))) (.pr (.sl m (Sya b n r)) (.pr Roa (.pr (.sl v (Sza b)) (.sl s .s)))))
theorem Aia {b:TypeId} {xs:List Int} (h:Ty.fit ti (byT b) xs):B5 xs:=λ x hx=>by
 have:=h.2 x hx
 have h1:(decide (IntKind.min .u8≤x)&&decide (x≤IntKind.max .u8))=true:=this
 rw [Bool.and_eq_true,decide_eq_true_iff,decide_eq_true_iff] at h1
 exact h1
theorem Q3 {b n:TypeId} {l:List Nmd} (h:Ty.fit ti (.sl n (Sfa b)) l) (hb:tyB ti b=true) (hn:tyB ti n=true):Oh l∧ByN l:=
 ⟨⟨Mc h hn,λ x hx=>⟨Nat.le_trans (h.2 x hx).1 (by decide),Mc (h.2 x hx).2 hb⟩⟩,λ x hx=>Aia (h.2 x hx).2⟩
theorem Efa {r:TypeId} {l:List Row} (h:Ty.fit ti (.sl r Sga) l) (hr:tyB ti r=true):Eba l:=⟨Mc h hr,λ x hx=>Nat.le_trans (h.2 x hx).1 (by decide)⟩
theorem T1a {d p i b n r m v s:TypeId} {w:Wld} (hk:(tyB ti d&&(tyB ti p&&(tyB ti i&&(tyB ti b&&(tyB ti n&&(tyB ti r&&(tyB ti m&&(tyB ti v&&tyB ti s))))))))=true) (h:Ty.fit ti (T0a d p i b n r m v s) w):HgW w∧ByW w:=by
 simp only [Bool.and_eq_true] at hk
 obtain ⟨kd,kp,ki,kb,kn,kr,km,kv,ks⟩:=hk
 obtain ⟨h1,⟨_,h2⟩,h3,_,h4,h5⟩:=h
 refine ⟨⟨⟨Mc h1 kd,λ _ _=>trivial⟩,⟨Mc h2 kp,λ x hx=>Mc (h2.2 x hx) ki⟩,⟨Mc h3 km,λ x hx=>?_⟩,⟨Mc h4 kv,λ x hx=>⟨Nat.le_trans (h4.2 x hx).1 (by decide),Mc (h4.2 x hx).2.1.2.2 kb⟩⟩,Mc h5 ks,λ x hx=>Nat.le_trans (h5.2 x hx) (by decide)⟩,λ x hx=>?_,λ x hx=>Aia (h4.2 x hx).2.1.2.2⟩
 ·obtain ⟨_,⟨a1,a2⟩,a3,a4⟩:=h3.2 x hx
  exact ⟨⟨(Q3 a1 kb kn).1,(Q3 a2 kb kn).1⟩,Efa a3 kr,Efa a4 kr⟩
 ·obtain ⟨_,⟨a1,a2⟩,_,_⟩:=h3.2 x hx
  exact ⟨(Q3 a1 kb kn).2,(Q3 a2 kb kn).2⟩
end

def Nua (s:ByteArray) (a:Bool×Fil) (n:Nod):Bool×Fil:=bif (lkD n.2.1 s).2==0 then (bif !a.1 || sle a.2.1 (lkD n.2.1 s).1.1 then (true,(lkD n.2.1 s).1) else a) else a
def lat (ns:List Nod) (s:ByteArray):Bool×Fil:=ns.foldl (Nua s) (false,E3a)
theorem Aja {s:ByteArray} {a:Bool×Fil} {n:Nod} (h:a.1=true∨((lkD n.2.1 s).2==0)=true):(Nua s a n).1=true:=by
 unfold Nua
 cases hc:(lkD n.2.1 s).2==0 with
 |false=>
  rw [hc] at h
  rcases h with h|h
  ·exact h
  ·cases h
 |true=>
  rw [cond_true]
  cases ha:a.1 with
  |false=>rfl
  |true=>cases hs:sle a.2.1 (lkD n.2.1 s).1.1<;>simp [ha]
theorem Ega {s:ByteArray}:∀ (ns:List Nod) (a:Bool×Fil),(a.1=true∨∃ n∈ns,((lkD n.2.1 s).2==0)=true)→(ns.foldl (Nua s) a).1=true
 |[],a,h=>by
  rcases h with h|⟨n,hn,_⟩
  ·exact h
  ·cases hn
 |n::ns,a,h=>by
  rw [List.foldl_cons]
  refine Ega ns _ ?_
  rcases h with h|⟨m,hm,hg⟩
  ·exact .inl (Aja (.inl h))
  ·rcases List.mem_cons.1 hm with rfl|hm
   ·exact .inl (Aja (.inr hg))
   ·exact .inr ⟨m,hm,hg⟩
theorem G0a (w:Wld) (hw:WIn w) (s:ByteArray):Tot (λ k=>Bd k w s) (λ r=>r=((lat w.2.2.1 s).2,(lat w.2.2.1 s).1)):=by
 obtain ⟨_,_,⟨h1,h2⟩,_⟩:=hw
 unfold Bd
 refine Tot.bind (Q:=λ r=>r=((lat w.2.2.1 s).1,E3a,(lat w.2.2.1 s).2)) ?_ (by rintro r rfl; exact Tot.pure rfl)
 refine Tot.up (L:=λ k i (a:Bool×Fil)=>Aq k s a.1 w.2.2.1 (w.2.2.1.length:Int) i E3a a.2) (Q:=λ r=>r=((lat w.2.2.1 s).1,E3a,(lat w.2.2.1 s).2)) w.2.2.1.length (λ j a=>(w.2.2.1.drop j).foldl (Nua s) a=lat w.2.2.1 s) ?_ ?_ 0 (false,E3a) (Nat.zero_le _) rfl
 ·rintro a h
  rw [List.drop_length] at h
  simp (disch:=omega) only [Aq,dF]
  exact Tot.pure (by rw [← h]; rfl)
 ·rintro j ⟨b,f⟩ hj h next
  rw [Ga (d:=Lo) hj,List.foldl_cons] at h
  have nx:=next _ h
  have hm:=h2 _ (Aa (d:=Lo) hj)
  obtain ⟨n,en⟩:∃ n:Nod,w.2.2.1.getD j Lo=n:=⟨_,rfl⟩
  rw [en] at hm nx
  have e0:w.2.2.1.getD j ((0:Int),(([],[]),([],[])))=n:=en
  simp (disch:=omega) only [Aq,dT,Int.toNat_natCast,w64,e0]
  refine Tot.bind (Wz hm.1.1.1.1.1 hm.1.2.1 s) ?_
  rintro r rfl
  unfold Nua at nx
  cases hc:(lkD n.2.1 s).2==0 with
  |false=>rw [hc] at nx; exact Tot.no rfl nx
  |true=>
   rw [hc] at nx
   refine Tot.yes rfl ?_
   cases b with
   |false=>exact Tot.yes rfl nx
   |true=>
    refine Tot.no rfl ?_
    simp only [J6a,Option.bind_some]
    dsimp only at nx ⊢
    cases hs:sle f.1 (lkD n.2.1 s).1.1 with
    |true=>rw [hs] at nx; exact Tot.yes rfl nx
    |false=>rw [hs] at nx; exact Tot.no rfl nx
theorem G1a (w:Wld) (hw:WIn w) (s:ByteArray):Tot (λ k=>Bc k w s) (λ r=>r=((lat w.2.2.1 s).2,(lat w.2.2.1 s).1)):=by
 obtain ⟨_,_,⟨h1,h2⟩,_⟩:=hw
 unfold Bc
 refine Tot.bind (Q:=λ r=>r=((lat w.2.2.1 s).1,E3a,(lat w.2.2.1 s).2)) ?_ (by rintro r rfl; exact Tot.pure rfl)
 refine Tot.up (L:=λ k i (a:Bool×Fil)=>Ap k s a.1 i w E3a a.2) (Q:=λ r=>r=((lat w.2.2.1 s).1,E3a,(lat w.2.2.1 s).2)) w.2.2.1.length (λ j a=>(w.2.2.1.drop j).foldl (Nua s) a=lat w.2.2.1 s) ?_ ?_ 0 (false,E3a) (Nat.zero_le _) rfl
 ·rintro a h
  rw [List.drop_length] at h
  simp (disch:=omega) only [Ap,dF]
  exact Tot.pure (by rw [← h]; rfl)
 ·rintro j ⟨b,f⟩ hj h next
  rw [Ga (d:=Lo) hj,List.foldl_cons] at h
  have nx:=next _ h
  have hm:=h2 _ (Aa (d:=Lo) hj)
  obtain ⟨n,en⟩:∃ n:Nod,w.2.2.1.getD j Lo=n:=⟨_,rfl⟩
  rw [en] at hm nx
  have e0:w.2.2.1.getD j ((0:Int),(([],[]),([],[])))=n:=en
  simp (disch:=omega) only [Ap,dT,Int.toNat_natCast,w64,e0]
  refine Tot.bind (E5a hm.1.1.1.1.1 hm.1.2.1 s) ?_
  rintro r rfl
  unfold Nua at nx
  cases hc:(lkD n.2.1 s).2==0 with
  |false=>rw [hc] at nx; exact Tot.no rfl nx
  |true=>
   rw [hc] at nx
   refine Tot.yes rfl ?_
   cases b with
   |false=>exact Tot.yes rfl nx
   |true=>
    refine Tot.no rfl ?_
    simp only [J7a,Option.bind_some]
    dsimp only at nx ⊢
    cases hs:sle f.1 (lkD n.2.1 s).1.1 with
    |true=>rw [hs] at nx; exact Tot.yes rfl nx
    |false=>rw [hs] at nx; exact Tot.no rfl nx
def lvE (s:ByteArray) (p:List Int) (f:Fil) (n:Nod):Bool:=bif Og p n.1 then ((lkD n.2.1 s).2==0)&&Cea (lkD n.2.1 s).1 f else !((lkD n.2.1 s).2==0)
def lvN (w:Wld) (s:ByteArray):Bool:=w.2.2.1.all (lvE s (Td w.2.1 s) (lat w.2.2.1 s).2)
theorem G2a (w:Wld) (hw:WIn w) (s:ByteArray) (hs:s.size≤1000000000):Tot (λ k=>Av k w s) (λ r=>r=lvN w s):=by
 have hw':=hw
 obtain ⟨hr,_,⟨h1,h2⟩,_⟩:=hw'
 unfold Av lvN
 refine Tot.bind (G0a w hw s) ?_
 rintro r rfl
 refine Tot.bind (Q:=λ r=>r=bif w.2.2.1.all (lvE s (Td w.2.1 s) (lat w.2.2.1 s).2) then .inr () else .inl false) ?_ (by
  rintro r rfl
  cases w.2.2.1.all (lvE s (Td w.2.1 s) (lat w.2.2.1 s).2)<;>exact Tot.pure rfl)
 generalize (lat w.2.2.1 s).2=f
 rw [Py _ Lo]
 refine Tot.allI (L:=λ k i=>Ay k s w.2.2.1 (w.2.2.1.length:Int) i w f) _ _ () ?_ ?_
 ·simp (disch:=omega) only [Ay,dF]
  exact Tot.pure rfl
 ·intro j hj Q no yes
  have hm:=h2 _ (Aa (d:=Lo) hj)
  obtain ⟨n,en⟩:∃ n:Nod,w.2.2.1.getD j Lo=n:=⟨_,rfl⟩
  rw [en] at hm no yes
  have e0:w.2.2.1.getD j ((0:Int),(([],[]),([],[])))=n:=en
  simp (disch:=omega) only [Ay,dT,Int.toNat_natCast,w64,e0]
  refine Tot.bind (Wz hm.1.1.1.1.1 hm.1.2.1 s) ?_
  rintro r rfl
  refine Tot.bind (Fla _ s _ hr hs) ?_
  rintro r rfl
  unfold lvE at no yes
  cases hp:Og (Td w.2.1 s) n.1 with
  |false=>
   rw [hp] at no yes
   refine Tot.yes rfl ?_
   cases hc:(lkD n.2.1 s).2==0 with
   |true=>rw [hc] at no; exact Tot.yes rfl (Tot.pure (no rfl))
   |false=>rw [hc] at yes; exact Tot.no rfl (yes rfl)
  |true=>
   rw [hp] at no yes
   refine Tot.no rfl ?_
   cases hc:(lkD n.2.1 s).2==0 with
   |false=>rw [hc] at no; exact Tot.yes (by rw [bne,hc]; rfl) (Tot.pure (no rfl))
   |true=>
    rw [hc] at no yes
    refine Tot.no (by rw [bne,hc]; rfl) ?_
    simp only [Jfa,Option.bind_some]
    cases hf:Cea (lkD n.2.1 s).1 f with
    |false=>rw [hf] at no; exact Tot.yes rfl (Tot.pure (no rfl))
    |true=>rw [hf] at yes; exact Tot.no rfl (yes rfl)
theorem Moa {ns:List Nod} {p:List Int} {j:Nat} (hj:j<ns.length):Og (whr ns p) (j:Int)=Og p (ns.getD j Lo).1:=by
 rw [Bool.eq_iff_iff,X1,X1,Jea]
 constructor
 ·rintro ⟨i,h1,h2,h3⟩
  obtain rfl:j=i:=by omega
  exact h2
 ·intro h
  exact ⟨j,hj,h,rfl⟩
theorem G3a (w:Wld) (hw:WIn w) (s:ByteArray) (hs:s.size≤1000000000):Tot (λ k=>Cf k w s) (λ r=>r=lvN w s):=by
 have hw':=hw
 obtain ⟨hr,_,⟨h1,h2⟩,_⟩:=hw'
 have hpl:=Q0 hr s
 have hwl:=Pz h1 hpl
 unfold Cf lvN
 refine Tot.bind (G1a w hw s) ?_
 rintro r rfl
 refine Tot.bind (E8a _ s hr hs) ?_
 rintro r rfl
 refine Tot.bind (Ui w _ h1 hpl) ?_
 rintro r rfl
 refine Tot.bind (Q:=λ r=>r=bif w.2.2.1.all (lvE s (Td w.2.1 s) (lat w.2.2.1 s).2) then .inr () else .inl false) ?_ (by
  rintro r rfl
  cases w.2.2.1.all (lvE s (Td w.2.1 s) (lat w.2.2.1 s).2)<;>exact Tot.pure rfl)
 have hfound:∀ j,j<w.2.2.1.length→((lkD (w.2.2.1.getD j Lo).2.1 s).2==0)=true→(lat w.2.2.1 s).1=true:=λ j hj h=>Ega _ _ (.inr ⟨_,Aa hj,h⟩)
 generalize (lat w.2.2.1 s).2=f
 generalize (lat w.2.2.1 s).1=fd at *
 rw [Py _ Lo]
 refine Tot.allI (L:=λ k i=>C0 k s fd (whr w.2.2.1 (Td w.2.1 s)) i w f) _ _ () ?_ ?_
 ·simp (disch:=omega) only [C0,dF]
  exact Tot.pure rfl
 ·intro j hj Q no yes
  have hm:=h2 _ (Aa (d:=Lo) hj)
  have hfd:=hfound j hj
  have hin:=Moa (p:=Td w.2.1 s) hj
  obtain ⟨n,en⟩:∃ n:Nod,w.2.2.1.getD j Lo=n:=⟨_,rfl⟩
  rw [en] at hm no yes hfd hin
  have e0:w.2.2.1.getD j ((0:Int),(([],[]),([],[])))=n:=en
  simp (disch:=omega) only [C0,dT,Int.toNat_natCast,w64,e0]
  refine Tot.bind (E5a hm.1.1.1.1.1 hm.1.2.1 s) ?_
  rintro r rfl
  refine Tot.bind (Jba _ (j:Int) (by omega)) ?_
  rintro r rfl
  rw [hin]
  unfold lvE at no yes
  cases hp:Og (Td w.2.1 s) n.1 with
  |false=>
   rw [hp] at no yes
   cases hc:(lkD n.2.1 s).2==0 with
   |true=>rw [hc] at no; exact Tot.yes rfl (Tot.pure (no rfl))
   |false=>rw [hc] at yes; exact Tot.no rfl (Tot.no rfl (yes rfl))
  |true=>
   rw [hp] at no yes
   cases hc:(lkD n.2.1 s).2==0 with
   |false=>rw [hc] at no; exact Tot.yes rfl (Tot.pure (no rfl))
   |true=>
    rw [hc] at no yes
    refine Tot.no rfl (Tot.yes rfl (Tot.no (by rw [hfd hc]; rfl) ?_))
    simp only [Jga,Option.bind_some]
    cases hf:Cea (lkD n.2.1 s).1 f with
    |false=>rw [hf] at no; exact Tot.yes rfl (Tot.pure (no rfl))
    |true=>rw [hf] at yes; exact Tot.no rfl (yes rfl)
theorem Pna (s:ByteArray):∀ (k:Nat) (a:List ByteArray) (h:ByteArray) (b:List ByteArray),a.length=k→∃ m,m≤k∧(Fka (a++h::b) k s).1.set (Fka (a++h::b) k s).2 s=a.take m++s::(a.drop m++b):=by
 intro k
 induction k with
 |zero=>
  intro a h b ha
  obtain rfl:=List.eq_nil_of_length_eq_zero ha
  exact ⟨0,Nat.le_refl _,rfl⟩
 |succ k ih=>
  intro a h b ha
  obtain ⟨a',c,rfl⟩:∃ a' c,a=a'++[c]:=⟨a.dropLast,a.getLast (by intro e; rw [e] at ha; cases ha),(List.dropLast_concat_getLast (by intro e; rw [e] at ha; cases ha)).symm⟩
  have hl:a'.length=k:=by rw [List.length_append,List.length_singleton] at ha; omega
  have hk:((a'++[c])++h::b).getD k Ng=c:=by
   rw [List.append_assoc,List.getD_eq_getElem?_getD,List.getElem?_append_right (by omega),hl,Nat.sub_self]
   rfl
  unfold Fka
  rw [hk]
  cases tlt s c with
  |true=>
   have hset:((a'++[c])++h::b).set (k+1) c=a'++c::(c::b):=by
    rw [List.set_append_right _ _ (by omega),ha,Nat.sub_self,List.set_cons_zero,List.append_assoc]
    rfl
   rw [cond_true,hset]
   obtain ⟨m,h1,h2⟩:=ih a' c (c::b) hl
   refine ⟨m,by omega,?_⟩
   rw [h2,List.take_append_of_le_length (by omega),List.drop_append_of_le_length (by omega),List.append_assoc]
   rfl
  |false=>
   refine ⟨k+1,Nat.le_refl _,?_⟩
   rw [cond_false,List.set_append_right _ _ (by omega),ha,Nat.sub_self,List.set_cons_zero,List.take_of_length_le (by omega),List.drop_eq_nil_of_le (by omega)]
   rfl
theorem Mpa {l:List ByteArray} {s y:ByteArray}:y∈Pka l s↔y=s∨y∈l:=by
 obtain ⟨m,_,h⟩:=Pna s l.length l s [] rfl
 have e:Pka l s=l.take m++s::(l.drop m++[]):=h
 rw [e,List.append_nil,List.mem_append,List.mem_cons]
 have:=(List.take_append_drop m l).symm
 constructor
 ·rintro (h|h|h)
  ·exact .inr (List.mem_of_mem_take h)
  ·exact .inl h
  ·exact .inr (List.mem_of_mem_drop h)
 ·rintro (h|h)
  ·exact .inr (.inl h)
  ·rw [this,List.mem_append] at h
   rcases h with h|h
   ·exact .inl h
   ·exact .inr (.inr h)
def Aka (d:Dsk) (s:ByteArray):Prop:=((lkD d s).2==0)=true
theorem X9 {d:Dsk} {s:ByteArray}:Aka d s↔∃ i,fnd d.1 s=some i∧(R7 (d.1.getD i Kx).2).isSome=true:=by
 unfold Aka lkD gt
 cases h:fnd d.1 s with
 |none=>simp
 |some i=>
  simp only [Option.some.injEq]
  constructor
  ·intro hg
   refine ⟨i,rfl,?_⟩
   cases hf:R7 (d.1.getD i Kx).2 with
   |none=>simp only [hf] at hg; cases hg
   |some f=>rfl
  ·rintro ⟨j,rfl,hg⟩
   cases hf:R7 (d.1.getD i Kx).2 with
   |none=>rw [hf] at hg; cases hg
   |some f=>rfl
theorem T6 {d:Dsk} {s:ByteArray}:s∈R9 d↔Aka d s:=by
 have key:∀ (l:List Nmd) (out:List ByteArray),s∈l.foldl (hI d) out↔s∈out∨∃ x∈l,x.1=s∧Aka d s:=by
  intro l
  induction l with
  |nil=>intro out; simp
  |cons x l ih=>
   intro out
   rw [List.foldl_cons,ih]
   have hx:s∈hI d out x↔s∈out∨(x.1=s∧Aka d s):=by
    unfold hI
    cases hc:(lkD d x.1).2==0 with
    |false=>
     rw [cond_false]
     refine ⟨.inl,?_⟩
     rintro (h|⟨rfl,h⟩)
     ·exact h
     ·unfold Aka at h; rw [hc] at h; cases h
    |true=>
     rw [cond_true,R8a]
     constructor
     ·rintro (rfl|h)
      ·exact .inr ⟨rfl,hc⟩
      ·exact .inl h
     ·rintro (h|⟨h,_⟩)
      ·exact .inr h
      ·exact .inl h.symm
   rw [hx]
   constructor
   ·rintro ((h|h)|⟨y,hy,h⟩)
    ·exact .inl h
    ·exact .inr ⟨x,List.mem_cons_self,h⟩
    ·exact .inr ⟨y,List.mem_cons_of_mem _ hy,h⟩
   ·rintro (h|⟨y,hy,h⟩)
    ·exact .inl (.inl h)
    ·rcases List.mem_cons.1 hy with rfl|hy
     ·exact .inl (.inr h)
     ·exact .inr ⟨y,hy,h⟩
 unfold R9
 rw [key]
 constructor
 ·rintro (h|⟨x,_,_,h⟩)
  ·cases h
  ·exact h
 ·intro h
  obtain ⟨i,hi,_⟩:=X9.1 h
  have:=Qx hi
  exact .inr ⟨_,Aa (d:=Kx) this.1,this.2,h⟩
theorem T7 {d:Dsk} {s:ByteArray}:s∈Ra d↔Aka d s:=by
 have key:∀ (m j:Nat) (out:List ByteArray),d.1.length - j=m→j≤d.1.length→(s∈hS d.1 (d.1.drop j) j out↔s∈out∨∃ i,j≤i∧fnd d.1 s=some i∧((R7 (d.1.getD i Kx).2).isSome=true∨s∈out)):=by
  intro m
  induction m with
  |zero=>
   intro j out hm hj
   rw [List.drop_eq_nil_of_le (by omega)]
   show s∈out↔_
   constructor
   ·exact .inl
   ·rintro (h|⟨i,h1,h2,_⟩)
    ·exact h
    ·have:=(Qx h2).1; omega
  |succ m ih=>
   intro j out hm hj
   rw [Ga (d:=Kx) (show j<d.1.length by omega)]
   show s∈hS d.1 (d.1.drop (j+1)) (j+1) (hS1 d.1 j out (d.1.getD j Kx))↔_
   rw [ih (j+1) _ (by omega) (by omega)]
   have hx:s∈hS1 d.1 j out (d.1.getD j Kx)↔s∈out∨((R7 (d.1.getD j Kx).2).isSome=true∧fnd d.1 s=some j):=by
    unfold hS1
    cases hf:(R7 (d.1.getD j Kx).2).isSome with
    |false=>simp
    |true=>
     rw [Bool.true_and]
     cases hh:C8a out (d.1.getD j Kx).1 with
     |true=>
      simp only [Bool.not_true,Bool.false_and,cond_false,true_and]
      refine ⟨.inl,?_⟩
      rintro (h|h)
      ·exact h
      ·rw [← (Qx h).2]; exact Mca.1 hh
     |false=>
      simp only [Bool.not_false,Bool.true_and,true_and]
      cases he:Fha d.1 (d.1.getD j Kx).1==(j:Int) with
      |false=>
       rw [cond_false]
       refine ⟨.inl,?_⟩
       rintro (h|h)
       ·exact h
       ·have h2:=(Qx h).2
        unfold Fha at he
        rw [h2,h] at he
        simp at he
      |true=>
       rw [cond_true,Mpa]
       have h3:fnd d.1 (d.1.getD j Kx).1=some j:=by
        have:=eq_of_beq he
        unfold Fha at this
        cases hq:fnd d.1 (d.1.getD j Kx).1 with
        |none=>rw [hq] at this; simp only at this; omega
        |some i=>rw [hq] at this; simp only at this; exact congrArg some (by omega)
       constructor
       ·rintro (rfl|h)
        ·exact .inr h3
        ·exact .inl h
       ·rintro (h|h)
        ·exact .inr h
        ·exact .inl (Qx h).2.symm
   rw [hx]
   constructor
   ·rintro ((h|⟨h1,h2⟩)|⟨i,h1,h2,h3⟩)
    ·exact .inl h
    ·exact .inr ⟨j,Nat.le_refl _,h2,.inl h1⟩
    ·rcases h3 with h3|h3|⟨h3,h4⟩
     ·exact .inr ⟨i,by omega,h2,.inl h3⟩
     ·exact .inl h3
     ·rw [h4] at h2; cases h2; omega
   ·rintro (h|⟨i,h1,h2,h3⟩)
    ·exact .inl (.inl h)
    ·rcases h3 with h3|h3
     ·by_cases e:i=j
      ·subst e; exact .inl (.inr ⟨h3,h2⟩)
      ·exact .inr ⟨i,by omega,h2,.inl h3⟩
     ·exact .inl (.inl h3)
 unfold Ra
 rw [show hS d.1 d.1 0 []=hS d.1 (d.1.drop 0) 0 [] from rfl,key _ 0 [] rfl (Nat.zero_le _),X9]
 constructor
 ·rintro (h|⟨i,_,h2,h3⟩)
  ·cases h
  ·rcases h3 with h3|h3
   ·exact ⟨i,h2,h3⟩
   ·cases h3
 ·rintro ⟨i,h1,h2⟩
  exact .inr ⟨i,Nat.zero_le _,h1,.inl h2⟩
theorem Mqa {d:Dsk} {p:ByteArray→Bool}:(Ra d).all p=(R9 d).all p:=by
 rw [Bool.eq_iff_iff,List.all_eq_true,List.all_eq_true]
 exact ⟨λ h x hx=>h x (T7.2 (T6.1 hx)),λ h x hx=>h x (T6.2 (T7.1 hx))⟩
def Poa (a b:Row):Bool:=(a.1==b.1)&&((a.2.1.1==b.2.1.1)&&((a.2.1.2.1==b.2.1.2.1)&&((a.2.1.2.2==b.2.1.2.2)&&((a.2.2.1==b.2.2.1)&&(a.2.2.2==b.2.2.2)))))
def Cja (a b:List Row):Bool:=((a.length:Int)==(b.length:Int))&&(List.range a.length).all λ j=>Poa (a.getD j X6) (b.getD j X6)
theorem Ala (a b:List Row) (ha:a.length≤1000000000):Tot (λ k=>Er k a b) (λ r=>r=Cja a b):=by
 unfold Er Cja
 cases hl:(a.length:Int)==(b.length:Int) with
 |false=>exact Tot.yes (by rw [bne,hl]; rfl) (Tot.pure rfl)
 |true=>
  have hl':=eq_of_beq hl
  rw [Bool.true_and]
  refine Tot.no (by rw [bne,hl]; rfl) (Tot.bind (Q:=λ r=>r=bif (List.range a.length).all (λ j=>Poa (a.getD j X6) (b.getD j X6)) then .inr () else .inl false) ?_ (by
   rintro r rfl
   cases (List.range a.length).all (λ j=>Poa (a.getD j X6) (b.getD j X6))<;>exact Tot.pure rfl))
  refine Tot.allI (L:=λ k i=>C2 k a b (a.length:Int) i) _ _ () ?_ ?_
  ·simp (disch:=omega) only [C2,dF]
   exact Tot.pure rfl
  ·intro j hj Q no yes
   have e0:∀ l:List Row,l.getD j ((⟨#[]⟩:ByteArray),(((0:Int),((0:Int),(0:Int))),(false,(0:Int))))=l.getD j X6:=λ _=>rfl
   simp (disch:=omega) only [C2,dT,Int.toNat_natCast,w64,e0]
   unfold Poa at no yes
   refine Tot.ite (λ hc=>Tot.pure (no ?_)) (λ hc=>yes ?_)
   ·rw [Bool.not_eq_true'] at hc; exact hc
   ·rw [Bool.not_eq_false'] at hc; exact hc
theorem Qy (a b:List Row) (ha:a.length≤1000000000):Tot (λ k=>F4 k a b) (λ r=>r=Cja a b):=by
 unfold F4 Cja
 cases hl:(a.length:Int)==(b.length:Int) with
 |false=>exact Tot.yes (by rw [bne,hl]; rfl) (Tot.pure rfl)
 |true=>
  have hl':=eq_of_beq hl
  rw [Bool.true_and]
  refine Tot.no (by rw [bne,hl]; rfl) (Tot.bind (Q:=λ r=>r=bif (List.range a.length).all (λ j=>Poa (a.getD j X6) (b.getD j X6)) then .inr () else .inl false) ?_ (by
   rintro r rfl
   cases (List.range a.length).all (λ j=>Poa (a.getD j X6) (b.getD j X6))<;>exact Tot.pure rfl))
  refine Tot.allI (L:=λ k i=>Da k a b i) _ _ () ?_ ?_
  ·simp (disch:=omega) only [Da,dF]
   exact Tot.pure rfl
  ·intro j hj Q no yes
   have e0:∀ l:List Row,l.getD j ((⟨#[]⟩:ByteArray),(((0:Int),((0:Int),(0:Int))),(false,(0:Int))))=l.getD j X6:=λ _=>rfl
   simp (disch:=omega) only [Da,dT,Int.toNat_natCast,w64,e0]
   unfold Poa at no yes
   refine Tot.ite (λ hc=>Tot.pure (no ?_)) (λ hc=>yes ?_)
   ·rw [Bool.not_eq_true'] at hc; exact hc
   ·rw [Bool.not_eq_false'] at hc; exact hc
def K6a (w:Wld) (j:Nat):List Row:=bif Og (Jv w) (j:Int) then (w.2.2.1.getD ((Jv w).getD 0 0).toNat Lo).2.2.1 else []
def Mra (w:Wld) (j:Nat):Bool := !(decide (((w.2.2.1.getD j Lo).2.2.2.length:Int) > 0))&&Cja (w.2.2.1.getD j Lo).2.2.1 (K6a w j)
def Nva (w:Wld) (j:Nat):Bool:=(R9 (w.2.2.1.getD j Lo).2.1).all (lvN w)
def Rha (w:Wld):Bool:=(List.range w.2.2.1.length).all (Nva w)&&(List.range w.2.2.1.length).all (Mra w)
theorem Msa (w:Wld):Rha w=(List.range w.2.2.1.length).all λ j=>Nva w j&&Mra w j:=by
 unfold Rha
 rw [Bool.eq_iff_iff,Bool.and_eq_true,List.all_eq_true,List.all_eq_true,List.all_eq_true]
 constructor
 ·rintro ⟨h1,h2⟩ j hj
  rw [h1 j hj,h2 j hj]; rfl
 ·intro h
  exact ⟨λ j hj=>(Bool.and_eq_true _ _ ▸ h j hj:_∧_).1,λ j hj=>(Bool.and_eq_true _ _ ▸ h j hj:_∧_).2⟩
theorem K7a (a:List Row):Cja a [] = !(decide ((a.length:Int) > 0)):=by
 unfold Cja
 cases a with
 |nil=>rfl
 |cons x l=>
  rw [decide_eq_true (show ((x::l).length:Int) > 0 by rw [List.length_cons]; omega),show (((x::l).length:Int)==(([]:List Row).length:Int))=false by rw [beq_eq_false_iff_ne,List.length_cons,List.length_nil]; omega]
  rfl
theorem Ama {w:Wld} {j:Int} (h:Og (Jv w) j=true):0<(Jv w).length∧0≤(Jv w).getD 0 0∧(Jv w).getD 0 0<(w.2.2.1.length:Int):=by
 have hm:=X1.1 h
 have h0:=List.length_pos_of_mem hm
 obtain ⟨i,h1,_,h3⟩:=Jea.1 (show (Jv w).getD 0 0∈whr w.2.2.1 (Td w.2.1 Nra) from Aa h0)
 exact ⟨h0,by omega,by omega⟩
def Rpa (w:Wld):Prop:=∀ n∈w.2.2.1,∀ x∈n.2.1.1,x.1.size≤1000000000
theorem Uq {w:Wld} (hn:Rpa w) {n:Nod} (hm:n∈w.2.2.1) {s:ByteArray} (hs:Aka n.2.1 s):s.size≤1000000000:=by
 obtain ⟨i,h1,_⟩:=X9.1 hs
 obtain ⟨h2,h3⟩:=Qx h1
 rw [← h3]
 exact hn n hm _ (Aa h2)
theorem Xa (w:Wld) (hw:WIn w):Tot (λ k=>Aw k w) (λ r=>r=(List.range w.2.2.1.length).all (Mra w)):=by
 have hw':=hw
 obtain ⟨hr,_,⟨h1,h2⟩,_⟩:=hw'
 have hwl:=Pz h1 (Q0 hr Nra)
 rw [show whr w.2.2.1 (Td w.2.1 Nra)=Jv w from rfl] at hwl
 unfold Aw
 refine Tot.bind (Cca w hr h1) ?_
 rintro r rfl
 refine Tot.bind (Q:=λ r=>r=bif (List.range w.2.2.1.length).all (Mra w) then .inr () else .inl false) ?_ (by
  rintro r rfl
  cases (List.range w.2.2.1.length).all (Mra w)<;>exact Tot.pure rfl)
 refine Tot.allI (L:=λ k i=>Az k (Jv w) w.2.2.1 (w.2.2.1.length:Int) i w) _ _ () ?_ ?_
 ·simp (disch:=omega) only [Az,dF]
  exact Tot.pure rfl
 ·intro j hj Q no yes
  have hm:=h2 _ (Aa (d:=Lo) hj)
  have e1:∀ i,w.2.2.1.getD i ((0:Int),(([],[]),([],[])))=w.2.2.1.getD i Lo:=λ _=>rfl
  simp (disch:=omega) only [Az,dT,Int.toNat_natCast,w64,e1]
  unfold Mra K6a at no yes
  refine Tot.ite (λ hc=>Tot.pure (no (by rw [hc]; rfl))) (λ hc=>?_)
  rw [hc,Bool.not_false,Bool.true_and] at no yes
  refine Tot.bind (Jaa _ (j:Int) (by omega)) ?_
  rintro r rfl
  cases hh:Og (Jv w) (j:Int) with
  |false=>
   rw [hh,cond_false,K7a] at no yes
   refine Tot.yes rfl (Tot.ite (λ hc=>Tot.pure (no (by rw [hc]; rfl))) (λ hc=>yes (by rw [hc]; rfl)))
  |true=>
   rw [hh,cond_true] at no yes
   obtain ⟨l0,l1,l2⟩:=Ama hh
   refine Tot.no rfl (Tot.dec (by omega) ?_)
   rw [show Int.toNat 0=0 from rfl]
   refine Tot.dec l1 (Tot.dec l2 (Tot.bind (Ala _ _ (by have:=hm.2.1.1; omega)) ?_))
   rintro r rfl
   refine Tot.ite (λ hc=>Tot.pure (no ?_)) (λ hc=>yes ?_)
   ·rw [Bool.not_eq_true'] at hc; exact hc
   ·rw [Bool.not_eq_false'] at hc; exact hc
theorem K8a (w:Wld) (hw:WIn w) (hn:Rpa w):Tot (λ k=>Dz k w) (λ r=>r=Rha w):=by
 have hw':=hw
 obtain ⟨hr,_,⟨h1,h2⟩,_⟩:=hw'
 unfold Dz Rha
 refine Tot.bind (Q:=λ r=>r=bif (List.range w.2.2.1.length).all (Nva w) then .inr w else .inl false) ?_ ?_
 ·refine Tot.allI (L:=λ k i=>Fy k w.2.2.1 (w.2.2.1.length:Int) i w) _ _ w ?_ ?_
  ·simp (disch:=omega) only [Fy,dF]
   exact Tot.pure rfl
  ·intro j hj Q no yes
   have hmem:=Aa (d:=Lo) hj
   have hm:=h2 _ hmem
   have e1:∀ i,w.2.2.1.getD i ((0:Int),(([],[]),([],[])))=w.2.2.1.getD i Lo:=λ _=>rfl
   simp (disch:=omega) only [Fy,dT,Int.toNat_natCast,w64,e1]
   refine Tot.bind (Mba _ hm.1.1 hm.1.2) ?_
   rintro r rfl
   unfold Nva at no yes
   have hlen:(R9 (w.2.2.1.getD j Lo).2.1).length≤2000000:=by
    have:=Nqa (w.2.2.1.getD j Lo).2.1 (w.2.2.1.getD j Lo).2.1.1 []
    rw [List.length_nil] at this
    have:=hm.1.1.2.1
    unfold R9
    omega
   have hsm:∀ s∈R9 (w.2.2.1.getD j Lo).2.1,s.size≤1000000000:=λ s hs=>Uq hn hmem (T6.1 hs)
   generalize R9 (w.2.2.1.getD j Lo).2.1=l at *
   refine Tot.bind (Q:=λ r=>r=bif l.all (lvN w) then .inr (w.2.2.1,(w.2.2.1.length:Int),(j:Int),w) else .inl false) ?_ ?_
   ·rw [Py _ Ng]
    refine Tot.allI (L:=λ k i=>Fx k w.2.2.1 (w.2.2.1.length:Int) (j:Int) l (l.length:Int) i w) _ _ (w.2.2.1,(w.2.2.1.length:Int),(j:Int),w) ?_ ?_
    ·simp (disch:=omega) only [Fx,dF]
     exact Tot.pure rfl
    ·intro i hi Q no yes
     have e0:l.getD i (⟨#[]⟩:ByteArray)=l.getD i Ng:=rfl
     simp (disch:=omega) only [Fx,dT,Int.toNat_natCast,w64,e0]
     refine Tot.bind (G2a w hw _ (hsm _ (Aa hi))) ?_
     rintro r rfl
     refine Tot.ite (λ hc=>Tot.pure (no ?_)) (λ hc=>yes ?_)
     ·rw [Bool.not_eq_true'] at hc; exact hc
     ·rw [Bool.not_eq_false'] at hc; exact hc
   ·rintro r rfl
    cases hc:l.all (lvN w) with
    |false=>exact Tot.pure (no hc)
    |true=>
     simp (disch:=omega) only [cond_true,Sum.elim_inr,w64]
     exact yes hc
 ·rintro r rfl
  cases (List.range w.2.2.1.length).all (Nva w) with
  |false=>exact Tot.pure rfl
  |true=>
   refine Tot.bind (Xa w hw) ?_
   rintro r rfl
   exact Tot.pure rfl
theorem K9a (w:Wld) (hw:WIn w) (hn:Rpa w):Tot (λ k=>Dy k w) (λ r=>r=Rha w):=by
 have hw':=hw
 obtain ⟨hr,_,⟨h1,h2⟩,_⟩:=hw'
 have hwl:=Pz h1 (Q0 hr Nra)
 rw [show whr w.2.2.1 (Td w.2.1 Nra)=Jv w from rfl] at hwl
 unfold Dy
 rw [Msa]
 refine Tot.bind (Cda w hr h1) ?_
 rintro r rfl
 refine Tot.bind (Q:=λ r=>r=bif (List.range w.2.2.1.length).all (λ j=>Nva w j&&Mra w j) then .inr () else .inl false) ?_ (by
  rintro r rfl
  cases (List.range w.2.2.1.length).all (λ j=>Nva w j&&Mra w j)<;>exact Tot.pure rfl)
 refine Tot.allI (L:=λ k i=>Eo k (Jv w) i w) _ _ () ?_ ?_
 ·simp (disch:=omega) only [Eo,dF]
  exact Tot.pure rfl
 ·intro j hj Q no yes
  have hmem:=Aa (d:=Lo) hj
  have hm:=h2 _ hmem
  have e1:∀ i,w.2.2.1.getD i ((0:Int),(([],[]),([],[])))=w.2.2.1.getD i Lo:=λ _=>rfl
  simp (disch:=omega) only [Eo,dT,Int.toNat_natCast,e1]
  refine Tot.bind (Mga _ hm.1.1 hm.1.2) ?_
  rintro r rfl
  unfold Nva at no yes
  rw [← Mqa] at no yes
  have hlen:(Ra (w.2.2.1.getD j Lo).2.1).length≤2000000:=by
   have:=(Rca (w.2.2.1.getD j Lo).2.1.1 hm.1.1.1.2.1 (w.2.2.1.getD j Lo).2.1.1 0 [] (λ x hx=>hx) (λ y hy=>nomatch hy)).1
   rw [List.length_nil] at this
   have:=hm.1.1.2.1
   unfold Ra
   omega
  have hsm:∀ s∈Ra (w.2.2.1.getD j Lo).2.1,s.size≤1000000000:=λ s hs=>Uq hn hmem (T7.1 hs)
  generalize Ra (w.2.2.1.getD j Lo).2.1=l at *
  refine Tot.bind (Q:=λ r=>r=bif l.all (lvN w) then .inr (Jv w,(j:Int),w,w.2.2.1.getD j Lo) else .inl false) ?_ ?_
  ·rw [Py _ Ng]
   refine Tot.allI (L:=λ k i=>Fu k (Jv w) (j:Int) l i w (w.2.2.1.getD j Lo)) _ _ (Jv w,(j:Int),w,w.2.2.1.getD j Lo) ?_ ?_
   ·simp (disch:=omega) only [Fu,dF]
    exact Tot.pure rfl
   ·intro i hi Q no yes
    have e0:l.getD i (⟨#[]⟩:ByteArray)=l.getD i Ng:=rfl
    simp (disch:=omega) only [Fu,dT,Int.toNat_natCast,w64,e0]
    refine Tot.bind (G3a w hw _ (hsm _ (Aa hi))) ?_
    rintro r rfl
    refine Tot.ite (λ hc=>Tot.pure (no ?_)) (λ hc=>yes ?_)
    ·rw [Bool.not_eq_true'] at hc; exact hc
    ·rw [Bool.not_eq_false'] at hc; exact hc
  ·rintro r rfl
   cases hc:l.all (lvN w) with
   |false=>exact Tot.pure (no (by rw [hc]; rfl))
   |true=>
    rw [hc,Bool.true_and] at no yes
    simp (disch:=omega) only [cond_true,Sum.elim_inr,w64]
    refine Tot.bind (Jba _ (j:Int) (by omega)) ?_
    rintro r rfl
    unfold Mra K6a at no yes
    cases hh:Og (Jv w) (j:Int) with
    |false=>
     rw [hh,cond_false] at no yes
     refine Tot.no rfl (Tot.ite (λ hc=>Tot.pure (no (by rw [hc]; rfl))) (λ hc=>?_))
     rw [hc,Bool.not_false,Bool.true_and] at no yes
     refine Tot.bind (Qy _ _ (by have:=hm.2.1.1; omega)) ?_
     rintro r rfl
     refine Tot.ite (λ hc=>Tot.pure (no ?_)) (λ hc=>yes ?_)
     ·rw [Bool.not_eq_true'] at hc; exact hc
     ·rw [Bool.not_eq_false'] at hc; exact hc
    |true=>
     rw [hh,cond_true] at no yes
     obtain ⟨l0,l1,l2⟩:=Ama hh
     refine Tot.yes rfl (Tot.dec (by omega) ?_)
     rw [show Int.toNat 0=0 from rfl]
     refine Tot.dec l1 (Tot.dec l2 (Tot.ite (λ hc=>Tot.pure (no (by rw [hc]; rfl))) (λ hc=>?_)))
     rw [hc,Bool.not_false,Bool.true_and] at no yes
     refine Tot.bind (Qy _ _ (by have:=hm.2.1.1; omega)) ?_
     rintro r rfl
     refine Tot.ite (λ hc=>Tot.pure (no ?_)) (λ hc=>yes ?_)
     ·rw [Bool.not_eq_true'] at hc; exact hc
     ·rw [Bool.not_eq_false'] at hc; exact hc

end Go.Proofs.YtlfoljnopndpeaaGreat.Vf

section
set_option linter.unusedVariables false
set_option linter.unusedSimpArgs false
namespace Go.Proofs.YtlfoljnopndpeaaGreat.Pure
open Go Go.RowKit Go.Proofs.YtlfoljnopndpeaaGreat.Vf
theorem FnExactLevel:∀ (a0:(List (Int×Int×Int))×(Int×(List (List Int)))×(List (Int×((List (ByteArray×(List Int)))×(List (ByteArray×(List Int))))×(List (ByteArray×(Int×Int×Int)×Bool×Int))×(List (ByteArray×(Int×Int×Int)×Bool×Int))))×(Int×Int×Int)×(List (ByteArray×((Int×Int×Int)×Bool×(List Int))×Bool))×(List ByteArray)),Ty.fit ti (.pr (.sl 106 (.pr (.i .i64) (.pr (.i .i64) (.i .i64)))) (.pr (.pr (.i .i64) (.sl 136 (.sl 3 (.i .i64)))) (.pr (.sl 84 (.pr (.i .i64) (.pr (.pr (.sl 197 (.pr .s (.sl 5 (.i .u8)))) (.sl 197 (.pr .s (.sl 5 (.i .u8))))) (.pr (.sl 176 (.pr .s (.pr (.pr (.i .i64) (.pr (.i .i64) (.i .i64))) (.pr .b (.i .i64))))) (.sl 176 (.pr .s (.pr (.pr (.i .i64) (.pr (.i .i64) (.i .i64))) (.pr .b (.i .i64))))))))) (.pr (.pr (.i .i64) (.pr (.i .i64) (.i .i64))) (.pr (.sl 90 (.pr .s (.pr (.pr (.pr (.i .i64) (.pr (.i .i64) (.i .i64))) (.pr .b (.sl 5 (.i .u8)))) .b))) (.sl 9 .s)))))) a0→∃ k,C5 k a0=some true:=by
 intro a0 f0
 obtain ⟨hg,hb⟩:=T1a (by kernel_rfl) f0
 refine Tot.law (f:=λ k=>C5 k a0) ?_
 unfold C5
 refine Tot.bind (Fqa a0 hg (by decide) (by decide)) ?_
 intro r hr
 refine Tot.dite (λ _=>Tot.pure rfl) (λ h=>?_)
 rcases hr with hr|⟨_,_,hs⟩
 ·exact absurd hr h
 have hw:=Pma hs hb
 have hn:Rpa a0:=λ n hn x hx=>by
  have:(x.1.size:Int)≤1048576:=(((hs.2.2.1.2 n hn).1.1).2 x hx).1
  omega
 refine Tot.bind (Qr a0 hs) ?_
 rintro _ rfl
 refine Tot.bind (K9a _ hw hn) ?_
 rintro _ rfl
 refine Tot.bind (Qr _ hs) ?_
 rintro w rfl
 refine Tot.bind (K8a w hw hn) ?_
 rintro _ rfl
 refine Tot.no (by rw [beq_self_eq_true]; rfl) (Tot.bind (Qr w hs) ?_)
 rintro _ rfl
 refine Tot.bind (Fza _ hs) ?_
 rintro _ rfl
 exact Tot.pure rfl
end Go.Proofs.YtlfoljnopndpeaaGreat.Pure
end
