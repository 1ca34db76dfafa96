import Derived.Test.YtmhhjceoinoekaaGreatMan
set_option linter.unusedVariables false
set_option linter.unusedSimpArgs false
namespace Go.Proofs.YtmhhjceoinoekaaGreat.Vf
open Go

def B4a (l:List ByteArray) (s:ByteArray):Bool:=l.any λ y=>teq y s
theorem E6a {l:List ByteArray} {s:ByteArray}:B4a l s=true↔s∈l:=by
 unfold B4a
 rw [List.any_eq_true]
 constructor
 ·rintro ⟨x,hx,e⟩; rw [← Jm.1 e]; exact hx
 ·intro h; exact ⟨s,h,Jm.2 rfl⟩
theorem Mia (l:List ByteArray) (s:ByteArray) (hl:l.length≤1000000000):Tot (λ k=>Hz k l s) (λ r=>r=B4a l s):=by
 unfold Hz
 refine Tot.bind (Q:=λ r=>r=bif B4a l s then .inl true else .inr ()) ?_ (by rintro r rfl; cases B4a l s<;>exact Tot.pure rfl)
 refine Tot.up (L:=λ k i (_:Unit)=>Hc k l s i) (Q:=λ r=>r=bif B4a l s then .inl true else .inr ()) l.length (λ j _=>B4a (l.drop j) s=B4a l s) ?_ ?_ 0 () (Nat.zero_le _) rfl
 ·intro _ h
  rw [List.drop_length] at h
  simp (disch:=omega) only [Hc,dF,← h]
  exact Tot.pure rfl
 ·intro j _ hj h next
  rw [Al (d:=Ni) hj] at h
  unfold B4a at h
  rw [List.any_cons] at h
  simp (disch:=omega) only [Hc,dT,Int.toNat_natCast,w64]
  refine Tot.ite (λ hc=>Tot.pure ?_) (λ hc=>next () ?_)
  ·rw [show teq (l.getD j Ni) s=true from hc,Bool.true_or] at h
   unfold B4a
   rw [← h]
   rfl
  ·rw [show teq (l.getD j Ni) s=false from hc,Bool.false_or] at h
   exact h
def Hfa (l:List ByteArray):Nat→ByteArray→List ByteArray×Nat
 |0,_=>(l,0)
 |k+1,s=>bif tlt s (l.getD k Ni) then Hfa (l.set (k+1) (l.getD k Ni)) k s else (l,k+1)
def Y7a (l:List ByteArray) (s:ByteArray):List ByteArray:=(Hfa (l++[s]) l.length s).1.set (Hfa (l++[s]) l.length s).2 s
theorem Asa:∀ (k:Nat) (l:List ByteArray) (s:ByteArray),(Hfa l k s).1.length=l.length∧(Hfa l k s).2≤k∧∀ y∈(Hfa l k s).1,y∈l∨y=Ni
 |0,_,_=>⟨rfl,Nat.le_refl _,λ _ h => .inl h⟩
 |k+1,l,s=>by
  unfold Hfa
  cases tlt s (l.getD k Ni) with
  |false=>exact ⟨rfl,Nat.le_refl _,λ _ h => .inl h⟩
  |true=>
   obtain ⟨h1,h2,h3⟩:=Asa k (l.set (k+1) (l.getD k Ni)) s
   rw [cond_true]
   refine ⟨by rw [h1,List.length_set],by omega,λ y hy=>?_⟩
   rcases h3 y hy with h|h
   ·rcases List.mem_or_eq_of_mem_set h with h|h
    ·exact .inl h
    ·by_cases hk:k<l.length
     ·rw [h]; exact .inl (A3 hk)
     ·rw [h,List.getD_eq_getElem?_getD,List.getElem?_eq_none (by omega)]; exact .inr rfl
   ·exact .inr h
theorem W7a (l:List ByteArray) (s:ByteArray):(Y7a l s).length=l.length+1:=by
 unfold Y7a
 rw [List.length_set,(Asa _ _ _).1,List.length_append]
 rfl
theorem W8a {l:List ByteArray} {s y:ByteArray} (h:y∈Y7a l s):y∈l∨y=s∨y=Ni:=by
 unfold Y7a at h
 rcases List.mem_or_eq_of_mem_set h with h|h
 ·rcases (Asa _ _ _).2.2 y h with h|h
  ·rcases List.mem_append.1 h with h|h
   ·exact .inl h
   ·exact .inr (.inl (List.mem_singleton.1 h))
  ·exact .inr (.inr h)
 ·exact .inr (.inl h)
def hS1 (l:List Nmd) (j:Nat) (out:List ByteArray) (x:Nmd):List ByteArray:=bif (Nj x.2).isSome&&(!(B4a out x.1)&&(Dua l x.1==(j:Int))) then Y7a out x.1 else out
def hS (l:List Nmd):List Nmd→Nat→List ByteArray→List ByteArray
 |[],_,out=>out
 |x::r,j,out=>hS l r (j+1) (hS1 l j out x)
def O7a (d:Dsk):List ByteArray:=hS d.1 d.1 0 []
theorem Sta (l:List Nmd) (j:Nat) (out:List ByteArray) (x:Nmd):(hS1 l j out x).length≤out.length+1:=by
 unfold hS1
 cases (Nj x.2).isSome&&(!(B4a out x.1)&&(Dua l x.1==(j:Int))) with
 |false=>exact Nat.le_succ _
 |true=>rw [cond_true,W7a]; exact Nat.le_refl _
theorem Czb (l:List Nmd) (hl:Pp l):∀ (r:List Nmd) (j:Nat) (out:List ByteArray),(∀ x∈r,x∈l)→(∀ y∈out,Km y)→(hS l r j out).length≤out.length+r.length∧∀ y∈hS l r j out,Km y
 |[],_,out,_,h=>⟨by simp [hS],h⟩
 |x::r,j,out,hm,h=>by
  have h2:=Sta l j out x
  obtain ⟨a1,a2⟩:=Czb l hl r (j+1) (hS1 l j out x) (λ y hy=>hm y (List.mem_cons_of_mem _ hy)) (λ y hy=>by
   unfold hS1 at hy
   cases hc:(Nj x.2).isSome&&(!(B4a out x.1)&&(Dua l x.1==(j:Int))) with
   |false=>rw [hc] at hy; exact h y hy
   |true=>
    rw [hc] at hy
    rcases W8a hy with hy|rfl|rfl
    ·exact h y hy
    ·exact hl x (hm x List.mem_cons_self)
    ·unfold Km; decide)
  refine ⟨?_,a2⟩
  show (hS l r (j+1) (hS1 l j out x)).length≤_
  rw [List.length_cons]
  omega
theorem Jja (a b:List Nmd) (j:Nat) (hj:j<a.length) (ha:a.length≤5000000):∀ (k:Nat) (x:List ByteArray),k<x.length→x.length≤5000000→
  Tot (λ n=>Jd n x (j:Int) (k:Int) (a,b)) (λ r=>r=((Hfa x k (a.getD j Ed).1).1,(j:Int),((Hfa x k (a.getD j Ed).1).2:Int),(a,b))):=by
 intro k
 induction k with
 |zero=>
  intro x hk hx
  refine Tot.succ ?_
  simp (disch:=omega) only [Jd,dF]
  exact Tot.pure rfl
 |succ k ih=>
  intro x hk hx
  refine Tot.succ ?_
  have e1:((k+1:Nat):Int) - 1=(k:Int):=by omega
  simp (disch:=omega) only [Jd,dT,w64,e1,Int.toNat_natCast]
  have e0:a.getD j ((⟨#[]⟩:ByteArray),([]:List Int))=a.getD j Ed:=rfl
  rw [e0]
  unfold Hfa
  refine Tot.ite (λ h=>?_) (λ h=>?_)
  ·rw [Lga] at h
   rw [show tlt (a.getD j Ed).1 (x.getD k Ni)=true from h,cond_true]
   exact ih _ (by rw [List.length_set]; omega) (by rw [List.length_set]; omega)
  ·rw [Lga] at h
   rw [show tlt (a.getD j Ed).1 (x.getD k Ni)=false from h,cond_false]
   exact Tot.pure rfl
theorem W9a (d:Dsk) (hd:DIn d) (hb:DB d):Tot (λ k=>Gq k d) (λ r=>r=O7a d):=by
 have hl:=hd.2.1
 unfold Gq
 refine Tot.bind (Q:=λ r=>r=O7a d) ?_ (by rintro r rfl; exact Tot.pure rfl)
 refine Tot.up (L:=λ k i s=>Gz k s i d) (Q:=λ r=>r=O7a d) d.1.length (λ j s=>hS d.1 (d.1.drop j) j s=O7a d∧s.length≤j) ?_ ?_ 0 [] (Nat.zero_le _) ⟨rfl,Nat.le_refl _⟩
 ·rintro s ⟨h,_⟩
  rw [List.drop_length] at h
  simp (disch:=omega) only [Gz,dF]
  exact Tot.pure h
 ·rintro j s hj ⟨h,hs⟩ next
  rw [Al (d:=Ed) hj] at h
  have hlen:=Sta d.1 j s (d.1.getD j Ed)
  have nx:=next _ ⟨show hS d.1 (d.1.drop (j+1)) (j+1) (hS1 d.1 j s (d.1.getD j Ed))=O7a d from h,by omega⟩
  have hx:=A3 (d:=Ed) hj
  simp (disch:=omega) only [Gz,dT,Int.toNat_natCast,w64]
  have e0:d.1.getD j ((⟨#[]⟩:ByteArray),([]:List Int))=d.1.getD j Ed:=rfl
  rw [e0]
  unfold hS1 at nx
  refine Tot.bind (Aka _ (hb.1 _ hx) (hd.1.1.1.2 _ hx)) ?_
  rintro r rfl
  unfold S9
  cases hf:Nj (d.1.getD j Ed).2 with
  |none=>
   rw [hf] at nx
   exact Tot.yes rfl nx
  |some f=>
   rw [hf] at nx
   refine Tot.no rfl (Tot.bind (Mia s _ (by omega)) ?_)
   rintro r rfl
   cases hc:B4a s (d.1.getD j Ed).1 with
   |true=>
    rw [hc] at nx
    exact Tot.yes rfl nx
   |false=>
    rw [hc] at nx
    refine Tot.no rfl (Tot.bind (Cfa d.1 _ (by omega)) ?_)
    rintro r rfl
    cases he:Dua d.1 (d.1.getD j Ed).1==(j:Int) with
    |false=>
     rw [he] at nx
     exact Tot.yes (by unfold bne; rw [he]; rfl) nx
    |true=>
     rw [he] at nx
     refine Tot.no (by unfold bne; rw [he]; rfl) (Tot.ble (by simp only [List.length_cons,List.length_nil]; omega) ?_)
     have hq:=Jja d.1 d.2 j hj (by omega) s.length (s++[(d.1.getD j Ed).1]) (by simp) (by simp only [List.length_append,List.length_cons,List.length_nil]; omega)
     refine Tot.bind hq ?_
     rintro r rfl
     obtain ⟨w1,w2,_⟩:=Asa s.length (s++[(d.1.getD j Ed).1]) (d.1.getD j Ed).1
     rw [List.length_append] at w1
     simp only [List.length_cons,List.length_nil] at w1
     simp (disch:=omega) only [dT,Int.toNat_natCast,w64]
     exact nx

theorem Jka (n:Nod) (s:ByteArray) (f:Fil) (sure:Bool) (hn:NIn n) (hs:Km s):Tot (λ k=>Jl k n s f sure) (λ r=>r=Djb n s f sure):=by
 have hq:=hn.2.2.1
 unfold Jl Djb
 refine Tot.bind (W8 n hn) ?_
 rintro n rfl
 refine Tot.bind (M3a n hn) ?_
 rintro r rfl
 cases h1:N8 n with
 |false=>exact Tot.yes rfl (Tot.pure rfl)
 |true=>
  have h60:=(Ee.1 h1).2.2.2.2
  refine Tot.no rfl (Tot.bind (Np s hs) ?_)
  rintro r rfl
  cases Ar s with
  |false=>exact Tot.yes rfl (Tot.pure rfl)
  |true=>
   refine Tot.no rfl (Tot.bind (Tot.of (Q:=λ r=>r=Eb f) (Xl f) rfl) ?_)
   rintro r rfl
   cases Eb f with
   |false=>exact Tot.yes rfl (Tot.pure rfl)
   |true=>
    refine Tot.no rfl ?_
    unfold Sk
    refine Tot.dite (λ h=>Tot.pure ?_) (λ h=>?_)
    ·rw [show ((n.2.2.2.length:Int)==60)=true from beq_iff_eq.2 (by omega)]
     rfl
    ·rw [show ((n.2.2.2.length:Int)==60)=false from beq_eq_false_iff_ne.2 (by omega)]
     refine Tot.bind (Vra n.2.1 s f sure hn.1.1 hn.1.2.1 hs) ?_
     rintro r rfl
     cases (keep n.2.1 s f sure).2==0 with
     |false=>exact Tot.no rfl (Tot.pure rfl)
     |true=>
      refine Tot.yes rfl ?_
      cases sure with
      |false=>exact Tot.no rfl (Tot.pure rfl)
      |true=>
       refine Tot.yes rfl (Tot.bind (Tot.of (Q:=λ r=>r=U7 s f) (show Jo s f=some (U7 s f) from rfl) rfl) ?_)
       rintro r rfl
       exact Tot.ble (by simp only [List.length_cons,List.length_nil]; omega) (Tot.pure rfl)
def Enb (n:Nod):Nod×Int:=((n.1,(Ol n.2.1).1,n.2.2),(Ol n.2.1).2)
theorem E7a {n:Nod} (hn:NG n) {d:Dsk} (hd:DG d):NG (n.1,d,n.2.2):=by
 obtain ⟨h1,h2,h3,h4,h5⟩:=Ee.1 hn.1
 exact ⟨Ee.2 ⟨h1,h2,hd.1,h4,h5⟩,hd.2⟩
theorem Y8a {n:Nod} (hn:NG n):NG (Enb n).1:=E7a hn (W5a hn.g)

def Jla (v:BitVec 32) (b:Int):BitVec 32:=(v ^^^ BitVec.ofInt 32 b) * 16777619#32
def Bfa (x:ByteArray):Nat→BitVec 32
 |0=>2166136261#32
 |n+1=>Jla (Bfa x n) (bt x (n:Int))
def O8a (x:ByteArray):Nat:=(Bfa x x.size).toNat
theorem Evb (v:BitVec 32):IntKind.wrap .u32 ((v.toNat:Int) * 16777619)=((v * 16777619#32).toNat:Int):=by
 rw [IntKind.wrap_u32,BitVec.toNat_mul]
 show (v.toNat:Int) * 16777619 % 4294967296=((v.toNat * 16777619 % 4294967296:Nat):Int)
 omega
theorem Ewb (v:BitVec 32):IntKind.wrap .i64 ((BitVec.ofInt (IntKind.bits .i64) ((v.toNat:Int) * 16777619) &&& BitVec.ofInt (IntKind.bits .i64) 4294967295).toNat)=((v * 16777619#32).toNat:Int):=by
 have h:=v.isLt
 rw [BitVec.toNat_and,show (v.toNat:Int) * 16777619=((v.toNat * 16777619:Nat):Int) by omega,Ra _ (by omega),show (BitVec.ofInt (IntKind.bits .i64) 4294967295).toNat=2 ^ 32 - 1 from by decide,Nat.and_two_pow_sub_one_eq_mod,BitVec.toNat_mul]
 show IntKind.wrap .i64 ((v.toNat * 16777619 % 4294967296:Nat):Int)=((v.toNat * 16777619 % 4294967296:Nat):Int)
 exact w64 (by omega) (by omega)
theorem Waa (x:ByteArray) (hx:x.size≤1000000000):Tot (λ k=>Lv k x) (λ r=>r=(O8a x:Int)):=by
 unfold Lv
 refine Tot.bind (Q:=λ r=>r=(O8a x:Int)) ?_ (by
  rintro r rfl
  have:=(Bfa x x.size).isLt
  exact Tot.pure (w64 (n:=(O8a x:Int)) (by omega) (by show ((Bfa x x.size).toNat:Int)≤_; omega)))
 refine Tot.up (L:=λ k i (s:Int)=>Jj k x s i) (Q:=λ r=>r=(O8a x:Int)) x.size (λ j s=>s=((Bfa x j).toNat:Int)) ?_ ?_ 0 _ (Nat.zero_le _) rfl
 ·rintro s rfl
  simp (disch:=omega) only [Jj,dF]
  exact Tot.pure rfl
 ·rintro j s hj rfl next
  have hb:=A9a x (j:Int)
  have e1:IntKind.wrap .u32 (bt x (j:Int))=bt x (j:Int):=Go.IntWalk.u32_in _ ⟨by omega,by omega⟩
  simp (disch:=omega) only [Jj,dT,w64,e1,E3b (Bfa x j) _ (bt x (j:Int)) rfl,Evb]
  exact next _ rfl
theorem Wba (x:ByteArray) (hx:x.size≤1000000000):Tot (λ k=>Lu k x) (λ r=>r=(O8a x:Int)):=by
 unfold Lu
 refine Tot.bind (Q:=λ r=>r=(O8a x:Int)) ?_ (by rintro r rfl; exact Tot.pure rfl)
 refine Tot.up (L:=λ k i (s:Int)=>Je k x s i) (Q:=λ r=>r=(O8a x:Int)) x.size (λ j s=>s=((Bfa x j).toNat:Int)) ?_ ?_ 0 _ (Nat.zero_le _) rfl
 ·rintro s rfl
  simp (disch:=omega) only [Je,dF]
  exact Tot.pure rfl
 ·rintro j s hj rfl next
  have hb:=A9a x (j:Int)
  have hx:IntKind.wrap .i64 ((BitVec.ofInt (IntKind.bits .i64) ((Bfa x j).toNat:Int) ^^^ BitVec.ofInt (IntKind.bits .i64) (bt x (j:Int))).toNat)=((Bfa x j ^^^ BitVec.ofInt 32 (bt x (j:Int))).toNat:Int):=by
   have:=Dib (Bfa x j) (BitVec.ofInt 32 (bt x (j:Int)))
   rwa [← M0a hb] at this
  simp (disch:=omega) only [Je,dT,w64,hx,Ewb]
  exact next _ rfl
def Uf (r:Rng) (x:ByteArray):List Int:=r.2.getD (O8a x % r.2.length) []
theorem D0b (a b:Nat):Int.tmod (a:Int) (b:Int)=((a % b:Nat):Int):=by
 rw [Int.tmod_eq_emod_of_nonneg (by omega)]
 exact (Int.natCast_emod _ _).symm
theorem E8a (r:Rng) (x:ByteArray) (hr:RBd r) (hx:x.size≤1000000000):Tot (λ k=>Bj k r x) (λ y=>y=Uf r x):=by
 have hrl:=hr.1
 unfold Bj
 by_cases h0:r.2.length=0
 ·refine Tot.yes (by rw [h0]; rfl) (Tot.pure ?_)
  unfold Uf
  rw [List.eq_nil_of_length_eq_zero h0]
  rfl
 ·have hm:=Nat.mod_lt (O8a x) (show 0<r.2.length by omega)
  refine Tot.no (by rw [beq_eq_false_iff_ne]; omega) (Tot.bind (Q:=λ y=>y=((O8a x % r.2.length:Nat):Int)) ?_ ?_)
  ·unfold L6
   refine Tot.ndec (by omega) (Tot.bind (Waa x hx) ?_)
   rintro h rfl
   exact Tot.ndec (by omega) (Tot.pure (D0b _ _))
  ·rintro y rfl
   simp (disch:=omega) only [dT,Int.toNat_natCast]
   have hp:=hr.2 _ (A3 (d:=[]) hm)
   rw [Wr _ (by omega)]
   exact Tot.pure rfl
theorem Xr (r:Rng) (x:ByteArray) (hr:RBd r) (hx:x.size≤1000000000):Tot (λ k=>Ba k r x) (λ y=>y=Uf r x):=by
 have hrl:=hr.1
 unfold Ba
 by_cases h0:r.2.length=0
 ·refine Tot.yes (by rw [h0]; rfl) (Tot.pure ?_)
  unfold Uf
  rw [List.eq_nil_of_length_eq_zero h0]
  rfl
 ·have hm:=Nat.mod_lt (O8a x) (show 0<r.2.length by omega)
  refine Tot.no (by rw [beq_eq_false_iff_ne]; omega) (Tot.bind (Q:=λ y=>y=((O8a x % r.2.length:Nat):Int)) ?_ ?_)
  ·unfold L5
   refine Tot.ndec (by omega) (Tot.bind (Wba x hx) ?_)
   rintro h rfl
   exact Tot.ndec (by omega) (Tot.pure (D0b _ _))
  ·rintro y rfl
   have hp:=hr.2 _ (A3 (d:=[]) hm)
   simp (disch:=omega) only [dT,Int.toNat_natCast]
   exact Tot.ble (by simp only [List.length_nil]; omega) (Tot.pure rfl)
theorem Wca {r:Rng} {l:List Dev} (h:H2 r l=true) (x:ByteArray):Uf r x∈r.2:=by
 obtain ⟨_,_,h3,_⟩:=Ax.1 h
 exact A3 (d:=[]) (Nat.mod_lt _ (by omega))
theorem Rh {r:Rng} {l:List Dev} (h:H2 r l=true) (x:ByteArray):(Uf r x).Nodup∧((Uf r x).length:Int)=r.1∧∀ id∈Uf r x,∃ d,Jy l id=some d:=(Ax.1 h).2.2.2 _ (Wca h x)
def hoA (p zs:List Int) (z:Bool) (l:List Dev):List Int:=(l.filter λ d => !(O3 p d.1)&&(O3 zs d.2.1==z)).map (·.1)
def P0 (r:Rng) (l:List Dev) (x:ByteArray):List Int:=hoA (Uf r x) (Iw (Uf r x) l) false l++hoA (Uf r x) (Iw (Uf r x) l) true l
theorem Vr (p zs:List Int) (z:Bool) (l:List Dev):(hoA p zs z l).length≤l.length:=by
 unfold hoA
 rw [List.length_map]
 exact List.length_filter_le _ _
theorem Mja (p zs:List Int) (z:Bool) (d:Dev) (l:List Dev):hoA p zs z (d::l)=bif !(O3 p d.1)&&(O3 zs d.2.1==z) then d.1::hoA p zs z l else hoA p zs z l:=by
 unfold hoA
 rw [List.filter_cons]
 cases !(O3 p d.1)&&(O3 zs d.2.1==z)<;>rfl
theorem Wda (r:Rng) (l:List Dev) (x:ByteArray) (h:H2 r l=true) (hx:x.size≤1000000000):Tot (λ k=>Cb k r l x) (λ y=>y=P0 r l x):=by
 obtain ⟨h1,h2,_,_⟩:=Ax.1 h
 obtain ⟨_,p2,_⟩:=Rh h x
 obtain ⟨_,_,_,h12⟩:=Dz.1 h1
 have hz:=T2 (Uf r x) l
 unfold Cb P0
 refine Tot.bind (E8a r x (N9 h) hx) ?_
 rintro p rfl
 generalize Uf r x=p at *
 refine Tot.bind (Saa p l (by omega) (by omega)) ?_
 rintro zs rfl
 generalize Iw p l=zs at *
 have m1:=Vr p zs false l
 have m2:=Vr p zs true l
 refine Tot.bind (Q:=λ y=>y=(hoA p zs false l,hoA p zs true l)) ?_ (by rintro y rfl; exact Tot.ble (by dsimp only; omega) (Tot.pure rfl))
 refine Tot.up (L:=λ k i (s:List Int×List Int)=>Co k p zs s.1 s.2 l (l.length:Int) i) (Q:=λ y=>y=(hoA p zs false l,hoA p zs true l)) l.length (λ j s=>s.1++hoA p zs false (l.drop j)=hoA p zs false l∧s.2++hoA p zs true (l.drop j)=hoA p zs true l) ?_ ?_ 0 ([],[]) (Nat.zero_le _) ⟨rfl,rfl⟩
 ·rintro s ⟨e1,e2⟩
  rw [List.drop_length] at e1 e2
  simp (disch:=omega) only [Co,dF]
  refine Tot.pure ?_
  rw [← e1,← e2]
  show _=(s.1++[],s.2++[])
  rw [List.append_nil,List.append_nil]
 ·rintro j ⟨s1,s2⟩ hj ⟨e1,e2⟩ next
  dsimp only at e1 e2 next ⊢
  have g1:=congrArg List.length e1
  have g2:=congrArg List.length e2
  rw [List.length_append] at g1 g2
  rw [Al (d:=N2) hj,Mja] at e1 e2
  obtain ⟨d,ed⟩:∃ d:Dev,l.getD j N2=d:=⟨_,rfl⟩
  rw [ed] at e1 e2
  have e0:l.getD j ((0:Int),((0:Int),(0:Int)))=d:=ed
  simp (disch:=omega) only [Co,dT,Int.toNat_natCast,w64,e0]
  refine Tot.bind (Dza p d.1 (by omega)) ?_
  rintro b rfl
  cases hp:O3 p d.1 with
  |true=>
   rw [hp] at e1 e2
   exact Tot.yes rfl (next (s1,s2) ⟨e1,e2⟩)
  |false=>
   refine Tot.no rfl (Tot.bind (Dza zs d.2.1 (by omega)) ?_)
   rintro b rfl
   cases hz':O3 zs d.2.1 with
   |true=>
    rw [hp,hz'] at e1 e2
    exact Tot.yes rfl (Tot.ble (by simp only [List.length_cons,List.length_nil]; omega) (next (s1,s2++[d.1]) ⟨e1,by rw [← e2]; simp⟩))
   |false=>
    rw [hp,hz'] at e1 e2
    exact Tot.no rfl (Tot.ble (by simp only [List.length_cons,List.length_nil]; omega) (next (s1++[d.1],s2) ⟨by rw [← e1]; simp,e2⟩))
theorem Ata (p zs:List Int) (l:List Dev) (hp:p.length≤2000000) (hz:zs.length≤2000000) (hl:l.length≤2000000) (out:List Int) (ho:out.length≤5000000) (t:Int):Tot (λ k=>C2 k l p zs out t 0) (λ y=>y=(l,p,zs,out++hoA p zs (t==1) l,t)):=by
 have m1:=Vr p zs (t==1) l
 refine Tot.up (L:=λ k i (s:List Int)=>C2 k l p zs s t i) (Q:=λ y=>y=(l,p,zs,out++hoA p zs (t==1) l,t)) l.length (λ j s=>s++hoA p zs (t==1) (l.drop j)=out++hoA p zs (t==1) l) ?_ ?_ 0 out (Nat.zero_le _) rfl
 ·rintro s e1
  rw [List.drop_length] at e1
  simp (disch:=omega) only [C2,dF]
  refine Tot.pure ?_
  rw [← e1]
  show _=(l,p,zs,s++[],t)
  rw [List.append_nil]
 ·rintro j s hj e1 next
  have g1:=congrArg List.length e1
  rw [List.length_append,List.length_append] at g1
  rw [Al (d:=N2) hj,Mja] at e1
  obtain ⟨d,ed⟩:∃ d:Dev,l.getD j N2=d:=⟨_,rfl⟩
  rw [ed] at e1
  have e0:l.getD j ((0:Int),((0:Int),(0:Int)))=d:=ed
  simp (disch:=omega) only [C2,dT,Int.toNat_natCast,w64,e0]
  refine Tot.bind (T0 p d.1 (by omega)) ?_
  rintro b rfl
  cases hp':O3 p d.1 with
  |true=>
   rw [hp'] at e1
   exact Tot.no rfl (next s e1)
  |false=>
   rw [hp'] at e1
   refine Tot.yes rfl (Tot.bind (T0 zs d.2.1 (by omega)) ?_)
   rintro b rfl
   cases hz':O3 zs d.2.1==(t==1) with
   |true=>
    rw [hz'] at e1
    exact Tot.yes rfl (Tot.ble (by simp only [List.length_cons,List.length_nil]; omega) (next (s++[d.1]) (by rw [← e1]; simp)))
   |false=>
    rw [hz'] at e1
    exact Tot.no rfl (next s e1)
theorem Wea (r:Rng) (l:List Dev) (x:ByteArray) (h:H2 r l=true) (hx:x.size≤1000000000):Tot (λ k=>C7 k r l x) (λ y=>y=P0 r l x):=by
 obtain ⟨h1,h2,_,_⟩:=Ax.1 h
 obtain ⟨_,p2,_⟩:=Rh h x
 obtain ⟨_,_,_,h12⟩:=Dz.1 h1
 have hz:=T2 (Uf r x) l
 unfold C7 P0
 refine Tot.bind (Xr r x (N9 h) hx) ?_
 rintro p rfl
 generalize Uf r x=p at *
 refine Tot.bind (Gqa p l (by omega) (by omega)) ?_
 rintro zs rfl
 generalize Iw p l=zs at *
 have m1:=Vr p zs false l
 refine Tot.bind (Q:=λ y=>y=hoA p zs false l++hoA p zs true l) ?_ (by rintro y rfl; exact Tot.pure rfl)
 refine Tot.succ ?_
 simp (disch:=omega) only [Et,dT]
 refine Tot.bind (Ata p zs l (by omega) (by omega) (by omega) [] (by simp) 0) ?_
 rintro y rfl
 refine Tot.succ ?_
 simp (disch:=omega) only [Et,dT,w64,List.nil_append]
 refine Tot.bind (Ata p zs l (by omega) (by omega) (by omega) (hoA p zs false l) (by omega) 1) ?_
 rintro y rfl
 refine Tot.succ ?_
 simp (disch:=omega) only [Et,dF,w64]
 exact Tot.pure rfl

section
variable {R:Type} {L:Nat→Int→Option (Sum Bool R)}
theorem Sm (p:Nat→Bool) (n:Nat):(List.range (n+1)).all p=((List.range n).all p&&p n):=by
 rw [List.range_succ,List.all_append,List.all_cons,List.all_nil,Bool.and_true]
theorem Bga (p:Nat→Bool) (n:Nat):(List.range (n+1)).any p=((List.range n).any p || p n):=by
 rw [List.range_succ,List.any_append,List.any_cons,List.any_nil,Bool.or_false]
theorem Bha {p:Nat→Bool} {m n:Nat} (h:m≤n) (hn:(List.range n).all p=true):(List.range m).all p=true:=by
 rw [List.all_eq_true] at hn ⊢
 exact λ x hx=>hn x (List.mem_range.2 (by have:=List.mem_range.1 hx; omega))
theorem Tot.allI (n:Nat) (p:Nat→Bool) (e:R) (hend:Tot (λ k=>L (k+1) (n:Int)) (λ r=>r = .inr e))
  (Jla:∀ j,j<n→∀ (Q:Sum Bool R→Prop),(p j=false→Q (.inl false))→(p j=true→Tot (λ k=>L k ((j:Int)+1)) Q)→Tot (λ k=>L (k+1) (j:Int)) Q):
  Tot (λ k=>L k 0) (λ r=>r=bif (List.range n).all p then .inr e else .inl false):=by
 refine Tot.up (L:=λ k i (_:Unit)=>L k i) (Q:=λ r=>r=bif (List.range n).all p then .inr e else .inl false) n (λ j _=>(List.range j).all p=true) ?_ ?_ 0 () (Nat.zero_le _) rfl
 ·intro _ h
  rw [h]
  exact hend
 ·intro j _ hj h next
  refine Jla j hj _ (λ hp=>?_) (λ hp=>next () (by rw [Sm,h,hp]; rfl))
  cases hc:(List.range n).all p with
  |false=>rfl
  |true=>
   have:=Bha (show j+1≤n by omega) hc
   rw [Sm,hp,Bool.and_false] at this
   cases this
theorem Tot.anyI (n:Nat) (p:Nat→Bool) (e:R) (hend:Tot (λ k=>L (k+1) (n:Int)) (λ r=>r = .inr e))
  (Jla:∀ j,j<n→∀ (Q:Sum Bool R→Prop),(p j=true→Q (.inl true))→(p j=false→Tot (λ k=>L k ((j:Int)+1)) Q)→Tot (λ k=>L (k+1) (j:Int)) Q):
  Tot (λ k=>L k 0) (λ r=>r=bif (List.range n).any p then .inl true else .inr e):=by
 refine Tot.up (L:=λ k i (_:Unit)=>L k i) (Q:=λ r=>r=bif (List.range n).any p then .inl true else .inr e) n (λ j _=>(List.range j).any p=false) ?_ ?_ 0 () (Nat.zero_le _) rfl
 ·intro _ h
  rw [h]
  exact hend
 ·intro j _ hj h next
  refine Jla j hj _ (λ hp=>?_) (λ hp=>next () (by rw [Bga,h,hp]; rfl))
  rw [List.any_eq_true.2 ⟨j,List.mem_range.2 hj,hp⟩]
  rfl
end
theorem Ri {α:Type} (l:List α) (d:α) (p:α→Bool):l.all p=(List.range l.length).all λ j=>p (l.getD j d):=by
 rw [Bool.eq_iff_iff,List.all_eq_true,List.all_eq_true]
 constructor
 ·intro h j hj
  exact h _ (A3 (List.mem_range.1 hj))
 ·intro h x hx
  obtain ⟨j,hj,rfl⟩:=List.mem_iff_getElem.1 hx
  have:=h j (List.mem_range.2 hj)
  rwa [List.getD_eq_getElem?_getD,List.getElem?_eq_getElem hj,Option.getD_some] at this
theorem Aua {α:Type} (l:List α) (d:α) (p:α→Bool):l.any p=(List.range l.length).any λ j=>p (l.getD j d):=by
 rw [Bool.eq_iff_iff,List.any_eq_true,List.any_eq_true]
 constructor
 ·rintro ⟨x,hx,h⟩
  obtain ⟨j,hj,rfl⟩:=List.mem_iff_getElem.1 hx
  exact ⟨j,List.mem_range.2 hj,by rwa [List.getD_eq_getElem?_getD,List.getElem?_eq_getElem hj,Option.getD_some]⟩
 ·rintro ⟨j,hj,h⟩
  exact ⟨_,A3 (List.mem_range.1 hj),h⟩
abbrev Wri:=ByteArray×Fil×Bool
abbrev Wld:=List Dev×Rng×List Nod×Stp×List Wri×List ByteArray
def Xt:Wri:=((⟨#[]⟩:ByteArray),((((0:Int),((0:Int),(0:Int))),(false,[])),false))
def Qj (l:List ByteArray):Bool:=(List.range l.length).all λ j=>Ar (l.getD j Ni)&&(decide (j=0) || tlt (l.getD (j - 1) Ni) (l.getD j Ni))
def Bia (c:Stp) (w:Wri):Bool:=Ar w.1&&(Eb w.2.1 && !(sle c w.2.1.1))
def Sua (c:Stp) (l:List Wri):Bool:=l.all (Bia c)&&decide ((l.length:Int)≤200)
def Ps (l:List Dev) (ns:List Nod):Bool:=((ns.length:Int)==(l.length:Int))&&(List.range ns.length).all λ j=>((ns.getD j Cf).1==(l.getD j N2).1)&&N8 (ns.getD j Cf)
def Qf (w:Wld):Bool:=H2 w.2.1 w.1&&(Ps w.1 w.2.2.1&&(Fi w.2.2.2.1&&(Sua w.2.2.2.1 w.2.2.2.2.1&&Qj w.2.2.2.2.2)))
def WIn (w:Wld):Prop:=RBd w.2.1∧w.1.length≤2000000∧(w.2.2.1.length≤2000000∧∀ n∈w.2.2.1,NIn n)∧(w.2.2.2.2.1.length≤2000000∧∀ x∈w.2.2.2.2.1,Km x.1)∧(w.2.2.2.2.2.length≤2000000∧∀ s∈w.2.2.2.2.2,Km s)
theorem Wfa (w:Wld) (hw:WIn w):Tot (λ k=>D9 k w) (λ r=>r=Sua w.2.2.2.1 w.2.2.2.2.1):=by
 obtain ⟨_,_,_,⟨h1,h2⟩,_⟩:=hw
 unfold D9 Sua
 refine Tot.bind (Q:=λ r=>r=bif w.2.2.2.2.1.all (Bia w.2.2.2.1) then .inr w else .inl false) ?_ (by
  rintro r rfl
  cases w.2.2.2.2.1.all (Bia w.2.2.2.1)<;>exact Tot.pure rfl)
 rw [Ri _ Xt]
 refine Tot.allI (L:=λ k i=>Em k w.2.2.2.2.1 (w.2.2.2.2.1.length:Int) i w) _ _ w ?_ ?_
 ·simp (disch:=omega) only [Em,dF]
  exact Tot.pure rfl
 ·intro j hj Q no yes
  have hs:=h2 _ (A3 (d:=Xt) hj)
  obtain ⟨x,ex⟩:∃ x:Wri,w.2.2.2.2.1.getD j Xt=x:=⟨_,rfl⟩
  rw [ex] at hs
  simp only [ex] at no yes
  have e0:w.2.2.2.2.1.getD j ((⟨#[]⟩:ByteArray),((((0:Int),((0:Int),(0:Int))),(false,[])),false))=x:=ex
  simp (disch:=omega) only [Em,dT,Int.toNat_natCast,w64,e0,Xl,Xi,Option.bind_some]
  unfold Bia at no yes
  refine Tot.bind (Np x.1 hs) ?_
  rintro b rfl
  refine Tot.ite (λ hc=>Tot.pure (no ?_)) (λ h3=>Tot.ite (λ hc=>Tot.pure (no ?_)) (λ h4=>Tot.ite (λ hc=>Tot.pure (no ?_)) (λ h5=>yes ?_)))
  ·rw [Bool.not_eq_true'] at hc; rw [hc]; rfl
  ·rw [Bool.not_eq_true'] at hc; rw [hc,Bool.false_and,Bool.and_false]
  ·rw [hc,Bool.not_true,Bool.and_false,Bool.and_false]
  ·rw [Bool.not_eq_false'] at h3 h4; rw [h3,h4,h5]; rfl
theorem Gya (w:Wld) (hw:WIn w):Tot (λ k=>Cl k w.2.2.2.2.2 (w.2.2.2.2.2.length:Int) 0 w) (λ r=>r=bif Qj w.2.2.2.2.2 then .inr () else .inl false):=by
 obtain ⟨_,_,_,_,h1,h2⟩:=hw
 unfold Qj
 refine Tot.allI (L:=λ k i=>Cl k w.2.2.2.2.2 (w.2.2.2.2.2.length:Int) i w) _ _ () ?_ ?_
 ·simp (disch:=omega) only [Cl,dF]
  exact Tot.pure rfl
 ·intro j hj Q no yes
  have hs:=h2 _ (A3 (d:=Ni) hj)
  have e0:∀ i,w.2.2.2.2.2.getD i (⟨#[]⟩:ByteArray)=w.2.2.2.2.2.getD i Ni:=λ _=>rfl
  simp (disch:=omega) only [Cl,dT,Int.toNat_natCast,w64,e0]
  refine Tot.bind (Np _ hs) ?_
  rintro b rfl
  refine Tot.ite (λ hc=>Tot.pure (no ?_)) (λ h3=>Tot.dite (λ h0=>?_) (λ h0=>yes ?_))
  ·rw [Bool.not_eq_true'] at hc; rw [hc]; rfl
  ·simp (disch:=omega) only [dT,w64,show Int.toNat ((j:Int) - 1)=j - 1 by omega]
   rw [Bool.not_eq_false'] at h3
   rw [h3,decide_eq_false (show ¬ j=0 by omega),Bool.false_or,Bool.true_and] at no yes
   refine Tot.ite (λ hc=>Tot.pure (no ?_)) (λ h4=>yes ?_)
   ·rw [Bool.not_eq_true'] at hc; exact hc
   ·rw [Bool.not_eq_false'] at h4; exact h4
  ·rw [Bool.not_eq_false'] at h3
   rw [h3,decide_eq_true (show j=0 by omega)]
   rfl
theorem Gza (w:Wld) (hw:WIn w):Tot (λ k=>Cp k 0 w) (λ r=>r=bif Qj w.2.2.2.2.2 then .inr () else .inl false):=by
 obtain ⟨_,_,_,_,h1,h2⟩:=hw
 unfold Qj
 refine Tot.allI (L:=λ k i=>Cp k i w) _ _ () ?_ ?_
 ·simp (disch:=omega) only [Cp,dF]
  exact Tot.pure rfl
 ·intro j hj Q no yes
  have hs:=h2 _ (A3 (d:=Ni) hj)
  have e0:∀ i,w.2.2.2.2.2.getD i (⟨#[]⟩:ByteArray)=w.2.2.2.2.2.getD i Ni:=λ _=>rfl
  simp (disch:=omega) only [Cp,dT,Int.toNat_natCast,w64,e0]
  refine Tot.bind (Q8 _ hs) ?_
  rintro b rfl
  refine Tot.ite (λ hc=>Tot.pure (no ?_)) (λ h3=>Tot.dite (λ h0=>?_) (λ h0=>yes ?_))
  ·rw [Bool.not_eq_true'] at hc; rw [hc]; rfl
  ·simp (disch:=omega) only [dT,w64,show Int.toNat ((j:Int) - 1)=j - 1 by omega]
   rw [Bool.not_eq_false'] at h3
   rw [h3,decide_eq_false (show ¬ j=0 by omega),Bool.false_or,Bool.true_and] at no yes
   refine Tot.ite (λ hc=>Tot.pure (no ?_)) (λ h4=>yes ?_)
   ·rw [Bool.not_eq_true'] at hc; exact hc
   ·rw [Bool.not_eq_false'] at h4; exact h4
  ·rw [Bool.not_eq_false'] at h3
   rw [h3,decide_eq_true (show j=0 by omega)]
   rfl
theorem Jma (w:Wld) (hw:WIn w) (hl:w.2.2.1.length=w.1.length):Tot (λ k=>Ep k w.2.2.1 (w.2.2.1.length:Int) 0 w) (λ r=>r=bif Ps w.1 w.2.2.1 then .inr w else .inl false):=by
 obtain ⟨_,_,⟨h1,h2⟩,_⟩:=hw
 unfold Ps
 rw [show ((w.2.2.1.length:Int)==(w.1.length:Int))=true by rw [beq_iff_eq]; omega,Bool.true_and]
 refine Tot.allI (L:=λ k i=>Ep k w.2.2.1 (w.2.2.1.length:Int) i w) _ _ w ?_ ?_
 ·simp (disch:=omega) only [Ep,dF]
  exact Tot.pure rfl
 ·intro j hj Q no yes
  have hs:=h2 _ (A3 (d:=Cf) hj)
  obtain ⟨x,ex⟩:∃ x:Nod,w.2.2.1.getD j Cf=x:=⟨_,rfl⟩
  rw [ex] at hs no yes
  have e0:w.2.2.1.getD j ((0:Int),(([],[]),([],[])))=x:=ex
  have e1:w.1.getD j ((0:Int),((0:Int),(0:Int)))=w.1.getD j N2:=rfl
  simp (disch:=omega) only [Ep,dT,Int.toNat_natCast,w64,e0,e1]
  refine Tot.ite (λ hc=>Tot.pure (no ?_)) (λ h3=>Tot.bind (M3a x hs) ?_)
  ·rw [bne,Bool.not_eq_true'] at hc; rw [hc]; rfl
  ·rw [bne,Bool.not_eq_false'] at h3
   rw [h3,Bool.true_and] at no yes
   rintro b rfl
   refine Tot.ite (λ hc=>Tot.pure (no ?_)) (λ h4=>yes ?_)
   ·rw [Bool.not_eq_true'] at hc; exact hc
   ·rw [Bool.not_eq_false'] at h4; exact h4
theorem Wga (w:Wld) (hw:WIn w):Tot (λ k=>Df k w) (λ r=>r=Ps w.1 w.2.2.1):=by
 obtain ⟨_,_,⟨h1,h2⟩,_⟩:=hw
 unfold Ps Df
 refine Tot.ite (λ hc=>Tot.pure ?_) (λ hl=>?_)
 ·rw [bne,Bool.not_eq_true'] at hc
  rw [hc]; rfl
 ·rw [bne,Bool.not_eq_false'] at hl
  rw [hl,Bool.true_and]
  rw [beq_iff_eq] at hl
  refine Tot.bind (Q:=λ r=>r=bif (List.range w.2.2.1.length).all (λ j=>((w.2.2.1.getD j Cf).1==(w.1.getD j N2).1)&&N8 (w.2.2.1.getD j Cf)) then .inr () else .inl false) ?_ (by
   rintro r rfl
   cases (List.range w.2.2.1.length).all (λ j=>((w.2.2.1.getD j Cf).1==(w.1.getD j N2).1)&&N8 (w.2.2.1.getD j Cf))<;>exact Tot.pure rfl)
  refine Tot.allI (L:=λ k i=>F4 k i w) _ _ () ?_ ?_
  ·simp (disch:=omega) only [F4,dF]
   exact Tot.pure rfl
  ·intro j hj Q no yes
   have hs:=h2 _ (A3 (d:=Cf) hj)
   obtain ⟨x,ex⟩:∃ x:Nod,w.2.2.1.getD j Cf=x:=⟨_,rfl⟩
   rw [ex] at hs no yes
   have e0:w.2.2.1.getD j ((0:Int),(([],[]),([],[])))=x:=ex
   have e1:w.1.getD j ((0:Int),((0:Int),(0:Int)))=w.1.getD j N2:=rfl
   simp (disch:=omega) only [F4,dT,Int.toNat_natCast,w64,e0,e1]
   refine Tot.ite (λ hc=>Tot.pure (no ?_)) (λ h3=>Tot.bind (M4a x hs) ?_)
   ·rw [bne,Bool.not_eq_true'] at hc; rw [hc]; rfl
   ·rw [bne,Bool.not_eq_false'] at h3
    rw [h3,Bool.true_and] at no yes
    rintro b rfl
    refine Tot.ite (λ hc=>Tot.pure (no ?_)) (λ h4=>yes ?_)
    ·rw [Bool.not_eq_true'] at hc; exact hc
    ·rw [Bool.not_eq_false'] at h4; exact h4
theorem Ua (w:Wld) (hw:WIn w):Tot (λ k=>B0 k w) (λ r=>r=Qf w):=by
 unfold B0 Qf
 refine Tot.bind (Vwa w.2.1 w.1 hw.1 (by have:=hw.2.1; omega)) ?_
 rintro b rfl
 cases hr:H2 w.2.1 w.1 with
 |false=>exact Tot.yes rfl (Tot.pure rfl)
 |true=>
  refine Tot.no rfl ?_
  rw [Bool.true_and]
  by_cases hl:w.2.2.1.length=w.1.length
  ·refine Tot.no (by rw [bne,hl,beq_self_eq_true]; rfl) ?_
   simp only [Tz,Option.bind_some]
   cases hs:Fi w.2.2.2.1 with
   |false=>exact Tot.yes rfl (Tot.pure (by rw [Bool.false_and,Bool.and_false]))
   |true=>
    refine Tot.no rfl (Tot.bind (Wfa w hw) ?_)
    rintro b rfl
    cases hws:Sua w.2.2.2.1 w.2.2.2.2.1 with
    |false=>exact Tot.yes rfl (Tot.pure (by rw [Bool.false_and,Bool.and_false,Bool.and_false]))
    |true=>
     refine Tot.no rfl (Tot.bind (Jma w hw hl) ?_)
     rintro b rfl
     cases Ps w.1 w.2.2.1 with
     |false=>exact Tot.pure rfl
     |true=>
      refine Tot.bind (Gya w hw) ?_
      rintro b rfl
      cases Qj w.2.2.2.2.2<;>exact Tot.pure rfl
  ·have hn:((w.2.2.1.length:Int)==(w.1.length:Int))=false:=by rw [beq_eq_false_iff_ne]; omega
   refine Tot.yes (by rw [bne,hn]; rfl) (Tot.pure ?_)
   unfold Ps
   rw [hn]
   rfl
theorem Sva (w:Wld) (hw:WIn w):Tot (λ k=>D7 k w) (λ r=>r=Qf w):=by
 have hw':=hw
 obtain ⟨_,_,_,⟨h1,h2⟩,_⟩:=hw'
 unfold D7 Qf
 refine Tot.bind (Vxa w.2.1 w.1 hw.1 (by have:=hw.2.1; omega)) ?_
 rintro b rfl
 cases hr:H2 w.2.1 w.1 with
 |false=>exact Tot.yes rfl (Tot.pure rfl)
 |true=>
  refine Tot.no rfl (Tot.bind (Wga w hw) ?_)
  rintro b rfl
  rw [Bool.true_and]
  cases hn:Ps w.1 w.2.2.1 with
  |false=>exact Tot.yes rfl (Tot.pure rfl)
  |true=>
   refine Tot.no rfl ?_
   simp only [U0,Option.bind_some]
   cases hs:Fi w.2.2.2.1 with
   |false=>exact Tot.yes rfl (Tot.pure rfl)
   |true=>
    refine Tot.no rfl ?_
    by_cases hl:(w.2.2.2.2.1.length:Int) > 200
    ·refine Tot.dec hl (Tot.pure ?_)
     unfold Sua
     rw [decide_eq_false (show ¬ (w.2.2.2.2.1.length:Int)≤200 by omega),Bool.and_false]
     rfl
    ·refine Tot.ndec hl (Tot.bind (Q:=λ r=>r=bif w.2.2.2.2.1.all (Bia w.2.2.2.1) then .inr w else .inl false) ?_ ?_)
     ·rw [Ri _ Xt]
      refine Tot.allI (L:=λ k i=>G8 k i w) _ _ w ?_ ?_
      ·simp (disch:=omega) only [G8,dF]
       exact Tot.pure rfl
      ·intro j hj Q no yes
       have hs:=h2 _ (A3 (d:=Xt) hj)
       obtain ⟨x,ex⟩:∃ x:Wri,w.2.2.2.2.1.getD j Xt=x:=⟨_,rfl⟩
       rw [ex] at hs
       simp only [ex] at no yes
       have e0:w.2.2.2.2.1.getD j ((⟨#[]⟩:ByteArray),((((0:Int),((0:Int),(0:Int))),(false,[])),false))=x:=ex
       simp (disch:=omega) only [G8,dT,Int.toNat_natCast,w64,e0,Xm,Dna,Option.bind_some]
       unfold Bia at no yes
       refine Tot.bind (Q8 x.1 hs) ?_
       rintro b rfl
       refine Tot.ite (λ hc=>Tot.pure (no ?_)) (λ h3=>Tot.ite (λ hc=>Tot.pure (no ?_)) (λ h4=>Tot.ite (λ hc=>Tot.pure (no ?_)) (λ h5=>yes ?_)))
       ·rw [Bool.not_eq_true'] at hc; rw [hc]; rfl
       ·rw [Bool.not_eq_true'] at hc; rw [hc,Bool.false_and,Bool.and_false]
       ·rw [hc,Bool.not_true,Bool.and_false,Bool.and_false]
       ·rw [Bool.not_eq_false'] at h3 h4; rw [h3,h4,h5]; rfl
     ·rintro b rfl
      unfold Sua
      rw [decide_eq_true (show (w.2.2.2.2.1.length:Int)≤200 by omega),Bool.and_true]
      cases w.2.2.2.2.1.all (Bia w.2.2.2.1) with
      |false=>exact Tot.pure rfl
      |true=>
       refine Tot.bind (Gza w hw) ?_
       rintro b rfl
       cases Qj w.2.2.2.2.2<;>exact Tot.pure rfl

def atN:List Nod→Int→Nat→List Int
 |[],_,_=>[]
 |n::ns,id,i=>bif n.1==id then (i:Int)::atN ns id (i+1) else atN ns id (i+1)
theorem E9a (n:Nod) (ns:List Nod) (id:Int) (i:Nat):atN (n::ns) id i=bif n.1==id then (i:Int)::atN ns id (i+1) else atN ns id (i+1):=rfl
def whr (ns:List Nod) (ids:List Int):List Int:=ids.flatMap λ id=>atN ns id 0
theorem Eaa (id:Int):∀ (ns:List Nod) (i:Nat),(atN ns id i).length≤ns.length
 |[],_=>Nat.le_refl _
 |n::ns,i=>by
  unfold atN
  have:=Eaa id ns (i+1)
  cases n.1==id
  ·rw [cond_false,List.length_cons]; omega
  ·rw [cond_true,List.length_cons,List.length_cons]; omega
theorem Swa (ns:List Nod):∀ (ids:List Int),(whr ns ids).length≤ids.length * ns.length
 |[]=>Nat.zero_le _
 |id::ids=>by
  have h1:=Eaa id ns 0
  have h2:=Swa ns ids
  unfold whr at h2 ⊢
  rw [List.flatMap_cons,List.length_append,List.length_cons,Nat.succ_mul]
  omega
theorem O7 {ns:List Nod} {ids:List Int} (h1:ns.length≤2000000) (h2:ids.length≤2000000):(whr ns ids).length≤4000000000000:=
 Nat.le_trans (Swa ns ids) (Nat.mul_le_mul h2 h1)
theorem Mka (ns:List Nod) (id:Int) (ids:List Int):whr ns (id::ids)=atN ns id 0++whr ns ids:=List.flatMap_cons
theorem Ajb (ns:List Nod) (a b:List Int):whr ns (a++b)=whr ns a++whr ns b:=List.flatMap_append
theorem Bja (w:Wld) (id:Int) (a b c:List Int) (m i0:Int) (out:List Int) (h1:w.2.2.1.length≤2000000) (ho:out.length≤4000000000000):
  Tot (λ k=>Du k out id a m i0 w.2.2.1 (w.2.2.1.length:Int) 0 w) (λ r=>r=(out++atN w.2.2.1 id 0,a,m,i0,w)):=by
 have m1:=Eaa id w.2.2.1 0
 refine Tot.up (L:=λ k i (s:List Int)=>Du k s id a m i0 w.2.2.1 (w.2.2.1.length:Int) i w) (Q:=λ r=>r=(out++atN w.2.2.1 id 0,a,m,i0,w)) w.2.2.1.length (λ j s=>s++atN (w.2.2.1.drop j) id j=out++atN w.2.2.1 id 0) ?_ ?_ 0 out (Nat.zero_le _) rfl
 ·intro s h
  rw [List.drop_length] at h
  simp (disch:=omega) only [Du,dF]
  refine Tot.pure ?_
  rw [← h]
  show _=(s++[],a,m,i0,w)
  rw [List.append_nil]
 ·intro j s hj h next
  have g:=congrArg List.length h
  rw [List.length_append,List.length_append] at g
  rw [Al (d:=Cf) hj,E9a] at h
  obtain ⟨x,ex⟩:∃ x:Nod,w.2.2.1.getD j Cf=x:=⟨_,rfl⟩
  rw [ex] at h
  have e0:w.2.2.1.getD j ((0:Int),(([],[]),([],[])))=x:=ex
  simp (disch:=omega) only [Du,dT,Int.toNat_natCast,w64,e0]
  cases hx:x.1==id with
  |true=>
   rw [hx,cond_true] at h
   refine Tot.yes rfl (Tot.ble (by simp only [List.length_cons,List.length_nil]; omega) (next (s++[(j:Int)]) ?_))
   rw [← h,List.append_assoc]
   rfl
  |false=>
   rw [hx,cond_false] at h
   refine Tot.no rfl (next s h)
theorem Ava (w:Wld) (ids:List Int) (h1:w.2.2.1.length≤2000000) (h2:ids.length≤2000000):Tot (λ k=>D6 k w ids) (λ r=>r=whr w.2.2.1 ids):=by
 have m1:=O7 h1 h2
 unfold D6
 refine Tot.bind (Q:=λ r=>r=whr w.2.2.1 ids) ?_ (by rintro r rfl; exact Tot.pure rfl)
 refine Tot.up (L:=λ k i (s:List Int)=>G7 k s ids (ids.length:Int) i w) (Q:=λ r=>r=whr w.2.2.1 ids) ids.length (λ j s=>s++whr w.2.2.1 (ids.drop j)=whr w.2.2.1 ids) ?_ ?_ 0 [] (Nat.zero_le _) rfl
 ·intro s h
  rw [List.drop_length] at h
  simp (disch:=omega) only [G7,dF]
  refine Tot.pure ?_
  rw [← h]
  exact (List.append_nil s).symm
 ·intro j s hj h next
  have g:=congrArg List.length h
  rw [List.length_append] at g
  rw [Al (d:=0) hj,Mka] at h
  simp (disch:=omega) only [G7,dT,Int.toNat_natCast,w64]
  refine Tot.bind (Bja w (ids.getD j 0) ids [] [] (ids.length:Int) (j:Int) s h1 (by omega)) ?_
  rintro r rfl
  simp (disch:=omega) only [w64]
  exact next _ (by rw [List.append_assoc]; exact h)
theorem Eba (w:Wld) (ids:List Int) (n:Nat) (hn:n<ids.length) (out:List Int) (h1:w.2.2.1.length≤2000000) (ho:out.length≤4000000000000):
  Tot (λ k=>C1 k ids out (n:Int) 0 w) (λ r=>r=(ids,out++atN w.2.2.1 (ids.getD n 0) 0,(n:Int),w)):=by
 have m1:=Eaa (ids.getD n 0) w.2.2.1 0
 refine Tot.up (L:=λ k i (s:List Int)=>C1 k ids s (n:Int) i w) (Q:=λ r=>r=(ids,out++atN w.2.2.1 (ids.getD n 0) 0,(n:Int),w)) w.2.2.1.length (λ j s=>s++atN (w.2.2.1.drop j) (ids.getD n 0) j=out++atN w.2.2.1 (ids.getD n 0) 0) ?_ ?_ 0 out (Nat.zero_le _) rfl
 ·intro s h
  rw [List.drop_length] at h
  simp (disch:=omega) only [C1,dF]
  refine Tot.pure ?_
  rw [← h]
  show _=(ids,s++[],(n:Int),w)
  rw [List.append_nil]
 ·intro j s hj h next
  have g:=congrArg List.length h
  rw [List.length_append,List.length_append] at g
  rw [Al (d:=Cf) hj,E9a] at h
  obtain ⟨x,ex⟩:∃ x:Nod,w.2.2.1.getD j Cf=x:=⟨_,rfl⟩
  rw [ex] at h
  have e0:w.2.2.1.getD j ((0:Int),(([],[]),([],[])))=x:=ex
  simp (disch:=omega) only [C1,dT,Int.toNat_natCast,w64,e0]
  cases hx:x.1==ids.getD n 0 with
  |true=>
   rw [hx,cond_true] at h
   refine Tot.yes rfl (Tot.ble (by simp only [List.length_cons,List.length_nil]; omega) (next (s++[(j:Int)]) ?_))
   rw [← h,List.append_assoc]
   rfl
  |false=>
   rw [hx,cond_false] at h
   refine Tot.no rfl (next s h)
theorem S4 (w:Wld) (ids:List Int) (h1:w.2.2.1.length≤2000000) (h2:ids.length≤2000000):Tot (λ k=>B9 k w ids) (λ r=>r=whr w.2.2.1 ids):=by
 have m1:=O7 h1 h2
 unfold B9
 refine Tot.bind (Q:=λ r=>r=whr w.2.2.1 ids) ?_ (by rintro r rfl; exact Tot.pure rfl)
 refine Tot.up (L:=λ k i (s:List Int)=>Dq k ids s i w) (Q:=λ r=>r=whr w.2.2.1 ids) ids.length (λ j s=>s++whr w.2.2.1 (ids.drop j)=whr w.2.2.1 ids) ?_ ?_ 0 [] (Nat.zero_le _) rfl
 ·intro s h
  rw [List.drop_length] at h
  simp (disch:=omega) only [Dq,dF]
  refine Tot.pure ?_
  rw [← h]
  exact (List.append_nil s).symm
 ·intro j s hj h next
  have g:=congrArg List.length h
  rw [List.length_append] at g
  rw [Al (d:=0) hj,Mka] at h
  simp (disch:=omega) only [Dq,dT,Int.toNat_natCast,w64]
  refine Tot.bind (Eba w ids j hj s h1 (by omega)) ?_
  rintro r rfl
  simp (disch:=omega) only [w64]
  exact next _ (by rw [List.append_assoc]; exact h)
theorem Jna (id:Int):∀ (ns:List Nod) (i:Nat) (x:Int),x∈atN ns id i↔∃ j,j<ns.length∧(ns.getD j Cf).1=id∧x=((i+j:Nat):Int)
 |[],i,x=>by simp [atN]
 |n::ns,i,x=>by
  have ih:=Jna id ns (i+1) x
  have tl:(∃ j,j<(n::ns).length∧((n::ns).getD j Cf).1=id∧x=((i+j:Nat):Int))↔(n.1=id∧x=(i:Int))∨x∈atN ns id (i+1):=by
   rw [ih]
   constructor
   ·rintro ⟨j,h1,h2,h3⟩
    cases j with
    |zero=>exact .inl ⟨h2,by omega⟩
    |succ j=>exact .inr ⟨j,by simpa using h1,by simpa using h2,by omega⟩
   ·rintro (⟨h1,h2⟩|⟨j,h1,h2,h3⟩)
    ·exact ⟨0,by simp,h1,by omega⟩
    ·exact ⟨j+1,by simpa using h1,by simpa using h2,by omega⟩
  rw [tl,E9a]
  cases hx:n.1==id with
  |true=>
   rw [cond_true,List.mem_cons,eq_of_beq hx]
   simp
  |false=>
   rw [cond_false]
   have:=beq_eq_false_iff_ne.1 hx
   simp [this]
theorem Eca {ns:List Nod} {ids:List Int} {x:Int}:x∈whr ns ids↔∃ j,j<ns.length∧(ns.getD j Cf).1∈ids∧x=(j:Int):=by
 unfold whr
 rw [List.mem_flatMap]
 constructor
 ·rintro ⟨id,h1,h2⟩
  obtain ⟨j,h3,h4,h5⟩:=(Jna _ _ _ _).1 h2
  exact ⟨j,h3,h4 ▸ h1,by omega⟩
 ·rintro ⟨j,h3,h4,h5⟩
  exact ⟨_,h4,(Jna _ _ _ _).2 ⟨j,h3,rfl,by omega⟩⟩
def Bo (w:Wld) (x:ByteArray):List Int:=whr w.2.2.1 (Uf w.2.1 x++P0 w.2.1 w.1 x)
def E8b:ByteArray:=⟨#[108,105,115,116]⟩
def Kk (w:Wld):List Int:=whr w.2.2.1 (Uf w.2.1 E8b)
theorem Ub {r:Rng} (hr:RBd r) (x:ByteArray):(Uf r x).length≤2000000:=by
 unfold Uf
 by_cases hm:O8a x % r.2.length<r.2.length
 ·exact hr.2 _ (A3 (d:=[]) hm)
 ·rw [List.getD_eq_getElem?_getD,List.getElem?_eq_none (by omega)]; exact Nat.zero_le _
theorem Nt (r:Rng) (l:List Dev) (x:ByteArray):(P0 r l x).length≤l.length+l.length:=by
 unfold P0
 rw [List.length_append]
 have h1:=Vr (Uf r x) (Iw (Uf r x) l) false l
 have h2:=Vr (Uf r x) (Iw (Uf r x) l) true l
 omega
theorem Wu (w:Wld) (x:ByteArray) (h:H2 w.2.1 w.1=true) (hn:w.2.2.1.length≤2000000) (hx:x.size≤1000000000):Tot (λ k=>Br k w x) (λ r=>r=(Bo w x,w)):=by
 have h5:=(Ax.1 h).2.1
 have p2:=(Rh h x).2.1
 have h12:=(Dz.1 (Ax.1 h).1).2.2.2
 have hh:=Nt w.2.1 w.1 x
 unfold Br Bo
 refine Tot.bind (E8a _ x (N9 h) hx) ?_
 rintro p rfl
 refine Tot.bind (Wda _ _ x h hx) ?_
 rintro q rfl
 refine Tot.ble (by omega) (Tot.bind (Ava w _ hn (by rw [List.length_append]; omega)) ?_)
 rintro r rfl
 exact Tot.pure rfl
theorem H0a (w:Wld) (x:ByteArray) (h:H2 w.2.1 w.1=true) (hn:w.2.2.1.length≤2000000) (hx:x.size≤1000000000):Tot (λ k=>Eu k w x) (λ r=>r=Bo w x):=by
 have h5:=(Ax.1 h).2.1
 have p2:=(Rh h x).2.1
 have h12:=(Dz.1 (Ax.1 h).1).2.2.2
 have hh:=Nt w.2.1 w.1 x
 unfold Eu Bo
 rw [Ajb]
 refine Tot.bind (Xr _ x (N9 h) hx) ?_
 rintro p rfl
 refine Tot.bind (S4 w _ hn (by omega)) ?_
 rintro a rfl
 refine Tot.bind (Wea _ _ x h hx) ?_
 rintro q rfl
 refine Tot.bind (S4 w _ hn (by omega)) ?_
 rintro b rfl
 have l1:=O7 hn (show (Uf w.2.1 x).length≤2000000 by omega)
 have l2:=O7 hn (show (P0 w.2.1 w.1 x).length≤2000000 by omega)
 exact Tot.ble (by omega) (Tot.pure rfl)
theorem Joa (w:Wld) (hr:RBd w.2.1) (hn:w.2.2.1.length≤2000000):Tot (λ k=>Jk k w) (λ r=>r=Kk w):=by
 unfold Jk
 refine Tot.bind (E8a _ E8b hr (by decide)) ?_
 rintro p rfl
 refine Tot.bind (Ava w _ hn (Ub hr _)) ?_
 rintro r rfl
 exact Tot.pure rfl
theorem Awa (w:Wld) (hr:RBd w.2.1) (hn:w.2.2.1.length≤2000000):Tot (λ k=>H0 k w) (λ r=>r=Kk w):=by
 unfold H0
 refine Tot.bind (Xr _ E8b hr (by decide)) ?_
 rintro p rfl
 refine Tot.bind (S4 w _ hn (Ub hr _)) ?_
 rintro r rfl
 exact Tot.pure rfl
def quo (n:Int):Int:=n / 2+1
theorem D1b {n:Int} (h0:0≤n):Int.tdiv n 2=n / 2:=Int.tdiv_eq_ediv_of_nonneg h0
theorem Akb {n:Int} (h0:0≤n) (h1:n≤1000000000):Ki n=some (quo n):=by
 unfold Ki quo
 rw [D1b h0,w64 (n:=n / 2) (by omega) (by omega),w64 (n:=n / 2+1) (by omega) (by omega)]
theorem Alb {n:Int} (h0:0≤n) (h1:n≤1000000000):Ke n=some (quo n):=by
 unfold Ke quo
 rw [D1b h0,w64 (n:=n / 2) (by omega) (by omega),w64 (n:=n / 2+1) (by omega) (by omega)]
def rch (l:List Int) (i:Nat):Int:=bif decide (i<l.length)&&inR (l.getD i 0) 1 3 then l.getD i 0 else 0
theorem Jpa (l:List Int) (i:Nat):Ea l (i:Int)=some (rch l i):=by
 unfold Ea rch
 by_cases h:i<l.length
 ·simp (disch:=omega) only [dT,Int.toNat_natCast,Tw,Option.bind_some]
  rw [decide_eq_true h,Bool.true_and]
  cases inR (l.getD i 0) 1 3<;>rfl
 ·rw [dF (by omega),decide_eq_false h]; rfl
theorem Jqa (l:List Int) (i:Nat):Bv l (i:Int)=some (rch l i):=by
 unfold Bv rch
 by_cases h:i<l.length
 ·rw [dF (by omega)]
  simp (disch:=omega) only [dT,Int.toNat_natCast,Nz,Option.bind_some]
  rw [decide_eq_true h,Bool.true_and]
  cases inR (l.getD i 0) 1 3<;>rfl
 ·rw [dT (by omega),decide_eq_false h]; rfl

def Eda (a b:Fil):Bool:=((a.1.1==b.1.1)&&((a.1.2.1==b.1.2.1)&&(a.1.2.2==b.1.2.2)))&&((a.2.1==b.2.1)&&((Lk a.2.2).toList==(Lk b.2.2).toList))
theorem Sxa (a b:Fil):Ic a b=some (Eda a b):=by
 unfold Ic Eda
 cases (a.1.1==b.1.1)&&((a.1.2.1==b.1.2.1)&&(a.1.2.2==b.1.2.2))<;>cases a.2.1==b.2.1<;>rfl
theorem H1a {a b:Fil} (ha:An a.2.2) (hb:An b.2.2):Eda a b=true↔a=b:=by
 unfold Eda
 rw [U5 ha hb]
 obtain ⟨⟨a1,a2,a3⟩,a4,a5⟩:=a
 obtain ⟨⟨b1,b2,b3⟩,b4,b5⟩:=b
 simp only [Bool.and_eq_true,beq_iff_eq,decide_eq_true_iff,Prod.mk.injEq]
def Sya (ws:List Wri) (s:ByteArray) (f:Fil):Bool:=ws.any λ x=>teq x.1 s&&Eda x.2.1 f
theorem Sza (w:Wld) (s:ByteArray) (f:Fil) (h:w.2.2.2.2.1.length≤2000000):Tot (λ k=>Cg k w s f) (λ r=>r=Sya w.2.2.2.2.1 s f):=by
 unfold Cg Sya
 refine Tot.bind (Q:=λ r=>r=bif w.2.2.2.2.1.any (λ x=>teq x.1 s&&Eda x.2.1 f) then .inl true else .inr ()) ?_ (by
  rintro r rfl
  cases w.2.2.2.2.1.any (λ x=>teq x.1 s&&Eda x.2.1 f)<;>exact Tot.pure rfl)
 rw [Aua _ Xt]
 refine Tot.anyI (L:=λ k i=>Cn k s w.2.2.2.2.1 (w.2.2.2.2.1.length:Int) i f) _ _ () ?_ ?_
 ·simp (disch:=omega) only [Cn,dF]
  exact Tot.pure rfl
 ·intro j hj Q yes no
  obtain ⟨x,ex⟩:∃ x:Wri,w.2.2.2.2.1.getD j Xt=x:=⟨_,rfl⟩
  simp only [ex] at no yes
  have e0:w.2.2.2.2.1.getD j ((⟨#[]⟩:ByteArray),((((0:Int),((0:Int),(0:Int))),(false,[])),false))=x:=ex
  simp (disch:=omega) only [Cn,dT,Int.toNat_natCast,w64,e0,Sxa,Option.bind_some]
  refine Tot.ite (λ h1=>Tot.ite (λ h2=>Tot.pure (yes ?_)) (λ h2=>no ?_)) (λ h1=>no ?_)
  ·show ((x.1.toList==s.toList)&&Eda x.2.1 f)=true
   rw [h1,h2]; rfl
  ·rw [h2,Bool.and_false]
  ·show ((x.1.toList==s.toList)&&Eda x.2.1 f)=false
   rw [h1]; rfl
def T0a (ws:List Wri) (e:Nmd):Bool:=match Nj e.2 with
 |none=>true
 |some f=>Sya ws e.1 f
def S5 (w:Wld):Bool:=(List.range w.2.2.1.length).all λ j=>(w.2.2.1.getD j Cf).2.1.1.all (T0a w.2.2.2.2.1)&&(w.2.2.1.getD j Cf).2.1.2.all (T0a w.2.2.2.2.1)
theorem Jra (w:Wld) (hw:WIn w):Tot (λ k=>D5 k w) (λ r=>r=S5 w):=by
 obtain ⟨_,_,⟨h1,h2⟩,⟨h3,_⟩,_⟩:=hw
 unfold D5 S5
 refine Tot.bind (Q:=λ r=>r=bif (List.range w.2.2.1.length).all (λ j=>(w.2.2.1.getD j Cf).2.1.1.all (T0a w.2.2.2.2.1)&&(w.2.2.1.getD j Cf).2.1.2.all (T0a w.2.2.2.2.1)) then .inr () else .inl false) ?_ (by
  rintro r rfl
  cases (List.range w.2.2.1.length).all (λ j=>(w.2.2.1.getD j Cf).2.1.1.all (T0a w.2.2.2.2.1)&&(w.2.2.1.getD j Cf).2.1.2.all (T0a w.2.2.2.2.1))<;>exact Tot.pure rfl)
 refine Tot.allI (L:=λ k i=>Ft k w.2.2.1 (w.2.2.1.length:Int) i w) _ _ () ?_ ?_
 ·simp (disch:=omega) only [Ft,dF]
  exact Tot.pure rfl
 ·intro j hj Q no yes
  have hm:=h2 _ (A3 (d:=Cf) hj)
  obtain ⟨x,ex⟩:∃ x:Nod,w.2.2.1.getD j Cf=x:=⟨_,rfl⟩
  rw [ex] at hm no yes
  have e0:w.2.2.1.getD j ((0:Int),(([],[]),([],[])))=x:=ex
  obtain ⟨⟨⟨⟨f1,f2⟩,_⟩,l1,l2⟩,b1,b2⟩:=hm.1
  have n0:([]:List (ByteArray×(List Int))).length=0:=rfl
  simp (disch:=omega) only [Ft,dT,Int.toNat_natCast,w64,e0,List.nil_append]
  refine Tot.ble (by rw [n0]; omega) (Tot.ble (by omega) ?_)
  rw [← List.all_append] at no yes
  have hf:Eia (x.2.1.1++x.2.1.2):=⟨by rw [List.length_append]; omega,λ y hy=>(List.mem_append.1 hy).elim (f1.2 y) (f2.2 y)⟩
  have hb:LB (x.2.1.1++x.2.1.2):=λ y hy=>(List.mem_append.1 hy).elim (b1 y) (b2 y)
  have hl:(x.2.1.1++x.2.1.2).length≤4000000:=by rw [List.length_append]; omega
  generalize x.2.1.1++x.2.1.2=l at *
  refine Tot.bind (Q:=λ r=>r=bif l.all (T0a w.2.2.2.2.1) then .inr (w.2.2.1,(w.2.2.1.length:Int),(j:Int),w) else .inl false) ?_ ?_
  ·rw [Ri _ Ed]
   refine Tot.allI (L:=λ k i=>Er k w.2.2.1 (w.2.2.1.length:Int) (j:Int) l (l.length:Int) i w) _ _ (w.2.2.1,(w.2.2.1.length:Int),(j:Int),w) ?_ ?_
   ·simp (disch:=omega) only [Er,dF]
    exact Tot.pure rfl
   ·intro j hj Q no yes
    have hm:=A3 (d:=Ed) hj
    obtain ⟨x,ex⟩:∃ x:Nmd,l.getD j Ed=x:=⟨_,rfl⟩
    rw [ex] at hm
    simp only [ex] at no yes
    have e0:l.getD j ((⟨#[]⟩:ByteArray),[])=x:=ex
    simp (disch:=omega) only [Er,dT,Int.toNat_natCast,w64,e0]
    refine Tot.bind (Oj x.2 (hb x hm) (hf.2 x hm)) ?_
    rintro r rfl
    unfold T0a at no yes
    unfold S9
    cases hg:Nj x.2 with
    |none=>rw [hg] at yes; exact Tot.no rfl (yes rfl)
    |some f=>
     rw [hg] at yes no
     refine Tot.yes rfl (Tot.bind (Sza w x.1 f h3) ?_)
     rintro b rfl
     refine Tot.ite (λ hc=>Tot.pure (no ?_)) (λ hc=>yes ?_)
     ·rw [Bool.not_eq_true'] at hc; exact hc
     ·rw [Bool.not_eq_false'] at hc; exact hc
  ·rintro r rfl
   cases hc:l.all (T0a w.2.2.2.2.1) with
   |false=>exact Tot.pure (no hc)
   |true=>
    simp (disch:=omega) only [cond_true,Sum.elim_inr,w64]
    exact yes hc

def Wha (a b:Row):Bool:=(a.1==b.1)&&((a.2.1.1==b.2.1.1)&&((a.2.1.2.1==b.2.1.2.1)&&((a.2.1.2.2==b.2.1.2.2)&&((a.2.2.1==b.2.2.1)&&(a.2.2.2==b.2.2.2)))))
theorem H2a {a b:Row}:Wha a b=true↔a=b:=by
 unfold Wha
 obtain ⟨a0,⟨a1,a2,a3⟩,a4,a5⟩:=a
 obtain ⟨b0,⟨b1,b2,b3⟩,b4,b5⟩:=b
 simp only [Dra,Bool.and_eq_true,beq_iff_eq,Prod.mk.injEq,Jm]
 constructor
 ·rintro ⟨h0,h1,h2,h3,h4,h5⟩; exact ⟨h0,⟨h1,h2,h3⟩,h4,h5⟩
 ·rintro ⟨h0,⟨h1,h2,h3⟩,h4,h5⟩; exact ⟨h0,h1,h2,h3,h4,h5⟩
def P8 (ws:List Wri) (r:Row):Bool:=ws.any λ x=>Wha (U7 x.1 x.2.1) r
def W0 (w:Wld):Bool:=(List.range w.2.2.1.length).all λ j=>(w.2.2.1.getD j Cf).2.2.1.all (P8 w.2.2.2.2.1)&&(w.2.2.1.getD j Cf).2.2.2.all (P8 w.2.2.2.2.1)
def E9b:Row:=((⟨#[]⟩:ByteArray),(((0:Int),((0:Int),(0:Int))),(false,(0:Int))))
theorem Eea (w:Wld) (ns:List Nod) (n m:Int) (l:List Row) (len i:Int) (r0:Row) (h:w.2.2.2.2.1.length≤2000000):Tot (λ k=>E4 k false ns n m l len i w.2.2.2.2.1 (w.2.2.2.2.1.length:Int) 0 w r0) (λ r=>r=(P8 w.2.2.2.2.1 r0,ns,n,m,l,len,i,w)):=by
 refine Tot.up (L:=λ k i' (s:Bool)=>E4 k s ns n m l len i w.2.2.2.2.1 (w.2.2.2.2.1.length:Int) i' w r0) (Q:=λ r=>r=(P8 w.2.2.2.2.1 r0,ns,n,m,l,len,i,w)) w.2.2.2.2.1.length (λ j s=>(s || (w.2.2.2.2.1.drop j).any λ x=>Wha (U7 x.1 x.2.1) r0)=P8 w.2.2.2.2.1 r0) ?_ ?_ 0 false (Nat.zero_le _) (Bool.false_or _)
 ·intro s hs
  rw [List.drop_length,List.any_nil,Bool.or_false] at hs
  simp (disch:=omega) only [E4,dF]
  exact Tot.pure (by rw [hs])
 ·intro j s hj hs next
  cases s with
  |true=>
   rw [Bool.true_or] at hs
   simp (disch:=omega) only [E4,dT,w64,cond_true]
   exact next true (by rw [Bool.true_or]; exact hs)
  |false=>
   rw [Al (d:=Xt) hj,List.any_cons,Bool.false_or] at hs
   obtain ⟨x,ex⟩:∃ x:Wri,w.2.2.2.2.1.getD j Xt=x:=⟨_,rfl⟩
   rw [ex] at hs
   have e0:w.2.2.2.2.1.getD j ((⟨#[]⟩:ByteArray),((((0:Int),((0:Int),(0:Int))),(false,[])),false))=x:=ex
   simp (disch:=omega) only [E4,dT,Int.toNat_natCast,w64,e0,cond_false,Jo,Option.bind_some]
   exact next _ hs
theorem O9a (w:Wld) (hw:WIn w):Tot (λ k=>Dl k w) (λ r=>r=W0 w):=by
 obtain ⟨_,_,⟨h1,h2⟩,⟨h3,_⟩,_⟩:=hw
 unfold Dl W0
 refine Tot.bind (Q:=λ r=>r=bif (List.range w.2.2.1.length).all (λ j=>(w.2.2.1.getD j Cf).2.2.1.all (P8 w.2.2.2.2.1)&&(w.2.2.1.getD j Cf).2.2.2.all (P8 w.2.2.2.2.1)) then .inr () else .inl false) ?_ (by
  rintro r rfl
  cases (List.range w.2.2.1.length).all (λ j=>(w.2.2.1.getD j Cf).2.2.1.all (P8 w.2.2.2.2.1)&&(w.2.2.1.getD j Cf).2.2.2.all (P8 w.2.2.2.2.1))<;>exact Tot.pure rfl)
 refine Tot.allI (L:=λ k i=>Hb k w.2.2.1 (w.2.2.1.length:Int) i w) _ _ () ?_ ?_
 ·simp (disch:=omega) only [Hb,dF]
  exact Tot.pure rfl
 ·intro j hj Q no yes
  have hm:=h2 _ (A3 (d:=Cf) hj)
  obtain ⟨x,ex⟩:∃ x:Nod,w.2.2.1.getD j Cf=x:=⟨_,rfl⟩
  rw [ex] at hm no yes
  have e0:w.2.2.1.getD j ((0:Int),(([],[]),([],[])))=x:=ex
  obtain ⟨_,f1,f2⟩:=hm
  have g1:=f1.1
  have g2:=f2.1
  have ec:B1 x.2.2.1=some x.2.2.1:=by
   unfold B1
   rw [bT (by simp only [List.length_nil]; omega),List.nil_append]
  simp (disch:=omega) only [Hb,dT,Int.toNat_natCast,w64,e0,ec,Option.bind_some]
  refine Tot.ble (by omega) ?_
  rw [← List.all_append] at no yes
  have hl:(x.2.2.1++x.2.2.2).length≤4000000:=by rw [List.length_append]; omega
  generalize x.2.2.1++x.2.2.2=l at *
  refine Tot.bind (Q:=λ r=>r=bif l.all (P8 w.2.2.2.2.1) then .inr (w.2.2.1,(w.2.2.1.length:Int),(j:Int),w) else .inl false) ?_ ?_
  ·rw [Ri _ E9b]
   refine Tot.allI (L:=λ k i=>Ha k w.2.2.1 (w.2.2.1.length:Int) (j:Int) l (l.length:Int) i w) _ _ (w.2.2.1,(w.2.2.1.length:Int),(j:Int),w) ?_ ?_
   ·simp (disch:=omega) only [Ha,dF]
    exact Tot.pure rfl
   ·intro i hi Q no yes
    have e1:l.getD i ((⟨#[]⟩:ByteArray),(((0:Int),((0:Int),(0:Int))),(false,(0:Int))))=l.getD i E9b:=rfl
    simp (disch:=omega) only [Ha,dT,Int.toNat_natCast,e1]
    refine Tot.bind (Eea w _ _ _ l _ _ (l.getD i E9b) h3) ?_
    rintro r rfl
    simp (disch:=omega) only [w64]
    refine Tot.ite (λ hc=>Tot.pure (no ?_)) (λ hc=>yes ?_)
    ·rw [Bool.not_eq_true'] at hc; exact hc
    ·rw [Bool.not_eq_false'] at hc; exact hc
  ·rintro r rfl
   cases hc:l.all (P8 w.2.2.2.2.1) with
   |false=>exact Tot.pure (no hc)
   |true=>
    simp (disch:=omega) only [cond_true,Sum.elim_inr,w64]
    exact yes hc
def Jsa (s:ByteArray) (st:Stp) (n:Nod):Bool:=match gt n.2.1.2 s with
 |none=>false
 |some b=>match Nj b with
  |none=>false
  |some f => !(sle f.1 st)
def T1a (w:Wld) (x:Wri):Bool := !x.2.2 || (B4a w.2.2.2.2.2 x.1 || w.2.2.1.any (Jsa x.1 x.2.1.1))
def Oaa (w:Wld):Bool:=w.2.2.2.2.1.all (T1a w)
theorem Amb (l:List Nmd) (s:ByteArray):(Dua l s<0∧gt l s=none)∨∃ i:Nat,Dua l s=(i:Int)∧i<l.length∧gt l s=some (l.getD i Ed).2:=by
 unfold Dua gt
 cases h:fnd l s with
 |none=>exact .inl ⟨by decide,rfl⟩
 |some i=>
  obtain ⟨hi,_⟩:=List.findIdx?_eq_some_iff_getElem.1 h
  exact .inr ⟨i,rfl,hi,rfl⟩
theorem T2a (w:Wld) (hw:WIn w) (s:ByteArray) (st:Stp):Tot (λ k=>Io k w s st) (λ r=>r=w.2.2.1.any (Jsa s st)):=by
 obtain ⟨_,_,⟨h1,h2⟩,⟨h3,_⟩,_⟩:=hw
 unfold Io
 refine Tot.bind (Q:=λ r=>r=bif w.2.2.1.any (Jsa s st) then .inl true else .inr ()) ?_ (by
  rintro r rfl
  cases w.2.2.1.any (Jsa s st)<;>exact Tot.pure rfl)
 rw [Aua _ Cf]
 refine Tot.anyI (L:=λ k i=>Gk k s w.2.2.1 (w.2.2.1.length:Int) i st) _ _ () ?_ ?_
 ·simp (disch:=omega) only [Gk,dF]
  exact Tot.pure rfl
 ·intro j hj Q yes no
  have hm:=h2 _ (A3 (d:=Cf) hj)
  obtain ⟨x,ex⟩:∃ x:Nod,w.2.2.1.getD j Cf=x:=⟨_,rfl⟩
  rw [ex] at hm no yes
  have e0:w.2.2.1.getD j ((0:Int),(([],[]),([],[])))=x:=ex
  obtain ⟨⟨⟨⟨f1,f2⟩,_⟩,l1,l2⟩,b1,b2⟩:=hm.1
  simp (disch:=omega) only [Gk,dT,Int.toNat_natCast,w64,e0]
  unfold Jsa at yes no
  refine Tot.bind (Lqa x.2.1.2 s f2.1) ?_
  rintro r rfl
  rcases Amb x.2.1.2 s with ⟨hn,hg⟩|⟨i,e,hi,hg⟩
  ·rw [hg] at no
   exact Tot.dec hn (no rfl)
  ·rw [e]
   have hm:=A3 (d:=Ed) hi
   obtain ⟨y,ey⟩:∃ y:Nmd,x.2.1.2.getD i Ed=y:=⟨_,rfl⟩
   rw [ey] at hm hg
   rw [hg] at no yes
   have e2:x.2.1.2.getD i ((⟨#[]⟩:ByteArray),[])=y:=ey
   refine Tot.ndec (by omega) ?_
   simp (disch:=omega) only [dT,Int.toNat_natCast,e2]
   refine Tot.bind (Oj y.2 (b2 y hm) (f2.2 y hm)) ?_
   rintro r rfl
   unfold S9
   cases hy:Nj y.2 with
   |none=>simp only [hy] at no; exact Tot.no rfl (no trivial)
   |some f=>
    simp only [hy] at no yes
    simp only [Xi,Option.bind_some]
    exact Tot.yes rfl (Tot.ite (λ hc=>Tot.pure (yes hc)) (λ hc=>no hc))
theorem Wia (l:List ByteArray) (s:ByteArray) (hl:l.length≤1000000000):Tot (λ k=>It k l s) (λ r=>r=B4a l s):=by
 unfold It B4a
 refine Tot.bind (Q:=λ r=>r=bif l.any (λ y=>teq y s) then .inl true else .inr ()) ?_ (by
  rintro r rfl
  cases l.any (λ y=>teq y s)<;>exact Tot.pure rfl)
 rw [Aua _ Ni]
 refine Tot.anyI (L:=λ k i=>Fu k s l (l.length:Int) i) _ _ () ?_ ?_
 ·simp (disch:=omega) only [Fu,dF]
  exact Tot.pure rfl
 ·intro j hj Q yes no
  have e0:l.getD j (⟨#[]⟩:ByteArray)=l.getD j Ni:=rfl
  simp (disch:=omega) only [Fu,dT,Int.toNat_natCast,w64,e0]
  exact Tot.ite (λ hc=>Tot.pure (yes hc)) (λ hc=>no hc)
theorem Wja (w:Wld) (hw:WIn w):Tot (λ k=>Ju k w) (λ r=>r=Oaa w):=by
 have hw':=hw
 obtain ⟨_,_,⟨h1,h2⟩,⟨h3,_⟩,h5,_⟩:=hw'
 unfold Ju Oaa
 refine Tot.bind (Q:=λ r=>r=bif w.2.2.2.2.1.all (T1a w) then .inr () else .inl false) ?_ (by
  rintro r rfl
  cases w.2.2.2.2.1.all (T1a w)<;>exact Tot.pure rfl)
 rw [Ri _ Xt]
 refine Tot.allI (L:=λ k i=>I1 k w.2.2.2.2.1 (w.2.2.2.2.1.length:Int) i w) _ _ () ?_ ?_
 ·simp (disch:=omega) only [I1,dF]
  exact Tot.pure rfl
 ·intro j hj Q no yes
  obtain ⟨x,ex⟩:∃ x:Wri,w.2.2.2.2.1.getD j Xt=x:=⟨_,rfl⟩
  rw [ex] at no yes
  have e0:w.2.2.2.2.1.getD j ((⟨#[]⟩:ByteArray),((((0:Int),((0:Int),(0:Int))),(false,[])),false))=x:=ex
  simp (disch:=omega) only [I1,dT,Int.toNat_natCast,w64,e0]
  unfold T1a at no yes
  refine Tot.ite (λ hk=>?_) (λ hk=>yes (by rw [hk]; rfl))
  rw [hk,Bool.not_true,Bool.false_or] at no yes
  refine Tot.bind (Wia _ x.1 (by omega)) ?_
  rintro b rfl
  refine Tot.ite (λ hh=>?_) (λ hh=>yes (by rw [Bool.not_eq_false'] at hh; rw [hh,Bool.true_or]))
  rw [Bool.not_eq_true'] at hh
  rw [hh,Bool.false_or] at no yes
  refine Tot.bind (T2a w hw x.1 x.2.1.1) ?_
  rintro b rfl
  refine Tot.ite (λ hc=>Tot.pure (no ?_)) (λ hc=>yes ?_)
  ·rw [Bool.not_eq_true'] at hc; exact hc
  ·rw [Bool.not_eq_false'] at hc; exact hc
def S6 (w:Wld):Bool:=(List.range w.2.2.2.2.1.length).all λ j => !(sle w.2.2.2.1 (w.2.2.2.2.1.getD j Xt).2.1.1)&&(decide (j=0) || sle (w.2.2.2.2.1.getD (j - 1) Xt).2.1.1 (w.2.2.2.2.1.getD j Xt).2.1.1)
theorem Jta (w:Wld) (hw:WIn w):Tot (λ k=>F8 k w) (λ r=>r=S6 w):=by
 obtain ⟨_,_,_,⟨h3,_⟩,h5,_⟩:=hw
 unfold F8 S6
 generalize hP:(λ j => !(sle w.2.2.2.1 (w.2.2.2.2.1.getD j Xt).2.1.1)&&(decide (j=0) || sle (w.2.2.2.2.1.getD (j - 1) Xt).2.1.1 (w.2.2.2.2.1.getD j Xt).2.1.1))=P
 refine Tot.bind (Q:=λ r=>r=bif (List.range w.2.2.2.2.1.length).all P then .inr () else .inl false) ?_ (by
  rintro r rfl
  cases (List.range w.2.2.2.2.1.length).all P<;>exact Tot.pure rfl)
 refine Tot.allI (L:=λ k i=>Es k w.2.2.2.2.1 (w.2.2.2.2.1.length:Int) i w) _ _ () ?_ ?_
 ·simp (disch:=omega) only [Es,dF]
  exact Tot.pure rfl
 ·intro j hj Q no yes
  subst hP
  dsimp only at no yes
  have e0:∀ i,w.2.2.2.2.1.getD i ((⟨#[]⟩:ByteArray),((((0:Int),((0:Int),(0:Int))),(false,[])),false))=w.2.2.2.2.1.getD i Xt:=λ _=>rfl
  simp (disch:=omega) only [Es,dT,Int.toNat_natCast,w64,e0,Xi,Option.bind_some]
  refine Tot.ite (λ hc=>Tot.pure (no (by rw [hc]; rfl))) (λ hc=>?_)
  rw [hc,Bool.not_false,Bool.true_and] at no yes
  refine Tot.dite (λ h0=>?_) (λ h0=>yes (by rw [decide_eq_true (show j=0 by omega)]; rfl))
  simp (disch:=omega) only [dT,w64,show Int.toNat ((j:Int) - 1)=j - 1 by omega]
  rw [decide_eq_false (show ¬ j=0 by omega),Bool.false_or] at no yes
  refine Tot.ite (λ hc=>Tot.pure (no ?_)) (λ hc=>yes ?_)
  ·rw [Bool.not_eq_true'] at hc; exact hc
  ·rw [Bool.not_eq_false'] at hc; exact hc
def Wka (w:Wld):Int:=bif Qf w then (bif S5 w then (bif W0 w then (bif Oaa w then (bif S6 w then 0 else 5) else 4) else 3) else 2) else 1
theorem Wla (w:Wld) (hw:WIn w):Tot (λ k=>M3 k w) (λ r=>r=Wka w):=by
 unfold M3 Wka
 refine Tot.bind (Ua w hw) ?_
 rintro b rfl
 cases Qf w with
 |false=>exact Tot.yes rfl (Tot.pure rfl)
 |true=>
  refine Tot.no rfl (Tot.bind (Jra w hw) ?_)
  rintro b rfl
  cases S5 w with
  |false=>exact Tot.yes rfl (Tot.pure rfl)
  |true=>
   refine Tot.no rfl (Tot.bind (O9a w hw) ?_)
   rintro b rfl
   cases W0 w with
   |false=>exact Tot.yes rfl (Tot.pure rfl)
   |true=>
    refine Tot.no rfl (Tot.bind (Wja w hw) ?_)
    rintro b rfl
    cases Oaa w with
    |false=>exact Tot.yes rfl (Tot.pure rfl)
    |true=>
     refine Tot.no rfl (Tot.bind (Jta w hw) ?_)
     rintro b rfl
     cases S6 w with
     |false=>exact Tot.yes rfl (Tot.pure rfl)
     |true=>exact Tot.no rfl (Tot.pure rfl)

def run {α:Type} (st:α→Nat→α) (n:Nat) (a:α):α:=(List.range n).foldl st a
theorem Qg {α:Type} (st:α→Nat→α) (n:Nat) (a:α):run st (n+1) a=st (run st n a) n:=by
 unfold run
 rw [List.range_succ,List.foldl_append]
 rfl
theorem Wma {α:Type} {st:α→Nat→α} {a:α} {j n:Nat} (hj:j≤n) (h:∀ i,st (run st j a) i=run st j a):run st n a=run st j a:=by
 obtain ⟨m,rfl⟩:=Nat.exists_eq_add_of_le hj
 induction m with
 |zero=>rfl
 |succ m ih=>rw [← Nat.add_assoc,Qg,ih (by omega),h]
theorem Mv {α:Type} {st:α→Nat→α} (P:Nat→α→Prop) {n:Nat} {a:α} (h0:P 0 a) (hs:∀ j b,j<n→P j b→P (j+1) (st b j)):P n (run st n a):=by
 have:∀ m,m≤n→P m (run st m a):=by
  intro m
  induction m with
  |zero=>intro _; exact h0
  |succ m ih=>intro hm; rw [Qg]; exact hs m _ (by omega) (ih (by omega))
 exact this n (Nat.le_refl _)
def NS (ns:List Nod):Prop:=ns.length≤2000000∧∀ n∈ns,NG n
theorem NS.set {ns:List Nod} (h:NS ns) {i:Nat} {n:Nod} (hn:NG n):NS (ns.set i n):=⟨by rw [List.length_set]; exact h.1,λ m hm=>by
 rcases List.mem_or_eq_of_mem_set hm with hm|rfl
 ·exact h.2 m hm
 ·exact hn⟩
theorem NS.get {ns:List Nod} (h:NS ns) {i:Nat} (hi:i<ns.length):NG (ns.getD i Cf):=h.2 _ (A3 hi)
abbrev wN (w:Wld) (ns:List Nod):Wld:=(w.1,w.2.1,ns,w.2.2.2)
def Ll (c:Stp) (t d:Int):Stp:=bif decide (t≤c.1) then (bif Fi (c.1,c.2.1+1,d) then (c.1,c.2.1+1,d) else c) else (bif Fi (t,0,d) then (t,0,d) else c)
theorem T3a {c:Stp} (hc:Fi c=true) (t d:Int):Hd c t d=some (Ll c t d):=by
 have h2:0≤c.2.1∧c.2.1≤1000000:=by
  unfold Fi at hc
  rw [Bool.and_eq_true,Bool.and_eq_true,Fh,Fh] at hc
  exact hc.2.1
 unfold Hd Ll
 rw [w64 (n:=c.2.1+1) (by omega) (by omega)]
 simp only [U0,Option.bind_some]
 cases decide (t≤c.1) with
 |true=>cases Fi (c.1,c.2.1+1,d)<;>rfl
 |false=>cases Fi (t,0,d)<;>rfl
theorem Xu {c:Stp} (hc:Fi c=true) (t d:Int):Fi (Ll c t d)=true∧(Ll c t d=c∨sle c (Ll c t d)=true):=by
 unfold Ll
 by_cases h:t≤c.1
 ·rw [decide_eq_true h,cond_true]
  cases hs:Fi (c.1,c.2.1+1,d) with
  |true=>exact ⟨hs,.inr (R9.2 (.inr ⟨rfl,.inl (by show c.2.1<c.2.1+1; omega)⟩))⟩
  |false=>exact ⟨hc,.inl rfl⟩
 ·rw [decide_eq_false h,cond_false]
  cases hs:Fi (t,0,d) with
  |true=>exact ⟨hs,.inr (R9.2 (.inl (by show c.1<t; omega)))⟩
  |false=>exact ⟨hc,.inl rfl⟩
def wst (R:Int) (rc:List Int) (s:ByteArray) (f:Fil) (cs:List Int) (a:List Nod×Int×Int) (j:Nat):List Nod×Int×Int:=
 bif decide (a.2.1<R) then (bif rch rc j==0 then a else
  (a.1.set (cs.getD j 0).toNat (Sk (a.1.getD (cs.getD j 0).toNat Cf) s f (rch rc j != 3)).1,a.2.1+1,
   bif rch rc j==1&&((Sk (a.1.getD (cs.getD j 0).toNat Cf) s f (rch rc j != 3)).2==0 || (Sk (a.1.getD (cs.getD j 0).toNat Cf) s f (rch rc j != 3)).2==1) then a.2.2+1 else a.2.2))
 else a
def wrN (w:Wld) (s:ByteArray) (f:Fil) (rc:List Int):List Nod×Int×Int:=run (wst w.2.1.1 rc s f (Bo w s)) (Bo w s).length (w.2.2.1,0,0)
def Uc (w:Wld) (s:ByteArray) (f:Fil) (rc:List Int):Int×Wld:=
 (bif decide ((wrN w s f rc).2.2≥quo w.2.1.1) then 0 else 1,(w.1,w.2.1,(wrN w s f rc).1,w.2.2.2.1,w.2.2.2.2.1++[(s,f,decide ((wrN w s f rc).2.2≥quo w.2.1.1))],w.2.2.2.2.2))
theorem Om {w:Wld} {s:ByteArray} {x:Int} (h:x∈Bo w s):0≤x∧x<(w.2.2.1.length:Int):=by
 obtain ⟨j,h1,_,rfl⟩:=Eca.1 h
 omega
theorem Y9a {R:Int} {rc:List Int} {s:ByteArray} {f:Fil} {cs:List Int} {a:List Nod×Int×Int} {j m:Nat} (hs:Ar s=true) (hf:Eb f=true) (h:NS a.1∧a.1.length=m∧(0≤a.2.1∧a.2.1≤j)∧0≤a.2.2∧a.2.2≤j) (hc:(cs.getD j 0).toNat<m):
  let b:=wst R rc s f cs a j
  NS b.1∧b.1.length=m∧(0≤b.2.1∧b.2.1≤((j+1:Nat):Int))∧0≤b.2.2∧b.2.2≤((j+1:Nat):Int):=by
 obtain ⟨h1,h2,h3,h4,h5⟩:=h
 intro b
 have hb:b=wst R rc s f cs a j:=rfl
 unfold wst at hb
 cases hR:decide (a.2.1<R) with
 |false=>rw [hR,cond_false] at hb; rw [hb]; exact ⟨h1,h2,⟨h3.1,by omega⟩,h4,by omega⟩
 |true=>
  rw [hR,cond_true] at hb
  cases hr:rch rc j==0 with
  |true=>rw [hr,cond_true] at hb; rw [hb]; exact ⟨h1,h2,⟨h3.1,by omega⟩,h4,by omega⟩
  |false=>
   rw [hr,cond_false] at hb
   rw [hb]
   refine ⟨h1.set (S8a (h1.get (by omega)) hs hf),by rw [List.length_set]; exact h2,⟨by dsimp only; omega,by dsimp only; omega⟩,?_⟩
   dsimp only
   cases rch rc j==1&&((Sk (a.1.getD (cs.getD j 0).toNat Cf) s f (rch rc j != 3)).2==0 || (Sk (a.1.getD (cs.getD j 0).toNat Cf) s f (rch rc j != 3)).2==1)
   ·exact ⟨h4,by rw [cond_false]; omega⟩
   ·exact ⟨by rw [cond_true]; omega,by rw [cond_true]; omega⟩
theorem Oba (w:Wld) (s:ByteArray) (f:Fil) (rc:List Int) (hr:H2 w.2.1 w.1=true) (hn:NS w.2.2.1) (hs:Ar s=true) (hf:Eb f=true) (hw:w.2.2.2.2.1.length≤2000000):
  Tot (λ k=>Bt k w s f rc) (λ r=>r=Uc w s f rc):=by
 have hsz:s.size≤1000000000:=by
  have:=Fh.1 (Bool.and_eq_true _ _ ▸ hs:_∧_).2
  omega
 obtain ⟨_,hR,_⟩:=Ax.1 hr
 unfold Bt Uc
 refine Tot.bind (H0a w s hr hn.1 hsz) ?_
 rintro cs rfl
 have hc:=λ x=>Om (w:=w) (s:=s) (x:=x)
 have hcl:(Bo w s).length≤4000000000000:=by
  unfold Bo
  refine O7 hn.1 ?_
  have h5:=(Ax.1 hr).2.1
  have p2:=(Rh hr s).2.1
  have h12:=(Dz.1 (Ax.1 hr).1).2.2.2
  have hh:=Nt w.2.1 w.1 s
  rw [List.length_append]; omega
 have hrun:wrN w s f rc=run (wst w.2.1.1 rc s f (Bo w s)) (Bo w s).length (w.2.2.1,0,0):=rfl
 have inv:∀ n,n≤(Bo w s).length→NS (run (wst w.2.1.1 rc s f (Bo w s)) n (w.2.2.1,0,0)).1∧(run (wst w.2.1.1 rc s f (Bo w s)) n (w.2.2.1,0,0)).1.length=w.2.2.1.length∧(0≤(run (wst w.2.1.1 rc s f (Bo w s)) n (w.2.2.1,0,0)).2.1∧(run (wst w.2.1.1 rc s f (Bo w s)) n (w.2.2.1,0,0)).2.1≤n)∧0≤(run (wst w.2.1.1 rc s f (Bo w s)) n (w.2.2.1,0,0)).2.2∧(run (wst w.2.1.1 rc s f (Bo w s)) n (w.2.2.1,0,0)).2.2≤n:=by
  intro n hn'
  refine Mv (λ j (b:List Nod×Int×Int)=>NS b.1∧b.1.length=w.2.2.1.length∧(0≤b.2.1∧b.2.1≤(j:Int))∧0≤b.2.2∧b.2.2≤(j:Int)) ⟨hn,rfl,⟨Int.le_refl _,Int.le_refl _⟩,Int.le_refl _,Int.le_refl _⟩ (λ j b hj hb=>Y9a hs hf hb ?_)
  have:=hc _ (A3 (d:=0) (show j<(Bo w s).length by omega))
  omega
 generalize hcs:Bo w s=cs at *
 refine Tot.bind (Q:=λ r=>r=(s,(wrN w s f rc).2.2,wN w (wrN w s f rc).1,f)) ?_ ?_
 ·refine Tot.up (L:=λ k i (a:List Nod×Int×Int)=>B3 k s rc cs a.2.1 a.2.2 i (wN w a.1) f) (Q:=λ r=>r=(s,(wrN w s f rc).2.2,wN w (wrN w s f rc).1,f)) cs.length (λ j a=>a=run (wst w.2.1.1 rc s f cs) j (w.2.2.1,0,0)) ?_ ?_ 0 (w.2.2.1,0,0) (Nat.zero_le _) rfl
  ·rintro a rfl
   simp (disch:=omega) only [B3,dF]
   exact Tot.pure (by rw [hrun])
  ·rintro j a hj rfl next
   obtain ⟨i1,i2,i3,i4,i5⟩:=inv j (by omega)
   rw [Qg] at next
   have hst:=Wma (st:=wst w.2.1.1 rc s f cs) (a:=(w.2.2.1,(0:Int),(0:Int))) (j:=j) (n:=cs.length) (by omega)
   generalize run (wst w.2.1.1 rc s f cs) j (w.2.2.1,0,0)=a at *
   obtain ⟨ns,o,g⟩:=a
   dsimp only at i1 i2 i3 i4 i5
   have hci:=hc _ (A3 (d:=0) hj)
   obtain ⟨i,ei⟩:∃ i:Nat,cs.getD j 0=(i:Int):=⟨(cs.getD j 0).toNat,by omega⟩
   rw [ei] at hci
   unfold wst at next
   rw [ei,Int.toNat_natCast] at next
   simp (disch:=omega) only [B3,dT,wN]
   refine Tot.dite (λ hR'=>?_) (λ hR'=>Tot.pure ?_)
   ·dsimp only at next
    rw [decide_eq_true hR'] at next
    simp only [Jqa,Option.bind_some]
    cases h0:rch rc j==0 with
    |true=>
     rw [h0] at next
     simp (disch:=omega) only [w64]
     exact Tot.yes rfl (next _ rfl)
    |false=>
     rw [h0] at next
     have e0:ns.getD i ((0:Int),(([],[]),([],[])))=ns.getD i Cf:=rfl
     simp (disch:=omega) only [dT,Int.toNat_natCast,w64,ei,e0,cond_false]
     refine Tot.bind (S9a (ns.getD i Cf) s f (rch rc j != 3) (Gla (i1.get (by omega))) (Ir hs)) ?_
     rintro p rfl
     dsimp only at next ⊢
     generalize Sk (ns.getD i Cf) s f (rch rc j != 3)=p at *
     cases h1:rch rc j==1 with
     |false=>
      rw [h1] at next
      exact Tot.no rfl (next _ rfl)
     |true=>
      rw [h1] at next
      refine Tot.yes rfl ?_
      cases h2:p.2==0 with
      |true=>rw [h2] at next; exact Tot.yes rfl (next _ rfl)
      |false=>
       rw [h2] at next
       refine Tot.no rfl ?_
       cases h3:p.2==1 with
       |true=>rw [h3] at next; exact Tot.yes rfl (next _ rfl)
       |false=>rw [h3] at next; exact Tot.no rfl (next _ rfl)
   ·rw [hrun,hst (λ i=>by unfold wst; dsimp only; rw [decide_eq_false hR']; rfl)]
 ·rintro r rfl
  obtain ⟨_,_,_,h4,h5⟩:=inv cs.length (Nat.le_refl _)
  dsimp only [wN]
  rw [Alb (by omega) (by omega)]
  have ec:Bg f=some f:=by
   have:=(Jq.1 hf).2.1
   unfold Bg
   rw [bT (by simp only [List.length_nil]; omega),List.nil_append]
  rw [ec]
  simp only [Option.bind_some]
  refine Tot.ble (by simp only [List.length_cons,List.length_nil]; omega) ?_
  cases decide ((wrN w s f rc).2.2≥quo w.2.1.1) with
  |true=>exact Tot.pure rfl
  |false=>exact Tot.pure rfl
def ask (w:Wld) (s:ByteArray) (f:Fil) (t:Int) (rc:List Int):Int×Wld:=
 bif !(Ar s) then (2,w) else bif decide ((f.2.2.length:Int) > 200) then (2,w) else bif !(inR t 0 1000000000) then (2,w) else
 bif (w.2.2.2.2.1.length:Int)==200 then (3,w) else
 bif (Ll w.2.2.2.1 t 0).1==w.2.2.2.1.1&&((Ll w.2.2.2.1 t 0).2.1==w.2.2.2.1.2.1&&(Ll w.2.2.2.1 t 0).2.2==w.2.2.2.1.2.2) then (3,w) else
 Uc (w.1,w.2.1,w.2.2.1,Ll w.2.2.2.1 t 0,w.2.2.2.2) s (Ll w.2.2.2.1 t 0,f.2) rc
theorem Jua (w:Wld) (s:ByteArray) (f:Fil) (t:Int) (rc:List Int) (hr:H2 w.2.1 w.1=true) (hn:NS w.2.2.1) (hst:Fi w.2.2.2.1=true) (hs:Km s) (hd:f.2.1=true→f.2.2=[]) (hw:w.2.2.2.2.1.length≤2000000):
  Tot (λ k=>Ei k w s f t rc) (λ r=>r=ask w s f t rc):=by
 unfold Ei ask
 refine Tot.bind (Q8 s hs) ?_
 rintro b rfl
 cases hs':Ar s with
 |false=>exact Tot.yes rfl (Tot.pure rfl)
 |true=>
  refine Tot.no rfl ?_
  rw [Bool.not_true,cond_false]
  by_cases hl:(f.2.2.length:Int) > 200
  ·rw [decide_eq_true hl]; exact Tot.yes rfl (Tot.pure rfl)
  ·rw [decide_eq_false hl,cond_false]
   refine Tot.no rfl ?_
   simp only [Nz,T3a hst,Option.bind_some]
   cases inR t 0 1000000000 with
   |false=>exact Tot.yes rfl (Tot.pure rfl)
   |true=>
    refine Tot.no rfl ?_
    rw [Bool.not_true,cond_false]
    cases (w.2.2.2.2.1.length:Int)==200 with
    |true=>exact Tot.yes rfl (Tot.pure rfl)
    |false=>
     refine Tot.no rfl ?_
     rw [cond_false]
     cases (Ll w.2.2.2.1 t 0).1==w.2.2.2.1.1&&((Ll w.2.2.2.1 t 0).2.1==w.2.2.2.1.2.1&&(Ll w.2.2.2.1 t 0).2.2==w.2.2.2.1.2.2) with
     |true=>exact Tot.yes rfl (Tot.pure rfl)
     |false=>
      refine Tot.no rfl (Tot.bind (Oba (w.1,w.2.1,w.2.2.1,Ll w.2.2.2.1 t 0,w.2.2.2.2) s (Ll w.2.2.2.1 t 0,f.2) rc hr hn hs' (Jq.2 ⟨(Xu hst t 0).1,by show f.2.2.length≤200; omega,hd⟩) hw) ?_)
      rintro r rfl
      exact Tot.pure rfl
def pst (src:Int) (s:ByteArray) (f:Fil) (rc ps:List Int) (a:List Nod×Bool×Bool) (j:Nat):List Nod×Bool×Bool:=
 bif ps.getD j 0==src then (a.1,true,a.2.2) else bif rch rc j != 1 then (a.1,a.2.1,false) else
  (a.1.set (ps.getD j 0).toNat ((a.1.getD (ps.getD j 0).toNat Cf).1,(keep (a.1.getD (ps.getD j 0).toNat Cf).2.1 s f true).1,(a.1.getD (ps.getD j 0).toNat Cf).2.2),a.2.1,
   bif (keep (a.1.getD (ps.getD j 0).toNat Cf).2.1 s f true).2 != 0&&(keep (a.1.getD (ps.getD j 0).toNat Cf).2.1 s f true).2 != 1 then false else a.2.2)
def Sa (w:Wld) (s:ByteArray):List Int:=whr w.2.2.1 (Uf w.2.1 s)
def puN (w:Wld) (i:Nat) (s:ByteArray) (rc:List Int):List Nod×Bool×Bool:=run (pst (i:Int) s (lkD (w.2.2.1.getD i Cf).2.1 s).1 rc (Sa w s)) (Sa w s).length (w.2.2.1,false,true)
def Eob (n:Nod) (s:ByteArray):Nod:=(n.1,(syD (rmD n.2.1 s).1 s).1,n.2.2)
def Jva (w:Wld) (i:Nat) (s:ByteArray) (rc:List Int):Bool×Wld:=bif (lkD (w.2.2.1.getD i Cf).2.1 s).2 != 0 then (false,w) else
 (true,wN w (bif (puN w i s rc).2.2 && !(puN w i s rc).2.1 then (puN w i s rc).1.set i (Eob ((puN w i s rc).1.getD i Cf) s) else (puN w i s rc).1))
theorem Yaa {n:Nod} (hn:NG n) {s:ByteArray} (hs:Ar s=true):NG (Eob n s):=E7a hn (Crb (A7b hn.g) hs)
theorem Jwa {n:Nod} (hn:NG n) {s:ByteArray} {f:Fil} {sure:Bool}:NG (n.1,(keep n.2.1 s f sure).1,n.2.2):=E7a hn (Y0a hn.g)
theorem Yba {src:Int} {s:ByteArray} {f:Fil} {rc ps:List Int} {a:List Nod×Bool×Bool} {j m:Nat} (h:NS a.1∧a.1.length=m) (hc:(ps.getD j 0).toNat<m):NS (pst src s f rc ps a j).1∧(pst src s f rc ps a j).1.length=m:=by
 unfold pst
 cases ps.getD j 0==src with
 |true=>exact h
 |false=>
  cases rch rc j != 1 with
  |true=>exact h
  |false=>exact ⟨h.1.set (Jwa (h.1.get (by have:=h.2; omega))),by rw [cond_false,cond_false,List.length_set]; exact h.2⟩
theorem Ud {w:Wld} {s:ByteArray} {x:Int} (h:x∈Sa w s):0≤x∧x<(w.2.2.1.length:Int):=by
 obtain ⟨j,h1,_,rfl⟩:=Eca.1 h
 omega
theorem T4a {w:Wld} {s:ByteArray} (hr:H2 w.2.1 w.1=true) (hn:w.2.2.1.length≤2000000):(Sa w s).length≤4000000000000:=O7 hn (Ub (N9 hr) s)
theorem D2b {w:Wld} {i:Nat} {s:ByteArray} {rc:List Int} (hn:NS w.2.2.1):NS (puN w i s rc).1∧(puN w i s rc).1.length=w.2.2.1.length:=
 Mv (λ _ (b:List Nod×Bool×Bool)=>NS b.1∧b.1.length=w.2.2.1.length) ⟨hn,rfl⟩ (λ j b hj hb=>Yba hb (by have:=Ud (A3 (d:=0) hj); omega))
theorem Wna (w:Wld) (i:Nat) (s:ByteArray) (rc:List Int) (hr:H2 w.2.1 w.1=true) (hn:NS w.2.2.1) (hi:i<w.2.2.1.length):Tot (λ k=>Ch k w (i:Int) s rc) (λ r=>r=Jva w i s rc):=by
 have hni:=hn.get hi
 unfold Ch Jva
 have e0:w.2.2.1.getD i ((0:Int),(([],[]),([],[])))=w.2.2.1.getD i Cf:=rfl
 simp (disch:=omega) only [dT,Int.toNat_natCast,e0]
 have hin:=(Gla hni).1
 refine Tot.bind (Xo hin.1.1.1.1 hin.2.1 s) ?_
 rintro r rfl
 cases hl:(lkD (w.2.2.1.getD i Cf).2.1 s).2 != 0 with
 |true=>exact Tot.yes rfl (Tot.pure rfl)
 |false=>
  refine Tot.no rfl ?_
  rw [cond_false]
  have hlk:∃ b,gt (w.2.2.1.getD i Cf).2.1.1 s=some b:=by
   rw [bne,Bool.not_eq_false',beq_iff_eq] at hl
   obtain ⟨b,hb,_⟩:=Rd.1 (show lkD (w.2.2.1.getD i Cf).2.1 s=((lkD (w.2.2.1.getD i Cf).2.1 s).1,0) from by rw [← hl])
   exact ⟨b,hb⟩
  have hs:Ar s=true:=S1a hni.g.1 (by obtain ⟨b,hb⟩:=hlk; rw [hb]; rfl)
  have hsz:s.size≤1000000000:=by
   have:=Fh.1 (Bool.and_eq_true _ _ ▸ hs:_∧_).2
   omega
  refine Tot.bind (Xr _ s (N9 hr) hsz) ?_
  rintro p rfl
  refine Tot.bind (S4 w _ hn.1 (Ub (N9 hr) s)) ?_
  rintro p rfl
  have hpl:=T4a (s:=s) hr hn.1
  have hc:=λ x=>Ud (w:=w) (s:=s) (x:=x)
  have hrun:puN w i s rc=run (pst (i:Int) s (lkD (w.2.2.1.getD i Cf).2.1 s).1 rc (Sa w s)) (Sa w s).length (w.2.2.1,false,true):=rfl
  obtain ⟨p1,p2⟩:=D2b (w:=w) (i:=i) (s:=s) (rc:=rc) hn
  have inv:∀ n,n≤(Sa w s).length→NS (run (pst (i:Int) s (lkD (w.2.2.1.getD i Cf).2.1 s).1 rc (Sa w s)) n (w.2.2.1,false,true)).1∧(run (pst (i:Int) s (lkD (w.2.2.1.getD i Cf).2.1 s).1 rc (Sa w s)) n (w.2.2.1,false,true)).1.length=w.2.2.1.length:=λ n hn'=>
   Mv (λ _ (b:List Nod×Bool×Bool)=>NS b.1∧b.1.length=w.2.2.1.length) ⟨hn,rfl⟩ (λ j b hj hb=>Yba hb (by have:=hc _ (A3 (d:=0) (show j<(Sa w s).length by omega)); omega))
  rw [show whr w.2.2.1 (Uf w.2.1 s)=Sa w s from rfl]
  generalize (lkD (w.2.2.1.getD i Cf).2.1 s).1=f at *
  generalize Sa w s=ps at *
  refine Tot.bind (Q:=λ r=>r=((i:Int),s,(puN w i s rc).2.1,(puN w i s rc).2.2,wN w (puN w i s rc).1)) ?_ ?_
  ·refine Tot.up (L:=λ k j (a:List Nod×Bool×Bool)=>Bf k (i:Int) s rc ps a.2.1 a.2.2 j (wN w a.1) f) (Q:=λ r=>r=((i:Int),s,(puN w i s rc).2.1,(puN w i s rc).2.2,wN w (puN w i s rc).1)) ps.length (λ j a=>a=run (pst (i:Int) s f rc ps) j (w.2.2.1,false,true)) ?_ ?_ 0 (w.2.2.1,false,true) (Nat.zero_le _) rfl
   ·rintro a rfl
    simp (disch:=omega) only [Bf,dF]
    exact Tot.pure (by rw [hrun])
   ·rintro j a hj rfl next
    obtain ⟨i1,i2⟩:=inv j (by omega)
    rw [Qg] at next
    generalize run (pst (i:Int) s f rc ps) j (w.2.2.1,false,true)=a at *
    obtain ⟨ns,o,g⟩:=a
    dsimp only at i1 i2
    have hci:=hc _ (A3 (d:=0) hj)
    obtain ⟨m,em⟩:∃ m:Nat,ps.getD j 0=(m:Int):=⟨(ps.getD j 0).toNat,by omega⟩
    rw [em] at hci
    unfold pst at next
    rw [em,Int.toNat_natCast] at next
    have e0:ns.getD m ((0:Int),(([],[]),([],[])))=ns.getD m Cf:=rfl
    simp (disch:=omega) only [Bf,dT,Int.toNat_natCast,w64,em,wN]
    cases hz:(m:Int)==(i:Int) with
    |true=>
     rw [hz] at next
     exact Tot.yes rfl (next _ rfl)
    |false=>
     rw [hz] at next
     refine Tot.no rfl ?_
     simp only [Jqa,Option.bind_some]
     cases h1:rch rc j != 1 with
     |true=>
      rw [h1] at next
      exact Tot.yes rfl (next _ rfl)
     |false=>
      rw [h1] at next
      refine Tot.no rfl ?_
      simp (disch:=omega) only [dT,Int.toNat_natCast,e0]
      have hm:=Gla (i1.get (i:=m) (by omega))
      refine Tot.bind (M1a (ns.getD m Cf).2.1 s f true hm.1.1 hm.1.2.1 (Ir hs)) ?_
      rintro q rfl
      dsimp only at next
      generalize keep (ns.getD m Cf).2.1 s f true=q at *
      cases h2:q.2 != 0 with
      |false=>rw [h2] at next; exact Tot.no rfl (next _ rfl)
      |true=>
       rw [h2] at next
       refine Tot.yes rfl ?_
       cases h3:q.2 != 1 with
       |true=>rw [h3] at next; exact Tot.yes rfl (next _ rfl)
       |false=>rw [h3] at next; exact Tot.no rfl (next _ rfl)
  ·rintro r rfl
   dsimp only [wN]
   generalize puN w i s rc=a at *
   obtain ⟨ns,o,g⟩:=a
   dsimp only at p1 p2 ⊢
   cases g with
   |false=>exact Tot.no rfl (Tot.pure rfl)
   |true=>
    refine Tot.yes rfl ?_
    cases o with
    |true=>exact Tot.no rfl (Tot.pure rfl)
    |false=>
     refine Tot.yes rfl ?_
     have e0:ns.getD i ((0:Int),(([],[]),([],[])))=ns.getD i Cf:=rfl
     have hil:(i:Int)<(ns.length:Int):=by omega
     simp (disch:=omega) only [dT,Int.toNat_natCast,e0]
     have hg:=(p1.get (i:=i) (by omega)).g
     refine Tot.bind (Ama hg.1 (Ir hs)) ?_
     rintro q rfl
     refine Tot.bind (Ala (A7b hg).1 hs) ?_
     rintro q rfl
     exact Tot.pure rfl

def tk (n:Nod) (l:List Row):Bool×Nod:=bif decide ((C9a n.2.2.1 l).length > 60) then (false,n) else (true,(n.1,n.2.1,C9a n.2.2.1 l,n.2.2.2))
theorem Eab {n:Nod} {l:List Row} (hn:NG n) (hl:M0 l=true):NG (tk n l).2:=by
 obtain ⟨h1,h2,h3,h4,h5⟩:=Ee.1 hn.1
 unfold tk
 by_cases h:(C9a n.2.2.1 l).length > 60
 ·rw [decide_eq_true h]; exact hn
 ·rw [decide_eq_false h]
  exact ⟨Ee.2 ⟨h1,h2,h3,Jca h4 hl (by omega),h5⟩,hn.2⟩
def gst (src:Int) (l:List Row) (self:Bool) (rc ls:List Int) (a:List Nod×Bool) (j:Nat):List Nod×Bool:=
 bif ls.getD j 0==src && !self then a else bif rch rc j != 1 then (a.1,false) else
  (a.1.set (ls.getD j 0).toNat (tk (a.1.getD (ls.getD j 0).toNat Cf) l).2,bif (tk (a.1.getD (ls.getD j 0).toNat Cf) l).1 then a.2 else false)
def P9 (w:Wld) (src:Int) (l:List Row) (self:Bool) (rc:List Int):List Nod×Bool:=run (gst src l self rc (Kk w)) (Kk w).length (w.2.2.1,true)
theorem Yca {src:Int} {l:List Row} {self:Bool} {rc ls:List Int} {a:List Nod×Bool} {j m:Nat} (hl:M0 l=true) (h:NS a.1∧a.1.length=m) (hc:(ls.getD j 0).toNat<m):NS (gst src l self rc ls a j).1∧(gst src l self rc ls a j).1.length=m:=by
 unfold gst
 cases ls.getD j 0==src && !self with
 |true=>exact h
 |false=>
  cases rch rc j != 1 with
  |true=>exact h
  |false=>exact ⟨h.1.set (Eab (h.1.get (by have:=h.2; omega)) hl),by rw [cond_false,cond_false,List.length_set]; exact h.2⟩
theorem S7 {w:Wld} {x:Int} (h:x∈Kk w):0≤x∧x<(w.2.2.1.length:Int):=by
 obtain ⟨j,h1,_,rfl⟩:=Eca.1 h
 omega
theorem T4 {w:Wld} (hr:RBd w.2.1) (hn:w.2.2.1.length≤2000000):(Kk w).length≤4000000000000:=O7 hn (Ub hr _)
theorem Mla {w:Wld} {src:Int} {l:List Row} {self:Bool} {rc:List Int} (hl:M0 l=true) (hn:NS w.2.2.1):NS (P9 w src l self rc).1∧(P9 w src l self rc).1.length=w.2.2.1.length:=
 Mv (λ _ (b:List Nod×Bool)=>NS b.1∧b.1.length=w.2.2.1.length) ⟨hn,rfl⟩ (λ j b hj hb=>Yca hl hb (by have:=S7 (A3 (d:=0) hj); omega))
theorem Mma (w:Wld) (src:Int) (l:List Row) (self:Bool) (rc:List Int) (hr:RBd w.2.1) (hn:NS w.2.2.1) (hl:M0 l=true):
  Tot (λ k=>Bi k w src l self rc) (λ r=>r=((P9 w src l self rc).2,wN w (P9 w src l self rc).1)):=by
 have hll:=(S7a hl).1
 unfold Bi
 refine Tot.bind (Awa w hr hn.1) ?_
 rintro p rfl
 have hpl:=T4 hr hn.1
 have hc:=λ x=>S7 (w:=w) (x:=x)
 have hrun:P9 w src l self rc=run (gst src l self rc (Kk w)) (Kk w).length (w.2.2.1,true):=rfl
 have inv:∀ n,n≤(Kk w).length→NS (run (gst src l self rc (Kk w)) n (w.2.2.1,true)).1∧(run (gst src l self rc (Kk w)) n (w.2.2.1,true)).1.length=w.2.2.1.length:=λ n hn'=>
  Mv (λ _ (b:List Nod×Bool)=>NS b.1∧b.1.length=w.2.2.1.length) ⟨hn,rfl⟩ (λ j b hj hb=>Yca hl hb (by have:=hc _ (A3 (d:=0) (show j<(Kk w).length by omega)); omega))
 generalize Kk w=ls at *
 refine Tot.bind (Q:=λ r=>r=((P9 w src l self rc).2,wN w (P9 w src l self rc).1)) ?_ (by rintro r rfl; exact Tot.pure rfl)
 refine Tot.up (L:=λ k j (a:List Nod×Bool)=>Aj k src l self rc ls a.2 j (wN w a.1)) (Q:=λ r=>r=((P9 w src l self rc).2,wN w (P9 w src l self rc).1)) ls.length (λ j a=>a=run (gst src l self rc ls) j (w.2.2.1,true)) ?_ ?_ 0 (w.2.2.1,true) (Nat.zero_le _) rfl
 ·rintro a rfl
  simp (disch:=omega) only [Aj,dF]
  exact Tot.pure (by rw [hrun])
 ·rintro j a hj rfl next
  obtain ⟨i1,i2⟩:=inv j (by omega)
  rw [Qg] at next
  generalize run (gst src l self rc ls) j (w.2.2.1,true)=a at *
  obtain ⟨ns,g⟩:=a
  dsimp only at i1 i2
  have hci:=hc _ (A3 (d:=0) hj)
  obtain ⟨m,em⟩:∃ m:Nat,ls.getD j 0=(m:Int):=⟨(ls.getD j 0).toNat,by omega⟩
  rw [em] at hci
  unfold gst at next
  rw [em,Int.toNat_natCast] at next
  have e0:ns.getD m ((0:Int),(([],[]),([],[])))=ns.getD m Cf:=rfl
  have hm:=Gla (i1.get (i:=m) (by omega))
  have h12:=Nza (ns.getD m Cf) l hm.2.1.1 hll
  rw [show (bif decide ((C9a (ns.getD m Cf).2.2.1 l).length > 60) then (false,(ns.getD m Cf)) else (true,((ns.getD m Cf).1,(ns.getD m Cf).2.1,C9a (ns.getD m Cf).2.2.1 l,(ns.getD m Cf).2.2.2)))=tk (ns.getD m Cf) l from rfl] at h12
  have body:(bif (m:Int)==src && !self then false else true)=true→Tot (λ k=>(Bv rc (j:Int)).bind λ r2=>cond (r2 != 1) (Aj k src l self rc ls false ((j:Int)+1) (wN w ns)) (cond (decide ((0:Int)≤(m:Int))) (cond (decide ((m:Int)<(List.length ns:Int))) ((I3 k (ns.getD m Cf) l).bind λ r5=>cond (!r5.1) (Aj k src l self rc ls false ((j:Int)+1) (wN w (ns.set m r5.2))) (Aj k src l self rc ls g ((j:Int)+1) (wN w (ns.set m r5.2)))) none) none)) (λ r=>r=((P9 w src l self rc).2,wN w (P9 w src l self rc).1)):=by
   intro hb
   have hb':((m:Int)==src && !self)=false:=by
    cases hx:((m:Int)==src && !self) with
    |false=>rfl
    |true=>rw [hx] at hb; cases hb
   rw [hb'] at next
   simp only [Jqa,Option.bind_some]
   cases h1:rch rc j != 1 with
   |true=>
    rw [h1] at next
    exact Tot.yes rfl (next _ rfl)
   |false=>
    rw [h1] at next
    refine Tot.no rfl (Tot.dec (by omega) (Tot.dec (by omega) (Tot.bind h12 ?_)))
    rintro q rfl
    dsimp only at next
    generalize tk (ns.getD m Cf) l=q at *
    cases h2:q.1 with
    |false=>rw [h2] at next; exact Tot.yes rfl (next _ rfl)
    |true=>rw [h2] at next; exact Tot.no rfl (next _ rfl)
  simp (disch:=omega) only [Aj,dT,Int.toNat_natCast,w64,em,e0]
  cases hz:(m:Int)==src with
  |true=>
   rw [hz] at next body
   refine Tot.yes rfl ?_
   cases self with
   |false=>exact Tot.yes rfl (next _ rfl)
   |true=>
    refine Tot.no rfl ?_
    have:=body rfl
    dsimp only [wN] at this ⊢
    simp (disch:=omega) only [dT] at this
    exact this
  |false=>
   rw [hz] at next body
   refine Tot.no rfl ?_
   have:=body rfl
   dsimp only [wN] at this ⊢
   simp (disch:=omega) only [dT] at this
   exact this
theorem Oca {r:Row} (h:Ng r=true):M0 [r]=true:=O9.2 ⟨List.pairwise_singleton _ _,λ x hx=>by rw [List.mem_singleton.1 hx]; exact h,by simp⟩
theorem W1:M0 []=true:=O9.2 ⟨List.Pairwise.nil,(λ _ hx=>nomatch hx),Nat.zero_le _⟩
def T5a (n:Nod):Nod:=(n.1,n.2.1,[],n.2.2.2)
def Ebb (n:Nod) (q:List Row):Nod:=(n.1,n.2.1,n.2.2.1,q)
theorem Mna {n:Nod} (hn:NG n):NG (T5a n):=by
 obtain ⟨h1,h2,h3,h4,h5⟩:=Ee.1 hn.1
 exact ⟨Ee.2 ⟨h1,h2,h3,W1,h5⟩,hn.2⟩
theorem Yda {n:Nod} {q:List Row} (hn:NG n) (h:∀ r∈q,Ng r=true) (hl:q.length≤60):NG (Ebb n q):=by
 obtain ⟨h1,h2,h3,h4,h5⟩:=Ee.1 hn.1
 exact ⟨Ee.2 ⟨h,h2,h3,h4,hl⟩,hn.2⟩
def Sc (w:Wld) (i:Nat) (rc:List Int):List Nod×Bool:=P9 w (i:Int) (w.2.2.1.getD i Cf).2.2.1 false rc
def Jxa (w:Wld) (i:Nat) (rc:List Int):Bool×Wld:=bif ((w.2.2.1.getD i Cf).2.2.1.length:Int)==0 then (false,w) else
 (true,wN w (bif (Sc w i rc).2 && !(O3 (Kk (wN w (Sc w i rc).1)) (i:Int)) then (Sc w i rc).1.set i (T5a ((Sc w i rc).1.getD i Cf)) else (Sc w i rc).1))
theorem T6a (w:Wld) (i:Nat) (rc:List Int) (hr:RBd w.2.1) (hn:NS w.2.2.1) (hi:i<w.2.2.1.length):Tot (λ k=>He k w (i:Int) rc) (λ r=>r=Jxa w i rc):=by
 have hni:=hn.get hi
 have e0:w.2.2.1.getD i ((0:Int),(([],[]),([],[])))=w.2.2.1.getD i Cf:=rfl
 have hl:=(Ee.1 hni.1).2.2.2.1
 unfold He Jxa
 simp (disch:=omega) only [dT,Int.toNat_natCast,e0]
 cases hz:((w.2.2.1.getD i Cf).2.2.1.length:Int)==0 with
 |true=>exact Tot.yes rfl (Tot.pure rfl)
 |false=>
  refine Tot.no rfl (Tot.bind (Mma w (i:Int) _ false rc hr hn hl) ?_)
  rintro r rfl
  obtain ⟨p1,p2⟩:=Mla (w:=w) (src:=(i:Int)) (self:=false) (rc:=rc) hl hn
  rw [show P9 w (i:Int) (w.2.2.1.getD i Cf).2.2.1 false rc=Sc w i rc from rfl] at p1 p2 ⊢
  generalize Sc w i rc=a at *
  obtain ⟨ns,g⟩:=a
  dsimp only at p1 p2 ⊢
  cases g with
  |false=>exact Tot.no rfl (Tot.pure rfl)
  |true=>
   refine Tot.yes rfl ?_
   refine Tot.bind (Q:=λ r=>r=O3 (Kk (wN w ns)) (i:Int)) ?_ ?_
   ·unfold J3
    refine Tot.bind (Awa (wN w ns) hr p1.1) ?_
    rintro p rfl
    refine Tot.bind (T0 _ _ (by have:=T4 (w:=wN w ns) hr p1.1; omega)) ?_
    rintro b rfl
    exact Tot.pure rfl
   ·rintro b rfl
    cases O3 (Kk (wN w ns)) (i:Int) with
    |true=>exact Tot.no rfl (Tot.pure rfl)
    |false=>
     have e1:ns.getD i ((0:Int),(([],[]),([],[])))=ns.getD i Cf:=rfl
     refine Tot.yes rfl ?_
     simp (disch:=omega) only [dT,Int.toNat_natCast,e1]
     exact Tot.pure rfl
def T5 (w:Wld) (i:Nat) (rc:List Int):List Nod×Bool:=P9 w (i:Int) ((w.2.2.1.getD i Cf).2.2.2.take 1) true rc
def Jya (w:Wld) (i:Nat) (rc:List Int):Bool×Wld:=bif ((w.2.2.1.getD i Cf).2.2.2.length:Int)==0 then (false,w) else
 (true,wN w (bif (T5 w i rc).2 then (T5 w i rc).1.set i (Ebb ((T5 w i rc).1.getD i Cf) ((w.2.2.1.getD i Cf).2.2.2.drop 1)) else (T5 w i rc).1))
theorem T6 {q:List Row} (h:∀ r∈q,Ng r=true):M0 (q.take 1)=true:=by
 cases q with
 |nil=>exact W1
 |cons r q=>exact Oca (h r List.mem_cons_self)
theorem T7a (w:Wld) (i:Nat) (rc:List Int) (hr:RBd w.2.1) (hn:NS w.2.2.1) (hi:i<w.2.2.1.length):Tot (λ k=>Hf k w (i:Int) rc) (λ r=>r=Jya w i rc):=by
 have hni:=hn.get hi
 have e0:w.2.2.1.getD i ((0:Int),(([],[]),([],[])))=w.2.2.1.getD i Cf:=rfl
 obtain ⟨hq,_,_,_,hq60⟩:=Ee.1 hni.1
 have hl:=T6 hq
 unfold Hf Jya
 simp (disch:=omega) only [dT,Int.toNat_natCast,e0]
 cases hz:((w.2.2.1.getD i Cf).2.2.2.length:Int)==0 with
 |true=>exact Tot.yes rfl (Tot.pure rfl)
 |false=>
  have h1:=beq_eq_false_iff_ne.1 hz
  refine Tot.no rfl (Tot.dec (by omega) (Tot.bind (Mma w (i:Int) _ true rc hr hn hl) ?_))
  rintro r rfl
  obtain ⟨p1,p2⟩:=Mla (w:=w) (src:=(i:Int)) (self:=true) (rc:=rc) hl hn
  rw [show P9 w (i:Int) ((w.2.2.1.getD i Cf).2.2.2.take (Int.toNat 1)) true rc=T5 w i rc from rfl]
  rw [show P9 w (i:Int) ((w.2.2.1.getD i Cf).2.2.2.take 1) true rc=T5 w i rc from rfl] at p1 p2
  generalize T5 w i rc=a at *
  obtain ⟨ns,g⟩:=a
  dsimp only at p1 p2 ⊢
  cases g with
  |false=>exact Tot.no rfl (Tot.pure rfl)
  |true=>
   refine Tot.yes rfl (Tot.dec (by omega) (Tot.ble (by rw [List.length_drop,List.length_nil]; omega) ?_))
   have e1:ns.getD i ((0:Int),(([],[]),([],[])))=ns.getD i Cf:=rfl
   simp (disch:=omega) only [dT,Int.toNat_natCast,e1,List.nil_append]
   exact Tot.pure rfl
theorem T8a:∀ (k:Nat) (l:List ByteArray) (s:ByteArray),k<l.length→∃ j,j≤k∧(Hfa l k s).2=j∧(Hfa l k s).1.set j s=l.take j++s::((l.take k).drop j++l.drop (k+1))∧(∀ y∈(l.take k).drop j,tlt s y=true)∧(0<j→tlt s (l.getD (j - 1) Ni)=false)
 |0,l,s,hk=>by
  refine ⟨0,Nat.le_refl _,rfl,?_,λ y hy=>by simp at hy,λ h=>by omega⟩
  cases l with
  |nil=>simp at hk
  |cons x l=>rfl
 |k+1,l,s,hk=>by
  unfold Hfa
  cases hc:tlt s (l.getD k Ni) with
  |false=>
   rw [cond_false]
   refine ⟨k+1,Nat.le_refl _,rfl,?_,λ y hy=>?_,λ _=>hc⟩
   ·rw [List.drop_take,Nat.sub_self,List.take_zero,List.nil_append]
    exact List.set_eq_take_append_cons_drop .. |>.trans (if_pos hk)
   ·rw [List.drop_take,Nat.sub_self,List.take_zero] at hy; cases hy
  |true=>
   rw [cond_true]
   obtain ⟨j,h1,h2,h3,h4,h5⟩:=T8a k (l.set (k+1) (l.getD k Ni)) s (by rw [List.length_set]; omega)
   have t1:(l.set (k+1) (l.getD k Ni)).take j=l.take j:=by rw [List.take_set_of_le (by omega)]
   have t2:(l.set (k+1) (l.getD k Ni)).take k=l.take k:=by rw [List.take_set_of_le (by omega)]
   have t3:(l.set (k+1) (l.getD k Ni)).drop (k+1)=l.getD k Ni::l.drop (k+2):=by
    rw [List.drop_eq_getElem_cons (by rw [List.length_set]; exact hk),List.getElem_set_self,List.drop_set_of_lt (by omega)]
   have t4:l.take (k+1)=l.take k++[l.getD k Ni]:=by
    rw [List.take_succ_eq_append_getElem (by omega),List.getD_eq_getElem?_getD,List.getElem?_eq_getElem (by omega),Option.getD_some]
   have hlk:(l.take k).length=k:=by rw [List.length_take]; omega
   rw [t1,t2,t3] at h3
   rw [t2] at h4
   refine ⟨j,by omega,h2,?_,λ y hy=>?_,λ h=>?_⟩
   ·rw [h3,t4,List.drop_append_of_le_length (by omega),List.append_assoc]
    rfl
   ·rw [t4,List.drop_append_of_le_length (by omega)] at hy
    rcases List.mem_append.1 hy with hy|hy
    ·exact h4 y hy
    ·rw [List.mem_singleton.1 hy]; exact hc
   ·have:=h5 h
    rwa [List.getD_eq_getElem?_getD,List.getElem?_set_ne (by omega),← List.getD_eq_getElem?_getD] at this
theorem Cla {l:List ByteArray} {s:ByteArray}:∃ j,j≤l.length∧Y7a l s=l.take j++s::l.drop j∧(∀ y∈l.drop j,tlt s y=true)∧(0<j→tlt s (l.getD (j - 1) Ni)=false):=by
 obtain ⟨j,h1,h2,h3,h4,h5⟩:=T8a l.length (l++[s]) s (by simp)
 have t1:(l++[s]).take l.length=l:=by rw [List.take_append_of_le_length (Nat.le_refl _),List.take_length]
 have t2:(l++[s]).drop (l.length+1)=[]:=List.drop_eq_nil_of_le (by simp)
 have t3:(l++[s]).take j=l.take j:=List.take_append_of_le_length h1
 rw [t1] at h4
 rw [t1,t2,t3,List.append_nil] at h3
 refine ⟨j,h1,?_,h4,λ h=>?_⟩
 ·unfold Y7a
  rw [h2,h3]
 ·have:=h5 h
  rwa [List.getD_eq_getElem?_getD,List.getElem?_append_left (by omega),← List.getD_eq_getElem?_getD] at this
def spl (l:List ByteArray) (s:ByteArray):List ByteArray:=bif B4a l s then l else Y7a l s
theorem Efa {l:List ByteArray} {s y:ByteArray}:y∈spl l s↔y=s∨y∈l:=by
 unfold spl
 cases h:B4a l s with
 |true=>
  have:=E6a.1 h
  exact ⟨.inr,λ h=>h.elim (λ e=>e ▸ this) id⟩
 |false=>
  obtain ⟨j,_,e,_⟩:=Cla (l:=l) (s:=s)
  rw [cond_false,e,List.mem_append,List.mem_cons]
  conv=>rhs; rw [← List.take_append_drop j l,List.mem_append]
  constructor
  ·rintro (h|h|h)
   ·exact .inr (.inl h)
   ·exact .inl h
   ·exact .inr (.inr h)
  ·rintro (h|h|h)
   ·exact .inr (.inl h)
   ·exact .inl h
   ·exact .inr (.inr h)
theorem Cma {l:List ByteArray} {s:ByteArray} (h:TS l):TS (spl l s):=by
 unfold spl
 cases hh:B4a l s with
 |true=>exact h
 |false=>
  have hn:s∉l:=λ c=>by rw [E6a.2 c] at hh; cases hh
  obtain ⟨j,h1,e,h4,h5⟩:=Cla (l:=l) (s:=s)
  rw [cond_false,e]
  have hs:∀ y∈l.take j,tlt y s=true:=by
   intro y hy
   by_cases hj:0<j
   ·have hlast:l.getD (j - 1) Ni∈l:=A3 (by omega)
    have hlt:tlt (l.getD (j - 1) Ni) s=true:=by
     cases hc:tlt (l.getD (j - 1) Ni) s with
     |true=>rfl
     |false=>exact absurd (A6a hc (h5 hj) ▸ hlast) hn
    obtain ⟨i,hi,rfl⟩:=List.mem_iff_getElem.1 hy
    rw [List.length_take] at hi
    rw [List.getElem_take]
    by_cases hij:i=j - 1
    ·subst hij
     rwa [List.getD_eq_getElem?_getD,List.getElem?_eq_getElem (by omega),Option.getD_some] at hlt
    ·have:=List.pairwise_iff_getElem.1 h i (j - 1) (by omega) (by omega) (by omega)
     rw [List.getD_eq_getElem?_getD,List.getElem?_eq_getElem (by omega),Option.getD_some] at hlt
     exact Mr this hlt
   ·rw [show j=0 by omega,List.take_zero] at hy; cases hy
  have hd:TS (l.drop j):=h.sublist (List.drop_sublist _ _)
  have ht:TS (l.take j):=h.sublist (List.take_sublist _ _)
  exact List.pairwise_append.2 ⟨ht,List.pairwise_cons.2 ⟨h4,hd⟩,λ a ha b hb=>by
   rcases List.mem_cons.1 hb with rfl|hb
   ·exact hs a ha
   ·exact Mr (hs a ha) (h4 b hb)⟩
theorem T9a (l:List ByteArray) (s:ByteArray) (hl:l.length≤5000000):Tot (λ k=>Db k l s) (λ r=>r=spl l s):=by
 unfold Db spl
 refine Tot.bind (Mia l s (by omega)) ?_
 rintro b rfl
 cases B4a l s with
 |true=>exact Tot.yes rfl (Tot.pure rfl)
 |false=>
  have loop:∀ (k:Nat) (x:List ByteArray),k<x.length→x.length≤5000001→Tot (λ n=>Ey n s x (k:Int)) (λ r=>r=(s,(Hfa x k s).1,((Hfa x k s).2:Int))):=by
   intro k
   induction k with
   |zero=>
    intro x hk hx
    refine Tot.succ ?_
    simp (disch:=omega) only [Ey,dF]
    exact Tot.pure rfl
   |succ k ih=>
    intro x hk hx
    refine Tot.succ ?_
    have e1:((k+1:Nat):Int) - 1=(k:Int):=by omega
    have e0:x.getD k (⟨#[]⟩:ByteArray)=x.getD k Ni:=rfl
    simp (disch:=omega) only [Ey,dT,w64,e1,Int.toNat_natCast,e0,Lga]
    unfold Hfa
    refine Tot.ite (λ h=>?_) (λ h=>?_)
    ·rw [h,cond_true]
     exact ih _ (by rw [List.length_set]; omega) (by rw [List.length_set]; omega)
    ·rw [h,cond_false]
     exact Tot.pure rfl
  have n0:([]:List ByteArray).length=0:=rfl
  have n1:([s]:List ByteArray).length=1:=rfl
  have nl:(l++[s]).length=l.length+1:=by simp
  refine Tot.no rfl (Tot.ble (by rw [n0]; omega) ?_)
  simp only [List.nil_append]
  refine Tot.ble (by rw [n1]; omega) ?_
  rw [nl,w64 (n:=((l.length+1:Nat):Int) - 1) (by omega) (by omega),show ((l.length+1:Nat):Int) - 1=(l.length:Int) by omega]
  refine Tot.bind (loop l.length (l++[s]) (by omega) (by omega)) ?_
  rintro r rfl
  obtain ⟨i1,i2,_⟩:=Asa l.length (l++[s]) s
  simp (disch:=omega) only [dT,Int.toNat_natCast]
  exact Tot.pure rfl

end Go.Proofs.YtmhhjceoinoekaaGreat.Vf
