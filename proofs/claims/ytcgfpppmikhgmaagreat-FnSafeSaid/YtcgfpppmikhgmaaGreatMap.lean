import Derived.Test.YtcgfpppmikhgmaaGreatMao
set_option linter.unusedVariables false
set_option linter.unusedSimpArgs false
namespace Go.Proofs.YtcgfpppmikhgmaaGreat.Vf
open Go

def Aua (l:List ByteArray) (s:ByteArray):Bool:=l.any λ y=>teq y s
theorem Lqa {l:List ByteArray} {s:ByteArray}:Aua l s=true↔s∈l:=by
 unfold Aua
 rw [List.any_eq_true]
 constructor
 ·rintro ⟨x,hx,e⟩; rw [← Jl.1 e]; exact hx
 ·intro h; exact ⟨s,h,Jl.2 rfl⟩
theorem Dja (l:List ByteArray) (s:ByteArray) (hl:l.length≤1000000000):Tot (λ k=>Em k l s) (λ r=>r=Aua l s):=by
 unfold Em
 refine Tot.bind (Q:=λ r=>r=bif Aua l s then .inl true else .inr ()) ?_ (by rintro r rfl; cases Aua l s<;>exact Tot.pure rfl)
 refine Tot.up (L:=λ k i (_:Unit)=>Gv k l s i) (Q:=λ r=>r=bif Aua l s then .inl true else .inr ()) l.length (λ j _=>Aua (l.drop j) s=Aua l s) ?_ ?_ 0 () (Nat.zero_le _) rfl
 ·intro _ h
  rw [List.drop_length] at h
  simp (disch:=omega) only [Gv,dF,← h]
  exact Tot.pure rfl
 ·intro j _ hj h next
  rw [Aq (d:=Oi) hj] at h
  unfold Aua at h
  rw [List.any_cons] at h
  simp (disch:=omega) only [Gv,dT,Int.toNat_natCast,w64]
  refine Tot.ite (λ hc=>Tot.pure ?_) (λ hc=>next () ?_)
  ·rw [show teq (l.getD j Oi) s=true from hc,Bool.true_or] at h
   unfold Aua
   rw [← h]
   rfl
  ·rw [show teq (l.getD j Oi) s=false from hc,Bool.false_or] at h
   exact h
def Gra (l:List ByteArray):Nat→ByteArray→List ByteArray×Nat
 |0,_=>(l,0)
 |k+1,s=>bif tlt s (l.getD k Oi) then Gra (l.set (k+1) (l.getD k Oi)) k s else (l,k+1)
def X9a (l:List ByteArray) (s:ByteArray):List ByteArray:=(Gra (l++[s]) l.length s).1.set (Gra (l++[s]) l.length s).2 s
theorem A2a:∀ (k:Nat) (l:List ByteArray) (s:ByteArray),(Gra l k s).1.length=l.length∧(Gra l k s).2≤k∧∀ y∈(Gra l k s).1,y∈l∨y=Oi
 |0,_,_=>⟨rfl,Nat.le_refl _,λ _ h => .inl h⟩
 |k+1,l,s=>by
  unfold Gra
  cases tlt s (l.getD k Oi) with
  |false=>exact ⟨rfl,Nat.le_refl _,λ _ h => .inl h⟩
  |true=>
   obtain ⟨h1,h2,h3⟩:=A2a k (l.set (k+1) (l.getD k Oi)) s
   rw [cond_true]
   refine ⟨by rw [h1,List.length_set],by omega,λ y hy=>?_⟩
   rcases h3 y hy with h|h
   ·rcases List.mem_or_eq_of_mem_set h with h|h
    ·exact .inl h
    ·by_cases hk:k<l.length
     ·rw [h]; exact .inl (A4 hk)
     ·rw [h,List.getD_eq_getElem?_getD,List.getElem?_eq_none (by omega)]; exact .inr rfl
   ·exact .inr h
theorem Vga (l:List ByteArray) (s:ByteArray):(X9a l s).length=l.length+1:=by
 unfold X9a
 rw [List.length_set,(A2a _ _ _).1,List.length_append]
 rfl
theorem Vha {l:List ByteArray} {s y:ByteArray} (h:y∈X9a l s):y∈l∨y=s∨y=Oi:=by
 unfold X9a at h
 rcases List.mem_or_eq_of_mem_set h with h|h
 ·rcases (A2a _ _ _).2.2 y h with h|h
  ·rcases List.mem_append.1 h with h|h
   ·exact .inl h
   ·exact .inr (.inl (List.mem_singleton.1 h))
  ·exact .inr (.inr h)
 ·exact .inr (.inl h)
def hS1 (l:List Nmd) (j:Nat) (out:List ByteArray) (x:Nmd):List ByteArray:=bif (Nk x.2).isSome&&(!(Aua out x.1)&&(Gqa l x.1==(j:Int))) then X9a out x.1 else out
def hS (l:List Nmd):List Nmd→Nat→List ByteArray→List ByteArray
 |[],_,out=>out
 |x::r,j,out=>hS l r (j+1) (hS1 l j out x)
def Nda (d:Dsk):List ByteArray:=hS d.1 d.1 0 []
theorem S0a (l:List Nmd) (j:Nat) (out:List ByteArray) (x:Nmd):(hS1 l j out x).length≤out.length+1:=by
 unfold hS1
 cases (Nk x.2).isSome&&(!(Aua out x.1)&&(Gqa l x.1==(j:Int))) with
 |false=>exact Nat.le_succ _
 |true=>rw [cond_true,Vga]; exact Nat.le_refl _
theorem Bvb (l:List Nmd) (hl:Nu l):∀ (r:List Nmd) (j:Nat) (out:List ByteArray),(∀ x∈r,x∈l)→(∀ y∈out,Kj y)→(hS l r j out).length≤out.length+r.length∧∀ y∈hS l r j out,Kj y
 |[],_,out,_,h=>⟨by simp [hS],h⟩
 |x::r,j,out,hm,h=>by
  have h2:=S0a l j out x
  obtain ⟨a1,a2⟩:=Bvb l hl r (j+1) (hS1 l j out x) (λ y hy=>hm y (List.mem_cons_of_mem _ hy)) (λ y hy=>by
   unfold hS1 at hy
   cases hc:(Nk x.2).isSome&&(!(Aua out x.1)&&(Gqa l x.1==(j:Int))) with
   |false=>rw [hc] at hy; exact h y hy
   |true=>
    rw [hc] at hy
    rcases Vha hy with hy|rfl|rfl
    ·exact h y hy
    ·exact hl x (hm x List.mem_cons_self)
    ·unfold Kj; decide)
  refine ⟨?_,a2⟩
  show (hS l r (j+1) (hS1 l j out x)).length≤_
  rw [List.length_cons]
  omega
theorem Iua (a b:List Nmd) (j:Nat) (hj:j<a.length) (ha:a.length≤5000000):∀ (k:Nat) (x:List ByteArray),k<x.length→x.length≤5000000→
  Tot (λ n=>J5 n x (j:Int) (k:Int) (a,b)) (λ r=>r=((Gra x k (a.getD j Eu).1).1,(j:Int),((Gra x k (a.getD j Eu).1).2:Int),(a,b))):=by
 intro k
 induction k with
 |zero=>
  intro x hk hx
  refine Tot.succ ?_
  simp (disch:=omega) only [J5,dF]
  exact Tot.pure rfl
 |succ k ih=>
  intro x hk hx
  refine Tot.succ ?_
  have e1:((k+1:Nat):Int) - 1=(k:Int):=by omega
  simp (disch:=omega) only [J5,dT,w64,e1,Int.toNat_natCast]
  have e0:a.getD j ((⟨#[]⟩:ByteArray),([]:List Int))=a.getD j Eu:=rfl
  rw [e0]
  unfold Gra
  refine Tot.ite (λ h=>?_) (λ h=>?_)
  ·rw [Kpa] at h
   rw [show tlt (a.getD j Eu).1 (x.getD k Oi)=true from h,cond_true]
   exact ih _ (by rw [List.length_set]; omega) (by rw [List.length_set]; omega)
  ·rw [Kpa] at h
   rw [show tlt (a.getD j Eu).1 (x.getD k Oi)=false from h,cond_false]
   exact Tot.pure rfl
theorem Via (d:Dsk) (hd:DIn d) (hb:DB d):Tot (λ k=>G5 k d) (λ r=>r=Nda d):=by
 have hl:=hd.2.1
 unfold G5
 refine Tot.bind (Q:=λ r=>r=Nda d) ?_ (by rintro r rfl; exact Tot.pure rfl)
 refine Tot.up (L:=λ k i s=>Gi k s i d) (Q:=λ r=>r=Nda d) d.1.length (λ j s=>hS d.1 (d.1.drop j) j s=Nda d∧s.length≤j) ?_ ?_ 0 [] (Nat.zero_le _) ⟨rfl,Nat.le_refl _⟩
 ·rintro s ⟨h,_⟩
  rw [List.drop_length] at h
  simp (disch:=omega) only [Gi,dF]
  exact Tot.pure h
 ·rintro j s hj ⟨h,hs⟩ next
  rw [Aq (d:=Eu) hj] at h
  have hlen:=S0a d.1 j s (d.1.getD j Eu)
  have nx:=next _ ⟨show hS d.1 (d.1.drop (j+1)) (j+1) (hS1 d.1 j s (d.1.getD j Eu))=Nda d from h,by omega⟩
  have hx:=A4 (d:=Eu) hj
  simp (disch:=omega) only [Gi,dT,Int.toNat_natCast,w64]
  have e0:d.1.getD j ((⟨#[]⟩:ByteArray),([]:List Int))=d.1.getD j Eu:=rfl
  rw [e0]
  unfold hS1 at nx
  refine Tot.bind (Pt _ (hb.1 _ hx) (hd.1.1.1.2 _ hx)) ?_
  rintro r rfl
  unfold S9
  cases hf:Nk (d.1.getD j Eu).2 with
  |none=>
   rw [hf] at nx
   exact Tot.yes rfl nx
  |some f=>
   rw [hf] at nx
   refine Tot.no rfl (Tot.bind (Dja s _ (by omega)) ?_)
   rintro r rfl
   cases hc:Aua s (d.1.getD j Eu).1 with
   |true=>
    rw [hc] at nx
    exact Tot.yes rfl nx
   |false=>
    rw [hc] at nx
    refine Tot.no rfl (Tot.bind (Y8 d.1 _ (by omega)) ?_)
    rintro r rfl
    cases he:Gqa d.1 (d.1.getD j Eu).1==(j:Int) with
    |false=>
     rw [he] at nx
     exact Tot.yes (by unfold bne; rw [he]; rfl) nx
    |true=>
     rw [he] at nx
     refine Tot.no (by unfold bne; rw [he]; rfl) (Tot.ble (by simp only [List.length_cons,List.length_nil]; omega) ?_)
     have hq:=Iua d.1 d.2 j hj (by omega) s.length (s++[(d.1.getD j Eu).1]) (by simp) (by simp only [List.length_append,List.length_cons,List.length_nil]; omega)
     refine Tot.bind hq ?_
     rintro r rfl
     obtain ⟨w1,w2,_⟩:=A2a s.length (s++[(d.1.getD j Eu).1]) (d.1.getD j Eu).1
     rw [List.length_append] at w1
     simp only [List.length_cons,List.length_nil] at w1
     simp (disch:=omega) only [dT,Int.toNat_natCast,w64]
     exact nx

def Deb (n:Nod):Nod×Int:=((n.1,(O3 n.2.1).1,n.2.2),(O3 n.2.1).2)
theorem Dka {n:Nod} (hn:NG n) {d:Dsk} (hd:DG d):NG (n.1,d,n.2.2):=by
 obtain ⟨h1,h2,h3,h4,h5⟩:=Di.1 hn.1
 exact ⟨Di.2 ⟨h1,h2,hd.1,h4,h5⟩,hd.2⟩
theorem Bwb {n:Nod} (hn:NG n):NG (Deb n).1:=Dka hn (Vea hn.g)

def Iva (v:BitVec 32) (b:Int):BitVec 32:=(v ^^^ BitVec.ofInt 32 b) * 16777619#32
def Nea (x:ByteArray):Nat→BitVec 32
 |0=>2166136261#32
 |n+1=>Iva (Nea x n) (bt x (n:Int))
def Zha (x:ByteArray):Nat:=(Nea x x.size).toNat
theorem Dob (v:BitVec 32):IntKind.wrap .i64 ((BitVec.ofInt (IntKind.bits .i64) ((v.toNat:Int) * 16777619) &&& BitVec.ofInt (IntKind.bits .i64) 4294967295).toNat)=((v * 16777619#32).toNat:Int):=by
 have h:=v.isLt
 rw [BitVec.toNat_and,show (v.toNat:Int) * 16777619=((v.toNat * 16777619:Nat):Int) by omega,Ql _ (by omega),show (BitVec.ofInt (IntKind.bits .i64) 4294967295).toNat=2 ^ 32 - 1 from by decide,Nat.and_two_pow_sub_one_eq_mod,BitVec.toNat_mul]
 show IntKind.wrap .i64 ((v.toNat * 16777619 % 4294967296:Nat):Int)=((v.toNat * 16777619 % 4294967296:Nat):Int)
 exact w64 (by omega) (by omega)
theorem Vja (x:ByteArray) (hx:x.size≤1000000000):Tot (λ k=>La k x) (λ r=>r=(Zha x:Int)):=by
 unfold La
 refine Tot.bind (Q:=λ r=>r=(Zha x:Int)) ?_ (by rintro r rfl; exact Tot.pure rfl)
 refine Tot.up (L:=λ k i (s:Int)=>Iy k x s i) (Q:=λ r=>r=(Zha x:Int)) x.size (λ j s=>s=((Nea x j).toNat:Int)) ?_ ?_ 0 _ (Nat.zero_le _) rfl
 ·rintro s rfl
  simp (disch:=omega) only [Iy,dF]
  exact Tot.pure rfl
 ·rintro j s hj rfl next
  have hb:=Fca x (j:Int)
  have hx:IntKind.wrap .i64 ((BitVec.ofInt (IntKind.bits .i64) ((Nea x j).toNat:Int) ^^^ BitVec.ofInt (IntKind.bits .i64) (bt x (j:Int))).toNat)=((Nea x j ^^^ BitVec.ofInt 32 (bt x (j:Int))).toNat:Int):=by
   have:=Cdb (Nea x j) (BitVec.ofInt 32 (bt x (j:Int)))
   rwa [← L8a hb] at this
  simp (disch:=omega) only [Iy,dT,w64,hx,Dob]
  exact next _ rfl
def Ws (r:Rng) (x:ByteArray):List Int:=r.2.getD (Zha x % r.2.length) []
theorem D2b (a b:Nat):Int.tmod (a:Int) (b:Int)=((a % b:Nat):Int):=by
 rw [Int.tmod_eq_emod_of_nonneg (by omega)]
 exact (Int.natCast_emod _ _).symm
theorem Wt (r:Rng) (x:ByteArray) (hr:RBd r) (hx:x.size≤1000000000):Tot (λ k=>B3 k r x) (λ y=>y=Ws r x):=by
 have hrl:=hr.1
 unfold B3
 by_cases h0:r.2.length=0
 ·refine Tot.yes (by rw [h0]; rfl) (Tot.pure ?_)
  unfold Ws
  rw [List.eq_nil_of_length_eq_zero h0]
  rfl
 ·have hm:=Nat.mod_lt (Zha x) (show 0<r.2.length by omega)
  refine Tot.no (by rw [beq_eq_false_iff_ne]; omega) (Tot.bind (Q:=λ y=>y=((Zha x % r.2.length:Nat):Int)) ?_ ?_)
  ·unfold Kg
   refine Tot.ndec (by omega) (Tot.bind (Vja x hx) ?_)
   rintro h rfl
   exact Tot.ndec (by omega) (Tot.pure (D2b _ _))
  ·rintro y rfl
   have hp:=hr.2 _ (A4 (d:=[]) hm)
   simp (disch:=omega) only [dT,Int.toNat_natCast]
   exact Tot.ble (by simp only [List.length_nil]; omega) (Tot.pure rfl)
theorem Vka {r:Rng} {l:List Dev} (h:Ir r l=true) (x:ByteArray):Ws r x∈r.2:=by
 obtain ⟨_,_,h3,_⟩:=Dj.1 h
 exact A4 (d:=[]) (Nat.mod_lt _ (by omega))
theorem Dla {r:Rng} {l:List Dev} (h:Ir r l=true) (x:ByteArray):(Ws r x).Nodup∧((Ws r x).length:Int)=r.1∧∀ id∈Ws r x,∃ d,Jo l id=some d:=(Dj.1 h).2.2.2 _ (Vka h x)
def hoA (p zs:List Int) (z:Bool) (l:List Dev):List Int:=(l.filter λ d => !(Ny p d.1)&&(Ny zs d.2.1==z)).map (·.1)
def Rg (r:Rng) (l:List Dev) (x:ByteArray):List Int:=hoA (Ws r x) (Jz (Ws r x) l) false l++hoA (Ws r x) (Jz (Ws r x) l) true l
theorem Dma (p zs:List Int) (z:Bool) (l:List Dev):(hoA p zs z l).length≤l.length:=by
 unfold hoA
 rw [List.length_map]
 exact List.length_filter_le _ _
theorem Vla (p zs:List Int) (z:Bool) (d:Dev) (l:List Dev):hoA p zs z (d::l)=bif !(Ny p d.1)&&(Ny zs d.2.1==z) then d.1::hoA p zs z l else hoA p zs z l:=by
 unfold hoA
 rw [List.filter_cons]
 cases !(Ny p d.1)&&(Ny zs d.2.1==z)<;>rfl
theorem A3a (p zs:List Int) (l:List Dev) (hp:p.length≤2000000) (hz:zs.length≤2000000) (hl:l.length≤2000000) (out:List Int) (ho:out.length≤5000000) (t:Int):Tot (λ k=>Bx k l p zs out t 0) (λ y=>y=(l,p,zs,out++hoA p zs (t==1) l,t)):=by
 have m1:=Dma p zs (t==1) l
 refine Tot.up (L:=λ k i (s:List Int)=>Bx k l p zs s t i) (Q:=λ y=>y=(l,p,zs,out++hoA p zs (t==1) l,t)) l.length (λ j s=>s++hoA p zs (t==1) (l.drop j)=out++hoA p zs (t==1) l) ?_ ?_ 0 out (Nat.zero_le _) rfl
 ·rintro s e1
  rw [List.drop_length] at e1
  simp (disch:=omega) only [Bx,dF]
  refine Tot.pure ?_
  rw [← e1]
  show _=(l,p,zs,s++[],t)
  rw [List.append_nil]
 ·rintro j s hj e1 next
  have g1:=congrArg List.length e1
  rw [List.length_append,List.length_append] at g1
  rw [Aq (d:=My) hj,Vla] at e1
  obtain ⟨d,ed⟩:∃ d:Dev,l.getD j My=d:=⟨_,rfl⟩
  rw [ed] at e1
  have e0:l.getD j ((0:Int),((0:Int),(0:Int)))=d:=ed
  simp (disch:=omega) only [Bx,dT,Int.toNat_natCast,w64,e0]
  refine Tot.bind (Sc p d.1 (by omega)) ?_
  rintro b rfl
  cases hp':Ny p d.1 with
  |true=>
   rw [hp'] at e1
   exact Tot.no rfl (next s e1)
  |false=>
   rw [hp'] at e1
   refine Tot.yes rfl (Tot.bind (Sc zs d.2.1 (by omega)) ?_)
   rintro b rfl
   cases hz':Ny zs d.2.1==(t==1) with
   |true=>
    rw [hz'] at e1
    exact Tot.yes rfl (Tot.ble (by simp only [List.length_cons,List.length_nil]; omega) (next (s++[d.1]) (by rw [← e1]; simp)))
   |false=>
    rw [hz'] at e1
    exact Tot.no rfl (next s e1)
theorem Vma (r:Rng) (l:List Dev) (x:ByteArray) (h:Ir r l=true) (hx:x.size≤1000000000):Tot (λ k=>C5 k r l x) (λ y=>y=Rg r l x):=by
 obtain ⟨h1,h2,_,_⟩:=Dj.1 h
 obtain ⟨_,p2,_⟩:=Dla h x
 obtain ⟨_,_,_,h12⟩:=Hs.1 h1
 have hz:=Z9 (Ws r x) l
 unfold C5 Rg
 refine Tot.bind (Wt r x (Nz h) hx) ?_
 rintro p rfl
 generalize Ws r x=p at *
 refine Tot.bind (G3a p l (by omega) (by omega)) ?_
 rintro zs rfl
 generalize Jz p l=zs at *
 have m1:=Dma p zs false l
 refine Tot.bind (Q:=λ y=>y=hoA p zs false l++hoA p zs true l) ?_ (by rintro y rfl; exact Tot.pure rfl)
 refine Tot.succ ?_
 simp (disch:=omega) only [Dv,dT]
 refine Tot.bind (A3a p zs l (by omega) (by omega) (by omega) [] (by simp) 0) ?_
 rintro y rfl
 refine Tot.succ ?_
 simp (disch:=omega) only [Dv,dT,w64,List.nil_append]
 refine Tot.bind (A3a p zs l (by omega) (by omega) (by omega) (hoA p zs false l) (by omega) 1) ?_
 rintro y rfl
 refine Tot.succ ?_
 simp (disch:=omega) only [Dv,dF,w64]
 exact Tot.pure rfl

section
variable {R:Type} {L:Nat→Int→Option (Sum Bool R)}
theorem Rr (p:Nat→Bool) (n:Nat):(List.range (n+1)).all p=((List.range n).all p&&p n):=by
 rw [List.range_succ,List.all_append,List.all_cons,List.all_nil,Bool.and_true]
theorem Ava (p:Nat→Bool) (n:Nat):(List.range (n+1)).any p=((List.range n).any p || p n):=by
 rw [List.range_succ,List.any_append,List.any_cons,List.any_nil,Bool.or_false]
theorem Awa {p:Nat→Bool} {m n:Nat} (h:m≤n) (hn:(List.range n).all p=true):(List.range m).all p=true:=by
 rw [List.all_eq_true] at hn ⊢
 exact λ x hx=>hn x (List.mem_range.2 (by have:=List.mem_range.1 hx; omega))
theorem Tot.allI (n:Nat) (p:Nat→Bool) (e:R) (hend:Tot (λ k=>L (k+1) (n:Int)) (λ r=>r = .inr e))
  (Iva:∀ j,j<n→∀ (Q:Sum Bool R→Prop),(p j=false→Q (.inl false))→(p j=true→Tot (λ k=>L k ((j:Int)+1)) Q)→Tot (λ k=>L (k+1) (j:Int)) Q):
  Tot (λ k=>L k 0) (λ r=>r=bif (List.range n).all p then .inr e else .inl false):=by
 refine Tot.up (L:=λ k i (_:Unit)=>L k i) (Q:=λ r=>r=bif (List.range n).all p then .inr e else .inl false) n (λ j _=>(List.range j).all p=true) ?_ ?_ 0 () (Nat.zero_le _) rfl
 ·intro _ h
  rw [h]
  exact hend
 ·intro j _ hj h next
  refine Iva j hj _ (λ hp=>?_) (λ hp=>next () (by rw [Rr,h,hp]; rfl))
  cases hc:(List.range n).all p with
  |false=>rfl
  |true=>
   have:=Awa (show j+1≤n by omega) hc
   rw [Rr,hp,Bool.and_false] at this
   cases this
theorem Tot.anyI (n:Nat) (p:Nat→Bool) (e:R) (hend:Tot (λ k=>L (k+1) (n:Int)) (λ r=>r = .inr e))
  (Iva:∀ j,j<n→∀ (Q:Sum Bool R→Prop),(p j=true→Q (.inl true))→(p j=false→Tot (λ k=>L k ((j:Int)+1)) Q)→Tot (λ k=>L (k+1) (j:Int)) Q):
  Tot (λ k=>L k 0) (λ r=>r=bif (List.range n).any p then .inl true else .inr e):=by
 refine Tot.up (L:=λ k i (_:Unit)=>L k i) (Q:=λ r=>r=bif (List.range n).any p then .inl true else .inr e) n (λ j _=>(List.range j).any p=false) ?_ ?_ 0 () (Nat.zero_le _) rfl
 ·intro _ h
  rw [h]
  exact hend
 ·intro j _ hj h next
  refine Iva j hj _ (λ hp=>?_) (λ hp=>next () (by rw [Ava,h,hp]; rfl))
  rw [List.any_eq_true.2 ⟨j,List.mem_range.2 hj,hp⟩]
  rfl
end
theorem N7 {α:Type} (l:List α) (d:α) (p:α→Bool):l.all p=(List.range l.length).all λ j=>p (l.getD j d):=by
 rw [Bool.eq_iff_iff,List.all_eq_true,List.all_eq_true]
 constructor
 ·intro h j hj
  exact h _ (A4 (List.mem_range.1 hj))
 ·intro h x hx
  obtain ⟨j,hj,rfl⟩:=List.mem_iff_getElem.1 hx
  have:=h j (List.mem_range.2 hj)
  rwa [List.getD_eq_getElem?_getD,List.getElem?_eq_getElem hj,Option.getD_some] at this
theorem Qt {α:Type} (l:List α) (d:α) (p:α→Bool):l.any p=(List.range l.length).any λ j=>p (l.getD j d):=by
 rw [Bool.eq_iff_iff,List.any_eq_true,List.any_eq_true]
 constructor
 ·rintro ⟨x,hx,h⟩
  obtain ⟨j,hj,rfl⟩:=List.mem_iff_getElem.1 hx
  exact ⟨j,List.mem_range.2 hj,by rwa [List.getD_eq_getElem?_getD,List.getElem?_eq_getElem hj,Option.getD_some]⟩
 ·rintro ⟨j,hj,h⟩
  exact ⟨_,A4 (List.mem_range.1 hj),h⟩
abbrev Wri:=ByteArray×Fil×Bool
abbrev Wld:=List Dev×Rng×List Nod×Stp×List Wri×List ByteArray
def Sf:Wri:=((⟨#[]⟩:ByteArray),((((0:Int),((0:Int),(0:Int))),(false,[])),false))
def A4a (l:List ByteArray):Bool:=(List.range l.length).all λ j=>Br (l.getD j Oi)&&(decide (j=0) || tlt (l.getD (j - 1) Oi) (l.getD j Oi))
def Iwa (c:Stp) (w:Wri):Bool:=Br w.1&&(G6 w.2.1 && !(sle c w.2.1.1))
def A5b (c:Stp) (l:List Wri):Bool:=l.all (Iwa c)&&decide ((l.length:Int)≤200)
def Us (l:List Dev) (ns:List Nod):Bool:=((ns.length:Int)==(l.length:Int))&&(List.range ns.length).all λ j=>((ns.getD j Cr).1==(l.getD j My).1)&&Mn (ns.getD j Cr)
def Ixa (w:Wld):Bool:=Ir w.2.1 w.1&&(Us w.1 w.2.2.1&&(G3 w.2.2.2.1&&(A5b w.2.2.2.1 w.2.2.2.2.1&&A4a w.2.2.2.2.2)))
def WIn (w:Wld):Prop:=RBd w.2.1∧w.1.length≤2000000∧(w.2.2.1.length≤2000000∧∀ n∈w.2.2.1,NIn n)∧(w.2.2.2.2.1.length≤2000000∧∀ x∈w.2.2.2.2.1,Kj x.1)∧(w.2.2.2.2.2.length≤2000000∧∀ s∈w.2.2.2.2.2,Kj s)
theorem Vna (w:Wld) (hw:WIn w):Tot (λ k=>Cw k w) (λ r=>r=A5b w.2.2.2.1 w.2.2.2.2.1):=by
 obtain ⟨_,_,_,⟨h1,h2⟩,_⟩:=hw
 unfold Cw A5b
 refine Tot.bind (Q:=λ r=>r=bif w.2.2.2.2.1.all (Iwa w.2.2.2.1) then .inr w else .inl false) ?_ (by
  rintro r rfl
  cases w.2.2.2.2.1.all (Iwa w.2.2.2.1)<;>exact Tot.pure rfl)
 rw [N7 _ Sf]
 refine Tot.allI (L:=λ k i=>E4 k w.2.2.2.2.1 (w.2.2.2.2.1.length:Int) i w) _ _ w ?_ ?_
 ·simp (disch:=omega) only [E4,dF]
  exact Tot.pure rfl
 ·intro j hj Q no yes
  have hs:=h2 _ (A4 (d:=Sf) hj)
  obtain ⟨x,ex⟩:∃ x:Wri,w.2.2.2.2.1.getD j Sf=x:=⟨_,rfl⟩
  rw [ex] at hs
  simp only [ex] at no yes
  have e0:w.2.2.2.2.1.getD j ((⟨#[]⟩:ByteArray),((((0:Int),((0:Int),(0:Int))),(false,[])),false))=x:=ex
  simp (disch:=omega) only [E4,dT,Int.toNat_natCast,w64,e0,L9a,D6a,Option.bind_some]
  unfold Iwa at no yes
  refine Tot.bind (W3 x.1 hs) ?_
  rintro b rfl
  refine Tot.ite (λ hc=>Tot.pure (no ?_)) (λ h3=>Tot.ite (λ hc=>Tot.pure (no ?_)) (λ h4=>Tot.ite (λ hc=>Tot.pure (no ?_)) (λ h5=>yes ?_)))
  ·rw [Bool.not_eq_true'] at hc; rw [hc]; rfl
  ·rw [Bool.not_eq_true'] at hc; rw [hc,Bool.false_and,Bool.and_false]
  ·rw [hc,Bool.not_true,Bool.and_false,Bool.and_false]
  ·rw [Bool.not_eq_false'] at h3 h4; rw [h3,h4,h5]; rfl
theorem Gaa (w:Wld) (hw:WIn w):Tot (λ k=>Ce k w.2.2.2.2.2 (w.2.2.2.2.2.length:Int) 0 w) (λ r=>r=bif A4a w.2.2.2.2.2 then .inr () else .inl false):=by
 obtain ⟨_,_,_,_,h1,h2⟩:=hw
 unfold A4a
 refine Tot.allI (L:=λ k i=>Ce k w.2.2.2.2.2 (w.2.2.2.2.2.length:Int) i w) _ _ () ?_ ?_
 ·simp (disch:=omega) only [Ce,dF]
  exact Tot.pure rfl
 ·intro j hj Q no yes
  have hs:=h2 _ (A4 (d:=Oi) hj)
  have e0:∀ i,w.2.2.2.2.2.getD i (⟨#[]⟩:ByteArray)=w.2.2.2.2.2.getD i Oi:=λ _=>rfl
  simp (disch:=omega) only [Ce,dT,Int.toNat_natCast,w64,e0]
  refine Tot.bind (W3 _ hs) ?_
  rintro b rfl
  refine Tot.ite (λ hc=>Tot.pure (no ?_)) (λ h3=>Tot.dite (λ h0=>?_) (λ h0=>yes ?_))
  ·rw [Bool.not_eq_true'] at hc; rw [hc]; rfl
  ·simp (disch:=omega) only [dT,w64,show Int.toNat ((j:Int) - 1)=j - 1 by omega]
   rw [Bool.not_eq_false'] at h3
   rw [h3,decide_eq_false (show ¬ j=0 by omega),Bool.false_or,Bool.true_and] at no yes
   refine Tot.ite (λ hc=>Tot.pure (no ?_)) (λ h4=>yes ?_)
   ·rw [Bool.not_eq_true'] at hc; exact hc
   ·rw [Bool.not_eq_false'] at h4; exact h4
  ·rw [Bool.not_eq_false'] at h3
   rw [h3,decide_eq_true (show j=0 by omega)]
   rfl
theorem Gba (w:Wld) (hw:WIn w):Tot (λ k=>Ch k 0 w) (λ r=>r=bif A4a w.2.2.2.2.2 then .inr () else .inl false):=by
 obtain ⟨_,_,_,_,h1,h2⟩:=hw
 unfold A4a
 refine Tot.allI (L:=λ k i=>Ch k i w) _ _ () ?_ ?_
 ·simp (disch:=omega) only [Ch,dF]
  exact Tot.pure rfl
 ·intro j hj Q no yes
  have hs:=h2 _ (A4 (d:=Oi) hj)
  have e0:∀ i,w.2.2.2.2.2.getD i (⟨#[]⟩:ByteArray)=w.2.2.2.2.2.getD i Oi:=λ _=>rfl
  simp (disch:=omega) only [Ch,dT,Int.toNat_natCast,w64,e0]
  refine Tot.bind (Ob _ hs) ?_
  rintro b rfl
  refine Tot.ite (λ hc=>Tot.pure (no ?_)) (λ h3=>Tot.dite (λ h0=>?_) (λ h0=>yes ?_))
  ·rw [Bool.not_eq_true'] at hc; rw [hc]; rfl
  ·simp (disch:=omega) only [dT,w64,show Int.toNat ((j:Int) - 1)=j - 1 by omega]
   rw [Bool.not_eq_false'] at h3
   rw [h3,decide_eq_false (show ¬ j=0 by omega),Bool.false_or,Bool.true_and] at no yes
   refine Tot.ite (λ hc=>Tot.pure (no ?_)) (λ h4=>yes ?_)
   ·rw [Bool.not_eq_true'] at hc; exact hc
   ·rw [Bool.not_eq_false'] at h4; exact h4
  ·rw [Bool.not_eq_false'] at h3
   rw [h3,decide_eq_true (show j=0 by omega)]
   rfl
theorem Iya (w:Wld) (hw:WIn w) (hl:w.2.2.1.length=w.1.length):Tot (λ k=>E6 k w.2.2.1 (w.2.2.1.length:Int) 0 w) (λ r=>r=bif Us w.1 w.2.2.1 then .inr w else .inl false):=by
 obtain ⟨_,_,⟨h1,h2⟩,_⟩:=hw
 unfold Us
 rw [show ((w.2.2.1.length:Int)==(w.1.length:Int))=true by rw [beq_iff_eq]; omega,Bool.true_and]
 refine Tot.allI (L:=λ k i=>E6 k w.2.2.1 (w.2.2.1.length:Int) i w) _ _ w ?_ ?_
 ·simp (disch:=omega) only [E6,dF]
  exact Tot.pure rfl
 ·intro j hj Q no yes
  have hs:=h2 _ (A4 (d:=Cr) hj)
  obtain ⟨x,ex⟩:∃ x:Nod,w.2.2.1.getD j Cr=x:=⟨_,rfl⟩
  rw [ex] at hs no yes
  have e0:w.2.2.1.getD j ((0:Int),(([],[]),([],[])))=x:=ex
  have e1:w.1.getD j ((0:Int),((0:Int),(0:Int)))=w.1.getD j My:=rfl
  simp (disch:=omega) only [E6,dT,Int.toNat_natCast,w64,e0,e1]
  refine Tot.ite (λ hc=>Tot.pure (no ?_)) (λ h3=>Tot.bind (Uya x hs) ?_)
  ·rw [bne,Bool.not_eq_true'] at hc; rw [hc]; rfl
  ·rw [bne,Bool.not_eq_false'] at h3
   rw [h3,Bool.true_and] at no yes
   rintro b rfl
   refine Tot.ite (λ hc=>Tot.pure (no ?_)) (λ h4=>yes ?_)
   ·rw [Bool.not_eq_true'] at hc; exact hc
   ·rw [Bool.not_eq_false'] at h4; exact h4
theorem Voa (w:Wld) (hw:WIn w):Tot (λ k=>Cy k w) (λ r=>r=Us w.1 w.2.2.1):=by
 obtain ⟨_,_,⟨h1,h2⟩,_⟩:=hw
 unfold Us Cy
 refine Tot.ite (λ hc=>Tot.pure ?_) (λ hl=>?_)
 ·rw [bne,Bool.not_eq_true'] at hc
  rw [hc]; rfl
 ·rw [bne,Bool.not_eq_false'] at hl
  rw [hl,Bool.true_and]
  rw [beq_iff_eq] at hl
  refine Tot.bind (Q:=λ r=>r=bif (List.range w.2.2.1.length).all (λ j=>((w.2.2.1.getD j Cr).1==(w.1.getD j My).1)&&Mn (w.2.2.1.getD j Cr)) then .inr () else .inl false) ?_ (by
   rintro r rfl
   cases (List.range w.2.2.1.length).all (λ j=>((w.2.2.1.getD j Cr).1==(w.1.getD j My).1)&&Mn (w.2.2.1.getD j Cr))<;>exact Tot.pure rfl)
  refine Tot.allI (L:=λ k i=>E9 k i w) _ _ () ?_ ?_
  ·simp (disch:=omega) only [E9,dF]
   exact Tot.pure rfl
  ·intro j hj Q no yes
   have hs:=h2 _ (A4 (d:=Cr) hj)
   obtain ⟨x,ex⟩:∃ x:Nod,w.2.2.1.getD j Cr=x:=⟨_,rfl⟩
   rw [ex] at hs no yes
   have e0:w.2.2.1.getD j ((0:Int),(([],[]),([],[])))=x:=ex
   have e1:w.1.getD j ((0:Int),((0:Int),(0:Int)))=w.1.getD j My:=rfl
   simp (disch:=omega) only [E9,dT,Int.toNat_natCast,w64,e0,e1]
   refine Tot.ite (λ hc=>Tot.pure (no ?_)) (λ h3=>Tot.bind (W7 x hs) ?_)
   ·rw [bne,Bool.not_eq_true'] at hc; rw [hc]; rfl
   ·rw [bne,Bool.not_eq_false'] at h3
    rw [h3,Bool.true_and] at no yes
    rintro b rfl
    refine Tot.ite (λ hc=>Tot.pure (no ?_)) (λ h4=>yes ?_)
    ·rw [Bool.not_eq_true'] at hc; exact hc
    ·rw [Bool.not_eq_false'] at h4; exact h4
theorem Gca (w:Wld) (hw:WIn w):Tot (λ k=>Bu k w) (λ r=>r=Ixa w):=by
 unfold Bu Ixa
 refine Tot.bind (V4a w.2.1 w.1 hw.1 (by have:=hw.2.1; omega)) ?_
 rintro b rfl
 cases hr:Ir w.2.1 w.1 with
 |false=>exact Tot.yes rfl (Tot.pure rfl)
 |true=>
  refine Tot.no rfl ?_
  rw [Bool.true_and]
  by_cases hl:w.2.2.1.length=w.1.length
  ·refine Tot.no (by rw [bne,hl,beq_self_eq_true]; rfl) ?_
   simp only [Y1,Option.bind_some]
   cases hs:G3 w.2.2.2.1 with
   |false=>exact Tot.yes rfl (Tot.pure (by rw [Bool.false_and,Bool.and_false]))
   |true=>
    refine Tot.no rfl (Tot.bind (Vna w hw) ?_)
    rintro b rfl
    cases hws:A5b w.2.2.2.1 w.2.2.2.2.1 with
    |false=>exact Tot.yes rfl (Tot.pure (by rw [Bool.false_and,Bool.and_false,Bool.and_false]))
    |true=>
     refine Tot.no rfl (Tot.bind (Iya w hw hl) ?_)
     rintro b rfl
     cases Us w.1 w.2.2.1 with
     |false=>exact Tot.pure rfl
     |true=>
      refine Tot.bind (Gaa w hw) ?_
      rintro b rfl
      cases A4a w.2.2.2.2.2<;>exact Tot.pure rfl
  ·have hn:((w.2.2.1.length:Int)==(w.1.length:Int))=false:=by rw [beq_eq_false_iff_ne]; omega
   refine Tot.yes (by rw [bne,hn]; rfl) (Tot.pure ?_)
   unfold Us
   rw [hn]
   rfl
theorem S1a (w:Wld) (hw:WIn w):Tot (λ k=>Ct k w) (λ r=>r=Ixa w):=by
 have hw':=hw
 obtain ⟨_,_,_,⟨h1,h2⟩,_⟩:=hw'
 unfold Ct Ixa
 refine Tot.bind (V5a w.2.1 w.1 hw.1 (by have:=hw.2.1; omega)) ?_
 rintro b rfl
 cases hr:Ir w.2.1 w.1 with
 |false=>exact Tot.yes rfl (Tot.pure rfl)
 |true=>
  refine Tot.no rfl (Tot.bind (Voa w hw) ?_)
  rintro b rfl
  rw [Bool.true_and]
  cases hn:Us w.1 w.2.2.1 with
  |false=>exact Tot.yes rfl (Tot.pure rfl)
  |true=>
   refine Tot.no rfl ?_
   simp only [Qk,Option.bind_some]
   cases hs:G3 w.2.2.2.1 with
   |false=>exact Tot.yes rfl (Tot.pure rfl)
   |true=>
    refine Tot.no rfl ?_
    by_cases hl:(w.2.2.2.2.1.length:Int) > 200
    ·refine Tot.dec hl (Tot.pure ?_)
     unfold A5b
     rw [decide_eq_false (show ¬ (w.2.2.2.2.1.length:Int)≤200 by omega),Bool.and_false]
     rfl
    ·refine Tot.ndec hl (Tot.bind (Q:=λ r=>r=bif w.2.2.2.2.1.all (Iwa w.2.2.2.1) then .inr w else .inl false) ?_ ?_)
     ·rw [N7 _ Sf]
      refine Tot.allI (L:=λ k i=>Fn k i w) _ _ w ?_ ?_
      ·simp (disch:=omega) only [Fn,dF]
       exact Tot.pure rfl
      ·intro j hj Q no yes
       have hs:=h2 _ (A4 (d:=Sf) hj)
       obtain ⟨x,ex⟩:∃ x:Wri,w.2.2.2.2.1.getD j Sf=x:=⟨_,rfl⟩
       rw [ex] at hs
       simp only [ex] at no yes
       have e0:w.2.2.2.2.1.getD j ((⟨#[]⟩:ByteArray),((((0:Int),((0:Int),(0:Int))),(false,[])),false))=x:=ex
       simp (disch:=omega) only [Fn,dT,Int.toNat_natCast,w64,e0,Tb,W2,Option.bind_some]
       unfold Iwa at no yes
       refine Tot.bind (Ob x.1 hs) ?_
       rintro b rfl
       refine Tot.ite (λ hc=>Tot.pure (no ?_)) (λ h3=>Tot.ite (λ hc=>Tot.pure (no ?_)) (λ h4=>Tot.ite (λ hc=>Tot.pure (no ?_)) (λ h5=>yes ?_)))
       ·rw [Bool.not_eq_true'] at hc; rw [hc]; rfl
       ·rw [Bool.not_eq_true'] at hc; rw [hc,Bool.false_and,Bool.and_false]
       ·rw [hc,Bool.not_true,Bool.and_false,Bool.and_false]
       ·rw [Bool.not_eq_false'] at h3 h4; rw [h3,h4,h5]; rfl
     ·rintro b rfl
      unfold A5b
      rw [decide_eq_true (show (w.2.2.2.2.1.length:Int)≤200 by omega),Bool.and_true]
      cases w.2.2.2.2.1.all (Iwa w.2.2.2.1) with
      |false=>exact Tot.pure rfl
      |true=>
       refine Tot.bind (Gba w hw) ?_
       rintro b rfl
       cases A4a w.2.2.2.2.2<;>exact Tot.pure rfl

def atN:List Nod→Int→Nat→List Int
 |[],_,_=>[]
 |n::ns,id,i=>bif n.1==id then (i:Int)::atN ns id (i+1) else atN ns id (i+1)
theorem Lra (n:Nod) (ns:List Nod) (id:Int) (i:Nat):atN (n::ns) id i=bif n.1==id then (i:Int)::atN ns id (i+1) else atN ns id (i+1):=rfl
def whr (ns:List Nod) (ids:List Int):List Int:=ids.flatMap λ id=>atN ns id 0
theorem Iza (id:Int):∀ (ns:List Nod) (i:Nat),(atN ns id i).length≤ns.length
 |[],_=>Nat.le_refl _
 |n::ns,i=>by
  unfold atN
  have:=Iza id ns (i+1)
  cases n.1==id
  ·rw [cond_false,List.length_cons]; omega
  ·rw [cond_true,List.length_cons,List.length_cons]; omega
theorem S2a (ns:List Nod):∀ (ids:List Int),(whr ns ids).length≤ids.length * ns.length
 |[]=>Nat.zero_le _
 |id::ids=>by
  have h1:=Iza id ns 0
  have h2:=S2a ns ids
  unfold whr at h2 ⊢
  rw [List.flatMap_cons,List.length_append,List.length_cons,Nat.succ_mul]
  omega
theorem Rh {ns:List Nod} {ids:List Int} (h1:ns.length≤2000000) (h2:ids.length≤2000000):(whr ns ids).length≤4000000000000:=
 Nat.le_trans (S2a ns ids) (Nat.mul_le_mul h2 h1)
theorem Vpa (ns:List Nod) (id:Int) (ids:List Int):whr ns (id::ids)=atN ns id 0++whr ns ids:=List.flatMap_cons
theorem Zia (ns:List Nod) (a b:List Int):whr ns (a++b)=whr ns a++whr ns b:=List.flatMap_append
theorem Dna (w:Wld) (ids:List Int) (n:Nat) (hn:n<ids.length) (out:List Int) (h1:w.2.2.1.length≤2000000) (ho:out.length≤4000000000000):
  Tot (λ k=>Bw k ids out (n:Int) 0 w) (λ r=>r=(ids,out++atN w.2.2.1 (ids.getD n 0) 0,(n:Int),w)):=by
 have m1:=Iza (ids.getD n 0) w.2.2.1 0
 refine Tot.up (L:=λ k i (s:List Int)=>Bw k ids s (n:Int) i w) (Q:=λ r=>r=(ids,out++atN w.2.2.1 (ids.getD n 0) 0,(n:Int),w)) w.2.2.1.length (λ j s=>s++atN (w.2.2.1.drop j) (ids.getD n 0) j=out++atN w.2.2.1 (ids.getD n 0) 0) ?_ ?_ 0 out (Nat.zero_le _) rfl
 ·intro s h
  rw [List.drop_length] at h
  simp (disch:=omega) only [Bw,dF]
  refine Tot.pure ?_
  rw [← h]
  show _=(ids,s++[],(n:Int),w)
  rw [List.append_nil]
 ·intro j s hj h next
  have g:=congrArg List.length h
  rw [List.length_append,List.length_append] at g
  rw [Aq (d:=Cr) hj,Lra] at h
  obtain ⟨x,ex⟩:∃ x:Nod,w.2.2.1.getD j Cr=x:=⟨_,rfl⟩
  rw [ex] at h
  have e0:w.2.2.1.getD j ((0:Int),(([],[]),([],[])))=x:=ex
  simp (disch:=omega) only [Bw,dT,Int.toNat_natCast,w64,e0]
  cases hx:x.1==ids.getD n 0 with
  |true=>
   rw [hx,cond_true] at h
   refine Tot.yes rfl (Tot.ble (by simp only [List.length_cons,List.length_nil]; omega) (next (s++[(j:Int)]) ?_))
   rw [← h,List.append_assoc]
   rfl
  |false=>
   rw [hx,cond_false] at h
   refine Tot.no rfl (next s h)
theorem Ri (w:Wld) (ids:List Int) (h1:w.2.2.1.length≤2000000) (h2:ids.length≤2000000):Tot (λ k=>B2 k w ids) (λ r=>r=whr w.2.2.1 ids):=by
 have m1:=Rh h1 h2
 unfold B2
 refine Tot.bind (Q:=λ r=>r=whr w.2.2.1 ids) ?_ (by rintro r rfl; exact Tot.pure rfl)
 refine Tot.up (L:=λ k i (s:List Int)=>D8 k ids s i w) (Q:=λ r=>r=whr w.2.2.1 ids) ids.length (λ j s=>s++whr w.2.2.1 (ids.drop j)=whr w.2.2.1 ids) ?_ ?_ 0 [] (Nat.zero_le _) rfl
 ·intro s h
  rw [List.drop_length] at h
  simp (disch:=omega) only [D8,dF]
  refine Tot.pure ?_
  rw [← h]
  exact (List.append_nil s).symm
 ·intro j s hj h next
  have g:=congrArg List.length h
  rw [List.length_append] at g
  rw [Aq (d:=0) hj,Vpa] at h
  simp (disch:=omega) only [D8,dT,Int.toNat_natCast,w64]
  refine Tot.bind (Dna w ids j hj s h1 (by omega)) ?_
  rintro r rfl
  simp (disch:=omega) only [w64]
  exact next _ (by rw [List.append_assoc]; exact h)
theorem J0a (id:Int):∀ (ns:List Nod) (i:Nat) (x:Int),x∈atN ns id i↔∃ j,j<ns.length∧(ns.getD j Cr).1=id∧x=((i+j:Nat):Int)
 |[],i,x=>by simp [atN]
 |n::ns,i,x=>by
  have ih:=J0a id ns (i+1) x
  have tl:(∃ j,j<(n::ns).length∧((n::ns).getD j Cr).1=id∧x=((i+j:Nat):Int))↔(n.1=id∧x=(i:Int))∨x∈atN ns id (i+1):=by
   rw [ih]
   constructor
   ·rintro ⟨j,h1,h2,h3⟩
    cases j with
    |zero=>exact .inl ⟨h2,by omega⟩
    |succ j=>exact .inr ⟨j,by simpa using h1,by simpa using h2,by omega⟩
   ·rintro (⟨h1,h2⟩|⟨j,h1,h2,h3⟩)
    ·exact ⟨0,by simp,h1,by omega⟩
    ·exact ⟨j+1,by simpa using h1,by simpa using h2,by omega⟩
  rw [tl,Lra]
  cases hx:n.1==id with
  |true=>
   rw [cond_true,List.mem_cons,eq_of_beq hx]
   simp
  |false=>
   rw [cond_false]
   have:=beq_eq_false_iff_ne.1 hx
   simp [this]
theorem Doa {ns:List Nod} {ids:List Int} {x:Int}:x∈whr ns ids↔∃ j,j<ns.length∧(ns.getD j Cr).1∈ids∧x=(j:Int):=by
 unfold whr
 rw [List.mem_flatMap]
 constructor
 ·rintro ⟨id,h1,h2⟩
  obtain ⟨j,h3,h4,h5⟩:=(J0a _ _ _ _).1 h2
  exact ⟨j,h3,h4 ▸ h1,by omega⟩
 ·rintro ⟨j,h3,h4,h5⟩
  exact ⟨_,h4,(J0a _ _ _ _).2 ⟨j,h3,rfl,by omega⟩⟩
def K5 (w:Wld) (x:ByteArray):List Int:=whr w.2.2.1 (Ws w.2.1 x++Rg w.2.1 w.1 x)
def Dfb:ByteArray:=⟨#[108,105,115,116]⟩
def Lj (w:Wld):List Int:=whr w.2.2.1 (Ws w.2.1 Dfb)
theorem Wu {r:Rng} (hr:RBd r) (x:ByteArray):(Ws r x).length≤2000000:=by
 unfold Ws
 by_cases hm:Zha x % r.2.length<r.2.length
 ·exact hr.2 _ (A4 (d:=[]) hm)
 ·rw [List.getD_eq_getElem?_getD,List.getElem?_eq_none (by omega)]; exact Nat.zero_le _
theorem Ut (r:Rng) (l:List Dev) (x:ByteArray):(Rg r l x).length≤l.length+l.length:=by
 unfold Rg
 rw [List.length_append]
 have h1:=Dma (Ws r x) (Jz (Ws r x) l) false l
 have h2:=Dma (Ws r x) (Jz (Ws r x) l) true l
 omega
theorem Gda (w:Wld) (x:ByteArray) (h:Ir w.2.1 w.1=true) (hn:w.2.2.1.length≤2000000) (hx:x.size≤1000000000):Tot (λ k=>Dw k w x) (λ r=>r=K5 w x):=by
 have h5:=(Dj.1 h).2.1
 have p2:=(Dla h x).2.1
 have h12:=(Hs.1 (Dj.1 h).1).2.2.2
 have hh:=Ut w.2.1 w.1 x
 unfold Dw K5
 rw [Zia]
 refine Tot.bind (Wt _ x (Nz h) hx) ?_
 rintro p rfl
 refine Tot.bind (Ri w _ hn (by omega)) ?_
 rintro a rfl
 refine Tot.bind (Vma _ _ x h hx) ?_
 rintro q rfl
 refine Tot.bind (Ri w _ hn (by omega)) ?_
 rintro b rfl
 have l1:=Rh hn (show (Ws w.2.1 x).length≤2000000 by omega)
 have l2:=Rh hn (show (Rg w.2.1 w.1 x).length≤2000000 by omega)
 exact Tot.ble (by omega) (Tot.pure rfl)
theorem A5a (w:Wld) (hr:RBd w.2.1) (hn:w.2.2.1.length≤2000000):Tot (λ k=>Gg k w) (λ r=>r=Lj w):=by
 unfold Gg
 refine Tot.bind (Wt _ Dfb hr (by decide)) ?_
 rintro p rfl
 refine Tot.bind (Ri w _ hn (Wu hr _)) ?_
 rintro r rfl
 exact Tot.pure rfl
def quo (n:Int):Int:=n / 2+1
theorem D3b {n:Int} (h0:0≤n):Int.tdiv n 2=n / 2:=Int.tdiv_eq_ediv_of_nonneg h0
theorem Zja {n:Int} (h0:0≤n) (h1:n≤1000000000):Jr n=some (quo n):=by
 unfold Jr quo
 rw [D3b h0,w64 (n:=n / 2) (by omega) (by omega),w64 (n:=n / 2+1) (by omega) (by omega)]
def rch (l:List Int) (i:Nat):Int:=bif decide (i<l.length)&&inR (l.getD i 0) 1 3 then l.getD i 0 else 0
theorem J1a (l:List Int) (i:Nat):Bs l (i:Int)=some (rch l i):=by
 unfold Bs rch
 by_cases h:i<l.length
 ·rw [dF (by omega)]
  simp (disch:=omega) only [dT,Int.toNat_natCast,Ng,Option.bind_some]
  rw [decide_eq_true h,Bool.true_and]
  cases inR (l.getD i 0) 1 3<;>rfl
 ·rw [dT (by omega),decide_eq_false h]; rfl

def Ug (a b:Fil):Bool:=((a.1.1==b.1.1)&&((a.1.2.1==b.1.2.1)&&(a.1.2.2==b.1.2.2)))&&((a.2.1==b.2.1)&&((Ke a.2.2).toList==(Ke b.2.2).toList))
theorem S3a (a b:Fil):I8 a b=some (Ug a b):=by
 unfold I8 Ug
 cases (a.1.1==b.1.1)&&((a.1.2.1==b.1.2.1)&&(a.1.2.2==b.1.2.2))<;>cases a.2.1==b.2.1<;>rfl
theorem S4a (a b:Fil):Jx a b=some (Ug a b):=by
 unfold Jx Ug
 cases (a.1.1==b.1.1)&&((a.1.2.1==b.1.2.1)&&(a.1.2.2==b.1.2.2))<;>cases a.2.1==b.2.1<;>rfl
def S5a (ws:List Wri) (s:ByteArray) (f:Fil):Bool:=ws.any λ x=>teq x.1 s&&Ug x.2.1 f
theorem S6a (w:Wld) (s:ByteArray) (f:Fil) (h:w.2.2.2.2.1.length≤2000000):Tot (λ k=>Cc k w s f) (λ r=>r=S5a w.2.2.2.2.1 s f):=by
 unfold Cc S5a
 refine Tot.bind (Q:=λ r=>r=bif w.2.2.2.2.1.any (λ x=>teq x.1 s&&Ug x.2.1 f) then .inl true else .inr ()) ?_ (by
  rintro r rfl
  cases w.2.2.2.2.1.any (λ x=>teq x.1 s&&Ug x.2.1 f)<;>exact Tot.pure rfl)
 rw [Qt _ Sf]
 refine Tot.anyI (L:=λ k i=>Cg k s w.2.2.2.2.1 (w.2.2.2.2.1.length:Int) i f) _ _ () ?_ ?_
 ·simp (disch:=omega) only [Cg,dF]
  exact Tot.pure rfl
 ·intro j hj Q yes no
  obtain ⟨x,ex⟩:∃ x:Wri,w.2.2.2.2.1.getD j Sf=x:=⟨_,rfl⟩
  simp only [ex] at no yes
  have e0:w.2.2.2.2.1.getD j ((⟨#[]⟩:ByteArray),((((0:Int),((0:Int),(0:Int))),(false,[])),false))=x:=ex
  simp (disch:=omega) only [Cg,dT,Int.toNat_natCast,w64,e0,S3a,Option.bind_some]
  refine Tot.ite (λ h1=>Tot.ite (λ h2=>Tot.pure (yes ?_)) (λ h2=>no ?_)) (λ h1=>no ?_)
  ·show ((x.1.toList==s.toList)&&Ug x.2.1 f)=true
   rw [h1,h2]; rfl
  ·rw [h2,Bool.and_false]
  ·show ((x.1.toList==s.toList)&&Ug x.2.1 f)=false
   rw [h1]; rfl
theorem S7a (w:Wld) (s:ByteArray) (f:Fil) (h:w.2.2.2.2.1.length≤2000000):Tot (λ k=>Cz k w s f) (λ r=>r=S5a w.2.2.2.2.1 s f):=by
 unfold Cz S5a
 refine Tot.bind (Q:=λ r=>r=bif w.2.2.2.2.1.any (λ x=>teq x.1 s&&Ug x.2.1 f) then .inl true else .inr ()) ?_ (by
  rintro r rfl
  cases w.2.2.2.2.1.any (λ x=>teq x.1 s&&Ug x.2.1 f)<;>exact Tot.pure rfl)
 rw [Qt _ Sf]
 refine Tot.anyI (L:=λ k i=>D6 k s i w f) _ _ () ?_ ?_
 ·simp (disch:=omega) only [D6,dF]
  exact Tot.pure rfl
 ·intro j hj Q yes no
  obtain ⟨x,ex⟩:∃ x:Wri,w.2.2.2.2.1.getD j Sf=x:=⟨_,rfl⟩
  simp only [ex] at no yes
  have e0:w.2.2.2.2.1.getD j ((⟨#[]⟩:ByteArray),((((0:Int),((0:Int),(0:Int))),(false,[])),false))=x:=ex
  simp (disch:=omega) only [D6,dT,Int.toNat_natCast,w64,e0,S4a,Option.bind_some]
  refine Tot.ite (λ h1=>Tot.ite (λ h2=>Tot.pure (yes ?_)) (λ h2=>no ?_)) (λ h1=>no ?_)
  ·show ((x.1.toList==s.toList)&&Ug x.2.1 f)=true
   rw [h1,h2]; rfl
  ·rw [h2,Bool.and_false]
  ·show ((x.1.toList==s.toList)&&Ug x.2.1 f)=false
   rw [h1]; rfl
def Gea (ws:List Wri) (e:Nmd):Bool:=match Nk e.2 with
 |none=>true
 |some f=>S5a ws e.1 f
def Pu (w:Wld):Bool:=(List.range w.2.2.1.length).all λ j=>(w.2.2.1.getD j Cr).2.1.1.all (Gea w.2.2.2.2.1)&&(w.2.2.1.getD j Cr).2.1.2.all (Gea w.2.2.2.2.1)
theorem C3a (w:Wld) (l:List Nmd) (h:w.2.2.2.2.1.length≤2000000) (hf:Fga l) (hb:LB l):Tot (λ k=>Dp k w l) (λ r=>r=l.all (Gea w.2.2.2.2.1)):=by
 have hl:=hf.1
 unfold Dp
 refine Tot.bind (Q:=λ r=>r=bif l.all (Gea w.2.2.2.2.1) then .inr () else .inl false) ?_ (by
  rintro r rfl
  cases l.all (Gea w.2.2.2.2.1)<;>exact Tot.pure rfl)
 rw [N7 _ Eu]
 refine Tot.allI (L:=λ k i=>Ea k l i w) _ _ () ?_ ?_
 ·simp (disch:=omega) only [Ea,dF]
  exact Tot.pure rfl
 ·intro j hj Q no yes
  have hm:=A4 (d:=Eu) hj
  obtain ⟨x,ex⟩:∃ x:Nmd,l.getD j Eu=x:=⟨_,rfl⟩
  rw [ex] at hm
  simp only [ex] at no yes
  have e0:l.getD j ((⟨#[]⟩:ByteArray),[])=x:=ex
  simp (disch:=omega) only [Ea,dT,Int.toNat_natCast,w64,e0]
  refine Tot.bind (Pt x.2 (hb x hm) (hf.2 x hm)) ?_
  rintro r rfl
  unfold Gea at no yes
  unfold S9
  cases hg:Nk x.2 with
  |none=>rw [hg] at yes; exact Tot.no rfl (yes rfl)
  |some f=>
   rw [hg] at yes no
   refine Tot.yes rfl (Tot.bind (S7a w x.1 f h) ?_)
   rintro b rfl
   refine Tot.ite (λ hc=>Tot.pure (no ?_)) (λ hc=>yes ?_)
   ·rw [Bool.not_eq_true'] at hc; exact hc
   ·rw [Bool.not_eq_false'] at hc; exact hc
theorem J2a (w:Wld) (hw:WIn w):Tot (λ k=>Ej k w) (λ r=>r=Pu w):=by
 obtain ⟨_,_,⟨h1,h2⟩,⟨h3,_⟩,_⟩:=hw
 unfold Ej Pu
 refine Tot.bind (Q:=λ r=>r=bif (List.range w.2.2.1.length).all (λ j=>(w.2.2.1.getD j Cr).2.1.1.all (Gea w.2.2.2.2.1)&&(w.2.2.1.getD j Cr).2.1.2.all (Gea w.2.2.2.2.1)) then .inr () else .inl false) ?_ (by
  rintro r rfl
  cases (List.range w.2.2.1.length).all (λ j=>(w.2.2.1.getD j Cr).2.1.1.all (Gea w.2.2.2.2.1)&&(w.2.2.1.getD j Cr).2.1.2.all (Gea w.2.2.2.2.1))<;>exact Tot.pure rfl)
 refine Tot.allI (L:=λ k i=>Fo k i w) _ _ () ?_ ?_
 ·simp (disch:=omega) only [Fo,dF]
  exact Tot.pure rfl
 ·intro j hj Q no yes
  have hm:=h2 _ (A4 (d:=Cr) hj)
  obtain ⟨x,ex⟩:∃ x:Nod,w.2.2.1.getD j Cr=x:=⟨_,rfl⟩
  rw [ex] at hm no yes
  have e0:w.2.2.1.getD j ((0:Int),(([],[]),([],[])))=x:=ex
  obtain ⟨⟨⟨⟨f1,f2⟩,_⟩,_⟩,b1,b2⟩:=hm.1
  simp (disch:=omega) only [Fo,dT,Int.toNat_natCast,w64,e0]
  refine Tot.bind (C3a w x.2.1.1 h3 f1 b1) ?_
  rintro r rfl
  refine Tot.ite (λ hc=>Tot.pure (no ?_)) (λ hc=>Tot.bind (C3a w x.2.1.2 h3 f2 b2) ?_)
  ·rw [Bool.not_eq_true'] at hc; rw [hc,Bool.false_and]
  ·rw [Bool.not_eq_false'] at hc
   rw [hc,Bool.true_and] at no yes
   rintro r rfl
   refine Tot.ite (λ hc=>Tot.pure (no ?_)) (λ hc=>yes ?_)
   ·rw [Bool.not_eq_true'] at hc; exact hc
   ·rw [Bool.not_eq_false'] at hc; exact hc
theorem A6a (w:Wld) (hw:WIn w):Tot (λ k=>Bv k w) (λ r=>r=Pu w):=by
 obtain ⟨_,_,⟨h1,h2⟩,⟨h3,_⟩,_⟩:=hw
 unfold Bv Pu
 refine Tot.bind (Q:=λ r=>r=bif (List.range w.2.2.1.length).all (λ j=>(w.2.2.1.getD j Cr).2.1.1.all (Gea w.2.2.2.2.1)&&(w.2.2.1.getD j Cr).2.1.2.all (Gea w.2.2.2.2.1)) then .inr () else .inl false) ?_ (by
  rintro r rfl
  cases (List.range w.2.2.1.length).all (λ j=>(w.2.2.1.getD j Cr).2.1.1.all (Gea w.2.2.2.2.1)&&(w.2.2.1.getD j Cr).2.1.2.all (Gea w.2.2.2.2.1))<;>exact Tot.pure rfl)
 refine Tot.allI (L:=λ k i=>Fl k w.2.2.1 (w.2.2.1.length:Int) i w) _ _ () ?_ ?_
 ·simp (disch:=omega) only [Fl,dF]
  exact Tot.pure rfl
 ·intro j hj Q no yes
  have hm:=h2 _ (A4 (d:=Cr) hj)
  obtain ⟨x,ex⟩:∃ x:Nod,w.2.2.1.getD j Cr=x:=⟨_,rfl⟩
  rw [ex] at hm no yes
  have e0:w.2.2.1.getD j ((0:Int),(([],[]),([],[])))=x:=ex
  obtain ⟨⟨⟨⟨f1,f2⟩,_⟩,l1,l2⟩,b1,b2⟩:=hm.1
  have n0:([]:List (ByteArray×(List Int))).length=0:=rfl
  simp (disch:=omega) only [Fl,dT,Int.toNat_natCast,w64,e0,List.nil_append]
  refine Tot.ble (by rw [n0]; omega) (Tot.ble (by omega) ?_)
  rw [← List.all_append] at no yes
  have hf:Fga (x.2.1.1++x.2.1.2):=⟨by rw [List.length_append]; omega,λ y hy=>(List.mem_append.1 hy).elim (f1.2 y) (f2.2 y)⟩
  have hb:LB (x.2.1.1++x.2.1.2):=λ y hy=>(List.mem_append.1 hy).elim (b1 y) (b2 y)
  have hl:(x.2.1.1++x.2.1.2).length≤4000000:=by rw [List.length_append]; omega
  generalize x.2.1.1++x.2.1.2=l at *
  refine Tot.bind (Q:=λ r=>r=bif l.all (Gea w.2.2.2.2.1) then .inr (w.2.2.1,(w.2.2.1.length:Int),(j:Int),w) else .inl false) ?_ ?_
  ·rw [N7 _ Eu]
   refine Tot.allI (L:=λ k i=>E7 k w.2.2.1 (w.2.2.1.length:Int) (j:Int) l (l.length:Int) i w) _ _ (w.2.2.1,(w.2.2.1.length:Int),(j:Int),w) ?_ ?_
   ·simp (disch:=omega) only [E7,dF]
    exact Tot.pure rfl
   ·intro j hj Q no yes
    have hm:=A4 (d:=Eu) hj
    obtain ⟨x,ex⟩:∃ x:Nmd,l.getD j Eu=x:=⟨_,rfl⟩
    rw [ex] at hm
    simp only [ex] at no yes
    have e0:l.getD j ((⟨#[]⟩:ByteArray),[])=x:=ex
    simp (disch:=omega) only [E7,dT,Int.toNat_natCast,w64,e0]
    refine Tot.bind (Z2 x.2 (hb x hm) (hf.2 x hm)) ?_
    rintro r rfl
    unfold Gea at no yes
    unfold S9
    cases hg:Nk x.2 with
    |none=>rw [hg] at yes; exact Tot.no rfl (yes rfl)
    |some f=>
     rw [hg] at yes no
     refine Tot.yes rfl (Tot.bind (S6a w x.1 f h3) ?_)
     rintro b rfl
     refine Tot.ite (λ hc=>Tot.pure (no ?_)) (λ hc=>yes ?_)
     ·rw [Bool.not_eq_true'] at hc; exact hc
     ·rw [Bool.not_eq_false'] at hc; exact hc
  ·rintro r rfl
   cases hc:l.all (Gea w.2.2.2.2.1) with
   |false=>exact Tot.pure (no hc)
   |true=>
    simp (disch:=omega) only [cond_true,Sum.elim_inr,w64]
    exact yes hc

def S8a (a b:Row):Bool:=(a.1==b.1)&&((a.2.1.1==b.2.1.1)&&((a.2.1.2.1==b.2.1.2.1)&&((a.2.1.2.2==b.2.1.2.2)&&((a.2.2.1==b.2.2.1)&&(a.2.2.2==b.2.2.2)))))
theorem Gfa {a b:Row}:S8a a b=true↔a=b:=by
 unfold S8a
 obtain ⟨a0,⟨a1,a2,a3⟩,a4,a5⟩:=a
 obtain ⟨b0,⟨b1,b2,b3⟩,b4,b5⟩:=b
 simp only [Daa,Bool.and_eq_true,beq_iff_eq,Prod.mk.injEq,Jl]
 constructor
 ·rintro ⟨h0,h1,h2,h3,h4,h5⟩; exact ⟨h0,⟨h1,h2,h3⟩,h4,h5⟩
 ·rintro ⟨h0,⟨h1,h2,h3⟩,h4,h5⟩; exact ⟨h0,h1,h2,h3,h4,h5⟩
def M9 (ws:List Wri) (r:Row):Bool:=ws.any λ x=>S8a (Ub x.1 x.2.1) r
def Sg (w:Wld):Bool:=(List.range w.2.2.1.length).all λ j=>(w.2.2.1.getD j Cr).2.2.1.all (M9 w.2.2.2.2.1)&&(w.2.2.1.getD j Cr).2.2.2.all (M9 w.2.2.2.2.1)
def Vqa:Row:=((⟨#[]⟩:ByteArray),(((0:Int),((0:Int),(0:Int))),(false,(0:Int))))
theorem J3a (w:Wld) (l:List Row) (i:Nat) (hi:i<l.length) (h:w.2.2.2.2.1.length≤2000000):Tot (λ k=>Cn k l (i:Int) false 0 w) (λ r=>r=(l,(i:Int),M9 w.2.2.2.2.1 (l.getD i Vqa),w)):=by
 refine Tot.up (L:=λ k i' (s:Bool)=>Cn k l (i:Int) s i' w) (Q:=λ r=>r=(l,(i:Int),M9 w.2.2.2.2.1 (l.getD i Vqa),w)) w.2.2.2.2.1.length (λ j s=>(s || (w.2.2.2.2.1.drop j).any λ x=>S8a (Ub x.1 x.2.1) (l.getD i Vqa))=M9 w.2.2.2.2.1 (l.getD i Vqa)) ?_ ?_ 0 false (Nat.zero_le _) (Bool.false_or _)
 ·intro s hs
  rw [List.drop_length,List.any_nil,Bool.or_false] at hs
  simp (disch:=omega) only [Cn,dF]
  exact Tot.pure (by rw [hs])
 ·intro j s hj hs next
  cases s with
  |true=>
   rw [Bool.true_or] at hs
   simp (disch:=omega) only [Cn,dT,w64,cond_true]
   exact next true (by rw [Bool.true_or]; exact hs)
  |false=>
   rw [Aq (d:=Sf) hj,List.any_cons,Bool.false_or] at hs
   obtain ⟨x,ex⟩:∃ x:Wri,w.2.2.2.2.1.getD j Sf=x:=⟨_,rfl⟩
   rw [ex] at hs
   have e0:w.2.2.2.2.1.getD j ((⟨#[]⟩:ByteArray),((((0:Int),((0:Int),(0:Int))),(false,[])),false))=x:=ex
   have e1:l.getD i ((⟨#[]⟩:ByteArray),(((0:Int),((0:Int),(0:Int))),(false,(0:Int))))=l.getD i Vqa:=rfl
   simp (disch:=omega) only [Cn,dT,Int.toNat_natCast,w64,e0,e1,cond_false,Ey,Option.bind_some]
   exact next _ hs
theorem C4a (w:Wld) (l:List Row) (h:w.2.2.2.2.1.length≤2000000) (hl:l.length≤4000000000000):Tot (λ k=>Co k w l) (λ r=>r=l.all (M9 w.2.2.2.2.1)):=by
 unfold Co
 refine Tot.bind (Q:=λ r=>r=bif l.all (M9 w.2.2.2.2.1) then .inr () else .inl false) ?_ (by
  rintro r rfl
  cases l.all (M9 w.2.2.2.2.1)<;>exact Tot.pure rfl)
 rw [N7 _ Vqa]
 refine Tot.allI (L:=λ k i=>Fp k l i w) _ _ () ?_ ?_
 ·simp (disch:=omega) only [Fp,dF]
  exact Tot.pure rfl
 ·intro j hj Q no yes
  simp (disch:=omega) only [Fp,dT]
  refine Tot.bind (J3a w l j hj h) ?_
  rintro r rfl
  simp (disch:=omega) only [w64]
  refine Tot.ite (λ hc=>Tot.pure (no ?_)) (λ hc=>yes ?_)
  ·rw [Bool.not_eq_true'] at hc; exact hc
  ·rw [Bool.not_eq_false'] at hc; exact hc
theorem Nfa (w:Wld) (hw:WIn w):Tot (λ k=>Gd k w) (λ r=>r=Sg w):=by
 obtain ⟨_,_,⟨h1,h2⟩,⟨h3,_⟩,_⟩:=hw
 unfold Gd Sg
 refine Tot.bind (Q:=λ r=>r=bif (List.range w.2.2.1.length).all (λ j=>(w.2.2.1.getD j Cr).2.2.1.all (M9 w.2.2.2.2.1)&&(w.2.2.1.getD j Cr).2.2.2.all (M9 w.2.2.2.2.1)) then .inr () else .inl false) ?_ (by
  rintro r rfl
  cases (List.range w.2.2.1.length).all (λ j=>(w.2.2.1.getD j Cr).2.2.1.all (M9 w.2.2.2.2.1)&&(w.2.2.1.getD j Cr).2.2.2.all (M9 w.2.2.2.2.1))<;>exact Tot.pure rfl)
 refine Tot.allI (L:=λ k i=>Ha k i w) _ _ () ?_ ?_
 ·simp (disch:=omega) only [Ha,dF]
  exact Tot.pure rfl
 ·intro j hj Q no yes
  have hm:=h2 _ (A4 (d:=Cr) hj)
  obtain ⟨x,ex⟩:∃ x:Nod,w.2.2.1.getD j Cr=x:=⟨_,rfl⟩
  rw [ex] at hm no yes
  have e0:w.2.2.1.getD j ((0:Int),(([],[]),([],[])))=x:=ex
  obtain ⟨_,f1,f2⟩:=hm
  have g1:=f1.1
  have g2:=f2.1
  simp (disch:=omega) only [Ha,dT,Int.toNat_natCast,w64,e0]
  refine Tot.bind (C4a w x.2.2.1 h3 (by omega)) ?_
  rintro r rfl
  refine Tot.ite (λ hc=>Tot.pure (no ?_)) (λ hc=>Tot.bind (C4a w x.2.2.2 h3 (by omega)) ?_)
  ·rw [Bool.not_eq_true'] at hc; rw [hc,Bool.false_and]
  ·rw [Bool.not_eq_false'] at hc
   rw [hc,Bool.true_and] at no yes
   rintro r rfl
   refine Tot.ite (λ hc=>Tot.pure (no ?_)) (λ hc=>yes ?_)
   ·rw [Bool.not_eq_true'] at hc; exact hc
   ·rw [Bool.not_eq_false'] at hc; exact hc
theorem Dpa (w:Wld) (ns:List Nod) (n m:Int) (l:List Row) (len i:Int) (r0:Row) (h:w.2.2.2.2.1.length≤2000000):Tot (λ k=>Dl k false ns n m l len i w.2.2.2.2.1 (w.2.2.2.2.1.length:Int) 0 w r0) (λ r=>r=(M9 w.2.2.2.2.1 r0,ns,n,m,l,len,i,w)):=by
 refine Tot.up (L:=λ k i' (s:Bool)=>Dl k s ns n m l len i w.2.2.2.2.1 (w.2.2.2.2.1.length:Int) i' w r0) (Q:=λ r=>r=(M9 w.2.2.2.2.1 r0,ns,n,m,l,len,i,w)) w.2.2.2.2.1.length (λ j s=>(s || (w.2.2.2.2.1.drop j).any λ x=>S8a (Ub x.1 x.2.1) r0)=M9 w.2.2.2.2.1 r0) ?_ ?_ 0 false (Nat.zero_le _) (Bool.false_or _)
 ·intro s hs
  rw [List.drop_length,List.any_nil,Bool.or_false] at hs
  simp (disch:=omega) only [Dl,dF]
  exact Tot.pure (by rw [hs])
 ·intro j s hj hs next
  cases s with
  |true=>
   rw [Bool.true_or] at hs
   simp (disch:=omega) only [Dl,dT,w64,cond_true]
   exact next true (by rw [Bool.true_or]; exact hs)
  |false=>
   rw [Aq (d:=Sf) hj,List.any_cons,Bool.false_or] at hs
   obtain ⟨x,ex⟩:∃ x:Wri,w.2.2.2.2.1.getD j Sf=x:=⟨_,rfl⟩
   rw [ex] at hs
   have e0:w.2.2.2.2.1.getD j ((⟨#[]⟩:ByteArray),((((0:Int),((0:Int),(0:Int))),(false,[])),false))=x:=ex
   simp (disch:=omega) only [Dl,dT,Int.toNat_natCast,w64,e0,cond_false,Lc,Option.bind_some]
   exact next _ hs
theorem C5a (w:Wld) (hw:WIn w):Tot (λ k=>C3 k w) (λ r=>r=Sg w):=by
 obtain ⟨_,_,⟨h1,h2⟩,⟨h3,_⟩,_⟩:=hw
 unfold C3 Sg
 refine Tot.bind (Q:=λ r=>r=bif (List.range w.2.2.1.length).all (λ j=>(w.2.2.1.getD j Cr).2.2.1.all (M9 w.2.2.2.2.1)&&(w.2.2.1.getD j Cr).2.2.2.all (M9 w.2.2.2.2.1)) then .inr () else .inl false) ?_ (by
  rintro r rfl
  cases (List.range w.2.2.1.length).all (λ j=>(w.2.2.1.getD j Cr).2.2.1.all (M9 w.2.2.2.2.1)&&(w.2.2.1.getD j Cr).2.2.2.all (M9 w.2.2.2.2.1))<;>exact Tot.pure rfl)
 refine Tot.allI (L:=λ k i=>H7 k w.2.2.1 (w.2.2.1.length:Int) i w) _ _ () ?_ ?_
 ·simp (disch:=omega) only [H7,dF]
  exact Tot.pure rfl
 ·intro j hj Q no yes
  have hm:=h2 _ (A4 (d:=Cr) hj)
  obtain ⟨x,ex⟩:∃ x:Nod,w.2.2.1.getD j Cr=x:=⟨_,rfl⟩
  rw [ex] at hm no yes
  have e0:w.2.2.1.getD j ((0:Int),(([],[]),([],[])))=x:=ex
  obtain ⟨_,f1,f2⟩:=hm
  have g1:=f1.1
  have g2:=f2.1
  have ec:I9 x.2.2.1=some x.2.2.1:=by
   unfold I9
   rw [bT (by simp only [List.length_nil]; omega),List.nil_append]
  simp (disch:=omega) only [H7,dT,Int.toNat_natCast,w64,e0,ec,Option.bind_some]
  refine Tot.ble (by omega) ?_
  rw [← List.all_append] at no yes
  have hl:(x.2.2.1++x.2.2.2).length≤4000000:=by rw [List.length_append]; omega
  generalize x.2.2.1++x.2.2.2=l at *
  refine Tot.bind (Q:=λ r=>r=bif l.all (M9 w.2.2.2.2.1) then .inr (w.2.2.1,(w.2.2.1.length:Int),(j:Int),w) else .inl false) ?_ ?_
  ·rw [N7 _ Vqa]
   refine Tot.allI (L:=λ k i=>H6 k w.2.2.1 (w.2.2.1.length:Int) (j:Int) l (l.length:Int) i w) _ _ (w.2.2.1,(w.2.2.1.length:Int),(j:Int),w) ?_ ?_
   ·simp (disch:=omega) only [H6,dF]
    exact Tot.pure rfl
   ·intro i hi Q no yes
    have e1:l.getD i ((⟨#[]⟩:ByteArray),(((0:Int),((0:Int),(0:Int))),(false,(0:Int))))=l.getD i Vqa:=rfl
    simp (disch:=omega) only [H6,dT,Int.toNat_natCast,e1]
    refine Tot.bind (Dpa w _ _ _ l _ _ (l.getD i Vqa) h3) ?_
    rintro r rfl
    simp (disch:=omega) only [w64]
    refine Tot.ite (λ hc=>Tot.pure (no ?_)) (λ hc=>yes ?_)
    ·rw [Bool.not_eq_true'] at hc; exact hc
    ·rw [Bool.not_eq_false'] at hc; exact hc
  ·rintro r rfl
   cases hc:l.all (M9 w.2.2.2.2.1) with
   |false=>exact Tot.pure (no hc)
   |true=>
    simp (disch:=omega) only [cond_true,Sum.elim_inr,w64]
    exact yes hc
def Dqa (s:ByteArray) (st:Stp) (n:Nod):Bool:=match gt n.2.1.2 s with
 |none=>false
 |some b=>match Nk b with
  |none=>false
  |some f => !(sle f.1 st)
def J4a (w:Wld) (x:Wri):Bool := !x.2.2 || (Aua w.2.2.2.2.2 x.1 || w.2.2.1.any (Dqa x.1 x.2.1.1))
def J5a (w:Wld):Bool:=w.2.2.2.2.1.all (J4a w)
theorem S9a (l:List Nmd) (s:ByteArray):(Gqa l s<0∧gt l s=none)∨∃ i:Nat,Gqa l s=(i:Int)∧i<l.length∧gt l s=some (l.getD i Eu).2:=by
 unfold Gqa gt
 cases h:fnd l s with
 |none=>exact .inl ⟨by decide,rfl⟩
 |some i=>
  obtain ⟨hi,_⟩:=List.findIdx?_eq_some_iff_getElem.1 h
  exact .inr ⟨i,rfl,hi,rfl⟩
theorem Saa (w:Wld) (hw:WIn w) (s:ByteArray) (st:Stp):Tot (λ k=>Ih k w s st) (λ r=>r=w.2.2.1.any (Dqa s st)):=by
 obtain ⟨_,_,⟨h1,h2⟩,⟨h3,_⟩,_⟩:=hw
 unfold Ih
 refine Tot.bind (Q:=λ r=>r=bif w.2.2.1.any (Dqa s st) then .inl true else .inr ()) ?_ (by
  rintro r rfl
  cases w.2.2.1.any (Dqa s st)<;>exact Tot.pure rfl)
 rw [Qt _ Cr]
 refine Tot.anyI (L:=λ k i=>G0 k s w.2.2.1 (w.2.2.1.length:Int) i st) _ _ () ?_ ?_
 ·simp (disch:=omega) only [G0,dF]
  exact Tot.pure rfl
 ·intro j hj Q yes no
  have hm:=h2 _ (A4 (d:=Cr) hj)
  obtain ⟨x,ex⟩:∃ x:Nod,w.2.2.1.getD j Cr=x:=⟨_,rfl⟩
  rw [ex] at hm no yes
  have e0:w.2.2.1.getD j ((0:Int),(([],[]),([],[])))=x:=ex
  obtain ⟨⟨⟨⟨f1,f2⟩,_⟩,l1,l2⟩,b1,b2⟩:=hm.1
  simp (disch:=omega) only [G0,dT,Int.toNat_natCast,w64,e0]
  unfold Dqa at yes no
  refine Tot.bind (Bbb x.2.1.2 s f2.1) ?_
  rintro r rfl
  rcases S9a x.2.1.2 s with ⟨hn,hg⟩|⟨i,e,hi,hg⟩
  ·rw [hg] at no
   exact Tot.dec hn (no rfl)
  ·rw [e]
   have hm:=A4 (d:=Eu) hi
   obtain ⟨y,ey⟩:∃ y:Nmd,x.2.1.2.getD i Eu=y:=⟨_,rfl⟩
   rw [ey] at hm hg
   rw [hg] at no yes
   have e2:x.2.1.2.getD i ((⟨#[]⟩:ByteArray),[])=y:=ey
   refine Tot.ndec (by omega) ?_
   simp (disch:=omega) only [dT,Int.toNat_natCast,e2]
   refine Tot.bind (Z2 y.2 (b2 y hm) (f2.2 y hm)) ?_
   rintro r rfl
   unfold S9
   cases hy:Nk y.2 with
   |none=>simp only [hy] at no; exact Tot.no rfl (no trivial)
   |some f=>
    simp only [hy] at no yes
    simp only [D6a,Option.bind_some]
    exact Tot.yes rfl (Tot.ite (λ hc=>Tot.pure (yes hc)) (λ hc=>no hc))
theorem Sba (w:Wld) (hw:WIn w) (x:Wri):Tot (λ k=>Ek k w x) (λ r=>r=w.2.2.1.any (Dqa x.1 x.2.1.1)):=by
 obtain ⟨_,_,⟨h1,h2⟩,⟨h3,_⟩,_⟩:=hw
 unfold Ek
 refine Tot.bind (Q:=λ r=>r=bif w.2.2.1.any (Dqa x.1 x.2.1.1) then .inl true else .inr ()) ?_ (by
  rintro r rfl
  cases w.2.2.1.any (Dqa x.1 x.2.1.1)<;>exact Tot.pure rfl)
 rw [Qt _ Cr]
 refine Tot.anyI (L:=λ k i=>Dh k i w x) _ _ () ?_ ?_
 ·simp (disch:=omega) only [Dh,dF]
  exact Tot.pure rfl
 ·intro j hj Q yes no
  have hm:=h2 _ (A4 (d:=Cr) hj)
  obtain ⟨z,ex⟩:∃ x:Nod,w.2.2.1.getD j Cr=x:=⟨_,rfl⟩
  rw [ex] at hm no yes
  have e0:w.2.2.1.getD j ((0:Int),(([],[]),([],[])))=z:=ex
  obtain ⟨⟨⟨⟨f1,f2⟩,_⟩,l1,l2⟩,b1,b2⟩:=hm.1
  simp (disch:=omega) only [Dh,dT,Int.toNat_natCast,w64,e0]
  unfold Dqa at yes no
  refine Tot.bind (Y8 z.2.1.2 x.1 f2.1) ?_
  rintro r rfl
  rcases S9a z.2.1.2 x.1 with ⟨hn,hg⟩|⟨i,e,hi,hg⟩
  ·rw [hg] at no
   exact Tot.dec hn (no rfl)
  ·rw [e]
   have hm:=A4 (d:=Eu) hi
   obtain ⟨y,ey⟩:∃ y:Nmd,z.2.1.2.getD i Eu=y:=⟨_,rfl⟩
   rw [ey] at hm hg
   rw [hg] at no yes
   have e2:z.2.1.2.getD i ((⟨#[]⟩:ByteArray),[])=y:=ey
   refine Tot.ndec (by omega) ?_
   simp (disch:=omega) only [dT,Int.toNat_natCast,e2]
   refine Tot.bind (Pt y.2 (b2 y hm) (f2.2 y hm)) ?_
   rintro r rfl
   unfold S9
   cases hy:Nk y.2 with
   |none=>simp only [hy] at no; exact Tot.no rfl (no trivial)
   |some f=>
    simp only [hy] at no yes
    simp only [Fqa,Option.bind_some]
    exact Tot.yes rfl (Tot.ite (λ hc=>Tot.pure (yes hc)) (λ hc=>no hc))
theorem Vra (l:List ByteArray) (s:ByteArray) (hl:l.length≤1000000000):Tot (λ k=>Ij k l s) (λ r=>r=Aua l s):=by
 unfold Ij Aua
 refine Tot.bind (Q:=λ r=>r=bif l.any (λ y=>teq y s) then .inl true else .inr ()) ?_ (by
  rintro r rfl
  cases l.any (λ y=>teq y s)<;>exact Tot.pure rfl)
 rw [Qt _ Oi]
 refine Tot.anyI (L:=λ k i=>Fm k s l (l.length:Int) i) _ _ () ?_ ?_
 ·simp (disch:=omega) only [Fm,dF]
  exact Tot.pure rfl
 ·intro j hj Q yes no
  have e0:l.getD j (⟨#[]⟩:ByteArray)=l.getD j Oi:=rfl
  simp (disch:=omega) only [Fm,dT,Int.toNat_natCast,w64,e0]
  exact Tot.ite (λ hc=>Tot.pure (yes hc)) (λ hc=>no hc)
theorem Lsa (w:Wld) (hw:WIn w):Tot (λ k=>Ia k w) (λ r=>r=J5a w):=by
 have hw':=hw
 obtain ⟨_,_,⟨h1,h2⟩,⟨h3,_⟩,h5,_⟩:=hw'
 unfold Ia J5a
 refine Tot.bind (Q:=λ r=>r=bif w.2.2.2.2.1.all (J4a w) then .inr () else .inl false) ?_ (by
  rintro r rfl
  cases w.2.2.2.2.1.all (J4a w)<;>exact Tot.pure rfl)
 rw [N7 _ Sf]
 refine Tot.allI (L:=λ k i=>Ho k w.2.2.2.2.1 (w.2.2.2.2.1.length:Int) i w) _ _ () ?_ ?_
 ·simp (disch:=omega) only [Ho,dF]
  exact Tot.pure rfl
 ·intro j hj Q no yes
  obtain ⟨x,ex⟩:∃ x:Wri,w.2.2.2.2.1.getD j Sf=x:=⟨_,rfl⟩
  rw [ex] at no yes
  have e0:w.2.2.2.2.1.getD j ((⟨#[]⟩:ByteArray),((((0:Int),((0:Int),(0:Int))),(false,[])),false))=x:=ex
  simp (disch:=omega) only [Ho,dT,Int.toNat_natCast,w64,e0]
  unfold J4a at no yes
  refine Tot.ite (λ hk=>?_) (λ hk=>yes (by rw [hk]; rfl))
  rw [hk,Bool.not_true,Bool.false_or] at no yes
  refine Tot.bind (Vra _ x.1 (by omega)) ?_
  rintro b rfl
  refine Tot.ite (λ hh=>?_) (λ hh=>yes (by rw [Bool.not_eq_false'] at hh; rw [hh,Bool.true_or]))
  rw [Bool.not_eq_true'] at hh
  rw [hh,Bool.false_or] at no yes
  refine Tot.bind (Saa w hw x.1 x.2.1.1) ?_
  rintro b rfl
  refine Tot.ite (λ hc=>Tot.pure (no ?_)) (λ hc=>yes ?_)
  ·rw [Bool.not_eq_true'] at hc; exact hc
  ·rw [Bool.not_eq_false'] at hc; exact hc
theorem Vsa (w:Wld) (hw:WIn w):Tot (λ k=>Ji k w) (λ r=>r=J5a w):=by
 have hw':=hw
 obtain ⟨_,_,⟨h1,h2⟩,⟨h3,_⟩,h5,_⟩:=hw'
 unfold Ji J5a
 refine Tot.bind (Q:=λ r=>r=bif w.2.2.2.2.1.all (J4a w) then .inr () else .inl false) ?_ (by
  rintro r rfl
  cases w.2.2.2.2.1.all (J4a w)<;>exact Tot.pure rfl)
 rw [N7 _ Sf]
 refine Tot.allI (L:=λ k i=>Hp k i w) _ _ () ?_ ?_
 ·simp (disch:=omega) only [Hp,dF]
  exact Tot.pure rfl
 ·intro j hj Q no yes
  obtain ⟨x,ex⟩:∃ x:Wri,w.2.2.2.2.1.getD j Sf=x:=⟨_,rfl⟩
  rw [ex] at no yes
  have e0:w.2.2.2.2.1.getD j ((⟨#[]⟩:ByteArray),((((0:Int),((0:Int),(0:Int))),(false,[])),false))=x:=ex
  simp (disch:=omega) only [Hp,dT,Int.toNat_natCast,w64,e0]
  unfold J4a at no yes
  refine Tot.ite (λ hk=>?_) (λ hk=>yes (by rw [hk]; rfl))
  rw [hk,Bool.not_true,Bool.false_or] at no yes
  refine Tot.bind (Dja _ x.1 (by omega)) ?_
  rintro b rfl
  refine Tot.ite (λ hh=>?_) (λ hh=>yes (by rw [Bool.not_eq_false'] at hh; rw [hh,Bool.true_or]))
  rw [Bool.not_eq_true'] at hh
  rw [hh,Bool.false_or] at no yes
  refine Tot.bind (Sba w hw x) ?_
  rintro b rfl
  refine Tot.ite (λ hc=>Tot.pure (no ?_)) (λ hc=>yes ?_)
  ·rw [Bool.not_eq_true'] at hc; exact hc
  ·rw [Bool.not_eq_false'] at hc; exact hc
def Oe (w:Wld):Bool:=(List.range w.2.2.2.2.1.length).all λ j => !(sle w.2.2.2.1 (w.2.2.2.2.1.getD j Sf).2.1.1)&&(decide (j=0) || sle (w.2.2.2.2.1.getD (j - 1) Sf).2.1.1 (w.2.2.2.2.1.getD j Sf).2.1.1)
theorem A7a (w:Wld) (hw:WIn w):Tot (λ k=>Cm k w) (λ r=>r=Oe w):=by
 obtain ⟨_,_,_,⟨h3,_⟩,h5,_⟩:=hw
 unfold Cm Oe
 generalize hP:(λ j => !(sle w.2.2.2.1 (w.2.2.2.2.1.getD j Sf).2.1.1)&&(decide (j=0) || sle (w.2.2.2.2.1.getD (j - 1) Sf).2.1.1 (w.2.2.2.2.1.getD j Sf).2.1.1))=P
 refine Tot.bind (Q:=λ r=>r=bif (List.range w.2.2.2.2.1.length).all P then .inr () else .inl false) ?_ (by
  rintro r rfl
  cases (List.range w.2.2.2.2.1.length).all P<;>exact Tot.pure rfl)
 refine Tot.allI (L:=λ k i=>E8 k w.2.2.2.2.1 (w.2.2.2.2.1.length:Int) i w) _ _ () ?_ ?_
 ·simp (disch:=omega) only [E8,dF]
  exact Tot.pure rfl
 ·intro j hj Q no yes
  subst hP
  dsimp only at no yes
  have e0:∀ i,w.2.2.2.2.1.getD i ((⟨#[]⟩:ByteArray),((((0:Int),((0:Int),(0:Int))),(false,[])),false))=w.2.2.2.2.1.getD i Sf:=λ _=>rfl
  simp (disch:=omega) only [E8,dT,Int.toNat_natCast,w64,e0,D6a,Option.bind_some]
  refine Tot.ite (λ hc=>Tot.pure (no (by rw [hc]; rfl))) (λ hc=>?_)
  rw [hc,Bool.not_false,Bool.true_and] at no yes
  refine Tot.dite (λ h0=>?_) (λ h0=>yes (by rw [decide_eq_true (show j=0 by omega)]; rfl))
  simp (disch:=omega) only [dT,w64,show Int.toNat ((j:Int) - 1)=j - 1 by omega]
  rw [decide_eq_false (show ¬ j=0 by omega),Bool.false_or] at no yes
  refine Tot.ite (λ hc=>Tot.pure (no ?_)) (λ hc=>yes ?_)
  ·rw [Bool.not_eq_true'] at hc; exact hc
  ·rw [Bool.not_eq_false'] at hc; exact hc
theorem J6a (w:Wld) (hw:WIn w):Tot (λ k=>El k w) (λ r=>r=Oe w):=by
 obtain ⟨_,_,_,⟨h3,_⟩,h5,_⟩:=hw
 unfold El Oe
 generalize hP:(λ j => !(sle w.2.2.2.1 (w.2.2.2.2.1.getD j Sf).2.1.1)&&(decide (j=0) || sle (w.2.2.2.2.1.getD (j - 1) Sf).2.1.1 (w.2.2.2.2.1.getD j Sf).2.1.1))=P
 refine Tot.bind (Q:=λ r=>r=bif (List.range w.2.2.2.2.1.length).all P then .inr () else .inl false) ?_ (by
  rintro r rfl
  cases (List.range w.2.2.2.2.1.length).all P<;>exact Tot.pure rfl)
 refine Tot.allI (L:=λ k i=>Eb k i w) _ _ () ?_ ?_
 ·simp (disch:=omega) only [Eb,dF]
  exact Tot.pure rfl
 ·intro j hj Q no yes
  subst hP
  dsimp only at no yes
  have e0:∀ i,w.2.2.2.2.1.getD i ((⟨#[]⟩:ByteArray),((((0:Int),((0:Int),(0:Int))),(false,[])),false))=w.2.2.2.2.1.getD i Sf:=λ _=>rfl
  simp (disch:=omega) only [Eb,dT,Int.toNat_natCast,w64,e0,W2,Option.bind_some]
  refine Tot.ite (λ hc=>Tot.pure (no (by rw [hc]; rfl))) (λ hc=>?_)
  rw [hc,Bool.not_false,Bool.true_and] at no yes
  refine Tot.dite (λ h0=>?_) (λ h0=>yes (by rw [decide_eq_true (show j=0 by omega)]; rfl))
  simp (disch:=omega) only [dT,w64,show Int.toNat ((j:Int) - 1)=j - 1 by omega]
  rw [decide_eq_false (show ¬ j=0 by omega),Bool.false_or] at no yes
  refine Tot.ite (λ hc=>Tot.pure (no ?_)) (λ hc=>yes ?_)
  ·rw [Bool.not_eq_true'] at hc; exact hc
  ·rw [Bool.not_eq_false'] at hc; exact hc
def Rk (w:Wld):Int:=bif Ixa w then (bif Pu w then (bif Sg w then (bif J5a w then (bif Oe w then 0 else 5) else 4) else 3) else 2) else 1
theorem Vta (w:Wld) (hw:WIn w):Tot (λ k=>Lo k w) (λ r=>r=Rk w):=by
 unfold Lo Rk
 refine Tot.bind (Gca w hw) ?_
 rintro b rfl
 cases Ixa w with
 |false=>exact Tot.yes rfl (Tot.pure rfl)
 |true=>
  refine Tot.no rfl (Tot.bind (A6a w hw) ?_)
  rintro b rfl
  cases Pu w with
  |false=>exact Tot.yes rfl (Tot.pure rfl)
  |true=>
   refine Tot.no rfl (Tot.bind (C5a w hw) ?_)
   rintro b rfl
   cases Sg w with
   |false=>exact Tot.yes rfl (Tot.pure rfl)
   |true=>
    refine Tot.no rfl (Tot.bind (Lsa w hw) ?_)
    rintro b rfl
    cases J5a w with
    |false=>exact Tot.yes rfl (Tot.pure rfl)
    |true=>
     refine Tot.no rfl (Tot.bind (A7a w hw) ?_)
     rintro b rfl
     cases Oe w with
     |false=>exact Tot.yes rfl (Tot.pure rfl)
     |true=>exact Tot.no rfl (Tot.pure rfl)
theorem Lta (w:Wld) (hw:WIn w):Tot (λ k=>Jj k w) (λ r=>r=Rk w):=by
 unfold Jj Rk
 refine Tot.bind (S1a w hw) ?_
 rintro b rfl
 cases Ixa w with
 |false=>exact Tot.yes rfl (Tot.pure rfl)
 |true=>
  refine Tot.no rfl (Tot.bind (J2a w hw) ?_)
  rintro b rfl
  cases Pu w with
  |false=>exact Tot.yes rfl (Tot.pure rfl)
  |true=>
   refine Tot.no rfl (Tot.bind (Nfa w hw) ?_)
   rintro b rfl
   cases Sg w with
   |false=>exact Tot.yes rfl (Tot.pure rfl)
   |true=>
    refine Tot.no rfl (Tot.bind (Vsa w hw) ?_)
    rintro b rfl
    cases J5a w with
    |false=>exact Tot.yes rfl (Tot.pure rfl)
    |true=>
     refine Tot.no rfl (Tot.bind (J6a w hw) ?_)
     rintro b rfl
     cases Oe w with
     |false=>exact Tot.yes rfl (Tot.pure rfl)
     |true=>exact Tot.no rfl (Tot.pure rfl)

def run {α:Type} (st:α→Nat→α) (n:Nat) (a:α):α:=(List.range n).foldl st a
theorem Tg {α:Type} (st:α→Nat→α) (n:Nat) (a:α):run st (n+1) a=st (run st n a) n:=by
 unfold run
 rw [List.range_succ,List.foldl_append]
 rfl
theorem Vua {α:Type} {st:α→Nat→α} {a:α} {j n:Nat} (hj:j≤n) (h:∀ i,st (run st j a) i=run st j a):run st n a=run st j a:=by
 obtain ⟨m,rfl⟩:=Nat.exists_eq_add_of_le hj
 induction m with
 |zero=>rfl
 |succ m ih=>rw [← Nat.add_assoc,Tg,ih (by omega),h]
theorem Qu {α:Type} {st:α→Nat→α} (P:Nat→α→Prop) {n:Nat} {a:α} (h0:P 0 a) (hs:∀ j b,j<n→P j b→P (j+1) (st b j)):P n (run st n a):=by
 have:∀ m,m≤n→P m (run st m a):=by
  intro m
  induction m with
  |zero=>intro _; exact h0
  |succ m ih=>intro hm; rw [Tg]; exact hs m _ (by omega) (ih (by omega))
 exact this n (Nat.le_refl _)
def NS (ns:List Nod):Prop:=ns.length≤2000000∧∀ n∈ns,NG n
theorem NS.set {ns:List Nod} (h:NS ns) {i:Nat} {n:Nod} (hn:NG n):NS (ns.set i n):=⟨by rw [List.length_set]; exact h.1,λ m hm=>by
 rcases List.mem_or_eq_of_mem_set hm with hm|rfl
 ·exact h.2 m hm
 ·exact hn⟩
theorem NS.get {ns:List Nod} (h:NS ns) {i:Nat} (hi:i<ns.length):NG (ns.getD i Cr):=h.2 _ (A4 hi)
abbrev wN (w:Wld) (ns:List Nod):Wld:=(w.1,w.2.1,ns,w.2.2.2)
def Ol (c:Stp) (t d:Int):Stp:=bif decide (t≤c.1) then (bif G3 (c.1,c.2.1+1,d) then (c.1,c.2.1+1,d) else c) else (bif G3 (t,0,d) then (t,0,d) else c)
theorem Sca {c:Stp} (hc:G3 c=true) (t d:Int):Gp c t d=some (Ol c t d):=by
 have h2:0≤c.2.1∧c.2.1≤1000000:=by
  unfold G3 at hc
  rw [Bool.and_eq_true,Bool.and_eq_true,Ew,Ew] at hc
  exact hc.2.1
 unfold Gp Ol
 rw [w64 (n:=c.2.1+1) (by omega) (by omega)]
 simp only [Qk,Option.bind_some]
 cases decide (t≤c.1) with
 |true=>cases G3 (c.1,c.2.1+1,d)<;>rfl
 |false=>cases G3 (t,0,d)<;>rfl
theorem Lua {c:Stp} (hc:G3 c=true) (t d:Int):G3 (Ol c t d)=true∧(Ol c t d=c∨sle c (Ol c t d)=true):=by
 unfold Ol
 by_cases h:t≤c.1
 ·rw [decide_eq_true h,cond_true]
  cases hs:G3 (c.1,c.2.1+1,d) with
  |true=>exact ⟨hs,.inr (Qj.2 (.inr ⟨rfl,.inl (by show c.2.1<c.2.1+1; omega)⟩))⟩
  |false=>exact ⟨hc,.inl rfl⟩
 ·rw [decide_eq_false h,cond_false]
  cases hs:G3 (t,0,d) with
  |true=>exact ⟨hs,.inr (Qj.2 (.inl (by show c.1<t; omega)))⟩
  |false=>exact ⟨hc,.inl rfl⟩
def wst (R:Int) (rc:List Int) (s:ByteArray) (f:Fil) (cs:List Int) (a:List Nod×Int×Int) (j:Nat):List Nod×Int×Int:=
 bif decide (a.2.1<R) then (bif rch rc j==0 then a else
  (a.1.set (cs.getD j 0).toNat (W8 (a.1.getD (cs.getD j 0).toNat Cr) s f (rch rc j != 3)).1,a.2.1+1,
   bif rch rc j==1&&((W8 (a.1.getD (cs.getD j 0).toNat Cr) s f (rch rc j != 3)).2==0 || (W8 (a.1.getD (cs.getD j 0).toNat Cr) s f (rch rc j != 3)).2==1) then a.2.2+1 else a.2.2))
 else a
def wrN (w:Wld) (s:ByteArray) (f:Fil) (rc:List Int):List Nod×Int×Int:=run (wst w.2.1.1 rc s f (K5 w s)) (K5 w s).length (w.2.2.1,0,0)
def Gga (w:Wld) (s:ByteArray) (f:Fil) (rc:List Int):Int×Wld:=
 (bif decide ((wrN w s f rc).2.2≥quo w.2.1.1) then 0 else 1,(w.1,w.2.1,(wrN w s f rc).1,w.2.2.2.1,w.2.2.2.2.1++[(s,f,decide ((wrN w s f rc).2.2≥quo w.2.1.1))],w.2.2.2.2.2))
theorem A8a {w:Wld} {s:ByteArray} {x:Int} (h:x∈K5 w s):0≤x∧x<(w.2.2.1.length:Int):=by
 obtain ⟨j,h1,_,rfl⟩:=Doa.1 h
 omega
theorem Bxb {R:Int} {rc:List Int} {s:ByteArray} {f:Fil} {cs:List Int} {a:List Nod×Int×Int} {j m:Nat} (hs:Br s=true) (hf:G6 f=true) (h:NS a.1∧a.1.length=m∧(0≤a.2.1∧a.2.1≤j)∧0≤a.2.2∧a.2.2≤j) (hc:(cs.getD j 0).toNat<m):
  let b:=wst R rc s f cs a j
  NS b.1∧b.1.length=m∧(0≤b.2.1∧b.2.1≤((j+1:Nat):Int))∧0≤b.2.2∧b.2.2≤((j+1:Nat):Int):=by
 obtain ⟨h1,h2,h3,h4,h5⟩:=h
 intro b
 have hb:b=wst R rc s f cs a j:=rfl
 unfold wst at hb
 cases hR:decide (a.2.1<R) with
 |false=>rw [hR,cond_false] at hb; rw [hb]; exact ⟨h1,h2,⟨h3.1,by omega⟩,h4,by omega⟩
 |true=>
  rw [hR,cond_true] at hb
  cases hr:rch rc j==0 with
  |true=>rw [hr,cond_true] at hb; rw [hb]; exact ⟨h1,h2,⟨h3.1,by omega⟩,h4,by omega⟩
  |false=>
   rw [hr,cond_false] at hb
   rw [hb]
   refine ⟨h1.set (Rda (h1.get (by omega)) hs hf),by rw [List.length_set]; exact h2,⟨by dsimp only; omega,by dsimp only; omega⟩,?_⟩
   dsimp only
   cases rch rc j==1&&((W8 (a.1.getD (cs.getD j 0).toNat Cr) s f (rch rc j != 3)).2==0 || (W8 (a.1.getD (cs.getD j 0).toNat Cr) s f (rch rc j != 3)).2==1)
   ·exact ⟨h4,by rw [cond_false]; omega⟩
   ·exact ⟨by rw [cond_true]; omega,by rw [cond_true]; omega⟩
theorem Nga (w:Wld) (s:ByteArray) (f:Fil) (rc:List Int) (hr:Ir w.2.1 w.1=true) (hn:NS w.2.2.1) (hs:Br s=true) (hf:G6 f=true) (hw:w.2.2.2.2.1.length≤2000000):
  Tot (λ k=>Bq k w s f rc) (λ r=>r=Gga w s f rc):=by
 have hsz:s.size≤1000000000:=by
  have:=Ew.1 (Bool.and_eq_true _ _ ▸ hs:_∧_).2
  omega
 obtain ⟨_,hR,_⟩:=Dj.1 hr
 unfold Bq Gga
 refine Tot.bind (Gda w s hr hn.1 hsz) ?_
 rintro cs rfl
 have hc:=λ x=>A8a (w:=w) (s:=s) (x:=x)
 have hcl:(K5 w s).length≤4000000000000:=by
  unfold K5
  refine Rh hn.1 ?_
  have h5:=(Dj.1 hr).2.1
  have p2:=(Dla hr s).2.1
  have h12:=(Hs.1 (Dj.1 hr).1).2.2.2
  have hh:=Ut w.2.1 w.1 s
  rw [List.length_append]; omega
 have hrun:wrN w s f rc=run (wst w.2.1.1 rc s f (K5 w s)) (K5 w s).length (w.2.2.1,0,0):=rfl
 have inv:∀ n,n≤(K5 w s).length→NS (run (wst w.2.1.1 rc s f (K5 w s)) n (w.2.2.1,0,0)).1∧(run (wst w.2.1.1 rc s f (K5 w s)) n (w.2.2.1,0,0)).1.length=w.2.2.1.length∧(0≤(run (wst w.2.1.1 rc s f (K5 w s)) n (w.2.2.1,0,0)).2.1∧(run (wst w.2.1.1 rc s f (K5 w s)) n (w.2.2.1,0,0)).2.1≤n)∧0≤(run (wst w.2.1.1 rc s f (K5 w s)) n (w.2.2.1,0,0)).2.2∧(run (wst w.2.1.1 rc s f (K5 w s)) n (w.2.2.1,0,0)).2.2≤n:=by
  intro n hn'
  refine Qu (λ j (b:List Nod×Int×Int)=>NS b.1∧b.1.length=w.2.2.1.length∧(0≤b.2.1∧b.2.1≤(j:Int))∧0≤b.2.2∧b.2.2≤(j:Int)) ⟨hn,rfl,⟨Int.le_refl _,Int.le_refl _⟩,Int.le_refl _,Int.le_refl _⟩ (λ j b hj hb=>Bxb hs hf hb ?_)
  have:=hc _ (A4 (d:=0) (show j<(K5 w s).length by omega))
  omega
 generalize hcs:K5 w s=cs at *
 refine Tot.bind (Q:=λ r=>r=(s,(wrN w s f rc).2.2,wN w (wrN w s f rc).1,f)) ?_ ?_
 ·refine Tot.up (L:=λ k i (a:List Nod×Int×Int)=>Ax k s rc cs a.2.1 a.2.2 i (wN w a.1) f) (Q:=λ r=>r=(s,(wrN w s f rc).2.2,wN w (wrN w s f rc).1,f)) cs.length (λ j a=>a=run (wst w.2.1.1 rc s f cs) j (w.2.2.1,0,0)) ?_ ?_ 0 (w.2.2.1,0,0) (Nat.zero_le _) rfl
  ·rintro a rfl
   simp (disch:=omega) only [Ax,dF]
   exact Tot.pure (by rw [hrun])
  ·rintro j a hj rfl next
   obtain ⟨i1,i2,i3,i4,i5⟩:=inv j (by omega)
   rw [Tg] at next
   have hst:=Vua (st:=wst w.2.1.1 rc s f cs) (a:=(w.2.2.1,(0:Int),(0:Int))) (j:=j) (n:=cs.length) (by omega)
   generalize run (wst w.2.1.1 rc s f cs) j (w.2.2.1,0,0)=a at *
   obtain ⟨ns,o,g⟩:=a
   dsimp only at i1 i2 i3 i4 i5
   have hci:=hc _ (A4 (d:=0) hj)
   obtain ⟨i,ei⟩:∃ i:Nat,cs.getD j 0=(i:Int):=⟨(cs.getD j 0).toNat,by omega⟩
   rw [ei] at hci
   unfold wst at next
   rw [ei,Int.toNat_natCast] at next
   simp (disch:=omega) only [Ax,dT,wN]
   refine Tot.dite (λ hR'=>?_) (λ hR'=>Tot.pure ?_)
   ·dsimp only at next
    rw [decide_eq_true hR'] at next
    simp only [J1a,Option.bind_some]
    cases h0:rch rc j==0 with
    |true=>
     rw [h0] at next
     simp (disch:=omega) only [w64]
     exact Tot.yes rfl (next _ rfl)
    |false=>
     rw [h0] at next
     have e0:ns.getD i ((0:Int),(([],[]),([],[])))=ns.getD i Cr:=rfl
     simp (disch:=omega) only [dT,Int.toNat_natCast,w64,ei,e0,cond_false]
     refine Tot.bind (Fya (ns.getD i Cr) s f (rch rc j != 3) (Asa (i1.get (by omega))) (Kx hs)) ?_
     rintro p rfl
     dsimp only at next ⊢
     generalize W8 (ns.getD i Cr) s f (rch rc j != 3)=p at *
     cases h1:rch rc j==1 with
     |false=>
      rw [h1] at next
      exact Tot.no rfl (next _ rfl)
     |true=>
      rw [h1] at next
      refine Tot.yes rfl ?_
      cases h2:p.2==0 with
      |true=>rw [h2] at next; exact Tot.yes rfl (next _ rfl)
      |false=>
       rw [h2] at next
       refine Tot.no rfl ?_
       cases h3:p.2==1 with
       |true=>rw [h3] at next; exact Tot.yes rfl (next _ rfl)
       |false=>rw [h3] at next; exact Tot.no rfl (next _ rfl)
   ·rw [hrun,hst (λ i=>by unfold wst; dsimp only; rw [decide_eq_false hR']; rfl)]
 ·rintro r rfl
  obtain ⟨_,_,_,h4,h5⟩:=inv cs.length (Nat.le_refl _)
  dsimp only [wN]
  rw [Zja (by omega) (by omega)]
  have ec:Bd f=some f:=by
   have:=(Ld.1 hf).2.1
   unfold Bd
   rw [bT (by simp only [List.length_nil]; omega),List.nil_append]
  rw [ec]
  simp only [Option.bind_some]
  refine Tot.ble (by simp only [List.length_cons,List.length_nil]; omega) ?_
  cases decide ((wrN w s f rc).2.2≥quo w.2.1.1) with
  |true=>exact Tot.pure rfl
  |false=>exact Tot.pure rfl
def ask (w:Wld) (s:ByteArray) (f:Fil) (t:Int) (rc:List Int):Int×Wld:=
 bif !(Br s) then (2,w) else bif decide ((f.2.2.length:Int) > 200) then (2,w) else bif !(inR t 0 1000000000) then (2,w) else
 bif (w.2.2.2.2.1.length:Int)==200 then (3,w) else
 bif (Ol w.2.2.2.1 t 0).1==w.2.2.2.1.1&&((Ol w.2.2.2.1 t 0).2.1==w.2.2.2.1.2.1&&(Ol w.2.2.2.1 t 0).2.2==w.2.2.2.1.2.2) then (3,w) else
 Gga (w.1,w.2.1,w.2.2.1,Ol w.2.2.2.1 t 0,w.2.2.2.2) s (Ol w.2.2.2.1 t 0,f.2) rc
theorem Sda (w:Wld) (s:ByteArray) (f:Fil) (t:Int) (rc:List Int) (hr:Ir w.2.1 w.1=true) (hn:NS w.2.2.1) (hst:G3 w.2.2.2.1=true) (hs:Kj s) (hd:f.2.1=true→f.2.2=[]) (hw:w.2.2.2.2.1.length≤2000000):
  Tot (λ k=>He k w s f t rc) (λ r=>r=ask w s f t rc):=by
 unfold He ask
 refine Tot.bind (Ob s hs) ?_
 rintro b rfl
 cases hs':Br s with
 |false=>exact Tot.yes rfl (Tot.pure rfl)
 |true=>
  refine Tot.no rfl ?_
  rw [Bool.not_true,cond_false]
  by_cases hl:(f.2.2.length:Int) > 200
  ·rw [decide_eq_true hl]; exact Tot.yes rfl (Tot.pure rfl)
  ·rw [decide_eq_false hl,cond_false]
   refine Tot.no rfl ?_
   simp only [Ng,Sca hst,Option.bind_some]
   cases inR t 0 1000000000 with
   |false=>exact Tot.yes rfl (Tot.pure rfl)
   |true=>
    refine Tot.no rfl ?_
    rw [Bool.not_true,cond_false]
    cases (w.2.2.2.2.1.length:Int)==200 with
    |true=>exact Tot.yes rfl (Tot.pure rfl)
    |false=>
     refine Tot.no rfl ?_
     rw [cond_false]
     cases (Ol w.2.2.2.1 t 0).1==w.2.2.2.1.1&&((Ol w.2.2.2.1 t 0).2.1==w.2.2.2.1.2.1&&(Ol w.2.2.2.1 t 0).2.2==w.2.2.2.1.2.2) with
     |true=>exact Tot.yes rfl (Tot.pure rfl)
     |false=>
      refine Tot.no rfl (Tot.bind (Nga (w.1,w.2.1,w.2.2.1,Ol w.2.2.2.1 t 0,w.2.2.2.2) s (Ol w.2.2.2.1 t 0,f.2) rc hr hn hs' (Ld.2 ⟨(Lua hst t 0).1,by show f.2.2.length≤200; omega,hd⟩) hw) ?_)
      rintro r rfl
      exact Tot.pure rfl
def pst (src:Int) (s:ByteArray) (f:Fil) (rc ps:List Int) (a:List Nod×Bool×Bool) (j:Nat):List Nod×Bool×Bool:=
 bif ps.getD j 0==src then (a.1,true,a.2.2) else bif rch rc j != 1 then (a.1,a.2.1,false) else
  (a.1.set (ps.getD j 0).toNat ((a.1.getD (ps.getD j 0).toNat Cr).1,(keep (a.1.getD (ps.getD j 0).toNat Cr).2.1 s f true).1,(a.1.getD (ps.getD j 0).toNat Cr).2.2),a.2.1,
   bif (keep (a.1.getD (ps.getD j 0).toNat Cr).2.1 s f true).2 != 0&&(keep (a.1.getD (ps.getD j 0).toNat Cr).2.1 s f true).2 != 1 then false else a.2.2)
def Sh (w:Wld) (s:ByteArray):List Int:=whr w.2.2.1 (Ws w.2.1 s)
def puN (w:Wld) (i:Nat) (s:ByteArray) (rc:List Int):List Nod×Bool×Bool:=run (pst (i:Int) s (lkD (w.2.2.1.getD i Cr).2.1 s).1 rc (Sh w s)) (Sh w s).length (w.2.2.1,false,true)
def Dgb (n:Nod) (s:ByteArray):Nod:=(n.1,(syD (rmD n.2.1 s).1 s).1,n.2.2)
def Sea (w:Wld) (i:Nat) (s:ByteArray) (rc:List Int):Bool×Wld:=bif (lkD (w.2.2.1.getD i Cr).2.1 s).2 != 0 then (false,w) else
 (true,wN w (bif (puN w i s rc).2.2 && !(puN w i s rc).2.1 then (puN w i s rc).1.set i (Dgb ((puN w i s rc).1.getD i Cr) s) else (puN w i s rc).1))
theorem Byb {n:Nod} (hn:NG n) {s:ByteArray} (hs:Br s=true):NG (Dgb n s):=Dka hn (Z3a (Uva hn.g) hs)
theorem Sfa {n:Nod} (hn:NG n) {s:ByteArray} {f:Fil} {sure:Bool}:NG (n.1,(keep n.2.1 s f sure).1,n.2.2):=Dka hn (X0a hn.g)
theorem Xaa {src:Int} {s:ByteArray} {f:Fil} {rc ps:List Int} {a:List Nod×Bool×Bool} {j m:Nat} (h:NS a.1∧a.1.length=m) (hc:(ps.getD j 0).toNat<m):NS (pst src s f rc ps a j).1∧(pst src s f rc ps a j).1.length=m:=by
 unfold pst
 cases ps.getD j 0==src with
 |true=>exact h
 |false=>
  cases rch rc j != 1 with
  |true=>exact h
  |false=>exact ⟨h.1.set (Sfa (h.1.get (by have:=h.2; omega))),by rw [cond_false,cond_false,List.length_set]; exact h.2⟩
theorem Wv {w:Wld} {s:ByteArray} {x:Int} (h:x∈Sh w s):0≤x∧x<(w.2.2.1.length:Int):=by
 obtain ⟨j,h1,_,rfl⟩:=Doa.1 h
 omega
theorem Sga {w:Wld} {s:ByteArray} (hr:Ir w.2.1 w.1=true) (hn:w.2.2.1.length≤2000000):(Sh w s).length≤4000000000000:=Rh hn (Wu (Nz hr) s)
theorem Bzb {w:Wld} {i:Nat} {s:ByteArray} {rc:List Int} (hn:NS w.2.2.1):NS (puN w i s rc).1∧(puN w i s rc).1.length=w.2.2.1.length:=
 Qu (λ _ (b:List Nod×Bool×Bool)=>NS b.1∧b.1.length=w.2.2.1.length) ⟨hn,rfl⟩ (λ j b hj hb=>Xaa hb (by have:=Wv (A4 (d:=0) hj); omega))
theorem Vva (w:Wld) (i:Nat) (s:ByteArray) (rc:List Int) (hr:Ir w.2.1 w.1=true) (hn:NS w.2.2.1) (hi:i<w.2.2.1.length):Tot (λ k=>Ca k w (i:Int) s rc) (λ r=>r=Sea w i s rc):=by
 have hni:=hn.get hi
 unfold Ca Sea
 have e0:w.2.2.1.getD i ((0:Int),(([],[]),([],[])))=w.2.2.1.getD i Cr:=rfl
 simp (disch:=omega) only [dT,Int.toNat_natCast,e0]
 have hin:=(Asa hni).1
 refine Tot.bind (W6 hin.1.1.1.1 hin.2.1 s) ?_
 rintro r rfl
 cases hl:(lkD (w.2.2.1.getD i Cr).2.1 s).2 != 0 with
 |true=>exact Tot.yes rfl (Tot.pure rfl)
 |false=>
  refine Tot.no rfl ?_
  rw [cond_false]
  have hlk:∃ b,gt (w.2.2.1.getD i Cr).2.1.1 s=some b:=by
   rw [bne,Bool.not_eq_false',beq_iff_eq] at hl
   obtain ⟨b,hb,_⟩:=Z3.1 (show lkD (w.2.2.1.getD i Cr).2.1 s=((lkD (w.2.2.1.getD i Cr).2.1 s).1,0) from by rw [← hl])
   exact ⟨b,hb⟩
  have hs:Br s=true:=Z2a hni.g.1 (by obtain ⟨b,hb⟩:=hlk; rw [hb]; rfl)
  have hsz:s.size≤1000000000:=by
   have:=Ew.1 (Bool.and_eq_true _ _ ▸ hs:_∧_).2
   omega
  refine Tot.bind (Wt _ s (Nz hr) hsz) ?_
  rintro p rfl
  refine Tot.bind (Ri w _ hn.1 (Wu (Nz hr) s)) ?_
  rintro p rfl
  have hpl:=Sga (s:=s) hr hn.1
  have hc:=λ x=>Wv (w:=w) (s:=s) (x:=x)
  have hrun:puN w i s rc=run (pst (i:Int) s (lkD (w.2.2.1.getD i Cr).2.1 s).1 rc (Sh w s)) (Sh w s).length (w.2.2.1,false,true):=rfl
  obtain ⟨p1,p2⟩:=Bzb (w:=w) (i:=i) (s:=s) (rc:=rc) hn
  have inv:∀ n,n≤(Sh w s).length→NS (run (pst (i:Int) s (lkD (w.2.2.1.getD i Cr).2.1 s).1 rc (Sh w s)) n (w.2.2.1,false,true)).1∧(run (pst (i:Int) s (lkD (w.2.2.1.getD i Cr).2.1 s).1 rc (Sh w s)) n (w.2.2.1,false,true)).1.length=w.2.2.1.length:=λ n hn'=>
   Qu (λ _ (b:List Nod×Bool×Bool)=>NS b.1∧b.1.length=w.2.2.1.length) ⟨hn,rfl⟩ (λ j b hj hb=>Xaa hb (by have:=hc _ (A4 (d:=0) (show j<(Sh w s).length by omega)); omega))
  rw [show whr w.2.2.1 (Ws w.2.1 s)=Sh w s from rfl]
  generalize (lkD (w.2.2.1.getD i Cr).2.1 s).1=f at *
  generalize Sh w s=ps at *
  refine Tot.bind (Q:=λ r=>r=((i:Int),s,(puN w i s rc).2.1,(puN w i s rc).2.2,wN w (puN w i s rc).1)) ?_ ?_
  ·refine Tot.up (L:=λ k j (a:List Nod×Bool×Bool)=>Bb k (i:Int) s rc ps a.2.1 a.2.2 j (wN w a.1) f) (Q:=λ r=>r=((i:Int),s,(puN w i s rc).2.1,(puN w i s rc).2.2,wN w (puN w i s rc).1)) ps.length (λ j a=>a=run (pst (i:Int) s f rc ps) j (w.2.2.1,false,true)) ?_ ?_ 0 (w.2.2.1,false,true) (Nat.zero_le _) rfl
   ·rintro a rfl
    simp (disch:=omega) only [Bb,dF]
    exact Tot.pure (by rw [hrun])
   ·rintro j a hj rfl next
    obtain ⟨i1,i2⟩:=inv j (by omega)
    rw [Tg] at next
    generalize run (pst (i:Int) s f rc ps) j (w.2.2.1,false,true)=a at *
    obtain ⟨ns,o,g⟩:=a
    dsimp only at i1 i2
    have hci:=hc _ (A4 (d:=0) hj)
    obtain ⟨m,em⟩:∃ m:Nat,ps.getD j 0=(m:Int):=⟨(ps.getD j 0).toNat,by omega⟩
    rw [em] at hci
    unfold pst at next
    rw [em,Int.toNat_natCast] at next
    have e0:ns.getD m ((0:Int),(([],[]),([],[])))=ns.getD m Cr:=rfl
    simp (disch:=omega) only [Bb,dT,Int.toNat_natCast,w64,em,wN]
    cases hz:(m:Int)==(i:Int) with
    |true=>
     rw [hz] at next
     exact Tot.yes rfl (next _ rfl)
    |false=>
     rw [hz] at next
     refine Tot.no rfl ?_
     simp only [J1a,Option.bind_some]
     cases h1:rch rc j != 1 with
     |true=>
      rw [h1] at next
      exact Tot.yes rfl (next _ rfl)
     |false=>
      rw [h1] at next
      refine Tot.no rfl ?_
      simp (disch:=omega) only [dT,Int.toNat_natCast,e0]
      have hm:=Asa (i1.get (i:=m) (by omega))
      refine Tot.bind (Laa (ns.getD m Cr).2.1 s f true hm.1.1 hm.1.2.1 (Kx hs)) ?_
      rintro q rfl
      dsimp only at next
      generalize keep (ns.getD m Cr).2.1 s f true=q at *
      cases h2:q.2 != 0 with
      |false=>rw [h2] at next; exact Tot.no rfl (next _ rfl)
      |true=>
       rw [h2] at next
       refine Tot.yes rfl ?_
       cases h3:q.2 != 1 with
       |true=>rw [h3] at next; exact Tot.yes rfl (next _ rfl)
       |false=>rw [h3] at next; exact Tot.no rfl (next _ rfl)
  ·rintro r rfl
   dsimp only [wN]
   generalize puN w i s rc=a at *
   obtain ⟨ns,o,g⟩:=a
   dsimp only at p1 p2 ⊢
   cases g with
   |false=>exact Tot.no rfl (Tot.pure rfl)
   |true=>
    refine Tot.yes rfl ?_
    cases o with
    |true=>exact Tot.no rfl (Tot.pure rfl)
    |false=>
     refine Tot.yes rfl ?_
     have e0:ns.getD i ((0:Int),(([],[]),([],[])))=ns.getD i Cr:=rfl
     have hil:(i:Int)<(ns.length:Int):=by omega
     simp (disch:=omega) only [dT,Int.toNat_natCast,e0]
     have hg:=(p1.get (i:=i) (by omega)).g
     refine Tot.bind (Sa hg.1 (Kx hs)) ?_
     rintro q rfl
     refine Tot.bind (Td (Uva hg).1 hs) ?_
     rintro q rfl
     exact Tot.pure rfl

def tk (n:Nod) (l:List Row):Bool×Nod:=bif decide ((Y2 n.2.2.1 l).length > 60) then (false,n) else (true,(n.1,n.2.1,Y2 n.2.2.1 l,n.2.2.2))
theorem Dhb {n:Nod} {l:List Row} (hn:NG n) (hl:Kk l=true):NG (tk n l).2:=by
 obtain ⟨h1,h2,h3,h4,h5⟩:=Di.1 hn.1
 unfold tk
 by_cases h:(Y2 n.2.2.1 l).length > 60
 ·rw [decide_eq_true h]; exact hn
 ·rw [decide_eq_false h]
  exact ⟨Di.2 ⟨h1,h2,h3,Z4 h4 hl (by omega),h5⟩,hn.2⟩
def gst (src:Int) (l:List Row) (self:Bool) (rc ls:List Int) (a:List Nod×Bool) (j:Nat):List Nod×Bool:=
 bif ls.getD j 0==src && !self then a else bif rch rc j != 1 then (a.1,false) else
  (a.1.set (ls.getD j 0).toNat (tk (a.1.getD (ls.getD j 0).toNat Cr) l).2,bif (tk (a.1.getD (ls.getD j 0).toNat Cr) l).1 then a.2 else false)
def Qv (w:Wld) (src:Int) (l:List Row) (self:Bool) (rc:List Int):List Nod×Bool:=run (gst src l self rc (Lj w)) (Lj w).length (w.2.2.1,true)
theorem Xba {src:Int} {l:List Row} {self:Bool} {rc ls:List Int} {a:List Nod×Bool} {j m:Nat} (hl:Kk l=true) (h:NS a.1∧a.1.length=m) (hc:(ls.getD j 0).toNat<m):NS (gst src l self rc ls a j).1∧(gst src l self rc ls a j).1.length=m:=by
 unfold gst
 cases ls.getD j 0==src && !self with
 |true=>exact h
 |false=>
  cases rch rc j != 1 with
  |true=>exact h
  |false=>exact ⟨h.1.set (Dhb (h.1.get (by have:=h.2; omega)) hl),by rw [cond_false,cond_false,List.length_set]; exact h.2⟩
theorem Uh {w:Wld} {x:Int} (h:x∈Lj w):0≤x∧x<(w.2.2.1.length:Int):=by
 obtain ⟨j,h1,_,rfl⟩:=Doa.1 h
 omega
theorem A9a {w:Wld} (hr:RBd w.2.1) (hn:w.2.2.1.length≤2000000):(Lj w).length≤4000000000000:=Rh hn (Wu hr _)
theorem Lva {w:Wld} {src:Int} {l:List Row} {self:Bool} {rc:List Int} (hl:Kk l=true) (hn:NS w.2.2.1):NS (Qv w src l self rc).1∧(Qv w src l self rc).1.length=w.2.2.1.length:=
 Qu (λ _ (b:List Nod×Bool)=>NS b.1∧b.1.length=w.2.2.1.length) ⟨hn,rfl⟩ (λ j b hj hb=>Xba hl hb (by have:=Uh (A4 (d:=0) hj); omega))
theorem Lwa (w:Wld) (src:Int) (l:List Row) (self:Bool) (rc:List Int) (hr:RBd w.2.1) (hn:NS w.2.2.1) (hl:Kk l=true):
  Tot (λ k=>Bf k w src l self rc) (λ r=>r=((Qv w src l self rc).2,wN w (Qv w src l self rc).1)):=by
 have hll:=(Ima hl).1
 unfold Bf
 refine Tot.bind (A5a w hr hn.1) ?_
 rintro p rfl
 have hpl:=A9a hr hn.1
 have hc:=λ x=>Uh (w:=w) (x:=x)
 have hrun:Qv w src l self rc=run (gst src l self rc (Lj w)) (Lj w).length (w.2.2.1,true):=rfl
 have inv:∀ n,n≤(Lj w).length→NS (run (gst src l self rc (Lj w)) n (w.2.2.1,true)).1∧(run (gst src l self rc (Lj w)) n (w.2.2.1,true)).1.length=w.2.2.1.length:=λ n hn'=>
  Qu (λ _ (b:List Nod×Bool)=>NS b.1∧b.1.length=w.2.2.1.length) ⟨hn,rfl⟩ (λ j b hj hb=>Xba hl hb (by have:=hc _ (A4 (d:=0) (show j<(Lj w).length by omega)); omega))
 generalize Lj w=ls at *
 refine Tot.bind (Q:=λ r=>r=((Qv w src l self rc).2,wN w (Qv w src l self rc).1)) ?_ (by rintro r rfl; exact Tot.pure rfl)
 refine Tot.up (L:=λ k j (a:List Nod×Bool)=>Ad k src l self rc ls a.2 j (wN w a.1)) (Q:=λ r=>r=((Qv w src l self rc).2,wN w (Qv w src l self rc).1)) ls.length (λ j a=>a=run (gst src l self rc ls) j (w.2.2.1,true)) ?_ ?_ 0 (w.2.2.1,true) (Nat.zero_le _) rfl
 ·rintro a rfl
  simp (disch:=omega) only [Ad,dF]
  exact Tot.pure (by rw [hrun])
 ·rintro j a hj rfl next
  obtain ⟨i1,i2⟩:=inv j (by omega)
  rw [Tg] at next
  generalize run (gst src l self rc ls) j (w.2.2.1,true)=a at *
  obtain ⟨ns,g⟩:=a
  dsimp only at i1 i2
  have hci:=hc _ (A4 (d:=0) hj)
  obtain ⟨m,em⟩:∃ m:Nat,ls.getD j 0=(m:Int):=⟨(ls.getD j 0).toNat,by omega⟩
  rw [em] at hci
  unfold gst at next
  rw [em,Int.toNat_natCast] at next
  have e0:ns.getD m ((0:Int),(([],[]),([],[])))=ns.getD m Cr:=rfl
  have hm:=Asa (i1.get (i:=m) (by omega))
  have h12:=C1a (ns.getD m Cr) l hm.2.1.1 hll
  rw [show (bif decide ((Y2 (ns.getD m Cr).2.2.1 l).length > 60) then (false,(ns.getD m Cr)) else (true,((ns.getD m Cr).1,(ns.getD m Cr).2.1,Y2 (ns.getD m Cr).2.2.1 l,(ns.getD m Cr).2.2.2)))=tk (ns.getD m Cr) l from rfl] at h12
  have body:(bif (m:Int)==src && !self then false else true)=true→Tot (λ k=>(Bs rc (j:Int)).bind λ r2=>cond (r2 != 1) (Ad k src l self rc ls false ((j:Int)+1) (wN w ns)) (cond (decide ((0:Int)≤(m:Int))) (cond (decide ((m:Int)<(List.length ns:Int))) ((Hn k (ns.getD m Cr) l).bind λ r5=>cond (!r5.1) (Ad k src l self rc ls false ((j:Int)+1) (wN w (ns.set m r5.2))) (Ad k src l self rc ls g ((j:Int)+1) (wN w (ns.set m r5.2)))) none) none)) (λ r=>r=((Qv w src l self rc).2,wN w (Qv w src l self rc).1)):=by
   intro hb
   have hb':((m:Int)==src && !self)=false:=by
    cases hx:((m:Int)==src && !self) with
    |false=>rfl
    |true=>rw [hx] at hb; cases hb
   rw [hb'] at next
   simp only [J1a,Option.bind_some]
   cases h1:rch rc j != 1 with
   |true=>
    rw [h1] at next
    exact Tot.yes rfl (next _ rfl)
   |false=>
    rw [h1] at next
    refine Tot.no rfl (Tot.dec (by omega) (Tot.dec (by omega) (Tot.bind h12 ?_)))
    rintro q rfl
    dsimp only at next
    generalize tk (ns.getD m Cr) l=q at *
    cases h2:q.1 with
    |false=>rw [h2] at next; exact Tot.yes rfl (next _ rfl)
    |true=>rw [h2] at next; exact Tot.no rfl (next _ rfl)
  simp (disch:=omega) only [Ad,dT,Int.toNat_natCast,w64,em,e0]
  cases hz:(m:Int)==src with
  |true=>
   rw [hz] at next body
   refine Tot.yes rfl ?_
   cases self with
   |false=>exact Tot.yes rfl (next _ rfl)
   |true=>
    refine Tot.no rfl ?_
    have:=body rfl
    dsimp only [wN] at this ⊢
    simp (disch:=omega) only [dT] at this
    exact this
  |false=>
   rw [hz] at next body
   refine Tot.no rfl ?_
   have:=body rfl
   dsimp only [wN] at this ⊢
   simp (disch:=omega) only [dT] at this
   exact this
theorem Nha {r:Row} (h:Mj r=true):Kk [r]=true:=Mr.2 ⟨List.pairwise_singleton _ _,λ x hx=>by rw [List.mem_singleton.1 hx]; exact h,by simp⟩
theorem Ui:Kk []=true:=Mr.2 ⟨List.Pairwise.nil,(λ _ hx=>nomatch hx),Nat.zero_le _⟩
def Xca (n:Nod):Nod:=(n.1,n.2.1,[],n.2.2.2)
def Dib (n:Nod) (q:List Row):Nod:=(n.1,n.2.1,n.2.2.1,q)
theorem Vwa {n:Nod} (hn:NG n):NG (Xca n):=by
 obtain ⟨h1,h2,h3,h4,h5⟩:=Di.1 hn.1
 exact ⟨Di.2 ⟨h1,h2,h3,Ui,h5⟩,hn.2⟩
theorem C0b {n:Nod} {q:List Row} (hn:NG n) (h:∀ r∈q,Mj r=true) (hl:q.length≤60):NG (Dib n q):=by
 obtain ⟨h1,h2,h3,h4,h5⟩:=Di.1 hn.1
 exact ⟨Di.2 ⟨h,h2,h3,h4,hl⟩,hn.2⟩
def Aaa (w:Wld) (i:Nat) (rc:List Int):List Nod×Bool:=Qv w (i:Int) (w.2.2.1.getD i Cr).2.2.1 false rc
def Sha (w:Wld) (i:Nat) (rc:List Int):Bool×Wld:=bif ((w.2.2.1.getD i Cr).2.2.1.length:Int)==0 then (false,w) else
 (true,wN w (bif (Aaa w i rc).2 && !(Ny (Lj (wN w (Aaa w i rc).1)) (i:Int)) then (Aaa w i rc).1.set i (Xca ((Aaa w i rc).1.getD i Cr)) else (Aaa w i rc).1))
theorem Sia (w:Wld) (i:Nat) (rc:List Int) (hr:RBd w.2.1) (hn:NS w.2.2.1) (hi:i<w.2.2.1.length):Tot (λ k=>Gr k w (i:Int) rc) (λ r=>r=Sha w i rc):=by
 have hni:=hn.get hi
 have e0:w.2.2.1.getD i ((0:Int),(([],[]),([],[])))=w.2.2.1.getD i Cr:=rfl
 have hl:=(Di.1 hni.1).2.2.2.1
 unfold Gr Sha
 simp (disch:=omega) only [dT,Int.toNat_natCast,e0]
 cases hz:((w.2.2.1.getD i Cr).2.2.1.length:Int)==0 with
 |true=>exact Tot.yes rfl (Tot.pure rfl)
 |false=>
  refine Tot.no rfl (Tot.bind (Lwa w (i:Int) _ false rc hr hn hl) ?_)
  rintro r rfl
  obtain ⟨p1,p2⟩:=Lva (w:=w) (src:=(i:Int)) (self:=false) (rc:=rc) hl hn
  rw [show Qv w (i:Int) (w.2.2.1.getD i Cr).2.2.1 false rc=Aaa w i rc from rfl] at p1 p2 ⊢
  generalize Aaa w i rc=a at *
  obtain ⟨ns,g⟩:=a
  dsimp only at p1 p2 ⊢
  cases g with
  |false=>exact Tot.no rfl (Tot.pure rfl)
  |true=>
   refine Tot.yes rfl ?_
   refine Tot.bind (Q:=λ r=>r=Ny (Lj (wN w ns)) (i:Int)) ?_ ?_
   ·unfold It
    refine Tot.bind (A5a (wN w ns) hr p1.1) ?_
    rintro p rfl
    refine Tot.bind (Sc _ _ (by have:=A9a (w:=wN w ns) hr p1.1; omega)) ?_
    rintro b rfl
    exact Tot.pure rfl
   ·rintro b rfl
    cases Ny (Lj (wN w ns)) (i:Int) with
    |true=>exact Tot.no rfl (Tot.pure rfl)
    |false=>
     have e1:ns.getD i ((0:Int),(([],[]),([],[])))=ns.getD i Cr:=rfl
     refine Tot.yes rfl ?_
     simp (disch:=omega) only [dT,Int.toNat_natCast,e1]
     exact Tot.pure rfl
def Axa (w:Wld) (i:Nat) (rc:List Int):List Nod×Bool:=Qv w (i:Int) ((w.2.2.1.getD i Cr).2.2.2.take 1) true rc
def Sja (w:Wld) (i:Nat) (rc:List Int):Bool×Wld:=bif ((w.2.2.1.getD i Cr).2.2.2.length:Int)==0 then (false,w) else
 (true,wN w (bif (Axa w i rc).2 then (Axa w i rc).1.set i (Dib ((Axa w i rc).1.getD i Cr) ((w.2.2.1.getD i Cr).2.2.2.drop 1)) else (Axa w i rc).1))
theorem Aba {q:List Row} (h:∀ r∈q,Mj r=true):Kk (q.take 1)=true:=by
 cases q with
 |nil=>exact Ui
 |cons r q=>exact Nha (h r List.mem_cons_self)
theorem Ska (w:Wld) (i:Nat) (rc:List Int) (hr:RBd w.2.1) (hn:NS w.2.2.1) (hi:i<w.2.2.1.length):Tot (λ k=>Gt k w (i:Int) rc) (λ r=>r=Sja w i rc):=by
 have hni:=hn.get hi
 have e0:w.2.2.1.getD i ((0:Int),(([],[]),([],[])))=w.2.2.1.getD i Cr:=rfl
 obtain ⟨hq,_,_,_,hq60⟩:=Di.1 hni.1
 have hl:=Aba hq
 unfold Gt Sja
 simp (disch:=omega) only [dT,Int.toNat_natCast,e0]
 cases hz:((w.2.2.1.getD i Cr).2.2.2.length:Int)==0 with
 |true=>exact Tot.yes rfl (Tot.pure rfl)
 |false=>
  have h1:=beq_eq_false_iff_ne.1 hz
  refine Tot.no rfl (Tot.dec (by omega) (Tot.bind (Lwa w (i:Int) _ true rc hr hn hl) ?_))
  rintro r rfl
  obtain ⟨p1,p2⟩:=Lva (w:=w) (src:=(i:Int)) (self:=true) (rc:=rc) hl hn
  rw [show Qv w (i:Int) ((w.2.2.1.getD i Cr).2.2.2.take (Int.toNat 1)) true rc=Axa w i rc from rfl]
  rw [show Qv w (i:Int) ((w.2.2.1.getD i Cr).2.2.2.take 1) true rc=Axa w i rc from rfl] at p1 p2
  generalize Axa w i rc=a at *
  obtain ⟨ns,g⟩:=a
  dsimp only at p1 p2 ⊢
  cases g with
  |false=>exact Tot.no rfl (Tot.pure rfl)
  |true=>
   refine Tot.yes rfl (Tot.dec (by omega) (Tot.ble (by rw [List.length_drop,List.length_nil]; omega) ?_))
   have e1:ns.getD i ((0:Int),(([],[]),([],[])))=ns.getD i Cr:=rfl
   simp (disch:=omega) only [dT,Int.toNat_natCast,e1,List.nil_append]
   exact Tot.pure rfl
theorem Sla:∀ (k:Nat) (l:List ByteArray) (s:ByteArray),k<l.length→∃ j,j≤k∧(Gra l k s).2=j∧(Gra l k s).1.set j s=l.take j++s::((l.take k).drop j++l.drop (k+1))∧(∀ y∈(l.take k).drop j,tlt s y=true)∧(0<j→tlt s (l.getD (j - 1) Oi)=false)
 |0,l,s,hk=>by
  refine ⟨0,Nat.le_refl _,rfl,?_,λ y hy=>by simp at hy,λ h=>by omega⟩
  cases l with
  |nil=>simp at hk
  |cons x l=>rfl
 |k+1,l,s,hk=>by
  unfold Gra
  cases hc:tlt s (l.getD k Oi) with
  |false=>
   rw [cond_false]
   refine ⟨k+1,Nat.le_refl _,rfl,?_,λ y hy=>?_,λ _=>hc⟩
   ·rw [List.drop_take,Nat.sub_self,List.take_zero,List.nil_append]
    exact List.set_eq_take_append_cons_drop .. |>.trans (if_pos hk)
   ·rw [List.drop_take,Nat.sub_self,List.take_zero] at hy; cases hy
  |true=>
   rw [cond_true]
   obtain ⟨j,h1,h2,h3,h4,h5⟩:=Sla k (l.set (k+1) (l.getD k Oi)) s (by rw [List.length_set]; omega)
   have t1:(l.set (k+1) (l.getD k Oi)).take j=l.take j:=by rw [List.take_set_of_le (by omega)]
   have t2:(l.set (k+1) (l.getD k Oi)).take k=l.take k:=by rw [List.take_set_of_le (by omega)]
   have t3:(l.set (k+1) (l.getD k Oi)).drop (k+1)=l.getD k Oi::l.drop (k+2):=by
    rw [List.drop_eq_getElem_cons (by rw [List.length_set]; exact hk),List.getElem_set_self,List.drop_set_of_lt (by omega)]
   have t4:l.take (k+1)=l.take k++[l.getD k Oi]:=by
    rw [List.take_succ_eq_append_getElem (by omega),List.getD_eq_getElem?_getD,List.getElem?_eq_getElem (by omega),Option.getD_some]
   have hlk:(l.take k).length=k:=by rw [List.length_take]; omega
   rw [t1,t2,t3] at h3
   rw [t2] at h4
   refine ⟨j,by omega,h2,?_,λ y hy=>?_,λ h=>?_⟩
   ·rw [h3,t4,List.drop_append_of_le_length (by omega),List.append_assoc]
    rfl
   ·rw [t4,List.drop_append_of_le_length (by omega)] at hy
    rcases List.mem_append.1 hy with hy|hy
    ·exact h4 y hy
    ·rw [List.mem_singleton.1 hy]; exact hc
   ·have:=h5 h
    rwa [List.getD_eq_getElem?_getD,List.getElem?_set_ne (by omega),← List.getD_eq_getElem?_getD] at this
theorem C6a {l:List ByteArray} {s:ByteArray}:∃ j,j≤l.length∧X9a l s=l.take j++s::l.drop j∧(∀ y∈l.drop j,tlt s y=true)∧(0<j→tlt s (l.getD (j - 1) Oi)=false):=by
 obtain ⟨j,h1,h2,h3,h4,h5⟩:=Sla l.length (l++[s]) s (by simp)
 have t1:(l++[s]).take l.length=l:=by rw [List.take_append_of_le_length (Nat.le_refl _),List.take_length]
 have t2:(l++[s]).drop (l.length+1)=[]:=List.drop_eq_nil_of_le (by simp)
 have t3:(l++[s]).take j=l.take j:=List.take_append_of_le_length h1
 rw [t1] at h4
 rw [t1,t2,t3,List.append_nil] at h3
 refine ⟨j,h1,?_,h4,λ h=>?_⟩
 ·unfold X9a
  rw [h2,h3]
 ·have:=h5 h
  rwa [List.getD_eq_getElem?_getD,List.getElem?_append_left (by omega),← List.getD_eq_getElem?_getD] at this
def spl (l:List ByteArray) (s:ByteArray):List ByteArray:=bif Aua l s then l else X9a l s
theorem J7a {l:List ByteArray} {s y:ByteArray}:y∈spl l s↔y=s∨y∈l:=by
 unfold spl
 cases h:Aua l s with
 |true=>
  have:=Lqa.1 h
  exact ⟨.inr,λ h=>h.elim (λ e=>e ▸ this) id⟩
 |false=>
  obtain ⟨j,_,e,_⟩:=C6a (l:=l) (s:=s)
  rw [cond_false,e,List.mem_append,List.mem_cons]
  conv=>rhs; rw [← List.take_append_drop j l,List.mem_append]
  constructor
  ·rintro (h|h|h)
   ·exact .inr (.inl h)
   ·exact .inl h
   ·exact .inr (.inr h)
  ·rintro (h|h|h)
   ·exact .inr (.inl h)
   ·exact .inl h
   ·exact .inr (.inr h)
theorem Nia {l:List ByteArray} {s:ByteArray} (h:TS l):TS (spl l s):=by
 unfold spl
 cases hh:Aua l s with
 |true=>exact h
 |false=>
  have hn:s∉l:=λ c=>by rw [Lqa.2 c] at hh; cases hh
  obtain ⟨j,h1,e,h4,h5⟩:=C6a (l:=l) (s:=s)
  rw [cond_false,e]
  have hs:∀ y∈l.take j,tlt y s=true:=by
   intro y hy
   by_cases hj:0<j
   ·have hlast:l.getD (j - 1) Oi∈l:=A4 (by omega)
    have hlt:tlt (l.getD (j - 1) Oi) s=true:=by
     cases hc:tlt (l.getD (j - 1) Oi) s with
     |true=>rfl
     |false=>exact absurd (Xw hc (h5 hj) ▸ hlast) hn
    obtain ⟨i,hi,rfl⟩:=List.mem_iff_getElem.1 hy
    rw [List.length_take] at hi
    rw [List.getElem_take]
    by_cases hij:i=j - 1
    ·subst hij
     rwa [List.getD_eq_getElem?_getD,List.getElem?_eq_getElem (by omega),Option.getD_some] at hlt
    ·have:=List.pairwise_iff_getElem.1 h i (j - 1) (by omega) (by omega) (by omega)
     rw [List.getD_eq_getElem?_getD,List.getElem?_eq_getElem (by omega),Option.getD_some] at hlt
     exact Mi this hlt
   ·rw [show j=0 by omega,List.take_zero] at hy; cases hy
  have hd:TS (l.drop j):=h.sublist (List.drop_sublist _ _)
  have ht:TS (l.take j):=h.sublist (List.take_sublist _ _)
  exact List.pairwise_append.2 ⟨ht,List.pairwise_cons.2 ⟨h4,hd⟩,λ a ha b hb=>by
   rcases List.mem_cons.1 hb with rfl|hb
   ·exact hs a ha
   ·exact Mi (hs a ha) (h4 b hb)⟩
theorem Sma (l:List ByteArray) (s:ByteArray) (hl:l.length≤5000000):Tot (λ k=>Cv k l s) (λ r=>r=spl l s):=by
 unfold Cv spl
 refine Tot.bind (Dja l s (by omega)) ?_
 rintro b rfl
 cases Aua l s with
 |true=>exact Tot.yes rfl (Tot.pure rfl)
 |false=>
  have loop:∀ (k:Nat) (x:List ByteArray),k<x.length→x.length≤5000001→Tot (λ n=>Dz n s x (k:Int)) (λ r=>r=(s,(Gra x k s).1,((Gra x k s).2:Int))):=by
   intro k
   induction k with
   |zero=>
    intro x hk hx
    refine Tot.succ ?_
    simp (disch:=omega) only [Dz,dF]
    exact Tot.pure rfl
   |succ k ih=>
    intro x hk hx
    refine Tot.succ ?_
    have e1:((k+1:Nat):Int) - 1=(k:Int):=by omega
    have e0:x.getD k (⟨#[]⟩:ByteArray)=x.getD k Oi:=rfl
    simp (disch:=omega) only [Dz,dT,w64,e1,Int.toNat_natCast,e0,Kpa]
    unfold Gra
    refine Tot.ite (λ h=>?_) (λ h=>?_)
    ·rw [h,cond_true]
     exact ih _ (by rw [List.length_set]; omega) (by rw [List.length_set]; omega)
    ·rw [h,cond_false]
     exact Tot.pure rfl
  have n0:([]:List ByteArray).length=0:=rfl
  have n1:([s]:List ByteArray).length=1:=rfl
  have nl:(l++[s]).length=l.length+1:=by simp
  refine Tot.no rfl (Tot.ble (by rw [n0]; omega) ?_)
  simp only [List.nil_append]
  refine Tot.ble (by rw [n1]; omega) ?_
  rw [nl,w64 (n:=((l.length+1:Nat):Int) - 1) (by omega) (by omega),show ((l.length+1:Nat):Int) - 1=(l.length:Int) by omega]
  refine Tot.bind (loop l.length (l++[s]) (by omega) (by omega)) ?_
  rintro r rfl
  obtain ⟨i1,i2,_⟩:=A2a l.length (l++[s]) s
  simp (disch:=omega) only [dT,Int.toNat_natCast]
  exact Tot.pure rfl

end Go.Proofs.YtcgfpppmikhgmaaGreat.Vf
