import Derived.Test.YtmhhjceoinoekaaGreatMab
import Derived.IntWalk
import Derived.Laws.StructEq
set_option linter.unusedVariables false
set_option linter.unusedSimpArgs false
namespace Go.Proofs.YtmhhjceoinoekaaGreat.Vf
open Go

def Tot {α:Type} (f:Nat→Option α) (Q:α→Prop):Prop:=∃ r K,(∀ k,K≤k→f k=some r)∧Q r
section
variable {α β:Type} {f g:Nat→Option α} {Q Q':α→Prop}
theorem Tot.mono (h:Tot f Q) (hq:∀ a,Q a→Q' a):Tot f Q':=by
 obtain ⟨r,K,h1,h2⟩:=h
 exact ⟨r,K,h1,hq r h2⟩
theorem Tot.pure {a:α} (h:Q a):Tot (λ _=>some a) Q:=⟨a,0,λ _ _=>rfl,h⟩
theorem Tot.of {o:Option α} {a:α} (e:o=some a) (h:Q a):Tot (λ _=>o) Q:=⟨a,0,λ _ _=>e,h⟩
theorem Tot.bind {h:Nat→α→Option β} {R:β→Prop} (hf:Tot f Q) (hh:∀ a,Q a→Tot (λ k=>h k a) R):Tot (λ k=>(f k).bind (h k)) R:=by
 obtain ⟨a,K,h1,h2⟩:=hf
 obtain ⟨b,L,h3,h4⟩:=hh a h2
 exact ⟨b,max K L,λ k hk=>by show (f k).bind (h k)=_; rw [h1 k (by omega)]; exact h3 k (by omega),h4⟩
theorem Tot.yes {c:Bool} (hc:c=true) (h:Tot f Q):Tot (λ k=>cond c (f k) (g k)) Q:=by subst hc; exact h
theorem Tot.no {c:Bool} (hc:c=false) (h:Tot g Q):Tot (λ k=>cond c (f k) (g k)) Q:=by subst hc; exact h
theorem Tot.ite {c:Bool} (h1:c=true→Tot f Q) (h2:c=false→Tot g Q):Tot (λ k=>cond c (f k) (g k)) Q:=by
 cases hc:c with
 |true=>exact h1 hc
 |false=>exact h2 hc
theorem Tot.dec {p:Prop} [Decidable p] (hp:p) (h:Tot f Q):Tot (λ k=>cond (decide p) (f k) (g k)) Q:=Tot.yes (decide_eq_true hp) h
theorem Tot.ndec {p:Prop} [Decidable p] (hp:¬ p) (h:Tot g Q):Tot (λ k=>cond (decide p) (f k) (g k)) Q:=Tot.no (decide_eq_false hp) h
theorem Tot.dite {p:Prop} [Decidable p] (h1:p→Tot f Q) (h2:¬ p→Tot g Q):Tot (λ k=>cond (decide p) (f k) (g k)) Q:=
 Tot.ite (λ h=>h1 (of_decide_eq_true h)) (λ h=>h2 (of_decide_eq_false h))
theorem Tot.ble {m n:Nat} (hp:m≤n) (h:Tot f Q):Tot (λ k=>cond (Nat.ble m n) (f k) (g k)) Q:=Tot.yes (Nat.ble_eq_true_of_le hp) h
theorem Tot.seq {v:α} {h:Nat→α→Option β} {R:β→Prop} (hf:Tot f (λ r=>r=v)) (hh:Tot (λ k=>h k v) R):Tot (λ k=>(f k).bind (h k)) R:=
 Tot.bind hf (by rintro r rfl; exact hh)
theorem Tot.succ (h:Tot (λ k=>f (k+1)) Q):Tot f Q:=by
 obtain ⟨r,K,h1,h2⟩:=h
 exact ⟨r,K+1,λ k hk=>by obtain ⟨m,rfl⟩:∃ m,k=m+1:=⟨k - 1,by omega⟩; exact h1 m (by omega),h2⟩
theorem Tot.and (h:Tot f Q) (h':Tot f Q'):Tot f (λ a=>Q a∧Q' a):=by
 obtain ⟨r,K,h1,h2⟩:=h
 obtain ⟨r',K',h1',h2'⟩:=h'
 have e:r=r':=by
  have a1:=h1 (max K K') (by omega)
  have a2:=h1' (max K K') (by omega)
  rw [a1] at a2
  exact Option.some.inj a2
 subst e
 exact ⟨r,K,h1,h2,h2'⟩
theorem Tot.law {f:Nat→Option Bool} (h:Tot f (λ b=>b=true)):∃ k,f k=some true:=by
 obtain ⟨r,K,h1,h2⟩:=h
 subst h2
 exact ⟨K,h1 K (Nat.le_refl _)⟩
end
theorem w64 {n:Int} (h1 : -9223372036854775808≤n) (h2:n≤9223372036854775807):IntKind.wrap .i64 n=n:=Go.IntWalk.i64_in n ⟨h1,h2⟩
theorem C5a (n:Int) : -9223372036854775808≤IntKind.wrap .i64 n∧IntKind.wrap .i64 n≤9223372036854775807:=by
 rw [IntKind.wrap_i64]
 omega
theorem G0a (n:Int):0≤IntKind.wrap .u8 n∧IntKind.wrap .u8 n≤255:=by
 simp only [IntKind.wrap,IntKind.signed,IntKind.bits]
 simp
 omega
theorem Lda (x m:Int) (h0:0≤m) (h1:m<9223372036854775808):0≤IntKind.wrap .i64 ((BitVec.ofInt (IntKind.bits .i64) x &&& BitVec.ofInt (IntKind.bits .i64) m).toNat)∧IntKind.wrap .i64 ((BitVec.ofInt (IntKind.bits .i64) x &&& BitVec.ofInt (IntKind.bits .i64) m).toNat)≤m:=by
 have hm:(BitVec.ofInt (IntKind.bits .i64) m).toNat=m.toNat:=by
  rw [BitVec.toNat_ofInt]
  show (m % ((2 ^ 64:Nat):Int)).toNat=m.toNat
  rw [Int.emod_eq_of_lt h0 (by omega)]
 have hle:(BitVec.ofInt (IntKind.bits .i64) x &&& BitVec.ofInt (IntKind.bits .i64) m).toNat≤m.toNat:=by
  rw [BitVec.toNat_and,hm]
  exact Nat.and_le_right
 rw [w64 (by omega) (by omega)]
 omega
theorem R8a {x n:Int} (hx:0≤x) (hn:0<n):0≤Int.tmod x n∧Int.tmod x n<n:=by
 rw [Int.tmod_eq_emod_of_nonneg hx]
 exact ⟨Int.emod_nonneg _ (by omega),Int.emod_lt_of_pos _ hn⟩

abbrev Cur:=List Int×Int×Int
def Lw (c:Cur):Prop:=(c.1.length:Int)≤1048576∧0≤c.2.1∧c.2.1≤1048576
theorem Nja (b:List Int) (hb:(b.length:Int)≤1048576):∀ (n:Nat) (h i:Int),0≤i→i+n=4001→Tot (λ k=>Id k b h i) (λ r=>r.1=b):=by
 intro n
 induction n with
 |zero=>
  intro h i h0 hi
  refine Tot.succ ?_
  simp only [Id]
  refine Tot.dite (λ h1=>?_) (λ h1=>Tot.pure rfl)
  exact Tot.ndec (by omega) (Tot.pure rfl)
 |succ n ih=>
  intro h i h0 hi
  refine Tot.succ ?_
  simp only [Id]
  refine Tot.dite (λ h1=>?_) (λ h1=>Tot.pure rfl)
  refine Tot.dite (λ h2=>?_) (λ h2=>Tot.pure rfl)
  refine Tot.dec h0 (Tot.dec h1 ?_)
  rw [w64 (n:=i+1) (by omega) (by omega)]
  exact ih _ _ (by omega) (by omega)
theorem R9a (b:List Int) (hb:(b.length:Int)≤1048576):Tot (λ k=>Ko k b) Lw:=by
 unfold Ko
 refine Tot.bind (Nja b hb 4001 _ 0 (by omega) (by omega)) (λ r hr=>?_)
 exact Tot.pure ⟨by rw [hr]; exact hb,Int.le_refl 0,by show (0:Int)≤1048576; omega⟩
theorem R8 (c:Cur) (hc:Lw c):∃ x c',Fv c=some (x,c')∧0≤x∧x≤255∧Lw c':=by
 obtain ⟨h1,h2,h3⟩:=hc
 unfold Fv
 by_cases hlt:c.2.1<(c.1.length:Int)
 ·simp only [hlt,h2,decide_true,cond_true]
  obtain ⟨a1,a2⟩:=Lda (IntKind.wrap .i64 ((IntKind.wrap .i64 ((BitVec.ofInt (IntKind.bits .i64) (IntKind.wrap .i64 ((BitVec.ofInt (IntKind.bits .i64) (Int.fdiv (IntKind.wrap .i64 ((IntKind.wrap .i64 (c.2.2 * 6364136223846793005))+1442695040888963407)) (2 ^ (min (Int.toNat 33) (IntKind.bits .i64)))) ^^^ BitVec.ofInt (IntKind.bits .i64) (Int.fdiv (IntKind.wrap .i64 ((IntKind.wrap .i64 (c.2.2 * 6364136223846793005))+1442695040888963407)) (2 ^ (min (Int.toNat 47) (IntKind.bits .i64))))).toNat)) &&& BitVec.ofInt (IntKind.bits .i64) 255).toNat))+(IntKind.wrap .i64 (List.getD c.1 (Int.toNat c.2.1) (0:Int))))) 255 (by omega) (by omega)
  refine ⟨_,_,rfl,a1,a2,h1,?_,?_⟩
  ·show 0≤IntKind.wrap .i64 (c.2.1+1)
   rw [w64 (by omega) (by omega)]
   omega
  ·show IntKind.wrap .i64 (c.2.1+1)≤1048576
   rw [w64 (by omega) (by omega)]
   omega
 ·simp only [hlt,decide_false,cond_false]
  obtain ⟨a1,a2⟩:=Lda (IntKind.wrap .i64 ((BitVec.ofInt (IntKind.bits .i64) (Int.fdiv (IntKind.wrap .i64 ((IntKind.wrap .i64 (c.2.2 * 6364136223846793005))+1442695040888963407)) (2 ^ (min (Int.toNat 33) (IntKind.bits .i64)))) ^^^ BitVec.ofInt (IntKind.bits .i64) (Int.fdiv (IntKind.wrap .i64 ((IntKind.wrap .i64 (c.2.2 * 6364136223846793005))+1442695040888963407)) (2 ^ (min (Int.toNat 47) (IntKind.bits .i64))))).toNat)) 255 (by omega) (by omega)
  exact ⟨_,_,rfl,a1,a2,h1,h2,h3⟩
theorem Kr (c:Cur) (hc:Lw c) (n:Int) (hn:n≤1000000000):∃ x c',A9 c n=some (x,c')∧0≤x∧(0<n→x<n)∧(n≤0→x=0)∧Lw c':=by
 unfold A9
 by_cases h0:n≤0
 ·exact ⟨0,c,by simp only [h0,decide_true,cond_true],by omega,by omega,λ _=>rfl,hc⟩
 ·by_cases h1:n≤256
  ·obtain ⟨x,c',e,b0,b1,k⟩:=R8 c hc
   have hz:¬ n=0:=by omega
   have:=R8a b0 (show 0<n by omega)
   exact ⟨Int.tmod x n,c',by simp only [h0,h1,hz,decide_true,decide_false,cond_true,cond_false,e,Option.bind_some],this.1,λ _=>this.2,λ h=>by omega,k⟩
  ·obtain ⟨x,c1,e1,b0,b1,k1⟩:=R8 c hc
   obtain ⟨y,c2,e2,b2,b3,k2⟩:=R8 c1 k1
   obtain ⟨z,c3,e3,b4,b5,k3⟩:=R8 c2 k2
   have hz:¬ n=0:=by omega
   have:=R8a (show 0≤x * 65536+y * 256+z by omega) (show 0<n by omega)
   refine ⟨Int.tmod (x * 65536+y * 256+z) n,c3,?_,this.1,λ _=>this.2,λ h=>by omega,k3⟩
   simp only [h0,h1,hz,decide_false,cond_false,e1,e2,e3,Option.bind_some]
   rw [w64 (n:=x * 65536) (by omega) (by omega),w64 (n:=y * 256) (by omega) (by omega),w64 (n:=x * 65536+y * 256) (by omega) (by omega),w64 (n:=x * 65536+y * 256+z) (by omega) (by omega)]
theorem Lea {α:Type} {l:List α} {i:Int} {d:α} (h0:0≤i) (h1:i<(l.length:Int)):l.getD i.toNat d∈l:=by
 have h:i.toNat<l.length:=by omega
 rw [List.getD_eq_getElem?_getD,List.getElem?_eq_getElem h]
 exact List.getElem_mem h
theorem Q6 (c:Cur) (hc:Lw c) (l:List Int) (hl:0<l.length) (hm:l.length≤2000000):∃ x c',Bu c l=some (x,c')∧x∈l∧Lw c':=by
 obtain ⟨i,c',e,b0,b1,_,k⟩:=Kr c hc (l.length:Int) (by omega)
 have b1:=b1 (by omega)
 refine ⟨l.getD i.toNat 0,c',?_,Lea b0 b1,k⟩
 unfold Bu
 simp only [e,Option.bind_some,b0,b1,decide_true,cond_true]
theorem Vaa (c:Cur) (hc:Lw c) (l:List ByteArray) (hl:0<l.length) (hm:l.length≤2000000):∃ x c',Lb c l=some (x,c')∧x∈l∧Lw c':=by
 obtain ⟨i,c',e,b0,b1,_,k⟩:=Kr c hc (l.length:Int) (by omega)
 have b1:=b1 (by omega)
 refine ⟨l.getD i.toNat (⟨#[]⟩:ByteArray),c',?_,Lea b0 b1,k⟩
 unfold Lb
 simp only [e,Option.bind_some,b0,b1,decide_true,cond_true]
def An (l:List Int):Prop:=∀ x∈l,0≤x∧x≤255
theorem G1a (m:Int) (hm:m≤1000):∀ (n:Nat) (l:List Int) (i:Int) (c:Cur),Lw c→0≤i→i≤max m 0→(max m 0) - i=n→(l.length:Int)=i→An l→
  Tot (λ k=>Fx k m l i c.1 c.2.1 c.2.2) (λ r=>Lw r.2∧An r.1∧(r.1.length:Int)=max m 0):=by
 intro n
 induction n with
 |zero=>
  intro l i c hc h0 h1 hn hl hb
  refine Tot.succ ?_
  simp only [Fx]
  refine Tot.ndec (by omega) (Tot.pure ⟨hc,hb,by show (l.length:Int)=_; omega⟩)
 |succ n ih=>
  intro l i c hc h0 h1 hn hl hb
  refine Tot.succ ?_
  simp only [Fx]
  refine Tot.dec (by omega) ?_
  obtain ⟨x,c',e,b0,b1,k⟩:=R8 c hc
  refine Tot.bind (Tot.of (Q:=λ r=>r=(x,c')) e rfl) ?_
  rintro r rfl
  refine Tot.ble (by simp only [List.length_cons,List.length_nil]; omega) ?_
  rw [w64 (n:=i+1) (by omega) (by omega)]
  refine ih _ _ c' k (by omega) (by omega) (by omega) (by simp only [List.length_append,List.length_cons,List.length_nil]; omega) ?_
  intro y hy
  rcases List.mem_append.1 hy with hy|hy
  ·exact hb y hy
  ·simp only [List.mem_singleton] at hy
   subst hy
   exact G0a _
theorem Nka (c:Cur) (hc:Lw c):Tot (λ k=>Fz k c) (λ r=>Lw r.2∧An r.1∧(r.1.length:Int)≤9):=by
 unfold Fz
 obtain ⟨x,c',e,hx,k⟩:=Q6 c hc [0,1,2,5,9] (by decide) (by decide)
 have hx':0≤x∧x≤9:=by
  simp only [List.mem_cons,List.not_mem_nil,or_false] at hx
  omega
 refine Tot.bind (Tot.of (Q:=λ r=>r=(x,c')) e rfl) ?_
 rintro r rfl
 refine Tot.bind (Q:=λ r=>Lw r.2∧An r.1∧(r.1.length:Int)≤9) ?_ (λ r hr=>Tot.pure hr)
 unfold Fy
 refine Tot.bind (G1a x (by omega) (max x 0 - 0).toNat [] 0 c' k (by omega) (by omega) (by omega) rfl (by intro y hy; simp at hy)) (λ r hr=>Tot.pure ?_)
 exact ⟨hr.1,hr.2.1,by show (r.1.length:Int)≤9; rw [hr.2.2]; omega⟩
abbrev Stp:=Int×Int×Int
abbrev Row:=ByteArray×Stp×Bool×Int
abbrev Fil:=Stp×Bool×List Int
def Pn:List ByteArray:=[(⟨#[97]⟩:ByteArray),(⟨#[98]⟩:ByteArray),(⟨#[99,97,116,47,49]⟩:ByteArray),(⟨#[99,97,116,47,50]⟩:ByteArray),(⟨#[100,111,103]⟩:ByteArray),(⟨#[120,45,49]⟩:ByteArray)]
theorem Raa (c:Cur) (hc:Lw c):∃ x c',K8 c=some (x,c')∧x∈Pn∧Lw c':=by
 obtain ⟨x,c',e,hx,k⟩:=Vaa c hc Pn (by decide) (by decide)
 exact ⟨x,c',by unfold K8; unfold Pn at e; simp only [e,Option.bind_some],hx,k⟩

theorem G2a:∀ (a:List UInt8),Op.bytesLess a a=false
 |[]=>rfl
 |a::l=>by simp [Op.bytesLess,G2a l]
theorem Lfa:∀ (a b c:List UInt8),Op.bytesLess a b=true→Op.bytesLess b c=true→Op.bytesLess a c=true
 |_,[],_,h,_=>by simp [Op.bytesLess] at h
 |_,_::_,[],_,h=>by simp [Op.bytesLess] at h
 |[],_::_,_::_,_,_=>rfl
 |a::x,b::y,c::z,h1,h2=>by
  simp only [Op.bytesLess,Bool.or_eq_true,Bool.and_eq_true,decide_eq_true_eq,beq_iff_eq] at h1 h2 ⊢
  rcases h1 with h1|⟨rfl,h1⟩
  ·rcases h2 with h2|⟨rfl,h2⟩
   ·exact .inl (UInt8.lt_trans h1 h2)
   ·exact .inl h1
  ·rcases h2 with h2|⟨rfl,h2⟩
   ·exact .inl h2
   ·exact .inr ⟨rfl,Lfa x y z h1 h2⟩
theorem Xqa:∀ (a b:List UInt8),Op.bytesLess a b=false→Op.bytesLess b a=false→a=b
 |[],[],_,_=>rfl
 |[],_::_,h,_=>by simp [Op.bytesLess] at h
 |_::_,[],_,h=>by simp [Op.bytesLess] at h
 |a::x,b::y,h1,h2=>by
  simp only [Op.bytesLess,Bool.or_eq_false_iff,Bool.and_eq_false_iff,decide_eq_false_iff_not] at h1 h2
  have hab:a=b:=by
   have h3:=UInt8.not_lt.1 h1.1
   have h4:=UInt8.not_lt.1 h2.1
   exact UInt8.le_antisymm h4 h3
  subst hab
  rw [Xqa x y (h1.2.resolve_left (by simp)) (h2.2.resolve_left (by simp))]
def tlt (a b:ByteArray):Bool:=Op.bytesLess a.toList b.toList
def teq (a b:ByteArray):Bool:=a.toList==b.toList
theorem C6a {a b:ByteArray} (h:a.toList=b.toList):a=b:=by
 rw [ByteArray.toList_eq,ByteArray.toList_eq] at h
 obtain ⟨⟨x⟩⟩:=a
 obtain ⟨⟨y⟩⟩:=b
 simp only at h
 rw [h]
theorem Jm {a b:ByteArray}:teq a b=true↔a=b:=by
 unfold teq
 rw [beq_iff_eq]
 exact ⟨C6a,λ h=>by rw [h]⟩
theorem Lj (a:ByteArray):tlt a a=false:=G2a _
theorem Mr {a b c:ByteArray} (h:tlt a b=true) (h':tlt b c=true):tlt a c=true:=Lfa _ _ _ h h'
theorem A6a {a b:ByteArray} (h:tlt a b=false) (h':tlt b a=false):a=b:=C6a (Xqa _ _ h h')
theorem A7a {a b:ByteArray} (h:tlt a b=true):tlt b a=false:=by
 cases hb:tlt b a with
 |false=>rfl
 |true=>
  have:=Mr h hb
  rw [Lj] at this
  cases this
theorem Lga (a b:ByteArray):(!(Op.bytesLess a.toList b.toList || a.toList==b.toList))=tlt b a:=by
 show (!(tlt a b || teq a b))=tlt b a
 cases h1:tlt a b with
 |true=>rw [A7a h1]; rfl
 |false=>
  cases h2:teq a b with
  |true=>rw [Jm.1 h2,Lj]; rfl
  |false=>
   cases h3:tlt b a with
   |true=>rfl
   |false=>
    exfalso
    have:=A6a h1 h3
    rw [Jm.2 this] at h2
    cases h2
def sle (a b:Stp):Bool:=cond (a.1 != b.1) (decide (a.1<b.1)) (cond (a.2.1 != b.2.1) (decide (a.2.1<b.2.1)) (decide (a.2.2<b.2.2)))
theorem Dna (a b:Stp):Bz a b=some (sle a b):=by
 unfold Bz sle
 cases a.1 != b.1<;>cases a.2.1 != b.2.1<;>rfl
theorem Xi (a b:Stp):Ao a b=some (sle a b):=by
 unfold Ao sle
 cases a.1 != b.1<;>cases a.2.1 != b.2.1<;>rfl
theorem R9 {a b:Stp}:sle a b=true↔a.1<b.1∨(a.1=b.1∧(a.2.1<b.2.1∨(a.2.1=b.2.1∧a.2.2<b.2.2))):=by
 unfold sle
 by_cases h1:a.1=b.1
 ·by_cases h2:a.2.1=b.2.1
  ·simp [h1,h2]
  ·have:(a.2.1 != b.2.1)=true:=by simpa using h2
   simp [h1,this,h2]
 ·have:(a.1 != b.1)=true:=by simpa using h1
  simp [this,h1]
def Baa (a b:Row):Bool:=cond (!((a.2.1.1==b.2.1.1)&&((a.2.1.2.1==b.2.1.2.1)&&(a.2.1.2.2==b.2.1.2.2)))) (sle a.2.1 b.2.1) (cond (!(a.2.2.1==b.2.2.1)) b.2.2.1 (decide (a.2.2.2<b.2.2.2)))
theorem Ioa (a b:Row):Jf a b=some (Baa a b):=by
 unfold Jf Baa
 rw [Dna]
 cases (!((a.2.1.1==b.2.1.1)&&((a.2.1.2.1==b.2.1.2.1)&&(a.2.1.2.2==b.2.1.2.2))))<;>cases (!(a.2.2.1==b.2.2.1))<;>rfl
def Nb:Row:=((⟨#[]⟩:ByteArray),(((0:Int),((0:Int),(0:Int))),(false,(0:Int))))
def A8a (s:ByteArray):List Row→Nat→Option Nat
 |[],_=>none
 |r::l,i=>bif teq r.1 s then some i else A8a s l (i+1)
def Doa (l:List Row) (s:ByteArray):Nat→Nat
 |0=>0
 |k+1=>bif tlt s (l.getD k Nb).1 then Doa l s k else k+1
def mrg (l:List Row) (x:Row):List Row:=match A8a x.1 l 0 with
 |some i=>bif Baa (l.getD i Nb) x then l.set i x else l
 |none=>l.take (Doa l x.1 l.length)++x::l.drop (Doa l x.1 l.length)
theorem Dpa (l:List Row) (s:ByteArray):∀ k,Doa l s k≤k
 |0=>Nat.le_refl _
 |k+1=>by
  unfold Doa
  cases tlt s (l.getD k Nb).1 with
  |true=>have:=Dpa l s k; simp only [cond_true]; omega
  |false=>simp only [cond_false]; omega
theorem C7a {s:ByteArray}:∀ (l:List Row) (i j:Nat),A8a s l i=some j→i≤j∧j<i+l.length∧teq (l.getD (j - i) Nb).1 s=true
 |[],i,j,h=>by simp [A8a] at h
 |r::l,i,j,h=>by
  unfold A8a at h
  cases ht:teq r.1 s with
  |true=>
   rw [ht] at h
   simp only [cond_true,Option.some.injEq] at h
   subst h
   refine ⟨Nat.le_refl _,by simp,?_⟩
   rw [Nat.sub_self]
   exact ht
  |false=>
   rw [ht] at h
   simp only [cond_false] at h
   obtain ⟨h1,h2,h3⟩:=C7a l (i+1) j h
   refine ⟨by omega,by simp only [List.length_cons]; omega,?_⟩
   rw [show j - i=(j - (i+1))+1 by omega]
   exact h3
theorem Al {α:Type} {l:List α} {i:Nat} {d:α} (h:i<l.length):l.drop i=l.getD i d::l.drop (i+1):=by
 rw [List.drop_eq_getElem_cons h,List.getD_eq_getElem?_getD,List.getElem?_eq_getElem h]
 rfl
def Few (l:List Row):Prop:=l.length≤1000000000000
theorem G3a (x:Row):∀ (n:Nat) (l:List Row) (i:Nat),l.length - i=n→i≤l.length→Few l→
  Tot (λ k=>Ev k l (i:Int) x.1 x.2.1.1 x.2.1.2.1 x.2.1.2.2 x.2.2.1 x.2.2.2) (λ r=>r=match A8a x.1 (l.drop i) i with
   |some j => .inl (bif Baa (l.getD j Nb) x then l.set j x else l)
   |none => .inr (l,x.1,x.2.1.1,x.2.1.2.1,x.2.1.2.2,x.2.2.1,x.2.2.2)):=by
 intro n
 induction n with
 |zero=>
  intro l i hn hi hf
  unfold Few at hf
  refine Tot.succ ?_
  simp only [Ev]
  refine Tot.ndec (by omega) (Tot.pure ?_)
  rw [List.drop_of_length_le (by omega)]
  rfl
 |succ n ih=>
  intro l i hn hi hf
  have hf':=hf
  unfold Few at hf
  have hlt:i<l.length:=by omega
  refine Tot.succ ?_
  simp only [Ev]
  refine Tot.dec (by omega) (Tot.dec (by omega) (Tot.dec (by omega) ?_))
  have e0:Int.toNat (i:Int)=i:=Int.toNat_natCast i
  rw [e0,Al (d:=Nb) hlt]
  refine Tot.ite (λ ht=>?_) (λ ht=>?_)
  ·have ht':teq (l.getD i Nb).1 x.1=true:=ht
   refine Tot.dec (by omega) (Tot.dec (by omega) ?_)
   refine Tot.bind (Tot.of (Q:=λ r=>r=Baa (l.getD i Nb) x) (Ioa _ _) rfl) ?_
   rintro b rfl
   simp only [A8a,ht',cond_true]
   cases hb:Baa (l.getD i Nb) x with
   |true=>exact Tot.yes rfl (Tot.dec (by omega) (Tot.dec (by omega) (Tot.pure rfl)))
   |false=>exact Tot.no rfl (Tot.pure rfl)
  ·have ht':teq (l.getD i Nb).1 x.1=false:=ht
   simp only [A8a,ht',cond_false]
   rw [w64 (n:=(i:Int)+1) (by omega) (by omega)]
   exact ih l (i+1) (by omega) (by omega) hf'
theorem Lha (l:List Row) (hf:Few l):B1 l=some l:=by
 unfold Few at hf
 unfold B1
 rw [Nat.ble_eq_true_of_le (by simp only [List.length_nil]; omega)]
 rfl
theorem Dqa (x:Row) (l:List Row) (hf:Few l):∀ (i:Nat) (y:Row),i≤l.length→
  Tot (λ k=>Ds k (l.take i++y::l.drop i) (i:Int) x.1 x.2.1.1 x.2.1.2.1 x.2.1.2.2 x.2.2.1 x.2.2.2)
   (λ r=>∃ y',r=(l.take (Doa l x.1 i)++y'::l.drop (Doa l x.1 i),(Doa l x.1 i:Int),x.1,x.2.1.1,x.2.1.2.1,x.2.1.2.2,x.2.2.1,x.2.2.2)):=by
 unfold Few at hf
 intro i
 induction i with
 |zero=>
  intro y hi
  refine Tot.succ ?_
  simp only [Ds]
  exact Tot.ndec (by omega) (Tot.pure ⟨y,rfl⟩)
 |succ i ih=>
  intro y hi
  refine Tot.succ ?_
  simp only [Ds]
  have hlen:(l.take (i+1)++y::l.drop (i+1)).length=l.length+1:=by simp only [List.length_append,List.length_take,List.length_cons,List.length_drop]; omega
  have hget:∀ z,(l.take (i+1)++y::l.drop (i+1)).getD i z=l.getD i z:=by
   intro z
   rw [List.getD_eq_getElem?_getD,List.getD_eq_getElem?_getD,List.getElem?_append_left (by rw [List.length_take]; omega),List.getElem?_take_of_lt (by omega)]
  rw [w64 (n:=((i+1:Nat):Int) - 1) (by omega) (by omega),show ((i+1:Nat):Int) - 1=(i:Int) by omega,show Int.toNat (i:Int)=i from Int.toNat_natCast i,show Int.toNat ((i+1:Nat):Int)=i+1 from Int.toNat_natCast _,hget,hlen]
  refine Tot.dec (by omega) (Tot.dec (by omega) (Tot.dec (by omega) ?_))
  have e:∀ z,(!(Op.bytesLess (l.getD i z).1.toList x.1.toList || (l.getD i z).1.toList==x.1.toList))=tlt x.1 (l.getD i z).1:=λ z=>Lga _ _
  rw [e]
  have hc:Doa l x.1 (i+1)=bif tlt x.1 (l.getD i Nb).1 then Doa l x.1 i else i+1:=rfl
  refine Tot.ite (λ ht=>?_) (λ ht=>?_)
  ·have ht':tlt x.1 (l.getD i Nb).1=true:=ht
   rw [hc,ht',cond_true]
   refine Tot.dec (by omega) (Tot.dec (by omega) (Tot.dec (by omega) (Tot.dec (by omega) ?_)))
   have hset:(l.take (i+1)++y::l.drop (i+1)).set (i+1) (l.getD i ((⟨#[]⟩:ByteArray),(((0:Int),((0:Int),(0:Int))),(false,(0:Int)))))=l.take i++l.getD i Nb::l.drop i:=by
    rw [List.set_append,if_neg (by rw [List.length_take]; omega),List.length_take,Nat.min_eq_left hi,Nat.sub_self,List.set_cons_zero,Al (d:=Nb) (show i<l.length by omega)]
    rw [List.take_add_one,List.getElem?_eq_getElem (show i<l.length by omega)]
    simp only [Option.toList_some,List.append_assoc,List.singleton_append]
    rw [List.getD_eq_getElem?_getD,List.getD_eq_getElem?_getD,List.getElem?_eq_getElem (show i<l.length by omega)]
    rfl
   rw [hset]
   exact ih _ (by omega)
  ·have ht':tlt x.1 (l.getD i Nb).1=false:=ht
   rw [hc,ht',cond_false]
   exact Tot.pure ⟨y,rfl⟩
theorem Rba (l:List Row) (x:Row) (hf:Few l):Tot (λ k=>C9 k l x) (λ r=>r=mrg l x):=by
 have hf':=hf
 unfold Few at hf
 unfold C9
 refine Tot.ble (by simp only [List.length_nil]; omega) ?_
 rw [List.nil_append]
 refine Tot.bind (G3a x _ l 0 rfl (Nat.zero_le _) hf') ?_
 rintro y rfl
 rw [List.drop_zero]
 unfold mrg
 cases hfi:A8a x.1 l 0 with
 |some j=>exact Tot.pure rfl
 |none=>
  simp only [Sum.elim_inr]
  refine Tot.ble (by simp only [List.length_cons,List.length_nil]; omega) ?_
  have h0:=Dqa x l hf' l.length x (Nat.le_refl _)
  rw [List.take_length,List.drop_length] at h0
  refine Tot.bind h0 ?_
  rintro z ⟨y',rfl⟩
  have hc:=Dpa l x.1 l.length
  have hlen:(l.take (Doa l x.1 l.length)++y'::l.drop (Doa l x.1 l.length)).length=l.length+1:=by simp only [List.length_append,List.length_take,List.length_cons,List.length_drop]; omega
  simp only
  rw [show Int.toNat ((Doa l x.1 l.length:Nat):Int)=Doa l x.1 l.length from Int.toNat_natCast _,hlen]
  refine Tot.dec (by omega) (Tot.dec (by omega) (Tot.pure ?_))
  rw [List.set_append,if_neg (by rw [List.length_take]; omega),List.length_take,Nat.min_eq_left hc,Nat.sub_self,List.set_cons_zero]

theorem Dra (a b:ByteArray):(a==b)=teq a b:=beq_toListBytes a b
theorem C8a {s:ByteArray}:∀ (l:List Row) (i:Nat),A8a s l i=none→∀ r∈l,r.1≠s
 |[],_,_,r,hr=>by simp at hr
 |a::l,i,h,r,hr=>by
  unfold A8a at h
  cases ht:teq a.1 s with
  |true=>rw [ht] at h; simp at h
  |false=>
   rw [ht] at h
   rcases List.mem_cons.1 hr with rfl|hr
   ·intro e
    rw [Jm.2 e] at ht
    cases ht
   ·exact C8a l (i+1) h r hr
theorem Zsa (l:List Row) (x:Row):l.length≤(mrg l x).length∧(mrg l x).length≤l.length+1:=by
 unfold mrg
 have hc:=Dpa l x.1 l.length
 split
 ·cases Baa (l.getD _ Nb) x<;>simp
 ·simp only [List.length_append,List.length_take,List.length_cons,List.length_drop]
  omega
theorem Zta {l:List Row} {x r:Row} (h:r∈mrg l x):r=x∨r∈l:=by
 unfold mrg at h
 split at h
 ·rename_i j hj
  cases hb:Baa (l.getD j Nb) x with
  |false=>rw [hb] at h; exact .inr h
  |true=>
   rw [hb,cond_true] at h
   rcases List.mem_or_eq_of_mem_set h with h|h
   ·exact .inr h
   ·exact .inl h
 ·rcases List.mem_append.1 h with h|h
  ·exact .inr (List.mem_of_mem_take h)
  ·rcases List.mem_cons.1 h with h|h
   ·exact .inl h
   ·exact .inr (List.mem_of_mem_drop h)
theorem O8 (a:Stp):sle a a=false:=by
 cases h:sle a a with
 |false=>rfl
 |true=>rw [R9] at h; omega
def Ks (l:List Row):Prop:=l.Pairwise (λ a b=>tlt a.1 b.1=true)
theorem G4a {l:List Row} {s:ByteArray} (hs:Ks l) (hn:∀ r∈l,r.1≠s):∀ k,k≤l.length→(∀ i,i<Doa l s k→tlt (l.getD i Nb).1 s=true)∧(∀ i,Doa l s k≤i→i<k→tlt s (l.getD i Nb).1=true)
 |0,_=>⟨λ i hi=>by simp [Doa] at hi,λ i _ hi=>by omega⟩
 |k+1,hk=>by
  unfold Doa
  cases ht:tlt s (l.getD k Nb).1 with
  |true=>
   simp only [cond_true]
   obtain ⟨h1,h2⟩:=G4a hs hn k (by omega)
   refine ⟨h1,λ i hi hik=>?_⟩
   by_cases e:i=k
   ·subst e; exact ht
   ·exact h2 i hi (by omega)
  |false=>
   simp only [cond_false]
   refine ⟨λ i hi=>?_,λ i hi hik=>by omega⟩
   have hget:∀ j (hj:j<l.length),l.getD j Nb=l[j]:=λ j hj=>by rw [List.getD_eq_getElem?_getD,List.getElem?_eq_getElem hj]; rfl
   have hkl:k<l.length:=by omega
   have hks:tlt (l.getD k Nb).1 s=true:=by
    cases h:tlt (l.getD k Nb).1 s with
    |true=>rfl
    |false=>
     exfalso
     exact hn (l.getD k Nb) (by rw [hget k hkl]; exact List.getElem_mem hkl) (A6a h ht)
   by_cases e:i=k
   ·subst e; exact hks
   ·have h3:=(List.pairwise_iff_getElem.1 hs) i k (by omega) hkl (by omega)
    rw [hget i (by omega)]
    rw [hget k hkl] at hks
    exact Mr h3 hks
theorem Nla {l:List Row} {x:Row} (hs:Ks l):Ks (mrg l x):=by
 have hget:∀ j (hj:j<l.length),l.getD j Nb=l[j]:=λ j hj=>by rw [List.getD_eq_getElem?_getD,List.getElem?_eq_getElem hj]; rfl
 unfold mrg
 split
 ·rename_i j hj
  obtain ⟨_,h2,h3⟩:=C7a l 0 j hj
  rw [Nat.sub_zero] at h3
  have hjl:j<l.length:=by omega
  have hname:l[j].1=x.1:=by rw [← hget j hjl]; exact Jm.1 h3
  cases hb:Baa (l.getD j Nb) x with
  |false=>exact hs
  |true=>
   rw [cond_true]
   unfold Ks
   rw [List.pairwise_iff_getElem]
   intro a b ha hb hab
   rw [List.length_set] at ha hb
   have:=(List.pairwise_iff_getElem.1 hs) a b ha hb hab
   rw [List.getElem_set,List.getElem_set]
   by_cases e1:j=a
   ·subst e1
    rw [if_pos rfl,if_neg (by omega),← hname]
    exact this
   ·rw [if_neg e1]
    by_cases e2:j=b
    ·subst e2
     rw [if_pos rfl,← hname]
     exact this
    ·rw [if_neg e2]
     exact this
 ·rename_i hj
  have hn:=C8a l 0 hj
  obtain ⟨c1,c2⟩:=G4a hs hn l.length (Nat.le_refl _)
  have hc:=Dpa l x.1 l.length
  unfold Ks
  rw [List.pairwise_append,List.pairwise_cons]
  refine ⟨List.Pairwise.sublist (List.take_sublist _ _) hs,⟨λ r hr=>?_,List.Pairwise.sublist (List.drop_sublist _ _) hs⟩,λ r hr q hq=>?_⟩
  ·obtain ⟨i,hi,rfl⟩:=List.getElem_of_mem hr
   rw [List.length_drop] at hi
   rw [List.getElem_drop,← hget _ (by omega)]
   exact c2 _ (by omega) (by omega)
  ·obtain ⟨i,hi,rfl⟩:=List.getElem_of_mem hr
   rw [List.length_take] at hi
   have h1:tlt (List.take (Doa l x.1 l.length) l)[i].1 x.1=true:=by
    rw [List.getElem_take,← hget _ (by omega)]
    exact c1 i (by omega)
   rcases List.mem_cons.1 hq with rfl|hq
   ·exact h1
   ·refine Mr h1 ?_
    obtain ⟨m,hm,rfl⟩:=List.getElem_of_mem hq
    rw [List.length_drop] at hm
    rw [List.getElem_drop,← hget _ (by omega)]
    exact c2 _ (by omega) (by omega)

def inR (n lo hi:Int):Bool:=decide (n≥lo)&&decide (n≤hi)
theorem Tw (n lo hi:Int):El n lo hi=some (inR n lo hi):=by
 unfold El inR
 cases decide (n≥lo)<;>rfl
theorem Nz (n lo hi:Int):A7 n lo hi=some (inR n lo hi):=by
 unfold A7 inR
 cases decide (n≥lo)<;>rfl
theorem Fh {n lo hi:Int}:inR n lo hi=true↔lo≤n∧n≤hi:=by
 unfold inR
 simp
def Tx (c:Int):Bool:=inR c 97 122 || (inR c 48 57 || (!(c != 45) || (!(c != 95) || !(c != 47))))
def Km (s:ByteArray):Prop:=s.size≤4611686018427387904
theorem Q7 (s:ByteArray):s.data.toList.length=s.size:=Array.length_toList
theorem A9a (s:ByteArray) (i:Int):0≤bt s i∧bt s i≤255:=by
 unfold bt
 have:=(s.data.toList.getD i.toNat 0).toNat_lt
 omega
theorem Chb (s:ByteArray) (i:Nat) (h:i<s.size):bt s (i:Int)=((s.data.toList[i]'(by rw [Q7]; exact h)).toNat:Int):=by
 unfold bt
 rw [Int.toNat_natCast,List.getD_eq_getElem?_getD,List.getElem?_eq_getElem (by rw [Q7]; exact h)]
 rfl
def bOk (b:UInt8):Bool:=Tx (b.toNat:Int)
theorem Ipa (s:ByteArray) (hs:Km s):∀ (n i:Nat),s.size - i=n→i≤s.size→
  Tot (λ k=>Am k s (i:Int)) (λ r=>r=bif (s.data.toList.drop i).all bOk then .inr s else .inl false):=by
 unfold Km at hs
 have hsz:=Q7 s
 intro n
 induction n with
 |zero=>
  intro i hn hi
  refine Tot.succ ?_
  simp only [Am]
  refine Tot.ndec (by omega) (Tot.pure ?_)
  rw [List.drop_of_length_le (by omega)]
  rfl
 |succ n ih=>
  intro i hn hi
  have hlt:i<s.size:=by omega
  refine Tot.succ ?_
  simp only [Am]
  refine Tot.dec (by omega) (Tot.dec (by omega) (Tot.dec (by omega) ?_))
  rw [w64 (n:=(i:Int)+1) (by omega) (by omega)]
  have hb:bOk (s.data.toList[i]'(by omega))=Tx (bt s (i:Int)):=by rw [Chb s i hlt]; rfl
  rw [List.drop_eq_getElem_cons (by omega),List.all_cons,hb]
  generalize bt s (i:Int)=c
  have h1:=ih (i+1) (by omega) (by omega)
  have e:(((i+1:Nat)):Int)=(i:Int)+1:=by omega
  rw [e] at h1
  cases hc:Tx c with
  |true=>
   rw [Bool.true_and]
   refine h1.mono (λ r hr=>hr) |> λ h=>?_
   obtain ⟨r,K,h2,h3⟩:=h
   refine ⟨r,K,λ k hk=>?_,h3⟩
   rw [← h2 k hk]
   unfold Tx inR at hc
   revert hc
   cases decide (c≥97)<;>cases decide (c≤122)<;>cases decide (c≥48)<;>cases decide (c≤57)<;>cases (c != 45)<;>cases (c != 95)<;>cases (c != 47)<;>first|(intro _; rfl)|(intro hc; cases hc)
  |false=>
   rw [Bool.false_and]
   refine ⟨.inl false,0,λ k _=>?_,rfl⟩
   unfold Tx inR at hc
   revert hc
   cases decide (c≥97)<;>cases decide (c≤122)<;>cases decide (c≥48)<;>cases decide (c≤57)<;>cases (c != 45)<;>cases (c != 95)<;>cases (c != 47)<;>first|(intro _; rfl)|(intro hc; cases hc)
theorem Iqa (s:ByteArray) (hs:Km s):∀ (n i:Nat),s.size - i=n→i≤s.size→
  Tot (λ k=>Cz k s (i:Int)) (λ r=>r=bif (s.data.toList.drop i).all bOk then .inr s else .inl false):=by
 unfold Km at hs
 have hsz:=Q7 s
 intro n
 induction n with
 |zero=>
  intro i hn hi
  refine Tot.succ ?_
  simp only [Cz]
  refine Tot.ndec (by omega) (Tot.pure ?_)
  rw [List.drop_of_length_le (by omega)]
  rfl
 |succ n ih=>
  intro i hn hi
  have hlt:i<s.size:=by omega
  have hbb:=A9a s (i:Int)
  refine Tot.succ ?_
  simp only [Cz]
  refine Tot.dec (by omega) (Tot.dec (by omega) (Tot.dec (by omega) ?_))
  rw [w64 (n:=(i:Int)+1) (by omega) (by omega),w64 (n:=bt s (i:Int)) (by omega) (by omega)]
  have hb:bOk (s.data.toList[i]'(by omega))=Tx (bt s (i:Int)):=by rw [Chb s i hlt]; rfl
  rw [List.drop_eq_getElem_cons (by omega),List.all_cons,hb]
  generalize bt s (i:Int)=c
  have h1:=ih (i+1) (by omega) (by omega)
  have e:(((i+1:Nat)):Int)=(i:Int)+1:=by omega
  rw [e] at h1
  simp only [Nz,Option.bind_some]
  cases hc:Tx c with
  |true=>
   rw [Bool.true_and]
   obtain ⟨r,K,h2,h3⟩:=h1
   refine ⟨r,K,λ k hk=>?_,h3⟩
   rw [← h2 k hk]
   unfold Tx at hc
   revert hc
   cases inR c 97 122<;>cases inR c 48 57<;>cases (c != 45)<;>cases (c != 95)<;>cases (c != 47)<;>first|(intro _; rfl)|(intro hc; cases hc)
  |false=>
   rw [Bool.false_and]
   refine ⟨.inl false,0,λ k _=>?_,rfl⟩
   unfold Tx at hc
   revert hc
   cases inR c 97 122<;>cases inR c 48 57<;>cases (c != 45)<;>cases (c != 95)<;>cases (c != 47)<;>first|(intro _; rfl)|(intro hc; cases hc)
def Ar (s:ByteArray):Bool:=s.data.toList.all bOk&&inR (s.size:Int) 1 20
theorem Np (s:ByteArray) (hs:Km s):Tot (λ k=>Af k s) (λ r=>r=Ar s):=by
 unfold Af Ar
 refine Tot.bind (Ipa s hs _ 0 rfl (Nat.zero_le _)) ?_
 rintro r rfl
 rw [List.drop_zero]
 cases s.data.toList.all bOk with
 |true=>exact Tot.of (a:=inR (s.size:Int) 1 20) (by simp only [cond_true,Sum.elim_inr,Tw,Option.bind_some]) (by rw [Bool.true_and])
 |false=>exact Tot.pure rfl
theorem Q8 (s:ByteArray) (hs:Km s):Tot (λ k=>Aq k s) (λ r=>r=Ar s):=by
 unfold Aq Ar
 refine Tot.bind (Iqa s hs _ 0 rfl (Nat.zero_le _)) ?_
 rintro r rfl
 rw [List.drop_zero]
 cases s.data.toList.all bOk with
 |true=>exact Tot.of (a:=inR (s.size:Int) 1 20) (by simp only [cond_true,Sum.elim_inr,Nz,Option.bind_some]) (by rw [Bool.true_and])
 |false=>exact Tot.pure rfl
def Fi (s:Stp):Bool:=inR s.1 0 1000000000&&(inR s.2.1 0 1000000&&inR s.2.2 0 20)
theorem Tz (s:Stp):Bw s=some (Fi s):=by
 unfold Bw Fi
 simp only [Tw,Option.bind_some]
 cases inR s.1 0 1000000000<;>cases inR s.2.1 0 1000000<;>rfl
theorem U0 (s:Stp):Bx s=some (Fi s):=by
 unfold Bx Fi
 simp only [Nz,Option.bind_some]
 cases inR s.1 0 1000000000<;>cases inR s.2.1 0 1000000<;>rfl
def Ng (x:Row):Bool:=Ar x.1&&(Fi x.2.1&&(inR x.2.2.2 0 200&&(!x.2.2.1 || x.2.2.2==0)))
theorem Rca (x:Row) (hs:Km x.1):Tot (λ k=>Jn k x) (λ r=>r=Ng x):=by
 unfold Jn Ng
 refine Tot.bind (Np x.1 hs) ?_
 rintro r rfl
 cases Ar x.1 with
 |false=>exact Tot.pure rfl
 |true=>
  refine Tot.of (a:=Fi x.2.1&&(inR x.2.2.2 0 200&&(!x.2.2.1 || x.2.2.2==0))) ?_ (by rw [Bool.true_and])
  simp only [cond_true,Tz,Tw,Option.bind_some]
  cases Fi x.2.1<;>cases inR x.2.2.2 0 200<;>cases x.2.2.1<;>rfl
theorem Rda (x:Row) (hs:Km x.1):Tot (λ k=>Ih k x) (λ r=>r=Ng x):=by
 unfold Ih Ng
 refine Tot.bind (Q8 x.1 hs) ?_
 rintro r rfl
 cases Ar x.1 with
 |false=>exact Tot.pure rfl
 |true=>
  refine Tot.of (a:=Fi x.2.1&&(inR x.2.2.2 0 200&&(!x.2.2.1 || x.2.2.2==0))) ?_ (by rw [Bool.true_and])
  simp only [cond_true,U0,Nz,Option.bind_some]
  cases Fi x.2.1<;>cases inR x.2.2.2 0 200<;>cases x.2.2.1<;>rfl
def chk:Option ByteArray→List Row→Bool
 |_,[]=>true
 |none,r::l=>Ng r&&chk (some r.1) l
 |some q,r::l=>Ng r&&(tlt q r.1&&chk (some r.1) l)
def M0 (l:List Row):Bool:=chk none l&&decide ((l.length:Int)≤60)
def U1 (l:List Row):Prop:=∀ r∈l,Km r.1
def X2 (l:List Row):Nat→Option ByteArray
 |0=>none
 |i+1=>some (l.getD i Nb).1
theorem Lia (l:List Row) (i:Nat) (h:i<l.length):chk (X2 l i) (l.drop i)=(Ng (l.getD i Nb)&&(bif decide (0<i) then tlt (l.getD (i - 1) Nb).1 (l.getD i Nb).1 else true)&&chk (X2 l (i+1)) (l.drop (i+1))):=by
 rw [Al (d:=Nb) h]
 cases i with
 |zero=>simp [X2,chk]
 |succ i=>simp [X2,chk,Bool.and_assoc]
theorem A3 {α:Type} {l:List α} {i:Nat} {d:α} (h1:i<l.length):l.getD i d∈l:=by
 rw [List.getD_eq_getElem?_getD,List.getElem?_eq_getElem h1]
 exact List.getElem_mem h1
theorem Ira (l:List Row) (hf:Few l) (hs:U1 l):∀ (n i:Nat),l.length - i=n→i≤l.length→
  Tot (λ k=>Gc k l l (l.length:Int) (i:Int)) (λ r=>r=bif chk (X2 l i) (l.drop i) then .inr l else .inl false):=by
 unfold Few at hf
 intro n
 induction n with
 |zero=>
  intro i hn hi
  refine Tot.succ ?_
  simp only [Gc]
  refine Tot.ndec (by omega) (Tot.pure ?_)
  rw [List.drop_of_length_le (by omega)]
  cases X2 l i<;>rfl
 |succ n ih=>
  intro i hn hi
  have hlt:i<l.length:=by omega
  refine Tot.succ ?_
  simp only [Gc]
  refine Tot.dec (by omega) (Tot.dec (by omega) (Tot.dec (by omega) ?_))
  rw [show Int.toNat (i:Int)=i from Int.toNat_natCast i,w64 (n:=(i:Int)+1) (by omega) (by omega),Lia l i hlt]
  have h1:=ih (i+1) (by omega) (by omega)
  have e:(((i+1:Nat)):Int)=(i:Int)+1:=by omega
  rw [e] at h1
  refine Tot.bind (Rca (l.getD i Nb) (hs _ (A3 hlt))) ?_
  rintro b rfl
  cases hb:Ng (l.getD i Nb) with
  |false=>exact Tot.yes rfl (Tot.pure (by simp))
  |true=>
   refine Tot.no rfl ?_
   rw [Bool.true_and]
   refine Tot.dite (λ h0=>?_) (λ h0=>?_)
   ·rw [w64 (n:=(i:Int) - 1) (by omega) (by omega)]
    refine Tot.dec (by omega) (Tot.dec (by omega) ?_)
    rw [show Int.toNat ((i:Int) - 1)=i - 1 by omega,decide_eq_true (show 0<i by omega),cond_true]
    have et:(!(Op.bytesLess (l.getD (i - 1) Nb).1.toList (l.getD i Nb).1.toList)) = !(tlt (l.getD (i - 1) Nb).1 (l.getD i Nb).1):=rfl
    refine Tot.ite (λ ht=>?_) (λ ht=>?_)
    ·have ht':(!(tlt (l.getD (i - 1) Nb).1 (l.getD i Nb).1))=true:=ht
     rw [Bool.not_eq_true'] at ht'
     exact Tot.pure (by rw [ht']; rfl)
    ·have ht':(!(tlt (l.getD (i - 1) Nb).1 (l.getD i Nb).1))=false:=ht
     rw [Bool.not_eq_false'] at ht'
     rw [ht',Bool.true_and]
     exact h1
   ·rw [decide_eq_false (show ¬ 0<i by omega),cond_false,Bool.true_and]
    exact h1
theorem Isa (l:List Row) (hf:Few l) (hs:U1 l):∀ (n i:Nat),l.length - i=n→i≤l.length→
  Tot (λ k=>Gf k l (i:Int)) (λ r=>r=bif chk (X2 l i) (l.drop i) then .inr l else .inl false):=by
 unfold Few at hf
 intro n
 induction n with
 |zero=>
  intro i hn hi
  refine Tot.succ ?_
  simp only [Gf]
  refine Tot.ndec (by omega) (Tot.pure ?_)
  rw [List.drop_of_length_le (by omega)]
  cases X2 l i<;>rfl
 |succ n ih=>
  intro i hn hi
  have hlt:i<l.length:=by omega
  refine Tot.succ ?_
  simp only [Gf]
  refine Tot.dec (by omega) (Tot.dec (by omega) (Tot.dec (by omega) ?_))
  rw [show Int.toNat (i:Int)=i from Int.toNat_natCast i,w64 (n:=(i:Int)+1) (by omega) (by omega),Lia l i hlt]
  have h1:=ih (i+1) (by omega) (by omega)
  have e:(((i+1:Nat)):Int)=(i:Int)+1:=by omega
  rw [e] at h1
  refine Tot.bind (Rda (l.getD i Nb) (hs _ (A3 hlt))) ?_
  rintro b rfl
  cases hb:Ng (l.getD i Nb) with
  |false=>exact Tot.yes rfl (Tot.pure (by simp))
  |true=>
   refine Tot.no rfl ?_
   rw [Bool.true_and]
   refine Tot.dite (λ h0=>?_) (λ h0=>?_)
   ·rw [w64 (n:=(i:Int) - 1) (by omega) (by omega)]
    refine Tot.dec (by omega) (Tot.dec (by omega) (Tot.dec (by omega) (Tot.dec (by omega) ?_)))
    rw [show Int.toNat ((i:Int) - 1)=i - 1 by omega,decide_eq_true (show 0<i by omega),cond_true]
    refine Tot.ite (λ ht=>?_) (λ ht=>?_)
    ·have ht':(!(tlt (l.getD (i - 1) Nb).1 (l.getD i Nb).1))=true:=ht
     rw [Bool.not_eq_true'] at ht'
     exact Tot.pure (by rw [ht']; rfl)
    ·have ht':(!(tlt (l.getD (i - 1) Nb).1 (l.getD i Nb).1))=false:=ht
     rw [Bool.not_eq_false'] at ht'
     rw [ht',Bool.true_and]
     exact h1
   ·rw [decide_eq_false (show ¬ 0<i by omega),cond_false,Bool.true_and]
    exact h1
theorem Vba (l:List Row) (hf:Few l) (hs:U1 l):Tot (λ k=>Gt k l) (λ r=>r=M0 l):=by
 unfold Gt M0
 refine Tot.bind (Ira l hf hs _ 0 rfl (Nat.zero_le _)) ?_
 rintro r rfl
 rw [List.drop_zero]
 show Tot _ (λ r=>r=(chk none l&&_))
 cases hc:chk none l with
 |true=>rw [show chk (X2 l 0) l=true from hc]; exact Tot.pure (by rw [Bool.true_and])
 |false=>rw [show chk (X2 l 0) l=false from hc]; exact Tot.pure rfl
theorem Vca (l:List Row) (hf:Few l) (hs:U1 l):Tot (λ k=>Gu k l) (λ r=>r=M0 l):=by
 unfold Gu M0
 refine Tot.bind (Isa l hf hs _ 0 rfl (Nat.zero_le _)) ?_
 rintro r rfl
 rw [List.drop_zero]
 cases hc:chk none l with
 |true=>rw [show chk (X2 l 0) l=true from hc]; exact Tot.pure (by rw [Bool.true_and])
 |false=>rw [show chk (X2 l 0) l=false from hc]; exact Tot.pure rfl
theorem Ita:∀ (p:Option ByteArray) (l:List Row),chk p l=true↔Ks l∧(∀ r∈l,Ng r=true)∧(∀ q,p=some q→∀ r∈l,tlt q r.1=true)
 |p,[]=>by
  have:chk p []=true:=by cases p<;>rfl
  simp [this,Ks]
 |none,r::l=>by
  simp only [chk,Bool.and_eq_true,Ita (some r.1) l,Ks,List.pairwise_cons]
  constructor
  ·rintro ⟨h1,h2,h3,h4⟩
   exact ⟨⟨λ a ha=>h4 _ rfl a ha,h2⟩,λ a ha=>by rcases List.mem_cons.1 ha with rfl|ha; exact h1; exact h3 a ha,λ q hq=>by cases hq⟩
  ·rintro ⟨⟨h1,h2⟩,h3,_⟩
   exact ⟨h3 r (by simp),h2,λ a ha=>h3 a (List.mem_cons_of_mem _ ha),λ q hq a ha=>by cases hq; exact h1 a ha⟩
 |some q,r::l=>by
  simp only [chk,Bool.and_eq_true,Ita (some r.1) l,Ks,List.pairwise_cons]
  constructor
  ·rintro ⟨h1,h0,h2,h3,h4⟩
   refine ⟨⟨λ a ha=>h4 _ rfl a ha,h2⟩,λ a ha=>by rcases List.mem_cons.1 ha with rfl|ha; exact h1; exact h3 a ha,λ q' hq a ha=>?_⟩
   cases hq
   rcases List.mem_cons.1 ha with rfl|ha
   ·exact h0
   ·exact Mr h0 (h4 _ rfl a ha)
  ·rintro ⟨⟨h1,h2⟩,h3,h4⟩
   exact ⟨h3 r (by simp),h4 q rfl r (by simp),h2,λ a ha=>h3 a (List.mem_cons_of_mem _ ha),λ q' hq a ha=>by cases hq; exact h1 a ha⟩
theorem O9 {l:List Row}:M0 l=true↔Ks l∧(∀ r∈l,Ng r=true)∧l.length≤60:=by
 unfold M0
 simp only [Bool.and_eq_true,Ita,decide_eq_true_eq]
 constructor
 ·rintro ⟨⟨h1,h2,_⟩,h3⟩
  exact ⟨h1,h2,by omega⟩
 ·rintro ⟨h1,h2,h3⟩
  exact ⟨⟨h1,h2,λ q hq=>by cases hq⟩,by omega⟩
def C9a (a b:List Row):List Row:=b.foldl mrg a
theorem Lja {a b:List Row} {r:Row} (h:r∈C9a a b):r∈a∨r∈b:=by
 induction b generalizing a with
 |nil=>exact .inl h
 |cons x b ih=>
  rcases ih (a:=mrg a x) h with h|h
  ·rcases Zta h with rfl|h
   ·exact .inr (by simp)
   ·exact .inl h
  ·exact .inr (List.mem_cons_of_mem _ h)
theorem Iua {a b:List Row} (h:Ks a):Ks (C9a a b):=by
 induction b generalizing a with
 |nil=>exact h
 |cons x b ih=>exact ih (Nla h)
def mx (a b:Row):Row:=bif Baa a b then b else a

def B3a:Nat→Nat→List Int
 |0,n=>[(n:Int)]
 |f+1,n=>if n≤127 then [(n:Int)] else ((n % 128+128:Nat):Int)::B3a f (n / 128)
def P6 (n:Nat):List Int:=B3a 4 n
def U2:Nat→Nat→Nat→List Int→Option (Nat×Nat)
 |0,_,_,_=>none
 |_+1,_,_,[]=>none
 |f+1,k,acc,x::l=>if 128≤x then U2 f (k+1) (acc+x.toNat % 128 * 128 ^ k) l
  else if (x=0∧0<k)∨1000000000<acc+x.toNat % 128 * 128 ^ k then none else some (acc+x.toNat % 128 * 128 ^ k,k+1)
def Pa (l:List Int) (p:Nat):Option (Nat×Nat):=match U2 5 0 0 (l.drop p) with
 |some (n,c)=>some (n,p+c)
 |none=>none
theorem Rea:∀ (f n:Nat),(B3a f n).length≤f+1∧0<(B3a f n).length
 |0,n=>by simp [B3a]
 |f+1,n=>by
  unfold B3a
  split
  ·simp
  ·have:=Rea f (n / 128)
   simp only [List.length_cons]
   omega
theorem Sy:∀ (f k acc:Nat) (l:List Int) (n c:Nat),An l→U2 f k acc l=some (n,c)→acc<128 ^ k→k<c∧c≤k+f∧c - k≤l.length∧n≤1000000000
 |0,_,_,_,_,_,_,h,_=>by simp [U2] at h
 |_+1,_,_,[],_,_,_,h,_=>by simp [U2] at h
 |f+1,k,acc,x::l,n,c,hb,h,ha=>by
  have hx:=hb x (by simp)
  unfold U2 at h
  split at h
  ·have h1:acc+x.toNat % 128 * 128 ^ k<128 ^ (k+1):=by
    have h2:x.toNat % 128≤127:=by omega
    have h3:=Nat.mul_le_mul_right (128 ^ k) h2
    rw [Nat.pow_succ]
    omega
   have:=Sy f (k+1) _ l n c (λ y hy=>hb y (List.mem_cons_of_mem _ hy)) h h1
   simp only [List.length_cons]
   omega
  ·split at h
   ·cases h
   ·simp only [Option.some.injEq,Prod.mk.injEq] at h
    obtain ⟨rfl,rfl⟩:=h
    simp only [List.length_cons]
    omega
theorem Rfa:∀ (f k acc:Nat) (l:List Int) (n c:Nat),An l→U2 (f+1) k acc l=some (n,c)→acc<128 ^ k→∃ m,n=acc+m * 128 ^ k∧l=B3a f m++l.drop (c - k)∧(m=0→c=k+1∧(0<k→False))∧m<128 ^ (f+1)
 |0,k,acc,[],n,c,hb,h,ha=>by simp [U2] at h
 |_+1,k,acc,[],n,c,hb,h,ha=>by simp [U2] at h
 |0,k,acc,x::l,n,c,hb,h,ha=>by
  have hx:=hb x (by simp)
  unfold U2 at h
  split at h
  ·simp [U2] at h
  ·rename_i h128
   split at h
   ·cases h
   ·rename_i hz
    simp only [Option.some.injEq,Prod.mk.injEq] at h
    obtain ⟨rfl,rfl⟩:=h
    have hm:x.toNat % 128=x.toNat:=Nat.mod_eq_of_lt (by omega)
    refine ⟨x.toNat,by rw [hm],?_,λ h0=>⟨rfl,λ hk=>hz (.inl ⟨by omega,hk⟩)⟩,by omega⟩
    rw [show k+1 - k=1 by omega]
    show x::l=[((x.toNat:Nat):Int)]++l
    rw [show ((x.toNat:Nat):Int)=x by omega]
    rfl
 |f+1,k,acc,x::l,n,c,hb,h,ha=>by
  have hx:=hb x (by simp)
  have hb':An l:=λ y hy=>hb y (List.mem_cons_of_mem _ hy)
  unfold U2 at h
  split at h
  ·rename_i h128
   have h1:acc+x.toNat % 128 * 128 ^ k<128 ^ (k+1):=by
    have h2:x.toNat % 128≤127:=by omega
    have h3:=Nat.mul_le_mul_right (128 ^ k) h2
    rw [Nat.pow_succ]
    omega
   obtain ⟨m,e1,e2,e3,e4⟩:=Rfa f (k+1) _ l n c hb' h h1
   have hbd:=Sy (f+1) (k+1) _ l n c hb' h h1
   have hm0:m≠0:=λ h0=>(e3 h0).2 (by omega)
   refine ⟨x.toNat % 128+m * 128,?_,?_,λ h0=>by omega,?_⟩
   ·rw [e1,Nat.pow_succ,Nat.add_mul]
    have:m * 128 * 128 ^ k=m * (128 ^ k * 128):=by rw [Nat.mul_assoc,Nat.mul_comm 128]
    omega
   ·unfold B3a
    rw [if_neg (by omega),show (x.toNat % 128+m * 128) / 128=m by omega,show (x.toNat % 128+m * 128) % 128=x.toNat % 128 by omega,show c - k=(c - (k+1))+1 by omega,List.drop_succ_cons,List.cons_append,← e2]
    congr 1
    omega
   ·rw [Nat.pow_succ]
    omega
  ·rename_i h128
   split at h
   ·cases h
   ·rename_i hz
    simp only [Option.some.injEq,Prod.mk.injEq] at h
    obtain ⟨rfl,rfl⟩:=h
    have hm:x.toNat % 128=x.toNat:=Nat.mod_eq_of_lt (by omega)
    have hp:128≤128 ^ (f+1+1):=by
     have:=Nat.pow_le_pow_right (show 0<128 by decide) (show 1≤f+1+1 by omega)
     simpa using this
    refine ⟨x.toNat,by rw [hm],?_,λ h0=>⟨rfl,λ hk=>hz (.inl ⟨by omega,hk⟩)⟩,by omega⟩
    rw [show k+1 - k=1 by omega]
    unfold B3a
    rw [if_pos (by omega)]
    show x::l=[((x.toNat:Nat):Int)]++l
    rw [show ((x.toNat:Nat):Int)=x by omega]
    rfl
theorem Rga:∀ (f k acc m:Nat) (rest:List Int),m<128 ^ (f+1)→(0<k→0<m)→acc+m * 128 ^ k≤1000000000→U2 (f+1) k acc (B3a f m++rest)=some (acc+m * 128 ^ k,k+(B3a f m).length)
 |0,k,acc,m,rest,hm,hk,hn=>by
  show U2 1 k acc ((m:Int)::rest)=_
  unfold U2
  have h1:m<128:=by simpa using hm
  rw [if_neg (by omega),if_neg (by
   rw [show (m:Int).toNat % 128=m by rw [Int.toNat_natCast]; exact Nat.mod_eq_of_lt h1]
   omega)]
  rw [show (m:Int).toNat % 128=m by rw [Int.toNat_natCast]; exact Nat.mod_eq_of_lt h1]
  rfl
 |f+1,k,acc,m,rest,hm,hk,hn=>by
  unfold B3a
  by_cases h:m≤127
  ·rw [if_pos h]
   show U2 (f+2) k acc ((m:Int)::rest)=_
   unfold U2
   rw [if_neg (by omega),if_neg (by
    rw [show (m:Int).toNat % 128=m by rw [Int.toNat_natCast]; exact Nat.mod_eq_of_lt (by omega)]
    omega)]
   rw [show (m:Int).toNat % 128=m by rw [Int.toNat_natCast]; exact Nat.mod_eq_of_lt (by omega)]
   rfl
  ·rw [if_neg h]
   show U2 (f+2) k acc (((m % 128+128:Nat):Int)::(B3a f (m / 128)++rest))=_
   unfold U2
   have e1:(((m % 128+128:Nat):Int)).toNat % 128=m % 128:=by rw [Int.toNat_natCast]; omega
   rw [if_pos (by omega),e1]
   have hmod:m=m % 128+m / 128 * 128:=by omega
   have hm2:m / 128<128 ^ (f+1):=by rw [Nat.pow_succ] at hm; omega
   have e2:acc+m % 128 * 128 ^ k+m / 128 * 128 ^ (k+1)=acc+m * 128 ^ k:=by
    have h2:m * 128 ^ k=(m % 128+m / 128 * 128) * 128 ^ k:=by rw [← hmod]
    rw [h2,Nat.add_mul,Nat.pow_succ]
    have:m / 128 * 128 * 128 ^ k=m / 128 * (128 ^ k * 128):=by rw [Nat.mul_assoc,Nat.mul_comm 128]
    omega
   rw [Rga f (k+1) (acc+m % 128 * 128 ^ k) (m / 128) rest hm2 (λ _=>by omega) (by rw [e2]; exact hn),e2,List.length_cons]
   simp only [Option.some.injEq,Prod.mk.injEq,true_and]
   omega
theorem Lka (pre:List Int) (n:Nat) (rest:List Int) (hn:n≤1000000000):Pa (pre++(P6 n++rest)) pre.length=some (n,pre.length+(P6 n).length):=by
 unfold Pa
 rw [List.drop_left]
 have:=Rga 4 0 0 n rest (by omega) (by omega) (by omega)
 unfold P6
 rw [this]
 simp
theorem Sz {l:List Int} {p n q:Nat} (hb:An l) (h:Pa l p=some (n,q)):l.drop p=P6 n++l.drop q∧n≤1000000000∧p<q∧q≤l.length:=by
 unfold Pa at h
 split at h
 ·rename_i m c hd
  simp only [Option.some.injEq,Prod.mk.injEq] at h
  obtain ⟨rfl,rfl⟩:=h
  have hb':An (l.drop p):=λ y hy=>hb y (List.mem_of_mem_drop hy)
  have hbd:=Sy 5 0 0 _ _ _ hb' hd (by decide)
  obtain ⟨m',e1,e2,_,_⟩:=Rfa 4 0 0 _ _ _ hb' hd (by decide)
  have e3:m=m':=by rw [e1]; simp
  subst e3
  rw [List.length_drop] at hbd
  refine ⟨?_,hbd.2.2.2,by omega,by omega⟩
  rw [Nat.sub_zero,List.drop_drop] at e2
  exact e2
 ·cases h
theorem Eub (i:Nat) (hi:i<5):(2:Int) ^ (min (Int.toNat (IntKind.wrap .i64 (7 * (i:Int)))) (IntKind.bits .i64))=((128 ^ i:Nat):Int):=by
 have:i=0∨i=1∨i=2∨i=3∨i=4:=by omega
 rcases this with rfl|rfl|rfl|rfl|rfl<;>decide
theorem Dxb (i:Nat) (hi:i<5):(2:Int) ^ (min (Int.toNat (IntKind.wrap .u64 (IntKind.wrap .i64 (7 * (i:Int))))) (IntKind.bits .i64))=((128 ^ i:Nat):Int):=by
 have:i=0∨i=1∨i=2∨i=3∨i=4:=by omega
 rcases this with rfl|rfl|rfl|rfl|rfl<;>decide
theorem sh7 (i:Nat) (hi:i<5):¬ (IntKind.wrap .i64 (7 * (i:Int))<0)∧¬ (IntKind.wrap .u64 (IntKind.wrap .i64 (7 * (i:Int)))<0):=by
 have:i=0∨i=1∨i=2∨i=3∨i=4:=by omega
 rcases this with rfl|rfl|rfl|rfl|rfl<;>decide
theorem Po (i:Nat) (hi:i≤5):128 ^ i≤34359738368:=by
 have:=Nat.pow_le_pow_right (show 0<128 by decide) hi
 simpa using this
theorem Ra (n:Nat) (h:n<18446744073709551616):(BitVec.ofInt (IntKind.bits .i64) (n:Int)).toNat=n:=by
 rw [BitVec.toNat_ofInt]
 show ((n:Int) % ((2 ^ 64:Nat):Int)).toNat=n
 rw [Int.emod_eq_of_lt (by omega) (by omega)]
 exact Int.toNat_natCast n
theorem Xra (n:Nat) (h:n<9223372036854775808):IntKind.wrap .i64 ((BitVec.ofInt (IntKind.bits .i64) (n:Int) &&& BitVec.ofInt (IntKind.bits .i64) 127).toNat)=((n % 128:Nat):Int):=by
 rw [BitVec.toNat_and,Ra n (by omega),show (BitVec.ofInt (IntKind.bits .i64) 127).toNat=127 from by decide,show (127:Nat)=2 ^ 7 - 1 from rfl,Nat.and_two_pow_sub_one_eq_mod]
 exact w64 (by omega) (by omega)
theorem Lla (a m i:Nat) (ha:a<128 ^ i) (hm:m<128) (hi:i<5):IntKind.wrap .i64 ((BitVec.ofInt (IntKind.bits .i64) (a:Int) ||| BitVec.ofInt (IntKind.bits .i64) ((m * 128 ^ i:Nat):Int)).toNat)=((a+m * 128 ^ i:Nat):Int):=by
 have hp:=Po i (by omega)
 have hmul:m * 128 ^ i≤127 * 34359738368:=Nat.mul_le_mul (by omega) hp
 rw [BitVec.toNat_or,Ra a (by omega),Ra _ (by omega),Nat.or_comm]
 have e:(128:Nat) ^ i=2 ^ (7 * i):=by rw [Nat.pow_mul]
 have h2:=Nat.two_pow_add_eq_or_of_lt (i:=7 * i) (b:=a) (by rw [← e]; exact ha) m
 rw [← e,Nat.mul_comm] at h2
 rw [← h2,Nat.add_comm]
 exact w64 (by omega) (by omega)
def Iva (l:List Int) (p:Int):Int×Int×Bool:=if p<0 then (0,0,false) else match Pa l p.toNat with
 |some (n,q)=>((n:Int),(q:Int),true)
 |none=>(0,0,false)
def Dhb (p:Nat):Option (Nat×Nat)→Int×Int×Bool
 |some (n,c)=>((n:Int),((p+c:Nat):Int),true)
 |none=>(0,0,false)
def Aaa (r:Sum (Int×Int×Bool) Unit):Int×Int×Bool:=Sum.elim (λ y=>y) (λ _=>(0,0,false)) r
theorem G5a {l:List Int} {p:Nat} (h:p<l.length):l.drop p=l.getD p 0::l.drop (p+1):=Al h
theorem Nma (l:List Int) (hb:An l) (hl:l.length≤1000000000000) (p:Nat) (hp:p≤1000000000000):∀ (f i acc:Nat),f+i=5→acc<128 ^ i→
  Tot (λ k=>Gd k l (p:Int) (acc:Int) (i:Int)) (λ r=>Aaa r=Dhb p (U2 f i acc (l.drop (p+i)))):=by
 intro f
 induction f with
 |zero=>
  intro i acc hi ha
  refine Tot.succ ?_
  simp only [Gd]
  exact Tot.ndec (by omega) (Tot.pure rfl)
 |succ f ih=>
  intro i acc hi ha
  have hi5:i<5:=by omega
  refine Tot.succ ?_
  simp only [Gd]
  refine Tot.dec (by omega) (Tot.dec (by omega) ?_)
  rw [w64 (n:=(l.length:Int) - (i:Int)) (by omega) (by omega),w64 (n:=(p:Int)+(i:Int)) (by omega) (by omega),show Int.toNat ((p:Int)+(i:Int))=p+i by omega]
  refine Tot.dite (λ h=>?_) (λ h=>?_)
  ·have hlt:p+i<l.length:=by omega
   refine Tot.dec (by omega) (Tot.dec (by omega) ?_)
   have hx:=hb (l.getD (p+i) 0) (A3 hlt)
   rw [G5a hlt,Eub i hi5]
   have he:U2 (f+1) i acc (l.getD (p+i) 0::l.drop (p+i+1))=if 128≤l.getD (p+i) 0 then U2 f (i+1) (acc+(l.getD (p+i) 0).toNat % 128 * 128 ^ i) (l.drop (p+i+1)) else if (l.getD (p+i) 0=0∧0<i)∨1000000000<acc+(l.getD (p+i) 0).toNat % 128 * 128 ^ i then none else some (acc+(l.getD (p+i) 0).toNat % 128 * 128 ^ i,i+1):=rfl
   rw [he]
   generalize l.getD (p+i) 0=x at hx ⊢
   obtain ⟨v,rfl⟩:∃ v:Nat,x=(v:Int):=⟨x.toNat,by omega⟩
   rw [Int.toNat_natCast]
   have hp1:=Po i (by omega)
   have hmul:v % 128 * 128 ^ i≤127 * 34359738368:=Nat.mul_le_mul (by omega) hp1
   rw [w64 (n:=(v:Int)) (by omega) (by omega)]
   have e1:Int.tmod (v:Int) 128 * ((128 ^ i:Nat):Int)=((v % 128 * 128 ^ i:Nat):Int):=by
    rw [Int.tmod_eq_emod_of_nonneg (by omega)]
    push_cast
    rfl
   rw [e1,w64 (n:=((v % 128 * 128 ^ i:Nat):Int)) (by omega) (by omega),← Int.natCast_add,w64 (n:=((acc+v % 128 * 128 ^ i:Nat):Int)) (by omega) (by omega),w64 (n:=(i:Int)+1) (by omega) (by omega),w64 (n:=(p:Int)+(i:Int)+1) (by omega) (by omega)]
   refine Tot.ndec (sh7 i hi5).1 ?_
   refine Tot.dite (λ h128=>?_) (λ h128=>?_)
   ·rw [if_pos (by omega)]
    have h1:acc+v % 128 * 128 ^ i<128 ^ (i+1):=by
     have h2:v % 128≤127:=by omega
     have h3:=Nat.mul_le_mul_right (128 ^ i) h2
     rw [Nat.pow_succ]
     omega
    have:=ih (i+1) (acc+v % 128 * 128 ^ i) (by omega) h1
    rw [show p+(i+1)=p+i+1 by omega] at this
    exact this
   ·rw [if_neg (by omega)]
    have big:Tot (λ _:Nat=>cond (decide (((acc+v % 128 * 128 ^ i:Nat):Int) > 1000000000)) (some (Sum.inl ((0:Int),(0:Int),false))) (some (Sum.inl (((acc+v % 128 * 128 ^ i:Nat):Int),(p:Int)+(i:Int)+1,true))):Nat→Option (Sum (Int×Int×Bool) Unit))
      (λ r=>Aaa r=if 1000000000<acc+v % 128 * 128 ^ i then (0,0,false) else (((acc+v % 128 * 128 ^ i:Nat):Int),((p+(i+1):Nat):Int),true)):=by
     refine Tot.dite (λ hbig=>?_) (λ hbig=>?_)
     ·rw [if_pos (by omega)]; exact Tot.pure rfl
     ·rw [if_neg (by omega)]
      refine Tot.pure ?_
      show (_,_,_)=_
      rw [show (p:Int)+(i:Int)+1=((p+(i+1):Nat):Int) by omega]
    have goal:∀ c:Prop,[Decidable c]→(if c∨1000000000<acc+v % 128 * 128 ^ i then none else some (acc+v % 128 * 128 ^ i,i+1))=if c then none else if 1000000000<acc+v % 128 * 128 ^ i then (none:Option (Nat×Nat)) else some (acc+v % 128 * 128 ^ i,i+1):=by
     intro c _
     by_cases h1:c<;>by_cases h2:1000000000<acc+v % 128 * 128 ^ i<;>simp [h1,h2]
    rw [goal]
    have fin:(Dhb p (if 1000000000<acc+v % 128 * 128 ^ i then (none:Option (Nat×Nat)) else some (acc+v % 128 * 128 ^ i,i+1)))=if 1000000000<acc+v % 128 * 128 ^ i then (0,0,false) else (((acc+v % 128 * 128 ^ i:Nat):Int),((p+(i+1):Nat):Int),true):=by
     split<;>rfl
    refine Tot.ite (λ h0=>?_) (λ h0=>?_)
    ·have hv:v=0:=by
      have:=beq_iff_eq.1 h0
      omega
     refine Tot.dite (λ hi0=>?_) (λ hi0=>?_)
     ·rw [if_pos ⟨by omega,by omega⟩]; exact Tot.pure rfl
     ·rw [if_neg (by omega),fin]; exact big
    ·have hv:v≠0:=by
      intro e
      subst e
      simp at h0
     rw [if_neg (by omega),fin]; exact big
  ·refine Tot.pure ?_
   rw [List.drop_of_length_le (by omega)]
   rfl
theorem Rha (l:List Int) (hb:An l) (hl:l.length≤1000000000000) (p:Int) (hp:p≤1000000000000):Tot (λ k=>Hy k l p) (λ r=>r=Iva l p):=by
 unfold Hy Iva
 by_cases h0:p<0
 ·rw [if_pos h0]
  refine Tot.bind (Q:=λ r=>r = .inr ()) ?_ ?_
  ·refine Tot.succ ?_
   simp only [Gd]
   exact Tot.dec (by omega) (Tot.ndec (by omega) (Tot.pure rfl))
  ·rintro r rfl
   exact Tot.pure rfl
 ·rw [if_neg h0]
  obtain ⟨n,rfl⟩:∃ n:Nat,p=(n:Int):=⟨p.toNat,by omega⟩
  rw [Int.toNat_natCast]
  refine Tot.bind (Nma l hb hl n (by omega) 5 0 0 rfl (by decide)) ?_
  intro r hr
  unfold Pa
  rw [Nat.add_zero] at hr
  have hr':Aaa r=(match (match U2 5 0 0 (l.drop n) with|some (m,c)=>some (m,n+c)|none=>none) with|some (m,q)=>((m:Int),(q:Int),true)|none=>((0:Int),(0:Int),false)):=by
   rw [hr]
   cases U2 5 0 0 (l.drop n) with
   |none=>rfl
   |some mc=>rfl
  rw [← hr']
  cases r with
  |inl y=>exact Tot.pure rfl
  |inr z=>exact Tot.pure rfl

theorem Nna (l:List Int) (hb:An l) (hl:l.length≤1000000000000) (p:Nat) (hp:p<l.length):∀ (f i acc:Nat),f+i=5→acc<128 ^ i→
  Tot (λ k=>F6 k l (p:Int) (acc:Int) (i:Int)) (λ r=>Aaa r=Dhb p (U2 f i acc (l.drop (p+i)))):=by
 intro f
 induction f with
 |zero=>
  intro i acc hi ha
  refine Tot.succ ?_
  simp only [F6]
  exact Tot.ndec (by omega) (Tot.pure rfl)
 |succ f ih=>
  intro i acc hi ha
  have hi5:i<5:=by omega
  refine Tot.succ ?_
  simp only [F6]
  refine Tot.dec (by omega) (Tot.dec (by omega) (Tot.dec (by omega) ?_))
  rw [w64 (n:=(p:Int)+(i:Int)) (by omega) (by omega),show Int.toNat ((p:Int)+(i:Int))=p+i by omega]
  refine Tot.dite (λ h=>?_) (λ h=>?_)
  ·have hlt:p+i<l.length:=by omega
   refine Tot.dec (by omega) (Tot.dec (by omega) ?_)
   have hx:=hb (l.getD (p+i) 0) (A3 hlt)
   rw [G5a hlt,Dxb i hi5]
   have he:U2 (f+1) i acc (l.getD (p+i) 0::l.drop (p+i+1))=if 128≤l.getD (p+i) 0 then U2 f (i+1) (acc+(l.getD (p+i) 0).toNat % 128 * 128 ^ i) (l.drop (p+i+1)) else if (l.getD (p+i) 0=0∧0<i)∨1000000000<acc+(l.getD (p+i) 0).toNat % 128 * 128 ^ i then none else some (acc+(l.getD (p+i) 0).toNat % 128 * 128 ^ i,i+1):=rfl
   rw [he]
   generalize l.getD (p+i) 0=x at hx ⊢
   obtain ⟨v,rfl⟩:∃ v:Nat,x=(v:Int):=⟨x.toNat,by omega⟩
   rw [Int.toNat_natCast]
   have hp1:=Po i (by omega)
   have hmul:v % 128 * 128 ^ i≤127 * 34359738368:=Nat.mul_le_mul (by omega) hp1
   rw [w64 (n:=(v:Int)) (by omega) (by omega),Xra v (by omega)]
   have e1:((v % 128:Nat):Int) * ((128 ^ i:Nat):Int)=((v % 128 * 128 ^ i:Nat):Int):=by push_cast; rfl
   rw [e1,w64 (n:=((v % 128 * 128 ^ i:Nat):Int)) (by omega) (by omega),Lla acc (v % 128) i ha (by omega) hi5,w64 (n:=(i:Int)+1) (by omega) (by omega),w64 (n:=(p:Int)+(i:Int)+1) (by omega) (by omega)]
   refine Tot.ndec (sh7 i hi5).2 ?_
   refine Tot.dite (λ h128=>?_) (λ h128=>?_)
   ·rw [if_pos (by omega)]
    have h1:acc+v % 128 * 128 ^ i<128 ^ (i+1):=by
     have h2:v % 128≤127:=by omega
     have h3:=Nat.mul_le_mul_right (128 ^ i) h2
     rw [Nat.pow_succ]
     omega
    have:=ih (i+1) (acc+v % 128 * 128 ^ i) (by omega) h1
    rw [show p+(i+1)=p+i+1 by omega] at this
    exact this
   ·rw [if_neg (by omega)]
    have big:Tot (λ _:Nat=>cond (decide (((acc+v % 128 * 128 ^ i:Nat):Int) > 1000000000)) (some (Sum.inl ((0:Int),(0:Int),false))) (some (Sum.inl (((acc+v % 128 * 128 ^ i:Nat):Int),(p:Int)+(i:Int)+1,true))):Nat→Option (Sum (Int×Int×Bool) Unit))
      (λ r=>Aaa r=if 1000000000<acc+v % 128 * 128 ^ i then (0,0,false) else (((acc+v % 128 * 128 ^ i:Nat):Int),((p+(i+1):Nat):Int),true)):=by
     refine Tot.dite (λ hbig=>?_) (λ hbig=>?_)
     ·rw [if_pos (by omega)]; exact Tot.pure rfl
     ·rw [if_neg (by omega)]
      refine Tot.pure ?_
      show (_,_,_)=_
      rw [show (p:Int)+(i:Int)+1=((p+(i+1):Nat):Int) by omega]
    have goal:∀ c:Prop,[Decidable c]→(if c∨1000000000<acc+v % 128 * 128 ^ i then none else some (acc+v % 128 * 128 ^ i,i+1))=if c then none else if 1000000000<acc+v % 128 * 128 ^ i then (none:Option (Nat×Nat)) else some (acc+v % 128 * 128 ^ i,i+1):=by
     intro c _
     by_cases h1:c<;>by_cases h2:1000000000<acc+v % 128 * 128 ^ i<;>simp [h1,h2]
    rw [goal]
    have fin:(Dhb p (if 1000000000<acc+v % 128 * 128 ^ i then (none:Option (Nat×Nat)) else some (acc+v % 128 * 128 ^ i,i+1)))=if 1000000000<acc+v % 128 * 128 ^ i then (0,0,false) else (((acc+v % 128 * 128 ^ i:Nat):Int),((p+(i+1):Nat):Int),true):=by
     split<;>rfl
    refine Tot.dite (λ hi0=>?_) (λ hi0=>?_)
    ·refine Tot.ite (λ h0=>?_) (λ h0=>?_)
     ·have hv:v=0:=by
       have:=beq_iff_eq.1 h0
       omega
      rw [if_pos ⟨by omega,by omega⟩]; exact Tot.pure rfl
     ·have hv:v≠0:=by
       intro e
       subst e
       simp at h0
      rw [if_neg (by omega),fin]; exact big
    ·rw [if_neg (by omega),fin]; exact big
  ·refine Tot.pure ?_
   rw [List.drop_of_length_le (by omega)]
   rfl
theorem V2 (l:List Int) (hb:An l) (hl:l.length≤1000000000000) (p:Int):Tot (λ k=>Dn k l p) (λ r=>r=Iva l p):=by
 unfold Dn Iva
 by_cases h0:p<0
 ·rw [if_pos h0]
  refine Tot.bind (Q:=λ r=>r = .inr ()) ?_ ?_
  ·refine Tot.succ ?_
   simp only [F6]
   exact Tot.dec (by omega) (Tot.ndec (by omega) (Tot.pure rfl))
  ·rintro r rfl
   exact Tot.pure rfl
 ·rw [if_neg h0]
  by_cases h1:p<(l.length:Int)
  ·obtain ⟨n,rfl⟩:∃ n:Nat,p=(n:Int):=⟨p.toNat,by omega⟩
   rw [Int.toNat_natCast]
   refine Tot.bind (Nna l hb hl n (by omega) 5 0 0 rfl (by decide)) ?_
   intro r hr
   unfold Pa
   rw [Nat.add_zero] at hr
   have hr':Aaa r=(match (match U2 5 0 0 (l.drop n) with|some (m,c)=>some (m,n+c)|none=>none) with|some (m,q)=>((m:Int),(q:Int),true)|none=>((0:Int),(0:Int),false)):=by
    rw [hr]
    cases U2 5 0 0 (l.drop n) with
    |none=>rfl
    |some mc=>rfl
   refine Tot.mono (Q:=λ y=>y=Aaa r) ?_ (λ y hy=>hy.trans hr')
   cases r with
   |inl y=>exact Tot.pure rfl
   |inr z=>exact Tot.pure rfl
  ·have e:Pa l p.toNat=none:=by
    unfold Pa
    rw [List.drop_of_length_le (by omega)]
    rfl
   rw [e]
   refine Tot.bind (Q:=λ r=>r = .inr ()) ?_ ?_
   ·refine Tot.succ ?_
    simp only [F6]
    exact Tot.dec (by omega) (Tot.dec (by omega) (Tot.ndec h1 (Tot.pure rfl)))
   ·rintro r rfl
    exact Tot.pure rfl
def Bl (n:Int):Nat:=(max 0 (min n 1000000000)).toNat
theorem Og (n:Int):Bl n≤1000000000:=by unfold Bl; omega
theorem Aba {n:Int} (h0:0≤n) (h1:n≤1000000000):(Bl n:Int)=n:=by unfold Bl; omega
theorem G6a (n:Nat) (h:n≤255):IntKind.wrap .u8 (n:Int)=(n:Int):=by
 rw [IntKind.wrap_u8]
 omega
theorem Noa:∀ (f n:Nat) (out:List Int),n<128 ^ (f+1)→f≤4→out.length+f≤1000000000010→
  Tot (λ k=>H9 k out (n:Int)) (λ r=>∃ m:Nat,r.2=(m:Int)∧m≤127∧r.1++[(m:Int)]=out++B3a f n∧r.1.length≤out.length+f):=by
 intro f
 induction f with
 |zero=>
  intro n out hn hf hl
  refine Tot.succ ?_
  simp only [H9]
  have:n<128:=by simpa using hn
  exact Tot.ndec (by omega) (Tot.pure ⟨n,rfl,by omega,rfl,by simp⟩)
 |succ f ih=>
  intro n out hn hf hl
  have hp:=Po (f+1+1 - 1) (by omega)
  refine Tot.succ ?_
  simp only [H9]
  refine Tot.dite (λ h=>?_) (λ h=>?_)
  ·have hn2:n / 128<128 ^ (f+1):=by rw [Nat.pow_succ] at hn; omega
   have hn3:n<4398046511104:=by
    have:=Po (f+1) (by omega)
    rw [Nat.pow_succ] at hn
    omega
   have e1:Int.tmod (n:Int) 128+128=((n % 128+128:Nat):Int):=by
    rw [Int.tmod_eq_emod_of_nonneg (by omega)]
    omega
   have e2:Int.tdiv (n:Int) 128=((n / 128:Nat):Int):=by
    rw [Int.tdiv_eq_ediv_of_nonneg (by omega)]
    omega
   rw [e1,e2,w64 (n:=((n % 128+128:Nat):Int)) (by omega) (by omega),w64 (n:=((n / 128:Nat):Int)) (by omega) (by omega),G6a _ (by omega)]
   refine Tot.ble (by simp only [List.length_cons,List.length_nil]; omega) ?_
   refine (ih (n / 128) (out++[((n % 128+128:Nat):Int)]) hn2 (by omega) (by simp only [List.length_append,List.length_cons,List.length_nil]; omega)).mono ?_
   rintro r ⟨m,h1,h2,h3,h4⟩
   refine ⟨m,h1,h2,?_,by simp only [List.length_append,List.length_cons,List.length_nil] at h4; omega⟩
   rw [h3,List.append_assoc]
   congr 1
   conv => { rhs; unfold B3a }
   rw [if_neg (by omega)]
   rfl
  ·refine Tot.pure ⟨n,rfl,by omega,?_,by show out.length≤out.length+(f+1); omega⟩
   unfold B3a
   rw [if_pos (by omega)]
theorem Aca (out:List Int) (n:Int) (hl:out.length≤1000000000000):Tot (λ k=>Ff k out n) (λ r=>r=out++P6 (Bl n)):=by
 unfold Ff
 have e:(if (0:Int)<(if (1000000000:Int)<n then 1000000000 else n) then (if (1000000000:Int)<n then 1000000000 else n) else 0)=((Bl n:Nat):Int):=by
  unfold Bl
  split<;>split<;>omega
 simp only
 rw [e]
 have hc:=Og n
 refine Tot.bind (Noa 4 (Bl n) out (by omega) (by omega) (by omega)) ?_
 rintro r ⟨m,h1,h2,h3,h4⟩
 rw [h1,G6a m (by omega)]
 refine Tot.ble (by simp only [List.length_cons,List.length_nil]; omega) (Tot.pure h3)
theorem Npa:∀ (f n:Nat) (out:List Int),n<128 ^ (f+1)→f≤4→out.length+f≤1000000000010→
  Tot (λ k=>Cy k (n:Int) out) (λ r=>∃ m:Nat,r.1=(m:Int)∧m≤127∧r.2++[(m:Int)]=out++B3a f n∧r.2.length≤out.length+f):=by
 intro f
 induction f with
 |zero=>
  intro n out hn hf hl
  refine Tot.succ ?_
  simp only [Cy]
  have:n<128:=by simpa using hn
  exact Tot.ndec (by omega) (Tot.pure ⟨n,rfl,by omega,rfl,by simp⟩)
 |succ f ih=>
  intro n out hn hf hl
  refine Tot.succ ?_
  simp only [Cy]
  refine Tot.dite (λ h=>?_) (λ h=>?_)
  ·have hn2:n / 128<128 ^ (f+1):=by rw [Nat.pow_succ] at hn; omega
   have hn3:n<4398046511104:=by
    have:=Po (f+1) (by omega)
    rw [Nat.pow_succ] at hn
    omega
   have e1:IntKind.wrap .i64 ((BitVec.ofInt (IntKind.bits .i64) ((n % 128:Nat):Int) ||| BitVec.ofInt (IntKind.bits .i64) 128).toNat)=((n % 128+128:Nat):Int):=by
    have:=Lla (n % 128) 1 1 (by omega) (by omega) (by omega)
    exact this
   have e2:Int.fdiv (n:Int) (2 ^ (min (Int.toNat 7) (IntKind.bits .i64)))=((n / 128:Nat):Int):=by
    have:(2:Int) ^ (min (Int.toNat 7) (IntKind.bits .i64))=128:=by decide
    rw [this,Int.fdiv_eq_ediv_of_nonneg _ (by omega)]
    omega
   rw [Xra n (by omega),e1,e2,G6a _ (by omega)]
   refine Tot.ble (by simp only [List.length_cons,List.length_nil]; omega) ?_
   refine (ih (n / 128) (out++[((n % 128+128:Nat):Int)]) hn2 (by omega) (by simp only [List.length_append,List.length_cons,List.length_nil]; omega)).mono ?_
   rintro r ⟨m,h1,h2,h3,h4⟩
   refine ⟨m,h1,h2,?_,by simp only [List.length_append,List.length_cons,List.length_nil] at h4; omega⟩
   rw [h3,List.append_assoc]
   congr 1
   conv => { rhs; unfold B3a }
   rw [if_neg (by omega)]
   rfl
  ·refine Tot.pure ⟨n,rfl,by omega,?_,by show out.length≤out.length+(f+1); omega⟩
   unfold B3a
   rw [if_pos (by omega)]
theorem Ada (out:List Int) (n:Int) (hl:out.length≤1000000000000):Tot (λ k=>Dp k out n) (λ r=>r=out++P6 (Bl n)):=by
 have hc:=Og n
 have fin:Tot (λ k=>(Cy k ((Bl n:Nat):Int) (([]:List Int)++out)).bind λ r1=>cond (Nat.ble ((List.length r1.2+List.length [IntKind.wrap .u8 r1.1]) * 1) 140737488355328) (some (r1.2++[IntKind.wrap .u8 r1.1])) none) (λ r=>r=out++P6 (Bl n)):=by
  rw [List.nil_append]
  refine Tot.bind (Npa 4 (Bl n) out (by omega) (by omega) (by omega)) ?_
  rintro r ⟨m,h1,h2,h3,h4⟩
  rw [h1,G6a m (by omega)]
  exact Tot.ble (by simp only [List.length_cons,List.length_nil]; omega) (Tot.pure h3)
 unfold Dp
 refine Tot.ble (by simp only [List.length_nil]; omega) ?_
 refine Tot.dite (λ h1=>?_) (λ h1=>?_)
 ·refine Tot.ndec (by omega) ?_
  have e:((Bl n:Nat):Int)=1000000000:=by unfold Bl; omega
  rw [e] at fin
  exact fin
 ·refine Tot.dite (λ h2=>?_) (λ h2=>?_)
  ·have e:((Bl n:Nat):Int)=0:=by unfold Bl; omega
   rw [e] at fin
   exact fin
  ·have e:((Bl n:Nat):Int)=n:=by unfold Bl; omega
   rw [e] at fin
   exact fin
theorem Mu (n:Nat):(P6 n).length≤5∧0<(P6 n).length:=Rea 4 n
theorem Caa:∀ (f n:Nat),n<128 ^ (f+1)→An (B3a f n)
 |0,n,hn=>by
  intro x hx
  simp only [B3a,List.mem_singleton] at hx
  have:n<128:=by simpa using hn
  omega
 |f+1,n,hn=>by
  unfold B3a
  split
  ·intro x hx
   simp only [List.mem_singleton] at hx
   omega
  ·intro x hx
   rcases List.mem_cons.1 hx with rfl|hx
   ·omega
   ·exact Caa f (n / 128) (by rw [Nat.pow_succ] at hn; omega) x hx
theorem Nqa (n:Nat) (hn:n≤1000000000):An (P6 n):=Caa 4 n (by omega)
theorem Cba (s:ByteArray):An (bytesOf s):=by
 intro x hx
 unfold bytesOf at hx
 obtain ⟨b,_,rfl⟩:=List.mem_map.1 hx
 have:=b.toNat_lt
 omega
theorem Q9 (s:ByteArray):(bytesOf s).length=s.size:=by
 unfold bytesOf
 rw [List.length_map]
 exact Array.length_toList
theorem U3 (s:ByteArray):Lk (bytesOf s)=s:=by
 unfold Lk bytesOf
 rw [List.map_map]
 have:(λ n:Int=>UInt8.ofNat n.toNat) ∘ (λ b:UInt8=>(b.toNat:Int))=id:=by
  funext b
  show UInt8.ofNat ((b.toNat:Int)).toNat=b
  rw [Int.toNat_natCast]
  exact UInt8.ofNat_toNat
 rw [this,List.map_id]
theorem O6 {l:List Int} (h:An l):bytesOf (Lk l)=l:=by
 unfold Lk bytesOf
 show List.map _ (List.map _ l)=l
 rw [List.map_map]
 have:∀ x∈l,((λ b:UInt8=>(b.toNat:Int)) ∘ (λ n:Int=>UInt8.ofNat n.toNat)) x=x:=by
  intro x hx
  have hb:=h x hx
  show ((UInt8.ofNat x.toNat).toNat:Int)=x
  rw [UInt8.toNat_ofNat']
  omega
 exact (List.map_congr_left this).trans (List.map_id' l)
theorem Oa (l:List Int):(Lk l).size=l.length:=by
 unfold Lk
 show (List.map _ l).toArray.size=l.length
 simp
def txt (s:ByteArray):List Int:=P6 (Bl (s.size:Int))++bytesOf s
theorem Vda (out:List Int) (s:ByteArray) (hl:out.length≤1000000000000) (hs:s.size≤1000000000000):Tot (λ k=>J8 k out s) (λ r=>r=out++txt s):=by
 unfold J8 txt
 refine Tot.bind (Aca out _ hl) ?_
 rintro r rfl
 have:=(Mu (Bl (s.size:Int))).1
 refine Tot.ble (by simp only [List.length_append]; omega) (Tot.pure ?_)
 rw [List.append_assoc]
theorem Vea (out:List Int) (s:ByteArray) (hl:out.length≤1000000000000) (hs:s.size≤1000000000000):Tot (λ k=>Ja k out s) (λ r=>r=out++txt s):=by
 unfold Ja txt
 refine Tot.bind (Ada out _ hl) ?_
 rintro r rfl
 have:=(Mu (Bl (s.size:Int))).1
 refine Tot.ble (by simp only [List.length_append]; omega) (Tot.pure ?_)
 rw [List.append_assoc]
def Lma (l:List Int) (p:Nat):Option (ByteArray×Nat):=match Pa l p with
 |some (n,q)=>if q+n≤l.length then some (Lk ((l.drop q).take n),q+n) else none
 |none=>none
def Bab (l:List Int) (p:Int):ByteArray×Int×Bool:=if p<0 then ((⟨#[]⟩:ByteArray),0,false) else match Lma l p.toNat with
 |some (s,q)=>(s,(q:Int),true)
 |none=>((⟨#[]⟩:ByteArray),0,false)
theorem Cca (l:List Int) (hb:An l) (p:Int):Iva l p=(0,0,false)∨∃ n q,0≤p∧Pa l p.toNat=some (n,q)∧Iva l p=((n:Int),(q:Int),true)∧n≤1000000000∧q≤l.length:=by
 unfold Iva
 by_cases h:p<0
 ·rw [if_pos h]; exact .inl rfl
 ·rw [if_neg h]
  cases hg:Pa l p.toNat with
  |none=>exact .inl rfl
  |some nq=>
   obtain ⟨n,q⟩:=nq
   have:=Sz hb hg
   exact .inr ⟨n,q,by omega,rfl,rfl,this.2.1,this.2.2.2⟩
theorem Lna (l:List Int) (hb:An l) (hl:l.length≤1000000000000) (p:Int) (hp:p≤1000000000000):Tot (λ k=>J7 k l p) (λ r=>r=Bab l p):=by
 unfold J7
 refine Tot.bind (Rha l hb hl p hp) ?_
 rintro r rfl
 unfold Bab Lma
 rcases Cca l hb p with h|⟨n,q,h0,hg,h,hn,hq⟩
 ·rw [h]
  refine Tot.yes rfl (Tot.pure ?_)
  unfold Iva at h
  split
  ·rfl
  ·rename_i h0
   rw [if_neg h0] at h
   cases hg:Pa l p.toNat with
   |none=>rfl
   |some nq=>rw [hg] at h; simp at h
 ·rw [h]
  refine Tot.no rfl ?_
  rw [if_neg (by omega),hg]
  simp only
  rw [w64 (n:=(l.length:Int) - (q:Int)) (by omega) (by omega),w64 (n:=(q:Int)+(n:Int)) (by omega) (by omega)]
  refine Tot.dite (λ hgt=>?_) (λ hgt=>?_)
  ·rw [if_neg (by omega)]
   exact Tot.pure rfl
  ·rw [if_pos (by omega)]
   refine Tot.dec (by omega) (Tot.dec (by omega) (Tot.dec (by omega) (Tot.pure ?_)))
   rw [show Int.toNat ((q:Int)+(n:Int))=q+n by omega,Int.toNat_natCast,List.drop_take,show q+n - q=n by omega]
   simp only [Prod.mk.injEq,true_and,and_true]
   push_cast
   rfl
theorem Dsa (l:List Int) (hb:An l) (hl:l.length≤1000000000000) (p:Int):Tot (λ k=>J9 k l p) (λ r=>r=Bab l p):=by
 unfold J9
 refine Tot.bind (V2 l hb hl p) ?_
 rintro r rfl
 unfold Bab Lma
 rcases Cca l hb p with h|⟨n,q,h0,hg,h,hn,hq⟩
 ·rw [h]
  refine Tot.yes rfl (Tot.pure ?_)
  unfold Iva at h
  split
  ·rfl
  ·rename_i h0
   rw [if_neg h0] at h
   cases hg:Pa l p.toNat with
   |none=>rfl
   |some nq=>rw [hg] at h; simp at h
 ·rw [h]
  refine Tot.no rfl ?_
  rw [if_neg (by omega),hg]
  simp only
  rw [w64 (n:=(l.length:Int) - (q:Int)) (by omega) (by omega),w64 (n:=(q:Int)+(n:Int)) (by omega) (by omega)]
  refine Tot.dite (λ hgt=>?_) (λ hgt=>?_)
  ·rw [if_neg (by omega)]
   exact Tot.pure rfl
  ·rw [if_pos (by omega)]
   refine Tot.dec (by omega) (Tot.dec (by omega) (Tot.dec (by omega) (Tot.pure ?_)))
   rw [show Int.toNat ((q:Int)+(n:Int))=q+n by omega,Int.toNat_natCast,List.drop_take,show q+n - q=n by omega]
   simp only [Prod.mk.injEq,true_and,and_true]
   push_cast
   rfl
theorem Iwa {l:List Int} {p q:Nat} {s:ByteArray} (hb:An l) (h:Lma l p=some (s,q)):l.drop p=txt s++l.drop q∧s.size≤1000000000∧p<q∧q≤l.length:=by
 unfold Lma at h
 split at h
 ·rename_i n q0 hg
  obtain ⟨h1,h2,h3,h4⟩:=Sz hb hg
  split at h
  ·rename_i hle
   simp only [Option.some.injEq,Prod.mk.injEq] at h
   obtain ⟨rfl,rfl⟩:=h
   have hlen:((l.drop q0).take n).length=n:=by rw [List.length_take,List.length_drop]; omega
   have hbb:An ((l.drop q0).take n):=λ x hx=>hb x (List.mem_of_mem_drop (List.mem_of_mem_take hx))
   refine ⟨?_,by rw [Oa,hlen]; exact h2,by omega,by omega⟩
   unfold txt
   rw [Oa,hlen,O6 hbb,h1,show Bl (n:Int)=n by unfold Bl; omega,List.append_assoc]
   congr 1
   rw [← List.drop_drop,List.take_append_drop]
  ·cases h
 ·cases h
theorem Vfa (pre:List Int) (s:ByteArray) (rest:List Int) (hs:s.size≤1000000000):Lma (pre++(txt s++rest)) pre.length=some (s,pre.length+(txt s).length):=by
 unfold Lma txt
 have hc:Bl (s.size:Int)=s.size:=by unfold Bl; omega
 rw [hc,List.append_assoc,Lka pre s.size _ hs]
 simp only
 rw [if_pos (by simp only [List.length_append,Q9]; omega)]
 have e:(pre++(P6 s.size++(bytesOf s++rest))).drop (pre.length+(P6 s.size).length)=bytesOf s++rest:=by
  rw [← List.append_assoc,← List.length_append,List.drop_left]
 rw [e,List.take_left' (Q9 s),U3]
 simp only [List.length_append,Q9,Option.some.injEq,Prod.mk.injEq,true_and]
 omega

def Dta (b:Bool):Int:=bif b then 1 else 0
theorem Zua (b:Bool):Nn b=some (Dta b):=by cases b<;>rfl
theorem Vga (b:Bool):Kz b=some (Dta b):=by cases b<;>rfl
def Ona (s:Stp):List Int:=P6 (Bl s.1)++(P6 (Bl s.2.1)++P6 (Bl s.2.2))
theorem Loa (s:Stp):(Ona s).length≤15:=by
 unfold Ona
 have h1:=(Mu (Bl s.1)).1
 have h2:=(Mu (Bl s.2.1)).1
 have h3:=(Mu (Bl s.2.2)).1
 simp only [List.length_append]
 omega
theorem Nra (out:List Int) (s:Stp) (b:Bool) (hl:out.length≤999999999900):Tot (λ k=>Ib k out s b) (λ r=>r=out++(Ona s++P6 (Bl (Dta b)))):=by
 have h1:=(Mu (Bl s.1)).1
 have h2:=(Mu (Bl s.2.1)).1
 have h3:=(Mu (Bl s.2.2)).1
 unfold Ib Ona
 refine Tot.bind (Aca out s.1 (by omega)) ?_
 rintro r rfl
 refine Tot.bind (Aca _ s.2.1 (by simp only [List.length_append]; omega)) ?_
 rintro r rfl
 refine Tot.bind (Aca _ s.2.2 (by simp only [List.length_append]; omega)) ?_
 rintro r rfl
 refine Tot.bind (Tot.of (Q:=λ y=>y=Dta b) (Zua b) rfl) ?_
 rintro y rfl
 refine Tot.bind (Aca _ (Dta b) (by simp only [List.length_append]; omega)) ?_
 rintro r rfl
 exact Tot.pure (by simp only [List.append_assoc])
theorem Nsa (out:List Int) (s:Stp) (hl:out.length≤999999999900):Tot (λ k=>Jb k out s) (λ r=>r=out++Ona s):=by
 have h1:=(Mu (Bl s.1)).1
 have h2:=(Mu (Bl s.2.1)).1
 unfold Jb Ona
 refine Tot.bind (Ada out s.1 (by omega)) ?_
 rintro r rfl
 refine Tot.bind (Ada _ s.2.1 (by simp only [List.length_append]; omega)) ?_
 rintro r rfl
 refine Tot.bind (Ada _ s.2.2 (by simp only [List.length_append]; omega)) ?_
 rintro r rfl
 exact Tot.pure (by simp only [List.append_assoc])
theorem Aea {s:ByteArray} (h:Ar s=true):1≤s.size∧s.size≤20:=by
 unfold Ar at h
 rw [Bool.and_eq_true,Fh] at h
 omega
theorem Cda {r:Row} (h:Ng r=true):Ar r.1=true:=by
 unfold Ng at h
 rw [Bool.and_eq_true] at h
 exact h.1
theorem Zva (s:ByteArray):(txt s).length≤5+s.size:=by
 have h1:=(Mu (Bl (s.size:Int))).1
 unfold txt
 simp only [List.length_append,Q9]
 omega

theorem Xj (l:List Int) (p:Nat):Iva l (p:Int)=match Pa l p with
 |some (n,q)=>((n:Int),(q:Int),true)
 |none=>(0,0,false):=by
 unfold Iva
 rw [if_neg (by omega),Int.toNat_natCast]
 all_goals cases Pa l p<;>rfl
theorem Lpa (l:List Int) (p:Nat):Bab l (p:Int)=match Lma l p with
 |some (s,q)=>(s,(q:Int),true)
 |none=>((⟨#[]⟩:ByteArray),0,false):=by
 unfold Bab
 rw [if_neg (by omega),Int.toNat_natCast]
 all_goals cases Lma l p<;>rfl
theorem Bba (l:List Int) (hb:An l) (hl:l.length≤1000000000000) (p:Nat) (hp:p≤l.length) (bad:Bool):
  Tot (λ k=>Cq k (l,(p:Int),bad)) (λ r=>(bad=false∧∃ n q:Nat,Pa l p=some (n,q)∧q≤l.length∧r=((n:Int),l,(q:Int),false))∨((bad=true∨Pa l p=none)∧r=(0,l,(p:Int),true))):=by
 unfold Cq
 refine Tot.bind (Rha l hb hl (p:Int) (by omega)) ?_
 rintro r rfl
 refine Tot.ite (λ h=>Tot.pure (.inr ⟨.inl h,rfl⟩)) (λ h=>?_)
 rw [Xj]
 cases hg:Pa l p with
 |none=>exact Tot.yes rfl (Tot.pure (.inr ⟨.inr rfl,rfl⟩))
 |some nq=>
  obtain ⟨n,q⟩:=nq
  simp only at h
  subst h
  exact Tot.no rfl (Tot.pure (.inl ⟨rfl,n,q,rfl,(Sz hb hg).2.2.2,rfl⟩))
theorem Dyb (l:List Int) (hb:An l) (hl:l.length≤1000000000000) (p:Nat) (hp:p≤l.length):
  Tot (λ k=>Cm k (l,(p:Int),false)) (λ r=>(∃ (s:ByteArray) (q:Nat),Lma l p=some (s,q)∧q≤l.length∧r=(s,l,(q:Int),false))∨(Lma l p=none∧r=((⟨#[]⟩:ByteArray),l,(p:Int),true))):=by
 unfold Cm
 refine Tot.bind (Lna l hb hl (p:Int) (by omega)) ?_
 rintro r rfl
 refine Tot.no rfl ?_
 rw [Lpa]
 cases hg:Lma l p with
 |none=>exact Tot.yes rfl (Tot.pure (.inr ⟨rfl,rfl⟩))
 |some nq=>
  obtain ⟨n,q⟩:=nq
  exact Tot.no rfl (Tot.pure (.inl ⟨n,q,rfl,(Iwa hb hg).2.2.2,rfl⟩))
def Qm (l:List Int) (p:Nat):Option ((Stp×Bool)×Nat):=
 (Pa l p).bind λ b=>(Pa l b.2).bind λ c=>(Pa l c.2).bind λ d=>(Pa l d.2).bind λ e=>bif decide (1<e.1) then none else
  some ((((b.1:Int),(c.1:Int),(d.1:Int)),(e.1:Int)==1),e.2)
theorem Dzb (l:List Int) (hb:An l) (hl:l.length≤1000000000000) (p:Nat) (hp:p≤l.length) (bad:Bool):
  Tot (λ k=>Dk k (l,(p:Int),bad)) (λ r=>(bad=false∧∃ (x:Stp×Bool) (q:Nat),Qm l p=some (x,q)∧q≤l.length∧r=(x.1,x.2,l,(q:Int),false))∨((bad=true∨Qm l p=none)∧∃ s b,∃ q:Nat,q≤l.length∧r=(s,b,l,(q:Int),true))):=by
 unfold Dk
 have nx:∀ {o:Option (Nat×Nat)} {f:Nat×Nat→Option ((Stp×Bool)×Nat)},o=none→o.bind f=none:=by
  intro o f h; rw [h]; rfl
 refine Tot.bind (Bba l hb hl p hp bad) ?_
 rintro r (⟨h0,n1,p1,h1,l1,rfl⟩|⟨h1,rfl⟩)
 ·simp only
  refine Tot.bind (Bba l hb hl p1 l1 false) ?_
  rintro r (⟨_,n2,p2,h2,l2,rfl⟩|⟨h2,rfl⟩)
  ·simp only
   refine Tot.bind (Bba l hb hl p2 l2 false) ?_
   rintro r (⟨_,n3,p3,h3,l3,rfl⟩|⟨h3,rfl⟩)
   ·simp only
    refine Tot.bind (Bba l hb hl p3 l3 false) ?_
    rintro r (⟨_,n4,p4,h4,l4,rfl⟩|⟨h4,rfl⟩)
    ·simp only
     refine Tot.no rfl (Tot.pure ?_)
     have e:Qm l p=bif decide (1<n4) then none else some ((((n1:Int),(n2:Int),(n3:Int)),(n4:Int)==1),p4):=by
      unfold Qm
      simp only [h1,h2,h3,h4,Option.bind_some]
     cases hd:decide (1<n4) with
     |true=>
      rw [hd,cond_true] at e
      refine .inr ⟨.inr e,((n1:Int),(n2:Int),(n3:Int)),((n4:Int)==1),p4,l4,?_⟩
      have:decide ((n4:Int) > 1)=true:=decide_eq_true (by have:=of_decide_eq_true hd; omega)
      rw [this]
     |false=>
      rw [hd,cond_false] at e
      refine .inl ⟨h0,_,p4,e,l4,?_⟩
      have:decide ((n4:Int) > 1)=false:=decide_eq_false (by have:=of_decide_eq_false hd; omega)
      rw [this]
    ·refine Tot.yes rfl (Tot.pure (.inr ⟨.inr ?_,_,_,p3,l3,rfl⟩))
     have h4':=h4.resolve_left (by simp)
     unfold Qm
     simp only [h1,h2,h3,h4',Option.bind_some,Option.bind_none]
   ·simp only
    refine Tot.bind (Bba l hb hl p2 l2 true) ?_
    rintro r (⟨hh,_⟩|⟨_,rfl⟩)
    ·cases hh
    ·refine Tot.yes rfl (Tot.pure (.inr ⟨.inr ?_,_,_,p2,l2,rfl⟩))
     have h3':=h3.resolve_left (by simp)
     unfold Qm
     simp only [h1,h2,h3',Option.bind_some,Option.bind_none]
  ·simp only
   refine Tot.bind (Bba l hb hl p1 l1 true) ?_
   rintro r (⟨hh,_⟩|⟨_,rfl⟩)
   ·cases hh
   ·refine Tot.bind (Bba l hb hl p1 l1 true) ?_
    rintro r (⟨hh,_⟩|⟨_,rfl⟩)
    ·cases hh
    ·refine Tot.yes rfl (Tot.pure (.inr ⟨.inr ?_,_,_,p1,l1,rfl⟩))
     have h2':=h2.resolve_left (by simp)
     unfold Qm
     simp only [h1,h2',Option.bind_some,Option.bind_none]
 ·simp only
  refine Tot.bind (Bba l hb hl p hp true) ?_
  rintro r (⟨hh,_⟩|⟨_,rfl⟩)
  ·cases hh
  ·refine Tot.bind (Bba l hb hl p hp true) ?_
   rintro r (⟨hh,_⟩|⟨_,rfl⟩)
   ·cases hh
   ·refine Tot.bind (Bba l hb hl p hp true) ?_
    rintro r (⟨hh,_⟩|⟨_,rfl⟩)
    ·cases hh
    ·refine Tot.yes rfl (Tot.pure (.inr ⟨?_,_,_,p,hp,rfl⟩))
     rcases h1 with h1|h1
     ·exact .inl h1
     ·refine .inr ?_
      unfold Qm
      rw [h1]
      rfl
theorem Zwa (l:List Int) (hb:An l) (hl:l.length≤1000000000000) (p:Int):
  Tot (λ k=>G0 k l p) (λ r=>(∃ n1 p1 n2 p2 n3 p3,0≤p∧Pa l p.toNat=some (n1,p1)∧Pa l p1=some (n2,p2)∧Pa l p2=some (n3,p3)∧r=(((n1:Int),(n2:Int),(n3:Int)),(p3:Int),true))∨(((Pa l p.toNat).bind λ a=>(Pa l a.2).bind λ b=>Pa l b.2)=none∨p<0)∧r.2.2=false):=by
 unfold G0
 refine Tot.bind (V2 l hb hl p) ?_
 rintro r1 rfl
 refine Tot.bind (V2 l hb hl _) ?_
 rintro r2 rfl
 refine Tot.bind (V2 l hb hl _) ?_
 rintro r3 rfl
 by_cases hp:p<0
 ·have:(Iva l p).2.2=false:=by unfold Iva; rw [if_pos hp]
  exact Tot.no this (Tot.pure (.inr ⟨.inr hp,rfl⟩))
 ·have e1:Iva l p=match Pa l p.toNat with|some (n,q)=>((n:Int),(q:Int),true)|none=>(0,0,false):=by
   unfold Iva; rw [if_neg hp]; all_goals cases Pa l p.toNat<;>rfl
  cases h1:Pa l p.toNat with
  |none=>
   rw [h1] at e1
   simp only [e1]
   exact Tot.no rfl (Tot.pure (.inr ⟨.inl rfl,rfl⟩))
  |some a=>
   obtain ⟨n1,p1⟩:=a
   rw [h1] at e1
   simp only [e1,Xj,Option.bind_some]
   refine Tot.yes rfl ?_
   cases h2:Pa l p1 with
   |none=>exact Tot.no rfl (Tot.pure (.inr ⟨.inl rfl,rfl⟩))
   |some b=>
    obtain ⟨n2,p2⟩:=b
    refine Tot.yes rfl ?_
    simp only [Xj,Option.bind_some]
    cases h3:Pa l p2 with
    |none=>exact Tot.pure (.inr ⟨.inl rfl,rfl⟩)
    |some c=>
     obtain ⟨n3,p3⟩:=c
     exact Tot.pure (.inl ⟨n1,p1,n2,p2,n3,p3,by omega,rfl,h2,h3,rfl⟩)
theorem Ria {l:List Int} {p:Nat} (h:((Pa l p).bind λ a=>(Pa l a.2).bind λ b=>Pa l b.2)=none):Qm l p=none:=by
 unfold Qm
 cases h1:Pa l p with
 |none=>rfl
 |some a=>
  rw [h1] at h
  simp only [Option.bind_some] at h ⊢
  cases h2:Pa l a.2 with
  |none=>rfl
  |some b=>
   rw [h2] at h
   simp only [Option.bind_some] at h ⊢
   rw [h]
   rfl

theorem Ixa:∀ s∈Pn,Km s∧Ar s=true:=by
 intro s hs
 simp only [Pn,List.mem_cons,List.not_mem_nil,or_false] at hs
 rcases hs with rfl|rfl|rfl|rfl|rfl|rfl<;>exact ⟨by unfold Km; decide,by decide⟩

abbrev Nmd:=ByteArray×List Int
abbrev Dsk:=List Nmd×List Nmd
def Ed:Nmd:=((⟨#[]⟩:ByteArray),[])
def Eia (l:List Nmd):Prop:=l.length≤1000000000000∧∀ x∈l,x.2.length≤1000000000000
def Xsa (d:Dsk):Prop:=Eia d.1∧Eia d.2
theorem Mh (l:List Int) (h:l.length≤1000000000000):Ai l=some l:=by
 unfold Ai
 rw [show Nat.ble ((List.length ([]:List Int)+List.length l) * 1) 140737488355328=true from Nat.ble_eq_true_of_le (by simp only [List.length_nil]; omega)]
 rfl
theorem X3 (l:List Nmd) (hf:Eia l):∀ (n i:Nat) (acc:List Nmd),l.length - i=n→i≤l.length→acc.length≤i→
  Tot (λ k=>Dw k acc l (l.length:Int) (i:Int)) (λ r=>r=acc++l.drop i):=by
 obtain ⟨h1,h2⟩:=hf
 intro n
 induction n with
 |zero=>
  intro i acc hd hi ha
  refine Tot.succ ?_
  simp only [Dw]
  refine Tot.ndec (by omega) (Tot.pure ?_)
  rw [List.drop_of_length_le (by omega),List.append_nil]
 |succ n ih=>
  intro i acc hd hi ha
  have hlt:i<l.length:=by omega
  refine Tot.succ ?_
  simp only [Dw]
  refine Tot.dec (by omega) (Tot.dec (by omega) (Tot.dec (by omega) ?_))
  rw [show Int.toNat (i:Int)=i from Int.toNat_natCast i,w64 (n:=(i:Int)+1) (by omega) (by omega),Al (d:=Ed) hlt]
  have e0:l.getD i ((⟨#[]⟩:ByteArray),([]:List Int))=l.getD i Ed:=rfl
  rw [e0]
  have hb:=h2 _ (A3 (d:=Ed) hlt)
  refine Tot.bind (Tot.of (Q:=λ r=>r=(l.getD i Ed).2) (Mh _ hb) rfl) ?_
  rintro r rfl
  refine Tot.ble (by simp only [List.length_cons,List.length_nil]; omega) ?_
  refine (ih (i+1) (acc++[l.getD i Ed]) (by omega) (by omega) (by simp only [List.length_append,List.length_cons,List.length_nil]; omega)).mono ?_
  rintro r rfl
  rw [List.append_assoc]
  rfl
theorem U4 (l:List Nmd) (hf:Eia l):Tot (λ k=>C0 k l) (λ r=>r=l):=by
 unfold C0
 refine Tot.bind (X3 l hf _ 0 [] rfl (Nat.zero_le _) (Nat.zero_le _)) ?_
 intro r hr
 rw [List.drop_zero,List.nil_append] at hr
 exact Tot.pure hr
theorem Kx (d:Dsk) (hf:Xsa d):Tot (λ k=>Ae k d) (λ r=>r=d):=by
 unfold Ae
 refine Tot.bind (U4 d.1 hf.1) ?_
 rintro r rfl
 refine Tot.bind (U4 d.2 hf.2) ?_
 rintro r rfl
 exact Tot.pure rfl
def fnd (l:List Nmd) (s:ByteArray):Option Nat:=l.findIdx? (λ x=>teq x.1 s)
def Dua (l:List Nmd) (s:ByteArray):Int:=match fnd l s with
 |some i=>(i:Int)
 |none => -1
theorem Rja (l:List Nmd) (s:ByteArray) (hf:l.length≤1000000000000):∀ (n i:Nat),l.length - i=n→i≤l.length→
  Tot (λ k=>La k s l (l.length:Int) (i:Int)) (λ r=>r=match fnd (l.drop i) s with|some j => .inl ((i+j:Nat):Int)|none => .inr ()):=by
 intro n
 induction n with
 |zero=>
  intro i hd hi
  refine Tot.succ ?_
  simp only [La]
  refine Tot.ndec (by omega) (Tot.pure ?_)
  rw [List.drop_of_length_le (by omega)]
  rfl
 |succ n ih=>
  intro i hd hi
  have hlt:i<l.length:=by omega
  refine Tot.succ ?_
  simp only [La]
  refine Tot.dec (by omega) (Tot.dec (by omega) (Tot.dec (by omega) ?_))
  rw [show Int.toNat (i:Int)=i from Int.toNat_natCast i,w64 (n:=(i:Int)+1) (by omega) (by omega),Al (d:=Ed) hlt]
  have e0:l.getD i ((⟨#[]⟩:ByteArray),([]:List Int))=l.getD i Ed:=rfl
  rw [e0]
  have e1:fnd (l.getD i Ed::l.drop (i+1)) s=if teq (l.getD i Ed).1 s then some 0 else (fnd (l.drop (i+1)) s).map (· + 1):=by
   unfold fnd
   rw [List.findIdx?_cons]
  rw [e1]
  refine Tot.ite (λ h=>?_) (λ h=>?_)
  ·have h':teq (l.getD i Ed).1 s=true:=h
   rw [if_pos h']
   exact Tot.pure rfl
  ·have h':¬ (teq (l.getD i Ed).1 s=true):=by
    have:teq (l.getD i Ed).1 s=false:=h
    rw [this]; simp
   rw [if_neg h']
   refine (ih (i+1) (by omega) (by omega)).mono ?_
   rintro r rfl
   cases fnd (l.drop (i+1)) s with
   |none=>rfl
   |some j=>
    show Sum.inl _=Sum.inl _
    rw [show i+1+j=i+(j+1) by omega]
theorem Lqa (l:List Nmd) (s:ByteArray) (hf:l.length≤1000000000000):Tot (λ k=>Ky k l s) (λ r=>r=Dua l s):=by
 unfold Ky Dua
 refine Tot.bind (Rja l s hf _ 0 rfl (Nat.zero_le _)) ?_
 rintro r rfl
 rw [List.drop_zero]
 cases fnd l s with
 |none=>exact Tot.pure rfl
 |some j=>
  refine Tot.pure ?_
  rw [Nat.zero_add]
theorem Oh {l:List Nmd} {s:ByteArray} {i:Nat} (h:fnd l s=some i):i<l.length∧(l.getD i Ed).1=s:=by
 unfold fnd at h
 rw [List.findIdx?_eq_some_iff_getElem] at h
 obtain ⟨h1,h2,_⟩:=h
 refine ⟨h1,?_⟩
 rw [List.getD_eq_getElem?_getD,List.getElem?_eq_getElem h1]
 exact Jm.1 h2
def del (l:List Nmd) (s:ByteArray):List Nmd:=match fnd l s with
 |some i=>l.take i++l.drop (i+1)
 |none=>l
theorem Lra (l:List Nmd) (s:ByteArray) (hf:l.length≤1000000000000):Tot (λ k=>Ku k l s) (λ r=>r=del l s):=by
 unfold Ku del
 refine Tot.bind (Lqa l s hf) ?_
 rintro r rfl
 unfold Dua
 cases h:fnd l s with
 |none=>exact Tot.dec (by decide) (Tot.pure rfl)
 |some i=>
  have hl:=(Oh h).1
  dsimp only
  refine Tot.ndec (by omega) (Tot.dec (by omega) (Tot.dec (by omega) ?_))
  rw [w64 (n:=(i:Int)+1) (by omega) (by omega),show Int.toNat (i:Int)=i from Int.toNat_natCast i,show Int.toNat ((i:Int)+1)=i+1 by omega]
  refine Tot.ble (by simp only [List.length_nil,List.length_take]; omega) ?_
  refine Tot.dec (by omega) (Tot.dec (by omega) (Tot.ble (by simp only [List.length_append,List.length_nil,List.length_take,List.length_drop]; omega) (Tot.pure rfl)))

def nOk (x:Nmd):Bool:=Ar x.1 && !(decide ((x.2.length:Int) > 400))
def chn:Option ByteArray→List Nmd→Bool
 |_,[]=>true
 |none,r::l=>nOk r&&chn (some r.1) l
 |some q,r::l=>nOk r&&(tlt q r.1&&chn (some r.1) l)
def J6 (l:List Nmd):Bool:=chn none l&&decide ((l.length:Int)≤60)
def B4 (d:Dsk):Bool:=J6 d.1&&J6 d.2
def Pp (l:List Nmd):Prop:=∀ x∈l,Km x.1
def Cea (d:Dsk):Prop:=Pp d.1∧Pp d.2
def X4 (l:List Nmd):Nat→Option ByteArray
 |0=>none
 |i+1=>some (l.getD i Ed).1
theorem Lsa (l:List Nmd) (i:Nat) (h:i<l.length):chn (X4 l i) (l.drop i)=(nOk (l.getD i Ed)&&(bif decide (0<i) then tlt (l.getD (i - 1) Ed).1 (l.getD i Ed).1 else true)&&chn (X4 l (i+1)) (l.drop (i+1))):=by
 rw [Al (d:=Ed) h]
 cases i with
 |zero=>simp [X4,chn]
 |succ i=>simp [X4,chn,Bool.and_assoc]
theorem G7a (l:List Nmd) (hf:l.length≤1000000000000) (hs:Pp l):∀ (n i:Nat),l.length - i=n→i≤l.length→
  Tot (λ k=>Eo k l l (l.length:Int) (i:Int)) (λ r=>r=bif chn (X4 l i) (l.drop i) then .inr l else .inl false):=by
 intro n
 induction n with
 |zero=>
  intro i hn hi
  refine Tot.succ ?_
  simp only [Eo]
  refine Tot.ndec (by omega) (Tot.pure ?_)
  rw [List.drop_of_length_le (by omega)]
  cases X4 l i<;>rfl
 |succ n ih=>
  intro i hn hi
  have hlt:i<l.length:=by omega
  refine Tot.succ ?_
  simp only [Eo]
  refine Tot.dec (by omega) (Tot.dec (by omega) (Tot.dec (by omega) ?_))
  rw [show Int.toNat (i:Int)=i from Int.toNat_natCast i,w64 (n:=(i:Int)+1) (by omega) (by omega),Lsa l i hlt]
  have h1:=ih (i+1) (by omega) (by omega)
  have e:(((i+1:Nat)):Int)=(i:Int)+1:=by omega
  rw [e] at h1
  have e0:l.getD i ((⟨#[]⟩:ByteArray),([]:List Int))=l.getD i Ed:=rfl
  rw [e0]
  refine Tot.bind (Np (l.getD i Ed).1 (hs _ (A3 hlt))) ?_
  rintro b rfl
  cases hb:Ar (l.getD i Ed).1 with
  |false=>exact Tot.yes rfl (Tot.pure (by rw [show nOk (l.getD i Ed)=false by unfold nOk; rw [hb]; rfl]; rfl))
  |true=>
   refine Tot.no rfl ?_
   refine Tot.dite (λ h4=>Tot.pure (by rw [show nOk (l.getD i Ed)=false by unfold nOk; rw [decide_eq_true h4,hb]; rfl]; rfl)) (λ h4=>?_)
   have hnk:nOk (l.getD i Ed)=true:=by unfold nOk; rw [hb,decide_eq_false h4]; rfl
   rw [hnk,Bool.true_and]
   refine Tot.dite (λ h0=>?_) (λ h0=>?_)
   ·rw [w64 (n:=(i:Int) - 1) (by omega) (by omega)]
    refine Tot.dec (by omega) (Tot.dec (by omega) ?_)
    rw [show Int.toNat ((i:Int) - 1)=i - 1 by omega,decide_eq_true (show 0<i by omega),cond_true]
    refine Tot.ite (λ ht=>?_) (λ ht=>?_)
    ·have ht':(!(tlt (l.getD (i - 1) Ed).1 (l.getD i Ed).1))=true:=ht
     rw [Bool.not_eq_true'] at ht'
     exact Tot.pure (by rw [ht']; rfl)
    ·have ht':(!(tlt (l.getD (i - 1) Ed).1 (l.getD i Ed).1))=false:=ht
     rw [Bool.not_eq_false'] at ht'
     rw [ht',Bool.true_and]
     exact h1
   ·rw [decide_eq_false (show ¬ 0<i by omega),cond_false,Bool.true_and]
    exact h1
theorem G8a (l:List Nmd) (hf:l.length≤1000000000000) (hs:Pp l):∀ (n i:Nat),l.length - i=n→i≤l.length→
  Tot (λ k=>Ge k l (i:Int)) (λ r=>r=bif chn (X4 l i) (l.drop i) then .inr l else .inl false):=by
 intro n
 induction n with
 |zero=>
  intro i hn hi
  refine Tot.succ ?_
  simp only [Ge]
  refine Tot.ndec (by omega) (Tot.pure ?_)
  rw [List.drop_of_length_le (by omega)]
  cases X4 l i<;>rfl
 |succ n ih=>
  intro i hn hi
  have hlt:i<l.length:=by omega
  refine Tot.succ ?_
  simp only [Ge]
  refine Tot.dec (by omega) (Tot.dec (by omega) (Tot.dec (by omega) ?_))
  rw [show Int.toNat (i:Int)=i from Int.toNat_natCast i,w64 (n:=(i:Int)+1) (by omega) (by omega),Lsa l i hlt]
  have h1:=ih (i+1) (by omega) (by omega)
  have e:(((i+1:Nat)):Int)=(i:Int)+1:=by omega
  rw [e] at h1
  have e0:l.getD i ((⟨#[]⟩:ByteArray),([]:List Int))=l.getD i Ed:=rfl
  rw [e0]
  refine Tot.bind (Q8 (l.getD i Ed).1 (hs _ (A3 hlt))) ?_
  rintro b rfl
  cases hb:Ar (l.getD i Ed).1 with
  |false=>exact Tot.yes rfl (Tot.pure (by rw [show nOk (l.getD i Ed)=false by unfold nOk; rw [hb]; rfl]; rfl))
  |true=>
   refine Tot.no rfl (Tot.dec (by omega) (Tot.dec (by omega) ?_))
   refine Tot.dite (λ h4=>Tot.pure (by rw [show nOk (l.getD i Ed)=false by unfold nOk; rw [decide_eq_true h4,hb]; rfl]; rfl)) (λ h4=>?_)
   have hnk:nOk (l.getD i Ed)=true:=by unfold nOk; rw [hb,decide_eq_false h4]; rfl
   rw [hnk,Bool.true_and]
   refine Tot.dite (λ h0=>?_) (λ h0=>?_)
   ·rw [w64 (n:=(i:Int) - 1) (by omega) (by omega)]
    refine Tot.dec (by omega) (Tot.dec (by omega) (Tot.dec (by omega) (Tot.dec (by omega) ?_)))
    rw [show Int.toNat ((i:Int) - 1)=i - 1 by omega,decide_eq_true (show 0<i by omega),cond_true]
    refine Tot.ite (λ ht=>?_) (λ ht=>?_)
    ·have ht':(!(tlt (l.getD (i - 1) Ed).1 (l.getD i Ed).1))=true:=ht
     rw [Bool.not_eq_true'] at ht'
     exact Tot.pure (by rw [ht']; rfl)
    ·have ht':(!(tlt (l.getD (i - 1) Ed).1 (l.getD i Ed).1))=false:=ht
     rw [Bool.not_eq_false'] at ht'
     rw [ht',Bool.true_and]
     exact h1
   ·rw [decide_eq_false (show ¬ 0<i by omega),cond_false,Bool.true_and]
    exact h1
theorem G9a (l:List Nmd) (hf:l.length≤1000000000000) (hs:Pp l):Tot (λ k=>E8 k l) (λ r=>r=J6 l):=by
 unfold E8 J6
 refine Tot.bind (G7a l hf hs _ 0 rfl (Nat.zero_le _)) ?_
 rintro r rfl
 rw [List.drop_zero]
 show Tot _ (λ r=>r=(chn none l&&_))
 cases hc:chn none l with
 |true=>rw [show chn (X4 l 0) l=true from hc]; exact Tot.pure (by rw [Bool.true_and])
 |false=>rw [show chn (X4 l 0) l=false from hc]; exact Tot.pure rfl
theorem Gaa (l:List Nmd) (hf:l.length≤1000000000000) (hs:Pp l):Tot (λ k=>G3 k l) (λ r=>r=J6 l):=by
 unfold G3 J6
 refine Tot.bind (G8a l hf hs _ 0 rfl (Nat.zero_le _)) ?_
 rintro r rfl
 rw [List.drop_zero]
 show Tot _ (λ r=>r=(chn none l&&_))
 cases hc:chn none l with
 |true=>rw [show chn (X4 l 0) l=true from hc]; exact Tot.pure (by rw [Bool.true_and])
 |false=>rw [show chn (X4 l 0) l=false from hc]; exact Tot.pure rfl
theorem Xk (d:Dsk) (hf:Xsa d) (hs:Cea d):Tot (λ k=>Dj k d) (λ r=>r=B4 d):=by
 unfold Dj B4
 refine Tot.bind (G9a d.1 hf.1.1 hs.1) ?_
 rintro r rfl
 cases h:J6 d.1 with
 |false=>exact Tot.no rfl (Tot.pure rfl)
 |true=>
  refine Tot.yes rfl (Tot.bind (G9a d.2 hf.2.1 hs.2) ?_)
  rintro r rfl
  exact Tot.pure (by rw [Bool.true_and])
def plc (l:List Nmd) (s:ByteArray):Nat:=(l.takeWhile (λ y=>tlt y.1 s)).length
def ins (l:List Nmd) (x:Nmd):List Nmd:=l.take (plc l x.1)++[x]++l.drop (plc l x.1)
theorem Xta (l:List Nmd) (s:ByteArray):plc l s≤l.length:=(List.takeWhile_sublist _).length_le
theorem Iya (l:List Nmd) (s:ByteArray) (b:List Int) (hf:l.length≤1000000000000):∀ (n i:Nat),l.length - i=n→i≤l.length→
  Tot (λ k=>Kh k l (i:Int) s b) (λ r=>r=(l,((i+plc (l.drop i) s:Nat):Int),s,b)):=by
 intro n
 induction n with
 |zero=>
  intro i hd hi
  refine Tot.succ ?_
  simp only [Kh]
  refine Tot.ndec (by omega) (Tot.pure ?_)
  rw [List.drop_of_length_le (by omega)]
  rfl
 |succ n ih=>
  intro i hd hi
  have hlt:i<l.length:=by omega
  refine Tot.succ ?_
  simp only [Kh]
  refine Tot.dec (by omega) (Tot.dec (by omega) (Tot.dec (by omega) ?_))
  rw [show Int.toNat (i:Int)=i from Int.toNat_natCast i,w64 (n:=(i:Int)+1) (by omega) (by omega),Al (d:=Ed) hlt]
  have e0:l.getD i ((⟨#[]⟩:ByteArray),([]:List Int))=l.getD i Ed:=rfl
  rw [e0]
  have e1:plc (l.getD i Ed::l.drop (i+1)) s=if tlt (l.getD i Ed).1 s then plc (l.drop (i+1)) s+1 else 0:=by
   unfold plc
   rw [List.takeWhile_cons]
   split<;>rfl
  rw [e1]
  refine Tot.ite (λ h=>?_) (λ h=>?_)
  ·have h':tlt (l.getD i Ed).1 s=true:=h
   rw [if_pos h']
   refine (ih (i+1) (by omega) (by omega)).mono ?_
   rintro r rfl
   rw [show i+1+plc (l.drop (i+1)) s=i+(plc (l.drop (i+1)) s+1) by omega]
  ·have h':¬ (tlt (l.getD i Ed).1 s=true):=by
    have:tlt (l.getD i Ed).1 s=false:=h
    rw [this]; simp
   rw [if_neg h']
   exact Tot.pure rfl
theorem Lta (l:List Nmd) (x:Nmd) (hf:l.length≤1000000000000):Tot (λ k=>Lq k l x) (λ r=>r=ins l x):=by
 unfold Lq ins
 refine Tot.bind (Iya l x.1 x.2 hf _ 0 rfl (Nat.zero_le _)) ?_
 intro r hr
 rw [List.drop_zero,Nat.zero_add] at hr
 subst hr
 have hp:=Xta l x.1
 dsimp only
 refine Tot.dec (by omega) (Tot.dec (by omega) ?_)
 rw [show Int.toNat ((plc l x.1:Nat):Int)=plc l x.1 from Int.toNat_natCast _]
 refine Tot.ble (by simp only [List.length_nil,List.length_take]; omega) ?_
 refine Tot.ble (by simp only [List.length_append,List.length_nil,List.length_take,List.length_cons]; omega) ?_
 refine Tot.dec (by omega) (Tot.dec (by omega) (Tot.ble (by simp only [List.length_append,List.length_nil,List.length_take,List.length_drop,List.length_cons]; omega) (Tot.pure ?_)))
 rw [List.nil_append]

end Go.Proofs.YtmhhjceoinoekaaGreat.Vf
