import Derived.Test.YtcgfpppmikhgmaaGreatMab
import Derived.IntWalk
import Derived.Laws.StructEq
set_option linter.unusedVariables false
set_option linter.unusedSimpArgs false
namespace Go.Proofs.YtcgfpppmikhgmaaGreat.Vf
open Go

def Tot {α:Type} (f:Nat→Option α) (Q:α→Prop):Prop:=∃ r K,(∀ k,K≤k→f k=some r)∧Q r
section
variable {α β:Type} {f g:Nat→Option α} {Q Q':α→Prop}
theorem Tot.mono (h:Tot f Q) (hq:∀ a,Q a→Q' a):Tot f Q':=by
 obtain ⟨r,K,h1,h2⟩:=h
 exact ⟨r,K,h1,hq r h2⟩
theorem Tot.pure {a:α} (h:Q a):Tot (λ _=>some a) Q:=⟨a,0,λ _ _=>rfl,h⟩
theorem Tot.of {o:Option α} {a:α} (e:o=some a) (h:Q a):Tot (λ _=>o) Q:=⟨a,0,λ _ _=>e,h⟩
theorem Tot.bind {h:Nat→α→Option β} {R:β→Prop} (hf:Tot f Q) (hh:∀ a,Q a→Tot (λ k=>h k a) R):Tot (λ k=>(f k).bind (h k)) R:=by
 obtain ⟨a,K,h1,h2⟩:=hf
 obtain ⟨b,L,h3,h4⟩:=hh a h2
 exact ⟨b,max K L,λ k hk=>by show (f k).bind (h k)=_; rw [h1 k (by omega)]; exact h3 k (by omega),h4⟩
theorem Tot.yes {c:Bool} (hc:c=true) (h:Tot f Q):Tot (λ k=>cond c (f k) (g k)) Q:=by subst hc; exact h
theorem Tot.no {c:Bool} (hc:c=false) (h:Tot g Q):Tot (λ k=>cond c (f k) (g k)) Q:=by subst hc; exact h
theorem Tot.ite {c:Bool} (h1:c=true→Tot f Q) (h2:c=false→Tot g Q):Tot (λ k=>cond c (f k) (g k)) Q:=by
 cases hc:c with
 |true=>exact h1 hc
 |false=>exact h2 hc
theorem Tot.dec {p:Prop} [Decidable p] (hp:p) (h:Tot f Q):Tot (λ k=>cond (decide p) (f k) (g k)) Q:=Tot.yes (decide_eq_true hp) h
theorem Tot.ndec {p:Prop} [Decidable p] (hp:¬ p) (h:Tot g Q):Tot (λ k=>cond (decide p) (f k) (g k)) Q:=Tot.no (decide_eq_false hp) h
theorem Tot.dite {p:Prop} [Decidable p] (h1:p→Tot f Q) (h2:¬ p→Tot g Q):Tot (λ k=>cond (decide p) (f k) (g k)) Q:=
 Tot.ite (λ h=>h1 (of_decide_eq_true h)) (λ h=>h2 (of_decide_eq_false h))
theorem Tot.ble {m n:Nat} (hp:m≤n) (h:Tot f Q):Tot (λ k=>cond (Nat.ble m n) (f k) (g k)) Q:=Tot.yes (Nat.ble_eq_true_of_le hp) h
theorem Tot.succ (h:Tot (λ k=>f (k+1)) Q):Tot f Q:=by
 obtain ⟨r,K,h1,h2⟩:=h
 exact ⟨r,K+1,λ k hk=>by obtain ⟨m,rfl⟩:∃ m,k=m+1:=⟨k - 1,by omega⟩; exact h1 m (by omega),h2⟩
theorem Tot.and (h:Tot f Q) (h':Tot f Q'):Tot f (λ a=>Q a∧Q' a):=by
 obtain ⟨r,K,h1,h2⟩:=h
 obtain ⟨r',K',h1',h2'⟩:=h'
 have e:r=r':=by
  have a1:=h1 (max K K') (by omega)
  have a2:=h1' (max K K') (by omega)
  rw [a1] at a2
  exact Option.some.inj a2
 subst e
 exact ⟨r,K,h1,h2,h2'⟩
theorem Tot.law {f:Nat→Option Bool} (h:Tot f (λ b=>b=true)):∃ k,f k=some true:=by
 obtain ⟨r,K,h1,h2⟩:=h
 subst h2
 exact ⟨K,h1 K (Nat.le_refl _)⟩
end
theorem w64 {n:Int} (h1 : -9223372036854775808≤n) (h2:n≤9223372036854775807):IntKind.wrap .i64 n=n:=Go.IntWalk.i64_in n ⟨h1,h2⟩
theorem F4a (n:Int):0≤IntKind.wrap .u8 n∧IntKind.wrap .u8 n≤255:=by
 simp only [IntKind.wrap,IntKind.signed,IntKind.bits]
 simp
 omega
theorem Kla (x m:Int) (h0:0≤m) (h1:m<9223372036854775808):0≤IntKind.wrap .i64 ((BitVec.ofInt (IntKind.bits .i64) x &&& BitVec.ofInt (IntKind.bits .i64) m).toNat)∧IntKind.wrap .i64 ((BitVec.ofInt (IntKind.bits .i64) x &&& BitVec.ofInt (IntKind.bits .i64) m).toNat)≤m:=by
 have hm:(BitVec.ofInt (IntKind.bits .i64) m).toNat=m.toNat:=by
  rw [BitVec.toNat_ofInt]
  show (m % ((2 ^ 64:Nat):Int)).toNat=m.toNat
  rw [Int.emod_eq_of_lt h0 (by omega)]
 have hle:(BitVec.ofInt (IntKind.bits .i64) x &&& BitVec.ofInt (IntKind.bits .i64) m).toNat≤m.toNat:=by
  rw [BitVec.toNat_and,hm]
  exact Nat.and_le_right
 rw [w64 (by omega) (by omega)]
 omega
theorem Qfa {x n:Int} (hx:0≤x) (hn:0<n):0≤Int.tmod x n∧Int.tmod x n<n:=by
 rw [Int.tmod_eq_emod_of_nonneg hx]
 exact ⟨Int.emod_nonneg _ (by omega),Int.emod_lt_of_pos _ hn⟩

abbrev Cur:=List Int×Int×Int
def D0 (c:Cur):Prop:=(c.1.length:Int)≤1048576∧0≤c.2.1∧c.2.1≤1048576
theorem Mra (b:List Int) (hb:(b.length:Int)≤1048576):∀ (n:Nat) (h i:Int),0≤i→i+n=4001→Tot (λ k=>Ht k b h i) (λ r=>r.1=b):=by
 intro n
 induction n with
 |zero=>
  intro h i h0 hi
  refine Tot.succ ?_
  simp only [Ht]
  refine Tot.dite (λ h1=>?_) (λ h1=>Tot.pure rfl)
  exact Tot.ndec (by omega) (Tot.pure rfl)
 |succ n ih=>
  intro h i h0 hi
  refine Tot.succ ?_
  simp only [Ht]
  refine Tot.dite (λ h1=>?_) (λ h1=>Tot.pure rfl)
  refine Tot.dite (λ h2=>?_) (λ h2=>Tot.pure rfl)
  refine Tot.dec h0 (Tot.dec h1 ?_)
  rw [w64 (n:=i+1) (by omega) (by omega)]
  exact ih _ _ (by omega) (by omega)
theorem Qga (b:List Int) (hb:(b.length:Int)≤1048576):Tot (λ k=>K7 k b) D0:=by
 unfold K7
 refine Tot.bind (Mra b hb 4001 _ 0 (by omega) (by omega)) (λ r hr=>?_)
 exact Tot.pure ⟨by rw [hr]; exact hb,Int.le_refl 0,by show (0:Int)≤1048576; omega⟩
theorem Qi (c:Cur) (hc:D0 c):∃ x c',F5 c=some (x,c')∧0≤x∧x≤255∧D0 c':=by
 obtain ⟨h1,h2,h3⟩:=hc
 unfold F5
 by_cases hlt:c.2.1<(c.1.length:Int)
 ·simp only [hlt,h2,decide_true,cond_true]
  obtain ⟨a1,a2⟩:=Kla (IntKind.wrap .i64 ((IntKind.wrap .i64 ((BitVec.ofInt (IntKind.bits .i64) (IntKind.wrap .i64 ((BitVec.ofInt (IntKind.bits .i64) (Int.fdiv (IntKind.wrap .i64 ((IntKind.wrap .i64 (c.2.2 * 6364136223846793005))+1442695040888963407)) (2 ^ (min (Int.toNat 33) (IntKind.bits .i64)))) ^^^ BitVec.ofInt (IntKind.bits .i64) (Int.fdiv (IntKind.wrap .i64 ((IntKind.wrap .i64 (c.2.2 * 6364136223846793005))+1442695040888963407)) (2 ^ (min (Int.toNat 47) (IntKind.bits .i64))))).toNat)) &&& BitVec.ofInt (IntKind.bits .i64) 255).toNat))+(IntKind.wrap .i64 (List.getD c.1 (Int.toNat c.2.1) (0:Int))))) 255 (by omega) (by omega)
  refine ⟨_,_,rfl,a1,a2,h1,?_,?_⟩
  ·show 0≤IntKind.wrap .i64 (c.2.1+1)
   rw [w64 (by omega) (by omega)]
   omega
  ·show IntKind.wrap .i64 (c.2.1+1)≤1048576
   rw [w64 (by omega) (by omega)]
   omega
 ·simp only [hlt,decide_false,cond_false]
  obtain ⟨a1,a2⟩:=Kla (IntKind.wrap .i64 ((BitVec.ofInt (IntKind.bits .i64) (Int.fdiv (IntKind.wrap .i64 ((IntKind.wrap .i64 (c.2.2 * 6364136223846793005))+1442695040888963407)) (2 ^ (min (Int.toNat 33) (IntKind.bits .i64)))) ^^^ BitVec.ofInt (IntKind.bits .i64) (Int.fdiv (IntKind.wrap .i64 ((IntKind.wrap .i64 (c.2.2 * 6364136223846793005))+1442695040888963407)) (2 ^ (min (Int.toNat 47) (IntKind.bits .i64))))).toNat)) 255 (by omega) (by omega)
  exact ⟨_,_,rfl,a1,a2,h1,h2,h3⟩
theorem Ai (c:Cur) (hc:D0 c) (n:Int) (hn:n≤1000000000):∃ x c',A3 c n=some (x,c')∧0≤x∧(0<n→x<n)∧(n≤0→x=0)∧D0 c':=by
 unfold A3
 by_cases h0:n≤0
 ·exact ⟨0,c,by simp only [h0,decide_true,cond_true],by omega,by omega,λ _=>rfl,hc⟩
 ·by_cases h1:n≤256
  ·obtain ⟨x,c',e,b0,b1,k⟩:=Qi c hc
   have hz:¬ n=0:=by omega
   have:=Qfa b0 (show 0<n by omega)
   exact ⟨Int.tmod x n,c',by simp only [h0,h1,hz,decide_true,decide_false,cond_true,cond_false,e,Option.bind_some],this.1,λ _=>this.2,λ h=>by omega,k⟩
  ·obtain ⟨x,c1,e1,b0,b1,k1⟩:=Qi c hc
   obtain ⟨y,c2,e2,b2,b3,k2⟩:=Qi c1 k1
   obtain ⟨z,c3,e3,b4,b5,k3⟩:=Qi c2 k2
   have hz:¬ n=0:=by omega
   have:=Qfa (show 0≤x * 65536+y * 256+z by omega) (show 0<n by omega)
   refine ⟨Int.tmod (x * 65536+y * 256+z) n,c3,?_,this.1,λ _=>this.2,λ h=>by omega,k3⟩
   simp only [h0,h1,hz,decide_false,cond_false,e1,e2,e3,Option.bind_some]
   rw [w64 (n:=x * 65536) (by omega) (by omega),w64 (n:=y * 256) (by omega) (by omega),w64 (n:=x * 65536+y * 256) (by omega) (by omega),w64 (n:=x * 65536+y * 256+z) (by omega) (by omega)]
theorem Kma {α:Type} {l:List α} {i:Int} {d:α} (h0:0≤i) (h1:i<(l.length:Int)):l.getD i.toNat d∈l:=by
 have h:i.toNat<l.length:=by omega
 rw [List.getD_eq_getElem?_getD,List.getElem?_eq_getElem h]
 exact List.getElem_mem h
theorem L8 (c:Cur) (hc:D0 c) (l:List Int) (hl:0<l.length) (hm:l.length≤2000000):∃ x c',Aa c l=some (x,c')∧x∈l∧D0 c':=by
 obtain ⟨i,c',e,b0,b1,_,k⟩:=Ai c hc (l.length:Int) (by omega)
 have b1:=b1 (by omega)
 refine ⟨l.getD i.toNat 0,c',?_,Kma b0 b1,k⟩
 unfold Aa
 simp only [e,Option.bind_some,b0,b1,decide_true,cond_true]
theorem Kna (c:Cur) (hc:D0 c) (l:List ByteArray) (hl:0<l.length) (hm:l.length≤2000000):∃ x c',Jb c l=some (x,c')∧x∈l∧D0 c':=by
 obtain ⟨i,c',e,b0,b1,_,k⟩:=Ai c hc (l.length:Int) (by omega)
 have b1:=b1 (by omega)
 refine ⟨l.getD i.toNat (⟨#[]⟩:ByteArray),c',?_,Kma b0 b1,k⟩
 unfold Jb
 simp only [e,Option.bind_some,b0,b1,decide_true,cond_true]
def Aj (l:List Int):Prop:=∀ x∈l,0≤x∧x≤255
theorem F5a (m:Int) (hm:m≤1000):∀ (n:Nat) (l:List Int) (i:Int) (c:Cur),D0 c→0≤i→i≤max m 0→(max m 0) - i=n→(l.length:Int)=i→Aj l→
  Tot (λ k=>Fb k m l i c.1 c.2.1 c.2.2) (λ r=>D0 r.2∧Aj r.1∧(r.1.length:Int)=max m 0):=by
 intro n
 induction n with
 |zero=>
  intro l i c hc h0 h1 hn hl hb
  refine Tot.succ ?_
  simp only [Fb]
  refine Tot.ndec (by omega) (Tot.pure ⟨hc,hb,by show (l.length:Int)=_; omega⟩)
 |succ n ih=>
  intro l i c hc h0 h1 hn hl hb
  refine Tot.succ ?_
  simp only [Fb]
  refine Tot.dec (by omega) ?_
  obtain ⟨x,c',e,b0,b1,k⟩:=Qi c hc
  refine Tot.bind (Tot.of (Q:=λ r=>r=(x,c')) e rfl) ?_
  rintro r rfl
  refine Tot.ble (by simp only [List.length_cons,List.length_nil]; omega) ?_
  rw [w64 (n:=i+1) (by omega) (by omega)]
  refine ih _ _ c' k (by omega) (by omega) (by omega) (by simp only [List.length_append,List.length_cons,List.length_nil]; omega) ?_
  intro y hy
  rcases List.mem_append.1 hy with hy|hy
  ·exact hb y hy
  ·simp only [List.mem_singleton] at hy
   subst hy
   exact F4a _
theorem Bka (c:Cur) (hc:D0 c):Tot (λ k=>Dd k c) (λ r=>D0 r.2∧Aj r.1∧(r.1.length:Int)≤9):=by
 unfold Dd
 obtain ⟨x,c',e,hx,k⟩:=L8 c hc [0,1,2,5,9] (by decide) (by decide)
 have hx':0≤x∧x≤9:=by
  simp only [List.mem_cons,List.not_mem_nil,or_false] at hx
  omega
 refine Tot.bind (Tot.of (Q:=λ r=>r=(x,c')) e rfl) ?_
 rintro r rfl
 refine Tot.bind (Q:=λ r=>D0 r.2∧Aj r.1∧(r.1.length:Int)≤9) ?_ (λ r hr=>Tot.pure hr)
 unfold Fc
 refine Tot.bind (F5a x (by omega) (max x 0 - 0).toNat [] 0 c' k (by omega) (by omega) (by omega) rfl (by intro y hy; simp at hy)) (λ r hr=>Tot.pure ?_)
 exact ⟨hr.1,hr.2.1,by show (r.1.length:Int)≤9; rw [hr.2.2]; omega⟩
theorem P4 (c:Cur) (hc:D0 c) (n:Int) (hn:n≤1000000000):∃ x c',De c n=some (x,c')∧D0 c':=by
 obtain ⟨x,c',e,_,_,_,k⟩:=Ai c hc n hn
 exact ⟨x==0,c',by unfold De; simp only [e,Option.bind_some],k⟩
abbrev Stp:=Int×Int×Int
abbrev Row:=ByteArray×Stp×Bool×Int
abbrev Fil:=Stp×Bool×List Int
def I0a (s:Stp):Prop:=0≤s.1∧s.1≤1000000000∧0≤s.2.1∧s.2.1≤1000000∧0≤s.2.2∧s.2.2≤20
def Nm:List ByteArray:=[(⟨#[97]⟩:ByteArray),(⟨#[98]⟩:ByteArray),(⟨#[99,97,116,47,49]⟩:ByteArray),(⟨#[99,97,116,47,50]⟩:ByteArray),(⟨#[100,111,103]⟩:ByteArray),(⟨#[120,45,49]⟩:ByteArray)]
theorem Ns (c:Cur) (hc:D0 c):∃ x c',Bi c=some (x,c')∧x∈Nm∧D0 c':=by
 obtain ⟨x,c',e,hx,k⟩:=Kna c hc Nm (by decide) (by decide)
 exact ⟨x,c',by unfold Bi; unfold Nm at e; simp only [e,Option.bind_some],hx,k⟩
theorem F6a (c:Cur) (hc:D0 c):∃ x c',I1 c=some (x,c')∧I0a x∧D0 c':=by
 obtain ⟨x,c1,e1,hx,k1⟩:=L8 c hc [0,1,2,3,1000000000] (by decide) (by decide)
 obtain ⟨y,c2,e2,y0,y1,_,k2⟩:=Ai c1 k1 3 (by decide)
 obtain ⟨z,c3,e3,z0,z1,_,k3⟩:=Ai c2 k2 3 (by decide)
 have y1:=y1 (by decide)
 have z1:=z1 (by decide)
 simp only [List.mem_cons,List.not_mem_nil,or_false] at hx
 exact ⟨(x,y,z),c3,by unfold I1; simp only [e1,e2,e3,Option.bind_some],⟨by show 0≤x; omega,by show x≤_; omega,y0,by show y≤_; omega,z0,by show z≤_; omega⟩,k3⟩
def Woa (f:Fil):Prop:=I0a f.1∧Aj f.2.2∧(f.2.2.length:Int)≤9∧(f.2.1=true→f.2.2=[])
theorem P5 (c:Cur) (hc:D0 c):Tot (λ k=>C2 k c) (λ r=>Woa r.1∧D0 r.2):=by
 unfold C2
 obtain ⟨s,c1,e1,hs,k1⟩:=F6a c hc
 obtain ⟨b,c2,e2,k2⟩:=P4 c1 k1 4 (by decide)
 refine Tot.bind (Tot.of (Q:=λ r=>r=(s,c1)) e1 rfl) ?_
 rintro r rfl
 refine Tot.bind (Tot.of (Q:=λ r=>r=(b,c2)) e2 rfl) ?_
 rintro r rfl
 refine Tot.ite (λ hb=>?_) (λ hb=>Tot.pure ⟨⟨hs,by intro y hy; simp at hy,by show ((([]:List Int).length:Nat):Int)≤9; decide,λ _=>rfl⟩,k2⟩)
 refine Tot.bind (Bka c2 k2) (λ r hr=>Tot.pure ⟨⟨hs,hr.2.1,hr.2.2,λ h=>?_⟩,hr.1⟩)
 simp only [Bool.not_eq_true'] at hb
 have h':b=true:=h
 rw [hb] at h'
 cases h'
def Yqa (x:Row):Prop:=x.1∈Nm∧I0a x.2.1∧0≤x.2.2.2∧x.2.2.2≤9∧(x.2.2.1=true→x.2.2.2=0)
theorem Bla (c:Cur) (hc:D0 c):Tot (λ k=>I3 k c) (λ r=>Yqa r.1∧D0 r.2):=by
 unfold I3
 obtain ⟨s,c1,e1,hs,k1⟩:=Ns c hc
 refine Tot.bind (Tot.of (Q:=λ r=>r=(s,c1)) e1 rfl) ?_
 rintro r rfl
 refine Tot.bind (P5 c1 k1) (λ r hr=>?_)
 obtain ⟨⟨h1,h2,h3,h4⟩,k2⟩:=hr
 unfold Ey
 refine Tot.bind (Tot.pure (Q:=λ y=>y=(s,r.1.1,r.1.2.1,(r.1.2.2.length:Int))) rfl) ?_
 rintro y rfl
 refine Tot.pure ⟨⟨hs,h1,by show (0:Int)≤(r.1.2.2.length:Int); omega,h3,λ h=>?_⟩,k2⟩
 show (r.1.2.2.length:Int)=0
 rw [h4 h]
 rfl

theorem F7a:∀ (a:List UInt8),Op.bytesLess a a=false
 |[]=>rfl
 |a::l=>by simp [Op.bytesLess,F7a l]
theorem Koa:∀ (a b c:List UInt8),Op.bytesLess a b=true→Op.bytesLess b c=true→Op.bytesLess a c=true
 |_,[],_,h,_=>by simp [Op.bytesLess] at h
 |_,_::_,[],_,h=>by simp [Op.bytesLess] at h
 |[],_::_,_::_,_,_=>rfl
 |a::x,b::y,c::z,h1,h2=>by
  simp only [Op.bytesLess,Bool.or_eq_true,Bool.and_eq_true,decide_eq_true_eq,beq_iff_eq] at h1 h2 ⊢
  rcases h1 with h1|⟨rfl,h1⟩
  ·rcases h2 with h2|⟨rfl,h2⟩
   ·exact .inl (UInt8.lt_trans h1 h2)
   ·exact .inl h1
  ·rcases h2 with h2|⟨rfl,h2⟩
   ·exact .inl h2
   ·exact .inr ⟨rfl,Koa x y z h1 h2⟩
theorem Wpa:∀ (a b:List UInt8),Op.bytesLess a b=false→Op.bytesLess b a=false→a=b
 |[],[],_,_=>rfl
 |[],_::_,h,_=>by simp [Op.bytesLess] at h
 |_::_,[],_,h=>by simp [Op.bytesLess] at h
 |a::x,b::y,h1,h2=>by
  simp only [Op.bytesLess,Bool.or_eq_false_iff,Bool.and_eq_false_iff,decide_eq_false_iff_not] at h1 h2
  have hab:a=b:=by
   have h3:=UInt8.not_lt.1 h1.1
   have h4:=UInt8.not_lt.1 h2.1
   exact UInt8.le_antisymm h4 h3
  subst hab
  rw [Wpa x y (h1.2.resolve_left (by simp)) (h2.2.resolve_left (by simp))]
def tlt (a b:ByteArray):Bool:=Op.bytesLess a.toList b.toList
def teq (a b:ByteArray):Bool:=a.toList==b.toList
theorem Bma {a b:ByteArray} (h:a.toList=b.toList):a=b:=by
 rw [ByteArray.toList_eq,ByteArray.toList_eq] at h
 obtain ⟨⟨x⟩⟩:=a
 obtain ⟨⟨y⟩⟩:=b
 simp only at h
 rw [h]
theorem Jl {a b:ByteArray}:teq a b=true↔a=b:=by
 unfold teq
 rw [beq_iff_eq]
 exact ⟨Bma,λ h=>by rw [h]⟩
theorem Kw (a:ByteArray):tlt a a=false:=F7a _
theorem Mi {a b c:ByteArray} (h:tlt a b=true) (h':tlt b c=true):tlt a c=true:=Koa _ _ _ h h'
theorem Xw {a b:ByteArray} (h:tlt a b=false) (h':tlt b a=false):a=b:=Bma (Wpa _ _ h h')
theorem Xx {a b:ByteArray} (h:tlt a b=true):tlt b a=false:=by
 cases hb:tlt b a with
 |false=>rfl
 |true=>
  have:=Mi h hb
  rw [Kw] at this
  cases this
theorem Kpa (a b:ByteArray):(!(Op.bytesLess a.toList b.toList || a.toList==b.toList))=tlt b a:=by
 show (!(tlt a b || teq a b))=tlt b a
 cases h1:tlt a b with
 |true=>rw [Xx h1]; rfl
 |false=>
  cases h2:teq a b with
  |true=>rw [Jl.1 h2,Kw]; rfl
  |false=>
   cases h3:tlt b a with
   |true=>rfl
   |false=>
    exfalso
    have:=Xw h1 h3
    rw [Jl.2 this] at h2
    cases h2
def sle (a b:Stp):Bool:=cond (a.1 != b.1) (decide (a.1<b.1)) (cond (a.2.1 != b.2.1) (decide (a.2.1<b.2.1)) (decide (a.2.2<b.2.2)))
theorem W2 (a b:Stp):Aw a b=some (sle a b):=by
 unfold Aw sle
 cases a.1 != b.1<;>cases a.2.1 != b.2.1<;>rfl
theorem D6a (a b:Stp):Bl a b=some (sle a b):=by
 unfold Bl sle
 cases a.1 != b.1<;>cases a.2.1 != b.2.1<;>rfl
theorem Qj {a b:Stp}:sle a b=true↔a.1<b.1∨(a.1=b.1∧(a.2.1<b.2.1∨(a.2.1=b.2.1∧a.2.2<b.2.2))):=by
 unfold sle
 by_cases h1:a.1=b.1
 ·by_cases h2:a.2.1=b.2.1
  ·simp [h1,h2]
  ·have:(a.2.1 != b.2.1)=true:=by simpa using h2
   simp [h1,this,h2]
 ·have:(a.1 != b.1)=true:=by simpa using h1
  simp [this,h1]
def Ana (a b:Row):Bool:=cond (!((a.2.1.1==b.2.1.1)&&((a.2.1.2.1==b.2.1.2.1)&&(a.2.1.2.2==b.2.1.2.2)))) (sle a.2.1 b.2.1) (cond (!(a.2.2.1==b.2.2.1)) b.2.2.1 (decide (a.2.2.2<b.2.2.2)))
theorem I1a (a b:Row):J3 a b=some (Ana a b):=by
 unfold J3 Ana
 rw [W2]
 cases (!((a.2.1.1==b.2.1.1)&&((a.2.1.2.1==b.2.1.2.1)&&(a.2.1.2.2==b.2.1.2.2))))<;>cases (!(a.2.2.1==b.2.2.1))<;>rfl
def Ml:Row:=((⟨#[]⟩:ByteArray),(((0:Int),((0:Int),(0:Int))),(false,(0:Int))))
def Xy (s:ByteArray):List Row→Nat→Option Nat
 |[],_=>none
 |r::l,i=>bif teq r.1 s then some i else Xy s l (i+1)
def D7a (l:List Row) (s:ByteArray):Nat→Nat
 |0=>0
 |k+1=>bif tlt s (l.getD k Ml).1 then D7a l s k else k+1
def mrg (l:List Row) (x:Row):List Row:=match Xy x.1 l 0 with
 |some i=>bif Ana (l.getD i Ml) x then l.set i x else l
 |none=>l.take (D7a l x.1 l.length)++x::l.drop (D7a l x.1 l.length)
theorem D8a (l:List Row) (s:ByteArray):∀ k,D7a l s k≤k
 |0=>Nat.le_refl _
 |k+1=>by
  unfold D7a
  cases tlt s (l.getD k Ml).1 with
  |true=>have:=D8a l s k; simp only [cond_true]; omega
  |false=>simp only [cond_false]; omega
theorem Bna {s:ByteArray}:∀ (l:List Row) (i j:Nat),Xy s l i=some j→i≤j∧j<i+l.length∧teq (l.getD (j - i) Ml).1 s=true
 |[],i,j,h=>by simp [Xy] at h
 |r::l,i,j,h=>by
  unfold Xy at h
  cases ht:teq r.1 s with
  |true=>
   rw [ht] at h
   simp only [cond_true,Option.some.injEq] at h
   subst h
   refine ⟨Nat.le_refl _,by simp,?_⟩
   rw [Nat.sub_self]
   exact ht
  |false=>
   rw [ht] at h
   simp only [cond_false] at h
   obtain ⟨h1,h2,h3⟩:=Bna l (i+1) j h
   refine ⟨by omega,by simp only [List.length_cons]; omega,?_⟩
   rw [show j - i=(j - (i+1))+1 by omega]
   exact h3
theorem Aq {α:Type} {l:List α} {i:Nat} {d:α} (h:i<l.length):l.drop i=l.getD i d::l.drop (i+1):=by
 rw [List.drop_eq_getElem_cons h,List.getD_eq_getElem?_getD,List.getElem?_eq_getElem h]
 rfl
def Few (l:List Row):Prop:=l.length≤1000000000000
theorem F8a (x:Row):∀ (n:Nat) (l:List Row) (i:Nat),l.length - i=n→i≤l.length→Few l→
  Tot (λ k=>Dx k l (i:Int) x.1 x.2.1.1 x.2.1.2.1 x.2.1.2.2 x.2.2.1 x.2.2.2) (λ r=>r=match Xy x.1 (l.drop i) i with
   |some j => .inl (bif Ana (l.getD j Ml) x then l.set j x else l)
   |none => .inr (l,x.1,x.2.1.1,x.2.1.2.1,x.2.1.2.2,x.2.2.1,x.2.2.2)):=by
 intro n
 induction n with
 |zero=>
  intro l i hn hi hf
  unfold Few at hf
  refine Tot.succ ?_
  simp only [Dx]
  refine Tot.ndec (by omega) (Tot.pure ?_)
  rw [List.drop_of_length_le (by omega)]
  rfl
 |succ n ih=>
  intro l i hn hi hf
  have hf':=hf
  unfold Few at hf
  have hlt:i<l.length:=by omega
  refine Tot.succ ?_
  simp only [Dx]
  refine Tot.dec (by omega) (Tot.dec (by omega) (Tot.dec (by omega) ?_))
  have e0:Int.toNat (i:Int)=i:=Int.toNat_natCast i
  rw [e0,Aq (d:=Ml) hlt]
  refine Tot.ite (λ ht=>?_) (λ ht=>?_)
  ·have ht':teq (l.getD i Ml).1 x.1=true:=ht
   refine Tot.dec (by omega) (Tot.dec (by omega) ?_)
   refine Tot.bind (Tot.of (Q:=λ r=>r=Ana (l.getD i Ml) x) (I1a _ _) rfl) ?_
   rintro b rfl
   simp only [Xy,ht',cond_true]
   cases hb:Ana (l.getD i Ml) x with
   |true=>exact Tot.yes rfl (Tot.dec (by omega) (Tot.dec (by omega) (Tot.pure rfl)))
   |false=>exact Tot.no rfl (Tot.pure rfl)
  ·have ht':teq (l.getD i Ml).1 x.1=false:=ht
   simp only [Xy,ht',cond_false]
   rw [w64 (n:=(i:Int)+1) (by omega) (by omega)]
   exact ih l (i+1) (by omega) (by omega) hf'
theorem D9a (x:Row) (l:List Row) (hf:Few l):∀ (i:Nat) (y:Row),i≤l.length→
  Tot (λ k=>Db k (l.take i++y::l.drop i) (i:Int) x.1 x.2.1.1 x.2.1.2.1 x.2.1.2.2 x.2.2.1 x.2.2.2)
   (λ r=>∃ y',r=(l.take (D7a l x.1 i)++y'::l.drop (D7a l x.1 i),(D7a l x.1 i:Int),x.1,x.2.1.1,x.2.1.2.1,x.2.1.2.2,x.2.2.1,x.2.2.2)):=by
 unfold Few at hf
 intro i
 induction i with
 |zero=>
  intro y hi
  refine Tot.succ ?_
  simp only [Db]
  exact Tot.ndec (by omega) (Tot.pure ⟨y,rfl⟩)
 |succ i ih=>
  intro y hi
  refine Tot.succ ?_
  simp only [Db]
  have hlen:(l.take (i+1)++y::l.drop (i+1)).length=l.length+1:=by simp only [List.length_append,List.length_take,List.length_cons,List.length_drop]; omega
  have hget:∀ z,(l.take (i+1)++y::l.drop (i+1)).getD i z=l.getD i z:=by
   intro z
   rw [List.getD_eq_getElem?_getD,List.getD_eq_getElem?_getD,List.getElem?_append_left (by rw [List.length_take]; omega),List.getElem?_take_of_lt (by omega)]
  rw [w64 (n:=((i+1:Nat):Int) - 1) (by omega) (by omega),show ((i+1:Nat):Int) - 1=(i:Int) by omega,show Int.toNat (i:Int)=i from Int.toNat_natCast i,show Int.toNat ((i+1:Nat):Int)=i+1 from Int.toNat_natCast _,hget,hlen]
  refine Tot.dec (by omega) (Tot.dec (by omega) (Tot.dec (by omega) ?_))
  have e:∀ z,(!(Op.bytesLess (l.getD i z).1.toList x.1.toList || (l.getD i z).1.toList==x.1.toList))=tlt x.1 (l.getD i z).1:=λ z=>Kpa _ _
  rw [e]
  have hc:D7a l x.1 (i+1)=bif tlt x.1 (l.getD i Ml).1 then D7a l x.1 i else i+1:=rfl
  refine Tot.ite (λ ht=>?_) (λ ht=>?_)
  ·have ht':tlt x.1 (l.getD i Ml).1=true:=ht
   rw [hc,ht',cond_true]
   refine Tot.dec (by omega) (Tot.dec (by omega) (Tot.dec (by omega) (Tot.dec (by omega) ?_)))
   have hset:(l.take (i+1)++y::l.drop (i+1)).set (i+1) (l.getD i ((⟨#[]⟩:ByteArray),(((0:Int),((0:Int),(0:Int))),(false,(0:Int)))))=l.take i++l.getD i Ml::l.drop i:=by
    rw [List.set_append,if_neg (by rw [List.length_take]; omega),List.length_take,Nat.min_eq_left hi,Nat.sub_self,List.set_cons_zero,Aq (d:=Ml) (show i<l.length by omega)]
    rw [List.take_add_one,List.getElem?_eq_getElem (show i<l.length by omega)]
    simp only [Option.toList_some,List.append_assoc,List.singleton_append]
    rw [List.getD_eq_getElem?_getD,List.getD_eq_getElem?_getD,List.getElem?_eq_getElem (show i<l.length by omega)]
    rfl
   rw [hset]
   exact ih _ (by omega)
  ·have ht':tlt x.1 (l.getD i Ml).1=false:=ht
   rw [hc,ht',cond_false]
   exact Tot.pure ⟨y,rfl⟩
theorem F9a (l:List Row) (x:Row) (hf:Few l):Tot (λ k=>Be k l x) (λ r=>r=mrg l x):=by
 have hf':=hf
 unfold Few at hf
 unfold Be
 refine Tot.ble (by simp only [List.length_nil]; omega) ?_
 rw [List.nil_append]
 refine Tot.bind (F8a x _ l 0 rfl (Nat.zero_le _) hf') ?_
 rintro y rfl
 rw [List.drop_zero]
 unfold mrg
 cases hfi:Xy x.1 l 0 with
 |some j=>exact Tot.pure rfl
 |none=>
  simp only [Sum.elim_inr]
  refine Tot.ble (by simp only [List.length_cons,List.length_nil]; omega) ?_
  have h0:=D9a x l hf' l.length x (Nat.le_refl _)
  rw [List.take_length,List.drop_length] at h0
  refine Tot.bind h0 ?_
  rintro z ⟨y',rfl⟩
  have hc:=D8a l x.1 l.length
  have hlen:(l.take (D7a l x.1 l.length)++y'::l.drop (D7a l x.1 l.length)).length=l.length+1:=by simp only [List.length_append,List.length_take,List.length_cons,List.length_drop]; omega
  simp only
  rw [show Int.toNat ((D7a l x.1 l.length:Nat):Int)=D7a l x.1 l.length from Int.toNat_natCast _,hlen]
  refine Tot.dec (by omega) (Tot.dec (by omega) (Tot.pure ?_))
  rw [List.set_append,if_neg (by rw [List.length_take]; omega),List.length_take,Nat.min_eq_left hc,Nat.sub_self,List.set_cons_zero]

theorem Daa (a b:ByteArray):(a==b)=teq a b:=beq_toListBytes a b
theorem Boa {s:ByteArray}:∀ (l:List Row) (i:Nat),Xy s l i=none→∀ r∈l,r.1≠s
 |[],_,_,r,hr=>by simp at hr
 |a::l,i,h,r,hr=>by
  unfold Xy at h
  cases ht:teq a.1 s with
  |true=>rw [ht] at h; simp at h
  |false=>
   rw [ht] at h
   rcases List.mem_cons.1 hr with rfl|hr
   ·intro e
    rw [Jl.2 e] at ht
    cases ht
   ·exact Boa l (i+1) h r hr
theorem Qha (l:List Row) (x:Row):l.length≤(mrg l x).length∧(mrg l x).length≤l.length+1:=by
 unfold mrg
 have hc:=D8a l x.1 l.length
 split
 ·cases Ana (l.getD _ Ml) x<;>simp
 ·simp only [List.length_append,List.length_take,List.length_cons,List.length_drop]
  omega
theorem Qia {l:List Row} {x r:Row} (h:r∈mrg l x):r=x∨r∈l:=by
 unfold mrg at h
 split at h
 ·rename_i j hj
  cases hb:Ana (l.getD j Ml) x with
  |false=>rw [hb] at h; exact .inr h
  |true=>
   rw [hb,cond_true] at h
   rcases List.mem_or_eq_of_mem_set h with h|h
   ·exact .inr h
   ·exact .inl h
 ·rcases List.mem_append.1 h with h|h
  ·exact .inr (List.mem_of_mem_take h)
  ·rcases List.mem_cons.1 h with h|h
   ·exact .inl h
   ·exact .inr (List.mem_of_mem_drop h)
theorem Rd (a:Stp):sle a a=false:=by
 cases h:sle a a with
 |false=>rfl
 |true=>rw [Qj] at h; omega
def Jn (l:List Row):Prop:=l.Pairwise (λ a b=>tlt a.1 b.1=true)
theorem Faa {l:List Row} {s:ByteArray} (hs:Jn l) (hn:∀ r∈l,r.1≠s):∀ k,k≤l.length→(∀ i,i<D7a l s k→tlt (l.getD i Ml).1 s=true)∧(∀ i,D7a l s k≤i→i<k→tlt s (l.getD i Ml).1=true)
 |0,_=>⟨λ i hi=>by simp [D7a] at hi,λ i _ hi=>by omega⟩
 |k+1,hk=>by
  unfold D7a
  cases ht:tlt s (l.getD k Ml).1 with
  |true=>
   simp only [cond_true]
   obtain ⟨h1,h2⟩:=Faa hs hn k (by omega)
   refine ⟨h1,λ i hi hik=>?_⟩
   by_cases e:i=k
   ·subst e; exact ht
   ·exact h2 i hi (by omega)
  |false=>
   simp only [cond_false]
   refine ⟨λ i hi=>?_,λ i hi hik=>by omega⟩
   have hget:∀ j (hj:j<l.length),l.getD j Ml=l[j]:=λ j hj=>by rw [List.getD_eq_getElem?_getD,List.getElem?_eq_getElem hj]; rfl
   have hkl:k<l.length:=by omega
   have hks:tlt (l.getD k Ml).1 s=true:=by
    cases h:tlt (l.getD k Ml).1 s with
    |true=>rfl
    |false=>
     exfalso
     exact hn (l.getD k Ml) (by rw [hget k hkl]; exact List.getElem_mem hkl) (Xw h ht)
   by_cases e:i=k
   ·subst e; exact hks
   ·have h3:=(List.pairwise_iff_getElem.1 hs) i k (by omega) hkl (by omega)
    rw [hget i (by omega)]
    rw [hget k hkl] at hks
    exact Mi h3 hks
theorem Bpa {l:List Row} {x:Row} (hs:Jn l):Jn (mrg l x):=by
 have hget:∀ j (hj:j<l.length),l.getD j Ml=l[j]:=λ j hj=>by rw [List.getD_eq_getElem?_getD,List.getElem?_eq_getElem hj]; rfl
 unfold mrg
 split
 ·rename_i j hj
  obtain ⟨_,h2,h3⟩:=Bna l 0 j hj
  rw [Nat.sub_zero] at h3
  have hjl:j<l.length:=by omega
  have hname:l[j].1=x.1:=by rw [← hget j hjl]; exact Jl.1 h3
  cases hb:Ana (l.getD j Ml) x with
  |false=>exact hs
  |true=>
   rw [cond_true]
   unfold Jn
   rw [List.pairwise_iff_getElem]
   intro a b ha hb hab
   rw [List.length_set] at ha hb
   have:=(List.pairwise_iff_getElem.1 hs) a b ha hb hab
   rw [List.getElem_set,List.getElem_set]
   by_cases e1:j=a
   ·subst e1
    rw [if_pos rfl,if_neg (by omega),← hname]
    exact this
   ·rw [if_neg e1]
    by_cases e2:j=b
    ·subst e2
     rw [if_pos rfl,← hname]
     exact this
    ·rw [if_neg e2]
     exact this
 ·rename_i hj
  have hn:=Boa l 0 hj
  obtain ⟨c1,c2⟩:=Faa hs hn l.length (Nat.le_refl _)
  have hc:=D8a l x.1 l.length
  unfold Jn
  rw [List.pairwise_append,List.pairwise_cons]
  refine ⟨List.Pairwise.sublist (List.take_sublist _ _) hs,⟨λ r hr=>?_,List.Pairwise.sublist (List.drop_sublist _ _) hs⟩,λ r hr q hq=>?_⟩
  ·obtain ⟨i,hi,rfl⟩:=List.getElem_of_mem hr
   rw [List.length_drop] at hi
   rw [List.getElem_drop,← hget _ (by omega)]
   exact c2 _ (by omega) (by omega)
  ·obtain ⟨i,hi,rfl⟩:=List.getElem_of_mem hr
   rw [List.length_take] at hi
   have h1:tlt (List.take (D7a l x.1 l.length) l)[i].1 x.1=true:=by
    rw [List.getElem_take,← hget _ (by omega)]
    exact c1 i (by omega)
   rcases List.mem_cons.1 hq with rfl|hq
   ·exact h1
   ·refine Mi h1 ?_
    obtain ⟨m,hm,rfl⟩:=List.getElem_of_mem hq
    rw [List.length_drop] at hm
    rw [List.getElem_drop,← hget _ (by omega)]
    exact c2 _ (by omega) (by omega)
def Kqa (l:List Row):Prop:=Jn l∧(∀ r∈l,Yqa r)
theorem Fba:∀ (n:Nat) (l:List Row) (i:Int) (c:Cur),D0 c→0≤i→i=n→Kqa l→l.length+n≤5→
  Tot (λ k=>Fh k l i c.1 c.2.1 c.2.2) (λ r=>D0 r.2∧Kqa r.1∧r.1.length≤5):=by
 intro n
 induction n with
 |zero=>
  intro l i c hc h0 hi hr hl
  refine Tot.succ ?_
  simp only [Fh]
  exact Tot.ndec (by omega) (Tot.pure ⟨hc,hr,by show l.length≤5; omega⟩)
 |succ n ih=>
  intro l i c hc h0 hi hr hl
  refine Tot.succ ?_
  simp only [Fh]
  refine Tot.dec (by omega) ?_
  refine Tot.bind (Bla c hc) (λ r h=>?_)
  refine Tot.bind (F9a l r.1 (by unfold Few; omega)) ?_
  rintro m rfl
  rw [w64 (n:=i - 1) (by omega) (by omega)]
  refine ih _ _ r.2 h.2 (by omega) (by omega) ⟨Bpa hr.1,λ y hy=>?_⟩ (by have:=(Qha l r.1).2; omega)
  rcases Qia hy with rfl|hy
  ·exact h.1
  ·exact hr.2 y hy
theorem Xz (c:Cur) (hc:D0 c):Tot (λ k=>Ck k c) (λ r=>D0 r.2∧Kqa r.1∧r.1.length≤5):=by
 unfold Ck
 obtain ⟨x,c',e,x0,x1,_,k⟩:=Ai c hc 6 (by decide)
 have x1:=x1 (by decide)
 refine Tot.bind (Tot.of (Q:=λ r=>r=(x,c')) e rfl) ?_
 rintro r rfl
 refine Tot.bind (Fba x.toNat [] x c' k x0 (by omega) ⟨List.Pairwise.nil,by simp⟩ (by simp only [List.length_nil]; omega)) (λ r hr=>Tot.pure hr)

def inR (n lo hi:Int):Bool:=decide (n≥lo)&&decide (n≤hi)
theorem Y0 (n lo hi:Int):H0 n lo hi=some (inR n lo hi):=by
 unfold H0 inR
 cases decide (n≥lo)<;>rfl
theorem Ng (n lo hi:Int):A8 n lo hi=some (inR n lo hi):=by
 unfold A8 inR
 cases decide (n≥lo)<;>rfl
theorem Ew {n lo hi:Int}:inR n lo hi=true↔lo≤n∧n≤hi:=by
 unfold inR
 simp
def T8 (c:Int):Bool:=inR c 97 122 || (inR c 48 57 || (!(c != 45) || (!(c != 95) || !(c != 47))))
def Kj (s:ByteArray):Prop:=s.size≤4611686018427387904
theorem Pm (s:ByteArray):s.data.toList.length=s.size:=Array.length_toList
theorem Fca (s:ByteArray) (i:Int):0≤bt s i∧bt s i≤255:=by
 unfold bt
 have:=(s.data.toList.getD i.toNat 0).toNat_lt
 omega
theorem Bab (s:ByteArray) (i:Nat) (h:i<s.size):bt s (i:Int)=((s.data.toList[i]'(by rw [Pm]; exact h)).toNat:Int):=by
 unfold bt
 rw [Int.toNat_natCast,List.getD_eq_getElem?_getD,List.getElem?_eq_getElem (by rw [Pm]; exact h)]
 rfl
def bOk (b:UInt8):Bool:=T8 (b.toNat:Int)
theorem I2a (s:ByteArray) (hs:Kj s):∀ (n i:Nat),s.size - i=n→i≤s.size→
  Tot (λ k=>Ah k s (i:Int)) (λ r=>r=bif (s.data.toList.drop i).all bOk then .inr s else .inl false):=by
 unfold Kj at hs
 have hsz:=Pm s
 intro n
 induction n with
 |zero=>
  intro i hn hi
  refine Tot.succ ?_
  simp only [Ah]
  refine Tot.ndec (by omega) (Tot.pure ?_)
  rw [List.drop_of_length_le (by omega)]
  rfl
 |succ n ih=>
  intro i hn hi
  have hlt:i<s.size:=by omega
  refine Tot.succ ?_
  simp only [Ah]
  refine Tot.dec (by omega) (Tot.dec (by omega) (Tot.dec (by omega) ?_))
  rw [w64 (n:=(i:Int)+1) (by omega) (by omega)]
  have hb:bOk (s.data.toList[i]'(by omega))=T8 (bt s (i:Int)):=by rw [Bab s i hlt]; rfl
  rw [List.drop_eq_getElem_cons (by omega),List.all_cons,hb]
  generalize bt s (i:Int)=c
  have h1:=ih (i+1) (by omega) (by omega)
  have e:(((i+1:Nat)):Int)=(i:Int)+1:=by omega
  rw [e] at h1
  cases hc:T8 c with
  |true=>
   rw [Bool.true_and]
   refine h1.mono (λ r hr=>hr) |> λ h=>?_
   obtain ⟨r,K,h2,h3⟩:=h
   refine ⟨r,K,λ k hk=>?_,h3⟩
   rw [← h2 k hk]
   unfold T8 inR at hc
   revert hc
   cases decide (c≥97)<;>cases decide (c≤122)<;>cases decide (c≥48)<;>cases decide (c≤57)<;>cases (c != 45)<;>cases (c != 95)<;>cases (c != 47)<;>first|(intro _; rfl)|(intro hc; cases hc)
  |false=>
   rw [Bool.false_and]
   refine ⟨.inl false,0,λ k _=>?_,rfl⟩
   unfold T8 inR at hc
   revert hc
   cases decide (c≥97)<;>cases decide (c≤122)<;>cases decide (c≥48)<;>cases decide (c≤57)<;>cases (c != 45)<;>cases (c != 95)<;>cases (c != 47)<;>first|(intro _; rfl)|(intro hc; cases hc)
theorem I3a (s:ByteArray) (hs:Kj s):∀ (n i:Nat),s.size - i=n→i≤s.size→
  Tot (λ k=>Cp k s (i:Int)) (λ r=>r=bif (s.data.toList.drop i).all bOk then .inr s else .inl false):=by
 unfold Kj at hs
 have hsz:=Pm s
 intro n
 induction n with
 |zero=>
  intro i hn hi
  refine Tot.succ ?_
  simp only [Cp]
  refine Tot.ndec (by omega) (Tot.pure ?_)
  rw [List.drop_of_length_le (by omega)]
  rfl
 |succ n ih=>
  intro i hn hi
  have hlt:i<s.size:=by omega
  have hbb:=Fca s (i:Int)
  refine Tot.succ ?_
  simp only [Cp]
  refine Tot.dec (by omega) (Tot.dec (by omega) (Tot.dec (by omega) ?_))
  rw [w64 (n:=(i:Int)+1) (by omega) (by omega),w64 (n:=bt s (i:Int)) (by omega) (by omega)]
  have hb:bOk (s.data.toList[i]'(by omega))=T8 (bt s (i:Int)):=by rw [Bab s i hlt]; rfl
  rw [List.drop_eq_getElem_cons (by omega),List.all_cons,hb]
  generalize bt s (i:Int)=c
  have h1:=ih (i+1) (by omega) (by omega)
  have e:(((i+1:Nat)):Int)=(i:Int)+1:=by omega
  rw [e] at h1
  simp only [Ng,Option.bind_some]
  cases hc:T8 c with
  |true=>
   rw [Bool.true_and]
   obtain ⟨r,K,h2,h3⟩:=h1
   refine ⟨r,K,λ k hk=>?_,h3⟩
   rw [← h2 k hk]
   unfold T8 at hc
   revert hc
   cases inR c 97 122<;>cases inR c 48 57<;>cases (c != 45)<;>cases (c != 95)<;>cases (c != 47)<;>first|(intro _; rfl)|(intro hc; cases hc)
  |false=>
   rw [Bool.false_and]
   refine ⟨.inl false,0,λ k _=>?_,rfl⟩
   unfold T8 at hc
   revert hc
   cases inR c 97 122<;>cases inR c 48 57<;>cases (c != 45)<;>cases (c != 95)<;>cases (c != 47)<;>first|(intro _; rfl)|(intro hc; cases hc)
def Br (s:ByteArray):Bool:=s.data.toList.all bOk&&inR (s.size:Int) 1 20
theorem W3 (s:ByteArray) (hs:Kj s):Tot (λ k=>Bp k s) (λ r=>r=Br s):=by
 unfold Bp Br
 refine Tot.bind (I2a s hs _ 0 rfl (Nat.zero_le _)) ?_
 rintro r rfl
 rw [List.drop_zero]
 cases s.data.toList.all bOk with
 |true=>exact Tot.of (a:=inR (s.size:Int) 1 20) (by simp only [cond_true,Sum.elim_inr,Y0,Option.bind_some]) (by rw [Bool.true_and])
 |false=>exact Tot.pure rfl
theorem Ob (s:ByteArray) (hs:Kj s):Tot (λ k=>Af k s) (λ r=>r=Br s):=by
 unfold Af Br
 refine Tot.bind (I3a s hs _ 0 rfl (Nat.zero_le _)) ?_
 rintro r rfl
 rw [List.drop_zero]
 cases s.data.toList.all bOk with
 |true=>exact Tot.of (a:=inR (s.size:Int) 1 20) (by simp only [cond_true,Sum.elim_inr,Ng,Option.bind_some]) (by rw [Bool.true_and])
 |false=>exact Tot.pure rfl
def G3 (s:Stp):Bool:=inR s.1 0 1000000000&&(inR s.2.1 0 1000000&&inR s.2.2 0 20)
theorem Y1 (s:Stp):Dm s=some (G3 s):=by
 unfold Dm G3
 simp only [Y0,Option.bind_some]
 cases inR s.1 0 1000000000<;>cases inR s.2.1 0 1000000<;>rfl
theorem Qk (s:Stp):Bt s=some (G3 s):=by
 unfold Bt G3
 simp only [Ng,Option.bind_some]
 cases inR s.1 0 1000000000<;>cases inR s.2.1 0 1000000<;>rfl
def Mj (x:Row):Bool:=Br x.1&&(G3 x.2.1&&(inR x.2.2.2 0 200&&(!x.2.2.1 || x.2.2.2==0)))
theorem Qja (x:Row) (hs:Kj x.1):Tot (λ k=>Jd k x) (λ r=>r=Mj x):=by
 unfold Jd Mj
 refine Tot.bind (W3 x.1 hs) ?_
 rintro r rfl
 cases Br x.1 with
 |false=>exact Tot.pure rfl
 |true=>
  refine Tot.of (a:=G3 x.2.1&&(inR x.2.2.2 0 200&&(!x.2.2.1 || x.2.2.2==0))) ?_ (by rw [Bool.true_and])
  simp only [cond_true,Y1,Y0,Option.bind_some]
  cases G3 x.2.1<;>cases inR x.2.2.2 0 200<;>cases x.2.2.1<;>rfl
theorem Qka (x:Row) (hs:Kj x.1):Tot (λ k=>I0 k x) (λ r=>r=Mj x):=by
 unfold I0 Mj
 refine Tot.bind (Ob x.1 hs) ?_
 rintro r rfl
 cases Br x.1 with
 |false=>exact Tot.pure rfl
 |true=>
  refine Tot.of (a:=G3 x.2.1&&(inR x.2.2.2 0 200&&(!x.2.2.1 || x.2.2.2==0))) ?_ (by rw [Bool.true_and])
  simp only [cond_true,Qk,Ng,Option.bind_some]
  cases G3 x.2.1<;>cases inR x.2.2.2 0 200<;>cases x.2.2.1<;>rfl
def chk:Option ByteArray→List Row→Bool
 |_,[]=>true
 |none,r::l=>Mj r&&chk (some r.1) l
 |some q,r::l=>Mj r&&(tlt q r.1&&chk (some r.1) l)
def Kk (l:List Row):Bool:=chk none l&&decide ((l.length:Int)≤60)
def Pn (l:List Row):Prop:=∀ r∈l,Kj r.1
def Uy (l:List Row):Nat→Option ByteArray
 |0=>none
 |i+1=>some (l.getD i Ml).1
theorem Kra (l:List Row) (i:Nat) (h:i<l.length):chk (Uy l i) (l.drop i)=(Mj (l.getD i Ml)&&(bif decide (0<i) then tlt (l.getD (i - 1) Ml).1 (l.getD i Ml).1 else true)&&chk (Uy l (i+1)) (l.drop (i+1))):=by
 rw [Aq (d:=Ml) h]
 cases i with
 |zero=>simp [Uy,chk]
 |succ i=>simp [Uy,chk,Bool.and_assoc]
theorem A4 {α:Type} {l:List α} {i:Nat} {d:α} (h1:i<l.length):l.getD i d∈l:=by
 rw [List.getD_eq_getElem?_getD,List.getElem?_eq_getElem h1]
 exact List.getElem_mem h1
theorem I4a (l:List Row) (hf:Few l) (hs:Pn l):∀ (n i:Nat),l.length - i=n→i≤l.length→
  Tot (λ k=>Fx k l l (l.length:Int) (i:Int)) (λ r=>r=bif chk (Uy l i) (l.drop i) then .inr l else .inl false):=by
 unfold Few at hf
 intro n
 induction n with
 |zero=>
  intro i hn hi
  refine Tot.succ ?_
  simp only [Fx]
  refine Tot.ndec (by omega) (Tot.pure ?_)
  rw [List.drop_of_length_le (by omega)]
  cases Uy l i<;>rfl
 |succ n ih=>
  intro i hn hi
  have hlt:i<l.length:=by omega
  refine Tot.succ ?_
  simp only [Fx]
  refine Tot.dec (by omega) (Tot.dec (by omega) (Tot.dec (by omega) ?_))
  rw [show Int.toNat (i:Int)=i from Int.toNat_natCast i,w64 (n:=(i:Int)+1) (by omega) (by omega),Kra l i hlt]
  have h1:=ih (i+1) (by omega) (by omega)
  have e:(((i+1:Nat)):Int)=(i:Int)+1:=by omega
  rw [e] at h1
  refine Tot.bind (Qja (l.getD i Ml) (hs _ (A4 hlt))) ?_
  rintro b rfl
  cases hb:Mj (l.getD i Ml) with
  |false=>exact Tot.yes rfl (Tot.pure (by simp))
  |true=>
   refine Tot.no rfl ?_
   rw [Bool.true_and]
   refine Tot.dite (λ h0=>?_) (λ h0=>?_)
   ·rw [w64 (n:=(i:Int) - 1) (by omega) (by omega)]
    refine Tot.dec (by omega) (Tot.dec (by omega) ?_)
    rw [show Int.toNat ((i:Int) - 1)=i - 1 by omega,decide_eq_true (show 0<i by omega),cond_true]
    have et:(!(Op.bytesLess (l.getD (i - 1) Ml).1.toList (l.getD i Ml).1.toList)) = !(tlt (l.getD (i - 1) Ml).1 (l.getD i Ml).1):=rfl
    refine Tot.ite (λ ht=>?_) (λ ht=>?_)
    ·have ht':(!(tlt (l.getD (i - 1) Ml).1 (l.getD i Ml).1))=true:=ht
     rw [Bool.not_eq_true'] at ht'
     exact Tot.pure (by rw [ht']; rfl)
    ·have ht':(!(tlt (l.getD (i - 1) Ml).1 (l.getD i Ml).1))=false:=ht
     rw [Bool.not_eq_false'] at ht'
     rw [ht',Bool.true_and]
     exact h1
   ·rw [decide_eq_false (show ¬ 0<i by omega),cond_false,Bool.true_and]
    exact h1
theorem I5a (l:List Row) (hf:Few l) (hs:Pn l):∀ (n i:Nat),l.length - i=n→i≤l.length→
  Tot (λ k=>Fu k l (i:Int)) (λ r=>r=bif chk (Uy l i) (l.drop i) then .inr l else .inl false):=by
 unfold Few at hf
 intro n
 induction n with
 |zero=>
  intro i hn hi
  refine Tot.succ ?_
  simp only [Fu]
  refine Tot.ndec (by omega) (Tot.pure ?_)
  rw [List.drop_of_length_le (by omega)]
  cases Uy l i<;>rfl
 |succ n ih=>
  intro i hn hi
  have hlt:i<l.length:=by omega
  refine Tot.succ ?_
  simp only [Fu]
  refine Tot.dec (by omega) (Tot.dec (by omega) (Tot.dec (by omega) ?_))
  rw [show Int.toNat (i:Int)=i from Int.toNat_natCast i,w64 (n:=(i:Int)+1) (by omega) (by omega),Kra l i hlt]
  have h1:=ih (i+1) (by omega) (by omega)
  have e:(((i+1:Nat)):Int)=(i:Int)+1:=by omega
  rw [e] at h1
  refine Tot.bind (Qka (l.getD i Ml) (hs _ (A4 hlt))) ?_
  rintro b rfl
  cases hb:Mj (l.getD i Ml) with
  |false=>exact Tot.yes rfl (Tot.pure (by simp))
  |true=>
   refine Tot.no rfl ?_
   rw [Bool.true_and]
   refine Tot.dite (λ h0=>?_) (λ h0=>?_)
   ·rw [w64 (n:=(i:Int) - 1) (by omega) (by omega)]
    refine Tot.dec (by omega) (Tot.dec (by omega) (Tot.dec (by omega) (Tot.dec (by omega) ?_)))
    rw [show Int.toNat ((i:Int) - 1)=i - 1 by omega,decide_eq_true (show 0<i by omega),cond_true]
    refine Tot.ite (λ ht=>?_) (λ ht=>?_)
    ·have ht':(!(tlt (l.getD (i - 1) Ml).1 (l.getD i Ml).1))=true:=ht
     rw [Bool.not_eq_true'] at ht'
     exact Tot.pure (by rw [ht']; rfl)
    ·have ht':(!(tlt (l.getD (i - 1) Ml).1 (l.getD i Ml).1))=false:=ht
     rw [Bool.not_eq_false'] at ht'
     rw [ht',Bool.true_and]
     exact h1
   ·rw [decide_eq_false (show ¬ 0<i by omega),cond_false,Bool.true_and]
    exact h1
theorem Uia (l:List Row) (hf:Few l) (hs:Pn l):Tot (λ k=>Gb k l) (λ r=>r=Kk l):=by
 unfold Gb Kk
 refine Tot.bind (I4a l hf hs _ 0 rfl (Nat.zero_le _)) ?_
 rintro r rfl
 rw [List.drop_zero]
 show Tot _ (λ r=>r=(chk none l&&_))
 cases hc:chk none l with
 |true=>rw [show chk (Uy l 0) l=true from hc]; exact Tot.pure (by rw [Bool.true_and])
 |false=>rw [show chk (Uy l 0) l=false from hc]; exact Tot.pure rfl
theorem Ksa (l:List Row) (hf:Few l) (hs:Pn l):Tot (λ k=>Ds k l) (λ r=>r=Kk l):=by
 unfold Ds Kk
 refine Tot.bind (I5a l hf hs _ 0 rfl (Nat.zero_le _)) ?_
 rintro r rfl
 rw [List.drop_zero]
 cases hc:chk none l with
 |true=>rw [show chk (Uy l 0) l=true from hc]; exact Tot.pure (by rw [Bool.true_and])
 |false=>rw [show chk (Uy l 0) l=false from hc]; exact Tot.pure rfl
theorem I6a:∀ (p:Option ByteArray) (l:List Row),chk p l=true↔Jn l∧(∀ r∈l,Mj r=true)∧(∀ q,p=some q→∀ r∈l,tlt q r.1=true)
 |p,[]=>by
  have:chk p []=true:=by cases p<;>rfl
  simp [this,Jn]
 |none,r::l=>by
  simp only [chk,Bool.and_eq_true,I6a (some r.1) l,Jn,List.pairwise_cons]
  constructor
  ·rintro ⟨h1,h2,h3,h4⟩
   exact ⟨⟨λ a ha=>h4 _ rfl a ha,h2⟩,λ a ha=>by rcases List.mem_cons.1 ha with rfl|ha; exact h1; exact h3 a ha,λ q hq=>by cases hq⟩
  ·rintro ⟨⟨h1,h2⟩,h3,_⟩
   exact ⟨h3 r (by simp),h2,λ a ha=>h3 a (List.mem_cons_of_mem _ ha),λ q hq a ha=>by cases hq; exact h1 a ha⟩
 |some q,r::l=>by
  simp only [chk,Bool.and_eq_true,I6a (some r.1) l,Jn,List.pairwise_cons]
  constructor
  ·rintro ⟨h1,h0,h2,h3,h4⟩
   refine ⟨⟨λ a ha=>h4 _ rfl a ha,h2⟩,λ a ha=>by rcases List.mem_cons.1 ha with rfl|ha; exact h1; exact h3 a ha,λ q' hq a ha=>?_⟩
   cases hq
   rcases List.mem_cons.1 ha with rfl|ha
   ·exact h0
   ·exact Mi h0 (h4 _ rfl a ha)
  ·rintro ⟨⟨h1,h2⟩,h3,h4⟩
   exact ⟨h3 r (by simp),h4 q rfl r (by simp),h2,λ a ha=>h3 a (List.mem_cons_of_mem _ ha),λ q' hq a ha=>by cases hq; exact h1 a ha⟩
theorem Mr {l:List Row}:Kk l=true↔Jn l∧(∀ r∈l,Mj r=true)∧l.length≤60:=by
 unfold Kk
 simp only [Bool.and_eq_true,I6a,decide_eq_true_eq]
 constructor
 ·rintro ⟨⟨h1,h2,_⟩,h3⟩
  exact ⟨h1,h2,by omega⟩
 ·rintro ⟨h1,h2,h3⟩
  exact ⟨⟨h1,h2,λ q hq=>by cases hq⟩,by omega⟩
def Y2 (a b:List Row):List Row:=b.foldl mrg a
theorem Kta {a b:List Row} {r:Row} (h:r∈Y2 a b):r∈a∨r∈b:=by
 induction b generalizing a with
 |nil=>exact .inl h
 |cons x b ih=>
  rcases ih (a:=mrg a x) h with h|h
  ·rcases Qia h with rfl|h
   ·exact .inr (by simp)
   ·exact .inl h
  ·exact .inr (List.mem_cons_of_mem _ h)
theorem I7a {a b:List Row} (h:Jn a):Jn (Y2 a b):=by
 induction b generalizing a with
 |nil=>exact h
 |cons x b ih=>exact ih (Bpa h)
def mx (a b:Row):Row:=bif Ana a b then b else a

def Aha:Nat→Nat→List Int
 |0,n=>[(n:Int)]
 |f+1,n=>if n≤127 then [(n:Int)] else ((n % 128+128:Nat):Int)::Aha f (n / 128)
def Oh (n:Nat):List Int:=Aha 4 n
def T9:Nat→Nat→Nat→List Int→Option (Nat×Nat)
 |0,_,_,_=>none
 |_+1,_,_,[]=>none
 |f+1,k,acc,x::l=>if 128≤x then T9 f (k+1) (acc+x.toNat % 128 * 128 ^ k) l
  else if (x=0∧0<k)∨1000000000<acc+x.toNat % 128 * 128 ^ k then none else some (acc+x.toNat % 128 * 128 ^ k,k+1)
def Om (l:List Int) (p:Nat):Option (Nat×Nat):=match T9 5 0 0 (l.drop p) with
 |some (n,c)=>some (n,p+c)
 |none=>none
theorem Qla:∀ (f n:Nat),(Aha f n).length≤f+1∧0<(Aha f n).length
 |0,n=>by simp [Aha]
 |f+1,n=>by
  unfold Aha
  split
  ·simp
  ·have:=Qla f (n / 128)
   simp only [List.length_cons]
   omega
theorem S5:∀ (f k acc:Nat) (l:List Int) (n c:Nat),Aj l→T9 f k acc l=some (n,c)→acc<128 ^ k→k<c∧c≤k+f∧c - k≤l.length∧n≤1000000000
 |0,_,_,_,_,_,_,h,_=>by simp [T9] at h
 |_+1,_,_,[],_,_,_,h,_=>by simp [T9] at h
 |f+1,k,acc,x::l,n,c,hb,h,ha=>by
  have hx:=hb x (by simp)
  unfold T9 at h
  split at h
  ·have h1:acc+x.toNat % 128 * 128 ^ k<128 ^ (k+1):=by
    have h2:x.toNat % 128≤127:=by omega
    have h3:=Nat.mul_le_mul_right (128 ^ k) h2
    rw [Nat.pow_succ]
    omega
   have:=S5 f (k+1) _ l n c (λ y hy=>hb y (List.mem_cons_of_mem _ hy)) h h1
   simp only [List.length_cons]
   omega
  ·split at h
   ·cases h
   ·simp only [Option.some.injEq,Prod.mk.injEq] at h
    obtain ⟨rfl,rfl⟩:=h
    simp only [List.length_cons]
    omega
theorem Qma:∀ (f k acc:Nat) (l:List Int) (n c:Nat),Aj l→T9 (f+1) k acc l=some (n,c)→acc<128 ^ k→∃ m,n=acc+m * 128 ^ k∧l=Aha f m++l.drop (c - k)∧(m=0→c=k+1∧(0<k→False))∧m<128 ^ (f+1)
 |0,k,acc,[],n,c,hb,h,ha=>by simp [T9] at h
 |_+1,k,acc,[],n,c,hb,h,ha=>by simp [T9] at h
 |0,k,acc,x::l,n,c,hb,h,ha=>by
  have hx:=hb x (by simp)
  unfold T9 at h
  split at h
  ·simp [T9] at h
  ·rename_i h128
   split at h
   ·cases h
   ·rename_i hz
    simp only [Option.some.injEq,Prod.mk.injEq] at h
    obtain ⟨rfl,rfl⟩:=h
    have hm:x.toNat % 128=x.toNat:=Nat.mod_eq_of_lt (by omega)
    refine ⟨x.toNat,by rw [hm],?_,λ h0=>⟨rfl,λ hk=>hz (.inl ⟨by omega,hk⟩)⟩,by omega⟩
    rw [show k+1 - k=1 by omega]
    show x::l=[((x.toNat:Nat):Int)]++l
    rw [show ((x.toNat:Nat):Int)=x by omega]
    rfl
 |f+1,k,acc,x::l,n,c,hb,h,ha=>by
  have hx:=hb x (by simp)
  have hb':Aj l:=λ y hy=>hb y (List.mem_cons_of_mem _ hy)
  unfold T9 at h
  split at h
  ·rename_i h128
   have h1:acc+x.toNat % 128 * 128 ^ k<128 ^ (k+1):=by
    have h2:x.toNat % 128≤127:=by omega
    have h3:=Nat.mul_le_mul_right (128 ^ k) h2
    rw [Nat.pow_succ]
    omega
   obtain ⟨m,e1,e2,e3,e4⟩:=Qma f (k+1) _ l n c hb' h h1
   have hbd:=S5 (f+1) (k+1) _ l n c hb' h h1
   have hm0:m≠0:=λ h0=>(e3 h0).2 (by omega)
   refine ⟨x.toNat % 128+m * 128,?_,?_,λ h0=>by omega,?_⟩
   ·rw [e1,Nat.pow_succ,Nat.add_mul]
    have:m * 128 * 128 ^ k=m * (128 ^ k * 128):=by rw [Nat.mul_assoc,Nat.mul_comm 128]
    omega
   ·unfold Aha
    rw [if_neg (by omega),show (x.toNat % 128+m * 128) / 128=m by omega,show (x.toNat % 128+m * 128) % 128=x.toNat % 128 by omega,show c - k=(c - (k+1))+1 by omega,List.drop_succ_cons,List.cons_append,← e2]
    congr 1
    omega
   ·rw [Nat.pow_succ]
    omega
  ·rename_i h128
   split at h
   ·cases h
   ·rename_i hz
    simp only [Option.some.injEq,Prod.mk.injEq] at h
    obtain ⟨rfl,rfl⟩:=h
    have hm:x.toNat % 128=x.toNat:=Nat.mod_eq_of_lt (by omega)
    have hp:128≤128 ^ (f+1+1):=by
     have:=Nat.pow_le_pow_right (show 0<128 by decide) (show 1≤f+1+1 by omega)
     simpa using this
    refine ⟨x.toNat,by rw [hm],?_,λ h0=>⟨rfl,λ hk=>hz (.inl ⟨by omega,hk⟩)⟩,by omega⟩
    rw [show k+1 - k=1 by omega]
    unfold Aha
    rw [if_pos (by omega)]
    show x::l=[((x.toNat:Nat):Int)]++l
    rw [show ((x.toNat:Nat):Int)=x by omega]
    rfl
theorem Qna:∀ (f k acc m:Nat) (rest:List Int),m<128 ^ (f+1)→(0<k→0<m)→acc+m * 128 ^ k≤1000000000→T9 (f+1) k acc (Aha f m++rest)=some (acc+m * 128 ^ k,k+(Aha f m).length)
 |0,k,acc,m,rest,hm,hk,hn=>by
  show T9 1 k acc ((m:Int)::rest)=_
  unfold T9
  have h1:m<128:=by simpa using hm
  rw [if_neg (by omega),if_neg (by
   rw [show (m:Int).toNat % 128=m by rw [Int.toNat_natCast]; exact Nat.mod_eq_of_lt h1]
   omega)]
  rw [show (m:Int).toNat % 128=m by rw [Int.toNat_natCast]; exact Nat.mod_eq_of_lt h1]
  rfl
 |f+1,k,acc,m,rest,hm,hk,hn=>by
  unfold Aha
  by_cases h:m≤127
  ·rw [if_pos h]
   show T9 (f+2) k acc ((m:Int)::rest)=_
   unfold T9
   rw [if_neg (by omega),if_neg (by
    rw [show (m:Int).toNat % 128=m by rw [Int.toNat_natCast]; exact Nat.mod_eq_of_lt (by omega)]
    omega)]
   rw [show (m:Int).toNat % 128=m by rw [Int.toNat_natCast]; exact Nat.mod_eq_of_lt (by omega)]
   rfl
  ·rw [if_neg h]
   show T9 (f+2) k acc (((m % 128+128:Nat):Int)::(Aha f (m / 128)++rest))=_
   unfold T9
   have e1:(((m % 128+128:Nat):Int)).toNat % 128=m % 128:=by rw [Int.toNat_natCast]; omega
   rw [if_pos (by omega),e1]
   have hmod:m=m % 128+m / 128 * 128:=by omega
   have hm2:m / 128<128 ^ (f+1):=by rw [Nat.pow_succ] at hm; omega
   have e2:acc+m % 128 * 128 ^ k+m / 128 * 128 ^ (k+1)=acc+m * 128 ^ k:=by
    have h2:m * 128 ^ k=(m % 128+m / 128 * 128) * 128 ^ k:=by rw [← hmod]
    rw [h2,Nat.add_mul,Nat.pow_succ]
    have:m / 128 * 128 * 128 ^ k=m / 128 * (128 ^ k * 128):=by rw [Nat.mul_assoc,Nat.mul_comm 128]
    omega
   rw [Qna f (k+1) (acc+m % 128 * 128 ^ k) (m / 128) rest hm2 (λ _=>by omega) (by rw [e2]; exact hn),e2,List.length_cons]
   simp only [Option.some.injEq,Prod.mk.injEq,true_and]
   omega
theorem Kua (pre:List Int) (n:Nat) (rest:List Int) (hn:n≤1000000000):Om (pre++(Oh n++rest)) pre.length=some (n,pre.length+(Oh n).length):=by
 unfold Om
 rw [List.drop_left]
 have:=Qna 4 0 0 n rest (by omega) (by omega) (by omega)
 unfold Oh
 rw [this]
 simp
theorem S6 {l:List Int} {p n q:Nat} (hb:Aj l) (h:Om l p=some (n,q)):l.drop p=Oh n++l.drop q∧n≤1000000000∧p<q∧q≤l.length:=by
 unfold Om at h
 split at h
 ·rename_i m c hd
  simp only [Option.some.injEq,Prod.mk.injEq] at h
  obtain ⟨rfl,rfl⟩:=h
  have hb':Aj (l.drop p):=λ y hy=>hb y (List.mem_of_mem_drop hy)
  have hbd:=S5 5 0 0 _ _ _ hb' hd (by decide)
  obtain ⟨m',e1,e2,_,_⟩:=Qma 4 0 0 _ _ _ hb' hd (by decide)
  have e3:m=m':=by rw [e1]; simp
  subst e3
  rw [List.length_drop] at hbd
  refine ⟨?_,hbd.2.2.2,by omega,by omega⟩
  rw [Nat.sub_zero,List.drop_drop] at e2
  exact e2
 ·cases h
theorem Dnb (i:Nat) (hi:i<5):(2:Int) ^ (min (Int.toNat (IntKind.wrap .i64 (7 * (i:Int)))) (IntKind.bits .i64))=((128 ^ i:Nat):Int):=by
 have:i=0∨i=1∨i=2∨i=3∨i=4:=by omega
 rcases this with rfl|rfl|rfl|rfl|rfl<;>decide
theorem Crb (i:Nat) (hi:i<5):(2:Int) ^ (min (Int.toNat (IntKind.wrap .u64 (IntKind.wrap .i64 (7 * (i:Int))))) (IntKind.bits .i64))=((128 ^ i:Nat):Int):=by
 have:i=0∨i=1∨i=2∨i=3∨i=4:=by omega
 rcases this with rfl|rfl|rfl|rfl|rfl<;>decide
theorem sh7 (i:Nat) (hi:i<5):¬ (IntKind.wrap .i64 (7 * (i:Int))<0)∧¬ (IntKind.wrap .u64 (IntKind.wrap .i64 (7 * (i:Int)))<0):=by
 have:i=0∨i=1∨i=2∨i=3∨i=4:=by omega
 rcases this with rfl|rfl|rfl|rfl|rfl<;>decide
theorem P6 (i:Nat) (hi:i≤5):128 ^ i≤34359738368:=by
 have:=Nat.pow_le_pow_right (show 0<128 by decide) hi
 simpa using this
theorem Ql (n:Nat) (h:n<18446744073709551616):(BitVec.ofInt (IntKind.bits .i64) (n:Int)).toNat=n:=by
 rw [BitVec.toNat_ofInt]
 show ((n:Int) % ((2 ^ 64:Nat):Int)).toNat=n
 rw [Int.emod_eq_of_lt (by omega) (by omega)]
 exact Int.toNat_natCast n
theorem Wqa (n:Nat) (h:n<9223372036854775808):IntKind.wrap .i64 ((BitVec.ofInt (IntKind.bits .i64) (n:Int) &&& BitVec.ofInt (IntKind.bits .i64) 127).toNat)=((n % 128:Nat):Int):=by
 rw [BitVec.toNat_and,Ql n (by omega),show (BitVec.ofInt (IntKind.bits .i64) 127).toNat=127 from by decide,show (127:Nat)=2 ^ 7 - 1 from rfl,Nat.and_two_pow_sub_one_eq_mod]
 exact w64 (by omega) (by omega)
theorem Kva (a m i:Nat) (ha:a<128 ^ i) (hm:m<128) (hi:i<5):IntKind.wrap .i64 ((BitVec.ofInt (IntKind.bits .i64) (a:Int) ||| BitVec.ofInt (IntKind.bits .i64) ((m * 128 ^ i:Nat):Int)).toNat)=((a+m * 128 ^ i:Nat):Int):=by
 have hp:=P6 i (by omega)
 have hmul:m * 128 ^ i≤127 * 34359738368:=Nat.mul_le_mul (by omega) hp
 rw [BitVec.toNat_or,Ql a (by omega),Ql _ (by omega),Nat.or_comm]
 have e:(128:Nat) ^ i=2 ^ (7 * i):=by rw [Nat.pow_mul]
 have h2:=Nat.two_pow_add_eq_or_of_lt (i:=7 * i) (b:=a) (by rw [← e]; exact ha) m
 rw [← e,Nat.mul_comm] at h2
 rw [← h2,Nat.add_comm]
 exact w64 (by omega) (by omega)
def I8a (l:List Int) (p:Int):Int×Int×Bool:=if p<0 then (0,0,false) else match Om l p.toNat with
 |some (n,q)=>((n:Int),(q:Int),true)
 |none=>(0,0,false)
def Ccb (p:Nat):Option (Nat×Nat)→Int×Int×Bool
 |some (n,c)=>((n:Int),((p+c:Nat):Int),true)
 |none=>(0,0,false)
def Y3 (r:Sum (Int×Int×Bool) Unit):Int×Int×Bool:=Sum.elim (λ y=>y) (λ _=>(0,0,false)) r
theorem Fda {l:List Int} {p:Nat} (h:p<l.length):l.drop p=l.getD p 0::l.drop (p+1):=Aq h
theorem Msa (l:List Int) (hb:Aj l) (hl:l.length≤1000000000000) (p:Nat) (hp:p≤1000000000000):∀ (f i acc:Nat),f+i=5→acc<128 ^ i→
  Tot (λ k=>Fy k l (p:Int) (acc:Int) (i:Int)) (λ r=>Y3 r=Ccb p (T9 f i acc (l.drop (p+i)))):=by
 intro f
 induction f with
 |zero=>
  intro i acc hi ha
  refine Tot.succ ?_
  simp only [Fy]
  exact Tot.ndec (by omega) (Tot.pure rfl)
 |succ f ih=>
  intro i acc hi ha
  have hi5:i<5:=by omega
  refine Tot.succ ?_
  simp only [Fy]
  refine Tot.dec (by omega) (Tot.dec (by omega) ?_)
  rw [w64 (n:=(l.length:Int) - (i:Int)) (by omega) (by omega),w64 (n:=(p:Int)+(i:Int)) (by omega) (by omega),show Int.toNat ((p:Int)+(i:Int))=p+i by omega]
  refine Tot.dite (λ h=>?_) (λ h=>?_)
  ·have hlt:p+i<l.length:=by omega
   refine Tot.dec (by omega) (Tot.dec (by omega) ?_)
   have hx:=hb (l.getD (p+i) 0) (A4 hlt)
   rw [Fda hlt,Dnb i hi5]
   have he:T9 (f+1) i acc (l.getD (p+i) 0::l.drop (p+i+1))=if 128≤l.getD (p+i) 0 then T9 f (i+1) (acc+(l.getD (p+i) 0).toNat % 128 * 128 ^ i) (l.drop (p+i+1)) else if (l.getD (p+i) 0=0∧0<i)∨1000000000<acc+(l.getD (p+i) 0).toNat % 128 * 128 ^ i then none else some (acc+(l.getD (p+i) 0).toNat % 128 * 128 ^ i,i+1):=rfl
   rw [he]
   generalize l.getD (p+i) 0=x at hx ⊢
   obtain ⟨v,rfl⟩:∃ v:Nat,x=(v:Int):=⟨x.toNat,by omega⟩
   rw [Int.toNat_natCast]
   have hp1:=P6 i (by omega)
   have hmul:v % 128 * 128 ^ i≤127 * 34359738368:=Nat.mul_le_mul (by omega) hp1
   rw [w64 (n:=(v:Int)) (by omega) (by omega)]
   have e1:Int.tmod (v:Int) 128 * ((128 ^ i:Nat):Int)=((v % 128 * 128 ^ i:Nat):Int):=by
    rw [Int.tmod_eq_emod_of_nonneg (by omega)]
    push_cast
    rfl
   rw [e1,w64 (n:=((v % 128 * 128 ^ i:Nat):Int)) (by omega) (by omega),← Int.natCast_add,w64 (n:=((acc+v % 128 * 128 ^ i:Nat):Int)) (by omega) (by omega),w64 (n:=(i:Int)+1) (by omega) (by omega),w64 (n:=(p:Int)+(i:Int)+1) (by omega) (by omega)]
   refine Tot.ndec (sh7 i hi5).1 ?_
   refine Tot.dite (λ h128=>?_) (λ h128=>?_)
   ·rw [if_pos (by omega)]
    have h1:acc+v % 128 * 128 ^ i<128 ^ (i+1):=by
     have h2:v % 128≤127:=by omega
     have h3:=Nat.mul_le_mul_right (128 ^ i) h2
     rw [Nat.pow_succ]
     omega
    have:=ih (i+1) (acc+v % 128 * 128 ^ i) (by omega) h1
    rw [show p+(i+1)=p+i+1 by omega] at this
    exact this
   ·rw [if_neg (by omega)]
    have big:Tot (λ _:Nat=>cond (decide (((acc+v % 128 * 128 ^ i:Nat):Int) > 1000000000)) (some (Sum.inl ((0:Int),(0:Int),false))) (some (Sum.inl (((acc+v % 128 * 128 ^ i:Nat):Int),(p:Int)+(i:Int)+1,true))):Nat→Option (Sum (Int×Int×Bool) Unit))
      (λ r=>Y3 r=if 1000000000<acc+v % 128 * 128 ^ i then (0,0,false) else (((acc+v % 128 * 128 ^ i:Nat):Int),((p+(i+1):Nat):Int),true)):=by
     refine Tot.dite (λ hbig=>?_) (λ hbig=>?_)
     ·rw [if_pos (by omega)]; exact Tot.pure rfl
     ·rw [if_neg (by omega)]
      refine Tot.pure ?_
      show (_,_,_)=_
      rw [show (p:Int)+(i:Int)+1=((p+(i+1):Nat):Int) by omega]
    have goal:∀ c:Prop,[Decidable c]→(if c∨1000000000<acc+v % 128 * 128 ^ i then none else some (acc+v % 128 * 128 ^ i,i+1))=if c then none else if 1000000000<acc+v % 128 * 128 ^ i then (none:Option (Nat×Nat)) else some (acc+v % 128 * 128 ^ i,i+1):=by
     intro c _
     by_cases h1:c<;>by_cases h2:1000000000<acc+v % 128 * 128 ^ i<;>simp [h1,h2]
    rw [goal]
    have fin:(Ccb p (if 1000000000<acc+v % 128 * 128 ^ i then (none:Option (Nat×Nat)) else some (acc+v % 128 * 128 ^ i,i+1)))=if 1000000000<acc+v % 128 * 128 ^ i then (0,0,false) else (((acc+v % 128 * 128 ^ i:Nat):Int),((p+(i+1):Nat):Int),true):=by
     split<;>rfl
    refine Tot.ite (λ h0=>?_) (λ h0=>?_)
    ·have hv:v=0:=by
      have:=beq_iff_eq.1 h0
      omega
     refine Tot.dite (λ hi0=>?_) (λ hi0=>?_)
     ·rw [if_pos ⟨by omega,by omega⟩]; exact Tot.pure rfl
     ·rw [if_neg (by omega),fin]; exact big
    ·have hv:v≠0:=by
      intro e
      subst e
      simp at h0
     rw [if_neg (by omega),fin]; exact big
  ·refine Tot.pure ?_
   rw [List.drop_of_length_le (by omega)]
   rfl
theorem Qoa (l:List Int) (hb:Aj l) (hl:l.length≤1000000000000) (p:Int) (hp:p≤1000000000000):Tot (λ k=>Hk k l p) (λ r=>r=I8a l p):=by
 unfold Hk I8a
 by_cases h0:p<0
 ·rw [if_pos h0]
  refine Tot.bind (Q:=λ r=>r = .inr ()) ?_ ?_
  ·refine Tot.succ ?_
   simp only [Fy]
   exact Tot.dec (by omega) (Tot.ndec (by omega) (Tot.pure rfl))
  ·rintro r rfl
   exact Tot.pure rfl
 ·rw [if_neg h0]
  obtain ⟨n,rfl⟩:∃ n:Nat,p=(n:Int):=⟨p.toNat,by omega⟩
  rw [Int.toNat_natCast]
  refine Tot.bind (Msa l hb hl n (by omega) 5 0 0 rfl (by decide)) ?_
  intro r hr
  unfold Om
  rw [Nat.add_zero] at hr
  have hr':Y3 r=(match (match T9 5 0 0 (l.drop n) with|some (m,c)=>some (m,n+c)|none=>none) with|some (m,q)=>((m:Int),(q:Int),true)|none=>((0:Int),(0:Int),false)):=by
   rw [hr]
   cases T9 5 0 0 (l.drop n) with
   |none=>rfl
   |some mc=>rfl
  rw [← hr']
  cases r with
  |inl y=>exact Tot.pure rfl
  |inr z=>exact Tot.pure rfl

theorem Mta (l:List Int) (hb:Aj l) (hl:l.length≤1000000000000) (p:Nat) (hp:p<l.length):∀ (f i acc:Nat),f+i=5→acc<128 ^ i→
  Tot (λ k=>Ec k l (p:Int) (acc:Int) (i:Int)) (λ r=>Y3 r=Ccb p (T9 f i acc (l.drop (p+i)))):=by
 intro f
 induction f with
 |zero=>
  intro i acc hi ha
  refine Tot.succ ?_
  simp only [Ec]
  exact Tot.ndec (by omega) (Tot.pure rfl)
 |succ f ih=>
  intro i acc hi ha
  have hi5:i<5:=by omega
  refine Tot.succ ?_
  simp only [Ec]
  refine Tot.dec (by omega) (Tot.dec (by omega) (Tot.dec (by omega) ?_))
  rw [w64 (n:=(p:Int)+(i:Int)) (by omega) (by omega),show Int.toNat ((p:Int)+(i:Int))=p+i by omega]
  refine Tot.dite (λ h=>?_) (λ h=>?_)
  ·have hlt:p+i<l.length:=by omega
   refine Tot.dec (by omega) (Tot.dec (by omega) ?_)
   have hx:=hb (l.getD (p+i) 0) (A4 hlt)
   rw [Fda hlt,Crb i hi5]
   have he:T9 (f+1) i acc (l.getD (p+i) 0::l.drop (p+i+1))=if 128≤l.getD (p+i) 0 then T9 f (i+1) (acc+(l.getD (p+i) 0).toNat % 128 * 128 ^ i) (l.drop (p+i+1)) else if (l.getD (p+i) 0=0∧0<i)∨1000000000<acc+(l.getD (p+i) 0).toNat % 128 * 128 ^ i then none else some (acc+(l.getD (p+i) 0).toNat % 128 * 128 ^ i,i+1):=rfl
   rw [he]
   generalize l.getD (p+i) 0=x at hx ⊢
   obtain ⟨v,rfl⟩:∃ v:Nat,x=(v:Int):=⟨x.toNat,by omega⟩
   rw [Int.toNat_natCast]
   have hp1:=P6 i (by omega)
   have hmul:v % 128 * 128 ^ i≤127 * 34359738368:=Nat.mul_le_mul (by omega) hp1
   rw [w64 (n:=(v:Int)) (by omega) (by omega),Wqa v (by omega)]
   have e1:((v % 128:Nat):Int) * ((128 ^ i:Nat):Int)=((v % 128 * 128 ^ i:Nat):Int):=by push_cast; rfl
   rw [e1,w64 (n:=((v % 128 * 128 ^ i:Nat):Int)) (by omega) (by omega),Kva acc (v % 128) i ha (by omega) hi5,w64 (n:=(i:Int)+1) (by omega) (by omega),w64 (n:=(p:Int)+(i:Int)+1) (by omega) (by omega)]
   refine Tot.ndec (sh7 i hi5).2 ?_
   refine Tot.dite (λ h128=>?_) (λ h128=>?_)
   ·rw [if_pos (by omega)]
    have h1:acc+v % 128 * 128 ^ i<128 ^ (i+1):=by
     have h2:v % 128≤127:=by omega
     have h3:=Nat.mul_le_mul_right (128 ^ i) h2
     rw [Nat.pow_succ]
     omega
    have:=ih (i+1) (acc+v % 128 * 128 ^ i) (by omega) h1
    rw [show p+(i+1)=p+i+1 by omega] at this
    exact this
   ·rw [if_neg (by omega)]
    have big:Tot (λ _:Nat=>cond (decide (((acc+v % 128 * 128 ^ i:Nat):Int) > 1000000000)) (some (Sum.inl ((0:Int),(0:Int),false))) (some (Sum.inl (((acc+v % 128 * 128 ^ i:Nat):Int),(p:Int)+(i:Int)+1,true))):Nat→Option (Sum (Int×Int×Bool) Unit))
      (λ r=>Y3 r=if 1000000000<acc+v % 128 * 128 ^ i then (0,0,false) else (((acc+v % 128 * 128 ^ i:Nat):Int),((p+(i+1):Nat):Int),true)):=by
     refine Tot.dite (λ hbig=>?_) (λ hbig=>?_)
     ·rw [if_pos (by omega)]; exact Tot.pure rfl
     ·rw [if_neg (by omega)]
      refine Tot.pure ?_
      show (_,_,_)=_
      rw [show (p:Int)+(i:Int)+1=((p+(i+1):Nat):Int) by omega]
    have goal:∀ c:Prop,[Decidable c]→(if c∨1000000000<acc+v % 128 * 128 ^ i then none else some (acc+v % 128 * 128 ^ i,i+1))=if c then none else if 1000000000<acc+v % 128 * 128 ^ i then (none:Option (Nat×Nat)) else some (acc+v % 128 * 128 ^ i,i+1):=by
     intro c _
     by_cases h1:c<;>by_cases h2:1000000000<acc+v % 128 * 128 ^ i<;>simp [h1,h2]
    rw [goal]
    have fin:(Ccb p (if 1000000000<acc+v % 128 * 128 ^ i then (none:Option (Nat×Nat)) else some (acc+v % 128 * 128 ^ i,i+1)))=if 1000000000<acc+v % 128 * 128 ^ i then (0,0,false) else (((acc+v % 128 * 128 ^ i:Nat):Int),((p+(i+1):Nat):Int),true):=by
     split<;>rfl
    refine Tot.dite (λ hi0=>?_) (λ hi0=>?_)
    ·refine Tot.ite (λ h0=>?_) (λ h0=>?_)
     ·have hv:v=0:=by
       have:=beq_iff_eq.1 h0
       omega
      rw [if_pos ⟨by omega,by omega⟩]; exact Tot.pure rfl
     ·have hv:v≠0:=by
       intro e
       subst e
       simp at h0
      rw [if_neg (by omega),fin]; exact big
    ·rw [if_neg (by omega),fin]; exact big
  ·refine Tot.pure ?_
   rw [List.drop_of_length_le (by omega)]
   rfl
theorem U6 (l:List Int) (hb:Aj l) (hl:l.length≤1000000000000) (p:Int):Tot (λ k=>Da k l p) (λ r=>r=I8a l p):=by
 unfold Da I8a
 by_cases h0:p<0
 ·rw [if_pos h0]
  refine Tot.bind (Q:=λ r=>r = .inr ()) ?_ ?_
  ·refine Tot.succ ?_
   simp only [Ec]
   exact Tot.dec (by omega) (Tot.ndec (by omega) (Tot.pure rfl))
  ·rintro r rfl
   exact Tot.pure rfl
 ·rw [if_neg h0]
  by_cases h1:p<(l.length:Int)
  ·obtain ⟨n,rfl⟩:∃ n:Nat,p=(n:Int):=⟨p.toNat,by omega⟩
   rw [Int.toNat_natCast]
   refine Tot.bind (Mta l hb hl n (by omega) 5 0 0 rfl (by decide)) ?_
   intro r hr
   unfold Om
   rw [Nat.add_zero] at hr
   have hr':Y3 r=(match (match T9 5 0 0 (l.drop n) with|some (m,c)=>some (m,n+c)|none=>none) with|some (m,q)=>((m:Int),(q:Int),true)|none=>((0:Int),(0:Int),false)):=by
    rw [hr]
    cases T9 5 0 0 (l.drop n) with
    |none=>rfl
    |some mc=>rfl
   refine Tot.mono (Q:=λ y=>y=Y3 r) ?_ (λ y hy=>hy.trans hr')
   cases r with
   |inl y=>exact Tot.pure rfl
   |inr z=>exact Tot.pure rfl
  ·have e:Om l p.toNat=none:=by
    unfold Om
    rw [List.drop_of_length_le (by omega)]
    rfl
   rw [e]
   refine Tot.bind (Q:=λ r=>r = .inr ()) ?_ ?_
   ·refine Tot.succ ?_
    simp only [Ec]
    exact Tot.dec (by omega) (Tot.dec (by omega) (Tot.ndec h1 (Tot.pure rfl)))
   ·rintro r rfl
    exact Tot.pure rfl
def Bc (n:Int):Nat:=(max 0 (min n 1000000000)).toNat
theorem Nt (n:Int):Bc n≤1000000000:=by unfold Bc; omega
theorem Y4 {n:Int} (h0:0≤n) (h1:n≤1000000000):(Bc n:Int)=n:=by unfold Bc; omega
theorem Fea (n:Nat) (h:n≤255):IntKind.wrap .u8 (n:Int)=(n:Int):=by
 rw [IntKind.wrap_u8]
 omega
theorem Mua:∀ (f n:Nat) (out:List Int),n<128 ^ (f+1)→f≤4→out.length+f≤1000000000010→
  Tot (λ k=>H5 k out (n:Int)) (λ r=>∃ m:Nat,r.2=(m:Int)∧m≤127∧r.1++[(m:Int)]=out++Aha f n∧r.1.length≤out.length+f):=by
 intro f
 induction f with
 |zero=>
  intro n out hn hf hl
  refine Tot.succ ?_
  simp only [H5]
  have:n<128:=by simpa using hn
  exact Tot.ndec (by omega) (Tot.pure ⟨n,rfl,by omega,rfl,by simp⟩)
 |succ f ih=>
  intro n out hn hf hl
  have hp:=P6 (f+1+1 - 1) (by omega)
  refine Tot.succ ?_
  simp only [H5]
  refine Tot.dite (λ h=>?_) (λ h=>?_)
  ·have hn2:n / 128<128 ^ (f+1):=by rw [Nat.pow_succ] at hn; omega
   have hn3:n<4398046511104:=by
    have:=P6 (f+1) (by omega)
    rw [Nat.pow_succ] at hn
    omega
   have e1:Int.tmod (n:Int) 128+128=((n % 128+128:Nat):Int):=by
    rw [Int.tmod_eq_emod_of_nonneg (by omega)]
    omega
   have e2:Int.tdiv (n:Int) 128=((n / 128:Nat):Int):=by
    rw [Int.tdiv_eq_ediv_of_nonneg (by omega)]
    omega
   rw [e1,e2,w64 (n:=((n % 128+128:Nat):Int)) (by omega) (by omega),w64 (n:=((n / 128:Nat):Int)) (by omega) (by omega),Fea _ (by omega)]
   refine Tot.ble (by simp only [List.length_cons,List.length_nil]; omega) ?_
   refine (ih (n / 128) (out++[((n % 128+128:Nat):Int)]) hn2 (by omega) (by simp only [List.length_append,List.length_cons,List.length_nil]; omega)).mono ?_
   rintro r ⟨m,h1,h2,h3,h4⟩
   refine ⟨m,h1,h2,?_,by simp only [List.length_append,List.length_cons,List.length_nil] at h4; omega⟩
   rw [h3,List.append_assoc]
   congr 1
   conv => { rhs; unfold Aha }
   rw [if_neg (by omega)]
   rfl
  ·refine Tot.pure ⟨n,rfl,by omega,?_,by show out.length≤out.length+(f+1); omega⟩
   unfold Aha
   rw [if_pos (by omega)]
theorem Y5 (out:List Int) (n:Int) (hl:out.length≤1000000000000):Tot (λ k=>Er k out n) (λ r=>r=out++Oh (Bc n)):=by
 unfold Er
 have e:(if (0:Int)<(if (1000000000:Int)<n then 1000000000 else n) then (if (1000000000:Int)<n then 1000000000 else n) else 0)=((Bc n:Nat):Int):=by
  unfold Bc
  split<;>split<;>omega
 simp only
 rw [e]
 have hc:=Nt n
 refine Tot.bind (Mua 4 (Bc n) out (by omega) (by omega) (by omega)) ?_
 rintro r ⟨m,h1,h2,h3,h4⟩
 rw [h1,Fea m (by omega)]
 refine Tot.ble (by simp only [List.length_cons,List.length_nil]; omega) (Tot.pure h3)
theorem Mva:∀ (f n:Nat) (out:List Int),n<128 ^ (f+1)→f≤4→out.length+f≤1000000000010→
  Tot (λ k=>Cq k (n:Int) out) (λ r=>∃ m:Nat,r.1=(m:Int)∧m≤127∧r.2++[(m:Int)]=out++Aha f n∧r.2.length≤out.length+f):=by
 intro f
 induction f with
 |zero=>
  intro n out hn hf hl
  refine Tot.succ ?_
  simp only [Cq]
  have:n<128:=by simpa using hn
  exact Tot.ndec (by omega) (Tot.pure ⟨n,rfl,by omega,rfl,by simp⟩)
 |succ f ih=>
  intro n out hn hf hl
  refine Tot.succ ?_
  simp only [Cq]
  refine Tot.dite (λ h=>?_) (λ h=>?_)
  ·have hn2:n / 128<128 ^ (f+1):=by rw [Nat.pow_succ] at hn; omega
   have hn3:n<4398046511104:=by
    have:=P6 (f+1) (by omega)
    rw [Nat.pow_succ] at hn
    omega
   have e1:IntKind.wrap .i64 ((BitVec.ofInt (IntKind.bits .i64) ((n % 128:Nat):Int) ||| BitVec.ofInt (IntKind.bits .i64) 128).toNat)=((n % 128+128:Nat):Int):=by
    have:=Kva (n % 128) 1 1 (by omega) (by omega) (by omega)
    exact this
   have e2:Int.fdiv (n:Int) (2 ^ (min (Int.toNat 7) (IntKind.bits .i64)))=((n / 128:Nat):Int):=by
    have:(2:Int) ^ (min (Int.toNat 7) (IntKind.bits .i64))=128:=by decide
    rw [this,Int.fdiv_eq_ediv_of_nonneg _ (by omega)]
    omega
   rw [Wqa n (by omega),e1,e2,Fea _ (by omega)]
   refine Tot.ble (by simp only [List.length_cons,List.length_nil]; omega) ?_
   refine (ih (n / 128) (out++[((n % 128+128:Nat):Int)]) hn2 (by omega) (by simp only [List.length_append,List.length_cons,List.length_nil]; omega)).mono ?_
   rintro r ⟨m,h1,h2,h3,h4⟩
   refine ⟨m,h1,h2,?_,by simp only [List.length_append,List.length_cons,List.length_nil] at h4; omega⟩
   rw [h3,List.append_assoc]
   congr 1
   conv => { rhs; unfold Aha }
   rw [if_neg (by omega)]
   rfl
  ·refine Tot.pure ⟨n,rfl,by omega,?_,by show out.length≤out.length+(f+1); omega⟩
   unfold Aha
   rw [if_pos (by omega)]
theorem U7 (out:List Int) (n:Int) (hl:out.length≤1000000000000):Tot (λ k=>D9 k out n) (λ r=>r=out++Oh (Bc n)):=by
 have hc:=Nt n
 have fin:Tot (λ k=>(Cq k ((Bc n:Nat):Int) (([]:List Int)++out)).bind λ r1=>cond (Nat.ble ((List.length r1.2+List.length [IntKind.wrap .u8 r1.1]) * 1) 140737488355328) (some (r1.2++[IntKind.wrap .u8 r1.1])) none) (λ r=>r=out++Oh (Bc n)):=by
  rw [List.nil_append]
  refine Tot.bind (Mva 4 (Bc n) out (by omega) (by omega) (by omega)) ?_
  rintro r ⟨m,h1,h2,h3,h4⟩
  rw [h1,Fea m (by omega)]
  exact Tot.ble (by simp only [List.length_cons,List.length_nil]; omega) (Tot.pure h3)
 unfold D9
 refine Tot.ble (by simp only [List.length_nil]; omega) ?_
 refine Tot.dite (λ h1=>?_) (λ h1=>?_)
 ·refine Tot.ndec (by omega) ?_
  have e:((Bc n:Nat):Int)=1000000000:=by unfold Bc; omega
  rw [e] at fin
  exact fin
 ·refine Tot.dite (λ h2=>?_) (λ h2=>?_)
  ·have e:((Bc n:Nat):Int)=0:=by unfold Bc; omega
   rw [e] at fin
   exact fin
  ·have e:((Bc n:Nat):Int)=n:=by unfold Bc; omega
   rw [e] at fin
   exact fin
theorem M0 (n:Nat):(Oh n).length≤5∧0<(Oh n).length:=Qla 4 n
theorem Bqa:∀ (f n:Nat),n<128 ^ (f+1)→Aj (Aha f n)
 |0,n,hn=>by
  intro x hx
  simp only [Aha,List.mem_singleton] at hx
  have:n<128:=by simpa using hn
  omega
 |f+1,n,hn=>by
  unfold Aha
  split
  ·intro x hx
   simp only [List.mem_singleton] at hx
   omega
  ·intro x hx
   rcases List.mem_cons.1 hx with rfl|hx
   ·omega
   ·exact Bqa f (n / 128) (by rw [Nat.pow_succ] at hn; omega) x hx
theorem Mwa (n:Nat) (hn:n≤1000000000):Aj (Oh n):=Bqa 4 n (by omega)
theorem Bra (s:ByteArray):Aj (bytesOf s):=by
 intro x hx
 unfold bytesOf at hx
 obtain ⟨b,_,rfl⟩:=List.mem_map.1 hx
 have:=b.toNat_lt
 omega
theorem Po (s:ByteArray):(bytesOf s).length=s.size:=by
 unfold bytesOf
 rw [List.length_map]
 exact Array.length_toList
theorem Ta (s:ByteArray):Ke (bytesOf s)=s:=by
 unfold Ke bytesOf
 rw [List.map_map]
 have:(λ n:Int=>UInt8.ofNat n.toNat) ∘ (λ b:UInt8=>(b.toNat:Int))=id:=by
  funext b
  show UInt8.ofNat ((b.toNat:Int)).toNat=b
  rw [Int.toNat_natCast]
  exact UInt8.ofNat_toNat
 rw [this,List.map_id]
theorem Nj {l:List Int} (h:Aj l):bytesOf (Ke l)=l:=by
 unfold Ke bytesOf
 show List.map _ (List.map _ l)=l
 rw [List.map_map]
 have:∀ x∈l,((λ b:UInt8=>(b.toNat:Int)) ∘ (λ n:Int=>UInt8.ofNat n.toNat)) x=x:=by
  intro x hx
  have hb:=h x hx
  show ((UInt8.ofNat x.toNat).toNat:Int)=x
  rw [UInt8.toNat_ofNat']
  omega
 exact (List.map_congr_left this).trans (List.map_id' l)
theorem Ms (l:List Int):(Ke l).size=l.length:=by
 unfold Ke
 show (List.map _ l).toArray.size=l.length
 simp
def txt (s:ByteArray):List Int:=Oh (Bc (s.size:Int))++bytesOf s
theorem Uja (out:List Int) (s:ByteArray) (hl:out.length≤1000000000000) (hs:s.size≤1000000000000):Tot (λ k=>J8 k out s) (λ r=>r=out++txt s):=by
 unfold J8 txt
 refine Tot.bind (Y5 out _ hl) ?_
 rintro r rfl
 have:=(M0 (Bc (s.size:Int))).1
 refine Tot.ble (by simp only [List.length_append]; omega) (Tot.pure ?_)
 rw [List.append_assoc]
theorem Kwa (out:List Int) (s:ByteArray) (hl:out.length≤1000000000000) (hs:s.size≤1000000000000):Tot (λ k=>Iz k out s) (λ r=>r=out++txt s):=by
 unfold Iz txt
 refine Tot.bind (U7 out _ hl) ?_
 rintro r rfl
 have:=(M0 (Bc (s.size:Int))).1
 refine Tot.ble (by simp only [List.length_append]; omega) (Tot.pure ?_)
 rw [List.append_assoc]
def Kxa (l:List Int) (p:Nat):Option (ByteArray×Nat):=match Om l p with
 |some (n,q)=>if q+n≤l.length then some (Ke ((l.drop q).take n),q+n) else none
 |none=>none
def A3b (l:List Int) (p:Int):ByteArray×Int×Bool:=if p<0 then ((⟨#[]⟩:ByteArray),0,false) else match Kxa l p.toNat with
 |some (s,q)=>(s,(q:Int),true)
 |none=>((⟨#[]⟩:ByteArray),0,false)
theorem Bsa (l:List Int) (hb:Aj l) (p:Int):I8a l p=(0,0,false)∨∃ n q,0≤p∧Om l p.toNat=some (n,q)∧I8a l p=((n:Int),(q:Int),true)∧n≤1000000000∧q≤l.length:=by
 unfold I8a
 by_cases h:p<0
 ·rw [if_pos h]; exact .inl rfl
 ·rw [if_neg h]
  cases hg:Om l p.toNat with
  |none=>exact .inl rfl
  |some nq=>
   obtain ⟨n,q⟩:=nq
   have:=S6 hb hg
   exact .inr ⟨n,q,by omega,rfl,rfl,this.2.1,this.2.2.2⟩
theorem Kya (l:List Int) (hb:Aj l) (hl:l.length≤1000000000000) (p:Int) (hp:p≤1000000000000):Tot (λ k=>J7 k l p) (λ r=>r=A3b l p):=by
 unfold J7
 refine Tot.bind (Qoa l hb hl p hp) ?_
 rintro r rfl
 unfold A3b Kxa
 rcases Bsa l hb p with h|⟨n,q,h0,hg,h,hn,hq⟩
 ·rw [h]
  refine Tot.yes rfl (Tot.pure ?_)
  unfold I8a at h
  split
  ·rfl
  ·rename_i h0
   rw [if_neg h0] at h
   cases hg:Om l p.toNat with
   |none=>rfl
   |some nq=>rw [hg] at h; simp at h
 ·rw [h]
  refine Tot.no rfl ?_
  rw [if_neg (by omega),hg]
  simp only
  rw [w64 (n:=(l.length:Int) - (q:Int)) (by omega) (by omega),w64 (n:=(q:Int)+(n:Int)) (by omega) (by omega)]
  refine Tot.dite (λ hgt=>?_) (λ hgt=>?_)
  ·rw [if_neg (by omega)]
   exact Tot.pure rfl
  ·rw [if_pos (by omega)]
   refine Tot.dec (by omega) (Tot.dec (by omega) (Tot.dec (by omega) (Tot.pure ?_)))
   rw [show Int.toNat ((q:Int)+(n:Int))=q+n by omega,Int.toNat_natCast,List.drop_take,show q+n - q=n by omega]
   simp only [Prod.mk.injEq,true_and,and_true]
   push_cast
   rfl
theorem Dba (l:List Int) (hb:Aj l) (hl:l.length≤1000000000000) (p:Int):Tot (λ k=>J1 k l p) (λ r=>r=A3b l p):=by
 unfold J1
 refine Tot.bind (U6 l hb hl p) ?_
 rintro r rfl
 unfold A3b Kxa
 rcases Bsa l hb p with h|⟨n,q,h0,hg,h,hn,hq⟩
 ·rw [h]
  refine Tot.yes rfl (Tot.pure ?_)
  unfold I8a at h
  split
  ·rfl
  ·rename_i h0
   rw [if_neg h0] at h
   cases hg:Om l p.toNat with
   |none=>rfl
   |some nq=>rw [hg] at h; simp at h
 ·rw [h]
  refine Tot.no rfl ?_
  rw [if_neg (by omega),hg]
  simp only
  rw [w64 (n:=(l.length:Int) - (q:Int)) (by omega) (by omega),w64 (n:=(q:Int)+(n:Int)) (by omega) (by omega)]
  refine Tot.dite (λ hgt=>?_) (λ hgt=>?_)
  ·rw [if_neg (by omega)]
   exact Tot.pure rfl
  ·rw [if_pos (by omega)]
   refine Tot.dec (by omega) (Tot.dec (by omega) (Tot.dec (by omega) (Tot.pure ?_)))
   rw [show Int.toNat ((q:Int)+(n:Int))=q+n by omega,Int.toNat_natCast,List.drop_take,show q+n - q=n by omega]
   simp only [Prod.mk.injEq,true_and,and_true]
   push_cast
   rfl
theorem I9a {l:List Int} {p q:Nat} {s:ByteArray} (hb:Aj l) (h:Kxa l p=some (s,q)):l.drop p=txt s++l.drop q∧s.size≤1000000000∧p<q∧q≤l.length:=by
 unfold Kxa at h
 split at h
 ·rename_i n q0 hg
  obtain ⟨h1,h2,h3,h4⟩:=S6 hb hg
  split at h
  ·rename_i hle
   simp only [Option.some.injEq,Prod.mk.injEq] at h
   obtain ⟨rfl,rfl⟩:=h
   have hlen:((l.drop q0).take n).length=n:=by rw [List.length_take,List.length_drop]; omega
   have hbb:Aj ((l.drop q0).take n):=λ x hx=>hb x (List.mem_of_mem_drop (List.mem_of_mem_take hx))
   refine ⟨?_,by rw [Ms,hlen]; exact h2,by omega,by omega⟩
   unfold txt
   rw [Ms,hlen,Nj hbb,h1,show Bc (n:Int)=n by unfold Bc; omega,List.append_assoc]
   congr 1
   rw [← List.drop_drop,List.take_append_drop]
  ·cases h
 ·cases h
theorem Uka (pre:List Int) (s:ByteArray) (rest:List Int) (hs:s.size≤1000000000):Kxa (pre++(txt s++rest)) pre.length=some (s,pre.length+(txt s).length):=by
 unfold Kxa txt
 have hc:Bc (s.size:Int)=s.size:=by unfold Bc; omega
 rw [hc,List.append_assoc,Kua pre s.size _ hs]
 simp only
 rw [if_pos (by simp only [List.length_append,Po]; omega)]
 have e:(pre++(Oh s.size++(bytesOf s++rest))).drop (pre.length+(Oh s.size).length)=bytesOf s++rest:=by
  rw [← List.append_assoc,← List.length_append,List.drop_left]
 rw [e,List.take_left' (Po s),Ta]
 simp only [List.length_append,Po,Option.some.injEq,Prod.mk.injEq,true_and]
 omega

def Aoa (b:Bool):Int:=bif b then 1 else 0
theorem Yra (b:Bool):N0 b=some (Aoa b):=by cases b<;>rfl
theorem Kza (b:Bool):Kh b=some (Aoa b):=by cases b<;>rfl
def Nta (s:Stp):List Int:=Oh (Bc s.1)++(Oh (Bc s.2.1)++Oh (Bc s.2.2))
theorem Dca (s:Stp):(Nta s).length≤15:=by
 unfold Nta
 have h1:=(M0 (Bc s.1)).1
 have h2:=(M0 (Bc s.2.1)).1
 have h3:=(M0 (Bc s.2.2)).1
 simp only [List.length_append]
 omega
theorem Mxa (out:List Int) (s:Stp) (b:Bool) (hl:out.length≤999999999900):Tot (λ k=>I7 k out s b) (λ r=>r=out++(Nta s++Oh (Bc (Aoa b)))):=by
 have h1:=(M0 (Bc s.1)).1
 have h2:=(M0 (Bc s.2.1)).1
 have h3:=(M0 (Bc s.2.2)).1
 unfold I7 Nta
 refine Tot.bind (Y5 out s.1 (by omega)) ?_
 rintro r rfl
 refine Tot.bind (Y5 _ s.2.1 (by simp only [List.length_append]; omega)) ?_
 rintro r rfl
 refine Tot.bind (Y5 _ s.2.2 (by simp only [List.length_append]; omega)) ?_
 rintro r rfl
 refine Tot.bind (Tot.of (Q:=λ y=>y=Aoa b) (Yra b) rfl) ?_
 rintro y rfl
 refine Tot.bind (Y5 _ (Aoa b) (by simp only [List.length_append]; omega)) ?_
 rintro r rfl
 exact Tot.pure (by simp only [List.append_assoc])
theorem Bta (out:List Int) (s:Stp) (hl:out.length≤999999999900):Tot (λ k=>J0 k out s) (λ r=>r=out++Nta s):=by
 have h1:=(M0 (Bc s.1)).1
 have h2:=(M0 (Bc s.2.1)).1
 unfold J0 Nta
 refine Tot.bind (U7 out s.1 (by omega)) ?_
 rintro r rfl
 refine Tot.bind (U7 _ s.2.1 (by simp only [List.length_append]; omega)) ?_
 rintro r rfl
 refine Tot.bind (U7 _ s.2.2 (by simp only [List.length_append]; omega)) ?_
 rintro r rfl
 exact Tot.pure (by simp only [List.append_assoc])
theorem Y6 {s:ByteArray} (h:Br s=true):1≤s.size∧s.size≤20:=by
 unfold Br at h
 rw [Bool.and_eq_true,Ew] at h
 omega
theorem Bua {r:Row} (h:Mj r=true):Br r.1=true:=by
 unfold Mj at h
 rw [Bool.and_eq_true] at h
 exact h.1
theorem Qpa (s:ByteArray):(txt s).length≤5+s.size:=by
 have h1:=(M0 (Bc (s.size:Int))).1
 unfold txt
 simp only [List.length_append,Po]
 omega

theorem W4 (l:List Int) (p:Nat):I8a l (p:Int)=match Om l p with
 |some (n,q)=>((n:Int),(q:Int),true)
 |none=>(0,0,false):=by
 unfold I8a
 rw [if_neg (by omega),Int.toNat_natCast]
 all_goals cases Om l p<;>rfl
theorem L0a (l:List Int) (p:Nat):A3b l (p:Int)=match Kxa l p with
 |some (s,q)=>(s,(q:Int),true)
 |none=>((⟨#[]⟩:ByteArray),0,false):=by
 unfold A3b
 rw [if_neg (by omega),Int.toNat_natCast]
 all_goals cases Kxa l p<;>rfl
theorem Apa (l:List Int) (hb:Aj l) (hl:l.length≤1000000000000) (p:Nat) (hp:p≤l.length) (bad:Bool):
  Tot (λ k=>Cl k (l,(p:Int),bad)) (λ r=>(bad=false∧∃ n q:Nat,Om l p=some (n,q)∧q≤l.length∧r=((n:Int),l,(q:Int),false))∨((bad=true∨Om l p=none)∧r=(0,l,(p:Int),true))):=by
 unfold Cl
 refine Tot.bind (Qoa l hb hl (p:Int) (by omega)) ?_
 rintro r rfl
 refine Tot.ite (λ h=>Tot.pure (.inr ⟨.inl h,rfl⟩)) (λ h=>?_)
 rw [W4]
 cases hg:Om l p with
 |none=>exact Tot.yes rfl (Tot.pure (.inr ⟨.inr rfl,rfl⟩))
 |some nq=>
  obtain ⟨n,q⟩:=nq
  simp only at h
  subst h
  exact Tot.no rfl (Tot.pure (.inl ⟨rfl,n,q,rfl,(S6 hb hg).2.2.2,rfl⟩))
theorem Csb (l:List Int) (hb:Aj l) (hl:l.length≤1000000000000) (p:Nat) (hp:p≤l.length):
  Tot (λ k=>Cf k (l,(p:Int),false)) (λ r=>(∃ (s:ByteArray) (q:Nat),Kxa l p=some (s,q)∧q≤l.length∧r=(s,l,(q:Int),false))∨(Kxa l p=none∧r=((⟨#[]⟩:ByteArray),l,(p:Int),true))):=by
 unfold Cf
 refine Tot.bind (Kya l hb hl (p:Int) (by omega)) ?_
 rintro r rfl
 refine Tot.no rfl ?_
 rw [L0a]
 cases hg:Kxa l p with
 |none=>exact Tot.yes rfl (Tot.pure (.inr ⟨rfl,rfl⟩))
 |some nq=>
  obtain ⟨n,q⟩:=nq
  exact Tot.no rfl (Tot.pure (.inl ⟨n,q,rfl,(I9a hb hg).2.2.2,rfl⟩))
def Q0 (l:List Int) (p:Nat):Option ((Stp×Bool)×Nat):=
 (Om l p).bind λ b=>(Om l b.2).bind λ c=>(Om l c.2).bind λ d=>(Om l d.2).bind λ e=>bif decide (1<e.1) then none else
  some ((((b.1:Int),(c.1:Int),(d.1:Int)),(e.1:Int)==1),e.2)
theorem Ctb (l:List Int) (hb:Aj l) (hl:l.length≤1000000000000) (p:Nat) (hp:p≤l.length) (bad:Bool):
  Tot (λ k=>Dg k (l,(p:Int),bad)) (λ r=>(bad=false∧∃ (x:Stp×Bool) (q:Nat),Q0 l p=some (x,q)∧q≤l.length∧r=(x.1,x.2,l,(q:Int),false))∨((bad=true∨Q0 l p=none)∧∃ s b,∃ q:Nat,q≤l.length∧r=(s,b,l,(q:Int),true))):=by
 unfold Dg
 have nx:∀ {o:Option (Nat×Nat)} {f:Nat×Nat→Option ((Stp×Bool)×Nat)},o=none→o.bind f=none:=by
  intro o f h; rw [h]; rfl
 refine Tot.bind (Apa l hb hl p hp bad) ?_
 rintro r (⟨h0,n1,p1,h1,l1,rfl⟩|⟨h1,rfl⟩)
 ·simp only
  refine Tot.bind (Apa l hb hl p1 l1 false) ?_
  rintro r (⟨_,n2,p2,h2,l2,rfl⟩|⟨h2,rfl⟩)
  ·simp only
   refine Tot.bind (Apa l hb hl p2 l2 false) ?_
   rintro r (⟨_,n3,p3,h3,l3,rfl⟩|⟨h3,rfl⟩)
   ·simp only
    refine Tot.bind (Apa l hb hl p3 l3 false) ?_
    rintro r (⟨_,n4,p4,h4,l4,rfl⟩|⟨h4,rfl⟩)
    ·simp only
     refine Tot.no rfl (Tot.pure ?_)
     have e:Q0 l p=bif decide (1<n4) then none else some ((((n1:Int),(n2:Int),(n3:Int)),(n4:Int)==1),p4):=by
      unfold Q0
      simp only [h1,h2,h3,h4,Option.bind_some]
     cases hd:decide (1<n4) with
     |true=>
      rw [hd,cond_true] at e
      refine .inr ⟨.inr e,((n1:Int),(n2:Int),(n3:Int)),((n4:Int)==1),p4,l4,?_⟩
      have:decide ((n4:Int) > 1)=true:=decide_eq_true (by have:=of_decide_eq_true hd; omega)
      rw [this]
     |false=>
      rw [hd,cond_false] at e
      refine .inl ⟨h0,_,p4,e,l4,?_⟩
      have:decide ((n4:Int) > 1)=false:=decide_eq_false (by have:=of_decide_eq_false hd; omega)
      rw [this]
    ·refine Tot.yes rfl (Tot.pure (.inr ⟨.inr ?_,_,_,p3,l3,rfl⟩))
     have h4':=h4.resolve_left (by simp)
     unfold Q0
     simp only [h1,h2,h3,h4',Option.bind_some,Option.bind_none]
   ·simp only
    refine Tot.bind (Apa l hb hl p2 l2 true) ?_
    rintro r (⟨hh,_⟩|⟨_,rfl⟩)
    ·cases hh
    ·refine Tot.yes rfl (Tot.pure (.inr ⟨.inr ?_,_,_,p2,l2,rfl⟩))
     have h3':=h3.resolve_left (by simp)
     unfold Q0
     simp only [h1,h2,h3',Option.bind_some,Option.bind_none]
  ·simp only
   refine Tot.bind (Apa l hb hl p1 l1 true) ?_
   rintro r (⟨hh,_⟩|⟨_,rfl⟩)
   ·cases hh
   ·refine Tot.bind (Apa l hb hl p1 l1 true) ?_
    rintro r (⟨hh,_⟩|⟨_,rfl⟩)
    ·cases hh
    ·refine Tot.yes rfl (Tot.pure (.inr ⟨.inr ?_,_,_,p1,l1,rfl⟩))
     have h2':=h2.resolve_left (by simp)
     unfold Q0
     simp only [h1,h2',Option.bind_some,Option.bind_none]
 ·simp only
  refine Tot.bind (Apa l hb hl p hp true) ?_
  rintro r (⟨hh,_⟩|⟨_,rfl⟩)
  ·cases hh
  ·refine Tot.bind (Apa l hb hl p hp true) ?_
   rintro r (⟨hh,_⟩|⟨_,rfl⟩)
   ·cases hh
   ·refine Tot.bind (Apa l hb hl p hp true) ?_
    rintro r (⟨hh,_⟩|⟨_,rfl⟩)
    ·cases hh
    ·refine Tot.yes rfl (Tot.pure (.inr ⟨?_,_,_,p,hp,rfl⟩))
     rcases h1 with h1|h1
     ·exact .inl h1
     ·refine .inr ?_
      unfold Q0
      rw [h1]
      rfl
theorem Ysa (l:List Int) (hb:Aj l) (hl:l.length≤1000000000000) (p:Int):
  Tot (λ k=>F7 k l p) (λ r=>(∃ n1 p1 n2 p2 n3 p3,0≤p∧Om l p.toNat=some (n1,p1)∧Om l p1=some (n2,p2)∧Om l p2=some (n3,p3)∧r=(((n1:Int),(n2:Int),(n3:Int)),(p3:Int),true))∨(((Om l p.toNat).bind λ a=>(Om l a.2).bind λ b=>Om l b.2)=none∨p<0)∧r.2.2=false):=by
 unfold F7
 refine Tot.bind (U6 l hb hl p) ?_
 rintro r1 rfl
 refine Tot.bind (U6 l hb hl _) ?_
 rintro r2 rfl
 refine Tot.bind (U6 l hb hl _) ?_
 rintro r3 rfl
 by_cases hp:p<0
 ·have:(I8a l p).2.2=false:=by unfold I8a; rw [if_pos hp]
  exact Tot.no this (Tot.pure (.inr ⟨.inr hp,rfl⟩))
 ·have e1:I8a l p=match Om l p.toNat with|some (n,q)=>((n:Int),(q:Int),true)|none=>(0,0,false):=by
   unfold I8a; rw [if_neg hp]; all_goals cases Om l p.toNat<;>rfl
  cases h1:Om l p.toNat with
  |none=>
   rw [h1] at e1
   simp only [e1]
   exact Tot.no rfl (Tot.pure (.inr ⟨.inl rfl,rfl⟩))
  |some a=>
   obtain ⟨n1,p1⟩:=a
   rw [h1] at e1
   simp only [e1,W4,Option.bind_some]
   refine Tot.yes rfl ?_
   cases h2:Om l p1 with
   |none=>exact Tot.no rfl (Tot.pure (.inr ⟨.inl rfl,rfl⟩))
   |some b=>
    obtain ⟨n2,p2⟩:=b
    refine Tot.yes rfl ?_
    simp only [W4,Option.bind_some]
    cases h3:Om l p2 with
    |none=>exact Tot.pure (.inr ⟨.inl rfl,rfl⟩)
    |some c=>
     obtain ⟨n3,p3⟩:=c
     exact Tot.pure (.inl ⟨n1,p1,n2,p2,n3,p3,by omega,rfl,h2,h3,rfl⟩)
theorem Qqa {l:List Int} {p:Nat} (h:((Om l p).bind λ a=>(Om l a.2).bind λ b=>Om l b.2)=none):Q0 l p=none:=by
 unfold Q0
 cases h1:Om l p with
 |none=>rfl
 |some a=>
  rw [h1] at h
  simp only [Option.bind_some] at h ⊢
  cases h2:Om l a.2 with
  |none=>rfl
  |some b=>
   rw [h2] at h
   simp only [Option.bind_some] at h ⊢
   rw [h]
   rfl

theorem Lt:∀ s∈Nm,Kj s∧Br s=true:=by
 intro s hs
 simp only [Nm,List.mem_cons,List.not_mem_nil,or_false] at hs
 rcases hs with rfl|rfl|rfl|rfl|rfl|rfl<;>exact ⟨by unfold Kj; decide,by decide⟩
theorem Ula {x:Row} (h:Yqa x):Mj x=true:=by
 obtain ⟨h1,⟨t0,t1,s0,s1,n0,n1⟩,h3,h4,h5⟩:=h
 unfold Mj G3
 rw [(Lt x.1 h1).2,Ew.2 ⟨t0,t1⟩,Ew.2 ⟨s0,s1⟩,Ew.2 ⟨n0,n1⟩,Ew.2 ⟨h3,by omega⟩]
 cases hd:x.2.2.1 with
 |false=>rfl
 |true=>rw [h5 hd]; rfl
theorem Ffa (c:Cur) (hc:D0 c):Tot (λ k=>Ju k c) (λ r=>D0 r.2∧r.1.length≤6∧Pn r.1):=by
 unfold Ju
 refine Tot.bind (Xz c hc) (λ r hr=>?_)
 obtain ⟨k1,hr1,hl⟩:=hr
 have hsh:Pn r.1:=λ q hq=>(Lt q.1 (hr1.2 q hq).1).1
 obtain ⟨x,c',e,_,_,_,k2⟩:=Ai r.2 k1 8 (by decide)
 refine Tot.bind (Tot.of (Q:=λ r=>r=(x,c')) e rfl) ?_
 rintro y rfl
 refine Tot.ite (λ _=>?_) (λ _=>?_)
 ·refine Tot.bind (Bla c' k2) (λ z hz=>?_)
  refine Tot.ble (by simp only [List.length_cons,List.length_nil]; omega) (Tot.pure ⟨hz.2,?_,?_⟩)
  ·show (r.1++[z.1]).length≤6
   simp only [List.length_append,List.length_cons,List.length_nil]
   omega
  ·intro q hq
   rcases List.mem_append.1 hq with hq|hq
   ·exact hsh q hq
   ·simp only [List.mem_singleton] at hq
    subst hq
    exact (Lt _ hz.1.1).1
 ·refine Tot.ite (λ _=>?_) (λ _=>Tot.pure ⟨k2,by show r.1.length≤6; omega,hsh⟩)
  refine Tot.dite (λ h=>?_) (λ h=>Tot.pure ⟨k2,by show r.1.length≤6; omega,hsh⟩)
  obtain ⟨v,c3,e3,_,k3⟩:=L8 c' k2 [(-1),201,200] (by decide) (by decide)
  refine Tot.bind (Tot.of (Q:=λ r=>r=(v,c3)) e3 rfl) ?_
  rintro z rfl
  refine Tot.dec (by omega) (Tot.pure ⟨k3,?_,?_⟩)
  ·show (List.set r.1 _ _).length≤6
   rw [List.length_set]
   omega
  ·intro q hq
   rcases List.mem_or_eq_of_mem_set hq with hq|rfl
   ·exact hsh q hq
   ·have hpos:Int.toNat 0<r.1.length:=by show 0<_; omega
    have h1:Kj (r.1.getD (Int.toNat 0) Ml).1:=hsh _ (A4 (d:=Ml) hpos)
    exact h1

abbrev Nmd:=ByteArray×List Int
abbrev Dsk:=List Nmd×List Nmd
def Eu:Nmd:=((⟨#[]⟩:ByteArray),[])
def Fga (l:List Nmd):Prop:=l.length≤1000000000000∧∀ x∈l,x.2.length≤1000000000000
def Yta (d:Dsk):Prop:=Fga d.1∧Fga d.2
def fnd (l:List Nmd) (s:ByteArray):Option Nat:=l.findIdx? (λ x=>teq x.1 s)
def Gqa (l:List Nmd) (s:ByteArray):Int:=match fnd l s with
 |some i=>(i:Int)
 |none => -1
theorem Qra (l:List Nmd) (s:ByteArray) (hf:l.length≤1000000000000):∀ (n i:Nat),l.length - i=n→i≤l.length→
  Tot (λ k=>Kq k s l (l.length:Int) (i:Int)) (λ r=>r=match fnd (l.drop i) s with|some j => .inl ((i+j:Nat):Int)|none => .inr ()):=by
 intro n
 induction n with
 |zero=>
  intro i hd hi
  refine Tot.succ ?_
  simp only [Kq]
  refine Tot.ndec (by omega) (Tot.pure ?_)
  rw [List.drop_of_length_le (by omega)]
  rfl
 |succ n ih=>
  intro i hd hi
  have hlt:i<l.length:=by omega
  refine Tot.succ ?_
  simp only [Kq]
  refine Tot.dec (by omega) (Tot.dec (by omega) (Tot.dec (by omega) ?_))
  rw [show Int.toNat (i:Int)=i from Int.toNat_natCast i,w64 (n:=(i:Int)+1) (by omega) (by omega),Aq (d:=Eu) hlt]
  have e0:l.getD i ((⟨#[]⟩:ByteArray),([]:List Int))=l.getD i Eu:=rfl
  rw [e0]
  have e1:fnd (l.getD i Eu::l.drop (i+1)) s=if teq (l.getD i Eu).1 s then some 0 else (fnd (l.drop (i+1)) s).map (· + 1):=by
   unfold fnd
   rw [List.findIdx?_cons]
  rw [e1]
  refine Tot.ite (λ h=>?_) (λ h=>?_)
  ·have h':teq (l.getD i Eu).1 s=true:=h
   rw [if_pos h']
   exact Tot.pure rfl
  ·have h':¬ (teq (l.getD i Eu).1 s=true):=by
    have:teq (l.getD i Eu).1 s=false:=h
    rw [this]; simp
   rw [if_neg h']
   refine (ih (i+1) (by omega) (by omega)).mono ?_
   rintro r rfl
   cases fnd (l.drop (i+1)) s with
   |none=>rfl
   |some j=>
    show Sum.inl _=Sum.inl _
    rw [show i+1+j=i+(j+1) by omega]
theorem Bbb (l:List Nmd) (s:ByteArray) (hf:l.length≤1000000000000):Tot (λ k=>Na k l s) (λ r=>r=Gqa l s):=by
 unfold Na Gqa
 refine Tot.bind (Qra l s hf _ 0 rfl (Nat.zero_le _)) ?_
 rintro r rfl
 rw [List.drop_zero]
 cases fnd l s with
 |none=>exact Tot.pure rfl
 |some j=>
  refine Tot.pure ?_
  rw [Nat.zero_add]
theorem Qm {l:List Nmd} {s:ByteArray} {i:Nat} (h:fnd l s=some i):i<l.length∧(l.getD i Eu).1=s:=by
 unfold fnd at h
 rw [List.findIdx?_eq_some_iff_getElem] at h
 obtain ⟨h1,h2,_⟩:=h
 refine ⟨h1,?_⟩
 rw [List.getD_eq_getElem?_getD,List.getElem?_eq_getElem h1]
 exact Jl.1 h2
def del (l:List Nmd) (s:ByteArray):List Nmd:=match fnd l s with
 |some i=>l.take i++l.drop (i+1)
 |none=>l

def nOk (x:Nmd):Bool:=Br x.1 && !(decide ((x.2.length:Int) > 400))
def chn:Option ByteArray→List Nmd→Bool
 |_,[]=>true
 |none,r::l=>nOk r&&chn (some r.1) l
 |some q,r::l=>nOk r&&(tlt q r.1&&chn (some r.1) l)
def Iw (l:List Nmd):Bool:=chn none l&&decide ((l.length:Int)≤60)
def Al (d:Dsk):Bool:=Iw d.1&&Iw d.2
def Nu (l:List Nmd):Prop:=∀ x∈l,Kj x.1
def Bva (d:Dsk):Prop:=Nu d.1∧Nu d.2
def Uz (l:List Nmd):Nat→Option ByteArray
 |0=>none
 |i+1=>some (l.getD i Eu).1
theorem L1a (l:List Nmd) (i:Nat) (h:i<l.length):chn (Uz l i) (l.drop i)=(nOk (l.getD i Eu)&&(bif decide (0<i) then tlt (l.getD (i - 1) Eu).1 (l.getD i Eu).1 else true)&&chn (Uz l (i+1)) (l.drop (i+1))):=by
 rw [Aq (d:=Eu) h]
 cases i with
 |zero=>simp [Uz,chn]
 |succ i=>simp [Uz,chn,Bool.and_assoc]
theorem Fha (l:List Nmd) (hf:l.length≤1000000000000) (hs:Nu l):∀ (n i:Nat),l.length - i=n→i≤l.length→
  Tot (λ k=>E5 k l l (l.length:Int) (i:Int)) (λ r=>r=bif chn (Uz l i) (l.drop i) then .inr l else .inl false):=by
 intro n
 induction n with
 |zero=>
  intro i hn hi
  refine Tot.succ ?_
  simp only [E5]
  refine Tot.ndec (by omega) (Tot.pure ?_)
  rw [List.drop_of_length_le (by omega)]
  cases Uz l i<;>rfl
 |succ n ih=>
  intro i hn hi
  have hlt:i<l.length:=by omega
  refine Tot.succ ?_
  simp only [E5]
  refine Tot.dec (by omega) (Tot.dec (by omega) (Tot.dec (by omega) ?_))
  rw [show Int.toNat (i:Int)=i from Int.toNat_natCast i,w64 (n:=(i:Int)+1) (by omega) (by omega),L1a l i hlt]
  have h1:=ih (i+1) (by omega) (by omega)
  have e:(((i+1:Nat)):Int)=(i:Int)+1:=by omega
  rw [e] at h1
  have e0:l.getD i ((⟨#[]⟩:ByteArray),([]:List Int))=l.getD i Eu:=rfl
  rw [e0]
  refine Tot.bind (W3 (l.getD i Eu).1 (hs _ (A4 hlt))) ?_
  rintro b rfl
  cases hb:Br (l.getD i Eu).1 with
  |false=>exact Tot.yes rfl (Tot.pure (by rw [show nOk (l.getD i Eu)=false by unfold nOk; rw [hb]; rfl]; rfl))
  |true=>
   refine Tot.no rfl ?_
   refine Tot.dite (λ h4=>Tot.pure (by rw [show nOk (l.getD i Eu)=false by unfold nOk; rw [decide_eq_true h4,hb]; rfl]; rfl)) (λ h4=>?_)
   have hnk:nOk (l.getD i Eu)=true:=by unfold nOk; rw [hb,decide_eq_false h4]; rfl
   rw [hnk,Bool.true_and]
   refine Tot.dite (λ h0=>?_) (λ h0=>?_)
   ·rw [w64 (n:=(i:Int) - 1) (by omega) (by omega)]
    refine Tot.dec (by omega) (Tot.dec (by omega) ?_)
    rw [show Int.toNat ((i:Int) - 1)=i - 1 by omega,decide_eq_true (show 0<i by omega),cond_true]
    refine Tot.ite (λ ht=>?_) (λ ht=>?_)
    ·have ht':(!(tlt (l.getD (i - 1) Eu).1 (l.getD i Eu).1))=true:=ht
     rw [Bool.not_eq_true'] at ht'
     exact Tot.pure (by rw [ht']; rfl)
    ·have ht':(!(tlt (l.getD (i - 1) Eu).1 (l.getD i Eu).1))=false:=ht
     rw [Bool.not_eq_false'] at ht'
     rw [ht',Bool.true_and]
     exact h1
   ·rw [decide_eq_false (show ¬ 0<i by omega),cond_false,Bool.true_and]
    exact h1
theorem Fia (l:List Nmd) (hf:l.length≤1000000000000) (hs:Nu l):∀ (n i:Nat),l.length - i=n→i≤l.length→
  Tot (λ k=>Ft k l (i:Int)) (λ r=>r=bif chn (Uz l i) (l.drop i) then .inr l else .inl false):=by
 intro n
 induction n with
 |zero=>
  intro i hn hi
  refine Tot.succ ?_
  simp only [Ft]
  refine Tot.ndec (by omega) (Tot.pure ?_)
  rw [List.drop_of_length_le (by omega)]
  cases Uz l i<;>rfl
 |succ n ih=>
  intro i hn hi
  have hlt:i<l.length:=by omega
  refine Tot.succ ?_
  simp only [Ft]
  refine Tot.dec (by omega) (Tot.dec (by omega) (Tot.dec (by omega) ?_))
  rw [show Int.toNat (i:Int)=i from Int.toNat_natCast i,w64 (n:=(i:Int)+1) (by omega) (by omega),L1a l i hlt]
  have h1:=ih (i+1) (by omega) (by omega)
  have e:(((i+1:Nat)):Int)=(i:Int)+1:=by omega
  rw [e] at h1
  have e0:l.getD i ((⟨#[]⟩:ByteArray),([]:List Int))=l.getD i Eu:=rfl
  rw [e0]
  refine Tot.bind (Ob (l.getD i Eu).1 (hs _ (A4 hlt))) ?_
  rintro b rfl
  cases hb:Br (l.getD i Eu).1 with
  |false=>exact Tot.yes rfl (Tot.pure (by rw [show nOk (l.getD i Eu)=false by unfold nOk; rw [hb]; rfl]; rfl))
  |true=>
   refine Tot.no rfl (Tot.dec (by omega) (Tot.dec (by omega) ?_))
   refine Tot.dite (λ h4=>Tot.pure (by rw [show nOk (l.getD i Eu)=false by unfold nOk; rw [decide_eq_true h4,hb]; rfl]; rfl)) (λ h4=>?_)
   have hnk:nOk (l.getD i Eu)=true:=by unfold nOk; rw [hb,decide_eq_false h4]; rfl
   rw [hnk,Bool.true_and]
   refine Tot.dite (λ h0=>?_) (λ h0=>?_)
   ·rw [w64 (n:=(i:Int) - 1) (by omega) (by omega)]
    refine Tot.dec (by omega) (Tot.dec (by omega) (Tot.dec (by omega) (Tot.dec (by omega) ?_)))
    rw [show Int.toNat ((i:Int) - 1)=i - 1 by omega,decide_eq_true (show 0<i by omega),cond_true]
    refine Tot.ite (λ ht=>?_) (λ ht=>?_)
    ·have ht':(!(tlt (l.getD (i - 1) Eu).1 (l.getD i Eu).1))=true:=ht
     rw [Bool.not_eq_true'] at ht'
     exact Tot.pure (by rw [ht']; rfl)
    ·have ht':(!(tlt (l.getD (i - 1) Eu).1 (l.getD i Eu).1))=false:=ht
     rw [Bool.not_eq_false'] at ht'
     rw [ht',Bool.true_and]
     exact h1
   ·rw [decide_eq_false (show ¬ 0<i by omega),cond_false,Bool.true_and]
    exact h1
theorem Fja (l:List Nmd) (hf:l.length≤1000000000000) (hs:Nu l):Tot (λ k=>Dn k l) (λ r=>r=Iw l):=by
 unfold Dn Iw
 refine Tot.bind (Fha l hf hs _ 0 rfl (Nat.zero_le _)) ?_
 rintro r rfl
 rw [List.drop_zero]
 show Tot _ (λ r=>r=(chn none l&&_))
 cases hc:chn none l with
 |true=>rw [show chn (Uz l 0) l=true from hc]; exact Tot.pure (by rw [Bool.true_and])
 |false=>rw [show chn (Uz l 0) l=false from hc]; exact Tot.pure rfl
theorem Fka (l:List Nmd) (hf:l.length≤1000000000000) (hs:Nu l):Tot (λ k=>F6 k l) (λ r=>r=Iw l):=by
 unfold F6 Iw
 refine Tot.bind (Fia l hf hs _ 0 rfl (Nat.zero_le _)) ?_
 rintro r rfl
 rw [List.drop_zero]
 show Tot _ (λ r=>r=(chn none l&&_))
 cases hc:chn none l with
 |true=>rw [show chn (Uz l 0) l=true from hc]; exact Tot.pure (by rw [Bool.true_and])
 |false=>rw [show chn (Uz l 0) l=false from hc]; exact Tot.pure rfl
theorem Uma (d:Dsk) (hf:Yta d) (hs:Bva d):Tot (λ k=>Jv k d) (λ r=>r=Al d):=by
 unfold Jv Al
 refine Tot.bind (Fja d.1 hf.1.1 hs.1) ?_
 rintro r rfl
 cases h:Iw d.1 with
 |false=>exact Tot.no rfl (Tot.pure rfl)
 |true=>
  refine Tot.yes rfl (Tot.bind (Fja d.2 hf.2.1 hs.2) ?_)
  rintro r rfl
  exact Tot.pure (by rw [Bool.true_and])
def plc (l:List Nmd) (s:ByteArray):Nat:=(l.takeWhile (λ y=>tlt y.1 s)).length
def ins (l:List Nmd) (x:Nmd):List Nmd:=l.take (plc l x.1)++[x]++l.drop (plc l x.1)

end Go.Proofs.YtcgfpppmikhgmaaGreat.Vf
