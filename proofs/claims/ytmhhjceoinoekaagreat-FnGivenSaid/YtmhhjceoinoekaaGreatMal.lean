import Derived.Test.YtmhhjceoinoekaaGreatMak
import Derived.Laws.StructEq
set_option linter.unusedVariables false
set_option linter.unusedSimpArgs false
namespace Go.Proofs.YtmhhjceoinoekaaGreat.Vf
open Go

abbrev Cur:=List Int×Int×Int
def Ck (c:Cur):Prop:=(c.1.length:Int)≤1048576∧0≤c.2.1∧c.2.1≤1048576
theorem Mwa (b:List Int) (hb:(b.length:Int)≤1048576):∀ (n:Nat) (h i:Int),0≤i→i+n=4001→Tot (λ k=>Hj k b h i) (λ r=>r.1=b):=by
 intro n
 induction n with
 |zero=>
  intro h i h0 hi
  refine Tot.succ ?_
  simp only [Hj]
  refine Tot.dite (λ h1=>?_) (λ h1=>Tot.pure rfl)
  exact Tot.ndec (by omega) (Tot.pure rfl)
 |succ n ih=>
  intro h i h0 hi
  refine Tot.succ ?_
  simp only [Hj]
  refine Tot.dite (λ h1=>?_) (λ h1=>Tot.pure rfl)
  refine Tot.dite (λ h2=>?_) (λ h2=>Tot.pure rfl)
  refine Tot.dec h0 (Tot.dec h1 ?_)
  rw [w64 (n:=i+1) (by omega) (by omega)]
  exact ih _ _ (by omega) (by omega)
theorem F8a (b:List Int) (hb:(b.length:Int)≤1048576):Tot (λ k=>Id k b) Ck:=by
 unfold Id
 refine Tot.bind (Mwa b hb 4001 _ 0 (by omega) (by omega)) (λ r hr=>?_)
 exact Tot.pure ⟨by rw [hr]; exact hb,Int.le_refl 0,by show (0:Int)≤1048576; omega⟩
theorem Qd (c:Cur) (hc:Ck c):∃ x c',Es c=some (x,c')∧0≤x∧x≤255∧Ck c':=by
 obtain ⟨h1,h2,h3⟩:=hc
 unfold Es
 by_cases hlt:c.2.1<(c.1.length:Int)
 ·simp only [hlt,h2,decide_true,cond_true]
  obtain ⟨a1,a2⟩:=Kja (IntKind.wrap .i64 ((IntKind.wrap .i64 ((BitVec.ofInt (IntKind.bits .i64) (IntKind.wrap .i64 ((BitVec.ofInt (IntKind.bits .i64) (Int.fdiv (IntKind.wrap .i64 ((IntKind.wrap .i64 (c.2.2 * 6364136223846793005))+1442695040888963407)) (2 ^ (min (Int.toNat 33) (IntKind.bits .i64)))) ^^^ BitVec.ofInt (IntKind.bits .i64) (Int.fdiv (IntKind.wrap .i64 ((IntKind.wrap .i64 (c.2.2 * 6364136223846793005))+1442695040888963407)) (2 ^ (min (Int.toNat 47) (IntKind.bits .i64))))).toNat)) &&& BitVec.ofInt (IntKind.bits .i64) 255).toNat))+(IntKind.wrap .i64 (List.getD c.1 (Int.toNat c.2.1) (0:Int))))) 255 (by omega) (by omega)
  refine ⟨_,_,rfl,a1,a2,h1,?_,?_⟩
  ·show 0≤IntKind.wrap .i64 (c.2.1+1)
   rw [w64 (by omega) (by omega)]
   omega
  ·show IntKind.wrap .i64 (c.2.1+1)≤1048576
   rw [w64 (by omega) (by omega)]
   omega
 ·simp only [hlt,decide_false,cond_false]
  obtain ⟨a1,a2⟩:=Kja (IntKind.wrap .i64 ((BitVec.ofInt (IntKind.bits .i64) (Int.fdiv (IntKind.wrap .i64 ((IntKind.wrap .i64 (c.2.2 * 6364136223846793005))+1442695040888963407)) (2 ^ (min (Int.toNat 33) (IntKind.bits .i64)))) ^^^ BitVec.ofInt (IntKind.bits .i64) (Int.fdiv (IntKind.wrap .i64 ((IntKind.wrap .i64 (c.2.2 * 6364136223846793005))+1442695040888963407)) (2 ^ (min (Int.toNat 47) (IntKind.bits .i64))))).toNat)) 255 (by omega) (by omega)
  exact ⟨_,_,rfl,a1,a2,h1,h2,h3⟩
theorem Am (c:Cur) (hc:Ck c) (n:Int) (hn:n≤1000000000):∃ x c',A3 c n=some (x,c')∧0≤x∧(0<n→x<n)∧(n≤0→x=0)∧Ck c':=by
 unfold A3
 by_cases h0:n≤0
 ·exact ⟨0,c,by simp only [h0,decide_true,cond_true],by omega,by omega,λ _=>rfl,hc⟩
 ·by_cases h1:n≤256
  ·obtain ⟨x,c',e,b0,b1,k⟩:=Qd c hc
   have hz:¬ n=0:=by omega
   have:=Qia b0 (show 0<n by omega)
   exact ⟨Int.tmod x n,c',by simp only [h0,h1,hz,decide_true,decide_false,cond_true,cond_false,e,Option.bind_some],this.1,λ _=>this.2,λ h=>by omega,k⟩
  ·obtain ⟨x,c1,e1,b0,b1,k1⟩:=Qd c hc
   obtain ⟨y,c2,e2,b2,b3,k2⟩:=Qd c1 k1
   obtain ⟨z,c3,e3,b4,b5,k3⟩:=Qd c2 k2
   have hz:¬ n=0:=by omega
   have:=Qia (show 0≤x * 65536+y * 256+z by omega) (show 0<n by omega)
   refine ⟨Int.tmod (x * 65536+y * 256+z) n,c3,?_,this.1,λ _=>this.2,λ h=>by omega,k3⟩
   simp only [h0,h1,hz,decide_false,cond_false,e1,e2,e3,Option.bind_some]
   rw [w64 (n:=x * 65536) (by omega) (by omega),w64 (n:=y * 256) (by omega) (by omega),w64 (n:=x * 65536+y * 256) (by omega) (by omega),w64 (n:=x * 65536+y * 256+z) (by omega) (by omega)]
theorem Kka {α:Type} {l:List α} {i:Int} {d:α} (h0:0≤i) (h1:i<(l.length:Int)):l.getD i.toNat d∈l:=by
 have h:i.toNat<l.length:=by omega
 rw [List.getD_eq_getElem?_getD,List.getElem?_eq_getElem h]
 exact List.getElem_mem h
theorem Ke (c:Cur) (hc:Ck c) (l:List Int) (hl:0<l.length) (hm:l.length≤2000000):∃ x c',Ad c l=some (x,c')∧x∈l∧Ck c':=by
 obtain ⟨i,c',e,b0,b1,_,k⟩:=Am c hc (l.length:Int) (by omega)
 have b1:=b1 (by omega)
 refine ⟨l.getD i.toNat 0,c',?_,Kka b0 b1,k⟩
 unfold Ad
 simp only [e,Option.bind_some,b0,b1,decide_true,cond_true]
theorem Kla (c:Cur) (hc:Ck c) (l:List ByteArray) (hl:0<l.length) (hm:l.length≤2000000):∃ x c',J5 c l=some (x,c')∧x∈l∧Ck c':=by
 obtain ⟨i,c',e,b0,b1,_,k⟩:=Am c hc (l.length:Int) (by omega)
 have b1:=b1 (by omega)
 refine ⟨l.getD i.toNat (⟨#[]⟩:ByteArray),c',?_,Kka b0 b1,k⟩
 unfold J5
 simp only [e,Option.bind_some,b0,b1,decide_true,cond_true]
def Al (l:List Int):Prop:=∀ x∈l,0≤x∧x≤255
theorem F9a (m:Int) (hm:m≤1000):∀ (n:Nat) (l:List Int) (i:Int) (c:Cur),Ck c→0≤i→i≤max m 0→(max m 0) - i=n→(l.length:Int)=i→Al l→
  Tot (λ k=>Eu k m l i c.1 c.2.1 c.2.2) (λ r=>Ck r.2∧Al r.1∧(r.1.length:Int)=max m 0):=by
 intro n
 induction n with
 |zero=>
  intro l i c hc h0 h1 hn hl hb
  refine Tot.succ ?_
  simp only [Eu]
  refine Tot.ndec (by omega) (Tot.pure ⟨hc,hb,by show (l.length:Int)=_; omega⟩)
 |succ n ih=>
  intro l i c hc h0 h1 hn hl hb
  refine Tot.succ ?_
  simp only [Eu]
  refine Tot.dec (by omega) ?_
  obtain ⟨x,c',e,b0,b1,k⟩:=Qd c hc
  refine Tot.bind (Tot.of (Q:=λ r=>r=(x,c')) e rfl) ?_
  rintro r rfl
  refine Tot.ble (by simp only [List.length_cons,List.length_nil]; omega) ?_
  rw [w64 (n:=i+1) (by omega) (by omega)]
  refine ih _ _ c' k (by omega) (by omega) (by omega) (by simp only [List.length_append,List.length_cons,List.length_nil]; omega) ?_
  intro y hy
  rcases List.mem_append.1 hy with hy|hy
  ·exact hb y hy
  ·simp only [List.mem_singleton] at hy
   subst hy
   exact F7a _
theorem B9a (c:Cur) (hc:Ck c):Tot (λ k=>Dc k c) (λ r=>Ck r.2∧Al r.1∧(r.1.length:Int)≤9):=by
 unfold Dc
 obtain ⟨x,c',e,hx,k⟩:=Ke c hc [0,1,2,5,9] (by decide) (by decide)
 have hx':0≤x∧x≤9:=by
  simp only [List.mem_cons,List.not_mem_nil,or_false] at hx
  omega
 refine Tot.bind (Tot.of (Q:=λ r=>r=(x,c')) e rfl) ?_
 rintro r rfl
 refine Tot.bind (Q:=λ r=>Ck r.2∧Al r.1∧(r.1.length:Int)≤9) ?_ (λ r hr=>Tot.pure hr)
 unfold Ev
 refine Tot.bind (F9a x (by omega) (max x 0 - 0).toNat [] 0 c' k (by omega) (by omega) (by omega) rfl (by intro y hy; simp at hy)) (λ r hr=>Tot.pure ?_)
 exact ⟨hr.1,hr.2.1,by show (r.1.length:Int)≤9; rw [hr.2.2]; omega⟩
theorem Nk (c:Cur) (hc:Ck c) (n:Int) (hn:n≤1000000000):∃ x c',C2 c n=some (x,c')∧Ck c':=by
 obtain ⟨x,c',e,_,_,_,k⟩:=Am c hc n hn
 exact ⟨x==0,c',by unfold C2; simp only [e,Option.bind_some],k⟩
abbrev Stp:=Int×Int×Int
abbrev Row:=ByteArray×Stp×Bool×Int
abbrev Fil:=Stp×Bool×List Int
def I3a (s:Stp):Prop:=0≤s.1∧s.1≤1000000000∧0≤s.2.1∧s.2.1≤1000000∧0≤s.2.2∧s.2.2≤20
def Nc:List ByteArray:=[(⟨#[97]⟩:ByteArray),(⟨#[98]⟩:ByteArray),(⟨#[99,97,116,47,49]⟩:ByteArray),(⟨#[99,97,116,47,50]⟩:ByteArray),(⟨#[100,111,103]⟩:ByteArray),(⟨#[120,45,49]⟩:ByteArray)]
theorem Nl (c:Cur) (hc:Ck c):∃ x c',Bn c=some (x,c')∧x∈Nc∧Ck c':=by
 obtain ⟨x,c',e,hx,k⟩:=Kla c hc Nc (by decide) (by decide)
 exact ⟨x,c',by unfold Bn; unfold Nc at e; simp only [e,Option.bind_some],hx,k⟩
theorem Faa (c:Cur) (hc:Ck c):∃ x c',Hs c=some (x,c')∧I3a x∧Ck c':=by
 obtain ⟨x,c1,e1,hx,k1⟩:=Ke c hc [0,1,2,3,1000000000] (by decide) (by decide)
 obtain ⟨y,c2,e2,y0,y1,_,k2⟩:=Am c1 k1 3 (by decide)
 obtain ⟨z,c3,e3,z0,z1,_,k3⟩:=Am c2 k2 3 (by decide)
 have y1:=y1 (by decide)
 have z1:=z1 (by decide)
 simp only [List.mem_cons,List.not_mem_nil,or_false] at hx
 exact ⟨(x,y,z),c3,by unfold Hs; simp only [e1,e2,e3,Option.bind_some],⟨by show 0≤x; omega,by show x≤_; omega,y0,by show y≤_; omega,z0,by show z≤_; omega⟩,k3⟩
def Woa (f:Fil):Prop:=I3a f.1∧Al f.2.2∧(f.2.2.length:Int)≤9∧(f.2.1=true→f.2.2=[])
theorem Ox (c:Cur) (hc:Ck c):Tot (λ k=>C3 k c) (λ r=>Woa r.1∧Ck r.2):=by
 unfold C3
 obtain ⟨s,c1,e1,hs,k1⟩:=Faa c hc
 obtain ⟨b,c2,e2,k2⟩:=Nk c1 k1 4 (by decide)
 refine Tot.bind (Tot.of (Q:=λ r=>r=(s,c1)) e1 rfl) ?_
 rintro r rfl
 refine Tot.bind (Tot.of (Q:=λ r=>r=(b,c2)) e2 rfl) ?_
 rintro r rfl
 refine Tot.ite (λ hb=>?_) (λ hb=>Tot.pure ⟨⟨hs,by intro y hy; simp at hy,by show ((([]:List Int).length:Nat):Int)≤9; decide,λ _=>rfl⟩,k2⟩)
 refine Tot.bind (B9a c2 k2) (λ r hr=>Tot.pure ⟨⟨hs,hr.2.1,hr.2.2,λ h=>?_⟩,hr.1⟩)
 simp only [Bool.not_eq_true'] at hb
 have h':b=true:=h
 rw [hb] at h'
 cases h'
def Yua (x:Row):Prop:=x.1∈Nc∧I3a x.2.1∧0≤x.2.2.2∧x.2.2.2≤9∧(x.2.2.1=true→x.2.2.2=0)
theorem Baa (c:Cur) (hc:Ck c):Tot (λ k=>Hu k c) (λ r=>Yua r.1∧Ck r.2):=by
 unfold Hu
 obtain ⟨s,c1,e1,hs,k1⟩:=Nl c hc
 refine Tot.bind (Tot.of (Q:=λ r=>r=(s,c1)) e1 rfl) ?_
 rintro r rfl
 refine Tot.bind (Ox c1 k1) (λ r hr=>?_)
 obtain ⟨⟨h1,h2,h3,h4⟩,k2⟩:=hr
 unfold I5
 refine Tot.bind (Tot.pure (Q:=λ y=>y=(s,r.1.1,r.1.2.1,(r.1.2.2.length:Int))) rfl) ?_
 rintro y rfl
 refine Tot.pure ⟨⟨hs,h1,by show (0:Int)≤(r.1.2.2.length:Int); omega,h3,λ h=>?_⟩,k2⟩
 show (r.1.2.2.length:Int)=0
 rw [h4 h]
 rfl

theorem Fba:∀ (a:List UInt8),Op.bytesLess a a=false
 |[]=>rfl
 |a::l=>by simp [Op.bytesLess,Fba l]
theorem Kma:∀ (a b c:List UInt8),Op.bytesLess a b=true→Op.bytesLess b c=true→Op.bytesLess a c=true
 |_,[],_,h,_=>by simp [Op.bytesLess] at h
 |_,_::_,[],_,h=>by simp [Op.bytesLess] at h
 |[],_::_,_::_,_,_=>rfl
 |a::x,b::y,c::z,h1,h2=>by
  simp only [Op.bytesLess,Bool.or_eq_true,Bool.and_eq_true,decide_eq_true_eq,beq_iff_eq] at h1 h2 ⊢
  rcases h1 with h1|⟨rfl,h1⟩
  ·rcases h2 with h2|⟨rfl,h2⟩
   ·exact .inl (UInt8.lt_trans h1 h2)
   ·exact .inl h1
  ·rcases h2 with h2|⟨rfl,h2⟩
   ·exact .inl h2
   ·exact .inr ⟨rfl,Kma x y z h1 h2⟩
theorem Wpa:∀ (a b:List UInt8),Op.bytesLess a b=false→Op.bytesLess b a=false→a=b
 |[],[],_,_=>rfl
 |[],_::_,h,_=>by simp [Op.bytesLess] at h
 |_::_,[],_,h=>by simp [Op.bytesLess] at h
 |a::x,b::y,h1,h2=>by
  simp only [Op.bytesLess,Bool.or_eq_false_iff,Bool.and_eq_false_iff,decide_eq_false_iff_not] at h1 h2
  have hab:a=b:=by
   have h3:=UInt8.not_lt.1 h1.1
   have h4:=UInt8.not_lt.1 h2.1
   exact UInt8.le_antisymm h4 h3
  subst hab
  rw [Wpa x y (h1.2.resolve_left (by simp)) (h2.2.resolve_left (by simp))]
def tlt (a b:ByteArray):Bool:=Op.bytesLess a.toList b.toList
def teq (a b:ByteArray):Bool:=a.toList==b.toList
theorem Bba {a b:ByteArray} (h:a.toList=b.toList):a=b:=by
 rw [ByteArray.toList_eq,ByteArray.toList_eq] at h
 obtain ⟨⟨x⟩⟩:=a
 obtain ⟨⟨y⟩⟩:=b
 simp only at h
 rw [h]
theorem Ja {a b:ByteArray}:teq a b=true↔a=b:=by
 unfold teq
 rw [beq_iff_eq]
 exact ⟨Bba,λ h=>by rw [h]⟩
theorem Km (a:ByteArray):tlt a a=false:=Fba _
theorem M9 {a b c:ByteArray} (h:tlt a b=true) (h':tlt b c=true):tlt a c=true:=Kma _ _ _ h h'
theorem Xo {a b:ByteArray} (h:tlt a b=false) (h':tlt b a=false):a=b:=Bba (Wpa _ _ h h')
theorem Xp {a b:ByteArray} (h:tlt a b=true):tlt b a=false:=by
 cases hb:tlt b a with
 |false=>rfl
 |true=>
  have:=M9 h hb
  rw [Km] at this
  cases this
theorem Kna (a b:ByteArray):(!(Op.bytesLess a.toList b.toList || a.toList==b.toList))=tlt b a:=by
 show (!(tlt a b || teq a b))=tlt b a
 cases h1:tlt a b with
 |true=>rw [Xp h1]; rfl
 |false=>
  cases h2:teq a b with
  |true=>rw [Ja.1 h2,Km]; rfl
  |false=>
   cases h3:tlt b a with
   |true=>rfl
   |false=>
    exfalso
    have:=Xo h1 h3
    rw [Ja.2 this] at h2
    cases h2
def sle (a b:Stp):Bool:=cond (a.1 != b.1) (decide (a.1<b.1)) (cond (a.2.1 != b.2.1) (decide (a.2.1<b.2.1)) (decide (a.2.2<b.2.2)))
theorem Cva (a b:Stp):Bv a b=some (sle a b):=by
 unfold Bv sle
 cases a.1 != b.1<;>cases a.2.1 != b.2.1<;>rfl
theorem Koa (a b:Stp):Dp a b=some (sle a b):=by
 unfold Dp sle
 cases a.1 != b.1<;>cases a.2.1 != b.2.1<;>rfl
theorem Qe {a b:Stp}:sle a b=true↔a.1<b.1∨(a.1=b.1∧(a.2.1<b.2.1∨(a.2.1=b.2.1∧a.2.2<b.2.2))):=by
 unfold sle
 by_cases h1:a.1=b.1
 ·by_cases h2:a.2.1=b.2.1
  ·simp [h1,h2]
  ·have:(a.2.1 != b.2.1)=true:=by simpa using h2
   simp [h1,this,h2]
 ·have:(a.1 != b.1)=true:=by simpa using h1
  simp [this,h1]
def Aca (a b:Row):Bool:=cond (!((a.2.1.1==b.2.1.1)&&((a.2.1.2.1==b.2.1.2.1)&&(a.2.1.2.2==b.2.1.2.2)))) (sle a.2.1 b.2.1) (cond (!(a.2.2.1==b.2.2.1)) b.2.2.1 (decide (a.2.2.2<b.2.2.2)))
theorem I4a (a b:Row):Iw a b=some (Aca a b):=by
 unfold Iw Aca
 rw [Cva]
 cases (!((a.2.1.1==b.2.1.1)&&((a.2.1.2.1==b.2.1.2.1)&&(a.2.1.2.2==b.2.1.2.2))))<;>cases (!(a.2.2.1==b.2.2.1))<;>rfl
def Md:Row:=((⟨#[]⟩:ByteArray),(((0:Int),((0:Int),(0:Int))),(false,(0:Int))))
def Xq (s:ByteArray):List Row→Nat→Option Nat
 |[],_=>none
 |r::l,i=>bif teq r.1 s then some i else Xq s l (i+1)
def Cwa (l:List Row) (s:ByteArray):Nat→Nat
 |0=>0
 |k+1=>bif tlt s (l.getD k Md).1 then Cwa l s k else k+1
def mrg (l:List Row) (x:Row):List Row:=match Xq x.1 l 0 with
 |some i=>bif Aca (l.getD i Md) x then l.set i x else l
 |none=>l.take (Cwa l x.1 l.length)++x::l.drop (Cwa l x.1 l.length)
theorem Cxa (l:List Row) (s:ByteArray):∀ k,Cwa l s k≤k
 |0=>Nat.le_refl _
 |k+1=>by
  unfold Cwa
  cases tlt s (l.getD k Md).1 with
  |true=>have:=Cxa l s k; simp only [cond_true]; omega
  |false=>simp only [cond_false]; omega
theorem Bca {s:ByteArray}:∀ (l:List Row) (i j:Nat),Xq s l i=some j→i≤j∧j<i+l.length∧teq (l.getD (j - i) Md).1 s=true
 |[],i,j,h=>by simp [Xq] at h
 |r::l,i,j,h=>by
  unfold Xq at h
  cases ht:teq r.1 s with
  |true=>
   rw [ht] at h
   simp only [cond_true,Option.some.injEq] at h
   subst h
   refine ⟨Nat.le_refl _,by simp,?_⟩
   rw [Nat.sub_self]
   exact ht
  |false=>
   rw [ht] at h
   simp only [cond_false] at h
   obtain ⟨h1,h2,h3⟩:=Bca l (i+1) j h
   refine ⟨by omega,by simp only [List.length_cons]; omega,?_⟩
   rw [show j - i=(j - (i+1))+1 by omega]
   exact h3
theorem An {α:Type} {l:List α} {i:Nat} {d:α} (h:i<l.length):l.drop i=l.getD i d::l.drop (i+1):=by
 rw [List.drop_eq_getElem_cons h,List.getD_eq_getElem?_getD,List.getElem?_eq_getElem h]
 rfl
def Few (l:List Row):Prop:=l.length≤1000000000000
theorem Fca (x:Row):∀ (n:Nat) (l:List Row) (i:Nat),l.length - i=n→i≤l.length→Few l→
  Tot (λ k=>E4 k l (i:Int) x.1 x.2.1.1 x.2.1.2.1 x.2.1.2.2 x.2.2.1 x.2.2.2) (λ r=>r=match Xq x.1 (l.drop i) i with
   |some j => .inl (bif Aca (l.getD j Md) x then l.set j x else l)
   |none => .inr (l,x.1,x.2.1.1,x.2.1.2.1,x.2.1.2.2,x.2.2.1,x.2.2.2)):=by
 intro n
 induction n with
 |zero=>
  intro l i hn hi hf
  unfold Few at hf
  refine Tot.succ ?_
  simp only [E4]
  refine Tot.ndec (by omega) (Tot.pure ?_)
  rw [List.drop_of_length_le (by omega)]
  rfl
 |succ n ih=>
  intro l i hn hi hf
  have hf':=hf
  unfold Few at hf
  have hlt:i<l.length:=by omega
  refine Tot.succ ?_
  simp only [E4]
  refine Tot.dec (by omega) (Tot.dec (by omega) (Tot.dec (by omega) ?_))
  have e0:Int.toNat (i:Int)=i:=Int.toNat_natCast i
  rw [e0,An (d:=Md) hlt]
  refine Tot.ite (λ ht=>?_) (λ ht=>?_)
  ·have ht':teq (l.getD i Md).1 x.1=true:=ht
   refine Tot.dec (by omega) (Tot.dec (by omega) ?_)
   refine Tot.bind (Tot.of (Q:=λ r=>r=Aca (l.getD i Md) x) (I4a _ _) rfl) ?_
   rintro b rfl
   simp only [Xq,ht',cond_true]
   cases hb:Aca (l.getD i Md) x with
   |true=>exact Tot.yes rfl (Tot.dec (by omega) (Tot.dec (by omega) (Tot.pure rfl)))
   |false=>exact Tot.no rfl (Tot.pure rfl)
  ·have ht':teq (l.getD i Md).1 x.1=false:=ht
   simp only [Xq,ht',cond_false]
   rw [w64 (n:=(i:Int)+1) (by omega) (by omega)]
   exact ih l (i+1) (by omega) (by omega) hf'
theorem Cya (x:Row) (l:List Row) (hf:Few l):∀ (i:Nat) (y:Row),i≤l.length→
  Tot (λ k=>Dh k (l.take i++y::l.drop i) (i:Int) x.1 x.2.1.1 x.2.1.2.1 x.2.1.2.2 x.2.2.1 x.2.2.2)
   (λ r=>∃ y',r=(l.take (Cwa l x.1 i)++y'::l.drop (Cwa l x.1 i),(Cwa l x.1 i:Int),x.1,x.2.1.1,x.2.1.2.1,x.2.1.2.2,x.2.2.1,x.2.2.2)):=by
 unfold Few at hf
 intro i
 induction i with
 |zero=>
  intro y hi
  refine Tot.succ ?_
  simp only [Dh]
  exact Tot.ndec (by omega) (Tot.pure ⟨y,rfl⟩)
 |succ i ih=>
  intro y hi
  refine Tot.succ ?_
  simp only [Dh]
  have hlen:(l.take (i+1)++y::l.drop (i+1)).length=l.length+1:=by simp only [List.length_append,List.length_take,List.length_cons,List.length_drop]; omega
  have hget:∀ z,(l.take (i+1)++y::l.drop (i+1)).getD i z=l.getD i z:=by
   intro z
   rw [List.getD_eq_getElem?_getD,List.getD_eq_getElem?_getD,List.getElem?_append_left (by rw [List.length_take]; omega),List.getElem?_take_of_lt (by omega)]
  rw [w64 (n:=((i+1:Nat):Int) - 1) (by omega) (by omega),show ((i+1:Nat):Int) - 1=(i:Int) by omega,show Int.toNat (i:Int)=i from Int.toNat_natCast i,show Int.toNat ((i+1:Nat):Int)=i+1 from Int.toNat_natCast _,hget,hlen]
  refine Tot.dec (by omega) (Tot.dec (by omega) (Tot.dec (by omega) ?_))
  have e:∀ z,(!(Op.bytesLess (l.getD i z).1.toList x.1.toList || (l.getD i z).1.toList==x.1.toList))=tlt x.1 (l.getD i z).1:=λ z=>Kna _ _
  rw [e]
  have hc:Cwa l x.1 (i+1)=bif tlt x.1 (l.getD i Md).1 then Cwa l x.1 i else i+1:=rfl
  refine Tot.ite (λ ht=>?_) (λ ht=>?_)
  ·have ht':tlt x.1 (l.getD i Md).1=true:=ht
   rw [hc,ht',cond_true]
   refine Tot.dec (by omega) (Tot.dec (by omega) (Tot.dec (by omega) (Tot.dec (by omega) ?_)))
   have hset:(l.take (i+1)++y::l.drop (i+1)).set (i+1) (l.getD i ((⟨#[]⟩:ByteArray),(((0:Int),((0:Int),(0:Int))),(false,(0:Int)))))=l.take i++l.getD i Md::l.drop i:=by
    rw [List.set_append,if_neg (by rw [List.length_take]; omega),List.length_take,Nat.min_eq_left hi,Nat.sub_self,List.set_cons_zero,An (d:=Md) (show i<l.length by omega)]
    rw [List.take_add_one,List.getElem?_eq_getElem (show i<l.length by omega)]
    simp only [Option.toList_some,List.append_assoc,List.singleton_append]
    rw [List.getD_eq_getElem?_getD,List.getD_eq_getElem?_getD,List.getElem?_eq_getElem (show i<l.length by omega)]
    rfl
   rw [hset]
   exact ih _ (by omega)
  ·have ht':tlt x.1 (l.getD i Md).1=false:=ht
   rw [hc,ht',cond_false]
   exact Tot.pure ⟨y,rfl⟩
theorem Fda (l:List Row) (x:Row) (hf:Few l):Tot (λ k=>Bj k l x) (λ r=>r=mrg l x):=by
 have hf':=hf
 unfold Few at hf
 unfold Bj
 refine Tot.ble (by simp only [List.length_nil]; omega) ?_
 rw [List.nil_append]
 refine Tot.bind (Fca x _ l 0 rfl (Nat.zero_le _) hf') ?_
 rintro y rfl
 rw [List.drop_zero]
 unfold mrg
 cases hfi:Xq x.1 l 0 with
 |some j=>exact Tot.pure rfl
 |none=>
  simp only [Sum.elim_inr]
  refine Tot.ble (by simp only [List.length_cons,List.length_nil]; omega) ?_
  have h0:=Cya x l hf' l.length x (Nat.le_refl _)
  rw [List.take_length,List.drop_length] at h0
  refine Tot.bind h0 ?_
  rintro z ⟨y',rfl⟩
  have hc:=Cxa l x.1 l.length
  have hlen:(l.take (Cwa l x.1 l.length)++y'::l.drop (Cwa l x.1 l.length)).length=l.length+1:=by simp only [List.length_append,List.length_take,List.length_cons,List.length_drop]; omega
  simp only
  rw [show Int.toNat ((Cwa l x.1 l.length:Nat):Int)=Cwa l x.1 l.length from Int.toNat_natCast _,hlen]
  refine Tot.dec (by omega) (Tot.dec (by omega) (Tot.pure ?_))
  rw [List.set_append,if_neg (by rw [List.length_take]; omega),List.length_take,Nat.min_eq_left hc,Nat.sub_self,List.set_cons_zero]

theorem Cza (a b:ByteArray):(a==b)=teq a b:=beq_toListBytes a b
theorem Bda {s:ByteArray}:∀ (l:List Row) (i:Nat),Xq s l i=none→∀ r∈l,r.1≠s
 |[],_,_,r,hr=>by simp at hr
 |a::l,i,h,r,hr=>by
  unfold Xq at h
  cases ht:teq a.1 s with
  |true=>rw [ht] at h; simp at h
  |false=>
   rw [ht] at h
   rcases List.mem_cons.1 hr with rfl|hr
   ·intro e
    rw [Ja.2 e] at ht
    cases ht
   ·exact Bda l (i+1) h r hr
theorem Qja (l:List Row) (x:Row):l.length≤(mrg l x).length∧(mrg l x).length≤l.length+1:=by
 unfold mrg
 have hc:=Cxa l x.1 l.length
 split
 ·cases Aca (l.getD _ Md) x<;>simp
 ·simp only [List.length_append,List.length_take,List.length_cons,List.length_drop]
  omega
theorem Qka {l:List Row} {x r:Row} (h:r∈mrg l x):r=x∨r∈l:=by
 unfold mrg at h
 split at h
 ·rename_i j hj
  cases hb:Aca (l.getD j Md) x with
  |false=>rw [hb] at h; exact .inr h
  |true=>
   rw [hb,cond_true] at h
   rcases List.mem_or_eq_of_mem_set h with h|h
   ·exact .inr h
   ·exact .inl h
 ·rcases List.mem_append.1 h with h|h
  ·exact .inr (List.mem_of_mem_take h)
  ·rcases List.mem_cons.1 h with h|h
   ·exact .inl h
   ·exact .inr (List.mem_of_mem_drop h)
theorem Nd (a:Stp):sle a a=false:=by
 cases h:sle a a with
 |false=>rfl
 |true=>rw [Qe] at h; omega
def Ji (l:List Row):Prop:=l.Pairwise (λ a b=>tlt a.1 b.1=true)
theorem Fea {l:List Row} {s:ByteArray} (hs:Ji l) (hn:∀ r∈l,r.1≠s):∀ k,k≤l.length→(∀ i,i<Cwa l s k→tlt (l.getD i Md).1 s=true)∧(∀ i,Cwa l s k≤i→i<k→tlt s (l.getD i Md).1=true)
 |0,_=>⟨λ i hi=>by simp [Cwa] at hi,λ i _ hi=>by omega⟩
 |k+1,hk=>by
  unfold Cwa
  cases ht:tlt s (l.getD k Md).1 with
  |true=>
   simp only [cond_true]
   obtain ⟨h1,h2⟩:=Fea hs hn k (by omega)
   refine ⟨h1,λ i hi hik=>?_⟩
   by_cases e:i=k
   ·subst e; exact ht
   ·exact h2 i hi (by omega)
  |false=>
   simp only [cond_false]
   refine ⟨λ i hi=>?_,λ i hi hik=>by omega⟩
   have hget:∀ j (hj:j<l.length),l.getD j Md=l[j]:=λ j hj=>by rw [List.getD_eq_getElem?_getD,List.getElem?_eq_getElem hj]; rfl
   have hkl:k<l.length:=by omega
   have hks:tlt (l.getD k Md).1 s=true:=by
    cases h:tlt (l.getD k Md).1 s with
    |true=>rfl
    |false=>
     exfalso
     exact hn (l.getD k Md) (by rw [hget k hkl]; exact List.getElem_mem hkl) (Xo h ht)
   by_cases e:i=k
   ·subst e; exact hks
   ·have h3:=(List.pairwise_iff_getElem.1 hs) i k (by omega) hkl (by omega)
    rw [hget i (by omega)]
    rw [hget k hkl] at hks
    exact M9 h3 hks
theorem Bea {l:List Row} {x:Row} (hs:Ji l):Ji (mrg l x):=by
 have hget:∀ j (hj:j<l.length),l.getD j Md=l[j]:=λ j hj=>by rw [List.getD_eq_getElem?_getD,List.getElem?_eq_getElem hj]; rfl
 unfold mrg
 split
 ·rename_i j hj
  obtain ⟨_,h2,h3⟩:=Bca l 0 j hj
  rw [Nat.sub_zero] at h3
  have hjl:j<l.length:=by omega
  have hname:l[j].1=x.1:=by rw [← hget j hjl]; exact Ja.1 h3
  cases hb:Aca (l.getD j Md) x with
  |false=>exact hs
  |true=>
   rw [cond_true]
   unfold Ji
   rw [List.pairwise_iff_getElem]
   intro a b ha hb hab
   rw [List.length_set] at ha hb
   have:=(List.pairwise_iff_getElem.1 hs) a b ha hb hab
   rw [List.getElem_set,List.getElem_set]
   by_cases e1:j=a
   ·subst e1
    rw [if_pos rfl,if_neg (by omega),← hname]
    exact this
   ·rw [if_neg e1]
    by_cases e2:j=b
    ·subst e2
     rw [if_pos rfl,← hname]
     exact this
    ·rw [if_neg e2]
     exact this
 ·rename_i hj
  have hn:=Bda l 0 hj
  obtain ⟨c1,c2⟩:=Fea hs hn l.length (Nat.le_refl _)
  have hc:=Cxa l x.1 l.length
  unfold Ji
  rw [List.pairwise_append,List.pairwise_cons]
  refine ⟨List.Pairwise.sublist (List.take_sublist _ _) hs,⟨λ r hr=>?_,List.Pairwise.sublist (List.drop_sublist _ _) hs⟩,λ r hr q hq=>?_⟩
  ·obtain ⟨i,hi,rfl⟩:=List.getElem_of_mem hr
   rw [List.length_drop] at hi
   rw [List.getElem_drop,← hget _ (by omega)]
   exact c2 _ (by omega) (by omega)
  ·obtain ⟨i,hi,rfl⟩:=List.getElem_of_mem hr
   rw [List.length_take] at hi
   have h1:tlt (List.take (Cwa l x.1 l.length) l)[i].1 x.1=true:=by
    rw [List.getElem_take,← hget _ (by omega)]
    exact c1 i (by omega)
   rcases List.mem_cons.1 hq with rfl|hq
   ·exact h1
   ·refine M9 h1 ?_
    obtain ⟨m,hm,rfl⟩:=List.getElem_of_mem hq
    rw [List.length_drop] at hm
    rw [List.getElem_drop,← hget _ (by omega)]
    exact c2 _ (by omega) (by omega)
def Kpa (l:List Row):Prop:=Ji l∧(∀ r∈l,Yua r)
theorem Ffa:∀ (n:Nat) (l:List Row) (i:Int) (c:Cur),Ck c→0≤i→i=n→Kpa l→l.length+n≤5→
  Tot (λ k=>F8 k l i c.1 c.2.1 c.2.2) (λ r=>Ck r.2∧Kpa r.1∧r.1.length≤5):=by
 intro n
 induction n with
 |zero=>
  intro l i c hc h0 hi hr hl
  refine Tot.succ ?_
  simp only [F8]
  exact Tot.ndec (by omega) (Tot.pure ⟨hc,hr,by show l.length≤5; omega⟩)
 |succ n ih=>
  intro l i c hc h0 hi hr hl
  refine Tot.succ ?_
  simp only [F8]
  refine Tot.dec (by omega) ?_
  refine Tot.bind (Baa c hc) (λ r h=>?_)
  refine Tot.bind (Fda l r.1 (by unfold Few; omega)) ?_
  rintro m rfl
  rw [w64 (n:=i - 1) (by omega) (by omega)]
  refine ih _ _ r.2 h.2 (by omega) (by omega) ⟨Bea hr.1,λ y hy=>?_⟩ (by have:=(Qja l r.1).2; omega)
  rcases Qka hy with rfl|hy
  ·exact h.1
  ·exact hr.2 y hy
theorem Xr (c:Cur) (hc:Ck c):Tot (λ k=>Cp k c) (λ r=>Ck r.2∧Kpa r.1∧r.1.length≤5):=by
 unfold Cp
 obtain ⟨x,c',e,x0,x1,_,k⟩:=Am c hc 6 (by decide)
 have x1:=x1 (by decide)
 refine Tot.bind (Tot.of (Q:=λ r=>r=(x,c')) e rfl) ?_
 rintro r rfl
 refine Tot.bind (Ffa x.toNat [] x c' k x0 (by omega) ⟨List.Pairwise.nil,by simp⟩ (by simp only [List.length_nil]; omega)) (λ r hr=>Tot.pure hr)

def inR (n lo hi:Int):Bool:=decide (n≥lo)&&decide (n≤hi)
theorem Ug (n lo hi:Int):Fe n lo hi=some (inR n lo hi):=by
 unfold Fe inR
 cases decide (n≥lo)<;>rfl
theorem N6 (n lo hi:Int):A8 n lo hi=some (inR n lo hi):=by
 unfold A8 inR
 cases decide (n≥lo)<;>rfl
theorem Dz {n lo hi:Int}:inR n lo hi=true↔lo≤n∧n≤hi:=by
 unfold inR
 simp
def Sy (c:Int):Bool:=inR c 97 122 || (inR c 48 57 || (!(c != 45) || (!(c != 95) || !(c != 47))))
def Jv (s:ByteArray):Prop:=s.size≤4611686018427387904
theorem Ph (s:ByteArray):s.data.toList.length=s.size:=Array.length_toList
theorem Xt (s:ByteArray) (i:Int):0≤bt s i∧bt s i≤255:=by
 unfold bt
 have:=(s.data.toList.getD i.toNat 0).toNat_lt
 omega
theorem Bfb (s:ByteArray) (i:Nat) (h:i<s.size):bt s (i:Int)=((s.data.toList[i]'(by rw [Ph]; exact h)).toNat:Int):=by
 unfold bt
 rw [Int.toNat_natCast,List.getD_eq_getElem?_getD,List.getElem?_eq_getElem (by rw [Ph]; exact h)]
 rfl
def bOk (b:UInt8):Bool:=Sy (b.toNat:Int)
theorem I5a (s:ByteArray) (hs:Jv s):∀ (n i:Nat),s.size - i=n→i≤s.size→
  Tot (λ k=>Aj k s (i:Int)) (λ r=>r=bif (s.data.toList.drop i).all bOk then .inr s else .inl false):=by
 unfold Jv at hs
 have hsz:=Ph s
 intro n
 induction n with
 |zero=>
  intro i hn hi
  refine Tot.succ ?_
  simp only [Aj]
  refine Tot.ndec (by omega) (Tot.pure ?_)
  rw [List.drop_of_length_le (by omega)]
  rfl
 |succ n ih=>
  intro i hn hi
  have hlt:i<s.size:=by omega
  refine Tot.succ ?_
  simp only [Aj]
  refine Tot.dec (by omega) (Tot.dec (by omega) (Tot.dec (by omega) ?_))
  rw [w64 (n:=(i:Int)+1) (by omega) (by omega)]
  have hb:bOk (s.data.toList[i]'(by omega))=Sy (bt s (i:Int)):=by rw [Bfb s i hlt]; rfl
  rw [List.drop_eq_getElem_cons (by omega),List.all_cons,hb]
  generalize bt s (i:Int)=c
  have h1:=ih (i+1) (by omega) (by omega)
  have e:(((i+1:Nat)):Int)=(i:Int)+1:=by omega
  rw [e] at h1
  cases hc:Sy c with
  |true=>
   rw [Bool.true_and]
   refine h1.mono (λ r hr=>hr) |> λ h=>?_
   obtain ⟨r,K,h2,h3⟩:=h
   refine ⟨r,K,λ k hk=>?_,h3⟩
   rw [← h2 k hk]
   unfold Sy inR at hc
   revert hc
   cases decide (c≥97)<;>cases decide (c≤122)<;>cases decide (c≥48)<;>cases decide (c≤57)<;>cases (c != 45)<;>cases (c != 95)<;>cases (c != 47)<;>first|(intro _; rfl)|(intro hc; cases hc)
  |false=>
   rw [Bool.false_and]
   refine ⟨.inl false,0,λ k _=>?_,rfl⟩
   unfold Sy inR at hc
   revert hc
   cases decide (c≥97)<;>cases decide (c≤122)<;>cases decide (c≥48)<;>cases decide (c≤57)<;>cases (c != 45)<;>cases (c != 95)<;>cases (c != 47)<;>first|(intro _; rfl)|(intro hc; cases hc)
theorem I6a (s:ByteArray) (hs:Jv s):∀ (n i:Nat),s.size - i=n→i≤s.size→
  Tot (λ k=>Ct k s (i:Int)) (λ r=>r=bif (s.data.toList.drop i).all bOk then .inr s else .inl false):=by
 unfold Jv at hs
 have hsz:=Ph s
 intro n
 induction n with
 |zero=>
  intro i hn hi
  refine Tot.succ ?_
  simp only [Ct]
  refine Tot.ndec (by omega) (Tot.pure ?_)
  rw [List.drop_of_length_le (by omega)]
  rfl
 |succ n ih=>
  intro i hn hi
  have hlt:i<s.size:=by omega
  have hbb:=Xt s (i:Int)
  refine Tot.succ ?_
  simp only [Ct]
  refine Tot.dec (by omega) (Tot.dec (by omega) (Tot.dec (by omega) ?_))
  rw [w64 (n:=(i:Int)+1) (by omega) (by omega),w64 (n:=bt s (i:Int)) (by omega) (by omega)]
  have hb:bOk (s.data.toList[i]'(by omega))=Sy (bt s (i:Int)):=by rw [Bfb s i hlt]; rfl
  rw [List.drop_eq_getElem_cons (by omega),List.all_cons,hb]
  generalize bt s (i:Int)=c
  have h1:=ih (i+1) (by omega) (by omega)
  have e:(((i+1:Nat)):Int)=(i:Int)+1:=by omega
  rw [e] at h1
  simp only [N6,Option.bind_some]
  cases hc:Sy c with
  |true=>
   rw [Bool.true_and]
   obtain ⟨r,K,h2,h3⟩:=h1
   refine ⟨r,K,λ k hk=>?_,h3⟩
   rw [← h2 k hk]
   unfold Sy at hc
   revert hc
   cases inR c 97 122<;>cases inR c 48 57<;>cases (c != 45)<;>cases (c != 95)<;>cases (c != 47)<;>first|(intro _; rfl)|(intro hc; cases hc)
  |false=>
   rw [Bool.false_and]
   refine ⟨.inl false,0,λ k _=>?_,rfl⟩
   unfold Sy at hc
   revert hc
   cases inR c 97 122<;>cases inR c 48 57<;>cases (c != 45)<;>cases (c != 95)<;>cases (c != 47)<;>first|(intro _; rfl)|(intro hc; cases hc)
def B1 (s:ByteArray):Bool:=s.data.toList.all bOk&&inR (s.size:Int) 1 20
theorem Sz (s:ByteArray) (hs:Jv s):Tot (λ k=>B4 k s) (λ r=>r=B1 s):=by
 unfold B4 B1
 refine Tot.bind (I5a s hs _ 0 rfl (Nat.zero_le _)) ?_
 rintro r rfl
 rw [List.drop_zero]
 cases s.data.toList.all bOk with
 |true=>exact Tot.of (a:=inR (s.size:Int) 1 20) (by simp only [cond_true,Sum.elim_inr,Ug,Option.bind_some]) (by rw [Bool.true_and])
 |false=>exact Tot.pure rfl
theorem Na (s:ByteArray) (hs:Jv s):Tot (λ k=>Ae k s) (λ r=>r=B1 s):=by
 unfold Ae B1
 refine Tot.bind (I6a s hs _ 0 rfl (Nat.zero_le _)) ?_
 rintro r rfl
 rw [List.drop_zero]
 cases s.data.toList.all bOk with
 |true=>exact Tot.of (a:=inR (s.size:Int) 1 20) (by simp only [cond_true,Sum.elim_inr,N6,Option.bind_some]) (by rw [Bool.true_and])
 |false=>exact Tot.pure rfl
def Ft (s:Stp):Bool:=inR s.1 0 1000000000&&(inR s.2.1 0 1000000&&inR s.2.2 0 20)
theorem Xu (s:Stp):Ds s=some (Ft s):=by
 unfold Ds Ft
 simp only [Ug,Option.bind_some]
 cases inR s.1 0 1000000000<;>cases inR s.2.1 0 1000000<;>rfl
theorem Qf (s:Stp):Bu s=some (Ft s):=by
 unfold Bu Ft
 simp only [N6,Option.bind_some]
 cases inR s.1 0 1000000000<;>cases inR s.2.1 0 1000000<;>rfl
def Ma (x:Row):Bool:=B1 x.1&&(Ft x.2.1&&(inR x.2.2.2 0 200&&(!x.2.2.1 || x.2.2.2==0)))
theorem Qla (x:Row) (hs:Jv x.1):Tot (λ k=>J8 k x) (λ r=>r=Ma x):=by
 unfold J8 Ma
 refine Tot.bind (Sz x.1 hs) ?_
 rintro r rfl
 cases B1 x.1 with
 |false=>exact Tot.pure rfl
 |true=>
  refine Tot.of (a:=Ft x.2.1&&(inR x.2.2.2 0 200&&(!x.2.2.1 || x.2.2.2==0))) ?_ (by rw [Bool.true_and])
  simp only [cond_true,Xu,Ug,Option.bind_some]
  cases Ft x.2.1<;>cases inR x.2.2.2 0 200<;>cases x.2.2.1<;>rfl
theorem Qma (x:Row) (hs:Jv x.1):Tot (λ k=>Hp k x) (λ r=>r=Ma x):=by
 unfold Hp Ma
 refine Tot.bind (Na x.1 hs) ?_
 rintro r rfl
 cases B1 x.1 with
 |false=>exact Tot.pure rfl
 |true=>
  refine Tot.of (a:=Ft x.2.1&&(inR x.2.2.2 0 200&&(!x.2.2.1 || x.2.2.2==0))) ?_ (by rw [Bool.true_and])
  simp only [cond_true,Qf,N6,Option.bind_some]
  cases Ft x.2.1<;>cases inR x.2.2.2 0 200<;>cases x.2.2.1<;>rfl
def chk:Option ByteArray→List Row→Bool
 |_,[]=>true
 |none,r::l=>Ma r&&chk (some r.1) l
 |some q,r::l=>Ma r&&(tlt q r.1&&chk (some r.1) l)
def K5 (l:List Row):Bool:=chk none l&&decide ((l.length:Int)≤60)
def Pi (l:List Row):Prop:=∀ r∈l,Jv r.1
def Uv (l:List Row):Nat→Option ByteArray
 |0=>none
 |i+1=>some (l.getD i Md).1
theorem Kqa (l:List Row) (i:Nat) (h:i<l.length):chk (Uv l i) (l.drop i)=(Ma (l.getD i Md)&&(bif decide (0<i) then tlt (l.getD (i - 1) Md).1 (l.getD i Md).1 else true)&&chk (Uv l (i+1)) (l.drop (i+1))):=by
 rw [An (d:=Md) h]
 cases i with
 |zero=>simp [Uv,chk]
 |succ i=>simp [Uv,chk,Bool.and_assoc]
theorem A4 {α:Type} {l:List α} {i:Nat} {d:α} (h1:i<l.length):l.getD i d∈l:=by
 rw [List.getD_eq_getElem?_getD,List.getElem?_eq_getElem h1]
 exact List.getElem_mem h1
theorem I7a (l:List Row) (hf:Few l) (hs:Pi l):∀ (n i:Nat),l.length - i=n→i≤l.length→
  Tot (λ k=>Fo k l l (l.length:Int) (i:Int)) (λ r=>r=bif chk (Uv l i) (l.drop i) then .inr l else .inl false):=by
 unfold Few at hf
 intro n
 induction n with
 |zero=>
  intro i hn hi
  refine Tot.succ ?_
  simp only [Fo]
  refine Tot.ndec (by omega) (Tot.pure ?_)
  rw [List.drop_of_length_le (by omega)]
  cases Uv l i<;>rfl
 |succ n ih=>
  intro i hn hi
  have hlt:i<l.length:=by omega
  refine Tot.succ ?_
  simp only [Fo]
  refine Tot.dec (by omega) (Tot.dec (by omega) (Tot.dec (by omega) ?_))
  rw [show Int.toNat (i:Int)=i from Int.toNat_natCast i,w64 (n:=(i:Int)+1) (by omega) (by omega),Kqa l i hlt]
  have h1:=ih (i+1) (by omega) (by omega)
  have e:(((i+1:Nat)):Int)=(i:Int)+1:=by omega
  rw [e] at h1
  refine Tot.bind (Qla (l.getD i Md) (hs _ (A4 hlt))) ?_
  rintro b rfl
  cases hb:Ma (l.getD i Md) with
  |false=>exact Tot.yes rfl (Tot.pure (by simp))
  |true=>
   refine Tot.no rfl ?_
   rw [Bool.true_and]
   refine Tot.dite (λ h0=>?_) (λ h0=>?_)
   ·rw [w64 (n:=(i:Int) - 1) (by omega) (by omega)]
    refine Tot.dec (by omega) (Tot.dec (by omega) ?_)
    rw [show Int.toNat ((i:Int) - 1)=i - 1 by omega,decide_eq_true (show 0<i by omega),cond_true]
    have et:(!(Op.bytesLess (l.getD (i - 1) Md).1.toList (l.getD i Md).1.toList)) = !(tlt (l.getD (i - 1) Md).1 (l.getD i Md).1):=rfl
    refine Tot.ite (λ ht=>?_) (λ ht=>?_)
    ·have ht':(!(tlt (l.getD (i - 1) Md).1 (l.getD i Md).1))=true:=ht
     rw [Bool.not_eq_true'] at ht'
     exact Tot.pure (by rw [ht']; rfl)
    ·have ht':(!(tlt (l.getD (i - 1) Md).1 (l.getD i Md).1))=false:=ht
     rw [Bool.not_eq_false'] at ht'
     rw [ht',Bool.true_and]
     exact h1
   ·rw [decide_eq_false (show ¬ 0<i by omega),cond_false,Bool.true_and]
    exact h1
theorem I8a (l:List Row) (hf:Few l) (hs:Pi l):∀ (n i:Nat),l.length - i=n→i≤l.length→
  Tot (λ k=>Fj k l (i:Int)) (λ r=>r=bif chk (Uv l i) (l.drop i) then .inr l else .inl false):=by
 unfold Few at hf
 intro n
 induction n with
 |zero=>
  intro i hn hi
  refine Tot.succ ?_
  simp only [Fj]
  refine Tot.ndec (by omega) (Tot.pure ?_)
  rw [List.drop_of_length_le (by omega)]
  cases Uv l i<;>rfl
 |succ n ih=>
  intro i hn hi
  have hlt:i<l.length:=by omega
  refine Tot.succ ?_
  simp only [Fj]
  refine Tot.dec (by omega) (Tot.dec (by omega) (Tot.dec (by omega) ?_))
  rw [show Int.toNat (i:Int)=i from Int.toNat_natCast i,w64 (n:=(i:Int)+1) (by omega) (by omega),Kqa l i hlt]
  have h1:=ih (i+1) (by omega) (by omega)
  have e:(((i+1:Nat)):Int)=(i:Int)+1:=by omega
  rw [e] at h1
  refine Tot.bind (Qma (l.getD i Md) (hs _ (A4 hlt))) ?_
  rintro b rfl
  cases hb:Ma (l.getD i Md) with
  |false=>exact Tot.yes rfl (Tot.pure (by simp))
  |true=>
   refine Tot.no rfl ?_
   rw [Bool.true_and]
   refine Tot.dite (λ h0=>?_) (λ h0=>?_)
   ·rw [w64 (n:=(i:Int) - 1) (by omega) (by omega)]
    refine Tot.dec (by omega) (Tot.dec (by omega) (Tot.dec (by omega) (Tot.dec (by omega) ?_)))
    rw [show Int.toNat ((i:Int) - 1)=i - 1 by omega,decide_eq_true (show 0<i by omega),cond_true]
    refine Tot.ite (λ ht=>?_) (λ ht=>?_)
    ·have ht':(!(tlt (l.getD (i - 1) Md).1 (l.getD i Md).1))=true:=ht
     rw [Bool.not_eq_true'] at ht'
     exact Tot.pure (by rw [ht']; rfl)
    ·have ht':(!(tlt (l.getD (i - 1) Md).1 (l.getD i Md).1))=false:=ht
     rw [Bool.not_eq_false'] at ht'
     rw [ht',Bool.true_and]
     exact h1
   ·rw [decide_eq_false (show ¬ 0<i by omega),cond_false,Bool.true_and]
    exact h1
theorem Uha (l:List Row) (hf:Few l) (hs:Pi l):Tot (λ k=>G0 k l) (λ r=>r=K5 l):=by
 unfold G0 K5
 refine Tot.bind (I7a l hf hs _ 0 rfl (Nat.zero_le _)) ?_
 rintro r rfl
 rw [List.drop_zero]
 show Tot _ (λ r=>r=(chk none l&&_))
 cases hc:chk none l with
 |true=>rw [show chk (Uv l 0) l=true from hc]; exact Tot.pure (by rw [Bool.true_and])
 |false=>rw [show chk (Uv l 0) l=false from hc]; exact Tot.pure rfl
theorem Kra (l:List Row) (hf:Few l) (hs:Pi l):Tot (λ k=>Dw k l) (λ r=>r=K5 l):=by
 unfold Dw K5
 refine Tot.bind (I8a l hf hs _ 0 rfl (Nat.zero_le _)) ?_
 rintro r rfl
 rw [List.drop_zero]
 cases hc:chk none l with
 |true=>rw [show chk (Uv l 0) l=true from hc]; exact Tot.pure (by rw [Bool.true_and])
 |false=>rw [show chk (Uv l 0) l=false from hc]; exact Tot.pure rfl
theorem I9a:∀ (p:Option ByteArray) (l:List Row),chk p l=true↔Ji l∧(∀ r∈l,Ma r=true)∧(∀ q,p=some q→∀ r∈l,tlt q r.1=true)
 |p,[]=>by
  have:chk p []=true:=by cases p<;>rfl
  simp [this,Ji]
 |none,r::l=>by
  simp only [chk,Bool.and_eq_true,I9a (some r.1) l,Ji,List.pairwise_cons]
  constructor
  ·rintro ⟨h1,h2,h3,h4⟩
   exact ⟨⟨λ a ha=>h4 _ rfl a ha,h2⟩,λ a ha=>by rcases List.mem_cons.1 ha with rfl|ha; exact h1; exact h3 a ha,λ q hq=>by cases hq⟩
  ·rintro ⟨⟨h1,h2⟩,h3,_⟩
   exact ⟨h3 r (by simp),h2,λ a ha=>h3 a (List.mem_cons_of_mem _ ha),λ q hq a ha=>by cases hq; exact h1 a ha⟩
 |some q,r::l=>by
  simp only [chk,Bool.and_eq_true,I9a (some r.1) l,Ji,List.pairwise_cons]
  constructor
  ·rintro ⟨h1,h0,h2,h3,h4⟩
   refine ⟨⟨λ a ha=>h4 _ rfl a ha,h2⟩,λ a ha=>by rcases List.mem_cons.1 ha with rfl|ha; exact h1; exact h3 a ha,λ q' hq a ha=>?_⟩
   cases hq
   rcases List.mem_cons.1 ha with rfl|ha
   ·exact h0
   ·exact M9 h0 (h4 _ rfl a ha)
  ·rintro ⟨⟨h1,h2⟩,h3,h4⟩
   exact ⟨h3 r (by simp),h4 q rfl r (by simp),h2,λ a ha=>h3 a (List.mem_cons_of_mem _ ha),λ q' hq a ha=>by cases hq; exact h1 a ha⟩
theorem Mi {l:List Row}:K5 l=true↔Ji l∧(∀ r∈l,Ma r=true)∧l.length≤60:=by
 unfold K5
 simp only [Bool.and_eq_true,I9a,decide_eq_true_eq]
 constructor
 ·rintro ⟨⟨h1,h2,_⟩,h3⟩
  exact ⟨h1,h2,by omega⟩
 ·rintro ⟨h1,h2,h3⟩
  exact ⟨⟨h1,h2,λ q hq=>by cases hq⟩,by omega⟩
def W0 (a b:List Row):List Row:=b.foldl mrg a
theorem Ksa {a b:List Row} {r:Row} (h:r∈W0 a b):r∈a∨r∈b:=by
 induction b generalizing a with
 |nil=>exact .inl h
 |cons x b ih=>
  rcases ih (a:=mrg a x) h with h|h
  ·rcases Qka h with rfl|h
   ·exact .inr (by simp)
   ·exact .inl h
  ·exact .inr (List.mem_cons_of_mem _ h)
theorem Iaa {a b:List Row} (h:Ji a):Ji (W0 a b):=by
 induction b generalizing a with
 |nil=>exact h
 |cons x b ih=>exact ih (Bea h)
def mx (a b:Row):Row:=bif Aca a b then b else a

def A6a:Nat→Nat→List Int
 |0,n=>[(n:Int)]
 |f+1,n=>if n≤127 then [(n:Int)] else ((n % 128+128:Nat):Int)::A6a f (n / 128)
def Oc (n:Nat):List Int:=A6a 4 n
def T0:Nat→Nat→Nat→List Int→Option (Nat×Nat)
 |0,_,_,_=>none
 |_+1,_,_,[]=>none
 |f+1,k,acc,x::l=>if 128≤x then T0 f (k+1) (acc+x.toNat % 128 * 128 ^ k) l
  else if (x=0∧0<k)∨1000000000<acc+x.toNat % 128 * 128 ^ k then none else some (acc+x.toNat % 128 * 128 ^ k,k+1)
def Of (l:List Int) (p:Nat):Option (Nat×Nat):=match T0 5 0 0 (l.drop p) with
 |some (n,c)=>some (n,p+c)
 |none=>none
theorem Qna:∀ (f n:Nat),(A6a f n).length≤f+1∧0<(A6a f n).length
 |0,n=>by simp [A6a]
 |f+1,n=>by
  unfold A6a
  split
  ·simp
  ·have:=Qna f (n / 128)
   simp only [List.length_cons]
   omega
theorem Rt:∀ (f k acc:Nat) (l:List Int) (n c:Nat),Al l→T0 f k acc l=some (n,c)→acc<128 ^ k→k<c∧c≤k+f∧c - k≤l.length∧n≤1000000000
 |0,_,_,_,_,_,_,h,_=>by simp [T0] at h
 |_+1,_,_,[],_,_,_,h,_=>by simp [T0] at h
 |f+1,k,acc,x::l,n,c,hb,h,ha=>by
  have hx:=hb x (by simp)
  unfold T0 at h
  split at h
  ·have h1:acc+x.toNat % 128 * 128 ^ k<128 ^ (k+1):=by
    have h2:x.toNat % 128≤127:=by omega
    have h3:=Nat.mul_le_mul_right (128 ^ k) h2
    rw [Nat.pow_succ]
    omega
   have:=Rt f (k+1) _ l n c (λ y hy=>hb y (List.mem_cons_of_mem _ hy)) h h1
   simp only [List.length_cons]
   omega
  ·split at h
   ·cases h
   ·simp only [Option.some.injEq,Prod.mk.injEq] at h
    obtain ⟨rfl,rfl⟩:=h
    simp only [List.length_cons]
    omega
theorem Qoa:∀ (f k acc:Nat) (l:List Int) (n c:Nat),Al l→T0 (f+1) k acc l=some (n,c)→acc<128 ^ k→∃ m,n=acc+m * 128 ^ k∧l=A6a f m++l.drop (c - k)∧(m=0→c=k+1∧(0<k→False))∧m<128 ^ (f+1)
 |0,k,acc,[],n,c,hb,h,ha=>by simp [T0] at h
 |_+1,k,acc,[],n,c,hb,h,ha=>by simp [T0] at h
 |0,k,acc,x::l,n,c,hb,h,ha=>by
  have hx:=hb x (by simp)
  unfold T0 at h
  split at h
  ·simp [T0] at h
  ·rename_i h128
   split at h
   ·cases h
   ·rename_i hz
    simp only [Option.some.injEq,Prod.mk.injEq] at h
    obtain ⟨rfl,rfl⟩:=h
    have hm:x.toNat % 128=x.toNat:=Nat.mod_eq_of_lt (by omega)
    refine ⟨x.toNat,by rw [hm],?_,λ h0=>⟨rfl,λ hk=>hz (.inl ⟨by omega,hk⟩)⟩,by omega⟩
    rw [show k+1 - k=1 by omega]
    show x::l=[((x.toNat:Nat):Int)]++l
    rw [show ((x.toNat:Nat):Int)=x by omega]
    rfl
 |f+1,k,acc,x::l,n,c,hb,h,ha=>by
  have hx:=hb x (by simp)
  have hb':Al l:=λ y hy=>hb y (List.mem_cons_of_mem _ hy)
  unfold T0 at h
  split at h
  ·rename_i h128
   have h1:acc+x.toNat % 128 * 128 ^ k<128 ^ (k+1):=by
    have h2:x.toNat % 128≤127:=by omega
    have h3:=Nat.mul_le_mul_right (128 ^ k) h2
    rw [Nat.pow_succ]
    omega
   obtain ⟨m,e1,e2,e3,e4⟩:=Qoa f (k+1) _ l n c hb' h h1
   have hbd:=Rt (f+1) (k+1) _ l n c hb' h h1
   have hm0:m≠0:=λ h0=>(e3 h0).2 (by omega)
   refine ⟨x.toNat % 128+m * 128,?_,?_,λ h0=>by omega,?_⟩
   ·rw [e1,Nat.pow_succ,Nat.add_mul]
    have:m * 128 * 128 ^ k=m * (128 ^ k * 128):=by rw [Nat.mul_assoc,Nat.mul_comm 128]
    omega
   ·unfold A6a
    rw [if_neg (by omega),show (x.toNat % 128+m * 128) / 128=m by omega,show (x.toNat % 128+m * 128) % 128=x.toNat % 128 by omega,show c - k=(c - (k+1))+1 by omega,List.drop_succ_cons,List.cons_append,← e2]
    congr 1
    omega
   ·rw [Nat.pow_succ]
    omega
  ·rename_i h128
   split at h
   ·cases h
   ·rename_i hz
    simp only [Option.some.injEq,Prod.mk.injEq] at h
    obtain ⟨rfl,rfl⟩:=h
    have hm:x.toNat % 128=x.toNat:=Nat.mod_eq_of_lt (by omega)
    have hp:128≤128 ^ (f+1+1):=by
     have:=Nat.pow_le_pow_right (show 0<128 by decide) (show 1≤f+1+1 by omega)
     simpa using this
    refine ⟨x.toNat,by rw [hm],?_,λ h0=>⟨rfl,λ hk=>hz (.inl ⟨by omega,hk⟩)⟩,by omega⟩
    rw [show k+1 - k=1 by omega]
    unfold A6a
    rw [if_pos (by omega)]
    show x::l=[((x.toNat:Nat):Int)]++l
    rw [show ((x.toNat:Nat):Int)=x by omega]
    rfl
theorem Qpa:∀ (f k acc m:Nat) (rest:List Int),m<128 ^ (f+1)→(0<k→0<m)→acc+m * 128 ^ k≤1000000000→T0 (f+1) k acc (A6a f m++rest)=some (acc+m * 128 ^ k,k+(A6a f m).length)
 |0,k,acc,m,rest,hm,hk,hn=>by
  show T0 1 k acc ((m:Int)::rest)=_
  unfold T0
  have h1:m<128:=by simpa using hm
  rw [if_neg (by omega),if_neg (by
   rw [show (m:Int).toNat % 128=m by rw [Int.toNat_natCast]; exact Nat.mod_eq_of_lt h1]
   omega)]
  rw [show (m:Int).toNat % 128=m by rw [Int.toNat_natCast]; exact Nat.mod_eq_of_lt h1]
  rfl
 |f+1,k,acc,m,rest,hm,hk,hn=>by
  unfold A6a
  by_cases h:m≤127
  ·rw [if_pos h]
   show T0 (f+2) k acc ((m:Int)::rest)=_
   unfold T0
   rw [if_neg (by omega),if_neg (by
    rw [show (m:Int).toNat % 128=m by rw [Int.toNat_natCast]; exact Nat.mod_eq_of_lt (by omega)]
    omega)]
   rw [show (m:Int).toNat % 128=m by rw [Int.toNat_natCast]; exact Nat.mod_eq_of_lt (by omega)]
   rfl
  ·rw [if_neg h]
   show T0 (f+2) k acc (((m % 128+128:Nat):Int)::(A6a f (m / 128)++rest))=_
   unfold T0
   have e1:(((m % 128+128:Nat):Int)).toNat % 128=m % 128:=by rw [Int.toNat_natCast]; omega
   rw [if_pos (by omega),e1]
   have hmod:m=m % 128+m / 128 * 128:=by omega
   have hm2:m / 128<128 ^ (f+1):=by rw [Nat.pow_succ] at hm; omega
   have e2:acc+m % 128 * 128 ^ k+m / 128 * 128 ^ (k+1)=acc+m * 128 ^ k:=by
    have h2:m * 128 ^ k=(m % 128+m / 128 * 128) * 128 ^ k:=by rw [← hmod]
    rw [h2,Nat.add_mul,Nat.pow_succ]
    have:m / 128 * 128 * 128 ^ k=m / 128 * (128 ^ k * 128):=by rw [Nat.mul_assoc,Nat.mul_comm 128]
    omega
   rw [Qpa f (k+1) (acc+m % 128 * 128 ^ k) (m / 128) rest hm2 (λ _=>by omega) (by rw [e2]; exact hn),e2,List.length_cons]
   simp only [Option.some.injEq,Prod.mk.injEq,true_and]
   omega
theorem Kta (pre:List Int) (n:Nat) (rest:List Int) (hn:n≤1000000000):Of (pre++(Oc n++rest)) pre.length=some (n,pre.length+(Oc n).length):=by
 unfold Of
 rw [List.drop_left]
 have:=Qpa 4 0 0 n rest (by omega) (by omega) (by omega)
 unfold Oc
 rw [this]
 simp
theorem Ru {l:List Int} {p n q:Nat} (hb:Al l) (h:Of l p=some (n,q)):l.drop p=Oc n++l.drop q∧n≤1000000000∧p<q∧q≤l.length:=by
 unfold Of at h
 split at h
 ·rename_i m c hd
  simp only [Option.some.injEq,Prod.mk.injEq] at h
  obtain ⟨rfl,rfl⟩:=h
  have hb':Al (l.drop p):=λ y hy=>hb y (List.mem_of_mem_drop hy)
  have hbd:=Rt 5 0 0 _ _ _ hb' hd (by decide)
  obtain ⟨m',e1,e2,_,_⟩:=Qoa 4 0 0 _ _ _ hb' hd (by decide)
  have e3:m=m':=by rw [e1]; simp
  subst e3
  rw [List.length_drop] at hbd
  refine ⟨?_,hbd.2.2.2,by omega,by omega⟩
  rw [Nat.sub_zero,List.drop_drop] at e2
  exact e2
 ·cases h
theorem Dqb (i:Nat) (hi:i<5):(2:Int) ^ (min (Int.toNat (IntKind.wrap .i64 (7 * (i:Int)))) (IntKind.bits .i64))=((128 ^ i:Nat):Int):=by
 have:i=0∨i=1∨i=2∨i=3∨i=4:=by omega
 rcases this with rfl|rfl|rfl|rfl|rfl<;>decide
theorem Cub (i:Nat) (hi:i<5):(2:Int) ^ (min (Int.toNat (IntKind.wrap .u64 (IntKind.wrap .i64 (7 * (i:Int))))) (IntKind.bits .i64))=((128 ^ i:Nat):Int):=by
 have:i=0∨i=1∨i=2∨i=3∨i=4:=by omega
 rcases this with rfl|rfl|rfl|rfl|rfl<;>decide
theorem sh7 (i:Nat) (hi:i<5):¬ (IntKind.wrap .i64 (7 * (i:Int))<0)∧¬ (IntKind.wrap .u64 (IntKind.wrap .i64 (7 * (i:Int)))<0):=by
 have:i=0∨i=1∨i=2∨i=3∨i=4:=by omega
 rcases this with rfl|rfl|rfl|rfl|rfl<;>decide
theorem Oy (i:Nat) (hi:i≤5):128 ^ i≤34359738368:=by
 have:=Nat.pow_le_pow_right (show 0<128 by decide) hi
 simpa using this
theorem Qg (n:Nat) (h:n<18446744073709551616):(BitVec.ofInt (IntKind.bits .i64) (n:Int)).toNat=n:=by
 rw [BitVec.toNat_ofInt]
 show ((n:Int) % ((2 ^ 64:Nat):Int)).toNat=n
 rw [Int.emod_eq_of_lt (by omega) (by omega)]
 exact Int.toNat_natCast n
theorem Wqa (n:Nat) (h:n<9223372036854775808):IntKind.wrap .i64 ((BitVec.ofInt (IntKind.bits .i64) (n:Int) &&& BitVec.ofInt (IntKind.bits .i64) 127).toNat)=((n % 128:Nat):Int):=by
 rw [BitVec.toNat_and,Qg n (by omega),show (BitVec.ofInt (IntKind.bits .i64) 127).toNat=127 from by decide,show (127:Nat)=2 ^ 7 - 1 from rfl,Nat.and_two_pow_sub_one_eq_mod]
 exact w64 (by omega) (by omega)
theorem Kua (a m i:Nat) (ha:a<128 ^ i) (hm:m<128) (hi:i<5):IntKind.wrap .i64 ((BitVec.ofInt (IntKind.bits .i64) (a:Int) ||| BitVec.ofInt (IntKind.bits .i64) ((m * 128 ^ i:Nat):Int)).toNat)=((a+m * 128 ^ i:Nat):Int):=by
 have hp:=Oy i (by omega)
 have hmul:m * 128 ^ i≤127 * 34359738368:=Nat.mul_le_mul (by omega) hp
 rw [BitVec.toNat_or,Qg a (by omega),Qg _ (by omega),Nat.or_comm]
 have e:(128:Nat) ^ i=2 ^ (7 * i):=by rw [Nat.pow_mul]
 have h2:=Nat.two_pow_add_eq_or_of_lt (i:=7 * i) (b:=a) (by rw [← e]; exact ha) m
 rw [← e,Nat.mul_comm] at h2
 rw [← h2,Nat.add_comm]
 exact w64 (by omega) (by omega)
def Iba (l:List Int) (p:Int):Int×Int×Bool:=if p<0 then (0,0,false) else match Of l p.toNat with
 |some (n,q)=>((n:Int),(q:Int),true)
 |none=>(0,0,false)
def Cgb (p:Nat):Option (Nat×Nat)→Int×Int×Bool
 |some (n,c)=>((n:Int),((p+c:Nat):Int),true)
 |none=>(0,0,false)
def Xv (r:Sum (Int×Int×Bool) Unit):Int×Int×Bool:=Sum.elim (λ y=>y) (λ _=>(0,0,false)) r
theorem T1 {l:List Int} {p:Nat} (h:p<l.length):l.drop p=l.getD p 0::l.drop (p+1):=An h
theorem Mxa (l:List Int) (hb:Al l) (hl:l.length≤1000000000000) (p:Nat) (hp:p≤1000000000000):∀ (f i acc:Nat),f+i=5→acc<128 ^ i→
  Tot (λ k=>Fp k l (p:Int) (acc:Int) (i:Int)) (λ r=>Xv r=Cgb p (T0 f i acc (l.drop (p+i)))):=by
 intro f
 induction f with
 |zero=>
  intro i acc hi ha
  refine Tot.succ ?_
  simp only [Fp]
  exact Tot.ndec (by omega) (Tot.pure rfl)
 |succ f ih=>
  intro i acc hi ha
  have hi5:i<5:=by omega
  refine Tot.succ ?_
  simp only [Fp]
  refine Tot.dec (by omega) (Tot.dec (by omega) ?_)
  rw [w64 (n:=(l.length:Int) - (i:Int)) (by omega) (by omega),w64 (n:=(p:Int)+(i:Int)) (by omega) (by omega),show Int.toNat ((p:Int)+(i:Int))=p+i by omega]
  refine Tot.dite (λ h=>?_) (λ h=>?_)
  ·have hlt:p+i<l.length:=by omega
   refine Tot.dec (by omega) (Tot.dec (by omega) ?_)
   have hx:=hb (l.getD (p+i) 0) (A4 hlt)
   rw [T1 hlt,Dqb i hi5]
   have he:T0 (f+1) i acc (l.getD (p+i) 0::l.drop (p+i+1))=if 128≤l.getD (p+i) 0 then T0 f (i+1) (acc+(l.getD (p+i) 0).toNat % 128 * 128 ^ i) (l.drop (p+i+1)) else if (l.getD (p+i) 0=0∧0<i)∨1000000000<acc+(l.getD (p+i) 0).toNat % 128 * 128 ^ i then none else some (acc+(l.getD (p+i) 0).toNat % 128 * 128 ^ i,i+1):=rfl
   rw [he]
   generalize l.getD (p+i) 0=x at hx ⊢
   obtain ⟨v,rfl⟩:∃ v:Nat,x=(v:Int):=⟨x.toNat,by omega⟩
   rw [Int.toNat_natCast]
   have hp1:=Oy i (by omega)
   have hmul:v % 128 * 128 ^ i≤127 * 34359738368:=Nat.mul_le_mul (by omega) hp1
   rw [w64 (n:=(v:Int)) (by omega) (by omega)]
   have e1:Int.tmod (v:Int) 128 * ((128 ^ i:Nat):Int)=((v % 128 * 128 ^ i:Nat):Int):=by
    rw [Int.tmod_eq_emod_of_nonneg (by omega)]
    push_cast
    rfl
   rw [e1,w64 (n:=((v % 128 * 128 ^ i:Nat):Int)) (by omega) (by omega),← Int.natCast_add,w64 (n:=((acc+v % 128 * 128 ^ i:Nat):Int)) (by omega) (by omega),w64 (n:=(i:Int)+1) (by omega) (by omega),w64 (n:=(p:Int)+(i:Int)+1) (by omega) (by omega)]
   refine Tot.ndec (sh7 i hi5).1 ?_
   refine Tot.dite (λ h128=>?_) (λ h128=>?_)
   ·rw [if_pos (by omega)]
    have h1:acc+v % 128 * 128 ^ i<128 ^ (i+1):=by
     have h2:v % 128≤127:=by omega
     have h3:=Nat.mul_le_mul_right (128 ^ i) h2
     rw [Nat.pow_succ]
     omega
    have:=ih (i+1) (acc+v % 128 * 128 ^ i) (by omega) h1
    rw [show p+(i+1)=p+i+1 by omega] at this
    exact this
   ·rw [if_neg (by omega)]
    have big:Tot (λ _:Nat=>cond (decide (((acc+v % 128 * 128 ^ i:Nat):Int) > 1000000000)) (some (Sum.inl ((0:Int),(0:Int),false))) (some (Sum.inl (((acc+v % 128 * 128 ^ i:Nat):Int),(p:Int)+(i:Int)+1,true))):Nat→Option (Sum (Int×Int×Bool) Unit))
      (λ r=>Xv r=if 1000000000<acc+v % 128 * 128 ^ i then (0,0,false) else (((acc+v % 128 * 128 ^ i:Nat):Int),((p+(i+1):Nat):Int),true)):=by
     refine Tot.dite (λ hbig=>?_) (λ hbig=>?_)
     ·rw [if_pos (by omega)]; exact Tot.pure rfl
     ·rw [if_neg (by omega)]
      refine Tot.pure ?_
      show (_,_,_)=_
      rw [show (p:Int)+(i:Int)+1=((p+(i+1):Nat):Int) by omega]
    have goal:∀ c:Prop,[Decidable c]→(if c∨1000000000<acc+v % 128 * 128 ^ i then none else some (acc+v % 128 * 128 ^ i,i+1))=if c then none else if 1000000000<acc+v % 128 * 128 ^ i then (none:Option (Nat×Nat)) else some (acc+v % 128 * 128 ^ i,i+1):=by
     intro c _
     by_cases h1:c<;>by_cases h2:1000000000<acc+v % 128 * 128 ^ i<;>simp [h1,h2]
    rw [goal]
    have fin:(Cgb p (if 1000000000<acc+v % 128 * 128 ^ i then (none:Option (Nat×Nat)) else some (acc+v % 128 * 128 ^ i,i+1)))=if 1000000000<acc+v % 128 * 128 ^ i then (0,0,false) else (((acc+v % 128 * 128 ^ i:Nat):Int),((p+(i+1):Nat):Int),true):=by
     split<;>rfl
    refine Tot.ite (λ h0=>?_) (λ h0=>?_)
    ·have hv:v=0:=by
      have:=beq_iff_eq.1 h0
      omega
     refine Tot.dite (λ hi0=>?_) (λ hi0=>?_)
     ·rw [if_pos ⟨by omega,by omega⟩]; exact Tot.pure rfl
     ·rw [if_neg (by omega),fin]; exact big
    ·have hv:v≠0:=by
      intro e
      subst e
      simp at h0
     rw [if_neg (by omega),fin]; exact big
  ·refine Tot.pure ?_
   rw [List.drop_of_length_le (by omega)]
   rfl
theorem Qqa (l:List Int) (hb:Al l) (hl:l.length≤1000000000000) (p:Int) (hp:p≤1000000000000):Tot (λ k=>Hb k l p) (λ r=>r=Iba l p):=by
 unfold Hb Iba
 by_cases h0:p<0
 ·rw [if_pos h0]
  refine Tot.bind (Q:=λ r=>r = .inr ()) ?_ ?_
  ·refine Tot.succ ?_
   simp only [Fp]
   exact Tot.dec (by omega) (Tot.ndec (by omega) (Tot.pure rfl))
  ·rintro r rfl
   exact Tot.pure rfl
 ·rw [if_neg h0]
  obtain ⟨n,rfl⟩:∃ n:Nat,p=(n:Int):=⟨p.toNat,by omega⟩
  rw [Int.toNat_natCast]
  refine Tot.bind (Mxa l hb hl n (by omega) 5 0 0 rfl (by decide)) ?_
  intro r hr
  unfold Of
  rw [Nat.add_zero] at hr
  have hr':Xv r=(match (match T0 5 0 0 (l.drop n) with|some (m,c)=>some (m,n+c)|none=>none) with|some (m,q)=>((m:Int),(q:Int),true)|none=>((0:Int),(0:Int),false)):=by
   rw [hr]
   cases T0 5 0 0 (l.drop n) with
   |none=>rfl
   |some mc=>rfl
  rw [← hr']
  cases r with
  |inl y=>exact Tot.pure rfl
  |inr z=>exact Tot.pure rfl

theorem Mya (l:List Int) (hb:Al l) (hl:l.length≤1000000000000) (p:Nat) (hp:p<l.length):∀ (f i acc:Nat),f+i=5→acc<128 ^ i→
  Tot (λ k=>Ec k l (p:Int) (acc:Int) (i:Int)) (λ r=>Xv r=Cgb p (T0 f i acc (l.drop (p+i)))):=by
 intro f
 induction f with
 |zero=>
  intro i acc hi ha
  refine Tot.succ ?_
  simp only [Ec]
  exact Tot.ndec (by omega) (Tot.pure rfl)
 |succ f ih=>
  intro i acc hi ha
  have hi5:i<5:=by omega
  refine Tot.succ ?_
  simp only [Ec]
  refine Tot.dec (by omega) (Tot.dec (by omega) (Tot.dec (by omega) ?_))
  rw [w64 (n:=(p:Int)+(i:Int)) (by omega) (by omega),show Int.toNat ((p:Int)+(i:Int))=p+i by omega]
  refine Tot.dite (λ h=>?_) (λ h=>?_)
  ·have hlt:p+i<l.length:=by omega
   refine Tot.dec (by omega) (Tot.dec (by omega) ?_)
   have hx:=hb (l.getD (p+i) 0) (A4 hlt)
   rw [T1 hlt,Cub i hi5]
   have he:T0 (f+1) i acc (l.getD (p+i) 0::l.drop (p+i+1))=if 128≤l.getD (p+i) 0 then T0 f (i+1) (acc+(l.getD (p+i) 0).toNat % 128 * 128 ^ i) (l.drop (p+i+1)) else if (l.getD (p+i) 0=0∧0<i)∨1000000000<acc+(l.getD (p+i) 0).toNat % 128 * 128 ^ i then none else some (acc+(l.getD (p+i) 0).toNat % 128 * 128 ^ i,i+1):=rfl
   rw [he]
   generalize l.getD (p+i) 0=x at hx ⊢
   obtain ⟨v,rfl⟩:∃ v:Nat,x=(v:Int):=⟨x.toNat,by omega⟩
   rw [Int.toNat_natCast]
   have hp1:=Oy i (by omega)
   have hmul:v % 128 * 128 ^ i≤127 * 34359738368:=Nat.mul_le_mul (by omega) hp1
   rw [w64 (n:=(v:Int)) (by omega) (by omega),Wqa v (by omega)]
   have e1:((v % 128:Nat):Int) * ((128 ^ i:Nat):Int)=((v % 128 * 128 ^ i:Nat):Int):=by push_cast; rfl
   rw [e1,w64 (n:=((v % 128 * 128 ^ i:Nat):Int)) (by omega) (by omega),Kua acc (v % 128) i ha (by omega) hi5,w64 (n:=(i:Int)+1) (by omega) (by omega),w64 (n:=(p:Int)+(i:Int)+1) (by omega) (by omega)]
   refine Tot.ndec (sh7 i hi5).2 ?_
   refine Tot.dite (λ h128=>?_) (λ h128=>?_)
   ·rw [if_pos (by omega)]
    have h1:acc+v % 128 * 128 ^ i<128 ^ (i+1):=by
     have h2:v % 128≤127:=by omega
     have h3:=Nat.mul_le_mul_right (128 ^ i) h2
     rw [Nat.pow_succ]
     omega
    have:=ih (i+1) (acc+v % 128 * 128 ^ i) (by omega) h1
    rw [show p+(i+1)=p+i+1 by omega] at this
    exact this
   ·rw [if_neg (by omega)]
    have big:Tot (λ _:Nat=>cond (decide (((acc+v % 128 * 128 ^ i:Nat):Int) > 1000000000)) (some (Sum.inl ((0:Int),(0:Int),false))) (some (Sum.inl (((acc+v % 128 * 128 ^ i:Nat):Int),(p:Int)+(i:Int)+1,true))):Nat→Option (Sum (Int×Int×Bool) Unit))
      (λ r=>Xv r=if 1000000000<acc+v % 128 * 128 ^ i then (0,0,false) else (((acc+v % 128 * 128 ^ i:Nat):Int),((p+(i+1):Nat):Int),true)):=by
     refine Tot.dite (λ hbig=>?_) (λ hbig=>?_)
     ·rw [if_pos (by omega)]; exact Tot.pure rfl
     ·rw [if_neg (by omega)]
      refine Tot.pure ?_
      show (_,_,_)=_
      rw [show (p:Int)+(i:Int)+1=((p+(i+1):Nat):Int) by omega]
    have goal:∀ c:Prop,[Decidable c]→(if c∨1000000000<acc+v % 128 * 128 ^ i then none else some (acc+v % 128 * 128 ^ i,i+1))=if c then none else if 1000000000<acc+v % 128 * 128 ^ i then (none:Option (Nat×Nat)) else some (acc+v % 128 * 128 ^ i,i+1):=by
     intro c _
     by_cases h1:c<;>by_cases h2:1000000000<acc+v % 128 * 128 ^ i<;>simp [h1,h2]
    rw [goal]
    have fin:(Cgb p (if 1000000000<acc+v % 128 * 128 ^ i then (none:Option (Nat×Nat)) else some (acc+v % 128 * 128 ^ i,i+1)))=if 1000000000<acc+v % 128 * 128 ^ i then (0,0,false) else (((acc+v % 128 * 128 ^ i:Nat):Int),((p+(i+1):Nat):Int),true):=by
     split<;>rfl
    refine Tot.dite (λ hi0=>?_) (λ hi0=>?_)
    ·refine Tot.ite (λ h0=>?_) (λ h0=>?_)
     ·have hv:v=0:=by
       have:=beq_iff_eq.1 h0
       omega
      rw [if_pos ⟨by omega,by omega⟩]; exact Tot.pure rfl
     ·have hv:v≠0:=by
       intro e
       subst e
       simp at h0
      rw [if_neg (by omega),fin]; exact big
    ·rw [if_neg (by omega),fin]; exact big
  ·refine Tot.pure ?_
   rw [List.drop_of_length_le (by omega)]
   rfl
theorem U0 (l:List Int) (hb:Al l) (hl:l.length≤1000000000000) (p:Int):Tot (λ k=>Dd k l p) (λ r=>r=Iba l p):=by
 unfold Dd Iba
 by_cases h0:p<0
 ·rw [if_pos h0]
  refine Tot.bind (Q:=λ r=>r = .inr ()) ?_ ?_
  ·refine Tot.succ ?_
   simp only [Ec]
   exact Tot.dec (by omega) (Tot.ndec (by omega) (Tot.pure rfl))
  ·rintro r rfl
   exact Tot.pure rfl
 ·rw [if_neg h0]
  by_cases h1:p<(l.length:Int)
  ·obtain ⟨n,rfl⟩:∃ n:Nat,p=(n:Int):=⟨p.toNat,by omega⟩
   rw [Int.toNat_natCast]
   refine Tot.bind (Mya l hb hl n (by omega) 5 0 0 rfl (by decide)) ?_
   intro r hr
   unfold Of
   rw [Nat.add_zero] at hr
   have hr':Xv r=(match (match T0 5 0 0 (l.drop n) with|some (m,c)=>some (m,n+c)|none=>none) with|some (m,q)=>((m:Int),(q:Int),true)|none=>((0:Int),(0:Int),false)):=by
    rw [hr]
    cases T0 5 0 0 (l.drop n) with
    |none=>rfl
    |some mc=>rfl
   refine Tot.mono (Q:=λ y=>y=Xv r) ?_ (λ y hy=>hy.trans hr')
   cases r with
   |inl y=>exact Tot.pure rfl
   |inr z=>exact Tot.pure rfl
  ·have e:Of l p.toNat=none:=by
    unfold Of
    rw [List.drop_of_length_le (by omega)]
    rfl
   rw [e]
   refine Tot.bind (Q:=λ r=>r = .inr ()) ?_ ?_
   ·refine Tot.succ ?_
    simp only [Ec]
    exact Tot.dec (by omega) (Tot.dec (by omega) (Tot.ndec h1 (Tot.pure rfl)))
   ·rintro r rfl
    exact Tot.pure rfl
def Bh (n:Int):Nat:=(max 0 (min n 1000000000)).toNat
theorem Nm (n:Int):Bh n≤1000000000:=by unfold Bh; omega
theorem Xw {n:Int} (h0:0≤n) (h1:n≤1000000000):(Bh n:Int)=n:=by unfold Bh; omega
theorem Fga (n:Nat) (h:n≤255):IntKind.wrap .u8 (n:Int)=(n:Int):=by
 rw [IntKind.wrap_u8]
 omega
theorem Mza:∀ (f n:Nat) (out:List Int),n<128 ^ (f+1)→f≤4→out.length+f≤1000000000010→
  Tot (λ k=>Gv k out (n:Int)) (λ r=>∃ m:Nat,r.2=(m:Int)∧m≤127∧r.1++[(m:Int)]=out++A6a f n∧r.1.length≤out.length+f):=by
 intro f
 induction f with
 |zero=>
  intro n out hn hf hl
  refine Tot.succ ?_
  simp only [Gv]
  have:n<128:=by simpa using hn
  exact Tot.ndec (by omega) (Tot.pure ⟨n,rfl,by omega,rfl,by simp⟩)
 |succ f ih=>
  intro n out hn hf hl
  have hp:=Oy (f+1+1 - 1) (by omega)
  refine Tot.succ ?_
  simp only [Gv]
  refine Tot.dite (λ h=>?_) (λ h=>?_)
  ·have hn2:n / 128<128 ^ (f+1):=by rw [Nat.pow_succ] at hn; omega
   have hn3:n<4398046511104:=by
    have:=Oy (f+1) (by omega)
    rw [Nat.pow_succ] at hn
    omega
   have e1:Int.tmod (n:Int) 128+128=((n % 128+128:Nat):Int):=by
    rw [Int.tmod_eq_emod_of_nonneg (by omega)]
    omega
   have e2:Int.tdiv (n:Int) 128=((n / 128:Nat):Int):=by
    rw [Int.tdiv_eq_ediv_of_nonneg (by omega)]
    omega
   rw [e1,e2,w64 (n:=((n % 128+128:Nat):Int)) (by omega) (by omega),w64 (n:=((n / 128:Nat):Int)) (by omega) (by omega),Fga _ (by omega)]
   refine Tot.ble (by simp only [List.length_cons,List.length_nil]; omega) ?_
   refine (ih (n / 128) (out++[((n % 128+128:Nat):Int)]) hn2 (by omega) (by simp only [List.length_append,List.length_cons,List.length_nil]; omega)).mono ?_
   rintro r ⟨m,h1,h2,h3,h4⟩
   refine ⟨m,h1,h2,?_,by simp only [List.length_append,List.length_cons,List.length_nil] at h4; omega⟩
   rw [h3,List.append_assoc]
   congr 1
   conv => { rhs; unfold A6a }
   rw [if_neg (by omega)]
   rfl
  ·refine Tot.pure ⟨n,rfl,by omega,?_,by show out.length≤out.length+(f+1); omega⟩
   unfold A6a
   rw [if_pos (by omega)]
theorem Xx (out:List Int) (n:Int) (hl:out.length≤1000000000000):Tot (λ k=>Ek k out n) (λ r=>r=out++Oc (Bh n)):=by
 unfold Ek
 have e:(if (0:Int)<(if (1000000000:Int)<n then 1000000000 else n) then (if (1000000000:Int)<n then 1000000000 else n) else 0)=((Bh n:Nat):Int):=by
  unfold Bh
  split<;>split<;>omega
 simp only
 rw [e]
 have hc:=Nm n
 refine Tot.bind (Mza 4 (Bh n) out (by omega) (by omega) (by omega)) ?_
 rintro r ⟨m,h1,h2,h3,h4⟩
 rw [h1,Fga m (by omega)]
 refine Tot.ble (by simp only [List.length_cons,List.length_nil]; omega) (Tot.pure h3)
theorem N0a:∀ (f n:Nat) (out:List Int),n<128 ^ (f+1)→f≤4→out.length+f≤1000000000010→
  Tot (λ k=>Cs k (n:Int) out) (λ r=>∃ m:Nat,r.1=(m:Int)∧m≤127∧r.2++[(m:Int)]=out++A6a f n∧r.2.length≤out.length+f):=by
 intro f
 induction f with
 |zero=>
  intro n out hn hf hl
  refine Tot.succ ?_
  simp only [Cs]
  have:n<128:=by simpa using hn
  exact Tot.ndec (by omega) (Tot.pure ⟨n,rfl,by omega,rfl,by simp⟩)
 |succ f ih=>
  intro n out hn hf hl
  refine Tot.succ ?_
  simp only [Cs]
  refine Tot.dite (λ h=>?_) (λ h=>?_)
  ·have hn2:n / 128<128 ^ (f+1):=by rw [Nat.pow_succ] at hn; omega
   have hn3:n<4398046511104:=by
    have:=Oy (f+1) (by omega)
    rw [Nat.pow_succ] at hn
    omega
   have e1:IntKind.wrap .i64 ((BitVec.ofInt (IntKind.bits .i64) ((n % 128:Nat):Int) ||| BitVec.ofInt (IntKind.bits .i64) 128).toNat)=((n % 128+128:Nat):Int):=by
    have:=Kua (n % 128) 1 1 (by omega) (by omega) (by omega)
    exact this
   have e2:Int.fdiv (n:Int) (2 ^ (min (Int.toNat 7) (IntKind.bits .i64)))=((n / 128:Nat):Int):=by
    have:(2:Int) ^ (min (Int.toNat 7) (IntKind.bits .i64))=128:=by decide
    rw [this,Int.fdiv_eq_ediv_of_nonneg _ (by omega)]
    omega
   rw [Wqa n (by omega),e1,e2,Fga _ (by omega)]
   refine Tot.ble (by simp only [List.length_cons,List.length_nil]; omega) ?_
   refine (ih (n / 128) (out++[((n % 128+128:Nat):Int)]) hn2 (by omega) (by simp only [List.length_append,List.length_cons,List.length_nil]; omega)).mono ?_
   rintro r ⟨m,h1,h2,h3,h4⟩
   refine ⟨m,h1,h2,?_,by simp only [List.length_append,List.length_cons,List.length_nil] at h4; omega⟩
   rw [h3,List.append_assoc]
   congr 1
   conv => { rhs; unfold A6a }
   rw [if_neg (by omega)]
   rfl
  ·refine Tot.pure ⟨n,rfl,by omega,?_,by show out.length≤out.length+(f+1); omega⟩
   unfold A6a
   rw [if_pos (by omega)]
theorem U1 (out:List Int) (n:Int) (hl:out.length≤1000000000000):Tot (λ k=>De k out n) (λ r=>r=out++Oc (Bh n)):=by
 have hc:=Nm n
 have fin:Tot (λ k=>(Cs k ((Bh n:Nat):Int) (([]:List Int)++out)).bind λ r1=>cond (Nat.ble ((List.length r1.2+List.length [IntKind.wrap .u8 r1.1]) * 1) 140737488355328) (some (r1.2++[IntKind.wrap .u8 r1.1])) none) (λ r=>r=out++Oc (Bh n)):=by
  rw [List.nil_append]
  refine Tot.bind (N0a 4 (Bh n) out (by omega) (by omega) (by omega)) ?_
  rintro r ⟨m,h1,h2,h3,h4⟩
  rw [h1,Fga m (by omega)]
  exact Tot.ble (by simp only [List.length_cons,List.length_nil]; omega) (Tot.pure h3)
 unfold De
 refine Tot.ble (by simp only [List.length_nil]; omega) ?_
 refine Tot.dite (λ h1=>?_) (λ h1=>?_)
 ·refine Tot.ndec (by omega) ?_
  have e:((Bh n:Nat):Int)=1000000000:=by unfold Bh; omega
  rw [e] at fin
  exact fin
 ·refine Tot.dite (λ h2=>?_) (λ h2=>?_)
  ·have e:((Bh n:Nat):Int)=0:=by unfold Bh; omega
   rw [e] at fin
   exact fin
  ·have e:((Bh n:Nat):Int)=n:=by unfold Bh; omega
   rw [e] at fin
   exact fin
theorem Ln (n:Nat):(Oc n).length≤5∧0<(Oc n).length:=Qna 4 n
theorem Bfa:∀ (f n:Nat),n<128 ^ (f+1)→Al (A6a f n)
 |0,n,hn=>by
  intro x hx
  simp only [A6a,List.mem_singleton] at hx
  have:n<128:=by simpa using hn
  omega
 |f+1,n,hn=>by
  unfold A6a
  split
  ·intro x hx
   simp only [List.mem_singleton] at hx
   omega
  ·intro x hx
   rcases List.mem_cons.1 hx with rfl|hx
   ·omega
   ·exact Bfa f (n / 128) (by rw [Nat.pow_succ] at hn; omega) x hx
theorem N1a (n:Nat) (hn:n≤1000000000):Al (Oc n):=Bfa 4 n (by omega)
theorem Bga (s:ByteArray):Al (bytesOf s):=by
 intro x hx
 unfold bytesOf at hx
 obtain ⟨b,_,rfl⟩:=List.mem_map.1 hx
 have:=b.toNat_lt
 omega
theorem Pj (s:ByteArray):(bytesOf s).length=s.size:=by
 unfold bytesOf
 rw [List.length_map]
 exact Array.length_toList
theorem T2 (s:ByteArray):Kw (bytesOf s)=s:=by
 unfold Kw bytesOf
 rw [List.map_map]
 have:(λ n:Int=>UInt8.ofNat n.toNat) ∘ (λ b:UInt8=>(b.toNat:Int))=id:=by
  funext b
  show UInt8.ofNat ((b.toNat:Int)).toNat=b
  rw [Int.toNat_natCast]
  exact UInt8.ofNat_toNat
 rw [this,List.map_id]
theorem Nb {l:List Int} (h:Al l):bytesOf (Kw l)=l:=by
 unfold Kw bytesOf
 show List.map _ (List.map _ l)=l
 rw [List.map_map]
 have:∀ x∈l,((λ b:UInt8=>(b.toNat:Int)) ∘ (λ n:Int=>UInt8.ofNat n.toNat)) x=x:=by
  intro x hx
  have hb:=h x hx
  show ((UInt8.ofNat x.toNat).toNat:Int)=x
  rw [UInt8.toNat_ofNat']
  omega
 exact (List.map_congr_left this).trans (List.map_id' l)
theorem Mj (l:List Int):(Kw l).size=l.length:=by
 unfold Kw
 show (List.map _ l).toArray.size=l.length
 simp
def txt (s:ByteArray):List Int:=Oc (Bh (s.size:Int))++bytesOf s
theorem Uia (out:List Int) (s:ByteArray) (hl:out.length≤1000000000000) (hs:s.size≤1000000000000):Tot (λ k=>J2 k out s) (λ r=>r=out++txt s):=by
 unfold J2 txt
 refine Tot.bind (Xx out _ hl) ?_
 rintro r rfl
 have:=(Ln (Bh (s.size:Int))).1
 refine Tot.ble (by simp only [List.length_append]; omega) (Tot.pure ?_)
 rw [List.append_assoc]
theorem Kva (out:List Int) (s:ByteArray) (hl:out.length≤1000000000000) (hs:s.size≤1000000000000):Tot (λ k=>Iq k out s) (λ r=>r=out++txt s):=by
 unfold Iq txt
 refine Tot.bind (U1 out _ hl) ?_
 rintro r rfl
 have:=(Ln (Bh (s.size:Int))).1
 refine Tot.ble (by simp only [List.length_append]; omega) (Tot.pure ?_)
 rw [List.append_assoc]
def Kwa (l:List Int) (p:Nat):Option (ByteArray×Nat):=match Of l p with
 |some (n,q)=>if q+n≤l.length then some (Kw ((l.drop q).take n),q+n) else none
 |none=>none
def A8b (l:List Int) (p:Int):ByteArray×Int×Bool:=if p<0 then ((⟨#[]⟩:ByteArray),0,false) else match Kwa l p.toNat with
 |some (s,q)=>(s,(q:Int),true)
 |none=>((⟨#[]⟩:ByteArray),0,false)
theorem Bha (l:List Int) (hb:Al l) (p:Int):Iba l p=(0,0,false)∨∃ n q,0≤p∧Of l p.toNat=some (n,q)∧Iba l p=((n:Int),(q:Int),true)∧n≤1000000000∧q≤l.length:=by
 unfold Iba
 by_cases h:p<0
 ·rw [if_pos h]; exact .inl rfl
 ·rw [if_neg h]
  cases hg:Of l p.toNat with
  |none=>exact .inl rfl
  |some nq=>
   obtain ⟨n,q⟩:=nq
   have:=Ru hb hg
   exact .inr ⟨n,q,by omega,rfl,rfl,this.2.1,this.2.2.2⟩
theorem Kxa (l:List Int) (hb:Al l) (hl:l.length≤1000000000000) (p:Int) (hp:p≤1000000000000):Tot (λ k=>J1 k l p) (λ r=>r=A8b l p):=by
 unfold J1
 refine Tot.bind (Qqa l hb hl p hp) ?_
 rintro r rfl
 unfold A8b Kwa
 rcases Bha l hb p with h|⟨n,q,h0,hg,h,hn,hq⟩
 ·rw [h]
  refine Tot.yes rfl (Tot.pure ?_)
  unfold Iba at h
  split
  ·rfl
  ·rename_i h0
   rw [if_neg h0] at h
   cases hg:Of l p.toNat with
   |none=>rfl
   |some nq=>rw [hg] at h; simp at h
 ·rw [h]
  refine Tot.no rfl ?_
  rw [if_neg (by omega),hg]
  simp only
  rw [w64 (n:=(l.length:Int) - (q:Int)) (by omega) (by omega),w64 (n:=(q:Int)+(n:Int)) (by omega) (by omega)]
  refine Tot.dite (λ hgt=>?_) (λ hgt=>?_)
  ·rw [if_neg (by omega)]
   exact Tot.pure rfl
  ·rw [if_pos (by omega)]
   refine Tot.dec (by omega) (Tot.dec (by omega) (Tot.dec (by omega) (Tot.pure ?_)))
   rw [show Int.toNat ((q:Int)+(n:Int))=q+n by omega,Int.toNat_natCast,List.drop_take,show q+n - q=n by omega]
   simp only [Prod.mk.injEq,true_and,and_true]
   push_cast
   rfl
theorem D0a (l:List Int) (hb:Al l) (hl:l.length≤1000000000000) (p:Int):Tot (λ k=>Ip k l p) (λ r=>r=A8b l p):=by
 unfold Ip
 refine Tot.bind (U0 l hb hl p) ?_
 rintro r rfl
 unfold A8b Kwa
 rcases Bha l hb p with h|⟨n,q,h0,hg,h,hn,hq⟩
 ·rw [h]
  refine Tot.yes rfl (Tot.pure ?_)
  unfold Iba at h
  split
  ·rfl
  ·rename_i h0
   rw [if_neg h0] at h
   cases hg:Of l p.toNat with
   |none=>rfl
   |some nq=>rw [hg] at h; simp at h
 ·rw [h]
  refine Tot.no rfl ?_
  rw [if_neg (by omega),hg]
  simp only
  rw [w64 (n:=(l.length:Int) - (q:Int)) (by omega) (by omega),w64 (n:=(q:Int)+(n:Int)) (by omega) (by omega)]
  refine Tot.dite (λ hgt=>?_) (λ hgt=>?_)
  ·rw [if_neg (by omega)]
   exact Tot.pure rfl
  ·rw [if_pos (by omega)]
   refine Tot.dec (by omega) (Tot.dec (by omega) (Tot.dec (by omega) (Tot.pure ?_)))
   rw [show Int.toNat ((q:Int)+(n:Int))=q+n by omega,Int.toNat_natCast,List.drop_take,show q+n - q=n by omega]
   simp only [Prod.mk.injEq,true_and,and_true]
   push_cast
   rfl
theorem Ica {l:List Int} {p q:Nat} {s:ByteArray} (hb:Al l) (h:Kwa l p=some (s,q)):l.drop p=txt s++l.drop q∧s.size≤1000000000∧p<q∧q≤l.length:=by
 unfold Kwa at h
 split at h
 ·rename_i n q0 hg
  obtain ⟨h1,h2,h3,h4⟩:=Ru hb hg
  split at h
  ·rename_i hle
   simp only [Option.some.injEq,Prod.mk.injEq] at h
   obtain ⟨rfl,rfl⟩:=h
   have hlen:((l.drop q0).take n).length=n:=by rw [List.length_take,List.length_drop]; omega
   have hbb:Al ((l.drop q0).take n):=λ x hx=>hb x (List.mem_of_mem_drop (List.mem_of_mem_take hx))
   refine ⟨?_,by rw [Mj,hlen]; exact h2,by omega,by omega⟩
   unfold txt
   rw [Mj,hlen,Nb hbb,h1,show Bh (n:Int)=n by unfold Bh; omega,List.append_assoc]
   congr 1
   rw [← List.drop_drop,List.take_append_drop]
  ·cases h
 ·cases h
theorem Uja (pre:List Int) (s:ByteArray) (rest:List Int) (hs:s.size≤1000000000):Kwa (pre++(txt s++rest)) pre.length=some (s,pre.length+(txt s).length):=by
 unfold Kwa txt
 have hc:Bh (s.size:Int)=s.size:=by unfold Bh; omega
 rw [hc,List.append_assoc,Kta pre s.size _ hs]
 simp only
 rw [if_pos (by simp only [List.length_append,Pj]; omega)]
 have e:(pre++(Oc s.size++(bytesOf s++rest))).drop (pre.length+(Oc s.size).length)=bytesOf s++rest:=by
  rw [← List.append_assoc,← List.length_append,List.drop_left]
 rw [e,List.take_left' (Pj s),T2]
 simp only [List.length_append,Pj,Option.some.injEq,Prod.mk.injEq,true_and]
 omega

def Ada (b:Bool):Int:=bif b then 1 else 0
theorem Yva (b:Bool):Mt b=some (Ada b):=by cases b<;>rfl
theorem Kya (b:Bool):K6 b=some (Ada b):=by cases b<;>rfl
def Nxa (s:Stp):List Int:=Oc (Bh s.1)++(Oc (Bh s.2.1)++Oc (Bh s.2.2))
theorem D1a (s:Stp):(Nxa s).length≤15:=by
 unfold Nxa
 have h1:=(Ln (Bh s.1)).1
 have h2:=(Ln (Bh s.2.1)).1
 have h3:=(Ln (Bh s.2.2)).1
 simp only [List.length_append]
 omega
theorem N2a (out:List Int) (s:Stp) (b:Bool) (hl:out.length≤999999999900):Tot (λ k=>Hz k out s b) (λ r=>r=out++(Nxa s++Oc (Bh (Ada b)))):=by
 have h1:=(Ln (Bh s.1)).1
 have h2:=(Ln (Bh s.2.1)).1
 have h3:=(Ln (Bh s.2.2)).1
 unfold Hz Nxa
 refine Tot.bind (Xx out s.1 (by omega)) ?_
 rintro r rfl
 refine Tot.bind (Xx _ s.2.1 (by simp only [List.length_append]; omega)) ?_
 rintro r rfl
 refine Tot.bind (Xx _ s.2.2 (by simp only [List.length_append]; omega)) ?_
 rintro r rfl
 refine Tot.bind (Tot.of (Q:=λ y=>y=Ada b) (Yva b) rfl) ?_
 rintro y rfl
 refine Tot.bind (Xx _ (Ada b) (by simp only [List.length_append]; omega)) ?_
 rintro r rfl
 exact Tot.pure (by simp only [List.append_assoc])
theorem Bia (out:List Int) (s:Stp) (hl:out.length≤999999999900):Tot (λ k=>Ir k out s) (λ r=>r=out++Nxa s):=by
 have h1:=(Ln (Bh s.1)).1
 have h2:=(Ln (Bh s.2.1)).1
 unfold Ir Nxa
 refine Tot.bind (U1 out s.1 (by omega)) ?_
 rintro r rfl
 refine Tot.bind (U1 _ s.2.1 (by simp only [List.length_append]; omega)) ?_
 rintro r rfl
 refine Tot.bind (U1 _ s.2.2 (by simp only [List.length_append]; omega)) ?_
 rintro r rfl
 exact Tot.pure (by simp only [List.append_assoc])
theorem Xy {s:ByteArray} (h:B1 s=true):1≤s.size∧s.size≤20:=by
 unfold B1 at h
 rw [Bool.and_eq_true,Dz] at h
 omega
theorem Bja {r:Row} (h:Ma r=true):B1 r.1=true:=by
 unfold Ma at h
 rw [Bool.and_eq_true] at h
 exact h.1
theorem Qra (s:ByteArray):(txt s).length≤5+s.size:=by
 have h1:=(Ln (Bh (s.size:Int))).1
 unfold txt
 simp only [List.length_append,Pj]
 omega

theorem W1 (l:List Int) (p:Nat):Iba l (p:Int)=match Of l p with
 |some (n,q)=>((n:Int),(q:Int),true)
 |none=>(0,0,false):=by
 unfold Iba
 rw [if_neg (by omega),Int.toNat_natCast]
 all_goals cases Of l p<;>rfl
theorem Kza (l:List Int) (p:Nat):A8b l (p:Int)=match Kwa l p with
 |some (s,q)=>(s,(q:Int),true)
 |none=>((⟨#[]⟩:ByteArray),0,false):=by
 unfold A8b
 rw [if_neg (by omega),Int.toNat_natCast]
 all_goals cases Kwa l p<;>rfl
theorem Aea (l:List Int) (hb:Al l) (hl:l.length≤1000000000000) (p:Nat) (hp:p≤l.length) (bad:Bool):
  Tot (λ k=>Cr k (l,(p:Int),bad)) (λ r=>(bad=false∧∃ n q:Nat,Of l p=some (n,q)∧q≤l.length∧r=((n:Int),l,(q:Int),false))∨((bad=true∨Of l p=none)∧r=(0,l,(p:Int),true))):=by
 unfold Cr
 refine Tot.bind (Qqa l hb hl (p:Int) (by omega)) ?_
 rintro r rfl
 refine Tot.ite (λ h=>Tot.pure (.inr ⟨.inl h,rfl⟩)) (λ h=>?_)
 rw [W1]
 cases hg:Of l p with
 |none=>exact Tot.yes rfl (Tot.pure (.inr ⟨.inr rfl,rfl⟩))
 |some nq=>
  obtain ⟨n,q⟩:=nq
  simp only at h
  subst h
  exact Tot.no rfl (Tot.pure (.inl ⟨rfl,n,q,rfl,(Ru hb hg).2.2.2,rfl⟩))
theorem Cvb (l:List Int) (hb:Al l) (hl:l.length≤1000000000000) (p:Nat) (hp:p≤l.length):
  Tot (λ k=>Ci k (l,(p:Int),false)) (λ r=>(∃ (s:ByteArray) (q:Nat),Kwa l p=some (s,q)∧q≤l.length∧r=(s,l,(q:Int),false))∨(Kwa l p=none∧r=((⟨#[]⟩:ByteArray),l,(p:Int),true))):=by
 unfold Ci
 refine Tot.bind (Kxa l hb hl (p:Int) (by omega)) ?_
 rintro r rfl
 refine Tot.no rfl ?_
 rw [Kza]
 cases hg:Kwa l p with
 |none=>exact Tot.yes rfl (Tot.pure (.inr ⟨rfl,rfl⟩))
 |some nq=>
  obtain ⟨n,q⟩:=nq
  exact Tot.no rfl (Tot.pure (.inl ⟨n,q,rfl,(Ica hb hg).2.2.2,rfl⟩))
def Pu (l:List Int) (p:Nat):Option ((Stp×Bool)×Nat):=
 (Of l p).bind λ b=>(Of l b.2).bind λ c=>(Of l c.2).bind λ d=>(Of l d.2).bind λ e=>bif decide (1<e.1) then none else
  some ((((b.1:Int),(c.1:Int),(d.1:Int)),(e.1:Int)==1),e.2)
theorem Cwb (l:List Int) (hb:Al l) (hl:l.length≤1000000000000) (p:Nat) (hp:p≤l.length) (bad:Bool):
  Tot (λ k=>Dl k (l,(p:Int),bad)) (λ r=>(bad=false∧∃ (x:Stp×Bool) (q:Nat),Pu l p=some (x,q)∧q≤l.length∧r=(x.1,x.2,l,(q:Int),false))∨((bad=true∨Pu l p=none)∧∃ s b,∃ q:Nat,q≤l.length∧r=(s,b,l,(q:Int),true))):=by
 unfold Dl
 have nx:∀ {o:Option (Nat×Nat)} {f:Nat×Nat→Option ((Stp×Bool)×Nat)},o=none→o.bind f=none:=by
  intro o f h; rw [h]; rfl
 refine Tot.bind (Aea l hb hl p hp bad) ?_
 rintro r (⟨h0,n1,p1,h1,l1,rfl⟩|⟨h1,rfl⟩)
 ·simp only
  refine Tot.bind (Aea l hb hl p1 l1 false) ?_
  rintro r (⟨_,n2,p2,h2,l2,rfl⟩|⟨h2,rfl⟩)
  ·simp only
   refine Tot.bind (Aea l hb hl p2 l2 false) ?_
   rintro r (⟨_,n3,p3,h3,l3,rfl⟩|⟨h3,rfl⟩)
   ·simp only
    refine Tot.bind (Aea l hb hl p3 l3 false) ?_
    rintro r (⟨_,n4,p4,h4,l4,rfl⟩|⟨h4,rfl⟩)
    ·simp only
     refine Tot.no rfl (Tot.pure ?_)
     have e:Pu l p=bif decide (1<n4) then none else some ((((n1:Int),(n2:Int),(n3:Int)),(n4:Int)==1),p4):=by
      unfold Pu
      simp only [h1,h2,h3,h4,Option.bind_some]
     cases hd:decide (1<n4) with
     |true=>
      rw [hd,cond_true] at e
      refine .inr ⟨.inr e,((n1:Int),(n2:Int),(n3:Int)),((n4:Int)==1),p4,l4,?_⟩
      have:decide ((n4:Int) > 1)=true:=decide_eq_true (by have:=of_decide_eq_true hd; omega)
      rw [this]
     |false=>
      rw [hd,cond_false] at e
      refine .inl ⟨h0,_,p4,e,l4,?_⟩
      have:decide ((n4:Int) > 1)=false:=decide_eq_false (by have:=of_decide_eq_false hd; omega)
      rw [this]
    ·refine Tot.yes rfl (Tot.pure (.inr ⟨.inr ?_,_,_,p3,l3,rfl⟩))
     have h4':=h4.resolve_left (by simp)
     unfold Pu
     simp only [h1,h2,h3,h4',Option.bind_some,Option.bind_none]
   ·simp only
    refine Tot.bind (Aea l hb hl p2 l2 true) ?_
    rintro r (⟨hh,_⟩|⟨_,rfl⟩)
    ·cases hh
    ·refine Tot.yes rfl (Tot.pure (.inr ⟨.inr ?_,_,_,p2,l2,rfl⟩))
     have h3':=h3.resolve_left (by simp)
     unfold Pu
     simp only [h1,h2,h3',Option.bind_some,Option.bind_none]
  ·simp only
   refine Tot.bind (Aea l hb hl p1 l1 true) ?_
   rintro r (⟨hh,_⟩|⟨_,rfl⟩)
   ·cases hh
   ·refine Tot.bind (Aea l hb hl p1 l1 true) ?_
    rintro r (⟨hh,_⟩|⟨_,rfl⟩)
    ·cases hh
    ·refine Tot.yes rfl (Tot.pure (.inr ⟨.inr ?_,_,_,p1,l1,rfl⟩))
     have h2':=h2.resolve_left (by simp)
     unfold Pu
     simp only [h1,h2',Option.bind_some,Option.bind_none]
 ·simp only
  refine Tot.bind (Aea l hb hl p hp true) ?_
  rintro r (⟨hh,_⟩|⟨_,rfl⟩)
  ·cases hh
  ·refine Tot.bind (Aea l hb hl p hp true) ?_
   rintro r (⟨hh,_⟩|⟨_,rfl⟩)
   ·cases hh
   ·refine Tot.bind (Aea l hb hl p hp true) ?_
    rintro r (⟨hh,_⟩|⟨_,rfl⟩)
    ·cases hh
    ·refine Tot.yes rfl (Tot.pure (.inr ⟨?_,_,_,p,hp,rfl⟩))
     rcases h1 with h1|h1
     ·exact .inl h1
     ·refine .inr ?_
      unfold Pu
      rw [h1]
      rfl
theorem Ywa (l:List Int) (hb:Al l) (hl:l.length≤1000000000000) (p:Int):
  Tot (λ k=>Ew k l p) (λ r=>(∃ n1 p1 n2 p2 n3 p3,0≤p∧Of l p.toNat=some (n1,p1)∧Of l p1=some (n2,p2)∧Of l p2=some (n3,p3)∧r=(((n1:Int),(n2:Int),(n3:Int)),(p3:Int),true))∨(((Of l p.toNat).bind λ a=>(Of l a.2).bind λ b=>Of l b.2)=none∨p<0)∧r.2.2=false):=by
 unfold Ew
 refine Tot.bind (U0 l hb hl p) ?_
 rintro r1 rfl
 refine Tot.bind (U0 l hb hl _) ?_
 rintro r2 rfl
 refine Tot.bind (U0 l hb hl _) ?_
 rintro r3 rfl
 by_cases hp:p<0
 ·have:(Iba l p).2.2=false:=by unfold Iba; rw [if_pos hp]
  exact Tot.no this (Tot.pure (.inr ⟨.inr hp,rfl⟩))
 ·have e1:Iba l p=match Of l p.toNat with|some (n,q)=>((n:Int),(q:Int),true)|none=>(0,0,false):=by
   unfold Iba; rw [if_neg hp]; all_goals cases Of l p.toNat<;>rfl
  cases h1:Of l p.toNat with
  |none=>
   rw [h1] at e1
   simp only [e1]
   exact Tot.no rfl (Tot.pure (.inr ⟨.inl rfl,rfl⟩))
  |some a=>
   obtain ⟨n1,p1⟩:=a
   rw [h1] at e1
   simp only [e1,W1,Option.bind_some]
   refine Tot.yes rfl ?_
   cases h2:Of l p1 with
   |none=>exact Tot.no rfl (Tot.pure (.inr ⟨.inl rfl,rfl⟩))
   |some b=>
    obtain ⟨n2,p2⟩:=b
    refine Tot.yes rfl ?_
    simp only [W1,Option.bind_some]
    cases h3:Of l p2 with
    |none=>exact Tot.pure (.inr ⟨.inl rfl,rfl⟩)
    |some c=>
     obtain ⟨n3,p3⟩:=c
     exact Tot.pure (.inl ⟨n1,p1,n2,p2,n3,p3,by omega,rfl,h2,h3,rfl⟩)
theorem Qsa {l:List Int} {p:Nat} (h:((Of l p).bind λ a=>(Of l a.2).bind λ b=>Of l b.2)=none):Pu l p=none:=by
 unfold Pu
 cases h1:Of l p with
 |none=>rfl
 |some a=>
  rw [h1] at h
  simp only [Option.bind_some] at h ⊢
  cases h2:Of l a.2 with
  |none=>rfl
  |some b=>
   rw [h2] at h
   simp only [Option.bind_some] at h ⊢
   rw [h]
   rfl
theorem Fha (a b:List Int) (hf:a.length≤1000000000000) (hl:a.length=b.length):∀ (n i:Nat),a.length - i=n→i≤a.length→
  Tot (λ k=>Dm k a b (i:Int)) (λ r=>(r = .inr ()∧a.drop i=b.drop i)∨(r = .inl false∧a.drop i≠b.drop i)):=by
 intro n
 induction n with
 |zero=>
  intro i hd hi
  refine Tot.succ ?_
  simp only [Dm]
  refine Tot.ndec (by omega) (Tot.pure (.inl ⟨rfl,?_⟩))
  rw [List.drop_of_length_le (by omega),List.drop_of_length_le (by omega)]
 |succ n ih=>
  intro i hd hi
  have h1:i<a.length:=by omega
  refine Tot.succ ?_
  simp only [Dm]
  refine Tot.dec (by omega) (Tot.dec (by omega) (Tot.dec (by omega) (Tot.dec (by omega) (Tot.dec (by omega) ?_))))
  rw [show Int.toNat (i:Int)=i from Int.toNat_natCast i,w64 (n:=(i:Int)+1) (by omega) (by omega),T1 h1,T1 (l:=b) (p:=i) (by omega)]
  refine Tot.ite (λ h=>Tot.pure (.inr ⟨rfl,?_⟩)) (λ h=>?_)
  ·intro e
   injection e with e _
   rw [e] at h
   simp at h
  ·have e:a.getD i 0=b.getD i 0:=by simpa using h
   refine (ih (i+1) (by omega) (by omega)).mono ?_
   rintro r (⟨rfl,h⟩|⟨rfl,h⟩)
   ·exact .inl ⟨rfl,by rw [e,h]⟩
   ·refine .inr ⟨rfl,λ q=>h ?_⟩
    injection q
theorem D2a (a b:List Int) (hf:a.length≤1000000000000):Tot (λ k=>Fq k a b) (λ r=>r=decide (a=b)):=by
 unfold Fq
 refine Tot.ite (λ h=>Tot.pure ?_) (λ h=>?_)
 ·have:a≠b:=λ e=>by subst e; simp at h
  rw [decide_eq_false this]
 ·have hl:a.length=b.length:=by
   have:(a.length:Int)=b.length:=by simpa using h
   omega
  refine Tot.bind (Fha a b hf hl _ 0 rfl (Nat.zero_le _)) ?_
  rintro r (⟨rfl,h⟩|⟨rfl,h⟩)
  ·rw [List.drop_zero,List.drop_zero] at h
   rw [decide_eq_true h]
   exact Tot.pure rfl
  ·rw [List.drop_zero,List.drop_zero] at h
   rw [decide_eq_false h]
   exact Tot.pure rfl

theorem Le:∀ s∈Nc,Jv s∧B1 s=true:=by
 intro s hs
 simp only [Nc,List.mem_cons,List.not_mem_nil,or_false] at hs
 rcases hs with rfl|rfl|rfl|rfl|rfl|rfl<;>exact ⟨by unfold Jv; decide,by decide⟩
theorem Uka {x:Row} (h:Yua x):Ma x=true:=by
 obtain ⟨h1,⟨t0,t1,s0,s1,n0,n1⟩,h3,h4,h5⟩:=h
 unfold Ma Ft
 rw [(Le x.1 h1).2,Dz.2 ⟨t0,t1⟩,Dz.2 ⟨s0,s1⟩,Dz.2 ⟨n0,n1⟩,Dz.2 ⟨h3,by omega⟩]
 cases hd:x.2.2.1 with
 |false=>rfl
 |true=>rw [h5 hd]; rfl
theorem Fia (c:Cur) (hc:Ck c):Tot (λ k=>Jp k c) (λ r=>Ck r.2∧r.1.length≤6∧Pi r.1):=by
 unfold Jp
 refine Tot.bind (Xr c hc) (λ r hr=>?_)
 obtain ⟨k1,hr1,hl⟩:=hr
 have hsh:Pi r.1:=λ q hq=>(Le q.1 (hr1.2 q hq).1).1
 obtain ⟨x,c',e,_,_,_,k2⟩:=Am r.2 k1 8 (by decide)
 refine Tot.bind (Tot.of (Q:=λ r=>r=(x,c')) e rfl) ?_
 rintro y rfl
 refine Tot.ite (λ _=>?_) (λ _=>?_)
 ·refine Tot.bind (Baa c' k2) (λ z hz=>?_)
  refine Tot.ble (by simp only [List.length_cons,List.length_nil]; omega) (Tot.pure ⟨hz.2,?_,?_⟩)
  ·show (r.1++[z.1]).length≤6
   simp only [List.length_append,List.length_cons,List.length_nil]
   omega
  ·intro q hq
   rcases List.mem_append.1 hq with hq|hq
   ·exact hsh q hq
   ·simp only [List.mem_singleton] at hq
    subst hq
    exact (Le _ hz.1.1).1
 ·refine Tot.ite (λ _=>?_) (λ _=>Tot.pure ⟨k2,by show r.1.length≤6; omega,hsh⟩)
  refine Tot.dite (λ h=>?_) (λ h=>Tot.pure ⟨k2,by show r.1.length≤6; omega,hsh⟩)
  obtain ⟨v,c3,e3,_,k3⟩:=Ke c' k2 [(-1),201,200] (by decide) (by decide)
  refine Tot.bind (Tot.of (Q:=λ r=>r=(v,c3)) e3 rfl) ?_
  rintro z rfl
  refine Tot.dec (by omega) (Tot.pure ⟨k3,?_,?_⟩)
  ·show (List.set r.1 _ _).length≤6
   rw [List.length_set]
   omega
  ·intro q hq
   rcases List.mem_or_eq_of_mem_set hq with hq|rfl
   ·exact hsh q hq
   ·have hpos:Int.toNat 0<r.1.length:=by show 0<_; omega
    have h1:Jv (r.1.getD (Int.toNat 0) Md).1:=hsh _ (A4 (d:=Md) hpos)
    exact h1

abbrev Nmd:=ByteArray×List Int
abbrev Dsk:=List Nmd×List Nmd
def Fu:Nmd:=((⟨#[]⟩:ByteArray),[])
def Fja (l:List Nmd):Prop:=l.length≤1000000000000∧∀ x∈l,x.2.length≤1000000000000
def Yxa (d:Dsk):Prop:=Fja d.1∧Fja d.2
theorem D3a (l:List Int) (h:l.length≤1000000000000):Gw l=some l:=by
 unfold Gw
 rw [show Nat.ble ((List.length ([]:List Int)+List.length l) * 1) 140737488355328=true from Nat.ble_eq_true_of_le (by simp only [List.length_nil]; omega)]
 rfl
def fnd (l:List Nmd) (s:ByteArray):Option Nat:=l.findIdx? (λ x=>teq x.1 s)
def L0a (l:List Nmd) (s:ByteArray):Int:=match fnd l s with
 |some i=>(i:Int)
 |none => -1
theorem Qta (l:List Nmd) (s:ByteArray) (hf:l.length≤1000000000000):∀ (n i:Nat),l.length - i=n→i≤l.length→
  Tot (λ k=>Kg k s l (l.length:Int) (i:Int)) (λ r=>r=match fnd (l.drop i) s with|some j => .inl ((i+j:Nat):Int)|none => .inr ()):=by
 intro n
 induction n with
 |zero=>
  intro i hd hi
  refine Tot.succ ?_
  simp only [Kg]
  refine Tot.ndec (by omega) (Tot.pure ?_)
  rw [List.drop_of_length_le (by omega)]
  rfl
 |succ n ih=>
  intro i hd hi
  have hlt:i<l.length:=by omega
  refine Tot.succ ?_
  simp only [Kg]
  refine Tot.dec (by omega) (Tot.dec (by omega) (Tot.dec (by omega) ?_))
  rw [show Int.toNat (i:Int)=i from Int.toNat_natCast i,w64 (n:=(i:Int)+1) (by omega) (by omega),An (d:=Fu) hlt]
  have e0:l.getD i ((⟨#[]⟩:ByteArray),([]:List Int))=l.getD i Fu:=rfl
  rw [e0]
  have e1:fnd (l.getD i Fu::l.drop (i+1)) s=if teq (l.getD i Fu).1 s then some 0 else (fnd (l.drop (i+1)) s).map (· + 1):=by
   unfold fnd
   rw [List.findIdx?_cons]
  rw [e1]
  refine Tot.ite (λ h=>?_) (λ h=>?_)
  ·have h':teq (l.getD i Fu).1 s=true:=h
   rw [if_pos h']
   exact Tot.pure rfl
  ·have h':¬ (teq (l.getD i Fu).1 s=true):=by
    have:teq (l.getD i Fu).1 s=false:=h
    rw [this]; simp
   rw [if_neg h']
   refine (ih (i+1) (by omega) (by omega)).mono ?_
   rintro r rfl
   cases fnd (l.drop (i+1)) s with
   |none=>rfl
   |some j=>
    show Sum.inl _=Sum.inl _
    rw [show i+1+j=i+(j+1) by omega]
theorem Bgb (l:List Nmd) (s:ByteArray) (hf:l.length≤1000000000000):Tot (λ k=>N2 k l s) (λ r=>r=L0a l s):=by
 unfold N2 L0a
 refine Tot.bind (Qta l s hf _ 0 rfl (Nat.zero_le _)) ?_
 rintro r rfl
 rw [List.drop_zero]
 cases fnd l s with
 |none=>exact Tot.pure rfl
 |some j=>
  refine Tot.pure ?_
  rw [Nat.zero_add]
theorem Pq {l:List Nmd} {s:ByteArray} {i:Nat} (h:fnd l s=some i):i<l.length∧(l.getD i Fu).1=s:=by
 unfold fnd at h
 rw [List.findIdx?_eq_some_iff_getElem] at h
 obtain ⟨h1,h2,_⟩:=h
 refine ⟨h1,?_⟩
 rw [List.getD_eq_getElem?_getD,List.getElem?_eq_getElem h1]
 exact Ja.1 h2
def del (l:List Nmd) (s:ByteArray):List Nmd:=match fnd l s with
 |some i=>l.take i++l.drop (i+1)
 |none=>l

def nOk (x:Nmd):Bool:=B1 x.1 && !(decide ((x.2.length:Int) > 400))
def chn:Option ByteArray→List Nmd→Bool
 |_,[]=>true
 |none,r::l=>nOk r&&chn (some r.1) l
 |some q,r::l=>nOk r&&(tlt q r.1&&chn (some r.1) l)
def Io (l:List Nmd):Bool:=chn none l&&decide ((l.length:Int)≤60)
def Ao (d:Dsk):Bool:=Io d.1&&Io d.2
def Nn (l:List Nmd):Prop:=∀ x∈l,Jv x.1
def Bka (d:Dsk):Prop:=Nn d.1∧Nn d.2
def Uw (l:List Nmd):Nat→Option ByteArray
 |0=>none
 |i+1=>some (l.getD i Fu).1
theorem L1a (l:List Nmd) (i:Nat) (h:i<l.length):chn (Uw l i) (l.drop i)=(nOk (l.getD i Fu)&&(bif decide (0<i) then tlt (l.getD (i - 1) Fu).1 (l.getD i Fu).1 else true)&&chn (Uw l (i+1)) (l.drop (i+1))):=by
 rw [An (d:=Fu) h]
 cases i with
 |zero=>simp [Uw,chn]
 |succ i=>simp [Uw,chn,Bool.and_assoc]
theorem Fka (l:List Nmd) (hf:l.length≤1000000000000) (hs:Nn l):∀ (n i:Nat),l.length - i=n→i≤l.length→
  Tot (λ k=>E9 k l l (l.length:Int) (i:Int)) (λ r=>r=bif chn (Uw l i) (l.drop i) then .inr l else .inl false):=by
 intro n
 induction n with
 |zero=>
  intro i hn hi
  refine Tot.succ ?_
  simp only [E9]
  refine Tot.ndec (by omega) (Tot.pure ?_)
  rw [List.drop_of_length_le (by omega)]
  cases Uw l i<;>rfl
 |succ n ih=>
  intro i hn hi
  have hlt:i<l.length:=by omega
  refine Tot.succ ?_
  simp only [E9]
  refine Tot.dec (by omega) (Tot.dec (by omega) (Tot.dec (by omega) ?_))
  rw [show Int.toNat (i:Int)=i from Int.toNat_natCast i,w64 (n:=(i:Int)+1) (by omega) (by omega),L1a l i hlt]
  have h1:=ih (i+1) (by omega) (by omega)
  have e:(((i+1:Nat)):Int)=(i:Int)+1:=by omega
  rw [e] at h1
  have e0:l.getD i ((⟨#[]⟩:ByteArray),([]:List Int))=l.getD i Fu:=rfl
  rw [e0]
  refine Tot.bind (Sz (l.getD i Fu).1 (hs _ (A4 hlt))) ?_
  rintro b rfl
  cases hb:B1 (l.getD i Fu).1 with
  |false=>exact Tot.yes rfl (Tot.pure (by rw [show nOk (l.getD i Fu)=false by unfold nOk; rw [hb]; rfl]; rfl))
  |true=>
   refine Tot.no rfl ?_
   refine Tot.dite (λ h4=>Tot.pure (by rw [show nOk (l.getD i Fu)=false by unfold nOk; rw [decide_eq_true h4,hb]; rfl]; rfl)) (λ h4=>?_)
   have hnk:nOk (l.getD i Fu)=true:=by unfold nOk; rw [hb,decide_eq_false h4]; rfl
   rw [hnk,Bool.true_and]
   refine Tot.dite (λ h0=>?_) (λ h0=>?_)
   ·rw [w64 (n:=(i:Int) - 1) (by omega) (by omega)]
    refine Tot.dec (by omega) (Tot.dec (by omega) ?_)
    rw [show Int.toNat ((i:Int) - 1)=i - 1 by omega,decide_eq_true (show 0<i by omega),cond_true]
    refine Tot.ite (λ ht=>?_) (λ ht=>?_)
    ·have ht':(!(tlt (l.getD (i - 1) Fu).1 (l.getD i Fu).1))=true:=ht
     rw [Bool.not_eq_true'] at ht'
     exact Tot.pure (by rw [ht']; rfl)
    ·have ht':(!(tlt (l.getD (i - 1) Fu).1 (l.getD i Fu).1))=false:=ht
     rw [Bool.not_eq_false'] at ht'
     rw [ht',Bool.true_and]
     exact h1
   ·rw [decide_eq_false (show ¬ 0<i by omega),cond_false,Bool.true_and]
    exact h1
theorem Fla (l:List Nmd) (hf:l.length≤1000000000000) (hs:Nn l):∀ (n i:Nat),l.length - i=n→i≤l.length→
  Tot (λ k=>Fi k l (i:Int)) (λ r=>r=bif chn (Uw l i) (l.drop i) then .inr l else .inl false):=by
 intro n
 induction n with
 |zero=>
  intro i hn hi
  refine Tot.succ ?_
  simp only [Fi]
  refine Tot.ndec (by omega) (Tot.pure ?_)
  rw [List.drop_of_length_le (by omega)]
  cases Uw l i<;>rfl
 |succ n ih=>
  intro i hn hi
  have hlt:i<l.length:=by omega
  refine Tot.succ ?_
  simp only [Fi]
  refine Tot.dec (by omega) (Tot.dec (by omega) (Tot.dec (by omega) ?_))
  rw [show Int.toNat (i:Int)=i from Int.toNat_natCast i,w64 (n:=(i:Int)+1) (by omega) (by omega),L1a l i hlt]
  have h1:=ih (i+1) (by omega) (by omega)
  have e:(((i+1:Nat)):Int)=(i:Int)+1:=by omega
  rw [e] at h1
  have e0:l.getD i ((⟨#[]⟩:ByteArray),([]:List Int))=l.getD i Fu:=rfl
  rw [e0]
  refine Tot.bind (Na (l.getD i Fu).1 (hs _ (A4 hlt))) ?_
  rintro b rfl
  cases hb:B1 (l.getD i Fu).1 with
  |false=>exact Tot.yes rfl (Tot.pure (by rw [show nOk (l.getD i Fu)=false by unfold nOk; rw [hb]; rfl]; rfl))
  |true=>
   refine Tot.no rfl (Tot.dec (by omega) (Tot.dec (by omega) ?_))
   refine Tot.dite (λ h4=>Tot.pure (by rw [show nOk (l.getD i Fu)=false by unfold nOk; rw [decide_eq_true h4,hb]; rfl]; rfl)) (λ h4=>?_)
   have hnk:nOk (l.getD i Fu)=true:=by unfold nOk; rw [hb,decide_eq_false h4]; rfl
   rw [hnk,Bool.true_and]
   refine Tot.dite (λ h0=>?_) (λ h0=>?_)
   ·rw [w64 (n:=(i:Int) - 1) (by omega) (by omega)]
    refine Tot.dec (by omega) (Tot.dec (by omega) (Tot.dec (by omega) (Tot.dec (by omega) ?_)))
    rw [show Int.toNat ((i:Int) - 1)=i - 1 by omega,decide_eq_true (show 0<i by omega),cond_true]
    refine Tot.ite (λ ht=>?_) (λ ht=>?_)
    ·have ht':(!(tlt (l.getD (i - 1) Fu).1 (l.getD i Fu).1))=true:=ht
     rw [Bool.not_eq_true'] at ht'
     exact Tot.pure (by rw [ht']; rfl)
    ·have ht':(!(tlt (l.getD (i - 1) Fu).1 (l.getD i Fu).1))=false:=ht
     rw [Bool.not_eq_false'] at ht'
     rw [ht',Bool.true_and]
     exact h1
   ·rw [decide_eq_false (show ¬ 0<i by omega),cond_false,Bool.true_and]
    exact h1
theorem Fma (l:List Nmd) (hf:l.length≤1000000000000) (hs:Nn l):Tot (λ k=>Dt k l) (λ r=>r=Io l):=by
 unfold Dt Io
 refine Tot.bind (Fka l hf hs _ 0 rfl (Nat.zero_le _)) ?_
 rintro r rfl
 rw [List.drop_zero]
 show Tot _ (λ r=>r=(chn none l&&_))
 cases hc:chn none l with
 |true=>rw [show chn (Uw l 0) l=true from hc]; exact Tot.pure (by rw [Bool.true_and])
 |false=>rw [show chn (Uw l 0) l=false from hc]; exact Tot.pure rfl
theorem Fna (l:List Nmd) (hf:l.length≤1000000000000) (hs:Nn l):Tot (λ k=>Ez k l) (λ r=>r=Io l):=by
 unfold Ez Io
 refine Tot.bind (Fla l hf hs _ 0 rfl (Nat.zero_le _)) ?_
 rintro r rfl
 rw [List.drop_zero]
 show Tot _ (λ r=>r=(chn none l&&_))
 cases hc:chn none l with
 |true=>rw [show chn (Uw l 0) l=true from hc]; exact Tot.pure (by rw [Bool.true_and])
 |false=>rw [show chn (Uw l 0) l=false from hc]; exact Tot.pure rfl
theorem Ula (d:Dsk) (hf:Yxa d) (hs:Bka d):Tot (λ k=>Js k d) (λ r=>r=Ao d):=by
 unfold Js Ao
 refine Tot.bind (Fma d.1 hf.1.1 hs.1) ?_
 rintro r rfl
 cases h:Io d.1 with
 |false=>exact Tot.no rfl (Tot.pure rfl)
 |true=>
  refine Tot.yes rfl (Tot.bind (Fma d.2 hf.2.1 hs.2) ?_)
  rintro r rfl
  exact Tot.pure (by rw [Bool.true_and])
def plc (l:List Nmd) (s:ByteArray):Nat:=(l.takeWhile (λ y=>tlt y.1 s)).length
def ins (l:List Nmd) (x:Nmd):List Nmd:=l.take (plc l x.1)++[x]++l.drop (plc l x.1)

theorem Ida (l:List Int) (h:l.length≤1000000000000):(List.length ([]:List Int)+l.length) * 1≤140737488355328:=by
 simp only [List.length_nil]
 omega
theorem Xz (l:List Nmd) (hf:Fja l):∀ (n i:Nat) (acc:List Nmd),l.length - i=n→i≤l.length→acc.length≤i→
  Tot (λ k=>C0 k l acc (i:Int)) (λ r=>r=acc++l.drop i):=by
 obtain ⟨h1,h2⟩:=hf
 intro n
 induction n with
 |zero=>
  intro i acc hd hi ha
  refine Tot.succ ?_
  simp only [C0]
  refine Tot.ndec (by omega) (Tot.pure ?_)
  rw [List.drop_of_length_le (by omega),List.append_nil]
 |succ n ih=>
  intro i acc hd hi ha
  have hlt:i<l.length:=by omega
  refine Tot.succ ?_
  simp only [C0]
  refine Tot.dec (by omega) (Tot.dec (by omega) (Tot.dec (by omega) (Tot.dec (by omega) (Tot.dec (by omega) ?_))))
  rw [show Int.toNat (i:Int)=i from Int.toNat_natCast i,w64 (n:=(i:Int)+1) (by omega) (by omega),An (d:=Fu) hlt]
  have e0:l.getD i ((⟨#[]⟩:ByteArray),([]:List Int))=l.getD i Fu:=rfl
  rw [e0]
  have hb:=h2 _ (A4 (d:=Fu) hlt)
  refine Tot.ble (Ida _ hb) (Tot.ble (by simp only [List.length_cons,List.length_nil]; omega) ?_)
  refine (ih (i+1) (acc++[l.getD i Fu]) (by omega) (by omega) (by simp only [List.length_append,List.length_cons,List.length_nil]; omega)).mono ?_
  rintro r rfl
  rw [List.append_assoc]
  rfl
theorem Ny (l:List Nmd) (hf:Fja l):Tot (λ k=>B9 k l) (λ r=>r=l):=by
 unfold B9
 refine Tot.bind (Xz l hf _ 0 [] rfl (Nat.zero_le _) (Nat.zero_le _)) ?_
 intro r hr
 rw [List.drop_zero,List.nil_append] at hr
 exact Tot.pure hr
theorem L8 (d:Dsk) (hf:Yxa d):Tot (λ k=>A6 k d) (λ r=>r=d):=by
 unfold A6
 refine Tot.bind (Ny d.1 hf.1) ?_
 rintro r rfl
 refine Tot.bind (Ny d.2 hf.2) ?_
 rintro r rfl
 exact Tot.pure rfl
theorem Qua (l:List Nmd) (s:ByteArray) (hf:l.length≤1000000000000):∀ (n i:Nat),l.length - i=n→i≤l.length→
  Tot (λ k=>It k l s (i:Int)) (λ r=>r=match fnd (l.drop i) s with|some j => .inl ((i+j:Nat):Int)|none => .inr ()):=by
 intro n
 induction n with
 |zero=>
  intro i hd hi
  refine Tot.succ ?_
  simp only [It]
  refine Tot.ndec (by omega) (Tot.pure ?_)
  rw [List.drop_of_length_le (by omega)]
  rfl
 |succ n ih=>
  intro i hd hi
  have hlt:i<l.length:=by omega
  refine Tot.succ ?_
  simp only [It]
  refine Tot.dec (by omega) (Tot.dec (by omega) (Tot.dec (by omega) ?_))
  rw [show Int.toNat (i:Int)=i from Int.toNat_natCast i,w64 (n:=(i:Int)+1) (by omega) (by omega),An (d:=Fu) hlt]
  have e0:l.getD i ((⟨#[]⟩:ByteArray),([]:List Int))=l.getD i Fu:=rfl
  rw [e0]
  have e1:fnd (l.getD i Fu::l.drop (i+1)) s=if teq (l.getD i Fu).1 s then some 0 else (fnd (l.drop (i+1)) s).map (· + 1):=by
   unfold fnd
   rw [List.findIdx?_cons]
  rw [e1]
  refine Tot.ite (λ h=>?_) (λ h=>?_)
  ·have h':teq (l.getD i Fu).1 s=true:=h
   rw [if_pos h']
   exact Tot.pure rfl
  ·have h':¬ (teq (l.getD i Fu).1 s=true):=by
    have:teq (l.getD i Fu).1 s=false:=h
    rw [this]; simp
   rw [if_neg h']
   refine (ih (i+1) (by omega) (by omega)).mono ?_
   rintro r rfl
   cases fnd (l.drop (i+1)) s with
   |none=>rfl
   |some j=>
    show Sum.inl _=Sum.inl _
    rw [show i+1+j=i+(j+1) by omega]
theorem Bla (l:List Nmd) (s:ByteArray) (hf:l.length≤1000000000000):Tot (λ k=>Cw k l s) (λ r=>r=L0a l s):=by
 unfold Cw L0a
 refine Tot.bind (Qua l s hf _ 0 rfl (Nat.zero_le _)) ?_
 rintro r rfl
 rw [List.drop_zero]
 cases fnd l s with
 |none=>exact Tot.pure rfl
 |some j=>
  refine Tot.pure ?_
  rw [Nat.zero_add]
def cut (l:List Nmd) (s:ByteArray):List Nmd:=l.filter (λ x => !(teq x.1 s))
theorem N3a (l:List Nmd) (s:ByteArray) (hf:l.length≤1000000000000):∀ (n i:Nat) (acc:List Nmd),l.length - i=n→i≤l.length→acc.length≤i→
  Tot (λ k=>H4 k l s acc (i:Int)) (λ r=>r=acc++cut (l.drop i) s):=by
 intro n
 induction n with
 |zero=>
  intro i acc hd hi ha
  refine Tot.succ ?_
  simp only [H4]
  refine Tot.ndec (by omega) (Tot.pure ?_)
  rw [List.drop_of_length_le (by omega)]
  simp [cut]
 |succ n ih=>
  intro i acc hd hi ha
  have hlt:i<l.length:=by omega
  refine Tot.succ ?_
  simp only [H4]
  refine Tot.dec (by omega) (Tot.dec (by omega) (Tot.dec (by omega) ?_))
  rw [show Int.toNat (i:Int)=i from Int.toNat_natCast i,w64 (n:=(i:Int)+1) (by omega) (by omega),An (d:=Fu) hlt]
  have e0:l.getD i ((⟨#[]⟩:ByteArray),([]:List Int))=l.getD i Fu:=rfl
  rw [e0]
  have e1:cut (l.getD i Fu::l.drop (i+1)) s=if (!(teq (l.getD i Fu).1 s))=true then l.getD i Fu::cut (l.drop (i+1)) s else cut (l.drop (i+1)) s:=by
   unfold cut
   rw [List.filter_cons]
  rw [e1]
  refine Tot.ite (λ h=>?_) (λ h=>?_)
  ·have h':(!(teq (l.getD i Fu).1 s))=true:=h
   rw [if_pos h']
   refine Tot.dec (by omega) (Tot.dec (by omega) (Tot.ble (by simp only [List.length_cons,List.length_nil]; omega) ?_))
   refine (ih (i+1) (acc++[l.getD i Fu]) (by omega) (by omega) (by simp only [List.length_append,List.length_cons,List.length_nil]; omega)).mono ?_
   rintro r rfl
   rw [List.append_assoc]
   rfl
  ·have h':¬ ((!(teq (l.getD i Fu).1 s))=true):=by
    have:(!(teq (l.getD i Fu).1 s))=false:=h
    rw [this]; simp
   rw [if_neg h']
   exact ih (i+1) acc (by omega) (by omega) (by omega)
theorem Qva (l:List Nmd) (s:ByteArray) (hf:l.length≤1000000000000):Tot (λ k=>Ie k l s) (λ r=>r=cut l s):=by
 unfold Ie
 refine Tot.bind (N3a l s hf _ 0 [] rfl (Nat.zero_le _) (Nat.zero_le _)) ?_
 intro r hr
 rw [List.drop_zero,List.nil_append] at hr
 exact Tot.pure hr
theorem Pk (d:Dsk) (hf:Yxa d) (hs:Bka d):Tot (λ k=>Be k d) (λ r=>r=Ao d):=by
 unfold Be Ao
 refine Tot.bind (Fna d.1 hf.1.1 hs.1) ?_
 rintro r rfl
 cases h:Io d.1 with
 |false=>exact Tot.no rfl (Tot.pure rfl)
 |true=>
  refine Tot.yes rfl (Tot.bind (Fna d.2 hf.2.1 hs.2) ?_)
  rintro r rfl
  exact Tot.pure (by rw [Bool.true_and])

def rdN (l:List Nmd) (s:ByteArray):List Int×Bool:=match fnd l s with
 |some i=>((l.getD i Fu).2,true)
 |none=>([],false)
theorem Uma (d:Dsk) (s:ByteArray) (hf:Fja d.1):Tot (λ k=>I0 k d s) (λ r=>r=rdN d.1 s):=by
 unfold I0 rdN
 refine Tot.bind (Bgb d.1 s hf.1) ?_
 rintro r rfl
 unfold L0a
 have hl1:=hf.1
 cases h:fnd d.1 s with
 |none=>exact Tot.dec (by decide) (Tot.pure rfl)
 |some i=>
  have hl:=(Pq h).1
  dsimp only
  refine Tot.ndec (by omega) (Tot.dec (by omega) (Tot.dec (by omega) ?_))
  rw [show Int.toNat (i:Int)=i from Int.toNat_natCast i]
  have hb:=hf.2 _ (A4 (d:=Fu) hl)
  refine Tot.bind (Tot.of (Q:=λ r=>r=(d.1.getD i Fu).2) (D3a _ hb) rfl) ?_
  rintro r rfl
  exact Tot.pure rfl
theorem L2a (d:Dsk) (s:ByteArray) (hf:Fja d.1):Tot (λ k=>Em k d s) (λ r=>r=rdN d.1 s):=by
 unfold Em rdN
 refine Tot.bind (Bla d.1 s hf.1) ?_
 rintro r rfl
 unfold L0a
 have hl1:=hf.1
 cases h:fnd d.1 s with
 |none=>exact Tot.dec (by decide) (Tot.pure rfl)
 |some i=>
  have hl:=(Pq h).1
  dsimp only
  refine Tot.ndec (by omega) (Tot.dec (by omega) (Tot.dec (by omega) ?_))
  rw [show Int.toNat (i:Int)=i from Int.toNat_natCast i]
  have hb:=hf.2 _ (A4 (d:=Fu) hl)
  exact Tot.ble (Ida _ hb) (Tot.pure rfl)

end Go.Proofs.YtmhhjceoinoekaaGreat.Vf
