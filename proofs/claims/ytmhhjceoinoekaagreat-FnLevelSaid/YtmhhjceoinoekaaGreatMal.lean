import Derived.Test.YtmhhjceoinoekaaGreatMak
import Derived.Test.YtmhhjceoinoekaaGreatMab
import Derived.IntWalk
import Derived.Laws.StructEq
set_option linter.all false
namespace Go.Proofs.YtmhhjceoinoekaaGreat.Vf
open Go
open List (length getD)
open Int (toNat)
open Go.IntKind (wrap)
open BitVec (ofInt)
def Vb:=@Int.toNat_natCast
def Vx:=@Bool.true_and
def We:=@List.drop_length
def Wj:=@List.drop_of_length_le
def Wm:=@Bool.not_eq_false'
def Yn:=@List.mem_or_eq_of_mem_set
def Ys:=@Bool.false_and
def Zf:=@List.mem_iff_getElem
def Zk:=@List.pairwise_iff_getElem
def Ikb:=@List.not_mem_nil
def Ilb:=@Nat.pow_succ
def Imb:=@Int.tmod_eq_emod_of_nonneg
def Inb:=@Int.fdiv_eq_ediv_of_nonneg
def Ipb:=@Sum.elim_inr
def Iyb:=@Int.tdiv_eq_ediv_of_nonneg
def J1b:=@Option.bind_none
def J4b:=@List.findIdx?_eq_some_iff_getElem
def Jab:=@List.find?_cons
def Jib:=@Option.some.inj
def Job:=@BitVec.toNat_and
def Jqb:=@List.getElem_of_mem
def K0b:=@BitVec.toNat_ofInt
def K1b:=@IntKind.wrap_u8
def K2b:=@List.findIdx?_cons
def Kcb:=@List.Pairwise.sublist
def Kdb:=@Nat.and_two_pow_sub_one_eq_mod
def Kzb:=@List.mem_of_find?_eq_some
def L0b:=@Nat.mul_le_mul
def L3b:=@List.take_sublist
def L8b:=@List.getElem_set
def Ldb:=@Bool.and_eq_false_iff
def Lpb:=@Nat.mul_comm

def Tot {α:Type} (f:Nat→Option α) (Q:α→Prop):Prop:=∃ r K,(∀ k,K≤k→f k=some r)∧Q r
section
variable {α β:Type} {f g:Nat→Option α} {Q Q':α→Prop}
def Tot.mono (h:Tot f Q) (hq:∀ a,Q a→Q' a):Tot f Q':=by
 obtain⟨r,K,h1,h2⟩:=h
 exact⟨r,K,h1,hq r h2⟩
def I0b {a:α} (h:Q a):Tot (λ _=>some a) Q:=⟨a,0,λ _ _=>rfl,h⟩
def Ieb {o:Option α} {a:α} (e:o=some a) (h:Q a):Tot (λ _=>o) Q:=⟨a,0,λ _ _=>e,h⟩
def I1b {h:Nat→α→Option β} {R:β→Prop} (hf:Tot f Q) (hh:∀ a,Q a→Tot (λ k=>h k a) R):Tot (λ k=>(f k).bind (h k)) R:=by
 obtain⟨a,K,h1,h2⟩:=hf
 obtain⟨b,L,h3,h4⟩:=hh a h2
 exact⟨b,max K L,λ k hk=>by show (f k).bind (h k)=_;rw[h1 k (by omega)];exact h3 k (by omega),h4⟩
def I3b {c:Bool} (hc:c=true) (h:Tot f Q):Tot (λ k=>cond c (f k) (g k)) Q:=by subst hc;exact h
def I2b {c:Bool} (hc:c=false) (h:Tot g Q):Tot (λ k=>cond c (f k) (g k)) Q:=by subst hc;exact h
def I6b {c:Bool} (h1:c=true→Tot f Q) (h2:c=false→Tot g Q):Tot (λ k=>cond c (f k) (g k)) Q:=by
 cases hc:c with
 |true=>exact h1 hc
 |false=>exact h2 hc
def I4b {p:Prop} [Decidable p] (hp:p) (h:Tot f Q):Tot (λ k=>cond (decide p) (f k) (g k)) Q:=I3b (decide_eq_true hp) h
def I5b {p:Prop} [Decidable p] (hp:¬ p) (h:Tot g Q):Tot (λ k=>cond (decide p) (f k) (g k)) Q:=I2b (decide_eq_false hp) h
def I7b {p:Prop} [Decidable p] (h1:p→Tot f Q) (h2:¬ p→Tot g Q):Tot (λ k=>cond (decide p) (f k) (g k)) Q:=
 I6b (λ h=>h1 (of_decide_eq_true h)) (λ h=>h2 (of_decide_eq_false h))
def I8b {m n:Nat} (hp:m≤n) (h:Tot f Q):Tot (λ k=>cond (Nat.ble m n) (f k) (g k)) Q:=I3b (Zp hp) h
def Icb {v:α} {h:Nat→α→Option β} {R:β→Prop} (hf:Tot f (λ r=>r=v)) (hh:Tot (λ k=>h k v) R):Tot (λ k=>(f k).bind (h k)) R:=
 I1b hf (by rintro r rfl;exact hh)
def Idb {c:Bool} (h1:c=false→Tot f Q) (h2:c=true→Tot g Q):Tot (λ k=>cond (!c) (f k) (g k)) Q:=by
 cases hc:c with
 |true=>exact h2 hc
 |false=>exact h1 hc
def Tot.succ (h:Tot (λ k=>f (k+1)) Q):Tot f Q:=by
 obtain⟨r,K,h1,h2⟩:=h
 exact⟨r,K+1,λ k hk=>by obtain⟨m,rfl⟩:∃ m,k=m+1:=⟨k-1,by omega⟩;exact h1 m (by omega),h2⟩
def Tot.and (h:Tot f Q) (h':Tot f Q'):Tot f (λ a=>Q a∧Q' a):=by
 obtain⟨r,K,h1,h2⟩:=h
 obtain⟨r',K',h1',h2'⟩:=h'
 have e:r=r':=by
  have a1:=h1 (max K K') (by omega)
  have a2:=h1' (max K K') (by omega)
  rw[a1]at a2
  exact Jib a2
 subst e
 exact⟨r,K,h1,h2,h2'⟩
def Tot.law {f:Nat→Option Bool} (h:Tot f (λ b=>b=true)):∃ k,f k=some true:=by
 obtain⟨r,K,h1,h2⟩:=h
 subst h2
 exact⟨K,h1 K (Vv _)⟩
end
def w64 {n:Int} (h1 : -9223372036854775808≤n) (h2:n≤9223372036854775807):wrap .i64 n=n:=Go.IntWalk.i64_in n ⟨h1,h2⟩
def Dca (n:Int) : -9223372036854775808≤wrap .i64 n∧wrap .i64 n≤9223372036854775807:=by
 rw[IntKind.wrap_i64]
 omega
def Hfa (n:Int):0≤wrap .u8 n∧wrap .u8 n≤255:=by
 simp only[wrap,IntKind.signed,IntKind.bits]
 simp
 omega
def N2a (x m:Int) (h0:0≤m) (h1:m<9223372036854775808):0≤wrap .i64 ((ofInt (IntKind.bits .i64) x &&& ofInt (IntKind.bits .i64) m).toNat)∧wrap .i64 ((ofInt (IntKind.bits .i64) x &&& ofInt (IntKind.bits .i64) m).toNat)≤m:=by
 have hm:(ofInt (IntKind.bits .i64) m).toNat=m.toNat:=by
  rw[K0b]
  show (m % ((2 ^ 64:Nat):Int)).toNat=m.toNat
  rw[Int.emod_eq_of_lt h0 (by omega)]
 have hle:(ofInt (IntKind.bits .i64) x &&& ofInt (IntKind.bits .i64) m).toNat≤m.toNat:=by
  rw[Job,hm]
  exact Nat.and_le_right
 rw[w64 (by omega) (by omega)]
 omega
def T7a {x n:Int} (hx:0≤x) (hn:0<n):0≤Int.tmod x n∧Int.tmod x n<n:=by
 rw[Imb hx]
 exact⟨Int.emod_nonneg _ (by omega),Int.emod_lt_of_pos _ hn⟩

abbrev Cur:=List Int×Int×Int
def M4 (c:Cur):Prop:=(c.1.length:Int)≤1048576∧0≤c.2.1∧c.2.1≤1048576
def Pba (b:List Int) (hb:(b.length:Int)≤1048576):∀ (n:Nat) (h i:Int),0≤i→i+n=4001→Tot (λ k=>Id k b h i) (λ r=>r.1=b):=by
 intro n
 induction n with
 |zero=>
  intro h i h0 hi
  refine Tot.succ ?_
  simp only[Id]
  refine I7b (λ h1=>?_) (λ h1=>I0b rfl)
  exact I5b (by omega) (I0b rfl)
 |succ n ih=>
  intro h i h0 hi
  refine Tot.succ ?_
  simp only[Id]
  refine I7b (λ h1=>?_) (λ h1=>I0b rfl)
  refine I7b (λ h2=>?_) (λ h2=>I0b rfl)
  refine I4b h0 (I4b h1 ?_)
  rw[w64 (n:=i+1) (by omega) (by omega)]
  exact ih _ _ (by omega) (by omega)
def T8a (b:List Int) (hb:(b.length:Int)≤1048576):Tot (λ k=>Kt k b) M4:=by
 unfold Kt
 refine I1b (Pba b hb 4001 _ 0 (by omega) (by omega)) (λ r hr=>?_)
 exact I0b ⟨by rw[hr];exact hb,Iob 0,by show (0:Int)≤1048576;omega⟩
def Rv (c:Cur) (hc:M4 c):∃ x c',Fq c=some (x,c')∧0≤x∧x≤255∧M4 c':=by
 obtain⟨h1,h2,h3⟩:=hc
 unfold Fq
 by_cases hlt:c.2.1<(c.1.length:Int)
 ·simp only[hlt,h2,decide_true,cond_true]
  obtain⟨a1,a2⟩:=N2a (wrap .i64 ((wrap .i64 ((ofInt (IntKind.bits .i64) (wrap .i64 ((ofInt (IntKind.bits .i64) (Int.fdiv (wrap .i64 ((wrap .i64 (c.2.2*6364136223846793005))+1442695040888963407)) (2 ^ (min (toNat 33) (IntKind.bits .i64)))) ^^^ ofInt (IntKind.bits .i64) (Int.fdiv (wrap .i64 ((wrap .i64 (c.2.2*6364136223846793005))+1442695040888963407)) (2 ^ (min (toNat 47) (IntKind.bits .i64))))).toNat)) &&& ofInt (IntKind.bits .i64) 255).toNat))+(wrap .i64 (getD c.1 (toNat c.2.1) (0:Int))))) 255 (by omega) (by omega)
  refine⟨_,_,rfl,a1,a2,h1,?_,?_⟩
  ·show 0≤wrap .i64 (c.2.1+1)
   rw[w64 (by omega) (by omega)]
   omega
  ·show wrap .i64 (c.2.1+1)≤1048576
   rw[w64 (by omega) (by omega)]
   omega
 ·simp only[hlt,decide_false,cond_false]
  obtain⟨a1,a2⟩:=N2a (wrap .i64 ((ofInt (IntKind.bits .i64) (Int.fdiv (wrap .i64 ((wrap .i64 (c.2.2*6364136223846793005))+1442695040888963407)) (2 ^ (min (toNat 33) (IntKind.bits .i64)))) ^^^ ofInt (IntKind.bits .i64) (Int.fdiv (wrap .i64 ((wrap .i64 (c.2.2*6364136223846793005))+1442695040888963407)) (2 ^ (min (toNat 47) (IntKind.bits .i64))))).toNat)) 255 (by omega) (by omega)
  exact⟨_,_,rfl,a1,a2,h1,h2,h3⟩
def Ku (c:Cur) (hc:M4 c) (n:Int) (hn:n≤1000000000):∃ x c',A8 c n=some (x,c')∧0≤x∧(0<n→x<n)∧(n≤0→x=0)∧M4 c':=by
 unfold A8
 by_cases h0:n≤0
 ·exact⟨0,c,by simp only[h0,decide_true,cond_true],by omega,by omega,λ _=>rfl,hc⟩
 ·by_cases h1:n≤256
  ·obtain⟨x,c',e,b0,b1,k⟩:=Rv c hc
   have hz:¬ n=0:=by omega
   have:=T7a b0 (show 0<n by omega)
   exact⟨Int.tmod x n,c',by simp only[h0,h1,hz,decide_true,decide_false,cond_true,cond_false,e,Vp],this.1,λ _=>this.2,λ h=>by omega,k⟩
  ·obtain⟨x,c1,e1,b0,b1,k1⟩:=Rv c hc
   obtain⟨y,c2,e2,b2,b3,k2⟩:=Rv c1 k1
   obtain⟨z,c3,e3,b4,b5,k3⟩:=Rv c2 k2
   have hz:¬ n=0:=by omega
   have:=T7a (show 0≤x*65536+y*256+z by omega) (show 0<n by omega)
   refine⟨Int.tmod (x*65536+y*256+z) n,c3,?_,this.1,λ _=>this.2,λ h=>by omega,k3⟩
   simp only[h0,h1,hz,decide_false,cond_false,e1,e2,e3,Vp]
   rw[w64 (n:=x*65536) (by omega) (by omega),w64 (n:=y*256) (by omega) (by omega),w64 (n:=x*65536+y*256) (by omega) (by omega),w64 (n:=x*65536+y*256+z) (by omega) (by omega)]
def N3a {α:Type} {l:List α} {i:Int} {d:α} (h0:0≤i) (h1:i<(l.length:Int)):l.getD i.toNat d∈l:=by
 have h:i.toNat<l.length:=by omega
 rw[Vc,Vj h]
 exact Keb h
def Qq (c:Cur) (hc:M4 c) (l:List Int) (hl:0<l.length) (hm:l.length≤2000000):∃ x c',Bv c l=some (x,c')∧x∈l∧M4 c':=by
 obtain⟨i,c',e,b0,b1,_,k⟩:=Ku c hc (l.length:Int) (by omega)
 have b1:=b1 (by omega)
 refine⟨l.getD i.toNat 0,c',?_,N3a b0 b1,k⟩
 unfold Bv
 simp only[e,Vp,b0,b1,decide_true,cond_true]
def Xua (c:Cur) (hc:M4 c) (l:List ByteArray) (hl:0<l.length) (hm:l.length≤2000000):∃ x c',Lh c l=some (x,c')∧x∈l∧M4 c':=by
 obtain⟨i,c',e,b0,b1,_,k⟩:=Ku c hc (l.length:Int) (by omega)
 have b1:=b1 (by omega)
 refine⟨l.getD i.toNat (⟨#[]⟩:ByteArray),c',?_,N3a b0 b1,k⟩
 unfold Lh
 simp only[e,Vp,b0,b1,decide_true,cond_true]
def Ap (l:List Int):Prop:=∀ x∈l,0≤x∧x≤255
def Hga (m:Int) (hm:m≤1000):∀ (n:Nat) (l:List Int) (i:Int) (c:Cur),M4 c→0≤i→i≤max m 0→(max m 0)-i=n→(l.length:Int)=i→Ap l→
  Tot (λ k=>Ft k m l i c.1 c.2.1 c.2.2) (λ r=>M4 r.2∧Ap r.1∧(r.1.length:Int)=max m 0):=by
 intro n
 induction n with
 |zero=>
  intro l i c hc h0 h1 hn hl hb
  refine Tot.succ ?_
  simp only[Ft]
  refine I5b (by omega) (I0b ⟨hc,hb,by show (l.length:Int)=_;omega⟩)
 |succ n ih=>
  intro l i c hc h0 h1 hn hl hb
  refine Tot.succ ?_
  simp only[Ft]
  refine I4b (by omega) ?_
  obtain⟨x,c',e,b0,b1,k⟩:=Rv c hc
  refine Icb (Ieb (Q:=λ r=>r=(x,c')) e rfl) ?_
  refine I8b (by simp only[Vd,Vk];omega) ?_
  rw[w64 (n:=i+1) (by omega) (by omega)]
  refine ih _ _ c' k (by omega) (by omega) (by omega) (by simp only[Ve,Vd,Vk];omega) ?_
  intro y hy
  rcases Vo.1 hy with hy|hy
  ·exact hb y hy
  ·simp only[Vu]at hy
   subst hy
   exact Hfa _
def Pca (c:Cur) (hc:M4 c):Tot (λ k=>Fv k c) (λ r=>M4 r.2∧Ap r.1∧(r.1.length:Int)≤9):=by
 unfold Fv
 obtain⟨x,c',e,hx,k⟩:=Qq c hc [0,1,2,5,9] (by decide) (by decide)
 have hx':0≤x∧x≤9:=by
  simp only[Vl,Ikb,or_false]at hx
  omega
 refine Icb (Ieb (Q:=λ r=>r=(x,c')) e rfl) ?_
 refine I1b (Q:=λ r=>M4 r.2∧Ap r.1∧(r.1.length:Int)≤9) ?_ (λ r hr=>I0b hr)
 unfold Fu
 refine I1b (Hga x (by omega) (max x 0-0).toNat [] 0 c' k (by omega) (by omega) (by omega) rfl (by intro y hy;simp at hy)) (λ r hr=>I0b ?_)
 exact⟨hr.1,hr.2.1,by show (r.1.length:Int)≤9;rw[hr.2.2];omega⟩
abbrev Stp:=Int×Int×Int
abbrev Row:=ByteArray×Stp×Bool×Int
abbrev Fil:=Stp×Bool×List Int
def Kw:List ByteArray:=[(⟨#[97]⟩:ByteArray),(⟨#[98]⟩:ByteArray),(⟨#[99,97,116,47,49]⟩:ByteArray),(⟨#[99,97,116,47,50]⟩:ByteArray),(⟨#[100,111,103]⟩:ByteArray),(⟨#[120,45,49]⟩:ByteArray)]
def T9a (c:Cur) (hc:M4 c):∃ x c',Ke c=some (x,c')∧x∈Kw∧M4 c':=by
 obtain⟨x,c',e,hx,k⟩:=Xua c hc Kw (by decide) (by decide)
 exact⟨x,c',by unfold Ke;unfold Kw at e;simp only[e,Vp],hx,k⟩

def Hha:∀ (a:List UInt8),Op.bytesLess a a=false
 |[]=>rfl
 |a::l=>by simp[Op.bytesLess,Hha l]
def N4a:∀ (a b c:List UInt8),Op.bytesLess a b=true→Op.bytesLess b c=true→Op.bytesLess a c=true
 |_,[],_,h,_=>by simp[Op.bytesLess]at h
 |_,_::_,[],_,h=>by simp[Op.bytesLess]at h
 |[],_::_,_::_,_,_=>rfl
 |a::x,b::y,c::z,h1,h2=>by
  simp only[Op.bytesLess,Zy,Va,decide_eq_true_eq,beq_iff_eq]at h1 h2 ⊢
  rcases h1 with h1|⟨rfl,h1⟩
  ·rcases h2 with h2|⟨rfl,h2⟩
   ·exact .inl (UInt8.lt_trans h1 h2)
   ·exact .inl h1
  ·rcases h2 with h2|⟨rfl,h2⟩
   ·exact .inl h2
   ·exact .inr ⟨rfl,N4a x y z h1 h2⟩
def Acb:∀ (a b:List UInt8),Op.bytesLess a b=false→Op.bytesLess b a=false→a=b
 |[],[],_,_=>rfl
 |[],_::_,h,_=>by simp[Op.bytesLess]at h
 |_::_,[],_,h=>by simp[Op.bytesLess]at h
 |a::x,b::y,h1,h2=>by
  simp only[Op.bytesLess,Bool.or_eq_false_iff,Ldb,decide_eq_false_iff_not]at h1 h2
  have hab:a=b:=by
   have h3:=UInt8.not_lt.1 h1.1
   have h4:=UInt8.not_lt.1 h2.1
   exact UInt8.le_antisymm h4 h3
  subst hab
  rw[Acb x y (h1.2.resolve_left (by simp)) (h2.2.resolve_left (by simp))]
def tlt (a b:ByteArray):Bool:=Op.bytesLess a.toList b.toList
def teq (a b:ByteArray):Bool:=a.toList==b.toList
def Dda {a b:ByteArray} (h:a.toList=b.toList):a=b:=by
 rw[ByteArray.toList_eq,ByteArray.toList_eq]at h
 obtain⟨⟨x⟩⟩:=a
 obtain⟨⟨y⟩⟩:=b
 simp only at h
 rw[h]
def Cr {a b:ByteArray}:teq a b=true↔a=b:=by
 unfold teq
 rw[beq_iff_eq]
 exact⟨Dda,λ h=>by rw[h]⟩
def I9 (a:ByteArray):tlt a a=false:=Hha _
def N0 {a b c:ByteArray} (h:tlt a b=true) (h':tlt b c=true):tlt a c=true:=N4a _ _ _ h h'
def Aza {a b:ByteArray} (h:tlt a b=false) (h':tlt b a=false):a=b:=Dda (Acb _ _ h h')
def Uj {a b:ByteArray} (h:tlt a b=true):tlt b a=false:=by
 cases hb:tlt b a
 ·rfl
 have:=N0 h hb
 rw[I9]at this
 cases this
def Hia (a b:ByteArray):(!(Op.bytesLess a.toList b.toList||a.toList==b.toList))=tlt b a:=by
 show (!(tlt a b||teq a b))=tlt b a
 cases h1:tlt a b
 case true=>rw[Uj h1];rfl
 cases h2:teq a b
 case true=>rw[Cr.1 h2,I9];rfl
 cases h3:tlt b a
 case true=>rfl
 exfalso
 have:=Aza h1 h3
 rw[Cr.2 this]at h2
 cases h2
def sle (a b:Stp):Bool:=cond (a.1 != b.1) (decide (a.1<b.1)) (cond (a.2.1 != b.2.1) (decide (a.2.1<b.2.1)) (decide (a.2.2<b.2.2)))
def N5a (a b:Stp):Dz a b=some (sle a b):=by
 unfold Dz sle
 cases a.1 != b.1<;>cases a.2.1 != b.2.1<;>rfl
def Uk (a b:Stp):Aq a b=some (sle a b):=by
 unfold Aq sle
 cases a.1 != b.1<;>cases a.2.1 != b.2.1<;>rfl
def Pn {a b:Stp}:sle a b=true↔a.1<b.1∨(a.1=b.1∧(a.2.1<b.2.1∨(a.2.1=b.2.1∧a.2.2<b.2.2))):=by
 unfold sle
 by_cases h1:a.1=b.1
 ·by_cases h2:a.2.1=b.2.1
  ·simp[h1,h2]
  ·have:(a.2.1 != b.2.1)=true:=by simpa using h2
   simp[h1,this,h2]
 ·have:(a.1 != b.1)=true:=by simpa using h1
  simp[this,h1]
def Lr (a b:Row):Bool:=cond (!((a.2.1.1==b.2.1.1)&&((a.2.1.2.1==b.2.1.2.1)&&(a.2.1.2.2==b.2.1.2.2)))) (sle a.2.1 b.2.1) (cond (!(a.2.2.1==b.2.2.1)) b.2.2.1 (decide (a.2.2.2<b.2.2.2)))
def Kha (a b:Row):Jh a b=some (Lr a b):=by
 unfold Jh Lr
 rw[N5a]
 cases (!((a.2.1.1==b.2.1.1)&&((a.2.1.2.1==b.2.1.2.1)&&(a.2.1.2.2==b.2.1.2.2))))<;>cases (!(a.2.2.1==b.2.2.1))<;>rfl
def Taa (a b:Row):Il a b=some (Lr b a):=by
 unfold Il Lr
 rw[Uk,BEq.comm (a:=a.2.1.1),BEq.comm (a:=a.2.1.2.1),BEq.comm (a:=a.2.1.2.2),BEq.comm (a:=a.2.2.1)]
 cases (!((b.2.1.1==a.2.1.1)&&((b.2.1.2.1==a.2.1.2.1)&&(b.2.1.2.2==a.2.1.2.2))))<;>cases (!(b.2.2.1==a.2.2.1))<;>rfl
def M0:Row:=((⟨#[]⟩:ByteArray),(((0:Int),((0:Int),(0:Int))),(false,(0:Int))))
def Ti (s:ByteArray):List Row→Nat→Option Nat
 |[],_=>none
 |r::l,i=>bif teq r.1 s then some i else Ti s l (i+1)
def V7 (l:List Row) (s:ByteArray):Nat→Nat
 |0=>0
 |k+1=>bif tlt s (l.getD k M0).1 then V7 l s k else k+1
def mrg (l:List Row) (x:Row):List Row:=match Ti x.1 l 0 with
 |some i=>bif Lr (l.getD i M0) x then l.set i x else l
 |none=>l.take (V7 l x.1 l.length)++x::l.drop (V7 l x.1 l.length)
def B0a (l:List Row) (s:ByteArray):∀ k,V7 l s k≤k
 |0=>Vv _
 |k+1=>by
  unfold V7
  cases tlt s (l.getD k M0).1 with
  |true=>have:=B0a l s k;simp only[cond_true];omega
  |false=>simp only[cond_false];omega
def Sn {s:ByteArray}:∀ (l:List Row) (i j:Nat),Ti s l i=some j→i≤j∧j<i+l.length∧teq (l.getD (j-i) M0).1 s=true
 |[],i,j,h=>by simp[Ti]at h
 |r::l,i,j,h=>by
  unfold Ti at h
  cases ht:teq r.1 s with
  |true=>
   rw[ht]at h
   simp only[cond_true,Vg]at h
   subst h
   refine⟨Vv _,by simp,?_⟩
   rw[Jdb]
   exact ht
  |false=>
   rw[ht]at h
   simp only[cond_false]at h
   obtain⟨h1,h2,h3⟩:=Sn l (i+1) j h
   refine⟨by omega,by simp only[Vd];omega,?_⟩
   rw[show j-i=(j-(i+1))+1 by omega]
   exact h3
def Ai {α:Type} {l:List α} {i:Nat} {d:α} (h:i<l.length):l.drop i=l.getD i d::l.drop (i+1):=by
 rw[Zg h,Vc,Vj h]
 rfl
def Few (l:List Row):Prop:=l.length≤1000000000000
def Hja (x:Row):∀ (n:Nat) (l:List Row) (i:Nat),l.length-i=n→i≤l.length→Few l→
  Tot (λ k=>Em k l (i:Int) x.1 x.2.1.1 x.2.1.2.1 x.2.1.2.2 x.2.2.1 x.2.2.2) (λ r=>r=match Ti x.1 (l.drop i) i with
   |some j => .inl (bif Lr (l.getD j M0) x then l.set j x else l)
   |none => .inr (l,x.1,x.2.1.1,x.2.1.2.1,x.2.1.2.2,x.2.2.1,x.2.2.2)):=by
 intro n
 induction n with
 |zero=>
  intro l i hn hi hf
  unfold Few at hf
  refine Tot.succ ?_
  simp only[Em]
  refine I5b (by omega) (I0b ?_)
  rw[Wj (by omega)]
  rfl
 |succ n ih=>
  intro l i hn hi hf
  have hf':=hf
  unfold Few at hf
  have hlt:i<l.length:=by omega
  refine Tot.succ ?_
  simp only[Em]
  refine I4b (by omega) (I4b (by omega) (I4b (by omega) ?_))
  have e0:toNat (i:Int)=i:=Vb i
  rw[e0,Ai (d:=M0) hlt]
  refine I6b (λ ht=>?_) (λ ht=>?_)
  ·have ht':teq (l.getD i M0).1 x.1=true:=ht
   refine I4b (by omega) (I4b (by omega) ?_)
   refine Icb (Ieb (Q:=λ r=>r=Lr (l.getD i M0) x) (Kha _ _) rfl) ?_
   simp only[Ti,ht',cond_true]
   cases hb:Lr (l.getD i M0) x with
   |true=>exact I3b rfl (I4b (by omega) (I4b (by omega) (I0b rfl)))
   |false=>exact I2b rfl (I0b rfl)
  ·have ht':teq (l.getD i M0).1 x.1=false:=ht
   simp only[Ti,ht',cond_false]
   rw[w64 (n:=(i:Int)+1) (by omega) (by omega)]
   exact ih l (i+1) (by omega) (by omega) hf'
def Hka (x:Row) (l0 l5:List Row) (h5:l5=l0):∀ (n:Nat) (i:Nat),l0.length-i=n→i≤l0.length→Few l0→
  Tot (λ k=>Ey k l0 l5 l0 (l0.length:Int) (i:Int) x.1 x.2.1.1 x.2.1.2.1 x.2.1.2.2 x.2.2.1 x.2.2.2) (λ r=>r=match Ti x.1 (l0.drop i) i with
   |some j => .inl (bif Lr (l0.getD j M0) x then l0.set j x else l0)
   |none => .inr (l0,x.1,x.2.1.1,x.2.1.2.1,x.2.1.2.2,x.2.2.1,x.2.2.2)):=by
 subst h5
 intro n
 induction n with
 |zero=>
  intro i hn hi hf
  unfold Few at hf
  refine Tot.succ ?_
  simp only[Ey]
  refine I5b (by omega) (I0b ?_)
  rw[Wj (by omega)]
  rfl
 |succ n ih=>
  intro i hn hi hf
  have hf':=hf
  unfold Few at hf
  have hlt:i<l5.length:=by omega
  refine Tot.succ ?_
  simp only[Ey]
  refine I4b (by omega) (I4b (by omega) (I4b (by omega) ?_))
  have e0:toNat (i:Int)=i:=Vb i
  rw[e0,Ai (d:=M0) hlt]
  refine I6b (λ ht=>?_) (λ ht=>?_)
  ·have ht':teq (l5.getD i M0).1 x.1=true:=ht
   refine Icb (Ieb (Q:=λ r=>r=Lr (l5.getD i M0) x) (Taa _ _) rfl) ?_
   simp only[Ti,ht',cond_true]
   cases hb:Lr (l5.getD i M0) x with
   |true=>exact I3b rfl (I4b (by omega) (I4b (by omega) (I0b rfl)))
   |false=>exact I2b rfl (I0b rfl)
  ·have ht':teq (l5.getD i M0).1 x.1=false:=ht
   simp only[Ti,ht',cond_false]
   rw[w64 (n:=(i:Int)+1) (by omega) (by omega)]
   exact ih (i+1) (by omega) (by omega) hf'
def Ewa (x:Row) (l:List Row) (hf:Few l):∀ (i:Nat),i≤l.length→
  Tot (λ k=>Dv k l (i:Int) x.1 x.2.1.1 x.2.1.2.1 x.2.1.2.2 x.2.2.1 x.2.2.2) (λ r=>r=(l,(V7 l x.1 i:Int),x.1,x.2.1.1,x.2.1.2.1,x.2.1.2.2,x.2.2.1,x.2.2.2)):=by
 unfold Few at hf
 intro i
 induction i with
 |zero=>
  intro hi
  refine Tot.succ ?_
  simp only[Dv]
  exact I5b (by omega) (I0b rfl)
 |succ i ih=>
  intro hi
  refine Tot.succ ?_
  simp only[Dv]
  rw[w64 (n:=((i+1:Nat):Int)-1) (by omega) (by omega),show ((i+1:Nat):Int)-1=(i:Int) by omega,show toNat (i:Int)=i from Vb i]
  refine I4b (by omega) (I4b (by omega) (I4b (by omega) ?_))
  have e:∀ z,(!(Op.bytesLess (l.getD i z).1.toList x.1.toList||(l.getD i z).1.toList==x.1.toList))=tlt x.1 (l.getD i z).1:=λ z=>Hia _ _
  rw[e]
  have hc:V7 l x.1 (i+1)=bif tlt x.1 (l.getD i M0).1 then V7 l x.1 i else i+1:=rfl
  refine I6b (λ ht=>?_) (λ ht=>?_)
  ·have ht':tlt x.1 (l.getD i M0).1=true:=ht
   rw[hc,ht',cond_true]
   exact ih (by omega)
  ·have ht':tlt x.1 (l.getD i M0).1=false:=ht
   rw[hc,ht',cond_false]
   exact I0b rfl
def Ul (l:List Row) (hf:Few l):Ae l=some l:=by
 unfold Few at hf
 unfold Ae
 rw[Zp (by simp only[Vk];omega)]
 rfl
def Tba (l:List Row) (x:Row) (hf:Few l):Tot (λ k=>Cf k l x) (λ r=>r=mrg l x):=by
 have hf':=hf
 unfold Few at hf
 unfold Cf
 refine I1b (Ieb (Q:=λ r=>r=l) (Ul l hf') rfl) ?_
 rintro r rfl
 refine I1b (Hka x r r rfl _ 0 rfl (Vs _) hf') ?_
 rintro y rfl
 rw[Wq]
 unfold mrg
 cases hfi:Ti x.1 r 0 with
 |some j=>exact I0b rfl
 |none=>
  simp only[Ipb]
  refine I1b (Ewa x r hf' r.length (Vv _)) ?_
  rintro z rfl
  have hc:=B0a r x.1 r.length
  simp only
  rw[show toNat ((V7 r x.1 r.length:Nat):Int)=V7 r x.1 r.length from Vb _]
  refine I4b (by omega) (I4b (by omega) ?_)
  have hft:Few (r.take (V7 r x.1 r.length)):=by unfold Few;rw[Vq];omega
  refine I1b (Ieb (Q:=λ q=>q=r.take (V7 r x.1 r.length)) (Ul _ hft) rfl) ?_
  rintro q rfl
  refine I8b (by simp only[Vq,Vd,Vk];omega) ?_
  refine I4b (by omega) (I4b (by omega) (I8b (by simp only[Ve,Vq,Wc,Vd,Vk];omega) (I0b ?_)))
  rw[Vn]
  rfl
def Exa (x:Row) (l:List Row) (hf:Few l):∀ (i:Nat) (y:Row),i≤l.length→
  Tot (λ k=>Dp k (l.take i++y::l.drop i) (i:Int) x.1 x.2.1.1 x.2.1.2.1 x.2.1.2.2 x.2.2.1 x.2.2.2)
   (λ r=>∃ y',r=(l.take (V7 l x.1 i)++y'::l.drop (V7 l x.1 i),(V7 l x.1 i:Int),x.1,x.2.1.1,x.2.1.2.1,x.2.1.2.2,x.2.2.1,x.2.2.2)):=by
 unfold Few at hf
 intro i
 induction i with
 |zero=>
  intro y hi
  refine Tot.succ ?_
  simp only[Dp]
  exact I5b (by omega) (I0b ⟨y,rfl⟩)
 |succ i ih=>
  intro y hi
  refine Tot.succ ?_
  simp only[Dp]
  have hlen:(l.take (i+1)++y::l.drop (i+1)).length=l.length+1:=by simp only[Ve,Vq,Vd,Wc];omega
  have hget:∀ z,(l.take (i+1)++y::l.drop (i+1)).getD i z=l.getD i z:=by
   intro z
   rw[Vc,Vc,Ye (by rw[Vq];omega),List.getElem?_take_of_lt (by omega)]
  rw[w64 (n:=((i+1:Nat):Int)-1) (by omega) (by omega),show ((i+1:Nat):Int)-1=(i:Int) by omega,show toNat (i:Int)=i from Vb i,show toNat ((i+1:Nat):Int)=i+1 from Vb _,hget,hlen]
  refine I4b (by omega) (I4b (by omega) (I4b (by omega) ?_))
  have e:∀ z,(!(Op.bytesLess (l.getD i z).1.toList x.1.toList||(l.getD i z).1.toList==x.1.toList))=tlt x.1 (l.getD i z).1:=λ z=>Hia _ _
  rw[e]
  have hc:V7 l x.1 (i+1)=bif tlt x.1 (l.getD i M0).1 then V7 l x.1 i else i+1:=rfl
  refine I6b (λ ht=>?_) (λ ht=>?_)
  ·have ht':tlt x.1 (l.getD i M0).1=true:=ht
   rw[hc,ht',cond_true]
   refine I4b (by omega) (I4b (by omega) (I4b (by omega) (I4b (by omega) ?_)))
   have hset:(l.take (i+1)++y::l.drop (i+1)).set (i+1) (l.getD i ((⟨#[]⟩:ByteArray),(((0:Int),((0:Int),(0:Int))),(false,(0:Int)))))=l.take i++l.getD i M0::l.drop i:=by
    rw[List.set_append,if_neg (by rw[Vq];omega),Vq,Zx hi,Jdb,Ktb,Ai (d:=M0) (show i<l.length by omega)]
    rw[List.take_add_one,Vj (show i<l.length by omega)]
    simp only[Kvb,Vn,Yj]
    rw[Vc,Vc,Vj (show i<l.length by omega)]
    rfl
   rw[hset]
   exact ih _ (by omega)
  ·have ht':tlt x.1 (l.getD i M0).1=false:=ht
   rw[hc,ht',cond_false]
   exact I0b ⟨y,rfl⟩
def Tca (l:List Row) (x:Row) (hf:Few l):Tot (λ k=>Cc k l x) (λ r=>r=mrg l x):=by
 have hf':=hf
 unfold Few at hf
 unfold Cc
 refine I8b (by simp only[Vk];omega) ?_
 rw[Vy]
 refine Icb (Hja x _ l 0 rfl (Vs _) hf') ?_
 rw[Wq]
 unfold mrg
 cases hfi:Ti x.1 l 0 with
 |some j=>exact I0b rfl
 |none=>
  simp only[Ipb]
  refine I8b (by simp only[Vd,Vk];omega) ?_
  have h0:=Exa x l hf' l.length x (Vv _)
  rw[Yr,We]at h0
  refine I1b h0 ?_
  rintro z ⟨y',rfl⟩
  have hc:=B0a l x.1 l.length
  have hlen:(l.take (V7 l x.1 l.length)++y'::l.drop (V7 l x.1 l.length)).length=l.length+1:=by simp only[Ve,Vq,Vd,Wc];omega
  simp only
  rw[show toNat ((V7 l x.1 l.length:Nat):Int)=V7 l x.1 l.length from Vb _,hlen]
  refine I4b (by omega) (I4b (by omega) (I0b ?_))
  rw[List.set_append,if_neg (by rw[Vq];omega),Vq,Zx hc,Jdb,Ktb]

def Z5 (a b:ByteArray):(a==b)=teq a b:=beq_toListBytes a b
def Wz {s:ByteArray}:∀ (l:List Row) (i:Nat),Ti s l i=none→∀ r∈l,r.1≠s
 |[],_,_,r,hr=>by simp at hr
 |a::l,i,h,r,hr=>by
  unfold Ti at h
  cases ht:teq a.1 s
  case true=>rw[ht]at h;simp at h
  rw[ht]at h
  rcases Vl.1 hr with rfl|hr
  ·intro e
   rw[Cr.2 e]at ht
   cases ht
  ·exact Wz l (i+1) h r hr
def Tda (l:List Row) (x:Row):l.length≤(mrg l x).length∧(mrg l x).length≤l.length+1:=by
 unfold mrg
 have hc:=B0a l x.1 l.length
 split
 ·cases Lr (l.getD _ M0) x<;>simp
 ·simp only[Ve,Vq,Vd,Wc]
  omega
def Tea {l:List Row} {x r:Row} (h:r∈mrg l x):r=x∨r∈l:=by
 unfold mrg at h
 split at h
 ·rename_i j hj
  cases hb:Lr (l.getD j M0) x
  ·rw[hb]at h;exact .inr h
  rw[hb,cond_true]at h
  rcases Yn h with h|h
  ·exact .inr h
  ·exact .inl h
 ·rcases Vo.1 h with h|h
  ·exact .inr (Iqb h)
  ·rcases Vl.1 h with h|h
   ·exact .inl h
   ·exact .inr (Zr h)
def Kx (a:Stp):sle a a=false:=by
 cases h:sle a a with
 |false=>rfl
 |true=>rw[Pn]at h;omega
def Bw (l:List Row):Prop:=l.Pairwise (λ a b=>tlt a.1 b.1=true)
def Hla {l:List Row} {s:ByteArray} (hs:Bw l) (hn:∀ r∈l,r.1≠s):∀ k,k≤l.length→(∀ i,i<V7 l s k→tlt (l.getD i M0).1 s=true)∧(∀ i,V7 l s k≤i→i<k→tlt s (l.getD i M0).1=true)
 |0,_=>⟨λ i hi=>by simp[V7]at hi,λ i _ hi=>by omega⟩
 |k+1,hk=>by
  unfold V7
  cases ht:tlt s (l.getD k M0).1 with
  |true=>
   simp only[cond_true]
   obtain⟨h1,h2⟩:=Hla hs hn k (by omega)
   refine⟨h1,λ i hi hik=>?_⟩
   by_cases e:i=k
   ·subst e;exact ht
   ·exact h2 i hi (by omega)
  |false=>
   simp only[cond_false]
   refine⟨λ i hi=>?_,λ i hi hik=>by omega⟩
   have hget:∀ j (hj:j<l.length),l.getD j M0=l[j]:=λ j hj=>by rw[Vc,Vj hj];rfl
   have hkl:k<l.length:=by omega
   have hks:tlt (l.getD k M0).1 s=true:=by
    cases h:tlt (l.getD k M0).1 s
    case true=>rfl
    exfalso
    exact hn (l.getD k M0) (by rw[hget k hkl];exact Keb hkl) (Aza h ht)
   by_cases e:i=k
   ·subst e;exact hks
   ·have h3:=(Zk.1 hs) i k (by omega) hkl (by omega)
    rw[hget i (by omega)]
    rw[hget k hkl]at hks
    exact N0 h3 hks
def So {l:List Row} {x:Row} (hs:Bw l):Bw (mrg l x):=by
 have hget:∀ j (hj:j<l.length),l.getD j M0=l[j]:=λ j hj=>by rw[Vc,Vj hj];rfl
 unfold mrg
 split
 ·rename_i j hj
  obtain⟨_,h2,h3⟩:=Sn l 0 j hj
  rw[Jub]at h3
  have hjl:j<l.length:=by omega
  have hname:l[j].1=x.1:=by rw[← hget j hjl];exact Cr.1 h3
  cases hb:Lr (l.getD j M0) x
  ·exact hs
  rw[cond_true]
  unfold Bw
  rw[Zk]
  intro a b ha hb hab
  rw[Wb]at ha hb
  have:=(Zk.1 hs) a b ha hb hab
  rw[L8b,L8b]
  by_cases e1:j=a
  ·subst e1
   rw[if_pos rfl,if_neg (by omega),← hname]
   exact this
  ·rw[if_neg e1]
   by_cases e2:j=b
   ·subst e2
    rw[if_pos rfl,← hname]
    exact this
   ·rw[if_neg e2]
    exact this
 ·rename_i hj
  have hn:=Wz l 0 hj
  obtain⟨c1,c2⟩:=Hla hs hn l.length (Vv _)
  have hc:=B0a l x.1 l.length
  unfold Bw
  rw[Zi,Wh]
  refine⟨Kcb (L3b _ _) hs,⟨λ r hr=>?_,Kcb (List.drop_sublist _ _) hs⟩,λ r hr q hq=>?_⟩
  ·obtain⟨i,hi,rfl⟩:=Jqb hr
   rw[Wc]at hi
   rw[List.getElem_drop,← hget _ (by omega)]
   exact c2 _ (by omega) (by omega)
  ·obtain⟨i,hi,rfl⟩:=Jqb hr
   rw[Vq]at hi
   have h1:tlt (List.take (V7 l x.1 l.length) l)[i].1 x.1=true:=by
    rw[List.getElem_take,← hget _ (by omega)]
    exact c1 i (by omega)
   rcases Vl.1 hq with rfl|hq
   ·exact h1
   ·refine N0 h1 ?_
    obtain⟨m,hm,rfl⟩:=Jqb hq
    rw[Wc]at hm
    rw[List.getElem_drop,← hget _ (by omega)]
    exact c2 _ (by omega) (by omega)

def inR (n lo hi:Int):Bool:=decide (n≥lo)&&decide (n≤hi)
def Um (n lo hi:Int):Ed n lo hi=some (inR n lo hi):=by
 unfold Ed inR
 cases decide (n≥lo)<;>rfl
def Ov (n lo hi:Int):A9 n lo hi=some (inR n lo hi):=by
 unfold A9 inR
 cases decide (n≥lo)<;>rfl
def Fi {n lo hi:Int}:inR n lo hi=true↔lo≤n∧n≤hi:=by
 unfold inR
 simp
def Un (c:Int):Bool:=inR c 97 122||(inR c 48 57||(!(c != 45)||(!(c != 95)||!(c != 47))))
def M1 (s:ByteArray):Prop:=s.size≤4611686018427387904
def Qr (s:ByteArray):s.data.toList.length=s.size:=Ze
def B1a (s:ByteArray) (i:Int):0≤bt s i∧bt s i≤255:=by
 unfold bt
 have:=(s.data.toList.getD i.toNat 0).toNat_lt
 omega
def Fdb (s:ByteArray) (i:Nat) (h:i<s.size):bt s (i:Int)=((s.data.toList[i]'(by rw[Qr];exact h)).toNat:Int):=by
 unfold bt
 rw[Vb,Vc,Vj (by rw[Qr];exact h)]
 rfl
def bOk (b:UInt8):Bool:=Un (b.toNat:Int)
def Kia (s:ByteArray) (hs:M1 s):∀ (n i:Nat),s.size-i=n→i≤s.size→
  Tot (λ k=>Am k s (i:Int)) (λ r=>r=bif (s.data.toList.drop i).all bOk then .inr s else .inl false):=by
 unfold M1 at hs
 have hsz:=Qr s
 intro n
 induction n with
 |zero=>
  intro i hn hi
  refine Tot.succ ?_
  simp only[Am]
  refine I5b (by omega) (I0b ?_)
  rw[Wj (by omega)]
  rfl
 |succ n ih=>
  intro i hn hi
  have hlt:i<s.size:=by omega
  refine Tot.succ ?_
  simp only[Am]
  refine I4b (by omega) (I4b (by omega) (I4b (by omega) ?_))
  rw[w64 (n:=(i:Int)+1) (by omega) (by omega)]
  have hb:bOk (s.data.toList[i]'(by omega))=Un (bt s (i:Int)):=by rw[Fdb s i hlt];rfl
  rw[Zg (by omega),J3b,hb]
  generalize bt s (i:Int)=c
  have h1:=ih (i+1) (by omega) (by omega)
  have e:(((i+1:Nat)):Int)=(i:Int)+1:=by omega
  rw[e]at h1
  cases hc:Un c with
  |true=>
   rw[Vx]
   refine h1.mono (λ r hr=>hr) |> λ h=>?_
   obtain⟨r,K,h2,h3⟩:=h
   refine⟨r,K,λ k hk=>?_,h3⟩
   rw[← h2 k hk]
   unfold Un inR at hc
   revert hc
   cases decide (c≥97)<;>cases decide (c≤122)<;>cases decide (c≥48)<;>cases decide (c≤57)<;>cases (c != 45)<;>cases (c != 95)<;>cases (c != 47)<;>first|(intro _;rfl)|(intro hc;cases hc)
  |false=>
   rw[Ys]
   refine⟨.inl false,0,λ k _=>?_,rfl⟩
   unfold Un inR at hc
   revert hc
   cases decide (c≥97)<;>cases decide (c≤122)<;>cases decide (c≥48)<;>cases decide (c≤57)<;>cases (c != 45)<;>cases (c != 95)<;>cases (c != 47)<;>first|(intro _;rfl)|(intro hc;cases hc)
def Kja (s:ByteArray) (hs:M1 s):∀ (n i:Nat),s.size-i=n→i≤s.size→
  Tot (λ k=>D7 k s (i:Int)) (λ r=>r=bif (s.data.toList.drop i).all bOk then .inr s else .inl false):=by
 unfold M1 at hs
 have hsz:=Qr s
 intro n
 induction n with
 |zero=>
  intro i hn hi
  refine Tot.succ ?_
  simp only[D7]
  refine I5b (by omega) (I0b ?_)
  rw[Wj (by omega)]
  rfl
 |succ n ih=>
  intro i hn hi
  have hlt:i<s.size:=by omega
  have hbb:=B1a s (i:Int)
  refine Tot.succ ?_
  simp only[D7]
  refine I4b (by omega) (I4b (by omega) (I4b (by omega) ?_))
  rw[w64 (n:=(i:Int)+1) (by omega) (by omega),w64 (n:=bt s (i:Int)) (by omega) (by omega)]
  have hb:bOk (s.data.toList[i]'(by omega))=Un (bt s (i:Int)):=by rw[Fdb s i hlt];rfl
  rw[Zg (by omega),J3b,hb]
  generalize bt s (i:Int)=c
  have h1:=ih (i+1) (by omega) (by omega)
  have e:(((i+1:Nat)):Int)=(i:Int)+1:=by omega
  rw[e]at h1
  simp only[Ov,Vp]
  cases hc:Un c with
  |true=>
   rw[Vx]
   obtain⟨r,K,h2,h3⟩:=h1
   refine⟨r,K,λ k hk=>?_,h3⟩
   rw[← h2 k hk]
   unfold Un at hc
   revert hc
   cases inR c 97 122<;>cases inR c 48 57<;>cases (c != 45)<;>cases (c != 95)<;>cases (c != 47)<;>first|(intro _;rfl)|(intro hc;cases hc)
  |false=>
   rw[Ys]
   refine⟨.inl false,0,λ k _=>?_,rfl⟩
   unfold Un at hc
   revert hc
   cases inR c 97 122<;>cases inR c 48 57<;>cases (c != 45)<;>cases (c != 95)<;>cases (c != 47)<;>first|(intro _;rfl)|(intro hc;cases hc)
def B5 (s:ByteArray):Bool:=s.data.toList.all bOk&&inR (s.size:Int) 1 20
def Qs (s:ByteArray) (hs:M1 s):Tot (λ k=>An k s) (λ r=>r=B5 s):=by
 unfold An B5
 refine Icb (Kia s hs _ 0 rfl (Vs _)) ?_
 rw[Wq]
 cases s.data.toList.all bOk with
 |true=>exact Ieb (a:=inR (s.size:Int) 1 20) (by simp only[cond_true,Ipb,Um,Vp]) (by rw[Vx])
 |false=>exact I0b rfl
def Uo (s:ByteArray) (hs:M1 s):Tot (λ k=>B9 k s) (λ r=>r=B5 s):=by
 unfold B9 B5
 refine Icb (Kja s hs _ 0 rfl (Vs _)) ?_
 rw[Wq]
 cases s.data.toList.all bOk with
 |true=>exact Ieb (a:=inR (s.size:Int) 1 20) (by simp only[cond_true,Ipb,Ov,Vp]) (by rw[Vx])
 |false=>exact I0b rfl
def Hz (s:Stp):Bool:=inR s.1 0 1000000000&&(inR s.2.1 0 1000000&&inR s.2.2 0 20)
def B2a (s:Stp):E6 s=some (Hz s):=by
 unfold E6 Hz
 simp only[Um,Vp]
 cases inR s.1 0 1000000000<;>cases inR s.2.1 0 1000000<;>rfl
def B3a (s:Stp):Dc s=some (Hz s):=by
 unfold Dc Hz
 simp only[Ov,Vp]
 cases inR s.1 0 1000000000<;>cases inR s.2.1 0 1000000<;>rfl
def Np (x:Row):Bool:=B5 x.1&&(Hz x.2.1&&(inR x.2.2.2 0 200&&(!x.2.2.1||x.2.2.2==0)))
def Tfa (x:Row) (hs:M1 x.1):Tot (λ k=>Jp k x) (λ r=>r=Np x):=by
 unfold Jp Np
 refine Icb (Qs x.1 hs) ?_
 cases B5 x.1
 ·exact I0b rfl
 refine Ieb (a:=Hz x.2.1&&(inR x.2.2.2 0 200&&(!x.2.2.1||x.2.2.2==0))) ?_ (by rw[Vx])
 simp only[cond_true,B2a,Um,Vp]
 cases Hz x.2.1<;>cases inR x.2.2.2 0 200<;>cases x.2.2.1<;>rfl
def Tga (x:Row) (hs:M1 x.1):Tot (λ k=>Ih k x) (λ r=>r=Np x):=by
 unfold Ih Np
 refine Icb (Uo x.1 hs) ?_
 cases B5 x.1
 ·exact I0b rfl
 refine Ieb (a:=Hz x.2.1&&(inR x.2.2.2 0 200&&(!x.2.2.1||x.2.2.2==0))) ?_ (by rw[Vx])
 simp only[cond_true,B3a,Ov,Vp]
 cases Hz x.2.1<;>cases inR x.2.2.2 0 200<;>cases x.2.2.1<;>rfl
def chk:Option ByteArray→List Row→Bool
 |_,[]=>true
 |none,r::l=>Np r&&chk (some r.1) l
 |some q,r::l=>Np r&&(tlt q r.1&&chk (some r.1) l)
def L5 (l:List Row):Bool:=chk none l&&decide ((l.length:Int)≤60)
def Uq (l:List Row):Prop:=∀ r∈l,M1 r.1
def Xw (l:List Row):Nat→Option ByteArray
 |0=>none
 |i+1=>some (l.getD i M0).1
def N6a (l:List Row) (i:Nat) (h:i<l.length):chk (Xw l i) (l.drop i)=(Np (l.getD i M0)&&(bif decide (0<i) then tlt (l.getD (i-1) M0).1 (l.getD i M0).1 else true)&&chk (Xw l (i+1)) (l.drop (i+1))):=by
 rw[Ai (d:=M0) h]
 cases i with
 |zero=>simp[Xw,chk]
 |succ i=>simp[Xw,chk,Lnb]
def A3 {α:Type} {l:List α} {i:Nat} {d:α} (h1:i<l.length):l.getD i d∈l:=by
 rw[Vc,Vj h1]
 exact Keb h1
def Kka (l:List Row) (hf:Few l) (hs:Uq l):∀ (n i:Nat),l.length-i=n→i≤l.length→
  Tot (λ k=>G6 k l l (l.length:Int) (i:Int)) (λ r=>r=bif chk (Xw l i) (l.drop i) then .inr l else .inl false):=by
 unfold Few at hf
 intro n
 induction n with
 |zero=>
  intro i hn hi
  refine Tot.succ ?_
  simp only[G6]
  refine I5b (by omega) (I0b ?_)
  rw[Wj (by omega)]
  cases Xw l i<;>rfl
 |succ n ih=>
  intro i hn hi
  have hlt:i<l.length:=by omega
  refine Tot.succ ?_
  simp only[G6]
  refine I4b (by omega) (I4b (by omega) (I4b (by omega) ?_))
  rw[show toNat (i:Int)=i from Vb i,w64 (n:=(i:Int)+1) (by omega) (by omega),N6a l i hlt]
  have h1:=ih (i+1) (by omega) (by omega)
  have e:(((i+1:Nat)):Int)=(i:Int)+1:=by omega
  rw[e]at h1
  refine Icb (Tfa (l.getD i M0) (hs _ (A3 hlt))) ?_
  cases hb:Np (l.getD i M0)
  ·exact I3b rfl (I0b (by simp))
  refine I2b rfl ?_
  rw[Vx]
  refine I7b (λ h0=>?_) (λ h0=>?_)
  ·rw[w64 (n:=(i:Int)-1) (by omega) (by omega)]
   refine I4b (by omega) (I4b (by omega) ?_)
   rw[show toNat ((i:Int)-1)=i-1 by omega,decide_eq_true (show 0<i by omega),cond_true]
   have et:(!(Op.bytesLess (l.getD (i-1) M0).1.toList (l.getD i M0).1.toList)) = !(tlt (l.getD (i-1) M0).1 (l.getD i M0).1):=rfl
   refine I6b (λ ht=>?_) (λ ht=>?_)
   ·have ht':(!(tlt (l.getD (i-1) M0).1 (l.getD i M0).1))=true:=ht
    rw[Vw]at ht'
    exact I0b (by rw[ht'];rfl)
   ·have ht':(!(tlt (l.getD (i-1) M0).1 (l.getD i M0).1))=false:=ht
    rw[Wm]at ht'
    rw[ht',Vx]
    exact h1
  ·rw[decide_eq_false (show ¬ 0<i by omega),cond_false,Vx]
   exact h1
def Kla (l:List Row) (hf:Few l) (hs:Uq l):∀ (n i:Nat),l.length-i=n→i≤l.length→
  Tot (λ k=>G9 k l (i:Int)) (λ r=>r=bif chk (Xw l i) (l.drop i) then .inr l else .inl false):=by
 unfold Few at hf
 intro n
 induction n with
 |zero=>
  intro i hn hi
  refine Tot.succ ?_
  simp only[G9]
  refine I5b (by omega) (I0b ?_)
  rw[Wj (by omega)]
  cases Xw l i<;>rfl
 |succ n ih=>
  intro i hn hi
  have hlt:i<l.length:=by omega
  refine Tot.succ ?_
  simp only[G9]
  refine I4b (by omega) (I4b (by omega) (I4b (by omega) ?_))
  rw[show toNat (i:Int)=i from Vb i,w64 (n:=(i:Int)+1) (by omega) (by omega),N6a l i hlt]
  have h1:=ih (i+1) (by omega) (by omega)
  have e:(((i+1:Nat)):Int)=(i:Int)+1:=by omega
  rw[e]at h1
  refine Icb (Tga (l.getD i M0) (hs _ (A3 hlt))) ?_
  cases hb:Np (l.getD i M0)
  ·exact I3b rfl (I0b (by simp))
  refine I2b rfl ?_
  rw[Vx]
  refine I7b (λ h0=>?_) (λ h0=>?_)
  ·rw[w64 (n:=(i:Int)-1) (by omega) (by omega)]
   refine I4b (by omega) (I4b (by omega) (I4b (by omega) (I4b (by omega) ?_)))
   rw[show toNat ((i:Int)-1)=i-1 by omega,decide_eq_true (show 0<i by omega),cond_true]
   refine I6b (λ ht=>?_) (λ ht=>?_)
   ·have ht':(!(tlt (l.getD (i-1) M0).1 (l.getD i M0).1))=true:=ht
    rw[Vw]at ht'
    exact I0b (by rw[ht'];rfl)
   ·have ht':(!(tlt (l.getD (i-1) M0).1 (l.getD i M0).1))=false:=ht
    rw[Wm]at ht'
    rw[ht',Vx]
    exact h1
  ·rw[decide_eq_false (show ¬ 0<i by omega),cond_false,Vx]
   exact h1
def N7a (l:List Row) (hf:Few l) (hs:Uq l):Tot (λ k=>Ea k l) (λ r=>r=L5 l):=by
 unfold Ea L5
 refine Icb (Kka l hf hs _ 0 rfl (Vs _)) ?_
 rw[Wq]
 show Tot _ (λ r=>r=(chk none l&&_))
 cases hc:chk none l with
 |true=>rw[show chk (Xw l 0) l=true from hc];exact I0b (by rw[Vx])
 |false=>rw[show chk (Xw l 0) l=false from hc];exact I0b rfl
def Xva (l:List Row) (hf:Few l) (hs:Uq l):Tot (λ k=>Gk k l) (λ r=>r=L5 l):=by
 unfold Gk L5
 refine Icb (Kla l hf hs _ 0 rfl (Vs _)) ?_
 rw[Wq]
 cases hc:chk none l with
 |true=>rw[show chk (Xw l 0) l=true from hc];exact I0b (by rw[Vx])
 |false=>rw[show chk (Xw l 0) l=false from hc];exact I0b rfl
def Kma:∀ (p:Option ByteArray) (l:List Row),chk p l=true↔Bw l∧(∀ r∈l,Np r=true)∧(∀ q,p=some q→∀ r∈l,tlt q r.1=true)
 |p,[]=>by
  have:chk p []=true:=by cases p<;>rfl
  simp[this,Bw]
 |none,r::l=>by
  simp only[chk,Va,Kma (some r.1) l,Bw,Wh]
  constructor
  ·rintro⟨h1,h2,h3,h4⟩
   exact⟨⟨λ a ha=>h4 _ rfl a ha,h2⟩,λ a ha=>by rcases Vl.1 ha with rfl|ha;exact h1;exact h3 a ha,λ q hq=>by cases hq⟩
  ·rintro⟨⟨h1,h2⟩,h3,_⟩
   exact⟨h3 r (by simp),h2,λ a ha=>h3 a (Vh _ ha),λ q hq a ha=>by cases hq;exact h1 a ha⟩
 |some q,r::l=>by
  simp only[chk,Va,Kma (some r.1) l,Bw,Wh]
  constructor
  ·rintro⟨h1,h0,h2,h3,h4⟩
   refine⟨⟨λ a ha=>h4 _ rfl a ha,h2⟩,λ a ha=>by rcases Vl.1 ha with rfl|ha;exact h1;exact h3 a ha,λ q' hq a ha=>?_⟩
   cases hq
   rcases Vl.1 ha with rfl|ha
   ·exact h0
   ·exact N0 h0 (h4 _ rfl a ha)
  ·rintro⟨⟨h1,h2⟩,h3,h4⟩
   exact⟨h3 r (by simp),h4 q rfl r (by simp),h2,λ a ha=>h3 a (Vh _ ha),λ q' hq a ha=>by cases hq;exact h1 a ha⟩
def Na {l:List Row}:L5 l=true↔Bw l∧(∀ r∈l,Np r=true)∧l.length≤60:=by
 unfold L5
 simp only[Va,Kma,decide_eq_true_eq]
 constructor
 ·rintro⟨⟨h1,h2,_⟩,h3⟩
  exact⟨h1,h2,by omega⟩
 ·rintro⟨h1,h2,h3⟩
  exact⟨⟨h1,h2,λ q hq=>by cases hq⟩,by omega⟩
def Ow (a b:List Row):List Row:=b.foldl mrg a
def Eya {a b:List Row} {r:Row} (h:r∈Ow a b):r∈a∨r∈b:=by
 induction b generalizing a with
 |nil=>exact .inl h
 |cons x b ih=>
  rcases ih (a:=mrg a x) h with h|h
  ·rcases Tea h with rfl|h
   ·exact .inr (by simp)
   ·exact .inl h
  ·exact .inr (Vh _ h)
def Nq {a b:List Row} (h:Bw a):Bw (Ow a b):=by
 induction b generalizing a with
 |nil=>exact h
 |cons x b ih=>exact ih (So h)
def Eza (b:List Row) (hb:Few b):∀ (n i:Nat) (a:List Row),b.length-i=n→i≤b.length→a.length+(b.length-i)≤1000000000000→
  Tot (λ k=>Dw k a b (b.length:Int) (i:Int)) (λ r=>r=Ow a (b.drop i)):=by
 unfold Few at hb
 intro n
 induction n with
 |zero=>
  intro i a hn hi hf
  refine Tot.succ ?_
  simp only[Dw]
  refine I5b (by omega) (I0b ?_)
  rw[Wj (by omega)]
  rfl
 |succ n ih=>
  intro i a hn hi hf
  have hlt:i<b.length:=by omega
  refine Tot.succ ?_
  simp only[Dw]
  refine I4b (by omega) (I4b (by omega) (I4b (by omega) ?_))
  rw[show toNat (i:Int)=i from Vb i,w64 (n:=(i:Int)+1) (by omega) (by omega),Ai (d:=M0) hlt]
  refine Icb (Tba a (b.getD i M0) (by unfold Few;omega)) ?_
  have:=Tda a (b.getD i M0)
  exact ih (i+1) (mrg a (b.getD i M0)) (by omega) (by omega) (by omega)
def Pda (a b:List Row) (hf:a.length+b.length≤1000000000000):Tot (λ k=>Cm k a b) (λ r=>r=Ow a b):=by
 unfold Cm
 refine I1b (Ieb (Q:=λ r=>r=a) (Ul a (by unfold Few;omega)) rfl) ?_
 rintro r rfl
 refine I1b (Eza b (by unfold Few;omega) _ 0 r rfl (Vs _) (by omega)) ?_
 rintro y rfl
 rw[Wq]
 exact I0b rfl
def J7 (l:List Row) (s:ByteArray):Option Row:=l.find? (λ r=>teq r.1 s)
def mx (a b:Row):Row:=bif Lr a b then b else a
def B4a (a b:Row):Lr a b=true↔a.2.1.1<b.2.1.1∨(a.2.1.1=b.2.1.1∧(a.2.1.2.1<b.2.1.2.1∨(a.2.1.2.1=b.2.1.2.1∧(a.2.1.2.2<b.2.1.2.2∨(a.2.1.2.2=b.2.1.2.2∧((a.2.2.1=false∧b.2.2.1=true)∨(a.2.2.1=b.2.2.1∧a.2.2.2<b.2.2.2))))))):=by
 unfold Lr
 cases hs:(!((a.2.1.1==b.2.1.1)&&((a.2.1.2.1==b.2.1.2.1)&&(a.2.1.2.2==b.2.1.2.2)))) with
 |true=>
  rw[cond_true,Pn]
  have hne:¬ (a.2.1.1=b.2.1.1∧a.2.1.2.1=b.2.1.2.1∧a.2.1.2.2=b.2.1.2.2):=by
   intro ⟨h1,h2,h3⟩
   rw[h1,h2,h3]at hs
   simp at hs
  omega
 |false=>
  rw[cond_false]
  simp only[Wm,Va,beq_iff_eq]at hs
  obtain⟨h1,h2,h3⟩:=hs
  cases ha:a.2.2.1<;>cases hb:b.2.2.1<;>simp[h1,h2,h3]
def Tj {a b:Row} (h:Lr a b=true):Lr b a=false:=by
 cases hb:Lr b a
 ·rfl
 rw[B4a]at h hb
 cases ha:a.2.2.1<;>cases hb':b.2.2.1<;>simp only[ha,hb']at h hb<;>simp at h hb<;>omega
def Tha {a b:Row} (hn:a.1=b.1) (h:Lr a b=false) (h':Lr b a=false):a=b:=by
 have h1:¬ Lr a b=true:=by rw[h];decide
 have h2:¬ Lr b a=true:=by rw[h'];decide
 rw[B4a]at h1 h2
 obtain⟨n,⟨t,s,d⟩,e,z⟩:=a
 obtain⟨n',⟨t',s',d'⟩,e',z'⟩:=b
 simp only at hn h1 h2
 subst hn
 have hd:e=e'∧t=t'∧s=s'∧d=d'∧z=z':=by
  cases e<;>cases e'<;>simp at h1 h2 ⊢ <;> omega
 obtain⟨rfl,rfl,rfl,rfl,rfl⟩:=hd
 rfl
def Clb (a b:Row):mx (mx a b) b=mx a b:=by
 unfold mx
 cases h:Lr a b with
 |true=>
  have:Lr b b=false:=by
   cases hb:Lr b b with
   |false=>rfl
   |true=>have:=Tj hb;rw[hb]at this;cases this
  rw[cond_true,this]
  rfl
 |false=>rw[cond_false,h];rfl
def Nr {l:List Row} {s:ByteArray} {r:Row} (h:J7 l s=some r):r∈l∧r.1=s:=by
 unfold J7 at h
 exact⟨Kzb h,Cr.1 (List.find?_some (p:=λ r:Row=>teq r.1 s) h)⟩
def N1 {l:List Row} (hs:Bw l) {r:Row} (h:r∈l):J7 l r.1=some r:=by
 induction l with
 |nil=>simp at h
 |cons a l ih=>
  unfold Bw at hs
  rw[Wh]at hs
  unfold J7
  rw[Jab]
  rcases Vl.1 h with rfl|h
  ·rw[Cr.2 rfl]
  ·have:teq a.1 r.1=false:=by
    cases ht:teq a.1 r.1
    ·rfl
    have h1:=hs.1 r h
    rw[Cr.1 ht,I9]at h1
    cases h1
   rw[this]
   exact ih hs.2 h
def B5a:∀ {l m:List Row},Bw l→Bw m→(∀ s,J7 l s=J7 m s)→l=m
 |[],[],_,_,_=>rfl
 |[],b::m,_,hm,h=>by
  have:=N1 hm (r:=b) (by simp)
  rw[← h]at this
  simp[J7]at this
 |a::l,[],hl,_,h=>by
  have:=N1 hl (r:=a) (by simp)
  rw[h]at this
  simp[J7]at this
 |a::l,b::m,hl,hm,h=>by
  have hl':=hl
  have hm':=hm
  unfold Bw at hl hm
  rw[Wh]at hl hm
  have ha:=N1 hl' (r:=a) (by simp)
  have hb:=N1 hm' (r:=b) (by simp)
  have ea:a∈b::m:=(Nr (by rw[← h];exact ha)).1
  have eb:b∈a::l:=(Nr (by rw[h];exact hb)).1
  have hab:a=b:=by
   rcases Vl.1 ea with rfl|ea
   ·rfl
   ·rcases Vl.1 eb with rfl|eb
    ·rfl
    ·have h1:=hm.1 a ea
     have h2:=hl.1 b eb
     rw[Uj h1]at h2
     cases h2
  subst hab
  rw[B5a (l:=l) (m:=m) hl.2 hm.2 (λ s=>?_)]
  have hs:=h s
  unfold J7 at hs ⊢
  rw[Jab,Jab]at hs
  cases ht:teq a.1 s
  ·rw[ht]at hs;exact hs
  have none:∀ (k:List Row),(∀ r∈k,tlt a.1 r.1=true)→k.find? (λ r=>teq r.1 s)=none:=by
   intro k hk
   rw[List.find?_eq_none]
   intro r hr
   rw[Cr]
   intro e
   have:=hk r hr
   rw[e,← Cr.1 ht,I9]at this
   cases this
  rw[none l hl.1,none m hm.1]
def Hma {l:List Row} {x:Row} (hs:Bw l) (s:ByteArray):J7 (mrg l x) s=bif teq x.1 s then (match J7 l s with|some r=>some (mx r x)|none=>some x) else J7 l s:=by
 have hsm:=So (x:=x) hs
 have hget:∀ j (hj:j<l.length),l.getD j M0=l[j]:=λ j hj=>by rw[Vc,Vj hj];rfl
 cases ht:teq x.1 s with
 |true=>
  have hxs:=Cr.1 ht
  rw[cond_true]
  unfold mrg
  split
  ·rename_i j hj
   obtain⟨_,h2,h3⟩:=Sn l 0 j hj
   rw[Jub]at h3
   have hjl:j<l.length:=by omega
   have hname:(l.getD j M0).1=x.1:=Cr.1 h3
   have hmem:l.getD j M0∈l:=A3 hjl
   have hlk:J7 l s=some (l.getD j M0):=by rw[← hxs,← hname];exact N1 hs hmem
   rw[hlk]
   show J7 (bif Lr (l.getD j M0) x then l.set j x else l) s=some (mx (l.getD j M0) x)
   unfold mx
   cases hb:Lr (l.getD j M0) x
   ·rw[cond_false];exact hlk
   rw[cond_true]
   have:x∈l.set j x:=List.mem_set hjl x
   have hsm':Bw (l.set j x):=by
    have:=hsm
    unfold mrg at this
    rw[hj]at this
    simp only[hb,cond_true]at this
    exact this
   rw[← hxs]
   exact N1 hsm' this
  ·rename_i hj
   have hno:J7 l s=none:=by
    cases hl:J7 l s with
    |none=>rfl
    |some r=>
     obtain⟨h1,h2⟩:=Nr hl
     exact(Wz l 0 hj r h1 (h2.trans hxs.symm)).elim
   rw[hno]
   have hx:x∈mrg l x:=by unfold mrg;rw[hj];simp
   have:=N1 hsm hx
   unfold mrg at this
   rw[hj]at this
   rw[← hxs]
   exact this
 |false=>
  rw[cond_false]
  cases hl:J7 l s with
  |some r=>
   obtain⟨h1,h2⟩:=Nr hl
   have hr:r∈mrg l x:=by
    unfold mrg
    split
    ·rename_i j hj
     cases hb:Lr (l.getD j M0) x
     ·exact h1
     rw[cond_true]
     obtain⟨i,hi,e⟩:=Jqb h1
     obtain⟨_,q2,q3⟩:=Sn l 0 j hj
     rw[Jub]at q3
     have hij:i≠j:=by
      rintro rfl
      rw[hget i hi,e]at q3
      have:=Cr.1 q3
      rw[Cr.2 (this.symm.trans h2)]at ht
      cases ht
     rw[Zf]
     exact⟨i,by rw[Wb];exact hi,by rw[List.getElem_set_ne (Jpb hij)];exact e⟩
    ·have:r∈l.take (V7 l x.1 l.length)++l.drop (V7 l x.1 l.length):=by rw[Wo];exact h1
     rcases Vo.1 this with h|h
     ·exact Wa _ h
     ·exact Vt _ (Vh _ h)
   rw[← h2]
   exact N1 hsm hr
  |none=>
   cases hm:J7 (mrg l x) s with
   |none=>rfl
   |some r=>
    exfalso
    obtain⟨h1,h2⟩:=Nr hm
    rcases Tea h1 with rfl|h1
    ·rw[Cr.2 h2]at ht;cases ht
    ·have:=N1 hs h1
     rw[h2,hl]at this
     cases this
def cmb:Option Row→Option Row→Option Row
 |some a,some b=>some (mx a b)
 |some a,none=>some a
 |none,y=>y
def X1 {a b:List Row} (ha:Bw a) (hb:Bw b) (s:ByteArray):J7 (Ow a b) s=cmb (J7 a s) (J7 b s):=by
 induction b generalizing a with
 |nil=>show J7 a s=cmb (J7 a s) none;cases J7 a s<;>rfl
 |cons x b ih=>
  have hb':=hb
  unfold Bw at hb
  rw[Wh]at hb
  show J7 (Ow (mrg a x) b) s=_
  rw[ih (So ha) hb.2,Hma ha s]
  have e:J7 (x::b) s=bif teq x.1 s then some x else J7 b s:=by
   unfold J7
   rw[Jab]
   cases teq x.1 s<;>rfl
  rw[e]
  cases ht:teq x.1 s
  ·rfl
  have hno:J7 b s=none:=by
   cases hl:J7 b s with
   |none=>rfl
   |some r=>
    obtain⟨h1,h2⟩:=Nr hl
    have:=hb.1 r h1
    rw[h2,← Cr.1 ht,I9]at this
    cases this
  rw[hno]
  cases J7 a s<;>rfl
def Dea {l:List Row} {s:ByteArray}:∀ r,J7 l s=some r→r.1=s:=λ r h=>(Nr h).2
def Tia {a b:List Row} (ha:Bw a) (hb:Bw b):Ow (Ow a b) b=Ow a b:=
 B5a (Nq (Nq ha)) (Nq ha) λ s=>by
  rw[X1 (Nq ha) hb,X1 ha hb]
  cases J7 a s<;>cases J7 b s<;>first|rfl|skip
  ·rename_i b;show some (mx b b)=some b;unfold mx;cases Lr b b<;>rfl
  ·rename_i a b;show some (mx (mx a b) b)=some (mx a b);rw[Clb]

def C9a:Nat→Nat→List Int
 |0,n=>[(n:Int)]
 |f+1,n=>if n≤127 then [(n:Int)] else ((n % 128+128:Nat):Int)::C9a f (n/128)
def Po (n:Nat):List Int:=C9a 4 n
def Ur:Nat→Nat→Nat→List Int→Option (Nat×Nat)
 |0,_,_,_=>none
 |_+1,_,_,[]=>none
 |f+1,k,acc,x::l=>if 128≤x then Ur f (k+1) (acc+x.toNat % 128*128 ^ k) l
  else if (x=0∧0<k)∨1000000000<acc+x.toNat % 128*128 ^ k then none else some (acc+x.toNat % 128*128 ^ k,k+1)
def Ps (l:List Int) (p:Nat):Option (Nat×Nat):=match Ur 5 0 0 (l.drop p) with
 |some (n,c)=>some (n,p+c)
 |none=>none
def Tja:∀ (f n:Nat),(C9a f n).length≤f+1∧0<(C9a f n).length
 |0,n=>by simp[C9a]
 |f+1,n=>by
  unfold C9a
  split
  ·simp
  ·have:=Tja f (n/128)
   simp only[Vd]
   omega
def Tk:∀ (f k acc:Nat) (l:List Int) (n c:Nat),Ap l→Ur f k acc l=some (n,c)→acc<128 ^ k→k<c∧c≤k+f∧c-k≤l.length∧n≤1000000000
 |0,_,_,_,_,_,_,h,_=>by simp[Ur]at h
 |_+1,_,_,[],_,_,_,h,_=>by simp[Ur]at h
 |f+1,k,acc,x::l,n,c,hb,h,ha=>by
  have hx:=hb x (by simp)
  unfold Ur at h
  split at h
  ·have h1:acc+x.toNat % 128*128 ^ k<128 ^ (k+1):=by
    have h2:x.toNat % 128≤127:=by omega
    have h3:=Wp (128 ^ k) h2
    rw[Ilb]
    omega
   have:=Tk f (k+1) _ l n c (λ y hy=>hb y (Vh _ hy)) h h1
   simp only[Vd]
   omega
  ·split at h
   ·cases h
   ·simp only[Vg,Vz]at h
    obtain⟨rfl,rfl⟩:=h
    simp only[Vd]
    omega
def Tka:∀ (f k acc:Nat) (l:List Int) (n c:Nat),Ap l→Ur (f+1) k acc l=some (n,c)→acc<128 ^ k→∃ m,n=acc+m*128 ^ k∧l=C9a f m++l.drop (c-k)∧(m=0→c=k+1∧(0<k→False))∧m<128 ^ (f+1)
 |0,k,acc,[],n,c,hb,h,ha=>by simp[Ur]at h
 |_+1,k,acc,[],n,c,hb,h,ha=>by simp[Ur]at h
 |0,k,acc,x::l,n,c,hb,h,ha=>by
  have hx:=hb x (by simp)
  unfold Ur at h
  split at h
  ·simp[Ur]at h
  ·rename_i h128
   split at h
   ·cases h
   ·rename_i hz
    simp only[Vg,Vz]at h
    obtain⟨rfl,rfl⟩:=h
    have hm:x.toNat % 128=x.toNat:=J0b (by omega)
    refine⟨x.toNat,by rw[hm],?_,λ h0=>⟨rfl,λ hk=>hz (.inl ⟨by omega,hk⟩)⟩,by omega⟩
    rw[show k+1-k=1 by omega]
    show x::l=[((x.toNat:Nat):Int)]++l
    rw[show ((x.toNat:Nat):Int)=x by omega]
    rfl
 |f+1,k,acc,x::l,n,c,hb,h,ha=>by
  have hx:=hb x (by simp)
  have hb':Ap l:=λ y hy=>hb y (Vh _ hy)
  unfold Ur at h
  split at h
  ·rename_i h128
   have h1:acc+x.toNat % 128*128 ^ k<128 ^ (k+1):=by
    have h2:x.toNat % 128≤127:=by omega
    have h3:=Wp (128 ^ k) h2
    rw[Ilb]
    omega
   obtain⟨m,e1,e2,e3,e4⟩:=Tka f (k+1) _ l n c hb' h h1
   have hbd:=Tk (f+1) (k+1) _ l n c hb' h h1
   have hm0:m≠0:=λ h0=>(e3 h0).2 (by omega)
   refine⟨x.toNat % 128+m*128,?_,?_,λ h0=>by omega,?_⟩
   ·rw[e1,Ilb,Zd]
    have:m*128*128 ^ k=m*(128 ^ k*128):=by rw[Nat.mul_assoc,Lpb 128]
    omega
   ·unfold C9a
    rw[if_neg (by omega),show (x.toNat % 128+m*128)/128=m by omega,show (x.toNat % 128+m*128) % 128=x.toNat % 128 by omega,show c-k=(c-(k+1))+1 by omega,List.drop_succ_cons,List.cons_append,← e2]
    congr 1
    omega
   ·rw[Ilb]
    omega
  ·rename_i h128
   split at h
   ·cases h
   ·rename_i hz
    simp only[Vg,Vz]at h
    obtain⟨rfl,rfl⟩:=h
    have hm:x.toNat % 128=x.toNat:=J0b (by omega)
    have hp:128≤128 ^ (f+1+1):=by
     have:=Nat.pow_le_pow_right (show 0<128 by decide) (show 1≤f+1+1 by omega)
     simpa using this
    refine⟨x.toNat,by rw[hm],?_,λ h0=>⟨rfl,λ hk=>hz (.inl ⟨by omega,hk⟩)⟩,by omega⟩
    rw[show k+1-k=1 by omega]
    unfold C9a
    rw[if_pos (by omega)]
    show x::l=[((x.toNat:Nat):Int)]++l
    rw[show ((x.toNat:Nat):Int)=x by omega]
    rfl
def Tla:∀ (f k acc m:Nat) (rest:List Int),m<128 ^ (f+1)→(0<k→0<m)→acc+m*128 ^ k≤1000000000→Ur (f+1) k acc (C9a f m++rest)=some (acc+m*128 ^ k,k+(C9a f m).length)
 |0,k,acc,m,rest,hm,hk,hn=>by
  show Ur 1 k acc ((m:Int)::rest)=_
  unfold Ur
  have h1:m<128:=by simpa using hm
  rw[if_neg (by omega),if_neg (by
   rw[show (m:Int).toNat % 128=m by rw[Vb];exact J0b h1]
   omega)]
  rw[show (m:Int).toNat % 128=m by rw[Vb];exact J0b h1]
  rfl
 |f+1,k,acc,m,rest,hm,hk,hn=>by
  unfold C9a
  by_cases h:m≤127
  ·rw[if_pos h]
   show Ur (f+2) k acc ((m:Int)::rest)=_
   unfold Ur
   rw[if_neg (by omega),if_neg (by
    rw[show (m:Int).toNat % 128=m by rw[Vb];exact J0b (by omega)]
    omega)]
   rw[show (m:Int).toNat % 128=m by rw[Vb];exact J0b (by omega)]
   rfl
  ·rw[if_neg h]
   show Ur (f+2) k acc (((m % 128+128:Nat):Int)::(C9a f (m/128)++rest))=_
   unfold Ur
   have e1:(((m % 128+128:Nat):Int)).toNat % 128=m % 128:=by rw[Vb];omega
   rw[if_pos (by omega),e1]
   have hmod:m=m % 128+m/128*128:=by omega
   have hm2:m/128<128 ^ (f+1):=by rw[Ilb]at hm;omega
   have e2:acc+m % 128*128 ^ k+m/128*128 ^ (k+1)=acc+m*128 ^ k:=by
    have h2:m*128 ^ k=(m % 128+m/128*128)*128 ^ k:=by rw[← hmod]
    rw[h2,Zd,Ilb]
    have:m/128*128*128 ^ k=m/128*(128 ^ k*128):=by rw[Nat.mul_assoc,Lpb 128]
    omega
   rw[Tla f (k+1) (acc+m % 128*128 ^ k) (m/128) rest hm2 (λ _=>by omega) (by rw[e2];exact hn),e2,Vd]
   simp only[Vg,Vz,true_and]
   omega
def N8a (pre:List Int) (n:Nat) (rest:List Int) (hn:n≤1000000000):Ps (pre++(Po n++rest)) pre.length=some (n,pre.length+(Po n).length):=by
 unfold Ps
 rw[Zo]
 have:=Tla 4 0 0 n rest (by omega) (by omega) (by omega)
 unfold Po
 rw[this]
 simp
def Tl {l:List Int} {p n q:Nat} (hb:Ap l) (h:Ps l p=some (n,q)):l.drop p=Po n++l.drop q∧n≤1000000000∧p<q∧q≤l.length:=by
 unfold Ps at h
 split at h
 ·rename_i m c hd
  simp only[Vg,Vz]at h
  obtain⟨rfl,rfl⟩:=h
  have hb':Ap (l.drop p):=λ y hy=>hb y (Zr hy)
  have hbd:=Tk 5 0 0 _ _ _ hb' hd (by decide)
  obtain⟨m',e1,e2,_,_⟩:=Tka 4 0 0 _ _ _ hb' hd (by decide)
  have e3:m=m':=by rw[e1];simp
  subst e3
  rw[Wc]at hbd
  refine⟨?_,hbd.2.2.2,by omega,by omega⟩
  rw[Jub,Yo]at e2
  exact e2
 ·cases h
def Hxb (i:Nat) (hi:i<5):(2:Int) ^ (min (toNat (wrap .i64 (7*(i:Int)))) (IntKind.bits .i64))=((128 ^ i:Nat):Int):=by
 have:i=0∨i=1∨i=2∨i=3∨i=4:=by omega
 rcases this with rfl|rfl|rfl|rfl|rfl<;>decide
def H3b (i:Nat) (hi:i<5):(2:Int) ^ (min (toNat (wrap .u64 (wrap .i64 (7*(i:Int))))) (IntKind.bits .i64))=((128 ^ i:Nat):Int):=by
 have:i=0∨i=1∨i=2∨i=3∨i=4:=by omega
 rcases this with rfl|rfl|rfl|rfl|rfl<;>decide
def sh7 (i:Nat) (hi:i<5):¬ (wrap .i64 (7*(i:Int))<0)∧¬ (wrap .u64 (wrap .i64 (7*(i:Int)))<0):=by
 have:i=0∨i=1∨i=2∨i=3∨i=4:=by omega
 rcases this with rfl|rfl|rfl|rfl|rfl<;>decide
def Q5 (i:Nat) (hi:i≤5):128 ^ i≤34359738368:=by
 have:=Nat.pow_le_pow_right (show 0<128 by decide) hi
 simpa using this
def Rw (n:Nat) (h:n<18446744073709551616):(ofInt (IntKind.bits .i64) (n:Int)).toNat=n:=by
 rw[K0b]
 show ((n:Int) % ((2 ^ 64:Nat):Int)).toNat=n
 rw[Int.emod_eq_of_lt (by omega) (by omega)]
 exact Vb n
def Adb (n:Nat) (h:n<9223372036854775808):wrap .i64 ((ofInt (IntKind.bits .i64) (n:Int) &&& ofInt (IntKind.bits .i64) 127).toNat)=((n % 128:Nat):Int):=by
 rw[Job,Rw n (by omega),show (ofInt (IntKind.bits .i64) 127).toNat=127 from by decide,show (127:Nat)=2 ^ 7-1 from rfl,Kdb]
 exact w64 (by omega) (by omega)
def N9a (a m i:Nat) (ha:a<128 ^ i) (hm:m<128) (hi:i<5):wrap .i64 ((ofInt (IntKind.bits .i64) (a:Int) ||| ofInt (IntKind.bits .i64) ((m*128 ^ i:Nat):Int)).toNat)=((a+m*128 ^ i:Nat):Int):=by
 have hp:=Q5 i (by omega)
 have hmul:m*128 ^ i≤127*34359738368:=L0b (by omega) hp
 rw[BitVec.toNat_or,Rw a (by omega),Rw _ (by omega),Nat.or_comm]
 have e:(128:Nat) ^ i=2 ^ (7*i):=by rw[Nat.pow_mul]
 have h2:=Nat.two_pow_add_eq_or_of_lt (i:=7*i) (b:=a) (by rw[← e];exact ha) m
 rw[← e,Lpb]at h2
 rw[← h2,Ifb]
 exact w64 (by omega) (by omega)
def Kna (l:List Int) (p:Int):Int×Int×Bool:=if p<0 then (0,0,false) else match Ps l p.toNat with
 |some (n,q)=>((n:Int),(q:Int),true)
 |none=>(0,0,false)
def Gob (p:Nat):Option (Nat×Nat)→Int×Int×Bool
 |some (n,c)=>((n:Int),((p+c:Nat):Int),true)
 |none=>(0,0,false)
def B6a (r:Sum (Int×Int×Bool) Unit):Int×Int×Bool:=Sum.elim (λ y=>y) (λ _=>(0,0,false)) r
def Hna {l:List Int} {p:Nat} (h:p<l.length):l.drop p=l.getD p 0::l.drop (p+1):=Ai h
def Pea (l:List Int) (hb:Ap l) (hl:l.length≤1000000000000) (p:Nat) (hp:p≤1000000000000):∀ (f i acc:Nat),f+i=5→acc<128 ^ i→
  Tot (λ k=>G7 k l (p:Int) (acc:Int) (i:Int)) (λ r=>B6a r=Gob p (Ur f i acc (l.drop (p+i)))):=by
 intro f
 induction f with
 |zero=>
  intro i acc hi ha
  refine Tot.succ ?_
  simp only[G7]
  exact I5b (by omega) (I0b rfl)
 |succ f ih=>
  intro i acc hi ha
  have hi5:i<5:=by omega
  refine Tot.succ ?_
  simp only[G7]
  refine I4b (by omega) (I4b (by omega) ?_)
  rw[w64 (n:=(l.length:Int)-(i:Int)) (by omega) (by omega),w64 (n:=(p:Int)+(i:Int)) (by omega) (by omega),show toNat ((p:Int)+(i:Int))=p+i by omega]
  refine I7b (λ h=>?_) (λ h=>?_)
  ·have hlt:p+i<l.length:=by omega
   refine I4b (by omega) (I4b (by omega) ?_)
   have hx:=hb (l.getD (p+i) 0) (A3 hlt)
   rw[Hna hlt,Hxb i hi5]
   have he:Ur (f+1) i acc (l.getD (p+i) 0::l.drop (p+i+1))=if 128≤l.getD (p+i) 0 then Ur f (i+1) (acc+(l.getD (p+i) 0).toNat % 128*128 ^ i) (l.drop (p+i+1)) else if (l.getD (p+i) 0=0∧0<i)∨1000000000<acc+(l.getD (p+i) 0).toNat % 128*128 ^ i then none else some (acc+(l.getD (p+i) 0).toNat % 128*128 ^ i,i+1):=rfl
   rw[he]
   generalize l.getD (p+i) 0=x at hx ⊢
   obtain⟨v,rfl⟩:∃ v:Nat,x=(v:Int):=⟨x.toNat,by omega⟩
   rw[Vb]
   have hp1:=Q5 i (by omega)
   have hmul:v % 128*128 ^ i≤127*34359738368:=L0b (by omega) hp1
   rw[w64 (n:=(v:Int)) (by omega) (by omega)]
   have e1:Int.tmod (v:Int) 128*((128 ^ i:Nat):Int)=((v % 128*128 ^ i:Nat):Int):=by
    rw[Imb (by omega)]
    push_cast
    rfl
   rw[e1,w64 (n:=((v % 128*128 ^ i:Nat):Int)) (by omega) (by omega),← Int.natCast_add,w64 (n:=((acc+v % 128*128 ^ i:Nat):Int)) (by omega) (by omega),w64 (n:=(i:Int)+1) (by omega) (by omega),w64 (n:=(p:Int)+(i:Int)+1) (by omega) (by omega)]
   refine I5b (sh7 i hi5).1 ?_
   refine I7b (λ h128=>?_) (λ h128=>?_)
   ·rw[if_pos (by omega)]
    have h1:acc+v % 128*128 ^ i<128 ^ (i+1):=by
     have h2:v % 128≤127:=by omega
     have h3:=Wp (128 ^ i) h2
     rw[Ilb]
     omega
    have:=ih (i+1) (acc+v % 128*128 ^ i) (by omega) h1
    rw[show p+(i+1)=p+i+1 by omega]at this
    exact this
   ·rw[if_neg (by omega)]
    have big:Tot (λ _:Nat=>cond (decide (((acc+v % 128*128 ^ i:Nat):Int) > 1000000000)) (some (Sum.inl ((0:Int),(0:Int),false))) (some (Sum.inl (((acc+v % 128*128 ^ i:Nat):Int),(p:Int)+(i:Int)+1,true))):Nat→Option (Sum (Int×Int×Bool) Unit))
      (λ r=>B6a r=if 1000000000<acc+v % 128*128 ^ i then (0,0,false) else (((acc+v % 128*128 ^ i:Nat):Int),((p+(i+1):Nat):Int),true)):=by
     refine I7b (λ hbig=>?_) (λ hbig=>?_)
     ·rw[if_pos (by omega)];exact I0b rfl
     ·rw[if_neg (by omega)]
      refine I0b ?_
      show (_,_,_)=_
      rw[show (p:Int)+(i:Int)+1=((p+(i+1):Nat):Int) by omega]
    have goal:∀ c:Prop,[Decidable c]→(if c∨1000000000<acc+v % 128*128 ^ i then none else some (acc+v % 128*128 ^ i,i+1))=if c then none else if 1000000000<acc+v % 128*128 ^ i then (none:Option (Nat×Nat)) else some (acc+v % 128*128 ^ i,i+1):=by
     intro c _
     by_cases h1:c<;>by_cases h2:1000000000<acc+v % 128*128 ^ i<;>simp[h1,h2]
    rw[goal]
    have fin:(Gob p (if 1000000000<acc+v % 128*128 ^ i then (none:Option (Nat×Nat)) else some (acc+v % 128*128 ^ i,i+1)))=if 1000000000<acc+v % 128*128 ^ i then (0,0,false) else (((acc+v % 128*128 ^ i:Nat):Int),((p+(i+1):Nat):Int),true):=by
     split<;>rfl
    refine I6b (λ h0=>?_) (λ h0=>?_)
    ·have hv:v=0:=by
      have:=beq_iff_eq.1 h0
      omega
     refine I7b (λ hi0=>?_) (λ hi0=>?_)
     ·rw[if_pos ⟨by omega,by omega⟩];exact I0b rfl
     ·rw[if_neg (by omega),fin];exact big
    ·have hv:v≠0:=by
      intro e
      subst e
      simp at h0
     rw[if_neg (by omega),fin];exact big
  ·refine I0b ?_
   rw[Wj (by omega)]
   rfl
def Tma (l:List Int) (hb:Ap l) (hl:l.length≤1000000000000) (p:Int) (hp:p≤1000000000000):Tot (λ k=>Hx k l p) (λ r=>r=Kna l p):=by
 unfold Hx Kna
 by_cases h0:p<0
 ·rw[if_pos h0]
  refine I1b (Q:=λ r=>r = .inr ()) ?_ ?_
  ·refine Tot.succ ?_
   simp only[G7]
   exact I4b (by omega) (I5b (by omega) (I0b rfl))
  ·rintro r rfl
   exact I0b rfl
 ·rw[if_neg h0]
  obtain⟨n,rfl⟩:∃ n:Nat,p=(n:Int):=⟨p.toNat,by omega⟩
  rw[Vb]
  refine I1b (Pea l hb hl n (by omega) 5 0 0 rfl (by decide)) ?_
  intro r hr
  unfold Ps
  rw[Zu]at hr
  have hr':B6a r=(match (match Ur 5 0 0 (l.drop n) with|some (m,c)=>some (m,n+c)|none=>none) with|some (m,q)=>((m:Int),(q:Int),true)|none=>((0:Int),(0:Int),false)):=by
   rw[hr]
   cases Ur 5 0 0 (l.drop n) with
   |none=>rfl
   |some mc=>rfl
  rw[← hr']
  cases r with
  |inl y=>exact I0b rfl
  |inr z=>exact I0b rfl

def Pfa (l:List Int) (hb:Ap l) (hl:l.length≤1000000000000) (p:Nat) (hp:p<l.length):∀ (f i acc:Nat),f+i=5→acc<128 ^ i→
  Tot (λ k=>F3 k l (p:Int) (acc:Int) (i:Int)) (λ r=>B6a r=Gob p (Ur f i acc (l.drop (p+i)))):=by
 intro f
 induction f with
 |zero=>
  intro i acc hi ha
  refine Tot.succ ?_
  simp only[F3]
  exact I5b (by omega) (I0b rfl)
 |succ f ih=>
  intro i acc hi ha
  have hi5:i<5:=by omega
  refine Tot.succ ?_
  simp only[F3]
  refine I4b (by omega) (I4b (by omega) (I4b (by omega) ?_))
  rw[w64 (n:=(p:Int)+(i:Int)) (by omega) (by omega),show toNat ((p:Int)+(i:Int))=p+i by omega]
  refine I7b (λ h=>?_) (λ h=>?_)
  ·have hlt:p+i<l.length:=by omega
   refine I4b (by omega) (I4b (by omega) ?_)
   have hx:=hb (l.getD (p+i) 0) (A3 hlt)
   rw[Hna hlt,H3b i hi5]
   have he:Ur (f+1) i acc (l.getD (p+i) 0::l.drop (p+i+1))=if 128≤l.getD (p+i) 0 then Ur f (i+1) (acc+(l.getD (p+i) 0).toNat % 128*128 ^ i) (l.drop (p+i+1)) else if (l.getD (p+i) 0=0∧0<i)∨1000000000<acc+(l.getD (p+i) 0).toNat % 128*128 ^ i then none else some (acc+(l.getD (p+i) 0).toNat % 128*128 ^ i,i+1):=rfl
   rw[he]
   generalize l.getD (p+i) 0=x at hx ⊢
   obtain⟨v,rfl⟩:∃ v:Nat,x=(v:Int):=⟨x.toNat,by omega⟩
   rw[Vb]
   have hp1:=Q5 i (by omega)
   have hmul:v % 128*128 ^ i≤127*34359738368:=L0b (by omega) hp1
   rw[w64 (n:=(v:Int)) (by omega) (by omega),Adb v (by omega)]
   have e1:((v % 128:Nat):Int)*((128 ^ i:Nat):Int)=((v % 128*128 ^ i:Nat):Int):=by push_cast;rfl
   rw[e1,w64 (n:=((v % 128*128 ^ i:Nat):Int)) (by omega) (by omega),N9a acc (v % 128) i ha (by omega) hi5,w64 (n:=(i:Int)+1) (by omega) (by omega),w64 (n:=(p:Int)+(i:Int)+1) (by omega) (by omega)]
   refine I5b (sh7 i hi5).2 ?_
   refine I7b (λ h128=>?_) (λ h128=>?_)
   ·rw[if_pos (by omega)]
    have h1:acc+v % 128*128 ^ i<128 ^ (i+1):=by
     have h2:v % 128≤127:=by omega
     have h3:=Wp (128 ^ i) h2
     rw[Ilb]
     omega
    have:=ih (i+1) (acc+v % 128*128 ^ i) (by omega) h1
    rw[show p+(i+1)=p+i+1 by omega]at this
    exact this
   ·rw[if_neg (by omega)]
    have big:Tot (λ _:Nat=>cond (decide (((acc+v % 128*128 ^ i:Nat):Int) > 1000000000)) (some (Sum.inl ((0:Int),(0:Int),false))) (some (Sum.inl (((acc+v % 128*128 ^ i:Nat):Int),(p:Int)+(i:Int)+1,true))):Nat→Option (Sum (Int×Int×Bool) Unit))
      (λ r=>B6a r=if 1000000000<acc+v % 128*128 ^ i then (0,0,false) else (((acc+v % 128*128 ^ i:Nat):Int),((p+(i+1):Nat):Int),true)):=by
     refine I7b (λ hbig=>?_) (λ hbig=>?_)
     ·rw[if_pos (by omega)];exact I0b rfl
     ·rw[if_neg (by omega)]
      refine I0b ?_
      show (_,_,_)=_
      rw[show (p:Int)+(i:Int)+1=((p+(i+1):Nat):Int) by omega]
    have goal:∀ c:Prop,[Decidable c]→(if c∨1000000000<acc+v % 128*128 ^ i then none else some (acc+v % 128*128 ^ i,i+1))=if c then none else if 1000000000<acc+v % 128*128 ^ i then (none:Option (Nat×Nat)) else some (acc+v % 128*128 ^ i,i+1):=by
     intro c _
     by_cases h1:c<;>by_cases h2:1000000000<acc+v % 128*128 ^ i<;>simp[h1,h2]
    rw[goal]
    have fin:(Gob p (if 1000000000<acc+v % 128*128 ^ i then (none:Option (Nat×Nat)) else some (acc+v % 128*128 ^ i,i+1)))=if 1000000000<acc+v % 128*128 ^ i then (0,0,false) else (((acc+v % 128*128 ^ i:Nat):Int),((p+(i+1):Nat):Int),true):=by
     split<;>rfl
    refine I7b (λ hi0=>?_) (λ hi0=>?_)
    ·refine I6b (λ h0=>?_) (λ h0=>?_)
     ·have hv:v=0:=by
       have:=beq_iff_eq.1 h0
       omega
      rw[if_pos ⟨by omega,by omega⟩];exact I0b rfl
     ·have hv:v≠0:=by
       intro e
       subst e
       simp at h0
      rw[if_neg (by omega),fin];exact big
    ·rw[if_neg (by omega),fin];exact big
  ·refine I0b ?_
   rw[Wj (by omega)]
   rfl
def X2 (l:List Int) (hb:Ap l) (hl:l.length≤1000000000000) (p:Int):Tot (λ k=>Dk k l p) (λ r=>r=Kna l p):=by
 unfold Dk Kna
 by_cases h0:p<0
 ·rw[if_pos h0]
  refine I1b (Q:=λ r=>r = .inr ()) ?_ ?_
  ·refine Tot.succ ?_
   simp only[F3]
   exact I4b (by omega) (I5b (by omega) (I0b rfl))
  ·rintro r rfl
   exact I0b rfl
 ·rw[if_neg h0]
  by_cases h1:p<(l.length:Int)
  ·obtain⟨n,rfl⟩:∃ n:Nat,p=(n:Int):=⟨p.toNat,by omega⟩
   rw[Vb]
   refine I1b (Pfa l hb hl n (by omega) 5 0 0 rfl (by decide)) ?_
   intro r hr
   unfold Ps
   rw[Zu]at hr
   have hr':B6a r=(match (match Ur 5 0 0 (l.drop n) with|some (m,c)=>some (m,n+c)|none=>none) with|some (m,q)=>((m:Int),(q:Int),true)|none=>((0:Int),(0:Int),false)):=by
    rw[hr]
    cases Ur 5 0 0 (l.drop n) with
    |none=>rfl
    |some mc=>rfl
   refine Tot.mono (Q:=λ y=>y=B6a r) ?_ (λ y hy=>hy.trans hr')
   cases r with
   |inl y=>exact I0b rfl
   |inr z=>exact I0b rfl
  ·have e:Ps l p.toNat=none:=by
    unfold Ps
    rw[Wj (by omega)]
    rfl
   rw[e]
   refine I1b (Q:=λ r=>r = .inr ()) ?_ ?_
   ·refine Tot.succ ?_
    simp only[F3]
    exact I4b (by omega) (I4b (by omega) (I5b h1 (I0b rfl)))
   ·rintro r rfl
    exact I0b rfl
def Bl (n:Int):Nat:=(max 0 (min n 1000000000)).toNat
def Ox (n:Int):Bl n≤1000000000:=by unfold Bl;omega
def B7a {n:Int} (h0:0≤n) (h1:n≤1000000000):(Bl n:Int)=n:=by unfold Bl;omega
def Hoa (n:Nat) (h:n≤255):wrap .u8 (n:Int)=(n:Int):=by
 rw[K1b]
 omega
def Pga:∀ (f n:Nat) (out:List Int),n<128 ^ (f+1)→f≤4→out.length+f≤1000000000010→
  Tot (λ k=>H4 k out (n:Int)) (λ r=>∃ m:Nat,r.2=(m:Int)∧m≤127∧r.1++[(m:Int)]=out++C9a f n∧r.1.length≤out.length+f):=by
 intro f
 induction f with
 |zero=>
  intro n out hn hf hl
  refine Tot.succ ?_
  simp only[H4]
  have:n<128:=by simpa using hn
  exact I5b (by omega) (I0b ⟨n,rfl,by omega,rfl,by simp⟩)
 |succ f ih=>
  intro n out hn hf hl
  have hp:=Q5 (f+1+1-1) (by omega)
  refine Tot.succ ?_
  simp only[H4]
  refine I7b (λ h=>?_) (λ h=>?_)
  ·have hn2:n/128<128 ^ (f+1):=by rw[Ilb]at hn;omega
   have hn3:n<4398046511104:=by
    have:=Q5 (f+1) (by omega)
    rw[Ilb]at hn
    omega
   have e1:Int.tmod (n:Int) 128+128=((n % 128+128:Nat):Int):=by
    rw[Imb (by omega)]
    omega
   have e2:Int.tdiv (n:Int) 128=((n/128:Nat):Int):=by
    rw[Iyb (by omega)]
    omega
   rw[e1,e2,w64 (n:=((n % 128+128:Nat):Int)) (by omega) (by omega),w64 (n:=((n/128:Nat):Int)) (by omega) (by omega),Hoa _ (by omega)]
   refine I8b (by simp only[Vd,Vk];omega) ?_
   refine(ih (n/128) (out++[((n % 128+128:Nat):Int)]) hn2 (by omega) (by simp only[Ve,Vd,Vk];omega)).mono ?_
   rintro r ⟨m,h1,h2,h3,h4⟩
   refine⟨m,h1,h2,?_,by simp only[Ve,Vd,Vk]at h4;omega⟩
   rw[h3,Vn]
   congr 1
   conv => { rhs;unfold C9a }
   rw[if_neg (by omega)]
   rfl
  ·refine I0b ⟨n,rfl,by omega,?_,by show out.length≤out.length+(f+1);omega⟩
   unfold C9a
   rw[if_pos (by omega)]
def B8a (out:List Int) (n:Int) (hl:out.length≤1000000000000):Tot (λ k=>Fb k out n) (λ r=>r=out++Po (Bl n)):=by
 unfold Fb
 have e:(if (0:Int)<(if (1000000000:Int)<n then 1000000000 else n) then (if (1000000000:Int)<n then 1000000000 else n) else 0)=((Bl n:Nat):Int):=by
  unfold Bl
  split<;>split<;>omega
 simp only
 rw[e]
 have hc:=Ox n
 refine I1b (Pga 4 (Bl n) out (by omega) (by omega) (by omega)) ?_
 rintro r ⟨m,h1,h2,h3,h4⟩
 rw[h1,Hoa m (by omega)]
 refine I8b (by simp only[Vd,Vk];omega) (I0b h3)
def Pha:∀ (f n:Nat) (out:List Int),n<128 ^ (f+1)→f≤4→out.length+f≤1000000000010→
  Tot (λ k=>D6 k (n:Int) out) (λ r=>∃ m:Nat,r.1=(m:Int)∧m≤127∧r.2++[(m:Int)]=out++C9a f n∧r.2.length≤out.length+f):=by
 intro f
 induction f with
 |zero=>
  intro n out hn hf hl
  refine Tot.succ ?_
  simp only[D6]
  have:n<128:=by simpa using hn
  exact I5b (by omega) (I0b ⟨n,rfl,by omega,rfl,by simp⟩)
 |succ f ih=>
  intro n out hn hf hl
  refine Tot.succ ?_
  simp only[D6]
  refine I7b (λ h=>?_) (λ h=>?_)
  ·have hn2:n/128<128 ^ (f+1):=by rw[Ilb]at hn;omega
   have hn3:n<4398046511104:=by
    have:=Q5 (f+1) (by omega)
    rw[Ilb]at hn
    omega
   have e1:wrap .i64 ((ofInt (IntKind.bits .i64) ((n % 128:Nat):Int) ||| ofInt (IntKind.bits .i64) 128).toNat)=((n % 128+128:Nat):Int):=by
    have:=N9a (n % 128) 1 1 (by omega) (by omega) (by omega)
    exact this
   have e2:Int.fdiv (n:Int) (2 ^ (min (toNat 7) (IntKind.bits .i64)))=((n/128:Nat):Int):=by
    have:(2:Int) ^ (min (toNat 7) (IntKind.bits .i64))=128:=by decide
    rw[this,Inb _ (by omega)]
    omega
   rw[Adb n (by omega),e1,e2,Hoa _ (by omega)]
   refine I8b (by simp only[Vd,Vk];omega) ?_
   refine(ih (n/128) (out++[((n % 128+128:Nat):Int)]) hn2 (by omega) (by simp only[Ve,Vd,Vk];omega)).mono ?_
   rintro r ⟨m,h1,h2,h3,h4⟩
   refine⟨m,h1,h2,?_,by simp only[Ve,Vd,Vk]at h4;omega⟩
   rw[h3,Vn]
   congr 1
   conv => { rhs;unfold C9a }
   rw[if_neg (by omega)]
   rfl
  ·refine I0b ⟨n,rfl,by omega,?_,by show out.length≤out.length+(f+1);omega⟩
   unfold C9a
   rw[if_pos (by omega)]
def B9a (out:List Int) (n:Int) (hl:out.length≤1000000000000):Tot (λ k=>Dl k out n) (λ r=>r=out++Po (Bl n)):=by
 have hc:=Ox n
 have fin:Tot (λ k=>(D6 k ((Bl n:Nat):Int) (([]:List Int)++out)).bind λ r1=>cond (Nat.ble ((length r1.2+length [wrap .u8 r1.1])*1) 140737488355328) (some (r1.2++[wrap .u8 r1.1])) none) (λ r=>r=out++Po (Bl n)):=by
  rw[Vy]
  refine I1b (Pha 4 (Bl n) out (by omega) (by omega) (by omega)) ?_
  rintro r ⟨m,h1,h2,h3,h4⟩
  rw[h1,Hoa m (by omega)]
  exact I8b (by simp only[Vd,Vk];omega) (I0b h3)
 unfold Dl
 refine I8b (by simp only[Vk];omega) ?_
 refine I7b (λ h1=>?_) (λ h1=>?_)
 ·refine I5b (by omega) ?_
  have e:((Bl n:Nat):Int)=1000000000:=by unfold Bl;omega
  rw[e]at fin
  exact fin
 ·refine I7b (λ h2=>?_) (λ h2=>?_)
  ·have e:((Bl n:Nat):Int)=0:=by unfold Bl;omega
   rw[e]at fin
   exact fin
  ·have e:((Bl n:Nat):Int)=n:=by unfold Bl;omega
   rw[e]at fin
   exact fin
def N4 (n:Nat):(Po n).length≤5∧0<(Po n).length:=Tja 4 n
def Dfa:∀ (f n:Nat),n<128 ^ (f+1)→Ap (C9a f n)
 |0,n,hn=>by
  intro x hx
  simp only[C9a,Vu]at hx
  have:n<128:=by simpa using hn
  omega
 |f+1,n,hn=>by
  unfold C9a
  split
  ·intro x hx
   simp only[Vu]at hx
   omega
  ·intro x hx
   rcases Vl.1 hx with rfl|hx
   ·omega
   ·exact Dfa f (n/128) (by rw[Ilb]at hn;omega) x hx
def Pia (n:Nat) (hn:n≤1000000000):Ap (Po n):=Dfa 4 n (by omega)
def Dga (s:ByteArray):Ap (bytesOf s):=by
 intro x hx
 unfold bytesOf at hx
 obtain⟨b,_,rfl⟩:=Zb.1 hx
 have:=b.toNat_lt
 omega
def Qt (s:ByteArray):(bytesOf s).length=s.size:=by
 unfold bytesOf
 rw[Wd]
 exact Ze
def Us (s:ByteArray):Lq (bytesOf s)=s:=by
 unfold Lq bytesOf
 rw[Jhb]
 have:(λ n:Int=>UInt8.ofNat n.toNat) ∘ (λ b:UInt8=>(b.toNat:Int))=id:=by
  funext b
  show UInt8.ofNat ((b.toNat:Int)).toNat=b
  rw[Vb]
  exact UInt8.ofNat_toNat
 rw[this,List.map_id]
def Oj {l:List Int} (h:Ap l):bytesOf (Lq l)=l:=by
 unfold Lq bytesOf
 show List.map _ (List.map _ l)=l
 rw[Jhb]
 have:∀ x∈l,((λ b:UInt8=>(b.toNat:Int)) ∘ (λ n:Int=>UInt8.ofNat n.toNat)) x=x:=by
  intro x hx
  have hb:=h x hx
  show ((UInt8.ofNat x.toNat).toNat:Int)=x
  rw[UInt8.toNat_ofNat']
  omega
 exact(Itb this).trans (List.map_id' l)
def Om (l:List Int):(Lq l).size=l.length:=by
 unfold Lq
 show (List.map _ l).toArray.size=l.length
 simp
def txt (s:ByteArray):List Int:=Po (Bl (s.size:Int))++bytesOf s
def Xwa (out:List Int) (s:ByteArray) (hl:out.length≤1000000000000) (hs:s.size≤1000000000000):Tot (λ k=>Ja k out s) (λ r=>r=out++txt s):=by
 unfold Ja txt
 refine Icb (B8a out _ hl) ?_
 have:=(N4 (Bl (s.size:Int))).1
 refine I8b (by simp only[Ve];omega) (I0b ?_)
 rw[Vn]
def Xxa (out:List Int) (s:ByteArray) (hl:out.length≤1000000000000) (hs:s.size≤1000000000000):Tot (λ k=>Jc k out s) (λ r=>r=out++txt s):=by
 unfold Jc txt
 refine Icb (B9a out _ hl) ?_
 have:=(N4 (Bl (s.size:Int))).1
 refine I8b (by simp only[Ve];omega) (I0b ?_)
 rw[Vn]
def Naa (l:List Int) (p:Nat):Option (ByteArray×Nat):=match Ps l p with
 |some (n,q)=>if q+n≤l.length then some (Lq ((l.drop q).take n),q+n) else none
 |none=>none
def E7b (l:List Int) (p:Int):ByteArray×Int×Bool:=if p<0 then ((⟨#[]⟩:ByteArray),0,false) else match Naa l p.toNat with
 |some (s,q)=>(s,(q:Int),true)
 |none=>((⟨#[]⟩:ByteArray),0,false)
def Dha (l:List Int) (hb:Ap l) (p:Int):Kna l p=(0,0,false)∨∃ n q,0≤p∧Ps l p.toNat=some (n,q)∧Kna l p=((n:Int),(q:Int),true)∧n≤1000000000∧q≤l.length:=by
 unfold Kna
 by_cases h:p<0
 ·rw[if_pos h];exact .inl rfl
 ·rw[if_neg h]
  cases hg:Ps l p.toNat with
  |none=>exact .inl rfl
  |some nq=>
   obtain⟨n,q⟩:=nq
   have:=Tl hb hg
   exact .inr ⟨n,q,by omega,rfl,rfl,this.2.1,this.2.2.2⟩
def Nba (l:List Int) (hb:Ap l) (hl:l.length≤1000000000000) (p:Int) (hp:p≤1000000000000):Tot (λ k=>J9 k l p) (λ r=>r=E7b l p):=by
 unfold J9
 refine Icb (Tma l hb hl p hp) ?_
 unfold E7b Naa
 rcases Dha l hb p with h|⟨n,q,h0,hg,h,hn,hq⟩
 ·rw[h]
  refine I3b rfl (I0b ?_)
  unfold Kna at h
  split
  ·rfl
  ·rename_i h0
   rw[if_neg h0]at h
   cases hg:Ps l p.toNat with
   |none=>rfl
   |some nq=>rw[hg]at h;simp at h
 ·rw[h]
  refine I2b rfl ?_
  rw[if_neg (by omega),hg]
  simp only
  rw[w64 (n:=(l.length:Int)-(q:Int)) (by omega) (by omega),w64 (n:=(q:Int)+(n:Int)) (by omega) (by omega)]
  refine I7b (λ hgt=>?_) (λ hgt=>?_)
  ·rw[if_neg (by omega)]
   exact I0b rfl
  ·rw[if_pos (by omega)]
   refine I4b (by omega) (I4b (by omega) (I4b (by omega) (I0b ?_)))
   rw[show toNat ((q:Int)+(n:Int))=q+n by omega,Vb,Jgb,show q+n-q=n by omega]
   simp only[Vz,true_and,and_true]
   push_cast
   rfl
def F0a (l:List Int) (hb:Ap l) (hl:l.length≤1000000000000) (p:Int):Tot (λ k=>Jb k l p) (λ r=>r=E7b l p):=by
 unfold Jb
 refine Icb (X2 l hb hl p) ?_
 unfold E7b Naa
 rcases Dha l hb p with h|⟨n,q,h0,hg,h,hn,hq⟩
 ·rw[h]
  refine I3b rfl (I0b ?_)
  unfold Kna at h
  split
  ·rfl
  ·rename_i h0
   rw[if_neg h0]at h
   cases hg:Ps l p.toNat with
   |none=>rfl
   |some nq=>rw[hg]at h;simp at h
 ·rw[h]
  refine I2b rfl ?_
  rw[if_neg (by omega),hg]
  simp only
  rw[w64 (n:=(l.length:Int)-(q:Int)) (by omega) (by omega),w64 (n:=(q:Int)+(n:Int)) (by omega) (by omega)]
  refine I7b (λ hgt=>?_) (λ hgt=>?_)
  ·rw[if_neg (by omega)]
   exact I0b rfl
  ·rw[if_pos (by omega)]
   refine I4b (by omega) (I4b (by omega) (I4b (by omega) (I0b ?_)))
   rw[show toNat ((q:Int)+(n:Int))=q+n by omega,Vb,Jgb,show q+n-q=n by omega]
   simp only[Vz,true_and,and_true]
   push_cast
   rfl
def Koa {l:List Int} {p q:Nat} {s:ByteArray} (hb:Ap l) (h:Naa l p=some (s,q)):l.drop p=txt s++l.drop q∧s.size≤1000000000∧p<q∧q≤l.length:=by
 unfold Naa at h
 split at h
 ·rename_i n q0 hg
  obtain⟨h1,h2,h3,h4⟩:=Tl hb hg
  split at h
  ·rename_i hle
   simp only[Vg,Vz]at h
   obtain⟨rfl,rfl⟩:=h
   have hlen:((l.drop q0).take n).length=n:=by rw[Vq,Wc];omega
   have hbb:Ap ((l.drop q0).take n):=λ x hx=>hb x (Zr (Iqb hx))
   refine⟨?_,by rw[Om,hlen];exact h2,by omega,by omega⟩
   unfold txt
   rw[Om,hlen,Oj hbb,h1,show Bl (n:Int)=n by unfold Bl;omega,Vn]
   congr 1
   rw[← Yo,Wo]
  ·cases h
 ·cases h
def Xya (pre:List Int) (s:ByteArray) (rest:List Int) (hs:s.size≤1000000000):Naa (pre++(txt s++rest)) pre.length=some (s,pre.length+(txt s).length):=by
 unfold Naa txt
 have hc:Bl (s.size:Int)=s.size:=by unfold Bl;omega
 rw[hc,Vn,N8a pre s.size _ hs]
 simp only
 rw[if_pos (by simp only[Ve,Qt];omega)]
 have e:(pre++(Po s.size++(bytesOf s++rest))).drop (pre.length+(Po s.size).length)=bytesOf s++rest:=by
  rw[← Vn,← Ve,Zo]
 rw[e,Kpb (Qt s),Us]
 simp only[Ve,Qt,Vg,Vz,true_and]
 omega

def F1a (b:Bool):Int:=bif b then 1 else 0
def Cmb (b:Bool):O3 b=some (F1a b):=by cases b<;>rfl
def Xza (b:Bool):L6 b=some (F1a b):=by cases b<;>rfl
def Qla (s:Stp):List Int:=Po (Bl s.1)++(Po (Bl s.2.1)++Po (Bl s.2.2))
def Nca (s:Stp):(Qla s).length≤15:=by
 unfold Qla
 have h1:=(N4 (Bl s.1)).1
 have h2:=(N4 (Bl s.2.1)).1
 have h3:=(N4 (Bl s.2.2)).1
 simp only[Ve]
 omega
def Pja (out:List Int) (s:Stp) (b:Bool) (hl:out.length≤999999999900):Tot (λ k=>Ic k out s b) (λ r=>r=out++(Qla s++Po (Bl (F1a b)))):=by
 have h1:=(N4 (Bl s.1)).1
 have h2:=(N4 (Bl s.2.1)).1
 have h3:=(N4 (Bl s.2.2)).1
 unfold Ic Qla
 refine Icb (B8a out s.1 (by omega)) ?_
 refine Icb (B8a _ s.2.1 (by simp only[Ve];omega)) ?_
 refine Icb (B8a _ s.2.2 (by simp only[Ve];omega)) ?_
 refine Icb (Ieb (Q:=λ y=>y=F1a b) (Cmb b) rfl) ?_
 refine Icb (B8a _ (F1a b) (by simp only[Ve];omega)) ?_
 exact I0b (by simp only[Vn])
def Pka (out:List Int) (s:Stp) (hl:out.length≤999999999900):Tot (λ k=>Jd k out s) (λ r=>r=out++Qla s):=by
 have h1:=(N4 (Bl s.1)).1
 have h2:=(N4 (Bl s.2.1)).1
 unfold Jd Qla
 refine Icb (B9a out s.1 (by omega)) ?_
 refine Icb (B9a _ s.2.1 (by simp only[Ve];omega)) ?_
 refine Icb (B9a _ s.2.2 (by simp only[Ve];omega)) ?_
 exact I0b (by simp only[Vn])
def Baa {s:ByteArray} (h:B5 s=true):1≤s.size∧s.size≤20:=by
 unfold B5 at h
 rw[Va,Fi]at h
 omega
def Dia {r:Row} (h:Np r=true):B5 r.1=true:=by
 unfold Np at h
 rw[Va]at h
 exact h.1
def Cnb (s:ByteArray):(txt s).length≤5+s.size:=by
 have h1:=(N4 (Bl (s.size:Int))).1
 unfold txt
 simp only[Ve,Qt]
 omega

def Z6 (l:List Int) (p:Nat):Kna l (p:Int)=match Ps l p with
 |some (n,q)=>((n:Int),(q:Int),true)
 |none=>(0,0,false):=by
 unfold Kna
 rw[if_neg (by omega),Vb]
 all_goals cases Ps l p<;>rfl
def Nda (l:List Int) (p:Nat):E7b l (p:Int)=match Naa l p with
 |some (s,q)=>(s,(q:Int),true)
 |none=>((⟨#[]⟩:ByteArray),0,false):=by
 unfold E7b
 rw[if_neg (by omega),Vb]
 all_goals cases Naa l p<;>rfl
def Cfa (l:List Int) (hb:Ap l) (hl:l.length≤1000000000000) (p:Nat) (hp:p≤l.length) (bad:Bool):
  Tot (λ k=>Cy k (l,(p:Int),bad)) (λ r=>(bad=false∧∃ n q:Nat,Ps l p=some (n,q)∧q≤l.length∧r=((n:Int),l,(q:Int),false))∨((bad=true∨Ps l p=none)∧r=(0,l,(p:Int),true))):=by
 unfold Cy
 refine Icb (Tma l hb hl (p:Int) (by omega)) ?_
 refine I6b (λ h=>I0b (.inr ⟨.inl h,rfl⟩)) (λ h=>?_)
 rw[Z6]
 cases hg:Ps l p with
 |none=>exact I3b rfl (I0b (.inr ⟨.inr rfl,rfl⟩))
 |some nq=>
  obtain⟨n,q⟩:=nq
  simp only at h
  subst h
  exact I2b rfl (I0b (.inl ⟨rfl,n,q,rfl,(Tl hb hg).2.2.2,rfl⟩))
def H4b (l:List Int) (hb:Ap l) (hl:l.length≤1000000000000) (p:Nat) (hp:p≤l.length):
  Tot (λ k=>Ct k (l,(p:Int),false)) (λ r=>(∃ (s:ByteArray) (q:Nat),Naa l p=some (s,q)∧q≤l.length∧r=(s,l,(q:Int),false))∨(Naa l p=none∧r=((⟨#[]⟩:ByteArray),l,(p:Int),true))):=by
 unfold Ct
 refine Icb (Nba l hb hl (p:Int) (by omega)) ?_
 refine I2b rfl ?_
 rw[Nda]
 cases hg:Naa l p with
 |none=>exact I3b rfl (I0b (.inr ⟨rfl,rfl⟩))
 |some nq=>
  obtain⟨n,q⟩:=nq
  exact I2b rfl (I0b (.inl ⟨n,q,rfl,(Koa hb hg).2.2.2,rfl⟩))
def Rc (l:List Int) (p:Nat):Option ((Stp×Bool)×Nat):=
 (Ps l p).bind λ b=>(Ps l b.2).bind λ c=>(Ps l c.2).bind λ d=>(Ps l d.2).bind λ e=>bif decide (1<e.1) then none else
  some ((((b.1:Int),(c.1:Int),(d.1:Int)),(e.1:Int)==1),e.2)
def H5b (l:List Int) (hb:Ap l) (hl:l.length≤1000000000000) (p:Nat) (hp:p≤l.length) (bad:Bool):
  Tot (λ k=>Di k (l,(p:Int),bad)) (λ r=>(bad=false∧∃ (x:Stp×Bool) (q:Nat),Rc l p=some (x,q)∧q≤l.length∧r=(x.1,x.2,l,(q:Int),false))∨((bad=true∨Rc l p=none)∧∃ s b,∃ q:Nat,q≤l.length∧r=(s,b,l,(q:Int),true))):=by
 unfold Di
 have nx:∀ {o:Option (Nat×Nat)} {f:Nat×Nat→Option ((Stp×Bool)×Nat)},o=none→o.bind f=none:=by
  intro o f h;rw[h];rfl
 refine I1b (Cfa l hb hl p hp bad) ?_
 rintro r (⟨h0,n1,p1,h1,l1,rfl⟩|⟨h1,rfl⟩)
 ·simp only
  refine I1b (Cfa l hb hl p1 l1 false) ?_
  rintro r (⟨_,n2,p2,h2,l2,rfl⟩|⟨h2,rfl⟩)
  ·simp only
   refine I1b (Cfa l hb hl p2 l2 false) ?_
   rintro r (⟨_,n3,p3,h3,l3,rfl⟩|⟨h3,rfl⟩)
   ·simp only
    refine I1b (Cfa l hb hl p3 l3 false) ?_
    rintro r (⟨_,n4,p4,h4,l4,rfl⟩|⟨h4,rfl⟩)
    ·simp only
     refine I2b rfl (I0b ?_)
     have e:Rc l p=bif decide (1<n4) then none else some ((((n1:Int),(n2:Int),(n3:Int)),(n4:Int)==1),p4):=by
      unfold Rc
      simp only[h1,h2,h3,h4,Vp]
     cases hd:decide (1<n4) with
     |true=>
      rw[hd,cond_true]at e
      refine .inr ⟨.inr e,((n1:Int),(n2:Int),(n3:Int)),((n4:Int)==1),p4,l4,?_⟩
      have:decide ((n4:Int) > 1)=true:=decide_eq_true (by have:=of_decide_eq_true hd;omega)
      rw[this]
     |false=>
      rw[hd,cond_false]at e
      refine .inl ⟨h0,_,p4,e,l4,?_⟩
      have:decide ((n4:Int) > 1)=false:=decide_eq_false (by have:=of_decide_eq_false hd;omega)
      rw[this]
    ·refine I3b rfl (I0b (.inr ⟨.inr ?_,_,_,p3,l3,rfl⟩))
     have h4':=h4.resolve_left (by simp)
     unfold Rc
     simp only[h1,h2,h3,h4',Vp,J1b]
   ·simp only
    refine I1b (Cfa l hb hl p2 l2 true) ?_
    rintro r (⟨hh,_⟩|⟨_,rfl⟩)
    ·cases hh
    ·refine I3b rfl (I0b (.inr ⟨.inr ?_,_,_,p2,l2,rfl⟩))
     have h3':=h3.resolve_left (by simp)
     unfold Rc
     simp only[h1,h2,h3',Vp,J1b]
  ·simp only
   refine I1b (Cfa l hb hl p1 l1 true) ?_
   rintro r (⟨hh,_⟩|⟨_,rfl⟩)
   ·cases hh
   ·refine I1b (Cfa l hb hl p1 l1 true) ?_
    rintro r (⟨hh,_⟩|⟨_,rfl⟩)
    ·cases hh
    ·refine I3b rfl (I0b (.inr ⟨.inr ?_,_,_,p1,l1,rfl⟩))
     have h2':=h2.resolve_left (by simp)
     unfold Rc
     simp only[h1,h2',Vp,J1b]
 ·simp only
  refine I1b (Cfa l hb hl p hp true) ?_
  rintro r (⟨hh,_⟩|⟨_,rfl⟩)
  ·cases hh
  ·refine I1b (Cfa l hb hl p hp true) ?_
   rintro r (⟨hh,_⟩|⟨_,rfl⟩)
   ·cases hh
   ·refine I1b (Cfa l hb hl p hp true) ?_
    rintro r (⟨hh,_⟩|⟨_,rfl⟩)
    ·cases hh
    ·refine I3b rfl (I0b (.inr ⟨?_,_,_,p,hp,rfl⟩))
     rcases h1 with h1|h1
     ·exact .inl h1
     ·refine .inr ?_
      unfold Rc
      rw[h1]
      rfl
def Cob (l:List Int) (hb:Ap l) (hl:l.length≤1000000000000) (p:Int):
  Tot (λ k=>Fx k l p) (λ r=>(∃ n1 p1 n2 p2 n3 p3,0≤p∧Ps l p.toNat=some (n1,p1)∧Ps l p1=some (n2,p2)∧Ps l p2=some (n3,p3)∧r=(((n1:Int),(n2:Int),(n3:Int)),(p3:Int),true))∨(((Ps l p.toNat).bind λ a=>(Ps l a.2).bind λ b=>Ps l b.2)=none∨p<0)∧r.2.2=false):=by
 unfold Fx
 refine Icb (X2 l hb hl p) ?_
 refine Icb (X2 l hb hl _) ?_
 refine Icb (X2 l hb hl _) ?_
 by_cases hp:p<0
 ·have:(Kna l p).2.2=false:=by unfold Kna;rw[if_pos hp]
  exact I2b this (I0b (.inr ⟨.inr hp,rfl⟩))
 ·have e1:Kna l p=match Ps l p.toNat with|some (n,q)=>((n:Int),(q:Int),true)|none=>(0,0,false):=by
   unfold Kna;rw[if_neg hp];all_goals cases Ps l p.toNat<;>rfl
  cases h1:Ps l p.toNat with
  |none=>
   rw[h1]at e1
   simp only[e1]
   exact I2b rfl (I0b (.inr ⟨.inl rfl,rfl⟩))
  |some a=>
   obtain⟨n1,p1⟩:=a
   rw[h1]at e1
   simp only[e1,Z6,Vp]
   refine I3b rfl ?_
   cases h2:Ps l p1 with
   |none=>exact I2b rfl (I0b (.inr ⟨.inl rfl,rfl⟩))
   |some b=>
    obtain⟨n2,p2⟩:=b
    refine I3b rfl ?_
    simp only[Z6,Vp]
    cases h3:Ps l p2 with
    |none=>exact I0b (.inr ⟨.inl rfl,rfl⟩)
    |some c=>
     obtain⟨n3,p3⟩:=c
     exact I0b (.inl ⟨n1,p1,n2,p2,n3,p3,by omega,rfl,h2,h3,rfl⟩)
def Tna {l:List Int} {p:Nat} (h:((Ps l p).bind λ a=>(Ps l a.2).bind λ b=>Ps l b.2)=none):Rc l p=none:=by
 unfold Rc
 cases h1:Ps l p with
 |none=>rfl
 |some a=>
  rw[h1]at h
  simp only[Vp]at h ⊢
  cases h2:Ps l a.2 with
  |none=>rfl
  |some b=>
   rw[h2]at h
   simp only[Vp]at h ⊢
   rw[h]
   rfl

def Kpa:∀ s∈Kw,M1 s∧B5 s=true:=by
 intro s hs
 simp only[Kw,Vl,Ikb,or_false]at hs
 rcases hs with rfl|rfl|rfl|rfl|rfl|rfl<;>exact⟨by unfold M1;decide,by decide⟩

abbrev Nmd:=ByteArray×List Int
abbrev Dsk:=List Nmd×List Nmd
def D8:Nmd:=((⟨#[]⟩:ByteArray),[])
def Fza (l:List Nmd):Prop:=l.length≤1000000000000∧∀ x∈l,x.2.length≤1000000000000
def Y0a (d:Dsk):Prop:=Fza d.1∧Fza d.2
def Nh (l:List Int) (h:l.length≤1000000000000):Ar l=some l:=by
 unfold Ar
 rw[show Nat.ble ((length ([]:List Int)+length l)*1) 140737488355328=true from Zp (by simp only[Vk];omega)]
 rfl
def Xx (l:List Nmd) (hf:Fza l):∀ (n i:Nat) (acc:List Nmd),l.length-i=n→i≤l.length→acc.length≤i→
  Tot (λ k=>Dr k acc l (l.length:Int) (i:Int)) (λ r=>r=acc++l.drop i):=by
 obtain⟨h1,h2⟩:=hf
 intro n
 induction n with
 |zero=>
  intro i acc hd hi ha
  refine Tot.succ ?_
  simp only[Dr]
  refine I5b (by omega) (I0b ?_)
  rw[Wj (by omega),Xs]
 |succ n ih=>
  intro i acc hd hi ha
  have hlt:i<l.length:=by omega
  refine Tot.succ ?_
  simp only[Dr]
  refine I4b (by omega) (I4b (by omega) (I4b (by omega) ?_))
  rw[show toNat (i:Int)=i from Vb i,w64 (n:=(i:Int)+1) (by omega) (by omega),Ai (d:=D8) hlt]
  have e0:l.getD i ((⟨#[]⟩:ByteArray),([]:List Int))=l.getD i D8:=rfl
  rw[e0]
  have hb:=h2 _ (A3 (d:=D8) hlt)
  refine Icb (Ieb (Q:=λ r=>r=(l.getD i D8).2) (Nh _ hb) rfl) ?_
  refine I8b (by simp only[Vd,Vk];omega) ?_
  refine(ih (i+1) (acc++[l.getD i D8]) (by omega) (by omega) (by simp only[Ve,Vd,Vk];omega)).mono ?_
  rintro r rfl
  rw[Vn]
  rfl
def Ut (l:List Nmd) (hf:Fza l):Tot (λ k=>C0 k l) (λ r=>r=l):=by
 unfold C0
 refine I1b (Xx l hf _ 0 [] rfl (Vs _) (Vs _)) ?_
 intro r hr
 rw[Wq,Vy]at hr
 exact I0b hr
def Jn (d:Dsk) (hf:Y0a d):Tot (λ k=>A5 k d) (λ r=>r=d):=by
 unfold A5
 refine Icb (Ut d.1 hf.1) ?_
 refine Icb (Ut d.2 hf.2) ?_
 exact I0b rfl
def fnd (l:List Nmd) (s:ByteArray):Option Nat:=l.findIdx? (λ x=>teq x.1 s)
def Dja (l:List Nmd) (s:ByteArray):Int:=match fnd l s with
 |some i=>(i:Int)
 |none => -1
def Toa (l:List Nmd) (s:ByteArray) (hf:l.length≤1000000000000):∀ (n i:Nat),l.length-i=n→i≤l.length→
  Tot (λ k=>Le k s l (l.length:Int) (i:Int)) (λ r=>r=match fnd (l.drop i) s with|some j => .inl ((i+j:Nat):Int)|none => .inr ()):=by
 intro n
 induction n with
 |zero=>
  intro i hd hi
  refine Tot.succ ?_
  simp only[Le]
  refine I5b (by omega) (I0b ?_)
  rw[Wj (by omega)]
  rfl
 |succ n ih=>
  intro i hd hi
  have hlt:i<l.length:=by omega
  refine Tot.succ ?_
  simp only[Le]
  refine I4b (by omega) (I4b (by omega) (I4b (by omega) ?_))
  rw[show toNat (i:Int)=i from Vb i,w64 (n:=(i:Int)+1) (by omega) (by omega),Ai (d:=D8) hlt]
  have e0:l.getD i ((⟨#[]⟩:ByteArray),([]:List Int))=l.getD i D8:=rfl
  rw[e0]
  have e1:fnd (l.getD i D8::l.drop (i+1)) s=if teq (l.getD i D8).1 s then some 0 else (fnd (l.drop (i+1)) s).map (· + 1):=by
   unfold fnd
   rw[K2b]
  rw[e1]
  refine I6b (λ h=>?_) (λ h=>?_)
  ·have h':teq (l.getD i D8).1 s=true:=h
   rw[if_pos h']
   exact I0b rfl
  ·have h':¬ (teq (l.getD i D8).1 s=true):=by
    have:teq (l.getD i D8).1 s=false:=h
    rw[this];simp
   rw[if_neg h']
   refine(ih (i+1) (by omega) (by omega)).mono ?_
   rintro r rfl
   cases fnd (l.drop (i+1)) s with
   |none=>rfl
   |some j=>
    show Sum.inl _=Sum.inl _
    rw[show i+1+j=i+(j+1) by omega]
def Hpa (l:List Nmd) (s:ByteArray) (hf:l.length≤1000000000000):Tot (λ k=>Jy k l s) (λ r=>r=Dja l s):=by
 unfold Jy Dja
 refine Icb (Toa l s hf _ 0 rfl (Vs _)) ?_
 rw[Wq]
 cases fnd l s with
 |none=>exact I0b rfl
 |some j=>
  refine I0b ?_
  rw[Wk]
def O7 {l:List Nmd} {s:ByteArray} {i:Nat} (h:fnd l s=some i):i<l.length∧(l.getD i D8).1=s:=by
 unfold fnd at h
 rw[J4b]at h
 obtain⟨h1,h2,_⟩:=h
 refine⟨h1,?_⟩
 rw[Vc,Vj h1]
 exact Cr.1 h2
def del (l:List Nmd) (s:ByteArray):List Nmd:=match fnd l s with
 |some i=>l.take i++l.drop (i+1)
 |none=>l
def Uu (l:List Nmd) (s:ByteArray) (hf:l.length≤1000000000000):Tot (λ k=>Hj k l s) (λ r=>r=del l s):=by
 unfold Hj del
 refine Icb (Hpa l s hf) ?_
 unfold Dja
 cases h:fnd l s with
 |none=>exact I4b (by decide) (I0b rfl)
 |some i=>
  have hl:=(O7 h).1
  dsimp only
  refine I5b (by omega) (I4b (by omega) (I4b (by omega) ?_))
  rw[w64 (n:=(i:Int)+1) (by omega) (by omega),show toNat (i:Int)=i from Vb i,show toNat ((i:Int)+1)=i+1 by omega]
  refine I8b (by simp only[Vk,Vq];omega) ?_
  refine I4b (by omega) (I4b (by omega) (I8b (by simp only[Ve,Vk,Vq,Wc];omega) (I0b rfl)))

end Go.Proofs.YtmhhjceoinoekaaGreat.Vf
