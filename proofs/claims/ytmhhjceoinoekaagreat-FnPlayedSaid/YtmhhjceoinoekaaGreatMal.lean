import Derived.Test.YtmhhjceoinoekaaGreatMak
import Derived.Test.YtmhhjceoinoekaaGreatMab
import Derived.IntWalk
import Derived.Laws.StructEq
set_option linter.all false
namespace Go.Proofs.YtmhhjceoinoekaaGreat.Vf
open Go
open List (length getD)
open Int (toNat)
open Go.IntKind (wrap)
open BitVec (ofInt)
def Va:=@Int.toNat_natCast
def Vz:=@List.drop_length
def Wa:=@List.drop_of_length_le
def Wd:=@Bool.true_and
def Wo:=@Bool.not_eq_false'
def Yk:=@List.mem_or_eq_of_mem_set
def Zk:=@List.pairwise_iff_getElem
def Zs:=@List.takeWhile_cons
def Zt:=@Bool.false_and
def Zw:=@Int.tmod_eq_emod_of_nonneg
def Hlb:=@List.not_mem_nil
def Hmb:=@Nat.pow_succ
def Hob:=@Int.tdiv_eq_ediv_of_nonneg
def Hpb:=@Int.fdiv_eq_ediv_of_nonneg
def Hvb:=@Sum.elim_inr
def I0b:=@Option.bind_none
def I3b:=@List.findIdx?_eq_some_iff_getElem
def Imb:=@BitVec.toNat_and
def Ixb:=@BitVec.toNat_ofInt
def Iyb:=@IntKind.wrap_u8
def Izb:=@List.findIdx?_cons
def J9b:=@List.Pairwise.sublist
def Jab:=@Nat.and_two_pow_sub_one_eq_mod
def Jnb:=@List.getElem_of_mem
def Jxb:=@Nat.mul_le_mul
def K0b:=@List.take_sublist
def K6b:=@List.getElem_set
def K7b:=@List.takeWhile_sublist
def K9b:=@Option.some.inj
def Kab:=@Bool.and_eq_false_iff
def Kjb:=@Nat.mul_comm

def Tot {α:Type} (f:Nat→Option α) (Q:α→Prop):Prop:=∃ r K,(∀ k,K≤k→f k=some r)∧Q r
section
variable {α β:Type} {f g:Nat→Option α} {Q Q':α→Prop}
def Tot.mono (h:Tot f Q) (hq:∀ a,Q a→Q' a):Tot f Q':=by
 obtain⟨r,K,h1,h2⟩:=h
 exact⟨r,K,h1,hq r h2⟩
def H3b {a:α} (h:Q a):Tot (λ _=>some a) Q:=⟨a,0,λ _ _=>rfl,h⟩
def Hhb {o:Option α} {a:α} (e:o=some a) (h:Q a):Tot (λ _=>o) Q:=⟨a,0,λ _ _=>e,h⟩
def H4b {h:Nat→α→Option β} {R:β→Prop} (hf:Tot f Q) (hh:∀ a,Q a→Tot (λ k=>h k a) R):Tot (λ k=>(f k).bind (h k)) R:=by
 obtain⟨a,K,h1,h2⟩:=hf
 obtain⟨b,L,h3,h4⟩:=hh a h2
 exact⟨b,max K L,λ k hk=>by show (f k).bind (h k)=_;rw[h1 k (by omega)];exact h3 k (by omega),h4⟩
def H6b {c:Bool} (hc:c=true) (h:Tot f Q):Tot (λ k=>cond c (f k) (g k)) Q:=by subst hc;exact h
def H5b {c:Bool} (hc:c=false) (h:Tot g Q):Tot (λ k=>cond c (f k) (g k)) Q:=by subst hc;exact h
def H9b {c:Bool} (h1:c=true→Tot f Q) (h2:c=false→Tot g Q):Tot (λ k=>cond c (f k) (g k)) Q:=by
 cases hc:c with
 |true=>exact h1 hc
 |false=>exact h2 hc
def H7b {p:Prop} [Decidable p] (hp:p) (h:Tot f Q):Tot (λ k=>cond (decide p) (f k) (g k)) Q:=H6b (decide_eq_true hp) h
def H8b {p:Prop} [Decidable p] (hp:¬ p) (h:Tot g Q):Tot (λ k=>cond (decide p) (f k) (g k)) Q:=H5b (decide_eq_false hp) h
def Hab {p:Prop} [Decidable p] (h1:p→Tot f Q) (h2:¬ p→Tot g Q):Tot (λ k=>cond (decide p) (f k) (g k)) Q:=
 H9b (λ h=>h1 (of_decide_eq_true h)) (λ h=>h2 (of_decide_eq_false h))
def Hbb {m n:Nat} (hp:m≤n) (h:Tot f Q):Tot (λ k=>cond (Nat.ble m n) (f k) (g k)) Q:=H6b (Zj hp) h
def Hfb {v:α} {h:Nat→α→Option β} {R:β→Prop} (hf:Tot f (λ r=>r=v)) (hh:Tot (λ k=>h k v) R):Tot (λ k=>(f k).bind (h k)) R:=
 H4b hf (by rintro r rfl;exact hh)
def Hgb {c:Bool} (h1:c=false→Tot f Q) (h2:c=true→Tot g Q):Tot (λ k=>cond (!c) (f k) (g k)) Q:=by
 cases hc:c with
 |true=>exact h2 hc
 |false=>exact h1 hc
def Tot.succ (h:Tot (λ k=>f (k+1)) Q):Tot f Q:=by
 obtain⟨r,K,h1,h2⟩:=h
 exact⟨r,K+1,λ k hk=>by obtain⟨m,rfl⟩:∃ m,k=m+1:=⟨k-1,by omega⟩;exact h1 m (by omega),h2⟩
def Tot.and (h:Tot f Q) (h':Tot f Q'):Tot f (λ a=>Q a∧Q' a):=by
 obtain⟨r,K,h1,h2⟩:=h
 obtain⟨r',K',h1',h2'⟩:=h'
 have e:r=r':=by
  have a1:=h1 (max K K') (by omega)
  have a2:=h1' (max K K') (by omega)
  rw[a1]at a2
  exact K9b a2
 subst e
 exact⟨r,K,h1,h2,h2'⟩
def Tot.law {f:Nat→Option Bool} (h:Tot f (λ b=>b=true)):∃ k,f k=some true:=by
 obtain⟨r,K,h1,h2⟩:=h
 subst h2
 exact⟨K,h1 K (Vv _)⟩
end
def w64 {n:Int} (h1 : -9223372036854775808≤n) (h2:n≤9223372036854775807):wrap .i64 n=n:=Go.IntWalk.i64_in n ⟨h1,h2⟩
def Dza (n:Int) : -9223372036854775808≤wrap .i64 n∧wrap .i64 n≤9223372036854775807:=by
 rw[IntKind.wrap_i64]
 omega
def Hya (n:Int):0≤wrap .u8 n∧wrap .u8 n≤255:=by
 simp only[wrap,IntKind.signed,IntKind.bits]
 simp
 omega
def Nga (x m:Int) (h0:0≤m) (h1:m<9223372036854775808):0≤wrap .i64 ((ofInt (IntKind.bits .i64) x &&& ofInt (IntKind.bits .i64) m).toNat)∧wrap .i64 ((ofInt (IntKind.bits .i64) x &&& ofInt (IntKind.bits .i64) m).toNat)≤m:=by
 have hm:(ofInt (IntKind.bits .i64) m).toNat=m.toNat:=by
  rw[Ixb]
  show (m % ((2 ^ 64:Nat):Int)).toNat=m.toNat
  rw[Int.emod_eq_of_lt h0 (by omega)]
 have hle:(ofInt (IntKind.bits .i64) x &&& ofInt (IntKind.bits .i64) m).toNat≤m.toNat:=by
  rw[Imb,hm]
  exact Nat.and_le_right
 rw[w64 (by omega) (by omega)]
 omega
def Tba {x n:Int} (hx:0≤x) (hn:0<n):0≤Int.tmod x n∧Int.tmod x n<n:=by
 rw[Zw hx]
 exact⟨Int.emod_nonneg _ (by omega),Int.emod_lt_of_pos _ hn⟩

abbrev Cur:=List Int×Int×Int
def Mz (c:Cur):Prop:=(c.1.length:Int)≤1048576∧0≤c.2.1∧c.2.1≤1048576
def Pka (b:List Int) (hb:(b.length:Int)≤1048576):∀ (n:Nat) (h i:Int),0≤i→i+n=4001→Tot (λ k=>Jd k b h i) (λ r=>r.1=b):=by
 intro n
 induction n with
 |zero=>
  intro h i h0 hi
  refine Tot.succ ?_
  simp only[Jd]
  refine Hab (λ h1=>?_) (λ h1=>H3b rfl)
  exact H8b (by omega) (H3b rfl)
 |succ n ih=>
  intro h i h0 hi
  refine Tot.succ ?_
  simp only[Jd]
  refine Hab (λ h1=>?_) (λ h1=>H3b rfl)
  refine Hab (λ h2=>?_) (λ h2=>H3b rfl)
  refine H7b h0 (H7b h1 ?_)
  rw[w64 (n:=i+1) (by omega) (by omega)]
  exact ih _ _ (by omega) (by omega)
def Tca (b:List Int) (hb:(b.length:Int)≤1048576):Tot (λ k=>Lx k b) Mz:=by
 unfold Lx
 refine H4b (Pka b hb 4001 _ 0 (by omega) (by omega)) (λ r hr=>?_)
 exact H3b ⟨by rw[hr];exact hb,Zr 0,by show (0:Int)≤1048576;omega⟩
def So (c:Cur) (hc:Mz c):∃ x c',Gi c=some (x,c')∧0≤x∧x≤255∧Mz c':=by
 obtain⟨h1,h2,h3⟩:=hc
 unfold Gi
 by_cases hlt:c.2.1<(c.1.length:Int)
 ·simp only[hlt,h2,decide_true,cond_true]
  obtain⟨a1,a2⟩:=Nga (wrap .i64 ((wrap .i64 ((ofInt (IntKind.bits .i64) (wrap .i64 ((ofInt (IntKind.bits .i64) (Int.fdiv (wrap .i64 ((wrap .i64 (c.2.2*6364136223846793005))+1442695040888963407)) (2 ^ (min (toNat 33) (IntKind.bits .i64)))) ^^^ ofInt (IntKind.bits .i64) (Int.fdiv (wrap .i64 ((wrap .i64 (c.2.2*6364136223846793005))+1442695040888963407)) (2 ^ (min (toNat 47) (IntKind.bits .i64))))).toNat)) &&& ofInt (IntKind.bits .i64) 255).toNat))+(wrap .i64 (getD c.1 (toNat c.2.1) (0:Int))))) 255 (by omega) (by omega)
  refine⟨_,_,rfl,a1,a2,h1,?_,?_⟩
  ·show 0≤wrap .i64 (c.2.1+1)
   rw[w64 (by omega) (by omega)]
   omega
  ·show wrap .i64 (c.2.1+1)≤1048576
   rw[w64 (by omega) (by omega)]
   omega
 ·simp only[hlt,decide_false,cond_false]
  obtain⟨a1,a2⟩:=Nga (wrap .i64 ((ofInt (IntKind.bits .i64) (Int.fdiv (wrap .i64 ((wrap .i64 (c.2.2*6364136223846793005))+1442695040888963407)) (2 ^ (min (toNat 33) (IntKind.bits .i64)))) ^^^ ofInt (IntKind.bits .i64) (Int.fdiv (wrap .i64 ((wrap .i64 (c.2.2*6364136223846793005))+1442695040888963407)) (2 ^ (min (toNat 47) (IntKind.bits .i64))))).toNat)) 255 (by omega) (by omega)
  exact⟨_,_,rfl,a1,a2,h1,h2,h3⟩
def Lz (c:Cur) (hc:Mz c) (n:Int) (hn:n≤1000000000):∃ x c',A8 c n=some (x,c')∧0≤x∧(0<n→x<n)∧(n≤0→x=0)∧Mz c':=by
 unfold A8
 by_cases h0:n≤0
 ·exact⟨0,c,by simp only[h0,decide_true,cond_true],by omega,by omega,λ _=>rfl,hc⟩
 ·by_cases h1:n≤256
  ·obtain⟨x,c',e,b0,b1,k⟩:=So c hc
   have hz:¬ n=0:=by omega
   have:=Tba b0 (show 0<n by omega)
   exact⟨Int.tmod x n,c',by simp only[h0,h1,hz,decide_true,decide_false,cond_true,cond_false,e,Vn],this.1,λ _=>this.2,λ h=>by omega,k⟩
  ·obtain⟨x,c1,e1,b0,b1,k1⟩:=So c hc
   obtain⟨y,c2,e2,b2,b3,k2⟩:=So c1 k1
   obtain⟨z,c3,e3,b4,b5,k3⟩:=So c2 k2
   have hz:¬ n=0:=by omega
   have:=Tba (show 0≤x*65536+y*256+z by omega) (show 0<n by omega)
   refine⟨Int.tmod (x*65536+y*256+z) n,c3,?_,this.1,λ _=>this.2,λ h=>by omega,k3⟩
   simp only[h0,h1,hz,decide_false,cond_false,e1,e2,e3,Vn]
   rw[w64 (n:=x*65536) (by omega) (by omega),w64 (n:=y*256) (by omega) (by omega),w64 (n:=x*65536+y*256) (by omega) (by omega),w64 (n:=x*65536+y*256+z) (by omega) (by omega)]
def Nha {α:Type} {l:List α} {i:Int} {d:α} (h0:0≤i) (h1:i<(l.length:Int)):l.getD i.toNat d∈l:=by
 have h:i.toNat<l.length:=by omega
 rw[Vc,Vk h]
 exact Jbb h
def Re (c:Cur) (hc:Mz c) (l:List Int) (hl:0<l.length) (hm:l.length≤2000000):∃ x c',C6 c l=some (x,c')∧x∈l∧Mz c':=by
 obtain⟨i,c',e,b0,b1,_,k⟩:=Lz c hc (l.length:Int) (by omega)
 have b1:=b1 (by omega)
 refine⟨l.getD i.toNat 0,c',?_,Nha b0 b1,k⟩
 unfold C6
 simp only[e,Vn,b0,b1,decide_true,cond_true]
def Xsa (c:Cur) (hc:Mz c) (l:List ByteArray) (hl:0<l.length) (hm:l.length≤2000000):∃ x c',Mf c l=some (x,c')∧x∈l∧Mz c':=by
 obtain⟨i,c',e,b0,b1,_,k⟩:=Lz c hc (l.length:Int) (by omega)
 have b1:=b1 (by omega)
 refine⟨l.getD i.toNat (⟨#[]⟩:ByteArray),c',?_,Nha b0 b1,k⟩
 unfold Mf
 simp only[e,Vn,b0,b1,decide_true,cond_true]
def Ao (l:List Int):Prop:=∀ x∈l,0≤x∧x≤255
def Hza (m:Int) (hm:m≤1000):∀ (n:Nat) (l:List Int) (i:Int) (c:Cur),Mz c→0≤i→i≤max m 0→(max m 0)-i=n→(l.length:Int)=i→Ao l→
  Tot (λ k=>Gk k m l i c.1 c.2.1 c.2.2) (λ r=>Mz r.2∧Ao r.1∧(r.1.length:Int)=max m 0):=by
 intro n
 induction n with
 |zero=>
  intro l i c hc h0 h1 hn hl hb
  refine Tot.succ ?_
  simp only[Gk]
  refine H8b (by omega) (H3b ⟨hc,hb,by show (l.length:Int)=_;omega⟩)
 |succ n ih=>
  intro l i c hc h0 h1 hn hl hb
  refine Tot.succ ?_
  simp only[Gk]
  refine H7b (by omega) ?_
  obtain⟨x,c',e,b0,b1,k⟩:=So c hc
  refine Hfb (Hhb (Q:=λ r=>r=(x,c')) e rfl) ?_
  refine Hbb (by simp only[Vd,Vj];omega) ?_
  rw[w64 (n:=i+1) (by omega) (by omega)]
  refine ih _ _ c' k (by omega) (by omega) (by omega) (by simp only[Ve,Vd,Vj];omega) ?_
  intro y hy
  rcases Vq.1 hy with hy|hy
  ·exact hb y hy
  ·simp only[Vu]at hy
   subst hy
   exact Hya _
def Pla (c:Cur) (hc:Mz c):Tot (λ k=>Gn k c) (λ r=>Mz r.2∧Ao r.1∧(r.1.length:Int)≤9):=by
 unfold Gn
 obtain⟨x,c',e,hx,k⟩:=Re c hc [0,1,2,5,9] (by decide) (by decide)
 have hx':0≤x∧x≤9:=by
  simp only[Vl,Hlb,or_false]at hx
  omega
 refine Hfb (Hhb (Q:=λ r=>r=(x,c')) e rfl) ?_
 refine H4b (Q:=λ r=>Mz r.2∧Ao r.1∧(r.1.length:Int)≤9) ?_ (λ r hr=>H3b hr)
 unfold Gl
 refine H4b (Hza x (by omega) (max x 0-0).toNat [] 0 c' k (by omega) (by omega) (by omega) rfl (by intro y hy;simp at hy)) (λ r hr=>H3b ?_)
 exact⟨hr.1,hr.2.1,by show (r.1.length:Int)≤9;rw[hr.2.2];omega⟩
abbrev Stp:=Int×Int×Int
abbrev Row:=ByteArray×Stp×Bool×Int
abbrev Fil:=Stp×Bool×List Int
def O9:List ByteArray:=[(⟨#[97]⟩:ByteArray),(⟨#[98]⟩:ByteArray),(⟨#[99,97,116,47,49]⟩:ByteArray),(⟨#[99,97,116,47,50]⟩:ByteArray),(⟨#[100,111,103]⟩:ByteArray),(⟨#[120,45,49]⟩:ByteArray)]
def Tda (c:Cur) (hc:Mz c):∃ x c',Lq c=some (x,c')∧x∈O9∧Mz c':=by
 obtain⟨x,c',e,hx,k⟩:=Xsa c hc O9 (by decide) (by decide)
 exact⟨x,c',by unfold Lq;unfold O9 at e;simp only[e,Vn],hx,k⟩

def I0a:∀ (a:List UInt8),Op.bytesLess a a=false
 |[]=>rfl
 |a::l=>by simp[Op.bytesLess,I0a l]
def Nia:∀ (a b c:List UInt8),Op.bytesLess a b=true→Op.bytesLess b c=true→Op.bytesLess a c=true
 |_,[],_,h,_=>by simp[Op.bytesLess]at h
 |_,_::_,[],_,h=>by simp[Op.bytesLess]at h
 |[],_::_,_::_,_,_=>rfl
 |a::x,b::y,c::z,h1,h2=>by
  simp only[Op.bytesLess,Zz,Vb,decide_eq_true_eq,beq_iff_eq]at h1 h2 ⊢
  rcases h1 with h1|⟨rfl,h1⟩
  ·rcases h2 with h2|⟨rfl,h2⟩
   ·exact .inl (UInt8.lt_trans h1 h2)
   ·exact .inl h1
  ·rcases h2 with h2|⟨rfl,h2⟩
   ·exact .inl h2
   ·exact .inr ⟨rfl,Nia x y z h1 h2⟩
def A7b:∀ (a b:List UInt8),Op.bytesLess a b=false→Op.bytesLess b a=false→a=b
 |[],[],_,_=>rfl
 |[],_::_,h,_=>by simp[Op.bytesLess]at h
 |_::_,[],_,h=>by simp[Op.bytesLess]at h
 |a::x,b::y,h1,h2=>by
  simp only[Op.bytesLess,Bool.or_eq_false_iff,Kab,decide_eq_false_iff_not]at h1 h2
  have hab:a=b:=by
   have h3:=UInt8.not_lt.1 h1.1
   have h4:=UInt8.not_lt.1 h2.1
   exact UInt8.le_antisymm h4 h3
  subst hab
  rw[A7b x y (h1.2.resolve_left (by simp)) (h2.2.resolve_left (by simp))]
def tlt (a b:ByteArray):Bool:=Op.bytesLess a.toList b.toList
def teq (a b:ByteArray):Bool:=a.toList==b.toList
def E0a {a b:ByteArray} (h:a.toList=b.toList):a=b:=by
 rw[ByteArray.toList_eq,ByteArray.toList_eq]at h
 obtain⟨⟨x⟩⟩:=a
 obtain⟨⟨y⟩⟩:=b
 simp only at h
 rw[h]
def Iw {a b:ByteArray}:teq a b=true↔a=b:=by
 unfold teq
 rw[beq_iff_eq]
 exact⟨E0a,λ h=>by rw[h]⟩
def Lh (a:ByteArray):tlt a a=false:=I0a _
def Nu {a b c:ByteArray} (h:tlt a b=true) (h':tlt b c=true):tlt a c=true:=Nia _ _ _ h h'
def Bva {a b:ByteArray} (h:tlt a b=false) (h':tlt b a=false):a=b:=E0a (A7b _ _ h h')
def W0 {a b:ByteArray} (h:tlt a b=true):tlt b a=false:=by
 cases hb:tlt b a
 ·rfl
 have:=Nu h hb
 rw[Lh]at this
 cases this
def I1a (a b:ByteArray):(!(Op.bytesLess a.toList b.toList||a.toList==b.toList))=tlt b a:=by
 show (!(tlt a b||teq a b))=tlt b a
 cases h1:tlt a b
 case true=>rw[W0 h1];rfl
 cases h2:teq a b
 case true=>rw[Iw.1 h2,Lh];rfl
 cases h3:tlt b a
 case true=>rfl
 exfalso
 have:=Bva h1 h3
 rw[Iw.2 this]at h2
 cases h2
def sle (a b:Stp):Bool:=cond (a.1 != b.1) (decide (a.1<b.1)) (cond (a.2.1 != b.2.1) (decide (a.2.1<b.2.1)) (decide (a.2.2<b.2.2)))
def Nja (a b:Stp):Ez a b=some (sle a b):=by
 unfold Ez sle
 cases a.1 != b.1<;>cases a.2.1 != b.2.1<;>rfl
def W1 (a b:Stp):Au a b=some (sle a b):=by
 unfold Au sle
 cases a.1 != b.1<;>cases a.2.1 != b.2.1<;>rfl
def Sp {a b:Stp}:sle a b=true↔a.1<b.1∨(a.1=b.1∧(a.2.1<b.2.1∨(a.2.1=b.2.1∧a.2.2<b.2.2))):=by
 unfold sle
 by_cases h1:a.1=b.1
 ·by_cases h2:a.2.1=b.2.1
  ·simp[h1,h2]
  ·have:(a.2.1 != b.2.1)=true:=by simpa using h2
   simp[h1,this,h2]
 ·have:(a.1 != b.1)=true:=by simpa using h1
  simp[this,h1]
def Uc (a b:Row):Bool:=cond (!((a.2.1.1==b.2.1.1)&&((a.2.1.2.1==b.2.1.2.1)&&(a.2.1.2.2==b.2.1.2.2)))) (sle a.2.1 b.2.1) (cond (!(a.2.2.1==b.2.2.1)) b.2.2.1 (decide (a.2.2.2<b.2.2.2)))
def Kqa (a b:Row):Kr a b=some (Uc a b):=by
 unfold Kr Uc
 rw[Nja]
 cases (!((a.2.1.1==b.2.1.1)&&((a.2.1.2.1==b.2.1.2.1)&&(a.2.1.2.2==b.2.1.2.2))))<;>cases (!(a.2.2.1==b.2.2.1))<;>rfl
def Tea (a b:Row):Ja a b=some (Uc b a):=by
 unfold Ja Uc
 rw[W1,BEq.comm (a:=a.2.1.1),BEq.comm (a:=a.2.1.2.1),BEq.comm (a:=a.2.1.2.2),BEq.comm (a:=a.2.2.1)]
 cases (!((b.2.1.1==a.2.1.1)&&((b.2.1.2.1==a.2.1.2.1)&&(b.2.1.2.2==a.2.1.2.2))))<;>cases (!(b.2.2.1==a.2.2.1))<;>rfl
def Mm:Row:=((⟨#[]⟩:ByteArray),(((0:Int),((0:Int),(0:Int))),(false,(0:Int))))
def Ud (s:ByteArray):List Row→Nat→Option Nat
 |[],_=>none
 |r::l,i=>bif teq r.1 s then some i else Ud s l (i+1)
def Z0 (l:List Row) (s:ByteArray):Nat→Nat
 |0=>0
 |k+1=>bif tlt s (l.getD k Mm).1 then Z0 l s k else k+1
def mrg (l:List Row) (x:Row):List Row:=match Ud x.1 l 0 with
 |some i=>bif Uc (l.getD i Mm) x then l.set i x else l
 |none=>l.take (Z0 l x.1 l.length)++x::l.drop (Z0 l x.1 l.length)
def Bwa (l:List Row) (s:ByteArray):∀ k,Z0 l s k≤k
 |0=>Vv _
 |k+1=>by
  unfold Z0
  cases tlt s (l.getD k Mm).1 with
  |true=>have:=Bwa l s k;simp only[cond_true];omega
  |false=>simp only[cond_false];omega
def E1a {s:ByteArray}:∀ (l:List Row) (i j:Nat),Ud s l i=some j→i≤j∧j<i+l.length∧teq (l.getD (j-i) Mm).1 s=true
 |[],i,j,h=>by simp[Ud]at h
 |r::l,i,j,h=>by
  unfold Ud at h
  cases ht:teq r.1 s with
  |true=>
   rw[ht]at h
   simp only[cond_true,Vg]at h
   subst h
   refine⟨Vv _,by simp,?_⟩
   rw[Idb]
   exact ht
  |false=>
   rw[ht]at h
   simp only[cond_false]at h
   obtain⟨h1,h2,h3⟩:=E1a l (i+1) j h
   refine⟨by omega,by simp only[Vd];omega,?_⟩
   rw[show j-i=(j-(i+1))+1 by omega]
   exact h3
def Ad {α:Type} {l:List α} {i:Nat} {d:α} (h:i<l.length):l.drop i=l.getD i d::l.drop (i+1):=by
 rw[Zb h,Vc,Vk h]
 rfl
def Few (l:List Row):Prop:=l.length≤1000000000000
def I2a (x:Row):∀ (n:Nat) (l:List Row) (i:Nat),l.length-i=n→i≤l.length→Few l→
  Tot (λ k=>Fn k l (i:Int) x.1 x.2.1.1 x.2.1.2.1 x.2.1.2.2 x.2.2.1 x.2.2.2) (λ r=>r=match Ud x.1 (l.drop i) i with
   |some j => .inl (bif Uc (l.getD j Mm) x then l.set j x else l)
   |none => .inr (l,x.1,x.2.1.1,x.2.1.2.1,x.2.1.2.2,x.2.2.1,x.2.2.2)):=by
 intro n
 induction n with
 |zero=>
  intro l i hn hi hf
  unfold Few at hf
  refine Tot.succ ?_
  simp only[Fn]
  refine H8b (by omega) (H3b ?_)
  rw[Wa (by omega)]
  rfl
 |succ n ih=>
  intro l i hn hi hf
  have hf':=hf
  unfold Few at hf
  have hlt:i<l.length:=by omega
  refine Tot.succ ?_
  simp only[Fn]
  refine H7b (by omega) (H7b (by omega) (H7b (by omega) ?_))
  have e0:toNat (i:Int)=i:=Va i
  rw[e0,Ad (d:=Mm) hlt]
  refine H9b (λ ht=>?_) (λ ht=>?_)
  ·have ht':teq (l.getD i Mm).1 x.1=true:=ht
   refine H7b (by omega) (H7b (by omega) ?_)
   refine Hfb (Hhb (Q:=λ r=>r=Uc (l.getD i Mm) x) (Kqa _ _) rfl) ?_
   simp only[Ud,ht',cond_true]
   cases hb:Uc (l.getD i Mm) x with
   |true=>exact H6b rfl (H7b (by omega) (H7b (by omega) (H3b rfl)))
   |false=>exact H5b rfl (H3b rfl)
  ·have ht':teq (l.getD i Mm).1 x.1=false:=ht
   simp only[Ud,ht',cond_false]
   rw[w64 (n:=(i:Int)+1) (by omega) (by omega)]
   exact ih l (i+1) (by omega) (by omega) hf'
def I3a (x:Row) (l0 l5:List Row) (h5:l5=l0):∀ (n:Nat) (i:Nat),l0.length-i=n→i≤l0.length→Few l0→
  Tot (λ k=>Fi k l0 l5 l0 (l0.length:Int) (i:Int) x.1 x.2.1.1 x.2.1.2.1 x.2.1.2.2 x.2.2.1 x.2.2.2) (λ r=>r=match Ud x.1 (l0.drop i) i with
   |some j => .inl (bif Uc (l0.getD j Mm) x then l0.set j x else l0)
   |none => .inr (l0,x.1,x.2.1.1,x.2.1.2.1,x.2.1.2.2,x.2.2.1,x.2.2.2)):=by
 subst h5
 intro n
 induction n with
 |zero=>
  intro i hn hi hf
  unfold Few at hf
  refine Tot.succ ?_
  simp only[Fi]
  refine H8b (by omega) (H3b ?_)
  rw[Wa (by omega)]
  rfl
 |succ n ih=>
  intro i hn hi hf
  have hf':=hf
  unfold Few at hf
  have hlt:i<l5.length:=by omega
  refine Tot.succ ?_
  simp only[Fi]
  refine H7b (by omega) (H7b (by omega) (H7b (by omega) ?_))
  have e0:toNat (i:Int)=i:=Va i
  rw[e0,Ad (d:=Mm) hlt]
  refine H9b (λ ht=>?_) (λ ht=>?_)
  ·have ht':teq (l5.getD i Mm).1 x.1=true:=ht
   refine Hfb (Hhb (Q:=λ r=>r=Uc (l5.getD i Mm) x) (Tea _ _) rfl) ?_
   simp only[Ud,ht',cond_true]
   cases hb:Uc (l5.getD i Mm) x with
   |true=>exact H6b rfl (H7b (by omega) (H7b (by omega) (H3b rfl)))
   |false=>exact H5b rfl (H3b rfl)
  ·have ht':teq (l5.getD i Mm).1 x.1=false:=ht
   simp only[Ud,ht',cond_false]
   rw[w64 (n:=(i:Int)+1) (by omega) (by omega)]
   exact ih (i+1) (by omega) (by omega) hf'
def Fga (x:Row) (l:List Row) (hf:Few l):∀ (i:Nat),i≤l.length→
  Tot (λ k=>Ei k l (i:Int) x.1 x.2.1.1 x.2.1.2.1 x.2.1.2.2 x.2.2.1 x.2.2.2) (λ r=>r=(l,(Z0 l x.1 i:Int),x.1,x.2.1.1,x.2.1.2.1,x.2.1.2.2,x.2.2.1,x.2.2.2)):=by
 unfold Few at hf
 intro i
 induction i with
 |zero=>
  intro hi
  refine Tot.succ ?_
  simp only[Ei]
  exact H8b (by omega) (H3b rfl)
 |succ i ih=>
  intro hi
  refine Tot.succ ?_
  simp only[Ei]
  rw[w64 (n:=((i+1:Nat):Int)-1) (by omega) (by omega),show ((i+1:Nat):Int)-1=(i:Int) by omega,show toNat (i:Int)=i from Va i]
  refine H7b (by omega) (H7b (by omega) (H7b (by omega) ?_))
  have e:∀ z,(!(Op.bytesLess (l.getD i z).1.toList x.1.toList||(l.getD i z).1.toList==x.1.toList))=tlt x.1 (l.getD i z).1:=λ z=>I1a _ _
  rw[e]
  have hc:Z0 l x.1 (i+1)=bif tlt x.1 (l.getD i Mm).1 then Z0 l x.1 i else i+1:=rfl
  refine H9b (λ ht=>?_) (λ ht=>?_)
  ·have ht':tlt x.1 (l.getD i Mm).1=true:=ht
   rw[hc,ht',cond_true]
   exact ih (by omega)
  ·have ht':tlt x.1 (l.getD i Mm).1=false:=ht
   rw[hc,ht',cond_false]
   exact H3b rfl
def W2 (l:List Row) (hf:Few l):Af l=some l:=by
 unfold Few at hf
 unfold Af
 rw[Zj (by simp only[Vj];omega)]
 rfl
def Tfa (l:List Row) (x:Row) (hf:Few l):Tot (λ k=>Cm k l x) (λ r=>r=mrg l x):=by
 have hf':=hf
 unfold Few at hf
 unfold Cm
 refine H4b (Hhb (Q:=λ r=>r=l) (W2 l hf') rfl) ?_
 rintro r rfl
 refine H4b (I3a x r r rfl _ 0 rfl (Vo _) hf') ?_
 rintro y rfl
 rw[Wh]
 unfold mrg
 cases hfi:Ud x.1 r 0 with
 |some j=>exact H3b rfl
 |none=>
  simp only[Hvb]
  refine H4b (Fga x r hf' r.length (Vv _)) ?_
  rintro z rfl
  have hc:=Bwa r x.1 r.length
  simp only
  rw[show toNat ((Z0 r x.1 r.length:Nat):Int)=Z0 r x.1 r.length from Va _]
  refine H7b (by omega) (H7b (by omega) ?_)
  have hft:Few (r.take (Z0 r x.1 r.length)):=by unfold Few;rw[Vs];omega
  refine H4b (Hhb (Q:=λ q=>q=r.take (Z0 r x.1 r.length)) (W2 _ hft) rfl) ?_
  rintro q rfl
  refine Hbb (by simp only[Vs,Vd,Vj];omega) ?_
  refine H7b (by omega) (H7b (by omega) (Hbb (by simp only[Ve,Vs,We,Vd,Vj];omega) (H3b ?_)))
  rw[Vp]
  rfl
def Fha (x:Row) (l:List Row) (hf:Few l):∀ (i:Nat) (y:Row),i≤l.length→
  Tot (λ k=>Ep k (l.take i++y::l.drop i) (i:Int) x.1 x.2.1.1 x.2.1.2.1 x.2.1.2.2 x.2.2.1 x.2.2.2)
   (λ r=>∃ y',r=(l.take (Z0 l x.1 i)++y'::l.drop (Z0 l x.1 i),(Z0 l x.1 i:Int),x.1,x.2.1.1,x.2.1.2.1,x.2.1.2.2,x.2.2.1,x.2.2.2)):=by
 unfold Few at hf
 intro i
 induction i with
 |zero=>
  intro y hi
  refine Tot.succ ?_
  simp only[Ep]
  exact H8b (by omega) (H3b ⟨y,rfl⟩)
 |succ i ih=>
  intro y hi
  refine Tot.succ ?_
  simp only[Ep]
  have hlen:(l.take (i+1)++y::l.drop (i+1)).length=l.length+1:=by simp only[Ve,Vs,Vd,We];omega
  have hget:∀ z,(l.take (i+1)++y::l.drop (i+1)).getD i z=l.getD i z:=by
   intro z
   rw[Vc,Vc,Yd (by rw[Vs];omega),List.getElem?_take_of_lt (by omega)]
  rw[w64 (n:=((i+1:Nat):Int)-1) (by omega) (by omega),show ((i+1:Nat):Int)-1=(i:Int) by omega,show toNat (i:Int)=i from Va i,show toNat ((i+1:Nat):Int)=i+1 from Va _,hget,hlen]
  refine H7b (by omega) (H7b (by omega) (H7b (by omega) ?_))
  have e:∀ z,(!(Op.bytesLess (l.getD i z).1.toList x.1.toList||(l.getD i z).1.toList==x.1.toList))=tlt x.1 (l.getD i z).1:=λ z=>I1a _ _
  rw[e]
  have hc:Z0 l x.1 (i+1)=bif tlt x.1 (l.getD i Mm).1 then Z0 l x.1 i else i+1:=rfl
  refine H9b (λ ht=>?_) (λ ht=>?_)
  ·have ht':tlt x.1 (l.getD i Mm).1=true:=ht
   rw[hc,ht',cond_true]
   refine H7b (by omega) (H7b (by omega) (H7b (by omega) (H7b (by omega) ?_)))
   have hset:(l.take (i+1)++y::l.drop (i+1)).set (i+1) (l.getD i ((⟨#[]⟩:ByteArray),(((0:Int),((0:Int),(0:Int))),(false,(0:Int)))))=l.take i++l.getD i Mm::l.drop i:=by
    rw[List.set_append,if_neg (by rw[Vs];omega),Vs,Zy hi,Idb,Jqb,Ad (d:=Mm) (show i<l.length by omega)]
    rw[List.take_add_one,Vk (show i<l.length by omega)]
    simp only[Jtb,Vp,Yh]
    rw[Vc,Vc,Vk (show i<l.length by omega)]
    rfl
   rw[hset]
   exact ih _ (by omega)
  ·have ht':tlt x.1 (l.getD i Mm).1=false:=ht
   rw[hc,ht',cond_false]
   exact H3b ⟨y,rfl⟩
def Tga (l:List Row) (x:Row) (hf:Few l):Tot (λ k=>Cq k l x) (λ r=>r=mrg l x):=by
 have hf':=hf
 unfold Few at hf
 unfold Cq
 refine Hbb (by simp only[Vj];omega) ?_
 rw[Vx]
 refine Hfb (I2a x _ l 0 rfl (Vo _) hf') ?_
 rw[Wh]
 unfold mrg
 cases hfi:Ud x.1 l 0 with
 |some j=>exact H3b rfl
 |none=>
  simp only[Hvb]
  refine Hbb (by simp only[Vd,Vj];omega) ?_
  have h0:=Fha x l hf' l.length x (Vv _)
  rw[Yo,Vz]at h0
  refine H4b h0 ?_
  rintro z ⟨y',rfl⟩
  have hc:=Bwa l x.1 l.length
  have hlen:(l.take (Z0 l x.1 l.length)++y'::l.drop (Z0 l x.1 l.length)).length=l.length+1:=by simp only[Ve,Vs,Vd,We];omega
  simp only
  rw[show toNat ((Z0 l x.1 l.length:Nat):Int)=Z0 l x.1 l.length from Va _,hlen]
  refine H7b (by omega) (H7b (by omega) (H3b ?_))
  rw[List.set_append,if_neg (by rw[Vs];omega),Vs,Zy hc,Idb,Jqb]

def Aoa (a b:ByteArray):(a==b)=teq a b:=beq_toListBytes a b
def Dlb (a b:Row):Bool:=(a.1==b.1)&&((a.2.1.1==b.2.1.1)&&((a.2.1.2.1==b.2.1.2.1)&&((a.2.1.2.2==b.2.1.2.2)&&((a.2.2.1==b.2.2.1)&&(a.2.2.2==b.2.2.2)))))
def Nka {a b:Row}:Dlb a b=true↔a=b:=by
 unfold Dlb
 simp only[Vb,beq_iff_eq,Aoa,Iw]
 constructor
 ·rintro⟨h1,h2,h3,h4,h5,h6⟩
  obtain⟨n,⟨t,s,d⟩,b1,z⟩:=a
  obtain⟨n',⟨t',s',d'⟩,b1',z'⟩:=b
  simp only at h1 h2 h3 h4 h5 h6
  subst h1 h2 h3 h4 h5 h6
  rfl
 ·rintro rfl
  exact⟨rfl,rfl,rfl,rfl,rfl,rfl⟩
def Kra (a b:List Row) (hl:a.length=b.length) (hf:Few a):∀ (n i:Nat),a.length-i=n→i≤a.length→
  Tot (λ k=>Ft k a b (i:Int)) (λ r=>r=bif decide (a.drop i=b.drop i) then .inr () else .inl false):=by
 unfold Few at hf
 intro n
 induction n with
 |zero=>
  intro i hn hi
  refine Tot.succ ?_
  simp only[Ft]
  refine H8b (by omega) (H3b ?_)
  rw[Wa (by omega),Wa (by omega)]
  rfl
 |succ n ih=>
  intro i hn hi
  have hlt:i<a.length:=by omega
  refine Tot.succ ?_
  simp only[Ft]
  rw[show toNat (i:Int)=i from Va i]
  refine H7b (by omega) (H7b (by omega) (H7b (by omega) (H7b (by omega) (H7b (by omega) ?_))))
  rw[Ad (d:=Mm) hlt,Ad (d:=Mm) (show i<b.length by omega)]
  refine H9b (λ h=>?_) (λ h=>?_)
  ·have h':Dlb (a.getD i Mm) (b.getD i Mm)=false:=(Vw _).mp h
   have hne:a.getD i Mm≠b.getD i Mm:=λ e=>by rw[Nka.2 e]at h';cases h'
   refine H3b ?_
   rw[decide_eq_false (by intro e;exact hne (List.cons.inj e).1)]
   rfl
  ·have h':Dlb (a.getD i Mm) (b.getD i Mm)=true:=by
    have h2:(!(Dlb (a.getD i Mm) (b.getD i Mm)))=false:=h
    cases hb:Dlb (a.getD i Mm) (b.getD i Mm) with
    |true=>rfl
    |false=>rw[hb]at h2;cases h2
   have he:=Nka.1 h'
   rw[w64 (n:=(i:Int)+1) (by omega) (by omega)]
   refine(ih (i+1) (by omega) (by omega)).mono ?_
   rintro r rfl
   rw[he]
   have:(b.getD i Mm::a.drop (i+1)=b.getD i Mm::b.drop (i+1))↔(a.drop (i+1)=b.drop (i+1)):=by simp
   simp only[this]
def Z1 (a b:List Row) (hf:Few a) (hf2:Few b):Tot (λ k=>Hf k a b) (λ r=>r=decide (a=b)):=by
 unfold Hf
 refine H9b (λ h=>?_) (λ h=>?_)
 ·refine H3b ?_
  have:a≠b:=λ e=>by subst e;simp at h
  rw[decide_eq_false this]
 ·have hl:a.length=b.length:=by
   simp only[bne_eq_false_iff_eq]at h
   omega
  refine Hfb (Kra a b hl hf _ 0 rfl (Vo _)) ?_
  rw[Wh,Wh]
  cases decide (a=b) with
  |true=>exact H3b rfl
  |false=>exact H3b rfl
def E2a {s:ByteArray}:∀ (l:List Row) (i:Nat),Ud s l i=none→∀ r∈l,r.1≠s
 |[],_,_,r,hr=>by simp at hr
 |a::l,i,h,r,hr=>by
  unfold Ud at h
  cases ht:teq a.1 s
  case true=>rw[ht]at h;simp at h
  rw[ht]at h
  rcases Vl.1 hr with rfl|hr
  ·intro e
   rw[Iw.2 e]at ht
   cases ht
  ·exact E2a l (i+1) h r hr
def Tha (l:List Row) (x:Row):l.length≤(mrg l x).length∧(mrg l x).length≤l.length+1:=by
 unfold mrg
 have hc:=Bwa l x.1 l.length
 split
 ·cases Uc (l.getD _ Mm) x<;>simp
 ·simp only[Ve,Vs,Vd,We]
  omega
def Cbb {l:List Row} {x r:Row} (h:r∈mrg l x):r=x∨r∈l:=by
 unfold mrg at h
 split at h
 ·rename_i j hj
  cases hb:Uc (l.getD j Mm) x
  ·rw[hb]at h;exact .inr h
  rw[hb,cond_true]at h
  rcases Yk h with h|h
  ·exact .inr h
  ·exact .inl h
 ·rcases Vq.1 h with h|h
  ·exact .inr (Htb h)
  ·rcases Vl.1 h with h|h
   ·exact .inl h
   ·exact .inr (Zm h)
def N1 (a:Stp):sle a a=false:=by
 cases h:sle a a with
 |false=>rfl
 |true=>rw[Sp]at h;omega
def M0 (l:List Row):Prop:=l.Pairwise (λ a b=>tlt a.1 b.1=true)
def I4a {l:List Row} {s:ByteArray} (hs:M0 l) (hn:∀ r∈l,r.1≠s):∀ k,k≤l.length→(∀ i,i<Z0 l s k→tlt (l.getD i Mm).1 s=true)∧(∀ i,Z0 l s k≤i→i<k→tlt s (l.getD i Mm).1=true)
 |0,_=>⟨λ i hi=>by simp[Z0]at hi,λ i _ hi=>by omega⟩
 |k+1,hk=>by
  unfold Z0
  cases ht:tlt s (l.getD k Mm).1 with
  |true=>
   simp only[cond_true]
   obtain⟨h1,h2⟩:=I4a hs hn k (by omega)
   refine⟨h1,λ i hi hik=>?_⟩
   by_cases e:i=k
   ·subst e;exact ht
   ·exact h2 i hi (by omega)
  |false=>
   simp only[cond_false]
   refine⟨λ i hi=>?_,λ i hi hik=>by omega⟩
   have hget:∀ j (hj:j<l.length),l.getD j Mm=l[j]:=λ j hj=>by rw[Vc,Vk hj];rfl
   have hkl:k<l.length:=by omega
   have hks:tlt (l.getD k Mm).1 s=true:=by
    cases h:tlt (l.getD k Mm).1 s
    case true=>rfl
    exfalso
    exact hn (l.getD k Mm) (by rw[hget k hkl];exact Jbb hkl) (Bva h ht)
   by_cases e:i=k
   ·subst e;exact hks
   ·have h3:=(Zk.1 hs) i k (by omega) hkl (by omega)
    rw[hget i (by omega)]
    rw[hget k hkl]at hks
    exact Nu h3 hks
def Pma {l:List Row} {x:Row} (hs:M0 l):M0 (mrg l x):=by
 have hget:∀ j (hj:j<l.length),l.getD j Mm=l[j]:=λ j hj=>by rw[Vc,Vk hj];rfl
 unfold mrg
 split
 ·rename_i j hj
  obtain⟨_,h2,h3⟩:=E1a l 0 j hj
  rw[Jrb]at h3
  have hjl:j<l.length:=by omega
  have hname:l[j].1=x.1:=by rw[← hget j hjl];exact Iw.1 h3
  cases hb:Uc (l.getD j Mm) x
  ·exact hs
  rw[cond_true]
  unfold M0
  rw[Zk]
  intro a b ha hb hab
  rw[Wb]at ha hb
  have:=(Zk.1 hs) a b ha hb hab
  rw[K6b,K6b]
  by_cases e1:j=a
  ·subst e1
   rw[if_pos rfl,if_neg (by omega),← hname]
   exact this
  ·rw[if_neg e1]
   by_cases e2:j=b
   ·subst e2
    rw[if_pos rfl,← hname]
    exact this
   ·rw[if_neg e2]
    exact this
 ·rename_i hj
  have hn:=E2a l 0 hj
  obtain⟨c1,c2⟩:=I4a hs hn l.length (Vv _)
  have hc:=Bwa l x.1 l.length
  unfold M0
  rw[Zd,Wj]
  refine⟨J9b (K0b _ _) hs,⟨λ r hr=>?_,J9b (List.drop_sublist _ _) hs⟩,λ r hr q hq=>?_⟩
  ·obtain⟨i,hi,rfl⟩:=Jnb hr
   rw[We]at hi
   rw[List.getElem_drop,← hget _ (by omega)]
   exact c2 _ (by omega) (by omega)
  ·obtain⟨i,hi,rfl⟩:=Jnb hr
   rw[Vs]at hi
   have h1:tlt (List.take (Z0 l x.1 l.length) l)[i].1 x.1=true:=by
    rw[List.getElem_take,← hget _ (by omega)]
    exact c1 i (by omega)
   rcases Vl.1 hq with rfl|hq
   ·exact h1
   ·refine Nu h1 ?_
    obtain⟨m,hm,rfl⟩:=Jnb hq
    rw[We]at hm
    rw[List.getElem_drop,← hget _ (by omega)]
    exact c2 _ (by omega) (by omega)

def inR (n lo hi:Int):Bool:=decide (n≥lo)&&decide (n≤hi)
def Ru (n lo hi:Int):Cd n lo hi=some (inR n lo hi):=by
 unfold Cd inR
 cases decide (n≥lo)<;>rfl
def Pr (n lo hi:Int):A9 n lo hi=some (inR n lo hi):=by
 unfold A9 inR
 cases decide (n≥lo)<;>rfl
def Cf {n lo hi:Int}:inR n lo hi=true↔lo≤n∧n≤hi:=by
 unfold inR
 simp
def W3 (c:Int):Bool:=inR c 97 122||(inR c 48 57||(!(c != 45)||(!(c != 95)||!(c != 47))))
def Mo (s:ByteArray):Prop:=s.size≤4611686018427387904
def Rf (s:ByteArray):s.data.toList.length=s.size:=Yx
def Bxa (s:ByteArray) (i:Int):0≤bt s i∧bt s i≤255:=by
 unfold bt
 have:=(s.data.toList.getD i.toNat 0).toNat_lt
 omega
def Erb (s:ByteArray) (i:Nat) (h:i<s.size):bt s (i:Int)=((s.data.toList[i]'(by rw[Rf];exact h)).toNat:Int):=by
 unfold bt
 rw[Va,Vc,Vk (by rw[Rf];exact h)]
 rfl
def bOk (b:UInt8):Bool:=W3 (b.toNat:Int)
def Ksa (s:ByteArray) (hs:Mo s):∀ (n i:Nat),s.size-i=n→i≤s.size→
  Tot (λ k=>Ap k s (i:Int)) (λ r=>r=bif (s.data.toList.drop i).all bOk then .inr s else .inl false):=by
 unfold Mo at hs
 have hsz:=Rf s
 intro n
 induction n with
 |zero=>
  intro i hn hi
  refine Tot.succ ?_
  simp only[Ap]
  refine H8b (by omega) (H3b ?_)
  rw[Wa (by omega)]
  rfl
 |succ n ih=>
  intro i hn hi
  have hlt:i<s.size:=by omega
  refine Tot.succ ?_
  simp only[Ap]
  refine H7b (by omega) (H7b (by omega) (H7b (by omega) ?_))
  rw[w64 (n:=(i:Int)+1) (by omega) (by omega)]
  have hb:bOk (s.data.toList[i]'(by omega))=W3 (bt s (i:Int)):=by rw[Erb s i hlt];rfl
  rw[Zb (by omega),I2b,hb]
  generalize bt s (i:Int)=c
  have h1:=ih (i+1) (by omega) (by omega)
  have e:(((i+1:Nat)):Int)=(i:Int)+1:=by omega
  rw[e]at h1
  cases hc:W3 c with
  |true=>
   rw[Wd]
   refine h1.mono (λ r hr=>hr) |> λ h=>?_
   obtain⟨r,K,h2,h3⟩:=h
   refine⟨r,K,λ k hk=>?_,h3⟩
   rw[← h2 k hk]
   unfold W3 inR at hc
   revert hc
   cases decide (c≥97)<;>cases decide (c≤122)<;>cases decide (c≥48)<;>cases decide (c≤57)<;>cases (c != 45)<;>cases (c != 95)<;>cases (c != 47)<;>first|(intro _;rfl)|(intro hc;cases hc)
  |false=>
   rw[Zt]
   refine⟨.inl false,0,λ k _=>?_,rfl⟩
   unfold W3 inR at hc
   revert hc
   cases decide (c≥97)<;>cases decide (c≤122)<;>cases decide (c≥48)<;>cases decide (c≤57)<;>cases (c != 45)<;>cases (c != 95)<;>cases (c != 47)<;>first|(intro _;rfl)|(intro hc;cases hc)
def Kta (s:ByteArray) (hs:Mo s):∀ (n i:Nat),s.size-i=n→i≤s.size→
  Tot (λ k=>Du k s (i:Int)) (λ r=>r=bif (s.data.toList.drop i).all bOk then .inr s else .inl false):=by
 unfold Mo at hs
 have hsz:=Rf s
 intro n
 induction n with
 |zero=>
  intro i hn hi
  refine Tot.succ ?_
  simp only[Du]
  refine H8b (by omega) (H3b ?_)
  rw[Wa (by omega)]
  rfl
 |succ n ih=>
  intro i hn hi
  have hlt:i<s.size:=by omega
  have hbb:=Bxa s (i:Int)
  refine Tot.succ ?_
  simp only[Du]
  refine H7b (by omega) (H7b (by omega) (H7b (by omega) ?_))
  rw[w64 (n:=(i:Int)+1) (by omega) (by omega),w64 (n:=bt s (i:Int)) (by omega) (by omega)]
  have hb:bOk (s.data.toList[i]'(by omega))=W3 (bt s (i:Int)):=by rw[Erb s i hlt];rfl
  rw[Zb (by omega),I2b,hb]
  generalize bt s (i:Int)=c
  have h1:=ih (i+1) (by omega) (by omega)
  have e:(((i+1:Nat)):Int)=(i:Int)+1:=by omega
  rw[e]at h1
  simp only[Pr,Vn]
  cases hc:W3 c with
  |true=>
   rw[Wd]
   obtain⟨r,K,h2,h3⟩:=h1
   refine⟨r,K,λ k hk=>?_,h3⟩
   rw[← h2 k hk]
   unfold W3 at hc
   revert hc
   cases inR c 97 122<;>cases inR c 48 57<;>cases (c != 45)<;>cases (c != 95)<;>cases (c != 47)<;>first|(intro _;rfl)|(intro hc;cases hc)
  |false=>
   rw[Zt]
   refine⟨.inl false,0,λ k _=>?_,rfl⟩
   unfold W3 at hc
   revert hc
   cases inR c 97 122<;>cases inR c 48 57<;>cases (c != 45)<;>cases (c != 95)<;>cases (c != 47)<;>first|(intro _;rfl)|(intro hc;cases hc)
def B2 (s:ByteArray):Bool:=s.data.toList.all bOk&&inR (s.size:Int) 1 20
def Pc (s:ByteArray) (hs:Mo s):Tot (λ k=>Ai k s) (λ r=>r=B2 s):=by
 unfold Ai B2
 refine Hfb (Ksa s hs _ 0 rfl (Vo _)) ?_
 rw[Wh]
 cases s.data.toList.all bOk with
 |true=>exact Hhb (a:=inR (s.size:Int) 1 20) (by simp only[cond_true,Hvb,Ru,Vn]) (by rw[Wd])
 |false=>exact H3b rfl
def W4 (s:ByteArray) (hs:Mo s):Tot (λ k=>Bi k s) (λ r=>r=B2 s):=by
 unfold Bi B2
 refine Hfb (Kta s hs _ 0 rfl (Vo _)) ?_
 rw[Wh]
 cases s.data.toList.all bOk with
 |true=>exact Hhb (a:=inR (s.size:Int) 1 20) (by simp only[cond_true,Hvb,Pr,Vn]) (by rw[Wd])
 |false=>exact H3b rfl
def Ga (s:Stp):Bool:=inR s.1 0 1000000000&&(inR s.2.1 0 1000000&&inR s.2.2 0 20)
def W5 (s:Stp):Ca s=some (Ga s):=by
 unfold Ca Ga
 simp only[Ru,Vn]
 cases inR s.1 0 1000000000<;>cases inR s.2.1 0 1000000<;>rfl
def Bya (s:Stp):Dx s=some (Ga s):=by
 unfold Dx Ga
 simp only[Pr,Vn]
 cases inR s.1 0 1000000000<;>cases inR s.2.1 0 1000000<;>rfl
def Ou (x:Row):Bool:=B2 x.1&&(Ga x.2.1&&(inR x.2.2.2 0 200&&(!x.2.2.1||x.2.2.2==0)))
def Tia (x:Row) (hs:Mo x.1):Tot (λ k=>Kx k x) (λ r=>r=Ou x):=by
 unfold Kx Ou
 refine Hfb (Pc x.1 hs) ?_
 cases B2 x.1
 ·exact H3b rfl
 refine Hhb (a:=Ga x.2.1&&(inR x.2.2.2 0 200&&(!x.2.2.1||x.2.2.2==0))) ?_ (by rw[Wd])
 simp only[cond_true,W5,Ru,Vn]
 cases Ga x.2.1<;>cases inR x.2.2.2 0 200<;>cases x.2.2.1<;>rfl
def Tja (x:Row) (hs:Mo x.1):Tot (λ k=>Jg k x) (λ r=>r=Ou x):=by
 unfold Jg Ou
 refine Hfb (W4 x.1 hs) ?_
 cases B2 x.1
 ·exact H3b rfl
 refine Hhb (a:=Ga x.2.1&&(inR x.2.2.2 0 200&&(!x.2.2.1||x.2.2.2==0))) ?_ (by rw[Wd])
 simp only[cond_true,Bya,Pr,Vn]
 cases Ga x.2.1<;>cases inR x.2.2.2 0 200<;>cases x.2.2.1<;>rfl
def chk:Option ByteArray→List Row→Bool
 |_,[]=>true
 |none,r::l=>Ou r&&chk (some r.1) l
 |some q,r::l=>Ou r&&(tlt q r.1&&chk (some r.1) l)
def M8 (l:List Row):Bool:=chk none l&&decide ((l.length:Int)≤60)
def W6 (l:List Row):Prop:=∀ r∈l,Mo r.1
def A6a (l:List Row):Nat→Option ByteArray
 |0=>none
 |i+1=>some (l.getD i Mm).1
def Nla (l:List Row) (i:Nat) (h:i<l.length):chk (A6a l i) (l.drop i)=(Ou (l.getD i Mm)&&(bif decide (0<i) then tlt (l.getD (i-1) Mm).1 (l.getD i Mm).1 else true)&&chk (A6a l (i+1)) (l.drop (i+1))):=by
 rw[Ad (d:=Mm) h]
 cases i with
 |zero=>simp[A6a,chk]
 |succ i=>simp[A6a,chk,Kib]
def A3 {α:Type} {l:List α} {i:Nat} {d:α} (h1:i<l.length):l.getD i d∈l:=by
 rw[Vc,Vk h1]
 exact Jbb h1
def Kua (l:List Row) (hf:Few l) (hs:W6 l):∀ (n i:Nat),l.length-i=n→i≤l.length→
  Tot (λ k=>H0 k l l (l.length:Int) (i:Int)) (λ r=>r=bif chk (A6a l i) (l.drop i) then .inr l else .inl false):=by
 unfold Few at hf
 intro n
 induction n with
 |zero=>
  intro i hn hi
  refine Tot.succ ?_
  simp only[H0]
  refine H8b (by omega) (H3b ?_)
  rw[Wa (by omega)]
  cases A6a l i<;>rfl
 |succ n ih=>
  intro i hn hi
  have hlt:i<l.length:=by omega
  refine Tot.succ ?_
  simp only[H0]
  refine H7b (by omega) (H7b (by omega) (H7b (by omega) ?_))
  rw[show toNat (i:Int)=i from Va i,w64 (n:=(i:Int)+1) (by omega) (by omega),Nla l i hlt]
  have h1:=ih (i+1) (by omega) (by omega)
  have e:(((i+1:Nat)):Int)=(i:Int)+1:=by omega
  rw[e]at h1
  refine Hfb (Tia (l.getD i Mm) (hs _ (A3 hlt))) ?_
  cases hb:Ou (l.getD i Mm)
  ·exact H6b rfl (H3b (by simp))
  refine H5b rfl ?_
  rw[Wd]
  refine Hab (λ h0=>?_) (λ h0=>?_)
  ·rw[w64 (n:=(i:Int)-1) (by omega) (by omega)]
   refine H7b (by omega) (H7b (by omega) ?_)
   rw[show toNat ((i:Int)-1)=i-1 by omega,decide_eq_true (show 0<i by omega),cond_true]
   have et:(!(Op.bytesLess (l.getD (i-1) Mm).1.toList (l.getD i Mm).1.toList)) = !(tlt (l.getD (i-1) Mm).1 (l.getD i Mm).1):=rfl
   refine H9b (λ ht=>?_) (λ ht=>?_)
   ·have ht':(!(tlt (l.getD (i-1) Mm).1 (l.getD i Mm).1))=true:=ht
    rw[Vw]at ht'
    exact H3b (by rw[ht'];rfl)
   ·have ht':(!(tlt (l.getD (i-1) Mm).1 (l.getD i Mm).1))=false:=ht
    rw[Wo]at ht'
    rw[ht',Wd]
    exact h1
  ·rw[decide_eq_false (show ¬ 0<i by omega),cond_false,Wd]
   exact h1
def Kva (l:List Row) (hf:Few l) (hs:W6 l):∀ (n i:Nat),l.length-i=n→i≤l.length→
  Tot (λ k=>H5 k l (i:Int)) (λ r=>r=bif chk (A6a l i) (l.drop i) then .inr l else .inl false):=by
 unfold Few at hf
 intro n
 induction n with
 |zero=>
  intro i hn hi
  refine Tot.succ ?_
  simp only[H5]
  refine H8b (by omega) (H3b ?_)
  rw[Wa (by omega)]
  cases A6a l i<;>rfl
 |succ n ih=>
  intro i hn hi
  have hlt:i<l.length:=by omega
  refine Tot.succ ?_
  simp only[H5]
  refine H7b (by omega) (H7b (by omega) (H7b (by omega) ?_))
  rw[show toNat (i:Int)=i from Va i,w64 (n:=(i:Int)+1) (by omega) (by omega),Nla l i hlt]
  have h1:=ih (i+1) (by omega) (by omega)
  have e:(((i+1:Nat)):Int)=(i:Int)+1:=by omega
  rw[e]at h1
  refine Hfb (Tja (l.getD i Mm) (hs _ (A3 hlt))) ?_
  cases hb:Ou (l.getD i Mm)
  ·exact H6b rfl (H3b (by simp))
  refine H5b rfl ?_
  rw[Wd]
  refine Hab (λ h0=>?_) (λ h0=>?_)
  ·rw[w64 (n:=(i:Int)-1) (by omega) (by omega)]
   refine H7b (by omega) (H7b (by omega) (H7b (by omega) (H7b (by omega) ?_)))
   rw[show toNat ((i:Int)-1)=i-1 by omega,decide_eq_true (show 0<i by omega),cond_true]
   refine H9b (λ ht=>?_) (λ ht=>?_)
   ·have ht':(!(tlt (l.getD (i-1) Mm).1 (l.getD i Mm).1))=true:=ht
    rw[Vw]at ht'
    exact H3b (by rw[ht'];rfl)
   ·have ht':(!(tlt (l.getD (i-1) Mm).1 (l.getD i Mm).1))=false:=ht
    rw[Wo]at ht'
    rw[ht',Wd]
    exact h1
  ·rw[decide_eq_false (show ¬ 0<i by omega),cond_false,Wd]
   exact h1
def Nma (l:List Row) (hf:Few l) (hs:W6 l):Tot (λ k=>Fa k l) (λ r=>r=M8 l):=by
 unfold Fa M8
 refine Hfb (Kua l hf hs _ 0 rfl (Vo _)) ?_
 rw[Wh]
 show Tot _ (λ r=>r=(chk none l&&_))
 cases hc:chk none l with
 |true=>rw[show chk (A6a l 0) l=true from hc];exact H3b (by rw[Wd])
 |false=>rw[show chk (A6a l 0) l=false from hc];exact H3b rfl
def Xta (l:List Row) (hf:Few l) (hs:W6 l):Tot (λ k=>Hj k l) (λ r=>r=M8 l):=by
 unfold Hj M8
 refine Hfb (Kva l hf hs _ 0 rfl (Vo _)) ?_
 rw[Wh]
 cases hc:chk none l with
 |true=>rw[show chk (A6a l 0) l=true from hc];exact H3b (by rw[Wd])
 |false=>rw[show chk (A6a l 0) l=false from hc];exact H3b rfl
def Kwa:∀ (p:Option ByteArray) (l:List Row),chk p l=true↔M0 l∧(∀ r∈l,Ou r=true)∧(∀ q,p=some q→∀ r∈l,tlt q r.1=true)
 |p,[]=>by
  have:chk p []=true:=by cases p<;>rfl
  simp[this,M0]
 |none,r::l=>by
  simp only[chk,Vb,Kwa (some r.1) l,M0,Wj]
  constructor
  ·rintro⟨h1,h2,h3,h4⟩
   exact⟨⟨λ a ha=>h4 _ rfl a ha,h2⟩,λ a ha=>by rcases Vl.1 ha with rfl|ha;exact h1;exact h3 a ha,λ q hq=>by cases hq⟩
  ·rintro⟨⟨h1,h2⟩,h3,_⟩
   exact⟨h3 r (by simp),h2,λ a ha=>h3 a (Vh _ ha),λ q hq a ha=>by cases hq;exact h1 a ha⟩
 |some q,r::l=>by
  simp only[chk,Vb,Kwa (some r.1) l,M0,Wj]
  constructor
  ·rintro⟨h1,h0,h2,h3,h4⟩
   refine⟨⟨λ a ha=>h4 _ rfl a ha,h2⟩,λ a ha=>by rcases Vl.1 ha with rfl|ha;exact h1;exact h3 a ha,λ q' hq a ha=>?_⟩
   cases hq
   rcases Vl.1 ha with rfl|ha
   ·exact h0
   ·exact Nu h0 (h4 _ rfl a ha)
  ·rintro⟨⟨h1,h2⟩,h3,h4⟩
   exact⟨h3 r (by simp),h4 q rfl r (by simp),h2,λ a ha=>h3 a (Vh _ ha),λ q' hq a ha=>by cases hq;exact h1 a ha⟩
def Pj {l:List Row}:M8 l=true↔M0 l∧(∀ r∈l,Ou r=true)∧l.length≤60:=by
 unfold M8
 simp only[Vb,Kwa,decide_eq_true_eq]
 constructor
 ·rintro⟨⟨h1,h2,_⟩,h3⟩
  exact⟨h1,h2,by omega⟩
 ·rintro⟨h1,h2,h3⟩
  exact⟨⟨h1,h2,λ q hq=>by cases hq⟩,by omega⟩
def X8 (a b:List Row):List Row:=b.foldl mrg a
def Nna {a b:List Row} {r:Row} (h:r∈X8 a b):r∈a∨r∈b:=by
 induction b generalizing a with
 |nil=>exact .inl h
 |cons x b ih=>
  rcases ih (a:=mrg a x) h with h|h
  ·rcases Cbb h with rfl|h
   ·exact .inr (by simp)
   ·exact .inl h
  ·exact .inr (Vh _ h)
def Kxa {a b:List Row} (h:M0 a):M0 (X8 a b):=by
 induction b generalizing a with
 |nil=>exact h
 |cons x b ih=>exact ih (Pma h)
def Fia (b:List Row) (hb:Few b):∀ (n i:Nat) (a:List Row),b.length-i=n→i≤b.length→a.length+(b.length-i)≤1000000000000→
  Tot (λ k=>Ej k a b (b.length:Int) (i:Int)) (λ r=>r=X8 a (b.drop i)):=by
 unfold Few at hb
 intro n
 induction n with
 |zero=>
  intro i a hn hi hf
  refine Tot.succ ?_
  simp only[Ej]
  refine H8b (by omega) (H3b ?_)
  rw[Wa (by omega)]
  rfl
 |succ n ih=>
  intro i a hn hi hf
  have hlt:i<b.length:=by omega
  refine Tot.succ ?_
  simp only[Ej]
  refine H7b (by omega) (H7b (by omega) (H7b (by omega) ?_))
  rw[show toNat (i:Int)=i from Va i,w64 (n:=(i:Int)+1) (by omega) (by omega),Ad (d:=Mm) hlt]
  refine Hfb (Tfa a (b.getD i Mm) (by unfold Few;omega)) ?_
  have:=Tha a (b.getD i Mm)
  exact ih (i+1) (mrg a (b.getD i Mm)) (by omega) (by omega) (by omega)
def Pna (a b:List Row) (hf:a.length+b.length≤1000000000000):Tot (λ k=>Cv k a b) (λ r=>r=X8 a b):=by
 unfold Cv
 refine H4b (Hhb (Q:=λ r=>r=a) (W2 a (by unfold Few;omega)) rfl) ?_
 rintro r rfl
 refine H4b (Fia b (by unfold Few;omega) _ 0 r rfl (Vo _) (by omega)) ?_
 rintro y rfl
 rw[Wh]
 exact H3b rfl
def mx (a b:Row):Row:=bif Uc a b then b else a

def Cwa:Nat→Nat→List Int
 |0,n=>[(n:Int)]
 |f+1,n=>if n≤127 then [(n:Int)] else ((n % 128+128:Nat):Int)::Cwa f (n/128)
def Qc (n:Nat):List Int:=Cwa 4 n
def W7:Nat→Nat→Nat→List Int→Option (Nat×Nat)
 |0,_,_,_=>none
 |_+1,_,_,[]=>none
 |f+1,k,acc,x::l=>if 128≤x then W7 f (k+1) (acc+x.toNat % 128*128 ^ k) l
  else if (x=0∧0<k)∨1000000000<acc+x.toNat % 128*128 ^ k then none else some (acc+x.toNat % 128*128 ^ k,k+1)
def Qf (l:List Int) (p:Nat):Option (Nat×Nat):=match W7 5 0 0 (l.drop p) with
 |some (n,c)=>some (n,p+c)
 |none=>none
def Tka:∀ (f n:Nat),(Cwa f n).length≤f+1∧0<(Cwa f n).length
 |0,n=>by simp[Cwa]
 |f+1,n=>by
  unfold Cwa
  split
  ·simp
  ·have:=Tka f (n/128)
   simp only[Vd]
   omega
def Ue:∀ (f k acc:Nat) (l:List Int) (n c:Nat),Ao l→W7 f k acc l=some (n,c)→acc<128 ^ k→k<c∧c≤k+f∧c-k≤l.length∧n≤1000000000
 |0,_,_,_,_,_,_,h,_=>by simp[W7]at h
 |_+1,_,_,[],_,_,_,h,_=>by simp[W7]at h
 |f+1,k,acc,x::l,n,c,hb,h,ha=>by
  have hx:=hb x (by simp)
  unfold W7 at h
  split at h
  ·have h1:acc+x.toNat % 128*128 ^ k<128 ^ (k+1):=by
    have h2:x.toNat % 128≤127:=by omega
    have h3:=Wp (128 ^ k) h2
    rw[Hmb]
    omega
   have:=Ue f (k+1) _ l n c (λ y hy=>hb y (Vh _ hy)) h h1
   simp only[Vd]
   omega
  ·split at h
   ·cases h
   ·simp only[Vg,Vy]at h
    obtain⟨rfl,rfl⟩:=h
    simp only[Vd]
    omega
def Tla:∀ (f k acc:Nat) (l:List Int) (n c:Nat),Ao l→W7 (f+1) k acc l=some (n,c)→acc<128 ^ k→∃ m,n=acc+m*128 ^ k∧l=Cwa f m++l.drop (c-k)∧(m=0→c=k+1∧(0<k→False))∧m<128 ^ (f+1)
 |0,k,acc,[],n,c,hb,h,ha=>by simp[W7]at h
 |_+1,k,acc,[],n,c,hb,h,ha=>by simp[W7]at h
 |0,k,acc,x::l,n,c,hb,h,ha=>by
  have hx:=hb x (by simp)
  unfold W7 at h
  split at h
  ·simp[W7]at h
  ·rename_i h128
   split at h
   ·cases h
   ·rename_i hz
    simp only[Vg,Vy]at h
    obtain⟨rfl,rfl⟩:=h
    have hm:x.toNat % 128=x.toNat:=Hzb (by omega)
    refine⟨x.toNat,by rw[hm],?_,λ h0=>⟨rfl,λ hk=>hz (.inl ⟨by omega,hk⟩)⟩,by omega⟩
    rw[show k+1-k=1 by omega]
    show x::l=[((x.toNat:Nat):Int)]++l
    rw[show ((x.toNat:Nat):Int)=x by omega]
    rfl
 |f+1,k,acc,x::l,n,c,hb,h,ha=>by
  have hx:=hb x (by simp)
  have hb':Ao l:=λ y hy=>hb y (Vh _ hy)
  unfold W7 at h
  split at h
  ·rename_i h128
   have h1:acc+x.toNat % 128*128 ^ k<128 ^ (k+1):=by
    have h2:x.toNat % 128≤127:=by omega
    have h3:=Wp (128 ^ k) h2
    rw[Hmb]
    omega
   obtain⟨m,e1,e2,e3,e4⟩:=Tla f (k+1) _ l n c hb' h h1
   have hbd:=Ue (f+1) (k+1) _ l n c hb' h h1
   have hm0:m≠0:=λ h0=>(e3 h0).2 (by omega)
   refine⟨x.toNat % 128+m*128,?_,?_,λ h0=>by omega,?_⟩
   ·rw[e1,Hmb,Yw]
    have:m*128*128 ^ k=m*(128 ^ k*128):=by rw[Nat.mul_assoc,Kjb 128]
    omega
   ·unfold Cwa
    rw[if_neg (by omega),show (x.toNat % 128+m*128)/128=m by omega,show (x.toNat % 128+m*128) % 128=x.toNat % 128 by omega,show c-k=(c-(k+1))+1 by omega,List.drop_succ_cons,List.cons_append,← e2]
    congr 1
    omega
   ·rw[Hmb]
    omega
  ·rename_i h128
   split at h
   ·cases h
   ·rename_i hz
    simp only[Vg,Vy]at h
    obtain⟨rfl,rfl⟩:=h
    have hm:x.toNat % 128=x.toNat:=Hzb (by omega)
    have hp:128≤128 ^ (f+1+1):=by
     have:=Nat.pow_le_pow_right (show 0<128 by decide) (show 1≤f+1+1 by omega)
     simpa using this
    refine⟨x.toNat,by rw[hm],?_,λ h0=>⟨rfl,λ hk=>hz (.inl ⟨by omega,hk⟩)⟩,by omega⟩
    rw[show k+1-k=1 by omega]
    unfold Cwa
    rw[if_pos (by omega)]
    show x::l=[((x.toNat:Nat):Int)]++l
    rw[show ((x.toNat:Nat):Int)=x by omega]
    rfl
def Tma:∀ (f k acc m:Nat) (rest:List Int),m<128 ^ (f+1)→(0<k→0<m)→acc+m*128 ^ k≤1000000000→W7 (f+1) k acc (Cwa f m++rest)=some (acc+m*128 ^ k,k+(Cwa f m).length)
 |0,k,acc,m,rest,hm,hk,hn=>by
  show W7 1 k acc ((m:Int)::rest)=_
  unfold W7
  have h1:m<128:=by simpa using hm
  rw[if_neg (by omega),if_neg (by
   rw[show (m:Int).toNat % 128=m by rw[Va];exact Hzb h1]
   omega)]
  rw[show (m:Int).toNat % 128=m by rw[Va];exact Hzb h1]
  rfl
 |f+1,k,acc,m,rest,hm,hk,hn=>by
  unfold Cwa
  by_cases h:m≤127
  ·rw[if_pos h]
   show W7 (f+2) k acc ((m:Int)::rest)=_
   unfold W7
   rw[if_neg (by omega),if_neg (by
    rw[show (m:Int).toNat % 128=m by rw[Va];exact Hzb (by omega)]
    omega)]
   rw[show (m:Int).toNat % 128=m by rw[Va];exact Hzb (by omega)]
   rfl
  ·rw[if_neg h]
   show W7 (f+2) k acc (((m % 128+128:Nat):Int)::(Cwa f (m/128)++rest))=_
   unfold W7
   have e1:(((m % 128+128:Nat):Int)).toNat % 128=m % 128:=by rw[Va];omega
   rw[if_pos (by omega),e1]
   have hmod:m=m % 128+m/128*128:=by omega
   have hm2:m/128<128 ^ (f+1):=by rw[Hmb]at hm;omega
   have e2:acc+m % 128*128 ^ k+m/128*128 ^ (k+1)=acc+m*128 ^ k:=by
    have h2:m*128 ^ k=(m % 128+m/128*128)*128 ^ k:=by rw[← hmod]
    rw[h2,Yw,Hmb]
    have:m/128*128*128 ^ k=m/128*(128 ^ k*128):=by rw[Nat.mul_assoc,Kjb 128]
    omega
   rw[Tma f (k+1) (acc+m % 128*128 ^ k) (m/128) rest hm2 (λ _=>by omega) (by rw[e2];exact hn),e2,Vd]
   simp only[Vg,Vy,true_and]
   omega
def Noa (pre:List Int) (n:Nat) (rest:List Int) (hn:n≤1000000000):Qf (pre++(Qc n++rest)) pre.length=some (n,pre.length+(Qc n).length):=by
 unfold Qf
 rw[Zi]
 have:=Tma 4 0 0 n rest (by omega) (by omega) (by omega)
 unfold Qc
 rw[this]
 simp
def Uf {l:List Int} {p n q:Nat} (hb:Ao l) (h:Qf l p=some (n,q)):l.drop p=Qc n++l.drop q∧n≤1000000000∧p<q∧q≤l.length:=by
 unfold Qf at h
 split at h
 ·rename_i m c hd
  simp only[Vg,Vy]at h
  obtain⟨rfl,rfl⟩:=h
  have hb':Ao (l.drop p):=λ y hy=>hb y (Zm hy)
  have hbd:=Ue 5 0 0 _ _ _ hb' hd (by decide)
  obtain⟨m',e1,e2,_,_⟩:=Tla 4 0 0 _ _ _ hb' hd (by decide)
  have e3:m=m':=by rw[e1];simp
  subst e3
  rw[We]at hbd
  refine⟨?_,hbd.2.2.2,by omega,by omega⟩
  rw[Jrb,Yp]at e2
  exact e2
 ·cases h
def H0b (i:Nat) (hi:i<5):(2:Int) ^ (min (toNat (wrap .i64 (7*(i:Int)))) (IntKind.bits .i64))=((128 ^ i:Nat):Int):=by
 have:i=0∨i=1∨i=2∨i=3∨i=4:=by omega
 rcases this with rfl|rfl|rfl|rfl|rfl<;>decide
def G6b (i:Nat) (hi:i<5):(2:Int) ^ (min (toNat (wrap .u64 (wrap .i64 (7*(i:Int))))) (IntKind.bits .i64))=((128 ^ i:Nat):Int):=by
 have:i=0∨i=1∨i=2∨i=3∨i=4:=by omega
 rcases this with rfl|rfl|rfl|rfl|rfl<;>decide
def sh7 (i:Nat) (hi:i<5):¬ (wrap .i64 (7*(i:Int))<0)∧¬ (wrap .u64 (wrap .i64 (7*(i:Int)))<0):=by
 have:i=0∨i=1∨i=2∨i=3∨i=4:=by omega
 rcases this with rfl|rfl|rfl|rfl|rfl<;>decide
def Qs (i:Nat) (hi:i≤5):128 ^ i≤34359738368:=by
 have:=Nat.pow_le_pow_right (show 0<128 by decide) hi
 simpa using this
def Sq (n:Nat) (h:n<18446744073709551616):(ofInt (IntKind.bits .i64) (n:Int)).toNat=n:=by
 rw[Ixb]
 show ((n:Int) % ((2 ^ 64:Nat):Int)).toNat=n
 rw[Int.emod_eq_of_lt (by omega) (by omega)]
 exact Va n
def A8b (n:Nat) (h:n<9223372036854775808):wrap .i64 ((ofInt (IntKind.bits .i64) (n:Int) &&& ofInt (IntKind.bits .i64) 127).toNat)=((n % 128:Nat):Int):=by
 rw[Imb,Sq n (by omega),show (ofInt (IntKind.bits .i64) 127).toNat=127 from by decide,show (127:Nat)=2 ^ 7-1 from rfl,Jab]
 exact w64 (by omega) (by omega)
def Npa (a m i:Nat) (ha:a<128 ^ i) (hm:m<128) (hi:i<5):wrap .i64 ((ofInt (IntKind.bits .i64) (a:Int) ||| ofInt (IntKind.bits .i64) ((m*128 ^ i:Nat):Int)).toNat)=((a+m*128 ^ i:Nat):Int):=by
 have hp:=Qs i (by omega)
 have hmul:m*128 ^ i≤127*34359738368:=Jxb (by omega) hp
 rw[BitVec.toNat_or,Sq a (by omega),Sq _ (by omega),Nat.or_comm]
 have e:(128:Nat) ^ i=2 ^ (7*i):=by rw[Nat.pow_mul]
 have h2:=Nat.two_pow_add_eq_or_of_lt (i:=7*i) (b:=a) (by rw[← e];exact ha) m
 rw[← e,Kjb]at h2
 rw[← h2,Zza]
 exact w64 (by omega) (by omega)
def Kya (l:List Int) (p:Int):Int×Int×Bool:=if p<0 then (0,0,false) else match Qf l p.toNat with
 |some (n,q)=>((n:Int),(q:Int),true)
 |none=>(0,0,false)
def Fsb (p:Nat):Option (Nat×Nat)→Int×Int×Bool
 |some (n,c)=>((n:Int),((p+c:Nat):Int),true)
 |none=>(0,0,false)
def Bza (r:Sum (Int×Int×Bool) Unit):Int×Int×Bool:=Sum.elim (λ y=>y) (λ _=>(0,0,false)) r
def W8 {l:List Int} {p:Nat} (h:p<l.length):l.drop p=l.getD p 0::l.drop (p+1):=Ad h
def Poa (l:List Int) (hb:Ao l) (hl:l.length≤1000000000000) (p:Nat) (hp:p≤1000000000000):∀ (f i acc:Nat),f+i=5→acc<128 ^ i→
  Tot (λ k=>H1 k l (p:Int) (acc:Int) (i:Int)) (λ r=>Bza r=Fsb p (W7 f i acc (l.drop (p+i)))):=by
 intro f
 induction f with
 |zero=>
  intro i acc hi ha
  refine Tot.succ ?_
  simp only[H1]
  exact H8b (by omega) (H3b rfl)
 |succ f ih=>
  intro i acc hi ha
  have hi5:i<5:=by omega
  refine Tot.succ ?_
  simp only[H1]
  refine H7b (by omega) (H7b (by omega) ?_)
  rw[w64 (n:=(l.length:Int)-(i:Int)) (by omega) (by omega),w64 (n:=(p:Int)+(i:Int)) (by omega) (by omega),show toNat ((p:Int)+(i:Int))=p+i by omega]
  refine Hab (λ h=>?_) (λ h=>?_)
  ·have hlt:p+i<l.length:=by omega
   refine H7b (by omega) (H7b (by omega) ?_)
   have hx:=hb (l.getD (p+i) 0) (A3 hlt)
   rw[W8 hlt,H0b i hi5]
   have he:W7 (f+1) i acc (l.getD (p+i) 0::l.drop (p+i+1))=if 128≤l.getD (p+i) 0 then W7 f (i+1) (acc+(l.getD (p+i) 0).toNat % 128*128 ^ i) (l.drop (p+i+1)) else if (l.getD (p+i) 0=0∧0<i)∨1000000000<acc+(l.getD (p+i) 0).toNat % 128*128 ^ i then none else some (acc+(l.getD (p+i) 0).toNat % 128*128 ^ i,i+1):=rfl
   rw[he]
   generalize l.getD (p+i) 0=x at hx ⊢
   obtain⟨v,rfl⟩:∃ v:Nat,x=(v:Int):=⟨x.toNat,by omega⟩
   rw[Va]
   have hp1:=Qs i (by omega)
   have hmul:v % 128*128 ^ i≤127*34359738368:=Jxb (by omega) hp1
   rw[w64 (n:=(v:Int)) (by omega) (by omega)]
   have e1:Int.tmod (v:Int) 128*((128 ^ i:Nat):Int)=((v % 128*128 ^ i:Nat):Int):=by
    rw[Zw (by omega)]
    push_cast
    rfl
   rw[e1,w64 (n:=((v % 128*128 ^ i:Nat):Int)) (by omega) (by omega),← Int.natCast_add,w64 (n:=((acc+v % 128*128 ^ i:Nat):Int)) (by omega) (by omega),w64 (n:=(i:Int)+1) (by omega) (by omega),w64 (n:=(p:Int)+(i:Int)+1) (by omega) (by omega)]
   refine H8b (sh7 i hi5).1 ?_
   refine Hab (λ h128=>?_) (λ h128=>?_)
   ·rw[if_pos (by omega)]
    have h1:acc+v % 128*128 ^ i<128 ^ (i+1):=by
     have h2:v % 128≤127:=by omega
     have h3:=Wp (128 ^ i) h2
     rw[Hmb]
     omega
    have:=ih (i+1) (acc+v % 128*128 ^ i) (by omega) h1
    rw[show p+(i+1)=p+i+1 by omega]at this
    exact this
   ·rw[if_neg (by omega)]
    have big:Tot (λ _:Nat=>cond (decide (((acc+v % 128*128 ^ i:Nat):Int) > 1000000000)) (some (Sum.inl ((0:Int),(0:Int),false))) (some (Sum.inl (((acc+v % 128*128 ^ i:Nat):Int),(p:Int)+(i:Int)+1,true))):Nat→Option (Sum (Int×Int×Bool) Unit))
      (λ r=>Bza r=if 1000000000<acc+v % 128*128 ^ i then (0,0,false) else (((acc+v % 128*128 ^ i:Nat):Int),((p+(i+1):Nat):Int),true)):=by
     refine Hab (λ hbig=>?_) (λ hbig=>?_)
     ·rw[if_pos (by omega)];exact H3b rfl
     ·rw[if_neg (by omega)]
      refine H3b ?_
      show (_,_,_)=_
      rw[show (p:Int)+(i:Int)+1=((p+(i+1):Nat):Int) by omega]
    have goal:∀ c:Prop,[Decidable c]→(if c∨1000000000<acc+v % 128*128 ^ i then none else some (acc+v % 128*128 ^ i,i+1))=if c then none else if 1000000000<acc+v % 128*128 ^ i then (none:Option (Nat×Nat)) else some (acc+v % 128*128 ^ i,i+1):=by
     intro c _
     by_cases h1:c<;>by_cases h2:1000000000<acc+v % 128*128 ^ i<;>simp[h1,h2]
    rw[goal]
    have fin:(Fsb p (if 1000000000<acc+v % 128*128 ^ i then (none:Option (Nat×Nat)) else some (acc+v % 128*128 ^ i,i+1)))=if 1000000000<acc+v % 128*128 ^ i then (0,0,false) else (((acc+v % 128*128 ^ i:Nat):Int),((p+(i+1):Nat):Int),true):=by
     split<;>rfl
    refine H9b (λ h0=>?_) (λ h0=>?_)
    ·have hv:v=0:=by
      have:=beq_iff_eq.1 h0
      omega
     refine Hab (λ hi0=>?_) (λ hi0=>?_)
     ·rw[if_pos ⟨by omega,by omega⟩];exact H3b rfl
     ·rw[if_neg (by omega),fin];exact big
    ·have hv:v≠0:=by
      intro e
      subst e
      simp at h0
     rw[if_neg (by omega),fin];exact big
  ·refine H3b ?_
   rw[Wa (by omega)]
   rfl
def Tna (l:List Int) (hb:Ao l) (hl:l.length≤1000000000000) (p:Int) (hp:p≤1000000000000):Tot (λ k=>Iu k l p) (λ r=>r=Kya l p):=by
 unfold Iu Kya
 by_cases h0:p<0
 ·rw[if_pos h0]
  refine H4b (Q:=λ r=>r = .inr ()) ?_ ?_
  ·refine Tot.succ ?_
   simp only[H1]
   exact H7b (by omega) (H8b (by omega) (H3b rfl))
  ·rintro r rfl
   exact H3b rfl
 ·rw[if_neg h0]
  obtain⟨n,rfl⟩:∃ n:Nat,p=(n:Int):=⟨p.toNat,by omega⟩
  rw[Va]
  refine H4b (Poa l hb hl n (by omega) 5 0 0 rfl (by decide)) ?_
  intro r hr
  unfold Qf
  rw[Zq]at hr
  have hr':Bza r=(match (match W7 5 0 0 (l.drop n) with|some (m,c)=>some (m,n+c)|none=>none) with|some (m,q)=>((m:Int),(q:Int),true)|none=>((0:Int),(0:Int),false)):=by
   rw[hr]
   cases W7 5 0 0 (l.drop n) with
   |none=>rfl
   |some mc=>rfl
  rw[← hr']
  cases r with
  |inl y=>exact H3b rfl
  |inr z=>exact H3b rfl

def Ppa (l:List Int) (hb:Ao l) (hl:l.length≤1000000000000) (p:Nat) (hp:p<l.length):∀ (f i acc:Nat),f+i=5→acc<128 ^ i→
  Tot (λ k=>Fw k l (p:Int) (acc:Int) (i:Int)) (λ r=>Bza r=Fsb p (W7 f i acc (l.drop (p+i)))):=by
 intro f
 induction f with
 |zero=>
  intro i acc hi ha
  refine Tot.succ ?_
  simp only[Fw]
  exact H8b (by omega) (H3b rfl)
 |succ f ih=>
  intro i acc hi ha
  have hi5:i<5:=by omega
  refine Tot.succ ?_
  simp only[Fw]
  refine H7b (by omega) (H7b (by omega) (H7b (by omega) ?_))
  rw[w64 (n:=(p:Int)+(i:Int)) (by omega) (by omega),show toNat ((p:Int)+(i:Int))=p+i by omega]
  refine Hab (λ h=>?_) (λ h=>?_)
  ·have hlt:p+i<l.length:=by omega
   refine H7b (by omega) (H7b (by omega) ?_)
   have hx:=hb (l.getD (p+i) 0) (A3 hlt)
   rw[W8 hlt,G6b i hi5]
   have he:W7 (f+1) i acc (l.getD (p+i) 0::l.drop (p+i+1))=if 128≤l.getD (p+i) 0 then W7 f (i+1) (acc+(l.getD (p+i) 0).toNat % 128*128 ^ i) (l.drop (p+i+1)) else if (l.getD (p+i) 0=0∧0<i)∨1000000000<acc+(l.getD (p+i) 0).toNat % 128*128 ^ i then none else some (acc+(l.getD (p+i) 0).toNat % 128*128 ^ i,i+1):=rfl
   rw[he]
   generalize l.getD (p+i) 0=x at hx ⊢
   obtain⟨v,rfl⟩:∃ v:Nat,x=(v:Int):=⟨x.toNat,by omega⟩
   rw[Va]
   have hp1:=Qs i (by omega)
   have hmul:v % 128*128 ^ i≤127*34359738368:=Jxb (by omega) hp1
   rw[w64 (n:=(v:Int)) (by omega) (by omega),A8b v (by omega)]
   have e1:((v % 128:Nat):Int)*((128 ^ i:Nat):Int)=((v % 128*128 ^ i:Nat):Int):=by push_cast;rfl
   rw[e1,w64 (n:=((v % 128*128 ^ i:Nat):Int)) (by omega) (by omega),Npa acc (v % 128) i ha (by omega) hi5,w64 (n:=(i:Int)+1) (by omega) (by omega),w64 (n:=(p:Int)+(i:Int)+1) (by omega) (by omega)]
   refine H8b (sh7 i hi5).2 ?_
   refine Hab (λ h128=>?_) (λ h128=>?_)
   ·rw[if_pos (by omega)]
    have h1:acc+v % 128*128 ^ i<128 ^ (i+1):=by
     have h2:v % 128≤127:=by omega
     have h3:=Wp (128 ^ i) h2
     rw[Hmb]
     omega
    have:=ih (i+1) (acc+v % 128*128 ^ i) (by omega) h1
    rw[show p+(i+1)=p+i+1 by omega]at this
    exact this
   ·rw[if_neg (by omega)]
    have big:Tot (λ _:Nat=>cond (decide (((acc+v % 128*128 ^ i:Nat):Int) > 1000000000)) (some (Sum.inl ((0:Int),(0:Int),false))) (some (Sum.inl (((acc+v % 128*128 ^ i:Nat):Int),(p:Int)+(i:Int)+1,true))):Nat→Option (Sum (Int×Int×Bool) Unit))
      (λ r=>Bza r=if 1000000000<acc+v % 128*128 ^ i then (0,0,false) else (((acc+v % 128*128 ^ i:Nat):Int),((p+(i+1):Nat):Int),true)):=by
     refine Hab (λ hbig=>?_) (λ hbig=>?_)
     ·rw[if_pos (by omega)];exact H3b rfl
     ·rw[if_neg (by omega)]
      refine H3b ?_
      show (_,_,_)=_
      rw[show (p:Int)+(i:Int)+1=((p+(i+1):Nat):Int) by omega]
    have goal:∀ c:Prop,[Decidable c]→(if c∨1000000000<acc+v % 128*128 ^ i then none else some (acc+v % 128*128 ^ i,i+1))=if c then none else if 1000000000<acc+v % 128*128 ^ i then (none:Option (Nat×Nat)) else some (acc+v % 128*128 ^ i,i+1):=by
     intro c _
     by_cases h1:c<;>by_cases h2:1000000000<acc+v % 128*128 ^ i<;>simp[h1,h2]
    rw[goal]
    have fin:(Fsb p (if 1000000000<acc+v % 128*128 ^ i then (none:Option (Nat×Nat)) else some (acc+v % 128*128 ^ i,i+1)))=if 1000000000<acc+v % 128*128 ^ i then (0,0,false) else (((acc+v % 128*128 ^ i:Nat):Int),((p+(i+1):Nat):Int),true):=by
     split<;>rfl
    refine Hab (λ hi0=>?_) (λ hi0=>?_)
    ·refine H9b (λ h0=>?_) (λ h0=>?_)
     ·have hv:v=0:=by
       have:=beq_iff_eq.1 h0
       omega
      rw[if_pos ⟨by omega,by omega⟩];exact H3b rfl
     ·have hv:v≠0:=by
       intro e
       subst e
       simp at h0
      rw[if_neg (by omega),fin];exact big
    ·rw[if_neg (by omega),fin];exact big
  ·refine H3b ?_
   rw[Wa (by omega)]
   rfl
def Xv (l:List Int) (hb:Ao l) (hl:l.length≤1000000000000) (p:Int):Tot (λ k=>Ek k l p) (λ r=>r=Kya l p):=by
 unfold Ek Kya
 by_cases h0:p<0
 ·rw[if_pos h0]
  refine H4b (Q:=λ r=>r = .inr ()) ?_ ?_
  ·refine Tot.succ ?_
   simp only[Fw]
   exact H7b (by omega) (H8b (by omega) (H3b rfl))
  ·rintro r rfl
   exact H3b rfl
 ·rw[if_neg h0]
  by_cases h1:p<(l.length:Int)
  ·obtain⟨n,rfl⟩:∃ n:Nat,p=(n:Int):=⟨p.toNat,by omega⟩
   rw[Va]
   refine H4b (Ppa l hb hl n (by omega) 5 0 0 rfl (by decide)) ?_
   intro r hr
   unfold Qf
   rw[Zq]at hr
   have hr':Bza r=(match (match W7 5 0 0 (l.drop n) with|some (m,c)=>some (m,n+c)|none=>none) with|some (m,q)=>((m:Int),(q:Int),true)|none=>((0:Int),(0:Int),false)):=by
    rw[hr]
    cases W7 5 0 0 (l.drop n) with
    |none=>rfl
    |some mc=>rfl
   refine Tot.mono (Q:=λ y=>y=Bza r) ?_ (λ y hy=>hy.trans hr')
   cases r with
   |inl y=>exact H3b rfl
   |inr z=>exact H3b rfl
  ·have e:Qf l p.toNat=none:=by
    unfold Qf
    rw[Wa (by omega)]
    rfl
   rw[e]
   refine H4b (Q:=λ r=>r = .inr ()) ?_ ?_
   ·refine Tot.succ ?_
    simp only[Fw]
    exact H7b (by omega) (H7b (by omega) (H8b h1 (H3b rfl)))
   ·rintro r rfl
    exact H3b rfl
def Bv (n:Int):Nat:=(max 0 (min n 1000000000)).toNat
def Ps (n:Int):Bv n≤1000000000:=by unfold Bv;omega
def C0a {n:Int} (h0:0≤n) (h1:n≤1000000000):(Bv n:Int)=n:=by unfold Bv;omega
def I5a (n:Nat) (h:n≤255):wrap .u8 (n:Int)=(n:Int):=by
 rw[Iyb]
 omega
def Pqa:∀ (f n:Nat) (out:List Int),n<128 ^ (f+1)→f≤4→out.length+f≤1000000000010→
  Tot (λ k=>I1 k out (n:Int)) (λ r=>∃ m:Nat,r.2=(m:Int)∧m≤127∧r.1++[(m:Int)]=out++Cwa f n∧r.1.length≤out.length+f):=by
 intro f
 induction f with
 |zero=>
  intro n out hn hf hl
  refine Tot.succ ?_
  simp only[I1]
  have:n<128:=by simpa using hn
  exact H8b (by omega) (H3b ⟨n,rfl,by omega,rfl,by simp⟩)
 |succ f ih=>
  intro n out hn hf hl
  have hp:=Qs (f+1+1-1) (by omega)
  refine Tot.succ ?_
  simp only[I1]
  refine Hab (λ h=>?_) (λ h=>?_)
  ·have hn2:n/128<128 ^ (f+1):=by rw[Hmb]at hn;omega
   have hn3:n<4398046511104:=by
    have:=Qs (f+1) (by omega)
    rw[Hmb]at hn
    omega
   have e1:Int.tmod (n:Int) 128+128=((n % 128+128:Nat):Int):=by
    rw[Zw (by omega)]
    omega
   have e2:Int.tdiv (n:Int) 128=((n/128:Nat):Int):=by
    rw[Hob (by omega)]
    omega
   rw[e1,e2,w64 (n:=((n % 128+128:Nat):Int)) (by omega) (by omega),w64 (n:=((n/128:Nat):Int)) (by omega) (by omega),I5a _ (by omega)]
   refine Hbb (by simp only[Vd,Vj];omega) ?_
   refine(ih (n/128) (out++[((n % 128+128:Nat):Int)]) hn2 (by omega) (by simp only[Ve,Vd,Vj];omega)).mono ?_
   rintro r ⟨m,h1,h2,h3,h4⟩
   refine⟨m,h1,h2,?_,by simp only[Ve,Vd,Vj]at h4;omega⟩
   rw[h3,Vp]
   congr 1
   conv => { rhs;unfold Cwa }
   rw[if_neg (by omega)]
   rfl
  ·refine H3b ⟨n,rfl,by omega,?_,by show out.length≤out.length+(f+1);omega⟩
   unfold Cwa
   rw[if_pos (by omega)]
def C1a (out:List Int) (n:Int) (hl:out.length≤1000000000000):Tot (λ k=>G5 k out n) (λ r=>r=out++Qc (Bv n)):=by
 unfold G5
 have e:(if (0:Int)<(if (1000000000:Int)<n then 1000000000 else n) then (if (1000000000:Int)<n then 1000000000 else n) else 0)=((Bv n:Nat):Int):=by
  unfold Bv
  split<;>split<;>omega
 simp only
 rw[e]
 have hc:=Ps n
 refine H4b (Pqa 4 (Bv n) out (by omega) (by omega) (by omega)) ?_
 rintro r ⟨m,h1,h2,h3,h4⟩
 rw[h1,I5a m (by omega)]
 refine Hbb (by simp only[Vd,Vj];omega) (H3b h3)
def Pra:∀ (f n:Nat) (out:List Int),n<128 ^ (f+1)→f≤4→out.length+f≤1000000000010→
  Tot (λ k=>Dt k (n:Int) out) (λ r=>∃ m:Nat,r.1=(m:Int)∧m≤127∧r.2++[(m:Int)]=out++Cwa f n∧r.2.length≤out.length+f):=by
 intro f
 induction f with
 |zero=>
  intro n out hn hf hl
  refine Tot.succ ?_
  simp only[Dt]
  have:n<128:=by simpa using hn
  exact H8b (by omega) (H3b ⟨n,rfl,by omega,rfl,by simp⟩)
 |succ f ih=>
  intro n out hn hf hl
  refine Tot.succ ?_
  simp only[Dt]
  refine Hab (λ h=>?_) (λ h=>?_)
  ·have hn2:n/128<128 ^ (f+1):=by rw[Hmb]at hn;omega
   have hn3:n<4398046511104:=by
    have:=Qs (f+1) (by omega)
    rw[Hmb]at hn
    omega
   have e1:wrap .i64 ((ofInt (IntKind.bits .i64) ((n % 128:Nat):Int) ||| ofInt (IntKind.bits .i64) 128).toNat)=((n % 128+128:Nat):Int):=by
    have:=Npa (n % 128) 1 1 (by omega) (by omega) (by omega)
    exact this
   have e2:Int.fdiv (n:Int) (2 ^ (min (toNat 7) (IntKind.bits .i64)))=((n/128:Nat):Int):=by
    have:(2:Int) ^ (min (toNat 7) (IntKind.bits .i64))=128:=by decide
    rw[this,Hpb _ (by omega)]
    omega
   rw[A8b n (by omega),e1,e2,I5a _ (by omega)]
   refine Hbb (by simp only[Vd,Vj];omega) ?_
   refine(ih (n/128) (out++[((n % 128+128:Nat):Int)]) hn2 (by omega) (by simp only[Ve,Vd,Vj];omega)).mono ?_
   rintro r ⟨m,h1,h2,h3,h4⟩
   refine⟨m,h1,h2,?_,by simp only[Ve,Vd,Vj]at h4;omega⟩
   rw[h3,Vp]
   congr 1
   conv => { rhs;unfold Cwa }
   rw[if_neg (by omega)]
   rfl
  ·refine H3b ⟨n,rfl,by omega,?_,by show out.length≤out.length+(f+1);omega⟩
   unfold Cwa
   rw[if_pos (by omega)]
def C2a (out:List Int) (n:Int) (hl:out.length≤1000000000000):Tot (λ k=>El k out n) (λ r=>r=out++Qc (Bv n)):=by
 have hc:=Ps n
 have fin:Tot (λ k=>(Dt k ((Bv n:Nat):Int) (([]:List Int)++out)).bind λ r1=>cond (Nat.ble ((length r1.2+length [wrap .u8 r1.1])*1) 140737488355328) (some (r1.2++[wrap .u8 r1.1])) none) (λ r=>r=out++Qc (Bv n)):=by
  rw[Vx]
  refine H4b (Pra 4 (Bv n) out (by omega) (by omega) (by omega)) ?_
  rintro r ⟨m,h1,h2,h3,h4⟩
  rw[h1,I5a m (by omega)]
  exact Hbb (by simp only[Vd,Vj];omega) (H3b h3)
 unfold El
 refine Hbb (by simp only[Vj];omega) ?_
 refine Hab (λ h1=>?_) (λ h1=>?_)
 ·refine H8b (by omega) ?_
  have e:((Bv n:Nat):Int)=1000000000:=by unfold Bv;omega
  rw[e]at fin
  exact fin
 ·refine Hab (λ h2=>?_) (λ h2=>?_)
  ·have e:((Bv n:Nat):Int)=0:=by unfold Bv;omega
   rw[e]at fin
   exact fin
  ·have e:((Bv n:Nat):Int)=n:=by unfold Bv;omega
   rw[e]at fin
   exact fin
def Nz (n:Nat):(Qc n).length≤5∧0<(Qc n).length:=Tka 4 n
def E3a:∀ (f n:Nat),n<128 ^ (f+1)→Ao (Cwa f n)
 |0,n,hn=>by
  intro x hx
  simp only[Cwa,Vu]at hx
  have:n<128:=by simpa using hn
  omega
 |f+1,n,hn=>by
  unfold Cwa
  split
  ·intro x hx
   simp only[Vu]at hx
   omega
  ·intro x hx
   rcases Vl.1 hx with rfl|hx
   ·omega
   ·exact E3a f (n/128) (by rw[Hmb]at hn;omega) x hx
def Psa (n:Nat) (hn:n≤1000000000):Ao (Qc n):=E3a 4 n (by omega)
def E4a (s:ByteArray):Ao (bytesOf s):=by
 intro x hx
 unfold bytesOf at hx
 obtain⟨b,_,rfl⟩:=Zc.1 hx
 have:=b.toNat_lt
 omega
def Rg (s:ByteArray):(bytesOf s).length=s.size:=by
 unfold bytesOf
 rw[Wf]
 exact Yx
def W9 (s:ByteArray):M9 (bytesOf s)=s:=by
 unfold M9 bytesOf
 rw[Ihb]
 have:(λ n:Int=>UInt8.ofNat n.toNat) ∘ (λ b:UInt8=>(b.toNat:Int))=id:=by
  funext b
  show UInt8.ofNat ((b.toNat:Int)).toNat=b
  rw[Va]
  exact UInt8.ofNat_toNat
 rw[this,List.map_id]
def Pd {l:List Int} (h:Ao l):bytesOf (M9 l)=l:=by
 unfold M9 bytesOf
 show List.map _ (List.map _ l)=l
 rw[Ihb]
 have:∀ x∈l,((λ b:UInt8=>(b.toNat:Int)) ∘ (λ n:Int=>UInt8.ofNat n.toNat)) x=x:=by
  intro x hx
  have hb:=h x hx
  show ((UInt8.ofNat x.toNat).toNat:Int)=x
  rw[UInt8.toNat_ofNat']
  omega
 exact(Hwb this).trans (List.map_id' l)
def Pk (l:List Int):(M9 l).size=l.length:=by
 unfold M9
 show (List.map _ l).toArray.size=l.length
 simp
def txt (s:ByteArray):List Int:=Qc (Bv (s.size:Int))++bytesOf s
def Xua (out:List Int) (s:ByteArray) (hl:out.length≤1000000000000) (hs:s.size≤1000000000000):Tot (λ k=>Kf k out s) (λ r=>r=out++txt s):=by
 unfold Kf txt
 refine Hfb (C1a out _ hl) ?_
 have:=(Nz (Bv (s.size:Int))).1
 refine Hbb (by simp only[Ve];omega) (H3b ?_)
 rw[Vp]
def Xva (out:List Int) (s:ByteArray) (hl:out.length≤1000000000000) (hs:s.size≤1000000000000):Tot (λ k=>Kk k out s) (λ r=>r=out++txt s):=by
 unfold Kk txt
 refine Hfb (C2a out _ hl) ?_
 have:=(Nz (Bv (s.size:Int))).1
 refine Hbb (by simp only[Ve];omega) (H3b ?_)
 rw[Vp]
def Nqa (l:List Int) (p:Nat):Option (ByteArray×Nat):=match Qf l p with
 |some (n,q)=>if q+n≤l.length then some (M9 ((l.drop q).take n),q+n) else none
 |none=>none
def Dmb (l:List Int) (p:Int):ByteArray×Int×Bool:=if p<0 then ((⟨#[]⟩:ByteArray),0,false) else match Nqa l p.toNat with
 |some (s,q)=>(s,(q:Int),true)
 |none=>((⟨#[]⟩:ByteArray),0,false)
def E5a (l:List Int) (hb:Ao l) (p:Int):Kya l p=(0,0,false)∨∃ n q,0≤p∧Qf l p.toNat=some (n,q)∧Kya l p=((n:Int),(q:Int),true)∧n≤1000000000∧q≤l.length:=by
 unfold Kya
 by_cases h:p<0
 ·rw[if_pos h];exact .inl rfl
 ·rw[if_neg h]
  cases hg:Qf l p.toNat with
  |none=>exact .inl rfl
  |some nq=>
   obtain⟨n,q⟩:=nq
   have:=Uf hb hg
   exact .inr ⟨n,q,by omega,rfl,rfl,this.2.1,this.2.2.2⟩
def Nra (l:List Int) (hb:Ao l) (hl:l.length≤1000000000000) (p:Int) (hp:p≤1000000000000):Tot (λ k=>Ke k l p) (λ r=>r=Dmb l p):=by
 unfold Ke
 refine Hfb (Tna l hb hl p hp) ?_
 unfold Dmb Nqa
 rcases E5a l hb p with h|⟨n,q,h0,hg,h,hn,hq⟩
 ·rw[h]
  refine H6b rfl (H3b ?_)
  unfold Kya at h
  split
  ·rfl
  ·rename_i h0
   rw[if_neg h0]at h
   cases hg:Qf l p.toNat with
   |none=>rfl
   |some nq=>rw[hg]at h;simp at h
 ·rw[h]
  refine H5b rfl ?_
  rw[if_neg (by omega),hg]
  simp only
  rw[w64 (n:=(l.length:Int)-(q:Int)) (by omega) (by omega),w64 (n:=(q:Int)+(n:Int)) (by omega) (by omega)]
  refine Hab (λ hgt=>?_) (λ hgt=>?_)
  ·rw[if_neg (by omega)]
   exact H3b rfl
  ·rw[if_pos (by omega)]
   refine H7b (by omega) (H7b (by omega) (H7b (by omega) (H3b ?_)))
   rw[show toNat ((q:Int)+(n:Int))=q+n by omega,Va,Ifb,show q+n-q=n by omega]
   simp only[Vy,true_and,and_true]
   push_cast
   rfl
def Fja (l:List Int) (hb:Ao l) (hl:l.length≤1000000000000) (p:Int):Tot (λ k=>Kj k l p) (λ r=>r=Dmb l p):=by
 unfold Kj
 refine Hfb (Xv l hb hl p) ?_
 unfold Dmb Nqa
 rcases E5a l hb p with h|⟨n,q,h0,hg,h,hn,hq⟩
 ·rw[h]
  refine H6b rfl (H3b ?_)
  unfold Kya at h
  split
  ·rfl
  ·rename_i h0
   rw[if_neg h0]at h
   cases hg:Qf l p.toNat with
   |none=>rfl
   |some nq=>rw[hg]at h;simp at h
 ·rw[h]
  refine H5b rfl ?_
  rw[if_neg (by omega),hg]
  simp only
  rw[w64 (n:=(l.length:Int)-(q:Int)) (by omega) (by omega),w64 (n:=(q:Int)+(n:Int)) (by omega) (by omega)]
  refine Hab (λ hgt=>?_) (λ hgt=>?_)
  ·rw[if_neg (by omega)]
   exact H3b rfl
  ·rw[if_pos (by omega)]
   refine H7b (by omega) (H7b (by omega) (H7b (by omega) (H3b ?_)))
   rw[show toNat ((q:Int)+(n:Int))=q+n by omega,Va,Ifb,show q+n-q=n by omega]
   simp only[Vy,true_and,and_true]
   push_cast
   rfl
def Kza {l:List Int} {p q:Nat} {s:ByteArray} (hb:Ao l) (h:Nqa l p=some (s,q)):l.drop p=txt s++l.drop q∧s.size≤1000000000∧p<q∧q≤l.length:=by
 unfold Nqa at h
 split at h
 ·rename_i n q0 hg
  obtain⟨h1,h2,h3,h4⟩:=Uf hb hg
  split at h
  ·rename_i hle
   simp only[Vg,Vy]at h
   obtain⟨rfl,rfl⟩:=h
   have hlen:((l.drop q0).take n).length=n:=by rw[Vs,We];omega
   have hbb:Ao ((l.drop q0).take n):=λ x hx=>hb x (Zm (Htb hx))
   refine⟨?_,by rw[Pk,hlen];exact h2,by omega,by omega⟩
   unfold txt
   rw[Pk,hlen,Pd hbb,h1,show Bv (n:Int)=n by unfold Bv;omega,Vp]
   congr 1
   rw[← Yp,Wq]
  ·cases h
 ·cases h
def Xwa (pre:List Int) (s:ByteArray) (rest:List Int) (hs:s.size≤1000000000):Nqa (pre++(txt s++rest)) pre.length=some (s,pre.length+(txt s).length):=by
 unfold Nqa txt
 have hc:Bv (s.size:Int)=s.size:=by unfold Bv;omega
 rw[hc,Vp,Noa pre s.size _ hs]
 simp only
 rw[if_pos (by simp only[Ve,Rg];omega)]
 have e:(pre++(Qc s.size++(bytesOf s++rest))).drop (pre.length+(Qc s.size).length)=bytesOf s++rest:=by
  rw[← Vp,← Ve,Zi]
 rw[e,Jmb (Rg s),W9]
 simp only[Ve,Rg,Vg,Vy,true_and]
 omega

def Fka (b:Bool):Int:=bif b then 1 else 0
def Ccb (b:Bool):Oz b=some (Fka b):=by cases b<;>rfl
def Xxa (b:Bool):M6 b=some (Fka b):=by cases b<;>rfl
def Qra (s:Stp):List Int:=Qc (Bv s.1)++(Qc (Bv s.2.1)++Qc (Bv s.2.2))
def Nsa (s:Stp):(Qra s).length≤15:=by
 unfold Qra
 have h1:=(Nz (Bv s.1)).1
 have h2:=(Nz (Bv s.2.1)).1
 have h3:=(Nz (Bv s.2.2)).1
 simp only[Ve]
 omega
def Pta (out:List Int) (s:Stp) (b:Bool) (hl:out.length≤999999999900):Tot (λ k=>J9 k out s b) (λ r=>r=out++(Qra s++Qc (Bv (Fka b)))):=by
 have h1:=(Nz (Bv s.1)).1
 have h2:=(Nz (Bv s.2.1)).1
 have h3:=(Nz (Bv s.2.2)).1
 unfold J9 Qra
 refine Hfb (C1a out s.1 (by omega)) ?_
 refine Hfb (C1a _ s.2.1 (by simp only[Ve];omega)) ?_
 refine Hfb (C1a _ s.2.2 (by simp only[Ve];omega)) ?_
 refine Hfb (Hhb (Q:=λ y=>y=Fka b) (Ccb b) rfl) ?_
 refine Hfb (C1a _ (Fka b) (by simp only[Ve];omega)) ?_
 exact H3b (by simp only[Vp])
def Pua (out:List Int) (s:Stp) (hl:out.length≤999999999900):Tot (λ k=>Kl k out s) (λ r=>r=out++Qra s):=by
 have h1:=(Nz (Bv s.1)).1
 have h2:=(Nz (Bv s.2.1)).1
 unfold Kl Qra
 refine Hfb (C2a out s.1 (by omega)) ?_
 refine Hfb (C2a _ s.2.1 (by simp only[Ve];omega)) ?_
 refine Hfb (C2a _ s.2.2 (by simp only[Ve];omega)) ?_
 exact H3b (by simp only[Vp])
def C3a {s:ByteArray} (h:B2 s=true):1≤s.size∧s.size≤20:=by
 unfold B2 at h
 rw[Vb,Cf]at h
 omega
def E6a {r:Row} (h:Ou r=true):B2 r.1=true:=by
 unfold Ou at h
 rw[Vb]at h
 exact h.1
def Cdb (s:ByteArray):(txt s).length≤5+s.size:=by
 have h1:=(Nz (Bv (s.size:Int))).1
 unfold txt
 simp only[Ve,Rg]
 omega

def Apa (l:List Int) (p:Nat):Kya l (p:Int)=match Qf l p with
 |some (n,q)=>((n:Int),(q:Int),true)
 |none=>(0,0,false):=by
 unfold Kya
 rw[if_neg (by omega),Va]
 all_goals cases Qf l p<;>rfl
def Nta (l:List Int) (p:Nat):Dmb l (p:Int)=match Nqa l p with
 |some (s,q)=>(s,(q:Int),true)
 |none=>((⟨#[]⟩:ByteArray),0,false):=by
 unfold Dmb
 rw[if_neg (by omega),Va]
 all_goals cases Nqa l p<;>rfl
def D7a (l:List Int) (hb:Ao l) (hl:l.length≤1000000000000) (p:Nat) (hp:p≤l.length) (bad:Bool):
  Tot (λ k=>Dm k (l,(p:Int),bad)) (λ r=>(bad=false∧∃ n q:Nat,Qf l p=some (n,q)∧q≤l.length∧r=((n:Int),l,(q:Int),false))∨((bad=true∨Qf l p=none)∧r=(0,l,(p:Int),true))):=by
 unfold Dm
 refine Hfb (Tna l hb hl (p:Int) (by omega)) ?_
 refine H9b (λ h=>H3b (.inr ⟨.inl h,rfl⟩)) (λ h=>?_)
 rw[Apa]
 cases hg:Qf l p with
 |none=>exact H6b rfl (H3b (.inr ⟨.inr rfl,rfl⟩))
 |some nq=>
  obtain⟨n,q⟩:=nq
  simp only at h
  subst h
  exact H5b rfl (H3b (.inl ⟨rfl,n,q,rfl,(Uf hb hg).2.2.2,rfl⟩))
def G7b (l:List Int) (hb:Ao l) (hl:l.length≤1000000000000) (p:Nat) (hp:p≤l.length):
  Tot (λ k=>De k (l,(p:Int),false)) (λ r=>(∃ (s:ByteArray) (q:Nat),Nqa l p=some (s,q)∧q≤l.length∧r=(s,l,(q:Int),false))∨(Nqa l p=none∧r=((⟨#[]⟩:ByteArray),l,(p:Int),true))):=by
 unfold De
 refine Hfb (Nra l hb hl (p:Int) (by omega)) ?_
 refine H5b rfl ?_
 rw[Nta]
 cases hg:Nqa l p with
 |none=>exact H6b rfl (H3b (.inr ⟨rfl,rfl⟩))
 |some nq=>
  obtain⟨n,q⟩:=nq
  exact H5b rfl (H3b (.inl ⟨n,q,rfl,(Kza hb hg).2.2.2,rfl⟩))
def Rx (l:List Int) (p:Nat):Option ((Stp×Bool)×Nat):=
 (Qf l p).bind λ b=>(Qf l b.2).bind λ c=>(Qf l c.2).bind λ d=>(Qf l d.2).bind λ e=>bif decide (1<e.1) then none else
  some ((((b.1:Int),(c.1:Int),(d.1:Int)),(e.1:Int)==1),e.2)
def G8b (l:List Int) (hb:Ao l) (hl:l.length≤1000000000000) (p:Nat) (hp:p≤l.length) (bad:Bool):
  Tot (λ k=>Eh k (l,(p:Int),bad)) (λ r=>(bad=false∧∃ (x:Stp×Bool) (q:Nat),Rx l p=some (x,q)∧q≤l.length∧r=(x.1,x.2,l,(q:Int),false))∨((bad=true∨Rx l p=none)∧∃ s b,∃ q:Nat,q≤l.length∧r=(s,b,l,(q:Int),true))):=by
 unfold Eh
 have nx:∀ {o:Option (Nat×Nat)} {f:Nat×Nat→Option ((Stp×Bool)×Nat)},o=none→o.bind f=none:=by
  intro o f h;rw[h];rfl
 refine H4b (D7a l hb hl p hp bad) ?_
 rintro r (⟨h0,n1,p1,h1,l1,rfl⟩|⟨h1,rfl⟩)
 ·simp only
  refine H4b (D7a l hb hl p1 l1 false) ?_
  rintro r (⟨_,n2,p2,h2,l2,rfl⟩|⟨h2,rfl⟩)
  ·simp only
   refine H4b (D7a l hb hl p2 l2 false) ?_
   rintro r (⟨_,n3,p3,h3,l3,rfl⟩|⟨h3,rfl⟩)
   ·simp only
    refine H4b (D7a l hb hl p3 l3 false) ?_
    rintro r (⟨_,n4,p4,h4,l4,rfl⟩|⟨h4,rfl⟩)
    ·simp only
     refine H5b rfl (H3b ?_)
     have e:Rx l p=bif decide (1<n4) then none else some ((((n1:Int),(n2:Int),(n3:Int)),(n4:Int)==1),p4):=by
      unfold Rx
      simp only[h1,h2,h3,h4,Vn]
     cases hd:decide (1<n4) with
     |true=>
      rw[hd,cond_true]at e
      refine .inr ⟨.inr e,((n1:Int),(n2:Int),(n3:Int)),((n4:Int)==1),p4,l4,?_⟩
      have:decide ((n4:Int) > 1)=true:=decide_eq_true (by have:=of_decide_eq_true hd;omega)
      rw[this]
     |false=>
      rw[hd,cond_false]at e
      refine .inl ⟨h0,_,p4,e,l4,?_⟩
      have:decide ((n4:Int) > 1)=false:=decide_eq_false (by have:=of_decide_eq_false hd;omega)
      rw[this]
    ·refine H6b rfl (H3b (.inr ⟨.inr ?_,_,_,p3,l3,rfl⟩))
     have h4':=h4.resolve_left (by simp)
     unfold Rx
     simp only[h1,h2,h3,h4',Vn,I0b]
   ·simp only
    refine H4b (D7a l hb hl p2 l2 true) ?_
    rintro r (⟨hh,_⟩|⟨_,rfl⟩)
    ·cases hh
    ·refine H6b rfl (H3b (.inr ⟨.inr ?_,_,_,p2,l2,rfl⟩))
     have h3':=h3.resolve_left (by simp)
     unfold Rx
     simp only[h1,h2,h3',Vn,I0b]
  ·simp only
   refine H4b (D7a l hb hl p1 l1 true) ?_
   rintro r (⟨hh,_⟩|⟨_,rfl⟩)
   ·cases hh
   ·refine H4b (D7a l hb hl p1 l1 true) ?_
    rintro r (⟨hh,_⟩|⟨_,rfl⟩)
    ·cases hh
    ·refine H6b rfl (H3b (.inr ⟨.inr ?_,_,_,p1,l1,rfl⟩))
     have h2':=h2.resolve_left (by simp)
     unfold Rx
     simp only[h1,h2',Vn,I0b]
 ·simp only
  refine H4b (D7a l hb hl p hp true) ?_
  rintro r (⟨hh,_⟩|⟨_,rfl⟩)
  ·cases hh
  ·refine H4b (D7a l hb hl p hp true) ?_
   rintro r (⟨hh,_⟩|⟨_,rfl⟩)
   ·cases hh
   ·refine H4b (D7a l hb hl p hp true) ?_
    rintro r (⟨hh,_⟩|⟨_,rfl⟩)
    ·cases hh
    ·refine H6b rfl (H3b (.inr ⟨?_,_,_,p,hp,rfl⟩))
     rcases h1 with h1|h1
     ·exact .inl h1
     ·refine .inr ?_
      unfold Rx
      rw[h1]
      rfl
def Ceb (l:List Int) (hb:Ao l) (hl:l.length≤1000000000000) (p:Int):
  Tot (λ k=>Gq k l p) (λ r=>(∃ n1 p1 n2 p2 n3 p3,0≤p∧Qf l p.toNat=some (n1,p1)∧Qf l p1=some (n2,p2)∧Qf l p2=some (n3,p3)∧r=(((n1:Int),(n2:Int),(n3:Int)),(p3:Int),true))∨(((Qf l p.toNat).bind λ a=>(Qf l a.2).bind λ b=>Qf l b.2)=none∨p<0)∧r.2.2=false):=by
 unfold Gq
 refine Hfb (Xv l hb hl p) ?_
 refine Hfb (Xv l hb hl _) ?_
 refine Hfb (Xv l hb hl _) ?_
 by_cases hp:p<0
 ·have:(Kya l p).2.2=false:=by unfold Kya;rw[if_pos hp]
  exact H5b this (H3b (.inr ⟨.inr hp,rfl⟩))
 ·have e1:Kya l p=match Qf l p.toNat with|some (n,q)=>((n:Int),(q:Int),true)|none=>(0,0,false):=by
   unfold Kya;rw[if_neg hp];all_goals cases Qf l p.toNat<;>rfl
  cases h1:Qf l p.toNat with
  |none=>
   rw[h1]at e1
   simp only[e1]
   exact H5b rfl (H3b (.inr ⟨.inl rfl,rfl⟩))
  |some a=>
   obtain⟨n1,p1⟩:=a
   rw[h1]at e1
   simp only[e1,Apa,Vn]
   refine H6b rfl ?_
   cases h2:Qf l p1 with
   |none=>exact H5b rfl (H3b (.inr ⟨.inl rfl,rfl⟩))
   |some b=>
    obtain⟨n2,p2⟩:=b
    refine H6b rfl ?_
    simp only[Apa,Vn]
    cases h3:Qf l p2 with
    |none=>exact H3b (.inr ⟨.inl rfl,rfl⟩)
    |some c=>
     obtain⟨n3,p3⟩:=c
     exact H3b (.inl ⟨n1,p1,n2,p2,n3,p3,by omega,rfl,h2,h3,rfl⟩)
def Toa {l:List Int} {p:Nat} (h:((Qf l p).bind λ a=>(Qf l a.2).bind λ b=>Qf l b.2)=none):Rx l p=none:=by
 unfold Rx
 cases h1:Qf l p with
 |none=>rfl
 |some a=>
  rw[h1]at h
  simp only[Vn]at h ⊢
  cases h2:Qf l a.2 with
  |none=>rfl
  |some b=>
   rw[h2]at h
   simp only[Vn]at h ⊢
   rw[h]
   rfl
def I6a (a b:List Int) (hf:a.length≤1000000000000) (hl:a.length=b.length):∀ (n i:Nat),a.length-i=n→i≤a.length→
  Tot (λ k=>Et k a b (i:Int)) (λ r=>(r = .inr ()∧a.drop i=b.drop i)∨(r = .inl false∧a.drop i≠b.drop i)):=by
 intro n
 induction n with
 |zero=>
  intro i hd hi
  refine Tot.succ ?_
  simp only[Et]
  refine H8b (by omega) (H3b (.inl ⟨rfl,?_⟩))
  rw[Wa (by omega),Wa (by omega)]
 |succ n ih=>
  intro i hd hi
  have h1:i<a.length:=by omega
  refine Tot.succ ?_
  simp only[Et]
  refine H7b (by omega) (H7b (by omega) (H7b (by omega) (H7b (by omega) (H7b (by omega) ?_))))
  rw[show toNat (i:Int)=i from Va i,w64 (n:=(i:Int)+1) (by omega) (by omega),W8 h1,W8 (l:=b) (p:=i) (by omega)]
  refine H9b (λ h=>H3b (.inr ⟨rfl,?_⟩)) (λ h=>?_)
  ·intro e
   injection e with e _
   rw[e]at h
   simp at h
  ·have e:a.getD i 0=b.getD i 0:=by simpa using h
   refine(ih (i+1) (by omega) (by omega)).mono ?_
   rintro r (⟨rfl,h⟩|⟨rfl,h⟩)
   ·exact .inl ⟨rfl,by rw[e,h]⟩
   ·refine .inr ⟨rfl,λ q=>h ?_⟩
    injection q
def Fla (a b:List Int) (hf:a.length≤1000000000000):Tot (λ k=>H9 k a b) (λ r=>r=decide (a=b)):=by
 unfold H9
 refine H9b (λ h=>H3b ?_) (λ h=>?_)
 ·have:a≠b:=λ e=>by subst e;simp at h
  rw[decide_eq_false this]
 ·have hl:a.length=b.length:=by
   have:(a.length:Int)=b.length:=by simpa using h
   omega
  refine H4b (I6a a b hf hl _ 0 rfl (Vo _)) ?_
  rintro r (⟨rfl,h⟩|⟨rfl,h⟩)
  ·rw[Wh,Wh]at h
   rw[decide_eq_true h]
   exact H3b rfl
  ·rw[Wh,Wh]at h
   rw[decide_eq_false h]
   exact H3b rfl

def L0a:∀ s∈O9,Mo s∧B2 s=true:=by
 intro s hs
 simp only[O9,Vl,Hlb,or_false]at hs
 rcases hs with rfl|rfl|rfl|rfl|rfl|rfl<;>exact⟨by unfold Mo;decide,by decide⟩

abbrev Nmd:=ByteArray×List Int
abbrev Dsk:=List Nmd×List Nmd
def C3:Nmd:=((⟨#[]⟩:ByteArray),[])
def E7a (l:List Nmd):Prop:=l.length≤1000000000000∧∀ x∈l,x.2.length≤1000000000000
def Xya (d:Dsk):Prop:=E7a d.1∧E7a d.2
def Nk (l:List Int) (h:l.length≤1000000000000):Aj l=some l:=by
 unfold Aj
 rw[show Nat.ble ((length ([]:List Int)+length l)*1) 140737488355328=true from Zj (by simp only[Vj];omega)]
 rfl
def A7a (l:List Nmd) (hf:E7a l):∀ (n i:Nat) (acc:List Nmd),l.length-i=n→i≤l.length→acc.length≤i→
  Tot (λ k=>Db k acc l (l.length:Int) (i:Int)) (λ r=>r=acc++l.drop i):=by
 obtain⟨h1,h2⟩:=hf
 intro n
 induction n with
 |zero=>
  intro i acc hd hi ha
  refine Tot.succ ?_
  simp only[Db]
  refine H8b (by omega) (H3b ?_)
  rw[Wa (by omega),Wn]
 |succ n ih=>
  intro i acc hd hi ha
  have hlt:i<l.length:=by omega
  refine Tot.succ ?_
  simp only[Db]
  refine H7b (by omega) (H7b (by omega) (H7b (by omega) ?_))
  rw[show toNat (i:Int)=i from Va i,w64 (n:=(i:Int)+1) (by omega) (by omega),Ad (d:=C3) hlt]
  have e0:l.getD i ((⟨#[]⟩:ByteArray),([]:List Int))=l.getD i C3:=rfl
  rw[e0]
  have hb:=h2 _ (A3 (d:=C3) hlt)
  refine Hfb (Hhb (Q:=λ r=>r=(l.getD i C3).2) (Nk _ hb) rfl) ?_
  refine Hbb (by simp only[Vd,Vj];omega) ?_
  refine(ih (i+1) (acc++[l.getD i C3]) (by omega) (by omega) (by simp only[Ve,Vd,Vj];omega)).mono ?_
  rintro r rfl
  rw[Vp]
  rfl
def Pe (l:List Nmd) (hf:E7a l):Tot (λ k=>B5 k l) (λ r=>r=l):=by
 unfold B5
 refine H4b (A7a l hf _ 0 [] rfl (Vo _) (Vo _)) ?_
 intro r hr
 rw[Wh,Vx]at hr
 exact H3b hr
def J4 (d:Dsk) (hf:Xya d):Tot (λ k=>A4 k d) (λ r=>r=d):=by
 unfold A4
 refine Hfb (Pe d.1 hf.1) ?_
 refine Hfb (Pe d.2 hf.2) ?_
 exact H3b rfl
def fnd (l:List Nmd) (s:ByteArray):Option Nat:=l.findIdx? (λ x=>teq x.1 s)
def Cxa (l:List Nmd) (s:ByteArray):Int:=match fnd l s with
 |some i=>(i:Int)
 |none => -1
def Tpa (l:List Nmd) (s:ByteArray) (hf:l.length≤1000000000000):∀ (n i:Nat),l.length-i=n→i≤l.length→
  Tot (λ k=>Me k s l (l.length:Int) (i:Int)) (λ r=>r=match fnd (l.drop i) s with|some j => .inl ((i+j:Nat):Int)|none => .inr ()):=by
 intro n
 induction n with
 |zero=>
  intro i hd hi
  refine Tot.succ ?_
  simp only[Me]
  refine H8b (by omega) (H3b ?_)
  rw[Wa (by omega)]
  rfl
 |succ n ih=>
  intro i hd hi
  have hlt:i<l.length:=by omega
  refine Tot.succ ?_
  simp only[Me]
  refine H7b (by omega) (H7b (by omega) (H7b (by omega) ?_))
  rw[show toNat (i:Int)=i from Va i,w64 (n:=(i:Int)+1) (by omega) (by omega),Ad (d:=C3) hlt]
  have e0:l.getD i ((⟨#[]⟩:ByteArray),([]:List Int))=l.getD i C3:=rfl
  rw[e0]
  have e1:fnd (l.getD i C3::l.drop (i+1)) s=if teq (l.getD i C3).1 s then some 0 else (fnd (l.drop (i+1)) s).map (· + 1):=by
   unfold fnd
   rw[Izb]
  rw[e1]
  refine H9b (λ h=>?_) (λ h=>?_)
  ·have h':teq (l.getD i C3).1 s=true:=h
   rw[if_pos h']
   exact H3b rfl
  ·have h':¬ (teq (l.getD i C3).1 s=true):=by
    have:teq (l.getD i C3).1 s=false:=h
    rw[this];simp
   rw[if_neg h']
   refine(ih (i+1) (by omega) (by omega)).mono ?_
   rintro r rfl
   cases fnd (l.drop (i+1)) s with
   |none=>rfl
   |some j=>
    show Sum.inl _=Sum.inl _
    rw[show i+1+j=i+(j+1) by omega]
def Z2 (l:List Nmd) (s:ByteArray) (hf:l.length≤1000000000000):Tot (λ k=>Hb k l s) (λ r=>r=Cxa l s):=by
 unfold Hb Cxa
 refine Hfb (Tpa l s hf _ 0 rfl (Vo _)) ?_
 rw[Wh]
 cases fnd l s with
 |none=>exact H3b rfl
 |some j=>
  refine H3b ?_
  rw[Wl]
def Oa {l:List Nmd} {s:ByteArray} {i:Nat} (h:fnd l s=some i):i<l.length∧(l.getD i C3).1=s:=by
 unfold fnd at h
 rw[I3b]at h
 obtain⟨h1,h2,_⟩:=h
 refine⟨h1,?_⟩
 rw[Vc,Vk h1]
 exact Iw.1 h2
def del (l:List Nmd) (s:ByteArray):List Nmd:=match fnd l s with
 |some i=>l.take i++l.drop (i+1)
 |none=>l
def Wr (l:List Nmd) (s:ByteArray) (hf:l.length≤1000000000000):Tot (λ k=>I2 k l s) (λ r=>r=del l s):=by
 unfold I2 del
 refine Hfb (Z2 l s hf) ?_
 unfold Cxa
 cases h:fnd l s with
 |none=>exact H7b (by decide) (H3b rfl)
 |some i=>
  have hl:=(Oa h).1
  dsimp only
  refine H8b (by omega) (H7b (by omega) (H7b (by omega) ?_))
  rw[w64 (n:=(i:Int)+1) (by omega) (by omega),show toNat (i:Int)=i from Va i,show toNat ((i:Int)+1)=i+1 by omega]
  refine Hbb (by simp only[Vj,Vs];omega) ?_
  refine H7b (by omega) (H7b (by omega) (Hbb (by simp only[Ve,Vj,Vs,We];omega) (H3b rfl)))

def nOk (x:Nmd):Bool:=B2 x.1&&!(decide ((x.2.length:Int) > 400))
def chn:Option ByteArray→List Nmd→Bool
 |_,[]=>true
 |none,r::l=>nOk r&&chn (some r.1) l
 |some q,r::l=>nOk r&&(tlt q r.1&&chn (some r.1) l)
def Ka (l:List Nmd):Bool:=chn none l&&decide ((l.length:Int)≤60)
def B8 (d:Dsk):Bool:=Ka d.1&&Ka d.2
def Qt (l:List Nmd):Prop:=∀ x∈l,Mo x.1
def C4a (d:Dsk):Prop:=Qt d.1∧Qt d.2
def A8a (l:List Nmd):Nat→Option ByteArray
 |0=>none
 |i+1=>some (l.getD i C3).1
def Nua (l:List Nmd) (i:Nat) (h:i<l.length):chn (A8a l i) (l.drop i)=(nOk (l.getD i C3)&&(bif decide (0<i) then tlt (l.getD (i-1) C3).1 (l.getD i C3).1 else true)&&chn (A8a l (i+1)) (l.drop (i+1))):=by
 rw[Ad (d:=C3) h]
 cases i with
 |zero=>simp[A8a,chn]
 |succ i=>simp[A8a,chn,Kib]
def I7a (l:List Nmd) (hf:l.length≤1000000000000) (hs:Qt l):∀ (n i:Nat),l.length-i=n→i≤l.length→
  Tot (λ k=>Ff k l l (l.length:Int) (i:Int)) (λ r=>r=bif chn (A8a l i) (l.drop i) then .inr l else .inl false):=by
 intro n
 induction n with
 |zero=>
  intro i hn hi
  refine Tot.succ ?_
  simp only[Ff]
  refine H8b (by omega) (H3b ?_)
  rw[Wa (by omega)]
  cases A8a l i<;>rfl
 |succ n ih=>
  intro i hn hi
  have hlt:i<l.length:=by omega
  refine Tot.succ ?_
  simp only[Ff]
  refine H7b (by omega) (H7b (by omega) (H7b (by omega) ?_))
  rw[show toNat (i:Int)=i from Va i,w64 (n:=(i:Int)+1) (by omega) (by omega),Nua l i hlt]
  have h1:=ih (i+1) (by omega) (by omega)
  have e:(((i+1:Nat)):Int)=(i:Int)+1:=by omega
  rw[e]at h1
  have e0:l.getD i ((⟨#[]⟩:ByteArray),([]:List Int))=l.getD i C3:=rfl
  rw[e0]
  refine Hfb (Pc (l.getD i C3).1 (hs _ (A3 hlt))) ?_
  cases hb:B2 (l.getD i C3).1
  ·exact H6b rfl (H3b (by rw[show nOk (l.getD i C3)=false by unfold nOk;rw[hb];rfl];rfl))
  refine H5b rfl ?_
  refine Hab (λ h4=>H3b (by rw[show nOk (l.getD i C3)=false by unfold nOk;rw[decide_eq_true h4,hb];rfl];rfl)) (λ h4=>?_)
  have hnk:nOk (l.getD i C3)=true:=by unfold nOk;rw[hb,decide_eq_false h4];rfl
  rw[hnk,Wd]
  refine Hab (λ h0=>?_) (λ h0=>?_)
  ·rw[w64 (n:=(i:Int)-1) (by omega) (by omega)]
   refine H7b (by omega) (H7b (by omega) ?_)
   rw[show toNat ((i:Int)-1)=i-1 by omega,decide_eq_true (show 0<i by omega),cond_true]
   refine H9b (λ ht=>?_) (λ ht=>?_)
   ·have ht':(!(tlt (l.getD (i-1) C3).1 (l.getD i C3).1))=true:=ht
    rw[Vw]at ht'
    exact H3b (by rw[ht'];rfl)
   ·have ht':(!(tlt (l.getD (i-1) C3).1 (l.getD i C3).1))=false:=ht
    rw[Wo]at ht'
    rw[ht',Wd]
    exact h1
  ·rw[decide_eq_false (show ¬ 0<i by omega),cond_false,Wd]
   exact h1
def I8a (l:List Nmd) (hf:l.length≤1000000000000) (hs:Qt l):∀ (n i:Nat),l.length-i=n→i≤l.length→
  Tot (λ k=>H4 k l (i:Int)) (λ r=>r=bif chn (A8a l i) (l.drop i) then .inr l else .inl false):=by
 intro n
 induction n with
 |zero=>
  intro i hn hi
  refine Tot.succ ?_
  simp only[H4]
  refine H8b (by omega) (H3b ?_)
  rw[Wa (by omega)]
  cases A8a l i<;>rfl
 |succ n ih=>
  intro i hn hi
  have hlt:i<l.length:=by omega
  refine Tot.succ ?_
  simp only[H4]
  refine H7b (by omega) (H7b (by omega) (H7b (by omega) ?_))
  rw[show toNat (i:Int)=i from Va i,w64 (n:=(i:Int)+1) (by omega) (by omega),Nua l i hlt]
  have h1:=ih (i+1) (by omega) (by omega)
  have e:(((i+1:Nat)):Int)=(i:Int)+1:=by omega
  rw[e]at h1
  have e0:l.getD i ((⟨#[]⟩:ByteArray),([]:List Int))=l.getD i C3:=rfl
  rw[e0]
  refine Hfb (W4 (l.getD i C3).1 (hs _ (A3 hlt))) ?_
  cases hb:B2 (l.getD i C3).1
  ·exact H6b rfl (H3b (by rw[show nOk (l.getD i C3)=false by unfold nOk;rw[hb];rfl];rfl))
  refine H5b rfl (H7b (by omega) (H7b (by omega) ?_))
  refine Hab (λ h4=>H3b (by rw[show nOk (l.getD i C3)=false by unfold nOk;rw[decide_eq_true h4,hb];rfl];rfl)) (λ h4=>?_)
  have hnk:nOk (l.getD i C3)=true:=by unfold nOk;rw[hb,decide_eq_false h4];rfl
  rw[hnk,Wd]
  refine Hab (λ h0=>?_) (λ h0=>?_)
  ·rw[w64 (n:=(i:Int)-1) (by omega) (by omega)]
   refine H7b (by omega) (H7b (by omega) (H7b (by omega) (H7b (by omega) ?_)))
   rw[show toNat ((i:Int)-1)=i-1 by omega,decide_eq_true (show 0<i by omega),cond_true]
   refine H9b (λ ht=>?_) (λ ht=>?_)
   ·have ht':(!(tlt (l.getD (i-1) C3).1 (l.getD i C3).1))=true:=ht
    rw[Vw]at ht'
    exact H3b (by rw[ht'];rfl)
   ·have ht':(!(tlt (l.getD (i-1) C3).1 (l.getD i C3).1))=false:=ht
    rw[Wo]at ht'
    rw[ht',Wd]
    exact h1
  ·rw[decide_eq_false (show ¬ 0<i by omega),cond_false,Wd]
   exact h1
def I9a (l:List Nmd) (hf:l.length≤1000000000000) (hs:Qt l):Tot (λ k=>F5 k l) (λ r=>r=Ka l):=by
 unfold F5 Ka
 refine Hfb (I7a l hf hs _ 0 rfl (Vo _)) ?_
 rw[Wh]
 show Tot _ (λ r=>r=(chn none l&&_))
 cases hc:chn none l with
 |true=>rw[show chn (A8a l 0) l=true from hc];exact H3b (by rw[Wd])
 |false=>rw[show chn (A8a l 0) l=false from hc];exact H3b rfl
def Iaa (l:List Nmd) (hf:l.length≤1000000000000) (hs:Qt l):Tot (λ k=>Gu k l) (λ r=>r=Ka l):=by
 unfold Gu Ka
 refine Hfb (I8a l hf hs _ 0 rfl (Vo _)) ?_
 rw[Wh]
 show Tot _ (λ r=>r=(chn none l&&_))
 cases hc:chn none l with
 |true=>rw[show chn (A8a l 0) l=true from hc];exact H3b (by rw[Wd])
 |false=>rw[show chn (A8a l 0) l=false from hc];exact H3b rfl
def Q3 (d:Dsk) (hf:Xya d) (hs:C4a d):Tot (λ k=>Av k d) (λ r=>r=B8 d):=by
 unfold Av B8
 refine Hfb (I9a d.1 hf.1.1 hs.1) ?_
 cases h:Ka d.1
 ·exact H5b rfl (H3b rfl)
 refine H6b rfl (Hfb (I9a d.2 hf.2.1 hs.2) ?_)
 exact H3b (by rw[Wd])
def plc (l:List Nmd) (s:ByteArray):Nat:=(l.takeWhile (λ y=>tlt y.1 s)).length
def ins (l:List Nmd) (x:Nmd):List Nmd:=l.take (plc l x.1)++[x]++l.drop (plc l x.1)
def A9b (l:List Nmd) (s:ByteArray):plc l s≤l.length:=(K7b _).length_le
def L1a (l:List Nmd) (s:ByteArray) (b:List Int) (hf:l.length≤1000000000000):∀ (n i:Nat),l.length-i=n→i≤l.length→
  Tot (λ k=>Ll k l (i:Int) s b) (λ r=>r=(l,((i+plc (l.drop i) s:Nat):Int),s,b)):=by
 intro n
 induction n with
 |zero=>
  intro i hd hi
  refine Tot.succ ?_
  simp only[Ll]
  refine H8b (by omega) (H3b ?_)
  rw[Wa (by omega)]
  rfl
 |succ n ih=>
  intro i hd hi
  have hlt:i<l.length:=by omega
  refine Tot.succ ?_
  simp only[Ll]
  refine H7b (by omega) (H7b (by omega) (H7b (by omega) ?_))
  rw[show toNat (i:Int)=i from Va i,w64 (n:=(i:Int)+1) (by omega) (by omega),Ad (d:=C3) hlt]
  have e0:l.getD i ((⟨#[]⟩:ByteArray),([]:List Int))=l.getD i C3:=rfl
  rw[e0]
  have e1:plc (l.getD i C3::l.drop (i+1)) s=if tlt (l.getD i C3).1 s then plc (l.drop (i+1)) s+1 else 0:=by
   unfold plc
   rw[Zs]
   split<;>rfl
  rw[e1]
  refine H9b (λ h=>?_) (λ h=>?_)
  ·have h':tlt (l.getD i C3).1 s=true:=h
   rw[if_pos h']
   refine(ih (i+1) (by omega) (by omega)).mono ?_
   rintro r rfl
   rw[show i+1+plc (l.drop (i+1)) s=i+(plc (l.drop (i+1)) s+1) by omega]
  ·have h':¬ (tlt (l.getD i C3).1 s=true):=by
    have:tlt (l.getD i C3).1 s=false:=h
    rw[this];simp
   rw[if_neg h']
   exact H3b rfl
def Nva (l:List Nmd) (x:Nmd) (hf:l.length≤1000000000000):Tot (λ k=>Mt k l x) (λ r=>r=ins l x):=by
 unfold Mt ins
 refine H4b (L1a l x.1 x.2 hf _ 0 rfl (Vo _)) ?_
 intro r hr
 rw[Wh,Wl]at hr
 subst hr
 have hp:=A9b l x.1
 dsimp only
 refine H7b (by omega) (H7b (by omega) ?_)
 rw[show toNat ((plc l x.1:Nat):Int)=plc l x.1 from Va _]
 refine Hbb (by simp only[Vj,Vs];omega) ?_
 refine Hbb (by simp only[Ve,Vj,Vs,Vd];omega) ?_
 refine H7b (by omega) (H7b (by omega) (Hbb (by simp only[Ve,Vj,Vs,We,Vd];omega) (H3b ?_)))
 rw[Vx]

end Go.Proofs.YtmhhjceoinoekaaGreat.Vf
