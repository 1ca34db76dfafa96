import Derived.Test.YtiiekghlhfbmmaaGreatMak
import Derived.Laws.StructEq
set_option linter.all false
namespace Go.Proofs.YtiiekghlhfbmmaaGreat.Vf
open Go
open List (length getD)
open Int (toNat)
open Go.IntKind (wrap)
open BitVec (ofInt)
def Vc:=@Int.toNat_natCast
def Vx:=@Bool.true_and
def We:=@List.drop_length
def Wj:=@List.drop_of_length_le
def Yb:=@Bool.not_eq_false'
def Ys:=@List.mem_or_eq_of_mem_set
def Yv:=@Bool.false_and
def Ze:=@List.mem_iff_getElem
def Zj:=@List.pairwise_iff_getElem
def Zp:=@List.takeWhile_cons
def Hjb:=@List.not_mem_nil
def Hkb:=@Nat.pow_succ
def Hmb:=@Int.fdiv_eq_ediv_of_nonneg
def Hxb:=@Int.tdiv_eq_ediv_of_nonneg
def I0b:=@Option.bind_none
def Iab:=@List.find?_cons
def Ifb:=@Sum.elim_inr
def Irb:=@List.getElem_of_mem
def J2b:=@IntKind.wrap_u8
def J3b:=@List.findIdx?_cons
def J4b:=@List.findIdx?_eq_some_iff_getElem
def Jdb:=@List.Pairwise.sublist
def Jeb:=@Nat.and_two_pow_sub_one_eq_mod
def K0b:=@List.mem_of_find?_eq_some
def K1b:=@Nat.mul_le_mul
def K4b:=@List.take_sublist
def K9b:=@List.getElem_set
def Kab:=@List.takeWhile_sublist
def Kdb:=@Bool.and_eq_false_iff
def Knb:=@Nat.mul_comm

abbrev Cur:=List Int×Int×Int
def Lj (c:Cur):Prop:=(c.1.length:Int)≤1048576∧0≤c.2.1∧c.2.1≤1048576
def Oda (b:List Int) (hb:(b.length:Int)≤1048576):∀ (n:Nat) (h i:Int),0≤i→i+n=4001→Tot (λ k=>Hz k b h i) (λ r=>r.1=b):=by
 intro n
 induction n with
 |zero=>
  intro h i h0 hi
  refine Tot.succ ?_
  simp only[Hz]
  refine H8b (λ h1=>?_) (λ h1=>H1b rfl)
  exact H6b (by omega) (H1b rfl)
 |succ n ih=>
  intro h i h0 hi
  refine Tot.succ ?_
  simp only[Hz]
  refine H8b (λ h1=>?_) (λ h1=>H1b rfl)
  refine H8b (λ h2=>?_) (λ h2=>H1b rfl)
  refine H5b h0 (H5b h1 ?_)
  rw[w64 (n:=i+1) (by omega) (by omega)]
  exact ih _ _ (by omega) (by omega)
def S8a (b:List Int) (hb:(b.length:Int)≤1048576):Tot (λ k=>Jw k b) Lj:=by
 unfold Jw
 refine H2b (Oda b hb 4001 _ 0 (by omega) (by omega)) (λ r hr=>?_)
 exact H1b ⟨by rw[hr];exact hb,Hnb 0,by show (0:Int)≤1048576;omega⟩
def R7 (c:Cur) (hc:Lj c):∃ x c',Fg c=some (x,c')∧0≤x∧x≤255∧Lj c':=by
 obtain⟨h1,h2,h3⟩:=hc
 unfold Fg
 by_cases hlt:c.2.1<(c.1.length:Int)
 ·simp only[hlt,h2,decide_true,cond_true]
  obtain⟨a1,a2⟩:=Lxa (wrap .i64 ((wrap .i64 ((ofInt (IntKind.bits .i64) (wrap .i64 ((ofInt (IntKind.bits .i64) (Int.fdiv (wrap .i64 ((wrap .i64 (c.2.2*6364136223846793005))+1442695040888963407)) (2 ^ (min (toNat 33) (IntKind.bits .i64)))) ^^^ ofInt (IntKind.bits .i64) (Int.fdiv (wrap .i64 ((wrap .i64 (c.2.2*6364136223846793005))+1442695040888963407)) (2 ^ (min (toNat 47) (IntKind.bits .i64))))).toNat)) &&& ofInt (IntKind.bits .i64) 255).toNat))+(wrap .i64 (getD c.1 (toNat c.2.1) (0:Int))))) 255 (by omega) (by omega)
  refine⟨_,_,rfl,a1,a2,h1,?_,?_⟩
  ·show 0≤wrap .i64 (c.2.1+1)
   rw[w64 (by omega) (by omega)]
   omega
  ·show wrap .i64 (c.2.1+1)≤1048576
   rw[w64 (by omega) (by omega)]
   omega
 ·simp only[hlt,decide_false,cond_false]
  obtain⟨a1,a2⟩:=Lxa (wrap .i64 ((ofInt (IntKind.bits .i64) (Int.fdiv (wrap .i64 ((wrap .i64 (c.2.2*6364136223846793005))+1442695040888963407)) (2 ^ (min (toNat 33) (IntKind.bits .i64)))) ^^^ ofInt (IntKind.bits .i64) (Int.fdiv (wrap .i64 ((wrap .i64 (c.2.2*6364136223846793005))+1442695040888963407)) (2 ^ (min (toNat 47) (IntKind.bits .i64))))).toNat)) 255 (by omega) (by omega)
  exact⟨_,_,rfl,a1,a2,h1,h2,h3⟩
def Jx (c:Cur) (hc:Lj c) (n:Int) (hn:n≤1000000000):∃ x c',A9 c n=some (x,c')∧0≤x∧(0<n→x<n)∧(n≤0→x=0)∧Lj c':=by
 unfold A9
 by_cases h0:n≤0
 ·exact⟨0,c,by simp only[h0,decide_true,cond_true],by omega,by omega,λ _=>rfl,hc⟩
 ·by_cases h1:n≤256
  ·obtain⟨x,c',e,b0,b1,k⟩:=R7 c hc
   have hz:¬ n=0:=by omega
   have:=S7a b0 (show 0<n by omega)
   exact⟨Int.tmod x n,c',by simp only[h0,h1,hz,decide_true,decide_false,cond_true,cond_false,e,Vs],this.1,λ _=>this.2,λ h=>by omega,k⟩
  ·obtain⟨x,c1,e1,b0,b1,k1⟩:=R7 c hc
   obtain⟨y,c2,e2,b2,b3,k2⟩:=R7 c1 k1
   obtain⟨z,c3,e3,b4,b5,k3⟩:=R7 c2 k2
   have hz:¬ n=0:=by omega
   have:=S7a (show 0≤x*65536+y*256+z by omega) (show 0<n by omega)
   refine⟨Int.tmod (x*65536+y*256+z) n,c3,?_,this.1,λ _=>this.2,λ h=>by omega,k3⟩
   simp only[h0,h1,hz,decide_false,cond_false,e1,e2,e3,Vs]
   rw[w64 (n:=x*65536) (by omega) (by omega),w64 (n:=y*256) (by omega) (by omega),w64 (n:=x*65536+y*256) (by omega) (by omega),w64 (n:=x*65536+y*256+z) (by omega) (by omega)]
def Lya {α:Type} {l:List α} {i:Int} {d:α} (h0:0≤i) (h1:i<(l.length:Int)):l.getD i.toNat d∈l:=by
 have h:i.toNat<l.length:=by omega
 rw[Vb,Vj h]
 exact Jfb h
def Pz (c:Cur) (hc:Lj c) (l:List Int) (hl:0<l.length) (hm:l.length≤2000000):∃ x c',Bx c l=some (x,c')∧x∈l∧Lj c':=by
 obtain⟨i,c',e,b0,b1,_,k⟩:=Jx c hc (l.length:Int) (by omega)
 have b1:=b1 (by omega)
 refine⟨l.getD i.toNat 0,c',?_,Lya b0 b1,k⟩
 unfold Bx
 simp only[e,Vs,b0,b1,decide_true,cond_true]
def Wta (c:Cur) (hc:Lj c) (l:List ByteArray) (hl:0<l.length) (hm:l.length≤2000000):∃ x c',Kk c l=some (x,c')∧x∈l∧Lj c':=by
 obtain⟨i,c',e,b0,b1,_,k⟩:=Jx c hc (l.length:Int) (by omega)
 have b1:=b1 (by omega)
 refine⟨l.getD i.toNat (⟨#[]⟩:ByteArray),c',?_,Lya b0 b1,k⟩
 unfold Kk
 simp only[e,Vs,b0,b1,decide_true,cond_true]
def Al (l:List Int):Prop:=∀ x∈l,0≤x∧x≤255
def Gha (m:Int) (hm:m≤1000):∀ (n:Nat) (l:List Int) (i:Int) (c:Cur),Lj c→0≤i→i≤max m 0→(max m 0)-i=n→(l.length:Int)=i→Al l→
  Tot (λ k=>Fn k m l i c.1 c.2.1 c.2.2) (λ r=>Lj r.2∧Al r.1∧(r.1.length:Int)=max m 0):=by
 intro n
 induction n with
 |zero=>
  intro l i c hc h0 h1 hn hl hb
  refine Tot.succ ?_
  simp only[Fn]
  refine H6b (by omega) (H1b ⟨hc,hb,by show (l.length:Int)=_;omega⟩)
 |succ n ih=>
  intro l i c hc h0 h1 hn hl hb
  refine Tot.succ ?_
  simp only[Fn]
  refine H5b (by omega) ?_
  obtain⟨x,c',e,b0,b1,k⟩:=R7 c hc
  refine Hdb (Heb (Q:=λ r=>r=(x,c')) e rfl) ?_
  refine H9b (by simp only[Vd,Vk];omega) ?_
  rw[w64 (n:=i+1) (by omega) (by omega)]
  refine ih _ _ c' k (by omega) (by omega) (by omega) (by simp only[Ve,Vd,Vk];omega) ?_
  intro y hy
  rcases Vn.1 hy with hy|hy
  ·exact hb y hy
  ·simp only[Vu]at hy
   subst hy
   exact Gga _
def Oea (c:Cur) (hc:Lj c):Tot (λ k=>Fp k c) (λ r=>Lj r.2∧Al r.1∧(r.1.length:Int)≤9):=by
 unfold Fp
 obtain⟨x,c',e,hx,k⟩:=Pz c hc [0,1,2,5,9] (by decide) (by decide)
 have hx':0≤x∧x≤9:=by
  simp only[Vl,Hjb,or_false]at hx
  omega
 refine Hdb (Heb (Q:=λ r=>r=(x,c')) e rfl) ?_
 refine H2b (Q:=λ r=>Lj r.2∧Al r.1∧(r.1.length:Int)≤9) ?_ (λ r hr=>H1b hr)
 unfold Fo
 refine H2b (Gha x (by omega) (max x 0-0).toNat [] 0 c' k (by omega) (by omega) (by omega) rfl (by intro y hy;simp at hy)) (λ r hr=>H1b ?_)
 exact⟨hr.1,hr.2.1,by show (r.1.length:Int)≤9;rw[hr.2.2];omega⟩
abbrev Stp:=Int×Int×Int
abbrev Row:=ByteArray×Stp×Bool×Int
abbrev Fil:=Stp×Bool×List Int
def Le:List ByteArray:=[(⟨#[97]⟩:ByteArray),(⟨#[98]⟩:ByteArray),(⟨#[99,97,116,47,49]⟩:ByteArray),(⟨#[99,97,116,47,50]⟩:ByteArray),(⟨#[100,111,103]⟩:ByteArray),(⟨#[120,45,49]⟩:ByteArray)]
def S9a (c:Cur) (hc:Lj c):∃ x c',Jp c=some (x,c')∧x∈Le∧Lj c':=by
 obtain⟨x,c',e,hx,k⟩:=Wta c hc Le (by decide) (by decide)
 exact⟨x,c',by unfold Jp;unfold Le at e;simp only[e,Vs],hx,k⟩

def Gia:∀ (a:List UInt8),Op.bytesLess a a=false
 |[]=>rfl
 |a::l=>by simp[Op.bytesLess,Gia l]
def Lza:∀ (a b c:List UInt8),Op.bytesLess a b=true→Op.bytesLess b c=true→Op.bytesLess a c=true
 |_,[],_,h,_=>by simp[Op.bytesLess]at h
 |_,_::_,[],_,h=>by simp[Op.bytesLess]at h
 |[],_::_,_::_,_,_=>rfl
 |a::x,b::y,c::z,h1,h2=>by
  simp only[Op.bytesLess,Zy,Va,decide_eq_true_eq,beq_iff_eq]at h1 h2 ⊢
  rcases h1 with h1|⟨rfl,h1⟩
  ·rcases h2 with h2|⟨rfl,h2⟩
   ·exact .inl (UInt8.lt_trans h1 h2)
   ·exact .inl h1
  ·rcases h2 with h2|⟨rfl,h2⟩
   ·exact .inl h2
   ·exact .inr ⟨rfl,Lza x y z h1 h2⟩
def Z7a:∀ (a b:List UInt8),Op.bytesLess a b=false→Op.bytesLess b a=false→a=b
 |[],[],_,_=>rfl
 |[],_::_,h,_=>by simp[Op.bytesLess]at h
 |_::_,[],_,h=>by simp[Op.bytesLess]at h
 |a::x,b::y,h1,h2=>by
  simp only[Op.bytesLess,Bool.or_eq_false_iff,Kdb,decide_eq_false_iff_not]at h1 h2
  have hab:a=b:=by
   have h3:=UInt8.not_lt.1 h1.1
   have h4:=UInt8.not_lt.1 h2.1
   exact UInt8.le_antisymm h4 h3
  subst hab
  rw[Z7a x y (h1.2.resolve_left (by simp)) (h2.2.resolve_left (by simp))]
def tlt (a b:ByteArray):Bool:=Op.bytesLess a.toList b.toList
def teq (a b:ByteArray):Bool:=a.toList==b.toList
def Cka {a b:ByteArray} (h:a.toList=b.toList):a=b:=by
 rw[ByteArray.toList_eq,ByteArray.toList_eq]at h
 obtain⟨⟨x⟩⟩:=a
 obtain⟨⟨y⟩⟩:=b
 simp only at h
 rw[h]
def Cu {a b:ByteArray}:teq a b=true↔a=b:=by
 unfold teq
 rw[beq_iff_eq]
 exact⟨Cka,λ h=>by rw[h]⟩
def Hs (a:ByteArray):tlt a a=false:=Gia _
def Mh {a b c:ByteArray} (h:tlt a b=true) (h':tlt b c=true):tlt a c=true:=Lza _ _ _ h h'
def Aca {a b:ByteArray} (h:tlt a b=false) (h':tlt b a=false):a=b:=Cka (Z7a _ _ h h')
def Tv {a b:ByteArray} (h:tlt a b=true):tlt b a=false:=by
 cases hb:tlt b a
 ·rfl
 have:=Mh h hb
 rw[Hs]at this
 cases this
def Gja (a b:ByteArray):(!(Op.bytesLess a.toList b.toList||a.toList==b.toList))=tlt b a:=by
 show (!(tlt a b||teq a b))=tlt b a
 cases h1:tlt a b
 case true=>rw[Tv h1];rfl
 cases h2:teq a b
 case true=>rw[Cu.1 h2,Hs];rfl
 cases h3:tlt b a
 case true=>rfl
 exfalso
 have:=Aca h1 h3
 rw[Cu.2 this]at h2
 cases h2
def sle (a b:Stp):Bool:=cond (a.1 != b.1) (decide (a.1<b.1)) (cond (a.2.1 != b.2.1) (decide (a.2.1<b.2.1)) (decide (a.2.2<b.2.2)))
def M0a (a b:Stp):Du a b=some (sle a b):=by
 unfold Du sle
 cases a.1 != b.1<;>cases a.2.1 != b.2.1<;>rfl
def Xq (a b:Stp):B9 a b=some (sle a b):=by
 unfold B9 sle
 cases a.1 != b.1<;>cases a.2.1 != b.2.1<;>rfl
def Ny {a b:Stp}:sle a b=true↔a.1<b.1∨(a.1=b.1∧(a.2.1<b.2.1∨(a.2.1=b.2.1∧a.2.2<b.2.2))):=by
 unfold sle
 by_cases h1:a.1=b.1
 ·by_cases h2:a.2.1=b.2.1
  ·simp[h1,h2]
  ·have:(a.2.1 != b.2.1)=true:=by simpa using h2
   simp[h1,this,h2]
 ·have:(a.1 != b.1)=true:=by simpa using h1
  simp[this,h1]
def Kr (a b:Row):Bool:=cond (!((a.2.1.1==b.2.1.1)&&((a.2.1.2.1==b.2.1.2.1)&&(a.2.1.2.2==b.2.1.2.2)))) (sle a.2.1 b.2.1) (cond (!(a.2.2.1==b.2.2.1)) b.2.2.1 (decide (a.2.2.2<b.2.2.2)))
def Jfa (a b:Row):J0 a b=some (Kr a b):=by
 unfold J0 Kr
 rw[M0a]
 cases (!((a.2.1.1==b.2.1.1)&&((a.2.1.2.1==b.2.1.2.1)&&(a.2.1.2.2==b.2.1.2.2))))<;>cases (!(a.2.2.1==b.2.2.1))<;>rfl
def Saa (a b:Row):Hx a b=some (Kr b a):=by
 unfold Hx Kr
 rw[Xq,BEq.comm (a:=a.2.1.1),BEq.comm (a:=a.2.1.2.1),BEq.comm (a:=a.2.1.2.2),BEq.comm (a:=a.2.2.1)]
 cases (!((b.2.1.1==a.2.1.1)&&((b.2.1.2.1==a.2.1.2.1)&&(b.2.1.2.2==a.2.1.2.2))))<;>cases (!(b.2.2.1==a.2.2.1))<;>rfl
def L6:Row:=((⟨#[]⟩:ByteArray),(((0:Int),((0:Int),(0:Int))),(false,(0:Int))))
def Su (s:ByteArray):List Row→Nat→Option Nat
 |[],_=>none
 |r::l,i=>bif teq r.1 s then some i else Su s l (i+1)
def Ul (l:List Row) (s:ByteArray):Nat→Nat
 |0=>0
 |k+1=>bif tlt s (l.getD k L6).1 then Ul l s k else k+1
def mrg (l:List Row) (x:Row):List Row:=match Su x.1 l 0 with
 |some i=>bif Kr (l.getD i L6) x then l.set i x else l
 |none=>l.take (Ul l x.1 l.length)++x::l.drop (Ul l x.1 l.length)
def Ada (l:List Row) (s:ByteArray):∀ k,Ul l s k≤k
 |0=>Vw _
 |k+1=>by
  unfold Ul
  cases tlt s (l.getD k L6).1 with
  |true=>have:=Ada l s k;simp only[cond_true];omega
  |false=>simp only[cond_false];omega
def Ru {s:ByteArray}:∀ (l:List Row) (i j:Nat),Su s l i=some j→i≤j∧j<i+l.length∧teq (l.getD (j-i) L6).1 s=true
 |[],i,j,h=>by simp[Su]at h
 |r::l,i,j,h=>by
  unfold Su at h
  cases ht:teq r.1 s with
  |true=>
   rw[ht]at h
   simp only[cond_true,Vg]at h
   subst h
   refine⟨Vw _,by simp,?_⟩
   rw[Ieb]
   exact ht
  |false=>
   rw[ht]at h
   simp only[cond_false]at h
   obtain⟨h1,h2,h3⟩:=Ru l (i+1) j h
   refine⟨by omega,by simp only[Vd];omega,?_⟩
   rw[show j-i=(j-(i+1))+1 by omega]
   exact h3
def Ah {α:Type} {l:List α} {i:Nat} {d:α} (h:i<l.length):l.drop i=l.getD i d::l.drop (i+1):=by
 rw[Zf h,Vb,Vj h]
 rfl
def Few (l:List Row):Prop:=l.length≤1000000000000
def Gka (x:Row):∀ (n:Nat) (l:List Row) (i:Nat),l.length-i=n→i≤l.length→Few l→
  Tot (λ k=>El k l (i:Int) x.1 x.2.1.1 x.2.1.2.1 x.2.1.2.2 x.2.2.1 x.2.2.2) (λ r=>r=match Su x.1 (l.drop i) i with
   |some j => .inl (bif Kr (l.getD j L6) x then l.set j x else l)
   |none => .inr (l,x.1,x.2.1.1,x.2.1.2.1,x.2.1.2.2,x.2.2.1,x.2.2.2)):=by
 intro n
 induction n with
 |zero=>
  intro l i hn hi hf
  unfold Few at hf
  refine Tot.succ ?_
  simp only[El]
  refine H6b (by omega) (H1b ?_)
  rw[Wj (by omega)]
  rfl
 |succ n ih=>
  intro l i hn hi hf
  have hf':=hf
  unfold Few at hf
  have hlt:i<l.length:=by omega
  refine Tot.succ ?_
  simp only[El]
  refine H5b (by omega) (H5b (by omega) (H5b (by omega) ?_))
  have e0:toNat (i:Int)=i:=Vc i
  rw[e0,Ah (d:=L6) hlt]
  refine H7b (λ ht=>?_) (λ ht=>?_)
  ·have ht':teq (l.getD i L6).1 x.1=true:=ht
   refine H5b (by omega) (H5b (by omega) ?_)
   refine Hdb (Heb (Q:=λ r=>r=Kr (l.getD i L6) x) (Jfa _ _) rfl) ?_
   simp only[Su,ht',cond_true]
   cases hb:Kr (l.getD i L6) x with
   |true=>exact H4b rfl (H5b (by omega) (H5b (by omega) (H1b rfl)))
   |false=>exact H3b rfl (H1b rfl)
  ·have ht':teq (l.getD i L6).1 x.1=false:=ht
   simp only[Su,ht',cond_false]
   rw[w64 (n:=(i:Int)+1) (by omega) (by omega)]
   exact ih l (i+1) (by omega) (by omega) hf'
def Gla (x:Row) (l0 l5:List Row) (h5:l5=l0):∀ (n:Nat) (i:Nat),l0.length-i=n→i≤l0.length→Few l0→
  Tot (λ k=>Ef k l0 l5 l0 (l0.length:Int) (i:Int) x.1 x.2.1.1 x.2.1.2.1 x.2.1.2.2 x.2.2.1 x.2.2.2) (λ r=>r=match Su x.1 (l0.drop i) i with
   |some j => .inl (bif Kr (l0.getD j L6) x then l0.set j x else l0)
   |none => .inr (l0,x.1,x.2.1.1,x.2.1.2.1,x.2.1.2.2,x.2.2.1,x.2.2.2)):=by
 subst h5
 intro n
 induction n with
 |zero=>
  intro i hn hi hf
  unfold Few at hf
  refine Tot.succ ?_
  simp only[Ef]
  refine H6b (by omega) (H1b ?_)
  rw[Wj (by omega)]
  rfl
 |succ n ih=>
  intro i hn hi hf
  have hf':=hf
  unfold Few at hf
  have hlt:i<l5.length:=by omega
  refine Tot.succ ?_
  simp only[Ef]
  refine H5b (by omega) (H5b (by omega) (H5b (by omega) ?_))
  have e0:toNat (i:Int)=i:=Vc i
  rw[e0,Ah (d:=L6) hlt]
  refine H7b (λ ht=>?_) (λ ht=>?_)
  ·have ht':teq (l5.getD i L6).1 x.1=true:=ht
   refine Hdb (Heb (Q:=λ r=>r=Kr (l5.getD i L6) x) (Saa _ _) rfl) ?_
   simp only[Su,ht',cond_true]
   cases hb:Kr (l5.getD i L6) x with
   |true=>exact H4b rfl (H5b (by omega) (H5b (by omega) (H1b rfl)))
   |false=>exact H3b rfl (H1b rfl)
  ·have ht':teq (l5.getD i L6).1 x.1=false:=ht
   simp only[Su,ht',cond_false]
   rw[w64 (n:=(i:Int)+1) (by omega) (by omega)]
   exact ih (i+1) (by omega) (by omega) hf'
def E1a (x:Row) (l:List Row) (hf:Few l):∀ (i:Nat),i≤l.length→
  Tot (λ k=>Di k l (i:Int) x.1 x.2.1.1 x.2.1.2.1 x.2.1.2.2 x.2.2.1 x.2.2.2) (λ r=>r=(l,(Ul l x.1 i:Int),x.1,x.2.1.1,x.2.1.2.1,x.2.1.2.2,x.2.2.1,x.2.2.2)):=by
 unfold Few at hf
 intro i
 induction i with
 |zero=>
  intro hi
  refine Tot.succ ?_
  simp only[Di]
  exact H6b (by omega) (H1b rfl)
 |succ i ih=>
  intro hi
  refine Tot.succ ?_
  simp only[Di]
  rw[w64 (n:=((i+1:Nat):Int)-1) (by omega) (by omega),show ((i+1:Nat):Int)-1=(i:Int) by omega,show toNat (i:Int)=i from Vc i]
  refine H5b (by omega) (H5b (by omega) (H5b (by omega) ?_))
  have e:∀ z,(!(Op.bytesLess (l.getD i z).1.toList x.1.toList||(l.getD i z).1.toList==x.1.toList))=tlt x.1 (l.getD i z).1:=λ z=>Gja _ _
  rw[e]
  have hc:Ul l x.1 (i+1)=bif tlt x.1 (l.getD i L6).1 then Ul l x.1 i else i+1:=rfl
  refine H7b (λ ht=>?_) (λ ht=>?_)
  ·have ht':tlt x.1 (l.getD i L6).1=true:=ht
   rw[hc,ht',cond_true]
   exact ih (by omega)
  ·have ht':tlt x.1 (l.getD i L6).1=false:=ht
   rw[hc,ht',cond_false]
   exact H1b rfl
def Tw (l:List Row) (hf:Few l):Aj l=some l:=by
 unfold Few at hf
 unfold Aj
 rw[Zo (by simp only[Vk];omega)]
 rfl
def Sba (l:List Row) (x:Row) (hf:Few l):Tot (λ k=>Cb k l x) (λ r=>r=mrg l x):=by
 have hf':=hf
 unfold Few at hf
 unfold Cb
 refine H2b (Heb (Q:=λ r=>r=l) (Tw l hf') rfl) ?_
 rintro r rfl
 refine H2b (Gla x r r rfl _ 0 rfl (Vp _) hf') ?_
 rintro y rfl
 rw[Wo]
 unfold mrg
 cases hfi:Su x.1 r 0 with
 |some j=>exact H1b rfl
 |none=>
  simp only[Ifb]
  refine H2b (E1a x r hf' r.length (Vw _)) ?_
  rintro z rfl
  have hc:=Ada r x.1 r.length
  simp only
  rw[show toNat ((Ul r x.1 r.length:Nat):Int)=Ul r x.1 r.length from Vc _]
  refine H5b (by omega) (H5b (by omega) ?_)
  have hft:Few (r.take (Ul r x.1 r.length)):=by unfold Few;rw[Vq];omega
  refine H2b (Heb (Q:=λ q=>q=r.take (Ul r x.1 r.length)) (Tw _ hft) rfl) ?_
  rintro q rfl
  refine H9b (by simp only[Vq,Vd,Vk];omega) ?_
  refine H5b (by omega) (H5b (by omega) (H9b (by simp only[Ve,Vq,Wc,Vd,Vk];omega) (H1b ?_)))
  rw[Vo]
  rfl
def E2a (x:Row) (l:List Row) (hf:Few l):∀ (i:Nat) (y:Row),i≤l.length→
  Tot (λ k=>Dp k (l.take i++y::l.drop i) (i:Int) x.1 x.2.1.1 x.2.1.2.1 x.2.1.2.2 x.2.2.1 x.2.2.2)
   (λ r=>∃ y',r=(l.take (Ul l x.1 i)++y'::l.drop (Ul l x.1 i),(Ul l x.1 i:Int),x.1,x.2.1.1,x.2.1.2.1,x.2.1.2.2,x.2.2.1,x.2.2.2)):=by
 unfold Few at hf
 intro i
 induction i with
 |zero=>
  intro y hi
  refine Tot.succ ?_
  simp only[Dp]
  exact H6b (by omega) (H1b ⟨y,rfl⟩)
 |succ i ih=>
  intro y hi
  refine Tot.succ ?_
  simp only[Dp]
  have hlen:(l.take (i+1)++y::l.drop (i+1)).length=l.length+1:=by simp only[Ve,Vq,Vd,Wc];omega
  have hget:∀ z,(l.take (i+1)++y::l.drop (i+1)).getD i z=l.getD i z:=by
   intro z
   rw[Vb,Vb,Yf (by rw[Vq];omega),List.getElem?_take_of_lt (by omega)]
  rw[w64 (n:=((i+1:Nat):Int)-1) (by omega) (by omega),show ((i+1:Nat):Int)-1=(i:Int) by omega,show toNat (i:Int)=i from Vc i,show toNat ((i+1:Nat):Int)=i+1 from Vc _,hget,hlen]
  refine H5b (by omega) (H5b (by omega) (H5b (by omega) ?_))
  have e:∀ z,(!(Op.bytesLess (l.getD i z).1.toList x.1.toList||(l.getD i z).1.toList==x.1.toList))=tlt x.1 (l.getD i z).1:=λ z=>Gja _ _
  rw[e]
  have hc:Ul l x.1 (i+1)=bif tlt x.1 (l.getD i L6).1 then Ul l x.1 i else i+1:=rfl
  refine H7b (λ ht=>?_) (λ ht=>?_)
  ·have ht':tlt x.1 (l.getD i L6).1=true:=ht
   rw[hc,ht',cond_true]
   refine H5b (by omega) (H5b (by omega) (H5b (by omega) (H5b (by omega) ?_)))
   have hset:(l.take (i+1)++y::l.drop (i+1)).set (i+1) (l.getD i ((⟨#[]⟩:ByteArray),(((0:Int),((0:Int),(0:Int))),(false,(0:Int)))))=l.take i++l.getD i L6::l.drop i:=by
    rw[List.set_append,if_neg (by rw[Vq];omega),Vq,Zx hi,Ieb,Jtb,Ah (d:=L6) (show i<l.length by omega)]
    rw[List.take_add_one,Vj (show i<l.length by omega)]
    simp only[Jvb,Vo,Ym]
    rw[Vb,Vb,Vj (show i<l.length by omega)]
    rfl
   rw[hset]
   exact ih _ (by omega)
  ·have ht':tlt x.1 (l.getD i L6).1=false:=ht
   rw[hc,ht',cond_false]
   exact H1b ⟨y,rfl⟩
def Sca (l:List Row) (x:Row) (hf:Few l):Tot (λ k=>Cf k l x) (λ r=>r=mrg l x):=by
 have hf':=hf
 unfold Few at hf
 unfold Cf
 refine H9b (by simp only[Vk];omega) ?_
 rw[Vy]
 refine Hdb (Gka x _ l 0 rfl (Vp _) hf') ?_
 rw[Wo]
 unfold mrg
 cases hfi:Su x.1 l 0 with
 |some j=>exact H1b rfl
 |none=>
  simp only[Ifb]
  refine H9b (by simp only[Vd,Vk];omega) ?_
  have h0:=E2a x l hf' l.length x (Vw _)
  rw[Yj,We]at h0
  refine H2b h0 ?_
  rintro z ⟨y',rfl⟩
  have hc:=Ada l x.1 l.length
  have hlen:(l.take (Ul l x.1 l.length)++y'::l.drop (Ul l x.1 l.length)).length=l.length+1:=by simp only[Ve,Vq,Vd,Wc];omega
  simp only
  rw[show toNat ((Ul l x.1 l.length:Nat):Int)=Ul l x.1 l.length from Vc _,hlen]
  refine H5b (by omega) (H5b (by omega) (H1b ?_))
  rw[List.set_append,if_neg (by rw[Vq];omega),Vq,Zx hc,Ieb,Jtb]

def Xr (a b:ByteArray):(a==b)=teq a b:=beq_toListBytes a b
def V8 {s:ByteArray}:∀ (l:List Row) (i:Nat),Su s l i=none→∀ r∈l,r.1≠s
 |[],_,_,r,hr=>by simp at hr
 |a::l,i,h,r,hr=>by
  unfold Su at h
  cases ht:teq a.1 s
  case true=>rw[ht]at h;simp at h
  rw[ht]at h
  rcases Vl.1 hr with rfl|hr
  ·intro e
   rw[Cu.2 e]at ht
   cases ht
  ·exact V8 l (i+1) h r hr
def Sda (l:List Row) (x:Row):l.length≤(mrg l x).length∧(mrg l x).length≤l.length+1:=by
 unfold mrg
 have hc:=Ada l x.1 l.length
 split
 ·cases Kr (l.getD _ L6) x<;>simp
 ·simp only[Ve,Vq,Vd,Wc]
  omega
def Sea {l:List Row} {x r:Row} (h:r∈mrg l x):r=x∨r∈l:=by
 unfold mrg at h
 split at h
 ·rename_i j hj
  cases hb:Kr (l.getD j L6) x
  ·rw[hb]at h;exact .inr h
  rw[hb,cond_true]at h
  rcases Ys h with h|h
  ·exact .inr h
  ·exact .inl h
 ·rcases Vn.1 h with h|h
  ·exact .inr (Hib h)
  ·rcases Vl.1 h with h|h
   ·exact .inl h
   ·exact .inr (Zr h)
def Gk (a:Stp):sle a a=false:=by
 cases h:sle a a with
 |false=>rfl
 |true=>rw[Ny]at h;omega
def Bj (l:List Row):Prop:=l.Pairwise (λ a b=>tlt a.1 b.1=true)
def Gma {l:List Row} {s:ByteArray} (hs:Bj l) (hn:∀ r∈l,r.1≠s):∀ k,k≤l.length→(∀ i,i<Ul l s k→tlt (l.getD i L6).1 s=true)∧(∀ i,Ul l s k≤i→i<k→tlt s (l.getD i L6).1=true)
 |0,_=>⟨λ i hi=>by simp[Ul]at hi,λ i _ hi=>by omega⟩
 |k+1,hk=>by
  unfold Ul
  cases ht:tlt s (l.getD k L6).1 with
  |true=>
   simp only[cond_true]
   obtain⟨h1,h2⟩:=Gma hs hn k (by omega)
   refine⟨h1,λ i hi hik=>?_⟩
   by_cases e:i=k
   ·subst e;exact ht
   ·exact h2 i hi (by omega)
  |false=>
   simp only[cond_false]
   refine⟨λ i hi=>?_,λ i hi hik=>by omega⟩
   have hget:∀ j (hj:j<l.length),l.getD j L6=l[j]:=λ j hj=>by rw[Vb,Vj hj];rfl
   have hkl:k<l.length:=by omega
   have hks:tlt (l.getD k L6).1 s=true:=by
    cases h:tlt (l.getD k L6).1 s
    case true=>rfl
    exfalso
    exact hn (l.getD k L6) (by rw[hget k hkl];exact Jfb hkl) (Aca h ht)
   by_cases e:i=k
   ·subst e;exact hks
   ·have h3:=(Zj.1 hs) i k (by omega) hkl (by omega)
    rw[hget i (by omega)]
    rw[hget k hkl]at hks
    exact Mh h3 hks
def Rv {l:List Row} {x:Row} (hs:Bj l):Bj (mrg l x):=by
 have hget:∀ j (hj:j<l.length),l.getD j L6=l[j]:=λ j hj=>by rw[Vb,Vj hj];rfl
 unfold mrg
 split
 ·rename_i j hj
  obtain⟨_,h2,h3⟩:=Ru l 0 j hj
  rw[Iwb]at h3
  have hjl:j<l.length:=by omega
  have hname:l[j].1=x.1:=by rw[← hget j hjl];exact Cu.1 h3
  cases hb:Kr (l.getD j L6) x
  ·exact hs
  rw[cond_true]
  unfold Bj
  rw[Zj]
  intro a b ha hb hab
  rw[Vv]at ha hb
  have:=(Zj.1 hs) a b ha hb hab
  rw[K9b,K9b]
  by_cases e1:j=a
  ·subst e1
   rw[if_pos rfl,if_neg (by omega),← hname]
   exact this
  ·rw[if_neg e1]
   by_cases e2:j=b
   ·subst e2
    rw[if_pos rfl,← hname]
    exact this
   ·rw[if_neg e2]
    exact this
 ·rename_i hj
  have hn:=V8 l 0 hj
  obtain⟨c1,c2⟩:=Gma hs hn l.length (Vw _)
  have hc:=Ada l x.1 l.length
  unfold Bj
  rw[Zg,Wh]
  refine⟨Jdb (K4b _ _) hs,⟨λ r hr=>?_,Jdb (List.drop_sublist _ _) hs⟩,λ r hr q hq=>?_⟩
  ·obtain⟨i,hi,rfl⟩:=Irb hr
   rw[Wc]at hi
   rw[List.getElem_drop,← hget _ (by omega)]
   exact c2 _ (by omega) (by omega)
  ·obtain⟨i,hi,rfl⟩:=Irb hr
   rw[Vq]at hi
   have h1:tlt (List.take (Ul l x.1 l.length) l)[i].1 x.1=true:=by
    rw[List.getElem_take,← hget _ (by omega)]
    exact c1 i (by omega)
   rcases Vl.1 hq with rfl|hq
   ·exact h1
   ·refine Mh h1 ?_
    obtain⟨m,hm,rfl⟩:=Irb hq
    rw[Wc]at hm
    rw[List.getElem_drop,← hget _ (by omega)]
    exact c2 _ (by omega) (by omega)

def inR (n lo hi:Int):Bool:=decide (n≥lo)&&decide (n≤hi)
def Tx (n lo hi:Int):E8 n lo hi=some (inR n lo hi):=by
 unfold E8 inR
 cases decide (n≥lo)<;>rfl
def Nz (n lo hi:Int):Aa n lo hi=some (inR n lo hi):=by
 unfold Aa inR
 cases decide (n≥lo)<;>rfl
def F9 {n lo hi:Int}:inR n lo hi=true↔lo≤n∧n≤hi:=by
 unfold inR
 simp
def Tz (c:Int):Bool:=inR c 97 122||(inR c 48 57||(!(c != 45)||(!(c != 95)||!(c != 47))))
def Lb (s:ByteArray):Prop:=s.size≤4611686018427387904
def Q0 (s:ByteArray):s.data.toList.length=s.size:=Zd
def Aea (s:ByteArray) (i:Int):0≤bt s i∧bt s i≤255:=by
 unfold bt
 have:=(s.data.toList.getD i.toNat 0).toNat_lt
 omega
def Eeb (s:ByteArray) (i:Nat) (h:i<s.size):bt s (i:Int)=((s.data.toList[i]'(by rw[Q0];exact h)).toNat:Int):=by
 unfold bt
 rw[Vc,Vb,Vj (by rw[Q0];exact h)]
 rfl
def bOk (b:UInt8):Bool:=Tz (b.toNat:Int)
def Jga (s:ByteArray) (hs:Lb s):∀ (n i:Nat),s.size-i=n→i≤s.size→
  Tot (λ k=>Am k s (i:Int)) (λ r=>r=bif (s.data.toList.drop i).all bOk then .inr s else .inl false):=by
 unfold Lb at hs
 have hsz:=Q0 s
 intro n
 induction n with
 |zero=>
  intro i hn hi
  refine Tot.succ ?_
  simp only[Am]
  refine H6b (by omega) (H1b ?_)
  rw[Wj (by omega)]
  rfl
 |succ n ih=>
  intro i hn hi
  have hlt:i<s.size:=by omega
  refine Tot.succ ?_
  simp only[Am]
  refine H5b (by omega) (H5b (by omega) (H5b (by omega) ?_))
  rw[w64 (n:=(i:Int)+1) (by omega) (by omega)]
  have hb:bOk (s.data.toList[i]'(by omega))=Tz (bt s (i:Int)):=by rw[Eeb s i hlt];rfl
  rw[Zf (by omega),I3b,hb]
  generalize bt s (i:Int)=c
  have h1:=ih (i+1) (by omega) (by omega)
  have e:(((i+1:Nat)):Int)=(i:Int)+1:=by omega
  rw[e]at h1
  cases hc:Tz c with
  |true=>
   rw[Vx]
   refine h1.mono (λ r hr=>hr) |> λ h=>?_
   obtain⟨r,K,h2,h3⟩:=h
   refine⟨r,K,λ k hk=>?_,h3⟩
   rw[← h2 k hk]
   unfold Tz inR at hc
   revert hc
   cases decide (c≥97)<;>cases decide (c≤122)<;>cases decide (c≥48)<;>cases decide (c≤57)<;>cases (c != 45)<;>cases (c != 95)<;>cases (c != 47)<;>first|(intro _;rfl)|(intro hc;cases hc)
  |false=>
   rw[Yv]
   refine⟨.inl false,0,λ k _=>?_,rfl⟩
   unfold Tz inR at hc
   revert hc
   cases decide (c≥97)<;>cases decide (c≤122)<;>cases decide (c≥48)<;>cases decide (c≤57)<;>cases (c != 45)<;>cases (c != 95)<;>cases (c != 47)<;>first|(intro _;rfl)|(intro hc;cases hc)
def Jha (s:ByteArray) (hs:Lb s):∀ (n i:Nat),s.size-i=n→i≤s.size→
  Tot (λ k=>Cv k s (i:Int)) (λ r=>r=bif (s.data.toList.drop i).all bOk then .inr s else .inl false):=by
 unfold Lb at hs
 have hsz:=Q0 s
 intro n
 induction n with
 |zero=>
  intro i hn hi
  refine Tot.succ ?_
  simp only[Cv]
  refine H6b (by omega) (H1b ?_)
  rw[Wj (by omega)]
  rfl
 |succ n ih=>
  intro i hn hi
  have hlt:i<s.size:=by omega
  have hbb:=Aea s (i:Int)
  refine Tot.succ ?_
  simp only[Cv]
  refine H5b (by omega) (H5b (by omega) (H5b (by omega) ?_))
  rw[w64 (n:=(i:Int)+1) (by omega) (by omega),w64 (n:=bt s (i:Int)) (by omega) (by omega)]
  have hb:bOk (s.data.toList[i]'(by omega))=Tz (bt s (i:Int)):=by rw[Eeb s i hlt];rfl
  rw[Zf (by omega),I3b,hb]
  generalize bt s (i:Int)=c
  have h1:=ih (i+1) (by omega) (by omega)
  have e:(((i+1:Nat)):Int)=(i:Int)+1:=by omega
  rw[e]at h1
  simp only[Nz,Vs]
  cases hc:Tz c with
  |true=>
   rw[Vx]
   obtain⟨r,K,h2,h3⟩:=h1
   refine⟨r,K,λ k hk=>?_,h3⟩
   rw[← h2 k hk]
   unfold Tz at hc
   revert hc
   cases inR c 97 122<;>cases inR c 48 57<;>cases (c != 45)<;>cases (c != 95)<;>cases (c != 47)<;>first|(intro _;rfl)|(intro hc;cases hc)
  |false=>
   rw[Yv]
   refine⟨.inl false,0,λ k _=>?_,rfl⟩
   unfold Tz at hc
   revert hc
   cases inR c 97 122<;>cases inR c 48 57<;>cases (c != 45)<;>cases (c != 95)<;>cases (c != 47)<;>first|(intro _;rfl)|(intro hc;cases hc)
def B0 (s:ByteArray):Bool:=s.data.toList.all bOk&&inR (s.size:Int) 1 20
def Q1 (s:ByteArray) (hs:Lb s):Tot (λ k=>An k s) (λ r=>r=B0 s):=by
 unfold An B0
 refine Hdb (Jga s hs _ 0 rfl (Vp _)) ?_
 rw[Wo]
 cases s.data.toList.all bOk with
 |true=>exact Heb (a:=inR (s.size:Int) 1 20) (by simp only[cond_true,Ifb,Tx,Vs]) (by rw[Vx])
 |false=>exact H1b rfl
def U0 (s:ByteArray) (hs:Lb s):Tot (λ k=>B8 k s) (λ r=>r=B0 s):=by
 unfold B8 B0
 refine Hdb (Jha s hs _ 0 rfl (Vp _)) ?_
 rw[Wo]
 cases s.data.toList.all bOk with
 |true=>exact Heb (a:=inR (s.size:Int) 1 20) (by simp only[cond_true,Ifb,Nz,Vs]) (by rw[Vx])
 |false=>exact H1b rfl
def Hk (s:Stp):Bool:=inR s.1 0 1000000000&&(inR s.2.1 0 1000000&&inR s.2.2 0 20)
def Afa (s:Stp):Dw s=some (Hk s):=by
 unfold Dw Hk
 simp only[Tx,Vs]
 cases inR s.1 0 1000000000<;>cases inR s.2.1 0 1000000<;>rfl
def Aga (s:Stp):D6 s=some (Hk s):=by
 unfold D6 Hk
 simp only[Nz,Vs]
 cases inR s.1 0 1000000000<;>cases inR s.2.1 0 1000000<;>rfl
def N5 (x:Row):Bool:=B0 x.1&&(Hk x.2.1&&(inR x.2.2.2 0 200&&(!x.2.2.1||x.2.2.2==0)))
def Sfa (x:Row) (hs:Lb x.1):Tot (λ k=>J7 k x) (λ r=>r=N5 x):=by
 unfold J7 N5
 refine Hdb (Q1 x.1 hs) ?_
 cases B0 x.1
 ·exact H1b rfl
 refine Heb (a:=Hk x.2.1&&(inR x.2.2.2 0 200&&(!x.2.2.1||x.2.2.2==0))) ?_ (by rw[Vx])
 simp only[cond_true,Afa,Tx,Vs]
 cases Hk x.2.1<;>cases inR x.2.2.2 0 200<;>cases x.2.2.1<;>rfl
def Sga (x:Row) (hs:Lb x.1):Tot (λ k=>I4 k x) (λ r=>r=N5 x):=by
 unfold I4 N5
 refine Hdb (U0 x.1 hs) ?_
 cases B0 x.1
 ·exact H1b rfl
 refine Heb (a:=Hk x.2.1&&(inR x.2.2.2 0 200&&(!x.2.2.1||x.2.2.2==0))) ?_ (by rw[Vx])
 simp only[cond_true,Aga,Nz,Vs]
 cases Hk x.2.1<;>cases inR x.2.2.2 0 200<;>cases x.2.2.1<;>rfl
def chk:Option ByteArray→List Row→Bool
 |_,[]=>true
 |none,r::l=>N5 r&&chk (some r.1) l
 |some q,r::l=>N5 r&&(tlt q r.1&&chk (some r.1) l)
def Js (l:List Row):Bool:=chk none l&&decide ((l.length:Int)≤60)
def U1 (l:List Row):Prop:=∀ r∈l,Lb r.1
def X7 (l:List Row):Nat→Option ByteArray
 |0=>none
 |i+1=>some (l.getD i L6).1
def M1a (l:List Row) (i:Nat) (h:i<l.length):chk (X7 l i) (l.drop i)=(N5 (l.getD i L6)&&(bif decide (0<i) then tlt (l.getD (i-1) L6).1 (l.getD i L6).1 else true)&&chk (X7 l (i+1)) (l.drop (i+1))):=by
 rw[Ah (d:=L6) h]
 cases i with
 |zero=>simp[X7,chk]
 |succ i=>simp[X7,chk,Kkb]
def A3 {α:Type} {l:List α} {i:Nat} {d:α} (h1:i<l.length):l.getD i d∈l:=by
 rw[Vb,Vj h1]
 exact Jfb h1
def Jia (l:List Row) (hf:Few l) (hs:U1 l):∀ (n i:Nat),l.length-i=n→i≤l.length→
  Tot (λ k=>Ft k l l (l.length:Int) (i:Int)) (λ r=>r=bif chk (X7 l i) (l.drop i) then .inr l else .inl false):=by
 unfold Few at hf
 intro n
 induction n with
 |zero=>
  intro i hn hi
  refine Tot.succ ?_
  simp only[Ft]
  refine H6b (by omega) (H1b ?_)
  rw[Wj (by omega)]
  cases X7 l i<;>rfl
 |succ n ih=>
  intro i hn hi
  have hlt:i<l.length:=by omega
  refine Tot.succ ?_
  simp only[Ft]
  refine H5b (by omega) (H5b (by omega) (H5b (by omega) ?_))
  rw[show toNat (i:Int)=i from Vc i,w64 (n:=(i:Int)+1) (by omega) (by omega),M1a l i hlt]
  have h1:=ih (i+1) (by omega) (by omega)
  have e:(((i+1:Nat)):Int)=(i:Int)+1:=by omega
  rw[e]at h1
  refine Hdb (Sfa (l.getD i L6) (hs _ (A3 hlt))) ?_
  cases hb:N5 (l.getD i L6)
  ·exact H4b rfl (H1b (by simp))
  refine H3b rfl ?_
  rw[Vx]
  refine H8b (λ h0=>?_) (λ h0=>?_)
  ·rw[w64 (n:=(i:Int)-1) (by omega) (by omega)]
   refine H5b (by omega) (H5b (by omega) ?_)
   rw[show toNat ((i:Int)-1)=i-1 by omega,decide_eq_true (show 0<i by omega),cond_true]
   have et:(!(Op.bytesLess (l.getD (i-1) L6).1.toList (l.getD i L6).1.toList)) = !(tlt (l.getD (i-1) L6).1 (l.getD i L6).1):=rfl
   refine H7b (λ ht=>?_) (λ ht=>?_)
   ·have ht':(!(tlt (l.getD (i-1) L6).1 (l.getD i L6).1))=true:=ht
    rw[Wa]at ht'
    exact H1b (by rw[ht'];rfl)
   ·have ht':(!(tlt (l.getD (i-1) L6).1 (l.getD i L6).1))=false:=ht
    rw[Yb]at ht'
    rw[ht',Vx]
    exact h1
  ·rw[decide_eq_false (show ¬ 0<i by omega),cond_false,Vx]
   exact h1
def Jja (l:List Row) (hf:Few l) (hs:U1 l):∀ (n i:Nat),l.length-i=n→i≤l.length→
  Tot (λ k=>Fy k l (i:Int)) (λ r=>r=bif chk (X7 l i) (l.drop i) then .inr l else .inl false):=by
 unfold Few at hf
 intro n
 induction n with
 |zero=>
  intro i hn hi
  refine Tot.succ ?_
  simp only[Fy]
  refine H6b (by omega) (H1b ?_)
  rw[Wj (by omega)]
  cases X7 l i<;>rfl
 |succ n ih=>
  intro i hn hi
  have hlt:i<l.length:=by omega
  refine Tot.succ ?_
  simp only[Fy]
  refine H5b (by omega) (H5b (by omega) (H5b (by omega) ?_))
  rw[show toNat (i:Int)=i from Vc i,w64 (n:=(i:Int)+1) (by omega) (by omega),M1a l i hlt]
  have h1:=ih (i+1) (by omega) (by omega)
  have e:(((i+1:Nat)):Int)=(i:Int)+1:=by omega
  rw[e]at h1
  refine Hdb (Sga (l.getD i L6) (hs _ (A3 hlt))) ?_
  cases hb:N5 (l.getD i L6)
  ·exact H4b rfl (H1b (by simp))
  refine H3b rfl ?_
  rw[Vx]
  refine H8b (λ h0=>?_) (λ h0=>?_)
  ·rw[w64 (n:=(i:Int)-1) (by omega) (by omega)]
   refine H5b (by omega) (H5b (by omega) (H5b (by omega) (H5b (by omega) ?_)))
   rw[show toNat ((i:Int)-1)=i-1 by omega,decide_eq_true (show 0<i by omega),cond_true]
   refine H7b (λ ht=>?_) (λ ht=>?_)
   ·have ht':(!(tlt (l.getD (i-1) L6).1 (l.getD i L6).1))=true:=ht
    rw[Wa]at ht'
    exact H1b (by rw[ht'];rfl)
   ·have ht':(!(tlt (l.getD (i-1) L6).1 (l.getD i L6).1))=false:=ht
    rw[Yb]at ht'
    rw[ht',Vx]
    exact h1
  ·rw[decide_eq_false (show ¬ 0<i by omega),cond_false,Vx]
   exact h1
def M2a (l:List Row) (hf:Few l) (hs:U1 l):Tot (λ k=>E4 k l) (λ r=>r=Js l):=by
 unfold E4 Js
 refine Hdb (Jia l hf hs _ 0 rfl (Vp _)) ?_
 rw[Wo]
 show Tot _ (λ r=>r=(chk none l&&_))
 cases hc:chk none l with
 |true=>rw[show chk (X7 l 0) l=true from hc];exact H1b (by rw[Vx])
 |false=>rw[show chk (X7 l 0) l=false from hc];exact H1b rfl
def Wua (l:List Row) (hf:Few l) (hs:U1 l):Tot (λ k=>G8 k l) (λ r=>r=Js l):=by
 unfold G8 Js
 refine Hdb (Jja l hf hs _ 0 rfl (Vp _)) ?_
 rw[Wo]
 cases hc:chk none l with
 |true=>rw[show chk (X7 l 0) l=true from hc];exact H1b (by rw[Vx])
 |false=>rw[show chk (X7 l 0) l=false from hc];exact H1b rfl
def Jka:∀ (p:Option ByteArray) (l:List Row),chk p l=true↔Bj l∧(∀ r∈l,N5 r=true)∧(∀ q,p=some q→∀ r∈l,tlt q r.1=true)
 |p,[]=>by
  have:chk p []=true:=by cases p<;>rfl
  simp[this,Bj]
 |none,r::l=>by
  simp only[chk,Va,Jka (some r.1) l,Bj,Wh]
  constructor
  ·rintro⟨h1,h2,h3,h4⟩
   exact⟨⟨λ a ha=>h4 _ rfl a ha,h2⟩,λ a ha=>by rcases Vl.1 ha with rfl|ha;exact h1;exact h3 a ha,λ q hq=>by cases hq⟩
  ·rintro⟨⟨h1,h2⟩,h3,_⟩
   exact⟨h3 r (by simp),h2,λ a ha=>h3 a (Vh _ ha),λ q hq a ha=>by cases hq;exact h1 a ha⟩
 |some q,r::l=>by
  simp only[chk,Va,Jka (some r.1) l,Bj,Wh]
  constructor
  ·rintro⟨h1,h0,h2,h3,h4⟩
   refine⟨⟨λ a ha=>h4 _ rfl a ha,h2⟩,λ a ha=>by rcases Vl.1 ha with rfl|ha;exact h1;exact h3 a ha,λ q' hq a ha=>?_⟩
   cases hq
   rcases Vl.1 ha with rfl|ha
   ·exact h0
   ·exact Mh h0 (h4 _ rfl a ha)
  ·rintro⟨⟨h1,h2⟩,h3,h4⟩
   exact⟨h3 r (by simp),h4 q rfl r (by simp),h2,λ a ha=>h3 a (Vh _ ha),λ q' hq a ha=>by cases hq;exact h1 a ha⟩
def Lh {l:List Row}:Js l=true↔Bj l∧(∀ r∈l,N5 r=true)∧l.length≤60:=by
 unfold Js
 simp only[Va,Jka,decide_eq_true_eq]
 constructor
 ·rintro⟨⟨h1,h2,_⟩,h3⟩
  exact⟨h1,h2,by omega⟩
 ·rintro⟨h1,h2,h3⟩
  exact⟨⟨h1,h2,λ q hq=>by cases hq⟩,by omega⟩
def Nj (a b:List Row):List Row:=b.foldl mrg a
def E3a {a b:List Row} {r:Row} (h:r∈Nj a b):r∈a∨r∈b:=by
 induction b generalizing a with
 |nil=>exact .inl h
 |cons x b ih=>
  rcases ih (a:=mrg a x) h with h|h
  ·rcases Sea h with rfl|h
   ·exact .inr (by simp)
   ·exact .inl h
  ·exact .inr (Vh _ h)
def N6 {a b:List Row} (h:Bj a):Bj (Nj a b):=by
 induction b generalizing a with
 |nil=>exact h
 |cons x b ih=>exact ih (Rv h)
def E4a (b:List Row) (hb:Few b):∀ (n i:Nat) (a:List Row),b.length-i=n→i≤b.length→a.length+(b.length-i)≤1000000000000→
  Tot (λ k=>Dj k a b (b.length:Int) (i:Int)) (λ r=>r=Nj a (b.drop i)):=by
 unfold Few at hb
 intro n
 induction n with
 |zero=>
  intro i a hn hi hf
  refine Tot.succ ?_
  simp only[Dj]
  refine H6b (by omega) (H1b ?_)
  rw[Wj (by omega)]
  rfl
 |succ n ih=>
  intro i a hn hi hf
  have hlt:i<b.length:=by omega
  refine Tot.succ ?_
  simp only[Dj]
  refine H5b (by omega) (H5b (by omega) (H5b (by omega) ?_))
  rw[show toNat (i:Int)=i from Vc i,w64 (n:=(i:Int)+1) (by omega) (by omega),Ah (d:=L6) hlt]
  refine Hdb (Sba a (b.getD i L6) (by unfold Few;omega)) ?_
  have:=Sda a (b.getD i L6)
  exact ih (i+1) (mrg a (b.getD i L6)) (by omega) (by omega) (by omega)
def Ofa (a b:List Row) (hf:a.length+b.length≤1000000000000):Tot (λ k=>Ci k a b) (λ r=>r=Nj a b):=by
 unfold Ci
 refine H2b (Heb (Q:=λ r=>r=a) (Tw a (by unfold Few;omega)) rfl) ?_
 rintro r rfl
 refine H2b (E4a b (by unfold Few;omega) _ 0 r rfl (Vp _) (by omega)) ?_
 rintro y rfl
 rw[Wo]
 exact H1b rfl
def Ic (l:List Row) (s:ByteArray):Option Row:=l.find? (λ r=>teq r.1 s)
def mx (a b:Row):Row:=bif Kr a b then b else a
def U2 (a b:Row):Kr a b=true↔a.2.1.1<b.2.1.1∨(a.2.1.1=b.2.1.1∧(a.2.1.2.1<b.2.1.2.1∨(a.2.1.2.1=b.2.1.2.1∧(a.2.1.2.2<b.2.1.2.2∨(a.2.1.2.2=b.2.1.2.2∧((a.2.2.1=false∧b.2.2.1=true)∨(a.2.2.1=b.2.2.1∧a.2.2.2<b.2.2.2))))))):=by
 unfold Kr
 cases hs:(!((a.2.1.1==b.2.1.1)&&((a.2.1.2.1==b.2.1.2.1)&&(a.2.1.2.2==b.2.1.2.2)))) with
 |true=>
  rw[cond_true,Ny]
  have hne:¬ (a.2.1.1=b.2.1.1∧a.2.1.2.1=b.2.1.2.1∧a.2.1.2.2=b.2.1.2.2):=by
   intro ⟨h1,h2,h3⟩
   rw[h1,h2,h3]at hs
   simp at hs
  omega
 |false=>
  rw[cond_false]
  simp only[Yb,Va,beq_iff_eq]at hs
  obtain⟨h1,h2,h3⟩:=hs
  cases ha:a.2.2.1<;>cases hb:b.2.2.1<;>simp[h1,h2,h3]
def Sw {a b:Row} (h:Kr a b=true):Kr b a=false:=by
 cases hb:Kr b a
 ·rfl
 rw[U2]at h hb
 cases ha:a.2.2.1<;>cases hb':b.2.2.1<;>simp only[ha,hb']at h hb<;>simp at h hb<;>omega
def Sha {a b:Row} (hn:a.1=b.1) (h:Kr a b=false) (h':Kr b a=false):a=b:=by
 have h1:¬ Kr a b=true:=by rw[h];decide
 have h2:¬ Kr b a=true:=by rw[h'];decide
 rw[U2]at h1 h2
 obtain⟨n,⟨t,s,d⟩,e,z⟩:=a
 obtain⟨n',⟨t',s',d'⟩,e',z'⟩:=b
 simp only at hn h1 h2
 subst hn
 have hd:e=e'∧t=t'∧s=s'∧d=d'∧z=z':=by
  cases e<;>cases e'<;>simp at h1 h2 ⊢ <;> omega
 obtain⟨rfl,rfl,rfl,rfl,rfl⟩:=hd
 rfl
def Brb (a b:Row):mx (mx a b) b=mx a b:=by
 unfold mx
 cases h:Kr a b with
 |true=>
  have:Kr b b=false:=by
   cases hb:Kr b b with
   |false=>rfl
   |true=>have:=Sw hb;rw[hb]at this;cases this
  rw[cond_true,this]
  rfl
 |false=>rw[cond_false,h];rfl
def Ks {l:List Row} {s:ByteArray} {r:Row} (h:Ic l s=some r):r∈l∧r.1=s:=by
 unfold Ic at h
 exact⟨K0b h,Cu.1 (List.find?_some (p:=λ r:Row=>teq r.1 s) h)⟩
def Kt {l:List Row} (hs:Bj l) {r:Row} (h:r∈l):Ic l r.1=some r:=by
 induction l with
 |nil=>simp at h
 |cons a l ih=>
  unfold Bj at hs
  rw[Wh]at hs
  unfold Ic
  rw[Iab]
  rcases Vl.1 h with rfl|h
  ·rw[Cu.2 rfl]
  ·have:teq a.1 r.1=false:=by
    cases ht:teq a.1 r.1
    ·rfl
    have h1:=hs.1 r h
    rw[Cu.1 ht,Hs]at h1
    cases h1
   rw[this]
   exact ih hs.2 h
def Aha:∀ {l m:List Row},Bj l→Bj m→(∀ s,Ic l s=Ic m s)→l=m
 |[],[],_,_,_=>rfl
 |[],b::m,_,hm,h=>by
  have:=Kt hm (r:=b) (by simp)
  rw[← h]at this
  simp[Ic]at this
 |a::l,[],hl,_,h=>by
  have:=Kt hl (r:=a) (by simp)
  rw[h]at this
  simp[Ic]at this
 |a::l,b::m,hl,hm,h=>by
  have hl':=hl
  have hm':=hm
  unfold Bj at hl hm
  rw[Wh]at hl hm
  have ha:=Kt hl' (r:=a) (by simp)
  have hb:=Kt hm' (r:=b) (by simp)
  have ea:a∈b::m:=(Ks (by rw[← h];exact ha)).1
  have eb:b∈a::l:=(Ks (by rw[h];exact hb)).1
  have hab:a=b:=by
   rcases Vl.1 ea with rfl|ea
   ·rfl
   ·rcases Vl.1 eb with rfl|eb
    ·rfl
    ·have h1:=hm.1 a ea
     have h2:=hl.1 b eb
     rw[Tv h1]at h2
     cases h2
  subst hab
  rw[Aha (l:=l) (m:=m) hl.2 hm.2 (λ s=>?_)]
  have hs:=h s
  unfold Ic at hs ⊢
  rw[Iab,Iab]at hs
  cases ht:teq a.1 s
  ·rw[ht]at hs;exact hs
  have none:∀ (k:List Row),(∀ r∈k,tlt a.1 r.1=true)→k.find? (λ r=>teq r.1 s)=none:=by
   intro k hk
   rw[List.find?_eq_none]
   intro r hr
   rw[Cu]
   intro e
   have:=hk r hr
   rw[e,← Cu.1 ht,Hs]at this
   cases this
  rw[none l hl.1,none m hm.1]
def Gna {l:List Row} {x:Row} (hs:Bj l) (s:ByteArray):Ic (mrg l x) s=bif teq x.1 s then (match Ic l s with|some r=>some (mx r x)|none=>some x) else Ic l s:=by
 have hsm:=Rv (x:=x) hs
 have hget:∀ j (hj:j<l.length),l.getD j L6=l[j]:=λ j hj=>by rw[Vb,Vj hj];rfl
 cases ht:teq x.1 s with
 |true=>
  have hxs:=Cu.1 ht
  rw[cond_true]
  unfold mrg
  split
  ·rename_i j hj
   obtain⟨_,h2,h3⟩:=Ru l 0 j hj
   rw[Iwb]at h3
   have hjl:j<l.length:=by omega
   have hname:(l.getD j L6).1=x.1:=Cu.1 h3
   have hmem:l.getD j L6∈l:=A3 hjl
   have hlk:Ic l s=some (l.getD j L6):=by rw[← hxs,← hname];exact Kt hs hmem
   rw[hlk]
   show Ic (bif Kr (l.getD j L6) x then l.set j x else l) s=some (mx (l.getD j L6) x)
   unfold mx
   cases hb:Kr (l.getD j L6) x
   ·rw[cond_false];exact hlk
   rw[cond_true]
   have:x∈l.set j x:=List.mem_set hjl x
   have hsm':Bj (l.set j x):=by
    have:=hsm
    unfold mrg at this
    rw[hj]at this
    simp only[hb,cond_true]at this
    exact this
   rw[← hxs]
   exact Kt hsm' this
  ·rename_i hj
   have hno:Ic l s=none:=by
    cases hl:Ic l s with
    |none=>rfl
    |some r=>
     obtain⟨h1,h2⟩:=Ks hl
     exact(V8 l 0 hj r h1 (h2.trans hxs.symm)).elim
   rw[hno]
   have hx:x∈mrg l x:=by unfold mrg;rw[hj];simp
   have:=Kt hsm hx
   unfold mrg at this
   rw[hj]at this
   rw[← hxs]
   exact this
 |false=>
  rw[cond_false]
  cases hl:Ic l s with
  |some r=>
   obtain⟨h1,h2⟩:=Ks hl
   have hr:r∈mrg l x:=by
    unfold mrg
    split
    ·rename_i j hj
     cases hb:Kr (l.getD j L6) x
     ·exact h1
     rw[cond_true]
     obtain⟨i,hi,e⟩:=Irb h1
     obtain⟨_,q2,q3⟩:=Ru l 0 j hj
     rw[Iwb]at q3
     have hij:i≠j:=by
      rintro rfl
      rw[hget i hi,e]at q3
      have:=Cu.1 q3
      rw[Cu.2 (this.symm.trans h2)]at ht
      cases ht
     rw[Ze]
     exact⟨i,by rw[Vv];exact hi,by rw[List.getElem_set_ne (Iqb hij)];exact e⟩
    ·have:r∈l.take (Ul l x.1 l.length)++l.drop (Ul l x.1 l.length):=by rw[Wl];exact h1
     rcases Vn.1 this with h|h
     ·exact Wb _ h
     ·exact Vt _ (Vh _ h)
   rw[← h2]
   exact Kt hsm hr
  |none=>
   cases hm:Ic (mrg l x) s with
   |none=>rfl
   |some r=>
    exfalso
    obtain⟨h1,h2⟩:=Ks hm
    rcases Sea h1 with rfl|h1
    ·rw[Cu.2 h2]at ht;cases ht
    ·have:=Kt hs h1
     rw[h2,hl]at this
     cases this
def cmb:Option Row→Option Row→Option Row
 |some a,some b=>some (mx a b)
 |some a,none=>some a
 |none,y=>y
def Rw {a b:List Row} (ha:Bj a) (hb:Bj b) (s:ByteArray):Ic (Nj a b) s=cmb (Ic a s) (Ic b s):=by
 induction b generalizing a with
 |nil=>show Ic a s=cmb (Ic a s) none;cases Ic a s<;>rfl
 |cons x b ih=>
  have hb':=hb
  unfold Bj at hb
  rw[Wh]at hb
  show Ic (Nj (mrg a x) b) s=_
  rw[ih (Rv ha) hb.2,Gna ha s]
  have e:Ic (x::b) s=bif teq x.1 s then some x else Ic b s:=by
   unfold Ic
   rw[Iab]
   cases teq x.1 s<;>rfl
  rw[e]
  cases ht:teq x.1 s
  ·rfl
  have hno:Ic b s=none:=by
   cases hl:Ic b s with
   |none=>rfl
   |some r=>
    obtain⟨h1,h2⟩:=Ks hl
    have:=hb.1 r h1
    rw[h2,← Cu.1 ht,Hs]at this
    cases this
  rw[hno]
  cases Ic a s<;>rfl
def Cla {l:List Row} {s:ByteArray}:∀ r,Ic l s=some r→r.1=s:=λ r h=>(Ks h).2
def Sia {a b:List Row} (ha:Bj a) (hb:Bj b):Nj (Nj a b) b=Nj a b:=
 Aha (N6 (N6 ha)) (N6 ha) λ s=>by
  rw[Rw (N6 ha) hb,Rw ha hb]
  cases Ic a s<;>cases Ic b s<;>first|rfl|skip
  ·rename_i b;show some (mx b b)=some b;unfold mx;cases Kr b b<;>rfl
  ·rename_i a b;show some (mx (mx a b) b)=some (mx a b);rw[Brb]

def Bfa:Nat→Nat→List Int
 |0,n=>[(n:Int)]
 |f+1,n=>if n≤127 then [(n:Int)] else ((n % 128+128:Nat):Int)::Bfa f (n/128)
def Ou (n:Nat):List Int:=Bfa 4 n
def U3:Nat→Nat→Nat→List Int→Option (Nat×Nat)
 |0,_,_,_=>none
 |_+1,_,_,[]=>none
 |f+1,k,acc,x::l=>if 128≤x then U3 f (k+1) (acc+x.toNat % 128*128 ^ k) l
  else if (x=0∧0<k)∨1000000000<acc+x.toNat % 128*128 ^ k then none else some (acc+x.toNat % 128*128 ^ k,k+1)
def Ox (l:List Int) (p:Nat):Option (Nat×Nat):=match U3 5 0 0 (l.drop p) with
 |some (n,c)=>some (n,p+c)
 |none=>none
def Sja:∀ (f n:Nat),(Bfa f n).length≤f+1∧0<(Bfa f n).length
 |0,n=>by simp[Bfa]
 |f+1,n=>by
  unfold Bfa
  split
  ·simp
  ·have:=Sja f (n/128)
   simp only[Vd]
   omega
def Sx:∀ (f k acc:Nat) (l:List Int) (n c:Nat),Al l→U3 f k acc l=some (n,c)→acc<128 ^ k→k<c∧c≤k+f∧c-k≤l.length∧n≤1000000000
 |0,_,_,_,_,_,_,h,_=>by simp[U3]at h
 |_+1,_,_,[],_,_,_,h,_=>by simp[U3]at h
 |f+1,k,acc,x::l,n,c,hb,h,ha=>by
  have hx:=hb x (by simp)
  unfold U3 at h
  split at h
  ·have h1:acc+x.toNat % 128*128 ^ k<128 ^ (k+1):=by
    have h2:x.toNat % 128≤127:=by omega
    have h3:=Wn (128 ^ k) h2
    rw[Hkb]
    omega
   have:=Sx f (k+1) _ l n c (λ y hy=>hb y (Vh _ hy)) h h1
   simp only[Vd]
   omega
  ·split at h
   ·cases h
   ·simp only[Vg,Vz]at h
    obtain⟨rfl,rfl⟩:=h
    simp only[Vd]
    omega
def Ska:∀ (f k acc:Nat) (l:List Int) (n c:Nat),Al l→U3 (f+1) k acc l=some (n,c)→acc<128 ^ k→∃ m,n=acc+m*128 ^ k∧l=Bfa f m++l.drop (c-k)∧(m=0→c=k+1∧(0<k→False))∧m<128 ^ (f+1)
 |0,k,acc,[],n,c,hb,h,ha=>by simp[U3]at h
 |_+1,k,acc,[],n,c,hb,h,ha=>by simp[U3]at h
 |0,k,acc,x::l,n,c,hb,h,ha=>by
  have hx:=hb x (by simp)
  unfold U3 at h
  split at h
  ·simp[U3]at h
  ·rename_i h128
   split at h
   ·cases h
   ·rename_i hz
    simp only[Vg,Vz]at h
    obtain⟨rfl,rfl⟩:=h
    have hm:x.toNat % 128=x.toNat:=Hzb (by omega)
    refine⟨x.toNat,by rw[hm],?_,λ h0=>⟨rfl,λ hk=>hz (.inl ⟨by omega,hk⟩)⟩,by omega⟩
    rw[show k+1-k=1 by omega]
    show x::l=[((x.toNat:Nat):Int)]++l
    rw[show ((x.toNat:Nat):Int)=x by omega]
    rfl
 |f+1,k,acc,x::l,n,c,hb,h,ha=>by
  have hx:=hb x (by simp)
  have hb':Al l:=λ y hy=>hb y (Vh _ hy)
  unfold U3 at h
  split at h
  ·rename_i h128
   have h1:acc+x.toNat % 128*128 ^ k<128 ^ (k+1):=by
    have h2:x.toNat % 128≤127:=by omega
    have h3:=Wn (128 ^ k) h2
    rw[Hkb]
    omega
   obtain⟨m,e1,e2,e3,e4⟩:=Ska f (k+1) _ l n c hb' h h1
   have hbd:=Sx (f+1) (k+1) _ l n c hb' h h1
   have hm0:m≠0:=λ h0=>(e3 h0).2 (by omega)
   refine⟨x.toNat % 128+m*128,?_,?_,λ h0=>by omega,?_⟩
   ·rw[e1,Hkb,Zc]
    have:m*128*128 ^ k=m*(128 ^ k*128):=by rw[Nat.mul_assoc,Knb 128]
    omega
   ·unfold Bfa
    rw[if_neg (by omega),show (x.toNat % 128+m*128)/128=m by omega,show (x.toNat % 128+m*128) % 128=x.toNat % 128 by omega,show c-k=(c-(k+1))+1 by omega,List.drop_succ_cons,List.cons_append,← e2]
    congr 1
    omega
   ·rw[Hkb]
    omega
  ·rename_i h128
   split at h
   ·cases h
   ·rename_i hz
    simp only[Vg,Vz]at h
    obtain⟨rfl,rfl⟩:=h
    have hm:x.toNat % 128=x.toNat:=Hzb (by omega)
    have hp:128≤128 ^ (f+1+1):=by
     have:=Nat.pow_le_pow_right (show 0<128 by decide) (show 1≤f+1+1 by omega)
     simpa using this
    refine⟨x.toNat,by rw[hm],?_,λ h0=>⟨rfl,λ hk=>hz (.inl ⟨by omega,hk⟩)⟩,by omega⟩
    rw[show k+1-k=1 by omega]
    unfold Bfa
    rw[if_pos (by omega)]
    show x::l=[((x.toNat:Nat):Int)]++l
    rw[show ((x.toNat:Nat):Int)=x by omega]
    rfl
def Sla:∀ (f k acc m:Nat) (rest:List Int),m<128 ^ (f+1)→(0<k→0<m)→acc+m*128 ^ k≤1000000000→U3 (f+1) k acc (Bfa f m++rest)=some (acc+m*128 ^ k,k+(Bfa f m).length)
 |0,k,acc,m,rest,hm,hk,hn=>by
  show U3 1 k acc ((m:Int)::rest)=_
  unfold U3
  have h1:m<128:=by simpa using hm
  rw[if_neg (by omega),if_neg (by
   rw[show (m:Int).toNat % 128=m by rw[Vc];exact Hzb h1]
   omega)]
  rw[show (m:Int).toNat % 128=m by rw[Vc];exact Hzb h1]
  rfl
 |f+1,k,acc,m,rest,hm,hk,hn=>by
  unfold Bfa
  by_cases h:m≤127
  ·rw[if_pos h]
   show U3 (f+2) k acc ((m:Int)::rest)=_
   unfold U3
   rw[if_neg (by omega),if_neg (by
    rw[show (m:Int).toNat % 128=m by rw[Vc];exact Hzb (by omega)]
    omega)]
   rw[show (m:Int).toNat % 128=m by rw[Vc];exact Hzb (by omega)]
   rfl
  ·rw[if_neg h]
   show U3 (f+2) k acc (((m % 128+128:Nat):Int)::(Bfa f (m/128)++rest))=_
   unfold U3
   have e1:(((m % 128+128:Nat):Int)).toNat % 128=m % 128:=by rw[Vc];omega
   rw[if_pos (by omega),e1]
   have hmod:m=m % 128+m/128*128:=by omega
   have hm2:m/128<128 ^ (f+1):=by rw[Hkb]at hm;omega
   have e2:acc+m % 128*128 ^ k+m/128*128 ^ (k+1)=acc+m*128 ^ k:=by
    have h2:m*128 ^ k=(m % 128+m/128*128)*128 ^ k:=by rw[← hmod]
    rw[h2,Zc,Hkb]
    have:m/128*128*128 ^ k=m/128*(128 ^ k*128):=by rw[Nat.mul_assoc,Knb 128]
    omega
   rw[Sla f (k+1) (acc+m % 128*128 ^ k) (m/128) rest hm2 (λ _=>by omega) (by rw[e2];exact hn),e2,Vd]
   simp only[Vg,Vz,true_and]
   omega
def M3a (pre:List Int) (n:Nat) (rest:List Int) (hn:n≤1000000000):Ox (pre++(Ou n++rest)) pre.length=some (n,pre.length+(Ou n).length):=by
 unfold Ox
 rw[Zn]
 have:=Sla 4 0 0 n rest (by omega) (by omega) (by omega)
 unfold Ou
 rw[this]
 simp
def Sy {l:List Int} {p n q:Nat} (hb:Al l) (h:Ox l p=some (n,q)):l.drop p=Ou n++l.drop q∧n≤1000000000∧p<q∧q≤l.length:=by
 unfold Ox at h
 split at h
 ·rename_i m c hd
  simp only[Vg,Vz]at h
  obtain⟨rfl,rfl⟩:=h
  have hb':Al (l.drop p):=λ y hy=>hb y (Zr hy)
  have hbd:=Sx 5 0 0 _ _ _ hb' hd (by decide)
  obtain⟨m',e1,e2,_,_⟩:=Ska 4 0 0 _ _ _ hb' hd (by decide)
  have e3:m=m':=by rw[e1];simp
  subst e3
  rw[Wc]at hbd
  refine⟨?_,hbd.2.2.2,by omega,by omega⟩
  rw[Iwb,Yt]at e2
  exact e2
 ·cases h
def Gyb (i:Nat) (hi:i<5):(2:Int) ^ (min (toNat (wrap .i64 (7*(i:Int)))) (IntKind.bits .i64))=((128 ^ i:Nat):Int):=by
 have:i=0∨i=1∨i=2∨i=3∨i=4:=by omega
 rcases this with rfl|rfl|rfl|rfl|rfl<;>decide
def G2b (i:Nat) (hi:i<5):(2:Int) ^ (min (toNat (wrap .u64 (wrap .i64 (7*(i:Int))))) (IntKind.bits .i64))=((128 ^ i:Nat):Int):=by
 have:i=0∨i=1∨i=2∨i=3∨i=4:=by omega
 rcases this with rfl|rfl|rfl|rfl|rfl<;>decide
def sh7 (i:Nat) (hi:i<5):¬ (wrap .i64 (7*(i:Int))<0)∧¬ (wrap .u64 (wrap .i64 (7*(i:Int)))<0):=by
 have:i=0∨i=1∨i=2∨i=3∨i=4:=by omega
 rcases this with rfl|rfl|rfl|rfl|rfl<;>decide
def Pc (i:Nat) (hi:i≤5):128 ^ i≤34359738368:=by
 have:=Nat.pow_le_pow_right (show 0<128 by decide) hi
 simpa using this
def R8 (n:Nat) (h:n<18446744073709551616):(ofInt (IntKind.bits .i64) (n:Int)).toNat=n:=by
 rw[J1b]
 show ((n:Int) % ((2 ^ 64:Nat):Int)).toNat=n
 rw[Int.emod_eq_of_lt (by omega) (by omega)]
 exact Vc n
def Z8a (n:Nat) (h:n<9223372036854775808):wrap .i64 ((ofInt (IntKind.bits .i64) (n:Int) &&& ofInt (IntKind.bits .i64) 127).toNat)=((n % 128:Nat):Int):=by
 rw[Ipb,R8 n (by omega),show (ofInt (IntKind.bits .i64) 127).toNat=127 from by decide,show (127:Nat)=2 ^ 7-1 from rfl,Jeb]
 exact w64 (by omega) (by omega)
def M4a (a m i:Nat) (ha:a<128 ^ i) (hm:m<128) (hi:i<5):wrap .i64 ((ofInt (IntKind.bits .i64) (a:Int) ||| ofInt (IntKind.bits .i64) ((m*128 ^ i:Nat):Int)).toNat)=((a+m*128 ^ i:Nat):Int):=by
 have hp:=Pc i (by omega)
 have hmul:m*128 ^ i≤127*34359738368:=K1b (by omega) hp
 rw[BitVec.toNat_or,R8 a (by omega),R8 _ (by omega),Nat.or_comm]
 have e:(128:Nat) ^ i=2 ^ (7*i):=by rw[Nat.pow_mul]
 have h2:=Nat.two_pow_add_eq_or_of_lt (i:=7*i) (b:=a) (by rw[← e];exact ha) m
 rw[← e,Knb]at h2
 rw[← h2,Hfb]
 exact w64 (by omega) (by omega)
def Jla (l:List Int) (p:Int):Int×Int×Bool:=if p<0 then (0,0,false) else match Ox l p.toNat with
 |some (n,q)=>((n:Int),(q:Int),true)
 |none=>(0,0,false)
def Fob (p:Nat):Option (Nat×Nat)→Int×Int×Bool
 |some (n,c)=>((n:Int),((p+c:Nat):Int),true)
 |none=>(0,0,false)
def Aia (r:Sum (Int×Int×Bool) Unit):Int×Int×Bool:=Sum.elim (λ y=>y) (λ _=>(0,0,false)) r
def Goa {l:List Int} {p:Nat} (h:p<l.length):l.drop p=l.getD p 0::l.drop (p+1):=Ah h
def Oga (l:List Int) (hb:Al l) (hl:l.length≤1000000000000) (p:Nat) (hp:p≤1000000000000):∀ (f i acc:Nat),f+i=5→acc<128 ^ i→
  Tot (λ k=>Fu k l (p:Int) (acc:Int) (i:Int)) (λ r=>Aia r=Fob p (U3 f i acc (l.drop (p+i)))):=by
 intro f
 induction f with
 |zero=>
  intro i acc hi ha
  refine Tot.succ ?_
  simp only[Fu]
  exact H6b (by omega) (H1b rfl)
 |succ f ih=>
  intro i acc hi ha
  have hi5:i<5:=by omega
  refine Tot.succ ?_
  simp only[Fu]
  refine H5b (by omega) (H5b (by omega) ?_)
  rw[w64 (n:=(l.length:Int)-(i:Int)) (by omega) (by omega),w64 (n:=(p:Int)+(i:Int)) (by omega) (by omega),show toNat ((p:Int)+(i:Int))=p+i by omega]
  refine H8b (λ h=>?_) (λ h=>?_)
  ·have hlt:p+i<l.length:=by omega
   refine H5b (by omega) (H5b (by omega) ?_)
   have hx:=hb (l.getD (p+i) 0) (A3 hlt)
   rw[Goa hlt,Gyb i hi5]
   have he:U3 (f+1) i acc (l.getD (p+i) 0::l.drop (p+i+1))=if 128≤l.getD (p+i) 0 then U3 f (i+1) (acc+(l.getD (p+i) 0).toNat % 128*128 ^ i) (l.drop (p+i+1)) else if (l.getD (p+i) 0=0∧0<i)∨1000000000<acc+(l.getD (p+i) 0).toNat % 128*128 ^ i then none else some (acc+(l.getD (p+i) 0).toNat % 128*128 ^ i,i+1):=rfl
   rw[he]
   generalize l.getD (p+i) 0=x at hx ⊢
   obtain⟨v,rfl⟩:∃ v:Nat,x=(v:Int):=⟨x.toNat,by omega⟩
   rw[Vc]
   have hp1:=Pc i (by omega)
   have hmul:v % 128*128 ^ i≤127*34359738368:=K1b (by omega) hp1
   rw[w64 (n:=(v:Int)) (by omega) (by omega)]
   have e1:Int.tmod (v:Int) 128*((128 ^ i:Nat):Int)=((v % 128*128 ^ i:Nat):Int):=by
    rw[Hlb (by omega)]
    push_cast
    rfl
   rw[e1,w64 (n:=((v % 128*128 ^ i:Nat):Int)) (by omega) (by omega),← Int.natCast_add,w64 (n:=((acc+v % 128*128 ^ i:Nat):Int)) (by omega) (by omega),w64 (n:=(i:Int)+1) (by omega) (by omega),w64 (n:=(p:Int)+(i:Int)+1) (by omega) (by omega)]
   refine H6b (sh7 i hi5).1 ?_
   refine H8b (λ h128=>?_) (λ h128=>?_)
   ·rw[if_pos (by omega)]
    have h1:acc+v % 128*128 ^ i<128 ^ (i+1):=by
     have h2:v % 128≤127:=by omega
     have h3:=Wn (128 ^ i) h2
     rw[Hkb]
     omega
    have:=ih (i+1) (acc+v % 128*128 ^ i) (by omega) h1
    rw[show p+(i+1)=p+i+1 by omega]at this
    exact this
   ·rw[if_neg (by omega)]
    have big:Tot (λ _:Nat=>cond (decide (((acc+v % 128*128 ^ i:Nat):Int) > 1000000000)) (some (Sum.inl ((0:Int),(0:Int),false))) (some (Sum.inl (((acc+v % 128*128 ^ i:Nat):Int),(p:Int)+(i:Int)+1,true))):Nat→Option (Sum (Int×Int×Bool) Unit))
      (λ r=>Aia r=if 1000000000<acc+v % 128*128 ^ i then (0,0,false) else (((acc+v % 128*128 ^ i:Nat):Int),((p+(i+1):Nat):Int),true)):=by
     refine H8b (λ hbig=>?_) (λ hbig=>?_)
     ·rw[if_pos (by omega)];exact H1b rfl
     ·rw[if_neg (by omega)]
      refine H1b ?_
      show (_,_,_)=_
      rw[show (p:Int)+(i:Int)+1=((p+(i+1):Nat):Int) by omega]
    have goal:∀ c:Prop,[Decidable c]→(if c∨1000000000<acc+v % 128*128 ^ i then none else some (acc+v % 128*128 ^ i,i+1))=if c then none else if 1000000000<acc+v % 128*128 ^ i then (none:Option (Nat×Nat)) else some (acc+v % 128*128 ^ i,i+1):=by
     intro c _
     by_cases h1:c<;>by_cases h2:1000000000<acc+v % 128*128 ^ i<;>simp[h1,h2]
    rw[goal]
    have fin:(Fob p (if 1000000000<acc+v % 128*128 ^ i then (none:Option (Nat×Nat)) else some (acc+v % 128*128 ^ i,i+1)))=if 1000000000<acc+v % 128*128 ^ i then (0,0,false) else (((acc+v % 128*128 ^ i:Nat):Int),((p+(i+1):Nat):Int),true):=by
     split<;>rfl
    refine H7b (λ h0=>?_) (λ h0=>?_)
    ·have hv:v=0:=by
      have:=beq_iff_eq.1 h0
      omega
     refine H8b (λ hi0=>?_) (λ hi0=>?_)
     ·rw[if_pos ⟨by omega,by omega⟩];exact H1b rfl
     ·rw[if_neg (by omega),fin];exact big
    ·have hv:v≠0:=by
      intro e
      subst e
      simp at h0
     rw[if_neg (by omega),fin];exact big
  ·refine H1b ?_
   rw[Wj (by omega)]
   rfl
def Sma (l:List Int) (hb:Al l) (hl:l.length≤1000000000000) (p:Int) (hp:p≤1000000000000):Tot (λ k=>Hi k l p) (λ r=>r=Jla l p):=by
 unfold Hi Jla
 by_cases h0:p<0
 ·rw[if_pos h0]
  refine H2b (Q:=λ r=>r = .inr ()) ?_ ?_
  ·refine Tot.succ ?_
   simp only[Fu]
   exact H5b (by omega) (H6b (by omega) (H1b rfl))
  ·rintro r rfl
   exact H1b rfl
 ·rw[if_neg h0]
  obtain⟨n,rfl⟩:∃ n:Nat,p=(n:Int):=⟨p.toNat,by omega⟩
  rw[Vc]
  refine H2b (Oga l hb hl n (by omega) 5 0 0 rfl (by decide)) ?_
  intro r hr
  unfold Ox
  rw[Zu]at hr
  have hr':Aia r=(match (match U3 5 0 0 (l.drop n) with|some (m,c)=>some (m,n+c)|none=>none) with|some (m,q)=>((m:Int),(q:Int),true)|none=>((0:Int),(0:Int),false)):=by
   rw[hr]
   cases U3 5 0 0 (l.drop n) with
   |none=>rfl
   |some mc=>rfl
  rw[← hr']
  cases r with
  |inl y=>exact H1b rfl
  |inr z=>exact H1b rfl

def Oha (l:List Int) (hb:Al l) (hl:l.length≤1000000000000) (p:Nat) (hp:p<l.length):∀ (f i acc:Nat),f+i=5→acc<128 ^ i→
  Tot (λ k=>Er k l (p:Int) (acc:Int) (i:Int)) (λ r=>Aia r=Fob p (U3 f i acc (l.drop (p+i)))):=by
 intro f
 induction f with
 |zero=>
  intro i acc hi ha
  refine Tot.succ ?_
  simp only[Er]
  exact H6b (by omega) (H1b rfl)
 |succ f ih=>
  intro i acc hi ha
  have hi5:i<5:=by omega
  refine Tot.succ ?_
  simp only[Er]
  refine H5b (by omega) (H5b (by omega) (H5b (by omega) ?_))
  rw[w64 (n:=(p:Int)+(i:Int)) (by omega) (by omega),show toNat ((p:Int)+(i:Int))=p+i by omega]
  refine H8b (λ h=>?_) (λ h=>?_)
  ·have hlt:p+i<l.length:=by omega
   refine H5b (by omega) (H5b (by omega) ?_)
   have hx:=hb (l.getD (p+i) 0) (A3 hlt)
   rw[Goa hlt,G2b i hi5]
   have he:U3 (f+1) i acc (l.getD (p+i) 0::l.drop (p+i+1))=if 128≤l.getD (p+i) 0 then U3 f (i+1) (acc+(l.getD (p+i) 0).toNat % 128*128 ^ i) (l.drop (p+i+1)) else if (l.getD (p+i) 0=0∧0<i)∨1000000000<acc+(l.getD (p+i) 0).toNat % 128*128 ^ i then none else some (acc+(l.getD (p+i) 0).toNat % 128*128 ^ i,i+1):=rfl
   rw[he]
   generalize l.getD (p+i) 0=x at hx ⊢
   obtain⟨v,rfl⟩:∃ v:Nat,x=(v:Int):=⟨x.toNat,by omega⟩
   rw[Vc]
   have hp1:=Pc i (by omega)
   have hmul:v % 128*128 ^ i≤127*34359738368:=K1b (by omega) hp1
   rw[w64 (n:=(v:Int)) (by omega) (by omega),Z8a v (by omega)]
   have e1:((v % 128:Nat):Int)*((128 ^ i:Nat):Int)=((v % 128*128 ^ i:Nat):Int):=by push_cast;rfl
   rw[e1,w64 (n:=((v % 128*128 ^ i:Nat):Int)) (by omega) (by omega),M4a acc (v % 128) i ha (by omega) hi5,w64 (n:=(i:Int)+1) (by omega) (by omega),w64 (n:=(p:Int)+(i:Int)+1) (by omega) (by omega)]
   refine H6b (sh7 i hi5).2 ?_
   refine H8b (λ h128=>?_) (λ h128=>?_)
   ·rw[if_pos (by omega)]
    have h1:acc+v % 128*128 ^ i<128 ^ (i+1):=by
     have h2:v % 128≤127:=by omega
     have h3:=Wn (128 ^ i) h2
     rw[Hkb]
     omega
    have:=ih (i+1) (acc+v % 128*128 ^ i) (by omega) h1
    rw[show p+(i+1)=p+i+1 by omega]at this
    exact this
   ·rw[if_neg (by omega)]
    have big:Tot (λ _:Nat=>cond (decide (((acc+v % 128*128 ^ i:Nat):Int) > 1000000000)) (some (Sum.inl ((0:Int),(0:Int),false))) (some (Sum.inl (((acc+v % 128*128 ^ i:Nat):Int),(p:Int)+(i:Int)+1,true))):Nat→Option (Sum (Int×Int×Bool) Unit))
      (λ r=>Aia r=if 1000000000<acc+v % 128*128 ^ i then (0,0,false) else (((acc+v % 128*128 ^ i:Nat):Int),((p+(i+1):Nat):Int),true)):=by
     refine H8b (λ hbig=>?_) (λ hbig=>?_)
     ·rw[if_pos (by omega)];exact H1b rfl
     ·rw[if_neg (by omega)]
      refine H1b ?_
      show (_,_,_)=_
      rw[show (p:Int)+(i:Int)+1=((p+(i+1):Nat):Int) by omega]
    have goal:∀ c:Prop,[Decidable c]→(if c∨1000000000<acc+v % 128*128 ^ i then none else some (acc+v % 128*128 ^ i,i+1))=if c then none else if 1000000000<acc+v % 128*128 ^ i then (none:Option (Nat×Nat)) else some (acc+v % 128*128 ^ i,i+1):=by
     intro c _
     by_cases h1:c<;>by_cases h2:1000000000<acc+v % 128*128 ^ i<;>simp[h1,h2]
    rw[goal]
    have fin:(Fob p (if 1000000000<acc+v % 128*128 ^ i then (none:Option (Nat×Nat)) else some (acc+v % 128*128 ^ i,i+1)))=if 1000000000<acc+v % 128*128 ^ i then (0,0,false) else (((acc+v % 128*128 ^ i:Nat):Int),((p+(i+1):Nat):Int),true):=by
     split<;>rfl
    refine H8b (λ hi0=>?_) (λ hi0=>?_)
    ·refine H7b (λ h0=>?_) (λ h0=>?_)
     ·have hv:v=0:=by
       have:=beq_iff_eq.1 h0
       omega
      rw[if_pos ⟨by omega,by omega⟩];exact H1b rfl
     ·have hv:v≠0:=by
       intro e
       subst e
       simp at h0
      rw[if_neg (by omega),fin];exact big
    ·rw[if_neg (by omega),fin];exact big
  ·refine H1b ?_
   rw[Wj (by omega)]
   rfl
def V9 (l:List Int) (hb:Al l) (hl:l.length≤1000000000000) (p:Int):Tot (λ k=>Dm k l p) (λ r=>r=Jla l p):=by
 unfold Dm Jla
 by_cases h0:p<0
 ·rw[if_pos h0]
  refine H2b (Q:=λ r=>r = .inr ()) ?_ ?_
  ·refine Tot.succ ?_
   simp only[Er]
   exact H5b (by omega) (H6b (by omega) (H1b rfl))
  ·rintro r rfl
   exact H1b rfl
 ·rw[if_neg h0]
  by_cases h1:p<(l.length:Int)
  ·obtain⟨n,rfl⟩:∃ n:Nat,p=(n:Int):=⟨p.toNat,by omega⟩
   rw[Vc]
   refine H2b (Oha l hb hl n (by omega) 5 0 0 rfl (by decide)) ?_
   intro r hr
   unfold Ox
   rw[Zu]at hr
   have hr':Aia r=(match (match U3 5 0 0 (l.drop n) with|some (m,c)=>some (m,n+c)|none=>none) with|some (m,q)=>((m:Int),(q:Int),true)|none=>((0:Int),(0:Int),false)):=by
    rw[hr]
    cases U3 5 0 0 (l.drop n) with
    |none=>rfl
    |some mc=>rfl
   refine Tot.mono (Q:=λ y=>y=Aia r) ?_ (λ y hy=>hy.trans hr')
   cases r with
   |inl y=>exact H1b rfl
   |inr z=>exact H1b rfl
  ·have e:Ox l p.toNat=none:=by
    unfold Ox
    rw[Wj (by omega)]
    rfl
   rw[e]
   refine H2b (Q:=λ r=>r = .inr ()) ?_ ?_
   ·refine Tot.succ ?_
    simp only[Er]
    exact H5b (by omega) (H5b (by omega) (H6b h1 (H1b rfl)))
   ·rintro r rfl
    exact H1b rfl
def Bm (n:Int):Nat:=(max 0 (min n 1000000000)).toNat
def O3 (n:Int):Bm n≤1000000000:=by unfold Bm;omega
def Aja {n:Int} (h0:0≤n) (h1:n≤1000000000):(Bm n:Int)=n:=by unfold Bm;omega
def Gpa (n:Nat) (h:n≤255):wrap .u8 (n:Int)=(n:Int):=by
 rw[J2b]
 omega
def Oia:∀ (f n:Nat) (out:List Int),n<128 ^ (f+1)→f≤4→out.length+f≤1000000000010→
  Tot (λ k=>Gt k out (n:Int)) (λ r=>∃ m:Nat,r.2=(m:Int)∧m≤127∧r.1++[(m:Int)]=out++Bfa f n∧r.1.length≤out.length+f):=by
 intro f
 induction f with
 |zero=>
  intro n out hn hf hl
  refine Tot.succ ?_
  simp only[Gt]
  have:n<128:=by simpa using hn
  exact H6b (by omega) (H1b ⟨n,rfl,by omega,rfl,by simp⟩)
 |succ f ih=>
  intro n out hn hf hl
  have hp:=Pc (f+1+1-1) (by omega)
  refine Tot.succ ?_
  simp only[Gt]
  refine H8b (λ h=>?_) (λ h=>?_)
  ·have hn2:n/128<128 ^ (f+1):=by rw[Hkb]at hn;omega
   have hn3:n<4398046511104:=by
    have:=Pc (f+1) (by omega)
    rw[Hkb]at hn
    omega
   have e1:Int.tmod (n:Int) 128+128=((n % 128+128:Nat):Int):=by
    rw[Hlb (by omega)]
    omega
   have e2:Int.tdiv (n:Int) 128=((n/128:Nat):Int):=by
    rw[Hxb (by omega)]
    omega
   rw[e1,e2,w64 (n:=((n % 128+128:Nat):Int)) (by omega) (by omega),w64 (n:=((n/128:Nat):Int)) (by omega) (by omega),Gpa _ (by omega)]
   refine H9b (by simp only[Vd,Vk];omega) ?_
   refine(ih (n/128) (out++[((n % 128+128:Nat):Int)]) hn2 (by omega) (by simp only[Ve,Vd,Vk];omega)).mono ?_
   rintro r ⟨m,h1,h2,h3,h4⟩
   refine⟨m,h1,h2,?_,by simp only[Ve,Vd,Vk]at h4;omega⟩
   rw[h3,Vo]
   congr 1
   conv => { rhs;unfold Bfa }
   rw[if_neg (by omega)]
   rfl
  ·refine H1b ⟨n,rfl,by omega,?_,by show out.length≤out.length+(f+1);omega⟩
   unfold Bfa
   rw[if_pos (by omega)]
def Aka (out:List Int) (n:Int) (hl:out.length≤1000000000000):Tot (λ k=>Ez k out n) (λ r=>r=out++Ou (Bm n)):=by
 unfold Ez
 have e:(if (0:Int)<(if (1000000000:Int)<n then 1000000000 else n) then (if (1000000000:Int)<n then 1000000000 else n) else 0)=((Bm n:Nat):Int):=by
  unfold Bm
  split<;>split<;>omega
 simp only
 rw[e]
 have hc:=O3 n
 refine H2b (Oia 4 (Bm n) out (by omega) (by omega) (by omega)) ?_
 rintro r ⟨m,h1,h2,h3,h4⟩
 rw[h1,Gpa m (by omega)]
 refine H9b (by simp only[Vd,Vk];omega) (H1b h3)
def Oja:∀ (f n:Nat) (out:List Int),n<128 ^ (f+1)→f≤4→out.length+f≤1000000000010→
  Tot (λ k=>Cw k (n:Int) out) (λ r=>∃ m:Nat,r.1=(m:Int)∧m≤127∧r.2++[(m:Int)]=out++Bfa f n∧r.2.length≤out.length+f):=by
 intro f
 induction f with
 |zero=>
  intro n out hn hf hl
  refine Tot.succ ?_
  simp only[Cw]
  have:n<128:=by simpa using hn
  exact H6b (by omega) (H1b ⟨n,rfl,by omega,rfl,by simp⟩)
 |succ f ih=>
  intro n out hn hf hl
  refine Tot.succ ?_
  simp only[Cw]
  refine H8b (λ h=>?_) (λ h=>?_)
  ·have hn2:n/128<128 ^ (f+1):=by rw[Hkb]at hn;omega
   have hn3:n<4398046511104:=by
    have:=Pc (f+1) (by omega)
    rw[Hkb]at hn
    omega
   have e1:wrap .i64 ((ofInt (IntKind.bits .i64) ((n % 128:Nat):Int) ||| ofInt (IntKind.bits .i64) 128).toNat)=((n % 128+128:Nat):Int):=by
    have:=M4a (n % 128) 1 1 (by omega) (by omega) (by omega)
    exact this
   have e2:Int.fdiv (n:Int) (2 ^ (min (toNat 7) (IntKind.bits .i64)))=((n/128:Nat):Int):=by
    have:(2:Int) ^ (min (toNat 7) (IntKind.bits .i64))=128:=by decide
    rw[this,Hmb _ (by omega)]
    omega
   rw[Z8a n (by omega),e1,e2,Gpa _ (by omega)]
   refine H9b (by simp only[Vd,Vk];omega) ?_
   refine(ih (n/128) (out++[((n % 128+128:Nat):Int)]) hn2 (by omega) (by simp only[Ve,Vd,Vk];omega)).mono ?_
   rintro r ⟨m,h1,h2,h3,h4⟩
   refine⟨m,h1,h2,?_,by simp only[Ve,Vd,Vk]at h4;omega⟩
   rw[h3,Vo]
   congr 1
   conv => { rhs;unfold Bfa }
   rw[if_neg (by omega)]
   rfl
  ·refine H1b ⟨n,rfl,by omega,?_,by show out.length≤out.length+(f+1);omega⟩
   unfold Bfa
   rw[if_pos (by omega)]
def Ala (out:List Int) (n:Int) (hl:out.length≤1000000000000):Tot (λ k=>Dn k out n) (λ r=>r=out++Ou (Bm n)):=by
 have hc:=O3 n
 have fin:Tot (λ k=>(Cw k ((Bm n:Nat):Int) (([]:List Int)++out)).bind λ r1=>cond (Nat.ble ((length r1.2+length [wrap .u8 r1.1])*1) 140737488355328) (some (r1.2++[wrap .u8 r1.1])) none) (λ r=>r=out++Ou (Bm n)):=by
  rw[Vy]
  refine H2b (Oja 4 (Bm n) out (by omega) (by omega) (by omega)) ?_
  rintro r ⟨m,h1,h2,h3,h4⟩
  rw[h1,Gpa m (by omega)]
  exact H9b (by simp only[Vd,Vk];omega) (H1b h3)
 unfold Dn
 refine H9b (by simp only[Vk];omega) ?_
 refine H8b (λ h1=>?_) (λ h1=>?_)
 ·refine H6b (by omega) ?_
  have e:((Bm n:Nat):Int)=1000000000:=by unfold Bm;omega
  rw[e]at fin
  exact fin
 ·refine H8b (λ h2=>?_) (λ h2=>?_)
  ·have e:((Bm n:Nat):Int)=0:=by unfold Bm;omega
   rw[e]at fin
   exact fin
  ·have e:((Bm n:Nat):Int)=n:=by unfold Bm;omega
   rw[e]at fin
   exact fin
def Ml (n:Nat):(Ou n).length≤5∧0<(Ou n).length:=Sja 4 n
def Cma:∀ (f n:Nat),n<128 ^ (f+1)→Al (Bfa f n)
 |0,n,hn=>by
  intro x hx
  simp only[Bfa,Vu]at hx
  have:n<128:=by simpa using hn
  omega
 |f+1,n,hn=>by
  unfold Bfa
  split
  ·intro x hx
   simp only[Vu]at hx
   omega
  ·intro x hx
   rcases Vl.1 hx with rfl|hx
   ·omega
   ·exact Cma f (n/128) (by rw[Hkb]at hn;omega) x hx
def Oka (n:Nat) (hn:n≤1000000000):Al (Ou n):=Cma 4 n (by omega)
def Cna (s:ByteArray):Al (bytesOf s):=by
 intro x hx
 unfold bytesOf at hx
 obtain⟨b,_,rfl⟩:=Zb.1 hx
 have:=b.toNat_lt
 omega
def Q2 (s:ByteArray):(bytesOf s).length=s.size:=by
 unfold bytesOf
 rw[Wd]
 exact Zd
def U4 (s:ByteArray):L7 (bytesOf s)=s:=by
 unfold L7 bytesOf
 rw[Ijb]
 have:(λ n:Int=>UInt8.ofNat n.toNat) ∘ (λ b:UInt8=>(b.toNat:Int))=id:=by
  funext b
  show UInt8.ofNat ((b.toNat:Int)).toNat=b
  rw[Vc]
  exact UInt8.ofNat_toNat
 rw[this,List.map_id]
def Nr {l:List Int} (h:Al l):bytesOf (L7 l)=l:=by
 unfold L7 bytesOf
 show List.map _ (List.map _ l)=l
 rw[Ijb]
 have:∀ x∈l,((λ b:UInt8=>(b.toNat:Int)) ∘ (λ n:Int=>UInt8.ofNat n.toNat)) x=x:=by
  intro x hx
  have hb:=h x hx
  show ((UInt8.ofNat x.toNat).toNat:Int)=x
  rw[UInt8.toNat_ofNat']
  omega
 exact(Hsb this).trans (List.map_id' l)
def Ns (l:List Int):(L7 l).size=l.length:=by
 unfold L7
 show (List.map _ l).toArray.size=l.length
 simp
def txt (s:ByteArray):List Int:=Ou (Bm (s.size:Int))++bytesOf s
def Wva (out:List Int) (s:ByteArray) (hl:out.length≤1000000000000) (hs:s.size≤1000000000000):Tot (λ k=>Ip k out s) (λ r=>r=out++txt s):=by
 unfold Ip txt
 refine Hdb (Aka out _ hl) ?_
 have:=(Ml (Bm (s.size:Int))).1
 refine H9b (by simp only[Ve];omega) (H1b ?_)
 rw[Vo]
def Wwa (out:List Int) (s:ByteArray) (hl:out.length≤1000000000000) (hs:s.size≤1000000000000):Tot (λ k=>Iy k out s) (λ r=>r=out++txt s):=by
 unfold Iy txt
 refine Hdb (Ala out _ hl) ?_
 have:=(Ml (Bm (s.size:Int))).1
 refine H9b (by simp only[Ve];omega) (H1b ?_)
 rw[Vo]
def M5a (l:List Int) (p:Nat):Option (ByteArray×Nat):=match Ox l p with
 |some (n,q)=>if q+n≤l.length then some (L7 ((l.drop q).take n),q+n) else none
 |none=>none
def D9b (l:List Int) (p:Int):ByteArray×Int×Bool:=if p<0 then ((⟨#[]⟩:ByteArray),0,false) else match M5a l p.toNat with
 |some (s,q)=>(s,(q:Int),true)
 |none=>((⟨#[]⟩:ByteArray),0,false)
def Coa (l:List Int) (hb:Al l) (p:Int):Jla l p=(0,0,false)∨∃ n q,0≤p∧Ox l p.toNat=some (n,q)∧Jla l p=((n:Int),(q:Int),true)∧n≤1000000000∧q≤l.length:=by
 unfold Jla
 by_cases h:p<0
 ·rw[if_pos h];exact .inl rfl
 ·rw[if_neg h]
  cases hg:Ox l p.toNat with
  |none=>exact .inl rfl
  |some nq=>
   obtain⟨n,q⟩:=nq
   have:=Sy hb hg
   exact .inr ⟨n,q,by omega,rfl,rfl,this.2.1,this.2.2.2⟩
def M6a (l:List Int) (hb:Al l) (hl:l.length≤1000000000000) (p:Int) (hp:p≤1000000000000):Tot (λ k=>Io k l p) (λ r=>r=D9b l p):=by
 unfold Io
 refine Hdb (Sma l hb hl p hp) ?_
 unfold D9b M5a
 rcases Coa l hb p with h|⟨n,q,h0,hg,h,hn,hq⟩
 ·rw[h]
  refine H4b rfl (H1b ?_)
  unfold Jla at h
  split
  ·rfl
  ·rename_i h0
   rw[if_neg h0]at h
   cases hg:Ox l p.toNat with
   |none=>rfl
   |some nq=>rw[hg]at h;simp at h
 ·rw[h]
  refine H3b rfl ?_
  rw[if_neg (by omega),hg]
  simp only
  rw[w64 (n:=(l.length:Int)-(q:Int)) (by omega) (by omega),w64 (n:=(q:Int)+(n:Int)) (by omega) (by omega)]
  refine H8b (λ hgt=>?_) (λ hgt=>?_)
  ·rw[if_neg (by omega)]
   exact H1b rfl
  ·rw[if_pos (by omega)]
   refine H5b (by omega) (H5b (by omega) (H5b (by omega) (H1b ?_)))
   rw[show toNat ((q:Int)+(n:Int))=q+n by omega,Vc,Iib,show q+n-q=n by omega]
   simp only[Vz,true_and,and_true]
   push_cast
   rfl
def E5a (l:List Int) (hb:Al l) (hl:l.length≤1000000000000) (p:Int):Tot (λ k=>Ix k l p) (λ r=>r=D9b l p):=by
 unfold Ix
 refine Hdb (V9 l hb hl p) ?_
 unfold D9b M5a
 rcases Coa l hb p with h|⟨n,q,h0,hg,h,hn,hq⟩
 ·rw[h]
  refine H4b rfl (H1b ?_)
  unfold Jla at h
  split
  ·rfl
  ·rename_i h0
   rw[if_neg h0]at h
   cases hg:Ox l p.toNat with
   |none=>rfl
   |some nq=>rw[hg]at h;simp at h
 ·rw[h]
  refine H3b rfl ?_
  rw[if_neg (by omega),hg]
  simp only
  rw[w64 (n:=(l.length:Int)-(q:Int)) (by omega) (by omega),w64 (n:=(q:Int)+(n:Int)) (by omega) (by omega)]
  refine H8b (λ hgt=>?_) (λ hgt=>?_)
  ·rw[if_neg (by omega)]
   exact H1b rfl
  ·rw[if_pos (by omega)]
   refine H5b (by omega) (H5b (by omega) (H5b (by omega) (H1b ?_)))
   rw[show toNat ((q:Int)+(n:Int))=q+n by omega,Vc,Iib,show q+n-q=n by omega]
   simp only[Vz,true_and,and_true]
   push_cast
   rfl
def Jma {l:List Int} {p q:Nat} {s:ByteArray} (hb:Al l) (h:M5a l p=some (s,q)):l.drop p=txt s++l.drop q∧s.size≤1000000000∧p<q∧q≤l.length:=by
 unfold M5a at h
 split at h
 ·rename_i n q0 hg
  obtain⟨h1,h2,h3,h4⟩:=Sy hb hg
  split at h
  ·rename_i hle
   simp only[Vg,Vz]at h
   obtain⟨rfl,rfl⟩:=h
   have hlen:((l.drop q0).take n).length=n:=by rw[Vq,Wc];omega
   have hbb:Al ((l.drop q0).take n):=λ x hx=>hb x (Zr (Hib hx))
   refine⟨?_,by rw[Ns,hlen];exact h2,by omega,by omega⟩
   unfold txt
   rw[Ns,hlen,Nr hbb,h1,show Bm (n:Int)=n by unfold Bm;omega,Vo]
   congr 1
   rw[← Yt,Wl]
  ·cases h
 ·cases h
def Wxa (pre:List Int) (s:ByteArray) (rest:List Int) (hs:s.size≤1000000000):M5a (pre++(txt s++rest)) pre.length=some (s,pre.length+(txt s).length):=by
 unfold M5a txt
 have hc:Bm (s.size:Int)=s.size:=by unfold Bm;omega
 rw[hc,Vo,M3a pre s.size _ hs]
 simp only
 rw[if_pos (by simp only[Ve,Q2];omega)]
 have e:(pre++(Ou s.size++(bytesOf s++rest))).drop (pre.length+(Ou s.size).length)=bytesOf s++rest:=by
  rw[← Vo,← Ve,Zn]
 rw[e,Jpb (Q2 s),U4]
 simp only[Ve,Q2,Vg,Vz,true_and]
 omega

def E6a (b:Bool):Int:=bif b then 1 else 0
def Bsb (b:Bool):Nb b=some (E6a b):=by cases b<;>rfl
def Wya (b:Bool):K8 b=some (E6a b):=by cases b<;>rfl
def Pja (s:Stp):List Int:=Ou (Bm s.1)++(Ou (Bm s.2.1)++Ou (Bm s.2.2))
def M7a (s:Stp):(Pja s).length≤15:=by
 unfold Pja
 have h1:=(Ml (Bm s.1)).1
 have h2:=(Ml (Bm s.2.1)).1
 have h3:=(Ml (Bm s.2.2)).1
 simp only[Ve]
 omega
def Ola (out:List Int) (s:Stp) (b:Bool) (hl:out.length≤999999999900):Tot (λ k=>Hw k out s b) (λ r=>r=out++(Pja s++Ou (Bm (E6a b)))):=by
 have h1:=(Ml (Bm s.1)).1
 have h2:=(Ml (Bm s.2.1)).1
 have h3:=(Ml (Bm s.2.2)).1
 unfold Hw Pja
 refine Hdb (Aka out s.1 (by omega)) ?_
 refine Hdb (Aka _ s.2.1 (by simp only[Ve];omega)) ?_
 refine Hdb (Aka _ s.2.2 (by simp only[Ve];omega)) ?_
 refine Hdb (Heb (Q:=λ y=>y=E6a b) (Bsb b) rfl) ?_
 refine Hdb (Aka _ (E6a b) (by simp only[Ve];omega)) ?_
 exact H1b (by simp only[Vo])
def Oma (out:List Int) (s:Stp) (hl:out.length≤999999999900):Tot (λ k=>Iz k out s) (λ r=>r=out++Pja s):=by
 have h1:=(Ml (Bm s.1)).1
 have h2:=(Ml (Bm s.2.1)).1
 unfold Iz Pja
 refine Hdb (Ala out s.1 (by omega)) ?_
 refine Hdb (Ala _ s.2.1 (by simp only[Ve];omega)) ?_
 refine Hdb (Ala _ s.2.2 (by simp only[Ve];omega)) ?_
 exact H1b (by simp only[Vo])
def Ama {s:ByteArray} (h:B0 s=true):1≤s.size∧s.size≤20:=by
 unfold B0 at h
 rw[Va,F9]at h
 omega
def Cpa {r:Row} (h:N5 r=true):B0 r.1=true:=by
 unfold N5 at h
 rw[Va]at h
 exact h.1
def Btb (s:ByteArray):(txt s).length≤5+s.size:=by
 have h1:=(Ml (Bm (s.size:Int))).1
 unfold txt
 simp only[Ve,Q2]
 omega

def Xt (l:List Int) (p:Nat):Jla l (p:Int)=match Ox l p with
 |some (n,q)=>((n:Int),(q:Int),true)
 |none=>(0,0,false):=by
 unfold Jla
 rw[if_neg (by omega),Vc]
 all_goals cases Ox l p<;>rfl
def M8a (l:List Int) (p:Nat):D9b l (p:Int)=match M5a l p with
 |some (s,q)=>(s,(q:Int),true)
 |none=>((⟨#[]⟩:ByteArray),0,false):=by
 unfold D9b
 rw[if_neg (by omega),Vc]
 all_goals cases M5a l p<;>rfl
def Bma (l:List Int) (hb:Al l) (hl:l.length≤1000000000000) (p:Nat) (hp:p≤l.length) (bad:Bool):
  Tot (λ k=>Cq k (l,(p:Int),bad)) (λ r=>(bad=false∧∃ n q:Nat,Ox l p=some (n,q)∧q≤l.length∧r=((n:Int),l,(q:Int),false))∨((bad=true∨Ox l p=none)∧r=(0,l,(p:Int),true))):=by
 unfold Cq
 refine Hdb (Sma l hb hl (p:Int) (by omega)) ?_
 refine H7b (λ h=>H1b (.inr ⟨.inl h,rfl⟩)) (λ h=>?_)
 rw[Xt]
 cases hg:Ox l p with
 |none=>exact H4b rfl (H1b (.inr ⟨.inr rfl,rfl⟩))
 |some nq=>
  obtain⟨n,q⟩:=nq
  simp only at h
  subst h
  exact H3b rfl (H1b (.inl ⟨rfl,n,q,rfl,(Sy hb hg).2.2.2,rfl⟩))
def G3b (l:List Int) (hb:Al l) (hl:l.length≤1000000000000) (p:Nat) (hp:p≤l.length):
  Tot (λ k=>Cp k (l,(p:Int),false)) (λ r=>(∃ (s:ByteArray) (q:Nat),M5a l p=some (s,q)∧q≤l.length∧r=(s,l,(q:Int),false))∨(M5a l p=none∧r=((⟨#[]⟩:ByteArray),l,(p:Int),true))):=by
 unfold Cp
 refine Hdb (M6a l hb hl (p:Int) (by omega)) ?_
 refine H3b rfl ?_
 rw[M8a]
 cases hg:M5a l p with
 |none=>exact H4b rfl (H1b (.inr ⟨rfl,rfl⟩))
 |some nq=>
  obtain⟨n,q⟩:=nq
  exact H3b rfl (H1b (.inl ⟨n,q,rfl,(Jma hb hg).2.2.2,rfl⟩))
def Qk (l:List Int) (p:Nat):Option ((Stp×Bool)×Nat):=
 (Ox l p).bind λ b=>(Ox l b.2).bind λ c=>(Ox l c.2).bind λ d=>(Ox l d.2).bind λ e=>bif decide (1<e.1) then none else
  some ((((b.1:Int),(c.1:Int),(d.1:Int)),(e.1:Int)==1),e.2)
def G4b (l:List Int) (hb:Al l) (hl:l.length≤1000000000000) (p:Nat) (hp:p≤l.length) (bad:Bool):
  Tot (λ k=>Dg k (l,(p:Int),bad)) (λ r=>(bad=false∧∃ (x:Stp×Bool) (q:Nat),Qk l p=some (x,q)∧q≤l.length∧r=(x.1,x.2,l,(q:Int),false))∨((bad=true∨Qk l p=none)∧∃ s b,∃ q:Nat,q≤l.length∧r=(s,b,l,(q:Int),true))):=by
 unfold Dg
 have nx:∀ {o:Option (Nat×Nat)} {f:Nat×Nat→Option ((Stp×Bool)×Nat)},o=none→o.bind f=none:=by
  intro o f h;rw[h];rfl
 refine H2b (Bma l hb hl p hp bad) ?_
 rintro r (⟨h0,n1,p1,h1,l1,rfl⟩|⟨h1,rfl⟩)
 ·simp only
  refine H2b (Bma l hb hl p1 l1 false) ?_
  rintro r (⟨_,n2,p2,h2,l2,rfl⟩|⟨h2,rfl⟩)
  ·simp only
   refine H2b (Bma l hb hl p2 l2 false) ?_
   rintro r (⟨_,n3,p3,h3,l3,rfl⟩|⟨h3,rfl⟩)
   ·simp only
    refine H2b (Bma l hb hl p3 l3 false) ?_
    rintro r (⟨_,n4,p4,h4,l4,rfl⟩|⟨h4,rfl⟩)
    ·simp only
     refine H3b rfl (H1b ?_)
     have e:Qk l p=bif decide (1<n4) then none else some ((((n1:Int),(n2:Int),(n3:Int)),(n4:Int)==1),p4):=by
      unfold Qk
      simp only[h1,h2,h3,h4,Vs]
     cases hd:decide (1<n4) with
     |true=>
      rw[hd,cond_true]at e
      refine .inr ⟨.inr e,((n1:Int),(n2:Int),(n3:Int)),((n4:Int)==1),p4,l4,?_⟩
      have:decide ((n4:Int) > 1)=true:=decide_eq_true (by have:=of_decide_eq_true hd;omega)
      rw[this]
     |false=>
      rw[hd,cond_false]at e
      refine .inl ⟨h0,_,p4,e,l4,?_⟩
      have:decide ((n4:Int) > 1)=false:=decide_eq_false (by have:=of_decide_eq_false hd;omega)
      rw[this]
    ·refine H4b rfl (H1b (.inr ⟨.inr ?_,_,_,p3,l3,rfl⟩))
     have h4':=h4.resolve_left (by simp)
     unfold Qk
     simp only[h1,h2,h3,h4',Vs,I0b]
   ·simp only
    refine H2b (Bma l hb hl p2 l2 true) ?_
    rintro r (⟨hh,_⟩|⟨_,rfl⟩)
    ·cases hh
    ·refine H4b rfl (H1b (.inr ⟨.inr ?_,_,_,p2,l2,rfl⟩))
     have h3':=h3.resolve_left (by simp)
     unfold Qk
     simp only[h1,h2,h3',Vs,I0b]
  ·simp only
   refine H2b (Bma l hb hl p1 l1 true) ?_
   rintro r (⟨hh,_⟩|⟨_,rfl⟩)
   ·cases hh
   ·refine H2b (Bma l hb hl p1 l1 true) ?_
    rintro r (⟨hh,_⟩|⟨_,rfl⟩)
    ·cases hh
    ·refine H4b rfl (H1b (.inr ⟨.inr ?_,_,_,p1,l1,rfl⟩))
     have h2':=h2.resolve_left (by simp)
     unfold Qk
     simp only[h1,h2',Vs,I0b]
 ·simp only
  refine H2b (Bma l hb hl p hp true) ?_
  rintro r (⟨hh,_⟩|⟨_,rfl⟩)
  ·cases hh
  ·refine H2b (Bma l hb hl p hp true) ?_
   rintro r (⟨hh,_⟩|⟨_,rfl⟩)
   ·cases hh
   ·refine H2b (Bma l hb hl p hp true) ?_
    rintro r (⟨hh,_⟩|⟨_,rfl⟩)
    ·cases hh
    ·refine H4b rfl (H1b (.inr ⟨?_,_,_,p,hp,rfl⟩))
     rcases h1 with h1|h1
     ·exact .inl h1
     ·refine .inr ?_
      unfold Qk
      rw[h1]
      rfl
def Bub (l:List Int) (hb:Al l) (hl:l.length≤1000000000000) (p:Int):
  Tot (λ k=>Fi k l p) (λ r=>(∃ n1 p1 n2 p2 n3 p3,0≤p∧Ox l p.toNat=some (n1,p1)∧Ox l p1=some (n2,p2)∧Ox l p2=some (n3,p3)∧r=(((n1:Int),(n2:Int),(n3:Int)),(p3:Int),true))∨(((Ox l p.toNat).bind λ a=>(Ox l a.2).bind λ b=>Ox l b.2)=none∨p<0)∧r.2.2=false):=by
 unfold Fi
 refine Hdb (V9 l hb hl p) ?_
 refine Hdb (V9 l hb hl _) ?_
 refine Hdb (V9 l hb hl _) ?_
 by_cases hp:p<0
 ·have:(Jla l p).2.2=false:=by unfold Jla;rw[if_pos hp]
  exact H3b this (H1b (.inr ⟨.inr hp,rfl⟩))
 ·have e1:Jla l p=match Ox l p.toNat with|some (n,q)=>((n:Int),(q:Int),true)|none=>(0,0,false):=by
   unfold Jla;rw[if_neg hp];all_goals cases Ox l p.toNat<;>rfl
  cases h1:Ox l p.toNat with
  |none=>
   rw[h1]at e1
   simp only[e1]
   exact H3b rfl (H1b (.inr ⟨.inl rfl,rfl⟩))
  |some a=>
   obtain⟨n1,p1⟩:=a
   rw[h1]at e1
   simp only[e1,Xt,Vs]
   refine H4b rfl ?_
   cases h2:Ox l p1 with
   |none=>exact H3b rfl (H1b (.inr ⟨.inl rfl,rfl⟩))
   |some b=>
    obtain⟨n2,p2⟩:=b
    refine H4b rfl ?_
    simp only[Xt,Vs]
    cases h3:Ox l p2 with
    |none=>exact H1b (.inr ⟨.inl rfl,rfl⟩)
    |some c=>
     obtain⟨n3,p3⟩:=c
     exact H1b (.inl ⟨n1,p1,n2,p2,n3,p3,by omega,rfl,h2,h3,rfl⟩)
def Sna {l:List Int} {p:Nat} (h:((Ox l p).bind λ a=>(Ox l a.2).bind λ b=>Ox l b.2)=none):Qk l p=none:=by
 unfold Qk
 cases h1:Ox l p with
 |none=>rfl
 |some a=>
  rw[h1]at h
  simp only[Vs]at h ⊢
  cases h2:Ox l a.2 with
  |none=>rfl
  |some b=>
   rw[h2]at h
   simp only[Vs]at h ⊢
   rw[h]
   rfl

def Jna:∀ s∈Le,Lb s∧B0 s=true:=by
 intro s hs
 simp only[Le,Vl,Hjb,or_false]at hs
 rcases hs with rfl|rfl|rfl|rfl|rfl|rfl<;>exact⟨by unfold Lb;decide,by decide⟩

abbrev Nmd:=ByteArray×List Int
abbrev Dsk:=List Nmd×List Nmd
def Dc:Nmd:=((⟨#[]⟩:ByteArray),[])
def Gqa (l:List Nmd):Prop:=l.length≤1000000000000∧∀ x∈l,x.2.length≤1000000000000
def Wza (d:Dsk):Prop:=Gqa d.1∧Gqa d.2
def Mz (l:List Int) (h:l.length≤1000000000000):Aq l=some l:=by
 unfold Aq
 rw[show Nat.ble ((length ([]:List Int)+length l)*1) 140737488355328=true from Zo (by simp only[Vk];omega)]
 rfl
def X8 (l:List Nmd) (hf:Gqa l):∀ (n i:Nat) (acc:List Nmd),l.length-i=n→i≤l.length→acc.length≤i→
  Tot (λ k=>Dd k acc l (l.length:Int) (i:Int)) (λ r=>r=acc++l.drop i):=by
 obtain⟨h1,h2⟩:=hf
 intro n
 induction n with
 |zero=>
  intro i acc hd hi ha
  refine Tot.succ ?_
  simp only[Dd]
  refine H6b (by omega) (H1b ?_)
  rw[Wj (by omega),Wp]
 |succ n ih=>
  intro i acc hd hi ha
  have hlt:i<l.length:=by omega
  refine Tot.succ ?_
  simp only[Dd]
  refine H5b (by omega) (H5b (by omega) (H5b (by omega) ?_))
  rw[show toNat (i:Int)=i from Vc i,w64 (n:=(i:Int)+1) (by omega) (by omega),Ah (d:=Dc) hlt]
  have e0:l.getD i ((⟨#[]⟩:ByteArray),([]:List Int))=l.getD i Dc:=rfl
  rw[e0]
  have hb:=h2 _ (A3 (d:=Dc) hlt)
  refine Hdb (Heb (Q:=λ r=>r=(l.getD i Dc).2) (Mz _ hb) rfl) ?_
  refine H9b (by simp only[Vd,Vk];omega) ?_
  refine(ih (i+1) (acc++[l.getD i Dc]) (by omega) (by omega) (by simp only[Ve,Vd,Vk];omega)).mono ?_
  rintro r rfl
  rw[Vo]
  rfl
def U5 (l:List Nmd) (hf:Gqa l):Tot (λ k=>C2 k l) (λ r=>r=l):=by
 unfold C2
 refine H2b (X8 l hf _ 0 [] rfl (Vp _) (Vp _)) ?_
 intro r hr
 rw[Wo,Vy]at hr
 exact H1b hr
def J5 (d:Dsk) (hf:Wza d):Tot (λ k=>A5 k d) (λ r=>r=d):=by
 unfold A5
 refine Hdb (U5 d.1 hf.1) ?_
 refine Hdb (U5 d.2 hf.2) ?_
 exact H1b rfl
def fnd (l:List Nmd) (s:ByteArray):Option Nat:=l.findIdx? (λ x=>teq x.1 s)
def Gra (l:List Nmd) (s:ByteArray):Int:=match fnd l s with
 |some i=>(i:Int)
 |none => -1
def Soa (l:List Nmd) (s:ByteArray) (hf:l.length≤1000000000000):∀ (n i:Nat),l.length-i=n→i≤l.length→
  Tot (λ k=>Ki k s l (l.length:Int) (i:Int)) (λ r=>r=match fnd (l.drop i) s with|some j => .inl ((i+j:Nat):Int)|none => .inr ()):=by
 intro n
 induction n with
 |zero=>
  intro i hd hi
  refine Tot.succ ?_
  simp only[Ki]
  refine H6b (by omega) (H1b ?_)
  rw[Wj (by omega)]
  rfl
 |succ n ih=>
  intro i hd hi
  have hlt:i<l.length:=by omega
  refine Tot.succ ?_
  simp only[Ki]
  refine H5b (by omega) (H5b (by omega) (H5b (by omega) ?_))
  rw[show toNat (i:Int)=i from Vc i,w64 (n:=(i:Int)+1) (by omega) (by omega),Ah (d:=Dc) hlt]
  have e0:l.getD i ((⟨#[]⟩:ByteArray),([]:List Int))=l.getD i Dc:=rfl
  rw[e0]
  have e1:fnd (l.getD i Dc::l.drop (i+1)) s=if teq (l.getD i Dc).1 s then some 0 else (fnd (l.drop (i+1)) s).map (· + 1):=by
   unfold fnd
   rw[J3b]
  rw[e1]
  refine H7b (λ h=>?_) (λ h=>?_)
  ·have h':teq (l.getD i Dc).1 s=true:=h
   rw[if_pos h']
   exact H1b rfl
  ·have h':¬ (teq (l.getD i Dc).1 s=true):=by
    have:teq (l.getD i Dc).1 s=false:=h
    rw[this];simp
   rw[if_neg h']
   refine(ih (i+1) (by omega) (by omega)).mono ?_
   rintro r rfl
   cases fnd (l.drop (i+1)) s with
   |none=>rfl
   |some j=>
    show Sum.inl _=Sum.inl _
    rw[show i+1+j=i+(j+1) by omega]
def M9a (l:List Nmd) (s:ByteArray) (hf:l.length≤1000000000000):Tot (λ k=>K5 k l s) (λ r=>r=Gra l s):=by
 unfold K5 Gra
 refine Hdb (Soa l s hf _ 0 rfl (Vp _)) ?_
 rw[Wo]
 cases fnd l s with
 |none=>exact H1b rfl
 |some j=>
  refine H1b ?_
  rw[Wk]
def Nn {l:List Nmd} {s:ByteArray} {i:Nat} (h:fnd l s=some i):i<l.length∧(l.getD i Dc).1=s:=by
 unfold fnd at h
 rw[J4b]at h
 obtain⟨h1,h2,_⟩:=h
 refine⟨h1,?_⟩
 rw[Vb,Vj h1]
 exact Cu.1 h2
def del (l:List Nmd) (s:ByteArray):List Nmd:=match fnd l s with
 |some i=>l.take i++l.drop (i+1)
 |none=>l
def U6 (l:List Nmd) (s:ByteArray) (hf:l.length≤1000000000000):Tot (λ k=>Gu k l s) (λ r=>r=del l s):=by
 unfold Gu del
 refine Hdb (M9a l s hf) ?_
 unfold Gra
 cases h:fnd l s with
 |none=>exact H5b (by decide) (H1b rfl)
 |some i=>
  have hl:=(Nn h).1
  dsimp only
  refine H6b (by omega) (H5b (by omega) (H5b (by omega) ?_))
  rw[w64 (n:=(i:Int)+1) (by omega) (by omega),show toNat (i:Int)=i from Vc i,show toNat ((i:Int)+1)=i+1 by omega]
  refine H9b (by simp only[Vk,Vq];omega) ?_
  refine H5b (by omega) (H5b (by omega) (H9b (by simp only[Ve,Vk,Vq,Wc];omega) (H1b rfl)))

def nOk (x:Nmd):Bool:=B0 x.1&&!(decide ((x.2.length:Int) > 400))
def chn:Option ByteArray→List Nmd→Bool
 |_,[]=>true
 |none,r::l=>nOk r&&chn (some r.1) l
 |some q,r::l=>nOk r&&(tlt q r.1&&chn (some r.1) l)
def Il (l:List Nmd):Bool:=chn none l&&decide ((l.length:Int)≤60)
def Ay (d:Dsk):Bool:=Il d.1&&Il d.2
def Pd (l:List Nmd):Prop:=∀ x∈l,Lb x.1
def Ana (d:Dsk):Prop:=Pd d.1∧Pd d.2
def X9 (l:List Nmd):Nat→Option ByteArray
 |0=>none
 |i+1=>some (l.getD i Dc).1
def Maa (l:List Nmd) (i:Nat) (h:i<l.length):chn (X9 l i) (l.drop i)=(nOk (l.getD i Dc)&&(bif decide (0<i) then tlt (l.getD (i-1) Dc).1 (l.getD i Dc).1 else true)&&chn (X9 l (i+1)) (l.drop (i+1))):=by
 rw[Ah (d:=Dc) h]
 cases i with
 |zero=>simp[X9,chn]
 |succ i=>simp[X9,chn,Kkb]
def Gsa (l:List Nmd) (hf:l.length≤1000000000000) (hs:Pd l):∀ (n i:Nat),l.length-i=n→i≤l.length→
  Tot (λ k=>Ea k l l (l.length:Int) (i:Int)) (λ r=>r=bif chn (X9 l i) (l.drop i) then .inr l else .inl false):=by
 intro n
 induction n with
 |zero=>
  intro i hn hi
  refine Tot.succ ?_
  simp only[Ea]
  refine H6b (by omega) (H1b ?_)
  rw[Wj (by omega)]
  cases X9 l i<;>rfl
 |succ n ih=>
  intro i hn hi
  have hlt:i<l.length:=by omega
  refine Tot.succ ?_
  simp only[Ea]
  refine H5b (by omega) (H5b (by omega) (H5b (by omega) ?_))
  rw[show toNat (i:Int)=i from Vc i,w64 (n:=(i:Int)+1) (by omega) (by omega),Maa l i hlt]
  have h1:=ih (i+1) (by omega) (by omega)
  have e:(((i+1:Nat)):Int)=(i:Int)+1:=by omega
  rw[e]at h1
  have e0:l.getD i ((⟨#[]⟩:ByteArray),([]:List Int))=l.getD i Dc:=rfl
  rw[e0]
  refine Hdb (Q1 (l.getD i Dc).1 (hs _ (A3 hlt))) ?_
  cases hb:B0 (l.getD i Dc).1
  ·exact H4b rfl (H1b (by rw[show nOk (l.getD i Dc)=false by unfold nOk;rw[hb];rfl];rfl))
  refine H3b rfl ?_
  refine H8b (λ h4=>H1b (by rw[show nOk (l.getD i Dc)=false by unfold nOk;rw[decide_eq_true h4,hb];rfl];rfl)) (λ h4=>?_)
  have hnk:nOk (l.getD i Dc)=true:=by unfold nOk;rw[hb,decide_eq_false h4];rfl
  rw[hnk,Vx]
  refine H8b (λ h0=>?_) (λ h0=>?_)
  ·rw[w64 (n:=(i:Int)-1) (by omega) (by omega)]
   refine H5b (by omega) (H5b (by omega) ?_)
   rw[show toNat ((i:Int)-1)=i-1 by omega,decide_eq_true (show 0<i by omega),cond_true]
   refine H7b (λ ht=>?_) (λ ht=>?_)
   ·have ht':(!(tlt (l.getD (i-1) Dc).1 (l.getD i Dc).1))=true:=ht
    rw[Wa]at ht'
    exact H1b (by rw[ht'];rfl)
   ·have ht':(!(tlt (l.getD (i-1) Dc).1 (l.getD i Dc).1))=false:=ht
    rw[Yb]at ht'
    rw[ht',Vx]
    exact h1
  ·rw[decide_eq_false (show ¬ 0<i by omega),cond_false,Vx]
   exact h1
def Gta (l:List Nmd) (hf:l.length≤1000000000000) (hs:Pd l):∀ (n i:Nat),l.length-i=n→i≤l.length→
  Tot (λ k=>Fx k l (i:Int)) (λ r=>r=bif chn (X9 l i) (l.drop i) then .inr l else .inl false):=by
 intro n
 induction n with
 |zero=>
  intro i hn hi
  refine Tot.succ ?_
  simp only[Fx]
  refine H6b (by omega) (H1b ?_)
  rw[Wj (by omega)]
  cases X9 l i<;>rfl
 |succ n ih=>
  intro i hn hi
  have hlt:i<l.length:=by omega
  refine Tot.succ ?_
  simp only[Fx]
  refine H5b (by omega) (H5b (by omega) (H5b (by omega) ?_))
  rw[show toNat (i:Int)=i from Vc i,w64 (n:=(i:Int)+1) (by omega) (by omega),Maa l i hlt]
  have h1:=ih (i+1) (by omega) (by omega)
  have e:(((i+1:Nat)):Int)=(i:Int)+1:=by omega
  rw[e]at h1
  have e0:l.getD i ((⟨#[]⟩:ByteArray),([]:List Int))=l.getD i Dc:=rfl
  rw[e0]
  refine Hdb (U0 (l.getD i Dc).1 (hs _ (A3 hlt))) ?_
  cases hb:B0 (l.getD i Dc).1
  ·exact H4b rfl (H1b (by rw[show nOk (l.getD i Dc)=false by unfold nOk;rw[hb];rfl];rfl))
  refine H3b rfl (H5b (by omega) (H5b (by omega) ?_))
  refine H8b (λ h4=>H1b (by rw[show nOk (l.getD i Dc)=false by unfold nOk;rw[decide_eq_true h4,hb];rfl];rfl)) (λ h4=>?_)
  have hnk:nOk (l.getD i Dc)=true:=by unfold nOk;rw[hb,decide_eq_false h4];rfl
  rw[hnk,Vx]
  refine H8b (λ h0=>?_) (λ h0=>?_)
  ·rw[w64 (n:=(i:Int)-1) (by omega) (by omega)]
   refine H5b (by omega) (H5b (by omega) (H5b (by omega) (H5b (by omega) ?_)))
   rw[show toNat ((i:Int)-1)=i-1 by omega,decide_eq_true (show 0<i by omega),cond_true]
   refine H7b (λ ht=>?_) (λ ht=>?_)
   ·have ht':(!(tlt (l.getD (i-1) Dc).1 (l.getD i Dc).1))=true:=ht
    rw[Wa]at ht'
    exact H1b (by rw[ht'];rfl)
   ·have ht':(!(tlt (l.getD (i-1) Dc).1 (l.getD i Dc).1))=false:=ht
    rw[Yb]at ht'
    rw[ht',Vx]
    exact h1
  ·rw[decide_eq_false (show ¬ 0<i by omega),cond_false,Vx]
   exact h1
def Gua (l:List Nmd) (hf:l.length≤1000000000000) (hs:Pd l):Tot (λ k=>Dx k l) (λ r=>r=Il l):=by
 unfold Dx Il
 refine Hdb (Gsa l hf hs _ 0 rfl (Vp _)) ?_
 rw[Wo]
 show Tot _ (λ r=>r=(chn none l&&_))
 cases hc:chn none l with
 |true=>rw[show chn (X9 l 0) l=true from hc];exact H1b (by rw[Vx])
 |false=>rw[show chn (X9 l 0) l=false from hc];exact H1b rfl
def Gva (l:List Nmd) (hf:l.length≤1000000000000) (hs:Pd l):Tot (λ k=>Fj k l) (λ r=>r=Il l):=by
 unfold Fj Il
 refine Hdb (Gta l hf hs _ 0 rfl (Vp _)) ?_
 rw[Wo]
 show Tot _ (λ r=>r=(chn none l&&_))
 cases hc:chn none l with
 |true=>rw[show chn (X9 l 0) l=true from hc];exact H1b (by rw[Vx])
 |false=>rw[show chn (X9 l 0) l=false from hc];exact H1b rfl
def Rx (d:Dsk) (hf:Wza d) (hs:Ana d):Tot (λ k=>Bp k d) (λ r=>r=Ay d):=by
 unfold Bp Ay
 refine Hdb (Gua d.1 hf.1.1 hs.1) ?_
 cases h:Il d.1
 ·exact H3b rfl (H1b rfl)
 refine H4b rfl (Hdb (Gua d.2 hf.2.1 hs.2) ?_)
 exact H1b (by rw[Vx])
def plc (l:List Nmd) (s:ByteArray):Nat:=(l.takeWhile (λ y=>tlt y.1 s)).length
def ins (l:List Nmd) (x:Nmd):List Nmd:=l.take (plc l x.1)++[x]++l.drop (plc l x.1)
def Z9a (l:List Nmd) (s:ByteArray):plc l s≤l.length:=(Kab _).length_le
def Joa (l:List Nmd) (s:ByteArray) (b:List Int) (hf:l.length≤1000000000000):∀ (n i:Nat),l.length-i=n→i≤l.length→
  Tot (λ k=>Jj k l (i:Int) s b) (λ r=>r=(l,((i+plc (l.drop i) s:Nat):Int),s,b)):=by
 intro n
 induction n with
 |zero=>
  intro i hd hi
  refine Tot.succ ?_
  simp only[Jj]
  refine H6b (by omega) (H1b ?_)
  rw[Wj (by omega)]
  rfl
 |succ n ih=>
  intro i hd hi
  have hlt:i<l.length:=by omega
  refine Tot.succ ?_
  simp only[Jj]
  refine H5b (by omega) (H5b (by omega) (H5b (by omega) ?_))
  rw[show toNat (i:Int)=i from Vc i,w64 (n:=(i:Int)+1) (by omega) (by omega),Ah (d:=Dc) hlt]
  have e0:l.getD i ((⟨#[]⟩:ByteArray),([]:List Int))=l.getD i Dc:=rfl
  rw[e0]
  have e1:plc (l.getD i Dc::l.drop (i+1)) s=if tlt (l.getD i Dc).1 s then plc (l.drop (i+1)) s+1 else 0:=by
   unfold plc
   rw[Zp]
   split<;>rfl
  rw[e1]
  refine H7b (λ h=>?_) (λ h=>?_)
  ·have h':tlt (l.getD i Dc).1 s=true:=h
   rw[if_pos h']
   refine(ih (i+1) (by omega) (by omega)).mono ?_
   rintro r rfl
   rw[show i+1+plc (l.drop (i+1)) s=i+(plc (l.drop (i+1)) s+1) by omega]
  ·have h':¬ (tlt (l.getD i Dc).1 s=true):=by
    have:tlt (l.getD i Dc).1 s=false:=h
    rw[this];simp
   rw[if_neg h']
   exact H1b rfl
def Mba (l:List Nmd) (x:Nmd) (hf:l.length≤1000000000000):Tot (λ k=>Kz k l x) (λ r=>r=ins l x):=by
 unfold Kz ins
 refine H2b (Joa l x.1 x.2 hf _ 0 rfl (Vp _)) ?_
 intro r hr
 rw[Wo,Wk]at hr
 subst hr
 have hp:=Z9a l x.1
 dsimp only
 refine H5b (by omega) (H5b (by omega) ?_)
 rw[show toNat ((plc l x.1:Nat):Int)=plc l x.1 from Vc _]
 refine H9b (by simp only[Vk,Vq];omega) ?_
 refine H9b (by simp only[Ve,Vk,Vq,Vd];omega) ?_
 refine H5b (by omega) (H5b (by omega) (H9b (by simp only[Ve,Vk,Vq,Wc,Vd];omega) (H1b ?_)))
 rw[Vy]

end Go.Proofs.YtiiekghlhfbmmaaGreat.Vf
