import Derived.Test.YtiiekghlhfbmmaaGreatMak
import Derived.Test.YtiiekghlhfbmmaaGreatMab
import Derived.IntWalk
import Derived.Laws.StructEq
set_option linter.all false
namespace Go.Proofs.YtiiekghlhfbmmaaGreat.Vf
open Go
open List (length getD)
open Int (toNat)
open Go.IntKind (wrap)
open BitVec (ofInt)
def Vc:=@Int.toNat_natCast
def Vw:=@Bool.true_and
def Vz:=@List.drop_length
def Wk:=@List.drop_of_length_le
def Wl:=@Bool.not_eq_false'
def Ys:=@List.mem_or_eq_of_mem_set
def Yt:=@Bool.false_and
def Zf:=@List.mem_iff_getElem
def Zj:=@List.pairwise_iff_getElem
def Kab:=@List.not_mem_nil
def Kbb:=@Nat.pow_succ
def Kcb:=@Int.tmod_eq_emod_of_nonneg
def Kdb:=@Int.fdiv_eq_ediv_of_nonneg
def Kgb:=@Sum.elim_inr
def Kpb:=@Int.tdiv_eq_ediv_of_nonneg
def Ksb:=@Option.bind_none
def Kvb:=@List.findIdx?_eq_some_iff_getElem
def L1b:=@List.find?_cons
def L9b:=@Option.some.inj
def Lgb:=@BitVec.toNat_and
def Ljb:=@List.getElem_of_mem
def Ltb:=@BitVec.toNat_ofInt
def Lub:=@IntKind.wrap_u8
def Lvb:=@List.findIdx?_cons
def M5b:=@List.Pairwise.sublist
def M6b:=@Nat.and_two_pow_sub_one_eq_mod
def Mtb:=@List.mem_of_find?_eq_some
def Mub:=@Nat.mul_le_mul
def Mxb:=@List.take_sublist
def N2b:=@List.getElem_set
def N6b:=@Bool.and_eq_false_iff
def Nhb:=@Nat.mul_comm

def Tot {α:Type} (f:Nat→Option α) (Q:α→Prop):Prop:=∃ r K,(∀ k,K≤k→f k=some r)∧Q r
section
variable {α β:Type} {f g:Nat→Option α} {Q Q':α→Prop}
def Tot.mono (h:Tot f Q) (hq:∀ a,Q a→Q' a):Tot f Q':=by
 obtain⟨r,K,h1,h2⟩:=h;exact⟨r,K,h1,hq r h2⟩
def Jrb {a:α} (h:Q a):Tot (λ _=>some a) Q:=⟨a,0,λ _ _=>rfl,h⟩
def K5b {o:Option α} {a:α} (e:o=some a) (h:Q a):Tot (λ _=>o) Q:=⟨a,0,λ _ _=>e,h⟩
def Jsb {h:Nat→α→Option β} {R:β→Prop} (hf:Tot f Q) (hh:∀ a,Q a→Tot (λ k=>h k a) R):Tot (λ k=>(f k).bind (h k)) R:=by
 obtain⟨a,K,h1,h2⟩:=hf;obtain⟨b,L,h3,h4⟩:=hh a h2;exact⟨b,max K L,λ k hk=>by show (f k).bind (h k)=_;rw[h1 k (by omega)];exact h3 k (by omega),h4⟩
def Jub {c:Bool} (hc:c=true) (h:Tot f Q):Tot (λ k=>cond c (f k) (g k)) Q:=by subst hc;exact h
def Jtb {c:Bool} (hc:c=false) (h:Tot g Q):Tot (λ k=>cond c (f k) (g k)) Q:=by subst hc;exact h
def Jxb {c:Bool} (h1:c=true→Tot f Q) (h2:c=false→Tot g Q):Tot (λ k=>cond c (f k) (g k)) Q:=by
 cases hc:c with
 |true=>exact h1 hc
 |false=>exact h2 hc
def Jvb {p:Prop} [Decidable p] (hp:p) (h:Tot f Q):Tot (λ k=>cond (decide p) (f k) (g k)) Q:=Jub (decide_eq_true hp) h
def Jwb {p:Prop} [Decidable p] (hp:¬ p) (h:Tot g Q):Tot (λ k=>cond (decide p) (f k) (g k)) Q:=Jtb (decide_eq_false hp) h
def Jyb {p:Prop} [Decidable p] (h1:p→Tot f Q) (h2:¬ p→Tot g Q):Tot (λ k=>cond (decide p) (f k) (g k)) Q:=
 Jxb (λ h=>h1 (of_decide_eq_true h)) (λ h=>h2 (of_decide_eq_false h))
def Jzb {m n:Nat} (hp:m≤n) (h:Tot f Q):Tot (λ k=>cond (Nat.ble m n) (f k) (g k)) Q:=Jub (Zp hp) h
def K3b {v:α} {h:Nat→α→Option β} {R:β→Prop} (hf:Tot f (λ r=>r=v)) (hh:Tot (λ k=>h k v) R):Tot (λ k=>(f k).bind (h k)) R:=
 Jsb hf (by rintro r rfl;exact hh)
def K4b {c:Bool} (h1:c=false→Tot f Q) (h2:c=true→Tot g Q):Tot (λ k=>cond (!c) (f k) (g k)) Q:=by
 cases hc:c with
 |true=>exact h2 hc
 |false=>exact h1 hc
def Tot.succ (h:Tot (λ k=>f (k+1)) Q):Tot f Q:=by
 obtain⟨r,K,h1,h2⟩:=h;exact⟨r,K+1,λ k hk=>by obtain⟨m,rfl⟩:∃ m,k=m+1:=⟨k-1,by omega⟩;exact h1 m (by omega),h2⟩
def Tot.and (h:Tot f Q) (h':Tot f Q'):Tot f (λ a=>Q a∧Q' a):=by
 obtain⟨r,K,h1,h2⟩:=h;obtain⟨r',K',h1',h2'⟩:=h'
 have e:r=r':=by
  have a1:=h1 (max K K') (by omega);have a2:=h1' (max K K') (by omega);rw[a1]at a2;exact L9b a2
 subst e;exact⟨r,K,h1,h2,h2'⟩
def Tot.law {f:Nat→Option Bool} (h:Tot f (λ b=>b=true)):∃ k,f k=some true:=by
 obtain⟨r,K,h1,h2⟩:=h;subst h2;exact⟨K,h1 K (Vv _)⟩
end
def w64 {n:Int} (h1 : -9223372036854775808≤n) (h2:n≤9223372036854775807):wrap .i64 n=n:=Go.IntWalk.i64_in n ⟨h1,h2⟩
def Eya (n:Int) : -9223372036854775808≤wrap .i64 n∧wrap .i64 n≤9223372036854775807:=by
 rw[IntKind.wrap_i64];omega
def J4a (n:Int):0≤wrap .u8 n∧wrap .u8 n≤255:=by
 simp only[wrap,IntKind.signed,IntKind.bits];simp;omega
def Ola (x m:Int) (h0:0≤m) (h1:m<9223372036854775808):0≤wrap .i64 ((ofInt (IntKind.bits .i64) x &&& ofInt (IntKind.bits .i64) m).toNat)∧wrap .i64 ((ofInt (IntKind.bits .i64) x &&& ofInt (IntKind.bits .i64) m).toNat)≤m:=by
 have hm:(ofInt (IntKind.bits .i64) m).toNat=m.toNat:=by
  rw[Ltb];show (m % ((2 ^ 64:Nat):Int)).toNat=m.toNat;rw[Int.emod_eq_of_lt h0 (by omega)]
 have hle:(ofInt (IntKind.bits .i64) x &&& ofInt (IntKind.bits .i64) m).toNat≤m.toNat:=by
  rw[Lgb,hm];exact Nat.and_le_right
 rw[w64 (by omega) (by omega)];omega
def Usa {x n:Int} (hx:0≤x) (hn:0<n):0≤Int.tmod x n∧Int.tmod x n<n:=by
 rw[Kcb hx];exact⟨Int.emod_nonneg _ (by omega),Int.emod_lt_of_pos _ hn⟩

abbrev Cur:=List Int×Int×Int
def Nk (c:Cur):Prop:=(c.1.length:Int)≤1048576∧0≤c.2.1∧c.2.1≤1048576
def Qva (b:List Int) (hb:(b.length:Int)≤1048576):∀ (n:Nat) (h i:Int),0≤i→i+n=4001→Tot (λ k=>Jk k b h i) (λ r=>r.1=b):=by
 intro n
 induction n with
 |zero=>
  intro h i h0 hi;refine Tot.succ ?_;simp only[Jk];refine Jyb (λ h1=>?_) (λ h1=>Jrb rfl);exact Jwb (by omega) (Jrb rfl)
 |succ n ih=>
  intro h i h0 hi;refine Tot.succ ?_;simp only[Jk];refine Jyb (λ h1=>?_) (λ h1=>Jrb rfl);refine Jyb (λ h2=>?_) (λ h2=>Jrb rfl);refine Jvb h0 (Jvb h1 ?_);rw[w64 (n:=i+1) (by omega) (by omega)];exact ih _ _ (by omega) (by omega)
def Uta (b:List Int) (hb:(b.length:Int)≤1048576):Tot (λ k=>Mb k b) Nk:=by
 unfold Mb;refine Jsb (Qva b hb 4001 _ 0 (by omega) (by omega)) (λ r hr=>?_);exact Jrb ⟨by rw[hr];exact hb,Keb 0,by show (0:Int)≤1048576;omega⟩
def Te (c:Cur) (hc:Nk c):∃ x c',Gp c=some (x,c')∧0≤x∧x≤255∧Nk c':=by
 obtain⟨h1,h2,h3⟩:=hc;unfold Gp
 by_cases hlt:c.2.1<(c.1.length:Int)
 ·simp only[hlt,h2,decide_true,cond_true];obtain⟨a1,a2⟩:=Ola (wrap .i64 ((wrap .i64 ((ofInt (IntKind.bits .i64) (wrap .i64 ((ofInt (IntKind.bits .i64) (Int.fdiv (wrap .i64 ((wrap .i64 (c.2.2*6364136223846793005))+1442695040888963407)) (2 ^ (min (toNat 33) (IntKind.bits .i64)))) ^^^ ofInt (IntKind.bits .i64) (Int.fdiv (wrap .i64 ((wrap .i64 (c.2.2*6364136223846793005))+1442695040888963407)) (2 ^ (min (toNat 47) (IntKind.bits .i64))))).toNat)) &&& ofInt (IntKind.bits .i64) 255).toNat))+(wrap .i64 (getD c.1 (toNat c.2.1) (0:Int))))) 255 (by omega) (by omega);refine⟨_,_,rfl,a1,a2,h1,?_,?_⟩
  ·show 0≤wrap .i64 (c.2.1+1);rw[w64 (by omega) (by omega)];omega
  ·show wrap .i64 (c.2.1+1)≤1048576;rw[w64 (by omega) (by omega)];omega
 ·simp only[hlt,decide_false,cond_false];obtain⟨a1,a2⟩:=Ola (wrap .i64 ((ofInt (IntKind.bits .i64) (Int.fdiv (wrap .i64 ((wrap .i64 (c.2.2*6364136223846793005))+1442695040888963407)) (2 ^ (min (toNat 33) (IntKind.bits .i64)))) ^^^ ofInt (IntKind.bits .i64) (Int.fdiv (wrap .i64 ((wrap .i64 (c.2.2*6364136223846793005))+1442695040888963407)) (2 ^ (min (toNat 47) (IntKind.bits .i64))))).toNat)) 255 (by omega) (by omega);exact⟨_,_,rfl,a1,a2,h1,h2,h3⟩
def Mc (c:Cur) (hc:Nk c) (n:Int) (hn:n≤1000000000):∃ x c',A8 c n=some (x,c')∧0≤x∧(0<n→x<n)∧(n≤0→x=0)∧Nk c':=by
 unfold A8
 by_cases h0:n≤0
 ·exact⟨0,c,by simp only[h0,decide_true,cond_true],by omega,by omega,λ _=>rfl,hc⟩
 ·by_cases h1:n≤256
  ·obtain⟨x,c',e,b0,b1,k⟩:=Te c hc
   have hz:¬ n=0:=by omega
   have:=Usa b0 (show 0<n by omega);exact⟨Int.tmod x n,c',by simp only[h0,h1,hz,decide_true,decide_false,cond_true,cond_false,e,Vp],this.1,λ _=>this.2,λ h=>by omega,k⟩
  ·obtain⟨x,c1,e1,b0,b1,k1⟩:=Te c hc;obtain⟨y,c2,e2,b2,b3,k2⟩:=Te c1 k1;obtain⟨z,c3,e3,b4,b5,k3⟩:=Te c2 k2
   have hz:¬ n=0:=by omega
   have:=Usa (show 0≤x*65536+y*256+z by omega) (show 0<n by omega);refine⟨Int.tmod (x*65536+y*256+z) n,c3,?_,this.1,λ _=>this.2,λ h=>by omega,k3⟩;simp only[h0,h1,hz,decide_false,cond_false,e1,e2,e3,Vp];rw[w64 (n:=x*65536) (by omega) (by omega),w64 (n:=y*256) (by omega) (by omega),w64 (n:=x*65536+y*256) (by omega) (by omega),w64 (n:=x*65536+y*256+z) (by omega) (by omega)]
def Oma {α:Type} {l:List α} {i:Int} {d:α} (h0:0≤i) (h1:i<(l.length:Int)):l.getD i.toNat d∈l:=by
 have h:i.toNat<l.length:=by omega
 rw[Vb,Vj h];exact M7b h
def S8 (c:Cur) (hc:Nk c) (l:List Int) (hl:0<l.length) (hm:l.length≤2000000):∃ x c',Ca c l=some (x,c')∧x∈l∧Nk c':=by
 obtain⟨i,c',e,b0,b1,_,k⟩:=Mc c hc (l.length:Int) (by omega);have b1:=b1 (by omega);refine⟨l.getD i.toNat 0,c',?_,Oma b0 b1,k⟩;unfold Ca;simp only[e,Vp,b0,b1,decide_true,cond_true]
def Zia (c:Cur) (hc:Nk c) (l:List ByteArray) (hl:0<l.length) (hm:l.length≤2000000):∃ x c',Mu c l=some (x,c')∧x∈l∧Nk c':=by
 obtain⟨i,c',e,b0,b1,_,k⟩:=Mc c hc (l.length:Int) (by omega);have b1:=b1 (by omega);refine⟨l.getD i.toNat (⟨#[]⟩:ByteArray),c',?_,Oma b0 b1,k⟩;unfold Mu;simp only[e,Vp,b0,b1,decide_true,cond_true]
def An (l:List Int):Prop:=∀ x∈l,0≤x∧x≤255
def J5a (m:Int) (hm:m≤1000):∀ (n:Nat) (l:List Int) (i:Int) (c:Cur),Nk c→0≤i→i≤max m 0→(max m 0)-i=n→(l.length:Int)=i→An l→
  Tot (λ k=>Gx k m l i c.1 c.2.1 c.2.2) (λ r=>Nk r.2∧An r.1∧(r.1.length:Int)=max m 0):=by
 intro n
 induction n with
 |zero=>
  intro l i c hc h0 h1 hn hl hb;refine Tot.succ ?_;simp only[Gx];refine Jwb (by omega) (Jrb ⟨hc,hb,by show (l.length:Int)=_;omega⟩)
 |succ n ih=>
  intro l i c hc h0 h1 hn hl hb;refine Tot.succ ?_;simp only[Gx];refine Jvb (by omega) ?_;obtain⟨x,c',e,b0,b1,k⟩:=Te c hc;refine K3b (K5b (Q:=λ r=>r=(x,c')) e rfl) ?_;refine Jzb (by simp only[Vd,Vk];omega) ?_;rw[w64 (n:=i+1) (by omega) (by omega)];refine ih _ _ c' k (by omega) (by omega) (by omega) (by simp only[Ve,Vd,Vk];omega) ?_;intro y hy;rcases Vo.1 hy with hy|hy
  ·exact hb y hy
  ·simp only[Vu]at hy;subst hy;exact J4a _
def Qwa (c:Cur) (hc:Nk c):Tot (λ k=>Gz k c) (λ r=>Nk r.2∧An r.1∧(r.1.length:Int)≤9):=by
 unfold Gz;obtain⟨x,c',e,hx,k⟩:=S8 c hc [0,1,2,5,9] (by decide) (by decide)
 have hx':0≤x∧x≤9:=by
  simp only[Vl,Kab,or_false]at hx;omega
 refine K3b (K5b (Q:=λ r=>r=(x,c')) e rfl) ?_;refine Jsb (Q:=λ r=>Nk r.2∧An r.1∧(r.1.length:Int)≤9) ?_ (λ r hr=>Jrb hr);unfold Gy;refine Jsb (J5a x (by omega) (max x 0-0).toNat [] 0 c' k (by omega) (by omega) (by omega) rfl (by intro y hy;simp at hy)) (λ r hr=>Jrb ?_);exact⟨hr.1,hr.2.1,by show (r.1.length:Int)≤9;rw[hr.2.2];omega⟩
abbrev Stp:=Int×Int×Int
abbrev Row:=ByteArray×Stp×Bool×Int
abbrev Fil:=Stp×Bool×List Int
def Mz:List ByteArray:=[(⟨#[97]⟩:ByteArray),(⟨#[98]⟩:ByteArray),(⟨#[99,97,116,47,49]⟩:ByteArray),(⟨#[99,97,116,47,50]⟩:ByteArray),(⟨#[100,111,103]⟩:ByteArray),(⟨#[120,45,49]⟩:ByteArray)]
def Uua (c:Cur) (hc:Nk c):∃ x c',M4 c=some (x,c')∧x∈Mz∧Nk c':=by
 obtain⟨x,c',e,hx,k⟩:=Zia c hc Mz (by decide) (by decide);exact⟨x,c',by unfold M4;unfold Mz at e;simp only[e,Vp],hx,k⟩

def J6a:∀ (a:List UInt8),Op.bytesLess a a=false
 |[]=>rfl
 |a::l=>by simp[Op.bytesLess,J6a l]
def Ona:∀ (a b c:List UInt8),Op.bytesLess a b=true→Op.bytesLess b c=true→Op.bytesLess a c=true
 |_,[],_,h,_=>by simp[Op.bytesLess]at h
 |_,_::_,[],_,h=>by simp[Op.bytesLess]at h
 |[],_::_,_::_,_,_=>rfl
 |a::x,b::y,c::z,h1,h2=>by
  simp only[Op.bytesLess,Zy,Va,decide_eq_true_eq,beq_iff_eq]at h1 h2 ⊢;rcases h1 with h1|⟨rfl,h1⟩
  ·rcases h2 with h2|⟨rfl,h2⟩
   ·exact .inl (UInt8.lt_trans h1 h2)
   ·exact .inl h1
  ·rcases h2 with h2|⟨rfl,h2⟩
   ·exact .inl h2
   ·exact .inr ⟨rfl,Ona x y z h1 h2⟩
def C1b:∀ (a b:List UInt8),Op.bytesLess a b=false→Op.bytesLess b a=false→a=b
 |[],[],_,_=>rfl
 |[],_::_,h,_=>by simp[Op.bytesLess]at h
 |_::_,[],_,h=>by simp[Op.bytesLess]at h
 |a::x,b::y,h1,h2=>by
  simp only[Op.bytesLess,Bool.or_eq_false_iff,N6b,decide_eq_false_iff_not]at h1 h2
  have hab:a=b:=by
   have h3:=UInt8.not_lt.1 h1.1;have h4:=UInt8.not_lt.1 h2.1;exact UInt8.le_antisymm h4 h3
  subst hab;rw[C1b x y (h1.2.resolve_left (by simp)) (h2.2.resolve_left (by simp))]
def tlt (a b:ByteArray):Bool:=Op.bytesLess a.toList b.toList
def teq (a b:ByteArray):Bool:=a.toList==b.toList
def Eza {a b:ByteArray} (h:a.toList=b.toList):a=b:=by
 rw[ByteArray.toList_eq,ByteArray.toList_eq]at h;obtain⟨⟨x⟩⟩:=a;obtain⟨⟨y⟩⟩:=b;simp only at h;rw[h]
def Db {a b:ByteArray}:teq a b=true↔a=b:=by
 unfold teq;rw[beq_iff_eq];exact⟨Eza,λ h=>by rw[h]⟩
def Jc (a:ByteArray):tlt a a=false:=J6a _
def Oe {a b c:ByteArray} (h:tlt a b=true) (h':tlt b c=true):tlt a c=true:=Ona _ _ _ h h'
def Cla {a b:ByteArray} (h:tlt a b=false) (h':tlt b a=false):a=b:=Eza (C1b _ _ h h')
def X9 {a b:ByteArray} (h:tlt a b=true):tlt b a=false:=by
 cases hb:tlt b a
 ·rfl
 have:=Oe h hb;rw[Jc]at this;cases this
def J7a (a b:ByteArray):(!(Op.bytesLess a.toList b.toList||a.toList==b.toList))=tlt b a:=by
 show (!(tlt a b||teq a b))=tlt b a;cases h1:tlt a b
 case true=>rw[X9 h1];rfl
 cases h2:teq a b
 case true=>rw[Db.1 h2,Jc];rfl
 cases h3:tlt b a
 case true=>rfl
 exfalso;have:=Cla h1 h3;rw[Db.2 this]at h2;cases h2
def sle (a b:Stp):Bool:=cond (a.1 != b.1) (decide (a.1<b.1)) (cond (a.2.1 != b.2.1) (decide (a.2.1<b.2.1)) (decide (a.2.2<b.2.2)))
def Ooa (a b:Stp):Ez a b=some (sle a b):=by
 unfold Ez sle
 cases a.1 != b.1<;>cases a.2.1 != b.2.1<;>rfl
def Xa (a b:Stp):Av a b=some (sle a b):=by
 unfold Av sle
 cases a.1 != b.1<;>cases a.2.1 != b.2.1<;>rfl
def Qz {a b:Stp}:sle a b=true↔a.1<b.1∨(a.1=b.1∧(a.2.1<b.2.1∨(a.2.1=b.2.1∧a.2.2<b.2.2))):=by
 unfold sle
 by_cases h1:a.1=b.1
 ·by_cases h2:a.2.1=b.2.1
  ·simp[h1,h2]
  ·have:(a.2.1 != b.2.1)=true:=by simpa using h2
   simp[h1,this,h2]
 ·have:(a.1 != b.1)=true:=by simpa using h1
  simp[this,h1]
def N3 (a b:Row):Bool:=cond (!((a.2.1.1==b.2.1.1)&&((a.2.1.2.1==b.2.1.2.1)&&(a.2.1.2.2==b.2.1.2.2)))) (sle a.2.1 b.2.1) (cond (!(a.2.2.1==b.2.2.1)) b.2.2.1 (decide (a.2.2.2<b.2.2.2)))
def M3a (a b:Row):L6 a b=some (N3 a b):=by
 unfold L6 N3;rw[Ooa]
 cases (!((a.2.1.1==b.2.1.1)&&((a.2.1.2.1==b.2.1.2.1)&&(a.2.1.2.2==b.2.1.2.2))))<;>cases (!(a.2.2.1==b.2.2.1))<;>rfl
def Uva (a b:Row):Ji a b=some (N3 b a):=by
 unfold Ji N3;rw[Xa,BEq.comm (a:=a.2.1.1),BEq.comm (a:=a.2.1.2.1),BEq.comm (a:=a.2.1.2.2),BEq.comm (a:=a.2.2.1)]
 cases (!((b.2.1.1==a.2.1.1)&&((b.2.1.2.1==a.2.1.2.1)&&(b.2.1.2.2==a.2.1.2.2))))<;>cases (!(b.2.2.1==a.2.2.1))<;>rfl
def Nh:Row:=((⟨#[]⟩:ByteArray),(((0:Int),((0:Int),(0:Int))),(false,(0:Int))))
def V4 (s:ByteArray):List Row→Nat→Option Nat
 |[],_=>none
 |r::l,i=>bif teq r.1 s then some i else V4 s l (i+1)
def Xw (l:List Row) (s:ByteArray):Nat→Nat
 |0=>0
 |k+1=>bif tlt s (l.getD k Nh).1 then Xw l s k else k+1
def mrg (l:List Row) (x:Row):List Row:=match V4 x.1 l 0 with
 |some i=>bif N3 (l.getD i Nh) x then l.set i x else l
 |none=>l.take (Xw l x.1 l.length)++x::l.drop (Xw l x.1 l.length)
def Cma (l:List Row) (s:ByteArray):∀ k,Xw l s k≤k
 |0=>Vv _
 |k+1=>by
  unfold Xw
  cases tlt s (l.getD k Nh).1 with
  |true=>have:=Cma l s k;simp only[cond_true];omega
  |false=>simp only[cond_false];omega
def U6 {s:ByteArray}:∀ (l:List Row) (i j:Nat),V4 s l i=some j→i≤j∧j<i+l.length∧teq (l.getD (j-i) Nh).1 s=true
 |[],i,j,h=>by simp[V4]at h
 |r::l,i,j,h=>by
  unfold V4 at h
  cases ht:teq r.1 s with
  |true=>
   rw[ht]at h;simp only[cond_true,Vg]at h;subst h;refine⟨Vv _,by simp,?_⟩;rw[L4b];exact ht
  |false=>
   rw[ht]at h;simp only[cond_false]at h;obtain⟨h1,h2,h3⟩:=U6 l (i+1) j h;refine⟨by omega,by simp only[Vd];omega,?_⟩;rw[show j-i=(j-(i+1))+1 by omega];exact h3
def Aj {α:Type} {l:List α} {i:Nat} {d:α} (h:i<l.length):l.drop i=l.getD i d::l.drop (i+1):=by
 rw[Zg h,Vb,Vj h];rfl
def Few (l:List Row):Prop:=l.length≤1000000000000
def J8a (x:Row):∀ (n:Nat) (l:List Row) (i:Nat),l.length-i=n→i≤l.length→Few l→
  Tot (λ k=>Fs k l (i:Int) x.1 x.2.1.1 x.2.1.2.1 x.2.1.2.2 x.2.2.1 x.2.2.2) (λ r=>r=match V4 x.1 (l.drop i) i with
   |some j => .inl (bif N3 (l.getD j Nh) x then l.set j x else l)
   |none => .inr (l,x.1,x.2.1.1,x.2.1.2.1,x.2.1.2.2,x.2.2.1,x.2.2.2)):=by
 intro n
 induction n with
 |zero=>
  intro l i hn hi hf;unfold Few at hf;refine Tot.succ ?_;simp only[Fs];refine Jwb (by omega) (Jrb ?_);rw[Wk (by omega)];rfl
 |succ n ih=>
  intro l i hn hi hf;have hf':=hf;unfold Few at hf
  have hlt:i<l.length:=by omega
  refine Tot.succ ?_;simp only[Fs];refine Jvb (by omega) (Jvb (by omega) (Jvb (by omega) ?_));have e0:toNat (i:Int)=i:=Vc i;rw[e0,Aj (d:=Nh) hlt];refine Jxb (λ ht=>?_) (λ ht=>?_)
  ·have ht':teq (l.getD i Nh).1 x.1=true:=ht;refine Jvb (by omega) (Jvb (by omega) ?_);refine K3b (K5b (Q:=λ r=>r=N3 (l.getD i Nh) x) (M3a _ _) rfl) ?_;simp only[V4,ht',cond_true]
   cases hb:N3 (l.getD i Nh) x with
   |true=>exact Jub rfl (Jvb (by omega) (Jvb (by omega) (Jrb rfl)))
   |false=>exact Jtb rfl (Jrb rfl)
  ·have ht':teq (l.getD i Nh).1 x.1=false:=ht;simp only[V4,ht',cond_false];rw[w64 (n:=(i:Int)+1) (by omega) (by omega)];exact ih l (i+1) (by omega) (by omega) hf'
def J9a (x:Row) (l0 l5:List Row) (h5:l5=l0):∀ (n:Nat) (i:Nat),l0.length-i=n→i≤l0.length→Few l0→
  Tot (λ k=>Fl k l0 l5 l0 (l0.length:Int) (i:Int) x.1 x.2.1.1 x.2.1.2.1 x.2.1.2.2 x.2.2.1 x.2.2.2) (λ r=>r=match V4 x.1 (l0.drop i) i with
   |some j => .inl (bif N3 (l0.getD j Nh) x then l0.set j x else l0)
   |none => .inr (l0,x.1,x.2.1.1,x.2.1.2.1,x.2.1.2.2,x.2.2.1,x.2.2.2)):=by
 subst h5;intro n
 induction n with
 |zero=>
  intro i hn hi hf;unfold Few at hf;refine Tot.succ ?_;simp only[Fl];refine Jwb (by omega) (Jrb ?_);rw[Wk (by omega)];rfl
 |succ n ih=>
  intro i hn hi hf;have hf':=hf;unfold Few at hf
  have hlt:i<l5.length:=by omega
  refine Tot.succ ?_;simp only[Fl];refine Jvb (by omega) (Jvb (by omega) (Jvb (by omega) ?_));have e0:toNat (i:Int)=i:=Vc i;rw[e0,Aj (d:=Nh) hlt];refine Jxb (λ ht=>?_) (λ ht=>?_)
  ·have ht':teq (l5.getD i Nh).1 x.1=true:=ht;refine K3b (K5b (Q:=λ r=>r=N3 (l5.getD i Nh) x) (Uva _ _) rfl) ?_;simp only[V4,ht',cond_true]
   cases hb:N3 (l5.getD i Nh) x with
   |true=>exact Jub rfl (Jvb (by omega) (Jvb (by omega) (Jrb rfl)))
   |false=>exact Jtb rfl (Jrb rfl)
  ·have ht':teq (l5.getD i Nh).1 x.1=false:=ht;simp only[V4,ht',cond_false];rw[w64 (n:=(i:Int)+1) (by omega) (by omega)];exact ih (i+1) (by omega) (by omega) hf'
def Gka (x:Row) (l:List Row) (hf:Few l):∀ (i:Nat),i≤l.length→
  Tot (λ k=>Ej k l (i:Int) x.1 x.2.1.1 x.2.1.2.1 x.2.1.2.2 x.2.2.1 x.2.2.2) (λ r=>r=(l,(Xw l x.1 i:Int),x.1,x.2.1.1,x.2.1.2.1,x.2.1.2.2,x.2.2.1,x.2.2.2)):=by
 unfold Few at hf;intro i
 induction i with
 |zero=>
  intro hi;refine Tot.succ ?_;simp only[Ej];exact Jwb (by omega) (Jrb rfl)
 |succ i ih=>
  intro hi;refine Tot.succ ?_;simp only[Ej];rw[w64 (n:=((i+1:Nat):Int)-1) (by omega) (by omega),show ((i+1:Nat):Int)-1=(i:Int) by omega,show toNat (i:Int)=i from Vc i];refine Jvb (by omega) (Jvb (by omega) (Jvb (by omega) ?_));have e:∀ z,(!(Op.bytesLess (l.getD i z).1.toList x.1.toList||(l.getD i z).1.toList==x.1.toList))=tlt x.1 (l.getD i z).1:=λ z=>J7a _ _;rw[e]
  have hc:Xw l x.1 (i+1)=bif tlt x.1 (l.getD i Nh).1 then Xw l x.1 i else i+1:=rfl
  refine Jxb (λ ht=>?_) (λ ht=>?_)
  ·have ht':tlt x.1 (l.getD i Nh).1=true:=ht;rw[hc,ht',cond_true];exact ih (by omega)
  ·have ht':tlt x.1 (l.getD i Nh).1=false:=ht;rw[hc,ht',cond_false];exact Jrb rfl
def Xb (l:List Row) (hf:Few l):Ae l=some l:=by
 unfold Few at hf;unfold Ae;rw[Zp (by simp only[Vk];omega)];rfl
def Uwa (l:List Row) (x:Row) (hf:Few l):Tot (λ k=>Co k l x) (λ r=>r=mrg l x):=by
 have hf':=hf;unfold Few at hf;unfold Co;refine Jsb (K5b (Q:=λ r=>r=l) (Xb l hf') rfl) ?_;rintro r rfl;refine Jsb (J9a x r r rfl _ 0 rfl (Vq _) hf') ?_;rintro y rfl;rw[Yb];unfold mrg
 cases hfi:V4 x.1 r 0 with
 |some j=>exact Jrb rfl
 |none=>
  simp only[Kgb];refine Jsb (Gka x r hf' r.length (Vv _)) ?_;rintro z rfl;have hc:=Cma r x.1 r.length;simp only;rw[show toNat ((Xw r x.1 r.length:Nat):Int)=Xw r x.1 r.length from Vc _];refine Jvb (by omega) (Jvb (by omega) ?_)
  have hft:Few (r.take (Xw r x.1 r.length)):=by unfold Few;rw[Vt];omega
  refine Jsb (K5b (Q:=λ q=>q=r.take (Xw r x.1 r.length)) (Xb _ hft) rfl) ?_;rintro q rfl;refine Jzb (by simp only[Vt,Vd,Vk];omega) ?_;refine Jvb (by omega) (Jvb (by omega) (Jzb (by simp only[Ve,Vt,We,Vd,Vk];omega) (Jrb ?_)));rw[Vn];rfl
def Gla (x:Row) (l:List Row) (hf:Few l):∀ (i:Nat) (y:Row),i≤l.length→
  Tot (λ k=>Er k (l.take i++y::l.drop i) (i:Int) x.1 x.2.1.1 x.2.1.2.1 x.2.1.2.2 x.2.2.1 x.2.2.2)
   (λ r=>∃ y',r=(l.take (Xw l x.1 i)++y'::l.drop (Xw l x.1 i),(Xw l x.1 i:Int),x.1,x.2.1.1,x.2.1.2.1,x.2.1.2.2,x.2.2.1,x.2.2.2)):=by
 unfold Few at hf;intro i
 induction i with
 |zero=>
  intro y hi;refine Tot.succ ?_;simp only[Er];exact Jwb (by omega) (Jrb ⟨y,rfl⟩)
 |succ i ih=>
  intro y hi;refine Tot.succ ?_;simp only[Er]
  have hlen:(l.take (i+1)++y::l.drop (i+1)).length=l.length+1:=by simp only[Ve,Vt,Vd,We];omega
  have hget:∀ z,(l.take (i+1)++y::l.drop (i+1)).getD i z=l.getD i z:=by
   intro z;rw[Vb,Vb,Yf (by rw[Vt];omega),List.getElem?_take_of_lt (by omega)]
  rw[w64 (n:=((i+1:Nat):Int)-1) (by omega) (by omega),show ((i+1:Nat):Int)-1=(i:Int) by omega,show toNat (i:Int)=i from Vc i,show toNat ((i+1:Nat):Int)=i+1 from Vc _,hget,hlen];refine Jvb (by omega) (Jvb (by omega) (Jvb (by omega) ?_));have e:∀ z,(!(Op.bytesLess (l.getD i z).1.toList x.1.toList||(l.getD i z).1.toList==x.1.toList))=tlt x.1 (l.getD i z).1:=λ z=>J7a _ _;rw[e]
  have hc:Xw l x.1 (i+1)=bif tlt x.1 (l.getD i Nh).1 then Xw l x.1 i else i+1:=rfl
  refine Jxb (λ ht=>?_) (λ ht=>?_)
  ·have ht':tlt x.1 (l.getD i Nh).1=true:=ht;rw[hc,ht',cond_true];refine Jvb (by omega) (Jvb (by omega) (Jvb (by omega) (Jvb (by omega) ?_)))
   have hset:(l.take (i+1)++y::l.drop (i+1)).set (i+1) (l.getD i ((⟨#[]⟩:ByteArray),(((0:Int),((0:Int),(0:Int))),(false,(0:Int)))))=l.take i++l.getD i Nh::l.drop i:=by
    rw[List.set_append,if_neg (by rw[Vt];omega),Vt,Zx hi,L4b,Mnb,Aj (d:=Nh) (show i<l.length by omega)];rw[List.take_add_one,Vj (show i<l.length by omega)];simp only[Mpb,Vn,Yk];rw[Vb,Vb,Vj (show i<l.length by omega)];rfl
   rw[hset];exact ih _ (by omega)
  ·have ht':tlt x.1 (l.getD i Nh).1=false:=ht;rw[hc,ht',cond_false];exact Jrb ⟨y,rfl⟩
def Uxa (l:List Row) (x:Row) (hf:Few l):Tot (λ k=>Cs k l x) (λ r=>r=mrg l x):=by
 have hf':=hf;unfold Few at hf;unfold Cs;refine Jzb (by simp only[Vk];omega) ?_;rw[Wa];refine K3b (J8a x _ l 0 rfl (Vq _) hf') ?_;rw[Yb];unfold mrg
 cases hfi:V4 x.1 l 0 with
 |some j=>exact Jrb rfl
 |none=>
  simp only[Kgb];refine Jzb (by simp only[Vd,Vk];omega) ?_;have h0:=Gla x l hf' l.length x (Vv _);rw[Yp,Vz]at h0;refine Jsb h0 ?_;rintro z ⟨y',rfl⟩;have hc:=Cma l x.1 l.length
  have hlen:(l.take (Xw l x.1 l.length)++y'::l.drop (Xw l x.1 l.length)).length=l.length+1:=by simp only[Ve,Vt,Vd,We];omega
  simp only;rw[show toNat ((Xw l x.1 l.length:Nat):Int)=Xw l x.1 l.length from Vc _,hlen];refine Jvb (by omega) (Jvb (by omega) (Jrb ?_));rw[List.set_append,if_neg (by rw[Vt];omega),Vt,Zx hc,L4b,Mnb]

def Bga (a b:ByteArray):(a==b)=teq a b:=beq_toListBytes a b
def Z7 {s:ByteArray}:∀ (l:List Row) (i:Nat),V4 s l i=none→∀ r∈l,r.1≠s
 |[],_,_,r,hr=>by simp at hr
 |a::l,i,h,r,hr=>by
  unfold V4 at h;cases ht:teq a.1 s
  case true=>rw[ht]at h;simp at h
  rw[ht]at h;rcases Vl.1 hr with rfl|hr
  ·intro e;rw[Db.2 e]at ht;cases ht
  ·exact Z7 l (i+1) h r hr
def Uya (l:List Row) (x:Row):l.length≤(mrg l x).length∧(mrg l x).length≤l.length+1:=by
 unfold mrg;have hc:=Cma l x.1 l.length;split
 ·cases N3 (l.getD _ Nh) x<;>simp
 ·simp only[Ve,Vt,Vd,We];omega
def Uza {l:List Row} {x r:Row} (h:r∈mrg l x):r=x∨r∈l:=by
 unfold mrg at h;split at h
 ·rename_i j hj;cases hb:N3 (l.getD j Nh) x
  ·rw[hb]at h;exact .inr h
  rw[hb,cond_true]at h;rcases Ys h with h|h
  ·exact .inr h
  ·exact .inl h
 ·rcases Vo.1 h with h|h
  ·exact .inr (Khb h)
  ·rcases Vl.1 h with h|h
   ·exact .inl h
   ·exact .inr (Zr h)
def N0 (a:Stp):sle a a=false:=by
 cases h:sle a a with
 |false=>rfl
 |true=>rw[Qz]at h;omega
def C7 (l:List Row):Prop:=l.Pairwise (λ a b=>tlt a.1 b.1=true)
def Jaa {l:List Row} {s:ByteArray} (hs:C7 l) (hn:∀ r∈l,r.1≠s):∀ k,k≤l.length→(∀ i,i<Xw l s k→tlt (l.getD i Nh).1 s=true)∧(∀ i,Xw l s k≤i→i<k→tlt s (l.getD i Nh).1=true)
 |0,_=>⟨λ i hi=>by simp[Xw]at hi,λ i _ hi=>by omega⟩
 |k+1,hk=>by
  unfold Xw
  cases ht:tlt s (l.getD k Nh).1 with
  |true=>
   simp only[cond_true];obtain⟨h1,h2⟩:=Jaa hs hn k (by omega);refine⟨h1,λ i hi hik=>?_⟩
   by_cases e:i=k
   ·subst e;exact ht
   ·exact h2 i hi (by omega)
  |false=>
   simp only[cond_false];refine⟨λ i hi=>?_,λ i hi hik=>by omega⟩
   have hget:∀ j (hj:j<l.length),l.getD j Nh=l[j]:=λ j hj=>by rw[Vb,Vj hj];rfl
   have hkl:k<l.length:=by omega
   have hks:tlt (l.getD k Nh).1 s=true:=by
    cases h:tlt (l.getD k Nh).1 s
    case true=>rfl
    exfalso;exact hn (l.getD k Nh) (by rw[hget k hkl];exact M7b hkl) (Cla h ht)
   by_cases e:i=k
   ·subst e;exact hks
   ·have h3:=(Zj.1 hs) i k (by omega) hkl (by omega);rw[hget i (by omega)];rw[hget k hkl]at hks;exact Oe h3 hks
def U7 {l:List Row} {x:Row} (hs:C7 l):C7 (mrg l x):=by
 have hget:∀ j (hj:j<l.length),l.getD j Nh=l[j]:=λ j hj=>by rw[Vb,Vj hj];rfl
 unfold mrg;split
 ·rename_i j hj;obtain⟨_,h2,h3⟩:=U6 l 0 j hj;rw[Lnb]at h3
  have hjl:j<l.length:=by omega
  have hname:l[j].1=x.1:=by rw[← hget j hjl];exact Db.1 h3
  cases hb:N3 (l.getD j Nh) x
  ·exact hs
  rw[cond_true];unfold C7;rw[Zj];intro a b ha hb hab;rw[Wc]at ha hb;have:=(Zj.1 hs) a b ha hb hab;rw[N2b,N2b]
  by_cases e1:j=a
  ·subst e1;rw[if_pos rfl,if_neg (by omega),← hname];exact this
  ·rw[if_neg e1]
   by_cases e2:j=b
   ·subst e2;rw[if_pos rfl,← hname];exact this
   ·rw[if_neg e2];exact this
 ·rename_i hj;have hn:=Z7 l 0 hj;obtain⟨c1,c2⟩:=Jaa hs hn l.length (Vv _);have hc:=Cma l x.1 l.length;unfold C7;rw[Zh,Wh];refine⟨M5b (Mxb _ _) hs,⟨λ r hr=>?_,M5b (List.drop_sublist _ _) hs⟩,λ r hr q hq=>?_⟩
  ·obtain⟨i,hi,rfl⟩:=Ljb hr;rw[We]at hi;rw[List.getElem_drop,← hget _ (by omega)];exact c2 _ (by omega) (by omega)
  ·obtain⟨i,hi,rfl⟩:=Ljb hr;rw[Vt]at hi
   have h1:tlt (List.take (Xw l x.1 l.length) l)[i].1 x.1=true:=by
    rw[List.getElem_take,← hget _ (by omega)];exact c1 i (by omega)
   rcases Vl.1 hq with rfl|hq
   ·exact h1
   ·refine Oe h1 ?_;obtain⟨m,hm,rfl⟩:=Ljb hq;rw[We]at hm;rw[List.getElem_drop,← hget _ (by omega)];exact c2 _ (by omega) (by omega)

def inR (n lo hi:Int):Bool:=decide (n≥lo)&&decide (n≤hi)
def Sq (n lo hi:Int):C8 n lo hi=some (inR n lo hi):=by
 unfold C8 inR
 cases decide (n≥lo)<;>rfl
def Q9 (n lo hi:Int):A9 n lo hi=some (inR n lo hi):=by
 unfold A9 inR
 cases decide (n≥lo)<;>rfl
def Dt {n lo hi:Int}:inR n lo hi=true↔lo≤n∧n≤hi:=by
 unfold inR;simp
def Xc (c:Int):Bool:=inR c 97 122||(inR c 48 57||(!(c != 45)||(!(c != 95)||!(c != 47))))
def Ni (s:ByteArray):Prop:=s.size≤4611686018427387904
def S9 (s:ByteArray):s.data.toList.length=s.size:=Ze
def Cna (s:ByteArray) (i:Int):0≤bt s i∧bt s i≤255:=by
 unfold bt;have:=(s.data.toList.getD i.toNat 0).toNat_lt;omega
def H2b (s:ByteArray) (i:Nat) (h:i<s.size):bt s (i:Int)=((s.data.toList[i]'(by rw[S9];exact h)).toNat:Int):=by
 unfold bt;rw[Vc,Vb,Vj (by rw[S9];exact h)];rfl
def bOk (b:UInt8):Bool:=Xc (b.toNat:Int)
def M4a (s:ByteArray) (hs:Ni s):∀ (n i:Nat),s.size-i=n→i≤s.size→
  Tot (λ k=>Ar k s (i:Int)) (λ r=>r=bif (s.data.toList.drop i).all bOk then .inr s else .inl false):=by
 unfold Ni at hs;have hsz:=S9 s;intro n
 induction n with
 |zero=>
  intro i hn hi;refine Tot.succ ?_;simp only[Ar];refine Jwb (by omega) (Jrb ?_);rw[Wk (by omega)];rfl
 |succ n ih=>
  intro i hn hi
  have hlt:i<s.size:=by omega
  refine Tot.succ ?_;simp only[Ar];refine Jvb (by omega) (Jvb (by omega) (Jvb (by omega) ?_));rw[w64 (n:=(i:Int)+1) (by omega) (by omega)]
  have hb:bOk (s.data.toList[i]'(by omega))=Xc (bt s (i:Int)):=by rw[H2b s i hlt];rfl
  rw[Zg (by omega),Kub,hb];generalize bt s (i:Int)=c;have h1:=ih (i+1) (by omega) (by omega)
  have e:(((i+1:Nat)):Int)=(i:Int)+1:=by omega
  rw[e]at h1
  cases hc:Xc c with
  |true=>
   rw[Vw];refine h1.mono (λ r hr=>hr) |> λ h=>?_;obtain⟨r,K,h2,h3⟩:=h;refine⟨r,K,λ k hk=>?_,h3⟩;rw[← h2 k hk];unfold Xc inR at hc
   revert hc
   cases decide (c≥97)<;>cases decide (c≤122)<;>cases decide (c≥48)<;>cases decide (c≤57)<;>cases (c != 45)<;>cases (c != 95)<;>cases (c != 47)<;>first|(intro _;rfl)|(intro hc;cases hc)
  |false=>
   rw[Yt];refine⟨.inl false,0,λ k _=>?_,rfl⟩;unfold Xc inR at hc
   revert hc
   cases decide (c≥97)<;>cases decide (c≤122)<;>cases decide (c≥48)<;>cases decide (c≤57)<;>cases (c != 45)<;>cases (c != 95)<;>cases (c != 47)<;>first|(intro _;rfl)|(intro hc;cases hc)
def M5a (s:ByteArray) (hs:Ni s):∀ (n i:Nat),s.size-i=n→i≤s.size→
  Tot (λ k=>Dv k s (i:Int)) (λ r=>r=bif (s.data.toList.drop i).all bOk then .inr s else .inl false):=by
 unfold Ni at hs;have hsz:=S9 s;intro n
 induction n with
 |zero=>
  intro i hn hi;refine Tot.succ ?_;simp only[Dv];refine Jwb (by omega) (Jrb ?_);rw[Wk (by omega)];rfl
 |succ n ih=>
  intro i hn hi
  have hlt:i<s.size:=by omega
  have hbb:=Cna s (i:Int);refine Tot.succ ?_;simp only[Dv];refine Jvb (by omega) (Jvb (by omega) (Jvb (by omega) ?_));rw[w64 (n:=(i:Int)+1) (by omega) (by omega),w64 (n:=bt s (i:Int)) (by omega) (by omega)]
  have hb:bOk (s.data.toList[i]'(by omega))=Xc (bt s (i:Int)):=by rw[H2b s i hlt];rfl
  rw[Zg (by omega),Kub,hb];generalize bt s (i:Int)=c;have h1:=ih (i+1) (by omega) (by omega)
  have e:(((i+1:Nat)):Int)=(i:Int)+1:=by omega
  rw[e]at h1;simp only[Q9,Vp]
  cases hc:Xc c with
  |true=>
   rw[Vw];obtain⟨r,K,h2,h3⟩:=h1;refine⟨r,K,λ k hk=>?_,h3⟩;rw[← h2 k hk];unfold Xc at hc
   revert hc
   cases inR c 97 122<;>cases inR c 48 57<;>cases (c != 45)<;>cases (c != 95)<;>cases (c != 47)<;>first|(intro _;rfl)|(intro hc;cases hc)
  |false=>
   rw[Yt];refine⟨.inl false,0,λ k _=>?_,rfl⟩;unfold Xc at hc
   revert hc
   cases inR c 97 122<;>cases inR c 48 57<;>cases (c != 45)<;>cases (c != 95)<;>cases (c != 47)<;>first|(intro _;rfl)|(intro hc;cases hc)
def Bi (s:ByteArray):Bool:=s.data.toList.all bOk&&inR (s.size:Int) 1 20
def Sa (s:ByteArray) (hs:Ni s):Tot (λ k=>Ai k s) (λ r=>r=Bi s):=by
 unfold Ai Bi;refine K3b (M4a s hs _ 0 rfl (Vq _)) ?_;rw[Yb]
 cases s.data.toList.all bOk with
 |true=>exact K5b (a:=inR (s.size:Int) 1 20) (by simp only[cond_true,Kgb,Sq,Vp]) (by rw[Vw])
 |false=>exact Jrb rfl
def Xd (s:ByteArray) (hs:Ni s):Tot (λ k=>Bo k s) (λ r=>r=Bi s):=by
 unfold Bo Bi;refine K3b (M5a s hs _ 0 rfl (Vq _)) ?_;rw[Yb]
 cases s.data.toList.all bOk with
 |true=>exact K5b (a:=inR (s.size:Int) 1 20) (by simp only[cond_true,Kgb,Q9,Vp]) (by rw[Vw])
 |false=>exact Jrb rfl
def J3 (s:Stp):Bool:=inR s.1 0 1000000000&&(inR s.2.1 0 1000000&&inR s.2.2 0 20)
def Coa (s:Stp):Cf s=some (J3 s):=by
 unfold Cf J3;simp only[Sq,Vp]
 cases inR s.1 0 1000000000<;>cases inR s.2.1 0 1000000<;>rfl
def Cpa (s:Stp):E5 s=some (J3 s):=by
 unfold E5 J3;simp only[Q9,Vp]
 cases inR s.1 0 1000000000<;>cases inR s.2.1 0 1000000<;>rfl
def P9 (x:Row):Bool:=Bi x.1&&(J3 x.2.1&&(inR x.2.2.2 0 200&&(!x.2.2.1||x.2.2.2==0)))
def V0a (x:Row) (hs:Ni x.1):Tot (λ k=>Le k x) (λ r=>r=P9 x):=by
 unfold Le P9;refine K3b (Sa x.1 hs) ?_;cases Bi x.1
 ·exact Jrb rfl
 refine K5b (a:=J3 x.2.1&&(inR x.2.2.2 0 200&&(!x.2.2.1||x.2.2.2==0))) ?_ (by rw[Vw]);simp only[cond_true,Coa,Sq,Vp]
 cases J3 x.2.1<;>cases inR x.2.2.2 0 200<;>cases x.2.2.1<;>rfl
def V1a (x:Row) (hs:Ni x.1):Tot (λ k=>Jp k x) (λ r=>r=P9 x):=by
 unfold Jp P9;refine K3b (Xd x.1 hs) ?_;cases Bi x.1
 ·exact Jrb rfl
 refine K5b (a:=J3 x.2.1&&(inR x.2.2.2 0 200&&(!x.2.2.1||x.2.2.2==0))) ?_ (by rw[Vw]);simp only[cond_true,Cpa,Q9,Vp]
 cases J3 x.2.1<;>cases inR x.2.2.2 0 200<;>cases x.2.2.1<;>rfl
def chk:Option ByteArray→List Row→Bool
 |_,[]=>true
 |none,r::l=>P9 r&&chk (some r.1) l
 |some q,r::l=>P9 r&&(tlt q r.1&&chk (some r.1) l)
def Mi (l:List Row):Bool:=chk none l&&decide ((l.length:Int)≤60)
def Xe (l:List Row):Prop:=∀ r∈l,Ni r.1
def Aua (l:List Row):Nat→Option ByteArray
 |0=>none
 |i+1=>some (l.getD i Nh).1
def Opa (l:List Row) (i:Nat) (h:i<l.length):chk (Aua l i) (l.drop i)=(P9 (l.getD i Nh)&&(bif decide (0<i) then tlt (l.getD (i-1) Nh).1 (l.getD i Nh).1 else true)&&chk (Aua l (i+1)) (l.drop (i+1))):=by
 rw[Aj (d:=Nh) h]
 cases i with
 |zero=>simp[Aua,chk]
 |succ i=>simp[Aua,chk,Nfb]
def A3 {α:Type} {l:List α} {i:Nat} {d:α} (h1:i<l.length):l.getD i d∈l:=by
 rw[Vb,Vj h1];exact M7b h1
def M6a (l:List Row) (hf:Few l) (hs:Xe l):∀ (n i:Nat),l.length-i=n→i≤l.length→
  Tot (λ k=>H6 k l l (l.length:Int) (i:Int)) (λ r=>r=bif chk (Aua l i) (l.drop i) then .inr l else .inl false):=by
 unfold Few at hf;intro n
 induction n with
 |zero=>
  intro i hn hi;refine Tot.succ ?_;simp only[H6];refine Jwb (by omega) (Jrb ?_);rw[Wk (by omega)]
  cases Aua l i<;>rfl
 |succ n ih=>
  intro i hn hi
  have hlt:i<l.length:=by omega
  refine Tot.succ ?_;simp only[H6];refine Jvb (by omega) (Jvb (by omega) (Jvb (by omega) ?_));rw[show toNat (i:Int)=i from Vc i,w64 (n:=(i:Int)+1) (by omega) (by omega),Opa l i hlt];have h1:=ih (i+1) (by omega) (by omega)
  have e:(((i+1:Nat)):Int)=(i:Int)+1:=by omega
  rw[e]at h1;refine K3b (V0a (l.getD i Nh) (hs _ (A3 hlt))) ?_;cases hb:P9 (l.getD i Nh)
  ·exact Jub rfl (Jrb (by simp))
  refine Jtb rfl ?_;rw[Vw];refine Jyb (λ h0=>?_) (λ h0=>?_)
  ·rw[w64 (n:=(i:Int)-1) (by omega) (by omega)];refine Jvb (by omega) (Jvb (by omega) ?_);rw[show toNat ((i:Int)-1)=i-1 by omega,decide_eq_true (show 0<i by omega),cond_true];have et:(!(Op.bytesLess (l.getD (i-1) Nh).1.toList (l.getD i Nh).1.toList)) = !(tlt (l.getD (i-1) Nh).1 (l.getD i Nh).1):=rfl;refine Jxb (λ ht=>?_) (λ ht=>?_)
   ·have ht':(!(tlt (l.getD (i-1) Nh).1 (l.getD i Nh).1))=true:=ht;rw[Vx]at ht';exact Jrb (by rw[ht'];rfl)
   ·have ht':(!(tlt (l.getD (i-1) Nh).1 (l.getD i Nh).1))=false:=ht;rw[Wl]at ht';rw[ht',Vw];exact h1
  ·rw[decide_eq_false (show ¬ 0<i by omega),cond_false,Vw];exact h1
def M7a (l:List Row) (hf:Few l) (hs:Xe l):∀ (n i:Nat),l.length-i=n→i≤l.length→
  Tot (λ k=>Hb k l (i:Int)) (λ r=>r=bif chk (Aua l i) (l.drop i) then .inr l else .inl false):=by
 unfold Few at hf;intro n
 induction n with
 |zero=>
  intro i hn hi;refine Tot.succ ?_;simp only[Hb];refine Jwb (by omega) (Jrb ?_);rw[Wk (by omega)]
  cases Aua l i<;>rfl
 |succ n ih=>
  intro i hn hi
  have hlt:i<l.length:=by omega
  refine Tot.succ ?_;simp only[Hb];refine Jvb (by omega) (Jvb (by omega) (Jvb (by omega) ?_));rw[show toNat (i:Int)=i from Vc i,w64 (n:=(i:Int)+1) (by omega) (by omega),Opa l i hlt];have h1:=ih (i+1) (by omega) (by omega)
  have e:(((i+1:Nat)):Int)=(i:Int)+1:=by omega
  rw[e]at h1;refine K3b (V1a (l.getD i Nh) (hs _ (A3 hlt))) ?_;cases hb:P9 (l.getD i Nh)
  ·exact Jub rfl (Jrb (by simp))
  refine Jtb rfl ?_;rw[Vw];refine Jyb (λ h0=>?_) (λ h0=>?_)
  ·rw[w64 (n:=(i:Int)-1) (by omega) (by omega)];refine Jvb (by omega) (Jvb (by omega) (Jvb (by omega) (Jvb (by omega) ?_)));rw[show toNat ((i:Int)-1)=i-1 by omega,decide_eq_true (show 0<i by omega),cond_true];refine Jxb (λ ht=>?_) (λ ht=>?_)
   ·have ht':(!(tlt (l.getD (i-1) Nh).1 (l.getD i Nh).1))=true:=ht;rw[Vx]at ht';exact Jrb (by rw[ht'];rfl)
   ·have ht':(!(tlt (l.getD (i-1) Nh).1 (l.getD i Nh).1))=false:=ht;rw[Wl]at ht';rw[ht',Vw];exact h1
  ·rw[decide_eq_false (show ¬ 0<i by omega),cond_false,Vw];exact h1
def Oqa (l:List Row) (hf:Few l) (hs:Xe l):Tot (λ k=>Fc k l) (λ r=>r=Mi l):=by
 unfold Fc Mi;refine K3b (M6a l hf hs _ 0 rfl (Vq _)) ?_;rw[Yb];show Tot _ (λ r=>r=(chk none l&&_))
 cases hc:chk none l with
 |true=>rw[show chk (Aua l 0) l=true from hc];exact Jrb (by rw[Vw])
 |false=>rw[show chk (Aua l 0) l=false from hc];exact Jrb rfl
def Zja (l:List Row) (hf:Few l) (hs:Xe l):Tot (λ k=>Hq k l) (λ r=>r=Mi l):=by
 unfold Hq Mi;refine K3b (M7a l hf hs _ 0 rfl (Vq _)) ?_;rw[Yb]
 cases hc:chk none l with
 |true=>rw[show chk (Aua l 0) l=true from hc];exact Jrb (by rw[Vw])
 |false=>rw[show chk (Aua l 0) l=false from hc];exact Jrb rfl
def M8a:∀ (p:Option ByteArray) (l:List Row),chk p l=true↔C7 l∧(∀ r∈l,P9 r=true)∧(∀ q,p=some q→∀ r∈l,tlt q r.1=true)
 |p,[]=>by
  have:chk p []=true:=by cases p<;>rfl
  simp[this,C7]
 |none,r::l=>by
  simp only[chk,Va,M8a (some r.1) l,C7,Wh];constructor
  ·rintro⟨h1,h2,h3,h4⟩;exact⟨⟨λ a ha=>h4 _ rfl a ha,h2⟩,λ a ha=>by rcases Vl.1 ha with rfl|ha;exact h1;exact h3 a ha,λ q hq=>by cases hq⟩
  ·rintro⟨⟨h1,h2⟩,h3,_⟩;exact⟨h3 r (by simp),h2,λ a ha=>h3 a (Vh _ ha),λ q hq a ha=>by cases hq;exact h1 a ha⟩
 |some q,r::l=>by
  simp only[chk,Va,M8a (some r.1) l,C7,Wh];constructor
  ·rintro⟨h1,h0,h2,h3,h4⟩;refine⟨⟨λ a ha=>h4 _ rfl a ha,h2⟩,λ a ha=>by rcases Vl.1 ha with rfl|ha;exact h1;exact h3 a ha,λ q' hq a ha=>?_⟩;cases hq;rcases Vl.1 ha with rfl|ha
   ·exact h0
   ·exact Oe h0 (h4 _ rfl a ha)
  ·rintro⟨⟨h1,h2⟩,h3,h4⟩;exact⟨h3 r (by simp),h4 q rfl r (by simp),h2,λ a ha=>h3 a (Vh _ ha),λ q' hq a ha=>by cases hq;exact h1 a ha⟩
def O3 {l:List Row}:Mi l=true↔C7 l∧(∀ r∈l,P9 r=true)∧l.length≤60:=by
 unfold Mi;simp only[Va,M8a,decide_eq_true_eq];constructor
 ·rintro⟨⟨h1,h2,_⟩,h3⟩;exact⟨h1,h2,by omega⟩
 ·rintro⟨h1,h2,h3⟩;exact⟨⟨h1,h2,λ q hq=>by cases hq⟩,by omega⟩
def Qa (a b:List Row):List Row:=b.foldl mrg a
def Gma {a b:List Row} {r:Row} (h:r∈Qa a b):r∈a∨r∈b:=by
 induction b generalizing a with
 |nil=>exact .inl h
 |cons x b ih=>
  rcases ih (a:=mrg a x) h with h|h
  ·rcases Uza h with rfl|h
   ·exact .inr (by simp)
   ·exact .inl h
  ·exact .inr (Vh _ h)
def Pa {a b:List Row} (h:C7 a):C7 (Qa a b):=by
 induction b generalizing a with
 |nil=>exact h
 |cons x b ih=>exact ih (U7 h)
def Gna (b:List Row) (hb:Few b):∀ (n i:Nat) (a:List Row),b.length-i=n→i≤b.length→a.length+(b.length-i)≤1000000000000→
  Tot (λ k=>Ek k a b (b.length:Int) (i:Int)) (λ r=>r=Qa a (b.drop i)):=by
 unfold Few at hb;intro n
 induction n with
 |zero=>
  intro i a hn hi hf;refine Tot.succ ?_;simp only[Ek];refine Jwb (by omega) (Jrb ?_);rw[Wk (by omega)];rfl
 |succ n ih=>
  intro i a hn hi hf
  have hlt:i<b.length:=by omega
  refine Tot.succ ?_;simp only[Ek];refine Jvb (by omega) (Jvb (by omega) (Jvb (by omega) ?_));rw[show toNat (i:Int)=i from Vc i,w64 (n:=(i:Int)+1) (by omega) (by omega),Aj (d:=Nh) hlt];refine K3b (Uwa a (b.getD i Nh) (by unfold Few;omega)) ?_;have:=Uya a (b.getD i Nh);exact ih (i+1) (mrg a (b.getD i Nh)) (by omega) (by omega) (by omega)
def Qxa (a b:List Row) (hf:a.length+b.length≤1000000000000):Tot (λ k=>Cv k a b) (λ r=>r=Qa a b):=by
 unfold Cv;refine Jsb (K5b (Q:=λ r=>r=a) (Xb a (by unfold Few;omega)) rfl) ?_;rintro r rfl;refine Jsb (Gna b (by unfold Few;omega) _ 0 r rfl (Vq _) (by omega)) ?_;rintro y rfl;rw[Yb];exact Jrb rfl
def Ko (l:List Row) (s:ByteArray):Option Row:=l.find? (λ r=>teq r.1 s)
def mx (a b:Row):Row:=bif N3 a b then b else a
def Cqa (a b:Row):N3 a b=true↔a.2.1.1<b.2.1.1∨(a.2.1.1=b.2.1.1∧(a.2.1.2.1<b.2.1.2.1∨(a.2.1.2.1=b.2.1.2.1∧(a.2.1.2.2<b.2.1.2.2∨(a.2.1.2.2=b.2.1.2.2∧((a.2.2.1=false∧b.2.2.1=true)∨(a.2.2.1=b.2.2.1∧a.2.2.2<b.2.2.2))))))):=by
 unfold N3
 cases hs:(!((a.2.1.1==b.2.1.1)&&((a.2.1.2.1==b.2.1.2.1)&&(a.2.1.2.2==b.2.1.2.2)))) with
 |true=>
  rw[cond_true,Qz]
  have hne:¬ (a.2.1.1=b.2.1.1∧a.2.1.2.1=b.2.1.2.1∧a.2.1.2.2=b.2.1.2.2):=by
   intro ⟨h1,h2,h3⟩;rw[h1,h2,h3]at hs;simp at hs
  omega
 |false=>
  rw[cond_false];simp only[Wl,Va,beq_iff_eq]at hs;obtain⟨h1,h2,h3⟩:=hs
  cases ha:a.2.2.1<;>cases hb:b.2.2.1<;>simp[h1,h2,h3]
def V5 {a b:Row} (h:N3 a b=true):N3 b a=false:=by
 cases hb:N3 b a
 ·rfl
 rw[Cqa]at h hb
 cases ha:a.2.2.1<;>cases hb':b.2.2.1<;>simp only[ha,hb']at h hb<;>simp at h hb<;>omega
def V2a {a b:Row} (hn:a.1=b.1) (h:N3 a b=false) (h':N3 b a=false):a=b:=by
 have h1:¬ N3 a b=true:=by rw[h];decide
 have h2:¬ N3 b a=true:=by rw[h'];decide
 rw[Cqa]at h1 h2;obtain⟨n,⟨t,s,d⟩,e,z⟩:=a;obtain⟨n',⟨t',s',d'⟩,e',z'⟩:=b;simp only at hn h1 h2;subst hn
 have hd:e=e'∧t=t'∧s=s'∧d=d'∧z=z':=by
  cases e<;>cases e'<;>simp at h1 h2 ⊢ <;> omega
 obtain⟨rfl,rfl,rfl,rfl,rfl⟩:=hd;rfl
def Eab (a b:Row):mx (mx a b) b=mx a b:=by
 unfold mx
 cases h:N3 a b with
 |true=>
  have:N3 b b=false:=by
   cases hb:N3 b b with
   |false=>rfl
   |true=>have:=V5 hb;rw[hb]at this;cases this
  rw[cond_true,this];rfl
 |false=>rw[cond_false,h];rfl
def Pb {l:List Row} {s:ByteArray} {r:Row} (h:Ko l s=some r):r∈l∧r.1=s:=by
 unfold Ko at h;exact⟨Mtb h,Db.1 (List.find?_some (p:=λ r:Row=>teq r.1 s) h)⟩
def Of {l:List Row} (hs:C7 l) {r:Row} (h:r∈l):Ko l r.1=some r:=by
 induction l with
 |nil=>simp at h
 |cons a l ih=>
  unfold C7 at hs;rw[Wh]at hs;unfold Ko;rw[L1b];rcases Vl.1 h with rfl|h
  ·rw[Db.2 rfl]
  ·have:teq a.1 r.1=false:=by
    cases ht:teq a.1 r.1
    ·rfl
    have h1:=hs.1 r h;rw[Db.1 ht,Jc]at h1;cases h1
   rw[this];exact ih hs.2 h
def Cra:∀ {l m:List Row},C7 l→C7 m→(∀ s,Ko l s=Ko m s)→l=m
 |[],[],_,_,_=>rfl
 |[],b::m,_,hm,h=>by
  have:=Of hm (r:=b) (by simp);rw[← h]at this;simp[Ko]at this
 |a::l,[],hl,_,h=>by
  have:=Of hl (r:=a) (by simp);rw[h]at this;simp[Ko]at this
 |a::l,b::m,hl,hm,h=>by
  have hl':=hl;have hm':=hm;unfold C7 at hl hm;rw[Wh]at hl hm;have ha:=Of hl' (r:=a) (by simp);have hb:=Of hm' (r:=b) (by simp);have ea:a∈b::m:=(Pb (by rw[← h];exact ha)).1;have eb:b∈a::l:=(Pb (by rw[h];exact hb)).1
  have hab:a=b:=by
   rcases Vl.1 ea with rfl|ea
   ·rfl
   ·rcases Vl.1 eb with rfl|eb
    ·rfl
    ·have h1:=hm.1 a ea;have h2:=hl.1 b eb;rw[X9 h1]at h2;cases h2
  subst hab;rw[Cra (l:=l) (m:=m) hl.2 hm.2 (λ s=>?_)];have hs:=h s;unfold Ko at hs ⊢;rw[L1b,L1b]at hs;cases ht:teq a.1 s
  ·rw[ht]at hs;exact hs
  have none:∀ (k:List Row),(∀ r∈k,tlt a.1 r.1=true)→k.find? (λ r=>teq r.1 s)=none:=by
   intro k hk;rw[List.find?_eq_none];intro r hr;rw[Db];intro e;have:=hk r hr;rw[e,← Db.1 ht,Jc]at this;cases this
  rw[none l hl.1,none m hm.1]
def Jba {l:List Row} {x:Row} (hs:C7 l) (s:ByteArray):Ko (mrg l x) s=bif teq x.1 s then (match Ko l s with|some r=>some (mx r x)|none=>some x) else Ko l s:=by
 have hsm:=U7 (x:=x) hs
 have hget:∀ j (hj:j<l.length),l.getD j Nh=l[j]:=λ j hj=>by rw[Vb,Vj hj];rfl
 cases ht:teq x.1 s with
 |true=>
  have hxs:=Db.1 ht;rw[cond_true];unfold mrg;split
  ·rename_i j hj;obtain⟨_,h2,h3⟩:=U6 l 0 j hj;rw[Lnb]at h3
   have hjl:j<l.length:=by omega
   have hname:(l.getD j Nh).1=x.1:=Db.1 h3;have hmem:l.getD j Nh∈l:=A3 hjl
   have hlk:Ko l s=some (l.getD j Nh):=by rw[← hxs,← hname];exact Of hs hmem
   rw[hlk];show Ko (bif N3 (l.getD j Nh) x then l.set j x else l) s=some (mx (l.getD j Nh) x);unfold mx;cases hb:N3 (l.getD j Nh) x
   ·rw[cond_false];exact hlk
   rw[cond_true];have:x∈l.set j x:=List.mem_set hjl x
   have hsm':C7 (l.set j x):=by
    have:=hsm;unfold mrg at this;rw[hj]at this;simp only[hb,cond_true]at this;exact this
   rw[← hxs];exact Of hsm' this
  ·rename_i hj
   have hno:Ko l s=none:=by
    cases hl:Ko l s with
    |none=>rfl
    |some r=>
     obtain⟨h1,h2⟩:=Pb hl;exact(Z7 l 0 hj r h1 (h2.trans hxs.symm)).elim
   rw[hno]
   have hx:x∈mrg l x:=by unfold mrg;rw[hj];simp
   have:=Of hsm hx;unfold mrg at this;rw[hj]at this;rw[← hxs];exact this
 |false=>
  rw[cond_false]
  cases hl:Ko l s with
  |some r=>
   obtain⟨h1,h2⟩:=Pb hl
   have hr:r∈mrg l x:=by
    unfold mrg;split
    ·rename_i j hj;cases hb:N3 (l.getD j Nh) x
     ·exact h1
     rw[cond_true];obtain⟨i,hi,e⟩:=Ljb h1;obtain⟨_,q2,q3⟩:=U6 l 0 j hj;rw[Lnb]at q3
     have hij:i≠j:=by
      rintro rfl;rw[hget i hi,e]at q3;have:=Db.1 q3;rw[Db.2 (this.symm.trans h2)]at ht;cases ht
     rw[Zf];exact⟨i,by rw[Wc];exact hi,by rw[List.getElem_set_ne (Lhb hij)];exact e⟩
    ·have:r∈l.take (Xw l x.1 l.length)++l.drop (Xw l x.1 l.length):=by rw[Wo];exact h1
     rcases Vo.1 this with h|h
     ·exact Wb _ h
     ·exact Vs _ (Vh _ h)
   rw[← h2];exact Of hsm hr
  |none=>
   cases hm:Ko (mrg l x) s with
   |none=>rfl
   |some r=>
    exfalso;obtain⟨h1,h2⟩:=Pb hm;rcases Uza h1 with rfl|h1
    ·rw[Db.2 h2]at ht;cases ht
    ·have:=Of hs h1;rw[h2,hl]at this;cases this
def cmb:Option Row→Option Row→Option Row
 |some a,some b=>some (mx a b)
 |some a,none=>some a
 |none,y=>y
def Z8 {a b:List Row} (ha:C7 a) (hb:C7 b) (s:ByteArray):Ko (Qa a b) s=cmb (Ko a s) (Ko b s):=by
 induction b generalizing a with
 |nil=>show Ko a s=cmb (Ko a s) none;cases Ko a s<;>rfl
 |cons x b ih=>
  have hb':=hb;unfold C7 at hb;rw[Wh]at hb;show Ko (Qa (mrg a x) b) s=_;rw[ih (U7 ha) hb.2,Jba ha s]
  have e:Ko (x::b) s=bif teq x.1 s then some x else Ko b s:=by
   unfold Ko;rw[L1b]
   cases teq x.1 s<;>rfl
  rw[e];cases ht:teq x.1 s
  ·rfl
  have hno:Ko b s=none:=by
   cases hl:Ko b s with
   |none=>rfl
   |some r=>
    obtain⟨h1,h2⟩:=Pb hl;have:=hb.1 r h1;rw[h2,← Db.1 ht,Jc]at this;cases this
  rw[hno]
  cases Ko a s<;>rfl
def F0a {l:List Row} {s:ByteArray}:∀ r,Ko l s=some r→r.1=s:=λ r h=>(Pb h).2
def V3a {a b:List Row} (ha:C7 a) (hb:C7 b):Qa (Qa a b) b=Qa a b:=
 Cra (Pa (Pa ha)) (Pa ha) λ s=>by
  rw[Z8 (Pa ha) hb,Z8 ha hb]
  cases Ko a s<;>cases Ko b s<;>first|rfl|skip
  ·rename_i b;show some (mx b b)=some b;unfold mx;cases N3 b b<;>rfl
  ·rename_i a b;show some (mx (mx a b) b)=some (mx a b);rw[Eab]

def Dta:Nat→Nat→List Int
 |0,n=>[(n:Int)]
 |f+1,n=>if n≤127 then [(n:Int)] else ((n % 128+128:Nat):Int)::Dta f (n/128)
def R3 (n:Nat):List Int:=Dta 4 n
def Xf:Nat→Nat→Nat→List Int→Option (Nat×Nat)
 |0,_,_,_=>none
 |_+1,_,_,[]=>none
 |f+1,k,acc,x::l=>if 128≤x then Xf f (k+1) (acc+x.toNat % 128*128 ^ k) l
  else if (x=0∧0<k)∨1000000000<acc+x.toNat % 128*128 ^ k then none else some (acc+x.toNat % 128*128 ^ k,k+1)
def R7 (l:List Int) (p:Nat):Option (Nat×Nat):=match Xf 5 0 0 (l.drop p) with
 |some (n,c)=>some (n,p+c)
 |none=>none
def V4a:∀ (f n:Nat),(Dta f n).length≤f+1∧0<(Dta f n).length
 |0,n=>by simp[Dta]
 |f+1,n=>by
  unfold Dta;split
  ·simp
  ·have:=V4a f (n/128);simp only[Vd];omega
def V6:∀ (f k acc:Nat) (l:List Int) (n c:Nat),An l→Xf f k acc l=some (n,c)→acc<128 ^ k→k<c∧c≤k+f∧c-k≤l.length∧n≤1000000000
 |0,_,_,_,_,_,_,h,_=>by simp[Xf]at h
 |_+1,_,_,[],_,_,_,h,_=>by simp[Xf]at h
 |f+1,k,acc,x::l,n,c,hb,h,ha=>by
  have hx:=hb x (by simp);unfold Xf at h;split at h
  ·have h1:acc+x.toNat % 128*128 ^ k<128 ^ (k+1):=by
    have h2:x.toNat % 128≤127:=by omega
    have h3:=Wp (128 ^ k) h2;rw[Kbb];omega
   have:=V6 f (k+1) _ l n c (λ y hy=>hb y (Vh _ hy)) h h1;simp only[Vd];omega
  ·split at h
   ·cases h
   ·simp only[Vg,Vy]at h;obtain⟨rfl,rfl⟩:=h;simp only[Vd];omega
def V5a:∀ (f k acc:Nat) (l:List Int) (n c:Nat),An l→Xf (f+1) k acc l=some (n,c)→acc<128 ^ k→∃ m,n=acc+m*128 ^ k∧l=Dta f m++l.drop (c-k)∧(m=0→c=k+1∧(0<k→False))∧m<128 ^ (f+1)
 |0,k,acc,[],n,c,hb,h,ha=>by simp[Xf]at h
 |_+1,k,acc,[],n,c,hb,h,ha=>by simp[Xf]at h
 |0,k,acc,x::l,n,c,hb,h,ha=>by
  have hx:=hb x (by simp);unfold Xf at h;split at h
  ·simp[Xf]at h
  ·rename_i h128;split at h
   ·cases h
   ·rename_i hz;simp only[Vg,Vy]at h;obtain⟨rfl,rfl⟩:=h;have hm:x.toNat % 128=x.toNat:=Krb (by omega);refine⟨x.toNat,by rw[hm],?_,λ h0=>⟨rfl,λ hk=>hz (.inl ⟨by omega,hk⟩)⟩,by omega⟩;rw[show k+1-k=1 by omega];show x::l=[((x.toNat:Nat):Int)]++l;rw[show ((x.toNat:Nat):Int)=x by omega];rfl
 |f+1,k,acc,x::l,n,c,hb,h,ha=>by
  have hx:=hb x (by simp);have hb':An l:=λ y hy=>hb y (Vh _ hy);unfold Xf at h;split at h
  ·rename_i h128
   have h1:acc+x.toNat % 128*128 ^ k<128 ^ (k+1):=by
    have h2:x.toNat % 128≤127:=by omega
    have h3:=Wp (128 ^ k) h2;rw[Kbb];omega
   obtain⟨m,e1,e2,e3,e4⟩:=V5a f (k+1) _ l n c hb' h h1;have hbd:=V6 (f+1) (k+1) _ l n c hb' h h1;have hm0:m≠0:=λ h0=>(e3 h0).2 (by omega);refine⟨x.toNat % 128+m*128,?_,?_,λ h0=>by omega,?_⟩
   ·rw[e1,Kbb,Zd]
    have:m*128*128 ^ k=m*(128 ^ k*128):=by rw[Nat.mul_assoc,Nhb 128]
    omega
   ·unfold Dta;rw[if_neg (by omega),show (x.toNat % 128+m*128)/128=m by omega,show (x.toNat % 128+m*128) % 128=x.toNat % 128 by omega,show c-k=(c-(k+1))+1 by omega,List.drop_succ_cons,List.cons_append,← e2];congr 1;omega
   ·rw[Kbb];omega
  ·rename_i h128;split at h
   ·cases h
   ·rename_i hz;simp only[Vg,Vy]at h;obtain⟨rfl,rfl⟩:=h;have hm:x.toNat % 128=x.toNat:=Krb (by omega)
    have hp:128≤128 ^ (f+1+1):=by
     have:=Nat.pow_le_pow_right (show 0<128 by decide) (show 1≤f+1+1 by omega)
     simpa using this
    refine⟨x.toNat,by rw[hm],?_,λ h0=>⟨rfl,λ hk=>hz (.inl ⟨by omega,hk⟩)⟩,by omega⟩;rw[show k+1-k=1 by omega];unfold Dta;rw[if_pos (by omega)];show x::l=[((x.toNat:Nat):Int)]++l;rw[show ((x.toNat:Nat):Int)=x by omega];rfl
def V6a:∀ (f k acc m:Nat) (rest:List Int),m<128 ^ (f+1)→(0<k→0<m)→acc+m*128 ^ k≤1000000000→Xf (f+1) k acc (Dta f m++rest)=some (acc+m*128 ^ k,k+(Dta f m).length)
 |0,k,acc,m,rest,hm,hk,hn=>by
  show Xf 1 k acc ((m:Int)::rest)=_;unfold Xf
  have h1:m<128:=by simpa using hm
  rw[if_neg (by omega),if_neg (by
   rw[show (m:Int).toNat % 128=m by rw[Vc];exact Krb h1]
   omega)]
  rw[show (m:Int).toNat % 128=m by rw[Vc];exact Krb h1];rfl
 |f+1,k,acc,m,rest,hm,hk,hn=>by
  unfold Dta
  by_cases h:m≤127
  ·rw[if_pos h];show Xf (f+2) k acc ((m:Int)::rest)=_;unfold Xf
   rw[if_neg (by omega),if_neg (by
    rw[show (m:Int).toNat % 128=m by rw[Vc];exact Krb (by omega)]
    omega)]
   rw[show (m:Int).toNat % 128=m by rw[Vc];exact Krb (by omega)];rfl
  ·rw[if_neg h];show Xf (f+2) k acc (((m % 128+128:Nat):Int)::(Dta f (m/128)++rest))=_;unfold Xf
   have e1:(((m % 128+128:Nat):Int)).toNat % 128=m % 128:=by rw[Vc];omega
   rw[if_pos (by omega),e1]
   have hmod:m=m % 128+m/128*128:=by omega
   have hm2:m/128<128 ^ (f+1):=by rw[Kbb]at hm;omega
   have e2:acc+m % 128*128 ^ k+m/128*128 ^ (k+1)=acc+m*128 ^ k:=by
    have h2:m*128 ^ k=(m % 128+m/128*128)*128 ^ k:=by rw[← hmod]
    rw[h2,Zd,Kbb]
    have:m/128*128*128 ^ k=m/128*(128 ^ k*128):=by rw[Nat.mul_assoc,Nhb 128]
    omega
   rw[V6a f (k+1) (acc+m % 128*128 ^ k) (m/128) rest hm2 (λ _=>by omega) (by rw[e2];exact hn),e2,Vd];simp only[Vg,Vy,true_and];omega
def Ora (pre:List Int) (n:Nat) (rest:List Int) (hn:n≤1000000000):R7 (pre++(R3 n++rest)) pre.length=some (n,pre.length+(R3 n).length):=by
 unfold R7;rw[Zo];have:=V6a 4 0 0 n rest (by omega) (by omega) (by omega);unfold R3;rw[this];simp
def V7 {l:List Int} {p n q:Nat} (hb:An l) (h:R7 l p=some (n,q)):l.drop p=R3 n++l.drop q∧n≤1000000000∧p<q∧q≤l.length:=by
 unfold R7 at h;split at h
 ·rename_i m c hd;simp only[Vg,Vy]at h;obtain⟨rfl,rfl⟩:=h;have hb':An (l.drop p):=λ y hy=>hb y (Zr hy);have hbd:=V6 5 0 0 _ _ _ hb' hd (by decide);obtain⟨m',e1,e2,_,_⟩:=V5a 4 0 0 _ _ _ hb' hd (by decide)
  have e3:m=m':=by rw[e1];simp
  subst e3;rw[We]at hbd;refine⟨?_,hbd.2.2.2,by omega,by omega⟩;rw[Lnb,Yq]at e2;exact e2
 ·cases h
def Jnb (i:Nat) (hi:i<5):(2:Int) ^ (min (toNat (wrap .i64 (7*(i:Int)))) (IntKind.bits .i64))=((128 ^ i:Nat):Int):=by
 have:i=0∨i=1∨i=2∨i=3∨i=4:=by omega
 rcases this with rfl|rfl|rfl|rfl|rfl<;>decide
def Iwb (i:Nat) (hi:i<5):(2:Int) ^ (min (toNat (wrap .u64 (wrap .i64 (7*(i:Int))))) (IntKind.bits .i64))=((128 ^ i:Nat):Int):=by
 have:i=0∨i=1∨i=2∨i=3∨i=4:=by omega
 rcases this with rfl|rfl|rfl|rfl|rfl<;>decide
def sh7 (i:Nat) (hi:i<5):¬ (wrap .i64 (7*(i:Int))<0)∧¬ (wrap .u64 (wrap .i64 (7*(i:Int)))<0):=by
 have:i=0∨i=1∨i=2∨i=3∨i=4:=by omega
 rcases this with rfl|rfl|rfl|rfl|rfl<;>decide
def Rk (i:Nat) (hi:i≤5):128 ^ i≤34359738368:=by
 have:=Nat.pow_le_pow_right (show 0<128 by decide) hi
 simpa using this
def Tf (n:Nat) (h:n<18446744073709551616):(ofInt (IntKind.bits .i64) (n:Int)).toNat=n:=by
 rw[Ltb];show ((n:Int) % ((2 ^ 64:Nat):Int)).toNat=n;rw[Int.emod_eq_of_lt (by omega) (by omega)];exact Vc n
def C2b (n:Nat) (h:n<9223372036854775808):wrap .i64 ((ofInt (IntKind.bits .i64) (n:Int) &&& ofInt (IntKind.bits .i64) 127).toNat)=((n % 128:Nat):Int):=by
 rw[Lgb,Tf n (by omega),show (ofInt (IntKind.bits .i64) 127).toNat=127 from by decide,show (127:Nat)=2 ^ 7-1 from rfl,M6b];exact w64 (by omega) (by omega)
def Osa (a m i:Nat) (ha:a<128 ^ i) (hm:m<128) (hi:i<5):wrap .i64 ((ofInt (IntKind.bits .i64) (a:Int) ||| ofInt (IntKind.bits .i64) ((m*128 ^ i:Nat):Int)).toNat)=((a+m*128 ^ i:Nat):Int):=by
 have hp:=Rk i (by omega);have hmul:m*128 ^ i≤127*34359738368:=Mub (by omega) hp;rw[BitVec.toNat_or,Tf a (by omega),Tf _ (by omega),Nat.or_comm]
 have e:(128:Nat) ^ i=2 ^ (7*i):=by rw[Nat.pow_mul]
 have h2:=Nat.two_pow_add_eq_or_of_lt (i:=7*i) (b:=a) (by rw[← e];exact ha) m;rw[← e,Nhb]at h2;rw[← h2,K6b];exact w64 (by omega) (by omega)
def M9a (l:List Int) (p:Int):Int×Int×Bool:=if p<0 then (0,0,false) else match R7 l p.toNat with
 |some (n,q)=>((n:Int),(q:Int),true)
 |none=>(0,0,false)
def Ihb (p:Nat):Option (Nat×Nat)→Int×Int×Bool
 |some (n,c)=>((n:Int),((p+c:Nat):Int),true)
 |none=>(0,0,false)
def Csa (r:Sum (Int×Int×Bool) Unit):Int×Int×Bool:=Sum.elim (λ y=>y) (λ _=>(0,0,false)) r
def Jca {l:List Int} {p:Nat} (h:p<l.length):l.drop p=l.getD p 0::l.drop (p+1):=Aj h
def Qya (l:List Int) (hb:An l) (hl:l.length≤1000000000000) (p:Nat) (hp:p≤1000000000000):∀ (f i acc:Nat),f+i=5→acc<128 ^ i→
  Tot (λ k=>H7 k l (p:Int) (acc:Int) (i:Int)) (λ r=>Csa r=Ihb p (Xf f i acc (l.drop (p+i)))):=by
 intro f
 induction f with
 |zero=>
  intro i acc hi ha;refine Tot.succ ?_;simp only[H7];exact Jwb (by omega) (Jrb rfl)
 |succ f ih=>
  intro i acc hi ha
  have hi5:i<5:=by omega
  refine Tot.succ ?_;simp only[H7];refine Jvb (by omega) (Jvb (by omega) ?_);rw[w64 (n:=(l.length:Int)-(i:Int)) (by omega) (by omega),w64 (n:=(p:Int)+(i:Int)) (by omega) (by omega),show toNat ((p:Int)+(i:Int))=p+i by omega];refine Jyb (λ h=>?_) (λ h=>?_)
  ·have hlt:p+i<l.length:=by omega
   refine Jvb (by omega) (Jvb (by omega) ?_);have hx:=hb (l.getD (p+i) 0) (A3 hlt);rw[Jca hlt,Jnb i hi5]
   have he:Xf (f+1) i acc (l.getD (p+i) 0::l.drop (p+i+1))=if 128≤l.getD (p+i) 0 then Xf f (i+1) (acc+(l.getD (p+i) 0).toNat % 128*128 ^ i) (l.drop (p+i+1)) else if (l.getD (p+i) 0=0∧0<i)∨1000000000<acc+(l.getD (p+i) 0).toNat % 128*128 ^ i then none else some (acc+(l.getD (p+i) 0).toNat % 128*128 ^ i,i+1):=rfl
   rw[he];generalize l.getD (p+i) 0=x at hx ⊢;obtain⟨v,rfl⟩:∃ v:Nat,x=(v:Int):=⟨x.toNat,by omega⟩;rw[Vc];have hp1:=Rk i (by omega);have hmul:v % 128*128 ^ i≤127*34359738368:=Mub (by omega) hp1;rw[w64 (n:=(v:Int)) (by omega) (by omega)]
   have e1:Int.tmod (v:Int) 128*((128 ^ i:Nat):Int)=((v % 128*128 ^ i:Nat):Int):=by
    rw[Kcb (by omega)]
    push_cast
    rfl
   rw[e1,w64 (n:=((v % 128*128 ^ i:Nat):Int)) (by omega) (by omega),← Int.natCast_add,w64 (n:=((acc+v % 128*128 ^ i:Nat):Int)) (by omega) (by omega),w64 (n:=(i:Int)+1) (by omega) (by omega),w64 (n:=(p:Int)+(i:Int)+1) (by omega) (by omega)];refine Jwb (sh7 i hi5).1 ?_;refine Jyb (λ h128=>?_) (λ h128=>?_)
   ·rw[if_pos (by omega)]
    have h1:acc+v % 128*128 ^ i<128 ^ (i+1):=by
     have h2:v % 128≤127:=by omega
     have h3:=Wp (128 ^ i) h2;rw[Kbb];omega
    have:=ih (i+1) (acc+v % 128*128 ^ i) (by omega) h1;rw[show p+(i+1)=p+i+1 by omega]at this;exact this
   ·rw[if_neg (by omega)]
    have big:Tot (λ _:Nat=>cond (decide (((acc+v % 128*128 ^ i:Nat):Int) > 1000000000)) (some (Sum.inl ((0:Int),(0:Int),false))) (some (Sum.inl (((acc+v % 128*128 ^ i:Nat):Int),(p:Int)+(i:Int)+1,true))):Nat→Option (Sum (Int×Int×Bool) Unit))
      (λ r=>Csa r=if 1000000000<acc+v % 128*128 ^ i then (0,0,false) else (((acc+v % 128*128 ^ i:Nat):Int),((p+(i+1):Nat):Int),true)):=by
     refine Jyb (λ hbig=>?_) (λ hbig=>?_)
     ·rw[if_pos (by omega)];exact Jrb rfl
     ·rw[if_neg (by omega)];refine Jrb ?_;show (_,_,_)=_;rw[show (p:Int)+(i:Int)+1=((p+(i+1):Nat):Int) by omega]
    have goal:∀ c:Prop,[Decidable c]→(if c∨1000000000<acc+v % 128*128 ^ i then none else some (acc+v % 128*128 ^ i,i+1))=if c then none else if 1000000000<acc+v % 128*128 ^ i then (none:Option (Nat×Nat)) else some (acc+v % 128*128 ^ i,i+1):=by
     intro c _
     by_cases h1:c<;>by_cases h2:1000000000<acc+v % 128*128 ^ i<;>simp[h1,h2]
    rw[goal]
    have fin:(Ihb p (if 1000000000<acc+v % 128*128 ^ i then (none:Option (Nat×Nat)) else some (acc+v % 128*128 ^ i,i+1)))=if 1000000000<acc+v % 128*128 ^ i then (0,0,false) else (((acc+v % 128*128 ^ i:Nat):Int),((p+(i+1):Nat):Int),true):=by
     split<;>rfl
    refine Jxb (λ h0=>?_) (λ h0=>?_)
    ·have hv:v=0:=by
      have:=beq_iff_eq.1 h0;omega
     refine Jyb (λ hi0=>?_) (λ hi0=>?_)
     ·rw[if_pos ⟨by omega,by omega⟩];exact Jrb rfl
     ·rw[if_neg (by omega),fin];exact big
    ·have hv:v≠0:=by
      intro e;subst e;simp at h0
     rw[if_neg (by omega),fin];exact big
  ·refine Jrb ?_;rw[Wk (by omega)];rfl
def V7a (l:List Int) (hb:An l) (hl:l.length≤1000000000000) (p:Int) (hp:p≤1000000000000):Tot (λ k=>J1 k l p) (λ r=>r=M9a l p):=by
 unfold J1 M9a
 by_cases h0:p<0
 ·rw[if_pos h0];refine Jsb (Q:=λ r=>r = .inr ()) ?_ ?_
  ·refine Tot.succ ?_;simp only[H7];exact Jvb (by omega) (Jwb (by omega) (Jrb rfl))
  ·rintro r rfl;exact Jrb rfl
 ·rw[if_neg h0];obtain⟨n,rfl⟩:∃ n:Nat,p=(n:Int):=⟨p.toNat,by omega⟩;rw[Vc];refine Jsb (Qya l hb hl n (by omega) 5 0 0 rfl (by decide)) ?_;intro r hr;unfold R7;rw[Zv]at hr
  have hr':Csa r=(match (match Xf 5 0 0 (l.drop n) with|some (m,c)=>some (m,n+c)|none=>none) with|some (m,q)=>((m:Int),(q:Int),true)|none=>((0:Int),(0:Int),false)):=by
   rw[hr]
   cases Xf 5 0 0 (l.drop n) with
   |none=>rfl
   |some mc=>rfl
  rw[← hr']
  cases r with
  |inl y=>exact Jrb rfl
  |inr z=>exact Jrb rfl

def Qza (l:List Int) (hb:An l) (hl:l.length≤1000000000000) (p:Nat) (hp:p<l.length):∀ (f i acc:Nat),f+i=5→acc<128 ^ i→
  Tot (λ k=>Fz k l (p:Int) (acc:Int) (i:Int)) (λ r=>Csa r=Ihb p (Xf f i acc (l.drop (p+i)))):=by
 intro f
 induction f with
 |zero=>
  intro i acc hi ha;refine Tot.succ ?_;simp only[Fz];exact Jwb (by omega) (Jrb rfl)
 |succ f ih=>
  intro i acc hi ha
  have hi5:i<5:=by omega
  refine Tot.succ ?_;simp only[Fz];refine Jvb (by omega) (Jvb (by omega) (Jvb (by omega) ?_));rw[w64 (n:=(p:Int)+(i:Int)) (by omega) (by omega),show toNat ((p:Int)+(i:Int))=p+i by omega];refine Jyb (λ h=>?_) (λ h=>?_)
  ·have hlt:p+i<l.length:=by omega
   refine Jvb (by omega) (Jvb (by omega) ?_);have hx:=hb (l.getD (p+i) 0) (A3 hlt);rw[Jca hlt,Iwb i hi5]
   have he:Xf (f+1) i acc (l.getD (p+i) 0::l.drop (p+i+1))=if 128≤l.getD (p+i) 0 then Xf f (i+1) (acc+(l.getD (p+i) 0).toNat % 128*128 ^ i) (l.drop (p+i+1)) else if (l.getD (p+i) 0=0∧0<i)∨1000000000<acc+(l.getD (p+i) 0).toNat % 128*128 ^ i then none else some (acc+(l.getD (p+i) 0).toNat % 128*128 ^ i,i+1):=rfl
   rw[he];generalize l.getD (p+i) 0=x at hx ⊢;obtain⟨v,rfl⟩:∃ v:Nat,x=(v:Int):=⟨x.toNat,by omega⟩;rw[Vc];have hp1:=Rk i (by omega);have hmul:v % 128*128 ^ i≤127*34359738368:=Mub (by omega) hp1;rw[w64 (n:=(v:Int)) (by omega) (by omega),C2b v (by omega)]
   have e1:((v % 128:Nat):Int)*((128 ^ i:Nat):Int)=((v % 128*128 ^ i:Nat):Int):=by push_cast;rfl
   rw[e1,w64 (n:=((v % 128*128 ^ i:Nat):Int)) (by omega) (by omega),Osa acc (v % 128) i ha (by omega) hi5,w64 (n:=(i:Int)+1) (by omega) (by omega),w64 (n:=(p:Int)+(i:Int)+1) (by omega) (by omega)];refine Jwb (sh7 i hi5).2 ?_;refine Jyb (λ h128=>?_) (λ h128=>?_)
   ·rw[if_pos (by omega)]
    have h1:acc+v % 128*128 ^ i<128 ^ (i+1):=by
     have h2:v % 128≤127:=by omega
     have h3:=Wp (128 ^ i) h2;rw[Kbb];omega
    have:=ih (i+1) (acc+v % 128*128 ^ i) (by omega) h1;rw[show p+(i+1)=p+i+1 by omega]at this;exact this
   ·rw[if_neg (by omega)]
    have big:Tot (λ _:Nat=>cond (decide (((acc+v % 128*128 ^ i:Nat):Int) > 1000000000)) (some (Sum.inl ((0:Int),(0:Int),false))) (some (Sum.inl (((acc+v % 128*128 ^ i:Nat):Int),(p:Int)+(i:Int)+1,true))):Nat→Option (Sum (Int×Int×Bool) Unit))
      (λ r=>Csa r=if 1000000000<acc+v % 128*128 ^ i then (0,0,false) else (((acc+v % 128*128 ^ i:Nat):Int),((p+(i+1):Nat):Int),true)):=by
     refine Jyb (λ hbig=>?_) (λ hbig=>?_)
     ·rw[if_pos (by omega)];exact Jrb rfl
     ·rw[if_neg (by omega)];refine Jrb ?_;show (_,_,_)=_;rw[show (p:Int)+(i:Int)+1=((p+(i+1):Nat):Int) by omega]
    have goal:∀ c:Prop,[Decidable c]→(if c∨1000000000<acc+v % 128*128 ^ i then none else some (acc+v % 128*128 ^ i,i+1))=if c then none else if 1000000000<acc+v % 128*128 ^ i then (none:Option (Nat×Nat)) else some (acc+v % 128*128 ^ i,i+1):=by
     intro c _
     by_cases h1:c<;>by_cases h2:1000000000<acc+v % 128*128 ^ i<;>simp[h1,h2]
    rw[goal]
    have fin:(Ihb p (if 1000000000<acc+v % 128*128 ^ i then (none:Option (Nat×Nat)) else some (acc+v % 128*128 ^ i,i+1)))=if 1000000000<acc+v % 128*128 ^ i then (0,0,false) else (((acc+v % 128*128 ^ i:Nat):Int),((p+(i+1):Nat):Int),true):=by
     split<;>rfl
    refine Jyb (λ hi0=>?_) (λ hi0=>?_)
    ·refine Jxb (λ h0=>?_) (λ h0=>?_)
     ·have hv:v=0:=by
       have:=beq_iff_eq.1 h0;omega
      rw[if_pos ⟨by omega,by omega⟩];exact Jrb rfl
     ·have hv:v≠0:=by
       intro e;subst e;simp at h0
      rw[if_neg (by omega),fin];exact big
    ·rw[if_neg (by omega),fin];exact big
  ·refine Jrb ?_;rw[Wk (by omega)];rfl
def Z9 (l:List Int) (hb:An l) (hl:l.length≤1000000000000) (p:Int):Tot (λ k=>Eo k l p) (λ r=>r=M9a l p):=by
 unfold Eo M9a
 by_cases h0:p<0
 ·rw[if_pos h0];refine Jsb (Q:=λ r=>r = .inr ()) ?_ ?_
  ·refine Tot.succ ?_;simp only[Fz];exact Jvb (by omega) (Jwb (by omega) (Jrb rfl))
  ·rintro r rfl;exact Jrb rfl
 ·rw[if_neg h0]
  by_cases h1:p<(l.length:Int)
  ·obtain⟨n,rfl⟩:∃ n:Nat,p=(n:Int):=⟨p.toNat,by omega⟩;rw[Vc];refine Jsb (Qza l hb hl n (by omega) 5 0 0 rfl (by decide)) ?_;intro r hr;unfold R7;rw[Zv]at hr
   have hr':Csa r=(match (match Xf 5 0 0 (l.drop n) with|some (m,c)=>some (m,n+c)|none=>none) with|some (m,q)=>((m:Int),(q:Int),true)|none=>((0:Int),(0:Int),false)):=by
    rw[hr]
    cases Xf 5 0 0 (l.drop n) with
    |none=>rfl
    |some mc=>rfl
   refine Tot.mono (Q:=λ y=>y=Csa r) ?_ (λ y hy=>hy.trans hr')
   cases r with
   |inl y=>exact Jrb rfl
   |inr z=>exact Jrb rfl
  ·have e:R7 l p.toNat=none:=by
    unfold R7;rw[Wk (by omega)];rfl
   rw[e];refine Jsb (Q:=λ r=>r = .inr ()) ?_ ?_
   ·refine Tot.succ ?_;simp only[Fz];exact Jvb (by omega) (Jvb (by omega) (Jwb h1 (Jrb rfl)))
   ·rintro r rfl;exact Jrb rfl
def C0 (n:Int):Nat:=(max 0 (min n 1000000000)).toNat
def Qb (n:Int):C0 n≤1000000000:=by unfold C0;omega
def Cta {n:Int} (h0:0≤n) (h1:n≤1000000000):(C0 n:Int)=n:=by unfold C0;omega
def Jda (n:Nat) (h:n≤255):wrap .u8 (n:Int)=(n:Int):=by
 rw[Lub];omega
def R0a:∀ (f n:Nat) (out:List Int),n<128 ^ (f+1)→f≤4→out.length+f≤1000000000010→
  Tot (λ k=>I6 k out (n:Int)) (λ r=>∃ m:Nat,r.2=(m:Int)∧m≤127∧r.1++[(m:Int)]=out++Dta f n∧r.1.length≤out.length+f):=by
 intro f
 induction f with
 |zero=>
  intro n out hn hf hl;refine Tot.succ ?_;simp only[I6]
  have:n<128:=by simpa using hn
  exact Jwb (by omega) (Jrb ⟨n,rfl,by omega,rfl,by simp⟩)
 |succ f ih=>
  intro n out hn hf hl;have hp:=Rk (f+1+1-1) (by omega);refine Tot.succ ?_;simp only[I6];refine Jyb (λ h=>?_) (λ h=>?_)
  ·have hn2:n/128<128 ^ (f+1):=by rw[Kbb]at hn;omega
   have hn3:n<4398046511104:=by
    have:=Rk (f+1) (by omega);rw[Kbb]at hn;omega
   have e1:Int.tmod (n:Int) 128+128=((n % 128+128:Nat):Int):=by
    rw[Kcb (by omega)];omega
   have e2:Int.tdiv (n:Int) 128=((n/128:Nat):Int):=by
    rw[Kpb (by omega)];omega
   rw[e1,e2,w64 (n:=((n % 128+128:Nat):Int)) (by omega) (by omega),w64 (n:=((n/128:Nat):Int)) (by omega) (by omega),Jda _ (by omega)];refine Jzb (by simp only[Vd,Vk];omega) ?_;refine(ih (n/128) (out++[((n % 128+128:Nat):Int)]) hn2 (by omega) (by simp only[Ve,Vd,Vk];omega)).mono ?_;rintro r ⟨m,h1,h2,h3,h4⟩;refine⟨m,h1,h2,?_,by simp only[Ve,Vd,Vk]at h4;omega⟩;rw[h3,Vn];congr 1
   conv => { rhs;unfold Dta }
   rw[if_neg (by omega)];rfl
  ·refine Jrb ⟨n,rfl,by omega,?_,by show out.length≤out.length+(f+1);omega⟩;unfold Dta;rw[if_pos (by omega)]
def Cua (out:List Int) (n:Int) (hl:out.length≤1000000000000):Tot (λ k=>G9 k out n) (λ r=>r=out++R3 (C0 n)):=by
 unfold G9
 have e:(if (0:Int)<(if (1000000000:Int)<n then 1000000000 else n) then (if (1000000000:Int)<n then 1000000000 else n) else 0)=((C0 n:Nat):Int):=by
  unfold C0
  split<;>split<;>omega
 simp only;rw[e];have hc:=Qb n;refine Jsb (R0a 4 (C0 n) out (by omega) (by omega) (by omega)) ?_;rintro r ⟨m,h1,h2,h3,h4⟩;rw[h1,Jda m (by omega)];refine Jzb (by simp only[Vd,Vk];omega) (Jrb h3)
def R1a:∀ (f n:Nat) (out:List Int),n<128 ^ (f+1)→f≤4→out.length+f≤1000000000010→
  Tot (λ k=>Dw k (n:Int) out) (λ r=>∃ m:Nat,r.1=(m:Int)∧m≤127∧r.2++[(m:Int)]=out++Dta f n∧r.2.length≤out.length+f):=by
 intro f
 induction f with
 |zero=>
  intro n out hn hf hl;refine Tot.succ ?_;simp only[Dw]
  have:n<128:=by simpa using hn
  exact Jwb (by omega) (Jrb ⟨n,rfl,by omega,rfl,by simp⟩)
 |succ f ih=>
  intro n out hn hf hl;refine Tot.succ ?_;simp only[Dw];refine Jyb (λ h=>?_) (λ h=>?_)
  ·have hn2:n/128<128 ^ (f+1):=by rw[Kbb]at hn;omega
   have hn3:n<4398046511104:=by
    have:=Rk (f+1) (by omega);rw[Kbb]at hn;omega
   have e1:wrap .i64 ((ofInt (IntKind.bits .i64) ((n % 128:Nat):Int) ||| ofInt (IntKind.bits .i64) 128).toNat)=((n % 128+128:Nat):Int):=by
    have:=Osa (n % 128) 1 1 (by omega) (by omega) (by omega);exact this
   have e2:Int.fdiv (n:Int) (2 ^ (min (toNat 7) (IntKind.bits .i64)))=((n/128:Nat):Int):=by
    have:(2:Int) ^ (min (toNat 7) (IntKind.bits .i64))=128:=by decide
    rw[this,Kdb _ (by omega)];omega
   rw[C2b n (by omega),e1,e2,Jda _ (by omega)];refine Jzb (by simp only[Vd,Vk];omega) ?_;refine(ih (n/128) (out++[((n % 128+128:Nat):Int)]) hn2 (by omega) (by simp only[Ve,Vd,Vk];omega)).mono ?_;rintro r ⟨m,h1,h2,h3,h4⟩;refine⟨m,h1,h2,?_,by simp only[Ve,Vd,Vk]at h4;omega⟩;rw[h3,Vn];congr 1
   conv => { rhs;unfold Dta }
   rw[if_neg (by omega)];rfl
  ·refine Jrb ⟨n,rfl,by omega,?_,by show out.length≤out.length+(f+1);omega⟩;unfold Dta;rw[if_pos (by omega)]
def Cva (out:List Int) (n:Int) (hl:out.length≤1000000000000):Tot (λ k=>Ep k out n) (λ r=>r=out++R3 (C0 n)):=by
 have hc:=Qb n
 have fin:Tot (λ k=>(Dw k ((C0 n:Nat):Int) (([]:List Int)++out)).bind λ r1=>cond (Nat.ble ((length r1.2+length [wrap .u8 r1.1])*1) 140737488355328) (some (r1.2++[wrap .u8 r1.1])) none) (λ r=>r=out++R3 (C0 n)):=by
  rw[Wa];refine Jsb (R1a 4 (C0 n) out (by omega) (by omega) (by omega)) ?_;rintro r ⟨m,h1,h2,h3,h4⟩;rw[h1,Jda m (by omega)];exact Jzb (by simp only[Vd,Vk];omega) (Jrb h3)
 unfold Ep;refine Jzb (by simp only[Vk];omega) ?_;refine Jyb (λ h1=>?_) (λ h1=>?_)
 ·refine Jwb (by omega) ?_
  have e:((C0 n:Nat):Int)=1000000000:=by unfold C0;omega
  rw[e]at fin;exact fin
 ·refine Jyb (λ h2=>?_) (λ h2=>?_)
  ·have e:((C0 n:Nat):Int)=0:=by unfold C0;omega
   rw[e]at fin;exact fin
  ·have e:((C0 n:Nat):Int)=n:=by unfold C0;omega
   rw[e]at fin;exact fin
def Oj (n:Nat):(R3 n).length≤5∧0<(R3 n).length:=V4a 4 n
def F1a:∀ (f n:Nat),n<128 ^ (f+1)→An (Dta f n)
 |0,n,hn=>by
  intro x hx;simp only[Dta,Vu]at hx
  have:n<128:=by simpa using hn
  omega
 |f+1,n,hn=>by
  unfold Dta;split
  ·intro x hx;simp only[Vu]at hx;omega
  ·intro x hx;rcases Vl.1 hx with rfl|hx
   ·omega
   ·exact F1a f (n/128) (by rw[Kbb]at hn;omega) x hx
def R2a (n:Nat) (hn:n≤1000000000):An (R3 n):=F1a 4 n (by omega)
def F2a (s:ByteArray):An (bytesOf s):=by
 intro x hx;unfold bytesOf at hx;obtain⟨b,_,rfl⟩:=Zb.1 hx;have:=b.toNat_lt;omega
def Sc (s:ByteArray):(bytesOf s).length=s.size:=by
 unfold bytesOf;rw[Wd];exact Ze
def Xg (s:ByteArray):Mn (bytesOf s)=s:=by
 unfold Mn bytesOf;rw[L8b]
 have:(λ n:Int=>UInt8.ofNat n.toNat) ∘ (λ b:UInt8=>(b.toNat:Int))=id:=by
  funext b;show UInt8.ofNat ((b.toNat:Int)).toNat=b;rw[Vc];exact UInt8.ofNat_toNat
 rw[this,List.map_id]
def Pz {l:List Int} (h:An l):bytesOf (Mn l)=l:=by
 unfold Mn bytesOf;show List.map _ (List.map _ l)=l;rw[L8b]
 have:∀ x∈l,((λ b:UInt8=>(b.toNat:Int)) ∘ (λ n:Int=>UInt8.ofNat n.toNat)) x=x:=by
  intro x hx;have hb:=h x hx;show ((UInt8.ofNat x.toNat).toNat:Int)=x;rw[UInt8.toNat_ofNat'];omega
 exact(Kkb this).trans (List.map_id' l)
def Q2 (l:List Int):(Mn l).size=l.length:=by
 unfold Mn;show (List.map _ l).toArray.size=l.length;simp
def txt (s:ByteArray):List Int:=R3 (C0 (s.size:Int))++bytesOf s
def Zka (out:List Int) (s:ByteArray) (hl:out.length≤1000000000000) (hs:s.size≤1000000000000):Tot (λ k=>Ks k out s) (λ r=>r=out++txt s):=by
 unfold Ks txt;refine K3b (Cua out _ hl) ?_;have:=(Oj (C0 (s.size:Int))).1;refine Jzb (by simp only[Ve];omega) (Jrb ?_);rw[Vn]
def Zla (out:List Int) (s:ByteArray) (hl:out.length≤1000000000000) (hs:s.size≤1000000000000):Tot (λ k=>Kz k out s) (λ r=>r=out++txt s):=by
 unfold Kz txt;refine K3b (Cva out _ hl) ?_;have:=(Oj (C0 (s.size:Int))).1;refine Jzb (by simp only[Ve];omega) (Jrb ?_);rw[Vn]
def Ota (l:List Int) (p:Nat):Option (ByteArray×Nat):=match R7 l p with
 |some (n,q)=>if q+n≤l.length then some (Mn ((l.drop q).take n),q+n) else none
 |none=>none
def Fwb (l:List Int) (p:Int):ByteArray×Int×Bool:=if p<0 then ((⟨#[]⟩:ByteArray),0,false) else match Ota l p.toNat with
 |some (s,q)=>(s,(q:Int),true)
 |none=>((⟨#[]⟩:ByteArray),0,false)
def F3a (l:List Int) (hb:An l) (p:Int):M9a l p=(0,0,false)∨∃ n q,0≤p∧R7 l p.toNat=some (n,q)∧M9a l p=((n:Int),(q:Int),true)∧n≤1000000000∧q≤l.length:=by
 unfold M9a
 by_cases h:p<0
 ·rw[if_pos h];exact .inl rfl
 ·rw[if_neg h]
  cases hg:R7 l p.toNat with
  |none=>exact .inl rfl
  |some nq=>
   obtain⟨n,q⟩:=nq;have:=V7 hb hg;exact .inr ⟨n,q,by omega,rfl,rfl,this.2.1,this.2.2.2⟩
def Oua (l:List Int) (hb:An l) (hl:l.length≤1000000000000) (p:Int) (hp:p≤1000000000000):Tot (λ k=>Kr k l p) (λ r=>r=Fwb l p):=by
 unfold Kr;refine K3b (V7a l hb hl p hp) ?_;unfold Fwb Ota;rcases F3a l hb p with h|⟨n,q,h0,hg,h,hn,hq⟩
 ·rw[h];refine Jub rfl (Jrb ?_);unfold M9a at h;split
  ·rfl
  ·rename_i h0;rw[if_neg h0]at h
   cases hg:R7 l p.toNat with
   |none=>rfl
   |some nq=>rw[hg]at h;simp at h
 ·rw[h];refine Jtb rfl ?_;rw[if_neg (by omega),hg];simp only;rw[w64 (n:=(l.length:Int)-(q:Int)) (by omega) (by omega),w64 (n:=(q:Int)+(n:Int)) (by omega) (by omega)];refine Jyb (λ hgt=>?_) (λ hgt=>?_)
  ·rw[if_neg (by omega)];exact Jrb rfl
  ·rw[if_pos (by omega)];refine Jvb (by omega) (Jvb (by omega) (Jvb (by omega) (Jrb ?_)));rw[show toNat ((q:Int)+(n:Int))=q+n by omega,Vc,L7b,show q+n-q=n by omega];simp only[Vy,true_and,and_true]
   push_cast
   rfl
def Goa (l:List Int) (hb:An l) (hl:l.length≤1000000000000) (p:Int):Tot (λ k=>Ky k l p) (λ r=>r=Fwb l p):=by
 unfold Ky;refine K3b (Z9 l hb hl p) ?_;unfold Fwb Ota;rcases F3a l hb p with h|⟨n,q,h0,hg,h,hn,hq⟩
 ·rw[h];refine Jub rfl (Jrb ?_);unfold M9a at h;split
  ·rfl
  ·rename_i h0;rw[if_neg h0]at h
   cases hg:R7 l p.toNat with
   |none=>rfl
   |some nq=>rw[hg]at h;simp at h
 ·rw[h];refine Jtb rfl ?_;rw[if_neg (by omega),hg];simp only;rw[w64 (n:=(l.length:Int)-(q:Int)) (by omega) (by omega),w64 (n:=(q:Int)+(n:Int)) (by omega) (by omega)];refine Jyb (λ hgt=>?_) (λ hgt=>?_)
  ·rw[if_neg (by omega)];exact Jrb rfl
  ·rw[if_pos (by omega)];refine Jvb (by omega) (Jvb (by omega) (Jvb (by omega) (Jrb ?_)));rw[show toNat ((q:Int)+(n:Int))=q+n by omega,Vc,L7b,show q+n-q=n by omega];simp only[Vy,true_and,and_true]
   push_cast
   rfl
def Maa {l:List Int} {p q:Nat} {s:ByteArray} (hb:An l) (h:Ota l p=some (s,q)):l.drop p=txt s++l.drop q∧s.size≤1000000000∧p<q∧q≤l.length:=by
 unfold Ota at h;split at h
 ·rename_i n q0 hg;obtain⟨h1,h2,h3,h4⟩:=V7 hb hg;split at h
  ·rename_i hle;simp only[Vg,Vy]at h;obtain⟨rfl,rfl⟩:=h
   have hlen:((l.drop q0).take n).length=n:=by rw[Vt,We];omega
   have hbb:An ((l.drop q0).take n):=λ x hx=>hb x (Zr (Khb hx));refine⟨?_,by rw[Q2,hlen];exact h2,by omega,by omega⟩;unfold txt;rw[Q2,hlen,Pz hbb,h1,show C0 (n:Int)=n by unfold C0;omega,Vn];congr 1;rw[← Yq,Wo]
  ·cases h
 ·cases h
def Zma (pre:List Int) (s:ByteArray) (rest:List Int) (hs:s.size≤1000000000):Ota (pre++(txt s++rest)) pre.length=some (s,pre.length+(txt s).length):=by
 unfold Ota txt
 have hc:C0 (s.size:Int)=s.size:=by unfold C0;omega
 rw[hc,Vn,Ora pre s.size _ hs];simp only;rw[if_pos (by simp only[Ve,Sc];omega)]
 have e:(pre++(R3 s.size++(bytesOf s++rest))).drop (pre.length+(R3 s.size).length)=bytesOf s++rest:=by
  rw[← Vn,← Ve,Zo]
 rw[e,Mjb (Sc s),Xg];simp only[Ve,Sc,Vg,Vy,true_and];omega

def Gpa (b:Bool):Int:=bif b then 1 else 0
def Ebb (b:Bool):Pj b=some (Gpa b):=by cases b<;>rfl
def Zna (b:Bool):Mm b=some (Gpa b):=by cases b<;>rfl
def S6a (s:Stp):List Int:=R3 (C0 s.1)++(R3 (C0 s.2.1)++R3 (C0 s.2.2))
def Ova (s:Stp):(S6a s).length≤15:=by
 unfold S6a;have h1:=(Oj (C0 s.1)).1;have h2:=(Oj (C0 s.2.1)).1;have h3:=(Oj (C0 s.2.2)).1;simp only[Ve];omega
def R3a (out:List Int) (s:Stp) (b:Bool) (hl:out.length≤999999999900):Tot (λ k=>Jh k out s b) (λ r=>r=out++(S6a s++R3 (C0 (Gpa b)))):=by
 have h1:=(Oj (C0 s.1)).1;have h2:=(Oj (C0 s.2.1)).1;have h3:=(Oj (C0 s.2.2)).1;unfold Jh S6a;refine K3b (Cua out s.1 (by omega)) ?_;refine K3b (Cua _ s.2.1 (by simp only[Ve];omega)) ?_;refine K3b (Cua _ s.2.2 (by simp only[Ve];omega)) ?_;refine K3b (K5b (Q:=λ y=>y=Gpa b) (Ebb b) rfl) ?_;refine K3b (Cua _ (Gpa b) (by simp only[Ve];omega)) ?_;exact Jrb (by simp only[Vn])
def R4a (out:List Int) (s:Stp) (hl:out.length≤999999999900):Tot (λ k=>L5 k out s) (λ r=>r=out++S6a s):=by
 have h1:=(Oj (C0 s.1)).1;have h2:=(Oj (C0 s.2.1)).1;unfold L5 S6a;refine K3b (Cva out s.1 (by omega)) ?_;refine K3b (Cva _ s.2.1 (by simp only[Ve];omega)) ?_;refine K3b (Cva _ s.2.2 (by simp only[Ve];omega)) ?_;exact Jrb (by simp only[Vn])
def Cwa {s:ByteArray} (h:Bi s=true):1≤s.size∧s.size≤20:=by
 unfold Bi at h;rw[Va,Dt]at h;omega
def F4a {r:Row} (h:P9 r=true):Bi r.1=true:=by
 unfold P9 at h;rw[Va]at h;exact h.1
def Ecb (s:ByteArray):(txt s).length≤5+s.size:=by
 have h1:=(Oj (C0 (s.size:Int))).1;unfold txt;simp only[Ve,Sc];omega

def Bha (l:List Int) (p:Nat):M9a l (p:Int)=match R7 l p with
 |some (n,q)=>((n:Int),(q:Int),true)
 |none=>(0,0,false):=by
 unfold M9a;rw[if_neg (by omega),Vc]
 all_goals cases R7 l p<;>rfl
def Owa (l:List Int) (p:Nat):Fwb l (p:Int)=match Ota l p with
 |some (s,q)=>(s,(q:Int),true)
 |none=>((⟨#[]⟩:ByteArray),0,false):=by
 unfold Fwb;rw[if_neg (by omega),Vc]
 all_goals cases Ota l p<;>rfl
def E1a (l:List Int) (hb:An l) (hl:l.length≤1000000000000) (p:Nat) (hp:p≤l.length) (bad:Bool):
  Tot (λ k=>Dm k (l,(p:Int),bad)) (λ r=>(bad=false∧∃ n q:Nat,R7 l p=some (n,q)∧q≤l.length∧r=((n:Int),l,(q:Int),false))∨((bad=true∨R7 l p=none)∧r=(0,l,(p:Int),true))):=by
 unfold Dm;refine K3b (V7a l hb hl (p:Int) (by omega)) ?_;refine Jxb (λ h=>Jrb (.inr ⟨.inl h,rfl⟩)) (λ h=>?_);rw[Bha]
 cases hg:R7 l p with
 |none=>exact Jub rfl (Jrb (.inr ⟨.inr rfl,rfl⟩))
 |some nq=>
  obtain⟨n,q⟩:=nq;simp only at h;subst h;exact Jtb rfl (Jrb (.inl ⟨rfl,n,q,rfl,(V7 hb hg).2.2.2,rfl⟩))
def Ixb (l:List Int) (hb:An l) (hl:l.length≤1000000000000) (p:Nat) (hp:p≤l.length):
  Tot (λ k=>Df k (l,(p:Int),false)) (λ r=>(∃ (s:ByteArray) (q:Nat),Ota l p=some (s,q)∧q≤l.length∧r=(s,l,(q:Int),false))∨(Ota l p=none∧r=((⟨#[]⟩:ByteArray),l,(p:Int),true))):=by
 unfold Df;refine K3b (Oua l hb hl (p:Int) (by omega)) ?_;refine Jtb rfl ?_;rw[Owa]
 cases hg:Ota l p with
 |none=>exact Jub rfl (Jrb (.inr ⟨rfl,rfl⟩))
 |some nq=>
  obtain⟨n,q⟩:=nq;exact Jtb rfl (Jrb (.inl ⟨n,q,rfl,(Maa hb hg).2.2.2,rfl⟩))
def Su (l:List Int) (p:Nat):Option ((Stp×Bool)×Nat):=
 (R7 l p).bind λ b=>(R7 l b.2).bind λ c=>(R7 l c.2).bind λ d=>(R7 l d.2).bind λ e=>bif decide (1<e.1) then none else
  some ((((b.1:Int),(c.1:Int),(d.1:Int)),(e.1:Int)==1),e.2)
def Iyb (l:List Int) (hb:An l) (hl:l.length≤1000000000000) (p:Nat) (hp:p≤l.length) (bad:Bool):
  Tot (λ k=>Eh k (l,(p:Int),bad)) (λ r=>(bad=false∧∃ (x:Stp×Bool) (q:Nat),Su l p=some (x,q)∧q≤l.length∧r=(x.1,x.2,l,(q:Int),false))∨((bad=true∨Su l p=none)∧∃ s b,∃ q:Nat,q≤l.length∧r=(s,b,l,(q:Int),true))):=by
 unfold Eh
 have nx:∀ {o:Option (Nat×Nat)} {f:Nat×Nat→Option ((Stp×Bool)×Nat)},o=none→o.bind f=none:=by
  intro o f h;rw[h];rfl
 refine Jsb (E1a l hb hl p hp bad) ?_;rintro r (⟨h0,n1,p1,h1,l1,rfl⟩|⟨h1,rfl⟩)
 ·simp only;refine Jsb (E1a l hb hl p1 l1 false) ?_;rintro r (⟨_,n2,p2,h2,l2,rfl⟩|⟨h2,rfl⟩)
  ·simp only;refine Jsb (E1a l hb hl p2 l2 false) ?_;rintro r (⟨_,n3,p3,h3,l3,rfl⟩|⟨h3,rfl⟩)
   ·simp only;refine Jsb (E1a l hb hl p3 l3 false) ?_;rintro r (⟨_,n4,p4,h4,l4,rfl⟩|⟨h4,rfl⟩)
    ·simp only;refine Jtb rfl (Jrb ?_)
     have e:Su l p=bif decide (1<n4) then none else some ((((n1:Int),(n2:Int),(n3:Int)),(n4:Int)==1),p4):=by
      unfold Su;simp only[h1,h2,h3,h4,Vp]
     cases hd:decide (1<n4) with
     |true=>
      rw[hd,cond_true]at e;refine .inr ⟨.inr e,((n1:Int),(n2:Int),(n3:Int)),((n4:Int)==1),p4,l4,?_⟩;have:decide ((n4:Int) > 1)=true:=decide_eq_true (by have:=of_decide_eq_true hd;omega);rw[this]
     |false=>
      rw[hd,cond_false]at e;refine .inl ⟨h0,_,p4,e,l4,?_⟩;have:decide ((n4:Int) > 1)=false:=decide_eq_false (by have:=of_decide_eq_false hd;omega);rw[this]
    ·refine Jub rfl (Jrb (.inr ⟨.inr ?_,_,_,p3,l3,rfl⟩));have h4':=h4.resolve_left (by simp);unfold Su;simp only[h1,h2,h3,h4',Vp,Ksb]
   ·simp only;refine Jsb (E1a l hb hl p2 l2 true) ?_;rintro r (⟨hh,_⟩|⟨_,rfl⟩)
    ·cases hh
    ·refine Jub rfl (Jrb (.inr ⟨.inr ?_,_,_,p2,l2,rfl⟩));have h3':=h3.resolve_left (by simp);unfold Su;simp only[h1,h2,h3',Vp,Ksb]
  ·simp only;refine Jsb (E1a l hb hl p1 l1 true) ?_;rintro r (⟨hh,_⟩|⟨_,rfl⟩)
   ·cases hh
   ·refine Jsb (E1a l hb hl p1 l1 true) ?_;rintro r (⟨hh,_⟩|⟨_,rfl⟩)
    ·cases hh
    ·refine Jub rfl (Jrb (.inr ⟨.inr ?_,_,_,p1,l1,rfl⟩));have h2':=h2.resolve_left (by simp);unfold Su;simp only[h1,h2',Vp,Ksb]
 ·simp only;refine Jsb (E1a l hb hl p hp true) ?_;rintro r (⟨hh,_⟩|⟨_,rfl⟩)
  ·cases hh
  ·refine Jsb (E1a l hb hl p hp true) ?_;rintro r (⟨hh,_⟩|⟨_,rfl⟩)
   ·cases hh
   ·refine Jsb (E1a l hb hl p hp true) ?_;rintro r (⟨hh,_⟩|⟨_,rfl⟩)
    ·cases hh
    ·refine Jub rfl (Jrb (.inr ⟨?_,_,_,p,hp,rfl⟩));rcases h1 with h1|h1
     ·exact .inl h1
     ·refine .inr ?_;unfold Su;rw[h1];rfl
def Edb (l:List Int) (hb:An l) (hl:l.length≤1000000000000) (p:Int):
  Tot (λ k=>Gr k l p) (λ r=>(∃ n1 p1 n2 p2 n3 p3,0≤p∧R7 l p.toNat=some (n1,p1)∧R7 l p1=some (n2,p2)∧R7 l p2=some (n3,p3)∧r=(((n1:Int),(n2:Int),(n3:Int)),(p3:Int),true))∨(((R7 l p.toNat).bind λ a=>(R7 l a.2).bind λ b=>R7 l b.2)=none∨p<0)∧r.2.2=false):=by
 unfold Gr;refine K3b (Z9 l hb hl p) ?_;refine K3b (Z9 l hb hl _) ?_;refine K3b (Z9 l hb hl _) ?_
 by_cases hp:p<0
 ·have:(M9a l p).2.2=false:=by unfold M9a;rw[if_pos hp]
  exact Jtb this (Jrb (.inr ⟨.inr hp,rfl⟩))
 ·have e1:M9a l p=match R7 l p.toNat with|some (n,q)=>((n:Int),(q:Int),true)|none=>(0,0,false):=by
   unfold M9a;rw[if_neg hp];all_goals cases R7 l p.toNat<;>rfl
  cases h1:R7 l p.toNat with
  |none=>
   rw[h1]at e1;simp only[e1];exact Jtb rfl (Jrb (.inr ⟨.inl rfl,rfl⟩))
  |some a=>
   obtain⟨n1,p1⟩:=a;rw[h1]at e1;simp only[e1,Bha,Vp];refine Jub rfl ?_
   cases h2:R7 l p1 with
   |none=>exact Jtb rfl (Jrb (.inr ⟨.inl rfl,rfl⟩))
   |some b=>
    obtain⟨n2,p2⟩:=b;refine Jub rfl ?_;simp only[Bha,Vp]
    cases h3:R7 l p2 with
    |none=>exact Jrb (.inr ⟨.inl rfl,rfl⟩)
    |some c=>
     obtain⟨n3,p3⟩:=c;exact Jrb (.inl ⟨n1,p1,n2,p2,n3,p3,by omega,rfl,h2,h3,rfl⟩)
def V8a {l:List Int} {p:Nat} (h:((R7 l p).bind λ a=>(R7 l a.2).bind λ b=>R7 l b.2)=none):Su l p=none:=by
 unfold Su
 cases h1:R7 l p with
 |none=>rfl
 |some a=>
  rw[h1]at h;simp only[Vp]at h ⊢
  cases h2:R7 l a.2 with
  |none=>rfl
  |some b=>
   rw[h2]at h;simp only[Vp]at h ⊢;rw[h];rfl

def Mba:∀ s∈Mz,Ni s∧Bi s=true:=by
 intro s hs;simp only[Mz,Vl,Kab,or_false]at hs
 rcases hs with rfl|rfl|rfl|rfl|rfl|rfl<;>exact⟨by unfold Ni;decide,by decide⟩

abbrev Nmd:=ByteArray×List Int
abbrev Dsk:=List Nmd×List Nmd
def Dy:Nmd:=((⟨#[]⟩:ByteArray),[])
def Hoa (l:List Nmd):Prop:=l.length≤1000000000000∧∀ x∈l,x.2.length≤1000000000000
def Zoa (d:Dsk):Prop:=Hoa d.1∧Hoa d.2
def Oy (l:List Int) (h:l.length≤1000000000000):Al l=some l:=by
 unfold Al;rw[show Nat.ble ((length ([]:List Int)+length l)*1) 140737488355328=true from Zp (by simp only[Vk];omega)];rfl
def Ava (l:List Nmd) (hf:Hoa l):∀ (n i:Nat) (acc:List Nmd),l.length-i=n→i≤l.length→acc.length≤i→
  Tot (λ k=>Dd k acc l (l.length:Int) (i:Int)) (λ r=>r=acc++l.drop i):=by
 obtain⟨h1,h2⟩:=hf;intro n
 induction n with
 |zero=>
  intro i acc hd hi ha;refine Tot.succ ?_;simp only[Dd];refine Jwb (by omega) (Jrb ?_);rw[Wk (by omega),Wq]
 |succ n ih=>
  intro i acc hd hi ha
  have hlt:i<l.length:=by omega
  refine Tot.succ ?_;simp only[Dd];refine Jvb (by omega) (Jvb (by omega) (Jvb (by omega) ?_));rw[show toNat (i:Int)=i from Vc i,w64 (n:=(i:Int)+1) (by omega) (by omega),Aj (d:=Dy) hlt];have e0:l.getD i ((⟨#[]⟩:ByteArray),([]:List Int))=l.getD i Dy:=rfl;rw[e0];have hb:=h2 _ (A3 (d:=Dy) hlt);refine K3b (K5b (Q:=λ r=>r=(l.getD i Dy).2) (Oy _ hb) rfl) ?_;refine Jzb (by simp only[Vd,Vk];omega) ?_;refine(ih (i+1) (acc++[l.getD i Dy]) (by omega) (by omega) (by simp only[Ve,Vd,Vk];omega)).mono ?_;rintro r rfl;rw[Vn];rfl
def Xh (l:List Nmd) (hf:Hoa l):Tot (λ k=>B8 k l) (λ r=>r=l):=by
 unfold B8;refine Jsb (Ava l hf _ 0 [] rfl (Vq _) (Vq _)) ?_;intro r hr;rw[Yb,Wa]at hr;exact Jrb hr
def Lc (d:Dsk) (hf:Zoa d):Tot (λ k=>A4 k d) (λ r=>r=d):=by
 unfold A4;refine K3b (Xh d.1 hf.1) ?_;refine K3b (Xh d.2 hf.2) ?_;exact Jrb rfl
def fnd (l:List Nmd) (s:ByteArray):Option Nat:=l.findIdx? (λ x=>teq x.1 s)
def F5a (l:List Nmd) (s:ByteArray):Int:=match fnd l s with
 |some i=>(i:Int)
 |none => -1
def V9a (l:List Nmd) (s:ByteArray) (hf:l.length≤1000000000000):∀ (n i:Nat),l.length-i=n→i≤l.length→
  Tot (λ k=>Ms k s l (l.length:Int) (i:Int)) (λ r=>r=match fnd (l.drop i) s with|some j => .inl ((i+j:Nat):Int)|none => .inr ()):=by
 intro n
 induction n with
 |zero=>
  intro i hd hi;refine Tot.succ ?_;simp only[Ms];refine Jwb (by omega) (Jrb ?_);rw[Wk (by omega)];rfl
 |succ n ih=>
  intro i hd hi
  have hlt:i<l.length:=by omega
  refine Tot.succ ?_;simp only[Ms];refine Jvb (by omega) (Jvb (by omega) (Jvb (by omega) ?_));rw[show toNat (i:Int)=i from Vc i,w64 (n:=(i:Int)+1) (by omega) (by omega),Aj (d:=Dy) hlt];have e0:l.getD i ((⟨#[]⟩:ByteArray),([]:List Int))=l.getD i Dy:=rfl;rw[e0]
  have e1:fnd (l.getD i Dy::l.drop (i+1)) s=if teq (l.getD i Dy).1 s then some 0 else (fnd (l.drop (i+1)) s).map (· + 1):=by
   unfold fnd;rw[Lvb]
  rw[e1];refine Jxb (λ h=>?_) (λ h=>?_)
  ·have h':teq (l.getD i Dy).1 s=true:=h;rw[if_pos h'];exact Jrb rfl
  ·have h':¬ (teq (l.getD i Dy).1 s=true):=by
    have:teq (l.getD i Dy).1 s=false:=h;rw[this];simp
   rw[if_neg h'];refine(ih (i+1) (by omega) (by omega)).mono ?_;rintro r rfl
   cases fnd (l.drop (i+1)) s with
   |none=>rfl
   |some j=>
    show Sum.inl _=Sum.inl _;rw[show i+1+j=i+(j+1) by omega]
def Jea (l:List Nmd) (s:ByteArray) (hf:l.length≤1000000000000):Tot (λ k=>Hn k l s) (λ r=>r=F5a l s):=by
 unfold Hn F5a;refine K3b (V9a l s hf _ 0 rfl (Vq _)) ?_;rw[Yb]
 cases fnd l s with
 |none=>exact Jrb rfl
 |some j=>
  refine Jrb ?_;rw[Wm]
def Pm {l:List Nmd} {s:ByteArray} {i:Nat} (h:fnd l s=some i):i<l.length∧(l.getD i Dy).1=s:=by
 unfold fnd at h;rw[Kvb]at h;obtain⟨h1,h2,_⟩:=h;refine⟨h1,?_⟩;rw[Vb,Vj h1];exact Db.1 h2
def del (l:List Nmd) (s:ByteArray):List Nmd:=match fnd l s with
 |some i=>l.take i++l.drop (i+1)
 |none=>l
def Xi (l:List Nmd) (s:ByteArray) (hf:l.length≤1000000000000):Tot (λ k=>I7 k l s) (λ r=>r=del l s):=by
 unfold I7 del;refine K3b (Jea l s hf) ?_;unfold F5a
 cases h:fnd l s with
 |none=>exact Jvb (by decide) (Jrb rfl)
 |some i=>
  have hl:=(Pm h).1;dsimp only;refine Jwb (by omega) (Jvb (by omega) (Jvb (by omega) ?_));rw[w64 (n:=(i:Int)+1) (by omega) (by omega),show toNat (i:Int)=i from Int.toNat_natCast i,show toNat ((i:Int)+1)=i+1 by omega];refine Jzb (by simp only[List.length_nil,List.length_take];omega) ?_;refine Jvb (by omega) (Jvb (by omega) (Jzb (by simp only[List.length_append,List.length_nil,List.length_take,List.length_drop];omega) (Jrb rfl)))

end Go.Proofs.YtiiekghlhfbmmaaGreat.Vf
