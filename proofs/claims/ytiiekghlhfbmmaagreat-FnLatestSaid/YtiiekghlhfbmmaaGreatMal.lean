import Derived.Test.YtiiekghlhfbmmaaGreatMak
import Derived.Test.YtiiekghlhfbmmaaGreatMab
import Derived.IntWalk
import Derived.Laws.StructEq
set_option linter.all false
namespace Go.Proofs.YtiiekghlhfbmmaaGreat.Vf
open Go
open List (length getD)
open Int (toNat)
open Go.IntKind (wrap)
open BitVec (ofInt)
def Vc:=@Int.toNat_natCast
def Vz:=@Bool.true_and
def Wd:=@List.drop_length
def Wi:=@Bool.not_eq_false'
def Wj:=@List.drop_of_length_le
def Yc:=@List.mem_or_eq_of_mem_set
def Zp:=@List.takeWhile_cons
def Zq:=@List.not_mem_nil
def Zr:=@Bool.false_and
def Zx:=@Nat.pow_succ
def Zz:=@Int.tmod_eq_emod_of_nonneg
def Zza:=@Int.fdiv_eq_ediv_of_nonneg
def Hkb:=@List.pairwise_iff_getElem
def Htb:=@Int.tdiv_eq_ediv_of_nonneg
def Hwb:=@Option.bind_none
def Hyb:=@Sum.elim_inr
def Ilb:=@BitVec.toNat_and
def Ivb:=@BitVec.toNat_ofInt
def Iwb:=@IntKind.wrap_u8
def Ixb:=@List.findIdx?_cons
def Iyb:=@List.findIdx?_eq_some_iff_getElem
def J9b:=@Bool.and_eq_false_iff
def Jab:=@List.Pairwise.sublist
def Jbb:=@Nat.and_two_pow_sub_one_eq_mod
def Jnb:=@List.getElem_of_mem
def Jwb:=@Nat.mul_le_mul
def Jzb:=@List.take_sublist
def K5b:=@List.getElem_set
def K6b:=@List.takeWhile_sublist
def K8b:=@Option.some.inj
def Kib:=@Nat.mul_comm

def Tot {α:Type} (f:Nat→Option α) (Q:α→Prop):Prop:=∃ r K,(∀ k,K≤k→f k=some r)∧Q r
section
variable {α β:Type} {f g:Nat→Option α} {Q Q':α→Prop}
def Tot.mono (h:Tot f Q) (hq:∀ a,Q a→Q' a):Tot f Q':=by
 obtain⟨r,K,h1,h2⟩:=h;exact⟨r,K,h1,hq r h2⟩
def H4b {a:α} (h:Q a):Tot (λ _=>some a) Q:=⟨a,0,λ _ _=>rfl,h⟩
def Hgb {o:Option α} {a:α} (e:o=some a) (h:Q a):Tot (λ _=>o) Q:=⟨a,0,λ _ _=>e,h⟩
def H5b {h:Nat→α→Option β} {R:β→Prop} (hf:Tot f Q) (hh:∀ a,Q a→Tot (λ k=>h k a) R):Tot (λ k=>(f k).bind (h k)) R:=by
 obtain⟨a,K,h1,h2⟩:=hf;obtain⟨b,L,h3,h4⟩:=hh a h2;exact⟨b,max K L,λ k hk=>by show (f k).bind (h k)=_;rw[h1 k (by omega)];exact h3 k (by omega),h4⟩
def H7b {c:Bool} (hc:c=true) (h:Tot f Q):Tot (λ k=>cond c (f k) (g k)) Q:=by subst hc;exact h
def H6b {c:Bool} (hc:c=false) (h:Tot g Q):Tot (λ k=>cond c (f k) (g k)) Q:=by subst hc;exact h
def Hab {c:Bool} (h1:c=true→Tot f Q) (h2:c=false→Tot g Q):Tot (λ k=>cond c (f k) (g k)) Q:=by
 cases hc:c with
 |true=>exact h1 hc
 |false=>exact h2 hc
def H8b {p:Prop} [Decidable p] (hp:p) (h:Tot f Q):Tot (λ k=>cond (decide p) (f k) (g k)) Q:=H7b (decide_eq_true hp) h
def H9b {p:Prop} [Decidable p] (hp:¬ p) (h:Tot g Q):Tot (λ k=>cond (decide p) (f k) (g k)) Q:=H6b (decide_eq_false hp) h
def Hbb {p:Prop} [Decidable p] (h1:p→Tot f Q) (h2:¬ p→Tot g Q):Tot (λ k=>cond (decide p) (f k) (g k)) Q:=
 Hab (λ h=>h1 (of_decide_eq_true h)) (λ h=>h2 (of_decide_eq_false h))
def Hcb {m n:Nat} (hp:m≤n) (h:Tot f Q):Tot (λ k=>cond (Nat.ble m n) (f k) (g k)) Q:=H7b (Zj hp) h
def Hfb {v:α} {h:Nat→α→Option β} {R:β→Prop} (hf:Tot f (λ r=>r=v)) (hh:Tot (λ k=>h k v) R):Tot (λ k=>(f k).bind (h k)) R:=
 H5b hf (by rintro r rfl;exact hh)
def Tot.succ (h:Tot (λ k=>f (k+1)) Q):Tot f Q:=by
 obtain⟨r,K,h1,h2⟩:=h;exact⟨r,K+1,λ k hk=>by obtain⟨m,rfl⟩:∃ m,k=m+1:=⟨k-1,by omega⟩;exact h1 m (by omega),h2⟩
def Tot.and (h:Tot f Q) (h':Tot f Q'):Tot f (λ a=>Q a∧Q' a):=by
 obtain⟨r,K,h1,h2⟩:=h;obtain⟨r',K',h1',h2'⟩:=h'
 have e:r=r':=by
  have a1:=h1 (max K K') (by omega);have a2:=h1' (max K K') (by omega);rw[a1]at a2;exact K8b a2
 subst e;exact⟨r,K,h1,h2,h2'⟩
def Tot.law {f:Nat→Option Bool} (h:Tot f (λ b=>b=true)):∃ k,f k=some true:=by
 obtain⟨r,K,h1,h2⟩:=h;subst h2;exact⟨K,h1 K (Vx _)⟩
end
def w64 {n:Int} (h1 : -9223372036854775808≤n) (h2:n≤9223372036854775807):wrap .i64 n=n:=Go.IntWalk.i64_in n ⟨h1,h2⟩
def D6a (n:Int) : -9223372036854775808≤wrap .i64 n∧wrap .i64 n≤9223372036854775807:=by
 rw[IntKind.wrap_i64];omega
def H6a (n:Int):0≤wrap .u8 n∧wrap .u8 n≤255:=by
 simp only[wrap,IntKind.signed,IntKind.bits];simp;omega
def Mua (x m:Int) (h0:0≤m) (h1:m<9223372036854775808):0≤wrap .i64 ((ofInt (IntKind.bits .i64) x &&& ofInt (IntKind.bits .i64) m).toNat)∧wrap .i64 ((ofInt (IntKind.bits .i64) x &&& ofInt (IntKind.bits .i64) m).toNat)≤m:=by
 have hm:(ofInt (IntKind.bits .i64) m).toNat=m.toNat:=by
  rw[Ivb];show (m % ((2 ^ 64:Nat):Int)).toNat=m.toNat;rw[Int.emod_eq_of_lt h0 (by omega)]
 have hle:(ofInt (IntKind.bits .i64) x &&& ofInt (IntKind.bits .i64) m).toNat≤m.toNat:=by
  rw[Ilb,hm];exact Nat.and_le_right
 rw[w64 (by omega) (by omega)];omega
def T5a {x n:Int} (hx:0≤x) (hn:0<n):0≤Int.tmod x n∧Int.tmod x n<n:=by
 rw[Zz hx];exact⟨Int.emod_nonneg _ (by omega),Int.emod_lt_of_pos _ hn⟩

abbrev Cur:=List Int×Int×Int
def Dc (c:Cur):Prop:=(c.1.length:Int)≤1048576∧0≤c.2.1∧c.2.1≤1048576
def Pfa (b:List Int) (hb:(b.length:Int)≤1048576):∀ (n:Nat) (h i:Int),0≤i→i+n=4001→Tot (λ k=>Im k b h i) (λ r=>r.1=b):=by
 intro n
 induction n with
 |zero=>
  intro h i h0 hi;refine Tot.succ ?_;simp only[Im];refine Hbb (λ h1=>?_) (λ h1=>H4b rfl);exact H9b (by omega) (H4b rfl)
 |succ n ih=>
  intro h i h0 hi;refine Tot.succ ?_;simp only[Im];refine Hbb (λ h1=>?_) (λ h1=>H4b rfl);refine Hbb (λ h2=>?_) (λ h2=>H4b rfl);refine H8b h0 (H8b h1 ?_);rw[w64 (n:=i+1) (by omega) (by omega)];exact ih _ _ (by omega) (by omega)
def H7a (b:List Int) (hb:(b.length:Int)≤1048576):Tot (λ k=>Ji k b) Dc:=by
 unfold Ji;refine H5b (Pfa b hb 4001 _ 0 (by omega) (by omega)) (λ r hr=>?_);exact H4b ⟨by rw[hr];exact hb,Hmb 0,by show (0:Int)≤1048576;omega⟩
def Rw (c:Cur) (hc:Dc c):∃ x c',G0 c=some (x,c')∧0≤x∧x≤255∧Dc c':=by
 obtain⟨h1,h2,h3⟩:=hc;unfold G0
 by_cases hlt:c.2.1<(c.1.length:Int)
 ·simp only[hlt,h2,decide_true,cond_true];obtain⟨a1,a2⟩:=Mua (wrap .i64 ((wrap .i64 ((ofInt (IntKind.bits .i64) (wrap .i64 ((ofInt (IntKind.bits .i64) (Int.fdiv (wrap .i64 ((wrap .i64 (c.2.2*6364136223846793005))+1442695040888963407)) (2 ^ (min (toNat 33) (IntKind.bits .i64)))) ^^^ ofInt (IntKind.bits .i64) (Int.fdiv (wrap .i64 ((wrap .i64 (c.2.2*6364136223846793005))+1442695040888963407)) (2 ^ (min (toNat 47) (IntKind.bits .i64))))).toNat)) &&& ofInt (IntKind.bits .i64) 255).toNat))+(wrap .i64 (getD c.1 (toNat c.2.1) (0:Int))))) 255 (by omega) (by omega);refine⟨_,_,rfl,a1,a2,h1,?_,?_⟩
  ·show 0≤wrap .i64 (c.2.1+1);rw[w64 (by omega) (by omega)];omega
  ·show wrap .i64 (c.2.1+1)≤1048576;rw[w64 (by omega) (by omega)];omega
 ·simp only[hlt,decide_false,cond_false];obtain⟨a1,a2⟩:=Mua (wrap .i64 ((ofInt (IntKind.bits .i64) (Int.fdiv (wrap .i64 ((wrap .i64 (c.2.2*6364136223846793005))+1442695040888963407)) (2 ^ (min (toNat 33) (IntKind.bits .i64)))) ^^^ ofInt (IntKind.bits .i64) (Int.fdiv (wrap .i64 ((wrap .i64 (c.2.2*6364136223846793005))+1442695040888963407)) (2 ^ (min (toNat 47) (IntKind.bits .i64))))).toNat)) 255 (by omega) (by omega);exact⟨_,_,rfl,a1,a2,h1,h2,h3⟩
def B0 (c:Cur) (hc:Dc c) (n:Int) (hn:n≤1000000000):∃ x c',A3 c n=some (x,c')∧0≤x∧(0<n→x<n)∧(n≤0→x=0)∧Dc c':=by
 unfold A3
 by_cases h0:n≤0
 ·exact⟨0,c,by simp only[h0,decide_true,cond_true],by omega,by omega,λ _=>rfl,hc⟩
 ·by_cases h1:n≤256
  ·obtain⟨x,c',e,b0,b1,k⟩:=Rw c hc
   have hz:¬ n=0:=by omega
   have:=T5a b0 (show 0<n by omega);exact⟨Int.tmod x n,c',by simp only[h0,h1,hz,decide_true,decide_false,cond_true,cond_false,e,Vn],this.1,λ _=>this.2,λ h=>by omega,k⟩
  ·obtain⟨x,c1,e1,b0,b1,k1⟩:=Rw c hc;obtain⟨y,c2,e2,b2,b3,k2⟩:=Rw c1 k1;obtain⟨z,c3,e3,b4,b5,k3⟩:=Rw c2 k2
   have hz:¬ n=0:=by omega
   have:=T5a (show 0≤x*65536+y*256+z by omega) (show 0<n by omega);refine⟨Int.tmod (x*65536+y*256+z) n,c3,?_,this.1,λ _=>this.2,λ h=>by omega,k3⟩;simp only[h0,h1,hz,decide_false,cond_false,e1,e2,e3,Vn];rw[w64 (n:=x*65536) (by omega) (by omega),w64 (n:=y*256) (by omega) (by omega),w64 (n:=x*65536+y*256) (by omega) (by omega),w64 (n:=x*65536+y*256+z) (by omega) (by omega)]
def Mva {α:Type} {l:List α} {i:Int} {d:α} (h0:0≤i) (h1:i<(l.length:Int)):l.getD i.toNat d∈l:=by
 have h:i.toNat<l.length:=by omega
 rw[Vb,Vk h];exact Jcb h
def M8 (c:Cur) (hc:Dc c) (l:List Int) (hl:0<l.length) (hm:l.length≤2000000):∃ x c',Ac c l=some (x,c')∧x∈l∧Dc c':=by
 obtain⟨i,c',e,b0,b1,_,k⟩:=B0 c hc (l.length:Int) (by omega);have b1:=b1 (by omega);refine⟨l.getD i.toNat 0,c',?_,Mva b0 b1,k⟩;unfold Ac;simp only[e,Vn,b0,b1,decide_true,cond_true]
def Mwa (c:Cur) (hc:Dc c) (l:List ByteArray) (hl:0<l.length) (hm:l.length≤2000000):∃ x c',Kd c l=some (x,c')∧x∈l∧Dc c':=by
 obtain⟨i,c',e,b0,b1,_,k⟩:=B0 c hc (l.length:Int) (by omega);have b1:=b1 (by omega);refine⟨l.getD i.toNat (⟨#[]⟩:ByteArray),c',?_,Mva b0 b1,k⟩;unfold Kd;simp only[e,Vn,b0,b1,decide_true,cond_true]
def Aj (l:List Int):Prop:=∀ x∈l,0≤x∧x≤255
def H8a (m:Int) (hm:m≤1000):∀ (n:Nat) (l:List Int) (i:Int) (c:Cur),Dc c→0≤i→i≤max m 0→(max m 0)-i=n→(l.length:Int)=i→Aj l→
  Tot (λ k=>G9 k m l i c.1 c.2.1 c.2.2) (λ r=>Dc r.2∧Aj r.1∧(r.1.length:Int)=max m 0):=by
 intro n
 induction n with
 |zero=>
  intro l i c hc h0 h1 hn hl hb;refine Tot.succ ?_;simp only[G9];refine H9b (by omega) (H4b ⟨hc,hb,by show (l.length:Int)=_;omega⟩)
 |succ n ih=>
  intro l i c hc h0 h1 hn hl hb;refine Tot.succ ?_;simp only[G9];refine H8b (by omega) ?_;obtain⟨x,c',e,b0,b1,k⟩:=Rw c hc;refine Hfb (Hgb (Q:=λ r=>r=(x,c')) e rfl) ?_;refine Hcb (by simp only[Vd,Vj];omega) ?_;rw[w64 (n:=i+1) (by omega) (by omega)];refine ih _ _ c' k (by omega) (by omega) (by omega) (by simp only[Ve,Vd,Vj];omega) ?_;intro y hy;rcases Vp.1 hy with hy|hy
  ·exact hb y hy
  ·simp only[Vu]at hy;subst hy;exact H6a _
def D7a (c:Cur) (hc:Dc c):Tot (λ k=>Dy k c) (λ r=>Dc r.2∧Aj r.1∧(r.1.length:Int)≤9):=by
 unfold Dy;obtain⟨x,c',e,hx,k⟩:=M8 c hc [0,1,2,5,9] (by decide) (by decide)
 have hx':0≤x∧x≤9:=by
  simp only[Vl,Zq,or_false]at hx;omega
 refine Hfb (Hgb (Q:=λ r=>r=(x,c')) e rfl) ?_;refine H5b (Q:=λ r=>Dc r.2∧Aj r.1∧(r.1.length:Int)≤9) ?_ (λ r hr=>H4b hr);unfold Ga;refine H5b (H8a x (by omega) (max x 0-0).toNat [] 0 c' k (by omega) (by omega) (by omega) rfl (by intro y hy;simp at hy)) (λ r hr=>H4b ?_);exact⟨hr.1,hr.2.1,by show (r.1.length:Int)≤9;rw[hr.2.2];omega⟩
def P4 (c:Cur) (hc:Dc c) (n:Int) (hn:n≤1000000000):∃ x c',Cl c n=some (x,c')∧Dc c':=by
 obtain⟨x,c',e,_,_,_,k⟩:=B0 c hc n hn;exact⟨x==0,c',by unfold Cl;simp only[e,Vn],k⟩
abbrev Stp:=Int×Int×Int
abbrev Row:=ByteArray×Stp×Bool×Int
abbrev Fil:=Stp×Bool×List Int
def Kfa (s:Stp):Prop:=0≤s.1∧s.1≤1000000000∧0≤s.2.1∧s.2.1≤1000000∧0≤s.2.2∧s.2.2≤20
def Nj:List ByteArray:=[(⟨#[97]⟩:ByteArray),(⟨#[98]⟩:ByteArray),(⟨#[99,97,116,47,49]⟩:ByteArray),(⟨#[99,97,116,47,50]⟩:ByteArray),(⟨#[100,111,103]⟩:ByteArray),(⟨#[120,45,49]⟩:ByteArray)]
def Od (c:Cur) (hc:Dc c):∃ x c',B9 c=some (x,c')∧x∈Nj∧Dc c':=by
 obtain⟨x,c',e,hx,k⟩:=Mwa c hc Nj (by decide) (by decide);exact⟨x,c',by unfold B9;unfold Nj at e;simp only[e,Vn],hx,k⟩
def H9a (c:Cur) (hc:Dc c):∃ x c',Iw c=some (x,c')∧Kfa x∧Dc c':=by
 obtain⟨x,c1,e1,hx,k1⟩:=M8 c hc [0,1,2,3,1000000000] (by decide) (by decide);obtain⟨y,c2,e2,y0,y1,_,k2⟩:=B0 c1 k1 3 (by decide);obtain⟨z,c3,e3,z0,z1,_,k3⟩:=B0 c2 k2 3 (by decide);have y1:=y1 (by decide);have z1:=z1 (by decide);simp only[Vl,Zq,or_false]at hx;exact⟨(x,y,z),c3,by unfold Iw;simp only[e1,e2,e3,Vn],⟨by show 0≤x;omega,by show x≤_;omega,y0,by show y≤_;omega,z0,by show z≤_;omega⟩,k3⟩
def Zwa (f:Fil):Prop:=Kfa f.1∧Aj f.2.2∧(f.2.2.length:Int)≤9∧(f.2.1=true→f.2.2=[])
def Q6 (c:Cur) (hc:Dc c):Tot (λ k=>Cm k c) (λ r=>Zwa r.1∧Dc r.2):=by
 unfold Cm;obtain⟨s,c1,e1,hs,k1⟩:=H9a c hc;obtain⟨b,c2,e2,k2⟩:=P4 c1 k1 4 (by decide);refine Hfb (Hgb (Q:=λ r=>r=(s,c1)) e1 rfl) ?_;refine Hfb (Hgb (Q:=λ r=>r=(b,c2)) e2 rfl) ?_;refine Hab (λ hb=>?_) (λ hb=>H4b ⟨⟨hs,by intro y hy;simp at hy,by show ((([]:List Int).length:Nat):Int)≤9;decide,λ _=>rfl⟩,k2⟩);refine H5b (D7a c2 k2) (λ r hr=>H4b ⟨⟨hs,hr.2.1,hr.2.2,λ h=>?_⟩,hr.1⟩);simp only[Vv]at hb;have h':b=true:=h;rw[hb]at h';cases h'
def C5b (x:Row):Prop:=x.1∈Nj∧Kfa x.2.1∧0≤x.2.2.2∧x.2.2.2≤9∧(x.2.2.1=true→x.2.2.2=0)
def D8a (c:Cur) (hc:Dc c):Tot (λ k=>Iy k c) (λ r=>C5b r.1∧Dc r.2):=by
 unfold Iy;obtain⟨s,c1,e1,hs,k1⟩:=Od c hc;refine Hfb (Hgb (Q:=λ r=>r=(s,c1)) e1 rfl) ?_;refine H5b (Q6 c1 k1) (λ r hr=>?_);obtain⟨⟨h1,h2,h3,h4⟩,k2⟩:=hr;unfold J7;refine Hfb (H4b (Q:=λ y=>y=(s,r.1.1,r.1.2.1,(r.1.2.2.length:Int))) rfl) ?_;refine H4b ⟨⟨hs,h1,by show (0:Int)≤(r.1.2.2.length:Int);omega,h3,λ h=>?_⟩,k2⟩;show (r.1.2.2.length:Int)=0;rw[h4 h];rfl

def Haa:∀ (a:List UInt8),Op.bytesLess a a=false
 |[]=>rfl
 |a::l=>by simp[Op.bytesLess,Haa l]
def Mxa:∀ (a b c:List UInt8),Op.bytesLess a b=true→Op.bytesLess b c=true→Op.bytesLess a c=true
 |_,[],_,h,_=>by simp[Op.bytesLess]at h
 |_,_::_,[],_,h=>by simp[Op.bytesLess]at h
 |[],_::_,_::_,_,_=>rfl
 |a::x,b::y,c::z,h1,h2=>by
  simp only[Op.bytesLess,Hlb,Va,decide_eq_true_eq,beq_iff_eq]at h1 h2 ⊢;rcases h1 with h1|⟨rfl,h1⟩
  ·rcases h2 with h2|⟨rfl,h2⟩
   ·exact .inl (UInt8.lt_trans h1 h2)
   ·exact .inl h1
  ·rcases h2 with h2|⟨rfl,h2⟩
   ·exact .inl h2
   ·exact .inr ⟨rfl,Mxa x y z h1 h2⟩
def Zxa:∀ (a b:List UInt8),Op.bytesLess a b=false→Op.bytesLess b a=false→a=b
 |[],[],_,_=>rfl
 |[],_::_,h,_=>by simp[Op.bytesLess]at h
 |_::_,[],_,h=>by simp[Op.bytesLess]at h
 |a::x,b::y,h1,h2=>by
  simp only[Op.bytesLess,Bool.or_eq_false_iff,J9b,decide_eq_false_iff_not]at h1 h2
  have hab:a=b:=by
   have h3:=UInt8.not_lt.1 h1.1;have h4:=UInt8.not_lt.1 h2.1;exact UInt8.le_antisymm h4 h3
  subst hab;rw[Zxa x y (h1.2.resolve_left (by simp)) (h2.2.resolve_left (by simp))]
def tlt (a b:ByteArray):Bool:=Op.bytesLess a.toList b.toList
def teq (a b:ByteArray):Bool:=a.toList==b.toList
def D9a {a b:ByteArray} (h:a.toList=b.toList):a=b:=by
 rw[ByteArray.toList_eq,ByteArray.toList_eq]at h;obtain⟨⟨x⟩⟩:=a;obtain⟨⟨y⟩⟩:=b;simp only at h;rw[h]
def Km {a b:ByteArray}:teq a b=true↔a=b:=by
 unfold teq;rw[beq_iff_eq];exact⟨D9a,λ h=>by rw[h]⟩
def M0 (a:ByteArray):tlt a a=false:=Haa _
def Nb {a b c:ByteArray} (h:tlt a b=true) (h':tlt b c=true):tlt a c=true:=Mxa _ _ _ h h'
def Awa {a b:ByteArray} (h:tlt a b=false) (h':tlt b a=false):a=b:=D9a (Zxa _ _ h h')
def Axa {a b:ByteArray} (h:tlt a b=true):tlt b a=false:=by
 cases hb:tlt b a
 ·rfl
 have:=Nb h hb;rw[M0]at this;cases this
def Hba (a b:ByteArray):(!(Op.bytesLess a.toList b.toList||a.toList==b.toList))=tlt b a:=by
 show (!(tlt a b||teq a b))=tlt b a;cases h1:tlt a b
 case true=>rw[Axa h1];rfl
 cases h2:teq a b
 case true=>rw[Km.1 h2,M0];rfl
 cases h3:tlt b a
 case true=>rfl
 exfalso;have:=Awa h1 h3;rw[Km.2 this]at h2;cases h2
def sle (a b:Stp):Bool:=cond (a.1 != b.1) (decide (a.1<b.1)) (cond (a.2.1 != b.2.1) (decide (a.2.1<b.2.1)) (decide (a.2.2<b.2.2)))
def Esa (a b:Stp):Cd a b=some (sle a b):=by
 unfold Cd sle
 cases a.1 != b.1<;>cases a.2.1 != b.2.1<;>rfl
def Eta (a b:Stp):Cb a b=some (sle a b):=by
 unfold Cb sle
 cases a.1 != b.1<;>cases a.2.1 != b.2.1<;>rfl
def Qo {a b:Stp}:sle a b=true↔a.1<b.1∨(a.1=b.1∧(a.2.1<b.2.1∨(a.2.1=b.2.1∧a.2.2<b.2.2))):=by
 unfold sle
 by_cases h1:a.1=b.1
 ·by_cases h2:a.2.1=b.2.1
  ·simp[h1,h2]
  ·have:(a.2.1 != b.2.1)=true:=by simpa using h2
   simp[h1,this,h2]
 ·have:(a.1 != b.1)=true:=by simpa using h1
  simp[this,h1]
def Tj (a b:Row):Bool:=cond (!((a.2.1.1==b.2.1.1)&&((a.2.1.2.1==b.2.1.2.1)&&(a.2.1.2.2==b.2.1.2.2)))) (sle a.2.1 b.2.1) (cond (!(a.2.2.1==b.2.2.1)) b.2.2.1 (decide (a.2.2.2<b.2.2.2)))
def Kga (a b:Row):Jx a b=some (Tj a b):=by
 unfold Jx Tj;rw[Esa]
 cases (!((a.2.1.1==b.2.1.1)&&((a.2.1.2.1==b.2.1.2.1)&&(a.2.1.2.2==b.2.1.2.2))))<;>cases (!(a.2.2.1==b.2.2.1))<;>rfl
def T6a (a b:Row):J2 a b=some (Tj b a):=by
 unfold J2 Tj;rw[Eta,BEq.comm (a:=a.2.1.1),BEq.comm (a:=a.2.1.2.1),BEq.comm (a:=a.2.1.2.2),BEq.comm (a:=a.2.2.1)]
 cases (!((b.2.1.1==a.2.1.1)&&((b.2.1.2.1==a.2.1.2.1)&&(b.2.1.2.2==a.2.1.2.2))))<;>cases (!(b.2.2.1==a.2.2.1))<;>rfl
def Mo:Row:=((⟨#[]⟩:ByteArray),(((0:Int),((0:Int),(0:Int))),(false,(0:Int))))
def Tk (s:ByteArray):List Row→Nat→Option Nat
 |[],_=>none
 |r::l,i=>bif teq r.1 s then some i else Tk s l (i+1)
def Xe (l:List Row) (s:ByteArray):Nat→Nat
 |0=>0
 |k+1=>bif tlt s (l.getD k Mo).1 then Xe l s k else k+1
def mrg (l:List Row) (x:Row):List Row:=match Tk x.1 l 0 with
 |some i=>bif Tj (l.getD i Mo) x then l.set i x else l
 |none=>l.take (Xe l x.1 l.length)++x::l.drop (Xe l x.1 l.length)
def Aya (l:List Row) (s:ByteArray):∀ k,Xe l s k≤k
 |0=>Vx _
 |k+1=>by
  unfold Xe
  cases tlt s (l.getD k Mo).1 with
  |true=>have:=Aya l s k;simp only[cond_true];omega
  |false=>simp only[cond_false];omega
def Daa {s:ByteArray}:∀ (l:List Row) (i j:Nat),Tk s l i=some j→i≤j∧j<i+l.length∧teq (l.getD (j-i) Mo).1 s=true
 |[],i,j,h=>by simp[Tk]at h
 |r::l,i,j,h=>by
  unfold Tk at h
  cases ht:teq r.1 s with
  |true=>
   rw[ht]at h;simp only[cond_true,Vg]at h;subst h;refine⟨Vx _,by simp,?_⟩;rw[I8b];exact ht
  |false=>
   rw[ht]at h;simp only[cond_false]at h;obtain⟨h1,h2,h3⟩:=Daa l (i+1) j h;refine⟨by omega,by simp only[Vd];omega,?_⟩;rw[show j-i=(j-(i+1))+1 by omega];exact h3
def Ah {α:Type} {l:List α} {i:Nat} {d:α} (h:i<l.length):l.drop i=l.getD i d::l.drop (i+1):=by
 rw[Za h,Vb,Vk h];rfl
def Few (l:List Row):Prop:=l.length≤1000000000000
def Hca (x:Row):∀ (n:Nat) (l:List Row) (i:Nat),l.length-i=n→i≤l.length→Few l→
  Tot (λ k=>Ey k l (i:Int) x.1 x.2.1.1 x.2.1.2.1 x.2.1.2.2 x.2.2.1 x.2.2.2) (λ r=>r=match Tk x.1 (l.drop i) i with
   |some j => .inl (bif Tj (l.getD j Mo) x then l.set j x else l)
   |none => .inr (l,x.1,x.2.1.1,x.2.1.2.1,x.2.1.2.2,x.2.2.1,x.2.2.2)):=by
 intro n
 induction n with
 |zero=>
  intro l i hn hi hf;unfold Few at hf;refine Tot.succ ?_;simp only[Ey];refine H9b (by omega) (H4b ?_);rw[Wj (by omega)];rfl
 |succ n ih=>
  intro l i hn hi hf;have hf':=hf;unfold Few at hf
  have hlt:i<l.length:=by omega
  refine Tot.succ ?_;simp only[Ey];refine H8b (by omega) (H8b (by omega) (H8b (by omega) ?_));have e0:toNat (i:Int)=i:=Vc i;rw[e0,Ah (d:=Mo) hlt];refine Hab (λ ht=>?_) (λ ht=>?_)
  ·have ht':teq (l.getD i Mo).1 x.1=true:=ht;refine H8b (by omega) (H8b (by omega) ?_);refine Hfb (Hgb (Q:=λ r=>r=Tj (l.getD i Mo) x) (Kga _ _) rfl) ?_;simp only[Tk,ht',cond_true]
   cases hb:Tj (l.getD i Mo) x with
   |true=>exact H7b rfl (H8b (by omega) (H8b (by omega) (H4b rfl)))
   |false=>exact H6b rfl (H4b rfl)
  ·have ht':teq (l.getD i Mo).1 x.1=false:=ht;simp only[Tk,ht',cond_false];rw[w64 (n:=(i:Int)+1) (by omega) (by omega)];exact ih l (i+1) (by omega) (by omega) hf'
def Hda (x:Row) (l0 l5:List Row) (h5:l5=l0):∀ (n:Nat) (i:Nat),l0.length-i=n→i≤l0.length→Few l0→
  Tot (λ k=>Fb k l0 l5 l0 (l0.length:Int) (i:Int) x.1 x.2.1.1 x.2.1.2.1 x.2.1.2.2 x.2.2.1 x.2.2.2) (λ r=>r=match Tk x.1 (l0.drop i) i with
   |some j => .inl (bif Tj (l0.getD j Mo) x then l0.set j x else l0)
   |none => .inr (l0,x.1,x.2.1.1,x.2.1.2.1,x.2.1.2.2,x.2.2.1,x.2.2.2)):=by
 subst h5;intro n
 induction n with
 |zero=>
  intro i hn hi hf;unfold Few at hf;refine Tot.succ ?_;simp only[Fb];refine H9b (by omega) (H4b ?_);rw[Wj (by omega)];rfl
 |succ n ih=>
  intro i hn hi hf;have hf':=hf;unfold Few at hf
  have hlt:i<l5.length:=by omega
  refine Tot.succ ?_;simp only[Fb];refine H8b (by omega) (H8b (by omega) (H8b (by omega) ?_));have e0:toNat (i:Int)=i:=Vc i;rw[e0,Ah (d:=Mo) hlt];refine Hab (λ ht=>?_) (λ ht=>?_)
  ·have ht':teq (l5.getD i Mo).1 x.1=true:=ht;refine Hfb (Hgb (Q:=λ r=>r=Tj (l5.getD i Mo) x) (T6a _ _) rfl) ?_;simp only[Tk,ht',cond_true]
   cases hb:Tj (l5.getD i Mo) x with
   |true=>exact H7b rfl (H8b (by omega) (H8b (by omega) (H4b rfl)))
   |false=>exact H6b rfl (H4b rfl)
  ·have ht':teq (l5.getD i Mo).1 x.1=false:=ht;simp only[Tk,ht',cond_false];rw[w64 (n:=(i:Int)+1) (by omega) (by omega)];exact ih (i+1) (by omega) (by omega) hf'
def Eua (x:Row) (l:List Row) (hf:Few l):∀ (i:Nat),i≤l.length→
  Tot (λ k=>E8 k l (i:Int) x.1 x.2.1.1 x.2.1.2.1 x.2.1.2.2 x.2.2.1 x.2.2.2) (λ r=>r=(l,(Xe l x.1 i:Int),x.1,x.2.1.1,x.2.1.2.1,x.2.1.2.2,x.2.2.1,x.2.2.2)):=by
 unfold Few at hf;intro i
 induction i with
 |zero=>
  intro hi;refine Tot.succ ?_;simp only[E8];exact H9b (by omega) (H4b rfl)
 |succ i ih=>
  intro hi;refine Tot.succ ?_;simp only[E8];rw[w64 (n:=((i+1:Nat):Int)-1) (by omega) (by omega),show ((i+1:Nat):Int)-1=(i:Int) by omega,show toNat (i:Int)=i from Vc i];refine H8b (by omega) (H8b (by omega) (H8b (by omega) ?_));have e:∀ z,(!(Op.bytesLess (l.getD i z).1.toList x.1.toList||(l.getD i z).1.toList==x.1.toList))=tlt x.1 (l.getD i z).1:=λ z=>Hba _ _;rw[e]
  have hc:Xe l x.1 (i+1)=bif tlt x.1 (l.getD i Mo).1 then Xe l x.1 i else i+1:=rfl
  refine Hab (λ ht=>?_) (λ ht=>?_)
  ·have ht':tlt x.1 (l.getD i Mo).1=true:=ht;rw[hc,ht',cond_true];exact ih (by omega)
  ·have ht':tlt x.1 (l.getD i Mo).1=false:=ht;rw[hc,ht',cond_false];exact H4b rfl
def Un (l:List Row) (hf:Few l):Ao l=some l:=by
 unfold Few at hf;unfold Ao;rw[Zj (by simp only[Vj];omega)];rfl
def T7a (l:List Row) (x:Row) (hf:Few l):Tot (λ k=>Cr k l x) (λ r=>r=mrg l x):=by
 have hf':=hf;unfold Few at hf;unfold Cr;refine H5b (Hgb (Q:=λ r=>r=l) (Un l hf') rfl) ?_;rintro r rfl;refine H5b (Hda x r r rfl _ 0 rfl (Vq _) hf') ?_;rintro y rfl;rw[Wn];unfold mrg
 cases hfi:Tk x.1 r 0 with
 |some j=>exact H4b rfl
 |none=>
  simp only[Hyb];refine H5b (Eua x r hf' r.length (Vx _)) ?_;rintro z rfl;have hc:=Aya r x.1 r.length;simp only;rw[show toNat ((Xe r x.1 r.length:Nat):Int)=Xe r x.1 r.length from Vc _];refine H8b (by omega) (H8b (by omega) ?_)
  have hft:Few (r.take (Xe r x.1 r.length)):=by unfold Few;rw[Vt];omega
  refine H5b (Hgb (Q:=λ q=>q=r.take (Xe r x.1 r.length)) (Un _ hft) rfl) ?_;rintro q rfl;refine Hcb (by simp only[Vt,Vd,Vj];omega) ?_;refine H8b (by omega) (H8b (by omega) (Hcb (by simp only[Ve,Vt,Wc,Vd,Vj];omega) (H4b ?_)));rw[Vo];rfl
def Eva (x:Row) (l:List Row) (hf:Few l):∀ (i:Nat) (y:Row),i≤l.length→
  Tot (λ k=>Dw k (l.take i++y::l.drop i) (i:Int) x.1 x.2.1.1 x.2.1.2.1 x.2.1.2.2 x.2.2.1 x.2.2.2)
   (λ r=>∃ y',r=(l.take (Xe l x.1 i)++y'::l.drop (Xe l x.1 i),(Xe l x.1 i:Int),x.1,x.2.1.1,x.2.1.2.1,x.2.1.2.2,x.2.2.1,x.2.2.2)):=by
 unfold Few at hf;intro i
 induction i with
 |zero=>
  intro y hi;refine Tot.succ ?_;simp only[Dw];exact H9b (by omega) (H4b ⟨y,rfl⟩)
 |succ i ih=>
  intro y hi;refine Tot.succ ?_;simp only[Dw]
  have hlen:(l.take (i+1)++y::l.drop (i+1)).length=l.length+1:=by simp only[Ve,Vt,Vd,Wc];omega
  have hget:∀ z,(l.take (i+1)++y::l.drop (i+1)).getD i z=l.getD i z:=by
   intro z;rw[Vb,Vb,Yb (by rw[Vt];omega),List.getElem?_take_of_lt (by omega)]
  rw[w64 (n:=((i+1:Nat):Int)-1) (by omega) (by omega),show ((i+1:Nat):Int)-1=(i:Int) by omega,show toNat (i:Int)=i from Vc i,show toNat ((i+1:Nat):Int)=i+1 from Vc _,hget,hlen];refine H8b (by omega) (H8b (by omega) (H8b (by omega) ?_));have e:∀ z,(!(Op.bytesLess (l.getD i z).1.toList x.1.toList||(l.getD i z).1.toList==x.1.toList))=tlt x.1 (l.getD i z).1:=λ z=>Hba _ _;rw[e]
  have hc:Xe l x.1 (i+1)=bif tlt x.1 (l.getD i Mo).1 then Xe l x.1 i else i+1:=rfl
  refine Hab (λ ht=>?_) (λ ht=>?_)
  ·have ht':tlt x.1 (l.getD i Mo).1=true:=ht;rw[hc,ht',cond_true];refine H8b (by omega) (H8b (by omega) (H8b (by omega) (H8b (by omega) ?_)))
   have hset:(l.take (i+1)++y::l.drop (i+1)).set (i+1) (l.getD i ((⟨#[]⟩:ByteArray),(((0:Int),((0:Int),(0:Int))),(false,(0:Int)))))=l.take i++l.getD i Mo::l.drop i:=by
    rw[List.set_append,if_neg (by rw[Vt];omega),Vt,Zu hi,I8b,Jpb,Ah (d:=Mo) (show i<l.length by omega)];rw[List.take_add_one,Vk (show i<l.length by omega)];simp only[Jsb,Vo,Yg];rw[Vb,Vb,Vk (show i<l.length by omega)];rfl
   rw[hset];exact ih _ (by omega)
  ·have ht':tlt x.1 (l.getD i Mo).1=false:=ht;rw[hc,ht',cond_false];exact H4b ⟨y,rfl⟩
def Hea (l:List Row) (x:Row) (hf:Few l):Tot (λ k=>Bt k l x) (λ r=>r=mrg l x):=by
 have hf':=hf;unfold Few at hf;unfold Bt;refine Hcb (by simp only[Vj];omega) ?_;rw[Wa];refine Hfb (Hca x _ l 0 rfl (Vq _) hf') ?_;rw[Wn];unfold mrg
 cases hfi:Tk x.1 l 0 with
 |some j=>exact H4b rfl
 |none=>
  simp only[Hyb];refine Hcb (by simp only[Vd,Vj];omega) ?_;have h0:=Eva x l hf' l.length x (Vx _);rw[Yn,Wd]at h0;refine H5b h0 ?_;rintro z ⟨y',rfl⟩;have hc:=Aya l x.1 l.length
  have hlen:(l.take (Xe l x.1 l.length)++y'::l.drop (Xe l x.1 l.length)).length=l.length+1:=by simp only[Ve,Vt,Vd,Wc];omega
  simp only;rw[show toNat ((Xe l x.1 l.length:Nat):Int)=Xe l x.1 l.length from Vc _,hlen];refine H8b (by omega) (H8b (by omega) (H4b ?_));rw[List.set_append,if_neg (by rw[Vt];omega),Vt,Zu hc,I8b,Jpb]

def Ewa (a b:ByteArray):(a==b)=teq a b:=beq_toListBytes a b
def Dba {s:ByteArray}:∀ (l:List Row) (i:Nat),Tk s l i=none→∀ r∈l,r.1≠s
 |[],_,_,r,hr=>by simp at hr
 |a::l,i,h,r,hr=>by
  unfold Tk at h;cases ht:teq a.1 s
  case true=>rw[ht]at h;simp at h
  rw[ht]at h;rcases Vl.1 hr with rfl|hr
  ·intro e;rw[Km.2 e]at ht;cases ht
  ·exact Dba l (i+1) h r hr
def Kha (l:List Row) (x:Row):l.length≤(mrg l x).length∧(mrg l x).length≤l.length+1:=by
 unfold mrg;have hc:=Aya l x.1 l.length;split
 ·cases Tj (l.getD _ Mo) x<;>simp
 ·simp only[Ve,Vt,Vd,Wc];omega
def T8a {l:List Row} {x r:Row} (h:r∈mrg l x):r=x∨r∈l:=by
 unfold mrg at h;split at h
 ·rename_i j hj;cases hb:Tj (l.getD j Mo) x
  ·rw[hb]at h;exact .inr h
  rw[hb,cond_true]at h;rcases Yc h with h|h
  ·exact .inr h
  ·exact .inl h
 ·rcases Vp.1 h with h|h
  ·exact .inr (Hnb h)
  ·rcases Vl.1 h with h|h
   ·exact .inl h
   ·exact .inr (Zk h)
def Kr (a:Stp):sle a a=false:=by
 cases h:sle a a with
 |false=>rfl
 |true=>rw[Qo]at h;omega
def Jb (l:List Row):Prop:=l.Pairwise (λ a b=>tlt a.1 b.1=true)
def Hfa {l:List Row} {s:ByteArray} (hs:Jb l) (hn:∀ r∈l,r.1≠s):∀ k,k≤l.length→(∀ i,i<Xe l s k→tlt (l.getD i Mo).1 s=true)∧(∀ i,Xe l s k≤i→i<k→tlt s (l.getD i Mo).1=true)
 |0,_=>⟨λ i hi=>by simp[Xe]at hi,λ i _ hi=>by omega⟩
 |k+1,hk=>by
  unfold Xe
  cases ht:tlt s (l.getD k Mo).1 with
  |true=>
   simp only[cond_true];obtain⟨h1,h2⟩:=Hfa hs hn k (by omega);refine⟨h1,λ i hi hik=>?_⟩
   by_cases e:i=k
   ·subst e;exact ht
   ·exact h2 i hi (by omega)
  |false=>
   simp only[cond_false];refine⟨λ i hi=>?_,λ i hi hik=>by omega⟩
   have hget:∀ j (hj:j<l.length),l.getD j Mo=l[j]:=λ j hj=>by rw[Vb,Vk hj];rfl
   have hkl:k<l.length:=by omega
   have hks:tlt (l.getD k Mo).1 s=true:=by
    cases h:tlt (l.getD k Mo).1 s
    case true=>rfl
    exfalso;exact hn (l.getD k Mo) (by rw[hget k hkl];exact Jcb hkl) (Awa h ht)
   by_cases e:i=k
   ·subst e;exact hks
   ·have h3:=(Hkb.1 hs) i k (by omega) hkl (by omega);rw[hget i (by omega)];rw[hget k hkl]at hks;exact Nb h3 hks
def Dca {l:List Row} {x:Row} (hs:Jb l):Jb (mrg l x):=by
 have hget:∀ j (hj:j<l.length),l.getD j Mo=l[j]:=λ j hj=>by rw[Vb,Vk hj];rfl
 unfold mrg;split
 ·rename_i j hj;obtain⟨_,h2,h3⟩:=Daa l 0 j hj;rw[Jqb]at h3
  have hjl:j<l.length:=by omega
  have hname:l[j].1=x.1:=by rw[← hget j hjl];exact Km.1 h3
  cases hb:Tj (l.getD j Mo) x
  ·exact hs
  rw[cond_true];unfold Jb;rw[Hkb];intro a b ha hb hab;rw[Vw]at ha hb;have:=(Hkb.1 hs) a b ha hb hab;rw[K5b,K5b]
  by_cases e1:j=a
  ·subst e1;rw[if_pos rfl,if_neg (by omega),← hname];exact this
  ·rw[if_neg e1]
   by_cases e2:j=b
   ·subst e2;rw[if_pos rfl,← hname];exact this
   ·rw[if_neg e2];exact this
 ·rename_i hj;have hn:=Dba l 0 hj;obtain⟨c1,c2⟩:=Hfa hs hn l.length (Vx _);have hc:=Aya l x.1 l.length;unfold Jb;rw[Ze,Wk];refine⟨Jab (Jzb _ _) hs,⟨λ r hr=>?_,Jab (List.drop_sublist _ _) hs⟩,λ r hr q hq=>?_⟩
  ·obtain⟨i,hi,rfl⟩:=Jnb hr;rw[Wc]at hi;rw[List.getElem_drop,← hget _ (by omega)];exact c2 _ (by omega) (by omega)
  ·obtain⟨i,hi,rfl⟩:=Jnb hr;rw[Vt]at hi
   have h1:tlt (List.take (Xe l x.1 l.length) l)[i].1 x.1=true:=by
    rw[List.getElem_take,← hget _ (by omega)];exact c1 i (by omega)
   rcases Vl.1 hq with rfl|hq
   ·exact h1
   ·refine Nb h1 ?_;obtain⟨m,hm,rfl⟩:=Jnb hq;rw[Wc]at hm;rw[List.getElem_drop,← hget _ (by omega)];exact c2 _ (by omega) (by omega)
def Mya (l:List Row):Prop:=Jb l∧(∀ r∈l,C5b r)
def Hga:∀ (n:Nat) (l:List Row) (i:Int) (c:Cur),Dc c→0≤i→i=n→Mya l→l.length+n≤5→
  Tot (λ k=>Ge k l i c.1 c.2.1 c.2.2) (λ r=>Dc r.2∧Mya r.1∧r.1.length≤5):=by
 intro n
 induction n with
 |zero=>
  intro l i c hc h0 hi hr hl;refine Tot.succ ?_;simp only[Ge];exact H9b (by omega) (H4b ⟨hc,hr,by show l.length≤5;omega⟩)
 |succ n ih=>
  intro l i c hc h0 hi hr hl;refine Tot.succ ?_;simp only[Ge];refine H8b (by omega) ?_;refine H5b (D8a c hc) (λ r h=>?_);refine Hfb (Hea l r.1 (by unfold Few;omega)) ?_;rw[w64 (n:=i-1) (by omega) (by omega)];refine ih _ _ r.2 h.2 (by omega) (by omega) ⟨Dca hr.1,λ y hy=>?_⟩ (by have:=(Kha l r.1).2;omega);rcases T8a hy with rfl|hy
  ·exact h.1
  ·exact hr.2 y hy
def Aza (c:Cur) (hc:Dc c):Tot (λ k=>Db k c) (λ r=>Dc r.2∧Mya r.1∧r.1.length≤5):=by
 unfold Db;obtain⟨x,c',e,x0,x1,_,k⟩:=B0 c hc 6 (by decide);have x1:=x1 (by decide);refine Hfb (Hgb (Q:=λ r=>r=(x,c')) e rfl) ?_;refine H5b (Hga x.toNat [] x c' k x0 (by omega) ⟨List.Pairwise.nil,by simp⟩ (by simp only[Vj];omega)) (λ r hr=>H4b hr)

def inR (n lo hi:Int):Bool:=decide (n≥lo)&&decide (n≤hi)
def Xf (n lo hi:Int):Fy n lo hi=some (inR n lo hi):=by
 unfold Fy inR
 cases decide (n≥lo)<;>rfl
def Oq (n lo hi:Int):A9 n lo hi=some (inR n lo hi):=by
 unfold A9 inR
 cases decide (n≥lo)<;>rfl
def Et {n lo hi:Int}:inR n lo hi=true↔lo≤n∧n≤hi:=by
 unfold inR;simp
def Uo (c:Int):Bool:=inR c 97 122||(inR c 48 57||(!(c != 45)||(!(c != 95)||!(c != 47))))
def Lc (s:ByteArray):Prop:=s.size≤4611686018427387904
def Qp (s:ByteArray):s.data.toList.length=s.size:=Yx
def B0a (s:ByteArray) (i:Int):0≤bt s i∧bt s i≤255:=by
 unfold bt;have:=(s.data.toList.getD i.toNat 0).toNat_lt;omega
def Etb (s:ByteArray) (i:Nat) (h:i<s.size):bt s (i:Int)=((s.data.toList[i]'(by rw[Qp];exact h)).toNat:Int):=by
 unfold bt;rw[Vc,Vb,Vk (by rw[Qp];exact h)];rfl
def bOk (b:UInt8):Bool:=Uo (b.toNat:Int)
def Kia (s:ByteArray) (hs:Lc s):∀ (n i:Nat),s.size-i=n→i≤s.size→
  Tot (λ k=>Aq k s (i:Int)) (λ r=>r=bif (s.data.toList.drop i).all bOk then .inr s else .inl false):=by
 unfold Lc at hs;have hsz:=Qp s;intro n
 induction n with
 |zero=>
  intro i hn hi;refine Tot.succ ?_;simp only[Aq];refine H9b (by omega) (H4b ?_);rw[Wj (by omega)];rfl
 |succ n ih=>
  intro i hn hi
  have hlt:i<s.size:=by omega
  refine Tot.succ ?_;simp only[Aq];refine H8b (by omega) (H8b (by omega) (H8b (by omega) ?_));rw[w64 (n:=(i:Int)+1) (by omega) (by omega)]
  have hb:bOk (s.data.toList[i]'(by omega))=Uo (bt s (i:Int)):=by rw[Etb s i hlt];rfl
  rw[Za (by omega),Hjb,hb];generalize bt s (i:Int)=c;have h1:=ih (i+1) (by omega) (by omega)
  have e:(((i+1:Nat)):Int)=(i:Int)+1:=by omega
  rw[e]at h1
  cases hc:Uo c with
  |true=>
   rw[Vz];refine h1.mono (λ r hr=>hr) |> λ h=>?_;obtain⟨r,K,h2,h3⟩:=h;refine⟨r,K,λ k hk=>?_,h3⟩;rw[← h2 k hk];unfold Uo inR at hc
   revert hc
   cases decide (c≥97)<;>cases decide (c≤122)<;>cases decide (c≥48)<;>cases decide (c≤57)<;>cases (c != 45)<;>cases (c != 95)<;>cases (c != 47)<;>first|(intro _;rfl)|(intro hc;cases hc)
  |false=>
   rw[Zr];refine⟨.inl false,0,λ k _=>?_,rfl⟩;unfold Uo inR at hc
   revert hc
   cases decide (c≥97)<;>cases decide (c≤122)<;>cases decide (c≥48)<;>cases decide (c≤57)<;>cases (c != 45)<;>cases (c != 95)<;>cases (c != 47)<;>first|(intro _;rfl)|(intro hc;cases hc)
def Kja (s:ByteArray) (hs:Lc s):∀ (n i:Nat),s.size-i=n→i≤s.size→
  Tot (λ k=>Dd k s (i:Int)) (λ r=>r=bif (s.data.toList.drop i).all bOk then .inr s else .inl false):=by
 unfold Lc at hs;have hsz:=Qp s;intro n
 induction n with
 |zero=>
  intro i hn hi;refine Tot.succ ?_;simp only[Dd];refine H9b (by omega) (H4b ?_);rw[Wj (by omega)];rfl
 |succ n ih=>
  intro i hn hi
  have hlt:i<s.size:=by omega
  have hbb:=B0a s (i:Int);refine Tot.succ ?_;simp only[Dd];refine H8b (by omega) (H8b (by omega) (H8b (by omega) ?_));rw[w64 (n:=(i:Int)+1) (by omega) (by omega),w64 (n:=bt s (i:Int)) (by omega) (by omega)]
  have hb:bOk (s.data.toList[i]'(by omega))=Uo (bt s (i:Int)):=by rw[Etb s i hlt];rfl
  rw[Za (by omega),Hjb,hb];generalize bt s (i:Int)=c;have h1:=ih (i+1) (by omega) (by omega)
  have e:(((i+1:Nat)):Int)=(i:Int)+1:=by omega
  rw[e]at h1;simp only[Oq,Vn]
  cases hc:Uo c with
  |true=>
   rw[Vz];obtain⟨r,K,h2,h3⟩:=h1;refine⟨r,K,λ k hk=>?_,h3⟩;rw[← h2 k hk];unfold Uo at hc
   revert hc
   cases inR c 97 122<;>cases inR c 48 57<;>cases (c != 45)<;>cases (c != 95)<;>cases (c != 47)<;>first|(intro _;rfl)|(intro hc;cases hc)
  |false=>
   rw[Zr];refine⟨.inl false,0,λ k _=>?_,rfl⟩;unfold Uo at hc
   revert hc
   cases inR c 97 122<;>cases inR c 48 57<;>cases (c != 45)<;>cases (c != 95)<;>cases (c != 47)<;>first|(intro _;rfl)|(intro hc;cases hc)
def B1 (s:ByteArray):Bool:=s.data.toList.all bOk&&inR (s.size:Int) 1 20
def Qq (s:ByteArray) (hs:Lc s):Tot (λ k=>Ar k s) (λ r=>r=B1 s):=by
 unfold Ar B1;refine Hfb (Kia s hs _ 0 rfl (Vq _)) ?_;rw[Wn]
 cases s.data.toList.all bOk with
 |true=>exact Hgb (a:=inR (s.size:Int) 1 20) (by simp only[cond_true,Hyb,Xf,Vn]) (by rw[Vz])
 |false=>exact H4b rfl
def Pk (s:ByteArray) (hs:Lc s):Tot (λ k=>Ap k s) (λ r=>r=B1 s):=by
 unfold Ap B1;refine Hfb (Kja s hs _ 0 rfl (Vq _)) ?_;rw[Wn]
 cases s.data.toList.all bOk with
 |true=>exact Hgb (a:=inR (s.size:Int) 1 20) (by simp only[cond_true,Hyb,Oq,Vn]) (by rw[Vz])
 |false=>exact H4b rfl
def Gz (s:Stp):Bool:=inR s.1 0 1000000000&&(inR s.2.1 0 1000000&&inR s.2.2 0 20)
def B1a (s:Stp):Ee s=some (Gz s):=by
 unfold Ee Gz;simp only[Xf,Vn]
 cases inR s.1 0 1000000000<;>cases inR s.2.1 0 1000000<;>rfl
def Rx (s:Stp):Cc s=some (Gz s):=by
 unfold Cc Gz;simp only[Oq,Vn]
 cases inR s.1 0 1000000000<;>cases inR s.2.1 0 1000000<;>rfl
def Nq (x:Row):Bool:=B1 x.1&&(Gz x.2.1&&(inR x.2.2.2 0 200&&(!x.2.2.1||x.2.2.2==0)))
def T9a (x:Row) (hs:Lc x.1):Tot (λ k=>Kf k x) (λ r=>r=Nq x):=by
 unfold Kf Nq;refine Hfb (Qq x.1 hs) ?_;cases B1 x.1
 ·exact H4b rfl
 refine Hgb (a:=Gz x.2.1&&(inR x.2.2.2 0 200&&(!x.2.2.1||x.2.2.2==0))) ?_ (by rw[Vz]);simp only[cond_true,B1a,Xf,Vn]
 cases Gz x.2.1<;>cases inR x.2.2.2 0 200<;>cases x.2.2.1<;>rfl
def Taa (x:Row) (hs:Lc x.1):Tot (λ k=>Iv k x) (λ r=>r=Nq x):=by
 unfold Iv Nq;refine Hfb (Pk x.1 hs) ?_;cases B1 x.1
 ·exact H4b rfl
 refine Hgb (a:=Gz x.2.1&&(inR x.2.2.2 0 200&&(!x.2.2.1||x.2.2.2==0))) ?_ (by rw[Vz]);simp only[cond_true,Rx,Oq,Vn]
 cases Gz x.2.1<;>cases inR x.2.2.2 0 200<;>cases x.2.2.1<;>rfl
def chk:Option ByteArray→List Row→Bool
 |_,[]=>true
 |none,r::l=>Nq r&&chk (some r.1) l
 |some q,r::l=>Nq r&&(tlt q r.1&&chk (some r.1) l)
def Ko (l:List Row):Bool:=chk none l&&decide ((l.length:Int)≤60)
def Qr (l:List Row):Prop:=∀ r∈l,Lc r.1
def Xu (l:List Row):Nat→Option ByteArray
 |0=>none
 |i+1=>some (l.getD i Mo).1
def Mza (l:List Row) (i:Nat) (h:i<l.length):chk (Xu l i) (l.drop i)=(Nq (l.getD i Mo)&&(bif decide (0<i) then tlt (l.getD (i-1) Mo).1 (l.getD i Mo).1 else true)&&chk (Xu l (i+1)) (l.drop (i+1))):=by
 rw[Ah (d:=Mo) h]
 cases i with
 |zero=>simp[Xu,chk]
 |succ i=>simp[Xu,chk,Khb]
def A4 {α:Type} {l:List α} {i:Nat} {d:α} (h1:i<l.length):l.getD i d∈l:=by
 rw[Vb,Vk h1];exact Jcb h1
def Kka (l:List Row) (hf:Few l) (hs:Qr l):∀ (n i:Nat),l.length-i=n→i≤l.length→
  Tot (λ k=>Gx k l l (l.length:Int) (i:Int)) (λ r=>r=bif chk (Xu l i) (l.drop i) then .inr l else .inl false):=by
 unfold Few at hf;intro n
 induction n with
 |zero=>
  intro i hn hi;refine Tot.succ ?_;simp only[Gx];refine H9b (by omega) (H4b ?_);rw[Wj (by omega)]
  cases Xu l i<;>rfl
 |succ n ih=>
  intro i hn hi
  have hlt:i<l.length:=by omega
  refine Tot.succ ?_;simp only[Gx];refine H8b (by omega) (H8b (by omega) (H8b (by omega) ?_));rw[show toNat (i:Int)=i from Vc i,w64 (n:=(i:Int)+1) (by omega) (by omega),Mza l i hlt];have h1:=ih (i+1) (by omega) (by omega)
  have e:(((i+1:Nat)):Int)=(i:Int)+1:=by omega
  rw[e]at h1;refine Hfb (T9a (l.getD i Mo) (hs _ (A4 hlt))) ?_;cases hb:Nq (l.getD i Mo)
  ·exact H7b rfl (H4b (by simp))
  refine H6b rfl ?_;rw[Vz];refine Hbb (λ h0=>?_) (λ h0=>?_)
  ·rw[w64 (n:=(i:Int)-1) (by omega) (by omega)];refine H8b (by omega) (H8b (by omega) ?_);rw[show toNat ((i:Int)-1)=i-1 by omega,decide_eq_true (show 0<i by omega),cond_true];have et:(!(Op.bytesLess (l.getD (i-1) Mo).1.toList (l.getD i Mo).1.toList)) = !(tlt (l.getD (i-1) Mo).1 (l.getD i Mo).1):=rfl;refine Hab (λ ht=>?_) (λ ht=>?_)
   ·have ht':(!(tlt (l.getD (i-1) Mo).1 (l.getD i Mo).1))=true:=ht;rw[Vv]at ht';exact H4b (by rw[ht'];rfl)
   ·have ht':(!(tlt (l.getD (i-1) Mo).1 (l.getD i Mo).1))=false:=ht;rw[Wi]at ht';rw[ht',Vz];exact h1
  ·rw[decide_eq_false (show ¬ 0<i by omega),cond_false,Vz];exact h1
def Kla (l:List Row) (hf:Few l) (hs:Qr l):∀ (n i:Nat),l.length-i=n→i≤l.length→
  Tot (λ k=>Gt k l (i:Int)) (λ r=>r=bif chk (Xu l i) (l.drop i) then .inr l else .inl false):=by
 unfold Few at hf;intro n
 induction n with
 |zero=>
  intro i hn hi;refine Tot.succ ?_;simp only[Gt];refine H9b (by omega) (H4b ?_);rw[Wj (by omega)]
  cases Xu l i<;>rfl
 |succ n ih=>
  intro i hn hi
  have hlt:i<l.length:=by omega
  refine Tot.succ ?_;simp only[Gt];refine H8b (by omega) (H8b (by omega) (H8b (by omega) ?_));rw[show toNat (i:Int)=i from Vc i,w64 (n:=(i:Int)+1) (by omega) (by omega),Mza l i hlt];have h1:=ih (i+1) (by omega) (by omega)
  have e:(((i+1:Nat)):Int)=(i:Int)+1:=by omega
  rw[e]at h1;refine Hfb (Taa (l.getD i Mo) (hs _ (A4 hlt))) ?_;cases hb:Nq (l.getD i Mo)
  ·exact H7b rfl (H4b (by simp))
  refine H6b rfl ?_;rw[Vz];refine Hbb (λ h0=>?_) (λ h0=>?_)
  ·rw[w64 (n:=(i:Int)-1) (by omega) (by omega)];refine H8b (by omega) (H8b (by omega) (H8b (by omega) (H8b (by omega) ?_)));rw[show toNat ((i:Int)-1)=i-1 by omega,decide_eq_true (show 0<i by omega),cond_true];refine Hab (λ ht=>?_) (λ ht=>?_)
   ·have ht':(!(tlt (l.getD (i-1) Mo).1 (l.getD i Mo).1))=true:=ht;rw[Vv]at ht';exact H4b (by rw[ht'];rfl)
   ·have ht':(!(tlt (l.getD (i-1) Mo).1 (l.getD i Mo).1))=false:=ht;rw[Wi]at ht';rw[ht',Vz];exact h1
  ·rw[decide_eq_false (show ¬ 0<i by omega),cond_false,Vz];exact h1
def N0a (l:List Row) (hf:Few l) (hs:Qr l):Tot (λ k=>Ep k l) (λ r=>r=Ko l):=by
 unfold Ep Ko;refine Hfb (Kka l hf hs _ 0 rfl (Vq _)) ?_;rw[Wn];show Tot _ (λ r=>r=(chk none l&&_))
 cases hc:chk none l with
 |true=>rw[show chk (Xu l 0) l=true from hc];exact H4b (by rw[Vz])
 |false=>rw[show chk (Xu l 0) l=false from hc];exact H4b rfl
def N1a (l:List Row) (hf:Few l) (hs:Qr l):Tot (λ k=>Em k l) (λ r=>r=Ko l):=by
 unfold Em Ko;refine Hfb (Kla l hf hs _ 0 rfl (Vq _)) ?_;rw[Wn]
 cases hc:chk none l with
 |true=>rw[show chk (Xu l 0) l=true from hc];exact H4b (by rw[Vz])
 |false=>rw[show chk (Xu l 0) l=false from hc];exact H4b rfl
def Kma:∀ (p:Option ByteArray) (l:List Row),chk p l=true↔Jb l∧(∀ r∈l,Nq r=true)∧(∀ q,p=some q→∀ r∈l,tlt q r.1=true)
 |p,[]=>by
  have:chk p []=true:=by cases p<;>rfl
  simp[this,Jb]
 |none,r::l=>by
  simp only[chk,Va,Kma (some r.1) l,Jb,Wk];constructor
  ·rintro⟨h1,h2,h3,h4⟩;exact⟨⟨λ a ha=>h4 _ rfl a ha,h2⟩,λ a ha=>by rcases Vl.1 ha with rfl|ha;exact h1;exact h3 a ha,λ q hq=>by cases hq⟩
  ·rintro⟨⟨h1,h2⟩,h3,_⟩;exact⟨h3 r (by simp),h2,λ a ha=>h3 a (Vi _ ha),λ q hq a ha=>by cases hq;exact h1 a ha⟩
 |some q,r::l=>by
  simp only[chk,Va,Kma (some r.1) l,Jb,Wk];constructor
  ·rintro⟨h1,h0,h2,h3,h4⟩;refine⟨⟨λ a ha=>h4 _ rfl a ha,h2⟩,λ a ha=>by rcases Vl.1 ha with rfl|ha;exact h1;exact h3 a ha,λ q' hq a ha=>?_⟩;cases hq;rcases Vl.1 ha with rfl|ha
   ·exact h0
   ·exact Nb h0 (h4 _ rfl a ha)
  ·rintro⟨⟨h1,h2⟩,h3,h4⟩;exact⟨h3 r (by simp),h4 q rfl r (by simp),h2,λ a ha=>h3 a (Vi _ ha),λ q' hq a ha=>by cases hq;exact h1 a ha⟩
def My {l:List Row}:Ko l=true↔Jb l∧(∀ r∈l,Nq r=true)∧l.length≤60:=by
 unfold Ko;simp only[Va,Kma,decide_eq_true_eq];constructor
 ·rintro⟨⟨h1,h2,_⟩,h3⟩;exact⟨h1,h2,by omega⟩
 ·rintro⟨h1,h2,h3⟩;exact⟨⟨h1,h2,λ q hq=>by cases hq⟩,by omega⟩
def Tl (a b:List Row):List Row:=b.foldl mrg a
def N2a {a b:List Row} {r:Row} (h:r∈Tl a b):r∈a∨r∈b:=by
 induction b generalizing a with
 |nil=>exact .inl h
 |cons x b ih=>
  rcases ih (a:=mrg a x) h with h|h
  ·rcases T8a h with rfl|h
   ·exact .inr (by simp)
   ·exact .inl h
  ·exact .inr (Vi _ h)
def Kna {a b:List Row} (h:Jb a):Jb (Tl a b):=by
 induction b generalizing a with
 |nil=>exact h
 |cons x b ih=>exact ih (Dca h)
def Exa (b:List Row) (hb:Few b):∀ (n i:Nat) (a:List Row),b.length-i=n→i≤b.length→a.length+(b.length-i)≤1000000000000→
  Tot (λ k=>E9 k a b (b.length:Int) (i:Int)) (λ r=>r=Tl a (b.drop i)):=by
 unfold Few at hb;intro n
 induction n with
 |zero=>
  intro i a hn hi hf;refine Tot.succ ?_;simp only[E9];refine H9b (by omega) (H4b ?_);rw[Wj (by omega)];rfl
 |succ n ih=>
  intro i a hn hi hf
  have hlt:i<b.length:=by omega
  refine Tot.succ ?_;simp only[E9];refine H8b (by omega) (H8b (by omega) (H8b (by omega) ?_));rw[show toNat (i:Int)=i from Vc i,w64 (n:=(i:Int)+1) (by omega) (by omega),Ah (d:=Mo) hlt];refine Hfb (T7a a (b.getD i Mo) (by unfold Few;omega)) ?_;have:=Kha a (b.getD i Mo);exact ih (i+1) (mrg a (b.getD i Mo)) (by omega) (by omega) (by omega)
def Pga (a b:List Row) (hf:a.length+b.length≤1000000000000):Tot (λ k=>Cw k a b) (λ r=>r=Tl a b):=by
 unfold Cw;refine H5b (Hgb (Q:=λ r=>r=a) (Un a (by unfold Few;omega)) rfl) ?_;rintro r rfl;refine H5b (Exa b (by unfold Few;omega) _ 0 r rfl (Vq _) (by omega)) ?_;rintro y rfl;rw[Wn];exact H4b rfl
def mx (a b:Row):Row:=bif Tj a b then b else a

def C4a:Nat→Nat→List Int
 |0,n=>[(n:Int)]
 |f+1,n=>if n≤127 then [(n:Int)] else ((n % 128+128:Nat):Int)::C4a f (n/128)
def Pr (n:Nat):List Int:=C4a 4 n
def Uq:Nat→Nat→Nat→List Int→Option (Nat×Nat)
 |0,_,_,_=>none
 |_+1,_,_,[]=>none
 |f+1,k,acc,x::l=>if 128≤x then Uq f (k+1) (acc+x.toNat % 128*128 ^ k) l
  else if (x=0∧0<k)∨1000000000<acc+x.toNat % 128*128 ^ k then none else some (acc+x.toNat % 128*128 ^ k,k+1)
def Pt (l:List Int) (p:Nat):Option (Nat×Nat):=match Uq 5 0 0 (l.drop p) with
 |some (n,c)=>some (n,p+c)
 |none=>none
def Tba:∀ (f n:Nat),(C4a f n).length≤f+1∧0<(C4a f n).length
 |0,n=>by simp[C4a]
 |f+1,n=>by
  unfold C4a;split
  ·simp
  ·have:=Tba f (n/128);simp only[Vd];omega
def Tm:∀ (f k acc:Nat) (l:List Int) (n c:Nat),Aj l→Uq f k acc l=some (n,c)→acc<128 ^ k→k<c∧c≤k+f∧c-k≤l.length∧n≤1000000000
 |0,_,_,_,_,_,_,h,_=>by simp[Uq]at h
 |_+1,_,_,[],_,_,_,h,_=>by simp[Uq]at h
 |f+1,k,acc,x::l,n,c,hb,h,ha=>by
  have hx:=hb x (by simp);unfold Uq at h;split at h
  ·have h1:acc+x.toNat % 128*128 ^ k<128 ^ (k+1):=by
    have h2:x.toNat % 128≤127:=by omega
    have h3:=Wm (128 ^ k) h2;rw[Zx];omega
   have:=Tm f (k+1) _ l n c (λ y hy=>hb y (Vi _ hy)) h h1;simp only[Vd];omega
  ·split at h
   ·cases h
   ·simp only[Vg,Vy]at h;obtain⟨rfl,rfl⟩:=h;simp only[Vd];omega
def Tca:∀ (f k acc:Nat) (l:List Int) (n c:Nat),Aj l→Uq (f+1) k acc l=some (n,c)→acc<128 ^ k→∃ m,n=acc+m*128 ^ k∧l=C4a f m++l.drop (c-k)∧(m=0→c=k+1∧(0<k→False))∧m<128 ^ (f+1)
 |0,k,acc,[],n,c,hb,h,ha=>by simp[Uq]at h
 |_+1,k,acc,[],n,c,hb,h,ha=>by simp[Uq]at h
 |0,k,acc,x::l,n,c,hb,h,ha=>by
  have hx:=hb x (by simp);unfold Uq at h;split at h
  ·simp[Uq]at h
  ·rename_i h128;split at h
   ·cases h
   ·rename_i hz;simp only[Vg,Vy]at h;obtain⟨rfl,rfl⟩:=h;have hm:x.toNat % 128=x.toNat:=Hvb (by omega);refine⟨x.toNat,by rw[hm],?_,λ h0=>⟨rfl,λ hk=>hz (.inl ⟨by omega,hk⟩)⟩,by omega⟩;rw[show k+1-k=1 by omega];show x::l=[((x.toNat:Nat):Int)]++l;rw[show ((x.toNat:Nat):Int)=x by omega];rfl
 |f+1,k,acc,x::l,n,c,hb,h,ha=>by
  have hx:=hb x (by simp);have hb':Aj l:=λ y hy=>hb y (Vi _ hy);unfold Uq at h;split at h
  ·rename_i h128
   have h1:acc+x.toNat % 128*128 ^ k<128 ^ (k+1):=by
    have h2:x.toNat % 128≤127:=by omega
    have h3:=Wm (128 ^ k) h2;rw[Zx];omega
   obtain⟨m,e1,e2,e3,e4⟩:=Tca f (k+1) _ l n c hb' h h1;have hbd:=Tm (f+1) (k+1) _ l n c hb' h h1;have hm0:m≠0:=λ h0=>(e3 h0).2 (by omega);refine⟨x.toNat % 128+m*128,?_,?_,λ h0=>by omega,?_⟩
   ·rw[e1,Zx,Yw]
    have:m*128*128 ^ k=m*(128 ^ k*128):=by rw[Nat.mul_assoc,Kib 128]
    omega
   ·unfold C4a;rw[if_neg (by omega),show (x.toNat % 128+m*128)/128=m by omega,show (x.toNat % 128+m*128) % 128=x.toNat % 128 by omega,show c-k=(c-(k+1))+1 by omega,List.drop_succ_cons,List.cons_append,← e2];congr 1;omega
   ·rw[Zx];omega
  ·rename_i h128;split at h
   ·cases h
   ·rename_i hz;simp only[Vg,Vy]at h;obtain⟨rfl,rfl⟩:=h;have hm:x.toNat % 128=x.toNat:=Hvb (by omega)
    have hp:128≤128 ^ (f+1+1):=by
     have:=Nat.pow_le_pow_right (show 0<128 by decide) (show 1≤f+1+1 by omega)
     simpa using this
    refine⟨x.toNat,by rw[hm],?_,λ h0=>⟨rfl,λ hk=>hz (.inl ⟨by omega,hk⟩)⟩,by omega⟩;rw[show k+1-k=1 by omega];unfold C4a;rw[if_pos (by omega)];show x::l=[((x.toNat:Nat):Int)]++l;rw[show ((x.toNat:Nat):Int)=x by omega];rfl
def Tda:∀ (f k acc m:Nat) (rest:List Int),m<128 ^ (f+1)→(0<k→0<m)→acc+m*128 ^ k≤1000000000→Uq (f+1) k acc (C4a f m++rest)=some (acc+m*128 ^ k,k+(C4a f m).length)
 |0,k,acc,m,rest,hm,hk,hn=>by
  show Uq 1 k acc ((m:Int)::rest)=_;unfold Uq
  have h1:m<128:=by simpa using hm
  rw[if_neg (by omega),if_neg (by
   rw[show (m:Int).toNat % 128=m by rw[Vc];exact Hvb h1]
   omega)]
  rw[show (m:Int).toNat % 128=m by rw[Vc];exact Hvb h1];rfl
 |f+1,k,acc,m,rest,hm,hk,hn=>by
  unfold C4a
  by_cases h:m≤127
  ·rw[if_pos h];show Uq (f+2) k acc ((m:Int)::rest)=_;unfold Uq
   rw[if_neg (by omega),if_neg (by
    rw[show (m:Int).toNat % 128=m by rw[Vc];exact Hvb (by omega)]
    omega)]
   rw[show (m:Int).toNat % 128=m by rw[Vc];exact Hvb (by omega)];rfl
  ·rw[if_neg h];show Uq (f+2) k acc (((m % 128+128:Nat):Int)::(C4a f (m/128)++rest))=_;unfold Uq
   have e1:(((m % 128+128:Nat):Int)).toNat % 128=m % 128:=by rw[Vc];omega
   rw[if_pos (by omega),e1]
   have hmod:m=m % 128+m/128*128:=by omega
   have hm2:m/128<128 ^ (f+1):=by rw[Zx]at hm;omega
   have e2:acc+m % 128*128 ^ k+m/128*128 ^ (k+1)=acc+m*128 ^ k:=by
    have h2:m*128 ^ k=(m % 128+m/128*128)*128 ^ k:=by rw[← hmod]
    rw[h2,Yw,Zx]
    have:m/128*128*128 ^ k=m/128*(128 ^ k*128):=by rw[Nat.mul_assoc,Kib 128]
    omega
   rw[Tda f (k+1) (acc+m % 128*128 ^ k) (m/128) rest hm2 (λ _=>by omega) (by rw[e2];exact hn),e2,Vd];simp only[Vg,Vy,true_and];omega
def N3a (pre:List Int) (n:Nat) (rest:List Int) (hn:n≤1000000000):Pt (pre++(Pr n++rest)) pre.length=some (n,pre.length+(Pr n).length):=by
 unfold Pt;rw[Zi];have:=Tda 4 0 0 n rest (by omega) (by omega) (by omega);unfold Pr;rw[this];simp
def Tn {l:List Int} {p n q:Nat} (hb:Aj l) (h:Pt l p=some (n,q)):l.drop p=Pr n++l.drop q∧n≤1000000000∧p<q∧q≤l.length:=by
 unfold Pt at h;split at h
 ·rename_i m c hd;simp only[Vg,Vy]at h;obtain⟨rfl,rfl⟩:=h;have hb':Aj (l.drop p):=λ y hy=>hb y (Zk hy);have hbd:=Tm 5 0 0 _ _ _ hb' hd (by decide);obtain⟨m',e1,e2,_,_⟩:=Tca 4 0 0 _ _ _ hb' hd (by decide)
  have e3:m=m':=by rw[e1];simp
  subst e3;rw[Wc]at hbd;refine⟨?_,hbd.2.2.2,by omega,by omega⟩;rw[Jqb,Yo]at e2;exact e2
 ·cases h
def H1b (i:Nat) (hi:i<5):(2:Int) ^ (min (toNat (wrap .i64 (7*(i:Int)))) (IntKind.bits .i64))=((128 ^ i:Nat):Int):=by
 have:i=0∨i=1∨i=2∨i=3∨i=4:=by omega
 rcases this with rfl|rfl|rfl|rfl|rfl<;>decide
def G7b (i:Nat) (hi:i<5):(2:Int) ^ (min (toNat (wrap .u64 (wrap .i64 (7*(i:Int))))) (IntKind.bits .i64))=((128 ^ i:Nat):Int):=by
 have:i=0∨i=1∨i=2∨i=3∨i=4:=by omega
 rcases this with rfl|rfl|rfl|rfl|rfl<;>decide
def sh7 (i:Nat) (hi:i<5):¬ (wrap .i64 (7*(i:Int))<0)∧¬ (wrap .u64 (wrap .i64 (7*(i:Int)))<0):=by
 have:i=0∨i=1∨i=2∨i=3∨i=4:=by omega
 rcases this with rfl|rfl|rfl|rfl|rfl<;>decide
def Q7 (i:Nat) (hi:i≤5):128 ^ i≤34359738368:=by
 have:=Nat.pow_le_pow_right (show 0<128 by decide) hi
 simpa using this
def Ry (n:Nat) (h:n<18446744073709551616):(ofInt (IntKind.bits .i64) (n:Int)).toNat=n:=by
 rw[Ivb];show ((n:Int) % ((2 ^ 64:Nat):Int)).toNat=n;rw[Int.emod_eq_of_lt (by omega) (by omega)];exact Vc n
def Zya (n:Nat) (h:n<9223372036854775808):wrap .i64 ((ofInt (IntKind.bits .i64) (n:Int) &&& ofInt (IntKind.bits .i64) 127).toNat)=((n % 128:Nat):Int):=by
 rw[Ilb,Ry n (by omega),show (ofInt (IntKind.bits .i64) 127).toNat=127 from by decide,show (127:Nat)=2 ^ 7-1 from rfl,Jbb];exact w64 (by omega) (by omega)
def N4a (a m i:Nat) (ha:a<128 ^ i) (hm:m<128) (hi:i<5):wrap .i64 ((ofInt (IntKind.bits .i64) (a:Int) ||| ofInt (IntKind.bits .i64) ((m*128 ^ i:Nat):Int)).toNat)=((a+m*128 ^ i:Nat):Int):=by
 have hp:=Q7 i (by omega);have hmul:m*128 ^ i≤127*34359738368:=Jwb (by omega) hp;rw[BitVec.toNat_or,Ry a (by omega),Ry _ (by omega),Nat.or_comm]
 have e:(128:Nat) ^ i=2 ^ (7*i):=by rw[Nat.pow_mul]
 have h2:=Nat.two_pow_add_eq_or_of_lt (i:=7*i) (b:=a) (by rw[← e];exact ha) m;rw[← e,Kib]at h2;rw[← h2,Zv];exact w64 (by omega) (by omega)
def Koa (l:List Int) (p:Int):Int×Int×Bool:=if p<0 then (0,0,false) else match Pt l p.toNat with
 |some (n,q)=>((n:Int),(q:Int),true)
 |none=>(0,0,false)
def Fsb (p:Nat):Option (Nat×Nat)→Int×Int×Bool
 |some (n,c)=>((n:Int),((p+c:Nat):Int),true)
 |none=>(0,0,false)
def B2a (r:Sum (Int×Int×Bool) Unit):Int×Int×Bool:=Sum.elim (λ y=>y) (λ _=>(0,0,false)) r
def Ur {l:List Int} {p:Nat} (h:p<l.length):l.drop p=l.getD p 0::l.drop (p+1):=Ah h
def Pha (l:List Int) (hb:Aj l) (hl:l.length≤1000000000000) (p:Nat) (hp:p≤1000000000000):∀ (f i acc:Nat),f+i=5→acc<128 ^ i→
  Tot (λ k=>Gn k l (p:Int) (acc:Int) (i:Int)) (λ r=>B2a r=Fsb p (Uq f i acc (l.drop (p+i)))):=by
 intro f
 induction f with
 |zero=>
  intro i acc hi ha;refine Tot.succ ?_;simp only[Gn];exact H9b (by omega) (H4b rfl)
 |succ f ih=>
  intro i acc hi ha
  have hi5:i<5:=by omega
  refine Tot.succ ?_;simp only[Gn];refine H8b (by omega) (H8b (by omega) ?_);rw[w64 (n:=(l.length:Int)-(i:Int)) (by omega) (by omega),w64 (n:=(p:Int)+(i:Int)) (by omega) (by omega),show toNat ((p:Int)+(i:Int))=p+i by omega];refine Hbb (λ h=>?_) (λ h=>?_)
  ·have hlt:p+i<l.length:=by omega
   refine H8b (by omega) (H8b (by omega) ?_);have hx:=hb (l.getD (p+i) 0) (A4 hlt);rw[Ur hlt,H1b i hi5]
   have he:Uq (f+1) i acc (l.getD (p+i) 0::l.drop (p+i+1))=if 128≤l.getD (p+i) 0 then Uq f (i+1) (acc+(l.getD (p+i) 0).toNat % 128*128 ^ i) (l.drop (p+i+1)) else if (l.getD (p+i) 0=0∧0<i)∨1000000000<acc+(l.getD (p+i) 0).toNat % 128*128 ^ i then none else some (acc+(l.getD (p+i) 0).toNat % 128*128 ^ i,i+1):=rfl
   rw[he];generalize l.getD (p+i) 0=x at hx ⊢;obtain⟨v,rfl⟩:∃ v:Nat,x=(v:Int):=⟨x.toNat,by omega⟩;rw[Vc];have hp1:=Q7 i (by omega);have hmul:v % 128*128 ^ i≤127*34359738368:=Jwb (by omega) hp1;rw[w64 (n:=(v:Int)) (by omega) (by omega)]
   have e1:Int.tmod (v:Int) 128*((128 ^ i:Nat):Int)=((v % 128*128 ^ i:Nat):Int):=by
    rw[Zz (by omega)]
    push_cast
    rfl
   rw[e1,w64 (n:=((v % 128*128 ^ i:Nat):Int)) (by omega) (by omega),← Int.natCast_add,w64 (n:=((acc+v % 128*128 ^ i:Nat):Int)) (by omega) (by omega),w64 (n:=(i:Int)+1) (by omega) (by omega),w64 (n:=(p:Int)+(i:Int)+1) (by omega) (by omega)];refine H9b (sh7 i hi5).1 ?_;refine Hbb (λ h128=>?_) (λ h128=>?_)
   ·rw[if_pos (by omega)]
    have h1:acc+v % 128*128 ^ i<128 ^ (i+1):=by
     have h2:v % 128≤127:=by omega
     have h3:=Wm (128 ^ i) h2;rw[Zx];omega
    have:=ih (i+1) (acc+v % 128*128 ^ i) (by omega) h1;rw[show p+(i+1)=p+i+1 by omega]at this;exact this
   ·rw[if_neg (by omega)]
    have big:Tot (λ _:Nat=>cond (decide (((acc+v % 128*128 ^ i:Nat):Int) > 1000000000)) (some (Sum.inl ((0:Int),(0:Int),false))) (some (Sum.inl (((acc+v % 128*128 ^ i:Nat):Int),(p:Int)+(i:Int)+1,true))):Nat→Option (Sum (Int×Int×Bool) Unit))
      (λ r=>B2a r=if 1000000000<acc+v % 128*128 ^ i then (0,0,false) else (((acc+v % 128*128 ^ i:Nat):Int),((p+(i+1):Nat):Int),true)):=by
     refine Hbb (λ hbig=>?_) (λ hbig=>?_)
     ·rw[if_pos (by omega)];exact H4b rfl
     ·rw[if_neg (by omega)];refine H4b ?_;show (_,_,_)=_;rw[show (p:Int)+(i:Int)+1=((p+(i+1):Nat):Int) by omega]
    have goal:∀ c:Prop,[Decidable c]→(if c∨1000000000<acc+v % 128*128 ^ i then none else some (acc+v % 128*128 ^ i,i+1))=if c then none else if 1000000000<acc+v % 128*128 ^ i then (none:Option (Nat×Nat)) else some (acc+v % 128*128 ^ i,i+1):=by
     intro c _
     by_cases h1:c<;>by_cases h2:1000000000<acc+v % 128*128 ^ i<;>simp[h1,h2]
    rw[goal]
    have fin:(Fsb p (if 1000000000<acc+v % 128*128 ^ i then (none:Option (Nat×Nat)) else some (acc+v % 128*128 ^ i,i+1)))=if 1000000000<acc+v % 128*128 ^ i then (0,0,false) else (((acc+v % 128*128 ^ i:Nat):Int),((p+(i+1):Nat):Int),true):=by
     split<;>rfl
    refine Hab (λ h0=>?_) (λ h0=>?_)
    ·have hv:v=0:=by
      have:=beq_iff_eq.1 h0;omega
     refine Hbb (λ hi0=>?_) (λ hi0=>?_)
     ·rw[if_pos ⟨by omega,by omega⟩];exact H4b rfl
     ·rw[if_neg (by omega),fin];exact big
    ·have hv:v≠0:=by
      intro e;subst e;simp at h0
     rw[if_neg (by omega),fin];exact big
  ·refine H4b ?_;rw[Wj (by omega)];rfl
def Tea (l:List Int) (hb:Aj l) (hl:l.length≤1000000000000) (p:Int) (hp:p≤1000000000000):Tot (λ k=>I9 k l p) (λ r=>r=Koa l p):=by
 unfold I9 Koa
 by_cases h0:p<0
 ·rw[if_pos h0];refine H5b (Q:=λ r=>r = .inr ()) ?_ ?_
  ·refine Tot.succ ?_;simp only[Gn];exact H8b (by omega) (H9b (by omega) (H4b rfl))
  ·rintro r rfl;exact H4b rfl
 ·rw[if_neg h0];obtain⟨n,rfl⟩:∃ n:Nat,p=(n:Int):=⟨p.toNat,by omega⟩;rw[Vc];refine H5b (Pha l hb hl n (by omega) 5 0 0 rfl (by decide)) ?_;intro r hr;unfold Pt;rw[Zo]at hr
  have hr':B2a r=(match (match Uq 5 0 0 (l.drop n) with|some (m,c)=>some (m,n+c)|none=>none) with|some (m,q)=>((m:Int),(q:Int),true)|none=>((0:Int),(0:Int),false)):=by
   rw[hr]
   cases Uq 5 0 0 (l.drop n) with
   |none=>rfl
   |some mc=>rfl
  rw[← hr']
  cases r with
  |inl y=>exact H4b rfl
  |inr z=>exact H4b rfl

def Pia (l:List Int) (hb:Aj l) (hl:l.length≤1000000000000) (p:Nat) (hp:p<l.length):∀ (f i acc:Nat),f+i=5→acc<128 ^ i→
  Tot (λ k=>Ff k l (p:Int) (acc:Int) (i:Int)) (λ r=>B2a r=Fsb p (Uq f i acc (l.drop (p+i)))):=by
 intro f
 induction f with
 |zero=>
  intro i acc hi ha;refine Tot.succ ?_;simp only[Ff];exact H9b (by omega) (H4b rfl)
 |succ f ih=>
  intro i acc hi ha
  have hi5:i<5:=by omega
  refine Tot.succ ?_;simp only[Ff];refine H8b (by omega) (H8b (by omega) (H8b (by omega) ?_));rw[w64 (n:=(p:Int)+(i:Int)) (by omega) (by omega),show toNat ((p:Int)+(i:Int))=p+i by omega];refine Hbb (λ h=>?_) (λ h=>?_)
  ·have hlt:p+i<l.length:=by omega
   refine H8b (by omega) (H8b (by omega) ?_);have hx:=hb (l.getD (p+i) 0) (A4 hlt);rw[Ur hlt,G7b i hi5]
   have he:Uq (f+1) i acc (l.getD (p+i) 0::l.drop (p+i+1))=if 128≤l.getD (p+i) 0 then Uq f (i+1) (acc+(l.getD (p+i) 0).toNat % 128*128 ^ i) (l.drop (p+i+1)) else if (l.getD (p+i) 0=0∧0<i)∨1000000000<acc+(l.getD (p+i) 0).toNat % 128*128 ^ i then none else some (acc+(l.getD (p+i) 0).toNat % 128*128 ^ i,i+1):=rfl
   rw[he];generalize l.getD (p+i) 0=x at hx ⊢;obtain⟨v,rfl⟩:∃ v:Nat,x=(v:Int):=⟨x.toNat,by omega⟩;rw[Vc];have hp1:=Q7 i (by omega);have hmul:v % 128*128 ^ i≤127*34359738368:=Jwb (by omega) hp1;rw[w64 (n:=(v:Int)) (by omega) (by omega),Zya v (by omega)]
   have e1:((v % 128:Nat):Int)*((128 ^ i:Nat):Int)=((v % 128*128 ^ i:Nat):Int):=by push_cast;rfl
   rw[e1,w64 (n:=((v % 128*128 ^ i:Nat):Int)) (by omega) (by omega),N4a acc (v % 128) i ha (by omega) hi5,w64 (n:=(i:Int)+1) (by omega) (by omega),w64 (n:=(p:Int)+(i:Int)+1) (by omega) (by omega)];refine H9b (sh7 i hi5).2 ?_;refine Hbb (λ h128=>?_) (λ h128=>?_)
   ·rw[if_pos (by omega)]
    have h1:acc+v % 128*128 ^ i<128 ^ (i+1):=by
     have h2:v % 128≤127:=by omega
     have h3:=Wm (128 ^ i) h2;rw[Zx];omega
    have:=ih (i+1) (acc+v % 128*128 ^ i) (by omega) h1;rw[show p+(i+1)=p+i+1 by omega]at this;exact this
   ·rw[if_neg (by omega)]
    have big:Tot (λ _:Nat=>cond (decide (((acc+v % 128*128 ^ i:Nat):Int) > 1000000000)) (some (Sum.inl ((0:Int),(0:Int),false))) (some (Sum.inl (((acc+v % 128*128 ^ i:Nat):Int),(p:Int)+(i:Int)+1,true))):Nat→Option (Sum (Int×Int×Bool) Unit))
      (λ r=>B2a r=if 1000000000<acc+v % 128*128 ^ i then (0,0,false) else (((acc+v % 128*128 ^ i:Nat):Int),((p+(i+1):Nat):Int),true)):=by
     refine Hbb (λ hbig=>?_) (λ hbig=>?_)
     ·rw[if_pos (by omega)];exact H4b rfl
     ·rw[if_neg (by omega)];refine H4b ?_;show (_,_,_)=_;rw[show (p:Int)+(i:Int)+1=((p+(i+1):Nat):Int) by omega]
    have goal:∀ c:Prop,[Decidable c]→(if c∨1000000000<acc+v % 128*128 ^ i then none else some (acc+v % 128*128 ^ i,i+1))=if c then none else if 1000000000<acc+v % 128*128 ^ i then (none:Option (Nat×Nat)) else some (acc+v % 128*128 ^ i,i+1):=by
     intro c _
     by_cases h1:c<;>by_cases h2:1000000000<acc+v % 128*128 ^ i<;>simp[h1,h2]
    rw[goal]
    have fin:(Fsb p (if 1000000000<acc+v % 128*128 ^ i then (none:Option (Nat×Nat)) else some (acc+v % 128*128 ^ i,i+1)))=if 1000000000<acc+v % 128*128 ^ i then (0,0,false) else (((acc+v % 128*128 ^ i:Nat):Int),((p+(i+1):Nat):Int),true):=by
     split<;>rfl
    refine Hbb (λ hi0=>?_) (λ hi0=>?_)
    ·refine Hab (λ h0=>?_) (λ h0=>?_)
     ·have hv:v=0:=by
       have:=beq_iff_eq.1 h0;omega
      rw[if_pos ⟨by omega,by omega⟩];exact H4b rfl
     ·have hv:v≠0:=by
       intro e;subst e;simp at h0
      rw[if_neg (by omega),fin];exact big
    ·rw[if_neg (by omega),fin];exact big
  ·refine H4b ?_;rw[Wj (by omega)];rfl
def Wu (l:List Int) (hb:Aj l) (hl:l.length≤1000000000000) (p:Int):Tot (λ k=>Du k l p) (λ r=>r=Koa l p):=by
 unfold Du Koa
 by_cases h0:p<0
 ·rw[if_pos h0];refine H5b (Q:=λ r=>r = .inr ()) ?_ ?_
  ·refine Tot.succ ?_;simp only[Ff];exact H8b (by omega) (H9b (by omega) (H4b rfl))
  ·rintro r rfl;exact H4b rfl
 ·rw[if_neg h0]
  by_cases h1:p<(l.length:Int)
  ·obtain⟨n,rfl⟩:∃ n:Nat,p=(n:Int):=⟨p.toNat,by omega⟩;rw[Vc];refine H5b (Pia l hb hl n (by omega) 5 0 0 rfl (by decide)) ?_;intro r hr;unfold Pt;rw[Zo]at hr
   have hr':B2a r=(match (match Uq 5 0 0 (l.drop n) with|some (m,c)=>some (m,n+c)|none=>none) with|some (m,q)=>((m:Int),(q:Int),true)|none=>((0:Int),(0:Int),false)):=by
    rw[hr]
    cases Uq 5 0 0 (l.drop n) with
    |none=>rfl
    |some mc=>rfl
   refine Tot.mono (Q:=λ y=>y=B2a r) ?_ (λ y hy=>hy.trans hr')
   cases r with
   |inl y=>exact H4b rfl
   |inr z=>exact H4b rfl
  ·have e:Pt l p.toNat=none:=by
    unfold Pt;rw[Wj (by omega)];rfl
   rw[e];refine H5b (Q:=λ r=>r = .inr ()) ?_ ?_
   ·refine Tot.succ ?_;simp only[Ff];exact H8b (by omega) (H8b (by omega) (H9b h1 (H4b rfl)))
   ·rintro r rfl;exact H4b rfl
def Br (n:Int):Nat:=(max 0 (min n 1000000000)).toNat
def P5 (n:Int):Br n≤1000000000:=by unfold Br;omega
def B3a {n:Int} (h0:0≤n) (h1:n≤1000000000):(Br n:Int)=n:=by unfold Br;omega
def Hha (n:Nat) (h:n≤255):wrap .u8 (n:Int)=(n:Int):=by
 rw[Iwb];omega
def Pja:∀ (f n:Nat) (out:List Int),n<128 ^ (f+1)→f≤4→out.length+f≤1000000000010→
  Tot (λ k=>Hf k out (n:Int)) (λ r=>∃ m:Nat,r.2=(m:Int)∧m≤127∧r.1++[(m:Int)]=out++C4a f n∧r.1.length≤out.length+f):=by
 intro f
 induction f with
 |zero=>
  intro n out hn hf hl;refine Tot.succ ?_;simp only[Hf]
  have:n<128:=by simpa using hn
  exact H9b (by omega) (H4b ⟨n,rfl,by omega,rfl,by simp⟩)
 |succ f ih=>
  intro n out hn hf hl;have hp:=Q7 (f+1+1-1) (by omega);refine Tot.succ ?_;simp only[Hf];refine Hbb (λ h=>?_) (λ h=>?_)
  ·have hn2:n/128<128 ^ (f+1):=by rw[Zx]at hn;omega
   have hn3:n<4398046511104:=by
    have:=Q7 (f+1) (by omega);rw[Zx]at hn;omega
   have e1:Int.tmod (n:Int) 128+128=((n % 128+128:Nat):Int):=by
    rw[Zz (by omega)];omega
   have e2:Int.tdiv (n:Int) 128=((n/128:Nat):Int):=by
    rw[Htb (by omega)];omega
   rw[e1,e2,w64 (n:=((n % 128+128:Nat):Int)) (by omega) (by omega),w64 (n:=((n/128:Nat):Int)) (by omega) (by omega),Hha _ (by omega)];refine Hcb (by simp only[Vd,Vj];omega) ?_;refine(ih (n/128) (out++[((n % 128+128:Nat):Int)]) hn2 (by omega) (by simp only[Ve,Vd,Vj];omega)).mono ?_;rintro r ⟨m,h1,h2,h3,h4⟩;refine⟨m,h1,h2,?_,by simp only[Ve,Vd,Vj]at h4;omega⟩;rw[h3,Vo];congr 1
   conv => { rhs;unfold C4a }
   rw[if_neg (by omega)];rfl
  ·refine H4b ⟨n,rfl,by omega,?_,by show out.length≤out.length+(f+1);omega⟩;unfold C4a;rw[if_pos (by omega)]
def B4a (out:List Int) (n:Int) (hl:out.length≤1000000000000):Tot (λ k=>Fm k out n) (λ r=>r=out++Pr (Br n)):=by
 unfold Fm
 have e:(if (0:Int)<(if (1000000000:Int)<n then 1000000000 else n) then (if (1000000000:Int)<n then 1000000000 else n) else 0)=((Br n:Nat):Int):=by
  unfold Br
  split<;>split<;>omega
 simp only;rw[e];have hc:=P5 n;refine H5b (Pja 4 (Br n) out (by omega) (by omega) (by omega)) ?_;rintro r ⟨m,h1,h2,h3,h4⟩;rw[h1,Hha m (by omega)];refine Hcb (by simp only[Vd,Vj];omega) (H4b h3)
def Pka:∀ (f n:Nat) (out:List Int),n<128 ^ (f+1)→f≤4→out.length+f≤1000000000010→
  Tot (λ k=>De k (n:Int) out) (λ r=>∃ m:Nat,r.1=(m:Int)∧m≤127∧r.2++[(m:Int)]=out++C4a f n∧r.2.length≤out.length+f):=by
 intro f
 induction f with
 |zero=>
  intro n out hn hf hl;refine Tot.succ ?_;simp only[De]
  have:n<128:=by simpa using hn
  exact H9b (by omega) (H4b ⟨n,rfl,by omega,rfl,by simp⟩)
 |succ f ih=>
  intro n out hn hf hl;refine Tot.succ ?_;simp only[De];refine Hbb (λ h=>?_) (λ h=>?_)
  ·have hn2:n/128<128 ^ (f+1):=by rw[Zx]at hn;omega
   have hn3:n<4398046511104:=by
    have:=Q7 (f+1) (by omega);rw[Zx]at hn;omega
   have e1:wrap .i64 ((ofInt (IntKind.bits .i64) ((n % 128:Nat):Int) ||| ofInt (IntKind.bits .i64) 128).toNat)=((n % 128+128:Nat):Int):=by
    have:=N4a (n % 128) 1 1 (by omega) (by omega) (by omega);exact this
   have e2:Int.fdiv (n:Int) (2 ^ (min (toNat 7) (IntKind.bits .i64)))=((n/128:Nat):Int):=by
    have:(2:Int) ^ (min (toNat 7) (IntKind.bits .i64))=128:=by decide
    rw[this,Zza _ (by omega)];omega
   rw[Zya n (by omega),e1,e2,Hha _ (by omega)];refine Hcb (by simp only[Vd,Vj];omega) ?_;refine(ih (n/128) (out++[((n % 128+128:Nat):Int)]) hn2 (by omega) (by simp only[Ve,Vd,Vj];omega)).mono ?_;rintro r ⟨m,h1,h2,h3,h4⟩;refine⟨m,h1,h2,?_,by simp only[Ve,Vd,Vj]at h4;omega⟩;rw[h3,Vo];congr 1
   conv => { rhs;unfold C4a }
   rw[if_neg (by omega)];rfl
  ·refine H4b ⟨n,rfl,by omega,?_,by show out.length≤out.length+(f+1);omega⟩;unfold C4a;rw[if_pos (by omega)]
def Wv (out:List Int) (n:Int) (hl:out.length≤1000000000000):Tot (λ k=>Dv k out n) (λ r=>r=out++Pr (Br n)):=by
 have hc:=P5 n
 have fin:Tot (λ k=>(De k ((Br n:Nat):Int) (([]:List Int)++out)).bind λ r1=>cond (Nat.ble ((length r1.2+length [wrap .u8 r1.1])*1) 140737488355328) (some (r1.2++[wrap .u8 r1.1])) none) (λ r=>r=out++Pr (Br n)):=by
  rw[Wa];refine H5b (Pka 4 (Br n) out (by omega) (by omega) (by omega)) ?_;rintro r ⟨m,h1,h2,h3,h4⟩;rw[h1,Hha m (by omega)];exact Hcb (by simp only[Vd,Vj];omega) (H4b h3)
 unfold Dv;refine Hcb (by simp only[Vj];omega) ?_;refine Hbb (λ h1=>?_) (λ h1=>?_)
 ·refine H9b (by omega) ?_
  have e:((Br n:Nat):Int)=1000000000:=by unfold Br;omega
  rw[e]at fin;exact fin
 ·refine Hbb (λ h2=>?_) (λ h2=>?_)
  ·have e:((Br n:Nat):Int)=0:=by unfold Br;omega
   rw[e]at fin;exact fin
  ·have e:((Br n:Nat):Int)=n:=by unfold Br;omega
   rw[e]at fin;exact fin
def Mz (n:Nat):(Pr n).length≤5∧0<(Pr n).length:=Tba 4 n
def Dda:∀ (f n:Nat),n<128 ^ (f+1)→Aj (C4a f n)
 |0,n,hn=>by
  intro x hx;simp only[C4a,Vu]at hx
  have:n<128:=by simpa using hn
  omega
 |f+1,n,hn=>by
  unfold C4a;split
  ·intro x hx;simp only[Vu]at hx;omega
  ·intro x hx;rcases Vl.1 hx with rfl|hx
   ·omega
   ·exact Dda f (n/128) (by rw[Zx]at hn;omega) x hx
def Pla (n:Nat) (hn:n≤1000000000):Aj (Pr n):=Dda 4 n (by omega)
def Dea (s:ByteArray):Aj (bytesOf s):=by
 intro x hx;unfold bytesOf at hx;obtain⟨b,_,rfl⟩:=Zc.1 hx;have:=b.toNat_lt;omega
def Qs (s:ByteArray):(bytesOf s).length=s.size:=by
 unfold bytesOf;rw[Wh];exact Yx
def Us (s:ByteArray):M9 (bytesOf s)=s:=by
 unfold M9 bytesOf;rw[Idb]
 have:(λ n:Int=>UInt8.ofNat n.toNat) ∘ (λ b:UInt8=>(b.toNat:Int))=id:=by
  funext b;show UInt8.ofNat ((b.toNat:Int)).toNat=b;rw[Vc];exact UInt8.ofNat_toNat
 rw[this,List.map_id]
def Ov {l:List Int} (h:Aj l):bytesOf (M9 l)=l:=by
 unfold M9 bytesOf;show List.map _ (List.map _ l)=l;rw[Idb]
 have:∀ x∈l,((λ b:UInt8=>(b.toNat:Int)) ∘ (λ n:Int=>UInt8.ofNat n.toNat)) x=x:=by
  intro x hx;have hb:=h x hx;show ((UInt8.ofNat x.toNat).toNat:Int)=x;rw[UInt8.toNat_ofNat'];omega
 exact(Hpb this).trans (List.map_id' l)
def O3 (l:List Int):(M9 l).size=l.length:=by
 unfold M9;show (List.map _ l).toArray.size=l.length;simp
def txt (s:ByteArray):List Int:=Pr (Br (s.size:Int))++bytesOf s
def Xla (out:List Int) (s:ByteArray) (hl:out.length≤1000000000000) (hs:s.size≤1000000000000):Tot (λ k=>Jr k out s) (λ r=>r=out++txt s):=by
 unfold Jr txt;refine Hfb (B4a out _ hl) ?_;have:=(Mz (Br (s.size:Int))).1;refine Hcb (by simp only[Ve];omega) (H4b ?_);rw[Vo]
def N5a (out:List Int) (s:ByteArray) (hl:out.length≤1000000000000) (hs:s.size≤1000000000000):Tot (λ k=>Jv k out s) (λ r=>r=out++txt s):=by
 unfold Jv txt;refine Hfb (Wv out _ hl) ?_;have:=(Mz (Br (s.size:Int))).1;refine Hcb (by simp only[Ve];omega) (H4b ?_);rw[Vo]
def N6a (l:List Int) (p:Nat):Option (ByteArray×Nat):=match Pt l p with
 |some (n,q)=>if q+n≤l.length then some (M9 ((l.drop q).take n),q+n) else none
 |none=>none
def Dmb (l:List Int) (p:Int):ByteArray×Int×Bool:=if p<0 then ((⟨#[]⟩:ByteArray),0,false) else match N6a l p.toNat with
 |some (s,q)=>(s,(q:Int),true)
 |none=>((⟨#[]⟩:ByteArray),0,false)
def Dfa (l:List Int) (hb:Aj l) (p:Int):Koa l p=(0,0,false)∨∃ n q,0≤p∧Pt l p.toNat=some (n,q)∧Koa l p=((n:Int),(q:Int),true)∧n≤1000000000∧q≤l.length:=by
 unfold Koa
 by_cases h:p<0
 ·rw[if_pos h];exact .inl rfl
 ·rw[if_neg h]
  cases hg:Pt l p.toNat with
  |none=>exact .inl rfl
  |some nq=>
   obtain⟨n,q⟩:=nq;have:=Tn hb hg;exact .inr ⟨n,q,by omega,rfl,rfl,this.2.1,this.2.2.2⟩
def N7a (l:List Int) (hb:Aj l) (hl:l.length≤1000000000000) (p:Int) (hp:p≤1000000000000):Tot (λ k=>Jq k l p) (λ r=>r=Dmb l p):=by
 unfold Jq;refine Hfb (Tea l hb hl p hp) ?_;unfold Dmb N6a;rcases Dfa l hb p with h|⟨n,q,h0,hg,h,hn,hq⟩
 ·rw[h];refine H7b rfl (H4b ?_);unfold Koa at h;split
  ·rfl
  ·rename_i h0;rw[if_neg h0]at h
   cases hg:Pt l p.toNat with
   |none=>rfl
   |some nq=>rw[hg]at h;simp at h
 ·rw[h];refine H6b rfl ?_;rw[if_neg (by omega),hg];simp only;rw[w64 (n:=(l.length:Int)-(q:Int)) (by omega) (by omega),w64 (n:=(q:Int)+(n:Int)) (by omega) (by omega)];refine Hbb (λ hgt=>?_) (λ hgt=>?_)
  ·rw[if_neg (by omega)];exact H4b rfl
  ·rw[if_pos (by omega)];refine H8b (by omega) (H8b (by omega) (H8b (by omega) (H4b ?_)));rw[show toNat ((q:Int)+(n:Int))=q+n by omega,Vc,Ibb,show q+n-q=n by omega];simp only[Vy,true_and,and_true]
   push_cast
   rfl
def Eya (l:List Int) (hb:Aj l) (hl:l.length≤1000000000000) (p:Int):Tot (λ k=>Ju k l p) (λ r=>r=Dmb l p):=by
 unfold Ju;refine Hfb (Wu l hb hl p) ?_;unfold Dmb N6a;rcases Dfa l hb p with h|⟨n,q,h0,hg,h,hn,hq⟩
 ·rw[h];refine H7b rfl (H4b ?_);unfold Koa at h;split
  ·rfl
  ·rename_i h0;rw[if_neg h0]at h
   cases hg:Pt l p.toNat with
   |none=>rfl
   |some nq=>rw[hg]at h;simp at h
 ·rw[h];refine H6b rfl ?_;rw[if_neg (by omega),hg];simp only;rw[w64 (n:=(l.length:Int)-(q:Int)) (by omega) (by omega),w64 (n:=(q:Int)+(n:Int)) (by omega) (by omega)];refine Hbb (λ hgt=>?_) (λ hgt=>?_)
  ·rw[if_neg (by omega)];exact H4b rfl
  ·rw[if_pos (by omega)];refine H8b (by omega) (H8b (by omega) (H8b (by omega) (H4b ?_)));rw[show toNat ((q:Int)+(n:Int))=q+n by omega,Vc,Ibb,show q+n-q=n by omega];simp only[Vy,true_and,and_true]
   push_cast
   rfl
def Kpa {l:List Int} {p q:Nat} {s:ByteArray} (hb:Aj l) (h:N6a l p=some (s,q)):l.drop p=txt s++l.drop q∧s.size≤1000000000∧p<q∧q≤l.length:=by
 unfold N6a at h;split at h
 ·rename_i n q0 hg;obtain⟨h1,h2,h3,h4⟩:=Tn hb hg;split at h
  ·rename_i hle;simp only[Vg,Vy]at h;obtain⟨rfl,rfl⟩:=h
   have hlen:((l.drop q0).take n).length=n:=by rw[Vt,Wc];omega
   have hbb:Aj ((l.drop q0).take n):=λ x hx=>hb x (Zk (Hnb hx));refine⟨?_,by rw[O3,hlen];exact h2,by omega,by omega⟩;unfold txt;rw[O3,hlen,Ov hbb,h1,show Br (n:Int)=n by unfold Br;omega,Vo];congr 1;rw[← Yo,Wo]
  ·cases h
 ·cases h
def Xma (pre:List Int) (s:ByteArray) (rest:List Int) (hs:s.size≤1000000000):N6a (pre++(txt s++rest)) pre.length=some (s,pre.length+(txt s).length):=by
 unfold N6a txt
 have hc:Br (s.size:Int)=s.size:=by unfold Br;omega
 rw[hc,Vo,N3a pre s.size _ hs];simp only;rw[if_pos (by simp only[Ve,Qs];omega)]
 have e:(pre++(Pr s.size++(bytesOf s++rest))).drop (pre.length+(Pr s.size).length)=bytesOf s++rest:=by
  rw[← Vo,← Ve,Zi]
 rw[e,Jmb (Qs s),Us];simp only[Ve,Qs,Vg,Vy,true_and];omega

def Caa (b:Bool):Int:=bif b then 1 else 0
def C6b (b:Bool):Oa b=some (Caa b):=by cases b<;>rfl
def N8a (b:Bool):Ln b=some (Caa b):=by cases b<;>rfl
def Qka (s:Stp):List Int:=Pr (Br s.1)++(Pr (Br s.2.1)++Pr (Br s.2.2))
def Eza (s:Stp):(Qka s).length≤15:=by
 unfold Qka;have h1:=(Mz (Br s.1)).1;have h2:=(Mz (Br s.2.1)).1;have h3:=(Mz (Br s.2.2)).1;simp only[Ve];omega
def Pma (out:List Int) (s:Stp) (b:Bool) (hl:out.length≤999999999900):Tot (λ k=>Il k out s b) (λ r=>r=out++(Qka s++Pr (Br (Caa b)))):=by
 have h1:=(Mz (Br s.1)).1;have h2:=(Mz (Br s.2.1)).1;have h3:=(Mz (Br s.2.2)).1;unfold Il Qka;refine Hfb (B4a out s.1 (by omega)) ?_;refine Hfb (B4a _ s.2.1 (by simp only[Ve];omega)) ?_;refine Hfb (B4a _ s.2.2 (by simp only[Ve];omega)) ?_;refine Hfb (Hgb (Q:=λ y=>y=Caa b) (C6b b) rfl) ?_;refine Hfb (B4a _ (Caa b) (by simp only[Ve];omega)) ?_;exact H4b (by simp only[Vo])
def Dga (out:List Int) (s:Stp) (hl:out.length≤999999999900):Tot (λ k=>Jw k out s) (λ r=>r=out++Qka s):=by
 have h1:=(Mz (Br s.1)).1;have h2:=(Mz (Br s.2.1)).1;unfold Jw Qka;refine Hfb (Wv out s.1 (by omega)) ?_;refine Hfb (Wv _ s.2.1 (by simp only[Ve];omega)) ?_;refine Hfb (Wv _ s.2.2 (by simp only[Ve];omega)) ?_;exact H4b (by simp only[Vo])
def B5a {s:ByteArray} (h:B1 s=true):1≤s.size∧s.size≤20:=by
 unfold B1 at h;rw[Va,Et]at h;omega
def Dha {r:Row} (h:Nq r=true):B1 r.1=true:=by
 unfold Nq at h;rw[Va]at h;exact h.1
def Tfa (s:ByteArray):(txt s).length≤5+s.size:=by
 have h1:=(Mz (Br (s.size:Int))).1;unfold txt;simp only[Ve,Qs];omega

def Z0 (l:List Int) (p:Nat):Koa l (p:Int)=match Pt l p with
 |some (n,q)=>((n:Int),(q:Int),true)
 |none=>(0,0,false):=by
 unfold Koa;rw[if_neg (by omega),Vc]
 all_goals cases Pt l p<;>rfl
def N9a (l:List Int) (p:Nat):Dmb l (p:Int)=match N6a l p with
 |some (s,q)=>(s,(q:Int),true)
 |none=>((⟨#[]⟩:ByteArray),0,false):=by
 unfold Dmb;rw[if_neg (by omega),Vc]
 all_goals cases N6a l p<;>rfl
def Cba (l:List Int) (hb:Aj l) (hl:l.length≤1000000000000) (p:Nat) (hp:p≤l.length) (bad:Bool):
  Tot (λ k=>D7 k (l,(p:Int),bad)) (λ r=>(bad=false∧∃ n q:Nat,Pt l p=some (n,q)∧q≤l.length∧r=((n:Int),l,(q:Int),false))∨((bad=true∨Pt l p=none)∧r=(0,l,(p:Int),true))):=by
 unfold D7;refine Hfb (Tea l hb hl (p:Int) (by omega)) ?_;refine Hab (λ h=>H4b (.inr ⟨.inl h,rfl⟩)) (λ h=>?_);rw[Z0]
 cases hg:Pt l p with
 |none=>exact H7b rfl (H4b (.inr ⟨.inr rfl,rfl⟩))
 |some nq=>
  obtain⟨n,q⟩:=nq;simp only at h;subst h;exact H6b rfl (H4b (.inl ⟨rfl,n,q,rfl,(Tn hb hg).2.2.2,rfl⟩))
def G8b (l:List Int) (hb:Aj l) (hl:l.length≤1000000000000) (p:Nat) (hp:p≤l.length):
  Tot (λ k=>Cz k (l,(p:Int),false)) (λ r=>(∃ (s:ByteArray) (q:Nat),N6a l p=some (s,q)∧q≤l.length∧r=(s,l,(q:Int),false))∨(N6a l p=none∧r=((⟨#[]⟩:ByteArray),l,(p:Int),true))):=by
 unfold Cz;refine Hfb (N7a l hb hl (p:Int) (by omega)) ?_;refine H6b rfl ?_;rw[N9a]
 cases hg:N6a l p with
 |none=>exact H7b rfl (H4b (.inr ⟨rfl,rfl⟩))
 |some nq=>
  obtain⟨n,q⟩:=nq;exact H6b rfl (H4b (.inl ⟨n,q,rfl,(Kpa hb hg).2.2.2,rfl⟩))
def Rd (l:List Int) (p:Nat):Option ((Stp×Bool)×Nat):=
 (Pt l p).bind λ b=>(Pt l b.2).bind λ c=>(Pt l c.2).bind λ d=>(Pt l d.2).bind λ e=>bif decide (1<e.1) then none else
  some ((((b.1:Int),(c.1:Int),(d.1:Int)),(e.1:Int)==1),e.2)
def G9b (l:List Int) (hb:Aj l) (hl:l.length≤1000000000000) (p:Nat) (hp:p≤l.length) (bad:Bool):
  Tot (λ k=>Dr k (l,(p:Int),bad)) (λ r=>(bad=false∧∃ (x:Stp×Bool) (q:Nat),Rd l p=some (x,q)∧q≤l.length∧r=(x.1,x.2,l,(q:Int),false))∨((bad=true∨Rd l p=none)∧∃ s b,∃ q:Nat,q≤l.length∧r=(s,b,l,(q:Int),true))):=by
 unfold Dr
 have nx:∀ {o:Option (Nat×Nat)} {f:Nat×Nat→Option ((Stp×Bool)×Nat)},o=none→o.bind f=none:=by
  intro o f h;rw[h];rfl
 refine H5b (Cba l hb hl p hp bad) ?_;rintro r (⟨h0,n1,p1,h1,l1,rfl⟩|⟨h1,rfl⟩)
 ·simp only;refine H5b (Cba l hb hl p1 l1 false) ?_;rintro r (⟨_,n2,p2,h2,l2,rfl⟩|⟨h2,rfl⟩)
  ·simp only;refine H5b (Cba l hb hl p2 l2 false) ?_;rintro r (⟨_,n3,p3,h3,l3,rfl⟩|⟨h3,rfl⟩)
   ·simp only;refine H5b (Cba l hb hl p3 l3 false) ?_;rintro r (⟨_,n4,p4,h4,l4,rfl⟩|⟨h4,rfl⟩)
    ·simp only;refine H6b rfl (H4b ?_)
     have e:Rd l p=bif decide (1<n4) then none else some ((((n1:Int),(n2:Int),(n3:Int)),(n4:Int)==1),p4):=by
      unfold Rd;simp only[h1,h2,h3,h4,Vn]
     cases hd:decide (1<n4) with
     |true=>
      rw[hd,cond_true]at e;refine .inr ⟨.inr e,((n1:Int),(n2:Int),(n3:Int)),((n4:Int)==1),p4,l4,?_⟩;have:decide ((n4:Int) > 1)=true:=decide_eq_true (by have:=of_decide_eq_true hd;omega);rw[this]
     |false=>
      rw[hd,cond_false]at e;refine .inl ⟨h0,_,p4,e,l4,?_⟩;have:decide ((n4:Int) > 1)=false:=decide_eq_false (by have:=of_decide_eq_false hd;omega);rw[this]
    ·refine H7b rfl (H4b (.inr ⟨.inr ?_,_,_,p3,l3,rfl⟩));have h4':=h4.resolve_left (by simp);unfold Rd;simp only[h1,h2,h3,h4',Vn,Hwb]
   ·simp only;refine H5b (Cba l hb hl p2 l2 true) ?_;rintro r (⟨hh,_⟩|⟨_,rfl⟩)
    ·cases hh
    ·refine H7b rfl (H4b (.inr ⟨.inr ?_,_,_,p2,l2,rfl⟩));have h3':=h3.resolve_left (by simp);unfold Rd;simp only[h1,h2,h3',Vn,Hwb]
  ·simp only;refine H5b (Cba l hb hl p1 l1 true) ?_;rintro r (⟨hh,_⟩|⟨_,rfl⟩)
   ·cases hh
   ·refine H5b (Cba l hb hl p1 l1 true) ?_;rintro r (⟨hh,_⟩|⟨_,rfl⟩)
    ·cases hh
    ·refine H7b rfl (H4b (.inr ⟨.inr ?_,_,_,p1,l1,rfl⟩));have h2':=h2.resolve_left (by simp);unfold Rd;simp only[h1,h2',Vn,Hwb]
 ·simp only;refine H5b (Cba l hb hl p hp true) ?_;rintro r (⟨hh,_⟩|⟨_,rfl⟩)
  ·cases hh
  ·refine H5b (Cba l hb hl p hp true) ?_;rintro r (⟨hh,_⟩|⟨_,rfl⟩)
   ·cases hh
   ·refine H5b (Cba l hb hl p hp true) ?_;rintro r (⟨hh,_⟩|⟨_,rfl⟩)
    ·cases hh
    ·refine H7b rfl (H4b (.inr ⟨?_,_,_,p,hp,rfl⟩));rcases h1 with h1|h1
     ·exact .inl h1
     ·refine .inr ?_;unfold Rd;rw[h1];rfl
def C7b (l:List Int) (hb:Aj l) (hl:l.length≤1000000000000) (p:Int):
  Tot (λ k=>G3 k l p) (λ r=>(∃ n1 p1 n2 p2 n3 p3,0≤p∧Pt l p.toNat=some (n1,p1)∧Pt l p1=some (n2,p2)∧Pt l p2=some (n3,p3)∧r=(((n1:Int),(n2:Int),(n3:Int)),(p3:Int),true))∨(((Pt l p.toNat).bind λ a=>(Pt l a.2).bind λ b=>Pt l b.2)=none∨p<0)∧r.2.2=false):=by
 unfold G3;refine Hfb (Wu l hb hl p) ?_;refine Hfb (Wu l hb hl _) ?_;refine Hfb (Wu l hb hl _) ?_
 by_cases hp:p<0
 ·have:(Koa l p).2.2=false:=by unfold Koa;rw[if_pos hp]
  exact H6b this (H4b (.inr ⟨.inr hp,rfl⟩))
 ·have e1:Koa l p=match Pt l p.toNat with|some (n,q)=>((n:Int),(q:Int),true)|none=>(0,0,false):=by
   unfold Koa;rw[if_neg hp];all_goals cases Pt l p.toNat<;>rfl
  cases h1:Pt l p.toNat with
  |none=>
   rw[h1]at e1;simp only[e1];exact H6b rfl (H4b (.inr ⟨.inl rfl,rfl⟩))
  |some a=>
   obtain⟨n1,p1⟩:=a;rw[h1]at e1;simp only[e1,Z0,Vn];refine H7b rfl ?_
   cases h2:Pt l p1 with
   |none=>exact H6b rfl (H4b (.inr ⟨.inl rfl,rfl⟩))
   |some b=>
    obtain⟨n2,p2⟩:=b;refine H7b rfl ?_;simp only[Z0,Vn]
    cases h3:Pt l p2 with
    |none=>exact H4b (.inr ⟨.inl rfl,rfl⟩)
    |some c=>
     obtain⟨n3,p3⟩:=c;exact H4b (.inl ⟨n1,p1,n2,p2,n3,p3,by omega,rfl,h2,h3,rfl⟩)
def Tga {l:List Int} {p:Nat} (h:((Pt l p).bind λ a=>(Pt l a.2).bind λ b=>Pt l b.2)=none):Rd l p=none:=by
 unfold Rd
 cases h1:Pt l p with
 |none=>rfl
 |some a=>
  rw[h1]at h;simp only[Vn]at h ⊢
  cases h2:Pt l a.2 with
  |none=>rfl
  |some b=>
   rw[h2]at h;simp only[Vn]at h ⊢;rw[h];rfl
def Hia (a b:List Int) (hf:a.length≤1000000000000) (hl:a.length=b.length):∀ (n i:Nat),a.length-i=n→i≤a.length→
  Tot (λ k=>E3 k a b (i:Int)) (λ r=>(r = .inr ()∧a.drop i=b.drop i)∨(r = .inl false∧a.drop i≠b.drop i)):=by
 intro n
 induction n with
 |zero=>
  intro i hd hi;refine Tot.succ ?_;simp only[E3];refine H9b (by omega) (H4b (.inl ⟨rfl,?_⟩));rw[Wj (by omega),Wj (by omega)]
 |succ n ih=>
  intro i hd hi
  have h1:i<a.length:=by omega
  refine Tot.succ ?_;simp only[E3];refine H8b (by omega) (H8b (by omega) (H8b (by omega) (H8b (by omega) (H8b (by omega) ?_))));rw[show toNat (i:Int)=i from Vc i,w64 (n:=(i:Int)+1) (by omega) (by omega),Ur h1,Ur (l:=b) (p:=i) (by omega)];refine Hab (λ h=>H4b (.inr ⟨rfl,?_⟩)) (λ h=>?_)
  ·intro e
   injection e with e _
   rw[e]at h;simp at h
  ·have e:a.getD i 0=b.getD i 0:=by simpa using h
   refine(ih (i+1) (by omega) (by omega)).mono ?_;rintro r (⟨rfl,h⟩|⟨rfl,h⟩)
   ·exact .inl ⟨rfl,by rw[e,h]⟩
   ·refine .inr ⟨rfl,λ q=>h ?_⟩;injection q
def F0a (a b:List Int) (hf:a.length≤1000000000000):Tot (λ k=>Gv k a b) (λ r=>r=decide (a=b)):=by
 unfold Gv;refine Hab (λ h=>H4b ?_) (λ h=>?_)
 ·have:a≠b:=λ e=>by subst e;simp at h
  rw[decide_eq_false this]
 ·have hl:a.length=b.length:=by
   have:(a.length:Int)=b.length:=by simpa using h
   omega
  refine H5b (Hia a b hf hl _ 0 rfl (Vq _)) ?_;rintro r (⟨rfl,h⟩|⟨rfl,h⟩)
  ·rw[Wn,Wn]at h;rw[decide_eq_true h];exact H4b rfl
  ·rw[Wn,Wn]at h;rw[decide_eq_false h];exact H4b rfl

def Mp:∀ s∈Nj,Lc s∧B1 s=true:=by
 intro s hs;simp only[Nj,Vl,Zq,or_false]at hs
 rcases hs with rfl|rfl|rfl|rfl|rfl|rfl<;>exact⟨by unfold Lc;decide,by decide⟩
def Xna {x:Row} (h:C5b x):Nq x=true:=by
 obtain⟨h1,⟨t0,t1,s0,s1,n0,n1⟩,h3,h4,h5⟩:=h;unfold Nq Gz;rw[(Mp x.1 h1).2,Et.2 ⟨t0,t1⟩,Et.2 ⟨s0,s1⟩,Et.2 ⟨n0,n1⟩,Et.2 ⟨h3,by omega⟩]
 cases hd:x.2.2.1 with
 |false=>rfl
 |true=>rw[h5 hd];rfl
def Hja (c:Cur) (hc:Dc c):Tot (λ k=>L6 k c) (λ r=>Dc r.2∧r.1.length≤6∧Qr r.1):=by
 unfold L6;refine H5b (Aza c hc) (λ r hr=>?_);obtain⟨k1,hr1,hl⟩:=hr;have hsh:Qr r.1:=λ q hq=>(Mp q.1 (hr1.2 q hq).1).1;obtain⟨x,c',e,_,_,_,k2⟩:=B0 r.2 k1 8 (by decide);refine Hfb (Hgb (Q:=λ r=>r=(x,c')) e rfl) ?_;refine Hab (λ _=>?_) (λ _=>?_)
 ·refine H5b (D8a c' k2) (λ z hz=>?_);refine Hcb (by simp only[Vd,Vj];omega) (H4b ⟨hz.2,?_,?_⟩)
  ·show (r.1++[z.1]).length≤6;simp only[Ve,Vd,Vj];omega
  ·intro q hq;rcases Vp.1 hq with hq|hq
   ·exact hsh q hq
   ·simp only[Vu]at hq;subst hq;exact(Mp _ hz.1.1).1
 ·refine Hab (λ _=>?_) (λ _=>H4b ⟨k2,by show r.1.length≤6;omega,hsh⟩);refine Hbb (λ h=>?_) (λ h=>H4b ⟨k2,by show r.1.length≤6;omega,hsh⟩);obtain⟨v,c3,e3,_,k3⟩:=M8 c' k2 [(-1),201,200] (by decide) (by decide);refine Hfb (Hgb (Q:=λ r=>r=(v,c3)) e3 rfl) ?_;refine H8b (by omega) (H4b ⟨k3,?_,?_⟩)
  ·show (List.set r.1 _ _).length≤6;rw[Vw];omega
  ·intro q hq;rcases Yc hq with hq|rfl
   ·exact hsh q hq
   ·have hpos:toNat 0<r.1.length:=by show 0<_;omega
    have h1:Lc (r.1.getD (toNat 0) Mo).1:=hsh _ (A4 (d:=Mo) hpos);exact h1

abbrev Nmd:=ByteArray×List Int
abbrev Dsk:=List Nmd×List Nmd
def Ea:Nmd:=((⟨#[]⟩:ByteArray),[])
def F1a (l:List Nmd):Prop:=l.length≤1000000000000∧∀ x∈l,x.2.length≤1000000000000
def Xoa (d:Dsk):Prop:=F1a d.1∧F1a d.2
def Nr (l:List Int) (h:l.length≤1000000000000):Av l=some l:=by
 unfold Av;rw[show Nat.ble ((length ([]:List Int)+length l)*1) 140737488355328=true from Zj (by simp only[Vj];omega)];rfl
def Xv (l:List Nmd) (hf:F1a l):∀ (n i:Nat) (acc:List Nmd),l.length-i=n→i≤l.length→acc.length≤i→
  Tot (λ k=>E4 k acc l (l.length:Int) (i:Int)) (λ r=>r=acc++l.drop i):=by
 obtain⟨h1,h2⟩:=hf;intro n
 induction n with
 |zero=>
  intro i acc hd hi ha;refine Tot.succ ?_;simp only[E4];refine H9b (by omega) (H4b ?_);rw[Wj (by omega),Wp]
 |succ n ih=>
  intro i acc hd hi ha
  have hlt:i<l.length:=by omega
  refine Tot.succ ?_;simp only[E4];refine H8b (by omega) (H8b (by omega) (H8b (by omega) ?_));rw[show toNat (i:Int)=i from Vc i,w64 (n:=(i:Int)+1) (by omega) (by omega),Ah (d:=Ea) hlt];have e0:l.getD i ((⟨#[]⟩:ByteArray),([]:List Int))=l.getD i Ea:=rfl;rw[e0];have hb:=h2 _ (A4 (d:=Ea) hlt);refine Hfb (Hgb (Q:=λ r=>r=(l.getD i Ea).2) (Nr _ hb) rfl) ?_;refine Hcb (by simp only[Vd,Vj];omega) ?_;refine(ih (i+1) (acc++[l.getD i Ea]) (by omega) (by omega) (by simp only[Ve,Vd,Vj];omega)).mono ?_;rintro r rfl;rw[Vo];rfl
def Ut (l:List Nmd) (hf:F1a l):Tot (λ k=>Ce k l) (λ r=>r=l):=by
 unfold Ce;refine H5b (Xv l hf _ 0 [] rfl (Vq _) (Vq _)) ?_;intro r hr;rw[Wn,Wa]at hr;exact H4b hr
def K8 (d:Dsk) (hf:Xoa d):Tot (λ k=>A6 k d) (λ r=>r=d):=by
 unfold A6;refine Hfb (Ut d.1 hf.1) ?_;refine Hfb (Ut d.2 hf.2) ?_;exact H4b rfl
def fnd (l:List Nmd) (s:ByteArray):Option Nat:=l.findIdx? (λ x=>teq x.1 s)
def Hka (l:List Nmd) (s:ByteArray):Int:=match fnd l s with
 |some i=>(i:Int)
 |none => -1
def Tha (l:List Nmd) (s:ByteArray) (hf:l.length≤1000000000000):∀ (n i:Nat),l.length-i=n→i≤l.length→
  Tot (λ k=>Lu k s l (l.length:Int) (i:Int)) (λ r=>r=match fnd (l.drop i) s with|some j => .inl ((i+j:Nat):Int)|none => .inr ()):=by
 intro n
 induction n with
 |zero=>
  intro i hd hi;refine Tot.succ ?_;simp only[Lu];refine H9b (by omega) (H4b ?_);rw[Wj (by omega)];rfl
 |succ n ih=>
  intro i hd hi
  have hlt:i<l.length:=by omega
  refine Tot.succ ?_;simp only[Lu];refine H8b (by omega) (H8b (by omega) (H8b (by omega) ?_));rw[show toNat (i:Int)=i from Vc i,w64 (n:=(i:Int)+1) (by omega) (by omega),Ah (d:=Ea) hlt];have e0:l.getD i ((⟨#[]⟩:ByteArray),([]:List Int))=l.getD i Ea:=rfl;rw[e0]
  have e1:fnd (l.getD i Ea::l.drop (i+1)) s=if teq (l.getD i Ea).1 s then some 0 else (fnd (l.drop (i+1)) s).map (· + 1):=by
   unfold fnd;rw[Ixb]
  rw[e1];refine Hab (λ h=>?_) (λ h=>?_)
  ·have h':teq (l.getD i Ea).1 s=true:=h;rw[if_pos h'];exact H4b rfl
  ·have h':¬ (teq (l.getD i Ea).1 s=true):=by
    have:teq (l.getD i Ea).1 s=false:=h;rw[this];simp
   rw[if_neg h'];refine(ih (i+1) (by omega) (by omega)).mono ?_;rintro r rfl
   cases fnd (l.drop (i+1)) s with
   |none=>rfl
   |some j=>
    show Sum.inl _=Sum.inl _;rw[show i+1+j=i+(j+1) by omega]
def Naa (l:List Nmd) (s:ByteArray) (hf:l.length≤1000000000000):Tot (λ k=>Ll k l s) (λ r=>r=Hka l s):=by
 unfold Ll Hka;refine Hfb (Tha l s hf _ 0 rfl (Vq _)) ?_;rw[Wn]
 cases fnd l s with
 |none=>exact H4b rfl
 |some j=>
  refine H4b ?_;rw[Wl]
def P6 {l:List Nmd} {s:ByteArray} {i:Nat} (h:fnd l s=some i):i<l.length∧(l.getD i Ea).1=s:=by
 unfold fnd at h;rw[Iyb]at h;obtain⟨h1,h2,_⟩:=h;refine⟨h1,?_⟩;rw[Vb,Vk h1];exact Km.1 h2
def del (l:List Nmd) (s:ByteArray):List Nmd:=match fnd l s with
 |some i=>l.take i++l.drop (i+1)
 |none=>l
def Uu (l:List Nmd) (s:ByteArray) (hf:l.length≤1000000000000):Tot (λ k=>Hv k l s) (λ r=>r=del l s):=by
 unfold Hv del;refine Hfb (Naa l s hf) ?_;unfold Hka
 cases h:fnd l s with
 |none=>exact H8b (by decide) (H4b rfl)
 |some i=>
  have hl:=(P6 h).1;dsimp only;refine H9b (by omega) (H8b (by omega) (H8b (by omega) ?_));rw[w64 (n:=(i:Int)+1) (by omega) (by omega),show toNat (i:Int)=i from Int.toNat_natCast i,show toNat ((i:Int)+1)=i+1 by omega];refine Hcb (by simp only[List.length_nil,List.length_take];omega) ?_;refine H8b (by omega) (H8b (by omega) (Hcb (by simp only[List.length_append,List.length_nil,List.length_take,List.length_drop];omega) (H4b rfl)))

def nOk (x:Nmd):Bool:=B1 x.1&&!(decide ((x.2.length:Int) > 400))
def chn:Option ByteArray→List Nmd→Bool
 |_,[]=>true
 |none,r::l=>nOk r&&chn (some r.1) l
 |some q,r::l=>nOk r&&(tlt q r.1&&chn (some r.1) l)
def Jp (l:List Nmd):Bool:=chn none l&&decide ((l.length:Int)≤60)
def Al (d:Dsk):Bool:=Jp d.1&&Jp d.2
def P7 (l:List Nmd):Prop:=∀ x∈l,Lc x.1
def B6a (d:Dsk):Prop:=P7 d.1∧P7 d.2
def Xw (l:List Nmd):Nat→Option ByteArray
 |0=>none
 |i+1=>some (l.getD i Ea).1
def Nba (l:List Nmd) (i:Nat) (h:i<l.length):chn (Xw l i) (l.drop i)=(nOk (l.getD i Ea)&&(bif decide (0<i) then tlt (l.getD (i-1) Ea).1 (l.getD i Ea).1 else true)&&chn (Xw l (i+1)) (l.drop (i+1))):=by
 rw[Ah (d:=Ea) h]
 cases i with
 |zero=>simp[Xw,chn]
 |succ i=>simp[Xw,chn,Khb]
def Hla (l:List Nmd) (hf:l.length≤1000000000000) (hs:P7 l):∀ (n i:Nat),l.length-i=n→i≤l.length→
  Tot (λ k=>F6 k l l (l.length:Int) (i:Int)) (λ r=>r=bif chn (Xw l i) (l.drop i) then .inr l else .inl false):=by
 intro n
 induction n with
 |zero=>
  intro i hn hi;refine Tot.succ ?_;simp only[F6];refine H9b (by omega) (H4b ?_);rw[Wj (by omega)]
  cases Xw l i<;>rfl
 |succ n ih=>
  intro i hn hi
  have hlt:i<l.length:=by omega
  refine Tot.succ ?_;simp only[F6];refine H8b (by omega) (H8b (by omega) (H8b (by omega) ?_));rw[show toNat (i:Int)=i from Vc i,w64 (n:=(i:Int)+1) (by omega) (by omega),Nba l i hlt];have h1:=ih (i+1) (by omega) (by omega)
  have e:(((i+1:Nat)):Int)=(i:Int)+1:=by omega
  rw[e]at h1;have e0:l.getD i ((⟨#[]⟩:ByteArray),([]:List Int))=l.getD i Ea:=rfl;rw[e0];refine Hfb (Qq (l.getD i Ea).1 (hs _ (A4 hlt))) ?_;cases hb:B1 (l.getD i Ea).1
  ·exact H7b rfl (H4b (by rw[show nOk (l.getD i Ea)=false by unfold nOk;rw[hb];rfl];rfl))
  refine H6b rfl ?_;refine Hbb (λ h4=>H4b (by rw[show nOk (l.getD i Ea)=false by unfold nOk;rw[decide_eq_true h4,hb];rfl];rfl)) (λ h4=>?_)
  have hnk:nOk (l.getD i Ea)=true:=by unfold nOk;rw[hb,decide_eq_false h4];rfl
  rw[hnk,Vz];refine Hbb (λ h0=>?_) (λ h0=>?_)
  ·rw[w64 (n:=(i:Int)-1) (by omega) (by omega)];refine H8b (by omega) (H8b (by omega) ?_);rw[show toNat ((i:Int)-1)=i-1 by omega,decide_eq_true (show 0<i by omega),cond_true];refine Hab (λ ht=>?_) (λ ht=>?_)
   ·have ht':(!(tlt (l.getD (i-1) Ea).1 (l.getD i Ea).1))=true:=ht;rw[Vv]at ht';exact H4b (by rw[ht'];rfl)
   ·have ht':(!(tlt (l.getD (i-1) Ea).1 (l.getD i Ea).1))=false:=ht;rw[Wi]at ht';rw[ht',Vz];exact h1
  ·rw[decide_eq_false (show ¬ 0<i by omega),cond_false,Vz];exact h1
def Hma (l:List Nmd) (hf:l.length≤1000000000000) (hs:P7 l):∀ (n i:Nat),l.length-i=n→i≤l.length→
  Tot (λ k=>Gr k l (i:Int)) (λ r=>r=bif chn (Xw l i) (l.drop i) then .inr l else .inl false):=by
 intro n
 induction n with
 |zero=>
  intro i hn hi;refine Tot.succ ?_;simp only[Gr];refine H9b (by omega) (H4b ?_);rw[Wj (by omega)]
  cases Xw l i<;>rfl
 |succ n ih=>
  intro i hn hi
  have hlt:i<l.length:=by omega
  refine Tot.succ ?_;simp only[Gr];refine H8b (by omega) (H8b (by omega) (H8b (by omega) ?_));rw[show toNat (i:Int)=i from Vc i,w64 (n:=(i:Int)+1) (by omega) (by omega),Nba l i hlt];have h1:=ih (i+1) (by omega) (by omega)
  have e:(((i+1:Nat)):Int)=(i:Int)+1:=by omega
  rw[e]at h1;have e0:l.getD i ((⟨#[]⟩:ByteArray),([]:List Int))=l.getD i Ea:=rfl;rw[e0];refine Hfb (Pk (l.getD i Ea).1 (hs _ (A4 hlt))) ?_;cases hb:B1 (l.getD i Ea).1
  ·exact H7b rfl (H4b (by rw[show nOk (l.getD i Ea)=false by unfold nOk;rw[hb];rfl];rfl))
  refine H6b rfl (H8b (by omega) (H8b (by omega) ?_));refine Hbb (λ h4=>H4b (by rw[show nOk (l.getD i Ea)=false by unfold nOk;rw[decide_eq_true h4,hb];rfl];rfl)) (λ h4=>?_)
  have hnk:nOk (l.getD i Ea)=true:=by unfold nOk;rw[hb,decide_eq_false h4];rfl
  rw[hnk,Vz];refine Hbb (λ h0=>?_) (λ h0=>?_)
  ·rw[w64 (n:=(i:Int)-1) (by omega) (by omega)];refine H8b (by omega) (H8b (by omega) (H8b (by omega) (H8b (by omega) ?_)));rw[show toNat ((i:Int)-1)=i-1 by omega,decide_eq_true (show 0<i by omega),cond_true];refine Hab (λ ht=>?_) (λ ht=>?_)
   ·have ht':(!(tlt (l.getD (i-1) Ea).1 (l.getD i Ea).1))=true:=ht;rw[Vv]at ht';exact H4b (by rw[ht'];rfl)
   ·have ht':(!(tlt (l.getD (i-1) Ea).1 (l.getD i Ea).1))=false:=ht;rw[Wi]at ht';rw[ht',Vz];exact h1
  ·rw[decide_eq_false (show ¬ 0<i by omega),cond_false,Vz];exact h1
def Hna (l:List Nmd) (hf:l.length≤1000000000000) (hs:P7 l):Tot (λ k=>Ei k l) (λ r=>r=Jp l):=by
 unfold Ei Jp;refine Hfb (Hla l hf hs _ 0 rfl (Vq _)) ?_;rw[Wn];show Tot _ (λ r=>r=(chn none l&&_))
 cases hc:chn none l with
 |true=>rw[show chn (Xw l 0) l=true from hc];exact H4b (by rw[Vz])
 |false=>rw[show chn (Xw l 0) l=false from hc];exact H4b rfl
def Hoa (l:List Nmd) (hf:l.length≤1000000000000) (hs:P7 l):Tot (λ k=>G5 k l) (λ r=>r=Jp l):=by
 unfold G5 Jp;refine Hfb (Hma l hf hs _ 0 rfl (Vq _)) ?_;rw[Wn];show Tot _ (λ r=>r=(chn none l&&_))
 cases hc:chn none l with
 |true=>rw[show chn (Xw l 0) l=true from hc];exact H4b (by rw[Vz])
 |false=>rw[show chn (Xw l 0) l=false from hc];exact H4b rfl
def Sr (d:Dsk) (hf:Xoa d) (hs:B6a d):Tot (λ k=>Bz k d) (λ r=>r=Al d):=by
 unfold Bz Al;refine Hfb (Hna d.1 hf.1.1 hs.1) ?_;cases h:Jp d.1
 ·exact H6b rfl (H4b rfl)
 refine H7b rfl (Hfb (Hna d.2 hf.2.1 hs.2) ?_);exact H4b (by rw[Vz])
def plc (l:List Nmd) (s:ByteArray):Nat:=(l.takeWhile (λ y=>tlt y.1 s)).length
def ins (l:List Nmd) (x:Nmd):List Nmd:=l.take (plc l x.1)++[x]++l.drop (plc l x.1)
def A0b (l:List Nmd) (s:ByteArray):plc l s≤l.length:=(K6b _).length_le
def Kqa (l:List Nmd) (s:ByteArray) (b:List Int) (hf:l.length≤1000000000000):∀ (n i:Nat),l.length-i=n→i≤l.length→
  Tot (λ k=>L8 k l (i:Int) s b) (λ r=>r=(l,((i+plc (l.drop i) s:Nat):Int),s,b)):=by
 intro n
 induction n with
 |zero=>
  intro i hd hi;refine Tot.succ ?_;simp only[L8];refine H9b (by omega) (H4b ?_);rw[Wj (by omega)];rfl
 |succ n ih=>
  intro i hd hi
  have hlt:i<l.length:=by omega
  refine Tot.succ ?_;simp only[L8];refine H8b (by omega) (H8b (by omega) (H8b (by omega) ?_));rw[show toNat (i:Int)=i from Vc i,w64 (n:=(i:Int)+1) (by omega) (by omega),Ah (d:=Ea) hlt];have e0:l.getD i ((⟨#[]⟩:ByteArray),([]:List Int))=l.getD i Ea:=rfl;rw[e0]
  have e1:plc (l.getD i Ea::l.drop (i+1)) s=if tlt (l.getD i Ea).1 s then plc (l.drop (i+1)) s+1 else 0:=by
   unfold plc;rw[Zp]
   split<;>rfl
  rw[e1];refine Hab (λ h=>?_) (λ h=>?_)
  ·have h':tlt (l.getD i Ea).1 s=true:=h;rw[if_pos h'];refine(ih (i+1) (by omega) (by omega)).mono ?_;rintro r rfl;rw[show i+1+plc (l.drop (i+1)) s=i+(plc (l.drop (i+1)) s+1) by omega]
  ·have h':¬ (tlt (l.getD i Ea).1 s=true):=by
    have:tlt (l.getD i Ea).1 s=false:=h;rw[this];simp
   rw[if_neg h'];exact H4b rfl
def Nca (l:List Nmd) (x:Nmd) (hf:l.length≤1000000000000):Tot (λ k=>M6 k l x) (λ r=>r=ins l x):=by
 unfold M6 ins;refine H5b (Kqa l x.1 x.2 hf _ 0 rfl (Nat.zero_le _)) ?_;intro r hr;rw[List.drop_zero,Nat.zero_add]at hr;subst hr;have hp:=A0b l x.1;dsimp only;refine H8b (by omega) (H8b (by omega) ?_);rw[show toNat ((plc l x.1:Nat):Int)=plc l x.1 from Int.toNat_natCast _];refine Hcb (by simp only[List.length_nil,List.length_take];omega) ?_;refine Hcb (by simp only[List.length_append,List.length_nil,List.length_take,List.length_cons];omega) ?_;refine H8b (by omega) (H8b (by omega) (Hcb (by simp only[List.length_append,List.length_nil,List.length_take,List.length_drop,List.length_cons];omega) (H4b ?_)));rw[List.nil_append]

end Go.Proofs.YtiiekghlhfbmmaaGreat.Vf
