import Derived.Test.YtmhhjceoinoekaaGreatMak
import Derived.Test.YtmhhjceoinoekaaGreatMab
import Derived.IntWalk
import Derived.Laws.StructEq
set_option linter.all false
namespace Go.Proofs.YtmhhjceoinoekaaGreat.Vf
open Go
open List (length getD)
open Int (toNat)
open Go.IntKind (wrap)
open BitVec (ofInt)
def Vb:=@Int.toNat_natCast
def Vz:=@Bool.true_and
def Wa:=@List.drop_length
def Wi:=@Bool.not_eq_false'
def Wj:=@List.drop_of_length_le
def Xs:=@List.mem_or_eq_of_mem_set
def Zk:=@List.not_mem_nil
def Zl:=@Bool.false_and
def Zv:=@Int.tmod_eq_emod_of_nonneg
def Zza:=@Nat.pow_succ
def Hlb:=@Int.tdiv_eq_ediv_of_nonneg
def Hmb:=@Int.fdiv_eq_ediv_of_nonneg
def Hpb:=@List.pairwise_iff_getElem
def Hzb:=@Option.bind_none
def I1b:=@Sum.elim_inr
def Imb:=@BitVec.toNat_and
def Ivb:=@BitVec.toNat_ofInt
def Iwb:=@IntKind.wrap_u8
def Ixb:=@List.findIdx?_cons
def Iyb:=@List.findIdx?_eq_some_iff_getElem
def J7b:=@List.Pairwise.sublist
def J8b:=@Nat.and_two_pow_sub_one_eq_mod
def Jmb:=@List.getElem_of_mem
def Jwb:=@Nat.mul_le_mul
def Jzb:=@List.take_sublist
def K6b:=@List.getElem_set
def Kab:=@Option.some.inj
def Kbb:=@Bool.and_eq_false_iff
def Klb:=@Nat.mul_comm

def Tot {α:Type} (f:Nat→Option α) (Q:α→Prop):Prop:=∃ r K,(∀ k,K≤k→f k=some r)∧Q r
section
variable {α β:Type} {f g:Nat→Option α} {Q Q':α→Prop}
def Tot.mono (h:Tot f Q) (hq:∀ a,Q a→Q' a):Tot f Q':=by
 obtain⟨r,K,h1,h2⟩:=h
 exact⟨r,K,h1,hq r h2⟩
def H7b {a:α} (h:Q a):Tot (λ _=>some a) Q:=⟨a,0,λ _ _=>rfl,h⟩
def Hjb {o:Option α} {a:α} (e:o=some a) (h:Q a):Tot (λ _=>o) Q:=⟨a,0,λ _ _=>e,h⟩
def H8b {h:Nat→α→Option β} {R:β→Prop} (hf:Tot f Q) (hh:∀ a,Q a→Tot (λ k=>h k a) R):Tot (λ k=>(f k).bind (h k)) R:=by
 obtain⟨a,K,h1,h2⟩:=hf
 obtain⟨b,L,h3,h4⟩:=hh a h2
 exact⟨b,max K L,λ k hk=>by show (f k).bind (h k)=_;rw[h1 k (by omega)];exact h3 k (by omega),h4⟩
def Hab {c:Bool} (hc:c=true) (h:Tot f Q):Tot (λ k=>cond c (f k) (g k)) Q:=by subst hc;exact h
def H9b {c:Bool} (hc:c=false) (h:Tot g Q):Tot (λ k=>cond c (f k) (g k)) Q:=by subst hc;exact h
def Hdb {c:Bool} (h1:c=true→Tot f Q) (h2:c=false→Tot g Q):Tot (λ k=>cond c (f k) (g k)) Q:=by
 cases hc:c with
 |true=>exact h1 hc
 |false=>exact h2 hc
def Hbb {p:Prop} [Decidable p] (hp:p) (h:Tot f Q):Tot (λ k=>cond (decide p) (f k) (g k)) Q:=Hab (decide_eq_true hp) h
def Hcb {p:Prop} [Decidable p] (hp:¬ p) (h:Tot g Q):Tot (λ k=>cond (decide p) (f k) (g k)) Q:=H9b (decide_eq_false hp) h
def Heb {p:Prop} [Decidable p] (h1:p→Tot f Q) (h2:¬ p→Tot g Q):Tot (λ k=>cond (decide p) (f k) (g k)) Q:=
 Hdb (λ h=>h1 (of_decide_eq_true h)) (λ h=>h2 (of_decide_eq_false h))
def Hfb {m n:Nat} (hp:m≤n) (h:Tot f Q):Tot (λ k=>cond (Nat.ble m n) (f k) (g k)) Q:=Hab (Zj hp) h
def Hib {v:α} {h:Nat→α→Option β} {R:β→Prop} (hf:Tot f (λ r=>r=v)) (hh:Tot (λ k=>h k v) R):Tot (λ k=>(f k).bind (h k)) R:=
 H8b hf (by rintro r rfl;exact hh)
def Tot.succ (h:Tot (λ k=>f (k+1)) Q):Tot f Q:=by
 obtain⟨r,K,h1,h2⟩:=h
 exact⟨r,K+1,λ k hk=>by obtain⟨m,rfl⟩:∃ m,k=m+1:=⟨k-1,by omega⟩;exact h1 m (by omega),h2⟩
def Tot.and (h:Tot f Q) (h':Tot f Q'):Tot f (λ a=>Q a∧Q' a):=by
 obtain⟨r,K,h1,h2⟩:=h
 obtain⟨r',K',h1',h2'⟩:=h'
 have e:r=r':=by
  have a1:=h1 (max K K') (by omega)
  have a2:=h1' (max K K') (by omega)
  rw[a1]at a2
  exact Kab a2
 subst e
 exact⟨r,K,h1,h2,h2'⟩
def Tot.law {f:Nat→Option Bool} (h:Tot f (λ b=>b=true)):∃ k,f k=some true:=by
 obtain⟨r,K,h1,h2⟩:=h
 subst h2
 exact⟨K,h1 K (Vv _)⟩
end
def w64 {n:Int} (h1 : -9223372036854775808≤n) (h2:n≤9223372036854775807):wrap .i64 n=n:=Go.IntWalk.i64_in n ⟨h1,h2⟩
def E5a (n:Int) : -9223372036854775808≤wrap .i64 n∧wrap .i64 n≤9223372036854775807:=by
 rw[IntKind.wrap_i64]
 omega
def I4a (n:Int):0≤wrap .u8 n∧wrap .u8 n≤255:=by
 simp only[wrap,IntKind.signed,IntKind.bits]
 simp
 omega
def Nla (x m:Int) (h0:0≤m) (h1:m<9223372036854775808):0≤wrap .i64 ((ofInt (IntKind.bits .i64) x &&& ofInt (IntKind.bits .i64) m).toNat)∧wrap .i64 ((ofInt (IntKind.bits .i64) x &&& ofInt (IntKind.bits .i64) m).toNat)≤m:=by
 have hm:(ofInt (IntKind.bits .i64) m).toNat=m.toNat:=by
  rw[Ivb]
  show (m % ((2 ^ 64:Nat):Int)).toNat=m.toNat
  rw[Int.emod_eq_of_lt h0 (by omega)]
 have hle:(ofInt (IntKind.bits .i64) x &&& ofInt (IntKind.bits .i64) m).toNat≤m.toNat:=by
  rw[Imb,hm]
  exact Nat.and_le_right
 rw[w64 (by omega) (by omega)]
 omega
def Tqa {x n:Int} (hx:0≤x) (hn:0<n):0≤Int.tmod x n∧Int.tmod x n<n:=by
 rw[Zv hx]
 exact⟨Int.emod_nonneg _ (by omega),Int.emod_lt_of_pos _ hn⟩

abbrev Cur:=List Int×Int×Int
def E9 (c:Cur):Prop:=(c.1.length:Int)≤1048576∧0≤c.2.1∧c.2.1≤1048576
def Pza (b:List Int) (hb:(b.length:Int)≤1048576):∀ (n:Nat) (h i:Int),0≤i→i+n=4001→Tot (λ k=>J9 k b h i) (λ r=>r.1=b):=by
 intro n
 induction n with
 |zero=>
  intro h i h0 hi
  refine Tot.succ ?_
  simp only[J9]
  refine Heb (λ h1=>?_) (λ h1=>H7b rfl)
  exact Hcb (by omega) (H7b rfl)
 |succ n ih=>
  intro h i h0 hi
  refine Tot.succ ?_
  simp only[J9]
  refine Heb (λ h1=>?_) (λ h1=>H7b rfl)
  refine Heb (λ h2=>?_) (λ h2=>H7b rfl)
  refine Hbb h0 (Hbb h1 ?_)
  rw[w64 (n:=i+1) (by omega) (by omega)]
  exact ih _ _ (by omega) (by omega)
def Tra (b:List Int) (hb:(b.length:Int)≤1048576):Tot (λ k=>M5 k b) E9:=by
 unfold M5
 refine H8b (Pza b hb 4001 _ 0 (by omega) (by omega)) (λ r hr=>?_)
 exact H7b ⟨by rw[hr];exact hb,Zs 0,by show (0:Int)≤1048576;omega⟩
def T0 (c:Cur) (hc:E9 c):∃ x c',Gn c=some (x,c')∧0≤x∧x≤255∧E9 c':=by
 obtain⟨h1,h2,h3⟩:=hc
 unfold Gn
 by_cases hlt:c.2.1<(c.1.length:Int)
 ·simp only[hlt,h2,decide_true,cond_true]
  obtain⟨a1,a2⟩:=Nla (wrap .i64 ((wrap .i64 ((ofInt (IntKind.bits .i64) (wrap .i64 ((ofInt (IntKind.bits .i64) (Int.fdiv (wrap .i64 ((wrap .i64 (c.2.2*6364136223846793005))+1442695040888963407)) (2 ^ (min (toNat 33) (IntKind.bits .i64)))) ^^^ ofInt (IntKind.bits .i64) (Int.fdiv (wrap .i64 ((wrap .i64 (c.2.2*6364136223846793005))+1442695040888963407)) (2 ^ (min (toNat 47) (IntKind.bits .i64))))).toNat)) &&& ofInt (IntKind.bits .i64) 255).toNat))+(wrap .i64 (getD c.1 (toNat c.2.1) (0:Int))))) 255 (by omega) (by omega)
  refine⟨_,_,rfl,a1,a2,h1,?_,?_⟩
  ·show 0≤wrap .i64 (c.2.1+1)
   rw[w64 (by omega) (by omega)]
   omega
  ·show wrap .i64 (c.2.1+1)≤1048576
   rw[w64 (by omega) (by omega)]
   omega
 ·simp only[hlt,decide_false,cond_false]
  obtain⟨a1,a2⟩:=Nla (wrap .i64 ((ofInt (IntKind.bits .i64) (Int.fdiv (wrap .i64 ((wrap .i64 (c.2.2*6364136223846793005))+1442695040888963407)) (2 ^ (min (toNat 33) (IntKind.bits .i64)))) ^^^ ofInt (IntKind.bits .i64) (Int.fdiv (wrap .i64 ((wrap .i64 (c.2.2*6364136223846793005))+1442695040888963407)) (2 ^ (min (toNat 47) (IntKind.bits .i64))))).toNat)) 255 (by omega) (by omega)
  exact⟨_,_,rfl,a1,a2,h1,h2,h3⟩
def Ay (c:Cur) (hc:E9 c) (n:Int) (hn:n≤1000000000):∃ x c',A3 c n=some (x,c')∧0≤x∧(0<n→x<n)∧(n≤0→x=0)∧E9 c':=by
 unfold A3
 by_cases h0:n≤0
 ·exact⟨0,c,by simp only[h0,decide_true,cond_true],by omega,by omega,λ _=>rfl,hc⟩
 ·by_cases h1:n≤256
  ·obtain⟨x,c',e,b0,b1,k⟩:=T0 c hc
   have hz:¬ n=0:=by omega
   have:=Tqa b0 (show 0<n by omega)
   exact⟨Int.tmod x n,c',by simp only[h0,h1,hz,decide_true,decide_false,cond_true,cond_false,e,Vl],this.1,λ _=>this.2,λ h=>by omega,k⟩
  ·obtain⟨x,c1,e1,b0,b1,k1⟩:=T0 c hc
   obtain⟨y,c2,e2,b2,b3,k2⟩:=T0 c1 k1
   obtain⟨z,c3,e3,b4,b5,k3⟩:=T0 c2 k2
   have hz:¬ n=0:=by omega
   have:=Tqa (show 0≤x*65536+y*256+z by omega) (show 0<n by omega)
   refine⟨Int.tmod (x*65536+y*256+z) n,c3,?_,this.1,λ _=>this.2,λ h=>by omega,k3⟩
   simp only[h0,h1,hz,decide_false,cond_false,e1,e2,e3,Vl]
   rw[w64 (n:=x*65536) (by omega) (by omega),w64 (n:=y*256) (by omega) (by omega),w64 (n:=x*65536+y*256) (by omega) (by omega),w64 (n:=x*65536+y*256+z) (by omega) (by omega)]
def Nma {α:Type} {l:List α} {i:Int} {d:α} (h0:0≤i) (h1:i<(l.length:Int)):l.getD i.toNat d∈l:=by
 have h:i.toNat<l.length:=by omega
 rw[Ve,Vk h]
 exact Jab h
def Mb (c:Cur) (hc:E9 c) (l:List Int) (hl:0<l.length) (hm:l.length≤2000000):∃ x c',Aa c l=some (x,c')∧x∈l∧E9 c':=by
 obtain⟨i,c',e,b0,b1,_,k⟩:=Ay c hc (l.length:Int) (by omega)
 have b1:=b1 (by omega)
 refine⟨l.getD i.toNat 0,c',?_,Nma b0 b1,k⟩
 unfold Aa
 simp only[e,Vl,b0,b1,decide_true,cond_true]
def Nna (c:Cur) (hc:E9 c) (l:List ByteArray) (hl:0<l.length) (hm:l.length≤2000000):∃ x c',L7 c l=some (x,c')∧x∈l∧E9 c':=by
 obtain⟨i,c',e,b0,b1,_,k⟩:=Ay c hc (l.length:Int) (by omega)
 have b1:=b1 (by omega)
 refine⟨l.getD i.toNat (⟨#[]⟩:ByteArray),c',?_,Nma b0 b1,k⟩
 unfold L7
 simp only[e,Vl,b0,b1,decide_true,cond_true]
def As (l:List Int):Prop:=∀ x∈l,0≤x∧x≤255
def I5a (m:Int) (hm:m≤1000):∀ (n:Nat) (l:List Int) (i:Int) (c:Cur),E9 c→0≤i→i≤max m 0→(max m 0)-i=n→(l.length:Int)=i→As l→
  Tot (λ k=>Gq k m l i c.1 c.2.1 c.2.2) (λ r=>E9 r.2∧As r.1∧(r.1.length:Int)=max m 0):=by
 intro n
 induction n with
 |zero=>
  intro l i c hc h0 h1 hn hl hb
  refine Tot.succ ?_
  simp only[Gq]
  refine Hcb (by omega) (H7b ⟨hc,hb,by show (l.length:Int)=_;omega⟩)
 |succ n ih=>
  intro l i c hc h0 h1 hn hl hb
  refine Tot.succ ?_
  simp only[Gq]
  refine Hbb (by omega) ?_
  obtain⟨x,c',e,b0,b1,k⟩:=T0 c hc
  refine Hib (Hjb (Q:=λ r=>r=(x,c')) e rfl) ?_
  refine Hfb (by simp only[Vc,Vg];omega) ?_
  rw[w64 (n:=i+1) (by omega) (by omega)]
  refine ih _ _ c' k (by omega) (by omega) (by omega) (by simp only[Vd,Vc,Vg];omega) ?_
  intro y hy
  rcases Vp.1 hy with hy|hy
  ·exact hb y hy
  ·simp only[Vu]at hy
   subst hy
   exact I4a _
def E6a (c:Cur) (hc:E9 c):Tot (λ k=>Di k c) (λ r=>E9 r.2∧As r.1∧(r.1.length:Int)≤9):=by
 unfold Di
 obtain⟨x,c',e,hx,k⟩:=Mb c hc [0,1,2,5,9] (by decide) (by decide)
 have hx':0≤x∧x≤9:=by
  simp only[Vm,Zk,or_false]at hx
  omega
 refine Hib (Hjb (Q:=λ r=>r=(x,c')) e rfl) ?_
 refine H8b (Q:=λ r=>E9 r.2∧As r.1∧(r.1.length:Int)≤9) ?_ (λ r hr=>H7b hr)
 unfold Gr
 refine H8b (I5a x (by omega) (max x 0-0).toNat [] 0 c' k (by omega) (by omega) (by omega) rfl (by intro y hy;simp at hy)) (λ r hr=>H7b ?_)
 exact⟨hr.1,hr.2.1,by show (r.1.length:Int)≤9;rw[hr.2.2];omega⟩
def Px (c:Cur) (hc:E9 c) (n:Int) (hn:n≤1000000000):∃ x c',Cy c n=some (x,c')∧E9 c':=by
 obtain⟨x,c',e,_,_,_,k⟩:=Ay c hc n hn
 exact⟨x==0,c',by unfold Cy;simp only[e,Vl],k⟩
abbrev Stp:=Int×Int×Int
abbrev Row:=ByteArray×Stp×Bool×Int
abbrev Fil:=Stp×Bool×List Int
def L4a (s:Stp):Prop:=0≤s.1∧s.1≤1000000000∧0≤s.2.1∧s.2.1≤1000000∧0≤s.2.2∧s.2.2≤20
def Po:List ByteArray:=[(⟨#[97]⟩:ByteArray),(⟨#[98]⟩:ByteArray),(⟨#[99,97,116,47,49]⟩:ByteArray),(⟨#[99,97,116,47,50]⟩:ByteArray),(⟨#[100,111,103]⟩:ByteArray),(⟨#[120,45,49]⟩:ByteArray)]
def Py (c:Cur) (hc:E9 c):∃ x c',Bj c=some (x,c')∧x∈Po∧E9 c':=by
 obtain⟨x,c',e,hx,k⟩:=Nna c hc Po (by decide) (by decide)
 exact⟨x,c',by unfold Bj;unfold Po at e;simp only[e,Vl],hx,k⟩
def I6a (c:Cur) (hc:E9 c):∃ x c',Jh c=some (x,c')∧L4a x∧E9 c':=by
 obtain⟨x,c1,e1,hx,k1⟩:=Mb c hc [0,1,2,3,1000000000] (by decide) (by decide)
 obtain⟨y,c2,e2,y0,y1,_,k2⟩:=Ay c1 k1 3 (by decide)
 obtain⟨z,c3,e3,z0,z1,_,k3⟩:=Ay c2 k2 3 (by decide)
 have y1:=y1 (by decide)
 have z1:=z1 (by decide)
 simp only[Vm,Zk,or_false]at hx
 exact⟨(x,y,z),c3,by unfold Jh;simp only[e1,e2,e3,Vl],⟨by show 0≤x;omega,by show x≤_;omega,y0,by show y≤_;omega,z0,by show z≤_;omega⟩,k3⟩
def A9b (f:Fil):Prop:=L4a f.1∧As f.2.2∧(f.2.2.length:Int)≤9∧(f.2.1=true→f.2.2=[])
def R4 (c:Cur) (hc:E9 c):Tot (λ k=>Cz k c) (λ r=>A9b r.1∧E9 r.2):=by
 unfold Cz
 obtain⟨s,c1,e1,hs,k1⟩:=I6a c hc
 obtain⟨b,c2,e2,k2⟩:=Px c1 k1 4 (by decide)
 refine Hib (Hjb (Q:=λ r=>r=(s,c1)) e1 rfl) ?_
 refine Hib (Hjb (Q:=λ r=>r=(b,c2)) e2 rfl) ?_
 refine Hdb (λ hb=>?_) (λ hb=>H7b ⟨⟨hs,by intro y hy;simp at hy,by show ((([]:List Int).length:Nat):Int)≤9;decide,λ _=>rfl⟩,k2⟩)
 refine H8b (E6a c2 k2) (λ r hr=>H7b ⟨⟨hs,hr.2.1,hr.2.2,λ h=>?_⟩,hr.1⟩)
 simp only[Vw]at hb
 have h':b=true:=h
 rw[hb]at h'
 cases h'
def Cfb (x:Row):Prop:=x.1∈Po∧L4a x.2.1∧0≤x.2.2.2∧x.2.2.2≤9∧(x.2.2.1=true→x.2.2.2=0)
def E7a (c:Cur) (hc:E9 c):Tot (λ k=>Jj k c) (λ r=>Cfb r.1∧E9 r.2):=by
 unfold Jj
 obtain⟨s,c1,e1,hs,k1⟩:=Py c hc
 refine Hib (Hjb (Q:=λ r=>r=(s,c1)) e1 rfl) ?_
 refine H8b (R4 c1 k1) (λ r hr=>?_)
 obtain⟨⟨h1,h2,h3,h4⟩,k2⟩:=hr
 unfold Jv
 refine Hib (H7b (Q:=λ y=>y=(s,r.1.1,r.1.2.1,(r.1.2.2.length:Int))) rfl) ?_
 refine H7b ⟨⟨hs,h1,by show (0:Int)≤(r.1.2.2.length:Int);omega,h3,λ h=>?_⟩,k2⟩
 show (r.1.2.2.length:Int)=0
 rw[h4 h]
 rfl

def I7a:∀ (a:List UInt8),Op.bytesLess a a=false
 |[]=>rfl
 |a::l=>by simp[Op.bytesLess,I7a l]
def Noa:∀ (a b c:List UInt8),Op.bytesLess a b=true→Op.bytesLess b c=true→Op.bytesLess a c=true
 |_,[],_,h,_=>by simp[Op.bytesLess]at h
 |_,_::_,[],_,h=>by simp[Op.bytesLess]at h
 |[],_::_,_::_,_,_=>rfl
 |a::x,b::y,c::z,h1,h2=>by
  simp only[Op.bytesLess,Hqb,Va,decide_eq_true_eq,beq_iff_eq]at h1 h2 ⊢
  rcases h1 with h1|⟨rfl,h1⟩
  ·rcases h2 with h2|⟨rfl,h2⟩
   ·exact .inl (UInt8.lt_trans h1 h2)
   ·exact .inl h1
  ·rcases h2 with h2|⟨rfl,h2⟩
   ·exact .inl h2
   ·exact .inr ⟨rfl,Noa x y z h1 h2⟩
def Aab:∀ (a b:List UInt8),Op.bytesLess a b=false→Op.bytesLess b a=false→a=b
 |[],[],_,_=>rfl
 |[],_::_,h,_=>by simp[Op.bytesLess]at h
 |_::_,[],_,h=>by simp[Op.bytesLess]at h
 |a::x,b::y,h1,h2=>by
  simp only[Op.bytesLess,Bool.or_eq_false_iff,Kbb,decide_eq_false_iff_not]at h1 h2
  have hab:a=b:=by
   have h3:=UInt8.not_lt.1 h1.1
   have h4:=UInt8.not_lt.1 h2.1
   exact UInt8.le_antisymm h4 h3
  subst hab
  rw[Aab x y (h1.2.resolve_left (by simp)) (h2.2.resolve_left (by simp))]
def tlt (a b:ByteArray):Bool:=Op.bytesLess a.toList b.toList
def teq (a b:ByteArray):Bool:=a.toList==b.toList
def E8a {a b:ByteArray} (h:a.toList=b.toList):a=b:=by
 rw[ByteArray.toList_eq,ByteArray.toList_eq]at h
 obtain⟨⟨x⟩⟩:=a
 obtain⟨⟨y⟩⟩:=b
 simp only at h
 rw[h]
def Lj {a b:ByteArray}:teq a b=true↔a=b:=by
 unfold teq
 rw[beq_iff_eq]
 exact⟨E8a,λ h=>by rw[h]⟩
def Lm (a:ByteArray):tlt a a=false:=I7a _
def O3 {a b c:ByteArray} (h:tlt a b=true) (h':tlt b c=true):tlt a c=true:=Noa _ _ _ h h'
def C0a {a b:ByteArray} (h:tlt a b=false) (h':tlt b a=false):a=b:=E8a (Aab _ _ h h')
def Wr {a b:ByteArray} (h:tlt a b=true):tlt b a=false:=by
 cases hb:tlt b a
 ·rfl
 have:=O3 h hb
 rw[Lm]at this
 cases this
def I8a (a b:ByteArray):(!(Op.bytesLess a.toList b.toList||a.toList==b.toList))=tlt b a:=by
 show (!(tlt a b||teq a b))=tlt b a
 cases h1:tlt a b
 case true=>rw[Wr h1];rfl
 cases h2:teq a b
 case true=>rw[Lj.1 h2,Lm];rfl
 cases h3:tlt b a
 case true=>rfl
 exfalso
 have:=C0a h1 h3
 rw[Lj.2 this]at h2
 cases h2
def sle (a b:Stp):Bool:=cond (a.1 != b.1) (decide (a.1<b.1)) (cond (a.2.1 != b.2.1) (decide (a.2.1<b.2.1)) (decide (a.2.2<b.2.2)))
def Fsa (a b:Stp):Co a b=some (sle a b):=by
 unfold Co sle
 cases a.1 != b.1<;>cases a.2.1 != b.2.1<;>rfl
def Aqa (a b:Stp):Bp a b=some (sle a b):=by
 unfold Bp sle
 cases a.1 != b.1<;>cases a.2.1 != b.2.1<;>rfl
def T1 {a b:Stp}:sle a b=true↔a.1<b.1∨(a.1=b.1∧(a.2.1<b.2.1∨(a.2.1=b.2.1∧a.2.2<b.2.2))):=by
 unfold sle
 by_cases h1:a.1=b.1
 ·by_cases h2:a.2.1=b.2.1
  ·simp[h1,h2]
  ·have:(a.2.1 != b.2.1)=true:=by simpa using h2
   simp[h1,this,h2]
 ·have:(a.1 != b.1)=true:=by simpa using h1
  simp[this,h1]
def Uk (a b:Row):Bool:=cond (!((a.2.1.1==b.2.1.1)&&((a.2.1.2.1==b.2.1.2.1)&&(a.2.1.2.2==b.2.1.2.2)))) (sle a.2.1 b.2.1) (cond (!(a.2.2.1==b.2.2.1)) b.2.2.1 (decide (a.2.2.2<b.2.2.2)))
def L5a (a b:Row):Kr a b=some (Uk a b):=by
 unfold Kr Uk
 rw[Fsa]
 cases (!((a.2.1.1==b.2.1.1)&&((a.2.1.2.1==b.2.1.2.1)&&(a.2.1.2.2==b.2.1.2.2))))<;>cases (!(a.2.2.1==b.2.2.1))<;>rfl
def Tsa (a b:Row):Jo a b=some (Uk b a):=by
 unfold Jo Uk
 rw[Aqa,BEq.comm (a:=a.2.1.1),BEq.comm (a:=a.2.1.2.1),BEq.comm (a:=a.2.1.2.2),BEq.comm (a:=a.2.2.1)]
 cases (!((b.2.1.1==a.2.1.1)&&((b.2.1.2.1==a.2.1.2.1)&&(b.2.1.2.2==a.2.1.2.2))))<;>cases (!(b.2.2.1==a.2.2.1))<;>rfl
def Nd:Row:=((⟨#[]⟩:ByteArray),(((0:Int),((0:Int),(0:Int))),(false,(0:Int))))
def Ul (s:ByteArray):List Row→Nat→Option Nat
 |[],_=>none
 |r::l,i=>bif teq r.1 s then some i else Ul s l (i+1)
def Z5 (l:List Row) (s:ByteArray):Nat→Nat
 |0=>0
 |k+1=>bif tlt s (l.getD k Nd).1 then Z5 l s k else k+1
def mrg (l:List Row) (x:Row):List Row:=match Ul x.1 l 0 with
 |some i=>bif Uk (l.getD i Nd) x then l.set i x else l
 |none=>l.take (Z5 l x.1 l.length)++x::l.drop (Z5 l x.1 l.length)
def C1a (l:List Row) (s:ByteArray):∀ k,Z5 l s k≤k
 |0=>Vv _
 |k+1=>by
  unfold Z5
  cases tlt s (l.getD k Nd).1 with
  |true=>have:=C1a l s k;simp only[cond_true];omega
  |false=>simp only[cond_false];omega
def E9a {s:ByteArray}:∀ (l:List Row) (i j:Nat),Ul s l i=some j→i≤j∧j<i+l.length∧teq (l.getD (j-i) Nd).1 s=true
 |[],i,j,h=>by simp[Ul]at h
 |r::l,i,j,h=>by
  unfold Ul at h
  cases ht:teq r.1 s with
  |true=>
   rw[ht]at h
   simp only[cond_true,Vh]at h
   subst h
   refine⟨Vv _,by simp,?_⟩
   rw[Iab]
   exact ht
  |false=>
   rw[ht]at h
   simp only[cond_false]at h
   obtain⟨h1,h2,h3⟩:=E9a l (i+1) j h
   refine⟨by omega,by simp only[Vc];omega,?_⟩
   rw[show j-i=(j-(i+1))+1 by omega]
   exact h3
def Ah {α:Type} {l:List α} {i:Nat} {d:α} (h:i<l.length):l.drop i=l.getD i d::l.drop (i+1):=by
 rw[Zb h,Ve,Vk h]
 rfl
def Few (l:List Row):Prop:=l.length≤1000000000000
def I9a (x:Row):∀ (n:Nat) (l:List Row) (i:Nat),l.length-i=n→i≤l.length→Few l→
  Tot (λ k=>Fm k l (i:Int) x.1 x.2.1.1 x.2.1.2.1 x.2.1.2.2 x.2.2.1 x.2.2.2) (λ r=>r=match Ul x.1 (l.drop i) i with
   |some j => .inl (bif Uk (l.getD j Nd) x then l.set j x else l)
   |none => .inr (l,x.1,x.2.1.1,x.2.1.2.1,x.2.1.2.2,x.2.2.1,x.2.2.2)):=by
 intro n
 induction n with
 |zero=>
  intro l i hn hi hf
  unfold Few at hf
  refine Tot.succ ?_
  simp only[Fm]
  refine Hcb (by omega) (H7b ?_)
  rw[Wj (by omega)]
  rfl
 |succ n ih=>
  intro l i hn hi hf
  have hf':=hf
  unfold Few at hf
  have hlt:i<l.length:=by omega
  refine Tot.succ ?_
  simp only[Fm]
  refine Hbb (by omega) (Hbb (by omega) (Hbb (by omega) ?_))
  have e0:toNat (i:Int)=i:=Vb i
  rw[e0,Ah (d:=Nd) hlt]
  refine Hdb (λ ht=>?_) (λ ht=>?_)
  ·have ht':teq (l.getD i Nd).1 x.1=true:=ht
   refine Hbb (by omega) (Hbb (by omega) ?_)
   refine Hib (Hjb (Q:=λ r=>r=Uk (l.getD i Nd) x) (L5a _ _) rfl) ?_
   simp only[Ul,ht',cond_true]
   cases hb:Uk (l.getD i Nd) x with
   |true=>exact Hab rfl (Hbb (by omega) (Hbb (by omega) (H7b rfl)))
   |false=>exact H9b rfl (H7b rfl)
  ·have ht':teq (l.getD i Nd).1 x.1=false:=ht
   simp only[Ul,ht',cond_false]
   rw[w64 (n:=(i:Int)+1) (by omega) (by omega)]
   exact ih l (i+1) (by omega) (by omega) hf'
def Iaa (x:Row) (l0 l5:List Row) (h5:l5=l0):∀ (n:Nat) (i:Nat),l0.length-i=n→i≤l0.length→Few l0→
  Tot (λ k=>Fv k l0 l5 l0 (l0.length:Int) (i:Int) x.1 x.2.1.1 x.2.1.2.1 x.2.1.2.2 x.2.2.1 x.2.2.2) (λ r=>r=match Ul x.1 (l0.drop i) i with
   |some j => .inl (bif Uk (l0.getD j Nd) x then l0.set j x else l0)
   |none => .inr (l0,x.1,x.2.1.1,x.2.1.2.1,x.2.1.2.2,x.2.2.1,x.2.2.2)):=by
 subst h5
 intro n
 induction n with
 |zero=>
  intro i hn hi hf
  unfold Few at hf
  refine Tot.succ ?_
  simp only[Fv]
  refine Hcb (by omega) (H7b ?_)
  rw[Wj (by omega)]
  rfl
 |succ n ih=>
  intro i hn hi hf
  have hf':=hf
  unfold Few at hf
  have hlt:i<l5.length:=by omega
  refine Tot.succ ?_
  simp only[Fv]
  refine Hbb (by omega) (Hbb (by omega) (Hbb (by omega) ?_))
  have e0:toNat (i:Int)=i:=Vb i
  rw[e0,Ah (d:=Nd) hlt]
  refine Hdb (λ ht=>?_) (λ ht=>?_)
  ·have ht':teq (l5.getD i Nd).1 x.1=true:=ht
   refine Hib (Hjb (Q:=λ r=>r=Uk (l5.getD i Nd) x) (Tsa _ _) rfl) ?_
   simp only[Ul,ht',cond_true]
   cases hb:Uk (l5.getD i Nd) x with
   |true=>exact Hab rfl (Hbb (by omega) (Hbb (by omega) (H7b rfl)))
   |false=>exact H9b rfl (H7b rfl)
  ·have ht':teq (l5.getD i Nd).1 x.1=false:=ht
   simp only[Ul,ht',cond_false]
   rw[w64 (n:=(i:Int)+1) (by omega) (by omega)]
   exact ih (i+1) (by omega) (by omega) hf'
def Fta (x:Row) (l:List Row) (hf:Few l):∀ (i:Nat),i≤l.length→
  Tot (λ k=>F4 k l (i:Int) x.1 x.2.1.1 x.2.1.2.1 x.2.1.2.2 x.2.2.1 x.2.2.2) (λ r=>r=(l,(Z5 l x.1 i:Int),x.1,x.2.1.1,x.2.1.2.1,x.2.1.2.2,x.2.2.1,x.2.2.2)):=by
 unfold Few at hf
 intro i
 induction i with
 |zero=>
  intro hi
  refine Tot.succ ?_
  simp only[F4]
  exact Hcb (by omega) (H7b rfl)
 |succ i ih=>
  intro hi
  refine Tot.succ ?_
  simp only[F4]
  rw[w64 (n:=((i+1:Nat):Int)-1) (by omega) (by omega),show ((i+1:Nat):Int)-1=(i:Int) by omega,show toNat (i:Int)=i from Vb i]
  refine Hbb (by omega) (Hbb (by omega) (Hbb (by omega) ?_))
  have e:∀ z,(!(Op.bytesLess (l.getD i z).1.toList x.1.toList||(l.getD i z).1.toList==x.1.toList))=tlt x.1 (l.getD i z).1:=λ z=>I8a _ _
  rw[e]
  have hc:Z5 l x.1 (i+1)=bif tlt x.1 (l.getD i Nd).1 then Z5 l x.1 i else i+1:=rfl
  refine Hdb (λ ht=>?_) (λ ht=>?_)
  ·have ht':tlt x.1 (l.getD i Nd).1=true:=ht
   rw[hc,ht',cond_true]
   exact ih (by omega)
  ·have ht':tlt x.1 (l.getD i Nd).1=false:=ht
   rw[hc,ht',cond_false]
   exact H7b rfl
def Ws (l:List Row) (hf:Few l):Aq l=some l:=by
 unfold Few at hf
 unfold Aq
 rw[Zj (by simp only[Vg];omega)]
 rfl
def Tta (l:List Row) (x:Row) (hf:Few l):Tot (λ k=>D8 k l x) (λ r=>r=mrg l x):=by
 have hf':=hf
 unfold Few at hf
 unfold D8
 refine H8b (Hjb (Q:=λ r=>r=l) (Ws l hf') rfl) ?_
 rintro r rfl
 refine H8b (Iaa x r r rfl _ 0 rfl (Vq _) hf') ?_
 rintro y rfl
 rw[Wp]
 unfold mrg
 cases hfi:Ul x.1 r 0 with
 |some j=>exact H7b rfl
 |none=>
  simp only[I1b]
  refine H8b (Fta x r hf' r.length (Vv _)) ?_
  rintro z rfl
  have hc:=C1a r x.1 r.length
  simp only
  rw[show toNat ((Z5 r x.1 r.length:Nat):Int)=Z5 r x.1 r.length from Vb _]
  refine Hbb (by omega) (Hbb (by omega) ?_)
  have hft:Few (r.take (Z5 r x.1 r.length)):=by unfold Few;rw[Vs];omega
  refine H8b (Hjb (Q:=λ q=>q=r.take (Z5 r x.1 r.length)) (Ws _ hft) rfl) ?_
  rintro q rfl
  refine Hfb (by simp only[Vs,Vc,Vg];omega) ?_
  refine Hbb (by omega) (Hbb (by omega) (Hfb (by simp only[Vd,Vs,Wd,Vc,Vg];omega) (H7b ?_)))
  rw[Vo]
  rfl
def Fua (x:Row) (l:List Row) (hf:Few l):∀ (i:Nat) (y:Row),i≤l.length→
  Tot (λ k=>Es k (l.take i++y::l.drop i) (i:Int) x.1 x.2.1.1 x.2.1.2.1 x.2.1.2.2 x.2.2.1 x.2.2.2)
   (λ r=>∃ y',r=(l.take (Z5 l x.1 i)++y'::l.drop (Z5 l x.1 i),(Z5 l x.1 i:Int),x.1,x.2.1.1,x.2.1.2.1,x.2.1.2.2,x.2.2.1,x.2.2.2)):=by
 unfold Few at hf
 intro i
 induction i with
 |zero=>
  intro y hi
  refine Tot.succ ?_
  simp only[Es]
  exact Hcb (by omega) (H7b ⟨y,rfl⟩)
 |succ i ih=>
  intro y hi
  refine Tot.succ ?_
  simp only[Es]
  have hlen:(l.take (i+1)++y::l.drop (i+1)).length=l.length+1:=by simp only[Vd,Vs,Vc,Wd];omega
  have hget:∀ z,(l.take (i+1)++y::l.drop (i+1)).getD i z=l.getD i z:=by
   intro z
   rw[Ve,Ve,Yc (by rw[Vs];omega),List.getElem?_take_of_lt (by omega)]
  rw[w64 (n:=((i+1:Nat):Int)-1) (by omega) (by omega),show ((i+1:Nat):Int)-1=(i:Int) by omega,show toNat (i:Int)=i from Vb i,show toNat ((i+1:Nat):Int)=i+1 from Vb _,hget,hlen]
  refine Hbb (by omega) (Hbb (by omega) (Hbb (by omega) ?_))
  have e:∀ z,(!(Op.bytesLess (l.getD i z).1.toList x.1.toList||(l.getD i z).1.toList==x.1.toList))=tlt x.1 (l.getD i z).1:=λ z=>I8a _ _
  rw[e]
  have hc:Z5 l x.1 (i+1)=bif tlt x.1 (l.getD i Nd).1 then Z5 l x.1 i else i+1:=rfl
  refine Hdb (λ ht=>?_) (λ ht=>?_)
  ·have ht':tlt x.1 (l.getD i Nd).1=true:=ht
   rw[hc,ht',cond_true]
   refine Hbb (by omega) (Hbb (by omega) (Hbb (by omega) (Hbb (by omega) ?_)))
   have hset:(l.take (i+1)++y::l.drop (i+1)).set (i+1) (l.getD i ((⟨#[]⟩:ByteArray),(((0:Int),((0:Int),(0:Int))),(false,(0:Int)))))=l.take i++l.getD i Nd::l.drop i:=by
    rw[List.set_append,if_neg (by rw[Vs];omega),Vs,Zw hi,Iab,Jpb,Ah (d:=Nd) (show i<l.length by omega)]
    rw[List.take_add_one,Vk (show i<l.length by omega)]
    simp only[Jsb,Vo,Yg]
    rw[Ve,Ve,Vk (show i<l.length by omega)]
    rfl
   rw[hset]
   exact ih _ (by omega)
  ·have ht':tlt x.1 (l.getD i Nd).1=false:=ht
   rw[hc,ht',cond_false]
   exact H7b ⟨y,rfl⟩
def Iba (l:List Row) (x:Row) (hf:Few l):Tot (λ k=>C4 k l x) (λ r=>r=mrg l x):=by
 have hf':=hf
 unfold Few at hf
 unfold C4
 refine Hfb (by simp only[Vg];omega) ?_
 rw[Vx]
 refine Hib (I9a x _ l 0 rfl (Vq _) hf') ?_
 rw[Wp]
 unfold mrg
 cases hfi:Ul x.1 l 0 with
 |some j=>exact H7b rfl
 |none=>
  simp only[I1b]
  refine Hfb (by simp only[Vc,Vg];omega) ?_
  have h0:=Fua x l hf' l.length x (Vv _)
  rw[Yt,Wa]at h0
  refine H8b h0 ?_
  rintro z ⟨y',rfl⟩
  have hc:=C1a l x.1 l.length
  have hlen:(l.take (Z5 l x.1 l.length)++y'::l.drop (Z5 l x.1 l.length)).length=l.length+1:=by simp only[Vd,Vs,Vc,Wd];omega
  simp only
  rw[show toNat ((Z5 l x.1 l.length:Nat):Int)=Z5 l x.1 l.length from Vb _,hlen]
  refine Hbb (by omega) (Hbb (by omega) (H7b ?_))
  rw[List.set_append,if_neg (by rw[Vs];omega),Vs,Zw hc,Iab,Jpb]

def Fva (a b:ByteArray):(a==b)=teq a b:=beq_toListBytes a b
def Eaa {s:ByteArray}:∀ (l:List Row) (i:Nat),Ul s l i=none→∀ r∈l,r.1≠s
 |[],_,_,r,hr=>by simp at hr
 |a::l,i,h,r,hr=>by
  unfold Ul at h
  cases ht:teq a.1 s
  case true=>rw[ht]at h;simp at h
  rw[ht]at h
  rcases Vm.1 hr with rfl|hr
  ·intro e
   rw[Lj.2 e]at ht
   cases ht
  ·exact Eaa l (i+1) h r hr
def L6a (l:List Row) (x:Row):l.length≤(mrg l x).length∧(mrg l x).length≤l.length+1:=by
 unfold mrg
 have hc:=C1a l x.1 l.length
 split
 ·cases Uk (l.getD _ Nd) x<;>simp
 ·simp only[Vd,Vs,Vc,Wd]
  omega
def Tua {l:List Row} {x r:Row} (h:r∈mrg l x):r=x∨r∈l:=by
 unfold mrg at h
 split at h
 ·rename_i j hj
  cases hb:Uk (l.getD j Nd) x
  ·rw[hb]at h;exact .inr h
  rw[hb,cond_true]at h
  rcases Xs h with h|h
  ·exact .inr h
  ·exact .inl h
 ·rcases Vp.1 h with h|h
  ·exact .inr (I5b h)
  ·rcases Vm.1 h with h|h
   ·exact .inl h
   ·exact .inr (Zn h)
def N6 (a:Stp):sle a a=false:=by
 cases h:sle a a with
 |false=>rfl
 |true=>rw[T1]at h;omega
def Ln (l:List Row):Prop:=l.Pairwise (λ a b=>tlt a.1 b.1=true)
def Ica {l:List Row} {s:ByteArray} (hs:Ln l) (hn:∀ r∈l,r.1≠s):∀ k,k≤l.length→(∀ i,i<Z5 l s k→tlt (l.getD i Nd).1 s=true)∧(∀ i,Z5 l s k≤i→i<k→tlt s (l.getD i Nd).1=true)
 |0,_=>⟨λ i hi=>by simp[Z5]at hi,λ i _ hi=>by omega⟩
 |k+1,hk=>by
  unfold Z5
  cases ht:tlt s (l.getD k Nd).1 with
  |true=>
   simp only[cond_true]
   obtain⟨h1,h2⟩:=Ica hs hn k (by omega)
   refine⟨h1,λ i hi hik=>?_⟩
   by_cases e:i=k
   ·subst e;exact ht
   ·exact h2 i hi (by omega)
  |false=>
   simp only[cond_false]
   refine⟨λ i hi=>?_,λ i hi hik=>by omega⟩
   have hget:∀ j (hj:j<l.length),l.getD j Nd=l[j]:=λ j hj=>by rw[Ve,Vk hj];rfl
   have hkl:k<l.length:=by omega
   have hks:tlt (l.getD k Nd).1 s=true:=by
    cases h:tlt (l.getD k Nd).1 s
    case true=>rfl
    exfalso
    exact hn (l.getD k Nd) (by rw[hget k hkl];exact Jab hkl) (C0a h ht)
   by_cases e:i=k
   ·subst e;exact hks
   ·have h3:=(Hpb.1 hs) i k (by omega) hkl (by omega)
    rw[hget i (by omega)]
    rw[hget k hkl]at hks
    exact O3 h3 hks
def Eba {l:List Row} {x:Row} (hs:Ln l):Ln (mrg l x):=by
 have hget:∀ j (hj:j<l.length),l.getD j Nd=l[j]:=λ j hj=>by rw[Ve,Vk hj];rfl
 unfold mrg
 split
 ·rename_i j hj
  obtain⟨_,h2,h3⟩:=E9a l 0 j hj
  rw[Jqb]at h3
  have hjl:j<l.length:=by omega
  have hname:l[j].1=x.1:=by rw[← hget j hjl];exact Lj.1 h3
  cases hb:Uk (l.getD j Nd) x
  ·exact hs
  rw[cond_true]
  unfold Ln
  rw[Hpb]
  intro a b ha hb hab
  rw[Vy]at ha hb
  have:=(Hpb.1 hs) a b ha hb hab
  rw[K6b,K6b]
  by_cases e1:j=a
  ·subst e1
   rw[if_pos rfl,if_neg (by omega),← hname]
   exact this
  ·rw[if_neg e1]
   by_cases e2:j=b
   ·subst e2
    rw[if_pos rfl,← hname]
    exact this
   ·rw[if_neg e2]
    exact this
 ·rename_i hj
  have hn:=Eaa l 0 hj
  obtain⟨c1,c2⟩:=Ica hs hn l.length (Vv _)
  have hc:=C1a l x.1 l.length
  unfold Ln
  rw[Zd,Wh]
  refine⟨J7b (Jzb _ _) hs,⟨λ r hr=>?_,J7b (List.drop_sublist _ _) hs⟩,λ r hr q hq=>?_⟩
  ·obtain⟨i,hi,rfl⟩:=Jmb hr
   rw[Wd]at hi
   rw[List.getElem_drop,← hget _ (by omega)]
   exact c2 _ (by omega) (by omega)
  ·obtain⟨i,hi,rfl⟩:=Jmb hr
   rw[Vs]at hi
   have h1:tlt (List.take (Z5 l x.1 l.length) l)[i].1 x.1=true:=by
    rw[List.getElem_take,← hget _ (by omega)]
    exact c1 i (by omega)
   rcases Vm.1 hq with rfl|hq
   ·exact h1
   ·refine O3 h1 ?_
    obtain⟨m,hm,rfl⟩:=Jmb hq
    rw[Wd]at hm
    rw[List.getElem_drop,← hget _ (by omega)]
    exact c2 _ (by omega) (by omega)
def Npa (l:List Row):Prop:=Ln l∧(∀ r∈l,Cfb r)
def Ida:∀ (n:Nat) (l:List Row) (i:Int) (c:Cur),E9 c→0≤i→i=n→Npa l→l.length+n≤5→
  Tot (λ k=>H1 k l i c.1 c.2.1 c.2.2) (λ r=>E9 r.2∧Npa r.1∧r.1.length≤5):=by
 intro n
 induction n with
 |zero=>
  intro l i c hc h0 hi hr hl
  refine Tot.succ ?_
  simp only[H1]
  exact Hcb (by omega) (H7b ⟨hc,hr,by show l.length≤5;omega⟩)
 |succ n ih=>
  intro l i c hc h0 hi hr hl
  refine Tot.succ ?_
  simp only[H1]
  refine Hbb (by omega) ?_
  refine H8b (E7a c hc) (λ r h=>?_)
  refine Hib (Iba l r.1 (by unfold Few;omega)) ?_
  rw[w64 (n:=i-1) (by omega) (by omega)]
  refine ih _ _ r.2 h.2 (by omega) (by omega) ⟨Eba hr.1,λ y hy=>?_⟩ (by have:=(L6a l r.1).2;omega)
  rcases Tua hy with rfl|hy
  ·exact h.1
  ·exact hr.2 y hy
def C2a (c:Cur) (hc:E9 c):Tot (λ k=>Dx k c) (λ r=>E9 r.2∧Npa r.1∧r.1.length≤5):=by
 unfold Dx
 obtain⟨x,c',e,x0,x1,_,k⟩:=Ay c hc 6 (by decide)
 have x1:=x1 (by decide)
 refine Hib (Hjb (Q:=λ r=>r=(x,c')) e rfl) ?_
 refine H8b (Ida x.toNat [] x c' k x0 (by omega) ⟨List.Pairwise.nil,by simp⟩ (by simp only[Vg];omega)) (λ r hr=>H7b hr)

def inR (n lo hi:Int):Bool:=decide (n≥lo)&&decide (n≤hi)
def S9 (n lo hi:Int):Cs n lo hi=some (inR n lo hi):=by
 unfold Cs inR
 cases decide (n≥lo)<;>rfl
def Pe (n lo hi:Int):A9 n lo hi=some (inR n lo hi):=by
 unfold A9 inR
 cases decide (n≥lo)<;>rfl
def Cc {n lo hi:Int}:inR n lo hi=true↔lo≤n∧n≤hi:=by
 unfold inR
 simp
def Wt (c:Int):Bool:=inR c 97 122||(inR c 48 57||(!(c != 45)||(!(c != 95)||!(c != 47))))
def Lo (s:ByteArray):Prop:=s.size≤4611686018427387904
def Rn (s:ByteArray):s.data.toList.length=s.size:=Yx
def C3a (s:ByteArray) (i:Int):0≤bt s i∧bt s i≤255:=by
 unfold bt
 have:=(s.data.toList.getD i.toNat 0).toNat_lt
 omega
def Eyb (s:ByteArray) (i:Nat) (h:i<s.size):bt s (i:Int)=((s.data.toList[i]'(by rw[Rn];exact h)).toNat:Int):=by
 unfold bt
 rw[Vb,Ve,Vk (by rw[Rn];exact h)]
 rfl
def bOk (b:UInt8):Bool:=Wt (b.toNat:Int)
def L7a (s:ByteArray) (hs:Lo s):∀ (n i:Nat),s.size-i=n→i≤s.size→
  Tot (λ k=>Au k s (i:Int)) (λ r=>r=bif (s.data.toList.drop i).all bOk then .inr s else .inl false):=by
 unfold Lo at hs
 have hsz:=Rn s
 intro n
 induction n with
 |zero=>
  intro i hn hi
  refine Tot.succ ?_
  simp only[Au]
  refine Hcb (by omega) (H7b ?_)
  rw[Wj (by omega)]
  rfl
 |succ n ih=>
  intro i hn hi
  have hlt:i<s.size:=by omega
  refine Tot.succ ?_
  simp only[Au]
  refine Hbb (by omega) (Hbb (by omega) (Hbb (by omega) ?_))
  rw[w64 (n:=(i:Int)+1) (by omega) (by omega)]
  have hb:bOk (s.data.toList[i]'(by omega))=Wt (bt s (i:Int)):=by rw[Eyb s i hlt];rfl
  rw[Zb (by omega),Hob,hb]
  generalize bt s (i:Int)=c
  have h1:=ih (i+1) (by omega) (by omega)
  have e:(((i+1:Nat)):Int)=(i:Int)+1:=by omega
  rw[e]at h1
  cases hc:Wt c with
  |true=>
   rw[Vz]
   refine h1.mono (λ r hr=>hr) |> λ h=>?_
   obtain⟨r,K,h2,h3⟩:=h
   refine⟨r,K,λ k hk=>?_,h3⟩
   rw[← h2 k hk]
   unfold Wt inR at hc
   revert hc
   cases decide (c≥97)<;>cases decide (c≤122)<;>cases decide (c≥48)<;>cases decide (c≤57)<;>cases (c != 45)<;>cases (c != 95)<;>cases (c != 47)<;>first|(intro _;rfl)|(intro hc;cases hc)
  |false=>
   rw[Zl]
   refine⟨.inl false,0,λ k _=>?_,rfl⟩
   unfold Wt inR at hc
   revert hc
   cases decide (c≥97)<;>cases decide (c≤122)<;>cases decide (c≥48)<;>cases decide (c≤57)<;>cases (c != 45)<;>cases (c != 95)<;>cases (c != 47)<;>first|(intro _;rfl)|(intro hc;cases hc)
def L8a (s:ByteArray) (hs:Lo s):∀ (n i:Nat),s.size-i=n→i≤s.size→
  Tot (λ k=>Eb k s (i:Int)) (λ r=>r=bif (s.data.toList.drop i).all bOk then .inr s else .inl false):=by
 unfold Lo at hs
 have hsz:=Rn s
 intro n
 induction n with
 |zero=>
  intro i hn hi
  refine Tot.succ ?_
  simp only[Eb]
  refine Hcb (by omega) (H7b ?_)
  rw[Wj (by omega)]
  rfl
 |succ n ih=>
  intro i hn hi
  have hlt:i<s.size:=by omega
  have hbb:=C3a s (i:Int)
  refine Tot.succ ?_
  simp only[Eb]
  refine Hbb (by omega) (Hbb (by omega) (Hbb (by omega) ?_))
  rw[w64 (n:=(i:Int)+1) (by omega) (by omega),w64 (n:=bt s (i:Int)) (by omega) (by omega)]
  have hb:bOk (s.data.toList[i]'(by omega))=Wt (bt s (i:Int)):=by rw[Eyb s i hlt];rfl
  rw[Zb (by omega),Hob,hb]
  generalize bt s (i:Int)=c
  have h1:=ih (i+1) (by omega) (by omega)
  have e:(((i+1:Nat)):Int)=(i:Int)+1:=by omega
  rw[e]at h1
  simp only[Pe,Vl]
  cases hc:Wt c with
  |true=>
   rw[Vz]
   obtain⟨r,K,h2,h3⟩:=h1
   refine⟨r,K,λ k hk=>?_,h3⟩
   rw[← h2 k hk]
   unfold Wt at hc
   revert hc
   cases inR c 97 122<;>cases inR c 48 57<;>cases (c != 45)<;>cases (c != 95)<;>cases (c != 47)<;>first|(intro _;rfl)|(intro hc;cases hc)
  |false=>
   rw[Zl]
   refine⟨.inl false,0,λ k _=>?_,rfl⟩
   unfold Wt at hc
   revert hc
   cases inR c 97 122<;>cases inR c 48 57<;>cases (c != 45)<;>cases (c != 95)<;>cases (c != 47)<;>first|(intro _;rfl)|(intro hc;cases hc)
def Az (s:ByteArray):Bool:=s.data.toList.all bOk&&inR (s.size:Int) 1 20
def Pi (s:ByteArray) (hs:Lo s):Tot (λ k=>Aj k s) (λ r=>r=Az s):=by
 unfold Aj Az
 refine Hib (L7a s hs _ 0 rfl (Vq _)) ?_
 rw[Wp]
 cases s.data.toList.all bOk with
 |true=>exact Hjb (a:=inR (s.size:Int) 1 20) (by simp only[cond_true,I1b,S9,Vl]) (by rw[Vz])
 |false=>exact H7b rfl
def Qb (s:ByteArray) (hs:Lo s):Tot (λ k=>Ar k s) (λ r=>r=Az s):=by
 unfold Ar Az
 refine Hib (L8a s hs _ 0 rfl (Vq _)) ?_
 rw[Wp]
 cases s.data.toList.all bOk with
 |true=>exact Hjb (a:=inR (s.size:Int) 1 20) (by simp only[cond_true,I1b,Pe,Vl]) (by rw[Vz])
 |false=>exact H7b rfl
def Fj (s:Stp):Bool:=inR s.1 0 1000000000&&(inR s.2.1 0 1000000&&inR s.2.2 0 20)
def Wu (s:Stp):Cp s=some (Fj s):=by
 unfold Cp Fj
 simp only[S9,Vl]
 cases inR s.1 0 1000000000<;>cases inR s.2.1 0 1000000<;>rfl
def T2 (s:Stp):Cn s=some (Fj s):=by
 unfold Cn Fj
 simp only[Pe,Vl]
 cases inR s.1 0 1000000000<;>cases inR s.2.1 0 1000000<;>rfl
def Om (x:Row):Bool:=Az x.1&&(Fj x.2.1&&(inR x.2.2.2 0 200&&(!x.2.2.1||x.2.2.2==0)))
def Tva (x:Row) (hs:Lo x.1):Tot (λ k=>L9 k x) (λ r=>r=Om x):=by
 unfold L9 Om
 refine Hib (Pi x.1 hs) ?_
 cases Az x.1
 ·exact H7b rfl
 refine Hjb (a:=Fj x.2.1&&(inR x.2.2.2 0 200&&(!x.2.2.1||x.2.2.2==0))) ?_ (by rw[Vz])
 simp only[cond_true,Wu,S9,Vl]
 cases Fj x.2.1<;>cases inR x.2.2.2 0 200<;>cases x.2.2.1<;>rfl
def Twa (x:Row) (hs:Lo x.1):Tot (λ k=>Je k x) (λ r=>r=Om x):=by
 unfold Je Om
 refine Hib (Qb x.1 hs) ?_
 cases Az x.1
 ·exact H7b rfl
 refine Hjb (a:=Fj x.2.1&&(inR x.2.2.2 0 200&&(!x.2.2.1||x.2.2.2==0))) ?_ (by rw[Vz])
 simp only[cond_true,T2,Pe,Vl]
 cases Fj x.2.1<;>cases inR x.2.2.2 0 200<;>cases x.2.2.1<;>rfl
def chk:Option ByteArray→List Row→Bool
 |_,[]=>true
 |none,r::l=>Om r&&chk (some r.1) l
 |some q,r::l=>Om r&&(tlt q r.1&&chk (some r.1) l)
def Lk (l:List Row):Bool:=chk none l&&decide ((l.length:Int)≤60)
def Ro (l:List Row):Prop:=∀ r∈l,Lo r.1
def A8a (l:List Row):Nat→Option ByteArray
 |0=>none
 |i+1=>some (l.getD i Nd).1
def Nqa (l:List Row) (i:Nat) (h:i<l.length):chk (A8a l i) (l.drop i)=(Om (l.getD i Nd)&&(bif decide (0<i) then tlt (l.getD (i-1) Nd).1 (l.getD i Nd).1 else true)&&chk (A8a l (i+1)) (l.drop (i+1))):=by
 rw[Ah (d:=Nd) h]
 cases i with
 |zero=>simp[A8a,chk]
 |succ i=>simp[A8a,chk,Kkb]
def A4 {α:Type} {l:List α} {i:Nat} {d:α} (h1:i<l.length):l.getD i d∈l:=by
 rw[Ve,Vk h1]
 exact Jab h1
def L9a (l:List Row) (hf:Few l) (hs:Ro l):∀ (n i:Nat),l.length-i=n→i≤l.length→
  Tot (λ k=>Hh k l l (l.length:Int) (i:Int)) (λ r=>r=bif chk (A8a l i) (l.drop i) then .inr l else .inl false):=by
 unfold Few at hf
 intro n
 induction n with
 |zero=>
  intro i hn hi
  refine Tot.succ ?_
  simp only[Hh]
  refine Hcb (by omega) (H7b ?_)
  rw[Wj (by omega)]
  cases A8a l i<;>rfl
 |succ n ih=>
  intro i hn hi
  have hlt:i<l.length:=by omega
  refine Tot.succ ?_
  simp only[Hh]
  refine Hbb (by omega) (Hbb (by omega) (Hbb (by omega) ?_))
  rw[show toNat (i:Int)=i from Vb i,w64 (n:=(i:Int)+1) (by omega) (by omega),Nqa l i hlt]
  have h1:=ih (i+1) (by omega) (by omega)
  have e:(((i+1:Nat)):Int)=(i:Int)+1:=by omega
  rw[e]at h1
  refine Hib (Tva (l.getD i Nd) (hs _ (A4 hlt))) ?_
  cases hb:Om (l.getD i Nd)
  ·exact Hab rfl (H7b (by simp))
  refine H9b rfl ?_
  rw[Vz]
  refine Heb (λ h0=>?_) (λ h0=>?_)
  ·rw[w64 (n:=(i:Int)-1) (by omega) (by omega)]
   refine Hbb (by omega) (Hbb (by omega) ?_)
   rw[show toNat ((i:Int)-1)=i-1 by omega,decide_eq_true (show 0<i by omega),cond_true]
   have et:(!(Op.bytesLess (l.getD (i-1) Nd).1.toList (l.getD i Nd).1.toList)) = !(tlt (l.getD (i-1) Nd).1 (l.getD i Nd).1):=rfl
   refine Hdb (λ ht=>?_) (λ ht=>?_)
   ·have ht':(!(tlt (l.getD (i-1) Nd).1 (l.getD i Nd).1))=true:=ht
    rw[Vw]at ht'
    exact H7b (by rw[ht'];rfl)
   ·have ht':(!(tlt (l.getD (i-1) Nd).1 (l.getD i Nd).1))=false:=ht
    rw[Wi]at ht'
    rw[ht',Vz]
    exact h1
  ·rw[decide_eq_false (show ¬ 0<i by omega),cond_false,Vz]
   exact h1
def Laa (l:List Row) (hf:Few l) (hs:Ro l):∀ (n i:Nat),l.length-i=n→i≤l.length→
  Tot (λ k=>Hc k l (i:Int)) (λ r=>r=bif chk (A8a l i) (l.drop i) then .inr l else .inl false):=by
 unfold Few at hf
 intro n
 induction n with
 |zero=>
  intro i hn hi
  refine Tot.succ ?_
  simp only[Hc]
  refine Hcb (by omega) (H7b ?_)
  rw[Wj (by omega)]
  cases A8a l i<;>rfl
 |succ n ih=>
  intro i hn hi
  have hlt:i<l.length:=by omega
  refine Tot.succ ?_
  simp only[Hc]
  refine Hbb (by omega) (Hbb (by omega) (Hbb (by omega) ?_))
  rw[show toNat (i:Int)=i from Vb i,w64 (n:=(i:Int)+1) (by omega) (by omega),Nqa l i hlt]
  have h1:=ih (i+1) (by omega) (by omega)
  have e:(((i+1:Nat)):Int)=(i:Int)+1:=by omega
  rw[e]at h1
  refine Hib (Twa (l.getD i Nd) (hs _ (A4 hlt))) ?_
  cases hb:Om (l.getD i Nd)
  ·exact Hab rfl (H7b (by simp))
  refine H9b rfl ?_
  rw[Vz]
  refine Heb (λ h0=>?_) (λ h0=>?_)
  ·rw[w64 (n:=(i:Int)-1) (by omega) (by omega)]
   refine Hbb (by omega) (Hbb (by omega) (Hbb (by omega) (Hbb (by omega) ?_)))
   rw[show toNat ((i:Int)-1)=i-1 by omega,decide_eq_true (show 0<i by omega),cond_true]
   refine Hdb (λ ht=>?_) (λ ht=>?_)
   ·have ht':(!(tlt (l.getD (i-1) Nd).1 (l.getD i Nd).1))=true:=ht
    rw[Vw]at ht'
    exact H7b (by rw[ht'];rfl)
   ·have ht':(!(tlt (l.getD (i-1) Nd).1 (l.getD i Nd).1))=false:=ht
    rw[Wi]at ht'
    rw[ht',Vz]
    exact h1
  ·rw[decide_eq_false (show ¬ 0<i by omega),cond_false,Vz]
   exact h1
def Nra (l:List Row) (hf:Few l) (hs:Ro l):Tot (λ k=>Fh k l) (λ r=>r=Lk l):=by
 unfold Fh Lk
 refine Hib (L9a l hf hs _ 0 rfl (Vq _)) ?_
 rw[Wp]
 show Tot _ (λ r=>r=(chk none l&&_))
 cases hc:chk none l with
 |true=>rw[show chk (A8a l 0) l=true from hc];exact H7b (by rw[Vz])
 |false=>rw[show chk (A8a l 0) l=false from hc];exact H7b rfl
def Nsa (l:List Row) (hf:Few l) (hs:Ro l):Tot (λ k=>Ff k l) (λ r=>r=Lk l):=by
 unfold Ff Lk
 refine Hib (Laa l hf hs _ 0 rfl (Vq _)) ?_
 rw[Wp]
 cases hc:chk none l with
 |true=>rw[show chk (A8a l 0) l=true from hc];exact H7b (by rw[Vz])
 |false=>rw[show chk (A8a l 0) l=false from hc];exact H7b rfl
def Lba:∀ (p:Option ByteArray) (l:List Row),chk p l=true↔Ln l∧(∀ r∈l,Om r=true)∧(∀ q,p=some q→∀ r∈l,tlt q r.1=true)
 |p,[]=>by
  have:chk p []=true:=by cases p<;>rfl
  simp[this,Ln]
 |none,r::l=>by
  simp only[chk,Va,Lba (some r.1) l,Ln,Wh]
  constructor
  ·rintro⟨h1,h2,h3,h4⟩
   exact⟨⟨λ a ha=>h4 _ rfl a ha,h2⟩,λ a ha=>by rcases Vm.1 ha with rfl|ha;exact h1;exact h3 a ha,λ q hq=>by cases hq⟩
  ·rintro⟨⟨h1,h2⟩,h3,_⟩
   exact⟨h3 r (by simp),h2,λ a ha=>h3 a (Vj _ ha),λ q hq a ha=>by cases hq;exact h1 a ha⟩
 |some q,r::l=>by
  simp only[chk,Va,Lba (some r.1) l,Ln,Wh]
  constructor
  ·rintro⟨h1,h0,h2,h3,h4⟩
   refine⟨⟨λ a ha=>h4 _ rfl a ha,h2⟩,λ a ha=>by rcases Vm.1 ha with rfl|ha;exact h1;exact h3 a ha,λ q' hq a ha=>?_⟩
   cases hq
   rcases Vm.1 ha with rfl|ha
   ·exact h0
   ·exact O3 h0 (h4 _ rfl a ha)
  ·rintro⟨⟨h1,h2⟩,h3,h4⟩
   exact⟨h3 r (by simp),h4 q rfl r (by simp),h2,λ a ha=>h3 a (Vj _ ha),λ q' hq a ha=>by cases hq;exact h1 a ha⟩
def Oy {l:List Row}:Lk l=true↔Ln l∧(∀ r∈l,Om r=true)∧l.length≤60:=by
 unfold Lk
 simp only[Va,Lba,decide_eq_true_eq]
 constructor
 ·rintro⟨⟨h1,h2,_⟩,h3⟩
  exact⟨h1,h2,by omega⟩
 ·rintro⟨h1,h2,h3⟩
  exact⟨⟨h1,h2,λ q hq=>by cases hq⟩,by omega⟩
def Uz (a b:List Row):List Row:=b.foldl mrg a
def Nta {a b:List Row} {r:Row} (h:r∈Uz a b):r∈a∨r∈b:=by
 induction b generalizing a with
 |nil=>exact .inl h
 |cons x b ih=>
  rcases ih (a:=mrg a x) h with h|h
  ·rcases Tua h with rfl|h
   ·exact .inr (by simp)
   ·exact .inl h
  ·exact .inr (Vj _ h)
def Lca {a b:List Row} (h:Ln a):Ln (Uz a b):=by
 induction b generalizing a with
 |nil=>exact h
 |cons x b ih=>exact ih (Eba h)
def Fwa (b:List Row) (hb:Few b):∀ (n i:Nat) (a:List Row),b.length-i=n→i≤b.length→a.length+(b.length-i)≤1000000000000→
  Tot (λ k=>F5 k a b (b.length:Int) (i:Int)) (λ r=>r=Uz a (b.drop i)):=by
 unfold Few at hb
 intro n
 induction n with
 |zero=>
  intro i a hn hi hf
  refine Tot.succ ?_
  simp only[F5]
  refine Hcb (by omega) (H7b ?_)
  rw[Wj (by omega)]
  rfl
 |succ n ih=>
  intro i a hn hi hf
  have hlt:i<b.length:=by omega
  refine Tot.succ ?_
  simp only[F5]
  refine Hbb (by omega) (Hbb (by omega) (Hbb (by omega) ?_))
  rw[show toNat (i:Int)=i from Vb i,w64 (n:=(i:Int)+1) (by omega) (by omega),Ah (d:=Nd) hlt]
  refine Hib (Tta a (b.getD i Nd) (by unfold Few;omega)) ?_
  have:=L6a a (b.getD i Nd)
  exact ih (i+1) (mrg a (b.getD i Nd)) (by omega) (by omega) (by omega)
def Q0a (a b:List Row) (hf:a.length+b.length≤1000000000000):Tot (λ k=>Dg k a b) (λ r=>r=Uz a b):=by
 unfold Dg
 refine H8b (Hjb (Q:=λ r=>r=a) (Ws a (by unfold Few;omega)) rfl) ?_
 rintro r rfl
 refine H8b (Fwa b (by unfold Few;omega) _ 0 r rfl (Vq _) (by omega)) ?_
 rintro y rfl
 rw[Wp]
 exact H7b rfl
def mx (a b:Row):Row:=bif Uk a b then b else a

def D4a:Nat→Nat→List Int
 |0,n=>[(n:Int)]
 |f+1,n=>if n≤127 then [(n:Int)] else ((n % 128+128:Nat):Int)::D4a f (n/128)
def Ql (n:Nat):List Int:=D4a 4 n
def Wv:Nat→Nat→Nat→List Int→Option (Nat×Nat)
 |0,_,_,_=>none
 |_+1,_,_,[]=>none
 |f+1,k,acc,x::l=>if 128≤x then Wv f (k+1) (acc+x.toNat % 128*128 ^ k) l
  else if (x=0∧0<k)∨1000000000<acc+x.toNat % 128*128 ^ k then none else some (acc+x.toNat % 128*128 ^ k,k+1)
def Qo (l:List Int) (p:Nat):Option (Nat×Nat):=match Wv 5 0 0 (l.drop p) with
 |some (n,c)=>some (n,p+c)
 |none=>none
def Txa:∀ (f n:Nat),(D4a f n).length≤f+1∧0<(D4a f n).length
 |0,n=>by simp[D4a]
 |f+1,n=>by
  unfold D4a
  split
  ·simp
  ·have:=Txa f (n/128)
   simp only[Vc]
   omega
def Um:∀ (f k acc:Nat) (l:List Int) (n c:Nat),As l→Wv f k acc l=some (n,c)→acc<128 ^ k→k<c∧c≤k+f∧c-k≤l.length∧n≤1000000000
 |0,_,_,_,_,_,_,h,_=>by simp[Wv]at h
 |_+1,_,_,[],_,_,_,h,_=>by simp[Wv]at h
 |f+1,k,acc,x::l,n,c,hb,h,ha=>by
  have hx:=hb x (by simp)
  unfold Wv at h
  split at h
  ·have h1:acc+x.toNat % 128*128 ^ k<128 ^ (k+1):=by
    have h2:x.toNat % 128≤127:=by omega
    have h3:=Wn (128 ^ k) h2
    rw[Zza]
    omega
   have:=Um f (k+1) _ l n c (λ y hy=>hb y (Vj _ hy)) h h1
   simp only[Vc]
   omega
  ·split at h
   ·cases h
   ·simp only[Vh,Wb]at h
    obtain⟨rfl,rfl⟩:=h
    simp only[Vc]
    omega
def Tya:∀ (f k acc:Nat) (l:List Int) (n c:Nat),As l→Wv (f+1) k acc l=some (n,c)→acc<128 ^ k→∃ m,n=acc+m*128 ^ k∧l=D4a f m++l.drop (c-k)∧(m=0→c=k+1∧(0<k→False))∧m<128 ^ (f+1)
 |0,k,acc,[],n,c,hb,h,ha=>by simp[Wv]at h
 |_+1,k,acc,[],n,c,hb,h,ha=>by simp[Wv]at h
 |0,k,acc,x::l,n,c,hb,h,ha=>by
  have hx:=hb x (by simp)
  unfold Wv at h
  split at h
  ·simp[Wv]at h
  ·rename_i h128
   split at h
   ·cases h
   ·rename_i hz
    simp only[Vh,Wb]at h
    obtain⟨rfl,rfl⟩:=h
    have hm:x.toNat % 128=x.toNat:=Hyb (by omega)
    refine⟨x.toNat,by rw[hm],?_,λ h0=>⟨rfl,λ hk=>hz (.inl ⟨by omega,hk⟩)⟩,by omega⟩
    rw[show k+1-k=1 by omega]
    show x::l=[((x.toNat:Nat):Int)]++l
    rw[show ((x.toNat:Nat):Int)=x by omega]
    rfl
 |f+1,k,acc,x::l,n,c,hb,h,ha=>by
  have hx:=hb x (by simp)
  have hb':As l:=λ y hy=>hb y (Vj _ hy)
  unfold Wv at h
  split at h
  ·rename_i h128
   have h1:acc+x.toNat % 128*128 ^ k<128 ^ (k+1):=by
    have h2:x.toNat % 128≤127:=by omega
    have h3:=Wn (128 ^ k) h2
    rw[Zza]
    omega
   obtain⟨m,e1,e2,e3,e4⟩:=Tya f (k+1) _ l n c hb' h h1
   have hbd:=Um (f+1) (k+1) _ l n c hb' h h1
   have hm0:m≠0:=λ h0=>(e3 h0).2 (by omega)
   refine⟨x.toNat % 128+m*128,?_,?_,λ h0=>by omega,?_⟩
   ·rw[e1,Zza,Yw]
    have:m*128*128 ^ k=m*(128 ^ k*128):=by rw[Nat.mul_assoc,Klb 128]
    omega
   ·unfold D4a
    rw[if_neg (by omega),show (x.toNat % 128+m*128)/128=m by omega,show (x.toNat % 128+m*128) % 128=x.toNat % 128 by omega,show c-k=(c-(k+1))+1 by omega,List.drop_succ_cons,List.cons_append,← e2]
    congr 1
    omega
   ·rw[Zza]
    omega
  ·rename_i h128
   split at h
   ·cases h
   ·rename_i hz
    simp only[Vh,Wb]at h
    obtain⟨rfl,rfl⟩:=h
    have hm:x.toNat % 128=x.toNat:=Hyb (by omega)
    have hp:128≤128 ^ (f+1+1):=by
     have:=Nat.pow_le_pow_right (show 0<128 by decide) (show 1≤f+1+1 by omega)
     simpa using this
    refine⟨x.toNat,by rw[hm],?_,λ h0=>⟨rfl,λ hk=>hz (.inl ⟨by omega,hk⟩)⟩,by omega⟩
    rw[show k+1-k=1 by omega]
    unfold D4a
    rw[if_pos (by omega)]
    show x::l=[((x.toNat:Nat):Int)]++l
    rw[show ((x.toNat:Nat):Int)=x by omega]
    rfl
def Tza:∀ (f k acc m:Nat) (rest:List Int),m<128 ^ (f+1)→(0<k→0<m)→acc+m*128 ^ k≤1000000000→Wv (f+1) k acc (D4a f m++rest)=some (acc+m*128 ^ k,k+(D4a f m).length)
 |0,k,acc,m,rest,hm,hk,hn=>by
  show Wv 1 k acc ((m:Int)::rest)=_
  unfold Wv
  have h1:m<128:=by simpa using hm
  rw[if_neg (by omega),if_neg (by
   rw[show (m:Int).toNat % 128=m by rw[Vb];exact Hyb h1]
   omega)]
  rw[show (m:Int).toNat % 128=m by rw[Vb];exact Hyb h1]
  rfl
 |f+1,k,acc,m,rest,hm,hk,hn=>by
  unfold D4a
  by_cases h:m≤127
  ·rw[if_pos h]
   show Wv (f+2) k acc ((m:Int)::rest)=_
   unfold Wv
   rw[if_neg (by omega),if_neg (by
    rw[show (m:Int).toNat % 128=m by rw[Vb];exact Hyb (by omega)]
    omega)]
   rw[show (m:Int).toNat % 128=m by rw[Vb];exact Hyb (by omega)]
   rfl
  ·rw[if_neg h]
   show Wv (f+2) k acc (((m % 128+128:Nat):Int)::(D4a f (m/128)++rest))=_
   unfold Wv
   have e1:(((m % 128+128:Nat):Int)).toNat % 128=m % 128:=by rw[Vb];omega
   rw[if_pos (by omega),e1]
   have hmod:m=m % 128+m/128*128:=by omega
   have hm2:m/128<128 ^ (f+1):=by rw[Zza]at hm;omega
   have e2:acc+m % 128*128 ^ k+m/128*128 ^ (k+1)=acc+m*128 ^ k:=by
    have h2:m*128 ^ k=(m % 128+m/128*128)*128 ^ k:=by rw[← hmod]
    rw[h2,Yw,Zza]
    have:m/128*128*128 ^ k=m/128*(128 ^ k*128):=by rw[Nat.mul_assoc,Klb 128]
    omega
   rw[Tza f (k+1) (acc+m % 128*128 ^ k) (m/128) rest hm2 (λ _=>by omega) (by rw[e2];exact hn),e2,Vc]
   simp only[Vh,Wb,true_and]
   omega
def Nua (pre:List Int) (n:Nat) (rest:List Int) (hn:n≤1000000000):Qo (pre++(Ql n++rest)) pre.length=some (n,pre.length+(Ql n).length):=by
 unfold Qo
 rw[Zi]
 have:=Tza 4 0 0 n rest (by omega) (by omega) (by omega)
 unfold Ql
 rw[this]
 simp
def Un {l:List Int} {p n q:Nat} (hb:As l) (h:Qo l p=some (n,q)):l.drop p=Ql n++l.drop q∧n≤1000000000∧p<q∧q≤l.length:=by
 unfold Qo at h
 split at h
 ·rename_i m c hd
  simp only[Vh,Wb]at h
  obtain⟨rfl,rfl⟩:=h
  have hb':As (l.drop p):=λ y hy=>hb y (Zn hy)
  have hbd:=Um 5 0 0 _ _ _ hb' hd (by decide)
  obtain⟨m',e1,e2,_,_⟩:=Tya 4 0 0 _ _ _ hb' hd (by decide)
  have e3:m=m':=by rw[e1];simp
  subst e3
  rw[Wd]at hbd
  refine⟨?_,hbd.2.2.2,by omega,by omega⟩
  rw[Jqb,Yn]at e2
  exact e2
 ·cases h
def H4b (i:Nat) (hi:i<5):(2:Int) ^ (min (toNat (wrap .i64 (7*(i:Int)))) (IntKind.bits .i64))=((128 ^ i:Nat):Int):=by
 have:i=0∨i=1∨i=2∨i=3∨i=4:=by omega
 rcases this with rfl|rfl|rfl|rfl|rfl<;>decide
def Gab (i:Nat) (hi:i<5):(2:Int) ^ (min (toNat (wrap .u64 (wrap .i64 (7*(i:Int))))) (IntKind.bits .i64))=((128 ^ i:Nat):Int):=by
 have:i=0∨i=1∨i=2∨i=3∨i=4:=by omega
 rcases this with rfl|rfl|rfl|rfl|rfl<;>decide
def sh7 (i:Nat) (hi:i<5):¬ (wrap .i64 (7*(i:Int))<0)∧¬ (wrap .u64 (wrap .i64 (7*(i:Int)))<0):=by
 have:i=0∨i=1∨i=2∨i=3∨i=4:=by omega
 rcases this with rfl|rfl|rfl|rfl|rfl<;>decide
def R5 (i:Nat) (hi:i≤5):128 ^ i≤34359738368:=by
 have:=Nat.pow_le_pow_right (show 0<128 by decide) hi
 simpa using this
def T3 (n:Nat) (h:n<18446744073709551616):(ofInt (IntKind.bits .i64) (n:Int)).toNat=n:=by
 rw[Ivb]
 show ((n:Int) % ((2 ^ 64:Nat):Int)).toNat=n
 rw[Int.emod_eq_of_lt (by omega) (by omega)]
 exact Vb n
def Abb (n:Nat) (h:n<9223372036854775808):wrap .i64 ((ofInt (IntKind.bits .i64) (n:Int) &&& ofInt (IntKind.bits .i64) 127).toNat)=((n % 128:Nat):Int):=by
 rw[Imb,T3 n (by omega),show (ofInt (IntKind.bits .i64) 127).toNat=127 from by decide,show (127:Nat)=2 ^ 7-1 from rfl,J8b]
 exact w64 (by omega) (by omega)
def Nva (a m i:Nat) (ha:a<128 ^ i) (hm:m<128) (hi:i<5):wrap .i64 ((ofInt (IntKind.bits .i64) (a:Int) ||| ofInt (IntKind.bits .i64) ((m*128 ^ i:Nat):Int)).toNat)=((a+m*128 ^ i:Nat):Int):=by
 have hp:=R5 i (by omega)
 have hmul:m*128 ^ i≤127*34359738368:=Jwb (by omega) hp
 rw[BitVec.toNat_or,T3 a (by omega),T3 _ (by omega),Nat.or_comm]
 have e:(128:Nat) ^ i=2 ^ (7*i):=by rw[Nat.pow_mul]
 have h2:=Nat.two_pow_add_eq_or_of_lt (i:=7*i) (b:=a) (by rw[← e];exact ha) m
 rw[← e,Klb]at h2
 rw[← h2,Zx]
 exact w64 (by omega) (by omega)
def Lda (l:List Int) (p:Int):Int×Int×Bool:=if p<0 then (0,0,false) else match Qo l p.toNat with
 |some (n,q)=>((n:Int),(q:Int),true)
 |none=>(0,0,false)
def Fxb (p:Nat):Option (Nat×Nat)→Int×Int×Bool
 |some (n,c)=>((n:Int),((p+c:Nat):Int),true)
 |none=>(0,0,false)
def C4a (r:Sum (Int×Int×Bool) Unit):Int×Int×Bool:=Sum.elim (λ y=>y) (λ _=>(0,0,false)) r
def Iea {l:List Int} {p:Nat} (h:p<l.length):l.drop p=l.getD p 0::l.drop (p+1):=Ah h
def Q1a (l:List Int) (hb:As l) (hl:l.length≤1000000000000) (p:Nat) (hp:p≤1000000000000):∀ (f i acc:Nat),f+i=5→acc<128 ^ i→
  Tot (λ k=>Hi k l (p:Int) (acc:Int) (i:Int)) (λ r=>C4a r=Fxb p (Wv f i acc (l.drop (p+i)))):=by
 intro f
 induction f with
 |zero=>
  intro i acc hi ha
  refine Tot.succ ?_
  simp only[Hi]
  exact Hcb (by omega) (H7b rfl)
 |succ f ih=>
  intro i acc hi ha
  have hi5:i<5:=by omega
  refine Tot.succ ?_
  simp only[Hi]
  refine Hbb (by omega) (Hbb (by omega) ?_)
  rw[w64 (n:=(l.length:Int)-(i:Int)) (by omega) (by omega),w64 (n:=(p:Int)+(i:Int)) (by omega) (by omega),show toNat ((p:Int)+(i:Int))=p+i by omega]
  refine Heb (λ h=>?_) (λ h=>?_)
  ·have hlt:p+i<l.length:=by omega
   refine Hbb (by omega) (Hbb (by omega) ?_)
   have hx:=hb (l.getD (p+i) 0) (A4 hlt)
   rw[Iea hlt,H4b i hi5]
   have he:Wv (f+1) i acc (l.getD (p+i) 0::l.drop (p+i+1))=if 128≤l.getD (p+i) 0 then Wv f (i+1) (acc+(l.getD (p+i) 0).toNat % 128*128 ^ i) (l.drop (p+i+1)) else if (l.getD (p+i) 0=0∧0<i)∨1000000000<acc+(l.getD (p+i) 0).toNat % 128*128 ^ i then none else some (acc+(l.getD (p+i) 0).toNat % 128*128 ^ i,i+1):=rfl
   rw[he]
   generalize l.getD (p+i) 0=x at hx ⊢
   obtain⟨v,rfl⟩:∃ v:Nat,x=(v:Int):=⟨x.toNat,by omega⟩
   rw[Vb]
   have hp1:=R5 i (by omega)
   have hmul:v % 128*128 ^ i≤127*34359738368:=Jwb (by omega) hp1
   rw[w64 (n:=(v:Int)) (by omega) (by omega)]
   have e1:Int.tmod (v:Int) 128*((128 ^ i:Nat):Int)=((v % 128*128 ^ i:Nat):Int):=by
    rw[Zv (by omega)]
    push_cast
    rfl
   rw[e1,w64 (n:=((v % 128*128 ^ i:Nat):Int)) (by omega) (by omega),← Int.natCast_add,w64 (n:=((acc+v % 128*128 ^ i:Nat):Int)) (by omega) (by omega),w64 (n:=(i:Int)+1) (by omega) (by omega),w64 (n:=(p:Int)+(i:Int)+1) (by omega) (by omega)]
   refine Hcb (sh7 i hi5).1 ?_
   refine Heb (λ h128=>?_) (λ h128=>?_)
   ·rw[if_pos (by omega)]
    have h1:acc+v % 128*128 ^ i<128 ^ (i+1):=by
     have h2:v % 128≤127:=by omega
     have h3:=Wn (128 ^ i) h2
     rw[Zza]
     omega
    have:=ih (i+1) (acc+v % 128*128 ^ i) (by omega) h1
    rw[show p+(i+1)=p+i+1 by omega]at this
    exact this
   ·rw[if_neg (by omega)]
    have big:Tot (λ _:Nat=>cond (decide (((acc+v % 128*128 ^ i:Nat):Int) > 1000000000)) (some (Sum.inl ((0:Int),(0:Int),false))) (some (Sum.inl (((acc+v % 128*128 ^ i:Nat):Int),(p:Int)+(i:Int)+1,true))):Nat→Option (Sum (Int×Int×Bool) Unit))
      (λ r=>C4a r=if 1000000000<acc+v % 128*128 ^ i then (0,0,false) else (((acc+v % 128*128 ^ i:Nat):Int),((p+(i+1):Nat):Int),true)):=by
     refine Heb (λ hbig=>?_) (λ hbig=>?_)
     ·rw[if_pos (by omega)];exact H7b rfl
     ·rw[if_neg (by omega)]
      refine H7b ?_
      show (_,_,_)=_
      rw[show (p:Int)+(i:Int)+1=((p+(i+1):Nat):Int) by omega]
    have goal:∀ c:Prop,[Decidable c]→(if c∨1000000000<acc+v % 128*128 ^ i then none else some (acc+v % 128*128 ^ i,i+1))=if c then none else if 1000000000<acc+v % 128*128 ^ i then (none:Option (Nat×Nat)) else some (acc+v % 128*128 ^ i,i+1):=by
     intro c _
     by_cases h1:c<;>by_cases h2:1000000000<acc+v % 128*128 ^ i<;>simp[h1,h2]
    rw[goal]
    have fin:(Fxb p (if 1000000000<acc+v % 128*128 ^ i then (none:Option (Nat×Nat)) else some (acc+v % 128*128 ^ i,i+1)))=if 1000000000<acc+v % 128*128 ^ i then (0,0,false) else (((acc+v % 128*128 ^ i:Nat):Int),((p+(i+1):Nat):Int),true):=by
     split<;>rfl
    refine Hdb (λ h0=>?_) (λ h0=>?_)
    ·have hv:v=0:=by
      have:=beq_iff_eq.1 h0
      omega
     refine Heb (λ hi0=>?_) (λ hi0=>?_)
     ·rw[if_pos ⟨by omega,by omega⟩];exact H7b rfl
     ·rw[if_neg (by omega),fin];exact big
    ·have hv:v≠0:=by
      intro e
      subst e
      simp at h0
     rw[if_neg (by omega),fin];exact big
  ·refine H7b ?_
   rw[Wj (by omega)]
   rfl
def U0a (l:List Int) (hb:As l) (hl:l.length≤1000000000000) (p:Int) (hp:p≤1000000000000):Tot (λ k=>Iz k l p) (λ r=>r=Lda l p):=by
 unfold Iz Lda
 by_cases h0:p<0
 ·rw[if_pos h0]
  refine H8b (Q:=λ r=>r = .inr ()) ?_ ?_
  ·refine Tot.succ ?_
   simp only[Hi]
   exact Hbb (by omega) (Hcb (by omega) (H7b rfl))
  ·rintro r rfl
   exact H7b rfl
 ·rw[if_neg h0]
  obtain⟨n,rfl⟩:∃ n:Nat,p=(n:Int):=⟨p.toNat,by omega⟩
  rw[Vb]
  refine H8b (Q1a l hb hl n (by omega) 5 0 0 rfl (by decide)) ?_
  intro r hr
  unfold Qo
  rw[Zr]at hr
  have hr':C4a r=(match (match Wv 5 0 0 (l.drop n) with|some (m,c)=>some (m,n+c)|none=>none) with|some (m,q)=>((m:Int),(q:Int),true)|none=>((0:Int),(0:Int),false)):=by
   rw[hr]
   cases Wv 5 0 0 (l.drop n) with
   |none=>rfl
   |some mc=>rfl
  rw[← hr']
  cases r with
  |inl y=>exact H7b rfl
  |inr z=>exact H7b rfl

def Q2a (l:List Int) (hb:As l) (hl:l.length≤1000000000000) (p:Nat) (hp:p<l.length):∀ (f i acc:Nat),f+i=5→acc<128 ^ i→
  Tot (λ k=>Fz k l (p:Int) (acc:Int) (i:Int)) (λ r=>C4a r=Fxb p (Wv f i acc (l.drop (p+i)))):=by
 intro f
 induction f with
 |zero=>
  intro i acc hi ha
  refine Tot.succ ?_
  simp only[Fz]
  exact Hcb (by omega) (H7b rfl)
 |succ f ih=>
  intro i acc hi ha
  have hi5:i<5:=by omega
  refine Tot.succ ?_
  simp only[Fz]
  refine Hbb (by omega) (Hbb (by omega) (Hbb (by omega) ?_))
  rw[w64 (n:=(p:Int)+(i:Int)) (by omega) (by omega),show toNat ((p:Int)+(i:Int))=p+i by omega]
  refine Heb (λ h=>?_) (λ h=>?_)
  ·have hlt:p+i<l.length:=by omega
   refine Hbb (by omega) (Hbb (by omega) ?_)
   have hx:=hb (l.getD (p+i) 0) (A4 hlt)
   rw[Iea hlt,Gab i hi5]
   have he:Wv (f+1) i acc (l.getD (p+i) 0::l.drop (p+i+1))=if 128≤l.getD (p+i) 0 then Wv f (i+1) (acc+(l.getD (p+i) 0).toNat % 128*128 ^ i) (l.drop (p+i+1)) else if (l.getD (p+i) 0=0∧0<i)∨1000000000<acc+(l.getD (p+i) 0).toNat % 128*128 ^ i then none else some (acc+(l.getD (p+i) 0).toNat % 128*128 ^ i,i+1):=rfl
   rw[he]
   generalize l.getD (p+i) 0=x at hx ⊢
   obtain⟨v,rfl⟩:∃ v:Nat,x=(v:Int):=⟨x.toNat,by omega⟩
   rw[Vb]
   have hp1:=R5 i (by omega)
   have hmul:v % 128*128 ^ i≤127*34359738368:=Jwb (by omega) hp1
   rw[w64 (n:=(v:Int)) (by omega) (by omega),Abb v (by omega)]
   have e1:((v % 128:Nat):Int)*((128 ^ i:Nat):Int)=((v % 128*128 ^ i:Nat):Int):=by push_cast;rfl
   rw[e1,w64 (n:=((v % 128*128 ^ i:Nat):Int)) (by omega) (by omega),Nva acc (v % 128) i ha (by omega) hi5,w64 (n:=(i:Int)+1) (by omega) (by omega),w64 (n:=(p:Int)+(i:Int)+1) (by omega) (by omega)]
   refine Hcb (sh7 i hi5).2 ?_
   refine Heb (λ h128=>?_) (λ h128=>?_)
   ·rw[if_pos (by omega)]
    have h1:acc+v % 128*128 ^ i<128 ^ (i+1):=by
     have h2:v % 128≤127:=by omega
     have h3:=Wn (128 ^ i) h2
     rw[Zza]
     omega
    have:=ih (i+1) (acc+v % 128*128 ^ i) (by omega) h1
    rw[show p+(i+1)=p+i+1 by omega]at this
    exact this
   ·rw[if_neg (by omega)]
    have big:Tot (λ _:Nat=>cond (decide (((acc+v % 128*128 ^ i:Nat):Int) > 1000000000)) (some (Sum.inl ((0:Int),(0:Int),false))) (some (Sum.inl (((acc+v % 128*128 ^ i:Nat):Int),(p:Int)+(i:Int)+1,true))):Nat→Option (Sum (Int×Int×Bool) Unit))
      (λ r=>C4a r=if 1000000000<acc+v % 128*128 ^ i then (0,0,false) else (((acc+v % 128*128 ^ i:Nat):Int),((p+(i+1):Nat):Int),true)):=by
     refine Heb (λ hbig=>?_) (λ hbig=>?_)
     ·rw[if_pos (by omega)];exact H7b rfl
     ·rw[if_neg (by omega)]
      refine H7b ?_
      show (_,_,_)=_
      rw[show (p:Int)+(i:Int)+1=((p+(i+1):Nat):Int) by omega]
    have goal:∀ c:Prop,[Decidable c]→(if c∨1000000000<acc+v % 128*128 ^ i then none else some (acc+v % 128*128 ^ i,i+1))=if c then none else if 1000000000<acc+v % 128*128 ^ i then (none:Option (Nat×Nat)) else some (acc+v % 128*128 ^ i,i+1):=by
     intro c _
     by_cases h1:c<;>by_cases h2:1000000000<acc+v % 128*128 ^ i<;>simp[h1,h2]
    rw[goal]
    have fin:(Fxb p (if 1000000000<acc+v % 128*128 ^ i then (none:Option (Nat×Nat)) else some (acc+v % 128*128 ^ i,i+1)))=if 1000000000<acc+v % 128*128 ^ i then (0,0,false) else (((acc+v % 128*128 ^ i:Nat):Int),((p+(i+1):Nat):Int),true):=by
     split<;>rfl
    refine Heb (λ hi0=>?_) (λ hi0=>?_)
    ·refine Hdb (λ h0=>?_) (λ h0=>?_)
     ·have hv:v=0:=by
       have:=beq_iff_eq.1 h0
       omega
      rw[if_pos ⟨by omega,by omega⟩];exact H7b rfl
     ·have hv:v≠0:=by
       intro e
       subst e
       simp at h0
      rw[if_neg (by omega),fin];exact big
    ·rw[if_neg (by omega),fin];exact big
  ·refine H7b ?_
   rw[Wj (by omega)]
   rfl
def Xz (l:List Int) (hb:As l) (hl:l.length≤1000000000000) (p:Int):Tot (λ k=>Em k l p) (λ r=>r=Lda l p):=by
 unfold Em Lda
 by_cases h0:p<0
 ·rw[if_pos h0]
  refine H8b (Q:=λ r=>r = .inr ()) ?_ ?_
  ·refine Tot.succ ?_
   simp only[Fz]
   exact Hbb (by omega) (Hcb (by omega) (H7b rfl))
  ·rintro r rfl
   exact H7b rfl
 ·rw[if_neg h0]
  by_cases h1:p<(l.length:Int)
  ·obtain⟨n,rfl⟩:∃ n:Nat,p=(n:Int):=⟨p.toNat,by omega⟩
   rw[Vb]
   refine H8b (Q2a l hb hl n (by omega) 5 0 0 rfl (by decide)) ?_
   intro r hr
   unfold Qo
   rw[Zr]at hr
   have hr':C4a r=(match (match Wv 5 0 0 (l.drop n) with|some (m,c)=>some (m,n+c)|none=>none) with|some (m,q)=>((m:Int),(q:Int),true)|none=>((0:Int),(0:Int),false)):=by
    rw[hr]
    cases Wv 5 0 0 (l.drop n) with
    |none=>rfl
    |some mc=>rfl
   refine Tot.mono (Q:=λ y=>y=C4a r) ?_ (λ y hy=>hy.trans hr')
   cases r with
   |inl y=>exact H7b rfl
   |inr z=>exact H7b rfl
  ·have e:Qo l p.toNat=none:=by
    unfold Qo
    rw[Wj (by omega)]
    rfl
   rw[e]
   refine H8b (Q:=λ r=>r = .inr ()) ?_ ?_
   ·refine Tot.succ ?_
    simp only[Fz]
    exact Hbb (by omega) (Hbb (by omega) (Hcb h1 (H7b rfl)))
   ·rintro r rfl
    exact H7b rfl
def C1 (n:Int):Nat:=(max 0 (min n 1000000000)).toNat
def Pz (n:Int):C1 n≤1000000000:=by unfold C1;omega
def C5a {n:Int} (h0:0≤n) (h1:n≤1000000000):(C1 n:Int)=n:=by unfold C1;omega
def Ifa (n:Nat) (h:n≤255):wrap .u8 (n:Int)=(n:Int):=by
 rw[Iwb]
 omega
def Q3a:∀ (f n:Nat) (out:List Int),n<128 ^ (f+1)→f≤4→out.length+f≤1000000000010→
  Tot (λ k=>Ig k out (n:Int)) (λ r=>∃ m:Nat,r.2=(m:Int)∧m≤127∧r.1++[(m:Int)]=out++D4a f n∧r.1.length≤out.length+f):=by
 intro f
 induction f with
 |zero=>
  intro n out hn hf hl
  refine Tot.succ ?_
  simp only[Ig]
  have:n<128:=by simpa using hn
  exact Hcb (by omega) (H7b ⟨n,rfl,by omega,rfl,by simp⟩)
 |succ f ih=>
  intro n out hn hf hl
  have hp:=R5 (f+1+1-1) (by omega)
  refine Tot.succ ?_
  simp only[Ig]
  refine Heb (λ h=>?_) (λ h=>?_)
  ·have hn2:n/128<128 ^ (f+1):=by rw[Zza]at hn;omega
   have hn3:n<4398046511104:=by
    have:=R5 (f+1) (by omega)
    rw[Zza]at hn
    omega
   have e1:Int.tmod (n:Int) 128+128=((n % 128+128:Nat):Int):=by
    rw[Zv (by omega)]
    omega
   have e2:Int.tdiv (n:Int) 128=((n/128:Nat):Int):=by
    rw[Hlb (by omega)]
    omega
   rw[e1,e2,w64 (n:=((n % 128+128:Nat):Int)) (by omega) (by omega),w64 (n:=((n/128:Nat):Int)) (by omega) (by omega),Ifa _ (by omega)]
   refine Hfb (by simp only[Vc,Vg];omega) ?_
   refine(ih (n/128) (out++[((n % 128+128:Nat):Int)]) hn2 (by omega) (by simp only[Vd,Vc,Vg];omega)).mono ?_
   rintro r ⟨m,h1,h2,h3,h4⟩
   refine⟨m,h1,h2,?_,by simp only[Vd,Vc,Vg]at h4;omega⟩
   rw[h3,Vo]
   congr 1
   conv => { rhs;unfold D4a }
   rw[if_neg (by omega)]
   rfl
  ·refine H7b ⟨n,rfl,by omega,?_,by show out.length≤out.length+(f+1);omega⟩
   unfold D4a
   rw[if_pos (by omega)]
def C6a (out:List Int) (n:Int) (hl:out.length≤1000000000000):Tot (λ k=>Gb k out n) (λ r=>r=out++Ql (C1 n)):=by
 unfold Gb
 have e:(if (0:Int)<(if (1000000000:Int)<n then 1000000000 else n) then (if (1000000000:Int)<n then 1000000000 else n) else 0)=((C1 n:Nat):Int):=by
  unfold C1
  split<;>split<;>omega
 simp only
 rw[e]
 have hc:=Pz n
 refine H8b (Q3a 4 (C1 n) out (by omega) (by omega) (by omega)) ?_
 rintro r ⟨m,h1,h2,h3,h4⟩
 rw[h1,Ifa m (by omega)]
 refine Hfb (by simp only[Vc,Vg];omega) (H7b h3)
def Q4a:∀ (f n:Nat) (out:List Int),n<128 ^ (f+1)→f≤4→out.length+f≤1000000000010→
  Tot (λ k=>Ea k (n:Int) out) (λ r=>∃ m:Nat,r.1=(m:Int)∧m≤127∧r.2++[(m:Int)]=out++D4a f n∧r.2.length≤out.length+f):=by
 intro f
 induction f with
 |zero=>
  intro n out hn hf hl
  refine Tot.succ ?_
  simp only[Ea]
  have:n<128:=by simpa using hn
  exact Hcb (by omega) (H7b ⟨n,rfl,by omega,rfl,by simp⟩)
 |succ f ih=>
  intro n out hn hf hl
  refine Tot.succ ?_
  simp only[Ea]
  refine Heb (λ h=>?_) (λ h=>?_)
  ·have hn2:n/128<128 ^ (f+1):=by rw[Zza]at hn;omega
   have hn3:n<4398046511104:=by
    have:=R5 (f+1) (by omega)
    rw[Zza]at hn
    omega
   have e1:wrap .i64 ((ofInt (IntKind.bits .i64) ((n % 128:Nat):Int) ||| ofInt (IntKind.bits .i64) 128).toNat)=((n % 128+128:Nat):Int):=by
    have:=Nva (n % 128) 1 1 (by omega) (by omega) (by omega)
    exact this
   have e2:Int.fdiv (n:Int) (2 ^ (min (toNat 7) (IntKind.bits .i64)))=((n/128:Nat):Int):=by
    have:(2:Int) ^ (min (toNat 7) (IntKind.bits .i64))=128:=by decide
    rw[this,Hmb _ (by omega)]
    omega
   rw[Abb n (by omega),e1,e2,Ifa _ (by omega)]
   refine Hfb (by simp only[Vc,Vg];omega) ?_
   refine(ih (n/128) (out++[((n % 128+128:Nat):Int)]) hn2 (by omega) (by simp only[Vd,Vc,Vg];omega)).mono ?_
   rintro r ⟨m,h1,h2,h3,h4⟩
   refine⟨m,h1,h2,?_,by simp only[Vd,Vc,Vg]at h4;omega⟩
   rw[h3,Vo]
   congr 1
   conv => { rhs;unfold D4a }
   rw[if_neg (by omega)]
   rfl
  ·refine H7b ⟨n,rfl,by omega,?_,by show out.length≤out.length+(f+1);omega⟩
   unfold D4a
   rw[if_pos (by omega)]
def Y0 (out:List Int) (n:Int) (hl:out.length≤1000000000000):Tot (λ k=>Eo k out n) (λ r=>r=out++Ql (C1 n)):=by
 have hc:=Pz n
 have fin:Tot (λ k=>(Ea k ((C1 n:Nat):Int) (([]:List Int)++out)).bind λ r1=>cond (Nat.ble ((length r1.2+length [wrap .u8 r1.1])*1) 140737488355328) (some (r1.2++[wrap .u8 r1.1])) none) (λ r=>r=out++Ql (C1 n)):=by
  rw[Vx]
  refine H8b (Q4a 4 (C1 n) out (by omega) (by omega) (by omega)) ?_
  rintro r ⟨m,h1,h2,h3,h4⟩
  rw[h1,Ifa m (by omega)]
  exact Hfb (by simp only[Vc,Vg];omega) (H7b h3)
 unfold Eo
 refine Hfb (by simp only[Vg];omega) ?_
 refine Heb (λ h1=>?_) (λ h1=>?_)
 ·refine Hcb (by omega) ?_
  have e:((C1 n:Nat):Int)=1000000000:=by unfold C1;omega
  rw[e]at fin
  exact fin
 ·refine Heb (λ h2=>?_) (λ h2=>?_)
  ·have e:((C1 n:Nat):Int)=0:=by unfold C1;omega
   rw[e]at fin
   exact fin
  ·have e:((C1 n:Nat):Int)=n:=by unfold C1;omega
   rw[e]at fin
   exact fin
def Np (n:Nat):(Ql n).length≤5∧0<(Ql n).length:=Txa 4 n
def Eca:∀ (f n:Nat),n<128 ^ (f+1)→As (D4a f n)
 |0,n,hn=>by
  intro x hx
  simp only[D4a,Vu]at hx
  have:n<128:=by simpa using hn
  omega
 |f+1,n,hn=>by
  unfold D4a
  split
  ·intro x hx
   simp only[Vu]at hx
   omega
  ·intro x hx
   rcases Vm.1 hx with rfl|hx
   ·omega
   ·exact Eca f (n/128) (by rw[Zza]at hn;omega) x hx
def Q5a (n:Nat) (hn:n≤1000000000):As (Ql n):=Eca 4 n (by omega)
def Eda (s:ByteArray):As (bytesOf s):=by
 intro x hx
 unfold bytesOf at hx
 obtain⟨b,_,rfl⟩:=Zc.1 hx
 have:=b.toNat_lt
 omega
def Rp (s:ByteArray):(bytesOf s).length=s.size:=by
 unfold bytesOf
 rw[We]
 exact Yx
def Ww (s:ByteArray):Mu (bytesOf s)=s:=by
 unfold Mu bytesOf
 rw[Igb]
 have:(λ n:Int=>UInt8.ofNat n.toNat) ∘ (λ b:UInt8=>(b.toNat:Int))=id:=by
  funext b
  show UInt8.ofNat ((b.toNat:Int)).toNat=b
  rw[Vb]
  exact UInt8.ofNat_toNat
 rw[this,List.map_id]
def Pj {l:List Int} (h:As l):bytesOf (Mu l)=l:=by
 unfold Mu bytesOf
 show List.map _ (List.map _ l)=l
 rw[Igb]
 have:∀ x∈l,((λ b:UInt8=>(b.toNat:Int)) ∘ (λ n:Int=>UInt8.ofNat n.toNat)) x=x:=by
  intro x hx
  have hb:=h x hx
  show ((UInt8.ofNat x.toNat).toNat:Int)=x
  rw[UInt8.toNat_ofNat']
  omega
 exact(Hvb this).trans (List.map_id' l)
def Oz (l:List Int):(Mu l).size=l.length:=by
 unfold Mu
 show (List.map _ l).toArray.size=l.length
 simp
def txt (s:ByteArray):List Int:=Ql (C1 (s.size:Int))++bytesOf s
def Y3a (out:List Int) (s:ByteArray) (hl:out.length≤1000000000000) (hs:s.size≤1000000000000):Tot (λ k=>Kx k out s) (λ r=>r=out++txt s):=by
 unfold Kx txt
 refine Hib (C6a out _ hl) ?_
 have:=(Np (C1 (s.size:Int))).1
 refine Hfb (by simp only[Vd];omega) (H7b ?_)
 rw[Vo]
def Nwa (out:List Int) (s:ByteArray) (hl:out.length≤1000000000000) (hs:s.size≤1000000000000):Tot (λ k=>Kk k out s) (λ r=>r=out++txt s):=by
 unfold Kk txt
 refine Hib (Y0 out _ hl) ?_
 have:=(Np (C1 (s.size:Int))).1
 refine Hfb (by simp only[Vd];omega) (H7b ?_)
 rw[Vo]
def Nxa (l:List Int) (p:Nat):Option (ByteArray×Nat):=match Qo l p with
 |some (n,q)=>if q+n≤l.length then some (Mu ((l.drop q).take n),q+n) else none
 |none=>none
def Dtb (l:List Int) (p:Int):ByteArray×Int×Bool:=if p<0 then ((⟨#[]⟩:ByteArray),0,false) else match Nxa l p.toNat with
 |some (s,q)=>(s,(q:Int),true)
 |none=>((⟨#[]⟩:ByteArray),0,false)
def Eea (l:List Int) (hb:As l) (p:Int):Lda l p=(0,0,false)∨∃ n q,0≤p∧Qo l p.toNat=some (n,q)∧Lda l p=((n:Int),(q:Int),true)∧n≤1000000000∧q≤l.length:=by
 unfold Lda
 by_cases h:p<0
 ·rw[if_pos h];exact .inl rfl
 ·rw[if_neg h]
  cases hg:Qo l p.toNat with
  |none=>exact .inl rfl
  |some nq=>
   obtain⟨n,q⟩:=nq
   have:=Un hb hg
   exact .inr ⟨n,q,by omega,rfl,rfl,this.2.1,this.2.2.2⟩
def Nya (l:List Int) (hb:As l) (hl:l.length≤1000000000000) (p:Int) (hp:p≤1000000000000):Tot (λ k=>Kw k l p) (λ r=>r=Dtb l p):=by
 unfold Kw
 refine Hib (U0a l hb hl p hp) ?_
 unfold Dtb Nxa
 rcases Eea l hb p with h|⟨n,q,h0,hg,h,hn,hq⟩
 ·rw[h]
  refine Hab rfl (H7b ?_)
  unfold Lda at h
  split
  ·rfl
  ·rename_i h0
   rw[if_neg h0]at h
   cases hg:Qo l p.toNat with
   |none=>rfl
   |some nq=>rw[hg]at h;simp at h
 ·rw[h]
  refine H9b rfl ?_
  rw[if_neg (by omega),hg]
  simp only
  rw[w64 (n:=(l.length:Int)-(q:Int)) (by omega) (by omega),w64 (n:=(q:Int)+(n:Int)) (by omega) (by omega)]
  refine Heb (λ hgt=>?_) (λ hgt=>?_)
  ·rw[if_neg (by omega)]
   exact H7b rfl
  ·rw[if_pos (by omega)]
   refine Hbb (by omega) (Hbb (by omega) (Hbb (by omega) (H7b ?_)))
   rw[show toNat ((q:Int)+(n:Int))=q+n by omega,Vb,Idb,show q+n-q=n by omega]
   simp only[Wb,true_and,and_true]
   push_cast
   rfl
def Fxa (l:List Int) (hb:As l) (hl:l.length≤1000000000000) (p:Int):Tot (λ k=>Kj k l p) (λ r=>r=Dtb l p):=by
 unfold Kj
 refine Hib (Xz l hb hl p) ?_
 unfold Dtb Nxa
 rcases Eea l hb p with h|⟨n,q,h0,hg,h,hn,hq⟩
 ·rw[h]
  refine Hab rfl (H7b ?_)
  unfold Lda at h
  split
  ·rfl
  ·rename_i h0
   rw[if_neg h0]at h
   cases hg:Qo l p.toNat with
   |none=>rfl
   |some nq=>rw[hg]at h;simp at h
 ·rw[h]
  refine H9b rfl ?_
  rw[if_neg (by omega),hg]
  simp only
  rw[w64 (n:=(l.length:Int)-(q:Int)) (by omega) (by omega),w64 (n:=(q:Int)+(n:Int)) (by omega) (by omega)]
  refine Heb (λ hgt=>?_) (λ hgt=>?_)
  ·rw[if_neg (by omega)]
   exact H7b rfl
  ·rw[if_pos (by omega)]
   refine Hbb (by omega) (Hbb (by omega) (Hbb (by omega) (H7b ?_)))
   rw[show toNat ((q:Int)+(n:Int))=q+n by omega,Vb,Idb,show q+n-q=n by omega]
   simp only[Wb,true_and,and_true]
   push_cast
   rfl
def Lea {l:List Int} {p q:Nat} {s:ByteArray} (hb:As l) (h:Nxa l p=some (s,q)):l.drop p=txt s++l.drop q∧s.size≤1000000000∧p<q∧q≤l.length:=by
 unfold Nxa at h
 split at h
 ·rename_i n q0 hg
  obtain⟨h1,h2,h3,h4⟩:=Un hb hg
  split at h
  ·rename_i hle
   simp only[Vh,Wb]at h
   obtain⟨rfl,rfl⟩:=h
   have hlen:((l.drop q0).take n).length=n:=by rw[Vs,Wd];omega
   have hbb:As ((l.drop q0).take n):=λ x hx=>hb x (Zn (I5b hx))
   refine⟨?_,by rw[Oz,hlen];exact h2,by omega,by omega⟩
   unfold txt
   rw[Oz,hlen,Pj hbb,h1,show C1 (n:Int)=n by unfold C1;omega,Vo]
   congr 1
   rw[← Yn,Wo]
  ·cases h
 ·cases h
def Y4a (pre:List Int) (s:ByteArray) (rest:List Int) (hs:s.size≤1000000000):Nxa (pre++(txt s++rest)) pre.length=some (s,pre.length+(txt s).length):=by
 unfold Nxa txt
 have hc:C1 (s.size:Int)=s.size:=by unfold C1;omega
 rw[hc,Vo,Nua pre s.size _ hs]
 simp only
 rw[if_pos (by simp only[Vd,Rp];omega)]
 have e:(pre++(Ql s.size++(bytesOf s++rest))).drop (pre.length+(Ql s.size).length)=bytesOf s++rest:=by
  rw[← Vo,← Vd,Zi]
 rw[e,Jlb (Rp s),Ww]
 simp only[Vd,Rp,Vh,Wb,true_and]
 omega

def Dda (b:Bool):Int:=bif b then 1 else 0
def Cgb (b:Bool):P5 b=some (Dda b):=by cases b<;>rfl
def Nza (b:Bool):Mc b=some (Dda b):=by cases b<;>rfl
def R6a (s:Stp):List Int:=Ql (C1 s.1)++(Ql (C1 s.2.1)++Ql (C1 s.2.2))
def Fya (s:Stp):(R6a s).length≤15:=by
 unfold R6a
 have h1:=(Np (C1 s.1)).1
 have h2:=(Np (C1 s.2.1)).1
 have h3:=(Np (C1 s.2.2)).1
 simp only[Vd]
 omega
def Q6a (out:List Int) (s:Stp) (b:Bool) (hl:out.length≤999999999900):Tot (λ k=>Jn k out s b) (λ r=>r=out++(R6a s++Ql (C1 (Dda b)))):=by
 have h1:=(Np (C1 s.1)).1
 have h2:=(Np (C1 s.2.1)).1
 have h3:=(Np (C1 s.2.2)).1
 unfold Jn R6a
 refine Hib (C6a out s.1 (by omega)) ?_
 refine Hib (C6a _ s.2.1 (by simp only[Vd];omega)) ?_
 refine Hib (C6a _ s.2.2 (by simp only[Vd];omega)) ?_
 refine Hib (Hjb (Q:=λ y=>y=Dda b) (Cgb b) rfl) ?_
 refine Hib (C6a _ (Dda b) (by simp only[Vd];omega)) ?_
 exact H7b (by simp only[Vo])
def Efa (out:List Int) (s:Stp) (hl:out.length≤999999999900):Tot (λ k=>Kl k out s) (λ r=>r=out++R6a s):=by
 have h1:=(Np (C1 s.1)).1
 have h2:=(Np (C1 s.2.1)).1
 unfold Kl R6a
 refine Hib (Y0 out s.1 (by omega)) ?_
 refine Hib (Y0 _ s.2.1 (by simp only[Vd];omega)) ?_
 refine Hib (Y0 _ s.2.2 (by simp only[Vd];omega)) ?_
 exact H7b (by simp only[Vo])
def C7a {s:ByteArray} (h:Az s=true):1≤s.size∧s.size≤20:=by
 unfold Az at h
 rw[Va,Cc]at h
 omega
def Ega {r:Row} (h:Om r=true):Az r.1=true:=by
 unfold Om at h
 rw[Va]at h
 exact h.1
def U1a (s:ByteArray):(txt s).length≤5+s.size:=by
 have h1:=(Np (C1 (s.size:Int))).1
 unfold txt
 simp only[Vd,Rp]
 omega

def Ara (l:List Int) (p:Nat):Lda l (p:Int)=match Qo l p with
 |some (n,q)=>((n:Int),(q:Int),true)
 |none=>(0,0,false):=by
 unfold Lda
 rw[if_neg (by omega),Vb]
 all_goals cases Qo l p<;>rfl
def O0a (l:List Int) (p:Nat):Dtb l (p:Int)=match Nxa l p with
 |some (s,q)=>(s,(q:Int),true)
 |none=>((⟨#[]⟩:ByteArray),0,false):=by
 unfold Dtb
 rw[if_neg (by omega),Vb]
 all_goals cases Nxa l p<;>rfl
def Dea (l:List Int) (hb:As l) (hl:l.length≤1000000000000) (p:Nat) (hp:p≤l.length) (bad:Bool):
  Tot (λ k=>E5 k (l,(p:Int),bad)) (λ r=>(bad=false∧∃ n q:Nat,Qo l p=some (n,q)∧q≤l.length∧r=((n:Int),l,(q:Int),false))∨((bad=true∨Qo l p=none)∧r=(0,l,(p:Int),true))):=by
 unfold E5
 refine Hib (U0a l hb hl (p:Int) (by omega)) ?_
 refine Hdb (λ h=>H7b (.inr ⟨.inl h,rfl⟩)) (λ h=>?_)
 rw[Ara]
 cases hg:Qo l p with
 |none=>exact Hab rfl (H7b (.inr ⟨.inr rfl,rfl⟩))
 |some nq=>
  obtain⟨n,q⟩:=nq
  simp only at h
  subst h
  exact H9b rfl (H7b (.inl ⟨rfl,n,q,rfl,(Un hb hg).2.2.2,rfl⟩))
def Gbb (l:List Int) (hb:As l) (hl:l.length≤1000000000000) (p:Nat) (hp:p≤l.length):
  Tot (λ k=>Ds k (l,(p:Int),false)) (λ r=>(∃ (s:ByteArray) (q:Nat),Nxa l p=some (s,q)∧q≤l.length∧r=(s,l,(q:Int),false))∨(Nxa l p=none∧r=((⟨#[]⟩:ByteArray),l,(p:Int),true))):=by
 unfold Ds
 refine Hib (Nya l hb hl (p:Int) (by omega)) ?_
 refine H9b rfl ?_
 rw[O0a]
 cases hg:Nxa l p with
 |none=>exact Hab rfl (H7b (.inr ⟨rfl,rfl⟩))
 |some nq=>
  obtain⟨n,q⟩:=nq
  exact H9b rfl (H7b (.inl ⟨n,q,rfl,(Lea hb hg).2.2.2,rfl⟩))
def Sd (l:List Int) (p:Nat):Option ((Stp×Bool)×Nat):=
 (Qo l p).bind λ b=>(Qo l b.2).bind λ c=>(Qo l c.2).bind λ d=>(Qo l d.2).bind λ e=>bif decide (1<e.1) then none else
  some ((((b.1:Int),(c.1:Int),(d.1:Int)),(e.1:Int)==1),e.2)
def Gcb (l:List Int) (hb:As l) (hl:l.length≤1000000000000) (p:Nat) (hp:p≤l.length) (bad:Bool):
  Tot (λ k=>F3 k (l,(p:Int),bad)) (λ r=>(bad=false∧∃ (x:Stp×Bool) (q:Nat),Sd l p=some (x,q)∧q≤l.length∧r=(x.1,x.2,l,(q:Int),false))∨((bad=true∨Sd l p=none)∧∃ s b,∃ q:Nat,q≤l.length∧r=(s,b,l,(q:Int),true))):=by
 unfold F3
 have nx:∀ {o:Option (Nat×Nat)} {f:Nat×Nat→Option ((Stp×Bool)×Nat)},o=none→o.bind f=none:=by
  intro o f h;rw[h];rfl
 refine H8b (Dea l hb hl p hp bad) ?_
 rintro r (⟨h0,n1,p1,h1,l1,rfl⟩|⟨h1,rfl⟩)
 ·simp only
  refine H8b (Dea l hb hl p1 l1 false) ?_
  rintro r (⟨_,n2,p2,h2,l2,rfl⟩|⟨h2,rfl⟩)
  ·simp only
   refine H8b (Dea l hb hl p2 l2 false) ?_
   rintro r (⟨_,n3,p3,h3,l3,rfl⟩|⟨h3,rfl⟩)
   ·simp only
    refine H8b (Dea l hb hl p3 l3 false) ?_
    rintro r (⟨_,n4,p4,h4,l4,rfl⟩|⟨h4,rfl⟩)
    ·simp only
     refine H9b rfl (H7b ?_)
     have e:Sd l p=bif decide (1<n4) then none else some ((((n1:Int),(n2:Int),(n3:Int)),(n4:Int)==1),p4):=by
      unfold Sd
      simp only[h1,h2,h3,h4,Vl]
     cases hd:decide (1<n4) with
     |true=>
      rw[hd,cond_true]at e
      refine .inr ⟨.inr e,((n1:Int),(n2:Int),(n3:Int)),((n4:Int)==1),p4,l4,?_⟩
      have:decide ((n4:Int) > 1)=true:=decide_eq_true (by have:=of_decide_eq_true hd;omega)
      rw[this]
     |false=>
      rw[hd,cond_false]at e
      refine .inl ⟨h0,_,p4,e,l4,?_⟩
      have:decide ((n4:Int) > 1)=false:=decide_eq_false (by have:=of_decide_eq_false hd;omega)
      rw[this]
    ·refine Hab rfl (H7b (.inr ⟨.inr ?_,_,_,p3,l3,rfl⟩))
     have h4':=h4.resolve_left (by simp)
     unfold Sd
     simp only[h1,h2,h3,h4',Vl,Hzb]
   ·simp only
    refine H8b (Dea l hb hl p2 l2 true) ?_
    rintro r (⟨hh,_⟩|⟨_,rfl⟩)
    ·cases hh
    ·refine Hab rfl (H7b (.inr ⟨.inr ?_,_,_,p2,l2,rfl⟩))
     have h3':=h3.resolve_left (by simp)
     unfold Sd
     simp only[h1,h2,h3',Vl,Hzb]
  ·simp only
   refine H8b (Dea l hb hl p1 l1 true) ?_
   rintro r (⟨hh,_⟩|⟨_,rfl⟩)
   ·cases hh
   ·refine H8b (Dea l hb hl p1 l1 true) ?_
    rintro r (⟨hh,_⟩|⟨_,rfl⟩)
    ·cases hh
    ·refine Hab rfl (H7b (.inr ⟨.inr ?_,_,_,p1,l1,rfl⟩))
     have h2':=h2.resolve_left (by simp)
     unfold Sd
     simp only[h1,h2',Vl,Hzb]
 ·simp only
  refine H8b (Dea l hb hl p hp true) ?_
  rintro r (⟨hh,_⟩|⟨_,rfl⟩)
  ·cases hh
  ·refine H8b (Dea l hb hl p hp true) ?_
   rintro r (⟨hh,_⟩|⟨_,rfl⟩)
   ·cases hh
   ·refine H8b (Dea l hb hl p hp true) ?_
    rintro r (⟨hh,_⟩|⟨_,rfl⟩)
    ·cases hh
    ·refine Hab rfl (H7b (.inr ⟨?_,_,_,p,hp,rfl⟩))
     rcases h1 with h1|h1
     ·exact .inl h1
     ·refine .inr ?_
      unfold Sd
      rw[h1]
      rfl
def Chb (l:List Int) (hb:As l) (hl:l.length≤1000000000000) (p:Int):
  Tot (λ k=>Gt k l p) (λ r=>(∃ n1 p1 n2 p2 n3 p3,0≤p∧Qo l p.toNat=some (n1,p1)∧Qo l p1=some (n2,p2)∧Qo l p2=some (n3,p3)∧r=(((n1:Int),(n2:Int),(n3:Int)),(p3:Int),true))∨(((Qo l p.toNat).bind λ a=>(Qo l a.2).bind λ b=>Qo l b.2)=none∨p<0)∧r.2.2=false):=by
 unfold Gt
 refine Hib (Xz l hb hl p) ?_
 refine Hib (Xz l hb hl _) ?_
 refine Hib (Xz l hb hl _) ?_
 by_cases hp:p<0
 ·have:(Lda l p).2.2=false:=by unfold Lda;rw[if_pos hp]
  exact H9b this (H7b (.inr ⟨.inr hp,rfl⟩))
 ·have e1:Lda l p=match Qo l p.toNat with|some (n,q)=>((n:Int),(q:Int),true)|none=>(0,0,false):=by
   unfold Lda;rw[if_neg hp];all_goals cases Qo l p.toNat<;>rfl
  cases h1:Qo l p.toNat with
  |none=>
   rw[h1]at e1
   simp only[e1]
   exact H9b rfl (H7b (.inr ⟨.inl rfl,rfl⟩))
  |some a=>
   obtain⟨n1,p1⟩:=a
   rw[h1]at e1
   simp only[e1,Ara,Vl]
   refine Hab rfl ?_
   cases h2:Qo l p1 with
   |none=>exact H9b rfl (H7b (.inr ⟨.inl rfl,rfl⟩))
   |some b=>
    obtain⟨n2,p2⟩:=b
    refine Hab rfl ?_
    simp only[Ara,Vl]
    cases h3:Qo l p2 with
    |none=>exact H7b (.inr ⟨.inl rfl,rfl⟩)
    |some c=>
     obtain⟨n3,p3⟩:=c
     exact H7b (.inl ⟨n1,p1,n2,p2,n3,p3,by omega,rfl,h2,h3,rfl⟩)
def U2a {l:List Int} {p:Nat} (h:((Qo l p).bind λ a=>(Qo l a.2).bind λ b=>Qo l b.2)=none):Sd l p=none:=by
 unfold Sd
 cases h1:Qo l p with
 |none=>rfl
 |some a=>
  rw[h1]at h
  simp only[Vl]at h ⊢
  cases h2:Qo l a.2 with
  |none=>rfl
  |some b=>
   rw[h2]at h
   simp only[Vl]at h ⊢
   rw[h]
   rfl

def Nf:∀ s∈Po,Lo s∧Az s=true:=by
 intro s hs
 simp only[Po,Vm,Zk,or_false]at hs
 rcases hs with rfl|rfl|rfl|rfl|rfl|rfl<;>exact⟨by unfold Lo;decide,by decide⟩
def Y5a {x:Row} (h:Cfb x):Om x=true:=by
 obtain⟨h1,⟨t0,t1,s0,s1,n0,n1⟩,h3,h4,h5⟩:=h
 unfold Om Fj
 rw[(Nf x.1 h1).2,Cc.2 ⟨t0,t1⟩,Cc.2 ⟨s0,s1⟩,Cc.2 ⟨n0,n1⟩,Cc.2 ⟨h3,by omega⟩]
 cases hd:x.2.2.1 with
 |false=>rfl
 |true=>rw[h5 hd];rfl
def Iga (c:Cur) (hc:E9 c):Tot (λ k=>Lv k c) (λ r=>E9 r.2∧r.1.length≤6∧Ro r.1):=by
 unfold Lv
 refine H8b (C2a c hc) (λ r hr=>?_)
 obtain⟨k1,hr1,hl⟩:=hr
 have hsh:Ro r.1:=λ q hq=>(Nf q.1 (hr1.2 q hq).1).1
 obtain⟨x,c',e,_,_,_,k2⟩:=Ay r.2 k1 8 (by decide)
 refine Hib (Hjb (Q:=λ r=>r=(x,c')) e rfl) ?_
 refine Hdb (λ _=>?_) (λ _=>?_)
 ·refine H8b (E7a c' k2) (λ z hz=>?_)
  refine Hfb (by simp only[Vc,Vg];omega) (H7b ⟨hz.2,?_,?_⟩)
  ·show (r.1++[z.1]).length≤6
   simp only[Vd,Vc,Vg]
   omega
  ·intro q hq
   rcases Vp.1 hq with hq|hq
   ·exact hsh q hq
   ·simp only[Vu]at hq
    subst hq
    exact(Nf _ hz.1.1).1
 ·refine Hdb (λ _=>?_) (λ _=>H7b ⟨k2,by show r.1.length≤6;omega,hsh⟩)
  refine Heb (λ h=>?_) (λ h=>H7b ⟨k2,by show r.1.length≤6;omega,hsh⟩)
  obtain⟨v,c3,e3,_,k3⟩:=Mb c' k2 [(-1),201,200] (by decide) (by decide)
  refine Hib (Hjb (Q:=λ r=>r=(v,c3)) e3 rfl) ?_
  refine Hbb (by omega) (H7b ⟨k3,?_,?_⟩)
  ·show (List.set r.1 _ _).length≤6
   rw[Vy]
   omega
  ·intro q hq
   rcases Xs hq with hq|rfl
   ·exact hsh q hq
   ·have hpos:toNat 0<r.1.length:=by show 0<_;omega
    have h1:Lo (r.1.getD (toNat 0) Nd).1:=hsh _ (A4 (d:=Nd) hpos)
    exact h1

abbrev Nmd:=ByteArray×List Int
abbrev Dsk:=List Nmd×List Nmd
def Dd:Nmd:=((⟨#[]⟩:ByteArray),[])
def Fza (l:List Nmd):Prop:=l.length≤1000000000000∧∀ x∈l,x.2.length≤1000000000000
def Y6a (d:Dsk):Prop:=Fza d.1∧Fza d.2
def Nq (l:List Int) (h:l.length≤1000000000000):Al l=some l:=by
 unfold Al
 rw[show Nat.ble ((length ([]:List Int)+length l)*1) 140737488355328=true from Zj (by simp only[Vg];omega)]
 rfl
def A9a (l:List Nmd) (hf:Fza l):∀ (n i:Nat) (acc:List Nmd),l.length-i=n→i≤l.length→acc.length≤i→
  Tot (λ k=>Dp k acc l (l.length:Int) (i:Int)) (λ r=>r=acc++l.drop i):=by
 obtain⟨h1,h2⟩:=hf
 intro n
 induction n with
 |zero=>
  intro i acc hd hi ha
  refine Tot.succ ?_
  simp only[Dp]
  refine Hcb (by omega) (H7b ?_)
  rw[Wj (by omega),Wm]
 |succ n ih=>
  intro i acc hd hi ha
  have hlt:i<l.length:=by omega
  refine Tot.succ ?_
  simp only[Dp]
  refine Hbb (by omega) (Hbb (by omega) (Hbb (by omega) ?_))
  rw[show toNat (i:Int)=i from Vb i,w64 (n:=(i:Int)+1) (by omega) (by omega),Ah (d:=Dd) hlt]
  have e0:l.getD i ((⟨#[]⟩:ByteArray),([]:List Int))=l.getD i Dd:=rfl
  rw[e0]
  have hb:=h2 _ (A4 (d:=Dd) hlt)
  refine Hib (Hjb (Q:=λ r=>r=(l.getD i Dd).2) (Nq _ hb) rfl) ?_
  refine Hfb (by simp only[Vc,Vg];omega) ?_
  refine(ih (i+1) (acc++[l.getD i Dd]) (by omega) (by omega) (by simp only[Vd,Vc,Vg];omega)).mono ?_
  rintro r rfl
  rw[Vo]
  rfl
def Pk (l:List Nmd) (hf:Fza l):Tot (λ k=>Ba k l) (λ r=>r=l):=by
 unfold Ba
 refine H8b (A9a l hf _ 0 [] rfl (Vq _) (Vq _)) ?_
 intro r hr
 rw[Wp,Vx]at hr
 exact H7b hr
def J7 (d:Dsk) (hf:Y6a d):Tot (λ k=>A5 k d) (λ r=>r=d):=by
 unfold A5
 refine Hib (Pk d.1 hf.1) ?_
 refine Hib (Pk d.2 hf.2) ?_
 exact H7b rfl
def fnd (l:List Nmd) (s:ByteArray):Option Nat:=l.findIdx? (λ x=>teq x.1 s)
def G0a (l:List Nmd) (s:ByteArray):Int:=match fnd l s with
 |some i=>(i:Int)
 |none => -1
def U3a (l:List Nmd) (s:ByteArray) (hf:l.length≤1000000000000):∀ (n i:Nat),l.length-i=n→i≤l.length→
  Tot (λ k=>Mm k s l (l.length:Int) (i:Int)) (λ r=>r=match fnd (l.drop i) s with|some j => .inl ((i+j:Nat):Int)|none => .inr ()):=by
 intro n
 induction n with
 |zero=>
  intro i hd hi
  refine Tot.succ ?_
  simp only[Mm]
  refine Hcb (by omega) (H7b ?_)
  rw[Wj (by omega)]
  rfl
 |succ n ih=>
  intro i hd hi
  have hlt:i<l.length:=by omega
  refine Tot.succ ?_
  simp only[Mm]
  refine Hbb (by omega) (Hbb (by omega) (Hbb (by omega) ?_))
  rw[show toNat (i:Int)=i from Vb i,w64 (n:=(i:Int)+1) (by omega) (by omega),Ah (d:=Dd) hlt]
  have e0:l.getD i ((⟨#[]⟩:ByteArray),([]:List Int))=l.getD i Dd:=rfl
  rw[e0]
  have e1:fnd (l.getD i Dd::l.drop (i+1)) s=if teq (l.getD i Dd).1 s then some 0 else (fnd (l.drop (i+1)) s).map (· + 1):=by
   unfold fnd
   rw[Ixb]
  rw[e1]
  refine Hdb (λ h=>?_) (λ h=>?_)
  ·have h':teq (l.getD i Dd).1 s=true:=h
   rw[if_pos h']
   exact H7b rfl
  ·have h':¬ (teq (l.getD i Dd).1 s=true):=by
    have:teq (l.getD i Dd).1 s=false:=h
    rw[this];simp
   rw[if_neg h']
   refine(ih (i+1) (by omega) (by omega)).mono ?_
   rintro r rfl
   cases fnd (l.drop (i+1)) s with
   |none=>rfl
   |some j=>
    show Sum.inl _=Sum.inl _
    rw[show i+1+j=i+(j+1) by omega]
def C8a (l:List Nmd) (s:ByteArray) (hf:l.length≤1000000000000):Tot (λ k=>J0 k l s) (λ r=>r=G0a l s):=by
 unfold J0 G0a
 refine Hib (U3a l s hf _ 0 rfl (Vq _)) ?_
 rw[Wp]
 cases fnd l s with
 |none=>exact H7b rfl
 |some j=>
  refine H7b ?_
  rw[Wk]
def Oe {l:List Nmd} {s:ByteArray} {i:Nat} (h:fnd l s=some i):i<l.length∧(l.getD i Dd).1=s:=by
 unfold fnd at h
 rw[Iyb]at h
 obtain⟨h1,h2,_⟩:=h
 refine⟨h1,?_⟩
 rw[Ve,Vk h1]
 exact Lj.1 h2
def del (l:List Nmd) (s:ByteArray):List Nmd:=match fnd l s with
 |some i=>l.take i++l.drop (i+1)
 |none=>l
def Wx (l:List Nmd) (s:ByteArray) (hf:l.length≤1000000000000):Tot (λ k=>Ih k l s) (λ r=>r=del l s):=by
 unfold Ih del
 refine Hib (C8a l s hf) ?_
 unfold G0a
 cases h:fnd l s with
 |none=>exact Hbb (by decide) (H7b rfl)
 |some i=>
  have hl:=(Oe h).1
  dsimp only
  refine Hcb (by omega) (Hbb (by omega) (Hbb (by omega) ?_))
  rw[w64 (n:=(i:Int)+1) (by omega) (by omega),show toNat (i:Int)=i from Vb i,show toNat ((i:Int)+1)=i+1 by omega]
  refine Hfb (by simp only[Vg,Vs];omega) ?_
  refine Hbb (by omega) (Hbb (by omega) (Hfb (by simp only[Vd,Vg,Vs,Wd];omega) (H7b rfl)))

end Go.Proofs.YtmhhjceoinoekaaGreat.Vf
